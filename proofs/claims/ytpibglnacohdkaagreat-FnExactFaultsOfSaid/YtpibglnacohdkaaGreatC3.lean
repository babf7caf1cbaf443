/- The walk of what the law reaches: contracts of functions. -/
import Derived.Test.YtpibglnacohdkaaGreatC2
set_option linter.unusedVariables false
set_option linter.unusedSimpArgs false
set_option maxRecDepth 20000
set_option maxHeartbeats 400000
namespace Go.Proofs.YtpibglnacohdkaaGreat
open Go
open Flat (enc)
noncomputable section
theorem Je (w0 : World) (p0 : (Ref Gengine)) (v0_1 : Value) (hv0_1 : Ro w0 p0 [v0_1]) (p1 : (Vector UInt8 32)) (p2 : (Vector UInt8 16)) (r : (Vector UInt8 32)) (hF : Y6 p0 p1 p2 = some r) :
  Calls Tryz.prog 134 [v0_1,(Value.agg (enc p1).toArray),(Value.agg (enc p2).toArray)].toArray w0 (Rt w0 (Value.agg (enc r).toArray)):=by
 refine ce Tryz.func134 ?_
 intro a hE
 have hM:=M.start w0
 unfold Y6 at hF
 refine Zb (ZT (cs:=enc p1) hE hM Za ld rfl rfl fun b1 w a hM hE=>ZT (cs:=enc p2) hE hM Za ld rfl rfl fun b3 w a hM hE=>Zz hE hM ZR fun b5 w a hM hE=>Ze (wp_seq ?_))
 obtain ⟨l8,e9,hF⟩:=bind_some hF
 have hb10:=Qt e9 -- ^
 obtain ⟨x11,e12,hF⟩:=bind_some hF
 obtain ⟨l13,e14,hF⟩:=bind_some hF
 have hb15:=Qt e14 -- ^
 obtain ⟨x16,e17,hF⟩:=bind_some hF
 refine Xs (its:=[raw b5 (enc (Vector.replicate 32 (0 : UInt8))),raw b3 (enc p2),raw b1 (enc p1)]) (mk:=([mkO 6 (fun v=>TX v (enc (Vector.replicate 16 (0 : UInt8)))),mkO 7 (fun v=>TX v (enc (Vector.replicate 16 (0 : UInt8))))] : Mk)) [11,12,13,14,15,16,7,8] Yy rfl rfl (by decide) rfl hE (fun u=>M.qE (M.qE (M.q0 hM.drew u) emO) emO) (qsP (fun z=>Vz (N:=32) z.E Za ld rfl rfl rfl rfl rfl Tryz.underlying35 ty5 hb10 (kr0 rfl)) (qsP (v:=(ptr (sb (Ya (.slice (some ⟨b1,0,none⟩) 32 32) ((0 : Int)).toNat ((16 : Int)).toNat 1)) (so (Ya (.slice (some ⟨b1,0,none⟩) 32 32) ((0 : Int)).toNat ((16 : Int)).toNat 1)))) ?_ (qsP (v:=(Value.agg (enc x11).toArray)) ?_ (qsP (fun z=>Vz (N:=32) z.E Za ld rfl rfl rfl rfl rfl Tryz.underlying35 ty5 hb15 (kr0 rfl)) (qsP (v:=(ptr (sb (Ya (.slice (some ⟨b1,0,none⟩) 32 32) ((16 : Int)).toNat ((32 : Int)).toNat 1)) (so (Ya (.slice (some ⟨b1,0,none⟩) 32 32) ((16 : Int)).toNat ((32 : Int)).toNat 1)))) ?_ (qsP (v:=(Value.agg (enc x16).toArray)) ?_ (qsM (pr:=fun v=>True) ?_ (qsM (pr:=fun v=>True) ?_ qs0)))))))) ?_
 ·intro a w ux7 D z
  have hE:=z.E
  have hM:=z.M
  exact HB hE Za ld rfl Tryz.underlying68 (Xb (At.sat hM.rawAt2 (by simp) (by decide)) e9) (Ql e12).1 (by decide) fun a hE=>⟨Kept.refl _ _,_,rfl,hE⟩
 ·intro a w ux7 D z
  have hE:=z.E
  have hM:=z.M
  exact Zr hE rfl ZF rfl (zf (Xb (At.sat hM.rawAt2 (by simp) (by decide)) e9) e12 (by decide)) (Flat.len _) fun a hE=>⟨Kept.refl _ _,_,rfl,hE⟩
 ·intro a w ux7 D z
  have hE:=z.E
  have hM:=z.M
  exact HB hE Za ld rfl Tryz.underlying68 (Xb (At.sat hM.rawAt2 (by simp) (by decide)) e14) (Ql e17).1 (by decide) fun a hE=>⟨Kept.refl _ _,_,rfl,hE⟩
 ·intro a w ux7 D z
  have hE:=z.E
  have hM:=z.M
  exact Zr hE rfl ZF rfl (zf (Xb (At.sat hM.rawAt2 (by simp) (by decide)) e14) e17 (by decide)) (Flat.len _) fun a hE=>⟨Kept.refl _ _,_,rfl,hE⟩
 ·intro a w ux7 D z
  have hE:=z.E
  have hD : D 6 = false:=z.F
  have hM:=z.M
  refine Zz hE hM ZF ?_; intro b18 w a hM hE
  have hM:=hM.pack1 (it:=TX _ (enc (Vector.replicate 16 (0 : UInt8)))) (fun w w' fp ⟨b',e,k⟩ hb=>⟨b',e,Xf w w' fp k hb⟩) (fun fp k=>⟨_,rfl,k⟩)
  exact ⟨_,_,rfl,hE,M.qFill (mk1:=[]) (mk2:=[_]) (f:=fun v=>TX v (enc (Vector.replicate 16 (0 : UInt8)))) hM rfl hD,trivial⟩
 ·intro a w ux7 D z
  have hE:=z.E
  have hD : D 7 = false:=z.F
  have hM:=z.M
  refine Zz hE hM ZF ?_; intro b20 w a hM hE
  have hM:=hM.pack1 (it:=TX _ (enc (Vector.replicate 16 (0 : UInt8)))) (fun w w' fp ⟨b',e,k⟩ hb=>⟨b',e,Xf w w' fp k hb⟩) (fun fp k=>⟨_,rfl,k⟩)
  exact ⟨_,_,rfl,hE,M.qFill (mk1:=[_]) (mk2:=[]) (f:=fun v=>TX v (enc (Vector.replicate 16 (0 : UInt8)))) hM rfl hD,trivial⟩
 ·intro a w ux7 D hE hM hG hall
  have d6:=hall 6 (by decide)
  have d7:=hall 7 (by decide)
  have hM:=(hM.sure (pre:=[_,_,_]) d6).pull
  obtain ⟨_,⟨b22,f23,_⟩,_⟩:=hM.head
  have hM:=((hM.pack1 Xf (it:=raw b22 (enc (Vector.replicate 16 (0 : UInt8)))) (fun fp ⟨b2,e2,k2⟩=>by rw [f23] at e2; simp [ptr] at e2; subst e2; exact k2)).sure (pre:=[_,_,_,_]) d7).pull
  obtain ⟨_,⟨b24,f25,_⟩,_⟩:=hM.head
  have hM:=hM.pack1 Xf (it:=raw b24 (enc (Vector.replicate 16 (0 : UInt8)))) (fun fp ⟨b2,e2,k2⟩=>by rw [f25] at e2; simp [ptr] at e2; subst e2; exact k2)
  have hE:=hE.setq (t:=7) rfl f23
  have hE:=hE.setq (t:=8) rfl f25
  have hM:=hM.pull1
  refine Zn (seg:=enc x11) (cs':=enc x11) hE hM Za rfl rfl rfl ZF (Flat.len _) (zle flq) (Flat.cell _) (Zk flq) ?_; intro w a hM hE
  have hM:=hM.pull1
  refine Zn (seg:=enc x16) (cs':=enc x16) hE hM Za rfl rfl rfl ZF (Flat.len _) (zle flq) (Flat.cell _) (Zk flq) fun w a hM hE=>Zf (Zu (Zb (Zr hE rfl ZF rfl hM.rawAt1 (Flat.len _) fun a hE=>Zr hE rfl ZF rfl hM.rawAt3 (Flat.len _) ?_))); intro a hE
  obtain ⟨r26,e27,hF⟩:=bind_some hF
  refine Zx hE rfl z6 (WA _ x11 p2 r26 e27) ?_
  rintro v w a ⟨rfl,hK⟩ hE
  have hM:=hM.keep hK
  refine Zz hE hM ZF fun b28 w a hM hE=>Zn (seg:=enc r26) (cs':=enc r26) hE hM Za rfl rfl rfl ZF (Flat.len _) (zle flq) (Flat.cell _) (Zk flq) fun w a hM hE=>Ze ?_
  obtain ⟨j30,hl31,hF32⟩:=bind_some hF
  refine ZI (fun a w=>Env 41 a [(0,v0_1),(5,(ptr b3 0)),(6,(ptr b5 0)),(7,(ptr b22 0)),(8,(ptr b24 0))] ∧ M (Old w0) w0 w [raw b24 (enc x16),raw b22 (enc j30),raw b5 (enc (Vector.replicate 32 (0 : UInt8))),raw b3 (enc p2)]) ?_ ?_
  ·skip
   obtain ⟨r34,e35,hl31⟩:=bind_some hl31
   obtain ⟨r36,e37,hl31⟩:=bind_some hl31
   refine ZX [20,21,22,23,24,25] Yy rfl rfl (by decide) rfl hE hM (qsP (fun z=>Zp z.E Za ld rfl (kr0 rfl)) (qsP (fun z=>Z1 z.E Za ld rfl ZF rfl (z.M.rawAt1) (Flat.len _) (kr0 rfl)) (qsP (fun z=>Z1 z.E Za ld rfl ZF rfl (z.M.rawAt0) (Flat.len _) (kr0 rfl)) (qsP (fun z=>ZV z.E Za ld rfl (cbm Tryz.func183) (Qe _ p0 v0_1 (z.M.rdo hv0_1) x16 r26 r34 e35) (kc rfl)) (qsP (fun z=>Z1 z.E Za ld rfl ZF rfl (z.M.rawAt0) (Flat.len _) (kr0 rfl)) (qsP (fun z=>ZV z.E Za ld rfl z6 (WA _ r34 r26 r36 e37) (kc rfl)) qs0)))))) ?_
   ·intro a w u hE hM
    have hM:=hM.pull2
    refine Zn (seg:=enc r36) (cs':=enc r36) hE hM Za rfl rfl rfl ZF (Flat.len _) (zle flq) (Flat.cell _) (Zk flq) fun w a hM hE=>Zf ?_
    obtain rfl:=Option.some.inj hl31
    refine Zh ?_
    have hM:=M.fst (l:=[_,_,_,_]) hM.pull4.pull4.pull2.pull4
    exact ⟨hE.sub ⟨rfl,rfl,rfl,rfl,rfl,trivial⟩,hM⟩
  ·skip
   rintro a w ⟨hE,hM⟩
   refine Zb (Zr hE rfl ZF rfl hM.rawAt0 (Flat.len _) fun a hE=>Zr hE rfl ZF rfl hM.rawAt3 (Flat.len _) ?_); intro a hE
   obtain ⟨r39,e40,hF32⟩:=bind_some hF32
   refine Zx hE rfl z6 (WA _ x16 p2 r39 e40) ?_
   rintro v w a ⟨rfl,hK⟩ hE
   have hM:=hM.keep hK
   refine Zz hE hM ZF fun b41 w a hM hE=>Zn (seg:=enc r39) (cs':=enc r39) hE hM Za rfl rfl rfl ZF (Flat.len _) (zle flq) (Flat.cell _) (Zk flq) fun w a hM hE=>Ze ?_
   obtain ⟨j43,hl44,hF45⟩:=bind_some hF32
   refine ZI (fun a w=>Env 41 a [(6,(ptr b5 0)),(7,(ptr b22 0)),(8,(ptr b24 0))] ∧ M (Old w0) w0 w [raw b24 (enc j43),raw b22 (enc j30),raw b5 (enc (Vector.replicate 32 (0 : UInt8)))]) ?_ ?_
   ·skip
    obtain ⟨r47,e48,hl44⟩:=bind_some hl44
    obtain ⟨r49,e50,hl44⟩:=bind_some hl44
    refine ZX [29,30,31,32,33,34] Yy rfl rfl (by decide) rfl hE hM (qsP (fun z=>Zp z.E Za ld rfl (kr0 rfl)) (qsP (fun z=>Z1 z.E Za ld rfl ZF rfl (z.M.rawAt2) (Flat.len _) (kr0 rfl)) (qsP (fun z=>Z1 z.E Za ld rfl ZF rfl (z.M.rawAt0) (Flat.len _) (kr0 rfl)) (qsP (fun z=>ZV z.E Za ld rfl (cbm Tryz.func183) (Qe _ p0 v0_1 (z.M.rdo hv0_1) j30 r39 r47 e48) (kc rfl)) (qsP (fun z=>Z1 z.E Za ld rfl ZF rfl (z.M.rawAt0) (Flat.len _) (kr0 rfl)) (qsP (fun z=>ZV z.E Za ld rfl z6 (WA _ r47 r39 r49 e50) (kc rfl)) qs0)))))) ?_
    ·intro a w u hE hM
     have hM:=hM.pull1
     refine Zn (seg:=enc r49) (cs':=enc r49) hE hM Za rfl rfl rfl ZF (Flat.len _) (zle flq) (Flat.cell _) (Zk flq) fun w a hM hE=>Zf ?_
     obtain rfl:=Option.some.inj hl44
     refine Zh ?_
     have hM:=M.fst (l:=[_,_,_]) hM.pull3.pull3.pull2
     exact ⟨hE.sub ⟨rfl,rfl,rfl,trivial⟩,hM⟩
   ·skip
    rintro a w ⟨hE,hM⟩
    obtain ⟨j52,hl53,hF54⟩:=bind_some hF45
    refine ZI (fun a w=>Env 41 a [(6,(ptr b5 0))] ∧ M (Old w0) w0 w [raw b5 (enc j52)]) ?_ ?_
    ·skip
     obtain ⟨l56,e57,hl53⟩:=bind_some hl53
     have hb58:=Qt e57 -- ^
     obtain ⟨l59,e60,hl53⟩:=bind_some hl53
     have hb61:=Qt e60 -- ^
     refine ZX [35,36] Yy rfl rfl (by decide) rfl hE hM (qsP (fun z=>Vz (N:=16) z.E Za ld rfl rfl rfl rfl rfl Tryz.underlying68 ty5 hb58 (kr0 rfl)) (qsP (fun z=>Vz (N:=16) z.E Za ld rfl rfl rfl rfl rfl Tryz.underlying68 ty5 hb61 (kr0 rfl)) qs0)) ?_
     ·intro a w u hE hM
      refine Qo (xs:=[.tmp 35,.tmp 36]) (vs:=[(Ya (.slice (some ⟨b22,0,none⟩) 16 16) ((0 : Int)).toNat ((16 : Int)).toNat 1),(Ya (.slice (some ⟨b24,0,none⟩) 16 16) ((0 : Int)).toNat ((16 : Int)).toNat 1)]) hE hM Za ld rfl rfl Tryz.underlying23 UP (by decide) (Vf (Ym (Xb (At.sat hM.rawAt1 (by simp) (by decide)) e57)) (Vf (Ym (Xb (At.sat hM.rawAt0 (by simp) (by decide)) e60)) H4)) ?_; intro b62 w a hM hE
      obtain ⟨r64,e65,hl53⟩:=bind_some hl53
      refine Zx hE rfl Zbz (WY _ ([l56,l59] : (List (List UInt8))) (Value.slice (some ⟨b62,0,none⟩) 2 2) (Bq hM.rawAt0 (hM.rawLt (pre:=[])) ⟨(Xb (At.sat hM.rawAt2 (by simp) (by decide)) e57),(Xb (At.sat hM.rawAt1 (by simp) (by decide)) e60),trivial⟩ rfl) r64 e65) ?_
      rintro u66 w a ⟨_,rfl,hFr,hK⟩ hE
      have hM:=hM.add hK hFr
      obtain ⟨x67,e68,hl53⟩:=bind_some hl53
      refine HB hE Za ld rfl Tryz.underlying35 (hM.sl (pre:=[]) noB) (Ql e68).1 (by decide) fun a hE=>Zr hE rfl ZR rfl (zf (hM.sl (pre:=[]) noB) e68 (by decide)) (Flat.len _) ?_; intro a hE
      have hM:=hM.pull4
      refine Zn (seg:=enc x67) (cs':=enc x67) hE hM Za rfl rfl rfl ZR (Flat.len _) (zle flq) (Flat.cell _) (Zk flq) fun w a hM hE=>Zf ?_
      obtain rfl:=Option.some.inj hl53
      refine Zh ?_
      have hM:=M.fst (l:=[_]) hM
      exact ⟨hE.sub ⟨rfl,trivial⟩,hM⟩
    ·skip
     rintro a w ⟨hE,hM⟩
     obtain rfl:=Option.some.inj hF54
     have hq70 : Yt Tryz.prog _ _ (.cell 6 35) _:=ZQ hE rfl ZR rfl hM.rawAt0 (Flat.len _) rfl
     exact wp_ret (ZN hE rfl hq70 ⟨_,rfl,rfl,hM.kept⟩)
def YS (p0 : (Ref Gengine)) (r13 : (List (Vector UInt8 16))) (s19 : (Vector UInt8 32) × Int) : Option (Fl ((Vector UInt8 32) × Int) (Vector UInt8 32)) :=
 if (decide (s19.2 < (r13.length : Int))) = true then ((idx r13 s19.2).bind fun x24=>(Y6 p0 s19.1 x24).bind fun r29=>some (Fl.nx (r29,wr (s19.2 + 1)))) else (some (Fl.ex s19.1))
def Yq (p0 : (Ref Gengine)) (p1 : (List (List UInt8))) : Option ((Vector UInt8 32)) :=
 (XS).bind fun r3=>(Z3 p1).bind fun r7=>(Vq r7).bind fun r10=>(UE r10).bind fun r13=>(ZB (YS p0 r13) (r3,0)).bind fun j16=>some j16
theorem Vr (w0 : World) (p0 : (Ref Gengine)) (v0_1 : Value) (hv0_1 : Ro w0 p0 [v0_1]) (p1 : (List (List UInt8))) (v1_1 : Value) (hv1_1 : Ro w0 p1 [v1_1]) (r : (Vector UInt8 32)) (hF : Yq p0 p1 = some r) :
  Calls Tryz.prog 69 [v0_1,v1_1].toArray w0 (Rt w0 (Value.agg (enc r).toArray)):=by
 refine ce Tryz.func69 ?_
 intro a hE
 have hM:=M.start w0
 unfold Yq at hF
 refine Zb (Zz hE hM ZR fun b1 w a hM hE=>Ze (Zb ?_))
 obtain ⟨r3,e4,hF⟩:=bind_some hF
 refine Zx hE rfl (cbm Tryz.func130) (Jb _  r3 e4) ?_
 rintro v w a ⟨rfl,hK⟩ hE
 have hM:=hM.keep hK
 refine Zz hE hM ZR fun b5 w a hM hE=>Zn (seg:=enc r3) (cs':=enc r3) hE hM Za rfl rfl rfl ZR (Flat.len _) (zle flq) (Flat.cell _) (Zk flq) fun w a hM hE=>Ze (wp_seq (Zb (Zd hE rfl ?_))); intro a hE
 obtain ⟨r7,e8,hF⟩:=bind_some hF
 refine Zx hE rfl Zbz (WY _ p1 v1_1 (hM.rdo hv1_1) r7 e8) ?_
 rintro u9 w a ⟨_,rfl,hFr,hK⟩ hE
 have hM:=hM.add hK hFr
 obtain ⟨r10,e11,hF⟩:=bind_some hF
 refine Zx hE rfl (cbm Tryz.func132) (HR _ r7 u9 (hM.sl (pre:=[]) noB) r10 e11) ?_
 rintro u12 w a ⟨_,rfl,hFr,hK⟩ hE
 have hM:=hM.add hK hFr
 obtain ⟨r13,e14,hF⟩:=bind_some hF
 refine Zx hE rfl (cbm Tryz.func131) (B4 _ r10 u12 (hM.sl (pre:=[]) noB) r13 e14) ?_
 rintro u15 w a ⟨_,rfl,hFr,hK⟩ hE
 have hM:=hM.add hK hFr
 refine Z2 hE rfl Tryz.underlying54 (hM.sl (pre:=[]) noB) fun a hE=>Zd hE rfl fun a hE=>Ze ?_
 obtain ⟨j16,hl17,hF18⟩:=bind_some hF
 refine ZJ (fun a w=>Env 24 a [(4,(ptr b1 0)),(5,(ptr b5 0))] ∧ M (Old w0) w0 w [raw b5 (enc j16),raw b1 (enc (Vector.replicate 32 (0 : UInt8)))]) ?_ ?_
 ·skip
  refine wp_block ?_
  have hM:=M.fst (l:=[_,_,_]) hM.pull4.pull4.pull2
  refine ZC (fun (s19 : (Vector UInt8 32) × Int) a w=>Env 24 a [(0,v0_1),(4,(ptr b1 0)),(5,(ptr b5 0)),(12,u15),(13,(vI (r13.length : Int))),(14,vI s19.2)] ∧ M (Old w0) w0 w [osl NoB (r13 : List (Vector UInt8 16)) u15,raw b5 (enc s19.1),raw b1 (enc (Vector.replicate 32 (0 : UInt8)))]) hl17 ⟨hE.sub ⟨rfl,rfl,rfl,rfl,rfl,rfl,trivial⟩,hM⟩ ?_
  rintro s19 a w ⟨hE,hM⟩ o22 hs20 hx21
  unfold YS at hs20
  refine Zb (Zi hE rfl rfl rfl fun a hE=>Ze (wp_seq ?_))
  refine Zo hE rfl ?_ ?_
  ·intro hb23
   have hs20:=Zs hs20 hb23
   refine wp_skip (Zu (wp_seq (wp_block (Zb ?_))))
   obtain ⟨x24,hi26,hs20⟩:=bix hs20
   refine ZL hE rfl rfl Tryz.underlying54 ZF (hM.sl (pre:=[]) noB) hi26.1 fun a hE=>Zr hE rfl ZF rfl (Yp (hM.sl (pre:=[]) noB) hi26.2) (Flat.len _) fun a hE=>Zz hE hM ZF fun b27 w a hM hE=>Zn (seg:=enc x24) (cs':=enc x24) hE hM Za rfl rfl rfl ZF (Flat.len _) (zle flq) (Flat.cell _) (Zk flq) fun w a hM hE=>Ze (wp_region_lit (Zd hE rfl fun a hE=>Zr hE rfl ZR rfl hM.rawAt2 (Flat.len _) fun a hE=>Zr hE rfl ZF rfl hM.rawAt0 (Flat.len _) ?_)); intro a hE
   obtain ⟨r29,e30,hs20⟩:=bind_some hs20
   refine Zx hE rfl (cbm Tryz.func134) (Je _ p0 v0_1 (hM.rdo hv0_1) s19.1 x24 r29 e30) ?_
   rintro v w a ⟨rfl,hK⟩ hE
   have hM:=(hM.keep hK).pull2
   refine Zn (seg:=enc r29) (cs':=enc r29) hE hM Za rfl rfl rfl ZR (Flat.len _) (zle flq) (Flat.cell _) (Zk flq) fun w a hM hE=>Zf (Z4 (Zu (wp_region_lit (Zi hE rfl rfl rfl fun a hE=>Zd hE rfl fun a hE=>Zf (Zh ?_)))))
   have hM:=M.fst (l:=[_,_,_]) hM.pull3.pull1.pull3
   exact ⟨_,(ois hs20),hE.sub ⟨rfl,rfl,rfl,rfl,rfl,rfl,trivial⟩,hM⟩
  ·intro hb23
   have hs20:=Zt hs20 hb23
   refine wp_exit (Zl (Zl (Z5 ?_)))
   obtain rfl:=hx21 _ (ois hs20)
   refine Zh ?_
   have hM:=M.fst (l:=[_,_]) hM.pull2.pull2
   exact ⟨hE.sub ⟨rfl,rfl,trivial⟩,hM⟩
 ·skip
  rintro a w ⟨hE,hM⟩
  refine Zu (Zb (Zr hE rfl ZR rfl hM.rawAt0 (Flat.len _) ?_)); intro a hE
  have hM:=hM.pull1
  refine Zn (seg:=enc j16) (cs':=enc j16) hE hM Za rfl rfl rfl ZR (Flat.len _) (zle flq) (Flat.cell _) (Zk flq) fun w a hM hE=>Ze ?_
  obtain rfl:=Option.some.inj hF18
  have hq32 : Yt Tryz.prog _ _ (.cell 4 35) _:=ZQ hE rfl ZR rfl hM.rawAt0 (Flat.len _) rfl
  exact wp_ret (ZN hE rfl hq32 ⟨_,rfl,rfl,hM.kept⟩)
def Xm (p0 : (Ref Gengine)) (p1 : (List GEvent)) (s16 : (Vector UInt8 32) × Int) : Option (Fl ((Vector UInt8 32) × Int) (Vector UInt8 32)) :=
 if (decide (s16.2 < (p1.length : Int))) = true then ((idx p1 s16.2).bind fun x21=>(slc s16.1.toList (0 : Int) (32 : Int)).bind fun l27=>(Yv x21.Number 4).bind fun r32=>(slc x21.Tag.toList (0 : Int) (32 : Int)).bind fun l35=>(Yq p0 ([l27,([Zv x21.Kind] : List UInt8),r32,l35] : (List (List UInt8)))).bind fun r42=>some (Fl.nx (r42,wr (s16.2 + 1)))) else (some (Fl.ex s16.1))
def WO (p0 : (Ref Gengine)) (p1 : (List GEvent)) : Option ((Vector UInt8 32)) :=
 (mkS 1 (0 : UInt8) 32).bind fun l3=>(Yq p0 ([l3] : (List (List UInt8)))).bind fun r9=>(ZB (Xm p0 p1) (r9,0)).bind fun j13=>some j13
theorem JP (w0 : World) (p0 : (Ref Gengine)) (v0_1 : Value) (hv0_1 : Ro w0 p0 [v0_1]) (p1 : (List GEvent)) (v1_1 : Value) (hv1_1 : Ro w0 p1 [v1_1]) (r : (Vector UInt8 32)) (hF : WO p0 p1 = some r) :
  Calls Tryz.prog 113 [v0_1,v1_1].toArray w0 (Rt w0 (Value.agg (enc r).toArray)):=by
 refine ce Tryz.func113 ?_
 intro a hE
 have hM:=M.start w0
 unfold WO at hF
 refine Zb (Zz hE hM ZR fun b1 w a hM hE=>Ze (Zb (Zd hE rfl ?_))); intro a hE
 obtain ⟨l3,e4,hF⟩:=bind_some hF
 refine Bj hE hM Za ld rfl rfl Tryz.underlying40 ty5 rfl (by decide) (fun _=>TD.2 ⟨rfl,rfl⟩) e4 fun u5 w a hM hE=>Qo (xs:=[.tmp 9]) (vs:=[u5]) hE hM Za ld rfl rfl Tryz.underlying23 UP (by decide) (Vf (Ym (hM.sl (pre:=[]) noB)) H4) ?_; intro b7 w a hM hE
 obtain ⟨r9,e10,hF⟩:=bind_some hF
 refine Zx hE rfl cb69 (Vr _ p0 v0_1 (hM.rdo hv0_1) ([l3] : (List (List UInt8))) (Value.slice (some ⟨b7,0,none⟩) 1 1) (Bq hM.rawAt0 (hM.rawLt (pre:=[])) ⟨(hM.sl (pre:=[_]) noB),trivial⟩ rfl) r9 e10) ?_
 rintro v w a ⟨rfl,hK⟩ hE
 have hM:=hM.keep hK
 refine Zz hE hM ZR fun b11 w a hM hE=>Zn (seg:=enc r9) (cs':=enc r9) hE hM Za rfl rfl rfl ZR (Flat.len _) (zle flq) (Flat.cell _) (Zk flq) fun w a hM hE=>Ze (wp_seq (Zb (Zd hE rfl fun a hE=>Z2 hE rfl Tryz.underlying56 (hM.rd hv1_1) fun a hE=>Zd hE rfl fun a hE=>Ze ?_)))
 obtain ⟨j13,hl14,hF15⟩:=bind_some hF
 refine ZJ (fun a w=>Env 33 a [(4,(ptr b1 0)),(5,(ptr b11 0))] ∧ M (Old w0) w0 w [raw b11 (enc j13),raw b1 (enc (Vector.replicate 32 (0 : UInt8)))]) ?_ ?_
 ·skip
  refine wp_block ?_
  have hM:=M.fst (l:=[_,_]) hM.pull3.pull1
  refine ZC (fun (s16 : (Vector UInt8 32) × Int) a w=>Env 33 a [(0,v0_1),(4,(ptr b1 0)),(5,(ptr b11 0)),(12,v1_1),(13,(vI (p1.length : Int))),(14,vI s16.2)] ∧ M (Old w0) w0 w [raw b11 (enc s16.1),raw b1 (enc (Vector.replicate 32 (0 : UInt8)))]) hl14 ⟨hE.sub ⟨rfl,rfl,rfl,rfl,rfl,rfl,trivial⟩,hM⟩ ?_
  rintro s16 a w ⟨hE,hM⟩ o19 hs17 hx18
  unfold Xm at hs17
  refine Zb (Zi hE rfl rfl rfl fun a hE=>Ze (wp_seq ?_))
  refine Zo hE rfl ?_ ?_
  ·intro hb20
   have hs17:=Zs hs17 hb20
   refine wp_skip (Zu (wp_seq (wp_block (Zb ?_))))
   obtain ⟨x21,hi23,hs17⟩:=bix hs17
   refine ZL hE rfl rfl Tryz.underlying56 Xd (hM.rd hv1_1) hi23.1 fun a hE=>Zr hE rfl Xd rfl (Yp (hM.rd hv1_1) hi23.2) cq fun a hE=>Zz hE hM Xd fun b24 w a hM hE=>Zn (seg:=cat [[vI x21.Kind],[vI x21.Number],enc x21.Tag]) (cs':=cat [[vI x21.Kind],[vI x21.Number],enc x21.Tag]) hE hM Za rfl rfl rfl Xd cq (Nat.le_of_eq ((Nat.zero_add _).trans (Eq.trans cq (Eq.symm cq)))) (Xv (cc1 (Flat.cell (x21.Kind : Int)) (cc1 (Flat.cell (x21.Number : Int)) (cc1 (Flat.cell _) cc0)))) (Zk (Eq.trans cq (Eq.symm cq))) fun w a hM hE=>Ze ?_
   obtain ⟨l27,e28,hs17⟩:=bind_some hs17
   have hb29:=Qt e28 -- ^
   obtain ⟨r32,e33,hs17⟩:=bind_some hs17
   obtain ⟨l35,e36,hs17⟩:=bind_some hs17
   have hb37:=Qt e36 -- ^
   refine Xs (its:=[raw b24 (cat [[vI x21.Kind],[vI x21.Number],enc x21.Tag]),raw b11 (enc s16.1),raw b1 (enc (Vector.replicate 32 (0 : UInt8)))]) (mk:=([mkO 5 (fun v=>osl NoB (([Zv x21.Kind] : List UInt8) : List UInt8) v),mkO 8 (fun v=>osl NoB (r32 : List UInt8) v),mkL 11 [5,8] 4 (fun us=>[(Ya (.slice (some ⟨b11,0,none⟩) 32 32) ((0 : Int)).toNat ((32 : Int)).toNat 1),(us.getD 0 undef),(us.getD 1 undef),(Ya (.slice (some ⟨b24,0 + 2,none⟩) 32 32) ((0 : Int)).toNat ((32 : Int)).toNat 1)])] : Mk)) [18,19,20,21,22,23,24,25,26,27,28,29] Yy rfl rfl (by decide) rfl hE (fun u=>M.qE (M.qE (M.qE (M.q0 hM.drew u) emL) emO) emO) (qsP (fun z=>Zp z.E Za ld rfl (kr0 rfl)) (qsP (fun z=>Vz (N:=32) z.E Za ld rfl rfl rfl rfl rfl Tryz.underlying35 ty5 hb29 (kr0 rfl)) (qsP (fun z=>Zq z.E Za ld rfl (UW) (kr0 rfl)) (qsP (v:=(vI x21.Kind)) ?_ (qsP (fun z=>Yj z.E Za ld rfl Tryz.underlying2 Tryz.underlying5 (kr0 rfl)) (qsM (pr:=fun v=>True) ?_ (qsP (fun z=>Zq z.E Za ld rfl (Tk) (kr0 rfl)) (qsP (v:=(vI x21.Number)) ?_ (qsM (pr:=fun v=>True) ?_ (qsP (fun z=>Zq z.E Za ld rfl (Q8) (kr0 rfl)) (qsP (fun z=>Vz (N:=32) z.E Za ld rfl rfl rfl rfl rfl Tryz.underlying35 ty5 hb37 (kr0 rfl)) (qsM (pr:=fun v=>True) ?_ qs0)))))))))))) ?_
   ·intro a w ux26 D z
    have hE:=z.E
    have hM:=z.M
    exact Zw (v:=(vI x21.Kind)) hE rfl ty2 rfl (At.cat (pre:=[]) hM.rawAt0 cl0) fun a hE=>⟨Kept.refl _ _,_,rfl,hE⟩
   ·intro a w ux26 D z
    have hE:=z.E
    have hD : D 5 = false:=z.F
    have hsL : D 11 = false:=JN (j:=11) (k:=1) z.c rfl rfl rfl hD
    have hM:=z.M
    refine ZP (xs:=[.tmp 22]) (l:=([Zv x21.Kind] : List UInt8)) (vs:=[(vB (Zv x21.Kind))]) hE hM Za ld rfl rfl Tryz.underlying40 ty5 rfl (by decide) rfl ?_; intro u30 w a hM hE
    have hM:=M.litOff (its:=_ :: [raw b24 (cat [[vI x21.Kind],[vI x21.Number],enc x21.Tag]),raw b11 (enc s16.1),raw b1 (enc (Vector.replicate 32 (0 : UInt8)))]) (mk:=([mkO 5 (fun v=>osl NoB (([Zv x21.Kind] : List UInt8) : List UInt8) v),mkO 8 (fun v=>osl NoB (r32 : List UInt8) v)] : Mk)) (i:=11) (ds:=[5,8]) (m:=4) (f:=(fun us=>[(Ya (.slice (some ⟨b11,0,none⟩) 32 32) ((0 : Int)).toNat ((32 : Int)).toNat 1),(us.getD 0 undef),(us.getD 1 undef),(Ya (.slice (some ⟨b24,0 + 2,none⟩) 32 32) ((0 : Int)).toNat ((32 : Int)).toNat 1)])) hM hsL
    exact ⟨_,_,rfl,hE,(M.litOn (its:=[raw b24 (cat [[vI x21.Kind],[vI x21.Number],enc x21.Tag]),raw b11 (enc s16.1),raw b1 (enc (Vector.replicate 32 (0 : UInt8)))]) (mk:=([mkO 5 (fun v=>osl NoB (([Zv x21.Kind] : List UInt8) : List UInt8) v),mkO 8 (fun v=>osl NoB (r32 : List UInt8) v)] : Mk)) (i:=11) (ds:=[5,8]) (m:=4) (f:=(fun us=>[(Ya (.slice (some ⟨b11,0,none⟩) 32 32) ((0 : Int)).toNat ((32 : Int)).toNat 1),(us.getD 0 undef),(us.getD 1 undef),(Ya (.slice (some ⟨b24,0 + 2,none⟩) 32 32) ((0 : Int)).toNat ((32 : Int)).toNat 1)])) (M.qFill (its:=[raw b24 (cat [[vI x21.Kind],[vI x21.Number],enc x21.Tag]),raw b11 (enc s16.1),raw b1 (enc (Vector.replicate 32 (0 : UInt8)))]) (mk1:=[]) (mk2:=[_]) (f:=(fun v=>osl NoB (([Zv x21.Kind] : List UInt8) : List UInt8) v)) hM rfl hD) hsL (by decide)),trivial⟩
   ·intro a w ux26 D z
    have hE:=z.E
    have hM:=z.M
    exact Zw (v:=(vI x21.Number)) hE rfl ty2 rfl (At.cat (pre:=[[vI x21.Kind]]) hM.rawAt0 ck) fun a hE=>⟨Kept.refl _ _,_,rfl,hE⟩
   ·intro a w ux26 D z
    have hE:=z.E
    have hD : D 8 = false:=z.F
    have hsL : D 11 = false:=JN (j:=11) (k:=2) z.c rfl rfl rfl hD
    have hM0:=z.M
    have hM:=z.M
    refine Zx hE rfl Zba (Qh _ x21.Number 4 r32 e33) ?_
    rintro _ w a ⟨_,rfl,hFr,hK⟩ hE
    have hM:=hM0.add hK hFr
    have hM:=M.litOff (its:=_ :: [raw b24 (cat [[vI x21.Kind],[vI x21.Number],enc x21.Tag]),raw b11 (enc s16.1),raw b1 (enc (Vector.replicate 32 (0 : UInt8)))]) (mk:=([mkO 5 (fun v=>osl NoB (([Zv x21.Kind] : List UInt8) : List UInt8) v),mkO 8 (fun v=>osl NoB (r32 : List UInt8) v)] : Mk)) (i:=11) (ds:=[5,8]) (m:=4) (f:=(fun us=>[(Ya (.slice (some ⟨b11,0,none⟩) 32 32) ((0 : Int)).toNat ((32 : Int)).toNat 1),(us.getD 0 undef),(us.getD 1 undef),(Ya (.slice (some ⟨b24,0 + 2,none⟩) 32 32) ((0 : Int)).toNat ((32 : Int)).toNat 1)])) hM hsL
    exact ⟨_,_,rfl,hE,(M.litOn (its:=[raw b24 (cat [[vI x21.Kind],[vI x21.Number],enc x21.Tag]),raw b11 (enc s16.1),raw b1 (enc (Vector.replicate 32 (0 : UInt8)))]) (mk:=([mkO 5 (fun v=>osl NoB (([Zv x21.Kind] : List UInt8) : List UInt8) v),mkO 8 (fun v=>osl NoB (r32 : List UInt8) v)] : Mk)) (i:=11) (ds:=[5,8]) (m:=4) (f:=(fun us=>[(Ya (.slice (some ⟨b11,0,none⟩) 32 32) ((0 : Int)).toNat ((32 : Int)).toNat 1),(us.getD 0 undef),(us.getD 1 undef),(Ya (.slice (some ⟨b24,0 + 2,none⟩) 32 32) ((0 : Int)).toNat ((32 : Int)).toNat 1)])) (M.qFill (its:=[raw b24 (cat [[vI x21.Kind],[vI x21.Number],enc x21.Tag]),raw b11 (enc s16.1),raw b1 (enc (Vector.replicate 32 (0 : UInt8)))]) (mk1:=[_]) (mk2:=[]) (f:=(fun v=>osl NoB (r32 : List UInt8) v)) hM rfl hD) hsL (by decide)),trivial⟩
   ·intro a w ux26 D z
    have hE:=z.E
    have hD : D 11 = false:=z.F
    have d5 : D 5 = true:=z.p 1 _ rfl rfl
    have d8 : D 8 = true:=z.p 2 _ rfl rfl
    have hM:=(z.M.sure (pre:=[_,_,_]) d5).sure (pre:=[_,_,_,_]) d8
    refine Qo (xs:=[.tmp 19,.tmp 23,.tmp 26,.tmp 28]) (vs:=[(Ya (.slice (some ⟨b11,0,none⟩) 32 32) ((0 : Int)).toNat ((32 : Int)).toNat 1),(ux26 5),(ux26 8),(Ya (.slice (some ⟨b24,0 + 2,none⟩) 32 32) ((0 : Int)).toNat ((32 : Int)).toNat 1)]) hE hM Za ld rfl rfl Tryz.underlying23 UP (by decide) (Vf (Ym (Xb (At.sat hM.rawAt1 (by simp) (by decide)) e28)) (Vf (Ym (hM.sl (pre:=[_,_,_]) noB)) (Vf (Ym (hM.sl (pre:=[_,_,_,_]) noB)) (Vf (Ym (Xb (At.sat (At.cat (pre:=[[vI x21.Kind],[vI x21.Number]]) hM.rawAt0 ck) (by simp) (by decide)) e36)) H4)))) ?_; intro b38 w a hM hE
    have hM:=(hM.unsure (pre:=[_,_,_,_,_]) d8).unsure (pre:=[_,_,_,_]) d5
    exact ⟨_,_,rfl,hE,M.litFill (its:=[raw b24 (cat [[vI x21.Kind],[vI x21.Number],enc x21.Tag]),raw b11 (enc s16.1),raw b1 (enc (Vector.replicate 32 (0 : UInt8)))]) (mk:=([mkO 5 (fun v=>osl NoB (([Zv x21.Kind] : List UInt8) : List UInt8) v),mkO 8 (fun v=>osl NoB (r32 : List UInt8) v)] : Mk)) (i:=11) (ds:=[5,8]) (m:=4) (f:=(fun us=>[(Ya (.slice (some ⟨b11,0,none⟩) 32 32) ((0 : Int)).toNat ((32 : Int)).toNat 1),(us.getD 0 undef),(us.getD 1 undef),(Ya (.slice (some ⟨b24,0 + 2,none⟩) 32 32) ((0 : Int)).toNat ((32 : Int)).toNat 1)])) hM rfl hD (by decide),trivial⟩
   ·intro a w ux26 D hE hM hG hall
    have d5:=hall 5 (by decide)
    have d8:=hall 8 (by decide)
    have d11:=hall 11 (by decide)
    have hM:=(((hM.sure (pre:=[_,_,_]) d5).sure (pre:=[_,_,_,_]) d8).sure (pre:=[_,_,_,_,_]) d11).pull
    obtain ⟨b40,f41,hM⟩:=M.litOpen hM
    have hE:=hE.setq (t:=29) rfl f41
    obtain ⟨r42,e43,hs17⟩:=bind_some hs17
    refine Zx hE rfl cb69 (Vr _ p0 v0_1 (hM.rdo hv0_1) ([l27,([Zv x21.Kind] : List UInt8),r32,l35] : (List (List UInt8))) (Value.slice (some ⟨b40,0,none⟩) 4 4) (Bq hM.rawAt0 (hM.rawLt (pre:=[])) ⟨(Xb (At.sat hM.rawAt2 (by simp) (by decide)) e28),(hM.sl (pre:=[_,_,_,_]) noB),(hM.sl (pre:=[_,_,_,_,_]) noB),(Xb (At.sat (At.cat (pre:=[[vI x21.Kind],[vI x21.Number]]) hM.rawAt1 ck) (by simp) (by decide)) e36),trivial⟩ rfl) r42 e43) ?_
    rintro v w a ⟨rfl,hK⟩ hE
    have hM:=(hM.keep hK).pull2
    refine Zn (seg:=enc r42) (cs':=enc r42) hE hM Za rfl rfl rfl ZR (Flat.len _) (zle flq) (Flat.cell _) (Zk flq) fun w a hM hE=>Zf (Z4 (Zu (wp_region_lit (Zi hE rfl rfl rfl fun a hE=>Zd hE rfl fun a hE=>Zf (Zh ?_)))))
    have hM:=M.fst (l:=[_,_]) hM.pull3.pull1
    exact ⟨_,(ois hs17),hE.sub ⟨rfl,rfl,rfl,rfl,rfl,rfl,trivial⟩,hM⟩
  ·intro hb20
   have hs17:=Zt hs17 hb20
   refine wp_exit (Zl (Zl (Z5 ?_)))
   obtain rfl:=hx18 _ (ois hs17)
   refine Zh ?_
   exact ⟨hE.sub ⟨rfl,rfl,trivial⟩,hM⟩
 ·skip
  rintro a w ⟨hE,hM⟩
  refine Zu (Zb (Zr hE rfl ZR rfl hM.rawAt0 (Flat.len _) ?_)); intro a hE
  have hM:=hM.pull1
  refine Zn (seg:=enc j13) (cs':=enc j13) hE hM Za rfl rfl rfl ZR (Flat.len _) (zle flq) (Flat.cell _) (Zk flq) fun w a hM hE=>Ze ?_
  obtain rfl:=Option.some.inj hF15
  have hq45 : Yt Tryz.prog _ _ (.cell 4 35) _:=ZQ hE rfl ZR rfl hM.rawAt0 (Flat.len _) rfl
  exact wp_ret (ZN hE rfl hq45 ⟨_,rfl,rfl,hM.kept⟩)
def VY (p0 : (List GEvent)) (s6 : (List (Int × (Vector UInt8 32))) × Int) : Option (Fl ((List (Int × (Vector UInt8 32))) × Int) (List (Int × (Vector UInt8 32)))) :=
 if (decide (s6.2 < (p0.length : Int))) = true then (((idx p0 s6.2).bind fun x14=>((if (x14.Kind == 1) = true then (some true) else (if (x14.Kind == 4) = true then (some ((YG s6.1 x14.Number).isSome)) else (some false)) : Option (Bool)).bind fun j24=>(if j24 = true then (some (Tz s6.1 x14.Number x14.Tag)) else (if (x14.Kind == 2) = true then (some (QX s6.1 x14.Number)) else (some s6.1)) : Option ((List (Int × (Vector UInt8 32))))).bind fun j32=>some j32 : Option ((List (Int × (Vector UInt8 32))))).bind fun j21=>some j21 : Option ((List (Int × (Vector UInt8 32))))).bind fun j11=>some (Fl.nx (j11,wr (s6.2 + 1)))) else (some (Fl.ex s6.1))
def UD (p0 : (List GEvent)) : Option ((List (Int × (Vector UInt8 32)))) :=
 (ZB (VY p0) (([] : (List (Int × (Vector UInt8 32)))),0)).bind fun j3=>some j3
theorem BM (w0 : World) (p0 : (List GEvent)) (v0_1 : Value) (hv0_1 : Ro w0 p0 [v0_1]) (r : (List (Int × (Vector UInt8 32)))) (hF : UD p0 = some r) :
  Calls Tryz.prog 114 [v0_1].toArray w0 (fun en w'=>∃ v,en = .returned v ∧ (∃ b1 : Nat,v = (Value.map (some b1)) ∧ Fr w0 w' [WW (Value.int .i64) (Vu (fun x : Vector UInt8 32=>Value.agg (enc x).toArray)) (r : (List (Int × (Vector UInt8 32)))) b1] ∧ Kept (Old w0) w0 w')):=by
 refine ce Tryz.func114 ?_
 intro a hE
 have hM:=M.start w0
 unfold UD at hF
 refine Zb (Zc hE rfl fun a hE=>Ze (Zb (yk (κ:=Int) (α:=(Vector UInt8 32)) (S:=NoB) (Value.int .i64) (Qs (vv:=(fun x : Vector UInt8 32=>Value.agg (enc x).toArray))) hE hM noB Za ld fun b1 w a hM hE=>Zc hE rfl fun a hE=>Ze (wp_seq (Zb (Zd hE rfl fun a hE=>Z2 hE rfl Tryz.underlying56 (hM.rd hv0_1) fun a hE=>Zd hE rfl fun a hE=>Ze ?_))))))
 obtain ⟨j3,hl4,hF5⟩:=bind_some hF
 refine ZJ (fun a w=>Env 48 a [(3,(Value.map (some b1)))] ∧ M (Old w0) w0 w [WW (Value.int .i64) (Vu (fun x : Vector UInt8 32=>Value.agg (enc x).toArray)) (j3 : (List (Int × (Vector UInt8 32)))) b1]) ?_ ?_
 ·skip
  refine wp_block ?_
  refine ZC (fun (s6 : (List (Int × (Vector UInt8 32))) × Int) a w=>Env 48 a [(3,(Value.map (some b1))),(9,v0_1),(10,(vI (p0.length : Int))),(11,vI s6.2)] ∧ M (Old w0) w0 w [WW (Value.int .i64) (Vu (fun x : Vector UInt8 32=>Value.agg (enc x).toArray)) (s6.1 : (List (Int × (Vector UInt8 32)))) b1]) hl4 ⟨hE.sub ⟨rfl,rfl,rfl,rfl,trivial⟩,hM⟩ ?_
  rintro s6 a w ⟨hE,hM⟩ o9 hs7 hx8
  unfold VY at hs7
  refine Zb (Zi hE rfl rfl rfl fun a hE=>Ze (wp_seq ?_))
  refine Zo hE rfl ?_ ?_
  ·intro hb10
   have hs7:=Zs hs7 hb10
   refine wp_skip (Zu ?_)
   obtain ⟨j11,hl12,hF13⟩:=bind_some hs7
   refine ZI (fun a w=>Env 48 a [(3,(Value.map (some b1))),(9,v0_1),(10,(vI (p0.length : Int))),(11,vI s6.2)] ∧ M (Old w0) w0 w [WW (Value.int .i64) (Vu (fun x : Vector UInt8 32=>Value.agg (enc x).toArray)) (j11 : (List (Int × (Vector UInt8 32)))) b1]) ?_ ?_
   ·skip
    refine wp_block (Zb ?_)
    obtain ⟨x14,hi16,hl12⟩:=bix hl12
    refine ZL hE rfl rfl Tryz.underlying56 Xd (hM.rd hv0_1) hi16.1 fun a hE=>Zr hE rfl Xd rfl (Yp (hM.rd hv0_1) hi16.2) cq fun a hE=>Zz hE hM Xd fun b17 w a hM hE=>Zn (seg:=cat [[vI x14.Kind],[vI x14.Number],enc x14.Tag]) (cs':=cat [[vI x14.Kind],[vI x14.Number],enc x14.Tag]) hE hM Za rfl rfl rfl Xd cq (Nat.le_of_eq ((Nat.zero_add _).trans (Eq.trans cq (Eq.symm cq)))) (Xv (cc1 (Flat.cell (x14.Kind : Int)) (cc1 (Flat.cell (x14.Number : Int)) (cc1 (Flat.cell _) cc0)))) (Zk (Eq.trans cq (Eq.symm cq))) fun w a hM hE=>Ze (Zb (Zd hE rfl fun a hE=>Zg hE rfl (Tk) fun a hE=>Zw (v:=(vI x14.Number)) hE rfl ty2 rfl (At.cat (pre:=[[vI x14.Kind]]) hM.rawAt0 ck) fun a hE=>H2 (pre:=[_]) (zero:=(Vector.replicate 32 (0 : UInt8))) (QT Tryz.underlying2) hE hM Za ld rfl rfl Tryz.underlying150 (Zbq (by kernel_rfl) _) fun a hE=>Zd hE rfl fun a hE=>Yw hE Za ld rfl rfl fun a hE=>Yw hE Za ld rfl rfl fun a hE=>Zz hE hM ZR ?_)); intro b19 w a hM hE
    refine Zn (seg:=enc ((YG s6.1 x14.Number).getD (Vector.replicate 32 (0 : UInt8)))) (cs':=enc ((YG s6.1 x14.Number).getD (Vector.replicate 32 (0 : UInt8)))) hE hM Za rfl rfl rfl ZR (Flat.len _) (zle flq) (Flat.cell _) (Zk flq) fun w a hM hE=>Zc hE rfl fun a hE=>Ze ?_
    obtain ⟨j21,hl22,hF23⟩:=bind_some hl12
    refine ZJ (fun a w=>Env 48 a [(3,(Value.map (some b1))),(9,v0_1),(10,(vI (p0.length : Int))),(11,vI s6.2)] ∧ M (Old w0) w0 w [WW (Value.int .i64) (Vu (fun x : Vector UInt8 32=>Value.agg (enc x).toArray)) (j21 : (List (Int × (Vector UInt8 32)))) b1]) ?_ ?_
    ·skip
     refine wp_block ?_
     obtain ⟨j24,hl25,hF26⟩:=bind_some hl22
     refine ZI (fun a w=>Env 48 a [(3,(Value.map (some b1))),(5,(ptr b17 0)),(9,v0_1),(10,(vI (p0.length : Int))),(11,vI s6.2),(22,vT j24)] ∧ M (Old w0) w0 w [raw b17 (cat [[vI x14.Kind],[vI x14.Number],enc x14.Tag]),WW (Value.int .i64) (Vu (fun x : Vector UInt8 32=>Value.agg (enc x).toArray)) (s6.1 : (List (Int × (Vector UInt8 32)))) b1]) ?_ ?_
     ·skip
      refine wp_region_lit (Zg hE rfl (UW) fun a hE=>Zw (v:=(vI x14.Kind)) hE rfl ty2 rfl (At.cat (pre:=[]) hM.rawAt1 cl0) fun a hE=>Zi hE rfl rfl rfl fun a hE=>Zd hE rfl ?_); intro a hE
      refine YK (x14.Kind == 1) (fun hb27=>?_) (fun hb27=>?_)
      ·have hl25:=Zs hl25 hb27
       refine Zm hE rfl (lkb rfl hb27) rfl (by decide) fun a hE=>Zm hE rfl (lkb rfl hb27) rfl (by decide) fun a hE=>Zm hE rfl (lkb rfl hb27) rfl (by decide) fun a hE=>Zm hE rfl (lkb rfl hb27) rfl (by decide) fun a hE=>X6 hE rfl rfl (by decide) fun a hE=>Zm hE rfl (lkb rfl hb27) rfl (by decide) fun a hE=>Z8 hE (lkb rfl hb27) rfl fun a hE=>Zc hE rfl fun a hE=>Zf ?_
       obtain rfl:=Option.some.inj hl25
       refine Zh ?_
       have hM:=M.fst (l:=[_,_]) hM.pull2.pull2
       exact ⟨hE.sub ⟨rfl,rfl,rfl,rfl,rfl,rfl,trivial⟩,hM⟩
      ·have hl25:=Zt hl25 hb27
       refine Zq hE (Zj hE rfl (lkb rfl hb27)) (by decide) rfl (UW) fun a hE=>ZK (v:=(vI x14.Kind)) hE (Zj hE rfl (lkb rfl hb27)) (by decide) rfl ty2 rfl (At.cat (pre:=[]) hM.rawAt1 cl0) fun a hE=>Ye hE (Zj hE rfl (lkb rfl hb27)) (by decide) rfl rfl rfl fun a hE=>Zp hE (Zj hE rfl (lkb rfl hb27)) (by decide) rfl ?_; intro a hE
       refine YK (x14.Kind == 4) (fun hb29=>?_) (fun hb29=>?_)
       ·have hl25:=Zs hl25 hb29
        refine Zp hE (Zj hE rfl (lkb rfl hb29)) (by decide) rfl fun a hE=>Qr hE (Zj hE rfl (lkb rfl hb27)) (by decide) (lkb rfl hb29) rfl fun a hE=>YB hE (lkb rfl hb27) rfl fun a hE=>Zc hE rfl fun a hE=>Zf ?_
        obtain rfl:=Option.some.inj hl25
        refine Zh ?_
        have hM:=M.fst (l:=[_,_]) hM.pull2.pull2
        exact ⟨hE.sub ⟨rfl,rfl,rfl,rfl,rfl,rfl,trivial⟩,hM⟩
       ·have hl25:=Zt hl25 hb29
        refine Zm hE rfl (lkb rfl hb29) rfl (by decide) fun a hE=>TQ hE (Zj hE rfl (lkb rfl hb27)) (by decide) (lkb rfl hb29) rfl fun a hE=>YB hE (lkb rfl hb27) rfl fun a hE=>Zc hE rfl fun a hE=>Zf ?_
        obtain rfl:=Option.some.inj hl25
        refine Zh ?_
        have hM:=M.fst (l:=[_,_]) hM.pull2.pull2
        exact ⟨hE.sub ⟨rfl,rfl,rfl,rfl,rfl,rfl,trivial⟩,hM⟩
     ·skip
      rintro a w ⟨hE,hM⟩
      obtain ⟨j32,hl33,hF34⟩:=bind_some hF26
      refine ZJ (fun a w=>Env 48 a [(3,(Value.map (some b1))),(9,v0_1),(10,(vI (p0.length : Int))),(11,vI s6.2)] ∧ M (Old w0) w0 w [WW (Value.int .i64) (Vu (fun x : Vector UInt8 32=>Value.agg (enc x).toArray)) (j32 : (List (Int × (Vector UInt8 32)))) b1]) ?_ ?_
      ·skip
       refine Zo hE rfl ?_ ?_
       ·intro hb35
        have hl33:=Zs hl33 hb35
        refine wp_region_lit (Zd hE rfl fun a hE=>Zg hE rfl (Tk) fun a hE=>Zw (v:=(vI x14.Number)) hE rfl ty2 rfl (At.cat (pre:=[[vI x14.Kind]]) hM.rawAt0 ck) fun a hE=>Zg hE rfl (Q8) fun a hE=>Zr hE rfl ZR rfl (At.cat (pre:=[[vI x14.Kind],[vI x14.Number]]) hM.rawAt0 ck) (Flat.len _) ?_); intro a hE
        have hM:=hM.pull1
        refine Hy (c:=x14.Tag) (QT Tryz.underlying2) hE hM Za rfl rfl rfl Tryz.underlying150 fun w a hM hE=>Zf ?_
        obtain rfl:=Option.some.inj hl33
        refine Zh ?_
        have hM:=M.fst (l:=[_]) hM
        exact ⟨hE.sub ⟨rfl,rfl,rfl,rfl,trivial⟩,hM⟩
       ·intro hb35
        have hl33:=Zt hl33 hb35
        refine Zb (Zg hE rfl (UW) fun a hE=>Zw (v:=(vI x14.Kind)) hE rfl ty2 rfl (At.cat (pre:=[]) hM.rawAt0 cl0) fun a hE=>Zi hE rfl rfl rfl fun a hE=>Zc hE rfl fun a hE=>Ze ?_)
        refine Zo hE rfl ?_ ?_
        ·intro hb37
         have hl33:=Zs hl33 hb37
         refine wp_region_lit (Zd hE rfl fun a hE=>Zg hE rfl (Tk) fun a hE=>Zw (v:=(vI x14.Number)) hE rfl ty2 rfl (At.cat (pre:=[[vI x14.Kind]]) hM.rawAt0 ck) ?_); intro a hE
         have hM:=hM.pull1
         refine Zcd (QT Tryz.underlying2) hE hM Za rfl rfl Tryz.underlying150 fun w a hM hE=>Zf ?_
         obtain rfl:=Option.some.inj hl33
         refine Zh ?_
         have hM:=M.fst (l:=[_]) hM
         exact ⟨hE.sub ⟨rfl,rfl,rfl,rfl,trivial⟩,hM⟩
        ·intro hb37
         have hl33:=Zt hl33 hb37
         refine wp_skip ?_
         obtain rfl:=Option.some.inj hl33
         refine Zh ?_
         have hM:=M.fst (l:=[_]) hM.pull1
         exact ⟨hE.sub ⟨rfl,rfl,rfl,rfl,trivial⟩,hM⟩
      ·skip
       rintro a w ⟨hE,hM⟩
       refine Z4 ?_
       obtain rfl:=Option.some.inj hF34
       refine Zh ?_
       exact ⟨hE.sub ⟨rfl,rfl,rfl,rfl,trivial⟩,hM⟩
    ·skip
     rintro a w ⟨hE,hM⟩
     refine Z4 ?_
     obtain rfl:=Option.some.inj hF23
     refine Zh ?_
     exact ⟨hE.sub ⟨rfl,rfl,rfl,rfl,trivial⟩,hM⟩
   ·skip
    rintro a w ⟨hE,hM⟩
    refine wp_region_lit (Zi hE rfl rfl rfl fun a hE=>Zd hE rfl fun a hE=>Zf (Zh ?_))
    exact ⟨_,(ois hF13),hE.sub ⟨rfl,rfl,rfl,rfl,trivial⟩,hM⟩
  ·intro hb10
   have hs7:=Zt hs7 hb10
   refine wp_exit (Zl (Zl (Z5 ?_)))
   obtain rfl:=hx8 _ (ois hs7)
   refine Zh ?_
   exact ⟨hE.sub ⟨rfl,trivial⟩,hM⟩
 ·skip
  rintro a w ⟨hE,hM⟩
  refine Zu (Zb (Zd hE rfl fun a hE=>Zc hE rfl fun a hE=>Ze ?_))
  obtain rfl:=Option.some.inj hF5
  exact wp_ret (ZN hE rfl (ZY hE rfl) ⟨_,rfl,_,rfl,hM.outF (locNM XZ),hM.kept⟩)
def Ue (p1 : UInt8) (s6 : (Vector UInt8 16) × Int) : Option (Fl ((Vector UInt8 16) × Int) (Vector UInt8 16)) :=
 if (decide (s6.2 < 16)) = true then ((ZH s6.1 s6.2).bind fun x12=>(ZH s6.1 s6.2).bind fun x15=>some (Fl.nx ((s6.1.setIfInBounds (s6.2).toNat (x12 ^^^ p1)),wr (s6.2 + 1)))) else (some (Fl.ex s6.1))
def Xc (p0 : (Vector UInt8 16)) (p1 : UInt8) : Option ((List UInt8)) :=
 (ZB (Ue p1) (p0,0)).bind fun j3=>(slc j3.toList (0 : Int) (16 : Int)).bind fun l18=>some l18
theorem T4 (w0 : World) (p0 : (Vector UInt8 16)) (p1 : UInt8) (r : (List UInt8)) (hF : Xc p0 p1 = some r) :
  Calls Tryz.prog 164 [(Value.agg (enc p0).toArray),vB p1].toArray w0 (fun en w'=>∃ v,en = .returned v ∧ (∃ (y1 : Value),v = y1 ∧ Fr w0 w' [osl NoB (r : List UInt8) y1] ∧ Kept (Old w0) w0 w')):=by
 refine ce Tryz.func164 ?_
 intro a hE
 have hM:=M.start w0
 unfold Xc at hF
 refine Zb (ZT (cs:=enc p0) hE hM Za ld rfl rfl fun b1 w a hM hE=>Zc hE rfl fun a hE=>Ze (wp_seq (Zb (Zd hE rfl fun a hE=>Ze ?_))))
 obtain ⟨j3,hl4,hF5⟩:=bind_some hF
 refine ZJ (fun a w=>Env 17 a [(2,(ptr b1 0))] ∧ M (Old w0) w0 w [raw b1 (enc j3)]) ?_ ?_
 ·skip
  refine wp_block ?_
  refine ZC (fun (s6 : (Vector UInt8 16) × Int) a w=>Env 17 a [(1,vB p1),(2,(ptr b1 0)),(6,vI s6.2)] ∧ M (Old w0) w0 w [raw b1 (enc s6.1)]) hl4 ⟨hE.sub ⟨rfl,rfl,rfl,trivial⟩,hM⟩ ?_
  rintro s6 a w ⟨hE,hM⟩ o9 hs7 hx8
  unfold Ue at hs7
  refine Zb (Zi hE rfl rfl rfl fun a hE=>Ze (wp_seq ?_))
  refine Zo hE rfl ?_ ?_
  ·intro hb10
   have hs7:=Zs hs7 hb10
   refine wp_skip (Zu (wp_seq (wp_block (Zb (Zd hE rfl fun a hE=>Zc hE rfl fun a hE=>Ze (wp_region_lit (Zd hE rfl ?_))))))); intro a hE
   obtain ⟨x12,hi11,hs7⟩:=bvx hs7
   refine ZD hE rfl rfl Tryz.underlying68 ty5 hi11.1 fun a hE=>Zw (v:=(vB x12)) hE rfl ty5 rfl (At.vec hM.rawAt0 hi11.2) fun a hE=>Zd hE rfl fun a hE=>Zi hE rfl rfl (Vw x12 p1) ?_; intro a hE
   obtain ⟨x15,hi14,hs7⟩:=bvx hs7
   refine ZD hE rfl rfl Tryz.underlying68 ty5 hi14.1 fun a hE=>Zn (seg:=[(vB (x12 ^^^ p1))]) (cs':=enc (s6.1.setIfInBounds (s6.2).toNat (x12 ^^^ p1))) hE hM Za rfl rfl rfl ty5 rfl (ZM (v:=s6.1) (x:=x12 ^^^ p1) hi14.1) (Flat.cell (x12 ^^^ p1 : UInt8)) (ZE (v:=s6.1) (x:=x12 ^^^ p1) hi14.1) fun w a hM hE=>Zf (Z4 (Zu (wp_region_lit (Zi hE rfl rfl rfl fun a hE=>Zd hE rfl fun a hE=>Zf (Zh ?_)))))
   exact ⟨_,(ois hs7),hE.sub ⟨rfl,rfl,rfl,trivial⟩,hM⟩
  ·intro hb10
   have hs7:=Zt hs7 hb10
   refine wp_exit (Zl (Zl (Z5 ?_)))
   obtain rfl:=hx8 _ (ois hs7)
   refine Zh ?_
   exact ⟨hE.sub ⟨rfl,trivial⟩,hM⟩
 ·skip
  rintro a w ⟨hE,hM⟩
  refine Zu (Zb ?_)
  obtain ⟨l18,e19,hF5⟩:=bind_some hF5
  have hb20:=Qt e19 -- ^
  refine Vz (N:=16) hE Za ld rfl rfl rfl rfl rfl Tryz.underlying68 ty5 hb20 fun a hE=>Zc hE rfl fun a hE=>Ze ?_
  have hM:=(M.rawOsl hM).cut noB e19
  obtain rfl:=Option.some.inj hF5
  exact wp_ret (ZN hE rfl (ZY hE rfl) ⟨_,rfl,(Ya (.slice (some ⟨b1,0,none⟩) 16 16) ((0 : Int)).toNat ((16 : Int)).toNat 1),rfl,hM.outF (Wm XZ),hM.kept⟩)
def Vs (p0 : (Ref Gengine)) (p1 : (Vector UInt8 16)) (p2 : (List (List UInt8))) : Option ((Vector UInt8 32)) :=
 (Xc p1 90).bind fun r5=>(Z3 p2).bind fun r8=>(Yq p0 ([r5,r8] : (List (List UInt8)))).bind fun r13=>((Xc p1 165).bind fun r21=>(slc r13.toList (0 : Int) (32 : Int)).bind fun l24=>(Yq p0 ([r21,l24] : (List (List UInt8)))).bind fun r31=>some r31 : Option ((Vector UInt8 32))).bind fun j17=>some j17
theorem Hz (w0 : World) (p0 : (Ref Gengine)) (v0_1 : Value) (hv0_1 : Ro w0 p0 [v0_1]) (p1 : (Vector UInt8 16)) (p2 : (List (List UInt8))) (v2_1 : Value) (hv2_1 : Ro w0 p2 [v2_1]) (r : (Vector UInt8 32)) (hF : Vs p0 p1 p2 = some r) :
  Calls Tryz.prog 165 [v0_1,(Value.agg (enc p1).toArray),v2_1].toArray w0 (Rt w0 (Value.agg (enc r).toArray)):=by
 refine ce Tryz.func165 ?_
 intro a hE
 have hM:=M.start w0
 unfold Vs at hF
 refine Zb (ZT (cs:=enc p1) hE hM Za ld rfl rfl fun b1 w a hM hE=>Zz hE hM ZR fun b3 w a hM hE=>Ze (Zb (Zd hE rfl fun a hE=>Zr hE rfl ZF rfl hM.rawAt1 (Flat.len _) ?_))); intro a hE
 obtain ⟨r5,e6,hF⟩:=bind_some hF
 refine Zx hE rfl Zcm (T4 _ p1 90 r5 e6) ?_
 rintro u7 w a ⟨_,rfl,hFr,hK⟩ hE
 have hM:=hM.add hK hFr
 refine Zd hE rfl ?_; intro a hE
 obtain ⟨r8,e9,hF⟩:=bind_some hF
 refine Zx hE rfl Zbz (WY _ p2 v2_1 (hM.rdo hv2_1) r8 e9) ?_
 rintro u10 w a ⟨_,rfl,hFr,hK⟩ hE
 have hM:=hM.add hK hFr
 refine Qo (xs:=[.tmp 10,.tmp 12]) (vs:=[u7,u10]) hE hM Za ld rfl rfl Tryz.underlying23 UP (by decide) (Vf (Ym (hM.sl (pre:=[_]) noB)) (Vf (Ym (hM.sl (pre:=[]) noB)) H4)) ?_; intro b11 w a hM hE
 obtain ⟨r13,e14,hF⟩:=bind_some hF
 refine Zx hE rfl cb69 (Vr _ p0 v0_1 (hM.rdo hv0_1) ([r5,r8] : (List (List UInt8))) (Value.slice (some ⟨b11,0,none⟩) 2 2) (Bq hM.rawAt0 (hM.rawLt (pre:=[])) ⟨(hM.sl (pre:=[_,_]) noB),(hM.sl (pre:=[_]) noB),trivial⟩ rfl) r13 e14) ?_
 rintro v w a ⟨rfl,hK⟩ hE
 have hM:=hM.keep hK
 refine Zz hE hM ZR fun b15 w a hM hE=>Zn (seg:=enc r13) (cs':=enc r13) hE hM Za rfl rfl rfl ZR (Flat.len _) (zle flq) (Flat.cell _) (Zk flq) fun w a hM hE=>Ze ?_
 obtain ⟨j17,hl18,hF19⟩:=bind_some hF
 refine ZI (fun a w=>Env 21 a [(6,(ptr b3 0))] ∧ M (Old w0) w0 w [raw b3 (enc j17)]) ?_ ?_
 ·skip
  obtain ⟨r21,e22,hl18⟩:=bind_some hl18
  obtain ⟨l24,e25,hl18⟩:=bind_some hl18
  have hb26:=Qt e25 -- ^
  refine Xs (its:=[raw b15 (enc r13),raw b11 [u7,u10],osl NoB (r8 : List UInt8) u10,osl NoB (r5 : List UInt8) u7,raw b3 (enc (Vector.replicate 32 (0 : UInt8))),raw b1 (enc p1)]) (mk:=([mkO 2 (fun v=>osl NoB (r21 : List UInt8) v),mkL 4 [2] 2 (fun us=>[(us.getD 0 undef),(Ya (.slice (some ⟨b15,0,none⟩) 32 32) ((0 : Int)).toNat ((32 : Int)).toNat 1)])] : Mk)) [15,16,17,18,19] Yy rfl rfl (by decide) rfl hE (fun u=>M.qE (M.qE (M.q0 hM.drew u) emL) emO) (qsP (fun z=>Zp z.E Za ld rfl (kr0 rfl)) (qsP (v:=(Value.agg (enc p1).toArray)) ?_ (qsM (pr:=fun v=>True) ?_ (qsP (fun z=>Vz (N:=32) z.E Za ld rfl rfl rfl rfl rfl Tryz.underlying35 ty5 hb26 (kr0 rfl)) (qsM (pr:=fun v=>True) ?_ qs0))))) ?_
  ·intro a w ux20 D z
   have hE:=z.E
   have hM:=z.M
   exact Zr hE rfl ZF rfl hM.rawAt5 (Flat.len _) fun a hE=>⟨Kept.refl _ _,_,rfl,hE⟩
  ·intro a w ux20 D z
   have hE:=z.E
   have hD : D 2 = false:=z.F
   have hsL : D 4 = false:=JN (j:=4) (k:=0) z.c rfl rfl rfl hD
   have hM0:=z.M
   have hM:=z.M
   refine Zx hE rfl Zcm (T4 _ p1 165 r21 e22) ?_
   rintro _ w a ⟨_,rfl,hFr,hK⟩ hE
   have hM:=hM0.add hK hFr
   have hM:=M.litOff (its:=_ :: [raw b15 (enc r13),raw b11 [u7,u10],osl NoB (r8 : List UInt8) u10,osl NoB (r5 : List UInt8) u7,raw b3 (enc (Vector.replicate 32 (0 : UInt8))),raw b1 (enc p1)]) (mk:=([mkO 2 (fun v=>osl NoB (r21 : List UInt8) v)] : Mk)) (i:=4) (ds:=[2]) (m:=2) (f:=(fun us=>[(us.getD 0 undef),(Ya (.slice (some ⟨b15,0,none⟩) 32 32) ((0 : Int)).toNat ((32 : Int)).toNat 1)])) hM hsL
   exact ⟨_,_,rfl,hE,(M.litOn (its:=[raw b15 (enc r13),raw b11 [u7,u10],osl NoB (r8 : List UInt8) u10,osl NoB (r5 : List UInt8) u7,raw b3 (enc (Vector.replicate 32 (0 : UInt8))),raw b1 (enc p1)]) (mk:=([mkO 2 (fun v=>osl NoB (r21 : List UInt8) v)] : Mk)) (i:=4) (ds:=[2]) (m:=2) (f:=(fun us=>[(us.getD 0 undef),(Ya (.slice (some ⟨b15,0,none⟩) 32 32) ((0 : Int)).toNat ((32 : Int)).toNat 1)])) (M.qFill (its:=[raw b15 (enc r13),raw b11 [u7,u10],osl NoB (r8 : List UInt8) u10,osl NoB (r5 : List UInt8) u7,raw b3 (enc (Vector.replicate 32 (0 : UInt8))),raw b1 (enc p1)]) (mk1:=[]) (mk2:=[]) (f:=(fun v=>osl NoB (r21 : List UInt8) v)) hM rfl hD) hsL (by decide)),trivial⟩
  ·intro a w ux20 D z
   have hE:=z.E
   have hD : D 4 = false:=z.F
   have d2 : D 2 = true:=z.p 0 _ rfl rfl
   have hM:=z.M.sure (pre:=[_,_,_,_,_,_]) d2
   refine Qo (xs:=[.tmp 17,.tmp 18]) (vs:=[(ux20 2),(Ya (.slice (some ⟨b15,0,none⟩) 32 32) ((0 : Int)).toNat ((32 : Int)).toNat 1)]) hE hM Za ld rfl rfl Tryz.underlying23 UP (by decide) (Vf (Ym (hM.sl (pre:=[_,_,_,_,_,_]) noB)) (Vf (Ym (Xb (At.sat hM.rawAt0 (by simp) (by decide)) e25)) H4)) ?_; intro b27 w a hM hE
   have hM:=hM.unsure (pre:=[_,_,_,_,_,_,_]) d2
   exact ⟨_,_,rfl,hE,M.litFill (its:=[raw b15 (enc r13),raw b11 [u7,u10],osl NoB (r8 : List UInt8) u10,osl NoB (r5 : List UInt8) u7,raw b3 (enc (Vector.replicate 32 (0 : UInt8))),raw b1 (enc p1)]) (mk:=([mkO 2 (fun v=>osl NoB (r21 : List UInt8) v)] : Mk)) (i:=4) (ds:=[2]) (m:=2) (f:=(fun us=>[(us.getD 0 undef),(Ya (.slice (some ⟨b15,0,none⟩) 32 32) ((0 : Int)).toNat ((32 : Int)).toNat 1)])) hM rfl hD (by decide),trivial⟩
  ·intro a w ux20 D hE hM hG hall
   have d2:=hall 2 (by decide)
   have d4:=hall 4 (by decide)
   have hM:=((hM.sure (pre:=[_,_,_,_,_,_]) d2).sure (pre:=[_,_,_,_,_,_,_]) d4).pull
   obtain ⟨b29,f30,hM⟩:=M.litOpen hM
   have hE:=hE.setq (t:=19) rfl f30
   obtain ⟨r31,e32,hl18⟩:=bind_some hl18
   refine Zx hE rfl cb69 (Vr _ p0 v0_1 (hM.rdo hv0_1) ([r21,l24] : (List (List UInt8))) (Value.slice (some ⟨b29,0,none⟩) 2 2) (Bq hM.rawAt0 (hM.rawLt (pre:=[])) ⟨(hM.sl (pre:=[_,_,_,_,_,_,_]) noB),(Xb (At.sat hM.rawAt1 (by simp) (by decide)) e25),trivial⟩ rfl) r31 e32) ?_
   rintro v w a ⟨rfl,hK⟩ hE
   have hM:=(hM.keep hK).pull5
   refine Zn (seg:=enc r31) (cs':=enc r31) hE hM Za rfl rfl rfl ZR (Flat.len _) (zle flq) (Flat.cell _) (Zk flq) fun w a hM hE=>Zf ?_
   obtain rfl:=Option.some.inj hl18
   refine Zh ?_
   have hM:=M.fst (l:=[_]) hM
   exact ⟨hE.sub ⟨rfl,trivial⟩,hM⟩
 ·skip
  rintro a w ⟨hE,hM⟩
  obtain rfl:=Option.some.inj hF19
  have hq34 : Yt Tryz.prog _ _ (.cell 6 35) _:=ZQ hE rfl ZR rfl hM.rawAt0 (Flat.len _) rfl
  exact wp_ret (ZN hE rfl hq34 ⟨_,rfl,rfl,hM.kept⟩)
def Wi (p0 : (Ref Gengine)) (p1 : GVault) (p2 : GRecord) : Option ((Vector UInt8 32)) :=
 (idx p1.Keys p2.Version).bind fun x7=>(Xc x7 129).bind fun r10=>(Qf 16 r10).bind fun x13=>((Yv p2.Number 4).bind fun r21=>(slc p2.Nonce.toList (0 : Int) (16 : Int)).bind fun l26=>(Vs p0 x13 ([r21,([Zv p2.Version] : List UInt8),l26,([Zv (p2.Label.length : Int)] : List UInt8),p2.Label,p2.Body] : (List (List UInt8)))).bind fun r35=>some r35 : Option ((Vector UInt8 32))).bind fun j17=>some j17
theorem Jt (w0 : World) (p0 : (Ref Gengine)) (v0_1 : Value) (hv0_1 : Ro w0 p0 [v0_1]) (p1 : GVault) (v1_1 : Value) (hv1_1 : Ro w0 p1.Keys [v1_1]) (v1_2 : Value) (hv1_2 : Ro w0 p1.Records [v1_2]) (v1_3 : Value) (hv1_3 : Ro w0 p1.Events [v1_3]) (p2 : GRecord) (v2_1 : Value) (hv2_1 : Ro w0 p2.Label [v2_1]) (v2_2 : Value) (hv2_2 : Ro w0 p2.Body [v2_2]) (r : (Vector UInt8 32)) (hF : Wi p0 p1 p2 = some r) :
  Calls Tryz.prog 108 [v0_1,(Value.agg (cat [[v1_1],[vI p1.Next],[v1_2],[v1_3],enc p1.Head]).toArray),(Value.agg (cat [[vI p2.Number],[vI p2.Version],enc p2.Nonce,[v2_1],[v2_2],enc p2.Tag]).toArray)].toArray w0 (Rt w0 (Value.agg (enc r).toArray)):=by
 refine ce Tryz.func108 ?_
 intro a hE
 have hM:=M.start w0
 unfold Wi at hF
 refine Zb (ZT (cs:=cat [[v1_1],[vI p1.Next],[v1_2],[v1_3],enc p1.Head]) hE hM Za ld rfl rfl fun b1 w a hM hE=>ZT (cs:=cat [[vI p2.Number],[vI p2.Version],enc p2.Nonce,[v2_1],[v2_2],enc p2.Tag]) hE hM Za ld rfl rfl fun b3 w a hM hE=>Zz hE hM ZR fun b5 w a hM hE=>Ze (Zb (Zg hE rfl (Qj) fun a hE=>Zw (v:=v1_1) hE rfl HV rfl (At.cat (pre:=[]) hM.rawAt2 cl0) fun a hE=>Zg hE rfl (TR) fun a hE=>Zw (v:=(vI p2.Version)) hE rfl ty2 rfl (At.cat (pre:=[[vI p2.Number]]) hM.rawAt1 ck) ?_))); intro a hE
 obtain ⟨x7,hi9,hF⟩:=bix hF
 refine ZL hE rfl rfl Tryz.underlying54 ZF (hM.rd hv1_1) hi9.1 fun a hE=>Zr hE rfl ZF rfl (Yp (hM.rd hv1_1) hi9.2) (Flat.len _) ?_; intro a hE
 obtain ⟨r10,e11,hF⟩:=bind_some hF
 refine Zx hE rfl Zcm (T4 _ x7 129 r10 e11) ?_
 rintro u12 w a ⟨_,rfl,hFr,hK⟩ hE
 have hM:=hM.add hK hFr
 obtain ⟨x13,e14,hF⟩:=bind_some hF
 refine HB hE Za ld rfl Tryz.underlying68 (hM.sl (pre:=[]) noB) (Ql e14).1 (by decide) fun a hE=>Zr hE rfl ZF rfl (zf (hM.sl (pre:=[]) noB) e14 (by decide)) (Flat.len _) fun a hE=>Zz hE hM ZF fun b15 w a hM hE=>Zn (seg:=enc x13) (cs':=enc x13) hE hM Za rfl rfl rfl ZF (Flat.len _) (zle flq) (Flat.cell _) (Zk flq) fun w a hM hE=>Ze ?_
 obtain ⟨j17,hl18,hF19⟩:=bind_some hF
 refine ZI (fun a w=>Env 39 a [(6,(ptr b5 0))] ∧ M (Old w0) w0 w [raw b5 (enc j17)]) ?_ ?_
 ·skip
  obtain ⟨r21,e22,hl18⟩:=bind_some hl18
  obtain ⟨l26,e27,hl18⟩:=bind_some hl18
  have hb28:=Qt e27 -- ^
  refine Xs (its:=[raw b15 (enc x13),osl NoB (r10 : List UInt8) u12,raw b5 (enc (Vector.replicate 32 (0 : UInt8))),raw b3 (cat [[vI p2.Number],[vI p2.Version],enc p2.Nonce,[v2_1],[v2_2],enc p2.Tag]),raw b1 (cat [[v1_1],[vI p1.Next],[v1_2],[v1_3],enc p1.Head])]) (mk:=([mkO 4 (fun v=>osl NoB (r21 : List UInt8) v),mkO 8 (fun v=>osl NoB (([Zv p2.Version] : List UInt8) : List UInt8) v),mkO 15 (fun v=>osl NoB (([Zv (p2.Label.length : Int)] : List UInt8) : List UInt8) v),mkL 20 [4,8,15] 6 (fun us=>[(us.getD 0 undef),(us.getD 1 undef),(Ya (.slice (some ⟨b3,0 + 2,none⟩) 16 16) ((0 : Int)).toNat ((16 : Int)).toNat 1),(us.getD 2 undef),v2_1,v2_2])] : Mk)) [17,18,19,20,21,22,23,24,25,26,27,28,29,30,31,32,33,34,35,36,37] Yy rfl rfl (by decide) rfl hE (fun u=>M.qE (M.qE (M.qE (M.qE (M.q0 hM.drew u) emL) emO) emO) emO) (qsP (fun z=>Zp z.E Za ld rfl (kr0 rfl)) (qsP (v:=(Value.agg (enc x13).toArray)) ?_ (qsP (fun z=>Zq z.E Za ld rfl (XX) (kr0 rfl)) (qsP (v:=(vI p2.Number)) ?_ (qsM (pr:=fun v=>True) ?_ (qsP (fun z=>Zq z.E Za ld rfl (TR) (kr0 rfl)) (qsP (v:=(vI p2.Version)) ?_ (qsP (fun z=>Yj z.E Za ld rfl Tryz.underlying2 Tryz.underlying5 (kr0 rfl)) (qsM (pr:=fun v=>True) ?_ (qsP (fun z=>Zq z.E Za ld rfl (Jk) (kr0 rfl)) (qsP (fun z=>Vz (N:=16) z.E Za ld rfl rfl rfl rfl rfl Tryz.underlying68 ty5 hb28 (kr0 rfl)) (qsP (fun z=>Zq z.E Za ld rfl (Qc) (kr0 rfl)) (qsP (v:=v2_1) ?_ (qsP (v:=(vI (p2.Label.length : Int))) ?_ (qsP (fun z=>Yj z.E Za ld rfl Tryz.underlying3 Tryz.underlying5 (kr0 rfl)) (qsM (pr:=fun v=>True) ?_ (qsP (fun z=>Zq z.E Za ld rfl (Qc) (kr0 rfl)) (qsP (v:=v2_1) ?_ (qsP (fun z=>Zq z.E Za ld rfl (Kc) (kr0 rfl)) (qsP (v:=v2_2) ?_ (qsM (pr:=fun v=>True) ?_ qs0))))))))))))))))))))) ?_
  ·intro a w ux20 D z
   have hE:=z.E
   have hM:=z.M
   exact Zr hE rfl ZF rfl hM.rawAt0 (Flat.len _) fun a hE=>⟨Kept.refl _ _,_,rfl,hE⟩
  ·intro a w ux20 D z
   have hE:=z.E
   have hM:=z.M
   exact Zw (v:=(vI p2.Number)) hE rfl ty2 rfl (At.cat (pre:=[]) hM.rawAt3 cl0) fun a hE=>⟨Kept.refl _ _,_,rfl,hE⟩
  ·intro a w ux20 D z
   have hE:=z.E
   have hD : D 4 = false:=z.F
   have hsL : D 20 = false:=JN (j:=20) (k:=0) z.c rfl rfl rfl hD
   have hM0:=z.M
   have hM:=z.M
   refine Zx hE rfl Zba (Qh _ p2.Number 4 r21 e22) ?_
   rintro _ w a ⟨_,rfl,hFr,hK⟩ hE
   have hM:=hM0.add hK hFr
   have hM:=M.litOff (its:=_ :: [raw b15 (enc x13),osl NoB (r10 : List UInt8) u12,raw b5 (enc (Vector.replicate 32 (0 : UInt8))),raw b3 (cat [[vI p2.Number],[vI p2.Version],enc p2.Nonce,[v2_1],[v2_2],enc p2.Tag]),raw b1 (cat [[v1_1],[vI p1.Next],[v1_2],[v1_3],enc p1.Head])]) (mk:=([mkO 4 (fun v=>osl NoB (r21 : List UInt8) v),mkO 8 (fun v=>osl NoB (([Zv p2.Version] : List UInt8) : List UInt8) v),mkO 15 (fun v=>osl NoB (([Zv (p2.Label.length : Int)] : List UInt8) : List UInt8) v)] : Mk)) (i:=20) (ds:=[4,8,15]) (m:=6) (f:=(fun us=>[(us.getD 0 undef),(us.getD 1 undef),(Ya (.slice (some ⟨b3,0 + 2,none⟩) 16 16) ((0 : Int)).toNat ((16 : Int)).toNat 1),(us.getD 2 undef),v2_1,v2_2])) hM hsL
   exact ⟨_,_,rfl,hE,(M.litOn (its:=[raw b15 (enc x13),osl NoB (r10 : List UInt8) u12,raw b5 (enc (Vector.replicate 32 (0 : UInt8))),raw b3 (cat [[vI p2.Number],[vI p2.Version],enc p2.Nonce,[v2_1],[v2_2],enc p2.Tag]),raw b1 (cat [[v1_1],[vI p1.Next],[v1_2],[v1_3],enc p1.Head])]) (mk:=([mkO 4 (fun v=>osl NoB (r21 : List UInt8) v),mkO 8 (fun v=>osl NoB (([Zv p2.Version] : List UInt8) : List UInt8) v),mkO 15 (fun v=>osl NoB (([Zv (p2.Label.length : Int)] : List UInt8) : List UInt8) v)] : Mk)) (i:=20) (ds:=[4,8,15]) (m:=6) (f:=(fun us=>[(us.getD 0 undef),(us.getD 1 undef),(Ya (.slice (some ⟨b3,0 + 2,none⟩) 16 16) ((0 : Int)).toNat ((16 : Int)).toNat 1),(us.getD 2 undef),v2_1,v2_2])) (M.qFill (its:=[raw b15 (enc x13),osl NoB (r10 : List UInt8) u12,raw b5 (enc (Vector.replicate 32 (0 : UInt8))),raw b3 (cat [[vI p2.Number],[vI p2.Version],enc p2.Nonce,[v2_1],[v2_2],enc p2.Tag]),raw b1 (cat [[v1_1],[vI p1.Next],[v1_2],[v1_3],enc p1.Head])]) (mk1:=[]) (mk2:=[_,_]) (f:=(fun v=>osl NoB (r21 : List UInt8) v)) hM rfl hD) hsL (by decide)),trivial⟩
  ·intro a w ux20 D z
   have hE:=z.E
   have hM:=z.M
   exact Zw (v:=(vI p2.Version)) hE rfl ty2 rfl (At.cat (pre:=[[vI p2.Number]]) hM.rawAt3 ck) fun a hE=>⟨Kept.refl _ _,_,rfl,hE⟩
  ·intro a w ux20 D z
   have hE:=z.E
   have hD : D 8 = false:=z.F
   have hsL : D 20 = false:=JN (j:=20) (k:=1) z.c rfl rfl rfl hD
   have hM:=z.M
   refine ZP (xs:=[.tmp 24]) (l:=([Zv p2.Version] : List UInt8)) (vs:=[(vB (Zv p2.Version))]) hE hM Za ld rfl rfl Tryz.underlying40 ty5 rfl (by decide) rfl ?_; intro u24 w a hM hE
   have hM:=M.litOff (its:=_ :: [raw b15 (enc x13),osl NoB (r10 : List UInt8) u12,raw b5 (enc (Vector.replicate 32 (0 : UInt8))),raw b3 (cat [[vI p2.Number],[vI p2.Version],enc p2.Nonce,[v2_1],[v2_2],enc p2.Tag]),raw b1 (cat [[v1_1],[vI p1.Next],[v1_2],[v1_3],enc p1.Head])]) (mk:=([mkO 4 (fun v=>osl NoB (r21 : List UInt8) v),mkO 8 (fun v=>osl NoB (([Zv p2.Version] : List UInt8) : List UInt8) v),mkO 15 (fun v=>osl NoB (([Zv (p2.Label.length : Int)] : List UInt8) : List UInt8) v)] : Mk)) (i:=20) (ds:=[4,8,15]) (m:=6) (f:=(fun us=>[(us.getD 0 undef),(us.getD 1 undef),(Ya (.slice (some ⟨b3,0 + 2,none⟩) 16 16) ((0 : Int)).toNat ((16 : Int)).toNat 1),(us.getD 2 undef),v2_1,v2_2])) hM hsL
   exact ⟨_,_,rfl,hE,(M.litOn (its:=[raw b15 (enc x13),osl NoB (r10 : List UInt8) u12,raw b5 (enc (Vector.replicate 32 (0 : UInt8))),raw b3 (cat [[vI p2.Number],[vI p2.Version],enc p2.Nonce,[v2_1],[v2_2],enc p2.Tag]),raw b1 (cat [[v1_1],[vI p1.Next],[v1_2],[v1_3],enc p1.Head])]) (mk:=([mkO 4 (fun v=>osl NoB (r21 : List UInt8) v),mkO 8 (fun v=>osl NoB (([Zv p2.Version] : List UInt8) : List UInt8) v),mkO 15 (fun v=>osl NoB (([Zv (p2.Label.length : Int)] : List UInt8) : List UInt8) v)] : Mk)) (i:=20) (ds:=[4,8,15]) (m:=6) (f:=(fun us=>[(us.getD 0 undef),(us.getD 1 undef),(Ya (.slice (some ⟨b3,0 + 2,none⟩) 16 16) ((0 : Int)).toNat ((16 : Int)).toNat 1),(us.getD 2 undef),v2_1,v2_2])) (M.qFill (its:=[raw b15 (enc x13),osl NoB (r10 : List UInt8) u12,raw b5 (enc (Vector.replicate 32 (0 : UInt8))),raw b3 (cat [[vI p2.Number],[vI p2.Version],enc p2.Nonce,[v2_1],[v2_2],enc p2.Tag]),raw b1 (cat [[v1_1],[vI p1.Next],[v1_2],[v1_3],enc p1.Head])]) (mk1:=[_]) (mk2:=[_]) (f:=(fun v=>osl NoB (([Zv p2.Version] : List UInt8) : List UInt8) v)) hM rfl hD) hsL (by decide)),trivial⟩
  ·intro a w ux20 D z
   have hE:=z.E
   have hM:=z.M
   exact Zw (v:=v2_1) hE rfl UP rfl (At.cat (pre:=[[vI p2.Number],[vI p2.Version],enc p2.Nonce]) hM.rawAt3 ck) fun a hE=>⟨Kept.refl _ _,_,rfl,hE⟩
  ·intro a w ux20 D z
   have hE:=z.E
   have hM:=z.M
   exact Z2 hE rfl Tryz.underlying40 (hM.rd hv2_1) fun a hE=>⟨Kept.refl _ _,_,rfl,hE⟩
  ·intro a w ux20 D z
   have hE:=z.E
   have hD : D 15 = false:=z.F
   have hsL : D 20 = false:=JN (j:=20) (k:=3) z.c rfl rfl rfl hD
   have hM:=z.M
   refine ZP (xs:=[.tmp 31]) (l:=([Zv (p2.Label.length : Int)] : List UInt8)) (vs:=[(vB (Zv (p2.Label.length : Int)))]) hE hM Za ld rfl rfl Tryz.underlying40 ty5 rfl (by decide) rfl ?_; intro u29 w a hM hE
   have hM:=M.litOff (its:=_ :: [raw b15 (enc x13),osl NoB (r10 : List UInt8) u12,raw b5 (enc (Vector.replicate 32 (0 : UInt8))),raw b3 (cat [[vI p2.Number],[vI p2.Version],enc p2.Nonce,[v2_1],[v2_2],enc p2.Tag]),raw b1 (cat [[v1_1],[vI p1.Next],[v1_2],[v1_3],enc p1.Head])]) (mk:=([mkO 4 (fun v=>osl NoB (r21 : List UInt8) v),mkO 8 (fun v=>osl NoB (([Zv p2.Version] : List UInt8) : List UInt8) v),mkO 15 (fun v=>osl NoB (([Zv (p2.Label.length : Int)] : List UInt8) : List UInt8) v)] : Mk)) (i:=20) (ds:=[4,8,15]) (m:=6) (f:=(fun us=>[(us.getD 0 undef),(us.getD 1 undef),(Ya (.slice (some ⟨b3,0 + 2,none⟩) 16 16) ((0 : Int)).toNat ((16 : Int)).toNat 1),(us.getD 2 undef),v2_1,v2_2])) hM hsL
   exact ⟨_,_,rfl,hE,(M.litOn (its:=[raw b15 (enc x13),osl NoB (r10 : List UInt8) u12,raw b5 (enc (Vector.replicate 32 (0 : UInt8))),raw b3 (cat [[vI p2.Number],[vI p2.Version],enc p2.Nonce,[v2_1],[v2_2],enc p2.Tag]),raw b1 (cat [[v1_1],[vI p1.Next],[v1_2],[v1_3],enc p1.Head])]) (mk:=([mkO 4 (fun v=>osl NoB (r21 : List UInt8) v),mkO 8 (fun v=>osl NoB (([Zv p2.Version] : List UInt8) : List UInt8) v),mkO 15 (fun v=>osl NoB (([Zv (p2.Label.length : Int)] : List UInt8) : List UInt8) v)] : Mk)) (i:=20) (ds:=[4,8,15]) (m:=6) (f:=(fun us=>[(us.getD 0 undef),(us.getD 1 undef),(Ya (.slice (some ⟨b3,0 + 2,none⟩) 16 16) ((0 : Int)).toNat ((16 : Int)).toNat 1),(us.getD 2 undef),v2_1,v2_2])) (M.qFill (its:=[raw b15 (enc x13),osl NoB (r10 : List UInt8) u12,raw b5 (enc (Vector.replicate 32 (0 : UInt8))),raw b3 (cat [[vI p2.Number],[vI p2.Version],enc p2.Nonce,[v2_1],[v2_2],enc p2.Tag]),raw b1 (cat [[v1_1],[vI p1.Next],[v1_2],[v1_3],enc p1.Head])]) (mk1:=[_,_]) (mk2:=[]) (f:=(fun v=>osl NoB (([Zv (p2.Label.length : Int)] : List UInt8) : List UInt8) v)) hM rfl hD) hsL (by decide)),trivial⟩
  ·intro a w ux20 D z
   have hE:=z.E
   have hM:=z.M
   exact Zw (v:=v2_1) hE rfl UP rfl (At.cat (pre:=[[vI p2.Number],[vI p2.Version],enc p2.Nonce]) hM.rawAt3 ck) fun a hE=>⟨Kept.refl _ _,_,rfl,hE⟩
  ·intro a w ux20 D z
   have hE:=z.E
   have hM:=z.M
   exact Zw (v:=v2_2) hE rfl UP rfl (At.cat (pre:=[[vI p2.Number],[vI p2.Version],enc p2.Nonce,[v2_1]]) hM.rawAt3 ck) fun a hE=>⟨Kept.refl _ _,_,rfl,hE⟩
  ·intro a w ux20 D z
   have hE:=z.E
   have hD : D 20 = false:=z.F
   have d4 : D 4 = true:=z.p 0 _ rfl rfl
   have d8 : D 8 = true:=z.p 1 _ rfl rfl
   have d15 : D 15 = true:=z.p 3 _ rfl rfl
   have hM:=((z.M.sure (pre:=[_,_,_,_,_]) d4).sure (pre:=[_,_,_,_,_,_]) d8).sure (pre:=[_,_,_,_,_,_,_]) d15
   refine Qo (xs:=[.tmp 21,.tmp 25,.tmp 27,.tmp 32,.tmp 34,.tmp 36]) (vs:=[(ux20 4),(ux20 8),(Ya (.slice (some ⟨b3,0 + 2,none⟩) 16 16) ((0 : Int)).toNat ((16 : Int)).toNat 1),(ux20 15),v2_1,v2_2]) hE hM Za ld rfl rfl Tryz.underlying23 UP (by decide) (Vf (Ym (hM.sl (pre:=[_,_,_,_,_]) noB)) (Vf (Ym (hM.sl (pre:=[_,_,_,_,_,_]) noB)) (Vf (Ym (Xb (At.sat (At.cat (pre:=[[vI p2.Number],[vI p2.Version]]) hM.rawAt3 ck) (by simp) (by decide)) e27)) (Vf (Ym (hM.sl (pre:=[_,_,_,_,_,_,_]) noB)) (Vf (Ym (hM.rd hv2_1)) (Vf (Ym (hM.rd hv2_2)) H4)))))) ?_; intro b31 w a hM hE
   have hM:=((hM.unsure (pre:=[_,_,_,_,_,_,_,_]) d15).unsure (pre:=[_,_,_,_,_,_,_]) d8).unsure (pre:=[_,_,_,_,_,_]) d4
   exact ⟨_,_,rfl,hE,M.litFill (its:=[raw b15 (enc x13),osl NoB (r10 : List UInt8) u12,raw b5 (enc (Vector.replicate 32 (0 : UInt8))),raw b3 (cat [[vI p2.Number],[vI p2.Version],enc p2.Nonce,[v2_1],[v2_2],enc p2.Tag]),raw b1 (cat [[v1_1],[vI p1.Next],[v1_2],[v1_3],enc p1.Head])]) (mk:=([mkO 4 (fun v=>osl NoB (r21 : List UInt8) v),mkO 8 (fun v=>osl NoB (([Zv p2.Version] : List UInt8) : List UInt8) v),mkO 15 (fun v=>osl NoB (([Zv (p2.Label.length : Int)] : List UInt8) : List UInt8) v)] : Mk)) (i:=20) (ds:=[4,8,15]) (m:=6) (f:=(fun us=>[(us.getD 0 undef),(us.getD 1 undef),(Ya (.slice (some ⟨b3,0 + 2,none⟩) 16 16) ((0 : Int)).toNat ((16 : Int)).toNat 1),(us.getD 2 undef),v2_1,v2_2])) hM rfl hD (by decide),trivial⟩
  ·intro a w ux20 D hE hM hG hall
   have d4:=hall 4 (by decide)
   have d8:=hall 8 (by decide)
   have d15:=hall 15 (by decide)
   have d20:=hall 20 (by decide)
   have hM:=((((hM.sure (pre:=[_,_,_,_,_]) d4).sure (pre:=[_,_,_,_,_,_]) d8).sure (pre:=[_,_,_,_,_,_,_]) d15).sure (pre:=[_,_,_,_,_,_,_,_]) d20).pull
   obtain ⟨b33,f34,hM⟩:=M.litOpen hM
   have hE:=hE.setq (t:=37) rfl f34
   obtain ⟨r35,e36,hl18⟩:=bind_some hl18
   refine Zx hE rfl (cbm Tryz.func165) (Hz _ p0 v0_1 (hM.rdo hv0_1) x13 ([r21,([Zv p2.Version] : List UInt8),l26,([Zv (p2.Label.length : Int)] : List UInt8),p2.Label,p2.Body] : (List (List UInt8))) (Value.slice (some ⟨b33,0,none⟩) 6 6) (Bq hM.rawAt0 (hM.rawLt (pre:=[])) ⟨(hM.sl (pre:=[_,_,_,_,_,_]) noB),(hM.sl (pre:=[_,_,_,_,_,_,_]) noB),(Xb (At.sat (At.cat (pre:=[[vI p2.Number],[vI p2.Version]]) hM.rawAt4 ck) (by simp) (by decide)) e27),(hM.sl (pre:=[_,_,_,_,_,_,_,_]) noB),(hM.rdo hv2_1),(hM.rdo hv2_2),trivial⟩ rfl) r35 e36) ?_
   rintro v w a ⟨rfl,hK⟩ hE
   have hM:=(hM.keep hK).pull3
   refine Zn (seg:=enc r35) (cs':=enc r35) hE hM Za rfl rfl rfl ZR (Flat.len _) (zle flq) (Flat.cell _) (Zk flq) fun w a hM hE=>Zf ?_
   obtain rfl:=Option.some.inj hl18
   refine Zh ?_
   have hM:=M.fst (l:=[_]) hM
   exact ⟨hE.sub ⟨rfl,trivial⟩,hM⟩
 ·skip
  rintro a w ⟨hE,hM⟩
  obtain rfl:=Option.some.inj hF19
  have hq38 : Yt Tryz.prog _ _ (.cell 6 35) _:=ZQ hE rfl ZR rfl hM.rawAt0 (Flat.len _) rfl
  exact wp_ret (ZN hE rfl hq38 ⟨_,rfl,rfl,hM.kept⟩)
def WE (p0 : GVault) (s50 : (List (Int × (Vector UInt8 32))) × Int × (List Int)) : Option (Fl ((List (Int × (Vector UInt8 32))) × Int × (List Int)) ((List (Int × (Vector UInt8 32))) × (List Int))) :=
 if (decide (s50.2.1 < (p0.Records.length : Int))) = true then ((idx p0.Records s50.2.1).bind fun x57=>(app 8 s50.2.2 ([x57.Number] : List Int)).bind fun l71=>some (Fl.nx ((Tz s50.1 x57.Number x57.Tag),wr (s50.2.1 + 1),(s50.2.2 ++ ([x57.Number] : List Int))))) else (some (Fl.ex (s50.1,s50.2.2)))
def V2 (r37 : (List (Int × (Vector UInt8 32)))) (j45 : (List (Int × (Vector UInt8 32))) × (List Int)) (s104 : (List (List Int)) × Int) : Option (Fl ((List (List Int)) × Int) (List (List Int))) :=
 if (decide (s104.2 < ((Lib.compact (Wo (j45.2 ++ (r37.map (·.1))))).length : Int))) = true then (((idx (Lib.compact (Wo (j45.2 ++ (r37.map (·.1))))) s104.2).bind fun x116=>(if (!((YG r37 x116).isSome)) = true then (some true) else (if (!((YG j45.1 x116).isSome)) = true then (some true) else (some (!decide (((YG r37 x116).getD (Vector.replicate 32 (0 : UInt8))) = ((YG j45.1 x116).getD (Vector.replicate 32 (0 : UInt8))))))) : Option (Bool)).bind fun j123=>(if j123 = true then ((app 24 s104.1 ([([2,x116] : List Int)] : List (List Int))).bind fun l142=>some (s104.1 ++ ([([2,x116] : List Int)] : List (List Int)))) else (some s104.1) : Option ((List (List Int)))).bind fun j131=>some j131 : Option ((List (List Int)))).bind fun j111=>some (Fl.nx (j111,wr (s104.2 + 1)))) else (some (Fl.ex s104.1))
def Ww (p0 : GVault) (r7 : (Ref Gengine)) (s156 : Int × (List (List Int))) : Option (Fl (Int × (List (List Int))) (List (List Int))) :=
 if (decide (s156.1 < (p0.Records.length : Int))) = true then (((idx p0.Records s156.1).bind fun x168=>((Wi r7 p0 x168).bind fun r184=>some (!decide (r184 = x168.Tag)) : Option (Bool)).bind fun j180=>(if j180 = true then ((app 24 s156.2 ([([3,x168.Number] : List Int)] : List (List Int))).bind fun l198=>some (s156.2 ++ ([([3,x168.Number] : List Int)] : List (List Int)))) else (some s156.2) : Option ((List (List Int)))).bind fun j187=>some j187 : Option ((List (List Int)))).bind fun j163=>some (Fl.nx (wr (s156.1 + 1),j163))) else (some (Fl.ex s156.2))
def W5 (p0 : GVault) : Option ((List (List Int)) × Int) :=
 (U1 p0).bind fun r3=>if (!r3) = true then (some ([],1)) else ((WS).bind fun r7=>(((WO r7 p0.Events).bind fun r21=>some (!decide (r21 = p0.Head)) : Option (Bool)).bind fun j17=>if j17 = true then ((app 24 ([] : List (List Int)) ([([1] : List Int)] : List (List Int))).bind fun l30=>some (([] : List (List Int)) ++ ([([1] : List Int)] : List (List Int)))) else (some ([] : List (List Int))) : Option ((List (List Int)))).bind fun j12=>(UD p0.Events).bind fun r37=>(ZB (WE p0) (([] : (List (Int × (Vector UInt8 32)))),0,([] : List Int))).bind fun j45=>(app 8 j45.2 (r37.map (·.1))).bind fun j81=>(ZB (V2 r37 j45) (j12,0)).bind fun j99=>(ZB (Ww p0 r7) (0,j99)).bind fun j151=>some (j151,0))
theorem KI (w0 : World) (p0 : GVault) (v0_1 : Value) (hv0_1 : Ro w0 p0.Keys [v0_1]) (v0_2 : Value) (hv0_2 : Ro w0 p0.Records [v0_2]) (v0_3 : Value) (hv0_3 : Ro w0 p0.Events [v0_3]) (r : (List (List Int)) × Int) (hF : W5 p0 = some r) :
  Calls Tryz.prog 36 [(Value.agg (cat [[v0_1],[vI p0.Next],[v0_2],[v0_3],enc p0.Head]).toArray)].toArray w0 (fun en w'=>∃ v,en = .returned v ∧ (∃ (y1 : Value),v = (Value.tuple [y1,vI r.2].toArray) ∧ Fr w0 w' [osl NoB (r.1 : List (List Int)) y1] ∧ Kept (Old w0) w0 w')):=by
 refine ce Tryz.func36 ?_
 intro a hE
 have hM:=M.start w0
 unfold W5 at hF
 refine Zb (ZT (cs:=cat [[v0_1],[vI p0.Next],[v0_2],[v0_3],enc p0.Head]) hE hM Za ld rfl rfl fun b1 w a hM hE=>Zc hE rfl fun a hE=>Zc hE rfl fun a hE=>Ze (wp_seq (Zb (Zr hE rfl Ke rfl hM.rawAt0 cq ?_)))); intro a hE
 obtain ⟨r3,e4,hF⟩:=bind_some hF
 refine Zx hE rfl (cbm Tryz.func103) (za _ p0 v0_1 (hM.rdo hv0_1) v0_2 (hM.rdo hv0_2) v0_3 (hM.rdo hv0_3) r3 e4) ?_
 rintro v w a ⟨rfl,hK⟩ hE
 have hM:=hM.keep hK
 refine Qa hE rfl fun a hE=>Ze ?_
 refine Zo hE rfl ?_ ?_
 ·intro hb5
  have hF:=Zs hF hb5
  refine Zb (Zc hE rfl fun a hE=>Zc hE rfl fun a hE=>Ze ?_)
  have hM:=M.nilS (α:=(List Int)) NoB noB hM
  obtain rfl:=Option.some.inj hF
  have hM:=M.fst (l:=[_]) hM
  exact wp_ret (ZA (Ja hE rfl (ZY hE rfl) (ZY hE rfl) ⟨_,rfl,(Value.slice none 0 0),rfl,hM.outF (Wm XZ),hM.kept⟩))
 ·intro hb5
  have hF:=Zt hF hb5
  refine wp_skip (Zu (Zb ?_))
  obtain ⟨r7,e8,hF⟩:=bind_some hF
  refine Zx hE rfl (cbm Tryz.func89) (Ha _  r7 e8) ?_
  rintro u9 w a ⟨_,rfl,hFr,hK⟩ hE
  have hM:=hM.add hK hFr
  refine Am (xs:=[]) (S:=NoB) (l:=([] : List (List Int))) (vs:=[]) hE hM.emp noB Za ld rfl rfl rfl Tryz.underlying73 Q5 rfl (by decide) (fun _ h=>⟨rfl,h⟩) (fun _ h=>by cases h) fun u10 w a hM hE=>Zc hE rfl fun a hE=>Zc hE rfl fun a hE=>Ze ?_
  obtain ⟨j12,hl13,hF14⟩:=bind_some hF
  refine ZI (fun a w=>∃ (u15 : Value),Env 129 a [(1,(ptr b1 0)),(4,u9),(5,u15)] ∧ M (Old w0) w0 w [own NoB (r7 : (Ref Gengine)) [u9],raw b1 (cat [[v0_1],[vI p0.Next],[v0_2],[v0_3],enc p0.Head]),osl NoB (j12 : List (List Int)) u15]) ?_ ?_
  ·skip
   obtain ⟨j17,hl18,hF19⟩:=bind_some hl13
   refine ZI (fun a w=>Env 129 a [(1,(ptr b1 0)),(4,u9),(5,u10),(31,vT j17)] ∧ M (Old w0) w0 w [osl NoB (([] : List (List Int)) : List (List Int)) u10,own NoB (r7 : (Ref Gengine)) [u9],raw b1 (cat [[v0_1],[vI p0.Next],[v0_2],[v0_3],enc p0.Head])]) ?_ ?_
   ·skip
    obtain ⟨r21,e22,hl18⟩:=bind_some hl18
    refine ZX [25,26,27,28,29,30,31] Yy rfl rfl (by decide) rfl hE hM (qsP (fun z=>Zp z.E Za ld rfl (kr0 rfl)) (qsP (fun z=>Zq z.E Za ld rfl (TZ) (kr0 rfl)) (qsP (fun z=>ZK (v:=v0_3) z.E Za ld rfl Jv rfl (At.cat (pre:=[[v0_1],[vI p0.Next],[v0_2]]) (z.M.rawAt2) ck) (kr0 rfl)) (qsP (fun z=>ZV z.E Za ld rfl (cbm Tryz.func113) (JP _ r7 u9 (z.M.ro (pre:=[_]) noB) p0.Events v0_3 (z.M.rdo hv0_3) r21 e22) (kc rfl)) (qsP (fun z=>Zq z.E Za ld rfl (zk) (kr0 rfl)) (qsP (fun z=>Z1 z.E Za ld rfl ZR rfl (At.cat (pre:=[[v0_1],[vI p0.Next],[v0_2],[v0_3]]) (z.M.rawAt2) ck) (Flat.len _) (kr0 rfl)) (qsP (fun z=>yb z.E Za ld rfl rfl (Kr Tryz.underlying35 ty5 rfl false rfl (by decide) (QQ Tryz.underlying5)) (by decide) (by kernel_rfl) (kr0 rfl)) qs0))))))) ?_
    ·intro a w u hE hM
     refine Zf ?_
     obtain rfl:=Option.some.inj hl18
     refine Zh ?_
     exact ⟨hE.sub ⟨rfl,rfl,rfl,rfl,trivial⟩,hM⟩
   ·skip
    rintro a w ⟨hE,hM⟩
    refine Zo hE rfl ?_ ?_
    ·intro hb24
     have hF19:=Zs hF19 hb24
     refine wp_region_lit (Zd hE rfl fun a hE=>ZP (xs:=[.const (vI 1)]) (l:=([1] : List Int)) (vs:=[vI 1]) hE hM Za ld rfl rfl Tryz.underlying24 ty2 rfl (by decide) rfl ?_); intro u25 w a hM hE
     have hc29:=Ym (hM.sl (pre:=[]) noB)
     have hM:=hM.pack1 (it:=own NoB ([1] : List Int) ([u25])) (YR noB) (fun f0 q0=>(Xq.sat q0))
     refine Kk (xs:=[.tmp 33]) (seg:=[u25]) hE hM noB Za ld rfl hc29 Tryz.underlying73 Q5 rfl (by decide) ?_; intro u27 w a hM hE
     obtain ⟨l30,e31,hF19⟩:=bind_some hF19
     obtain ⟨e34,rfl⟩:=ZS e31
     have hM:=hM.pull1
     refine QU hE hM noB Za ld rfl rfl Tryz.underlying73 Q5 rfl (by decide) e34 fun u32 w a hM hE=>Zc hE rfl fun a hE=>Zf ?_
     obtain rfl:=Option.some.inj hF19
     refine Zh ?_
     have hM:=hM.pull2.pull2
     exact ⟨u32,hE.sub ⟨rfl,rfl,rfl,trivial⟩,hM⟩
    ·intro hb24
     have hF19:=Zt hF19 hb24
     refine wp_skip ?_
     obtain rfl:=Option.some.inj hF19
     refine Zh ?_
     have hM:=hM.pull2.pull2
     exact ⟨u10,hE.sub ⟨rfl,rfl,rfl,trivial⟩,hM⟩
  ·skip
   rintro a w ⟨u15,hE,hM⟩
   refine Zb (Zg hE rfl (TZ) fun a hE=>Zw (v:=v0_3) hE rfl Jv rfl (At.cat (pre:=[[v0_1],[vI p0.Next],[v0_2]]) hM.rawAt1 ck) ?_); intro a hE
   obtain ⟨r37,e38,hF14⟩:=bind_some hF14
   refine Zx hE rfl (cbm Tryz.func114) (BM _ p0.Events v0_3 (hM.rdo hv0_3) r37 e38) ?_
   rintro v w a ⟨b39,rfl,hFr,hK⟩ hE
   have hM:=hM.add hK hFr
   refine yk (κ:=Int) (α:=(Vector UInt8 32)) (S:=NoB) (Value.int .i64) (Qs (vv:=(fun x : Vector UInt8 32=>Value.agg (enc x).toArray))) hE hM noB Za ld fun b41 w a hM hE=>ZP (xs:=[]) (l:=([] : List Int)) (vs:=[]) hE hM Za ld rfl rfl Tryz.underlying24 ty2 rfl (by decide) rfl fun u43 w a hM hE=>Zc hE rfl fun a hE=>Zc hE rfl fun a hE=>Zc hE rfl fun a hE=>Ze (wp_seq (Zb (Zg hE rfl (Vy) fun a hE=>Zw (v:=v0_2) hE rfl Q4 rfl (At.cat (pre:=[[v0_1],[vI p0.Next]]) hM.rawAt4 ck) fun a hE=>Z2 hE rfl Tryz.underlying55 (hM.rd hv0_2) fun a hE=>Zd hE rfl fun a hE=>Ze ?_)))
   obtain ⟨j45,hl46,hF47⟩:=bind_some hF14
   refine ZJ (fun a w=>∃ (u48 : Value),Env 129 a [(1,(ptr b1 0)),(4,u9),(5,u15),(6,(Value.map (some b39))),(7,(Value.map (some b41))),(8,u48)] ∧ M (Old w0) w0 w [WW (Value.int .i64) (Vu (fun x : Vector UInt8 32=>Value.agg (enc x).toArray)) (j45.1 : (List (Int × (Vector UInt8 32)))) b41,WW (Value.int .i64) (Vu (fun x : Vector UInt8 32=>Value.agg (enc x).toArray)) (r37 : (List (Int × (Vector UInt8 32)))) b39,own NoB (r7 : (Ref Gengine)) [u9],raw b1 (cat [[v0_1],[vI p0.Next],[v0_2],[v0_3],enc p0.Head]),osl NoB (j12 : List (List Int)) u15,osl NoB (j45.2 : List Int) u48]) ?_ ?_
   ·skip
    refine wp_block ?_
    have hM:=hM.pull5.pull5.pull5.pull5.pull5
    refine ZC (fun (s50 : (List (Int × (Vector UInt8 32))) × Int × (List Int)) a w=>∃ (u51 : Value),Env 129 a [(1,(ptr b1 0)),(4,u9),(5,u15),(6,(Value.map (some b39))),(7,(Value.map (some b41))),(8,u51),(42,v0_2),(43,(vI (p0.Records.length : Int))),(44,vI s50.2.1)] ∧ M (Old w0) w0 w [WW (Value.int .i64) (Vu (fun x : Vector UInt8 32=>Value.agg (enc x).toArray)) (s50.1 : (List (Int × (Vector UInt8 32)))) b41,WW (Value.int .i64) (Vu (fun x : Vector UInt8 32=>Value.agg (enc x).toArray)) (r37 : (List (Int × (Vector UInt8 32)))) b39,own NoB (r7 : (Ref Gengine)) [u9],raw b1 (cat [[v0_1],[vI p0.Next],[v0_2],[v0_3],enc p0.Head]),osl NoB (j12 : List (List Int)) u15,osl NoB (s50.2.2 : List Int) u51]) hl46 ⟨u43,hE.sub ⟨rfl,rfl,rfl,rfl,rfl,rfl,rfl,rfl,rfl,trivial⟩,hM⟩ ?_
    rintro s50 a w ⟨u51,hE,hM⟩ o55 hs53 hx54
    unfold WE at hs53
    refine Zb (Zi hE rfl rfl rfl fun a hE=>Ze (wp_seq ?_))
    refine Zo hE rfl ?_ ?_
    ·intro hb56
     have hs53:=Zs hs53 hb56
     refine wp_skip (Zu (wp_seq (wp_block (Zb ?_))))
     obtain ⟨x57,hi59,hs53⟩:=bix hs53
     refine ZL hE rfl rfl Tryz.underlying55 YA (hM.rd hv0_2) hi59.1 ?_; intro a hE
     obtain ⟨cs60,hs61,hA62⟩:=X3 hv0_2 hi59.2 -- ^
     obtain ⟨u63,u65,rfl,h64,h66⟩:=Y1 hs61 -- ^
     refine Zr hE rfl YA rfl (hM.atk hA62 (VR hv0_2 hi59.2)) cq fun a hE=>Zz hE hM YA fun b67 w a hM hE=>Zn (seg:=cat [[vI x57.Number],[vI x57.Version],enc x57.Nonce,[u63],[u65],enc x57.Tag]) (cs':=cat [[vI x57.Number],[vI x57.Version],enc x57.Nonce,[u63],[u65],enc x57.Tag]) hE hM Za rfl rfl rfl YA cq (Nat.le_of_eq ((Nat.zero_add _).trans (Eq.trans cq (Eq.symm cq)))) (Xv (cc1 (Flat.cell (x57.Number : Int)) (cc1 (Flat.cell (x57.Version : Int)) (cc1 (Flat.cell _) (cc1 (Rep.cell (hM.rd h64)) (cc1 (Rep.cell (hM.rd h66)) (cc1 (Flat.cell _) cc0))))))) (Zk (Eq.trans cq (Eq.symm cq))) fun w a hM hE=>Ze (Zb (Zd hE rfl fun a hE=>Zg hE rfl (XX) fun a hE=>Zw (v:=(vI x57.Number)) hE rfl ty2 rfl (At.cat (pre:=[]) hM.rawAt0 cl0) fun a hE=>Zg hE rfl (Q9) fun a hE=>Zr hE rfl ZR rfl (At.cat (pre:=[[vI x57.Number],[vI x57.Version],enc x57.Nonce,[u63],[u65]]) hM.rawAt0 ck) (Flat.len _) ?_)); intro a hE
     have hM:=hM.pull1
     refine Hy (c:=x57.Tag) (QT Tryz.underlying2) hE hM Za rfl rfl rfl Tryz.underlying150 fun w a hM hE=>Ze (wp_region_lit (Zd hE rfl fun a hE=>Zg hE rfl (XX) fun a hE=>Zw (v:=(vI x57.Number)) hE rfl ty2 rfl (At.cat (pre:=[]) hM.rawAt1 cl0) fun a hE=>ZP (xs:=[.tmp 55]) (l:=([x57.Number] : List Int)) (vs:=[vI x57.Number]) hE hM Za ld rfl rfl Tryz.underlying24 ty2 rfl (by decide) rfl ?_)); intro u69 w a hM hE
     obtain ⟨l71,e72,hs53⟩:=bind_some hs53
     obtain ⟨e75,rfl⟩:=ZS e72
     have hM:=hM.pull7
     refine Z0 hE hM Za ld rfl rfl (hM.sl (pre:=[_]) noB) Tryz.underlying24 ty2 rfl (by decide) e75 fun u73 w a hM hE=>Zc hE rfl fun a hE=>Zf (Z4 (Zu (wp_region_lit (Zi hE rfl rfl rfl fun a hE=>Zd hE rfl fun a hE=>Zf (Zh ?_)))))
     have hM:=M.fst (l:=[_,_,_,_,_,_]) hM.pull7.pull7.pull7.pull7.pull6
     exact ⟨_,(ois hs53),u73,hE.sub ⟨rfl,rfl,rfl,rfl,rfl,rfl,rfl,rfl,rfl,trivial⟩,hM⟩
    ·intro hb56
     have hs53:=Zt hs53 hb56
     refine wp_exit (Zl (Zl (Z5 ?_)))
     obtain rfl:=hx54 _ (ois hs53)
     refine Zh ?_
     exact ⟨u51,hE.sub ⟨rfl,rfl,rfl,rfl,rfl,rfl,trivial⟩,hM⟩
   ·skip
    rintro a w ⟨u48,hE,hM⟩
    refine Zu (wp_seq (Zb (Zd hE rfl ?_))); intro a hE
    have hM:=hM.pull1
    refine Zdy (Qs (vv:=(fun x : Vector UInt8 32=>Value.agg (enc x).toArray))) hE hM noB Za ld rfl Tryz.underlying150 fun b77 w a hM hE=>Ze ?_
    obtain ⟨j81,hl82,hF83⟩:=bind_some hF47
    have hap84:=(ZS hl82).1
    have hM:=hM.pull4.pull4.pull4.pull4.pull5.pull5
    refine ZJ (fun a w=>∃ k78 : List Int,k78.Perm (r37.map (·.1)) ∧ ∃ (u79 : Value),Env 129 a [(1,(ptr b1 0)),(4,u9),(5,u15),(6,(Value.map (some b39))),(7,(Value.map (some b41))),(8,u79)] ∧ M (Old w0) w0 w [WW (Value.int .i64) (Vu (fun x : Vector UInt8 32=>Value.agg (enc x).toArray)) (r37 : (List (Int × (Vector UInt8 32)))) b39,osl NoB ((j45.2 ++ k78) : List Int) u79,WW (Value.int .i64) (Vu (fun x : Vector UInt8 32=>Value.agg (enc x).toArray)) (j45.1 : (List (Int × (Vector UInt8 32)))) b41,own NoB (r7 : (Ref Gengine)) [u9],raw b1 (cat [[v0_1],[vI p0.Next],[v0_2],[v0_3],enc p0.Head]),osl NoB (j12 : List (List Int)) u15]) ?_ ?_
    ·skip
     refine wp_block ?_
     refine Zby (κ:=Int) r37.length (fun (k78 : List Int) a w=>∃ (u79 : Value),Env 129 a [(1,(ptr b1 0)),(4,u9),(5,u15),(6,(Value.map (some b39))),(7,(Value.map (some b41))),(8,u79),(60,(ptr b77 0))] ∧ M (Old w0) w0 w [yQ (Value.int .i64) (Vu (fun x : Vector UInt8 32=>Value.agg (enc x).toArray)) (r37 : (List (Int × (Vector UInt8 32)))) k78 b39 b77,osl NoB ((j45.2 ++ k78) : List Int) u79,WW (Value.int .i64) (Vu (fun x : Vector UInt8 32=>Value.agg (enc x).toArray)) (j45.1 : (List (Int × (Vector UInt8 32)))) b41,own NoB (r7 : (Ref Gengine)) [u9],raw b1 (cat [[v0_1],[vI p0.Next],[v0_2],[v0_3],enc p0.Head]),osl NoB (j12 : List (List Int)) u15]) ⟨_,hE.sub ⟨rfl,rfl,rfl,rfl,rfl,rfl,rfl,trivial⟩,(by rw [List.append_nil]; exact hM)⟩ (fun _ _ _ ⟨_,_,hM⟩=>hM.rangeLen) ?_
     rintro k78 a w ⟨u79,hE,hM⟩
     refine Zb ?_
     refine s_next (Qs (vv:=(fun x : Vector UInt8 32=>Value.agg (enc x).toArray))) hE hM noB Za ld rfl (fun w a hp85 hM hE=>?_) (fun k86 v w a hM hE=>?_)
     ·skip
      refine Yw hE Za ld rfl rfl fun a hE=>Ze (wp_seq ?_)
      refine Zdv hE rfl ?_
      refine wp_exit (Zl (Zl (Z5 ?_)))
      refine Zh ?_
      exact ⟨k78,hp85,u79,hE.sub ⟨rfl,rfl,rfl,rfl,rfl,rfl,trivial⟩,hM⟩
     ·skip
      refine Yw hE Za ld rfl rfl fun a hE=>Ze (wp_seq ?_)
      refine Zd3 hE rfl ?_
      refine wp_skip (Zu (wp_block (Zb (Zds (Qs (vv:=(fun x : Vector UInt8 32=>Value.agg (enc x).toArray))) hE hM noB Za ld rfl ?_)))); intro v a hM hE
      have hs87:=Zaz (k:=k86) hM.rangeLen hap84
      refine Yw hE Za ld rfl rfl fun a hE=>Zc hE rfl fun a hE=>Ze (wp_region_lit (Zd hE rfl fun a hE=>Zd hE rfl fun a hE=>ZP (xs:=[.tmp 66]) (l:=([k86] : List Int)) (vs:=[vI k86]) hE hM Za ld rfl rfl Tryz.underlying24 ty2 rfl (by decide) rfl ?_)); intro u88 w a hM hE
      obtain ⟨l90,e91,hs87⟩:=bind_some hs87
      obtain ⟨e94,rfl⟩:=ZS e91
      have hM:=hM.pull2
      refine Z0 hE hM Za ld rfl rfl (hM.sl (pre:=[_]) noB) Tryz.underlying24 ty2 rfl (by decide) e94 fun u92 w a hM hE=>Zc hE rfl fun a hE=>Zf (Z4 (Zh ?_))
      have hM:=M.fst (l:=[_,_,_,_,_,_]) hM.pull6.pull6.pull6.pull6.pull4.pull6
      exact ⟨k86,u92,hE.sub ⟨rfl,rfl,rfl,rfl,rfl,rfl,rfl,trivial⟩,(by rw [← List.append_assoc]; exact hM)⟩
    ·skip
     rintro a w ⟨k78,hp80,u79,hE,hM⟩
     refine Zu (Zb (Zd hE rfl ?_)); intro a hE
     have hM:=hM.pull1
     have hb95:=qZ hp80 hap84
     refine s_sort hE hM Za ld rfl (cbm Tryz.func115) hb95 Tryz.slices_Sort_int Tryz.slices_Sort_int_none ?_; intro w a hM hE
     rw [kK (List.Perm.append_left _ hp80)] at hM
     have hb96:=qf ((j45.2 ++ (r37.map (·.1)))) hap84
     refine Ze (wp_seq (Zb (Zd hE rfl fun a hE=>Za3 hE hM noB Za ld rfl (cbm Tryz.func116) (by rw [Ji]; exact hb96) (AE _) Tryz.slices_Compact_int Tryz.slices_Compact_int_empty fun u97 w a hM hE=>Z2 hE rfl Tryz.underlying24 (hM.sl (pre:=[]) noB) fun a hE=>Zd hE rfl fun a hE=>Ze ?_)))
     obtain ⟨j99,hl100,hF101⟩:=bind_some hF83
     refine ZJ (fun a w=>∃ (u102 : Value),Env 129 a [(1,(ptr b1 0)),(4,u9),(5,u102)] ∧ M (Old w0) w0 w [own NoB (r7 : (Ref Gengine)) [u9],raw b1 (cat [[v0_1],[vI p0.Next],[v0_2],[v0_3],enc p0.Head]),osl NoB (j99 : List (List Int)) u102]) ?_ ?_
     ·skip
      refine wp_block ?_
      refine ZC (fun (s104 : (List (List Int)) × Int) a w=>∃ (u105 : Value),Env 129 a [(1,(ptr b1 0)),(4,u9),(5,u105),(6,(Value.map (some b39))),(7,(Value.map (some b41))),(72,u97),(73,(vI ((Lib.compact (Wo (j45.2 ++ (r37.map (·.1))))).length : Int))),(74,vI s104.2)] ∧ M (Old w0) w0 w [osl NoB ((Lib.compact (Wo (j45.2 ++ (r37.map (·.1))))) : List Int) u97,WW (Value.int .i64) (Vu (fun x : Vector UInt8 32=>Value.agg (enc x).toArray)) (r37 : (List (Int × (Vector UInt8 32)))) b39,WW (Value.int .i64) (Vu (fun x : Vector UInt8 32=>Value.agg (enc x).toArray)) (j45.1 : (List (Int × (Vector UInt8 32)))) b41,own NoB (r7 : (Ref Gengine)) [u9],raw b1 (cat [[v0_1],[vI p0.Next],[v0_2],[v0_3],enc p0.Head]),osl NoB (s104.1 : List (List Int)) u105]) hl100 ⟨u15,hE.sub ⟨rfl,rfl,rfl,rfl,rfl,rfl,rfl,rfl,trivial⟩,hM⟩ ?_
      rintro s104 a w ⟨u105,hE,hM⟩ o109 hs107 hx108
      unfold V2 at hs107
      refine Zb (Zi hE rfl rfl rfl fun a hE=>Ze (wp_seq ?_))
      refine Zo hE rfl ?_ ?_
      ·intro hb110
       have hs107:=Zs hs107 hb110
       refine wp_skip (Zu ?_)
       obtain ⟨j111,hl112,hF113⟩:=bind_some hs107
       refine ZI (fun a w=>∃ (u114 : Value),Env 129 a [(1,(ptr b1 0)),(4,u9),(5,u114),(6,(Value.map (some b39))),(7,(Value.map (some b41))),(72,u97),(73,(vI ((Lib.compact (Wo (j45.2 ++ (r37.map (·.1))))).length : Int))),(74,vI s104.2)] ∧ M (Old w0) w0 w [osl NoB ((Lib.compact (Wo (j45.2 ++ (r37.map (·.1))))) : List Int) u97,WW (Value.int .i64) (Vu (fun x : Vector UInt8 32=>Value.agg (enc x).toArray)) (r37 : (List (Int × (Vector UInt8 32)))) b39,WW (Value.int .i64) (Vu (fun x : Vector UInt8 32=>Value.agg (enc x).toArray)) (j45.1 : (List (Int × (Vector UInt8 32)))) b41,own NoB (r7 : (Ref Gengine)) [u9],raw b1 (cat [[v0_1],[vI p0.Next],[v0_2],[v0_3],enc p0.Head]),osl NoB (j111 : List (List Int)) u114]) ?_ ?_
       ·skip
        refine wp_block (Zb ?_)
        obtain ⟨x116,hi118,hl112⟩:=bix hl112
        refine ZL hE rfl rfl Tryz.underlying24 ty2 (hM.sl (pre:=[]) noB) hi118.1 fun a hE=>Zw (v:=(vI x116)) hE rfl ty2 rfl (Yp (hM.sl (pre:=[]) noB) hi118.2) fun a hE=>Zc hE rfl fun a hE=>Ze (Zb (Zd hE rfl fun a hE=>Zd hE rfl fun a hE=>H2 (pre:=[_]) (zero:=(Vector.replicate 32 (0 : UInt8))) (QT Tryz.underlying2) hE hM Za ld rfl rfl Tryz.underlying150 (Zbq (by kernel_rfl) _) fun a hE=>Zd hE rfl fun a hE=>Yw hE Za ld rfl rfl fun a hE=>Yw hE Za ld rfl rfl fun a hE=>Zz hE hM ZR fun b119 w a hM hE=>Zn (seg:=enc ((YG r37 x116).getD (Vector.replicate 32 (0 : UInt8)))) (cs':=enc ((YG r37 x116).getD (Vector.replicate 32 (0 : UInt8)))) hE hM Za rfl rfl rfl ZR (Flat.len _) (zle flq) (Flat.cell _) (Zk flq) fun w a hM hE=>Zc hE rfl ?_)); intro a hE
        refine Ze (Zb (Zd hE rfl fun a hE=>Zd hE rfl fun a hE=>H2 (pre:=[_,_,_]) (zero:=(Vector.replicate 32 (0 : UInt8))) (QT Tryz.underlying2) hE hM Za ld rfl rfl Tryz.underlying150 (Zbq (by kernel_rfl) _) fun a hE=>Zd hE rfl fun a hE=>Yw hE Za ld rfl rfl fun a hE=>Yw hE Za ld rfl rfl fun a hE=>Zz hE hM ZR fun b121 w a hM hE=>Zn (seg:=enc ((YG j45.1 x116).getD (Vector.replicate 32 (0 : UInt8)))) (cs':=enc ((YG j45.1 x116).getD (Vector.replicate 32 (0 : UInt8)))) hE hM Za rfl rfl rfl ZR (Flat.len _) (zle flq) (Flat.cell _) (Zk flq) fun w a hM hE=>Zc hE rfl fun a hE=>Ze ?_))
        obtain ⟨j123,hl124,hF125⟩:=bind_some hl112
        refine ZI (fun a w=>Env 129 a [(1,(ptr b1 0)),(4,u9),(5,u105),(6,(Value.map (some b39))),(7,(Value.map (some b41))),(13,vI x116),(72,u97),(73,(vI ((Lib.compact (Wo (j45.2 ++ (r37.map (·.1))))).length : Int))),(74,vI s104.2),(100,vT j123)] ∧ M (Old w0) w0 w [osl NoB ((Lib.compact (Wo (j45.2 ++ (r37.map (·.1))))) : List Int) u97,WW (Value.int .i64) (Vu (fun x : Vector UInt8 32=>Value.agg (enc x).toArray)) (r37 : (List (Int × (Vector UInt8 32)))) b39,WW (Value.int .i64) (Vu (fun x : Vector UInt8 32=>Value.agg (enc x).toArray)) (j45.1 : (List (Int × (Vector UInt8 32)))) b41,own NoB (r7 : (Ref Gengine)) [u9],raw b1 (cat [[v0_1],[vI p0.Next],[v0_2],[v0_3],enc p0.Head]),osl NoB (s104.1 : List (List Int)) u105]) ?_ ?_
        ·skip
         refine wp_region_lit (Zd hE rfl fun a hE=>Qa hE rfl fun a hE=>Zd hE rfl ?_); intro a hE
         refine YK (!((YG r37 x116).isSome)) (fun hb126=>?_) (fun hb126=>?_)
         ·have hl124:=Zs hl124 hb126
          refine Zm hE rfl (lkb rfl hb126) rfl (by decide) fun a hE=>Zm hE rfl (lkb rfl hb126) rfl (by decide) fun a hE=>Z8 hE (lkb rfl hb126) rfl fun a hE=>Zd hE rfl fun a hE=>Zm hE rfl rfl rfl (by decide) fun a hE=>Zm hE rfl rfl rfl (by decide) fun a hE=>Zm hE rfl rfl rfl (by decide) fun a hE=>Z8 hE rfl rfl fun a hE=>Zf ?_
          obtain rfl:=Option.some.inj hl124
          refine Zh ?_
          have hM:=M.fst (l:=[_,_,_,_,_,_]) hM.pull7.pull7.pull7.pull7.pull7.pull7
          exact ⟨hE.sub ⟨rfl,rfl,rfl,rfl,rfl,rfl,rfl,rfl,rfl,rfl,trivial⟩,hM⟩
         ·have hl124:=Zt hl124 hb126
          refine Zp hE (Zj hE rfl (lkb rfl hb126)) (by decide) rfl fun a hE=>QE hE (Zj hE rfl (lkb rfl hb126)) (by decide) rfl fun a hE=>YB hE (lkb rfl hb126) rfl fun a hE=>Zd hE rfl ?_; intro a hE
          refine YK (!((YG j45.1 x116).isSome)) (fun hb128=>?_) (fun hb128=>?_)
          ·have hl124:=Zs hl124 hb128
           refine Zm hE rfl (lkb rfl hb128) rfl (by decide) fun a hE=>Zm hE rfl (lkb rfl hb128) rfl (by decide) fun a hE=>Zm hE rfl (lkb rfl hb128) rfl (by decide) fun a hE=>Z8 hE (lkb rfl hb128) rfl fun a hE=>Zf ?_
           obtain rfl:=Option.some.inj hl124
           refine Zh ?_
           have hM:=M.fst (l:=[_,_,_,_,_,_]) hM.pull7.pull7.pull7.pull7.pull7.pull7
           exact ⟨hE.sub ⟨rfl,rfl,rfl,rfl,rfl,rfl,rfl,rfl,rfl,rfl,trivial⟩,hM⟩
          ·have hl124:=Zt hl124 hb128
           refine Z1 hE (Zj hE rfl (lkb rfl hb128)) (by decide) rfl ZR rfl hM.rawAt1 (Flat.len _) fun a hE=>Z1 hE (Zj hE rfl (lkb rfl hb128)) (by decide) rfl ZR rfl hM.rawAt0 (Flat.len _) fun a hE=>yb hE (Zj hE rfl (lkb rfl hb128)) (by decide) rfl rfl (Kr Tryz.underlying35 ty5 rfl false rfl (by decide) (QQ Tryz.underlying5)) (by decide) (by kernel_rfl) fun a hE=>YB hE (lkb rfl hb128) rfl fun a hE=>Zf ?_
           obtain rfl:=Option.some.inj hl124
           refine Zh ?_
           have hM:=M.fst (l:=[_,_,_,_,_,_]) hM.pull7.pull7.pull7.pull7.pull7.pull7
           exact ⟨hE.sub ⟨rfl,rfl,rfl,rfl,rfl,rfl,rfl,rfl,rfl,rfl,trivial⟩,hM⟩
        ·skip
         rintro a w ⟨hE,hM⟩
         obtain ⟨j131,hl132,hF133⟩:=bind_some hF125
         refine ZJ (fun a w=>∃ (u134 : Value),Env 129 a [(1,(ptr b1 0)),(4,u9),(5,u134),(6,(Value.map (some b39))),(7,(Value.map (some b41))),(72,u97),(73,(vI ((Lib.compact (Wo (j45.2 ++ (r37.map (·.1))))).length : Int))),(74,vI s104.2)] ∧ M (Old w0) w0 w [osl NoB ((Lib.compact (Wo (j45.2 ++ (r37.map (·.1))))) : List Int) u97,WW (Value.int .i64) (Vu (fun x : Vector UInt8 32=>Value.agg (enc x).toArray)) (r37 : (List (Int × (Vector UInt8 32)))) b39,WW (Value.int .i64) (Vu (fun x : Vector UInt8 32=>Value.agg (enc x).toArray)) (j45.1 : (List (Int × (Vector UInt8 32)))) b41,own NoB (r7 : (Ref Gengine)) [u9],raw b1 (cat [[v0_1],[vI p0.Next],[v0_2],[v0_3],enc p0.Head]),osl NoB (j131 : List (List Int)) u134]) ?_ ?_
         ·skip
          refine Zo hE rfl ?_ ?_
          ·intro hb136
           have hl132:=Zs hl132 hb136
           refine wp_region_lit (Zd hE rfl fun a hE=>Zd hE rfl fun a hE=>ZP (xs:=[.const (vI 2),.tmp 102]) (l:=([2,x116] : List Int)) (vs:=[vI 2,vI x116]) hE hM Za ld rfl rfl Tryz.underlying24 ty2 rfl (by decide) rfl ?_); intro u137 w a hM hE
           have hc141:=Ym (hM.sl (pre:=[]) noB)
           have hM:=hM.pack1 (it:=own NoB ([2,x116] : List Int) ([u137])) (YR noB) (fun f0 q0=>(Xq.sat q0))
           refine Kk (xs:=[.tmp 103]) (seg:=[u137]) hE hM noB Za ld rfl hc141 Tryz.underlying73 Q5 rfl (by decide) ?_; intro u139 w a hM hE
           obtain ⟨l142,e143,hl132⟩:=bind_some hl132
           obtain ⟨e146,rfl⟩:=ZS e143
           have hM:=hM.pull6
           refine QU hE hM noB Za ld rfl rfl Tryz.underlying73 Q5 rfl (by decide) e146 fun u144 w a hM hE=>Zc hE rfl fun a hE=>Zf ?_
           obtain rfl:=Option.some.inj hl132
           refine Zh ?_
           have hM:=hM.pull5.pull5.pull5.pull5.pull5
           exact ⟨u144,hE.sub ⟨rfl,rfl,rfl,rfl,rfl,rfl,rfl,rfl,trivial⟩,hM⟩
          ·intro hb136
           have hl132:=Zt hl132 hb136
           refine wp_skip ?_
           obtain rfl:=Option.some.inj hl132
           refine Zh ?_
           exact ⟨u105,hE.sub ⟨rfl,rfl,rfl,rfl,rfl,rfl,rfl,rfl,trivial⟩,hM⟩
         ·skip
          rintro a w ⟨u134,hE,hM⟩
          refine Z4 ?_
          obtain rfl:=Option.some.inj hF133
          refine Zh ?_
          exact ⟨u134,hE.sub ⟨rfl,rfl,rfl,rfl,rfl,rfl,rfl,rfl,trivial⟩,hM⟩
       ·skip
        rintro a w ⟨u114,hE,hM⟩
        refine wp_region_lit (Zi hE rfl rfl rfl fun a hE=>Zd hE rfl fun a hE=>Zf (Zh ?_))
        exact ⟨_,(ois hF113),u114,hE.sub ⟨rfl,rfl,rfl,rfl,rfl,rfl,rfl,rfl,trivial⟩,hM⟩
      ·intro hb110
       have hs107:=Zt hs107 hb110
       refine wp_exit (Zl (Zl (Z5 ?_)))
       obtain rfl:=hx108 _ (ois hs107)
       refine Zh ?_
       have hM:=M.fst (l:=[_,_,_]) hM.pull5.pull5.pull5
       exact ⟨u105,hE.sub ⟨rfl,rfl,rfl,trivial⟩,hM⟩
     ·skip
      rintro a w ⟨u102,hE,hM⟩
      refine Zu (wp_seq (Zb (Zg hE rfl (Vy) fun a hE=>Zw (v:=v0_2) hE rfl Q4 rfl (At.cat (pre:=[[v0_1],[vI p0.Next]]) hM.rawAt1 ck) fun a hE=>Z2 hE rfl Tryz.underlying55 (hM.rd hv0_2) fun a hE=>Zd hE rfl fun a hE=>Ze ?_)))
      obtain ⟨j151,hl152,hF153⟩:=bind_some hF101
      refine ZJ (fun a w=>∃ (u154 : Value),Env 129 a [(5,u154)] ∧ M (Old w0) w0 w [osl NoB (j151 : List (List Int)) u154]) ?_ ?_
      ·skip
       refine wp_block ?_
       refine ZC (fun (s156 : Int × (List (List Int))) a w=>∃ (u157 : Value),Env 129 a [(1,(ptr b1 0)),(4,u9),(5,u157),(108,v0_2),(109,(vI (p0.Records.length : Int))),(110,vI s156.1)] ∧ M (Old w0) w0 w [own NoB (r7 : (Ref Gengine)) [u9],raw b1 (cat [[v0_1],[vI p0.Next],[v0_2],[v0_3],enc p0.Head]),osl NoB (s156.2 : List (List Int)) u157]) hl152 ⟨u102,hE.sub ⟨rfl,rfl,rfl,rfl,rfl,rfl,trivial⟩,hM⟩ ?_
       rintro s156 a w ⟨u157,hE,hM⟩ o161 hs159 hx160
       unfold Ww at hs159
       refine Zb (Zi hE rfl rfl rfl fun a hE=>Ze (wp_seq ?_))
       refine Zo hE rfl ?_ ?_
       ·intro hb162
        have hs159:=Zs hs159 hb162
        refine wp_skip (Zu ?_)
        obtain ⟨j163,hl164,hF165⟩:=bind_some hs159
        refine ZI (fun a w=>∃ (u166 : Value),Env 129 a [(1,(ptr b1 0)),(4,u9),(5,u166),(108,v0_2),(109,(vI (p0.Records.length : Int))),(110,vI s156.1)] ∧ M (Old w0) w0 w [own NoB (r7 : (Ref Gengine)) [u9],raw b1 (cat [[v0_1],[vI p0.Next],[v0_2],[v0_3],enc p0.Head]),osl NoB (j163 : List (List Int)) u166]) ?_ ?_
        ·skip
         refine wp_block (Zb ?_)
         obtain ⟨x168,hi170,hl164⟩:=bix hl164
         refine ZL hE rfl rfl Tryz.underlying55 YA (hM.rd hv0_2) hi170.1 ?_; intro a hE
         obtain ⟨cs171,hs172,hA173⟩:=X3 hv0_2 hi170.2 -- ^
         obtain ⟨u174,u176,rfl,h175,h177⟩:=Y1 hs172 -- ^
         refine Zr hE rfl YA rfl (hM.atk hA173 (VR hv0_2 hi170.2)) cq fun a hE=>Zz hE hM YA fun b178 w a hM hE=>Zn (seg:=cat [[vI x168.Number],[vI x168.Version],enc x168.Nonce,[u174],[u176],enc x168.Tag]) (cs':=cat [[vI x168.Number],[vI x168.Version],enc x168.Nonce,[u174],[u176],enc x168.Tag]) hE hM Za rfl rfl rfl YA cq (Nat.le_of_eq ((Nat.zero_add _).trans (Eq.trans cq (Eq.symm cq)))) (Xv (cc1 (Flat.cell (x168.Number : Int)) (cc1 (Flat.cell (x168.Version : Int)) (cc1 (Flat.cell _) (cc1 (Rep.cell (hM.rd h175)) (cc1 (Rep.cell (hM.rd h177)) (cc1 (Flat.cell _) cc0))))))) (Zk (Eq.trans cq (Eq.symm cq))) fun w a hM hE=>Ze ?_
         obtain ⟨j180,hl181,hF182⟩:=bind_some hl164
         refine ZI (fun a w=>Env 129 a [(1,(ptr b1 0)),(4,u9),(5,u157),(19,(ptr b178 0)),(108,v0_2),(109,(vI (p0.Records.length : Int))),(110,vI s156.1),(120,vT j180)] ∧ M (Old w0) w0 w [raw b178 (cat [[vI x168.Number],[vI x168.Version],enc x168.Nonce,[u174],[u176],enc x168.Tag]),own NoB (r7 : (Ref Gengine)) [u9],raw b1 (cat [[v0_1],[vI p0.Next],[v0_2],[v0_3],enc p0.Head]),osl NoB (s156.2 : List (List Int)) u157]) ?_ ?_
         ·skip
          obtain ⟨r184,e185,hl181⟩:=bind_some hl181
          refine ZX [114,115,116,117,118,119,120] Yy rfl rfl (by decide) rfl hE hM (qsP (fun z=>Zp z.E Za ld rfl (kr0 rfl)) (qsP (fun z=>Z1 z.E Za ld rfl Ke rfl (z.M.rawAt2) cq (kr0 rfl)) (qsP (fun z=>Z1 z.E Za ld rfl YA rfl (z.M.rawAt0) cq (kr0 rfl)) (qsP (fun z=>ZV z.E Za ld rfl (cbm Tryz.func108) (Jt _ r7 u9 (z.M.ro (pre:=[_]) noB) p0 v0_1 (z.M.rdo hv0_1) v0_2 (z.M.rdo hv0_2) v0_3 (z.M.rdo hv0_3) x168 u174 (z.M.rdo h175) u176 (z.M.rdo h177) r184 e185) (kc rfl)) (qsP (fun z=>Zq z.E Za ld rfl (Q9) (kr0 rfl)) (qsP (fun z=>Z1 z.E Za ld rfl ZR rfl (At.cat (pre:=[[vI x168.Number],[vI x168.Version],enc x168.Nonce,[u174],[u176]]) (z.M.rawAt0) ck) (Flat.len _) (kr0 rfl)) (qsP (fun z=>yb z.E Za ld rfl rfl (Kr Tryz.underlying35 ty5 rfl false rfl (by decide) (QQ Tryz.underlying5)) (by decide) (by kernel_rfl) (kr0 rfl)) qs0))))))) ?_
          ·intro a w u hE hM
           refine Zf ?_
           obtain rfl:=Option.some.inj hl181
           refine Zh ?_
           exact ⟨hE.sub ⟨rfl,rfl,rfl,rfl,rfl,rfl,rfl,rfl,trivial⟩,hM⟩
         ·skip
          rintro a w ⟨hE,hM⟩
          obtain ⟨j187,hl188,hF189⟩:=bind_some hF182
          refine ZJ (fun a w=>∃ (u190 : Value),Env 129 a [(1,(ptr b1 0)),(4,u9),(5,u190),(108,v0_2),(109,(vI (p0.Records.length : Int))),(110,vI s156.1)] ∧ M (Old w0) w0 w [own NoB (r7 : (Ref Gengine)) [u9],raw b1 (cat [[v0_1],[vI p0.Next],[v0_2],[v0_3],enc p0.Head]),osl NoB (j187 : List (List Int)) u190]) ?_ ?_
          ·skip
           refine Zo hE rfl ?_ ?_
           ·intro hb192
            have hl188:=Zs hl188 hb192
            refine wp_region_lit (Zd hE rfl fun a hE=>Zg hE rfl (XX) fun a hE=>Zw (v:=(vI x168.Number)) hE rfl ty2 rfl (At.cat (pre:=[]) hM.rawAt0 cl0) fun a hE=>ZP (xs:=[.const (vI 3),.tmp 123]) (l:=([3,x168.Number] : List Int)) (vs:=[vI 3,vI x168.Number]) hE hM Za ld rfl rfl Tryz.underlying24 ty2 rfl (by decide) rfl ?_); intro u193 w a hM hE
            have hc197:=Ym (hM.sl (pre:=[]) noB)
            have hM:=hM.pack1 (it:=own NoB ([3,x168.Number] : List Int) ([u193])) (YR noB) (fun f0 q0=>(Xq.sat q0))
            refine Kk (xs:=[.tmp 124]) (seg:=[u193]) hE hM noB Za ld rfl hc197 Tryz.underlying73 Q5 rfl (by decide) ?_; intro u195 w a hM hE
            obtain ⟨l198,e199,hl188⟩:=bind_some hl188
            obtain ⟨e202,rfl⟩:=ZS e199
            have hM:=hM.pull4
            refine QU hE hM noB Za ld rfl rfl Tryz.underlying73 Q5 rfl (by decide) e202 fun u200 w a hM hE=>Zc hE rfl fun a hE=>Zf ?_
            obtain rfl:=Option.some.inj hl188
            refine Zh ?_
            have hM:=M.fst (l:=[_,_,_]) hM.pull3.pull3
            exact ⟨u200,hE.sub ⟨rfl,rfl,rfl,rfl,rfl,rfl,trivial⟩,hM⟩
           ·intro hb192
            have hl188:=Zt hl188 hb192
            refine wp_skip ?_
            obtain rfl:=Option.some.inj hl188
            refine Zh ?_
            have hM:=M.fst (l:=[_,_,_]) hM.pull3.pull3.pull3
            exact ⟨u157,hE.sub ⟨rfl,rfl,rfl,rfl,rfl,rfl,trivial⟩,hM⟩
          ·skip
           rintro a w ⟨u190,hE,hM⟩
           refine Z4 ?_
           obtain rfl:=Option.some.inj hF189
           refine Zh ?_
           exact ⟨u190,hE.sub ⟨rfl,rfl,rfl,rfl,rfl,rfl,trivial⟩,hM⟩
        ·skip
         rintro a w ⟨u166,hE,hM⟩
         refine wp_region_lit (Zi hE rfl rfl rfl fun a hE=>Zd hE rfl fun a hE=>Zf (Zh ?_))
         exact ⟨_,(ois hF165),u166,hE.sub ⟨rfl,rfl,rfl,rfl,rfl,rfl,trivial⟩,hM⟩
       ·intro hb162
        have hs159:=Zt hs159 hb162
        refine wp_exit (Zl (Zl (Z5 ?_)))
        obtain rfl:=hx160 _ (ois hs159)
        refine Zh ?_
        have hM:=M.fst (l:=[_]) hM.pull2
        exact ⟨u157,hE.sub ⟨rfl,trivial⟩,hM⟩
      ·skip
       rintro a w ⟨u154,hE,hM⟩
       refine Zu (Zb (Zd hE rfl fun a hE=>Zc hE rfl fun a hE=>Zc hE rfl fun a hE=>Ze ?_))
       obtain rfl:=Option.some.inj hF153
       exact wp_ret (Ja hE rfl (ZY hE rfl) (ZY hE rfl) ⟨_,rfl,u154,rfl,hM.outF (Wm XZ),hM.kept⟩)
def Tw (p0 : (List Int)) (p1 : (List Int)) (s6 : Int) : Option (Fl Int (Fl Unit Bool)) :=
 if (decide (s6 < (p0.length : Int))) = true then (((idx p0 s6).bind fun x15=>(idx p1 s6).bind fun x18=>some (x15 != x18) : Option (Bool)).bind fun j11=>if j11 = true then (some (Fl.ex (Fl.ex false))) else (some (Fl.nx (wr (s6 + 1))))) else (some (Fl.ex (Fl.nx ())))
def Vc (p0 : (List Int)) (p1 : (List Int)) : Option (Bool) :=
 if ((p0.length : Int) != (p1.length : Int)) = true then (some false) else ((ZB (Tw p0 p1) 0).bind fun j2=>j2.el (fun s5=>some true) (fun r=>some r))
theorem BJ (w0 : World) (p0 : (List Int)) (v0_1 : Value) (hv0_1 : Ro w0 p0 [v0_1]) (p1 : (List Int)) (v1_1 : Value) (hv1_1 : Ro w0 p1 [v1_1]) (r : Bool) (hF : Vc p0 p1 = some r) :
  Calls Tryz.prog 56 [v0_1,v1_1].toArray w0 (Rt w0 (vT r)):=by
 refine ce Tryz.func56 ?_
 intro a hE
 have hM:=M.start w0
 unfold Vc at hF
 refine Zb (Zc hE rfl fun a hE=>Ze (wp_seq (Zb (Zd hE rfl fun a hE=>Z2 hE rfl Tryz.underlying24 (hM.rd hv0_1) fun a hE=>Zd hE rfl fun a hE=>Z2 hE rfl Tryz.underlying24 (hM.rd hv1_1) fun a hE=>Zi hE rfl rfl rfl fun a hE=>Ze ?_))))
 refine Zo hE rfl ?_ ?_
 ·intro hb1
  have hF:=Zs hF hb1
  refine Zb (Zc hE rfl fun a hE=>Ze ?_)
  obtain rfl:=Option.some.inj hF
  exact wp_ret (ZA (kr1 hE rfl rfl hM.kept))
 ·intro hb1
  have hF:=Zt hF hb1
  refine wp_skip (Zu (wp_seq (Zb (Zc hE rfl fun a hE=>Ze ?_))))
  obtain ⟨j2,hl3,hF4⟩:=bind_some hF
  refine ZJ (fun a w=>∃ s5 : Unit,j2 = Fl.nx s5 ∧ Env 26 a [] ∧ M (Old w0) w0 w []) ?_ ?_
  ·skip
   refine wp_block ?_
   refine ZC (fun (s6 : Int) a w=>Env 26 a [(0,v0_1),(1,v1_1),(5,vI s6)] ∧ M (Old w0) w0 w []) hl3 ⟨hE.sub ⟨rfl,rfl,rfl,trivial⟩,hM⟩ ?_
   rintro s6 a w ⟨hE,hM⟩ o9 hs7 hx8
   unfold Tw at hs7
   refine wp_seq (Zb (Zd hE rfl fun a hE=>Zd hE rfl fun a hE=>Z2 hE rfl Tryz.underlying24 (hM.rd hv0_1) fun a hE=>Zi hE rfl rfl rfl fun a hE=>Ze ?_))
   refine Zo hE rfl ?_ ?_
   ·intro hb10
    have hs7:=Zs hs7 hb10
    refine wp_skip (Zu (wp_seq (wp_block ?_)))
    obtain ⟨j11,hl12,hF13⟩:=bind_some hs7
    refine ZI (fun a w=>Env 26 a [(0,v0_1),(1,v1_1),(5,vI s6),(25,vT j11)] ∧ M (Old w0) w0 w []) ?_ ?_
    ·skip
     obtain ⟨x15,hi17,hl12⟩:=bix hl12
     obtain ⟨x18,hi20,hl12⟩:=bix hl12
     refine ZX [17,18,19,20,21,22,23,24,25] Yy rfl rfl (by decide) rfl hE hM (qsP (fun z=>Zp z.E Za ld rfl (kr0 rfl)) (qsP (fun z=>Zp z.E Za ld rfl (kr0 rfl)) (qsP (fun z=>Yl z.E Za ld rfl rfl Tryz.underlying24 ty2 (z.M.rd hv0_1) hi17.1 (kr0 rfl)) (qsP (fun z=>ZK (v:=(vI x15)) z.E Za ld rfl ty2 rfl (Yp (z.M.rd hv0_1) hi17.2) (kr0 rfl)) (qsP (fun z=>Zp z.E Za ld rfl (kr0 rfl)) (qsP (fun z=>Zp z.E Za ld rfl (kr0 rfl)) (qsP (fun z=>Yl z.E Za ld rfl rfl Tryz.underlying24 ty2 (z.M.rd hv1_1) hi20.1 (kr0 rfl)) (qsP (fun z=>ZK (v:=(vI x18)) z.E Za ld rfl ty2 rfl (Yp (z.M.rd hv1_1) hi20.2) (kr0 rfl)) (qsP (fun z=>Ye z.E Za ld rfl rfl rfl (kr0 rfl)) qs0))))))))) ?_
     ·intro a w u hE hM
      refine Zf ?_
      obtain rfl:=Option.some.inj hl12
      refine Zh ?_
      exact ⟨hE.sub ⟨rfl,rfl,rfl,rfl,trivial⟩,hM⟩
    ·skip
     rintro a w ⟨hE,hM⟩
     refine Zo hE rfl ?_ ?_
     ·intro hb22
      have hF13:=Zs hF13 hb22
      refine Zb (Zc hE rfl fun a hE=>Ze ?_)
      obtain rfl:=hx8 _ (ois hF13)
      obtain rfl:=Option.some.inj hF4
      exact wp_ret (XH (ZA (ZA (XH (ZA (ZA (kr1 hE rfl rfl hM.kept)))))))
     ·intro hb22
      have hF13:=Zt hF13 hb22
      refine wp_skip (Z4 (Zu (wp_region_lit (Zd hE rfl fun a hE=>Zi hE rfl rfl rfl fun a hE=>Zc hE rfl fun a hE=>Zf (Zh ?_)))))
      exact ⟨_,(ois hF13),hE.sub ⟨rfl,rfl,rfl,trivial⟩,hM⟩
   ·intro hb10
    have hs7:=Zt hs7 hb10
    refine wp_exit (Zl (Zl (Z5 ?_)))
    obtain rfl:=hx8 _ (ois hs7)
    refine Zh ?_
    exact ⟨(),rfl,hE.sub trivial,hM⟩
  ·skip
   rintro a w ⟨s5,ht,hE,hM⟩
   subst ht
   have hF4:=Qu hF4
   refine Zu (Zb (Zc hE rfl fun a hE=>Ze ?_))
   obtain rfl:=Option.some.inj hF4
   exact wp_ret (kr1 hE rfl rfl hM.kept)
def UU (p0 : (List (List Int))) (p1 : (List (List Int))) (s6 : Int) : Option (Fl Int (Fl Unit Bool)) :=
 if (decide (s6 < (p0.length : Int))) = true then (((idx p0 s6).bind fun x15=>(idx p1 s6).bind fun x23=>(Vc x15 x23).bind fun r31=>some (!r31) : Option (Bool)).bind fun j11=>if j11 = true then (some (Fl.ex (Fl.ex false))) else (some (Fl.nx (wr (s6 + 1))))) else (some (Fl.ex (Fl.nx ())))
def XB (p0 : (List (List Int))) (p1 : (List (List Int))) : Option (Bool) :=
 if ((p0.length : Int) != (p1.length : Int)) = true then (some false) else ((ZB (UU p0 p1) 0).bind fun j2=>j2.el (fun s5=>some true) (fun r=>some r))
theorem Qg (w0 : World) (p0 : (List (List Int))) (v0_1 : Value) (hv0_1 : Ro w0 p0 [v0_1]) (p1 : (List (List Int))) (v1_1 : Value) (hv1_1 : Ro w0 p1 [v1_1]) (r : Bool) (hF : XB p0 p1 = some r) :
  Calls Tryz.prog 37 [v0_1,v1_1].toArray w0 (Rt w0 (vT r)):=by
 refine ce Tryz.func37 ?_
 intro a hE
 have hM:=M.start w0
 unfold XB at hF
 refine Zb (Zc hE rfl fun a hE=>Ze (wp_seq (Zb (Zd hE rfl fun a hE=>Z2 hE rfl Tryz.underlying73 (hM.rd hv0_1) fun a hE=>Zd hE rfl fun a hE=>Z2 hE rfl Tryz.underlying73 (hM.rd hv1_1) fun a hE=>Zi hE rfl rfl rfl fun a hE=>Ze ?_))))
 refine Zo hE rfl ?_ ?_
 ·intro hb1
  have hF:=Zs hF hb1
  refine Zb (Zc hE rfl fun a hE=>Ze ?_)
  obtain rfl:=Option.some.inj hF
  exact wp_ret (ZA (kr1 hE rfl rfl hM.kept))
 ·intro hb1
  have hF:=Zt hF hb1
  refine wp_skip (Zu (wp_seq (Zb (Zc hE rfl fun a hE=>Ze ?_))))
  obtain ⟨j2,hl3,hF4⟩:=bind_some hF
  refine ZJ (fun a w=>∃ s5 : Unit,j2 = Fl.nx s5 ∧ Env 27 a [] ∧ M (Old w0) w0 w []) ?_ ?_
  ·skip
   refine wp_block ?_
   refine ZC (fun (s6 : Int) a w=>Env 27 a [(0,v0_1),(1,v1_1),(5,vI s6)] ∧ M (Old w0) w0 w []) hl3 ⟨hE.sub ⟨rfl,rfl,rfl,trivial⟩,hM⟩ ?_
   rintro s6 a w ⟨hE,hM⟩ o9 hs7 hx8
   unfold UU at hs7
   refine wp_seq (Zb (Zd hE rfl fun a hE=>Zd hE rfl fun a hE=>Z2 hE rfl Tryz.underlying73 (hM.rd hv0_1) fun a hE=>Zi hE rfl rfl rfl fun a hE=>Ze ?_))
   refine Zo hE rfl ?_ ?_
   ·intro hb10
    have hs7:=Zs hs7 hb10
    refine wp_skip (Zu (wp_seq (wp_block ?_)))
    obtain ⟨j11,hl12,hF13⟩:=bind_some hs7
    refine ZI (fun a w=>Env 27 a [(0,v0_1),(1,v1_1),(5,vI s6),(26,vT j11)] ∧ M (Old w0) w0 w []) ?_ ?_
    ·skip
     obtain ⟨x15,hi17,hl12⟩:=bix hl12
     obtain ⟨cs18,hs19,hA20⟩:=X3 hv0_1 hi17.2 -- ^
     obtain ⟨u21,rfl⟩:=TA hs19 -- ^
     have h22:=hs19 -- ^
     obtain ⟨x23,hi25,hl12⟩:=bix hl12
     obtain ⟨cs26,hs27,hA28⟩:=X3 hv1_1 hi25.2 -- ^
     obtain ⟨u29,rfl⟩:=TA hs27 -- ^
     have h30:=hs27 -- ^
     obtain ⟨r31,e32,hl12⟩:=bind_some hl12
     refine ZX [17,18,19,20,21,22,23,24,25,26] Yy rfl rfl (by decide) rfl hE hM (qsP (fun z=>Zp z.E Za ld rfl (kr0 rfl)) (qsP (fun z=>Zp z.E Za ld rfl (kr0 rfl)) (qsP (fun z=>Yl z.E Za ld rfl rfl Tryz.underlying73 Q5 (z.M.rd hv0_1) hi17.1 (kr0 rfl)) (qsP (fun z=>ZK (v:=u21) z.E Za ld rfl Q5 rfl (z.M.atk hA20 (VR hv0_1 hi17.2)) (kr0 rfl)) (qsP (fun z=>Zp z.E Za ld rfl (kr0 rfl)) (qsP (fun z=>Zp z.E Za ld rfl (kr0 rfl)) (qsP (fun z=>Yl z.E Za ld rfl rfl Tryz.underlying73 Q5 (z.M.rd hv1_1) hi25.1 (kr0 rfl)) (qsP (fun z=>ZK (v:=u29) z.E Za ld rfl Q5 rfl (z.M.atk hA28 (VR hv1_1 hi25.2)) (kr0 rfl)) (qsP (fun z=>ZV z.E Za ld rfl (cbm Tryz.func56) (BJ _ x15 u21 (z.M.rdo h22) x23 u29 (z.M.rdo h30) r31 e32) (kc rfl)) (qsP (fun z=>QE z.E Za ld rfl (kr0 rfl)) qs0)))))))))) ?_
     ·intro a w u hE hM
      refine Zf ?_
      obtain rfl:=Option.some.inj hl12
      refine Zh ?_
      exact ⟨hE.sub ⟨rfl,rfl,rfl,rfl,trivial⟩,hM⟩
    ·skip
     rintro a w ⟨hE,hM⟩
     refine Zo hE rfl ?_ ?_
     ·intro hb34
      have hF13:=Zs hF13 hb34
      refine Zb (Zc hE rfl fun a hE=>Ze ?_)
      obtain rfl:=hx8 _ (ois hF13)
      obtain rfl:=Option.some.inj hF4
      exact wp_ret (XH (ZA (ZA (XH (ZA (ZA (kr1 hE rfl rfl hM.kept)))))))
     ·intro hb34
      have hF13:=Zt hF13 hb34
      refine wp_skip (Z4 (Zu (wp_region_lit (Zd hE rfl fun a hE=>Zi hE rfl rfl rfl fun a hE=>Zc hE rfl fun a hE=>Zf (Zh ?_)))))
      exact ⟨_,(ois hF13),hE.sub ⟨rfl,rfl,rfl,trivial⟩,hM⟩
   ·intro hb10
    have hs7:=Zt hs7 hb10
    refine wp_exit (Zl (Zl (Z5 ?_)))
    obtain rfl:=hx8 _ (ois hs7)
    refine Zh ?_
    exact ⟨(),rfl,hE.sub trivial,hM⟩
  ·skip
   rintro a w ⟨s5,ht,hE,hM⟩
   subst ht
   have hF4:=Qu hF4
   refine Zu (Zb (Zc hE rfl fun a hE=>Ze ?_))
   obtain rfl:=Option.some.inj hF4
   exact wp_ret (kr1 hE rfl rfl hM.kept)
def TN (p0 : (Vector UInt8 16)) (p1 : (Vector UInt8 16)) (s9 : Int) : Option (Fl Int (Fl Unit Bool)) :=
 if (decide (s9 < 16)) = true then (((ZH p0 s9).bind fun x19=>(ZH p1 s9).bind fun x22=>some (x19 != x22) : Option (Bool)).bind fun j14=>if j14 = true then (some (Fl.ex (Fl.ex false))) else (some (Fl.nx (wr (s9 + 1))))) else (some (Fl.ex (Fl.nx ())))
def WN (p0 : (Vector UInt8 16)) (p1 : (Vector UInt8 16)) : Option (Bool) :=
 (ZB (TN p0 p1) 0).bind fun j5=>j5.el (fun s8=>some true) (fun r=>some r)
theorem KW (w0 : World) (p0 : (Vector UInt8 16)) (p1 : (Vector UInt8 16)) (r : Bool) (hF : WN p0 p1 = some r) :
  Calls Tryz.prog 150 [(Value.agg (enc p0).toArray),(Value.agg (enc p1).toArray)].toArray w0 (Rt w0 (vT r)):=by
 refine ce Tryz.func150 ?_
 intro a hE
 have hM:=M.start w0
 unfold WN at hF
 refine Zb (ZT (cs:=enc p0) hE hM Za ld rfl rfl fun b1 w a hM hE=>ZT (cs:=enc p1) hE hM Za ld rfl rfl fun b3 w a hM hE=>Zc hE rfl fun a hE=>Ze (wp_seq (Zb (Zc hE rfl fun a hE=>Ze ?_))))
 obtain ⟨j5,hl6,hF7⟩:=bind_some hF
 refine ZJ (fun a w=>∃ s8 : Unit,j5 = Fl.nx s8 ∧ Env 17 a [] ∧ M (Old w0) w0 w []) ?_ ?_
 ·skip
  refine wp_block ?_
  refine ZC (fun (s9 : Int) a w=>Env 17 a [(2,(ptr b1 0)),(3,(ptr b3 0)),(5,vI s9)] ∧ M (Old w0) w0 w [raw b3 (enc p1),raw b1 (enc p0)]) hl6 ⟨hE.sub ⟨rfl,rfl,rfl,trivial⟩,hM⟩ ?_
  rintro s9 a w ⟨hE,hM⟩ o12 hs10 hx11
  unfold TN at hs10
  refine wp_seq (Zb (Zd hE rfl fun a hE=>Zi hE rfl rfl rfl fun a hE=>Ze ?_))
  refine Zo hE rfl ?_ ?_
  ·intro hb13
   have hs10:=Zs hs10 hb13
   refine wp_skip (Zu (wp_seq (wp_block ?_)))
   obtain ⟨j14,hl15,hF16⟩:=bind_some hs10
   refine ZI (fun a w=>Env 17 a [(2,(ptr b1 0)),(3,(ptr b3 0)),(5,vI s9),(16,vT j14)] ∧ M (Old w0) w0 w [raw b3 (enc p1),raw b1 (enc p0)]) ?_ ?_
   ·skip
    obtain ⟨x19,hi18,hl15⟩:=bvx hl15
    obtain ⟨x22,hi21,hl15⟩:=bvx hl15
    refine ZX [10,11,12,13,14,15,16] Yy rfl rfl (by decide) rfl hE hM (qsP (fun z=>Zp z.E Za ld rfl (kr0 rfl)) (qsP (fun z=>ZG z.E Za ld rfl rfl Tryz.underlying68 ty5 hi18.1 (kr0 rfl)) (qsP (fun z=>ZK (v:=(vB x19)) z.E Za ld rfl ty5 rfl (At.vec (z.M.rawAt1) hi18.2) (kr0 rfl)) (qsP (fun z=>Zp z.E Za ld rfl (kr0 rfl)) (qsP (fun z=>ZG z.E Za ld rfl rfl Tryz.underlying68 ty5 hi21.1 (kr0 rfl)) (qsP (fun z=>ZK (v:=(vB x22)) z.E Za ld rfl ty5 rfl (At.vec (z.M.rawAt0) hi21.2) (kr0 rfl)) (qsP (fun z=>Ye z.E Za ld rfl rfl (yO x19 x22) (kr0 rfl)) qs0))))))) ?_
    ·intro a w u hE hM
     refine Zf ?_
     obtain rfl:=Option.some.inj hl15
     refine Zh ?_
     exact ⟨hE.sub ⟨rfl,rfl,rfl,rfl,trivial⟩,hM⟩
   ·skip
    rintro a w ⟨hE,hM⟩
    refine Zo hE rfl ?_ ?_
    ·intro hb25
     have hF16:=Zs hF16 hb25
     refine Zb (Zc hE rfl fun a hE=>Ze ?_)
     obtain rfl:=hx11 _ (ois hF16)
     obtain rfl:=Option.some.inj hF7
     exact wp_ret (XH (ZA (ZA (XH (ZA (ZA (kr1 hE rfl rfl hM.kept)))))))
    ·intro hb25
     have hF16:=Zt hF16 hb25
     refine wp_skip (Z4 (Zu (wp_region_lit (Zd hE rfl fun a hE=>Zi hE rfl rfl rfl fun a hE=>Zc hE rfl fun a hE=>Zf (Zh ?_)))))
     exact ⟨_,(ois hF16),hE.sub ⟨rfl,rfl,rfl,trivial⟩,hM⟩
  ·intro hb13
   have hs10:=Zt hs10 hb13
   refine wp_exit (Zl (Zl (Z5 ?_)))
   obtain rfl:=hx11 _ (ois hs10)
   refine Zh ?_
   have hM:=M.fst (l:=[]) hM
   exact ⟨(),rfl,hE.sub trivial,hM⟩
 ·skip
  rintro a w ⟨s8,ht,hE,hM⟩
  subst ht
  have hF7:=Qu hF7
  refine Zu (Zb (Zc hE rfl fun a hE=>Ze ?_))
  obtain rfl:=Option.some.inj hF7
  exact wp_ret (kr1 hE rfl rfl hM.kept)
def Ts (p0 : (List (Vector UInt8 16))) (p1 : (List (Vector UInt8 16))) (s6 : Int) : Option (Fl Int (Fl Unit Bool)) :=
 if (decide (s6 < (p0.length : Int))) = true then (((idx p0 s6).bind fun x15=>(idx p1 s6).bind fun x18=>(WN x15 x18).bind fun r21=>some (!r21) : Option (Bool)).bind fun j11=>if j11 = true then (some (Fl.ex (Fl.ex false))) else (some (Fl.nx (wr (s6 + 1))))) else (some (Fl.ex (Fl.nx ())))
def UA (p0 : (List (Vector UInt8 16))) (p1 : (List (Vector UInt8 16))) : Option (Bool) :=
 if ((p0.length : Int) != (p1.length : Int)) = true then (some false) else ((ZB (Ts p0 p1) 0).bind fun j2=>j2.el (fun s5=>some true) (fun r=>some r))
theorem BP (w0 : World) (p0 : (List (Vector UInt8 16))) (v0_1 : Value) (hv0_1 : Ro w0 p0 [v0_1]) (p1 : (List (Vector UInt8 16))) (v1_1 : Value) (hv1_1 : Ro w0 p1 [v1_1]) (r : Bool) (hF : UA p0 p1 = some r) :
  Calls Tryz.prog 91 [v0_1,v1_1].toArray w0 (Rt w0 (vT r)):=by
 refine ce Tryz.func91 ?_
 intro a hE
 have hM:=M.start w0
 unfold UA at hF
 refine Zb (Zc hE rfl fun a hE=>Ze (wp_seq (Zb (Zd hE rfl fun a hE=>Z2 hE rfl Tryz.underlying54 (hM.rd hv0_1) fun a hE=>Zd hE rfl fun a hE=>Z2 hE rfl Tryz.underlying54 (hM.rd hv1_1) fun a hE=>Zi hE rfl rfl rfl fun a hE=>Ze ?_))))
 refine Zo hE rfl ?_ ?_
 ·intro hb1
  have hF:=Zs hF hb1
  refine Zb (Zc hE rfl fun a hE=>Ze ?_)
  obtain rfl:=Option.some.inj hF
  exact wp_ret (ZA (kr1 hE rfl rfl hM.kept))
 ·intro hb1
  have hF:=Zt hF hb1
  refine wp_skip (Zu (wp_seq (Zb (Zc hE rfl fun a hE=>Ze ?_))))
  obtain ⟨j2,hl3,hF4⟩:=bind_some hF
  refine ZJ (fun a w=>∃ s5 : Unit,j2 = Fl.nx s5 ∧ Env 27 a [] ∧ M (Old w0) w0 w []) ?_ ?_
  ·skip
   refine wp_block ?_
   refine ZC (fun (s6 : Int) a w=>Env 27 a [(0,v0_1),(1,v1_1),(5,vI s6)] ∧ M (Old w0) w0 w []) hl3 ⟨hE.sub ⟨rfl,rfl,rfl,trivial⟩,hM⟩ ?_
   rintro s6 a w ⟨hE,hM⟩ o9 hs7 hx8
   unfold Ts at hs7
   refine wp_seq (Zb (Zd hE rfl fun a hE=>Zd hE rfl fun a hE=>Z2 hE rfl Tryz.underlying54 (hM.rd hv0_1) fun a hE=>Zi hE rfl rfl rfl fun a hE=>Ze ?_))
   refine Zo hE rfl ?_ ?_
   ·intro hb10
    have hs7:=Zs hs7 hb10
    refine wp_skip (Zu (wp_seq (wp_block ?_)))
    obtain ⟨j11,hl12,hF13⟩:=bind_some hs7
    refine ZI (fun a w=>Env 27 a [(0,v0_1),(1,v1_1),(5,vI s6),(26,vT j11)] ∧ M (Old w0) w0 w []) ?_ ?_
    ·skip
     obtain ⟨x15,hi17,hl12⟩:=bix hl12
     obtain ⟨x18,hi20,hl12⟩:=bix hl12
     obtain ⟨r21,e22,hl12⟩:=bind_some hl12
     refine ZX [17,18,19,20,21,22,23,24,25,26] Yy rfl rfl (by decide) rfl hE hM (qsP (fun z=>Zp z.E Za ld rfl (kr0 rfl)) (qsP (fun z=>Zp z.E Za ld rfl (kr0 rfl)) (qsP (fun z=>Yl z.E Za ld rfl rfl Tryz.underlying54 ZF (z.M.rd hv0_1) hi17.1 (kr0 rfl)) (qsP (fun z=>Z1 z.E Za ld rfl ZF rfl (Yp (z.M.rd hv0_1) hi17.2) (Flat.len _) (kr0 rfl)) (qsP (fun z=>Zp z.E Za ld rfl (kr0 rfl)) (qsP (fun z=>Zp z.E Za ld rfl (kr0 rfl)) (qsP (fun z=>Yl z.E Za ld rfl rfl Tryz.underlying54 ZF (z.M.rd hv1_1) hi20.1 (kr0 rfl)) (qsP (fun z=>Z1 z.E Za ld rfl ZF rfl (Yp (z.M.rd hv1_1) hi20.2) (Flat.len _) (kr0 rfl)) (qsP (fun z=>ZV z.E Za ld rfl (cbm Tryz.func150) (KW _ x15 x18 r21 e22) (kc rfl)) (qsP (fun z=>QE z.E Za ld rfl (kr0 rfl)) qs0)))))))))) ?_
     ·intro a w u hE hM
      refine Zf ?_
      obtain rfl:=Option.some.inj hl12
      refine Zh ?_
      exact ⟨hE.sub ⟨rfl,rfl,rfl,rfl,trivial⟩,hM⟩
    ·skip
     rintro a w ⟨hE,hM⟩
     refine Zo hE rfl ?_ ?_
     ·intro hb24
      have hF13:=Zs hF13 hb24
      refine Zb (Zc hE rfl fun a hE=>Ze ?_)
      obtain rfl:=hx8 _ (ois hF13)
      obtain rfl:=Option.some.inj hF4
      exact wp_ret (XH (ZA (ZA (XH (ZA (ZA (kr1 hE rfl rfl hM.kept)))))))
     ·intro hb24
      have hF13:=Zt hF13 hb24
      refine wp_skip (Z4 (Zu (wp_region_lit (Zd hE rfl fun a hE=>Zi hE rfl rfl rfl fun a hE=>Zc hE rfl fun a hE=>Zf (Zh ?_)))))
      exact ⟨_,(ois hF13),hE.sub ⟨rfl,rfl,rfl,trivial⟩,hM⟩
   ·intro hb10
    have hs7:=Zt hs7 hb10
    refine wp_exit (Zl (Zl (Z5 ?_)))
    obtain rfl:=hx8 _ (ois hs7)
    refine Zh ?_
    exact ⟨(),rfl,hE.sub trivial,hM⟩
  ·skip
   rintro a w ⟨s5,ht,hE,hM⟩
   subst ht
   have hF4:=Qu hF4
   refine Zu (Zb (Zc hE rfl fun a hE=>Ze ?_))
   obtain rfl:=Option.some.inj hF4
   exact wp_ret (kr1 hE rfl rfl hM.kept)
def TP (p0 : (List UInt8)) (p1 : (List UInt8)) (s6 : Int) : Option (Fl Int (Fl Unit Bool)) :=
 if (decide (s6 < (p0.length : Int))) = true then (((idx p0 s6).bind fun x15=>(idx p1 s6).bind fun x18=>some (x15 != x18) : Option (Bool)).bind fun j11=>if j11 = true then (some (Fl.ex (Fl.ex false))) else (some (Fl.nx (wr (s6 + 1))))) else (some (Fl.ex (Fl.nx ())))
def VM (p0 : (List UInt8)) (p1 : (List UInt8)) : Option (Bool) :=
 if ((p0.length : Int) != (p1.length : Int)) = true then (some false) else ((ZB (TP p0 p1) 0).bind fun j2=>j2.el (fun s5=>some true) (fun r=>some r))
theorem K8 (w0 : World) (p0 : (List UInt8)) (v0_1 : Value) (hv0_1 : Ro w0 p0 [v0_1]) (p1 : (List UInt8)) (v1_1 : Value) (hv1_1 : Ro w0 p1 [v1_1]) (r : Bool) (hF : VM p0 p1 = some r) :
  Calls Tryz.prog 21 [v0_1,v1_1].toArray w0 (Rt w0 (vT r)):=by
 refine ce Tryz.func21 ?_
 intro a hE
 have hM:=M.start w0
 unfold VM at hF
 refine Zb (Zc hE rfl fun a hE=>Ze (wp_seq (Zb (Zd hE rfl fun a hE=>Z2 hE rfl Tryz.underlying40 (hM.rd hv0_1) fun a hE=>Zd hE rfl fun a hE=>Z2 hE rfl Tryz.underlying40 (hM.rd hv1_1) fun a hE=>Zi hE rfl rfl rfl fun a hE=>Ze ?_))))
 refine Zo hE rfl ?_ ?_
 ·intro hb1
  have hF:=Zs hF hb1
  refine Zb (Zc hE rfl fun a hE=>Ze ?_)
  obtain rfl:=Option.some.inj hF
  exact wp_ret (ZA (kr1 hE rfl rfl hM.kept))
 ·intro hb1
  have hF:=Zt hF hb1
  refine wp_skip (Zu (wp_seq (Zb (Zc hE rfl fun a hE=>Ze ?_))))
  obtain ⟨j2,hl3,hF4⟩:=bind_some hF
  refine ZJ (fun a w=>∃ s5 : Unit,j2 = Fl.nx s5 ∧ Env 26 a [] ∧ M (Old w0) w0 w []) ?_ ?_
  ·skip
   refine wp_block ?_
   refine ZC (fun (s6 : Int) a w=>Env 26 a [(0,v0_1),(1,v1_1),(5,vI s6)] ∧ M (Old w0) w0 w []) hl3 ⟨hE.sub ⟨rfl,rfl,rfl,trivial⟩,hM⟩ ?_
   rintro s6 a w ⟨hE,hM⟩ o9 hs7 hx8
   unfold TP at hs7
   refine wp_seq (Zb (Zd hE rfl fun a hE=>Zd hE rfl fun a hE=>Z2 hE rfl Tryz.underlying40 (hM.rd hv0_1) fun a hE=>Zi hE rfl rfl rfl fun a hE=>Ze ?_))
   refine Zo hE rfl ?_ ?_
   ·intro hb10
    have hs7:=Zs hs7 hb10
    refine wp_skip (Zu (wp_seq (wp_block ?_)))
    obtain ⟨j11,hl12,hF13⟩:=bind_some hs7
    refine ZI (fun a w=>Env 26 a [(0,v0_1),(1,v1_1),(5,vI s6),(25,vT j11)] ∧ M (Old w0) w0 w []) ?_ ?_
    ·skip
     obtain ⟨x15,hi17,hl12⟩:=bix hl12
     obtain ⟨x18,hi20,hl12⟩:=bix hl12
     refine ZX [17,18,19,20,21,22,23,24,25] Yy rfl rfl (by decide) rfl hE hM (qsP (fun z=>Zp z.E Za ld rfl (kr0 rfl)) (qsP (fun z=>Zp z.E Za ld rfl (kr0 rfl)) (qsP (fun z=>Yl z.E Za ld rfl rfl Tryz.underlying40 ty5 (z.M.rd hv0_1) hi17.1 (kr0 rfl)) (qsP (fun z=>ZK (v:=(vB x15)) z.E Za ld rfl ty5 rfl (Yp (z.M.rd hv0_1) hi17.2) (kr0 rfl)) (qsP (fun z=>Zp z.E Za ld rfl (kr0 rfl)) (qsP (fun z=>Zp z.E Za ld rfl (kr0 rfl)) (qsP (fun z=>Yl z.E Za ld rfl rfl Tryz.underlying40 ty5 (z.M.rd hv1_1) hi20.1 (kr0 rfl)) (qsP (fun z=>ZK (v:=(vB x18)) z.E Za ld rfl ty5 rfl (Yp (z.M.rd hv1_1) hi20.2) (kr0 rfl)) (qsP (fun z=>Ye z.E Za ld rfl rfl (yO x15 x18) (kr0 rfl)) qs0))))))))) ?_
     ·intro a w u hE hM
      refine Zf ?_
      obtain rfl:=Option.some.inj hl12
      refine Zh ?_
      exact ⟨hE.sub ⟨rfl,rfl,rfl,rfl,trivial⟩,hM⟩
    ·skip
     rintro a w ⟨hE,hM⟩
     refine Zo hE rfl ?_ ?_
     ·intro hb22
      have hF13:=Zs hF13 hb22
      refine Zb (Zc hE rfl fun a hE=>Ze ?_)
      obtain rfl:=hx8 _ (ois hF13)
      obtain rfl:=Option.some.inj hF4
      exact wp_ret (XH (ZA (ZA (XH (ZA (ZA (kr1 hE rfl rfl hM.kept)))))))
     ·intro hb22
      have hF13:=Zt hF13 hb22
      refine wp_skip (Z4 (Zu (wp_region_lit (Zd hE rfl fun a hE=>Zi hE rfl rfl rfl fun a hE=>Zc hE rfl fun a hE=>Zf (Zh ?_)))))
      exact ⟨_,(ois hF13),hE.sub ⟨rfl,rfl,rfl,trivial⟩,hM⟩
   ·intro hb10
    have hs7:=Zt hs7 hb10
    refine wp_exit (Zl (Zl (Z5 ?_)))
    obtain rfl:=hx8 _ (ois hs7)
    refine Zh ?_
    exact ⟨(),rfl,hE.sub trivial,hM⟩
  ·skip
   rintro a w ⟨s5,ht,hE,hM⟩
   subst ht
   have hF4:=Qu hF4
   refine Zu (Zb (Zc hE rfl fun a hE=>Ze ?_))
   obtain rfl:=Option.some.inj hF4
   exact wp_ret (kr1 hE rfl rfl hM.kept)
def Tp (p0 : (Vector UInt8 32)) (p1 : (Vector UInt8 32)) (s9 : Int) : Option (Fl Int (Fl Unit Bool)) :=
 if (decide (s9 < 32)) = true then (((ZH p0 s9).bind fun x19=>(ZH p1 s9).bind fun x22=>some (x19 != x22) : Option (Bool)).bind fun j14=>if j14 = true then (some (Fl.ex (Fl.ex false))) else (some (Fl.nx (wr (s9 + 1))))) else (some (Fl.ex (Fl.nx ())))
def Wc (p0 : (Vector UInt8 32)) (p1 : (Vector UInt8 32)) : Option (Bool) :=
 (ZB (Tp p0 p1) 0).bind fun j5=>j5.el (fun s8=>some true) (fun r=>some r)
theorem QD (w0 : World) (p0 : (Vector UInt8 32)) (p1 : (Vector UInt8 32)) (r : Bool) (hF : Wc p0 p1 = some r) :
  Calls Tryz.prog 20 [(Value.agg (enc p0).toArray),(Value.agg (enc p1).toArray)].toArray w0 (Rt w0 (vT r)):=by
 refine ce Tryz.func20 ?_
 intro a hE
 have hM:=M.start w0
 unfold Wc at hF
 refine Zb (ZT (cs:=enc p0) hE hM Za ld rfl rfl fun b1 w a hM hE=>ZT (cs:=enc p1) hE hM Za ld rfl rfl fun b3 w a hM hE=>Zc hE rfl fun a hE=>Ze (wp_seq (Zb (Zc hE rfl fun a hE=>Ze ?_))))
 obtain ⟨j5,hl6,hF7⟩:=bind_some hF
 refine ZJ (fun a w=>∃ s8 : Unit,j5 = Fl.nx s8 ∧ Env 17 a [] ∧ M (Old w0) w0 w []) ?_ ?_
 ·skip
  refine wp_block ?_
  refine ZC (fun (s9 : Int) a w=>Env 17 a [(2,(ptr b1 0)),(3,(ptr b3 0)),(5,vI s9)] ∧ M (Old w0) w0 w [raw b3 (enc p1),raw b1 (enc p0)]) hl6 ⟨hE.sub ⟨rfl,rfl,rfl,trivial⟩,hM⟩ ?_
  rintro s9 a w ⟨hE,hM⟩ o12 hs10 hx11
  unfold Tp at hs10
  refine wp_seq (Zb (Zd hE rfl fun a hE=>Zi hE rfl rfl rfl fun a hE=>Ze ?_))
  refine Zo hE rfl ?_ ?_
  ·intro hb13
   have hs10:=Zs hs10 hb13
   refine wp_skip (Zu (wp_seq (wp_block ?_)))
   obtain ⟨j14,hl15,hF16⟩:=bind_some hs10
   refine ZI (fun a w=>Env 17 a [(2,(ptr b1 0)),(3,(ptr b3 0)),(5,vI s9),(16,vT j14)] ∧ M (Old w0) w0 w [raw b3 (enc p1),raw b1 (enc p0)]) ?_ ?_
   ·skip
    obtain ⟨x19,hi18,hl15⟩:=bvx hl15
    obtain ⟨x22,hi21,hl15⟩:=bvx hl15
    refine ZX [10,11,12,13,14,15,16] Yy rfl rfl (by decide) rfl hE hM (qsP (fun z=>Zp z.E Za ld rfl (kr0 rfl)) (qsP (fun z=>ZG z.E Za ld rfl rfl Tryz.underlying35 ty5 hi18.1 (kr0 rfl)) (qsP (fun z=>ZK (v:=(vB x19)) z.E Za ld rfl ty5 rfl (At.vec (z.M.rawAt1) hi18.2) (kr0 rfl)) (qsP (fun z=>Zp z.E Za ld rfl (kr0 rfl)) (qsP (fun z=>ZG z.E Za ld rfl rfl Tryz.underlying35 ty5 hi21.1 (kr0 rfl)) (qsP (fun z=>ZK (v:=(vB x22)) z.E Za ld rfl ty5 rfl (At.vec (z.M.rawAt0) hi21.2) (kr0 rfl)) (qsP (fun z=>Ye z.E Za ld rfl rfl (yO x19 x22) (kr0 rfl)) qs0))))))) ?_
    ·intro a w u hE hM
     refine Zf ?_
     obtain rfl:=Option.some.inj hl15
     refine Zh ?_
     exact ⟨hE.sub ⟨rfl,rfl,rfl,rfl,trivial⟩,hM⟩
   ·skip
    rintro a w ⟨hE,hM⟩
    refine Zo hE rfl ?_ ?_
    ·intro hb25
     have hF16:=Zs hF16 hb25
     refine Zb (Zc hE rfl fun a hE=>Ze ?_)
     obtain rfl:=hx11 _ (ois hF16)
     obtain rfl:=Option.some.inj hF7
     exact wp_ret (XH (ZA (ZA (XH (ZA (ZA (kr1 hE rfl rfl hM.kept)))))))
    ·intro hb25
     have hF16:=Zt hF16 hb25
     refine wp_skip (Z4 (Zu (wp_region_lit (Zd hE rfl fun a hE=>Zi hE rfl rfl rfl fun a hE=>Zc hE rfl fun a hE=>Zf (Zh ?_)))))
     exact ⟨_,(ois hF16),hE.sub ⟨rfl,rfl,rfl,trivial⟩,hM⟩
  ·intro hb13
   have hs10:=Zt hs10 hb13
   refine wp_exit (Zl (Zl (Z5 ?_)))
   obtain rfl:=hx11 _ (ois hs10)
   refine Zh ?_
   have hM:=M.fst (l:=[]) hM
   exact ⟨(),rfl,hE.sub trivial,hM⟩
 ·skip
  rintro a w ⟨s8,ht,hE,hM⟩
  subst ht
  have hF7:=Qu hF7
  refine Zu (Zb (Zc hE rfl fun a hE=>Ze ?_))
  obtain rfl:=Option.some.inj hF7
  exact wp_ret (kr1 hE rfl rfl hM.kept)
def W4 (p0 : GRecord) (p1 : GRecord) : Option (Bool) :=
 if (p0.Number != p1.Number) = true then (some false) else (if (p0.Version != p1.Version) = true then (some false) else ((WN p0.Nonce p1.Nonce).bind fun r7=>if (!r7) = true then (some false) else ((VM p0.Label p1.Label).bind fun r10=>if (!r10) = true then (some false) else ((VM p0.Body p1.Body).bind fun r13=>if (!r13) = true then (some false) else ((Wc p0.Tag p1.Tag).bind fun r16=>if (!r16) = true then (some false) else (some true))))))
theorem BX (w0 : World) (p0 : GRecord) (v0_1 : Value) (hv0_1 : Ro w0 p0.Label [v0_1]) (v0_2 : Value) (hv0_2 : Ro w0 p0.Body [v0_2]) (p1 : GRecord) (v1_1 : Value) (hv1_1 : Ro w0 p1.Label [v1_1]) (v1_2 : Value) (hv1_2 : Ro w0 p1.Body [v1_2]) (r : Bool) (hF : W4 p0 p1 = some r) :
  Calls Tryz.prog 151 [(Value.agg (cat [[vI p0.Number],[vI p0.Version],enc p0.Nonce,[v0_1],[v0_2],enc p0.Tag]).toArray),(Value.agg (cat [[vI p1.Number],[vI p1.Version],enc p1.Nonce,[v1_1],[v1_2],enc p1.Tag]).toArray)].toArray w0 (Rt w0 (vT r)):=by
 refine ce Tryz.func151 ?_
 intro a hE
 have hM:=M.start w0
 unfold W4 at hF
 refine Zb (ZT (cs:=cat [[vI p0.Number],[vI p0.Version],enc p0.Nonce,[v0_1],[v0_2],enc p0.Tag]) hE hM Za ld rfl rfl fun b1 w a hM hE=>ZT (cs:=cat [[vI p1.Number],[vI p1.Version],enc p1.Nonce,[v1_1],[v1_2],enc p1.Tag]) hE hM Za ld rfl rfl fun b3 w a hM hE=>Zc hE rfl fun a hE=>Ze (wp_seq (Zb (Zg hE rfl (XX) fun a hE=>Zw (v:=(vI p0.Number)) hE rfl ty2 rfl (At.cat (pre:=[]) hM.rawAt1 cl0) fun a hE=>Zg hE rfl (XX) fun a hE=>Zw (v:=(vI p1.Number)) hE rfl ty2 rfl (At.cat (pre:=[]) hM.rawAt0 cl0) fun a hE=>Zi hE rfl rfl rfl fun a hE=>Ze ?_))))
 refine Zo hE rfl ?_ ?_
 ·intro hb5
  have hF:=Zs hF hb5
  refine Zb (Zc hE rfl fun a hE=>Ze ?_)
  obtain rfl:=Option.some.inj hF
  exact wp_ret (ZA (kr1 hE rfl rfl hM.kept))
 ·intro hb5
  have hF:=Zt hF hb5
  refine wp_skip (Zu (wp_seq (Zb (Zg hE rfl (TR) fun a hE=>Zw (v:=(vI p0.Version)) hE rfl ty2 rfl (At.cat (pre:=[[vI p0.Number]]) hM.rawAt1 ck) fun a hE=>Zg hE rfl (TR) fun a hE=>Zw (v:=(vI p1.Version)) hE rfl ty2 rfl (At.cat (pre:=[[vI p1.Number]]) hM.rawAt0 ck) fun a hE=>Zi hE rfl rfl rfl fun a hE=>Ze ?_))))
  refine Zo hE rfl ?_ ?_
  ·intro hb6
   have hF:=Zs hF hb6
   refine Zb (Zc hE rfl fun a hE=>Ze ?_)
   obtain rfl:=Option.some.inj hF
   exact wp_ret (ZA (kr1 hE rfl rfl hM.kept))
  ·intro hb6
   have hF:=Zt hF hb6
   refine wp_skip (Zu (wp_seq (Zb (Zg hE rfl (Jk) fun a hE=>Zr hE rfl ZF rfl (At.cat (pre:=[[vI p0.Number],[vI p0.Version]]) hM.rawAt1 ck) (Flat.len _) fun a hE=>Zg hE rfl (Jk) fun a hE=>Zr hE rfl ZF rfl (At.cat (pre:=[[vI p1.Number],[vI p1.Version]]) hM.rawAt0 ck) (Flat.len _) ?_)))); intro a hE
   obtain ⟨r7,e8,hF⟩:=bind_some hF
   refine Zx hE rfl (cbm Tryz.func150) (KW _ p0.Nonce p1.Nonce r7 e8) ?_
   rintro v w a ⟨rfl,hK⟩ hE
   have hM:=hM.keep hK
   refine Qa hE rfl fun a hE=>Ze ?_
   refine Zo hE rfl ?_ ?_
   ·intro hb9
    have hF:=Zs hF hb9
    refine Zb (Zc hE rfl fun a hE=>Ze ?_)
    obtain rfl:=Option.some.inj hF
    exact wp_ret (ZA (kr1 hE rfl rfl hM.kept))
   ·intro hb9
    have hF:=Zt hF hb9
    refine wp_skip (Zu (wp_seq (Zb (Zg hE rfl (Qc) fun a hE=>Zw (v:=v0_1) hE rfl UP rfl (At.cat (pre:=[[vI p0.Number],[vI p0.Version],enc p0.Nonce]) hM.rawAt1 ck) fun a hE=>Zg hE rfl (Qc) fun a hE=>Zw (v:=v1_1) hE rfl UP rfl (At.cat (pre:=[[vI p1.Number],[vI p1.Version],enc p1.Nonce]) hM.rawAt0 ck) ?_)))); intro a hE
    obtain ⟨r10,e11,hF⟩:=bind_some hF
    refine Zx hE rfl (cbm Tryz.func21) (K8 _ p0.Label v0_1 (hM.rdo hv0_1) p1.Label v1_1 (hM.rdo hv1_1) r10 e11) ?_
    rintro v w a ⟨rfl,hK⟩ hE
    have hM:=hM.keep hK
    refine Qa hE rfl fun a hE=>Ze ?_
    refine Zo hE rfl ?_ ?_
    ·intro hb12
     have hF:=Zs hF hb12
     refine Zb (Zc hE rfl fun a hE=>Ze ?_)
     obtain rfl:=Option.some.inj hF
     exact wp_ret (ZA (kr1 hE rfl rfl hM.kept))
    ·intro hb12
     have hF:=Zt hF hb12
     refine wp_skip (Zu (wp_seq (Zb (Zg hE rfl (Kc) fun a hE=>Zw (v:=v0_2) hE rfl UP rfl (At.cat (pre:=[[vI p0.Number],[vI p0.Version],enc p0.Nonce,[v0_1]]) hM.rawAt1 ck) fun a hE=>Zg hE rfl (Kc) fun a hE=>Zw (v:=v1_2) hE rfl UP rfl (At.cat (pre:=[[vI p1.Number],[vI p1.Version],enc p1.Nonce,[v1_1]]) hM.rawAt0 ck) ?_)))); intro a hE
     obtain ⟨r13,e14,hF⟩:=bind_some hF
     refine Zx hE rfl (cbm Tryz.func21) (K8 _ p0.Body v0_2 (hM.rdo hv0_2) p1.Body v1_2 (hM.rdo hv1_2) r13 e14) ?_
     rintro v w a ⟨rfl,hK⟩ hE
     have hM:=hM.keep hK
     refine Qa hE rfl fun a hE=>Ze ?_
     refine Zo hE rfl ?_ ?_
     ·intro hb15
      have hF:=Zs hF hb15
      refine Zb (Zc hE rfl fun a hE=>Ze ?_)
      obtain rfl:=Option.some.inj hF
      exact wp_ret (ZA (kr1 hE rfl rfl hM.kept))
     ·intro hb15
      have hF:=Zt hF hb15
      refine wp_skip (Zu (wp_seq (Zb (Zg hE rfl (Q9) fun a hE=>Zr hE rfl ZR rfl (At.cat (pre:=[[vI p0.Number],[vI p0.Version],enc p0.Nonce,[v0_1],[v0_2]]) hM.rawAt1 ck) (Flat.len _) fun a hE=>Zg hE rfl (Q9) fun a hE=>Zr hE rfl ZR rfl (At.cat (pre:=[[vI p1.Number],[vI p1.Version],enc p1.Nonce,[v1_1],[v1_2]]) hM.rawAt0 ck) (Flat.len _) ?_)))); intro a hE
      obtain ⟨r16,e17,hF⟩:=bind_some hF
      refine Zx hE rfl cb20 (QD _ p0.Tag p1.Tag r16 e17) ?_
      rintro v w a ⟨rfl,hK⟩ hE
      have hM:=hM.keep hK
      refine Qa hE rfl fun a hE=>Ze ?_
      refine Zo hE rfl ?_ ?_
      ·intro hb18
       have hF:=Zs hF hb18
       refine Zb (Zc hE rfl fun a hE=>Ze ?_)
       obtain rfl:=Option.some.inj hF
       exact wp_ret (ZA (kr1 hE rfl rfl hM.kept))
      ·intro hb18
       have hF:=Zt hF hb18
       refine wp_skip (Zu (Zb (Zc hE rfl fun a hE=>Ze ?_)))
       obtain rfl:=Option.some.inj hF
       exact wp_ret (kr1 hE rfl rfl hM.kept)
def UQ (p0 : (List GRecord)) (p1 : (List GRecord)) (s6 : Int) : Option (Fl Int (Fl Unit Bool)) :=
 if (decide (s6 < (p0.length : Int))) = true then (((idx p0 s6).bind fun x15=>(idx p1 s6).bind fun x25=>(W4 x15 x25).bind fun r35=>some (!r35) : Option (Bool)).bind fun j11=>if j11 = true then (some (Fl.ex (Fl.ex false))) else (some (Fl.nx (wr (s6 + 1))))) else (some (Fl.ex (Fl.nx ())))
def V5 (p0 : (List GRecord)) (p1 : (List GRecord)) : Option (Bool) :=
 if ((p0.length : Int) != (p1.length : Int)) = true then (some false) else ((ZB (UQ p0 p1) 0).bind fun j2=>j2.el (fun s5=>some true) (fun r=>some r))
theorem Bp (w0 : World) (p0 : (List GRecord)) (v0_1 : Value) (hv0_1 : Ro w0 p0 [v0_1]) (p1 : (List GRecord)) (v1_1 : Value) (hv1_1 : Ro w0 p1 [v1_1]) (r : Bool) (hF : V5 p0 p1 = some r) :
  Calls Tryz.prog 92 [v0_1,v1_1].toArray w0 (Rt w0 (vT r)):=by
 refine ce Tryz.func92 ?_
 intro a hE
 have hM:=M.start w0
 unfold V5 at hF
 refine Zb (Zc hE rfl fun a hE=>Ze (wp_seq (Zb (Zd hE rfl fun a hE=>Z2 hE rfl Tryz.underlying55 (hM.rd hv0_1) fun a hE=>Zd hE rfl fun a hE=>Z2 hE rfl Tryz.underlying55 (hM.rd hv1_1) fun a hE=>Zi hE rfl rfl rfl fun a hE=>Ze ?_))))
 refine Zo hE rfl ?_ ?_
 ·intro hb1
  have hF:=Zs hF hb1
  refine Zb (Zc hE rfl fun a hE=>Ze ?_)
  obtain rfl:=Option.some.inj hF
  exact wp_ret (ZA (kr1 hE rfl rfl hM.kept))
 ·intro hb1
  have hF:=Zt hF hb1
  refine wp_skip (Zu (wp_seq (Zb (Zc hE rfl fun a hE=>Ze ?_))))
  obtain ⟨j2,hl3,hF4⟩:=bind_some hF
  refine ZJ (fun a w=>∃ s5 : Unit,j2 = Fl.nx s5 ∧ Env 27 a [] ∧ M (Old w0) w0 w []) ?_ ?_
  ·skip
   refine wp_block ?_
   refine ZC (fun (s6 : Int) a w=>Env 27 a [(0,v0_1),(1,v1_1),(5,vI s6)] ∧ M (Old w0) w0 w []) hl3 ⟨hE.sub ⟨rfl,rfl,rfl,trivial⟩,hM⟩ ?_
   rintro s6 a w ⟨hE,hM⟩ o9 hs7 hx8
   unfold UQ at hs7
   refine wp_seq (Zb (Zd hE rfl fun a hE=>Zd hE rfl fun a hE=>Z2 hE rfl Tryz.underlying55 (hM.rd hv0_1) fun a hE=>Zi hE rfl rfl rfl fun a hE=>Ze ?_))
   refine Zo hE rfl ?_ ?_
   ·intro hb10
    have hs7:=Zs hs7 hb10
    refine wp_skip (Zu (wp_seq (wp_block ?_)))
    obtain ⟨j11,hl12,hF13⟩:=bind_some hs7
    refine ZI (fun a w=>Env 27 a [(0,v0_1),(1,v1_1),(5,vI s6),(26,vT j11)] ∧ M (Old w0) w0 w []) ?_ ?_
    ·skip
     obtain ⟨x15,hi17,hl12⟩:=bix hl12
     obtain ⟨cs18,hs19,hA20⟩:=X3 hv0_1 hi17.2 -- ^
     obtain ⟨u21,u23,rfl,h22,h24⟩:=Y1 hs19 -- ^
     obtain ⟨x25,hi27,hl12⟩:=bix hl12
     obtain ⟨cs28,hs29,hA30⟩:=X3 hv1_1 hi27.2 -- ^
     obtain ⟨u31,u33,rfl,h32,h34⟩:=Y1 hs29 -- ^
     obtain ⟨r35,e36,hl12⟩:=bind_some hl12
     refine ZX [17,18,19,20,21,22,23,24,25,26] Yy rfl rfl (by decide) rfl hE hM (qsP (fun z=>Zp z.E Za ld rfl (kr0 rfl)) (qsP (fun z=>Zp z.E Za ld rfl (kr0 rfl)) (qsP (fun z=>Yl z.E Za ld rfl rfl Tryz.underlying55 YA (z.M.rd hv0_1) hi17.1 (kr0 rfl)) (qsP (fun z=>Z1 z.E Za ld rfl YA rfl (z.M.atk hA20 (VR hv0_1 hi17.2)) cq (kr0 rfl)) (qsP (fun z=>Zp z.E Za ld rfl (kr0 rfl)) (qsP (fun z=>Zp z.E Za ld rfl (kr0 rfl)) (qsP (fun z=>Yl z.E Za ld rfl rfl Tryz.underlying55 YA (z.M.rd hv1_1) hi27.1 (kr0 rfl)) (qsP (fun z=>Z1 z.E Za ld rfl YA rfl (z.M.atk hA30 (VR hv1_1 hi27.2)) cq (kr0 rfl)) (qsP (fun z=>ZV z.E Za ld rfl (cbm Tryz.func151) (BX _ x15 u21 (z.M.rdo h22) u23 (z.M.rdo h24) x25 u31 (z.M.rdo h32) u33 (z.M.rdo h34) r35 e36) (kc rfl)) (qsP (fun z=>QE z.E Za ld rfl (kr0 rfl)) qs0)))))))))) ?_
     ·intro a w u hE hM
      refine Zf ?_
      obtain rfl:=Option.some.inj hl12
      refine Zh ?_
      exact ⟨hE.sub ⟨rfl,rfl,rfl,rfl,trivial⟩,hM⟩
    ·skip
     rintro a w ⟨hE,hM⟩
     refine Zo hE rfl ?_ ?_
     ·intro hb38
      have hF13:=Zs hF13 hb38
      refine Zb (Zc hE rfl fun a hE=>Ze ?_)
      obtain rfl:=hx8 _ (ois hF13)
      obtain rfl:=Option.some.inj hF4
      exact wp_ret (XH (ZA (ZA (XH (ZA (ZA (kr1 hE rfl rfl hM.kept)))))))
     ·intro hb38
      have hF13:=Zt hF13 hb38
      refine wp_skip (Z4 (Zu (wp_region_lit (Zd hE rfl fun a hE=>Zi hE rfl rfl rfl fun a hE=>Zc hE rfl fun a hE=>Zf (Zh ?_)))))
      exact ⟨_,(ois hF13),hE.sub ⟨rfl,rfl,rfl,trivial⟩,hM⟩
   ·intro hb10
    have hs7:=Zt hs7 hb10
    refine wp_exit (Zl (Zl (Z5 ?_)))
    obtain rfl:=hx8 _ (ois hs7)
    refine Zh ?_
    exact ⟨(),rfl,hE.sub trivial,hM⟩
  ·skip
   rintro a w ⟨s5,ht,hE,hM⟩
   subst ht
   have hF4:=Qu hF4
   refine Zu (Zb (Zc hE rfl fun a hE=>Ze ?_))
   obtain rfl:=Option.some.inj hF4
   exact wp_ret (kr1 hE rfl rfl hM.kept)
def V6 (p0 : GEvent) (p1 : GEvent) : Option (Bool) :=
 if (p0.Kind != p1.Kind) = true then (some false) else (if (p0.Number != p1.Number) = true then (some false) else ((Wc p0.Tag p1.Tag).bind fun r7=>if (!r7) = true then (some false) else (some true)))
theorem As (w0 : World) (p0 : GEvent) (p1 : GEvent) (r : Bool) (hF : V6 p0 p1 = some r) :
  Calls Tryz.prog 152 [(Value.agg (enc p0).toArray),(Value.agg (enc p1).toArray)].toArray w0 (Rt w0 (vT r)):=by
 refine ce Tryz.func152 ?_
 intro a hE
 have hM:=M.start w0
 unfold V6 at hF
 refine Zb (ZT (cs:=cat [[vI p0.Kind],[vI p0.Number],enc p0.Tag]) hE hM Za ld rfl rfl fun b1 w a hM hE=>ZT (cs:=cat [[vI p1.Kind],[vI p1.Number],enc p1.Tag]) hE hM Za ld rfl rfl fun b3 w a hM hE=>Zc hE rfl fun a hE=>Ze (wp_seq (Zb (Zg hE rfl (UW) fun a hE=>Zw (v:=(vI p0.Kind)) hE rfl ty2 rfl (At.cat (pre:=[]) hM.rawAt1 cl0) fun a hE=>Zg hE rfl (UW) fun a hE=>Zw (v:=(vI p1.Kind)) hE rfl ty2 rfl (At.cat (pre:=[]) hM.rawAt0 cl0) fun a hE=>Zi hE rfl rfl rfl fun a hE=>Ze ?_))))
 refine Zo hE rfl ?_ ?_
 ·intro hb5
  have hF:=Zs hF hb5
  refine Zb (Zc hE rfl fun a hE=>Ze ?_)
  obtain rfl:=Option.some.inj hF
  exact wp_ret (ZA (kr1 hE rfl rfl hM.kept))
 ·intro hb5
  have hF:=Zt hF hb5
  refine wp_skip (Zu (wp_seq (Zb (Zg hE rfl (Tk) fun a hE=>Zw (v:=(vI p0.Number)) hE rfl ty2 rfl (At.cat (pre:=[[vI p0.Kind]]) hM.rawAt1 ck) fun a hE=>Zg hE rfl (Tk) fun a hE=>Zw (v:=(vI p1.Number)) hE rfl ty2 rfl (At.cat (pre:=[[vI p1.Kind]]) hM.rawAt0 ck) fun a hE=>Zi hE rfl rfl rfl fun a hE=>Ze ?_))))
  refine Zo hE rfl ?_ ?_
  ·intro hb6
   have hF:=Zs hF hb6
   refine Zb (Zc hE rfl fun a hE=>Ze ?_)
   obtain rfl:=Option.some.inj hF
   exact wp_ret (ZA (kr1 hE rfl rfl hM.kept))
  ·intro hb6
   have hF:=Zt hF hb6
   refine wp_skip (Zu (wp_seq (Zb (Zg hE rfl (Q8) fun a hE=>Zr hE rfl ZR rfl (At.cat (pre:=[[vI p0.Kind],[vI p0.Number]]) hM.rawAt1 ck) (Flat.len _) fun a hE=>Zg hE rfl (Q8) fun a hE=>Zr hE rfl ZR rfl (At.cat (pre:=[[vI p1.Kind],[vI p1.Number]]) hM.rawAt0 ck) (Flat.len _) ?_)))); intro a hE
   obtain ⟨r7,e8,hF⟩:=bind_some hF
   refine Zx hE rfl cb20 (QD _ p0.Tag p1.Tag r7 e8) ?_
   rintro v w a ⟨rfl,hK⟩ hE
   have hM:=hM.keep hK
   refine Qa hE rfl fun a hE=>Ze ?_
   refine Zo hE rfl ?_ ?_
   ·intro hb9
    have hF:=Zs hF hb9
    refine Zb (Zc hE rfl fun a hE=>Ze ?_)
    obtain rfl:=Option.some.inj hF
    exact wp_ret (ZA (kr1 hE rfl rfl hM.kept))
   ·intro hb9
    have hF:=Zt hF hb9
    refine wp_skip (Zu (Zb (Zc hE rfl fun a hE=>Ze ?_)))
    obtain rfl:=Option.some.inj hF
    exact wp_ret (kr1 hE rfl rfl hM.kept)
def To (p0 : (List GEvent)) (p1 : (List GEvent)) (s6 : Int) : Option (Fl Int (Fl Unit Bool)) :=
 if (decide (s6 < (p0.length : Int))) = true then (((idx p0 s6).bind fun x15=>(idx p1 s6).bind fun x18=>(V6 x15 x18).bind fun r21=>some (!r21) : Option (Bool)).bind fun j11=>if j11 = true then (some (Fl.ex (Fl.ex false))) else (some (Fl.nx (wr (s6 + 1))))) else (some (Fl.ex (Fl.nx ())))
def Ut (p0 : (List GEvent)) (p1 : (List GEvent)) : Option (Bool) :=
 if ((p0.length : Int) != (p1.length : Int)) = true then (some false) else ((ZB (To p0 p1) 0).bind fun j2=>j2.el (fun s5=>some true) (fun r=>some r))
theorem BT (w0 : World) (p0 : (List GEvent)) (v0_1 : Value) (hv0_1 : Ro w0 p0 [v0_1]) (p1 : (List GEvent)) (v1_1 : Value) (hv1_1 : Ro w0 p1 [v1_1]) (r : Bool) (hF : Ut p0 p1 = some r) :
  Calls Tryz.prog 93 [v0_1,v1_1].toArray w0 (Rt w0 (vT r)):=by
 refine ce Tryz.func93 ?_
 intro a hE
 have hM:=M.start w0
 unfold Ut at hF
 refine Zb (Zc hE rfl fun a hE=>Ze (wp_seq (Zb (Zd hE rfl fun a hE=>Z2 hE rfl Tryz.underlying56 (hM.rd hv0_1) fun a hE=>Zd hE rfl fun a hE=>Z2 hE rfl Tryz.underlying56 (hM.rd hv1_1) fun a hE=>Zi hE rfl rfl rfl fun a hE=>Ze ?_))))
 refine Zo hE rfl ?_ ?_
 ·intro hb1
  have hF:=Zs hF hb1
  refine Zb (Zc hE rfl fun a hE=>Ze ?_)
  obtain rfl:=Option.some.inj hF
  exact wp_ret (ZA (kr1 hE rfl rfl hM.kept))
 ·intro hb1
  have hF:=Zt hF hb1
  refine wp_skip (Zu (wp_seq (Zb (Zc hE rfl fun a hE=>Ze ?_))))
  obtain ⟨j2,hl3,hF4⟩:=bind_some hF
  refine ZJ (fun a w=>∃ s5 : Unit,j2 = Fl.nx s5 ∧ Env 27 a [] ∧ M (Old w0) w0 w []) ?_ ?_
  ·skip
   refine wp_block ?_
   refine ZC (fun (s6 : Int) a w=>Env 27 a [(0,v0_1),(1,v1_1),(5,vI s6)] ∧ M (Old w0) w0 w []) hl3 ⟨hE.sub ⟨rfl,rfl,rfl,trivial⟩,hM⟩ ?_
   rintro s6 a w ⟨hE,hM⟩ o9 hs7 hx8
   unfold To at hs7
   refine wp_seq (Zb (Zd hE rfl fun a hE=>Zd hE rfl fun a hE=>Z2 hE rfl Tryz.underlying56 (hM.rd hv0_1) fun a hE=>Zi hE rfl rfl rfl fun a hE=>Ze ?_))
   refine Zo hE rfl ?_ ?_
   ·intro hb10
    have hs7:=Zs hs7 hb10
    refine wp_skip (Zu (wp_seq (wp_block ?_)))
    obtain ⟨j11,hl12,hF13⟩:=bind_some hs7
    refine ZI (fun a w=>Env 27 a [(0,v0_1),(1,v1_1),(5,vI s6),(26,vT j11)] ∧ M (Old w0) w0 w []) ?_ ?_
    ·skip
     obtain ⟨x15,hi17,hl12⟩:=bix hl12
     obtain ⟨x18,hi20,hl12⟩:=bix hl12
     obtain ⟨r21,e22,hl12⟩:=bind_some hl12
     refine ZX [17,18,19,20,21,22,23,24,25,26] Yy rfl rfl (by decide) rfl hE hM (qsP (fun z=>Zp z.E Za ld rfl (kr0 rfl)) (qsP (fun z=>Zp z.E Za ld rfl (kr0 rfl)) (qsP (fun z=>Yl z.E Za ld rfl rfl Tryz.underlying56 Xd (z.M.rd hv0_1) hi17.1 (kr0 rfl)) (qsP (fun z=>Z1 z.E Za ld rfl Xd rfl (Yp (z.M.rd hv0_1) hi17.2) cq (kr0 rfl)) (qsP (fun z=>Zp z.E Za ld rfl (kr0 rfl)) (qsP (fun z=>Zp z.E Za ld rfl (kr0 rfl)) (qsP (fun z=>Yl z.E Za ld rfl rfl Tryz.underlying56 Xd (z.M.rd hv1_1) hi20.1 (kr0 rfl)) (qsP (fun z=>Z1 z.E Za ld rfl Xd rfl (Yp (z.M.rd hv1_1) hi20.2) cq (kr0 rfl)) (qsP (fun z=>ZV z.E Za ld rfl (cbm Tryz.func152) (As _ x15 x18 r21 e22) (kc rfl)) (qsP (fun z=>QE z.E Za ld rfl (kr0 rfl)) qs0)))))))))) ?_
     ·intro a w u hE hM
      refine Zf ?_
      obtain rfl:=Option.some.inj hl12
      refine Zh ?_
      exact ⟨hE.sub ⟨rfl,rfl,rfl,rfl,trivial⟩,hM⟩
    ·skip
     rintro a w ⟨hE,hM⟩
     refine Zo hE rfl ?_ ?_
     ·intro hb24
      have hF13:=Zs hF13 hb24
      refine Zb (Zc hE rfl fun a hE=>Ze ?_)
      obtain rfl:=hx8 _ (ois hF13)
      obtain rfl:=Option.some.inj hF4
      exact wp_ret (XH (ZA (ZA (XH (ZA (ZA (kr1 hE rfl rfl hM.kept)))))))
     ·intro hb24
      have hF13:=Zt hF13 hb24
      refine wp_skip (Z4 (Zu (wp_region_lit (Zd hE rfl fun a hE=>Zi hE rfl rfl rfl fun a hE=>Zc hE rfl fun a hE=>Zf (Zh ?_)))))
      exact ⟨_,(ois hF13),hE.sub ⟨rfl,rfl,rfl,trivial⟩,hM⟩
   ·intro hb10
    have hs7:=Zt hs7 hb10
    refine wp_exit (Zl (Zl (Z5 ?_)))
    obtain rfl:=hx8 _ (ois hs7)
    refine Zh ?_
    exact ⟨(),rfl,hE.sub trivial,hM⟩
  ·skip
   rintro a w ⟨s5,ht,hE,hM⟩
   subst ht
   have hF4:=Qu hF4
   refine Zu (Zb (Zc hE rfl fun a hE=>Ze ?_))
   obtain rfl:=Option.some.inj hF4
   exact wp_ret (kr1 hE rfl rfl hM.kept)
def U5 (p0 : GVault) (p1 : GVault) : Option (Bool) :=
 (UA p0.Keys p1.Keys).bind fun r5=>if (!r5) = true then (some false) else (if (p0.Next != p1.Next) = true then (some false) else ((V5 p0.Records p1.Records).bind fun r9=>if (!r9) = true then (some false) else ((Ut p0.Events p1.Events).bind fun r12=>if (!r12) = true then (some false) else ((Wc p0.Head p1.Head).bind fun r15=>if (!r15) = true then (some false) else (some true)))))
theorem zq (w0 : World) (p0 : GVault) (v0_1 : Value) (hv0_1 : Ro w0 p0.Keys [v0_1]) (v0_2 : Value) (hv0_2 : Ro w0 p0.Records [v0_2]) (v0_3 : Value) (hv0_3 : Ro w0 p0.Events [v0_3]) (p1 : GVault) (v1_1 : Value) (hv1_1 : Ro w0 p1.Keys [v1_1]) (v1_2 : Value) (hv1_2 : Ro w0 p1.Records [v1_2]) (v1_3 : Value) (hv1_3 : Ro w0 p1.Events [v1_3]) (r : Bool) (hF : U5 p0 p1 = some r) :
  Calls Tryz.prog 27 [(Value.agg (cat [[v0_1],[vI p0.Next],[v0_2],[v0_3],enc p0.Head]).toArray),(Value.agg (cat [[v1_1],[vI p1.Next],[v1_2],[v1_3],enc p1.Head]).toArray)].toArray w0 (Rt w0 (vT r)):=by
 refine ce Tryz.func27 ?_
 intro a hE
 have hM:=M.start w0
 unfold U5 at hF
 refine Zb (ZT (cs:=cat [[v0_1],[vI p0.Next],[v0_2],[v0_3],enc p0.Head]) hE hM Za ld rfl rfl fun b1 w a hM hE=>ZT (cs:=cat [[v1_1],[vI p1.Next],[v1_2],[v1_3],enc p1.Head]) hE hM Za ld rfl rfl fun b3 w a hM hE=>Zc hE rfl fun a hE=>Ze (wp_seq (Zb (Zg hE rfl (Qj) fun a hE=>Zw (v:=v0_1) hE rfl HV rfl (At.cat (pre:=[]) hM.rawAt1 cl0) fun a hE=>Zg hE rfl (Qj) fun a hE=>Zw (v:=v1_1) hE rfl HV rfl (At.cat (pre:=[]) hM.rawAt0 cl0) ?_)))); intro a hE
 obtain ⟨r5,e6,hF⟩:=bind_some hF
 refine Zx hE rfl (cbm Tryz.func91) (BP _ p0.Keys v0_1 (hM.rdo hv0_1) p1.Keys v1_1 (hM.rdo hv1_1) r5 e6) ?_
 rintro v w a ⟨rfl,hK⟩ hE
 have hM:=hM.keep hK
 refine Qa hE rfl fun a hE=>Ze ?_
 refine Zo hE rfl ?_ ?_
 ·intro hb7
  have hF:=Zs hF hb7
  refine Zb (Zc hE rfl fun a hE=>Ze ?_)
  obtain rfl:=Option.some.inj hF
  exact wp_ret (ZA (kr1 hE rfl rfl hM.kept))
 ·intro hb7
  have hF:=Zt hF hb7
  refine wp_skip (Zu (wp_seq (Zb (Zg hE rfl (KB) fun a hE=>Zw (v:=(vI p0.Next)) hE rfl ty2 rfl (At.cat (pre:=[[v0_1]]) hM.rawAt1 ck) fun a hE=>Zg hE rfl (KB) fun a hE=>Zw (v:=(vI p1.Next)) hE rfl ty2 rfl (At.cat (pre:=[[v1_1]]) hM.rawAt0 ck) fun a hE=>Zi hE rfl rfl rfl fun a hE=>Ze ?_))))
  refine Zo hE rfl ?_ ?_
  ·intro hb8
   have hF:=Zs hF hb8
   refine Zb (Zc hE rfl fun a hE=>Ze ?_)
   obtain rfl:=Option.some.inj hF
   exact wp_ret (ZA (kr1 hE rfl rfl hM.kept))
  ·intro hb8
   have hF:=Zt hF hb8
   refine wp_skip (Zu (wp_seq (Zb (Zg hE rfl (Vy) fun a hE=>Zw (v:=v0_2) hE rfl Q4 rfl (At.cat (pre:=[[v0_1],[vI p0.Next]]) hM.rawAt1 ck) fun a hE=>Zg hE rfl (Vy) fun a hE=>Zw (v:=v1_2) hE rfl Q4 rfl (At.cat (pre:=[[v1_1],[vI p1.Next]]) hM.rawAt0 ck) ?_)))); intro a hE
   obtain ⟨r9,e10,hF⟩:=bind_some hF
   refine Zx hE rfl (cbm Tryz.func92) (Bp _ p0.Records v0_2 (hM.rdo hv0_2) p1.Records v1_2 (hM.rdo hv1_2) r9 e10) ?_
   rintro v w a ⟨rfl,hK⟩ hE
   have hM:=hM.keep hK
   refine Qa hE rfl fun a hE=>Ze ?_
   refine Zo hE rfl ?_ ?_
   ·intro hb11
    have hF:=Zs hF hb11
    refine Zb (Zc hE rfl fun a hE=>Ze ?_)
    obtain rfl:=Option.some.inj hF
    exact wp_ret (ZA (kr1 hE rfl rfl hM.kept))
   ·intro hb11
    have hF:=Zt hF hb11
    refine wp_skip (Zu (wp_seq (Zb (Zg hE rfl (TZ) fun a hE=>Zw (v:=v0_3) hE rfl Jv rfl (At.cat (pre:=[[v0_1],[vI p0.Next],[v0_2]]) hM.rawAt1 ck) fun a hE=>Zg hE rfl (TZ) fun a hE=>Zw (v:=v1_3) hE rfl Jv rfl (At.cat (pre:=[[v1_1],[vI p1.Next],[v1_2]]) hM.rawAt0 ck) ?_)))); intro a hE
    obtain ⟨r12,e13,hF⟩:=bind_some hF
    refine Zx hE rfl (cbm Tryz.func93) (BT _ p0.Events v0_3 (hM.rdo hv0_3) p1.Events v1_3 (hM.rdo hv1_3) r12 e13) ?_
    rintro v w a ⟨rfl,hK⟩ hE
    have hM:=hM.keep hK
    refine Qa hE rfl fun a hE=>Ze ?_
    refine Zo hE rfl ?_ ?_
    ·intro hb14
     have hF:=Zs hF hb14
     refine Zb (Zc hE rfl fun a hE=>Ze ?_)
     obtain rfl:=Option.some.inj hF
     exact wp_ret (ZA (kr1 hE rfl rfl hM.kept))
    ·intro hb14
     have hF:=Zt hF hb14
     refine wp_skip (Zu (wp_seq (Zb (Zg hE rfl (zk) fun a hE=>Zr hE rfl ZR rfl (At.cat (pre:=[[v0_1],[vI p0.Next],[v0_2],[v0_3]]) hM.rawAt1 ck) (Flat.len _) fun a hE=>Zg hE rfl (zk) fun a hE=>Zr hE rfl ZR rfl (At.cat (pre:=[[v1_1],[vI p1.Next],[v1_2],[v1_3]]) hM.rawAt0 ck) (Flat.len _) ?_)))); intro a hE
     obtain ⟨r15,e16,hF⟩:=bind_some hF
     refine Zx hE rfl cb20 (QD _ p0.Head p1.Head r15 e16) ?_
     rintro v w a ⟨rfl,hK⟩ hE
     have hM:=hM.keep hK
     refine Qa hE rfl fun a hE=>Ze ?_
     refine Zo hE rfl ?_ ?_
     ·intro hb17
      have hF:=Zs hF hb17
      refine Zb (Zc hE rfl fun a hE=>Ze ?_)
      obtain rfl:=Option.some.inj hF
      exact wp_ret (ZA (kr1 hE rfl rfl hM.kept))
     ·intro hb17
      have hF:=Zt hF hb17
      refine wp_skip (Zu (Zb (Zc hE rfl fun a hE=>Ze ?_)))
      obtain rfl:=Option.some.inj hF
      exact wp_ret (kr1 hE rfl rfl hM.kept)
def Ul (s4 : (List (Vector UInt8 16)) × Int × Int) (s12 : (List (Vector UInt8 16)) × Int × Int) : Option (Fl ((List (Vector UInt8 16)) × Int × Int) ((List (Vector UInt8 16)) × Int)) :=
 if (decide (s12.2.2 < 16)) = true then ((idx s12.1 s4.2.2).bind fun x17=>(ZH x17 s12.2.2).bind fun x21=>some (Fl.nx ((s12.1.set (s4.2.2).toNat (x17.setIfInBounds (s12.2.2).toNat (Zv s12.2.1))),wr (s12.2.1 + 1),wr (s12.2.2 + 1)))) else (some (Fl.ex (s12.1,s12.2.1)))
def XG (s4 : (List (Vector UInt8 16)) × Int × Int) : Option (Fl ((List (Vector UInt8 16)) × Int × Int) ((List (Vector UInt8 16)) × Int)) :=
 if (decide (s4.2.2 < (s4.1.length : Int))) = true then ((ZB (Ul s4) (s4.1,s4.2.1,0)).bind fun j9=>some (Fl.nx (j9.1,j9.2,wr (s4.2.2 + 1)))) else (some (Fl.ex (s4.1,s4.2.1)))
def Vn (p0 : (List (Vector UInt8 16))) (p1 : Int) : Option ((List (Vector UInt8 16)) × Int) :=
 (ZB (XG) (p0,p1,0)).bind fun j1=>some (j1.1,j1.2)
theorem Hd (St : Nat → Prop) (W w0 : World) (its : List Item) (p0 : (List (Vector UInt8 16))) (v0_1 : Value) (p1 : Int) (hM : M St W w0 (own NoB (p0 : (List (Vector UInt8 16))) [v0_1] :: its)) (r : (List (Vector UInt8 16)) × Int) (hF : Vn p0 p1 = some r) :
  Calls Tryz.prog 94 [v0_1,vI p1].toArray w0 (fun en w'=>∃ v,en = .returned v ∧ (v = (vI r.2) ∧ M St W w' (own NoB (r.1 : (List (Vector UInt8 16))) [v0_1] :: its))):=by
 refine ce Tryz.func94 ?_
 intro a hE
 unfold Vn at hF
 refine Zb (Zc hE rfl fun a hE=>Ze (wp_seq (Zb (Zc hE rfl fun a hE=>Ze ?_))))
 obtain ⟨j1,hl2,hF3⟩:=bind_some hF
 refine ZJ (fun a w=>Env 27 a [(0,v0_1),(1,vI j1.2)] ∧ M St W w (own NoB (j1.1 : (List (Vector UInt8 16))) [v0_1] :: its)) ?_ ?_
 ·skip
  refine wp_block ?_
  refine ZC (fun (s4 : (List (Vector UInt8 16)) × Int × Int) a w=>Env 27 a [(0,v0_1),(1,vI s4.2.1),(5,vI s4.2.2)] ∧ M St W w (own NoB (s4.1 : (List (Vector UInt8 16))) [v0_1] :: its)) hl2 ⟨hE.sub ⟨rfl,rfl,rfl,trivial⟩,hM⟩ ?_
  rintro s4 a w ⟨hE,hM⟩ o7 hs5 hx6
  unfold XG at hs5
  refine wp_seq (Zb (Zd hE rfl fun a hE=>Zd hE rfl fun a hE=>Z2 hE rfl Tryz.underlying54 (hM.ro (pre:=[]) noB) fun a hE=>Zi hE rfl rfl rfl fun a hE=>Ze ?_))
  refine Zo hE rfl ?_ ?_
  ·intro hb8
   have hs5:=Zs hs5 hb8
   refine wp_skip (Zu (wp_seq (wp_block (Zb (Zc hE rfl fun a hE=>Ze ?_)))))
   obtain ⟨j9,hl10,hF11⟩:=bind_some hs5
   refine ZJ (fun a w=>Env 27 a [(0,v0_1),(1,vI j9.2),(5,vI s4.2.2)] ∧ M St W w (own NoB (j9.1 : (List (Vector UInt8 16))) [v0_1] :: its)) ?_ ?_
   ·skip
    refine wp_block ?_
    refine ZC (fun (s12 : (List (Vector UInt8 16)) × Int × Int) a w=>Env 27 a [(0,v0_1),(1,vI s12.2.1),(5,vI s4.2.2),(6,vI s12.2.2)] ∧ M St W w (own NoB (s12.1 : (List (Vector UInt8 16))) [v0_1] :: its)) hl10 ⟨hE.sub ⟨rfl,rfl,rfl,rfl,trivial⟩,hM⟩ ?_
    rintro s12 a w ⟨hE,hM⟩ o15 hs13 hx14
    unfold Ul at hs13
    refine wp_seq (Zb (Zd hE rfl fun a hE=>Zi hE rfl rfl rfl fun a hE=>Ze ?_))
    refine Zo hE rfl ?_ ?_
    ·intro hb16
     have hs13:=Zs hs13 hb16
     refine wp_skip (Zu (wp_seq (wp_block (Zb (Zd hE rfl fun a hE=>Zd hE rfl fun a hE=>Zd hE rfl fun a hE=>Zd hE rfl fun a hE=>Yj hE Za ld rfl Tryz.underlying3 Tryz.underlying5 ?_))))); intro a hE
     obtain ⟨x17,hi19,hs13⟩:=bix hs13
     refine ZL hE rfl rfl Tryz.underlying54 ZF (hM.ro (pre:=[]) noB) hi19.1 ?_; intro a hE
     obtain ⟨x21,hi20,hs13⟩:=bvx hs13
     refine ZD hE rfl rfl Tryz.underlying68 ty5 hi20.1 ?_; intro a hE
     have hM:=hM.toOsl (List.getElem?_eq_some_iff.1 hi19.2).1
     refine T5 (i:=(s4.2.2).toNat) (k0:=0 + (s12.2.2).toNat * 1) (seg:=[(vB (Zv s12.2.1))]) (xo:=x17) (xn:=(x17.setIfInBounds (s12.2.2).toNat (Zv s12.2.1))) hE hM Za (Ac rfl (by show _ = _ + _ * 16 + _; omega)) rfl rfl ty5 rfl (Flat.cell (Zv s12.2.1 : UInt8)) hi19.2 (Zb4 (x:=Zv s12.2.1) hi20.1) (ZE (v:=x17) (x:=Zv s12.2.1) hi20.1) ?_; intro w a hM hE
     have hM:=hM.toOwn noB
     refine Ze (wp_region_lit (Zd hE rfl fun a hE=>Zi hE rfl rfl rfl fun a hE=>Zc hE rfl fun a hE=>Zf (Z4 (Zu (wp_region_lit (Zd hE rfl fun a hE=>Zi hE rfl rfl rfl fun a hE=>Zc hE rfl fun a hE=>Zf (Zh ?_)))))))
     exact ⟨_,(ois hs13),hE.sub ⟨rfl,rfl,rfl,rfl,trivial⟩,hM⟩
    ·intro hb16
     have hs13:=Zt hs13 hb16
     refine wp_exit (Zl (Zl (Z5 ?_)))
     obtain rfl:=hx14 _ (ois hs13)
     refine Zh ?_
     exact ⟨hE.sub ⟨rfl,rfl,rfl,trivial⟩,hM⟩
   ·skip
    rintro a w ⟨hE,hM⟩
    refine Z4 (Zu (wp_region_lit (Zd hE rfl fun a hE=>Zi hE rfl rfl rfl fun a hE=>Zc hE rfl fun a hE=>Zf (Zh ?_))))
    exact ⟨_,(ois hF11),hE.sub ⟨rfl,rfl,rfl,trivial⟩,hM⟩
  ·intro hb8
   have hs5:=Zt hs5 hb8
   refine wp_exit (Zl (Zl (Z5 ?_)))
   obtain rfl:=hx6 _ (ois hs5)
   refine Zh ?_
   exact ⟨hE.sub ⟨rfl,rfl,trivial⟩,hM⟩
 ·skip
  rintro a w ⟨hE,hM⟩
  refine Zu (Zb (Zd hE rfl fun a hE=>Zc hE rfl fun a hE=>Ze ?_))
  obtain rfl:=Option.some.inj hF3
  exact wp_ret (ZN hE (by rfl) (ZY hE rfl) ⟨_,rfl,rfl,hM⟩)
def Vd (s4 : (List UInt8) × Int × Int) : Option (Fl ((List UInt8) × Int × Int) ((List UInt8) × Int)) :=
 if (decide (s4.2.2 < (s4.1.length : Int))) = true then ((idx s4.1 s4.2.2).bind fun x9=>some (Fl.nx ((s4.1.set (s4.2.2).toNat (Zv s4.2.1)),wr (s4.2.1 + 1),wr (s4.2.2 + 1)))) else (some (Fl.ex (s4.1,s4.2.1)))
def Y5 (p0 : (List UInt8)) (p1 : Int) : Option ((List UInt8) × Int) :=
 (ZB (Vd) (p0,p1,0)).bind fun j1=>some (j1.1,j1.2)
theorem Kt (St : Nat → Prop) (W w0 : World) (its : List Item) (p0 : (List UInt8)) (v0_1 : Value) (p1 : Int) (hM : M St W w0 (own NoB (p0 : (List UInt8)) [v0_1] :: its)) (r : (List UInt8) × Int) (hF : Y5 p0 p1 = some r) :
  Calls Tryz.prog 22 [v0_1,vI p1].toArray w0 (fun en w'=>∃ v,en = .returned v ∧ (v = (vI r.2) ∧ M St W w' (own NoB (r.1 : (List UInt8)) [v0_1] :: its))):=by
 refine ce Tryz.func22 ?_
 intro a hE
 unfold Y5 at hF
 refine Zb (Zc hE rfl fun a hE=>Ze (wp_seq (Zb (Zc hE rfl fun a hE=>Ze ?_))))
 obtain ⟨j1,hl2,hF3⟩:=bind_some hF
 refine ZJ (fun a w=>Env 20 a [(0,v0_1),(1,vI j1.2)] ∧ M St W w (own NoB (j1.1 : (List UInt8)) [v0_1] :: its)) ?_ ?_
 ·skip
  refine wp_block ?_
  refine ZC (fun (s4 : (List UInt8) × Int × Int) a w=>Env 20 a [(0,v0_1),(1,vI s4.2.1),(5,vI s4.2.2)] ∧ M St W w (own NoB (s4.1 : (List UInt8)) [v0_1] :: its)) hl2 ⟨hE.sub ⟨rfl,rfl,rfl,trivial⟩,hM⟩ ?_
  rintro s4 a w ⟨hE,hM⟩ o7 hs5 hx6
  unfold Vd at hs5
  refine wp_seq (Zb (Zd hE rfl fun a hE=>Zd hE rfl fun a hE=>Z2 hE rfl Tryz.underlying40 (hM.ro (pre:=[]) noB) fun a hE=>Zi hE rfl rfl rfl fun a hE=>Ze ?_))
  refine Zo hE rfl ?_ ?_
  ·intro hb8
   have hs5:=Zs hs5 hb8
   refine wp_skip (Zu (wp_seq (wp_block (Zb (Zd hE rfl fun a hE=>Zd hE rfl fun a hE=>Zd hE rfl fun a hE=>Yj hE Za ld rfl Tryz.underlying3 Tryz.underlying5 ?_))))); intro a hE
   obtain ⟨x9,hi11,hs5⟩:=bix hs5
   refine ZL hE rfl rfl Tryz.underlying40 ty5 (hM.ro (pre:=[]) noB) hi11.1 ?_; intro a hE
   have hM:=hM.toOsl (List.getElem?_eq_some_iff.1 hi11.2).1
   refine T5 (i:=(s4.2.2).toNat) (k0:=0) (seg:=[(vB (Zv s4.2.1))]) (xo:=x9) (xn:=Zv s4.2.1) hE hM Za rfl rfl rfl ty5 rfl (Flat.cell (Zv s4.2.1 : UInt8)) hi11.2 (QJ (m:=1) rfl (by decide)) (Zk rfl) ?_; intro w a hM hE
   have hM:=hM.toOwn noB
   refine Ze (wp_region_lit (Zd hE rfl fun a hE=>Zi hE rfl rfl rfl fun a hE=>Zc hE rfl fun a hE=>Zf (Z4 (Zu (wp_region_lit (Zd hE rfl fun a hE=>Zi hE rfl rfl rfl fun a hE=>Zc hE rfl fun a hE=>Zf (Zh ?_)))))))
   exact ⟨_,(ois hs5),hE.sub ⟨rfl,rfl,rfl,trivial⟩,hM⟩
  ·intro hb8
   have hs5:=Zt hs5 hb8
   refine wp_exit (Zl (Zl (Z5 ?_)))
   obtain rfl:=hx6 _ (ois hs5)
   refine Zh ?_
   exact ⟨hE.sub ⟨rfl,rfl,trivial⟩,hM⟩
 ·skip
  rintro a w ⟨hE,hM⟩
  refine Zu (Zb (Zd hE rfl fun a hE=>Zc hE rfl fun a hE=>Ze ?_))
  obtain rfl:=Option.some.inj hF3
  exact wp_ret (ZN hE (by rfl) (ZY hE rfl) ⟨_,rfl,rfl,hM⟩)
def VC (s4 : (List GRecord) × Int × Int) (s18 : (List GRecord) × Int × Int) : Option (Fl ((List GRecord) × Int × Int) ((List GRecord) × Int)) :=
 if (decide (s18.2.2 < 16)) = true then ((idx s18.1 s4.2.2).bind fun x23=>(ZH x23.Nonce s18.2.2).bind fun x27=>some (Fl.nx ((s18.1.set (s4.2.2).toNat (⟨x23.Number,x23.Version,(x23.Nonce.setIfInBounds (s18.2.2).toNat (Zv s18.2.1)),x23.Label,x23.Body,x23.Tag⟩ : GRecord)),wr (s18.2.1 + 1),wr (s18.2.2 + 1)))) else (some (Fl.ex (s18.1,s18.2.1)))
def VB (s4 : (List GRecord) × Int × Int) (s55 : (List GRecord) × Int × Int) : Option (Fl ((List GRecord) × Int × Int) ((List GRecord) × Int)) :=
 if (decide (s55.2.2 < 32)) = true then ((idx s55.1 s4.2.2).bind fun x60=>(ZH x60.Tag s55.2.2).bind fun x64=>some (Fl.nx ((s55.1.set (s4.2.2).toNat (⟨x60.Number,x60.Version,x60.Nonce,x60.Label,x60.Body,(x60.Tag.setIfInBounds (s55.2.2).toNat (Zv s55.2.1))⟩ : GRecord)),wr (s55.2.1 + 1),wr (s55.2.2 + 1)))) else (some (Fl.ex (s55.1,s55.2.1)))
def Xh (s4 : (List GRecord) × Int × Int) : Option (Fl ((List GRecord) × Int × Int) ((List GRecord) × Int)) :=
 if (decide (s4.2.2 < (s4.1.length : Int))) = true then ((idx s4.1 s4.2.2).bind fun x9=>(idx (s4.1.set (s4.2.2).toNat (⟨s4.2.1,x9.Version,x9.Nonce,x9.Label,x9.Body,x9.Tag⟩ : GRecord)) s4.2.2).bind fun x12=>(ZB (VC s4) (((s4.1.set (s4.2.2).toNat (⟨s4.2.1,x9.Version,x9.Nonce,x9.Label,x9.Body,x9.Tag⟩ : GRecord)).set (s4.2.2).toNat (⟨x12.Number,wr (s4.2.1 + 1),x12.Nonce,x12.Label,x12.Body,x12.Tag⟩ : GRecord)),wr ((wr (s4.2.1 + 1)) + 1),0)).bind fun j15=>(idx j15.1 s4.2.2).bind fun x30=>(Y5 x30.Label j15.2).bind fun r39=>(idx (j15.1.set (s4.2.2).toNat (⟨x30.Number,x30.Version,x30.Nonce,r39.1,x30.Body,x30.Tag⟩ : GRecord)) s4.2.2).bind fun x41=>(Y5 x41.Body r39.2).bind fun r50=>(ZB (VB s4) (((j15.1.set (s4.2.2).toNat (⟨x30.Number,x30.Version,x30.Nonce,r39.1,x30.Body,x30.Tag⟩ : GRecord)).set (s4.2.2).toNat (⟨x41.Number,x41.Version,x41.Nonce,x41.Label,r50.1,x41.Tag⟩ : GRecord)),r50.2,0)).bind fun j52=>some (Fl.nx (j52.1,j52.2,wr (s4.2.2 + 1)))) else (some (Fl.ex (s4.1,s4.2.1)))
def WG (p0 : (List GRecord)) (p1 : Int) : Option ((List GRecord) × Int) :=
 (ZB (Xh) (p0,p1,0)).bind fun j1=>some (j1.1,j1.2)
theorem J0 (St : Nat → Prop) (W w0 : World) (its : List Item) (p0 : (List GRecord)) (v0_1 : Value) (p1 : Int) (hM : M St W w0 (own NoB (p0 : (List GRecord)) [v0_1] :: its)) (r : (List GRecord) × Int) (hF : WG p0 p1 = some r) :
  Calls Tryz.prog 95 [v0_1,vI p1].toArray w0 (fun en w'=>∃ v,en = .returned v ∧ (v = (vI r.2) ∧ M St W w' (own NoB (r.1 : (List GRecord)) [v0_1] :: its))):=by
 refine ce Tryz.func95 ?_
 intro a hE
 unfold WG at hF
 refine Zb (Zc hE rfl fun a hE=>Ze (wp_seq (Zb (Zc hE rfl fun a hE=>Ze ?_))))
 obtain ⟨j1,hl2,hF3⟩:=bind_some hF
 refine ZJ (fun a w=>Env 71 a [(0,v0_1),(1,vI j1.2)] ∧ M St W w (own NoB (j1.1 : (List GRecord)) [v0_1] :: its)) ?_ ?_
 ·skip
  refine wp_block ?_
  refine ZC (fun (s4 : (List GRecord) × Int × Int) a w=>Env 71 a [(0,v0_1),(1,vI s4.2.1),(5,vI s4.2.2)] ∧ M St W w (own NoB (s4.1 : (List GRecord)) [v0_1] :: its)) hl2 ⟨hE.sub ⟨rfl,rfl,rfl,trivial⟩,hM⟩ ?_
  rintro s4 a w ⟨hE,hM⟩ o7 hs5 hx6
  unfold Xh at hs5
  refine wp_seq (Zb (Zd hE rfl fun a hE=>Zd hE rfl fun a hE=>Z2 hE rfl Tryz.underlying55 (hM.ro (pre:=[]) noB) fun a hE=>Zi hE rfl rfl rfl fun a hE=>Ze ?_))
  refine Zo hE rfl ?_ ?_
  ·intro hb8
   have hs5:=Zs hs5 hb8
   refine wp_skip (Zu (wp_seq (wp_block (Zb (Zd hE rfl fun a hE=>Zd hE rfl fun a hE=>Zd hE rfl ?_))))); intro a hE
   obtain ⟨x9,hi11,hs5⟩:=bix hs5
   refine ZL hE rfl rfl Tryz.underlying55 YA (hM.ro (pre:=[]) noB) hi11.1 fun a hE=>Zg hE rfl (XX) ?_; intro a hE
   have hM:=hM.toOsl (List.getElem?_eq_some_iff.1 hi11.2).1
   refine Jl (i:=(s4.2.2).toNat) (k0:=0 + 0) (seg:=[vI s4.2.1]) (xo:=x9) (xn:=(⟨s4.2.1,x9.Version,x9.Nonce,x9.Label,x9.Body,x9.Tag⟩ : GRecord)) hE hM noB Za rfl rfl rfl ty2 rfl (Flat.cell (s4.2.1 : Int)) hi11.2 (QJ (m:=1) rfl (by decide)) (fun S w cs f h=>by obtain ⟨y1,y2,_,_,rfl,rfl,s1,s2⟩:=U7 h; exact Hq (Yn (pre:=[]) cl0 rfl) (Uj s1 s2 (by simp))) ?_; intro w a hM hE
   have hM:=hM.toOwn noB
   refine Ze (Zb (Zd hE rfl fun a hE=>Zi hE rfl rfl rfl fun a hE=>Zc hE rfl fun a hE=>Ze (Zb (Zd hE rfl fun a hE=>Zd hE rfl fun a hE=>Zd hE rfl ?_)))); intro a hE
   obtain ⟨x12,hi14,hs5⟩:=bix hs5
   refine ZL hE rfl rfl Tryz.underlying55 YA (hM.ro (pre:=[]) noB) hi14.1 fun a hE=>Zg hE rfl (TR) ?_; intro a hE
   have hM:=hM.toOsl (List.getElem?_eq_some_iff.1 hi14.2).1
   refine Jl (i:=(s4.2.2).toNat) (k0:=0 + 1) (seg:=[(vI (wr (s4.2.1 + 1)))]) (xo:=x12) (xn:=(⟨x12.Number,wr (s4.2.1 + 1),x12.Nonce,x12.Label,x12.Body,x12.Tag⟩ : GRecord)) hE hM noB Za rfl rfl rfl ty2 rfl (Flat.cell (wr (s4.2.1 + 1) : Int)) hi14.2 (QJ (m:=1) rfl (by decide)) (fun S w cs f h=>by obtain ⟨y1,y2,_,_,rfl,rfl,s1,s2⟩:=U7 h; exact Hq (Yn (pre:=[[vI x12.Number]]) ck rfl) (Uj s1 s2 (by simp))) ?_; intro w a hM hE
   have hM:=hM.toOwn noB
   refine Ze (Zb (Zd hE rfl fun a hE=>Zi hE rfl rfl rfl fun a hE=>Zc hE rfl fun a hE=>Ze (wp_seq (Zb (Zc hE rfl fun a hE=>Ze ?_)))))
   obtain ⟨j15,hl16,hF17⟩:=bind_some hs5
   refine ZJ (fun a w=>Env 71 a [(0,v0_1),(1,vI j15.2),(5,vI s4.2.2)] ∧ M St W w (own NoB (j15.1 : (List GRecord)) [v0_1] :: its)) ?_ ?_
   ·skip
    refine wp_block ?_
    refine ZC (fun (s18 : (List GRecord) × Int × Int) a w=>Env 71 a [(0,v0_1),(1,vI s18.2.1),(5,vI s4.2.2),(6,vI s18.2.2)] ∧ M St W w (own NoB (s18.1 : (List GRecord)) [v0_1] :: its)) hl16 ⟨hE.sub ⟨rfl,rfl,rfl,rfl,trivial⟩,hM⟩ ?_
    rintro s18 a w ⟨hE,hM⟩ o21 hs19 hx20
    unfold VC at hs19
    refine wp_seq (Zb (Zd hE rfl fun a hE=>Zi hE rfl rfl rfl fun a hE=>Ze ?_))
    refine Zo hE rfl ?_ ?_
    ·intro hb22
     have hs19:=Zs hs19 hb22
     refine wp_skip (Zu (wp_seq (wp_block (Zb (Zd hE rfl fun a hE=>Zd hE rfl fun a hE=>Zd hE rfl fun a hE=>Zd hE rfl fun a hE=>Yj hE Za ld rfl Tryz.underlying3 Tryz.underlying5 ?_))))); intro a hE
     obtain ⟨x23,hi25,hs19⟩:=bix hs19
     refine ZL hE rfl rfl Tryz.underlying55 YA (hM.ro (pre:=[]) noB) hi25.1 fun a hE=>Zg hE rfl (Jk) ?_; intro a hE
     obtain ⟨x27,hi26,hs19⟩:=bvx hs19
     refine ZD hE rfl rfl Tryz.underlying68 ty5 hi26.1 ?_; intro a hE
     have hM:=hM.toOsl (List.getElem?_eq_some_iff.1 hi25.2).1
     refine Jl (i:=(s4.2.2).toNat) (k0:=0 + 2 + (s18.2.2).toNat * 1) (seg:=[(vB (Zv s18.2.1))]) (xo:=x23) (xn:=(⟨x23.Number,x23.Version,(x23.Nonce.setIfInBounds (s18.2.2).toNat (Zv s18.2.1)),x23.Label,x23.Body,x23.Tag⟩ : GRecord)) hE hM noB Za (Ac rfl (by show _ = _ + _ * 52 + _; omega)) rfl rfl ty5 rfl (Flat.cell (Zv s18.2.1 : UInt8)) hi25.2 (AK (m:=1) hi26.1 rfl (by decide)) (fun S w cs f h=>by obtain ⟨y1,y2,_,_,rfl,rfl,s1,s2⟩:=U7 h; exact Hq (Uc (o':=0 + (s18.2.2).toNat * 1) (pre:=[[vI x23.Number],[vI x23.Version]]) (seg:=enc x23.Nonce) (post:=[[y1],[y2],enc x23.Tag]) ck (ZM (v:=x23.Nonce) (x:=Zv s18.2.1) hi26.1) (ZE (v:=x23.Nonce) (x:=Zv s18.2.1) hi26.1) (by first | omega | (simp only [Flat.n] <;> omega))) (Uj s1 s2 (by simp))) ?_; intro w a hM hE
     have hM:=hM.toOwn noB
     refine Ze (wp_region_lit (Zd hE rfl fun a hE=>Zi hE rfl rfl rfl fun a hE=>Zc hE rfl fun a hE=>Zf (Z4 (Zu (wp_region_lit (Zd hE rfl fun a hE=>Zi hE rfl rfl rfl fun a hE=>Zc hE rfl fun a hE=>Zf (Zh ?_)))))))
     exact ⟨_,(ois hs19),hE.sub ⟨rfl,rfl,rfl,rfl,trivial⟩,hM⟩
    ·intro hb22
     have hs19:=Zt hs19 hb22
     refine wp_exit (Zl (Zl (Z5 ?_)))
     obtain rfl:=hx20 _ (ois hs19)
     refine Zh ?_
     exact ⟨hE.sub ⟨rfl,rfl,rfl,trivial⟩,hM⟩
   ·skip
    rintro a w ⟨hE,hM⟩
    refine Zu (Zb (Zd hE rfl fun a hE=>Zd hE rfl ?_)); intro a hE
    obtain ⟨x30,hi32,hF17⟩:=bix hF17
    refine ZL hE rfl rfl Tryz.underlying55 YA (hM.ro (pre:=[]) noB) hi32.1 fun a hE=>Zg hE rfl (Qc) ?_; intro a hE
    have hM:=(hM.toOsl (List.getElem?_eq_some_iff.1 hi32.2).1).open1 noB hi32.2
    obtain ⟨cs33,hM,hA34⟩:=hM
    obtain ⟨_,hx,_⟩:=hM.head
    obtain ⟨u35,u36,_,_,rfl,_,_,_⟩:=U7 hx
    have hM:=hM.unpackL (m:=[own NoB (x30.Label : (List UInt8)) [u35],own NoB (x30.Body : (List UInt8)) [u36]]) (fun fp h=>by obtain ⟨_,_,rfl,s1,s2⟩:=K3 h; exact (Xw.cons (YR noB) s1 (Xw.one (YR noB) s2)))
    simp only [List.cons_append,List.nil_append] at hM
    refine Zw (v:=u35) hE rfl UP rfl (At.cat (pre:=[[vI x30.Number],[vI x30.Version],enc x30.Nonce]) hA34 ck) fun a hE=>Zd hE rfl ?_; intro a hE
    obtain ⟨r39,e40,hF17⟩:=bind_some hF17
    refine Zx hE rfl (cbm Tryz.func22) (Kt _ _ _ _ x30.Label u35 j15.2 hM r39 e40) ?_
    rintro v w a ⟨rfl,hM⟩ hE
    have hM:=hM.pull2.pull2.pull2
    have hM:=hM.packL (m:=[own NoB (r39.1 : (List UInt8)) [u35],own NoB (x30.Body : (List UInt8)) [u36]]) (it:=own NoB (⟨x30.Number,x30.Version,x30.Nonce,r39.1,x30.Body,x30.Tag⟩ : GRecord) (cat [[vI x30.Number],[vI x30.Version],enc x30.Nonce,[u35],[u36],enc x30.Tag])) (YR noB) (fun fp h=>by obtain ⟨_,_,rfl,_,s1,_,_,rfl,_,s2,rfl⟩:=h; exact Uj s1 s2 (by simp))
    have hM:=(hM.close1 noB).toOwn noB
    refine Zc hE rfl fun a hE=>Ze (Zb (Zd hE rfl fun a hE=>Zd hE rfl ?_)); intro a hE
    obtain ⟨x41,hi43,hF17⟩:=bix hF17
    refine ZL hE rfl rfl Tryz.underlying55 YA (hM.ro (pre:=[]) noB) hi43.1 fun a hE=>Zg hE rfl (Kc) ?_; intro a hE
    have hM:=(hM.toOsl (List.getElem?_eq_some_iff.1 hi43.2).1).open1 noB hi43.2
    obtain ⟨cs44,hM,hA45⟩:=hM
    obtain ⟨_,hx,_⟩:=hM.head
    obtain ⟨u46,u47,_,_,rfl,_,_,_⟩:=U7 hx
    have hM:=hM.unpackL (m:=[own NoB (x41.Label : (List UInt8)) [u46],own NoB (x41.Body : (List UInt8)) [u47]]) (fun fp h=>by obtain ⟨_,_,rfl,s1,s2⟩:=K3 h; exact (Xw.cons (YR noB) s1 (Xw.one (YR noB) s2)))
    simp only [List.cons_append,List.nil_append] at hM
    refine Zw (v:=u47) hE rfl UP rfl (At.cat (pre:=[[vI x41.Number],[vI x41.Version],enc x41.Nonce,[u46]]) hA45 ck) fun a hE=>Zd hE rfl ?_; intro a hE
    have hM:=hM.pull1
    obtain ⟨r50,e51,hF17⟩:=bind_some hF17
    refine Zx hE rfl (cbm Tryz.func22) (Kt _ _ _ _ x41.Body u47 r39.2 hM r50 e51) ?_
    rintro v w a ⟨rfl,hM⟩ hE
    have hM:=hM.pull2.pull1.pull2
    have hM:=hM.packL (m:=[own NoB (x41.Label : (List UInt8)) [u46],own NoB (r50.1 : (List UInt8)) [u47]]) (it:=own NoB (⟨x41.Number,x41.Version,x41.Nonce,x41.Label,r50.1,x41.Tag⟩ : GRecord) (cat [[vI x41.Number],[vI x41.Version],enc x41.Nonce,[u46],[u47],enc x41.Tag])) (YR noB) (fun fp h=>by obtain ⟨_,_,rfl,_,s1,_,_,rfl,_,s2,rfl⟩:=h; exact Uj s1 s2 (by simp))
    have hM:=(hM.close1 noB).toOwn noB
    refine Zc hE rfl fun a hE=>Ze (Zb (Zc hE rfl fun a hE=>Ze ?_))
    obtain ⟨j52,hl53,hF54⟩:=bind_some hF17
    refine ZJ (fun a w=>Env 71 a [(0,v0_1),(1,vI j52.2),(5,vI s4.2.2)] ∧ M St W w (own NoB (j52.1 : (List GRecord)) [v0_1] :: its)) ?_ ?_
    ·skip
     refine wp_block ?_
     refine ZC (fun (s55 : (List GRecord) × Int × Int) a w=>Env 71 a [(0,v0_1),(1,vI s55.2.1),(5,vI s4.2.2),(7,vI s55.2.2)] ∧ M St W w (own NoB (s55.1 : (List GRecord)) [v0_1] :: its)) hl53 ⟨hE.sub ⟨rfl,rfl,rfl,rfl,trivial⟩,hM⟩ ?_
     rintro s55 a w ⟨hE,hM⟩ o58 hs56 hx57
     unfold VB at hs56
     refine wp_seq (Zb (Zd hE rfl fun a hE=>Zi hE rfl rfl rfl fun a hE=>Ze ?_))
     refine Zo hE rfl ?_ ?_
     ·intro hb59
      have hs56:=Zs hs56 hb59
      refine wp_skip (Zu (wp_seq (wp_block (Zb (Zd hE rfl fun a hE=>Zd hE rfl fun a hE=>Zd hE rfl fun a hE=>Zd hE rfl fun a hE=>Yj hE Za ld rfl Tryz.underlying3 Tryz.underlying5 ?_))))); intro a hE
      obtain ⟨x60,hi62,hs56⟩:=bix hs56
      refine ZL hE rfl rfl Tryz.underlying55 YA (hM.ro (pre:=[]) noB) hi62.1 fun a hE=>Zg hE rfl (Q9) ?_; intro a hE
      obtain ⟨x64,hi63,hs56⟩:=bvx hs56
      refine ZD hE rfl rfl Tryz.underlying35 ty5 hi63.1 ?_; intro a hE
      have hM:=hM.toOsl (List.getElem?_eq_some_iff.1 hi62.2).1
      refine Jl (i:=(s4.2.2).toNat) (k0:=0 + 20 + (s55.2.2).toNat * 1) (seg:=[(vB (Zv s55.2.1))]) (xo:=x60) (xn:=(⟨x60.Number,x60.Version,x60.Nonce,x60.Label,x60.Body,(x60.Tag.setIfInBounds (s55.2.2).toNat (Zv s55.2.1))⟩ : GRecord)) hE hM noB Za (Ac rfl (by show _ = _ + _ * 52 + _; omega)) rfl rfl ty5 rfl (Flat.cell (Zv s55.2.1 : UInt8)) hi62.2 (AK (m:=1) hi63.1 rfl (by decide)) (fun S w cs f h=>by obtain ⟨y1,y2,_,_,rfl,rfl,s1,s2⟩:=U7 h; exact Hq (Uc (o':=0 + (s55.2.2).toNat * 1) (pre:=[[vI x60.Number],[vI x60.Version],enc x60.Nonce,[y1],[y2]]) (seg:=enc x60.Tag) (post:=[]) ck (ZM (v:=x60.Tag) (x:=Zv s55.2.1) hi63.1) (ZE (v:=x60.Tag) (x:=Zv s55.2.1) hi63.1) (by first | omega | (simp only [Flat.n] <;> omega))) (Uj s1 s2 (by simp))) ?_; intro w a hM hE
      have hM:=hM.toOwn noB
      refine Ze (wp_region_lit (Zd hE rfl fun a hE=>Zi hE rfl rfl rfl fun a hE=>Zc hE rfl fun a hE=>Zf (Z4 (Zu (wp_region_lit (Zd hE rfl fun a hE=>Zi hE rfl rfl rfl fun a hE=>Zc hE rfl fun a hE=>Zf (Zh ?_)))))))
      exact ⟨_,(ois hs56),hE.sub ⟨rfl,rfl,rfl,rfl,trivial⟩,hM⟩
     ·intro hb59
      have hs56:=Zt hs56 hb59
      refine wp_exit (Zl (Zl (Z5 ?_)))
      obtain rfl:=hx57 _ (ois hs56)
      refine Zh ?_
      exact ⟨hE.sub ⟨rfl,rfl,rfl,trivial⟩,hM⟩
    ·skip
     rintro a w ⟨hE,hM⟩
     refine Z4 (Zu (wp_region_lit (Zd hE rfl fun a hE=>Zi hE rfl rfl rfl fun a hE=>Zc hE rfl fun a hE=>Zf (Zh ?_))))
     exact ⟨_,(ois hF54),hE.sub ⟨rfl,rfl,rfl,trivial⟩,hM⟩
  ·intro hb8
   have hs5:=Zt hs5 hb8
   refine wp_exit (Zl (Zl (Z5 ?_)))
   obtain rfl:=hx6 _ (ois hs5)
   refine Zh ?_
   exact ⟨hE.sub ⟨rfl,rfl,trivial⟩,hM⟩
 ·skip
  rintro a w ⟨hE,hM⟩
  refine Zu (Zb (Zd hE rfl fun a hE=>Zc hE rfl fun a hE=>Ze ?_))
  obtain rfl:=Option.some.inj hF3
  exact wp_ret (ZN hE (by rfl) (ZY hE rfl) ⟨_,rfl,rfl,hM⟩)
def Uk (s4 : (List GEvent) × Int × Int) (s18 : (List GEvent) × Int × Int) : Option (Fl ((List GEvent) × Int × Int) ((List GEvent) × Int)) :=
 if (decide (s18.2.2 < 32)) = true then ((idx s18.1 s4.2.2).bind fun x23=>(ZH x23.Tag s18.2.2).bind fun x27=>some (Fl.nx ((s18.1.set (s4.2.2).toNat (⟨x23.Kind,x23.Number,(x23.Tag.setIfInBounds (s18.2.2).toNat (Zv s18.2.1))⟩ : GEvent)),wr (s18.2.1 + 1),wr (s18.2.2 + 1)))) else (some (Fl.ex (s18.1,s18.2.1)))
def XC (s4 : (List GEvent) × Int × Int) : Option (Fl ((List GEvent) × Int × Int) ((List GEvent) × Int)) :=
 if (decide (s4.2.2 < (s4.1.length : Int))) = true then ((idx s4.1 s4.2.2).bind fun x9=>(idx (s4.1.set (s4.2.2).toNat (⟨s4.2.1,x9.Number,x9.Tag⟩ : GEvent)) s4.2.2).bind fun x12=>(ZB (Uk s4) (((s4.1.set (s4.2.2).toNat (⟨s4.2.1,x9.Number,x9.Tag⟩ : GEvent)).set (s4.2.2).toNat (⟨x12.Kind,wr (s4.2.1 + 1),x12.Tag⟩ : GEvent)),wr ((wr (s4.2.1 + 1)) + 1),0)).bind fun j15=>some (Fl.nx (j15.1,j15.2,wr (s4.2.2 + 1)))) else (some (Fl.ex (s4.1,s4.2.1)))
def Vk (p0 : (List GEvent)) (p1 : Int) : Option ((List GEvent) × Int) :=
 (ZB (XC) (p0,p1,0)).bind fun j1=>some (j1.1,j1.2)
theorem HA (St : Nat → Prop) (W w0 : World) (its : List Item) (p0 : (List GEvent)) (v0_1 : Value) (p1 : Int) (hM : M St W w0 (own NoB (p0 : (List GEvent)) [v0_1] :: its)) (r : (List GEvent) × Int) (hF : Vk p0 p1 = some r) :
  Calls Tryz.prog 96 [v0_1,vI p1].toArray w0 (fun en w'=>∃ v,en = .returned v ∧ (v = (vI r.2) ∧ M St W w' (own NoB (r.1 : (List GEvent)) [v0_1] :: its))):=by
 refine ce Tryz.func96 ?_
 intro a hE
 unfold Vk at hF
 refine Zb (Zc hE rfl fun a hE=>Ze (wp_seq (Zb (Zc hE rfl fun a hE=>Ze ?_))))
 obtain ⟨j1,hl2,hF3⟩:=bind_some hF
 refine ZJ (fun a w=>Env 42 a [(0,v0_1),(1,vI j1.2)] ∧ M St W w (own NoB (j1.1 : (List GEvent)) [v0_1] :: its)) ?_ ?_
 ·skip
  refine wp_block ?_
  refine ZC (fun (s4 : (List GEvent) × Int × Int) a w=>Env 42 a [(0,v0_1),(1,vI s4.2.1),(5,vI s4.2.2)] ∧ M St W w (own NoB (s4.1 : (List GEvent)) [v0_1] :: its)) hl2 ⟨hE.sub ⟨rfl,rfl,rfl,trivial⟩,hM⟩ ?_
  rintro s4 a w ⟨hE,hM⟩ o7 hs5 hx6
  unfold XC at hs5
  refine wp_seq (Zb (Zd hE rfl fun a hE=>Zd hE rfl fun a hE=>Z2 hE rfl Tryz.underlying56 (hM.ro (pre:=[]) noB) fun a hE=>Zi hE rfl rfl rfl fun a hE=>Ze ?_))
  refine Zo hE rfl ?_ ?_
  ·intro hb8
   have hs5:=Zs hs5 hb8
   refine wp_skip (Zu (wp_seq (wp_block (Zb (Zd hE rfl fun a hE=>Zd hE rfl fun a hE=>Zd hE rfl ?_))))); intro a hE
   obtain ⟨x9,hi11,hs5⟩:=bix hs5
   refine ZL hE rfl rfl Tryz.underlying56 Xd (hM.ro (pre:=[]) noB) hi11.1 fun a hE=>Zg hE rfl (UW) ?_; intro a hE
   have hM:=hM.toOsl (List.getElem?_eq_some_iff.1 hi11.2).1
   refine T5 (i:=(s4.2.2).toNat) (k0:=0 + 0) (seg:=[vI s4.2.1]) (xo:=x9) (xn:=(⟨s4.2.1,x9.Number,x9.Tag⟩ : GEvent)) hE hM Za rfl rfl rfl ty2 rfl (Flat.cell (s4.2.1 : Int)) hi11.2 (QJ (m:=1) rfl (by decide)) (Yn (pre:=[]) cl0 rfl) ?_; intro w a hM hE
   have hM:=hM.toOwn noB
   refine Ze (Zb (Zd hE rfl fun a hE=>Zi hE rfl rfl rfl fun a hE=>Zc hE rfl fun a hE=>Ze (Zb (Zd hE rfl fun a hE=>Zd hE rfl fun a hE=>Zd hE rfl ?_)))); intro a hE
   obtain ⟨x12,hi14,hs5⟩:=bix hs5
   refine ZL hE rfl rfl Tryz.underlying56 Xd (hM.ro (pre:=[]) noB) hi14.1 fun a hE=>Zg hE rfl (Tk) ?_; intro a hE
   have hM:=hM.toOsl (List.getElem?_eq_some_iff.1 hi14.2).1
   refine T5 (i:=(s4.2.2).toNat) (k0:=0 + 1) (seg:=[(vI (wr (s4.2.1 + 1)))]) (xo:=x12) (xn:=(⟨x12.Kind,wr (s4.2.1 + 1),x12.Tag⟩ : GEvent)) hE hM Za rfl rfl rfl ty2 rfl (Flat.cell (wr (s4.2.1 + 1) : Int)) hi14.2 (QJ (m:=1) rfl (by decide)) (Yn (pre:=[[vI x12.Kind]]) ck rfl) ?_; intro w a hM hE
   have hM:=hM.toOwn noB
   refine Ze (Zb (Zd hE rfl fun a hE=>Zi hE rfl rfl rfl fun a hE=>Zc hE rfl fun a hE=>Ze (Zb (Zc hE rfl fun a hE=>Ze ?_))))
   obtain ⟨j15,hl16,hF17⟩:=bind_some hs5
   refine ZJ (fun a w=>Env 42 a [(0,v0_1),(1,vI j15.2),(5,vI s4.2.2)] ∧ M St W w (own NoB (j15.1 : (List GEvent)) [v0_1] :: its)) ?_ ?_
   ·skip
    refine wp_block ?_
    refine ZC (fun (s18 : (List GEvent) × Int × Int) a w=>Env 42 a [(0,v0_1),(1,vI s18.2.1),(5,vI s4.2.2),(6,vI s18.2.2)] ∧ M St W w (own NoB (s18.1 : (List GEvent)) [v0_1] :: its)) hl16 ⟨hE.sub ⟨rfl,rfl,rfl,rfl,trivial⟩,hM⟩ ?_
    rintro s18 a w ⟨hE,hM⟩ o21 hs19 hx20
    unfold Uk at hs19
    refine wp_seq (Zb (Zd hE rfl fun a hE=>Zi hE rfl rfl rfl fun a hE=>Ze ?_))
    refine Zo hE rfl ?_ ?_
    ·intro hb22
     have hs19:=Zs hs19 hb22
     refine wp_skip (Zu (wp_seq (wp_block (Zb (Zd hE rfl fun a hE=>Zd hE rfl fun a hE=>Zd hE rfl fun a hE=>Zd hE rfl fun a hE=>Yj hE Za ld rfl Tryz.underlying3 Tryz.underlying5 ?_))))); intro a hE
     obtain ⟨x23,hi25,hs19⟩:=bix hs19
     refine ZL hE rfl rfl Tryz.underlying56 Xd (hM.ro (pre:=[]) noB) hi25.1 fun a hE=>Zg hE rfl (Q8) ?_; intro a hE
     obtain ⟨x27,hi26,hs19⟩:=bvx hs19
     refine ZD hE rfl rfl Tryz.underlying35 ty5 hi26.1 ?_; intro a hE
     have hM:=hM.toOsl (List.getElem?_eq_some_iff.1 hi25.2).1
     refine T5 (i:=(s4.2.2).toNat) (k0:=0 + 2 + (s18.2.2).toNat * 1) (seg:=[(vB (Zv s18.2.1))]) (xo:=x23) (xn:=(⟨x23.Kind,x23.Number,(x23.Tag.setIfInBounds (s18.2.2).toNat (Zv s18.2.1))⟩ : GEvent)) hE hM Za (Ac rfl (by show _ = _ + _ * 34 + _; omega)) rfl rfl ty5 rfl (Flat.cell (Zv s18.2.1 : UInt8)) hi25.2 (AK (m:=1) hi26.1 rfl (by decide)) (Uc (o':=0 + (s18.2.2).toNat * 1) (pre:=[[vI x23.Kind],[vI x23.Number]]) (seg:=enc x23.Tag) (post:=[]) ck (ZM (v:=x23.Tag) (x:=Zv s18.2.1) hi26.1) (ZE (v:=x23.Tag) (x:=Zv s18.2.1) hi26.1) (by first | omega | (simp only [Flat.n] <;> omega))) ?_; intro w a hM hE
     have hM:=hM.toOwn noB
     refine Ze (wp_region_lit (Zd hE rfl fun a hE=>Zi hE rfl rfl rfl fun a hE=>Zc hE rfl fun a hE=>Zf (Z4 (Zu (wp_region_lit (Zd hE rfl fun a hE=>Zi hE rfl rfl rfl fun a hE=>Zc hE rfl fun a hE=>Zf (Zh ?_)))))))
     exact ⟨_,(ois hs19),hE.sub ⟨rfl,rfl,rfl,rfl,trivial⟩,hM⟩
    ·intro hb22
     have hs19:=Zt hs19 hb22
     refine wp_exit (Zl (Zl (Z5 ?_)))
     obtain rfl:=hx20 _ (ois hs19)
     refine Zh ?_
     exact ⟨hE.sub ⟨rfl,rfl,rfl,trivial⟩,hM⟩
   ·skip
    rintro a w ⟨hE,hM⟩
    refine Z4 (Zu (wp_region_lit (Zd hE rfl fun a hE=>Zi hE rfl rfl rfl fun a hE=>Zc hE rfl fun a hE=>Zf (Zh ?_))))
    exact ⟨_,(ois hF17),hE.sub ⟨rfl,rfl,rfl,trivial⟩,hM⟩
  ·intro hb8
   have hs5:=Zt hs5 hb8
   refine wp_exit (Zl (Zl (Z5 ?_)))
   obtain rfl:=hx6 _ (ois hs5)
   refine Zh ?_
   exact ⟨hE.sub ⟨rfl,rfl,trivial⟩,hM⟩
 ·skip
  rintro a w ⟨hE,hM⟩
  refine Zu (Zb (Zd hE rfl fun a hE=>Zc hE rfl fun a hE=>Ze ?_))
  obtain rfl:=Option.some.inj hF3
  exact wp_ret (ZN hE (by rfl) (ZY hE rfl) ⟨_,rfl,rfl,hM⟩)
def VZ (p0 : GVault) (p1 : Int) : Option (GVault × Int) :=
 (Vn p0.Keys p1).bind fun r3=>(WG p0.Records r3.2).bind fun r5=>(Vk p0.Events r5.2).bind fun r7=>some ((⟨r3.1,p0.Next,r5.1,r7.1,p0.Head⟩ : GVault),r7.2)
theorem Bm (St : Nat → Prop) (W w0 : World) (its : List Item) (p0 : GVault) (v0_1 : Value) (v0_2 : Value) (v0_3 : Value) (p1 : Int) (hM : M St W w0 (own NoB (p0.Keys : (List (Vector UInt8 16))) [v0_1] :: own NoB (p0.Records : (List GRecord)) [v0_2] :: own NoB (p0.Events : (List GEvent)) [v0_3] :: its)) (r : GVault × Int) (hF : VZ p0 p1 = some r) :
  Calls Tryz.prog 28 [(Value.agg (cat [[v0_1],[vI p0.Next],[v0_2],[v0_3],enc p0.Head]).toArray),vI p1].toArray w0 (fun en w'=>∃ v,en = .returned v ∧ (v = (vI r.2) ∧ M St W w' (own NoB (r.1.Keys : (List (Vector UInt8 16))) [v0_1] :: own NoB (r.1.Records : (List GRecord)) [v0_2] :: own NoB (r.1.Events : (List GEvent)) [v0_3] :: its))):=by
 refine ce Tryz.func28 ?_
 intro a hE
 unfold VZ at hF
 refine Zb (ZT (cs:=cat [[v0_1],[vI p0.Next],[v0_2],[v0_3],enc p0.Head]) hE hM Za ld rfl rfl fun b1 w a hM hE=>Zc hE rfl fun a hE=>Ze (Zb (Zg hE rfl (Qj) fun a hE=>Zw (v:=v0_1) hE rfl HV rfl (At.cat (pre:=[]) hM.rawAt0 cl0) fun a hE=>Zd hE rfl ?_))); intro a hE
 have hM:=hM.pull1
 obtain ⟨r3,e4,hF⟩:=bind_some hF
 refine Zx hE rfl (cbm Tryz.func94) (Hd _ _ _ _ p0.Keys v0_1 p1 hM r3 e4) ?_
 rintro v w a ⟨rfl,hM⟩ hE
 refine Zc hE rfl fun a hE=>Ze (Zb (Zg hE rfl (Vy) fun a hE=>Zw (v:=v0_2) hE rfl Q4 rfl (At.cat (pre:=[[v0_1],[vI p0.Next]]) hM.rawAt1 ck) fun a hE=>Zd hE rfl ?_)); intro a hE
 have hM:=hM.pull2
 obtain ⟨r5,e6,hF⟩:=bind_some hF
 refine Zx hE rfl (cbm Tryz.func95) (J0 _ _ _ _ p0.Records v0_2 r3.2 hM r5 e6) ?_
 rintro v w a ⟨rfl,hM⟩ hE
 refine Zc hE rfl fun a hE=>Ze (Zb (Zg hE rfl (TZ) fun a hE=>Zw (v:=v0_3) hE rfl Jv rfl (At.cat (pre:=[[v0_1],[vI p0.Next],[v0_2]]) hM.rawAt2 ck) fun a hE=>Zd hE rfl ?_)); intro a hE
 have hM:=hM.pull3
 obtain ⟨r7,e8,hF⟩:=bind_some hF
 refine Zx hE rfl (cbm Tryz.func96) (HA _ _ _ _ p0.Events v0_3 r5.2 hM r7 e8) ?_
 rintro v w a ⟨rfl,hM⟩ hE
 refine Zc hE rfl fun a hE=>Ze (Zb (Zd hE rfl fun a hE=>Zc hE rfl fun a hE=>Ze ?_))
 obtain rfl:=Option.some.inj hF
 have hM:=(hM.pull1.pull2.pull3).drop
 exact wp_ret (ZN hE (by rfl) (ZY hE rfl) ⟨_,rfl,rfl,hM⟩)
def WQ (s4 : (List Int) × Int × Int) : Option (Fl ((List Int) × Int × Int) ((List Int) × Int)) :=
 if (decide (s4.2.2 < (s4.1.length : Int))) = true then ((idx s4.1 s4.2.2).bind fun x9=>some (Fl.nx ((s4.1.set (s4.2.2).toNat s4.2.1),wr (s4.2.1 + 1),wr (s4.2.2 + 1)))) else (some (Fl.ex (s4.1,s4.2.1)))
def Vl (p0 : (List Int)) (p1 : Int) : Option ((List Int) × Int) :=
 (ZB (WQ) (p0,p1,0)).bind fun j1=>some (j1.1,j1.2)
theorem HJ (St : Nat → Prop) (W w0 : World) (its : List Item) (p0 : (List Int)) (v0_1 : Value) (p1 : Int) (hM : M St W w0 (own NoB (p0 : (List Int)) [v0_1] :: its)) (r : (List Int) × Int) (hF : Vl p0 p1 = some r) :
  Calls Tryz.prog 59 [v0_1,vI p1].toArray w0 (fun en w'=>∃ v,en = .returned v ∧ (v = (vI r.2) ∧ M St W w' (own NoB (r.1 : (List Int)) [v0_1] :: its))):=by
 refine ce Tryz.func59 ?_
 intro a hE
 unfold Vl at hF
 refine Zb (Zc hE rfl fun a hE=>Ze (wp_seq (Zb (Zc hE rfl fun a hE=>Ze ?_))))
 obtain ⟨j1,hl2,hF3⟩:=bind_some hF
 refine ZJ (fun a w=>Env 19 a [(0,v0_1),(1,vI j1.2)] ∧ M St W w (own NoB (j1.1 : (List Int)) [v0_1] :: its)) ?_ ?_
 ·skip
  refine wp_block ?_
  refine ZC (fun (s4 : (List Int) × Int × Int) a w=>Env 19 a [(0,v0_1),(1,vI s4.2.1),(5,vI s4.2.2)] ∧ M St W w (own NoB (s4.1 : (List Int)) [v0_1] :: its)) hl2 ⟨hE.sub ⟨rfl,rfl,rfl,trivial⟩,hM⟩ ?_
  rintro s4 a w ⟨hE,hM⟩ o7 hs5 hx6
  unfold WQ at hs5
  refine wp_seq (Zb (Zd hE rfl fun a hE=>Zd hE rfl fun a hE=>Z2 hE rfl Tryz.underlying24 (hM.ro (pre:=[]) noB) fun a hE=>Zi hE rfl rfl rfl fun a hE=>Ze ?_))
  refine Zo hE rfl ?_ ?_
  ·intro hb8
   have hs5:=Zs hs5 hb8
   refine wp_skip (Zu (wp_seq (wp_block (Zb (Zd hE rfl fun a hE=>Zd hE rfl fun a hE=>Zd hE rfl ?_))))); intro a hE
   obtain ⟨x9,hi11,hs5⟩:=bix hs5
   refine ZL hE rfl rfl Tryz.underlying24 ty2 (hM.ro (pre:=[]) noB) hi11.1 ?_; intro a hE
   have hM:=hM.toOsl (List.getElem?_eq_some_iff.1 hi11.2).1
   refine T5 (i:=(s4.2.2).toNat) (k0:=0) (seg:=[vI s4.2.1]) (xo:=x9) (xn:=s4.2.1) hE hM Za rfl rfl rfl ty2 rfl (Flat.cell (s4.2.1 : Int)) hi11.2 (QJ (m:=1) rfl (by decide)) (Zk rfl) ?_; intro w a hM hE
   have hM:=hM.toOwn noB
   refine Ze (wp_region_lit (Zd hE rfl fun a hE=>Zi hE rfl rfl rfl fun a hE=>Zc hE rfl fun a hE=>Zf (Z4 (Zu (wp_region_lit (Zd hE rfl fun a hE=>Zi hE rfl rfl rfl fun a hE=>Zc hE rfl fun a hE=>Zf (Zh ?_)))))))
   exact ⟨_,(ois hs5),hE.sub ⟨rfl,rfl,rfl,trivial⟩,hM⟩
  ·intro hb8
   have hs5:=Zt hs5 hb8
   refine wp_exit (Zl (Zl (Z5 ?_)))
   obtain rfl:=hx6 _ (ois hs5)
   refine Zh ?_
   exact ⟨hE.sub ⟨rfl,rfl,trivial⟩,hM⟩
 ·skip
  rintro a w ⟨hE,hM⟩
  refine Zu (Zb (Zd hE rfl fun a hE=>Zc hE rfl fun a hE=>Ze ?_))
  obtain rfl:=Option.some.inj hF3
  exact wp_ret (ZN hE (by rfl) (ZY hE rfl) ⟨_,rfl,rfl,hM⟩)
def Wg (s4 : (List (List Int)) × Int × Int) : Option (Fl ((List (List Int)) × Int × Int) ((List (List Int)) × Int)) :=
 if (decide (s4.2.2 < (s4.1.length : Int))) = true then ((idx s4.1 s4.2.2).bind fun x9=>(Vl x9 s4.2.1).bind fun r16=>some (Fl.nx ((s4.1.set (s4.2.2).toNat r16.1),r16.2,wr (s4.2.2 + 1)))) else (some (Fl.ex (s4.1,s4.2.1)))
def WR (p0 : (List (List Int))) (p1 : Int) : Option ((List (List Int)) × Int) :=
 (ZB (Wg) (p0,p1,0)).bind fun j1=>some (j1.1,j1.2)
theorem J6 (St : Nat → Prop) (W w0 : World) (its : List Item) (p0 : (List (List Int))) (v0_1 : Value) (p1 : Int) (hM : M St W w0 (own NoB (p0 : (List (List Int))) [v0_1] :: its)) (r : (List (List Int)) × Int) (hF : WR p0 p1 = some r) :
  Calls Tryz.prog 38 [v0_1,vI p1].toArray w0 (fun en w'=>∃ v,en = .returned v ∧ (v = (vI r.2) ∧ M St W w' (own NoB (r.1 : (List (List Int))) [v0_1] :: its))):=by
 refine ce Tryz.func38 ?_
 intro a hE
 unfold WR at hF
 refine Zb (Zc hE rfl fun a hE=>Ze (wp_seq (Zb (Zc hE rfl fun a hE=>Ze ?_))))
 obtain ⟨j1,hl2,hF3⟩:=bind_some hF
 refine ZJ (fun a w=>Env 19 a [(0,v0_1),(1,vI j1.2)] ∧ M St W w (own NoB (j1.1 : (List (List Int))) [v0_1] :: its)) ?_ ?_
 ·skip
  refine wp_block ?_
  refine ZC (fun (s4 : (List (List Int)) × Int × Int) a w=>Env 19 a [(0,v0_1),(1,vI s4.2.1),(5,vI s4.2.2)] ∧ M St W w (own NoB (s4.1 : (List (List Int))) [v0_1] :: its)) hl2 ⟨hE.sub ⟨rfl,rfl,rfl,trivial⟩,hM⟩ ?_
  rintro s4 a w ⟨hE,hM⟩ o7 hs5 hx6
  unfold Wg at hs5
  refine wp_seq (Zb (Zd hE rfl fun a hE=>Zd hE rfl fun a hE=>Z2 hE rfl Tryz.underlying73 (hM.ro (pre:=[]) noB) fun a hE=>Zi hE rfl rfl rfl fun a hE=>Ze ?_))
  refine Zo hE rfl ?_ ?_
  ·intro hb8
   have hs5:=Zs hs5 hb8
   refine wp_skip (Zu (wp_seq (wp_block (wp_region_lit (Zd hE rfl fun a hE=>Zd hE rfl ?_))))); intro a hE
   obtain ⟨x9,hi11,hs5⟩:=bix hs5
   refine ZL hE rfl rfl Tryz.underlying73 Q5 (hM.ro (pre:=[]) noB) hi11.1 ?_; intro a hE
   have hM:=(hM.toOsl (List.getElem?_eq_some_iff.1 hi11.2).1).open1 noB hi11.2
   obtain ⟨cs12,hM,hA13⟩:=hM
   obtain ⟨_,hx,_⟩:=hM.head
   obtain ⟨u14,rfl⟩:=TA hx
   refine Zw (v:=u14) hE rfl Q5 rfl hA13 fun a hE=>Zd hE rfl ?_; intro a hE
   obtain ⟨r16,e17,hs5⟩:=bind_some hs5
   refine Zx hE rfl (cbm Tryz.func59) (HJ _ _ _ _ x9 u14 s4.2.1 hM r16 e17) ?_
   rintro v w a ⟨rfl,hM⟩ hE
   have hM:=(hM.pull1.pull1.close1 noB).toOwn noB
   refine Zc hE rfl fun a hE=>Zf (Z4 (Zu (wp_region_lit (Zd hE rfl fun a hE=>Zi hE rfl rfl rfl fun a hE=>Zc hE rfl fun a hE=>Zf (Zh ?_)))))
   exact ⟨_,(ois hs5),hE.sub ⟨rfl,rfl,rfl,trivial⟩,hM⟩
  ·intro hb8
   have hs5:=Zt hs5 hb8
   refine wp_exit (Zl (Zl (Z5 ?_)))
   obtain rfl:=hx6 _ (ois hs5)
   refine Zh ?_
   exact ⟨hE.sub ⟨rfl,rfl,trivial⟩,hM⟩
 ·skip
  rintro a w ⟨hE,hM⟩
  refine Zu (Zb (Zd hE rfl fun a hE=>Zc hE rfl fun a hE=>Ze ?_))
  obtain rfl:=Option.some.inj hF3
  exact wp_ret (ZN hE (by rfl) (ZY hE rfl) ⟨_,rfl,rfl,hM⟩)
def WJ (p0 : (List Int)) (s5 : Int × Int) : Option (Fl (Int × Int) (Fl Int Int)) :=
 if (decide (s5.2 < (p0.length : Int))) = true then ((idx p0 s5.2).bind fun x10=>if (x10 != s5.1) = true then (some (Fl.ex (Fl.ex (-1)))) else (some (Fl.nx (wr (s5.1 + 1),wr (s5.2 + 1))))) else (some (Fl.ex (Fl.nx s5.1)))
def Vm (p0 : (List Int)) (p1 : Int) : Option (Int) :=
 (ZB (WJ p0) (p1,0)).bind fun j1=>j1.el (fun s4=>some s4) (fun r=>some r)
theorem HC (w0 : World) (p0 : (List Int)) (v0_1 : Value) (hv0_1 : Ro w0 p0 [v0_1]) (p1 : Int) (r : Int) (hF : Vm p0 p1 = some r) :
  Calls Tryz.prog 62 [v0_1,vI p1].toArray w0 (Rt w0 (vI r)):=by
 refine ce Tryz.func62 ?_
 intro a hE
 have hM:=M.start w0
 unfold Vm at hF
 refine Zb (Zc hE rfl fun a hE=>Ze (wp_seq (Zb (Zc hE rfl fun a hE=>Ze ?_))))
 obtain ⟨j1,hl2,hF3⟩:=bind_some hF
 refine ZJ (fun a w=>∃ s4 : Int,j1 = Fl.nx s4 ∧ Env 21 a [(1,vI s4)] ∧ M (Old w0) w0 w []) ?_ ?_
 ·skip
  refine wp_block ?_
  refine ZC (fun (s5 : Int × Int) a w=>Env 21 a [(0,v0_1),(1,vI s5.1),(5,vI s5.2)] ∧ M (Old w0) w0 w []) hl2 ⟨hE.sub ⟨rfl,rfl,rfl,trivial⟩,hM⟩ ?_
  rintro s5 a w ⟨hE,hM⟩ o8 hs6 hx7
  unfold WJ at hs6
  refine wp_seq (Zb (Zd hE rfl fun a hE=>Zd hE rfl fun a hE=>Z2 hE rfl Tryz.underlying24 (hM.rd hv0_1) fun a hE=>Zi hE rfl rfl rfl fun a hE=>Ze ?_))
  refine Zo hE rfl ?_ ?_
  ·intro hb9
   have hs6:=Zs hs6 hb9
   refine wp_skip (Zu (wp_seq (wp_block (wp_seq (Zb (Zd hE rfl fun a hE=>Zd hE rfl ?_)))))); intro a hE
   obtain ⟨x10,hi12,hs6⟩:=bix hs6
   refine ZL hE rfl rfl Tryz.underlying24 ty2 (hM.rd hv0_1) hi12.1 fun a hE=>Zw (v:=(vI x10)) hE rfl ty2 rfl (Yp (hM.rd hv0_1) hi12.2) fun a hE=>Zd hE rfl fun a hE=>Zi hE rfl rfl rfl fun a hE=>Ze ?_
   refine Zo hE rfl ?_ ?_
   ·intro hb13
    have hs6:=Zs hs6 hb13
    refine Zb (Zc hE rfl fun a hE=>Ze ?_)
    obtain rfl:=hx7 _ (ois hs6)
    obtain rfl:=Option.some.inj hF3
    exact wp_ret (ZA (XH (ZA (ZA (XH (ZA (ZA (kr1 hE rfl rfl hM.kept))))))))
   ·intro hb13
    have hs6:=Zt hs6 hb13
    refine wp_skip (Zu (wp_region_lit (Zd hE rfl fun a hE=>Zi hE rfl rfl rfl fun a hE=>Zc hE rfl fun a hE=>Zf (Z4 (Zu (wp_region_lit (Zd hE rfl fun a hE=>Zi hE rfl rfl rfl fun a hE=>Zc hE rfl fun a hE=>Zf (Zh ?_))))))))
    exact ⟨_,(ois hs6),hE.sub ⟨rfl,rfl,rfl,trivial⟩,hM⟩
  ·intro hb9
   have hs6:=Zt hs6 hb9
   refine wp_exit (Zl (Zl (Z5 ?_)))
   obtain rfl:=hx7 _ (ois hs6)
   refine Zh ?_
   exact ⟨s5.1,rfl,hE.sub ⟨rfl,trivial⟩,hM⟩
 ·skip
  rintro a w ⟨s4,ht,hE,hM⟩
  subst ht
  have hF3:=Qu hF3
  refine Zu (Zb (Zd hE rfl fun a hE=>Zc hE rfl fun a hE=>Ze ?_))
  obtain rfl:=Option.some.inj hF3
  exact wp_ret (kr1 hE rfl rfl hM.kept)
def We (p0 : (List (List Int))) (s5 : Int × Int) : Option (Fl (Int × Int) (Fl Int Int)) :=
 if (decide (s5.2 < (p0.length : Int))) = true then ((idx p0 s5.2).bind fun x10=>(Vm x10 s5.1).bind fun r18=>if (decide (r18 < 0)) = true then (some (Fl.ex (Fl.ex (-1)))) else (some (Fl.nx (r18,wr (s5.2 + 1))))) else (some (Fl.ex (Fl.nx s5.1)))
def XA (p0 : (List (List Int))) (p1 : Int) : Option (Int) :=
 (ZB (We p0) (p1,0)).bind fun j1=>j1.el (fun s4=>some s4) (fun r=>some r)
theorem Q3 (w0 : World) (p0 : (List (List Int))) (v0_1 : Value) (hv0_1 : Ro w0 p0 [v0_1]) (p1 : Int) (r : Int) (hF : XA p0 p1 = some r) :
  Calls Tryz.prog 39 [v0_1,vI p1].toArray w0 (Rt w0 (vI r)):=by
 refine ce Tryz.func39 ?_
 intro a hE
 have hM:=M.start w0
 unfold XA at hF
 refine Zb (Zc hE rfl fun a hE=>Ze (wp_seq (Zb (Zc hE rfl fun a hE=>Ze ?_))))
 obtain ⟨j1,hl2,hF3⟩:=bind_some hF
 refine ZJ (fun a w=>∃ s4 : Int,j1 = Fl.nx s4 ∧ Env 21 a [(1,vI s4)] ∧ M (Old w0) w0 w []) ?_ ?_
 ·skip
  refine wp_block ?_
  refine ZC (fun (s5 : Int × Int) a w=>Env 21 a [(0,v0_1),(1,vI s5.1),(5,vI s5.2)] ∧ M (Old w0) w0 w []) hl2 ⟨hE.sub ⟨rfl,rfl,rfl,trivial⟩,hM⟩ ?_
  rintro s5 a w ⟨hE,hM⟩ o8 hs6 hx7
  unfold We at hs6
  refine wp_seq (Zb (Zd hE rfl fun a hE=>Zd hE rfl fun a hE=>Z2 hE rfl Tryz.underlying73 (hM.rd hv0_1) fun a hE=>Zi hE rfl rfl rfl fun a hE=>Ze ?_))
  refine Zo hE rfl ?_ ?_
  ·intro hb9
   have hs6:=Zs hs6 hb9
   refine wp_skip (Zu (wp_seq (wp_block (Zb (Zd hE rfl fun a hE=>Zd hE rfl ?_))))); intro a hE
   obtain ⟨x10,hi12,hs6⟩:=bix hs6
   refine ZL hE rfl rfl Tryz.underlying73 Q5 (hM.rd hv0_1) hi12.1 ?_; intro a hE
   obtain ⟨cs13,hs14,hA15⟩:=X3 hv0_1 hi12.2 -- ^
   obtain ⟨u16,rfl⟩:=TA hs14 -- ^
   have h17:=hs14 -- ^
   refine Zw (v:=u16) hE rfl Q5 rfl (hM.atk hA15 (VR hv0_1 hi12.2)) fun a hE=>Zd hE rfl ?_; intro a hE
   obtain ⟨r18,e19,hs6⟩:=bind_some hs6
   refine Zx hE rfl (cbm Tryz.func62) (HC _ x10 u16 (hM.rdo h17) s5.1 r18 e19) ?_
   rintro v w a ⟨rfl,hK⟩ hE
   have hM:=hM.keep hK
   refine Zc hE rfl fun a hE=>Ze (Zb (Zd hE rfl fun a hE=>Zi hE rfl rfl rfl fun a hE=>Ze ?_))
   refine Zo hE rfl ?_ ?_
   ·intro hb20
    have hs6:=Zs hs6 hb20
    refine Zb (Zc hE rfl fun a hE=>Ze ?_)
    obtain rfl:=hx7 _ (ois hs6)
    obtain rfl:=Option.some.inj hF3
    exact wp_ret (XH (ZA (ZA (XH (ZA (ZA (kr1 hE rfl rfl hM.kept)))))))
   ·intro hb20
    have hs6:=Zt hs6 hb20
    refine wp_skip (Z4 (Zu (wp_region_lit (Zd hE rfl fun a hE=>Zi hE rfl rfl rfl fun a hE=>Zc hE rfl fun a hE=>Zf (Zh ?_)))))
    exact ⟨_,(ois hs6),hE.sub ⟨rfl,rfl,rfl,trivial⟩,hM⟩
  ·intro hb9
   have hs6:=Zt hs6 hb9
   refine wp_exit (Zl (Zl (Z5 ?_)))
   obtain rfl:=hx7 _ (ois hs6)
   refine Zh ?_
   exact ⟨s5.1,rfl,hE.sub ⟨rfl,trivial⟩,hM⟩
 ·skip
  rintro a w ⟨s4,ht,hE,hM⟩
  subst ht
  have hF3:=Qu hF3
  refine Zu (Zb (Zd hE rfl fun a hE=>Zc hE rfl fun a hE=>Ze ?_))
  obtain rfl:=Option.some.inj hF3
  exact wp_ret (kr1 hE rfl rfl hM.kept)
def Wj (p0 : GVault) : Option (Bool) :=
 (T3 p0 1048576).bind fun r3=>if (decide (r3 < 0)) = true then (some true) else ((XU p0).bind fun r6=>(Up r6).bind fun r11=>(XU p0).bind fun r14=>(W5 r14).bind fun r21=>((XB r21.1 r11.1).bind fun r27=>if (!r27) = true then (some true) else (some (r21.2 != r11.2)) : Option (Bool)).bind fun j24=>if j24 = true then (some false) else (((XU p0).bind fun r37=>(U5 r14 r37).bind fun r46=>some (!r46) : Option (Bool)).bind fun j33=>if j33 = true then (some false) else ((VZ r14 1).bind fun r50=>(if (decide (r50.2 < 0)) = true then (some true) else ((XB r21.1 r11.1).bind fun r57=>if (!r57) = true then (some true) else (some (r21.2 != r11.2))) : Option (Bool)).bind fun j52=>if j52 = true then (some false) else ((WR r21.1 1).bind fun r63=>(XA r63.1 1).bind fun r65=>if (decide (r65 < 0)) = true then (some false) else (if (r65 != r63.2) = true then (some false) else ((XU p0).bind fun r69=>(W5 r69).bind fun r74=>((XB r74.1 r11.1).bind fun r80=>if (!r80) = true then (some true) else (some (r74.2 != r11.2)) : Option (Bool)).bind fun j77=>if j77 = true then (some false) else ((XA r63.1 1).bind fun r86=>if (decide (r86 < 0)) = true then (some false) else (if (r86 != r63.2) = true then (some false) else (some true)))))))))
theorem KH (w0 : World) (p0 : GVault) (v0_1 : Value) (hv0_1 : Ro w0 p0.Keys [v0_1]) (v0_2 : Value) (hv0_2 : Ro w0 p0.Records [v0_2]) (v0_3 : Value) (hv0_3 : Ro w0 p0.Events [v0_3]) (r : Bool) (hF : Wj p0 = some r) :
  Calls Tryz.prog 8 [(Value.agg (cat [[v0_1],[vI p0.Next],[v0_2],[v0_3],enc p0.Head]).toArray)].toArray w0 (Rt w0 (vT r)):=by
 refine ce Tryz.func8 ?_
 intro a hE
 have hM:=M.start w0
 unfold Wj at hF
 refine Zb (ZT (cs:=cat [[v0_1],[vI p0.Next],[v0_2],[v0_3],enc p0.Head]) hE hM Za ld rfl rfl fun b1 w a hM hE=>Zc hE rfl fun a hE=>Ze (Zb (Zc hE rfl fun a hE=>Ze (Zb (Zr hE rfl zJ rfl hM.rawAt0 cq fun a hE=>Zd hE rfl ?_))))); intro a hE
 obtain ⟨r3,e4,hF⟩:=bind_some hF
 refine Zx hE rfl (cbm Tryz.func23) (zi _ p0 v0_1 (hM.rdo hv0_1) v0_2 (hM.rdo hv0_2) v0_3 (hM.rdo hv0_3) 1048576 r3 e4) ?_
 rintro v w a ⟨rfl,hK⟩ hE
 have hM:=hM.keep hK
 refine Zc hE rfl fun a hE=>Ze (wp_seq (Zb (Zd hE rfl fun a hE=>Zi hE rfl rfl rfl fun a hE=>Ze ?_)))
 refine Zo hE rfl ?_ ?_
 ·intro hb5
  have hF:=Zs hF hb5
  refine Zb (Zc hE rfl fun a hE=>Ze ?_)
  obtain rfl:=Option.some.inj hF
  exact wp_ret (ZA (kr1 hE rfl rfl hM.kept))
 ·intro hb5
  have hF:=Zt hF hb5
  refine wp_skip (Zu (Zb (Zr hE rfl zJ rfl hM.rawAt0 cq ?_))); intro a hE
  obtain ⟨r6,e7,hF⟩:=bind_some hF
  refine Zx hE rfl cb25 (Qb _ p0 v0_1 (hM.rdo hv0_1) v0_2 (hM.rdo hv0_2) v0_3 (hM.rdo hv0_3) r6 e7) ?_
  rintro v w a ⟨u8,u9,u10,rfl,hFr,hK⟩ hE
  have hM:=hM.add hK hFr
  obtain ⟨r11,e12,hF⟩:=bind_some hF
  refine Zx hE rfl (cbm Tryz.func35) (BQ _ r6 u8 (hM.sl (pre:=[]) noB) u9 (hM.sl (pre:=[_]) noB) u10 (hM.sl (pre:=[_,_]) noB) r11 e12) ?_
  rintro v w a ⟨u13,rfl,hFr,hK⟩ hE
  have hM:=hM.add hK hFr
  refine Zd hE rfl fun a hE=>Yw hE Za ld rfl rfl fun a hE=>Yw hE Za ld rfl rfl fun a hE=>Zc hE rfl fun a hE=>Zc hE rfl fun a hE=>Ze (Zb (Zr hE rfl zJ rfl hM.rawAt4 cq ?_)); intro a hE
  obtain ⟨r14,e15,hF⟩:=bind_some hF
  refine Zx hE rfl cb25 (Qb _ p0 v0_1 (hM.rdo hv0_1) v0_2 (hM.rdo hv0_2) v0_3 (hM.rdo hv0_3) r14 e15) ?_
  rintro v w a ⟨u16,u17,u18,rfl,hFr,hK⟩ hE
  have hM:=hM.add hK hFr
  refine Zz hE hM Ke fun b19 w a hM hE=>Zn (seg:=cat [[u16],[vI r14.Next],[u17],[u18],enc r14.Head]) (cs':=cat [[u16],[vI r14.Next],[u17],[u18],enc r14.Head]) hE hM Za rfl rfl rfl Ke cq (Nat.le_of_eq ((Nat.zero_add _).trans (Eq.trans cq (Eq.symm cq)))) (Xv (cc1 (Rep.cell (hM.sl (pre:=[_]) noB)) (cc1 (Flat.cell (r14.Next : Int)) (cc1 (Rep.cell (hM.sl (pre:=[_,_]) noB)) (cc1 (Rep.cell (hM.sl (pre:=[_,_,_]) noB)) (cc1 (Flat.cell _) cc0)))))) (Zk (Eq.trans cq (Eq.symm cq))) fun w a hM hE=>Ze (Zb (Zr hE rfl Ke rfl hM.rawAt0 cq ?_)); intro a hE
  obtain ⟨r21,e22,hF⟩:=bind_some hF
  refine Zx hE rfl (cbm Tryz.func36) (KI _ r14 u16 (hM.sl (pre:=[_]) noB) u17 (hM.sl (pre:=[_,_]) noB) u18 (hM.sl (pre:=[_,_,_]) noB) r21 e22) ?_
  rintro v w a ⟨u23,rfl,hFr,hK⟩ hE
  have hM:=hM.add hK hFr
  refine Zd hE rfl fun a hE=>Yw hE Za ld rfl rfl fun a hE=>Yw hE Za ld rfl rfl fun a hE=>Zc hE rfl fun a hE=>Zc hE rfl fun a hE=>Ze (wp_seq ?_)
  obtain ⟨j24,hl25,hF26⟩:=bind_some hF
  refine ZI (fun a w=>Env 96 a [(1,(ptr b1 0)),(4,u13),(5,vI r11.2),(6,(ptr b19 0)),(7,u23),(8,vI r21.2),(40,vT j24)] ∧ M (Old w0) w0 w [osl NoB (r21.1 : List (List Int)) u23,raw b19 (cat [[u16],[vI r14.Next],[u17],[u18],enc r14.Head]),osl NoB (r14.Keys : List (Vector UInt8 16)) u16,osl NoB (r14.Records : List GRecord) u17,osl NoB (r14.Events : List GEvent) u18,osl NoB (r11.1 : List (List Int)) u13,raw b1 (cat [[v0_1],[vI p0.Next],[v0_2],[v0_3],enc p0.Head])]) ?_ ?_
  ·skip
   refine wp_region_lit (Zd hE rfl fun a hE=>Zd hE rfl ?_); intro a hE
   obtain ⟨r27,e28,hl25⟩:=bind_some hl25
   refine Zx hE rfl cb37 (Qg _ r21.1 u23 (hM.sl (pre:=[]) noB) r11.1 u13 (hM.sl (pre:=[_,_,_,_,_]) noB) r27 e28) ?_
   rintro v w a ⟨rfl,hK⟩ hE
   have hM:=hM.keep hK
   refine Qa hE rfl fun a hE=>Zd hE rfl ?_; intro a hE
   refine YK (!r27) (fun hb29=>?_) (fun hb29=>?_)
   ·have hl25:=Zs hl25 hb29
    refine Zm hE rfl (lkb rfl hb29) rfl (by decide) fun a hE=>Zm hE rfl (lkb rfl hb29) rfl (by decide) fun a hE=>Zm hE rfl (lkb rfl hb29) rfl (by decide) fun a hE=>Z8 hE (lkb rfl hb29) rfl fun a hE=>Zf ?_
    obtain rfl:=Option.some.inj hl25
    refine Zh ?_
    have hM:=M.fst (l:=[_,_,_,_,_,_,_]) hM.pull9.pull6.pull6.pull6.pull6.pull6.pull6
    exact ⟨hE.sub ⟨rfl,rfl,rfl,rfl,rfl,rfl,rfl,trivial⟩,hM⟩
   ·have hl25:=Zt hl25 hb29
    refine Zp hE (Zj hE rfl (lkb rfl hb29)) (by decide) rfl fun a hE=>Zp hE (Zj hE rfl (lkb rfl hb29)) (by decide) rfl fun a hE=>Ye hE (Zj hE rfl (lkb rfl hb29)) (by decide) rfl rfl rfl fun a hE=>YB hE (lkb rfl hb29) rfl fun a hE=>Zf ?_
    obtain rfl:=Option.some.inj hl25
    refine Zh ?_
    have hM:=M.fst (l:=[_,_,_,_,_,_,_]) hM.pull9.pull6.pull6.pull6.pull6.pull6.pull6
    exact ⟨hE.sub ⟨rfl,rfl,rfl,rfl,rfl,rfl,rfl,trivial⟩,hM⟩
  ·skip
   rintro a w ⟨hE,hM⟩
   refine Zo hE rfl ?_ ?_
   ·intro hb32
    have hF26:=Zs hF26 hb32
    refine Zb (Zc hE rfl fun a hE=>Ze ?_)
    obtain rfl:=Option.some.inj hF26
    exact wp_ret (ZA (kr1 hE rfl rfl hM.kept))
   ·intro hb32
    have hF26:=Zt hF26 hb32
    refine wp_skip (Zu (wp_seq ?_))
    obtain ⟨j33,hl34,hF35⟩:=bind_some hF26
    refine ZI (fun a w=>Env 96 a [(1,(ptr b1 0)),(4,u13),(5,vI r11.2),(6,(ptr b19 0)),(7,u23),(8,vI r21.2),(45,vT j33)] ∧ M (Old w0) w0 w [osl NoB (r21.1 : List (List Int)) u23,raw b19 (cat [[u16],[vI r14.Next],[u17],[u18],enc r14.Head]),osl NoB (r14.Keys : List (Vector UInt8 16)) u16,osl NoB (r14.Records : List GRecord) u17,osl NoB (r14.Events : List GEvent) u18,osl NoB (r11.1 : List (List Int)) u13,raw b1 (cat [[v0_1],[vI p0.Next],[v0_2],[v0_3],enc p0.Head])]) ?_ ?_
    ·skip
     obtain ⟨r37,e38,hl34⟩:=bind_some hl34
     refine Xs (its:=[osl NoB (r21.1 : List (List Int)) u23,raw b19 (cat [[u16],[vI r14.Next],[u17],[u18],enc r14.Head]),osl NoB (r14.Keys : List (Vector UInt8 16)) u16,osl NoB (r14.Records : List GRecord) u17,osl NoB (r14.Events : List GEvent) u18,osl NoB (r11.1 : List (List Int)) u13,raw b1 (cat [[v0_1],[vI p0.Next],[v0_2],[v0_3],enc p0.Head])]) (mk:=([mkO 2 (fun v=>own NoB r37 (Value.cells v).toList)] : Mk)) [41,42,43] Yy rfl rfl (by decide) rfl hE (fun u=>M.qE (M.q0 hM.drew u) emO) (qsP (v:=(Value.agg (cat [[u16],[vI r14.Next],[u17],[u18],enc r14.Head]).toArray)) ?_ (qsP (v:=(Value.agg (cat [[v0_1],[vI p0.Next],[v0_2],[v0_3],enc p0.Head]).toArray)) ?_ (qsM (pr:=fun v=>∃ cs,v = .agg cs) ?_ qs0))) ?_
     ·intro a w ux36 D z
      have hE:=z.E
      have hM:=z.M
      exact Zr hE rfl Ke rfl hM.rawAt1 cq fun a hE=>⟨Kept.refl _ _,_,rfl,hE⟩
     ·intro a w ux36 D z
      have hE:=z.E
      have hM:=z.M
      exact Zr hE rfl zJ rfl hM.rawAt6 cq fun a hE=>⟨Kept.refl _ _,_,rfl,hE⟩
     ·intro a w ux36 D z
      have hE:=z.E
      have hD : D 2 = false:=z.F
      have hM0:=z.M
      have hM:=z.M
      refine Zx hE rfl cb25 (Qb _ p0 v0_1 (hM.rdo hv0_1) v0_2 (hM.rdo hv0_2) v0_3 (hM.rdo hv0_3) r37 e38) ?_
      rintro _ w a ⟨u39,u40,u41,rfl,hFr,hK⟩ hE
      have hM:=Zax (x:=r37) (hM0.add hK hFr) sio sio sio
      exact ⟨_,_,rfl,hE,M.qFill (mk1:=[]) (mk2:=[]) (f:=(fun v=>own NoB r37 (Value.cells v).toList)) hM rfl hD,⟨_,rfl⟩⟩
     ·intro a w ux36 D hE hM hG hall
      have d2:=hall 2 (by decide)
      have hM:=hM.sure (pre:=[_,_,_,_,_,_,_]) d2
      obtain ⟨q36_2_0_1,q36_2_0_2,q36_2_0_3,hcz,_,_,_⟩:=yv (hM.ro (pre:=[_,_,_,_,_,_,_]) noB)
      have qK42 : (ux36 2) = (Value.agg (cat [[q36_2_0_1],[vI r37.Next],[q36_2_0_2],[q36_2_0_3],enc r37.Head]).toArray):=aggQ hcz (hG 2 d2 _ rfl).2
      have hM:=hM.pull7
      have hM:=Zau (hM.recown (congrArg (fun v=>(Value.cells v).toList) qK42))
      have hE:=hE.setq (t:=43) rfl qK42
      obtain ⟨r46,e47,hl34⟩:=bind_some hl34
      refine Zx hE rfl (cbm Tryz.func27) (zq _ r14 u16 (hM.sl (pre:=[_,_,_,_,_]) noB) u17 (hM.sl (pre:=[_,_,_,_,_,_]) noB) u18 (hM.sl (pre:=[_,_,_,_,_,_,_]) noB) r37 q36_2_0_1 (hM.ro (pre:=[]) noB) q36_2_0_2 (hM.ro (pre:=[_]) noB) q36_2_0_3 (hM.ro (pre:=[_,_]) noB) r46 e47) ?_
      rintro v w a ⟨rfl,hK⟩ hE
      have hM:=hM.keep hK
      refine Qa hE rfl fun a hE=>Zf ?_
      obtain rfl:=Option.some.inj hl34
      refine Zh ?_
      have hM:=M.fst (l:=[_,_,_,_,_,_,_]) hM.pull9.pull9.pull9.pull9.pull9.pull9.pull9
      exact ⟨hE.sub ⟨rfl,rfl,rfl,rfl,rfl,rfl,rfl,trivial⟩,hM⟩
    ·skip
     rintro a w ⟨hE,hM⟩
     refine Zo hE rfl ?_ ?_
     ·intro hb49
      have hF35:=Zs hF35 hb49
      refine Zb (Zc hE rfl fun a hE=>Ze ?_)
      obtain rfl:=Option.some.inj hF35
      exact wp_ret (ZA (kr1 hE rfl rfl hM.kept))
     ·intro hb49
      have hF35:=Zt hF35 hb49
      refine wp_skip (Zu (Zb (Zc hE rfl fun a hE=>Ze (Zb (Zr hE rfl Ke rfl hM.rawAt1 cq fun a hE=>Zd hE rfl ?_))))); intro a hE
      have hM:=((((((hM.pull2.toOwn noB).pull3).toOwn noB).pull4).toOwn noB).pull1).pull2
      obtain ⟨r50,e51,hF35⟩:=bind_some hF35
      refine Zx hE rfl (cbm Tryz.func28) (Bm _ _ _ _ r14 u16 u17 u18 1 hM r50 e51) ?_
      rintro v w a ⟨rfl,hM⟩ hE
      refine Zc hE rfl fun a hE=>Ze (wp_seq ?_)
      obtain ⟨j52,hl53,hF54⟩:=bind_some hF35
      refine ZI (fun a w=>Env 96 a [(1,(ptr b1 0)),(4,u13),(5,vI r11.2),(7,u23),(61,vT j52)] ∧ M (Old w0) w0 w [osl NoB (r21.1 : List (List Int)) u23,osl NoB (r11.1 : List (List Int)) u13,raw b1 (cat [[v0_1],[vI p0.Next],[v0_2],[v0_3],enc p0.Head])]) ?_ ?_
      ·skip
       refine wp_region_lit (Zd hE rfl fun a hE=>Zi hE rfl rfl rfl fun a hE=>Zd hE rfl ?_); intro a hE
       refine YK (decide (r50.2 < 0)) (fun hb55=>?_) (fun hb55=>?_)
       ·have hl53:=Zs hl53 hb55
        refine Zm hE rfl (lkb rfl hb55) rfl (by decide) fun a hE=>Zm hE rfl (lkb rfl hb55) rfl (by decide) fun a hE=>Zm hE rfl (lkb rfl hb55) rfl (by decide) fun a hE=>Zm hE rfl (lkb rfl hb55) rfl (by decide) fun a hE=>Z8 hE (lkb rfl hb55) rfl fun a hE=>Zd hE rfl fun a hE=>Zm hE rfl rfl rfl (by decide) fun a hE=>Zm hE rfl rfl rfl (by decide) fun a hE=>Zm hE rfl rfl rfl (by decide) fun a hE=>Z8 hE rfl rfl fun a hE=>Zf ?_
        obtain rfl:=Option.some.inj hl53
        refine Zh ?_
        have hM:=M.fst (l:=[_,_,_]) hM.pull6.pull6.pull5
        exact ⟨hE.sub ⟨rfl,rfl,rfl,rfl,rfl,trivial⟩,hM⟩
       ·have hl53:=Zt hl53 hb55
        refine Zp hE (Zj hE rfl (lkb rfl hb55)) (by decide) rfl fun a hE=>Zp hE (Zj hE rfl (lkb rfl hb55)) (by decide) rfl ?_; intro a hE
        obtain ⟨r57,e58,hl53⟩:=bind_some hl53
        refine ZV hE (Zj hE rfl (lkb rfl hb55)) (by decide) rfl cb37 (Qg _ r21.1 u23 (hM.sl (pre:=[_,_,_]) noB) r11.1 u13 (hM.sl (pre:=[_,_,_,_,_]) noB) r57 e58) ?_
        rintro v w a ⟨rfl,hK⟩ hE
        have hM:=hM.keep hK
        refine QE hE (Zj hE rfl (lkb rfl hb55)) (by decide) rfl fun a hE=>YB hE (lkb rfl hb55) rfl fun a hE=>Zd hE rfl ?_; intro a hE
        refine YK (!r57) (fun hb59=>?_) (fun hb59=>?_)
        ·have hl53:=Zs hl53 hb59
         refine Zm hE rfl (lkb rfl hb59) rfl (by decide) fun a hE=>Zm hE rfl (lkb rfl hb59) rfl (by decide) fun a hE=>Zm hE rfl (lkb rfl hb59) rfl (by decide) fun a hE=>Z8 hE (lkb rfl hb59) rfl fun a hE=>Zf ?_
         obtain rfl:=Option.some.inj hl53
         refine Zh ?_
         have hM:=M.fst (l:=[_,_,_]) hM.pull6.pull6.pull5
         exact ⟨hE.sub ⟨rfl,rfl,rfl,rfl,rfl,trivial⟩,hM⟩
        ·have hl53:=Zt hl53 hb59
         refine Zp hE (Zj hE rfl (lkb rfl hb59)) (by decide) rfl fun a hE=>Zp hE (Zj hE rfl (lkb rfl hb59)) (by decide) rfl fun a hE=>Ye hE (Zj hE rfl (lkb rfl hb59)) (by decide) rfl rfl rfl fun a hE=>YB hE (lkb rfl hb59) rfl fun a hE=>Zf ?_
         obtain rfl:=Option.some.inj hl53
         refine Zh ?_
         have hM:=M.fst (l:=[_,_,_]) hM.pull6.pull6.pull5
         exact ⟨hE.sub ⟨rfl,rfl,rfl,rfl,rfl,trivial⟩,hM⟩
      ·skip
       rintro a w ⟨hE,hM⟩
       refine Zo hE rfl ?_ ?_
       ·intro hb62
        have hF54:=Zs hF54 hb62
        refine Zb (Zc hE rfl fun a hE=>Ze ?_)
        obtain rfl:=Option.some.inj hF54
        exact wp_ret (ZA (kr1 hE rfl rfl hM.kept))
       ·intro hb62
        have hF54:=Zt hF54 hb62
        refine wp_skip (Zu (Zb (Zc hE rfl fun a hE=>Ze (Zb (Zd hE rfl fun a hE=>Zd hE rfl ?_))))); intro a hE
        have hM:=hM.toOwn noB
        obtain ⟨r63,e64,hF54⟩:=bind_some hF54
        refine Zx hE rfl (cbm Tryz.func38) (J6 _ _ _ _ r21.1 u23 1 hM r63 e64) ?_
        rintro v w a ⟨rfl,hM⟩ hE
        refine Zc hE rfl fun a hE=>Ze (Zb (Zc hE rfl fun a hE=>Ze (Zb (Zd hE rfl fun a hE=>Zd hE rfl ?_)))); intro a hE
        obtain ⟨r65,e66,hF54⟩:=bind_some hF54
        refine Zx hE rfl (cbm Tryz.func39) (Q3 _ r63.1 u23 (hM.ro (pre:=[]) noB) 1 r65 e66) ?_
        rintro v w a ⟨rfl,hK⟩ hE
        have hM:=hM.keep hK
        refine Zc hE rfl fun a hE=>Ze (wp_seq (Zb (Zd hE rfl fun a hE=>Zi hE rfl rfl rfl fun a hE=>Ze ?_)))
        refine Zo hE rfl ?_ ?_
        ·intro hb67
         have hF54:=Zs hF54 hb67
         refine Zb (Zc hE rfl fun a hE=>Ze ?_)
         obtain rfl:=Option.some.inj hF54
         exact wp_ret (ZA (kr1 hE rfl rfl hM.kept))
        ·intro hb67
         have hF54:=Zt hF54 hb67
         refine wp_skip (Zu (wp_seq (Zb (Zd hE rfl fun a hE=>Zd hE rfl fun a hE=>Zi hE rfl rfl rfl fun a hE=>Ze ?_))))
         refine Zo hE rfl ?_ ?_
         ·intro hb68
          have hF54:=Zs hF54 hb68
          refine Zb (Zc hE rfl fun a hE=>Ze ?_)
          obtain rfl:=Option.some.inj hF54
          exact wp_ret (ZA (kr1 hE rfl rfl hM.kept))
         ·intro hb68
          have hF54:=Zt hF54 hb68
          refine wp_skip (Zu (Zb (Zr hE rfl zJ rfl hM.rawAt2 cq ?_))); intro a hE
          obtain ⟨r69,e70,hF54⟩:=bind_some hF54
          refine Zx hE rfl cb25 (Qb _ p0 v0_1 (hM.rdo hv0_1) v0_2 (hM.rdo hv0_2) v0_3 (hM.rdo hv0_3) r69 e70) ?_
          rintro v w a ⟨u71,u72,u73,rfl,hFr,hK⟩ hE
          have hM:=hM.add hK hFr
          obtain ⟨r74,e75,hF54⟩:=bind_some hF54
          refine Zx hE rfl (cbm Tryz.func36) (KI _ r69 u71 (hM.sl (pre:=[]) noB) u72 (hM.sl (pre:=[_]) noB) u73 (hM.sl (pre:=[_,_]) noB) r74 e75) ?_
          rintro v w a ⟨u76,rfl,hFr,hK⟩ hE
          have hM:=hM.add hK hFr
          refine Zd hE rfl fun a hE=>Yw hE Za ld rfl rfl fun a hE=>Yw hE Za ld rfl rfl fun a hE=>Zc hE rfl fun a hE=>Zc hE rfl fun a hE=>Ze (wp_seq ?_)
          obtain ⟨j77,hl78,hF79⟩:=bind_some hF54
          refine ZI (fun a w=>Env 96 a [(7,u23),(10,vI r63.2),(87,vT j77)] ∧ M (Old w0) w0 w [own NoB (r63.1 : (List (List Int))) [u23]]) ?_ ?_
          ·skip
           refine wp_region_lit (Zd hE rfl fun a hE=>Zd hE rfl ?_); intro a hE
           obtain ⟨r80,e81,hl78⟩:=bind_some hl78
           refine Zx hE rfl cb37 (Qg _ r74.1 u76 (hM.sl (pre:=[]) noB) r11.1 u13 (hM.sl (pre:=[_,_,_,_,_]) noB) r80 e81) ?_
           rintro v w a ⟨rfl,hK⟩ hE
           have hM:=hM.keep hK
           refine Qa hE rfl fun a hE=>Zd hE rfl ?_; intro a hE
           refine YK (!r80) (fun hb82=>?_) (fun hb82=>?_)
           ·have hl78:=Zs hl78 hb82
            refine Zm hE rfl (lkb rfl hb82) rfl (by decide) fun a hE=>Zm hE rfl (lkb rfl hb82) rfl (by decide) fun a hE=>Zm hE rfl (lkb rfl hb82) rfl (by decide) fun a hE=>Z8 hE (lkb rfl hb82) rfl fun a hE=>Zf ?_
            obtain rfl:=Option.some.inj hl78
            refine Zh ?_
            have hM:=M.fst (l:=[_]) hM.pull4
            exact ⟨hE.sub ⟨rfl,rfl,rfl,trivial⟩,hM⟩
           ·have hl78:=Zt hl78 hb82
            refine Zp hE (Zj hE rfl (lkb rfl hb82)) (by decide) rfl fun a hE=>Zp hE (Zj hE rfl (lkb rfl hb82)) (by decide) rfl fun a hE=>Ye hE (Zj hE rfl (lkb rfl hb82)) (by decide) rfl rfl rfl fun a hE=>YB hE (lkb rfl hb82) rfl fun a hE=>Zf ?_
            obtain rfl:=Option.some.inj hl78
            refine Zh ?_
            have hM:=M.fst (l:=[_]) hM.pull4
            exact ⟨hE.sub ⟨rfl,rfl,rfl,trivial⟩,hM⟩
          ·skip
           rintro a w ⟨hE,hM⟩
           refine Zo hE rfl ?_ ?_
           ·intro hb85
            have hF79:=Zs hF79 hb85
            refine Zb (Zc hE rfl fun a hE=>Ze ?_)
            obtain rfl:=Option.some.inj hF79
            exact wp_ret (ZA (kr1 hE rfl rfl hM.kept))
           ·intro hb85
            have hF79:=Zt hF79 hb85
            refine wp_skip (Zu (Zb (Zc hE rfl fun a hE=>Ze (Zb (Zd hE rfl fun a hE=>Zd hE rfl ?_))))); intro a hE
            obtain ⟨r86,e87,hF79⟩:=bind_some hF79
            refine Zx hE rfl (cbm Tryz.func39) (Q3 _ r63.1 u23 (hM.ro (pre:=[]) noB) 1 r86 e87) ?_
            rintro v w a ⟨rfl,hK⟩ hE
            have hM:=hM.keep hK
            refine Zc hE rfl fun a hE=>Ze (wp_seq (Zb (Zd hE rfl fun a hE=>Zi hE rfl rfl rfl fun a hE=>Ze ?_)))
            refine Zo hE rfl ?_ ?_
            ·intro hb88
             have hF79:=Zs hF79 hb88
             refine Zb (Zc hE rfl fun a hE=>Ze ?_)
             obtain rfl:=Option.some.inj hF79
             exact wp_ret (ZA (kr1 hE rfl rfl hM.kept))
            ·intro hb88
             have hF79:=Zt hF79 hb88
             refine wp_skip (Zu (wp_seq (Zb (Zd hE rfl fun a hE=>Zd hE rfl fun a hE=>Zi hE rfl rfl rfl fun a hE=>Ze ?_))))
             refine Zo hE rfl ?_ ?_
             ·intro hb89
              have hF79:=Zs hF79 hb89
              refine Zb (Zc hE rfl fun a hE=>Ze ?_)
              obtain rfl:=Option.some.inj hF79
              exact wp_ret (ZA (kr1 hE rfl rfl hM.kept))
             ·intro hb89
              have hF79:=Zt hF79 hb89
              refine wp_skip (Zu (Zb (Zc hE rfl fun a hE=>Ze ?_)))
              obtain rfl:=Option.some.inj hF79
              exact wp_ret (kr1 hE rfl rfl hM.kept)
end

end Go.Proofs.YtpibglnacohdkaaGreat
