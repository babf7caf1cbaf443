/- The walk of what the law reaches: contracts of functions. -/
import Derived.Test.YtpjogonponkbmaaC2
set_option linter.unusedVariables false
set_option linter.unusedSimpArgs false
set_option maxRecDepth 20000
set_option maxHeartbeats 400000
namespace Go.Proofs.Ytpjogonponkbmaa
open Go
open Flat (enc)
noncomputable section
theorem V0 (w0 : World) (p0 : GCipher) (p1 : (Vector UInt8 16)) (p2 : (List (Vector UInt8 16))) (v2_1 : Value) (hv2_1 : Ro w0 p2 [v2_1]) (p3 : Int) (p4 : Int) (p5 : Int) (r : (List Int) × Int) (hF : Yw p0 p1 p2 p3 p4 p5 = some r) :
  Calls Try.prog 36 [(Value.agg (enc p0).toArray),(Value.agg (enc p1).toArray),v2_1,vI p3,vI p4,vI p5].toArray w0 (fun en w'=>∃ v,en = .returned v ∧ (∃ (y1 : Value),v = (Value.tuple [y1,vI r.2].toArray) ∧ Fr w0 w' [osl NoB (r.1 : List Int) y1] ∧ Kept (Old w0) w0 w')):=by
 refine ZB (n:=73) Try.func36 rfl rfl (nbl rfl) rfl ?_
 intro a hE
 have hM:=M.start w0
 unfold Yw at hF
 refine Zc (ZZ (cs:=cat [[vI p0.Field],enc p0.Box,enc p0.Mix,enc p0.Places,[vI p0.Rounds]]) hE hM Za ld rfl rfl fun b1 w a hM hE=>ZZ (cs:=enc p1) hE hM Za ld rfl rfl fun b3 w a hM hE=>Ze hE Za ld rfl fun a hE=>Ze hE Za ld rfl fun a hE=>Zf (wp_seq (Zc (Zn (cs:=enc p0) hE Za ld rfl Uz rfl (hM.rawAt (pre:=[_])) (YF (cl1 (n:=1) (m:=289) rfl (cl1 (n:=256) (m:=33) (Flat.len _) (cl1 (n:=16) (m:=17) (Flat.len _) (cl1 (n:=16) (m:=1) (Flat.len _) (cl1 (n:=1) (m:=0) rfl cl0)))))) fun a hE=>Zd hE Za ld rfl fun a hE=>Zd hE Za ld rfl ?_)))); intro a hE
 obtain ⟨r5,e6,hF⟩:=bind_some hF
 refine Zt hE Za ld rfl cb86 (Kk _ p0 p3 p5 r5 e6) ?_
 rintro v w a ⟨rfl,hK⟩ hE
 have hM:=hM.keep hK
 refine Ze hE Za ld rfl fun a hE=>Zf (wp_block (Zc (Zd hE Za ld rfl fun a hE=>Zi hE Za ld rfl rfl rfl fun a hE=>Ze hE Za ld rfl fun a hE=>Zf ?_)))
 refine Zq hE rfl ?_ ?_
 ·intro hb7
  have hF:=Zu hF hb7
  refine Zc (Zd hE Za ld rfl fun a hE=>Ze hE Za ld rfl fun a hE=>Ze hE Za ld rfl fun a hE=>Zf ?_)
  have hM:=M.nilS (α:=Int) NoB noB hM
  have hr:=Option.some.inj hF
  subst hr
  have hM:=M.fst (l:=[_]) hM
  exact wp_ret (YG (ZD (UP hE rfl (Zs hE rfl) (Zs hE rfl) ⟨_,rfl,(Value.slice none 0 0),rfl,hM.outF (Tn UM),hM.kept⟩)))
 ·intro hb7
  have hF:=Zv hF hb7
  obtain ⟨j9,hl10,hF11⟩:=bind_some hF
  refine ZM (fun a w=>Env 73 a [(2,v2_1),(3,vI p3),(4,vI p4),(5,vI p5),(6,(ptr b1 0)),(7,(ptr b3 0)),(29,vT j9)] ∧ M (Old w0) w0 w [raw b3 (enc p1),raw b1 (cat [[vI p0.Field],enc p0.Box,enc p0.Mix,enc p0.Places,[vI p0.Rounds]])]) ?_ ?_
  ·skip
   refine wp_region_lit (Zd hE Za ld rfl ?_); intro a hE
   obtain ⟨r12,e13,hl10⟩:=bind_some hl10
   refine Zt hE Za ld rfl cb87 (UT _ p2 v2_1 (hM.rdo hv2_1) r12 e13) ?_
   rintro v w a ⟨rfl,hK⟩ hE
   have hM:=hM.keep hK
   obtain ⟨r14,e15,hl10⟩:=bind_some hl10
   refine Zt hE Za ld rfl cb49 (W9 _ r12 1 8 r14 e15) ?_
   rintro v w a ⟨rfl,hK⟩ hE
   have hM:=hM.keep hK
   refine Vf hE Za ld rfl fun a hE=>Zd hE Za ld rfl ?_; intro a hE
   refine Xh (!r14) (fun hb16=>?_) (fun hb16=>?_)
   ·have hl10:=Zu hl10 hb16
    refine Zp hE rfl (lkb rfl hb16) rfl (by decide) fun a hE=>Zp hE rfl (lkb rfl hb16) rfl (by decide) fun a hE=>Zp hE rfl (lkb rfl hb16) rfl (by decide) fun a hE=>Z0 hE Za ld (lkb rfl hb16) rfl fun a hE=>Zd hE Za ld rfl fun a hE=>Zp hE rfl rfl rfl (by decide) fun a hE=>Zp hE rfl rfl rfl (by decide) fun a hE=>Z0 hE Za ld rfl rfl fun a hE=>Ze hE Za ld rfl fun a hE=>Zh ?_
    have ht17:=Option.some.inj hl10
    subst ht17
    refine Zj ?_
    exact ⟨hE.sub ⟨rfl,rfl,rfl,rfl,rfl,rfl,rfl,trivial⟩,hM⟩
   ·have hl10:=Zv hl10 hb16
    refine Zd hE (Zl hE rfl (lkb rfl hb16)) (by decide) rfl ?_; intro a hE
    obtain ⟨r18,e19,hl10⟩:=bind_some hl10
    refine Zt hE (Zl hE rfl (lkb rfl hb16)) (by decide) rfl cb88 (TA _ p4 r18 e19) ?_
    rintro v w a ⟨rfl,hK⟩ hE
    have hM:=hM.keep hK
    refine Vf hE (Zl hE rfl (lkb rfl hb16)) (by decide) rfl fun a hE=>Yb hE Za ld (lkb rfl hb16) rfl fun a hE=>Zd hE Za ld rfl ?_; intro a hE
    refine Xh (!r18) (fun hb20=>?_) (fun hb20=>?_)
    ·have hl10:=Zu hl10 hb20
     refine Zp hE rfl (lkb rfl hb20) rfl (by decide) fun a hE=>Zp hE rfl (lkb rfl hb20) rfl (by decide) fun a hE=>Z0 hE Za ld (lkb rfl hb20) rfl fun a hE=>Ze hE Za ld rfl fun a hE=>Zh ?_
     have ht21:=Option.some.inj hl10
     subst ht21
     refine Zj ?_
     exact ⟨hE.sub ⟨rfl,rfl,rfl,rfl,rfl,rfl,rfl,trivial⟩,hM⟩
    ·have hl10:=Zv hl10 hb20
     refine Zd hE (Zl hE rfl (lkb rfl hb20)) (by decide) rfl fun a hE=>Zi hE (Zl hE rfl (lkb rfl hb20)) (by decide) rfl rfl rfl fun a hE=>Yb hE Za ld (lkb rfl hb20) rfl fun a hE=>Ze hE Za ld rfl fun a hE=>Zh ?_
     have ht22:=Option.some.inj hl10
     subst ht22
     refine Zj ?_
     exact ⟨hE.sub ⟨rfl,rfl,rfl,rfl,rfl,rfl,rfl,trivial⟩,hM⟩
  ·skip
   rintro a w ⟨hE,hM⟩
   refine Zq hE rfl ?_ ?_
   ·intro hb23
    have hF11:=Zu hF11 hb23
    refine Zc (Ze hE Za ld rfl fun a hE=>Ze hE Za ld rfl fun a hE=>Zf ?_)
    have hM:=M.nilS (α:=Int) NoB noB hM
    have hr:=Option.some.inj hF11
    subst hr
    have hM:=M.fst (l:=[_]) hM
    exact wp_ret (YG (ZD (UP hE rfl (Zs hE rfl) (Zs hE rfl) ⟨_,rfl,(Value.slice none 0 0),rfl,hM.outF (Tn UM),hM.kept⟩)))
   ·intro hb23
    have hF11:=Zv hF11 hb23
    refine wp_skip (Z9 (Zw (Zc (Zn (cs:=enc p0) hE Za ld rfl Uz rfl (hM.rawAt (pre:=[_])) (YF (cl1 (n:=1) (m:=289) rfl (cl1 (n:=256) (m:=33) (Flat.len _) (cl1 (n:=16) (m:=17) (Flat.len _) (cl1 (n:=16) (m:=1) (Flat.len _) (cl1 (n:=1) (m:=0) rfl cl0)))))) ?_)))); intro a hE
    obtain ⟨r25,e26,hF11⟩:=bind_some hF11
    refine Zt hE Za ld rfl cb75 (QU _ p0 r25 e26) ?_
    rintro u27 w a ⟨_,rfl,hFr,hK⟩ hE
    have hM:=hM.add hK hFr
    refine Ze hE Za ld rfl fun a hE=>Zf (Zc (Zd hE Za ld rfl fun a hE=>Zn (cs:=enc p1) hE Za ld rfl ZK rfl (hM.rawAt (pre:=[_])) (Flat.len _) fun a hE=>Zd hE Za ld rfl ?_)); intro a hE
    obtain ⟨r28,e29,hF11⟩:=bind_some hF11
    refine Zt hE Za ld rfl cb77 (TV _ r25 u27 (hM.ro (pre:=[]) noB) p1 p5 r28 e29) ?_
    rintro u30 w a ⟨_,rfl,hFr,hK⟩ hE
    have hM:=hM.add hK hFr
    refine WG (xs:=[]) (l:=([] : List Int)) (vs:=[]) hE hM Za ld rfl rfl Try.underlying66 ty2 rfl (by decide) rfl fun u31 w a hM hE=>Ze hE Za ld rfl fun a hE=>Ze hE Za ld rfl fun a hE=>Zf (wp_seq (Zc (Zd hE Za ld rfl fun a hE=>Ws hE Za ld rfl Try.underlying69 (hM.rd hv2_1) fun a hE=>Zd hE Za ld rfl fun a hE=>Zf ?_)))
    obtain ⟨j33,hl34,hF35⟩:=bind_some hF11
    refine ZL (fun a w=>∃ (u36 : Value),Env 73 a [(17,u36)] ∧ M (Old w0) w0 w [osl NoB (j33 : List Int) u36]) ?_ ?_
    ·skip
     refine wp_block ?_
     have hM:=M.fst (l:=[_,_,_]) ((hM.pull (pre:=[_,_])).pull (pre:=[_,_]))
     refine ZF (fun (s38 : (List Int) × Int) a w=>∃ (u39 : Value),Env 73 a [(3,vI p3),(4,vI p4),(15,u27),(16,u30),(17,u39),(50,v2_1),(51,(vI (p2.length : Int))),(52,vI s38.2)] ∧ M (Old w0) w0 w [osl NoB (r28 : List (Vector UInt8 16)) u30,own NoB (r25 : (Ref Gengine)) [u27],osl NoB (s38.1 : List Int) u39]) hl34 ⟨u31,hE.sub ⟨rfl,rfl,rfl,rfl,rfl,rfl,rfl,rfl,trivial⟩,hM⟩ ?_
     rintro s38 a w ⟨u39,hE,hM⟩ o43 hs41 hx42
     unfold Ym at hs41
     refine Zc (Zi hE Za ld rfl rfl rfl fun a hE=>Zf (wp_seq ?_))
     refine Zq hE rfl ?_ ?_
     ·intro hb44
      have hs41:=Zu hs41 hb44
      refine wp_skip (Zw ?_)
      obtain ⟨j45,hl46,hF47⟩:=bind_some hs41
      refine ZM (fun a w=>∃ (u48 : Value),Env 73 a [(3,vI p3),(4,vI p4),(15,u27),(16,u30),(17,u48),(50,v2_1),(51,(vI (p2.length : Int))),(52,vI s38.2)] ∧ M (Old w0) w0 w [osl NoB (r28 : List (Vector UInt8 16)) u30,own NoB (r25 : (Ref Gengine)) [u27],osl NoB (j45 : List Int) u48]) ?_ ?_
      ·skip
       refine wp_block (Zc (Zd hE Za ld rfl ?_)); intro a hE
       obtain ⟨x50,hi52,hl46⟩:=bix hl46
       refine Yk hE Za ld rfl rfl Try.underlying69 ZK (hM.rd hv2_1) hi52.1 fun a hE=>Zn (cs:=enc x50) hE Za ld rfl ZK rfl (WD (hM.rd hv2_1) hi52.2) (Flat.len _) fun a hE=>ZH hE hM Za ld ZK fun b53 w a hM hE=>Ze hE Za ld rfl fun a hE=>Zo (seg:=enc x50) (cs':=enc x50) hE hM Za rfl rfl rfl ZK (Flat.len _) (zle flq) (Flat.cell _) (Zr flq) fun w a hM hE=>Zf (Zc (Zd hE Za ld rfl fun a hE=>Zd hE Za ld rfl fun a hE=>Zd hE Za ld rfl fun a hE=>Zn (cs:=enc x50) hE Za ld rfl ZK rfl (hM.rawAt (pre:=[])) (Flat.len _) fun a hE=>Zd hE Za ld rfl ?_)); intro a hE
       obtain ⟨r55,e56,hl46⟩:=bind_some hl46
       refine Zt hE Za ld rfl cb90 (Qv _ r25 u27 (hM.ro (pre:=[_,_]) noB) r28 u30 (hM.sl (pre:=[_]) noB) x50 p3 r55 e56) ?_
       rintro u57 w a ⟨_,rfl,hFr,hK⟩ hE
       have hM:=hM.add hK hFr
       refine Zd hE Za ld rfl ?_; intro a hE
       obtain ⟨r58,e59,hl46⟩:=bind_some hl46
       refine Zt hE Za ld rfl cb89 (U0 _ r25 u27 (hM.ro (pre:=[_,_,_]) noB) r55 u57 (hM.sl (pre:=[]) noB) p4 r58 e59) ?_
       rintro u60 w a ⟨_,rfl,hFr,hK⟩ hE
       have hM:=hM.add hK hFr
       refine ZH hE hM Za ld ty66 fun b61 w a hM hE=>Zo (seg:=[u60]) (cs':=[u60]) hE hM Za rfl rfl (AL (hM.sl (pre:=[_]) noB)) ty66 rfl (Nat.le_of_eq ((Nat.zero_add _).trans rfl)) (Rep.cell (hM.sl (pre:=[_]) noB)) (Zr rfl) fun w a hM hE=>Zf (wp_seq (Zc (Zd hE Za ld rfl fun a hE=>Zi hE Za ld rfl rfl rfl fun a hE=>Zf ?_)))
       refine Zq hE rfl ?_ ?_
       ·intro hb63
        have hl46:=Zu hl46 hb63
        refine wp_region_lit (ZC (v:=u60) hE Za ld rfl ty66 rfl (hM.rawAt (pre:=[])) fun a hE=>Ze hE Za ld rfl fun a hE=>Zh (Zw (wp_region_lit (Zd hE Za ld rfl fun a hE=>KA hE Za ld rfl ?_)))); intro a hE
        obtain ⟨r64,e65,hl46⟩:=bind_some hl46
        refine Zt hE Za ld rfl cb91 (VT _ r58 u60 (hM.sl (pre:=[_]) noB) (fun z0=>ZN z0 r58) 92 [(ptr b61 0)] cb92 (fun w2 hk2 z0 zr zhr=>VA w2 z0 b61 r58 u60 (HO (hM.sl (pre:=[_]) noB) hk2) (Hh (hM.rawAt (pre:=[])) hk2 (by simp [cat])) (Ka (hM.rawAt (pre:=[])) hk2 (by simp [cat])) zr zhr) r64 e65) ?_
        rintro v w a ⟨hv,hK⟩ hE
        subst v
        have hM:=hM.keep hK
        refine Ze hE Za ld rfl fun a hE=>Zh (Z9 ?_)
        have ht66:=Option.some.inj hl46
        subst ht66
        refine Zj ?_
        have hM:=M.fst (l:=[_,_,_]) (((hM.pull (pre:=[_])).pull (pre:=[_,_,_,_,_])).pull (pre:=[_,_,_,_,_]))
        exact ⟨u60,hE.sub ⟨rfl,rfl,rfl,rfl,rfl,rfl,rfl,rfl,trivial⟩,hM⟩
       ·intro hb63
        have hl46:=Zv hl46 hb63
        refine wp_skip (Zw (wp_region_lit (Zd hE Za ld rfl fun a hE=>KA hE Za ld rfl ?_))); intro a hE
        have hM:=hM.pull (pre:=[_,_,_,_,_,_])
        have hM0:=hM
        obtain ⟨r67,e68,hl46⟩:=bind_some hl46
        refine Zt hE Za ld rfl cb91 (V2 _ _ _ _ s38.1 u39 (fun z0=>ZN z0 r58) 92 [(ptr b61 0)] cb92 (fun w2 hq2 z0 zr zhr=>by obtain ⟨_,_,hM⟩:=hq2; have hk2 : Kept (Old w2) w2 w2:=Kept.refl _ _; exact VA w2 z0 b61 r58 u60 (HO (hM.sl (pre:=[_,_]) noB) hk2) (Hh (hM.rawAt (pre:=[_])) hk2 (by simp [cat])) (Ka (hM.rawAt (pre:=[_])) hk2 (by simp [cat])) zr zhr) hM r67 e68) ?_
        rintro u69 w a ⟨_,rfl,hM⟩ hE
        refine Ze hE Za ld rfl fun a hE=>Zh (Z9 ?_)
        have ht70:=Option.some.inj hl46
        subst ht70
        refine Zj ?_
        have hM:=M.fst (l:=[_,_,_]) ((hM.pull (pre:=[_,_,_,_,_,_])).pull (pre:=[_,_,_,_,_,_]))
        exact ⟨u69,hE.sub ⟨rfl,rfl,rfl,rfl,rfl,rfl,rfl,rfl,trivial⟩,hM⟩
      ·skip
       rintro a w ⟨u48,hE,hM⟩
       refine wp_region_lit (Zi hE Za ld rfl rfl rfl fun a hE=>Zd hE Za ld rfl fun a hE=>Zh (Zj ?_))
       exact ⟨_,(ois hF47),u48,hE.sub ⟨rfl,rfl,rfl,rfl,rfl,rfl,rfl,rfl,trivial⟩,hM⟩
     ·intro hb44
      have hs41:=Zv hs41 hb44
      refine wp_exit (Zm (Zm (Yf ?_)))
      have ht71:=hx42 _ (ois hs41)
      subst ht71
      refine Zj ?_
      have hM:=M.fst (l:=[_]) (hM.pull (pre:=[_,_]))
      exact ⟨u39,hE.sub ⟨rfl,trivial⟩,hM⟩
    ·skip
     rintro a w ⟨u36,hE,hM⟩
     refine Zw (Zc (Zd hE Za ld rfl fun a hE=>Ze hE Za ld rfl fun a hE=>Ze hE Za ld rfl fun a hE=>Zf ?_))
     have hr:=Option.some.inj hF35
     subst hr
     exact wp_ret (UP hE rfl (Zs hE rfl) (Zs hE rfl) ⟨_,rfl,u36,rfl,hM.outF (Tn UM),hM.kept⟩)
def Vn (p0 : (List Int)) (p1 : (List Int)) (s6 : Int) : Option (Fl Int (Fl Unit Bool)) :=
 if (decide (s6 < (p0.length : Int))) = true then (((idx p0 s6).bind fun x15=>(idx p1 s6).bind fun x18=>some (x15 != x18) : Option (Bool)).bind fun j11=>if j11 = true then (some (Fl.ex (Fl.ex false))) else (some (Fl.nx (wr (s6 + 1))))) else (some (Fl.ex (Fl.nx ())))
def Xz (p0 : (List Int)) (p1 : (List Int)) : Option (Bool) :=
 if ((p0.length : Int) != (p1.length : Int)) = true then (some false) else ((ZE (Vn p0 p1) 0).bind fun j2=>j2.el (fun s5=>some true) (fun r=>some r))
theorem Um (w0 : World) (p0 : (List Int)) (v0_1 : Value) (hv0_1 : Ro w0 p0 [v0_1]) (p1 : (List Int)) (v1_1 : Value) (hv1_1 : Ro w0 p1 [v1_1]) (r : Bool) (hF : Xz p0 p1 = some r) :
  Calls Try.prog 37 [v0_1,v1_1].toArray w0 (fun en w'=>∃ v,en = .returned v ∧ (v = (vT r) ∧ Kept (Old w0) w0 w')):=by
 refine ZB (n:=26) Try.func37 rfl rfl (nbl rfl) rfl ?_
 intro a hE
 have hM:=M.start w0
 unfold Xz at hF
 refine Zc (Ze hE Za ld rfl fun a hE=>Zf (wp_seq (Zc (Zd hE Za ld rfl fun a hE=>Ws hE Za ld rfl Try.underlying66 (hM.rd hv0_1) fun a hE=>Zd hE Za ld rfl fun a hE=>Ws hE Za ld rfl Try.underlying66 (hM.rd hv1_1) fun a hE=>Zi hE Za ld rfl rfl rfl fun a hE=>Zf ?_))))
 refine Zq hE rfl ?_ ?_
 ·intro hb1
  have hF:=Zu hF hb1
  refine Zc (Ze hE Za ld rfl fun a hE=>Zf ?_)
  have hr:=Option.some.inj hF
  subst hr
  exact wp_ret (ZD (Zx hE rfl (Zs hE rfl) ⟨_,rfl,rfl,hM.kept⟩))
 ·intro hb1
  have hF:=Zv hF hb1
  refine wp_skip (Zw (wp_seq (Zc (Ze hE Za ld rfl fun a hE=>Zf ?_))))
  obtain ⟨j2,hl3,hF4⟩:=bind_some hF
  refine ZL (fun a w=>∃ s5 : Unit,j2 = Fl.nx s5 ∧ Env 26 a [] ∧ M (Old w0) w0 w []) ?_ ?_
  ·skip
   refine wp_block ?_
   refine ZF (fun (s6 : Int) a w=>Env 26 a [(0,v0_1),(1,v1_1),(5,vI s6)] ∧ M (Old w0) w0 w []) hl3 ⟨hE.sub ⟨rfl,rfl,rfl,trivial⟩,hM⟩ ?_
   rintro s6 a w ⟨hE,hM⟩ o9 hs7 hx8
   unfold Vn at hs7
   refine wp_seq (Zc (Zd hE Za ld rfl fun a hE=>Zd hE Za ld rfl fun a hE=>Ws hE Za ld rfl Try.underlying66 (hM.rd hv0_1) fun a hE=>Zi hE Za ld rfl rfl rfl fun a hE=>Zf ?_))
   refine Zq hE rfl ?_ ?_
   ·intro hb10
    have hs7:=Zu hs7 hb10
    refine wp_skip (Zw (wp_seq (wp_block ?_)))
    obtain ⟨j11,hl12,hF13⟩:=bind_some hs7
    refine ZM (fun a w=>Env 26 a [(0,v0_1),(1,v1_1),(5,vI s6),(25,vT j11)] ∧ M (Old w0) w0 w []) ?_ ?_
    ·skip
     obtain ⟨x15,hi17,hl12⟩:=bix hl12
     obtain ⟨x18,hi20,hl12⟩:=bix hl12
     refine YZ (n:=26) (hd:=[_,_,_,_,_,_,_,_,_]) (tl:=[]) Wl rfl rfl [17,18,19,20,21,22,23,24,25] (by decide) (fun w=>M (Old w0) w0 w []) (fun j=>([fun v _=>v = v0_1,fun v _=>v = (vI s6),fun v _=>v = (ptr (sb v0_1) (so v0_1 + (s6).toNat * 1)),fun v _=>v = (vI x15),fun v _=>v = v1_1,fun v _=>v = (vI s6),fun v _=>v = (ptr (sb v1_1) (so v1_1 + (s6).toNat * 1)),fun v _=>v = (vI x18),fun v _=>v = (vT (x15 != x18))] : List (Value → World → Prop)).getD j (fun _ _=>True)) (fun _ _ h hk=>h.keep hk) (gup (Zk (Zk (Zk (Zk (Zk (Zk (Zk (Zk (Zk V3)))))))))) hE hM.drew (ZQ (Zb ?_ (Zb ?_ (Zb ?_ (Zb ?_ (Zb ?_ (Zb ?_ (Zb ?_ (Zb ?_ (Zb ?_ ZJ)))))))))) ?_
     ·exact fun a w ux14 hE hM hp=>Zd hE Za ld rfl fun a hE=>⟨Kept.refl _ _,_,_,rfl,hE,rfl⟩
     ·exact fun a w ux14 hE hM hp=>Zd hE Za ld rfl fun a hE=>⟨Kept.refl _ _,_,_,rfl,hE,rfl⟩
     ·intro a w ux14 hE hM hp
      have f0 : ux14 0 = v0_1:=hp 0 _ rfl rfl
      have f1 : ux14 1 = (vI s6):=hp 1 _ rfl rfl
      exact Yk hE Za ld (lk rfl f0) (lk rfl f1) Try.underlying66 ty2 (hM.rd hv0_1) hi17.1 fun a hE=>⟨Kept.refl _ _,_,_,rfl,hE,rfl⟩
     ·intro a w ux14 hE hM hp
      have f2 : ux14 2 = (ptr (sb v0_1) (so v0_1 + (s6).toNat * 1)):=hp 0 _ rfl rfl
      exact ZC (v:=(vI x15)) hE Za ld (lk rfl f2) ty2 rfl (WD (hM.rd hv0_1) hi17.2) fun a hE=>⟨Kept.refl _ _,_,_,rfl,hE,rfl⟩
     ·exact fun a w ux14 hE hM hp=>Zd hE Za ld rfl fun a hE=>⟨Kept.refl _ _,_,_,rfl,hE,rfl⟩
     ·exact fun a w ux14 hE hM hp=>Zd hE Za ld rfl fun a hE=>⟨Kept.refl _ _,_,_,rfl,hE,rfl⟩
     ·intro a w ux14 hE hM hp
      have f4 : ux14 4 = v1_1:=hp 0 _ rfl rfl
      have f5 : ux14 5 = (vI s6):=hp 1 _ rfl rfl
      exact Yk hE Za ld (lk rfl f4) (lk rfl f5) Try.underlying66 ty2 (hM.rd hv1_1) hi20.1 fun a hE=>⟨Kept.refl _ _,_,_,rfl,hE,rfl⟩
     ·intro a w ux14 hE hM hp
      have f6 : ux14 6 = (ptr (sb v1_1) (so v1_1 + (s6).toNat * 1)):=hp 0 _ rfl rfl
      exact ZC (v:=(vI x18)) hE Za ld (lk rfl f6) ty2 rfl (WD (hM.rd hv1_1) hi20.2) fun a hE=>⟨Kept.refl _ _,_,_,rfl,hE,rfl⟩
     ·intro a w ux14 hE hM hp
      have f3 : ux14 3 = (vI x15):=hp 0 _ rfl rfl
      have f7 : ux14 7 = (vI x18):=hp 1 _ rfl rfl
      exact Zi hE Za ld (lk rfl f3) (lk rfl f7) rfl fun a hE=>⟨Kept.refl _ _,_,_,rfl,hE,rfl⟩
     ·intro a w ux14 hE hM hg
      have hE:=hE.sub (e':=[(25,(vT (x15 != x18))),(0,v0_1),(1,v1_1),(5,vI s6),(11,vI s6),(12,v0_1),(13,(vI (p0.length : Int))),(14,(vT (decide (s6 < (p0.length : Int)))))]) ⟨lk rfl (hg 8 (by decide)),rfl,rfl,rfl,rfl,rfl,rfl,rfl,trivial⟩
      refine Zh ?_
      have ht21:=Option.some.inj hl12
      subst ht21
      refine Zj ?_
      exact ⟨hE.sub ⟨rfl,rfl,rfl,rfl,trivial⟩,hM⟩
    ·skip
     rintro a w ⟨hE,hM⟩
     refine Zq hE rfl ?_ ?_
     ·intro hb22
      have hF13:=Zu hF13 hb22
      refine Zc (Ze hE Za ld rfl fun a hE=>Zf ?_)
      have ht23:=hx8 _ (ois hF13)
      subst ht23
      have hr:=Option.some.inj hF4
      subst hr
      exact wp_ret (YG (ZD (ZD (YG (ZD (ZD (Zx hE rfl (Zs hE rfl) ⟨_,rfl,rfl,hM.kept⟩)))))))
     ·intro hb22
      have hF13:=Zv hF13 hb22
      refine wp_skip (Z9 (Zw (wp_region_lit (Zd hE Za ld rfl fun a hE=>Zi hE Za ld rfl rfl rfl fun a hE=>Ze hE Za ld rfl fun a hE=>Zh (Zj ?_)))))
      exact ⟨_,(ois hF13),hE.sub ⟨rfl,rfl,rfl,trivial⟩,hM⟩
   ·intro hb10
    have hs7:=Zv hs7 hb10
    refine wp_exit (Zm (Zm (Yf ?_)))
    have ht24:=hx8 _ (ois hs7)
    subst ht24
    refine Zj ?_
    exact ⟨(),rfl,hE.sub trivial,hM⟩
  ·skip
   rintro a w ⟨s5,ht,hE,hM⟩
   subst ht
   have hF4:=Ur hF4
   refine Zw (Zc (Ze hE Za ld rfl fun a hE=>Zf ?_))
   have hr:=Option.some.inj hF4
   subst hr
   exact wp_ret (Zx hE rfl (Zs hE rfl) ⟨_,rfl,rfl,hM.kept⟩)
def VG (p0 : (Vector UInt8 16)) (p1 : (Vector UInt8 16)) (s9 : Int) : Option (Fl Int (Fl Unit Bool)) :=
 if (decide (s9 < 16)) = true then (((Zy p0 s9).bind fun x19=>(Zy p1 s9).bind fun x22=>some (x19 != x22) : Option (Bool)).bind fun j14=>if j14 = true then (some (Fl.ex (Fl.ex false))) else (some (Fl.nx (wr (s9 + 1))))) else (some (Fl.ex (Fl.nx ())))
def WB (p0 : (Vector UInt8 16)) (p1 : (Vector UInt8 16)) : Option (Bool) :=
 (ZE (VG p0 p1) 0).bind fun j5=>j5.el (fun s8=>some true) (fun r=>some r)
theorem KB (w0 : World) (p0 : (Vector UInt8 16)) (p1 : (Vector UInt8 16)) (r : Bool) (hF : WB p0 p1 = some r) :
  Calls Try.prog 94 [(Value.agg (enc p0).toArray),(Value.agg (enc p1).toArray)].toArray w0 (fun en w'=>∃ v,en = .returned v ∧ (v = (vT r) ∧ Kept (Old w0) w0 w')):=by
 refine ZB (n:=17) Try.func94 rfl rfl (nbl rfl) rfl ?_
 intro a hE
 have hM:=M.start w0
 unfold WB at hF
 refine Zc (ZZ (cs:=enc p0) hE hM Za ld rfl rfl fun b1 w a hM hE=>ZZ (cs:=enc p1) hE hM Za ld rfl rfl fun b3 w a hM hE=>Ze hE Za ld rfl fun a hE=>Zf (wp_seq (Zc (Ze hE Za ld rfl fun a hE=>Zf ?_))))
 obtain ⟨j5,hl6,hF7⟩:=bind_some hF
 refine ZL (fun a w=>∃ s8 : Unit,j5 = Fl.nx s8 ∧ Env 17 a [] ∧ M (Old w0) w0 w []) ?_ ?_
 ·skip
  refine wp_block ?_
  refine ZF (fun (s9 : Int) a w=>Env 17 a [(2,(ptr b1 0)),(3,(ptr b3 0)),(5,vI s9)] ∧ M (Old w0) w0 w [raw b3 (enc p1),raw b1 (enc p0)]) hl6 ⟨hE.sub ⟨rfl,rfl,rfl,trivial⟩,hM⟩ ?_
  rintro s9 a w ⟨hE,hM⟩ o12 hs10 hx11
  unfold VG at hs10
  refine wp_seq (Zc (Zd hE Za ld rfl fun a hE=>Zi hE Za ld rfl rfl rfl fun a hE=>Zf ?_))
  refine Zq hE rfl ?_ ?_
  ·intro hb13
   have hs10:=Zu hs10 hb13
   refine wp_skip (Zw (wp_seq (wp_block ?_)))
   obtain ⟨j14,hl15,hF16⟩:=bind_some hs10
   refine ZM (fun a w=>Env 17 a [(2,(ptr b1 0)),(3,(ptr b3 0)),(5,vI s9),(16,vT j14)] ∧ M (Old w0) w0 w [raw b3 (enc p1),raw b1 (enc p0)]) ?_ ?_
   ·skip
    obtain ⟨x19,hi18,hl15⟩:=bvx hl15
    obtain ⟨x22,hi21,hl15⟩:=bvx hl15
    refine YZ (n:=17) (hd:=[_,_,_,_,_,_,_]) (tl:=[]) Wl rfl rfl [10,11,12,13,14,15,16] (by decide) (fun w=>M (Old w0) w0 w [raw b3 (enc p1),raw b1 (enc p0)]) (fun j=>([fun v _=>v = (vI s9),fun v _=>v = (ptr b1 (0 + (s9).toNat * 1)),fun v _=>v = (vB x19),fun v _=>v = (vI s9),fun v _=>v = (ptr b3 (0 + (s9).toNat * 1)),fun v _=>v = (vB x22),fun v _=>v = (vT (x19 != x22))] : List (Value → World → Prop)).getD j (fun _ _=>True)) (fun _ _ h hk=>h.keep hk) (gup (Zk (Zk (Zk (Zk (Zk (Zk (Zk V3)))))))) hE hM.drew (ZQ (Zb ?_ (Zb ?_ (Zb ?_ (Zb ?_ (Zb ?_ (Zb ?_ (Zb ?_ ZJ)))))))) ?_
    ·exact fun a w ux17 hE hM hp=>Zd hE Za ld rfl fun a hE=>⟨Kept.refl _ _,_,_,rfl,hE,rfl⟩
    ·intro a w ux17 hE hM hp
     have f0 : ux17 0 = (vI s9):=hp 0 _ rfl rfl
     exact Zg hE Za ld rfl (lk rfl f0) Try.underlying55 ty5 hi18.1 fun a hE=>⟨Kept.refl _ _,_,_,rfl,hE,rfl⟩
    ·intro a w ux17 hE hM hp
     have f1 : ux17 1 = (ptr b1 (0 + (s9).toNat * 1)):=hp 0 _ rfl rfl
     exact ZC (v:=(vB x19)) hE Za ld (lk rfl f1) ty5 rfl (At.vec (hM.rawAt (pre:=[_])) hi18.2) fun a hE=>⟨Kept.refl _ _,_,_,rfl,hE,rfl⟩
    ·exact fun a w ux17 hE hM hp=>Zd hE Za ld rfl fun a hE=>⟨Kept.refl _ _,_,_,rfl,hE,rfl⟩
    ·intro a w ux17 hE hM hp
     have f3 : ux17 3 = (vI s9):=hp 0 _ rfl rfl
     exact Zg hE Za ld rfl (lk rfl f3) Try.underlying55 ty5 hi21.1 fun a hE=>⟨Kept.refl _ _,_,_,rfl,hE,rfl⟩
    ·intro a w ux17 hE hM hp
     have f4 : ux17 4 = (ptr b3 (0 + (s9).toNat * 1)):=hp 0 _ rfl rfl
     exact ZC (v:=(vB x22)) hE Za ld (lk rfl f4) ty5 rfl (At.vec (hM.rawAt (pre:=[])) hi21.2) fun a hE=>⟨Kept.refl _ _,_,_,rfl,hE,rfl⟩
    ·intro a w ux17 hE hM hp
     have f2 : ux17 2 = (vB x19):=hp 0 _ rfl rfl
     have f5 : ux17 5 = (vB x22):=hp 1 _ rfl rfl
     exact Zi hE Za ld (lk rfl f2) (lk rfl f5) (Ha x19 x22) fun a hE=>⟨Kept.refl _ _,_,_,rfl,hE,rfl⟩
    ·intro a w ux17 hE hM hg
     have hE:=hE.sub (e':=[(16,(vT (x19 != x22))),(2,(ptr b1 0)),(3,(ptr b3 0)),(5,vI s9),(6,vI s9),(7,(vT (decide (s9 < 16))))]) ⟨lk rfl (hg 6 (by decide)),rfl,rfl,rfl,rfl,rfl,trivial⟩
     refine Zh ?_
     have ht24:=Option.some.inj hl15
     subst ht24
     refine Zj ?_
     exact ⟨hE.sub ⟨rfl,rfl,rfl,rfl,trivial⟩,hM⟩
   ·skip
    rintro a w ⟨hE,hM⟩
    refine Zq hE rfl ?_ ?_
    ·intro hb25
     have hF16:=Zu hF16 hb25
     refine Zc (Ze hE Za ld rfl fun a hE=>Zf ?_)
     have ht26:=hx11 _ (ois hF16)
     subst ht26
     have hr:=Option.some.inj hF7
     subst hr
     have hM:=M.fst (l:=[]) hM
     exact wp_ret (YG (ZD (ZD (YG (ZD (ZD (Zx hE rfl (Zs hE rfl) ⟨_,rfl,rfl,hM.kept⟩)))))))
    ·intro hb25
     have hF16:=Zv hF16 hb25
     refine wp_skip (Z9 (Zw (wp_region_lit (Zd hE Za ld rfl fun a hE=>Zi hE Za ld rfl rfl rfl fun a hE=>Ze hE Za ld rfl fun a hE=>Zh (Zj ?_)))))
     exact ⟨_,(ois hF16),hE.sub ⟨rfl,rfl,rfl,trivial⟩,hM⟩
  ·intro hb13
   have hs10:=Zv hs10 hb13
   refine wp_exit (Zm (Zm (Yf ?_)))
   have ht27:=hx11 _ (ois hs10)
   subst ht27
   refine Zj ?_
   have hM:=M.fst (l:=[]) hM
   exact ⟨(),rfl,hE.sub trivial,hM⟩
 ·skip
  rintro a w ⟨s8,ht,hE,hM⟩
  subst ht
  have hF7:=Ur hF7
  refine Zw (Zc (Ze hE Za ld rfl fun a hE=>Zf ?_))
  have hr:=Option.some.inj hF7
  subst hr
  exact wp_ret (Zx hE rfl (Zs hE rfl) ⟨_,rfl,rfl,hM.kept⟩)
def Vp (p0 : (List (Vector UInt8 16))) (p1 : (List (Vector UInt8 16))) (s6 : Int) : Option (Fl Int (Fl Unit Bool)) :=
 if (decide (s6 < (p0.length : Int))) = true then (((idx p0 s6).bind fun x15=>(idx p1 s6).bind fun x18=>(WB x15 x18).bind fun r21=>some (!r21) : Option (Bool)).bind fun j11=>if j11 = true then (some (Fl.ex (Fl.ex false))) else (some (Fl.nx (wr (s6 + 1))))) else (some (Fl.ex (Fl.nx ())))
def WP (p0 : (List (Vector UInt8 16))) (p1 : (List (Vector UInt8 16))) : Option (Bool) :=
 if ((p0.length : Int) != (p1.length : Int)) = true then (some false) else ((ZE (Vp p0 p1) 0).bind fun j2=>j2.el (fun s5=>some true) (fun r=>some r))
theorem Kc (w0 : World) (p0 : (List (Vector UInt8 16))) (v0_1 : Value) (hv0_1 : Ro w0 p0 [v0_1]) (p1 : (List (Vector UInt8 16))) (v1_1 : Value) (hv1_1 : Ro w0 p1 [v1_1]) (r : Bool) (hF : WP p0 p1 = some r) :
  Calls Try.prog 38 [v0_1,v1_1].toArray w0 (fun en w'=>∃ v,en = .returned v ∧ (v = (vT r) ∧ Kept (Old w0) w0 w')):=by
 refine ZB (n:=27) Try.func38 rfl rfl (nbl rfl) rfl ?_
 intro a hE
 have hM:=M.start w0
 unfold WP at hF
 refine Zc (Ze hE Za ld rfl fun a hE=>Zf (wp_seq (Zc (Zd hE Za ld rfl fun a hE=>Ws hE Za ld rfl Try.underlying69 (hM.rd hv0_1) fun a hE=>Zd hE Za ld rfl fun a hE=>Ws hE Za ld rfl Try.underlying69 (hM.rd hv1_1) fun a hE=>Zi hE Za ld rfl rfl rfl fun a hE=>Zf ?_))))
 refine Zq hE rfl ?_ ?_
 ·intro hb1
  have hF:=Zu hF hb1
  refine Zc (Ze hE Za ld rfl fun a hE=>Zf ?_)
  have hr:=Option.some.inj hF
  subst hr
  exact wp_ret (ZD (Zx hE rfl (Zs hE rfl) ⟨_,rfl,rfl,hM.kept⟩))
 ·intro hb1
  have hF:=Zv hF hb1
  refine wp_skip (Zw (wp_seq (Zc (Ze hE Za ld rfl fun a hE=>Zf ?_))))
  obtain ⟨j2,hl3,hF4⟩:=bind_some hF
  refine ZL (fun a w=>∃ s5 : Unit,j2 = Fl.nx s5 ∧ Env 27 a [] ∧ M (Old w0) w0 w []) ?_ ?_
  ·skip
   refine wp_block ?_
   refine ZF (fun (s6 : Int) a w=>Env 27 a [(0,v0_1),(1,v1_1),(5,vI s6)] ∧ M (Old w0) w0 w []) hl3 ⟨hE.sub ⟨rfl,rfl,rfl,trivial⟩,hM⟩ ?_
   rintro s6 a w ⟨hE,hM⟩ o9 hs7 hx8
   unfold Vp at hs7
   refine wp_seq (Zc (Zd hE Za ld rfl fun a hE=>Zd hE Za ld rfl fun a hE=>Ws hE Za ld rfl Try.underlying69 (hM.rd hv0_1) fun a hE=>Zi hE Za ld rfl rfl rfl fun a hE=>Zf ?_))
   refine Zq hE rfl ?_ ?_
   ·intro hb10
    have hs7:=Zu hs7 hb10
    refine wp_skip (Zw (wp_seq (wp_block ?_)))
    obtain ⟨j11,hl12,hF13⟩:=bind_some hs7
    refine ZM (fun a w=>Env 27 a [(0,v0_1),(1,v1_1),(5,vI s6),(26,vT j11)] ∧ M (Old w0) w0 w []) ?_ ?_
    ·skip
     obtain ⟨x15,hi17,hl12⟩:=bix hl12
     obtain ⟨x18,hi20,hl12⟩:=bix hl12
     obtain ⟨r21,e22,hl12⟩:=bind_some hl12
     refine YZ (n:=27) (hd:=[_,_,_,_,_,_,_,_,_,_]) (tl:=[]) Wl rfl rfl [17,18,19,20,21,22,23,24,25,26] (by decide) (fun w=>M (Old w0) w0 w []) (fun j=>([fun v _=>v = v0_1,fun v _=>v = (vI s6),fun v _=>v = (ptr (sb v0_1) (so v0_1 + (s6).toNat * 16)),fun v _=>v = (Value.agg (enc x15).toArray),fun v _=>v = v1_1,fun v _=>v = (vI s6),fun v _=>v = (ptr (sb v1_1) (so v1_1 + (s6).toNat * 16)),fun v _=>v = (Value.agg (enc x18).toArray),fun v _=>v = (vT r21),fun v _=>v = (vT (!r21))] : List (Value → World → Prop)).getD j (fun _ _=>True)) (fun _ _ h hk=>h.keep hk) (gup (Zk (Zk (Zk (Zk (Zk (Zk (Zk (Zk (Zk (Zk V3))))))))))) hE hM.drew (ZQ (Zb ?_ (Zb ?_ (Zb ?_ (Zb ?_ (Zb ?_ (Zb ?_ (Zb ?_ (Zb ?_ (Zb ?_ (Zb ?_ ZJ))))))))))) ?_
     ·exact fun a w ux14 hE hM hp=>Zd hE Za ld rfl fun a hE=>⟨Kept.refl _ _,_,_,rfl,hE,rfl⟩
     ·exact fun a w ux14 hE hM hp=>Zd hE Za ld rfl fun a hE=>⟨Kept.refl _ _,_,_,rfl,hE,rfl⟩
     ·intro a w ux14 hE hM hp
      have f0 : ux14 0 = v0_1:=hp 0 _ rfl rfl
      have f1 : ux14 1 = (vI s6):=hp 1 _ rfl rfl
      exact Yk hE Za ld (lk rfl f0) (lk rfl f1) Try.underlying69 ZK (hM.rd hv0_1) hi17.1 fun a hE=>⟨Kept.refl _ _,_,_,rfl,hE,rfl⟩
     ·intro a w ux14 hE hM hp
      have f2 : ux14 2 = (ptr (sb v0_1) (so v0_1 + (s6).toNat * 16)):=hp 0 _ rfl rfl
      exact Zn (cs:=enc x15) hE Za ld (lk rfl f2) ZK rfl (WD (hM.rd hv0_1) hi17.2) (Flat.len _) fun a hE=>⟨Kept.refl _ _,_,_,rfl,hE,rfl⟩
     ·exact fun a w ux14 hE hM hp=>Zd hE Za ld rfl fun a hE=>⟨Kept.refl _ _,_,_,rfl,hE,rfl⟩
     ·exact fun a w ux14 hE hM hp=>Zd hE Za ld rfl fun a hE=>⟨Kept.refl _ _,_,_,rfl,hE,rfl⟩
     ·intro a w ux14 hE hM hp
      have f4 : ux14 4 = v1_1:=hp 0 _ rfl rfl
      have f5 : ux14 5 = (vI s6):=hp 1 _ rfl rfl
      exact Yk hE Za ld (lk rfl f4) (lk rfl f5) Try.underlying69 ZK (hM.rd hv1_1) hi20.1 fun a hE=>⟨Kept.refl _ _,_,_,rfl,hE,rfl⟩
     ·intro a w ux14 hE hM hp
      have f6 : ux14 6 = (ptr (sb v1_1) (so v1_1 + (s6).toNat * 16)):=hp 0 _ rfl rfl
      exact Zn (cs:=enc x18) hE Za ld (lk rfl f6) ZK rfl (WD (hM.rd hv1_1) hi20.2) (Flat.len _) fun a hE=>⟨Kept.refl _ _,_,_,rfl,hE,rfl⟩
     ·intro a w ux14 hE hM hp
      have f3 : ux14 3 = (Value.agg (enc x15).toArray):=hp 0 _ rfl rfl
      have f7 : ux14 7 = (Value.agg (enc x18).toArray):=hp 1 _ rfl rfl
      refine Zt hE Za ld (Yl (Z1 (lk rfl f3) (Z1 (lk rfl f7) W3))) cb94 (KB _ x15 x18 r21 e22) ?_
      rintro v w a ⟨rfl,hK⟩ hE
      exact ⟨hK,_,_,rfl,hE,rfl⟩
     ·intro a w ux14 hE hM hp
      have f8 : ux14 8 = (vT r21):=hp 0 _ rfl rfl
      exact Vf hE Za ld (lk rfl f8) fun a hE=>⟨Kept.refl _ _,_,_,rfl,hE,rfl⟩
     ·intro a w ux14 hE hM hg
      have hE:=hE.sub (e':=[(26,(vT (!r21))),(0,v0_1),(1,v1_1),(5,vI s6),(11,vI s6),(12,v0_1),(13,(vI (p0.length : Int))),(14,(vT (decide (s6 < (p0.length : Int)))))]) ⟨lk rfl (hg 9 (by decide)),rfl,rfl,rfl,rfl,rfl,rfl,rfl,trivial⟩
      refine Zh ?_
      have ht23:=Option.some.inj hl12
      subst ht23
      refine Zj ?_
      exact ⟨hE.sub ⟨rfl,rfl,rfl,rfl,trivial⟩,hM⟩
    ·skip
     rintro a w ⟨hE,hM⟩
     refine Zq hE rfl ?_ ?_
     ·intro hb24
      have hF13:=Zu hF13 hb24
      refine Zc (Ze hE Za ld rfl fun a hE=>Zf ?_)
      have ht25:=hx8 _ (ois hF13)
      subst ht25
      have hr:=Option.some.inj hF4
      subst hr
      exact wp_ret (YG (ZD (ZD (YG (ZD (ZD (Zx hE rfl (Zs hE rfl) ⟨_,rfl,rfl,hM.kept⟩)))))))
     ·intro hb24
      have hF13:=Zv hF13 hb24
      refine wp_skip (Z9 (Zw (wp_region_lit (Zd hE Za ld rfl fun a hE=>Zi hE Za ld rfl rfl rfl fun a hE=>Ze hE Za ld rfl fun a hE=>Zh (Zj ?_)))))
      exact ⟨_,(ois hF13),hE.sub ⟨rfl,rfl,rfl,trivial⟩,hM⟩
   ·intro hb10
    have hs7:=Zv hs7 hb10
    refine wp_exit (Zm (Zm (Yf ?_)))
    have ht26:=hx8 _ (ois hs7)
    subst ht26
    refine Zj ?_
    exact ⟨(),rfl,hE.sub trivial,hM⟩
  ·skip
   rintro a w ⟨s5,ht,hE,hM⟩
   subst ht
   have hF4:=Ur hF4
   refine Zw (Zc (Ze hE Za ld rfl fun a hE=>Zf ?_))
   have hr:=Option.some.inj hF4
   subst hr
   exact wp_ret (Zx hE rfl (Zs hE rfl) ⟨_,rfl,rfl,hM.kept⟩)
def WM (s4 : (List (Vector UInt8 16)) × Int × Int) (s12 : (List (Vector UInt8 16)) × Int × Int) : Option (Fl ((List (Vector UInt8 16)) × Int × Int) ((List (Vector UInt8 16)) × Int)) :=
 if (decide (s12.2.2 < 16)) = true then ((idx s12.1 s4.2.2).bind fun x17=>(Zy x17 s12.2.2).bind fun x21=>some (Fl.nx ((s12.1.set (s4.2.2).toNat (x17.setIfInBounds (s12.2.2).toNat (ZI s12.2.1))),wr (s12.2.1 + 1),wr (s12.2.2 + 1)))) else (some (Fl.ex (s12.1,s12.2.1)))
def Y6 (s4 : (List (Vector UInt8 16)) × Int × Int) : Option (Fl ((List (Vector UInt8 16)) × Int × Int) ((List (Vector UInt8 16)) × Int)) :=
 if (decide (s4.2.2 < (s4.1.length : Int))) = true then ((ZE (WM s4) (s4.1,s4.2.1,0)).bind fun j9=>some (Fl.nx (j9.1,j9.2,wr (s4.2.2 + 1)))) else (some (Fl.ex (s4.1,s4.2.1)))
def X9 (p0 : (List (Vector UInt8 16))) (p1 : Int) : Option ((List (Vector UInt8 16)) × Int) :=
 (ZE (Y6) (p0,p1,0)).bind fun j1=>some (j1.1,j1.2)
theorem T8 (St : Nat → Prop) (W w0 : World) (its : List Item) (p0 : (List (Vector UInt8 16))) (v0_1 : Value) (p1 : Int) (hM : M St W w0 (own NoB (p0 : (List (Vector UInt8 16))) [v0_1] :: its)) (r : (List (Vector UInt8 16)) × Int) (hF : X9 p0 p1 = some r) :
  Calls Try.prog 39 [v0_1,vI p1].toArray w0 (fun en w'=>∃ v,en = .returned v ∧ (v = (vI r.2) ∧ M St W w' (own NoB (r.1 : (List (Vector UInt8 16))) [v0_1] :: its))):=by
 refine ZB (n:=27) Try.func39 rfl rfl (nbl rfl) rfl ?_
 intro a hE
 unfold X9 at hF
 refine Zc (Ze hE Za ld rfl fun a hE=>Zf (wp_seq (Zc (Ze hE Za ld rfl fun a hE=>Zf ?_))))
 obtain ⟨j1,hl2,hF3⟩:=bind_some hF
 refine ZL (fun a w=>Env 27 a [(0,v0_1),(1,vI j1.2)] ∧ M St W w (own NoB (j1.1 : (List (Vector UInt8 16))) [v0_1] :: its)) ?_ ?_
 ·skip
  refine wp_block ?_
  refine ZF (fun (s4 : (List (Vector UInt8 16)) × Int × Int) a w=>Env 27 a [(0,v0_1),(1,vI s4.2.1),(5,vI s4.2.2)] ∧ M St W w (own NoB (s4.1 : (List (Vector UInt8 16))) [v0_1] :: its)) hl2 ⟨hE.sub ⟨rfl,rfl,rfl,trivial⟩,hM⟩ ?_
  rintro s4 a w ⟨hE,hM⟩ o7 hs5 hx6
  unfold Y6 at hs5
  refine wp_seq (Zc (Zd hE Za ld rfl fun a hE=>Zd hE Za ld rfl fun a hE=>Ws hE Za ld rfl Try.underlying69 (hM.ro (pre:=[]) noB) fun a hE=>Zi hE Za ld rfl rfl rfl fun a hE=>Zf ?_))
  refine Zq hE rfl ?_ ?_
  ·intro hb8
   have hs5:=Zu hs5 hb8
   refine wp_skip (Zw (wp_seq (wp_block (Zc (Ze hE Za ld rfl fun a hE=>Zf ?_)))))
   obtain ⟨j9,hl10,hF11⟩:=bind_some hs5
   refine ZL (fun a w=>Env 27 a [(0,v0_1),(1,vI j9.2),(5,vI s4.2.2)] ∧ M St W w (own NoB (j9.1 : (List (Vector UInt8 16))) [v0_1] :: its)) ?_ ?_
   ·skip
    refine wp_block ?_
    refine ZF (fun (s12 : (List (Vector UInt8 16)) × Int × Int) a w=>Env 27 a [(0,v0_1),(1,vI s12.2.1),(5,vI s4.2.2),(6,vI s12.2.2)] ∧ M St W w (own NoB (s12.1 : (List (Vector UInt8 16))) [v0_1] :: its)) hl10 ⟨hE.sub ⟨rfl,rfl,rfl,rfl,trivial⟩,hM⟩ ?_
    rintro s12 a w ⟨hE,hM⟩ o15 hs13 hx14
    unfold WM at hs13
    refine wp_seq (Zc (Zd hE Za ld rfl fun a hE=>Zi hE Za ld rfl rfl rfl fun a hE=>Zf ?_))
    refine Zq hE rfl ?_ ?_
    ·intro hb16
     have hs13:=Zu hs13 hb16
     refine wp_skip (Zw (wp_seq (wp_block (Zc (Zd hE Za ld rfl fun a hE=>Zd hE Za ld rfl fun a hE=>Zd hE Za ld rfl fun a hE=>Zd hE Za ld rfl fun a hE=>Vc hE Za ld rfl Try.underlying3 Try.underlying5 ?_))))); intro a hE
     rw [Xs] at hE
     obtain ⟨x17,hi19,hs13⟩:=bix hs13
     refine Yk hE Za ld rfl rfl Try.underlying69 ZK (hM.ro (pre:=[]) noB) hi19.1 ?_; intro a hE
     obtain ⟨x21,hi20,hs13⟩:=bvx hs13
     refine Zg hE Za ld rfl rfl Try.underlying55 ty5 hi20.1 ?_; intro a hE
     have hM:=hM.toOsl (List.getElem?_eq_some_iff.1 hi19.2).1
     refine Qo (i:=(s4.2.2).toNat) (k0:=0 + (s12.2.2).toNat * 1) (seg:=[(vB (ZI s12.2.1))]) (xo:=x17) (xn:=(x17.setIfInBounds (s12.2.2).toNat (ZI s12.2.1))) hE hM Za (zl rfl (by show _ = _ + _ * 16 + _; omega)) rfl rfl ty5 rfl (Flat.cell (ZI s12.2.1 : UInt8)) hi19.2 (AB (x:=ZI s12.2.1) hi20.1) (Zz (v:=x17) (x:=ZI s12.2.1) hi20.1) ?_; intro w a hM hE
     have hM:=hM.toOwn noB
     refine Zf (wp_region_lit (Zd hE Za ld rfl fun a hE=>Zi hE Za ld rfl rfl rfl fun a hE=>Ze hE Za ld rfl fun a hE=>Zh (Z9 (Zw (wp_region_lit (Zd hE Za ld rfl fun a hE=>Zi hE Za ld rfl rfl rfl fun a hE=>Ze hE Za ld rfl fun a hE=>Zh (Zj ?_)))))))
     exact ⟨_,(ois hs13),hE.sub ⟨rfl,rfl,rfl,rfl,trivial⟩,hM⟩
    ·intro hb16
     have hs13:=Zv hs13 hb16
     refine wp_exit (Zm (Zm (Yf ?_)))
     have ht23:=hx14 _ (ois hs13)
     subst ht23
     refine Zj ?_
     exact ⟨hE.sub ⟨rfl,rfl,rfl,trivial⟩,hM⟩
   ·skip
    rintro a w ⟨hE,hM⟩
    refine Z9 (Zw (wp_region_lit (Zd hE Za ld rfl fun a hE=>Zi hE Za ld rfl rfl rfl fun a hE=>Ze hE Za ld rfl fun a hE=>Zh (Zj ?_))))
    exact ⟨_,(ois hF11),hE.sub ⟨rfl,rfl,rfl,trivial⟩,hM⟩
  ·intro hb8
   have hs5:=Zv hs5 hb8
   refine wp_exit (Zm (Zm (Yf ?_)))
   have ht24:=hx6 _ (ois hs5)
   subst ht24
   refine Zj ?_
   exact ⟨hE.sub ⟨rfl,rfl,trivial⟩,hM⟩
 ·skip
  rintro a w ⟨hE,hM⟩
  refine Zw (Zc (Zd hE Za ld rfl fun a hE=>Ze hE Za ld rfl fun a hE=>Zf ?_))
  have hr:=Option.some.inj hF3
  subst hr
  exact wp_ret (Zx hE (by rfl) (Zs hE rfl) ⟨_,rfl,rfl,hM⟩)
def XR (s4 : (List Int) × Int × Int) : Option (Fl ((List Int) × Int × Int) ((List Int) × Int)) :=
 if (decide (s4.2.2 < (s4.1.length : Int))) = true then ((idx s4.1 s4.2.2).bind fun x9=>some (Fl.nx ((s4.1.set (s4.2.2).toNat s4.2.1),wr (s4.2.1 + 1),wr (s4.2.2 + 1)))) else (some (Fl.ex (s4.1,s4.2.1)))
def Wh (p0 : (List Int)) (p1 : Int) : Option ((List Int) × Int) :=
 (ZE (XR) (p0,p1,0)).bind fun j1=>some (j1.1,j1.2)
theorem Qq (St : Nat → Prop) (W w0 : World) (its : List Item) (p0 : (List Int)) (v0_1 : Value) (p1 : Int) (hM : M St W w0 (own NoB (p0 : (List Int)) [v0_1] :: its)) (r : (List Int) × Int) (hF : Wh p0 p1 = some r) :
  Calls Try.prog 40 [v0_1,vI p1].toArray w0 (fun en w'=>∃ v,en = .returned v ∧ (v = (vI r.2) ∧ M St W w' (own NoB (r.1 : (List Int)) [v0_1] :: its))):=by
 refine ZB (n:=19) Try.func40 rfl rfl (nbl rfl) rfl ?_
 intro a hE
 unfold Wh at hF
 refine Zc (Ze hE Za ld rfl fun a hE=>Zf (wp_seq (Zc (Ze hE Za ld rfl fun a hE=>Zf ?_))))
 obtain ⟨j1,hl2,hF3⟩:=bind_some hF
 refine ZL (fun a w=>Env 19 a [(0,v0_1),(1,vI j1.2)] ∧ M St W w (own NoB (j1.1 : (List Int)) [v0_1] :: its)) ?_ ?_
 ·skip
  refine wp_block ?_
  refine ZF (fun (s4 : (List Int) × Int × Int) a w=>Env 19 a [(0,v0_1),(1,vI s4.2.1),(5,vI s4.2.2)] ∧ M St W w (own NoB (s4.1 : (List Int)) [v0_1] :: its)) hl2 ⟨hE.sub ⟨rfl,rfl,rfl,trivial⟩,hM⟩ ?_
  rintro s4 a w ⟨hE,hM⟩ o7 hs5 hx6
  unfold XR at hs5
  refine wp_seq (Zc (Zd hE Za ld rfl fun a hE=>Zd hE Za ld rfl fun a hE=>Ws hE Za ld rfl Try.underlying66 (hM.ro (pre:=[]) noB) fun a hE=>Zi hE Za ld rfl rfl rfl fun a hE=>Zf ?_))
  refine Zq hE rfl ?_ ?_
  ·intro hb8
   have hs5:=Zu hs5 hb8
   refine wp_skip (Zw (wp_seq (wp_block (Zc (Zd hE Za ld rfl fun a hE=>Zd hE Za ld rfl fun a hE=>Zd hE Za ld rfl ?_))))); intro a hE
   obtain ⟨x9,hi11,hs5⟩:=bix hs5
   refine Yk hE Za ld rfl rfl Try.underlying66 ty2 (hM.ro (pre:=[]) noB) hi11.1 ?_; intro a hE
   have hM:=hM.toOsl (List.getElem?_eq_some_iff.1 hi11.2).1
   refine Qo (i:=(s4.2.2).toNat) (k0:=0) (seg:=[vI s4.2.1]) (xo:=x9) (xn:=s4.2.1) hE hM Za rfl rfl rfl ty2 rfl (Flat.cell (s4.2.1 : Int)) hi11.2 (JY (m:=1) rfl (by decide)) (Zr rfl) ?_; intro w a hM hE
   have hM:=hM.toOwn noB
   refine Zf (wp_region_lit (Zd hE Za ld rfl fun a hE=>Zi hE Za ld rfl rfl rfl fun a hE=>Ze hE Za ld rfl fun a hE=>Zh (Z9 (Zw (wp_region_lit (Zd hE Za ld rfl fun a hE=>Zi hE Za ld rfl rfl rfl fun a hE=>Ze hE Za ld rfl fun a hE=>Zh (Zj ?_)))))))
   exact ⟨_,(ois hs5),hE.sub ⟨rfl,rfl,rfl,trivial⟩,hM⟩
  ·intro hb8
   have hs5:=Zv hs5 hb8
   refine wp_exit (Zm (Zm (Yf ?_)))
   have ht12:=hx6 _ (ois hs5)
   subst ht12
   refine Zj ?_
   exact ⟨hE.sub ⟨rfl,rfl,trivial⟩,hM⟩
 ·skip
  rintro a w ⟨hE,hM⟩
  refine Zw (Zc (Zd hE Za ld rfl fun a hE=>Ze hE Za ld rfl fun a hE=>Zf ?_))
  have hr:=Option.some.inj hF3
  subst hr
  exact wp_ret (Zx hE (by rfl) (Zs hE rfl) ⟨_,rfl,rfl,hM⟩)
def XW (p0 : (List Int)) (s5 : Int × Int) : Option (Fl (Int × Int) (Fl Int Int)) :=
 if (decide (s5.2 < (p0.length : Int))) = true then ((idx p0 s5.2).bind fun x10=>if (x10 != s5.1) = true then (some (Fl.ex (Fl.ex (-1)))) else (some (Fl.nx (wr (s5.1 + 1),wr (s5.2 + 1))))) else (some (Fl.ex (Fl.nx s5.1)))
def Xv (p0 : (List Int)) (p1 : Int) : Option (Int) :=
 (ZE (XW p0) (p1,0)).bind fun j1=>j1.el (fun s4=>some s4) (fun r=>some r)
theorem UO (w0 : World) (p0 : (List Int)) (v0_1 : Value) (hv0_1 : Ro w0 p0 [v0_1]) (p1 : Int) (r : Int) (hF : Xv p0 p1 = some r) :
  Calls Try.prog 41 [v0_1,vI p1].toArray w0 (fun en w'=>∃ v,en = .returned v ∧ (v = (vI r) ∧ Kept (Old w0) w0 w')):=by
 refine ZB (n:=21) Try.func41 rfl rfl (nbl rfl) rfl ?_
 intro a hE
 have hM:=M.start w0
 unfold Xv at hF
 refine Zc (Ze hE Za ld rfl fun a hE=>Zf (wp_seq (Zc (Ze hE Za ld rfl fun a hE=>Zf ?_))))
 obtain ⟨j1,hl2,hF3⟩:=bind_some hF
 refine ZL (fun a w=>∃ s4 : Int,j1 = Fl.nx s4 ∧ Env 21 a [(1,vI s4)] ∧ M (Old w0) w0 w []) ?_ ?_
 ·skip
  refine wp_block ?_
  refine ZF (fun (s5 : Int × Int) a w=>Env 21 a [(0,v0_1),(1,vI s5.1),(5,vI s5.2)] ∧ M (Old w0) w0 w []) hl2 ⟨hE.sub ⟨rfl,rfl,rfl,trivial⟩,hM⟩ ?_
  rintro s5 a w ⟨hE,hM⟩ o8 hs6 hx7
  unfold XW at hs6
  refine wp_seq (Zc (Zd hE Za ld rfl fun a hE=>Zd hE Za ld rfl fun a hE=>Ws hE Za ld rfl Try.underlying66 (hM.rd hv0_1) fun a hE=>Zi hE Za ld rfl rfl rfl fun a hE=>Zf ?_))
  refine Zq hE rfl ?_ ?_
  ·intro hb9
   have hs6:=Zu hs6 hb9
   refine wp_skip (Zw (wp_seq (wp_block (wp_seq (Zc (Zd hE Za ld rfl fun a hE=>Zd hE Za ld rfl ?_)))))); intro a hE
   obtain ⟨x10,hi12,hs6⟩:=bix hs6
   refine Yk hE Za ld rfl rfl Try.underlying66 ty2 (hM.rd hv0_1) hi12.1 fun a hE=>ZC (v:=(vI x10)) hE Za ld rfl ty2 rfl (WD (hM.rd hv0_1) hi12.2) fun a hE=>Zd hE Za ld rfl fun a hE=>Zi hE Za ld rfl rfl rfl fun a hE=>Zf ?_
   refine Zq hE rfl ?_ ?_
   ·intro hb13
    have hs6:=Zu hs6 hb13
    refine Zc (Ze hE Za ld rfl fun a hE=>Zf ?_)
    have ht14:=hx7 _ (ois hs6)
    subst ht14
    have hr:=Option.some.inj hF3
    subst hr
    exact wp_ret (ZD (YG (ZD (ZD (YG (ZD (ZD (Zx hE rfl (Zs hE rfl) ⟨_,rfl,rfl,hM.kept⟩))))))))
   ·intro hb13
    have hs6:=Zv hs6 hb13
    refine wp_skip (Zw (wp_region_lit (Zd hE Za ld rfl fun a hE=>Zi hE Za ld rfl rfl rfl fun a hE=>Ze hE Za ld rfl fun a hE=>Zh (Z9 (Zw (wp_region_lit (Zd hE Za ld rfl fun a hE=>Zi hE Za ld rfl rfl rfl fun a hE=>Ze hE Za ld rfl fun a hE=>Zh (Zj ?_))))))))
    exact ⟨_,(ois hs6),hE.sub ⟨rfl,rfl,rfl,trivial⟩,hM⟩
  ·intro hb9
   have hs6:=Zv hs6 hb9
   refine wp_exit (Zm (Zm (Yf ?_)))
   have ht15:=hx7 _ (ois hs6)
   subst ht15
   refine Zj ?_
   exact ⟨s5.1,rfl,hE.sub ⟨rfl,trivial⟩,hM⟩
 ·skip
  rintro a w ⟨s4,ht,hE,hM⟩
  subst ht
  have hF3:=Ur hF3
  refine Zw (Zc (Zd hE Za ld rfl fun a hE=>Ze hE Za ld rfl fun a hE=>Zf ?_))
  have hr:=Option.some.inj hF3
  subst hr
  exact wp_ret (Zx hE rfl (Zs hE rfl) ⟨_,rfl,rfl,hM.kept⟩)
def Yz (p0 : GCipher) (p1 : (Vector UInt8 16)) (p2 : (List (Vector UInt8 16))) (p3 : Int) (p4 : Int) (p5 : Int) : Option (Bool) :=
 (X7 p2 1048576).bind fun r5=>if (decide (r5 < 0)) = true then (some true) else (((XA p0).bind fun r14=>(YJ p1).bind fun r16=>(YX p2).bind fun r18=>(YP r14 r16 r18 p3 p4 p5).bind fun r21=>some (r21.1,r21.2) : Option ((List Int) × Int)).bind fun j8=>(YX p2).bind fun r25=>((XA p0).bind fun r34=>(YJ p1).bind fun r36=>(Yw r34 r36 r25 p3 p4 p5).bind fun r38=>some (r38.1,r38.2) : Option ((List Int) × Int)).bind fun j28=>((Xz j28.1 j8.1).bind fun r45=>if (!r45) = true then (some true) else (some (j28.2 != j8.2)) : Option (Bool)).bind fun j42=>if j42 = true then (some false) else ((YX p2).bind fun r51=>(WP r25 r51).bind fun r54=>if (!r54) = true then (some false) else ((X9 r25 1).bind fun r57=>(if (decide (r57.2 < 0)) = true then (some true) else ((Xz j28.1 j8.1).bind fun r64=>if (!r64) = true then (some true) else (some (j28.2 != j8.2))) : Option (Bool)).bind fun j59=>if j59 = true then (some false) else ((Wh j28.1 1).bind fun r70=>(Xv r70.1 1).bind fun r72=>if (decide (r72 < 0)) = true then (some false) else (if (r72 != r70.2) = true then (some false) else (((XA p0).bind fun r82=>(YJ p1).bind fun r84=>(YX p2).bind fun r86=>(Yw r82 r84 r86 p3 p4 p5).bind fun r89=>some (r89.1,r89.2) : Option ((List Int) × Int)).bind fun j76=>((Xz j76.1 j8.1).bind fun r96=>if (!r96) = true then (some true) else (some (j76.2 != j8.2)) : Option (Bool)).bind fun j93=>if j93 = true then (some false) else ((Xv r70.1 1).bind fun r102=>if (decide (r102 < 0)) = true then (some false) else (if (r102 != r70.2) = true then (some false) else (some true)))))))))
theorem Ui (w0 : World) (p0 : GCipher) (p1 : (Vector UInt8 16)) (p2 : (List (Vector UInt8 16))) (v2_1 : Value) (hv2_1 : Ro w0 p2 [v2_1]) (p3 : Int) (p4 : Int) (p5 : Int) (r : Bool) (hF : Yz p0 p1 p2 p3 p4 p5 = some r) :
  Calls Try.prog 7 [(Value.agg (enc p0).toArray),(Value.agg (enc p1).toArray),v2_1,vI p3,vI p4,vI p5].toArray w0 (fun en w'=>∃ v,en = .returned v ∧ (v = (vT r) ∧ Kept (Old w0) w0 w')):=by
 refine ZB (n:=127) Try.func7 rfl rfl (nbl rfl) rfl ?_
 intro a hE
 have hM:=M.start w0
 unfold Yz at hF
 refine Zc (ZZ (cs:=cat [[vI p0.Field],enc p0.Box,enc p0.Mix,enc p0.Places,[vI p0.Rounds]]) hE hM Za ld rfl rfl fun b1 w a hM hE=>ZZ (cs:=enc p1) hE hM Za ld rfl rfl fun b3 w a hM hE=>Ze hE Za ld rfl fun a hE=>Zf (Zc (Ze hE Za ld rfl fun a hE=>Zf (Zc (Zd hE Za ld rfl fun a hE=>Zd hE Za ld rfl ?_))))); intro a hE
 obtain ⟨r5,e6,hF⟩:=bind_some hF
 refine Zt hE Za ld rfl cb33 (Kq _ p2 v2_1 (hM.rdo hv2_1) 1048576 r5 e6) ?_
 rintro v w a ⟨rfl,hK⟩ hE
 have hM:=hM.keep hK
 refine Ze hE Za ld rfl fun a hE=>Zf (wp_seq (Zc (Zd hE Za ld rfl fun a hE=>Zi hE Za ld rfl rfl rfl fun a hE=>Zf ?_)))
 refine Zq hE rfl ?_ ?_
 ·intro hb7
  have hF:=Zu hF hb7
  refine Zc (Ze hE Za ld rfl fun a hE=>Zf ?_)
  have hr:=Option.some.inj hF
  subst hr
  have hM:=M.fst (l:=[]) hM
  exact wp_ret (ZD (Zx hE rfl (Zs hE rfl) ⟨_,rfl,rfl,hM.kept⟩))
 ·intro hb7
  have hF:=Zv hF hb7
  refine wp_skip (Zw ?_)
  obtain ⟨j8,hl9,hF10⟩:=bind_some hF
  refine ZM (fun a w=>∃ (u11 : Value),Env 127 a [(2,v2_1),(3,vI p3),(4,vI p4),(5,vI p5),(6,(ptr b1 0)),(7,(ptr b3 0)),(14,u11),(15,vI j8.2)] ∧ M (Old w0) w0 w [raw b3 (enc p1),raw b1 (cat [[vI p0.Field],enc p0.Box,enc p0.Mix,enc p0.Places,[vI p0.Rounds]]),osl NoB (j8.1 : List Int) u11]) ?_ ?_
  ·skip
   obtain ⟨r14,e15,hl9⟩:=bind_some hl9
   obtain ⟨r16,e17,hl9⟩:=bind_some hl9
   obtain ⟨r18,e19,hl9⟩:=bind_some hl9
   obtain ⟨r21,e22,hl9⟩:=bind_some hl9
   refine Ut (n:=127) (hd:=[_,_,_,_,_,_,_,_,_,_,_,_,_,_]) (tl:=[_]) Wl rfl rfl [30,31,32,33,34,35,36,37,38,39,29,40,41,14] (by decide) (fun D u w=>M (Old w0) w0 w ([raw b3 (enc p1),raw b1 (cat [[vI p0.Field],enc p0.Box,enc p0.Mix,enc p0.Places,[vI p0.Rounds]])] ++ qL ([mkO 5 (fun v=>osl NoB (r18 : List (Vector UInt8 16)) v),mkO 9 (fun v=>osl NoB (r21.1 : List Int) (ZW v 0))] : Mk) D u) ∧ GOk ([([],fun us v=>v = (Value.agg (enc p0).toArray)),([],fun us v=>v = (Value.agg (enc r14).toArray)),([],fun us v=>v = (Value.agg (enc p1).toArray)),([],fun us v=>v = (Value.agg (enc r16).toArray)),([],fun us v=>v = v2_1),([],fun us v=>True),([],fun us v=>v = (vI p3)),([],fun us v=>v = (vI p4)),([],fun us v=>v = (vI p5)),([],fun us v=>v = (Value.tuple [(ZW v 0),vI r21.2].toArray)),([9],fun us v=>v = (Value.tuple [(ZW (us.getD 0 undef) 0),vI r21.2].toArray)),([9],fun us v=>v = (ZW (us.getD 0 undef) 0)),([],fun us v=>v = (vI r21.2)),([9],fun us v=>v = (ZW (us.getD 0 undef) 0))] : Gs) D u) hE (fun u=>⟨M.qE (M.qE (M.q0 hM.drew u) emO) emO,Hb⟩) (ZQ (Zb ?_ (Zb ?_ (Zb ?_ (Zb ?_ (Zb ?_ (Zb ?_ (Zb ?_ (Zb ?_ (Zb ?_ (Zb ?_ (Zb ?_ (Zb ?_ (Zb ?_ (Zb ?_ ZJ))))))))))))))) ?_
   ·intro a w ux13 D hE hI hD hdc hp
    have hM0:=hI.1
    have hM:=hI.1
    exact Zn (cs:=enc p0) hE Za ld rfl HL rfl (hM.rawAt (pre:=[_])) (YF (cl1 (n:=1) (m:=289) rfl (cl1 (n:=256) (m:=33) (Flat.len _) (cl1 (n:=16) (m:=17) (Flat.len _) (cl1 (n:=16) (m:=1) (Flat.len _) (cl1 (n:=1) (m:=0) rfl cl0)))))) fun a hE=>⟨_,_,rfl,hE,M.qKeep hM0 rfl,hI.2.put hD rfl ZO rfl⟩
   ·intro a w ux13 D hE hI hD hdc hp
    have d0 : D 0 = true:=hp 0 _ rfl rfl
    have g0:=hI.2 0 d0 _ rfl
    have f0 : ux13 0 = (Value.agg (enc p0).toArray):=g0.2
    have hM0:=hI.1
    refine Zt hE Za ld (Yl (Z1 (lk rfl f0) W3)) cb25 (Un _ p0 r14 e15) ?_
    rintro v w a ⟨rfl,hK⟩ hE
    exact ⟨_,_,rfl,hE,M.qKeep (hM0.keep hK) rfl,hI.2.put hD rfl ZO rfl⟩
   ·intro a w ux13 D hE hI hD hdc hp
    have hM0:=hI.1
    have hM:=hI.1
    exact Zn (cs:=enc p1) hE Za ld rfl H2 rfl (hM.rawAt (pre:=[])) (Flat.len _) fun a hE=>⟨_,_,rfl,hE,M.qKeep hM0 rfl,hI.2.put hD rfl ZO rfl⟩
   ·intro a w ux13 D hE hI hD hdc hp
    have d2 : D 2 = true:=hp 0 _ rfl rfl
    have g2:=hI.2 2 d2 _ rfl
    have f2 : ux13 2 = (Value.agg (enc p1).toArray):=g2.2
    have hM0:=hI.1
    refine Zt hE Za ld (Yl (Z1 (lk rfl f2) W3)) cb26 (VQ _ p1 r16 e17) ?_
    rintro v w a ⟨rfl,hK⟩ hE
    exact ⟨_,_,rfl,hE,M.qKeep (hM0.keep hK) rfl,hI.2.put hD rfl ZO rfl⟩
   ·intro a w ux13 D hE hI hD hdc hp
    have hM0:=hI.1
    exact Zd hE Za ld rfl fun a hE=>⟨_,_,rfl,hE,M.qKeep hM0 rfl,hI.2.put hD rfl ZO rfl⟩
   ·intro a w ux13 D hE hI hD hdc hp
    have d4 : D 4 = true:=hp 0 _ rfl rfl
    have g4:=hI.2 4 d4 _ rfl
    have f4 : ux13 4 = v2_1:=g4.2
    have hM0:=hI.1
    have hM:=hI.1
    refine Zt hE Za ld (Yl (Z1 (lk rfl f4) W3)) cb35 (VE _ p2 v2_1 (hM.rdo hv2_1) r18 e19) ?_
    rintro _ w a ⟨_,rfl,hFr,hK⟩ hE
    have hM:=hM0.add hK hFr
    exact ⟨_,_,rfl,hE,M.qFill (mk1:=[]) (mk2:=[_]) (f:=(fun v=>osl NoB (r18 : List (Vector UInt8 16)) v)) hM rfl hD,hI.2.put hD rfl ZO trivial⟩
   ·intro a w ux13 D hE hI hD hdc hp
    have hM0:=hI.1
    exact Zd hE Za ld rfl fun a hE=>⟨_,_,rfl,hE,M.qKeep hM0 rfl,hI.2.put hD rfl ZO rfl⟩
   ·intro a w ux13 D hE hI hD hdc hp
    have hM0:=hI.1
    exact Zd hE Za ld rfl fun a hE=>⟨_,_,rfl,hE,M.qKeep hM0 rfl,hI.2.put hD rfl ZO rfl⟩
   ·intro a w ux13 D hE hI hD hdc hp
    have hM0:=hI.1
    exact Zd hE Za ld rfl fun a hE=>⟨_,_,rfl,hE,M.qKeep hM0 rfl,hI.2.put hD rfl ZO rfl⟩
   ·intro a w ux13 D hE hI hD hdc hp
    have d1 : D 1 = true:=hp 0 _ rfl rfl
    have g1:=hI.2 1 d1 _ rfl
    have f1 : ux13 1 = (Value.agg (enc r14).toArray):=g1.2
    have d3 : D 3 = true:=hp 1 _ rfl rfl
    have g3:=hI.2 3 d3 _ rfl
    have f3 : ux13 3 = (Value.agg (enc r16).toArray):=g3.2
    have d5 : D 5 = true:=hp 2 _ rfl rfl
    have g5:=hI.2 5 d5 _ rfl
    have d6 : D 6 = true:=hp 3 _ rfl rfl
    have g6:=hI.2 6 d6 _ rfl
    have f6 : ux13 6 = (vI p3):=g6.2
    have d7 : D 7 = true:=hp 4 _ rfl rfl
    have g7:=hI.2 7 d7 _ rfl
    have f7 : ux13 7 = (vI p4):=g7.2
    have d8 : D 8 = true:=hp 5 _ rfl rfl
    have g8:=hI.2 8 d8 _ rfl
    have f8 : ux13 8 = (vI p5):=g8.2
    have hM0:=hI.1
    have hM:=hI.1.sure (pre:=[_,_]) d5
    refine Zt hE Za ld (Yl (Z1 (lk rfl f1) (Z1 (lk rfl f3) (Z1 rfl (Z1 (lk rfl f6) (Z1 (lk rfl f7) (Z1 (lk rfl f8) W3))))))) cb34 (U6 _ r14 r16 r18 (ux13 5) (hM.sl (pre:=[_,_]) noB) p3 p4 p5 r21 e22) ?_
    rintro _ w a ⟨u23,rfl,hFr,hK⟩ hE
    have hM:=hM0.add hK hFr
    exact ⟨_,_,rfl,hE,M.qFill (mk1:=[_]) (mk2:=[]) (f:=(fun v=>osl NoB (r21.1 : List Int) (ZW v 0))) hM rfl hD,hI.2.put hD rfl ZO rfl⟩
   ·intro a w ux13 D hE hI hD hdc hp
    have d9 : D 9 = true:=hp 0 _ rfl rfl
    have g9:=hI.2 9 d9 _ rfl
    have f9 : ux13 9 = (Value.tuple [(ZW (ux13 9) 0),vI r21.2].toArray):=g9.2
    have hM0:=hI.1
    exact Zd hE Za ld (lk rfl f9) fun a hE=>⟨_,_,rfl,hE,M.qKeep hM0 rfl,hI.2.put hD rfl (J9 d9 ZO) rfl⟩
   ·intro a w ux13 D hE hI hD hdc hp
    have d10 : D 10 = true:=hp 0 _ rfl rfl
    have g10:=hI.2 10 d10 _ rfl
    have d9 : D 9 = true:=g10.1 9 (show 9 ∈ [9] by decide)
    have f10 : ux13 10 = (Value.tuple [(ZW (ux13 9) 0),vI r21.2].toArray):=g10.2
    have hM0:=hI.1
    exact Xo hE Za ld (lk rfl f10) rfl fun a hE=>⟨_,_,rfl,hE,M.qKeep hM0 rfl,hI.2.put hD rfl (J9 d9 ZO) rfl⟩
   ·intro a w ux13 D hE hI hD hdc hp
    have d10 : D 10 = true:=hp 0 _ rfl rfl
    have g10:=hI.2 10 d10 _ rfl
    have d9 : D 9 = true:=g10.1 9 (show 9 ∈ [9] by decide)
    have f10 : ux13 10 = (Value.tuple [(ZW (ux13 9) 0),vI r21.2].toArray):=g10.2
    have hM0:=hI.1
    exact Xo hE Za ld (lk rfl f10) rfl fun a hE=>⟨_,_,rfl,hE,M.qKeep hM0 rfl,hI.2.put hD rfl ZO rfl⟩
   ·intro a w ux13 D hE hI hD hdc hp
    have d11 : D 11 = true:=hp 0 _ rfl rfl
    have g11:=hI.2 11 d11 _ rfl
    have d9 : D 9 = true:=g11.1 9 (show 9 ∈ [9] by decide)
    have f11 : ux13 11 = (ZW (ux13 9) 0):=g11.2
    have hM0:=hI.1
    exact Ze hE Za ld (lk rfl f11) fun a hE=>⟨_,_,rfl,hE,M.qKeep hM0 rfl,hI.2.put hD rfl (J9 d9 ZO) rfl⟩
   ·intro a w ux13 D hE hI hall
    have hM:=hI.1
    have d0 : D 0 = true:=hall 0 (by decide)
    have d1 : D 1 = true:=hall 1 (by decide)
    have d2 : D 2 = true:=hall 2 (by decide)
    have d3 : D 3 = true:=hall 3 (by decide)
    have d4 : D 4 = true:=hall 4 (by decide)
    have d5 : D 5 = true:=hall 5 (by decide)
    have d6 : D 6 = true:=hall 6 (by decide)
    have d7 : D 7 = true:=hall 7 (by decide)
    have d8 : D 8 = true:=hall 8 (by decide)
    have d9 : D 9 = true:=hall 9 (by decide)
    have d10 : D 10 = true:=hall 10 (by decide)
    have d11 : D 11 = true:=hall 11 (by decide)
    have d12 : D 12 = true:=hall 12 (by decide)
    have d13 : D 13 = true:=hall 13 (by decide)
    have f0 : ux13 0 = (Value.agg (enc p0).toArray):=(hI.2 0 d0 _ rfl).2
    have f1 : ux13 1 = (Value.agg (enc r14).toArray):=(hI.2 1 d1 _ rfl).2
    have f2 : ux13 2 = (Value.agg (enc p1).toArray):=(hI.2 2 d2 _ rfl).2
    have f3 : ux13 3 = (Value.agg (enc r16).toArray):=(hI.2 3 d3 _ rfl).2
    have f4 : ux13 4 = v2_1:=(hI.2 4 d4 _ rfl).2
    have f6 : ux13 6 = (vI p3):=(hI.2 6 d6 _ rfl).2
    have f7 : ux13 7 = (vI p4):=(hI.2 7 d7 _ rfl).2
    have f8 : ux13 8 = (vI p5):=(hI.2 8 d8 _ rfl).2
    have f9 : ux13 9 = (Value.tuple [(ZW (ux13 9) 0),vI r21.2].toArray):=(hI.2 9 d9 _ rfl).2
    have f10 : ux13 10 = (Value.tuple [(ZW (ux13 9) 0),vI r21.2].toArray):=(hI.2 10 d10 _ rfl).2
    have f11 : ux13 11 = (ZW (ux13 9) 0):=(hI.2 11 d11 _ rfl).2
    have f12 : ux13 12 = (vI r21.2):=(hI.2 12 d12 _ rfl).2
    have f13 : ux13 13 = (ZW (ux13 9) 0):=(hI.2 13 d13 _ rfl).2
    have hM:=(hM.sure (pre:=[_,_]) d5).sure (pre:=[_,_,_]) d9
    have hE:=hE.sub (e':=[(35,(ux13 5)),(41,vI r21.2),(14,(ZW (ux13 9) 0)),(2,v2_1),(3,vI p3),(4,vI p4),(5,vI p5),(6,(ptr b1 0)),(7,(ptr b3 0)),(12,vT false)]) ⟨rfl,lk rfl f12,lk rfl f13,rfl,rfl,rfl,rfl,rfl,rfl,rfl,trivial⟩
    refine Ze hE Za ld rfl fun a hE=>Zh ?_
    have ht24:=Option.some.inj hl9
    subst ht24
    refine Zj ?_
    have hM:=M.fst (l:=[_,_,_]) (((hM.pull (pre:=[_,_,_])).pull (pre:=[_,_])).pull (pre:=[_,_]))
    exact ⟨(ZW (ux13 9) 0),hE.sub ⟨rfl,rfl,rfl,rfl,rfl,rfl,rfl,rfl,trivial⟩,hM⟩
  ·skip
   rintro a w ⟨u11,hE,hM⟩
   refine Zc (Zd hE Za ld rfl ?_); intro a hE
   obtain ⟨r25,e26,hF10⟩:=bind_some hF10
   refine Zt hE Za ld rfl cb35 (VE _ p2 v2_1 (hM.rdo hv2_1) r25 e26) ?_
   rintro u27 w a ⟨_,rfl,hFr,hK⟩ hE
   have hM:=hM.add hK hFr
   refine Ze hE Za ld rfl fun a hE=>Zf ?_
   obtain ⟨j28,hl29,hF30⟩:=bind_some hF10
   refine ZM (fun a w=>∃ (u31 : Value),Env 127 a [(2,v2_1),(3,vI p3),(4,vI p4),(5,vI p5),(6,(ptr b1 0)),(7,(ptr b3 0)),(14,u11),(15,vI j8.2),(16,u27),(17,u31),(18,vI j28.2)] ∧ M (Old w0) w0 w [osl NoB (r25 : List (Vector UInt8 16)) u27,raw b3 (enc p1),raw b1 (cat [[vI p0.Field],enc p0.Box,enc p0.Mix,enc p0.Places,[vI p0.Rounds]]),osl NoB (j8.1 : List Int) u11,osl NoB (j28.1 : List Int) u31]) ?_ ?_
   ·skip
    obtain ⟨r34,e35,hl29⟩:=bind_some hl29
    obtain ⟨r36,e37,hl29⟩:=bind_some hl29
    obtain ⟨r38,e39,hl29⟩:=bind_some hl29
    refine Ut (n:=127) (hd:=[_,_,_,_,_,_,_,_,_,_,_,_,_]) (tl:=[_]) Wl rfl rfl [45,46,47,48,49,50,51,52,53,44,54,55,17] (by decide) (fun D u w=>M (Old w0) w0 w ([osl NoB (r25 : List (Vector UInt8 16)) u27,raw b3 (enc p1),raw b1 (cat [[vI p0.Field],enc p0.Box,enc p0.Mix,enc p0.Places,[vI p0.Rounds]]),osl NoB (j8.1 : List Int) u11] ++ qL ([mkO 8 (fun v=>osl NoB (r38.1 : List Int) (ZW v 0))] : Mk) D u) ∧ GOk ([([],fun us v=>v = (Value.agg (enc p0).toArray)),([],fun us v=>v = (Value.agg (enc r34).toArray)),([],fun us v=>v = (Value.agg (enc p1).toArray)),([],fun us v=>v = (Value.agg (enc r36).toArray)),([],fun us v=>v = u27),([],fun us v=>v = (vI p3)),([],fun us v=>v = (vI p4)),([],fun us v=>v = (vI p5)),([],fun us v=>v = (Value.tuple [(ZW v 0),vI r38.2].toArray)),([8],fun us v=>v = (Value.tuple [(ZW (us.getD 0 undef) 0),vI r38.2].toArray)),([8],fun us v=>v = (ZW (us.getD 0 undef) 0)),([],fun us v=>v = (vI r38.2)),([8],fun us v=>v = (ZW (us.getD 0 undef) 0))] : Gs) D u) hE (fun u=>⟨M.qE (M.q0 hM.drew u) emO,Hb⟩) (ZQ (Zb ?_ (Zb ?_ (Zb ?_ (Zb ?_ (Zb ?_ (Zb ?_ (Zb ?_ (Zb ?_ (Zb ?_ (Zb ?_ (Zb ?_ (Zb ?_ (Zb ?_ ZJ)))))))))))))) ?_
    ·intro a w ux33 D hE hI hD hdc hp
     have hM0:=hI.1
     have hM:=hI.1
     exact Zn (cs:=enc p0) hE Za ld rfl HL rfl (hM.rawAt (pre:=[_,_])) (YF (cl1 (n:=1) (m:=289) rfl (cl1 (n:=256) (m:=33) (Flat.len _) (cl1 (n:=16) (m:=17) (Flat.len _) (cl1 (n:=16) (m:=1) (Flat.len _) (cl1 (n:=1) (m:=0) rfl cl0)))))) fun a hE=>⟨_,_,rfl,hE,M.qKeep hM0 rfl,hI.2.put hD rfl ZO rfl⟩
    ·intro a w ux33 D hE hI hD hdc hp
     have d0 : D 0 = true:=hp 0 _ rfl rfl
     have g0:=hI.2 0 d0 _ rfl
     have f0 : ux33 0 = (Value.agg (enc p0).toArray):=g0.2
     have hM0:=hI.1
     refine Zt hE Za ld (Yl (Z1 (lk rfl f0) W3)) cb25 (Un _ p0 r34 e35) ?_
     rintro v w a ⟨rfl,hK⟩ hE
     exact ⟨_,_,rfl,hE,M.qKeep (hM0.keep hK) rfl,hI.2.put hD rfl ZO rfl⟩
    ·intro a w ux33 D hE hI hD hdc hp
     have hM0:=hI.1
     have hM:=hI.1
     exact Zn (cs:=enc p1) hE Za ld rfl H2 rfl (hM.rawAt (pre:=[_])) (Flat.len _) fun a hE=>⟨_,_,rfl,hE,M.qKeep hM0 rfl,hI.2.put hD rfl ZO rfl⟩
    ·intro a w ux33 D hE hI hD hdc hp
     have d2 : D 2 = true:=hp 0 _ rfl rfl
     have g2:=hI.2 2 d2 _ rfl
     have f2 : ux33 2 = (Value.agg (enc p1).toArray):=g2.2
     have hM0:=hI.1
     refine Zt hE Za ld (Yl (Z1 (lk rfl f2) W3)) cb26 (VQ _ p1 r36 e37) ?_
     rintro v w a ⟨rfl,hK⟩ hE
     exact ⟨_,_,rfl,hE,M.qKeep (hM0.keep hK) rfl,hI.2.put hD rfl ZO rfl⟩
    ·intro a w ux33 D hE hI hD hdc hp
     have hM0:=hI.1
     exact Zd hE Za ld rfl fun a hE=>⟨_,_,rfl,hE,M.qKeep hM0 rfl,hI.2.put hD rfl ZO rfl⟩
    ·intro a w ux33 D hE hI hD hdc hp
     have hM0:=hI.1
     exact Zd hE Za ld rfl fun a hE=>⟨_,_,rfl,hE,M.qKeep hM0 rfl,hI.2.put hD rfl ZO rfl⟩
    ·intro a w ux33 D hE hI hD hdc hp
     have hM0:=hI.1
     exact Zd hE Za ld rfl fun a hE=>⟨_,_,rfl,hE,M.qKeep hM0 rfl,hI.2.put hD rfl ZO rfl⟩
    ·intro a w ux33 D hE hI hD hdc hp
     have hM0:=hI.1
     exact Zd hE Za ld rfl fun a hE=>⟨_,_,rfl,hE,M.qKeep hM0 rfl,hI.2.put hD rfl ZO rfl⟩
    ·intro a w ux33 D hE hI hD hdc hp
     have d1 : D 1 = true:=hp 0 _ rfl rfl
     have g1:=hI.2 1 d1 _ rfl
     have f1 : ux33 1 = (Value.agg (enc r34).toArray):=g1.2
     have d3 : D 3 = true:=hp 1 _ rfl rfl
     have g3:=hI.2 3 d3 _ rfl
     have f3 : ux33 3 = (Value.agg (enc r36).toArray):=g3.2
     have d4 : D 4 = true:=hp 2 _ rfl rfl
     have g4:=hI.2 4 d4 _ rfl
     have f4 : ux33 4 = u27:=g4.2
     have d5 : D 5 = true:=hp 3 _ rfl rfl
     have g5:=hI.2 5 d5 _ rfl
     have f5 : ux33 5 = (vI p3):=g5.2
     have d6 : D 6 = true:=hp 4 _ rfl rfl
     have g6:=hI.2 6 d6 _ rfl
     have f6 : ux33 6 = (vI p4):=g6.2
     have d7 : D 7 = true:=hp 5 _ rfl rfl
     have g7:=hI.2 7 d7 _ rfl
     have f7 : ux33 7 = (vI p5):=g7.2
     have hM0:=hI.1
     have hM:=hI.1
     refine Zt hE Za ld (Yl (Z1 (lk rfl f1) (Z1 (lk rfl f3) (Z1 (lk rfl f4) (Z1 (lk rfl f5) (Z1 (lk rfl f6) (Z1 (lk rfl f7) W3))))))) cb36 (V0 _ r34 r36 r25 u27 (hM.sl (pre:=[]) noB) p3 p4 p5 r38 e39) ?_
     rintro _ w a ⟨u40,rfl,hFr,hK⟩ hE
     have hM:=hM0.add hK hFr
     exact ⟨_,_,rfl,hE,M.qFill (mk1:=[]) (mk2:=[]) (f:=(fun v=>osl NoB (r38.1 : List Int) (ZW v 0))) hM rfl hD,hI.2.put hD rfl ZO rfl⟩
    ·intro a w ux33 D hE hI hD hdc hp
     have d8 : D 8 = true:=hp 0 _ rfl rfl
     have g8:=hI.2 8 d8 _ rfl
     have f8 : ux33 8 = (Value.tuple [(ZW (ux33 8) 0),vI r38.2].toArray):=g8.2
     have hM0:=hI.1
     exact Zd hE Za ld (lk rfl f8) fun a hE=>⟨_,_,rfl,hE,M.qKeep hM0 rfl,hI.2.put hD rfl (J9 d8 ZO) rfl⟩
    ·intro a w ux33 D hE hI hD hdc hp
     have d9 : D 9 = true:=hp 0 _ rfl rfl
     have g9:=hI.2 9 d9 _ rfl
     have d8 : D 8 = true:=g9.1 8 (show 8 ∈ [8] by decide)
     have f9 : ux33 9 = (Value.tuple [(ZW (ux33 8) 0),vI r38.2].toArray):=g9.2
     have hM0:=hI.1
     exact Xo hE Za ld (lk rfl f9) rfl fun a hE=>⟨_,_,rfl,hE,M.qKeep hM0 rfl,hI.2.put hD rfl (J9 d8 ZO) rfl⟩
    ·intro a w ux33 D hE hI hD hdc hp
     have d9 : D 9 = true:=hp 0 _ rfl rfl
     have g9:=hI.2 9 d9 _ rfl
     have d8 : D 8 = true:=g9.1 8 (show 8 ∈ [8] by decide)
     have f9 : ux33 9 = (Value.tuple [(ZW (ux33 8) 0),vI r38.2].toArray):=g9.2
     have hM0:=hI.1
     exact Xo hE Za ld (lk rfl f9) rfl fun a hE=>⟨_,_,rfl,hE,M.qKeep hM0 rfl,hI.2.put hD rfl ZO rfl⟩
    ·intro a w ux33 D hE hI hD hdc hp
     have d10 : D 10 = true:=hp 0 _ rfl rfl
     have g10:=hI.2 10 d10 _ rfl
     have d8 : D 8 = true:=g10.1 8 (show 8 ∈ [8] by decide)
     have f10 : ux33 10 = (ZW (ux33 8) 0):=g10.2
     have hM0:=hI.1
     exact Ze hE Za ld (lk rfl f10) fun a hE=>⟨_,_,rfl,hE,M.qKeep hM0 rfl,hI.2.put hD rfl (J9 d8 ZO) rfl⟩
    ·intro a w ux33 D hE hI hall
     have hM:=hI.1
     have d0 : D 0 = true:=hall 0 (by decide)
     have d1 : D 1 = true:=hall 1 (by decide)
     have d2 : D 2 = true:=hall 2 (by decide)
     have d3 : D 3 = true:=hall 3 (by decide)
     have d4 : D 4 = true:=hall 4 (by decide)
     have d5 : D 5 = true:=hall 5 (by decide)
     have d6 : D 6 = true:=hall 6 (by decide)
     have d7 : D 7 = true:=hall 7 (by decide)
     have d8 : D 8 = true:=hall 8 (by decide)
     have d9 : D 9 = true:=hall 9 (by decide)
     have d10 : D 10 = true:=hall 10 (by decide)
     have d11 : D 11 = true:=hall 11 (by decide)
     have d12 : D 12 = true:=hall 12 (by decide)
     have f0 : ux33 0 = (Value.agg (enc p0).toArray):=(hI.2 0 d0 _ rfl).2
     have f1 : ux33 1 = (Value.agg (enc r34).toArray):=(hI.2 1 d1 _ rfl).2
     have f2 : ux33 2 = (Value.agg (enc p1).toArray):=(hI.2 2 d2 _ rfl).2
     have f3 : ux33 3 = (Value.agg (enc r36).toArray):=(hI.2 3 d3 _ rfl).2
     have f4 : ux33 4 = u27:=(hI.2 4 d4 _ rfl).2
     have f5 : ux33 5 = (vI p3):=(hI.2 5 d5 _ rfl).2
     have f6 : ux33 6 = (vI p4):=(hI.2 6 d6 _ rfl).2
     have f7 : ux33 7 = (vI p5):=(hI.2 7 d7 _ rfl).2
     have f8 : ux33 8 = (Value.tuple [(ZW (ux33 8) 0),vI r38.2].toArray):=(hI.2 8 d8 _ rfl).2
     have f9 : ux33 9 = (Value.tuple [(ZW (ux33 8) 0),vI r38.2].toArray):=(hI.2 9 d9 _ rfl).2
     have f10 : ux33 10 = (ZW (ux33 8) 0):=(hI.2 10 d10 _ rfl).2
     have f11 : ux33 11 = (vI r38.2):=(hI.2 11 d11 _ rfl).2
     have f12 : ux33 12 = (ZW (ux33 8) 0):=(hI.2 12 d12 _ rfl).2
     have hM:=hM.sure (pre:=[_,_,_,_]) d8
     have hE:=hE.sub (e':=[(55,vI r38.2),(17,(ZW (ux33 8) 0)),(2,v2_1),(3,vI p3),(4,vI p4),(5,vI p5),(6,(ptr b1 0)),(7,(ptr b3 0)),(14,u11),(15,vI j8.2),(16,u27)]) ⟨lk rfl f11,lk rfl f12,rfl,rfl,rfl,rfl,rfl,rfl,rfl,rfl,rfl,trivial⟩
     refine Ze hE Za ld rfl fun a hE=>Zh ?_
     have ht41:=Option.some.inj hl29
     subst ht41
     refine Zj ?_
     exact ⟨(ZW (ux33 8) 0),hE.sub ⟨rfl,rfl,rfl,rfl,rfl,rfl,rfl,rfl,rfl,rfl,rfl,trivial⟩,hM⟩
   ·skip
    rintro a w ⟨u31,hE,hM⟩
    refine wp_seq ?_
    obtain ⟨j42,hl43,hF44⟩:=bind_some hF30
    refine ZM (fun a w=>Env 127 a [(2,v2_1),(3,vI p3),(4,vI p4),(5,vI p5),(6,(ptr b1 0)),(7,(ptr b3 0)),(14,u11),(15,vI j8.2),(16,u27),(17,u31),(18,vI j28.2),(64,vT j42)] ∧ M (Old w0) w0 w [osl NoB (r25 : List (Vector UInt8 16)) u27,raw b3 (enc p1),raw b1 (cat [[vI p0.Field],enc p0.Box,enc p0.Mix,enc p0.Places,[vI p0.Rounds]]),osl NoB (j8.1 : List Int) u11,osl NoB (j28.1 : List Int) u31]) ?_ ?_
    ·skip
     refine wp_region_lit (Zd hE Za ld rfl fun a hE=>Zd hE Za ld rfl ?_); intro a hE
     obtain ⟨r45,e46,hl43⟩:=bind_some hl43
     refine Zt hE Za ld rfl cb37 (Um _ j28.1 u31 (hM.sl (pre:=[_,_,_,_]) noB) j8.1 u11 (hM.sl (pre:=[_,_,_]) noB) r45 e46) ?_
     rintro v w a ⟨rfl,hK⟩ hE
     have hM:=hM.keep hK
     refine Vf hE Za ld rfl fun a hE=>Zd hE Za ld rfl ?_; intro a hE
     refine Xh (!r45) (fun hb47=>?_) (fun hb47=>?_)
     ·have hl43:=Zu hl43 hb47
      refine Zp hE rfl (lkb rfl hb47) rfl (by decide) fun a hE=>Zp hE rfl (lkb rfl hb47) rfl (by decide) fun a hE=>Zp hE rfl (lkb rfl hb47) rfl (by decide) fun a hE=>Z0 hE Za ld (lkb rfl hb47) rfl fun a hE=>Zh ?_
      have ht48:=Option.some.inj hl43
      subst ht48
      refine Zj ?_
      exact ⟨hE.sub ⟨rfl,rfl,rfl,rfl,rfl,rfl,rfl,rfl,rfl,rfl,rfl,rfl,trivial⟩,hM⟩
     ·have hl43:=Zv hl43 hb47
      refine Zd hE (Zl hE rfl (lkb rfl hb47)) (by decide) rfl fun a hE=>Zd hE (Zl hE rfl (lkb rfl hb47)) (by decide) rfl fun a hE=>Zi hE (Zl hE rfl (lkb rfl hb47)) (by decide) rfl rfl rfl fun a hE=>Yb hE Za ld (lkb rfl hb47) rfl fun a hE=>Zh ?_
      have ht49:=Option.some.inj hl43
      subst ht49
      refine Zj ?_
      exact ⟨hE.sub ⟨rfl,rfl,rfl,rfl,rfl,rfl,rfl,rfl,rfl,rfl,rfl,rfl,trivial⟩,hM⟩
    ·skip
     rintro a w ⟨hE,hM⟩
     refine Zq hE rfl ?_ ?_
     ·intro hb50
      have hF44:=Zu hF44 hb50
      refine Zc (Ze hE Za ld rfl fun a hE=>Zf ?_)
      have hr:=Option.some.inj hF44
      subst hr
      have hM:=M.fst (l:=[]) hM
      exact wp_ret (ZD (Zx hE rfl (Zs hE rfl) ⟨_,rfl,rfl,hM.kept⟩))
     ·intro hb50
      have hF44:=Zv hF44 hb50
      refine wp_skip (Zw (wp_seq (Zc (Zd hE Za ld rfl fun a hE=>Zd hE Za ld rfl ?_)))); intro a hE
      obtain ⟨r51,e52,hF44⟩:=bind_some hF44
      refine Zt hE Za ld rfl cb35 (VE _ p2 v2_1 (hM.rdo hv2_1) r51 e52) ?_
      rintro u53 w a ⟨_,rfl,hFr,hK⟩ hE
      have hM:=hM.add hK hFr
      obtain ⟨r54,e55,hF44⟩:=bind_some hF44
      refine Zt hE Za ld rfl cb38 (Kc _ r25 u27 (hM.sl (pre:=[_]) noB) r51 u53 (hM.sl (pre:=[]) noB) r54 e55) ?_
      rintro v w a ⟨rfl,hK⟩ hE
      have hM:=hM.keep hK
      refine Vf hE Za ld rfl fun a hE=>Zf ?_
      refine Zq hE rfl ?_ ?_
      ·intro hb56
       have hF44:=Zu hF44 hb56
       refine Zc (Ze hE Za ld rfl fun a hE=>Zf ?_)
       have hr:=Option.some.inj hF44
       subst hr
       have hM:=M.fst (l:=[]) hM
       exact wp_ret (ZD (Zx hE rfl (Zs hE rfl) ⟨_,rfl,rfl,hM.kept⟩))
      ·intro hb56
       have hF44:=Zv hF44 hb56
       refine wp_skip (Zw (Zc (Ze hE Za ld rfl fun a hE=>Zf (Zc (Zd hE Za ld rfl fun a hE=>Zd hE Za ld rfl ?_))))); intro a hE
       have hM:=(hM.pull (pre:=[_])).toOwn noB
       obtain ⟨r57,e58,hF44⟩:=bind_some hF44
       refine Zt hE Za ld rfl cb39 (T8 _ _ _ _ r25 u27 1 hM r57 e58) ?_
       rintro v w a ⟨rfl,hM⟩ hE
       refine Ze hE Za ld rfl fun a hE=>Zf (wp_seq ?_)
       obtain ⟨j59,hl60,hF61⟩:=bind_some hF44
       refine ZM (fun a w=>Env 127 a [(2,v2_1),(3,vI p3),(4,vI p4),(5,vI p5),(6,(ptr b1 0)),(7,(ptr b3 0)),(14,u11),(15,vI j8.2),(17,u31),(85,vT j59)] ∧ M (Old w0) w0 w [raw b3 (enc p1),raw b1 (cat [[vI p0.Field],enc p0.Box,enc p0.Mix,enc p0.Places,[vI p0.Rounds]]),osl NoB (j8.1 : List Int) u11,osl NoB (j28.1 : List Int) u31]) ?_ ?_
       ·skip
        refine wp_region_lit (Zd hE Za ld rfl fun a hE=>Zi hE Za ld rfl rfl rfl fun a hE=>Zd hE Za ld rfl ?_); intro a hE
        refine Xh (decide (r57.2 < 0)) (fun hb62=>?_) (fun hb62=>?_)
        ·have hl60:=Zu hl60 hb62
         refine Zp hE rfl (lkb rfl hb62) rfl (by decide) fun a hE=>Zp hE rfl (lkb rfl hb62) rfl (by decide) fun a hE=>Zp hE rfl (lkb rfl hb62) rfl (by decide) fun a hE=>Zp hE rfl (lkb rfl hb62) rfl (by decide) fun a hE=>Z0 hE Za ld (lkb rfl hb62) rfl fun a hE=>Zd hE Za ld rfl fun a hE=>Zp hE rfl rfl rfl (by decide) fun a hE=>Zp hE rfl rfl rfl (by decide) fun a hE=>Zp hE rfl rfl rfl (by decide) fun a hE=>Z0 hE Za ld rfl rfl fun a hE=>Zh ?_
         have ht63:=Option.some.inj hl60
         subst ht63
         refine Zj ?_
         have hM:=M.fst (l:=[_,_,_,_]) ((((hM.pull (pre:=[_,_,_,_,_])).pull (pre:=[_,_,_,_,_])).pull (pre:=[_,_,_,_,_])).pull (pre:=[_,_,_,_,_]))
         exact ⟨hE.sub ⟨rfl,rfl,rfl,rfl,rfl,rfl,rfl,rfl,rfl,rfl,trivial⟩,hM⟩
        ·have hl60:=Zv hl60 hb62
         refine Zd hE (Zl hE rfl (lkb rfl hb62)) (by decide) rfl fun a hE=>Zd hE (Zl hE rfl (lkb rfl hb62)) (by decide) rfl ?_; intro a hE
         obtain ⟨r64,e65,hl60⟩:=bind_some hl60
         refine Zt hE (Zl hE rfl (lkb rfl hb62)) (by decide) rfl cb37 (Um _ j28.1 u31 (hM.sl (pre:=[_,_,_,_,_]) noB) j8.1 u11 (hM.sl (pre:=[_,_,_,_]) noB) r64 e65) ?_
         rintro v w a ⟨rfl,hK⟩ hE
         have hM:=hM.keep hK
         refine Vf hE (Zl hE rfl (lkb rfl hb62)) (by decide) rfl fun a hE=>Yb hE Za ld (lkb rfl hb62) rfl fun a hE=>Zd hE Za ld rfl ?_; intro a hE
         refine Xh (!r64) (fun hb66=>?_) (fun hb66=>?_)
         ·have hl60:=Zu hl60 hb66
          refine Zp hE rfl (lkb rfl hb66) rfl (by decide) fun a hE=>Zp hE rfl (lkb rfl hb66) rfl (by decide) fun a hE=>Zp hE rfl (lkb rfl hb66) rfl (by decide) fun a hE=>Z0 hE Za ld (lkb rfl hb66) rfl fun a hE=>Zh ?_
          have ht67:=Option.some.inj hl60
          subst ht67
          refine Zj ?_
          have hM:=M.fst (l:=[_,_,_,_]) ((((hM.pull (pre:=[_,_,_,_,_])).pull (pre:=[_,_,_,_,_])).pull (pre:=[_,_,_,_,_])).pull (pre:=[_,_,_,_,_]))
          exact ⟨hE.sub ⟨rfl,rfl,rfl,rfl,rfl,rfl,rfl,rfl,rfl,rfl,trivial⟩,hM⟩
         ·have hl60:=Zv hl60 hb66
          refine Zd hE (Zl hE rfl (lkb rfl hb66)) (by decide) rfl fun a hE=>Zd hE (Zl hE rfl (lkb rfl hb66)) (by decide) rfl fun a hE=>Zi hE (Zl hE rfl (lkb rfl hb66)) (by decide) rfl rfl rfl fun a hE=>Yb hE Za ld (lkb rfl hb66) rfl fun a hE=>Zh ?_
          have ht68:=Option.some.inj hl60
          subst ht68
          refine Zj ?_
          have hM:=M.fst (l:=[_,_,_,_]) ((((hM.pull (pre:=[_,_,_,_,_])).pull (pre:=[_,_,_,_,_])).pull (pre:=[_,_,_,_,_])).pull (pre:=[_,_,_,_,_]))
          exact ⟨hE.sub ⟨rfl,rfl,rfl,rfl,rfl,rfl,rfl,rfl,rfl,rfl,trivial⟩,hM⟩
       ·skip
        rintro a w ⟨hE,hM⟩
        refine Zq hE rfl ?_ ?_
        ·intro hb69
         have hF61:=Zu hF61 hb69
         refine Zc (Ze hE Za ld rfl fun a hE=>Zf ?_)
         have hr:=Option.some.inj hF61
         subst hr
         have hM:=M.fst (l:=[]) hM
         exact wp_ret (ZD (Zx hE rfl (Zs hE rfl) ⟨_,rfl,rfl,hM.kept⟩))
        ·intro hb69
         have hF61:=Zv hF61 hb69
         refine wp_skip (Zw (Zc (Ze hE Za ld rfl fun a hE=>Zf (Zc (Zd hE Za ld rfl fun a hE=>Zd hE Za ld rfl ?_))))); intro a hE
         have hM:=(hM.pull (pre:=[_,_,_])).toOwn noB
         obtain ⟨r70,e71,hF61⟩:=bind_some hF61
         refine Zt hE Za ld rfl cb40 (Qq _ _ _ _ j28.1 u31 1 hM r70 e71) ?_
         rintro v w a ⟨rfl,hM⟩ hE
         refine Ze hE Za ld rfl fun a hE=>Zf (Zc (Ze hE Za ld rfl fun a hE=>Zf (Zc (Zd hE Za ld rfl fun a hE=>Zd hE Za ld rfl ?_)))); intro a hE
         obtain ⟨r72,e73,hF61⟩:=bind_some hF61
         refine Zt hE Za ld rfl cb41 (UO _ r70.1 u31 (hM.ro (pre:=[]) noB) 1 r72 e73) ?_
         rintro v w a ⟨rfl,hK⟩ hE
         have hM:=hM.keep hK
         refine Ze hE Za ld rfl fun a hE=>Zf (wp_seq (Zc (Zd hE Za ld rfl fun a hE=>Zi hE Za ld rfl rfl rfl fun a hE=>Zf ?_)))
         refine Zq hE rfl ?_ ?_
         ·intro hb74
          have hF61:=Zu hF61 hb74
          refine Zc (Ze hE Za ld rfl fun a hE=>Zf ?_)
          have hr:=Option.some.inj hF61
          subst hr
          have hM:=M.fst (l:=[]) hM
          exact wp_ret (ZD (Zx hE rfl (Zs hE rfl) ⟨_,rfl,rfl,hM.kept⟩))
         ·intro hb74
          have hF61:=Zv hF61 hb74
          refine wp_skip (Zw (wp_seq (Zc (Zd hE Za ld rfl fun a hE=>Zd hE Za ld rfl fun a hE=>Zi hE Za ld rfl rfl rfl fun a hE=>Zf ?_))))
          refine Zq hE rfl ?_ ?_
          ·intro hb75
           have hF61:=Zu hF61 hb75
           refine Zc (Ze hE Za ld rfl fun a hE=>Zf ?_)
           have hr:=Option.some.inj hF61
           subst hr
           have hM:=M.fst (l:=[]) hM
           exact wp_ret (ZD (Zx hE rfl (Zs hE rfl) ⟨_,rfl,rfl,hM.kept⟩))
          ·intro hb75
           have hF61:=Zv hF61 hb75
           refine wp_skip (Zw ?_)
           obtain ⟨j76,hl77,hF78⟩:=bind_some hF61
           refine ZM (fun a w=>∃ (u79 : Value),Env 127 a [(14,u11),(15,vI j8.2),(17,u31),(20,vI r70.2),(22,u79),(23,vI j76.2)] ∧ M (Old w0) w0 w [own NoB (r70.1 : (List Int)) [u31],osl NoB (j8.1 : List Int) u11,osl NoB (j76.1 : List Int) u79]) ?_ ?_
           ·skip
            obtain ⟨r82,e83,hl77⟩:=bind_some hl77
            obtain ⟨r84,e85,hl77⟩:=bind_some hl77
            obtain ⟨r86,e87,hl77⟩:=bind_some hl77
            obtain ⟨r89,e90,hl77⟩:=bind_some hl77
            refine Ut (n:=127) (hd:=[_,_,_,_,_,_,_,_,_,_,_,_,_,_]) (tl:=[_]) Wl rfl rfl [98,99,100,101,102,103,104,105,106,107,97,108,109,22] (by decide) (fun D u w=>M (Old w0) w0 w ([own NoB (r70.1 : (List Int)) [u31],raw b3 (enc p1),raw b1 (cat [[vI p0.Field],enc p0.Box,enc p0.Mix,enc p0.Places,[vI p0.Rounds]]),osl NoB (j8.1 : List Int) u11] ++ qL ([mkO 5 (fun v=>osl NoB (r86 : List (Vector UInt8 16)) v),mkO 9 (fun v=>osl NoB (r89.1 : List Int) (ZW v 0))] : Mk) D u) ∧ GOk ([([],fun us v=>v = (Value.agg (enc p0).toArray)),([],fun us v=>v = (Value.agg (enc r82).toArray)),([],fun us v=>v = (Value.agg (enc p1).toArray)),([],fun us v=>v = (Value.agg (enc r84).toArray)),([],fun us v=>v = v2_1),([],fun us v=>True),([],fun us v=>v = (vI p3)),([],fun us v=>v = (vI p4)),([],fun us v=>v = (vI p5)),([],fun us v=>v = (Value.tuple [(ZW v 0),vI r89.2].toArray)),([9],fun us v=>v = (Value.tuple [(ZW (us.getD 0 undef) 0),vI r89.2].toArray)),([9],fun us v=>v = (ZW (us.getD 0 undef) 0)),([],fun us v=>v = (vI r89.2)),([9],fun us v=>v = (ZW (us.getD 0 undef) 0))] : Gs) D u) hE (fun u=>⟨M.qE (M.qE (M.q0 hM.drew u) emO) emO,Hb⟩) (ZQ (Zb ?_ (Zb ?_ (Zb ?_ (Zb ?_ (Zb ?_ (Zb ?_ (Zb ?_ (Zb ?_ (Zb ?_ (Zb ?_ (Zb ?_ (Zb ?_ (Zb ?_ (Zb ?_ ZJ))))))))))))))) ?_
            ·intro a w ux81 D hE hI hD hdc hp
             have hM0:=hI.1
             have hM:=hI.1
             exact Zn (cs:=enc p0) hE Za ld rfl HL rfl (hM.rawAt (pre:=[_,_])) (YF (cl1 (n:=1) (m:=289) rfl (cl1 (n:=256) (m:=33) (Flat.len _) (cl1 (n:=16) (m:=17) (Flat.len _) (cl1 (n:=16) (m:=1) (Flat.len _) (cl1 (n:=1) (m:=0) rfl cl0)))))) fun a hE=>⟨_,_,rfl,hE,M.qKeep hM0 rfl,hI.2.put hD rfl ZO rfl⟩
            ·intro a w ux81 D hE hI hD hdc hp
             have d0 : D 0 = true:=hp 0 _ rfl rfl
             have g0:=hI.2 0 d0 _ rfl
             have f0 : ux81 0 = (Value.agg (enc p0).toArray):=g0.2
             have hM0:=hI.1
             refine Zt hE Za ld (Yl (Z1 (lk rfl f0) W3)) cb25 (Un _ p0 r82 e83) ?_
             rintro v w a ⟨rfl,hK⟩ hE
             exact ⟨_,_,rfl,hE,M.qKeep (hM0.keep hK) rfl,hI.2.put hD rfl ZO rfl⟩
            ·intro a w ux81 D hE hI hD hdc hp
             have hM0:=hI.1
             have hM:=hI.1
             exact Zn (cs:=enc p1) hE Za ld rfl H2 rfl (hM.rawAt (pre:=[_])) (Flat.len _) fun a hE=>⟨_,_,rfl,hE,M.qKeep hM0 rfl,hI.2.put hD rfl ZO rfl⟩
            ·intro a w ux81 D hE hI hD hdc hp
             have d2 : D 2 = true:=hp 0 _ rfl rfl
             have g2:=hI.2 2 d2 _ rfl
             have f2 : ux81 2 = (Value.agg (enc p1).toArray):=g2.2
             have hM0:=hI.1
             refine Zt hE Za ld (Yl (Z1 (lk rfl f2) W3)) cb26 (VQ _ p1 r84 e85) ?_
             rintro v w a ⟨rfl,hK⟩ hE
             exact ⟨_,_,rfl,hE,M.qKeep (hM0.keep hK) rfl,hI.2.put hD rfl ZO rfl⟩
            ·intro a w ux81 D hE hI hD hdc hp
             have hM0:=hI.1
             exact Zd hE Za ld rfl fun a hE=>⟨_,_,rfl,hE,M.qKeep hM0 rfl,hI.2.put hD rfl ZO rfl⟩
            ·intro a w ux81 D hE hI hD hdc hp
             have d4 : D 4 = true:=hp 0 _ rfl rfl
             have g4:=hI.2 4 d4 _ rfl
             have f4 : ux81 4 = v2_1:=g4.2
             have hM0:=hI.1
             have hM:=hI.1
             refine Zt hE Za ld (Yl (Z1 (lk rfl f4) W3)) cb35 (VE _ p2 v2_1 (hM.rdo hv2_1) r86 e87) ?_
             rintro _ w a ⟨_,rfl,hFr,hK⟩ hE
             have hM:=hM0.add hK hFr
             exact ⟨_,_,rfl,hE,M.qFill (mk1:=[]) (mk2:=[_]) (f:=(fun v=>osl NoB (r86 : List (Vector UInt8 16)) v)) hM rfl hD,hI.2.put hD rfl ZO trivial⟩
            ·intro a w ux81 D hE hI hD hdc hp
             have hM0:=hI.1
             exact Zd hE Za ld rfl fun a hE=>⟨_,_,rfl,hE,M.qKeep hM0 rfl,hI.2.put hD rfl ZO rfl⟩
            ·intro a w ux81 D hE hI hD hdc hp
             have hM0:=hI.1
             exact Zd hE Za ld rfl fun a hE=>⟨_,_,rfl,hE,M.qKeep hM0 rfl,hI.2.put hD rfl ZO rfl⟩
            ·intro a w ux81 D hE hI hD hdc hp
             have hM0:=hI.1
             exact Zd hE Za ld rfl fun a hE=>⟨_,_,rfl,hE,M.qKeep hM0 rfl,hI.2.put hD rfl ZO rfl⟩
            ·intro a w ux81 D hE hI hD hdc hp
             have d1 : D 1 = true:=hp 0 _ rfl rfl
             have g1:=hI.2 1 d1 _ rfl
             have f1 : ux81 1 = (Value.agg (enc r82).toArray):=g1.2
             have d3 : D 3 = true:=hp 1 _ rfl rfl
             have g3:=hI.2 3 d3 _ rfl
             have f3 : ux81 3 = (Value.agg (enc r84).toArray):=g3.2
             have d5 : D 5 = true:=hp 2 _ rfl rfl
             have g5:=hI.2 5 d5 _ rfl
             have d6 : D 6 = true:=hp 3 _ rfl rfl
             have g6:=hI.2 6 d6 _ rfl
             have f6 : ux81 6 = (vI p3):=g6.2
             have d7 : D 7 = true:=hp 4 _ rfl rfl
             have g7:=hI.2 7 d7 _ rfl
             have f7 : ux81 7 = (vI p4):=g7.2
             have d8 : D 8 = true:=hp 5 _ rfl rfl
             have g8:=hI.2 8 d8 _ rfl
             have f8 : ux81 8 = (vI p5):=g8.2
             have hM0:=hI.1
             have hM:=hI.1.sure (pre:=[_,_,_,_]) d5
             refine Zt hE Za ld (Yl (Z1 (lk rfl f1) (Z1 (lk rfl f3) (Z1 rfl (Z1 (lk rfl f6) (Z1 (lk rfl f7) (Z1 (lk rfl f8) W3))))))) cb36 (V0 _ r82 r84 r86 (ux81 5) (hM.sl (pre:=[_,_,_,_]) noB) p3 p4 p5 r89 e90) ?_
             rintro _ w a ⟨u91,rfl,hFr,hK⟩ hE
             have hM:=hM0.add hK hFr
             exact ⟨_,_,rfl,hE,M.qFill (mk1:=[_]) (mk2:=[]) (f:=(fun v=>osl NoB (r89.1 : List Int) (ZW v 0))) hM rfl hD,hI.2.put hD rfl ZO rfl⟩
            ·intro a w ux81 D hE hI hD hdc hp
             have d9 : D 9 = true:=hp 0 _ rfl rfl
             have g9:=hI.2 9 d9 _ rfl
             have f9 : ux81 9 = (Value.tuple [(ZW (ux81 9) 0),vI r89.2].toArray):=g9.2
             have hM0:=hI.1
             exact Zd hE Za ld (lk rfl f9) fun a hE=>⟨_,_,rfl,hE,M.qKeep hM0 rfl,hI.2.put hD rfl (J9 d9 ZO) rfl⟩
            ·intro a w ux81 D hE hI hD hdc hp
             have d10 : D 10 = true:=hp 0 _ rfl rfl
             have g10:=hI.2 10 d10 _ rfl
             have d9 : D 9 = true:=g10.1 9 (show 9 ∈ [9] by decide)
             have f10 : ux81 10 = (Value.tuple [(ZW (ux81 9) 0),vI r89.2].toArray):=g10.2
             have hM0:=hI.1
             exact Xo hE Za ld (lk rfl f10) rfl fun a hE=>⟨_,_,rfl,hE,M.qKeep hM0 rfl,hI.2.put hD rfl (J9 d9 ZO) rfl⟩
            ·intro a w ux81 D hE hI hD hdc hp
             have d10 : D 10 = true:=hp 0 _ rfl rfl
             have g10:=hI.2 10 d10 _ rfl
             have d9 : D 9 = true:=g10.1 9 (show 9 ∈ [9] by decide)
             have f10 : ux81 10 = (Value.tuple [(ZW (ux81 9) 0),vI r89.2].toArray):=g10.2
             have hM0:=hI.1
             exact Xo hE Za ld (lk rfl f10) rfl fun a hE=>⟨_,_,rfl,hE,M.qKeep hM0 rfl,hI.2.put hD rfl ZO rfl⟩
            ·intro a w ux81 D hE hI hD hdc hp
             have d11 : D 11 = true:=hp 0 _ rfl rfl
             have g11:=hI.2 11 d11 _ rfl
             have d9 : D 9 = true:=g11.1 9 (show 9 ∈ [9] by decide)
             have f11 : ux81 11 = (ZW (ux81 9) 0):=g11.2
             have hM0:=hI.1
             exact Ze hE Za ld (lk rfl f11) fun a hE=>⟨_,_,rfl,hE,M.qKeep hM0 rfl,hI.2.put hD rfl (J9 d9 ZO) rfl⟩
            ·intro a w ux81 D hE hI hall
             have hM:=hI.1
             have d0 : D 0 = true:=hall 0 (by decide)
             have d1 : D 1 = true:=hall 1 (by decide)
             have d2 : D 2 = true:=hall 2 (by decide)
             have d3 : D 3 = true:=hall 3 (by decide)
             have d4 : D 4 = true:=hall 4 (by decide)
             have d5 : D 5 = true:=hall 5 (by decide)
             have d6 : D 6 = true:=hall 6 (by decide)
             have d7 : D 7 = true:=hall 7 (by decide)
             have d8 : D 8 = true:=hall 8 (by decide)
             have d9 : D 9 = true:=hall 9 (by decide)
             have d10 : D 10 = true:=hall 10 (by decide)
             have d11 : D 11 = true:=hall 11 (by decide)
             have d12 : D 12 = true:=hall 12 (by decide)
             have d13 : D 13 = true:=hall 13 (by decide)
             have f0 : ux81 0 = (Value.agg (enc p0).toArray):=(hI.2 0 d0 _ rfl).2
             have f1 : ux81 1 = (Value.agg (enc r82).toArray):=(hI.2 1 d1 _ rfl).2
             have f2 : ux81 2 = (Value.agg (enc p1).toArray):=(hI.2 2 d2 _ rfl).2
             have f3 : ux81 3 = (Value.agg (enc r84).toArray):=(hI.2 3 d3 _ rfl).2
             have f4 : ux81 4 = v2_1:=(hI.2 4 d4 _ rfl).2
             have f6 : ux81 6 = (vI p3):=(hI.2 6 d6 _ rfl).2
             have f7 : ux81 7 = (vI p4):=(hI.2 7 d7 _ rfl).2
             have f8 : ux81 8 = (vI p5):=(hI.2 8 d8 _ rfl).2
             have f9 : ux81 9 = (Value.tuple [(ZW (ux81 9) 0),vI r89.2].toArray):=(hI.2 9 d9 _ rfl).2
             have f10 : ux81 10 = (Value.tuple [(ZW (ux81 9) 0),vI r89.2].toArray):=(hI.2 10 d10 _ rfl).2
             have f11 : ux81 11 = (ZW (ux81 9) 0):=(hI.2 11 d11 _ rfl).2
             have f12 : ux81 12 = (vI r89.2):=(hI.2 12 d12 _ rfl).2
             have f13 : ux81 13 = (ZW (ux81 9) 0):=(hI.2 13 d13 _ rfl).2
             have hM:=(hM.sure (pre:=[_,_,_,_]) d5).sure (pre:=[_,_,_,_,_]) d9
             have hE:=hE.sub (e':=[(103,(ux81 5)),(109,vI r89.2),(22,(ZW (ux81 9) 0)),(14,u11),(15,vI j8.2),(17,u31),(20,vI r70.2),(21,vI r72)]) ⟨rfl,lk rfl f12,lk rfl f13,rfl,rfl,rfl,rfl,rfl,trivial⟩
             refine Ze hE Za ld rfl fun a hE=>Zh ?_
             have ht92:=Option.some.inj hl77
             subst ht92
             refine Zj ?_
             have hM:=M.fst (l:=[_,_,_]) (((hM.pull (pre:=[_,_,_,_,_])).pull (pre:=[_,_,_,_])).pull (pre:=[_,_]))
             exact ⟨(ZW (ux81 9) 0),hE.sub ⟨rfl,rfl,rfl,rfl,rfl,rfl,trivial⟩,hM⟩
           ·skip
            rintro a w ⟨u79,hE,hM⟩
            refine wp_seq ?_
            obtain ⟨j93,hl94,hF95⟩:=bind_some hF78
            refine ZM (fun a w=>Env 127 a [(17,u31),(20,vI r70.2),(118,vT j93)] ∧ M (Old w0) w0 w [own NoB (r70.1 : (List Int)) [u31]]) ?_ ?_
            ·skip
             refine wp_region_lit (Zd hE Za ld rfl fun a hE=>Zd hE Za ld rfl ?_); intro a hE
             obtain ⟨r96,e97,hl94⟩:=bind_some hl94
             refine Zt hE Za ld rfl cb37 (Um _ j76.1 u79 (hM.sl (pre:=[_,_]) noB) j8.1 u11 (hM.sl (pre:=[_]) noB) r96 e97) ?_
             rintro v w a ⟨rfl,hK⟩ hE
             have hM:=hM.keep hK
             refine Vf hE Za ld rfl fun a hE=>Zd hE Za ld rfl ?_; intro a hE
             refine Xh (!r96) (fun hb98=>?_) (fun hb98=>?_)
             ·have hl94:=Zu hl94 hb98
              refine Zp hE rfl (lkb rfl hb98) rfl (by decide) fun a hE=>Zp hE rfl (lkb rfl hb98) rfl (by decide) fun a hE=>Zp hE rfl (lkb rfl hb98) rfl (by decide) fun a hE=>Z0 hE Za ld (lkb rfl hb98) rfl fun a hE=>Zh ?_
              have ht99:=Option.some.inj hl94
              subst ht99
              refine Zj ?_
              have hM:=M.fst (l:=[_]) hM
              exact ⟨hE.sub ⟨rfl,rfl,rfl,trivial⟩,hM⟩
             ·have hl94:=Zv hl94 hb98
              refine Zd hE (Zl hE rfl (lkb rfl hb98)) (by decide) rfl fun a hE=>Zd hE (Zl hE rfl (lkb rfl hb98)) (by decide) rfl fun a hE=>Zi hE (Zl hE rfl (lkb rfl hb98)) (by decide) rfl rfl rfl fun a hE=>Yb hE Za ld (lkb rfl hb98) rfl fun a hE=>Zh ?_
              have ht100:=Option.some.inj hl94
              subst ht100
              refine Zj ?_
              have hM:=M.fst (l:=[_]) hM
              exact ⟨hE.sub ⟨rfl,rfl,rfl,trivial⟩,hM⟩
            ·skip
             rintro a w ⟨hE,hM⟩
             refine Zq hE rfl ?_ ?_
             ·intro hb101
              have hF95:=Zu hF95 hb101
              refine Zc (Ze hE Za ld rfl fun a hE=>Zf ?_)
              have hr:=Option.some.inj hF95
              subst hr
              have hM:=M.fst (l:=[]) hM
              exact wp_ret (ZD (Zx hE rfl (Zs hE rfl) ⟨_,rfl,rfl,hM.kept⟩))
             ·intro hb101
              have hF95:=Zv hF95 hb101
              refine wp_skip (Zw (Zc (Ze hE Za ld rfl fun a hE=>Zf (Zc (Zd hE Za ld rfl fun a hE=>Zd hE Za ld rfl ?_))))); intro a hE
              obtain ⟨r102,e103,hF95⟩:=bind_some hF95
              refine Zt hE Za ld rfl cb41 (UO _ r70.1 u31 (hM.ro (pre:=[]) noB) 1 r102 e103) ?_
              rintro v w a ⟨rfl,hK⟩ hE
              have hM:=hM.keep hK
              refine Ze hE Za ld rfl fun a hE=>Zf (wp_seq (Zc (Zd hE Za ld rfl fun a hE=>Zi hE Za ld rfl rfl rfl fun a hE=>Zf ?_)))
              refine Zq hE rfl ?_ ?_
              ·intro hb104
               have hF95:=Zu hF95 hb104
               refine Zc (Ze hE Za ld rfl fun a hE=>Zf ?_)
               have hr:=Option.some.inj hF95
               subst hr
               have hM:=M.fst (l:=[]) hM
               exact wp_ret (ZD (Zx hE rfl (Zs hE rfl) ⟨_,rfl,rfl,hM.kept⟩))
              ·intro hb104
               have hF95:=Zv hF95 hb104
               refine wp_skip (Zw (wp_seq (Zc (Zd hE Za ld rfl fun a hE=>Zd hE Za ld rfl fun a hE=>Zi hE Za ld rfl rfl rfl fun a hE=>Zf ?_))))
               refine Zq hE rfl ?_ ?_
               ·intro hb105
                have hF95:=Zu hF95 hb105
                refine Zc (Ze hE Za ld rfl fun a hE=>Zf ?_)
                have hr:=Option.some.inj hF95
                subst hr
                have hM:=M.fst (l:=[]) hM
                exact wp_ret (ZD (Zx hE rfl (Zs hE rfl) ⟨_,rfl,rfl,hM.kept⟩))
               ·intro hb105
                have hF95:=Zv hF95 hb105
                refine wp_skip (Zw (Zc (Ze hE Za ld rfl fun a hE=>Zf ?_)))
                have hr:=Option.some.inj hF95
                subst hr
                have hM:=M.fst (l:=[]) hM
                exact wp_ret (Zx hE rfl (Zs hE rfl) ⟨_,rfl,rfl,hM.kept⟩)
end

end Go.Proofs.Ytpjogonponkbmaa
