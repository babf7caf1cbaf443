/- The walk of what the law reaches: contracts of functions. -/
import Derived.Test.YtkajmkegelcfjaaC1
set_option linter.unusedVariables false
set_option linter.unusedSimpArgs false
set_option maxRecDepth 20000
set_option maxHeartbeats 400000
namespace Go.Proofs.Ytkajmkegelcfjaa
open Go
open Flat (enc)
noncomputable section
theorem TC (St : Nat → Prop) (W w0 : World) (R : Item) (pb0 : Nat) (p0_0 : (List UInt8)) (v0_0 : Value) (hv0_0 : Rep.sat St W p0_0 [v0_0] []) (p0 : (Int × Int)) (hM : M St W w0 [raw pb0 (cat [[v0_0],[vI p0.1],[(Value.int .u64 p0.2)]]),R]) (r : (Int × Int) × Int × (List GShare) × Int) (hF : X3 p0_0 p0 = some r) :
  Calls Try.prog 74 [(ptr pb0 0)].toArray w0 (fun en w'=>∃ v,en = .returned v ∧ (∃ (y1 : Value),v = (Value.tuple [vI r.2.1,y1,vI r.2.2.2].toArray) ∧ M St W w' [raw pb0 (cat [[v0_0],[vI r.1.1],[(Value.int .u64 r.1.2)]]),osl NoB (r.2.2.1 : List GShare) y1,R])):=by
 refine ce Try.func74 ?_
 intro a hE
 unfold X3 at hF
 refine Zc (Zb hE rfl fun a hE=>Zb hE rfl fun a hE=>Zb hE rfl fun a hE=>Ze (Zc (Zd hE rfl fun a hE=>Zd hE rfl fun a hE=>ZE (xs:=[.const (vI 5),.const (vI 7),.const (vI 12)]) (l:=([5,7,12] : List Int)) (vs:=[vI 5,vI 7,vI 12]) hE hM Za ld rfl rfl Try.underlying138 ty2 rfl (by decide) rfl ?_))); intro u1 w a hM hE
 have hM:=M.tailP (m:=[_,_]) hM.pull1
 obtain ⟨r3,e4,hF⟩:=bind_some hF
 refine Zl hE rfl Kk (Z9 _ _ _ _ pb0 p0_0 v0_0 hv0_0 (p0.1,p0.2) ([5,7,12] : List Int) u1 hM r3 e4) ?_
 rintro v w a ⟨rfl,hM⟩ hE
 have hM:=M.tailU (m:=[_,_]) hM
 simp only [List.cons_append,List.nil_append] at hM
 have hM:=M.tailP (m:=[_]) hM
 obtain ⟨r5,e6,hF⟩:=bind_some hF
 refine Zl hE rfl (cbm Try.func133) (Ji _ _ _ _ pb0 p0_0 v0_0 hv0_0 (r3.1.1,r3.1.2) r3.2 hM r5 e6) ?_
 rintro v w a ⟨u7,rfl,hM⟩ hE
 have hM:=M.tailU (m:=[_,_]) hM
 simp only [List.cons_append,List.nil_append] at hM
 refine Zd hE rfl fun a hE=>Zw hE Za ld rfl rfl fun a hE=>Zw hE Za ld rfl rfl fun a hE=>Zw hE Za ld rfl rfl fun a hE=>Zb hE rfl fun a hE=>Zb hE rfl fun a hE=>Zb hE rfl fun a hE=>Ze ?_
 obtain ⟨j8,hl9,hF10⟩:=bind_some hF
 refine ZB (fun a w=>∃ (u11 : Value),Env 82 a [(5,vI j8.2.2.1),(6,u11),(7,vI j8.2.2.2.2)] ∧ M St W w [raw pb0 (cat [[v0_0],[vI j8.1],[(Value.int .u64 j8.2.1)]]),R,osl NoB (j8.2.2.2.1 : List GShare) u11]) ?_ ?_
 ·skip
  refine Zc (Zd hE rfl ?_); intro a hE
  have hM:=M.tailP (m:=[_]) hM
  obtain ⟨r13,e14,hl9⟩:=bind_some hl9
  refine Zl hE rfl UW (ZI _ _ _ _ pb0 p0_0 v0_0 hv0_0 (r5.1.1,r5.1.2) 24 hM r13 e14) ?_
  rintro v w a ⟨rfl,hM⟩ hE
  have hM:=M.tailU (m:=[_]) hM
  simp only [List.cons_append,List.nil_append] at hM
  refine Ze (wp_block (Zc (Zk hE rfl rfl rfl fun a hE=>Zb hE rfl fun a hE=>Ze ?_)))
  obtain ⟨j15,hl16,hF17⟩:=bind_some hl9
  refine Z6 (fun a w=>∃ (u18 : Value),Env 82 a [(5,vI j15.2.2.1),(6,u18),(7,vI j15.2.2.2.2)] ∧ M St W w [raw pb0 (cat [[v0_0],[vI j15.1],[(Value.int .u64 j15.2.1)]]),R,osl NoB (j15.2.2.2.1 : List GShare) u18]) ?_ ?_
  ·skip
   refine Zm hE rfl ?_ ?_
   ·intro hb20
    have hl16:=Zp hl16 hb20
    refine wp_region_lit (Zb hE rfl fun a hE=>Zi ?_)
    obtain rfl:=Option.some.inj hl16
    refine Zj ?_
    have hM:=(hM.pull1.pull3.pull2.pull3).drop
    exact ⟨u7,hE.sub ⟨rfl,rfl,rfl,trivial⟩,hM⟩
   ·intro hb20
    have hl16:=Zo hl16 hb20
    refine Zc (Zk hE rfl rfl rfl fun a hE=>Zb hE rfl fun a hE=>Ze ?_)
    refine Zm hE rfl ?_ ?_
    ·intro hb22
     have hl16:=Zp hl16 hb22
     refine wp_region_lit (Zd hE rfl fun a hE=>Zd hE rfl fun a hE=>Zd hE rfl fun a hE=>Zd hE rfl fun a hE=>ZQ hE rfl Try.underlying27 (hM.sl (pre:=[_]) noB) fun a hE=>Zk hE rfl rfl rfl ?_); intro a hE
     obtain ⟨x23,hi25,hl16⟩:=bix hl16
     refine ZD hE rfl rfl Try.underlying27 ZU (hM.sl (pre:=[_]) noB) hi25.1 fun a hE=>ZA hE rfl (Wn) ?_; intro a hE
     obtain ⟨cs26,hs27,hA28⟩:=Yc (hM.sl (pre:=[_]) noB) hi25.2
     obtain ⟨u29,rfl,_⟩:=ZW hs27
     refine ZM (v:=(vB x23.Place)) hE rfl ty5 rfl (At.cat (pre:=[]) hA28 cl0) fun a hE=>Tl hE Za ld rfl Try.underlying5 Try.underlying2 fun a hE=>ZE (xs:=[.const (vI 0),.tmp 34]) (l:=([0,bI x23.Place] : List Int)) (vs:=[vI 0,(vI (bI x23.Place))]) hE hM Za ld rfl rfl Try.underlying138 ty2 rfl (by decide) rfl ?_; intro u30 w a hM hE
     have hM:=M.tailP (m:=[_,_]) hM.pull1
     obtain ⟨r32,e33,hl16⟩:=bind_some hl16
     refine Zl hE rfl Kk (Z9 _ _ _ _ pb0 p0_0 v0_0 hv0_0 (r13.1.1,r13.1.2) ([0,bI x23.Place] : List Int) u30 hM r32 e33) ?_
     rintro v w a ⟨rfl,hM⟩ hE
     have hM:=M.tailU (m:=[_,_]) hM
     simp only [List.cons_append,List.nil_append] at hM
     refine Tj hE Za ld rfl Try.underlying2 Try.underlying5 ?_; intro a hE
     obtain ⟨x34,hi36,hl16⟩:=bix hl16
     refine ZD hE rfl rfl Try.underlying27 ZU (hM.sl (pre:=[_,_]) noB) hi36.1 fun a hE=>ZA hE rfl (Wn) ?_; intro a hE
     have hM:=hM.pull2
     obtain ⟨cs37,hM,_⟩:=hM.open1 noB hi36.2
     obtain ⟨_,hx,_⟩:=hM.head
     obtain ⟨u38,_,rfl,_,_⟩:=Ua hx
     have hM:=(Te hM).pull1
     refine JW (k0:=0 + 0) (seg:=[(vB (X1 r32.2))]) (cs':=cat [[(vB (X1 r32.2))],[u38]]) hE hM noB Za rfl rfl rfl ty5 rfl (Flat.cell (X1 r32.2 : UInt8)) (VZ (pre:=[]) cl0 rfl) (XW (pre:=[]) cl0 rfl) fun w a hM hE=>Zi ?_
     have hM:=(Uz (x:=(⟨X1 r32.2,x34.Data⟩ : GShare)) hM.pull5.pull5.pull5.pull5.pull4.pull5 siw).close1 noB
     obtain rfl:=Option.some.inj hl16
     refine Zj ?_
     have hM:=((hM.pull4.pull2.pull4).drop.pull3).drop
     exact ⟨u7,hE.sub ⟨rfl,rfl,rfl,trivial⟩,hM⟩
    ·intro hb22
     have hl16:=Zo hl16 hb22
     refine Zc (Zk hE rfl rfl rfl fun a hE=>Zb hE rfl fun a hE=>Ze ?_)
     refine Zm hE rfl ?_ ?_
     ·intro hb41
      have hl16:=Zp hl16 hb41
      refine wp_region_lit (Zd hE rfl fun a hE=>Zd hE rfl ?_); intro a hE
      obtain ⟨x42,hi44,hl16⟩:=bix hl16
      refine ZD hE rfl rfl Try.underlying27 ZU (hM.sl (pre:=[_]) noB) hi44.1 fun a hE=>ZA hE rfl (YL) ?_; intro a hE
      have hM:=hM.pull1
      obtain ⟨cs45,hM,_⟩:=hM.open1 noB hi44.2
      obtain ⟨_,hx,_⟩:=hM.head
      obtain ⟨u46,_,rfl,_,_⟩:=Ua hx
      have hM:=Te hM
      refine ZM (v:=u46) hE rfl YS rfl (At.cat (pre:=[[vB x42.Place]]) (hM.holeAt (pre:=[_])) ck) fun a hE=>ZE (xs:=[.const (vB 1)]) (l:=([1] : List UInt8)) (vs:=[vB 1]) hE hM Za ld rfl rfl Try.underlying22 ty5 rfl (by decide) rfl ?_; intro u48 w a hM hE
      have hM:=hM.pull1.toOsl0
      obtain ⟨l50,e51,hl16⟩:=bind_some hl16
      obtain ⟨e54,rfl⟩:=Yi e51
      refine YE hE hM Za ld rfl rfl (hM.sl (pre:=[_]) noB) Try.underlying22 ty5 rfl (by decide) e54 ?_; intro u52 w a hM hE
      obtain ⟨x55,hi57,hl16⟩:=bix hl16
      refine QQ (pre:=[_,_]) hE hM Za ld rfl rfl Try.underlying27 ZU hi57.1 fun a hE=>ZA hE rfl (YL) ?_; intro a hE
      have hM:=hM.pull2
      refine JW (k0:=0 + 1) (seg:=[u52]) (cs':=cat [[vB x42.Place],[u52]]) hE hM noB Za rfl rfl (WD (hM.sl (pre:=[_]) noB)) YS rfl (Rep.cell (hM.sl (pre:=[_]) noB)) (VZ (pre:=[[vB x42.Place]]) ck rfl) (XW (pre:=[[vB x42.Place]]) ck rfl) fun w a hM hE=>Zi ?_
      have hM:=(Uz (x:=(⟨x42.Place,(x42.Data ++ ([1] : List UInt8))⟩ : GShare)) hM.pull5.pull5.pull5.pull5.pull4.pull5 sio).close1 noB
      obtain rfl:=Option.some.inj hl16
      refine Zj ?_
      have hM:=((hM.pull4.pull3.pull4).drop.pull3).drop
      exact ⟨u7,hE.sub ⟨rfl,rfl,rfl,trivial⟩,hM⟩
     ·intro hb41
      have hl16:=Zo hl16 hb41
      refine Zc (Zk hE rfl rfl rfl fun a hE=>Zb hE rfl fun a hE=>Ze ?_)
      refine Zm hE rfl ?_ ?_
      ·intro hb59
       have hl16:=Zp hl16 hb59
       refine wp_region_lit (Zd hE rfl fun a hE=>ZE (xs:=[.const (vI 0),.const (vI 9),.const (vI (-1))]) (l:=([0,9,(-1)] : List Int)) (vs:=[vI 0,vI 9,(vI (-1))]) hE hM Za ld rfl rfl Try.underlying138 ty2 rfl (by decide) rfl ?_); intro u60 w a hM hE
       have hM:=M.tailP (m:=[_,_]) hM.pull1
       obtain ⟨r62,e63,hl16⟩:=bind_some hl16
       refine Zl hE rfl Kk (Z9 _ _ _ _ pb0 p0_0 v0_0 hv0_0 (r13.1.1,r13.1.2) ([0,9,(-1)] : List Int) u60 hM r62 e63) ?_
       rintro v w a ⟨rfl,hM⟩ hE
       have hM:=M.tailU (m:=[_,_]) hM
       simp only [List.cons_append,List.nil_append] at hM
       refine Zb hE rfl fun a hE=>Zi ?_
       obtain rfl:=Option.some.inj hl16
       refine Zj ?_
       have hM:=((hM.pull2.pull4.pull2.pull4).drop.pull3).drop
       exact ⟨u7,hE.sub ⟨rfl,rfl,rfl,trivial⟩,hM⟩
      ·intro hb59
       have hl16:=Zo hl16 hb59
       refine Zc (Zk hE rfl rfl rfl fun a hE=>Zb hE rfl fun a hE=>Ze ?_)
       refine Zm hE rfl ?_ ?_
       ·intro hb65
        have hl16:=Zp hl16 hb65
        refine wp_region_lit (Zb hE rfl fun a hE=>Zi ?_)
        obtain rfl:=Option.some.inj hl16
        refine Zj ?_
        have hM:=((((((M.nilS (α:=GShare) NoB noB hM).pull4).pull2).pull4).drop).pull3).drop
        exact ⟨(Value.slice none 0 0),hE.sub ⟨rfl,rfl,rfl,trivial⟩,hM⟩
       ·intro hb65
        have hl16:=Zo hl16 hb65
        obtain ⟨j68,hl69,hF70⟩:=bind_some hl16
        refine ZB (fun a w=>Env 82 a [(0,(ptr pb0 0)),(5,vI r5.2.1),(6,u7),(7,vI r5.2.2.2),(58,vT j68)] ∧ M St W w [raw pb0 (cat [[v0_0],[vI r13.1.1],[(Value.int .u64 r13.1.2)]]),osl NoB (r5.2.2.1 : List GShare) u7,R]) ?_ ?_
        ·skip
         refine Zc (Zk hE rfl rfl rfl fun a hE=>Zb hE rfl fun a hE=>Ze ?_)
         refine Zm hE rfl ?_ ?_
         ·intro hb71
          have hl69:=Zp hl69 hb71
          refine wp_skip ?_
          obtain rfl:=Option.some.inj hl69
          refine Zj ?_
          have hM:=(hM.pull3.pull2.pull2.pull3).drop
          exact ⟨hE.sub ⟨rfl,rfl,rfl,rfl,rfl,trivial⟩,hM⟩
         ·intro hb71
          have hl69:=Zo hl69 hb71
          refine wp_region_lit (Zk hE rfl rfl rfl fun a hE=>Zb hE rfl fun a hE=>Zi ?_)
          obtain rfl:=Option.some.inj hl69
          refine Zj ?_
          have hM:=(hM.pull3.pull2.pull2.pull3).drop
          exact ⟨hE.sub ⟨rfl,rfl,rfl,rfl,rfl,trivial⟩,hM⟩
        ·skip
         rintro a w ⟨hE,hM⟩
         refine Zm hE rfl ?_ ?_
         ·intro hb74
          have hF70:=Zp hF70 hb74
          refine Zc (Zd hE rfl ?_); intro a hE
          obtain ⟨x75,hi77,hF70⟩:=bix hF70
          refine ZD hE rfl rfl Try.underlying27 ZU (hM.sl (pre:=[_]) noB) hi77.1 fun a hE=>ZA hE rfl (YL) ?_; intro a hE
          have hM:=hM.pull1
          obtain ⟨cs78,hM,_⟩:=hM.open1 noB hi77.2
          obtain ⟨_,hx,_⟩:=hM.head
          obtain ⟨u79,_,rfl,_,_⟩:=Ua hx
          have hM:=Te hM
          refine ZM (v:=u79) hE rfl YS rfl (At.cat (pre:=[[vB x75.Place]]) (hM.holeAt (pre:=[_])) ck) fun a hE=>ZQ hE rfl Try.underlying22 (hM.ro (pre:=[]) noB) fun a hE=>Zb hE rfl fun a hE=>Ze (Zc (Zd hE rfl fun a hE=>Zk hE rfl rfl rfl fun a hE=>Ze ?_))
          refine Zm hE rfl ?_ ?_
          ·intro hb81
           have hF70:=Zp hF70 hb81
           refine Zc (Zd hE rfl ?_); intro a hE
           obtain ⟨x82,hi84,hF70⟩:=bix hF70
           refine QQ (pre:=[_]) hE hM Za ld rfl rfl Try.underlying27 ZU hi84.1 fun a hE=>ZA hE rfl (YL) fun a hE=>ZM (v:=u79) hE rfl YS rfl (At.cat (pre:=[[vB x75.Place]]) (hM.holeAt (pre:=[_])) ck) fun a hE=>Zb hE rfl fun a hE=>Ze (wp_region_lit (Zd hE rfl fun a hE=>Zd hE rfl fun a hE=>Zd hE rfl ?_)); intro a hE
           have hM:=M.tailP (m:=[_]) hM.pull2
           obtain ⟨r85,e86,hF70⟩:=bind_some hF70
           refine Zl hE rfl UW (ZI _ _ _ _ pb0 p0_0 v0_0 hv0_0 (r13.1.1,r13.1.2) (x75.Data.length : Int) hM r85 e86) ?_
           rintro v w a ⟨rfl,hM⟩ hE
           have hM:=M.tailU (m:=[_]) hM
           simp only [List.cons_append,List.nil_append] at hM
           refine Zd hE rfl ?_; intro a hE
           have hM:=M.tailP (m:=[_]) hM
           obtain ⟨r87,e88,hF70⟩:=bind_some hF70
           refine Zl hE rfl cb84 (WW _ _ _ _ pb0 p0_0 v0_0 hv0_0 (r85.1.1,r85.1.2) hM r87 e88) ?_
           rintro v w a ⟨rfl,hM⟩ hE
           have hM:=M.tailU (m:=[_]) hM
           simp only [List.cons_append,List.nil_append] at hM
           obtain ⟨x89,hi91,hF70⟩:=bix hF70
           refine ZD hE rfl rfl Try.underlying22 ty5 (hM.ro (pre:=[_]) noB) hi91.1 ?_; intro a hE
           have hM:=hM.pull1.toOsl (List.getElem?_eq_some_iff.1 hi91.2).1
           refine UH (i:=(r85.2).toNat) (k0:=0) (seg:=[vB r87.2]) (xo:=x89) (xn:=r87.2) hE hM Za rfl rfl rfl ty5 rfl (Flat.cell (r87.2 : UInt8)) hi91.2 (Tm (m:=1) rfl (by decide)) (ZX rfl) ?_; intro w a hM hE
           have hM:=hM.toOwn noB
           refine Zi ?_
           have hM:=(Uz (x:=(⟨x75.Place,(x75.Data.set (r85.2).toNat r87.2)⟩ : GShare)) hM.pull3.pull2.pull3.pull3 siw).close1 noB
           obtain rfl:=Option.some.inj hF70
           refine Zj ?_
           have hM:=hM.pull2.pull2
           exact ⟨u7,hE.sub ⟨rfl,rfl,rfl,trivial⟩,hM⟩
          ·intro hb81
           have hF70:=Zo hF70 hb81
           refine wp_skip ?_
           have hM:=(Uz (x:=x75) hM siw).close0 noB hi77.2
           obtain rfl:=Option.some.inj hF70
           refine Zj ?_
           have hM:=hM.pull2.pull2
           exact ⟨u7,hE.sub ⟨rfl,rfl,rfl,trivial⟩,hM⟩
         ·intro hb74
          have hF70:=Zo hF70 hb74
          refine wp_skip ?_
          obtain rfl:=Option.some.inj hF70
          refine Zj ?_
          have hM:=hM.pull1.pull2.pull2
          exact ⟨u7,hE.sub ⟨rfl,rfl,rfl,trivial⟩,hM⟩
  ·skip
   rintro a w ⟨u18,hE,hM⟩
   refine YK ?_
   obtain rfl:=Option.some.inj hF17
   refine Zj ?_
   exact ⟨u18,hE.sub ⟨rfl,rfl,rfl,trivial⟩,hM⟩
 ·skip
  rintro a w ⟨u11,hE,hM⟩
  refine Zc (Zd hE rfl fun a hE=>Zd hE rfl fun a hE=>Zd hE rfl fun a hE=>Zb hE rfl fun a hE=>Zb hE rfl fun a hE=>Zb hE rfl fun a hE=>Ze ?_)
  obtain rfl:=Option.some.inj hF10
  have hM:=hM.pull1.pull2.pull2
  exact wp_ret (BU hE rfl (Zq hE rfl) (Zq hE rfl) (Zq hE rfl) ⟨_,rfl,u11,rfl,hM⟩)
def YV (p0 : (List UInt8)) : Option (Int × (List GShare) × Int) :=
 (XR p0).bind fun r1=>(X3 p0 (r1.1,r1.2)).bind fun r5=>some (r5.2.1,r5.2.2.1,r5.2.2.2)
theorem Tr (w0 : World) (p0 : (List UInt8)) (v0_1 : Value) (hv0_1 : Ro w0 p0 [v0_1]) (r : Int × (List GShare) × Int) (hF : YV p0 = some r) :
  Calls Try.prog 15 [v0_1].toArray w0 (fun en w'=>∃ v,en = .returned v ∧ (∃ (y1 : Value),v = (Value.tuple [vI r.1,y1,vI r.2.2].toArray) ∧ Fr w0 w' [osl NoB (r.2.1 : List GShare) y1] ∧ Kept (Old w0) w0 w')):=by
 refine ce Try.func15 ?_
 intro a hE
 have hM:=M.start w0
 unfold YV at hF
 refine Zc (Zb hE rfl fun a hE=>Zb hE rfl fun a hE=>Zb hE rfl fun a hE=>Ze (Zc (Zd hE rfl ?_))); intro a hE
 have hM:=M.tailP (m:=[]) hM
 obtain ⟨r1,e2,hF⟩:=bind_some hF
 refine Zl hE rfl cb47 (UJ _ _ _ _ p0 v0_1 hv0_1 hM r1 e2) ?_
 rintro v w a ⟨b3,rfl,hM⟩ hE
 have hM:=M.tailU (m:=[_]) hM
 simp only [List.cons_append,List.nil_append] at hM
 have hM:=M.tailP (m:=[_]) hM
 obtain ⟨r5,e6,hF⟩:=bind_some hF
 refine Zl hE rfl (cbm Try.func74) (TC _ _ _ _ b3 p0 v0_1 hv0_1 (r1.1,r1.2) hM r5 e6) ?_
 rintro v w a ⟨u7,rfl,hM⟩ hE
 have hM:=M.tailU (m:=[_,_]) hM
 simp only [List.cons_append,List.nil_append] at hM
 refine Zd hE rfl fun a hE=>Zw hE Za ld rfl rfl fun a hE=>Zw hE Za ld rfl rfl fun a hE=>Zw hE Za ld rfl rfl fun a hE=>Zb hE rfl fun a hE=>Zb hE rfl fun a hE=>Zb hE rfl fun a hE=>Ze (Zc (Zd hE rfl fun a hE=>Zd hE rfl fun a hE=>Zd hE rfl fun a hE=>Zb hE rfl fun a hE=>Zb hE rfl ?_)); intro a hE
 refine Zb hE rfl fun a hE=>Ze ?_
 obtain rfl:=Option.some.inj hF
 have hM:=M.fst (l:=[_]) hM.pull1
 exact wp_ret (BU hE rfl (Zq hE rfl) (Zq hE rfl) (Zq hE rfl) ⟨_,rfl,u7,rfl,hM.outF (YG YP),hM.kept⟩)
def WX (p0 : GShare) : Option (Bool) :=
 (if (p0.Place != 0) = true then (some (decide ((p0.Data.length : Int) ≤ 100))) else (some false) : Option (Bool)).bind fun j3=>some j3
theorem KV (w0 : World) (p0 : GShare) (v0_1 : Value) (hv0_1 : Ro w0 p0.Data [v0_1]) (r : Bool) (hF : WX p0 = some r) :
  Calls Try.prog 137 [(Value.agg (cat [[vB p0.Place],[v0_1]]).toArray)].toArray w0 (Rt w0 (vT r)):=by
 refine ce Try.func137 ?_
 intro a hE
 have hM:=M.start w0
 unfold WX at hF
 refine Zc (Q3 (cs:=cat [[vB p0.Place],[v0_1]]) hE hM Za ld rfl rfl fun b1 w a hM hE=>Zb hE rfl fun a hE=>Ze ?_)
 obtain ⟨j3,hl4,hF5⟩:=bind_some hF
 refine ZB (fun a w=>Env 12 a [(2,vT j3)] ∧ M (Old w0) w0 w []) ?_ ?_
 ·skip
  refine wp_region_lit (ZA hE rfl (Wn) fun a hE=>ZM (v:=(vB p0.Place)) hE rfl ty5 rfl (At.cat (pre:=[]) hM.rawAt0 cl0) fun a hE=>Zk hE rfl rfl (Tk p0.Place 0) fun a hE=>Zd hE rfl ?_); intro a hE
  refine ZZ (p0.Place != 0) (fun hb6=>?_) (fun hb6=>?_)
  ·have hl4:=Zp hl4 hb6
   refine Zv hE (Zf hE rfl (lkb rfl hb6)) (by decide) rfl (YL) fun a hE=>ZK (v:=v0_1) hE (Zf hE rfl (lkb rfl hb6)) (by decide) rfl YS rfl (At.cat (pre:=[[vB p0.Place]]) hM.rawAt0 ck) fun a hE=>VU hE (Zf hE rfl (lkb rfl hb6)) (by decide) rfl Try.underlying22 (hM.rd hv0_1) fun a hE=>Z2 hE (Zf hE rfl (lkb rfl hb6)) (by decide) rfl rfl rfl fun a hE=>ZC hE (lkb rfl hb6) rfl fun a hE=>Zb hE rfl fun a hE=>Zi ?_
   obtain rfl:=Option.some.inj hl4
   refine Zj ?_
   have hM:=M.fst (l:=[]) hM
   exact ⟨hE.sub ⟨rfl,trivial⟩,hM⟩
  ·have hl4:=Zo hl4 hb6
   refine Zg hE rfl (lkb rfl hb6) rfl (by decide) fun a hE=>Zg hE rfl (lkb rfl hb6) rfl (by decide) fun a hE=>Zg hE rfl (lkb rfl hb6) rfl (by decide) fun a hE=>Zg hE rfl (lkb rfl hb6) rfl (by decide) fun a hE=>ZL hE (lkb rfl hb6) rfl fun a hE=>Zb hE rfl fun a hE=>Zi ?_
   obtain rfl:=Option.some.inj hl4
   refine Zj ?_
   have hM:=M.fst (l:=[]) hM
   exact ⟨hE.sub ⟨rfl,trivial⟩,hM⟩
 ·skip
  rintro a w ⟨hE,hM⟩
  obtain rfl:=Option.some.inj hF5
  exact wp_ret (kr1 hE rfl rfl hM.kept)
def Xx (p0 : (List GShare)) (s8 : (List UInt8) × Int) : Option (Fl ((List UInt8) × Int) (List UInt8)) :=
 if (decide (s8.2 < (p0.length : Int))) = true then ((idx p0 s8.2).bind fun x15=>(app 1 s8.1 ([x15.Place] : List UInt8)).bind fun l25=>some (Fl.nx ((s8.1 ++ ([x15.Place] : List UInt8)),wr (s8.2 + 1)))) else (some (Fl.ex s8.1))
def XU (p0 : (List GShare)) : Option (Bool) :=
 (ZJ (Xx p0) (([] : List UInt8),0)).bind fun j3=>(We j3).bind fun r31=>some (!r31)
theorem Qq (w0 : World) (p0 : (List GShare)) (v0_1 : Value) (hv0_1 : Ro w0 p0 [v0_1]) (r : Bool) (hF : XU p0 = some r) :
  Calls Try.prog 138 [v0_1].toArray w0 (Rt w0 (vT r)):=by
 refine ce Try.func138 ?_
 intro a hE
 have hM:=M.start w0
 unfold XU at hF
 refine Zc (Zb hE rfl fun a hE=>Ze (Zc (ZE (xs:=[]) (l:=([] : List UInt8)) (vs:=[]) hE hM Za ld rfl rfl Try.underlying22 ty5 rfl (by decide) rfl fun u1 w a hM hE=>Zb hE rfl fun a hE=>Ze (wp_seq (Zc (Zb hE rfl fun a hE=>Ze ?_))))))
 obtain ⟨j3,hl4,hF5⟩:=bind_some hF
 refine Z6 (fun a w=>∃ (u6 : Value),Env 23 a [(3,u6)] ∧ M (Old w0) w0 w [osl NoB (j3 : List UInt8) u6]) ?_ ?_
 ·skip
  refine wp_block ?_
  refine ZO (fun (s8 : (List UInt8) × Int) a w=>∃ (u9 : Value),Env 23 a [(0,v0_1),(3,u9),(4,vI s8.2)] ∧ M (Old w0) w0 w [osl NoB (s8.1 : List UInt8) u9]) hl4 ⟨u1,hE.sub ⟨rfl,rfl,rfl,trivial⟩,hM⟩ ?_
  rintro s8 a w ⟨u9,hE,hM⟩ o13 hs11 hx12
  unfold Xx at hs11
  refine wp_seq (Zc (Zd hE rfl fun a hE=>Zd hE rfl fun a hE=>ZQ hE rfl Try.underlying27 (hM.rd hv0_1) fun a hE=>Zk hE rfl rfl rfl fun a hE=>Ze ?_))
  refine Zm hE rfl ?_ ?_
  ·intro hb14
   have hs11:=Zp hs11 hb14
   refine wp_skip (Zx (wp_seq (wp_block (wp_region_lit (Zd hE rfl fun a hE=>Zd hE rfl fun a hE=>Zd hE rfl ?_))))); intro a hE
   obtain ⟨x15,hi17,hs11⟩:=bix hs11
   refine ZD hE rfl rfl Try.underlying27 ZU (hM.rd hv0_1) hi17.1 fun a hE=>ZA hE rfl (Wn) ?_; intro a hE
   obtain ⟨cs18,hs19,hA20⟩:=Yc hv0_1 hi17.2 -- ^
   obtain ⟨u21,rfl,h22⟩:=ZW hs19 -- ^
   refine ZM (v:=(vB x15.Place)) hE rfl ty5 rfl (At.cat (pre:=[]) (hM.atk hA20 (YI hv0_1 hi17.2)) cl0) fun a hE=>ZE (xs:=[.tmp 17]) (l:=([x15.Place] : List UInt8)) (vs:=[vB x15.Place]) hE hM Za ld rfl rfl Try.underlying22 ty5 rfl (by decide) rfl ?_; intro u23 w a hM hE
   obtain ⟨l25,e26,hs11⟩:=bind_some hs11
   obtain ⟨e29,rfl⟩:=Yi e26
   have hM:=hM.pull1
   refine YE hE hM Za ld rfl rfl (hM.sl (pre:=[_]) noB) Try.underlying22 ty5 rfl (by decide) e29 fun u27 w a hM hE=>Zb hE rfl fun a hE=>Zi (YK (Zx (wp_region_lit (Zd hE rfl fun a hE=>Zk hE rfl rfl rfl fun a hE=>Zb hE rfl fun a hE=>Zi (Zj ?_)))))
   have hM:=M.fst (l:=[_]) hM
   exact ⟨_,(ois hs11),u27,hE.sub ⟨rfl,rfl,rfl,trivial⟩,hM⟩
  ·intro hb14
   have hs11:=Zo hs11 hb14
   refine wp_exit (Zs (Zs (Y6 ?_)))
   obtain rfl:=hx12 _ (ois hs11)
   refine Zj ?_
   exact ⟨u9,hE.sub ⟨rfl,trivial⟩,hM⟩
 ·skip
  rintro a w ⟨u6,hE,hM⟩
  refine Zx (Zc (Zd hE rfl ?_)); intro a hE
  obtain ⟨r31,e32,hF5⟩:=bind_some hF5
  refine Zl hE rfl (cbm Try.func125) (TB _ j3 u6 (hM.sl (pre:=[]) noB) r31 e32) ?_
  rintro v w a ⟨rfl,hK⟩ hE
  have hM:=hM.keep hK
  refine VW hE rfl fun a hE=>Zb hE rfl fun a hE=>Ze ?_
  obtain rfl:=Option.some.inj hF5
  exact wp_ret (kr1 hE rfl rfl hM.kept)
def W6 (p0 : (List GShare)) (s5 : Int) : Option (Fl Int (Fl Unit Int)) :=
 if (decide (s5 < (p0.length : Int))) = true then ((idx p0 s5).bind fun x10=>(WX x10).bind fun r18=>if (!r18) = true then (some (Fl.ex (Fl.ex 1))) else (some (Fl.nx (wr (s5 + 1))))) else (some (Fl.ex (Fl.nx ())))
def X7 (p0 : (List GShare)) (s37 : Int) : Option (Fl Int (Fl Unit Int)) :=
 if (decide (s37 < (p0.length : Int))) = true then (((idx p0 s37).bind fun x46=>(idx p0 (0 : Int)).bind fun x54=>some ((x46.Data.length : Int) != (x54.Data.length : Int)) : Option (Bool)).bind fun j42=>if j42 = true then (some (Fl.ex (Fl.ex 2))) else (some (Fl.nx (wr (s37 + 1))))) else (some (Fl.ex (Fl.nx ())))
def WL (p0 : (List GShare)) : Option (Int) :=
 (ZJ (W6 p0) 0).bind fun j1=>j1.el (fun s4=>(XU p0).bind fun r23=>if (!r23) = true then (some 1) else ((if (decide ((p0.length : Int) < 1)) = true then (some true) else (some (decide ((p0.length : Int) > 12))) : Option (Bool)).bind fun j26=>if j26 = true then (some 2) else ((ZJ (X7 p0) 1).bind fun j33=>j33.el (fun s36=>some 0) (fun r=>some r)))) (fun r=>some r)
theorem TM (w0 : World) (p0 : (List GShare)) (v0_1 : Value) (hv0_1 : Ro w0 p0 [v0_1]) (r : Int) (hF : WL p0 = some r) :
  Calls Try.prog 80 [v0_1].toArray w0 (Rt w0 (vI r)):=by
 refine ce Try.func80 ?_
 intro a hE
 have hM:=M.start w0
 unfold WL at hF
 refine Zc (Zb hE rfl fun a hE=>Ze (wp_seq (Zc (Zb hE rfl fun a hE=>Ze ?_))))
 obtain ⟨j1,hl2,hF3⟩:=bind_some hF
 refine Z6 (fun a w=>∃ s4 : Unit,j1 = Fl.nx s4 ∧ Env 46 a [(0,v0_1)] ∧ M (Old w0) w0 w []) ?_ ?_
 ·skip
  refine wp_block ?_
  refine ZO (fun (s5 : Int) a w=>Env 46 a [(0,v0_1),(3,vI s5)] ∧ M (Old w0) w0 w []) hl2 ⟨hE.sub ⟨rfl,rfl,trivial⟩,hM⟩ ?_
  rintro s5 a w ⟨hE,hM⟩ o8 hs6 hx7
  unfold W6 at hs6
  refine wp_seq (Zc (Zd hE rfl fun a hE=>Zd hE rfl fun a hE=>ZQ hE rfl Try.underlying27 (hM.rd hv0_1) fun a hE=>Zk hE rfl rfl rfl fun a hE=>Ze ?_))
  refine Zm hE rfl ?_ ?_
  ·intro hb9
   have hs6:=Zp hs6 hb9
   refine wp_skip (Zx (wp_seq (wp_block (Zc (Zd hE rfl fun a hE=>Zd hE rfl ?_))))); intro a hE
   obtain ⟨x10,hi12,hs6⟩:=bix hs6
   refine ZD hE rfl rfl Try.underlying27 ZU (hM.rd hv0_1) hi12.1 ?_; intro a hE
   obtain ⟨cs13,hs14,hA15⟩:=Yc hv0_1 hi12.2 -- ^
   obtain ⟨u16,rfl,h17⟩:=ZW hs14 -- ^
   refine Ue hE rfl ZU rfl (hM.atk hA15 (YI hv0_1 hi12.2)) cq ?_; intro a hE
   obtain ⟨r18,e19,hs6⟩:=bind_some hs6
   refine Zl hE rfl (cbm Try.func137) (KV _ x10 u16 (hM.rdo h17) r18 e19) ?_
   rintro v w a ⟨rfl,hK⟩ hE
   have hM:=hM.keep hK
   refine VW hE rfl fun a hE=>Ze ?_
   refine Zm hE rfl ?_ ?_
   ·intro hb20
    have hs6:=Zp hs6 hb20
    refine Zc (Zb hE rfl fun a hE=>Ze ?_)
    obtain rfl:=hx7 _ (ois hs6)
    obtain rfl:=Option.some.inj hF3
    exact wp_ret (Yh (Zr (Zr (Yh (Zr (Zr (kr1 hE rfl rfl hM.kept)))))))
   ·intro hb20
    have hs6:=Zo hs6 hb20
    refine wp_skip (YK (Zx (wp_region_lit (Zd hE rfl fun a hE=>Zk hE rfl rfl rfl fun a hE=>Zb hE rfl fun a hE=>Zi (Zj ?_)))))
    exact ⟨_,(ois hs6),hE.sub ⟨rfl,rfl,trivial⟩,hM⟩
  ·intro hb9
   have hs6:=Zo hs6 hb9
   refine wp_exit (Zs (Zs (Y6 ?_)))
   obtain rfl:=hx7 _ (ois hs6)
   refine Zj ?_
   exact ⟨(),rfl,hE.sub ⟨rfl,trivial⟩,hM⟩
 ·skip
  rintro a w ⟨s4,ht,hE,hM⟩
  subst ht
  have hF3:=VV hF3
  refine Zx (wp_seq (Zc (Zd hE rfl ?_))); intro a hE
  obtain ⟨r23,e24,hF3⟩:=bind_some hF3
  refine Zl hE rfl (cbm Try.func138) (Qq _ p0 v0_1 (hM.rdo hv0_1) r23 e24) ?_
  rintro v w a ⟨rfl,hK⟩ hE
  have hM:=hM.keep hK
  refine VW hE rfl fun a hE=>Ze ?_
  refine Zm hE rfl ?_ ?_
  ·intro hb25
   have hF3:=Zp hF3 hb25
   refine Zc (Zb hE rfl fun a hE=>Ze ?_)
   obtain rfl:=Option.some.inj hF3
   exact wp_ret (Zr (kr1 hE rfl rfl hM.kept))
  ·intro hb25
   have hF3:=Zo hF3 hb25
   refine wp_skip (Zx (wp_seq ?_))
   obtain ⟨j26,hl27,hF28⟩:=bind_some hF3
   refine ZB (fun a w=>Env 46 a [(0,v0_1),(27,vT j26)] ∧ M (Old w0) w0 w []) ?_ ?_
   ·skip
    refine wp_region_lit (Zd hE rfl fun a hE=>ZQ hE rfl Try.underlying27 (hM.rd hv0_1) fun a hE=>Zk hE rfl rfl rfl fun a hE=>Zd hE rfl ?_); intro a hE
    refine ZZ (decide ((p0.length : Int) < 1)) (fun hb29=>?_) (fun hb29=>?_)
    ·have hl27:=Zp hl27 hb29
     refine Zg hE rfl (lkb rfl hb29) rfl (by decide) fun a hE=>Zg hE rfl (lkb rfl hb29) rfl (by decide) fun a hE=>Zg hE rfl (lkb rfl hb29) rfl (by decide) fun a hE=>ZC hE (lkb rfl hb29) rfl fun a hE=>Zi ?_
     obtain rfl:=Option.some.inj hl27
     refine Zj ?_
     exact ⟨hE.sub ⟨rfl,rfl,trivial⟩,hM⟩
    ·have hl27:=Zo hl27 hb29
     refine Zh hE (Zf hE rfl (lkb rfl hb29)) (by decide) rfl fun a hE=>VU hE (Zf hE rfl (lkb rfl hb29)) (by decide) rfl Try.underlying27 (hM.rd hv0_1) fun a hE=>Z2 hE (Zf hE rfl (lkb rfl hb29)) (by decide) rfl rfl rfl fun a hE=>ZL hE (lkb rfl hb29) rfl fun a hE=>Zi ?_
     obtain rfl:=Option.some.inj hl27
     refine Zj ?_
     exact ⟨hE.sub ⟨rfl,rfl,trivial⟩,hM⟩
   ·skip
    rintro a w ⟨hE,hM⟩
    refine Zm hE rfl ?_ ?_
    ·intro hb32
     have hF28:=Zp hF28 hb32
     refine Zc (Zb hE rfl fun a hE=>Ze ?_)
     obtain rfl:=Option.some.inj hF28
     exact wp_ret (Zr (kr1 hE rfl rfl hM.kept))
    ·intro hb32
     have hF28:=Zo hF28 hb32
     refine wp_skip (Zx (wp_seq (Zc (Zb hE rfl fun a hE=>Ze ?_))))
     obtain ⟨j33,hl34,hF35⟩:=bind_some hF28
     refine Z6 (fun a w=>∃ s36 : Unit,j33 = Fl.nx s36 ∧ Env 46 a [] ∧ M (Old w0) w0 w []) ?_ ?_
     ·skip
      refine wp_block ?_
      refine ZO (fun (s37 : Int) a w=>Env 46 a [(0,v0_1),(4,vI s37)] ∧ M (Old w0) w0 w []) hl34 ⟨hE.sub ⟨rfl,rfl,trivial⟩,hM⟩ ?_
      rintro s37 a w ⟨hE,hM⟩ o40 hs38 hx39
      unfold X7 at hs38
      refine wp_seq (Zc (Zd hE rfl fun a hE=>Zd hE rfl fun a hE=>ZQ hE rfl Try.underlying27 (hM.rd hv0_1) fun a hE=>Zk hE rfl rfl rfl fun a hE=>Ze ?_))
      refine Zm hE rfl ?_ ?_
      ·intro hb41
       have hs38:=Zp hs38 hb41
       refine wp_skip (Zx (wp_seq (wp_block ?_)))
       obtain ⟨j42,hl43,hF44⟩:=bind_some hs38
       refine ZB (fun a w=>Env 46 a [(0,v0_1),(4,vI s37),(45,vT j42)] ∧ M (Old w0) w0 w []) ?_ ?_
       ·skip
        obtain ⟨x46,hi48,hl43⟩:=bix hl43
        obtain ⟨cs49,hs50,hA51⟩:=Yc hv0_1 hi48.2 -- ^
        obtain ⟨u52,rfl,h53⟩:=ZW hs50 -- ^
        obtain ⟨x54,hi56,hl43⟩:=bix hl43
        obtain ⟨cs57,hs58,hA59⟩:=Yc hv0_1 hi56.2 -- ^
        obtain ⟨u60,rfl,h61⟩:=ZW hs58 -- ^
        refine Y4 [34,35,36,37,38,39,40,41,42,43,44,45] VC rfl rfl (by decide) rfl hE hM (qsP (fun z=>Zh z.E Za ld rfl (kr0 rfl)) (qsP (fun z=>Zh z.E Za ld rfl (kr0 rfl)) (qsP (fun z=>ZG z.E Za ld rfl rfl Try.underlying27 ZU (z.M.rd hv0_1) hi48.1 (kr0 rfl)) (qsP (fun z=>Zv z.E Za ld rfl (YL) (kr0 rfl)) (qsP (fun z=>ZK (v:=u52) z.E Za ld rfl YS rfl (At.cat (pre:=[[vB x46.Place]]) (z.M.atk hA51 (YI hv0_1 hi48.2)) ck) (kr0 rfl)) (qsP (fun z=>VU z.E Za ld rfl Try.underlying22 (z.M.rd h53) (kr0 rfl)) (qsP (fun z=>Zh z.E Za ld rfl (kr0 rfl)) (qsP (fun z=>ZG z.E Za ld rfl rfl Try.underlying27 ZU (z.M.rd hv0_1) hi56.1 (kr0 rfl)) (qsP (fun z=>Zv z.E Za ld rfl (YL) (kr0 rfl)) (qsP (fun z=>ZK (v:=u60) z.E Za ld rfl YS rfl (At.cat (pre:=[[vB x54.Place]]) (z.M.atk hA59 (YI hv0_1 hi56.2)) ck) (kr0 rfl)) (qsP (fun z=>VU z.E Za ld rfl Try.underlying22 (z.M.rd h61) (kr0 rfl)) (qsP (fun z=>Z2 z.E Za ld rfl rfl rfl (kr0 rfl)) qs0)))))))))))) ?_
        ·intro a w u hE hM
         refine Zi ?_
         obtain rfl:=Option.some.inj hl43
         refine Zj ?_
         exact ⟨hE.sub ⟨rfl,rfl,rfl,trivial⟩,hM⟩
       ·skip
        rintro a w ⟨hE,hM⟩
        refine Zm hE rfl ?_ ?_
        ·intro hb63
         have hF44:=Zp hF44 hb63
         refine Zc (Zb hE rfl fun a hE=>Ze ?_)
         obtain rfl:=hx39 _ (ois hF44)
         obtain rfl:=Option.some.inj hF35
         exact wp_ret (Yh (Zr (Zr (Yh (Zr (Zr (kr1 hE rfl rfl hM.kept)))))))
        ·intro hb63
         have hF44:=Zo hF44 hb63
         refine wp_skip (YK (Zx (wp_region_lit (Zd hE rfl fun a hE=>Zk hE rfl rfl rfl fun a hE=>Zb hE rfl fun a hE=>Zi (Zj ?_)))))
         exact ⟨_,(ois hF44),hE.sub ⟨rfl,rfl,trivial⟩,hM⟩
      ·intro hb41
       have hs38:=Zo hs38 hb41
       refine wp_exit (Zs (Zs (Y6 ?_)))
       obtain rfl:=hx39 _ (ois hs38)
       refine Zj ?_
       exact ⟨(),rfl,hE.sub trivial,hM⟩
     ·skip
      rintro a w ⟨s36,ht,hE,hM⟩
      subst ht
      have hF35:=VV hF35
      refine Zx (Zc (Zb hE rfl fun a hE=>Ze ?_))
      obtain rfl:=Option.some.inj hF35
      exact wp_ret (kr1 hE rfl rfl hM.kept)
def XO (p0 : Int) (p1 : (List GShare)) (p2 : Int) : Option (Int) :=
 (Xu p0).bind fun r1=>if (!r1) = true then (some 1) else ((WL p1).bind fun r4=>((if (r4 == 0) = true then ((Vx p2 1 8).bind fun r13=>some (!r13)) else (some false) : Option (Bool)).bind fun j9=>if j9 = true then (some 2) else (some r4) : Option (Int)).bind fun j6=>some j6)
theorem UK (w0 : World) (p0 : Int) (p1 : (List GShare)) (v1_1 : Value) (hv1_1 : Ro w0 p1 [v1_1]) (p2 : Int) (r : Int) (hF : XO p0 p1 p2 = some r) :
  Calls Try.prog 75 [vI p0,v1_1,vI p2].toArray w0 (Rt w0 (vI r)):=by
 refine ce Try.func75 ?_
 intro a hE
 have hM:=M.start w0
 unfold XO at hF
 refine Zc (Zb hE rfl fun a hE=>Ze (wp_seq (Zc (Zd hE rfl ?_)))); intro a hE
 obtain ⟨r1,e2,hF⟩:=bind_some hF
 refine Zl hE rfl cb60 (Un _ p0 r1 e2) ?_
 rintro v w a ⟨rfl,hK⟩ hE
 have hM:=hM.keep hK
 refine VW hE rfl fun a hE=>Ze ?_
 refine Zm hE rfl ?_ ?_
 ·intro hb3
  have hF:=Zp hF hb3
  refine Zc (Zb hE rfl fun a hE=>Ze ?_)
  obtain rfl:=Option.some.inj hF
  exact wp_ret (Zr (kr1 hE rfl rfl hM.kept))
 ·intro hb3
  have hF:=Zo hF hb3
  refine wp_skip (Zx (Zc (Zd hE rfl ?_))); intro a hE
  obtain ⟨r4,e5,hF⟩:=bind_some hF
  refine Zl hE rfl (cbm Try.func80) (TM _ p1 v1_1 (hM.rdo hv1_1) r4 e5) ?_
  rintro v w a ⟨rfl,hK⟩ hE
  have hM:=hM.keep hK
  refine Zb hE rfl fun a hE=>Ze ?_
  obtain ⟨j6,hl7,hF8⟩:=bind_some hF
  refine ZB (fun a w=>Env 21 a [(7,vI j6)] ∧ M (Old w0) w0 w []) ?_ ?_
  ·skip
   obtain ⟨j9,hl10,hF11⟩:=bind_some hl7
   refine ZB (fun a w=>Env 21 a [(7,vI r4),(19,vT j9)] ∧ M (Old w0) w0 w []) ?_ ?_
   ·skip
    refine wp_region_lit (Zd hE rfl fun a hE=>Zk hE rfl rfl rfl fun a hE=>Zd hE rfl ?_); intro a hE
    refine ZZ (r4 == 0) (fun hb12=>?_) (fun hb12=>?_)
    ·have hl10:=Zp hl10 hb12
     refine Zh hE (Zf hE rfl (lkb rfl hb12)) (by decide) rfl ?_; intro a hE
     obtain ⟨r13,e14,hl10⟩:=bind_some hl10
     refine Z1 hE (Zf hE rfl (lkb rfl hb12)) (by decide) rfl (cbm Try.func91) (QE _ p2 1 8 r13 e14) ?_
     rintro v w a ⟨rfl,hK⟩ hE
     have hM:=hM.keep hK
     refine V7 hE (Zf hE rfl (lkb rfl hb12)) (by decide) rfl fun a hE=>ZC hE (lkb rfl hb12) rfl fun a hE=>Zi ?_
     obtain rfl:=Option.some.inj hl10
     refine Zj ?_
     exact ⟨hE.sub ⟨rfl,rfl,trivial⟩,hM⟩
    ·have hl10:=Zo hl10 hb12
     refine Zg hE rfl (lkb rfl hb12) rfl (by decide) fun a hE=>Zg hE rfl (lkb rfl hb12) rfl (by decide) fun a hE=>Zg hE rfl (lkb rfl hb12) rfl (by decide) fun a hE=>ZL hE (lkb rfl hb12) rfl fun a hE=>Zi ?_
     obtain rfl:=Option.some.inj hl10
     refine Zj ?_
     exact ⟨hE.sub ⟨rfl,rfl,trivial⟩,hM⟩
   ·skip
    rintro a w ⟨hE,hM⟩
    refine Zm hE rfl ?_ ?_
    ·intro hb17
     have hF11:=Zp hF11 hb17
     refine wp_region_lit (Zb hE rfl fun a hE=>Zi ?_)
     obtain rfl:=Option.some.inj hF11
     refine Zj ?_
     exact ⟨hE.sub ⟨rfl,trivial⟩,hM⟩
    ·intro hb17
     have hF11:=Zo hF11 hb17
     refine wp_skip ?_
     obtain rfl:=Option.some.inj hF11
     refine Zj ?_
     exact ⟨hE.sub ⟨rfl,trivial⟩,hM⟩
  ·skip
   rintro a w ⟨hE,hM⟩
   refine Zc (Zd hE rfl fun a hE=>Zb hE rfl fun a hE=>Ze ?_)
   obtain rfl:=Option.some.inj hF8
   exact wp_ret (kr1 hE rfl rfl hM.kept)
def Wm (p0 : (List GShare)) (s8 : (List UInt8) × Int) : Option (Fl ((List UInt8) × Int) (List UInt8)) :=
 if (decide (s8.2 < (p0.length : Int))) = true then ((idx p0 s8.2).bind fun x15=>(app 1 s8.1 ([x15.Place] : List UInt8)).bind fun l25=>some (Fl.nx ((s8.1 ++ ([x15.Place] : List UInt8)),wr (s8.2 + 1)))) else (some (Fl.ex s8.1))
def Wx (p0 : (List GShare)) : Option ((List UInt8)) :=
 (ZJ (Wm p0) (([] : List UInt8),0)).bind fun j3=>some j3
theorem Kn (w0 : World) (p0 : (List GShare)) (v0_1 : Value) (hv0_1 : Ro w0 p0 [v0_1]) (r : (List UInt8)) (hF : Wx p0 = some r) :
  Calls Try.prog 134 [v0_1].toArray w0 (fun en w'=>∃ v,en = .returned v ∧ (∃ (y1 : Value),v = y1 ∧ Fr w0 w' [osl NoB (r : List UInt8) y1] ∧ Kept (Old w0) w0 w')):=by
 refine ce Try.func134 ?_
 intro a hE
 have hM:=M.start w0
 unfold Wx at hF
 refine Zc (Zb hE rfl fun a hE=>Ze (Zc (ZE (xs:=[]) (l:=([] : List UInt8)) (vs:=[]) hE hM Za ld rfl rfl Try.underlying22 ty5 rfl (by decide) rfl fun u1 w a hM hE=>Zb hE rfl fun a hE=>Ze (wp_seq (Zc (Zb hE rfl fun a hE=>Ze ?_))))))
 obtain ⟨j3,hl4,hF5⟩:=bind_some hF
 refine Z6 (fun a w=>∃ (u6 : Value),Env 21 a [(3,u6)] ∧ M (Old w0) w0 w [osl NoB (j3 : List UInt8) u6]) ?_ ?_
 ·skip
  refine wp_block ?_
  refine ZO (fun (s8 : (List UInt8) × Int) a w=>∃ (u9 : Value),Env 21 a [(0,v0_1),(3,u9),(4,vI s8.2)] ∧ M (Old w0) w0 w [osl NoB (s8.1 : List UInt8) u9]) hl4 ⟨u1,hE.sub ⟨rfl,rfl,rfl,trivial⟩,hM⟩ ?_
  rintro s8 a w ⟨u9,hE,hM⟩ o13 hs11 hx12
  unfold Wm at hs11
  refine wp_seq (Zc (Zd hE rfl fun a hE=>Zd hE rfl fun a hE=>ZQ hE rfl Try.underlying27 (hM.rd hv0_1) fun a hE=>Zk hE rfl rfl rfl fun a hE=>Ze ?_))
  refine Zm hE rfl ?_ ?_
  ·intro hb14
   have hs11:=Zp hs11 hb14
   refine wp_skip (Zx (wp_seq (wp_block (wp_region_lit (Zd hE rfl fun a hE=>Zd hE rfl fun a hE=>Zd hE rfl ?_))))); intro a hE
   obtain ⟨x15,hi17,hs11⟩:=bix hs11
   refine ZD hE rfl rfl Try.underlying27 ZU (hM.rd hv0_1) hi17.1 fun a hE=>ZA hE rfl (Wn) ?_; intro a hE
   obtain ⟨cs18,hs19,hA20⟩:=Yc hv0_1 hi17.2 -- ^
   obtain ⟨u21,rfl,h22⟩:=ZW hs19 -- ^
   refine ZM (v:=(vB x15.Place)) hE rfl ty5 rfl (At.cat (pre:=[]) (hM.atk hA20 (YI hv0_1 hi17.2)) cl0) fun a hE=>ZE (xs:=[.tmp 17]) (l:=([x15.Place] : List UInt8)) (vs:=[vB x15.Place]) hE hM Za ld rfl rfl Try.underlying22 ty5 rfl (by decide) rfl ?_; intro u23 w a hM hE
   obtain ⟨l25,e26,hs11⟩:=bind_some hs11
   obtain ⟨e29,rfl⟩:=Yi e26
   have hM:=hM.pull1
   refine YE hE hM Za ld rfl rfl (hM.sl (pre:=[_]) noB) Try.underlying22 ty5 rfl (by decide) e29 fun u27 w a hM hE=>Zb hE rfl fun a hE=>Zi (YK (Zx (wp_region_lit (Zd hE rfl fun a hE=>Zk hE rfl rfl rfl fun a hE=>Zb hE rfl fun a hE=>Zi (Zj ?_)))))
   have hM:=M.fst (l:=[_]) hM
   exact ⟨_,(ois hs11),u27,hE.sub ⟨rfl,rfl,rfl,trivial⟩,hM⟩
  ·intro hb14
   have hs11:=Zo hs11 hb14
   refine wp_exit (Zs (Zs (Y6 ?_)))
   obtain rfl:=hx12 _ (ois hs11)
   refine Zj ?_
   exact ⟨u9,hE.sub ⟨rfl,trivial⟩,hM⟩
 ·skip
  rintro a w ⟨u6,hE,hM⟩
  refine Zx (Zc (Zd hE rfl fun a hE=>Zb hE rfl fun a hE=>Ze ?_))
  obtain rfl:=Option.some.inj hF5
  exact wp_ret (Y7 hE rfl (Zq hE rfl) ⟨_,rfl,u6,rfl,hM.outF (YG YP),hM.kept⟩)
def Vy (p0 : Int) (s4 : UInt8 × Int × UInt8) : Option (Fl (UInt8 × Int × UInt8) UInt8) :=
 if (decide (s4.2.1 > 0)) = true then (((if ((Int.tmod s4.2.1 2) == 1) = true then ((Ye p0 s4.2.2 s4.1).bind fun r16=>some r16) else (some s4.2.2) : Option (UInt8)).bind fun j12=>(Ye p0 s4.1 s4.1).bind fun r20=>some (r20,j12) : Option (UInt8 × UInt8)).bind fun j9=>some (Fl.nx (j9.1,wr (Int.tdiv s4.2.1 2),j9.2))) else (some (Fl.ex s4.2.2))
def X5 (p0 : Int) (p1 : UInt8) (p2 : Int) : Option (UInt8) :=
 (ZJ (Vy p0) (p1,p2,1)).bind fun j1=>some j1
theorem K7 (w0 : World) (p0 : Int) (p1 : UInt8) (p2 : Int) (r : UInt8) (hF : X5 p0 p1 p2 = some r) :
  Calls Try.prog 204 [vI p0,vB p1,vI p2].toArray w0 (Rt w0 (vB r)):=by
 refine ce Try.func204 ?_
 intro a hE
 have hM:=M.start w0
 unfold X5 at hF
 refine Zc (Zb hE rfl fun a hE=>Ze (Zc (Zb hE rfl fun a hE=>Ze ?_)))
 obtain ⟨j1,hl2,hF3⟩:=bind_some hF
 refine ZB (fun a w=>Env 24 a [(7,vB j1)] ∧ M (Old w0) w0 w []) ?_ ?_
 ·skip
  refine wp_block ?_
  refine ZO (fun (s4 : UInt8 × Int × UInt8) a w=>Env 24 a [(0,vI p0),(1,vB s4.1),(2,vI s4.2.1),(7,vB s4.2.2)] ∧ M (Old w0) w0 w []) hl2 ⟨hE.sub ⟨rfl,rfl,rfl,rfl,trivial⟩,hM⟩ ?_
  rintro s4 a w ⟨hE,hM⟩ o7 hs5 hx6
  unfold Vy at hs5
  refine wp_seq (Zc (Zd hE rfl fun a hE=>Zk hE rfl rfl rfl fun a hE=>Ze ?_))
  refine Zm hE rfl ?_ ?_
  ·intro hb8
   have hs5:=Zp hs5 hb8
   refine wp_skip (Zx ?_)
   obtain ⟨j9,hl10,hF11⟩:=bind_some hs5
   refine ZB (fun a w=>Env 24 a [(0,vI p0),(1,vB j9.1),(2,vI s4.2.1),(7,vB j9.2)] ∧ M (Old w0) w0 w []) ?_ ?_
   ·skip
    refine wp_block ?_
    obtain ⟨j12,hl13,hF14⟩:=bind_some hl10
    refine ZB (fun a w=>Env 24 a [(0,vI p0),(1,vB s4.1),(2,vI s4.2.1),(7,vB j12)] ∧ M (Old w0) w0 w []) ?_ ?_
    ·skip
     refine Zc (Zd hE rfl fun a hE=>Zk hE rfl rfl (Kq _ _ (by decide)) fun a hE=>Zk hE rfl rfl rfl fun a hE=>Ze ?_)
     refine Zm hE rfl ?_ ?_
     ·intro hb15
      have hl13:=Zp hl13 hb15
      refine wp_region_lit (Zd hE rfl fun a hE=>Zd hE rfl fun a hE=>Zd hE rfl ?_); intro a hE
      obtain ⟨r16,e17,hl13⟩:=bind_some hl13
      refine Zl hE rfl JG (Xv _ p0 s4.2.2 s4.1 r16 e17) ?_
      rintro v w a ⟨rfl,hK⟩ hE
      have hM:=hM.keep hK
      refine Zb hE rfl fun a hE=>Zi ?_
      obtain rfl:=Option.some.inj hl13
      refine Zj ?_
      exact ⟨hE.sub ⟨rfl,rfl,rfl,rfl,trivial⟩,hM⟩
     ·intro hb15
      have hl13:=Zo hl13 hb15
      refine wp_skip ?_
      obtain rfl:=Option.some.inj hl13
      refine Zj ?_
      exact ⟨hE.sub ⟨rfl,rfl,rfl,rfl,trivial⟩,hM⟩
    ·skip
     rintro a w ⟨hE,hM⟩
     refine wp_region_lit (Zd hE rfl fun a hE=>Zd hE rfl fun a hE=>Zd hE rfl ?_); intro a hE
     obtain ⟨r20,e21,hF14⟩:=bind_some hF14
     refine Zl hE rfl JG (Xv _ p0 s4.1 s4.1 r20 e21) ?_
     rintro v w a ⟨rfl,hK⟩ hE
     have hM:=hM.keep hK
     refine Zb hE rfl fun a hE=>Zi (YK ?_)
     obtain rfl:=Option.some.inj hF14
     refine Zj ?_
     exact ⟨hE.sub ⟨rfl,rfl,rfl,rfl,trivial⟩,hM⟩
   ·skip
    rintro a w ⟨hE,hM⟩
    refine wp_region_lit (Zd hE rfl fun a hE=>Zk hE rfl rfl (HD _ _ (by decide)) fun a hE=>Zb hE rfl fun a hE=>Zi (Zj ?_))
    exact ⟨_,(ois hF11),hE.sub ⟨rfl,rfl,rfl,rfl,trivial⟩,hM⟩
  ·intro hb8
   have hs5:=Zo hs5 hb8
   refine wp_exit (Zs (Zs (Y6 ?_)))
   obtain rfl:=hx6 _ (ois hs5)
   refine Zj ?_
   exact ⟨hE.sub ⟨rfl,trivial⟩,hM⟩
 ·skip
  rintro a w ⟨hE,hM⟩
  refine Zc (Zd hE rfl fun a hE=>Zb hE rfl fun a hE=>Ze ?_)
  obtain rfl:=Option.some.inj hF3
  exact wp_ret (kr1 hE rfl rfl hM.kept)
def VG (p0 : Int) (p1 : UInt8) : Option (UInt8) :=
 (X5 p0 p1 254).bind fun r1=>some r1
theorem J6 (w0 : World) (p0 : Int) (p1 : UInt8) (r : UInt8) (hF : VG p0 p1 = some r) :
  Calls Try.prog 181 [vI p0,vB p1].toArray w0 (Rt w0 (vB r)):=by
 refine ce Try.func181 ?_
 intro a hE
 have hM:=M.start w0
 unfold VG at hF
 refine Zc (Zb hE rfl fun a hE=>Ze (Zc (Zd hE rfl fun a hE=>Zd hE rfl ?_))); intro a hE
 obtain ⟨r1,e2,hF⟩:=bind_some hF
 refine Zl hE rfl (cbm Try.func204) (K7 _ p0 p1 254 r1 e2) ?_
 rintro v w a ⟨rfl,hK⟩ hE
 have hM:=hM.keep hK
 refine Zb hE rfl fun a hE=>Ze ?_
 obtain rfl:=Option.some.inj hF
 exact wp_ret (kr1 hE rfl rfl hM.kept)
def Ys (p0 : Int) (p1 : (List UInt8)) (s24 : UInt8 × Int × (List UInt8)) (s47 : (List UInt8) × Int) : Option (Fl ((List UInt8) × Int) (List UInt8)) :=
 if (decide (s47.2 < (s24.2.2.length : Int))) = true then (((idx s47.1 s47.2).bind fun x60=>(idx s24.2.2 s47.2).bind fun x63=>(idx p1 s24.2.1).bind fun x66=>(Ye p0 x63 x66).bind fun r69=>(idx s47.1 s47.2).bind fun x71=>some (s47.1.set (s47.2).toNat (x60 ^^^ r69)) : Option ((List UInt8))).bind fun j54=>(idx j54 (wr (s47.2 + 1))).bind fun x76=>(idx s24.2.2 s47.2).bind fun x79=>(idx j54 (wr (s47.2 + 1))).bind fun x82=>some (Fl.nx ((j54.set ((wr (s47.2 + 1))).toNat (x76 ^^^ x79)),wr (s47.2 + 1)))) else (some (Fl.ex s47.1))
def Yv (p0 : Int) (p1 : (List UInt8)) (s10 : (List UInt8) × Int) (s24 : UInt8 × Int × (List UInt8)) : Option (Fl (UInt8 × Int × (List UInt8)) (UInt8 × (List UInt8))) :=
 if (decide (s24.2.1 < (p1.length : Int))) = true then ((if (s24.2.1 == s10.2) = true then (some (s24.1,s24.2.2)) else ((mkS 1 (0 : UInt8) (wr ((s24.2.2.length : Int) + 1))).bind fun l38=>(ZJ (Ys p0 p1 s24) (l38,0)).bind fun j42=>(idx p1 s10.2).bind fun x87=>(idx p1 s24.2.1).bind fun x90=>(Ye p0 s24.1 (x87 ^^^ x90)).bind fun r93=>some (r93,j42)) : Option (UInt8 × (List UInt8))).bind fun j31=>some (Fl.nx (j31.1,wr (s24.2.1 + 1),j31.2))) else (some (Fl.ex (s24.1,s24.2.2)))
def Yq (p0 : Int) (j19 : UInt8 × (List UInt8)) (j97 : UInt8) (s114 : Int × (List UInt8)) : Option (Fl (Int × (List UInt8)) (List UInt8)) :=
 if (decide (s114.1 < (j19.2.length : Int))) = true then ((idx s114.2 s114.1).bind fun x122=>(idx j19.2 s114.1).bind fun x125=>(Ye p0 x125 j97).bind fun r128=>(idx s114.2 s114.1).bind fun x130=>some (Fl.nx (wr (s114.1 + 1),(s114.2.set (s114.1).toNat (x122 ^^^ r128))))) else (some (Fl.ex s114.2))
def Yw (p0 : Int) (p1 : (List UInt8)) (p2 : (List UInt8)) (s10 : (List UInt8) × Int) : Option (Fl ((List UInt8) × Int) (List UInt8)) :=
 if (decide (s10.2 < (p1.length : Int))) = true then ((ZJ (Yv p0 p1 s10) (1,0,([1] : List UInt8))).bind fun j19=>((idx p2 s10.2).bind fun x101=>(VG p0 j19.1).bind fun r104=>(Ye p0 x101 r104).bind fun r106=>some r106 : Option (UInt8)).bind fun j97=>(ZJ (Yq p0 j19 j97) (0,s10.1)).bind fun j109=>some (Fl.nx (j109,wr (s10.2 + 1)))) else (some (Fl.ex s10.1))
def Y5 (p0 : Int) (p1 : (List UInt8)) (p2 : (List UInt8)) : Option ((List UInt8)) :=
 (mkS 1 (0 : UInt8) (p1.length : Int)).bind fun l1=>(ZJ (Yw p0 p1 p2) (l1,0)).bind fun j5=>some j5
theorem TH (w0 : World) (p0 : Int) (p1 : (List UInt8)) (v1_1 : Value) (hv1_1 : Ro w0 p1 [v1_1]) (p2 : (List UInt8)) (v2_1 : Value) (hv2_1 : Ro w0 p2 [v2_1]) (r : (List UInt8)) (hF : Y5 p0 p1 p2 = some r) :
  Calls Try.prog 135 [vI p0,v1_1,v2_1].toArray w0 (fun en w'=>∃ v,en = .returned v ∧ (∃ (y1 : Value),v = y1 ∧ Fr w0 w' [osl NoB (r : List UInt8) y1] ∧ Kept (Old w0) w0 w')):=by
 refine ce Try.func135 ?_
 intro a hE
 have hM:=M.start w0
 unfold Y5 at hF
 refine Zc (Zb hE rfl fun a hE=>Ze (Zc (Zd hE rfl fun a hE=>ZQ hE rfl Try.underlying22 (hM.rd hv1_1) ?_))); intro a hE
 obtain ⟨l1,e2,hF⟩:=bind_some hF
 refine HH hE hM Za ld rfl rfl Try.underlying22 ty5 rfl (by decide) (fun _=>QG.2 ⟨rfl,rfl⟩) e2 fun u3 w a hM hE=>Zb hE rfl fun a hE=>Ze (wp_seq (Zc (Zb hE rfl fun a hE=>Ze ?_)))
 obtain ⟨j5,hl6,hF7⟩:=bind_some hF
 refine Z6 (fun a w=>∃ (u8 : Value),Env 121 a [(7,u8)] ∧ M (Old w0) w0 w [osl NoB (j5 : List UInt8) u8]) ?_ ?_
 ·skip
  refine wp_block ?_
  refine ZO (fun (s10 : (List UInt8) × Int) a w=>∃ (u11 : Value),Env 121 a [(0,vI p0),(1,v1_1),(2,v2_1),(7,u11),(8,vI s10.2)] ∧ M (Old w0) w0 w [osl NoB (s10.1 : List UInt8) u11]) hl6 ⟨u3,hE.sub ⟨rfl,rfl,rfl,rfl,rfl,trivial⟩,hM⟩ ?_
  rintro s10 a w ⟨u11,hE,hM⟩ o15 hs13 hx14
  unfold Yw at hs13
  refine wp_seq (Zc (Zd hE rfl fun a hE=>Zd hE rfl fun a hE=>ZQ hE rfl Try.underlying22 (hM.rd hv1_1) fun a hE=>Zk hE rfl rfl rfl fun a hE=>Ze ?_))
  refine Zm hE rfl ?_ ?_
  ·intro hb16
   have hs13:=Zp hs13 hb16
   refine wp_skip (Zx (wp_seq (wp_block (Zc (ZE (xs:=[.const (vB 1)]) (l:=([1] : List UInt8)) (vs:=[vB 1]) hE hM Za ld rfl rfl Try.underlying22 ty5 rfl (by decide) rfl fun u17 w a hM hE=>Zb hE rfl fun a hE=>Zb hE rfl fun a hE=>Ze (wp_seq (Zc (Zb hE rfl fun a hE=>Ze ?_))))))))
   obtain ⟨j19,hl20,hF21⟩:=bind_some hs13
   refine Z6 (fun a w=>∃ (u22 : Value),Env 121 a [(0,vI p0),(1,v1_1),(2,v2_1),(7,u11),(8,vI s10.2),(9,u22),(10,vB j19.1)] ∧ M (Old w0) w0 w [osl NoB (s10.1 : List UInt8) u11,osl NoB (j19.2 : List UInt8) u22]) ?_ ?_
   ·skip
    refine wp_block ?_
    have hM:=hM.pull1
    refine ZO (fun (s24 : UInt8 × Int × (List UInt8)) a w=>∃ (u25 : Value),Env 121 a [(0,vI p0),(1,v1_1),(2,v2_1),(7,u11),(8,vI s10.2),(9,u25),(10,vB s24.1),(11,vI s24.2.1)] ∧ M (Old w0) w0 w [osl NoB (s10.1 : List UInt8) u11,osl NoB (s24.2.2 : List UInt8) u25]) hl20 ⟨u17,hE.sub ⟨rfl,rfl,rfl,rfl,rfl,rfl,rfl,rfl,trivial⟩,hM⟩ ?_
    rintro s24 a w ⟨u25,hE,hM⟩ o29 hs27 hx28
    unfold Yv at hs27
    refine wp_seq (Zc (Zd hE rfl fun a hE=>Zd hE rfl fun a hE=>ZQ hE rfl Try.underlying22 (hM.rd hv1_1) fun a hE=>Zk hE rfl rfl rfl fun a hE=>Ze ?_))
    refine Zm hE rfl ?_ ?_
    ·intro hb30
     have hs27:=Zp hs27 hb30
     refine wp_skip (Zx ?_)
     obtain ⟨j31,hl32,hF33⟩:=bind_some hs27
     refine ZB (fun a w=>∃ (u34 : Value),Env 121 a [(0,vI p0),(1,v1_1),(2,v2_1),(7,u11),(8,vI s10.2),(9,u34),(10,vB j31.1),(11,vI s24.2.1)] ∧ M (Old w0) w0 w [osl NoB (s10.1 : List UInt8) u11,osl NoB (j31.2 : List UInt8) u34]) ?_ ?_
     ·skip
      refine wp_block (wp_seq (Zc (Zd hE rfl fun a hE=>Zd hE rfl fun a hE=>Zk hE rfl rfl rfl fun a hE=>Ze ?_)))
      refine Zm hE rfl ?_ ?_
      ·intro hb36
       have hl32:=Zp hl32 hb36
       refine wp_exit (Zs (Y6 ?_))
       obtain rfl:=Option.some.inj hl32
       refine Zj ?_
       exact ⟨u25,hE.sub ⟨rfl,rfl,rfl,rfl,rfl,rfl,rfl,rfl,trivial⟩,hM⟩
      ·intro hb36
       have hl32:=Zo hl32 hb36
       refine wp_skip (Zx (Zc (Zd hE rfl fun a hE=>ZQ hE rfl Try.underlying22 (hM.sl (pre:=[_]) noB) fun a hE=>Zk hE rfl rfl rfl ?_))); intro a hE
       obtain ⟨l38,e39,hl32⟩:=bind_some hl32
       refine HH hE hM Za ld rfl rfl Try.underlying22 ty5 rfl (by decide) (fun _=>QG.2 ⟨rfl,rfl⟩) e39 fun u40 w a hM hE=>Zb hE rfl fun a hE=>Ze (wp_seq (Zc (Zb hE rfl fun a hE=>Ze ?_)))
       obtain ⟨j42,hl43,hF44⟩:=bind_some hl32
       refine Z6 (fun a w=>∃ (u45 : Value),Env 121 a [(0,vI p0),(1,v1_1),(2,v2_1),(7,u11),(8,vI s10.2),(10,vB s24.1),(11,vI s24.2.1),(12,u45)] ∧ M (Old w0) w0 w [osl NoB (s10.1 : List UInt8) u11,osl NoB (j42 : List UInt8) u45]) ?_ ?_
       ·skip
        refine wp_block ?_
        have hM:=hM.pull2.pull2
        refine ZO (fun (s47 : (List UInt8) × Int) a w=>∃ (u48 : Value),Env 121 a [(0,vI p0),(1,v1_1),(2,v2_1),(7,u11),(8,vI s10.2),(9,u25),(10,vB s24.1),(11,vI s24.2.1),(12,u48),(13,vI s47.2)] ∧ M (Old w0) w0 w [osl NoB (s10.1 : List UInt8) u11,osl NoB (s24.2.2 : List UInt8) u25,osl NoB (s47.1 : List UInt8) u48]) hl43 ⟨u40,hE.sub ⟨rfl,rfl,rfl,rfl,rfl,rfl,rfl,rfl,rfl,rfl,trivial⟩,hM⟩ ?_
        rintro s47 a w ⟨u48,hE,hM⟩ o52 hs50 hx51
        unfold Ys at hs50
        refine wp_seq (Zc (Zd hE rfl fun a hE=>Zd hE rfl fun a hE=>ZQ hE rfl Try.underlying22 (hM.sl (pre:=[_]) noB) fun a hE=>Zk hE rfl rfl rfl fun a hE=>Ze ?_))
        refine Zm hE rfl ?_ ?_
        ·intro hb53
         have hs50:=Zp hs50 hb53
         refine wp_skip (Zx (wp_seq (wp_block ?_)))
         obtain ⟨j54,hl55,hF56⟩:=bind_some hs50
         refine ZB (fun a w=>∃ (u57 : Value),Env 121 a [(0,vI p0),(1,v1_1),(2,v2_1),(7,u11),(8,vI s10.2),(9,u25),(10,vB s24.1),(11,vI s24.2.1),(12,u57),(13,vI s47.2)] ∧ M (Old w0) w0 w [osl NoB (s10.1 : List UInt8) u11,osl NoB (s24.2.2 : List UInt8) u25,osl NoB (j54 : List UInt8) u57]) ?_ ?_
         ·skip
          obtain ⟨x60,hi62,hl55⟩:=bix hl55
          obtain ⟨x63,hi65,hl55⟩:=bix hl55
          obtain ⟨x66,hi68,hl55⟩:=bix hl55
          obtain ⟨r69,e70,hl55⟩:=bind_some hl55
          obtain ⟨x71,hi73,hl55⟩:=bix hl55
          refine Y4 [45,46,47,48,49,50,51,52,53,54,55,56,57,58,59,60,61,62] VC rfl rfl (by decide) rfl hE hM (qsP (fun z=>Zh z.E Za ld rfl (kr0 rfl)) (qsP (fun z=>Zh z.E Za ld rfl (kr0 rfl)) (qsP (fun z=>Zh z.E Za ld rfl (kr0 rfl)) (qsP (fun z=>Zh z.E Za ld rfl (kr0 rfl)) (qsP (fun z=>ZG z.E Za ld rfl rfl Try.underlying22 ty5 (z.M.sl (pre:=[_,_]) noB) hi62.1 (kr0 rfl)) (qsP (fun z=>ZK (v:=(vB x60)) z.E Za ld rfl ty5 rfl (Z4 (z.M.sl (pre:=[_,_]) noB) hi62.2) (kr0 rfl)) (qsP (fun z=>Zh z.E Za ld rfl (kr0 rfl)) (qsP (fun z=>Zh z.E Za ld rfl (kr0 rfl)) (qsP (fun z=>Zh z.E Za ld rfl (kr0 rfl)) (qsP (fun z=>ZG z.E Za ld rfl rfl Try.underlying22 ty5 (z.M.sl (pre:=[_]) noB) hi65.1 (kr0 rfl)) (qsP (fun z=>ZK (v:=(vB x63)) z.E Za ld rfl ty5 rfl (Z4 (z.M.sl (pre:=[_]) noB) hi65.2) (kr0 rfl)) (qsP (fun z=>Zh z.E Za ld rfl (kr0 rfl)) (qsP (fun z=>Zh z.E Za ld rfl (kr0 rfl)) (qsP (fun z=>ZG z.E Za ld rfl rfl Try.underlying22 ty5 (z.M.rd hv1_1) hi68.1 (kr0 rfl)) (qsP (fun z=>ZK (v:=(vB x66)) z.E Za ld rfl ty5 rfl (Z4 (z.M.rd hv1_1) hi68.2) (kr0 rfl)) (qsP (fun z=>Z1 z.E Za ld rfl JG (Xv _ p0 x63 x66 r69 e70) (kc rfl)) (qsP (v:=(vB (x60 ^^^ r69))) (fun z=>Z2 z.E Za ld rfl rfl (U0 x60 r69) (kr0 rfl)) (qsP (fun z=>ZG z.E Za ld rfl rfl Try.underlying22 ty5 (z.M.sl (pre:=[_,_]) noB) hi73.1 (kr0 rfl)) qs0)))))))))))))))))) ?_
          ·intro a w u hE hM
           have hM:=hM.pull2
           refine UH (i:=(s47.2).toNat) (k0:=0) (seg:=[(vB (x60 ^^^ r69))]) (xo:=x71) (xn:=x60 ^^^ r69) hE hM Za rfl rfl rfl ty5 rfl (Flat.cell (x60 ^^^ r69 : UInt8)) hi73.2 (Tm (m:=1) rfl (by decide)) (ZX rfl) fun w a hM hE=>Zi ?_
           obtain rfl:=Option.some.inj hl55
           refine Zj ?_
           have hM:=hM.pull2.pull2
           exact ⟨u48,hE.sub ⟨rfl,rfl,rfl,rfl,rfl,rfl,rfl,rfl,rfl,rfl,trivial⟩,hM⟩
         ·skip
          rintro a w ⟨u57,hE,hM⟩
          obtain ⟨x76,hi78,hF56⟩:=bix hF56
          obtain ⟨x79,hi81,hF56⟩:=bix hF56
          obtain ⟨x82,hi84,hF56⟩:=bix hF56
          refine Y4 [63,64,65,66,67,68,69,70,71,72,73,74,75,76] VC rfl rfl (by decide) rfl hE hM (qsP (fun z=>Zh z.E Za ld rfl (kr0 rfl)) (qsP (fun z=>Zh z.E Za ld rfl (kr0 rfl)) (qsP (v:=(vI (wr (s47.2 + 1)))) (fun z=>Z2 z.E Za ld rfl rfl rfl (kr0 rfl)) (qsP (fun z=>Zh z.E Za ld rfl (kr0 rfl)) (qsP (fun z=>Zh z.E Za ld rfl (kr0 rfl)) (qsP (v:=(vI (wr (s47.2 + 1)))) (fun z=>Z2 z.E Za ld rfl rfl rfl (kr0 rfl)) (qsP (fun z=>ZG z.E Za ld rfl rfl Try.underlying22 ty5 (z.M.sl (pre:=[_,_]) noB) hi78.1 (kr0 rfl)) (qsP (fun z=>ZK (v:=(vB x76)) z.E Za ld rfl ty5 rfl (Z4 (z.M.sl (pre:=[_,_]) noB) hi78.2) (kr0 rfl)) (qsP (fun z=>Zh z.E Za ld rfl (kr0 rfl)) (qsP (fun z=>Zh z.E Za ld rfl (kr0 rfl)) (qsP (fun z=>ZG z.E Za ld rfl rfl Try.underlying22 ty5 (z.M.sl (pre:=[_]) noB) hi81.1 (kr0 rfl)) (qsP (fun z=>ZK (v:=(vB x79)) z.E Za ld rfl ty5 rfl (Z4 (z.M.sl (pre:=[_]) noB) hi81.2) (kr0 rfl)) (qsP (v:=(vB (x76 ^^^ x79))) (fun z=>Z2 z.E Za ld rfl rfl (U0 x76 x79) (kr0 rfl)) (qsP (fun z=>ZG z.E Za ld rfl rfl Try.underlying22 ty5 (z.M.sl (pre:=[_,_]) noB) hi84.1 (kr0 rfl)) qs0)))))))))))))) ?_
          ·intro a w u hE hM
           have hM:=hM.pull2
           refine UH (i:=((wr (s47.2 + 1))).toNat) (k0:=0) (seg:=[(vB (x76 ^^^ x79))]) (xo:=x82) (xn:=x76 ^^^ x79) hE hM Za rfl rfl rfl ty5 rfl (Flat.cell (x76 ^^^ x79 : UInt8)) hi84.2 (Tm (m:=1) rfl (by decide)) (ZX rfl) fun w a hM hE=>Zi (YK (Zx (wp_region_lit (Zd hE rfl fun a hE=>Zk hE rfl rfl rfl fun a hE=>Zb hE rfl fun a hE=>Zi (Zj ?_)))))
           have hM:=hM.pull2.pull2
           exact ⟨_,(ois hF56),u57,hE.sub ⟨rfl,rfl,rfl,rfl,rfl,rfl,rfl,rfl,rfl,rfl,trivial⟩,hM⟩
        ·intro hb53
         have hs50:=Zo hs50 hb53
         refine wp_exit (Zs (Zs (Y6 ?_)))
         obtain rfl:=hx51 _ (ois hs50)
         refine Zj ?_
         have hM:=M.fst (l:=[_,_]) hM.pull2.pull1
         exact ⟨u48,hE.sub ⟨rfl,rfl,rfl,rfl,rfl,rfl,rfl,rfl,trivial⟩,hM⟩
       ·skip
        rintro a w ⟨u45,hE,hM⟩
        refine Zx (Zc (Zd hE rfl fun a hE=>Zb hE rfl fun a hE=>Ze ?_))
        obtain ⟨x87,hi89,hF44⟩:=bix hF44
        obtain ⟨x90,hi92,hF44⟩:=bix hF44
        obtain ⟨r93,e94,hF44⟩:=bind_some hF44
        refine Y4 [78,79,80,81,82,83,84,85,86,87,88,89] VC rfl rfl (by decide) rfl hE hM (qsP (fun z=>Zh z.E Za ld rfl (kr0 rfl)) (qsP (fun z=>Zh z.E Za ld rfl (kr0 rfl)) (qsP (fun z=>Zh z.E Za ld rfl (kr0 rfl)) (qsP (fun z=>Zh z.E Za ld rfl (kr0 rfl)) (qsP (fun z=>ZG z.E Za ld rfl rfl Try.underlying22 ty5 (z.M.rd hv1_1) hi89.1 (kr0 rfl)) (qsP (fun z=>ZK (v:=(vB x87)) z.E Za ld rfl ty5 rfl (Z4 (z.M.rd hv1_1) hi89.2) (kr0 rfl)) (qsP (fun z=>Zh z.E Za ld rfl (kr0 rfl)) (qsP (fun z=>Zh z.E Za ld rfl (kr0 rfl)) (qsP (fun z=>ZG z.E Za ld rfl rfl Try.underlying22 ty5 (z.M.rd hv1_1) hi92.1 (kr0 rfl)) (qsP (fun z=>ZK (v:=(vB x90)) z.E Za ld rfl ty5 rfl (Z4 (z.M.rd hv1_1) hi92.2) (kr0 rfl)) (qsP (v:=(vB (x87 ^^^ x90))) (fun z=>Z2 z.E Za ld rfl rfl (U0 x87 x90) (kr0 rfl)) (qsP (fun z=>Z1 z.E Za ld rfl JG (Xv _ p0 s24.1 (x87 ^^^ x90) r93 e94) (kc rfl)) qs0)))))))))))) ?_
        ·intro a w u hE hM
         refine Zb hE rfl fun a hE=>Zi (YK ?_)
         obtain rfl:=Option.some.inj hF44
         refine Zj ?_
         exact ⟨u45,hE.sub ⟨rfl,rfl,rfl,rfl,rfl,rfl,rfl,rfl,trivial⟩,hM⟩
     ·skip
      rintro a w ⟨u34,hE,hM⟩
      refine wp_region_lit (Zd hE rfl fun a hE=>Zk hE rfl rfl rfl fun a hE=>Zb hE rfl fun a hE=>Zi (Zj ?_))
      exact ⟨_,(ois hF33),u34,hE.sub ⟨rfl,rfl,rfl,rfl,rfl,rfl,rfl,rfl,trivial⟩,hM⟩
    ·intro hb30
     have hs27:=Zo hs27 hb30
     refine wp_exit (Zs (Zs (Y6 ?_)))
     obtain rfl:=hx28 _ (ois hs27)
     refine Zj ?_
     exact ⟨u25,hE.sub ⟨rfl,rfl,rfl,rfl,rfl,rfl,rfl,trivial⟩,hM⟩
   ·skip
    rintro a w ⟨u22,hE,hM⟩
    refine Zx ?_
    obtain ⟨j97,hl98,hF99⟩:=bind_some hF21
    refine ZB (fun a w=>Env 121 a [(0,vI p0),(1,v1_1),(2,v2_1),(7,u11),(8,vI s10.2),(9,u22),(14,vB j97)] ∧ M (Old w0) w0 w [osl NoB (s10.1 : List UInt8) u11,osl NoB (j19.2 : List UInt8) u22]) ?_ ?_
    ·skip
     obtain ⟨x101,hi103,hl98⟩:=bix hl98
     obtain ⟨r104,e105,hl98⟩:=bind_some hl98
     obtain ⟨r106,e107,hl98⟩:=bind_some hl98
     refine Y4 [90,91,92,93,94,95,96,97,98,14] VC rfl rfl (by decide) rfl hE hM (qsP (fun z=>Zh z.E Za ld rfl (kr0 rfl)) (qsP (fun z=>Zh z.E Za ld rfl (kr0 rfl)) (qsP (fun z=>Zh z.E Za ld rfl (kr0 rfl)) (qsP (fun z=>ZG z.E Za ld rfl rfl Try.underlying22 ty5 (z.M.rd hv2_1) hi103.1 (kr0 rfl)) (qsP (fun z=>ZK (v:=(vB x101)) z.E Za ld rfl ty5 rfl (Z4 (z.M.rd hv2_1) hi103.2) (kr0 rfl)) (qsP (fun z=>Zh z.E Za ld rfl (kr0 rfl)) (qsP (fun z=>Zh z.E Za ld rfl (kr0 rfl)) (qsP (fun z=>Z1 z.E Za ld rfl (cbm Try.func181) (J6 _ p0 j19.1 r104 e105) (kc rfl)) (qsP (fun z=>Z1 z.E Za ld rfl JG (Xv _ p0 x101 r104 r106 e107) (kc rfl)) (qsP (fun z=>QI z.E Za ld rfl (kr0 rfl)) qs0)))))))))) ?_
     ·intro a w u hE hM
      refine Zi ?_
      obtain rfl:=Option.some.inj hl98
      refine Zj ?_
      exact ⟨hE.sub ⟨rfl,rfl,rfl,rfl,rfl,rfl,rfl,trivial⟩,hM⟩
    ·skip
     rintro a w ⟨hE,hM⟩
     refine Zc (Zb hE rfl fun a hE=>Ze ?_)
     obtain ⟨j109,hl110,hF111⟩:=bind_some hF99
     refine Z6 (fun a w=>∃ (u112 : Value),Env 121 a [(0,vI p0),(1,v1_1),(2,v2_1),(7,u112),(8,vI s10.2)] ∧ M (Old w0) w0 w [osl NoB (j109 : List UInt8) u112]) ?_ ?_
     ·skip
      refine wp_block ?_
      have hM:=hM.pull1
      refine ZO (fun (s114 : Int × (List UInt8)) a w=>∃ (u115 : Value),Env 121 a [(0,vI p0),(1,v1_1),(2,v2_1),(7,u115),(8,vI s10.2),(9,u22),(14,vB j97),(15,vI s114.1)] ∧ M (Old w0) w0 w [osl NoB (j19.2 : List UInt8) u22,osl NoB (s114.2 : List UInt8) u115]) hl110 ⟨u11,hE.sub ⟨rfl,rfl,rfl,rfl,rfl,rfl,rfl,rfl,trivial⟩,hM⟩ ?_
      rintro s114 a w ⟨u115,hE,hM⟩ o119 hs117 hx118
      unfold Yq at hs117
      refine wp_seq (Zc (Zd hE rfl fun a hE=>Zd hE rfl fun a hE=>ZQ hE rfl Try.underlying22 (hM.sl (pre:=[]) noB) fun a hE=>Zk hE rfl rfl rfl fun a hE=>Ze ?_))
      refine Zm hE rfl ?_ ?_
      ·intro hb120
       have hs117:=Zp hs117 hb120
       refine wp_skip (Zx (wp_seq (wp_block ?_)))
       obtain ⟨x122,hi124,hs117⟩:=bix hs117
       obtain ⟨x125,hi127,hs117⟩:=bix hs117
       obtain ⟨r128,e129,hs117⟩:=bind_some hs117
       obtain ⟨x130,hi132,hs117⟩:=bix hs117
       refine Y4 [105,106,107,108,109,110,111,112,113,114,115,116,117,118,119] VC rfl rfl (by decide) rfl hE hM (qsP (fun z=>Zh z.E Za ld rfl (kr0 rfl)) (qsP (fun z=>Zh z.E Za ld rfl (kr0 rfl)) (qsP (fun z=>Zh z.E Za ld rfl (kr0 rfl)) (qsP (fun z=>Zh z.E Za ld rfl (kr0 rfl)) (qsP (fun z=>ZG z.E Za ld rfl rfl Try.underlying22 ty5 (z.M.sl (pre:=[_]) noB) hi124.1 (kr0 rfl)) (qsP (fun z=>ZK (v:=(vB x122)) z.E Za ld rfl ty5 rfl (Z4 (z.M.sl (pre:=[_]) noB) hi124.2) (kr0 rfl)) (qsP (fun z=>Zh z.E Za ld rfl (kr0 rfl)) (qsP (fun z=>Zh z.E Za ld rfl (kr0 rfl)) (qsP (fun z=>Zh z.E Za ld rfl (kr0 rfl)) (qsP (fun z=>ZG z.E Za ld rfl rfl Try.underlying22 ty5 (z.M.sl (pre:=[]) noB) hi127.1 (kr0 rfl)) (qsP (fun z=>ZK (v:=(vB x125)) z.E Za ld rfl ty5 rfl (Z4 (z.M.sl (pre:=[]) noB) hi127.2) (kr0 rfl)) (qsP (fun z=>Zh z.E Za ld rfl (kr0 rfl)) (qsP (fun z=>Z1 z.E Za ld rfl JG (Xv _ p0 x125 j97 r128 e129) (kc rfl)) (qsP (v:=(vB (x122 ^^^ r128))) (fun z=>Z2 z.E Za ld rfl rfl (U0 x122 r128) (kr0 rfl)) (qsP (fun z=>ZG z.E Za ld rfl rfl Try.underlying22 ty5 (z.M.sl (pre:=[_]) noB) hi132.1 (kr0 rfl)) qs0))))))))))))))) ?_
       ·intro a w u hE hM
        have hM:=hM.pull1
        refine UH (i:=(s114.1).toNat) (k0:=0) (seg:=[(vB (x122 ^^^ r128))]) (xo:=x130) (xn:=x122 ^^^ r128) hE hM Za rfl rfl rfl ty5 rfl (Flat.cell (x122 ^^^ r128 : UInt8)) hi132.2 (Tm (m:=1) rfl (by decide)) (ZX rfl) fun w a hM hE=>Zi (YK (Zx (wp_region_lit (Zd hE rfl fun a hE=>Zk hE rfl rfl rfl fun a hE=>Zb hE rfl fun a hE=>Zi (Zj ?_)))))
        have hM:=hM.pull1
        exact ⟨_,(ois hs117),u115,hE.sub ⟨rfl,rfl,rfl,rfl,rfl,rfl,rfl,rfl,trivial⟩,hM⟩
      ·intro hb120
       have hs117:=Zo hs117 hb120
       refine wp_exit (Zs (Zs (Y6 ?_)))
       obtain rfl:=hx118 _ (ois hs117)
       refine Zj ?_
       have hM:=M.fst (l:=[_]) hM.pull1
       exact ⟨u115,hE.sub ⟨rfl,rfl,rfl,rfl,rfl,trivial⟩,hM⟩
     ·skip
      rintro a w ⟨u112,hE,hM⟩
      refine YK (Zx (wp_region_lit (Zd hE rfl fun a hE=>Zk hE rfl rfl rfl fun a hE=>Zb hE rfl fun a hE=>Zi (Zj ?_))))
      exact ⟨_,(ois hF111),u112,hE.sub ⟨rfl,rfl,rfl,rfl,rfl,trivial⟩,hM⟩
  ·intro hb16
   have hs13:=Zo hs13 hb16
   refine wp_exit (Zs (Zs (Y6 ?_)))
   obtain rfl:=hx14 _ (ois hs13)
   refine Zj ?_
   exact ⟨u11,hE.sub ⟨rfl,trivial⟩,hM⟩
 ·skip
  rintro a w ⟨u8,hE,hM⟩
  refine Zx (Zc (Zd hE rfl fun a hE=>Zb hE rfl fun a hE=>Ze ?_))
  obtain rfl:=Option.some.inj hF7
  exact wp_ret (Y7 hE rfl (Zq hE rfl) ⟨_,rfl,u8,rfl,hM.outF (YG YP),hM.kept⟩)
def VH (p1 : (List GShare)) (s11 : (List UInt8) × Int) (s33 : (List UInt8) × Int) : Option (Fl ((List UInt8) × Int) (List UInt8)) :=
 if (decide (s33.2 < (p1.length : Int))) = true then ((idx p1 s33.2).bind fun x40=>(idx x40.Data s11.2).bind fun x48=>(app 1 s33.1 ([x48] : List UInt8)).bind fun l53=>some (Fl.nx ((s33.1 ++ ([x48] : List UInt8)),wr (s33.2 + 1)))) else (some (Fl.ex s33.1))
def Ve (p0 : Int) (p1 : (List GShare)) (p2 : UInt8) (r1 : (List UInt8)) (s11 : (List UInt8) × Int) : Option (Fl ((List UInt8) × Int) (List UInt8)) :=
 (idx p1 (0 : Int)).bind fun x17=>if (decide (s11.2 < (x17.Data.length : Int))) = true then ((ZJ (VH p1 s11) (([] : List UInt8),0)).bind fun j28=>(Y5 p0 r1 j28).bind fun r59=>(Wf p0 r59 p2).bind fun r62=>(app 1 s11.1 ([r62] : List UInt8)).bind fun l66=>some (Fl.nx ((s11.1 ++ ([r62] : List UInt8)),wr (s11.2 + 1)))) else (some (Fl.ex s11.1))
def WQ (p0 : Int) (p1 : (List GShare)) (p2 : UInt8) : Option ((List UInt8)) :=
 (Wx p1).bind fun r1=>(ZJ (Ve p0 p1 p2 r1) (([] : List UInt8),0)).bind fun j6=>some j6
theorem To (w0 : World) (p0 : Int) (p1 : (List GShare)) (v1_1 : Value) (hv1_1 : Ro w0 p1 [v1_1]) (p2 : UInt8) (r : (List UInt8)) (hF : WQ p0 p1 p2 = some r) :
  Calls Try.prog 77 [vI p0,v1_1,vB p2].toArray w0 (fun en w'=>∃ v,en = .returned v ∧ (∃ (y1 : Value),v = y1 ∧ Fr w0 w' [osl NoB (r : List UInt8) y1] ∧ Kept (Old w0) w0 w')):=by
 refine ce Try.func77 ?_
 intro a hE
 have hM:=M.start w0
 unfold WQ at hF
 refine Zc (Zb hE rfl fun a hE=>Ze (Zc (Zd hE rfl ?_))); intro a hE
 obtain ⟨r1,e2,hF⟩:=bind_some hF
 refine Zl hE rfl (cbm Try.func134) (Kn _ p1 v1_1 (hM.rdo hv1_1) r1 e2) ?_
 rintro u3 w a ⟨_,rfl,hFr,hK⟩ hE
 have hM:=hM.add hK hFr
 refine ZE (xs:=[]) (l:=([] : List UInt8)) (vs:=[]) hE hM Za ld rfl rfl Try.underlying22 ty5 rfl (by decide) rfl fun u4 w a hM hE=>Zb hE rfl fun a hE=>Zb hE rfl fun a hE=>Ze (wp_seq (Zc (Zb hE rfl fun a hE=>Ze ?_)))
 obtain ⟨j6,hl7,hF8⟩:=bind_some hF
 refine Z6 (fun a w=>∃ (u9 : Value),Env 53 a [(8,u9)] ∧ M (Old w0) w0 w [osl NoB (j6 : List UInt8) u9]) ?_ ?_
 ·skip
  refine wp_block ?_
  have hM:=hM.pull1
  refine ZO (fun (s11 : (List UInt8) × Int) a w=>∃ (u12 : Value),Env 53 a [(0,vI p0),(1,v1_1),(2,vB p2),(7,u3),(8,u12),(9,vI s11.2)] ∧ M (Old w0) w0 w [osl NoB (r1 : List UInt8) u3,osl NoB (s11.1 : List UInt8) u12]) hl7 ⟨u4,hE.sub ⟨rfl,rfl,rfl,rfl,rfl,rfl,trivial⟩,hM⟩ ?_
  rintro s11 a w ⟨u12,hE,hM⟩ o16 hs14 hx15
  unfold Ve at hs14
  refine wp_seq (Zc (Zd hE rfl fun a hE=>Zd hE rfl ?_)); intro a hE
  obtain ⟨x17,hi19,hs14⟩:=bix hs14
  refine ZD hE rfl rfl Try.underlying27 ZU (hM.rd hv1_1) hi19.1 fun a hE=>ZA hE rfl (YL) ?_; intro a hE
  obtain ⟨cs20,hs21,hA22⟩:=Yc hv1_1 hi19.2 -- ^
  obtain ⟨u23,rfl,h24⟩:=ZW hs21 -- ^
  refine ZM (v:=u23) hE rfl YS rfl (At.cat (pre:=[[vB x17.Place]]) (hM.atk hA22 (YI hv1_1 hi19.2)) ck) fun a hE=>ZQ hE rfl Try.underlying22 (hM.rd h24) fun a hE=>Zk hE rfl rfl rfl fun a hE=>Ze ?_
  refine Zm hE rfl ?_ ?_
  ·intro hb25
   have hs14:=Zp hs14 hb25
   refine wp_skip (Zx (wp_seq (wp_block (Zc (ZE (xs:=[]) (l:=([] : List UInt8)) (vs:=[]) hE hM Za ld rfl rfl Try.underlying22 ty5 rfl (by decide) rfl fun u26 w a hM hE=>Zb hE rfl fun a hE=>Ze (wp_seq (Zc (Zb hE rfl fun a hE=>Ze ?_))))))))
   obtain ⟨j28,hl29,hF30⟩:=bind_some hs14
   refine Z6 (fun a w=>∃ (u31 : Value),Env 53 a [(0,vI p0),(1,v1_1),(2,vB p2),(7,u3),(8,u12),(9,vI s11.2),(10,u31)] ∧ M (Old w0) w0 w [osl NoB (r1 : List UInt8) u3,osl NoB (s11.1 : List UInt8) u12,osl NoB (j28 : List UInt8) u31]) ?_ ?_
   ·skip
    refine wp_block ?_
    have hM:=hM.pull2.pull2
    refine ZO (fun (s33 : (List UInt8) × Int) a w=>∃ (u34 : Value),Env 53 a [(0,vI p0),(1,v1_1),(2,vB p2),(7,u3),(8,u12),(9,vI s11.2),(10,u34),(11,vI s33.2)] ∧ M (Old w0) w0 w [osl NoB (r1 : List UInt8) u3,osl NoB (s11.1 : List UInt8) u12,osl NoB (s33.1 : List UInt8) u34]) hl29 ⟨u26,hE.sub ⟨rfl,rfl,rfl,rfl,rfl,rfl,rfl,rfl,trivial⟩,hM⟩ ?_
    rintro s33 a w ⟨u34,hE,hM⟩ o38 hs36 hx37
    unfold VH at hs36
    refine wp_seq (Zc (Zd hE rfl fun a hE=>Zd hE rfl fun a hE=>ZQ hE rfl Try.underlying27 (hM.rd hv1_1) fun a hE=>Zk hE rfl rfl rfl fun a hE=>Ze ?_))
    refine Zm hE rfl ?_ ?_
    ·intro hb39
     have hs36:=Zp hs36 hb39
     refine wp_skip (Zx (wp_seq (wp_block (wp_region_lit (Zd hE rfl fun a hE=>Zd hE rfl fun a hE=>Zd hE rfl ?_))))); intro a hE
     obtain ⟨x40,hi42,hs36⟩:=bix hs36
     refine ZD hE rfl rfl Try.underlying27 ZU (hM.rd hv1_1) hi42.1 fun a hE=>ZA hE rfl (YL) ?_; intro a hE
     obtain ⟨cs43,hs44,hA45⟩:=Yc hv1_1 hi42.2 -- ^
     obtain ⟨u46,rfl,h47⟩:=ZW hs44 -- ^
     refine ZM (v:=u46) hE rfl YS rfl (At.cat (pre:=[[vB x40.Place]]) (hM.atk hA45 (YI hv1_1 hi42.2)) ck) fun a hE=>Zd hE rfl ?_; intro a hE
     obtain ⟨x48,hi50,hs36⟩:=bix hs36
     refine ZD hE rfl rfl Try.underlying22 ty5 (hM.rd h47) hi50.1 fun a hE=>ZM (v:=(vB x48)) hE rfl ty5 rfl (Z4 (hM.rd h47) hi50.2) fun a hE=>ZE (xs:=[.tmp 39]) (l:=([x48] : List UInt8)) (vs:=[vB x48]) hE hM Za ld rfl rfl Try.underlying22 ty5 rfl (by decide) rfl ?_; intro u51 w a hM hE
     obtain ⟨l53,e54,hs36⟩:=bind_some hs36
     obtain ⟨e57,rfl⟩:=Yi e54
     have hM:=hM.pull3
     refine YE hE hM Za ld rfl rfl (hM.sl (pre:=[_]) noB) Try.underlying22 ty5 rfl (by decide) e57 fun u55 w a hM hE=>Zb hE rfl fun a hE=>Zi (YK (Zx (wp_region_lit (Zd hE rfl fun a hE=>Zk hE rfl rfl rfl fun a hE=>Zb hE rfl fun a hE=>Zi (Zj ?_)))))
     have hM:=M.fst (l:=[_,_,_]) hM.pull3.pull3
     exact ⟨_,(ois hs36),u55,hE.sub ⟨rfl,rfl,rfl,rfl,rfl,rfl,rfl,rfl,trivial⟩,hM⟩
    ·intro hb39
     have hs36:=Zo hs36 hb39
     refine wp_exit (Zs (Zs (Y6 ?_)))
     obtain rfl:=hx37 _ (ois hs36)
     refine Zj ?_
     exact ⟨u34,hE.sub ⟨rfl,rfl,rfl,rfl,rfl,rfl,rfl,trivial⟩,hM⟩
   ·skip
    rintro a w ⟨u31,hE,hM⟩
    refine Zx (wp_region_lit (Zd hE rfl fun a hE=>Zd hE rfl fun a hE=>Zd hE rfl fun a hE=>Zd hE rfl fun a hE=>Zd hE rfl ?_)); intro a hE
    obtain ⟨r59,e60,hF30⟩:=bind_some hF30
    refine Zl hE rfl (cbm Try.func135) (TH _ p0 r1 u3 (hM.sl (pre:=[]) noB) j28 u31 (hM.sl (pre:=[_,_]) noB) r59 e60) ?_
    rintro u61 w a ⟨_,rfl,hFr,hK⟩ hE
    have hM:=hM.add hK hFr
    refine Zd hE rfl ?_; intro a hE
    obtain ⟨r62,e63,hF30⟩:=bind_some hF30
    refine Zl hE rfl (cbm Try.func126) (TE _ p0 r59 u61 (hM.sl (pre:=[]) noB) p2 r62 e63) ?_
    rintro v w a ⟨rfl,hK⟩ hE
    have hM:=hM.keep hK
    refine ZE (xs:=[.tmp 49]) (l:=([r62] : List UInt8)) (vs:=[vB r62]) hE hM Za ld rfl rfl Try.underlying22 ty5 rfl (by decide) rfl ?_; intro u64 w a hM hE
    obtain ⟨l66,e67,hF30⟩:=bind_some hF30
    obtain ⟨e70,rfl⟩:=Yi e67
    have hM:=hM.pull3
    refine YE hE hM Za ld rfl rfl (hM.sl (pre:=[_]) noB) Try.underlying22 ty5 rfl (by decide) e70 fun u68 w a hM hE=>Zb hE rfl fun a hE=>Zi (YK (Zx (wp_region_lit (Zd hE rfl fun a hE=>Zk hE rfl rfl rfl fun a hE=>Zb hE rfl fun a hE=>Zi (Zj ?_)))))
    have hM:=M.fst (l:=[_,_]) hM.pull3
    exact ⟨_,(ois hF30),u68,hE.sub ⟨rfl,rfl,rfl,rfl,rfl,rfl,trivial⟩,hM⟩
  ·intro hb25
   have hs14:=Zo hs14 hb25
   refine wp_exit (Zs (Zs (Y6 ?_)))
   obtain rfl:=hx15 _ (ois hs14)
   refine Zj ?_
   have hM:=M.fst (l:=[_]) hM.pull1
   exact ⟨u12,hE.sub ⟨rfl,trivial⟩,hM⟩
 ·skip
  rintro a w ⟨u9,hE,hM⟩
  refine Zx (Zc (Zd hE rfl fun a hE=>Zb hE rfl fun a hE=>Ze ?_))
  obtain rfl:=Option.some.inj hF8
  exact wp_ret (Y7 hE rfl (Zq hE rfl) ⟨_,rfl,u9,rfl,hM.outF (YG YP),hM.kept⟩)
def XG (p0 : (List UInt8)) (p1 : (List UInt8)) (s6 : Int) : Option (Fl Int (Fl Unit Bool)) :=
 if (decide (s6 < (p0.length : Int))) = true then (((idx p0 s6).bind fun x15=>(idx p1 s6).bind fun x18=>some (x15 != x18) : Option (Bool)).bind fun j11=>if j11 = true then (some (Fl.ex (Fl.ex false))) else (some (Fl.nx (wr (s6 + 1))))) else (some (Fl.ex (Fl.nx ())))
def WZ (p0 : (List UInt8)) (p1 : (List UInt8)) : Option (Bool) :=
 if ((p0.length : Int) != (p1.length : Int)) = true then (some false) else ((ZJ (XG p0 p1) 0).bind fun j2=>j2.el (fun s5=>some true) (fun r=>some r))
theorem KT (w0 : World) (p0 : (List UInt8)) (v0_1 : Value) (hv0_1 : Ro w0 p0 [v0_1]) (p1 : (List UInt8)) (v1_1 : Value) (hv1_1 : Ro w0 p1 [v1_1]) (r : Bool) (hF : WZ p0 p1 = some r) :
  Calls Try.prog 136 [v0_1,v1_1].toArray w0 (Rt w0 (vT r)):=by
 refine ce Try.func136 ?_
 intro a hE
 have hM:=M.start w0
 unfold WZ at hF
 refine Zc (Zb hE rfl fun a hE=>Ze (wp_seq (Zc (Zd hE rfl fun a hE=>ZQ hE rfl Try.underlying22 (hM.rd hv0_1) fun a hE=>Zd hE rfl fun a hE=>ZQ hE rfl Try.underlying22 (hM.rd hv1_1) fun a hE=>Zk hE rfl rfl rfl fun a hE=>Ze ?_))))
 refine Zm hE rfl ?_ ?_
 ·intro hb1
  have hF:=Zp hF hb1
  refine Zc (Zb hE rfl fun a hE=>Ze ?_)
  obtain rfl:=Option.some.inj hF
  exact wp_ret (Zr (kr1 hE rfl rfl hM.kept))
 ·intro hb1
  have hF:=Zo hF hb1
  refine wp_skip (Zx (wp_seq (Zc (Zb hE rfl fun a hE=>Ze ?_))))
  obtain ⟨j2,hl3,hF4⟩:=bind_some hF
  refine Z6 (fun a w=>∃ s5 : Unit,j2 = Fl.nx s5 ∧ Env 26 a [] ∧ M (Old w0) w0 w []) ?_ ?_
  ·skip
   refine wp_block ?_
   refine ZO (fun (s6 : Int) a w=>Env 26 a [(0,v0_1),(1,v1_1),(5,vI s6)] ∧ M (Old w0) w0 w []) hl3 ⟨hE.sub ⟨rfl,rfl,rfl,trivial⟩,hM⟩ ?_
   rintro s6 a w ⟨hE,hM⟩ o9 hs7 hx8
   unfold XG at hs7
   refine wp_seq (Zc (Zd hE rfl fun a hE=>Zd hE rfl fun a hE=>ZQ hE rfl Try.underlying22 (hM.rd hv0_1) fun a hE=>Zk hE rfl rfl rfl fun a hE=>Ze ?_))
   refine Zm hE rfl ?_ ?_
   ·intro hb10
    have hs7:=Zp hs7 hb10
    refine wp_skip (Zx (wp_seq (wp_block ?_)))
    obtain ⟨j11,hl12,hF13⟩:=bind_some hs7
    refine ZB (fun a w=>Env 26 a [(0,v0_1),(1,v1_1),(5,vI s6),(25,vT j11)] ∧ M (Old w0) w0 w []) ?_ ?_
    ·skip
     obtain ⟨x15,hi17,hl12⟩:=bix hl12
     obtain ⟨x18,hi20,hl12⟩:=bix hl12
     refine Y4 [17,18,19,20,21,22,23,24,25] VC rfl rfl (by decide) rfl hE hM (qsP (fun z=>Zh z.E Za ld rfl (kr0 rfl)) (qsP (fun z=>Zh z.E Za ld rfl (kr0 rfl)) (qsP (fun z=>ZG z.E Za ld rfl rfl Try.underlying22 ty5 (z.M.rd hv0_1) hi17.1 (kr0 rfl)) (qsP (fun z=>ZK (v:=(vB x15)) z.E Za ld rfl ty5 rfl (Z4 (z.M.rd hv0_1) hi17.2) (kr0 rfl)) (qsP (fun z=>Zh z.E Za ld rfl (kr0 rfl)) (qsP (fun z=>Zh z.E Za ld rfl (kr0 rfl)) (qsP (fun z=>ZG z.E Za ld rfl rfl Try.underlying22 ty5 (z.M.rd hv1_1) hi20.1 (kr0 rfl)) (qsP (fun z=>ZK (v:=(vB x18)) z.E Za ld rfl ty5 rfl (Z4 (z.M.rd hv1_1) hi20.2) (kr0 rfl)) (qsP (fun z=>Z2 z.E Za ld rfl rfl (Tk x15 x18) (kr0 rfl)) qs0))))))))) ?_
     ·intro a w u hE hM
      refine Zi ?_
      obtain rfl:=Option.some.inj hl12
      refine Zj ?_
      exact ⟨hE.sub ⟨rfl,rfl,rfl,rfl,trivial⟩,hM⟩
    ·skip
     rintro a w ⟨hE,hM⟩
     refine Zm hE rfl ?_ ?_
     ·intro hb22
      have hF13:=Zp hF13 hb22
      refine Zc (Zb hE rfl fun a hE=>Ze ?_)
      obtain rfl:=hx8 _ (ois hF13)
      obtain rfl:=Option.some.inj hF4
      exact wp_ret (Yh (Zr (Zr (Yh (Zr (Zr (kr1 hE rfl rfl hM.kept)))))))
     ·intro hb22
      have hF13:=Zo hF13 hb22
      refine wp_skip (YK (Zx (wp_region_lit (Zd hE rfl fun a hE=>Zk hE rfl rfl rfl fun a hE=>Zb hE rfl fun a hE=>Zi (Zj ?_)))))
      exact ⟨_,(ois hF13),hE.sub ⟨rfl,rfl,rfl,trivial⟩,hM⟩
   ·intro hb10
    have hs7:=Zo hs7 hb10
    refine wp_exit (Zs (Zs (Y6 ?_)))
    obtain rfl:=hx8 _ (ois hs7)
    refine Zj ?_
    exact ⟨(),rfl,hE.sub trivial,hM⟩
  ·skip
   rintro a w ⟨s5,ht,hE,hM⟩
   subst ht
   have hF4:=VV hF4
   refine Zx (Zc (Zb hE rfl fun a hE=>Ze ?_))
   obtain rfl:=Option.some.inj hF4
   exact wp_ret (kr1 hE rfl rfl hM.kept)
def WM (p0 : Int) (p1 : (List GShare)) (p2 : Int) (s5 : Int) : Option (Fl Int (Fl Unit Bool)) :=
 if (decide (s5 < (p1.length : Int))) = true then (((slc p1 (0 : Int) p2).bind fun l14=>(idx p1 s5).bind fun x17=>(WQ p0 l14 x17.Place).bind fun r25=>(idx p1 s5).bind fun x28=>(WZ r25 x28.Data).bind fun r36=>some (!r36) : Option (Bool)).bind fun j10=>if j10 = true then (some (Fl.ex (Fl.ex false))) else (some (Fl.nx (wr (s5 + 1))))) else (some (Fl.ex (Fl.nx ())))
def Vc (p0 : Int) (p1 : (List GShare)) (p2 : Int) : Option (Bool) :=
 (ZJ (WM p0 p1 p2) p2).bind fun j1=>j1.el (fun s4=>some true) (fun r=>some r)
theorem Qi (w0 : World) (p0 : Int) (p1 : (List GShare)) (v1_1 : Value) (hv1_1 : Ro w0 p1 [v1_1]) (p2 : Int) (r : Bool) (hF : Vc p0 p1 p2 = some r) :
  Calls Try.prog 79 [vI p0,v1_1,vI p2].toArray w0 (Rt w0 (vT r)):=by
 refine ce Try.func79 ?_
 intro a hE
 have hM:=M.start w0
 unfold Vc at hF
 refine Zc (Zb hE rfl fun a hE=>Ze (wp_seq (Zc (Zd hE rfl fun a hE=>Zb hE rfl fun a hE=>Ze ?_))))
 obtain ⟨j1,hl2,hF3⟩:=bind_some hF
 refine Z6 (fun a w=>∃ s4 : Unit,j1 = Fl.nx s4 ∧ Env 32 a [] ∧ M (Old w0) w0 w []) ?_ ?_
 ·skip
  refine wp_block ?_
  refine ZO (fun (s5 : Int) a w=>Env 32 a [(0,vI p0),(1,v1_1),(2,vI p2),(7,vI s5)] ∧ M (Old w0) w0 w []) hl2 ⟨hE.sub ⟨rfl,rfl,rfl,rfl,trivial⟩,hM⟩ ?_
  rintro s5 a w ⟨hE,hM⟩ o8 hs6 hx7
  unfold WM at hs6
  refine wp_seq (Zc (Zd hE rfl fun a hE=>Zd hE rfl fun a hE=>ZQ hE rfl Try.underlying27 (hM.rd hv1_1) fun a hE=>Zk hE rfl rfl rfl fun a hE=>Ze ?_))
  refine Zm hE rfl ?_ ?_
  ·intro hb9
   have hs6:=Zp hs6 hb9
   refine wp_skip (Zx (wp_seq (wp_block ?_)))
   obtain ⟨j10,hl11,hF12⟩:=bind_some hs6
   refine ZB (fun a w=>Env 32 a [(0,vI p0),(1,v1_1),(2,vI p2),(7,vI s5),(31,vT j10)] ∧ M (Old w0) w0 w []) ?_ ?_
   ·skip
    obtain ⟨l14,e15,hl11⟩:=bind_some hl11
    have h16 : Rep.sat (Old w0) w0 l14 [(XL v1_1 ((0 : Int)).toNat (p2).toNat 2)] []:=U3 hv1_1 e15 -- ^
    obtain ⟨x17,hi19,hl11⟩:=bix hl11
    obtain ⟨cs20,hs21,hA22⟩:=Yc hv1_1 hi19.2 -- ^
    obtain ⟨u23,rfl,h24⟩:=ZW hs21 -- ^
    obtain ⟨r25,e26,hl11⟩:=bind_some hl11
    obtain ⟨x28,hi30,hl11⟩:=bix hl11
    obtain ⟨cs31,hs32,hA33⟩:=Yc hv1_1 hi30.2 -- ^
    obtain ⟨u34,rfl,h35⟩:=ZW hs32 -- ^
    refine VL (its:=[]) (mk:=([mkO 9 (fun v=>osl NoB (r25 : List UInt8) v)] : Mk)) [15,16,17,18,19,20,21,22,23,24,25,26,27,28,29] VC rfl rfl (by decide) rfl hE (fun u=>M.qE (M.q0 hM.drew u) emO) (qsP (fun z=>Zh z.E Za ld rfl (kr0 rfl)) (qsP (fun z=>Zh z.E Za ld rfl (kr0 rfl)) (qsP (fun z=>Zh z.E Za ld rfl (kr0 rfl)) (qsP (v:=(XL v1_1 ((0 : Int)).toNat (p2).toNat 2)) ?_ (qsP (fun z=>Zh z.E Za ld rfl (kr0 rfl)) (qsP (fun z=>Zh z.E Za ld rfl (kr0 rfl)) (qsP (v:=(ptr (sb v1_1) (so v1_1 + (s5).toNat * 2))) ?_ (qsP (fun z=>Zv z.E Za ld rfl (Wn) (kr0 rfl)) (qsP (v:=(vB x17.Place)) ?_ (qsM (pr:=fun v=>True) ?_ (qsP (fun z=>Zh z.E Za ld rfl (kr0 rfl)) (qsP (fun z=>Zh z.E Za ld rfl (kr0 rfl)) (qsP (v:=(ptr (sb v1_1) (so v1_1 + (s5).toNat * 2))) ?_ (qsP (fun z=>Zv z.E Za ld rfl (YL) (kr0 rfl)) (qsP (v:=u34) ?_ qs0))))))))))))))) ?_
    ·intro a w ux13 D z
     have hE:=z.E
     have hM:=z.M
     exact Tw hE Za ld rfl rfl (Hg rfl) rfl rfl Try.underlying27 ZU (hM.rd hv1_1) e15 fun a hE=>⟨Kept.refl _ _,_,rfl,hE⟩
    ·intro a w ux13 D z
     have hE:=z.E
     have hM:=z.M
     exact ZD hE rfl rfl Try.underlying27 ZU (hM.rd hv1_1) hi19.1 fun a hE=>⟨Kept.refl _ _,_,rfl,hE⟩
    ·intro a w ux13 D z
     have hE:=z.E
     have hM:=z.M
     exact ZM (v:=(vB x17.Place)) hE rfl ty5 rfl (At.cat (pre:=[]) (hM.atk hA22 (YI hv1_1 hi19.2)) cl0) fun a hE=>⟨Kept.refl _ _,_,rfl,hE⟩
    ·intro a w ux13 D z
     have hE:=z.E
     have hD : D 9 = false:=z.F
     have hM0:=z.M
     have hM:=z.M
     refine Zl hE rfl cb77 (To _ p0 l14 (XL v1_1 ((0 : Int)).toNat (p2).toNat 2) (hM.rdo h16) x17.Place r25 e26) ?_
     rintro _ w a ⟨_,rfl,hFr,hK⟩ hE
     have hM:=hM0.add hK hFr
     exact ⟨_,_,rfl,hE,M.qFill (mk1:=[]) (mk2:=[]) (f:=(fun v=>osl NoB (r25 : List UInt8) v)) hM rfl hD,trivial⟩
    ·intro a w ux13 D z
     have hE:=z.E
     have hM:=z.M
     exact ZD hE rfl rfl Try.underlying27 ZU (hM.rd hv1_1) hi30.1 fun a hE=>⟨Kept.refl _ _,_,rfl,hE⟩
    ·intro a w ux13 D z
     have hE:=z.E
     have hM:=z.M
     exact ZM (v:=u34) hE rfl YS rfl (At.cat (pre:=[[vB x28.Place]]) (hM.atk hA33 (YI hv1_1 hi30.2)) ck) fun a hE=>⟨Kept.refl _ _,_,rfl,hE⟩
    ·intro a w ux13 D hE hM hG hall
     have d9:=hall 9 (by decide)
     have hM:=hM.sure (pre:=[]) d9
     obtain ⟨r36,e37,hl11⟩:=bind_some hl11
     refine Zl hE rfl (cbm Try.func136) (KT _ r25 (ux13 9) (hM.sl (pre:=[]) noB) x28.Data u34 (hM.rdo h35) r36 e37) ?_
     rintro v w a ⟨rfl,hK⟩ hE
     have hM:=hM.keep hK
     refine VW hE rfl fun a hE=>Zi ?_
     obtain rfl:=Option.some.inj hl11
     refine Zj ?_
     have hM:=M.fst (l:=[]) hM
     exact ⟨hE.sub ⟨rfl,rfl,rfl,rfl,rfl,trivial⟩,hM⟩
   ·skip
    rintro a w ⟨hE,hM⟩
    refine Zm hE rfl ?_ ?_
    ·intro hb39
     have hF12:=Zp hF12 hb39
     refine Zc (Zb hE rfl fun a hE=>Ze ?_)
     obtain rfl:=hx7 _ (ois hF12)
     obtain rfl:=Option.some.inj hF3
     exact wp_ret (Yh (Zr (Zr (Yh (Zr (Zr (kr1 hE rfl rfl hM.kept)))))))
    ·intro hb39
     have hF12:=Zo hF12 hb39
     refine wp_skip (YK (Zx (wp_region_lit (Zd hE rfl fun a hE=>Zk hE rfl rfl rfl fun a hE=>Zb hE rfl fun a hE=>Zi (Zj ?_)))))
     exact ⟨_,(ois hF12),hE.sub ⟨rfl,rfl,rfl,rfl,trivial⟩,hM⟩
  ·intro hb9
   have hs6:=Zo hs6 hb9
   refine wp_exit (Zs (Zs (Y6 ?_)))
   obtain rfl:=hx7 _ (ois hs6)
   refine Zj ?_
   exact ⟨(),rfl,hE.sub trivial,hM⟩
 ·skip
  rintro a w ⟨s4,ht,hE,hM⟩
  subst ht
  have hF3:=VV hF3
  refine Zx (Zc (Zb hE rfl fun a hE=>Ze ?_))
  obtain rfl:=Option.some.inj hF3
  exact wp_ret (kr1 hE rfl rfl hM.kept)
def X4 (p0 : Int) (p1 : (List GShare)) (p2 : Int) : Option (Int) :=
 if (decide ((p1.length : Int) < p2)) = true then (some 4) else ((Vc p0 p1 p2).bind fun r2=>if (!r2) = true then (some 5) else (some 0))
theorem TF (w0 : World) (p0 : Int) (p1 : (List GShare)) (v1_1 : Value) (hv1_1 : Ro w0 p1 [v1_1]) (p2 : Int) (r : Int) (hF : X4 p0 p1 p2 = some r) :
  Calls Try.prog 76 [vI p0,v1_1,vI p2].toArray w0 (Rt w0 (vI r)):=by
 refine ce Try.func76 ?_
 intro a hE
 have hM:=M.start w0
 unfold X4 at hF
 refine Zc (Zb hE rfl fun a hE=>Ze (wp_seq (wp_block (Zc (Zd hE rfl fun a hE=>ZQ hE rfl Try.underlying27 (hM.rd hv1_1) fun a hE=>Zd hE rfl fun a hE=>Zk hE rfl rfl rfl fun a hE=>Zb hE rfl fun a hE=>Ze ?_)))))
 refine Zm hE rfl ?_ ?_
 ·intro hb1
  have hF:=Zp hF hb1
  refine Zc (Zb hE rfl fun a hE=>Ze ?_)
  obtain rfl:=Option.some.inj hF
  exact wp_ret (Yh (Zr (kr1 hE rfl rfl hM.kept)))
 ·intro hb1
  have hF:=Zo hF hb1
  refine Zc (Zd hE rfl fun a hE=>Zd hE rfl fun a hE=>Zd hE rfl ?_); intro a hE
  obtain ⟨r2,e3,hF⟩:=bind_some hF
  refine Zl hE rfl (cbm Try.func79) (Qi _ p0 p1 v1_1 (hM.rdo hv1_1) p2 r2 e3) ?_
  rintro v w a ⟨rfl,hK⟩ hE
  have hM:=hM.keep hK
  refine VW hE rfl fun a hE=>Zb hE rfl fun a hE=>Ze ?_
  refine Zm hE rfl ?_ ?_
  ·intro hb4
   have hF:=Zp hF hb4
   refine Zc (Zb hE rfl fun a hE=>Ze ?_)
   obtain rfl:=Option.some.inj hF
   exact wp_ret (Yh (Zr (kr1 hE rfl rfl hM.kept)))
  ·intro hb4
   have hF:=Zo hF hb4
   refine wp_skip (YK (Zx (Zc (Zb hE rfl fun a hE=>Ze ?_))))
   obtain rfl:=Option.some.inj hF
   exact wp_ret (kr1 hE rfl rfl hM.kept)
def XT (p0 : Int) (p1 : (List GShare)) (p2 : Int) : Option ((List UInt8) × Int) :=
 (XO p0 p1 p2).bind fun r1=>(if (r1 == 0) = true then ((X4 p0 p1 p2).bind fun r7=>some r7) else (some r1) : Option (Int)).bind fun j3=>if (j3 != 0) = true then (some ([],j3)) else ((slc p1 (0 : Int) p2).bind fun l13=>(WQ p0 l13 0).bind fun r16=>some (r16,0))
theorem Qs (w0 : World) (p0 : Int) (p1 : (List GShare)) (v1_1 : Value) (hv1_1 : Ro w0 p1 [v1_1]) (p2 : Int) (r : (List UInt8) × Int) (hF : XT p0 p1 p2 = some r) :
  Calls Try.prog 16 [vI p0,v1_1,vI p2].toArray w0 (fun en w'=>∃ v,en = .returned v ∧ (∃ (y1 : Value),v = (Value.tuple [y1,vI r.2].toArray) ∧ Fr w0 w' [osl NoB (r.1 : List UInt8) y1] ∧ Kept (Old w0) w0 w')):=by
 refine ce Try.func16 ?_
 intro a hE
 have hM:=M.start w0
 unfold XT at hF
 refine Zc (Zb hE rfl fun a hE=>Zb hE rfl fun a hE=>Ze (Zc (Zd hE rfl fun a hE=>Zd hE rfl fun a hE=>Zd hE rfl ?_))); intro a hE
 obtain ⟨r1,e2,hF⟩:=bind_some hF
 refine Zl hE rfl cb75 (UK _ p0 p1 v1_1 (hM.rdo hv1_1) p2 r1 e2) ?_
 rintro v w a ⟨rfl,hK⟩ hE
 have hM:=hM.keep hK
 refine Zb hE rfl fun a hE=>Ze ?_
 obtain ⟨j3,hl4,hF5⟩:=bind_some hF
 refine ZB (fun a w=>Env 27 a [(0,vI p0),(1,v1_1),(2,vI p2),(8,vI j3)] ∧ M (Old w0) w0 w []) ?_ ?_
 ·skip
  refine Zc (Zd hE rfl fun a hE=>Zk hE rfl rfl rfl fun a hE=>Ze ?_)
  refine Zm hE rfl ?_ ?_
  ·intro hb6
   have hl4:=Zp hl4 hb6
   refine wp_region_lit (Zd hE rfl fun a hE=>Zd hE rfl fun a hE=>Zd hE rfl ?_); intro a hE
   obtain ⟨r7,e8,hl4⟩:=bind_some hl4
   refine Zl hE rfl (cbm Try.func76) (TF _ p0 p1 v1_1 (hM.rdo hv1_1) p2 r7 e8) ?_
   rintro v w a ⟨rfl,hK⟩ hE
   have hM:=hM.keep hK
   refine Zb hE rfl fun a hE=>Zi ?_
   obtain rfl:=Option.some.inj hl4
   refine Zj ?_
   exact ⟨hE.sub ⟨rfl,rfl,rfl,rfl,trivial⟩,hM⟩
  ·intro hb6
   have hl4:=Zo hl4 hb6
   refine wp_skip ?_
   obtain rfl:=Option.some.inj hl4
   refine Zj ?_
   exact ⟨hE.sub ⟨rfl,rfl,rfl,rfl,trivial⟩,hM⟩
 ·skip
  rintro a w ⟨hE,hM⟩
  refine wp_seq (Zc (Zd hE rfl fun a hE=>Zk hE rfl rfl rfl fun a hE=>Ze ?_))
  refine Zm hE rfl ?_ ?_
  ·intro hb11
   have hF5:=Zp hF5 hb11
   refine Zc (Zd hE rfl fun a hE=>Zb hE rfl fun a hE=>Zb hE rfl fun a hE=>Ze ?_)
   have hM:=M.nilS (α:=UInt8) NoB noB hM
   obtain rfl:=Option.some.inj hF5
   exact wp_ret (Zr (Yr hE rfl (Zq hE rfl) (Zq hE rfl) ⟨_,rfl,(Value.slice none 0 0),rfl,hM.outF (YG YP),hM.kept⟩))
  ·intro hb11
   have hF5:=Zo hF5 hb11
   refine wp_skip (Zx (Zc (Zd hE rfl fun a hE=>Zd hE rfl fun a hE=>Zd hE rfl ?_))); intro a hE
   obtain ⟨l13,e14,hF5⟩:=bind_some hF5
   refine Tw hE Za ld rfl rfl rfl rfl rfl Try.underlying27 ZU (hM.rd hv1_1) e14 ?_; intro a hE
   have h15 : Rep.sat (Old w0) w0 l13 [(XL v1_1 ((0 : Int)).toNat (p2).toNat 2)] []:=U3 hv1_1 e14 -- ^
   obtain ⟨r16,e17,hF5⟩:=bind_some hF5
   refine Zl hE rfl cb77 (To _ p0 l13 (XL v1_1 ((0 : Int)).toNat (p2).toNat 2) (hM.rdo h15) 0 r16 e17) ?_
   rintro u18 w a ⟨_,rfl,hFr,hK⟩ hE
   have hM:=hM.add hK hFr
   refine Zb hE rfl fun a hE=>Zb hE rfl fun a hE=>Ze ?_
   obtain rfl:=Option.some.inj hF5
   exact wp_ret (Yr hE rfl (Zq hE rfl) (Zq hE rfl) ⟨_,rfl,u18,rfl,hM.outF (YG YP),hM.kept⟩)
def WE (p0 : Int) (p1 : (List GShare)) (p2 : Int) : Option (Bool × Int) :=
 (Z3 p0 p1 p2).bind fun r1=>if (r1 != 0) = true then (some (false,r1)) else ((XJ p0 p1 p2).bind fun r4=>some (r4,0))
theorem Kc (w0 : World) (p0 : Int) (p1 : (List GShare)) (v1_1 : Value) (hv1_1 : Ro w0 p1 [v1_1]) (p2 : Int) (r : Bool × Int) (hF : WE p0 p1 p2 = some r) :
  Calls Try.prog 17 [vI p0,v1_1,vI p2].toArray w0 (Rt w0 (Value.tuple [vT r.1,vI r.2].toArray)):=by
 refine ce Try.func17 ?_
 intro a hE
 have hM:=M.start w0
 unfold WE at hF
 refine Zc (Zb hE rfl fun a hE=>Zb hE rfl fun a hE=>Ze (wp_seq (Zc (Zd hE rfl fun a hE=>Zd hE rfl fun a hE=>Zd hE rfl ?_)))); intro a hE
 obtain ⟨r1,e2,hF⟩:=bind_some hF
 refine Zl hE rfl cb64 (Xc _ p0 p1 v1_1 (hM.rdo hv1_1) p2 r1 e2) ?_
 rintro v w a ⟨rfl,hK⟩ hE
 have hM:=hM.keep hK
 refine Zb hE rfl fun a hE=>Ze (Zc (Zd hE rfl fun a hE=>Zk hE rfl rfl rfl fun a hE=>Ze ?_))
 refine Zm hE rfl ?_ ?_
 ·intro hb3
  have hF:=Zp hF hb3
  refine Zc (Zd hE rfl fun a hE=>Zb hE rfl fun a hE=>Zb hE rfl fun a hE=>Ze ?_)
  obtain rfl:=Option.some.inj hF
  exact wp_ret (Zr (Yr hE rfl (Zq hE rfl) (Zq hE rfl) ⟨_,rfl,rfl,hM.kept⟩))
 ·intro hb3
  have hF:=Zo hF hb3
  refine wp_skip (Zx (Zc (Zd hE rfl fun a hE=>Zd hE rfl fun a hE=>Zd hE rfl ?_))); intro a hE
  obtain ⟨r4,e5,hF⟩:=bind_some hF
  refine Zl hE rfl (cbm Try.func78) (Tc _ p0 p1 v1_1 (hM.rdo hv1_1) p2 r4 e5) ?_
  rintro v w a ⟨rfl,hK⟩ hE
  have hM:=hM.keep hK
  refine Zb hE rfl fun a hE=>Zb hE rfl fun a hE=>Ze ?_
  obtain rfl:=Option.some.inj hF
  exact wp_ret (Yr hE rfl (Zq hE rfl) (Zq hE rfl) ⟨_,rfl,rfl,hM.kept⟩)
def Wu (p0 : Int) (p1 : (List GShare)) (p2 : Int) : Option (Bool × Int) :=
 (XO p0 p1 p2).bind fun r1=>if (r1 != 0) = true then (some (false,r1)) else ((Vc p0 p1 p2).bind fun r4=>some (r4,0))
theorem Ks (w0 : World) (p0 : Int) (p1 : (List GShare)) (v1_1 : Value) (hv1_1 : Ro w0 p1 [v1_1]) (p2 : Int) (r : Bool × Int) (hF : Wu p0 p1 p2 = some r) :
  Calls Try.prog 18 [vI p0,v1_1,vI p2].toArray w0 (Rt w0 (Value.tuple [vT r.1,vI r.2].toArray)):=by
 refine ce Try.func18 ?_
 intro a hE
 have hM:=M.start w0
 unfold Wu at hF
 refine Zc (Zb hE rfl fun a hE=>Zb hE rfl fun a hE=>Ze (wp_seq (Zc (Zd hE rfl fun a hE=>Zd hE rfl fun a hE=>Zd hE rfl ?_)))); intro a hE
 obtain ⟨r1,e2,hF⟩:=bind_some hF
 refine Zl hE rfl cb75 (UK _ p0 p1 v1_1 (hM.rdo hv1_1) p2 r1 e2) ?_
 rintro v w a ⟨rfl,hK⟩ hE
 have hM:=hM.keep hK
 refine Zb hE rfl fun a hE=>Ze (Zc (Zd hE rfl fun a hE=>Zk hE rfl rfl rfl fun a hE=>Ze ?_))
 refine Zm hE rfl ?_ ?_
 ·intro hb3
  have hF:=Zp hF hb3
  refine Zc (Zd hE rfl fun a hE=>Zb hE rfl fun a hE=>Zb hE rfl fun a hE=>Ze ?_)
  obtain rfl:=Option.some.inj hF
  exact wp_ret (Zr (Yr hE rfl (Zq hE rfl) (Zq hE rfl) ⟨_,rfl,rfl,hM.kept⟩))
 ·intro hb3
  have hF:=Zo hF hb3
  refine wp_skip (Zx (Zc (Zd hE rfl fun a hE=>Zd hE rfl fun a hE=>Zd hE rfl ?_))); intro a hE
  obtain ⟨r4,e5,hF⟩:=bind_some hF
  refine Zl hE rfl (cbm Try.func79) (Qi _ p0 p1 v1_1 (hM.rdo hv1_1) p2 r4 e5) ?_
  rintro v w a ⟨rfl,hK⟩ hE
  have hM:=hM.keep hK
  refine Zb hE rfl fun a hE=>Zb hE rfl fun a hE=>Ze ?_
  obtain rfl:=Option.some.inj hF
  exact wp_ret (Yr hE rfl (Zq hE rfl) (Zq hE rfl) ⟨_,rfl,rfl,hM.kept⟩)
def WI (p0 : (List GShare)) : Option (Bool) :=
 (WL p0).bind fun r1=>some (r1 == 0)
theorem Kh (w0 : World) (p0 : (List GShare)) (v0_1 : Value) (hv0_1 : Ro w0 p0 [v0_1]) (r : Bool) (hF : WI p0 = some r) :
  Calls Try.prog 19 [v0_1].toArray w0 (Rt w0 (vT r)):=by
 refine ce Try.func19 ?_
 intro a hE
 have hM:=M.start w0
 unfold WI at hF
 refine Zc (Zb hE rfl fun a hE=>Ze (Zc (Zd hE rfl ?_))); intro a hE
 obtain ⟨r1,e2,hF⟩:=bind_some hF
 refine Zl hE rfl (cbm Try.func80) (TM _ p0 v0_1 (hM.rdo hv0_1) r1 e2) ?_
 rintro v w a ⟨rfl,hK⟩ hE
 have hM:=hM.keep hK
 refine Zk hE rfl rfl rfl fun a hE=>Zb hE rfl fun a hE=>Ze ?_
 obtain rfl:=Option.some.inj hF
 exact wp_ret (kr1 hE rfl rfl hM.kept)
def Uv (p0 : (List UInt8)) (s6 : Int × Int) : Option (Fl (Int × Int) Int) :=
 if (decide (s6.2 < (p0.length : Int))) = true then ((idx p0 s6.2).bind fun x12=>some (Fl.nx (IntKind.u64.wrap ((IntKind.u64.wrap ((IntKind.u64.wrap (s6.1 * 1099511628211)) + (bI x12))) + 5),wr (s6.2 + 1)))) else (some (Fl.ex s6.1))
def Uj (p0 : (List UInt8)) (p1 : Int) : Option ((Int × Int)) :=
 (ZJ (Uv p0) (IntKind.u64.wrap ((IntKind.u64.wrap (p1 * 6907)) + (IntKind.u64.wrap (p0.length : Int))),0)).bind fun j3=>some (0,j3)
theorem Bq (St : Nat → Prop) (W w0 : World) (R : Item) (p0 : (List UInt8)) (v0_1 : Value) (hv0_1 : Rep.sat St W p0 [v0_1] []) (p1 : Int) (hM : M St W w0 [R]) (r : (Int × Int)) (hF : Uj p0 p1 = some r) :
  Calls Try.prog 20 [v0_1,(Value.int .u64 p1)].toArray w0 (fun en w'=>∃ v,en = .returned v ∧ (∃ (b : Nat),v = ptr b 0 ∧ M St W w' [raw b (cat [[v0_1],[vI r.1],[(Value.int .u64 r.2)]]),R])):=by
 refine ce Try.func20 ?_
 intro a hE
 unfold Uj at hF
 refine Zc (Zb hE rfl fun a hE=>Ze (Zc (Zd hE rfl fun a hE=>Zd hE rfl fun a hE=>Zk hE rfl rfl rfl fun a hE=>Zd hE rfl fun a hE=>ZQ hE rfl Try.underlying22 (hM.rd hv0_1) fun a hE=>TV hE Za ld rfl Try.underlying3 Try.underlying45 fun a hE=>Zk hE rfl rfl rfl fun a hE=>XS (parts:=[(0,.tmp 7),(2,.tmp 13)]) (vs:=[(0,v0_1),(2,(Value.int .u64 (IntKind.u64.wrap ((IntKind.u64.wrap (p1 * 6907)) + (IntKind.u64.wrap (p0.length : Int))))))]) (cs:=cat [[v0_1],[vI 0],[(Value.int .u64 (IntKind.u64.wrap ((IntKind.u64.wrap (p1 * 6907)) + (IntKind.u64.wrap (p0.length : Int)))))]]) hE Za ld rfl rfl Ai pl122 (X9 (pre:=[]) (seg:=[(Value.slice none 0 0)]) (seg':=[v0_1]) (post:=[[vI 0],[(Value.int .u64 0)]]) rfl cl0 rfl rfl (WD (hM.rd hv0_1)) (X9 (pre:=[[v0_1],[vI 0]]) (seg:=[(Value.int .u64 0)]) (seg':=[(Value.int .u64 (IntKind.u64.wrap ((IntKind.u64.wrap (p1 * 6907)) + (IntKind.u64.wrap (p0.length : Int)))))]) (post:=[]) rfl ck rfl rfl rfl Vq)) fun a hE=>Q3 (cs:=cat [[v0_1],[vI 0],[(Value.int .u64 (IntKind.u64.wrap ((IntKind.u64.wrap (p1 * 6907)) + (IntKind.u64.wrap (p0.length : Int)))))]]) hE hM Za ld rfl rfl fun b1 w a hM hE=>Zb hE rfl fun a hE=>Ze (wp_seq (Zc (Zb hE rfl ?_)))))); intro a hE
 refine Ze ?_
 obtain ⟨j3,hl4,hF5⟩:=bind_some hF
 refine Z6 (fun a w=>Env 38 a [(5,(ptr b1 0))] ∧ M St W w [raw b1 (cat [[v0_1],[vI 0],[(Value.int .u64 j3)]]),R]) ?_ ?_
 ·skip
  refine wp_block ?_
  refine ZO (fun (s6 : Int × Int) a w=>Env 38 a [(0,v0_1),(5,(ptr b1 0)),(6,vI s6.2)] ∧ M St W w [raw b1 (cat [[v0_1],[vI 0],[(Value.int .u64 s6.1)]]),R]) hl4 ⟨hE.sub ⟨rfl,rfl,rfl,trivial⟩,hM⟩ ?_
  rintro s6 a w ⟨hE,hM⟩ o9 hs7 hx8
  unfold Uv at hs7
  refine wp_seq (Zc (Zd hE rfl fun a hE=>Zd hE rfl fun a hE=>ZQ hE rfl Try.underlying22 (hM.rd hv0_1) fun a hE=>Zk hE rfl rfl rfl fun a hE=>Ze ?_))
  refine Zm hE rfl ?_ ?_
  ·intro hb10
   have hs7:=Zp hs7 hb10
   refine wp_skip (Zx (wp_seq (wp_block ?_)))
   obtain ⟨x12,hi14,hs7⟩:=bix hs7
   refine Y4 [22,23,24,25,26,27,28,29,30,31,32,33,34,35,36] VC rfl rfl (by decide) rfl hE hM (qsP (fun z=>Zh z.E Za ld rfl (kr0 rfl)) (qsP (fun z=>Zh z.E Za ld rfl (kr0 rfl)) (qsP (fun z=>Z0 z.E Za ld rfl (kr0 rfl)) (qsP (fun z=>Zv z.E Za ld rfl (Q5) (kr0 rfl)) (qsP (fun z=>ZK (v:=(Value.int .u64 s6.1)) z.E Za ld rfl KZ rfl (At.cat (pre:=[[v0_1],[vI 0]]) (z.M.rawAt0) ck) (kr0 rfl)) (qsP (v:=(Value.int .u64 (IntKind.u64.wrap (s6.1 * 1099511628211)))) (fun z=>Z2 z.E Za ld rfl rfl rfl (kr0 rfl)) (qsP (fun z=>Zh z.E Za ld rfl (kr0 rfl)) (qsP (fun z=>Zh z.E Za ld rfl (kr0 rfl)) (qsP (fun z=>ZG z.E Za ld rfl rfl Try.underlying22 ty5 (z.M.rd hv0_1) hi14.1 (kr0 rfl)) (qsP (fun z=>ZK (v:=(vB x12)) z.E Za ld rfl ty5 rfl (Z4 (z.M.rd hv0_1) hi14.2) (kr0 rfl)) (qsP (fun z=>AC z.E Za ld rfl Try.underlying5 Try.underlying45 (kr0 rfl)) (qsP (v:=(Value.int .u64 (IntKind.u64.wrap ((IntKind.u64.wrap (s6.1 * 1099511628211)) + (bI x12))))) (fun z=>Z2 z.E Za ld rfl rfl rfl (kr0 rfl)) (qsP (v:=(Value.int .u64 (IntKind.u64.wrap ((IntKind.u64.wrap ((IntKind.u64.wrap (s6.1 * 1099511628211)) + (bI x12))) + 5)))) (fun z=>Z2 z.E Za ld rfl rfl rfl (kr0 rfl)) (qsP (fun z=>Z0 z.E Za ld rfl (kr0 rfl)) (qsP (fun z=>Zv z.E Za ld rfl (Q5) (kr0 rfl)) qs0))))))))))))))) ?_
   ·intro a w u hE hM
    refine Y3 (seg:=[(Value.int .u64 (IntKind.u64.wrap ((IntKind.u64.wrap ((IntKind.u64.wrap (s6.1 * 1099511628211)) + (bI x12))) + 5)))]) hE hM Za rfl rfl rfl KZ rfl (VZ (pre:=[[v0_1],[vI 0]]) ck rfl) Jc (XW (pre:=[[v0_1],[vI 0]]) ck rfl) fun w a hM hE=>Zi (YK (Zx (wp_region_lit (Zd hE rfl fun a hE=>Zk hE rfl rfl rfl fun a hE=>Zb hE rfl fun a hE=>Zi (Zj ?_)))))
    exact ⟨_,(ois hs7),hE.sub ⟨rfl,rfl,rfl,trivial⟩,hM⟩
  ·intro hb10
   have hs7:=Zo hs7 hb10
   refine wp_exit (Zs (Zs (Y6 ?_)))
   obtain rfl:=hx8 _ (ois hs7)
   refine Zj ?_
   exact ⟨hE.sub ⟨rfl,trivial⟩,hM⟩
 ·skip
  rintro a w ⟨hE,hM⟩
  refine Zx (Zc (Zd hE rfl fun a hE=>Zb hE rfl fun a hE=>Ze ?_))
  obtain rfl:=Option.some.inj hF5
  exact wp_ret (Y7 hE rfl (Zq hE rfl) ⟨_,rfl,b1,rfl,hM⟩)
def Wl (p0_0 : (List UInt8)) (p0 : (Int × Int)) (p1 : Int) : Option ((Int × Int) × Int) :=
 if (decide (p1 < 1)) = true then (some ((p0.1,p0.2),0)) else (((some (decide (p0.1 < (p0_0.length : Int))) : Option (Bool)).bind fun j5=>if j5 = true then (((idx p0_0 p0.1).bind fun x15=>some (wr ((IntKind.i64.wrap (wru (BitVec.ofInt 64 (Ti (IntKind.u64.wrap ((IntKind.u64.wrap (p0.2 * 6364136223846793005)) + 1442695040888963407)) 33) &&& BitVec.ofInt 64 16777215).toNat)) + (bI x15))) : Option (Int)).bind fun j11=>some (wr (p0.1 + 1),j11)) else (some (p0.1,IntKind.i64.wrap (wru (BitVec.ofInt 64 (Ti (IntKind.u64.wrap ((IntKind.u64.wrap (p0.2 * 6364136223846793005)) + 1442695040888963407)) 33) &&& BitVec.ofInt 64 16777215).toNat))) : Option (Int × Int)).bind fun j2=>(UP p1).bind fun _=>some ((j2.1,IntKind.u64.wrap ((IntKind.u64.wrap (p0.2 * 6364136223846793005)) + 1442695040888963407)),Int.tmod j2.2 p1))
theorem Q0 (St : Nat → Prop) (W w0 : World) (R : Item) (pb0 : Nat) (p0_0 : (List UInt8)) (v0_0 : Value) (hv0_0 : Rep.sat St W p0_0 [v0_0] []) (p0 : (Int × Int)) (p1 : Int) (hM : M St W w0 [raw pb0 (cat [[v0_0],[vI p0.1],[(Value.int .u64 p0.2)]]),R]) (r : (Int × Int) × Int) (hF : Wl p0_0 p0 p1 = some r) :
  Calls Try.prog 81 [(ptr pb0 0),vI p1].toArray w0 (fun en w'=>∃ v,en = .returned v ∧ (v = (vI r.2) ∧ M St W w' [raw pb0 (cat [[v0_0],[vI r.1.1],[(Value.int .u64 r.1.2)]]),R])):=by
 refine ce Try.func81 ?_
 intro a hE
 unfold Wl at hF
 refine Zc (Zb hE rfl fun a hE=>Ze (wp_seq (Zc (Zd hE rfl fun a hE=>Zk hE rfl rfl rfl fun a hE=>Ze ?_))))
 refine Zm hE rfl ?_ ?_
 ·intro hb1
  have hF:=Zp hF hb1
  refine Zc (Zb hE rfl fun a hE=>Ze ?_)
  obtain rfl:=Option.some.inj hF
  exact wp_ret (Zr (Y7 hE rfl (Zq hE rfl) ⟨_,rfl,rfl,hM⟩))
 ·intro hb1
  have hF:=Zo hF hb1
  refine wp_skip (Zx (Zc (Zd hE rfl fun a hE=>Zd hE rfl fun a hE=>Z0 hE Za ld rfl fun a hE=>ZA hE rfl (Q5) fun a hE=>ZM (v:=(Value.int .u64 p0.2)) hE rfl KZ rfl (At.cat (pre:=[[v0_0],[vI p0.1]]) hM.rawAt0 ck) fun a hE=>Zk hE rfl rfl rfl fun a hE=>Zk hE rfl rfl rfl fun a hE=>Z0 hE Za ld rfl fun a hE=>ZA hE rfl (Q5) fun a hE=>Y3 (seg:=[(Value.int .u64 (IntKind.u64.wrap ((IntKind.u64.wrap (p0.2 * 6364136223846793005)) + 1442695040888963407)))]) hE hM Za rfl rfl rfl KZ rfl (VZ (pre:=[[v0_0],[vI p0.1]]) ck rfl) Jc (XW (pre:=[[v0_0],[vI p0.1]]) ck rfl) fun w a hM hE=>Ze (Zc (Zd hE rfl fun a hE=>Z0 hE Za ld rfl ?_))))); intro a hE
  refine ZA hE rfl (Q5) fun a hE=>ZM (v:=(Value.int .u64 (IntKind.u64.wrap ((IntKind.u64.wrap (p0.2 * 6364136223846793005)) + 1442695040888963407)))) hE rfl KZ rfl (At.cat (pre:=[[v0_0],[vI p0.1]]) hM.rawAt0 ck) fun a hE=>HW hE Za ld rfl rfl (zg _ _ (by decide)) fun a hE=>Zk hE rfl rfl rfl fun a hE=>TV hE Za ld rfl Try.underlying45 Try.underlying2 fun a hE=>Zb hE rfl fun a hE=>Ze ?_
  obtain ⟨j2,hl3,hF4⟩:=bind_some hF
  refine ZB (fun a w=>Env 58 a [(1,vI p1),(5,vI j2.2)] ∧ M St W w [raw pb0 (cat [[v0_0],[vI j2.1],[(Value.int .u64 (IntKind.u64.wrap ((IntKind.u64.wrap (p0.2 * 6364136223846793005)) + 1442695040888963407)))]]),R]) ?_ ?_
  ·skip
   obtain ⟨j5,hl6,hF7⟩:=bind_some hl3
   refine ZB (fun a w=>Env 58 a [(0,(ptr pb0 0)),(1,vI p1),(5,(vI (IntKind.i64.wrap (wru (BitVec.ofInt 64 (Ti (IntKind.u64.wrap ((IntKind.u64.wrap (p0.2 * 6364136223846793005)) + 1442695040888963407)) 33) &&& BitVec.ofInt 64 16777215).toNat)))),(33,vT j5)] ∧ M St W w [raw pb0 (cat [[v0_0],[vI p0.1],[(Value.int .u64 (IntKind.u64.wrap ((IntKind.u64.wrap (p0.2 * 6364136223846793005)) + 1442695040888963407)))]]),R]) ?_ ?_
   ·skip
    refine Y4 [24,25,26,27,28,29,30,31,32,33] VC rfl rfl (by decide) rfl hE hM (qsP (fun z=>Zh z.E Za ld rfl (kr0 rfl)) (qsP (fun z=>Z0 z.E Za ld rfl (kr0 rfl)) (qsP (fun z=>Zv z.E Za ld rfl (K8) (kr0 rfl)) (qsP (fun z=>ZK (v:=(vI p0.1)) z.E Za ld rfl ty3 rfl (At.cat (pre:=[[v0_0]]) (z.M.rawAt0) ck) (kr0 rfl)) (qsP (fun z=>Zh z.E Za ld rfl (kr0 rfl)) (qsP (fun z=>Z0 z.E Za ld rfl (kr0 rfl)) (qsP (fun z=>Zv z.E Za ld rfl (Ar) (kr0 rfl)) (qsP (fun z=>ZK (v:=v0_0) z.E Za ld rfl YS rfl (At.cat (pre:=[]) (z.M.rawAt0) cl0) (kr0 rfl)) (qsP (fun z=>VU z.E Za ld rfl Try.underlying22 (z.M.rd hv0_0) (kr0 rfl)) (qsP (fun z=>Z2 z.E Za ld rfl rfl rfl (kr0 rfl)) qs0)))))))))) ?_
    ·intro a w u hE hM
     refine Zi ?_
     obtain rfl:=Option.some.inj hl6
     refine Zj ?_
     exact ⟨hE.sub ⟨rfl,rfl,rfl,rfl,trivial⟩,hM⟩
   ·skip
    rintro a w ⟨hE,hM⟩
    refine Zm hE rfl ?_ ?_
    ·intro hb10
     have hF7:=Zp hF7 hb10
     obtain ⟨j11,hl12,hF13⟩:=bind_some hF7
     refine ZB (fun a w=>Env 58 a [(0,(ptr pb0 0)),(1,vI p1),(5,vI j11)] ∧ M St W w [raw pb0 (cat [[v0_0],[vI p0.1],[(Value.int .u64 (IntKind.u64.wrap ((IntKind.u64.wrap (p0.2 * 6364136223846793005)) + 1442695040888963407)))]]),R]) ?_ ?_
     ·skip
      obtain ⟨x15,hi17,hl12⟩:=bix hl12
      refine Y4 [34,35,36,37,38,39,40,41,42,43,44,45,46] VC rfl rfl (by decide) rfl hE hM (qsP (fun z=>Zh z.E Za ld rfl (kr0 rfl)) (qsP (fun z=>Zh z.E Za ld rfl (kr0 rfl)) (qsP (fun z=>Z0 z.E Za ld rfl (kr0 rfl)) (qsP (fun z=>Zv z.E Za ld rfl (Ar) (kr0 rfl)) (qsP (fun z=>ZK (v:=v0_0) z.E Za ld rfl YS rfl (At.cat (pre:=[]) (z.M.rawAt0) cl0) (kr0 rfl)) (qsP (fun z=>Zh z.E Za ld rfl (kr0 rfl)) (qsP (fun z=>Z0 z.E Za ld rfl (kr0 rfl)) (qsP (fun z=>Zv z.E Za ld rfl (K8) (kr0 rfl)) (qsP (fun z=>ZK (v:=(vI p0.1)) z.E Za ld rfl ty3 rfl (At.cat (pre:=[[v0_0]]) (z.M.rawAt0) ck) (kr0 rfl)) (qsP (fun z=>ZG z.E Za ld rfl rfl Try.underlying22 ty5 (z.M.rd hv0_0) hi17.1 (kr0 rfl)) (qsP (fun z=>ZK (v:=(vB x15)) z.E Za ld rfl ty5 rfl (Z4 (z.M.rd hv0_0) hi17.2) (kr0 rfl)) (qsP (fun z=>Tl z.E Za ld rfl Try.underlying5 Try.underlying2 (kr0 rfl)) (qsP (v:=(vI (wr ((IntKind.i64.wrap (wru (BitVec.ofInt 64 (Ti (IntKind.u64.wrap ((IntKind.u64.wrap (p0.2 * 6364136223846793005)) + 1442695040888963407)) 33) &&& BitVec.ofInt 64 16777215).toNat)) + (bI x15))))) (fun z=>Z2 z.E Za ld rfl rfl rfl (kr0 rfl)) qs0))))))))))))) ?_
      ·intro a w u hE hM
       refine Zb hE rfl fun a hE=>Zi ?_
       obtain rfl:=Option.some.inj hl12
       refine Zj ?_
       exact ⟨hE.sub ⟨rfl,rfl,rfl,trivial⟩,hM⟩
     ·skip
      rintro a w ⟨hE,hM⟩
      refine wp_region_lit (Zd hE rfl fun a hE=>Zd hE rfl fun a hE=>Z0 hE Za ld rfl fun a hE=>ZA hE rfl (K8) fun a hE=>ZM (v:=(vI p0.1)) hE rfl ty3 rfl (At.cat (pre:=[[v0_0]]) hM.rawAt0 ck) fun a hE=>Zk hE rfl rfl rfl fun a hE=>Z0 hE Za ld rfl fun a hE=>ZA hE rfl (K8) fun a hE=>Y3 (seg:=[(vI (wr (p0.1 + 1)))]) hE hM Za rfl rfl rfl ty3 rfl (VZ (pre:=[[v0_0]]) ck rfl) (Flat.cell (wr (p0.1 + 1) : Int)) (XW (pre:=[[v0_0]]) ck rfl) fun w a hM hE=>Zi ?_)
      obtain rfl:=Option.some.inj hF13
      refine Zj ?_
      exact ⟨hE.sub ⟨rfl,rfl,trivial⟩,hM⟩
    ·intro hb10
     have hF7:=Zo hF7 hb10
     refine wp_skip ?_
     obtain rfl:=Option.some.inj hF7
     refine Zj ?_
     exact ⟨hE.sub ⟨rfl,rfl,trivial⟩,hM⟩
  ·skip
   rintro a w ⟨hE,hM⟩
   refine Zc (Zd hE rfl fun a hE=>Zd hE rfl ?_); intro a hE
   obtain ⟨_,e21,hF4⟩:=bind_some hF4
   have e21:=QY e21
   refine Zk hE rfl rfl (Kq _ _ e21) fun a hE=>Zb hE rfl fun a hE=>Ze ?_
   obtain rfl:=Option.some.inj hF4
   exact wp_ret (Y7 hE rfl (Zq hE rfl) ⟨_,rfl,rfl,hM⟩)
def Uf (p0_0 : (List UInt8)) (s8 : Int × Int × Int × (List UInt8)) : Option (Fl (Int × Int × Int × (List UInt8)) (Int × Int × (List UInt8))) :=
 if (decide (s8.2.2.1 > 0)) = true then ((Wl p0_0 (s8.1,s8.2.1) 256).bind fun r15=>(app 1 s8.2.2.2 ([X1 r15.2] : List UInt8)).bind fun l19=>some (Fl.nx (r15.1.1,r15.1.2,wr (s8.2.2.1 - 1),(s8.2.2.2 ++ ([X1 r15.2] : List UInt8))))) else (some (Fl.ex (s8.1,s8.2.1,s8.2.2.2)))
def VX (p0_0 : (List UInt8)) (p0 : (Int × Int)) (p1 : Int) : Option ((Int × Int) × (List UInt8)) :=
 (ZJ (Uf p0_0) (p0.1,p0.2,p1,([] : List UInt8))).bind fun j3=>some ((j3.1,j3.2.1),j3.2.2)
theorem Hx (St : Nat → Prop) (W w0 : World) (R : Item) (pb0 : Nat) (p0_0 : (List UInt8)) (v0_0 : Value) (hv0_0 : Rep.sat St W p0_0 [v0_0] []) (p0 : (Int × Int)) (p1 : Int) (hM : M St W w0 [raw pb0 (cat [[v0_0],[vI p0.1],[(Value.int .u64 p0.2)]]),R]) (r : (Int × Int) × (List UInt8)) (hF : VX p0_0 p0 p1 = some r) :
  Calls Try.prog 21 [(ptr pb0 0),vI p1].toArray w0 (fun en w'=>∃ v,en = .returned v ∧ (∃ (y1 : Value),v = y1 ∧ M St W w' [raw pb0 (cat [[v0_0],[vI r.1.1],[(Value.int .u64 r.1.2)]]),osl NoB (r.2 : List UInt8) y1,R])):=by
 refine ce Try.func21 ?_
 intro a hE
 unfold VX at hF
 refine Zc (Zb hE rfl fun a hE=>Ze (Zc (ZE (xs:=[]) (l:=([] : List UInt8)) (vs:=[]) hE hM Za ld rfl rfl Try.underlying22 ty5 rfl (by decide) rfl fun u1 w a hM hE=>Zb hE rfl fun a hE=>Ze ?_)))
 obtain ⟨j3,hl4,hF5⟩:=bind_some hF
 refine ZB (fun a w=>∃ (u6 : Value),Env 18 a [(5,u6)] ∧ M St W w [raw pb0 (cat [[v0_0],[vI j3.1],[(Value.int .u64 j3.2.1)]]),R,osl NoB (j3.2.2 : List UInt8) u6]) ?_ ?_
 ·skip
  refine wp_block ?_
  have hM:=hM.pull2.pull2
  refine ZO (fun (s8 : Int × Int × Int × (List UInt8)) a w=>∃ (u9 : Value),Env 18 a [(0,(ptr pb0 0)),(1,vI s8.2.2.1),(5,u9)] ∧ M St W w [raw pb0 (cat [[v0_0],[vI s8.1],[(Value.int .u64 s8.2.1)]]),R,osl NoB (s8.2.2.2 : List UInt8) u9]) hl4 ⟨u1,hE.sub ⟨rfl,rfl,rfl,trivial⟩,hM⟩ ?_
  rintro s8 a w ⟨u9,hE,hM⟩ o13 hs11 hx12
  unfold Uf at hs11
  refine wp_seq (Zc (Zd hE rfl fun a hE=>Zk hE rfl rfl rfl fun a hE=>Ze ?_))
  refine Zm hE rfl ?_ ?_
  ·intro hb14
   have hs11:=Zp hs11 hb14
   refine wp_skip (Zx (wp_seq (wp_block (wp_region_lit (Zd hE rfl fun a hE=>Zd hE rfl ?_))))); intro a hE
   have hM:=M.tailP (m:=[_]) hM
   obtain ⟨r15,e16,hs11⟩:=bind_some hs11
   refine Zl hE rfl (cbm Try.func81) (Q0 _ _ _ _ pb0 p0_0 v0_0 hv0_0 (s8.1,s8.2.1) 256 hM r15 e16) ?_
   rintro v w a ⟨rfl,hM⟩ hE
   have hM:=M.tailU (m:=[_]) hM
   simp only [List.cons_append,List.nil_append] at hM
   refine Tj hE Za ld rfl Try.underlying2 Try.underlying5 fun a hE=>ZE (xs:=[.tmp 14]) (l:=([X1 r15.2] : List UInt8)) (vs:=[(vB (X1 r15.2))]) hE hM Za ld rfl rfl Try.underlying22 ty5 rfl (by decide) rfl ?_; intro u17 w a hM hE
   obtain ⟨l19,e20,hs11⟩:=bind_some hs11
   obtain ⟨e23,rfl⟩:=Yi e20
   have hM:=hM.pull3
   refine YE hE hM Za ld rfl rfl (hM.sl (pre:=[_]) noB) Try.underlying22 ty5 rfl (by decide) e23 fun u21 w a hM hE=>Zb hE rfl fun a hE=>Zi (YK (Zx (wp_region_lit (Zd hE rfl fun a hE=>Zk hE rfl rfl rfl fun a hE=>Zb hE rfl fun a hE=>Zi (Zj ?_)))))
   have hM:=(hM.pull3.pull3.pull3).drop
   exact ⟨_,(ois hs11),u21,hE.sub ⟨rfl,rfl,rfl,trivial⟩,hM⟩
  ·intro hb14
   have hs11:=Zo hs11 hb14
   refine wp_exit (Zs (Zs (Y6 ?_)))
   obtain rfl:=hx12 _ (ois hs11)
   refine Zj ?_
   exact ⟨u9,hE.sub ⟨rfl,trivial⟩,hM⟩
 ·skip
  rintro a w ⟨u6,hE,hM⟩
  refine Zc (Zd hE rfl fun a hE=>Zb hE rfl fun a hE=>Ze ?_)
  obtain rfl:=Option.some.inj hF5
  have hM:=hM.pull1.pull2.pull2
  exact wp_ret (Y7 hE rfl (Zq hE rfl) ⟨_,rfl,u6,rfl,hM⟩)
def YH (p0 : (List UInt8)) : Option ((List UInt8)) :=
 (app 1 ([] : List UInt8) p0).bind fun l7=>some (([] : List UInt8) ++ p0)
theorem UX (w0 : World) (p0 : (List UInt8)) (v0_1 : Value) (hv0_1 : Ro w0 p0 [v0_1]) (r : (List UInt8)) (hF : YH p0 = some r) :
  Calls Try.prog 139 [v0_1].toArray w0 (fun en w'=>∃ v,en = .returned v ∧ (∃ (y1 : Value),v = y1 ∧ Fr w0 w' [osl NoB (r : List UInt8) y1] ∧ Kept (Old w0) w0 w')):=by
 refine ce Try.func139 ?_
 intro a hE
 have hM:=M.start w0
 unfold YH at hF
 refine Zc (Zb hE rfl fun a hE=>Ze (wp_seq (Zc (Zd hE rfl fun a hE=>z5 hE Za ld rfl rfl Try.underlying22 (hM.rd hv0_1) fun bn1 a hn2 hE=>Ze ?_))))
 refine Zm hE rfl ?_ ?_
 ·intro hb3
  have h0:=hn2 hb3
  have hF : some ([]) = some r:=by rw [h0] at hF; simpa [app] using hF
  refine Zc (Zb hE rfl fun a hE=>Ze ?_)
  have hM:=M.nilS (α:=UInt8) NoB noB hM
  obtain rfl:=Option.some.inj hF
  exact wp_ret (Zr (Y7 hE rfl (Zq hE rfl) ⟨_,rfl,(Value.slice none 0 0),rfl,hM.outF (YG YP),hM.kept⟩))
 ·intro hb3
  refine wp_skip (Zx (Zc (ZE (xs:=[]) (l:=([] : List UInt8)) (vs:=[]) hE hM Za ld rfl rfl Try.underlying22 ty5 rfl (by decide) rfl fun u5 w a hM hE=>Zd hE rfl ?_))); intro a hE
  obtain ⟨l7,e8,hF⟩:=bind_some hF
  obtain ⟨e11,rfl⟩:=Yi e8
  refine YE hE hM Za ld rfl rfl (hM.rd hv0_1) Try.underlying22 ty5 rfl (by decide) e11 fun u9 w a hM hE=>Zb hE rfl fun a hE=>Ze ?_
  obtain rfl:=Option.some.inj hF
  exact wp_ret (Y7 hE rfl (Zq hE rfl) ⟨_,rfl,u9,rfl,hM.outF (YG YP),hM.kept⟩)
def Va (p1 : (List GShare)) (s8 : Int × (List GShare)) (r25 : (List UInt8)) (s33 : Int × (List UInt8)) : Option (Fl (Int × (List UInt8)) (List UInt8)) :=
 if (decide (s33.1 < (r25.length : Int))) = true then ((idx s33.2 s33.1).bind fun x41=>(idx p1 s8.1).bind fun x44=>(idx x44.Data s33.1).bind fun x52=>(idx s33.2 s33.1).bind fun x55=>some (Fl.nx (wr (s33.1 + 1),(s33.2.set (s33.1).toNat (x41 ^^^ x52))))) else (some (Fl.ex s33.2))
def Vf (p0 : (List GShare)) (p1 : (List GShare)) (s8 : Int × (List GShare)) : Option (Fl (Int × (List GShare)) (List GShare)) :=
 if (decide (s8.1 < (p0.length : Int))) = true then ((idx p0 s8.1).bind fun x15=>(YH x15.Data).bind fun r25=>(ZJ (Va p1 s8 r25) (0,r25)).bind fun j28=>(app 32 s8.2 ([(⟨x15.Place,j28⟩ : GShare)] : List GShare)).bind fun l61=>some (Fl.nx (wr (s8.1 + 1),(s8.2 ++ ([(⟨x15.Place,j28⟩ : GShare)] : List GShare))))) else (some (Fl.ex s8.2))
def VA (p0 : (List GShare)) (p1 : (List GShare)) : Option ((List GShare)) :=
 (ZJ (Vf p0 p1) (0,([] : List GShare))).bind fun j3=>some j3
theorem QO (w0 : World) (p0 : (List GShare)) (v0_1 : Value) (hv0_1 : Ro w0 p0 [v0_1]) (p1 : (List GShare)) (v1_1 : Value) (hv1_1 : Ro w0 p1 [v1_1]) (r : (List GShare)) (hF : VA p0 p1 = some r) :
  Calls Try.prog 82 [v0_1,v1_1].toArray w0 (fun en w'=>∃ v,en = .returned v ∧ (∃ (y1 : Value),v = y1 ∧ Fr w0 w' [osl NoB (r : List GShare) y1] ∧ Kept (Old w0) w0 w')):=by
 refine ce Try.func82 ?_
 intro a hE
 have hM:=M.start w0
 unfold VA at hF
 refine Zc (Zb hE rfl fun a hE=>Ze (Zc (US (xs:=[]) (S:=NoB) (l:=([] : List GShare)) (vs:=[]) hE hM.emp noB Za ld rfl rfl rfl Try.underlying27 ZU rfl (by decide) (fun _ h=>⟨rfl,h⟩) (fun _ h=>by cases h) fun u1 w a hM hE=>Zb hE rfl fun a hE=>Ze (wp_seq (Zc (Zd hE rfl fun a hE=>ZQ hE rfl Try.underlying27 (hM.rd hv0_1) fun a hE=>Zd hE rfl fun a hE=>Ze ?_))))))
 obtain ⟨j3,hl4,hF5⟩:=bind_some hF
 refine Z6 (fun a w=>∃ (u6 : Value),Env 50 a [(5,u6)] ∧ M (Old w0) w0 w [osl NoB (j3 : List GShare) u6]) ?_ ?_
 ·skip
  refine wp_block ?_
  refine ZO (fun (s8 : Int × (List GShare)) a w=>∃ (u9 : Value),Env 50 a [(1,v1_1),(5,u9),(11,v0_1),(12,(vI (p0.length : Int))),(13,vI s8.1)] ∧ M (Old w0) w0 w [osl NoB (s8.2 : List GShare) u9]) hl4 ⟨u1,hE.sub ⟨rfl,rfl,rfl,rfl,rfl,trivial⟩,hM⟩ ?_
  rintro s8 a w ⟨u9,hE,hM⟩ o13 hs11 hx12
  unfold Vf at hs11
  refine Zc (Zk hE rfl rfl rfl fun a hE=>Ze (wp_seq ?_))
  refine Zm hE rfl ?_ ?_
  ·intro hb14
   have hs11:=Zp hs11 hb14
   refine wp_skip (Zx (wp_seq (wp_block (Zc (Zd hE rfl ?_))))); intro a hE
   obtain ⟨x15,hi17,hs11⟩:=bix hs11
   refine ZD hE rfl rfl Try.underlying27 ZU (hM.rd hv0_1) hi17.1 ?_; intro a hE
   obtain ⟨cs18,hs19,hA20⟩:=Yc hv0_1 hi17.2 -- ^
   obtain ⟨u21,rfl,h22⟩:=ZW hs19 -- ^
   refine Ue hE rfl ZU rfl (hM.atk hA20 (YI hv0_1 hi17.2)) cq fun a hE=>Ug hE hM ZU fun b23 w a hM hE=>Zb hE rfl fun a hE=>Y3 (seg:=cat [[vB x15.Place],[u21]]) (cs':=cat [[vB x15.Place],[u21]]) hE hM Za rfl rfl rfl ZU cq (Nat.le_of_eq ((Nat.zero_add _).trans (Eq.trans cq (Eq.symm cq)))) (Wk (cc1 (Flat.cell (x15.Place : UInt8)) (cc1 (Rep.cell (hM.rd h22)) cc0))) (ZX (Eq.trans cq (Eq.symm cq))) fun w a hM hE=>Ze (Zc (ZA hE rfl (YL) fun a hE=>ZM (v:=u21) hE rfl YS rfl (At.cat (pre:=[[vB x15.Place]]) hM.rawAt0 ck) ?_)); intro a hE
   obtain ⟨r25,e26,hs11⟩:=bind_some hs11
   refine Zl hE rfl (cbm Try.func139) (UX _ x15.Data u21 (hM.rdo h22) r25 e26) ?_
   rintro u27 w a ⟨_,rfl,hFr,hK⟩ hE
   have hM:=hM.add hK hFr
   refine Zb hE rfl fun a hE=>Ze (wp_seq (Zc (Zd hE rfl fun a hE=>ZQ hE rfl Try.underlying22 (hM.sl (pre:=[]) noB) fun a hE=>Zd hE rfl fun a hE=>Ze ?_)))
   obtain ⟨j28,hl29,hF30⟩:=bind_some hs11
   refine Z6 (fun a w=>∃ (u31 : Value),Env 50 a [(1,v1_1),(5,u9),(7,(ptr b23 0)),(8,u31),(11,v0_1),(12,(vI (p0.length : Int))),(13,vI s8.1)] ∧ M (Old w0) w0 w [raw b23 (cat [[vB x15.Place],[u21]]),osl NoB (s8.2 : List GShare) u9,osl NoB (j28 : List UInt8) u31]) ?_ ?_
   ·skip
    refine wp_block ?_
    have hM:=hM.pull2.pull2
    refine ZO (fun (s33 : Int × (List UInt8)) a w=>∃ (u34 : Value),Env 50 a [(1,v1_1),(5,u9),(6,vI s8.1),(7,(ptr b23 0)),(8,u34),(11,v0_1),(12,(vI (p0.length : Int))),(13,vI s8.1),(22,(vI (r25.length : Int))),(23,vI s33.1)] ∧ M (Old w0) w0 w [raw b23 (cat [[vB x15.Place],[u21]]),osl NoB (s8.2 : List GShare) u9,osl NoB (s33.2 : List UInt8) u34]) hl29 ⟨u27,hE.sub ⟨rfl,rfl,rfl,rfl,rfl,rfl,rfl,rfl,rfl,rfl,trivial⟩,hM⟩ ?_
    rintro s33 a w ⟨u34,hE,hM⟩ o38 hs36 hx37
    unfold Va at hs36
    refine Zc (Zk hE rfl rfl rfl fun a hE=>Ze (wp_seq ?_))
    refine Zm hE rfl ?_ ?_
    ·intro hb39
     have hs36:=Zp hs36 hb39
     refine wp_skip (Zx (wp_seq (wp_block (Zc (Zd hE rfl fun a hE=>Zb hE rfl fun a hE=>Ze ?_)))))
     obtain ⟨x41,hi43,hs36⟩:=bix hs36
     obtain ⟨x44,hi46,hs36⟩:=bix hs36
     obtain ⟨cs47,hs48,hA49⟩:=Yc hv1_1 hi46.2 -- ^
     obtain ⟨u50,rfl,h51⟩:=ZW hs48 -- ^
     obtain ⟨x52,hi54,hs36⟩:=bix hs36
     obtain ⟨x55,hi57,hs36⟩:=bix hs36
     refine Y4 [26,27,28,29,30,31,32,33,34,35,36,37,38,39] VC rfl rfl (by decide) rfl hE hM (qsP (fun z=>Zh z.E Za ld rfl (kr0 rfl)) (qsP (fun z=>Zh z.E Za ld rfl (kr0 rfl)) (qsP (fun z=>ZG z.E Za ld rfl rfl Try.underlying22 ty5 (z.M.sl (pre:=[_,_]) noB) hi43.1 (kr0 rfl)) (qsP (fun z=>ZK (v:=(vB x41)) z.E Za ld rfl ty5 rfl (Z4 (z.M.sl (pre:=[_,_]) noB) hi43.2) (kr0 rfl)) (qsP (fun z=>Zh z.E Za ld rfl (kr0 rfl)) (qsP (fun z=>Zh z.E Za ld rfl (kr0 rfl)) (qsP (fun z=>ZG z.E Za ld rfl rfl Try.underlying27 ZU (z.M.rd hv1_1) hi46.1 (kr0 rfl)) (qsP (fun z=>Zv z.E Za ld rfl (YL) (kr0 rfl)) (qsP (fun z=>ZK (v:=u50) z.E Za ld rfl YS rfl (At.cat (pre:=[[vB x44.Place]]) (z.M.atk hA49 (YI hv1_1 hi46.2)) ck) (kr0 rfl)) (qsP (fun z=>Zh z.E Za ld rfl (kr0 rfl)) (qsP (fun z=>ZG z.E Za ld rfl rfl Try.underlying22 ty5 (z.M.rd h51) hi54.1 (kr0 rfl)) (qsP (fun z=>ZK (v:=(vB x52)) z.E Za ld rfl ty5 rfl (Z4 (z.M.rd h51) hi54.2) (kr0 rfl)) (qsP (v:=(vB (x41 ^^^ x52))) (fun z=>Z2 z.E Za ld rfl rfl (U0 x41 x52) (kr0 rfl)) (qsP (fun z=>ZG z.E Za ld rfl rfl Try.underlying22 ty5 (z.M.sl (pre:=[_,_]) noB) hi57.1 (kr0 rfl)) qs0)))))))))))))) ?_
     ·intro a w u hE hM
      have hM:=hM.pull2
      refine UH (i:=(s33.1).toNat) (k0:=0) (seg:=[(vB (x41 ^^^ x52))]) (xo:=x55) (xn:=x41 ^^^ x52) hE hM Za rfl rfl rfl ty5 rfl (Flat.cell (x41 ^^^ x52 : UInt8)) hi57.2 (Tm (m:=1) rfl (by decide)) (ZX rfl) fun w a hM hE=>Zi (YK (Zx (wp_region_lit (Zk hE rfl rfl rfl fun a hE=>Zd hE rfl fun a hE=>Zi (Zj ?_)))))
      have hM:=hM.pull2.pull2
      exact ⟨_,(ois hs36),u34,hE.sub ⟨rfl,rfl,rfl,rfl,rfl,rfl,rfl,rfl,rfl,rfl,trivial⟩,hM⟩
    ·intro hb39
     have hs36:=Zo hs36 hb39
     refine wp_exit (Zs (Zs (Y6 ?_)))
     obtain rfl:=hx37 _ (ois hs36)
     refine Zj ?_
     exact ⟨u34,hE.sub ⟨rfl,rfl,rfl,rfl,rfl,rfl,rfl,trivial⟩,hM⟩
   ·skip
    rintro a w ⟨u31,hE,hM⟩
    refine Zx (wp_region_lit (Zd hE rfl fun a hE=>ZA hE rfl (Wn) fun a hE=>ZM (v:=(vB x15.Place)) hE rfl ty5 rfl (At.cat (pre:=[]) hM.rawAt0 cl0) fun a hE=>Zd hE rfl fun a hE=>XS (parts:=[(0,.tmp 43),(1,.tmp 44)]) (vs:=[(0,vB x15.Place),(1,u31)]) (cs:=cat [[vB x15.Place],[u31]]) hE Za ld rfl rfl ZU HO (X9 (pre:=[]) (seg:=[vB 0]) (seg':=[vB x15.Place]) (post:=[[(Value.slice none 0 0)]]) rfl cl0 rfl rfl rfl (X9 (pre:=[[vB x15.Place]]) (seg:=[(Value.slice none 0 0)]) (seg':=[u31]) (post:=[]) rfl ck rfl rfl (WD (hM.sl (pre:=[_,_]) noB)) Vq)) ?_)); intro a hE
    have hM:=hM.pull2
    have hM:=hM.pack1 (it:=own NoB (⟨x15.Place,j28⟩ : GShare) (cat [[vB x15.Place],[u31]])) (Vh noB) (fun f0 q0=>(Tb (X2.sat q0) (by simp)))
    refine U5 (xs:=[.tmp 45]) (seg:=cat [[vB x15.Place],[u31]]) hE hM noB Za ld rfl rfl Try.underlying27 ZU rfl (by decide) ?_; intro u59 w a hM hE
    obtain ⟨l61,e62,hF30⟩:=bind_some hF30
    obtain ⟨e65,rfl⟩:=Yi e62
    have hM:=hM.pull2
    refine UA hE hM noB Za ld rfl rfl Try.underlying27 ZU rfl (by decide) e65 fun u63 w a hM hE=>Zb hE rfl fun a hE=>Zi (YK (Zx (wp_region_lit (Zk hE rfl rfl rfl fun a hE=>Zd hE rfl fun a hE=>Zi (Zj ?_)))))
    have hM:=M.fst (l:=[_]) hM
    exact ⟨_,(ois hF30),u63,hE.sub ⟨rfl,rfl,rfl,rfl,rfl,trivial⟩,hM⟩
  ·intro hb14
   have hs11:=Zo hs11 hb14
   refine wp_exit (Zs (Zs (Y6 ?_)))
   obtain rfl:=hx12 _ (ois hs11)
   refine Zj ?_
   exact ⟨u9,hE.sub ⟨rfl,trivial⟩,hM⟩
 ·skip
  rintro a w ⟨u6,hE,hM⟩
  refine Zx (Zc (Zd hE rfl fun a hE=>Zb hE rfl fun a hE=>Ze ?_))
  obtain rfl:=Option.some.inj hF5
  exact wp_ret (Y7 hE rfl (Zq hE rfl) ⟨_,rfl,u6,rfl,hM.outF (YG YP),hM.kept⟩)
def Xm (p0 : Int) (p1 : (List GShare)) (p2 : (List (List UInt8))) : Option ((List GShare) × Int) :=
 (Z3 p0 p1 1).bind fun r1=>if (r1 != 0) = true then (some ([],r1)) else ((idx p1 (0 : Int)).bind fun x5=>(YC p2 (x5.Data.length : Int)).bind fun r13=>if (!r13) = true then (some ([],2)) else (((mkS 1 (0 : UInt8) (x5.Data.length : Int)).bind fun l23=>(Z7 p1).bind fun r27=>(Xg p0 l23 p2 r27).bind fun r30=>(VA p1 r30).bind fun r33=>some r33 : Option ((List GShare))).bind fun j17=>some (j17,0)))
theorem TS (w0 : World) (p0 : Int) (p1 : (List GShare)) (v1_1 : Value) (hv1_1 : Ro w0 p1 [v1_1]) (p2 : (List (List UInt8))) (v2_1 : Value) (hv2_1 : Ro w0 p2 [v2_1]) (r : (List GShare) × Int) (hF : Xm p0 p1 p2 = some r) :
  Calls Try.prog 22 [vI p0,v1_1,v2_1].toArray w0 (fun en w'=>∃ v,en = .returned v ∧ (∃ (y1 : Value),v = (Value.tuple [y1,vI r.2].toArray) ∧ Fr w0 w' [osl NoB (r.1 : List GShare) y1] ∧ Kept (Old w0) w0 w')):=by
 refine ce Try.func22 ?_
 intro a hE
 have hM:=M.start w0
 unfold Xm at hF
 refine Zc (Zb hE rfl fun a hE=>Zb hE rfl fun a hE=>Ze (wp_seq (Zc (Zd hE rfl fun a hE=>Zd hE rfl ?_)))); intro a hE
 obtain ⟨r1,e2,hF⟩:=bind_some hF
 refine Zl hE rfl cb64 (Xc _ p0 p1 v1_1 (hM.rdo hv1_1) 1 r1 e2) ?_
 rintro v w a ⟨rfl,hK⟩ hE
 have hM:=hM.keep hK
 refine Zb hE rfl fun a hE=>Ze (Zc (Zd hE rfl fun a hE=>Zk hE rfl rfl rfl fun a hE=>Ze ?_))
 refine Zm hE rfl ?_ ?_
 ·intro hb3
  have hF:=Zp hF hb3
  refine Zc (Zd hE rfl fun a hE=>Zb hE rfl fun a hE=>Zb hE rfl fun a hE=>Ze ?_)
  have hM:=M.nilS (α:=GShare) NoB noB hM
  obtain rfl:=Option.some.inj hF
  exact wp_ret (Zr (Yr hE rfl (Zq hE rfl) (Zq hE rfl) ⟨_,rfl,(Value.slice none 0 0),rfl,hM.outF (YG YP),hM.kept⟩))
 ·intro hb3
  have hF:=Zo hF hb3
  refine wp_skip (Zx (Zc (Zd hE rfl ?_))); intro a hE
  obtain ⟨x5,hi7,hF⟩:=bix hF
  refine ZD hE rfl rfl Try.underlying27 ZU (hM.rd hv1_1) hi7.1 fun a hE=>ZA hE rfl (YL) ?_; intro a hE
  obtain ⟨cs8,hs9,hA10⟩:=Yc hv1_1 hi7.2 -- ^
  obtain ⟨u11,rfl,h12⟩:=ZW hs9 -- ^
  refine ZM (v:=u11) hE rfl YS rfl (At.cat (pre:=[[vB x5.Place]]) (hM.atk hA10 (YI hv1_1 hi7.2)) ck) fun a hE=>ZQ hE rfl Try.underlying22 (hM.rd h12) fun a hE=>Zb hE rfl fun a hE=>Ze (wp_seq (Zc (Zd hE rfl fun a hE=>Zd hE rfl ?_))); intro a hE
  obtain ⟨r13,e14,hF⟩:=bind_some hF
  refine Zl hE rfl (cbm Try.func55) (V8 _ p2 v2_1 (hM.rdo hv2_1) (x5.Data.length : Int) r13 e14) ?_
  rintro v w a ⟨rfl,hK⟩ hE
  have hM:=hM.keep hK
  refine VW hE rfl fun a hE=>Ze ?_
  refine Zm hE rfl ?_ ?_
  ·intro hb15
   have hF:=Zp hF hb15
   refine Zc (Zb hE rfl fun a hE=>Zb hE rfl fun a hE=>Ze ?_)
   have hM:=M.nilS (α:=GShare) NoB noB hM
   obtain rfl:=Option.some.inj hF
   exact wp_ret (Zr (Yr hE rfl (Zq hE rfl) (Zq hE rfl) ⟨_,rfl,(Value.slice none 0 0),rfl,hM.outF (YG YP),hM.kept⟩))
  ·intro hb15
   have hF:=Zo hF hb15
   refine wp_skip (Zx ?_)
   obtain ⟨j17,hl18,hF19⟩:=bind_some hF
   refine ZB (fun a w=>∃ (u20 : Value),Env 34 a [(6,u20),(7,vI 0)] ∧ M (Old w0) w0 w [osl NoB (j17 : List GShare) u20]) ?_ ?_
   ·skip
    obtain ⟨l23,e24,hl18⟩:=bind_some hl18
    obtain ⟨r27,e28,hl18⟩:=bind_some hl18
    obtain ⟨r30,e31,hl18⟩:=bind_some hl18
    refine VL (its:=[]) (mk:=([mkO 3 (fun v=>osl NoB (l23 : List UInt8) v),mkO 6 (fun v=>osl NoB (r27 : List UInt8) v),mkO 7 (fun v=>osl NoB (r30 : List GShare) v)] : Mk)) [25,26,27,28,29,30,31,32] VC rfl rfl (by decide) rfl hE (fun u=>M.qE (M.qE (M.qE (M.q0 hM.drew u) emO) emO) emO) (qsP (fun z=>Zh z.E Za ld rfl (kr0 rfl)) (qsP (fun z=>Zh z.E Za ld rfl (kr0 rfl)) (qsP (fun z=>Zh z.E Za ld rfl (kr0 rfl)) (qsM (pr:=fun v=>True) ?_ (qsP (fun z=>Zh z.E Za ld rfl (kr0 rfl)) (qsP (fun z=>Zh z.E Za ld rfl (kr0 rfl)) (qsM (pr:=fun v=>True) ?_ (qsM (pr:=fun v=>True) ?_ qs0)))))))) ?_
    ·intro a w ux22 D z
     have hE:=z.E
     have hD : D 3 = false:=z.F
     have hM:=z.M
     exact HH hE hM Za ld rfl rfl Try.underlying22 ty5 rfl (by decide) (fun _=>QG.2 ⟨rfl,rfl⟩) e24 fun u25 w a hM hE=>⟨_,_,rfl,hE,M.qFill (mk1:=[]) (mk2:=[_,_]) (f:=(fun v=>osl NoB (l23 : List UInt8) v)) hM rfl hD,trivial⟩
    ·intro a w ux22 D z
     have hE:=z.E
     have hD : D 6 = false:=z.F
     have hM0:=z.M
     have hM:=z.M
     refine Zl hE rfl BF (Xt _ p1 v1_1 (hM.rdo hv1_1) r27 e28) ?_
     rintro _ w a ⟨_,rfl,hFr,hK⟩ hE
     have hM:=hM0.add hK hFr
     exact ⟨_,_,rfl,hE,M.qFill (mk1:=[_]) (mk2:=[_]) (f:=(fun v=>osl NoB (r27 : List UInt8) v)) hM rfl hD,trivial⟩
    ·intro a w ux22 D z
     have hE:=z.E
     have hD : D 7 = false:=z.F
     have d3 : D 3 = true:=z.p 1 _ rfl rfl
     have d6 : D 6 = true:=z.p 3 _ rfl rfl
     have hM0:=z.M
     have hM:=(z.M.sure (pre:=[]) d3).sure (pre:=[_]) d6
     refine Zl hE rfl (cbm Try.func59) (UI _ p0 l23 (ux22 3) (hM.sl (pre:=[]) noB) p2 v2_1 (hM.rdo hv2_1) r27 (ux22 6) (hM.sl (pre:=[_]) noB) r30 e31) ?_
     rintro _ w a ⟨_,rfl,hFr,hK⟩ hE
     have hM:=hM0.add hK hFr
     exact ⟨_,_,rfl,hE,M.qFill (mk1:=[_,_]) (mk2:=[]) (f:=(fun v=>osl NoB (r30 : List GShare) v)) hM rfl hD,trivial⟩
    ·intro a w ux22 D hE hM hG hall
     have d3:=hall 3 (by decide)
     have d6:=hall 6 (by decide)
     have d7:=hall 7 (by decide)
     have hM:=((hM.sure (pre:=[]) d3).sure (pre:=[_]) d6).sure (pre:=[_,_]) d7
     obtain ⟨r33,e34,hl18⟩:=bind_some hl18
     refine Zl hE rfl (cbm Try.func82) (QO _ p1 v1_1 (hM.rdo hv1_1) r30 (ux22 7) (hM.sl (pre:=[_,_]) noB) r33 e34) ?_
     rintro u35 w a ⟨_,rfl,hFr,hK⟩ hE
     have hM:=hM.add hK hFr
     refine Zb hE rfl fun a hE=>Zb hE rfl fun a hE=>Zi ?_
     obtain rfl:=Option.some.inj hl18
     refine Zj ?_
     have hM:=M.fst (l:=[_]) hM
     exact ⟨u35,hE.sub ⟨rfl,rfl,trivial⟩,hM⟩
   ·skip
    rintro a w ⟨u20,hE,hM⟩
    obtain rfl:=Option.some.inj hF19
    exact wp_ret (Yr hE rfl (Zq hE rfl) (Zq hE rfl) ⟨_,rfl,u20,rfl,hM.outF (YG YP),hM.kept⟩)
def Wy (p0 : Int) (p1 : (List GShare)) (p2 : (List GShare)) : Option ((List GShare) × Int) :=
 (Z3 p0 p1 1).bind fun r1=>(Z3 p0 p2 1).bind fun r3=>(if (r1 == 1) = true then (some true) else (some (r3 == 1)) : Option (Bool)).bind fun j5=>if j5 = true then (some ([],1)) else ((if (r1 != 0) = true then (some true) else (if (r3 != 0) = true then (some true) else ((Z7 p1).bind fun r21=>(Z7 p2).bind fun r24=>(Vb r21 r24).bind fun r27=>if (!r27) = true then (some true) else ((idx p1 (0 : Int)).bind fun x31=>(idx p2 (0 : Int)).bind fun x39=>some ((x31.Data.length : Int) != (x39.Data.length : Int))))) : Option (Bool)).bind fun j13=>if j13 = true then (some ([],2)) else ((VA p1 p2).bind fun r50=>some (r50,0)))
theorem Kg (w0 : World) (p0 : Int) (p1 : (List GShare)) (v1_1 : Value) (hv1_1 : Ro w0 p1 [v1_1]) (p2 : (List GShare)) (v2_1 : Value) (hv2_1 : Ro w0 p2 [v2_1]) (r : (List GShare) × Int) (hF : Wy p0 p1 p2 = some r) :
  Calls Try.prog 23 [vI p0,v1_1,v2_1].toArray w0 (fun en w'=>∃ v,en = .returned v ∧ (∃ (y1 : Value),v = (Value.tuple [y1,vI r.2].toArray) ∧ Fr w0 w' [osl NoB (r.1 : List GShare) y1] ∧ Kept (Old w0) w0 w')):=by
 refine ce Try.func23 ?_
 intro a hE
 have hM:=M.start w0
 unfold Wy at hF
 refine Zc (Zb hE rfl fun a hE=>Zb hE rfl fun a hE=>Ze (Zc (Zd hE rfl fun a hE=>Zd hE rfl ?_))); intro a hE
 obtain ⟨r1,e2,hF⟩:=bind_some hF
 refine Zl hE rfl cb64 (Xc _ p0 p1 v1_1 (hM.rdo hv1_1) 1 r1 e2) ?_
 rintro v w a ⟨rfl,hK⟩ hE
 have hM:=hM.keep hK
 refine Zd hE rfl fun a hE=>Zd hE rfl ?_; intro a hE
 obtain ⟨r3,e4,hF⟩:=bind_some hF
 refine Zl hE rfl cb64 (Xc _ p0 p2 v2_1 (hM.rdo hv2_1) 1 r3 e4) ?_
 rintro v w a ⟨rfl,hK⟩ hE
 have hM:=hM.keep hK
 refine Zb hE rfl fun a hE=>Zb hE rfl fun a hE=>Ze (wp_seq (wp_block ?_))
 obtain ⟨j5,hl6,hF7⟩:=bind_some hF
 refine ZB (fun a w=>Env 54 a [(1,v1_1),(2,v2_1),(8,vI r1),(9,vI r3),(16,vT j5)] ∧ M (Old w0) w0 w []) ?_ ?_
 ·skip
  refine wp_region_lit (Zd hE rfl fun a hE=>Zk hE rfl rfl rfl fun a hE=>Zd hE rfl ?_); intro a hE
  refine ZZ (r1 == 1) (fun hb8=>?_) (fun hb8=>?_)
  ·have hl6:=Zp hl6 hb8
   refine Zg hE rfl (lkb rfl hb8) rfl (by decide) fun a hE=>Zg hE rfl (lkb rfl hb8) rfl (by decide) fun a hE=>ZC hE (lkb rfl hb8) rfl fun a hE=>Zb hE rfl fun a hE=>Zi ?_
   obtain rfl:=Option.some.inj hl6
   refine Zj ?_
   exact ⟨hE.sub ⟨rfl,rfl,rfl,rfl,rfl,trivial⟩,hM⟩
  ·have hl6:=Zo hl6 hb8
   refine Zh hE (Zf hE rfl (lkb rfl hb8)) (by decide) rfl fun a hE=>Z2 hE (Zf hE rfl (lkb rfl hb8)) (by decide) rfl rfl rfl fun a hE=>ZL hE (lkb rfl hb8) rfl fun a hE=>Zb hE rfl fun a hE=>Zi ?_
   obtain rfl:=Option.some.inj hl6
   refine Zj ?_
   exact ⟨hE.sub ⟨rfl,rfl,rfl,rfl,rfl,trivial⟩,hM⟩
 ·skip
  rintro a w ⟨hE,hM⟩
  refine Zm hE rfl ?_ ?_
  ·intro hb11
   have hF7:=Zp hF7 hb11
   refine Zc (Zb hE rfl fun a hE=>Zb hE rfl fun a hE=>Ze ?_)
   have hM:=M.nilS (α:=GShare) NoB noB hM
   obtain rfl:=Option.some.inj hF7
   exact wp_ret (Yh (Zr (Yr hE rfl (Zq hE rfl) (Zq hE rfl) ⟨_,rfl,(Value.slice none 0 0),rfl,hM.outF (YG YP),hM.kept⟩)))
  ·intro hb11
   have hF7:=Zo hF7 hb11
   obtain ⟨j13,hl14,hF15⟩:=bind_some hF7
   refine ZB (fun a w=>Env 54 a [(1,v1_1),(2,v2_1),(23,vT j13)] ∧ M (Old w0) w0 w []) ?_ ?_
   ·skip
    refine ZZ (r1 != 0) (fun hb17=>?_) (fun hb17=>?_)
    ·have hl14:=Zp hl14 hb17
     refine VL (its:=[]) (mk:=([] : Mk)) [24,25,26,27,28,29,30,31,32,33,34,35,36,37,38,39,40,41,42,43,44,45,46,47,48] VC rfl rfl (by decide) rfl hE (fun u=>M.q0 hM.drew u) (qsP (fun z=>Zh z.E Za ld rfl (kr0 rfl)) (qsP (fun z=>Z2 z.E Za ld rfl rfl rfl (kr0 rfl)) (qsP (fun z=>Zh z.E Za ld rfl (kr0 rfl)) (qsP (fun z=>Zg z.E rfl (lkb rfl hb17) rfl (by decide) (kr0 rfl)) (qsP (fun z=>Zg z.E rfl (lkb rfl hb17) rfl (by decide) (kr0 rfl)) (qsP (fun z=>Qb z.E Za ld (lkb rfl hb17) rfl (kr0 rfl)) (qsP (fun z=>Zh z.E Za ld rfl (kr0 rfl)) (qsP (fun z=>Zg z.E rfl rfl rfl (by decide) (kr0 rfl)) (qsP (fun z=>Zg z.E rfl rfl rfl (by decide) (kr0 rfl)) (qsP (fun z=>Zg z.E rfl rfl rfl (by decide) (kr0 rfl)) (qsP (fun z=>Zg z.E rfl rfl rfl (by decide) (kr0 rfl)) (qsP (fun z=>Zg z.E rfl rfl rfl (by decide) (kr0 rfl)) (qsP (fun z=>Zg z.E rfl rfl rfl (by decide) (kr0 rfl)) (qsP (fun z=>Qb z.E Za ld rfl rfl (kr0 rfl)) (qsP (fun z=>Zh z.E Za ld rfl (kr0 rfl)) (qsP (fun z=>Zg z.E rfl rfl rfl (by decide) (kr0 rfl)) (qsP (fun z=>Zg z.E rfl rfl rfl (by decide) (kr0 rfl)) (qsP (fun z=>Zg z.E rfl rfl rfl (by decide) (kr0 rfl)) (qsP (fun z=>Zg z.E rfl rfl rfl (by decide) (kr0 rfl)) (qsP (fun z=>Zg z.E rfl rfl rfl (by decide) (kr0 rfl)) (qsP (fun z=>Zg z.E rfl rfl rfl (by decide) (kr0 rfl)) (qsP (fun z=>Zg z.E rfl rfl rfl (by decide) (kr0 rfl)) (qsP (fun z=>Zg z.E rfl rfl rfl (by decide) (kr0 rfl)) (qsP (fun z=>Zg z.E rfl rfl rfl (by decide) (kr0 rfl)) (qsP (fun z=>Zg z.E rfl rfl rfl (by decide) (kr0 rfl)) qs0))))))))))))))))))))))))) ?_
     ·intro a w ux16 D hE hM hG hall
      refine Zg hE rfl rfl rfl (by decide) fun a hE=>ZC hE rfl rfl fun a hE=>Zb hE rfl fun a hE=>Zi ?_
      obtain rfl:=Option.some.inj hl14
      refine Zj ?_
      exact ⟨hE.sub ⟨rfl,rfl,rfl,trivial⟩,hM⟩
    ·have hl14:=Zo hl14 hb17
     refine ZZ (r3 != 0) (fun hb19=>?_) (fun hb19=>?_)
     ·have hl14:=Zp hl14 hb19
      refine VL (its:=[]) (mk:=([] : Mk)) [24,25,26,27,28,29,30,31,32,33,34,35,36,37,38,39,40,41,42,43,44,45,46,47,48] VC rfl rfl (by decide) rfl hE (fun u=>M.q0 hM.drew u) (qsP (fun z=>Zh z.E Za ld rfl (kr0 rfl)) (qsP (fun z=>Z2 z.E Za ld rfl rfl rfl (kr0 rfl)) (qsP (fun z=>Zh z.E Za ld rfl (kr0 rfl)) (qsP (fun z=>Zh z.E (Zf z.E rfl (lkb rfl hb17)) (by decide) rfl (kr0 rfl)) (qsP (fun z=>Z2 z.E (Zf z.E rfl (lkb rfl hb17)) (by decide) rfl rfl rfl (kr0 rfl)) (qsP (fun z=>UR z.E Za ld (lkb rfl hb17) rfl (kr0 rfl)) (qsP (fun z=>Zh z.E Za ld rfl (kr0 rfl)) (qsP (fun z=>Zg z.E rfl (lkb rfl hb19) rfl (by decide) (kr0 rfl)) (qsP (fun z=>Zg z.E rfl (lkb rfl hb19) rfl (by decide) (kr0 rfl)) (qsP (fun z=>Zg z.E rfl (lkb rfl hb19) rfl (by decide) (kr0 rfl)) (qsP (fun z=>Zg z.E rfl (lkb rfl hb19) rfl (by decide) (kr0 rfl)) (qsP (fun z=>Zg z.E rfl (lkb rfl hb19) rfl (by decide) (kr0 rfl)) (qsP (fun z=>Zg z.E rfl (lkb rfl hb19) rfl (by decide) (kr0 rfl)) (qsP (fun z=>Qb z.E Za ld (lkb rfl hb19) rfl (kr0 rfl)) (qsP (fun z=>Zh z.E Za ld rfl (kr0 rfl)) (qsP (fun z=>Zg z.E rfl rfl rfl (by decide) (kr0 rfl)) (qsP (fun z=>Zg z.E rfl rfl rfl (by decide) (kr0 rfl)) (qsP (fun z=>Zg z.E rfl rfl rfl (by decide) (kr0 rfl)) (qsP (fun z=>Zg z.E rfl rfl rfl (by decide) (kr0 rfl)) (qsP (fun z=>Zg z.E rfl rfl rfl (by decide) (kr0 rfl)) (qsP (fun z=>Zg z.E rfl rfl rfl (by decide) (kr0 rfl)) (qsP (fun z=>Zg z.E rfl rfl rfl (by decide) (kr0 rfl)) (qsP (fun z=>Zg z.E rfl rfl rfl (by decide) (kr0 rfl)) (qsP (fun z=>Zg z.E rfl rfl rfl (by decide) (kr0 rfl)) (qsP (fun z=>Zg z.E rfl rfl rfl (by decide) (kr0 rfl)) qs0))))))))))))))))))))))))) ?_
      ·intro a w ux16 D hE hM hG hall
       refine Zg hE rfl rfl rfl (by decide) fun a hE=>ZC hE rfl rfl fun a hE=>Zb hE rfl fun a hE=>Zi ?_
       obtain rfl:=Option.some.inj hl14
       refine Zj ?_
       exact ⟨hE.sub ⟨rfl,rfl,rfl,trivial⟩,hM⟩
     ·have hl14:=Zo hl14 hb19
      obtain ⟨r21,e22,hl14⟩:=bind_some hl14
      obtain ⟨r24,e25,hl14⟩:=bind_some hl14
      obtain ⟨r27,e28,hl14⟩:=bind_some hl14
      refine ZZ (!r27) (fun hb29=>?_) (fun hb29=>?_)
      ·have hl14:=Zp hl14 hb29
       refine VL (its:=[]) (mk:=([mkO 8 (fun v=>osl NoB (r21 : List UInt8) v),mkO 10 (fun v=>osl NoB (r24 : List UInt8) v)] : Mk)) [24,25,26,27,28,29,30,31,32,33,34,35,36,37,38,39,40,41,42,43,44,45,46,47,48] VC rfl rfl (by decide) rfl hE (fun u=>M.qE (M.qE (M.q0 hM.drew u) emO) emO) (qsP (fun z=>Zh z.E Za ld rfl (kr0 rfl)) (qsP (fun z=>Z2 z.E Za ld rfl rfl rfl (kr0 rfl)) (qsP (fun z=>Zh z.E Za ld rfl (kr0 rfl)) (qsP (fun z=>Zh z.E (Zf z.E rfl (lkb rfl hb17)) (by decide) rfl (kr0 rfl)) (qsP (fun z=>Z2 z.E (Zf z.E rfl (lkb rfl hb17)) (by decide) rfl rfl rfl (kr0 rfl)) (qsP (fun z=>UR z.E Za ld (lkb rfl hb17) rfl (kr0 rfl)) (qsP (fun z=>Zh z.E Za ld rfl (kr0 rfl)) (qsP (fun z=>Zh z.E (Zf z.E rfl (lkb rfl hb19)) (by decide) rfl (kr0 rfl)) (qsM (pr:=fun v=>True) ?_ (qsP (fun z=>Zh z.E (Zf z.E rfl (lkb rfl hb19)) (by decide) rfl (kr0 rfl)) (qsM (pr:=fun v=>True) ?_ (qsP (v:=(vT r27)) ?_ (qsP (fun z=>V7 z.E (Zf z.E rfl (lkb rfl hb19)) (by decide) rfl (kr0 rfl)) (qsP (fun z=>UR z.E Za ld (lkb rfl hb19) rfl (kr0 rfl)) (qsP (fun z=>Zh z.E Za ld rfl (kr0 rfl)) (qsP (fun z=>Zg z.E rfl (lkb rfl hb29) rfl (by decide) (kr0 rfl)) (qsP (fun z=>Zg z.E rfl (lkb rfl hb29) rfl (by decide) (kr0 rfl)) (qsP (fun z=>Zg z.E rfl (lkb rfl hb29) rfl (by decide) (kr0 rfl)) (qsP (fun z=>Zg z.E rfl (lkb rfl hb29) rfl (by decide) (kr0 rfl)) (qsP (fun z=>Zg z.E rfl (lkb rfl hb29) rfl (by decide) (kr0 rfl)) (qsP (fun z=>Zg z.E rfl (lkb rfl hb29) rfl (by decide) (kr0 rfl)) (qsP (fun z=>Zg z.E rfl (lkb rfl hb29) rfl (by decide) (kr0 rfl)) (qsP (fun z=>Zg z.E rfl (lkb rfl hb29) rfl (by decide) (kr0 rfl)) (qsP (fun z=>Zg z.E rfl (lkb rfl hb29) rfl (by decide) (kr0 rfl)) (qsP (fun z=>Zg z.E rfl (lkb rfl hb29) rfl (by decide) (kr0 rfl)) qs0))))))))))))))))))))))))) ?_
       ·intro a w ux16 D z
        have hE:=z.E
        have hD : D 8 = false:=z.F
        have hM0:=z.M
        have hM:=z.M
        refine Z1 hE (Zf hE rfl (lkb rfl hb19)) (by decide) rfl BF (Xt _ p1 v1_1 (hM.rdo hv1_1) r21 e22) ?_
        rintro _ w a ⟨_,rfl,hFr,hK⟩ hE
        have hM:=hM0.add hK hFr
        exact ⟨_,_,rfl,hE,M.qFill (mk1:=[]) (mk2:=[_]) (f:=(fun v=>osl NoB (r21 : List UInt8) v)) hM rfl hD,trivial⟩
       ·intro a w ux16 D z
        have hE:=z.E
        have hD : D 10 = false:=z.F
        have hM0:=z.M
        have hM:=z.M
        refine Z1 hE (Zf hE rfl (lkb rfl hb19)) (by decide) rfl BF (Xt _ p2 v2_1 (hM.rdo hv2_1) r24 e25) ?_
        rintro _ w a ⟨_,rfl,hFr,hK⟩ hE
        have hM:=hM0.add hK hFr
        exact ⟨_,_,rfl,hE,M.qFill (mk1:=[_]) (mk2:=[]) (f:=(fun v=>osl NoB (r24 : List UInt8) v)) hM rfl hD,trivial⟩
       ·intro a w ux16 D z
        have hE:=z.E
        have d8 : D 8 = true:=z.p 0 _ rfl rfl
        have d10 : D 10 = true:=z.p 1 _ rfl rfl
        have hM:=(z.M.sure (pre:=[]) d8).sure (pre:=[_]) d10
        refine Z1 hE (Zf hE rfl (lkb rfl hb19)) (by decide) rfl cb83 (UV _ r21 (ux16 8) (hM.sl (pre:=[]) noB) r24 (ux16 10) (hM.sl (pre:=[_]) noB) r27 e28) ?_
        rintro v w a ⟨rfl,hK⟩ hE
        exact ⟨hK,_,rfl,hE⟩
       ·intro a w ux16 D hE hM hG hall
        have d8:=hall 8 (by decide)
        have d10:=hall 10 (by decide)
        have hM:=(hM.sure (pre:=[]) d8).sure (pre:=[_]) d10
        refine Zg hE rfl (lkb rfl hb29) rfl (by decide) fun a hE=>ZC hE (lkb rfl hb29) rfl fun a hE=>Zb hE rfl fun a hE=>Zi ?_
        obtain rfl:=Option.some.inj hl14
        refine Zj ?_
        have hM:=M.fst (l:=[]) hM
        exact ⟨hE.sub ⟨rfl,rfl,rfl,trivial⟩,hM⟩
      ·have hl14:=Zo hl14 hb29
       obtain ⟨x31,hi33,hl14⟩:=bix hl14
       obtain ⟨cs34,hs35,hA36⟩:=Yc hv1_1 hi33.2 -- ^
       obtain ⟨u37,rfl,h38⟩:=ZW hs35 -- ^
       obtain ⟨x39,hi41,hl14⟩:=bix hl14
       obtain ⟨cs42,hs43,hA44⟩:=Yc hv2_1 hi41.2 -- ^
       obtain ⟨u45,rfl,h46⟩:=ZW hs43 -- ^
       refine VL (its:=[]) (mk:=([mkO 8 (fun v=>osl NoB (r21 : List UInt8) v),mkO 10 (fun v=>osl NoB (r24 : List UInt8) v)] : Mk)) [24,25,26,27,28,29,30,31,32,33,34,35,36,37,38,39,40,41,42,43,44,45,46,47,48] VC rfl rfl (by decide) rfl hE (fun u=>M.qE (M.qE (M.q0 hM.drew u) emO) emO) (qsP (fun z=>Zh z.E Za ld rfl (kr0 rfl)) (qsP (fun z=>Z2 z.E Za ld rfl rfl rfl (kr0 rfl)) (qsP (fun z=>Zh z.E Za ld rfl (kr0 rfl)) (qsP (fun z=>Zh z.E (Zf z.E rfl (lkb rfl hb17)) (by decide) rfl (kr0 rfl)) (qsP (fun z=>Z2 z.E (Zf z.E rfl (lkb rfl hb17)) (by decide) rfl rfl rfl (kr0 rfl)) (qsP (fun z=>UR z.E Za ld (lkb rfl hb17) rfl (kr0 rfl)) (qsP (fun z=>Zh z.E Za ld rfl (kr0 rfl)) (qsP (fun z=>Zh z.E (Zf z.E rfl (lkb rfl hb19)) (by decide) rfl (kr0 rfl)) (qsM (pr:=fun v=>True) ?_ (qsP (fun z=>Zh z.E (Zf z.E rfl (lkb rfl hb19)) (by decide) rfl (kr0 rfl)) (qsM (pr:=fun v=>True) ?_ (qsP (v:=(vT r27)) ?_ (qsP (fun z=>V7 z.E (Zf z.E rfl (lkb rfl hb19)) (by decide) rfl (kr0 rfl)) (qsP (fun z=>UR z.E Za ld (lkb rfl hb19) rfl (kr0 rfl)) (qsP (fun z=>Zh z.E Za ld rfl (kr0 rfl)) (qsP (fun z=>Zh z.E (Zf z.E rfl (lkb rfl hb29)) (by decide) rfl (kr0 rfl)) (qsP (v:=(ptr (sb v1_1) (so v1_1 + ((0 : Int)).toNat * 2))) ?_ (qsP (fun z=>Zv z.E (Zf z.E rfl (lkb rfl hb29)) (by decide) rfl (YL) (kr0 rfl)) (qsP (v:=u37) ?_ (qsP (v:=(vI (x31.Data.length : Int))) ?_ (qsP (fun z=>Zh z.E (Zf z.E rfl (lkb rfl hb29)) (by decide) rfl (kr0 rfl)) (qsP (v:=(ptr (sb v2_1) (so v2_1 + ((0 : Int)).toNat * 2))) ?_ (qsP (fun z=>Zv z.E (Zf z.E rfl (lkb rfl hb29)) (by decide) rfl (YL) (kr0 rfl)) (qsP (v:=u45) ?_ (qsP (v:=(vI (x39.Data.length : Int))) ?_ qs0))))))))))))))))))))))))) ?_
       ·intro a w ux16 D z
        have hE:=z.E
        have hD : D 8 = false:=z.F
        have hM0:=z.M
        have hM:=z.M
        refine Z1 hE (Zf hE rfl (lkb rfl hb19)) (by decide) rfl BF (Xt _ p1 v1_1 (hM.rdo hv1_1) r21 e22) ?_
        rintro _ w a ⟨_,rfl,hFr,hK⟩ hE
        have hM:=hM0.add hK hFr
        exact ⟨_,_,rfl,hE,M.qFill (mk1:=[]) (mk2:=[_]) (f:=(fun v=>osl NoB (r21 : List UInt8) v)) hM rfl hD,trivial⟩
       ·intro a w ux16 D z
        have hE:=z.E
        have hD : D 10 = false:=z.F
        have hM0:=z.M
        have hM:=z.M
        refine Z1 hE (Zf hE rfl (lkb rfl hb19)) (by decide) rfl BF (Xt _ p2 v2_1 (hM.rdo hv2_1) r24 e25) ?_
        rintro _ w a ⟨_,rfl,hFr,hK⟩ hE
        have hM:=hM0.add hK hFr
        exact ⟨_,_,rfl,hE,M.qFill (mk1:=[_]) (mk2:=[]) (f:=(fun v=>osl NoB (r24 : List UInt8) v)) hM rfl hD,trivial⟩
       ·intro a w ux16 D z
        have hE:=z.E
        have d8 : D 8 = true:=z.p 0 _ rfl rfl
        have d10 : D 10 = true:=z.p 1 _ rfl rfl
        have hM:=(z.M.sure (pre:=[]) d8).sure (pre:=[_]) d10
        refine Z1 hE (Zf hE rfl (lkb rfl hb19)) (by decide) rfl cb83 (UV _ r21 (ux16 8) (hM.sl (pre:=[]) noB) r24 (ux16 10) (hM.sl (pre:=[_]) noB) r27 e28) ?_
        rintro v w a ⟨rfl,hK⟩ hE
        exact ⟨hK,_,rfl,hE⟩
       ·intro a w ux16 D z
        have hE:=z.E
        have hM:=z.M
        exact ZG hE (Zf hE rfl (lkb rfl hb29)) (by decide) rfl rfl Try.underlying27 ZU (hM.rd hv1_1) hi33.1 fun a hE=>⟨Kept.refl _ _,_,rfl,hE⟩
       ·intro a w ux16 D z
        have hE:=z.E
        have hM:=z.M
        exact ZK (v:=u37) hE (Zf hE rfl (lkb rfl hb29)) (by decide) rfl YS rfl (At.cat (pre:=[[vB x31.Place]]) (hM.atk hA36 (YI hv1_1 hi33.2)) ck) fun a hE=>⟨Kept.refl _ _,_,rfl,hE⟩
       ·intro a w ux16 D z
        have hE:=z.E
        have hM:=z.M
        exact VU hE (Zf hE rfl (lkb rfl hb29)) (by decide) rfl Try.underlying22 (hM.rd h38) fun a hE=>⟨Kept.refl _ _,_,rfl,hE⟩
       ·intro a w ux16 D z
        have hE:=z.E
        have hM:=z.M
        exact ZG hE (Zf hE rfl (lkb rfl hb29)) (by decide) rfl rfl Try.underlying27 ZU (hM.rd hv2_1) hi41.1 fun a hE=>⟨Kept.refl _ _,_,rfl,hE⟩
       ·intro a w ux16 D z
        have hE:=z.E
        have hM:=z.M
        exact ZK (v:=u45) hE (Zf hE rfl (lkb rfl hb29)) (by decide) rfl YS rfl (At.cat (pre:=[[vB x39.Place]]) (hM.atk hA44 (YI hv2_1 hi41.2)) ck) fun a hE=>⟨Kept.refl _ _,_,rfl,hE⟩
       ·intro a w ux16 D z
        have hE:=z.E
        have hM:=z.M
        exact VU hE (Zf hE rfl (lkb rfl hb29)) (by decide) rfl Try.underlying22 (hM.rd h46) fun a hE=>⟨Kept.refl _ _,_,rfl,hE⟩
       ·intro a w ux16 D hE hM hG hall
        have d8:=hall 8 (by decide)
        have d10:=hall 10 (by decide)
        have hM:=(hM.sure (pre:=[]) d8).sure (pre:=[_]) d10
        refine Z2 hE (Zf hE rfl (lkb rfl hb29)) (by decide) rfl rfl rfl fun a hE=>ZL hE (lkb rfl hb29) rfl fun a hE=>Zb hE rfl fun a hE=>Zi ?_
        obtain rfl:=Option.some.inj hl14
        refine Zj ?_
        have hM:=M.fst (l:=[]) hM
        exact ⟨hE.sub ⟨rfl,rfl,rfl,trivial⟩,hM⟩
   ·skip
    rintro a w ⟨hE,hM⟩
    refine Zm hE rfl ?_ ?_
    ·intro hb48
     have hF15:=Zp hF15 hb48
     refine Zc (Zb hE rfl fun a hE=>Zb hE rfl fun a hE=>Ze ?_)
     have hM:=M.nilS (α:=GShare) NoB noB hM
     obtain rfl:=Option.some.inj hF15
     exact wp_ret (Yh (Zr (Yr hE rfl (Zq hE rfl) (Zq hE rfl) ⟨_,rfl,(Value.slice none 0 0),rfl,hM.outF (YG YP),hM.kept⟩)))
    ·intro hb48
     have hF15:=Zo hF15 hb48
     refine wp_skip (YK (Zx (Zc (Zd hE rfl fun a hE=>Zd hE rfl ?_)))); intro a hE
     obtain ⟨r50,e51,hF15⟩:=bind_some hF15
     refine Zl hE rfl (cbm Try.func82) (QO _ p1 v1_1 (hM.rdo hv1_1) p2 v2_1 (hM.rdo hv2_1) r50 e51) ?_
     rintro u52 w a ⟨_,rfl,hFr,hK⟩ hE
     have hM:=hM.add hK hFr
     refine Zb hE rfl fun a hE=>Zb hE rfl fun a hE=>Ze ?_
     obtain rfl:=Option.some.inj hF15
     exact wp_ret (Yr hE rfl (Zq hE rfl) (Zq hE rfl) ⟨_,rfl,u52,rfl,hM.outF (YG YP),hM.kept⟩)
def XV (p0 : (List UInt8)) : Option (Int × (List GShare) × Int × UInt8) :=
 (XR p0).bind fun r1=>(X3 p0 (r1.1,r1.2)).bind fun r5=>(Yk p0 (r5.1.1,r5.1.2)).bind fun r8=>some (r5.2.1,r5.2.2.1,r5.2.2.2,r8.2)
theorem Qw (w0 : World) (p0 : (List UInt8)) (v0_1 : Value) (hv0_1 : Ro w0 p0 [v0_1]) (r : Int × (List GShare) × Int × UInt8) (hF : XV p0 = some r) :
  Calls Try.prog 24 [v0_1].toArray w0 (fun en w'=>∃ v,en = .returned v ∧ (∃ (y1 : Value),v = (Value.tuple [vI r.1,y1,vI r.2.2.1,vB r.2.2.2].toArray) ∧ Fr w0 w' [osl NoB (r.2.1 : List GShare) y1] ∧ Kept (Old w0) w0 w')):=by
 refine ce Try.func24 ?_
 intro a hE
 have hM:=M.start w0
 unfold XV at hF
 refine Zc (Zb hE rfl fun a hE=>Zb hE rfl fun a hE=>Zb hE rfl fun a hE=>Zb hE rfl fun a hE=>Ze (Zc (Zd hE rfl ?_))); intro a hE
 have hM:=M.tailP (m:=[]) hM
 obtain ⟨r1,e2,hF⟩:=bind_some hF
 refine Zl hE rfl cb47 (UJ _ _ _ _ p0 v0_1 hv0_1 hM r1 e2) ?_
 rintro v w a ⟨b3,rfl,hM⟩ hE
 have hM:=M.tailU (m:=[_]) hM
 simp only [List.cons_append,List.nil_append] at hM
 refine Zb hE rfl fun a hE=>Ze (Zc (Zd hE rfl ?_)); intro a hE
 have hM:=M.tailP (m:=[_]) hM
 obtain ⟨r5,e6,hF⟩:=bind_some hF
 refine Zl hE rfl (cbm Try.func74) (TC _ _ _ _ b3 p0 v0_1 hv0_1 (r1.1,r1.2) hM r5 e6) ?_
 rintro v w a ⟨u7,rfl,hM⟩ hE
 have hM:=M.tailU (m:=[_,_]) hM
 simp only [List.cons_append,List.nil_append] at hM
 refine Zd hE rfl fun a hE=>Zw hE Za ld rfl rfl fun a hE=>Zw hE Za ld rfl rfl fun a hE=>Zw hE Za ld rfl rfl fun a hE=>Zb hE rfl fun a hE=>Zb hE rfl fun a hE=>Zb hE rfl fun a hE=>Ze (Zc (Zd hE rfl fun a hE=>Zd hE rfl fun a hE=>Zd hE rfl fun a hE=>Zd hE rfl ?_)); intro a hE
 have hM:=M.tailP (m:=[_]) hM
 obtain ⟨r8,e9,hF⟩:=bind_some hF
 refine Zl hE rfl cb84 (WW _ _ _ _ b3 p0 v0_1 hv0_1 (r5.1.1,r5.1.2) hM r8 e9) ?_
 rintro v w a ⟨rfl,hM⟩ hE
 have hM:=M.tailU (m:=[_]) hM
 simp only [List.cons_append,List.nil_append] at hM
 refine Zb hE rfl fun a hE=>Zb hE rfl fun a hE=>Zb hE rfl fun a hE=>Zb hE rfl fun a hE=>Ze ?_
 obtain rfl:=Option.some.inj hF
 have hM:=M.fst (l:=[_]) hM.pull1
 exact wp_ret (A7 hE rfl (Zq hE rfl) (Zq hE rfl) (Zq hE rfl) (Zq hE rfl) ⟨_,rfl,u7,rfl,hM.outF (YG YP),hM.kept⟩)
def Vw (p0 : Int) (p1 : (List GShare)) (p2 : Int) (p3 : UInt8) : Option (GShare × Int) :=
 (Z3 p0 p1 p2).bind fun r3=>if (r3 != 0) = true then (some ((⟨0,[]⟩ : GShare),r3)) else (if (p3 == 0) = true then (some ((⟨0,[]⟩ : GShare),2)) else ((YM p0 p1 p2 p3).bind fun r11=>if (r11.2 != 0) = true then (some ((⟨0,[]⟩ : GShare),r11.2)) else (some ((⟨p3,r11.1⟩ : GShare),0))))
theorem Jq (w0 : World) (p0 : Int) (p1 : (List GShare)) (v1_1 : Value) (hv1_1 : Ro w0 p1 [v1_1]) (p2 : Int) (p3 : UInt8) (r : GShare × Int) (hF : Vw p0 p1 p2 p3 = some r) :
  Calls Try.prog 25 [vI p0,v1_1,vI p2,vB p3].toArray w0 (fun en w'=>∃ v,en = .returned v ∧ (∃ (y1 : Value),v = (Value.tuple [(Value.agg (cat [[vB r.1.Place],[y1]]).toArray),vI r.2].toArray) ∧ Fr w0 w' [osl NoB (r.1.Data : List UInt8) y1] ∧ Kept (Old w0) w0 w')):=by
 refine ce Try.func25 ?_
 intro a hE
 have hM:=M.start w0
 unfold Vw at hF
 refine Zc (Ug hE hM ZU fun b1 w a hM hE=>Zb hE rfl fun a hE=>Ze (wp_seq (Zc (Zd hE rfl fun a hE=>Zd hE rfl fun a hE=>Zd hE rfl ?_)))); intro a hE
 obtain ⟨r3,e4,hF⟩:=bind_some hF
 refine Zl hE rfl cb64 (Xc _ p0 p1 v1_1 (hM.rdo hv1_1) p2 r3 e4) ?_
 rintro v w a ⟨rfl,hK⟩ hE
 have hM:=hM.keep hK
 refine Zb hE rfl fun a hE=>Ze (Zc (Zd hE rfl fun a hE=>Zk hE rfl rfl rfl fun a hE=>Ze ?_))
 refine Zm hE rfl ?_ ?_
 ·intro hb5
  have hF:=Zp hF hb5
  refine Zc (XS (parts:=[]) (vs:=[]) (cs:=cat [[vB 0],[(Value.slice none 0 0)]]) hE Za ld rfl rfl ZU HO Vq fun a hE=>Zd hE rfl fun a hE=>Y3 (seg:=cat [[vB 0],[(Value.slice none 0 0)]]) (cs':=cat [[vB 0],[(Value.slice none 0 0)]]) hE hM Za rfl rfl rfl ZU cq (Nat.le_of_eq ((Nat.zero_add _).trans (Eq.trans cq (Eq.symm cq)))) (Wk (cc1 (Flat.cell (0 : UInt8)) (cc1 Qc cc0))) (ZX (Eq.trans cq (Eq.symm cq))) fun w a hM hE=>Zb hE rfl fun a hE=>Ze ?_)
  have hM:=M.nilS (α:=UInt8) NoB noB hM
  obtain rfl:=Option.some.inj hF
  have hq7 : VS Try.prog _ _ (.cell 8 38) _:=U8 hE rfl ZU rfl hM.rawAt1 cq rfl
  have hM:=M.fst (l:=[_]) hM
  exact wp_ret (Zr (Yr hE rfl hq7 (Zq hE rfl) ⟨_,rfl,(Value.slice none 0 0),rfl,hM.outF (YG YP),hM.kept⟩))
 ·intro hb5
  have hF:=Zo hF hb5
  refine wp_skip (Zx (wp_seq (Zc (Zd hE rfl fun a hE=>Zk hE rfl rfl (JP p3 0) fun a hE=>Ze ?_))))
  refine Zm hE rfl ?_ ?_
  ·intro hb8
   have hF:=Zp hF hb8
   refine Zc (XS (parts:=[]) (vs:=[]) (cs:=cat [[vB 0],[(Value.slice none 0 0)]]) hE Za ld rfl rfl ZU HO Vq fun a hE=>Y3 (seg:=cat [[vB 0],[(Value.slice none 0 0)]]) (cs':=cat [[vB 0],[(Value.slice none 0 0)]]) hE hM Za rfl rfl rfl ZU cq (Nat.le_of_eq ((Nat.zero_add _).trans (Eq.trans cq (Eq.symm cq)))) (Wk (cc1 (Flat.cell (0 : UInt8)) (cc1 Qc cc0))) (ZX (Eq.trans cq (Eq.symm cq))) fun w a hM hE=>Zb hE rfl fun a hE=>Ze ?_)
   have hM:=M.nilS (α:=UInt8) NoB noB hM
   obtain rfl:=Option.some.inj hF
   have hq10 : VS Try.prog _ _ (.cell 8 38) _:=U8 hE rfl ZU rfl hM.rawAt1 cq rfl
   have hM:=M.fst (l:=[_]) hM
   exact wp_ret (Zr (Yr hE rfl hq10 (Zq hE rfl) ⟨_,rfl,(Value.slice none 0 0),rfl,hM.outF (YG YP),hM.kept⟩))
  ·intro hb8
   have hF:=Zo hF hb8
   refine wp_skip (Zx (Zc (Zd hE rfl fun a hE=>Zd hE rfl fun a hE=>Zd hE rfl fun a hE=>Zd hE rfl ?_))); intro a hE
   obtain ⟨r11,e12,hF⟩:=bind_some hF
   refine Zl hE rfl (cbm Try.func65) (Ui _ p0 p1 v1_1 (hM.rdo hv1_1) p2 p3 r11 e12) ?_
   rintro v w a ⟨u13,rfl,hFr,hK⟩ hE
   have hM:=hM.add hK hFr
   refine Zd hE rfl fun a hE=>Zw hE Za ld rfl rfl fun a hE=>Zw hE Za ld rfl rfl fun a hE=>Zb hE rfl fun a hE=>Zb hE rfl fun a hE=>Ze (wp_seq (Zc (Zd hE rfl fun a hE=>Zk hE rfl rfl rfl fun a hE=>Ze ?_)))
   refine Zm hE rfl ?_ ?_
   ·intro hb14
    have hF:=Zp hF hb14
    refine Zc (XS (parts:=[]) (vs:=[]) (cs:=cat [[vB 0],[(Value.slice none 0 0)]]) hE Za ld rfl rfl ZU HO Vq fun a hE=>Zd hE rfl ?_); intro a hE
    have hM:=hM.pull1
    refine Y3 (seg:=cat [[vB 0],[(Value.slice none 0 0)]]) (cs':=cat [[vB 0],[(Value.slice none 0 0)]]) hE hM Za rfl rfl rfl ZU cq (Nat.le_of_eq ((Nat.zero_add _).trans (Eq.trans cq (Eq.symm cq)))) (Wk (cc1 (Flat.cell (0 : UInt8)) (cc1 Qc cc0))) (ZX (Eq.trans cq (Eq.symm cq))) fun w a hM hE=>Zb hE rfl fun a hE=>Ze ?_
    have hM:=M.nilS (α:=UInt8) NoB noB hM
    obtain rfl:=Option.some.inj hF
    have hq16 : VS Try.prog _ _ (.cell 8 38) _:=U8 hE rfl ZU rfl hM.rawAt1 cq rfl
    have hM:=M.fst (l:=[_]) hM
    exact wp_ret (Zr (Yr hE rfl hq16 (Zq hE rfl) ⟨_,rfl,(Value.slice none 0 0),rfl,hM.outF (YG YP),hM.kept⟩))
   ·intro hb14
    have hF:=Zo hF hb14
    refine wp_skip (Zx (Zc (Zd hE rfl fun a hE=>Zd hE rfl fun a hE=>XS (parts:=[(0,.tmp 36),(1,.tmp 37)]) (vs:=[(0,vB p3),(1,u13)]) (cs:=cat [[vB p3],[u13]]) hE Za ld rfl rfl ZU HO (X9 (pre:=[]) (seg:=[vB 0]) (seg':=[vB p3]) (post:=[[(Value.slice none 0 0)]]) rfl cl0 rfl rfl rfl (X9 (pre:=[[vB p3]]) (seg:=[(Value.slice none 0 0)]) (seg':=[u13]) (post:=[]) rfl ck rfl rfl (WD (hM.sl (pre:=[]) noB)) Vq)) ?_))); intro a hE
    have hM:=hM.pull1
    refine Y3 (seg:=cat [[vB p3],[u13]]) (cs':=cat [[vB p3],[u13]]) hE hM Za rfl rfl rfl ZU cq (Nat.le_of_eq ((Nat.zero_add _).trans (Eq.trans cq (Eq.symm cq)))) (Wk (cc1 (Flat.cell (p3 : UInt8)) (cc1 (Rep.cell (hM.sl (pre:=[_]) noB)) cc0))) (ZX (Eq.trans cq (Eq.symm cq))) fun w a hM hE=>Zb hE rfl fun a hE=>Ze ?_
    obtain rfl:=Option.some.inj hF
    have hq17 : VS Try.prog _ _ (.cell 8 38) _:=U8 hE rfl ZU rfl hM.rawAt0 cq rfl
    have hM:=M.fst (l:=[_]) hM.pull1
    exact wp_ret (Yr hE rfl hq17 (Zq hE rfl) ⟨_,rfl,u13,rfl,hM.outF (YG YP),hM.kept⟩)
def Vp (p0 : Int) (p1 : (List GShare)) (p2 : Int) (p3 : UInt8) : Option (GShare × Int) :=
 (XO p0 p1 p2).bind fun r3=>((if (r3 == 0) = true then (some (p3 == 0)) else (some false) : Option (Bool)).bind fun j8=>if j8 = true then (some 2) else (some r3) : Option (Int)).bind fun j5=>(if (j5 == 0) = true then ((X4 p0 p1 p2).bind fun r21=>some r21) else (some j5) : Option (Int)).bind fun j17=>if (j17 != 0) = true then (some ((⟨0,[]⟩ : GShare),j17)) else ((slc p1 (0 : Int) p2).bind fun l28=>(WQ p0 l28 p3).bind fun r31=>some ((⟨p3,r31⟩ : GShare),0))
theorem JT (w0 : World) (p0 : Int) (p1 : (List GShare)) (v1_1 : Value) (hv1_1 : Ro w0 p1 [v1_1]) (p2 : Int) (p3 : UInt8) (r : GShare × Int) (hF : Vp p0 p1 p2 p3 = some r) :
  Calls Try.prog 26 [vI p0,v1_1,vI p2,vB p3].toArray w0 (fun en w'=>∃ v,en = .returned v ∧ (∃ (y1 : Value),v = (Value.tuple [(Value.agg (cat [[vB r.1.Place],[y1]]).toArray),vI r.2].toArray) ∧ Fr w0 w' [osl NoB (r.1.Data : List UInt8) y1] ∧ Kept (Old w0) w0 w')):=by
 refine ce Try.func26 ?_
 intro a hE
 have hM:=M.start w0
 unfold Vp at hF
 refine Zc (Ug hE hM ZU fun b1 w a hM hE=>Zb hE rfl fun a hE=>Ze (Zc (Zd hE rfl fun a hE=>Zd hE rfl fun a hE=>Zd hE rfl ?_))); intro a hE
 obtain ⟨r3,e4,hF⟩:=bind_some hF
 refine Zl hE rfl cb75 (UK _ p0 p1 v1_1 (hM.rdo hv1_1) p2 r3 e4) ?_
 rintro v w a ⟨rfl,hK⟩ hE
 have hM:=hM.keep hK
 refine Zb hE rfl fun a hE=>Ze ?_
 obtain ⟨j5,hl6,hF7⟩:=bind_some hF
 refine ZB (fun a w=>Env 39 a [(0,vI p0),(1,v1_1),(2,vI p2),(3,vB p3),(8,(ptr b1 0)),(10,vI j5)] ∧ M (Old w0) w0 w [raw b1 (cat [[vB 0],[(Value.slice none 0 0)]])]) ?_ ?_
 ·skip
  obtain ⟨j8,hl9,hF10⟩:=bind_some hl6
  refine ZB (fun a w=>Env 39 a [(0,vI p0),(1,v1_1),(2,vI p2),(3,vB p3),(8,(ptr b1 0)),(10,vI r3),(20,vT j8)] ∧ M (Old w0) w0 w [raw b1 (cat [[vB 0],[(Value.slice none 0 0)]])]) ?_ ?_
  ·skip
   refine wp_region_lit (Zd hE rfl fun a hE=>Zk hE rfl rfl rfl fun a hE=>Zd hE rfl ?_); intro a hE
   refine ZZ (r3 == 0) (fun hb11=>?_) (fun hb11=>?_)
   ·have hl9:=Zp hl9 hb11
    refine Zh hE (Zf hE rfl (lkb rfl hb11)) (by decide) rfl fun a hE=>Z2 hE (Zf hE rfl (lkb rfl hb11)) (by decide) rfl rfl (JP p3 0) fun a hE=>ZC hE (lkb rfl hb11) rfl fun a hE=>Zi ?_
    obtain rfl:=Option.some.inj hl9
    refine Zj ?_
    exact ⟨hE.sub ⟨rfl,rfl,rfl,rfl,rfl,rfl,rfl,trivial⟩,hM⟩
   ·have hl9:=Zo hl9 hb11
    refine Zg hE rfl (lkb rfl hb11) rfl (by decide) fun a hE=>Zg hE rfl (lkb rfl hb11) rfl (by decide) fun a hE=>ZL hE (lkb rfl hb11) rfl fun a hE=>Zi ?_
    obtain rfl:=Option.some.inj hl9
    refine Zj ?_
    exact ⟨hE.sub ⟨rfl,rfl,rfl,rfl,rfl,rfl,rfl,trivial⟩,hM⟩
  ·skip
   rintro a w ⟨hE,hM⟩
   refine Zm hE rfl ?_ ?_
   ·intro hb14
    have hF10:=Zp hF10 hb14
    refine wp_region_lit (Zb hE rfl fun a hE=>Zi ?_)
    obtain rfl:=Option.some.inj hF10
    refine Zj ?_
    exact ⟨hE.sub ⟨rfl,rfl,rfl,rfl,rfl,rfl,trivial⟩,hM⟩
   ·intro hb14
    have hF10:=Zo hF10 hb14
    refine wp_skip ?_
    obtain rfl:=Option.some.inj hF10
    refine Zj ?_
    exact ⟨hE.sub ⟨rfl,rfl,rfl,rfl,rfl,rfl,trivial⟩,hM⟩
 ·skip
  rintro a w ⟨hE,hM⟩
  obtain ⟨j17,hl18,hF19⟩:=bind_some hF7
  refine ZB (fun a w=>Env 39 a [(0,vI p0),(1,v1_1),(2,vI p2),(3,vB p3),(8,(ptr b1 0)),(10,vI j17)] ∧ M (Old w0) w0 w [raw b1 (cat [[vB 0],[(Value.slice none 0 0)]])]) ?_ ?_
  ·skip
   refine Zc (Zd hE rfl fun a hE=>Zk hE rfl rfl rfl fun a hE=>Ze ?_)
   refine Zm hE rfl ?_ ?_
   ·intro hb20
    have hl18:=Zp hl18 hb20
    refine wp_region_lit (Zd hE rfl fun a hE=>Zd hE rfl fun a hE=>Zd hE rfl ?_); intro a hE
    obtain ⟨r21,e22,hl18⟩:=bind_some hl18
    refine Zl hE rfl (cbm Try.func76) (TF _ p0 p1 v1_1 (hM.rdo hv1_1) p2 r21 e22) ?_
    rintro v w a ⟨rfl,hK⟩ hE
    have hM:=hM.keep hK
    refine Zb hE rfl fun a hE=>Zi ?_
    obtain rfl:=Option.some.inj hl18
    refine Zj ?_
    exact ⟨hE.sub ⟨rfl,rfl,rfl,rfl,rfl,rfl,trivial⟩,hM⟩
   ·intro hb20
    have hl18:=Zo hl18 hb20
    refine wp_skip ?_
    obtain rfl:=Option.some.inj hl18
    refine Zj ?_
    exact ⟨hE.sub ⟨rfl,rfl,rfl,rfl,rfl,rfl,trivial⟩,hM⟩
  ·skip
   rintro a w ⟨hE,hM⟩
   refine wp_seq (Zc (Zd hE rfl fun a hE=>Zk hE rfl rfl rfl fun a hE=>Ze ?_))
   refine Zm hE rfl ?_ ?_
   ·intro hb25
    have hF19:=Zp hF19 hb25
    refine Zc (XS (parts:=[]) (vs:=[]) (cs:=cat [[vB 0],[(Value.slice none 0 0)]]) hE Za ld rfl rfl ZU HO Vq fun a hE=>Zd hE rfl fun a hE=>Y3 (seg:=cat [[vB 0],[(Value.slice none 0 0)]]) (cs':=cat [[vB 0],[(Value.slice none 0 0)]]) hE hM Za rfl rfl rfl ZU cq (Nat.le_of_eq ((Nat.zero_add _).trans (Eq.trans cq (Eq.symm cq)))) (Wk (cc1 (Flat.cell (0 : UInt8)) (cc1 Qc cc0))) (ZX (Eq.trans cq (Eq.symm cq))) fun w a hM hE=>Zb hE rfl fun a hE=>Ze ?_)
    have hM:=M.nilS (α:=UInt8) NoB noB hM
    obtain rfl:=Option.some.inj hF19
    have hq27 : VS Try.prog _ _ (.cell 8 38) _:=U8 hE rfl ZU rfl hM.rawAt1 cq rfl
    have hM:=M.fst (l:=[_]) hM
    exact wp_ret (Zr (Yr hE rfl hq27 (Zq hE rfl) ⟨_,rfl,(Value.slice none 0 0),rfl,hM.outF (YG YP),hM.kept⟩))
   ·intro hb25
    have hF19:=Zo hF19 hb25
    refine wp_skip (Zx (Zc (Zd hE rfl fun a hE=>Zd hE rfl fun a hE=>Zd hE rfl fun a hE=>Zd hE rfl ?_))); intro a hE
    obtain ⟨l28,e29,hF19⟩:=bind_some hF19
    refine Tw hE Za ld rfl rfl rfl rfl rfl Try.underlying27 ZU (hM.rd hv1_1) e29 ?_; intro a hE
    have h30 : Rep.sat (Old w0) w0 l28 [(XL v1_1 ((0 : Int)).toNat (p2).toNat 2)] []:=U3 hv1_1 e29 -- ^
    refine Zd hE rfl ?_; intro a hE
    obtain ⟨r31,e32,hF19⟩:=bind_some hF19
    refine Zl hE rfl cb77 (To _ p0 l28 (XL v1_1 ((0 : Int)).toNat (p2).toNat 2) (hM.rdo h30) p3 r31 e32) ?_
    rintro u33 w a ⟨_,rfl,hFr,hK⟩ hE
    have hM:=hM.add hK hFr
    refine XS (parts:=[(0,.tmp 31),(1,.tmp 37)]) (vs:=[(0,vB p3),(1,u33)]) (cs:=cat [[vB p3],[u33]]) hE Za ld rfl rfl ZU HO (X9 (pre:=[]) (seg:=[vB 0]) (seg':=[vB p3]) (post:=[[(Value.slice none 0 0)]]) rfl cl0 rfl rfl rfl (X9 (pre:=[[vB p3]]) (seg:=[(Value.slice none 0 0)]) (seg':=[u33]) (post:=[]) rfl ck rfl rfl (WD (hM.sl (pre:=[]) noB)) Vq)) ?_; intro a hE
    have hM:=hM.pull1
    refine Y3 (seg:=cat [[vB p3],[u33]]) (cs':=cat [[vB p3],[u33]]) hE hM Za rfl rfl rfl ZU cq (Nat.le_of_eq ((Nat.zero_add _).trans (Eq.trans cq (Eq.symm cq)))) (Wk (cc1 (Flat.cell (p3 : UInt8)) (cc1 (Rep.cell (hM.sl (pre:=[_]) noB)) cc0))) (ZX (Eq.trans cq (Eq.symm cq))) fun w a hM hE=>Zb hE rfl fun a hE=>Ze ?_
    obtain rfl:=Option.some.inj hF19
    have hq34 : VS Try.prog _ _ (.cell 8 38) _:=U8 hE rfl ZU rfl hM.rawAt0 cq rfl
    have hM:=M.fst (l:=[_]) hM.pull1
    exact wp_ret (Yr hE rfl hq34 (Zq hE rfl) ⟨_,rfl,u33,rfl,hM.outF (YG YP),hM.kept⟩)
def WA (p0 : (List UInt8)) (r113 : Int × (List GShare) × Int) (s161 : Int × Int × (List (List UInt8)) × Int) : Option (Fl (Int × Int × (List (List UInt8)) × Int) (List (List UInt8))) :=
 if (decide (s161.2.2.2 < r113.2.2)) = true then ((idx r113.2.1 (0 : Int)).bind fun x168=>(VX p0 (s161.1,s161.2.1) (x168.Data.length : Int)).bind fun r174=>(app 24 s161.2.2.1 ([r174.2] : List (List UInt8))).bind fun l180=>some (Fl.nx (r174.1.1,r174.1.2,(s161.2.2.1 ++ ([r174.2] : List (List UInt8))),wr (s161.2.2.2 + 1)))) else (some (Fl.ex s161.2.2.1))
def XK (r207 : (List UInt8) × Int) (s224 : Int) : Option (Fl Int (Fl Unit Bool)) :=
 if (decide (s224 < (r207.1.length : Int))) = true then ((idx r207.1 s224).bind fun x229=>if (x229 != 0) = true then (some (Fl.ex (Fl.ex false))) else (some (Fl.nx (wr (s224 + 1))))) else (some (Fl.ex (Fl.nx ())))
def VO (p0 : (List UInt8)) : Option (Bool) :=
 (Qz p0).bind fun r1=>if r1 = true then (some true) else ((Xw p0).bind fun r4=>(W5 r4.1 r4.2.1 r4.2.2.1 r4.2.2.2).bind fun r9=>(W7 r4.1 r4.2.1 r4.2.2.1 r4.2.2.2).bind fun r12=>(if (r9.2 != r12.2) = true then (some true) else ((Vs r9.1 r12.1).bind fun r20=>some (!r20)) : Option (Bool)).bind fun j15=>if j15 = true then (some false) else ((if (r9.2 == 0) = true then ((Yn r4.1 r9.1 (wr ((r4.2.2.1.length : Int) + 1))).bind fun r29=>(if (decide ((r4.2.2.2.length : Int) < (wr ((r4.2.2.1.length : Int) + 1)))) = true then (if (r29.2 != 4) = true then (some (Fl.ex false)) else (some (Fl.nx ()))) else ((if (r29.2 != 0) = true then (some true) else ((Xj r29.1 r4.2.1).bind fun r46=>if (!r46) = true then (some true) else ((XI r9.1).bind fun r50=>some (!r50))) : Option (Bool)).bind fun j41=>if j41 = true then (some (Fl.ex false)) else (some (Fl.nx ()))) : Option (Fl Unit Bool)).bind fun j32=>j32.el (fun s35=>(if (decide ((r4.2.1.length : Int) > 0)) = true then (some (decide ((r4.2.2.1.length : Int) > 0))) else (some false) : Option (Bool)).bind fun j57=>if j57 = true then (((idx r4.2.2.1 (0 : Int)).bind fun x67=>(idx r4.2.1 (0 : Int)).bind fun x74=>(idx r4.2.2.1 (0 : Int)).bind fun x77=>(idx x67 (0 : Int)).bind fun x80=>(idx r4.2.2.2 (0 : Int)).bind fun x85=>(Vm r4.1 ([x74,x80] : List UInt8) x85).bind fun r88=>some (r88.1,r88.2) : Option (UInt8 × Int)).bind fun j64=>(if (j64.2 != 0) = true then (some true) else (if ((r4.2.2.1.length : Int) == 1) = true then ((idx r9.1 (0 : Int)).bind fun x97=>(idx x97.Data (0 : Int)).bind fun x103=>some (j64.1 != x103)) else (some false)) : Option (Bool)).bind fun j91=>if j91 = true then (some (Fl.ex false)) else (some (Fl.nx ()))) else (some (Fl.nx ()))) (fun r=>some (Fl.ex r))) else (some (Fl.nx ())) : Option (Fl Unit Bool)).bind fun j24=>j24.el (fun s27=>(YV p0).bind fun r113=>(Yn r113.1 r113.2.1 r113.2.2).bind fun r116=>(XT r113.1 r113.2.1 r113.2.2).bind fun r119=>(WE r113.1 r113.2.1 r113.2.2).bind fun r122=>(Wu r113.1 r113.2.1 r113.2.2).bind fun r124=>(if (r116.2 != r119.2) = true then (some true) else ((Xj r116.1 r119.1).bind fun r131=>if (!r131) = true then (some true) else (if (r122.2 != r124.2) = true then (some true) else (if (r122.1 != r124.1) = true then (some true) else ((XI r113.2.1).bind fun r139=>(WI r113.2.1).bind fun r141=>some (r139 != r141))))) : Option (Bool)).bind fun j126=>if j126 = true then (some false) else ((if (r116.2 == 0) = true then ((Uj p0 905).bind fun r150=>(ZJ (WA p0 r113) (r150.1,r150.2,([] : List (List UInt8)),1)).bind fun j156=>(Xm r113.1 r113.2.1 j156).bind fun r186=>(Yn r113.1 r186.1 r113.2.2).bind fun r189=>(if (r186.2 != 0) = true then (some true) else (if (r189.2 != 0) = true then (some true) else ((Xj r189.1 r116.1).bind fun r199=>some (!r199))) : Option (Bool)).bind fun j192=>if j192 = true then (some (Fl.ex false)) else ((Wy r113.1 r113.2.1 r186.1).bind fun r204=>(Yn r113.1 r204.1 r113.2.2).bind fun r207=>(if (r204.2 != 0) = true then (some true) else (if (r207.2 != 0) = true then (some true) else (some ((r207.1.length : Int) != (r116.1.length : Int)))) : Option (Bool)).bind fun j210=>if j210 = true then (some (Fl.ex false)) else ((ZJ (XK r207) 0).bind fun j220=>j220.el (fun s223=>some (Fl.nx ())) (fun r=>some (Fl.ex r))))) else (some (Fl.nx ())) : Option (Fl Unit Bool)).bind fun j145=>j145.el (fun s148=>(XV p0).bind fun r238=>(Vw r238.1 r238.2.1 r238.2.2.1 r238.2.2.2).bind fun r241=>(Vp r238.1 r238.2.1 r238.2.2.1 r238.2.2.2).bind fun r246=>(if (r241.2 == r246.2) = true then (if (r241.1.Place == r246.1.Place) = true then ((Xj r241.1.Data r246.1.Data).bind fun r256=>some r256) else (some false)) else (some false) : Option (Bool)).bind fun j251=>some j251) (fun r=>some r))) (fun r=>some r)))
theorem K4 (w0 : World) (p0 : (List UInt8)) (v0_1 : Value) (hv0_1 : Ro w0 p0 [v0_1]) (r : Bool) (hF : VO p0 = some r) :
  Calls Try.prog 3 [v0_1].toArray w0 (Rt w0 (vT r)):=by
 refine ce Try.func3 ?_
 intro a hE
 have hM:=M.start w0
 unfold VO at hF
 refine Zc (Zb hE rfl fun a hE=>Ze (wp_seq (Zc (Zd hE rfl ?_)))); intro a hE
 obtain ⟨r1,e2,hF⟩:=bind_some hF
 refine Zl hE rfl (cbm Try.func6) (BI _ p0 v0_1 (hM.rdo hv0_1) r1 e2) ?_
 rintro v w a ⟨rfl,hK⟩ hE
 have hM:=hM.keep hK
 refine Ze ?_
 refine Zm hE rfl ?_ ?_
 ·intro hb3
  have hF:=Zp hF hb3
  refine Zc (Zb hE rfl fun a hE=>Ze ?_)
  obtain rfl:=Option.some.inj hF
  exact wp_ret (Zr (kr1 hE rfl rfl hM.kept))
 ·intro hb3
  have hF:=Zo hF hb3
  refine wp_skip (Zx (Zc (Zd hE rfl ?_))); intro a hE
  obtain ⟨r4,e5,hF⟩:=bind_some hF
  refine Zl hE rfl (cbm Try.func7) (Qd _ p0 v0_1 (hM.rdo hv0_1) r4 e5) ?_
  rintro v w a ⟨u6,u7,u8,rfl,hFr,hK⟩ hE
  have hM:=hM.add hK hFr
  refine Zd hE rfl fun a hE=>Zw hE Za ld rfl rfl fun a hE=>Zw hE Za ld rfl rfl fun a hE=>Zw hE Za ld rfl rfl fun a hE=>Zw hE Za ld rfl rfl fun a hE=>Zb hE rfl fun a hE=>Zb hE rfl fun a hE=>Zb hE rfl fun a hE=>Zb hE rfl fun a hE=>Ze (Zc (Zd hE rfl fun a hE=>Zd hE rfl fun a hE=>Zd hE rfl ?_)); intro a hE
  refine Zd hE rfl ?_; intro a hE
  obtain ⟨r9,e10,hF⟩:=bind_some hF
  refine Zl hE rfl (cbm Try.func8) (KU _ r4.1 r4.2.1 u6 (hM.sl (pre:=[]) noB) r4.2.2.1 u7 (hM.sl (pre:=[_]) noB) r4.2.2.2 u8 (hM.sl (pre:=[_,_]) noB) r9 e10) ?_
  rintro v w a ⟨u11,rfl,hFr,hK⟩ hE
  have hM:=hM.add hK hFr
  refine Zd hE rfl fun a hE=>Zw hE Za ld rfl rfl fun a hE=>Zw hE Za ld rfl rfl fun a hE=>Zb hE rfl fun a hE=>Zb hE rfl fun a hE=>Ze (Zc (Zd hE rfl fun a hE=>Zd hE rfl fun a hE=>Zd hE rfl fun a hE=>Zd hE rfl ?_)); intro a hE
  obtain ⟨r12,e13,hF⟩:=bind_some hF
  refine Zl hE rfl (cbm Try.func9) (K2 _ r4.1 r4.2.1 u6 (hM.sl (pre:=[_]) noB) r4.2.2.1 u7 (hM.sl (pre:=[_,_]) noB) r4.2.2.2 u8 (hM.sl (pre:=[_,_,_]) noB) r12 e13) ?_
  rintro v w a ⟨u14,rfl,hFr,hK⟩ hE
  have hM:=hM.add hK hFr
  refine Zd hE rfl fun a hE=>Zw hE Za ld rfl rfl fun a hE=>Zw hE Za ld rfl rfl fun a hE=>Zb hE rfl fun a hE=>Zb hE rfl fun a hE=>Ze (wp_seq ?_)
  obtain ⟨j15,hl16,hF17⟩:=bind_some hF
  refine ZB (fun a w=>Env 338 a [(0,v0_1),(3,vI r4.1),(4,u6),(5,u7),(6,u8),(7,u11),(8,vI r9.2),(80,vT j15)] ∧ M (Old w0) w0 w [osl NoB (r9.1 : List GShare) u11,osl NoB (r4.2.1 : List UInt8) u6,osl NoB (r4.2.2.1 : List (List UInt8)) u7,osl NoB (r4.2.2.2 : List UInt8) u8]) ?_ ?_
  ·skip
   refine wp_region_lit (Zd hE rfl fun a hE=>Zd hE rfl fun a hE=>Zk hE rfl rfl rfl fun a hE=>Zd hE rfl ?_); intro a hE
   refine ZZ (r9.2 != r12.2) (fun hb18=>?_) (fun hb18=>?_)
   ·have hl16:=Zp hl16 hb18
    refine Zg hE rfl (lkb rfl hb18) rfl (by decide) fun a hE=>Zg hE rfl (lkb rfl hb18) rfl (by decide) fun a hE=>Zg hE rfl (lkb rfl hb18) rfl (by decide) fun a hE=>Zg hE rfl (lkb rfl hb18) rfl (by decide) fun a hE=>ZC hE (lkb rfl hb18) rfl fun a hE=>Zi ?_
    obtain rfl:=Option.some.inj hl16
    refine Zj ?_
    have hM:=M.fst (l:=[_,_,_,_]) hM.pull4.pull4.pull4.pull4
    exact ⟨hE.sub ⟨rfl,rfl,rfl,rfl,rfl,rfl,rfl,rfl,trivial⟩,hM⟩
   ·have hl16:=Zo hl16 hb18
    refine Zh hE (Zf hE rfl (lkb rfl hb18)) (by decide) rfl fun a hE=>Zh hE (Zf hE rfl (lkb rfl hb18)) (by decide) rfl ?_; intro a hE
    obtain ⟨r20,e21,hl16⟩:=bind_some hl16
    refine Z1 hE (Zf hE rfl (lkb rfl hb18)) (by decide) rfl (cbm Try.func10) (Js _ r9.1 u11 (hM.sl (pre:=[_]) noB) r12.1 u14 (hM.sl (pre:=[]) noB) r20 e21) ?_
    rintro v w a ⟨rfl,hK⟩ hE
    have hM:=hM.keep hK
    refine V7 hE (Zf hE rfl (lkb rfl hb18)) (by decide) rfl fun a hE=>ZL hE (lkb rfl hb18) rfl fun a hE=>Zi ?_
    obtain rfl:=Option.some.inj hl16
    refine Zj ?_
    have hM:=M.fst (l:=[_,_,_,_]) hM.pull4.pull4.pull4.pull4
    exact ⟨hE.sub ⟨rfl,rfl,rfl,rfl,rfl,rfl,rfl,rfl,trivial⟩,hM⟩
  ·skip
   rintro a w ⟨hE,hM⟩
   refine Zm hE rfl ?_ ?_
   ·intro hb23
    have hF17:=Zp hF17 hb23
    refine Zc (Zb hE rfl fun a hE=>Ze ?_)
    obtain rfl:=Option.some.inj hF17
    exact wp_ret (Zr (kr1 hE rfl rfl hM.kept))
   ·intro hb23
    have hF17:=Zo hF17 hb23
    refine wp_skip (Zx ?_)
    obtain ⟨j24,hl25,hF26⟩:=bind_some hF17
    refine ZB (fun a w=>∃ s27 : Unit,j24 = Fl.nx s27 ∧ Env 338 a [(0,v0_1)] ∧ M (Old w0) w0 w []) ?_ ?_
    ·skip
     refine Zc (Zd hE rfl fun a hE=>Zk hE rfl rfl rfl fun a hE=>Ze ?_)
     refine Zm hE rfl ?_ ?_
     ·intro hb28
      have hl25:=Zp hl25 hb28
      refine Zc (Zd hE rfl fun a hE=>ZQ hE rfl Try.underlying24 (hM.sl (pre:=[_,_]) noB) fun a hE=>Zk hE rfl rfl rfl fun a hE=>Zb hE rfl fun a hE=>Ze (Zc (Zd hE rfl fun a hE=>Zd hE rfl fun a hE=>Zd hE rfl ?_))); intro a hE
      obtain ⟨r29,e30,hl25⟩:=bind_some hl25
      refine Zl hE rfl cb11 (WS _ r4.1 r9.1 u11 (hM.sl (pre:=[]) noB) (wr ((r4.2.2.1.length : Int) + 1)) r29 e30) ?_
      rintro v w a ⟨u31,rfl,hFr,hK⟩ hE
      have hM:=hM.add hK hFr
      refine Zd hE rfl fun a hE=>Zw hE Za ld rfl rfl fun a hE=>Zw hE Za ld rfl rfl fun a hE=>Zb hE rfl fun a hE=>Zb hE rfl fun a hE=>Ze ?_
      obtain ⟨j32,hl33,hF34⟩:=bind_some hl25
      refine ZB (fun a w=>∃ s35 : Unit,j32 = Fl.nx s35 ∧ Env 338 a [(0,v0_1),(3,vI r4.1),(4,u6),(5,u7),(6,u8),(7,u11)] ∧ M (Old w0) w0 w [osl NoB (r9.1 : List GShare) u11,osl NoB (r4.2.1 : List UInt8) u6,osl NoB (r4.2.2.1 : List (List UInt8)) u7,osl NoB (r4.2.2.2 : List UInt8) u8]) ?_ ?_
      ·skip
       refine Zc (Zd hE rfl fun a hE=>ZQ hE rfl Try.underlying22 (hM.sl (pre:=[_,_,_,_]) noB) fun a hE=>Zd hE rfl fun a hE=>Zk hE rfl rfl rfl fun a hE=>Ze ?_)
       refine Zm hE rfl ?_ ?_
       ·intro hb36
        have hl33:=Zp hl33 hb36
        refine Zc (Zd hE rfl fun a hE=>Zk hE rfl rfl rfl fun a hE=>Ze ?_)
        refine Zm hE rfl ?_ ?_
        ·intro hb37
         have hl33:=Zp hl33 hb37
         refine Zc (Zb hE rfl fun a hE=>Ze ?_)
         obtain rfl:=Option.some.inj hl33
         obtain rfl:=Option.some.inj hF34
         obtain rfl:=Option.some.inj hF26
         exact wp_ret (Zr (Zr (kr1 hE rfl rfl hM.kept)))
        ·intro hb37
         have hl33:=Zo hl33 hb37
         refine wp_skip ?_
         obtain rfl:=Option.some.inj hl33
         refine Zj ?_
         have hM:=M.fst (l:=[_,_,_,_]) hM.pull4.pull4.pull4.pull4
         exact ⟨(),rfl,hE.sub ⟨rfl,rfl,rfl,rfl,rfl,rfl,trivial⟩,hM⟩
       ·intro hb36
        have hl33:=Zo hl33 hb36
        obtain ⟨j41,hl42,hF43⟩:=bind_some hl33
        refine ZB (fun a w=>Env 338 a [(0,v0_1),(3,vI r4.1),(4,u6),(5,u7),(6,u8),(7,u11),(111,vT j41)] ∧ M (Old w0) w0 w [osl NoB (r9.1 : List GShare) u11,osl NoB (r4.2.1 : List UInt8) u6,osl NoB (r4.2.2.1 : List (List UInt8)) u7,osl NoB (r4.2.2.2 : List UInt8) u8]) ?_ ?_
        ·skip
         refine wp_region_lit (Zd hE rfl fun a hE=>Zk hE rfl rfl rfl fun a hE=>Zd hE rfl ?_); intro a hE
         refine ZZ (r29.2 != 0) (fun hb44=>?_) (fun hb44=>?_)
         ·have hl42:=Zp hl42 hb44
          refine Zg hE rfl (lkb rfl hb44) rfl (by decide) fun a hE=>Zg hE rfl (lkb rfl hb44) rfl (by decide) fun a hE=>Zg hE rfl (lkb rfl hb44) rfl (by decide) fun a hE=>Zg hE rfl (lkb rfl hb44) rfl (by decide) fun a hE=>ZC hE (lkb rfl hb44) rfl fun a hE=>Zd hE rfl fun a hE=>Zg hE rfl rfl rfl (by decide) fun a hE=>Zg hE rfl rfl rfl (by decide) fun a hE=>Zg hE rfl rfl rfl (by decide) fun a hE=>ZC hE rfl rfl fun a hE=>Zi ?_
          obtain rfl:=Option.some.inj hl42
          refine Zj ?_
          have hM:=M.fst (l:=[_,_,_,_]) hM.pull4.pull4.pull4.pull4
          exact ⟨hE.sub ⟨rfl,rfl,rfl,rfl,rfl,rfl,rfl,trivial⟩,hM⟩
         ·have hl42:=Zo hl42 hb44
          refine Zh hE (Zf hE rfl (lkb rfl hb44)) (by decide) rfl fun a hE=>Zh hE (Zf hE rfl (lkb rfl hb44)) (by decide) rfl ?_; intro a hE
          obtain ⟨r46,e47,hl42⟩:=bind_some hl42
          refine Z1 hE (Zf hE rfl (lkb rfl hb44)) (by decide) rfl cb12 (VJ _ r29.1 u31 (hM.sl (pre:=[]) noB) r4.2.1 u6 (hM.sl (pre:=[_,_]) noB) r46 e47) ?_
          rintro v w a ⟨rfl,hK⟩ hE
          have hM:=hM.keep hK
          refine V7 hE (Zf hE rfl (lkb rfl hb44)) (by decide) rfl fun a hE=>ZL hE (lkb rfl hb44) rfl fun a hE=>Zd hE rfl ?_; intro a hE
          refine ZZ (!r46) (fun hb48=>?_) (fun hb48=>?_)
          ·have hl42:=Zp hl42 hb48
           refine Zg hE rfl (lkb rfl hb48) rfl (by decide) fun a hE=>Zg hE rfl (lkb rfl hb48) rfl (by decide) fun a hE=>Zg hE rfl (lkb rfl hb48) rfl (by decide) fun a hE=>ZC hE (lkb rfl hb48) rfl fun a hE=>Zi ?_
           obtain rfl:=Option.some.inj hl42
           refine Zj ?_
           have hM:=M.fst (l:=[_,_,_,_]) hM.pull4.pull4.pull4.pull4
           exact ⟨hE.sub ⟨rfl,rfl,rfl,rfl,rfl,rfl,rfl,trivial⟩,hM⟩
          ·have hl42:=Zo hl42 hb48
           refine Zh hE (Zf hE rfl (lkb rfl hb48)) (by decide) rfl ?_; intro a hE
           obtain ⟨r50,e51,hl42⟩:=bind_some hl42
           refine Z1 hE (Zf hE rfl (lkb rfl hb48)) (by decide) rfl (cbm Try.func13) (Ta _ r9.1 u11 (hM.sl (pre:=[_]) noB) r50 e51) ?_
           rintro v w a ⟨rfl,hK⟩ hE
           have hM:=hM.keep hK
           refine V7 hE (Zf hE rfl (lkb rfl hb48)) (by decide) rfl fun a hE=>ZL hE (lkb rfl hb48) rfl fun a hE=>Zi ?_
           obtain rfl:=Option.some.inj hl42
           refine Zj ?_
           have hM:=M.fst (l:=[_,_,_,_]) hM.pull4.pull4.pull4.pull4
           exact ⟨hE.sub ⟨rfl,rfl,rfl,rfl,rfl,rfl,rfl,trivial⟩,hM⟩
        ·skip
         rintro a w ⟨hE,hM⟩
         refine Zm hE rfl ?_ ?_
         ·intro hb53
          have hF43:=Zp hF43 hb53
          refine Zc (Zb hE rfl fun a hE=>Ze ?_)
          obtain rfl:=Option.some.inj hF43
          obtain rfl:=Option.some.inj hF34
          obtain rfl:=Option.some.inj hF26
          exact wp_ret (Zr (Zr (kr1 hE rfl rfl hM.kept)))
         ·intro hb53
          have hF43:=Zo hF43 hb53
          refine wp_skip ?_
          obtain rfl:=Option.some.inj hF43
          refine Zj ?_
          exact ⟨(),rfl,hE.sub ⟨rfl,rfl,rfl,rfl,rfl,rfl,trivial⟩,hM⟩
      ·skip
       rintro a w ⟨s35,ht,hE,hM⟩
       subst ht
       have hF34:=VV hF34
       obtain ⟨j57,hl58,hF59⟩:=bind_some hF34
       refine ZB (fun a w=>Env 338 a [(0,v0_1),(3,vI r4.1),(4,u6),(5,u7),(6,u8),(7,u11),(119,vT j57)] ∧ M (Old w0) w0 w [osl NoB (r9.1 : List GShare) u11,osl NoB (r4.2.1 : List UInt8) u6,osl NoB (r4.2.2.1 : List (List UInt8)) u7,osl NoB (r4.2.2.2 : List UInt8) u8]) ?_ ?_
       ·skip
        refine wp_region_lit (Zd hE rfl fun a hE=>ZQ hE rfl Try.underlying22 (hM.sl (pre:=[_]) noB) fun a hE=>Zk hE rfl rfl rfl fun a hE=>Zd hE rfl ?_); intro a hE
        refine ZZ (decide ((r4.2.1.length : Int) > 0)) (fun hb60=>?_) (fun hb60=>?_)
        ·have hl58:=Zp hl58 hb60
         refine Zh hE (Zf hE rfl (lkb rfl hb60)) (by decide) rfl fun a hE=>VU hE (Zf hE rfl (lkb rfl hb60)) (by decide) rfl Try.underlying24 (hM.sl (pre:=[_,_]) noB) fun a hE=>Z2 hE (Zf hE rfl (lkb rfl hb60)) (by decide) rfl rfl rfl fun a hE=>ZC hE (lkb rfl hb60) rfl fun a hE=>Zi ?_
         obtain rfl:=Option.some.inj hl58
         refine Zj ?_
         exact ⟨hE.sub ⟨rfl,rfl,rfl,rfl,rfl,rfl,rfl,trivial⟩,hM⟩
        ·have hl58:=Zo hl58 hb60
         refine Zg hE rfl (lkb rfl hb60) rfl (by decide) fun a hE=>Zg hE rfl (lkb rfl hb60) rfl (by decide) fun a hE=>Zg hE rfl (lkb rfl hb60) rfl (by decide) fun a hE=>ZL hE (lkb rfl hb60) rfl fun a hE=>Zi ?_
         obtain rfl:=Option.some.inj hl58
         refine Zj ?_
         exact ⟨hE.sub ⟨rfl,rfl,rfl,rfl,rfl,rfl,rfl,trivial⟩,hM⟩
       ·skip
        rintro a w ⟨hE,hM⟩
        refine Zm hE rfl ?_ ?_
        ·intro hb63
         have hF59:=Zp hF59 hb63
         obtain ⟨j64,hl65,hF66⟩:=bind_some hF59
         refine ZB (fun a w=>Env 338 a [(0,v0_1),(5,u7),(7,u11),(14,vB j64.1),(15,vI j64.2)] ∧ M (Old w0) w0 w [osl NoB (r9.1 : List GShare) u11,osl NoB (r4.2.2.1 : List (List UInt8)) u7]) ?_ ?_
         ·skip
          obtain ⟨x67,hi69,hl65⟩:=bix hl65
          have hM:=hM.pull2
          obtain ⟨cs70,hM,_⟩:=hM.open1 noB hi69.2
          obtain ⟨_,hx,_⟩:=hM.head
          obtain ⟨u71,rfl⟩:=Uo hx
          obtain ⟨x74,hi76,hl65⟩:=bix hl65
          obtain ⟨x77,hi79,hl65⟩:=bix hl65
          obtain ⟨x80,hi82,hl65⟩:=bix hl65
          obtain ⟨x85,hi87,hl65⟩:=bix hl65
          obtain ⟨r88,e89,hl65⟩:=bind_some hl65
          refine VL (its:=[own NoB (x67 : (List UInt8)) [u71],Kp NoB (r4.2.2.1 : List (List UInt8)) ((0 : Int)).toNat u7 ([u71]),osl NoB (r9.1 : List GShare) u11,osl NoB (r4.2.1 : List UInt8) u6,osl NoB (r4.2.2.2 : List UInt8) u8]) (mk:=([mkO 9 (fun v=>osl NoB (([x74,x80] : List UInt8) : List UInt8) v)] : Mk)) [121,122,123,124,125,126,127,128,129,130,131,132,133,134,120,135,136,14] VC rfl rfl (by decide) rfl hE (fun u=>M.qE (M.q0 hM.drew u) emO) (qsP (fun z=>Zh z.E Za ld rfl (kr0 rfl)) (qsP (fun z=>Zh z.E Za ld rfl (kr0 rfl)) (qsP (v:=(ptr (sb u6) (so u6 + ((0 : Int)).toNat * 1))) ?_ (qsP (v:=(vB x74)) ?_ (qsP (fun z=>Zh z.E Za ld rfl (kr0 rfl)) (qsP (v:=(ptr (sb u7) (so u7 + ((0 : Int)).toNat * 1))) ?_ (qsP (v:=u71) ?_ (qsP (v:=(ptr (sb u71) (so u71 + ((0 : Int)).toNat * 1))) ?_ (qsP (v:=(vB x80)) ?_ (qsM (pr:=fun v=>True) ?_ (qsP (fun z=>Zh z.E Za ld rfl (kr0 rfl)) (qsP (v:=(ptr (sb u8) (so u8 + ((0 : Int)).toNat * 1))) ?_ (qsP (v:=(vB x85)) ?_ (qsP (v:=(Value.tuple [vB r88.1,vI r88.2].toArray)) ?_ (qsP (fun z=>Zh z.E Za ld rfl (kr0 rfl)) (qsP (fun z=>Zw z.E Za ld rfl rfl (kr0 rfl)) (qsP (fun z=>Zw z.E Za ld rfl rfl (kr0 rfl)) (qsP (fun z=>QI z.E Za ld rfl (kr0 rfl)) qs0)))))))))))))))))) ?_
          ·intro a w ux73 D z
           have hE:=z.E
           have hM:=z.M
           exact ZD hE rfl rfl Try.underlying22 ty5 (hM.sl (pre:=[_,_,_]) noB) hi76.1 fun a hE=>⟨Kept.refl _ _,_,rfl,hE⟩
          ·intro a w ux73 D z
           have hE:=z.E
           have hM:=z.M
           exact ZM (v:=(vB x74)) hE rfl ty5 rfl (Z4 (hM.sl (pre:=[_,_,_]) noB) hi76.2) fun a hE=>⟨Kept.refl _ _,_,rfl,hE⟩
          ·intro a w ux73 D z
           have hE:=z.E
           have hM:=z.M
           exact QQ (pre:=[_]) hE hM Za ld rfl rfl Try.underlying24 YS hi79.1 fun a hE=>⟨Kept.refl _ _,_,rfl,hE⟩
          ·intro a w ux73 D z
           have hE:=z.E
           have hM:=z.M
           exact ZM (v:=u71) hE rfl YS rfl (hM.holeAt (pre:=[_])) fun a hE=>⟨Kept.refl _ _,_,rfl,hE⟩
          ·intro a w ux73 D z
           have hE:=z.E
           have hM:=z.M
           exact ZD hE rfl rfl Try.underlying22 ty5 (hM.ro (pre:=[]) noB) hi82.1 fun a hE=>⟨Kept.refl _ _,_,rfl,hE⟩
          ·intro a w ux73 D z
           have hE:=z.E
           have hM:=z.M
           exact ZM (v:=(vB x80)) hE rfl ty5 rfl (Z4 (hM.ro (pre:=[]) noB) hi82.2) fun a hE=>⟨Kept.refl _ _,_,rfl,hE⟩
          ·intro a w ux73 D z
           have hE:=z.E
           have hD : D 9 = false:=z.F
           have hM:=z.M
           exact ZE (xs:=[.tmp 124,.tmp 129]) (l:=([x74,x80] : List UInt8)) (vs:=[vB x74,vB x80]) hE hM Za ld rfl rfl Try.underlying22 ty5 rfl (by decide) rfl fun u83 w a hM hE=>⟨_,_,rfl,hE,M.qFill (mk1:=[]) (mk2:=[]) (f:=(fun v=>osl NoB (([x74,x80] : List UInt8) : List UInt8) v)) hM rfl hD,trivial⟩
          ·intro a w ux73 D z
           have hE:=z.E
           have hM:=z.M
           exact ZD hE rfl rfl Try.underlying22 ty5 (hM.sl (pre:=[_,_,_,_]) noB) hi87.1 fun a hE=>⟨Kept.refl _ _,_,rfl,hE⟩
          ·intro a w ux73 D z
           have hE:=z.E
           have hM:=z.M
           exact ZM (v:=(vB x85)) hE rfl ty5 rfl (Z4 (hM.sl (pre:=[_,_,_,_]) noB) hi87.2) fun a hE=>⟨Kept.refl _ _,_,rfl,hE⟩
          ·intro a w ux73 D z
           have hE:=z.E
           have d9 : D 9 = true:=z.p 1 _ rfl rfl
           have hM:=z.M.sure (pre:=[_,_,_,_,_]) d9
           refine Zl hE rfl (cbm Try.func14) (Jl _ r4.1 ([x74,x80] : List UInt8) (ux73 9) (hM.sl (pre:=[_,_,_,_,_]) noB) x85 r88 e89) ?_
           rintro v w a ⟨rfl,hK⟩ hE
           exact ⟨hK,_,rfl,hE⟩
          ·intro a w ux73 D hE hM hG hall
           have d9:=hall 9 (by decide)
           have hM:=hM.sure (pre:=[_,_,_,_,_]) d9
           refine Zb hE rfl fun a hE=>Zi ?_
           have hM:=hM.close0 noB hi69.2
           obtain rfl:=Option.some.inj hl65
           refine Zj ?_
           have hM:=M.fst (l:=[_,_]) hM.pull1
           exact ⟨hE.sub ⟨rfl,rfl,rfl,rfl,rfl,trivial⟩,hM⟩
         ·skip
          rintro a w ⟨hE,hM⟩
          obtain ⟨j91,hl92,hF93⟩:=bind_some hF66
          refine ZB (fun a w=>Env 338 a [(0,v0_1),(153,vT j91)] ∧ M (Old w0) w0 w []) ?_ ?_
          ·skip
           refine wp_region_lit (Zd hE rfl fun a hE=>Zk hE rfl rfl rfl fun a hE=>Zd hE rfl ?_); intro a hE
           refine ZZ (j64.2 != 0) (fun hb94=>?_) (fun hb94=>?_)
           ·have hl92:=Zp hl92 hb94
            refine Zg hE rfl (lkb rfl hb94) rfl (by decide) fun a hE=>Zg hE rfl (lkb rfl hb94) rfl (by decide) fun a hE=>Zg hE rfl (lkb rfl hb94) rfl (by decide) fun a hE=>Zg hE rfl (lkb rfl hb94) rfl (by decide) fun a hE=>UQ hE rfl rfl (by decide) fun a hE=>UQ hE rfl rfl (by decide) fun a hE=>UQ hE rfl rfl (by decide) fun a hE=>UQ hE rfl rfl (by decide) fun a hE=>UQ hE rfl rfl (by decide) fun a hE=>UQ hE rfl rfl (by decide) fun a hE=>UQ hE rfl rfl (by decide) fun a hE=>UQ hE rfl rfl (by decide) ?_; intro a hE
            refine Zg hE rfl (lkb rfl hb94) rfl (by decide) fun a hE=>ZC hE (lkb rfl hb94) rfl fun a hE=>Zi ?_
            obtain rfl:=Option.some.inj hl92
            refine Zj ?_
            have hM:=M.fst (l:=[]) hM
            exact ⟨hE.sub ⟨rfl,rfl,trivial⟩,hM⟩
           ·have hl92:=Zo hl92 hb94
            refine Zh hE (Zf hE rfl (lkb rfl hb94)) (by decide) rfl fun a hE=>VU hE (Zf hE rfl (lkb rfl hb94)) (by decide) rfl Try.underlying24 (hM.sl (pre:=[_]) noB) fun a hE=>Z2 hE (Zf hE rfl (lkb rfl hb94)) (by decide) rfl rfl rfl fun a hE=>Zh hE (Zf hE rfl (lkb rfl hb94)) (by decide) rfl ?_; intro a hE
            refine ZZ ((r4.2.2.1.length : Int) == 1) (fun hb96=>?_) (fun hb96=>?_)
            ·have hl92:=Zp hl92 hb96
             refine Zh hE (Zf hE rfl (lkb rfl hb96)) (by decide) rfl fun a hE=>Zh hE (Zf hE rfl (lkb rfl hb96)) (by decide) rfl ?_; intro a hE
             obtain ⟨x97,hi99,hl92⟩:=bix hl92
             refine ZG hE (Zf hE rfl (lkb rfl hb96)) (by decide) rfl rfl Try.underlying27 ZU (hM.sl (pre:=[]) noB) hi99.1 fun a hE=>Zv hE (Zf hE rfl (lkb rfl hb96)) (by decide) rfl (YL) ?_; intro a hE
             obtain ⟨cs100,hM,_⟩:=hM.open1 noB hi99.2
             obtain ⟨_,hx,_⟩:=hM.head
             obtain ⟨u101,_,rfl,_,_⟩:=Ua hx
             have hM:=Te hM
             refine ZK (v:=u101) hE (Zf hE rfl (lkb rfl hb96)) (by decide) rfl YS rfl (At.cat (pre:=[[vB x97.Place]]) (hM.holeAt (pre:=[_])) ck) ?_; intro a hE
             obtain ⟨x103,hi105,hl92⟩:=bix hl92
             refine ZG hE (Zf hE rfl (lkb rfl hb96)) (by decide) rfl rfl Try.underlying22 ty5 (hM.ro (pre:=[]) noB) hi105.1 fun a hE=>ZK (v:=(vB x103)) hE (Zf hE rfl (lkb rfl hb96)) (by decide) rfl ty5 rfl (Z4 (hM.ro (pre:=[]) noB) hi105.2) fun a hE=>Z2 hE (Zf hE rfl (lkb rfl hb96)) (by decide) rfl rfl (Tk j64.1 x103) fun a hE=>Qb hE (Zf hE rfl (lkb rfl hb94)) (by decide) (lkb rfl hb96) rfl fun a hE=>ZL hE (lkb rfl hb94) rfl fun a hE=>Zi ?_
             have hM:=(Uz (x:=x97) hM siw).close0 noB hi99.2
             obtain rfl:=Option.some.inj hl92
             refine Zj ?_
             have hM:=M.fst (l:=[]) hM
             exact ⟨hE.sub ⟨rfl,rfl,trivial⟩,hM⟩
            ·have hl92:=Zo hl92 hb96
             refine Zg hE rfl (lkb rfl hb96) rfl (by decide) fun a hE=>Zg hE rfl (lkb rfl hb96) rfl (by decide) fun a hE=>Zg hE rfl (lkb rfl hb96) rfl (by decide) fun a hE=>Zg hE rfl (lkb rfl hb96) rfl (by decide) fun a hE=>Zg hE rfl (lkb rfl hb96) rfl (by decide) fun a hE=>Zg hE rfl (lkb rfl hb96) rfl (by decide) fun a hE=>Zg hE rfl (lkb rfl hb96) rfl (by decide) fun a hE=>Zg hE rfl (lkb rfl hb96) rfl (by decide) fun a hE=>UR hE (Zf hE rfl (lkb rfl hb94)) (by decide) (lkb rfl hb96) rfl fun a hE=>ZL hE (lkb rfl hb94) rfl fun a hE=>Zi ?_
             obtain rfl:=Option.some.inj hl92
             refine Zj ?_
             have hM:=M.fst (l:=[]) hM
             exact ⟨hE.sub ⟨rfl,rfl,trivial⟩,hM⟩
          ·skip
           rintro a w ⟨hE,hM⟩
           refine Zm hE rfl ?_ ?_
           ·intro hb108
            have hF93:=Zp hF93 hb108
            refine Zc (Zb hE rfl fun a hE=>Ze ?_)
            obtain rfl:=Option.some.inj hF93
            obtain rfl:=Option.some.inj hF26
            exact wp_ret (Zr (kr1 hE rfl rfl hM.kept))
           ·intro hb108
            have hF93:=Zo hF93 hb108
            refine wp_skip ?_
            obtain rfl:=Option.some.inj hF93
            refine Zj ?_
            exact ⟨(),rfl,hE.sub ⟨rfl,trivial⟩,hM⟩
        ·intro hb63
         have hF59:=Zo hF59 hb63
         refine wp_skip ?_
         obtain rfl:=Option.some.inj hF59
         refine Zj ?_
         have hM:=M.fst (l:=[]) hM
         exact ⟨(),rfl,hE.sub ⟨rfl,trivial⟩,hM⟩
     ·intro hb28
      have hl25:=Zo hl25 hb28
      refine wp_skip ?_
      obtain rfl:=Option.some.inj hl25
      refine Zj ?_
      have hM:=M.fst (l:=[]) hM
      exact ⟨(),rfl,hE.sub ⟨rfl,trivial⟩,hM⟩
    ·skip
     rintro a w ⟨s27,ht,hE,hM⟩
     subst ht
     have hF26:=VV hF26
     refine Zc (Zd hE rfl ?_); intro a hE
     obtain ⟨r113,e114,hF26⟩:=bind_some hF26
     refine Zl hE rfl (cbm Try.func15) (Tr _ p0 v0_1 (hM.rdo hv0_1) r113 e114) ?_
     rintro v w a ⟨u115,rfl,hFr,hK⟩ hE
     have hM:=hM.add hK hFr
     refine Zd hE rfl fun a hE=>Zw hE Za ld rfl rfl fun a hE=>Zw hE Za ld rfl rfl fun a hE=>Zw hE Za ld rfl rfl fun a hE=>Zb hE rfl fun a hE=>Zb hE rfl fun a hE=>Zb hE rfl fun a hE=>Ze (Zc (Zd hE rfl fun a hE=>Zd hE rfl fun a hE=>Zd hE rfl ?_)); intro a hE
     obtain ⟨r116,e117,hF26⟩:=bind_some hF26
     refine Zl hE rfl cb11 (WS _ r113.1 r113.2.1 u115 (hM.sl (pre:=[]) noB) r113.2.2 r116 e117) ?_
     rintro v w a ⟨u118,rfl,hFr,hK⟩ hE
     have hM:=hM.add hK hFr
     refine Zd hE rfl fun a hE=>Zw hE Za ld rfl rfl fun a hE=>Zw hE Za ld rfl rfl fun a hE=>Zb hE rfl fun a hE=>Zb hE rfl fun a hE=>Ze (Zc (Zd hE rfl fun a hE=>Zd hE rfl fun a hE=>Zd hE rfl ?_)); intro a hE
     obtain ⟨r119,e120,hF26⟩:=bind_some hF26
     refine Zl hE rfl (cbm Try.func16) (Qs _ r113.1 r113.2.1 u115 (hM.sl (pre:=[_]) noB) r113.2.2 r119 e120) ?_
     rintro v w a ⟨u121,rfl,hFr,hK⟩ hE
     have hM:=hM.add hK hFr
     refine Zd hE rfl fun a hE=>Zw hE Za ld rfl rfl fun a hE=>Zw hE Za ld rfl rfl fun a hE=>Zb hE rfl fun a hE=>Zb hE rfl fun a hE=>Ze (Zc (Zd hE rfl fun a hE=>Zd hE rfl fun a hE=>Zd hE rfl ?_)); intro a hE
     obtain ⟨r122,e123,hF26⟩:=bind_some hF26
     refine Zl hE rfl (cbm Try.func17) (Kc _ r113.1 r113.2.1 u115 (hM.sl (pre:=[_,_]) noB) r113.2.2 r122 e123) ?_
     rintro v w a ⟨rfl,hK⟩ hE
     have hM:=hM.keep hK
     refine Zd hE rfl fun a hE=>Zw hE Za ld rfl rfl fun a hE=>Zw hE Za ld rfl rfl fun a hE=>Zb hE rfl fun a hE=>Zb hE rfl fun a hE=>Ze (Zc (Zd hE rfl fun a hE=>Zd hE rfl fun a hE=>Zd hE rfl ?_)); intro a hE
     obtain ⟨r124,e125,hF26⟩:=bind_some hF26
     refine Zl hE rfl (cbm Try.func18) (Ks _ r113.1 r113.2.1 u115 (hM.sl (pre:=[_,_]) noB) r113.2.2 r124 e125) ?_
     rintro v w a ⟨rfl,hK⟩ hE
     have hM:=hM.keep hK
     refine Zd hE rfl fun a hE=>Zw hE Za ld rfl rfl fun a hE=>Zw hE Za ld rfl rfl fun a hE=>Zb hE rfl fun a hE=>Zb hE rfl fun a hE=>Ze (wp_seq ?_)
     obtain ⟨j126,hl127,hF128⟩:=bind_some hF26
     refine ZB (fun a w=>Env 338 a [(0,v0_1),(16,vI r113.1),(17,u115),(18,vI r113.2.2),(19,u118),(20,vI r116.2),(213,vT j126)] ∧ M (Old w0) w0 w [osl NoB (r116.1 : List UInt8) u118,osl NoB (r113.2.1 : List GShare) u115]) ?_ ?_
     ·skip
      refine wp_region_lit (Zd hE rfl fun a hE=>Zd hE rfl fun a hE=>Zk hE rfl rfl rfl fun a hE=>Zd hE rfl ?_); intro a hE
      refine ZZ (r116.2 != r119.2) (fun hb129=>?_) (fun hb129=>?_)
      ·have hl127:=Zp hl127 hb129
       refine Zg hE rfl (lkb rfl hb129) rfl (by decide) fun a hE=>Zg hE rfl (lkb rfl hb129) rfl (by decide) fun a hE=>Zg hE rfl (lkb rfl hb129) rfl (by decide) fun a hE=>Zg hE rfl (lkb rfl hb129) rfl (by decide) fun a hE=>ZC hE (lkb rfl hb129) rfl fun a hE=>Zd hE rfl fun a hE=>Zg hE rfl rfl rfl (by decide) fun a hE=>Zg hE rfl rfl rfl (by decide) fun a hE=>Zg hE rfl rfl rfl (by decide) fun a hE=>ZC hE rfl rfl fun a hE=>Zd hE rfl fun a hE=>Zg hE rfl rfl rfl (by decide) ?_; intro a hE
       refine Zg hE rfl rfl rfl (by decide) fun a hE=>Zg hE rfl rfl rfl (by decide) fun a hE=>ZC hE rfl rfl fun a hE=>Zd hE rfl fun a hE=>Zg hE rfl rfl rfl (by decide) fun a hE=>Zg hE rfl rfl rfl (by decide) fun a hE=>Zg hE rfl rfl rfl (by decide) fun a hE=>Zg hE rfl rfl rfl (by decide) fun a hE=>Zg hE rfl rfl rfl (by decide) fun a hE=>ZC hE rfl rfl fun a hE=>Zi ?_
       obtain rfl:=Option.some.inj hl127
       refine Zj ?_
       have hM:=M.fst (l:=[_,_]) hM.pull2.pull2
       exact ⟨hE.sub ⟨rfl,rfl,rfl,rfl,rfl,rfl,rfl,trivial⟩,hM⟩
      ·have hl127:=Zo hl127 hb129
       refine Zh hE (Zf hE rfl (lkb rfl hb129)) (by decide) rfl fun a hE=>Zh hE (Zf hE rfl (lkb rfl hb129)) (by decide) rfl ?_; intro a hE
       obtain ⟨r131,e132,hl127⟩:=bind_some hl127
       refine Z1 hE (Zf hE rfl (lkb rfl hb129)) (by decide) rfl cb12 (VJ _ r116.1 u118 (hM.sl (pre:=[_]) noB) r119.1 u121 (hM.sl (pre:=[]) noB) r131 e132) ?_
       rintro v w a ⟨rfl,hK⟩ hE
       have hM:=hM.keep hK
       refine V7 hE (Zf hE rfl (lkb rfl hb129)) (by decide) rfl fun a hE=>ZL hE (lkb rfl hb129) rfl fun a hE=>Zd hE rfl ?_; intro a hE
       refine ZZ (!r131) (fun hb133=>?_) (fun hb133=>?_)
       ·have hl127:=Zp hl127 hb133
        refine Zg hE rfl (lkb rfl hb133) rfl (by decide) fun a hE=>Zg hE rfl (lkb rfl hb133) rfl (by decide) fun a hE=>Zg hE rfl (lkb rfl hb133) rfl (by decide) fun a hE=>ZC hE (lkb rfl hb133) rfl fun a hE=>Zd hE rfl fun a hE=>Zg hE rfl rfl rfl (by decide) fun a hE=>Zg hE rfl rfl rfl (by decide) fun a hE=>Zg hE rfl rfl rfl (by decide) fun a hE=>ZC hE rfl rfl fun a hE=>Zd hE rfl fun a hE=>Zg hE rfl rfl rfl (by decide) fun a hE=>Zg hE rfl rfl rfl (by decide) ?_; intro a hE
        refine Zg hE rfl rfl rfl (by decide) fun a hE=>Zg hE rfl rfl rfl (by decide) fun a hE=>Zg hE rfl rfl rfl (by decide) fun a hE=>ZC hE rfl rfl fun a hE=>Zi ?_
        obtain rfl:=Option.some.inj hl127
        refine Zj ?_
        have hM:=M.fst (l:=[_,_]) hM.pull2.pull2
        exact ⟨hE.sub ⟨rfl,rfl,rfl,rfl,rfl,rfl,rfl,trivial⟩,hM⟩
       ·have hl127:=Zo hl127 hb133
        refine Zh hE (Zf hE rfl (lkb rfl hb133)) (by decide) rfl fun a hE=>Zh hE (Zf hE rfl (lkb rfl hb133)) (by decide) rfl fun a hE=>Z2 hE (Zf hE rfl (lkb rfl hb133)) (by decide) rfl rfl rfl fun a hE=>ZL hE (lkb rfl hb133) rfl fun a hE=>Zd hE rfl ?_; intro a hE
        refine ZZ (r122.2 != r124.2) (fun hb135=>?_) (fun hb135=>?_)
        ·have hl127:=Zp hl127 hb135
         refine Zg hE rfl (lkb rfl hb135) rfl (by decide) fun a hE=>Zg hE rfl (lkb rfl hb135) rfl (by decide) fun a hE=>Zg hE rfl (lkb rfl hb135) rfl (by decide) fun a hE=>ZC hE (lkb rfl hb135) rfl fun a hE=>Zd hE rfl fun a hE=>Zg hE rfl rfl rfl (by decide) fun a hE=>Zg hE rfl rfl rfl (by decide) fun a hE=>Zg hE rfl rfl rfl (by decide) fun a hE=>Zg hE rfl rfl rfl (by decide) fun a hE=>Zg hE rfl rfl rfl (by decide) fun a hE=>ZC hE rfl rfl fun a hE=>Zi ?_
         obtain rfl:=Option.some.inj hl127
         refine Zj ?_
         have hM:=M.fst (l:=[_,_]) hM.pull2.pull2
         exact ⟨hE.sub ⟨rfl,rfl,rfl,rfl,rfl,rfl,rfl,trivial⟩,hM⟩
        ·have hl127:=Zo hl127 hb135
         refine Zh hE (Zf hE rfl (lkb rfl hb135)) (by decide) rfl fun a hE=>Zh hE (Zf hE rfl (lkb rfl hb135)) (by decide) rfl fun a hE=>s_neT hE (Zf hE rfl (lkb rfl hb135)) (by decide) rfl rfl Try.underlying4 fun a hE=>ZL hE (lkb rfl hb135) rfl fun a hE=>Zd hE rfl ?_; intro a hE
         refine ZZ (r122.1 != r124.1) (fun hb137=>?_) (fun hb137=>?_)
         ·have hl127:=Zp hl127 hb137
          refine Zg hE rfl (lkb rfl hb137) rfl (by decide) fun a hE=>Zg hE rfl (lkb rfl hb137) rfl (by decide) fun a hE=>Zg hE rfl (lkb rfl hb137) rfl (by decide) fun a hE=>Zg hE rfl (lkb rfl hb137) rfl (by decide) fun a hE=>Zg hE rfl (lkb rfl hb137) rfl (by decide) fun a hE=>ZC hE (lkb rfl hb137) rfl fun a hE=>Zi ?_
          obtain rfl:=Option.some.inj hl127
          refine Zj ?_
          have hM:=M.fst (l:=[_,_]) hM.pull2.pull2
          exact ⟨hE.sub ⟨rfl,rfl,rfl,rfl,rfl,rfl,rfl,trivial⟩,hM⟩
         ·have hl127:=Zo hl127 hb137
          refine Zh hE (Zf hE rfl (lkb rfl hb137)) (by decide) rfl ?_; intro a hE
          obtain ⟨r139,e140,hl127⟩:=bind_some hl127
          refine Z1 hE (Zf hE rfl (lkb rfl hb137)) (by decide) rfl (cbm Try.func13) (Ta _ r113.2.1 u115 (hM.sl (pre:=[_,_]) noB) r139 e140) ?_
          rintro v w a ⟨rfl,hK⟩ hE
          have hM:=hM.keep hK
          refine Zh hE (Zf hE rfl (lkb rfl hb137)) (by decide) rfl ?_; intro a hE
          obtain ⟨r141,e142,hl127⟩:=bind_some hl127
          refine Z1 hE (Zf hE rfl (lkb rfl hb137)) (by decide) rfl (cbm Try.func19) (Kh _ r113.2.1 u115 (hM.sl (pre:=[_,_]) noB) r141 e142) ?_
          rintro v w a ⟨rfl,hK⟩ hE
          have hM:=hM.keep hK
          refine s_neT hE (Zf hE rfl (lkb rfl hb137)) (by decide) rfl rfl Try.underlying4 fun a hE=>ZL hE (lkb rfl hb137) rfl fun a hE=>Zi ?_
          obtain rfl:=Option.some.inj hl127
          refine Zj ?_
          have hM:=M.fst (l:=[_,_]) hM.pull2.pull2
          exact ⟨hE.sub ⟨rfl,rfl,rfl,rfl,rfl,rfl,rfl,trivial⟩,hM⟩
     ·skip
      rintro a w ⟨hE,hM⟩
      refine Zm hE rfl ?_ ?_
      ·intro hb144
       have hF128:=Zp hF128 hb144
       refine Zc (Zb hE rfl fun a hE=>Ze ?_)
       obtain rfl:=Option.some.inj hF128
       exact wp_ret (Zr (kr1 hE rfl rfl hM.kept))
      ·intro hb144
       have hF128:=Zo hF128 hb144
       refine wp_skip (Zx ?_)
       obtain ⟨j145,hl146,hF147⟩:=bind_some hF128
       refine ZB (fun a w=>∃ s148 : Unit,j145 = Fl.nx s148 ∧ Env 338 a [(0,v0_1)] ∧ M (Old w0) w0 w []) ?_ ?_
       ·skip
        refine Zc (Zd hE rfl fun a hE=>Zk hE rfl rfl rfl fun a hE=>Ze ?_)
        refine Zm hE rfl ?_ ?_
        ·intro hb149
         have hl146:=Zp hl146 hb149
         refine Zc (Zd hE rfl ?_); intro a hE
         have hM:=M.tailP (m:=[]) hM
         obtain ⟨r150,e151,hl146⟩:=bind_some hl146
         refine Zl hE rfl (cbm Try.func20) (Bq _ _ _ _ p0 v0_1 hv0_1 905 hM r150 e151) ?_
         rintro v w a ⟨b152,rfl,hM⟩ hE
         have hM:=M.tailU (m:=[_]) hM
         simp only [List.cons_append,List.nil_append] at hM
         refine Zb hE rfl fun a hE=>Ze (Zc (US (xs:=[]) (S:=NoB) (l:=([] : List (List UInt8))) (vs:=[]) hE hM.emp noB Za ld rfl rfl rfl Try.underlying24 YS rfl (by decide) (fun _ h=>⟨rfl,h⟩) (fun _ h=>by cases h) fun u154 w a hM hE=>Zb hE rfl fun a hE=>Ze (wp_seq (Zc (Zb hE rfl fun a hE=>Ze ?_)))))
         obtain ⟨j156,hl157,hF158⟩:=bind_some hl146
         refine Z6 (fun a w=>∃ (u159 : Value),Env 338 a [(0,v0_1),(16,vI r113.1),(17,u115),(18,vI r113.2.2),(19,u118),(28,u159)] ∧ M (Old w0) w0 w [osl NoB (r116.1 : List UInt8) u118,osl NoB (r113.2.1 : List GShare) u115,osl NoB (j156 : List (List UInt8)) u159]) ?_ ?_
         ·skip
          refine wp_block ?_
          have hM:=hM.pull3.pull3.pull3
          refine ZO (fun (s161 : Int × Int × (List (List UInt8)) × Int) a w=>∃ (u162 : Value),Env 338 a [(0,v0_1),(16,vI r113.1),(17,u115),(18,vI r113.2.2),(19,u118),(27,(ptr b152 0)),(28,u162),(29,vI s161.2.2.2)] ∧ M (Old w0) w0 w [raw b152 (cat [[v0_1],[vI s161.1],[(Value.int .u64 s161.2.1)]]),osl NoB (r116.1 : List UInt8) u118,osl NoB (r113.2.1 : List GShare) u115,osl NoB (s161.2.2.1 : List (List UInt8)) u162]) hl157 ⟨u154,hE.sub ⟨rfl,rfl,rfl,rfl,rfl,rfl,rfl,rfl,trivial⟩,hM⟩ ?_
          rintro s161 a w ⟨u162,hE,hM⟩ o166 hs164 hx165
          unfold WA at hs164
          refine wp_seq (Zc (Zd hE rfl fun a hE=>Zd hE rfl fun a hE=>Zk hE rfl rfl rfl fun a hE=>Ze ?_))
          refine Zm hE rfl ?_ ?_
          ·intro hb167
           have hs164:=Zp hs164 hb167
           refine wp_skip (Zx (wp_seq (wp_block (wp_region_lit (Zd hE rfl fun a hE=>Zd hE rfl fun a hE=>Zd hE rfl ?_))))); intro a hE
           obtain ⟨x168,hi170,hs164⟩:=bix hs164
           refine ZD hE rfl rfl Try.underlying27 ZU (hM.sl (pre:=[_,_]) noB) hi170.1 fun a hE=>ZA hE rfl (YL) ?_; intro a hE
           have hM:=hM.pull2
           obtain ⟨cs171,hM,_⟩:=hM.open1 noB hi170.2
           obtain ⟨_,hx,_⟩:=hM.head
           obtain ⟨u172,_,rfl,_,_⟩:=Ua hx
           have hM:=Te hM
           refine ZM (v:=u172) hE rfl YS rfl (At.cat (pre:=[[vB x168.Place]]) (hM.holeAt (pre:=[_])) ck) fun a hE=>ZQ hE rfl Try.underlying22 (hM.ro (pre:=[]) noB) ?_; intro a hE
           have hM:=M.tailP (m:=[_]) hM.pull2
           obtain ⟨r174,e175,hs164⟩:=bind_some hs164
           refine Zl hE rfl (cbm Try.func21) (Hx _ _ _ _ b152 p0 v0_1 hv0_1 (s161.1,s161.2.1) (x168.Data.length : Int) hM r174 e175) ?_
           rintro u176 w a ⟨_,rfl,hM⟩ hE
           have hM:=M.tailU (m:=[_,_]) hM
           simp only [List.cons_append,List.nil_append] at hM
           have hc179:=WD (hM.sl (pre:=[_]) noB)
           have hM:=hM.pull1
           have hM:=hM.pack1 (it:=own NoB r174.2 ([u176])) (Vh noB) (fun f0 q0=>(X2.sat q0))
           refine U5 (xs:=[.tmp 231]) (seg:=[u176]) hE hM noB Za ld rfl hc179 Try.underlying24 YS rfl (by decide) ?_; intro u177 w a hM hE
           obtain ⟨l180,e181,hs164⟩:=bind_some hs164
           obtain ⟨e184,rfl⟩:=Yi e181
           have hM:=hM.pull5
           refine UA hE hM noB Za ld rfl rfl Try.underlying24 YS rfl (by decide) e184 fun u182 w a hM hE=>Zb hE rfl fun a hE=>Zi (YK (Zx (wp_region_lit (Zd hE rfl fun a hE=>Zk hE rfl rfl rfl fun a hE=>Zb hE rfl fun a hE=>Zi ?_))))
           have hM:=(Uz (x:=x168) hM.pull4.pull2.pull2.pull4.pull4 siw).close0 noB hi170.2
           refine Zj ?_
           have hM:=hM.pull1.pull1.pull3.pull3
           exact ⟨_,(ois hs164),u182,hE.sub ⟨rfl,rfl,rfl,rfl,rfl,rfl,rfl,rfl,trivial⟩,hM⟩
          ·intro hb167
           have hs164:=Zo hs164 hb167
           refine wp_exit (Zs (Zs (Y6 ?_)))
           obtain rfl:=hx165 _ (ois hs164)
           refine Zj ?_
           have hM:=M.fst (l:=[_,_,_]) hM.pull3.pull3.pull3
           exact ⟨u162,hE.sub ⟨rfl,rfl,rfl,rfl,rfl,rfl,trivial⟩,hM⟩
         ·skip
          rintro a w ⟨u159,hE,hM⟩
          refine Zx (Zc (Zd hE rfl fun a hE=>Zd hE rfl fun a hE=>Zd hE rfl ?_)); intro a hE
          obtain ⟨r186,e187,hF158⟩:=bind_some hF158
          refine Zl hE rfl (cbm Try.func22) (TS _ r113.1 r113.2.1 u115 (hM.sl (pre:=[_]) noB) j156 u159 (hM.sl (pre:=[_,_]) noB) r186 e187) ?_
          rintro v w a ⟨u188,rfl,hFr,hK⟩ hE
          have hM:=hM.add hK hFr
          refine Zd hE rfl fun a hE=>Zw hE Za ld rfl rfl fun a hE=>Zw hE Za ld rfl rfl fun a hE=>Zb hE rfl fun a hE=>Zb hE rfl fun a hE=>Ze (Zc (Zd hE rfl fun a hE=>Zd hE rfl fun a hE=>Zd hE rfl ?_)); intro a hE
          obtain ⟨r189,e190,hF158⟩:=bind_some hF158
          refine Zl hE rfl cb11 (WS _ r113.1 r186.1 u188 (hM.sl (pre:=[]) noB) r113.2.2 r189 e190) ?_
          rintro v w a ⟨u191,rfl,hFr,hK⟩ hE
          have hM:=hM.add hK hFr
          refine Zd hE rfl fun a hE=>Zw hE Za ld rfl rfl fun a hE=>Zw hE Za ld rfl rfl fun a hE=>Zb hE rfl fun a hE=>Zb hE rfl fun a hE=>Ze (wp_seq ?_)
          obtain ⟨j192,hl193,hF194⟩:=bind_some hF158
          refine ZB (fun a w=>Env 338 a [(0,v0_1),(16,vI r113.1),(17,u115),(18,vI r113.2.2),(19,u118),(30,u188),(259,vT j192)] ∧ M (Old w0) w0 w [osl NoB (r186.1 : List GShare) u188,osl NoB (r116.1 : List UInt8) u118,osl NoB (r113.2.1 : List GShare) u115]) ?_ ?_
          ·skip
           refine wp_region_lit (Zd hE rfl fun a hE=>Zk hE rfl rfl rfl fun a hE=>Zd hE rfl ?_); intro a hE
           refine ZZ (r186.2 != 0) (fun hb195=>?_) (fun hb195=>?_)
           ·have hl193:=Zp hl193 hb195
            refine Zg hE rfl (lkb rfl hb195) rfl (by decide) fun a hE=>Zg hE rfl (lkb rfl hb195) rfl (by decide) fun a hE=>ZC hE (lkb rfl hb195) rfl fun a hE=>Zd hE rfl fun a hE=>Zg hE rfl rfl rfl (by decide) fun a hE=>Zg hE rfl rfl rfl (by decide) fun a hE=>Zg hE rfl rfl rfl (by decide) fun a hE=>Zg hE rfl rfl rfl (by decide) fun a hE=>ZC hE rfl rfl fun a hE=>Zi ?_
            obtain rfl:=Option.some.inj hl193
            refine Zj ?_
            have hM:=M.fst (l:=[_,_,_]) hM.pull3.pull3.pull3
            exact ⟨hE.sub ⟨rfl,rfl,rfl,rfl,rfl,rfl,rfl,trivial⟩,hM⟩
           ·have hl193:=Zo hl193 hb195
            refine Zh hE (Zf hE rfl (lkb rfl hb195)) (by decide) rfl fun a hE=>Z2 hE (Zf hE rfl (lkb rfl hb195)) (by decide) rfl rfl rfl fun a hE=>ZL hE (lkb rfl hb195) rfl fun a hE=>Zd hE rfl ?_; intro a hE
            refine ZZ (r189.2 != 0) (fun hb197=>?_) (fun hb197=>?_)
            ·have hl193:=Zp hl193 hb197
             refine Zg hE rfl (lkb rfl hb197) rfl (by decide) fun a hE=>Zg hE rfl (lkb rfl hb197) rfl (by decide) fun a hE=>Zg hE rfl (lkb rfl hb197) rfl (by decide) fun a hE=>Zg hE rfl (lkb rfl hb197) rfl (by decide) fun a hE=>ZC hE (lkb rfl hb197) rfl fun a hE=>Zi ?_
             obtain rfl:=Option.some.inj hl193
             refine Zj ?_
             have hM:=M.fst (l:=[_,_,_]) hM.pull3.pull3.pull3
             exact ⟨hE.sub ⟨rfl,rfl,rfl,rfl,rfl,rfl,rfl,trivial⟩,hM⟩
            ·have hl193:=Zo hl193 hb197
             refine Zh hE (Zf hE rfl (lkb rfl hb197)) (by decide) rfl fun a hE=>Zh hE (Zf hE rfl (lkb rfl hb197)) (by decide) rfl ?_; intro a hE
             obtain ⟨r199,e200,hl193⟩:=bind_some hl193
             refine Z1 hE (Zf hE rfl (lkb rfl hb197)) (by decide) rfl cb12 (VJ _ r189.1 u191 (hM.sl (pre:=[]) noB) r116.1 u118 (hM.sl (pre:=[_,_]) noB) r199 e200) ?_
             rintro v w a ⟨rfl,hK⟩ hE
             have hM:=hM.keep hK
             refine V7 hE (Zf hE rfl (lkb rfl hb197)) (by decide) rfl fun a hE=>ZL hE (lkb rfl hb197) rfl fun a hE=>Zi ?_
             obtain rfl:=Option.some.inj hl193
             refine Zj ?_
             have hM:=M.fst (l:=[_,_,_]) hM.pull3.pull3.pull3
             exact ⟨hE.sub ⟨rfl,rfl,rfl,rfl,rfl,rfl,rfl,trivial⟩,hM⟩
          ·skip
           rintro a w ⟨hE,hM⟩
           refine Zm hE rfl ?_ ?_
           ·intro hb202
            have hF194:=Zp hF194 hb202
            refine Zc (Zb hE rfl fun a hE=>Ze ?_)
            obtain rfl:=Option.some.inj hF194
            obtain rfl:=Option.some.inj hF147
            exact wp_ret (Zr (Zr (kr1 hE rfl rfl hM.kept)))
           ·intro hb202
            have hF194:=Zo hF194 hb202
            refine wp_skip (Zx (Zc (Zd hE rfl fun a hE=>Zd hE rfl fun a hE=>Zd hE rfl ?_))); intro a hE
            obtain ⟨r204,e205,hF194⟩:=bind_some hF194
            refine Zl hE rfl (cbm Try.func23) (Kg _ r113.1 r113.2.1 u115 (hM.sl (pre:=[_,_]) noB) r186.1 u188 (hM.sl (pre:=[]) noB) r204 e205) ?_
            rintro v w a ⟨u206,rfl,hFr,hK⟩ hE
            have hM:=hM.add hK hFr
            refine Zd hE rfl fun a hE=>Zw hE Za ld rfl rfl fun a hE=>Zw hE Za ld rfl rfl fun a hE=>Zb hE rfl fun a hE=>Zb hE rfl fun a hE=>Ze (Zc (Zd hE rfl fun a hE=>Zd hE rfl fun a hE=>Zd hE rfl ?_)); intro a hE
            obtain ⟨r207,e208,hF194⟩:=bind_some hF194
            refine Zl hE rfl cb11 (WS _ r113.1 r204.1 u206 (hM.sl (pre:=[]) noB) r113.2.2 r207 e208) ?_
            rintro v w a ⟨u209,rfl,hFr,hK⟩ hE
            have hM:=hM.add hK hFr
            refine Zd hE rfl fun a hE=>Zw hE Za ld rfl rfl fun a hE=>Zw hE Za ld rfl rfl fun a hE=>Zb hE rfl fun a hE=>Zb hE rfl fun a hE=>Ze (wp_seq ?_)
            obtain ⟨j210,hl211,hF212⟩:=bind_some hF194
            refine ZB (fun a w=>Env 338 a [(0,v0_1),(36,u209),(286,vT j210)] ∧ M (Old w0) w0 w [osl NoB (r207.1 : List UInt8) u209]) ?_ ?_
            ·skip
             refine wp_region_lit (Zd hE rfl fun a hE=>Zk hE rfl rfl rfl fun a hE=>Zd hE rfl ?_); intro a hE
             refine ZZ (r204.2 != 0) (fun hb213=>?_) (fun hb213=>?_)
             ·have hl211:=Zp hl211 hb213
              refine Zg hE rfl (lkb rfl hb213) rfl (by decide) fun a hE=>Zg hE rfl (lkb rfl hb213) rfl (by decide) fun a hE=>ZC hE (lkb rfl hb213) rfl fun a hE=>Zd hE rfl fun a hE=>Zg hE rfl rfl rfl (by decide) fun a hE=>Zg hE rfl rfl rfl (by decide) fun a hE=>Zg hE rfl rfl rfl (by decide) fun a hE=>Zg hE rfl rfl rfl (by decide) fun a hE=>Zg hE rfl rfl rfl (by decide) fun a hE=>ZC hE rfl rfl fun a hE=>Zi ?_
              obtain rfl:=Option.some.inj hl211
              refine Zj ?_
              have hM:=M.fst (l:=[_]) hM
              exact ⟨hE.sub ⟨rfl,rfl,rfl,trivial⟩,hM⟩
             ·have hl211:=Zo hl211 hb213
              refine Zh hE (Zf hE rfl (lkb rfl hb213)) (by decide) rfl fun a hE=>Z2 hE (Zf hE rfl (lkb rfl hb213)) (by decide) rfl rfl rfl fun a hE=>ZL hE (lkb rfl hb213) rfl fun a hE=>Zd hE rfl ?_; intro a hE
              refine ZZ (r207.2 != 0) (fun hb215=>?_) (fun hb215=>?_)
              ·have hl211:=Zp hl211 hb215
               refine Zg hE rfl (lkb rfl hb215) rfl (by decide) fun a hE=>Zg hE rfl (lkb rfl hb215) rfl (by decide) fun a hE=>Zg hE rfl (lkb rfl hb215) rfl (by decide) fun a hE=>Zg hE rfl (lkb rfl hb215) rfl (by decide) fun a hE=>Zg hE rfl (lkb rfl hb215) rfl (by decide) fun a hE=>ZC hE (lkb rfl hb215) rfl fun a hE=>Zi ?_
               obtain rfl:=Option.some.inj hl211
               refine Zj ?_
               have hM:=M.fst (l:=[_]) hM
               exact ⟨hE.sub ⟨rfl,rfl,rfl,trivial⟩,hM⟩
              ·have hl211:=Zo hl211 hb215
               refine Zh hE (Zf hE rfl (lkb rfl hb215)) (by decide) rfl fun a hE=>VU hE (Zf hE rfl (lkb rfl hb215)) (by decide) rfl Try.underlying22 (hM.sl (pre:=[]) noB) fun a hE=>Zh hE (Zf hE rfl (lkb rfl hb215)) (by decide) rfl fun a hE=>VU hE (Zf hE rfl (lkb rfl hb215)) (by decide) rfl Try.underlying22 (hM.sl (pre:=[_,_,_]) noB) fun a hE=>Z2 hE (Zf hE rfl (lkb rfl hb215)) (by decide) rfl rfl rfl fun a hE=>ZL hE (lkb rfl hb215) rfl fun a hE=>Zi ?_
               obtain rfl:=Option.some.inj hl211
               refine Zj ?_
               have hM:=M.fst (l:=[_]) hM
               exact ⟨hE.sub ⟨rfl,rfl,rfl,trivial⟩,hM⟩
            ·skip
             rintro a w ⟨hE,hM⟩
             refine Zm hE rfl ?_ ?_
             ·intro hb218
              have hF212:=Zp hF212 hb218
              refine Zc (Zb hE rfl fun a hE=>Ze ?_)
              obtain rfl:=Option.some.inj hF212
              obtain rfl:=Option.some.inj hF147
              exact wp_ret (Zr (Zr (kr1 hE rfl rfl hM.kept)))
             ·intro hb218
              have hF212:=Zo hF212 hb218
              refine wp_skip (Zx (Zc (Zb hE rfl fun a hE=>Ze ?_)))
              obtain ⟨j220,hl221,hF222⟩:=bind_some hF212
              refine Z6 (fun a w=>∃ s223 : Unit,j220 = Fl.nx s223 ∧ Env 338 a [(0,v0_1)] ∧ M (Old w0) w0 w []) ?_ ?_
              ·skip
               refine wp_block ?_
               refine ZO (fun (s224 : Int) a w=>Env 338 a [(0,v0_1),(36,u209),(38,vI s224)] ∧ M (Old w0) w0 w [osl NoB (r207.1 : List UInt8) u209]) hl221 ⟨hE.sub ⟨rfl,rfl,rfl,trivial⟩,hM⟩ ?_
               rintro s224 a w ⟨hE,hM⟩ o227 hs225 hx226
               unfold XK at hs225
               refine wp_seq (Zc (Zd hE rfl fun a hE=>Zd hE rfl fun a hE=>ZQ hE rfl Try.underlying22 (hM.sl (pre:=[]) noB) fun a hE=>Zk hE rfl rfl rfl fun a hE=>Ze ?_))
               refine Zm hE rfl ?_ ?_
               ·intro hb228
                have hs225:=Zp hs225 hb228
                refine wp_skip (Zx (wp_seq (wp_block (Zc (Zd hE rfl fun a hE=>Zd hE rfl ?_))))); intro a hE
                obtain ⟨x229,hi231,hs225⟩:=bix hs225
                refine ZD hE rfl rfl Try.underlying22 ty5 (hM.sl (pre:=[]) noB) hi231.1 fun a hE=>ZM (v:=(vB x229)) hE rfl ty5 rfl (Z4 (hM.sl (pre:=[]) noB) hi231.2) fun a hE=>Zk hE rfl rfl (Tk x229 0) fun a hE=>Ze ?_
                refine Zm hE rfl ?_ ?_
                ·intro hb232
                 have hs225:=Zp hs225 hb232
                 refine Zc (Zb hE rfl fun a hE=>Ze ?_)
                 obtain rfl:=hx226 _ (ois hs225)
                 obtain rfl:=Option.some.inj hF222
                 obtain rfl:=Option.some.inj hF147
                 exact wp_ret (Yh (Zr (Zr (Yh (Zr (Zr (kr1 hE rfl rfl hM.kept)))))))
                ·intro hb232
                 have hs225:=Zo hs225 hb232
                 refine wp_skip (YK (Zx (wp_region_lit (Zd hE rfl fun a hE=>Zk hE rfl rfl rfl fun a hE=>Zb hE rfl fun a hE=>Zi (Zj ?_)))))
                 exact ⟨_,(ois hs225),hE.sub ⟨rfl,rfl,rfl,trivial⟩,hM⟩
               ·intro hb228
                have hs225:=Zo hs225 hb228
                refine wp_exit (Zs (Zs (Y6 ?_)))
                obtain rfl:=hx226 _ (ois hs225)
                refine Zj ?_
                have hM:=M.fst (l:=[]) hM
                exact ⟨(),rfl,hE.sub ⟨rfl,trivial⟩,hM⟩
              ·skip
               rintro a w ⟨s223,ht,hE,hM⟩
               subst ht
               have hF222:=VV hF222
               obtain rfl:=Option.some.inj hF222
               refine Zj ?_
               exact ⟨(),rfl,hE.sub ⟨rfl,trivial⟩,hM⟩
        ·intro hb149
         have hl146:=Zo hl146 hb149
         refine wp_skip ?_
         obtain rfl:=Option.some.inj hl146
         refine Zj ?_
         have hM:=M.fst (l:=[]) hM
         exact ⟨(),rfl,hE.sub ⟨rfl,trivial⟩,hM⟩
       ·skip
        rintro a w ⟨s148,ht,hE,hM⟩
        subst ht
        have hF147:=VV hF147
        refine Zc (Zd hE rfl ?_); intro a hE
        obtain ⟨r238,e239,hF147⟩:=bind_some hF147
        refine Zl hE rfl (cbm Try.func24) (Qw _ p0 v0_1 (hM.rdo hv0_1) r238 e239) ?_
        rintro v w a ⟨u240,rfl,hFr,hK⟩ hE
        have hM:=hM.add hK hFr
        refine Zd hE rfl fun a hE=>Zw hE Za ld rfl rfl fun a hE=>Zw hE Za ld rfl rfl fun a hE=>Zw hE Za ld rfl rfl fun a hE=>Zw hE Za ld rfl rfl fun a hE=>Zb hE rfl fun a hE=>Zb hE rfl fun a hE=>Zb hE rfl fun a hE=>Zb hE rfl fun a hE=>Ze (Zc (Zd hE rfl fun a hE=>Zd hE rfl fun a hE=>Zd hE rfl ?_)); intro a hE
        refine Zd hE rfl ?_; intro a hE
        obtain ⟨r241,e242,hF147⟩:=bind_some hF147
        refine Zl hE rfl (cbm Try.func25) (Jq _ r238.1 r238.2.1 u240 (hM.sl (pre:=[]) noB) r238.2.2.1 r238.2.2.2 r241 e242) ?_
        rintro v w a ⟨u243,rfl,hFr,hK⟩ hE
        have hM:=hM.add hK hFr
        refine Zd hE rfl fun a hE=>Zw hE Za ld rfl rfl fun a hE=>Zw hE Za ld rfl rfl fun a hE=>Ug hE hM ZU fun b244 w a hM hE=>Y3 (seg:=cat [[vB r241.1.Place],[u243]]) (cs':=cat [[vB r241.1.Place],[u243]]) hE hM Za rfl rfl rfl ZU cq (Nat.le_of_eq ((Nat.zero_add _).trans (Eq.trans cq (Eq.symm cq)))) (Wk (cc1 (Flat.cell (r241.1.Place : UInt8)) (cc1 (Rep.cell (hM.sl (pre:=[_]) noB)) cc0))) (ZX (Eq.trans cq (Eq.symm cq))) fun w a hM hE=>Zb hE rfl fun a hE=>Ze (Zc (Zd hE rfl fun a hE=>Zd hE rfl fun a hE=>Zd hE rfl fun a hE=>Zd hE rfl ?_)); intro a hE
        obtain ⟨r246,e247,hF147⟩:=bind_some hF147
        refine Zl hE rfl (cbm Try.func26) (JT _ r238.1 r238.2.1 u240 (hM.sl (pre:=[_,_]) noB) r238.2.2.1 r238.2.2.2 r246 e247) ?_
        rintro v w a ⟨u248,rfl,hFr,hK⟩ hE
        have hM:=hM.add hK hFr
        refine Zd hE rfl fun a hE=>Zw hE Za ld rfl rfl fun a hE=>Zw hE Za ld rfl rfl fun a hE=>Ug hE hM ZU fun b249 w a hM hE=>Y3 (seg:=cat [[vB r246.1.Place],[u248]]) (cs':=cat [[vB r246.1.Place],[u248]]) hE hM Za rfl rfl rfl ZU cq (Nat.le_of_eq ((Nat.zero_add _).trans (Eq.trans cq (Eq.symm cq)))) (Wk (cc1 (Flat.cell (r246.1.Place : UInt8)) (cc1 (Rep.cell (hM.sl (pre:=[_]) noB)) cc0))) (ZX (Eq.trans cq (Eq.symm cq))) fun w a hM hE=>Zb hE rfl fun a hE=>Ze ?_
        obtain ⟨j251,hl252,hF253⟩:=bind_some hF147
        refine ZB (fun a w=>Env 338 a [(2,vT j251)] ∧ M (Old w0) w0 w []) ?_ ?_
        ·skip
         refine wp_region_lit (Zd hE rfl fun a hE=>Zd hE rfl fun a hE=>Zk hE rfl rfl rfl fun a hE=>Zd hE rfl ?_); intro a hE
         refine ZZ (r241.2 == r246.2) (fun hb254=>?_) (fun hb254=>?_)
         ·have hl252:=Zp hl252 hb254
          refine Zv hE (Zf hE rfl (lkb rfl hb254)) (by decide) rfl (Wn) fun a hE=>ZK (v:=(vB r241.1.Place)) hE (Zf hE rfl (lkb rfl hb254)) (by decide) rfl ty5 rfl (At.cat (pre:=[]) hM.rawAt2 cl0) fun a hE=>Zv hE (Zf hE rfl (lkb rfl hb254)) (by decide) rfl (Wn) fun a hE=>ZK (v:=(vB r246.1.Place)) hE (Zf hE rfl (lkb rfl hb254)) (by decide) rfl ty5 rfl (At.cat (pre:=[]) hM.rawAt0 cl0) fun a hE=>Z2 hE (Zf hE rfl (lkb rfl hb254)) (by decide) rfl rfl (JP r241.1.Place r246.1.Place) fun a hE=>ZC hE (lkb rfl hb254) rfl fun a hE=>Zd hE rfl ?_; intro a hE
          refine ZZ (r241.1.Place == r246.1.Place) (fun hb255=>?_) (fun hb255=>?_)
          ·have hl252:=Zp hl252 hb255
           refine Zv hE (Zf hE rfl (lkb rfl hb255)) (by decide) rfl (YL) fun a hE=>ZK (v:=u243) hE (Zf hE rfl (lkb rfl hb255)) (by decide) rfl YS rfl (At.cat (pre:=[[vB r241.1.Place]]) hM.rawAt2 ck) fun a hE=>Zv hE (Zf hE rfl (lkb rfl hb255)) (by decide) rfl (YL) fun a hE=>ZK (v:=u248) hE (Zf hE rfl (lkb rfl hb255)) (by decide) rfl YS rfl (At.cat (pre:=[[vB r246.1.Place]]) hM.rawAt0 ck) ?_; intro a hE
           obtain ⟨r256,e257,hl252⟩:=bind_some hl252
           refine Z1 hE (Zf hE rfl (lkb rfl hb255)) (by decide) rfl cb12 (VJ _ r241.1.Data u243 (hM.sl (pre:=[_,_,_]) noB) r246.1.Data u248 (hM.sl (pre:=[_]) noB) r256 e257) ?_
           rintro v w a ⟨rfl,hK⟩ hE
           have hM:=hM.keep hK
           refine ZC hE (lkb rfl hb255) rfl fun a hE=>Zb hE rfl fun a hE=>Zi ?_
           obtain rfl:=Option.some.inj hl252
           refine Zj ?_
           have hM:=M.fst (l:=[]) hM
           exact ⟨hE.sub ⟨rfl,trivial⟩,hM⟩
          ·have hl252:=Zo hl252 hb255
           refine Zg hE rfl (lkb rfl hb255) rfl (by decide) fun a hE=>Zg hE rfl (lkb rfl hb255) rfl (by decide) fun a hE=>Zg hE rfl (lkb rfl hb255) rfl (by decide) fun a hE=>Zg hE rfl (lkb rfl hb255) rfl (by decide) fun a hE=>Zg hE rfl (lkb rfl hb255) rfl (by decide) fun a hE=>ZL hE (lkb rfl hb255) rfl fun a hE=>Zb hE rfl fun a hE=>Zi ?_
           obtain rfl:=Option.some.inj hl252
           refine Zj ?_
           have hM:=M.fst (l:=[]) hM
           exact ⟨hE.sub ⟨rfl,trivial⟩,hM⟩
         ·have hl252:=Zo hl252 hb254
          refine Zg hE rfl (lkb rfl hb254) rfl (by decide) fun a hE=>Zg hE rfl (lkb rfl hb254) rfl (by decide) fun a hE=>Zg hE rfl (lkb rfl hb254) rfl (by decide) fun a hE=>Zg hE rfl (lkb rfl hb254) rfl (by decide) fun a hE=>Zg hE rfl (lkb rfl hb254) rfl (by decide) fun a hE=>ZL hE (lkb rfl hb254) rfl fun a hE=>Zd hE rfl fun a hE=>Zg hE rfl rfl rfl (by decide) fun a hE=>Zg hE rfl rfl rfl (by decide) fun a hE=>Zg hE rfl rfl rfl (by decide) fun a hE=>Zg hE rfl rfl rfl (by decide) fun a hE=>Zg hE rfl rfl rfl (by decide) ?_; intro a hE
          refine ZL hE rfl rfl fun a hE=>Zb hE rfl fun a hE=>Zi ?_
          obtain rfl:=Option.some.inj hl252
          refine Zj ?_
          have hM:=M.fst (l:=[]) hM
          exact ⟨hE.sub ⟨rfl,trivial⟩,hM⟩
        ·skip
         rintro a w ⟨hE,hM⟩
         obtain rfl:=Option.some.inj hF253
         exact wp_ret (kr1 hE rfl rfl hM.kept)
end

end Go.Proofs.Ytkajmkegelcfjaa
