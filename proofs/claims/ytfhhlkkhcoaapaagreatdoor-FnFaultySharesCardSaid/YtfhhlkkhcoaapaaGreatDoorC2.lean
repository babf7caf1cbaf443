/- The walk of what the law reaches: contracts of functions. -/
import Derived.Test.YtfhhlkkhcoaapaaGreatDoorC1
set_option linter.unusedVariables false
set_option linter.unusedSimpArgs false
set_option maxRecDepth 20000
set_option maxHeartbeats 400000
namespace Go.Proofs.YtfhhlkkhcoaapaaGreatDoor
open Go
open Flat (enc)
noncomputable section
theorem W4 (w0 : World) (p0 : (List GShare)) (v0_1 : Value) (hv0_1 : Ro w0 p0 [v0_1]) (r : (List UInt8)) (hF : YT p0 = some r) :
  Calls Tryz.prog 85 [v0_1].toArray w0 (fun en w'=>∃ v,en = .returned v ∧ (∃ (y1 : Value),v = y1 ∧ Fr w0 w' [osl NoB (r : List UInt8) y1] ∧ Kept (Old w0) w0 w')):=by
 refine ce Tryz.func85 ?_
 intro a hE
 have hM:=M.start w0
 unfold YT at hF
 refine Zc (Zb hE rfl fun a hE=>Ze (Zc (ZD (xs:=[]) (l:=([] : List UInt8)) (vs:=[]) hE hM Za ld rfl rfl Tryz.underlying22 ty5 rfl (by decide) rfl fun u1 w a hM hE=>Zb hE rfl fun a hE=>Ze (wp_seq (Zc (Zb hE rfl fun a hE=>Ze ?_))))))
 obtain ⟨j3,hl4,hF5⟩:=bind_some hF
 refine ZP (fun a w=>∃ (u6 : Value),Env 21 a [(3,u6)] ∧ M (Old w0) w0 w [osl NoB (j3 : List UInt8) u6]) ?_ ?_
 ·skip
  refine wp_block ?_
  refine ZK (fun (s8 : (List UInt8) × Int) a w=>∃ (u9 : Value),Env 21 a [(0,v0_1),(3,u9),(4,vI s8.2)] ∧ M (Old w0) w0 w [osl NoB (s8.1 : List UInt8) u9]) hl4 ⟨u1,hE.sub ⟨rfl,rfl,rfl,trivial⟩,hM⟩ ?_
  rintro s8 a w ⟨u9,hE,hM⟩ o13 hs11 hx12
  unfold Xq at hs11
  refine wp_seq (Zc (Zd hE rfl fun a hE=>Zd hE rfl fun a hE=>ZL hE rfl Tryz.underlying24 (hM.rd hv0_1) fun a hE=>Zk hE rfl rfl rfl fun a hE=>Ze ?_))
  refine Zm hE rfl ?_ ?_
  ·intro hb14
   have hs11:=Zn hs11 hb14
   refine wp_skip (Zu (wp_seq (wp_block (wp_region_lit (Zd hE rfl fun a hE=>Zd hE rfl fun a hE=>Zd hE rfl ?_))))); intro a hE
   obtain ⟨x15,hi17,hs11⟩:=bix hs11
   refine ZG hE rfl rfl Tryz.underlying24 ZN (hM.rd hv0_1) hi17.1 fun a hE=>ZI hE rfl (XQ) ?_; intro a hE
   obtain ⟨cs18,hs19,hA20⟩:=Z3 hv0_1 hi17.2 -- ^
   obtain ⟨u21,rfl,h22⟩:=ZQ hs19 -- ^
   refine ZX (v:=(vB x15.Place)) hE rfl ty5 rfl (At.cat (pre:=[]) (hM.atk hA20 (Yr hv0_1 hi17.2)) cl0) fun a hE=>ZD (xs:=[.tmp 17]) (l:=([x15.Place] : List UInt8)) (vs:=[vB x15.Place]) hE hM Za ld rfl rfl Tryz.underlying22 ty5 rfl (by decide) rfl ?_; intro u23 w a hM hE
   obtain ⟨l25,e26,hs11⟩:=bind_some hs11
   obtain ⟨e29,rfl⟩:=ZY e26
   have hM:=hM.pull1
   refine Z9 hE hM Za ld rfl rfl (hM.sl (pre:=[_]) noB) Tryz.underlying22 ty5 rfl (by decide) e29 fun u27 w a hM hE=>Zb hE rfl fun a hE=>Zj (Yg (Zu (wp_region_lit (Zd hE rfl fun a hE=>Zk hE rfl rfl rfl fun a hE=>Zb hE rfl fun a hE=>Zj (Zi ?_)))))
   have hM:=M.fst (l:=[_]) hM
   exact ⟨_,(ois hs11),u27,hE.sub ⟨rfl,rfl,rfl,trivial⟩,hM⟩
  ·intro hb14
   have hs11:=Zo hs11 hb14
   refine wp_exit (Zs (Zs (Ys ?_)))
   obtain rfl:=hx12 _ (ois hs11)
   refine Zi ?_
   exact ⟨u9,hE.sub ⟨rfl,trivial⟩,hM⟩
 ·skip
  rintro a w ⟨u6,hE,hM⟩
  refine Zu (Zc (Zd hE rfl fun a hE=>Zb hE rfl fun a hE=>Ze ?_))
  obtain rfl:=Option.some.inj hF5
  exact wp_ret (Yb hE rfl (Zl hE rfl) ⟨_,rfl,u6,rfl,hM.outF (Z8 Yd),hM.kept⟩)
def Ta (p0 : Int) (s4 : UInt8 × Int × UInt8) : Option (Fl (UInt8 × Int × UInt8) UInt8) :=
 if (decide (s4.2.1 > 0)) = true then (((if ((Int.tmod s4.2.1 2) == 1) = true then ((Yx p0 s4.2.2 s4.1).bind fun r16=>some r16) else (some s4.2.2) : Option (UInt8)).bind fun j12=>(Yx p0 s4.1 s4.1).bind fun r20=>some (r20,j12) : Option (UInt8 × UInt8)).bind fun j9=>some (Fl.nx (j9.1,wr (Int.tdiv s4.2.1 2),j9.2))) else (some (Fl.ex s4.2.2))
def Vu (p0 : Int) (p1 : UInt8) (p2 : Int) : Option (UInt8) :=
 (ZH (Ta p0) (p1,p2,1)).bind fun j1=>some j1
theorem Ab (w0 : World) (p0 : Int) (p1 : UInt8) (p2 : Int) (r : UInt8) (hF : Vu p0 p1 p2 = some r) :
  Calls Tryz.prog 132 [vI p0,vB p1,vI p2].toArray w0 (Rt w0 (vB r)):=by
 refine ce Tryz.func132 ?_
 intro a hE
 have hM:=M.start w0
 unfold Vu at hF
 refine Zc (Zb hE rfl fun a hE=>Ze (Zc (Zb hE rfl fun a hE=>Ze ?_)))
 obtain ⟨j1,hl2,hF3⟩:=bind_some hF
 refine Zx (fun a w=>Env 24 a [(7,vB j1)] ∧ M (Old w0) w0 w []) ?_ ?_
 ·skip
  refine wp_block ?_
  refine ZK (fun (s4 : UInt8 × Int × UInt8) a w=>Env 24 a [(0,vI p0),(1,vB s4.1),(2,vI s4.2.1),(7,vB s4.2.2)] ∧ M (Old w0) w0 w []) hl2 ⟨hE.sub ⟨rfl,rfl,rfl,rfl,trivial⟩,hM⟩ ?_
  rintro s4 a w ⟨hE,hM⟩ o7 hs5 hx6
  unfold Ta at hs5
  refine wp_seq (Zc (Zd hE rfl fun a hE=>Zk hE rfl rfl rfl fun a hE=>Ze ?_))
  refine Zm hE rfl ?_ ?_
  ·intro hb8
   have hs5:=Zn hs5 hb8
   refine wp_skip (Zu ?_)
   obtain ⟨j9,hl10,hF11⟩:=bind_some hs5
   refine Zx (fun a w=>Env 24 a [(0,vI p0),(1,vB j9.1),(2,vI s4.2.1),(7,vB j9.2)] ∧ M (Old w0) w0 w []) ?_ ?_
   ·skip
    refine wp_block ?_
    obtain ⟨j12,hl13,hF14⟩:=bind_some hl10
    refine Zx (fun a w=>Env 24 a [(0,vI p0),(1,vB s4.1),(2,vI s4.2.1),(7,vB j12)] ∧ M (Old w0) w0 w []) ?_ ?_
    ·skip
     refine Zc (Zd hE rfl fun a hE=>Zk hE rfl rfl (Kj _ _ (by decide)) fun a hE=>Zk hE rfl rfl rfl fun a hE=>Ze ?_)
     refine Zm hE rfl ?_ ?_
     ·intro hb15
      have hl13:=Zn hl13 hb15
      refine wp_region_lit (Zd hE rfl fun a hE=>Zd hE rfl fun a hE=>Zd hE rfl ?_); intro a hE
      obtain ⟨r16,e17,hl13⟩:=bind_some hl13
      refine Zq hE rfl HL (Xy _ p0 s4.2.2 s4.1 r16 e17) ?_
      rintro v w a ⟨rfl,hK⟩ hE
      have hM:=hM.keep hK
      refine Zb hE rfl fun a hE=>Zj ?_
      obtain rfl:=Option.some.inj hl13
      refine Zi ?_
      exact ⟨hE.sub ⟨rfl,rfl,rfl,rfl,trivial⟩,hM⟩
     ·intro hb15
      have hl13:=Zo hl13 hb15
      refine wp_skip ?_
      obtain rfl:=Option.some.inj hl13
      refine Zi ?_
      exact ⟨hE.sub ⟨rfl,rfl,rfl,rfl,trivial⟩,hM⟩
    ·skip
     rintro a w ⟨hE,hM⟩
     refine wp_region_lit (Zd hE rfl fun a hE=>Zd hE rfl fun a hE=>Zd hE rfl ?_); intro a hE
     obtain ⟨r20,e21,hF14⟩:=bind_some hF14
     refine Zq hE rfl HL (Xy _ p0 s4.1 s4.1 r20 e21) ?_
     rintro v w a ⟨rfl,hK⟩ hE
     have hM:=hM.keep hK
     refine Zb hE rfl fun a hE=>Zj (Yg ?_)
     obtain rfl:=Option.some.inj hF14
     refine Zi ?_
     exact ⟨hE.sub ⟨rfl,rfl,rfl,rfl,trivial⟩,hM⟩
   ·skip
    rintro a w ⟨hE,hM⟩
    refine wp_region_lit (Zd hE rfl fun a hE=>Zk hE rfl rfl (HB _ _ (by decide)) fun a hE=>Zb hE rfl fun a hE=>Zj (Zi ?_))
    exact ⟨_,(ois hF11),hE.sub ⟨rfl,rfl,rfl,rfl,trivial⟩,hM⟩
  ·intro hb8
   have hs5:=Zo hs5 hb8
   refine wp_exit (Zs (Zs (Ys ?_)))
   obtain rfl:=hx6 _ (ois hs5)
   refine Zi ?_
   exact ⟨hE.sub ⟨rfl,trivial⟩,hM⟩
 ·skip
  rintro a w ⟨hE,hM⟩
  refine Zc (Zd hE rfl fun a hE=>Zb hE rfl fun a hE=>Ze ?_)
  obtain rfl:=Option.some.inj hF3
  exact wp_ret (kr1 hE rfl rfl hM.kept)
def UG (p0 : Int) (p1 : UInt8) : Option (UInt8) :=
 (Vu p0 p1 254).bind fun r1=>some r1
theorem J0 (w0 : World) (p0 : Int) (p1 : UInt8) (r : UInt8) (hF : UG p0 p1 = some r) :
  Calls Tryz.prog 109 [vI p0,vB p1].toArray w0 (Rt w0 (vB r)):=by
 refine ce Tryz.func109 ?_
 intro a hE
 have hM:=M.start w0
 unfold UG at hF
 refine Zc (Zb hE rfl fun a hE=>Ze (Zc (Zd hE rfl fun a hE=>Zd hE rfl ?_))); intro a hE
 obtain ⟨r1,e2,hF⟩:=bind_some hF
 refine Zq hE rfl (cbm Tryz.func132) (Ab _ p0 p1 254 r1 e2) ?_
 rintro v w a ⟨rfl,hK⟩ hE
 have hM:=hM.keep hK
 refine Zb hE rfl fun a hE=>Ze ?_
 obtain rfl:=Option.some.inj hF
 exact wp_ret (kr1 hE rfl rfl hM.kept)
def Y5 (p0 : Int) (p1 : (List UInt8)) (s24 : UInt8 × Int × (List UInt8)) (s47 : (List UInt8) × Int) : Option (Fl ((List UInt8) × Int) (List UInt8)) :=
 if (decide (s47.2 < (s24.2.2.length : Int))) = true then (((idx s47.1 s47.2).bind fun x60=>(idx s24.2.2 s47.2).bind fun x63=>(idx p1 s24.2.1).bind fun x66=>(Yx p0 x63 x66).bind fun r69=>(idx s47.1 s47.2).bind fun x71=>some (s47.1.set (s47.2).toNat (x60 ^^^ r69)) : Option ((List UInt8))).bind fun j54=>(idx j54 (wr (s47.2 + 1))).bind fun x76=>(idx s24.2.2 s47.2).bind fun x79=>(idx j54 (wr (s47.2 + 1))).bind fun x82=>some (Fl.nx ((j54.set ((wr (s47.2 + 1))).toNat (x76 ^^^ x79)),wr (s47.2 + 1)))) else (some (Fl.ex s47.1))
def Y7 (p0 : Int) (p1 : (List UInt8)) (s10 : (List UInt8) × Int) (s24 : UInt8 × Int × (List UInt8)) : Option (Fl (UInt8 × Int × (List UInt8)) (UInt8 × (List UInt8))) :=
 if (decide (s24.2.1 < (p1.length : Int))) = true then ((if (s24.2.1 == s10.2) = true then (some (s24.1,s24.2.2)) else ((mkS 1 (0 : UInt8) (wr ((s24.2.2.length : Int) + 1))).bind fun l38=>(ZH (Y5 p0 p1 s24) (l38,0)).bind fun j42=>(idx p1 s10.2).bind fun x87=>(idx p1 s24.2.1).bind fun x90=>(Yx p0 s24.1 (x87 ^^^ x90)).bind fun r93=>some (r93,j42)) : Option (UInt8 × (List UInt8))).bind fun j31=>some (Fl.nx (j31.1,wr (s24.2.1 + 1),j31.2))) else (some (Fl.ex (s24.1,s24.2.2)))
def Xb (p0 : Int) (j19 : UInt8 × (List UInt8)) (j97 : UInt8) (s114 : Int × (List UInt8)) : Option (Fl (Int × (List UInt8)) (List UInt8)) :=
 if (decide (s114.1 < (j19.2.length : Int))) = true then ((idx s114.2 s114.1).bind fun x122=>(idx j19.2 s114.1).bind fun x125=>(Yx p0 x125 j97).bind fun r128=>(idx s114.2 s114.1).bind fun x130=>some (Fl.nx (wr (s114.1 + 1),(s114.2.set (s114.1).toNat (x122 ^^^ r128))))) else (some (Fl.ex s114.2))
def Xc (p0 : Int) (p1 : (List UInt8)) (p2 : (List UInt8)) (s10 : (List UInt8) × Int) : Option (Fl ((List UInt8) × Int) (List UInt8)) :=
 if (decide (s10.2 < (p1.length : Int))) = true then ((ZH (Y7 p0 p1 s10) (1,0,([1] : List UInt8))).bind fun j19=>((idx p2 s10.2).bind fun x101=>(UG p0 j19.1).bind fun r104=>(Yx p0 x101 r104).bind fun r106=>some r106 : Option (UInt8)).bind fun j97=>(ZH (Xb p0 j19 j97) (0,s10.1)).bind fun j109=>some (Fl.nx (j109,wr (s10.2 + 1)))) else (some (Fl.ex s10.1))
def X4 (p0 : Int) (p1 : (List UInt8)) (p2 : (List UInt8)) : Option ((List UInt8)) :=
 (mkS 1 (0 : UInt8) (p1.length : Int)).bind fun l1=>(ZH (Xc p0 p1 p2) (l1,0)).bind fun j5=>some j5
theorem K0 (w0 : World) (p0 : Int) (p1 : (List UInt8)) (v1_1 : Value) (hv1_1 : Ro w0 p1 [v1_1]) (p2 : (List UInt8)) (v2_1 : Value) (hv2_1 : Ro w0 p2 [v2_1]) (r : (List UInt8)) (hF : X4 p0 p1 p2 = some r) :
  Calls Tryz.prog 133 [vI p0,v1_1,v2_1].toArray w0 (fun en w'=>∃ v,en = .returned v ∧ (∃ (y1 : Value),v = y1 ∧ Fr w0 w' [osl NoB (r : List UInt8) y1] ∧ Kept (Old w0) w0 w')):=by
 refine ce Tryz.func133 ?_
 intro a hE
 have hM:=M.start w0
 unfold X4 at hF
 refine Zc (Zb hE rfl fun a hE=>Ze (Zc (Zd hE rfl fun a hE=>ZL hE rfl Tryz.underlying22 (hM.rd hv1_1) ?_))); intro a hE
 obtain ⟨l1,e2,hF⟩:=bind_some hF
 refine Hq hE hM Za ld rfl rfl Tryz.underlying22 ty5 rfl (by decide) (fun _=>QQ.2 ⟨rfl,rfl⟩) e2 fun u3 w a hM hE=>Zb hE rfl fun a hE=>Ze (wp_seq (Zc (Zb hE rfl fun a hE=>Ze ?_)))
 obtain ⟨j5,hl6,hF7⟩:=bind_some hF
 refine ZP (fun a w=>∃ (u8 : Value),Env 121 a [(7,u8)] ∧ M (Old w0) w0 w [osl NoB (j5 : List UInt8) u8]) ?_ ?_
 ·skip
  refine wp_block ?_
  refine ZK (fun (s10 : (List UInt8) × Int) a w=>∃ (u11 : Value),Env 121 a [(0,vI p0),(1,v1_1),(2,v2_1),(7,u11),(8,vI s10.2)] ∧ M (Old w0) w0 w [osl NoB (s10.1 : List UInt8) u11]) hl6 ⟨u3,hE.sub ⟨rfl,rfl,rfl,rfl,rfl,trivial⟩,hM⟩ ?_
  rintro s10 a w ⟨u11,hE,hM⟩ o15 hs13 hx14
  unfold Xc at hs13
  refine wp_seq (Zc (Zd hE rfl fun a hE=>Zd hE rfl fun a hE=>ZL hE rfl Tryz.underlying22 (hM.rd hv1_1) fun a hE=>Zk hE rfl rfl rfl fun a hE=>Ze ?_))
  refine Zm hE rfl ?_ ?_
  ·intro hb16
   have hs13:=Zn hs13 hb16
   refine wp_skip (Zu (wp_seq (wp_block (Zc (ZD (xs:=[.const (vB 1)]) (l:=([1] : List UInt8)) (vs:=[vB 1]) hE hM Za ld rfl rfl Tryz.underlying22 ty5 rfl (by decide) rfl fun u17 w a hM hE=>Zb hE rfl fun a hE=>Zb hE rfl fun a hE=>Ze (wp_seq (Zc (Zb hE rfl fun a hE=>Ze ?_))))))))
   obtain ⟨j19,hl20,hF21⟩:=bind_some hs13
   refine ZP (fun a w=>∃ (u22 : Value),Env 121 a [(0,vI p0),(1,v1_1),(2,v2_1),(7,u11),(8,vI s10.2),(9,u22),(10,vB j19.1)] ∧ M (Old w0) w0 w [osl NoB (s10.1 : List UInt8) u11,osl NoB (j19.2 : List UInt8) u22]) ?_ ?_
   ·skip
    refine wp_block ?_
    have hM:=hM.pull1
    refine ZK (fun (s24 : UInt8 × Int × (List UInt8)) a w=>∃ (u25 : Value),Env 121 a [(0,vI p0),(1,v1_1),(2,v2_1),(7,u11),(8,vI s10.2),(9,u25),(10,vB s24.1),(11,vI s24.2.1)] ∧ M (Old w0) w0 w [osl NoB (s10.1 : List UInt8) u11,osl NoB (s24.2.2 : List UInt8) u25]) hl20 ⟨u17,hE.sub ⟨rfl,rfl,rfl,rfl,rfl,rfl,rfl,rfl,trivial⟩,hM⟩ ?_
    rintro s24 a w ⟨u25,hE,hM⟩ o29 hs27 hx28
    unfold Y7 at hs27
    refine wp_seq (Zc (Zd hE rfl fun a hE=>Zd hE rfl fun a hE=>ZL hE rfl Tryz.underlying22 (hM.rd hv1_1) fun a hE=>Zk hE rfl rfl rfl fun a hE=>Ze ?_))
    refine Zm hE rfl ?_ ?_
    ·intro hb30
     have hs27:=Zn hs27 hb30
     refine wp_skip (Zu ?_)
     obtain ⟨j31,hl32,hF33⟩:=bind_some hs27
     refine Zx (fun a w=>∃ (u34 : Value),Env 121 a [(0,vI p0),(1,v1_1),(2,v2_1),(7,u11),(8,vI s10.2),(9,u34),(10,vB j31.1),(11,vI s24.2.1)] ∧ M (Old w0) w0 w [osl NoB (s10.1 : List UInt8) u11,osl NoB (j31.2 : List UInt8) u34]) ?_ ?_
     ·skip
      refine wp_block (wp_seq (Zc (Zd hE rfl fun a hE=>Zd hE rfl fun a hE=>Zk hE rfl rfl rfl fun a hE=>Ze ?_)))
      refine Zm hE rfl ?_ ?_
      ·intro hb36
       have hl32:=Zn hl32 hb36
       refine wp_exit (Zs (Ys ?_))
       obtain rfl:=Option.some.inj hl32
       refine Zi ?_
       exact ⟨u25,hE.sub ⟨rfl,rfl,rfl,rfl,rfl,rfl,rfl,rfl,trivial⟩,hM⟩
      ·intro hb36
       have hl32:=Zo hl32 hb36
       refine wp_skip (Zu (Zc (Zd hE rfl fun a hE=>ZL hE rfl Tryz.underlying22 (hM.sl (pre:=[_]) noB) fun a hE=>Zk hE rfl rfl rfl ?_))); intro a hE
       obtain ⟨l38,e39,hl32⟩:=bind_some hl32
       refine Hq hE hM Za ld rfl rfl Tryz.underlying22 ty5 rfl (by decide) (fun _=>QQ.2 ⟨rfl,rfl⟩) e39 fun u40 w a hM hE=>Zb hE rfl fun a hE=>Ze (wp_seq (Zc (Zb hE rfl fun a hE=>Ze ?_)))
       obtain ⟨j42,hl43,hF44⟩:=bind_some hl32
       refine ZP (fun a w=>∃ (u45 : Value),Env 121 a [(0,vI p0),(1,v1_1),(2,v2_1),(7,u11),(8,vI s10.2),(10,vB s24.1),(11,vI s24.2.1),(12,u45)] ∧ M (Old w0) w0 w [osl NoB (s10.1 : List UInt8) u11,osl NoB (j42 : List UInt8) u45]) ?_ ?_
       ·skip
        refine wp_block ?_
        have hM:=hM.pull2.pull2
        refine ZK (fun (s47 : (List UInt8) × Int) a w=>∃ (u48 : Value),Env 121 a [(0,vI p0),(1,v1_1),(2,v2_1),(7,u11),(8,vI s10.2),(9,u25),(10,vB s24.1),(11,vI s24.2.1),(12,u48),(13,vI s47.2)] ∧ M (Old w0) w0 w [osl NoB (s10.1 : List UInt8) u11,osl NoB (s24.2.2 : List UInt8) u25,osl NoB (s47.1 : List UInt8) u48]) hl43 ⟨u40,hE.sub ⟨rfl,rfl,rfl,rfl,rfl,rfl,rfl,rfl,rfl,rfl,trivial⟩,hM⟩ ?_
        rintro s47 a w ⟨u48,hE,hM⟩ o52 hs50 hx51
        unfold Y5 at hs50
        refine wp_seq (Zc (Zd hE rfl fun a hE=>Zd hE rfl fun a hE=>ZL hE rfl Tryz.underlying22 (hM.sl (pre:=[_]) noB) fun a hE=>Zk hE rfl rfl rfl fun a hE=>Ze ?_))
        refine Zm hE rfl ?_ ?_
        ·intro hb53
         have hs50:=Zn hs50 hb53
         refine wp_skip (Zu (wp_seq (wp_block ?_)))
         obtain ⟨j54,hl55,hF56⟩:=bind_some hs50
         refine Zx (fun a w=>∃ (u57 : Value),Env 121 a [(0,vI p0),(1,v1_1),(2,v2_1),(7,u11),(8,vI s10.2),(9,u25),(10,vB s24.1),(11,vI s24.2.1),(12,u57),(13,vI s47.2)] ∧ M (Old w0) w0 w [osl NoB (s10.1 : List UInt8) u11,osl NoB (s24.2.2 : List UInt8) u25,osl NoB (j54 : List UInt8) u57]) ?_ ?_
         ·skip
          obtain ⟨x60,hi62,hl55⟩:=bix hl55
          obtain ⟨x63,hi65,hl55⟩:=bix hl55
          obtain ⟨x66,hi68,hl55⟩:=bix hl55
          obtain ⟨r69,e70,hl55⟩:=bind_some hl55
          obtain ⟨x71,hi73,hl55⟩:=bix hl55
          refine YA [45,46,47,48,49,50,51,52,53,54,55,56,57,58,59,60,61,62] Wb rfl rfl (by decide) rfl hE hM (qsP (fun z=>Zh z.E Za ld rfl (kr0 rfl)) (qsP (fun z=>Zh z.E Za ld rfl (kr0 rfl)) (qsP (fun z=>Zh z.E Za ld rfl (kr0 rfl)) (qsP (fun z=>Zh z.E Za ld rfl (kr0 rfl)) (qsP (fun z=>ZA z.E Za ld rfl rfl Tryz.underlying22 ty5 (z.M.sl (pre:=[_,_]) noB) hi62.1 (kr0 rfl)) (qsP (fun z=>ZE (v:=(vB x60)) z.E Za ld rfl ty5 rfl (ZS (z.M.sl (pre:=[_,_]) noB) hi62.2) (kr0 rfl)) (qsP (fun z=>Zh z.E Za ld rfl (kr0 rfl)) (qsP (fun z=>Zh z.E Za ld rfl (kr0 rfl)) (qsP (fun z=>Zh z.E Za ld rfl (kr0 rfl)) (qsP (fun z=>ZA z.E Za ld rfl rfl Tryz.underlying22 ty5 (z.M.sl (pre:=[_]) noB) hi65.1 (kr0 rfl)) (qsP (fun z=>ZE (v:=(vB x63)) z.E Za ld rfl ty5 rfl (ZS (z.M.sl (pre:=[_]) noB) hi65.2) (kr0 rfl)) (qsP (fun z=>Zh z.E Za ld rfl (kr0 rfl)) (qsP (fun z=>Zh z.E Za ld rfl (kr0 rfl)) (qsP (fun z=>ZA z.E Za ld rfl rfl Tryz.underlying22 ty5 (z.M.rd hv1_1) hi68.1 (kr0 rfl)) (qsP (fun z=>ZE (v:=(vB x66)) z.E Za ld rfl ty5 rfl (ZS (z.M.rd hv1_1) hi68.2) (kr0 rfl)) (qsP (fun z=>ZW z.E Za ld rfl HL (Xy _ p0 x63 x66 r69 e70) (kc rfl)) (qsP (v:=(vB (x60 ^^^ r69))) (fun z=>ZJ z.E Za ld rfl rfl (Ur x60 r69) (kr0 rfl)) (qsP (fun z=>ZA z.E Za ld rfl rfl Tryz.underlying22 ty5 (z.M.sl (pre:=[_,_]) noB) hi73.1 (kr0 rfl)) qs0)))))))))))))))))) ?_
          ·intro a w u hE hM
           have hM:=hM.pull2
           refine U2 (i:=(s47.2).toNat) (k0:=0) (seg:=[(vB (x60 ^^^ r69))]) (xo:=x71) (xn:=x60 ^^^ r69) hE hM Za rfl rfl rfl ty5 rfl (Flat.cell (x60 ^^^ r69 : UInt8)) hi73.2 (TT (m:=1) rfl (by decide)) (ZZ rfl) fun w a hM hE=>Zj ?_
           obtain rfl:=Option.some.inj hl55
           refine Zi ?_
           have hM:=hM.pull2.pull2
           exact ⟨u48,hE.sub ⟨rfl,rfl,rfl,rfl,rfl,rfl,rfl,rfl,rfl,rfl,trivial⟩,hM⟩
         ·skip
          rintro a w ⟨u57,hE,hM⟩
          obtain ⟨x76,hi78,hF56⟩:=bix hF56
          obtain ⟨x79,hi81,hF56⟩:=bix hF56
          obtain ⟨x82,hi84,hF56⟩:=bix hF56
          refine YA [63,64,65,66,67,68,69,70,71,72,73,74,75,76] Wb rfl rfl (by decide) rfl hE hM (qsP (fun z=>Zh z.E Za ld rfl (kr0 rfl)) (qsP (fun z=>Zh z.E Za ld rfl (kr0 rfl)) (qsP (v:=(vI (wr (s47.2 + 1)))) (fun z=>ZJ z.E Za ld rfl rfl rfl (kr0 rfl)) (qsP (fun z=>Zh z.E Za ld rfl (kr0 rfl)) (qsP (fun z=>Zh z.E Za ld rfl (kr0 rfl)) (qsP (v:=(vI (wr (s47.2 + 1)))) (fun z=>ZJ z.E Za ld rfl rfl rfl (kr0 rfl)) (qsP (fun z=>ZA z.E Za ld rfl rfl Tryz.underlying22 ty5 (z.M.sl (pre:=[_,_]) noB) hi78.1 (kr0 rfl)) (qsP (fun z=>ZE (v:=(vB x76)) z.E Za ld rfl ty5 rfl (ZS (z.M.sl (pre:=[_,_]) noB) hi78.2) (kr0 rfl)) (qsP (fun z=>Zh z.E Za ld rfl (kr0 rfl)) (qsP (fun z=>Zh z.E Za ld rfl (kr0 rfl)) (qsP (fun z=>ZA z.E Za ld rfl rfl Tryz.underlying22 ty5 (z.M.sl (pre:=[_]) noB) hi81.1 (kr0 rfl)) (qsP (fun z=>ZE (v:=(vB x79)) z.E Za ld rfl ty5 rfl (ZS (z.M.sl (pre:=[_]) noB) hi81.2) (kr0 rfl)) (qsP (v:=(vB (x76 ^^^ x79))) (fun z=>ZJ z.E Za ld rfl rfl (Ur x76 x79) (kr0 rfl)) (qsP (fun z=>ZA z.E Za ld rfl rfl Tryz.underlying22 ty5 (z.M.sl (pre:=[_,_]) noB) hi84.1 (kr0 rfl)) qs0)))))))))))))) ?_
          ·intro a w u hE hM
           have hM:=hM.pull2
           refine U2 (i:=((wr (s47.2 + 1))).toNat) (k0:=0) (seg:=[(vB (x76 ^^^ x79))]) (xo:=x82) (xn:=x76 ^^^ x79) hE hM Za rfl rfl rfl ty5 rfl (Flat.cell (x76 ^^^ x79 : UInt8)) hi84.2 (TT (m:=1) rfl (by decide)) (ZZ rfl) fun w a hM hE=>Zj (Yg (Zu (wp_region_lit (Zd hE rfl fun a hE=>Zk hE rfl rfl rfl fun a hE=>Zb hE rfl fun a hE=>Zj (Zi ?_)))))
           have hM:=hM.pull2.pull2
           exact ⟨_,(ois hF56),u57,hE.sub ⟨rfl,rfl,rfl,rfl,rfl,rfl,rfl,rfl,rfl,rfl,trivial⟩,hM⟩
        ·intro hb53
         have hs50:=Zo hs50 hb53
         refine wp_exit (Zs (Zs (Ys ?_)))
         obtain rfl:=hx51 _ (ois hs50)
         refine Zi ?_
         have hM:=M.fst (l:=[_,_]) hM.pull2.pull1
         exact ⟨u48,hE.sub ⟨rfl,rfl,rfl,rfl,rfl,rfl,rfl,rfl,trivial⟩,hM⟩
       ·skip
        rintro a w ⟨u45,hE,hM⟩
        refine Zu (Zc (Zd hE rfl fun a hE=>Zb hE rfl fun a hE=>Ze ?_))
        obtain ⟨x87,hi89,hF44⟩:=bix hF44
        obtain ⟨x90,hi92,hF44⟩:=bix hF44
        obtain ⟨r93,e94,hF44⟩:=bind_some hF44
        refine YA [78,79,80,81,82,83,84,85,86,87,88,89] Wb rfl rfl (by decide) rfl hE hM (qsP (fun z=>Zh z.E Za ld rfl (kr0 rfl)) (qsP (fun z=>Zh z.E Za ld rfl (kr0 rfl)) (qsP (fun z=>Zh z.E Za ld rfl (kr0 rfl)) (qsP (fun z=>Zh z.E Za ld rfl (kr0 rfl)) (qsP (fun z=>ZA z.E Za ld rfl rfl Tryz.underlying22 ty5 (z.M.rd hv1_1) hi89.1 (kr0 rfl)) (qsP (fun z=>ZE (v:=(vB x87)) z.E Za ld rfl ty5 rfl (ZS (z.M.rd hv1_1) hi89.2) (kr0 rfl)) (qsP (fun z=>Zh z.E Za ld rfl (kr0 rfl)) (qsP (fun z=>Zh z.E Za ld rfl (kr0 rfl)) (qsP (fun z=>ZA z.E Za ld rfl rfl Tryz.underlying22 ty5 (z.M.rd hv1_1) hi92.1 (kr0 rfl)) (qsP (fun z=>ZE (v:=(vB x90)) z.E Za ld rfl ty5 rfl (ZS (z.M.rd hv1_1) hi92.2) (kr0 rfl)) (qsP (v:=(vB (x87 ^^^ x90))) (fun z=>ZJ z.E Za ld rfl rfl (Ur x87 x90) (kr0 rfl)) (qsP (fun z=>ZW z.E Za ld rfl HL (Xy _ p0 s24.1 (x87 ^^^ x90) r93 e94) (kc rfl)) qs0)))))))))))) ?_
        ·intro a w u hE hM
         refine Zb hE rfl fun a hE=>Zj (Yg ?_)
         obtain rfl:=Option.some.inj hF44
         refine Zi ?_
         exact ⟨u45,hE.sub ⟨rfl,rfl,rfl,rfl,rfl,rfl,rfl,rfl,trivial⟩,hM⟩
     ·skip
      rintro a w ⟨u34,hE,hM⟩
      refine wp_region_lit (Zd hE rfl fun a hE=>Zk hE rfl rfl rfl fun a hE=>Zb hE rfl fun a hE=>Zj (Zi ?_))
      exact ⟨_,(ois hF33),u34,hE.sub ⟨rfl,rfl,rfl,rfl,rfl,rfl,rfl,rfl,trivial⟩,hM⟩
    ·intro hb30
     have hs27:=Zo hs27 hb30
     refine wp_exit (Zs (Zs (Ys ?_)))
     obtain rfl:=hx28 _ (ois hs27)
     refine Zi ?_
     exact ⟨u25,hE.sub ⟨rfl,rfl,rfl,rfl,rfl,rfl,rfl,trivial⟩,hM⟩
   ·skip
    rintro a w ⟨u22,hE,hM⟩
    refine Zu ?_
    obtain ⟨j97,hl98,hF99⟩:=bind_some hF21
    refine Zx (fun a w=>Env 121 a [(0,vI p0),(1,v1_1),(2,v2_1),(7,u11),(8,vI s10.2),(9,u22),(14,vB j97)] ∧ M (Old w0) w0 w [osl NoB (s10.1 : List UInt8) u11,osl NoB (j19.2 : List UInt8) u22]) ?_ ?_
    ·skip
     obtain ⟨x101,hi103,hl98⟩:=bix hl98
     obtain ⟨r104,e105,hl98⟩:=bind_some hl98
     obtain ⟨r106,e107,hl98⟩:=bind_some hl98
     refine YA [90,91,92,93,94,95,96,97,98,14] Wb rfl rfl (by decide) rfl hE hM (qsP (fun z=>Zh z.E Za ld rfl (kr0 rfl)) (qsP (fun z=>Zh z.E Za ld rfl (kr0 rfl)) (qsP (fun z=>Zh z.E Za ld rfl (kr0 rfl)) (qsP (fun z=>ZA z.E Za ld rfl rfl Tryz.underlying22 ty5 (z.M.rd hv2_1) hi103.1 (kr0 rfl)) (qsP (fun z=>ZE (v:=(vB x101)) z.E Za ld rfl ty5 rfl (ZS (z.M.rd hv2_1) hi103.2) (kr0 rfl)) (qsP (fun z=>Zh z.E Za ld rfl (kr0 rfl)) (qsP (fun z=>Zh z.E Za ld rfl (kr0 rfl)) (qsP (fun z=>ZW z.E Za ld rfl (cbm Tryz.func109) (J0 _ p0 j19.1 r104 e105) (kc rfl)) (qsP (fun z=>ZW z.E Za ld rfl HL (Xy _ p0 x101 r104 r106 e107) (kc rfl)) (qsP (fun z=>YO z.E Za ld rfl (kr0 rfl)) qs0)))))))))) ?_
     ·intro a w u hE hM
      refine Zj ?_
      obtain rfl:=Option.some.inj hl98
      refine Zi ?_
      exact ⟨hE.sub ⟨rfl,rfl,rfl,rfl,rfl,rfl,rfl,trivial⟩,hM⟩
    ·skip
     rintro a w ⟨hE,hM⟩
     refine Zc (Zb hE rfl fun a hE=>Ze ?_)
     obtain ⟨j109,hl110,hF111⟩:=bind_some hF99
     refine ZP (fun a w=>∃ (u112 : Value),Env 121 a [(0,vI p0),(1,v1_1),(2,v2_1),(7,u112),(8,vI s10.2)] ∧ M (Old w0) w0 w [osl NoB (j109 : List UInt8) u112]) ?_ ?_
     ·skip
      refine wp_block ?_
      have hM:=hM.pull1
      refine ZK (fun (s114 : Int × (List UInt8)) a w=>∃ (u115 : Value),Env 121 a [(0,vI p0),(1,v1_1),(2,v2_1),(7,u115),(8,vI s10.2),(9,u22),(14,vB j97),(15,vI s114.1)] ∧ M (Old w0) w0 w [osl NoB (j19.2 : List UInt8) u22,osl NoB (s114.2 : List UInt8) u115]) hl110 ⟨u11,hE.sub ⟨rfl,rfl,rfl,rfl,rfl,rfl,rfl,rfl,trivial⟩,hM⟩ ?_
      rintro s114 a w ⟨u115,hE,hM⟩ o119 hs117 hx118
      unfold Xb at hs117
      refine wp_seq (Zc (Zd hE rfl fun a hE=>Zd hE rfl fun a hE=>ZL hE rfl Tryz.underlying22 (hM.sl (pre:=[]) noB) fun a hE=>Zk hE rfl rfl rfl fun a hE=>Ze ?_))
      refine Zm hE rfl ?_ ?_
      ·intro hb120
       have hs117:=Zn hs117 hb120
       refine wp_skip (Zu (wp_seq (wp_block ?_)))
       obtain ⟨x122,hi124,hs117⟩:=bix hs117
       obtain ⟨x125,hi127,hs117⟩:=bix hs117
       obtain ⟨r128,e129,hs117⟩:=bind_some hs117
       obtain ⟨x130,hi132,hs117⟩:=bix hs117
       refine YA [105,106,107,108,109,110,111,112,113,114,115,116,117,118,119] Wb rfl rfl (by decide) rfl hE hM (qsP (fun z=>Zh z.E Za ld rfl (kr0 rfl)) (qsP (fun z=>Zh z.E Za ld rfl (kr0 rfl)) (qsP (fun z=>Zh z.E Za ld rfl (kr0 rfl)) (qsP (fun z=>Zh z.E Za ld rfl (kr0 rfl)) (qsP (fun z=>ZA z.E Za ld rfl rfl Tryz.underlying22 ty5 (z.M.sl (pre:=[_]) noB) hi124.1 (kr0 rfl)) (qsP (fun z=>ZE (v:=(vB x122)) z.E Za ld rfl ty5 rfl (ZS (z.M.sl (pre:=[_]) noB) hi124.2) (kr0 rfl)) (qsP (fun z=>Zh z.E Za ld rfl (kr0 rfl)) (qsP (fun z=>Zh z.E Za ld rfl (kr0 rfl)) (qsP (fun z=>Zh z.E Za ld rfl (kr0 rfl)) (qsP (fun z=>ZA z.E Za ld rfl rfl Tryz.underlying22 ty5 (z.M.sl (pre:=[]) noB) hi127.1 (kr0 rfl)) (qsP (fun z=>ZE (v:=(vB x125)) z.E Za ld rfl ty5 rfl (ZS (z.M.sl (pre:=[]) noB) hi127.2) (kr0 rfl)) (qsP (fun z=>Zh z.E Za ld rfl (kr0 rfl)) (qsP (fun z=>ZW z.E Za ld rfl HL (Xy _ p0 x125 j97 r128 e129) (kc rfl)) (qsP (v:=(vB (x122 ^^^ r128))) (fun z=>ZJ z.E Za ld rfl rfl (Ur x122 r128) (kr0 rfl)) (qsP (fun z=>ZA z.E Za ld rfl rfl Tryz.underlying22 ty5 (z.M.sl (pre:=[_]) noB) hi132.1 (kr0 rfl)) qs0))))))))))))))) ?_
       ·intro a w u hE hM
        have hM:=hM.pull1
        refine U2 (i:=(s114.1).toNat) (k0:=0) (seg:=[(vB (x122 ^^^ r128))]) (xo:=x130) (xn:=x122 ^^^ r128) hE hM Za rfl rfl rfl ty5 rfl (Flat.cell (x122 ^^^ r128 : UInt8)) hi132.2 (TT (m:=1) rfl (by decide)) (ZZ rfl) fun w a hM hE=>Zj (Yg (Zu (wp_region_lit (Zd hE rfl fun a hE=>Zk hE rfl rfl rfl fun a hE=>Zb hE rfl fun a hE=>Zj (Zi ?_)))))
        have hM:=hM.pull1
        exact ⟨_,(ois hs117),u115,hE.sub ⟨rfl,rfl,rfl,rfl,rfl,rfl,rfl,rfl,trivial⟩,hM⟩
      ·intro hb120
       have hs117:=Zo hs117 hb120
       refine wp_exit (Zs (Zs (Ys ?_)))
       obtain rfl:=hx118 _ (ois hs117)
       refine Zi ?_
       have hM:=M.fst (l:=[_]) hM.pull1
       exact ⟨u115,hE.sub ⟨rfl,rfl,rfl,rfl,rfl,trivial⟩,hM⟩
     ·skip
      rintro a w ⟨u112,hE,hM⟩
      refine Yg (Zu (wp_region_lit (Zd hE rfl fun a hE=>Zk hE rfl rfl rfl fun a hE=>Zb hE rfl fun a hE=>Zj (Zi ?_))))
      exact ⟨_,(ois hF111),u112,hE.sub ⟨rfl,rfl,rfl,rfl,rfl,trivial⟩,hM⟩
  ·intro hb16
   have hs13:=Zo hs13 hb16
   refine wp_exit (Zs (Zs (Ys ?_)))
   obtain rfl:=hx14 _ (ois hs13)
   refine Zi ?_
   exact ⟨u11,hE.sub ⟨rfl,trivial⟩,hM⟩
 ·skip
  rintro a w ⟨u8,hE,hM⟩
  refine Zu (Zc (Zd hE rfl fun a hE=>Zb hE rfl fun a hE=>Ze ?_))
  obtain rfl:=Option.some.inj hF7
  exact wp_ret (Yb hE rfl (Zl hE rfl) ⟨_,rfl,u8,rfl,hM.outF (Z8 Yd),hM.kept⟩)
def Tt (p1 : (List GShare)) (s11 : (List UInt8) × Int) (s33 : (List UInt8) × Int) : Option (Fl ((List UInt8) × Int) (List UInt8)) :=
 if (decide (s33.2 < (p1.length : Int))) = true then ((idx p1 s33.2).bind fun x40=>(idx x40.Data s11.2).bind fun x48=>(app 1 s33.1 ([x48] : List UInt8)).bind fun l53=>some (Fl.nx ((s33.1 ++ ([x48] : List UInt8)),wr (s33.2 + 1)))) else (some (Fl.ex s33.1))
def UI (p0 : Int) (p1 : (List GShare)) (p2 : UInt8) (r1 : (List UInt8)) (s11 : (List UInt8) × Int) : Option (Fl ((List UInt8) × Int) (List UInt8)) :=
 (idx p1 (0 : Int)).bind fun x17=>if (decide (s11.2 < (x17.Data.length : Int))) = true then ((ZH (Tt p1 s11) (([] : List UInt8),0)).bind fun j28=>(X4 p0 r1 j28).bind fun r59=>(Vy p0 r59 p2).bind fun r62=>(app 1 s11.1 ([r62] : List UInt8)).bind fun l66=>some (Fl.nx ((s11.1 ++ ([r62] : List UInt8)),wr (s11.2 + 1)))) else (some (Fl.ex s11.1))
def TY (p0 : Int) (p1 : (List GShare)) (p2 : UInt8) : Option ((List UInt8)) :=
 (YT p1).bind fun r1=>(ZH (UI p0 p1 p2 r1) (([] : List UInt8),0)).bind fun j6=>some j6
theorem yD (w0 : World) (p0 : Int) (p1 : (List GShare)) (v1_1 : Value) (hv1_1 : Ro w0 p1 [v1_1]) (p2 : UInt8) (r : (List UInt8)) (hF : TY p0 p1 p2 = some r) :
  Calls Tryz.prog 111 [vI p0,v1_1,vB p2].toArray w0 (fun en w'=>∃ v,en = .returned v ∧ (∃ (y1 : Value),v = y1 ∧ Fr w0 w' [osl NoB (r : List UInt8) y1] ∧ Kept (Old w0) w0 w')):=by
 refine ce Tryz.func111 ?_
 intro a hE
 have hM:=M.start w0
 unfold TY at hF
 refine Zc (Zb hE rfl fun a hE=>Ze (Zc (Zd hE rfl ?_))); intro a hE
 obtain ⟨r1,e2,hF⟩:=bind_some hF
 refine Zq hE rfl cb85 (W4 _ p1 v1_1 (hM.rdo hv1_1) r1 e2) ?_
 rintro u3 w a ⟨_,rfl,hFr,hK⟩ hE
 have hM:=hM.add hK hFr
 refine ZD (xs:=[]) (l:=([] : List UInt8)) (vs:=[]) hE hM Za ld rfl rfl Tryz.underlying22 ty5 rfl (by decide) rfl fun u4 w a hM hE=>Zb hE rfl fun a hE=>Zb hE rfl fun a hE=>Ze (wp_seq (Zc (Zb hE rfl fun a hE=>Ze ?_)))
 obtain ⟨j6,hl7,hF8⟩:=bind_some hF
 refine ZP (fun a w=>∃ (u9 : Value),Env 53 a [(8,u9)] ∧ M (Old w0) w0 w [osl NoB (j6 : List UInt8) u9]) ?_ ?_
 ·skip
  refine wp_block ?_
  have hM:=hM.pull1
  refine ZK (fun (s11 : (List UInt8) × Int) a w=>∃ (u12 : Value),Env 53 a [(0,vI p0),(1,v1_1),(2,vB p2),(7,u3),(8,u12),(9,vI s11.2)] ∧ M (Old w0) w0 w [osl NoB (r1 : List UInt8) u3,osl NoB (s11.1 : List UInt8) u12]) hl7 ⟨u4,hE.sub ⟨rfl,rfl,rfl,rfl,rfl,rfl,trivial⟩,hM⟩ ?_
  rintro s11 a w ⟨u12,hE,hM⟩ o16 hs14 hx15
  unfold UI at hs14
  refine wp_seq (Zc (Zd hE rfl fun a hE=>Zd hE rfl ?_)); intro a hE
  obtain ⟨x17,hi19,hs14⟩:=bix hs14
  refine ZG hE rfl rfl Tryz.underlying24 ZN (hM.rd hv1_1) hi19.1 fun a hE=>ZI hE rfl (Yj) ?_; intro a hE
  obtain ⟨cs20,hs21,hA22⟩:=Z3 hv1_1 hi19.2 -- ^
  obtain ⟨u23,rfl,h24⟩:=ZQ hs21 -- ^
  refine ZX (v:=u23) hE rfl YS rfl (At.cat (pre:=[[vB x17.Place]]) (hM.atk hA22 (Yr hv1_1 hi19.2)) ck) fun a hE=>ZL hE rfl Tryz.underlying22 (hM.rd h24) fun a hE=>Zk hE rfl rfl rfl fun a hE=>Ze ?_
  refine Zm hE rfl ?_ ?_
  ·intro hb25
   have hs14:=Zn hs14 hb25
   refine wp_skip (Zu (wp_seq (wp_block (Zc (ZD (xs:=[]) (l:=([] : List UInt8)) (vs:=[]) hE hM Za ld rfl rfl Tryz.underlying22 ty5 rfl (by decide) rfl fun u26 w a hM hE=>Zb hE rfl fun a hE=>Ze (wp_seq (Zc (Zb hE rfl fun a hE=>Ze ?_))))))))
   obtain ⟨j28,hl29,hF30⟩:=bind_some hs14
   refine ZP (fun a w=>∃ (u31 : Value),Env 53 a [(0,vI p0),(1,v1_1),(2,vB p2),(7,u3),(8,u12),(9,vI s11.2),(10,u31)] ∧ M (Old w0) w0 w [osl NoB (r1 : List UInt8) u3,osl NoB (s11.1 : List UInt8) u12,osl NoB (j28 : List UInt8) u31]) ?_ ?_
   ·skip
    refine wp_block ?_
    have hM:=hM.pull2.pull2
    refine ZK (fun (s33 : (List UInt8) × Int) a w=>∃ (u34 : Value),Env 53 a [(0,vI p0),(1,v1_1),(2,vB p2),(7,u3),(8,u12),(9,vI s11.2),(10,u34),(11,vI s33.2)] ∧ M (Old w0) w0 w [osl NoB (r1 : List UInt8) u3,osl NoB (s11.1 : List UInt8) u12,osl NoB (s33.1 : List UInt8) u34]) hl29 ⟨u26,hE.sub ⟨rfl,rfl,rfl,rfl,rfl,rfl,rfl,rfl,trivial⟩,hM⟩ ?_
    rintro s33 a w ⟨u34,hE,hM⟩ o38 hs36 hx37
    unfold Tt at hs36
    refine wp_seq (Zc (Zd hE rfl fun a hE=>Zd hE rfl fun a hE=>ZL hE rfl Tryz.underlying24 (hM.rd hv1_1) fun a hE=>Zk hE rfl rfl rfl fun a hE=>Ze ?_))
    refine Zm hE rfl ?_ ?_
    ·intro hb39
     have hs36:=Zn hs36 hb39
     refine wp_skip (Zu (wp_seq (wp_block (wp_region_lit (Zd hE rfl fun a hE=>Zd hE rfl fun a hE=>Zd hE rfl ?_))))); intro a hE
     obtain ⟨x40,hi42,hs36⟩:=bix hs36
     refine ZG hE rfl rfl Tryz.underlying24 ZN (hM.rd hv1_1) hi42.1 fun a hE=>ZI hE rfl (Yj) ?_; intro a hE
     obtain ⟨cs43,hs44,hA45⟩:=Z3 hv1_1 hi42.2 -- ^
     obtain ⟨u46,rfl,h47⟩:=ZQ hs44 -- ^
     refine ZX (v:=u46) hE rfl YS rfl (At.cat (pre:=[[vB x40.Place]]) (hM.atk hA45 (Yr hv1_1 hi42.2)) ck) fun a hE=>Zd hE rfl ?_; intro a hE
     obtain ⟨x48,hi50,hs36⟩:=bix hs36
     refine ZG hE rfl rfl Tryz.underlying22 ty5 (hM.rd h47) hi50.1 fun a hE=>ZX (v:=(vB x48)) hE rfl ty5 rfl (ZS (hM.rd h47) hi50.2) fun a hE=>ZD (xs:=[.tmp 39]) (l:=([x48] : List UInt8)) (vs:=[vB x48]) hE hM Za ld rfl rfl Tryz.underlying22 ty5 rfl (by decide) rfl ?_; intro u51 w a hM hE
     obtain ⟨l53,e54,hs36⟩:=bind_some hs36
     obtain ⟨e57,rfl⟩:=ZY e54
     have hM:=hM.pull3
     refine Z9 hE hM Za ld rfl rfl (hM.sl (pre:=[_]) noB) Tryz.underlying22 ty5 rfl (by decide) e57 fun u55 w a hM hE=>Zb hE rfl fun a hE=>Zj (Yg (Zu (wp_region_lit (Zd hE rfl fun a hE=>Zk hE rfl rfl rfl fun a hE=>Zb hE rfl fun a hE=>Zj (Zi ?_)))))
     have hM:=M.fst (l:=[_,_,_]) hM.pull3.pull3
     exact ⟨_,(ois hs36),u55,hE.sub ⟨rfl,rfl,rfl,rfl,rfl,rfl,rfl,rfl,trivial⟩,hM⟩
    ·intro hb39
     have hs36:=Zo hs36 hb39
     refine wp_exit (Zs (Zs (Ys ?_)))
     obtain rfl:=hx37 _ (ois hs36)
     refine Zi ?_
     exact ⟨u34,hE.sub ⟨rfl,rfl,rfl,rfl,rfl,rfl,rfl,trivial⟩,hM⟩
   ·skip
    rintro a w ⟨u31,hE,hM⟩
    refine Zu (wp_region_lit (Zd hE rfl fun a hE=>Zd hE rfl fun a hE=>Zd hE rfl fun a hE=>Zd hE rfl fun a hE=>Zd hE rfl ?_)); intro a hE
    obtain ⟨r59,e60,hF30⟩:=bind_some hF30
    refine Zq hE rfl (cbm Tryz.func133) (K0 _ p0 r1 u3 (hM.sl (pre:=[]) noB) j28 u31 (hM.sl (pre:=[_,_]) noB) r59 e60) ?_
    rintro u61 w a ⟨_,rfl,hFr,hK⟩ hE
    have hM:=hM.add hK hFr
    refine Zd hE rfl ?_; intro a hE
    obtain ⟨r62,e63,hF30⟩:=bind_some hF30
    refine Zq hE rfl (cbm Tryz.func124) (KV _ p0 r59 u61 (hM.sl (pre:=[]) noB) p2 r62 e63) ?_
    rintro v w a ⟨rfl,hK⟩ hE
    have hM:=hM.keep hK
    refine ZD (xs:=[.tmp 49]) (l:=([r62] : List UInt8)) (vs:=[vB r62]) hE hM Za ld rfl rfl Tryz.underlying22 ty5 rfl (by decide) rfl ?_; intro u64 w a hM hE
    obtain ⟨l66,e67,hF30⟩:=bind_some hF30
    obtain ⟨e70,rfl⟩:=ZY e67
    have hM:=hM.pull3
    refine Z9 hE hM Za ld rfl rfl (hM.sl (pre:=[_]) noB) Tryz.underlying22 ty5 rfl (by decide) e70 fun u68 w a hM hE=>Zb hE rfl fun a hE=>Zj (Yg (Zu (wp_region_lit (Zd hE rfl fun a hE=>Zk hE rfl rfl rfl fun a hE=>Zb hE rfl fun a hE=>Zj (Zi ?_)))))
    have hM:=M.fst (l:=[_,_]) hM.pull3
    exact ⟨_,(ois hF30),u68,hE.sub ⟨rfl,rfl,rfl,rfl,rfl,rfl,trivial⟩,hM⟩
  ·intro hb25
   have hs14:=Zo hs14 hb25
   refine wp_exit (Zs (Zs (Ys ?_)))
   obtain rfl:=hx15 _ (ois hs14)
   refine Zi ?_
   have hM:=M.fst (l:=[_]) hM.pull1
   exact ⟨u12,hE.sub ⟨rfl,trivial⟩,hM⟩
 ·skip
  rintro a w ⟨u9,hE,hM⟩
  refine Zu (Zc (Zd hE rfl fun a hE=>Zb hE rfl fun a hE=>Ze ?_))
  obtain rfl:=Option.some.inj hF8
  exact wp_ret (Yb hE rfl (Zl hE rfl) ⟨_,rfl,u9,rfl,hM.outF (Z8 Yd),hM.kept⟩)
def WX (p0 : (List UInt8)) (p1 : (List UInt8)) (s6 : Int) : Option (Fl Int (Fl Unit Bool)) :=
 if (decide (s6 < (p0.length : Int))) = true then (((idx p0 s6).bind fun x15=>(idx p1 s6).bind fun x18=>some (x15 != x18) : Option (Bool)).bind fun j11=>if j11 = true then (some (Fl.ex (Fl.ex false))) else (some (Fl.nx (wr (s6 + 1))))) else (some (Fl.ex (Fl.nx ())))
def VB (p0 : (List UInt8)) (p1 : (List UInt8)) : Option (Bool) :=
 if ((p0.length : Int) != (p1.length : Int)) = true then (some false) else ((ZH (WX p0 p1) 0).bind fun j2=>j2.el (fun s5=>some true) (fun r=>some r))
theorem Qr (w0 : World) (p0 : (List UInt8)) (v0_1 : Value) (hv0_1 : Ro w0 p0 [v0_1]) (p1 : (List UInt8)) (v1_1 : Value) (hv1_1 : Ro w0 p1 [v1_1]) (r : Bool) (hF : VB p0 p1 = some r) :
  Calls Tryz.prog 89 [v0_1,v1_1].toArray w0 (Rt w0 (vT r)):=by
 refine ce Tryz.func89 ?_
 intro a hE
 have hM:=M.start w0
 unfold VB at hF
 refine Zc (Zb hE rfl fun a hE=>Ze (wp_seq (Zc (Zd hE rfl fun a hE=>ZL hE rfl Tryz.underlying22 (hM.rd hv0_1) fun a hE=>Zd hE rfl fun a hE=>ZL hE rfl Tryz.underlying22 (hM.rd hv1_1) fun a hE=>Zk hE rfl rfl rfl fun a hE=>Ze ?_))))
 refine Zm hE rfl ?_ ?_
 ·intro hb1
  have hF:=Zn hF hb1
  refine Zc (Zb hE rfl fun a hE=>Ze ?_)
  obtain rfl:=Option.some.inj hF
  exact wp_ret (Zr (kr1 hE rfl rfl hM.kept))
 ·intro hb1
  have hF:=Zo hF hb1
  refine wp_skip (Zu (wp_seq (Zc (Zb hE rfl fun a hE=>Ze ?_))))
  obtain ⟨j2,hl3,hF4⟩:=bind_some hF
  refine ZP (fun a w=>∃ s5 : Unit,j2 = Fl.nx s5 ∧ Env 26 a [] ∧ M (Old w0) w0 w []) ?_ ?_
  ·skip
   refine wp_block ?_
   refine ZK (fun (s6 : Int) a w=>Env 26 a [(0,v0_1),(1,v1_1),(5,vI s6)] ∧ M (Old w0) w0 w []) hl3 ⟨hE.sub ⟨rfl,rfl,rfl,trivial⟩,hM⟩ ?_
   rintro s6 a w ⟨hE,hM⟩ o9 hs7 hx8
   unfold WX at hs7
   refine wp_seq (Zc (Zd hE rfl fun a hE=>Zd hE rfl fun a hE=>ZL hE rfl Tryz.underlying22 (hM.rd hv0_1) fun a hE=>Zk hE rfl rfl rfl fun a hE=>Ze ?_))
   refine Zm hE rfl ?_ ?_
   ·intro hb10
    have hs7:=Zn hs7 hb10
    refine wp_skip (Zu (wp_seq (wp_block ?_)))
    obtain ⟨j11,hl12,hF13⟩:=bind_some hs7
    refine Zx (fun a w=>Env 26 a [(0,v0_1),(1,v1_1),(5,vI s6),(25,vT j11)] ∧ M (Old w0) w0 w []) ?_ ?_
    ·skip
     obtain ⟨x15,hi17,hl12⟩:=bix hl12
     obtain ⟨x18,hi20,hl12⟩:=bix hl12
     refine YA [17,18,19,20,21,22,23,24,25] Wb rfl rfl (by decide) rfl hE hM (qsP (fun z=>Zh z.E Za ld rfl (kr0 rfl)) (qsP (fun z=>Zh z.E Za ld rfl (kr0 rfl)) (qsP (fun z=>ZA z.E Za ld rfl rfl Tryz.underlying22 ty5 (z.M.rd hv0_1) hi17.1 (kr0 rfl)) (qsP (fun z=>ZE (v:=(vB x15)) z.E Za ld rfl ty5 rfl (ZS (z.M.rd hv0_1) hi17.2) (kr0 rfl)) (qsP (fun z=>Zh z.E Za ld rfl (kr0 rfl)) (qsP (fun z=>Zh z.E Za ld rfl (kr0 rfl)) (qsP (fun z=>ZA z.E Za ld rfl rfl Tryz.underlying22 ty5 (z.M.rd hv1_1) hi20.1 (kr0 rfl)) (qsP (fun z=>ZE (v:=(vB x18)) z.E Za ld rfl ty5 rfl (ZS (z.M.rd hv1_1) hi20.2) (kr0 rfl)) (qsP (fun z=>ZJ z.E Za ld rfl rfl (Kd x15 x18) (kr0 rfl)) qs0))))))))) ?_
     ·intro a w u hE hM
      refine Zj ?_
      obtain rfl:=Option.some.inj hl12
      refine Zi ?_
      exact ⟨hE.sub ⟨rfl,rfl,rfl,rfl,trivial⟩,hM⟩
    ·skip
     rintro a w ⟨hE,hM⟩
     refine Zm hE rfl ?_ ?_
     ·intro hb22
      have hF13:=Zn hF13 hb22
      refine Zc (Zb hE rfl fun a hE=>Ze ?_)
      obtain rfl:=hx8 _ (ois hF13)
      obtain rfl:=Option.some.inj hF4
      exact wp_ret (Z4 (Zr (Zr (Z4 (Zr (Zr (kr1 hE rfl rfl hM.kept)))))))
     ·intro hb22
      have hF13:=Zo hF13 hb22
      refine wp_skip (Yg (Zu (wp_region_lit (Zd hE rfl fun a hE=>Zk hE rfl rfl rfl fun a hE=>Zb hE rfl fun a hE=>Zj (Zi ?_)))))
      exact ⟨_,(ois hF13),hE.sub ⟨rfl,rfl,rfl,trivial⟩,hM⟩
   ·intro hb10
    have hs7:=Zo hs7 hb10
    refine wp_exit (Zs (Zs (Ys ?_)))
    obtain rfl:=hx8 _ (ois hs7)
    refine Zi ?_
    exact ⟨(),rfl,hE.sub trivial,hM⟩
  ·skip
   rintro a w ⟨s5,ht,hE,hM⟩
   subst ht
   have hF4:=VQ hF4
   refine Zu (Zc (Zb hE rfl fun a hE=>Ze ?_))
   obtain rfl:=Option.some.inj hF4
   exact wp_ret (kr1 hE rfl rfl hM.kept)
def Ua (p0 : Int) (p1 : (List GShare)) (p2 : Int) (s5 : Int) : Option (Fl Int (Fl Unit Bool)) :=
 if (decide (s5 < (p1.length : Int))) = true then (((slc p1 (0 : Int) p2).bind fun l14=>(idx p1 s5).bind fun x17=>(TY p0 l14 x17.Place).bind fun r25=>(idx p1 s5).bind fun x28=>(VB r25 x28.Data).bind fun r36=>some (!r36) : Option (Bool)).bind fun j10=>if j10 = true then (some (Fl.ex (Fl.ex false))) else (some (Fl.nx (wr (s5 + 1))))) else (some (Fl.ex (Fl.nx ())))
def VM (p0 : Int) (p1 : (List GShare)) (p2 : Int) : Option (Bool) :=
 (ZH (Ua p0 p1 p2) p2).bind fun j1=>j1.el (fun s4=>some true) (fun r=>some r)
theorem Kg (w0 : World) (p0 : Int) (p1 : (List GShare)) (v1_1 : Value) (hv1_1 : Ro w0 p1 [v1_1]) (p2 : Int) (r : Bool) (hF : VM p0 p1 p2 = some r) :
  Calls Tryz.prog 65 [vI p0,v1_1,vI p2].toArray w0 (Rt w0 (vT r)):=by
 refine ce Tryz.func65 ?_
 intro a hE
 have hM:=M.start w0
 unfold VM at hF
 refine Zc (Zb hE rfl fun a hE=>Ze (wp_seq (Zc (Zd hE rfl fun a hE=>Zb hE rfl fun a hE=>Ze ?_))))
 obtain ⟨j1,hl2,hF3⟩:=bind_some hF
 refine ZP (fun a w=>∃ s4 : Unit,j1 = Fl.nx s4 ∧ Env 32 a [] ∧ M (Old w0) w0 w []) ?_ ?_
 ·skip
  refine wp_block ?_
  refine ZK (fun (s5 : Int) a w=>Env 32 a [(0,vI p0),(1,v1_1),(2,vI p2),(7,vI s5)] ∧ M (Old w0) w0 w []) hl2 ⟨hE.sub ⟨rfl,rfl,rfl,rfl,trivial⟩,hM⟩ ?_
  rintro s5 a w ⟨hE,hM⟩ o8 hs6 hx7
  unfold Ua at hs6
  refine wp_seq (Zc (Zd hE rfl fun a hE=>Zd hE rfl fun a hE=>ZL hE rfl Tryz.underlying24 (hM.rd hv1_1) fun a hE=>Zk hE rfl rfl rfl fun a hE=>Ze ?_))
  refine Zm hE rfl ?_ ?_
  ·intro hb9
   have hs6:=Zn hs6 hb9
   refine wp_skip (Zu (wp_seq (wp_block ?_)))
   obtain ⟨j10,hl11,hF12⟩:=bind_some hs6
   refine Zx (fun a w=>Env 32 a [(0,vI p0),(1,v1_1),(2,vI p2),(7,vI s5),(31,vT j10)] ∧ M (Old w0) w0 w []) ?_ ?_
   ·skip
    obtain ⟨l14,e15,hl11⟩:=bind_some hl11
    have h16 : Rep.sat (Old w0) w0 l14 [(Vc v1_1 ((0 : Int)).toNat (p2).toNat 2)] []:=AV hv1_1 e15 -- ^
    obtain ⟨x17,hi19,hl11⟩:=bix hl11
    obtain ⟨cs20,hs21,hA22⟩:=Z3 hv1_1 hi19.2 -- ^
    obtain ⟨u23,rfl,h24⟩:=ZQ hs21 -- ^
    obtain ⟨r25,e26,hl11⟩:=bind_some hl11
    obtain ⟨x28,hi30,hl11⟩:=bix hl11
    obtain ⟨cs31,hs32,hA33⟩:=Z3 hv1_1 hi30.2 -- ^
    obtain ⟨u34,rfl,h35⟩:=ZQ hs32 -- ^
    refine Wo (its:=[]) (mk:=([mkO 9 (fun v=>osl NoB (r25 : List UInt8) v)] : Mk)) [15,16,17,18,19,20,21,22,23,24,25,26,27,28,29] Wb rfl rfl (by decide) rfl hE (fun u=>M.qE (M.q0 hM.drew u) emO) (qsP (fun z=>Zh z.E Za ld rfl (kr0 rfl)) (qsP (fun z=>Zh z.E Za ld rfl (kr0 rfl)) (qsP (fun z=>Zh z.E Za ld rfl (kr0 rfl)) (qsP (fun z=>QZ z.E Za ld rfl rfl (VW rfl) rfl rfl Tryz.underlying24 ZN (z.M.rd hv1_1) e15 (kr0 rfl)) (qsP (fun z=>Zh z.E Za ld rfl (kr0 rfl)) (qsP (fun z=>Zh z.E Za ld rfl (kr0 rfl)) (qsP (fun z=>ZA z.E Za ld rfl rfl Tryz.underlying24 ZN (z.M.rd hv1_1) hi19.1 (kr0 rfl)) (qsP (fun z=>Zv z.E Za ld rfl (XQ) (kr0 rfl)) (qsP (fun z=>ZE (v:=(vB x17.Place)) z.E Za ld rfl ty5 rfl (At.cat (pre:=[]) (z.M.atk hA22 (Yr hv1_1 hi19.2)) cl0) (kr0 rfl)) (qsM (pr:=fun v=>True) ?_ (qsP (fun z=>Zh z.E Za ld rfl (kr0 rfl)) (qsP (fun z=>Zh z.E Za ld rfl (kr0 rfl)) (qsP (fun z=>ZA z.E Za ld rfl rfl Tryz.underlying24 ZN (z.M.rd hv1_1) hi30.1 (kr0 rfl)) (qsP (fun z=>Zv z.E Za ld rfl (Yj) (kr0 rfl)) (qsP (fun z=>ZE (v:=u34) z.E Za ld rfl YS rfl (At.cat (pre:=[[vB x28.Place]]) (z.M.atk hA33 (Yr hv1_1 hi30.2)) ck) (kr0 rfl)) qs0))))))))))))))) ?_
    ·intro a w ux13 D z
     have hE:=z.E
     have hD : D 9 = false:=z.F
     have hM0:=z.M
     have hM:=z.M
     refine Zq hE rfl (cbm Tryz.func111) (yD _ p0 l14 (Vc v1_1 ((0 : Int)).toNat (p2).toNat 2) (hM.rdo h16) x17.Place r25 e26) ?_
     rintro _ w a ⟨_,rfl,hFr,hK⟩ hE
     have hM:=hM0.add hK hFr
     exact ⟨_,_,rfl,hE,M.qFill (mk1:=[]) (mk2:=[]) (f:=(fun v=>osl NoB (r25 : List UInt8) v)) hM rfl hD,trivial⟩
    ·intro a w ux13 D hE hM hG hall
     have d9:=hall 9 (by decide)
     have hM:=hM.sure (pre:=[]) d9
     obtain ⟨r36,e37,hl11⟩:=bind_some hl11
     refine Zq hE rfl cb89 (Qr _ r25 (ux13 9) (hM.sl (pre:=[]) noB) x28.Data u34 (hM.rdo h35) r36 e37) ?_
     rintro v w a ⟨rfl,hK⟩ hE
     have hM:=hM.keep hK
     refine Ve hE rfl fun a hE=>Zj ?_
     obtain rfl:=Option.some.inj hl11
     refine Zi ?_
     have hM:=M.fst (l:=[]) hM
     exact ⟨hE.sub ⟨rfl,rfl,rfl,rfl,rfl,trivial⟩,hM⟩
   ·skip
    rintro a w ⟨hE,hM⟩
    refine Zm hE rfl ?_ ?_
    ·intro hb39
     have hF12:=Zn hF12 hb39
     refine Zc (Zb hE rfl fun a hE=>Ze ?_)
     obtain rfl:=hx7 _ (ois hF12)
     obtain rfl:=Option.some.inj hF3
     exact wp_ret (Z4 (Zr (Zr (Z4 (Zr (Zr (kr1 hE rfl rfl hM.kept)))))))
    ·intro hb39
     have hF12:=Zo hF12 hb39
     refine wp_skip (Yg (Zu (wp_region_lit (Zd hE rfl fun a hE=>Zk hE rfl rfl rfl fun a hE=>Zb hE rfl fun a hE=>Zj (Zi ?_)))))
     exact ⟨_,(ois hF12),hE.sub ⟨rfl,rfl,rfl,rfl,trivial⟩,hM⟩
  ·intro hb9
   have hs6:=Zo hs6 hb9
   refine wp_exit (Zs (Zs (Ys ?_)))
   obtain rfl:=hx7 _ (ois hs6)
   refine Zi ?_
   exact ⟨(),rfl,hE.sub trivial,hM⟩
 ·skip
  rintro a w ⟨s4,ht,hE,hM⟩
  subst ht
  have hF3:=VQ hF3
  refine Zu (Zc (Zb hE rfl fun a hE=>Ze ?_))
  obtain rfl:=Option.some.inj hF3
  exact wp_ret (kr1 hE rfl rfl hM.kept)
def XO (p0 : Int) (p1 : (List GShare)) (p2 : Int) (s4 : Int × Int × Int) : Option (Fl (Int × Int × Int) (Int × Int)) :=
 (YI (IntKind.u64.wrap (p1.length : Int))).bind fun _=>if (decide (s4.2.1 < (TN 1 (IntKind.u64.wrap (p1.length : Int))))) = true then (((U0 s4.2.1).bind fun r13=>(if (decide (r13 < s4.1)) = true then (some true) else (if (r13 == s4.1) = true then ((UU s4.2.1 s4.2.2).bind fun r21=>some (!r21)) else (some false)) : Option (Bool)).bind fun j15=>if j15 = true then (some (s4.1,s4.2.2)) else (if (decide (r13 < (wr (p2 + 1)))) = true then (some (r13,s4.2.1)) else ((Ui p1 s4.2.1).bind fun r29=>(VM p0 r29.1 p2).bind fun r34=>(if r34 = true then (some (r13,s4.2.1)) else (some (s4.1,s4.2.2)) : Option (Int × Int)).bind fun j36=>some (j36.1,j36.2))) : Option (Int × Int)).bind fun j10=>some (Fl.nx (j10.1,wr (s4.2.1 + 1),j10.2))) else (some (Fl.ex (s4.1,s4.2.2)))
def Tg (p0 : Int) (p1 : (List GShare)) (p2 : Int) : Option ((List Int) × Bool) :=
 (ZH (XO p0 p1 p2) (0,1,0)).bind fun j1=>(Ui p1 j1.2).bind fun r44=>(if (decide (j1.1 > p2)) = true then (some (r44.2,decide ((p1.length : Int) ≥ (wr (p2 + (wr (2 * (r44.2.length : Int)))))))) else (some (r44.2,false)) : Option ((List Int) × Bool)).bind fun j49=>some (j49.1,j49.2)
theorem Bn (w0 : World) (p0 : Int) (p1 : (List GShare)) (v1_1 : Value) (hv1_1 : Ro w0 p1 [v1_1]) (p2 : Int) (r : (List Int) × Bool) (hF : Tg p0 p1 p2 = some r) :
  Calls Tryz.prog 47 [vI p0,v1_1,vI p2].toArray w0 (fun en w'=>∃ v,en = .returned v ∧ (∃ (y1 : Value),v = (Value.tuple [y1,vT r.2].toArray) ∧ Fr w0 w' [osl NoB (r.1 : List Int) y1] ∧ Kept (Old w0) w0 w')):=by
 refine ce Tryz.func47 ?_
 intro a hE
 have hM:=M.start w0
 unfold Tg at hF
 refine Zc (Zb hE rfl fun a hE=>Zb hE rfl fun a hE=>Ze (Zc (Zd hE rfl fun a hE=>ZL hE rfl Tryz.underlying24 (hM.rd hv1_1) fun a hE=>Zb hE rfl fun a hE=>Zb hE rfl fun a hE=>Zb hE rfl fun a hE=>Ze (wp_seq (Zc (Zb hE rfl fun a hE=>Ze ?_))))))
 obtain ⟨j1,hl2,hF3⟩:=bind_some hF
 refine ZP (fun a w=>Env 79 a [(1,v1_1),(2,vI p2),(8,(vI (p1.length : Int))),(9,vI j1.2),(10,vI j1.1)] ∧ M (Old w0) w0 w []) ?_ ?_
 ·skip
  refine wp_block ?_
  refine ZK (fun (s4 : Int × Int × Int) a w=>Env 79 a [(0,vI p0),(1,v1_1),(2,vI p2),(8,(vI (p1.length : Int))),(9,vI s4.2.2),(10,vI s4.1),(11,vI s4.2.1)] ∧ M (Old w0) w0 w []) hl2 ⟨hE.sub ⟨rfl,rfl,rfl,rfl,rfl,rfl,rfl,trivial⟩,hM⟩ ?_
  rintro s4 a w ⟨hE,hM⟩ o7 hs5 hx6
  unfold XO at hs5
  refine wp_seq (Zc (Zd hE rfl fun a hE=>Zd hE rfl fun a hE=>Qm hE Za ld rfl Tryz.underlying2 Tryz.underlying44 ?_)); intro a hE
  obtain ⟨_,e8,hs5⟩:=bind_some hs5
  have e8:=WA e8
  refine Ke hE Za ld rfl rfl (Ho _ _ e8) fun a hE=>Zk hE rfl rfl rfl fun a hE=>Ze ?_
  refine Zm hE rfl ?_ ?_
  ·intro hb9
   have hs5:=Zn hs5 hb9
   refine wp_skip (Zu ?_)
   obtain ⟨j10,hl11,hF12⟩:=bind_some hs5
   refine Zx (fun a w=>Env 79 a [(0,vI p0),(1,v1_1),(2,vI p2),(8,(vI (p1.length : Int))),(9,vI j10.2),(10,vI j10.1),(11,vI s4.2.1)] ∧ M (Old w0) w0 w []) ?_ ?_
   ·skip
    refine wp_block (Zc (Zd hE rfl ?_)); intro a hE
    obtain ⟨r13,e14,hl11⟩:=bind_some hl11
    refine Zq hE rfl (cbm Tryz.func100) (AC _ s4.2.1 r13 e14) ?_
    rintro v w a ⟨rfl,hK⟩ hE
    have hM:=hM.keep hK
    refine Zb hE rfl fun a hE=>Ze (wp_seq ?_)
    obtain ⟨j15,hl16,hF17⟩:=bind_some hl11
    refine Zx (fun a w=>Env 79 a [(0,vI p0),(1,v1_1),(2,vI p2),(8,(vI (p1.length : Int))),(9,vI s4.2.2),(10,vI s4.1),(11,vI s4.2.1),(12,vI r13),(41,vT j15)] ∧ M (Old w0) w0 w []) ?_ ?_
    ·skip
     refine wp_region_lit (Zd hE rfl fun a hE=>Zd hE rfl fun a hE=>Zk hE rfl rfl rfl fun a hE=>Zd hE rfl ?_); intro a hE
     refine ZO (decide (r13 < s4.1)) (fun hb18=>?_) (fun hb18=>?_)
     ·have hl16:=Zn hl16 hb18
      refine Zg hE rfl (lkb rfl hb18) rfl (by decide) fun a hE=>Zg hE rfl (lkb rfl hb18) rfl (by decide) fun a hE=>Zg hE rfl (lkb rfl hb18) rfl (by decide) fun a hE=>Zg hE rfl (lkb rfl hb18) rfl (by decide) fun a hE=>YR hE rfl rfl (by decide) fun a hE=>YR hE rfl rfl (by decide) fun a hE=>YR hE rfl rfl (by decide) fun a hE=>YR hE rfl rfl (by decide) fun a hE=>Zg hE rfl (lkb rfl hb18) rfl (by decide) fun a hE=>ZB hE (lkb rfl hb18) rfl fun a hE=>Zj ?_
      obtain rfl:=Option.some.inj hl16
      refine Zi ?_
      exact ⟨hE.sub ⟨rfl,rfl,rfl,rfl,rfl,rfl,rfl,rfl,rfl,trivial⟩,hM⟩
     ·have hl16:=Zo hl16 hb18
      refine Zh hE (Zf hE rfl (lkb rfl hb18)) (by decide) rfl fun a hE=>Zh hE (Zf hE rfl (lkb rfl hb18)) (by decide) rfl fun a hE=>ZJ hE (Zf hE rfl (lkb rfl hb18)) (by decide) rfl rfl rfl fun a hE=>Zh hE (Zf hE rfl (lkb rfl hb18)) (by decide) rfl ?_; intro a hE
      refine ZO (r13 == s4.1) (fun hb20=>?_) (fun hb20=>?_)
      ·have hl16:=Zn hl16 hb20
       refine Zh hE (Zf hE rfl (lkb rfl hb20)) (by decide) rfl fun a hE=>Zh hE (Zf hE rfl (lkb rfl hb20)) (by decide) rfl ?_; intro a hE
       obtain ⟨r21,e22,hl16⟩:=bind_some hl16
       refine ZW hE (Zf hE rfl (lkb rfl hb20)) (by decide) rfl (cbm Tryz.func101) (zn _ s4.2.1 s4.2.2 r21 e22) ?_
       rintro v w a ⟨rfl,hK⟩ hE
       have hM:=hM.keep hK
       refine U5 hE (Zf hE rfl (lkb rfl hb20)) (by decide) rfl fun a hE=>WT hE (Zf hE rfl (lkb rfl hb18)) (by decide) (lkb rfl hb20) rfl fun a hE=>Zy hE (lkb rfl hb18) rfl fun a hE=>Zj ?_
       obtain rfl:=Option.some.inj hl16
       refine Zi ?_
       exact ⟨hE.sub ⟨rfl,rfl,rfl,rfl,rfl,rfl,rfl,rfl,rfl,trivial⟩,hM⟩
      ·have hl16:=Zo hl16 hb20
       refine Zg hE rfl (lkb rfl hb20) rfl (by decide) fun a hE=>Zg hE rfl (lkb rfl hb20) rfl (by decide) fun a hE=>Zg hE rfl (lkb rfl hb20) rfl (by decide) fun a hE=>Zg hE rfl (lkb rfl hb20) rfl (by decide) fun a hE=>Wl hE (Zf hE rfl (lkb rfl hb18)) (by decide) (lkb rfl hb20) rfl fun a hE=>Zy hE (lkb rfl hb18) rfl fun a hE=>Zj ?_
       obtain rfl:=Option.some.inj hl16
       refine Zi ?_
       exact ⟨hE.sub ⟨rfl,rfl,rfl,rfl,rfl,rfl,rfl,rfl,rfl,trivial⟩,hM⟩
    ·skip
     rintro a w ⟨hE,hM⟩
     refine Zm hE rfl ?_ ?_
     ·intro hb25
      have hF17:=Zn hF17 hb25
      refine wp_exit (Zs (Ys ?_))
      obtain rfl:=Option.some.inj hF17
      refine Zi ?_
      exact ⟨hE.sub ⟨rfl,rfl,rfl,rfl,rfl,rfl,rfl,trivial⟩,hM⟩
     ·intro hb25
      have hF17:=Zo hF17 hb25
      refine wp_skip (Zu (wp_seq (Zc (Zd hE rfl fun a hE=>Zd hE rfl fun a hE=>Zk hE rfl rfl rfl fun a hE=>Zk hE rfl rfl rfl fun a hE=>Ze ?_))))
      refine Zm hE rfl ?_ ?_
      ·intro hb27
       have hF17:=Zn hF17 hb27
       refine Zc (Zd hE rfl fun a hE=>Zb hE rfl fun a hE=>Ze (Zc (Zd hE rfl fun a hE=>Zb hE rfl fun a hE=>Ze ?_)))
       refine wp_exit (Zs (Ys ?_))
       obtain rfl:=Option.some.inj hF17
       refine Zi ?_
       exact ⟨hE.sub ⟨rfl,rfl,rfl,rfl,rfl,rfl,rfl,trivial⟩,hM⟩
      ·intro hb27
       have hF17:=Zo hF17 hb27
       refine wp_skip (Zu (Zc (Zd hE rfl fun a hE=>Zd hE rfl ?_))); intro a hE
       obtain ⟨r29,e30,hF17⟩:=bind_some hF17
       refine Zq hE rfl (cbm Tryz.func102) (Jl _ p1 v1_1 (hM.rdo hv1_1) s4.2.1 r29 e30) ?_
       rintro v w a ⟨u31,u32,rfl,hFr,hro33,hK⟩ hE
       have hM:=hM.add hK hFr
       refine Zd hE rfl fun a hE=>Zt hE Za ld rfl rfl fun a hE=>Zt hE Za ld rfl rfl fun a hE=>Zb hE rfl fun a hE=>Zb hE rfl fun a hE=>Ze (Zc (Zd hE rfl fun a hE=>Zd hE rfl fun a hE=>Zd hE rfl ?_)); intro a hE
       obtain ⟨r34,e35,hF17⟩:=bind_some hF17
       refine Zq hE rfl cb65 (Kg _ p0 r29.1 u31 hro33 p2 r34 e35) ?_
       rintro v w a ⟨rfl,hK⟩ hE
       have hM:=hM.keep hK
       have hro33:=JE hro33 hK
       refine Ze ?_
       obtain ⟨j36,hl37,hF38⟩:=bind_some hF17
       refine ZP (fun a w=>Env 79 a [(0,vI p0),(1,v1_1),(2,vI p2),(8,(vI (p1.length : Int))),(9,vI j36.2),(10,vI j36.1),(11,vI s4.2.1)] ∧ M (Old w0) w0 w []) ?_ ?_
       ·skip
        refine Zm hE rfl ?_ ?_
        ·intro hb39
         have hl37:=Zn hl37 hb39
         refine Zc (Zd hE rfl fun a hE=>Zb hE rfl fun a hE=>Ze (wp_region_lit (Zd hE rfl fun a hE=>Zb hE rfl fun a hE=>Zj ?_)))
         obtain rfl:=Option.some.inj hl37
         refine Zi ?_
         have hM:=M.fst (l:=[]) hM
         exact ⟨hE.sub ⟨rfl,rfl,rfl,rfl,rfl,rfl,rfl,trivial⟩,hM⟩
        ·intro hb39
         have hl37:=Zo hl37 hb39
         refine wp_skip ?_
         obtain rfl:=Option.some.inj hl37
         refine Zi ?_
         have hM:=M.fst (l:=[]) hM
         exact ⟨hE.sub ⟨rfl,rfl,rfl,rfl,rfl,rfl,rfl,trivial⟩,hM⟩
       ·skip
        rintro a w ⟨hE,hM⟩
        refine Yg ?_
        obtain rfl:=Option.some.inj hF38
        refine Zi ?_
        exact ⟨hE.sub ⟨rfl,rfl,rfl,rfl,rfl,rfl,rfl,trivial⟩,hM⟩
   ·skip
    rintro a w ⟨hE,hM⟩
    refine wp_region_lit (Zd hE rfl fun a hE=>Zk hE rfl rfl rfl fun a hE=>Zb hE rfl fun a hE=>Zj (Zi ?_))
    exact ⟨_,(ois hF12),hE.sub ⟨rfl,rfl,rfl,rfl,rfl,rfl,rfl,trivial⟩,hM⟩
  ·intro hb9
   have hs5:=Zo hs5 hb9
   refine wp_exit (Zs (Zs (Ys ?_)))
   obtain rfl:=hx6 _ (ois hs5)
   refine Zi ?_
   exact ⟨hE.sub ⟨rfl,rfl,rfl,rfl,rfl,trivial⟩,hM⟩
 ·skip
  rintro a w ⟨hE,hM⟩
  refine Zu (Zc (Zd hE rfl fun a hE=>Zd hE rfl ?_)); intro a hE
  obtain ⟨r44,e45,hF3⟩:=bind_some hF3
  refine Zq hE rfl (cbm Tryz.func102) (Jl _ p1 v1_1 (hM.rdo hv1_1) j1.2 r44 e45) ?_
  rintro v w a ⟨u46,u47,rfl,hFr,hro48,hK⟩ hE
  have hM:=hM.add hK hFr
  refine Zd hE rfl fun a hE=>Zt hE Za ld rfl rfl fun a hE=>Zt hE Za ld rfl rfl fun a hE=>Zb hE rfl fun a hE=>Zb hE rfl fun a hE=>Ze ?_
  obtain ⟨j49,hl50,hF51⟩:=bind_some hF3
  refine Zx (fun a w=>∃ (u52 : Value),Env 79 a [(6,u52),(7,vT j49.2)] ∧ M (Old w0) w0 w [osl NoB (j49.1 : List Int) u52]) ?_ ?_
  ·skip
   refine wp_region_lit (Zd hE rfl fun a hE=>Zd hE rfl fun a hE=>Zd hE rfl fun a hE=>Zk hE rfl rfl rfl fun a hE=>Zd hE rfl ?_); intro a hE
   refine ZO (decide (j1.1 > p2)) (fun hb54=>?_) (fun hb54=>?_)
   ·have hl50:=Zn hl50 hb54
    refine Zh hE (Zf hE rfl (lkb rfl hb54)) (by decide) rfl fun a hE=>Zh hE (Zf hE rfl (lkb rfl hb54)) (by decide) rfl fun a hE=>Zh hE (Zf hE rfl (lkb rfl hb54)) (by decide) rfl fun a hE=>XN hE (Zf hE rfl (lkb rfl hb54)) (by decide) rfl Tryz.underlying27 (hM.sl (pre:=[]) noB) fun a hE=>ZJ hE (Zf hE rfl (lkb rfl hb54)) (by decide) rfl rfl rfl fun a hE=>ZJ hE (Zf hE rfl (lkb rfl hb54)) (by decide) rfl rfl rfl fun a hE=>ZJ hE (Zf hE rfl (lkb rfl hb54)) (by decide) rfl rfl rfl fun a hE=>ZB hE (lkb rfl hb54) rfl fun a hE=>Zb hE rfl fun a hE=>Zb hE rfl fun a hE=>Zj ?_
    obtain rfl:=Option.some.inj hl50
    refine Zi ?_
    exact ⟨u47,hE.sub ⟨rfl,rfl,trivial⟩,hM⟩
   ·have hl50:=Zo hl50 hb54
    refine Zg hE rfl (lkb rfl hb54) rfl (by decide) fun a hE=>Zg hE rfl (lkb rfl hb54) rfl (by decide) fun a hE=>Zg hE rfl (lkb rfl hb54) rfl (by decide) fun a hE=>Zg hE rfl (lkb rfl hb54) rfl (by decide) fun a hE=>Zg hE rfl (lkb rfl hb54) rfl (by decide) fun a hE=>Zg hE rfl (lkb rfl hb54) rfl (by decide) fun a hE=>Zg hE rfl (lkb rfl hb54) rfl (by decide) fun a hE=>Zy hE (lkb rfl hb54) rfl fun a hE=>Zb hE rfl fun a hE=>Zb hE rfl fun a hE=>Zj ?_
    obtain rfl:=Option.some.inj hl50
    refine Zi ?_
    exact ⟨u47,hE.sub ⟨rfl,rfl,trivial⟩,hM⟩
  ·skip
   rintro a w ⟨u52,hE,hM⟩
   obtain rfl:=Option.some.inj hF51
   exact wp_ret (Z0 hE rfl (Zl hE rfl) (Zl hE rfl) ⟨_,rfl,u52,rfl,hM.outF (Z8 Yd),hM.kept⟩)
def WN (p0 : Int) (p1 : (List GShare)) (p2 : Int) : Option ((List Int) × Int) :=
 (W8 p0 p1 p2).bind fun r1=>if (r1 != 0) = true then (some ([],r1)) else ((Tg p0 p1 p2).bind fun r5=>if (!r5.2) = true then (some ([],4)) else (some (r5.1,0)))
theorem JY (w0 : World) (p0 : Int) (p1 : (List GShare)) (v1_1 : Value) (hv1_1 : Ro w0 p1 [v1_1]) (p2 : Int) (r : (List Int) × Int) (hF : WN p0 p1 p2 = some r) :
  Calls Tryz.prog 7 [vI p0,v1_1,vI p2].toArray w0 (fun en w'=>∃ v,en = .returned v ∧ (∃ (y1 : Value),v = (Value.tuple [y1,vI r.2].toArray) ∧ Fr w0 w' [osl NoB (r.1 : List Int) y1] ∧ Kept (Old w0) w0 w')):=by
 refine ce Tryz.func7 ?_
 intro a hE
 have hM:=M.start w0
 unfold WN at hF
 refine Zc (Zb hE rfl fun a hE=>Zb hE rfl fun a hE=>Ze (wp_seq (Zc (Zd hE rfl fun a hE=>Zd hE rfl fun a hE=>Zd hE rfl ?_)))); intro a hE
 obtain ⟨r1,e2,hF⟩:=bind_some hF
 refine Zq hE rfl cb46 (QM _ p0 p1 v1_1 (hM.rdo hv1_1) p2 r1 e2) ?_
 rintro v w a ⟨rfl,hK⟩ hE
 have hM:=hM.keep hK
 refine Zb hE rfl fun a hE=>Ze (Zc (Zd hE rfl fun a hE=>Zk hE rfl rfl rfl fun a hE=>Ze ?_))
 refine Zm hE rfl ?_ ?_
 ·intro hb3
  have hF:=Zn hF hb3
  refine Zc (Zd hE rfl fun a hE=>Zb hE rfl fun a hE=>Zb hE rfl fun a hE=>Ze ?_)
  have hM:=M.nilS (α:=Int) NoB noB hM
  obtain rfl:=Option.some.inj hF
  exact wp_ret (Zr (Z0 hE rfl (Zl hE rfl) (Zl hE rfl) ⟨_,rfl,(Value.slice none 0 0),rfl,hM.outF (Z8 Yd),hM.kept⟩))
 ·intro hb3
  have hF:=Zo hF hb3
  refine wp_skip (Zu (Zc (Zd hE rfl fun a hE=>Zd hE rfl fun a hE=>Zd hE rfl ?_))); intro a hE
  obtain ⟨r5,e6,hF⟩:=bind_some hF
  refine Zq hE rfl (cbm Tryz.func47) (Bn _ p0 p1 v1_1 (hM.rdo hv1_1) p2 r5 e6) ?_
  rintro v w a ⟨u7,rfl,hFr,hK⟩ hE
  have hM:=hM.add hK hFr
  refine Zd hE rfl fun a hE=>Zt hE Za ld rfl rfl fun a hE=>Zt hE Za ld rfl rfl fun a hE=>Zb hE rfl fun a hE=>Zb hE rfl fun a hE=>Ze (wp_seq (Zc (Zd hE rfl fun a hE=>Ve hE rfl fun a hE=>Ze ?_)))
  refine Zm hE rfl ?_ ?_
  ·intro hb8
   have hF:=Zn hF hb8
   refine Zc (Zb hE rfl fun a hE=>Zb hE rfl fun a hE=>Ze ?_)
   have hM:=M.nilS (α:=Int) NoB noB hM
   obtain rfl:=Option.some.inj hF
   have hM:=M.fst (l:=[_]) hM
   exact wp_ret (Zr (Z0 hE rfl (Zl hE rfl) (Zl hE rfl) ⟨_,rfl,(Value.slice none 0 0),rfl,hM.outF (Z8 Yd),hM.kept⟩))
  ·intro hb8
   have hF:=Zo hF hb8
   refine wp_skip (Zu (Zc (Zd hE rfl fun a hE=>Zb hE rfl fun a hE=>Zb hE rfl fun a hE=>Ze ?_)))
   obtain rfl:=Option.some.inj hF
   exact wp_ret (Z0 hE rfl (Zl hE rfl) (Zl hE rfl) ⟨_,rfl,u7,rfl,hM.outF (Z8 Yd),hM.kept⟩)
def V4 (p0 : (List Int)) (p1 : (List Int)) (s6 : Int) : Option (Fl Int (Fl Unit Bool)) :=
 if (decide (s6 < (p0.length : Int))) = true then (((idx p0 s6).bind fun x15=>(idx p1 s6).bind fun x18=>some (x15 != x18) : Option (Bool)).bind fun j11=>if j11 = true then (some (Fl.ex (Fl.ex false))) else (some (Fl.nx (wr (s6 + 1))))) else (some (Fl.ex (Fl.nx ())))
def Ux (p0 : (List Int)) (p1 : (List Int)) : Option (Bool) :=
 if ((p0.length : Int) != (p1.length : Int)) = true then (some false) else ((ZH (V4 p0 p1) 0).bind fun j2=>j2.el (fun s5=>some true) (fun r=>some r))
theorem Ag (w0 : World) (p0 : (List Int)) (v0_1 : Value) (hv0_1 : Ro w0 p0 [v0_1]) (p1 : (List Int)) (v1_1 : Value) (hv1_1 : Ro w0 p1 [v1_1]) (r : Bool) (hF : Ux p0 p1 = some r) :
  Calls Tryz.prog 8 [v0_1,v1_1].toArray w0 (Rt w0 (vT r)):=by
 refine ce Tryz.func8 ?_
 intro a hE
 have hM:=M.start w0
 unfold Ux at hF
 refine Zc (Zb hE rfl fun a hE=>Ze (wp_seq (Zc (Zd hE rfl fun a hE=>ZL hE rfl Tryz.underlying27 (hM.rd hv0_1) fun a hE=>Zd hE rfl fun a hE=>ZL hE rfl Tryz.underlying27 (hM.rd hv1_1) fun a hE=>Zk hE rfl rfl rfl fun a hE=>Ze ?_))))
 refine Zm hE rfl ?_ ?_
 ·intro hb1
  have hF:=Zn hF hb1
  refine Zc (Zb hE rfl fun a hE=>Ze ?_)
  obtain rfl:=Option.some.inj hF
  exact wp_ret (Zr (kr1 hE rfl rfl hM.kept))
 ·intro hb1
  have hF:=Zo hF hb1
  refine wp_skip (Zu (wp_seq (Zc (Zb hE rfl fun a hE=>Ze ?_))))
  obtain ⟨j2,hl3,hF4⟩:=bind_some hF
  refine ZP (fun a w=>∃ s5 : Unit,j2 = Fl.nx s5 ∧ Env 26 a [] ∧ M (Old w0) w0 w []) ?_ ?_
  ·skip
   refine wp_block ?_
   refine ZK (fun (s6 : Int) a w=>Env 26 a [(0,v0_1),(1,v1_1),(5,vI s6)] ∧ M (Old w0) w0 w []) hl3 ⟨hE.sub ⟨rfl,rfl,rfl,trivial⟩,hM⟩ ?_
   rintro s6 a w ⟨hE,hM⟩ o9 hs7 hx8
   unfold V4 at hs7
   refine wp_seq (Zc (Zd hE rfl fun a hE=>Zd hE rfl fun a hE=>ZL hE rfl Tryz.underlying27 (hM.rd hv0_1) fun a hE=>Zk hE rfl rfl rfl fun a hE=>Ze ?_))
   refine Zm hE rfl ?_ ?_
   ·intro hb10
    have hs7:=Zn hs7 hb10
    refine wp_skip (Zu (wp_seq (wp_block ?_)))
    obtain ⟨j11,hl12,hF13⟩:=bind_some hs7
    refine Zx (fun a w=>Env 26 a [(0,v0_1),(1,v1_1),(5,vI s6),(25,vT j11)] ∧ M (Old w0) w0 w []) ?_ ?_
    ·skip
     obtain ⟨x15,hi17,hl12⟩:=bix hl12
     obtain ⟨x18,hi20,hl12⟩:=bix hl12
     refine YA [17,18,19,20,21,22,23,24,25] Wb rfl rfl (by decide) rfl hE hM (qsP (fun z=>Zh z.E Za ld rfl (kr0 rfl)) (qsP (fun z=>Zh z.E Za ld rfl (kr0 rfl)) (qsP (fun z=>ZA z.E Za ld rfl rfl Tryz.underlying27 ty2 (z.M.rd hv0_1) hi17.1 (kr0 rfl)) (qsP (fun z=>ZE (v:=(vI x15)) z.E Za ld rfl ty2 rfl (ZS (z.M.rd hv0_1) hi17.2) (kr0 rfl)) (qsP (fun z=>Zh z.E Za ld rfl (kr0 rfl)) (qsP (fun z=>Zh z.E Za ld rfl (kr0 rfl)) (qsP (fun z=>ZA z.E Za ld rfl rfl Tryz.underlying27 ty2 (z.M.rd hv1_1) hi20.1 (kr0 rfl)) (qsP (fun z=>ZE (v:=(vI x18)) z.E Za ld rfl ty2 rfl (ZS (z.M.rd hv1_1) hi20.2) (kr0 rfl)) (qsP (fun z=>ZJ z.E Za ld rfl rfl rfl (kr0 rfl)) qs0))))))))) ?_
     ·intro a w u hE hM
      refine Zj ?_
      obtain rfl:=Option.some.inj hl12
      refine Zi ?_
      exact ⟨hE.sub ⟨rfl,rfl,rfl,rfl,trivial⟩,hM⟩
    ·skip
     rintro a w ⟨hE,hM⟩
     refine Zm hE rfl ?_ ?_
     ·intro hb22
      have hF13:=Zn hF13 hb22
      refine Zc (Zb hE rfl fun a hE=>Ze ?_)
      obtain rfl:=hx8 _ (ois hF13)
      obtain rfl:=Option.some.inj hF4
      exact wp_ret (Z4 (Zr (Zr (Z4 (Zr (Zr (kr1 hE rfl rfl hM.kept)))))))
     ·intro hb22
      have hF13:=Zo hF13 hb22
      refine wp_skip (Yg (Zu (wp_region_lit (Zd hE rfl fun a hE=>Zk hE rfl rfl rfl fun a hE=>Zb hE rfl fun a hE=>Zj (Zi ?_)))))
      exact ⟨_,(ois hF13),hE.sub ⟨rfl,rfl,rfl,trivial⟩,hM⟩
   ·intro hb10
    have hs7:=Zo hs7 hb10
    refine wp_exit (Zs (Zs (Ys ?_)))
    obtain rfl:=hx8 _ (ois hs7)
    refine Zi ?_
    exact ⟨(),rfl,hE.sub trivial,hM⟩
  ·skip
   rintro a w ⟨s5,ht,hE,hM⟩
   subst ht
   have hF4:=VQ hF4
   refine Zu (Zc (Zb hE rfl fun a hE=>Ze ?_))
   obtain rfl:=Option.some.inj hF4
   exact wp_ret (kr1 hE rfl rfl hM.kept)
def UZ (p0 : (List Int)) (p1 : Int) (s5 : Int) : Option (Fl Int (Fl Unit Bool)) :=
 if (decide (s5 < (p0.length : Int))) = true then ((idx p0 s5).bind fun x10=>if (x10 == p1) = true then (some (Fl.ex (Fl.ex true))) else (some (Fl.nx (wr (s5 + 1))))) else (some (Fl.ex (Fl.nx ())))
def Tq (p0 : (List Int)) (p1 : Int) : Option (Bool) :=
 (ZH (UZ p0 p1) 0).bind fun j1=>j1.el (fun s4=>some false) (fun r=>some r)
theorem zG (w0 : World) (p0 : (List Int)) (v0_1 : Value) (hv0_1 : Ro w0 p0 [v0_1]) (p1 : Int) (r : Bool) (hF : Tq p0 p1 = some r) :
  Calls Tryz.prog 9 [v0_1,vI p1].toArray w0 (Rt w0 (vT r)):=by
 refine ce Tryz.func9 ?_
 intro a hE
 have hM:=M.start w0
 unfold Tq at hF
 refine Zc (Zb hE rfl fun a hE=>Ze (wp_seq (Zc (Zb hE rfl fun a hE=>Ze ?_))))
 obtain ⟨j1,hl2,hF3⟩:=bind_some hF
 refine ZP (fun a w=>∃ s4 : Unit,j1 = Fl.nx s4 ∧ Env 18 a [] ∧ M (Old w0) w0 w []) ?_ ?_
 ·skip
  refine wp_block ?_
  refine ZK (fun (s5 : Int) a w=>Env 18 a [(0,v0_1),(1,vI p1),(5,vI s5)] ∧ M (Old w0) w0 w []) hl2 ⟨hE.sub ⟨rfl,rfl,rfl,trivial⟩,hM⟩ ?_
  rintro s5 a w ⟨hE,hM⟩ o8 hs6 hx7
  unfold UZ at hs6
  refine wp_seq (Zc (Zd hE rfl fun a hE=>Zd hE rfl fun a hE=>ZL hE rfl Tryz.underlying27 (hM.rd hv0_1) fun a hE=>Zk hE rfl rfl rfl fun a hE=>Ze ?_))
  refine Zm hE rfl ?_ ?_
  ·intro hb9
   have hs6:=Zn hs6 hb9
   refine wp_skip (Zu (wp_seq (wp_block (Zc (Zd hE rfl fun a hE=>Zd hE rfl ?_))))); intro a hE
   obtain ⟨x10,hi12,hs6⟩:=bix hs6
   refine ZG hE rfl rfl Tryz.underlying27 ty2 (hM.rd hv0_1) hi12.1 fun a hE=>ZX (v:=(vI x10)) hE rfl ty2 rfl (ZS (hM.rd hv0_1) hi12.2) fun a hE=>Zd hE rfl fun a hE=>Zk hE rfl rfl rfl fun a hE=>Ze ?_
   refine Zm hE rfl ?_ ?_
   ·intro hb13
    have hs6:=Zn hs6 hb13
    refine Zc (Zb hE rfl fun a hE=>Ze ?_)
    obtain rfl:=hx7 _ (ois hs6)
    obtain rfl:=Option.some.inj hF3
    exact wp_ret (Z4 (Zr (Zr (Z4 (Zr (Zr (kr1 hE rfl rfl hM.kept)))))))
   ·intro hb13
    have hs6:=Zo hs6 hb13
    refine wp_skip (Yg (Zu (wp_region_lit (Zd hE rfl fun a hE=>Zk hE rfl rfl rfl fun a hE=>Zb hE rfl fun a hE=>Zj (Zi ?_)))))
    exact ⟨_,(ois hs6),hE.sub ⟨rfl,rfl,rfl,trivial⟩,hM⟩
  ·intro hb9
   have hs6:=Zo hs6 hb9
   refine wp_exit (Zs (Zs (Ys ?_)))
   obtain rfl:=hx7 _ (ois hs6)
   refine Zi ?_
   exact ⟨(),rfl,hE.sub trivial,hM⟩
 ·skip
  rintro a w ⟨s4,ht,hE,hM⟩
  subst ht
  have hF3:=VQ hF3
  refine Zu (Zc (Zb hE rfl fun a hE=>Ze ?_))
  obtain rfl:=Option.some.inj hF3
  exact wp_ret (kr1 hE rfl rfl hM.kept)
def V2 (p0 : Int) (p1 : (List GShare)) (p2 : Int) : Option (Bool × Int) :=
 (YC p0 p1 p2).bind fun r1=>if (r1 != 0) = true then (some (false,r1)) else ((We p0 p1 p2).bind fun r4=>some (r4,0))
theorem Bz (w0 : World) (p0 : Int) (p1 : (List GShare)) (v1_1 : Value) (hv1_1 : Ro w0 p1 [v1_1]) (p2 : Int) (r : Bool × Int) (hF : V2 p0 p1 p2 = some r) :
  Calls Tryz.prog 10 [vI p0,v1_1,vI p2].toArray w0 (Rt w0 (Value.tuple [vT r.1,vI r.2].toArray)):=by
 refine ce Tryz.func10 ?_
 intro a hE
 have hM:=M.start w0
 unfold V2 at hF
 refine Zc (Zb hE rfl fun a hE=>Zb hE rfl fun a hE=>Ze (wp_seq (Zc (Zd hE rfl fun a hE=>Zd hE rfl fun a hE=>Zd hE rfl ?_)))); intro a hE
 obtain ⟨r1,e2,hF⟩:=bind_some hF
 refine Zq hE rfl cb40 (Wd _ p0 p1 v1_1 (hM.rdo hv1_1) p2 r1 e2) ?_
 rintro v w a ⟨rfl,hK⟩ hE
 have hM:=hM.keep hK
 refine Zb hE rfl fun a hE=>Ze (Zc (Zd hE rfl fun a hE=>Zk hE rfl rfl rfl fun a hE=>Ze ?_))
 refine Zm hE rfl ?_ ?_
 ·intro hb3
  have hF:=Zn hF hb3
  refine Zc (Zd hE rfl fun a hE=>Zb hE rfl fun a hE=>Zb hE rfl fun a hE=>Ze ?_)
  obtain rfl:=Option.some.inj hF
  exact wp_ret (Zr (Z0 hE rfl (Zl hE rfl) (Zl hE rfl) ⟨_,rfl,rfl,hM.kept⟩))
 ·intro hb3
  have hF:=Zo hF hb3
  refine wp_skip (Zu (Zc (Zd hE rfl fun a hE=>Zd hE rfl fun a hE=>Zd hE rfl ?_))); intro a hE
  obtain ⟨r4,e5,hF⟩:=bind_some hF
  refine Zq hE rfl cb44 (Qa _ p0 p1 v1_1 (hM.rdo hv1_1) p2 r4 e5) ?_
  rintro v w a ⟨rfl,hK⟩ hE
  have hM:=hM.keep hK
  refine Zb hE rfl fun a hE=>Zb hE rfl fun a hE=>Ze ?_
  obtain rfl:=Option.some.inj hF
  exact wp_ret (Z0 hE rfl (Zl hE rfl) (Zl hE rfl) ⟨_,rfl,rfl,hM.kept⟩)
def Uv (p0_0 : (List UInt8)) (p0 : (Int × Int)) : Option ((Int × Int) × Int) :=
 (Zw p0_0 (p0.1,p0.2) 20).bind fun r1=>if (r1.2 == 0) = true then ((Ya p0_0 (r1.1.1,r1.1.2) ([0,256,257,511,512,(-285),300,1099511627776] : List Int)).bind fun r6=>some ((r6.1.1,r6.1.2),r6.2)) else ((XV p0_0 (r1.1.1,r1.1.2)).bind fun r8=>some ((r8.1.1,r8.1.2),r8.2))
theorem Ah (St : Nat → Prop) (W w0 : World) (r0 : Item) (pb0 : Nat) (p0_0 : (List UInt8)) (v0_0 : Value) (hv0_0 : Rep.sat St W p0_0 [v0_0] []) (p0 : (Int × Int)) (hM : M St W w0 [raw pb0 (cat [[v0_0],[vI p0.1],[(Value.int .u64 p0.2)]]),r0]) (r : (Int × Int) × Int) (hF : Uv p0_0 p0 = some r) :
  Calls Tryz.prog 48 [(ptr pb0 0)].toArray w0 (fun en w'=>∃ v,en = .returned v ∧ (v = (vI r.2) ∧ M St W w' [raw pb0 (cat [[v0_0],[vI r.1.1],[(Value.int .u64 r.1.2)]]),r0])):=by
 refine ce Tryz.func48 ?_
 intro a hE
 unfold Uv at hF
 refine Zc (Zb hE rfl fun a hE=>Ze (wp_seq (Zc (Zd hE rfl ?_)))); intro a hE
 have hM:=M.tailP (m:=[_]) hM
 obtain ⟨r1,e2,hF⟩:=bind_some hF
 refine Zq hE rfl Tn (ZF _ _ _ _ pb0 p0_0 v0_0 hv0_0 (p0.1,p0.2) 20 hM r1 e2) ?_
 rintro v w a ⟨rfl,hM⟩ hE
 have hM:=M.tailU (m:=[_]) hM
 simp only [List.cons_append,List.nil_append] at hM
 refine Zk hE rfl rfl rfl fun a hE=>Ze ?_
 refine Zm hE rfl ?_ ?_
 ·intro hb3
  have hF:=Zn hF hb3
  refine Zc (Zd hE rfl fun a hE=>ZD (xs:=[.const (vI 0),.const (vI 256),.const (vI 257),.const (vI 511),.const (vI 512),.const (vI (-285)),.const (vI 300),.const (vI 1099511627776)]) (l:=([0,256,257,511,512,(-285),300,1099511627776] : List Int)) (vs:=[vI 0,vI 256,vI 257,vI 511,vI 512,(vI (-285)),vI 300,vI 1099511627776]) hE hM Za ld rfl rfl Tryz.underlying27 ty2 rfl (by decide) rfl ?_); intro u4 w a hM hE
  have hM:=M.tailP (m:=[_,_]) hM.pull1
  obtain ⟨r6,e7,hF⟩:=bind_some hF
  refine Zq hE rfl Bp (YG _ _ _ _ pb0 p0_0 v0_0 hv0_0 (r1.1.1,r1.1.2) ([0,256,257,511,512,(-285),300,1099511627776] : List Int) u4 hM r6 e7) ?_
  rintro v w a ⟨rfl,hM⟩ hE
  have hM:=M.tailU (m:=[_,_]) hM
  simp only [List.cons_append,List.nil_append] at hM
  refine Zb hE rfl fun a hE=>Ze ?_
  obtain rfl:=Option.some.inj hF
  have hM:=(hM.pull2.pull1.pull2).drop
  exact wp_ret (Zr (Yb hE rfl (Zl hE rfl) ⟨_,rfl,rfl,hM⟩))
 ·intro hb3
  have hF:=Zo hF hb3
  refine wp_skip (Zu (Zc (Zd hE rfl ?_))); intro a hE
  have hM:=M.tailP (m:=[_]) hM
  obtain ⟨r8,e9,hF⟩:=bind_some hF
  refine Zq hE rfl (cbm Tryz.func90) (Qw _ _ _ _ pb0 p0_0 v0_0 hv0_0 (r1.1.1,r1.1.2) hM r8 e9) ?_
  rintro v w a ⟨rfl,hM⟩ hE
  have hM:=M.tailU (m:=[_]) hM
  simp only [List.cons_append,List.nil_append] at hM
  refine Zb hE rfl fun a hE=>Ze ?_
  obtain rfl:=Option.some.inj hF
  exact wp_ret (Yb hE rfl (Zl hE rfl) ⟨_,rfl,rfl,hM⟩)
def Ws (p0 : (List UInt8)) : Option (Int × (List UInt8)) :=
 (Y1 p0).bind fun r1=>(Uv p0 (r1.1,r1.2)).bind fun r5=>(Zw p0 (r5.1.1,r5.1.2) 5).bind fun r7=>(Zw p0 (r7.1.1,r7.1.2) 12).bind fun r9=>(Ya p0 (r9.1.1,r9.1.2) ([wr (1 + r7.2),wr (1 + r9.2),0,13] : List Int)).bind fun r13=>(XB p0 (r13.1.1,r13.1.2) r13.2).bind fun r15=>some (r5.2,r15.2)
theorem JC (w0 : World) (p0 : (List UInt8)) (v0_1 : Value) (hv0_1 : Ro w0 p0 [v0_1]) (r : Int × (List UInt8)) (hF : Ws p0 = some r) :
  Calls Tryz.prog 11 [v0_1].toArray w0 (fun en w'=>∃ v,en = .returned v ∧ (∃ (y1 : Value),v = (Value.tuple [vI r.1,y1].toArray) ∧ Fr w0 w' [osl NoB (r.2 : List UInt8) y1] ∧ Kept (Old w0) w0 w')):=by
 refine ce Tryz.func11 ?_
 intro a hE
 have hM:=M.start w0
 unfold Ws at hF
 refine Zc (Zb hE rfl fun a hE=>Zb hE rfl fun a hE=>Ze (Zc (Zd hE rfl ?_))); intro a hE
 have hM:=M.tailP (m:=[]) hM
 obtain ⟨r1,e2,hF⟩:=bind_some hF
 refine Zq hE rfl kl (Vj _ _ _ _ p0 v0_1 hv0_1 hM r1 e2) ?_
 rintro v w a ⟨b3,rfl,hM⟩ hE
 have hM:=M.tailU (m:=[_]) hM
 simp only [List.cons_append,List.nil_append] at hM
 refine Zb hE rfl fun a hE=>Ze (Zc (Zd hE rfl ?_)); intro a hE
 have hM:=M.tailP (m:=[_]) hM
 obtain ⟨r5,e6,hF⟩:=bind_some hF
 refine Zq hE rfl (cbm Tryz.func48) (Ah _ _ _ _ b3 p0 v0_1 hv0_1 (r1.1,r1.2) hM r5 e6) ?_
 rintro v w a ⟨rfl,hM⟩ hE
 have hM:=M.tailU (m:=[_]) hM
 simp only [List.cons_append,List.nil_append] at hM
 refine Zd hE rfl fun a hE=>Zd hE rfl fun a hE=>Zd hE rfl ?_; intro a hE
 have hM:=M.tailP (m:=[_]) hM
 obtain ⟨r7,e8,hF⟩:=bind_some hF
 refine Zq hE rfl Tn (ZF _ _ _ _ b3 p0 v0_1 hv0_1 (r5.1.1,r5.1.2) 5 hM r7 e8) ?_
 rintro v w a ⟨rfl,hM⟩ hE
 have hM:=M.tailU (m:=[_]) hM
 simp only [List.cons_append,List.nil_append] at hM
 refine Zk hE rfl rfl rfl fun a hE=>Zd hE rfl ?_; intro a hE
 have hM:=M.tailP (m:=[_]) hM
 obtain ⟨r9,e10,hF⟩:=bind_some hF
 refine Zq hE rfl Tn (ZF _ _ _ _ b3 p0 v0_1 hv0_1 (r7.1.1,r7.1.2) 12 hM r9 e10) ?_
 rintro v w a ⟨rfl,hM⟩ hE
 have hM:=M.tailU (m:=[_]) hM
 simp only [List.cons_append,List.nil_append] at hM
 refine Zk hE rfl rfl rfl fun a hE=>ZD (xs:=[.tmp 13,.tmp 16,.const (vI 0),.const (vI 13)]) (l:=([wr (1 + r7.2),wr (1 + r9.2),0,13] : List Int)) (vs:=[(vI (wr (1 + r7.2))),(vI (wr (1 + r9.2))),vI 0,vI 13]) hE hM Za ld rfl rfl Tryz.underlying27 ty2 rfl (by decide) rfl ?_; intro u11 w a hM hE
 have hM:=M.tailP (m:=[_,_]) hM.pull1
 obtain ⟨r13,e14,hF⟩:=bind_some hF
 refine Zq hE rfl Bp (YG _ _ _ _ b3 p0 v0_1 hv0_1 (r9.1.1,r9.1.2) ([wr (1 + r7.2),wr (1 + r9.2),0,13] : List Int) u11 hM r13 e14) ?_
 rintro v w a ⟨rfl,hM⟩ hE
 have hM:=M.tailU (m:=[_,_]) hM
 simp only [List.cons_append,List.nil_append] at hM
 have hM:=M.tailP (m:=[_]) hM
 obtain ⟨r15,e16,hF⟩:=bind_some hF
 refine Zq hE rfl (cbm Tryz.func49) (Qh _ _ _ _ b3 p0 v0_1 hv0_1 (r13.1.1,r13.1.2) r13.2 hM r15 e16) ?_
 rintro u17 w a ⟨_,rfl,hM⟩ hE
 have hM:=M.tailU (m:=[_,_]) hM
 simp only [List.cons_append,List.nil_append] at hM
 refine Zb hE rfl fun a hE=>Zb hE rfl fun a hE=>Ze ?_
 obtain rfl:=Option.some.inj hF
 have hM:=M.fst (l:=[_]) hM.pull1
 exact wp_ret (Z0 hE rfl (Zl hE rfl) (Zl hE rfl) ⟨_,rfl,u17,rfl,hM.outF (Z8 Yd),hM.kept⟩)
def X9 (p0 : (List UInt8)) : Option (Int) :=
 some (p0.length : Int)
theorem QN (w0 : World) (p0 : (List UInt8)) (v0_1 : Value) (hv0_1 : Ro w0 p0 [v0_1]) (r : Int) (hF : X9 p0 = some r) :
  Calls Tryz.prog 53 [v0_1].toArray w0 (Rt w0 (vI r)):=by
 refine ce Tryz.func53 ?_
 intro a hE
 have hM:=M.start w0
 unfold X9 at hF
 refine Zc (Zb hE rfl fun a hE=>Ze (Zc (Zd hE rfl fun a hE=>ZL hE rfl Tryz.underlying22 (hM.rd hv0_1) fun a hE=>Zb hE rfl fun a hE=>Ze ?_)))
 obtain rfl:=Option.some.inj hF
 exact wp_ret (kr1 hE rfl rfl hM.kept)
def Vf (p0 : (List UInt8)) : Option (Bool) :=
 ((Xl p0).bind fun r4=>if r4 = true then ((WF p0 0).bind fun r7=>some (decide (r7 < 0))) else (some false) : Option (Bool)).bind fun j1=>some j1
theorem Hh (w0 : World) (p0 : (List UInt8)) (v0_1 : Value) (hv0_1 : Ro w0 p0 [v0_1]) (r : Bool) (hF : Vf p0 = some r) :
  Calls Tryz.prog 54 [v0_1].toArray w0 (Rt w0 (vT r)):=by
 refine ce Tryz.func54 ?_
 intro a hE
 have hM:=M.start w0
 unfold Vf at hF
 refine Zc (Zb hE rfl fun a hE=>Ze ?_)
 obtain ⟨j1,hl2,hF3⟩:=bind_some hF
 refine Zx (fun a w=>Env 10 a [(2,vT j1)] ∧ M (Old w0) w0 w []) ?_ ?_
 ·skip
  refine wp_region_lit (Zd hE rfl ?_); intro a hE
  obtain ⟨r4,e5,hl2⟩:=bind_some hl2
  refine Zq hE rfl cb61 (Tl _ p0 v0_1 (hM.rdo hv0_1) r4 e5) ?_
  rintro v w a ⟨rfl,hK⟩ hE
  have hM:=hM.keep hK
  refine Zd hE rfl ?_; intro a hE
  refine ZO r4 (fun hb6=>?_) (fun hb6=>?_)
  ·have hl2:=Zn hl2 hb6
   refine Zh hE (Zf hE rfl (lkb rfl hb6)) (by decide) rfl ?_; intro a hE
   obtain ⟨r7,e8,hl2⟩:=bind_some hl2
   refine ZW hE (Zf hE rfl (lkb rfl hb6)) (by decide) rfl (cbm Tryz.func104) (QW _ p0 v0_1 (hM.rdo hv0_1) 0 r7 e8) ?_
   rintro v w a ⟨rfl,hK⟩ hE
   have hM:=hM.keep hK
   refine ZJ hE (Zf hE rfl (lkb rfl hb6)) (by decide) rfl rfl rfl fun a hE=>ZB hE (lkb rfl hb6) rfl fun a hE=>Zb hE rfl fun a hE=>Zj ?_
   obtain rfl:=Option.some.inj hl2
   refine Zi ?_
   exact ⟨hE.sub ⟨rfl,trivial⟩,hM⟩
  ·have hl2:=Zo hl2 hb6
   refine Zg hE rfl (lkb rfl hb6) rfl (by decide) fun a hE=>Zg hE rfl (lkb rfl hb6) rfl (by decide) fun a hE=>Zg hE rfl (lkb rfl hb6) rfl (by decide) fun a hE=>Zy hE (lkb rfl hb6) rfl fun a hE=>Zb hE rfl fun a hE=>Zj ?_
   obtain rfl:=Option.some.inj hl2
   refine Zi ?_
   exact ⟨hE.sub ⟨rfl,trivial⟩,hM⟩
 ·skip
  rintro a w ⟨hE,hM⟩
  obtain rfl:=Option.some.inj hF3
  exact wp_ret (kr1 hE rfl rfl hM.kept)
def VF (p0 : Int) (p1 : (List UInt8)) (x29 : UInt8) (s35 : Int × UInt8) : Option (Fl (Int × UInt8) UInt8) :=
 if (decide (s35.1 < (p1.length : Int))) = true then (((idx p1 s35.1).bind fun x43=>(if (x43 != x29) = true then ((Y4 p0 (x29 ^^^ x43)).bind fun r50=>(ZM p0 x43 r50).bind fun r52=>(ZM p0 s35.2 r52).bind fun r54=>some r54) else (some s35.2) : Option (UInt8)).bind fun j46=>some j46 : Option (UInt8)).bind fun j40=>some (Fl.nx (wr (s35.1 + 1),j40))) else (some (Fl.ex s35.2))
def WG (p0 : Int) (p1 : (List UInt8)) (s22 : Int × (List UInt8)) : Option (Fl (Int × (List UInt8)) (List UInt8)) :=
 if (decide (s22.1 < (p1.length : Int))) = true then ((idx p1 s22.1).bind fun x29=>(ZH (VF p0 p1 x29) (0,1)).bind fun j32=>(app 1 s22.2 ([j32] : List UInt8)).bind fun l62=>some (Fl.nx (wr (s22.1 + 1),(s22.2 ++ ([j32] : List UInt8))))) else (some (Fl.ex s22.2))
def Ug (p0 : Int) (p1 : (List UInt8)) : Option ((List UInt8) × Int) :=
 (WC p0).bind fun r1=>if (!r1) = true then (some ([],1)) else ((X9 p1).bind fun r5=>(YQ r5 1 12).bind fun r7=>if (!r7) = true then (some ([],2)) else ((Vf p1).bind fun r11=>if (!r11) = true then (some ([],5)) else ((ZH (WG p0 p1) (0,([] : List UInt8))).bind fun j17=>some (j17,0))))
theorem BQ (w0 : World) (p0 : Int) (p1 : (List UInt8)) (v1_1 : Value) (hv1_1 : Ro w0 p1 [v1_1]) (r : (List UInt8) × Int) (hF : Ug p0 p1 = some r) :
  Calls Tryz.prog 12 [vI p0,v1_1].toArray w0 (fun en w'=>∃ v,en = .returned v ∧ (∃ (y1 : Value),v = (Value.tuple [y1,vI r.2].toArray) ∧ Fr w0 w' [osl NoB (r.1 : List UInt8) y1] ∧ Kept (Old w0) w0 w')):=by
 refine ce Tryz.func12 ?_
 intro a hE
 have hM:=M.start w0
 unfold Ug at hF
 refine Zc (Zb hE rfl fun a hE=>Zb hE rfl fun a hE=>Ze (wp_seq (wp_block (Zc (Zd hE rfl ?_))))); intro a hE
 obtain ⟨r1,e2,hF⟩:=bind_some hF
 refine Zq hE rfl cb51 (TX _ p0 r1 e2) ?_
 rintro v w a ⟨rfl,hK⟩ hE
 have hM:=hM.keep hK
 refine Ve hE rfl fun a hE=>Zb hE rfl fun a hE=>Ze ?_
 refine Zm hE rfl ?_ ?_
 ·intro hb3
  have hF:=Zn hF hb3
  refine Zc (Zb hE rfl fun a hE=>Zb hE rfl fun a hE=>Ze ?_)
  have hM:=M.nilS (α:=UInt8) NoB noB hM
  obtain rfl:=Option.some.inj hF
  exact wp_ret (Z4 (Zr (Z0 hE rfl (Zl hE rfl) (Zl hE rfl) ⟨_,rfl,(Value.slice none 0 0),rfl,hM.outF (Z8 Yd),hM.kept⟩)))
 ·intro hb3
  have hF:=Zo hF hb3
  refine Zc (Zd hE rfl ?_); intro a hE
  obtain ⟨r5,e6,hF⟩:=bind_some hF
  refine Zq hE rfl (cbm Tryz.func53) (QN _ p1 v1_1 (hM.rdo hv1_1) r5 e6) ?_
  rintro v w a ⟨rfl,hK⟩ hE
  have hM:=hM.keep hK
  obtain ⟨r7,e8,hF⟩:=bind_some hF
  refine Zq hE rfl cb52 (Un _ r5 1 12 r7 e8) ?_
  rintro v w a ⟨rfl,hK⟩ hE
  have hM:=hM.keep hK
  refine Ve hE rfl fun a hE=>Zb hE rfl fun a hE=>Ze ?_
  refine Zm hE rfl ?_ ?_
  ·intro hb9
   have hF:=Zn hF hb9
   refine Zc (Zb hE rfl fun a hE=>Zb hE rfl fun a hE=>Ze ?_)
   have hM:=M.nilS (α:=UInt8) NoB noB hM
   obtain rfl:=Option.some.inj hF
   exact wp_ret (Z4 (Zr (Z0 hE rfl (Zl hE rfl) (Zl hE rfl) ⟨_,rfl,(Value.slice none 0 0),rfl,hM.outF (Z8 Yd),hM.kept⟩)))
  ·intro hb9
   have hF:=Zo hF hb9
   refine Zc (Zd hE rfl ?_); intro a hE
   obtain ⟨r11,e12,hF⟩:=bind_some hF
   refine Zq hE rfl (cbm Tryz.func54) (Hh _ p1 v1_1 (hM.rdo hv1_1) r11 e12) ?_
   rintro v w a ⟨rfl,hK⟩ hE
   have hM:=hM.keep hK
   refine Ve hE rfl fun a hE=>Zb hE rfl fun a hE=>Ze ?_
   refine Zm hE rfl ?_ ?_
   ·intro hb13
    have hF:=Zn hF hb13
    refine Zc (Zb hE rfl fun a hE=>Zb hE rfl fun a hE=>Ze ?_)
    have hM:=M.nilS (α:=UInt8) NoB noB hM
    obtain rfl:=Option.some.inj hF
    exact wp_ret (Z4 (Zr (Z0 hE rfl (Zl hE rfl) (Zl hE rfl) ⟨_,rfl,(Value.slice none 0 0),rfl,hM.outF (Z8 Yd),hM.kept⟩)))
   ·intro hb13
    have hF:=Zo hF hb13
    refine wp_skip (Yg (Zu (Zc (ZD (xs:=[]) (l:=([] : List UInt8)) (vs:=[]) hE hM Za ld rfl rfl Tryz.underlying22 ty5 rfl (by decide) rfl fun u15 w a hM hE=>Zb hE rfl fun a hE=>Ze (wp_seq (Zc (Zd hE rfl fun a hE=>ZL hE rfl Tryz.underlying22 (hM.rd hv1_1) fun a hE=>Zd hE rfl fun a hE=>Ze ?_)))))))
    obtain ⟨j17,hl18,hF19⟩:=bind_some hF
    refine ZP (fun a w=>∃ (u20 : Value),Env 59 a [(6,u20)] ∧ M (Old w0) w0 w [osl NoB (j17 : List UInt8) u20]) ?_ ?_
    ·skip
     refine wp_block ?_
     refine ZK (fun (s22 : Int × (List UInt8)) a w=>∃ (u23 : Value),Env 59 a [(0,vI p0),(1,v1_1),(6,u23),(26,v1_1),(27,(vI (p1.length : Int))),(28,vI s22.1)] ∧ M (Old w0) w0 w [osl NoB (s22.2 : List UInt8) u23]) hl18 ⟨u15,hE.sub ⟨rfl,rfl,rfl,rfl,rfl,rfl,trivial⟩,hM⟩ ?_
     rintro s22 a w ⟨u23,hE,hM⟩ o27 hs25 hx26
     unfold WG at hs25
     refine Zc (Zk hE rfl rfl rfl fun a hE=>Ze (wp_seq ?_))
     refine Zm hE rfl ?_ ?_
     ·intro hb28
      have hs25:=Zn hs25 hb28
      refine wp_skip (Zu (wp_seq (wp_block (Zc ?_))))
      obtain ⟨x29,hi31,hs25⟩:=bix hs25
      refine ZG hE rfl rfl Tryz.underlying22 ty5 (hM.rd hv1_1) hi31.1 fun a hE=>ZX (v:=(vB x29)) hE rfl ty5 rfl (ZS (hM.rd hv1_1) hi31.2) fun a hE=>Zb hE rfl fun a hE=>Ze (Zc (Zb hE rfl fun a hE=>Ze (wp_seq (Zc (Zd hE rfl fun a hE=>ZL hE rfl Tryz.underlying22 (hM.rd hv1_1) fun a hE=>Zd hE rfl fun a hE=>Ze ?_)))))
      obtain ⟨j32,hl33,hF34⟩:=bind_some hs25
      refine ZP (fun a w=>Env 59 a [(0,vI p0),(1,v1_1),(6,u23),(9,vB j32),(26,v1_1),(27,(vI (p1.length : Int))),(28,vI s22.1)] ∧ M (Old w0) w0 w [osl NoB (s22.2 : List UInt8) u23]) ?_ ?_
      ·skip
       refine wp_block ?_
       refine ZK (fun (s35 : Int × UInt8) a w=>Env 59 a [(0,vI p0),(1,v1_1),(6,u23),(8,vB x29),(9,vB s35.2),(26,v1_1),(27,(vI (p1.length : Int))),(28,vI s22.1),(32,v1_1),(33,(vI (p1.length : Int))),(34,vI s35.1)] ∧ M (Old w0) w0 w [osl NoB (s22.2 : List UInt8) u23]) hl33 ⟨hE.sub ⟨rfl,rfl,rfl,rfl,rfl,rfl,rfl,rfl,rfl,rfl,rfl,trivial⟩,hM⟩ ?_
       rintro s35 a w ⟨hE,hM⟩ o38 hs36 hx37
       unfold VF at hs36
       refine Zc (Zk hE rfl rfl rfl fun a hE=>Ze (wp_seq ?_))
       refine Zm hE rfl ?_ ?_
       ·intro hb39
        have hs36:=Zn hs36 hb39
        refine wp_skip (Zu ?_)
        obtain ⟨j40,hl41,hF42⟩:=bind_some hs36
        refine Zx (fun a w=>Env 59 a [(0,vI p0),(1,v1_1),(6,u23),(8,vB x29),(9,vB j40),(26,v1_1),(27,(vI (p1.length : Int))),(28,vI s22.1),(32,v1_1),(33,(vI (p1.length : Int))),(34,vI s35.1)] ∧ M (Old w0) w0 w [osl NoB (s22.2 : List UInt8) u23]) ?_ ?_
        ·skip
         refine wp_block (Zc ?_)
         obtain ⟨x43,hi45,hl41⟩:=bix hl41
         refine ZG hE rfl rfl Tryz.underlying22 ty5 (hM.rd hv1_1) hi45.1 fun a hE=>ZX (v:=(vB x43)) hE rfl ty5 rfl (ZS (hM.rd hv1_1) hi45.2) fun a hE=>Zb hE rfl fun a hE=>Ze (Zc (Zd hE rfl fun a hE=>Zd hE rfl fun a hE=>Zk hE rfl rfl (Kd x43 x29) fun a hE=>Ze ?_))
         obtain ⟨j46,hl47,hF48⟩:=bind_some hl41
         refine ZP (fun a w=>Env 59 a [(0,vI p0),(1,v1_1),(6,u23),(8,vB x29),(9,vB j46),(26,v1_1),(27,(vI (p1.length : Int))),(28,vI s22.1),(32,v1_1),(33,(vI (p1.length : Int))),(34,vI s35.1)] ∧ M (Old w0) w0 w [osl NoB (s22.2 : List UInt8) u23]) ?_ ?_
         ·skip
          refine Zm hE rfl ?_ ?_
          ·intro hb49
           have hl47:=Zn hl47 hb49
           refine wp_region_lit (Zd hE rfl fun a hE=>Zd hE rfl fun a hE=>Zd hE rfl fun a hE=>Zd hE rfl fun a hE=>Zd hE rfl fun a hE=>Zd hE rfl fun a hE=>Zd hE rfl fun a hE=>Zk hE rfl rfl (Ur x29 x43) ?_); intro a hE
           obtain ⟨r50,e51,hl47⟩:=bind_some hl47
           refine Zq hE rfl cb56 (U6 _ p0 (x29 ^^^ x43) r50 e51) ?_
           rintro v w a ⟨rfl,hK⟩ hE
           have hM:=hM.keep hK
           obtain ⟨r52,e53,hl47⟩:=bind_some hl47
           refine Zq hE rfl An (Z5 _ p0 x43 r50 r52 e53) ?_
           rintro v w a ⟨rfl,hK⟩ hE
           have hM:=hM.keep hK
           obtain ⟨r54,e55,hl47⟩:=bind_some hl47
           refine Zq hE rfl An (Z5 _ p0 s35.2 r52 r54 e55) ?_
           rintro v w a ⟨rfl,hK⟩ hE
           have hM:=hM.keep hK
           refine Zb hE rfl fun a hE=>Zj ?_
           obtain rfl:=Option.some.inj hl47
           refine Zi ?_
           exact ⟨hE.sub ⟨rfl,rfl,rfl,rfl,rfl,rfl,rfl,rfl,rfl,rfl,rfl,trivial⟩,hM⟩
          ·intro hb49
           have hl47:=Zo hl47 hb49
           refine wp_skip ?_
           obtain rfl:=Option.some.inj hl47
           refine Zi ?_
           exact ⟨hE.sub ⟨rfl,rfl,rfl,rfl,rfl,rfl,rfl,rfl,rfl,rfl,rfl,trivial⟩,hM⟩
         ·skip
          rintro a w ⟨hE,hM⟩
          refine Yg ?_
          obtain rfl:=Option.some.inj hF48
          refine Zi ?_
          exact ⟨hE.sub ⟨rfl,rfl,rfl,rfl,rfl,rfl,rfl,rfl,rfl,rfl,rfl,trivial⟩,hM⟩
        ·skip
         rintro a w ⟨hE,hM⟩
         refine wp_region_lit (Zk hE rfl rfl rfl fun a hE=>Zd hE rfl fun a hE=>Zj (Zi ?_))
         exact ⟨_,(ois hF42),hE.sub ⟨rfl,rfl,rfl,rfl,rfl,rfl,rfl,rfl,rfl,rfl,rfl,trivial⟩,hM⟩
       ·intro hb39
        have hs36:=Zo hs36 hb39
        refine wp_exit (Zs (Zs (Ys ?_)))
        obtain rfl:=hx37 _ (ois hs36)
        refine Zi ?_
        exact ⟨hE.sub ⟨rfl,rfl,rfl,rfl,rfl,rfl,rfl,trivial⟩,hM⟩
      ·skip
       rintro a w ⟨hE,hM⟩
       refine Zu (wp_region_lit (Zd hE rfl fun a hE=>Zd hE rfl fun a hE=>ZD (xs:=[.tmp 54]) (l:=([j32] : List UInt8)) (vs:=[vB j32]) hE hM Za ld rfl rfl Tryz.underlying22 ty5 rfl (by decide) rfl ?_)); intro u60 w a hM hE
       obtain ⟨l62,e63,hF34⟩:=bind_some hF34
       obtain ⟨e66,rfl⟩:=ZY e63
       have hM:=hM.pull1
       refine Z9 hE hM Za ld rfl rfl (hM.sl (pre:=[_]) noB) Tryz.underlying22 ty5 rfl (by decide) e66 fun u64 w a hM hE=>Zb hE rfl fun a hE=>Zj (Yg (Zu (wp_region_lit (Zk hE rfl rfl rfl fun a hE=>Zd hE rfl fun a hE=>Zj (Zi ?_)))))
       have hM:=M.fst (l:=[_]) hM
       exact ⟨_,(ois hF34),u64,hE.sub ⟨rfl,rfl,rfl,rfl,rfl,rfl,trivial⟩,hM⟩
     ·intro hb28
      have hs25:=Zo hs25 hb28
      refine wp_exit (Zs (Zs (Ys ?_)))
      obtain rfl:=hx26 _ (ois hs25)
      refine Zi ?_
      exact ⟨u23,hE.sub ⟨rfl,trivial⟩,hM⟩
    ·skip
     rintro a w ⟨u20,hE,hM⟩
     refine Zu (Zc (Zd hE rfl fun a hE=>Zb hE rfl fun a hE=>Zb hE rfl fun a hE=>Ze ?_))
     obtain rfl:=Option.some.inj hF19
     exact wp_ret (Z0 hE rfl (Zl hE rfl) (Zl hE rfl) ⟨_,rfl,u20,rfl,hM.outF (Z8 Yd),hM.kept⟩)
def Vg (p0 : Int) (p1 : (List UInt8)) (s8 : (List UInt8) × Int) (s18 : UInt8 × Int) : Option (Fl (UInt8 × Int) UInt8) :=
 if (decide (s18.2 < (p1.length : Int))) = true then (((if (s18.2 != s8.2) = true then ((idx p1 s18.2).bind fun x31=>(idx p1 s8.2).bind fun x34=>(idx p1 s18.2).bind fun x37=>(UG p0 (x34 ^^^ x37)).bind fun r40=>(Yx p0 x31 r40).bind fun r42=>(Yx p0 s18.1 r42).bind fun r44=>some r44) else (some s18.1) : Option (UInt8)).bind fun j26=>some j26 : Option (UInt8)).bind fun j23=>some (Fl.nx (j23,wr (s18.2 + 1)))) else (some (Fl.ex s18.1))
def Vi (p0 : Int) (p1 : (List UInt8)) (s8 : (List UInt8) × Int) : Option (Fl ((List UInt8) × Int) (List UInt8)) :=
 if (decide (s8.2 < (p1.length : Int))) = true then ((ZH (Vg p0 p1 s8) (1,0)).bind fun j15=>(app 1 s8.1 ([j15] : List UInt8)).bind fun l52=>some (Fl.nx ((s8.1 ++ ([j15] : List UInt8)),wr (s8.2 + 1)))) else (some (Fl.ex s8.1))
def VI (p0 : Int) (p1 : (List UInt8)) : Option ((List UInt8)) :=
 (ZH (Vi p0 p1) (([] : List UInt8),0)).bind fun j3=>some j3
theorem HV (w0 : World) (p0 : Int) (p1 : (List UInt8)) (v1_1 : Value) (hv1_1 : Ro w0 p1 [v1_1]) (r : (List UInt8)) (hF : VI p0 p1 = some r) :
  Calls Tryz.prog 59 [vI p0,v1_1].toArray w0 (fun en w'=>∃ v,en = .returned v ∧ (∃ (y1 : Value),v = y1 ∧ Fr w0 w' [osl NoB (r : List UInt8) y1] ∧ Kept (Old w0) w0 w')):=by
 refine ce Tryz.func59 ?_
 intro a hE
 have hM:=M.start w0
 unfold VI at hF
 refine Zc (Zb hE rfl fun a hE=>Ze (Zc (ZD (xs:=[]) (l:=([] : List UInt8)) (vs:=[]) hE hM Za ld rfl rfl Tryz.underlying22 ty5 rfl (by decide) rfl fun u1 w a hM hE=>Zb hE rfl fun a hE=>Ze (wp_seq (Zc (Zb hE rfl fun a hE=>Ze ?_))))))
 obtain ⟨j3,hl4,hF5⟩:=bind_some hF
 refine ZP (fun a w=>∃ (u6 : Value),Env 50 a [(5,u6)] ∧ M (Old w0) w0 w [osl NoB (j3 : List UInt8) u6]) ?_ ?_
 ·skip
  refine wp_block ?_
  refine ZK (fun (s8 : (List UInt8) × Int) a w=>∃ (u9 : Value),Env 50 a [(0,vI p0),(1,v1_1),(5,u9),(6,vI s8.2)] ∧ M (Old w0) w0 w [osl NoB (s8.1 : List UInt8) u9]) hl4 ⟨u1,hE.sub ⟨rfl,rfl,rfl,rfl,trivial⟩,hM⟩ ?_
  rintro s8 a w ⟨u9,hE,hM⟩ o13 hs11 hx12
  unfold Vi at hs11
  refine wp_seq (Zc (Zd hE rfl fun a hE=>Zd hE rfl fun a hE=>ZL hE rfl Tryz.underlying22 (hM.rd hv1_1) fun a hE=>Zk hE rfl rfl rfl fun a hE=>Ze ?_))
  refine Zm hE rfl ?_ ?_
  ·intro hb14
   have hs11:=Zn hs11 hb14
   refine wp_skip (Zu (wp_seq (wp_block (Zc (Zb hE rfl fun a hE=>Ze (wp_seq (Zc (Zb hE rfl fun a hE=>Ze ?_))))))))
   obtain ⟨j15,hl16,hF17⟩:=bind_some hs11
   refine ZP (fun a w=>Env 50 a [(0,vI p0),(1,v1_1),(5,u9),(6,vI s8.2),(7,vB j15)] ∧ M (Old w0) w0 w [osl NoB (s8.1 : List UInt8) u9]) ?_ ?_
   ·skip
    refine wp_block ?_
    refine ZK (fun (s18 : UInt8 × Int) a w=>Env 50 a [(0,vI p0),(1,v1_1),(5,u9),(6,vI s8.2),(7,vB s18.1),(8,vI s18.2)] ∧ M (Old w0) w0 w [osl NoB (s8.1 : List UInt8) u9]) hl16 ⟨hE.sub ⟨rfl,rfl,rfl,rfl,rfl,rfl,trivial⟩,hM⟩ ?_
    rintro s18 a w ⟨hE,hM⟩ o21 hs19 hx20
    unfold Vg at hs19
    refine wp_seq (Zc (Zd hE rfl fun a hE=>Zd hE rfl fun a hE=>ZL hE rfl Tryz.underlying22 (hM.rd hv1_1) fun a hE=>Zk hE rfl rfl rfl fun a hE=>Ze ?_))
    refine Zm hE rfl ?_ ?_
    ·intro hb22
     have hs19:=Zn hs19 hb22
     refine wp_skip (Zu ?_)
     obtain ⟨j23,hl24,hF25⟩:=bind_some hs19
     refine Zx (fun a w=>Env 50 a [(0,vI p0),(1,v1_1),(5,u9),(6,vI s8.2),(7,vB j23),(8,vI s18.2)] ∧ M (Old w0) w0 w [osl NoB (s8.1 : List UInt8) u9]) ?_ ?_
     ·skip
      refine wp_block (Zc (Zd hE rfl fun a hE=>Zd hE rfl fun a hE=>Zk hE rfl rfl rfl fun a hE=>Ze ?_))
      obtain ⟨j26,hl27,hF28⟩:=bind_some hl24
      refine ZP (fun a w=>Env 50 a [(0,vI p0),(1,v1_1),(5,u9),(6,vI s8.2),(7,vB j26),(8,vI s18.2)] ∧ M (Old w0) w0 w [osl NoB (s8.1 : List UInt8) u9]) ?_ ?_
      ·skip
       refine Zm hE rfl ?_ ?_
       ·intro hb29
        have hl27:=Zn hl27 hb29
        obtain ⟨x31,hi33,hl27⟩:=bix hl27
        obtain ⟨x34,hi36,hl27⟩:=bix hl27
        obtain ⟨x37,hi39,hl27⟩:=bix hl27
        obtain ⟨r40,e41,hl27⟩:=bind_some hl27
        obtain ⟨r42,e43,hl27⟩:=bind_some hl27
        obtain ⟨r44,e45,hl27⟩:=bind_some hl27
        refine YA [25,26,27,28,29,30,31,32,33,34,35,36,37,38,39,40,41,42,43,44] Wb rfl rfl (by decide) rfl hE hM (qsP (fun z=>Zh z.E Za ld rfl (kr0 rfl)) (qsP (fun z=>Zh z.E Za ld rfl (kr0 rfl)) (qsP (fun z=>Zh z.E Za ld rfl (kr0 rfl)) (qsP (fun z=>Zh z.E Za ld rfl (kr0 rfl)) (qsP (fun z=>Zh z.E Za ld rfl (kr0 rfl)) (qsP (fun z=>ZA z.E Za ld rfl rfl Tryz.underlying22 ty5 (z.M.rd hv1_1) hi33.1 (kr0 rfl)) (qsP (fun z=>ZE (v:=(vB x31)) z.E Za ld rfl ty5 rfl (ZS (z.M.rd hv1_1) hi33.2) (kr0 rfl)) (qsP (fun z=>Zh z.E Za ld rfl (kr0 rfl)) (qsP (fun z=>Zh z.E Za ld rfl (kr0 rfl)) (qsP (fun z=>Zh z.E Za ld rfl (kr0 rfl)) (qsP (fun z=>ZA z.E Za ld rfl rfl Tryz.underlying22 ty5 (z.M.rd hv1_1) hi36.1 (kr0 rfl)) (qsP (fun z=>ZE (v:=(vB x34)) z.E Za ld rfl ty5 rfl (ZS (z.M.rd hv1_1) hi36.2) (kr0 rfl)) (qsP (fun z=>Zh z.E Za ld rfl (kr0 rfl)) (qsP (fun z=>Zh z.E Za ld rfl (kr0 rfl)) (qsP (fun z=>ZA z.E Za ld rfl rfl Tryz.underlying22 ty5 (z.M.rd hv1_1) hi39.1 (kr0 rfl)) (qsP (fun z=>ZE (v:=(vB x37)) z.E Za ld rfl ty5 rfl (ZS (z.M.rd hv1_1) hi39.2) (kr0 rfl)) (qsP (v:=(vB (x34 ^^^ x37))) (fun z=>ZJ z.E Za ld rfl rfl (Ur x34 x37) (kr0 rfl)) (qsP (fun z=>ZW z.E Za ld rfl (cbm Tryz.func109) (J0 _ p0 (x34 ^^^ x37) r40 e41) (kc rfl)) (qsP (fun z=>ZW z.E Za ld rfl HL (Xy _ p0 x31 r40 r42 e43) (kc rfl)) (qsP (fun z=>ZW z.E Za ld rfl HL (Xy _ p0 s18.1 r42 r44 e45) (kc rfl)) qs0)))))))))))))))))))) ?_
        ·intro a w u hE hM
         refine Zb hE rfl fun a hE=>Zj ?_
         obtain rfl:=Option.some.inj hl27
         refine Zi ?_
         exact ⟨hE.sub ⟨rfl,rfl,rfl,rfl,rfl,rfl,trivial⟩,hM⟩
       ·intro hb29
        have hl27:=Zo hl27 hb29
        refine wp_skip ?_
        obtain rfl:=Option.some.inj hl27
        refine Zi ?_
        exact ⟨hE.sub ⟨rfl,rfl,rfl,rfl,rfl,rfl,trivial⟩,hM⟩
      ·skip
       rintro a w ⟨hE,hM⟩
       refine Yg ?_
       obtain rfl:=Option.some.inj hF28
       refine Zi ?_
       exact ⟨hE.sub ⟨rfl,rfl,rfl,rfl,rfl,rfl,trivial⟩,hM⟩
     ·skip
      rintro a w ⟨hE,hM⟩
      refine wp_region_lit (Zd hE rfl fun a hE=>Zk hE rfl rfl rfl fun a hE=>Zb hE rfl fun a hE=>Zj (Zi ?_))
      exact ⟨_,(ois hF25),hE.sub ⟨rfl,rfl,rfl,rfl,rfl,rfl,trivial⟩,hM⟩
    ·intro hb22
     have hs19:=Zo hs19 hb22
     refine wp_exit (Zs (Zs (Ys ?_)))
     obtain rfl:=hx20 _ (ois hs19)
     refine Zi ?_
     exact ⟨hE.sub ⟨rfl,rfl,rfl,rfl,rfl,trivial⟩,hM⟩
   ·skip
    rintro a w ⟨hE,hM⟩
    refine Zu (wp_region_lit (Zd hE rfl fun a hE=>Zd hE rfl fun a hE=>ZD (xs:=[.tmp 46]) (l:=([j15] : List UInt8)) (vs:=[vB j15]) hE hM Za ld rfl rfl Tryz.underlying22 ty5 rfl (by decide) rfl ?_)); intro u50 w a hM hE
    obtain ⟨l52,e53,hF17⟩:=bind_some hF17
    obtain ⟨e56,rfl⟩:=ZY e53
    have hM:=hM.pull1
    refine Z9 hE hM Za ld rfl rfl (hM.sl (pre:=[_]) noB) Tryz.underlying22 ty5 rfl (by decide) e56 fun u54 w a hM hE=>Zb hE rfl fun a hE=>Zj (Yg (Zu (wp_region_lit (Zd hE rfl fun a hE=>Zk hE rfl rfl rfl fun a hE=>Zb hE rfl fun a hE=>Zj (Zi ?_)))))
    have hM:=M.fst (l:=[_]) hM
    exact ⟨_,(ois hF17),u54,hE.sub ⟨rfl,rfl,rfl,rfl,trivial⟩,hM⟩
  ·intro hb14
   have hs11:=Zo hs11 hb14
   refine wp_exit (Zs (Zs (Ys ?_)))
   obtain rfl:=hx12 _ (ois hs11)
   refine Zi ?_
   exact ⟨u9,hE.sub ⟨rfl,trivial⟩,hM⟩
 ·skip
  rintro a w ⟨u6,hE,hM⟩
  refine Zu (Zc (Zd hE rfl fun a hE=>Zb hE rfl fun a hE=>Ze ?_))
  obtain rfl:=Option.some.inj hF5
  exact wp_ret (Yb hE rfl (Zl hE rfl) ⟨_,rfl,u6,rfl,hM.outF (Z8 Yd),hM.kept⟩)
def VX (p0 : Int) (p1 : (List UInt8)) : Option ((List UInt8) × Int) :=
 (XW p0).bind fun r1=>if (!r1) = true then (some ([],1)) else ((if (decide ((p1.length : Int) < 1)) = true then (some true) else (some (decide ((p1.length : Int) > 12))) : Option (Bool)).bind fun j5=>if j5 = true then (some ([],2)) else ((Vp p1).bind fun r13=>if r13 = true then (some ([],5)) else ((VI p0 p1).bind fun r17=>some (r17,0))))
theorem Ba (w0 : World) (p0 : Int) (p1 : (List UInt8)) (v1_1 : Value) (hv1_1 : Ro w0 p1 [v1_1]) (r : (List UInt8) × Int) (hF : VX p0 p1 = some r) :
  Calls Tryz.prog 13 [vI p0,v1_1].toArray w0 (fun en w'=>∃ v,en = .returned v ∧ (∃ (y1 : Value),v = (Value.tuple [y1,vI r.2].toArray) ∧ Fr w0 w' [osl NoB (r.1 : List UInt8) y1] ∧ Kept (Old w0) w0 w')):=by
 refine ce Tryz.func13 ?_
 intro a hE
 have hM:=M.start w0
 unfold VX at hF
 refine Zc (Zb hE rfl fun a hE=>Zb hE rfl fun a hE=>Ze (wp_seq (wp_block (Zc (Zd hE rfl ?_))))); intro a hE
 obtain ⟨r1,e2,hF⟩:=bind_some hF
 refine Zq hE rfl cb57 (TD _ p0 r1 e2) ?_
 rintro v w a ⟨rfl,hK⟩ hE
 have hM:=hM.keep hK
 refine Ve hE rfl fun a hE=>Zb hE rfl fun a hE=>Ze ?_
 refine Zm hE rfl ?_ ?_
 ·intro hb3
  have hF:=Zn hF hb3
  refine Zc (Zb hE rfl fun a hE=>Zb hE rfl fun a hE=>Ze ?_)
  have hM:=M.nilS (α:=UInt8) NoB noB hM
  obtain rfl:=Option.some.inj hF
  exact wp_ret (Z4 (Zr (Z0 hE rfl (Zl hE rfl) (Zl hE rfl) ⟨_,rfl,(Value.slice none 0 0),rfl,hM.outF (Z8 Yd),hM.kept⟩)))
 ·intro hb3
  have hF:=Zo hF hb3
  obtain ⟨j5,hl6,hF7⟩:=bind_some hF
  refine Zx (fun a w=>Env 25 a [(0,vI p0),(1,v1_1),(10,vT j5)] ∧ M (Old w0) w0 w []) ?_ ?_
  ·skip
   refine wp_region_lit (Zd hE rfl fun a hE=>ZL hE rfl Tryz.underlying22 (hM.rd hv1_1) fun a hE=>Zk hE rfl rfl rfl fun a hE=>Zd hE rfl ?_); intro a hE
   refine ZO (decide ((p1.length : Int) < 1)) (fun hb8=>?_) (fun hb8=>?_)
   ·have hl6:=Zn hl6 hb8
    refine Zg hE rfl (lkb rfl hb8) rfl (by decide) fun a hE=>Zg hE rfl (lkb rfl hb8) rfl (by decide) fun a hE=>Zg hE rfl (lkb rfl hb8) rfl (by decide) fun a hE=>ZB hE (lkb rfl hb8) rfl fun a hE=>Zb hE rfl fun a hE=>Zj ?_
    obtain rfl:=Option.some.inj hl6
    refine Zi ?_
    exact ⟨hE.sub ⟨rfl,rfl,rfl,trivial⟩,hM⟩
   ·have hl6:=Zo hl6 hb8
    refine Zh hE (Zf hE rfl (lkb rfl hb8)) (by decide) rfl fun a hE=>XN hE (Zf hE rfl (lkb rfl hb8)) (by decide) rfl Tryz.underlying22 (hM.rd hv1_1) fun a hE=>ZJ hE (Zf hE rfl (lkb rfl hb8)) (by decide) rfl rfl rfl fun a hE=>Zy hE (lkb rfl hb8) rfl fun a hE=>Zb hE rfl fun a hE=>Zj ?_
    obtain rfl:=Option.some.inj hl6
    refine Zi ?_
    exact ⟨hE.sub ⟨rfl,rfl,rfl,trivial⟩,hM⟩
  ·skip
   rintro a w ⟨hE,hM⟩
   refine Zm hE rfl ?_ ?_
   ·intro hb11
    have hF7:=Zn hF7 hb11
    refine Zc (Zb hE rfl fun a hE=>Zb hE rfl fun a hE=>Ze ?_)
    have hM:=M.nilS (α:=UInt8) NoB noB hM
    obtain rfl:=Option.some.inj hF7
    exact wp_ret (Z4 (Zr (Z0 hE rfl (Zl hE rfl) (Zl hE rfl) ⟨_,rfl,(Value.slice none 0 0),rfl,hM.outF (Z8 Yd),hM.kept⟩)))
   ·intro hb11
    have hF7:=Zo hF7 hb11
    refine Zc (Zd hE rfl ?_); intro a hE
    obtain ⟨r13,e14,hF7⟩:=bind_some hF7
    refine Zq hE rfl (cbm Tryz.func58) (KU _ p1 v1_1 (hM.rdo hv1_1) r13 e14) ?_
    rintro v w a ⟨rfl,hK⟩ hE
    have hM:=hM.keep hK
    refine Zb hE rfl fun a hE=>Ze ?_
    refine Zm hE rfl ?_ ?_
    ·intro hb15
     have hF7:=Zn hF7 hb15
     refine Zc (Zb hE rfl fun a hE=>Zb hE rfl fun a hE=>Ze ?_)
     have hM:=M.nilS (α:=UInt8) NoB noB hM
     obtain rfl:=Option.some.inj hF7
     exact wp_ret (Z4 (Zr (Z0 hE rfl (Zl hE rfl) (Zl hE rfl) ⟨_,rfl,(Value.slice none 0 0),rfl,hM.outF (Z8 Yd),hM.kept⟩)))
    ·intro hb15
     have hF7:=Zo hF7 hb15
     refine wp_skip (Yg (Zu (Zc (Zd hE rfl fun a hE=>Zd hE rfl ?_)))); intro a hE
     obtain ⟨r17,e18,hF7⟩:=bind_some hF7
     refine Zq hE rfl (cbm Tryz.func59) (HV _ p0 p1 v1_1 (hM.rdo hv1_1) r17 e18) ?_
     rintro u19 w a ⟨_,rfl,hFr,hK⟩ hE
     have hM:=hM.add hK hFr
     refine Zb hE rfl fun a hE=>Zb hE rfl fun a hE=>Ze ?_
     obtain rfl:=Option.some.inj hF7
     exact wp_ret (Z0 hE rfl (Zl hE rfl) (Zl hE rfl) ⟨_,rfl,u19,rfl,hM.outF (Z8 Yd),hM.kept⟩)
def UV (p0 : (List UInt8)) (p1 : (List UInt8)) (s6 : Int) : Option (Fl Int (Fl Unit Bool)) :=
 if (decide (s6 < (p0.length : Int))) = true then (((idx p0 s6).bind fun x15=>(idx p1 s6).bind fun x18=>some (x15 != x18) : Option (Bool)).bind fun j11=>if j11 = true then (some (Fl.ex (Fl.ex false))) else (some (Fl.nx (wr (s6 + 1))))) else (some (Fl.ex (Fl.nx ())))
def WV (p0 : (List UInt8)) (p1 : (List UInt8)) : Option (Bool) :=
 if ((p0.length : Int) != (p1.length : Int)) = true then (some false) else ((ZH (UV p0 p1) 0).bind fun j2=>j2.el (fun s5=>some true) (fun r=>some r))
theorem Qg (w0 : World) (p0 : (List UInt8)) (v0_1 : Value) (hv0_1 : Ro w0 p0 [v0_1]) (p1 : (List UInt8)) (v1_1 : Value) (hv1_1 : Ro w0 p1 [v1_1]) (r : Bool) (hF : WV p0 p1 = some r) :
  Calls Tryz.prog 14 [v0_1,v1_1].toArray w0 (Rt w0 (vT r)):=by
 refine ce Tryz.func14 ?_
 intro a hE
 have hM:=M.start w0
 unfold WV at hF
 refine Zc (Zb hE rfl fun a hE=>Ze (wp_seq (Zc (Zd hE rfl fun a hE=>ZL hE rfl Tryz.underlying22 (hM.rd hv0_1) fun a hE=>Zd hE rfl fun a hE=>ZL hE rfl Tryz.underlying22 (hM.rd hv1_1) fun a hE=>Zk hE rfl rfl rfl fun a hE=>Ze ?_))))
 refine Zm hE rfl ?_ ?_
 ·intro hb1
  have hF:=Zn hF hb1
  refine Zc (Zb hE rfl fun a hE=>Ze ?_)
  obtain rfl:=Option.some.inj hF
  exact wp_ret (Zr (kr1 hE rfl rfl hM.kept))
 ·intro hb1
  have hF:=Zo hF hb1
  refine wp_skip (Zu (wp_seq (Zc (Zb hE rfl fun a hE=>Ze ?_))))
  obtain ⟨j2,hl3,hF4⟩:=bind_some hF
  refine ZP (fun a w=>∃ s5 : Unit,j2 = Fl.nx s5 ∧ Env 26 a [] ∧ M (Old w0) w0 w []) ?_ ?_
  ·skip
   refine wp_block ?_
   refine ZK (fun (s6 : Int) a w=>Env 26 a [(0,v0_1),(1,v1_1),(5,vI s6)] ∧ M (Old w0) w0 w []) hl3 ⟨hE.sub ⟨rfl,rfl,rfl,trivial⟩,hM⟩ ?_
   rintro s6 a w ⟨hE,hM⟩ o9 hs7 hx8
   unfold UV at hs7
   refine wp_seq (Zc (Zd hE rfl fun a hE=>Zd hE rfl fun a hE=>ZL hE rfl Tryz.underlying22 (hM.rd hv0_1) fun a hE=>Zk hE rfl rfl rfl fun a hE=>Ze ?_))
   refine Zm hE rfl ?_ ?_
   ·intro hb10
    have hs7:=Zn hs7 hb10
    refine wp_skip (Zu (wp_seq (wp_block ?_)))
    obtain ⟨j11,hl12,hF13⟩:=bind_some hs7
    refine Zx (fun a w=>Env 26 a [(0,v0_1),(1,v1_1),(5,vI s6),(25,vT j11)] ∧ M (Old w0) w0 w []) ?_ ?_
    ·skip
     obtain ⟨x15,hi17,hl12⟩:=bix hl12
     obtain ⟨x18,hi20,hl12⟩:=bix hl12
     refine YA [17,18,19,20,21,22,23,24,25] Wb rfl rfl (by decide) rfl hE hM (qsP (fun z=>Zh z.E Za ld rfl (kr0 rfl)) (qsP (fun z=>Zh z.E Za ld rfl (kr0 rfl)) (qsP (fun z=>ZA z.E Za ld rfl rfl Tryz.underlying22 ty5 (z.M.rd hv0_1) hi17.1 (kr0 rfl)) (qsP (fun z=>ZE (v:=(vB x15)) z.E Za ld rfl ty5 rfl (ZS (z.M.rd hv0_1) hi17.2) (kr0 rfl)) (qsP (fun z=>Zh z.E Za ld rfl (kr0 rfl)) (qsP (fun z=>Zh z.E Za ld rfl (kr0 rfl)) (qsP (fun z=>ZA z.E Za ld rfl rfl Tryz.underlying22 ty5 (z.M.rd hv1_1) hi20.1 (kr0 rfl)) (qsP (fun z=>ZE (v:=(vB x18)) z.E Za ld rfl ty5 rfl (ZS (z.M.rd hv1_1) hi20.2) (kr0 rfl)) (qsP (fun z=>ZJ z.E Za ld rfl rfl (Kd x15 x18) (kr0 rfl)) qs0))))))))) ?_
     ·intro a w u hE hM
      refine Zj ?_
      obtain rfl:=Option.some.inj hl12
      refine Zi ?_
      exact ⟨hE.sub ⟨rfl,rfl,rfl,rfl,trivial⟩,hM⟩
    ·skip
     rintro a w ⟨hE,hM⟩
     refine Zm hE rfl ?_ ?_
     ·intro hb22
      have hF13:=Zn hF13 hb22
      refine Zc (Zb hE rfl fun a hE=>Ze ?_)
      obtain rfl:=hx8 _ (ois hF13)
      obtain rfl:=Option.some.inj hF4
      exact wp_ret (Z4 (Zr (Zr (Z4 (Zr (Zr (kr1 hE rfl rfl hM.kept)))))))
     ·intro hb22
      have hF13:=Zo hF13 hb22
      refine wp_skip (Yg (Zu (wp_region_lit (Zd hE rfl fun a hE=>Zk hE rfl rfl rfl fun a hE=>Zb hE rfl fun a hE=>Zj (Zi ?_)))))
      exact ⟨_,(ois hF13),hE.sub ⟨rfl,rfl,rfl,trivial⟩,hM⟩
   ·intro hb10
    have hs7:=Zo hs7 hb10
    refine wp_exit (Zs (Zs (Ys ?_)))
    obtain rfl:=hx8 _ (ois hs7)
    refine Zi ?_
    exact ⟨(),rfl,hE.sub trivial,hM⟩
  ·skip
   rintro a w ⟨s5,ht,hE,hM⟩
   subst ht
   have hF4:=VQ hF4
   refine Zu (Zc (Zb hE rfl fun a hE=>Ze ?_))
   obtain rfl:=Option.some.inj hF4
   exact wp_ret (kr1 hE rfl rfl hM.kept)
def Qx (p0 : (List UInt8)) (s6 : Int × Int) : Option (Fl (Int × Int) Int) :=
 if (decide (s6.2 < (p0.length : Int))) = true then ((idx p0 s6.2).bind fun x12=>some (Fl.nx (IntKind.u64.wrap ((IntKind.u64.wrap ((IntKind.u64.wrap (s6.1 * 1099511628211)) + (bI x12))) + 5),wr (s6.2 + 1)))) else (some (Fl.ex s6.1))
def Qj (p0 : (List UInt8)) (p1 : Int) : Option ((Int × Int)) :=
 (ZH (Qx p0) (IntKind.u64.wrap ((IntKind.u64.wrap (p1 * 6907)) + (IntKind.u64.wrap (p0.length : Int))),0)).bind fun j3=>some (0,j3)
theorem jc (St : Nat → Prop) (W w0 : World) (r0 : Item) (p0 : (List UInt8)) (v0_1 : Value) (hv0_1 : Rep.sat St W p0 [v0_1] []) (p1 : Int) (hM : M St W w0 [r0]) (r : (Int × Int)) (hF : Qj p0 p1 = some r) :
  Calls Tryz.prog 16 [v0_1,(Value.int .u64 p1)].toArray w0 (fun en w'=>∃ v,en = .returned v ∧ (∃ (b : Nat),v = ptr b 0 ∧ M St W w' [raw b (cat [[v0_1],[vI r.1],[(Value.int .u64 r.2)]]),r0])):=by
 refine ce Tryz.func16 ?_
 intro a hE
 unfold Qj at hF
 refine Zc (Zb hE rfl fun a hE=>Ze (Zc (Zd hE rfl fun a hE=>Zd hE rfl fun a hE=>Zk hE rfl rfl rfl fun a hE=>Zd hE rfl fun a hE=>ZL hE rfl Tryz.underlying22 (hM.rd hv0_1) fun a hE=>Qm hE Za ld rfl Tryz.underlying3 Tryz.underlying44 fun a hE=>Zk hE rfl rfl rfl fun a hE=>YY (parts:=[(0,.tmp 7),(2,.tmp 13)]) (vs:=[(0,v0_1),(2,(Value.int .u64 (IntKind.u64.wrap ((IntKind.u64.wrap (p1 * 6907)) + (IntKind.u64.wrap (p0.length : Int))))))]) (cs:=cat [[v0_1],[vI 0],[(Value.int .u64 (IntKind.u64.wrap ((IntKind.u64.wrap (p1 * 6907)) + (IntKind.u64.wrap (p0.length : Int)))))]]) hE Za ld rfl rfl ty94 pl94 (YK (pre:=[]) (seg:=[(Value.slice none 0 0)]) (seg':=[v0_1]) (post:=[[vI 0],[(Value.int .u64 0)]]) rfl cl0 rfl rfl (Y2 (hM.rd hv0_1)) (YK (pre:=[[v0_1],[vI 0]]) (seg:=[(Value.int .u64 0)]) (seg':=[(Value.int .u64 (IntKind.u64.wrap ((IntKind.u64.wrap (p1 * 6907)) + (IntKind.u64.wrap (p0.length : Int)))))]) (post:=[]) rfl ck rfl rfl rfl Wy)) fun a hE=>KW (cs:=cat [[v0_1],[vI 0],[(Value.int .u64 (IntKind.u64.wrap ((IntKind.u64.wrap (p1 * 6907)) + (IntKind.u64.wrap (p0.length : Int)))))]]) hE hM Za ld rfl rfl fun b1 w a hM hE=>Zb hE rfl fun a hE=>Ze (wp_seq (Zc (Zb hE rfl ?_)))))); intro a hE
 refine Ze ?_
 obtain ⟨j3,hl4,hF5⟩:=bind_some hF
 refine ZP (fun a w=>Env 38 a [(5,(ptr b1 0))] ∧ M St W w [raw b1 (cat [[v0_1],[vI 0],[(Value.int .u64 j3)]]),r0]) ?_ ?_
 ·skip
  refine wp_block ?_
  refine ZK (fun (s6 : Int × Int) a w=>Env 38 a [(0,v0_1),(5,(ptr b1 0)),(6,vI s6.2)] ∧ M St W w [raw b1 (cat [[v0_1],[vI 0],[(Value.int .u64 s6.1)]]),r0]) hl4 ⟨hE.sub ⟨rfl,rfl,rfl,trivial⟩,hM⟩ ?_
  rintro s6 a w ⟨hE,hM⟩ o9 hs7 hx8
  unfold Qx at hs7
  refine wp_seq (Zc (Zd hE rfl fun a hE=>Zd hE rfl fun a hE=>ZL hE rfl Tryz.underlying22 (hM.rd hv0_1) fun a hE=>Zk hE rfl rfl rfl fun a hE=>Ze ?_))
  refine Zm hE rfl ?_ ?_
  ·intro hb10
   have hs7:=Zn hs7 hb10
   refine wp_skip (Zu (wp_seq (wp_block ?_)))
   obtain ⟨x12,hi14,hs7⟩:=bix hs7
   refine YA [22,23,24,25,26,27,28,29,30,31,32,33,34,35,36] Wb rfl rfl (by decide) rfl hE hM (qsP (fun z=>Zh z.E Za ld rfl (kr0 rfl)) (qsP (fun z=>Zh z.E Za ld rfl (kr0 rfl)) (qsP (fun z=>Yw z.E Za ld rfl (kr0 rfl)) (qsP (fun z=>Zv z.E Za ld rfl (zg) (kr0 rfl)) (qsP (fun z=>ZE (v:=(Value.int .u64 s6.1)) z.E Za ld rfl Af rfl (At.cat (pre:=[[v0_1],[vI 0]]) (z.M.rawAt0) ck) (kr0 rfl)) (qsP (v:=(Value.int .u64 (IntKind.u64.wrap (s6.1 * 1099511628211)))) (fun z=>ZJ z.E Za ld rfl rfl rfl (kr0 rfl)) (qsP (fun z=>Zh z.E Za ld rfl (kr0 rfl)) (qsP (fun z=>Zh z.E Za ld rfl (kr0 rfl)) (qsP (fun z=>ZA z.E Za ld rfl rfl Tryz.underlying22 ty5 (z.M.rd hv0_1) hi14.1 (kr0 rfl)) (qsP (fun z=>ZE (v:=(vB x12)) z.E Za ld rfl ty5 rfl (ZS (z.M.rd hv0_1) hi14.2) (kr0 rfl)) (qsP (fun z=>kJ z.E Za ld rfl Tryz.underlying5 Tryz.underlying44 (kr0 rfl)) (qsP (v:=(Value.int .u64 (IntKind.u64.wrap ((IntKind.u64.wrap (s6.1 * 1099511628211)) + (bI x12))))) (fun z=>ZJ z.E Za ld rfl rfl rfl (kr0 rfl)) (qsP (v:=(Value.int .u64 (IntKind.u64.wrap ((IntKind.u64.wrap ((IntKind.u64.wrap (s6.1 * 1099511628211)) + (bI x12))) + 5)))) (fun z=>ZJ z.E Za ld rfl rfl rfl (kr0 rfl)) (qsP (fun z=>Yw z.E Za ld rfl (kr0 rfl)) (qsP (fun z=>Zv z.E Za ld rfl (zg) (kr0 rfl)) qs0))))))))))))))) ?_
   ·intro a w u hE hM
    refine Xs (seg:=[(Value.int .u64 (IntKind.u64.wrap ((IntKind.u64.wrap ((IntKind.u64.wrap (s6.1 * 1099511628211)) + (bI x12))) + 5)))]) hE hM Za rfl rfl rfl Af rfl (Th (pre:=[[v0_1],[vI 0]]) ck rfl) Aw (Wj (pre:=[[v0_1],[vI 0]]) ck rfl) fun w a hM hE=>Zj (Yg (Zu (wp_region_lit (Zd hE rfl fun a hE=>Zk hE rfl rfl rfl fun a hE=>Zb hE rfl fun a hE=>Zj (Zi ?_)))))
    exact ⟨_,(ois hs7),hE.sub ⟨rfl,rfl,rfl,trivial⟩,hM⟩
  ·intro hb10
   have hs7:=Zo hs7 hb10
   refine wp_exit (Zs (Zs (Ys ?_)))
   obtain rfl:=hx8 _ (ois hs7)
   refine Zi ?_
   exact ⟨hE.sub ⟨rfl,trivial⟩,hM⟩
 ·skip
  rintro a w ⟨hE,hM⟩
  refine Zu (Zc (Zd hE rfl fun a hE=>Zb hE rfl fun a hE=>Ze ?_))
  obtain rfl:=Option.some.inj hF5
  exact wp_ret (Yb hE rfl (Zl hE rfl) ⟨_,rfl,b1,rfl,hM⟩)
def VJ (p0_0 : (List UInt8)) (p0 : (Int × Int)) (p1 : Int) : Option ((Int × Int) × Int) :=
 if (decide (p1 < 1)) = true then (some ((p0.1,p0.2),0)) else (((some (decide (p0.1 < (p0_0.length : Int))) : Option (Bool)).bind fun j5=>if j5 = true then (((idx p0_0 p0.1).bind fun x15=>some (wr ((IntKind.i64.wrap (wru (BitVec.ofInt 64 (YD (IntKind.u64.wrap ((IntKind.u64.wrap (p0.2 * 6364136223846793005)) + 1442695040888963407)) 33) &&& BitVec.ofInt 64 16777215).toNat)) + (bI x15))) : Option (Int)).bind fun j11=>some (wr (p0.1 + 1),j11)) else (some (p0.1,IntKind.i64.wrap (wru (BitVec.ofInt 64 (YD (IntKind.u64.wrap ((IntKind.u64.wrap (p0.2 * 6364136223846793005)) + 1442695040888963407)) 33) &&& BitVec.ofInt 64 16777215).toNat))) : Option (Int × Int)).bind fun j2=>(TB p1).bind fun _=>some ((j2.1,IntKind.u64.wrap ((IntKind.u64.wrap (p0.2 * 6364136223846793005)) + 1442695040888963407)),Int.tmod j2.2 p1))
theorem HC (St : Nat → Prop) (W w0 : World) (r0 : Item) (pb0 : Nat) (p0_0 : (List UInt8)) (v0_0 : Value) (hv0_0 : Rep.sat St W p0_0 [v0_0] []) (p0 : (Int × Int)) (p1 : Int) (hM : M St W w0 [raw pb0 (cat [[v0_0],[vI p0.1],[(Value.int .u64 p0.2)]]),r0]) (r : (Int × Int) × Int) (hF : VJ p0_0 p0 p1 = some r) :
  Calls Tryz.prog 60 [(ptr pb0 0),vI p1].toArray w0 (fun en w'=>∃ v,en = .returned v ∧ (v = (vI r.2) ∧ M St W w' [raw pb0 (cat [[v0_0],[vI r.1.1],[(Value.int .u64 r.1.2)]]),r0])):=by
 refine ce Tryz.func60 ?_
 intro a hE
 unfold VJ at hF
 refine Zc (Zb hE rfl fun a hE=>Ze (wp_seq (Zc (Zd hE rfl fun a hE=>Zk hE rfl rfl rfl fun a hE=>Ze ?_))))
 refine Zm hE rfl ?_ ?_
 ·intro hb1
  have hF:=Zn hF hb1
  refine Zc (Zb hE rfl fun a hE=>Ze ?_)
  obtain rfl:=Option.some.inj hF
  exact wp_ret (Zr (Yb hE rfl (Zl hE rfl) ⟨_,rfl,rfl,hM⟩))
 ·intro hb1
  have hF:=Zo hF hb1
  refine wp_skip (Zu (Zc (Zd hE rfl fun a hE=>Zd hE rfl fun a hE=>Yw hE Za ld rfl fun a hE=>ZI hE rfl (zg) fun a hE=>ZX (v:=(Value.int .u64 p0.2)) hE rfl Af rfl (At.cat (pre:=[[v0_0],[vI p0.1]]) hM.rawAt0 ck) fun a hE=>Zk hE rfl rfl rfl fun a hE=>Zk hE rfl rfl rfl fun a hE=>Yw hE Za ld rfl fun a hE=>ZI hE rfl (zg) fun a hE=>Xs (seg:=[(Value.int .u64 (IntKind.u64.wrap ((IntKind.u64.wrap (p0.2 * 6364136223846793005)) + 1442695040888963407)))]) hE hM Za rfl rfl rfl Af rfl (Th (pre:=[[v0_0],[vI p0.1]]) ck rfl) Aw (Wj (pre:=[[v0_0],[vI p0.1]]) ck rfl) fun w a hM hE=>Ze (Zc (Zd hE rfl fun a hE=>Yw hE Za ld rfl ?_))))); intro a hE
  refine ZI hE rfl (zg) fun a hE=>ZX (v:=(Value.int .u64 (IntKind.u64.wrap ((IntKind.u64.wrap (p0.2 * 6364136223846793005)) + 1442695040888963407)))) hE rfl Af rfl (At.cat (pre:=[[v0_0],[vI p0.1]]) hM.rawAt0 ck) fun a hE=>Ke hE Za ld rfl rfl (JD _ _ (by decide)) fun a hE=>Zk hE rfl rfl rfl fun a hE=>Qm hE Za ld rfl Tryz.underlying44 Tryz.underlying2 fun a hE=>Zb hE rfl fun a hE=>Ze ?_
  obtain ⟨j2,hl3,hF4⟩:=bind_some hF
  refine Zx (fun a w=>Env 58 a [(1,vI p1),(5,vI j2.2)] ∧ M St W w [raw pb0 (cat [[v0_0],[vI j2.1],[(Value.int .u64 (IntKind.u64.wrap ((IntKind.u64.wrap (p0.2 * 6364136223846793005)) + 1442695040888963407)))]]),r0]) ?_ ?_
  ·skip
   obtain ⟨j5,hl6,hF7⟩:=bind_some hl3
   refine Zx (fun a w=>Env 58 a [(0,(ptr pb0 0)),(1,vI p1),(5,(vI (IntKind.i64.wrap (wru (BitVec.ofInt 64 (YD (IntKind.u64.wrap ((IntKind.u64.wrap (p0.2 * 6364136223846793005)) + 1442695040888963407)) 33) &&& BitVec.ofInt 64 16777215).toNat)))),(33,vT j5)] ∧ M St W w [raw pb0 (cat [[v0_0],[vI p0.1],[(Value.int .u64 (IntKind.u64.wrap ((IntKind.u64.wrap (p0.2 * 6364136223846793005)) + 1442695040888963407)))]]),r0]) ?_ ?_
   ·skip
    refine YA [24,25,26,27,28,29,30,31,32,33] Wb rfl rfl (by decide) rfl hE hM (qsP (fun z=>Zh z.E Za ld rfl (kr0 rfl)) (qsP (fun z=>Yw z.E Za ld rfl (kr0 rfl)) (qsP (fun z=>Zv z.E Za ld rfl (yG) (kr0 rfl)) (qsP (fun z=>ZE (v:=(vI p0.1)) z.E Za ld rfl ty3 rfl (At.cat (pre:=[[v0_0]]) (z.M.rawAt0) ck) (kr0 rfl)) (qsP (fun z=>Zh z.E Za ld rfl (kr0 rfl)) (qsP (fun z=>Yw z.E Za ld rfl (kr0 rfl)) (qsP (fun z=>Zv z.E Za ld rfl (Zar) (kr0 rfl)) (qsP (fun z=>ZE (v:=v0_0) z.E Za ld rfl YS rfl (At.cat (pre:=[]) (z.M.rawAt0) cl0) (kr0 rfl)) (qsP (fun z=>XN z.E Za ld rfl Tryz.underlying22 (z.M.rd hv0_0) (kr0 rfl)) (qsP (fun z=>ZJ z.E Za ld rfl rfl rfl (kr0 rfl)) qs0)))))))))) ?_
    ·intro a w u hE hM
     refine Zj ?_
     obtain rfl:=Option.some.inj hl6
     refine Zi ?_
     exact ⟨hE.sub ⟨rfl,rfl,rfl,rfl,trivial⟩,hM⟩
   ·skip
    rintro a w ⟨hE,hM⟩
    refine Zm hE rfl ?_ ?_
    ·intro hb10
     have hF7:=Zn hF7 hb10
     obtain ⟨j11,hl12,hF13⟩:=bind_some hF7
     refine Zx (fun a w=>Env 58 a [(0,(ptr pb0 0)),(1,vI p1),(5,vI j11)] ∧ M St W w [raw pb0 (cat [[v0_0],[vI p0.1],[(Value.int .u64 (IntKind.u64.wrap ((IntKind.u64.wrap (p0.2 * 6364136223846793005)) + 1442695040888963407)))]]),r0]) ?_ ?_
     ·skip
      obtain ⟨x15,hi17,hl12⟩:=bix hl12
      refine YA [34,35,36,37,38,39,40,41,42,43,44,45,46] Wb rfl rfl (by decide) rfl hE hM (qsP (fun z=>Zh z.E Za ld rfl (kr0 rfl)) (qsP (fun z=>Zh z.E Za ld rfl (kr0 rfl)) (qsP (fun z=>Yw z.E Za ld rfl (kr0 rfl)) (qsP (fun z=>Zv z.E Za ld rfl (Zar) (kr0 rfl)) (qsP (fun z=>ZE (v:=v0_0) z.E Za ld rfl YS rfl (At.cat (pre:=[]) (z.M.rawAt0) cl0) (kr0 rfl)) (qsP (fun z=>Zh z.E Za ld rfl (kr0 rfl)) (qsP (fun z=>Yw z.E Za ld rfl (kr0 rfl)) (qsP (fun z=>Zv z.E Za ld rfl (yG) (kr0 rfl)) (qsP (fun z=>ZE (v:=(vI p0.1)) z.E Za ld rfl ty3 rfl (At.cat (pre:=[[v0_0]]) (z.M.rawAt0) ck) (kr0 rfl)) (qsP (fun z=>ZA z.E Za ld rfl rfl Tryz.underlying22 ty5 (z.M.rd hv0_0) hi17.1 (kr0 rfl)) (qsP (fun z=>ZE (v:=(vB x15)) z.E Za ld rfl ty5 rfl (ZS (z.M.rd hv0_0) hi17.2) (kr0 rfl)) (qsP (fun z=>TA z.E Za ld rfl Tryz.underlying5 Tryz.underlying2 (kr0 rfl)) (qsP (v:=(vI (wr ((IntKind.i64.wrap (wru (BitVec.ofInt 64 (YD (IntKind.u64.wrap ((IntKind.u64.wrap (p0.2 * 6364136223846793005)) + 1442695040888963407)) 33) &&& BitVec.ofInt 64 16777215).toNat)) + (bI x15))))) (fun z=>ZJ z.E Za ld rfl rfl rfl (kr0 rfl)) qs0))))))))))))) ?_
      ·intro a w u hE hM
       refine Zb hE rfl fun a hE=>Zj ?_
       obtain rfl:=Option.some.inj hl12
       refine Zi ?_
       exact ⟨hE.sub ⟨rfl,rfl,rfl,trivial⟩,hM⟩
     ·skip
      rintro a w ⟨hE,hM⟩
      refine wp_region_lit (Zd hE rfl fun a hE=>Zd hE rfl fun a hE=>Yw hE Za ld rfl fun a hE=>ZI hE rfl (yG) fun a hE=>ZX (v:=(vI p0.1)) hE rfl ty3 rfl (At.cat (pre:=[[v0_0]]) hM.rawAt0 ck) fun a hE=>Zk hE rfl rfl rfl fun a hE=>Yw hE Za ld rfl fun a hE=>ZI hE rfl (yG) fun a hE=>Xs (seg:=[(vI (wr (p0.1 + 1)))]) hE hM Za rfl rfl rfl ty3 rfl (Th (pre:=[[v0_0]]) ck rfl) (Flat.cell (wr (p0.1 + 1) : Int)) (Wj (pre:=[[v0_0]]) ck rfl) fun w a hM hE=>Zj ?_)
      obtain rfl:=Option.some.inj hF13
      refine Zi ?_
      exact ⟨hE.sub ⟨rfl,rfl,trivial⟩,hM⟩
    ·intro hb10
     have hF7:=Zo hF7 hb10
     refine wp_skip ?_
     obtain rfl:=Option.some.inj hF7
     refine Zi ?_
     exact ⟨hE.sub ⟨rfl,rfl,trivial⟩,hM⟩
  ·skip
   rintro a w ⟨hE,hM⟩
   refine Zc (Zd hE rfl fun a hE=>Zd hE rfl ?_); intro a hE
   obtain ⟨_,e21,hF4⟩:=bind_some hF4
   have e21:=H8 e21
   refine Zk hE rfl rfl (Kj _ _ e21) fun a hE=>Zb hE rfl fun a hE=>Ze ?_
   obtain rfl:=Option.some.inj hF4
   exact wp_ret (Yb hE rfl (Zl hE rfl) ⟨_,rfl,rfl,hM⟩)
def Qe (p0_0 : (List UInt8)) (s8 : Int × Int × Int × (List UInt8)) : Option (Fl (Int × Int × Int × (List UInt8)) (Int × Int × (List UInt8))) :=
 if (decide (s8.2.2.1 > 0)) = true then ((VJ p0_0 (s8.1,s8.2.1) 256).bind fun r15=>(app 1 s8.2.2.2 ([Yp r15.2] : List UInt8)).bind fun l19=>some (Fl.nx (r15.1.1,r15.1.2,wr (s8.2.2.1 - 1),(s8.2.2.2 ++ ([Yp r15.2] : List UInt8))))) else (some (Fl.ex (s8.1,s8.2.1,s8.2.2.2)))
def TZ (p0_0 : (List UInt8)) (p0 : (Int × Int)) (p1 : Int) : Option ((Int × Int) × (List UInt8)) :=
 (ZH (Qe p0_0) (p0.1,p0.2,p1,([] : List UInt8))).bind fun j3=>some ((j3.1,j3.2.1),j3.2.2)
theorem yM (St : Nat → Prop) (W w0 : World) (r0 : Item) (pb0 : Nat) (p0_0 : (List UInt8)) (v0_0 : Value) (hv0_0 : Rep.sat St W p0_0 [v0_0] []) (p0 : (Int × Int)) (p1 : Int) (hM : M St W w0 [raw pb0 (cat [[v0_0],[vI p0.1],[(Value.int .u64 p0.2)]]),r0]) (r : (Int × Int) × (List UInt8)) (hF : TZ p0_0 p0 p1 = some r) :
  Calls Tryz.prog 15 [(ptr pb0 0),vI p1].toArray w0 (fun en w'=>∃ v,en = .returned v ∧ (∃ (y1 : Value),v = y1 ∧ M St W w' [raw pb0 (cat [[v0_0],[vI r.1.1],[(Value.int .u64 r.1.2)]]),osl NoB (r.2 : List UInt8) y1,r0])):=by
 refine ce Tryz.func15 ?_
 intro a hE
 unfold TZ at hF
 refine Zc (Zb hE rfl fun a hE=>Ze (Zc (ZD (xs:=[]) (l:=([] : List UInt8)) (vs:=[]) hE hM Za ld rfl rfl Tryz.underlying22 ty5 rfl (by decide) rfl fun u1 w a hM hE=>Zb hE rfl fun a hE=>Ze ?_)))
 obtain ⟨j3,hl4,hF5⟩:=bind_some hF
 refine Zx (fun a w=>∃ (u6 : Value),Env 18 a [(5,u6)] ∧ M St W w [raw pb0 (cat [[v0_0],[vI j3.1],[(Value.int .u64 j3.2.1)]]),r0,osl NoB (j3.2.2 : List UInt8) u6]) ?_ ?_
 ·skip
  refine wp_block ?_
  have hM:=hM.pull2.pull2
  refine ZK (fun (s8 : Int × Int × Int × (List UInt8)) a w=>∃ (u9 : Value),Env 18 a [(0,(ptr pb0 0)),(1,vI s8.2.2.1),(5,u9)] ∧ M St W w [raw pb0 (cat [[v0_0],[vI s8.1],[(Value.int .u64 s8.2.1)]]),r0,osl NoB (s8.2.2.2 : List UInt8) u9]) hl4 ⟨u1,hE.sub ⟨rfl,rfl,rfl,trivial⟩,hM⟩ ?_
  rintro s8 a w ⟨u9,hE,hM⟩ o13 hs11 hx12
  unfold Qe at hs11
  refine wp_seq (Zc (Zd hE rfl fun a hE=>Zk hE rfl rfl rfl fun a hE=>Ze ?_))
  refine Zm hE rfl ?_ ?_
  ·intro hb14
   have hs11:=Zn hs11 hb14
   refine wp_skip (Zu (wp_seq (wp_block (wp_region_lit (Zd hE rfl fun a hE=>Zd hE rfl ?_))))); intro a hE
   have hM:=M.tailP (m:=[_]) hM
   obtain ⟨r15,e16,hs11⟩:=bind_some hs11
   refine Zq hE rfl (cbm Tryz.func60) (HC _ _ _ _ pb0 p0_0 v0_0 hv0_0 (s8.1,s8.2.1) 256 hM r15 e16) ?_
   rintro v w a ⟨rfl,hM⟩ hE
   have hM:=M.tailU (m:=[_]) hM
   simp only [List.cons_append,List.nil_append] at hM
   refine TH hE Za ld rfl Tryz.underlying2 Tryz.underlying5 fun a hE=>ZD (xs:=[.tmp 14]) (l:=([Yp r15.2] : List UInt8)) (vs:=[(vB (Yp r15.2))]) hE hM Za ld rfl rfl Tryz.underlying22 ty5 rfl (by decide) rfl ?_; intro u17 w a hM hE
   obtain ⟨l19,e20,hs11⟩:=bind_some hs11
   obtain ⟨e23,rfl⟩:=ZY e20
   have hM:=hM.pull3
   refine Z9 hE hM Za ld rfl rfl (hM.sl (pre:=[_]) noB) Tryz.underlying22 ty5 rfl (by decide) e23 fun u21 w a hM hE=>Zb hE rfl fun a hE=>Zj (Yg (Zu (wp_region_lit (Zd hE rfl fun a hE=>Zk hE rfl rfl rfl fun a hE=>Zb hE rfl fun a hE=>Zj (Zi ?_)))))
   have hM:=(hM.pull3.pull3.pull3).drop
   exact ⟨_,(ois hs11),u21,hE.sub ⟨rfl,rfl,rfl,trivial⟩,hM⟩
  ·intro hb14
   have hs11:=Zo hs11 hb14
   refine wp_exit (Zs (Zs (Ys ?_)))
   obtain rfl:=hx12 _ (ois hs11)
   refine Zi ?_
   exact ⟨u9,hE.sub ⟨rfl,trivial⟩,hM⟩
 ·skip
  rintro a w ⟨u6,hE,hM⟩
  refine Zc (Zd hE rfl fun a hE=>Zb hE rfl fun a hE=>Ze ?_)
  obtain rfl:=Option.some.inj hF5
  have hM:=hM.pull1.pull2.pull2
  exact wp_ret (Yb hE rfl (Zl hE rfl) ⟨_,rfl,u6,rfl,hM⟩)
def Xi (p0 : Int) (s27 : (List UInt8) × Int) (x39 : UInt8) (r44 : UInt8) (s55 : (List UInt8) × Int) : Option (Fl ((List UInt8) × Int) (List UInt8)) :=
 if (decide (s55.2 < (s27.1.length : Int))) = true then ((idx s27.1 s55.2).bind fun x62=>((idx s55.1 s55.2).bind fun x71=>(ZM p0 x62 x39).bind fun r74=>(ZM p0 r74 r44).bind fun r76=>(idx s55.1 s55.2).bind fun x78=>some (s55.1.set (s55.2).toNat (x71 ^^^ r76)) : Option ((List UInt8))).bind fun j65=>(idx j65 (wr (s55.2 + 1))).bind fun x83=>(ZM p0 x62 r44).bind fun r86=>(idx j65 (wr (s55.2 + 1))).bind fun x88=>some (Fl.nx ((j65.set ((wr (s55.2 + 1))).toNat (x83 ^^^ r86)),wr (s55.2 + 1)))) else (some (Fl.ex s55.1))
def Xh (p0 : Int) (p1 : (List UInt8)) (s10 : Int × (List UInt8)) (x17 : UInt8) (s27 : (List UInt8) × Int) : Option (Fl ((List UInt8) × Int) (List UInt8)) :=
 if (decide (s27.2 < (p1.length : Int))) = true then (((idx p1 s27.2).bind fun x39=>if (s27.2 == s10.1) = true then (some s27.1) else ((Y4 p0 (x17 ^^^ x39)).bind fun r44=>(mkS 1 (0 : UInt8) (wr ((s27.1.length : Int) + 1))).bind fun l46=>(ZH (Xi p0 s27 x39 r44) (l46,0)).bind fun j50=>some j50) : Option ((List UInt8))).bind fun j34=>some (Fl.nx (j34,wr (s27.2 + 1)))) else (some (Fl.ex s27.1))
def X0 (p0 : Int) (p2 : (List UInt8)) (s10 : Int × (List UInt8)) (j22 : (List UInt8)) (s99 : (List UInt8) × Int) : Option (Fl ((List UInt8) × Int) (List UInt8)) :=
 if (decide (s99.2 < (j22.length : Int))) = true then ((idx j22 s99.2).bind fun x106=>(idx s99.1 s99.2).bind fun x110=>(idx p2 s10.1).bind fun x113=>(ZM p0 x106 x113).bind fun r116=>(idx s99.1 s99.2).bind fun x118=>some (Fl.nx ((s99.1.set (s99.2).toNat (x110 ^^^ r116)),wr (s99.2 + 1)))) else (some (Fl.ex s99.1))
def X1 (p0 : Int) (p1 : (List UInt8)) (p2 : (List UInt8)) (s10 : Int × (List UInt8)) : Option (Fl (Int × (List UInt8)) (List UInt8)) :=
 if (decide (s10.1 < (p1.length : Int))) = true then ((idx p1 s10.1).bind fun x17=>(ZH (Xh p0 p1 s10 x17) (([1] : List UInt8),0)).bind fun j22=>(ZH (X0 p0 p2 s10 j22) (s10.2,0)).bind fun j94=>some (Fl.nx (wr (s10.1 + 1),j94))) else (some (Fl.ex s10.2))
def Xu (p0 : Int) (p1 : (List UInt8)) (p2 : (List UInt8)) : Option ((List UInt8)) :=
 (mkS 1 (0 : UInt8) (p1.length : Int)).bind fun l1=>(ZH (X1 p0 p1 p2) (0,l1)).bind fun j5=>some j5
theorem Ki (w0 : World) (p0 : Int) (p1 : (List UInt8)) (v1_1 : Value) (hv1_1 : Ro w0 p1 [v1_1]) (p2 : (List UInt8)) (v2_1 : Value) (hv2_1 : Ro w0 p2 [v2_1]) (r : (List UInt8)) (hF : Xu p0 p1 p2 = some r) :
  Calls Tryz.prog 62 [vI p0,v1_1,v2_1].toArray w0 (fun en w'=>∃ v,en = .returned v ∧ (∃ (y1 : Value),v = y1 ∧ Fr w0 w' [osl NoB (r : List UInt8) y1] ∧ Kept (Old w0) w0 w')):=by
 refine ce Tryz.func62 ?_
 intro a hE
 have hM:=M.start w0
 unfold Xu at hF
 refine Zc (Zb hE rfl fun a hE=>Ze (Zc (Zd hE rfl fun a hE=>ZL hE rfl Tryz.underlying22 (hM.rd hv1_1) ?_))); intro a hE
 obtain ⟨l1,e2,hF⟩:=bind_some hF
 refine Hq hE hM Za ld rfl rfl Tryz.underlying22 ty5 rfl (by decide) (fun _=>QQ.2 ⟨rfl,rfl⟩) e2 fun u3 w a hM hE=>Zb hE rfl fun a hE=>Ze (wp_seq (Zc (Zd hE rfl fun a hE=>ZL hE rfl Tryz.underlying22 (hM.rd hv1_1) fun a hE=>Zd hE rfl fun a hE=>Ze ?_)))
 obtain ⟨j5,hl6,hF7⟩:=bind_some hF
 refine ZP (fun a w=>∃ (u8 : Value),Env 106 a [(7,u8)] ∧ M (Old w0) w0 w [osl NoB (j5 : List UInt8) u8]) ?_ ?_
 ·skip
  refine wp_block ?_
  refine ZK (fun (s10 : Int × (List UInt8)) a w=>∃ (u11 : Value),Env 106 a [(0,vI p0),(1,v1_1),(2,v2_1),(7,u11),(22,v1_1),(23,(vI (p1.length : Int))),(24,vI s10.1)] ∧ M (Old w0) w0 w [osl NoB (s10.2 : List UInt8) u11]) hl6 ⟨u3,hE.sub ⟨rfl,rfl,rfl,rfl,rfl,rfl,rfl,trivial⟩,hM⟩ ?_
  rintro s10 a w ⟨u11,hE,hM⟩ o15 hs13 hx14
  unfold X1 at hs13
  refine Zc (Zk hE rfl rfl rfl fun a hE=>Ze (wp_seq ?_))
  refine Zm hE rfl ?_ ?_
  ·intro hb16
   have hs13:=Zn hs13 hb16
   refine wp_skip (Zu (wp_seq (wp_block (Zc (Zd hE rfl ?_))))); intro a hE
   obtain ⟨x17,hi19,hs13⟩:=bix hs13
   refine ZG hE rfl rfl Tryz.underlying22 ty5 (hM.rd hv1_1) hi19.1 fun a hE=>ZX (v:=(vB x17)) hE rfl ty5 rfl (ZS (hM.rd hv1_1) hi19.2) fun a hE=>Zb hE rfl fun a hE=>Zb hE rfl fun a hE=>Ze (Zc (ZD (xs:=[.const (vB 1)]) (l:=([1] : List UInt8)) (vs:=[vB 1]) hE hM Za ld rfl rfl Tryz.underlying22 ty5 rfl (by decide) rfl fun u20 w a hM hE=>Zb hE rfl fun a hE=>Ze (wp_seq (Zc (Zd hE rfl fun a hE=>ZL hE rfl Tryz.underlying22 (hM.rd hv1_1) fun a hE=>Zd hE rfl fun a hE=>Ze ?_)))))
   obtain ⟨j22,hl23,hF24⟩:=bind_some hs13
   refine ZP (fun a w=>∃ (u25 : Value),Env 106 a [(0,vI p0),(1,v1_1),(2,v2_1),(7,u11),(8,vI s10.1),(10,u25),(22,v1_1),(23,(vI (p1.length : Int))),(24,vI s10.1)] ∧ M (Old w0) w0 w [osl NoB (s10.2 : List UInt8) u11,osl NoB (j22 : List UInt8) u25]) ?_ ?_
   ·skip
    refine wp_block ?_
    have hM:=hM.pull1
    refine ZK (fun (s27 : (List UInt8) × Int) a w=>∃ (u28 : Value),Env 106 a [(0,vI p0),(1,v1_1),(2,v2_1),(7,u11),(8,vI s10.1),(9,vB x17),(10,u28),(22,v1_1),(23,(vI (p1.length : Int))),(24,vI s10.1),(30,v1_1),(31,(vI (p1.length : Int))),(32,vI s27.2)] ∧ M (Old w0) w0 w [osl NoB (s10.2 : List UInt8) u11,osl NoB (s27.1 : List UInt8) u28]) hl23 ⟨u20,hE.sub ⟨rfl,rfl,rfl,rfl,rfl,rfl,rfl,rfl,rfl,rfl,rfl,rfl,rfl,trivial⟩,hM⟩ ?_
    rintro s27 a w ⟨u28,hE,hM⟩ o32 hs30 hx31
    unfold Xh at hs30
    refine Zc (Zk hE rfl rfl rfl fun a hE=>Ze (wp_seq ?_))
    refine Zm hE rfl ?_ ?_
    ·intro hb33
     have hs30:=Zn hs30 hb33
     refine wp_skip (Zu ?_)
     obtain ⟨j34,hl35,hF36⟩:=bind_some hs30
     refine Zx (fun a w=>∃ (u37 : Value),Env 106 a [(0,vI p0),(1,v1_1),(2,v2_1),(7,u11),(8,vI s10.1),(9,vB x17),(10,u37),(22,v1_1),(23,(vI (p1.length : Int))),(24,vI s10.1),(30,v1_1),(31,(vI (p1.length : Int))),(32,vI s27.2)] ∧ M (Old w0) w0 w [osl NoB (s10.2 : List UInt8) u11,osl NoB (j34 : List UInt8) u37]) ?_ ?_
     ·skip
      refine wp_block (Zc (Zd hE rfl ?_)); intro a hE
      obtain ⟨x39,hi41,hl35⟩:=bix hl35
      refine ZG hE rfl rfl Tryz.underlying22 ty5 (hM.rd hv1_1) hi41.1 fun a hE=>ZX (v:=(vB x39)) hE rfl ty5 rfl (ZS (hM.rd hv1_1) hi41.2) fun a hE=>Zb hE rfl fun a hE=>Zb hE rfl fun a hE=>Ze (wp_seq (Zc (Zd hE rfl fun a hE=>Zd hE rfl fun a hE=>Zk hE rfl rfl rfl fun a hE=>Ze ?_)))
      refine Zm hE rfl ?_ ?_
      ·intro hb42
       have hl35:=Zn hl35 hb42
       refine wp_exit (Zs (Ys ?_))
       obtain rfl:=Option.some.inj hl35
       refine Zi ?_
       exact ⟨u28,hE.sub ⟨rfl,rfl,rfl,rfl,rfl,rfl,rfl,rfl,rfl,rfl,rfl,rfl,rfl,trivial⟩,hM⟩
      ·intro hb42
       have hl35:=Zo hl35 hb42
       refine wp_skip (Zu (Zc (Zd hE rfl fun a hE=>Zd hE rfl fun a hE=>Zd hE rfl fun a hE=>Zk hE rfl rfl (Ur x17 x39) ?_))); intro a hE
       obtain ⟨r44,e45,hl35⟩:=bind_some hl35
       refine Zq hE rfl cb56 (U6 _ p0 (x17 ^^^ x39) r44 e45) ?_
       rintro v w a ⟨rfl,hK⟩ hE
       have hM:=hM.keep hK
       refine Zb hE rfl fun a hE=>Ze (Zc (Zd hE rfl fun a hE=>ZL hE rfl Tryz.underlying22 (hM.sl (pre:=[_]) noB) fun a hE=>Zk hE rfl rfl rfl ?_)); intro a hE
       obtain ⟨l46,e47,hl35⟩:=bind_some hl35
       refine Hq hE hM Za ld rfl rfl Tryz.underlying22 ty5 rfl (by decide) (fun _=>QQ.2 ⟨rfl,rfl⟩) e47 fun u48 w a hM hE=>Zb hE rfl fun a hE=>Ze (wp_seq (Zc (Zd hE rfl fun a hE=>ZL hE rfl Tryz.underlying22 (hM.sl (pre:=[_,_]) noB) fun a hE=>Zd hE rfl fun a hE=>Ze ?_)))
       obtain ⟨j50,hl51,hF52⟩:=bind_some hl35
       refine ZP (fun a w=>∃ (u53 : Value),Env 106 a [(0,vI p0),(1,v1_1),(2,v2_1),(7,u11),(8,vI s10.1),(9,vB x17),(14,u53),(22,v1_1),(23,(vI (p1.length : Int))),(24,vI s10.1),(30,v1_1),(31,(vI (p1.length : Int))),(32,vI s27.2)] ∧ M (Old w0) w0 w [osl NoB (s10.2 : List UInt8) u11,osl NoB (j50 : List UInt8) u53]) ?_ ?_
       ·skip
        refine wp_block ?_
        have hM:=hM.pull2.pull2
        refine ZK (fun (s55 : (List UInt8) × Int) a w=>∃ (u56 : Value),Env 106 a [(0,vI p0),(1,v1_1),(2,v2_1),(7,u11),(8,vI s10.1),(9,vB x17),(12,vB x39),(13,vB r44),(14,u56),(22,v1_1),(23,(vI (p1.length : Int))),(24,vI s10.1),(30,v1_1),(31,(vI (p1.length : Int))),(32,vI s27.2),(49,u28),(50,(vI (s27.1.length : Int))),(51,vI s55.2)] ∧ M (Old w0) w0 w [osl NoB (s10.2 : List UInt8) u11,osl NoB (s27.1 : List UInt8) u28,osl NoB (s55.1 : List UInt8) u56]) hl51 ⟨u48,hE.sub ⟨rfl,rfl,rfl,rfl,rfl,rfl,rfl,rfl,rfl,rfl,rfl,rfl,rfl,rfl,rfl,rfl,rfl,rfl,trivial⟩,hM⟩ ?_
        rintro s55 a w ⟨u56,hE,hM⟩ o60 hs58 hx59
        unfold Xi at hs58
        refine Zc (Zk hE rfl rfl rfl fun a hE=>Ze (wp_seq ?_))
        refine Zm hE rfl ?_ ?_
        ·intro hb61
         have hs58:=Zn hs58 hb61
         refine wp_skip (Zu (wp_seq (wp_block (Zc (Zd hE rfl ?_))))); intro a hE
         obtain ⟨x62,hi64,hs58⟩:=bix hs58
         refine ZG hE rfl rfl Tryz.underlying22 ty5 (hM.sl (pre:=[_]) noB) hi64.1 fun a hE=>ZX (v:=(vB x62)) hE rfl ty5 rfl (ZS (hM.sl (pre:=[_]) noB) hi64.2) fun a hE=>Zb hE rfl fun a hE=>Zb hE rfl fun a hE=>Ze ?_
         obtain ⟨j65,hl66,hF67⟩:=bind_some hs58
         refine Zx (fun a w=>∃ (u68 : Value),Env 106 a [(0,vI p0),(1,v1_1),(2,v2_1),(7,u11),(8,vI s10.1),(9,vB x17),(12,vB x39),(13,vB r44),(14,u68),(15,vI s55.2),(16,vB x62),(22,v1_1),(23,(vI (p1.length : Int))),(24,vI s10.1),(30,v1_1),(31,(vI (p1.length : Int))),(32,vI s27.2),(49,u28),(50,(vI (s27.1.length : Int))),(51,vI s55.2)] ∧ M (Old w0) w0 w [osl NoB (s10.2 : List UInt8) u11,osl NoB (s27.1 : List UInt8) u28,osl NoB (j65 : List UInt8) u68]) ?_ ?_
         ·skip
          obtain ⟨x71,hi73,hl66⟩:=bix hl66
          obtain ⟨r74,e75,hl66⟩:=bind_some hl66
          obtain ⟨r76,e77,hl66⟩:=bind_some hl66
          obtain ⟨x78,hi80,hl66⟩:=bix hl66
          refine YA [56,57,58,59,60,61,62,63,64,65,66,67,68] Wb rfl rfl (by decide) rfl hE hM (qsP (fun z=>Zh z.E Za ld rfl (kr0 rfl)) (qsP (fun z=>Zh z.E Za ld rfl (kr0 rfl)) (qsP (fun z=>ZA z.E Za ld rfl rfl Tryz.underlying22 ty5 (z.M.sl (pre:=[_,_]) noB) hi73.1 (kr0 rfl)) (qsP (fun z=>ZE (v:=(vB x71)) z.E Za ld rfl ty5 rfl (ZS (z.M.sl (pre:=[_,_]) noB) hi73.2) (kr0 rfl)) (qsP (fun z=>Zh z.E Za ld rfl (kr0 rfl)) (qsP (fun z=>Zh z.E Za ld rfl (kr0 rfl)) (qsP (fun z=>Zh z.E Za ld rfl (kr0 rfl)) (qsP (fun z=>Zh z.E Za ld rfl (kr0 rfl)) (qsP (fun z=>ZW z.E Za ld rfl An (Z5 _ p0 x62 x39 r74 e75) (kc rfl)) (qsP (fun z=>Zh z.E Za ld rfl (kr0 rfl)) (qsP (fun z=>ZW z.E Za ld rfl An (Z5 _ p0 r74 r44 r76 e77) (kc rfl)) (qsP (v:=(vB (x71 ^^^ r76))) (fun z=>ZJ z.E Za ld rfl rfl (Ur x71 r76) (kr0 rfl)) (qsP (fun z=>ZA z.E Za ld rfl rfl Tryz.underlying22 ty5 (z.M.sl (pre:=[_,_]) noB) hi80.1 (kr0 rfl)) qs0))))))))))))) ?_
          ·intro a w u hE hM
           have hM:=hM.pull2
           refine U2 (i:=(s55.2).toNat) (k0:=0) (seg:=[(vB (x71 ^^^ r76))]) (xo:=x78) (xn:=x71 ^^^ r76) hE hM Za rfl rfl rfl ty5 rfl (Flat.cell (x71 ^^^ r76 : UInt8)) hi80.2 (TT (m:=1) rfl (by decide)) (ZZ rfl) fun w a hM hE=>Zj ?_
           obtain rfl:=Option.some.inj hl66
           refine Zi ?_
           have hM:=hM.pull2.pull2
           exact ⟨u56,hE.sub ⟨rfl,rfl,rfl,rfl,rfl,rfl,rfl,rfl,rfl,rfl,rfl,rfl,rfl,rfl,rfl,rfl,rfl,rfl,rfl,rfl,trivial⟩,hM⟩
         ·skip
          rintro a w ⟨u68,hE,hM⟩
          obtain ⟨x83,hi85,hF67⟩:=bix hF67
          obtain ⟨r86,e87,hF67⟩:=bind_some hF67
          obtain ⟨x88,hi90,hF67⟩:=bix hF67
          refine YA [69,70,71,72,73,74,75,76,77,78,79] Wb rfl rfl (by decide) rfl hE hM (qsP (fun z=>Zh z.E Za ld rfl (kr0 rfl)) (qsP (fun z=>Zh z.E Za ld rfl (kr0 rfl)) (qsP (v:=(vI (wr (s55.2 + 1)))) (fun z=>ZJ z.E Za ld rfl rfl rfl (kr0 rfl)) (qsP (fun z=>ZA z.E Za ld rfl rfl Tryz.underlying22 ty5 (z.M.sl (pre:=[_,_]) noB) hi85.1 (kr0 rfl)) (qsP (fun z=>ZE (v:=(vB x83)) z.E Za ld rfl ty5 rfl (ZS (z.M.sl (pre:=[_,_]) noB) hi85.2) (kr0 rfl)) (qsP (fun z=>Zh z.E Za ld rfl (kr0 rfl)) (qsP (fun z=>Zh z.E Za ld rfl (kr0 rfl)) (qsP (fun z=>Zh z.E Za ld rfl (kr0 rfl)) (qsP (fun z=>ZW z.E Za ld rfl An (Z5 _ p0 x62 r44 r86 e87) (kc rfl)) (qsP (v:=(vB (x83 ^^^ r86))) (fun z=>ZJ z.E Za ld rfl rfl (Ur x83 r86) (kr0 rfl)) (qsP (fun z=>ZA z.E Za ld rfl rfl Tryz.underlying22 ty5 (z.M.sl (pre:=[_,_]) noB) hi90.1 (kr0 rfl)) qs0))))))))))) ?_
          ·intro a w u hE hM
           have hM:=hM.pull2
           refine U2 (i:=((wr (s55.2 + 1))).toNat) (k0:=0) (seg:=[(vB (x83 ^^^ r86))]) (xo:=x88) (xn:=x83 ^^^ r86) hE hM Za rfl rfl rfl ty5 rfl (Flat.cell (x83 ^^^ r86 : UInt8)) hi90.2 (TT (m:=1) rfl (by decide)) (ZZ rfl) fun w a hM hE=>Zj (Yg (Zu (wp_region_lit (Zk hE rfl rfl rfl fun a hE=>Zd hE rfl fun a hE=>Zj (Zi ?_)))))
           have hM:=hM.pull2.pull2
           exact ⟨_,(ois hF67),u68,hE.sub ⟨rfl,rfl,rfl,rfl,rfl,rfl,rfl,rfl,rfl,rfl,rfl,rfl,rfl,rfl,rfl,rfl,rfl,rfl,trivial⟩,hM⟩
        ·intro hb61
         have hs58:=Zo hs58 hb61
         refine wp_exit (Zs (Zs (Ys ?_)))
         obtain rfl:=hx59 _ (ois hs58)
         refine Zi ?_
         have hM:=M.fst (l:=[_,_]) hM.pull2.pull1
         exact ⟨u56,hE.sub ⟨rfl,rfl,rfl,rfl,rfl,rfl,rfl,rfl,rfl,rfl,rfl,rfl,rfl,trivial⟩,hM⟩
       ·skip
        rintro a w ⟨u53,hE,hM⟩
        refine Zu (wp_region_lit (Zd hE rfl fun a hE=>Zb hE rfl fun a hE=>Zj (Yg ?_)))
        obtain rfl:=Option.some.inj hF52
        refine Zi ?_
        exact ⟨u53,hE.sub ⟨rfl,rfl,rfl,rfl,rfl,rfl,rfl,rfl,rfl,rfl,rfl,rfl,rfl,trivial⟩,hM⟩
     ·skip
      rintro a w ⟨u37,hE,hM⟩
      refine wp_region_lit (Zk hE rfl rfl rfl fun a hE=>Zd hE rfl fun a hE=>Zj (Zi ?_))
      exact ⟨_,(ois hF36),u37,hE.sub ⟨rfl,rfl,rfl,rfl,rfl,rfl,rfl,rfl,rfl,rfl,rfl,rfl,rfl,trivial⟩,hM⟩
    ·intro hb33
     have hs30:=Zo hs30 hb33
     refine wp_exit (Zs (Zs (Ys ?_)))
     obtain rfl:=hx31 _ (ois hs30)
     refine Zi ?_
     exact ⟨u28,hE.sub ⟨rfl,rfl,rfl,rfl,rfl,rfl,rfl,rfl,rfl,trivial⟩,hM⟩
   ·skip
    rintro a w ⟨u25,hE,hM⟩
    refine Zu (Zc (Zd hE rfl fun a hE=>ZL hE rfl Tryz.underlying22 (hM.sl (pre:=[_]) noB) fun a hE=>Zd hE rfl fun a hE=>Ze ?_))
    obtain ⟨j94,hl95,hF96⟩:=bind_some hF24
    refine ZP (fun a w=>∃ (u97 : Value),Env 106 a [(0,vI p0),(1,v1_1),(2,v2_1),(7,u97),(22,v1_1),(23,(vI (p1.length : Int))),(24,vI s10.1)] ∧ M (Old w0) w0 w [osl NoB (j94 : List UInt8) u97]) ?_ ?_
    ·skip
     refine wp_block ?_
     have hM:=hM.pull1
     refine ZK (fun (s99 : (List UInt8) × Int) a w=>∃ (u100 : Value),Env 106 a [(0,vI p0),(1,v1_1),(2,v2_1),(7,u100),(8,vI s10.1),(22,v1_1),(23,(vI (p1.length : Int))),(24,vI s10.1),(83,u25),(84,(vI (j22.length : Int))),(85,vI s99.2)] ∧ M (Old w0) w0 w [osl NoB (j22 : List UInt8) u25,osl NoB (s99.1 : List UInt8) u100]) hl95 ⟨u11,hE.sub ⟨rfl,rfl,rfl,rfl,rfl,rfl,rfl,rfl,rfl,rfl,rfl,trivial⟩,hM⟩ ?_
     rintro s99 a w ⟨u100,hE,hM⟩ o104 hs102 hx103
     unfold X0 at hs102
     refine Zc (Zk hE rfl rfl rfl fun a hE=>Ze (wp_seq ?_))
     refine Zm hE rfl ?_ ?_
     ·intro hb105
      have hs102:=Zn hs102 hb105
      refine wp_skip (Zu (wp_seq (wp_block (Zc (Zd hE rfl ?_))))); intro a hE
      obtain ⟨x106,hi108,hs102⟩:=bix hs102
      refine ZG hE rfl rfl Tryz.underlying22 ty5 (hM.sl (pre:=[]) noB) hi108.1 fun a hE=>ZX (v:=(vB x106)) hE rfl ty5 rfl (ZS (hM.sl (pre:=[]) noB) hi108.2) fun a hE=>Zb hE rfl fun a hE=>Zb hE rfl fun a hE=>Ze ?_
      obtain ⟨x110,hi112,hs102⟩:=bix hs102
      obtain ⟨x113,hi115,hs102⟩:=bix hs102
      obtain ⟨r116,e117,hs102⟩:=bind_some hs102
      obtain ⟨x118,hi120,hs102⟩:=bix hs102
      refine YA [90,91,92,93,94,95,96,97,98,99,100,101,102] Wb rfl rfl (by decide) rfl hE hM (qsP (fun z=>Zh z.E Za ld rfl (kr0 rfl)) (qsP (fun z=>Zh z.E Za ld rfl (kr0 rfl)) (qsP (fun z=>ZA z.E Za ld rfl rfl Tryz.underlying22 ty5 (z.M.sl (pre:=[_]) noB) hi112.1 (kr0 rfl)) (qsP (fun z=>ZE (v:=(vB x110)) z.E Za ld rfl ty5 rfl (ZS (z.M.sl (pre:=[_]) noB) hi112.2) (kr0 rfl)) (qsP (fun z=>Zh z.E Za ld rfl (kr0 rfl)) (qsP (fun z=>Zh z.E Za ld rfl (kr0 rfl)) (qsP (fun z=>Zh z.E Za ld rfl (kr0 rfl)) (qsP (fun z=>Zh z.E Za ld rfl (kr0 rfl)) (qsP (fun z=>ZA z.E Za ld rfl rfl Tryz.underlying22 ty5 (z.M.rd hv2_1) hi115.1 (kr0 rfl)) (qsP (fun z=>ZE (v:=(vB x113)) z.E Za ld rfl ty5 rfl (ZS (z.M.rd hv2_1) hi115.2) (kr0 rfl)) (qsP (fun z=>ZW z.E Za ld rfl An (Z5 _ p0 x106 x113 r116 e117) (kc rfl)) (qsP (v:=(vB (x110 ^^^ r116))) (fun z=>ZJ z.E Za ld rfl rfl (Ur x110 r116) (kr0 rfl)) (qsP (fun z=>ZA z.E Za ld rfl rfl Tryz.underlying22 ty5 (z.M.sl (pre:=[_]) noB) hi120.1 (kr0 rfl)) qs0))))))))))))) ?_
      ·intro a w u hE hM
       have hM:=hM.pull1
       refine U2 (i:=(s99.2).toNat) (k0:=0) (seg:=[(vB (x110 ^^^ r116))]) (xo:=x118) (xn:=x110 ^^^ r116) hE hM Za rfl rfl rfl ty5 rfl (Flat.cell (x110 ^^^ r116 : UInt8)) hi120.2 (TT (m:=1) rfl (by decide)) (ZZ rfl) fun w a hM hE=>Zj (Yg (Zu (wp_region_lit (Zk hE rfl rfl rfl fun a hE=>Zd hE rfl fun a hE=>Zj (Zi ?_)))))
       have hM:=hM.pull1
       exact ⟨_,(ois hs102),u100,hE.sub ⟨rfl,rfl,rfl,rfl,rfl,rfl,rfl,rfl,rfl,rfl,rfl,trivial⟩,hM⟩
     ·intro hb105
      have hs102:=Zo hs102 hb105
      refine wp_exit (Zs (Zs (Ys ?_)))
      obtain rfl:=hx103 _ (ois hs102)
      refine Zi ?_
      have hM:=M.fst (l:=[_]) hM.pull1
      exact ⟨u100,hE.sub ⟨rfl,rfl,rfl,rfl,rfl,rfl,rfl,trivial⟩,hM⟩
    ·skip
     rintro a w ⟨u97,hE,hM⟩
     refine Yg (Zu (wp_region_lit (Zk hE rfl rfl rfl fun a hE=>Zd hE rfl fun a hE=>Zj (Zi ?_))))
     exact ⟨_,(ois hF96),u97,hE.sub ⟨rfl,rfl,rfl,rfl,rfl,rfl,rfl,trivial⟩,hM⟩
  ·intro hb16
   have hs13:=Zo hs13 hb16
   refine wp_exit (Zs (Zs (Ys ?_)))
   obtain rfl:=hx14 _ (ois hs13)
   refine Zi ?_
   exact ⟨u11,hE.sub ⟨rfl,trivial⟩,hM⟩
 ·skip
  rintro a w ⟨u8,hE,hM⟩
  refine Zu (Zc (Zd hE rfl fun a hE=>Zb hE rfl fun a hE=>Ze ?_))
  obtain rfl:=Option.some.inj hF7
  exact wp_ret (Yb hE rfl (Zl hE rfl) ⟨_,rfl,u8,rfl,hM.outF (Z8 Yd),hM.kept⟩)
def Wq (p0 : Int) (p1 : (List UInt8)) (p2 : (List UInt8)) : Option ((List UInt8) × Int) :=
 (WC p0).bind fun r1=>if (!r1) = true then (some ([],1)) else (((X9 p1).bind fun r8=>(YQ r8 1 40).bind fun r10=>if (!r10) = true then (some true) else (some ((p2.length : Int) != (p1.length : Int))) : Option (Bool)).bind fun j5=>if j5 = true then (some ([],2)) else ((Xl p1).bind fun r17=>if (!r17) = true then (some ([],5)) else ((Xu p0 p1 p2).bind fun r21=>some (r21,0))))
theorem Jn (w0 : World) (p0 : Int) (p1 : (List UInt8)) (v1_1 : Value) (hv1_1 : Ro w0 p1 [v1_1]) (p2 : (List UInt8)) (v2_1 : Value) (hv2_1 : Ro w0 p2 [v2_1]) (r : (List UInt8) × Int) (hF : Wq p0 p1 p2 = some r) :
  Calls Tryz.prog 17 [vI p0,v1_1,v2_1].toArray w0 (fun en w'=>∃ v,en = .returned v ∧ (∃ (y1 : Value),v = (Value.tuple [y1,vI r.2].toArray) ∧ Fr w0 w' [osl NoB (r.1 : List UInt8) y1] ∧ Kept (Old w0) w0 w')):=by
 refine ce Tryz.func17 ?_
 intro a hE
 have hM:=M.start w0
 unfold Wq at hF
 refine Zc (Zb hE rfl fun a hE=>Zb hE rfl fun a hE=>Ze (wp_seq (wp_block (Zc (Zd hE rfl ?_))))); intro a hE
 obtain ⟨r1,e2,hF⟩:=bind_some hF
 refine Zq hE rfl cb51 (TX _ p0 r1 e2) ?_
 rintro v w a ⟨rfl,hK⟩ hE
 have hM:=hM.keep hK
 refine Ve hE rfl fun a hE=>Zb hE rfl fun a hE=>Ze ?_
 refine Zm hE rfl ?_ ?_
 ·intro hb3
  have hF:=Zn hF hb3
  refine Zc (Zb hE rfl fun a hE=>Zb hE rfl fun a hE=>Ze ?_)
  have hM:=M.nilS (α:=UInt8) NoB noB hM
  obtain rfl:=Option.some.inj hF
  exact wp_ret (Z4 (Zr (Z0 hE rfl (Zl hE rfl) (Zl hE rfl) ⟨_,rfl,(Value.slice none 0 0),rfl,hM.outF (Z8 Yd),hM.kept⟩)))
 ·intro hb3
  have hF:=Zo hF hb3
  obtain ⟨j5,hl6,hF7⟩:=bind_some hF
  refine Zx (fun a w=>Env 32 a [(0,vI p0),(1,v1_1),(2,v2_1),(12,vT j5)] ∧ M (Old w0) w0 w []) ?_ ?_
  ·skip
   refine wp_region_lit (Zd hE rfl ?_); intro a hE
   obtain ⟨r8,e9,hl6⟩:=bind_some hl6
   refine Zq hE rfl (cbm Tryz.func53) (QN _ p1 v1_1 (hM.rdo hv1_1) r8 e9) ?_
   rintro v w a ⟨rfl,hK⟩ hE
   have hM:=hM.keep hK
   obtain ⟨r10,e11,hl6⟩:=bind_some hl6
   refine Zq hE rfl cb52 (Un _ r8 1 40 r10 e11) ?_
   rintro v w a ⟨rfl,hK⟩ hE
   have hM:=hM.keep hK
   refine Ve hE rfl fun a hE=>Zd hE rfl ?_; intro a hE
   refine ZO (!r10) (fun hb12=>?_) (fun hb12=>?_)
   ·have hl6:=Zn hl6 hb12
    refine Zg hE rfl (lkb rfl hb12) rfl (by decide) fun a hE=>Zg hE rfl (lkb rfl hb12) rfl (by decide) fun a hE=>Zg hE rfl (lkb rfl hb12) rfl (by decide) fun a hE=>Zg hE rfl (lkb rfl hb12) rfl (by decide) fun a hE=>Zg hE rfl (lkb rfl hb12) rfl (by decide) fun a hE=>ZB hE (lkb rfl hb12) rfl fun a hE=>Zb hE rfl fun a hE=>Zj ?_
    obtain rfl:=Option.some.inj hl6
    refine Zi ?_
    exact ⟨hE.sub ⟨rfl,rfl,rfl,rfl,trivial⟩,hM⟩
   ·have hl6:=Zo hl6 hb12
    refine Zh hE (Zf hE rfl (lkb rfl hb12)) (by decide) rfl fun a hE=>XN hE (Zf hE rfl (lkb rfl hb12)) (by decide) rfl Tryz.underlying22 (hM.rd hv2_1) fun a hE=>Zh hE (Zf hE rfl (lkb rfl hb12)) (by decide) rfl fun a hE=>XN hE (Zf hE rfl (lkb rfl hb12)) (by decide) rfl Tryz.underlying22 (hM.rd hv1_1) fun a hE=>ZJ hE (Zf hE rfl (lkb rfl hb12)) (by decide) rfl rfl rfl fun a hE=>Zy hE (lkb rfl hb12) rfl fun a hE=>Zb hE rfl fun a hE=>Zj ?_
    obtain rfl:=Option.some.inj hl6
    refine Zi ?_
    exact ⟨hE.sub ⟨rfl,rfl,rfl,rfl,trivial⟩,hM⟩
  ·skip
   rintro a w ⟨hE,hM⟩
   refine Zm hE rfl ?_ ?_
   ·intro hb15
    have hF7:=Zn hF7 hb15
    refine Zc (Zb hE rfl fun a hE=>Zb hE rfl fun a hE=>Ze ?_)
    have hM:=M.nilS (α:=UInt8) NoB noB hM
    obtain rfl:=Option.some.inj hF7
    exact wp_ret (Z4 (Zr (Z0 hE rfl (Zl hE rfl) (Zl hE rfl) ⟨_,rfl,(Value.slice none 0 0),rfl,hM.outF (Z8 Yd),hM.kept⟩)))
   ·intro hb15
    have hF7:=Zo hF7 hb15
    refine Zc (Zd hE rfl ?_); intro a hE
    obtain ⟨r17,e18,hF7⟩:=bind_some hF7
    refine Zq hE rfl cb61 (Tl _ p1 v1_1 (hM.rdo hv1_1) r17 e18) ?_
    rintro v w a ⟨rfl,hK⟩ hE
    have hM:=hM.keep hK
    refine Ve hE rfl fun a hE=>Zb hE rfl fun a hE=>Ze ?_
    refine Zm hE rfl ?_ ?_
    ·intro hb19
     have hF7:=Zn hF7 hb19
     refine Zc (Zb hE rfl fun a hE=>Zb hE rfl fun a hE=>Ze ?_)
     have hM:=M.nilS (α:=UInt8) NoB noB hM
     obtain rfl:=Option.some.inj hF7
     exact wp_ret (Z4 (Zr (Z0 hE rfl (Zl hE rfl) (Zl hE rfl) ⟨_,rfl,(Value.slice none 0 0),rfl,hM.outF (Z8 Yd),hM.kept⟩)))
    ·intro hb19
     have hF7:=Zo hF7 hb19
     refine wp_skip (Yg (Zu (Zc (Zd hE rfl fun a hE=>Zd hE rfl fun a hE=>Zd hE rfl ?_)))); intro a hE
     obtain ⟨r21,e22,hF7⟩:=bind_some hF7
     refine Zq hE rfl (cbm Tryz.func62) (Ki _ p0 p1 v1_1 (hM.rdo hv1_1) p2 v2_1 (hM.rdo hv2_1) r21 e22) ?_
     rintro u23 w a ⟨_,rfl,hFr,hK⟩ hE
     have hM:=hM.add hK hFr
     refine Zb hE rfl fun a hE=>Zb hE rfl fun a hE=>Ze ?_
     obtain rfl:=Option.some.inj hF7
     exact wp_ret (Z0 hE rfl (Zl hE rfl) (Zl hE rfl) ⟨_,rfl,u23,rfl,hM.outF (Z8 Yd),hM.kept⟩)
def TP (p0 : Int) (p1 : UInt8) (p2 : UInt8) : Option (UInt8 × Int) :=
 (WC p0).bind fun r1=>if (!r1) = true then (some (0,1)) else ((ZM p0 p1 p2).bind fun r4=>some (r4,0))
theorem AD (w0 : World) (p0 : Int) (p1 : UInt8) (p2 : UInt8) (r : UInt8 × Int) (hF : TP p0 p1 p2 = some r) :
  Calls Tryz.prog 18 [vI p0,vB p1,vB p2].toArray w0 (Rt w0 (Value.tuple [vB r.1,vI r.2].toArray)):=by
 refine ce Tryz.func18 ?_
 intro a hE
 have hM:=M.start w0
 unfold TP at hF
 refine Zc (Zb hE rfl fun a hE=>Zb hE rfl fun a hE=>Ze (wp_seq (Zc (Zd hE rfl ?_)))); intro a hE
 obtain ⟨r1,e2,hF⟩:=bind_some hF
 refine Zq hE rfl cb51 (TX _ p0 r1 e2) ?_
 rintro v w a ⟨rfl,hK⟩ hE
 have hM:=hM.keep hK
 refine Ve hE rfl fun a hE=>Ze ?_
 refine Zm hE rfl ?_ ?_
 ·intro hb3
  have hF:=Zn hF hb3
  refine Zc (Zb hE rfl fun a hE=>Zb hE rfl fun a hE=>Ze ?_)
  obtain rfl:=Option.some.inj hF
  exact wp_ret (Zr (Z0 hE rfl (Zl hE rfl) (Zl hE rfl) ⟨_,rfl,rfl,hM.kept⟩))
 ·intro hb3
  have hF:=Zo hF hb3
  refine wp_skip (Zu (Zc (Zd hE rfl fun a hE=>Zd hE rfl fun a hE=>Zd hE rfl ?_))); intro a hE
  obtain ⟨r4,e5,hF⟩:=bind_some hF
  refine Zq hE rfl An (Z5 _ p0 p1 p2 r4 e5) ?_
  rintro v w a ⟨rfl,hK⟩ hE
  have hM:=hM.keep hK
  refine Zb hE rfl fun a hE=>Zb hE rfl fun a hE=>Ze ?_
  obtain rfl:=Option.some.inj hF
  exact wp_ret (Z0 hE rfl (Zl hE rfl) (Zl hE rfl) ⟨_,rfl,rfl,hM.kept⟩)
def WO (p0 : (List UInt8)) : Option (Int × (List UInt8) × (List UInt8) × (List GShare) × Int) :=
 (Y1 p0).bind fun r1=>(XY p0 (r1.1,r1.2)).bind fun r5=>(if (decide ((r5.2.2.1.length : Int) > 0)) = true then ((idx r5.2.2.1 (0 : Int)).bind fun x12=>some (x12.Data.length : Int)) else (some 0) : Option (Int)).bind fun j8=>((if (decide ((r5.2.2.1.length : Int) > 1)) = true then (if (decide ((r5.2.2.1.length : Int) ≥ r5.2.2.2)) = true then (if (decide (r5.2.2.2 > 1)) = true then (if (decide (r5.2.2.2 < 9)) = true then ((Zw p0 (r5.1.1,r5.1.2) 2).bind fun r32=>some (r32.1.1,r32.1.2,r32.2 == 0)) else (some (r5.1.1,r5.1.2,false))) else (some (r5.1.1,r5.1.2,false))) else (some (r5.1.1,r5.1.2,false))) else (some (r5.1.1,r5.1.2,false)) : Option (Int × Int × Bool)).bind fun j25=>if j25.2.2 = true then ((slc r5.2.2.1 (0 : Int) (wr (r5.2.2.2 - 1))).bind fun l40=>some (j25.1,j25.2.1,l40)) else (some (j25.1,j25.2.1,r5.2.2.1)) : Option (Int × Int × (List GShare))).bind fun j20=>(Y9 p0 (j20.1,j20.2.1) j8).bind fun r45=>(Zw p0 (r45.1.1,r45.1.2) 4).bind fun r48=>if (r48.2 == 0) = true then (some (r5.2.1,r45.2,r45.2,j20.2.2,r5.2.2.2)) else ((Zw p0 (r48.1.1,r48.1.2) 16).bind fun r52=>(Y9 p0 (r52.1.1,r52.1.2) (wr (j8 + (wr (Int.tdiv r52.2 15))))).bind fun r54=>some (r5.2.1,r45.2,r54.2,j20.2.2,r5.2.2.2))
theorem JS (w0 : World) (p0 : (List UInt8)) (v0_1 : Value) (hv0_1 : Ro w0 p0 [v0_1]) (r : Int × (List UInt8) × (List UInt8) × (List GShare) × Int) (hF : WO p0 = some r) :
  Calls Tryz.prog 19 [v0_1].toArray w0 (fun en w'=>∃ v,en = .returned v ∧ (∃ (y1 : Value) (y2 : Value) (y3 : Value),v = (Value.tuple [vI r.1,y1,y2,y3,vI r.2.2.2.2].toArray) ∧ Fr w0 w' [osl NoB (r.2.1 : List UInt8) y1,osl NoB (r.2.2.2.1 : List GShare) y3] ∧ Ro w' (r.2.2.1 : (List UInt8)) [y2] ∧ Kept (Old w0) w0 w')):=by
 refine ce Tryz.func19 ?_
 intro a hE
 have hM:=M.start w0
 unfold WO at hF
 refine Zc (Zb hE rfl fun a hE=>Zb hE rfl fun a hE=>Zb hE rfl fun a hE=>Zb hE rfl fun a hE=>Zb hE rfl fun a hE=>Ze (Zc (Zd hE rfl ?_))); intro a hE
 have hM:=M.tailP (m:=[]) hM
 obtain ⟨r1,e2,hF⟩:=bind_some hF
 refine Zq hE rfl kl (Vj _ _ _ _ p0 v0_1 hv0_1 hM r1 e2) ?_
 rintro v w a ⟨b3,rfl,hM⟩ hE
 have hM:=M.tailU (m:=[_]) hM
 simp only [List.cons_append,List.nil_append] at hM
 refine Zb hE rfl fun a hE=>Ze (Zc (Zd hE rfl ?_)); intro a hE
 have hM:=M.tailP (m:=[_]) hM
 obtain ⟨r5,e6,hF⟩:=bind_some hF
 refine Zq hE rfl cb39 (TC _ _ _ _ b3 p0 v0_1 hv0_1 (r1.1,r1.2) hM r5 e6) ?_
 rintro v w a ⟨u7,rfl,hM⟩ hE
 have hM:=M.tailU (m:=[_,_]) hM
 simp only [List.cons_append,List.nil_append] at hM
 refine Zd hE rfl fun a hE=>Zt hE Za ld rfl rfl fun a hE=>Zt hE Za ld rfl rfl fun a hE=>Zt hE Za ld rfl rfl fun a hE=>Zb hE rfl fun a hE=>Zb hE rfl fun a hE=>Zb hE rfl fun a hE=>Ze (Zc (Zb hE rfl fun a hE=>Ze ?_))
 obtain ⟨j8,hl9,hF10⟩:=bind_some hF
 refine Zx (fun a w=>Env 77 a [(7,(ptr b3 0)),(8,vI r5.2.1),(9,u7),(10,vI r5.2.2.2),(11,vI j8)] ∧ M (Old w0) w0 w [raw b3 (cat [[v0_1],[vI r5.1.1],[(Value.int .u64 r5.1.2)]]),osl NoB (r5.2.2.1 : List GShare) u7]) ?_ ?_
 ·skip
  refine Zc (Zd hE rfl fun a hE=>ZL hE rfl Tryz.underlying24 (hM.sl (pre:=[_]) noB) fun a hE=>Zk hE rfl rfl rfl fun a hE=>Ze ?_)
  refine Zm hE rfl ?_ ?_
  ·intro hb11
   have hl9:=Zn hl9 hb11
   refine wp_region_lit (Zd hE rfl ?_); intro a hE
   obtain ⟨x12,hi14,hl9⟩:=bix hl9
   refine ZG hE rfl rfl Tryz.underlying24 ZN (hM.sl (pre:=[_]) noB) hi14.1 fun a hE=>ZI hE rfl (Yj) ?_; intro a hE
   have hM:=hM.pull1
   obtain ⟨cs15,hM,_⟩:=hM.open1 noB hi14.2
   obtain ⟨_,hx,_⟩:=hM.head
   obtain ⟨u16,_,rfl,_,_⟩:=VL hx
   have hM:=Tc hM
   refine ZX (v:=u16) hE rfl YS rfl (At.cat (pre:=[[vB x12.Place]]) (hM.holeAt (pre:=[_])) ck) fun a hE=>ZL hE rfl Tryz.underlying22 (hM.ro (pre:=[]) noB) fun a hE=>Zb hE rfl fun a hE=>Zj ?_
   have hM:=(UJ (x:=x12) hM siw).close0 noB hi14.2
   obtain rfl:=Option.some.inj hl9
   refine Zi ?_
   have hM:=hM.pull1
   exact ⟨hE.sub ⟨rfl,rfl,rfl,rfl,rfl,trivial⟩,hM⟩
  ·intro hb11
   have hl9:=Zo hl9 hb11
   refine wp_skip ?_
   obtain rfl:=Option.some.inj hl9
   refine Zi ?_
   exact ⟨hE.sub ⟨rfl,rfl,rfl,rfl,rfl,trivial⟩,hM⟩
 ·skip
  rintro a w ⟨hE,hM⟩
  obtain ⟨j20,hl21,hF22⟩:=bind_some hF10
  refine Zx (fun a w=>∃ (u23 : Value),Env 77 a [(7,(ptr b3 0)),(8,vI r5.2.1),(9,u23),(10,vI r5.2.2.2),(11,vI j8)] ∧ M (Old w0) w0 w [raw b3 (cat [[v0_1],[vI j20.1],[(Value.int .u64 j20.2.1)]]),osl NoB (j20.2.2 : List GShare) u23]) ?_ ?_
  ·skip
   obtain ⟨j25,hl26,hF27⟩:=bind_some hl21
   refine Zx (fun a w=>Env 77 a [(7,(ptr b3 0)),(8,vI r5.2.1),(9,u7),(10,vI r5.2.2.2),(11,vI j8),(50,vT j25.2.2)] ∧ M (Old w0) w0 w [raw b3 (cat [[v0_1],[vI j25.1],[(Value.int .u64 j25.2.1)]]),osl NoB (r5.2.2.1 : List GShare) u7]) ?_ ?_
   ·skip
    refine wp_region_lit (Zd hE rfl fun a hE=>ZL hE rfl Tryz.underlying24 (hM.sl (pre:=[_]) noB) fun a hE=>Zk hE rfl rfl rfl fun a hE=>Zd hE rfl ?_); intro a hE
    refine ZO (decide ((r5.2.2.1.length : Int) > 1)) (fun hb28=>?_) (fun hb28=>?_)
    ·have hl26:=Zn hl26 hb28
     refine Zh hE (Zf hE rfl (lkb rfl hb28)) (by decide) rfl fun a hE=>XN hE (Zf hE rfl (lkb rfl hb28)) (by decide) rfl Tryz.underlying24 (hM.sl (pre:=[_]) noB) fun a hE=>Zh hE (Zf hE rfl (lkb rfl hb28)) (by decide) rfl fun a hE=>ZJ hE (Zf hE rfl (lkb rfl hb28)) (by decide) rfl rfl rfl fun a hE=>ZB hE (lkb rfl hb28) rfl fun a hE=>Zd hE rfl ?_; intro a hE
     refine ZO (decide ((r5.2.2.1.length : Int) ≥ r5.2.2.2)) (fun hb29=>?_) (fun hb29=>?_)
     ·have hl26:=Zn hl26 hb29
      refine Zh hE (Zf hE rfl (lkb rfl hb29)) (by decide) rfl fun a hE=>ZJ hE (Zf hE rfl (lkb rfl hb29)) (by decide) rfl rfl rfl fun a hE=>ZB hE (lkb rfl hb29) rfl fun a hE=>Zd hE rfl ?_; intro a hE
      refine ZO (decide (r5.2.2.2 > 1)) (fun hb30=>?_) (fun hb30=>?_)
      ·have hl26:=Zn hl26 hb30
       refine Zh hE (Zf hE rfl (lkb rfl hb30)) (by decide) rfl fun a hE=>ZJ hE (Zf hE rfl (lkb rfl hb30)) (by decide) rfl rfl rfl fun a hE=>ZB hE (lkb rfl hb30) rfl fun a hE=>Zd hE rfl ?_; intro a hE
       refine ZO (decide (r5.2.2.2 < 9)) (fun hb31=>?_) (fun hb31=>?_)
       ·have hl26:=Zn hl26 hb31
        refine Zh hE (Zf hE rfl (lkb rfl hb31)) (by decide) rfl ?_; intro a hE
        have hM:=M.tailP (m:=[_]) hM
        obtain ⟨r32,e33,hl26⟩:=bind_some hl26
        refine ZW hE (Zf hE rfl (lkb rfl hb31)) (by decide) rfl Tn (ZF _ _ _ _ b3 p0 v0_1 hv0_1 (r5.1.1,r5.1.2) 2 hM r32 e33) ?_
        rintro v w a ⟨rfl,hM⟩ hE
        have hM:=M.tailU (m:=[_]) hM
        simp only [List.cons_append,List.nil_append] at hM
        refine ZJ hE (Zf hE rfl (lkb rfl hb31)) (by decide) rfl rfl rfl fun a hE=>ZB hE (lkb rfl hb31) rfl fun a hE=>Zj ?_
        obtain rfl:=Option.some.inj hl26
        refine Zi ?_
        exact ⟨hE.sub ⟨rfl,rfl,rfl,rfl,rfl,rfl,trivial⟩,hM⟩
       ·have hl26:=Zo hl26 hb31
        refine Zg hE rfl (lkb rfl hb31) rfl (by decide) fun a hE=>Zg hE rfl (lkb rfl hb31) rfl (by decide) fun a hE=>Zg hE rfl (lkb rfl hb31) rfl (by decide) fun a hE=>Zy hE (lkb rfl hb31) rfl fun a hE=>Zj ?_
        obtain rfl:=Option.some.inj hl26
        refine Zi ?_
        exact ⟨hE.sub ⟨rfl,rfl,rfl,rfl,rfl,rfl,trivial⟩,hM⟩
      ·have hl26:=Zo hl26 hb30
       refine Zg hE rfl (lkb rfl hb30) rfl (by decide) fun a hE=>Zg hE rfl (lkb rfl hb30) rfl (by decide) fun a hE=>Zy hE (lkb rfl hb30) rfl fun a hE=>Zd hE rfl fun a hE=>Zg hE rfl rfl rfl (by decide) fun a hE=>Zg hE rfl rfl rfl (by decide) fun a hE=>Zg hE rfl rfl rfl (by decide) fun a hE=>Zy hE rfl rfl fun a hE=>Zj ?_
       obtain rfl:=Option.some.inj hl26
       refine Zi ?_
       exact ⟨hE.sub ⟨rfl,rfl,rfl,rfl,rfl,rfl,trivial⟩,hM⟩
     ·have hl26:=Zo hl26 hb29
      refine Zg hE rfl (lkb rfl hb29) rfl (by decide) fun a hE=>Zg hE rfl (lkb rfl hb29) rfl (by decide) fun a hE=>Zy hE (lkb rfl hb29) rfl fun a hE=>Zd hE rfl fun a hE=>Zg hE rfl rfl rfl (by decide) fun a hE=>Zg hE rfl rfl rfl (by decide) fun a hE=>Zy hE rfl rfl fun a hE=>Zd hE rfl fun a hE=>Zg hE rfl rfl rfl (by decide) fun a hE=>Zg hE rfl rfl rfl (by decide) fun a hE=>Zg hE rfl rfl rfl (by decide) fun a hE=>Zy hE rfl rfl ?_; intro a hE
      refine Zj ?_
      obtain rfl:=Option.some.inj hl26
      refine Zi ?_
      exact ⟨hE.sub ⟨rfl,rfl,rfl,rfl,rfl,rfl,trivial⟩,hM⟩
    ·have hl26:=Zo hl26 hb28
     refine Zg hE rfl (lkb rfl hb28) rfl (by decide) fun a hE=>Zg hE rfl (lkb rfl hb28) rfl (by decide) fun a hE=>Zg hE rfl (lkb rfl hb28) rfl (by decide) fun a hE=>Zg hE rfl (lkb rfl hb28) rfl (by decide) fun a hE=>Zy hE (lkb rfl hb28) rfl fun a hE=>Zd hE rfl fun a hE=>Zg hE rfl rfl rfl (by decide) fun a hE=>Zg hE rfl rfl rfl (by decide) fun a hE=>Zy hE rfl rfl fun a hE=>Zd hE rfl fun a hE=>Zg hE rfl rfl rfl (by decide) fun a hE=>Zg hE rfl rfl rfl (by decide) ?_; intro a hE
     refine Zy hE rfl rfl fun a hE=>Zd hE rfl fun a hE=>Zg hE rfl rfl rfl (by decide) fun a hE=>Zg hE rfl rfl rfl (by decide) fun a hE=>Zg hE rfl rfl rfl (by decide) fun a hE=>Zy hE rfl rfl fun a hE=>Zj ?_
     obtain rfl:=Option.some.inj hl26
     refine Zi ?_
     exact ⟨hE.sub ⟨rfl,rfl,rfl,rfl,rfl,rfl,trivial⟩,hM⟩
   ·skip
    rintro a w ⟨hE,hM⟩
    refine Zm hE rfl ?_ ?_
    ·intro hb39
     have hF27:=Zn hF27 hb39
     refine wp_region_lit (Zd hE rfl fun a hE=>Zd hE rfl fun a hE=>Zk hE rfl rfl rfl ?_); intro a hE
     obtain ⟨l40,e41,hF27⟩:=bind_some hF27
     refine QZ hE Za ld rfl rfl rfl rfl rfl Tryz.underlying24 ZN (hM.sl (pre:=[_]) noB) e41 ?_; intro a hE
     have hM:=hM.pull1.cut noB e41
     refine Zb hE rfl fun a hE=>Zj ?_
     obtain rfl:=Option.some.inj hF27
     refine Zi ?_
     have hM:=hM.pull1
     exact ⟨(Vc u7 ((0 : Int)).toNat ((wr (r5.2.2.2 - 1))).toNat 2),hE.sub ⟨rfl,rfl,rfl,rfl,rfl,trivial⟩,hM⟩
    ·intro hb39
     have hF27:=Zo hF27 hb39
     refine wp_skip ?_
     obtain rfl:=Option.some.inj hF27
     refine Zi ?_
     exact ⟨u7,hE.sub ⟨rfl,rfl,rfl,rfl,rfl,trivial⟩,hM⟩
  ·skip
   rintro a w ⟨u23,hE,hM⟩
   refine Zc (Zd hE rfl fun a hE=>Zd hE rfl ?_); intro a hE
   have hM:=M.tailP (m:=[_]) hM
   obtain ⟨r45,e46,hF22⟩:=bind_some hF22
   refine Zq hE rfl cb63 (VY _ _ _ _ b3 p0 v0_1 hv0_1 (j20.1,j20.2.1) j8 hM r45 e46) ?_
   rintro u47 w a ⟨_,rfl,hM⟩ hE
   have hM:=M.tailU (m:=[_,_]) hM
   simp only [List.cons_append,List.nil_append] at hM
   refine Zb hE rfl fun a hE=>Ze (wp_seq (Zc (Zd hE rfl ?_))); intro a hE
   have hM:=M.tailP (m:=[_]) hM
   obtain ⟨r48,e49,hF22⟩:=bind_some hF22
   refine Zq hE rfl Tn (ZF _ _ _ _ b3 p0 v0_1 hv0_1 (r45.1.1,r45.1.2) 4 hM r48 e49) ?_
   rintro v w a ⟨rfl,hM⟩ hE
   have hM:=M.tailU (m:=[_]) hM
   simp only [List.cons_append,List.nil_append] at hM
   refine Zk hE rfl rfl rfl fun a hE=>Ze ?_
   refine Zm hE rfl ?_ ?_
   ·intro hb50
    have hF22:=Zn hF22 hb50
    refine Zc (Zd hE rfl fun a hE=>Zd hE rfl fun a hE=>Zd hE rfl fun a hE=>Zd hE rfl fun a hE=>Zd hE rfl fun a hE=>Zb hE rfl fun a hE=>Zb hE rfl fun a hE=>Zb hE rfl fun a hE=>Zb hE rfl fun a hE=>Zb hE rfl fun a hE=>Ze ?_)
    obtain rfl:=Option.some.inj hF22
    have hro51 : Ro w (r45.2 : (List UInt8)) [u47]:=(hM.sl (pre:=[_]) noB)
    have hM:=M.fst (l:=[_,_]) hM.pull2.pull2
    exact wp_ret (Zr (Zav hE rfl (Zl hE rfl) (Zl hE rfl) (Zl hE rfl) (Zl hE rfl) (Zl hE rfl) ⟨_,rfl,u47,u47,u23,rfl,hM.outF (Z8 (Z8 Yd)),hro51,hM.kept⟩))
   ·intro hb50
    have hF22:=Zo hF22 hb50
    refine wp_skip (Zu (Zc (Zd hE rfl fun a hE=>Zd hE rfl fun a hE=>Zd hE rfl fun a hE=>Zd hE rfl fun a hE=>Zd hE rfl ?_))); intro a hE
    have hM:=M.tailP (m:=[_]) hM
    obtain ⟨r52,e53,hF22⟩:=bind_some hF22
    refine Zq hE rfl Tn (ZF _ _ _ _ b3 p0 v0_1 hv0_1 (r48.1.1,r48.1.2) 16 hM r52 e53) ?_
    rintro v w a ⟨rfl,hM⟩ hE
    have hM:=M.tailU (m:=[_]) hM
    simp only [List.cons_append,List.nil_append] at hM
    refine Zk hE rfl rfl (HB _ _ (by decide)) fun a hE=>Zk hE rfl rfl rfl ?_; intro a hE
    have hM:=M.tailP (m:=[_]) hM
    obtain ⟨r54,e55,hF22⟩:=bind_some hF22
    refine Zq hE rfl cb63 (VY _ _ _ _ b3 p0 v0_1 hv0_1 (r52.1.1,r52.1.2) (wr (j8 + (wr (Int.tdiv r52.2 15)))) hM r54 e55) ?_
    rintro u56 w a ⟨_,rfl,hM⟩ hE
    have hM:=M.tailU (m:=[_,_]) hM
    simp only [List.cons_append,List.nil_append] at hM
    refine Zd hE rfl fun a hE=>Zd hE rfl fun a hE=>Zb hE rfl fun a hE=>Zb hE rfl fun a hE=>Zb hE rfl fun a hE=>Zb hE rfl fun a hE=>Zb hE rfl fun a hE=>Ze ?_
    obtain rfl:=Option.some.inj hF22
    have hro57 : Ro w (r54.2 : (List UInt8)) [u56]:=(hM.sl (pre:=[_]) noB)
    have hM:=M.fst (l:=[_,_]) hM.pull3.pull3
    exact wp_ret (Zav hE rfl (Zl hE rfl) (Zl hE rfl) (Zl hE rfl) (Zl hE rfl) (Zl hE rfl) ⟨_,rfl,u47,u56,u23,rfl,hM.outF (Z8 (Z8 Yd)),hro57,hM.kept⟩)
def Z6 (p1 : Int) : Option ((List GShare)) :=
 (if (decide (p1 < 0)) = true then (none) else (some ()) : Option (Unit)).bind fun j1=>(if (decide ((wr (p1 - (wr (0 - 0)))) > 0)) = true then ((mkS 32 (⟨(0 : UInt8),([] : (List UInt8))⟩ : GShare) (wr (p1 - (wr (0 - 0))))).bind fun l14=>(slc l14 (0 : Int) (0 : Int)).bind fun l16=>some l16) else (some ([])) : Option ((List GShare))).bind fun j6=>some j6
theorem UT (w0 : World) (p1 : Int) (r : (List GShare)) (hF : Z6 p1 = some r) :
  Calls Tryz.prog 110 [(Value.slice none 0 0),vI p1].toArray w0 (fun en w'=>∃ v,en = .returned v ∧ (∃ (y1 : Value),v = y1 ∧ Fr w0 w' [osl NoB (r : List GShare) y1] ∧ Kept (Old w0) w0 w')):=by
 refine ce Tryz.func110 ?_
 intro a hE
 have hM:=M.start w0
 unfold Z6 at hF
 refine Zc (Zb hE rfl fun a hE=>Ze ?_)
 obtain ⟨j1,hl2,hF3⟩:=bind_some hF
 refine Zx (fun a w=>Env 27 a [(0,(Value.slice none 0 0)),(1,vI p1)] ∧ M (Old w0) w0 w []) ?_ ?_
 ·skip
  refine Zc (Zd hE rfl fun a hE=>Zk hE rfl rfl rfl fun a hE=>Ze ?_)
  refine Zm hE rfl ?_ ?_
  ·intro hb4
   have hl2:=Zn hl2 hb4
   cases hl2
  ·intro hb4
   have hl2:=Zo hl2 hb4
   refine wp_skip ?_
   obtain rfl:=Option.some.inj hl2
   refine Zi ?_
   exact ⟨hE.sub ⟨rfl,rfl,trivial⟩,hM⟩
 ·skip
  rintro a w ⟨hE,hM⟩
  obtain ⟨j6,hl7,hF8⟩:=bind_some hF3
  refine Zx (fun a w=>∃ (u9 : Value),Env 27 a [(0,u9)] ∧ M (Old w0) w0 w [osl NoB (j6 : List GShare) u9]) ?_ ?_
  ·skip
   refine Zc (Zd hE rfl fun a hE=>Zd hE rfl fun a hE=>jn hE Za ld rfl Tryz.underlying24 fun a hE=>Zd hE rfl fun a hE=>y0 hE Za ld rfl Tryz.underlying24 fun a hE=>Zk hE rfl rfl rfl fun a hE=>Zk hE rfl rfl rfl fun a hE=>Zb hE rfl fun a hE=>Ze (Zc (Zd hE rfl fun a hE=>Zk hE rfl rfl rfl fun a hE=>Ze ?_)))
   refine Zm hE rfl ?_ ?_
   ·intro hb11
    have hl7:=Zn hl7 hb11
    refine wp_region_lit (Zd hE rfl fun a hE=>Zd hE rfl fun a hE=>jn hE Za ld rfl Tryz.underlying24 fun a hE=>ku hE Za ld rfl rfl Tryz.underlying24 ZN fun a hE=>Zd hE rfl ?_); intro a hE
    obtain ⟨l14,e15,hl7⟩:=bind_some hl7
    refine qp hE hM Za ld rfl rfl Tryz.underlying24 Tryz.underlying3 ZN rfl (by decide) (by decide) y8 e15 fun u12 w a hM hE=>Zd hE rfl fun a hE=>y0 hE Za ld rfl Tryz.underlying24 ?_; intro a hE
    obtain ⟨l16,e17,hl7⟩:=bind_some hl7
    refine QZ hE Za ld rfl rfl rfl rfl rfl Tryz.underlying24 ZN (hM.sl (pre:=[]) noB) e17 ?_; intro a hE
    have hM:=hM.cut noB e17
    refine Zb hE rfl fun a hE=>Zj ?_
    obtain rfl:=Option.some.inj hl7
    refine Zi ?_
    exact ⟨(Vc u12 ((0 : Int)).toNat ((0 : Int)).toNat 2),hE.sub ⟨rfl,trivial⟩,hM⟩
   ·intro hb11
    have hl7:=Zo hl7 hb11
    refine wp_skip ?_
    obtain rfl:=Option.some.inj hl7
    refine Zi ?_
    have hM:=M.nilS (α:=GShare) NoB noB hM
    exact ⟨(Value.slice none 0 0),hE.sub ⟨rfl,trivial⟩,hM⟩
  ·skip
   rintro a w ⟨u9,hE,hM⟩
   refine Zc (Zd hE rfl fun a hE=>Zb hE rfl fun a hE=>Ze ?_)
   obtain rfl:=Option.some.inj hF8
   exact wp_ret (Yb hE rfl (Zl hE rfl) ⟨_,rfl,u9,rfl,hM.outF (Z8 Yd),hM.kept⟩)
def Yz (p0 : (List (List GShare))) (s4 : Int × Int) : Option (Fl (Int × Int) Int) :=
 if (decide (s4.1 < (p0.length : Int))) = true then (((idx p0 s4.1).bind fun x12=>(if (decide ((wr (s4.2 + (x12.length : Int))) < 0)) = true then (none) else (some ()) : Option (Unit)).bind fun j20=>some (wr (s4.2 + (x12.length : Int))) : Option (Int)).bind fun j9=>some (Fl.nx (wr (s4.1 + 1),j9))) else (some (Fl.ex s4.2))
def Yy (p0 : (List (List GShare))) (s35 : Int × (List GShare)) : Option (Fl (Int × (List GShare)) (List GShare)) :=
 if (decide (s35.1 < (p0.length : Int))) = true then ((idx p0 s35.1).bind fun x42=>(app 32 s35.2 x42).bind fun l50=>some (Fl.nx (wr (s35.1 + 1),(s35.2 ++ x42)))) else (some (Fl.ex s35.2))
def ZT (p0 : (List (List GShare))) : Option ((List GShare)) :=
 (ZH (Yz p0) (0,0)).bind fun j1=>(Z6 j1).bind fun r27=>(ZH (Yy p0) (0,r27)).bind fun j30=>some j30
theorem Td (w0 : World) (p0 : (List (List GShare))) (v0_1 : Value) (hv0_1 : Ro w0 p0 [v0_1]) (r : (List GShare)) (hF : ZT p0 = some r) :
  Calls Tryz.prog 64 [v0_1].toArray w0 (fun en w'=>∃ v,en = .returned v ∧ (∃ (y1 : Value),v = y1 ∧ Ro w' (r : (List GShare)) [y1] ∧ Kept (Old w0) w0 w')):=by
 refine ce Tryz.func64 ?_
 intro a hE
 have hM:=M.start w0
 unfold ZT at hF
 refine Zc (Zb hE rfl fun a hE=>Ze (Zc (Zb hE rfl fun a hE=>Ze (wp_seq (Zc (Zd hE rfl fun a hE=>ZL hE rfl Tryz.underlying137 (hM.rd hv0_1) fun a hE=>Zd hE rfl fun a hE=>Ze ?_))))))
 obtain ⟨j1,hl2,hF3⟩:=bind_some hF
 refine ZP (fun a w=>Env 36 a [(0,v0_1),(3,vI j1)] ∧ M (Old w0) w0 w []) ?_ ?_
 ·skip
  refine wp_block ?_
  refine ZK (fun (s4 : Int × Int) a w=>Env 36 a [(0,v0_1),(3,vI s4.2),(9,v0_1),(10,(vI (p0.length : Int))),(11,vI s4.1)] ∧ M (Old w0) w0 w []) hl2 ⟨hE.sub ⟨rfl,rfl,rfl,rfl,rfl,trivial⟩,hM⟩ ?_
  rintro s4 a w ⟨hE,hM⟩ o7 hs5 hx6
  unfold Yz at hs5
  refine Zc (Zk hE rfl rfl rfl fun a hE=>Ze (wp_seq ?_))
  refine Zm hE rfl ?_ ?_
  ·intro hb8
   have hs5:=Zn hs5 hb8
   refine wp_skip (Zu ?_)
   obtain ⟨j9,hl10,hF11⟩:=bind_some hs5
   refine Zx (fun a w=>Env 36 a [(0,v0_1),(3,vI j9),(9,v0_1),(10,(vI (p0.length : Int))),(11,vI s4.1)] ∧ M (Old w0) w0 w []) ?_ ?_
   ·skip
    refine wp_block (Zc ?_)
    obtain ⟨x12,hi14,hl10⟩:=bix hl10
    refine ZG hE rfl rfl Tryz.underlying137 jW (hM.rd hv0_1) hi14.1 ?_; intro a hE
    obtain ⟨cs15,hs16,hA17⟩:=Z3 hv0_1 hi14.2 -- ^
    obtain ⟨u18,rfl⟩:=Qd hs16 -- ^
    have h19:=hs16 -- ^
    refine ZX (v:=u18) hE rfl jW rfl (hM.atk hA17 (Yr hv0_1 hi14.2)) fun a hE=>Zb hE rfl fun a hE=>Ze (Zc (Zd hE rfl fun a hE=>Zd hE rfl fun a hE=>ZL hE rfl Tryz.underlying24 (hM.rd h19) fun a hE=>Zk hE rfl rfl rfl fun a hE=>Zb hE rfl fun a hE=>Ze (Zc (Zd hE rfl fun a hE=>Zk hE rfl rfl rfl fun a hE=>Ze ?_))))
    obtain ⟨j20,hl21,hF22⟩:=bind_some hl10
    refine ZP (fun a w=>Env 36 a [(0,v0_1),(3,(vI (wr (s4.2 + (x12.length : Int))))),(9,v0_1),(10,(vI (p0.length : Int))),(11,vI s4.1)] ∧ M (Old w0) w0 w []) ?_ ?_
    ·skip
     refine Zm hE rfl ?_ ?_
     ·intro hb23
      have hl21:=Zn hl21 hb23
      cases hl21
     ·intro hb23
      have hl21:=Zo hl21 hb23
      refine wp_skip ?_
      obtain rfl:=Option.some.inj hl21
      refine Zi ?_
      exact ⟨hE.sub ⟨rfl,rfl,rfl,rfl,rfl,trivial⟩,hM⟩
    ·skip
     rintro a w ⟨hE,hM⟩
     refine Yg ?_
     obtain rfl:=Option.some.inj hF22
     refine Zi ?_
     exact ⟨hE.sub ⟨rfl,rfl,rfl,rfl,rfl,trivial⟩,hM⟩
   ·skip
    rintro a w ⟨hE,hM⟩
    refine wp_region_lit (Zk hE rfl rfl rfl fun a hE=>Zd hE rfl fun a hE=>Zj (Zi ?_))
    exact ⟨_,(ois hF11),hE.sub ⟨rfl,rfl,rfl,rfl,rfl,trivial⟩,hM⟩
  ·intro hb8
   have hs5:=Zo hs5 hb8
   refine wp_exit (Zs (Zs (Ys ?_)))
   obtain rfl:=hx6 _ (ois hs5)
   refine Zi ?_
   exact ⟨hE.sub ⟨rfl,rfl,trivial⟩,hM⟩
 ·skip
  rintro a w ⟨hE,hM⟩
  refine Zu (Zc (Zd hE rfl ?_)); intro a hE
  obtain ⟨r27,e28,hF3⟩:=bind_some hF3
  refine Zq hE rfl (cbm Tryz.func110) (UT _ j1 r27 e28) ?_
  rintro u29 w a ⟨_,rfl,hFr,hK⟩ hE
  have hM:=hM.add hK hFr
  refine Zb hE rfl fun a hE=>Ze (wp_seq (Zc (Zd hE rfl fun a hE=>ZL hE rfl Tryz.underlying137 (hM.rd hv0_1) fun a hE=>Zd hE rfl fun a hE=>Ze ?_)))
  obtain ⟨j30,hl31,hF32⟩:=bind_some hF3
  refine ZP (fun a w=>∃ (u33 : Value),Env 36 a [(6,u33)] ∧ M (Old w0) w0 w [osl (Old w0) (j30 : List GShare) u33]) ?_ ?_
  ·skip
   refine wp_block ?_
   have hM:=hM.oslWk (S':=Old w0) noB (fun _ h=>h)
   refine ZK (fun (s35 : Int × (List GShare)) a w=>∃ (u36 : Value),Env 36 a [(6,u36),(25,v0_1),(26,(vI (p0.length : Int))),(27,vI s35.1)] ∧ M (Old w0) w0 w [osl (Old w0) (s35.2 : List GShare) u36]) hl31 ⟨u29,hE.sub ⟨rfl,rfl,rfl,rfl,trivial⟩,hM⟩ ?_
   rintro s35 a w ⟨u36,hE,hM⟩ o40 hs38 hx39
   unfold Yy at hs38
   refine Zc (Zk hE rfl rfl rfl fun a hE=>Ze (wp_seq ?_))
   refine Zm hE rfl ?_ ?_
   ·intro hb41
    have hs38:=Zn hs38 hb41
    refine wp_skip (Zu (wp_seq (wp_block (Zc ?_))))
    obtain ⟨x42,hi44,hs38⟩:=bix hs38
    refine ZG hE rfl rfl Tryz.underlying137 jW (hM.rd hv0_1) hi44.1 ?_; intro a hE
    obtain ⟨cs45,hs46,hA47⟩:=Z3 hv0_1 hi44.2 -- ^
    obtain ⟨u48,rfl⟩:=Qd hs46 -- ^
    have h49:=hs46 -- ^
    refine ZX (v:=u48) hE rfl jW rfl (hM.atk hA47 (Yr hv0_1 hi44.2)) fun a hE=>Zb hE rfl fun a hE=>Ze (wp_region_lit (Zd hE rfl fun a hE=>Zd hE rfl ?_)); intro a hE
    obtain ⟨l50,e51,hs38⟩:=bind_some hs38
    obtain ⟨e54,rfl⟩:=ZY e51
    refine BB hE hM (fun _ h=>h) Za ld rfl rfl (hM.rd h49) Tryz.underlying24 ZN rfl (by decide) e54 fun u52 w a hM hE=>Zb hE rfl fun a hE=>Zj (Yg (Zu (wp_region_lit (Zk hE rfl rfl rfl fun a hE=>Zd hE rfl fun a hE=>Zj (Zi ?_)))))
    exact ⟨_,(ois hs38),u52,hE.sub ⟨rfl,rfl,rfl,rfl,trivial⟩,hM⟩
   ·intro hb41
    have hs38:=Zo hs38 hb41
    refine wp_exit (Zs (Zs (Ys ?_)))
    obtain rfl:=hx39 _ (ois hs38)
    refine Zi ?_
    exact ⟨u36,hE.sub ⟨rfl,trivial⟩,hM⟩
  ·skip
   rintro a w ⟨u33,hE,hM⟩
   refine Zu (Zc (Zd hE rfl fun a hE=>Zb hE rfl fun a hE=>Ze ?_))
   obtain rfl:=Option.some.inj hF32
   have hro56 : Ro w (j30 : (List GShare)) [u33]:=(hM.sl (pre:=[]) (fun _ h=>h))
   exact wp_ret (Yb hE rfl (Zl hE rfl) ⟨_,rfl,u33,rfl,hro56,hM.kept⟩)
def Y8 (p0 : Int) (p1 : (List UInt8)) (p2 : (List UInt8)) (p3 : (List GShare)) (p4 : Int) (s25 : Int) : Option (Fl Int (Fl Unit (Bool × Int))) :=
 if (decide (s25 < 2)) = true then ((idx ([p1,p2] : List (List UInt8)) s25).bind fun x30=>(ZT ([([(⟨0,x30⟩ : GShare)] : List GShare),p3] : (List (List GShare)))).bind fun r40=>(We p0 r40 p4).bind fun r44=>if (!r44) = true then (some (Fl.ex (Fl.ex (false,0)))) else (some (Fl.nx (wr (s25 + 1))))) else (some (Fl.ex (Fl.nx ())))
def Uw (p0 : Int) (p1 : (List UInt8)) (p2 : (List UInt8)) (p3 : (List GShare)) (p4 : Int) : Option (Bool × Int) :=
 (YC p0 p3 p4).bind fun r1=>if (r1 != 0) = true then (some (false,r1)) else ((if (decide ((p1.length : Int) > 100)) = true then (some true) else (if ((p1.length : Int) != (p2.length : Int)) = true then (some true) else ((idx p3 (0 : Int)).bind fun x11=>some ((p1.length : Int) != (x11.Data.length : Int)))) : Option (Bool)).bind fun j4=>if j4 = true then (some (false,2)) else ((ZH (Y8 p0 p1 p2 p3 p4) 0).bind fun j21=>j21.el (fun s24=>some (true,0)) (fun r=>some r)))
theorem Ad (w0 : World) (p0 : Int) (p1 : (List UInt8)) (v1_1 : Value) (hv1_1 : Ro w0 p1 [v1_1]) (p2 : (List UInt8)) (v2_1 : Value) (hv2_1 : Ro w0 p2 [v2_1]) (p3 : (List GShare)) (v3_1 : Value) (hv3_1 : Ro w0 p3 [v3_1]) (p4 : Int) (r : Bool × Int) (hF : Uw p0 p1 p2 p3 p4 = some r) :
  Calls Tryz.prog 20 [vI p0,v1_1,v2_1,v3_1,vI p4].toArray w0 (Rt w0 (Value.tuple [vT r.1,vI r.2].toArray)):=by
 refine ce Tryz.func20 ?_
 intro a hE
 have hM:=M.start w0
 unfold Uw at hF
 refine Zc (Zb hE rfl fun a hE=>Zb hE rfl fun a hE=>Ze (wp_seq (Zc (Zd hE rfl fun a hE=>Zd hE rfl fun a hE=>Zd hE rfl ?_)))); intro a hE
 obtain ⟨r1,e2,hF⟩:=bind_some hF
 refine Zq hE rfl cb40 (Wd _ p0 p3 v3_1 (hM.rdo hv3_1) p4 r1 e2) ?_
 rintro v w a ⟨rfl,hK⟩ hE
 have hM:=hM.keep hK
 refine Zb hE rfl fun a hE=>Ze (wp_block (Zc (Zd hE rfl fun a hE=>Zk hE rfl rfl rfl fun a hE=>Zb hE rfl fun a hE=>Ze ?_)))
 refine Zm hE rfl ?_ ?_
 ·intro hb3
  have hF:=Zn hF hb3
  refine Zc (Zd hE rfl fun a hE=>Zb hE rfl fun a hE=>Zb hE rfl fun a hE=>Ze ?_)
  obtain rfl:=Option.some.inj hF
  exact wp_ret (Z4 (Zr (Z0 hE rfl (Zl hE rfl) (Zl hE rfl) ⟨_,rfl,rfl,hM.kept⟩)))
 ·intro hb3
  have hF:=Zo hF hb3
  obtain ⟨j4,hl5,hF6⟩:=bind_some hF
  refine Zx (fun a w=>Env 61 a [(0,vI p0),(1,v1_1),(2,v2_1),(3,v3_1),(4,vI p4),(23,vT j4)] ∧ M (Old w0) w0 w []) ?_ ?_
  ·skip
   refine wp_region_lit (Zd hE rfl fun a hE=>ZL hE rfl Tryz.underlying22 (hM.rd hv1_1) fun a hE=>Zk hE rfl rfl rfl fun a hE=>Zd hE rfl ?_); intro a hE
   refine ZO (decide ((p1.length : Int) > 100)) (fun hb7=>?_) (fun hb7=>?_)
   ·have hl5:=Zn hl5 hb7
    refine Zg hE rfl (lkb rfl hb7) rfl (by decide) fun a hE=>Zg hE rfl (lkb rfl hb7) rfl (by decide) fun a hE=>Zg hE rfl (lkb rfl hb7) rfl (by decide) fun a hE=>Zg hE rfl (lkb rfl hb7) rfl (by decide) fun a hE=>Zg hE rfl (lkb rfl hb7) rfl (by decide) fun a hE=>ZB hE (lkb rfl hb7) rfl fun a hE=>Zd hE rfl fun a hE=>Zg hE rfl rfl rfl (by decide) fun a hE=>Zg hE rfl rfl rfl (by decide) fun a hE=>Zg hE rfl rfl rfl (by decide) fun a hE=>Zg hE rfl rfl rfl (by decide) fun a hE=>Zg hE rfl rfl rfl (by decide) ?_; intro a hE
    refine Zg hE rfl rfl rfl (by decide) fun a hE=>Zg hE rfl rfl rfl (by decide) fun a hE=>Zg hE rfl rfl rfl (by decide) fun a hE=>ZB hE rfl rfl fun a hE=>Zb hE rfl fun a hE=>Zj ?_
    obtain rfl:=Option.some.inj hl5
    refine Zi ?_
    exact ⟨hE.sub ⟨rfl,rfl,rfl,rfl,rfl,rfl,trivial⟩,hM⟩
   ·have hl5:=Zo hl5 hb7
    refine Zh hE (Zf hE rfl (lkb rfl hb7)) (by decide) rfl fun a hE=>XN hE (Zf hE rfl (lkb rfl hb7)) (by decide) rfl Tryz.underlying22 (hM.rd hv1_1) fun a hE=>Zh hE (Zf hE rfl (lkb rfl hb7)) (by decide) rfl fun a hE=>XN hE (Zf hE rfl (lkb rfl hb7)) (by decide) rfl Tryz.underlying22 (hM.rd hv2_1) fun a hE=>ZJ hE (Zf hE rfl (lkb rfl hb7)) (by decide) rfl rfl rfl fun a hE=>Zy hE (lkb rfl hb7) rfl fun a hE=>Zd hE rfl ?_; intro a hE
    refine ZO ((p1.length : Int) != (p2.length : Int)) (fun hb9=>?_) (fun hb9=>?_)
    ·have hl5:=Zn hl5 hb9
     refine Zg hE rfl (lkb rfl hb9) rfl (by decide) fun a hE=>Zg hE rfl (lkb rfl hb9) rfl (by decide) fun a hE=>Zg hE rfl (lkb rfl hb9) rfl (by decide) fun a hE=>Zg hE rfl (lkb rfl hb9) rfl (by decide) fun a hE=>Zg hE rfl (lkb rfl hb9) rfl (by decide) fun a hE=>Zg hE rfl (lkb rfl hb9) rfl (by decide) fun a hE=>Zg hE rfl (lkb rfl hb9) rfl (by decide) fun a hE=>Zg hE rfl (lkb rfl hb9) rfl (by decide) fun a hE=>ZB hE (lkb rfl hb9) rfl fun a hE=>Zb hE rfl fun a hE=>Zj ?_
     obtain rfl:=Option.some.inj hl5
     refine Zi ?_
     exact ⟨hE.sub ⟨rfl,rfl,rfl,rfl,rfl,rfl,trivial⟩,hM⟩
    ·have hl5:=Zo hl5 hb9
     refine Zh hE (Zf hE rfl (lkb rfl hb9)) (by decide) rfl fun a hE=>XN hE (Zf hE rfl (lkb rfl hb9)) (by decide) rfl Tryz.underlying22 (hM.rd hv1_1) fun a hE=>Zh hE (Zf hE rfl (lkb rfl hb9)) (by decide) rfl ?_; intro a hE
     obtain ⟨x11,hi13,hl5⟩:=bix hl5
     refine ZA hE (Zf hE rfl (lkb rfl hb9)) (by decide) rfl rfl Tryz.underlying24 ZN (hM.rd hv3_1) hi13.1 fun a hE=>Zv hE (Zf hE rfl (lkb rfl hb9)) (by decide) rfl (Yj) ?_; intro a hE
     obtain ⟨cs14,hs15,hA16⟩:=Z3 hv3_1 hi13.2 -- ^
     obtain ⟨u17,rfl,h18⟩:=ZQ hs15 -- ^
     refine ZE (v:=u17) hE (Zf hE rfl (lkb rfl hb9)) (by decide) rfl YS rfl (At.cat (pre:=[[vB x11.Place]]) (hM.atk hA16 (Yr hv3_1 hi13.2)) ck) fun a hE=>XN hE (Zf hE rfl (lkb rfl hb9)) (by decide) rfl Tryz.underlying22 (hM.rd h18) fun a hE=>ZJ hE (Zf hE rfl (lkb rfl hb9)) (by decide) rfl rfl rfl fun a hE=>Zy hE (lkb rfl hb9) rfl fun a hE=>Zb hE rfl fun a hE=>Zj ?_
     obtain rfl:=Option.some.inj hl5
     refine Zi ?_
     exact ⟨hE.sub ⟨rfl,rfl,rfl,rfl,rfl,rfl,trivial⟩,hM⟩
  ·skip
   rintro a w ⟨hE,hM⟩
   refine Zm hE rfl ?_ ?_
   ·intro hb20
    have hF6:=Zn hF6 hb20
    refine Zc (Zb hE rfl fun a hE=>Zb hE rfl fun a hE=>Ze ?_)
    obtain rfl:=Option.some.inj hF6
    exact wp_ret (Z4 (Zr (Z0 hE rfl (Zl hE rfl) (Zl hE rfl) ⟨_,rfl,rfl,hM.kept⟩)))
   ·intro hb20
    have hF6:=Zo hF6 hb20
    refine wp_skip (Yg (Zu (wp_seq (Zc (Zd hE rfl fun a hE=>Zd hE rfl fun a hE=>Zaq (parts:=[(0,.tmp 44),(1,.tmp 45)]) (vs:=numbered 0 [v1_1,v2_1]) (cs:=[v1_1,v2_1]) hE Za ld rfl rfl ty97 rfl YS (Zas rfl (by intro v hv; simp only [List.mem_cons,List.not_mem_nil,or_false] at hv; rcases hv with h | h <;> subst h <;> first | exact Y2 (hM.rd hv1_1) | exact Y2 (hM.rd hv2_1))) fun a hE=>Zd hE rfl fun a hE=>Ze ?_)))))
    obtain ⟨j21,hl22,hF23⟩:=bind_some hF6
    refine ZP (fun a w=>∃ s24 : Unit,j21 = Fl.nx s24 ∧ Env 61 a [] ∧ M (Old w0) w0 w []) ?_ ?_
    ·skip
     refine wp_block ?_
     refine ZK (fun (s25 : Int) a w=>Env 61 a [(0,vI p0),(3,v3_1),(4,vI p4),(46,(Value.agg [v1_1,v2_1].toArray)),(47,vI s25)] ∧ M (Old w0) w0 w []) hl22 ⟨hE.sub ⟨rfl,rfl,rfl,rfl,rfl,trivial⟩,hM⟩ ?_
     rintro s25 a w ⟨hE,hM⟩ o28 hs26 hx27
     unfold Y8 at hs26
     refine Zc (Zk hE rfl rfl rfl fun a hE=>Ze (wp_seq ?_))
     refine Zm hE rfl ?_ ?_
     ·intro hb29
      have hs26:=Zn hs26 hb29
      refine wp_skip (Zu (wp_seq (wp_block (Zc ?_))))
      obtain ⟨x30,hi32,hs26⟩:=bix hs26
      obtain ⟨u33,e34,h35⟩:=Zad (S:=Old w0) (w:=w0) (l:=([p1,p2] : List (List UInt8))) (vs:=[v1_1,v2_1]) ⟨hv1_1,hv2_1,trivial⟩ hi32.2
      refine Zag hE Za ld rfl rfl Tryz.underlying97 YS rfl hi32.1 e34 fun a hE=>Zb hE rfl fun a hE=>Ze (Zc (Zd hE rfl fun a hE=>Zd hE rfl fun a hE=>YY (parts:=[(1,.tmp 51)]) (vs:=[(1,u33)]) (cs:=cat [[vB 0],[u33]]) hE Za ld rfl rfl ZN Hu (YK (pre:=[[vB 0]]) (seg:=[(Value.slice none 0 0)]) (seg':=[u33]) (post:=[]) rfl ck rfl rfl (Y2 (hM.rd h35)) Wy) ?_)); intro a hE
      have hM:=hM.addRo (S:=(Old w0)) (x:=(⟨0,x30⟩ : GShare)) (cs:=cat [[vB 0],[u33]]) (fun _ h=>h) (W2 (hM.rd h35) (by simp))
      refine V0 (xs:=[.tmp 52]) (seg:=cat [[vB 0],[u33]]) hE hM (fun _ h=>h) Za ld rfl rfl Tryz.underlying24 ZN rfl (by decide) fun u36 w a hM hE=>Zd hE rfl fun a hE=>jP (xs:=[.tmp 53,.tmp 54]) (vs:=[u36,v3_1]) hE hM Za ld rfl rfl Tryz.underlying137 jW (by decide) (k9 (Y2 (hM.sl (pre:=[]) (fun _ h=>h))) (k9 (Y2 (hM.rd hv3_1)) fa_nil)) ?_; intro b38 w a hM hE
      obtain ⟨r40,e41,hs26⟩:=bind_some hs26
      refine Zq hE rfl (cbm Tryz.func64) (Td _ ([([(⟨0,x30⟩ : GShare)] : List GShare),p3] : (List (List GShare))) (Value.slice (some ⟨b38,0,none⟩) 2 2) (ro_lit hM.rawAt0 (hM.rawLt (pre:=[])) ⟨(hM.sl (pre:=[_]) (fun _ h=>h)),(hM.rdo hv3_1),trivial⟩ rfl) r40 e41) ?_
      rintro u42 w a ⟨_,rfl,hro43,hK⟩ hE
      have hM:=hM.keep hK
      refine Zd hE rfl ?_; intro a hE
      obtain ⟨r44,e45,hs26⟩:=bind_some hs26
      refine Zq hE rfl cb44 (Qa _ p0 r40 u42 hro43 p4 r44 e45) ?_
      rintro v w a ⟨rfl,hK⟩ hE
      have hM:=hM.keep hK
      have hro43:=JE hro43 hK
      refine Ve hE rfl fun a hE=>Ze ?_
      refine Zm hE rfl ?_ ?_
      ·intro hb46
       have hs26:=Zn hs26 hb46
       refine Zc (Zb hE rfl fun a hE=>Zb hE rfl fun a hE=>Ze ?_)
       obtain rfl:=hx27 _ (ois hs26)
       obtain rfl:=Option.some.inj hF23
       exact wp_ret (Z4 (Zr (Zr (Z4 (Zr (Zr (Z0 hE rfl (Zl hE rfl) (Zl hE rfl) ⟨_,rfl,rfl,hM.kept⟩)))))))
      ·intro hb46
       have hs26:=Zo hs26 hb46
       refine wp_skip (Yg (Zu (wp_region_lit (Zk hE rfl rfl rfl fun a hE=>Zd hE rfl fun a hE=>Zj (Zi ?_)))))
       have hM:=M.fst (l:=[]) hM
       exact ⟨_,(ois hs26),hE.sub ⟨rfl,rfl,rfl,rfl,rfl,trivial⟩,hM⟩
     ·intro hb29
      have hs26:=Zo hs26 hb29
      refine wp_exit (Zs (Zs (Ys ?_)))
      obtain rfl:=hx27 _ (ois hs26)
      refine Zi ?_
      exact ⟨(),rfl,hE.sub trivial,hM⟩
    ·skip
     rintro a w ⟨s24,ht,hE,hM⟩
     subst ht
     have hF23:=VQ hF23
     refine Zu (Zc (Zb hE rfl fun a hE=>Zb hE rfl fun a hE=>Ze ?_))
     obtain rfl:=Option.some.inj hF23
     exact wp_ret (Z0 hE rfl (Zl hE rfl) (Zl hE rfl) ⟨_,rfl,rfl,hM.kept⟩)
def UD (p0 : Int) (p1 : (List UInt8)) (p2 : (List UInt8)) (p3 : (List GShare)) (p4 : Int) : Option (Bool × Int) :=
 (W8 p0 p3 p4).bind fun r1=>((if (r1 == 0) = true then (if ((p1.length : Int) != (p2.length : Int)) = true then (some true) else ((idx p3 (0 : Int)).bind fun x12=>some ((p1.length : Int) != (x12.Data.length : Int)))) else (some false) : Option (Bool)).bind fun j6=>if j6 = true then (some 2) else (some r1) : Option (Int)).bind fun j3=>if (j3 != 0) = true then (some (false,j3)) else ((app 32 ([(⟨0,p1⟩ : GShare)] : List GShare) p3).bind fun l28=>(app 32 ([(⟨0,p2⟩ : GShare)] : List GShare) p3).bind fun l35=>((VM p0 (([(⟨0,p1⟩ : GShare)] : List GShare) ++ p3) p4).bind fun r43=>if r43 = true then ((VM p0 (([(⟨0,p2⟩ : GShare)] : List GShare) ++ p3) p4).bind fun r46=>some (r46,0)) else (some (false,0)) : Option (Bool × Int)).bind fun j40=>some (j40.1,j40.2))
theorem B9 (w0 : World) (p0 : Int) (p1 : (List UInt8)) (v1_1 : Value) (hv1_1 : Ro w0 p1 [v1_1]) (p2 : (List UInt8)) (v2_1 : Value) (hv2_1 : Ro w0 p2 [v2_1]) (p3 : (List GShare)) (v3_1 : Value) (hv3_1 : Ro w0 p3 [v3_1]) (p4 : Int) (r : Bool × Int) (hF : UD p0 p1 p2 p3 p4 = some r) :
  Calls Tryz.prog 21 [vI p0,v1_1,v2_1,v3_1,vI p4].toArray w0 (Rt w0 (Value.tuple [vT r.1,vI r.2].toArray)):=by
 refine ce Tryz.func21 ?_
 intro a hE
 have hM:=M.start w0
 unfold UD at hF
 refine Zc (Zb hE rfl fun a hE=>Zb hE rfl fun a hE=>Ze (Zc (Zd hE rfl fun a hE=>Zd hE rfl fun a hE=>Zd hE rfl ?_))); intro a hE
 obtain ⟨r1,e2,hF⟩:=bind_some hF
 refine Zq hE rfl cb46 (QM _ p0 p3 v3_1 (hM.rdo hv3_1) p4 r1 e2) ?_
 rintro v w a ⟨rfl,hK⟩ hE
 have hM:=hM.keep hK
 refine Zb hE rfl fun a hE=>Ze ?_
 obtain ⟨j3,hl4,hF5⟩:=bind_some hF
 refine Zx (fun a w=>Env 61 a [(0,vI p0),(1,v1_1),(2,v2_1),(3,v3_1),(4,vI p4),(12,vI j3)] ∧ M (Old w0) w0 w []) ?_ ?_
 ·skip
  obtain ⟨j6,hl7,hF8⟩:=bind_some hl4
  refine Zx (fun a w=>Env 61 a [(0,vI p0),(1,v1_1),(2,v2_1),(3,v3_1),(4,vI p4),(12,vI r1),(37,vT j6)] ∧ M (Old w0) w0 w []) ?_ ?_
  ·skip
   refine wp_region_lit (Zd hE rfl fun a hE=>Zk hE rfl rfl rfl fun a hE=>Zd hE rfl ?_); intro a hE
   refine ZO (r1 == 0) (fun hb9=>?_) (fun hb9=>?_)
   ·have hl7:=Zn hl7 hb9
    refine Zh hE (Zf hE rfl (lkb rfl hb9)) (by decide) rfl fun a hE=>XN hE (Zf hE rfl (lkb rfl hb9)) (by decide) rfl Tryz.underlying22 (hM.rd hv1_1) fun a hE=>Zh hE (Zf hE rfl (lkb rfl hb9)) (by decide) rfl fun a hE=>XN hE (Zf hE rfl (lkb rfl hb9)) (by decide) rfl Tryz.underlying22 (hM.rd hv2_1) fun a hE=>ZJ hE (Zf hE rfl (lkb rfl hb9)) (by decide) rfl rfl rfl fun a hE=>Zh hE (Zf hE rfl (lkb rfl hb9)) (by decide) rfl ?_; intro a hE
    refine ZO ((p1.length : Int) != (p2.length : Int)) (fun hb10=>?_) (fun hb10=>?_)
    ·have hl7:=Zn hl7 hb10
     refine Zg hE rfl (lkb rfl hb10) rfl (by decide) fun a hE=>Zg hE rfl (lkb rfl hb10) rfl (by decide) fun a hE=>Zg hE rfl (lkb rfl hb10) rfl (by decide) fun a hE=>Zg hE rfl (lkb rfl hb10) rfl (by decide) fun a hE=>Zg hE rfl (lkb rfl hb10) rfl (by decide) fun a hE=>Zg hE rfl (lkb rfl hb10) rfl (by decide) fun a hE=>Zg hE rfl (lkb rfl hb10) rfl (by decide) fun a hE=>Zg hE rfl (lkb rfl hb10) rfl (by decide) fun a hE=>WT hE (Zf hE rfl (lkb rfl hb9)) (by decide) (lkb rfl hb10) rfl fun a hE=>ZB hE (lkb rfl hb9) rfl fun a hE=>Zj ?_
     obtain rfl:=Option.some.inj hl7
     refine Zi ?_
     exact ⟨hE.sub ⟨rfl,rfl,rfl,rfl,rfl,rfl,rfl,trivial⟩,hM⟩
    ·have hl7:=Zo hl7 hb10
     refine Zh hE (Zf hE rfl (lkb rfl hb10)) (by decide) rfl fun a hE=>XN hE (Zf hE rfl (lkb rfl hb10)) (by decide) rfl Tryz.underlying22 (hM.rd hv1_1) fun a hE=>Zh hE (Zf hE rfl (lkb rfl hb10)) (by decide) rfl ?_; intro a hE
     obtain ⟨x12,hi14,hl7⟩:=bix hl7
     refine ZA hE (Zf hE rfl (lkb rfl hb10)) (by decide) rfl rfl Tryz.underlying24 ZN (hM.rd hv3_1) hi14.1 fun a hE=>Zv hE (Zf hE rfl (lkb rfl hb10)) (by decide) rfl (Yj) ?_; intro a hE
     obtain ⟨cs15,hs16,hA17⟩:=Z3 hv3_1 hi14.2 -- ^
     obtain ⟨u18,rfl,h19⟩:=ZQ hs16 -- ^
     refine ZE (v:=u18) hE (Zf hE rfl (lkb rfl hb10)) (by decide) rfl YS rfl (At.cat (pre:=[[vB x12.Place]]) (hM.atk hA17 (Yr hv3_1 hi14.2)) ck) fun a hE=>XN hE (Zf hE rfl (lkb rfl hb10)) (by decide) rfl Tryz.underlying22 (hM.rd h19) fun a hE=>ZJ hE (Zf hE rfl (lkb rfl hb10)) (by decide) rfl rfl rfl fun a hE=>Wl hE (Zf hE rfl (lkb rfl hb9)) (by decide) (lkb rfl hb10) rfl fun a hE=>ZB hE (lkb rfl hb9) rfl fun a hE=>Zj ?_
     obtain rfl:=Option.some.inj hl7
     refine Zi ?_
     exact ⟨hE.sub ⟨rfl,rfl,rfl,rfl,rfl,rfl,rfl,trivial⟩,hM⟩
   ·have hl7:=Zo hl7 hb9
    refine Zg hE rfl (lkb rfl hb9) rfl (by decide) fun a hE=>Zg hE rfl (lkb rfl hb9) rfl (by decide) fun a hE=>Zg hE rfl (lkb rfl hb9) rfl (by decide) fun a hE=>Zg hE rfl (lkb rfl hb9) rfl (by decide) fun a hE=>Zg hE rfl (lkb rfl hb9) rfl (by decide) fun a hE=>Zg hE rfl (lkb rfl hb9) rfl (by decide) fun a hE=>YR hE rfl rfl (by decide) fun a hE=>YR hE rfl rfl (by decide) fun a hE=>YR hE rfl rfl (by decide) fun a hE=>YR hE rfl rfl (by decide) fun a hE=>YR hE rfl rfl (by decide) fun a hE=>YR hE rfl rfl (by decide) ?_; intro a hE
    refine YR hE rfl rfl (by decide) fun a hE=>YR hE rfl rfl (by decide) fun a hE=>Zg hE rfl (lkb rfl hb9) rfl (by decide) fun a hE=>Zy hE (lkb rfl hb9) rfl fun a hE=>Zj ?_
    obtain rfl:=Option.some.inj hl7
    refine Zi ?_
    exact ⟨hE.sub ⟨rfl,rfl,rfl,rfl,rfl,rfl,rfl,trivial⟩,hM⟩
  ·skip
   rintro a w ⟨hE,hM⟩
   refine Zm hE rfl ?_ ?_
   ·intro hb22
    have hF8:=Zn hF8 hb22
    refine wp_region_lit (Zb hE rfl fun a hE=>Zj ?_)
    obtain rfl:=Option.some.inj hF8
    refine Zi ?_
    exact ⟨hE.sub ⟨rfl,rfl,rfl,rfl,rfl,rfl,trivial⟩,hM⟩
   ·intro hb22
    have hF8:=Zo hF8 hb22
    refine wp_skip ?_
    obtain rfl:=Option.some.inj hF8
    refine Zi ?_
    exact ⟨hE.sub ⟨rfl,rfl,rfl,rfl,rfl,rfl,trivial⟩,hM⟩
 ·skip
  rintro a w ⟨hE,hM⟩
  refine wp_seq (Zc (Zd hE rfl fun a hE=>Zk hE rfl rfl rfl fun a hE=>Ze ?_))
  refine Zm hE rfl ?_ ?_
  ·intro hb25
   have hF5:=Zn hF5 hb25
   refine Zc (Zd hE rfl fun a hE=>Zb hE rfl fun a hE=>Zb hE rfl fun a hE=>Ze ?_)
   obtain rfl:=Option.some.inj hF5
   exact wp_ret (Zr (Z0 hE rfl (Zl hE rfl) (Zl hE rfl) ⟨_,rfl,rfl,hM.kept⟩))
  ·intro hb25
   have hF5:=Zo hF5 hb25
   refine wp_skip (Zu (Zc (Zd hE rfl fun a hE=>YY (parts:=[(1,.tmp 41)]) (vs:=[(1,v1_1)]) (cs:=cat [[vB 0],[v1_1]]) hE Za ld rfl rfl ZN Hu (YK (pre:=[[vB 0]]) (seg:=[(Value.slice none 0 0)]) (seg':=[v1_1]) (post:=[]) rfl ck rfl rfl (Y2 (hM.rd hv1_1)) Wy) ?_))); intro a hE
   have hM:=hM.addRo (S:=(Old w0)) (x:=(⟨0,p1⟩ : GShare)) (cs:=cat [[vB 0],[v1_1]]) (fun _ h=>h) (W2 (hM.rd hv1_1) (by simp))
   refine V0 (xs:=[.tmp 42]) (seg:=cat [[vB 0],[v1_1]]) hE hM (fun _ h=>h) Za ld rfl rfl Tryz.underlying24 ZN rfl (by decide) fun u26 w a hM hE=>Zd hE rfl ?_; intro a hE
   obtain ⟨l28,e29,hF5⟩:=bind_some hF5
   obtain ⟨e32,rfl⟩:=ZY e29
   refine BB hE hM (fun _ h=>h) Za ld rfl rfl (hM.rd hv3_1) Tryz.underlying24 ZN rfl (by decide) e32 fun u30 w a hM hE=>Zb hE rfl fun a hE=>Ze (Zc (Zd hE rfl fun a hE=>YY (parts:=[(1,.tmp 46)]) (vs:=[(1,v2_1)]) (cs:=cat [[vB 0],[v2_1]]) hE Za ld rfl rfl ZN Hu (YK (pre:=[[vB 0]]) (seg:=[(Value.slice none 0 0)]) (seg':=[v2_1]) (post:=[]) rfl ck rfl rfl (Y2 (hM.rd hv2_1)) Wy) ?_)); intro a hE
   have hM:=hM.addRo (S:=(Old w0)) (x:=(⟨0,p2⟩ : GShare)) (cs:=cat [[vB 0],[v2_1]]) (fun _ h=>h) (W2 (hM.rd hv2_1) (by simp))
   refine V0 (xs:=[.tmp 47]) (seg:=cat [[vB 0],[v2_1]]) hE hM (fun _ h=>h) Za ld rfl rfl Tryz.underlying24 ZN rfl (by decide) fun u33 w a hM hE=>Zd hE rfl ?_; intro a hE
   obtain ⟨l35,e36,hF5⟩:=bind_some hF5
   obtain ⟨e39,rfl⟩:=ZY e36
   refine BB hE hM (fun _ h=>h) Za ld rfl rfl (hM.rd hv3_1) Tryz.underlying24 ZN rfl (by decide) e39 fun u37 w a hM hE=>Zb hE rfl fun a hE=>Ze ?_
   obtain ⟨j40,hl41,hF42⟩:=bind_some hF5
   refine Zx (fun a w=>Env 61 a [(10,vT j40.1),(11,vI j40.2)] ∧ M (Old w0) w0 w []) ?_ ?_
   ·skip
    refine wp_region_lit (Zd hE rfl fun a hE=>Zd hE rfl fun a hE=>Zd hE rfl ?_); intro a hE
    obtain ⟨r43,e44,hl41⟩:=bind_some hl41
    refine Zq hE rfl cb65 (Kg _ p0 (([(⟨0,p1⟩ : GShare)] : List GShare) ++ p3) u30 (hM.sl (pre:=[_]) (fun _ h=>h)) p4 r43 e44) ?_
    rintro v w a ⟨rfl,hK⟩ hE
    have hM:=hM.keep hK
    refine Zd hE rfl ?_; intro a hE
    refine ZO r43 (fun hb45=>?_) (fun hb45=>?_)
    ·have hl41:=Zn hl41 hb45
     refine Zh hE (Zf hE rfl (lkb rfl hb45)) (by decide) rfl fun a hE=>Zh hE (Zf hE rfl (lkb rfl hb45)) (by decide) rfl fun a hE=>Zh hE (Zf hE rfl (lkb rfl hb45)) (by decide) rfl ?_; intro a hE
     obtain ⟨r46,e47,hl41⟩:=bind_some hl41
     refine ZW hE (Zf hE rfl (lkb rfl hb45)) (by decide) rfl cb65 (Kg _ p0 (([(⟨0,p2⟩ : GShare)] : List GShare) ++ p3) u37 (hM.sl (pre:=[]) (fun _ h=>h)) p4 r46 e47) ?_
     rintro v w a ⟨rfl,hK⟩ hE
     have hM:=hM.keep hK
     refine ZB hE (lkb rfl hb45) rfl fun a hE=>Zb hE rfl fun a hE=>Zb hE rfl fun a hE=>Zj ?_
     obtain rfl:=Option.some.inj hl41
     refine Zi ?_
     have hM:=M.fst (l:=[]) hM
     exact ⟨hE.sub ⟨rfl,rfl,trivial⟩,hM⟩
    ·have hl41:=Zo hl41 hb45
     refine Zg hE rfl (lkb rfl hb45) rfl (by decide) fun a hE=>Zg hE rfl (lkb rfl hb45) rfl (by decide) fun a hE=>Zg hE rfl (lkb rfl hb45) rfl (by decide) fun a hE=>Zg hE rfl (lkb rfl hb45) rfl (by decide) fun a hE=>Zy hE (lkb rfl hb45) rfl fun a hE=>Zb hE rfl fun a hE=>Zb hE rfl fun a hE=>Zj ?_
     obtain rfl:=Option.some.inj hl41
     refine Zi ?_
     have hM:=M.fst (l:=[]) hM
     exact ⟨hE.sub ⟨rfl,rfl,trivial⟩,hM⟩
   ·skip
    rintro a w ⟨hE,hM⟩
    obtain rfl:=Option.some.inj hF42
    exact wp_ret (Z0 hE rfl (Zl hE rfl) (Zl hE rfl) ⟨_,rfl,rfl,hM.kept⟩)
def WB (p0 : (List UInt8)) : Option (GShare) :=
 (Y1 p0).bind fun r3=>(YB p0 (r3.1,r3.2)).bind fun r7=>(Ya p0 (r7.1.1,r7.1.2) ([10,20,101] : List Int)).bind fun r11=>(Xm p0 (r11.1.1,r11.1.2) r11.2).bind fun r13=>some (⟨r7.2,r13.2⟩ : GShare)
theorem Jt (w0 : World) (p0 : (List UInt8)) (v0_1 : Value) (hv0_1 : Ro w0 p0 [v0_1]) (r : GShare) (hF : WB p0 = some r) :
  Calls Tryz.prog 22 [v0_1].toArray w0 (fun en w'=>∃ v,en = .returned v ∧ (∃ (y1 : Value),v = (Value.agg (cat [[vB r.Place],[y1]]).toArray) ∧ Fr w0 w' [osl NoB (r.Data : List UInt8) y1] ∧ Kept (Old w0) w0 w')):=by
 refine ce Tryz.func22 ?_
 intro a hE
 have hM:=M.start w0
 unfold WB at hF
 refine Zc (UP hE hM ZN fun b1 w a hM hE=>Ze (Zc (Zd hE rfl ?_))); intro a hE
 have hM:=M.tailP (m:=[]) hM
 obtain ⟨r3,e4,hF⟩:=bind_some hF
 refine Zq hE rfl kl (Vj _ _ _ _ p0 v0_1 hv0_1 hM r3 e4) ?_
 rintro v w a ⟨b5,rfl,hM⟩ hE
 have hM:=M.tailU (m:=[_]) hM
 simp only [List.cons_append,List.nil_append] at hM
 refine Zb hE rfl fun a hE=>Ze (Zc (Zd hE rfl ?_)); intro a hE
 have hM:=M.tailP (m:=[_]) hM
 obtain ⟨r7,e8,hF⟩:=bind_some hF
 refine Zq hE rfl cb38 (X8 _ _ _ _ b5 p0 v0_1 hv0_1 (r3.1,r3.2) hM r7 e8) ?_
 rintro v w a ⟨rfl,hM⟩ hE
 have hM:=M.tailU (m:=[_]) hM
 simp only [List.cons_append,List.nil_append] at hM
 refine Zd hE rfl fun a hE=>Zd hE rfl fun a hE=>ZD (xs:=[.const (vI 10),.const (vI 20),.const (vI 101)]) (l:=([10,20,101] : List Int)) (vs:=[vI 10,vI 20,vI 101]) hE hM Za ld rfl rfl Tryz.underlying27 ty2 rfl (by decide) rfl ?_; intro u9 w a hM hE
 have hM:=M.tailP (m:=[_,_]) hM.pull1
 obtain ⟨r11,e12,hF⟩:=bind_some hF
 refine Zq hE rfl Bp (YG _ _ _ _ b5 p0 v0_1 hv0_1 (r7.1.1,r7.1.2) ([10,20,101] : List Int) u9 hM r11 e12) ?_
 rintro v w a ⟨rfl,hM⟩ hE
 have hM:=M.tailU (m:=[_,_]) hM
 simp only [List.cons_append,List.nil_append] at hM
 have hM:=M.tailP (m:=[_]) hM
 obtain ⟨r13,e14,hF⟩:=bind_some hF
 refine Zq hE rfl cb66 (Tm _ _ _ _ b5 p0 v0_1 hv0_1 (r11.1.1,r11.1.2) r11.2 hM r13 e14) ?_
 rintro u15 w a ⟨_,rfl,hM⟩ hE
 have hM:=M.tailU (m:=[_,_]) hM
 simp only [List.cons_append,List.nil_append] at hM
 refine YY (parts:=[(0,.tmp 7),(1,.tmp 12)]) (vs:=[(0,vB r7.2),(1,u15)]) (cs:=cat [[vB r7.2],[u15]]) hE Za ld rfl rfl ZN Hu (YK (pre:=[]) (seg:=[vB 0]) (seg':=[vB r7.2]) (post:=[[(Value.slice none 0 0)]]) rfl cl0 rfl rfl rfl (YK (pre:=[[vB r7.2]]) (seg:=[(Value.slice none 0 0)]) (seg':=[u15]) (post:=[]) rfl ck rfl rfl (Y2 (hM.sl (pre:=[_]) noB)) Wy)) ?_; intro a hE
 have hM:=hM.pull3
 refine Xs (seg:=cat [[vB r7.2],[u15]]) (cs':=cat [[vB r7.2],[u15]]) hE hM Za rfl rfl rfl ZN cq (Nat.le_of_eq ((Nat.zero_add _).trans (Eq.trans cq (Eq.symm cq)))) (Wu (cc1 (Flat.cell (r7.2 : UInt8)) (cc1 (Rep.cell (hM.sl (pre:=[_,_]) noB)) cc0))) (ZZ (Eq.trans cq (Eq.symm cq))) fun w a hM hE=>Ze ?_
 obtain rfl:=Option.some.inj hF
 have hq16 : Tr Tryz.prog _ _ (.cell 2 33) _:=Ko hE rfl ZN rfl hM.rawAt0 cq rfl
 have hM:=M.fst (l:=[_]) hM.pull2
 exact wp_ret (Yb hE rfl hq16 ⟨_,rfl,u15,rfl,hM.outF (Z8 Yd),hM.kept⟩)
-- impl_decimal: ShelfF
-- impl_decimal: ShelfF
def Tw (p0 : (List UInt8)) (s8 : (List UInt8) × Int) : Option (Fl ((List UInt8) × Int) (List UInt8)) :=
 if (decide (s8.2 < (p0.length : Int))) = true then ((idx p0 s8.2).bind fun x15=>(idx (⟨[48,49,50,51,52,53,54,55,56,57,97,98,99,100,101,102]⟩ : Str).l (bI (BR x15 4))).bind fun x19=>(idx (⟨[48,49,50,51,52,53,54,55,56,57,97,98,99,100,101,102]⟩ : Str).l (bI (x15 &&& 15))).bind fun x21=>(app 1 s8.1 ([x19,x21] : List UInt8)).bind fun l25=>some (Fl.nx ((s8.1 ++ ([x19,x21] : List UInt8)),wr (s8.2 + 1)))) else (some (Fl.ex s8.1))
def TQ (p0 : (List UInt8)) : Option (Str) :=
 (ZH (Tw p0) (([] : List UInt8),0)).bind fun j3=>some (⟨j3⟩ : Str)
theorem yN (w0 : World) (p0 : (List UInt8)) (v0_1 : Value) (hv0_1 : Ro w0 p0 [v0_1]) (r : Str) (hF : TQ p0 = some r) :
  Calls Tryz.prog 113 [v0_1].toArray w0 (Rt w0 (vS r)):=by
 refine ce Tryz.func113 ?_
 intro a hE
 have hM:=M.start w0
 unfold TQ at hF
 refine Zc (Zb hE rfl fun a hE=>Ze (Zc (ZD (xs:=[]) (l:=([] : List UInt8)) (vs:=[]) hE hM Za ld rfl rfl Tryz.underlying22 ty5 rfl (by decide) rfl fun u1 w a hM hE=>Zb hE rfl fun a hE=>Ze (wp_seq (Zc (Zd hE rfl fun a hE=>ZL hE rfl Tryz.underlying22 (hM.rd hv0_1) fun a hE=>Zd hE rfl fun a hE=>Ze ?_))))))
 obtain ⟨j3,hl4,hF5⟩:=bind_some hF
 refine ZP (fun a w=>∃ (u6 : Value),Env 25 a [(3,u6)] ∧ M (Old w0) w0 w [osl NoB (j3 : List UInt8) u6]) ?_ ?_
 ·skip
  refine wp_block ?_
  refine ZK (fun (s8 : (List UInt8) × Int) a w=>∃ (u9 : Value),Env 25 a [(3,u9),(7,v0_1),(8,(vI (p0.length : Int))),(9,vI s8.2)] ∧ M (Old w0) w0 w [osl NoB (s8.1 : List UInt8) u9]) hl4 ⟨u1,hE.sub ⟨rfl,rfl,rfl,rfl,trivial⟩,hM⟩ ?_
  rintro s8 a w ⟨u9,hE,hM⟩ o13 hs11 hx12
  unfold Tw at hs11
  refine Zc (Zk hE rfl rfl rfl fun a hE=>Ze (wp_seq ?_))
  refine Zm hE rfl ?_ ?_
  ·intro hb14
   have hs11:=Zn hs11 hb14
   refine wp_skip (Zu (wp_seq (wp_block (Zc ?_))))
   obtain ⟨x15,hi17,hs11⟩:=bix hs11
   refine ZG hE rfl rfl Tryz.underlying22 ty5 (hM.rd hv0_1) hi17.1 fun a hE=>ZX (v:=(vB x15)) hE rfl ty5 rfl (ZS (hM.rd hv0_1) hi17.2) fun a hE=>Zb hE rfl fun a hE=>Ze ?_
   obtain ⟨x19,e20,hs11⟩:=bind_some hs11
   obtain ⟨x21,e22,hs11⟩:=bind_some hs11
   refine Wo (its:=[osl NoB (s8.1 : List UInt8) u9]) (mk:=([mkO 7 (fun v=>osl NoB (([x19,x21] : List UInt8) : List UInt8) v)] : Mk)) [13,14,15,16,17,18,19,20] Wb rfl rfl (by decide) rfl hE (fun u=>M.qE (M.q0 hM.drew u) emO) (qsP (fun z=>Zh z.E Za ld rfl (kr0 rfl)) (qsP (fun z=>Zh z.E Za ld rfl (kr0 rfl)) (qsP (v:=(vB (BR x15 4))) (fun z=>Ke z.E Za ld rfl rfl (qT _ _ (by decide)) (kr0 rfl)) (qsP (fun z=>Wi z.E Za ld rfl rfl Tryz.underlying9 e20 (kr0 rfl)) (qsP (fun z=>Zh z.E Za ld rfl (kr0 rfl)) (qsP (v:=(vB (x15 &&& 15))) (fun z=>ZJ z.E Za ld rfl rfl (Za0 x15 15) (kr0 rfl)) (qsP (fun z=>Wi z.E Za ld rfl rfl Tryz.underlying9 e22 (kr0 rfl)) (qsM (pr:=fun v=>True) ?_ qs0)))))))) ?_
   ·intro a w ux18 D z
    have hE:=z.E
    have hD : D 7 = false:=z.F
    have hM:=z.M
    exact ZD (xs:=[.tmp 16,.tmp 19]) (l:=([x19,x21] : List UInt8)) (vs:=[vB x19,vB x21]) hE hM Za ld rfl rfl Tryz.underlying22 ty5 rfl (by decide) rfl fun u23 w a hM hE=>⟨_,_,rfl,hE,M.qFill (mk1:=[]) (mk2:=[]) (f:=(fun v=>osl NoB (([x19,x21] : List UInt8) : List UInt8) v)) hM rfl hD,trivial⟩
   ·intro a w ux18 D hE hM hG hall
    have d7:=hall 7 (by decide)
    have hM:=hM.sure (pre:=[_]) d7
    obtain ⟨l25,e26,hs11⟩:=bind_some hs11
    obtain ⟨e29,rfl⟩:=ZY e26
    refine Z9 hE hM Za ld rfl rfl (hM.sl (pre:=[_]) noB) Tryz.underlying22 ty5 rfl (by decide) e29 fun u27 w a hM hE=>Zb hE rfl fun a hE=>Zj (Yg (Zu (wp_region_lit (Zk hE rfl rfl rfl fun a hE=>Zd hE rfl fun a hE=>Zj (Zi ?_)))))
    have hM:=M.fst (l:=[_]) hM
    exact ⟨_,(ois hs11),u27,hE.sub ⟨rfl,rfl,rfl,rfl,trivial⟩,hM⟩
  ·intro hb14
   have hs11:=Zo hs11 hb14
   refine wp_exit (Zs (Zs (Ys ?_)))
   obtain rfl:=hx12 _ (ois hs11)
   refine Zi ?_
   exact ⟨u9,hE.sub ⟨rfl,trivial⟩,hM⟩
 ·skip
  rintro a w ⟨u6,hE,hM⟩
  refine Zu (Zc (Zd hE rfl fun a hE=>T5 hE Za ld rfl Tryz.underlying22 Tryz.underlying5 Tryz.underlying9 (hM.sl (pre:=[]) noB) fun a hE=>Zb hE rfl fun a hE=>Ze ?_))
  obtain rfl:=Option.some.inj hF5
  exact wp_ret (kr1 hE rfl rfl hM.kept)
def U9 (p0 : GShare) : Option (Str) :=
 ((Wz (bI p0.Place)).bind fun r7=>(KP r7 (⟨[58]⟩ : Str)).bind fun x9=>(TQ p0.Data).bind fun r11=>(KP x9 r11).bind fun x13=>some x13 : Option (Str)).bind fun j3=>some j3
theorem BG (w0 : World) (p0 : GShare) (v0_1 : Value) (hv0_1 : Ro w0 p0.Data [v0_1]) (hT : TabT w0) (r : Str) (hF : U9 p0 = some r) :
  Calls Tryz.prog 68 [(Value.agg (cat [[vB p0.Place],[v0_1]]).toArray)].toArray w0 (Rt w0 (vS r)):=by
 refine ce Tryz.func68 ?_
 intro a hE
 have hM:=M.start w0
 unfold U9 at hF
 refine Zc (KW (cs:=cat [[vB p0.Place],[v0_1]]) hE hM Za ld rfl rfl fun b1 w a hM hE=>Zb hE rfl fun a hE=>Ze ?_)
 obtain ⟨j3,hl4,hF5⟩:=bind_some hF
 refine Zx (fun a w=>Env 12 a [(2,(vS j3))] ∧ M (Old w0) w0 w []) ?_ ?_
 ·skip
  obtain ⟨r7,e8,hl4⟩:=bind_some hl4
  obtain ⟨x9,e10,hl4⟩:=bind_some hl4
  obtain ⟨r11,e12,hl4⟩:=bind_some hl4
  obtain ⟨x13,e14,hl4⟩:=bind_some hl4
  refine YA [3,4,5,6,7,8,9,10,11,2] Wb rfl rfl (by decide) rfl hE hM (qsP (fun z=>Zv z.E Za ld rfl (XQ) (kr0 rfl)) (qsP (fun z=>ZE (v:=(vB p0.Place)) z.E Za ld rfl ty5 rfl (At.cat (pre:=[]) (z.M.rawAt0) cl0) (kr0 rfl)) (qsP (fun z=>TA z.E Za ld rfl Tryz.underlying5 Tryz.underlying2 (kr0 rfl)) (qsP (fun z=>ZW z.E Za ld rfl cb112 (Je _ (bI p0.Place) (hT.kept z.M.kept) r7 e8) (kc rfl)) (qsP (fun z=>Kk z.E Za ld rfl rfl e10 (kr0 rfl)) (qsP (fun z=>Zv z.E Za ld rfl (Yj) (kr0 rfl)) (qsP (fun z=>ZE (v:=v0_1) z.E Za ld rfl YS rfl (At.cat (pre:=[[vB p0.Place]]) (z.M.rawAt0) ck) (kr0 rfl)) (qsP (fun z=>ZW z.E Za ld rfl (cbm Tryz.func113) (yN _ p0.Data v0_1 (z.M.rdo hv0_1) r11 e12) (kc rfl)) (qsP (fun z=>Kk z.E Za ld rfl rfl e14 (kr0 rfl)) (qsP (fun z=>YO z.E Za ld rfl (kr0 rfl)) qs0)))))))))) ?_
  ·intro a w u hE hM
   refine Zj ?_
   obtain rfl:=Option.some.inj hl4
   refine Zi ?_
   have hM:=M.fst (l:=[]) hM
   exact ⟨hE.sub ⟨rfl,trivial⟩,hM⟩
 ·skip
  rintro a w ⟨hE,hM⟩
  obtain rfl:=Option.some.inj hF5
  exact wp_ret (kr1 hE rfl rfl hM.kept)
def Uc (p0 : GShare) : Option (Str × Int) :=
 (Uj p0).bind fun r3=>if (!r3) = true then (some ((⟨[]⟩ : Str),1)) else ((U9 p0).bind fun r6=>some (r6,0))
theorem BA (w0 : World) (p0 : GShare) (v0_1 : Value) (hv0_1 : Ro w0 p0.Data [v0_1]) (hT : TabT w0) (r : Str × Int) (hF : Uc p0 = some r) :
  Calls Tryz.prog 23 [(Value.agg (cat [[vB p0.Place],[v0_1]]).toArray)].toArray w0 (Rt w0 (Value.tuple [(vS r.1),vI r.2].toArray)):=by
 refine ce Tryz.func23 ?_
 intro a hE
 have hM:=M.start w0
 unfold Uc at hF
 refine Zc (KW (cs:=cat [[vB p0.Place],[v0_1]]) hE hM Za ld rfl rfl fun b1 w a hM hE=>Zb hE rfl fun a hE=>Zb hE rfl fun a hE=>Ze (wp_seq (Zc (WR hE rfl ZN rfl hM.rawAt0 cq ?_)))); intro a hE
 obtain ⟨r3,e4,hF⟩:=bind_some hF
 refine Zq hE rfl (cbm Tryz.func67) (Jr _ p0 v0_1 (hM.rdo hv0_1) r3 e4) ?_
 rintro v w a ⟨rfl,hK⟩ hE
 have hM:=hM.keep hK
 refine Ve hE rfl fun a hE=>Ze ?_
 refine Zm hE rfl ?_ ?_
 ·intro hb5
  have hF:=Zn hF hb5
  refine Zc (Zb hE rfl fun a hE=>Zb hE rfl fun a hE=>Ze ?_)
  obtain rfl:=Option.some.inj hF
  exact wp_ret (Zr (Z0 hE rfl (Zl hE rfl) (Zl hE rfl) ⟨_,rfl,rfl,hM.kept⟩))
 ·intro hb5
  have hF:=Zo hF hb5
  refine wp_skip (Zu (Zc (WR hE rfl ZN rfl hM.rawAt0 cq ?_))); intro a hE
  obtain ⟨r6,e7,hF⟩:=bind_some hF
  refine Zq hE rfl (cbm Tryz.func68) (BG _ p0 v0_1 (hM.rdo hv0_1) (hT.kept hM.kept) r6 e7) ?_
  rintro v w a ⟨rfl,hK⟩ hE
  have hM:=hM.keep hK
  refine Zb hE rfl fun a hE=>Zb hE rfl fun a hE=>Ze ?_
  obtain rfl:=Option.some.inj hF
  exact wp_ret (Z0 hE rfl (Zl hE rfl) (Zl hE rfl) ⟨_,rfl,rfl,hM.kept⟩)
def VP : Nat → Int → Option (Str)
 | 0,_=>none
 | fu + 1,p0=>if (decide (p0 < 10)) = true then (some (⟨([Yp (wr (48 + p0))] : List UInt8)⟩ : Str)) else (((VP fu (wr (Int.tdiv p0 10))).bind fun r8=>(KP r8 (⟨([Yp (wr (48 + (Int.tmod p0 10)))] : List UInt8)⟩ : Str)).bind fun x12=>some x12 : Option (Str)).bind fun j4=>some j4)
theorem Kc : ∀ (fu : Nat) (w0 : World) (p0 : Int) (r : Str) (hF : VP fu p0 = some r),
  Calls Tryz.prog 114 [vI p0].toArray w0 (Rt w0 (vS r)):=by
 intro fu
 induction fu with
 | zero=>intros; rename_i hF; unfold VP at hF; cases hF
 | succ fu ih =>
 have Kc:=fun (_ : Nat)=>ih
 intro w0 p0 r hF
 refine ce Tryz.func114 ?_
 intro a hE
 have hM:=M.start w0
 unfold VP at hF
 refine Zc (Zb hE rfl fun a hE=>Ze (wp_seq (Zc (Zd hE rfl fun a hE=>Zk hE rfl rfl rfl fun a hE=>Ze ?_))))
 refine Zm hE rfl ?_ ?_
 ·intro hb1
  have hF:=Zn hF hb1
  refine Zc (Zd hE rfl fun a hE=>Zk hE rfl rfl rfl fun a hE=>TH hE Za ld rfl Tryz.underlying2 Tryz.underlying5 fun a hE=>ZD (xs:=[.tmp 7]) (l:=([Yp (wr (48 + p0))] : List UInt8)) (vs:=[(vB (Yp (wr (48 + p0))))]) hE hM Za ld rfl rfl Tryz.underlying22 ty5 rfl (by decide) rfl fun u2 w a hM hE=>T5 hE Za ld rfl Tryz.underlying22 Tryz.underlying5 Tryz.underlying9 (hM.sl (pre:=[]) noB) fun a hE=>Zb hE rfl fun a hE=>Ze ?_)
  obtain rfl:=Option.some.inj hF
  exact wp_ret (Zr (kr1 hE rfl rfl hM.kept))
 ·intro hb1
  have hF:=Zo hF hb1
  refine wp_skip (Zu ?_)
  obtain ⟨j4,hl5,hF6⟩:=bind_some hF
  refine Zx (fun a w=>Env 20 a [(2,(vS j4))] ∧ M (Old w0) w0 w []) ?_ ?_
  ·skip
   obtain ⟨r8,e9,hl5⟩:=bind_some hl5
   refine Wo (its:=[]) (mk:=([mkO 7 (fun v=>osl NoB (([Yp (wr (48 + (Int.tmod p0 10)))] : List UInt8) : List UInt8) v)] : Mk)) [10,11,12,13,14,15,16,17,18] Wb rfl rfl (by decide) rfl hE (fun u=>M.qE (M.q0 hM.drew u) emO) (qsP (fun z=>Zh z.E Za ld rfl (kr0 rfl)) (qsP (v:=(vI (wr (Int.tdiv p0 10)))) (fun z=>ZJ z.E Za ld rfl rfl (HB _ _ (by decide)) (kr0 rfl)) (qsP (fun z=>ZW z.E Za ld rfl (cbm Tryz.func114) (Kc fu _ (wr (Int.tdiv p0 10)) r8 e9) (kc rfl)) (qsP (fun z=>Zh z.E Za ld rfl (kr0 rfl)) (qsP (v:=(vI (Int.tmod p0 10))) (fun z=>ZJ z.E Za ld rfl rfl (Kj _ _ (by decide)) (kr0 rfl)) (qsP (v:=(vI (wr (48 + (Int.tmod p0 10))))) (fun z=>ZJ z.E Za ld rfl rfl rfl (kr0 rfl)) (qsP (fun z=>TH z.E Za ld rfl Tryz.underlying2 Tryz.underlying5 (kr0 rfl)) (qsM (pr:=fun v=>True) ?_ (qsP (v:=(vS (⟨([Yp (wr (48 + (Int.tmod p0 10)))] : List UInt8)⟩ : Str))) ?_ qs0))))))))) ?_
   ·intro a w ux7 D z
    have hE:=z.E
    have hD : D 7 = false:=z.F
    have hM:=z.M
    exact ZD (xs:=[.tmp 16]) (l:=([Yp (wr (48 + (Int.tmod p0 10)))] : List UInt8)) (vs:=[(vB (Yp (wr (48 + (Int.tmod p0 10)))))]) hE hM Za ld rfl rfl Tryz.underlying22 ty5 rfl (by decide) rfl fun u10 w a hM hE=>⟨_,_,rfl,hE,M.qFill (mk1:=[]) (mk2:=[]) (f:=(fun v=>osl NoB (([Yp (wr (48 + (Int.tmod p0 10)))] : List UInt8) : List UInt8) v)) hM rfl hD,trivial⟩
   ·intro a w ux7 D z
    have hE:=z.E
    have d7 : D 7 = true:=z.p 0 _ rfl rfl
    have hM:=z.M.sure (pre:=[]) d7
    exact T5 hE Za ld rfl Tryz.underlying22 Tryz.underlying5 Tryz.underlying9 (hM.sl (pre:=[]) noB) fun a hE=>⟨Kept.refl _ _,_,rfl,hE⟩
   ·intro a w ux7 D hE hM hG hall
    have d7:=hall 7 (by decide)
    have hM:=hM.sure (pre:=[]) d7
    obtain ⟨x12,e13,hl5⟩:=bind_some hl5
    refine Kk hE Za ld rfl rfl e13 fun a hE=>Zb hE rfl fun a hE=>Zj ?_
    obtain rfl:=Option.some.inj hl5
    refine Zi ?_
    have hM:=M.fst (l:=[]) hM
    exact ⟨hE.sub ⟨rfl,trivial⟩,hM⟩
  ·skip
   rintro a w ⟨hE,hM⟩
   obtain rfl:=Option.some.inj hF6
   exact wp_ret (kr1 hE rfl rfl hM.kept)
def U3 (p0 : (List UInt8)) (s8 : (List UInt8) × Int) : Option (Fl ((List UInt8) × Int) (List UInt8)) :=
 if (decide (s8.2 < (p0.length : Int))) = true then ((idx p0 s8.2).bind fun x16=>(idx (⟨[48,49,50,51,52,53,54,55,56,57,97,98,99,100,101,102]⟩ : Str).l (bI (x16 / 16))).bind fun x19=>(idx p0 s8.2).bind fun x21=>(idx (⟨[48,49,50,51,52,53,54,55,56,57,97,98,99,100,101,102]⟩ : Str).l (bI (x21 % 16))).bind fun x24=>(app 1 s8.1 ([x19,x24] : List UInt8)).bind fun l28=>some (Fl.nx ((s8.1 ++ ([x19,x24] : List UInt8)),wr (s8.2 + 1)))) else (some (Fl.ex s8.1))
def Tv (p0 : (List UInt8)) : Option (Str) :=
 (ZH (U3 p0) (([] : List UInt8),0)).bind fun j3=>some (⟨j3⟩ : Str)
theorem zP (w0 : World) (p0 : (List UInt8)) (v0_1 : Value) (hv0_1 : Ro w0 p0 [v0_1]) (r : Str) (hF : Tv p0 = some r) :
  Calls Tryz.prog 115 [v0_1].toArray w0 (Rt w0 (vS r)):=by
 refine ce Tryz.func115 ?_
 intro a hE
 have hM:=M.start w0
 unfold Tv at hF
 refine Zc (Zb hE rfl fun a hE=>Ze (Zc (ZD (xs:=[]) (l:=([] : List UInt8)) (vs:=[]) hE hM Za ld rfl rfl Tryz.underlying22 ty5 rfl (by decide) rfl fun u1 w a hM hE=>Zb hE rfl fun a hE=>Zb hE rfl fun a hE=>Ze (wp_seq (Zc (Zb hE rfl fun a hE=>Ze ?_))))))
 obtain ⟨j3,hl4,hF5⟩:=bind_some hF
 refine ZP (fun a w=>∃ (u6 : Value),Env 32 a [(4,u6)] ∧ M (Old w0) w0 w [osl NoB (j3 : List UInt8) u6]) ?_ ?_
 ·skip
  refine wp_block ?_
  refine ZK (fun (s8 : (List UInt8) × Int) a w=>∃ (u9 : Value),Env 32 a [(0,v0_1),(3,(vS (⟨[48,49,50,51,52,53,54,55,56,57,97,98,99,100,101,102]⟩ : Str))),(4,u9),(5,vI s8.2)] ∧ M (Old w0) w0 w [osl NoB (s8.1 : List UInt8) u9]) hl4 ⟨u1,hE.sub ⟨rfl,rfl,rfl,rfl,trivial⟩,hM⟩ ?_
  rintro s8 a w ⟨u9,hE,hM⟩ o13 hs11 hx12
  unfold U3 at hs11
  refine wp_seq (Zc (Zd hE rfl fun a hE=>Zd hE rfl fun a hE=>ZL hE rfl Tryz.underlying22 (hM.rd hv0_1) fun a hE=>Zk hE rfl rfl rfl fun a hE=>Ze ?_))
  refine Zm hE rfl ?_ ?_
  ·intro hb14
   have hs11:=Zn hs11 hb14
   refine wp_skip (Zu (wp_seq (wp_block ?_)))
   obtain ⟨x16,hi18,hs11⟩:=bix hs11
   obtain ⟨x19,e20,hs11⟩:=bind_some hs11
   obtain ⟨x21,hi23,hs11⟩:=bix hs11
   obtain ⟨x24,e25,hs11⟩:=bind_some hs11
   refine Wo (its:=[osl NoB (s8.1 : List UInt8) u9]) (mk:=([mkO 15 (fun v=>osl NoB (([x19,x24] : List UInt8) : List UInt8) v)] : Mk)) [13,14,15,16,17,18,19,20,21,22,23,24,25,26,27,28] Wb rfl rfl (by decide) rfl hE (fun u=>M.qE (M.q0 hM.drew u) emO) (qsP (fun z=>Zh z.E Za ld rfl (kr0 rfl)) (qsP (fun z=>Zh z.E Za ld rfl (kr0 rfl)) (qsP (fun z=>Zh z.E Za ld rfl (kr0 rfl)) (qsP (fun z=>Zh z.E Za ld rfl (kr0 rfl)) (qsP (fun z=>ZA z.E Za ld rfl rfl Tryz.underlying22 ty5 (z.M.rd hv0_1) hi18.1 (kr0 rfl)) (qsP (fun z=>ZE (v:=(vB x16)) z.E Za ld rfl ty5 rfl (ZS (z.M.rd hv0_1) hi18.2) (kr0 rfl)) (qsP (v:=(vB (x16 / 16))) (fun z=>ZJ z.E Za ld rfl rfl (bB_quo x16 16 (by decide)) (kr0 rfl)) (qsP (fun z=>Wi z.E Za ld rfl rfl Tryz.underlying9 e20 (kr0 rfl)) (qsP (fun z=>Zh z.E Za ld rfl (kr0 rfl)) (qsP (fun z=>Zh z.E Za ld rfl (kr0 rfl)) (qsP (fun z=>Zh z.E Za ld rfl (kr0 rfl)) (qsP (fun z=>ZA z.E Za ld rfl rfl Tryz.underlying22 ty5 (z.M.rd hv0_1) hi23.1 (kr0 rfl)) (qsP (fun z=>ZE (v:=(vB x21)) z.E Za ld rfl ty5 rfl (ZS (z.M.rd hv0_1) hi23.2) (kr0 rfl)) (qsP (v:=(vB (x21 % 16))) (fun z=>ZJ z.E Za ld rfl rfl (bB_rem x21 16 (by decide)) (kr0 rfl)) (qsP (fun z=>Wi z.E Za ld rfl rfl Tryz.underlying9 e25 (kr0 rfl)) (qsM (pr:=fun v=>True) ?_ qs0)))))))))))))))) ?_
   ·intro a w ux15 D z
    have hE:=z.E
    have hD : D 15 = false:=z.F
    have hM:=z.M
    exact ZD (xs:=[.tmp 20,.tmp 27]) (l:=([x19,x24] : List UInt8)) (vs:=[vB x19,vB x24]) hE hM Za ld rfl rfl Tryz.underlying22 ty5 rfl (by decide) rfl fun u26 w a hM hE=>⟨_,_,rfl,hE,M.qFill (mk1:=[]) (mk2:=[]) (f:=(fun v=>osl NoB (([x19,x24] : List UInt8) : List UInt8) v)) hM rfl hD,trivial⟩
   ·intro a w ux15 D hE hM hG hall
    have d15:=hall 15 (by decide)
    have hM:=hM.sure (pre:=[_]) d15
    obtain ⟨l28,e29,hs11⟩:=bind_some hs11
    obtain ⟨e32,rfl⟩:=ZY e29
    refine Z9 hE hM Za ld rfl rfl (hM.sl (pre:=[_]) noB) Tryz.underlying22 ty5 rfl (by decide) e32 fun u30 w a hM hE=>Zb hE rfl fun a hE=>Zj (Yg (Zu (wp_region_lit (Zd hE rfl fun a hE=>Zk hE rfl rfl rfl fun a hE=>Zb hE rfl fun a hE=>Zj (Zi ?_)))))
    have hM:=M.fst (l:=[_]) hM
    exact ⟨_,(ois hs11),u30,hE.sub ⟨rfl,rfl,rfl,rfl,trivial⟩,hM⟩
  ·intro hb14
   have hs11:=Zo hs11 hb14
   refine wp_exit (Zs (Zs (Ys ?_)))
   obtain rfl:=hx12 _ (ois hs11)
   refine Zi ?_
   exact ⟨u9,hE.sub ⟨rfl,trivial⟩,hM⟩
 ·skip
  rintro a w ⟨u6,hE,hM⟩
  refine Zu (Zc (Zd hE rfl fun a hE=>T5 hE Za ld rfl Tryz.underlying22 Tryz.underlying5 Tryz.underlying9 (hM.sl (pre:=[]) noB) fun a hE=>Zb hE rfl fun a hE=>Ze ?_))
  obtain rfl:=Option.some.inj hF5
  exact wp_ret (kr1 hE rfl rfl hM.kept)
def V6 (p0 : GShare) : Option (Str) :=
 ((VP 64 (bI p0.Place)).bind fun r7=>(KP r7 (⟨[58]⟩ : Str)).bind fun x9=>(Tv p0.Data).bind fun r11=>(KP x9 r11).bind fun x13=>some x13 : Option (Str)).bind fun j3=>some j3
theorem Jf (w0 : World) (p0 : GShare) (v0_1 : Value) (hv0_1 : Ro w0 p0.Data [v0_1]) (r : Str) (hF : V6 p0 = some r) :
  Calls Tryz.prog 70 [(Value.agg (cat [[vB p0.Place],[v0_1]]).toArray)].toArray w0 (Rt w0 (vS r)):=by
 refine ce Tryz.func70 ?_
 intro a hE
 have hM:=M.start w0
 unfold V6 at hF
 refine Zc (KW (cs:=cat [[vB p0.Place],[v0_1]]) hE hM Za ld rfl rfl fun b1 w a hM hE=>Zb hE rfl fun a hE=>Ze ?_)
 obtain ⟨j3,hl4,hF5⟩:=bind_some hF
 refine Zx (fun a w=>Env 12 a [(2,(vS j3))] ∧ M (Old w0) w0 w []) ?_ ?_
 ·skip
  obtain ⟨r7,e8,hl4⟩:=bind_some hl4
  obtain ⟨x9,e10,hl4⟩:=bind_some hl4
  obtain ⟨r11,e12,hl4⟩:=bind_some hl4
  obtain ⟨x13,e14,hl4⟩:=bind_some hl4
  refine YA [3,4,5,6,7,8,9,10,11,2] Wb rfl rfl (by decide) rfl hE hM (qsP (fun z=>Zv z.E Za ld rfl (XQ) (kr0 rfl)) (qsP (fun z=>ZE (v:=(vB p0.Place)) z.E Za ld rfl ty5 rfl (At.cat (pre:=[]) (z.M.rawAt0) cl0) (kr0 rfl)) (qsP (fun z=>TA z.E Za ld rfl Tryz.underlying5 Tryz.underlying2 (kr0 rfl)) (qsP (fun z=>ZW z.E Za ld rfl (cbm Tryz.func114) (Kc 64 _ (bI p0.Place) r7 e8) (kc rfl)) (qsP (fun z=>Kk z.E Za ld rfl rfl e10 (kr0 rfl)) (qsP (fun z=>Zv z.E Za ld rfl (Yj) (kr0 rfl)) (qsP (fun z=>ZE (v:=v0_1) z.E Za ld rfl YS rfl (At.cat (pre:=[[vB p0.Place]]) (z.M.rawAt0) ck) (kr0 rfl)) (qsP (fun z=>ZW z.E Za ld rfl (cbm Tryz.func115) (zP _ p0.Data v0_1 (z.M.rdo hv0_1) r11 e12) (kc rfl)) (qsP (fun z=>Kk z.E Za ld rfl rfl e14 (kr0 rfl)) (qsP (fun z=>YO z.E Za ld rfl (kr0 rfl)) qs0)))))))))) ?_
  ·intro a w u hE hM
   refine Zj ?_
   obtain rfl:=Option.some.inj hl4
   refine Zi ?_
   have hM:=M.fst (l:=[]) hM
   exact ⟨hE.sub ⟨rfl,trivial⟩,hM⟩
 ·skip
  rintro a w ⟨hE,hM⟩
  obtain rfl:=Option.some.inj hF5
  exact wp_ret (kr1 hE rfl rfl hM.kept)
def V9 (p0 : GShare) : Option (Str × Int) :=
 (VC p0).bind fun r3=>if (!r3) = true then (some ((⟨[]⟩ : Str),1)) else ((V6 p0).bind fun r6=>some (r6,0))
theorem Bu (w0 : World) (p0 : GShare) (v0_1 : Value) (hv0_1 : Ro w0 p0.Data [v0_1]) (r : Str × Int) (hF : V9 p0 = some r) :
  Calls Tryz.prog 24 [(Value.agg (cat [[vB p0.Place],[v0_1]]).toArray)].toArray w0 (Rt w0 (Value.tuple [(vS r.1),vI r.2].toArray)):=by
 refine ce Tryz.func24 ?_
 intro a hE
 have hM:=M.start w0
 unfold V9 at hF
 refine Zc (KW (cs:=cat [[vB p0.Place],[v0_1]]) hE hM Za ld rfl rfl fun b1 w a hM hE=>Zb hE rfl fun a hE=>Zb hE rfl fun a hE=>Ze (wp_seq (Zc (WR hE rfl ZN rfl hM.rawAt0 cq ?_)))); intro a hE
 obtain ⟨r3,e4,hF⟩:=bind_some hF
 refine Zq hE rfl (cbm Tryz.func69) (KT _ p0 v0_1 (hM.rdo hv0_1) r3 e4) ?_
 rintro v w a ⟨rfl,hK⟩ hE
 have hM:=hM.keep hK
 refine Ve hE rfl fun a hE=>Ze ?_
 refine Zm hE rfl ?_ ?_
 ·intro hb5
  have hF:=Zn hF hb5
  refine Zc (Zb hE rfl fun a hE=>Zb hE rfl fun a hE=>Ze ?_)
  obtain rfl:=Option.some.inj hF
  exact wp_ret (Zr (Z0 hE rfl (Zl hE rfl) (Zl hE rfl) ⟨_,rfl,rfl,hM.kept⟩))
 ·intro hb5
  have hF:=Zo hF hb5
  refine wp_skip (Zu (Zc (WR hE rfl ZN rfl hM.rawAt0 cq ?_))); intro a hE
  obtain ⟨r6,e7,hF⟩:=bind_some hF
  refine Zq hE rfl (cbm Tryz.func70) (Jf _ p0 v0_1 (hM.rdo hv0_1) r6 e7) ?_
  rintro v w a ⟨rfl,hK⟩ hE
  have hM:=hM.keep hK
  refine Zb hE rfl fun a hE=>Zb hE rfl fun a hE=>Ze ?_
  obtain rfl:=Option.some.inj hF
  exact wp_ret (Z0 hE rfl (Zl hE rfl) (Zl hE rfl) ⟨_,rfl,rfl,hM.kept⟩)
-- internal_stringslite_Index: ShelfF
-- internal_stringslite_Index: ShelfF
def XP (p0 : Str) (p1 : Str) : Option (Str × Str × Bool) :=
 (Xz p0 p1).bind fun r1=>if (decide (r1 ≥ 0)) = true then (((Kb p0 (0 : Int) r1).bind fun x8=>(Kb p0 (wr (r1 + (p1.l.length : Int))) (p0.l.length : Int)).bind fun x10=>some (x8,x10,true) : Option (Str × Str × Bool)).bind fun j4=>some (j4.1,j4.2.1,j4.2.2)) else (some (p0,(⟨[]⟩ : Str),false))
theorem QJ (w0 : World) (p0 : Str) (p1 : Str) (r : Str × Str × Bool) (hF : XP p0 p1 = some r) :
  Calls Tryz.prog 116 [(vS p0),(vS p1)].toArray w0 (Rt w0 (Value.tuple [(vS r.1),(vS r.2.1),vT r.2.2].toArray)):=by
 refine ce Tryz.func116 ?_
 intro a hE
 have hM:=M.start w0
 unfold XP at hF
 refine Zc (Zb hE rfl fun a hE=>Zb hE rfl fun a hE=>Zb hE rfl fun a hE=>Ze (wp_seq (Zc (Zd hE rfl fun a hE=>Zd hE rfl ?_)))); intro a hE
 obtain ⟨r1,e2,hF⟩:=bind_some hF
 refine Zq hE rfl (cbm Tryz.func135) (Qp _ p0 p1 r1 e2) ?_
 rintro v w a ⟨rfl,hK⟩ hE
 have hM:=hM.keep hK
 refine Zb hE rfl fun a hE=>Ze (Zc (Zd hE rfl fun a hE=>Zk hE rfl rfl rfl fun a hE=>Ze ?_))
 refine Zm hE rfl ?_ ?_
 ·intro hb3
  have hF:=Zn hF hb3
  obtain ⟨j4,hl5,hF6⟩:=bind_some hF
  refine Zx (fun a w=>Env 23 a [(4,(vS j4.1)),(5,(vS j4.2.1)),(6,vT j4.2.2)] ∧ M (Old w0) w0 w []) ?_ ?_
  ·skip
   obtain ⟨x8,e9,hl5⟩:=bind_some hl5
   obtain ⟨x10,e11,hl5⟩:=bind_some hl5
   refine YA [13,14,15,16,17,18,19,20,21,4,5,6] Wb rfl rfl (by decide) rfl hE hM (qsP (fun z=>Zh z.E Za ld rfl (kr0 rfl)) (qsP (fun z=>Zh z.E Za ld rfl (kr0 rfl)) (qsP (fun z=>VO z.E Za ld rfl rfl (VW rfl) rfl rfl Tryz.underlying9 e9 (kr0 rfl)) (qsP (fun z=>Zh z.E Za ld rfl (kr0 rfl)) (qsP (fun z=>Zh z.E Za ld rfl (kr0 rfl)) (qsP (fun z=>Zh z.E Za ld rfl (kr0 rfl)) (qsP (fun z=>V1 z.E Za ld rfl Tryz.underlying9 (kr0 rfl)) (qsP (v:=(vI (wr (r1 + (p1.l.length : Int))))) (fun z=>ZJ z.E Za ld rfl rfl rfl (kr0 rfl)) (qsP (fun z=>VO z.E Za ld rfl (VW rfl) rfl rfl rfl Tryz.underlying9 e11 (kr0 rfl)) (qsP (fun z=>YO z.E Za ld rfl (kr0 rfl)) (qsP (fun z=>YO z.E Za ld rfl (kr0 rfl)) (qsP (fun z=>YO z.E Za ld rfl (kr0 rfl)) qs0)))))))))))) ?_
   ·intro a w u hE hM
    refine Zj ?_
    obtain rfl:=Option.some.inj hl5
    refine Zi ?_
    exact ⟨hE.sub ⟨rfl,rfl,rfl,trivial⟩,hM⟩
  ·skip
   rintro a w ⟨hE,hM⟩
   obtain rfl:=Option.some.inj hF6
   exact wp_ret (Zr (KD hE rfl (Zl hE rfl) (Zl hE rfl) (Zl hE rfl) ⟨_,rfl,rfl,hM.kept⟩))
 ·intro hb3
  have hF:=Zo hF hb3
  refine wp_skip (Zu (Zc (Zd hE rfl fun a hE=>Zb hE rfl fun a hE=>Zb hE rfl fun a hE=>Zb hE rfl fun a hE=>Ze ?_)))
  obtain rfl:=Option.some.inj hF
  exact wp_ret (KD hE rfl (Zl hE rfl) (Zl hE rfl) (Zl hE rfl) ⟨_,rfl,rfl,hM.kept⟩)
def To (p0 : Str) (p1 : Str) : Option (Str × Str × Bool) :=
 (XP p0 p1).bind fun r1=>some (r1.1,r1.2.1,r1.2.2)
theorem zM (w0 : World) (p0 : Str) (p1 : Str) (r : Str × Str × Bool) (hF : To p0 p1 = some r) :
  Calls Tryz.prog 71 [(vS p0),(vS p1)].toArray w0 (Rt w0 (Value.tuple [(vS r.1),(vS r.2.1),vT r.2.2].toArray)):=by
 refine ce Tryz.func71 ?_
 intro a hE
 have hM:=M.start w0
 unfold To at hF
 refine Zc (Zb hE rfl fun a hE=>Zb hE rfl fun a hE=>Zb hE rfl fun a hE=>Ze (Zc (Zd hE rfl fun a hE=>Zd hE rfl ?_))); intro a hE
 obtain ⟨r1,e2,hF⟩:=bind_some hF
 refine Zq hE rfl (cbm Tryz.func116) (QJ _ p0 p1 r1 e2) ?_
 rintro v w a ⟨rfl,hK⟩ hE
 have hM:=hM.keep hK
 refine Zt hE Za ld rfl rfl fun a hE=>Zt hE Za ld rfl rfl fun a hE=>Zt hE Za ld rfl rfl fun a hE=>Zb hE rfl fun a hE=>Zb hE rfl fun a hE=>Zb hE rfl fun a hE=>Ze ?_
 obtain rfl:=Option.some.inj hF
 exact wp_ret (KD hE rfl (Zl hE rfl) (Zl hE rfl) (Zl hE rfl) ⟨_,rfl,rfl,hM.kept⟩)
-- impl_readDecimal: ShelfF
-- impl_readDecimal: ShelfF
def WI (p0 : UInt8) : Option (UInt8 × Bool) :=
 (if (decide (p0 ≥ 48)) = true then (some (decide (p0 ≤ 57))) else (some false) : Option (Bool)).bind fun j1=>if j1 = true then (some (p0 - 48,true)) else ((if (decide (p0 ≥ 97)) = true then (some (decide (p0 ≤ 102))) else (some false) : Option (Bool)).bind fun j8=>if j8 = true then (some ((p0 - 97) + 10,true)) else (some (0,false)))
theorem KS (w0 : World) (p0 : UInt8) (r : UInt8 × Bool) (hF : WI p0 = some r) :
  Calls Tryz.prog 118 [vB p0].toArray w0 (Rt w0 (Value.tuple [vB r.1,vT r.2].toArray)):=by
 refine ce Tryz.func118 ?_
 intro a hE
 have hM:=M.start w0
 unfold WI at hF
 refine Zc (Zb hE rfl fun a hE=>Zb hE rfl fun a hE=>Ze (wp_seq (wp_block ?_)))
 obtain ⟨j1,hl2,hF3⟩:=bind_some hF
 refine Zx (fun a w=>Env 23 a [(0,vB p0),(4,vT j1)] ∧ M (Old w0) w0 w []) ?_ ?_
 ·skip
  refine wp_region_lit (Zd hE rfl fun a hE=>Zk hE rfl rfl (yo p0 48) fun a hE=>Zd hE rfl ?_); intro a hE
  refine ZO (decide (p0 ≥ 48)) (fun hb4=>?_) (fun hb4=>?_)
  ·have hl2:=Zn hl2 hb4
   refine Zh hE (Zf hE rfl (lkb rfl hb4)) (by decide) rfl fun a hE=>ZJ hE (Zf hE rfl (lkb rfl hb4)) (by decide) rfl rfl (yv p0 57) fun a hE=>ZB hE (lkb rfl hb4) rfl fun a hE=>Zb hE rfl fun a hE=>Zj ?_
   obtain rfl:=Option.some.inj hl2
   refine Zi ?_
   exact ⟨hE.sub ⟨rfl,rfl,trivial⟩,hM⟩
  ·have hl2:=Zo hl2 hb4
   refine Zg hE rfl (lkb rfl hb4) rfl (by decide) fun a hE=>Zg hE rfl (lkb rfl hb4) rfl (by decide) fun a hE=>Zy hE (lkb rfl hb4) rfl fun a hE=>Zb hE rfl fun a hE=>Zj ?_
   obtain rfl:=Option.some.inj hl2
   refine Zi ?_
   exact ⟨hE.sub ⟨rfl,rfl,trivial⟩,hM⟩
 ·skip
  rintro a w ⟨hE,hM⟩
  refine Zm hE rfl ?_ ?_
  ·intro hb7
   have hF3:=Zn hF3 hb7
   refine Zc (Zd hE rfl fun a hE=>Zk hE rfl rfl (zt p0 48) fun a hE=>Zb hE rfl fun a hE=>Zb hE rfl fun a hE=>Ze ?_)
   obtain rfl:=Option.some.inj hF3
   exact wp_ret (Z4 (Zr (Z0 hE rfl (Zl hE rfl) (Zl hE rfl) ⟨_,rfl,rfl,hM.kept⟩)))
  ·intro hb7
   have hF3:=Zo hF3 hb7
   obtain ⟨j8,hl9,hF10⟩:=bind_some hF3
   refine Zx (fun a w=>Env 23 a [(0,vB p0),(13,vT j8)] ∧ M (Old w0) w0 w []) ?_ ?_
   ·skip
    refine wp_region_lit (Zd hE rfl fun a hE=>Zk hE rfl rfl (yo p0 97) fun a hE=>Zd hE rfl ?_); intro a hE
    refine ZO (decide (p0 ≥ 97)) (fun hb11=>?_) (fun hb11=>?_)
    ·have hl9:=Zn hl9 hb11
     refine Zh hE (Zf hE rfl (lkb rfl hb11)) (by decide) rfl fun a hE=>ZJ hE (Zf hE rfl (lkb rfl hb11)) (by decide) rfl rfl (yv p0 102) fun a hE=>ZB hE (lkb rfl hb11) rfl fun a hE=>Zb hE rfl fun a hE=>Zj ?_
     obtain rfl:=Option.some.inj hl9
     refine Zi ?_
     exact ⟨hE.sub ⟨rfl,rfl,trivial⟩,hM⟩
    ·have hl9:=Zo hl9 hb11
     refine Zg hE rfl (lkb rfl hb11) rfl (by decide) fun a hE=>Zg hE rfl (lkb rfl hb11) rfl (by decide) fun a hE=>Zy hE (lkb rfl hb11) rfl fun a hE=>Zb hE rfl fun a hE=>Zj ?_
     obtain rfl:=Option.some.inj hl9
     refine Zi ?_
     exact ⟨hE.sub ⟨rfl,rfl,trivial⟩,hM⟩
   ·skip
    rintro a w ⟨hE,hM⟩
    refine Zm hE rfl ?_ ?_
    ·intro hb14
     have hF10:=Zn hF10 hb14
     refine Zc (Zd hE rfl fun a hE=>Zk hE rfl rfl (zt p0 97) fun a hE=>Zk hE rfl rfl (bB_add (p0 - 97) 10) fun a hE=>Zb hE rfl fun a hE=>Zb hE rfl fun a hE=>Ze ?_)
     obtain rfl:=Option.some.inj hF10
     exact wp_ret (Z4 (Zr (Z0 hE rfl (Zl hE rfl) (Zl hE rfl) ⟨_,rfl,rfl,hM.kept⟩)))
    ·intro hb14
     have hF10:=Zo hF10 hb14
     refine wp_skip (Yg (Zu (Zc (Zb hE rfl fun a hE=>Zb hE rfl fun a hE=>Ze ?_))))
     obtain rfl:=Option.some.inj hF10
     exact wp_ret (Z0 hE rfl (Zl hE rfl) (Zl hE rfl) ⟨_,rfl,rfl,hM.kept⟩)
def XZ (p0 : Str) (s11 : (List UInt8) × Int) : Option (Fl ((List UInt8) × Int) (Fl (List UInt8) ((List UInt8) × Bool))) :=
 if (decide (s11.2 < (p0.l.length : Int))) = true then ((idx p0.l s11.2).bind fun x18=>(WI x18).bind fun r20=>(idx p0.l (wr (s11.2 + 1))).bind fun x22=>(WI x22).bind fun r24=>(if (!r20.2) = true then (some true) else (some (!r24.2)) : Option (Bool)).bind fun j26=>if j26 = true then (some (Fl.ex (Fl.ex ([],false)))) else ((app 1 s11.1 ([(BI r20.1 4) ||| r24.1] : List UInt8)).bind fun l37=>some (Fl.nx ((s11.1 ++ ([(BI r20.1 4) ||| r24.1] : List UInt8)),wr (s11.2 + 2))))) else (some (Fl.ex (Fl.nx s11.1)))
def UW (p0 : Str) : Option ((List UInt8) × Bool) :=
 if ((Int.tmod (p0.l.length : Int) 2) == 1) = true then (some ([],false)) else ((ZH (XZ p0) (([] : List UInt8),0)).bind fun j5=>j5.el (fun s8=>some (s8,true)) (fun r=>some r))
theorem AT (w0 : World) (p0 : Str) (r : (List UInt8) × Bool) (hF : UW p0 = some r) :
  Calls Tryz.prog 73 [(vS p0)].toArray w0 (fun en w'=>∃ v,en = .returned v ∧ (∃ (y1 : Value),v = (Value.tuple [y1,vT r.2].toArray) ∧ Fr w0 w' [osl NoB (r.1 : List UInt8) y1] ∧ Kept (Old w0) w0 w')):=by
 refine ce Tryz.func73 ?_
 intro a hE
 have hM:=M.start w0
 unfold UW at hF
 refine Zc (Zb hE rfl fun a hE=>Zb hE rfl fun a hE=>Ze (Zc (ZD (xs:=[]) (l:=([] : List UInt8)) (vs:=[]) hE hM Za ld rfl rfl Tryz.underlying22 ty5 rfl (by decide) rfl fun u1 w a hM hE=>Zb hE rfl fun a hE=>Ze (wp_seq (Zc (Zd hE rfl fun a hE=>V1 hE Za ld rfl Tryz.underlying9 fun a hE=>Zk hE rfl rfl (Kj _ _ (by decide)) fun a hE=>Zk hE rfl rfl rfl fun a hE=>Ze ?_))))))
 refine Zm hE rfl ?_ ?_
 ·intro hb3
  have hF:=Zn hF hb3
  refine Zc (Zb hE rfl fun a hE=>Zb hE rfl fun a hE=>Ze ?_)
  have hM:=M.nilS (α:=UInt8) NoB noB hM
  obtain rfl:=Option.some.inj hF
  have hM:=M.fst (l:=[_]) hM
  exact wp_ret (Zr (Z0 hE rfl (Zl hE rfl) (Zl hE rfl) ⟨_,rfl,(Value.slice none 0 0),rfl,hM.outF (Z8 Yd),hM.kept⟩))
 ·intro hb3
  have hF:=Zo hF hb3
  refine wp_skip (Zu (wp_seq (Zc (Zb hE rfl fun a hE=>Ze ?_))))
  obtain ⟨j5,hl6,hF7⟩:=bind_some hF
  refine ZP (fun a w=>∃ s8 : (List UInt8),j5 = Fl.nx s8 ∧ ∃ (u9 : Value),Env 50 a [(4,u9)] ∧ M (Old w0) w0 w [osl NoB (s8 : List UInt8) u9]) ?_ ?_
  ·skip
   refine wp_block ?_
   refine ZK (fun (s11 : (List UInt8) × Int) a w=>∃ (u12 : Value),Env 50 a [(0,(vS p0)),(4,u12),(5,vI s11.2)] ∧ M (Old w0) w0 w [osl NoB (s11.1 : List UInt8) u12]) hl6 ⟨u1,hE.sub ⟨rfl,rfl,rfl,trivial⟩,hM⟩ ?_
   rintro s11 a w ⟨u12,hE,hM⟩ o16 hs14 hx15
   unfold XZ at hs14
   refine wp_seq (Zc (Zd hE rfl fun a hE=>Zd hE rfl fun a hE=>V1 hE Za ld rfl Tryz.underlying9 fun a hE=>Zk hE rfl rfl rfl fun a hE=>Ze ?_))
   refine Zm hE rfl ?_ ?_
   ·intro hb17
    have hs14:=Zn hs14 hb17
    refine wp_skip (Zu (wp_seq (wp_block (Zc (Zd hE rfl fun a hE=>Zd hE rfl ?_))))); intro a hE
    obtain ⟨x18,e19,hs14⟩:=bind_some hs14
    refine Wi hE Za ld rfl rfl Tryz.underlying9 e19 ?_; intro a hE
    obtain ⟨r20,e21,hs14⟩:=bind_some hs14
    refine Zq hE rfl (cbm Tryz.func118) (KS _ x18 r20 e21) ?_
    rintro v w a ⟨rfl,hK⟩ hE
    have hM:=hM.keep hK
    refine Zd hE rfl fun a hE=>Zt hE Za ld rfl rfl fun a hE=>Zt hE Za ld rfl rfl fun a hE=>Zb hE rfl fun a hE=>Zb hE rfl fun a hE=>Ze (Zc (Zd hE rfl fun a hE=>Zd hE rfl fun a hE=>Zk hE rfl rfl rfl ?_)); intro a hE
    obtain ⟨x22,e23,hs14⟩:=bind_some hs14
    refine Wi hE Za ld rfl rfl Tryz.underlying9 e23 ?_; intro a hE
    obtain ⟨r24,e25,hs14⟩:=bind_some hs14
    refine Zq hE rfl (cbm Tryz.func118) (KS _ x22 r24 e25) ?_
    rintro v w a ⟨rfl,hK⟩ hE
    have hM:=hM.keep hK
    refine Zd hE rfl fun a hE=>Zt hE Za ld rfl rfl fun a hE=>Zt hE Za ld rfl rfl fun a hE=>Zb hE rfl fun a hE=>Zb hE rfl fun a hE=>Ze (wp_seq ?_)
    obtain ⟨j26,hl27,hF28⟩:=bind_some hs14
    refine Zx (fun a w=>Env 50 a [(0,(vS p0)),(4,u12),(5,vI s11.2),(6,vB r20.1),(8,vB r24.1),(41,vT j26)] ∧ M (Old w0) w0 w [osl NoB (s11.1 : List UInt8) u12]) ?_ ?_
    ·skip
     refine wp_region_lit (Zd hE rfl fun a hE=>Ve hE rfl fun a hE=>Zd hE rfl ?_); intro a hE
     refine ZO (!r20.2) (fun hb29=>?_) (fun hb29=>?_)
     ·have hl27:=Zn hl27 hb29
      refine Zg hE rfl (lkb rfl hb29) rfl (by decide) fun a hE=>Zg hE rfl (lkb rfl hb29) rfl (by decide) fun a hE=>ZB hE (lkb rfl hb29) rfl fun a hE=>Zj ?_
      obtain rfl:=Option.some.inj hl27
      refine Zi ?_
      exact ⟨hE.sub ⟨rfl,rfl,rfl,rfl,rfl,rfl,trivial⟩,hM⟩
     ·have hl27:=Zo hl27 hb29
      refine Zh hE (Zf hE rfl (lkb rfl hb29)) (by decide) rfl fun a hE=>U5 hE (Zf hE rfl (lkb rfl hb29)) (by decide) rfl fun a hE=>Zy hE (lkb rfl hb29) rfl fun a hE=>Zj ?_
      obtain rfl:=Option.some.inj hl27
      refine Zi ?_
      exact ⟨hE.sub ⟨rfl,rfl,rfl,rfl,rfl,rfl,trivial⟩,hM⟩
    ·skip
     rintro a w ⟨hE,hM⟩
     refine Zm hE rfl ?_ ?_
     ·intro hb32
      have hF28:=Zn hF28 hb32
      refine Zc (Zb hE rfl fun a hE=>Zb hE rfl fun a hE=>Ze ?_)
      have hM:=M.nilS (α:=UInt8) NoB noB hM
      obtain rfl:=hx15 _ (ois hF28)
      obtain rfl:=Option.some.inj hF7
      have hM:=M.fst (l:=[_]) hM
      exact wp_ret (Zr (Z4 (Zr (Zr (Z4 (Zr (Zr (Z0 hE rfl (Zl hE rfl) (Zl hE rfl) ⟨_,rfl,(Value.slice none 0 0),rfl,hM.outF (Z8 Yd),hM.kept⟩))))))))
     ·intro hb32
      have hF28:=Zo hF28 hb32
      refine wp_skip (Zu (wp_region_lit (Zd hE rfl fun a hE=>Zd hE rfl fun a hE=>Ke hE Za ld rfl rfl (bB_shl _ _ (by decide)) fun a hE=>Zd hE rfl fun a hE=>Zk hE rfl rfl (bB_or (BI r20.1 4) r24.1) fun a hE=>ZD (xs:=[.tmp 46]) (l:=([(BI r20.1 4) ||| r24.1] : List UInt8)) (vs:=[(vB ((BI r20.1 4) ||| r24.1))]) hE hM Za ld rfl rfl Tryz.underlying22 ty5 rfl (by decide) rfl ?_))); intro u35 w a hM hE
      obtain ⟨l37,e38,hF28⟩:=bind_some hF28
      obtain ⟨e41,rfl⟩:=ZY e38
      have hM:=hM.pull1
      refine Z9 hE hM Za ld rfl rfl (hM.sl (pre:=[_]) noB) Tryz.underlying22 ty5 rfl (by decide) e41 fun u39 w a hM hE=>Zb hE rfl fun a hE=>Zj (Yg (Zu (wp_region_lit (Zd hE rfl fun a hE=>Zk hE rfl rfl rfl fun a hE=>Zb hE rfl fun a hE=>Zj (Zi ?_)))))
      have hM:=M.fst (l:=[_]) hM
      exact ⟨_,(ois hF28),u39,hE.sub ⟨rfl,rfl,rfl,trivial⟩,hM⟩
   ·intro hb17
    have hs14:=Zo hs14 hb17
    refine wp_exit (Zs (Zs (Ys ?_)))
    obtain rfl:=hx15 _ (ois hs14)
    refine Zi ?_
    exact ⟨s11.1,rfl,u12,hE.sub ⟨rfl,trivial⟩,hM⟩
  ·skip
   rintro a w ⟨s8,ht,u9,hE,hM⟩
   subst ht
   have hF7:=VQ hF7
   refine Zu (Zc (Zd hE rfl fun a hE=>Zb hE rfl fun a hE=>Zb hE rfl fun a hE=>Ze ?_))
   obtain rfl:=Option.some.inj hF7
   exact wp_ret (Z0 hE rfl (Zl hE rfl) (Zl hE rfl) ⟨_,rfl,u9,rfl,hM.outF (Z8 Yd),hM.kept⟩)
def WE (p0 : Str) : Option (GShare × Int) :=
 (To p0 (⟨[58]⟩ : Str)).bind fun r3=>(Y0 r3.1).bind fun r5=>(UW r3.2.1).bind fun r7=>(if (!r3.2.2) = true then (some true) else (if (!r5.2) = true then (some true) else (if (!r7.2) = true then (some true) else ((YQ r5.1 1 255).bind fun r19=>if (!r19) = true then (some true) else (some (decide ((r7.1.length : Int) > 100)))))) : Option (Bool)).bind fun j10=>if j10 = true then (some ((⟨0,[]⟩ : GShare),6)) else (some ((⟨Yp r5.1,r7.1⟩ : GShare),0))
theorem Q1 (w0 : World) (p0 : Str) (hT : TabT w0) (r : GShare × Int) (hF : WE p0 = some r) :
  Calls Tryz.prog 25 [(vS p0)].toArray w0 (fun en w'=>∃ v,en = .returned v ∧ (∃ (y1 : Value),v = (Value.tuple [(Value.agg (cat [[vB r.1.Place],[y1]]).toArray),vI r.2].toArray) ∧ Fr w0 w' [osl NoB (r.1.Data : List UInt8) y1] ∧ Kept (Old w0) w0 w')):=by
 refine ce Tryz.func25 ?_
 intro a hE
 have hM:=M.start w0
 unfold WE at hF
 refine Zc (UP hE hM ZN fun b1 w a hM hE=>Zb hE rfl fun a hE=>Ze (Zc (Zd hE rfl ?_))); intro a hE
 obtain ⟨r3,e4,hF⟩:=bind_some hF
 refine Zq hE rfl (cbm Tryz.func71) (zM _ p0 (⟨[58]⟩ : Str) r3 e4) ?_
 rintro v w a ⟨rfl,hK⟩ hE
 have hM:=hM.keep hK
 refine Zd hE rfl fun a hE=>Zt hE Za ld rfl rfl fun a hE=>Zt hE Za ld rfl rfl fun a hE=>Zt hE Za ld rfl rfl fun a hE=>Zb hE rfl fun a hE=>Zb hE rfl fun a hE=>Zb hE rfl fun a hE=>Ze (Zc (Zd hE rfl ?_)); intro a hE
 obtain ⟨r5,e6,hF⟩:=bind_some hF
 refine Zq hE rfl (cbm Tryz.func72) (Hv _ r3.1 (hT.kept hM.kept) r5 e6) ?_
 rintro v w a ⟨rfl,hK⟩ hE
 have hM:=hM.keep hK
 refine Zd hE rfl fun a hE=>Zt hE Za ld rfl rfl fun a hE=>Zt hE Za ld rfl rfl fun a hE=>Zb hE rfl fun a hE=>Zb hE rfl fun a hE=>Ze (Zc (Zd hE rfl ?_)); intro a hE
 obtain ⟨r7,e8,hF⟩:=bind_some hF
 refine Zq hE rfl (cbm Tryz.func73) (AT _ r3.2.1 r7 e8) ?_
 rintro v w a ⟨u9,rfl,hFr,hK⟩ hE
 have hM:=hM.add hK hFr
 refine Zd hE rfl fun a hE=>Zt hE Za ld rfl rfl fun a hE=>Zt hE Za ld rfl rfl fun a hE=>Zb hE rfl fun a hE=>Zb hE rfl fun a hE=>Ze (wp_seq ?_)
 obtain ⟨j10,hl11,hF12⟩:=bind_some hF
 refine Zx (fun a w=>Env 52 a [(2,(ptr b1 0)),(7,vI r5.1),(9,u9),(46,vT j10)] ∧ M (Old w0) w0 w [osl NoB (r7.1 : List UInt8) u9,raw b1 (cat [[vB 0],[(Value.slice none 0 0)]])]) ?_ ?_
 ·skip
  refine wp_region_lit (Zd hE rfl fun a hE=>Ve hE rfl fun a hE=>Zd hE rfl ?_); intro a hE
  refine ZO (!r3.2.2) (fun hb13=>?_) (fun hb13=>?_)
  ·have hl11:=Zn hl11 hb13
   refine Zg hE rfl (lkb rfl hb13) rfl (by decide) fun a hE=>Zg hE rfl (lkb rfl hb13) rfl (by decide) fun a hE=>ZB hE (lkb rfl hb13) rfl fun a hE=>Zd hE rfl fun a hE=>Zg hE rfl rfl rfl (by decide) fun a hE=>Zg hE rfl rfl rfl (by decide) fun a hE=>ZB hE rfl rfl fun a hE=>Zd hE rfl fun a hE=>Zg hE rfl rfl rfl (by decide) fun a hE=>Zg hE rfl rfl rfl (by decide) fun a hE=>Zg hE rfl rfl rfl (by decide) fun a hE=>ZB hE rfl rfl ?_; intro a hE
   refine Zd hE rfl fun a hE=>Zg hE rfl rfl rfl (by decide) fun a hE=>Zg hE rfl rfl rfl (by decide) fun a hE=>Zg hE rfl rfl rfl (by decide) fun a hE=>ZB hE rfl rfl fun a hE=>Zj ?_
   obtain rfl:=Option.some.inj hl11
   refine Zi ?_
   exact ⟨hE.sub ⟨rfl,rfl,rfl,rfl,trivial⟩,hM⟩
  ·have hl11:=Zo hl11 hb13
   refine Zh hE (Zf hE rfl (lkb rfl hb13)) (by decide) rfl fun a hE=>U5 hE (Zf hE rfl (lkb rfl hb13)) (by decide) rfl fun a hE=>Zy hE (lkb rfl hb13) rfl fun a hE=>Zd hE rfl ?_; intro a hE
   refine ZO (!r5.2) (fun hb15=>?_) (fun hb15=>?_)
   ·have hl11:=Zn hl11 hb15
    refine Zg hE rfl (lkb rfl hb15) rfl (by decide) fun a hE=>Zg hE rfl (lkb rfl hb15) rfl (by decide) fun a hE=>ZB hE (lkb rfl hb15) rfl fun a hE=>Zd hE rfl fun a hE=>Zg hE rfl rfl rfl (by decide) fun a hE=>Zg hE rfl rfl rfl (by decide) fun a hE=>Zg hE rfl rfl rfl (by decide) fun a hE=>ZB hE rfl rfl fun a hE=>Zd hE rfl fun a hE=>Zg hE rfl rfl rfl (by decide) fun a hE=>Zg hE rfl rfl rfl (by decide) fun a hE=>Zg hE rfl rfl rfl (by decide) ?_; intro a hE
    refine ZB hE rfl rfl fun a hE=>Zj ?_
    obtain rfl:=Option.some.inj hl11
    refine Zi ?_
    exact ⟨hE.sub ⟨rfl,rfl,rfl,rfl,trivial⟩,hM⟩
   ·have hl11:=Zo hl11 hb15
    refine Zh hE (Zf hE rfl (lkb rfl hb15)) (by decide) rfl fun a hE=>U5 hE (Zf hE rfl (lkb rfl hb15)) (by decide) rfl fun a hE=>Zy hE (lkb rfl hb15) rfl fun a hE=>Zd hE rfl ?_; intro a hE
    refine ZO (!r7.2) (fun hb17=>?_) (fun hb17=>?_)
    ·have hl11:=Zn hl11 hb17
     refine Zg hE rfl (lkb rfl hb17) rfl (by decide) fun a hE=>Zg hE rfl (lkb rfl hb17) rfl (by decide) fun a hE=>Zg hE rfl (lkb rfl hb17) rfl (by decide) fun a hE=>ZB hE (lkb rfl hb17) rfl fun a hE=>Zd hE rfl fun a hE=>Zg hE rfl rfl rfl (by decide) fun a hE=>Zg hE rfl rfl rfl (by decide) fun a hE=>Zg hE rfl rfl rfl (by decide) fun a hE=>ZB hE rfl rfl fun a hE=>Zj ?_
     obtain rfl:=Option.some.inj hl11
     refine Zi ?_
     exact ⟨hE.sub ⟨rfl,rfl,rfl,rfl,trivial⟩,hM⟩
    ·have hl11:=Zo hl11 hb17
     refine Zh hE (Zf hE rfl (lkb rfl hb17)) (by decide) rfl ?_; intro a hE
     obtain ⟨r19,e20,hl11⟩:=bind_some hl11
     refine ZW hE (Zf hE rfl (lkb rfl hb17)) (by decide) rfl cb52 (Un _ r5.1 1 255 r19 e20) ?_
     rintro v w a ⟨rfl,hK⟩ hE
     have hM:=hM.keep hK
     refine U5 hE (Zf hE rfl (lkb rfl hb17)) (by decide) rfl fun a hE=>Zy hE (lkb rfl hb17) rfl fun a hE=>Zd hE rfl ?_; intro a hE
     refine ZO (!r19) (fun hb21=>?_) (fun hb21=>?_)
     ·have hl11:=Zn hl11 hb21
      refine Zg hE rfl (lkb rfl hb21) rfl (by decide) fun a hE=>Zg hE rfl (lkb rfl hb21) rfl (by decide) fun a hE=>Zg hE rfl (lkb rfl hb21) rfl (by decide) fun a hE=>ZB hE (lkb rfl hb21) rfl fun a hE=>Zj ?_
      obtain rfl:=Option.some.inj hl11
      refine Zi ?_
      exact ⟨hE.sub ⟨rfl,rfl,rfl,rfl,trivial⟩,hM⟩
     ·have hl11:=Zo hl11 hb21
      refine Zh hE (Zf hE rfl (lkb rfl hb21)) (by decide) rfl fun a hE=>XN hE (Zf hE rfl (lkb rfl hb21)) (by decide) rfl Tryz.underlying22 (hM.sl (pre:=[]) noB) fun a hE=>ZJ hE (Zf hE rfl (lkb rfl hb21)) (by decide) rfl rfl rfl fun a hE=>Zy hE (lkb rfl hb21) rfl fun a hE=>Zj ?_
      obtain rfl:=Option.some.inj hl11
      refine Zi ?_
      exact ⟨hE.sub ⟨rfl,rfl,rfl,rfl,trivial⟩,hM⟩
 ·skip
  rintro a w ⟨hE,hM⟩
  refine Zm hE rfl ?_ ?_
  ·intro hb24
   have hF12:=Zn hF12 hb24
   refine Zc (YY (parts:=[]) (vs:=[]) (cs:=cat [[vB 0],[(Value.slice none 0 0)]]) hE Za ld rfl rfl ZN Hu Wy ?_); intro a hE
   have hM:=hM.pull1
   refine Xs (seg:=cat [[vB 0],[(Value.slice none 0 0)]]) (cs':=cat [[vB 0],[(Value.slice none 0 0)]]) hE hM Za rfl rfl rfl ZN cq (Nat.le_of_eq ((Nat.zero_add _).trans (Eq.trans cq (Eq.symm cq)))) (Wu (cc1 (Flat.cell (0 : UInt8)) (cc1 JH cc0))) (ZZ (Eq.trans cq (Eq.symm cq))) fun w a hM hE=>Zb hE rfl fun a hE=>Ze ?_
   have hM:=M.nilS (α:=UInt8) NoB noB hM
   obtain rfl:=Option.some.inj hF12
   have hq26 : Tr Tryz.prog _ _ (.cell 2 33) _:=Ko hE rfl ZN rfl hM.rawAt1 cq rfl
   have hM:=M.fst (l:=[_]) hM
   exact wp_ret (Zr (Z0 hE rfl hq26 (Zl hE rfl) ⟨_,rfl,(Value.slice none 0 0),rfl,hM.outF (Z8 Yd),hM.kept⟩))
  ·intro hb24
   have hF12:=Zo hF12 hb24
   refine wp_skip (Zu (Zc (Zd hE rfl fun a hE=>TH hE Za ld rfl Tryz.underlying2 Tryz.underlying5 fun a hE=>Zd hE rfl fun a hE=>YY (parts:=[(0,.tmp 49),(1,.tmp 50)]) (vs:=[(0,(vB (Yp r5.1))),(1,u9)]) (cs:=cat [[(vB (Yp r5.1))],[u9]]) hE Za ld rfl rfl ZN Hu (YK (pre:=[]) (seg:=[vB 0]) (seg':=[(vB (Yp r5.1))]) (post:=[[(Value.slice none 0 0)]]) rfl cl0 rfl rfl rfl (YK (pre:=[[(vB (Yp r5.1))]]) (seg:=[(Value.slice none 0 0)]) (seg':=[u9]) (post:=[]) rfl ck rfl rfl (Y2 (hM.sl (pre:=[]) noB)) Wy)) ?_))); intro a hE
   have hM:=hM.pull1
   refine Xs (seg:=cat [[(vB (Yp r5.1))],[u9]]) (cs':=cat [[(vB (Yp r5.1))],[u9]]) hE hM Za rfl rfl rfl ZN cq (Nat.le_of_eq ((Nat.zero_add _).trans (Eq.trans cq (Eq.symm cq)))) (Wu (cc1 (Flat.cell (Yp r5.1 : UInt8)) (cc1 (Rep.cell (hM.sl (pre:=[_]) noB)) cc0))) (ZZ (Eq.trans cq (Eq.symm cq))) fun w a hM hE=>Zb hE rfl fun a hE=>Ze ?_
   obtain rfl:=Option.some.inj hF12
   have hq27 : Tr Tryz.prog _ _ (.cell 2 33) _:=Ko hE rfl ZN rfl hM.rawAt0 cq rfl
   have hM:=M.fst (l:=[_]) hM.pull1
   exact wp_ret (Z0 hE rfl hq27 (Zl hE rfl) ⟨_,rfl,u9,rfl,hM.outF (Z8 Yd),hM.kept⟩)
def Wf (p0_0 : (List UInt8)) (p0 : (Int × Int)) (p1 : Str) : Option ((Int × Int) × Str) :=
 (Zw p0_0 (p0.1,p0.2) (([(⟨[48]⟩ : Str),(⟨[49]⟩ : Str),(⟨[55]⟩ : Str),(⟨[57]⟩ : Str),(⟨[97]⟩ : Str),(⟨[102]⟩ : Str),(⟨[103]⟩ : Str),(⟨[65]⟩ : Str),(⟨[45]⟩ : Str),(⟨[47]⟩ : Str),(⟨[59]⟩ : Str),(⟨[58]⟩ : Str),(⟨[44]⟩ : Str),(⟨[32]⟩ : Str),(⟨[124]⟩ : Str),(⟨[10]⟩ : Str)] : List Str).length : Int)).bind fun r3=>(idx ([(⟨[48]⟩ : Str),(⟨[49]⟩ : Str),(⟨[55]⟩ : Str),(⟨[57]⟩ : Str),(⟨[97]⟩ : Str),(⟨[102]⟩ : Str),(⟨[103]⟩ : Str),(⟨[65]⟩ : Str),(⟨[45]⟩ : Str),(⟨[47]⟩ : Str),(⟨[59]⟩ : Str),(⟨[58]⟩ : Str),(⟨[44]⟩ : Str),(⟨[32]⟩ : Str),(⟨[124]⟩ : Str),(⟨[10]⟩ : Str)] : List Str) r3.2).bind fun x5=>if ((p1.l.length : Int) == 0) = true then (some ((r3.1.1,r3.1.2),x5)) else ((Zw p0_0 (r3.1.1,r3.1.2) (p1.l.length : Int)).bind fun r9=>(Zw p0_0 (r9.1.1,r9.1.2) 3).bind fun r11=>if (r11.2 == 0) = true then (((Kb p1 (0 : Int) r9.2).bind fun x18=>(KP x18 x5).bind fun x20=>(Kb p1 (wr (r9.2 + 1)) (p1.l.length : Int)).bind fun x22=>(KP x20 x22).bind fun x24=>some x24 : Option (Str)).bind fun j14=>some ((r11.1.1,r11.1.2),j14)) else (if (r11.2 == 1) = true then (((Kb p1 (0 : Int) r9.2).bind fun x32=>(Kb p1 (wr (r9.2 + 1)) (p1.l.length : Int)).bind fun x34=>(KP x32 x34).bind fun x36=>some x36 : Option (Str)).bind fun j28=>some ((r11.1.1,r11.1.2),j28)) else (((Kb p1 (0 : Int) r9.2).bind fun x43=>(KP x43 x5).bind fun x45=>(Kb p1 r9.2 (p1.l.length : Int)).bind fun x47=>(KP x45 x47).bind fun x49=>some x49 : Option (Str)).bind fun j39=>some ((r11.1.1,r11.1.2),j39))))
theorem BJ (St : Nat → Prop) (W w0 : World) (r0 : Item) (pb0 : Nat) (p0_0 : (List UInt8)) (v0_0 : Value) (hv0_0 : Rep.sat St W p0_0 [v0_0] []) (p0 : (Int × Int)) (p1 : Str) (hM : M St W w0 [raw pb0 (cat [[v0_0],[vI p0.1],[(Value.int .u64 p0.2)]]),r0]) (r : (Int × Int) × Str) (hF : Wf p0_0 p0 p1 = some r) :
  Calls Tryz.prog 74 [(ptr pb0 0),(vS p1)].toArray w0 (fun en w'=>∃ v,en = .returned v ∧ (v = (vS r.2) ∧ M St W w' [raw pb0 (cat [[v0_0],[vI r.1.1],[(Value.int .u64 r.1.2)]]),r0])):=by
 refine ce Tryz.func74 ?_
 intro a hE
 unfold Wf at hF
 refine Zc (Zb hE rfl fun a hE=>Ze (Zc (ZD (xs:=[.const (vS (⟨[48]⟩ : Str)),.const (vS (⟨[49]⟩ : Str)),.const (vS (⟨[55]⟩ : Str)),.const (vS (⟨[57]⟩ : Str)),.const (vS (⟨[97]⟩ : Str)),.const (vS (⟨[102]⟩ : Str)),.const (vS (⟨[103]⟩ : Str)),.const (vS (⟨[65]⟩ : Str)),.const (vS (⟨[45]⟩ : Str)),.const (vS (⟨[47]⟩ : Str)),.const (vS (⟨[59]⟩ : Str)),.const (vS (⟨[58]⟩ : Str)),.const (vS (⟨[44]⟩ : Str)),.const (vS (⟨[32]⟩ : Str)),.const (vS (⟨[124]⟩ : Str)),.const (vS (⟨[10]⟩ : Str))]) (l:=([(⟨[48]⟩ : Str),(⟨[49]⟩ : Str),(⟨[55]⟩ : Str),(⟨[57]⟩ : Str),(⟨[97]⟩ : Str),(⟨[102]⟩ : Str),(⟨[103]⟩ : Str),(⟨[65]⟩ : Str),(⟨[45]⟩ : Str),(⟨[47]⟩ : Str),(⟨[59]⟩ : Str),(⟨[58]⟩ : Str),(⟨[44]⟩ : Str),(⟨[32]⟩ : Str),(⟨[124]⟩ : Str),(⟨[10]⟩ : Str)] : List Str)) (vs:=[(vS (⟨[48]⟩ : Str)),(vS (⟨[49]⟩ : Str)),(vS (⟨[55]⟩ : Str)),(vS (⟨[57]⟩ : Str)),(vS (⟨[97]⟩ : Str)),(vS (⟨[102]⟩ : Str)),(vS (⟨[103]⟩ : Str)),(vS (⟨[65]⟩ : Str)),(vS (⟨[45]⟩ : Str)),(vS (⟨[47]⟩ : Str)),(vS (⟨[59]⟩ : Str)),(vS (⟨[58]⟩ : Str)),(vS (⟨[44]⟩ : Str)),(vS (⟨[32]⟩ : Str)),(vS (⟨[124]⟩ : Str)),(vS (⟨[10]⟩ : Str))]) hE hM Za ld rfl rfl Tryz.underlying109 ty9 rfl (by decide) rfl fun u1 w a hM hE=>Zb hE rfl fun a hE=>Ze (Zc (Zd hE rfl fun a hE=>Zd hE rfl fun a hE=>Zd hE rfl fun a hE=>ZL hE rfl Tryz.underlying109 (hM.sl (pre:=[]) noB) ?_))))); intro a hE
 have hM:=M.tailP (m:=[_]) hM.pull1
 obtain ⟨r3,e4,hF⟩:=bind_some hF
 refine Zq hE rfl Tn (ZF _ _ _ _ pb0 p0_0 v0_0 hv0_0 (p0.1,p0.2) (([(⟨[48]⟩ : Str),(⟨[49]⟩ : Str),(⟨[55]⟩ : Str),(⟨[57]⟩ : Str),(⟨[97]⟩ : Str),(⟨[102]⟩ : Str),(⟨[103]⟩ : Str),(⟨[65]⟩ : Str),(⟨[45]⟩ : Str),(⟨[47]⟩ : Str),(⟨[59]⟩ : Str),(⟨[58]⟩ : Str),(⟨[44]⟩ : Str),(⟨[32]⟩ : Str),(⟨[124]⟩ : Str),(⟨[10]⟩ : Str)] : List Str).length : Int) hM r3 e4) ?_
 rintro v w a ⟨rfl,hM⟩ hE
 have hM:=M.tailU (m:=[_]) hM
 simp only [List.cons_append,List.nil_append] at hM
 obtain ⟨x5,hi7,hF⟩:=bix hF
 refine ZG hE rfl rfl Tryz.underlying109 ty9 (hM.sl (pre:=[_]) noB) hi7.1 fun a hE=>ZX (v:=(vS x5)) hE rfl ty9 rfl (ZS (hM.sl (pre:=[_]) noB) hi7.2) fun a hE=>Zb hE rfl fun a hE=>Ze (wp_seq (Zc (Zd hE rfl fun a hE=>V1 hE Za ld rfl Tryz.underlying9 fun a hE=>Zk hE rfl rfl rfl fun a hE=>Ze ?_)))
 refine Zm hE rfl ?_ ?_
 ·intro hb8
  have hF:=Zn hF hb8
  refine Zc (Zd hE rfl fun a hE=>Zb hE rfl fun a hE=>Ze ?_)
  obtain rfl:=Option.some.inj hF
  have hM:=(hM.pull2.pull1.pull2).drop
  exact wp_ret (Zr (Yb hE rfl (Zl hE rfl) ⟨_,rfl,rfl,hM⟩))
 ·intro hb8
  have hF:=Zo hF hb8
  refine wp_skip (Zu (Zc (Zd hE rfl fun a hE=>Zd hE rfl fun a hE=>V1 hE Za ld rfl Tryz.underlying9 ?_))); intro a hE
  have hM:=M.tailP (m:=[_]) hM
  obtain ⟨r9,e10,hF⟩:=bind_some hF
  refine Zq hE rfl Tn (ZF _ _ _ _ pb0 p0_0 v0_0 hv0_0 (r3.1.1,r3.1.2) (p1.l.length : Int) hM r9 e10) ?_
  rintro v w a ⟨rfl,hM⟩ hE
  have hM:=M.tailU (m:=[_]) hM
  simp only [List.cons_append,List.nil_append] at hM
  refine Zb hE rfl fun a hE=>Ze (wp_seq (Zc (Zd hE rfl ?_))); intro a hE
  have hM:=M.tailP (m:=[_]) hM
  obtain ⟨r11,e12,hF⟩:=bind_some hF
  refine Zq hE rfl Tn (ZF _ _ _ _ pb0 p0_0 v0_0 hv0_0 (r9.1.1,r9.1.2) 3 hM r11 e12) ?_
  rintro v w a ⟨rfl,hM⟩ hE
  have hM:=M.tailU (m:=[_]) hM
  simp only [List.cons_append,List.nil_append] at hM
  refine Ze (wp_block (Zc (Zk hE rfl rfl rfl fun a hE=>Zb hE rfl fun a hE=>Ze ?_)))
  refine Zm hE rfl ?_ ?_
  ·intro hb13
   have hF:=Zn hF hb13
   obtain ⟨j14,hl15,hF16⟩:=bind_some hF
   refine Zx (fun a w=>Env 57 a [(4,(vS j14))] ∧ M St W w [raw pb0 (cat [[v0_0],[vI r11.1.1],[(Value.int .u64 r11.1.2)]]),r0]) ?_ ?_
   ·skip
    obtain ⟨x18,e19,hl15⟩:=bind_some hl15
    obtain ⟨x20,e21,hl15⟩:=bind_some hl15
    obtain ⟨x22,e23,hl15⟩:=bind_some hl15
    obtain ⟨x24,e25,hl15⟩:=bind_some hl15
    refine YA [28,29,30,31,32,33,34,35,36,37,4] Wb rfl rfl (by decide) rfl hE hM (qsP (fun z=>Zh z.E Za ld rfl (kr0 rfl)) (qsP (fun z=>Zh z.E Za ld rfl (kr0 rfl)) (qsP (fun z=>VO z.E Za ld rfl rfl (VW rfl) rfl rfl Tryz.underlying9 e19 (kr0 rfl)) (qsP (fun z=>Zh z.E Za ld rfl (kr0 rfl)) (qsP (fun z=>Kk z.E Za ld rfl rfl e21 (kr0 rfl)) (qsP (fun z=>Zh z.E Za ld rfl (kr0 rfl)) (qsP (fun z=>Zh z.E Za ld rfl (kr0 rfl)) (qsP (v:=(vI (wr (r9.2 + 1)))) (fun z=>ZJ z.E Za ld rfl rfl rfl (kr0 rfl)) (qsP (fun z=>VO z.E Za ld rfl (VW rfl) rfl rfl rfl Tryz.underlying9 e23 (kr0 rfl)) (qsP (fun z=>Kk z.E Za ld rfl rfl e25 (kr0 rfl)) (qsP (fun z=>YO z.E Za ld rfl (kr0 rfl)) qs0))))))))))) ?_
    ·intro a w u hE hM
     refine Zj ?_
     obtain rfl:=Option.some.inj hl15
     refine Zi ?_
     have hM:=(hM.pull2.pull1.pull2).drop
     exact ⟨hE.sub ⟨rfl,trivial⟩,hM⟩
   ·skip
    rintro a w ⟨hE,hM⟩
    obtain rfl:=Option.some.inj hF16
    exact wp_ret (Z4 (Zr (Yb hE rfl (Zl hE rfl) ⟨_,rfl,rfl,hM⟩)))
  ·intro hb13
   have hF:=Zo hF hb13
   refine Zc (Zk hE rfl rfl rfl fun a hE=>Zb hE rfl fun a hE=>Ze ?_)
   refine Zm hE rfl ?_ ?_
   ·intro hb27
    have hF:=Zn hF hb27
    obtain ⟨j28,hl29,hF30⟩:=bind_some hF
    refine Zx (fun a w=>Env 57 a [(4,(vS j28))] ∧ M St W w [raw pb0 (cat [[v0_0],[vI r11.1.1],[(Value.int .u64 r11.1.2)]]),r0]) ?_ ?_
    ·skip
     obtain ⟨x32,e33,hl29⟩:=bind_some hl29
     obtain ⟨x34,e35,hl29⟩:=bind_some hl29
     obtain ⟨x36,e37,hl29⟩:=bind_some hl29
     refine YA [40,41,42,43,44,45,46,47,4] Wb rfl rfl (by decide) rfl hE hM (qsP (fun z=>Zh z.E Za ld rfl (kr0 rfl)) (qsP (fun z=>Zh z.E Za ld rfl (kr0 rfl)) (qsP (fun z=>VO z.E Za ld rfl rfl (VW rfl) rfl rfl Tryz.underlying9 e33 (kr0 rfl)) (qsP (fun z=>Zh z.E Za ld rfl (kr0 rfl)) (qsP (fun z=>Zh z.E Za ld rfl (kr0 rfl)) (qsP (v:=(vI (wr (r9.2 + 1)))) (fun z=>ZJ z.E Za ld rfl rfl rfl (kr0 rfl)) (qsP (fun z=>VO z.E Za ld rfl (VW rfl) rfl rfl rfl Tryz.underlying9 e35 (kr0 rfl)) (qsP (fun z=>Kk z.E Za ld rfl rfl e37 (kr0 rfl)) (qsP (fun z=>YO z.E Za ld rfl (kr0 rfl)) qs0))))))))) ?_
     ·intro a w u hE hM
      refine Zj ?_
      obtain rfl:=Option.some.inj hl29
      refine Zi ?_
      have hM:=(hM.pull2.pull1.pull2).drop
      exact ⟨hE.sub ⟨rfl,trivial⟩,hM⟩
    ·skip
     rintro a w ⟨hE,hM⟩
     obtain rfl:=Option.some.inj hF30
     exact wp_ret (Z4 (Zr (Yb hE rfl (Zl hE rfl) ⟨_,rfl,rfl,hM⟩)))
   ·intro hb27
    have hF:=Zo hF hb27
    refine wp_skip (Yg (Zu ?_))
    obtain ⟨j39,hl40,hF41⟩:=bind_some hF
    refine Zx (fun a w=>Env 57 a [(4,(vS j39))] ∧ M St W w [raw pb0 (cat [[v0_0],[vI r11.1.1],[(Value.int .u64 r11.1.2)]]),r0]) ?_ ?_
    ·skip
     obtain ⟨x43,e44,hl40⟩:=bind_some hl40
     obtain ⟨x45,e46,hl40⟩:=bind_some hl40
     obtain ⟨x47,e48,hl40⟩:=bind_some hl40
     obtain ⟨x49,e50,hl40⟩:=bind_some hl40
     refine YA [48,49,50,51,52,53,54,55,56,4] Wb rfl rfl (by decide) rfl hE hM (qsP (fun z=>Zh z.E Za ld rfl (kr0 rfl)) (qsP (fun z=>Zh z.E Za ld rfl (kr0 rfl)) (qsP (fun z=>VO z.E Za ld rfl rfl (VW rfl) rfl rfl Tryz.underlying9 e44 (kr0 rfl)) (qsP (fun z=>Zh z.E Za ld rfl (kr0 rfl)) (qsP (fun z=>Kk z.E Za ld rfl rfl e46 (kr0 rfl)) (qsP (fun z=>Zh z.E Za ld rfl (kr0 rfl)) (qsP (fun z=>Zh z.E Za ld rfl (kr0 rfl)) (qsP (fun z=>VO z.E Za ld rfl (VW rfl) rfl rfl rfl Tryz.underlying9 e48 (kr0 rfl)) (qsP (fun z=>Kk z.E Za ld rfl rfl e50 (kr0 rfl)) (qsP (fun z=>YO z.E Za ld rfl (kr0 rfl)) qs0)))))))))) ?_
     ·intro a w u hE hM
      refine Zj ?_
      obtain rfl:=Option.some.inj hl40
      refine Zi ?_
      have hM:=(hM.pull2.pull1.pull2).drop
      exact ⟨hE.sub ⟨rfl,trivial⟩,hM⟩
    ·skip
     rintro a w ⟨hE,hM⟩
     obtain rfl:=Option.some.inj hF41
     exact wp_ret (Yb hE rfl (Zl hE rfl) ⟨_,rfl,rfl,hM⟩)
def Z2 (p0 : (List UInt8)) (s15 : Int × Int × Str) : Option (Fl (Int × Int × Str) Str) :=
 (Zw p0 (s15.1,s15.2.1) 3).bind fun r19=>if (r19.2 == 0) = true then ((Wf p0 (r19.1.1,r19.1.2) s15.2.2).bind fun r22=>some (Fl.nx (r22.1.1,r22.1.2,r22.2))) else (some (Fl.ex s15.2.2))
def X3 (p0 : (List UInt8)) : Option (Str) :=
 (Y1 p0).bind fun r1=>(YB p0 (r1.1,r1.2)).bind fun r5=>(Xm p0 (r5.1.1,r5.1.2) 20).bind fun r7=>(V6 (⟨r5.2,r7.2⟩ : GShare)).bind fun r10=>(ZH (Z2 p0) (r7.1.1,r7.1.2,r10)).bind fun j12=>some j12
theorem K5 (w0 : World) (p0 : (List UInt8)) (v0_1 : Value) (hv0_1 : Ro w0 p0 [v0_1]) (r : Str) (hF : X3 p0 = some r) :
  Calls Tryz.prog 26 [v0_1].toArray w0 (Rt w0 (vS r)):=by
 refine ce Tryz.func26 ?_
 intro a hE
 have hM:=M.start w0
 unfold X3 at hF
 refine Zc (Zb hE rfl fun a hE=>Ze (Zc (Zd hE rfl ?_))); intro a hE
 have hM:=M.tailP (m:=[]) hM
 obtain ⟨r1,e2,hF⟩:=bind_some hF
 refine Zq hE rfl kl (Vj _ _ _ _ p0 v0_1 hv0_1 hM r1 e2) ?_
 rintro v w a ⟨b3,rfl,hM⟩ hE
 have hM:=M.tailU (m:=[_]) hM
 simp only [List.cons_append,List.nil_append] at hM
 refine Zb hE rfl fun a hE=>Ze (Zc (Zd hE rfl ?_)); intro a hE
 have hM:=M.tailP (m:=[_]) hM
 obtain ⟨r5,e6,hF⟩:=bind_some hF
 refine Zq hE rfl cb38 (X8 _ _ _ _ b3 p0 v0_1 hv0_1 (r1.1,r1.2) hM r5 e6) ?_
 rintro v w a ⟨rfl,hM⟩ hE
 have hM:=M.tailU (m:=[_]) hM
 simp only [List.cons_append,List.nil_append] at hM
 refine Zd hE rfl ?_; intro a hE
 have hM:=M.tailP (m:=[_]) hM
 obtain ⟨r7,e8,hF⟩:=bind_some hF
 refine Zq hE rfl cb66 (Tm _ _ _ _ b3 p0 v0_1 hv0_1 (r5.1.1,r5.1.2) 20 hM r7 e8) ?_
 rintro u9 w a ⟨_,rfl,hM⟩ hE
 have hM:=M.tailU (m:=[_,_]) hM
 simp only [List.cons_append,List.nil_append] at hM
 refine YY (parts:=[(0,.tmp 8),(1,.tmp 10)]) (vs:=[(0,vB r5.2),(1,u9)]) (cs:=cat [[vB r5.2],[u9]]) hE Za ld rfl rfl ZN Hu (YK (pre:=[]) (seg:=[vB 0]) (seg':=[vB r5.2]) (post:=[[(Value.slice none 0 0)]]) rfl cl0 rfl rfl rfl (YK (pre:=[[vB r5.2]]) (seg:=[(Value.slice none 0 0)]) (seg':=[u9]) (post:=[]) rfl ck rfl rfl (Y2 (hM.sl (pre:=[_]) noB)) Wy)) ?_; intro a hE
 obtain ⟨r10,e11,hF⟩:=bind_some hF
 refine Zq hE rfl (cbm Tryz.func70) (Jf _ (⟨r5.2,r7.2⟩ : GShare) u9 (hM.sl (pre:=[_]) noB) r10 e11) ?_
 rintro v w a ⟨rfl,hK⟩ hE
 have hM:=hM.keep hK
 refine Zb hE rfl fun a hE=>Ze ?_
 obtain ⟨j12,hl13,hF14⟩:=bind_some hF
 refine Zx (fun a w=>Env 20 a [(4,(vS j12))] ∧ M (Old w0) w0 w []) ?_ ?_
 ·skip
  refine wp_block ?_
  have hM:=M.fst (l:=[_]) hM
  refine ZK (fun (s15 : Int × Int × Str) a w=>Env 20 a [(3,(ptr b3 0)),(4,(vS s15.2.2))] ∧ M (Old w0) w0 w [raw b3 (cat [[v0_1],[vI s15.1],[(Value.int .u64 s15.2.1)]])]) hl13 ⟨hE.sub ⟨rfl,rfl,trivial⟩,hM⟩ ?_
  rintro s15 a w ⟨hE,hM⟩ o18 hs16 hx17
  unfold Z2 at hs16
  refine wp_seq (Zc (Zd hE rfl ?_)); intro a hE
  have hM:=M.tailP (m:=[_]) hM
  obtain ⟨r19,e20,hs16⟩:=bind_some hs16
  refine Zq hE rfl Tn (ZF _ _ _ _ b3 p0 v0_1 hv0_1 (s15.1,s15.2.1) 3 hM r19 e20) ?_
  rintro v w a ⟨rfl,hM⟩ hE
  have hM:=M.tailU (m:=[_]) hM
  simp only [List.cons_append,List.nil_append] at hM
  refine Zk hE rfl rfl rfl fun a hE=>Ze ?_
  refine Zm hE rfl ?_ ?_
  ·intro hb21
   have hs16:=Zn hs16 hb21
   refine wp_skip (Zu (wp_block (wp_region_lit (Zd hE rfl fun a hE=>Zd hE rfl ?_)))); intro a hE
   have hM:=M.tailP (m:=[_]) hM
   obtain ⟨r22,e23,hs16⟩:=bind_some hs16
   refine Zq hE rfl (cbm Tryz.func74) (BJ _ _ _ _ b3 p0 v0_1 hv0_1 (r19.1.1,r19.1.2) s15.2.2 hM r22 e23) ?_
   rintro v w a ⟨rfl,hM⟩ hE
   have hM:=M.tailU (m:=[_]) hM
   simp only [List.cons_append,List.nil_append] at hM
   refine Zb hE rfl fun a hE=>Zj (Yg (Zi ?_))
   exact ⟨_,(ois hs16),hE.sub ⟨rfl,rfl,trivial⟩,hM⟩
  ·intro hb21
   have hs16:=Zo hs16 hb21
   refine wp_exit (Zs (Zs (Ys ?_)))
   obtain rfl:=hx17 _ (ois hs16)
   refine Zi ?_
   have hM:=M.fst (l:=[]) hM
   exact ⟨hE.sub ⟨rfl,trivial⟩,hM⟩
 ·skip
  rintro a w ⟨hE,hM⟩
  refine Zc (Zd hE rfl fun a hE=>Zb hE rfl fun a hE=>Ze ?_)
  obtain rfl:=Option.some.inj hF14
  exact wp_ret (kr1 hE rfl rfl hM.kept)
def Yk (p0 : Str) (p1 : UInt8) (s8 : (List Str) × Int × Int) : Option (Fl ((List Str) × Int × Int) ((List Str) × Int)) :=
 if (decide (s8.2.2 < (p0.l.length : Int))) = true then (((idx p0.l s8.2.2).bind fun x20=>(if (x20 == p1) = true then ((Kb p0 s8.2.1 s8.2.2).bind fun x28=>(app 16 s8.1 ([x28] : List Str)).bind fun l32=>some ((s8.1 ++ ([x28] : List Str)),wr (s8.2.2 + 1))) else (some (s8.1,s8.2.1)) : Option ((List Str) × Int)).bind fun j22=>some (j22.1,j22.2) : Option ((List Str) × Int)).bind fun j15=>some (Fl.nx (j15.1,j15.2,wr (s8.2.2 + 1)))) else (some (Fl.ex (s8.1,s8.2.1)))
def UA (p0 : Str) (p1 : UInt8) : Option ((List Str)) :=
 (ZH (Yk p0 p1) (([] : List Str),0,0)).bind fun j3=>(Kb p0 j3.2 (p0.l.length : Int)).bind fun x41=>(app 16 j3.1 ([x41] : List Str)).bind fun l45=>some (j3.1 ++ ([x41] : List Str))
theorem Ai (w0 : World) (p0 : Str) (p1 : UInt8) (r : (List Str)) (hF : UA p0 p1 = some r) :
  Calls Tryz.prog 75 [(vS p0),vB p1].toArray w0 (fun en w'=>∃ v,en = .returned v ∧ (∃ (y1 : Value),v = y1 ∧ Fr w0 w' [osl NoB (r : List Str) y1] ∧ Kept (Old w0) w0 w')):=by
 refine ce Tryz.func75 ?_
 intro a hE
 have hM:=M.start w0
 unfold UA at hF
 refine Zc (Zb hE rfl fun a hE=>Ze (Zc (ZD (xs:=[]) (l:=([] : List Str)) (vs:=[]) hE hM Za ld rfl rfl Tryz.underlying109 ty9 rfl (by decide) rfl fun u1 w a hM hE=>Zb hE rfl fun a hE=>Ze (Zc (Zb hE rfl fun a hE=>Ze (wp_seq (Zc (Zb hE rfl fun a hE=>Ze ?_))))))))
 obtain ⟨j3,hl4,hF5⟩:=bind_some hF
 refine ZP (fun a w=>∃ (u6 : Value),Env 35 a [(0,(vS p0)),(5,u6),(6,vI j3.2)] ∧ M (Old w0) w0 w [osl NoB (j3.1 : List Str) u6]) ?_ ?_
 ·skip
  refine wp_block ?_
  refine ZK (fun (s8 : (List Str) × Int × Int) a w=>∃ (u9 : Value),Env 35 a [(0,(vS p0)),(1,vB p1),(5,u9),(6,vI s8.2.1),(7,vI s8.2.2)] ∧ M (Old w0) w0 w [osl NoB (s8.1 : List Str) u9]) hl4 ⟨u1,hE.sub ⟨rfl,rfl,rfl,rfl,rfl,trivial⟩,hM⟩ ?_
  rintro s8 a w ⟨u9,hE,hM⟩ o13 hs11 hx12
  unfold Yk at hs11
  refine wp_seq (Zc (Zd hE rfl fun a hE=>Zd hE rfl fun a hE=>V1 hE Za ld rfl Tryz.underlying9 fun a hE=>Zk hE rfl rfl rfl fun a hE=>Ze ?_))
  refine Zm hE rfl ?_ ?_
  ·intro hb14
   have hs11:=Zn hs11 hb14
   refine wp_skip (Zu ?_)
   obtain ⟨j15,hl16,hF17⟩:=bind_some hs11
   refine Zx (fun a w=>∃ (u18 : Value),Env 35 a [(0,(vS p0)),(1,vB p1),(5,u18),(6,vI j15.2),(7,vI s8.2.2)] ∧ M (Old w0) w0 w [osl NoB (j15.1 : List Str) u18]) ?_ ?_
   ·skip
    refine wp_block (Zc (Zd hE rfl fun a hE=>Zd hE rfl ?_)); intro a hE
    obtain ⟨x20,e21,hl16⟩:=bind_some hl16
    refine Wi hE Za ld rfl rfl Tryz.underlying9 e21 fun a hE=>Zd hE rfl fun a hE=>Zk hE rfl rfl (AE x20 p1) fun a hE=>Ze ?_
    obtain ⟨j22,hl23,hF24⟩:=bind_some hl16
    refine ZP (fun a w=>∃ (u25 : Value),Env 35 a [(0,(vS p0)),(1,vB p1),(5,u25),(6,vI j22.2),(7,vI s8.2.2)] ∧ M (Old w0) w0 w [osl NoB (j22.1 : List Str) u25]) ?_ ?_
    ·skip
     refine Zm hE rfl ?_ ?_
     ·intro hb27
      have hl23:=Zn hl23 hb27
      refine Zc (Zd hE rfl fun a hE=>Zd hE rfl fun a hE=>Zd hE rfl fun a hE=>Zd hE rfl ?_); intro a hE
      obtain ⟨x28,e29,hl23⟩:=bind_some hl23
      refine VO hE Za ld rfl rfl rfl rfl rfl Tryz.underlying9 e29 fun a hE=>ZD (xs:=[.tmp 24]) (l:=([x28] : List Str)) (vs:=[(vS x28)]) hE hM Za ld rfl rfl Tryz.underlying109 ty9 rfl (by decide) rfl ?_; intro u30 w a hM hE
      obtain ⟨l32,e33,hl23⟩:=bind_some hl23
      obtain ⟨e36,rfl⟩:=ZY e33
      have hM:=hM.pull1
      refine Z9 hE hM Za ld rfl rfl (hM.sl (pre:=[_]) noB) Tryz.underlying109 ty9 rfl (by decide) e36 fun u34 w a hM hE=>Zb hE rfl fun a hE=>Ze (wp_region_lit (Zd hE rfl fun a hE=>Zk hE rfl rfl rfl fun a hE=>Zb hE rfl fun a hE=>Zj ?_))
      obtain rfl:=Option.some.inj hl23
      refine Zi ?_
      have hM:=M.fst (l:=[_]) hM
      exact ⟨u34,hE.sub ⟨rfl,rfl,rfl,rfl,rfl,trivial⟩,hM⟩
     ·intro hb27
      have hl23:=Zo hl23 hb27
      refine wp_skip ?_
      obtain rfl:=Option.some.inj hl23
      refine Zi ?_
      exact ⟨u9,hE.sub ⟨rfl,rfl,rfl,rfl,rfl,trivial⟩,hM⟩
    ·skip
     rintro a w ⟨u25,hE,hM⟩
     refine Yg ?_
     obtain rfl:=Option.some.inj hF24
     refine Zi ?_
     exact ⟨u25,hE.sub ⟨rfl,rfl,rfl,rfl,rfl,trivial⟩,hM⟩
   ·skip
    rintro a w ⟨u18,hE,hM⟩
    refine wp_region_lit (Zd hE rfl fun a hE=>Zk hE rfl rfl rfl fun a hE=>Zb hE rfl fun a hE=>Zj (Zi ?_))
    exact ⟨_,(ois hF17),u18,hE.sub ⟨rfl,rfl,rfl,rfl,rfl,trivial⟩,hM⟩
  ·intro hb14
   have hs11:=Zo hs11 hb14
   refine wp_exit (Zs (Zs (Ys ?_)))
   obtain rfl:=hx12 _ (ois hs11)
   refine Zi ?_
   exact ⟨u9,hE.sub ⟨rfl,rfl,rfl,trivial⟩,hM⟩
 ·skip
  rintro a w ⟨u6,hE,hM⟩
  refine Zu (Zc (Zd hE rfl fun a hE=>Zd hE rfl fun a hE=>Zd hE rfl ?_)); intro a hE
  obtain ⟨x41,e42,hF5⟩:=bind_some hF5
  refine VO hE Za ld rfl rfl rfl rfl rfl Tryz.underlying9 e42 fun a hE=>ZD (xs:=[.tmp 32]) (l:=([x41] : List Str)) (vs:=[(vS x41)]) hE hM Za ld rfl rfl Tryz.underlying109 ty9 rfl (by decide) rfl ?_; intro u43 w a hM hE
  obtain ⟨l45,e46,hF5⟩:=bind_some hF5
  obtain ⟨e49,rfl⟩:=ZY e46
  have hM:=hM.pull1
  refine Z9 hE hM Za ld rfl rfl (hM.sl (pre:=[_]) noB) Tryz.underlying109 ty9 rfl (by decide) e49 fun u47 w a hM hE=>Zb hE rfl fun a hE=>Ze ?_
  obtain rfl:=Option.some.inj hF5
  have hM:=M.fst (l:=[_]) hM
  exact wp_ret (Yb hE rfl (Zl hE rfl) ⟨_,rfl,u47,rfl,hM.outF (Z8 Yd),hM.kept⟩)
def Xo (p0 : Str) (s18 : Int × Int) : Option (Fl (Int × Int) (Fl Int Int)) :=
 if (decide (s18.2 < (p0.l.length : Int))) = true then (((idx p0.l s18.2).bind fun x26=>if (decide (x26 < 48)) = true then (some true) else ((idx p0.l s18.2).bind fun x30=>some (decide (x30 > 57))) : Option (Bool)).bind fun j23=>if j23 = true then (some (Fl.ex (Fl.ex (-1)))) else ((idx p0.l s18.2).bind fun x35=>some (Fl.nx (wr ((wr (s18.1 * 10)) + (bI (x35 - 48))),wr (s18.2 + 1))))) else (some (Fl.ex (Fl.nx s18.1)))
def Ue (p0 : Str) : Option (Int) :=
 (if ((p0.l.length : Int) == 0) = true then (some true) else (if (decide ((p0.l.length : Int) > 9)) = true then (some true) else (if (decide ((p0.l.length : Int) > 1)) = true then ((idx p0.l (0 : Int)).bind fun x9=>some (x9 == 48)) else (some false))) : Option (Bool)).bind fun j1=>if j1 = true then (some (-1)) else ((ZH (Xo p0) (0,0)).bind fun j14=>j14.el (fun s17=>some s17) (fun r=>some r))
theorem BN (w0 : World) (p0 : Str) (r : Int) (hF : Ue p0 = some r) :
  Calls Tryz.prog 76 [(vS p0)].toArray w0 (Rt w0 (vI r)):=by
 refine ce Tryz.func76 ?_
 intro a hE
 have hM:=M.start w0
 unfold Ue at hF
 refine Zc (Zb hE rfl fun a hE=>Ze (wp_seq ?_))
 obtain ⟨j1,hl2,hF3⟩:=bind_some hF
 refine Zx (fun a w=>Env 48 a [(0,(vS p0)),(22,vT j1)] ∧ M (Old w0) w0 w []) ?_ ?_
 ·skip
  refine wp_region_lit (Zd hE rfl fun a hE=>V1 hE Za ld rfl Tryz.underlying9 fun a hE=>Zk hE rfl rfl rfl fun a hE=>Zd hE rfl ?_); intro a hE
  refine ZO ((p0.l.length : Int) == 0) (fun hb4=>?_) (fun hb4=>?_)
  ·have hl2:=Zn hl2 hb4
   refine Zg hE rfl (lkb rfl hb4) rfl (by decide) fun a hE=>Zg hE rfl (lkb rfl hb4) rfl (by decide) fun a hE=>Zg hE rfl (lkb rfl hb4) rfl (by decide) fun a hE=>ZB hE (lkb rfl hb4) rfl fun a hE=>Zd hE rfl fun a hE=>Zg hE rfl rfl rfl (by decide) fun a hE=>Zg hE rfl rfl rfl (by decide) fun a hE=>Zg hE rfl rfl rfl (by decide) fun a hE=>Zg hE rfl rfl rfl (by decide) fun a hE=>YR hE rfl rfl (by decide) fun a hE=>YR hE rfl rfl (by decide) fun a hE=>YR hE rfl rfl (by decide) ?_; intro a hE
   refine Zg hE rfl rfl rfl (by decide) fun a hE=>ZB hE rfl rfl fun a hE=>Zj ?_
   obtain rfl:=Option.some.inj hl2
   refine Zi ?_
   exact ⟨hE.sub ⟨rfl,rfl,trivial⟩,hM⟩
  ·have hl2:=Zo hl2 hb4
   refine Zh hE (Zf hE rfl (lkb rfl hb4)) (by decide) rfl fun a hE=>V1 hE (Zf hE rfl (lkb rfl hb4)) (by decide) rfl Tryz.underlying9 fun a hE=>ZJ hE (Zf hE rfl (lkb rfl hb4)) (by decide) rfl rfl rfl fun a hE=>Zy hE (lkb rfl hb4) rfl fun a hE=>Zd hE rfl ?_; intro a hE
   refine ZO (decide ((p0.l.length : Int) > 9)) (fun hb6=>?_) (fun hb6=>?_)
   ·have hl2:=Zn hl2 hb6
    refine Zg hE rfl (lkb rfl hb6) rfl (by decide) fun a hE=>Zg hE rfl (lkb rfl hb6) rfl (by decide) fun a hE=>Zg hE rfl (lkb rfl hb6) rfl (by decide) fun a hE=>Zg hE rfl (lkb rfl hb6) rfl (by decide) fun a hE=>YR hE rfl rfl (by decide) fun a hE=>YR hE rfl rfl (by decide) fun a hE=>YR hE rfl rfl (by decide) fun a hE=>Zg hE rfl (lkb rfl hb6) rfl (by decide) fun a hE=>ZB hE (lkb rfl hb6) rfl fun a hE=>Zj ?_
    obtain rfl:=Option.some.inj hl2
    refine Zi ?_
    exact ⟨hE.sub ⟨rfl,rfl,trivial⟩,hM⟩
   ·have hl2:=Zo hl2 hb6
    refine Zh hE (Zf hE rfl (lkb rfl hb6)) (by decide) rfl fun a hE=>V1 hE (Zf hE rfl (lkb rfl hb6)) (by decide) rfl Tryz.underlying9 fun a hE=>ZJ hE (Zf hE rfl (lkb rfl hb6)) (by decide) rfl rfl rfl fun a hE=>Zh hE (Zf hE rfl (lkb rfl hb6)) (by decide) rfl ?_; intro a hE
    refine ZO (decide ((p0.l.length : Int) > 1)) (fun hb8=>?_) (fun hb8=>?_)
    ·have hl2:=Zn hl2 hb8
     refine Zh hE (Zf hE rfl (lkb rfl hb8)) (by decide) rfl ?_; intro a hE
     obtain ⟨x9,e10,hl2⟩:=bind_some hl2
     refine Wi hE (Zf hE rfl (lkb rfl hb8)) (by decide) rfl rfl Tryz.underlying9 e10 fun a hE=>ZJ hE (Zf hE rfl (lkb rfl hb8)) (by decide) rfl rfl (AE x9 48) fun a hE=>WT hE (Zf hE rfl (lkb rfl hb6)) (by decide) (lkb rfl hb8) rfl fun a hE=>Zy hE (lkb rfl hb6) rfl fun a hE=>Zj ?_
     obtain rfl:=Option.some.inj hl2
     refine Zi ?_
     exact ⟨hE.sub ⟨rfl,rfl,trivial⟩,hM⟩
    ·have hl2:=Zo hl2 hb8
     refine Zg hE rfl (lkb rfl hb8) rfl (by decide) fun a hE=>Zg hE rfl (lkb rfl hb8) rfl (by decide) fun a hE=>Zg hE rfl (lkb rfl hb8) rfl (by decide) fun a hE=>Wl hE (Zf hE rfl (lkb rfl hb6)) (by decide) (lkb rfl hb8) rfl fun a hE=>Zy hE (lkb rfl hb6) rfl fun a hE=>Zj ?_
     obtain rfl:=Option.some.inj hl2
     refine Zi ?_
     exact ⟨hE.sub ⟨rfl,rfl,trivial⟩,hM⟩
 ·skip
  rintro a w ⟨hE,hM⟩
  refine Zm hE rfl ?_ ?_
  ·intro hb13
   have hF3:=Zn hF3 hb13
   refine Zc (Zb hE rfl fun a hE=>Ze ?_)
   obtain rfl:=Option.some.inj hF3
   exact wp_ret (Zr (kr1 hE rfl rfl hM.kept))
  ·intro hb13
   have hF3:=Zo hF3 hb13
   refine wp_skip (Zu (Zc (Zb hE rfl fun a hE=>Ze (wp_seq (Zc (Zb hE rfl fun a hE=>Ze ?_))))))
   obtain ⟨j14,hl15,hF16⟩:=bind_some hF3
   refine ZP (fun a w=>∃ s17 : Int,j14 = Fl.nx s17 ∧ Env 48 a [(3,vI s17)] ∧ M (Old w0) w0 w []) ?_ ?_
   ·skip
    refine wp_block ?_
    refine ZK (fun (s18 : Int × Int) a w=>Env 48 a [(0,(vS p0)),(3,vI s18.1),(4,vI s18.2)] ∧ M (Old w0) w0 w []) hl15 ⟨hE.sub ⟨rfl,rfl,rfl,trivial⟩,hM⟩ ?_
    rintro s18 a w ⟨hE,hM⟩ o21 hs19 hx20
    unfold Xo at hs19
    refine wp_seq (Zc (Zd hE rfl fun a hE=>Zd hE rfl fun a hE=>V1 hE Za ld rfl Tryz.underlying9 fun a hE=>Zk hE rfl rfl rfl fun a hE=>Ze ?_))
    refine Zm hE rfl ?_ ?_
    ·intro hb22
     have hs19:=Zn hs19 hb22
     refine wp_skip (Zu (wp_seq (wp_block (wp_seq ?_))))
     obtain ⟨j23,hl24,hF25⟩:=bind_some hs19
     refine Zx (fun a w=>Env 48 a [(0,(vS p0)),(3,vI s18.1),(4,vI s18.2),(38,vT j23)] ∧ M (Old w0) w0 w []) ?_ ?_
     ·skip
      refine wp_region_lit (Zd hE rfl fun a hE=>Zd hE rfl ?_); intro a hE
      obtain ⟨x26,e27,hl24⟩:=bind_some hl24
      refine Wi hE Za ld rfl rfl Tryz.underlying9 e27 fun a hE=>Zk hE rfl rfl (bB_lss x26 48) fun a hE=>Zd hE rfl ?_; intro a hE
      refine ZO (decide (x26 < 48)) (fun hb28=>?_) (fun hb28=>?_)
      ·have hl24:=Zn hl24 hb28
       refine Zg hE rfl (lkb rfl hb28) rfl (by decide) fun a hE=>Zg hE rfl (lkb rfl hb28) rfl (by decide) fun a hE=>Zg hE rfl (lkb rfl hb28) rfl (by decide) fun a hE=>Zg hE rfl (lkb rfl hb28) rfl (by decide) fun a hE=>ZB hE (lkb rfl hb28) rfl fun a hE=>Zj ?_
       obtain rfl:=Option.some.inj hl24
       refine Zi ?_
       exact ⟨hE.sub ⟨rfl,rfl,rfl,rfl,trivial⟩,hM⟩
      ·have hl24:=Zo hl24 hb28
       refine Zh hE (Zf hE rfl (lkb rfl hb28)) (by decide) rfl fun a hE=>Zh hE (Zf hE rfl (lkb rfl hb28)) (by decide) rfl ?_; intro a hE
       obtain ⟨x30,e31,hl24⟩:=bind_some hl24
       refine Wi hE (Zf hE rfl (lkb rfl hb28)) (by decide) rfl rfl Tryz.underlying9 e31 fun a hE=>ZJ hE (Zf hE rfl (lkb rfl hb28)) (by decide) rfl rfl (bB_gtr x30 57) fun a hE=>Zy hE (lkb rfl hb28) rfl fun a hE=>Zj ?_
       obtain rfl:=Option.some.inj hl24
       refine Zi ?_
       exact ⟨hE.sub ⟨rfl,rfl,rfl,rfl,trivial⟩,hM⟩
     ·skip
      rintro a w ⟨hE,hM⟩
      refine Zm hE rfl ?_ ?_
      ·intro hb33
       have hF25:=Zn hF25 hb33
       refine Zc (Zb hE rfl fun a hE=>Ze ?_)
       obtain rfl:=hx20 _ (ois hF25)
       obtain rfl:=Option.some.inj hF16
       exact wp_ret (Zr (Z4 (Zr (Zr (Z4 (Zr (Zr (kr1 hE rfl rfl hM.kept))))))))
      ·intro hb33
       have hF25:=Zo hF25 hb33
       refine wp_skip (Zu (wp_region_lit (Zd hE rfl fun a hE=>Zk hE rfl rfl rfl fun a hE=>Zd hE rfl fun a hE=>Zd hE rfl ?_))); intro a hE
       obtain ⟨x35,e36,hF25⟩:=bind_some hF25
       refine Wi hE Za ld rfl rfl Tryz.underlying9 e36 fun a hE=>Zk hE rfl rfl (zt x35 48) fun a hE=>TA hE Za ld rfl Tryz.underlying5 Tryz.underlying2 fun a hE=>Zk hE rfl rfl rfl fun a hE=>Zb hE rfl fun a hE=>Zj (Yg (Zu (wp_region_lit (Zd hE rfl fun a hE=>Zk hE rfl rfl rfl fun a hE=>Zb hE rfl fun a hE=>Zj (Zi ?_)))))
       exact ⟨_,(ois hF25),hE.sub ⟨rfl,rfl,rfl,trivial⟩,hM⟩
    ·intro hb22
     have hs19:=Zo hs19 hb22
     refine wp_exit (Zs (Zs (Ys ?_)))
     obtain rfl:=hx20 _ (ois hs19)
     refine Zi ?_
     exact ⟨s18.1,rfl,hE.sub ⟨rfl,trivial⟩,hM⟩
   ·skip
    rintro a w ⟨s17,ht,hE,hM⟩
    subst ht
    have hF16:=VQ hF16
    refine Zu (Zc (Zd hE rfl fun a hE=>Zb hE rfl fun a hE=>Ze ?_))
    obtain rfl:=Option.some.inj hF16
    exact wp_ret (kr1 hE rfl rfl hM.kept)
def WJ (p0 : UInt8) : Option (Int) :=
 (if (decide (p0 ≥ 48)) = true then (some (decide (p0 ≤ 57))) else (some false) : Option (Bool)).bind fun j1=>if j1 = true then (some (bI (p0 - 48))) else ((if (decide (p0 ≥ 97)) = true then (some (decide (p0 ≤ 102))) else (some false) : Option (Bool)).bind fun j8=>if j8 = true then (some (wr ((bI (p0 - 97)) + 10))) else (some (-1)))
theorem KR (w0 : World) (p0 : UInt8) (r : Int) (hF : WJ p0 = some r) :
  Calls Tryz.prog 119 [vB p0].toArray w0 (Rt w0 (vI r)):=by
 refine ce Tryz.func119 ?_
 intro a hE
 have hM:=M.start w0
 unfold WJ at hF
 refine Zc (Zb hE rfl fun a hE=>Ze (wp_seq (wp_block ?_)))
 obtain ⟨j1,hl2,hF3⟩:=bind_some hF
 refine Zx (fun a w=>Env 24 a [(0,vB p0),(3,vT j1)] ∧ M (Old w0) w0 w []) ?_ ?_
 ·skip
  refine wp_region_lit (Zd hE rfl fun a hE=>Zk hE rfl rfl (yo p0 48) fun a hE=>Zd hE rfl ?_); intro a hE
  refine ZO (decide (p0 ≥ 48)) (fun hb4=>?_) (fun hb4=>?_)
  ·have hl2:=Zn hl2 hb4
   refine Zh hE (Zf hE rfl (lkb rfl hb4)) (by decide) rfl fun a hE=>ZJ hE (Zf hE rfl (lkb rfl hb4)) (by decide) rfl rfl (yv p0 57) fun a hE=>ZB hE (lkb rfl hb4) rfl fun a hE=>Zb hE rfl fun a hE=>Zj ?_
   obtain rfl:=Option.some.inj hl2
   refine Zi ?_
   exact ⟨hE.sub ⟨rfl,rfl,trivial⟩,hM⟩
  ·have hl2:=Zo hl2 hb4
   refine Zg hE rfl (lkb rfl hb4) rfl (by decide) fun a hE=>Zg hE rfl (lkb rfl hb4) rfl (by decide) fun a hE=>Zy hE (lkb rfl hb4) rfl fun a hE=>Zb hE rfl fun a hE=>Zj ?_
   obtain rfl:=Option.some.inj hl2
   refine Zi ?_
   exact ⟨hE.sub ⟨rfl,rfl,trivial⟩,hM⟩
 ·skip
  rintro a w ⟨hE,hM⟩
  refine Zm hE rfl ?_ ?_
  ·intro hb7
   have hF3:=Zn hF3 hb7
   refine Zc (Zd hE rfl fun a hE=>Zk hE rfl rfl (zt p0 48) fun a hE=>TA hE Za ld rfl Tryz.underlying5 Tryz.underlying2 fun a hE=>Zb hE rfl fun a hE=>Ze ?_)
   obtain rfl:=Option.some.inj hF3
   exact wp_ret (Z4 (Zr (kr1 hE rfl rfl hM.kept)))
  ·intro hb7
   have hF3:=Zo hF3 hb7
   obtain ⟨j8,hl9,hF10⟩:=bind_some hF3
   refine Zx (fun a w=>Env 24 a [(0,vB p0),(13,vT j8)] ∧ M (Old w0) w0 w []) ?_ ?_
   ·skip
    refine wp_region_lit (Zd hE rfl fun a hE=>Zk hE rfl rfl (yo p0 97) fun a hE=>Zd hE rfl ?_); intro a hE
    refine ZO (decide (p0 ≥ 97)) (fun hb11=>?_) (fun hb11=>?_)
    ·have hl9:=Zn hl9 hb11
     refine Zh hE (Zf hE rfl (lkb rfl hb11)) (by decide) rfl fun a hE=>ZJ hE (Zf hE rfl (lkb rfl hb11)) (by decide) rfl rfl (yv p0 102) fun a hE=>ZB hE (lkb rfl hb11) rfl fun a hE=>Zb hE rfl fun a hE=>Zj ?_
     obtain rfl:=Option.some.inj hl9
     refine Zi ?_
     exact ⟨hE.sub ⟨rfl,rfl,trivial⟩,hM⟩
    ·have hl9:=Zo hl9 hb11
     refine Zg hE rfl (lkb rfl hb11) rfl (by decide) fun a hE=>Zg hE rfl (lkb rfl hb11) rfl (by decide) fun a hE=>Zy hE (lkb rfl hb11) rfl fun a hE=>Zb hE rfl fun a hE=>Zj ?_
     obtain rfl:=Option.some.inj hl9
     refine Zi ?_
     exact ⟨hE.sub ⟨rfl,rfl,trivial⟩,hM⟩
   ·skip
    rintro a w ⟨hE,hM⟩
    refine Zm hE rfl ?_ ?_
    ·intro hb14
     have hF10:=Zn hF10 hb14
     refine Zc (Zd hE rfl fun a hE=>Zk hE rfl rfl (zt p0 97) fun a hE=>TA hE Za ld rfl Tryz.underlying5 Tryz.underlying2 fun a hE=>Zk hE rfl rfl rfl fun a hE=>Zb hE rfl fun a hE=>Ze ?_)
     obtain rfl:=Option.some.inj hF10
     exact wp_ret (Z4 (Zr (kr1 hE rfl rfl hM.kept)))
    ·intro hb14
     have hF10:=Zo hF10 hb14
     refine wp_skip (Yg (Zu (Zc (Zb hE rfl fun a hE=>Ze ?_))))
     obtain rfl:=Option.some.inj hF10
     exact wp_ret (kr1 hE rfl rfl hM.kept)
def XE (p0 : Str) (s11 : (List UInt8) × Int) : Option (Fl ((List UInt8) × Int) (Fl (List UInt8) ((List UInt8) × Bool))) :=
 if (decide ((wr (s11.2 + 1)) < (p0.l.length : Int))) = true then (((idx p0.l s11.2).bind fun x22=>(WJ x22).bind fun r24=>(idx p0.l (wr (s11.2 + 1))).bind fun x26=>(WJ x26).bind fun r28=>some (r24,r28) : Option (Int × Int)).bind fun j18=>(if (decide (j18.1 < 0)) = true then (some true) else (some (decide (j18.2 < 0))) : Option (Bool)).bind fun j31=>if j31 = true then (some (Fl.ex (Fl.ex ([],false)))) else ((app 1 s11.1 ([Yp (wr ((wr (16 * j18.1)) + j18.2))] : List UInt8)).bind fun l42=>some (Fl.nx ((s11.1 ++ ([Yp (wr ((wr (16 * j18.1)) + j18.2))] : List UInt8)),wr (s11.2 + 2))))) else (some (Fl.ex (Fl.nx s11.1)))
def Uz (p0 : Str) : Option ((List UInt8) × Bool) :=
 if ((Int.tmod (p0.l.length : Int) 2) != 0) = true then (some ([],false)) else ((ZH (XE p0) (([] : List UInt8),0)).bind fun j5=>j5.el (fun s8=>some (s8,true)) (fun r=>some r))
theorem B5 (w0 : World) (p0 : Str) (r : (List UInt8) × Bool) (hF : Uz p0 = some r) :
  Calls Tryz.prog 77 [(vS p0)].toArray w0 (fun en w'=>∃ v,en = .returned v ∧ (∃ (y1 : Value),v = (Value.tuple [y1,vT r.2].toArray) ∧ Fr w0 w' [osl NoB (r.1 : List UInt8) y1] ∧ Kept (Old w0) w0 w')):=by
 refine ce Tryz.func77 ?_
 intro a hE
 have hM:=M.start w0
 unfold Uz at hF
 refine Zc (Zb hE rfl fun a hE=>Zb hE rfl fun a hE=>Ze (Zc (ZD (xs:=[]) (l:=([] : List UInt8)) (vs:=[]) hE hM Za ld rfl rfl Tryz.underlying22 ty5 rfl (by decide) rfl fun u1 w a hM hE=>Zb hE rfl fun a hE=>Ze (wp_seq (Zc (Zd hE rfl fun a hE=>V1 hE Za ld rfl Tryz.underlying9 fun a hE=>Zk hE rfl rfl (Kj _ _ (by decide)) fun a hE=>Zk hE rfl rfl rfl fun a hE=>Ze ?_))))))
 refine Zm hE rfl ?_ ?_
 ·intro hb3
  have hF:=Zn hF hb3
  refine Zc (Zb hE rfl fun a hE=>Zb hE rfl fun a hE=>Ze ?_)
  have hM:=M.nilS (α:=UInt8) NoB noB hM
  obtain rfl:=Option.some.inj hF
  have hM:=M.fst (l:=[_]) hM
  exact wp_ret (Zr (Z0 hE rfl (Zl hE rfl) (Zl hE rfl) ⟨_,rfl,(Value.slice none 0 0),rfl,hM.outF (Z8 Yd),hM.kept⟩))
 ·intro hb3
  have hF:=Zo hF hb3
  refine wp_skip (Zu (wp_seq (Zc (Zb hE rfl fun a hE=>Ze ?_))))
  obtain ⟨j5,hl6,hF7⟩:=bind_some hF
  refine ZP (fun a w=>∃ s8 : (List UInt8),j5 = Fl.nx s8 ∧ ∃ (u9 : Value),Env 44 a [(4,u9)] ∧ M (Old w0) w0 w [osl NoB (s8 : List UInt8) u9]) ?_ ?_
  ·skip
   refine wp_block ?_
   refine ZK (fun (s11 : (List UInt8) × Int) a w=>∃ (u12 : Value),Env 44 a [(0,(vS p0)),(4,u12),(5,vI s11.2)] ∧ M (Old w0) w0 w [osl NoB (s11.1 : List UInt8) u12]) hl6 ⟨u1,hE.sub ⟨rfl,rfl,rfl,trivial⟩,hM⟩ ?_
   rintro s11 a w ⟨u12,hE,hM⟩ o16 hs14 hx15
   unfold XE at hs14
   refine wp_seq (Zc (Zd hE rfl fun a hE=>Zk hE rfl rfl rfl fun a hE=>Zd hE rfl fun a hE=>V1 hE Za ld rfl Tryz.underlying9 fun a hE=>Zk hE rfl rfl rfl fun a hE=>Ze ?_))
   refine Zm hE rfl ?_ ?_
   ·intro hb17
    have hs14:=Zn hs14 hb17
    refine wp_skip (Zu (wp_seq (wp_block ?_)))
    obtain ⟨j18,hl19,hF20⟩:=bind_some hs14
    refine Zx (fun a w=>Env 44 a [(0,(vS p0)),(4,u12),(5,vI s11.2),(6,vI j18.1),(7,vI j18.2)] ∧ M (Old w0) w0 w [osl NoB (s11.1 : List UInt8) u12]) ?_ ?_
    ·skip
     obtain ⟨x22,e23,hl19⟩:=bind_some hl19
     obtain ⟨r24,e25,hl19⟩:=bind_some hl19
     obtain ⟨x26,e27,hl19⟩:=bind_some hl19
     obtain ⟨r28,e29,hl19⟩:=bind_some hl19
     refine YA [20,21,22,23,24,25,26,27,28,6,7] Wb rfl rfl (by decide) rfl hE hM (qsP (fun z=>Zh z.E Za ld rfl (kr0 rfl)) (qsP (fun z=>Zh z.E Za ld rfl (kr0 rfl)) (qsP (fun z=>Wi z.E Za ld rfl rfl Tryz.underlying9 e23 (kr0 rfl)) (qsP (fun z=>ZW z.E Za ld rfl (cbm Tryz.func119) (KR _ x22 r24 e25) (kc rfl)) (qsP (fun z=>Zh z.E Za ld rfl (kr0 rfl)) (qsP (fun z=>Zh z.E Za ld rfl (kr0 rfl)) (qsP (v:=(vI (wr (s11.2 + 1)))) (fun z=>ZJ z.E Za ld rfl rfl rfl (kr0 rfl)) (qsP (fun z=>Wi z.E Za ld rfl rfl Tryz.underlying9 e27 (kr0 rfl)) (qsP (fun z=>ZW z.E Za ld rfl (cbm Tryz.func119) (KR _ x26 r28 e29) (kc rfl)) (qsP (fun z=>YO z.E Za ld rfl (kr0 rfl)) (qsP (fun z=>YO z.E Za ld rfl (kr0 rfl)) qs0))))))))))) ?_
     ·intro a w u hE hM
      refine Zj ?_
      obtain rfl:=Option.some.inj hl19
      refine Zi ?_
      exact ⟨hE.sub ⟨rfl,rfl,rfl,rfl,rfl,trivial⟩,hM⟩
    ·skip
     rintro a w ⟨hE,hM⟩
     refine wp_seq ?_
     obtain ⟨j31,hl32,hF33⟩:=bind_some hF20
     refine Zx (fun a w=>Env 44 a [(0,(vS p0)),(4,u12),(5,vI s11.2),(6,vI j18.1),(7,vI j18.2),(34,vT j31)] ∧ M (Old w0) w0 w [osl NoB (s11.1 : List UInt8) u12]) ?_ ?_
     ·skip
      refine wp_region_lit (Zd hE rfl fun a hE=>Zk hE rfl rfl rfl fun a hE=>Zd hE rfl ?_); intro a hE
      refine ZO (decide (j18.1 < 0)) (fun hb34=>?_) (fun hb34=>?_)
      ·have hl32:=Zn hl32 hb34
       refine Zg hE rfl (lkb rfl hb34) rfl (by decide) fun a hE=>Zg hE rfl (lkb rfl hb34) rfl (by decide) fun a hE=>ZB hE (lkb rfl hb34) rfl fun a hE=>Zj ?_
       obtain rfl:=Option.some.inj hl32
       refine Zi ?_
       exact ⟨hE.sub ⟨rfl,rfl,rfl,rfl,rfl,rfl,trivial⟩,hM⟩
      ·have hl32:=Zo hl32 hb34
       refine Zh hE (Zf hE rfl (lkb rfl hb34)) (by decide) rfl fun a hE=>ZJ hE (Zf hE rfl (lkb rfl hb34)) (by decide) rfl rfl rfl fun a hE=>Zy hE (lkb rfl hb34) rfl fun a hE=>Zj ?_
       obtain rfl:=Option.some.inj hl32
       refine Zi ?_
       exact ⟨hE.sub ⟨rfl,rfl,rfl,rfl,rfl,rfl,trivial⟩,hM⟩
     ·skip
      rintro a w ⟨hE,hM⟩
      refine Zm hE rfl ?_ ?_
      ·intro hb37
       have hF33:=Zn hF33 hb37
       refine Zc (Zb hE rfl fun a hE=>Zb hE rfl fun a hE=>Ze ?_)
       have hM:=M.nilS (α:=UInt8) NoB noB hM
       obtain rfl:=hx15 _ (ois hF33)
       obtain rfl:=Option.some.inj hF7
       have hM:=M.fst (l:=[_]) hM
       exact wp_ret (Zr (Z4 (Zr (Zr (Z4 (Zr (Zr (Z0 hE rfl (Zl hE rfl) (Zl hE rfl) ⟨_,rfl,(Value.slice none 0 0),rfl,hM.outF (Z8 Yd),hM.kept⟩))))))))
      ·intro hb37
       have hF33:=Zo hF33 hb37
       refine wp_skip (Zu (wp_region_lit (Zd hE rfl fun a hE=>Zd hE rfl fun a hE=>Zk hE rfl rfl rfl fun a hE=>Zd hE rfl fun a hE=>Zk hE rfl rfl rfl fun a hE=>TH hE Za ld rfl Tryz.underlying2 Tryz.underlying5 fun a hE=>ZD (xs:=[.tmp 40]) (l:=([Yp (wr ((wr (16 * j18.1)) + j18.2))] : List UInt8)) (vs:=[(vB (Yp (wr ((wr (16 * j18.1)) + j18.2))))]) hE hM Za ld rfl rfl Tryz.underlying22 ty5 rfl (by decide) rfl ?_))); intro u40 w a hM hE
       obtain ⟨l42,e43,hF33⟩:=bind_some hF33
       obtain ⟨e46,rfl⟩:=ZY e43
       have hM:=hM.pull1
       refine Z9 hE hM Za ld rfl rfl (hM.sl (pre:=[_]) noB) Tryz.underlying22 ty5 rfl (by decide) e46 fun u44 w a hM hE=>Zb hE rfl fun a hE=>Zj (Yg (Zu (wp_region_lit (Zd hE rfl fun a hE=>Zk hE rfl rfl rfl fun a hE=>Zb hE rfl fun a hE=>Zj (Zi ?_)))))
       have hM:=M.fst (l:=[_]) hM
       exact ⟨_,(ois hF33),u44,hE.sub ⟨rfl,rfl,rfl,trivial⟩,hM⟩
   ·intro hb17
    have hs14:=Zo hs14 hb17
    refine wp_exit (Zs (Zs (Ys ?_)))
    obtain rfl:=hx15 _ (ois hs14)
    refine Zi ?_
    exact ⟨s11.1,rfl,u12,hE.sub ⟨rfl,trivial⟩,hM⟩
  ·skip
   rintro a w ⟨s8,ht,u9,hE,hM⟩
   subst ht
   have hF7:=VQ hF7
   refine Zu (Zc (Zd hE rfl fun a hE=>Zb hE rfl fun a hE=>Zb hE rfl fun a hE=>Ze ?_))
   obtain rfl:=Option.some.inj hF7
   exact wp_ret (Z0 hE rfl (Zl hE rfl) (Zl hE rfl) ⟨_,rfl,u9,rfl,hM.outF (Z8 Yd),hM.kept⟩)
def VG (p0 : Str) : Option (GShare × Int) :=
 (UA p0 58).bind fun r3=>if ((r3.length : Int) != 2) = true then (some ((⟨0,[]⟩ : GShare),6)) else ((idx r3 (0 : Int)).bind fun x9=>(Ue x9).bind fun r12=>(idx r3 (1 : Int)).bind fun x14=>(Uz x14).bind fun r17=>(if (!r17.2) = true then (some true) else ((WQ r12 1 255).bind fun r25=>if (!r25) = true then (some true) else (some (decide ((r17.1.length : Int) > 100)))) : Option (Bool)).bind fun j20=>if j20 = true then (some ((⟨0,[]⟩ : GShare),6)) else (some ((⟨Yp r12,r17.1⟩ : GShare),0)))
end

end Go.Proofs.YtfhhlkkhcoaapaaGreatDoor
