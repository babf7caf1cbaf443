/- The walk of what the law reaches: contracts of functions. -/
import Derived.Test.YtpibglnacohdkaaGreatC2
set_option linter.unusedVariables false
set_option linter.unusedSimpArgs false
set_option maxRecDepth 20000
set_option maxHeartbeats 400000
namespace Go.Proofs.YtpibglnacohdkaaGreat
open Go
open Flat (enc)
noncomputable section
theorem HK (w0 : World) (p0 : (List UInt8)) (v0_1 : Value) (hv0_1 : Ro w0 p0 [v0_1]) (p1 : (List UInt8)) (v1_1 : Value) (hv1_1 : Ro w0 p1 [v1_1]) (r : Bool) (hF : Vj p0 p1 = some r) :
  Calls Tryz.prog 21 [v0_1,v1_1].toArray w0 (Rt w0 (vT r)):=by
 refine ce Tryz.func21 ?_
 intro a hE
 have hM:=M.start w0
 unfold Vj at hF
 refine Zb (Zc hE rfl fun a hE=>Ze (wp_seq (Zb (Zd hE rfl fun a hE=>Z7 hE rfl Tryz.underlying40 (hM.rd hv0_1) fun a hE=>Zd hE rfl fun a hE=>Z7 hE rfl Tryz.underlying40 (hM.rd hv1_1) fun a hE=>Zg hE rfl rfl rfl fun a hE=>Ze ?_))))
 refine Zo hE rfl ?_ ?_
 ·intro hb1
  have hF:=Zs hF hb1
  refine Zb (Zc hE rfl fun a hE=>Ze ?_)
  obtain rfl:=Option.some.inj hF
  exact wp_ret (Zx (kr1 hE rfl rfl hM.kept))
 ·intro hb1
  have hF:=Zt hF hb1
  refine wp_skip (Zp (wp_seq (Zb (Zc hE rfl fun a hE=>Ze ?_))))
  obtain ⟨j2,hl3,hF4⟩:=bind_some hF
  refine ZM (fun a w=>∃ s5 : Unit,j2 = Fl.nx s5 ∧ Env 26 a [] ∧ M (Old w0) w0 w []) ?_ ?_
  ·skip
   refine wp_block ?_
   refine ZE (fun (s6 : Int) a w=>Env 26 a [(0,v0_1),(1,v1_1),(5,vI s6)] ∧ M (Old w0) w0 w []) hl3 ⟨hE.sub ⟨rfl,rfl,rfl,trivial⟩,hM⟩ ?_
   rintro s6 a w ⟨hE,hM⟩ o9 hs7 hx8
   unfold UP at hs7
   refine wp_seq (Zb (Zd hE rfl fun a hE=>Zd hE rfl fun a hE=>Z7 hE rfl Tryz.underlying40 (hM.rd hv0_1) fun a hE=>Zg hE rfl rfl rfl fun a hE=>Ze ?_))
   refine Zo hE rfl ?_ ?_
   ·intro hb10
    have hs7:=Zs hs7 hb10
    refine wp_skip (Zp (wp_seq (wp_block ?_)))
    obtain ⟨j11,hl12,hF13⟩:=bind_some hs7
    refine ZK (fun a w=>Env 26 a [(0,v0_1),(1,v1_1),(5,vI s6),(25,vT j11)] ∧ M (Old w0) w0 w []) ?_ ?_
    ·skip
     obtain ⟨x15,hi17,hl12⟩:=bix hl12
     obtain ⟨x18,hi20,hl12⟩:=bix hl12
     refine ZV [17,18,19,20,21,22,23,24,25] Yq rfl rfl (by decide) rfl hE hM (qsP (fun z=>Zi z.E Za ld rfl (kr0 rfl)) (qsP (fun z=>Zi z.E Za ld rfl (kr0 rfl)) (qsP (fun z=>ZX z.E Za ld rfl rfl Tryz.underlying40 ty5 (z.M.rd hv0_1) hi17.1 (kr0 rfl)) (qsP (fun z=>ZL (v:=(vB x15)) z.E Za ld rfl ty5 rfl (Yl (z.M.rd hv0_1) hi17.2) (kr0 rfl)) (qsP (fun z=>Zi z.E Za ld rfl (kr0 rfl)) (qsP (fun z=>Zi z.E Za ld rfl (kr0 rfl)) (qsP (fun z=>ZX z.E Za ld rfl rfl Tryz.underlying40 ty5 (z.M.rd hv1_1) hi20.1 (kr0 rfl)) (qsP (fun z=>ZL (v:=(vB x18)) z.E Za ld rfl ty5 rfl (Yl (z.M.rd hv1_1) hi20.2) (kr0 rfl)) (qsP (fun z=>Yd z.E Za ld rfl rfl (Jh x15 x18) (kr0 rfl)) qs0))))))))) ?_
     ·intro a w u hE hM
      refine Zf ?_
      obtain rfl:=Option.some.inj hl12
      refine Zh ?_
      exact ⟨hE.sub ⟨rfl,rfl,rfl,rfl,trivial⟩,hM⟩
    ·skip
     rintro a w ⟨hE,hM⟩
     refine Zo hE rfl ?_ ?_
     ·intro hb22
      have hF13:=Zs hF13 hb22
      refine Zb (Zc hE rfl fun a hE=>Ze ?_)
      obtain rfl:=hx8 _ (ois hF13)
      obtain rfl:=Option.some.inj hF4
      exact wp_ret (XW (Zx (Zx (XW (Zx (Zx (kr1 hE rfl rfl hM.kept)))))))
     ·intro hb22
      have hF13:=Zt hF13 hb22
      refine wp_skip (Yc (Zp (wp_region_lit (Zd hE rfl fun a hE=>Zg hE rfl rfl rfl fun a hE=>Zc hE rfl fun a hE=>Zf (Zh ?_)))))
      exact ⟨_,(ois hF13),hE.sub ⟨rfl,rfl,rfl,trivial⟩,hM⟩
   ·intro hb10
    have hs7:=Zt hs7 hb10
    refine wp_exit (Zm (Zm (Yb ?_)))
    obtain rfl:=hx8 _ (ois hs7)
    refine Zh ?_
    exact ⟨(),rfl,hE.sub trivial,hM⟩
  ·skip
   rintro a w ⟨s5,ht,hE,hM⟩
   subst ht
   have hF4:=Tw hF4
   refine Zp (Zb (Zc hE rfl fun a hE=>Ze ?_))
   obtain rfl:=Option.some.inj hF4
   exact wp_ret (kr1 hE rfl rfl hM.kept)
def Us (p0 : (List (List UInt8))) (p1 : (List (List UInt8))) (s6 : Int) : Option (Fl Int (Fl Unit Bool)) :=
 if (decide (s6 < (p0.length : Int))) = true then (((idx p0 s6).bind fun x15=>(idx p1 s6).bind fun x23=>(Vj x15 x23).bind fun r31=>some (!r31) : Option (Bool)).bind fun j11=>if j11 = true then (some (Fl.ex (Fl.ex false))) else (some (Fl.nx (wr (s6 + 1))))) else (some (Fl.ex (Fl.nx ())))
def VC (p0 : (List (List UInt8))) (p1 : (List (List UInt8))) : Option (Bool) :=
 if ((p0.length : Int) != (p1.length : Int)) = true then (some false) else ((Zz (Us p0 p1) 0).bind fun j2=>j2.el (fun s5=>some true) (fun r=>some r))
theorem J9 (w0 : World) (p0 : (List (List UInt8))) (v0_1 : Value) (hv0_1 : Ro w0 p0 [v0_1]) (p1 : (List (List UInt8))) (v1_1 : Value) (hv1_1 : Ro w0 p1 [v1_1]) (r : Bool) (hF : VC p0 p1 = some r) :
  Calls Tryz.prog 55 [v0_1,v1_1].toArray w0 (Rt w0 (vT r)):=by
 refine ce Tryz.func55 ?_
 intro a hE
 have hM:=M.start w0
 unfold VC at hF
 refine Zb (Zc hE rfl fun a hE=>Ze (wp_seq (Zb (Zd hE rfl fun a hE=>Z7 hE rfl Tryz.underlying23 (hM.rd hv0_1) fun a hE=>Zd hE rfl fun a hE=>Z7 hE rfl Tryz.underlying23 (hM.rd hv1_1) fun a hE=>Zg hE rfl rfl rfl fun a hE=>Ze ?_))))
 refine Zo hE rfl ?_ ?_
 ·intro hb1
  have hF:=Zs hF hb1
  refine Zb (Zc hE rfl fun a hE=>Ze ?_)
  obtain rfl:=Option.some.inj hF
  exact wp_ret (Zx (kr1 hE rfl rfl hM.kept))
 ·intro hb1
  have hF:=Zt hF hb1
  refine wp_skip (Zp (wp_seq (Zb (Zc hE rfl fun a hE=>Ze ?_))))
  obtain ⟨j2,hl3,hF4⟩:=bind_some hF
  refine ZM (fun a w=>∃ s5 : Unit,j2 = Fl.nx s5 ∧ Env 27 a [] ∧ M (Old w0) w0 w []) ?_ ?_
  ·skip
   refine wp_block ?_
   refine ZE (fun (s6 : Int) a w=>Env 27 a [(0,v0_1),(1,v1_1),(5,vI s6)] ∧ M (Old w0) w0 w []) hl3 ⟨hE.sub ⟨rfl,rfl,rfl,trivial⟩,hM⟩ ?_
   rintro s6 a w ⟨hE,hM⟩ o9 hs7 hx8
   unfold Us at hs7
   refine wp_seq (Zb (Zd hE rfl fun a hE=>Zd hE rfl fun a hE=>Z7 hE rfl Tryz.underlying23 (hM.rd hv0_1) fun a hE=>Zg hE rfl rfl rfl fun a hE=>Ze ?_))
   refine Zo hE rfl ?_ ?_
   ·intro hb10
    have hs7:=Zs hs7 hb10
    refine wp_skip (Zp (wp_seq (wp_block ?_)))
    obtain ⟨j11,hl12,hF13⟩:=bind_some hs7
    refine ZK (fun a w=>Env 27 a [(0,v0_1),(1,v1_1),(5,vI s6),(26,vT j11)] ∧ M (Old w0) w0 w []) ?_ ?_
    ·skip
     obtain ⟨x15,hi17,hl12⟩:=bix hl12
     obtain ⟨cs18,hs19,hA20⟩:=UO hv0_1 hi17.2 -- ^
     obtain ⟨u21,rfl⟩:=Vx hs19 -- ^
     have h22:=hs19 -- ^
     obtain ⟨x23,hi25,hl12⟩:=bix hl12
     obtain ⟨cs26,hs27,hA28⟩:=UO hv1_1 hi25.2 -- ^
     obtain ⟨u29,rfl⟩:=Vx hs27 -- ^
     have h30:=hs27 -- ^
     obtain ⟨r31,e32,hl12⟩:=bind_some hl12
     refine ZV [17,18,19,20,21,22,23,24,25,26] Yq rfl rfl (by decide) rfl hE hM (qsP (fun z=>Zi z.E Za ld rfl (kr0 rfl)) (qsP (fun z=>Zi z.E Za ld rfl (kr0 rfl)) (qsP (fun z=>ZX z.E Za ld rfl rfl Tryz.underlying23 XQ (z.M.rd hv0_1) hi17.1 (kr0 rfl)) (qsP (fun z=>ZL (v:=u21) z.E Za ld rfl XQ rfl (z.M.atk hA20 (US hv0_1 hi17.2)) (kr0 rfl)) (qsP (fun z=>Zi z.E Za ld rfl (kr0 rfl)) (qsP (fun z=>Zi z.E Za ld rfl (kr0 rfl)) (qsP (fun z=>ZX z.E Za ld rfl rfl Tryz.underlying23 XQ (z.M.rd hv1_1) hi25.1 (kr0 rfl)) (qsP (fun z=>ZL (v:=u29) z.E Za ld rfl XQ rfl (z.M.atk hA28 (US hv1_1 hi25.2)) (kr0 rfl)) (qsP (fun z=>Yg z.E Za ld rfl (cbm Tryz.func21) (HK _ x15 u21 (z.M.rdo h22) x23 u29 (z.M.rdo h30) r31 e32) (kc rfl)) (qsP (fun z=>QA z.E Za ld rfl (kr0 rfl)) qs0)))))))))) ?_
     ·intro a w u hE hM
      refine Zf ?_
      obtain rfl:=Option.some.inj hl12
      refine Zh ?_
      exact ⟨hE.sub ⟨rfl,rfl,rfl,rfl,trivial⟩,hM⟩
    ·skip
     rintro a w ⟨hE,hM⟩
     refine Zo hE rfl ?_ ?_
     ·intro hb34
      have hF13:=Zs hF13 hb34
      refine Zb (Zc hE rfl fun a hE=>Ze ?_)
      obtain rfl:=hx8 _ (ois hF13)
      obtain rfl:=Option.some.inj hF4
      exact wp_ret (XW (Zx (Zx (XW (Zx (Zx (kr1 hE rfl rfl hM.kept)))))))
     ·intro hb34
      have hF13:=Zt hF13 hb34
      refine wp_skip (Yc (Zp (wp_region_lit (Zd hE rfl fun a hE=>Zg hE rfl rfl rfl fun a hE=>Zc hE rfl fun a hE=>Zf (Zh ?_)))))
      exact ⟨_,(ois hF13),hE.sub ⟨rfl,rfl,rfl,trivial⟩,hM⟩
   ·intro hb10
    have hs7:=Zt hs7 hb10
    refine wp_exit (Zm (Zm (Yb ?_)))
    obtain rfl:=hx8 _ (ois hs7)
    refine Zh ?_
    exact ⟨(),rfl,hE.sub trivial,hM⟩
  ·skip
   rintro a w ⟨s5,ht,hE,hM⟩
   subst ht
   have hF4:=Tw hF4
   refine Zp (Zb (Zc hE rfl fun a hE=>Ze ?_))
   obtain rfl:=Option.some.inj hF4
   exact wp_ret (kr1 hE rfl rfl hM.kept)
def Uy (p0 : (List Int)) (p1 : (List Int)) (s6 : Int) : Option (Fl Int (Fl Unit Bool)) :=
 if (decide (s6 < (p0.length : Int))) = true then (((idx p0 s6).bind fun x15=>(idx p1 s6).bind fun x18=>some (x15 != x18) : Option (Bool)).bind fun j11=>if j11 = true then (some (Fl.ex (Fl.ex false))) else (some (Fl.nx (wr (s6 + 1))))) else (some (Fl.ex (Fl.nx ())))
def VE (p0 : (List Int)) (p1 : (List Int)) : Option (Bool) :=
 if ((p0.length : Int) != (p1.length : Int)) = true then (some false) else ((Zz (Uy p0 p1) 0).bind fun j2=>j2.el (fun s5=>some true) (fun r=>some r))
theorem J5 (w0 : World) (p0 : (List Int)) (v0_1 : Value) (hv0_1 : Ro w0 p0 [v0_1]) (p1 : (List Int)) (v1_1 : Value) (hv1_1 : Ro w0 p1 [v1_1]) (r : Bool) (hF : VE p0 p1 = some r) :
  Calls Tryz.prog 56 [v0_1,v1_1].toArray w0 (Rt w0 (vT r)):=by
 refine ce Tryz.func56 ?_
 intro a hE
 have hM:=M.start w0
 unfold VE at hF
 refine Zb (Zc hE rfl fun a hE=>Ze (wp_seq (Zb (Zd hE rfl fun a hE=>Z7 hE rfl Tryz.underlying24 (hM.rd hv0_1) fun a hE=>Zd hE rfl fun a hE=>Z7 hE rfl Tryz.underlying24 (hM.rd hv1_1) fun a hE=>Zg hE rfl rfl rfl fun a hE=>Ze ?_))))
 refine Zo hE rfl ?_ ?_
 ·intro hb1
  have hF:=Zs hF hb1
  refine Zb (Zc hE rfl fun a hE=>Ze ?_)
  obtain rfl:=Option.some.inj hF
  exact wp_ret (Zx (kr1 hE rfl rfl hM.kept))
 ·intro hb1
  have hF:=Zt hF hb1
  refine wp_skip (Zp (wp_seq (Zb (Zc hE rfl fun a hE=>Ze ?_))))
  obtain ⟨j2,hl3,hF4⟩:=bind_some hF
  refine ZM (fun a w=>∃ s5 : Unit,j2 = Fl.nx s5 ∧ Env 26 a [] ∧ M (Old w0) w0 w []) ?_ ?_
  ·skip
   refine wp_block ?_
   refine ZE (fun (s6 : Int) a w=>Env 26 a [(0,v0_1),(1,v1_1),(5,vI s6)] ∧ M (Old w0) w0 w []) hl3 ⟨hE.sub ⟨rfl,rfl,rfl,trivial⟩,hM⟩ ?_
   rintro s6 a w ⟨hE,hM⟩ o9 hs7 hx8
   unfold Uy at hs7
   refine wp_seq (Zb (Zd hE rfl fun a hE=>Zd hE rfl fun a hE=>Z7 hE rfl Tryz.underlying24 (hM.rd hv0_1) fun a hE=>Zg hE rfl rfl rfl fun a hE=>Ze ?_))
   refine Zo hE rfl ?_ ?_
   ·intro hb10
    have hs7:=Zs hs7 hb10
    refine wp_skip (Zp (wp_seq (wp_block ?_)))
    obtain ⟨j11,hl12,hF13⟩:=bind_some hs7
    refine ZK (fun a w=>Env 26 a [(0,v0_1),(1,v1_1),(5,vI s6),(25,vT j11)] ∧ M (Old w0) w0 w []) ?_ ?_
    ·skip
     obtain ⟨x15,hi17,hl12⟩:=bix hl12
     obtain ⟨x18,hi20,hl12⟩:=bix hl12
     refine ZV [17,18,19,20,21,22,23,24,25] Yq rfl rfl (by decide) rfl hE hM (qsP (fun z=>Zi z.E Za ld rfl (kr0 rfl)) (qsP (fun z=>Zi z.E Za ld rfl (kr0 rfl)) (qsP (fun z=>ZX z.E Za ld rfl rfl Tryz.underlying24 ty2 (z.M.rd hv0_1) hi17.1 (kr0 rfl)) (qsP (fun z=>ZL (v:=(vI x15)) z.E Za ld rfl ty2 rfl (Yl (z.M.rd hv0_1) hi17.2) (kr0 rfl)) (qsP (fun z=>Zi z.E Za ld rfl (kr0 rfl)) (qsP (fun z=>Zi z.E Za ld rfl (kr0 rfl)) (qsP (fun z=>ZX z.E Za ld rfl rfl Tryz.underlying24 ty2 (z.M.rd hv1_1) hi20.1 (kr0 rfl)) (qsP (fun z=>ZL (v:=(vI x18)) z.E Za ld rfl ty2 rfl (Yl (z.M.rd hv1_1) hi20.2) (kr0 rfl)) (qsP (fun z=>Yd z.E Za ld rfl rfl rfl (kr0 rfl)) qs0))))))))) ?_
     ·intro a w u hE hM
      refine Zf ?_
      obtain rfl:=Option.some.inj hl12
      refine Zh ?_
      exact ⟨hE.sub ⟨rfl,rfl,rfl,rfl,trivial⟩,hM⟩
    ·skip
     rintro a w ⟨hE,hM⟩
     refine Zo hE rfl ?_ ?_
     ·intro hb22
      have hF13:=Zs hF13 hb22
      refine Zb (Zc hE rfl fun a hE=>Ze ?_)
      obtain rfl:=hx8 _ (ois hF13)
      obtain rfl:=Option.some.inj hF4
      exact wp_ret (XW (Zx (Zx (XW (Zx (Zx (kr1 hE rfl rfl hM.kept)))))))
     ·intro hb22
      have hF13:=Zt hF13 hb22
      refine wp_skip (Yc (Zp (wp_region_lit (Zd hE rfl fun a hE=>Zg hE rfl rfl rfl fun a hE=>Zc hE rfl fun a hE=>Zf (Zh ?_)))))
      exact ⟨_,(ois hF13),hE.sub ⟨rfl,rfl,rfl,trivial⟩,hM⟩
   ·intro hb10
    have hs7:=Zt hs7 hb10
    refine wp_exit (Zm (Zm (Yb ?_)))
    obtain rfl:=hx8 _ (ois hs7)
    refine Zh ?_
    exact ⟨(),rfl,hE.sub trivial,hM⟩
  ·skip
   rintro a w ⟨s5,ht,hE,hM⟩
   subst ht
   have hF4:=Tw hF4
   refine Zp (Zb (Zc hE rfl fun a hE=>Ze ?_))
   obtain rfl:=Option.some.inj hF4
   exact wp_ret (kr1 hE rfl rfl hM.kept)
def XH (p0 : GBlobs) (p1 : GBlobs) : Option (Bool) :=
 (Vn p0.Keys p1.Keys).bind fun r5=>if (!r5) = true then (some false) else ((VC p0.Data p1.Data).bind fun r8=>if (!r8) = true then (some false) else ((VE p0.Counts p1.Counts).bind fun r11=>if (!r11) = true then (some false) else (some true)))
theorem U0 (w0 : World) (p0 : GBlobs) (v0_1 : Value) (hv0_1 : Ro w0 p0.Keys [v0_1]) (v0_2 : Value) (hv0_2 : Ro w0 p0.Data [v0_2]) (v0_3 : Value) (hv0_3 : Ro w0 p0.Counts [v0_3]) (p1 : GBlobs) (v1_1 : Value) (hv1_1 : Ro w0 p1.Keys [v1_1]) (v1_2 : Value) (hv1_2 : Ro w0 p1.Data [v1_2]) (v1_3 : Value) (hv1_3 : Ro w0 p1.Counts [v1_3]) (r : Bool) (hF : XH p0 p1 = some r) :
  Calls Tryz.prog 14 [(Value.agg (cat [[v0_1],[v0_2],[v0_3]]).toArray),(Value.agg (cat [[v1_1],[v1_2],[v1_3]]).toArray)].toArray w0 (Rt w0 (vT r)):=by
 refine ce Tryz.func14 ?_
 intro a hE
 have hM:=M.start w0
 unfold XH at hF
 refine Zb (ZZ (cs:=cat [[v0_1],[v0_2],[v0_3]]) hE hM Za ld rfl rfl fun b1 w a hM hE=>ZZ (cs:=cat [[v1_1],[v1_2],[v1_3]]) hE hM Za ld rfl rfl fun b3 w a hM hE=>Zc hE rfl fun a hE=>Ze (wp_seq (Zb (Zw hE rfl (X1) fun a hE=>ZA (v:=v0_1) hE rfl Tu rfl (At.cat (pre:=[]) hM.rawAt1 cl0) fun a hE=>Zw hE rfl (X1) fun a hE=>ZA (v:=v1_1) hE rfl Tu rfl (At.cat (pre:=[]) hM.rawAt0 cl0) ?_)))); intro a hE
 obtain ⟨r5,e6,hF⟩:=bind_some hF
 refine Zy hE rfl (cbm Tryz.func54) (Jw _ p0.Keys v0_1 (hM.rdo hv0_1) p1.Keys v1_1 (hM.rdo hv1_1) r5 e6) ?_
 rintro v w a ⟨rfl,hK⟩ hE
 have hM:=hM.keep hK
 refine KJ hE rfl fun a hE=>Ze ?_
 refine Zo hE rfl ?_ ?_
 ·intro hb7
  have hF:=Zs hF hb7
  refine Zb (Zc hE rfl fun a hE=>Ze ?_)
  obtain rfl:=Option.some.inj hF
  exact wp_ret (Zx (kr1 hE rfl rfl hM.kept))
 ·intro hb7
  have hF:=Zt hF hb7
  refine wp_skip (Zp (wp_seq (Zb (Zw hE rfl (X5) fun a hE=>ZA (v:=v0_2) hE rfl Tg rfl (At.cat (pre:=[[v0_1]]) hM.rawAt1 ck) fun a hE=>Zw hE rfl (X5) fun a hE=>ZA (v:=v1_2) hE rfl Tg rfl (At.cat (pre:=[[v1_1]]) hM.rawAt0 ck) ?_)))); intro a hE
  obtain ⟨r8,e9,hF⟩:=bind_some hF
  refine Zy hE rfl (cbm Tryz.func55) (J9 _ p0.Data v0_2 (hM.rdo hv0_2) p1.Data v1_2 (hM.rdo hv1_2) r8 e9) ?_
  rintro v w a ⟨rfl,hK⟩ hE
  have hM:=hM.keep hK
  refine KJ hE rfl fun a hE=>Ze ?_
  refine Zo hE rfl ?_ ?_
  ·intro hb10
   have hF:=Zs hF hb10
   refine Zb (Zc hE rfl fun a hE=>Ze ?_)
   obtain rfl:=Option.some.inj hF
   exact wp_ret (Zx (kr1 hE rfl rfl hM.kept))
  ·intro hb10
   have hF:=Zt hF hb10
   refine wp_skip (Zp (wp_seq (Zb (Zw hE rfl (X2) fun a hE=>ZA (v:=v0_3) hE rfl U3 rfl (At.cat (pre:=[[v0_1],[v0_2]]) hM.rawAt1 ck) fun a hE=>Zw hE rfl (X2) fun a hE=>ZA (v:=v1_3) hE rfl U3 rfl (At.cat (pre:=[[v1_1],[v1_2]]) hM.rawAt0 ck) ?_)))); intro a hE
   obtain ⟨r11,e12,hF⟩:=bind_some hF
   refine Zy hE rfl (cbm Tryz.func56) (J5 _ p0.Counts v0_3 (hM.rdo hv0_3) p1.Counts v1_3 (hM.rdo hv1_3) r11 e12) ?_
   rintro v w a ⟨rfl,hK⟩ hE
   have hM:=hM.keep hK
   refine KJ hE rfl fun a hE=>Ze ?_
   refine Zo hE rfl ?_ ?_
   ·intro hb13
    have hF:=Zs hF hb13
    refine Zb (Zc hE rfl fun a hE=>Ze ?_)
    obtain rfl:=Option.some.inj hF
    exact wp_ret (Zx (kr1 hE rfl rfl hM.kept))
   ·intro hb13
    have hF:=Zt hF hb13
    refine wp_skip (Zp (Zb (Zc hE rfl fun a hE=>Ze ?_)))
    obtain rfl:=Option.some.inj hF
    exact wp_ret (kr1 hE rfl rfl hM.kept)
def Xg (s4 : (List (Vector UInt8 32)) × Int × Int) (s12 : (List (Vector UInt8 32)) × Int × Int) : Option (Fl ((List (Vector UInt8 32)) × Int × Int) ((List (Vector UInt8 32)) × Int)) :=
 if (decide (s12.2.2 < 32)) = true then ((idx s12.1 s4.2.2).bind fun x17=>(ZI x17 s12.2.2).bind fun x21=>some (Fl.nx ((s12.1.set (s4.2.2).toNat (x17.setIfInBounds (s12.2.2).toNat (ZG s12.2.1))),wr (s12.2.1 + 1),wr (s12.2.2 + 1)))) else (some (Fl.ex (s12.1,s12.2.1)))
def Yt (s4 : (List (Vector UInt8 32)) × Int × Int) : Option (Fl ((List (Vector UInt8 32)) × Int × Int) ((List (Vector UInt8 32)) × Int)) :=
 if (decide (s4.2.2 < (s4.1.length : Int))) = true then ((Zz (Xg s4) (s4.1,s4.2.1,0)).bind fun j9=>some (Fl.nx (j9.1,j9.2,wr (s4.2.2 + 1)))) else (some (Fl.ex (s4.1,s4.2.1)))
def YW (p0 : (List (Vector UInt8 32))) (p1 : Int) : Option ((List (Vector UInt8 32)) × Int) :=
 (Zz (Yt) (p0,p1,0)).bind fun j1=>some (j1.1,j1.2)
theorem Kk (St : Nat → Prop) (W w0 : World) (its : List Item) (p0 : (List (Vector UInt8 32))) (v0_1 : Value) (p1 : Int) (hM : M St W w0 (own NoB (p0 : (List (Vector UInt8 32))) [v0_1] :: its)) (r : (List (Vector UInt8 32)) × Int) (hF : YW p0 p1 = some r) :
  Calls Tryz.prog 57 [v0_1,vI p1].toArray w0 (fun en w'=>∃ v,en = .returned v ∧ (v = (vI r.2) ∧ M St W w' (own NoB (r.1 : (List (Vector UInt8 32))) [v0_1] :: its))):=by
 refine ce Tryz.func57 ?_
 intro a hE
 unfold YW at hF
 refine Zb (Zc hE rfl fun a hE=>Ze (wp_seq (Zb (Zc hE rfl fun a hE=>Ze ?_))))
 obtain ⟨j1,hl2,hF3⟩:=bind_some hF
 refine ZM (fun a w=>Env 27 a [(0,v0_1),(1,vI j1.2)] ∧ M St W w (own NoB (j1.1 : (List (Vector UInt8 32))) [v0_1] :: its)) ?_ ?_
 ·skip
  refine wp_block ?_
  refine ZE (fun (s4 : (List (Vector UInt8 32)) × Int × Int) a w=>Env 27 a [(0,v0_1),(1,vI s4.2.1),(5,vI s4.2.2)] ∧ M St W w (own NoB (s4.1 : (List (Vector UInt8 32))) [v0_1] :: its)) hl2 ⟨hE.sub ⟨rfl,rfl,rfl,trivial⟩,hM⟩ ?_
  rintro s4 a w ⟨hE,hM⟩ o7 hs5 hx6
  unfold Yt at hs5
  refine wp_seq (Zb (Zd hE rfl fun a hE=>Zd hE rfl fun a hE=>Z7 hE rfl Tryz.underlying29 (hM.ro (pre:=[]) noB) fun a hE=>Zg hE rfl rfl rfl fun a hE=>Ze ?_))
  refine Zo hE rfl ?_ ?_
  ·intro hb8
   have hs5:=Zs hs5 hb8
   refine wp_skip (Zp (wp_seq (wp_block (Zb (Zc hE rfl fun a hE=>Ze ?_)))))
   obtain ⟨j9,hl10,hF11⟩:=bind_some hs5
   refine ZM (fun a w=>Env 27 a [(0,v0_1),(1,vI j9.2),(5,vI s4.2.2)] ∧ M St W w (own NoB (j9.1 : (List (Vector UInt8 32))) [v0_1] :: its)) ?_ ?_
   ·skip
    refine wp_block ?_
    refine ZE (fun (s12 : (List (Vector UInt8 32)) × Int × Int) a w=>Env 27 a [(0,v0_1),(1,vI s12.2.1),(5,vI s4.2.2),(6,vI s12.2.2)] ∧ M St W w (own NoB (s12.1 : (List (Vector UInt8 32))) [v0_1] :: its)) hl10 ⟨hE.sub ⟨rfl,rfl,rfl,rfl,trivial⟩,hM⟩ ?_
    rintro s12 a w ⟨hE,hM⟩ o15 hs13 hx14
    unfold Xg at hs13
    refine wp_seq (Zb (Zd hE rfl fun a hE=>Zg hE rfl rfl rfl fun a hE=>Ze ?_))
    refine Zo hE rfl ?_ ?_
    ·intro hb16
     have hs13:=Zs hs13 hb16
     refine wp_skip (Zp (wp_seq (wp_block (Zb (Zd hE rfl fun a hE=>Zd hE rfl fun a hE=>Zd hE rfl fun a hE=>Zd hE rfl fun a hE=>Xb hE Za ld rfl Tryz.underlying3 Tryz.underlying5 ?_))))); intro a hE
     obtain ⟨x17,hi19,hs13⟩:=bix hs13
     refine Z9 hE rfl rfl Tryz.underlying29 Z3 (hM.ro (pre:=[]) noB) hi19.1 ?_; intro a hE
     obtain ⟨x21,hi20,hs13⟩:=bvx hs13
     refine ZF hE rfl rfl Tryz.underlying35 ty5 hi20.1 ?_; intro a hE
     have hM:=hM.toOsl (List.getElem?_eq_some_iff.1 hi19.2).1
     refine Tv (i:=(s4.2.2).toNat) (k0:=0 + (s12.2.2).toNat * 1) (seg:=[(vB (ZG s12.2.1))]) (xo:=x17) (xn:=(x17.setIfInBounds (s12.2.2).toNat (ZG s12.2.1))) hE hM Za (qb rfl (by show _ = _ + _ * 32 + _; omega)) rfl rfl ty5 rfl (Flat.cell (ZG s12.2.1 : UInt8)) hi19.2 (kh (x:=ZG s12.2.1) hi20.1) (ZD (v:=x17) (x:=ZG s12.2.1) hi20.1) ?_; intro w a hM hE
     have hM:=hM.toOwn noB
     refine Ze (wp_region_lit (Zd hE rfl fun a hE=>Zg hE rfl rfl rfl fun a hE=>Zc hE rfl fun a hE=>Zf (Yc (Zp (wp_region_lit (Zd hE rfl fun a hE=>Zg hE rfl rfl rfl fun a hE=>Zc hE rfl fun a hE=>Zf (Zh ?_)))))))
     exact ⟨_,(ois hs13),hE.sub ⟨rfl,rfl,rfl,rfl,trivial⟩,hM⟩
    ·intro hb16
     have hs13:=Zt hs13 hb16
     refine wp_exit (Zm (Zm (Yb ?_)))
     obtain rfl:=hx14 _ (ois hs13)
     refine Zh ?_
     exact ⟨hE.sub ⟨rfl,rfl,rfl,trivial⟩,hM⟩
   ·skip
    rintro a w ⟨hE,hM⟩
    refine Yc (Zp (wp_region_lit (Zd hE rfl fun a hE=>Zg hE rfl rfl rfl fun a hE=>Zc hE rfl fun a hE=>Zf (Zh ?_))))
    exact ⟨_,(ois hF11),hE.sub ⟨rfl,rfl,rfl,trivial⟩,hM⟩
  ·intro hb8
   have hs5:=Zt hs5 hb8
   refine wp_exit (Zm (Zm (Yb ?_)))
   obtain rfl:=hx6 _ (ois hs5)
   refine Zh ?_
   exact ⟨hE.sub ⟨rfl,rfl,trivial⟩,hM⟩
 ·skip
  rintro a w ⟨hE,hM⟩
  refine Zp (Zb (Zd hE rfl fun a hE=>Zc hE rfl fun a hE=>Ze ?_))
  obtain rfl:=Option.some.inj hF3
  exact wp_ret (ZP hE (by rfl) (ZR hE rfl) ⟨_,rfl,rfl,hM⟩)
def YP (s4 : (List UInt8) × Int × Int) : Option (Fl ((List UInt8) × Int × Int) ((List UInt8) × Int)) :=
 if (decide (s4.2.2 < (s4.1.length : Int))) = true then ((idx s4.1 s4.2.2).bind fun x9=>some (Fl.nx ((s4.1.set (s4.2.2).toNat (ZG s4.2.1)),wr (s4.2.1 + 1),wr (s4.2.2 + 1)))) else (some (Fl.ex (s4.1,s4.2.1)))
def XC (p0 : (List UInt8)) (p1 : Int) : Option ((List UInt8) × Int) :=
 (Zz (YP) (p0,p1,0)).bind fun j1=>some (j1.1,j1.2)
theorem Jf (St : Nat → Prop) (W w0 : World) (its : List Item) (p0 : (List UInt8)) (v0_1 : Value) (p1 : Int) (hM : M St W w0 (own NoB (p0 : (List UInt8)) [v0_1] :: its)) (r : (List UInt8) × Int) (hF : XC p0 p1 = some r) :
  Calls Tryz.prog 22 [v0_1,vI p1].toArray w0 (fun en w'=>∃ v,en = .returned v ∧ (v = (vI r.2) ∧ M St W w' (own NoB (r.1 : (List UInt8)) [v0_1] :: its))):=by
 refine ce Tryz.func22 ?_
 intro a hE
 unfold XC at hF
 refine Zb (Zc hE rfl fun a hE=>Ze (wp_seq (Zb (Zc hE rfl fun a hE=>Ze ?_))))
 obtain ⟨j1,hl2,hF3⟩:=bind_some hF
 refine ZM (fun a w=>Env 20 a [(0,v0_1),(1,vI j1.2)] ∧ M St W w (own NoB (j1.1 : (List UInt8)) [v0_1] :: its)) ?_ ?_
 ·skip
  refine wp_block ?_
  refine ZE (fun (s4 : (List UInt8) × Int × Int) a w=>Env 20 a [(0,v0_1),(1,vI s4.2.1),(5,vI s4.2.2)] ∧ M St W w (own NoB (s4.1 : (List UInt8)) [v0_1] :: its)) hl2 ⟨hE.sub ⟨rfl,rfl,rfl,trivial⟩,hM⟩ ?_
  rintro s4 a w ⟨hE,hM⟩ o7 hs5 hx6
  unfold YP at hs5
  refine wp_seq (Zb (Zd hE rfl fun a hE=>Zd hE rfl fun a hE=>Z7 hE rfl Tryz.underlying40 (hM.ro (pre:=[]) noB) fun a hE=>Zg hE rfl rfl rfl fun a hE=>Ze ?_))
  refine Zo hE rfl ?_ ?_
  ·intro hb8
   have hs5:=Zs hs5 hb8
   refine wp_skip (Zp (wp_seq (wp_block (Zb (Zd hE rfl fun a hE=>Zd hE rfl fun a hE=>Zd hE rfl fun a hE=>Xb hE Za ld rfl Tryz.underlying3 Tryz.underlying5 ?_))))); intro a hE
   obtain ⟨x9,hi11,hs5⟩:=bix hs5
   refine Z9 hE rfl rfl Tryz.underlying40 ty5 (hM.ro (pre:=[]) noB) hi11.1 ?_; intro a hE
   have hM:=hM.toOsl (List.getElem?_eq_some_iff.1 hi11.2).1
   refine Tv (i:=(s4.2.2).toNat) (k0:=0) (seg:=[(vB (ZG s4.2.1))]) (xo:=x9) (xn:=ZG s4.2.1) hE hM Za rfl rfl rfl ty5 rfl (Flat.cell (ZG s4.2.1 : UInt8)) hi11.2 (Qn (m:=1) rfl (by decide)) (Zk rfl) ?_; intro w a hM hE
   have hM:=hM.toOwn noB
   refine Ze (wp_region_lit (Zd hE rfl fun a hE=>Zg hE rfl rfl rfl fun a hE=>Zc hE rfl fun a hE=>Zf (Yc (Zp (wp_region_lit (Zd hE rfl fun a hE=>Zg hE rfl rfl rfl fun a hE=>Zc hE rfl fun a hE=>Zf (Zh ?_)))))))
   exact ⟨_,(ois hs5),hE.sub ⟨rfl,rfl,rfl,trivial⟩,hM⟩
  ·intro hb8
   have hs5:=Zt hs5 hb8
   refine wp_exit (Zm (Zm (Yb ?_)))
   obtain rfl:=hx6 _ (ois hs5)
   refine Zh ?_
   exact ⟨hE.sub ⟨rfl,rfl,trivial⟩,hM⟩
 ·skip
  rintro a w ⟨hE,hM⟩
  refine Zp (Zb (Zd hE rfl fun a hE=>Zc hE rfl fun a hE=>Ze ?_))
  obtain rfl:=Option.some.inj hF3
  exact wp_ret (ZP hE (by rfl) (ZR hE rfl) ⟨_,rfl,rfl,hM⟩)
def YF (s4 : (List (List UInt8)) × Int × Int) : Option (Fl ((List (List UInt8)) × Int × Int) ((List (List UInt8)) × Int)) :=
 if (decide (s4.2.2 < (s4.1.length : Int))) = true then ((idx s4.1 s4.2.2).bind fun x9=>(XC x9 s4.2.1).bind fun r16=>some (Fl.nx ((s4.1.set (s4.2.2).toNat r16.1),r16.2,wr (s4.2.2 + 1)))) else (some (Fl.ex (s4.1,s4.2.1)))
def Xf (p0 : (List (List UInt8))) (p1 : Int) : Option ((List (List UInt8)) × Int) :=
 (Zz (YF) (p0,p1,0)).bind fun j1=>some (j1.1,j1.2)
theorem KW (St : Nat → Prop) (W w0 : World) (its : List Item) (p0 : (List (List UInt8))) (v0_1 : Value) (p1 : Int) (hM : M St W w0 (own NoB (p0 : (List (List UInt8))) [v0_1] :: its)) (r : (List (List UInt8)) × Int) (hF : Xf p0 p1 = some r) :
  Calls Tryz.prog 58 [v0_1,vI p1].toArray w0 (fun en w'=>∃ v,en = .returned v ∧ (v = (vI r.2) ∧ M St W w' (own NoB (r.1 : (List (List UInt8))) [v0_1] :: its))):=by
 refine ce Tryz.func58 ?_
 intro a hE
 unfold Xf at hF
 refine Zb (Zc hE rfl fun a hE=>Ze (wp_seq (Zb (Zc hE rfl fun a hE=>Ze ?_))))
 obtain ⟨j1,hl2,hF3⟩:=bind_some hF
 refine ZM (fun a w=>Env 19 a [(0,v0_1),(1,vI j1.2)] ∧ M St W w (own NoB (j1.1 : (List (List UInt8))) [v0_1] :: its)) ?_ ?_
 ·skip
  refine wp_block ?_
  refine ZE (fun (s4 : (List (List UInt8)) × Int × Int) a w=>Env 19 a [(0,v0_1),(1,vI s4.2.1),(5,vI s4.2.2)] ∧ M St W w (own NoB (s4.1 : (List (List UInt8))) [v0_1] :: its)) hl2 ⟨hE.sub ⟨rfl,rfl,rfl,trivial⟩,hM⟩ ?_
  rintro s4 a w ⟨hE,hM⟩ o7 hs5 hx6
  unfold YF at hs5
  refine wp_seq (Zb (Zd hE rfl fun a hE=>Zd hE rfl fun a hE=>Z7 hE rfl Tryz.underlying23 (hM.ro (pre:=[]) noB) fun a hE=>Zg hE rfl rfl rfl fun a hE=>Ze ?_))
  refine Zo hE rfl ?_ ?_
  ·intro hb8
   have hs5:=Zs hs5 hb8
   refine wp_skip (Zp (wp_seq (wp_block (wp_region_lit (Zd hE rfl fun a hE=>Zd hE rfl ?_))))); intro a hE
   obtain ⟨x9,hi11,hs5⟩:=bix hs5
   refine Z9 hE rfl rfl Tryz.underlying23 XQ (hM.ro (pre:=[]) noB) hi11.1 ?_; intro a hE
   have hM:=(hM.toOsl (List.getElem?_eq_some_iff.1 hi11.2).1).open1 noB hi11.2
   obtain ⟨cs12,hM,hA13⟩:=hM
   obtain ⟨_,hx,_⟩:=hM.head
   obtain ⟨u14,rfl⟩:=Vx hx
   refine ZA (v:=u14) hE rfl XQ rfl hA13 fun a hE=>Zd hE rfl ?_; intro a hE
   obtain ⟨r16,e17,hs5⟩:=bind_some hs5
   refine Zy hE rfl (cbm Tryz.func22) (Jf _ _ _ _ x9 u14 s4.2.1 hM r16 e17) ?_
   rintro v w a ⟨rfl,hM⟩ hE
   have hM:=(hM.pull1.pull1.close1 noB).toOwn noB
   refine Zc hE rfl fun a hE=>Zf (Yc (Zp (wp_region_lit (Zd hE rfl fun a hE=>Zg hE rfl rfl rfl fun a hE=>Zc hE rfl fun a hE=>Zf (Zh ?_)))))
   exact ⟨_,(ois hs5),hE.sub ⟨rfl,rfl,rfl,trivial⟩,hM⟩
  ·intro hb8
   have hs5:=Zt hs5 hb8
   refine wp_exit (Zm (Zm (Yb ?_)))
   obtain rfl:=hx6 _ (ois hs5)
   refine Zh ?_
   exact ⟨hE.sub ⟨rfl,rfl,trivial⟩,hM⟩
 ·skip
  rintro a w ⟨hE,hM⟩
  refine Zp (Zb (Zd hE rfl fun a hE=>Zc hE rfl fun a hE=>Ze ?_))
  obtain rfl:=Option.some.inj hF3
  exact wp_ret (ZP hE (by rfl) (ZR hE rfl) ⟨_,rfl,rfl,hM⟩)
def YA (s4 : (List Int) × Int × Int) : Option (Fl ((List Int) × Int × Int) ((List Int) × Int)) :=
 if (decide (s4.2.2 < (s4.1.length : Int))) = true then ((idx s4.1 s4.2.2).bind fun x9=>some (Fl.nx ((s4.1.set (s4.2.2).toNat s4.2.1),wr (s4.2.1 + 1),wr (s4.2.2 + 1)))) else (some (Fl.ex (s4.1,s4.2.1)))
def Y8 (p0 : (List Int)) (p1 : Int) : Option ((List Int) × Int) :=
 (Zz (YA) (p0,p1,0)).bind fun j1=>some (j1.1,j1.2)
theorem KL (St : Nat → Prop) (W w0 : World) (its : List Item) (p0 : (List Int)) (v0_1 : Value) (p1 : Int) (hM : M St W w0 (own NoB (p0 : (List Int)) [v0_1] :: its)) (r : (List Int) × Int) (hF : Y8 p0 p1 = some r) :
  Calls Tryz.prog 59 [v0_1,vI p1].toArray w0 (fun en w'=>∃ v,en = .returned v ∧ (v = (vI r.2) ∧ M St W w' (own NoB (r.1 : (List Int)) [v0_1] :: its))):=by
 refine ce Tryz.func59 ?_
 intro a hE
 unfold Y8 at hF
 refine Zb (Zc hE rfl fun a hE=>Ze (wp_seq (Zb (Zc hE rfl fun a hE=>Ze ?_))))
 obtain ⟨j1,hl2,hF3⟩:=bind_some hF
 refine ZM (fun a w=>Env 19 a [(0,v0_1),(1,vI j1.2)] ∧ M St W w (own NoB (j1.1 : (List Int)) [v0_1] :: its)) ?_ ?_
 ·skip
  refine wp_block ?_
  refine ZE (fun (s4 : (List Int) × Int × Int) a w=>Env 19 a [(0,v0_1),(1,vI s4.2.1),(5,vI s4.2.2)] ∧ M St W w (own NoB (s4.1 : (List Int)) [v0_1] :: its)) hl2 ⟨hE.sub ⟨rfl,rfl,rfl,trivial⟩,hM⟩ ?_
  rintro s4 a w ⟨hE,hM⟩ o7 hs5 hx6
  unfold YA at hs5
  refine wp_seq (Zb (Zd hE rfl fun a hE=>Zd hE rfl fun a hE=>Z7 hE rfl Tryz.underlying24 (hM.ro (pre:=[]) noB) fun a hE=>Zg hE rfl rfl rfl fun a hE=>Ze ?_))
  refine Zo hE rfl ?_ ?_
  ·intro hb8
   have hs5:=Zs hs5 hb8
   refine wp_skip (Zp (wp_seq (wp_block (Zb (Zd hE rfl fun a hE=>Zd hE rfl fun a hE=>Zd hE rfl ?_))))); intro a hE
   obtain ⟨x9,hi11,hs5⟩:=bix hs5
   refine Z9 hE rfl rfl Tryz.underlying24 ty2 (hM.ro (pre:=[]) noB) hi11.1 ?_; intro a hE
   have hM:=hM.toOsl (List.getElem?_eq_some_iff.1 hi11.2).1
   refine Tv (i:=(s4.2.2).toNat) (k0:=0) (seg:=[vI s4.2.1]) (xo:=x9) (xn:=s4.2.1) hE hM Za rfl rfl rfl ty2 rfl (Flat.cell (s4.2.1 : Int)) hi11.2 (Qn (m:=1) rfl (by decide)) (Zk rfl) ?_; intro w a hM hE
   have hM:=hM.toOwn noB
   refine Ze (wp_region_lit (Zd hE rfl fun a hE=>Zg hE rfl rfl rfl fun a hE=>Zc hE rfl fun a hE=>Zf (Yc (Zp (wp_region_lit (Zd hE rfl fun a hE=>Zg hE rfl rfl rfl fun a hE=>Zc hE rfl fun a hE=>Zf (Zh ?_)))))))
   exact ⟨_,(ois hs5),hE.sub ⟨rfl,rfl,rfl,trivial⟩,hM⟩
  ·intro hb8
   have hs5:=Zt hs5 hb8
   refine wp_exit (Zm (Zm (Yb ?_)))
   obtain rfl:=hx6 _ (ois hs5)
   refine Zh ?_
   exact ⟨hE.sub ⟨rfl,rfl,trivial⟩,hM⟩
 ·skip
  rintro a w ⟨hE,hM⟩
  refine Zp (Zb (Zd hE rfl fun a hE=>Zc hE rfl fun a hE=>Ze ?_))
  obtain rfl:=Option.some.inj hF3
  exact wp_ret (ZP hE (by rfl) (ZR hE rfl) ⟨_,rfl,rfl,hM⟩)
def Y2 (p0 : GBlobs) (p1 : Int) : Option (GBlobs × Int) :=
 (YW p0.Keys p1).bind fun r3=>(Xf p0.Data r3.2).bind fun r5=>(Y8 p0.Counts r5.2).bind fun r7=>some ((⟨r3.1,r5.1,r7.1⟩ : GBlobs),r7.2)
theorem Qe (St : Nat → Prop) (W w0 : World) (its : List Item) (p0 : GBlobs) (v0_1 : Value) (v0_2 : Value) (v0_3 : Value) (p1 : Int) (hM : M St W w0 (own NoB (p0.Keys : (List (Vector UInt8 32))) [v0_1] :: own NoB (p0.Data : (List (List UInt8))) [v0_2] :: own NoB (p0.Counts : (List Int)) [v0_3] :: its)) (r : GBlobs × Int) (hF : Y2 p0 p1 = some r) :
  Calls Tryz.prog 15 [(Value.agg (cat [[v0_1],[v0_2],[v0_3]]).toArray),vI p1].toArray w0 (fun en w'=>∃ v,en = .returned v ∧ (v = (vI r.2) ∧ M St W w' (own NoB (r.1.Keys : (List (Vector UInt8 32))) [v0_1] :: own NoB (r.1.Data : (List (List UInt8))) [v0_2] :: own NoB (r.1.Counts : (List Int)) [v0_3] :: its))):=by
 refine ce Tryz.func15 ?_
 intro a hE
 unfold Y2 at hF
 refine Zb (ZZ (cs:=cat [[v0_1],[v0_2],[v0_3]]) hE hM Za ld rfl rfl fun b1 w a hM hE=>Zc hE rfl fun a hE=>Ze (Zb (Zw hE rfl (X1) fun a hE=>ZA (v:=v0_1) hE rfl Tu rfl (At.cat (pre:=[]) hM.rawAt0 cl0) fun a hE=>Zd hE rfl ?_))); intro a hE
 have hM:=hM.pull1
 obtain ⟨r3,e4,hF⟩:=bind_some hF
 refine Zy hE rfl (cbm Tryz.func57) (Kk _ _ _ _ p0.Keys v0_1 p1 hM r3 e4) ?_
 rintro v w a ⟨rfl,hM⟩ hE
 refine Zc hE rfl fun a hE=>Ze (Zb (Zw hE rfl (X5) fun a hE=>ZA (v:=v0_2) hE rfl Tg rfl (At.cat (pre:=[[v0_1]]) hM.rawAt1 ck) fun a hE=>Zd hE rfl ?_)); intro a hE
 have hM:=hM.pull2
 obtain ⟨r5,e6,hF⟩:=bind_some hF
 refine Zy hE rfl (cbm Tryz.func58) (KW _ _ _ _ p0.Data v0_2 r3.2 hM r5 e6) ?_
 rintro v w a ⟨rfl,hM⟩ hE
 refine Zc hE rfl fun a hE=>Ze (Zb (Zw hE rfl (X2) fun a hE=>ZA (v:=v0_3) hE rfl U3 rfl (At.cat (pre:=[[v0_1],[v0_2]]) hM.rawAt2 ck) fun a hE=>Zd hE rfl ?_)); intro a hE
 have hM:=hM.pull3
 obtain ⟨r7,e8,hF⟩:=bind_some hF
 refine Zy hE rfl (cbm Tryz.func59) (KL _ _ _ _ p0.Counts v0_3 r5.2 hM r7 e8) ?_
 rintro v w a ⟨rfl,hM⟩ hE
 refine Zc hE rfl fun a hE=>Ze (Zb (Zd hE rfl fun a hE=>Zc hE rfl fun a hE=>Ze ?_))
 obtain rfl:=Option.some.inj hF
 have hM:=(hM.pull1.pull2.pull3).drop
 exact wp_ret (ZP hE (by rfl) (ZR hE rfl) ⟨_,rfl,rfl,hM⟩)
def W6 (p0 : (List (Vector UInt8 32))) (s5 : Int × Int) (s14 : Int × Int) : Option (Fl (Int × Int) (Fl Int Int)) :=
 if (decide (s14.2 < 32)) = true then ((idx p0 s5.2).bind fun x19=>(ZI x19 s14.2).bind fun x23=>if (x23 != (ZG s14.1)) = true then (some (Fl.ex (Fl.ex (-1)))) else (some (Fl.nx (wr (s14.1 + 1),wr (s14.2 + 1))))) else (some (Fl.ex (Fl.nx s14.1)))
def Wb (p0 : (List (Vector UInt8 32))) (s5 : Int × Int) : Option (Fl (Int × Int) (Fl Int Int)) :=
 if (decide (s5.2 < (p0.length : Int))) = true then ((Zz (W6 p0 s5) (s5.1,0)).bind fun j10=>j10.el (fun s13=>some (Fl.nx (s13,wr (s5.2 + 1)))) (fun r=>some (Fl.ex (Fl.ex r)))) else (some (Fl.ex (Fl.nx s5.1)))
def WC (p0 : (List (Vector UInt8 32))) (p1 : Int) : Option (Int) :=
 (Zz (Wb p0) (p1,0)).bind fun j1=>j1.el (fun s4=>some s4) (fun r=>some r)
theorem Kl (w0 : World) (p0 : (List (Vector UInt8 32))) (v0_1 : Value) (hv0_1 : Ro w0 p0 [v0_1]) (p1 : Int) (r : Int) (hF : WC p0 p1 = some r) :
  Calls Tryz.prog 60 [v0_1,vI p1].toArray w0 (Rt w0 (vI r)):=by
 refine ce Tryz.func60 ?_
 intro a hE
 have hM:=M.start w0
 unfold WC at hF
 refine Zb (Zc hE rfl fun a hE=>Ze (wp_seq (Zb (Zc hE rfl fun a hE=>Ze ?_))))
 obtain ⟨j1,hl2,hF3⟩:=bind_some hF
 refine ZM (fun a w=>∃ s4 : Int,j1 = Fl.nx s4 ∧ Env 29 a [(1,vI s4)] ∧ M (Old w0) w0 w []) ?_ ?_
 ·skip
  refine wp_block ?_
  refine ZE (fun (s5 : Int × Int) a w=>Env 29 a [(0,v0_1),(1,vI s5.1),(5,vI s5.2)] ∧ M (Old w0) w0 w []) hl2 ⟨hE.sub ⟨rfl,rfl,rfl,trivial⟩,hM⟩ ?_
  rintro s5 a w ⟨hE,hM⟩ o8 hs6 hx7
  unfold Wb at hs6
  refine wp_seq (Zb (Zd hE rfl fun a hE=>Zd hE rfl fun a hE=>Z7 hE rfl Tryz.underlying29 (hM.rd hv0_1) fun a hE=>Zg hE rfl rfl rfl fun a hE=>Ze ?_))
  refine Zo hE rfl ?_ ?_
  ·intro hb9
   have hs6:=Zs hs6 hb9
   refine wp_skip (Zp (wp_seq (wp_block (Zb (Zc hE rfl fun a hE=>Ze ?_)))))
   obtain ⟨j10,hl11,hF12⟩:=bind_some hs6
   refine ZM (fun a w=>∃ s13 : Int,j10 = Fl.nx s13 ∧ Env 29 a [(0,v0_1),(1,vI s13),(5,vI s5.2)] ∧ M (Old w0) w0 w []) ?_ ?_
   ·skip
    refine wp_block ?_
    refine ZE (fun (s14 : Int × Int) a w=>Env 29 a [(0,v0_1),(1,vI s14.1),(5,vI s5.2),(6,vI s14.2)] ∧ M (Old w0) w0 w []) hl11 ⟨hE.sub ⟨rfl,rfl,rfl,rfl,trivial⟩,hM⟩ ?_
    rintro s14 a w ⟨hE,hM⟩ o17 hs15 hx16
    unfold W6 at hs15
    refine wp_seq (Zb (Zd hE rfl fun a hE=>Zg hE rfl rfl rfl fun a hE=>Ze ?_))
    refine Zo hE rfl ?_ ?_
    ·intro hb18
     have hs15:=Zs hs15 hb18
     refine wp_skip (Zp (wp_seq (wp_block (wp_seq (Zb (Zd hE rfl fun a hE=>Zd hE rfl fun a hE=>Zd hE rfl ?_)))))); intro a hE
     obtain ⟨x19,hi21,hs15⟩:=bix hs15
     refine Z9 hE rfl rfl Tryz.underlying29 Z3 (hM.rd hv0_1) hi21.1 ?_; intro a hE
     obtain ⟨x23,hi22,hs15⟩:=bvx hs15
     refine ZF hE rfl rfl Tryz.underlying35 ty5 hi22.1 fun a hE=>ZA (v:=(vB x23)) hE rfl ty5 rfl (At.vec (Yl (hM.rd hv0_1) hi21.2) hi22.2) fun a hE=>Zd hE rfl fun a hE=>Xb hE Za ld rfl Tryz.underlying3 Tryz.underlying5 fun a hE=>Zg hE rfl rfl (Jh x23 (ZG s14.1)) fun a hE=>Ze ?_
     refine Zo hE rfl ?_ ?_
     ·intro hb25
      have hs15:=Zs hs15 hb25
      refine Zb (Zc hE rfl fun a hE=>Ze ?_)
      obtain rfl:=hx16 _ (ois hs15)
      obtain rfl:=hx7 _ (ois hF12)
      obtain rfl:=Option.some.inj hF3
      exact wp_ret (Zx (XW (Zx (Zx (XW (Zx (XW (Zx (Zx (XW (Zx (Zx (kr1 hE rfl rfl hM.kept)))))))))))))
     ·intro hb25
      have hs15:=Zt hs15 hb25
      refine wp_skip (Zp (wp_region_lit (Zd hE rfl fun a hE=>Zg hE rfl rfl rfl fun a hE=>Zc hE rfl fun a hE=>Zf (Yc (Zp (wp_region_lit (Zd hE rfl fun a hE=>Zg hE rfl rfl rfl fun a hE=>Zc hE rfl fun a hE=>Zf (Zh ?_))))))))
      exact ⟨_,(ois hs15),hE.sub ⟨rfl,rfl,rfl,rfl,trivial⟩,hM⟩
    ·intro hb18
     have hs15:=Zt hs15 hb18
     refine wp_exit (Zm (Zm (Yb ?_)))
     obtain rfl:=hx16 _ (ois hs15)
     refine Zh ?_
     exact ⟨s14.1,rfl,hE.sub ⟨rfl,rfl,rfl,trivial⟩,hM⟩
   ·skip
    rintro a w ⟨s13,ht,hE,hM⟩
    subst ht
    have hF12:=Tw hF12
    refine Yc (Zp (wp_region_lit (Zd hE rfl fun a hE=>Zg hE rfl rfl rfl fun a hE=>Zc hE rfl fun a hE=>Zf (Zh ?_))))
    exact ⟨_,(ois hF12),hE.sub ⟨rfl,rfl,rfl,trivial⟩,hM⟩
  ·intro hb9
   have hs6:=Zt hs6 hb9
   refine wp_exit (Zm (Zm (Yb ?_)))
   obtain rfl:=hx7 _ (ois hs6)
   refine Zh ?_
   exact ⟨s5.1,rfl,hE.sub ⟨rfl,trivial⟩,hM⟩
 ·skip
  rintro a w ⟨s4,ht,hE,hM⟩
  subst ht
  have hF3:=Tw hF3
  refine Zp (Zb (Zd hE rfl fun a hE=>Zc hE rfl fun a hE=>Ze ?_))
  obtain rfl:=Option.some.inj hF3
  exact wp_ret (kr1 hE rfl rfl hM.kept)
def W1 (p0 : (List UInt8)) (s5 : Int × Int) : Option (Fl (Int × Int) (Fl Int Int)) :=
 if (decide (s5.2 < (p0.length : Int))) = true then ((idx p0 s5.2).bind fun x10=>if (x10 != (ZG s5.1)) = true then (some (Fl.ex (Fl.ex (-1)))) else (some (Fl.nx (wr (s5.1 + 1),wr (s5.2 + 1))))) else (some (Fl.ex (Fl.nx s5.1)))
def Vu (p0 : (List UInt8)) (p1 : Int) : Option (Int) :=
 (Zz (W1 p0) (p1,0)).bind fun j1=>j1.el (fun s4=>some s4) (fun r=>some r)
theorem Jm (w0 : World) (p0 : (List UInt8)) (v0_1 : Value) (hv0_1 : Ro w0 p0 [v0_1]) (p1 : Int) (r : Int) (hF : Vu p0 p1 = some r) :
  Calls Tryz.prog 123 [v0_1,vI p1].toArray w0 (Rt w0 (vI r)):=by
 refine ce Tryz.func123 ?_
 intro a hE
 have hM:=M.start w0
 unfold Vu at hF
 refine Zb (Zc hE rfl fun a hE=>Ze (wp_seq (Zb (Zc hE rfl fun a hE=>Ze ?_))))
 obtain ⟨j1,hl2,hF3⟩:=bind_some hF
 refine ZM (fun a w=>∃ s4 : Int,j1 = Fl.nx s4 ∧ Env 22 a [(1,vI s4)] ∧ M (Old w0) w0 w []) ?_ ?_
 ·skip
  refine wp_block ?_
  refine ZE (fun (s5 : Int × Int) a w=>Env 22 a [(0,v0_1),(1,vI s5.1),(5,vI s5.2)] ∧ M (Old w0) w0 w []) hl2 ⟨hE.sub ⟨rfl,rfl,rfl,trivial⟩,hM⟩ ?_
  rintro s5 a w ⟨hE,hM⟩ o8 hs6 hx7
  unfold W1 at hs6
  refine wp_seq (Zb (Zd hE rfl fun a hE=>Zd hE rfl fun a hE=>Z7 hE rfl Tryz.underlying40 (hM.rd hv0_1) fun a hE=>Zg hE rfl rfl rfl fun a hE=>Ze ?_))
  refine Zo hE rfl ?_ ?_
  ·intro hb9
   have hs6:=Zs hs6 hb9
   refine wp_skip (Zp (wp_seq (wp_block (wp_seq (Zb (Zd hE rfl fun a hE=>Zd hE rfl ?_)))))); intro a hE
   obtain ⟨x10,hi12,hs6⟩:=bix hs6
   refine Z9 hE rfl rfl Tryz.underlying40 ty5 (hM.rd hv0_1) hi12.1 fun a hE=>ZA (v:=(vB x10)) hE rfl ty5 rfl (Yl (hM.rd hv0_1) hi12.2) fun a hE=>Zd hE rfl fun a hE=>Xb hE Za ld rfl Tryz.underlying3 Tryz.underlying5 fun a hE=>Zg hE rfl rfl (Jh x10 (ZG s5.1)) fun a hE=>Ze ?_
   refine Zo hE rfl ?_ ?_
   ·intro hb13
    have hs6:=Zs hs6 hb13
    refine Zb (Zc hE rfl fun a hE=>Ze ?_)
    obtain rfl:=hx7 _ (ois hs6)
    obtain rfl:=Option.some.inj hF3
    exact wp_ret (Zx (XW (Zx (Zx (XW (Zx (Zx (kr1 hE rfl rfl hM.kept))))))))
   ·intro hb13
    have hs6:=Zt hs6 hb13
    refine wp_skip (Zp (wp_region_lit (Zd hE rfl fun a hE=>Zg hE rfl rfl rfl fun a hE=>Zc hE rfl fun a hE=>Zf (Yc (Zp (wp_region_lit (Zd hE rfl fun a hE=>Zg hE rfl rfl rfl fun a hE=>Zc hE rfl fun a hE=>Zf (Zh ?_))))))))
    exact ⟨_,(ois hs6),hE.sub ⟨rfl,rfl,rfl,trivial⟩,hM⟩
  ·intro hb9
   have hs6:=Zt hs6 hb9
   refine wp_exit (Zm (Zm (Yb ?_)))
   obtain rfl:=hx7 _ (ois hs6)
   refine Zh ?_
   exact ⟨s5.1,rfl,hE.sub ⟨rfl,trivial⟩,hM⟩
 ·skip
  rintro a w ⟨s4,ht,hE,hM⟩
  subst ht
  have hF3:=Tw hF3
  refine Zp (Zb (Zd hE rfl fun a hE=>Zc hE rfl fun a hE=>Ze ?_))
  obtain rfl:=Option.some.inj hF3
  exact wp_ret (kr1 hE rfl rfl hM.kept)
def WA (p0 : (List (List UInt8))) (s5 : Int × Int) : Option (Fl (Int × Int) (Fl Int Int)) :=
 if (decide (s5.2 < (p0.length : Int))) = true then ((idx p0 s5.2).bind fun x10=>(Vu x10 s5.1).bind fun r18=>if (decide (r18 < 0)) = true then (some (Fl.ex (Fl.ex (-1)))) else (some (Fl.nx (r18,wr (s5.2 + 1))))) else (some (Fl.ex (Fl.nx s5.1)))
def WV (p0 : (List (List UInt8))) (p1 : Int) : Option (Int) :=
 (Zz (WA p0) (p1,0)).bind fun j1=>j1.el (fun s4=>some s4) (fun r=>some r)
theorem Ja (w0 : World) (p0 : (List (List UInt8))) (v0_1 : Value) (hv0_1 : Ro w0 p0 [v0_1]) (p1 : Int) (r : Int) (hF : WV p0 p1 = some r) :
  Calls Tryz.prog 61 [v0_1,vI p1].toArray w0 (Rt w0 (vI r)):=by
 refine ce Tryz.func61 ?_
 intro a hE
 have hM:=M.start w0
 unfold WV at hF
 refine Zb (Zc hE rfl fun a hE=>Ze (wp_seq (Zb (Zc hE rfl fun a hE=>Ze ?_))))
 obtain ⟨j1,hl2,hF3⟩:=bind_some hF
 refine ZM (fun a w=>∃ s4 : Int,j1 = Fl.nx s4 ∧ Env 21 a [(1,vI s4)] ∧ M (Old w0) w0 w []) ?_ ?_
 ·skip
  refine wp_block ?_
  refine ZE (fun (s5 : Int × Int) a w=>Env 21 a [(0,v0_1),(1,vI s5.1),(5,vI s5.2)] ∧ M (Old w0) w0 w []) hl2 ⟨hE.sub ⟨rfl,rfl,rfl,trivial⟩,hM⟩ ?_
  rintro s5 a w ⟨hE,hM⟩ o8 hs6 hx7
  unfold WA at hs6
  refine wp_seq (Zb (Zd hE rfl fun a hE=>Zd hE rfl fun a hE=>Z7 hE rfl Tryz.underlying23 (hM.rd hv0_1) fun a hE=>Zg hE rfl rfl rfl fun a hE=>Ze ?_))
  refine Zo hE rfl ?_ ?_
  ·intro hb9
   have hs6:=Zs hs6 hb9
   refine wp_skip (Zp (wp_seq (wp_block (Zb (Zd hE rfl fun a hE=>Zd hE rfl ?_))))); intro a hE
   obtain ⟨x10,hi12,hs6⟩:=bix hs6
   refine Z9 hE rfl rfl Tryz.underlying23 XQ (hM.rd hv0_1) hi12.1 ?_; intro a hE
   obtain ⟨cs13,hs14,hA15⟩:=UO hv0_1 hi12.2 -- ^
   obtain ⟨u16,rfl⟩:=Vx hs14 -- ^
   have h17:=hs14 -- ^
   refine ZA (v:=u16) hE rfl XQ rfl (hM.atk hA15 (US hv0_1 hi12.2)) fun a hE=>Zd hE rfl ?_; intro a hE
   obtain ⟨r18,e19,hs6⟩:=bind_some hs6
   refine Zy hE rfl (cbm Tryz.func123) (Jm _ x10 u16 (hM.rdo h17) s5.1 r18 e19) ?_
   rintro v w a ⟨rfl,hK⟩ hE
   have hM:=hM.keep hK
   refine Zc hE rfl fun a hE=>Ze (Zb (Zd hE rfl fun a hE=>Zg hE rfl rfl rfl fun a hE=>Ze ?_))
   refine Zo hE rfl ?_ ?_
   ·intro hb20
    have hs6:=Zs hs6 hb20
    refine Zb (Zc hE rfl fun a hE=>Ze ?_)
    obtain rfl:=hx7 _ (ois hs6)
    obtain rfl:=Option.some.inj hF3
    exact wp_ret (XW (Zx (Zx (XW (Zx (Zx (kr1 hE rfl rfl hM.kept)))))))
   ·intro hb20
    have hs6:=Zt hs6 hb20
    refine wp_skip (Yc (Zp (wp_region_lit (Zd hE rfl fun a hE=>Zg hE rfl rfl rfl fun a hE=>Zc hE rfl fun a hE=>Zf (Zh ?_)))))
    exact ⟨_,(ois hs6),hE.sub ⟨rfl,rfl,rfl,trivial⟩,hM⟩
  ·intro hb9
   have hs6:=Zt hs6 hb9
   refine wp_exit (Zm (Zm (Yb ?_)))
   obtain rfl:=hx7 _ (ois hs6)
   refine Zh ?_
   exact ⟨s5.1,rfl,hE.sub ⟨rfl,trivial⟩,hM⟩
 ·skip
  rintro a w ⟨s4,ht,hE,hM⟩
  subst ht
  have hF3:=Tw hF3
  refine Zp (Zb (Zd hE rfl fun a hE=>Zc hE rfl fun a hE=>Ze ?_))
  obtain rfl:=Option.some.inj hF3
  exact wp_ret (kr1 hE rfl rfl hM.kept)
def WB (p0 : (List Int)) (s5 : Int × Int) : Option (Fl (Int × Int) (Fl Int Int)) :=
 if (decide (s5.2 < (p0.length : Int))) = true then ((idx p0 s5.2).bind fun x10=>if (x10 != s5.1) = true then (some (Fl.ex (Fl.ex (-1)))) else (some (Fl.nx (wr (s5.1 + 1),wr (s5.2 + 1))))) else (some (Fl.ex (Fl.nx s5.1)))
def W0 (p0 : (List Int)) (p1 : Int) : Option (Int) :=
 (Zz (WB p0) (p1,0)).bind fun j1=>j1.el (fun s4=>some s4) (fun r=>some r)
theorem KZ (w0 : World) (p0 : (List Int)) (v0_1 : Value) (hv0_1 : Ro w0 p0 [v0_1]) (p1 : Int) (r : Int) (hF : W0 p0 p1 = some r) :
  Calls Tryz.prog 62 [v0_1,vI p1].toArray w0 (Rt w0 (vI r)):=by
 refine ce Tryz.func62 ?_
 intro a hE
 have hM:=M.start w0
 unfold W0 at hF
 refine Zb (Zc hE rfl fun a hE=>Ze (wp_seq (Zb (Zc hE rfl fun a hE=>Ze ?_))))
 obtain ⟨j1,hl2,hF3⟩:=bind_some hF
 refine ZM (fun a w=>∃ s4 : Int,j1 = Fl.nx s4 ∧ Env 21 a [(1,vI s4)] ∧ M (Old w0) w0 w []) ?_ ?_
 ·skip
  refine wp_block ?_
  refine ZE (fun (s5 : Int × Int) a w=>Env 21 a [(0,v0_1),(1,vI s5.1),(5,vI s5.2)] ∧ M (Old w0) w0 w []) hl2 ⟨hE.sub ⟨rfl,rfl,rfl,trivial⟩,hM⟩ ?_
  rintro s5 a w ⟨hE,hM⟩ o8 hs6 hx7
  unfold WB at hs6
  refine wp_seq (Zb (Zd hE rfl fun a hE=>Zd hE rfl fun a hE=>Z7 hE rfl Tryz.underlying24 (hM.rd hv0_1) fun a hE=>Zg hE rfl rfl rfl fun a hE=>Ze ?_))
  refine Zo hE rfl ?_ ?_
  ·intro hb9
   have hs6:=Zs hs6 hb9
   refine wp_skip (Zp (wp_seq (wp_block (wp_seq (Zb (Zd hE rfl fun a hE=>Zd hE rfl ?_)))))); intro a hE
   obtain ⟨x10,hi12,hs6⟩:=bix hs6
   refine Z9 hE rfl rfl Tryz.underlying24 ty2 (hM.rd hv0_1) hi12.1 fun a hE=>ZA (v:=(vI x10)) hE rfl ty2 rfl (Yl (hM.rd hv0_1) hi12.2) fun a hE=>Zd hE rfl fun a hE=>Zg hE rfl rfl rfl fun a hE=>Ze ?_
   refine Zo hE rfl ?_ ?_
   ·intro hb13
    have hs6:=Zs hs6 hb13
    refine Zb (Zc hE rfl fun a hE=>Ze ?_)
    obtain rfl:=hx7 _ (ois hs6)
    obtain rfl:=Option.some.inj hF3
    exact wp_ret (Zx (XW (Zx (Zx (XW (Zx (Zx (kr1 hE rfl rfl hM.kept))))))))
   ·intro hb13
    have hs6:=Zt hs6 hb13
    refine wp_skip (Zp (wp_region_lit (Zd hE rfl fun a hE=>Zg hE rfl rfl rfl fun a hE=>Zc hE rfl fun a hE=>Zf (Yc (Zp (wp_region_lit (Zd hE rfl fun a hE=>Zg hE rfl rfl rfl fun a hE=>Zc hE rfl fun a hE=>Zf (Zh ?_))))))))
    exact ⟨_,(ois hs6),hE.sub ⟨rfl,rfl,rfl,trivial⟩,hM⟩
  ·intro hb9
   have hs6:=Zt hs6 hb9
   refine wp_exit (Zm (Zm (Yb ?_)))
   obtain rfl:=hx7 _ (ois hs6)
   refine Zh ?_
   exact ⟨s5.1,rfl,hE.sub ⟨rfl,trivial⟩,hM⟩
 ·skip
  rintro a w ⟨s4,ht,hE,hM⟩
  subst ht
  have hF3:=Tw hF3
  refine Zp (Zb (Zd hE rfl fun a hE=>Zc hE rfl fun a hE=>Ze ?_))
  obtain rfl:=Option.some.inj hF3
  exact wp_ret (kr1 hE rfl rfl hM.kept)
def Wn (p0 : GBlobs) (p1 : Int) : Option (Int) :=
 (WC p0.Keys p1).bind fun r3=>if (decide (r3 < 0)) = true then (some (-1)) else ((WV p0.Data r3).bind fun r6=>if (decide (r6 < 0)) = true then (some (-1)) else ((W0 p0.Counts r6).bind fun r9=>if (decide (r9 < 0)) = true then (some (-1)) else (some r9)))
theorem Qk (w0 : World) (p0 : GBlobs) (v0_1 : Value) (hv0_1 : Ro w0 p0.Keys [v0_1]) (v0_2 : Value) (hv0_2 : Ro w0 p0.Data [v0_2]) (v0_3 : Value) (hv0_3 : Ro w0 p0.Counts [v0_3]) (p1 : Int) (r : Int) (hF : Wn p0 p1 = some r) :
  Calls Tryz.prog 16 [(Value.agg (cat [[v0_1],[v0_2],[v0_3]]).toArray),vI p1].toArray w0 (Rt w0 (vI r)):=by
 refine ce Tryz.func16 ?_
 intro a hE
 have hM:=M.start w0
 unfold Wn at hF
 refine Zb (ZZ (cs:=cat [[v0_1],[v0_2],[v0_3]]) hE hM Za ld rfl rfl fun b1 w a hM hE=>Zc hE rfl fun a hE=>Ze (Zb (Zw hE rfl (X1) fun a hE=>ZA (v:=v0_1) hE rfl Tu rfl (At.cat (pre:=[]) hM.rawAt0 cl0) fun a hE=>Zd hE rfl ?_))); intro a hE
 obtain ⟨r3,e4,hF⟩:=bind_some hF
 refine Zy hE rfl (cbm Tryz.func60) (Kl _ p0.Keys v0_1 (hM.rdo hv0_1) p1 r3 e4) ?_
 rintro v w a ⟨rfl,hK⟩ hE
 have hM:=hM.keep hK
 refine Zc hE rfl fun a hE=>Ze (wp_seq (Zb (Zd hE rfl fun a hE=>Zg hE rfl rfl rfl fun a hE=>Ze ?_)))
 refine Zo hE rfl ?_ ?_
 ·intro hb5
  have hF:=Zs hF hb5
  refine Zb (Zc hE rfl fun a hE=>Ze ?_)
  obtain rfl:=Option.some.inj hF
  exact wp_ret (Zx (kr1 hE rfl rfl hM.kept))
 ·intro hb5
  have hF:=Zt hF hb5
  refine wp_skip (Zp (Zb (Zw hE rfl (X5) fun a hE=>ZA (v:=v0_2) hE rfl Tg rfl (At.cat (pre:=[[v0_1]]) hM.rawAt0 ck) fun a hE=>Zd hE rfl ?_))); intro a hE
  obtain ⟨r6,e7,hF⟩:=bind_some hF
  refine Zy hE rfl (cbm Tryz.func61) (Ja _ p0.Data v0_2 (hM.rdo hv0_2) r3 r6 e7) ?_
  rintro v w a ⟨rfl,hK⟩ hE
  have hM:=hM.keep hK
  refine Zc hE rfl fun a hE=>Ze (wp_seq (Zb (Zd hE rfl fun a hE=>Zg hE rfl rfl rfl fun a hE=>Ze ?_)))
  refine Zo hE rfl ?_ ?_
  ·intro hb8
   have hF:=Zs hF hb8
   refine Zb (Zc hE rfl fun a hE=>Ze ?_)
   obtain rfl:=Option.some.inj hF
   exact wp_ret (Zx (kr1 hE rfl rfl hM.kept))
  ·intro hb8
   have hF:=Zt hF hb8
   refine wp_skip (Zp (Zb (Zw hE rfl (X2) fun a hE=>ZA (v:=v0_3) hE rfl U3 rfl (At.cat (pre:=[[v0_1],[v0_2]]) hM.rawAt0 ck) fun a hE=>Zd hE rfl ?_))); intro a hE
   obtain ⟨r9,e10,hF⟩:=bind_some hF
   refine Zy hE rfl (cbm Tryz.func62) (KZ _ p0.Counts v0_3 (hM.rdo hv0_3) r6 r9 e10) ?_
   rintro v w a ⟨rfl,hK⟩ hE
   have hM:=hM.keep hK
   refine Zc hE rfl fun a hE=>Ze (wp_seq (Zb (Zd hE rfl fun a hE=>Zg hE rfl rfl rfl fun a hE=>Ze ?_)))
   refine Zo hE rfl ?_ ?_
   ·intro hb11
    have hF:=Zs hF hb11
    refine Zb (Zc hE rfl fun a hE=>Ze ?_)
    obtain rfl:=Option.some.inj hF
    exact wp_ret (Zx (kr1 hE rfl rfl hM.kept))
   ·intro hb11
    have hF:=Zt hF hb11
    refine wp_skip (Zp (Zb (Zd hE rfl fun a hE=>Zc hE rfl fun a hE=>Ze ?_)))
    obtain rfl:=Option.some.inj hF
    exact wp_ret (kr1 hE rfl rfl hM.kept)
def We (p0 : GBlobs) (p1 : (Vector UInt8 32)) : Option (Bool) :=
 (U5 p0 1048576).bind fun r5=>if (decide (r5 < 0)) = true then (some true) else ((XO p0).bind fun r9=>(YU p1).bind fun r15=>(VM r9 r15).bind fun r17=>(XO p0).bind fun r35=>(YU p1).bind fun r43=>(WP r35 r43).bind fun r45=>((XH r45.1 r17.1).bind fun r63=>if (!r63) = true then (some true) else (some (r45.2 != r17.2)) : Option (Bool)).bind fun j60=>if j60 = true then (some false) else (((XO p0).bind fun r73=>(XH r35 r73).bind fun r82=>some (!r82) : Option (Bool)).bind fun j69=>if j69 = true then (some false) else ((Y2 r35 1).bind fun r86=>(if (decide (r86.2 < 0)) = true then (some true) else ((XH r45.1 r17.1).bind fun r93=>if (!r93) = true then (some true) else (some (r45.2 != r17.2))) : Option (Bool)).bind fun j88=>if j88 = true then (some false) else ((Y2 r45.1 1).bind fun r99=>(Wn r99.1 1).bind fun r101=>if (decide (r101 < 0)) = true then (some false) else (if (r101 != r99.2) = true then (some false) else ((XO p0).bind fun r106=>(YU p1).bind fun r112=>(WP r106 r112).bind fun r114=>((XH r114.1 r17.1).bind fun r135=>if (!r135) = true then (some true) else (some (r114.2 != r17.2)) : Option (Bool)).bind fun j132=>if j132 = true then (some false) else ((Wn r99.1 1).bind fun r141=>if (decide (r141 < 0)) = true then (some false) else (if (r141 != r99.2) = true then (some false) else (some true)))))))))
theorem Qr (w0 : World) (p0 : GBlobs) (v0_1 : Value) (hv0_1 : Ro w0 p0.Keys [v0_1]) (v0_2 : Value) (hv0_2 : Ro w0 p0.Data [v0_2]) (v0_3 : Value) (hv0_3 : Ro w0 p0.Counts [v0_3]) (p1 : (Vector UInt8 32)) (r : Bool) (hF : We p0 p1 = some r) :
  Calls Tryz.prog 3 [(Value.agg (cat [[v0_1],[v0_2],[v0_3]]).toArray),(Value.agg (enc p1).toArray)].toArray w0 (Rt w0 (vT r)):=by
 refine ce Tryz.func3 ?_
 intro a hE
 have hM:=M.start w0
 unfold We at hF
 refine Zb (ZZ (cs:=cat [[v0_1],[v0_2],[v0_3]]) hE hM Za ld rfl rfl fun b1 w a hM hE=>ZZ (cs:=enc p1) hE hM Za ld rfl rfl fun b3 w a hM hE=>Zc hE rfl fun a hE=>Ze (Zb (Zc hE rfl fun a hE=>Ze (Zb (Zq hE rfl zM rfl hM.rawAt1 cq fun a hE=>Zd hE rfl ?_))))); intro a hE
 obtain ⟨r5,e6,hF⟩:=bind_some hF
 refine Zy hE rfl (cbm Tryz.func9) (Bp _ p0 v0_1 (hM.rdo hv0_1) v0_2 (hM.rdo hv0_2) v0_3 (hM.rdo hv0_3) 1048576 r5 e6) ?_
 rintro v w a ⟨rfl,hK⟩ hE
 have hM:=hM.keep hK
 refine Zc hE rfl fun a hE=>Ze (wp_seq (Zb (Zd hE rfl fun a hE=>Zg hE rfl rfl rfl fun a hE=>Ze ?_)))
 refine Zo hE rfl ?_ ?_
 ·intro hb7
  have hF:=Zs hF hb7
  refine Zb (Zc hE rfl fun a hE=>Ze ?_)
  obtain rfl:=Option.some.inj hF
  exact wp_ret (Zx (kr1 hE rfl rfl hM.kept))
 ·intro hb7
  have hF:=Zt hF hb7
  refine wp_skip (Zp (wp_seq ?_))
  obtain ⟨r9,e10,hF⟩:=bind_some hF
  obtain ⟨r15,e16,hF⟩:=bind_some hF
  obtain ⟨r17,e18,hF⟩:=bind_some hF
  refine Yv (its:=[raw b3 (enc p1),raw b1 (cat [[v0_1],[v0_2],[v0_3]])]) (mk:=([mkO 1 (fun v=>own NoB r9 (Value.cells v).toList),mkO 4 (fun v=>own NoB r17.1 (Value.cells (Z6 v 0)).toList),mkD 8 9 4 (cat [[(Value.slice none 0 0)],[(Value.slice none 0 0)],[(Value.slice none 0 0)]]) (fun v=>(Value.cells (Z6 v 0)).toList)] : Mk)) [22,23,24,25,26,21,27,28,6,113] Yq rfl rfl (by decide) rfl hE (fun u=>M.qE (M.qE (M.qE (M.q0 hM.drew u) emD) emO) emO) (qsP (v:=(Value.agg (cat [[v0_1],[v0_2],[v0_3]]).toArray)) ?_ (qsM (pr:=fun v=>∃ cs,v = .agg cs) ?_ (qsP (v:=(Value.agg (enc p1).toArray)) ?_ (qsP (fun z=>Yg z.E Za ld rfl cb12 (UN _ p1 r15 e16) (kc rfl)) (qsM (pr:=fun v=>v = (Value.tuple [(Z6 v 0),vI r17.2].toArray) ∧ ∃ cs,(Z6 v 0) = .agg cs) ?_ (qsD (ds:=[4]) (f:=fun us=>(Value.tuple [(Z6 (us.getD 0 undef) 0),vI r17.2].toArray)) ?_ (qsD (ds:=[4]) (f:=fun us=>(Z6 (us.getD 0 undef) 0)) ?_ (qsP (fun z=>XS z.E Za ld rfl rfl (kr0 rfl)) (qsM (pr:=fun v=>True) ?_ (qsM (pr:=fun v=>True) ?_ qs0)))))))))) ?_
  ·intro a w ux8 D z
   have hE:=z.E
   have hM:=z.M
   exact Zq hE rfl zM rfl hM.rawAt1 cq fun a hE=>⟨Kept.refl _ _,_,rfl,hE⟩
  ·intro a w ux8 D z
   have hE:=z.E
   have hD : D 1 = false:=z.F
   have hM0:=z.M
   have hM:=z.M
   refine Zy hE rfl cb11 (Tf _ p0 v0_1 (hM.rdo hv0_1) v0_2 (hM.rdo hv0_2) v0_3 (hM.rdo hv0_3) r9 e10) ?_
   rintro _ w a ⟨u11,u12,u13,rfl,hFr,hK⟩ hE
   have hM:=TR (x:=r9) (hM0.add hK hFr) sio sio sio
   exact ⟨_,_,rfl,hE,M.qFill (mk1:=[]) (mk2:=[_,_]) (f:=(fun v=>own NoB r9 (Value.cells v).toList)) hM rfl hD,⟨_,rfl⟩⟩
  ·intro a w ux8 D z
   have hE:=z.E
   have hM:=z.M
   exact Zq hE rfl ty27 rfl hM.rawAt0 (Flat.len _) fun a hE=>⟨Kept.refl _ _,_,rfl,hE⟩
  ·intro a w ux8 D z
   have hE:=z.E
   have hD : D 4 = false:=z.F
   have d1 : D 1 = true:=z.p 0 _ rfl rfl
   have hM0:=z.M
   have hM:=z.M.sure (pre:=[_,_]) d1
   obtain ⟨q8_1_0_1,q8_1_0_2,q8_1_0_3,hcz,hq8_1_0_1,hq8_1_0_2,hq8_1_0_3⟩:=WN (hM.ro (pre:=[_,_]) noB)
   have qK14 : (ux8 1) = (Value.agg (cat [[q8_1_0_1],[q8_1_0_2],[q8_1_0_3]]).toArray):=J0 hcz (z.G 1 (by assumption) _ rfl).2
   refine Zy hE (yw (evsC (lk rfl qK14) (evsC rfl evsN))) (cbm Tryz.func10) (He _ r9 q8_1_0_1 hq8_1_0_1 q8_1_0_2 hq8_1_0_2 q8_1_0_3 hq8_1_0_3 r15 r17 e18) ?_
   rintro _ w a ⟨u19,u20,u21,rfl,hFr,hK⟩ hE
   have hM:=TR (x:=r17.1) (hM0.add hK hFr) sio sio sio
   have hsD : D 9 = false:=QE (j:=9) (k:=2) z.c rfl rfl rfl hD
   have hM:=M.dOff (its:=_ :: [raw b3 (enc p1),raw b1 (cat [[v0_1],[v0_2],[v0_3]])]) (mk1:=([mkO 1 (fun v=>own NoB r9 (Value.cells v).toList),mkO 4 (fun v=>own NoB r17.1 (Value.cells (Z6 v 0)).toList)] : Mk)) (mk2:=([] : Mk)) (i:=8) (s:=9) (k:=4) (z:=cat [[(Value.slice none 0 0)],[(Value.slice none 0 0)],[(Value.slice none 0 0)]]) (f:=(fun v=>(Value.cells (Z6 v 0)).toList)) hM hsD
   exact ⟨_,_,rfl,hE,M.dOn (its:=[raw b3 (enc p1),raw b1 (cat [[v0_1],[v0_2],[v0_3]])]) (mk1:=([mkO 1 (fun v=>own NoB r9 (Value.cells v).toList),mkO 4 (fun v=>own NoB r17.1 (Value.cells (Z6 v 0)).toList)] : Mk)) (mk2:=([] : Mk)) (i:=8) (s:=9) (k:=4) (z:=cat [[(Value.slice none 0 0)],[(Value.slice none 0 0)],[(Value.slice none 0 0)]]) (f:=(fun v=>(Value.cells (Z6 v 0)).toList)) (M.qFill (its:=[raw b3 (enc p1),raw b1 (cat [[v0_1],[v0_2],[v0_3]])]) (mk1:=[_]) (mk2:=[_]) (f:=(fun v=>own NoB r17.1 (Value.cells (Z6 v 0)).toList)) hM rfl hD) hsD (by decide),⟨rfl,⟨_,rfl⟩⟩⟩
  ·intro a w ux8 D z
   have hE:=z.E
   have d4 : D 4 = true:=z.p 0 _ rfl rfl
   have g4:=z.G 4 d4 _ rfl
   have f4 : ux8 4 = (Value.tuple [(Z6 (ux8 4) 0),vI r17.2].toArray):=g4.2.1
   exact Zd hE (lk rfl f4) fun a hE=>⟨Kept.refl _ _,(BE d4 AX),_,rfl,hE⟩
  ·intro a w ux8 D z
   have hE:=z.E
   have d5 : D 5 = true:=z.p 0 _ rfl rfl
   have d4 : D 4 = true:=z.c 5 _ _ rfl (List.mem_of_getElem? (i:=0) rfl) rfl d5
   exact XS hE Za ld rfl rfl fun a hE=>⟨Kept.refl _ _,(BE d4 AX),_,rfl,hE⟩
  ·intro a w ux8 D z
   have hE:=z.E
   have hD : D 8 = false:=z.F
   have hM:=z.M
   refine ZC hE hM Yy ?_; intro b23 w a hM hE
   have hs : D 9 = false:=QE (j:=9) (k:=0) z.c rfl rfl rfl hD
   exact ⟨_,_,rfl,hE,M.qAllocD (mk1:=[_,_]) (mk2:=[]) hM rfl hD hs (by decide),trivial⟩
  ·intro a w ux8 D z
   have hE:=z.E
   have hD : D 9 = false:=z.F
   have d8 : D 8 = true:=z.p 0 _ rfl rfl
   have d6 : D 6 = true:=z.p 1 _ rfl rfl
   have g6:=z.G 6 d6 _ rfl
   have d4 : D 4 = true:=g6.1 4 (show 4 ∈ [4] by decide)
   have hM:=z.M.sure (pre:=[_,_,_]) d4
   obtain ⟨q8_4_0_1,q8_4_0_2,q8_4_0_3,hcz,hq8_4_0_1,hq8_4_0_2,hq8_4_0_3⟩:=WN (hM.ro (pre:=[_,_,_]) noB)
   have qK22 : (Z6 (ux8 4) 0) = (Value.agg (cat [[q8_4_0_1],[q8_4_0_2],[q8_4_0_3]]).toArray):=J0 hcz (z.G 4 (by assumption) _ rfl).2.2
   obtain ⟨b25,hb26,hM⟩:=M.openCellF (pre:=[_,_,_,_]) hM d8 hD
   refine Zn (seg:=cat [[q8_4_0_1],[q8_4_0_2],[q8_4_0_3]]) (cs':=cat [[q8_4_0_1],[q8_4_0_2],[q8_4_0_3]]) hE hM Za (lk rfl hb26) (lk rfl qK22) rfl Yy cq (Nat.le_of_eq ((Nat.zero_add _).trans (Eq.trans cq (Eq.symm cq)))) (YC (cc1 (Rep.cell hq8_4_0_1) (cc1 (Rep.cell hq8_4_0_2) (cc1 (Rep.cell hq8_4_0_3) cc0)))) (Zk (Eq.trans cq (Eq.symm cq))) ?_; intro w a hM hE
   have hM:=(M.recell hM (show _ = (Value.cells (Z6 (ux8 4) 0)).toList from by rw [qK22]; rfl)).unsure (pre:=[_,_,_,_]) d4
   exact ⟨undef,_,rfl,Env.dummy hE (by decide),M.qStoreD (its:=[raw b3 (enc p1),raw b1 (cat [[v0_1],[v0_2],[v0_3]])]) (mk1:=[_,_]) (mk2:=[]) (i:=8) (s:=9) (k:=4) (z:=cat [[(Value.slice none 0 0)],[(Value.slice none 0 0)],[(Value.slice none 0 0)]]) (f:=(fun v=>(Value.cells (Z6 v 0)).toList)) hM rfl d8 hb26 (by decide) (by decide),trivial⟩
  ·intro a w ux8 D hE hM hG hall
   have d1:=hall 1 (by decide)
   have d4:=hall 4 (by decide)
   have d8:=hall 8 (by decide)
   have d9:=hall 9 (by decide)
   have hM:=(hM.sure (pre:=[_,_]) d1).sure (pre:=[_,_,_]) d4
   obtain ⟨b27,f28,hM⟩:=M.openCellT (pre:=[_,_,_,_]) hM d8 d9
   obtain ⟨q8_1_0_1,q8_1_0_2,q8_1_0_3,hcz,_,_,_⟩:=WN (hM.ro (pre:=[_,_,_]) noB)
   have qK14 : (ux8 1) = (Value.agg (cat [[q8_1_0_1],[q8_1_0_2],[q8_1_0_3]]).toArray):=J0 hcz (hG 1 d1 _ rfl).2
   have hM:=hM.pull3
   have hM:=TQ (hM.recown (congrArg (fun v=>(Value.cells v).toList) qK14))
   obtain ⟨q8_4_0_1,q8_4_0_2,q8_4_0_3,hcz,_,_,_⟩:=WN (hM.ro (pre:=[_,_,_,_,_,_]) noB)
   have qK22 : (Z6 (ux8 4) 0) = (Value.agg (cat [[q8_4_0_1],[q8_4_0_2],[q8_4_0_3]]).toArray):=J0 hcz (hG 4 d4 _ rfl).2.2
   have hM:=hM.pull6
   have hM:=(TQ (hM.recown (congrArg (fun v=>(Value.cells v).toList) qK22))).pull6
   have hM:=M.recell (c':=cat [[q8_4_0_1],[q8_4_0_2],[q8_4_0_3]]) hM (congrArg (fun v=>(Value.cells v).toList) qK22)
   have hE:=hE.setq (t:=23) rfl qK14
   have hE:=hE.setq (t:=27) rfl qK22
   have hE:=hE.setq (t:=6) rfl f28
   refine Zc hE rfl fun a hE=>Zf (Zp (Zb (Zq hE rfl zM rfl hM.rawAt8 cq ?_))); intro a hE
   obtain ⟨r35,e36,hF⟩:=bind_some hF
   refine Zy hE rfl cb11 (Tf _ p0 v0_1 (hM.rdo hv0_1) v0_2 (hM.rdo hv0_2) v0_3 (hM.rdo hv0_3) r35 e36) ?_
   rintro v w a ⟨u37,u38,u39,rfl,hFr,hK⟩ hE
   have hM:=hM.add hK hFr
   refine ZC hE hM Yy fun b40 w a hM hE=>Zn (seg:=cat [[u37],[u38],[u39]]) (cs':=cat [[u37],[u38],[u39]]) hE hM Za rfl rfl rfl Yy cq (Nat.le_of_eq ((Nat.zero_add _).trans (Eq.trans cq (Eq.symm cq)))) (YC (cc1 (Rep.cell (hM.sl (pre:=[_]) noB)) (cc1 (Rep.cell (hM.sl (pre:=[_,_]) noB)) (cc1 (Rep.cell (hM.sl (pre:=[_,_,_]) noB)) cc0)))) (Zk (Eq.trans cq (Eq.symm cq))) fun w a hM hE=>Ze (wp_seq ?_)
   obtain ⟨r43,e44,hF⟩:=bind_some hF
   obtain ⟨r45,e46,hF⟩:=bind_some hF
   refine Yv (its:=[raw b40 (cat [[u37],[u38],[u39]]),osl NoB (r35.Keys : List (Vector UInt8 32)) u37,osl NoB (r35.Data : List (List UInt8)) u38,osl NoB (r35.Counts : List Int) u39,raw b27 (cat [[q8_4_0_1],[q8_4_0_2],[q8_4_0_3]]),own NoB (r17.1.Keys : (List (Vector UInt8 32))) [q8_4_0_1],own NoB (r17.1.Data : (List (List UInt8))) [q8_4_0_2],own NoB (r17.1.Counts : (List Int)) [q8_4_0_3],own NoB (r9.Keys : (List (Vector UInt8 32))) [q8_1_0_1],own NoB (r9.Data : (List (List UInt8))) [q8_1_0_2],own NoB (r9.Counts : (List Int)) [q8_1_0_3],raw b3 (enc p1),raw b1 (cat [[v0_1],[v0_2],[v0_3]])]) (mk:=([mkO 3 (fun v=>own NoB r45.1 (Value.cells (Z6 v 0)).toList),mkD 7 8 3 (cat [[(Value.slice none 0 0)],[(Value.slice none 0 0)],[(Value.slice none 0 0)]]) (fun v=>(Value.cells (Z6 v 0)).toList)] : Mk)) [32,33,34,35,31,36,37,9,112] Yq rfl rfl (by decide) rfl hE (fun u=>M.qE (M.qE (M.q0 hM.drew u) emD) emO) (qsP (v:=(Value.agg (cat [[u37],[u38],[u39]]).toArray)) ?_ (qsP (v:=(Value.agg (enc p1).toArray)) ?_ (qsP (fun z=>Yg z.E Za ld rfl cb12 (UN _ p1 r43 e44) (kc rfl)) (qsM (pr:=fun v=>v = (Value.tuple [(Z6 v 0),vI r45.2].toArray) ∧ ∃ cs,(Z6 v 0) = .agg cs) ?_ (qsD (ds:=[3]) (f:=fun us=>(Value.tuple [(Z6 (us.getD 0 undef) 0),vI r45.2].toArray)) ?_ (qsD (ds:=[3]) (f:=fun us=>(Z6 (us.getD 0 undef) 0)) ?_ (qsP (fun z=>XS z.E Za ld rfl rfl (kr0 rfl)) (qsM (pr:=fun v=>True) ?_ (qsM (pr:=fun v=>True) ?_ qs0))))))))) ?_
   ·intro a w ux42 D z
    have hE:=z.E
    have hM:=z.M
    exact Zq hE rfl Yy rfl hM.rawAt0 cq fun a hE=>⟨Kept.refl _ _,_,rfl,hE⟩
   ·intro a w ux42 D z
    have hE:=z.E
    have hM:=z.M
    exact Zq hE rfl ty27 rfl hM.rawAt11 (Flat.len _) fun a hE=>⟨Kept.refl _ _,_,rfl,hE⟩
   ·intro a w ux42 D z
    have hE:=z.E
    have hD : D 3 = false:=z.F
    have hM0:=z.M
    have hM:=z.M
    refine Zy hE rfl (cbm Tryz.func13) (QD _ r35 u37 (hM.sl (pre:=[_]) noB) u38 (hM.sl (pre:=[_,_]) noB) u39 (hM.sl (pre:=[_,_,_]) noB) r43 r45 e46) ?_
    rintro _ w a ⟨u47,u48,u49,rfl,hFr,hK⟩ hE
    have hM:=TR (x:=r45.1) (hM0.add hK hFr) sio sio sio
    have hsD : D 8 = false:=QE (j:=8) (k:=2) z.c rfl rfl rfl hD
    have hM:=M.dOff (its:=_ :: [raw b40 (cat [[u37],[u38],[u39]]),osl NoB (r35.Keys : List (Vector UInt8 32)) u37,osl NoB (r35.Data : List (List UInt8)) u38,osl NoB (r35.Counts : List Int) u39,raw b27 (cat [[q8_4_0_1],[q8_4_0_2],[q8_4_0_3]]),own NoB (r17.1.Keys : (List (Vector UInt8 32))) [q8_4_0_1],own NoB (r17.1.Data : (List (List UInt8))) [q8_4_0_2],own NoB (r17.1.Counts : (List Int)) [q8_4_0_3],own NoB (r9.Keys : (List (Vector UInt8 32))) [q8_1_0_1],own NoB (r9.Data : (List (List UInt8))) [q8_1_0_2],own NoB (r9.Counts : (List Int)) [q8_1_0_3],raw b3 (enc p1),raw b1 (cat [[v0_1],[v0_2],[v0_3]])]) (mk1:=([mkO 3 (fun v=>own NoB r45.1 (Value.cells (Z6 v 0)).toList)] : Mk)) (mk2:=([] : Mk)) (i:=7) (s:=8) (k:=3) (z:=cat [[(Value.slice none 0 0)],[(Value.slice none 0 0)],[(Value.slice none 0 0)]]) (f:=(fun v=>(Value.cells (Z6 v 0)).toList)) hM hsD
    exact ⟨_,_,rfl,hE,M.dOn (its:=[raw b40 (cat [[u37],[u38],[u39]]),osl NoB (r35.Keys : List (Vector UInt8 32)) u37,osl NoB (r35.Data : List (List UInt8)) u38,osl NoB (r35.Counts : List Int) u39,raw b27 (cat [[q8_4_0_1],[q8_4_0_2],[q8_4_0_3]]),own NoB (r17.1.Keys : (List (Vector UInt8 32))) [q8_4_0_1],own NoB (r17.1.Data : (List (List UInt8))) [q8_4_0_2],own NoB (r17.1.Counts : (List Int)) [q8_4_0_3],own NoB (r9.Keys : (List (Vector UInt8 32))) [q8_1_0_1],own NoB (r9.Data : (List (List UInt8))) [q8_1_0_2],own NoB (r9.Counts : (List Int)) [q8_1_0_3],raw b3 (enc p1),raw b1 (cat [[v0_1],[v0_2],[v0_3]])]) (mk1:=([mkO 3 (fun v=>own NoB r45.1 (Value.cells (Z6 v 0)).toList)] : Mk)) (mk2:=([] : Mk)) (i:=7) (s:=8) (k:=3) (z:=cat [[(Value.slice none 0 0)],[(Value.slice none 0 0)],[(Value.slice none 0 0)]]) (f:=(fun v=>(Value.cells (Z6 v 0)).toList)) (M.qFill (its:=[raw b40 (cat [[u37],[u38],[u39]]),osl NoB (r35.Keys : List (Vector UInt8 32)) u37,osl NoB (r35.Data : List (List UInt8)) u38,osl NoB (r35.Counts : List Int) u39,raw b27 (cat [[q8_4_0_1],[q8_4_0_2],[q8_4_0_3]]),own NoB (r17.1.Keys : (List (Vector UInt8 32))) [q8_4_0_1],own NoB (r17.1.Data : (List (List UInt8))) [q8_4_0_2],own NoB (r17.1.Counts : (List Int)) [q8_4_0_3],own NoB (r9.Keys : (List (Vector UInt8 32))) [q8_1_0_1],own NoB (r9.Data : (List (List UInt8))) [q8_1_0_2],own NoB (r9.Counts : (List Int)) [q8_1_0_3],raw b3 (enc p1),raw b1 (cat [[v0_1],[v0_2],[v0_3]])]) (mk1:=[]) (mk2:=[_]) (f:=(fun v=>own NoB r45.1 (Value.cells (Z6 v 0)).toList)) hM rfl hD) hsD (by decide),⟨rfl,⟨_,rfl⟩⟩⟩
   ·intro a w ux42 D z
    have hE:=z.E
    have d3 : D 3 = true:=z.p 0 _ rfl rfl
    have g3:=z.G 3 d3 _ rfl
    have f3 : ux42 3 = (Value.tuple [(Z6 (ux42 3) 0),vI r45.2].toArray):=g3.2.1
    exact Zd hE (lk rfl f3) fun a hE=>⟨Kept.refl _ _,(BE d3 AX),_,rfl,hE⟩
   ·intro a w ux42 D z
    have hE:=z.E
    have d4 : D 4 = true:=z.p 0 _ rfl rfl
    have d3 : D 3 = true:=z.c 4 _ _ rfl (List.mem_of_getElem? (i:=0) rfl) rfl d4
    exact XS hE Za ld rfl rfl fun a hE=>⟨Kept.refl _ _,(BE d3 AX),_,rfl,hE⟩
   ·intro a w ux42 D z
    have hE:=z.E
    have hD : D 7 = false:=z.F
    have hM:=z.M
    refine ZC hE hM Yy ?_; intro b51 w a hM hE
    have hs : D 8 = false:=QE (j:=8) (k:=0) z.c rfl rfl rfl hD
    exact ⟨_,_,rfl,hE,M.qAllocD (mk1:=[_]) (mk2:=[]) hM rfl hD hs (by decide),trivial⟩
   ·intro a w ux42 D z
    have hE:=z.E
    have hD : D 8 = false:=z.F
    have d7 : D 7 = true:=z.p 0 _ rfl rfl
    have d5 : D 5 = true:=z.p 1 _ rfl rfl
    have g5:=z.G 5 d5 _ rfl
    have d3 : D 3 = true:=g5.1 3 (show 3 ∈ [3] by decide)
    have hM:=z.M.sure (pre:=[_,_,_,_,_,_,_,_,_,_,_,_,_]) d3
    obtain ⟨q42_3_0_1,q42_3_0_2,q42_3_0_3,hcz,hq42_3_0_1,hq42_3_0_2,hq42_3_0_3⟩:=WN (hM.ro (pre:=[_,_,_,_,_,_,_,_,_,_,_,_,_]) noB)
    have qK50 : (Z6 (ux42 3) 0) = (Value.agg (cat [[q42_3_0_1],[q42_3_0_2],[q42_3_0_3]]).toArray):=J0 hcz (z.G 3 (by assumption) _ rfl).2.2
    obtain ⟨b53,hb54,hM⟩:=M.openCellF (pre:=[_,_,_,_,_,_,_,_,_,_,_,_,_,_]) hM d7 hD
    refine Zn (seg:=cat [[q42_3_0_1],[q42_3_0_2],[q42_3_0_3]]) (cs':=cat [[q42_3_0_1],[q42_3_0_2],[q42_3_0_3]]) hE hM Za (lk rfl hb54) (lk rfl qK50) rfl Yy cq (Nat.le_of_eq ((Nat.zero_add _).trans (Eq.trans cq (Eq.symm cq)))) (YC (cc1 (Rep.cell hq42_3_0_1) (cc1 (Rep.cell hq42_3_0_2) (cc1 (Rep.cell hq42_3_0_3) cc0)))) (Zk (Eq.trans cq (Eq.symm cq))) ?_; intro w a hM hE
    have hM:=(M.recell hM (show _ = (Value.cells (Z6 (ux42 3) 0)).toList from by rw [qK50]; rfl)).unsure (pre:=[_,_,_,_,_,_,_,_,_,_,_,_,_,_]) d3
    exact ⟨undef,_,rfl,Env.dummy hE (by decide),M.qStoreD (its:=[raw b40 (cat [[u37],[u38],[u39]]),osl NoB (r35.Keys : List (Vector UInt8 32)) u37,osl NoB (r35.Data : List (List UInt8)) u38,osl NoB (r35.Counts : List Int) u39,raw b27 (cat [[q8_4_0_1],[q8_4_0_2],[q8_4_0_3]]),own NoB (r17.1.Keys : (List (Vector UInt8 32))) [q8_4_0_1],own NoB (r17.1.Data : (List (List UInt8))) [q8_4_0_2],own NoB (r17.1.Counts : (List Int)) [q8_4_0_3],own NoB (r9.Keys : (List (Vector UInt8 32))) [q8_1_0_1],own NoB (r9.Data : (List (List UInt8))) [q8_1_0_2],own NoB (r9.Counts : (List Int)) [q8_1_0_3],raw b3 (enc p1),raw b1 (cat [[v0_1],[v0_2],[v0_3]])]) (mk1:=[_]) (mk2:=[]) (i:=7) (s:=8) (k:=3) (z:=cat [[(Value.slice none 0 0)],[(Value.slice none 0 0)],[(Value.slice none 0 0)]]) (f:=(fun v=>(Value.cells (Z6 v 0)).toList)) hM rfl d7 hb54 (by decide) (by decide),trivial⟩
   ·intro a w ux42 D hE hM hG hall
    have d3:=hall 3 (by decide)
    have d7:=hall 7 (by decide)
    have d8:=hall 8 (by decide)
    have hM:=hM.sure (pre:=[_,_,_,_,_,_,_,_,_,_,_,_,_]) d3
    obtain ⟨b55,f56,hM⟩:=M.openCellT (pre:=[_,_,_,_,_,_,_,_,_,_,_,_,_,_]) hM d7 d8
    obtain ⟨q42_3_0_1,q42_3_0_2,q42_3_0_3,hcz,_,_,_⟩:=WN (hM.ro (pre:=[_,_,_,_,_,_,_,_,_,_,_,_,_,_]) noB)
    have qK50 : (Z6 (ux42 3) 0) = (Value.agg (cat [[q42_3_0_1],[q42_3_0_2],[q42_3_0_3]]).toArray):=J0 hcz (hG 3 d3 _ rfl).2.2
    have hM:=hM.pull (pre:=[_,_,_,_,_,_,_,_,_,_,_,_,_,_])
    have hM:=(TQ (hM.recown (congrArg (fun v=>(Value.cells v).toList) qK50))).pull3
    have hM:=M.recell (c':=cat [[q42_3_0_1],[q42_3_0_2],[q42_3_0_3]]) hM (congrArg (fun v=>(Value.cells v).toList) qK50)
    have hE:=hE.setq (t:=36) rfl qK50
    have hE:=hE.setq (t:=9) rfl f56
    refine Zc hE rfl fun a hE=>Zf (Zp (wp_seq ?_))
    obtain ⟨j60,hl61,hF62⟩:=bind_some hF
    refine ZK (fun a w=>Env 104 a [(2,(ptr b1 0)),(3,(ptr b3 0)),(6,(ptr b27 0)),(7,vI r17.2),(8,(ptr b40 0)),(9,(ptr b55 0)),(10,vI r45.2),(46,vT j60)] ∧ M (Old w0) w0 w [raw b55 (cat [[q42_3_0_1],[q42_3_0_2],[q42_3_0_3]]),own NoB (r45.1.Keys : (List (Vector UInt8 32))) [q42_3_0_1],own NoB (r45.1.Data : (List (List UInt8))) [q42_3_0_2],own NoB (r45.1.Counts : (List Int)) [q42_3_0_3],raw b40 (cat [[u37],[u38],[u39]]),osl NoB (r35.Keys : List (Vector UInt8 32)) u37,osl NoB (r35.Data : List (List UInt8)) u38,osl NoB (r35.Counts : List Int) u39,raw b27 (cat [[q8_4_0_1],[q8_4_0_2],[q8_4_0_3]]),own NoB (r17.1.Keys : (List (Vector UInt8 32))) [q8_4_0_1],own NoB (r17.1.Data : (List (List UInt8))) [q8_4_0_2],own NoB (r17.1.Counts : (List Int)) [q8_4_0_3],raw b3 (enc p1),raw b1 (cat [[v0_1],[v0_2],[v0_3]])]) ?_ ?_
    ·skip
     refine wp_region_lit (Zq hE rfl Yy rfl hM.rawAt0 cq fun a hE=>Zq hE rfl Yy rfl hM.rawAt8 cq ?_); intro a hE
     obtain ⟨r63,e64,hl61⟩:=bind_some hl61
     refine Zy hE rfl cb14 (U0 _ r45.1 q42_3_0_1 (hM.ro (pre:=[_]) noB) q42_3_0_2 (hM.ro (pre:=[_,_]) noB) q42_3_0_3 (hM.ro (pre:=[_,_,_]) noB) r17.1 q8_4_0_1 (hM.ro (pre:=[_,_,_,_,_,_,_,_,_]) noB) q8_4_0_2 (hM.ro (pre:=[_,_,_,_,_,_,_,_,_,_]) noB) q8_4_0_3 (hM.ro (pre:=[_,_,_,_,_,_,_,_,_,_,_]) noB) r63 e64) ?_
     rintro v w a ⟨rfl,hK⟩ hE
     have hM:=hM.keep hK
     refine KJ hE rfl fun a hE=>Zd hE rfl ?_; intro a hE
     refine Vs (!r63) (fun hb65=>?_) (fun hb65=>?_)
     ·have hl61:=Zs hl61 hb65
      refine Zl hE rfl (lkb rfl hb65) rfl (by decide) fun a hE=>Zl hE rfl (lkb rfl hb65) rfl (by decide) fun a hE=>Zl hE rfl (lkb rfl hb65) rfl (by decide) fun a hE=>Xr hE (lkb rfl hb65) rfl fun a hE=>Zf ?_
      obtain rfl:=Option.some.inj hl61
      refine Zh ?_
      have hM:=M.fst (l:=[_,_,_,_,_,_,_,_,_,_,_,_,_,_]) ((((((((((((((hM.pull (pre:=[_,_,_,_,_,_,_,_,_,_,_,_,_,_,_,_])).pull (pre:=[_,_,_,_,_,_,_,_,_,_,_,_,_,_,_,_])).pull13).pull13).pull13).pull13).pull13).pull13).pull13).pull13).pull13).pull13).pull13).pull13)
      exact ⟨hE.sub ⟨rfl,rfl,rfl,rfl,rfl,rfl,rfl,rfl,trivial⟩,hM⟩
     ·have hl61:=Zt hl61 hb65
      refine Zi hE (Zj hE rfl (lkb rfl hb65)) (by decide) rfl fun a hE=>Zi hE (Zj hE rfl (lkb rfl hb65)) (by decide) rfl fun a hE=>Yd hE (Zj hE rfl (lkb rfl hb65)) (by decide) rfl rfl rfl fun a hE=>VX hE (lkb rfl hb65) rfl fun a hE=>Zf ?_
      obtain rfl:=Option.some.inj hl61
      refine Zh ?_
      have hM:=M.fst (l:=[_,_,_,_,_,_,_,_,_,_,_,_,_,_]) ((((((((((((((hM.pull (pre:=[_,_,_,_,_,_,_,_,_,_,_,_,_,_,_,_])).pull (pre:=[_,_,_,_,_,_,_,_,_,_,_,_,_,_,_,_])).pull13).pull13).pull13).pull13).pull13).pull13).pull13).pull13).pull13).pull13).pull13).pull13)
      exact ⟨hE.sub ⟨rfl,rfl,rfl,rfl,rfl,rfl,rfl,rfl,trivial⟩,hM⟩
    ·skip
     rintro a w ⟨hE,hM⟩
     refine Zo hE rfl ?_ ?_
     ·intro hb68
      have hF62:=Zs hF62 hb68
      refine Zb (Zc hE rfl fun a hE=>Ze ?_)
      obtain rfl:=Option.some.inj hF62
      exact wp_ret (Zx (kr1 hE rfl rfl hM.kept))
     ·intro hb68
      have hF62:=Zt hF62 hb68
      refine wp_skip (Zp (wp_seq ?_))
      obtain ⟨j69,hl70,hF71⟩:=bind_some hF62
      refine ZK (fun a w=>Env 104 a [(2,(ptr b1 0)),(3,(ptr b3 0)),(6,(ptr b27 0)),(7,vI r17.2),(8,(ptr b40 0)),(9,(ptr b55 0)),(10,vI r45.2),(51,vT j69)] ∧ M (Old w0) w0 w [raw b55 (cat [[q42_3_0_1],[q42_3_0_2],[q42_3_0_3]]),own NoB (r45.1.Keys : (List (Vector UInt8 32))) [q42_3_0_1],own NoB (r45.1.Data : (List (List UInt8))) [q42_3_0_2],own NoB (r45.1.Counts : (List Int)) [q42_3_0_3],raw b40 (cat [[u37],[u38],[u39]]),osl NoB (r35.Keys : List (Vector UInt8 32)) u37,osl NoB (r35.Data : List (List UInt8)) u38,osl NoB (r35.Counts : List Int) u39,raw b27 (cat [[q8_4_0_1],[q8_4_0_2],[q8_4_0_3]]),own NoB (r17.1.Keys : (List (Vector UInt8 32))) [q8_4_0_1],own NoB (r17.1.Data : (List (List UInt8))) [q8_4_0_2],own NoB (r17.1.Counts : (List Int)) [q8_4_0_3],raw b3 (enc p1),raw b1 (cat [[v0_1],[v0_2],[v0_3]])]) ?_ ?_
      ·skip
       obtain ⟨r73,e74,hl70⟩:=bind_some hl70
       refine Yv (its:=[raw b55 (cat [[q42_3_0_1],[q42_3_0_2],[q42_3_0_3]]),own NoB (r45.1.Keys : (List (Vector UInt8 32))) [q42_3_0_1],own NoB (r45.1.Data : (List (List UInt8))) [q42_3_0_2],own NoB (r45.1.Counts : (List Int)) [q42_3_0_3],raw b40 (cat [[u37],[u38],[u39]]),osl NoB (r35.Keys : List (Vector UInt8 32)) u37,osl NoB (r35.Data : List (List UInt8)) u38,osl NoB (r35.Counts : List Int) u39,raw b27 (cat [[q8_4_0_1],[q8_4_0_2],[q8_4_0_3]]),own NoB (r17.1.Keys : (List (Vector UInt8 32))) [q8_4_0_1],own NoB (r17.1.Data : (List (List UInt8))) [q8_4_0_2],own NoB (r17.1.Counts : (List Int)) [q8_4_0_3],raw b3 (enc p1),raw b1 (cat [[v0_1],[v0_2],[v0_3]])]) (mk:=([mkO 2 (fun v=>own NoB r73 (Value.cells v).toList)] : Mk)) [47,48,49] Yq rfl rfl (by decide) rfl hE (fun u=>M.qE (M.q0 hM.drew u) emO) (qsP (v:=(Value.agg (cat [[u37],[u38],[u39]]).toArray)) ?_ (qsP (v:=(Value.agg (cat [[v0_1],[v0_2],[v0_3]]).toArray)) ?_ (qsM (pr:=fun v=>∃ cs,v = .agg cs) ?_ qs0))) ?_
       ·intro a w ux72 D z
        have hE:=z.E
        have hM:=z.M
        exact Zq hE rfl Yy rfl hM.rawAt4 cq fun a hE=>⟨Kept.refl _ _,_,rfl,hE⟩
       ·intro a w ux72 D z
        have hE:=z.E
        have hM:=z.M
        exact Zq hE rfl zM rfl hM.rawAt13 cq fun a hE=>⟨Kept.refl _ _,_,rfl,hE⟩
       ·intro a w ux72 D z
        have hE:=z.E
        have hD : D 2 = false:=z.F
        have hM0:=z.M
        have hM:=z.M
        refine Zy hE rfl cb11 (Tf _ p0 v0_1 (hM.rdo hv0_1) v0_2 (hM.rdo hv0_2) v0_3 (hM.rdo hv0_3) r73 e74) ?_
        rintro _ w a ⟨u75,u76,u77,rfl,hFr,hK⟩ hE
        have hM:=TR (x:=r73) (hM0.add hK hFr) sio sio sio
        exact ⟨_,_,rfl,hE,M.qFill (mk1:=[]) (mk2:=[]) (f:=(fun v=>own NoB r73 (Value.cells v).toList)) hM rfl hD,⟨_,rfl⟩⟩
       ·intro a w ux72 D hE hM hG hall
        have d2:=hall 2 (by decide)
        have hM:=hM.sure (pre:=[_,_,_,_,_,_,_,_,_,_,_,_,_,_]) d2
        obtain ⟨q72_2_0_1,q72_2_0_2,q72_2_0_3,hcz,_,_,_⟩:=WN (hM.ro (pre:=[_,_,_,_,_,_,_,_,_,_,_,_,_,_]) noB)
        have qK78 : (ux72 2) = (Value.agg (cat [[q72_2_0_1],[q72_2_0_2],[q72_2_0_3]]).toArray):=J0 hcz (hG 2 d2 _ rfl).2
        have hM:=hM.pull (pre:=[_,_,_,_,_,_,_,_,_,_,_,_,_,_])
        have hM:=TQ (hM.recown (congrArg (fun v=>(Value.cells v).toList) qK78))
        have hE:=hE.setq (t:=49) rfl qK78
        obtain ⟨r82,e83,hl70⟩:=bind_some hl70
        refine Zy hE rfl cb14 (U0 _ r35 u37 (hM.sl (pre:=[_,_,_,_,_,_,_,_]) noB) u38 (hM.sl (pre:=[_,_,_,_,_,_,_,_,_]) noB) u39 (hM.sl (pre:=[_,_,_,_,_,_,_,_,_,_]) noB) r73 q72_2_0_1 (hM.ro (pre:=[]) noB) q72_2_0_2 (hM.ro (pre:=[_]) noB) q72_2_0_3 (hM.ro (pre:=[_,_]) noB) r82 e83) ?_
        rintro v w a ⟨rfl,hK⟩ hE
        have hM:=hM.keep hK
        refine KJ hE rfl fun a hE=>Zf ?_
        obtain rfl:=Option.some.inj hl70
        refine Zh ?_
        have hM:=((((hM.pull (pre:=[_,_,_,_,_,_,_,_,_,_,_,_,_,_,_,_])).pull (pre:=[_,_,_,_,_,_,_,_,_,_,_,_,_,_,_,_])).pull (pre:=[_,_,_,_,_,_,_,_,_,_,_,_,_,_,_,_])).pull (pre:=[_,_,_,_,_,_,_,_,_,_,_,_,_,_,_,_])).pull (pre:=[_,_,_,_,_,_,_,_,_,_,_,_,_,_,_,_])
        have hM:=((((hM.pull (pre:=[_,_,_,_,_,_,_,_,_,_,_,_,_,_,_,_])).pull (pre:=[_,_,_,_,_,_,_,_,_,_,_,_,_,_,_,_])).pull (pre:=[_,_,_,_,_,_,_,_,_,_,_,_,_,_,_,_])).pull (pre:=[_,_,_,_,_,_,_,_,_,_,_,_,_,_,_,_])).pull (pre:=[_,_,_,_,_,_,_,_,_,_,_,_,_,_,_,_])
        have hM:=M.fst (l:=[_,_,_,_,_,_,_,_,_,_,_,_,_,_]) ((((hM.pull (pre:=[_,_,_,_,_,_,_,_,_,_,_,_,_,_,_,_])).pull (pre:=[_,_,_,_,_,_,_,_,_,_,_,_,_,_,_,_])).pull (pre:=[_,_,_,_,_,_,_,_,_,_,_,_,_,_,_,_])).pull (pre:=[_,_,_,_,_,_,_,_,_,_,_,_,_,_,_,_]))
        exact ⟨hE.sub ⟨rfl,rfl,rfl,rfl,rfl,rfl,rfl,rfl,trivial⟩,hM⟩
      ·skip
       rintro a w ⟨hE,hM⟩
       refine Zo hE rfl ?_ ?_
       ·intro hb85
        have hF71:=Zs hF71 hb85
        refine Zb (Zc hE rfl fun a hE=>Ze ?_)
        obtain rfl:=Option.some.inj hF71
        exact wp_ret (Zx (kr1 hE rfl rfl hM.kept))
       ·intro hb85
        have hF71:=Zt hF71 hb85
        refine wp_skip (Zp (Zb (Zc hE rfl fun a hE=>Ze (Zb (Zq hE rfl Yy rfl hM.rawAt4 cq fun a hE=>Zd hE rfl ?_))))); intro a hE
        have hM:=((((((hM.pull5.toOwn noB).pull6).toOwn noB).pull7).toOwn noB).pull1).pull2
        obtain ⟨r86,e87,hF71⟩:=bind_some hF71
        refine Zy hE rfl (cbm Tryz.func15) (Qe _ _ _ _ r35 u37 u38 u39 1 hM r86 e87) ?_
        rintro v w a ⟨rfl,hM⟩ hE
        refine Zc hE rfl fun a hE=>Ze (wp_seq ?_)
        obtain ⟨j88,hl89,hF90⟩:=bind_some hF71
        refine ZK (fun a w=>Env 104 a [(2,(ptr b1 0)),(3,(ptr b3 0)),(6,(ptr b27 0)),(7,vI r17.2),(9,(ptr b55 0)),(67,vT j88)] ∧ M (Old w0) w0 w [raw b55 (cat [[q42_3_0_1],[q42_3_0_2],[q42_3_0_3]]),own NoB (r45.1.Keys : (List (Vector UInt8 32))) [q42_3_0_1],own NoB (r45.1.Data : (List (List UInt8))) [q42_3_0_2],own NoB (r45.1.Counts : (List Int)) [q42_3_0_3],raw b27 (cat [[q8_4_0_1],[q8_4_0_2],[q8_4_0_3]]),own NoB (r17.1.Keys : (List (Vector UInt8 32))) [q8_4_0_1],own NoB (r17.1.Data : (List (List UInt8))) [q8_4_0_2],own NoB (r17.1.Counts : (List Int)) [q8_4_0_3],raw b3 (enc p1),raw b1 (cat [[v0_1],[v0_2],[v0_3]])]) ?_ ?_
        ·skip
         refine wp_region_lit (Zd hE rfl fun a hE=>Zg hE rfl rfl rfl fun a hE=>Zd hE rfl ?_); intro a hE
         refine Vs (decide (r86.2 < 0)) (fun hb91=>?_) (fun hb91=>?_)
         ·have hl89:=Zs hl89 hb91
          refine Zl hE rfl (lkb rfl hb91) rfl (by decide) fun a hE=>Zl hE rfl (lkb rfl hb91) rfl (by decide) fun a hE=>Zl hE rfl (lkb rfl hb91) rfl (by decide) fun a hE=>Zl hE rfl (lkb rfl hb91) rfl (by decide) fun a hE=>Xr hE (lkb rfl hb91) rfl fun a hE=>Zd hE rfl fun a hE=>Zl hE rfl rfl rfl (by decide) fun a hE=>Zl hE rfl rfl rfl (by decide) fun a hE=>Zl hE rfl rfl rfl (by decide) fun a hE=>Xr hE rfl rfl fun a hE=>Zf ?_
          obtain rfl:=Option.some.inj hl89
          refine Zh ?_
          have hM:=M.fst (l:=[_,_,_,_,_,_,_,_,_,_]) hM.pull13.pull13.pull13.pull13.pull13.pull13.pull12.pull12.pull12.pull12
          exact ⟨hE.sub ⟨rfl,rfl,rfl,rfl,rfl,rfl,trivial⟩,hM⟩
         ·have hl89:=Zt hl89 hb91
          refine Z0 hE (Zj hE rfl (lkb rfl hb91)) (by decide) rfl Yy rfl hM.rawAt3 cq fun a hE=>Z0 hE (Zj hE rfl (lkb rfl hb91)) (by decide) rfl Yy rfl hM.rawAt8 cq ?_; intro a hE
          obtain ⟨r93,e94,hl89⟩:=bind_some hl89
          refine Yg hE (Zj hE rfl (lkb rfl hb91)) (by decide) rfl cb14 (U0 _ r45.1 q42_3_0_1 (hM.ro (pre:=[_,_,_,_]) noB) q42_3_0_2 (hM.ro (pre:=[_,_,_,_,_]) noB) q42_3_0_3 (hM.ro (pre:=[_,_,_,_,_,_]) noB) r17.1 q8_4_0_1 (hM.ro (pre:=[_,_,_,_,_,_,_,_,_]) noB) q8_4_0_2 (hM.ro (pre:=[_,_,_,_,_,_,_,_,_,_]) noB) q8_4_0_3 (hM.ro (pre:=[_,_,_,_,_,_,_,_,_,_,_]) noB) r93 e94) ?_
          rintro v w a ⟨rfl,hK⟩ hE
          have hM:=hM.keep hK
          refine QA hE (Zj hE rfl (lkb rfl hb91)) (by decide) rfl fun a hE=>VX hE (lkb rfl hb91) rfl fun a hE=>Zd hE rfl ?_; intro a hE
          refine Vs (!r93) (fun hb95=>?_) (fun hb95=>?_)
          ·have hl89:=Zs hl89 hb95
           refine Zl hE rfl (lkb rfl hb95) rfl (by decide) fun a hE=>Zl hE rfl (lkb rfl hb95) rfl (by decide) fun a hE=>Zl hE rfl (lkb rfl hb95) rfl (by decide) fun a hE=>Xr hE (lkb rfl hb95) rfl fun a hE=>Zf ?_
           obtain rfl:=Option.some.inj hl89
           refine Zh ?_
           have hM:=M.fst (l:=[_,_,_,_,_,_,_,_,_,_]) hM.pull13.pull13.pull13.pull13.pull13.pull13.pull12.pull12.pull12.pull12
           exact ⟨hE.sub ⟨rfl,rfl,rfl,rfl,rfl,rfl,trivial⟩,hM⟩
          ·have hl89:=Zt hl89 hb95
           refine Zi hE (Zj hE rfl (lkb rfl hb95)) (by decide) rfl fun a hE=>Zi hE (Zj hE rfl (lkb rfl hb95)) (by decide) rfl fun a hE=>Yd hE (Zj hE rfl (lkb rfl hb95)) (by decide) rfl rfl rfl fun a hE=>VX hE (lkb rfl hb95) rfl fun a hE=>Zf ?_
           obtain rfl:=Option.some.inj hl89
           refine Zh ?_
           have hM:=M.fst (l:=[_,_,_,_,_,_,_,_,_,_]) hM.pull13.pull13.pull13.pull13.pull13.pull13.pull12.pull12.pull12.pull12
           exact ⟨hE.sub ⟨rfl,rfl,rfl,rfl,rfl,rfl,trivial⟩,hM⟩
        ·skip
         rintro a w ⟨hE,hM⟩
         refine Zo hE rfl ?_ ?_
         ·intro hb98
          have hF90:=Zs hF90 hb98
          refine Zb (Zc hE rfl fun a hE=>Ze ?_)
          obtain rfl:=Option.some.inj hF90
          exact wp_ret (Zx (kr1 hE rfl rfl hM.kept))
         ·intro hb98
          have hF90:=Zt hF90 hb98
          refine wp_skip (Zp (Zb (Zc hE rfl fun a hE=>Ze (Zb (Zq hE rfl Yy rfl hM.rawAt0 cq fun a hE=>Zd hE rfl ?_))))); intro a hE
          have hM:=hM.pull3.pull3.pull3
          obtain ⟨r99,e100,hF90⟩:=bind_some hF90
          refine Zy hE rfl (cbm Tryz.func15) (Qe _ _ _ _ r45.1 q42_3_0_1 q42_3_0_2 q42_3_0_3 1 hM r99 e100) ?_
          rintro v w a ⟨rfl,hM⟩ hE
          refine Zc hE rfl fun a hE=>Ze (Zb (Zc hE rfl fun a hE=>Ze (Zb (Zq hE rfl Yy rfl hM.rawAt3 cq fun a hE=>Zd hE rfl ?_)))); intro a hE
          obtain ⟨r101,e102,hF90⟩:=bind_some hF90
          refine Zy hE rfl (cbm Tryz.func16) (Qk _ r99.1 q42_3_0_1 (hM.ro (pre:=[]) noB) q42_3_0_2 (hM.ro (pre:=[_]) noB) q42_3_0_3 (hM.ro (pre:=[_,_]) noB) 1 r101 e102) ?_
          rintro v w a ⟨rfl,hK⟩ hE
          have hM:=hM.keep hK
          refine Zc hE rfl fun a hE=>Ze (wp_seq (Zb (Zd hE rfl fun a hE=>Zg hE rfl rfl rfl fun a hE=>Ze ?_)))
          refine Zo hE rfl ?_ ?_
          ·intro hb103
           have hF90:=Zs hF90 hb103
           refine Zb (Zc hE rfl fun a hE=>Ze ?_)
           obtain rfl:=Option.some.inj hF90
           exact wp_ret (Zx (kr1 hE rfl rfl hM.kept))
          ·intro hb103
           have hF90:=Zt hF90 hb103
           refine wp_skip (Zp (wp_seq (Zb (Zd hE rfl fun a hE=>Zd hE rfl fun a hE=>Zg hE rfl rfl rfl fun a hE=>Ze ?_))))
           refine Zo hE rfl ?_ ?_
           ·intro hb104
            have hF90:=Zs hF90 hb104
            refine Zb (Zc hE rfl fun a hE=>Ze ?_)
            obtain rfl:=Option.some.inj hF90
            exact wp_ret (Zx (kr1 hE rfl rfl hM.kept))
           ·intro hb104
            have hF90:=Zt hF90 hb104
            refine wp_skip (Zp (wp_seq ?_))
            obtain ⟨r106,e107,hF90⟩:=bind_some hF90
            obtain ⟨r112,e113,hF90⟩:=bind_some hF90
            obtain ⟨r114,e115,hF90⟩:=bind_some hF90
            refine Yv (its:=[own NoB (r99.1.Keys : (List (Vector UInt8 32))) [q42_3_0_1],own NoB (r99.1.Data : (List (List UInt8))) [q42_3_0_2],own NoB (r99.1.Counts : (List Int)) [q42_3_0_3],raw b55 (cat [[q42_3_0_1],[q42_3_0_2],[q42_3_0_3]]),raw b27 (cat [[q8_4_0_1],[q8_4_0_2],[q8_4_0_3]]),own NoB (r17.1.Keys : (List (Vector UInt8 32))) [q8_4_0_1],own NoB (r17.1.Data : (List (List UInt8))) [q8_4_0_2],own NoB (r17.1.Counts : (List Int)) [q8_4_0_3],raw b3 (enc p1),raw b1 (cat [[v0_1],[v0_2],[v0_3]])]) (mk:=([mkO 1 (fun v=>own NoB r106 (Value.cells v).toList),mkO 4 (fun v=>own NoB r114.1 (Value.cells (Z6 v 0)).toList),mkD 8 9 4 (cat [[(Value.slice none 0 0)],[(Value.slice none 0 0)],[(Value.slice none 0 0)]]) (fun v=>(Value.cells (Z6 v 0)).toList)] : Mk)) [80,81,82,83,84,79,85,86,14,113] Yq rfl rfl (by decide) rfl hE (fun u=>M.qE (M.qE (M.qE (M.q0 hM.drew u) emD) emO) emO) (qsP (v:=(Value.agg (cat [[v0_1],[v0_2],[v0_3]]).toArray)) ?_ (qsM (pr:=fun v=>∃ cs,v = .agg cs) ?_ (qsP (v:=(Value.agg (enc p1).toArray)) ?_ (qsP (fun z=>Yg z.E Za ld rfl cb12 (UN _ p1 r112 e113) (kc rfl)) (qsM (pr:=fun v=>v = (Value.tuple [(Z6 v 0),vI r114.2].toArray) ∧ ∃ cs,(Z6 v 0) = .agg cs) ?_ (qsD (ds:=[4]) (f:=fun us=>(Value.tuple [(Z6 (us.getD 0 undef) 0),vI r114.2].toArray)) ?_ (qsD (ds:=[4]) (f:=fun us=>(Z6 (us.getD 0 undef) 0)) ?_ (qsP (fun z=>XS z.E Za ld rfl rfl (kr0 rfl)) (qsM (pr:=fun v=>True) ?_ (qsM (pr:=fun v=>True) ?_ qs0)))))))))) ?_
            ·intro a w ux105 D z
             have hE:=z.E
             have hM:=z.M
             exact Zq hE rfl zM rfl hM.rawAt9 cq fun a hE=>⟨Kept.refl _ _,_,rfl,hE⟩
            ·intro a w ux105 D z
             have hE:=z.E
             have hD : D 1 = false:=z.F
             have hM0:=z.M
             have hM:=z.M
             refine Zy hE rfl cb11 (Tf _ p0 v0_1 (hM.rdo hv0_1) v0_2 (hM.rdo hv0_2) v0_3 (hM.rdo hv0_3) r106 e107) ?_
             rintro _ w a ⟨u108,u109,u110,rfl,hFr,hK⟩ hE
             have hM:=TR (x:=r106) (hM0.add hK hFr) sio sio sio
             exact ⟨_,_,rfl,hE,M.qFill (mk1:=[]) (mk2:=[_,_]) (f:=(fun v=>own NoB r106 (Value.cells v).toList)) hM rfl hD,⟨_,rfl⟩⟩
            ·intro a w ux105 D z
             have hE:=z.E
             have hM:=z.M
             exact Zq hE rfl ty27 rfl hM.rawAt8 (Flat.len _) fun a hE=>⟨Kept.refl _ _,_,rfl,hE⟩
            ·intro a w ux105 D z
             have hE:=z.E
             have hD : D 4 = false:=z.F
             have d1 : D 1 = true:=z.p 0 _ rfl rfl
             have hM0:=z.M
             have hM:=z.M.sure (pre:=[_,_,_,_,_,_,_,_,_,_]) d1
             obtain ⟨q105_1_0_1,q105_1_0_2,q105_1_0_3,hcz,hq105_1_0_1,hq105_1_0_2,hq105_1_0_3⟩:=WN (hM.ro (pre:=[_,_,_,_,_,_,_,_,_,_]) noB)
             have qK111 : (ux105 1) = (Value.agg (cat [[q105_1_0_1],[q105_1_0_2],[q105_1_0_3]]).toArray):=J0 hcz (z.G 1 (by assumption) _ rfl).2
             refine Zy hE (yw (evsC (lk rfl qK111) (evsC rfl evsN))) (cbm Tryz.func13) (QD _ r106 q105_1_0_1 hq105_1_0_1 q105_1_0_2 hq105_1_0_2 q105_1_0_3 hq105_1_0_3 r112 r114 e115) ?_
             rintro _ w a ⟨u116,u117,u118,rfl,hFr,hK⟩ hE
             have hM:=TR (x:=r114.1) (hM0.add hK hFr) sio sio sio
             have hsD : D 9 = false:=QE (j:=9) (k:=2) z.c rfl rfl rfl hD
             have hM:=M.dOff (its:=_ :: [own NoB (r99.1.Keys : (List (Vector UInt8 32))) [q42_3_0_1],own NoB (r99.1.Data : (List (List UInt8))) [q42_3_0_2],own NoB (r99.1.Counts : (List Int)) [q42_3_0_3],raw b55 (cat [[q42_3_0_1],[q42_3_0_2],[q42_3_0_3]]),raw b27 (cat [[q8_4_0_1],[q8_4_0_2],[q8_4_0_3]]),own NoB (r17.1.Keys : (List (Vector UInt8 32))) [q8_4_0_1],own NoB (r17.1.Data : (List (List UInt8))) [q8_4_0_2],own NoB (r17.1.Counts : (List Int)) [q8_4_0_3],raw b3 (enc p1),raw b1 (cat [[v0_1],[v0_2],[v0_3]])]) (mk1:=([mkO 1 (fun v=>own NoB r106 (Value.cells v).toList),mkO 4 (fun v=>own NoB r114.1 (Value.cells (Z6 v 0)).toList)] : Mk)) (mk2:=([] : Mk)) (i:=8) (s:=9) (k:=4) (z:=cat [[(Value.slice none 0 0)],[(Value.slice none 0 0)],[(Value.slice none 0 0)]]) (f:=(fun v=>(Value.cells (Z6 v 0)).toList)) hM hsD
             exact ⟨_,_,rfl,hE,M.dOn (its:=[own NoB (r99.1.Keys : (List (Vector UInt8 32))) [q42_3_0_1],own NoB (r99.1.Data : (List (List UInt8))) [q42_3_0_2],own NoB (r99.1.Counts : (List Int)) [q42_3_0_3],raw b55 (cat [[q42_3_0_1],[q42_3_0_2],[q42_3_0_3]]),raw b27 (cat [[q8_4_0_1],[q8_4_0_2],[q8_4_0_3]]),own NoB (r17.1.Keys : (List (Vector UInt8 32))) [q8_4_0_1],own NoB (r17.1.Data : (List (List UInt8))) [q8_4_0_2],own NoB (r17.1.Counts : (List Int)) [q8_4_0_3],raw b3 (enc p1),raw b1 (cat [[v0_1],[v0_2],[v0_3]])]) (mk1:=([mkO 1 (fun v=>own NoB r106 (Value.cells v).toList),mkO 4 (fun v=>own NoB r114.1 (Value.cells (Z6 v 0)).toList)] : Mk)) (mk2:=([] : Mk)) (i:=8) (s:=9) (k:=4) (z:=cat [[(Value.slice none 0 0)],[(Value.slice none 0 0)],[(Value.slice none 0 0)]]) (f:=(fun v=>(Value.cells (Z6 v 0)).toList)) (M.qFill (its:=[own NoB (r99.1.Keys : (List (Vector UInt8 32))) [q42_3_0_1],own NoB (r99.1.Data : (List (List UInt8))) [q42_3_0_2],own NoB (r99.1.Counts : (List Int)) [q42_3_0_3],raw b55 (cat [[q42_3_0_1],[q42_3_0_2],[q42_3_0_3]]),raw b27 (cat [[q8_4_0_1],[q8_4_0_2],[q8_4_0_3]]),own NoB (r17.1.Keys : (List (Vector UInt8 32))) [q8_4_0_1],own NoB (r17.1.Data : (List (List UInt8))) [q8_4_0_2],own NoB (r17.1.Counts : (List Int)) [q8_4_0_3],raw b3 (enc p1),raw b1 (cat [[v0_1],[v0_2],[v0_3]])]) (mk1:=[_]) (mk2:=[_]) (f:=(fun v=>own NoB r114.1 (Value.cells (Z6 v 0)).toList)) hM rfl hD) hsD (by decide),⟨rfl,⟨_,rfl⟩⟩⟩
            ·intro a w ux105 D z
             have hE:=z.E
             have d4 : D 4 = true:=z.p 0 _ rfl rfl
             have g4:=z.G 4 d4 _ rfl
             have f4 : ux105 4 = (Value.tuple [(Z6 (ux105 4) 0),vI r114.2].toArray):=g4.2.1
             exact Zd hE (lk rfl f4) fun a hE=>⟨Kept.refl _ _,(BE d4 AX),_,rfl,hE⟩
            ·intro a w ux105 D z
             have hE:=z.E
             have d5 : D 5 = true:=z.p 0 _ rfl rfl
             have d4 : D 4 = true:=z.c 5 _ _ rfl (List.mem_of_getElem? (i:=0) rfl) rfl d5
             exact XS hE Za ld rfl rfl fun a hE=>⟨Kept.refl _ _,(BE d4 AX),_,rfl,hE⟩
            ·intro a w ux105 D z
             have hE:=z.E
             have hD : D 8 = false:=z.F
             have hM:=z.M
             refine ZC hE hM Yy ?_; intro b120 w a hM hE
             have hs : D 9 = false:=QE (j:=9) (k:=0) z.c rfl rfl rfl hD
             exact ⟨_,_,rfl,hE,M.qAllocD (mk1:=[_,_]) (mk2:=[]) hM rfl hD hs (by decide),trivial⟩
            ·intro a w ux105 D z
             have hE:=z.E
             have hD : D 9 = false:=z.F
             have d8 : D 8 = true:=z.p 0 _ rfl rfl
             have d6 : D 6 = true:=z.p 1 _ rfl rfl
             have g6:=z.G 6 d6 _ rfl
             have d4 : D 4 = true:=g6.1 4 (show 4 ∈ [4] by decide)
             have hM:=z.M.sure (pre:=[_,_,_,_,_,_,_,_,_,_,_]) d4
             obtain ⟨q105_4_0_1,q105_4_0_2,q105_4_0_3,hcz,hq105_4_0_1,hq105_4_0_2,hq105_4_0_3⟩:=WN (hM.ro (pre:=[_,_,_,_,_,_,_,_,_,_,_]) noB)
             have qK119 : (Z6 (ux105 4) 0) = (Value.agg (cat [[q105_4_0_1],[q105_4_0_2],[q105_4_0_3]]).toArray):=J0 hcz (z.G 4 (by assumption) _ rfl).2.2
             obtain ⟨b122,hb123,hM⟩:=M.openCellF (pre:=[_,_,_,_,_,_,_,_,_,_,_,_]) hM d8 hD
             refine Zn (seg:=cat [[q105_4_0_1],[q105_4_0_2],[q105_4_0_3]]) (cs':=cat [[q105_4_0_1],[q105_4_0_2],[q105_4_0_3]]) hE hM Za (lk rfl hb123) (lk rfl qK119) rfl Yy cq (Nat.le_of_eq ((Nat.zero_add _).trans (Eq.trans cq (Eq.symm cq)))) (YC (cc1 (Rep.cell hq105_4_0_1) (cc1 (Rep.cell hq105_4_0_2) (cc1 (Rep.cell hq105_4_0_3) cc0)))) (Zk (Eq.trans cq (Eq.symm cq))) ?_; intro w a hM hE
             have hM:=(M.recell hM (show _ = (Value.cells (Z6 (ux105 4) 0)).toList from by rw [qK119]; rfl)).unsure (pre:=[_,_,_,_,_,_,_,_,_,_,_,_]) d4
             exact ⟨undef,_,rfl,Env.dummy hE (by decide),M.qStoreD (its:=[own NoB (r99.1.Keys : (List (Vector UInt8 32))) [q42_3_0_1],own NoB (r99.1.Data : (List (List UInt8))) [q42_3_0_2],own NoB (r99.1.Counts : (List Int)) [q42_3_0_3],raw b55 (cat [[q42_3_0_1],[q42_3_0_2],[q42_3_0_3]]),raw b27 (cat [[q8_4_0_1],[q8_4_0_2],[q8_4_0_3]]),own NoB (r17.1.Keys : (List (Vector UInt8 32))) [q8_4_0_1],own NoB (r17.1.Data : (List (List UInt8))) [q8_4_0_2],own NoB (r17.1.Counts : (List Int)) [q8_4_0_3],raw b3 (enc p1),raw b1 (cat [[v0_1],[v0_2],[v0_3]])]) (mk1:=[_,_]) (mk2:=[]) (i:=8) (s:=9) (k:=4) (z:=cat [[(Value.slice none 0 0)],[(Value.slice none 0 0)],[(Value.slice none 0 0)]]) (f:=(fun v=>(Value.cells (Z6 v 0)).toList)) hM rfl d8 hb123 (by decide) (by decide),trivial⟩
            ·intro a w ux105 D hE hM hG hall
             have d1:=hall 1 (by decide)
             have d4:=hall 4 (by decide)
             have d8:=hall 8 (by decide)
             have d9:=hall 9 (by decide)
             have hM:=(hM.sure (pre:=[_,_,_,_,_,_,_,_,_,_]) d1).sure (pre:=[_,_,_,_,_,_,_,_,_,_,_]) d4
             obtain ⟨b124,f125,hM⟩:=M.openCellT (pre:=[_,_,_,_,_,_,_,_,_,_,_,_]) hM d8 d9
             obtain ⟨q105_1_0_1,q105_1_0_2,q105_1_0_3,hcz,_,_,_⟩:=WN (hM.ro (pre:=[_,_,_,_,_,_,_,_,_,_,_]) noB)
             have qK111 : (ux105 1) = (Value.agg (cat [[q105_1_0_1],[q105_1_0_2],[q105_1_0_3]]).toArray):=J0 hcz (hG 1 d1 _ rfl).2
             have hM:=hM.pull11
             have hM:=TQ (hM.recown (congrArg (fun v=>(Value.cells v).toList) qK111))
             obtain ⟨q105_4_0_1,q105_4_0_2,q105_4_0_3,hcz,_,_,_⟩:=WN (hM.ro (pre:=[_,_,_,_,_,_,_,_,_,_,_,_,_,_]) noB)
             have qK119 : (Z6 (ux105 4) 0) = (Value.agg (cat [[q105_4_0_1],[q105_4_0_2],[q105_4_0_3]]).toArray):=J0 hcz (hG 4 d4 _ rfl).2.2
             have hM:=hM.pull (pre:=[_,_,_,_,_,_,_,_,_,_,_,_,_,_])
             have hM:=(TQ (hM.recown (congrArg (fun v=>(Value.cells v).toList) qK119))).pull6
             have hM:=M.recell (c':=cat [[q105_4_0_1],[q105_4_0_2],[q105_4_0_3]]) hM (congrArg (fun v=>(Value.cells v).toList) qK119)
             have hE:=hE.setq (t:=81) rfl qK111
             have hE:=hE.setq (t:=85) rfl qK119
             have hE:=hE.setq (t:=14) rfl f125
             refine Zc hE rfl fun a hE=>Zf (Zp (wp_seq ?_))
             obtain ⟨j132,hl133,hF134⟩:=bind_some hF90
             refine ZK (fun a w=>Env 104 a [(9,(ptr b55 0)),(12,vI r99.2),(95,vT j132)] ∧ M (Old w0) w0 w [own NoB (r99.1.Keys : (List (Vector UInt8 32))) [q42_3_0_1],own NoB (r99.1.Data : (List (List UInt8))) [q42_3_0_2],own NoB (r99.1.Counts : (List Int)) [q42_3_0_3],raw b55 (cat [[q42_3_0_1],[q42_3_0_2],[q42_3_0_3]])]) ?_ ?_
             ·skip
              refine wp_region_lit (Zq hE rfl Yy rfl hM.rawAt0 cq fun a hE=>Zq hE rfl Yy rfl hM.rawAt11 cq ?_); intro a hE
              obtain ⟨r135,e136,hl133⟩:=bind_some hl133
              refine Zy hE rfl cb14 (U0 _ r114.1 q105_4_0_1 (hM.ro (pre:=[_]) noB) q105_4_0_2 (hM.ro (pre:=[_,_]) noB) q105_4_0_3 (hM.ro (pre:=[_,_,_]) noB) r17.1 q8_4_0_1 (hM.ro (pre:=[_,_,_,_,_,_,_,_,_,_,_,_]) noB) q8_4_0_2 (hM.ro (pre:=[_,_,_,_,_,_,_,_,_,_,_,_,_]) noB) q8_4_0_3 (hM.ro (pre:=[_,_,_,_,_,_,_,_,_,_,_,_,_,_]) noB) r135 e136) ?_
              rintro v w a ⟨rfl,hK⟩ hE
              have hM:=hM.keep hK
              refine KJ hE rfl fun a hE=>Zd hE rfl ?_; intro a hE
              refine Vs (!r135) (fun hb137=>?_) (fun hb137=>?_)
              ·have hl133:=Zs hl133 hb137
               refine Zl hE rfl (lkb rfl hb137) rfl (by decide) fun a hE=>Zl hE rfl (lkb rfl hb137) rfl (by decide) fun a hE=>Zl hE rfl (lkb rfl hb137) rfl (by decide) fun a hE=>Xr hE (lkb rfl hb137) rfl fun a hE=>Zf ?_
               obtain rfl:=Option.some.inj hl133
               refine Zh ?_
               have hM:=M.fst (l:=[_,_,_,_]) hM.pull10.pull10.pull10.pull10
               exact ⟨hE.sub ⟨rfl,rfl,rfl,trivial⟩,hM⟩
              ·have hl133:=Zt hl133 hb137
               refine Zi hE (Zj hE rfl (lkb rfl hb137)) (by decide) rfl fun a hE=>Zi hE (Zj hE rfl (lkb rfl hb137)) (by decide) rfl fun a hE=>Yd hE (Zj hE rfl (lkb rfl hb137)) (by decide) rfl rfl rfl fun a hE=>VX hE (lkb rfl hb137) rfl fun a hE=>Zf ?_
               obtain rfl:=Option.some.inj hl133
               refine Zh ?_
               have hM:=M.fst (l:=[_,_,_,_]) hM.pull10.pull10.pull10.pull10
               exact ⟨hE.sub ⟨rfl,rfl,rfl,trivial⟩,hM⟩
             ·skip
              rintro a w ⟨hE,hM⟩
              refine Zo hE rfl ?_ ?_
              ·intro hb140
               have hF134:=Zs hF134 hb140
               refine Zb (Zc hE rfl fun a hE=>Ze ?_)
               obtain rfl:=Option.some.inj hF134
               exact wp_ret (Zx (kr1 hE rfl rfl hM.kept))
              ·intro hb140
               have hF134:=Zt hF134 hb140
               refine wp_skip (Zp (Zb (Zc hE rfl fun a hE=>Ze (Zb (Zq hE rfl Yy rfl hM.rawAt3 cq fun a hE=>Zd hE rfl ?_))))); intro a hE
               obtain ⟨r141,e142,hF134⟩:=bind_some hF134
               refine Zy hE rfl (cbm Tryz.func16) (Qk _ r99.1 q42_3_0_1 (hM.ro (pre:=[]) noB) q42_3_0_2 (hM.ro (pre:=[_]) noB) q42_3_0_3 (hM.ro (pre:=[_,_]) noB) 1 r141 e142) ?_
               rintro v w a ⟨rfl,hK⟩ hE
               have hM:=hM.keep hK
               refine Zc hE rfl fun a hE=>Ze (wp_seq (Zb (Zd hE rfl fun a hE=>Zg hE rfl rfl rfl fun a hE=>Ze ?_)))
               refine Zo hE rfl ?_ ?_
               ·intro hb143
                have hF134:=Zs hF134 hb143
                refine Zb (Zc hE rfl fun a hE=>Ze ?_)
                obtain rfl:=Option.some.inj hF134
                exact wp_ret (Zx (kr1 hE rfl rfl hM.kept))
               ·intro hb143
                have hF134:=Zt hF134 hb143
                refine wp_skip (Zp (wp_seq (Zb (Zd hE rfl fun a hE=>Zd hE rfl fun a hE=>Zg hE rfl rfl rfl fun a hE=>Ze ?_))))
                refine Zo hE rfl ?_ ?_
                ·intro hb144
                 have hF134:=Zs hF134 hb144
                 refine Zb (Zc hE rfl fun a hE=>Ze ?_)
                 obtain rfl:=Option.some.inj hF134
                 exact wp_ret (Zx (kr1 hE rfl rfl hM.kept))
                ·intro hb144
                 have hF134:=Zt hF134 hb144
                 refine wp_skip (Zp (Zb (Zc hE rfl fun a hE=>Ze ?_)))
                 obtain rfl:=Option.some.inj hF134
                 exact wp_ret (kr1 hE rfl rfl hM.kept)
end

end Go.Proofs.YtpibglnacohdkaaGreat
