/- The walk of what the law reaches: contracts of functions. -/
import Derived.Test.YtpjogonponkbmaaK2
import Derived.Test.YtpjogonponkbmaaProg
set_option linter.unusedVariables false
set_option linter.unusedSimpArgs false
set_option maxRecDepth 20000
set_option maxHeartbeats 400000
namespace Go.Proofs.Ytpjogonponkbmaa
open Go
open Flat (enc)
noncomputable section
structure GShare where
 Place : UInt8
 Data : (List UInt8)
 deriving DecidableEq,Inhabited
instance : Dat GShare:=⟨fun x=>Dat.bd (α:=UInt8 × (List UInt8)) (x.Place,x.Data),fun x=>Dat.sz (α:=UInt8 × (List UInt8)) (x.Place,x.Data) + 1⟩
instance : Rep GShare:=repIso (α:=UInt8 × (List UInt8)) (fun x=>(x.Place,x.Data))
theorem WS {S : Nat → Prop} {w : World} {x : GShare} {cs : List Value} {fp : List Nat} (h : Rep.sat S w x cs fp) : ∃ (u1 : Value),∃ (g1 : List Nat),cs = cat [enc x.Place,[u1]] ∧ fp = g1 ∧ Rep.sat S w x.Data [u1] g1:=by
 obtain ⟨c0,d0,f0,q0,rfl,rfl,h0,hr0⟩:=h
 obtain ⟨rfl,rfl⟩:=h0
 obtain ⟨u1,rfl⟩:=XN hr0
 exact ⟨u1,_,rfl,by simp,hr0⟩
theorem Tf {S : Nat → Prop} {w : World} {x : GShare} {u1 : Value} {fp : List Nat} (h : Rep.sat S w x (cat [enc x.Place,[u1]]) fp) : ∃ (g1 : List Nat),fp = g1 ∧ Rep.sat S w x.Data [u1] g1:=by
 obtain ⟨w1,g1,hc,hf,s1⟩:=WS h
 obtain ⟨e1,k1⟩:=QM hc rfl
 obtain rfl:=(List.cons.inj k1).1
 exact ⟨g1,hf,s1⟩
theorem WC {S : Nat → Prop} {w : World} {x : GShare} {cs : List Value} (h : Rep.sat S w x cs []) : ∃ u1,cs = cat [enc x.Place,[u1]] ∧ Rep.sat S w x.Data [u1] []:=by
 obtain ⟨c0,d0,f0,g0,rfl,hf0,h0,hr0⟩:=h
 obtain ⟨rfl,rfl⟩:=List.append_eq_nil_iff.1 hf0.symm
 obtain ⟨rfl,_⟩:=h0
 obtain ⟨u1,rfl⟩:=XN hr0
 exact ⟨u1,rfl,hr0⟩
theorem X8 {S : Nat → Prop} {w : World} {x : GShare} {u1 : Value} {g1 fp : List Nat} (h1 : Rep.sat S w x.Data [u1] g1) (hfp : fp = g1) : Rep.sat S w x (cat [enc x.Place,[u1]]) fp:=by
 rw [hfp]
 refine ⟨_,_,[],g1,rfl,(by simp),⟨rfl,rfl⟩,?_⟩
 exact h1
theorem QO (w : World) : Rep.sat NoB w (⟨(0 : UInt8),([] : (List UInt8))⟩ : GShare) (cat [(enc (0 : UInt8)),[.slice none 0 0]]) []:=X8 U6 rfl
theorem ty3 : Ty Try.prog 3 (.int .i64) 1 8 (enc (0 : Int)):=⟨Try.underlying3,by kernel_rfl⟩
theorem ty5 : Ty Try.prog 5 (.int .u8) 1 1 (enc (0 : UInt8)):=⟨Try.underlying5,by kernel_rfl⟩
theorem Xm : Ty Try.prog 22 (.slice 5) 1 24 [.slice none 0 0]:=⟨Try.underlying22,by kernel_rfl⟩
theorem XH : Ty Try.prog 86 (.struct [{ name := "Place", type := 5, offset := 0, embedded := false, tag := "", pkgPath := "", byteOffset := 0 }, { name := "Data", type := 22, offset := 1, embedded := false, tag := "", pkgPath := "", byteOffset := 8 }].toArray) 2 32 (cat [(enc (0 : UInt8)), [.slice none 0 0]]) := ⟨Try.underlying86, by kernel_rfl⟩
theorem Uy : Fd Try.prog 86 0 0:=fd_mk XH.und rfl rfl ty5 (by decide)
theorem Wr : Fd Try.prog 86 1 1:=fd_mk XH.und rfl rfl Xm (by decide)
theorem pl86 : Places Try.prog [{ name := "Place", type := 5, offset := 0, embedded := false, tag := "", pkgPath := "", byteOffset := 0 }, { name := "Data", type := 22, offset := 1, embedded := false, tag := "", pkgPath := "", byteOffset := 8 }] [(0, 1), (1, 1)] := by show _ = _; kernel_rfl
theorem Tx : Try.prog.follows .mixedOrders = true:=by kernel_rfl
theorem cb8 : Callable Try.prog 8:=⟨_,_,Try.func8,by decide,rfl⟩
theorem cb9 : Callable Try.prog 9:=⟨_,_,Try.func9,by decide,rfl⟩
theorem UI : Callable Try.prog 10:=⟨_,_,Try.func10,by decide,rfl⟩
theorem cb11 : Callable Try.prog 11:=⟨_,_,Try.func11,by decide,rfl⟩
theorem cb12 : Callable Try.prog 12:=⟨_,_,Try.func12,by decide,rfl⟩
theorem cb13 : Callable Try.prog 13:=⟨_,_,Try.func13,by decide,rfl⟩
theorem cb14 : Callable Try.prog 14:=⟨_,_,Try.func14,by decide,rfl⟩
theorem cb15 : Callable Try.prog 15:=⟨_,_,Try.func15,by decide,rfl⟩
theorem cb16 : Callable Try.prog 16:=⟨_,_,Try.func16,by decide,rfl⟩
theorem cb17 : Callable Try.prog 17:=⟨_,_,Try.func17,by decide,rfl⟩
theorem cb18 : Callable Try.prog 18:=⟨_,_,Try.func18,by decide,rfl⟩
theorem cb19 : Callable Try.prog 19:=⟨_,_,Try.func19,by decide,rfl⟩
theorem cb42 : Callable Try.prog 42:=⟨_,_,Try.func42,by decide,rfl⟩
theorem cb43 : Callable Try.prog 43:=⟨_,_,Try.func43,by decide,rfl⟩
theorem cb44 : Callable Try.prog 44:=⟨_,_,Try.func44,by decide,rfl⟩
theorem cb45 : Callable Try.prog 45:=⟨_,_,Try.func45,by decide,rfl⟩
theorem cb46 : Callable Try.prog 46:=⟨_,_,Try.func46,by decide,rfl⟩
theorem cb47 : Callable Try.prog 47:=⟨_,_,Try.func47,by decide,rfl⟩
theorem cb48 : Callable Try.prog 48:=⟨_,_,Try.func48,by decide,rfl⟩
theorem cb49 : Callable Try.prog 49:=⟨_,_,Try.func49,by decide,rfl⟩
theorem cb50 : Callable Try.prog 50:=⟨_,_,Try.func50,by decide,rfl⟩
theorem cb51 : Callable Try.prog 51:=⟨_,_,Try.func51,by decide,rfl⟩
theorem cb52 : Callable Try.prog 52:=⟨_,_,Try.func52,by decide,rfl⟩
theorem cb53 : Callable Try.prog 53:=⟨_,_,Try.func53,by decide,rfl⟩
theorem cb54 : Callable Try.prog 54:=⟨_,_,Try.func54,by decide,rfl⟩
theorem cb82 : Callable Try.prog 82:=⟨_,_,Try.func82,by decide,rfl⟩
theorem cb95 : Callable Try.prog 95:=⟨_,_,Try.func95,by decide,rfl⟩
theorem cb96 : Callable Try.prog 96:=⟨_,_,Try.func96,by decide,rfl⟩
theorem cb97 : Callable Try.prog 97:=⟨_,_,Try.func97,by decide,rfl⟩
theorem cb98 : Callable Try.prog 98:=⟨_,_,Try.func98,by decide,rfl⟩
theorem cb99 : Callable Try.prog 99:=⟨_,_,Try.func99,by decide,rfl⟩
theorem cb100 : Callable Try.prog 100:=⟨_,_,Try.func100,by decide,rfl⟩
theorem cb101 : Callable Try.prog 101:=⟨_,_,Try.func101,by decide,rfl⟩
theorem cb102 : Callable Try.prog 102:=⟨_,_,Try.func102,by decide,rfl⟩
theorem cb103 : Callable Try.prog 103:=⟨_,_,Try.func103,by decide,rfl⟩
theorem Qe : Callable Try.prog 139:=⟨_,_,Try.func139,by decide,rfl⟩
theorem cb140 : Callable Try.prog 140:=⟨_,_,Try.func140,by decide,rfl⟩
theorem cb141 : Callable Try.prog 141:=⟨_,_,Try.func141,by decide,rfl⟩
def Yk (p0 : (List UInt8)) (p1 : Int) : Option (Int) :=
 if (decide ((wr (p1 - (p0.length : Int))) < 0)) = true then (some (-1)) else (some (wr (p1 - (p0.length : Int))))
theorem Ua (w0 : World) (p0 : (List UInt8)) (v0_1 : Value) (hv0_1 : Ro w0 p0 [v0_1]) (p1 : Int) (r : Int) (hF : Yk p0 p1 = some r) :
  Calls Try.prog 42 [v0_1,vI p1].toArray w0 (fun en w'=>∃ v,en = .returned v ∧ (v = (vI r) ∧ Kept (Old w0) w0 w')):=by
 refine Zy (n:=12) Try.func42 rfl rfl (nbl rfl) rfl ?_
 intro a hE
 have hM:=M.start w0
 unfold Yk at hF
 refine Zb (Zc hE Za ld rfl fun a hE=>Ze (Zb (Zd hE Za ld rfl fun a hE=>Zd hE Za ld rfl fun a hE=>ZH hE Za ld rfl Try.underlying22 (hM.rd hv0_1) fun a hE=>Zh hE Za ld rfl rfl rfl fun a hE=>Zc hE Za ld rfl fun a hE=>Ze (wp_seq (Zb (Zd hE Za ld rfl fun a hE=>Zh hE Za ld rfl rfl rfl fun a hE=>Ze ?_))))))
 refine Zj hE rfl ?_ ?_
 ·intro hb1
  have hF:=Zo hF hb1
  refine Zb (Zc hE Za ld rfl fun a hE=>Ze ?_)
  have hr:=Option.some.inj hF
  subst hr
  exact wp_ret (Zi (Zm hE rfl (Zg hE rfl) ⟨_,rfl,rfl,hM.kept⟩))
 ·intro hb1
  have hF:=Zp hF hb1
  refine wp_skip (Zv (Zb (Zd hE Za ld rfl fun a hE=>Zc hE Za ld rfl fun a hE=>Ze ?_)))
  have hr:=Option.some.inj hF
  subst hr
  exact wp_ret (Zm hE rfl (Zg hE rfl) ⟨_,rfl,rfl,hM.kept⟩)
def Y9 (p0 : (List (List UInt8))) (s6 : Int × Int) : Option (Fl (Int × Int) (Fl Int Int)) :=
 if (decide (s6.2 < (p0.length : Int))) = true then ((idx p0 s6.2).bind fun x11=>(Yk x11 s6.1).bind fun r19=>if (decide (r19 < 0)) = true then (some (Fl.ex (Fl.ex (-1)))) else (some (Fl.nx (r19,wr (s6.2 + 1))))) else (some (Fl.ex (Fl.nx s6.1)))
def Yt (p0 : (List (List UInt8))) (p1 : Int) : Option (Int) :=
 if (decide ((wr (p1 - (p0.length : Int))) < 0)) = true then (some (-1)) else ((Zz (Y9 p0) (wr (p1 - (p0.length : Int)),0)).bind fun j2=>j2.el (fun s5=>some s5) (fun r=>some r))
theorem Vv (w0 : World) (p0 : (List (List UInt8))) (v0_1 : Value) (hv0_1 : Ro w0 p0 [v0_1]) (p1 : Int) (r : Int) (hF : Yt p0 p1 = some r) :
  Calls Try.prog 8 [v0_1,vI p1].toArray w0 (fun en w'=>∃ v,en = .returned v ∧ (v = (vI r) ∧ Kept (Old w0) w0 w')):=by
 refine Zy (n:=27) Try.func8 rfl rfl (nbl rfl) rfl ?_
 intro a hE
 have hM:=M.start w0
 unfold Yt at hF
 refine Zb (Zc hE Za ld rfl fun a hE=>Ze (Zb (Zd hE Za ld rfl fun a hE=>Zd hE Za ld rfl fun a hE=>ZH hE Za ld rfl Try.underlying23 (hM.rd hv0_1) fun a hE=>Zh hE Za ld rfl rfl rfl fun a hE=>Zc hE Za ld rfl fun a hE=>Ze (wp_seq (Zb (Zd hE Za ld rfl fun a hE=>Zh hE Za ld rfl rfl rfl fun a hE=>Ze ?_))))))
 refine Zj hE rfl ?_ ?_
 ·intro hb1
  have hF:=Zo hF hb1
  refine Zb (Zc hE Za ld rfl fun a hE=>Ze ?_)
  have hr:=Option.some.inj hF
  subst hr
  exact wp_ret (Zi (Zm hE rfl (Zg hE rfl) ⟨_,rfl,rfl,hM.kept⟩))
 ·intro hb1
  have hF:=Zp hF hb1
  refine wp_skip (Zv (wp_seq (Zb (Zc hE Za ld rfl fun a hE=>Ze ?_))))
  obtain ⟨j2,hl3,hF4⟩:=bind_some hF
  refine Yb (fun a w=>∃ s5 : Int,j2 = Fl.nx s5 ∧ Env 27 a [(1,vI s5)] ∧ M (Old w0) w0 w []) ?_ ?_
  ·skip
   refine wp_block ?_
   refine ZL (fun (s6 : Int × Int) a w=>Env 27 a [(0,v0_1),(1,vI s6.1),(5,vI s6.2)] ∧ M (Old w0) w0 w []) hl3 ⟨hE.sub ⟨rfl,rfl,rfl,trivial⟩,hM⟩ ?_
   rintro s6 a w ⟨hE,hM⟩ o9 hs7 hx8
   unfold Y9 at hs7
   refine wp_seq (Zb (Zd hE Za ld rfl fun a hE=>Zd hE Za ld rfl fun a hE=>ZH hE Za ld rfl Try.underlying23 (hM.rd hv0_1) fun a hE=>Zh hE Za ld rfl rfl rfl fun a hE=>Ze ?_))
   refine Zj hE rfl ?_ ?_
   ·intro hb10
    have hs7:=Zo hs7 hb10
    refine wp_skip (Zv (wp_seq (wp_block (Zb (Zd hE Za ld rfl fun a hE=>Zd hE Za ld rfl ?_))))); intro a hE
    obtain ⟨x11,hi13,hs7⟩:=bix hs7
    refine Zw hE Za ld rfl rfl Try.underlying23 Xm (hM.rd hv0_1) hi13.1 ?_; intro a hE
    obtain ⟨cs14,hs15,hA16⟩:=Xg hv0_1 hi13.2 -- ^
    obtain ⟨u17,rfl⟩:=XN hs15 -- ^
    have h18:=hs15 -- ^
    refine ZG (v:=u17) hE Za ld rfl Xm rfl (hM.atk hA16 (XC hv0_1 hi13.2)) fun a hE=>Zd hE Za ld rfl ?_; intro a hE
    obtain ⟨r19,e20,hs7⟩:=bind_some hs7
    refine Zq hE Za ld rfl cb42 (Ua _ x11 u17 (hM.rdo h18) s6.1 r19 e20) ?_
    rintro v w a ⟨rfl,hK⟩ hE
    have hM:=hM.keep hK
    refine Zc hE Za ld rfl fun a hE=>Ze (Zb (Zd hE Za ld rfl fun a hE=>Zh hE Za ld rfl rfl rfl fun a hE=>Ze ?_))
    refine Zj hE rfl ?_ ?_
    ·intro hb21
     have hs7:=Zo hs7 hb21
     refine Zb (Zc hE Za ld rfl fun a hE=>Ze ?_)
     have ht22:=hx8 _ (ois hs7)
     subst ht22
     have hr:=Option.some.inj hF4
     subst hr
     exact wp_ret (Z1 (Zi (Zi (Z1 (Zi (Zi (Zm hE rfl (Zg hE rfl) ⟨_,rfl,rfl,hM.kept⟩)))))))
    ·intro hb21
     have hs7:=Zp hs7 hb21
     refine wp_skip (Xf (Zv (wp_region_lit (Zd hE Za ld rfl fun a hE=>Zh hE Za ld rfl rfl rfl fun a hE=>Zc hE Za ld rfl fun a hE=>Zk (Zl ?_)))))
     exact ⟨_,(ois hs7),hE.sub ⟨rfl,rfl,rfl,trivial⟩,hM⟩
   ·intro hb10
    have hs7:=Zp hs7 hb10
    refine wp_exit (Zs (Zs (Xl ?_)))
    have ht23:=hx8 _ (ois hs7)
    subst ht23
    refine Zl ?_
    exact ⟨s6.1,rfl,hE.sub ⟨rfl,trivial⟩,hM⟩
  ·skip
   rintro a w ⟨s5,ht,hE,hM⟩
   subst ht
   have hF4:=XX hF4
   refine Zv (Zb (Zd hE Za ld rfl fun a hE=>Zc hE Za ld rfl fun a hE=>Ze ?_))
   have hr:=Option.some.inj hF4
   subst hr
   exact wp_ret (Zm hE rfl (Zg hE rfl) ⟨_,rfl,rfl,hM.kept⟩)
def Xj (p0 : (List UInt8)) (s10 : (List UInt8) × Int) : Option (Fl ((List UInt8) × Int) (List UInt8)) :=
 if (decide (s10.2 < (p0.length : Int))) = true then ((idx p0 s10.2).bind fun x17=>(idx s10.1 s10.2).bind fun x20=>some (Fl.nx ((s10.1.set (s10.2).toNat x17),wr (s10.2 + 1)))) else (some (Fl.ex s10.1))
def ZA (p0 : (List UInt8)) : Option ((List UInt8)) :=
 (mkS 1 (0 : UInt8) (p0.length : Int)).bind fun l1=>(Zz (Xj p0) (l1,0)).bind fun j5=>some j5
theorem ZP (w0 : World) (p0 : (List UInt8)) (v0_1 : Value) (hv0_1 : Ro w0 p0 [v0_1]) (r : (List UInt8)) (hF : ZA p0 = some r) :
  Calls Try.prog 10 [v0_1].toArray w0 (fun en w'=>∃ v,en = .returned v ∧ (∃ (y1 : Value),v = y1 ∧ Fr w0 w' [osl NoB (r : List UInt8) y1] ∧ Kept (Old w0) w0 w')):=by
 refine Zy (n:=22) Try.func10 rfl rfl (nbl rfl) rfl ?_
 intro a hE
 have hM:=M.start w0
 unfold ZA at hF
 refine Zb (Zc hE Za ld rfl fun a hE=>Ze (Zb (Zd hE Za ld rfl fun a hE=>ZH hE Za ld rfl Try.underlying22 (hM.rd hv0_1) ?_))); intro a hE
 obtain ⟨l1,e2,hF⟩:=bind_some hF
 refine Qi hE hM Za ld rfl rfl Try.underlying22 ty5 rfl (by decide) (fun _=>Qd.2 ⟨rfl,rfl⟩) e2 fun u3 w a hM hE=>Zc hE Za ld rfl fun a hE=>Ze (wp_seq (Zb (Zc hE Za ld rfl fun a hE=>Ze ?_)))
 obtain ⟨j5,hl6,hF7⟩:=bind_some hF
 refine Yb (fun a w=>∃ (u8 : Value),Env 22 a [(3,u8)] ∧ M (Old w0) w0 w [osl NoB (j5 : List UInt8) u8]) ?_ ?_
 ·skip
  refine wp_block ?_
  refine ZL (fun (s10 : (List UInt8) × Int) a w=>∃ (u11 : Value),Env 22 a [(0,v0_1),(3,u11),(4,vI s10.2)] ∧ M (Old w0) w0 w [osl NoB (s10.1 : List UInt8) u11]) hl6 ⟨u3,hE.sub ⟨rfl,rfl,rfl,trivial⟩,hM⟩ ?_
  rintro s10 a w ⟨u11,hE,hM⟩ o15 hs13 hx14
  unfold Xj at hs13
  refine wp_seq (Zb (Zd hE Za ld rfl fun a hE=>Zd hE Za ld rfl fun a hE=>ZH hE Za ld rfl Try.underlying22 (hM.rd hv0_1) fun a hE=>Zh hE Za ld rfl rfl rfl fun a hE=>Ze ?_))
  refine Zj hE rfl ?_ ?_
  ·intro hb16
   have hs13:=Zo hs13 hb16
   refine wp_skip (Zv (wp_seq (wp_block (wp_region_lit (Zd hE Za ld rfl fun a hE=>Zd hE Za ld rfl fun a hE=>Zd hE Za ld rfl fun a hE=>Zd hE Za ld rfl ?_))))); intro a hE
   obtain ⟨x17,hi19,hs13⟩:=bix hs13
   refine Zw hE Za ld rfl rfl Try.underlying22 ty5 (hM.rd hv0_1) hi19.1 fun a hE=>ZG (v:=(vB x17)) hE Za ld rfl ty5 rfl (Xk (hM.rd hv0_1) hi19.2) ?_; intro a hE
   obtain ⟨x20,hi22,hs13⟩:=bix hs13
   refine Zw hE Za ld rfl rfl Try.underlying22 ty5 (hM.sl (pre:=[]) noB) hi22.1 fun a hE=>U3 (i:=(s10.2).toNat) (k0:=0) (seg:=[vB x17]) (xo:=x20) (xn:=x17) hE hM Za rfl rfl rfl ty5 rfl (Flat.cell (x17 : UInt8)) hi22.2 (UP (m:=1) rfl (by decide)) (XQ rfl) fun w a hM hE=>Zk (Xf (Zv (wp_region_lit (Zd hE Za ld rfl fun a hE=>Zh hE Za ld rfl rfl rfl fun a hE=>Zc hE Za ld rfl fun a hE=>Zk (Zl ?_)))))
   exact ⟨_,(ois hs13),u11,hE.sub ⟨rfl,rfl,rfl,trivial⟩,hM⟩
  ·intro hb16
   have hs13:=Zp hs13 hb16
   refine wp_exit (Zs (Zs (Xl ?_)))
   have ht23:=hx14 _ (ois hs13)
   subst ht23
   refine Zl ?_
   exact ⟨u11,hE.sub ⟨rfl,trivial⟩,hM⟩
 ·skip
  rintro a w ⟨u8,hE,hM⟩
  refine Zv (Zb (Zd hE Za ld rfl fun a hE=>Zc hE Za ld rfl fun a hE=>Ze ?_))
  have hr:=Option.some.inj hF7
  subst hr
  exact wp_ret (Zm hE rfl (Zg hE rfl) ⟨_,rfl,u8,rfl,hM.outF (Wg Wj),hM.kept⟩)
def Xa (p0 : (List (List UInt8))) (s10 : (List (List UInt8)) × Int) : Option (Fl ((List (List UInt8)) × Int) (List (List UInt8))) :=
 if (decide (s10.2 < (p0.length : Int))) = true then ((idx p0 s10.2).bind fun x17=>(ZA x17).bind fun r25=>(idx s10.1 s10.2).bind fun x28=>some (Fl.nx ((s10.1.set (s10.2).toNat r25),wr (s10.2 + 1)))) else (some (Fl.ex s10.1))
def ZW (p0 : (List (List UInt8))) : Option ((List (List UInt8))) :=
 (mkS 24 ([] : (List UInt8)) (p0.length : Int)).bind fun l1=>(Zz (Xa p0) (l1,0)).bind fun j5=>some j5
theorem Xh (w0 : World) (p0 : (List (List UInt8))) (v0_1 : Value) (hv0_1 : Ro w0 p0 [v0_1]) (r : (List (List UInt8))) (hF : ZW p0 = some r) :
  Calls Try.prog 11 [v0_1].toArray w0 (fun en w'=>∃ v,en = .returned v ∧ (∃ (y1 : Value),v = y1 ∧ Fr w0 w' [osl NoB (r : List (List UInt8)) y1] ∧ Kept (Old w0) w0 w')):=by
 refine Zy (n:=23) Try.func11 rfl rfl (nbl rfl) rfl ?_
 intro a hE
 have hM:=M.start w0
 unfold ZW at hF
 refine Zb (Zc hE Za ld rfl fun a hE=>Ze (Zb (Zd hE Za ld rfl fun a hE=>ZH hE Za ld rfl Try.underlying23 (hM.rd hv0_1) ?_))); intro a hE
 obtain ⟨l1,e2,hF⟩:=bind_some hF
 refine Qi hE hM Za ld rfl rfl Try.underlying23 Xm rfl (by decide) (fun _=>U6) e2 fun u3 w a hM hE=>Zc hE Za ld rfl fun a hE=>Ze (wp_seq (Zb (Zc hE Za ld rfl fun a hE=>Ze ?_)))
 obtain ⟨j5,hl6,hF7⟩:=bind_some hF
 refine Yb (fun a w=>∃ (u8 : Value),Env 23 a [(3,u8)] ∧ M (Old w0) w0 w [osl NoB (j5 : List (List UInt8)) u8]) ?_ ?_
 ·skip
  refine wp_block ?_
  refine ZL (fun (s10 : (List (List UInt8)) × Int) a w=>∃ (u11 : Value),Env 23 a [(0,v0_1),(3,u11),(4,vI s10.2)] ∧ M (Old w0) w0 w [osl NoB (s10.1 : List (List UInt8)) u11]) hl6 ⟨u3,hE.sub ⟨rfl,rfl,rfl,trivial⟩,hM⟩ ?_
  rintro s10 a w ⟨u11,hE,hM⟩ o15 hs13 hx14
  unfold Xa at hs13
  refine wp_seq (Zb (Zd hE Za ld rfl fun a hE=>Zd hE Za ld rfl fun a hE=>ZH hE Za ld rfl Try.underlying23 (hM.rd hv0_1) fun a hE=>Zh hE Za ld rfl rfl rfl fun a hE=>Ze ?_))
  refine Zj hE rfl ?_ ?_
  ·intro hb16
   have hs13:=Zo hs13 hb16
   refine wp_skip (Zv (wp_seq (wp_block (wp_region_lit (Zd hE Za ld rfl fun a hE=>Zd hE Za ld rfl fun a hE=>Zd hE Za ld rfl fun a hE=>Zd hE Za ld rfl ?_))))); intro a hE
   obtain ⟨x17,hi19,hs13⟩:=bix hs13
   refine Zw hE Za ld rfl rfl Try.underlying23 Xm (hM.rd hv0_1) hi19.1 ?_; intro a hE
   obtain ⟨cs20,hs21,hA22⟩:=Xg hv0_1 hi19.2 -- ^
   obtain ⟨u23,rfl⟩:=XN hs21 -- ^
   have h24:=hs21 -- ^
   refine ZG (v:=u23) hE Za ld rfl Xm rfl (hM.atk hA22 (XC hv0_1 hi19.2)) ?_; intro a hE
   obtain ⟨r25,e26,hs13⟩:=bind_some hs13
   refine Zq hE Za ld rfl UI (ZP _ x17 u23 (hM.rdo h24) r25 e26) ?_
   rintro u27 w a ⟨_,rfl,hFr,hK⟩ hE
   have hM:=hM.add hK hFr
   obtain ⟨x28,hi30,hs13⟩:=bix hs13
   refine Zw hE Za ld rfl rfl Try.underlying23 Xm (hM.sl (pre:=[_]) noB) hi30.1 ?_; intro a hE
   have hc31:=Uc (hM.sl (pre:=[]) noB)
   have hM:=((hM.pack1 (it:=own NoB r25 ([u27])) (Wd noB) (fun f0 q0=>(Yr.sat q0))).pull (pre:=[_])).pull (pre:=[_])
   refine Qs (i:=(s10.2).toNat) (seg:=[u27]) hE hM noB Za rfl rfl hc31 Xm (by omega) fun w a hM hE=>Zk (Xf (Zv (wp_region_lit (Zd hE Za ld rfl fun a hE=>Zh hE Za ld rfl rfl rfl fun a hE=>Zc hE Za ld rfl fun a hE=>Zk (Zl ?_)))))
   exact ⟨_,(ois hs13),u11,hE.sub ⟨rfl,rfl,rfl,trivial⟩,hM⟩
  ·intro hb16
   have hs13:=Zp hs13 hb16
   refine wp_exit (Zs (Zs (Xl ?_)))
   have ht32:=hx14 _ (ois hs13)
   subst ht32
   refine Zl ?_
   exact ⟨u11,hE.sub ⟨rfl,trivial⟩,hM⟩
 ·skip
  rintro a w ⟨u8,hE,hM⟩
  refine Zv (Zb (Zd hE Za ld rfl fun a hE=>Zc hE Za ld rfl fun a hE=>Ze ?_))
  have hr:=Option.some.inj hF7
  subst hr
  exact wp_ret (Zm hE rfl (Zg hE rfl) ⟨_,rfl,u8,rfl,hM.outF (Wg Wj),hM.kept⟩)
def Xv (p0 : Int) (p1 : Int) (p2 : Int) : Option (Bool) :=
 (if (decide (p0 ≥ p1)) = true then (some (decide (p0 ≤ p2))) else (some false) : Option (Bool)).bind fun j1=>some j1
theorem UJ (w0 : World) (p0 : Int) (p1 : Int) (p2 : Int) (r : Bool) (hF : Xv p0 p1 p2 = some r) :
  Calls Try.prog 82 [vI p0,vI p1,vI p2].toArray w0 (fun en w'=>∃ v,en = .returned v ∧ (v = (vT r) ∧ Kept (Old w0) w0 w')):=by
 refine Zy (n:=15) Try.func82 rfl rfl (nbl rfl) rfl ?_
 intro a hE
 have hM:=M.start w0
 unfold Xv at hF
 refine Zb (Zc hE Za ld rfl fun a hE=>Ze ?_)
 obtain ⟨j1,hl2,hF3⟩:=bind_some hF
 refine YY (fun a w=>Env 15 a [(6,vT j1)] ∧ M (Old w0) w0 w []) ?_ ?_
 ·skip
  refine wp_region_lit (Zd hE Za ld rfl fun a hE=>Zd hE Za ld rfl fun a hE=>Zh hE Za ld rfl rfl rfl fun a hE=>Zd hE Za ld rfl ?_); intro a hE
  refine XA (decide (p0 ≥ p1)) (fun hb4=>?_) (fun hb4=>?_)
  ·have hl2:=Zo hl2 hb4
   refine Zd hE (Zn hE rfl (lkb rfl hb4)) (by decide) rfl fun a hE=>Zd hE (Zn hE rfl (lkb rfl hb4)) (by decide) rfl fun a hE=>Zh hE (Zn hE rfl (lkb rfl hb4)) (by decide) rfl rfl rfl fun a hE=>Yp hE Za ld (lkb rfl hb4) rfl fun a hE=>Zc hE Za ld rfl fun a hE=>Zk ?_
   have ht5:=Option.some.inj hl2
   subst ht5
   refine Zl ?_
   exact ⟨hE.sub ⟨rfl,trivial⟩,hM⟩
  ·have hl2:=Zp hl2 hb4
   refine Zr hE rfl (lkb rfl hb4) rfl (by decide) fun a hE=>Zr hE rfl (lkb rfl hb4) rfl (by decide) fun a hE=>Zr hE rfl (lkb rfl hb4) rfl (by decide) fun a hE=>Xe hE Za ld (lkb rfl hb4) rfl fun a hE=>Zc hE Za ld rfl fun a hE=>Zk ?_
   have ht6:=Option.some.inj hl2
   subst ht6
   refine Zl ?_
   exact ⟨hE.sub ⟨rfl,trivial⟩,hM⟩
 ·skip
  rintro a w ⟨hE,hM⟩
  have hr:=Option.some.inj hF3
  subst hr
  exact wp_ret (Zm hE rfl (Zg hE rfl) ⟨_,rfl,rfl,hM.kept⟩)
def ZI (s4 : Int × Int) : Option (Fl (Int × Int) Int) :=
 if (decide (s4.1 > 0)) = true then (some (Fl.nx (wr (Int.tdiv s4.1 2),wr (s4.2 + 1)))) else (some (Fl.ex s4.2))
def Z0 (p0 : Int) : Option (Int) :=
 (Zz (ZI) (p0,0)).bind fun j1=>some j1
theorem XB (w0 : World) (p0 : Int) (r : Int) (hF : Z0 p0 = some r) :
  Calls Try.prog 139 [vI p0].toArray w0 (fun en w'=>∃ v,en = .returned v ∧ (v = (vI r) ∧ Kept (Old w0) w0 w')):=by
 refine Zy (n:=11) Try.func139 rfl rfl (nbl rfl) rfl ?_
 intro a hE
 have hM:=M.start w0
 unfold Z0 at hF
 refine Zb (Zc hE Za ld rfl fun a hE=>Ze (Zb (Zc hE Za ld rfl fun a hE=>Ze ?_)))
 obtain ⟨j1,hl2,hF3⟩:=bind_some hF
 refine YY (fun a w=>Env 11 a [(3,vI j1)] ∧ M (Old w0) w0 w []) ?_ ?_
 ·skip
  refine wp_block ?_
  refine ZL (fun (s4 : Int × Int) a w=>Env 11 a [(0,vI s4.1),(3,vI s4.2)] ∧ M (Old w0) w0 w []) hl2 ⟨hE.sub ⟨rfl,rfl,trivial⟩,hM⟩ ?_
  rintro s4 a w ⟨hE,hM⟩ o7 hs5 hx6
  unfold ZI at hs5
  refine wp_seq (Zb (Zd hE Za ld rfl fun a hE=>Zh hE Za ld rfl rfl rfl fun a hE=>Ze ?_))
  refine Zj hE rfl ?_ ?_
  ·intro hb8
   have hs5:=Zo hs5 hb8
   refine wp_skip (Zv (wp_seq (wp_block (wp_region_lit (Zd hE Za ld rfl fun a hE=>Zh hE Za ld rfl rfl rfl fun a hE=>Zc hE Za ld rfl fun a hE=>Zk (Xf (Zv (wp_region_lit (Zd hE Za ld rfl fun a hE=>Zh hE Za ld rfl rfl (Qm _ _ (by decide)) fun a hE=>Zc hE Za ld rfl fun a hE=>Zk (Zl ?_))))))))))
   exact ⟨_,(ois hs5),hE.sub ⟨rfl,rfl,trivial⟩,hM⟩
  ·intro hb8
   have hs5:=Zp hs5 hb8
   refine wp_exit (Zs (Zs (Xl ?_)))
   have ht9:=hx6 _ (ois hs5)
   subst ht9
   refine Zl ?_
   exact ⟨hE.sub ⟨rfl,trivial⟩,hM⟩
 ·skip
  rintro a w ⟨hE,hM⟩
  refine Zb (Zd hE Za ld rfl fun a hE=>Zc hE Za ld rfl fun a hE=>Ze ?_)
  have hr:=Option.some.inj hF3
  subst hr
  exact wp_ret (Zm hE rfl (Zg hE rfl) ⟨_,rfl,rfl,hM.kept⟩)
def Yu (p1 : Int) (r1 : Int) (s8 : Int × Int) : Option (Fl (Int × Int) Int) :=
 if (decide (s8.2 ≥ r1)) = true then ((ZZ (IntKind.u64.wrap (wr (s8.2 - r1)))).bind fun _=>(Z0 (Vb s8.1 (Wq p1 (IntKind.u64.wrap (wr (s8.2 - r1)))))).bind fun r14=>some (Fl.nx (Vb s8.1 (Wq p1 (IntKind.u64.wrap (wr (s8.2 - r1)))),r14))) else (some (Fl.ex s8.1))
def Y4 (p0 : Int) (p1 : Int) : Option (Int) :=
 (Z0 p1).bind fun r1=>(Z0 p0).bind fun r3=>(Zz (Yu p1 r1) (p0,r3)).bind fun j5=>some j5
theorem V7 (w0 : World) (p0 : Int) (p1 : Int) (r : Int) (hF : Y4 p0 p1 = some r) :
  Calls Try.prog 95 [vI p0,vI p1].toArray w0 (fun en w'=>∃ v,en = .returned v ∧ (v = (vI r) ∧ Kept (Old w0) w0 w')):=by
 refine Zy (n:=25) Try.func95 rfl rfl (nbl rfl) rfl ?_
 intro a hE
 have hM:=M.start w0
 unfold Y4 at hF
 refine Zb (Zc hE Za ld rfl fun a hE=>Ze (Zb (Zd hE Za ld rfl ?_))); intro a hE
 obtain ⟨r1,e2,hF⟩:=bind_some hF
 refine Zq hE Za ld rfl Qe (XB _ p1 r1 e2) ?_
 rintro v w a ⟨rfl,hK⟩ hE
 have hM:=hM.keep hK
 refine Zc hE Za ld rfl fun a hE=>Ze (wp_seq (Zb (Zd hE Za ld rfl ?_))); intro a hE
 obtain ⟨r3,e4,hF⟩:=bind_some hF
 refine Zq hE Za ld rfl Qe (XB _ p0 r3 e4) ?_
 rintro v w a ⟨rfl,hK⟩ hE
 have hM:=hM.keep hK
 refine Zc hE Za ld rfl fun a hE=>Ze ?_
 obtain ⟨j5,hl6,hF7⟩:=bind_some hF
 refine Yb (fun a w=>Env 25 a [(0,vI j5)] ∧ M (Old w0) w0 w []) ?_ ?_
 ·skip
  refine wp_block ?_
  refine ZL (fun (s8 : Int × Int) a w=>Env 25 a [(0,vI s8.1),(1,vI p1),(5,vI r1),(6,vI s8.2)] ∧ M (Old w0) w0 w []) hl6 ⟨hE.sub ⟨rfl,rfl,rfl,rfl,trivial⟩,hM⟩ ?_
  rintro s8 a w ⟨hE,hM⟩ o11 hs9 hx10
  unfold Yu at hs9
  refine wp_seq (Zb (Zd hE Za ld rfl fun a hE=>Zd hE Za ld rfl fun a hE=>Zh hE Za ld rfl rfl rfl fun a hE=>Ze ?_))
  refine Zj hE rfl ?_ ?_
  ·intro hb12
   have hs9:=Zo hs9 hb12
   refine wp_skip (Zv (wp_seq (wp_block (wp_region_lit (Zd hE Za ld rfl fun a hE=>Zd hE Za ld rfl fun a hE=>Zd hE Za ld rfl fun a hE=>Zd hE Za ld rfl fun a hE=>Zh hE Za ld rfl rfl rfl fun a hE=>X2 hE Za ld rfl Try.underlying2 Try.underlying162 ?_))))); intro a hE
   obtain ⟨_,e13,hs9⟩:=bind_some hs9
   have e13:=Y5 e13
   refine Te hE Za ld rfl rfl (V0 _ _ e13) fun a hE=>Zh hE Za ld rfl rfl rfl fun a hE=>Zc hE Za ld rfl fun a hE=>Zk (Xf (Zv (wp_region_lit (Zd hE Za ld rfl ?_)))); intro a hE
   obtain ⟨r14,e15,hs9⟩:=bind_some hs9
   refine Zq hE Za ld rfl Qe (XB _ (Vb s8.1 (Wq p1 (IntKind.u64.wrap (wr (s8.2 - r1))))) r14 e15) ?_
   rintro v w a ⟨rfl,hK⟩ hE
   have hM:=hM.keep hK
   refine Zc hE Za ld rfl fun a hE=>Zk (Zl ?_)
   exact ⟨_,(ois hs9),hE.sub ⟨rfl,rfl,rfl,rfl,trivial⟩,hM⟩
  ·intro hb12
   have hs9:=Zp hs9 hb12
   refine wp_exit (Zs (Zs (Xl ?_)))
   have ht16:=hx10 _ (ois hs9)
   subst ht16
   refine Zl ?_
   exact ⟨hE.sub ⟨rfl,trivial⟩,hM⟩
 ·skip
  rintro a w ⟨hE,hM⟩
  refine Zv (Zb (Zd hE Za ld rfl fun a hE=>Zc hE Za ld rfl fun a hE=>Ze ?_))
  have hr:=Option.some.inj hF7
  subst hr
  exact wp_ret (Zm hE rfl (Zg hE rfl) ⟨_,rfl,rfl,hM.kept⟩)
def Yd (p0 : Int) (s8 : Int) : Option (Fl Int (Fl Unit Bool)) :=
 if (decide (s8 < 32)) = true then ((Y4 p0 s8).bind fun r13=>if (r13 == 0) = true then (some (Fl.ex (Fl.ex false))) else (some (Fl.nx (wr (s8 + 1))))) else (some (Fl.ex (Fl.nx ())))
def YS (p0 : Int) : Option (Bool) :=
 (Xv p0 256 511).bind fun r1=>if (!r1) = true then (some false) else ((Zz (Yd p0) 2).bind fun j4=>j4.el (fun s7=>some true) (fun r=>some r))
theorem VF (w0 : World) (p0 : Int) (r : Bool) (hF : YS p0 = some r) :
  Calls Try.prog 43 [vI p0].toArray w0 (fun en w'=>∃ v,en = .returned v ∧ (v = (vT r) ∧ Kept (Old w0) w0 w')):=by
 refine Zy (n:=15) Try.func43 rfl rfl (nbl rfl) rfl ?_
 intro a hE
 have hM:=M.start w0
 unfold YS at hF
 refine Zb (Zc hE Za ld rfl fun a hE=>Ze (wp_seq (Zb (Zd hE Za ld rfl ?_)))); intro a hE
 obtain ⟨r1,e2,hF⟩:=bind_some hF
 refine Zq hE Za ld rfl cb82 (UJ _ p0 256 511 r1 e2) ?_
 rintro v w a ⟨rfl,hK⟩ hE
 have hM:=hM.keep hK
 refine Xx hE Za ld rfl fun a hE=>Ze ?_
 refine Zj hE rfl ?_ ?_
 ·intro hb3
  have hF:=Zo hF hb3
  refine Zb (Zc hE Za ld rfl fun a hE=>Ze ?_)
  have hr:=Option.some.inj hF
  subst hr
  exact wp_ret (Zi (Zm hE rfl (Zg hE rfl) ⟨_,rfl,rfl,hM.kept⟩))
 ·intro hb3
  have hF:=Zp hF hb3
  refine wp_skip (Zv (wp_seq (Zb (Zc hE Za ld rfl fun a hE=>Ze ?_))))
  obtain ⟨j4,hl5,hF6⟩:=bind_some hF
  refine Yb (fun a w=>∃ s7 : Unit,j4 = Fl.nx s7 ∧ Env 15 a [] ∧ M (Old w0) w0 w []) ?_ ?_
  ·skip
   refine wp_block ?_
   refine ZL (fun (s8 : Int) a w=>Env 15 a [(0,vI p0),(3,vI s8)] ∧ M (Old w0) w0 w []) hl5 ⟨hE.sub ⟨rfl,rfl,trivial⟩,hM⟩ ?_
   rintro s8 a w ⟨hE,hM⟩ o11 hs9 hx10
   unfold Yd at hs9
   refine wp_seq (Zb (Zd hE Za ld rfl fun a hE=>Zh hE Za ld rfl rfl rfl fun a hE=>Ze ?_))
   refine Zj hE rfl ?_ ?_
   ·intro hb12
    have hs9:=Zo hs9 hb12
    refine wp_skip (Zv (wp_seq (wp_block (Zb (Zd hE Za ld rfl fun a hE=>Zd hE Za ld rfl ?_))))); intro a hE
    obtain ⟨r13,e14,hs9⟩:=bind_some hs9
    refine Zq hE Za ld rfl cb95 (V7 _ p0 s8 r13 e14) ?_
    rintro v w a ⟨rfl,hK⟩ hE
    have hM:=hM.keep hK
    refine Zh hE Za ld rfl rfl rfl fun a hE=>Ze ?_
    refine Zj hE rfl ?_ ?_
    ·intro hb15
     have hs9:=Zo hs9 hb15
     refine Zb (Zc hE Za ld rfl fun a hE=>Ze ?_)
     have ht16:=hx10 _ (ois hs9)
     subst ht16
     have hr:=Option.some.inj hF6
     subst hr
     exact wp_ret (Z1 (Zi (Zi (Z1 (Zi (Zi (Zm hE rfl (Zg hE rfl) ⟨_,rfl,rfl,hM.kept⟩)))))))
    ·intro hb15
     have hs9:=Zp hs9 hb15
     refine wp_skip (Xf (Zv (wp_region_lit (Zd hE Za ld rfl fun a hE=>Zh hE Za ld rfl rfl rfl fun a hE=>Zc hE Za ld rfl fun a hE=>Zk (Zl ?_)))))
     exact ⟨_,(ois hs9),hE.sub ⟨rfl,rfl,trivial⟩,hM⟩
   ·intro hb12
    have hs9:=Zp hs9 hb12
    refine wp_exit (Zs (Zs (Xl ?_)))
    have ht17:=hx10 _ (ois hs9)
    subst ht17
    refine Zl ?_
    exact ⟨(),rfl,hE.sub trivial,hM⟩
  ·skip
   rintro a w ⟨s7,ht,hE,hM⟩
   subst ht
   have hF6:=XX hF6
   refine Zv (Zb (Zc hE Za ld rfl fun a hE=>Ze ?_))
   have hr:=Option.some.inj hF6
   subst hr
   exact wp_ret (Zm hE rfl (Zg hE rfl) ⟨_,rfl,rfl,hM.kept⟩)
def YI (p0 : (List (List UInt8))) (p1 : Int) (s5 : Int) : Option (Fl Int (Fl Unit Bool)) :=
 if (decide (s5 < (p0.length : Int))) = true then ((idx p0 s5).bind fun x10=>if ((x10.length : Int) != p1) = true then (some (Fl.ex (Fl.ex false))) else (some (Fl.nx (wr (s5 + 1))))) else (some (Fl.ex (Fl.nx ())))
def YR (p0 : (List (List UInt8))) (p1 : Int) : Option (Bool) :=
 (Zz (YI p0 p1) 0).bind fun j1=>j1.el (fun s4=>some (decide ((p0.length : Int) ≤ 7))) (fun r=>some r)
theorem Vx (w0 : World) (p0 : (List (List UInt8))) (v0_1 : Value) (hv0_1 : Ro w0 p0 [v0_1]) (p1 : Int) (r : Bool) (hF : YR p0 p1 = some r) :
  Calls Try.prog 44 [v0_1,vI p1].toArray w0 (fun en w'=>∃ v,en = .returned v ∧ (v = (vT r) ∧ Kept (Old w0) w0 w')):=by
 refine Zy (n:=22) Try.func44 rfl rfl (nbl rfl) rfl ?_
 intro a hE
 have hM:=M.start w0
 unfold YR at hF
 refine Zb (Zc hE Za ld rfl fun a hE=>Ze (wp_seq (Zb (Zc hE Za ld rfl fun a hE=>Ze ?_))))
 obtain ⟨j1,hl2,hF3⟩:=bind_some hF
 refine Yb (fun a w=>∃ s4 : Unit,j1 = Fl.nx s4 ∧ Env 22 a [(0,v0_1)] ∧ M (Old w0) w0 w []) ?_ ?_
 ·skip
  refine wp_block ?_
  refine ZL (fun (s5 : Int) a w=>Env 22 a [(0,v0_1),(1,vI p1),(5,vI s5)] ∧ M (Old w0) w0 w []) hl2 ⟨hE.sub ⟨rfl,rfl,rfl,trivial⟩,hM⟩ ?_
  rintro s5 a w ⟨hE,hM⟩ o8 hs6 hx7
  unfold YI at hs6
  refine wp_seq (Zb (Zd hE Za ld rfl fun a hE=>Zd hE Za ld rfl fun a hE=>ZH hE Za ld rfl Try.underlying23 (hM.rd hv0_1) fun a hE=>Zh hE Za ld rfl rfl rfl fun a hE=>Ze ?_))
  refine Zj hE rfl ?_ ?_
  ·intro hb9
   have hs6:=Zo hs6 hb9
   refine wp_skip (Zv (wp_seq (wp_block (Zb (Zd hE Za ld rfl fun a hE=>Zd hE Za ld rfl ?_))))); intro a hE
   obtain ⟨x10,hi12,hs6⟩:=bix hs6
   refine Zw hE Za ld rfl rfl Try.underlying23 Xm (hM.rd hv0_1) hi12.1 ?_; intro a hE
   obtain ⟨cs13,hs14,hA15⟩:=Xg hv0_1 hi12.2 -- ^
   obtain ⟨u16,rfl⟩:=XN hs14 -- ^
   have h17:=hs14 -- ^
   refine ZG (v:=u16) hE Za ld rfl Xm rfl (hM.atk hA15 (XC hv0_1 hi12.2)) fun a hE=>ZH hE Za ld rfl Try.underlying22 (hM.rd h17) fun a hE=>Zd hE Za ld rfl fun a hE=>Zh hE Za ld rfl rfl rfl fun a hE=>Ze ?_
   refine Zj hE rfl ?_ ?_
   ·intro hb18
    have hs6:=Zo hs6 hb18
    refine Zb (Zc hE Za ld rfl fun a hE=>Ze ?_)
    have ht19:=hx7 _ (ois hs6)
    subst ht19
    have hr:=Option.some.inj hF3
    subst hr
    exact wp_ret (Z1 (Zi (Zi (Z1 (Zi (Zi (Zm hE rfl (Zg hE rfl) ⟨_,rfl,rfl,hM.kept⟩)))))))
   ·intro hb18
    have hs6:=Zp hs6 hb18
    refine wp_skip (Xf (Zv (wp_region_lit (Zd hE Za ld rfl fun a hE=>Zh hE Za ld rfl rfl rfl fun a hE=>Zc hE Za ld rfl fun a hE=>Zk (Zl ?_)))))
    exact ⟨_,(ois hs6),hE.sub ⟨rfl,rfl,rfl,trivial⟩,hM⟩
  ·intro hb9
   have hs6:=Zp hs6 hb9
   refine wp_exit (Zs (Zs (Xl ?_)))
   have ht20:=hx7 _ (ois hs6)
   subst ht20
   refine Zl ?_
   exact ⟨(),rfl,hE.sub ⟨rfl,trivial⟩,hM⟩
 ·skip
  rintro a w ⟨s4,ht,hE,hM⟩
  subst ht
  have hF3:=XX hF3
  refine Zv (Zb (Zd hE Za ld rfl fun a hE=>ZH hE Za ld rfl Try.underlying23 (hM.rd hv0_1) fun a hE=>Zh hE Za ld rfl rfl rfl fun a hE=>Zc hE Za ld rfl fun a hE=>Ze ?_))
  have hr:=Option.some.inj hF3
  subst hr
  exact wp_ret (Zm hE rfl (Zg hE rfl) ⟨_,rfl,rfl,hM.kept⟩)
def Ye (p0 : (List UInt8)) (s5 : Int) (s14 : Int) : Option (Fl Int (Fl Unit Bool)) :=
 if (decide (s14 < s5)) = true then (((idx p0 s5).bind fun x23=>(idx p0 s14).bind fun x26=>some (x23 == x26) : Option (Bool)).bind fun j19=>if j19 = true then (some (Fl.ex (Fl.ex true))) else (some (Fl.nx (wr (s14 + 1))))) else (some (Fl.ex (Fl.nx ())))
def Yf (p0 : (List UInt8)) (s5 : Int) : Option (Fl Int (Fl Unit Bool)) :=
 if (decide (s5 < (p0.length : Int))) = true then ((Zz (Ye p0 s5) 0).bind fun j10=>j10.el (fun s13=>some (Fl.nx (wr (s5 + 1)))) (fun r=>some (Fl.ex (Fl.ex r)))) else (some (Fl.ex (Fl.nx ())))
def YT (p0 : (List UInt8)) : Option (Bool) :=
 (Zz (Yf p0) 0).bind fun j1=>j1.el (fun s4=>some false) (fun r=>some r)
theorem Vz (w0 : World) (p0 : (List UInt8)) (v0_1 : Value) (hv0_1 : Ro w0 p0 [v0_1]) (r : Bool) (hF : YT p0 = some r) :
  Calls Try.prog 96 [v0_1].toArray w0 (fun en w'=>∃ v,en = .returned v ∧ (v = (vT r) ∧ Kept (Old w0) w0 w')):=by
 refine Zy (n:=25) Try.func96 rfl rfl (nbl rfl) rfl ?_
 intro a hE
 have hM:=M.start w0
 unfold YT at hF
 refine Zb (Zc hE Za ld rfl fun a hE=>Ze (wp_seq (Zb (Zc hE Za ld rfl fun a hE=>Ze ?_))))
 obtain ⟨j1,hl2,hF3⟩:=bind_some hF
 refine Yb (fun a w=>∃ s4 : Unit,j1 = Fl.nx s4 ∧ Env 25 a [] ∧ M (Old w0) w0 w []) ?_ ?_
 ·skip
  refine wp_block ?_
  refine ZL (fun (s5 : Int) a w=>Env 25 a [(0,v0_1),(3,vI s5)] ∧ M (Old w0) w0 w []) hl2 ⟨hE.sub ⟨rfl,rfl,trivial⟩,hM⟩ ?_
  rintro s5 a w ⟨hE,hM⟩ o8 hs6 hx7
  unfold Yf at hs6
  refine wp_seq (Zb (Zd hE Za ld rfl fun a hE=>Zd hE Za ld rfl fun a hE=>ZH hE Za ld rfl Try.underlying22 (hM.rd hv0_1) fun a hE=>Zh hE Za ld rfl rfl rfl fun a hE=>Ze ?_))
  refine Zj hE rfl ?_ ?_
  ·intro hb9
   have hs6:=Zo hs6 hb9
   refine wp_skip (Zv (wp_seq (wp_block (Zb (Zc hE Za ld rfl fun a hE=>Ze ?_)))))
   obtain ⟨j10,hl11,hF12⟩:=bind_some hs6
   refine Yb (fun a w=>∃ s13 : Unit,j10 = Fl.nx s13 ∧ Env 25 a [(0,v0_1),(3,vI s5)] ∧ M (Old w0) w0 w []) ?_ ?_
   ·skip
    refine wp_block ?_
    refine ZL (fun (s14 : Int) a w=>Env 25 a [(0,v0_1),(3,vI s5),(4,vI s14)] ∧ M (Old w0) w0 w []) hl11 ⟨hE.sub ⟨rfl,rfl,rfl,trivial⟩,hM⟩ ?_
    rintro s14 a w ⟨hE,hM⟩ o17 hs15 hx16
    unfold Ye at hs15
    refine wp_seq (Zb (Zd hE Za ld rfl fun a hE=>Zd hE Za ld rfl fun a hE=>Zh hE Za ld rfl rfl rfl fun a hE=>Ze ?_))
    refine Zj hE rfl ?_ ?_
    ·intro hb18
     have hs15:=Zo hs15 hb18
     refine wp_skip (Zv (wp_seq (wp_block ?_)))
     obtain ⟨j19,hl20,hF21⟩:=bind_some hs15
     refine YY (fun a w=>Env 25 a [(0,v0_1),(3,vI s5),(4,vI s14),(24,vT j19)] ∧ M (Old w0) w0 w []) ?_ ?_
     ·skip
      obtain ⟨x23,hi25,hl20⟩:=bix hl20
      obtain ⟨x26,hi28,hl20⟩:=bix hl20
      refine VQ (n:=25) (hd:=[_,_,_,_,_,_,_,_,_]) (tl:=[]) Tx rfl rfl [16,17,18,19,20,21,22,23,24] (by decide) (fun w=>M (Old w0) w0 w []) (fun j=>([fun v _=>v = v0_1,fun v _=>v = (vI s5),fun v _=>v = (ptr (sb v0_1) (so v0_1 + (s5).toNat * 1)),fun v _=>v = (vB x23),fun v _=>v = v0_1,fun v _=>v = (vI s14),fun v _=>v = (ptr (sb v0_1) (so v0_1 + (s14).toNat * 1)),fun v _=>v = (vB x26),fun v _=>v = (vT (x23 == x26))] : List (Value → World → Prop)).getD j (fun _ _=>True)) (fun _ _ h hk=>h.keep hk) (gup (Yi (Yi (Yi (Yi (Yi (Yi (Yi (Yi (Yi gupN)))))))))) hE hM.drew (XT (Zf ?_ (Zf ?_ (Zf ?_ (Zf ?_ (Zf ?_ (Zf ?_ (Zf ?_ (Zf ?_ (Zf ?_ Xy)))))))))) ?_
      ·exact fun a w ux22 hE hM hp=>Zd hE Za ld rfl fun a hE=>⟨Kept.refl _ _,_,_,rfl,hE,rfl⟩
      ·exact fun a w ux22 hE hM hp=>Zd hE Za ld rfl fun a hE=>⟨Kept.refl _ _,_,_,rfl,hE,rfl⟩
      ·intro a w ux22 hE hM hp
       have f0 : ux22 0 = v0_1:=hp 0 _ rfl rfl
       have f1 : ux22 1 = (vI s5):=hp 1 _ rfl rfl
       exact Zw hE Za ld (lk rfl f0) (lk rfl f1) Try.underlying22 ty5 (hM.rd hv0_1) hi25.1 fun a hE=>⟨Kept.refl _ _,_,_,rfl,hE,rfl⟩
      ·intro a w ux22 hE hM hp
       have f2 : ux22 2 = (ptr (sb v0_1) (so v0_1 + (s5).toNat * 1)):=hp 0 _ rfl rfl
       exact ZG (v:=(vB x23)) hE Za ld (lk rfl f2) ty5 rfl (Xk (hM.rd hv0_1) hi25.2) fun a hE=>⟨Kept.refl _ _,_,_,rfl,hE,rfl⟩
      ·exact fun a w ux22 hE hM hp=>Zd hE Za ld rfl fun a hE=>⟨Kept.refl _ _,_,_,rfl,hE,rfl⟩
      ·exact fun a w ux22 hE hM hp=>Zd hE Za ld rfl fun a hE=>⟨Kept.refl _ _,_,_,rfl,hE,rfl⟩
      ·intro a w ux22 hE hM hp
       have f4 : ux22 4 = v0_1:=hp 0 _ rfl rfl
       have f5 : ux22 5 = (vI s14):=hp 1 _ rfl rfl
       exact Zw hE Za ld (lk rfl f4) (lk rfl f5) Try.underlying22 ty5 (hM.rd hv0_1) hi28.1 fun a hE=>⟨Kept.refl _ _,_,_,rfl,hE,rfl⟩
      ·intro a w ux22 hE hM hp
       have f6 : ux22 6 = (ptr (sb v0_1) (so v0_1 + (s14).toNat * 1)):=hp 0 _ rfl rfl
       exact ZG (v:=(vB x26)) hE Za ld (lk rfl f6) ty5 rfl (Xk (hM.rd hv0_1) hi28.2) fun a hE=>⟨Kept.refl _ _,_,_,rfl,hE,rfl⟩
      ·intro a w ux22 hE hM hp
       have f3 : ux22 3 = (vB x23):=hp 0 _ rfl rfl
       have f7 : ux22 7 = (vB x26):=hp 1 _ rfl rfl
       exact Zh hE Za ld (lk rfl f3) (lk rfl f7) (Qf x23 x26) fun a hE=>⟨Kept.refl _ _,_,_,rfl,hE,rfl⟩
      ·intro a w ux22 hE hM hg
       have hE:=hE.sub (e':=[(24,(vT (x23 == x26))),(0,v0_1),(3,vI s5),(4,vI s14),(11,vI s14),(12,vI s5),(13,(vT (decide (s14 < s5))))]) ⟨lk rfl (hg 8 (by decide)),rfl,rfl,rfl,rfl,rfl,rfl,trivial⟩
       refine Zk ?_
       have ht29:=Option.some.inj hl20
       subst ht29
       refine Zl ?_
       exact ⟨hE.sub ⟨rfl,rfl,rfl,rfl,trivial⟩,hM⟩
     ·skip
      rintro a w ⟨hE,hM⟩
      refine Zj hE rfl ?_ ?_
      ·intro hb30
       have hF21:=Zo hF21 hb30
       refine Zb (Zc hE Za ld rfl fun a hE=>Ze ?_)
       have ht31:=hx16 _ (ois hF21)
       subst ht31
       have ht32:=hx7 _ (ois hF12)
       subst ht32
       have hr:=Option.some.inj hF3
       subst hr
       exact wp_ret (Z1 (Zi (Zi (Z1 (Zi (Z1 (Zi (Zi (Z1 (Zi (Zi (Zm hE rfl (Zg hE rfl) ⟨_,rfl,rfl,hM.kept⟩))))))))))))
      ·intro hb30
       have hF21:=Zp hF21 hb30
       refine wp_skip (Xf (Zv (wp_region_lit (Zd hE Za ld rfl fun a hE=>Zh hE Za ld rfl rfl rfl fun a hE=>Zc hE Za ld rfl fun a hE=>Zk (Zl ?_)))))
       exact ⟨_,(ois hF21),hE.sub ⟨rfl,rfl,rfl,trivial⟩,hM⟩
    ·intro hb18
     have hs15:=Zp hs15 hb18
     refine wp_exit (Zs (Zs (Xl ?_)))
     have ht33:=hx16 _ (ois hs15)
     subst ht33
     refine Zl ?_
     exact ⟨(),rfl,hE.sub ⟨rfl,rfl,trivial⟩,hM⟩
   ·skip
    rintro a w ⟨s13,ht,hE,hM⟩
    subst ht
    have hF12:=XX hF12
    refine Xf (Zv (wp_region_lit (Zd hE Za ld rfl fun a hE=>Zh hE Za ld rfl rfl rfl fun a hE=>Zc hE Za ld rfl fun a hE=>Zk (Zl ?_))))
    exact ⟨_,(ois hF12),hE.sub ⟨rfl,rfl,trivial⟩,hM⟩
  ·intro hb9
   have hs6:=Zp hs6 hb9
   refine wp_exit (Zs (Zs (Xl ?_)))
   have ht34:=hx7 _ (ois hs6)
   subst ht34
   refine Zl ?_
   exact ⟨(),rfl,hE.sub trivial,hM⟩
 ·skip
  rintro a w ⟨s4,ht,hE,hM⟩
  subst ht
  have hF3:=XX hF3
  refine Zv (Zb (Zc hE Za ld rfl fun a hE=>Ze ?_))
  have hr:=Option.some.inj hF3
  subst hr
  exact wp_ret (Zm hE rfl (Zg hE rfl) ⟨_,rfl,rfl,hM.kept⟩)
def YU (p0 : (List UInt8)) : Option (Bool) :=
 (app 1 ([0] : List UInt8) p0).bind fun l3=>(YT (([0] : List UInt8) ++ p0)).bind fun r8=>some r8
theorem Vt (w0 : World) (p0 : (List UInt8)) (v0_1 : Value) (hv0_1 : Ro w0 p0 [v0_1]) (r : Bool) (hF : YU p0 = some r) :
  Calls Try.prog 45 [v0_1].toArray w0 (fun en w'=>∃ v,en = .returned v ∧ (v = (vT r) ∧ Kept (Old w0) w0 w')):=by
 refine Zy (n:=7) Try.func45 rfl rfl (nbl rfl) rfl ?_
 intro a hE
 have hM:=M.start w0
 unfold YU at hF
 refine Zb (Zc hE Za ld rfl fun a hE=>Ze (Zb (XS (xs:=[.const (vB 0)]) (l:=([0] : List UInt8)) (vs:=[vB 0]) hE hM Za ld rfl rfl Try.underlying22 ty5 rfl (by decide) rfl fun u1 w a hM hE=>Zd hE Za ld rfl ?_))); intro a hE
 obtain ⟨l3,e4,hF⟩:=bind_some hF
 obtain ⟨e7,rfl⟩:=XL e4
 refine X5 hE hM Za ld rfl rfl (hM.rd hv0_1) Try.underlying22 ty5 rfl (by decide) e7 ?_; intro u5 w a hM hE
 obtain ⟨r8,e9,hF⟩:=bind_some hF
 refine Zq hE Za ld rfl cb96 (Vz _ (([0] : List UInt8) ++ p0) u5 (hM.sl (pre:=[]) noB) r8 e9) ?_
 rintro v w a ⟨rfl,hK⟩ hE
 have hM:=hM.keep hK
 refine Zc hE Za ld rfl fun a hE=>Ze ?_
 have hr:=Option.some.inj hF
 subst hr
 have hM:=M.fst (l:=[]) hM
 exact wp_ret (Zm hE rfl (Zg hE rfl) ⟨_,rfl,rfl,hM.kept⟩)
def ZN (p0 : Int) (s4 : Int × Int × Int) : Option (Fl (Int × Int × Int) Int) :=
 if (decide (s4.2.2 > 0)) = true then (((if ((Int.tmod s4.2.2 2) == 1) = true then (some (Vb s4.1 s4.2.1)) else (some s4.1) : Option (Int)).bind fun j12=>(if (decide ((wr (s4.2.1 * 2)) ≥ 256)) = true then (some (Vb (wr (s4.2.1 * 2)) p0)) else (some (wr (s4.2.1 * 2))) : Option (Int)).bind fun j18=>some (j12,j18) : Option (Int × Int)).bind fun j9=>some (Fl.nx (j9.1,j9.2,wr (Int.tdiv s4.2.2 2)))) else (some (Fl.ex s4.1))
def YO (p0 : Int) (p1 : UInt8) (p2 : UInt8) : Option (UInt8) :=
 (Zz (ZN p0) (0,bI p1,bI p2)).bind fun j1=>some (YL j1)
theorem Vy (w0 : World) (p0 : Int) (p1 : UInt8) (p2 : UInt8) (r : UInt8) (hF : YO p0 p1 p2 = some r) :
  Calls Try.prog 140 [vI p0,vB p1,vB p2].toArray w0 (fun en w'=>∃ v,en = .returned v ∧ (v = (vB r) ∧ Kept (Old w0) w0 w')):=by
 refine Zy (n:=33) Try.func140 rfl rfl (nbl rfl) rfl ?_
 intro a hE
 have hM:=M.start w0
 unfold YO at hF
 refine Zb (Zc hE Za ld rfl fun a hE=>Ze (Zb (Zd hE Za ld rfl fun a hE=>X2 hE Za ld rfl Try.underlying5 Try.underlying2 ?_))); intro a hE
 rw [Vh] at hE
 refine Zc hE Za ld rfl fun a hE=>Zc hE Za ld rfl fun a hE=>Ze (wp_seq (Zb (Zd hE Za ld rfl fun a hE=>X2 hE Za ld rfl Try.underlying5 Try.underlying2 ?_))); intro a hE
 rw [Vh] at hE
 refine Zc hE Za ld rfl fun a hE=>Ze ?_
 obtain ⟨j1,hl2,hF3⟩:=bind_some hF
 refine Yb (fun a w=>Env 33 a [(7,vI j1)] ∧ M (Old w0) w0 w []) ?_ ?_
 ·skip
  refine wp_block ?_
  refine ZL (fun (s4 : Int × Int × Int) a w=>Env 33 a [(0,vI p0),(7,vI s4.1),(8,vI s4.2.1),(9,vI s4.2.2)] ∧ M (Old w0) w0 w []) hl2 ⟨hE.sub ⟨rfl,rfl,rfl,rfl,trivial⟩,hM⟩ ?_
  rintro s4 a w ⟨hE,hM⟩ o7 hs5 hx6
  unfold ZN at hs5
  refine wp_seq (Zb (Zd hE Za ld rfl fun a hE=>Zh hE Za ld rfl rfl rfl fun a hE=>Ze ?_))
  refine Zj hE rfl ?_ ?_
  ·intro hb8
   have hs5:=Zo hs5 hb8
   refine wp_skip (Zv ?_)
   obtain ⟨j9,hl10,hF11⟩:=bind_some hs5
   refine YY (fun a w=>Env 33 a [(0,vI p0),(7,vI j9.1),(8,vI j9.2),(9,vI s4.2.2)] ∧ M (Old w0) w0 w []) ?_ ?_
   ·skip
    refine wp_block ?_
    obtain ⟨j12,hl13,hF14⟩:=bind_some hl10
    refine YY (fun a w=>Env 33 a [(0,vI p0),(7,vI j12),(8,vI s4.2.1),(9,vI s4.2.2)] ∧ M (Old w0) w0 w []) ?_ ?_
    ·skip
     refine Zb (Zd hE Za ld rfl fun a hE=>Zh hE Za ld rfl rfl (bI_rem _ _ (by decide)) fun a hE=>Zh hE Za ld rfl rfl rfl fun a hE=>Ze ?_)
     refine Zj hE rfl ?_ ?_
     ·intro hb15
      have hl13:=Zo hl13 hb15
      refine wp_region_lit (Zd hE Za ld rfl fun a hE=>Zd hE Za ld rfl fun a hE=>Zh hE Za ld rfl rfl rfl fun a hE=>Zc hE Za ld rfl fun a hE=>Zk ?_)
      have ht16:=Option.some.inj hl13
      subst ht16
      refine Zl ?_
      exact ⟨hE.sub ⟨rfl,rfl,rfl,rfl,trivial⟩,hM⟩
     ·intro hb15
      have hl13:=Zp hl13 hb15
      refine wp_skip ?_
      have ht17:=Option.some.inj hl13
      subst ht17
      refine Zl ?_
      exact ⟨hE.sub ⟨rfl,rfl,rfl,rfl,trivial⟩,hM⟩
    ·skip
     rintro a w ⟨hE,hM⟩
     refine Zb (Zd hE Za ld rfl fun a hE=>Zh hE Za ld rfl rfl rfl fun a hE=>Zc hE Za ld rfl fun a hE=>Ze (Zb (Zd hE Za ld rfl fun a hE=>Zh hE Za ld rfl rfl rfl fun a hE=>Ze ?_)))
     obtain ⟨j18,hl19,hF20⟩:=bind_some hF14
     refine Yb (fun a w=>Env 33 a [(0,vI p0),(7,vI j12),(8,vI j18),(9,vI s4.2.2)] ∧ M (Old w0) w0 w []) ?_ ?_
     ·skip
      refine Zj hE rfl ?_ ?_
      ·intro hb21
       have hl19:=Zo hl19 hb21
       refine wp_region_lit (Zd hE Za ld rfl fun a hE=>Zd hE Za ld rfl fun a hE=>Zh hE Za ld rfl rfl rfl fun a hE=>Zc hE Za ld rfl fun a hE=>Zk ?_)
       have ht22:=Option.some.inj hl19
       subst ht22
       refine Zl ?_
       exact ⟨hE.sub ⟨rfl,rfl,rfl,rfl,trivial⟩,hM⟩
      ·intro hb21
       have hl19:=Zp hl19 hb21
       refine wp_skip ?_
       have ht23:=Option.some.inj hl19
       subst ht23
       refine Zl ?_
       exact ⟨hE.sub ⟨rfl,rfl,rfl,rfl,trivial⟩,hM⟩
     ·skip
      rintro a w ⟨hE,hM⟩
      refine Xf ?_
      have ht24:=Option.some.inj hF20
      subst ht24
      refine Zl ?_
      exact ⟨hE.sub ⟨rfl,rfl,rfl,rfl,trivial⟩,hM⟩
   ·skip
    rintro a w ⟨hE,hM⟩
    refine wp_region_lit (Zd hE Za ld rfl fun a hE=>Zh hE Za ld rfl rfl (Qm _ _ (by decide)) fun a hE=>Zc hE Za ld rfl fun a hE=>Zk (Zl ?_))
    exact ⟨_,(ois hF11),hE.sub ⟨rfl,rfl,rfl,rfl,trivial⟩,hM⟩
  ·intro hb8
   have hs5:=Zp hs5 hb8
   refine wp_exit (Zs (Zs (Xl ?_)))
   have ht25:=hx6 _ (ois hs5)
   subst ht25
   refine Zl ?_
   exact ⟨hE.sub ⟨rfl,trivial⟩,hM⟩
 ·skip
  rintro a w ⟨hE,hM⟩
  refine Zv (Zb (Zd hE Za ld rfl fun a hE=>X2 hE Za ld rfl Try.underlying2 Try.underlying5 ?_)); intro a hE
  rw [Xz] at hE
  refine Zc hE Za ld rfl fun a hE=>Ze ?_
  have hr:=Option.some.inj hF3
  subst hr
  exact wp_ret (Zm hE rfl (Zg hE rfl) ⟨_,rfl,rfl,hM.kept⟩)
def ZY (p0 : Int) (p1 : (List UInt8)) (p2 : UInt8) (s4 : UInt8 × Int) : Option (Fl (UInt8 × Int) UInt8) :=
 if (decide (s4.2 ≥ 0)) = true then ((YO p0 s4.1 p2).bind fun r10=>(idx p1 s4.2).bind fun x12=>some (Fl.nx (r10 ^^^ x12,wr (s4.2 - 1)))) else (some (Fl.ex s4.1))
def YQ (p0 : Int) (p1 : (List UInt8)) (p2 : UInt8) : Option (UInt8) :=
 (Zz (ZY p0 p1 p2) (0,wr ((p1.length : Int) - 1))).bind fun j1=>some j1
theorem VA (w0 : World) (p0 : Int) (p1 : (List UInt8)) (v1_1 : Value) (hv1_1 : Ro w0 p1 [v1_1]) (p2 : UInt8) (r : UInt8) (hF : YQ p0 p1 p2 = some r) :
  Calls Try.prog 97 [vI p0,v1_1,vB p2].toArray w0 (fun en w'=>∃ v,en = .returned v ∧ (v = (vB r) ∧ Kept (Old w0) w0 w')):=by
 refine Zy (n:=26) Try.func97 rfl rfl (nbl rfl) rfl ?_
 intro a hE
 have hM:=M.start w0
 unfold YQ at hF
 refine Zb (Zc hE Za ld rfl fun a hE=>Ze (Zb (Zc hE Za ld rfl fun a hE=>Ze (wp_seq (Zb (Zd hE Za ld rfl fun a hE=>ZH hE Za ld rfl Try.underlying22 (hM.rd hv1_1) fun a hE=>Zh hE Za ld rfl rfl rfl fun a hE=>Zc hE Za ld rfl fun a hE=>Ze ?_))))))
 obtain ⟨j1,hl2,hF3⟩:=bind_some hF
 refine Yb (fun a w=>Env 26 a [(7,vB j1)] ∧ M (Old w0) w0 w []) ?_ ?_
 ·skip
  refine wp_block ?_
  refine ZL (fun (s4 : UInt8 × Int) a w=>Env 26 a [(0,vI p0),(1,v1_1),(2,vB p2),(7,vB s4.1),(8,vI s4.2)] ∧ M (Old w0) w0 w []) hl2 ⟨hE.sub ⟨rfl,rfl,rfl,rfl,rfl,trivial⟩,hM⟩ ?_
  rintro s4 a w ⟨hE,hM⟩ o7 hs5 hx6
  unfold ZY at hs5
  refine wp_seq (Zb (Zd hE Za ld rfl fun a hE=>Zh hE Za ld rfl rfl rfl fun a hE=>Ze ?_))
  refine Zj hE rfl ?_ ?_
  ·intro hb8
   have hs5:=Zo hs5 hb8
   refine wp_skip (Zv (wp_seq (wp_block ?_)))
   obtain ⟨r10,e11,hs5⟩:=bind_some hs5
   obtain ⟨x12,hi14,hs5⟩:=bix hs5
   refine VQ (n:=26) (hd:=[_,_,_,_,_,_,_,_,_]) (tl:=[_]) Tx rfl rfl [16,17,18,19,20,21,22,23,24] (by decide) (fun w=>M (Old w0) w0 w []) (fun j=>([fun v _=>v = (vI p0),fun v _=>v = (vB s4.1),fun v _=>v = (vB p2),fun v _=>v = (vB r10),fun v _=>v = v1_1,fun v _=>v = (vI s4.2),fun v _=>v = (ptr (sb v1_1) (so v1_1 + (s4.2).toNat * 1)),fun v _=>v = (vB x12),fun v _=>v = (vB (r10 ^^^ x12))] : List (Value → World → Prop)).getD j (fun _ _=>True)) (fun _ _ h hk=>h.keep hk) (gup (Yi (Yi (Yi (Yi (Yi (Yi (Yi (Yi (Yi gupN)))))))))) hE hM.drew (XT (Zf ?_ (Zf ?_ (Zf ?_ (Zf ?_ (Zf ?_ (Zf ?_ (Zf ?_ (Zf ?_ (Zf ?_ Xy)))))))))) ?_
   ·exact fun a w ux9 hE hM hp=>Zd hE Za ld rfl fun a hE=>⟨Kept.refl _ _,_,_,rfl,hE,rfl⟩
   ·exact fun a w ux9 hE hM hp=>Zd hE Za ld rfl fun a hE=>⟨Kept.refl _ _,_,_,rfl,hE,rfl⟩
   ·exact fun a w ux9 hE hM hp=>Zd hE Za ld rfl fun a hE=>⟨Kept.refl _ _,_,_,rfl,hE,rfl⟩
   ·intro a w ux9 hE hM hp
    have f0 : ux9 0 = (vI p0):=hp 0 _ rfl rfl
    have f1 : ux9 1 = (vB s4.1):=hp 1 _ rfl rfl
    have f2 : ux9 2 = (vB p2):=hp 2 _ rfl rfl
    refine Zq hE Za ld (WU (WY (lk rfl f0) (WY (lk rfl f1) (WY (lk rfl f2) Tn)))) cb140 (Vy _ p0 s4.1 p2 r10 e11) ?_
    rintro v w a ⟨rfl,hK⟩ hE
    exact ⟨hK,_,_,rfl,hE,rfl⟩
   ·exact fun a w ux9 hE hM hp=>Zd hE Za ld rfl fun a hE=>⟨Kept.refl _ _,_,_,rfl,hE,rfl⟩
   ·exact fun a w ux9 hE hM hp=>Zd hE Za ld rfl fun a hE=>⟨Kept.refl _ _,_,_,rfl,hE,rfl⟩
   ·intro a w ux9 hE hM hp
    have f4 : ux9 4 = v1_1:=hp 0 _ rfl rfl
    have f5 : ux9 5 = (vI s4.2):=hp 1 _ rfl rfl
    exact Zw hE Za ld (lk rfl f4) (lk rfl f5) Try.underlying22 ty5 (hM.rd hv1_1) hi14.1 fun a hE=>⟨Kept.refl _ _,_,_,rfl,hE,rfl⟩
   ·intro a w ux9 hE hM hp
    have f6 : ux9 6 = (ptr (sb v1_1) (so v1_1 + (s4.2).toNat * 1)):=hp 0 _ rfl rfl
    exact ZG (v:=(vB x12)) hE Za ld (lk rfl f6) ty5 rfl (Xk (hM.rd hv1_1) hi14.2) fun a hE=>⟨Kept.refl _ _,_,_,rfl,hE,rfl⟩
   ·intro a w ux9 hE hM hp
    have f3 : ux9 3 = (vB r10):=hp 0 _ rfl rfl
    have f7 : ux9 7 = (vB x12):=hp 1 _ rfl rfl
    exact Zh hE Za ld (lk rfl f3) (lk rfl f7) (Qx r10 x12) fun a hE=>⟨Kept.refl _ _,_,_,rfl,hE,rfl⟩
   ·intro a w ux9 hE hM hg
    have hE:=hE.sub (e':=[(24,(vB (r10 ^^^ x12))),(0,vI p0),(1,v1_1),(2,vB p2),(7,vB s4.1),(8,vI s4.2),(12,vI s4.2),(13,(vT (decide (s4.2 ≥ 0))))]) ⟨lk rfl (hg 8 (by decide)),rfl,rfl,rfl,rfl,rfl,rfl,rfl,trivial⟩
    refine Zc hE Za ld rfl fun a hE=>Zk (Xf (Zv (wp_region_lit (Zd hE Za ld rfl fun a hE=>Zh hE Za ld rfl rfl rfl fun a hE=>Zc hE Za ld rfl fun a hE=>Zk (Zl ?_)))))
    exact ⟨_,(ois hs5),hE.sub ⟨rfl,rfl,rfl,rfl,rfl,trivial⟩,hM⟩
  ·intro hb8
   have hs5:=Zp hs5 hb8
   refine wp_exit (Zs (Zs (Xl ?_)))
   have ht15:=hx6 _ (ois hs5)
   subst ht15
   refine Zl ?_
   exact ⟨hE.sub ⟨rfl,trivial⟩,hM⟩
 ·skip
  rintro a w ⟨hE,hM⟩
  refine Zv (Zb (Zd hE Za ld rfl fun a hE=>Zc hE Za ld rfl fun a hE=>Ze ?_))
  have hr:=Option.some.inj hF3
  subst hr
  exact wp_ret (Zm hE rfl (Zg hE rfl) ⟨_,rfl,rfl,hM.kept⟩)
def Yx (p2 : (List (List UInt8))) (s25 : (List UInt8) × Int) (s43 : (List UInt8) × Int) : Option (Fl ((List UInt8) × Int) (List UInt8)) :=
 if (decide (s43.2 < (p2.length : Int))) = true then ((idx p2 s43.2).bind fun x50=>(idx x50 s25.2).bind fun x58=>(app 1 s43.1 ([x58] : List UInt8)).bind fun l63=>some (Fl.nx ((s43.1 ++ ([x58] : List UInt8)),wr (s43.2 + 1)))) else (some (Fl.ex s43.1))
def Yv (p0 : Int) (p1 : (List UInt8)) (p2 : (List (List UInt8))) (p3 : (List UInt8)) (s8 : Int × (List GShare)) (s25 : (List UInt8) × Int) : Option (Fl ((List UInt8) × Int) (List UInt8)) :=
 if (decide (s25.2 < (p1.length : Int))) = true then ((idx p1 s25.2).bind fun x33=>(Zz (Yx p2 s25) (([x33] : List UInt8),0)).bind fun j38=>(idx p3 s8.1).bind fun x70=>(YQ p0 j38 x70).bind fun r73=>(app 1 s25.1 ([r73] : List UInt8)).bind fun l77=>some (Fl.nx ((s25.1 ++ ([r73] : List UInt8)),wr (s25.2 + 1)))) else (some (Fl.ex s25.1))
def Yw (p0 : Int) (p1 : (List UInt8)) (p2 : (List (List UInt8))) (p3 : (List UInt8)) (s8 : Int × (List GShare)) : Option (Fl (Int × (List GShare)) (List GShare)) :=
 if (decide (s8.1 < (p3.length : Int))) = true then ((idx p3 s8.1).bind fun x15=>(Zz (Yv p0 p1 p2 p3 s8) ([],0)).bind fun j20=>(app 32 s8.2 ([(⟨x15,j20⟩ : GShare)] : List GShare)).bind fun l85=>some (Fl.nx (wr (s8.1 + 1),(s8.2 ++ ([(⟨x15,j20⟩ : GShare)] : List GShare))))) else (some (Fl.ex s8.2))
def Y6 (p0 : Int) (p1 : (List UInt8)) (p2 : (List (List UInt8))) (p3 : (List UInt8)) : Option ((List GShare)) :=
 (Zz (Yw p0 p1 p2 p3) (0,([] : List GShare))).bind fun j3=>some j3
theorem V6 (w0 : World) (p0 : Int) (p1 : (List UInt8)) (v1_1 : Value) (hv1_1 : Ro w0 p1 [v1_1]) (p2 : (List (List UInt8))) (v2_1 : Value) (hv2_1 : Ro w0 p2 [v2_1]) (p3 : (List UInt8)) (v3_1 : Value) (hv3_1 : Ro w0 p3 [v3_1]) (r : (List GShare)) (hF : Y6 p0 p1 p2 p3 = some r) :
  Calls Try.prog 46 [vI p0,v1_1,v2_1,v3_1].toArray w0 (fun en w'=>∃ v,en = .returned v ∧ (∃ (y1 : Value),v = y1 ∧ Fr w0 w' [osl NoB (r : List GShare) y1] ∧ Kept (Old w0) w0 w')):=by
 refine Zy (n:=71) Try.func46 rfl rfl (nbl rfl) rfl ?_
 intro a hE
 have hM:=M.start w0
 unfold Y6 at hF
 refine Zb (Zc hE Za ld rfl fun a hE=>Ze (Zb (VO (xs:=[]) (S:=NoB) (l:=([] : List GShare)) (vs:=[]) hE hM.emp noB Za ld rfl rfl rfl Try.underlying25 XH rfl (by decide) (fun _ h=>⟨rfl,h⟩) (fun _ h=>by cases h) fun u1 w a hM hE=>Zc hE Za ld rfl fun a hE=>Ze (wp_seq (Zb (Zc hE Za ld rfl fun a hE=>Ze ?_))))))
 obtain ⟨j3,hl4,hF5⟩:=bind_some hF
 refine Yb (fun a w=>∃ (u6 : Value),Env 71 a [(9,u6)] ∧ M (Old w0) w0 w [osl NoB (j3 : List GShare) u6]) ?_ ?_
 ·skip
  refine wp_block ?_
  refine ZL (fun (s8 : Int × (List GShare)) a w=>∃ (u9 : Value),Env 71 a [(0,vI p0),(1,v1_1),(2,v2_1),(3,v3_1),(9,u9),(10,vI s8.1)] ∧ M (Old w0) w0 w [osl NoB (s8.2 : List GShare) u9]) hl4 ⟨u1,hE.sub ⟨rfl,rfl,rfl,rfl,rfl,rfl,trivial⟩,hM⟩ ?_
  rintro s8 a w ⟨u9,hE,hM⟩ o13 hs11 hx12
  unfold Yw at hs11
  refine wp_seq (Zb (Zd hE Za ld rfl fun a hE=>Zd hE Za ld rfl fun a hE=>ZH hE Za ld rfl Try.underlying22 (hM.rd hv3_1) fun a hE=>Zh hE Za ld rfl rfl rfl fun a hE=>Ze ?_))
  refine Zj hE rfl ?_ ?_
  ·intro hb14
   have hs11:=Zo hs11 hb14
   refine wp_skip (Zv (wp_seq (wp_block (Zb (Zd hE Za ld rfl fun a hE=>Zd hE Za ld rfl ?_))))); intro a hE
   obtain ⟨x15,hi17,hs11⟩:=bix hs11
   refine Zw hE Za ld rfl rfl Try.underlying22 ty5 (hM.rd hv3_1) hi17.1 fun a hE=>ZG (v:=(vB x15)) hE Za ld rfl ty5 rfl (Xk (hM.rd hv3_1) hi17.2) fun a hE=>VP (parts:=[(0,.tmp 25)]) (vs:=[(0,vB x15)]) (cs:=cat [[vB x15],[(Value.slice none 0 0)]]) hE Za ld rfl rfl XH pl86 (Ui (pre:=[]) (seg:=[vB 0]) (seg':=[vB x15]) (post:=[[(Value.slice none 0 0)]]) rfl cl0 rfl rfl rfl UZ) fun a hE=>TE hE hM Za ld XH fun b18 w a hM hE=>VH (seg:=cat [[vB x15],[(Value.slice none 0 0)]]) (cs':=cat [[vB x15],[(Value.slice none 0 0)]]) hE hM Za rfl rfl rfl XH (Y0 (cl1 (n:=1) (m:=1) rfl (cl1 (n:=1) (m:=0) rfl cl0))) (Nat.le_of_eq ((Nat.zero_add _).trans (Eq.trans (Y0 (cl1 (n:=1) (m:=1) rfl (cl1 (n:=1) (m:=0) rfl cl0))) (Eq.symm (Y0 (cl1 (n:=1) (m:=1) rfl (cl1 (n:=1) (m:=0) rfl cl0))))))) (UU (cc1 (Flat.cell (x15 : UInt8)) (cc1 TN cc0))) (XQ (Eq.trans (Y0 (cl1 (n:=1) (m:=1) rfl (cl1 (n:=1) (m:=0) rfl cl0))) (Eq.symm (Y0 (cl1 (n:=1) (m:=1) rfl (cl1 (n:=1) (m:=0) rfl cl0)))))) fun w a hM hE=>Ze (wp_seq (Zb (Zc hE Za ld rfl fun a hE=>Ze ?_)))
   obtain ⟨j20,hl21,hF22⟩:=bind_some hs11
   refine Yb (fun a w=>∃ (u23 : Value),Env 71 a [(0,vI p0),(1,v1_1),(2,v2_1),(3,v3_1),(9,u9),(10,vI s8.1),(11,(ptr b18 0))] ∧ M (Old w0) w0 w [raw b18 (cat [[vB x15],[u23]]),osl NoB (s8.2 : List GShare) u9,osl NoB (j20 : List UInt8) u23]) ?_ ?_
   ·skip
    refine wp_block ?_
    have hM:=((M.nilS (α:=UInt8) NoB noB hM).pull (pre:=[_,_])).pull (pre:=[_,_])
    refine ZL (fun (s25 : (List UInt8) × Int) a w=>∃ (u26 : Value),Env 71 a [(0,vI p0),(1,v1_1),(2,v2_1),(3,v3_1),(9,u9),(10,vI s8.1),(11,(ptr b18 0)),(12,vI s25.2)] ∧ M (Old w0) w0 w [raw b18 (cat [[vB x15],[u26]]),osl NoB (s8.2 : List GShare) u9,osl NoB (s25.1 : List UInt8) u26]) hl21 ⟨(Value.slice none 0 0),hE.sub ⟨rfl,rfl,rfl,rfl,rfl,rfl,rfl,rfl,trivial⟩,hM⟩ ?_
    rintro s25 a w ⟨u26,hE,hM⟩ o30 hs28 hx29
    unfold Yv at hs28
    refine wp_seq (Zb (Zd hE Za ld rfl fun a hE=>Zd hE Za ld rfl fun a hE=>ZH hE Za ld rfl Try.underlying22 (hM.rd hv1_1) fun a hE=>Zh hE Za ld rfl rfl rfl fun a hE=>Ze ?_))
    refine Zj hE rfl ?_ ?_
    ·intro hb32
     have hs28:=Zo hs28 hb32
     refine wp_skip (Zv (wp_seq (wp_block (Zb (Zd hE Za ld rfl fun a hE=>Zd hE Za ld rfl ?_))))); intro a hE
     obtain ⟨x33,hi35,hs28⟩:=bix hs28
     refine Zw hE Za ld rfl rfl Try.underlying22 ty5 (hM.rd hv1_1) hi35.1 fun a hE=>ZG (v:=(vB x33)) hE Za ld rfl ty5 rfl (Xk (hM.rd hv1_1) hi35.2) fun a hE=>XS (xs:=[.tmp 36]) (l:=([x33] : List UInt8)) (vs:=[vB x33]) hE hM Za ld rfl rfl Try.underlying22 ty5 rfl (by decide) rfl fun u36 w a hM hE=>Zc hE Za ld rfl fun a hE=>Ze (wp_seq (Zb (Zc hE Za ld rfl fun a hE=>Ze ?_)))
     obtain ⟨j38,hl39,hF40⟩:=bind_some hs28
     refine Yb (fun a w=>∃ (u41 : Value),Env 71 a [(0,vI p0),(1,v1_1),(2,v2_1),(3,v3_1),(9,u9),(10,vI s8.1),(11,(ptr b18 0)),(12,vI s25.2),(13,u41)] ∧ M (Old w0) w0 w [raw b18 (cat [[vB x15],[u26]]),osl NoB (s8.2 : List GShare) u9,osl NoB (s25.1 : List UInt8) u26,osl NoB (j38 : List UInt8) u41]) ?_ ?_
     ·skip
      refine wp_block ?_
      have hM:=((hM.pull (pre:=[_,_,_])).pull (pre:=[_,_,_])).pull (pre:=[_,_,_])
      refine ZL (fun (s43 : (List UInt8) × Int) a w=>∃ (u44 : Value),Env 71 a [(0,vI p0),(1,v1_1),(2,v2_1),(3,v3_1),(9,u9),(10,vI s8.1),(11,(ptr b18 0)),(12,vI s25.2),(13,u44),(14,vI s43.2)] ∧ M (Old w0) w0 w [raw b18 (cat [[vB x15],[u26]]),osl NoB (s8.2 : List GShare) u9,osl NoB (s25.1 : List UInt8) u26,osl NoB (s43.1 : List UInt8) u44]) hl39 ⟨u36,hE.sub ⟨rfl,rfl,rfl,rfl,rfl,rfl,rfl,rfl,rfl,rfl,trivial⟩,hM⟩ ?_
      rintro s43 a w ⟨u44,hE,hM⟩ o48 hs46 hx47
      unfold Yx at hs46
      refine wp_seq (Zb (Zd hE Za ld rfl fun a hE=>Zd hE Za ld rfl fun a hE=>ZH hE Za ld rfl Try.underlying23 (hM.rd hv2_1) fun a hE=>Zh hE Za ld rfl rfl rfl fun a hE=>Ze ?_))
      refine Zj hE rfl ?_ ?_
      ·intro hb49
       have hs46:=Zo hs46 hb49
       refine wp_skip (Zv (wp_seq (wp_block (wp_region_lit (Zd hE Za ld rfl fun a hE=>Zd hE Za ld rfl fun a hE=>Zd hE Za ld rfl ?_))))); intro a hE
       obtain ⟨x50,hi52,hs46⟩:=bix hs46
       refine Zw hE Za ld rfl rfl Try.underlying23 Xm (hM.rd hv2_1) hi52.1 ?_; intro a hE
       obtain ⟨cs53,hs54,hA55⟩:=Xg hv2_1 hi52.2 -- ^
       obtain ⟨u56,rfl⟩:=XN hs54 -- ^
       have h57:=hs54 -- ^
       refine ZG (v:=u56) hE Za ld rfl Xm rfl (hM.atk hA55 (XC hv2_1 hi52.2)) fun a hE=>Zd hE Za ld rfl ?_; intro a hE
       obtain ⟨x58,hi60,hs46⟩:=bix hs46
       refine Zw hE Za ld rfl rfl Try.underlying22 ty5 (hM.rd h57) hi60.1 fun a hE=>ZG (v:=(vB x58)) hE Za ld rfl ty5 rfl (Xk (hM.rd h57) hi60.2) fun a hE=>XS (xs:=[.tmp 51]) (l:=([x58] : List UInt8)) (vs:=[vB x58]) hE hM Za ld rfl rfl Try.underlying22 ty5 rfl (by decide) rfl ?_; intro u61 w a hM hE
       obtain ⟨l63,e64,hs46⟩:=bind_some hs46
       obtain ⟨e67,rfl⟩:=XL e64
       have hM:=hM.pull (pre:=[_,_,_,_])
       refine X5 hE hM Za ld rfl rfl (hM.sl (pre:=[_]) noB) Try.underlying22 ty5 rfl (by decide) e67 fun u65 w a hM hE=>Zc hE Za ld rfl fun a hE=>Zk (Xf (Zv (wp_region_lit (Zd hE Za ld rfl fun a hE=>Zh hE Za ld rfl rfl rfl fun a hE=>Zc hE Za ld rfl fun a hE=>Zk (Zl ?_)))))
       have hM:=M.fst (l:=[_,_,_,_]) (((hM.pull (pre:=[_,_,_,_])).pull (pre:=[_,_,_,_])).pull (pre:=[_,_,_,_]))
       exact ⟨_,(ois hs46),u65,hE.sub ⟨rfl,rfl,rfl,rfl,rfl,rfl,rfl,rfl,rfl,rfl,trivial⟩,hM⟩
      ·intro hb49
       have hs46:=Zp hs46 hb49
       refine wp_exit (Zs (Zs (Xl ?_)))
       have ht68:=hx47 _ (ois hs46)
       subst ht68
       refine Zl ?_
       exact ⟨u44,hE.sub ⟨rfl,rfl,rfl,rfl,rfl,rfl,rfl,rfl,rfl,trivial⟩,hM⟩
     ·skip
      rintro a w ⟨u41,hE,hM⟩
      refine Zv ?_
      obtain ⟨x70,hi72,hF40⟩:=bix hF40
      obtain ⟨r73,e74,hF40⟩:=bind_some hF40
      refine TQ (n:=71) (hd:=[_,_,_,_,_,_,_,_,_,_]) (tl:=[_,_,_]) (its:=[raw b18 (cat [[vB x15],[u26]]),osl NoB (s8.2 : List GShare) u9,osl NoB (s25.1 : List UInt8) u26,osl NoB (j38 : List UInt8) u41]) Tx rfl rfl [54,55,56,57,58,59,60,61,62,63] (by decide) [(9,fun v=>osl NoB (([r73] : List UInt8) : List UInt8) v)] rfl (fun j=>([fun v=>v = (ptr b18 (0 + 1)),fun v=>v = u26,fun v=>v = (vI p0),fun v=>v = u41,fun v=>v = v3_1,fun v=>v = (vI s8.1),fun v=>v = (ptr (sb v3_1) (so v3_1 + (s8.1).toNat * 1)),fun v=>v = (vB x70),fun v=>v = (vB r73),fun v=>True] : List (Value → Prop)).getD j (fun _=>True)) hE hM.drew (XT (Zf ?_ (Zf ?_ (Zf ?_ (Zf ?_ (Zf ?_ (Zf ?_ (Zf ?_ (Zf ?_ (Zf ?_ (Zf ?_ Xy))))))))))) ?_
      ·intro a w ux69 D hE hM hD hp
       have hM0:=hM
       exact ZV hE Za ld rfl (Wr) fun a hE=>⟨_,_,rfl,hE,rfl,hM0.optKeep rfl⟩
      ·intro a w ux69 D hE hM hD hp
       have f0 : ux69 0 = (ptr b18 (0 + 1)):=(hp 0 _ rfl rfl).2
       have hM0:=hM
       have hM : M (Old w0) w0 w [raw b18 (cat [[vB x15],[u26]]),osl NoB (s8.2 : List GShare) u9,osl NoB (s25.1 : List UInt8) u26,osl NoB (j38 : List UInt8) u41,opt (D 9) (osl NoB (([r73] : List UInt8) : List UInt8) (ux69 9))]:=hM
       exact ZG (v:=u26) hE Za ld (lk rfl f0) Xm rfl (At.cat (pre:=[[vB x15]]) (hM.rawAt (pre:=[])) (cl1 (n:=1) (m:=0) rfl cl0)) fun a hE=>⟨_,_,rfl,hE,rfl,hM0.optKeep rfl⟩
      ·intro a w ux69 D hE hM hD hp
       have hM0:=hM
       exact Zd hE Za ld rfl fun a hE=>⟨_,_,rfl,hE,rfl,hM0.optKeep rfl⟩
      ·intro a w ux69 D hE hM hD hp
       have hM0:=hM
       exact Zd hE Za ld rfl fun a hE=>⟨_,_,rfl,hE,rfl,hM0.optKeep rfl⟩
      ·intro a w ux69 D hE hM hD hp
       have hM0:=hM
       exact Zd hE Za ld rfl fun a hE=>⟨_,_,rfl,hE,rfl,hM0.optKeep rfl⟩
      ·intro a w ux69 D hE hM hD hp
       have hM0:=hM
       exact Zd hE Za ld rfl fun a hE=>⟨_,_,rfl,hE,rfl,hM0.optKeep rfl⟩
      ·intro a w ux69 D hE hM hD hp
       have f4 : ux69 4 = v3_1:=(hp 0 _ rfl rfl).2
       have f5 : ux69 5 = (vI s8.1):=(hp 1 _ rfl rfl).2
       have hM0:=hM
       have hM : M (Old w0) w0 w [raw b18 (cat [[vB x15],[u26]]),osl NoB (s8.2 : List GShare) u9,osl NoB (s25.1 : List UInt8) u26,osl NoB (j38 : List UInt8) u41,opt (D 9) (osl NoB (([r73] : List UInt8) : List UInt8) (ux69 9))]:=hM
       exact Zw hE Za ld (lk rfl f4) (lk rfl f5) Try.underlying22 ty5 (hM.rd hv3_1) hi72.1 fun a hE=>⟨_,_,rfl,hE,rfl,hM0.optKeep rfl⟩
      ·intro a w ux69 D hE hM hD hp
       have f6 : ux69 6 = (ptr (sb v3_1) (so v3_1 + (s8.1).toNat * 1)):=(hp 0 _ rfl rfl).2
       have hM0:=hM
       have hM : M (Old w0) w0 w [raw b18 (cat [[vB x15],[u26]]),osl NoB (s8.2 : List GShare) u9,osl NoB (s25.1 : List UInt8) u26,osl NoB (j38 : List UInt8) u41,opt (D 9) (osl NoB (([r73] : List UInt8) : List UInt8) (ux69 9))]:=hM
       exact ZG (v:=(vB x70)) hE Za ld (lk rfl f6) ty5 rfl (Xk (hM.rd hv3_1) hi72.2) fun a hE=>⟨_,_,rfl,hE,rfl,hM0.optKeep rfl⟩
      ·intro a w ux69 D hE hM hD hp
       have f2 : ux69 2 = (vI p0):=(hp 0 _ rfl rfl).2
       have f3 : ux69 3 = u41:=(hp 1 _ rfl rfl).2
       have f7 : ux69 7 = (vB x70):=(hp 2 _ rfl rfl).2
       have hM0:=hM
       have hM : M (Old w0) w0 w [raw b18 (cat [[vB x15],[u26]]),osl NoB (s8.2 : List GShare) u9,osl NoB (s25.1 : List UInt8) u26,osl NoB (j38 : List UInt8) u41,opt (D 9) (osl NoB (([r73] : List UInt8) : List UInt8) (ux69 9))]:=hM
       refine Zq hE Za ld (WU (WY (lk rfl f2) (WY (lk rfl f3) (WY (lk rfl f7) Tn)))) cb97 (VA _ p0 j38 u41 (hM.sl (pre:=[_,_,_]) noB) x70 r73 e74) ?_
       rintro v w a ⟨rfl,hK⟩ hE
       exact ⟨_,_,rfl,hE,rfl,(hM0.keep hK).optKeep rfl⟩
      ·intro a w ux69 D hE hM hD hp
       have f8 : ux69 8 = (vB r73):=(hp 0 _ rfl rfl).2
       have hM0:=hM
       have hM : M (Old w0) w0 w [raw b18 (cat [[vB x15],[u26]]),osl NoB (s8.2 : List GShare) u9,osl NoB (s25.1 : List UInt8) u26,osl NoB (j38 : List UInt8) u41,opt (D 9) (osl NoB (([r73] : List UInt8) : List UInt8) (ux69 9))]:=hM
       exact XS (xs:=[.tmp 62]) (l:=([r73] : List UInt8)) (vs:=[vB r73]) hE hM Za ld (WU (WY (lk rfl f8) Tn)) rfl Try.underlying22 ty5 rfl (by decide) rfl fun u75 w a hM hE=>⟨_,_,rfl,hE,trivial,M.optFill (mk1:=[]) (mk2:=[]) (f:=(fun v=>osl NoB (([r73] : List UInt8) : List UInt8) v)) hM rfl hD⟩
      ·intro a w ux69 hE hM hg
       have hM : M (Old w0) w0 w [raw b18 (cat [[vB x15],[u26]]),osl NoB (s8.2 : List GShare) u9,osl NoB (s25.1 : List UInt8) u26,osl NoB (j38 : List UInt8) u41,osl NoB (([r73] : List UInt8) : List UInt8) (ux69 9)]:=hM
       have hE:=hE.sub (e':=[(55,u26),(63,(ux69 9)),(0,vI p0),(1,v1_1),(2,v2_1),(3,v3_1),(9,u9),(10,vI s8.1),(11,(ptr b18 0)),(12,vI s25.2),(13,u41)]) ⟨lk rfl (hg 1 (by decide)),rfl,rfl,rfl,rfl,rfl,rfl,rfl,rfl,rfl,rfl,trivial⟩
       obtain ⟨l77,e78,hF40⟩:=bind_some hF40
       obtain ⟨e81,rfl⟩:=XL e78
       have hM:=hM.pull (pre:=[_,_])
       refine X5 hE hM Za ld rfl rfl (hM.sl (pre:=[_,_,_,_]) noB) Try.underlying22 ty5 rfl (by decide) e81 fun u79 w a hM hE=>ZV hE Za ld rfl (Wr) ?_; intro a hE
       have hM:=hM.pull (pre:=[_])
       refine VH (seg:=[u79]) hE hM Za rfl rfl (Uc (hM.sl (pre:=[_]) noB)) Xm rfl (UA (pre:=[[vB x15]]) (cl1 (n:=1) (m:=0) rfl cl0) rfl) (Rep.cell (hM.sl (pre:=[_]) noB)) (Wa (pre:=[[vB x15]]) (cl1 (n:=1) (m:=0) rfl cl0) rfl) fun w a hM hE=>Zk (Xf (Zv (wp_region_lit (Zd hE Za ld rfl fun a hE=>Zh hE Za ld rfl rfl rfl fun a hE=>Zc hE Za ld rfl fun a hE=>Zk (Zl ?_)))))
       have hM:=M.fst (l:=[_,_,_]) (((hM.pull (pre:=[_])).pull (pre:=[_,_])).pull (pre:=[_,_]))
       exact ⟨_,(ois hF40),u79,hE.sub ⟨rfl,rfl,rfl,rfl,rfl,rfl,rfl,rfl,trivial⟩,hM⟩
    ·intro hb32
     have hs28:=Zp hs28 hb32
     refine wp_exit (Zs (Zs (Xl ?_)))
     have ht82:=hx29 _ (ois hs28)
     subst ht82
     refine Zl ?_
     exact ⟨u26,hE.sub ⟨rfl,rfl,rfl,rfl,rfl,rfl,rfl,trivial⟩,hM⟩
   ·skip
    rintro a w ⟨u23,hE,hM⟩
    refine Zv (wp_region_lit (Zd hE Za ld rfl fun a hE=>VM (cs:=cat [[vB x15],[u23]]) hE Za ld rfl XH rfl (hM.rawAt (pre:=[])) (Y0 (cl1 (n:=1) (m:=1) rfl (cl1 (n:=1) (m:=0) rfl cl0))) ?_)); intro a hE
    have hM:=hM.pull (pre:=[_,_])
    have hM:=hM.pack1 (it:=own NoB (⟨x15,j20⟩ : GShare) (cat [[vB x15],[u23]])) (Wd noB) (fun f0 q0=>(X8 (Yr.sat q0) (by simp)))
    refine U1 (xs:=[.tmp 67]) (seg:=cat [[vB x15],[u23]]) hE hM noB Za ld rfl rfl Try.underlying25 XH rfl (by decide) ?_; intro u83 w a hM hE
    obtain ⟨l85,e86,hF22⟩:=bind_some hF22
    obtain ⟨e89,rfl⟩:=XL e86
    have hM:=hM.pull (pre:=[_,_])
    refine Uj hE hM noB Za ld rfl rfl Try.underlying25 XH rfl (by decide) e89 fun u87 w a hM hE=>Zc hE Za ld rfl fun a hE=>Zk (Xf (Zv (wp_region_lit (Zd hE Za ld rfl fun a hE=>Zh hE Za ld rfl rfl rfl fun a hE=>Zc hE Za ld rfl fun a hE=>Zk (Zl ?_)))))
    have hM:=M.fst (l:=[_]) hM
    exact ⟨_,(ois hF22),u87,hE.sub ⟨rfl,rfl,rfl,rfl,rfl,rfl,trivial⟩,hM⟩
  ·intro hb14
   have hs11:=Zp hs11 hb14
   refine wp_exit (Zs (Zs (Xl ?_)))
   have ht90:=hx12 _ (ois hs11)
   subst ht90
   refine Zl ?_
   exact ⟨u9,hE.sub ⟨rfl,trivial⟩,hM⟩
 ·skip
  rintro a w ⟨u6,hE,hM⟩
  refine Zv (Zb (Zd hE Za ld rfl fun a hE=>Zc hE Za ld rfl fun a hE=>Ze ?_))
  have hr:=Option.some.inj hF5
  subst hr
  exact wp_ret (Zm hE rfl (Zg hE rfl) ⟨_,rfl,u6,rfl,hM.outF (Wg Wj),hM.kept⟩)
def YV (p0 : Int) (p1 : (List UInt8)) (p2 : (List (List UInt8))) (p3 : (List UInt8)) : Option ((List GShare) × Int) :=
 (YS p0).bind fun r1=>if (!r1) = true then (some ([],1)) else ((if (decide ((p1.length : Int) > 100)) = true then (some true) else ((YR p2 (p1.length : Int)).bind fun r10=>if (!r10) = true then (some true) else (if (decide ((p3.length : Int) < 1)) = true then (some true) else (some (decide ((p3.length : Int) > 12))))) : Option (Bool)).bind fun j5=>if j5 = true then (some ([],2)) else ((YU p3).bind fun r19=>if r19 = true then (some ([],5)) else ((Y6 p0 p1 p2 p3).bind fun r23=>some (r23,0))))
theorem VE (w0 : World) (p0 : Int) (p1 : (List UInt8)) (v1_1 : Value) (hv1_1 : Ro w0 p1 [v1_1]) (p2 : (List (List UInt8))) (v2_1 : Value) (hv2_1 : Ro w0 p2 [v2_1]) (p3 : (List UInt8)) (v3_1 : Value) (hv3_1 : Ro w0 p3 [v3_1]) (r : (List GShare) × Int) (hF : YV p0 p1 p2 p3 = some r) :
  Calls Try.prog 9 [vI p0,v1_1,v2_1,v3_1].toArray w0 (fun en w'=>∃ v,en = .returned v ∧ (∃ (y1 : Value),v = (Value.tuple [y1,vI r.2].toArray) ∧ Fr w0 w' [osl NoB (r.1 : List GShare) y1] ∧ Kept (Old w0) w0 w')):=by
 refine Zy (n:=43) Try.func9 rfl rfl (nbl rfl) rfl ?_
 intro a hE
 have hM:=M.start w0
 unfold YV at hF
 refine Zb (Zc hE Za ld rfl fun a hE=>Zc hE Za ld rfl fun a hE=>Ze (wp_seq (wp_block (Zb (Zd hE Za ld rfl ?_))))); intro a hE
 obtain ⟨r1,e2,hF⟩:=bind_some hF
 refine Zq hE Za ld rfl cb43 (VF _ p0 r1 e2) ?_
 rintro v w a ⟨rfl,hK⟩ hE
 have hM:=hM.keep hK
 refine Xx hE Za ld rfl fun a hE=>Zc hE Za ld rfl fun a hE=>Ze ?_
 refine Zj hE rfl ?_ ?_
 ·intro hb3
  have hF:=Zo hF hb3
  refine Zb (Zc hE Za ld rfl fun a hE=>Zc hE Za ld rfl fun a hE=>Ze ?_)
  have hM:=M.nilS (α:=GShare) NoB noB hM
  have hr:=Option.some.inj hF
  subst hr
  exact wp_ret (Z1 (Zi (Ww hE rfl (Zg hE rfl) (Zg hE rfl) ⟨_,rfl,(Value.slice none 0 0),rfl,hM.outF (Wg Wj),hM.kept⟩)))
 ·intro hb3
  have hF:=Zp hF hb3
  obtain ⟨j5,hl6,hF7⟩:=bind_some hF
  refine YY (fun a w=>Env 43 a [(0,vI p0),(1,v1_1),(2,v2_1),(3,v3_1),(14,vT j5)] ∧ M (Old w0) w0 w []) ?_ ?_
  ·skip
   refine wp_region_lit (Zd hE Za ld rfl fun a hE=>ZH hE Za ld rfl Try.underlying22 (hM.rd hv1_1) fun a hE=>Zh hE Za ld rfl rfl rfl fun a hE=>Zd hE Za ld rfl ?_); intro a hE
   refine XA (decide ((p1.length : Int) > 100)) (fun hb8=>?_) (fun hb8=>?_)
   ·have hl6:=Zo hl6 hb8
    refine Zr hE rfl (lkb rfl hb8) rfl (by decide) fun a hE=>Zr hE rfl (lkb rfl hb8) rfl (by decide) fun a hE=>Zr hE rfl (lkb rfl hb8) rfl (by decide) fun a hE=>Zr hE rfl (lkb rfl hb8) rfl (by decide) fun a hE=>Zr hE rfl (lkb rfl hb8) rfl (by decide) fun a hE=>Yp hE Za ld (lkb rfl hb8) rfl fun a hE=>Zd hE Za ld rfl fun a hE=>Zr hE rfl rfl rfl (by decide) fun a hE=>Zr hE rfl rfl rfl (by decide) fun a hE=>Zr hE rfl rfl rfl (by decide) fun a hE=>Yp hE Za ld rfl rfl fun a hE=>Zd hE Za ld rfl ?_; intro a hE
    refine Zr hE rfl rfl rfl (by decide) fun a hE=>Zr hE rfl rfl rfl (by decide) fun a hE=>Zr hE rfl rfl rfl (by decide) fun a hE=>Yp hE Za ld rfl rfl fun a hE=>Zc hE Za ld rfl fun a hE=>Zk ?_
    have ht9:=Option.some.inj hl6
    subst ht9
    refine Zl ?_
    exact ⟨hE.sub ⟨rfl,rfl,rfl,rfl,rfl,trivial⟩,hM⟩
   ·have hl6:=Zp hl6 hb8
    refine Zd hE (Zn hE rfl (lkb rfl hb8)) (by decide) rfl fun a hE=>Zd hE (Zn hE rfl (lkb rfl hb8)) (by decide) rfl fun a hE=>ZH hE (Zn hE rfl (lkb rfl hb8)) (by decide) rfl Try.underlying22 (hM.rd hv1_1) ?_; intro a hE
    obtain ⟨r10,e11,hl6⟩:=bind_some hl6
    refine Zq hE (Zn hE rfl (lkb rfl hb8)) (by decide) rfl cb44 (Vx _ p2 v2_1 (hM.rdo hv2_1) (p1.length : Int) r10 e11) ?_
    rintro v w a ⟨rfl,hK⟩ hE
    have hM:=hM.keep hK
    refine Xx hE (Zn hE rfl (lkb rfl hb8)) (by decide) rfl fun a hE=>Xe hE Za ld (lkb rfl hb8) rfl fun a hE=>Zd hE Za ld rfl ?_; intro a hE
    refine XA (!r10) (fun hb12=>?_) (fun hb12=>?_)
    ·have hl6:=Zo hl6 hb12
     refine Zr hE rfl (lkb rfl hb12) rfl (by decide) fun a hE=>Zr hE rfl (lkb rfl hb12) rfl (by decide) fun a hE=>Zr hE rfl (lkb rfl hb12) rfl (by decide) fun a hE=>Yp hE Za ld (lkb rfl hb12) rfl fun a hE=>Zd hE Za ld rfl fun a hE=>Zr hE rfl rfl rfl (by decide) fun a hE=>Zr hE rfl rfl rfl (by decide) fun a hE=>Zr hE rfl rfl rfl (by decide) fun a hE=>Yp hE Za ld rfl rfl fun a hE=>Zc hE Za ld rfl fun a hE=>Zk ?_
     have ht13:=Option.some.inj hl6
     subst ht13
     refine Zl ?_
     exact ⟨hE.sub ⟨rfl,rfl,rfl,rfl,rfl,trivial⟩,hM⟩
    ·have hl6:=Zp hl6 hb12
     refine Zd hE (Zn hE rfl (lkb rfl hb12)) (by decide) rfl fun a hE=>ZH hE (Zn hE rfl (lkb rfl hb12)) (by decide) rfl Try.underlying22 (hM.rd hv3_1) fun a hE=>Zh hE (Zn hE rfl (lkb rfl hb12)) (by decide) rfl rfl rfl fun a hE=>Xe hE Za ld (lkb rfl hb12) rfl fun a hE=>Zd hE Za ld rfl ?_; intro a hE
     refine XA (decide ((p3.length : Int) < 1)) (fun hb14=>?_) (fun hb14=>?_)
     ·have hl6:=Zo hl6 hb14
      refine Zr hE rfl (lkb rfl hb14) rfl (by decide) fun a hE=>Zr hE rfl (lkb rfl hb14) rfl (by decide) fun a hE=>Zr hE rfl (lkb rfl hb14) rfl (by decide) fun a hE=>Yp hE Za ld (lkb rfl hb14) rfl fun a hE=>Zc hE Za ld rfl fun a hE=>Zk ?_
      have ht15:=Option.some.inj hl6
      subst ht15
      refine Zl ?_
      exact ⟨hE.sub ⟨rfl,rfl,rfl,rfl,rfl,trivial⟩,hM⟩
     ·have hl6:=Zp hl6 hb14
      refine Zd hE (Zn hE rfl (lkb rfl hb14)) (by decide) rfl fun a hE=>ZH hE (Zn hE rfl (lkb rfl hb14)) (by decide) rfl Try.underlying22 (hM.rd hv3_1) fun a hE=>Zh hE (Zn hE rfl (lkb rfl hb14)) (by decide) rfl rfl rfl fun a hE=>Xe hE Za ld (lkb rfl hb14) rfl fun a hE=>Zc hE Za ld rfl fun a hE=>Zk ?_
      have ht16:=Option.some.inj hl6
      subst ht16
      refine Zl ?_
      exact ⟨hE.sub ⟨rfl,rfl,rfl,rfl,rfl,trivial⟩,hM⟩
  ·skip
   rintro a w ⟨hE,hM⟩
   refine Zj hE rfl ?_ ?_
   ·intro hb17
    have hF7:=Zo hF7 hb17
    refine Zb (Zc hE Za ld rfl fun a hE=>Zc hE Za ld rfl fun a hE=>Ze ?_)
    have hM:=M.nilS (α:=GShare) NoB noB hM
    have hr:=Option.some.inj hF7
    subst hr
    exact wp_ret (Z1 (Zi (Ww hE rfl (Zg hE rfl) (Zg hE rfl) ⟨_,rfl,(Value.slice none 0 0),rfl,hM.outF (Wg Wj),hM.kept⟩)))
   ·intro hb17
    have hF7:=Zp hF7 hb17
    refine Zb (Zd hE Za ld rfl ?_); intro a hE
    obtain ⟨r19,e20,hF7⟩:=bind_some hF7
    refine Zq hE Za ld rfl cb45 (Vt _ p3 v3_1 (hM.rdo hv3_1) r19 e20) ?_
    rintro v w a ⟨rfl,hK⟩ hE
    have hM:=hM.keep hK
    refine Zc hE Za ld rfl fun a hE=>Ze ?_
    refine Zj hE rfl ?_ ?_
    ·intro hb21
     have hF7:=Zo hF7 hb21
     refine Zb (Zc hE Za ld rfl fun a hE=>Zc hE Za ld rfl fun a hE=>Ze ?_)
     have hM:=M.nilS (α:=GShare) NoB noB hM
     have hr:=Option.some.inj hF7
     subst hr
     exact wp_ret (Z1 (Zi (Ww hE rfl (Zg hE rfl) (Zg hE rfl) ⟨_,rfl,(Value.slice none 0 0),rfl,hM.outF (Wg Wj),hM.kept⟩)))
    ·intro hb21
     have hF7:=Zp hF7 hb21
     refine wp_skip (Xf (Zv (Zb (Zd hE Za ld rfl fun a hE=>Zd hE Za ld rfl fun a hE=>Zd hE Za ld rfl fun a hE=>Zd hE Za ld rfl ?_)))); intro a hE
     obtain ⟨r23,e24,hF7⟩:=bind_some hF7
     refine Zq hE Za ld rfl cb46 (V6 _ p0 p1 v1_1 (hM.rdo hv1_1) p2 v2_1 (hM.rdo hv2_1) p3 v3_1 (hM.rdo hv3_1) r23 e24) ?_
     rintro u25 w a ⟨_,rfl,hFr,hK⟩ hE
     have hM:=hM.add hK hFr
     refine Zc hE Za ld rfl fun a hE=>Zc hE Za ld rfl fun a hE=>Ze ?_
     have hr:=Option.some.inj hF7
     subst hr
     exact wp_ret (Ww hE rfl (Zg hE rfl) (Zg hE rfl) ⟨_,rfl,u25,rfl,hM.outF (Wg Wj),hM.kept⟩)
def YG (p0 : Int) (p1 : Int) (p2 : Int) : Option (Bool) :=
 (if (decide (p1 ≤ p0)) = true then (some (decide (p0 ≤ p2))) else (some false) : Option (Bool)).bind fun j1=>some j1
theorem Wp (w0 : World) (p0 : Int) (p1 : Int) (p2 : Int) (r : Bool) (hF : YG p0 p1 p2 = some r) :
  Calls Try.prog 49 [vI p0,vI p1,vI p2].toArray w0 (fun en w'=>∃ v,en = .returned v ∧ (v = (vT r) ∧ Kept (Old w0) w0 w')):=by
 refine Zy (n:=15) Try.func49 rfl rfl (nbl rfl) rfl ?_
 intro a hE
 have hM:=M.start w0
 unfold YG at hF
 refine Zb (Zc hE Za ld rfl fun a hE=>Ze ?_)
 obtain ⟨j1,hl2,hF3⟩:=bind_some hF
 refine YY (fun a w=>Env 15 a [(6,vT j1)] ∧ M (Old w0) w0 w []) ?_ ?_
 ·skip
  refine wp_region_lit (Zd hE Za ld rfl fun a hE=>Zd hE Za ld rfl fun a hE=>Zh hE Za ld rfl rfl rfl fun a hE=>Zd hE Za ld rfl ?_); intro a hE
  refine XA (decide (p1 ≤ p0)) (fun hb4=>?_) (fun hb4=>?_)
  ·have hl2:=Zo hl2 hb4
   refine Zd hE (Zn hE rfl (lkb rfl hb4)) (by decide) rfl fun a hE=>Zd hE (Zn hE rfl (lkb rfl hb4)) (by decide) rfl fun a hE=>Zh hE (Zn hE rfl (lkb rfl hb4)) (by decide) rfl rfl rfl fun a hE=>Yp hE Za ld (lkb rfl hb4) rfl fun a hE=>Zc hE Za ld rfl fun a hE=>Zk ?_
   have ht5:=Option.some.inj hl2
   subst ht5
   refine Zl ?_
   exact ⟨hE.sub ⟨rfl,trivial⟩,hM⟩
  ·have hl2:=Zp hl2 hb4
   refine Zr hE rfl (lkb rfl hb4) rfl (by decide) fun a hE=>Zr hE rfl (lkb rfl hb4) rfl (by decide) fun a hE=>Zr hE rfl (lkb rfl hb4) rfl (by decide) fun a hE=>Xe hE Za ld (lkb rfl hb4) rfl fun a hE=>Zc hE Za ld rfl fun a hE=>Zk ?_
   have ht6:=Option.some.inj hl2
   subst ht6
   refine Zl ?_
   exact ⟨hE.sub ⟨rfl,trivial⟩,hM⟩
 ·skip
  rintro a w ⟨hE,hM⟩
  have hr:=Option.some.inj hF3
  subst hr
  exact wp_ret (Zm hE rfl (Zg hE rfl) ⟨_,rfl,rfl,hM.kept⟩)
def ZQ (p1 : Int) (p2 : Int) (s4 : Int × Int) : Option (Fl (Int × Int) Int) :=
 if (decide (s4.2 ≥ p2)) = true then (((ZZ s4.2).bind fun _=>(if ((andI (Th s4.1 s4.2) 1) == 1) = true then ((ZZ (wr (s4.2 - p2))).bind fun _=>some (Vb s4.1 (Wq p1 (wr (s4.2 - p2))))) else (some s4.1) : Option (Int)).bind fun j13=>some j13 : Option (Int)).bind fun j9=>some (Fl.nx (j9,wr (s4.2 - 1)))) else (some (Fl.ex s4.1))
def YK (p0 : Int) (p1 : Int) (p2 : Int) : Option (Int) :=
 (Zz (ZQ p1 p2) (p0,15)).bind fun j1=>some j1
theorem Vp (w0 : World) (p0 : Int) (p1 : Int) (p2 : Int) (r : Int) (hF : YK p0 p1 p2 = some r) :
  Calls Try.prog 98 [vI p0,vI p1,vI p2].toArray w0 (fun en w'=>∃ v,en = .returned v ∧ (v = (vI r) ∧ Kept (Old w0) w0 w')):=by
 refine Zy (n:=26) Try.func98 rfl rfl (nbl rfl) rfl ?_
 intro a hE
 have hM:=M.start w0
 unfold YK at hF
 refine Zb (Zc hE Za ld rfl fun a hE=>Ze (wp_seq (Zb (Zc hE Za ld rfl fun a hE=>Ze ?_))))
 obtain ⟨j1,hl2,hF3⟩:=bind_some hF
 refine Yb (fun a w=>Env 26 a [(0,vI j1)] ∧ M (Old w0) w0 w []) ?_ ?_
 ·skip
  refine wp_block ?_
  refine ZL (fun (s4 : Int × Int) a w=>Env 26 a [(0,vI s4.1),(1,vI p1),(2,vI p2),(7,vI s4.2)] ∧ M (Old w0) w0 w []) hl2 ⟨hE.sub ⟨rfl,rfl,rfl,rfl,trivial⟩,hM⟩ ?_
  rintro s4 a w ⟨hE,hM⟩ o7 hs5 hx6
  unfold ZQ at hs5
  refine wp_seq (Zb (Zd hE Za ld rfl fun a hE=>Zd hE Za ld rfl fun a hE=>Zh hE Za ld rfl rfl rfl fun a hE=>Ze ?_))
  refine Zj hE rfl ?_ ?_
  ·intro hb8
   have hs5:=Zo hs5 hb8
   refine wp_skip (Zv ?_)
   obtain ⟨j9,hl10,hF11⟩:=bind_some hs5
   refine YY (fun a w=>Env 26 a [(0,vI j9),(1,vI p1),(2,vI p2),(7,vI s4.2)] ∧ M (Old w0) w0 w []) ?_ ?_
   ·skip
    refine wp_block (Zb (Zd hE Za ld rfl fun a hE=>Zd hE Za ld rfl ?_)); intro a hE
    obtain ⟨_,e12,hl10⟩:=bind_some hl10
    have e12:=Y5 e12
    refine Te hE Za ld rfl rfl (bI_shr _ _ e12) fun a hE=>Zh hE Za ld rfl rfl rfl fun a hE=>Zh hE Za ld rfl rfl rfl fun a hE=>Ze ?_
    obtain ⟨j13,hl14,hF15⟩:=bind_some hl10
    refine Yb (fun a w=>Env 26 a [(0,vI j13),(1,vI p1),(2,vI p2),(7,vI s4.2)] ∧ M (Old w0) w0 w []) ?_ ?_
    ·skip
     refine Zj hE rfl ?_ ?_
     ·intro hb16
      have hl14:=Zo hl14 hb16
      refine wp_region_lit (Zd hE Za ld rfl fun a hE=>Zd hE Za ld rfl fun a hE=>Zd hE Za ld rfl fun a hE=>Zd hE Za ld rfl fun a hE=>Zh hE Za ld rfl rfl rfl ?_); intro a hE
      obtain ⟨_,e17,hl14⟩:=bind_some hl14
      have e17:=Y5 e17
      refine Te hE Za ld rfl rfl (V0 _ _ e17) fun a hE=>Zh hE Za ld rfl rfl rfl fun a hE=>Zc hE Za ld rfl fun a hE=>Zk ?_
      have ht18:=Option.some.inj hl14
      subst ht18
      refine Zl ?_
      exact ⟨hE.sub ⟨rfl,rfl,rfl,rfl,trivial⟩,hM⟩
     ·intro hb16
      have hl14:=Zp hl14 hb16
      refine wp_skip ?_
      have ht19:=Option.some.inj hl14
      subst ht19
      refine Zl ?_
      exact ⟨hE.sub ⟨rfl,rfl,rfl,rfl,trivial⟩,hM⟩
    ·skip
     rintro a w ⟨hE,hM⟩
     refine Xf ?_
     have ht20:=Option.some.inj hF15
     subst ht20
     refine Zl ?_
     exact ⟨hE.sub ⟨rfl,rfl,rfl,rfl,trivial⟩,hM⟩
   ·skip
    rintro a w ⟨hE,hM⟩
    refine wp_region_lit (Zd hE Za ld rfl fun a hE=>Zh hE Za ld rfl rfl rfl fun a hE=>Zc hE Za ld rfl fun a hE=>Zk (Zl ?_))
    exact ⟨_,(ois hF11),hE.sub ⟨rfl,rfl,rfl,rfl,trivial⟩,hM⟩
  ·intro hb8
   have hs5:=Zp hs5 hb8
   refine wp_exit (Zs (Zs (Xl ?_)))
   have ht21:=hx6 _ (ois hs5)
   subst ht21
   refine Zl ?_
   exact ⟨hE.sub ⟨rfl,trivial⟩,hM⟩
 ·skip
  rintro a w ⟨hE,hM⟩
  refine Zv (Zb (Zd hE Za ld rfl fun a hE=>Zc hE Za ld rfl fun a hE=>Ze ?_))
  have hr:=Option.some.inj hF3
  subst hr
  exact wp_ret (Zm hE rfl (Zg hE rfl) ⟨_,rfl,rfl,hM.kept⟩)
def Ys (p0 : Int) (s8 : Int) (s18 : Int) : Option (Fl Int (Fl Unit Bool)) :=
 (ZZ s8).bind fun _=>if (decide (s18 < (Wq 2 s8))) = true then ((YK p0 s18 s8).bind fun r24=>if (r24 == 0) = true then (some (Fl.ex (Fl.ex false))) else (some (Fl.nx (wr (s18 + 1))))) else (some (Fl.ex (Fl.nx ())))
def Yz (p0 : Int) (s8 : Int) : Option (Fl Int (Fl Unit Bool)) :=
 if (decide (s8 ≤ 4)) = true then ((ZZ s8).bind fun _=>(Zz (Ys p0 s8) (Wq 1 s8)).bind fun j14=>j14.el (fun s17=>some (Fl.nx (wr (s8 + 1)))) (fun r=>some (Fl.ex (Fl.ex r)))) else (some (Fl.ex (Fl.nx ())))
def Y2 (p0 : Int) : Option (Bool) :=
 (YG p0 256 511).bind fun r1=>if (!r1) = true then (some false) else ((Zz (Yz p0) 1).bind fun j4=>j4.el (fun s7=>some true) (fun r=>some r))
theorem VR (w0 : World) (p0 : Int) (r : Bool) (hF : Y2 p0 = some r) :
  Calls Try.prog 47 [vI p0].toArray w0 (fun en w'=>∃ v,en = .returned v ∧ (v = (vT r) ∧ Kept (Old w0) w0 w')):=by
 refine Zy (n:=25) Try.func47 rfl rfl (nbl rfl) rfl ?_
 intro a hE
 have hM:=M.start w0
 unfold Y2 at hF
 refine Zb (Zc hE Za ld rfl fun a hE=>Ze (wp_seq (Zb (Zd hE Za ld rfl ?_)))); intro a hE
 obtain ⟨r1,e2,hF⟩:=bind_some hF
 refine Zq hE Za ld rfl cb49 (Wp _ p0 256 511 r1 e2) ?_
 rintro v w a ⟨rfl,hK⟩ hE
 have hM:=hM.keep hK
 refine Xx hE Za ld rfl fun a hE=>Ze ?_
 refine Zj hE rfl ?_ ?_
 ·intro hb3
  have hF:=Zo hF hb3
  refine Zb (Zc hE Za ld rfl fun a hE=>Ze ?_)
  have hr:=Option.some.inj hF
  subst hr
  exact wp_ret (Zi (Zm hE rfl (Zg hE rfl) ⟨_,rfl,rfl,hM.kept⟩))
 ·intro hb3
  have hF:=Zp hF hb3
  refine wp_skip (Zv (wp_seq (Zb (Zc hE Za ld rfl fun a hE=>Ze ?_))))
  obtain ⟨j4,hl5,hF6⟩:=bind_some hF
  refine Yb (fun a w=>∃ s7 : Unit,j4 = Fl.nx s7 ∧ Env 25 a [] ∧ M (Old w0) w0 w []) ?_ ?_
  ·skip
   refine wp_block ?_
   refine ZL (fun (s8 : Int) a w=>Env 25 a [(0,vI p0),(3,vI s8)] ∧ M (Old w0) w0 w []) hl5 ⟨hE.sub ⟨rfl,rfl,trivial⟩,hM⟩ ?_
   rintro s8 a w ⟨hE,hM⟩ o11 hs9 hx10
   unfold Yz at hs9
   refine wp_seq (Zb (Zd hE Za ld rfl fun a hE=>Zh hE Za ld rfl rfl rfl fun a hE=>Ze ?_))
   refine Zj hE rfl ?_ ?_
   ·intro hb12
    have hs9:=Zo hs9 hb12
    refine wp_skip (Zv (wp_seq (wp_block (Zb (Zd hE Za ld rfl ?_))))); intro a hE
    obtain ⟨_,e13,hs9⟩:=bind_some hs9
    have e13:=Y5 e13
    refine Te hE Za ld rfl rfl (V0 _ _ e13) fun a hE=>Zc hE Za ld rfl fun a hE=>Ze ?_
    obtain ⟨j14,hl15,hF16⟩:=bind_some hs9
    refine Yb (fun a w=>∃ s17 : Unit,j14 = Fl.nx s17 ∧ Env 25 a [(0,vI p0),(3,vI s8)] ∧ M (Old w0) w0 w []) ?_ ?_
    ·skip
     refine wp_block ?_
     refine ZL (fun (s18 : Int) a w=>Env 25 a [(0,vI p0),(3,vI s8),(4,vI s18)] ∧ M (Old w0) w0 w []) hl15 ⟨hE.sub ⟨rfl,rfl,rfl,trivial⟩,hM⟩ ?_
     rintro s18 a w ⟨hE,hM⟩ o21 hs19 hx20
     unfold Ys at hs19
     refine wp_seq (Zb (Zd hE Za ld rfl fun a hE=>Zd hE Za ld rfl ?_)); intro a hE
     obtain ⟨_,e22,hs19⟩:=bind_some hs19
     have e22:=Y5 e22
     refine Te hE Za ld rfl rfl (V0 _ _ e22) fun a hE=>Zh hE Za ld rfl rfl rfl fun a hE=>Ze ?_
     refine Zj hE rfl ?_ ?_
     ·intro hb23
      have hs19:=Zo hs19 hb23
      refine wp_skip (Zv (wp_seq (wp_block (Zb (Zd hE Za ld rfl fun a hE=>Zd hE Za ld rfl fun a hE=>Zd hE Za ld rfl ?_))))); intro a hE
      obtain ⟨r24,e25,hs19⟩:=bind_some hs19
      refine Zq hE Za ld rfl cb98 (Vp _ p0 s18 s8 r24 e25) ?_
      rintro v w a ⟨rfl,hK⟩ hE
      have hM:=hM.keep hK
      refine Zh hE Za ld rfl rfl rfl fun a hE=>Ze ?_
      refine Zj hE rfl ?_ ?_
      ·intro hb26
       have hs19:=Zo hs19 hb26
       refine Zb (Zc hE Za ld rfl fun a hE=>Ze ?_)
       have ht27:=hx20 _ (ois hs19)
       subst ht27
       have ht28:=hx10 _ (ois hF16)
       subst ht28
       have hr:=Option.some.inj hF6
       subst hr
       exact wp_ret (Z1 (Zi (Zi (Z1 (Zi (Z1 (Zi (Zi (Z1 (Zi (Zi (Zm hE rfl (Zg hE rfl) ⟨_,rfl,rfl,hM.kept⟩))))))))))))
      ·intro hb26
       have hs19:=Zp hs19 hb26
       refine wp_skip (Xf (Zv (wp_region_lit (Zd hE Za ld rfl fun a hE=>Zh hE Za ld rfl rfl rfl fun a hE=>Zc hE Za ld rfl fun a hE=>Zk (Zl ?_)))))
       exact ⟨_,(ois hs19),hE.sub ⟨rfl,rfl,rfl,trivial⟩,hM⟩
     ·intro hb23
      have hs19:=Zp hs19 hb23
      refine wp_exit (Zs (Zs (Xl ?_)))
      have ht29:=hx20 _ (ois hs19)
      subst ht29
      refine Zl ?_
      exact ⟨(),rfl,hE.sub ⟨rfl,rfl,trivial⟩,hM⟩
    ·skip
     rintro a w ⟨s17,ht,hE,hM⟩
     subst ht
     have hF16:=XX hF16
     refine Xf (Zv (wp_region_lit (Zd hE Za ld rfl fun a hE=>Zh hE Za ld rfl rfl rfl fun a hE=>Zc hE Za ld rfl fun a hE=>Zk (Zl ?_))))
     exact ⟨_,(ois hF16),hE.sub ⟨rfl,rfl,trivial⟩,hM⟩
   ·intro hb12
    have hs9:=Zp hs9 hb12
    refine wp_exit (Zs (Zs (Xl ?_)))
    have ht30:=hx10 _ (ois hs9)
    subst ht30
    refine Zl ?_
    exact ⟨(),rfl,hE.sub trivial,hM⟩
  ·skip
   rintro a w ⟨s7,ht,hE,hM⟩
   subst ht
   have hF6:=XX hF6
   refine Zv (Zb (Zc hE Za ld rfl fun a hE=>Ze ?_))
   have hr:=Option.some.inj hF6
   subst hr
   exact wp_ret (Zm hE rfl (Zg hE rfl) ⟨_,rfl,rfl,hM.kept⟩)
def Z4 (p0 : (List (List UInt8))) (p1 : (List UInt8) → Option (Bool)) (s5 : Int) : Option (Fl Int (Fl Unit Int)) :=
 if (decide (s5 < (p0.length : Int))) = true then ((idx p0 s5).bind fun x10=>((p1 x10)).bind fun r18=>if r18 = true then (some (Fl.ex (Fl.ex s5))) else (some (Fl.nx (wr (s5 + 1))))) else (some (Fl.ex (Fl.nx ())))
def ZK (p0 : (List (List UInt8))) (p1 : (List UInt8) → Option (Bool)) : Option (Int) :=
 (Zz (Z4 p0 p1) 0).bind fun j1=>j1.el (fun s4=>some (-1)) (fun r=>some r)
theorem XE (w0 : World) (p0 : (List (List UInt8))) (v0_1 : Value) (hv0_1 : Ro w0 p0 [v0_1]) (p1 : (List UInt8) → Option (Bool)) (k1 : Nat) (q1 : List Value) (hcb1 : Callable Try.prog k1) (hg1 : ∀ (w2 : World),Kept (Old w0) w0 w2 → ∀ (z0 : (List UInt8)) (zu1 : Value) (_ : Ro w2 z0 [zu1]) (zr : Bool),p1 z0 = some zr → Calls Try.prog k1 ([zu1] ++ q1).toArray w2 (fun en w3=>∃ v,en = .returned v ∧ (v = (vT zr) ∧ Kept (Old w2) w2 w3))) (r : Int) (hF : ZK p0 p1 = some r) :
  Calls Try.prog 141 [v0_1,(Value.func (.func k1) #[] q1.toArray)].toArray w0 (fun en w'=>∃ v,en = .returned v ∧ (v = (vI r) ∧ Kept (Old w0) w0 w')):=by
 refine Zy (n:=19) Try.func141 rfl rfl (nbl rfl) rfl ?_
 intro a hE
 have hM:=M.start w0
 unfold ZK at hF
 refine Zb (Zc hE Za ld rfl fun a hE=>Ze (wp_seq (Zb (Zd hE Za ld rfl fun a hE=>ZH hE Za ld rfl Try.underlying23 (hM.rd hv0_1) fun a hE=>Zd hE Za ld rfl fun a hE=>Ze ?_))))
 obtain ⟨j1,hl2,hF3⟩:=bind_some hF
 refine Yb (fun a w=>∃ s4 : Unit,j1 = Fl.nx s4 ∧ Env 19 a [] ∧ M (Old w0) w0 w []) ?_ ?_
 ·skip
  refine wp_block ?_
  refine ZL (fun (s5 : Int) a w=>Env 19 a [(0,v0_1),(1,(Value.func (.func k1) #[] q1.toArray)),(7,(vI (p0.length : Int))),(8,vI s5)] ∧ M (Old w0) w0 w []) hl2 ⟨hE.sub ⟨rfl,rfl,rfl,rfl,trivial⟩,hM⟩ ?_
  rintro s5 a w ⟨hE,hM⟩ o8 hs6 hx7
  unfold Z4 at hs6
  refine Zb (Zh hE Za ld rfl rfl rfl fun a hE=>Ze (wp_seq ?_))
  refine Zj hE rfl ?_ ?_
  ·intro hb9
   have hs6:=Zo hs6 hb9
   refine wp_skip (Zv (wp_seq (wp_block (Zb (Zd hE Za ld rfl fun a hE=>Zc hE Za ld rfl fun a hE=>Ze (Zb (Zd hE Za ld rfl fun a hE=>Zd hE Za ld rfl fun a hE=>Zd hE Za ld rfl ?_))))))); intro a hE
   obtain ⟨x10,hi12,hs6⟩:=bix hs6
   refine Zw hE Za ld rfl rfl Try.underlying23 Xm (hM.rd hv0_1) hi12.1 ?_; intro a hE
   obtain ⟨cs13,hs14,hA15⟩:=Xg hv0_1 hi12.2 -- ^
   obtain ⟨u16,rfl⟩:=XN hs14 -- ^
   have h17:=hs14 -- ^
   refine ZG (v:=u16) hE Za ld rfl Xm rfl (hM.atk hA15 (XC hv0_1 hi12.2)) ?_; intro a hE
   obtain ⟨r18,e19,hs6⟩:=bind_some hs6
   refine Qh (vs:=[u16]) hE Za ld rfl rfl hcb1 (hg1 _ hM.kept x10 u16 (hM.rdo h17) r18 e19) ?_
   rintro v w a ⟨rfl,hK⟩ hE
   have hM:=hM.keep hK
   refine Ze ?_
   refine Zj hE rfl ?_ ?_
   ·intro hb20
    have hs6:=Zo hs6 hb20
    refine Zb (Zd hE Za ld rfl fun a hE=>Zc hE Za ld rfl fun a hE=>Ze ?_)
    have ht21:=hx7 _ (ois hs6)
    subst ht21
    have hr:=Option.some.inj hF3
    subst hr
    exact wp_ret (Z1 (Zi (Zi (Z1 (Zi (Zi (Zm hE rfl (Zg hE rfl) ⟨_,rfl,rfl,hM.kept⟩)))))))
   ·intro hb20
    have hs6:=Zp hs6 hb20
    refine wp_skip (Xf (Zv (wp_region_lit (Zh hE Za ld rfl rfl rfl fun a hE=>Zd hE Za ld rfl fun a hE=>Zk (Zl ?_)))))
    exact ⟨_,(ois hs6),hE.sub ⟨rfl,rfl,rfl,rfl,trivial⟩,hM⟩
  ·intro hb9
   have hs6:=Zp hs6 hb9
   refine wp_exit (Zs (Zs (Xl ?_)))
   have ht22:=hx7 _ (ois hs6)
   subst ht22
   refine Zl ?_
   exact ⟨(),rfl,hE.sub trivial,hM⟩
 ·skip
  rintro a w ⟨s4,ht,hE,hM⟩
  subst ht
  have hF3:=XX hF3
  refine Zv (Zb (Zc hE Za ld rfl fun a hE=>Ze ?_))
  have hr:=Option.some.inj hF3
  subst hr
  exact wp_ret (Zm hE rfl (Zg hE rfl) ⟨_,rfl,rfl,hM.kept⟩)
def ZB (p0 : (List (List UInt8))) (p1 : (List UInt8) → Option (Bool)) : Option (Bool) :=
 (ZK p0 p1).bind fun r1=>some (decide (r1 ≥ 0))
theorem Xw (w0 : World) (p0 : (List (List UInt8))) (v0_1 : Value) (hv0_1 : Ro w0 p0 [v0_1]) (p1 : (List UInt8) → Option (Bool)) (k1 : Nat) (q1 : List Value) (hcb1 : Callable Try.prog k1) (hg1 : ∀ (w2 : World),Kept (Old w0) w0 w2 → ∀ (z0 : (List UInt8)) (zu1 : Value) (_ : Ro w2 z0 [zu1]) (zr : Bool),p1 z0 = some zr → Calls Try.prog k1 ([zu1] ++ q1).toArray w2 (fun en w3=>∃ v,en = .returned v ∧ (v = (vT zr) ∧ Kept (Old w2) w2 w3))) (r : Bool) (hF : ZB p0 p1 = some r) :
  Calls Try.prog 99 [v0_1,(Value.func (.func k1) #[] q1.toArray)].toArray w0 (fun en w'=>∃ v,en = .returned v ∧ (v = (vT r) ∧ Kept (Old w0) w0 w')):=by
 refine Zy (n:=9) Try.func99 rfl rfl (nbl rfl) rfl ?_
 intro a hE
 have hM:=M.start w0
 unfold ZB at hF
 refine Zb (Zc hE Za ld rfl fun a hE=>Ze (Zb (Zd hE Za ld rfl fun a hE=>Zd hE Za ld rfl ?_))); intro a hE
 obtain ⟨r1,e2,hF⟩:=bind_some hF
 refine Zq hE Za ld rfl cb141 (XE _ p0 v0_1 (hM.rdo hv0_1) p1 k1 q1 hcb1 (fun w2 hk2=>hg1 w2 (hM.kept.trans hk2)) r1 e2) ?_
 rintro v w a ⟨rfl,hK⟩ hE
 have hM:=hM.keep hK
 refine Zh hE Za ld rfl rfl rfl fun a hE=>Zc hE Za ld rfl fun a hE=>Ze ?_
 have hr:=Option.some.inj hF
 subst hr
 exact wp_ret (Zm hE rfl (Zg hE rfl) ⟨_,rfl,rfl,hM.kept⟩)
def ZM (p0 : (List UInt8)) (p1 : Int) : Option (Bool) :=
 some ((p0.length : Int) != p1)
theorem X7 (w0 : World) (p0 : (List UInt8)) (v0_1 : Value) (hv0_1 : Ro w0 p0 [v0_1]) (pb1 : Nat) (p1 : Int) (hA1 : At w0 pb1 0 ([vI p1])) (hB1 : Old w0 pb1) (r : Bool) (hF : ZM p0 p1 = some r) :
  Calls Try.prog 100 [v0_1,(ptr pb1 0)].toArray w0 (fun en w'=>∃ v,en = .returned v ∧ (v = (vT r) ∧ Kept (Old w0) w0 w')):=by
 refine Zy (n:=8) Try.func100 rfl rfl (nbl rfl) rfl ?_
 intro a hE
 have hM:=M.start w0
 unfold ZM at hF
 refine Zb (Zc hE Za ld rfl fun a hE=>Ze (Zb (Zd hE Za ld rfl fun a hE=>ZH hE Za ld rfl Try.underlying22 (hM.rd hv0_1) fun a hE=>ZG (v:=(vI p1)) hE Za ld rfl ty3 rfl (hM.atk hA1 hB1) fun a hE=>Zh hE Za ld rfl rfl rfl fun a hE=>Zc hE Za ld rfl fun a hE=>Ze ?_)))
 have hr:=Option.some.inj hF
 subst hr
 exact wp_ret (Zm hE rfl (Zg hE rfl) ⟨_,rfl,rfl,hM.kept⟩)
def ZX (p0 : (List (List UInt8))) (p1 : Int) : Option (Bool) :=
 (if (decide ((p0.length : Int) ≤ 7)) = true then ((ZB p0 (fun z0=>ZM z0 p1)).bind fun r7=>some (!r7)) else (some false) : Option (Bool)).bind fun j3=>some j3
theorem Wm (w0 : World) (p0 : (List (List UInt8))) (v0_1 : Value) (hv0_1 : Ro w0 p0 [v0_1]) (p1 : Int) (r : Bool) (hF : ZX p0 p1 = some r) :
  Calls Try.prog 48 [v0_1,vI p1].toArray w0 (fun en w'=>∃ v,en = .returned v ∧ (v = (vT r) ∧ Kept (Old w0) w0 w')):=by
 refine Zy (n:=14) Try.func48 rfl rfl (nbl rfl) rfl ?_
 intro a hE
 have hM:=M.start w0
 unfold ZX at hF
 refine Zb (Qp (cs:=[vI p1]) hE hM Za ld rfl rfl fun b1 w a hM hE=>Zc hE Za ld rfl fun a hE=>Ze ?_)
 obtain ⟨j3,hl4,hF5⟩:=bind_some hF
 refine YY (fun a w=>Env 14 a [(4,vT j3)] ∧ M (Old w0) w0 w []) ?_ ?_
 ·skip
  refine wp_region_lit (Zd hE Za ld rfl fun a hE=>ZH hE Za ld rfl Try.underlying23 (hM.rd hv0_1) fun a hE=>Zh hE Za ld rfl rfl rfl fun a hE=>Zd hE Za ld rfl ?_); intro a hE
  refine XA (decide ((p0.length : Int) ≤ 7)) (fun hb6=>?_) (fun hb6=>?_)
  ·have hl4:=Zo hl4 hb6
   refine Zd hE (Zn hE rfl (lkb rfl hb6)) (by decide) rfl fun a hE=>Tu hE (Zn hE rfl (lkb rfl hb6)) (by decide) rfl ?_; intro a hE
   obtain ⟨r7,e8,hl4⟩:=bind_some hl4
   refine Zq hE (Zn hE rfl (lkb rfl hb6)) (by decide) rfl cb99 (Xw _ p0 v0_1 (hM.rdo hv0_1) (fun z0=>ZM z0 p1) 100 [(ptr b1 0)] cb100 (fun w2 hk2 z0 zu0_0 zh0_0 zr zhr=>X7 w2 z0 zu0_0 zh0_0 b1 p1 (Qv (hM.rawAt (pre:=[])) hk2 (by simp [cat])) (UT (hM.rawAt (pre:=[])) hk2 (by simp [cat])) zr zhr) r7 e8) ?_
   rintro v w a ⟨rfl,hK⟩ hE
   have hM:=hM.keep hK
   refine Xx hE (Zn hE rfl (lkb rfl hb6)) (by decide) rfl fun a hE=>Yp hE Za ld (lkb rfl hb6) rfl fun a hE=>Zc hE Za ld rfl fun a hE=>Zk ?_
   have ht9:=Option.some.inj hl4
   subst ht9
   refine Zl ?_
   have hM:=M.fst (l:=[]) hM
   exact ⟨hE.sub ⟨rfl,trivial⟩,hM⟩
  ·have hl4:=Zp hl4 hb6
   refine Zr hE rfl (lkb rfl hb6) rfl (by decide) fun a hE=>Zr hE rfl (lkb rfl hb6) rfl (by decide) fun a hE=>Zr hE rfl (lkb rfl hb6) rfl (by decide) fun a hE=>Zr hE rfl (lkb rfl hb6) rfl (by decide) fun a hE=>Xe hE Za ld (lkb rfl hb6) rfl fun a hE=>Zc hE Za ld rfl fun a hE=>Zk ?_
   have ht10:=Option.some.inj hl4
   subst ht10
   refine Zl ?_
   have hM:=M.fst (l:=[]) hM
   exact ⟨hE.sub ⟨rfl,trivial⟩,hM⟩
 ·skip
  rintro a w ⟨hE,hM⟩
  have hr:=Option.some.inj hF5
  subst hr
  exact wp_ret (Zm hE rfl (Zg hE rfl) ⟨_,rfl,rfl,hM.kept⟩)
def YM (p0 : (List UInt8)) : Option (Int) :=
 some (p0.length : Int)
theorem WN (w0 : World) (p0 : (List UInt8)) (v0_1 : Value) (hv0_1 : Ro w0 p0 [v0_1]) (r : Int) (hF : YM p0 = some r) :
  Calls Try.prog 50 [v0_1].toArray w0 (fun en w'=>∃ v,en = .returned v ∧ (v = (vI r) ∧ Kept (Old w0) w0 w')):=by
 refine Zy (n:=5) Try.func50 rfl rfl (nbl rfl) rfl ?_
 intro a hE
 have hM:=M.start w0
 unfold YM at hF
 refine Zb (Zc hE Za ld rfl fun a hE=>Ze (Zb (Zd hE Za ld rfl fun a hE=>ZH hE Za ld rfl Try.underlying22 (hM.rd hv0_1) fun a hE=>Zc hE Za ld rfl fun a hE=>Ze ?_)))
 have hr:=Option.some.inj hF
 subst hr
 exact wp_ret (Zm hE rfl (Zg hE rfl) ⟨_,rfl,rfl,hM.kept⟩)
def Z6 (p0 : (List UInt8)) (p1 : UInt8) : Option (Int) :=
 some (indexByte p0 p1)
theorem X0 (w0 : World) (p0 : (List UInt8)) (v0_1 : Value) (hv0_1 : Ro w0 p0 [v0_1]) (p1 : UInt8) (r : Int) (hF : Z6 p0 p1 = some r) :
  Calls Try.prog 102 [v0_1,vB p1].toArray w0 (fun en w'=>∃ v,en = .returned v ∧ (v = (vI r) ∧ Kept (Old w0) w0 w')):=by
 refine Zy (n:=8) Try.func102 rfl rfl (nbl rfl) rfl ?_
 intro a hE
 have hM:=M.start w0
 unfold Z6 at hF
 refine Zb (Zc hE Za ld rfl fun a hE=>Ze (Zb (Zd hE Za ld rfl fun a hE=>Zd hE Za ld rfl fun a hE=>UV hE Za ld rfl Try.func142 rfl (by decide) (by kernel_rfl) (by kernel_rfl) (hM.rd hv0_1) fun a hE=>Zc hE Za ld rfl fun a hE=>Ze ?_)))
 have hr:=Option.some.inj hF
 subst hr
 exact wp_ret (Zm hE rfl (Zg hE rfl) ⟨_,rfl,rfl,hM.kept⟩)
def ZO (p0 : (List UInt8)) (s5 : Int) : Option (Fl Int (Fl Unit Bool)) :=
 if (decide (s5 < (p0.length : Int))) = true then ((idx p0 s5).bind fun x10=>(slc p0 (0 : Int) s5).bind fun l13=>(Z6 l13 x10).bind fun r16=>if (decide (r16 ≥ 0)) = true then (some (Fl.ex (Fl.ex false))) else (some (Fl.nx (wr (s5 + 1))))) else (some (Fl.ex (Fl.nx ())))
def Ya (p0 : (List UInt8)) : Option (Bool) :=
 (Zz (ZO p0) 0).bind fun j1=>j1.el (fun s4=>some true) (fun r=>some r)
theorem WE (w0 : World) (p0 : (List UInt8)) (v0_1 : Value) (hv0_1 : Ro w0 p0 [v0_1]) (r : Bool) (hF : Ya p0 = some r) :
  Calls Try.prog 101 [v0_1].toArray w0 (fun en w'=>∃ v,en = .returned v ∧ (v = (vT r) ∧ Kept (Old w0) w0 w')):=by
 refine Zy (n:=19) Try.func101 rfl rfl (nbl rfl) rfl ?_
 intro a hE
 have hM:=M.start w0
 unfold Ya at hF
 refine Zb (Zc hE Za ld rfl fun a hE=>Ze (wp_seq (Zb (Zd hE Za ld rfl fun a hE=>ZH hE Za ld rfl Try.underlying22 (hM.rd hv0_1) fun a hE=>Zd hE Za ld rfl fun a hE=>Ze ?_))))
 obtain ⟨j1,hl2,hF3⟩:=bind_some hF
 refine Yb (fun a w=>∃ s4 : Unit,j1 = Fl.nx s4 ∧ Env 19 a [] ∧ M (Old w0) w0 w []) ?_ ?_
 ·skip
  refine wp_block ?_
  refine ZL (fun (s5 : Int) a w=>Env 19 a [(0,v0_1),(5,v0_1),(6,(vI (p0.length : Int))),(7,vI s5)] ∧ M (Old w0) w0 w []) hl2 ⟨hE.sub ⟨rfl,rfl,rfl,rfl,trivial⟩,hM⟩ ?_
  rintro s5 a w ⟨hE,hM⟩ o8 hs6 hx7
  unfold ZO at hs6
  refine Zb (Zh hE Za ld rfl rfl rfl fun a hE=>Ze (wp_seq ?_))
  refine Zj hE rfl ?_ ?_
  ·intro hb9
   have hs6:=Zo hs6 hb9
   refine wp_skip (Zv (wp_seq (wp_block (Zb (Zd hE Za ld rfl ?_))))); intro a hE
   obtain ⟨x10,hi12,hs6⟩:=bix hs6
   refine Zw hE Za ld rfl rfl Try.underlying22 ty5 (hM.rd hv0_1) hi12.1 fun a hE=>ZG (v:=(vB x10)) hE Za ld rfl ty5 rfl (Xk (hM.rd hv0_1) hi12.2) fun a hE=>Zc hE Za ld rfl fun a hE=>Zc hE Za ld rfl fun a hE=>Ze (Zb (Zd hE Za ld rfl fun a hE=>Zd hE Za ld rfl ?_)); intro a hE
   obtain ⟨l13,e14,hs6⟩:=bind_some hs6
   refine QG hE Za ld rfl rfl rfl rfl rfl Try.underlying22 ty5 (hM.rd hv0_1) e14 ?_; intro a hE
   have h15 : Rep.sat (Old w0) w0 l13 [(X1 v0_1 ((0 : Int)).toNat (s5).toNat 1)] []:=T9 hv0_1 e14 -- ^
   refine Zd hE Za ld rfl ?_; intro a hE
   obtain ⟨r16,e17,hs6⟩:=bind_some hs6
   refine Zq hE Za ld rfl cb102 (X0 _ l13 (X1 v0_1 ((0 : Int)).toNat (s5).toNat 1) (hM.rdo h15) x10 r16 e17) ?_
   rintro v w a ⟨rfl,hK⟩ hE
   have hM:=hM.keep hK
   refine Zh hE Za ld rfl rfl rfl fun a hE=>Ze ?_
   refine Zj hE rfl ?_ ?_
   ·intro hb18
    have hs6:=Zo hs6 hb18
    refine Zb (Zc hE Za ld rfl fun a hE=>Ze ?_)
    have ht19:=hx7 _ (ois hs6)
    subst ht19
    have hr:=Option.some.inj hF3
    subst hr
    exact wp_ret (Z1 (Zi (Zi (Z1 (Zi (Zi (Zm hE rfl (Zg hE rfl) ⟨_,rfl,rfl,hM.kept⟩)))))))
   ·intro hb18
    have hs6:=Zp hs6 hb18
    refine wp_skip (Xf (Zv (wp_region_lit (Zh hE Za ld rfl rfl rfl fun a hE=>Zd hE Za ld rfl fun a hE=>Zk (Zl ?_)))))
    exact ⟨_,(ois hs6),hE.sub ⟨rfl,rfl,rfl,rfl,trivial⟩,hM⟩
  ·intro hb9
   have hs6:=Zp hs6 hb9
   refine wp_exit (Zs (Zs (Xl ?_)))
   have ht20:=hx7 _ (ois hs6)
   subst ht20
   refine Zl ?_
   exact ⟨(),rfl,hE.sub trivial,hM⟩
 ·skip
  rintro a w ⟨s4,ht,hE,hM⟩
  subst ht
  have hF3:=XX hF3
  refine Zv (Zb (Zc hE Za ld rfl fun a hE=>Ze ?_))
  have hr:=Option.some.inj hF3
  subst hr
  exact wp_ret (Zm hE rfl (Zg hE rfl) ⟨_,rfl,rfl,hM.kept⟩)
def Yn (p0 : (List UInt8)) : Option (Bool) :=
 ((Ya p0).bind fun r4=>if r4 = true then ((Z6 p0 0).bind fun r7=>some (decide (r7 < 0))) else (some false) : Option (Bool)).bind fun j1=>some j1
theorem WO (w0 : World) (p0 : (List UInt8)) (v0_1 : Value) (hv0_1 : Ro w0 p0 [v0_1]) (r : Bool) (hF : Yn p0 = some r) :
  Calls Try.prog 51 [v0_1].toArray w0 (fun en w'=>∃ v,en = .returned v ∧ (v = (vT r) ∧ Kept (Old w0) w0 w')):=by
 refine Zy (n:=10) Try.func51 rfl rfl (nbl rfl) rfl ?_
 intro a hE
 have hM:=M.start w0
 unfold Yn at hF
 refine Zb (Zc hE Za ld rfl fun a hE=>Ze ?_)
 obtain ⟨j1,hl2,hF3⟩:=bind_some hF
 refine YY (fun a w=>Env 10 a [(2,vT j1)] ∧ M (Old w0) w0 w []) ?_ ?_
 ·skip
  refine wp_region_lit (Zd hE Za ld rfl ?_); intro a hE
  obtain ⟨r4,e5,hl2⟩:=bind_some hl2
  refine Zq hE Za ld rfl cb101 (WE _ p0 v0_1 (hM.rdo hv0_1) r4 e5) ?_
  rintro v w a ⟨rfl,hK⟩ hE
  have hM:=hM.keep hK
  refine Zd hE Za ld rfl ?_; intro a hE
  refine XA r4 (fun hb6=>?_) (fun hb6=>?_)
  ·have hl2:=Zo hl2 hb6
   refine Zd hE (Zn hE rfl (lkb rfl hb6)) (by decide) rfl ?_; intro a hE
   obtain ⟨r7,e8,hl2⟩:=bind_some hl2
   refine Zq hE (Zn hE rfl (lkb rfl hb6)) (by decide) rfl cb102 (X0 _ p0 v0_1 (hM.rdo hv0_1) 0 r7 e8) ?_
   rintro v w a ⟨rfl,hK⟩ hE
   have hM:=hM.keep hK
   refine Zh hE (Zn hE rfl (lkb rfl hb6)) (by decide) rfl rfl rfl fun a hE=>Yp hE Za ld (lkb rfl hb6) rfl fun a hE=>Zc hE Za ld rfl fun a hE=>Zk ?_
   have ht9:=Option.some.inj hl2
   subst ht9
   refine Zl ?_
   exact ⟨hE.sub ⟨rfl,trivial⟩,hM⟩
  ·have hl2:=Zp hl2 hb6
   refine Zr hE rfl (lkb rfl hb6) rfl (by decide) fun a hE=>Zr hE rfl (lkb rfl hb6) rfl (by decide) fun a hE=>Zr hE rfl (lkb rfl hb6) rfl (by decide) fun a hE=>Xe hE Za ld (lkb rfl hb6) rfl fun a hE=>Zc hE Za ld rfl fun a hE=>Zk ?_
   have ht10:=Option.some.inj hl2
   subst ht10
   refine Zl ?_
   exact ⟨hE.sub ⟨rfl,trivial⟩,hM⟩
 ·skip
  rintro a w ⟨hE,hM⟩
  have hr:=Option.some.inj hF3
  subst hr
  exact wp_ret (Zm hE rfl (Zg hE rfl) ⟨_,rfl,rfl,hM.kept⟩)
def Zx (p1 : UInt8) (p2 : UInt8) (s4 : Int × Int) : Option (Fl (Int × Int) Int) :=
 if (decide (s4.2 < 8)) = true then (((ZZ s4.2).bind fun _=>(if (((UL p2 s4.2) &&& 1) == 1) = true then ((ZZ s4.2).bind fun _=>some (Vb s4.1 (Wq (bI p1) s4.2))) else (some s4.1) : Option (Int)).bind fun j13=>some j13 : Option (Int)).bind fun j9=>some (Fl.nx (j9,wr (s4.2 + 1)))) else (some (Fl.ex s4.1))
def ZE (p0 : Int) (p1 : UInt8) (p2 : UInt8) : Option (UInt8) :=
 (Zz (Zx p1 p2) (0,0)).bind fun j1=>(YK j1 p0 8).bind fun r22=>some (YL r22)
theorem WR (w0 : World) (p0 : Int) (p1 : UInt8) (p2 : UInt8) (r : UInt8) (hF : ZE p0 p1 p2 = some r) :
  Calls Try.prog 144 [vI p0,vB p1,vB p2].toArray w0 (fun en w'=>∃ v,en = .returned v ∧ (v = (vB r) ∧ Kept (Old w0) w0 w')):=by
 refine Zy (n:=28) Try.func144 rfl rfl (nbl rfl) rfl ?_
 intro a hE
 have hM:=M.start w0
 unfold ZE at hF
 refine Zb (Zc hE Za ld rfl fun a hE=>Ze (Zb (Zc hE Za ld rfl fun a hE=>Ze (wp_seq (Zb (Zd hE Za ld rfl fun a hE=>Ze ?_))))))
 obtain ⟨j1,hl2,hF3⟩:=bind_some hF
 refine Yb (fun a w=>Env 28 a [(0,vI p0),(7,vI j1)] ∧ M (Old w0) w0 w []) ?_ ?_
 ·skip
  refine wp_block ?_
  refine ZL (fun (s4 : Int × Int) a w=>Env 28 a [(0,vI p0),(1,vB p1),(2,vB p2),(7,vI s4.1),(9,vI s4.2)] ∧ M (Old w0) w0 w []) hl2 ⟨hE.sub ⟨rfl,rfl,rfl,rfl,rfl,trivial⟩,hM⟩ ?_
  rintro s4 a w ⟨hE,hM⟩ o7 hs5 hx6
  unfold Zx at hs5
  refine Zb (Zh hE Za ld rfl rfl rfl fun a hE=>Ze (wp_seq ?_))
  refine Zj hE rfl ?_ ?_
  ·intro hb8
   have hs5:=Zo hs5 hb8
   refine wp_skip (Zv ?_)
   obtain ⟨j9,hl10,hF11⟩:=bind_some hs5
   refine YY (fun a w=>Env 28 a [(0,vI p0),(1,vB p1),(2,vB p2),(7,vI j9),(9,vI s4.2)] ∧ M (Old w0) w0 w []) ?_ ?_
   ·skip
    refine wp_block (Zb (Zd hE Za ld rfl fun a hE=>Zc hE Za ld rfl fun a hE=>Ze (Zb (Zd hE Za ld rfl fun a hE=>Zd hE Za ld rfl ?_)))); intro a hE
    obtain ⟨_,e12,hl10⟩:=bind_some hl10
    have e12:=Y5 e12
    refine Te hE Za ld rfl rfl (bB_shr _ _ e12) fun a hE=>Zh hE Za ld rfl rfl (bB_and (UL p2 s4.2) 1) fun a hE=>Zh hE Za ld rfl rfl (Qf ((UL p2 s4.2) &&& 1) 1) fun a hE=>Ze ?_
    obtain ⟨j13,hl14,hF15⟩:=bind_some hl10
    refine Yb (fun a w=>Env 28 a [(0,vI p0),(1,vB p1),(2,vB p2),(7,vI j13),(9,vI s4.2)] ∧ M (Old w0) w0 w []) ?_ ?_
    ·skip
     refine Zj hE rfl ?_ ?_
     ·intro hb16
      have hl14:=Zo hl14 hb16
      refine wp_region_lit (Zd hE Za ld rfl fun a hE=>Zd hE Za ld rfl fun a hE=>X2 hE Za ld rfl Try.underlying5 Try.underlying2 ?_); intro a hE
      rw [Vh] at hE
      refine Zd hE Za ld rfl ?_; intro a hE
      obtain ⟨_,e17,hl14⟩:=bind_some hl14
      have e17:=Y5 e17
      refine Te hE Za ld rfl rfl (V0 _ _ e17) fun a hE=>Zh hE Za ld rfl rfl rfl fun a hE=>Zc hE Za ld rfl fun a hE=>Zk ?_
      have ht18:=Option.some.inj hl14
      subst ht18
      refine Zl ?_
      exact ⟨hE.sub ⟨rfl,rfl,rfl,rfl,rfl,trivial⟩,hM⟩
     ·intro hb16
      have hl14:=Zp hl14 hb16
      refine wp_skip ?_
      have ht19:=Option.some.inj hl14
      subst ht19
      refine Zl ?_
      exact ⟨hE.sub ⟨rfl,rfl,rfl,rfl,rfl,trivial⟩,hM⟩
    ·skip
     rintro a w ⟨hE,hM⟩
     refine Xf ?_
     have ht20:=Option.some.inj hF15
     subst ht20
     refine Zl ?_
     exact ⟨hE.sub ⟨rfl,rfl,rfl,rfl,rfl,trivial⟩,hM⟩
   ·skip
    rintro a w ⟨hE,hM⟩
    refine wp_region_lit (Zh hE Za ld rfl rfl rfl fun a hE=>Zd hE Za ld rfl fun a hE=>Zk (Zl ?_))
    exact ⟨_,(ois hF11),hE.sub ⟨rfl,rfl,rfl,rfl,rfl,trivial⟩,hM⟩
  ·intro hb8
   have hs5:=Zp hs5 hb8
   refine wp_exit (Zs (Zs (Xl ?_)))
   have ht21:=hx6 _ (ois hs5)
   subst ht21
   refine Zl ?_
   exact ⟨hE.sub ⟨rfl,rfl,trivial⟩,hM⟩
 ·skip
  rintro a w ⟨hE,hM⟩
  refine Zv (Zb (Zd hE Za ld rfl fun a hE=>Zd hE Za ld rfl ?_)); intro a hE
  obtain ⟨r22,e23,hF3⟩:=bind_some hF3
  refine Zq hE Za ld rfl cb98 (Vp _ j1 p0 8 r22 e23) ?_
  rintro v w a ⟨rfl,hK⟩ hE
  have hM:=hM.keep hK
  refine X2 hE Za ld rfl Try.underlying2 Try.underlying5 ?_; intro a hE
  rw [Xz] at hE
  refine Zc hE Za ld rfl fun a hE=>Ze ?_
  have hr:=Option.some.inj hF3
  subst hr
  exact wp_ret (Zm hE rfl (Zg hE rfl) ⟨_,rfl,rfl,hM.kept⟩)
-- value
/-! ### A range over slices.Backward: the polynomial's value -/
theorem WQ (p1 p2 : UInt8) : ∀ (k i : Nat) (acc : Int),i + k = 8 → ∃ t,Zz (Zx p1 p2) (acc,(i : Int)) = some t
 | 0,i,acc,h=>by
  have : i = 8:=by omega
  subst this
  exact ⟨acc,YB (by unfold Zx; rfl)⟩
 | k + 1,i,acc,h=>by
  have h1 : decide ((i : Int) < 8) = true:=by simp only [decide_eq_true_eq]; omega
  have h2 : ZZ (i : Int) = some ():=by unfold ZZ; rw [if_pos (by omega)]
  have h3 : wr ((i : Int) + 1) = ((i + 1 : Nat) : Int):=by rw [XO (by omega)]; rfl
  cases hc : (((UL p2 (i : Int)) &&& 1) == 1) with
  | true =>
   obtain ⟨t,ht⟩:=WQ p1 p2 k (i + 1) (Vb acc (Wq (bI p1) (i : Int))) (by omega)
   refine ⟨t,?_⟩
   rw [YN (s':=(Vb acc (Wq (bI p1) (i : Int)),((i + 1 : Nat) : Int)))]
   ·exact ht
   ·unfold Zx
    simp only [h1,if_true,h2,Option.bind_some,hc,h3]
  | false =>
   obtain ⟨t,ht⟩:=WQ p1 p2 k (i + 1) acc (by omega)
   refine ⟨t,?_⟩
   rw [YN (s':=(acc,((i + 1 : Nat) : Int)))]
   ·exact ht
   ·unfold Zx
    simp only [h1,if_true,h2,Option.bind_some,hc,Bool.false_eq_true,if_false,h3]
theorem Ve (m : Int) : ∀ (k : Nat) (acc : Int),k ≤ 8 → ∃ t,Zz (ZQ m 8) (acc,(k : Int) + 7) = some t
 | 0,acc,_=>⟨acc,YB (by unfold ZQ; rfl)⟩
 | k + 1,acc,h=>by
  have h1 : decide (((k + 1 : Nat) : Int) + 7 ≥ 8) = true:=by simp only [decide_eq_true_eq]; omega
  have h2 : ZZ (((k + 1 : Nat) : Int) + 7) = some ():=by unfold ZZ; rw [if_pos (by omega)]
  have h4 : wr ((((k + 1 : Nat) : Int) + 7) - 8) = (k : Int):=by rw [XO (by omega)]; omega
  have h5 : ZZ (k : Int) = some ():=by unfold ZZ; rw [if_pos (by omega)]
  have h3 : wr ((((k + 1 : Nat) : Int) + 7) - 1) = (k : Int) + 7:=by rw [XO (by omega)]; omega
  cases hc : ((andI (Th acc (((k + 1 : Nat) : Int) + 7)) 1) == 1) with
  | true =>
   obtain ⟨t,ht⟩:=Ve m k (Vb acc (Wq m (k : Int))) (by omega)
   refine ⟨t,?_⟩
   rw [YN (s':=(Vb acc (Wq m (k : Int)),(k : Int) + 7))]
   ·exact ht
   ·unfold ZQ
    simp only [h1,if_true,h2,Option.bind_some,hc,h3,h4,h5]
  | false =>
   obtain ⟨t,ht⟩:=Ve m k acc (by omega)
   refine ⟨t,?_⟩
   rw [YN (s':=(acc,(k : Int) + 7))]
   ·exact ht
   ·unfold ZQ
    simp only [h1,if_true,h2,Option.bind_some,hc,Bool.false_eq_true,if_false,h3]
theorem T6 (m : Int) (x y : UInt8) : ∃ r,ZE m x y = some r:=by
 obtain ⟨t,ht⟩:=WQ x y 8 0 0 rfl
 obtain ⟨u,hu⟩:=Ve m 8 t (Nat.le_refl _)
 have ht' : Zz (Zx x y) (0,0) = some t:=ht
 have hu' : Zz (ZQ m 8) (t,15) = some u:=hu
 exact ⟨YL u,by unfold ZE YK; simp only [ht',hu',Option.bind_some]⟩
def VT (m : Int) (x y : UInt8) : UInt8:=(ZE m x y).getD 0
theorem Vm (m : Int) (x y : UInt8) : ZE m x y = some (VT m x y):=by
 obtain ⟨r,hr⟩:=T6 m x y
 unfold VT; rw [hr]; rfl
def Uk (m : Int) (x : UInt8) (out a : UInt8) : UInt8:=VT m out x ^^^ a
def Yo (p0 : Int) (p1 : List UInt8) (p2 : UInt8) : Option UInt8:=if p1.length ≤ 140737488351232 then some (p1.reverse.foldl (Uk p0 p2) 0) else none
section
open Go.RowKit Go.Shelf
attribute [local go_sem] Oper.semAt_some
/-- The iterator: for every loop body that keeps what lay below n₀. -/
theorem Qg (F : Fence) (n : Nat) (h7 : F.fn 155) (hro : F.round = none) (hn : 1 ≤ n) (l Bs n₀ b off cap : Nat) (zs : List UInt8) (hreach : zs.length ≤ 140737488351232) (hb : b < n₀) (J Jx : List (Int × UInt8) → World → Prop)
  (hY : ∀ pre x W,J pre W → pre.length < zs.length → YieldAt F (n - 1) Try.prog l #[.int .i64 x.1,.int .u8 x.2.toNat] W fun e W' =>
   (e = .returned (.bool true) ∧ J (pre ++ [x]) W' ∧ KpB n₀ Bs W W') ∨ (e = .returned (.bool false) ∧ Jx (pre ++ [x]) W'))
  (W : World) (hBs : W.cell? ⟨Bs,0,none⟩ = some (.slice (some ⟨b,off,none⟩) zs.length cap))
  (hc : ∀ j,j < zs.length → W.cell? ⟨b,off + j,none⟩ = some (.int .u8 (zs[j]?.getD 0).toNat)) (h0 : J [] W) :
  CallsIn F n Try.prog 155 #[.func (.yield l) #[] #[],.pointer (some ⟨Bs,0,none⟩)] W fun e W'=>(∃ v,e = .returned v) ∧
   ((∃ ys,ys = VC (VZ zs) zs.length ∧ J ys W') ∨ (∃ pre,Jx pre W')):=by
 refine callsIn_of_wp Try.func155 rfl h7 ?_ hro
 simp only [Try.ntmps155,List.size_toArray,List.length_cons,List.length_nil,Nat.reduceAdd,Nat.reduceSub,Array.replicate_succ,Array.replicate_zero,List.push_toArray,List.append_toArray,List.nil_append,List.cons_append]
 gi_wp2
 gi_loopw [3] (fun i wr=>∃ k : Nat,k ≤ zs.length ∧ i = .int .i64 ((zs.length : Int) - 1 - k) ∧ J (VC (VZ zs) k) wr ∧ KpB n₀ Bs W wr)
  (fun i _=>(intOf i + 1).toNat)
 case atStart=>exact ⟨0,Nat.zero_le _,by simp,h0,Below.refl _ _,rfl⟩
 case round =>
  obtain ⟨k,hk,rfl,hJs,hnx⟩:=hrel
  have hcx : k < zs.length → wr.cell? ⟨b,off + (zs.length - 1 - k),none⟩ = some (.int .u8 ((zs[zs.length - 1 - k]?.getD 0)).toNat):=fun h=>(hnx.1.cell (p:=⟨b,off + (zs.length - 1 - k),none⟩) hb).trans (hc _ (by omega))
  have hBs' : wr.cell? ⟨Bs,0,none⟩ = some (.slice (some ⟨b,off,none⟩) zs.length cap):=(World.cell?_of_block (w:=W) (a:=⟨Bs,0,none⟩) hnx.2).trans hBs
  by_cases hlt : k < zs.length
  ·obtain ⟨fn,tmps,assign,body,hy,hR⟩:=hY _ (VZ zs k) wr hJs (by rw [UR]; exact hlt)
   have e1 : (zs.length : Int) - 1 - k = ((zs.length - 1 - k : Nat) : Int):=by omega
   have hcx':=hcx hlt
   simp only [VZ] at hy
   rw [e1] at hy ⊢
   obtain ⟨j,hj⟩ : ∃ j,zs.length - 1 - k = j:=⟨_,rfl⟩
   have hjl : j < zs.length:=by omega
   rw [hj] at hy hcx' ⊢
   obtain ⟨x,hx⟩ : ∃ x,zs[j]?.getD 0 = x:=⟨_,rfl⟩
   rw [hx] at hy hcx'
   gi_wp2
   refine hR.mono ?_
   rintro e W3 (⟨rfl,hJ3,hk3⟩ | ⟨rfl,hJx3⟩)
   ·gi_wp2
    go_roundw
    case rel=>exact ⟨k + 1,by omega,by simp; omega,by rw [T3]; exact hJ3,hnx.trans hk3⟩
    case measure=>simp [intOf]
   ·gi_wp2
    refine bodyPost_ret (results_none rfl _ _ _) rfl ?_
    exact ⟨⟨_,rfl⟩,.inr ⟨_,hJx3⟩⟩
  ·obtain rfl : k = zs.length:=by omega
   have e1 : (zs.length : Int) - 1 - (zs.length : Int) = -1:=by omega
   rw [e1]
   gi_wp2
   go_end0
   exact ⟨⟨_,rfl⟩,.inl ⟨_,rfl,hJs⟩⟩
/-- .. at the nil slice,or one without elements: no round. -/
theorem Qa (F : Fence) (n : Nat) (h7 : F.fn 155) (hro : F.round = none) (l Bs : Nat) (p : Option Addr) (cap : Nat) (J : List (Int × UInt8) → World → Prop) (W : World) (hBs : W.cell? ⟨Bs,0,none⟩ = some (.slice p 0 cap)) (h0 : J [] W) :
  CallsIn F n Try.prog 155 #[.func (.yield l) #[] #[],.pointer (some ⟨Bs,0,none⟩)] W fun e W'=>(∃ v,e = .returned v) ∧ J [] W':=by
 refine callsIn_of_wp Try.func155 rfl h7 ?_ hro
 simp only [Try.ntmps155,List.size_toArray,List.length_cons,List.length_nil,Nat.reduceAdd,Nat.reduceSub,Array.replicate_succ,Array.replicate_zero,List.push_toArray,List.append_toArray,List.nil_append,List.cons_append]
 gi_wp2
 gi_loopw [3] (fun i wr=>i = .int .i64 (-1) ∧ J [] wr) (fun _ _=>0)
 case atStart=>exact ⟨rfl,h0⟩
 case round =>
  obtain ⟨rfl,hJs⟩:=hrel
  gi_wp2
  go_end0
  exact ⟨⟨_,rfl⟩,hJs⟩
theorem QB (F : Fence) (n : Nat) (h5 : F.fn 143) (hro : F.round = none) (a : Option Addr) (len cap : Nat) (w : World) :
  CallsIn F n Try.prog 143 #[.slice a len cap] w fun e w'=>e = .returned (.func (.func 155) #[] #[.pointer (some ⟨w.heap.size,0,none⟩)]) ∧ w' = w.alloc (.cells #[.slice a len cap] 22):=by
 refine callsIn_of_wp Try.func143 rfl h5 ?_ hro
 simp only [Try.ntmps143,List.size_toArray,List.length_cons,List.length_nil,Nat.reduceAdd,Nat.reduceSub,Array.replicate_succ,Array.replicate_zero,List.push_toArray,List.append_toArray,List.nil_append,List.cons_append]
 gi_wp2
 go_ret
 exact ⟨rfl,rfl⟩
theorem Tw (F : Fence) (n : Nat) (h7 : F.fn 155) (hro : F.round = none) (hn : 1 ≤ n) (Bs n₀ : Nat) (p : Option Addr) (cap : Nat) (zs : List UInt8) (hreach : zs.length ≤ 140737488351232) (w : World) (hBs : Bs < w.heap.size) (hn₀ : n₀ ≤ w.heap.size)
  (hc : w.cell? ⟨Bs,0,none⟩ = some (.slice p zs.length cap)) (hI : Byts n₀ w p zs) :
  SeqStopsK F n Try.prog 155 #[.pointer (some ⟨Bs,0,none⟩)] (fun x : Int × UInt8=>#[Value.int .i64 x.1,Value.int .u8 x.2.toNat]) (KpB n₀ Bs) (fun ys=>ys = VC (VZ zs) zs.length)
   (fun _=>True) zs.length w:=fun l J Jx W hW _ _ hY h0=>by
 have hc':=(hW.cell (p:=⟨Bs,0,none⟩) hBs).trans hc
 rcases hI.below (hW.mono hn₀) with rfl | ⟨b,off,rfl,hb,hcs⟩
 ·exact (Qa F n h7 hro l Bs p cap J W hc' h0).mono fun e W' ⟨he,hj⟩=>⟨he,.inl ⟨_,rfl,hj⟩⟩
 ·refine (Qg F n h7 hro hn l Bs n₀ b off cap zs hreach hb J Jx hY W hc' hcs h0).mono ?_
  rintro e W' ⟨he,⟨ys,rfl,hj⟩ | ⟨pre,hj⟩⟩
  ·exact ⟨he,.inl ⟨_,rfl,hj⟩⟩
  ·exact ⟨he,.inr ⟨_,trivial,hj⟩⟩
theorem Qj (p0 : Int) (zs : List UInt8) (p2 : UInt8) (hreach : zs.length ≤ 140737488351232) (p : Option Addr) (cap : Nat) (w : World) (hI : Byts w.heap.size w p zs) :
  CallsIn Fence.wide 5 Try.prog 103 #[vI p0,.slice p zs.length cap,vB p2] w fun e W'=>e = .returned (vB (zs.reverse.foldl (Uk p0 p2) 0)) ∧ Below w.heap.size w W':=by
 have h3 : Fence.wide.fn 103:=trivial
 have h5 : Fence.wide.fn 143:=trivial
 have h7 : Fence.wide.fn 155:=trivial
 refine callsIn_of_wp_marks Try.func103 rfl h3 ?_ rfl
 simp only [Try.ntmps103,List.size_toArray,List.length_cons,List.length_nil,Nat.reduceAdd,Nat.reduceSub,Array.replicate_succ,Array.replicate_zero,List.push_toArray,List.append_toArray,List.nil_append,List.cons_append]
 gi_wp2_with (gi_at_call 143; refine (QB Fence.wide 4 h5 rfl _ _ _ _).mono ?_; rintro e w' ⟨rfl,rfl⟩)
 have bM:=Boxed.new w 82 (vI p0)
 have bX:=Boxed.new (w.alloc (.cells #[vI p0] 82)) 5 (vB p2)
 have bS:=Boxed.new ((w.alloc (.cells #[vI p0] 82)).alloc (.cells #[vB p2] 5)) 5 (.int .u8 0)
 have bN:=Boxed.new (((w.alloc (.cells #[vI p0] 82)).alloc (.cells #[vB p2] 5)).alloc (.cells #[.int .u8 0] 5)) 22 (.slice p zs.length cap)
 simp only [World.size_alloc] at bX bS bN
 have bM0:=((bM.alloc (.cells #[vB p2] 5)).alloc (.cells #[.int .u8 0] 5)).alloc (.cells #[.slice p zs.length cap] 22)
 have bX0:=(bX.alloc (.cells #[.int .u8 0] 5)).alloc (.cells #[.slice p zs.length cap] 22)
 have bS0:=bS.alloc (.cells #[.slice p zs.length cap] 22)
 have hB0 : Below w.heap.size w ((((w.alloc (.cells #[vI p0] 82)).alloc (.cells #[vB p2] 5)).alloc (.cells #[.int .u8 0] 5)).alloc (.cells #[.slice p zs.length cap] 22)):=((((Below.refl _ w).alloc (Nat.le_refl _) _).alloc (by simp) _).alloc (by simp; omega) _).alloc (by simp; omega) _
 have hsz : ((((w.alloc (.cells #[vI p0] 82)).alloc (.cells #[vB p2] 5)).alloc (.cells #[.int .u8 0] 5)).alloc (.cells #[.slice p zs.length cap] 22)).heap.size = w.heap.size + 4:=by simp
 obtain ⟨W0,hW0⟩ : ∃ W0,((((w.alloc (.cells #[vI p0] 82)).alloc (.cells #[vB p2] 5)).alloc (.cells #[.int .u8 0] 5)).alloc (.cells #[.slice p zs.length cap] 22)) = W0:=⟨_,rfl⟩
 rw [hW0] at bM0 bX0 bS0 bN hB0 hsz ⊢
 clear bM bX bS hW0
 refine wpIn_rangeFunc_ownG (F:=Fence.wide) (n:=5) rfl (by omega) (gf:=155) (lb:=#[.pointer (some ⟨w.heap.size + 1 + 1 + 1,0,none⟩)]) rfl h7 (enters_of Try.func155 (by kernel_rfl) rfl)
  (Tw Fence.wide 4 h7 rfl (by omega) (w.heap.size + 1 + 1 + 1) w.heap.size p cap zs hreach W0 (by omega) (by omega) bN.cell (hI.below hB0)) (fun h k=>h.trans k)
  (fun W l o o' hl h ho hw=>⟨belowK_b (w:=W0) (by omega) W l o o' hl h ho hw,World.putObj_heap_other (by omega)⟩) (Below.refl _ _) (fun _=>rfl)
  (fun pre W=>(W.cell? ⟨w.heap.size,0,none⟩ = some (vI p0) ∧ W.cell? ⟨w.heap.size + 1,0,none⟩ = some (vB p2) ∧ Boxed W (w.heap.size + 1 + 1) 5 (vB ((pre.map (·.2)).foldl (Uk p0 p2) 0)) ∧ w.heap.size + 4 ≤ W.heap.size) ∧ Below w.heap.size w W)
  (fun _ _ _=>False)
  (OwnFrom.and (Own.from (fun s A B row hs hg hr=>⟨cell_kept hs.1 hg hr,cell_kept hs.2.1 hg hr,hs.2.2.1.kept hg (fun e=>by obtain ⟨o,ho,hc⟩:=hr _ e.symm; rw [show A.heap[w.heap.size + 1 + 1]? = _ from hs.2.2.1] at ho; cases ho; cases hc),Nat.le_trans hs.2.2.2 hg.size⟩) _) (ownFrom_below (Nat.le_refl _) (by omega)))
  (fun _ _ _ _ _ hs _ _=>hs)
  ⟨⟨bM0.cell,bX0.cell,bS0,by omega⟩,hB0⟩
  (fun x=>{ tmps:=#[vI p0,.slice p zs.length cap,vB p2,.pointer (some ⟨w.heap.size,0,none⟩),undef,.pointer (some ⟨w.heap.size + 1,0,none⟩),.int .u8 0,.pointer (some ⟨w.heap.size + 1 + 1,0,none⟩),undef,vB x.2,.slice p zs.length cap,.func (.func 155) #[] #[.pointer (some ⟨w.heap.size + 1 + 1 + 1,0,none⟩)],.int .i64 x.1,vB x.2,undef,undef,undef,undef,undef,undef,undef],defers:=[] }) ?assign ?body ?done ?stop
 case assign =>
  intro l x W K hK
  gi_wp2
  exact hK
 case body =>
  rintro l pre x W ⟨⟨hm,hx,ho,hw4⟩,hB⟩ _
  have hout:=ho.cell
  generalize hacc : (pre.map (·.2)).foldl (Uk p0 p2) 0 = acc at ho hout
  have hcall:=CallsIn.inRound l (n:=2) (callsIn_wide.2 (WR W p0 acc p2 _ (Vm p0 acc p2)))
  gi_wp2_with (refine ⟨trivial,?_⟩; gi_at_call 144; refine hcall.mono ?_; rintro e W1 ⟨v,rfl,rfl,hk⟩; have ho1 : Boxed W1 (w.heap.size + 1 + 1) 5 (vB acc):=(hk.block _ ho.lt).trans ho; have hc1:=ho1.cell; have hf1:=ho1.frozen)
  have hxr : ∀ a b : UInt8,Value.int .u8 (bits .xor .u8 a.toNat b.toNat) = vB (a ^^^ b):=fun a b=>Option.some.inj (Qx a b)
  have hB1:=KeptB hk hB.size
  have hlt:=ho.lt
  have hle : w.heap.size ≤ w.heap.size + 1 + 1:=by omega
  refine ⟨(KeptF hk _).trans ((KeepsOthers.setCell _ _ _).from _),⟨hB1.setCell (p:=⟨w.heap.size + 1 + 1,0,none⟩) hle _,?_⟩,⟨?_,?_,?_,?_⟩,(hB.trans hB1).setCell (p:=⟨w.heap.size + 1 + 1,0,none⟩) hle _⟩
  ·refine (Below.heap_setCell _ _ _ _ (by show _ ≠ w.heap.size + 1 + 1; omega)).trans ?_
   exact hk.block _ (show w.heap.size + 1 + 1 + 1 < W.heap.size by omega)
  ·rw [World.cell?_setCell_other _ _ _ _ (by simp)]
   exact (cell?_of_heap (hk.block _ (show w.heap.size < W.heap.size by omega)) 0).trans hm
  ·rw [World.cell?_setCell_other _ _ _ _ (by simp)]
   exact (cell?_of_heap (hk.block _ (show w.heap.size + 1 < W.heap.size by omega)) 0).trans hx
  ·rw [List.map_append,List.foldl_append,hacc]
   have:=ho1.set (.int .u8 (bits .xor .u8 (VT p0 acc p2).toNat x.2.toNat))
   rw [hxr] at this ⊢
   exact this
  ·have:=hk.size
   simp only [World.setCell,Array.size_modify]
   omega
 case done =>
  rintro D ys W hD rfl ⟨⟨hm,hx,ho,hw4⟩,hB⟩ hK
  rw [T4] at ho
  generalize hacc : zs.reverse.foldl (Uk p0 p2) 0 = acc at ho
  have hout:=ho.cell
  gi_wp2
  refine ⟨by simp,.inl ⟨_,_,rfl,run_takeDeferred hK,?_⟩⟩
  exact ⟨_,results_tmp rfl _ _ _,by rw [hacc]; rfl,hB.trans (belowK_b (w:=w) (Nat.le_refl _) W D _ _ (by omega) hK rfl rfl)⟩
 case stop =>
  rintro D c pre W _ _ h _
  exact h.elim
end
theorem WL (w0 : World) (p0 : Int) (p1 : (List UInt8)) (v1_1 : Value) (hv1_1 : Ro w0 p1 [v1_1]) (p2 : UInt8) (r : UInt8) (hF : Yo p0 p1 p2 = some r) :
  Calls Try.prog 103 [vI p0,v1_1,vB p2].toArray w0 (fun en w'=>∃ v,en = .returned v ∧ (v = (vB r) ∧ Kept (Old w0) w0 w')):=by
 unfold Yo at hF
 split at hF
 ·rename_i hl
  obtain rfl:=Option.some.inj hF
  obtain ⟨p,cap,rfl,hI⟩:=QJ hv1_1
  refine Calls.mono (callsIn_wide.1 (Qj p0 p1 p2 hl p cap w0 hI)) ?_
  rintro e W' ⟨rfl,hB⟩
  exact ⟨_,rfl,rfl,hB.os,hB.tape,hB.output,hB.size,hB.block⟩
 ·cases hF
def ZT (p2 : (List (List UInt8))) (s25 : (List UInt8) × Int) (s43 : (List UInt8) × Int) : Option (Fl ((List UInt8) × Int) (List UInt8)) :=
 if (decide (s43.2 < (p2.length : Int))) = true then ((idx p2 s43.2).bind fun x50=>(idx x50 s25.2).bind fun x58=>(app 1 s43.1 ([x58] : List UInt8)).bind fun l63=>some (Fl.nx ((s43.1 ++ ([x58] : List UInt8)),wr (s43.2 + 1)))) else (some (Fl.ex s43.1))
def ZS (p0 : Int) (p1 : (List UInt8)) (p2 : (List (List UInt8))) (x15 : UInt8) (s25 : (List UInt8) × Int) : Option (Fl ((List UInt8) × Int) (List UInt8)) :=
 if (decide (s25.2 < (p1.length : Int))) = true then ((idx p1 s25.2).bind fun x33=>(Zz (ZT p2 s25) (([x33] : List UInt8),0)).bind fun j38=>(Yo p0 j38 x15).bind fun r70=>(app 1 s25.1 ([r70] : List UInt8)).bind fun l74=>some (Fl.nx ((s25.1 ++ ([r70] : List UInt8)),wr (s25.2 + 1)))) else (some (Fl.ex s25.1))
def ZU (p0 : Int) (p1 : (List UInt8)) (p2 : (List (List UInt8))) (p3 : (List UInt8)) (s8 : Int × (List GShare)) : Option (Fl (Int × (List GShare)) (List GShare)) :=
 if (decide (s8.1 < (p3.length : Int))) = true then ((idx p3 s8.1).bind fun x15=>(Zz (ZS p0 p1 p2 x15) ([],0)).bind fun j20=>(app 32 s8.2 ([(⟨x15,j20⟩ : GShare)] : List GShare)).bind fun l82=>some (Fl.nx (wr (s8.1 + 1),(s8.2 ++ ([(⟨x15,j20⟩ : GShare)] : List GShare))))) else (some (Fl.ex s8.2))
def Yj (p0 : Int) (p1 : (List UInt8)) (p2 : (List (List UInt8))) (p3 : (List UInt8)) : Option ((List GShare)) :=
 (Zz (ZU p0 p1 p2 p3) (0,([] : List GShare))).bind fun j3=>some j3
theorem WM (w0 : World) (p0 : Int) (p1 : (List UInt8)) (v1_1 : Value) (hv1_1 : Ro w0 p1 [v1_1]) (p2 : (List (List UInt8))) (v2_1 : Value) (hv2_1 : Ro w0 p2 [v2_1]) (p3 : (List UInt8)) (v3_1 : Value) (hv3_1 : Ro w0 p3 [v3_1]) (r : (List GShare)) (hF : Yj p0 p1 p2 p3 = some r) :
  Calls Try.prog 52 [vI p0,v1_1,v2_1,v3_1].toArray w0 (fun en w'=>∃ v,en = .returned v ∧ (∃ (y1 : Value),v = y1 ∧ Fr w0 w' [osl NoB (r : List GShare) y1] ∧ Kept (Old w0) w0 w')):=by
 refine Zy (n:=66) Try.func52 rfl rfl (nbl rfl) rfl ?_
 intro a hE
 have hM:=M.start w0
 unfold Yj at hF
 refine Zb (Zc hE Za ld rfl fun a hE=>Ze (Zb (VO (xs:=[]) (S:=NoB) (l:=([] : List GShare)) (vs:=[]) hE hM.emp noB Za ld rfl rfl rfl Try.underlying25 XH rfl (by decide) (fun _ h=>⟨rfl,h⟩) (fun _ h=>by cases h) fun u1 w a hM hE=>Zc hE Za ld rfl fun a hE=>Ze (wp_seq (Zb (Zd hE Za ld rfl fun a hE=>ZH hE Za ld rfl Try.underlying22 (hM.rd hv3_1) fun a hE=>Zd hE Za ld rfl fun a hE=>Ze ?_))))))
 obtain ⟨j3,hl4,hF5⟩:=bind_some hF
 refine Yb (fun a w=>∃ (u6 : Value),Env 66 a [(9,u6)] ∧ M (Old w0) w0 w [osl NoB (j3 : List GShare) u6]) ?_ ?_
 ·skip
  refine wp_block ?_
  refine ZL (fun (s8 : Int × (List GShare)) a w=>∃ (u9 : Value),Env 66 a [(0,vI p0),(1,v1_1),(2,v2_1),(9,u9),(19,v3_1),(20,(vI (p3.length : Int))),(21,vI s8.1)] ∧ M (Old w0) w0 w [osl NoB (s8.2 : List GShare) u9]) hl4 ⟨u1,hE.sub ⟨rfl,rfl,rfl,rfl,rfl,rfl,rfl,trivial⟩,hM⟩ ?_
  rintro s8 a w ⟨u9,hE,hM⟩ o13 hs11 hx12
  unfold ZU at hs11
  refine Zb (Zh hE Za ld rfl rfl rfl fun a hE=>Ze (wp_seq ?_))
  refine Zj hE rfl ?_ ?_
  ·intro hb14
   have hs11:=Zo hs11 hb14
   refine wp_skip (Zv (wp_seq (wp_block (Zb ?_))))
   obtain ⟨x15,hi17,hs11⟩:=bix hs11
   refine Zw hE Za ld rfl rfl Try.underlying22 ty5 (hM.rd hv3_1) hi17.1 fun a hE=>ZG (v:=(vB x15)) hE Za ld rfl ty5 rfl (Xk (hM.rd hv3_1) hi17.2) fun a hE=>Zc hE Za ld rfl fun a hE=>Ze (Zb (Zd hE Za ld rfl fun a hE=>VP (parts:=[(0,.tmp 25)]) (vs:=[(0,vB x15)]) (cs:=cat [[vB x15],[(Value.slice none 0 0)]]) hE Za ld rfl rfl XH pl86 (Ui (pre:=[]) (seg:=[vB 0]) (seg':=[vB x15]) (post:=[[(Value.slice none 0 0)]]) rfl cl0 rfl rfl rfl UZ) fun a hE=>TE hE hM Za ld XH fun b18 w a hM hE=>VH (seg:=cat [[vB x15],[(Value.slice none 0 0)]]) (cs':=cat [[vB x15],[(Value.slice none 0 0)]]) hE hM Za rfl rfl rfl XH (Y0 (cl1 (n:=1) (m:=1) rfl (cl1 (n:=1) (m:=0) rfl cl0))) (Nat.le_of_eq ((Nat.zero_add _).trans (Eq.trans (Y0 (cl1 (n:=1) (m:=1) rfl (cl1 (n:=1) (m:=0) rfl cl0))) (Eq.symm (Y0 (cl1 (n:=1) (m:=1) rfl (cl1 (n:=1) (m:=0) rfl cl0))))))) (UU (cc1 (Flat.cell (x15 : UInt8)) (cc1 TN cc0))) (XQ (Eq.trans (Y0 (cl1 (n:=1) (m:=1) rfl (cl1 (n:=1) (m:=0) rfl cl0))) (Eq.symm (Y0 (cl1 (n:=1) (m:=1) rfl (cl1 (n:=1) (m:=0) rfl cl0)))))) fun w a hM hE=>Ze (wp_seq (Zb (Zd hE Za ld rfl fun a hE=>ZH hE Za ld rfl Try.underlying22 (hM.rd hv1_1) fun a hE=>Zd hE Za ld rfl fun a hE=>Ze ?_)))))
   obtain ⟨j20,hl21,hF22⟩:=bind_some hs11
   refine Yb (fun a w=>∃ (u23 : Value),Env 66 a [(0,vI p0),(1,v1_1),(2,v2_1),(9,u9),(12,(ptr b18 0)),(19,v3_1),(20,(vI (p3.length : Int))),(21,vI s8.1)] ∧ M (Old w0) w0 w [raw b18 (cat [[vB x15],[u23]]),osl NoB (s8.2 : List GShare) u9,osl NoB (j20 : List UInt8) u23]) ?_ ?_
   ·skip
    refine wp_block ?_
    have hM:=((M.nilS (α:=UInt8) NoB noB hM).pull (pre:=[_,_])).pull (pre:=[_,_])
    refine ZL (fun (s25 : (List UInt8) × Int) a w=>∃ (u26 : Value),Env 66 a [(0,vI p0),(1,v1_1),(2,v2_1),(9,u9),(11,vB x15),(12,(ptr b18 0)),(19,v3_1),(20,(vI (p3.length : Int))),(21,vI s8.1),(27,v1_1),(28,(vI (p1.length : Int))),(29,vI s25.2)] ∧ M (Old w0) w0 w [raw b18 (cat [[vB x15],[u26]]),osl NoB (s8.2 : List GShare) u9,osl NoB (s25.1 : List UInt8) u26]) hl21 ⟨(Value.slice none 0 0),hE.sub ⟨rfl,rfl,rfl,rfl,rfl,rfl,rfl,rfl,rfl,rfl,rfl,rfl,trivial⟩,hM⟩ ?_
    rintro s25 a w ⟨u26,hE,hM⟩ o30 hs28 hx29
    unfold ZS at hs28
    refine Zb (Zh hE Za ld rfl rfl rfl fun a hE=>Ze (wp_seq ?_))
    refine Zj hE rfl ?_ ?_
    ·intro hb32
     have hs28:=Zo hs28 hb32
     refine wp_skip (Zv (wp_seq (wp_block (Zb (Zd hE Za ld rfl ?_))))); intro a hE
     obtain ⟨x33,hi35,hs28⟩:=bix hs28
     refine Zw hE Za ld rfl rfl Try.underlying22 ty5 (hM.rd hv1_1) hi35.1 fun a hE=>ZG (v:=(vB x33)) hE Za ld rfl ty5 rfl (Xk (hM.rd hv1_1) hi35.2) fun a hE=>Zc hE Za ld rfl fun a hE=>Zc hE Za ld rfl fun a hE=>Ze (Zb (Zd hE Za ld rfl fun a hE=>XS (xs:=[.tmp 34]) (l:=([x33] : List UInt8)) (vs:=[vB x33]) hE hM Za ld rfl rfl Try.underlying22 ty5 rfl (by decide) rfl fun u36 w a hM hE=>Zc hE Za ld rfl fun a hE=>Ze (wp_seq (Zb (Zd hE Za ld rfl fun a hE=>ZH hE Za ld rfl Try.underlying23 (hM.rd hv2_1) fun a hE=>Zd hE Za ld rfl fun a hE=>Ze ?_)))))
     obtain ⟨j38,hl39,hF40⟩:=bind_some hs28
     refine Yb (fun a w=>∃ (u41 : Value),Env 66 a [(0,vI p0),(1,v1_1),(2,v2_1),(9,u9),(11,vB x15),(12,(ptr b18 0)),(15,u41),(19,v3_1),(20,(vI (p3.length : Int))),(21,vI s8.1),(27,v1_1),(28,(vI (p1.length : Int))),(29,vI s25.2)] ∧ M (Old w0) w0 w [raw b18 (cat [[vB x15],[u26]]),osl NoB (s8.2 : List GShare) u9,osl NoB (s25.1 : List UInt8) u26,osl NoB (j38 : List UInt8) u41]) ?_ ?_
     ·skip
      refine wp_block ?_
      have hM:=((hM.pull (pre:=[_,_,_])).pull (pre:=[_,_,_])).pull (pre:=[_,_,_])
      refine ZL (fun (s43 : (List UInt8) × Int) a w=>∃ (u44 : Value),Env 66 a [(0,vI p0),(1,v1_1),(2,v2_1),(9,u9),(11,vB x15),(12,(ptr b18 0)),(13,vI s25.2),(15,u44),(19,v3_1),(20,(vI (p3.length : Int))),(21,vI s8.1),(27,v1_1),(28,(vI (p1.length : Int))),(29,vI s25.2),(36,v2_1),(37,(vI (p2.length : Int))),(38,vI s43.2)] ∧ M (Old w0) w0 w [raw b18 (cat [[vB x15],[u26]]),osl NoB (s8.2 : List GShare) u9,osl NoB (s25.1 : List UInt8) u26,osl NoB (s43.1 : List UInt8) u44]) hl39 ⟨u36,hE.sub ⟨rfl,rfl,rfl,rfl,rfl,rfl,rfl,rfl,rfl,rfl,rfl,rfl,rfl,rfl,rfl,rfl,rfl,trivial⟩,hM⟩ ?_
      rintro s43 a w ⟨u44,hE,hM⟩ o48 hs46 hx47
      unfold ZT at hs46
      refine Zb (Zh hE Za ld rfl rfl rfl fun a hE=>Ze (wp_seq ?_))
      refine Zj hE rfl ?_ ?_
      ·intro hb49
       have hs46:=Zo hs46 hb49
       refine wp_skip (Zv (wp_seq (wp_block (Zb ?_))))
       obtain ⟨x50,hi52,hs46⟩:=bix hs46
       refine Zw hE Za ld rfl rfl Try.underlying23 Xm (hM.rd hv2_1) hi52.1 ?_; intro a hE
       obtain ⟨cs53,hs54,hA55⟩:=Xg hv2_1 hi52.2 -- ^
       obtain ⟨u56,rfl⟩:=XN hs54 -- ^
       have h57:=hs54 -- ^
       refine ZG (v:=u56) hE Za ld rfl Xm rfl (hM.atk hA55 (XC hv2_1 hi52.2)) fun a hE=>Zc hE Za ld rfl fun a hE=>Ze (wp_region_lit (Zd hE Za ld rfl fun a hE=>Zd hE Za ld rfl fun a hE=>Zd hE Za ld rfl ?_)); intro a hE
       obtain ⟨x58,hi60,hs46⟩:=bix hs46
       refine Zw hE Za ld rfl rfl Try.underlying22 ty5 (hM.rd h57) hi60.1 fun a hE=>ZG (v:=(vB x58)) hE Za ld rfl ty5 rfl (Xk (hM.rd h57) hi60.2) fun a hE=>XS (xs:=[.tmp 46]) (l:=([x58] : List UInt8)) (vs:=[vB x58]) hE hM Za ld rfl rfl Try.underlying22 ty5 rfl (by decide) rfl ?_; intro u61 w a hM hE
       obtain ⟨l63,e64,hs46⟩:=bind_some hs46
       obtain ⟨e67,rfl⟩:=XL e64
       have hM:=hM.pull (pre:=[_,_,_,_])
       refine X5 hE hM Za ld rfl rfl (hM.sl (pre:=[_]) noB) Try.underlying22 ty5 rfl (by decide) e67 fun u65 w a hM hE=>Zc hE Za ld rfl fun a hE=>Zk (Xf (Zv (wp_region_lit (Zh hE Za ld rfl rfl rfl fun a hE=>Zd hE Za ld rfl fun a hE=>Zk (Zl ?_)))))
       have hM:=M.fst (l:=[_,_,_,_]) (((hM.pull (pre:=[_,_,_,_])).pull (pre:=[_,_,_,_])).pull (pre:=[_,_,_,_]))
       exact ⟨_,(ois hs46),u65,hE.sub ⟨rfl,rfl,rfl,rfl,rfl,rfl,rfl,rfl,rfl,rfl,rfl,rfl,rfl,rfl,rfl,rfl,rfl,trivial⟩,hM⟩
      ·intro hb49
       have hs46:=Zp hs46 hb49
       refine wp_exit (Zs (Zs (Xl ?_)))
       have ht68:=hx47 _ (ois hs46)
       subst ht68
       refine Zl ?_
       exact ⟨u44,hE.sub ⟨rfl,rfl,rfl,rfl,rfl,rfl,rfl,rfl,rfl,rfl,rfl,rfl,rfl,trivial⟩,hM⟩
     ·skip
      rintro a w ⟨u41,hE,hM⟩
      refine Zv ?_
      obtain ⟨r70,e71,hF40⟩:=bind_some hF40
      refine TQ (n:=66) (hd:=[_,_,_,_,_,_,_]) (tl:=[_,_,_]) (its:=[raw b18 (cat [[vB x15],[u26]]),osl NoB (s8.2 : List GShare) u9,osl NoB (s25.1 : List UInt8) u26,osl NoB (j38 : List UInt8) u41]) Tx rfl rfl [50,51,52,53,54,55,56] (by decide) [(6,fun v=>osl NoB (([r70] : List UInt8) : List UInt8) v)] rfl (fun j=>([fun v=>v = (ptr b18 (0 + 1)),fun v=>v = u26,fun v=>v = (vI p0),fun v=>v = u41,fun v=>v = (vB x15),fun v=>v = (vB r70),fun v=>True] : List (Value → Prop)).getD j (fun _=>True)) hE hM.drew (XT (Zf ?_ (Zf ?_ (Zf ?_ (Zf ?_ (Zf ?_ (Zf ?_ (Zf ?_ Xy)))))))) ?_
      ·intro a w ux69 D hE hM hD hp
       have hM0:=hM
       exact ZV hE Za ld rfl (Wr) fun a hE=>⟨_,_,rfl,hE,rfl,hM0.optKeep rfl⟩
      ·intro a w ux69 D hE hM hD hp
       have f0 : ux69 0 = (ptr b18 (0 + 1)):=(hp 0 _ rfl rfl).2
       have hM0:=hM
       have hM : M (Old w0) w0 w [raw b18 (cat [[vB x15],[u26]]),osl NoB (s8.2 : List GShare) u9,osl NoB (s25.1 : List UInt8) u26,osl NoB (j38 : List UInt8) u41,opt (D 6) (osl NoB (([r70] : List UInt8) : List UInt8) (ux69 6))]:=hM
       exact ZG (v:=u26) hE Za ld (lk rfl f0) Xm rfl (At.cat (pre:=[[vB x15]]) (hM.rawAt (pre:=[])) (cl1 (n:=1) (m:=0) rfl cl0)) fun a hE=>⟨_,_,rfl,hE,rfl,hM0.optKeep rfl⟩
      ·intro a w ux69 D hE hM hD hp
       have hM0:=hM
       exact Zd hE Za ld rfl fun a hE=>⟨_,_,rfl,hE,rfl,hM0.optKeep rfl⟩
      ·intro a w ux69 D hE hM hD hp
       have hM0:=hM
       exact Zd hE Za ld rfl fun a hE=>⟨_,_,rfl,hE,rfl,hM0.optKeep rfl⟩
      ·intro a w ux69 D hE hM hD hp
       have hM0:=hM
       exact Zd hE Za ld rfl fun a hE=>⟨_,_,rfl,hE,rfl,hM0.optKeep rfl⟩
      ·intro a w ux69 D hE hM hD hp
       have f2 : ux69 2 = (vI p0):=(hp 0 _ rfl rfl).2
       have f3 : ux69 3 = u41:=(hp 1 _ rfl rfl).2
       have f4 : ux69 4 = (vB x15):=(hp 2 _ rfl rfl).2
       have hM0:=hM
       have hM : M (Old w0) w0 w [raw b18 (cat [[vB x15],[u26]]),osl NoB (s8.2 : List GShare) u9,osl NoB (s25.1 : List UInt8) u26,osl NoB (j38 : List UInt8) u41,opt (D 6) (osl NoB (([r70] : List UInt8) : List UInt8) (ux69 6))]:=hM
       refine Zq hE Za ld (WU (WY (lk rfl f2) (WY (lk rfl f3) (WY (lk rfl f4) Tn)))) cb103 (WL _ p0 j38 u41 (hM.sl (pre:=[_,_,_]) noB) x15 r70 e71) ?_
       rintro v w a ⟨rfl,hK⟩ hE
       exact ⟨_,_,rfl,hE,rfl,(hM0.keep hK).optKeep rfl⟩
      ·intro a w ux69 D hE hM hD hp
       have f5 : ux69 5 = (vB r70):=(hp 0 _ rfl rfl).2
       have hM0:=hM
       have hM : M (Old w0) w0 w [raw b18 (cat [[vB x15],[u26]]),osl NoB (s8.2 : List GShare) u9,osl NoB (s25.1 : List UInt8) u26,osl NoB (j38 : List UInt8) u41,opt (D 6) (osl NoB (([r70] : List UInt8) : List UInt8) (ux69 6))]:=hM
       exact XS (xs:=[.tmp 55]) (l:=([r70] : List UInt8)) (vs:=[vB r70]) hE hM Za ld (WU (WY (lk rfl f5) Tn)) rfl Try.underlying22 ty5 rfl (by decide) rfl fun u72 w a hM hE=>⟨_,_,rfl,hE,trivial,M.optFill (mk1:=[]) (mk2:=[]) (f:=(fun v=>osl NoB (([r70] : List UInt8) : List UInt8) v)) hM rfl hD⟩
      ·intro a w ux69 hE hM hg
       have hM : M (Old w0) w0 w [raw b18 (cat [[vB x15],[u26]]),osl NoB (s8.2 : List GShare) u9,osl NoB (s25.1 : List UInt8) u26,osl NoB (j38 : List UInt8) u41,osl NoB (([r70] : List UInt8) : List UInt8) (ux69 6)]:=hM
       have hE:=hE.sub (e':=[(51,u26),(56,(ux69 6)),(0,vI p0),(1,v1_1),(2,v2_1),(9,u9),(11,vB x15),(12,(ptr b18 0)),(15,u41),(19,v3_1),(20,(vI (p3.length : Int))),(21,vI s8.1),(27,v1_1),(28,(vI (p1.length : Int))),(29,vI s25.2)]) ⟨lk rfl (hg 1 (by decide)),rfl,rfl,rfl,rfl,rfl,rfl,rfl,rfl,rfl,rfl,rfl,rfl,rfl,rfl,trivial⟩
       obtain ⟨l74,e75,hF40⟩:=bind_some hF40
       obtain ⟨e78,rfl⟩:=XL e75
       have hM:=hM.pull (pre:=[_,_])
       refine X5 hE hM Za ld rfl rfl (hM.sl (pre:=[_,_,_,_]) noB) Try.underlying22 ty5 rfl (by decide) e78 fun u76 w a hM hE=>ZV hE Za ld rfl (Wr) ?_; intro a hE
       have hM:=hM.pull (pre:=[_])
       refine VH (seg:=[u76]) hE hM Za rfl rfl (Uc (hM.sl (pre:=[_]) noB)) Xm rfl (UA (pre:=[[vB x15]]) (cl1 (n:=1) (m:=0) rfl cl0) rfl) (Rep.cell (hM.sl (pre:=[_]) noB)) (Wa (pre:=[[vB x15]]) (cl1 (n:=1) (m:=0) rfl cl0) rfl) fun w a hM hE=>Zk (Xf (Zv (wp_region_lit (Zh hE Za ld rfl rfl rfl fun a hE=>Zd hE Za ld rfl fun a hE=>Zk (Zl ?_)))))
       have hM:=M.fst (l:=[_,_,_]) (((hM.pull (pre:=[_])).pull (pre:=[_,_])).pull (pre:=[_,_]))
       exact ⟨_,(ois hF40),u76,hE.sub ⟨rfl,rfl,rfl,rfl,rfl,rfl,rfl,rfl,rfl,rfl,rfl,rfl,trivial⟩,hM⟩
    ·intro hb32
     have hs28:=Zp hs28 hb32
     refine wp_exit (Zs (Zs (Xl ?_)))
     have ht79:=hx29 _ (ois hs28)
     subst ht79
     refine Zl ?_
     exact ⟨u26,hE.sub ⟨rfl,rfl,rfl,rfl,rfl,rfl,rfl,rfl,trivial⟩,hM⟩
   ·skip
    rintro a w ⟨u23,hE,hM⟩
    refine Zv (wp_region_lit (Zd hE Za ld rfl fun a hE=>VM (cs:=cat [[vB x15],[u23]]) hE Za ld rfl XH rfl (hM.rawAt (pre:=[])) (Y0 (cl1 (n:=1) (m:=1) rfl (cl1 (n:=1) (m:=0) rfl cl0))) ?_)); intro a hE
    have hM:=hM.pull (pre:=[_,_])
    have hM:=hM.pack1 (it:=own NoB (⟨x15,j20⟩ : GShare) (cat [[vB x15],[u23]])) (Wd noB) (fun f0 q0=>(X8 (Yr.sat q0) (by simp)))
    refine U1 (xs:=[.tmp 61]) (seg:=cat [[vB x15],[u23]]) hE hM noB Za ld rfl rfl Try.underlying25 XH rfl (by decide) ?_; intro u80 w a hM hE
    obtain ⟨l82,e83,hF22⟩:=bind_some hF22
    obtain ⟨e86,rfl⟩:=XL e83
    have hM:=hM.pull (pre:=[_,_])
    refine Uj hE hM noB Za ld rfl rfl Try.underlying25 XH rfl (by decide) e86 fun u84 w a hM hE=>Zc hE Za ld rfl fun a hE=>Zk (Xf (Zv (wp_region_lit (Zh hE Za ld rfl rfl rfl fun a hE=>Zd hE Za ld rfl fun a hE=>Zk (Zl ?_)))))
    have hM:=M.fst (l:=[_]) hM
    exact ⟨_,(ois hF22),u84,hE.sub ⟨rfl,rfl,rfl,rfl,rfl,rfl,rfl,trivial⟩,hM⟩
  ·intro hb14
   have hs11:=Zp hs11 hb14
   refine wp_exit (Zs (Zs (Xl ?_)))
   have ht87:=hx12 _ (ois hs11)
   subst ht87
   refine Zl ?_
   exact ⟨u9,hE.sub ⟨rfl,trivial⟩,hM⟩
 ·skip
  rintro a w ⟨u6,hE,hM⟩
  refine Zv (Zb (Zd hE Za ld rfl fun a hE=>Zc hE Za ld rfl fun a hE=>Ze ?_))
  have hr:=Option.some.inj hF5
  subst hr
  exact wp_ret (Zm hE rfl (Zg hE rfl) ⟨_,rfl,u6,rfl,hM.outF (Wg Wj),hM.kept⟩)
def Yy (p0 : Int) (p1 : (List UInt8)) (p2 : (List (List UInt8))) (p3 : (List UInt8)) : Option ((List GShare) × Int) :=
 (Y2 p0).bind fun r1=>if (!r1) = true then (some ([],1)) else ((if (decide ((p1.length : Int) > 100)) = true then (some true) else ((ZX p2 (p1.length : Int)).bind fun r10=>if (!r10) = true then (some true) else ((YM p3).bind fun r14=>(YG r14 1 12).bind fun r16=>some (!r16))) : Option (Bool)).bind fun j5=>if j5 = true then (some ([],2)) else ((Yn p3).bind fun r21=>if (!r21) = true then (some ([],5)) else ((Yj p0 p1 p2 p3).bind fun r25=>some (r25,0))))
theorem Wk (w0 : World) (p0 : Int) (p1 : (List UInt8)) (v1_1 : Value) (hv1_1 : Ro w0 p1 [v1_1]) (p2 : (List (List UInt8))) (v2_1 : Value) (hv2_1 : Ro w0 p2 [v2_1]) (p3 : (List UInt8)) (v3_1 : Value) (hv3_1 : Ro w0 p3 [v3_1]) (r : (List GShare) × Int) (hF : Yy p0 p1 p2 p3 = some r) :
  Calls Try.prog 12 [vI p0,v1_1,v2_1,v3_1].toArray w0 (fun en w'=>∃ v,en = .returned v ∧ (∃ (y1 : Value),v = (Value.tuple [y1,vI r.2].toArray) ∧ Fr w0 w' [osl NoB (r.1 : List GShare) y1] ∧ Kept (Old w0) w0 w')):=by
 refine Zy (n:=40) Try.func12 rfl rfl (nbl rfl) rfl ?_
 intro a hE
 have hM:=M.start w0
 unfold Yy at hF
 refine Zb (Zc hE Za ld rfl fun a hE=>Zc hE Za ld rfl fun a hE=>Ze (wp_seq (wp_block (Zb (Zd hE Za ld rfl ?_))))); intro a hE
 obtain ⟨r1,e2,hF⟩:=bind_some hF
 refine Zq hE Za ld rfl cb47 (VR _ p0 r1 e2) ?_
 rintro v w a ⟨rfl,hK⟩ hE
 have hM:=hM.keep hK
 refine Xx hE Za ld rfl fun a hE=>Zc hE Za ld rfl fun a hE=>Ze ?_
 refine Zj hE rfl ?_ ?_
 ·intro hb3
  have hF:=Zo hF hb3
  refine Zb (Zc hE Za ld rfl fun a hE=>Zc hE Za ld rfl fun a hE=>Ze ?_)
  have hM:=M.nilS (α:=GShare) NoB noB hM
  have hr:=Option.some.inj hF
  subst hr
  exact wp_ret (Z1 (Zi (Ww hE rfl (Zg hE rfl) (Zg hE rfl) ⟨_,rfl,(Value.slice none 0 0),rfl,hM.outF (Wg Wj),hM.kept⟩)))
 ·intro hb3
  have hF:=Zp hF hb3
  obtain ⟨j5,hl6,hF7⟩:=bind_some hF
  refine YY (fun a w=>Env 40 a [(0,vI p0),(1,v1_1),(2,v2_1),(3,v3_1),(14,vT j5)] ∧ M (Old w0) w0 w []) ?_ ?_
  ·skip
   refine wp_region_lit (Zd hE Za ld rfl fun a hE=>ZH hE Za ld rfl Try.underlying22 (hM.rd hv1_1) fun a hE=>Zh hE Za ld rfl rfl rfl fun a hE=>Zd hE Za ld rfl ?_); intro a hE
   refine XA (decide ((p1.length : Int) > 100)) (fun hb8=>?_) (fun hb8=>?_)
   ·have hl6:=Zo hl6 hb8
    refine Zr hE rfl (lkb rfl hb8) rfl (by decide) fun a hE=>Zr hE rfl (lkb rfl hb8) rfl (by decide) fun a hE=>Zr hE rfl (lkb rfl hb8) rfl (by decide) fun a hE=>Zr hE rfl (lkb rfl hb8) rfl (by decide) fun a hE=>Zr hE rfl (lkb rfl hb8) rfl (by decide) fun a hE=>Yp hE Za ld (lkb rfl hb8) rfl fun a hE=>Zd hE Za ld rfl fun a hE=>Zr hE rfl rfl rfl (by decide) fun a hE=>Zr hE rfl rfl rfl (by decide) fun a hE=>Zr hE rfl rfl rfl (by decide) fun a hE=>Zr hE rfl rfl rfl (by decide) fun a hE=>Yp hE Za ld rfl rfl ?_; intro a hE
    refine Zc hE Za ld rfl fun a hE=>Zk ?_
    have ht9:=Option.some.inj hl6
    subst ht9
    refine Zl ?_
    exact ⟨hE.sub ⟨rfl,rfl,rfl,rfl,rfl,trivial⟩,hM⟩
   ·have hl6:=Zp hl6 hb8
    refine Zd hE (Zn hE rfl (lkb rfl hb8)) (by decide) rfl fun a hE=>Zd hE (Zn hE rfl (lkb rfl hb8)) (by decide) rfl fun a hE=>ZH hE (Zn hE rfl (lkb rfl hb8)) (by decide) rfl Try.underlying22 (hM.rd hv1_1) ?_; intro a hE
    obtain ⟨r10,e11,hl6⟩:=bind_some hl6
    refine Zq hE (Zn hE rfl (lkb rfl hb8)) (by decide) rfl cb48 (Wm _ p2 v2_1 (hM.rdo hv2_1) (p1.length : Int) r10 e11) ?_
    rintro v w a ⟨rfl,hK⟩ hE
    have hM:=hM.keep hK
    refine Xx hE (Zn hE rfl (lkb rfl hb8)) (by decide) rfl fun a hE=>Xe hE Za ld (lkb rfl hb8) rfl fun a hE=>Zd hE Za ld rfl ?_; intro a hE
    refine XA (!r10) (fun hb12=>?_) (fun hb12=>?_)
    ·have hl6:=Zo hl6 hb12
     refine Zr hE rfl (lkb rfl hb12) rfl (by decide) fun a hE=>Zr hE rfl (lkb rfl hb12) rfl (by decide) fun a hE=>Zr hE rfl (lkb rfl hb12) rfl (by decide) fun a hE=>Zr hE rfl (lkb rfl hb12) rfl (by decide) fun a hE=>Yp hE Za ld (lkb rfl hb12) rfl fun a hE=>Zc hE Za ld rfl fun a hE=>Zk ?_
     have ht13:=Option.some.inj hl6
     subst ht13
     refine Zl ?_
     exact ⟨hE.sub ⟨rfl,rfl,rfl,rfl,rfl,trivial⟩,hM⟩
    ·have hl6:=Zp hl6 hb12
     refine Zd hE (Zn hE rfl (lkb rfl hb12)) (by decide) rfl ?_; intro a hE
     obtain ⟨r14,e15,hl6⟩:=bind_some hl6
     refine Zq hE (Zn hE rfl (lkb rfl hb12)) (by decide) rfl cb50 (WN _ p3 v3_1 (hM.rdo hv3_1) r14 e15) ?_
     rintro v w a ⟨rfl,hK⟩ hE
     have hM:=hM.keep hK
     obtain ⟨r16,e17,hl6⟩:=bind_some hl6
     refine Zq hE (Zn hE rfl (lkb rfl hb12)) (by decide) rfl cb49 (Wp _ r14 1 12 r16 e17) ?_
     rintro v w a ⟨rfl,hK⟩ hE
     have hM:=hM.keep hK
     refine Xx hE (Zn hE rfl (lkb rfl hb12)) (by decide) rfl fun a hE=>Xe hE Za ld (lkb rfl hb12) rfl fun a hE=>Zc hE Za ld rfl fun a hE=>Zk ?_
     have ht18:=Option.some.inj hl6
     subst ht18
     refine Zl ?_
     exact ⟨hE.sub ⟨rfl,rfl,rfl,rfl,rfl,trivial⟩,hM⟩
  ·skip
   rintro a w ⟨hE,hM⟩
   refine Zj hE rfl ?_ ?_
   ·intro hb19
    have hF7:=Zo hF7 hb19
    refine Zb (Zc hE Za ld rfl fun a hE=>Zc hE Za ld rfl fun a hE=>Ze ?_)
    have hM:=M.nilS (α:=GShare) NoB noB hM
    have hr:=Option.some.inj hF7
    subst hr
    exact wp_ret (Z1 (Zi (Ww hE rfl (Zg hE rfl) (Zg hE rfl) ⟨_,rfl,(Value.slice none 0 0),rfl,hM.outF (Wg Wj),hM.kept⟩)))
   ·intro hb19
    have hF7:=Zp hF7 hb19
    refine Zb (Zd hE Za ld rfl ?_); intro a hE
    obtain ⟨r21,e22,hF7⟩:=bind_some hF7
    refine Zq hE Za ld rfl cb51 (WO _ p3 v3_1 (hM.rdo hv3_1) r21 e22) ?_
    rintro v w a ⟨rfl,hK⟩ hE
    have hM:=hM.keep hK
    refine Xx hE Za ld rfl fun a hE=>Zc hE Za ld rfl fun a hE=>Ze ?_
    refine Zj hE rfl ?_ ?_
    ·intro hb23
     have hF7:=Zo hF7 hb23
     refine Zb (Zc hE Za ld rfl fun a hE=>Zc hE Za ld rfl fun a hE=>Ze ?_)
     have hM:=M.nilS (α:=GShare) NoB noB hM
     have hr:=Option.some.inj hF7
     subst hr
     exact wp_ret (Z1 (Zi (Ww hE rfl (Zg hE rfl) (Zg hE rfl) ⟨_,rfl,(Value.slice none 0 0),rfl,hM.outF (Wg Wj),hM.kept⟩)))
    ·intro hb23
     have hF7:=Zp hF7 hb23
     refine wp_skip (Xf (Zv (Zb (Zd hE Za ld rfl fun a hE=>Zd hE Za ld rfl fun a hE=>Zd hE Za ld rfl fun a hE=>Zd hE Za ld rfl ?_)))); intro a hE
     obtain ⟨r25,e26,hF7⟩:=bind_some hF7
     refine Zq hE Za ld rfl cb52 (WM _ p0 p1 v1_1 (hM.rdo hv1_1) p2 v2_1 (hM.rdo hv2_1) p3 v3_1 (hM.rdo hv3_1) r25 e26) ?_
     rintro u27 w a ⟨_,rfl,hFr,hK⟩ hE
     have hM:=hM.add hK hFr
     refine Zc hE Za ld rfl fun a hE=>Zc hE Za ld rfl fun a hE=>Ze ?_
     have hr:=Option.some.inj hF7
     subst hr
     exact wp_ret (Ww hE rfl (Zg hE rfl) (Zg hE rfl) ⟨_,rfl,u27,rfl,hM.outF (Wg Wj),hM.kept⟩)
def Xi (p0 : (List UInt8)) (p1 : (List UInt8)) (s6 : Int) : Option (Fl Int (Fl Unit Bool)) :=
 if (decide (s6 < (p0.length : Int))) = true then (((idx p0 s6).bind fun x15=>(idx p1 s6).bind fun x18=>some (x15 != x18) : Option (Bool)).bind fun j11=>if j11 = true then (some (Fl.ex (Fl.ex false))) else (some (Fl.nx (wr (s6 + 1))))) else (some (Fl.ex (Fl.nx ())))
def ZR (p0 : (List UInt8)) (p1 : (List UInt8)) : Option (Bool) :=
 if ((p0.length : Int) != (p1.length : Int)) = true then (some false) else ((Zz (Xi p0 p1) 0).bind fun j2=>j2.el (fun s5=>some true) (fun r=>some r))
theorem Xt (w0 : World) (p0 : (List UInt8)) (v0_1 : Value) (hv0_1 : Ro w0 p0 [v0_1]) (p1 : (List UInt8)) (v1_1 : Value) (hv1_1 : Ro w0 p1 [v1_1]) (r : Bool) (hF : ZR p0 p1 = some r) :
  Calls Try.prog 14 [v0_1,v1_1].toArray w0 (fun en w'=>∃ v,en = .returned v ∧ (v = (vT r) ∧ Kept (Old w0) w0 w')):=by
 refine Zy (n:=26) Try.func14 rfl rfl (nbl rfl) rfl ?_
 intro a hE
 have hM:=M.start w0
 unfold ZR at hF
 refine Zb (Zc hE Za ld rfl fun a hE=>Ze (wp_seq (Zb (Zd hE Za ld rfl fun a hE=>ZH hE Za ld rfl Try.underlying22 (hM.rd hv0_1) fun a hE=>Zd hE Za ld rfl fun a hE=>ZH hE Za ld rfl Try.underlying22 (hM.rd hv1_1) fun a hE=>Zh hE Za ld rfl rfl rfl fun a hE=>Ze ?_))))
 refine Zj hE rfl ?_ ?_
 ·intro hb1
  have hF:=Zo hF hb1
  refine Zb (Zc hE Za ld rfl fun a hE=>Ze ?_)
  have hr:=Option.some.inj hF
  subst hr
  exact wp_ret (Zi (Zm hE rfl (Zg hE rfl) ⟨_,rfl,rfl,hM.kept⟩))
 ·intro hb1
  have hF:=Zp hF hb1
  refine wp_skip (Zv (wp_seq (Zb (Zc hE Za ld rfl fun a hE=>Ze ?_))))
  obtain ⟨j2,hl3,hF4⟩:=bind_some hF
  refine Yb (fun a w=>∃ s5 : Unit,j2 = Fl.nx s5 ∧ Env 26 a [] ∧ M (Old w0) w0 w []) ?_ ?_
  ·skip
   refine wp_block ?_
   refine ZL (fun (s6 : Int) a w=>Env 26 a [(0,v0_1),(1,v1_1),(5,vI s6)] ∧ M (Old w0) w0 w []) hl3 ⟨hE.sub ⟨rfl,rfl,rfl,trivial⟩,hM⟩ ?_
   rintro s6 a w ⟨hE,hM⟩ o9 hs7 hx8
   unfold Xi at hs7
   refine wp_seq (Zb (Zd hE Za ld rfl fun a hE=>Zd hE Za ld rfl fun a hE=>ZH hE Za ld rfl Try.underlying22 (hM.rd hv0_1) fun a hE=>Zh hE Za ld rfl rfl rfl fun a hE=>Ze ?_))
   refine Zj hE rfl ?_ ?_
   ·intro hb10
    have hs7:=Zo hs7 hb10
    refine wp_skip (Zv (wp_seq (wp_block ?_)))
    obtain ⟨j11,hl12,hF13⟩:=bind_some hs7
    refine YY (fun a w=>Env 26 a [(0,v0_1),(1,v1_1),(5,vI s6),(25,vT j11)] ∧ M (Old w0) w0 w []) ?_ ?_
    ·skip
     obtain ⟨x15,hi17,hl12⟩:=bix hl12
     obtain ⟨x18,hi20,hl12⟩:=bix hl12
     refine VQ (n:=26) (hd:=[_,_,_,_,_,_,_,_,_]) (tl:=[]) Tx rfl rfl [17,18,19,20,21,22,23,24,25] (by decide) (fun w=>M (Old w0) w0 w []) (fun j=>([fun v _=>v = v0_1,fun v _=>v = (vI s6),fun v _=>v = (ptr (sb v0_1) (so v0_1 + (s6).toNat * 1)),fun v _=>v = (vB x15),fun v _=>v = v1_1,fun v _=>v = (vI s6),fun v _=>v = (ptr (sb v1_1) (so v1_1 + (s6).toNat * 1)),fun v _=>v = (vB x18),fun v _=>v = (vT (x15 != x18))] : List (Value → World → Prop)).getD j (fun _ _=>True)) (fun _ _ h hk=>h.keep hk) (gup (Yi (Yi (Yi (Yi (Yi (Yi (Yi (Yi (Yi gupN)))))))))) hE hM.drew (XT (Zf ?_ (Zf ?_ (Zf ?_ (Zf ?_ (Zf ?_ (Zf ?_ (Zf ?_ (Zf ?_ (Zf ?_ Xy)))))))))) ?_
     ·exact fun a w ux14 hE hM hp=>Zd hE Za ld rfl fun a hE=>⟨Kept.refl _ _,_,_,rfl,hE,rfl⟩
     ·exact fun a w ux14 hE hM hp=>Zd hE Za ld rfl fun a hE=>⟨Kept.refl _ _,_,_,rfl,hE,rfl⟩
     ·intro a w ux14 hE hM hp
      have f0 : ux14 0 = v0_1:=hp 0 _ rfl rfl
      have f1 : ux14 1 = (vI s6):=hp 1 _ rfl rfl
      exact Zw hE Za ld (lk rfl f0) (lk rfl f1) Try.underlying22 ty5 (hM.rd hv0_1) hi17.1 fun a hE=>⟨Kept.refl _ _,_,_,rfl,hE,rfl⟩
     ·intro a w ux14 hE hM hp
      have f2 : ux14 2 = (ptr (sb v0_1) (so v0_1 + (s6).toNat * 1)):=hp 0 _ rfl rfl
      exact ZG (v:=(vB x15)) hE Za ld (lk rfl f2) ty5 rfl (Xk (hM.rd hv0_1) hi17.2) fun a hE=>⟨Kept.refl _ _,_,_,rfl,hE,rfl⟩
     ·exact fun a w ux14 hE hM hp=>Zd hE Za ld rfl fun a hE=>⟨Kept.refl _ _,_,_,rfl,hE,rfl⟩
     ·exact fun a w ux14 hE hM hp=>Zd hE Za ld rfl fun a hE=>⟨Kept.refl _ _,_,_,rfl,hE,rfl⟩
     ·intro a w ux14 hE hM hp
      have f4 : ux14 4 = v1_1:=hp 0 _ rfl rfl
      have f5 : ux14 5 = (vI s6):=hp 1 _ rfl rfl
      exact Zw hE Za ld (lk rfl f4) (lk rfl f5) Try.underlying22 ty5 (hM.rd hv1_1) hi20.1 fun a hE=>⟨Kept.refl _ _,_,_,rfl,hE,rfl⟩
     ·intro a w ux14 hE hM hp
      have f6 : ux14 6 = (ptr (sb v1_1) (so v1_1 + (s6).toNat * 1)):=hp 0 _ rfl rfl
      exact ZG (v:=(vB x18)) hE Za ld (lk rfl f6) ty5 rfl (Xk (hM.rd hv1_1) hi20.2) fun a hE=>⟨Kept.refl _ _,_,_,rfl,hE,rfl⟩
     ·intro a w ux14 hE hM hp
      have f3 : ux14 3 = (vB x15):=hp 0 _ rfl rfl
      have f7 : ux14 7 = (vB x18):=hp 1 _ rfl rfl
      exact Zh hE Za ld (lk rfl f3) (lk rfl f7) (Ux x15 x18) fun a hE=>⟨Kept.refl _ _,_,_,rfl,hE,rfl⟩
     ·intro a w ux14 hE hM hg
      have hE:=hE.sub (e':=[(25,(vT (x15 != x18))),(0,v0_1),(1,v1_1),(5,vI s6),(11,vI s6),(12,v0_1),(13,(vI (p0.length : Int))),(14,(vT (decide (s6 < (p0.length : Int)))))]) ⟨lk rfl (hg 8 (by decide)),rfl,rfl,rfl,rfl,rfl,rfl,rfl,trivial⟩
      refine Zk ?_
      have ht21:=Option.some.inj hl12
      subst ht21
      refine Zl ?_
      exact ⟨hE.sub ⟨rfl,rfl,rfl,rfl,trivial⟩,hM⟩
    ·skip
     rintro a w ⟨hE,hM⟩
     refine Zj hE rfl ?_ ?_
     ·intro hb22
      have hF13:=Zo hF13 hb22
      refine Zb (Zc hE Za ld rfl fun a hE=>Ze ?_)
      have ht23:=hx8 _ (ois hF13)
      subst ht23
      have hr:=Option.some.inj hF4
      subst hr
      exact wp_ret (Z1 (Zi (Zi (Z1 (Zi (Zi (Zm hE rfl (Zg hE rfl) ⟨_,rfl,rfl,hM.kept⟩)))))))
     ·intro hb22
      have hF13:=Zp hF13 hb22
      refine wp_skip (Xf (Zv (wp_region_lit (Zd hE Za ld rfl fun a hE=>Zh hE Za ld rfl rfl rfl fun a hE=>Zc hE Za ld rfl fun a hE=>Zk (Zl ?_)))))
      exact ⟨_,(ois hF13),hE.sub ⟨rfl,rfl,rfl,trivial⟩,hM⟩
   ·intro hb10
    have hs7:=Zp hs7 hb10
    refine wp_exit (Zs (Zs (Xl ?_)))
    have ht24:=hx8 _ (ois hs7)
    subst ht24
    refine Zl ?_
    exact ⟨(),rfl,hE.sub trivial,hM⟩
  ·skip
   rintro a w ⟨s5,ht,hE,hM⟩
   subst ht
   have hF4:=XX hF4
   refine Zv (Zb (Zc hE Za ld rfl fun a hE=>Ze ?_))
   have hr:=Option.some.inj hF4
   subst hr
   exact wp_ret (Zm hE rfl (Zg hE rfl) ⟨_,rfl,rfl,hM.kept⟩)
def YJ (p0 : GShare) (p1 : GShare) : Option (Bool) :=
 if (p0.Place != p1.Place) = true then (some false) else ((ZR p0.Data p1.Data).bind fun r6=>if (!r6) = true then (some false) else (some true))
theorem V2 (w0 : World) (p0 : GShare) (v0_1 : Value) (hv0_1 : Ro w0 p0.Data [v0_1]) (p1 : GShare) (v1_1 : Value) (hv1_1 : Ro w0 p1.Data [v1_1]) (r : Bool) (hF : YJ p0 p1 = some r) :
  Calls Try.prog 53 [(Value.agg (cat [[vB p0.Place],[v0_1]]).toArray),(Value.agg (cat [[vB p1.Place],[v1_1]]).toArray)].toArray w0 (fun en w'=>∃ v,en = .returned v ∧ (v = (vT r) ∧ Kept (Old w0) w0 w')):=by
 refine Zy (n:=16) Try.func53 rfl rfl (nbl rfl) rfl ?_
 intro a hE
 have hM:=M.start w0
 unfold YJ at hF
 refine Zb (Qp (cs:=cat [[vB p0.Place],[v0_1]]) hE hM Za ld rfl rfl fun b1 w a hM hE=>Qp (cs:=cat [[vB p1.Place],[v1_1]]) hE hM Za ld rfl rfl fun b3 w a hM hE=>Zc hE Za ld rfl fun a hE=>Ze (wp_seq (Zb (ZV hE Za ld rfl (Uy) fun a hE=>ZG (v:=(vB p0.Place)) hE Za ld rfl ty5 rfl (At.cat (pre:=[]) (hM.rawAt (pre:=[_])) cl0) fun a hE=>ZV hE Za ld rfl (Uy) fun a hE=>ZG (v:=(vB p1.Place)) hE Za ld rfl ty5 rfl (At.cat (pre:=[]) (hM.rawAt (pre:=[])) cl0) fun a hE=>Zh hE Za ld rfl rfl (Ux p0.Place p1.Place) fun a hE=>Ze ?_))))
 refine Zj hE rfl ?_ ?_
 ·intro hb5
  have hF:=Zo hF hb5
  refine Zb (Zc hE Za ld rfl fun a hE=>Ze ?_)
  have hr:=Option.some.inj hF
  subst hr
  have hM:=M.fst (l:=[]) hM
  exact wp_ret (Zi (Zm hE rfl (Zg hE rfl) ⟨_,rfl,rfl,hM.kept⟩))
 ·intro hb5
  have hF:=Zp hF hb5
  refine wp_skip (Zv (wp_seq (Zb (ZV hE Za ld rfl (Wr) fun a hE=>ZG (v:=v0_1) hE Za ld rfl Xm rfl (At.cat (pre:=[[vB p0.Place]]) (hM.rawAt (pre:=[_])) (cl1 (n:=1) (m:=0) rfl cl0)) fun a hE=>ZV hE Za ld rfl (Wr) fun a hE=>ZG (v:=v1_1) hE Za ld rfl Xm rfl (At.cat (pre:=[[vB p1.Place]]) (hM.rawAt (pre:=[])) (cl1 (n:=1) (m:=0) rfl cl0)) ?_)))); intro a hE
  obtain ⟨r6,e7,hF⟩:=bind_some hF
  refine Zq hE Za ld rfl cb14 (Xt _ p0.Data v0_1 (hM.rdo hv0_1) p1.Data v1_1 (hM.rdo hv1_1) r6 e7) ?_
  rintro v w a ⟨rfl,hK⟩ hE
  have hM:=hM.keep hK
  refine Xx hE Za ld rfl fun a hE=>Ze ?_
  refine Zj hE rfl ?_ ?_
  ·intro hb8
   have hF:=Zo hF hb8
   refine Zb (Zc hE Za ld rfl fun a hE=>Ze ?_)
   have hr:=Option.some.inj hF
   subst hr
   have hM:=M.fst (l:=[]) hM
   exact wp_ret (Zi (Zm hE rfl (Zg hE rfl) ⟨_,rfl,rfl,hM.kept⟩))
  ·intro hb8
   have hF:=Zp hF hb8
   refine wp_skip (Zv (Zb (Zc hE Za ld rfl fun a hE=>Ze ?_)))
   have hr:=Option.some.inj hF
   subst hr
   have hM:=M.fst (l:=[]) hM
   exact wp_ret (Zm hE rfl (Zg hE rfl) ⟨_,rfl,rfl,hM.kept⟩)
def Xb (p0 : (List GShare)) (p1 : (List GShare)) (s6 : Int) : Option (Fl Int (Fl Unit Bool)) :=
 if (decide (s6 < (p0.length : Int))) = true then (((idx p0 s6).bind fun x15=>(idx p1 s6).bind fun x23=>(YJ x15 x23).bind fun r31=>some (!r31) : Option (Bool)).bind fun j11=>if j11 = true then (some (Fl.ex (Fl.ex false))) else (some (Fl.nx (wr (s6 + 1))))) else (some (Fl.ex (Fl.nx ())))
def Z8 (p0 : (List GShare)) (p1 : (List GShare)) : Option (Bool) :=
 if ((p0.length : Int) != (p1.length : Int)) = true then (some false) else ((Zz (Xb p0 p1) 0).bind fun j2=>j2.el (fun s5=>some true) (fun r=>some r))
theorem XD (w0 : World) (p0 : (List GShare)) (v0_1 : Value) (hv0_1 : Ro w0 p0 [v0_1]) (p1 : (List GShare)) (v1_1 : Value) (hv1_1 : Ro w0 p1 [v1_1]) (r : Bool) (hF : Z8 p0 p1 = some r) :
  Calls Try.prog 13 [v0_1,v1_1].toArray w0 (fun en w'=>∃ v,en = .returned v ∧ (v = (vT r) ∧ Kept (Old w0) w0 w')):=by
 refine Zy (n:=27) Try.func13 rfl rfl (nbl rfl) rfl ?_
 intro a hE
 have hM:=M.start w0
 unfold Z8 at hF
 refine Zb (Zc hE Za ld rfl fun a hE=>Ze (wp_seq (Zb (Zd hE Za ld rfl fun a hE=>ZH hE Za ld rfl Try.underlying25 (hM.rd hv0_1) fun a hE=>Zd hE Za ld rfl fun a hE=>ZH hE Za ld rfl Try.underlying25 (hM.rd hv1_1) fun a hE=>Zh hE Za ld rfl rfl rfl fun a hE=>Ze ?_))))
 refine Zj hE rfl ?_ ?_
 ·intro hb1
  have hF:=Zo hF hb1
  refine Zb (Zc hE Za ld rfl fun a hE=>Ze ?_)
  have hr:=Option.some.inj hF
  subst hr
  exact wp_ret (Zi (Zm hE rfl (Zg hE rfl) ⟨_,rfl,rfl,hM.kept⟩))
 ·intro hb1
  have hF:=Zp hF hb1
  refine wp_skip (Zv (wp_seq (Zb (Zc hE Za ld rfl fun a hE=>Ze ?_))))
  obtain ⟨j2,hl3,hF4⟩:=bind_some hF
  refine Yb (fun a w=>∃ s5 : Unit,j2 = Fl.nx s5 ∧ Env 27 a [] ∧ M (Old w0) w0 w []) ?_ ?_
  ·skip
   refine wp_block ?_
   refine ZL (fun (s6 : Int) a w=>Env 27 a [(0,v0_1),(1,v1_1),(5,vI s6)] ∧ M (Old w0) w0 w []) hl3 ⟨hE.sub ⟨rfl,rfl,rfl,trivial⟩,hM⟩ ?_
   rintro s6 a w ⟨hE,hM⟩ o9 hs7 hx8
   unfold Xb at hs7
   refine wp_seq (Zb (Zd hE Za ld rfl fun a hE=>Zd hE Za ld rfl fun a hE=>ZH hE Za ld rfl Try.underlying25 (hM.rd hv0_1) fun a hE=>Zh hE Za ld rfl rfl rfl fun a hE=>Ze ?_))
   refine Zj hE rfl ?_ ?_
   ·intro hb10
    have hs7:=Zo hs7 hb10
    refine wp_skip (Zv (wp_seq (wp_block ?_)))
    obtain ⟨j11,hl12,hF13⟩:=bind_some hs7
    refine YY (fun a w=>Env 27 a [(0,v0_1),(1,v1_1),(5,vI s6),(26,vT j11)] ∧ M (Old w0) w0 w []) ?_ ?_
    ·skip
     obtain ⟨x15,hi17,hl12⟩:=bix hl12
     obtain ⟨cs18,hs19,hA20⟩:=Xg hv0_1 hi17.2 -- ^
     obtain ⟨u21,rfl,h22⟩:=WC hs19 -- ^
     obtain ⟨x23,hi25,hl12⟩:=bix hl12
     obtain ⟨cs26,hs27,hA28⟩:=Xg hv1_1 hi25.2 -- ^
     obtain ⟨u29,rfl,h30⟩:=WC hs27 -- ^
     obtain ⟨r31,e32,hl12⟩:=bind_some hl12
     refine VQ (n:=27) (hd:=[_,_,_,_,_,_,_,_,_,_]) (tl:=[]) Tx rfl rfl [17,18,19,20,21,22,23,24,25,26] (by decide) (fun w=>M (Old w0) w0 w []) (fun j=>([fun v _=>v = v0_1,fun v _=>v = (vI s6),fun v _=>v = (ptr (sb v0_1) (so v0_1 + (s6).toNat * 2)),fun v _=>v = (Value.agg (cat [[vB x15.Place],[u21]]).toArray),fun v _=>v = v1_1,fun v _=>v = (vI s6),fun v _=>v = (ptr (sb v1_1) (so v1_1 + (s6).toNat * 2)),fun v _=>v = (Value.agg (cat [[vB x23.Place],[u29]]).toArray),fun v _=>v = (vT r31),fun v _=>v = (vT (!r31))] : List (Value → World → Prop)).getD j (fun _ _=>True)) (fun _ _ h hk=>h.keep hk) (gup (Yi (Yi (Yi (Yi (Yi (Yi (Yi (Yi (Yi (Yi gupN))))))))))) hE hM.drew (XT (Zf ?_ (Zf ?_ (Zf ?_ (Zf ?_ (Zf ?_ (Zf ?_ (Zf ?_ (Zf ?_ (Zf ?_ (Zf ?_ Xy))))))))))) ?_
     ·exact fun a w ux14 hE hM hp=>Zd hE Za ld rfl fun a hE=>⟨Kept.refl _ _,_,_,rfl,hE,rfl⟩
     ·exact fun a w ux14 hE hM hp=>Zd hE Za ld rfl fun a hE=>⟨Kept.refl _ _,_,_,rfl,hE,rfl⟩
     ·intro a w ux14 hE hM hp
      have f0 : ux14 0 = v0_1:=hp 0 _ rfl rfl
      have f1 : ux14 1 = (vI s6):=hp 1 _ rfl rfl
      exact Zw hE Za ld (lk rfl f0) (lk rfl f1) Try.underlying25 XH (hM.rd hv0_1) hi17.1 fun a hE=>⟨Kept.refl _ _,_,_,rfl,hE,rfl⟩
     ·intro a w ux14 hE hM hp
      have f2 : ux14 2 = (ptr (sb v0_1) (so v0_1 + (s6).toNat * 2)):=hp 0 _ rfl rfl
      exact VM (cs:=cat [[vB x15.Place],[u21]]) hE Za ld (lk rfl f2) XH rfl (hM.atk hA20 (XC hv0_1 hi17.2)) (Y0 (cl1 (n:=1) (m:=1) rfl (cl1 (n:=1) (m:=0) rfl cl0))) fun a hE=>⟨Kept.refl _ _,_,_,rfl,hE,rfl⟩
     ·exact fun a w ux14 hE hM hp=>Zd hE Za ld rfl fun a hE=>⟨Kept.refl _ _,_,_,rfl,hE,rfl⟩
     ·exact fun a w ux14 hE hM hp=>Zd hE Za ld rfl fun a hE=>⟨Kept.refl _ _,_,_,rfl,hE,rfl⟩
     ·intro a w ux14 hE hM hp
      have f4 : ux14 4 = v1_1:=hp 0 _ rfl rfl
      have f5 : ux14 5 = (vI s6):=hp 1 _ rfl rfl
      exact Zw hE Za ld (lk rfl f4) (lk rfl f5) Try.underlying25 XH (hM.rd hv1_1) hi25.1 fun a hE=>⟨Kept.refl _ _,_,_,rfl,hE,rfl⟩
     ·intro a w ux14 hE hM hp
      have f6 : ux14 6 = (ptr (sb v1_1) (so v1_1 + (s6).toNat * 2)):=hp 0 _ rfl rfl
      exact VM (cs:=cat [[vB x23.Place],[u29]]) hE Za ld (lk rfl f6) XH rfl (hM.atk hA28 (XC hv1_1 hi25.2)) (Y0 (cl1 (n:=1) (m:=1) rfl (cl1 (n:=1) (m:=0) rfl cl0))) fun a hE=>⟨Kept.refl _ _,_,_,rfl,hE,rfl⟩
     ·intro a w ux14 hE hM hp
      have f3 : ux14 3 = (Value.agg (cat [[vB x15.Place],[u21]]).toArray):=hp 0 _ rfl rfl
      have f7 : ux14 7 = (Value.agg (cat [[vB x23.Place],[u29]]).toArray):=hp 1 _ rfl rfl
      refine Zq hE Za ld (WU (WY (lk rfl f3) (WY (lk rfl f7) Tn))) cb53 (V2 _ x15 u21 (hM.rdo h22) x23 u29 (hM.rdo h30) r31 e32) ?_
      rintro v w a ⟨rfl,hK⟩ hE
      exact ⟨hK,_,_,rfl,hE,rfl⟩
     ·intro a w ux14 hE hM hp
      have f8 : ux14 8 = (vT r31):=hp 0 _ rfl rfl
      exact Xx hE Za ld (lk rfl f8) fun a hE=>⟨Kept.refl _ _,_,_,rfl,hE,rfl⟩
     ·intro a w ux14 hE hM hg
      have hE:=hE.sub (e':=[(26,(vT (!r31))),(0,v0_1),(1,v1_1),(5,vI s6),(11,vI s6),(12,v0_1),(13,(vI (p0.length : Int))),(14,(vT (decide (s6 < (p0.length : Int)))))]) ⟨lk rfl (hg 9 (by decide)),rfl,rfl,rfl,rfl,rfl,rfl,rfl,trivial⟩
      refine Zk ?_
      have ht33:=Option.some.inj hl12
      subst ht33
      refine Zl ?_
      exact ⟨hE.sub ⟨rfl,rfl,rfl,rfl,trivial⟩,hM⟩
    ·skip
     rintro a w ⟨hE,hM⟩
     refine Zj hE rfl ?_ ?_
     ·intro hb34
      have hF13:=Zo hF13 hb34
      refine Zb (Zc hE Za ld rfl fun a hE=>Ze ?_)
      have ht35:=hx8 _ (ois hF13)
      subst ht35
      have hr:=Option.some.inj hF4
      subst hr
      exact wp_ret (Z1 (Zi (Zi (Z1 (Zi (Zi (Zm hE rfl (Zg hE rfl) ⟨_,rfl,rfl,hM.kept⟩)))))))
     ·intro hb34
      have hF13:=Zp hF13 hb34
      refine wp_skip (Xf (Zv (wp_region_lit (Zd hE Za ld rfl fun a hE=>Zh hE Za ld rfl rfl rfl fun a hE=>Zc hE Za ld rfl fun a hE=>Zk (Zl ?_)))))
      exact ⟨_,(ois hF13),hE.sub ⟨rfl,rfl,rfl,trivial⟩,hM⟩
   ·intro hb10
    have hs7:=Zp hs7 hb10
    refine wp_exit (Zs (Zs (Xl ?_)))
    have ht36:=hx8 _ (ois hs7)
    subst ht36
    refine Zl ?_
    exact ⟨(),rfl,hE.sub trivial,hM⟩
  ·skip
   rintro a w ⟨s5,ht,hE,hM⟩
   subst ht
   have hF4:=XX hF4
   refine Zv (Zb (Zc hE Za ld rfl fun a hE=>Ze ?_))
   have hr:=Option.some.inj hF4
   subst hr
   exact wp_ret (Zm hE rfl (Zg hE rfl) ⟨_,rfl,rfl,hM.kept⟩)
def Xd (p0 : (List (List UInt8))) (p1 : (List (List UInt8))) (s6 : Int) : Option (Fl Int (Fl Unit Bool)) :=
 if (decide (s6 < (p0.length : Int))) = true then (((idx p0 s6).bind fun x15=>(idx p1 s6).bind fun x23=>(ZR x15 x23).bind fun r31=>some (!r31) : Option (Bool)).bind fun j11=>if j11 = true then (some (Fl.ex (Fl.ex false))) else (some (Fl.nx (wr (s6 + 1))))) else (some (Fl.ex (Fl.nx ())))
def YP (p0 : (List (List UInt8))) (p1 : (List (List UInt8))) : Option (Bool) :=
 if ((p0.length : Int) != (p1.length : Int)) = true then (some false) else ((Zz (Xd p0 p1) 0).bind fun j2=>j2.el (fun s5=>some true) (fun r=>some r))
theorem Vs (w0 : World) (p0 : (List (List UInt8))) (v0_1 : Value) (hv0_1 : Ro w0 p0 [v0_1]) (p1 : (List (List UInt8))) (v1_1 : Value) (hv1_1 : Ro w0 p1 [v1_1]) (r : Bool) (hF : YP p0 p1 = some r) :
  Calls Try.prog 15 [v0_1,v1_1].toArray w0 (fun en w'=>∃ v,en = .returned v ∧ (v = (vT r) ∧ Kept (Old w0) w0 w')):=by
 refine Zy (n:=27) Try.func15 rfl rfl (nbl rfl) rfl ?_
 intro a hE
 have hM:=M.start w0
 unfold YP at hF
 refine Zb (Zc hE Za ld rfl fun a hE=>Ze (wp_seq (Zb (Zd hE Za ld rfl fun a hE=>ZH hE Za ld rfl Try.underlying23 (hM.rd hv0_1) fun a hE=>Zd hE Za ld rfl fun a hE=>ZH hE Za ld rfl Try.underlying23 (hM.rd hv1_1) fun a hE=>Zh hE Za ld rfl rfl rfl fun a hE=>Ze ?_))))
 refine Zj hE rfl ?_ ?_
 ·intro hb1
  have hF:=Zo hF hb1
  refine Zb (Zc hE Za ld rfl fun a hE=>Ze ?_)
  have hr:=Option.some.inj hF
  subst hr
  exact wp_ret (Zi (Zm hE rfl (Zg hE rfl) ⟨_,rfl,rfl,hM.kept⟩))
 ·intro hb1
  have hF:=Zp hF hb1
  refine wp_skip (Zv (wp_seq (Zb (Zc hE Za ld rfl fun a hE=>Ze ?_))))
  obtain ⟨j2,hl3,hF4⟩:=bind_some hF
  refine Yb (fun a w=>∃ s5 : Unit,j2 = Fl.nx s5 ∧ Env 27 a [] ∧ M (Old w0) w0 w []) ?_ ?_
  ·skip
   refine wp_block ?_
   refine ZL (fun (s6 : Int) a w=>Env 27 a [(0,v0_1),(1,v1_1),(5,vI s6)] ∧ M (Old w0) w0 w []) hl3 ⟨hE.sub ⟨rfl,rfl,rfl,trivial⟩,hM⟩ ?_
   rintro s6 a w ⟨hE,hM⟩ o9 hs7 hx8
   unfold Xd at hs7
   refine wp_seq (Zb (Zd hE Za ld rfl fun a hE=>Zd hE Za ld rfl fun a hE=>ZH hE Za ld rfl Try.underlying23 (hM.rd hv0_1) fun a hE=>Zh hE Za ld rfl rfl rfl fun a hE=>Ze ?_))
   refine Zj hE rfl ?_ ?_
   ·intro hb10
    have hs7:=Zo hs7 hb10
    refine wp_skip (Zv (wp_seq (wp_block ?_)))
    obtain ⟨j11,hl12,hF13⟩:=bind_some hs7
    refine YY (fun a w=>Env 27 a [(0,v0_1),(1,v1_1),(5,vI s6),(26,vT j11)] ∧ M (Old w0) w0 w []) ?_ ?_
    ·skip
     obtain ⟨x15,hi17,hl12⟩:=bix hl12
     obtain ⟨cs18,hs19,hA20⟩:=Xg hv0_1 hi17.2 -- ^
     obtain ⟨u21,rfl⟩:=XN hs19 -- ^
     have h22:=hs19 -- ^
     obtain ⟨x23,hi25,hl12⟩:=bix hl12
     obtain ⟨cs26,hs27,hA28⟩:=Xg hv1_1 hi25.2 -- ^
     obtain ⟨u29,rfl⟩:=XN hs27 -- ^
     have h30:=hs27 -- ^
     obtain ⟨r31,e32,hl12⟩:=bind_some hl12
     refine VQ (n:=27) (hd:=[_,_,_,_,_,_,_,_,_,_]) (tl:=[]) Tx rfl rfl [17,18,19,20,21,22,23,24,25,26] (by decide) (fun w=>M (Old w0) w0 w []) (fun j=>([fun v _=>v = v0_1,fun v _=>v = (vI s6),fun v _=>v = (ptr (sb v0_1) (so v0_1 + (s6).toNat * 1)),fun v _=>v = u21,fun v _=>v = v1_1,fun v _=>v = (vI s6),fun v _=>v = (ptr (sb v1_1) (so v1_1 + (s6).toNat * 1)),fun v _=>v = u29,fun v _=>v = (vT r31),fun v _=>v = (vT (!r31))] : List (Value → World → Prop)).getD j (fun _ _=>True)) (fun _ _ h hk=>h.keep hk) (gup (Yi (Yi (Yi (Yi (Yi (Yi (Yi (Yi (Yi (Yi gupN))))))))))) hE hM.drew (XT (Zf ?_ (Zf ?_ (Zf ?_ (Zf ?_ (Zf ?_ (Zf ?_ (Zf ?_ (Zf ?_ (Zf ?_ (Zf ?_ Xy))))))))))) ?_
     ·exact fun a w ux14 hE hM hp=>Zd hE Za ld rfl fun a hE=>⟨Kept.refl _ _,_,_,rfl,hE,rfl⟩
     ·exact fun a w ux14 hE hM hp=>Zd hE Za ld rfl fun a hE=>⟨Kept.refl _ _,_,_,rfl,hE,rfl⟩
     ·intro a w ux14 hE hM hp
      have f0 : ux14 0 = v0_1:=hp 0 _ rfl rfl
      have f1 : ux14 1 = (vI s6):=hp 1 _ rfl rfl
      exact Zw hE Za ld (lk rfl f0) (lk rfl f1) Try.underlying23 Xm (hM.rd hv0_1) hi17.1 fun a hE=>⟨Kept.refl _ _,_,_,rfl,hE,rfl⟩
     ·intro a w ux14 hE hM hp
      have f2 : ux14 2 = (ptr (sb v0_1) (so v0_1 + (s6).toNat * 1)):=hp 0 _ rfl rfl
      exact ZG (v:=u21) hE Za ld (lk rfl f2) Xm rfl (hM.atk hA20 (XC hv0_1 hi17.2)) fun a hE=>⟨Kept.refl _ _,_,_,rfl,hE,rfl⟩
     ·exact fun a w ux14 hE hM hp=>Zd hE Za ld rfl fun a hE=>⟨Kept.refl _ _,_,_,rfl,hE,rfl⟩
     ·exact fun a w ux14 hE hM hp=>Zd hE Za ld rfl fun a hE=>⟨Kept.refl _ _,_,_,rfl,hE,rfl⟩
     ·intro a w ux14 hE hM hp
      have f4 : ux14 4 = v1_1:=hp 0 _ rfl rfl
      have f5 : ux14 5 = (vI s6):=hp 1 _ rfl rfl
      exact Zw hE Za ld (lk rfl f4) (lk rfl f5) Try.underlying23 Xm (hM.rd hv1_1) hi25.1 fun a hE=>⟨Kept.refl _ _,_,_,rfl,hE,rfl⟩
     ·intro a w ux14 hE hM hp
      have f6 : ux14 6 = (ptr (sb v1_1) (so v1_1 + (s6).toNat * 1)):=hp 0 _ rfl rfl
      exact ZG (v:=u29) hE Za ld (lk rfl f6) Xm rfl (hM.atk hA28 (XC hv1_1 hi25.2)) fun a hE=>⟨Kept.refl _ _,_,_,rfl,hE,rfl⟩
     ·intro a w ux14 hE hM hp
      have f3 : ux14 3 = u21:=hp 0 _ rfl rfl
      have f7 : ux14 7 = u29:=hp 1 _ rfl rfl
      refine Zq hE Za ld (WU (WY (lk rfl f3) (WY (lk rfl f7) Tn))) cb14 (Xt _ x15 u21 (hM.rdo h22) x23 u29 (hM.rdo h30) r31 e32) ?_
      rintro v w a ⟨rfl,hK⟩ hE
      exact ⟨hK,_,_,rfl,hE,rfl⟩
     ·intro a w ux14 hE hM hp
      have f8 : ux14 8 = (vT r31):=hp 0 _ rfl rfl
      exact Xx hE Za ld (lk rfl f8) fun a hE=>⟨Kept.refl _ _,_,_,rfl,hE,rfl⟩
     ·intro a w ux14 hE hM hg
      have hE:=hE.sub (e':=[(26,(vT (!r31))),(0,v0_1),(1,v1_1),(5,vI s6),(11,vI s6),(12,v0_1),(13,(vI (p0.length : Int))),(14,(vT (decide (s6 < (p0.length : Int)))))]) ⟨lk rfl (hg 9 (by decide)),rfl,rfl,rfl,rfl,rfl,rfl,rfl,trivial⟩
      refine Zk ?_
      have ht33:=Option.some.inj hl12
      subst ht33
      refine Zl ?_
      exact ⟨hE.sub ⟨rfl,rfl,rfl,rfl,trivial⟩,hM⟩
    ·skip
     rintro a w ⟨hE,hM⟩
     refine Zj hE rfl ?_ ?_
     ·intro hb34
      have hF13:=Zo hF13 hb34
      refine Zb (Zc hE Za ld rfl fun a hE=>Ze ?_)
      have ht35:=hx8 _ (ois hF13)
      subst ht35
      have hr:=Option.some.inj hF4
      subst hr
      exact wp_ret (Z1 (Zi (Zi (Z1 (Zi (Zi (Zm hE rfl (Zg hE rfl) ⟨_,rfl,rfl,hM.kept⟩)))))))
     ·intro hb34
      have hF13:=Zp hF13 hb34
      refine wp_skip (Xf (Zv (wp_region_lit (Zd hE Za ld rfl fun a hE=>Zh hE Za ld rfl rfl rfl fun a hE=>Zc hE Za ld rfl fun a hE=>Zk (Zl ?_)))))
      exact ⟨_,(ois hF13),hE.sub ⟨rfl,rfl,rfl,trivial⟩,hM⟩
   ·intro hb10
    have hs7:=Zp hs7 hb10
    refine wp_exit (Zs (Zs (Xl ?_)))
    have ht36:=hx8 _ (ois hs7)
    subst ht36
    refine Zl ?_
    exact ⟨(),rfl,hE.sub trivial,hM⟩
  ·skip
   rintro a w ⟨s5,ht,hE,hM⟩
   subst ht
   have hF4:=XX hF4
   refine Zv (Zb (Zc hE Za ld rfl fun a hE=>Ze ?_))
   have hr:=Option.some.inj hF4
   subst hr
   exact wp_ret (Zm hE rfl (Zg hE rfl) ⟨_,rfl,rfl,hM.kept⟩)
def ZJ (s4 : (List UInt8) × Int × Int) : Option (Fl ((List UInt8) × Int × Int) ((List UInt8) × Int)) :=
 if (decide (s4.2.2 < (s4.1.length : Int))) = true then ((idx s4.1 s4.2.2).bind fun x9=>some (Fl.nx ((s4.1.set (s4.2.2).toNat (YL s4.2.1)),wr (s4.2.1 + 1),wr (s4.2.2 + 1)))) else (some (Fl.ex (s4.1,s4.2.1)))
def ZD (p0 : (List UInt8)) (p1 : Int) : Option ((List UInt8) × Int) :=
 (Zz (ZJ) (p0,p1,0)).bind fun j1=>some (j1.1,j1.2)
theorem Xc (St : Nat → Prop) (W w0 : World) (its : List Item) (p0 : (List UInt8)) (v0_1 : Value) (p1 : Int) (hM : M St W w0 (own NoB (p0 : (List UInt8)) [v0_1] :: its)) (r : (List UInt8) × Int) (hF : ZD p0 p1 = some r) :
  Calls Try.prog 16 [v0_1,vI p1].toArray w0 (fun en w'=>∃ v,en = .returned v ∧ (v = (vI r.2) ∧ M St W w' (own NoB (r.1 : (List UInt8)) [v0_1] :: its))):=by
 refine Zy (n:=20) Try.func16 rfl rfl (nbl rfl) rfl ?_
 intro a hE
 unfold ZD at hF
 refine Zb (Zc hE Za ld rfl fun a hE=>Ze (wp_seq (Zb (Zc hE Za ld rfl fun a hE=>Ze ?_))))
 obtain ⟨j1,hl2,hF3⟩:=bind_some hF
 refine Yb (fun a w=>Env 20 a [(0,v0_1),(1,vI j1.2)] ∧ M St W w (own NoB (j1.1 : (List UInt8)) [v0_1] :: its)) ?_ ?_
 ·skip
  refine wp_block ?_
  refine ZL (fun (s4 : (List UInt8) × Int × Int) a w=>Env 20 a [(0,v0_1),(1,vI s4.2.1),(5,vI s4.2.2)] ∧ M St W w (own NoB (s4.1 : (List UInt8)) [v0_1] :: its)) hl2 ⟨hE.sub ⟨rfl,rfl,rfl,trivial⟩,hM⟩ ?_
  rintro s4 a w ⟨hE,hM⟩ o7 hs5 hx6
  unfold ZJ at hs5
  refine wp_seq (Zb (Zd hE Za ld rfl fun a hE=>Zd hE Za ld rfl fun a hE=>ZH hE Za ld rfl Try.underlying22 (hM.ro (pre:=[]) noB) fun a hE=>Zh hE Za ld rfl rfl rfl fun a hE=>Ze ?_))
  refine Zj hE rfl ?_ ?_
  ·intro hb8
   have hs5:=Zo hs5 hb8
   refine wp_skip (Zv (wp_seq (wp_block (Zb (Zd hE Za ld rfl fun a hE=>Zd hE Za ld rfl fun a hE=>Zd hE Za ld rfl fun a hE=>X2 hE Za ld rfl Try.underlying3 Try.underlying5 ?_))))); intro a hE
   rw [Xz] at hE
   obtain ⟨x9,hi11,hs5⟩:=bix hs5
   refine Zw hE Za ld rfl rfl Try.underlying22 ty5 (hM.ro (pre:=[]) noB) hi11.1 ?_; intro a hE
   have hM:=hM.toOsl (List.getElem?_eq_some_iff.1 hi11.2).1
   refine U3 (i:=(s4.2.2).toNat) (k0:=0) (seg:=[(vB (YL s4.2.1))]) (xo:=x9) (xn:=YL s4.2.1) hE hM Za rfl rfl rfl ty5 rfl (Flat.cell (YL s4.2.1 : UInt8)) hi11.2 (UP (m:=1) rfl (by decide)) (XQ rfl) ?_; intro w a hM hE
   have hM:=hM.toOwn noB
   refine Ze (wp_region_lit (Zd hE Za ld rfl fun a hE=>Zh hE Za ld rfl rfl rfl fun a hE=>Zc hE Za ld rfl fun a hE=>Zk (Xf (Zv (wp_region_lit (Zd hE Za ld rfl fun a hE=>Zh hE Za ld rfl rfl rfl fun a hE=>Zc hE Za ld rfl fun a hE=>Zk (Zl ?_)))))))
   exact ⟨_,(ois hs5),hE.sub ⟨rfl,rfl,rfl,trivial⟩,hM⟩
  ·intro hb8
   have hs5:=Zp hs5 hb8
   refine wp_exit (Zs (Zs (Xl ?_)))
   have ht12:=hx6 _ (ois hs5)
   subst ht12
   refine Zl ?_
   exact ⟨hE.sub ⟨rfl,rfl,trivial⟩,hM⟩
 ·skip
  rintro a w ⟨hE,hM⟩
  refine Zv (Zb (Zd hE Za ld rfl fun a hE=>Zc hE Za ld rfl fun a hE=>Ze ?_))
  have hr:=Option.some.inj hF3
  subst hr
  exact wp_ret (Zm hE (by rfl) (Zg hE rfl) ⟨_,rfl,rfl,hM⟩)
def Yl (s4 : (List (List UInt8)) × Int × Int) : Option (Fl ((List (List UInt8)) × Int × Int) ((List (List UInt8)) × Int)) :=
 if (decide (s4.2.2 < (s4.1.length : Int))) = true then ((idx s4.1 s4.2.2).bind fun x9=>(ZD x9 s4.2.1).bind fun r16=>some (Fl.nx ((s4.1.set (s4.2.2).toNat r16.1),r16.2,wr (s4.2.2 + 1)))) else (some (Fl.ex (s4.1,s4.2.1)))
def YD (p0 : (List (List UInt8))) (p1 : Int) : Option ((List (List UInt8)) × Int) :=
 (Zz (Yl) (p0,p1,0)).bind fun j1=>some (j1.1,j1.2)
theorem W6 (St : Nat → Prop) (W w0 : World) (its : List Item) (p0 : (List (List UInt8))) (v0_1 : Value) (p1 : Int) (hM : M St W w0 (own NoB (p0 : (List (List UInt8))) [v0_1] :: its)) (r : (List (List UInt8)) × Int) (hF : YD p0 p1 = some r) :
  Calls Try.prog 17 [v0_1,vI p1].toArray w0 (fun en w'=>∃ v,en = .returned v ∧ (v = (vI r.2) ∧ M St W w' (own NoB (r.1 : (List (List UInt8))) [v0_1] :: its))):=by
 refine Zy (n:=19) Try.func17 rfl rfl (nbl rfl) rfl ?_
 intro a hE
 unfold YD at hF
 refine Zb (Zc hE Za ld rfl fun a hE=>Ze (wp_seq (Zb (Zc hE Za ld rfl fun a hE=>Ze ?_))))
 obtain ⟨j1,hl2,hF3⟩:=bind_some hF
 refine Yb (fun a w=>Env 19 a [(0,v0_1),(1,vI j1.2)] ∧ M St W w (own NoB (j1.1 : (List (List UInt8))) [v0_1] :: its)) ?_ ?_
 ·skip
  refine wp_block ?_
  refine ZL (fun (s4 : (List (List UInt8)) × Int × Int) a w=>Env 19 a [(0,v0_1),(1,vI s4.2.1),(5,vI s4.2.2)] ∧ M St W w (own NoB (s4.1 : (List (List UInt8))) [v0_1] :: its)) hl2 ⟨hE.sub ⟨rfl,rfl,rfl,trivial⟩,hM⟩ ?_
  rintro s4 a w ⟨hE,hM⟩ o7 hs5 hx6
  unfold Yl at hs5
  refine wp_seq (Zb (Zd hE Za ld rfl fun a hE=>Zd hE Za ld rfl fun a hE=>ZH hE Za ld rfl Try.underlying23 (hM.ro (pre:=[]) noB) fun a hE=>Zh hE Za ld rfl rfl rfl fun a hE=>Ze ?_))
  refine Zj hE rfl ?_ ?_
  ·intro hb8
   have hs5:=Zo hs5 hb8
   refine wp_skip (Zv (wp_seq (wp_block (wp_region_lit (Zd hE Za ld rfl fun a hE=>Zd hE Za ld rfl ?_))))); intro a hE
   obtain ⟨x9,hi11,hs5⟩:=bix hs5
   refine Zw hE Za ld rfl rfl Try.underlying23 Xm (hM.ro (pre:=[]) noB) hi11.1 ?_; intro a hE
   have hM:=(hM.toOsl (List.getElem?_eq_some_iff.1 hi11.2).1).open1 noB hi11.2
   obtain ⟨cs12,hM,hA13⟩:=hM
   obtain ⟨_,hx,_⟩:=hM.head
   obtain ⟨u14,rfl⟩:=XN hx
   refine ZG (v:=u14) hE Za ld rfl Xm rfl hA13 fun a hE=>Zd hE Za ld rfl ?_; intro a hE
   obtain ⟨r16,e17,hs5⟩:=bind_some hs5
   refine Zq hE Za ld rfl cb16 (Xc _ _ _ _ x9 u14 s4.2.1 hM r16 e17) ?_
   rintro v w a ⟨rfl,hM⟩ hE
   have hM:=(((hM.pull (pre:=[_])).pull (pre:=[_])).close1 noB).toOwn noB
   refine Zc hE Za ld rfl fun a hE=>Zk (Xf (Zv (wp_region_lit (Zd hE Za ld rfl fun a hE=>Zh hE Za ld rfl rfl rfl fun a hE=>Zc hE Za ld rfl fun a hE=>Zk (Zl ?_)))))
   exact ⟨_,(ois hs5),hE.sub ⟨rfl,rfl,rfl,trivial⟩,hM⟩
  ·intro hb8
   have hs5:=Zp hs5 hb8
   refine wp_exit (Zs (Zs (Xl ?_)))
   have ht18:=hx6 _ (ois hs5)
   subst ht18
   refine Zl ?_
   exact ⟨hE.sub ⟨rfl,rfl,trivial⟩,hM⟩
 ·skip
  rintro a w ⟨hE,hM⟩
  refine Zv (Zb (Zd hE Za ld rfl fun a hE=>Zc hE Za ld rfl fun a hE=>Ze ?_))
  have hr:=Option.some.inj hF3
  subst hr
  exact wp_ret (Zm hE (by rfl) (Zg hE rfl) ⟨_,rfl,rfl,hM⟩)
def Yh (s4 : (List GShare) × Int × Int) : Option (Fl ((List GShare) × Int × Int) ((List GShare) × Int)) :=
 if (decide (s4.2.2 < (s4.1.length : Int))) = true then ((idx s4.1 s4.2.2).bind fun x9=>(idx (s4.1.set (s4.2.2).toNat (⟨YL s4.2.1,x9.Data⟩ : GShare)) s4.2.2).bind fun x12=>(ZD x12.Data (wr (s4.2.1 + 1))).bind fun r19=>some (Fl.nx (((s4.1.set (s4.2.2).toNat (⟨YL s4.2.1,x9.Data⟩ : GShare)).set (s4.2.2).toNat (⟨x12.Place,r19.1⟩ : GShare)),r19.2,wr (s4.2.2 + 1)))) else (some (Fl.ex (s4.1,s4.2.1)))
def YA (p0 : (List GShare)) (p1 : Int) : Option ((List GShare) × Int) :=
 (Zz (Yh) (p0,p1,0)).bind fun j1=>some (j1.1,j1.2)
theorem W5 (St : Nat → Prop) (W w0 : World) (its : List Item) (p0 : (List GShare)) (v0_1 : Value) (p1 : Int) (hM : M St W w0 (own NoB (p0 : (List GShare)) [v0_1] :: its)) (r : (List GShare) × Int) (hF : YA p0 p1 = some r) :
  Calls Try.prog 18 [v0_1,vI p1].toArray w0 (fun en w'=>∃ v,en = .returned v ∧ (v = (vI r.2) ∧ M St W w' (own NoB (r.1 : (List GShare)) [v0_1] :: its))):=by
 refine Zy (n:=28) Try.func18 rfl rfl (nbl rfl) rfl ?_
 intro a hE
 unfold YA at hF
 refine Zb (Zc hE Za ld rfl fun a hE=>Ze (wp_seq (Zb (Zc hE Za ld rfl fun a hE=>Ze ?_))))
 obtain ⟨j1,hl2,hF3⟩:=bind_some hF
 refine Yb (fun a w=>Env 28 a [(0,v0_1),(1,vI j1.2)] ∧ M St W w (own NoB (j1.1 : (List GShare)) [v0_1] :: its)) ?_ ?_
 ·skip
  refine wp_block ?_
  refine ZL (fun (s4 : (List GShare) × Int × Int) a w=>Env 28 a [(0,v0_1),(1,vI s4.2.1),(5,vI s4.2.2)] ∧ M St W w (own NoB (s4.1 : (List GShare)) [v0_1] :: its)) hl2 ⟨hE.sub ⟨rfl,rfl,rfl,trivial⟩,hM⟩ ?_
  rintro s4 a w ⟨hE,hM⟩ o7 hs5 hx6
  unfold Yh at hs5
  refine wp_seq (Zb (Zd hE Za ld rfl fun a hE=>Zd hE Za ld rfl fun a hE=>ZH hE Za ld rfl Try.underlying25 (hM.ro (pre:=[]) noB) fun a hE=>Zh hE Za ld rfl rfl rfl fun a hE=>Ze ?_))
  refine Zj hE rfl ?_ ?_
  ·intro hb8
   have hs5:=Zo hs5 hb8
   refine wp_skip (Zv (wp_seq (wp_block (Zb (Zd hE Za ld rfl fun a hE=>Zd hE Za ld rfl fun a hE=>Zd hE Za ld rfl fun a hE=>X2 hE Za ld rfl Try.underlying3 Try.underlying5 ?_))))); intro a hE
   rw [Xz] at hE
   obtain ⟨x9,hi11,hs5⟩:=bix hs5
   refine Zw hE Za ld rfl rfl Try.underlying25 XH (hM.ro (pre:=[]) noB) hi11.1 fun a hE=>ZV hE Za ld rfl (Uy) ?_; intro a hE
   have hM:=hM.toOsl (List.getElem?_eq_some_iff.1 hi11.2).1
   refine T5 (i:=(s4.2.2).toNat) (k0:=0 + 0) (seg:=[(vB (YL s4.2.1))]) (xo:=x9) (xn:=(⟨YL s4.2.1,x9.Data⟩ : GShare)) hE hM noB Za rfl rfl rfl ty5 rfl (Flat.cell (YL s4.2.1 : UInt8)) hi11.2 (UP (m:=1) rfl (by decide)) (fun S w cs f h=>by obtain ⟨y1,_,rfl,rfl,s1⟩:=WS h; exact Qn (Wa (pre:=[]) cl0 rfl) (X8 s1 (by simp))) ?_; intro w a hM hE
   have hM:=hM.toOwn noB
   refine Ze (Zb (Zd hE Za ld rfl fun a hE=>Zh hE Za ld rfl rfl rfl fun a hE=>Zc hE Za ld rfl fun a hE=>Ze (wp_region_lit (Zd hE Za ld rfl fun a hE=>Zd hE Za ld rfl ?_)))); intro a hE
   obtain ⟨x12,hi14,hs5⟩:=bix hs5
   refine Zw hE Za ld rfl rfl Try.underlying25 XH (hM.ro (pre:=[]) noB) hi14.1 fun a hE=>ZV hE Za ld rfl (Wr) ?_; intro a hE
   have hM:=(hM.toOsl (List.getElem?_eq_some_iff.1 hi14.2).1).open1 noB hi14.2
   obtain ⟨cs15,hM,hA16⟩:=hM
   obtain ⟨_,hx,_⟩:=hM.head
   obtain ⟨u17,_,rfl,_,_⟩:=WS hx
   have hM:=hM.unpackL (m:=[own NoB (x12.Data : (List UInt8)) [u17]]) (fun fp h=>by obtain ⟨_,rfl,s1⟩:=Tf h; exact Yg.one (Wd noB) s1)
   simp only [List.cons_append,List.nil_append] at hM
   refine ZG (v:=u17) hE Za ld rfl Xm rfl (At.cat (pre:=[[vB x12.Place]]) hA16 (cl1 (n:=1) (m:=0) rfl cl0)) fun a hE=>Zd hE Za ld rfl ?_; intro a hE
   obtain ⟨r19,e20,hs5⟩:=bind_some hs5
   refine Zq hE Za ld rfl cb16 (Xc _ _ _ _ x12.Data u17 (wr (s4.2.1 + 1)) hM r19 e20) ?_
   rintro v w a ⟨rfl,hM⟩ hE
   have hM:=(hM.pull (pre:=[_])).pull (pre:=[_])
   have hM:=((hM.packL (m:=[own NoB (r19.1 : (List UInt8)) [u17]]) (it:=own NoB (⟨x12.Place,r19.1⟩ : GShare) (cat [[vB x12.Place],[u17]])) (Wd noB) (fun fp h=>by obtain ⟨_,_,rfl,_,s1,rfl⟩:=h; exact X8 s1 (by simp))).close1 noB).toOwn noB
   refine Zc hE Za ld rfl fun a hE=>Zk (Xf (Zv (wp_region_lit (Zd hE Za ld rfl fun a hE=>Zh hE Za ld rfl rfl rfl fun a hE=>Zc hE Za ld rfl fun a hE=>Zk (Zl ?_)))))
   exact ⟨_,(ois hs5),hE.sub ⟨rfl,rfl,rfl,trivial⟩,hM⟩
  ·intro hb8
   have hs5:=Zp hs5 hb8
   refine wp_exit (Zs (Zs (Xl ?_)))
   have ht21:=hx6 _ (ois hs5)
   subst ht21
   refine Zl ?_
   exact ⟨hE.sub ⟨rfl,rfl,trivial⟩,hM⟩
 ·skip
  rintro a w ⟨hE,hM⟩
  refine Zv (Zb (Zd hE Za ld rfl fun a hE=>Zc hE Za ld rfl fun a hE=>Ze ?_))
  have hr:=Option.some.inj hF3
  subst hr
  exact wp_ret (Zm hE (by rfl) (Zg hE rfl) ⟨_,rfl,rfl,hM⟩)
def YC (p0 : (List UInt8)) (s5 : Int × Int) : Option (Fl (Int × Int) (Fl Int Int)) :=
 if (decide (s5.2 < (p0.length : Int))) = true then ((idx p0 s5.2).bind fun x10=>if (x10 != (YL s5.1)) = true then (some (Fl.ex (Fl.ex (-1)))) else (some (Fl.nx (wr (s5.1 + 1),wr (s5.2 + 1))))) else (some (Fl.ex (Fl.nx s5.1)))
def YH (p0 : (List UInt8)) (p1 : Int) : Option (Int) :=
 (Zz (YC p0) (p1,0)).bind fun j1=>j1.el (fun s4=>some s4) (fun r=>some r)
theorem W8 (w0 : World) (p0 : (List UInt8)) (v0_1 : Value) (hv0_1 : Ro w0 p0 [v0_1]) (p1 : Int) (r : Int) (hF : YH p0 p1 = some r) :
  Calls Try.prog 54 [v0_1,vI p1].toArray w0 (fun en w'=>∃ v,en = .returned v ∧ (v = (vI r) ∧ Kept (Old w0) w0 w')):=by
 refine Zy (n:=22) Try.func54 rfl rfl (nbl rfl) rfl ?_
 intro a hE
 have hM:=M.start w0
 unfold YH at hF
 refine Zb (Zc hE Za ld rfl fun a hE=>Ze (wp_seq (Zb (Zc hE Za ld rfl fun a hE=>Ze ?_))))
 obtain ⟨j1,hl2,hF3⟩:=bind_some hF
 refine Yb (fun a w=>∃ s4 : Int,j1 = Fl.nx s4 ∧ Env 22 a [(1,vI s4)] ∧ M (Old w0) w0 w []) ?_ ?_
 ·skip
  refine wp_block ?_
  refine ZL (fun (s5 : Int × Int) a w=>Env 22 a [(0,v0_1),(1,vI s5.1),(5,vI s5.2)] ∧ M (Old w0) w0 w []) hl2 ⟨hE.sub ⟨rfl,rfl,rfl,trivial⟩,hM⟩ ?_
  rintro s5 a w ⟨hE,hM⟩ o8 hs6 hx7
  unfold YC at hs6
  refine wp_seq (Zb (Zd hE Za ld rfl fun a hE=>Zd hE Za ld rfl fun a hE=>ZH hE Za ld rfl Try.underlying22 (hM.rd hv0_1) fun a hE=>Zh hE Za ld rfl rfl rfl fun a hE=>Ze ?_))
  refine Zj hE rfl ?_ ?_
  ·intro hb9
   have hs6:=Zo hs6 hb9
   refine wp_skip (Zv (wp_seq (wp_block (wp_seq (Zb (Zd hE Za ld rfl fun a hE=>Zd hE Za ld rfl ?_)))))); intro a hE
   obtain ⟨x10,hi12,hs6⟩:=bix hs6
   refine Zw hE Za ld rfl rfl Try.underlying22 ty5 (hM.rd hv0_1) hi12.1 fun a hE=>ZG (v:=(vB x10)) hE Za ld rfl ty5 rfl (Xk (hM.rd hv0_1) hi12.2) fun a hE=>Zd hE Za ld rfl fun a hE=>X2 hE Za ld rfl Try.underlying3 Try.underlying5 ?_; intro a hE
   rw [Xz] at hE
   refine Zh hE Za ld rfl rfl (Ux x10 (YL s5.1)) fun a hE=>Ze ?_
   refine Zj hE rfl ?_ ?_
   ·intro hb13
    have hs6:=Zo hs6 hb13
    refine Zb (Zc hE Za ld rfl fun a hE=>Ze ?_)
    have ht14:=hx7 _ (ois hs6)
    subst ht14
    have hr:=Option.some.inj hF3
    subst hr
    exact wp_ret (Zi (Z1 (Zi (Zi (Z1 (Zi (Zi (Zm hE rfl (Zg hE rfl) ⟨_,rfl,rfl,hM.kept⟩))))))))
   ·intro hb13
    have hs6:=Zp hs6 hb13
    refine wp_skip (Zv (wp_region_lit (Zd hE Za ld rfl fun a hE=>Zh hE Za ld rfl rfl rfl fun a hE=>Zc hE Za ld rfl fun a hE=>Zk (Xf (Zv (wp_region_lit (Zd hE Za ld rfl fun a hE=>Zh hE Za ld rfl rfl rfl fun a hE=>Zc hE Za ld rfl fun a hE=>Zk (Zl ?_))))))))
    exact ⟨_,(ois hs6),hE.sub ⟨rfl,rfl,rfl,trivial⟩,hM⟩
  ·intro hb9
   have hs6:=Zp hs6 hb9
   refine wp_exit (Zs (Zs (Xl ?_)))
   have ht15:=hx7 _ (ois hs6)
   subst ht15
   refine Zl ?_
   exact ⟨s5.1,rfl,hE.sub ⟨rfl,trivial⟩,hM⟩
 ·skip
  rintro a w ⟨s4,ht,hE,hM⟩
  subst ht
  have hF3:=XX hF3
  refine Zv (Zb (Zd hE Za ld rfl fun a hE=>Zc hE Za ld rfl fun a hE=>Ze ?_))
  have hr:=Option.some.inj hF3
  subst hr
  exact wp_ret (Zm hE rfl (Zg hE rfl) ⟨_,rfl,rfl,hM.kept⟩)
def Ym (p0 : (List GShare)) (s5 : Int × Int) : Option (Fl (Int × Int) (Fl Int Int)) :=
 if (decide (s5.2 < (p0.length : Int))) = true then ((idx p0 s5.2).bind fun x10=>if (x10.Place != (YL s5.1)) = true then (some (Fl.ex (Fl.ex (-1)))) else ((idx p0 s5.2).bind fun x20=>(YH x20.Data (wr (s5.1 + 1))).bind fun r28=>if (decide (r28 < 0)) = true then (some (Fl.ex (Fl.ex (-1)))) else (some (Fl.nx (r28,wr (s5.2 + 1)))))) else (some (Fl.ex (Fl.nx s5.1)))
def Z7 (p0 : (List GShare)) (p1 : Int) : Option (Int) :=
 (Zz (Ym p0) (p1,0)).bind fun j1=>j1.el (fun s4=>some s4) (fun r=>some r)
theorem XY (w0 : World) (p0 : (List GShare)) (v0_1 : Value) (hv0_1 : Ro w0 p0 [v0_1]) (p1 : Int) (r : Int) (hF : Z7 p0 p1 = some r) :
  Calls Try.prog 19 [v0_1,vI p1].toArray w0 (fun en w'=>∃ v,en = .returned v ∧ (v = (vI r) ∧ Kept (Old w0) w0 w')):=by
 refine Zy (n:=32) Try.func19 rfl rfl (nbl rfl) rfl ?_
 intro a hE
 have hM:=M.start w0
 unfold Z7 at hF
 refine Zb (Zc hE Za ld rfl fun a hE=>Ze (wp_seq (Zb (Zc hE Za ld rfl fun a hE=>Ze ?_))))
 obtain ⟨j1,hl2,hF3⟩:=bind_some hF
 refine Yb (fun a w=>∃ s4 : Int,j1 = Fl.nx s4 ∧ Env 32 a [(1,vI s4)] ∧ M (Old w0) w0 w []) ?_ ?_
 ·skip
  refine wp_block ?_
  refine ZL (fun (s5 : Int × Int) a w=>Env 32 a [(0,v0_1),(1,vI s5.1),(5,vI s5.2)] ∧ M (Old w0) w0 w []) hl2 ⟨hE.sub ⟨rfl,rfl,rfl,trivial⟩,hM⟩ ?_
  rintro s5 a w ⟨hE,hM⟩ o8 hs6 hx7
  unfold Ym at hs6
  refine wp_seq (Zb (Zd hE Za ld rfl fun a hE=>Zd hE Za ld rfl fun a hE=>ZH hE Za ld rfl Try.underlying25 (hM.rd hv0_1) fun a hE=>Zh hE Za ld rfl rfl rfl fun a hE=>Ze ?_))
  refine Zj hE rfl ?_ ?_
  ·intro hb9
   have hs6:=Zo hs6 hb9
   refine wp_skip (Zv (wp_seq (wp_block (wp_seq (Zb (Zd hE Za ld rfl fun a hE=>Zd hE Za ld rfl ?_)))))); intro a hE
   obtain ⟨x10,hi12,hs6⟩:=bix hs6
   refine Zw hE Za ld rfl rfl Try.underlying25 XH (hM.rd hv0_1) hi12.1 fun a hE=>ZV hE Za ld rfl (Uy) ?_; intro a hE
   obtain ⟨cs13,hs14,hA15⟩:=Xg hv0_1 hi12.2 -- ^
   obtain ⟨u16,rfl,h17⟩:=WC hs14 -- ^
   refine ZG (v:=(vB x10.Place)) hE Za ld rfl ty5 rfl (At.cat (pre:=[]) (hM.atk hA15 (XC hv0_1 hi12.2)) cl0) fun a hE=>Zd hE Za ld rfl fun a hE=>X2 hE Za ld rfl Try.underlying3 Try.underlying5 ?_; intro a hE
   rw [Xz] at hE
   refine Zh hE Za ld rfl rfl (Ux x10.Place (YL s5.1)) fun a hE=>Ze ?_
   refine Zj hE rfl ?_ ?_
   ·intro hb18
    have hs6:=Zo hs6 hb18
    refine Zb (Zc hE Za ld rfl fun a hE=>Ze ?_)
    have ht19:=hx7 _ (ois hs6)
    subst ht19
    have hr:=Option.some.inj hF3
    subst hr
    exact wp_ret (Zi (Z1 (Zi (Zi (Z1 (Zi (Zi (Zm hE rfl (Zg hE rfl) ⟨_,rfl,rfl,hM.kept⟩))))))))
   ·intro hb18
    have hs6:=Zp hs6 hb18
    refine wp_skip (Zv (Zb (Zd hE Za ld rfl fun a hE=>Zh hE Za ld rfl rfl rfl fun a hE=>Zc hE Za ld rfl fun a hE=>Ze (Zb (Zd hE Za ld rfl fun a hE=>Zd hE Za ld rfl ?_))))); intro a hE
    obtain ⟨x20,hi22,hs6⟩:=bix hs6
    refine Zw hE Za ld rfl rfl Try.underlying25 XH (hM.rd hv0_1) hi22.1 fun a hE=>ZV hE Za ld rfl (Wr) ?_; intro a hE
    obtain ⟨cs23,hs24,hA25⟩:=Xg hv0_1 hi22.2 -- ^
    obtain ⟨u26,rfl,h27⟩:=WC hs24 -- ^
    refine ZG (v:=u26) hE Za ld rfl Xm rfl (At.cat (pre:=[[vB x20.Place]]) (hM.atk hA25 (XC hv0_1 hi22.2)) (cl1 (n:=1) (m:=0) rfl cl0)) fun a hE=>Zd hE Za ld rfl ?_; intro a hE
    obtain ⟨r28,e29,hs6⟩:=bind_some hs6
    refine Zq hE Za ld rfl cb54 (W8 _ x20.Data u26 (hM.rdo h27) (wr (s5.1 + 1)) r28 e29) ?_
    rintro v w a ⟨rfl,hK⟩ hE
    have hM:=hM.keep hK
    refine Zc hE Za ld rfl fun a hE=>Ze (Zb (Zd hE Za ld rfl fun a hE=>Zh hE Za ld rfl rfl rfl fun a hE=>Ze ?_))
    refine Zj hE rfl ?_ ?_
    ·intro hb30
     have hs6:=Zo hs6 hb30
     refine Zb (Zc hE Za ld rfl fun a hE=>Ze ?_)
     have ht31:=hx7 _ (ois hs6)
     subst ht31
     have hr:=Option.some.inj hF3
     subst hr
     exact wp_ret (Z1 (Zi (Zi (Z1 (Zi (Zi (Zm hE rfl (Zg hE rfl) ⟨_,rfl,rfl,hM.kept⟩)))))))
    ·intro hb30
     have hs6:=Zp hs6 hb30
     refine wp_skip (Xf (Zv (wp_region_lit (Zd hE Za ld rfl fun a hE=>Zh hE Za ld rfl rfl rfl fun a hE=>Zc hE Za ld rfl fun a hE=>Zk (Zl ?_)))))
     exact ⟨_,(ois hs6),hE.sub ⟨rfl,rfl,rfl,trivial⟩,hM⟩
  ·intro hb9
   have hs6:=Zp hs6 hb9
   refine wp_exit (Zs (Zs (Xl ?_)))
   have ht32:=hx7 _ (ois hs6)
   subst ht32
   refine Zl ?_
   exact ⟨s5.1,rfl,hE.sub ⟨rfl,trivial⟩,hM⟩
 ·skip
  rintro a w ⟨s4,ht,hE,hM⟩
  subst ht
  have hF3:=XX hF3
  refine Zv (Zb (Zd hE Za ld rfl fun a hE=>Zc hE Za ld rfl fun a hE=>Ze ?_))
  have hr:=Option.some.inj hF3
  subst hr
  exact wp_ret (Zm hE rfl (Zg hE rfl) ⟨_,rfl,rfl,hM.kept⟩)
def Yc (p0 : Int) (p1 : (List UInt8)) (p2 : (List (List UInt8))) (p3 : (List UInt8)) : Option (Bool) :=
 if (decide ((p1.length : Int) > 1048576)) = true then (some true) else (if (decide ((p3.length : Int) > 1048576)) = true then (some true) else ((Yt p2 1048576).bind fun r3=>if (decide (r3 < 0)) = true then (some true) else ((ZA p1).bind fun r6=>(ZW p2).bind fun r9=>(ZA p3).bind fun r12=>(YV p0 r6 r9 r12).bind fun r15=>(ZA p1).bind fun r18=>(ZW p2).bind fun r21=>(ZA p3).bind fun r24=>(Yy p0 r18 r21 r24).bind fun r27=>((Z8 r27.1 r15.1).bind fun r33=>if (!r33) = true then (some true) else (some (r27.2 != r15.2)) : Option (Bool)).bind fun j30=>if j30 = true then (some false) else ((ZA p1).bind fun r39=>(ZR r18 r39).bind fun r42=>if (!r42) = true then (some false) else ((ZW p2).bind fun r45=>(YP r21 r45).bind fun r48=>if (!r48) = true then (some false) else ((ZA p3).bind fun r51=>(ZR r24 r51).bind fun r54=>if (!r54) = true then (some false) else ((ZD r18 1).bind fun r57=>(YD r21 r57.2).bind fun r59=>(ZD r24 r59.2).bind fun r61=>(if (decide (r61.2 < 0)) = true then (some true) else ((Z8 r27.1 r15.1).bind fun r68=>if (!r68) = true then (some true) else (some (r27.2 != r15.2))) : Option (Bool)).bind fun j63=>if j63 = true then (some false) else ((YA r27.1 1).bind fun r74=>(Z7 r74.1 1).bind fun r76=>if (decide (r76 < 0)) = true then (some false) else (if (r76 != r74.2) = true then (some false) else ((ZA p1).bind fun r80=>(ZW p2).bind fun r83=>(ZA p3).bind fun r86=>(Yy p0 r80 r83 r86).bind fun r89=>((Z8 r89.1 r15.1).bind fun r95=>if (!r95) = true then (some true) else (some (r89.2 != r15.2)) : Option (Bool)).bind fun j92=>if j92 = true then (some false) else ((Z7 r74.1 1).bind fun r101=>if (decide (r101 < 0)) = true then (some false) else (if (r101 != r74.2) = true then (some false) else (some true)))))))))))))
theorem Wb (w0 : World) (p0 : Int) (p1 : (List UInt8)) (v1_1 : Value) (hv1_1 : Ro w0 p1 [v1_1]) (p2 : (List (List UInt8))) (v2_1 : Value) (hv2_1 : Ro w0 p2 [v2_1]) (p3 : (List UInt8)) (v3_1 : Value) (hv3_1 : Ro w0 p3 [v3_1]) (r : Bool) (hF : Yc p0 p1 p2 p3 = some r) :
  Calls Try.prog 3 [vI p0,v1_1,v2_1,v3_1].toArray w0 (fun en w'=>∃ v,en = .returned v ∧ (v = (vT r) ∧ Kept (Old w0) w0 w')):=by
 refine Zy (n:=143) Try.func3 rfl rfl (nbl rfl) rfl ?_
 intro a hE
 have hM:=M.start w0
 unfold Yc at hF
 refine Zb (Zc hE Za ld rfl fun a hE=>Ze (wp_seq (Zb (Zd hE Za ld rfl fun a hE=>ZH hE Za ld rfl Try.underlying22 (hM.rd hv1_1) fun a hE=>Zh hE Za ld rfl rfl rfl fun a hE=>Ze ?_))))
 refine Zj hE rfl ?_ ?_
 ·intro hb1
  have hF:=Zo hF hb1
  refine Zb (Zc hE Za ld rfl fun a hE=>Ze ?_)
  have hr:=Option.some.inj hF
  subst hr
  exact wp_ret (Zi (Zm hE rfl (Zg hE rfl) ⟨_,rfl,rfl,hM.kept⟩))
 ·intro hb1
  have hF:=Zp hF hb1
  refine wp_skip (Zv (wp_seq (Zb (Zd hE Za ld rfl fun a hE=>ZH hE Za ld rfl Try.underlying22 (hM.rd hv3_1) fun a hE=>Zh hE Za ld rfl rfl rfl fun a hE=>Ze ?_))))
  refine Zj hE rfl ?_ ?_
  ·intro hb2
   have hF:=Zo hF hb2
   refine Zb (Zc hE Za ld rfl fun a hE=>Ze ?_)
   have hr:=Option.some.inj hF
   subst hr
   exact wp_ret (Zi (Zm hE rfl (Zg hE rfl) ⟨_,rfl,rfl,hM.kept⟩))
  ·intro hb2
   have hF:=Zp hF hb2
   refine wp_skip (Zv (Zb (Zc hE Za ld rfl fun a hE=>Ze (Zb (Zd hE Za ld rfl fun a hE=>Zd hE Za ld rfl ?_))))); intro a hE
   obtain ⟨r3,e4,hF⟩:=bind_some hF
   refine Zq hE Za ld rfl cb8 (Vv _ p2 v2_1 (hM.rdo hv2_1) 1048576 r3 e4) ?_
   rintro v w a ⟨rfl,hK⟩ hE
   have hM:=hM.keep hK
   refine Zc hE Za ld rfl fun a hE=>Ze (wp_seq (Zb (Zd hE Za ld rfl fun a hE=>Zh hE Za ld rfl rfl rfl fun a hE=>Ze ?_)))
   refine Zj hE rfl ?_ ?_
   ·intro hb5
    have hF:=Zo hF hb5
    refine Zb (Zc hE Za ld rfl fun a hE=>Ze ?_)
    have hr:=Option.some.inj hF
    subst hr
    exact wp_ret (Zi (Zm hE rfl (Zg hE rfl) ⟨_,rfl,rfl,hM.kept⟩))
   ·intro hb5
    have hF:=Zp hF hb5
    refine wp_skip (Zv (Zb (Zd hE Za ld rfl fun a hE=>Zd hE Za ld rfl ?_))); intro a hE
    obtain ⟨r6,e7,hF⟩:=bind_some hF
    refine Zq hE Za ld rfl UI (ZP _ p1 v1_1 (hM.rdo hv1_1) r6 e7) ?_
    rintro u8 w a ⟨_,rfl,hFr,hK⟩ hE
    have hM:=hM.add hK hFr
    refine Zd hE Za ld rfl ?_; intro a hE
    obtain ⟨r9,e10,hF⟩:=bind_some hF
    refine Zq hE Za ld rfl cb11 (Xh _ p2 v2_1 (hM.rdo hv2_1) r9 e10) ?_
    rintro u11 w a ⟨_,rfl,hFr,hK⟩ hE
    have hM:=hM.add hK hFr
    refine Zd hE Za ld rfl ?_; intro a hE
    obtain ⟨r12,e13,hF⟩:=bind_some hF
    refine Zq hE Za ld rfl UI (ZP _ p3 v3_1 (hM.rdo hv3_1) r12 e13) ?_
    rintro u14 w a ⟨_,rfl,hFr,hK⟩ hE
    have hM:=hM.add hK hFr
    obtain ⟨r15,e16,hF⟩:=bind_some hF
    refine Zq hE Za ld rfl cb9 (VE _ p0 r6 u8 (hM.sl (pre:=[_,_]) noB) r9 u11 (hM.sl (pre:=[_]) noB) r12 u14 (hM.sl (pre:=[]) noB) r15 e16) ?_
    rintro v w a ⟨u17,rfl,hFr,hK⟩ hE
    have hM:=hM.add hK hFr
    refine Zd hE Za ld rfl fun a hE=>XI hE Za ld rfl rfl fun a hE=>XI hE Za ld rfl rfl fun a hE=>Zc hE Za ld rfl fun a hE=>Zc hE Za ld rfl fun a hE=>Ze (Zb (Zd hE Za ld rfl ?_)); intro a hE
    obtain ⟨r18,e19,hF⟩:=bind_some hF
    refine Zq hE Za ld rfl UI (ZP _ p1 v1_1 (hM.rdo hv1_1) r18 e19) ?_
    rintro u20 w a ⟨_,rfl,hFr,hK⟩ hE
    have hM:=hM.add hK hFr
    refine Zc hE Za ld rfl fun a hE=>Ze (Zb (Zd hE Za ld rfl ?_)); intro a hE
    obtain ⟨r21,e22,hF⟩:=bind_some hF
    refine Zq hE Za ld rfl cb11 (Xh _ p2 v2_1 (hM.rdo hv2_1) r21 e22) ?_
    rintro u23 w a ⟨_,rfl,hFr,hK⟩ hE
    have hM:=hM.add hK hFr
    refine Zc hE Za ld rfl fun a hE=>Ze (Zb (Zd hE Za ld rfl ?_)); intro a hE
    obtain ⟨r24,e25,hF⟩:=bind_some hF
    refine Zq hE Za ld rfl UI (ZP _ p3 v3_1 (hM.rdo hv3_1) r24 e25) ?_
    rintro u26 w a ⟨_,rfl,hFr,hK⟩ hE
    have hM:=hM.add hK hFr
    refine Zc hE Za ld rfl fun a hE=>Ze (Zb (Zd hE Za ld rfl fun a hE=>Zd hE Za ld rfl fun a hE=>Zd hE Za ld rfl fun a hE=>Zd hE Za ld rfl ?_)); intro a hE
    obtain ⟨r27,e28,hF⟩:=bind_some hF
    refine Zq hE Za ld rfl cb12 (Wk _ p0 r18 u20 (hM.sl (pre:=[_,_]) noB) r21 u23 (hM.sl (pre:=[_]) noB) r24 u26 (hM.sl (pre:=[]) noB) r27 e28) ?_
    rintro v w a ⟨u29,rfl,hFr,hK⟩ hE
    have hM:=hM.add hK hFr
    refine Zd hE Za ld rfl fun a hE=>XI hE Za ld rfl rfl fun a hE=>XI hE Za ld rfl rfl fun a hE=>Zc hE Za ld rfl fun a hE=>Zc hE Za ld rfl fun a hE=>Ze (wp_seq ?_)
    obtain ⟨j30,hl31,hF32⟩:=bind_some hF
    refine YY (fun a w=>Env 143 a [(0,vI p0),(1,v1_1),(2,v2_1),(3,v3_1),(10,u17),(11,vI r15.2),(12,u20),(13,u23),(14,u26),(15,u29),(16,vI r27.2),(66,vT j30)] ∧ M (Old w0) w0 w [osl NoB (r27.1 : List GShare) u29,osl NoB (r24 : List UInt8) u26,osl NoB (r21 : List (List UInt8)) u23,osl NoB (r18 : List UInt8) u20,osl NoB (r15.1 : List GShare) u17]) ?_ ?_
    ·skip
     refine wp_region_lit (Zd hE Za ld rfl fun a hE=>Zd hE Za ld rfl ?_); intro a hE
     obtain ⟨r33,e34,hl31⟩:=bind_some hl31
     refine Zq hE Za ld rfl cb13 (XD _ r27.1 u29 (hM.sl (pre:=[]) noB) r15.1 u17 (hM.sl (pre:=[_,_,_,_]) noB) r33 e34) ?_
     rintro v w a ⟨rfl,hK⟩ hE
     have hM:=hM.keep hK
     refine Xx hE Za ld rfl fun a hE=>Zd hE Za ld rfl ?_; intro a hE
     refine XA (!r33) (fun hb35=>?_) (fun hb35=>?_)
     ·have hl31:=Zo hl31 hb35
      refine Zr hE rfl (lkb rfl hb35) rfl (by decide) fun a hE=>Zr hE rfl (lkb rfl hb35) rfl (by decide) fun a hE=>Zr hE rfl (lkb rfl hb35) rfl (by decide) fun a hE=>Yp hE Za ld (lkb rfl hb35) rfl fun a hE=>Zk ?_
      have ht36:=Option.some.inj hl31
      subst ht36
      refine Zl ?_
      have hM:=M.fst (l:=[_,_,_,_,_]) (((((hM.pull (pre:=[_,_,_,_])).pull (pre:=[_,_,_,_])).pull (pre:=[_,_,_,_])).pull (pre:=[_,_,_,_])).pull (pre:=[_,_,_,_]))
      exact ⟨hE.sub ⟨rfl,rfl,rfl,rfl,rfl,rfl,rfl,rfl,rfl,rfl,rfl,rfl,trivial⟩,hM⟩
     ·have hl31:=Zp hl31 hb35
      refine Zd hE (Zn hE rfl (lkb rfl hb35)) (by decide) rfl fun a hE=>Zd hE (Zn hE rfl (lkb rfl hb35)) (by decide) rfl fun a hE=>Zh hE (Zn hE rfl (lkb rfl hb35)) (by decide) rfl rfl rfl fun a hE=>Xe hE Za ld (lkb rfl hb35) rfl fun a hE=>Zk ?_
      have ht37:=Option.some.inj hl31
      subst ht37
      refine Zl ?_
      have hM:=M.fst (l:=[_,_,_,_,_]) (((((hM.pull (pre:=[_,_,_,_])).pull (pre:=[_,_,_,_])).pull (pre:=[_,_,_,_])).pull (pre:=[_,_,_,_])).pull (pre:=[_,_,_,_]))
      exact ⟨hE.sub ⟨rfl,rfl,rfl,rfl,rfl,rfl,rfl,rfl,rfl,rfl,rfl,rfl,trivial⟩,hM⟩
    ·skip
     rintro a w ⟨hE,hM⟩
     refine Zj hE rfl ?_ ?_
     ·intro hb38
      have hF32:=Zo hF32 hb38
      refine Zb (Zc hE Za ld rfl fun a hE=>Ze ?_)
      have hr:=Option.some.inj hF32
      subst hr
      have hM:=M.fst (l:=[]) hM
      exact wp_ret (Zi (Zm hE rfl (Zg hE rfl) ⟨_,rfl,rfl,hM.kept⟩))
     ·intro hb38
      have hF32:=Zp hF32 hb38
      refine wp_skip (Zv (wp_seq (Zb (Zd hE Za ld rfl fun a hE=>Zd hE Za ld rfl ?_)))); intro a hE
      obtain ⟨r39,e40,hF32⟩:=bind_some hF32
      refine Zq hE Za ld rfl UI (ZP _ p1 v1_1 (hM.rdo hv1_1) r39 e40) ?_
      rintro u41 w a ⟨_,rfl,hFr,hK⟩ hE
      have hM:=hM.add hK hFr
      obtain ⟨r42,e43,hF32⟩:=bind_some hF32
      refine Zq hE Za ld rfl cb14 (Xt _ r18 u20 (hM.sl (pre:=[_,_,_,_]) noB) r39 u41 (hM.sl (pre:=[]) noB) r42 e43) ?_
      rintro v w a ⟨rfl,hK⟩ hE
      have hM:=hM.keep hK
      refine Xx hE Za ld rfl fun a hE=>Ze ?_
      refine Zj hE rfl ?_ ?_
      ·intro hb44
       have hF32:=Zo hF32 hb44
       refine Zb (Zc hE Za ld rfl fun a hE=>Ze ?_)
       have hr:=Option.some.inj hF32
       subst hr
       have hM:=M.fst (l:=[]) hM
       exact wp_ret (Zi (Zm hE rfl (Zg hE rfl) ⟨_,rfl,rfl,hM.kept⟩))
      ·intro hb44
       have hF32:=Zp hF32 hb44
       refine wp_skip (Zv (wp_seq (Zb (Zd hE Za ld rfl fun a hE=>Zd hE Za ld rfl ?_)))); intro a hE
       obtain ⟨r45,e46,hF32⟩:=bind_some hF32
       refine Zq hE Za ld rfl cb11 (Xh _ p2 v2_1 (hM.rdo hv2_1) r45 e46) ?_
       rintro u47 w a ⟨_,rfl,hFr,hK⟩ hE
       have hM:=hM.add hK hFr
       obtain ⟨r48,e49,hF32⟩:=bind_some hF32
       refine Zq hE Za ld rfl cb15 (Vs _ r21 u23 (hM.sl (pre:=[_,_,_,_]) noB) r45 u47 (hM.sl (pre:=[]) noB) r48 e49) ?_
       rintro v w a ⟨rfl,hK⟩ hE
       have hM:=hM.keep hK
       refine Xx hE Za ld rfl fun a hE=>Ze ?_
       refine Zj hE rfl ?_ ?_
       ·intro hb50
        have hF32:=Zo hF32 hb50
        refine Zb (Zc hE Za ld rfl fun a hE=>Ze ?_)
        have hr:=Option.some.inj hF32
        subst hr
        have hM:=M.fst (l:=[]) hM
        exact wp_ret (Zi (Zm hE rfl (Zg hE rfl) ⟨_,rfl,rfl,hM.kept⟩))
       ·intro hb50
        have hF32:=Zp hF32 hb50
        refine wp_skip (Zv (wp_seq (Zb (Zd hE Za ld rfl fun a hE=>Zd hE Za ld rfl ?_)))); intro a hE
        obtain ⟨r51,e52,hF32⟩:=bind_some hF32
        refine Zq hE Za ld rfl UI (ZP _ p3 v3_1 (hM.rdo hv3_1) r51 e52) ?_
        rintro u53 w a ⟨_,rfl,hFr,hK⟩ hE
        have hM:=hM.add hK hFr
        obtain ⟨r54,e55,hF32⟩:=bind_some hF32
        refine Zq hE Za ld rfl cb14 (Xt _ r24 u26 (hM.sl (pre:=[_,_,_,_]) noB) r51 u53 (hM.sl (pre:=[]) noB) r54 e55) ?_
        rintro v w a ⟨rfl,hK⟩ hE
        have hM:=hM.keep hK
        refine Xx hE Za ld rfl fun a hE=>Ze ?_
        refine Zj hE rfl ?_ ?_
        ·intro hb56
         have hF32:=Zo hF32 hb56
         refine Zb (Zc hE Za ld rfl fun a hE=>Ze ?_)
         have hr:=Option.some.inj hF32
         subst hr
         have hM:=M.fst (l:=[]) hM
         exact wp_ret (Zi (Zm hE rfl (Zg hE rfl) ⟨_,rfl,rfl,hM.kept⟩))
        ·intro hb56
         have hF32:=Zp hF32 hb56
         refine wp_skip (Zv (Zb (Zc hE Za ld rfl fun a hE=>Ze (Zb (Zd hE Za ld rfl fun a hE=>Zd hE Za ld rfl ?_))))); intro a hE
         have hM:=(hM.pull (pre:=[_,_,_,_,_,_])).toOwn noB
         obtain ⟨r57,e58,hF32⟩:=bind_some hF32
         refine Zq hE Za ld rfl cb16 (Xc _ _ _ _ r18 u20 1 hM r57 e58) ?_
         rintro v w a ⟨rfl,hM⟩ hE
         refine Zc hE Za ld rfl fun a hE=>Ze (Zb (Zd hE Za ld rfl fun a hE=>Zd hE Za ld rfl ?_)); intro a hE
         have hM:=(hM.pull (pre:=[_,_,_,_,_,_])).toOwn noB
         obtain ⟨r59,e60,hF32⟩:=bind_some hF32
         refine Zq hE Za ld rfl cb17 (W6 _ _ _ _ r21 u23 r57.2 hM r59 e60) ?_
         rintro v w a ⟨rfl,hM⟩ hE
         refine Zc hE Za ld rfl fun a hE=>Ze (Zb (Zd hE Za ld rfl fun a hE=>Zd hE Za ld rfl ?_)); intro a hE
         have hM:=(hM.pull (pre:=[_,_,_,_,_,_])).toOwn noB
         obtain ⟨r61,e62,hF32⟩:=bind_some hF32
         refine Zq hE Za ld rfl cb16 (Xc _ _ _ _ r24 u26 r59.2 hM r61 e62) ?_
         rintro v w a ⟨rfl,hM⟩ hE
         refine Zc hE Za ld rfl fun a hE=>Ze (wp_seq ?_)
         obtain ⟨j63,hl64,hF65⟩:=bind_some hF32
         refine YY (fun a w=>Env 143 a [(0,vI p0),(1,v1_1),(2,v2_1),(3,v3_1),(10,u17),(11,vI r15.2),(15,u29),(103,vT j63)] ∧ M (Old w0) w0 w [osl NoB (r27.1 : List GShare) u29,osl NoB (r15.1 : List GShare) u17]) ?_ ?_
         ·skip
          refine wp_region_lit (Zd hE Za ld rfl fun a hE=>Zh hE Za ld rfl rfl rfl fun a hE=>Zd hE Za ld rfl ?_); intro a hE
          refine XA (decide (r61.2 < 0)) (fun hb66=>?_) (fun hb66=>?_)
          ·have hl64:=Zo hl64 hb66
           refine Zr hE rfl (lkb rfl hb66) rfl (by decide) fun a hE=>Zr hE rfl (lkb rfl hb66) rfl (by decide) fun a hE=>Zr hE rfl (lkb rfl hb66) rfl (by decide) fun a hE=>Zr hE rfl (lkb rfl hb66) rfl (by decide) fun a hE=>Yp hE Za ld (lkb rfl hb66) rfl fun a hE=>Zd hE Za ld rfl fun a hE=>Zr hE rfl rfl rfl (by decide) fun a hE=>Zr hE rfl rfl rfl (by decide) fun a hE=>Zr hE rfl rfl rfl (by decide) fun a hE=>Yp hE Za ld rfl rfl fun a hE=>Zk ?_
           have ht67:=Option.some.inj hl64
           subst ht67
           refine Zl ?_
           have hM:=M.fst (l:=[_,_]) ((hM.pull (pre:=[_,_,_,_,_,_,_])).pull (pre:=[_,_,_,_,_,_,_]))
           exact ⟨hE.sub ⟨rfl,rfl,rfl,rfl,rfl,rfl,rfl,rfl,trivial⟩,hM⟩
          ·have hl64:=Zp hl64 hb66
           refine Zd hE (Zn hE rfl (lkb rfl hb66)) (by decide) rfl fun a hE=>Zd hE (Zn hE rfl (lkb rfl hb66)) (by decide) rfl ?_; intro a hE
           obtain ⟨r68,e69,hl64⟩:=bind_some hl64
           refine Zq hE (Zn hE rfl (lkb rfl hb66)) (by decide) rfl cb13 (XD _ r27.1 u29 (hM.sl (pre:=[_,_,_,_,_,_]) noB) r15.1 u17 (hM.sl (pre:=[_,_,_,_,_,_,_]) noB) r68 e69) ?_
           rintro v w a ⟨rfl,hK⟩ hE
           have hM:=hM.keep hK
           refine Xx hE (Zn hE rfl (lkb rfl hb66)) (by decide) rfl fun a hE=>Xe hE Za ld (lkb rfl hb66) rfl fun a hE=>Zd hE Za ld rfl ?_; intro a hE
           refine XA (!r68) (fun hb70=>?_) (fun hb70=>?_)
           ·have hl64:=Zo hl64 hb70
            refine Zr hE rfl (lkb rfl hb70) rfl (by decide) fun a hE=>Zr hE rfl (lkb rfl hb70) rfl (by decide) fun a hE=>Zr hE rfl (lkb rfl hb70) rfl (by decide) fun a hE=>Yp hE Za ld (lkb rfl hb70) rfl fun a hE=>Zk ?_
            have ht71:=Option.some.inj hl64
            subst ht71
            refine Zl ?_
            have hM:=M.fst (l:=[_,_]) ((hM.pull (pre:=[_,_,_,_,_,_,_])).pull (pre:=[_,_,_,_,_,_,_]))
            exact ⟨hE.sub ⟨rfl,rfl,rfl,rfl,rfl,rfl,rfl,rfl,trivial⟩,hM⟩
           ·have hl64:=Zp hl64 hb70
            refine Zd hE (Zn hE rfl (lkb rfl hb70)) (by decide) rfl fun a hE=>Zd hE (Zn hE rfl (lkb rfl hb70)) (by decide) rfl fun a hE=>Zh hE (Zn hE rfl (lkb rfl hb70)) (by decide) rfl rfl rfl fun a hE=>Xe hE Za ld (lkb rfl hb70) rfl fun a hE=>Zk ?_
            have ht72:=Option.some.inj hl64
            subst ht72
            refine Zl ?_
            have hM:=M.fst (l:=[_,_]) ((hM.pull (pre:=[_,_,_,_,_,_,_])).pull (pre:=[_,_,_,_,_,_,_]))
            exact ⟨hE.sub ⟨rfl,rfl,rfl,rfl,rfl,rfl,rfl,rfl,trivial⟩,hM⟩
         ·skip
          rintro a w ⟨hE,hM⟩
          refine Zj hE rfl ?_ ?_
          ·intro hb73
           have hF65:=Zo hF65 hb73
           refine Zb (Zc hE Za ld rfl fun a hE=>Ze ?_)
           have hr:=Option.some.inj hF65
           subst hr
           have hM:=M.fst (l:=[]) hM
           exact wp_ret (Zi (Zm hE rfl (Zg hE rfl) ⟨_,rfl,rfl,hM.kept⟩))
          ·intro hb73
           have hF65:=Zp hF65 hb73
           refine wp_skip (Zv (Zb (Zc hE Za ld rfl fun a hE=>Ze (Zb (Zd hE Za ld rfl fun a hE=>Zd hE Za ld rfl ?_))))); intro a hE
           have hM:=hM.toOwn noB
           obtain ⟨r74,e75,hF65⟩:=bind_some hF65
           refine Zq hE Za ld rfl cb18 (W5 _ _ _ _ r27.1 u29 1 hM r74 e75) ?_
           rintro v w a ⟨rfl,hM⟩ hE
           refine Zc hE Za ld rfl fun a hE=>Ze (Zb (Zc hE Za ld rfl fun a hE=>Ze (Zb (Zd hE Za ld rfl fun a hE=>Zd hE Za ld rfl ?_)))); intro a hE
           obtain ⟨r76,e77,hF65⟩:=bind_some hF65
           refine Zq hE Za ld rfl cb19 (XY _ r74.1 u29 (hM.ro (pre:=[]) noB) 1 r76 e77) ?_
           rintro v w a ⟨rfl,hK⟩ hE
           have hM:=hM.keep hK
           refine Zc hE Za ld rfl fun a hE=>Ze (wp_seq (Zb (Zd hE Za ld rfl fun a hE=>Zh hE Za ld rfl rfl rfl fun a hE=>Ze ?_)))
           refine Zj hE rfl ?_ ?_
           ·intro hb78
            have hF65:=Zo hF65 hb78
            refine Zb (Zc hE Za ld rfl fun a hE=>Ze ?_)
            have hr:=Option.some.inj hF65
            subst hr
            have hM:=M.fst (l:=[]) hM
            exact wp_ret (Zi (Zm hE rfl (Zg hE rfl) ⟨_,rfl,rfl,hM.kept⟩))
           ·intro hb78
            have hF65:=Zp hF65 hb78
            refine wp_skip (Zv (wp_seq (Zb (Zd hE Za ld rfl fun a hE=>Zd hE Za ld rfl fun a hE=>Zh hE Za ld rfl rfl rfl fun a hE=>Ze ?_))))
            refine Zj hE rfl ?_ ?_
            ·intro hb79
             have hF65:=Zo hF65 hb79
             refine Zb (Zc hE Za ld rfl fun a hE=>Ze ?_)
             have hr:=Option.some.inj hF65
             subst hr
             have hM:=M.fst (l:=[]) hM
             exact wp_ret (Zi (Zm hE rfl (Zg hE rfl) ⟨_,rfl,rfl,hM.kept⟩))
            ·intro hb79
             have hF65:=Zp hF65 hb79
             refine wp_skip (Zv (Zb (Zd hE Za ld rfl fun a hE=>Zd hE Za ld rfl ?_))); intro a hE
             obtain ⟨r80,e81,hF65⟩:=bind_some hF65
             refine Zq hE Za ld rfl UI (ZP _ p1 v1_1 (hM.rdo hv1_1) r80 e81) ?_
             rintro u82 w a ⟨_,rfl,hFr,hK⟩ hE
             have hM:=hM.add hK hFr
             refine Zd hE Za ld rfl ?_; intro a hE
             obtain ⟨r83,e84,hF65⟩:=bind_some hF65
             refine Zq hE Za ld rfl cb11 (Xh _ p2 v2_1 (hM.rdo hv2_1) r83 e84) ?_
             rintro u85 w a ⟨_,rfl,hFr,hK⟩ hE
             have hM:=hM.add hK hFr
             refine Zd hE Za ld rfl ?_; intro a hE
             obtain ⟨r86,e87,hF65⟩:=bind_some hF65
             refine Zq hE Za ld rfl UI (ZP _ p3 v3_1 (hM.rdo hv3_1) r86 e87) ?_
             rintro u88 w a ⟨_,rfl,hFr,hK⟩ hE
             have hM:=hM.add hK hFr
             obtain ⟨r89,e90,hF65⟩:=bind_some hF65
             refine Zq hE Za ld rfl cb12 (Wk _ p0 r80 u82 (hM.sl (pre:=[_,_]) noB) r83 u85 (hM.sl (pre:=[_]) noB) r86 u88 (hM.sl (pre:=[]) noB) r89 e90) ?_
             rintro v w a ⟨u91,rfl,hFr,hK⟩ hE
             have hM:=hM.add hK hFr
             refine Zd hE Za ld rfl fun a hE=>XI hE Za ld rfl rfl fun a hE=>XI hE Za ld rfl rfl fun a hE=>Zc hE Za ld rfl fun a hE=>Zc hE Za ld rfl fun a hE=>Ze (wp_seq ?_)
             obtain ⟨j92,hl93,hF94⟩:=bind_some hF65
             refine YY (fun a w=>Env 143 a [(15,u29),(18,vI r74.2),(134,vT j92)] ∧ M (Old w0) w0 w [own NoB (r74.1 : (List GShare)) [u29]]) ?_ ?_
             ·skip
              refine wp_region_lit (Zd hE Za ld rfl fun a hE=>Zd hE Za ld rfl ?_); intro a hE
              obtain ⟨r95,e96,hl93⟩:=bind_some hl93
              refine Zq hE Za ld rfl cb13 (XD _ r89.1 u91 (hM.sl (pre:=[]) noB) r15.1 u17 (hM.sl (pre:=[_,_,_,_,_]) noB) r95 e96) ?_
              rintro v w a ⟨rfl,hK⟩ hE
              have hM:=hM.keep hK
              refine Xx hE Za ld rfl fun a hE=>Zd hE Za ld rfl ?_; intro a hE
              refine XA (!r95) (fun hb97=>?_) (fun hb97=>?_)
              ·have hl93:=Zo hl93 hb97
               refine Zr hE rfl (lkb rfl hb97) rfl (by decide) fun a hE=>Zr hE rfl (lkb rfl hb97) rfl (by decide) fun a hE=>Zr hE rfl (lkb rfl hb97) rfl (by decide) fun a hE=>Yp hE Za ld (lkb rfl hb97) rfl fun a hE=>Zk ?_
               have ht98:=Option.some.inj hl93
               subst ht98
               refine Zl ?_
               have hM:=M.fst (l:=[_]) (hM.pull (pre:=[_,_,_,_]))
               exact ⟨hE.sub ⟨rfl,rfl,rfl,trivial⟩,hM⟩
              ·have hl93:=Zp hl93 hb97
               refine Zd hE (Zn hE rfl (lkb rfl hb97)) (by decide) rfl fun a hE=>Zd hE (Zn hE rfl (lkb rfl hb97)) (by decide) rfl fun a hE=>Zh hE (Zn hE rfl (lkb rfl hb97)) (by decide) rfl rfl rfl fun a hE=>Xe hE Za ld (lkb rfl hb97) rfl fun a hE=>Zk ?_
               have ht99:=Option.some.inj hl93
               subst ht99
               refine Zl ?_
               have hM:=M.fst (l:=[_]) (hM.pull (pre:=[_,_,_,_]))
               exact ⟨hE.sub ⟨rfl,rfl,rfl,trivial⟩,hM⟩
             ·skip
              rintro a w ⟨hE,hM⟩
              refine Zj hE rfl ?_ ?_
              ·intro hb100
               have hF94:=Zo hF94 hb100
               refine Zb (Zc hE Za ld rfl fun a hE=>Ze ?_)
               have hr:=Option.some.inj hF94
               subst hr
               have hM:=M.fst (l:=[]) hM
               exact wp_ret (Zi (Zm hE rfl (Zg hE rfl) ⟨_,rfl,rfl,hM.kept⟩))
              ·intro hb100
               have hF94:=Zp hF94 hb100
               refine wp_skip (Zv (Zb (Zc hE Za ld rfl fun a hE=>Ze (Zb (Zd hE Za ld rfl fun a hE=>Zd hE Za ld rfl ?_))))); intro a hE
               obtain ⟨r101,e102,hF94⟩:=bind_some hF94
               refine Zq hE Za ld rfl cb19 (XY _ r74.1 u29 (hM.ro (pre:=[]) noB) 1 r101 e102) ?_
               rintro v w a ⟨rfl,hK⟩ hE
               have hM:=hM.keep hK
               refine Zc hE Za ld rfl fun a hE=>Ze (wp_seq (Zb (Zd hE Za ld rfl fun a hE=>Zh hE Za ld rfl rfl rfl fun a hE=>Ze ?_)))
               refine Zj hE rfl ?_ ?_
               ·intro hb103
                have hF94:=Zo hF94 hb103
                refine Zb (Zc hE Za ld rfl fun a hE=>Ze ?_)
                have hr:=Option.some.inj hF94
                subst hr
                have hM:=M.fst (l:=[]) hM
                exact wp_ret (Zi (Zm hE rfl (Zg hE rfl) ⟨_,rfl,rfl,hM.kept⟩))
               ·intro hb103
                have hF94:=Zp hF94 hb103
                refine wp_skip (Zv (wp_seq (Zb (Zd hE Za ld rfl fun a hE=>Zd hE Za ld rfl fun a hE=>Zh hE Za ld rfl rfl rfl fun a hE=>Ze ?_))))
                refine Zj hE rfl ?_ ?_
                ·intro hb104
                 have hF94:=Zo hF94 hb104
                 refine Zb (Zc hE Za ld rfl fun a hE=>Ze ?_)
                 have hr:=Option.some.inj hF94
                 subst hr
                 have hM:=M.fst (l:=[]) hM
                 exact wp_ret (Zi (Zm hE rfl (Zg hE rfl) ⟨_,rfl,rfl,hM.kept⟩))
                ·intro hb104
                 have hF94:=Zp hF94 hb104
                 refine wp_skip (Zv (Zb (Zc hE Za ld rfl fun a hE=>Ze ?_)))
                 have hr:=Option.some.inj hF94
                 subst hr
                 have hM:=M.fst (l:=[]) hM
                 exact wp_ret (Zm hE rfl (Zg hE rfl) ⟨_,rfl,rfl,hM.kept⟩)
end

end Go.Proofs.Ytpjogonponkbmaa
