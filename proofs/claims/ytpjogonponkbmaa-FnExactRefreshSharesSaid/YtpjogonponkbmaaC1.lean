/- The walk of what the law reaches: contracts of functions. -/
import Derived.Test.YtpjogonponkbmaaK2
import Derived.Test.YtpjogonponkbmaaProg
set_option linter.unusedVariables false
set_option linter.unusedSimpArgs false
set_option maxRecDepth 20000
set_option maxHeartbeats 400000
namespace Go.Proofs.Ytpjogonponkbmaa
open Go
open Flat (enc)
noncomputable section
structure GShare where
 Place : UInt8
 Data : (List UInt8)
 deriving DecidableEq,Inhabited
instance : Dat GShare:=⟨fun x=>Dat.bd (α:=UInt8 × (List UInt8)) (x.Place,x.Data),fun x=>Dat.sz (α:=UInt8 × (List UInt8)) (x.Place,x.Data) + 1⟩
instance : Rep GShare:=repIso (α:=UInt8 × (List UInt8)) (fun x=>(x.Place,x.Data))
theorem VY {S : Nat → Prop} {w : World} {x : GShare} {cs : List Value} {fp : List Nat} (h : Rep.sat S w x cs fp) : ∃ (u1 : Value),∃ (g1 : List Nat),cs = cat [enc x.Place,[u1]] ∧ fp = g1 ∧ Rep.sat S w x.Data [u1] g1:=by
 obtain ⟨c0,d0,f0,q0,rfl,rfl,h0,hr0⟩:=h
 obtain ⟨rfl,rfl⟩:=h0
 obtain ⟨u1,rfl⟩:=WG hr0
 exact ⟨u1,_,rfl,by simp,hr0⟩
theorem QK {S : Nat → Prop} {w : World} {x : GShare} {u1 : Value} {fp : List Nat} (h : Rep.sat S w x (cat [enc x.Place,[u1]]) fp) : ∃ (g1 : List Nat),fp = g1 ∧ Rep.sat S w x.Data [u1] g1:=by
 obtain ⟨w1,g1,hc,hf,s1⟩:=VY h
 obtain ⟨e1,k1⟩:=Jg hc rfl
 obtain rfl:=(List.cons.inj k1).1
 exact ⟨g1,hf,s1⟩
theorem ZJ {S : Nat → Prop} {w : World} {x : GShare} {cs : List Value} (h : Rep.sat S w x cs []) : ∃ u1,cs = cat [enc x.Place,[u1]] ∧ Rep.sat S w x.Data [u1] []:=by
 obtain ⟨c0,d0,f0,g0,rfl,hf0,h0,hr0⟩:=h
 obtain ⟨rfl,rfl⟩:=List.append_eq_nil_iff.1 hf0.symm
 obtain ⟨rfl,_⟩:=h0
 obtain ⟨u1,rfl⟩:=WG hr0
 exact ⟨u1,rfl,hr0⟩
theorem Wc {S : Nat → Prop} {w : World} {x : GShare} {u1 : Value} {g1 fp : List Nat} (h1 : Rep.sat S w x.Data [u1] g1) (hfp : fp = g1) : Rep.sat S w x (cat [enc x.Place,[u1]]) fp:=by
 rw [hfp]
 refine ⟨_,_,[],g1,rfl,(by simp),⟨rfl,rfl⟩,?_⟩
 exact h1
theorem Qx (w : World) : Rep.sat NoB w (⟨(0 : UInt8),([] : (List UInt8))⟩ : GShare) (cat [(enc (0 : UInt8)),[.slice none 0 0]]) []:=Wc Qz rfl
theorem ty3 : Ty Try.prog 3 (.int .i64) 1 8 (enc (0 : Int)):=⟨Try.underlying3,by kernel_rfl⟩
theorem ty5 : Ty Try.prog 5 (.int .u8) 1 1 (enc (0 : UInt8)):=⟨Try.underlying5,by kernel_rfl⟩
theorem Yv : Ty Try.prog 22 (.slice 5) 1 24 [.slice none 0 0]:=⟨Try.underlying22,by kernel_rfl⟩
theorem ty25 : Ty Try.prog 25 (.slice 86) 1 24 [.slice none 0 0]:=⟨Try.underlying25,by kernel_rfl⟩
theorem ZR : Ty Try.prog 86 (.struct [{ name := "Place", type := 5, offset := 0, embedded := false, tag := "", pkgPath := "", byteOffset := 0 }, { name := "Data", type := 22, offset := 1, embedded := false, tag := "", pkgPath := "", byteOffset := 8 }].toArray) 2 32 (cat [(enc (0 : UInt8)), [.slice none 0 0]]) := ⟨Try.underlying86, by kernel_rfl⟩
theorem ty88 : Ty Try.prog 88 (.struct [{ name := "Place", type := 5, offset := 0, embedded := false, tag := "", pkgPath := "", byteOffset := 0 }, { name := "Data", type := 22, offset := 1, embedded := false, tag := "", pkgPath := "", byteOffset := 8 }].toArray) 2 32 (cat [(enc (0 : UInt8)), [.slice none 0 0]]) := ⟨Try.underlying88, by kernel_rfl⟩
theorem Wx : Fd Try.prog 86 0 0:=Q4 ZR.und rfl rfl ty5 (by decide)
theorem Yr : Fd Try.prog 86 1 1:=Q4 ZR.und rfl rfl Yv (by decide)
theorem fd88_0 : Fd Try.prog 88 0 0:=Q4 ty88.und rfl rfl ty5 (by decide)
theorem KK : Fd Try.prog 88 1 1:=Q4 ty88.und rfl rfl Yv (by decide)
theorem pl86 : Places Try.prog [{ name := "Place", type := 5, offset := 0, embedded := false, tag := "", pkgPath := "", byteOffset := 0 }, { name := "Data", type := 22, offset := 1, embedded := false, tag := "", pkgPath := "", byteOffset := 8 }] [(0, 1), (1, 1)] := by show _ = _; kernel_rfl
theorem Uo : Try.prog.follows .mixedOrders = true:=by kernel_rfl
theorem cb8 : Callable Try.prog 8:=⟨_,_,Try.func8,by decide,rfl⟩
theorem cb10 : Callable Try.prog 10:=⟨_,_,Try.func10,by decide,rfl⟩
theorem cb11 : Callable Try.prog 11:=⟨_,_,Try.func11,by decide,rfl⟩
theorem cb13 : Callable Try.prog 13:=⟨_,_,Try.func13,by decide,rfl⟩
theorem cb14 : Callable Try.prog 14:=⟨_,_,Try.func14,by decide,rfl⟩
theorem cb15 : Callable Try.prog 15:=⟨_,_,Try.func15,by decide,rfl⟩
theorem cb16 : Callable Try.prog 16:=⟨_,_,Try.func16,by decide,rfl⟩
theorem cb17 : Callable Try.prog 17:=⟨_,_,Try.func17,by decide,rfl⟩
theorem cb18 : Callable Try.prog 18:=⟨_,_,Try.func18,by decide,rfl⟩
theorem cb19 : Callable Try.prog 19:=⟨_,_,Try.func19,by decide,rfl⟩
theorem cb20 : Callable Try.prog 20:=⟨_,_,Try.func20,by decide,rfl⟩
theorem cb21 : Callable Try.prog 21:=⟨_,_,Try.func21,by decide,rfl⟩
theorem cb22 : Callable Try.prog 22:=⟨_,_,Try.func22,by decide,rfl⟩
theorem cb23 : Callable Try.prog 23:=⟨_,_,Try.func23,by decide,rfl⟩
theorem cb42 : Callable Try.prog 42:=⟨_,_,Try.func42,by decide,rfl⟩
theorem cb43 : Callable Try.prog 43:=⟨_,_,Try.func43,by decide,rfl⟩
theorem cb44 : Callable Try.prog 44:=⟨_,_,Try.func44,by decide,rfl⟩
theorem cb46 : Callable Try.prog 46:=⟨_,_,Try.func46,by decide,rfl⟩
theorem cb47 : Callable Try.prog 47:=⟨_,_,Try.func47,by decide,rfl⟩
theorem cb48 : Callable Try.prog 48:=⟨_,_,Try.func48,by decide,rfl⟩
theorem cb49 : Callable Try.prog 49:=⟨_,_,Try.func49,by decide,rfl⟩
theorem cb52 : Callable Try.prog 52:=⟨_,_,Try.func52,by decide,rfl⟩
theorem cb53 : Callable Try.prog 53:=⟨_,_,Try.func53,by decide,rfl⟩
theorem cb54 : Callable Try.prog 54:=⟨_,_,Try.func54,by decide,rfl⟩
theorem cb55 : Callable Try.prog 55:=⟨_,_,Try.func55,by decide,rfl⟩
theorem cb56 : Callable Try.prog 56:=⟨_,_,Try.func56,by decide,rfl⟩
theorem cb57 : Callable Try.prog 57:=⟨_,_,Try.func57,by decide,rfl⟩
theorem cb58 : Callable Try.prog 58:=⟨_,_,Try.func58,by decide,rfl⟩
theorem cb59 : Callable Try.prog 59:=⟨_,_,Try.func59,by decide,rfl⟩
theorem cb60 : Callable Try.prog 60:=⟨_,_,Try.func60,by decide,rfl⟩
theorem cb61 : Callable Try.prog 61:=⟨_,_,Try.func61,by decide,rfl⟩
theorem cb62 : Callable Try.prog 62:=⟨_,_,Try.func62,by decide,rfl⟩
theorem cb82 : Callable Try.prog 82:=⟨_,_,Try.func82,by decide,rfl⟩
theorem cb95 : Callable Try.prog 95:=⟨_,_,Try.func95,by decide,rfl⟩
theorem cb96 : Callable Try.prog 96:=⟨_,_,Try.func96,by decide,rfl⟩
theorem cb97 : Callable Try.prog 97:=⟨_,_,Try.func97,by decide,rfl⟩
theorem cb98 : Callable Try.prog 98:=⟨_,_,Try.func98,by decide,rfl⟩
theorem cb99 : Callable Try.prog 99:=⟨_,_,Try.func99,by decide,rfl⟩
theorem cb100 : Callable Try.prog 100:=⟨_,_,Try.func100,by decide,rfl⟩
theorem cb101 : Callable Try.prog 101:=⟨_,_,Try.func101,by decide,rfl⟩
theorem cb102 : Callable Try.prog 102:=⟨_,_,Try.func102,by decide,rfl⟩
theorem cb103 : Callable Try.prog 103:=⟨_,_,Try.func103,by decide,rfl⟩
theorem cb104 : Callable Try.prog 104:=⟨_,_,Try.func104,by decide,rfl⟩
theorem cb105 : Callable Try.prog 105:=⟨_,_,Try.func105,by decide,rfl⟩
theorem cb106 : Callable Try.prog 106:=⟨_,_,Try.func106,by decide,rfl⟩
theorem cb107 : Callable Try.prog 107:=⟨_,_,Try.func107,by decide,rfl⟩
theorem cb108 : Callable Try.prog 108:=⟨_,_,Try.func108,by decide,rfl⟩
theorem cb109 : Callable Try.prog 109:=⟨_,_,Try.func109,by decide,rfl⟩
theorem cb110 : Callable Try.prog 110:=⟨_,_,Try.func110,by decide,rfl⟩
theorem KL : Callable Try.prog 139:=⟨_,_,Try.func139,by decide,rfl⟩
theorem cb140 : Callable Try.prog 140:=⟨_,_,Try.func140,by decide,rfl⟩
theorem cb141 : Callable Try.prog 141:=⟨_,_,Try.func141,by decide,rfl⟩
theorem cb145 : Callable Try.prog 145:=⟨_,_,Try.func145,by decide,rfl⟩
theorem cb146 : Callable Try.prog 146:=⟨_,_,Try.func146,by decide,rfl⟩
theorem cb147 : Callable Try.prog 147:=⟨_,_,Try.func147,by decide,rfl⟩
theorem cb148 : Callable Try.prog 148:=⟨_,_,Try.func148,by decide,rfl⟩
def Yl (p0 : (List UInt8)) (p1 : Int) : Option (Int) :=
 if (decide ((wr (p1 - (p0.length : Int))) < 0)) = true then (some (-1)) else (some (wr (p1 - (p0.length : Int))))
theorem Vr (w0 : World) (p0 : (List UInt8)) (v0_1 : Value) (hv0_1 : Ro w0 p0 [v0_1]) (p1 : Int) (r : Int) (hF : Yl p0 p1 = some r) :
  Calls Try.prog 42 [v0_1,vI p1].toArray w0 (fun en w'=>∃ v,en = .returned v ∧ (v = (vI r) ∧ Kept (Old w0) w0 w')):=by
 refine Zv (n:=12) Try.func42 rfl rfl (nbl rfl) rfl ?_
 intro a hE
 have hM:=M.start w0
 unfold Yl at hF
 refine Zb (Zc hE Za ld rfl fun a hE=>Zf (Zb (Zd hE Za ld rfl fun a hE=>Zd hE Za ld rfl fun a hE=>ZF hE Za ld rfl Try.underlying22 (hM.rd hv0_1) fun a hE=>Zh hE Za ld rfl rfl rfl fun a hE=>Zc hE Za ld rfl fun a hE=>Zf (wp_seq (Zb (Zd hE Za ld rfl fun a hE=>Zh hE Za ld rfl rfl rfl fun a hE=>Zf ?_))))))
 refine Zm hE rfl ?_ ?_
 ·intro hb1
  have hF:=Zr hF hb1
  refine Zb (Zc hE Za ld rfl fun a hE=>Zf ?_)
  have hr:=Option.some.inj hF
  subst hr
  exact wp_ret (Zj (Zl hE rfl (Zg hE rfl) ⟨_,rfl,rfl,hM.kept⟩))
 ·intro hb1
  have hF:=Zs hF hb1
  refine wp_skip (Zt (Zb (Zd hE Za ld rfl fun a hE=>Zc hE Za ld rfl fun a hE=>Zf ?_)))
  have hr:=Option.some.inj hF
  subst hr
  exact wp_ret (Zl hE rfl (Zg hE rfl) ⟨_,rfl,rfl,hM.kept⟩)
def Xo (p0 : GShare) (p1 : Int) : Option (Int) :=
 (Yl p0.Data p1).bind fun r3=>if (decide (r3 < 0)) = true then (some (-1)) else (some r3)
theorem Ts (w0 : World) (p0 : GShare) (v0_1 : Value) (hv0_1 : Ro w0 p0.Data [v0_1]) (p1 : Int) (r : Int) (hF : Xo p0 p1 = some r) :
  Calls Try.prog 55 [(Value.agg (cat [[vB p0.Place],[v0_1]]).toArray),vI p1].toArray w0 (fun en w'=>∃ v,en = .returned v ∧ (v = (vI r) ∧ Kept (Old w0) w0 w')):=by
 refine Zv (n:=12) Try.func55 rfl rfl (nbl rfl) rfl ?_
 intro a hE
 have hM:=M.start w0
 unfold Xo at hF
 refine Zb (VK (cs:=cat [[vB p0.Place],[v0_1]]) hE hM Za ld rfl rfl fun b1 w a hM hE=>Zc hE Za ld rfl fun a hE=>Zf (Zb (Zn hE Za ld rfl (KK) fun a hE=>Zy (v:=v0_1) hE Za ld rfl Yv rfl (At.cat (pre:=[[vB p0.Place]]) (hM.rawAt (pre:=[])) (cl1 (n:=1) (m:=0) rfl cl0)) fun a hE=>Zd hE Za ld rfl ?_))); intro a hE
 obtain ⟨r3,e4,hF⟩:=bind_some hF
 refine Zu hE Za ld rfl cb42 (Vr _ p0.Data v0_1 (hM.rdo hv0_1) p1 r3 e4) ?_
 rintro v w a ⟨rfl,hK⟩ hE
 have hM:=hM.keep hK
 refine Zc hE Za ld rfl fun a hE=>Zf (wp_seq (Zb (Zd hE Za ld rfl fun a hE=>Zh hE Za ld rfl rfl rfl fun a hE=>Zf ?_)))
 refine Zm hE rfl ?_ ?_
 ·intro hb5
  have hF:=Zr hF hb5
  refine Zb (Zc hE Za ld rfl fun a hE=>Zf ?_)
  have hr:=Option.some.inj hF
  subst hr
  have hM:=M.fst (l:=[]) hM
  exact wp_ret (Zj (Zl hE rfl (Zg hE rfl) ⟨_,rfl,rfl,hM.kept⟩))
 ·intro hb5
  have hF:=Zs hF hb5
  refine wp_skip (Zt (Zb (Zd hE Za ld rfl fun a hE=>Zc hE Za ld rfl fun a hE=>Zf ?_)))
  have hr:=Option.some.inj hF
  subst hr
  have hM:=M.fst (l:=[]) hM
  exact wp_ret (Zl hE rfl (Zg hE rfl) ⟨_,rfl,rfl,hM.kept⟩)
def X0 (p0 : (List GShare)) (s6 : Int × Int) : Option (Fl (Int × Int) (Fl Int Int)) :=
 if (decide (s6.2 < (p0.length : Int))) = true then ((idx p0 s6.2).bind fun x11=>(Xo x11 s6.1).bind fun r19=>if (decide (r19 < 0)) = true then (some (Fl.ex (Fl.ex (-1)))) else (some (Fl.nx (r19,wr (s6.2 + 1))))) else (some (Fl.ex (Fl.nx s6.1)))
def YZ (p0 : (List GShare)) (p1 : Int) : Option (Int) :=
 if (decide ((wr (p1 - (p0.length : Int))) < 0)) = true then (some (-1)) else ((ZB (X0 p0) (wr (p1 - (p0.length : Int)),0)).bind fun j2=>j2.el (fun s5=>some s5) (fun r=>some r))
theorem UK (w0 : World) (p0 : (List GShare)) (v0_1 : Value) (hv0_1 : Ro w0 p0 [v0_1]) (p1 : Int) (r : Int) (hF : YZ p0 p1 = some r) :
  Calls Try.prog 20 [v0_1,vI p1].toArray w0 (fun en w'=>∃ v,en = .returned v ∧ (v = (vI r) ∧ Kept (Old w0) w0 w')):=by
 refine Zv (n:=27) Try.func20 rfl rfl (nbl rfl) rfl ?_
 intro a hE
 have hM:=M.start w0
 unfold YZ at hF
 refine Zb (Zc hE Za ld rfl fun a hE=>Zf (Zb (Zd hE Za ld rfl fun a hE=>Zd hE Za ld rfl fun a hE=>ZF hE Za ld rfl Try.underlying36 (hM.rd hv0_1) fun a hE=>Zh hE Za ld rfl rfl rfl fun a hE=>Zc hE Za ld rfl fun a hE=>Zf (wp_seq (Zb (Zd hE Za ld rfl fun a hE=>Zh hE Za ld rfl rfl rfl fun a hE=>Zf ?_))))))
 refine Zm hE rfl ?_ ?_
 ·intro hb1
  have hF:=Zr hF hb1
  refine Zb (Zc hE Za ld rfl fun a hE=>Zf ?_)
  have hr:=Option.some.inj hF
  subst hr
  exact wp_ret (Zj (Zl hE rfl (Zg hE rfl) ⟨_,rfl,rfl,hM.kept⟩))
 ·intro hb1
  have hF:=Zs hF hb1
  refine wp_skip (Zt (wp_seq (Zb (Zc hE Za ld rfl fun a hE=>Zf ?_))))
  obtain ⟨j2,hl3,hF4⟩:=bind_some hF
  refine ZS (fun a w=>∃ s5 : Int,j2 = Fl.nx s5 ∧ Env 27 a [(1,vI s5)] ∧ M (Old w0) w0 w []) ?_ ?_
  ·skip
   refine wp_block ?_
   refine ZG (fun (s6 : Int × Int) a w=>Env 27 a [(0,v0_1),(1,vI s6.1),(5,vI s6.2)] ∧ M (Old w0) w0 w []) hl3 ⟨hE.sub ⟨rfl,rfl,rfl,trivial⟩,hM⟩ ?_
   rintro s6 a w ⟨hE,hM⟩ o9 hs7 hx8
   unfold X0 at hs7
   refine wp_seq (Zb (Zd hE Za ld rfl fun a hE=>Zd hE Za ld rfl fun a hE=>ZF hE Za ld rfl Try.underlying36 (hM.rd hv0_1) fun a hE=>Zh hE Za ld rfl rfl rfl fun a hE=>Zf ?_))
   refine Zm hE rfl ?_ ?_
   ·intro hb10
    have hs7:=Zr hs7 hb10
    refine wp_skip (Zt (wp_seq (wp_block (Zb (Zd hE Za ld rfl fun a hE=>Zd hE Za ld rfl ?_))))); intro a hE
    obtain ⟨x11,hi13,hs7⟩:=bix hs7
    refine Zo hE Za ld rfl rfl Try.underlying36 ty88 (hM.rd hv0_1) hi13.1 ?_; intro a hE
    obtain ⟨cs14,hs15,hA16⟩:=ZM hv0_1 hi13.2 -- ^
    obtain ⟨u17,rfl,h18⟩:=ZJ hs15 -- ^
    refine XY (cs:=cat [[vB x11.Place],[u17]]) hE Za ld rfl ty88 rfl (hM.atk hA16 (ZY hv0_1 hi13.2)) (ZC (cl1 (n:=1) (m:=1) rfl (cl1 (n:=1) (m:=0) rfl cl0))) fun a hE=>Zd hE Za ld rfl ?_; intro a hE
    obtain ⟨r19,e20,hs7⟩:=bind_some hs7
    refine Zu hE Za ld rfl cb55 (Ts _ x11 u17 (hM.rdo h18) s6.1 r19 e20) ?_
    rintro v w a ⟨rfl,hK⟩ hE
    have hM:=hM.keep hK
    refine Zc hE Za ld rfl fun a hE=>Zf (Zb (Zd hE Za ld rfl fun a hE=>Zh hE Za ld rfl rfl rfl fun a hE=>Zf ?_))
    refine Zm hE rfl ?_ ?_
    ·intro hb21
     have hs7:=Zr hs7 hb21
     refine Zb (Zc hE Za ld rfl fun a hE=>Zf ?_)
     have ht22:=hx8 _ (ois hs7)
     subst ht22
     have hr:=Option.some.inj hF4
     subst hr
     exact wp_ret (Z5 (Zj (Zj (Z5 (Zj (Zj (Zl hE rfl (Zg hE rfl) ⟨_,rfl,rfl,hM.kept⟩)))))))
    ·intro hb21
     have hs7:=Zs hs7 hb21
     refine wp_skip (Y0 (Zt (wp_region_lit (Zd hE Za ld rfl fun a hE=>Zh hE Za ld rfl rfl rfl fun a hE=>Zc hE Za ld rfl fun a hE=>Zi (Zk ?_)))))
     exact ⟨_,(ois hs7),hE.sub ⟨rfl,rfl,rfl,trivial⟩,hM⟩
   ·intro hb10
    have hs7:=Zs hs7 hb10
    refine wp_exit (Zp (Zp (Y7 ?_)))
    have ht23:=hx8 _ (ois hs7)
    subst ht23
    refine Zk ?_
    exact ⟨s6.1,rfl,hE.sub ⟨rfl,trivial⟩,hM⟩
  ·skip
   rintro a w ⟨s5,ht,hE,hM⟩
   subst ht
   have hF4:=Wk hF4
   refine Zt (Zb (Zd hE Za ld rfl fun a hE=>Zc hE Za ld rfl fun a hE=>Zf ?_))
   have hr:=Option.some.inj hF4
   subst hr
   exact wp_ret (Zl hE rfl (Zg hE rfl) ⟨_,rfl,rfl,hM.kept⟩)
def XX (p0 : (List (List UInt8))) (s6 : Int × Int) : Option (Fl (Int × Int) (Fl Int Int)) :=
 if (decide (s6.2 < (p0.length : Int))) = true then ((idx p0 s6.2).bind fun x11=>(Yl x11 s6.1).bind fun r19=>if (decide (r19 < 0)) = true then (some (Fl.ex (Fl.ex (-1)))) else (some (Fl.nx (r19,wr (s6.2 + 1))))) else (some (Fl.ex (Fl.nx s6.1)))
def YR (p0 : (List (List UInt8))) (p1 : Int) : Option (Int) :=
 if (decide ((wr (p1 - (p0.length : Int))) < 0)) = true then (some (-1)) else ((ZB (XX p0) (wr (p1 - (p0.length : Int)),0)).bind fun j2=>j2.el (fun s5=>some s5) (fun r=>some r))
theorem UM (w0 : World) (p0 : (List (List UInt8))) (v0_1 : Value) (hv0_1 : Ro w0 p0 [v0_1]) (p1 : Int) (r : Int) (hF : YR p0 p1 = some r) :
  Calls Try.prog 8 [v0_1,vI p1].toArray w0 (fun en w'=>∃ v,en = .returned v ∧ (v = (vI r) ∧ Kept (Old w0) w0 w')):=by
 refine Zv (n:=27) Try.func8 rfl rfl (nbl rfl) rfl ?_
 intro a hE
 have hM:=M.start w0
 unfold YR at hF
 refine Zb (Zc hE Za ld rfl fun a hE=>Zf (Zb (Zd hE Za ld rfl fun a hE=>Zd hE Za ld rfl fun a hE=>ZF hE Za ld rfl Try.underlying23 (hM.rd hv0_1) fun a hE=>Zh hE Za ld rfl rfl rfl fun a hE=>Zc hE Za ld rfl fun a hE=>Zf (wp_seq (Zb (Zd hE Za ld rfl fun a hE=>Zh hE Za ld rfl rfl rfl fun a hE=>Zf ?_))))))
 refine Zm hE rfl ?_ ?_
 ·intro hb1
  have hF:=Zr hF hb1
  refine Zb (Zc hE Za ld rfl fun a hE=>Zf ?_)
  have hr:=Option.some.inj hF
  subst hr
  exact wp_ret (Zj (Zl hE rfl (Zg hE rfl) ⟨_,rfl,rfl,hM.kept⟩))
 ·intro hb1
  have hF:=Zs hF hb1
  refine wp_skip (Zt (wp_seq (Zb (Zc hE Za ld rfl fun a hE=>Zf ?_))))
  obtain ⟨j2,hl3,hF4⟩:=bind_some hF
  refine ZS (fun a w=>∃ s5 : Int,j2 = Fl.nx s5 ∧ Env 27 a [(1,vI s5)] ∧ M (Old w0) w0 w []) ?_ ?_
  ·skip
   refine wp_block ?_
   refine ZG (fun (s6 : Int × Int) a w=>Env 27 a [(0,v0_1),(1,vI s6.1),(5,vI s6.2)] ∧ M (Old w0) w0 w []) hl3 ⟨hE.sub ⟨rfl,rfl,rfl,trivial⟩,hM⟩ ?_
   rintro s6 a w ⟨hE,hM⟩ o9 hs7 hx8
   unfold XX at hs7
   refine wp_seq (Zb (Zd hE Za ld rfl fun a hE=>Zd hE Za ld rfl fun a hE=>ZF hE Za ld rfl Try.underlying23 (hM.rd hv0_1) fun a hE=>Zh hE Za ld rfl rfl rfl fun a hE=>Zf ?_))
   refine Zm hE rfl ?_ ?_
   ·intro hb10
    have hs7:=Zr hs7 hb10
    refine wp_skip (Zt (wp_seq (wp_block (Zb (Zd hE Za ld rfl fun a hE=>Zd hE Za ld rfl ?_))))); intro a hE
    obtain ⟨x11,hi13,hs7⟩:=bix hs7
    refine Zo hE Za ld rfl rfl Try.underlying23 Yv (hM.rd hv0_1) hi13.1 ?_; intro a hE
    obtain ⟨cs14,hs15,hA16⟩:=ZM hv0_1 hi13.2 -- ^
    obtain ⟨u17,rfl⟩:=WG hs15 -- ^
    have h18:=hs15 -- ^
    refine Zy (v:=u17) hE Za ld rfl Yv rfl (hM.atk hA16 (ZY hv0_1 hi13.2)) fun a hE=>Zd hE Za ld rfl ?_; intro a hE
    obtain ⟨r19,e20,hs7⟩:=bind_some hs7
    refine Zu hE Za ld rfl cb42 (Vr _ x11 u17 (hM.rdo h18) s6.1 r19 e20) ?_
    rintro v w a ⟨rfl,hK⟩ hE
    have hM:=hM.keep hK
    refine Zc hE Za ld rfl fun a hE=>Zf (Zb (Zd hE Za ld rfl fun a hE=>Zh hE Za ld rfl rfl rfl fun a hE=>Zf ?_))
    refine Zm hE rfl ?_ ?_
    ·intro hb21
     have hs7:=Zr hs7 hb21
     refine Zb (Zc hE Za ld rfl fun a hE=>Zf ?_)
     have ht22:=hx8 _ (ois hs7)
     subst ht22
     have hr:=Option.some.inj hF4
     subst hr
     exact wp_ret (Z5 (Zj (Zj (Z5 (Zj (Zj (Zl hE rfl (Zg hE rfl) ⟨_,rfl,rfl,hM.kept⟩)))))))
    ·intro hb21
     have hs7:=Zs hs7 hb21
     refine wp_skip (Y0 (Zt (wp_region_lit (Zd hE Za ld rfl fun a hE=>Zh hE Za ld rfl rfl rfl fun a hE=>Zc hE Za ld rfl fun a hE=>Zi (Zk ?_)))))
     exact ⟨_,(ois hs7),hE.sub ⟨rfl,rfl,rfl,trivial⟩,hM⟩
   ·intro hb10
    have hs7:=Zs hs7 hb10
    refine wp_exit (Zp (Zp (Y7 ?_)))
    have ht23:=hx8 _ (ois hs7)
    subst ht23
    refine Zk ?_
    exact ⟨s6.1,rfl,hE.sub ⟨rfl,trivial⟩,hM⟩
  ·skip
   rintro a w ⟨s5,ht,hE,hM⟩
   subst ht
   have hF4:=Wk hF4
   refine Zt (Zb (Zd hE Za ld rfl fun a hE=>Zc hE Za ld rfl fun a hE=>Zf ?_))
   have hr:=Option.some.inj hF4
   subst hr
   exact wp_ret (Zl hE rfl (Zg hE rfl) ⟨_,rfl,rfl,hM.kept⟩)
def X6 (p0 : (List UInt8)) (s10 : (List UInt8) × Int) : Option (Fl ((List UInt8) × Int) (List UInt8)) :=
 if (decide (s10.2 < (p0.length : Int))) = true then ((idx p0 s10.2).bind fun x17=>(idx s10.1 s10.2).bind fun x20=>some (Fl.nx ((s10.1.set (s10.2).toNat x17),wr (s10.2 + 1)))) else (some (Fl.ex s10.1))
def YN (p0 : (List UInt8)) : Option ((List UInt8)) :=
 (mkS 1 (0 : UInt8) (p0.length : Int)).bind fun l1=>(ZB (X6 p0) (l1,0)).bind fun j5=>some j5
theorem Vt (w0 : World) (p0 : (List UInt8)) (v0_1 : Value) (hv0_1 : Ro w0 p0 [v0_1]) (r : (List UInt8)) (hF : YN p0 = some r) :
  Calls Try.prog 10 [v0_1].toArray w0 (fun en w'=>∃ v,en = .returned v ∧ (∃ (y1 : Value),v = y1 ∧ Fr w0 w' [osl NoB (r : List UInt8) y1] ∧ Kept (Old w0) w0 w')):=by
 refine Zv (n:=22) Try.func10 rfl rfl (nbl rfl) rfl ?_
 intro a hE
 have hM:=M.start w0
 unfold YN at hF
 refine Zb (Zc hE Za ld rfl fun a hE=>Zf (Zb (Zd hE Za ld rfl fun a hE=>ZF hE Za ld rfl Try.underlying22 (hM.rd hv0_1) ?_))); intro a hE
 obtain ⟨l1,e2,hF⟩:=bind_some hF
 refine Tv hE hM Za ld rfl rfl Try.underlying22 ty5 rfl (by decide) (fun _=>Tg.2 ⟨rfl,rfl⟩) e2 fun u3 w a hM hE=>Zc hE Za ld rfl fun a hE=>Zf (wp_seq (Zb (Zc hE Za ld rfl fun a hE=>Zf ?_)))
 obtain ⟨j5,hl6,hF7⟩:=bind_some hF
 refine ZS (fun a w=>∃ (u8 : Value),Env 22 a [(3,u8)] ∧ M (Old w0) w0 w [osl NoB (j5 : List UInt8) u8]) ?_ ?_
 ·skip
  refine wp_block ?_
  refine ZG (fun (s10 : (List UInt8) × Int) a w=>∃ (u11 : Value),Env 22 a [(0,v0_1),(3,u11),(4,vI s10.2)] ∧ M (Old w0) w0 w [osl NoB (s10.1 : List UInt8) u11]) hl6 ⟨u3,hE.sub ⟨rfl,rfl,rfl,trivial⟩,hM⟩ ?_
  rintro s10 a w ⟨u11,hE,hM⟩ o15 hs13 hx14
  unfold X6 at hs13
  refine wp_seq (Zb (Zd hE Za ld rfl fun a hE=>Zd hE Za ld rfl fun a hE=>ZF hE Za ld rfl Try.underlying22 (hM.rd hv0_1) fun a hE=>Zh hE Za ld rfl rfl rfl fun a hE=>Zf ?_))
  refine Zm hE rfl ?_ ?_
  ·intro hb16
   have hs13:=Zr hs13 hb16
   refine wp_skip (Zt (wp_seq (wp_block (wp_region_lit (Zd hE Za ld rfl fun a hE=>Zd hE Za ld rfl fun a hE=>Zd hE Za ld rfl fun a hE=>Zd hE Za ld rfl ?_))))); intro a hE
   obtain ⟨x17,hi19,hs13⟩:=bix hs13
   refine Zo hE Za ld rfl rfl Try.underlying22 ty5 (hM.rd hv0_1) hi19.1 fun a hE=>Zy (v:=(vB x17)) hE Za ld rfl ty5 rfl (Xr (hM.rd hv0_1) hi19.2) ?_; intro a hE
   obtain ⟨x20,hi22,hs13⟩:=bix hs13
   refine Zo hE Za ld rfl rfl Try.underlying22 ty5 (hM.sl (pre:=[]) noB) hi22.1 fun a hE=>Tx (i:=(s10.2).toNat) (k0:=0) (seg:=[vB x17]) (xo:=x20) (xn:=x17) hE hM Za rfl rfl rfl ty5 rfl (Flat.cell (x17 : UInt8)) hi22.2 (UT (m:=1) rfl (by decide)) (Y8 rfl) fun w a hM hE=>Zi (Y0 (Zt (wp_region_lit (Zd hE Za ld rfl fun a hE=>Zh hE Za ld rfl rfl rfl fun a hE=>Zc hE Za ld rfl fun a hE=>Zi (Zk ?_)))))
   exact ⟨_,(ois hs13),u11,hE.sub ⟨rfl,rfl,rfl,trivial⟩,hM⟩
  ·intro hb16
   have hs13:=Zs hs13 hb16
   refine wp_exit (Zp (Zp (Y7 ?_)))
   have ht23:=hx14 _ (ois hs13)
   subst ht23
   refine Zk ?_
   exact ⟨u11,hE.sub ⟨rfl,trivial⟩,hM⟩
 ·skip
  rintro a w ⟨u8,hE,hM⟩
  refine Zt (Zb (Zd hE Za ld rfl fun a hE=>Zc hE Za ld rfl fun a hE=>Zf ?_))
  have hr:=Option.some.inj hF7
  subst hr
  exact wp_ret (Zl hE rfl (Zg hE rfl) ⟨_,rfl,u8,rfl,hM.outF (Wr Ws),hM.kept⟩)
def Xi (p0 : GShare) : Option (GShare) :=
 (YN p0.Data).bind fun r7=>some (⟨p0.Place,r7⟩ : GShare)
theorem Tk (w0 : World) (p0 : GShare) (v0_1 : Value) (hv0_1 : Ro w0 p0.Data [v0_1]) (r : GShare) (hF : Xi p0 = some r) :
  Calls Try.prog 59 [(Value.agg (cat [[vB p0.Place],[v0_1]]).toArray)].toArray w0 (fun en w'=>∃ v,en = .returned v ∧ (∃ (y1 : Value),v = (Value.agg (cat [[vB r.Place],[y1]]).toArray) ∧ Fr w0 w' [osl NoB (r.Data : List UInt8) y1] ∧ Kept (Old w0) w0 w')):=by
 refine Zv (n:=12) Try.func59 rfl rfl (nbl rfl) rfl ?_
 intro a hE
 have hM:=M.start w0
 unfold Xi at hF
 refine Zb (VK (cs:=cat [[vB p0.Place],[v0_1]]) hE hM Za ld rfl rfl fun b1 w a hM hE=>Vb hE hM Za ld ZR fun b3 w a hM hE=>Zf (Zb (Vb hE hM Za ld ZR fun b5 w a hM hE=>Zf (Zb (Zn hE Za ld rfl (fd88_0) fun a hE=>Zy (v:=(vB p0.Place)) hE Za ld rfl ty5 rfl (At.cat (pre:=[]) (hM.rawAt (pre:=[_,_])) cl0) fun a hE=>Zn hE Za ld rfl (Wx) fun a hE=>We (seg:=[vB p0.Place]) hE hM Za rfl rfl rfl ty5 rfl (VE (pre:=[]) cl0 rfl) (Flat.cell (p0.Place : UInt8)) (Wb (pre:=[]) cl0 rfl) fun w a hM hE=>Zf (Zb (Zn hE Za ld rfl (KK) fun a hE=>Zy (v:=v0_1) hE Za ld rfl Yv rfl (At.cat (pre:=[[vB p0.Place]]) (hM.rawAt (pre:=[_,_])) (cl1 (n:=1) (m:=0) rfl cl0)) ?_))))))); intro a hE
 obtain ⟨r7,e8,hF⟩:=bind_some hF
 refine Zu hE Za ld rfl cb10 (Vt _ p0.Data v0_1 (hM.rdo hv0_1) r7 e8) ?_
 rintro u9 w a ⟨_,rfl,hFr,hK⟩ hE
 have hM:=hM.add hK hFr
 refine Zn hE Za ld rfl (Yr) ?_; intro a hE
 have hM:=hM.pull (pre:=[_])
 refine We (seg:=[u9]) hE hM Za rfl rfl (WN (hM.sl (pre:=[_]) noB)) Yv rfl (VE (pre:=[[vB p0.Place]]) (cl1 (n:=1) (m:=0) rfl cl0) rfl) (Rep.cell (hM.sl (pre:=[_]) noB)) (Wb (pre:=[[vB p0.Place]]) (cl1 (n:=1) (m:=0) rfl cl0) rfl) fun w a hM hE=>Zf (Zb (XY (cs:=cat [[vB p0.Place],[u9]]) hE Za ld rfl ZR rfl (hM.rawAt (pre:=[])) (ZC (cl1 (n:=1) (m:=1) rfl (cl1 (n:=1) (m:=0) rfl cl0))) ?_)); intro a hE
 have hM:=hM.pull (pre:=[_,_])
 refine We (seg:=cat [[vB p0.Place],[u9]]) (cs':=cat [[vB p0.Place],[u9]]) hE hM Za rfl rfl rfl ZR (ZC (cl1 (n:=1) (m:=1) rfl (cl1 (n:=1) (m:=0) rfl cl0))) (Nat.le_of_eq ((Nat.zero_add _).trans (Eq.trans (ZC (cl1 (n:=1) (m:=1) rfl (cl1 (n:=1) (m:=0) rfl cl0))) (Eq.symm (ZC (cl1 (n:=1) (m:=1) rfl (cl1 (n:=1) (m:=0) rfl cl0))))))) (Va (cc1 (Flat.cell (p0.Place : UInt8)) (cc1 (Rep.cell (hM.sl (pre:=[_,_]) noB)) cc0))) (Y8 (Eq.trans (ZC (cl1 (n:=1) (m:=1) rfl (cl1 (n:=1) (m:=0) rfl cl0))) (Eq.symm (ZC (cl1 (n:=1) (m:=1) rfl (cl1 (n:=1) (m:=0) rfl cl0)))))) fun w a hM hE=>Zf ?_
 have hr:=Option.some.inj hF
 subst hr
 have hq10 : UE Try.prog _ _ (.cell 2 86) _:=KX hE rfl ZR rfl (hM.rawAt (pre:=[])) (ZC (cl1 (n:=1) (m:=1) rfl (cl1 (n:=1) (m:=0) rfl cl0))) rfl
 have hM:=M.fst (l:=[_]) (hM.pull (pre:=[_,_]))
 exact wp_ret (Zl hE rfl hq10 ⟨_,rfl,u9,rfl,hM.outF (Wr Ws),hM.kept⟩)
def X1 (p0 : (List GShare)) (s10 : (List GShare) × Int) : Option (Fl ((List GShare) × Int) (List GShare)) :=
 if (decide (s10.2 < (p0.length : Int))) = true then ((idx p0 s10.2).bind fun x17=>(Xi x17).bind fun r25=>(idx s10.1 s10.2).bind fun x28=>some (Fl.nx ((s10.1.set (s10.2).toNat r25),wr (s10.2 + 1)))) else (some (Fl.ex s10.1))
def Yb (p0 : (List GShare)) : Option ((List GShare)) :=
 (mkS 32 (⟨(0 : UInt8),([] : (List UInt8))⟩ : GShare) (p0.length : Int)).bind fun l1=>(ZB (X1 p0) (l1,0)).bind fun j5=>some j5
theorem X8 (w0 : World) (p0 : (List GShare)) (v0_1 : Value) (hv0_1 : Ro w0 p0 [v0_1]) (r : (List GShare)) (hF : Yb p0 = some r) :
  Calls Try.prog 22 [v0_1].toArray w0 (fun en w'=>∃ v,en = .returned v ∧ (∃ (y1 : Value),v = y1 ∧ Fr w0 w' [osl NoB (r : List GShare) y1] ∧ Kept (Old w0) w0 w')):=by
 refine Zv (n:=23) Try.func22 rfl rfl (nbl rfl) rfl ?_
 intro a hE
 have hM:=M.start w0
 unfold Yb at hF
 refine Zb (Zc hE Za ld rfl fun a hE=>Zf (Zb (Zd hE Za ld rfl fun a hE=>ZF hE Za ld rfl Try.underlying36 (hM.rd hv0_1) ?_))); intro a hE
 obtain ⟨l1,e2,hF⟩:=bind_some hF
 refine Tv hE hM Za ld rfl rfl Try.underlying25 ZR rfl (by decide) Qx e2 fun u3 w a hM hE=>Zc hE Za ld rfl fun a hE=>Zf (wp_seq (Zb (Zc hE Za ld rfl fun a hE=>Zf ?_)))
 obtain ⟨j5,hl6,hF7⟩:=bind_some hF
 refine ZS (fun a w=>∃ (u8 : Value),Env 23 a [(3,u8)] ∧ M (Old w0) w0 w [osl NoB (j5 : List GShare) u8]) ?_ ?_
 ·skip
  refine wp_block ?_
  refine ZG (fun (s10 : (List GShare) × Int) a w=>∃ (u11 : Value),Env 23 a [(0,v0_1),(3,u11),(4,vI s10.2)] ∧ M (Old w0) w0 w [osl NoB (s10.1 : List GShare) u11]) hl6 ⟨u3,hE.sub ⟨rfl,rfl,rfl,trivial⟩,hM⟩ ?_
  rintro s10 a w ⟨u11,hE,hM⟩ o15 hs13 hx14
  unfold X1 at hs13
  refine wp_seq (Zb (Zd hE Za ld rfl fun a hE=>Zd hE Za ld rfl fun a hE=>ZF hE Za ld rfl Try.underlying36 (hM.rd hv0_1) fun a hE=>Zh hE Za ld rfl rfl rfl fun a hE=>Zf ?_))
  refine Zm hE rfl ?_ ?_
  ·intro hb16
   have hs13:=Zr hs13 hb16
   refine wp_skip (Zt (wp_seq (wp_block (wp_region_lit (Zd hE Za ld rfl fun a hE=>Zd hE Za ld rfl fun a hE=>Zd hE Za ld rfl fun a hE=>Zd hE Za ld rfl ?_))))); intro a hE
   obtain ⟨x17,hi19,hs13⟩:=bix hs13
   refine Zo hE Za ld rfl rfl Try.underlying36 ty88 (hM.rd hv0_1) hi19.1 ?_; intro a hE
   obtain ⟨cs20,hs21,hA22⟩:=ZM hv0_1 hi19.2 -- ^
   obtain ⟨u23,rfl,h24⟩:=ZJ hs21 -- ^
   refine XY (cs:=cat [[vB x17.Place],[u23]]) hE Za ld rfl ty88 rfl (hM.atk hA22 (ZY hv0_1 hi19.2)) (ZC (cl1 (n:=1) (m:=1) rfl (cl1 (n:=1) (m:=0) rfl cl0))) ?_; intro a hE
   obtain ⟨r25,e26,hs13⟩:=bind_some hs13
   refine Zu hE Za ld rfl cb59 (Tk _ x17 u23 (hM.rdo h24) r25 e26) ?_
   rintro v w a ⟨u27,rfl,hFr,hK⟩ hE
   have hM:=hM.add hK hFr
   obtain ⟨x28,hi30,hs13⟩:=bix hs13
   refine Zo hE Za ld rfl rfl Try.underlying25 ZR (hM.sl (pre:=[_]) noB) hi30.1 ?_; intro a hE
   have hM:=((hM.pack1 (it:=own NoB r25 (cat [[vB r25.Place],[u27]])) (Wq noB) (fun f0 q0=>(Wc (Yx.sat q0) (by simp)))).pull (pre:=[_])).pull (pre:=[_])
   refine Qm (i:=(s10.2).toNat) (seg:=cat [[vB r25.Place],[u27]]) hE hM noB Za rfl rfl rfl ZR (by omega) fun w a hM hE=>Zi (Y0 (Zt (wp_region_lit (Zd hE Za ld rfl fun a hE=>Zh hE Za ld rfl rfl rfl fun a hE=>Zc hE Za ld rfl fun a hE=>Zi (Zk ?_)))))
   exact ⟨_,(ois hs13),u11,hE.sub ⟨rfl,rfl,rfl,trivial⟩,hM⟩
  ·intro hb16
   have hs13:=Zs hs13 hb16
   refine wp_exit (Zp (Zp (Y7 ?_)))
   have ht31:=hx14 _ (ois hs13)
   subst ht31
   refine Zk ?_
   exact ⟨u11,hE.sub ⟨rfl,trivial⟩,hM⟩
 ·skip
  rintro a w ⟨u8,hE,hM⟩
  refine Zt (Zb (Zd hE Za ld rfl fun a hE=>Zc hE Za ld rfl fun a hE=>Zf ?_))
  have hr:=Option.some.inj hF7
  subst hr
  exact wp_ret (Zl hE rfl (Zg hE rfl) ⟨_,rfl,u8,rfl,hM.outF (Wr Ws),hM.kept⟩)
def XU (p0 : (List (List UInt8))) (s10 : (List (List UInt8)) × Int) : Option (Fl ((List (List UInt8)) × Int) (List (List UInt8))) :=
 if (decide (s10.2 < (p0.length : Int))) = true then ((idx p0 s10.2).bind fun x17=>(YN x17).bind fun r25=>(idx s10.1 s10.2).bind fun x28=>some (Fl.nx ((s10.1.set (s10.2).toNat r25),wr (s10.2 + 1)))) else (some (Fl.ex s10.1))
def Yc (p0 : (List (List UInt8))) : Option ((List (List UInt8))) :=
 (mkS 24 ([] : (List UInt8)) (p0.length : Int)).bind fun l1=>(ZB (XU p0) (l1,0)).bind fun j5=>some j5
theorem X7 (w0 : World) (p0 : (List (List UInt8))) (v0_1 : Value) (hv0_1 : Ro w0 p0 [v0_1]) (r : (List (List UInt8))) (hF : Yc p0 = some r) :
  Calls Try.prog 11 [v0_1].toArray w0 (fun en w'=>∃ v,en = .returned v ∧ (∃ (y1 : Value),v = y1 ∧ Fr w0 w' [osl NoB (r : List (List UInt8)) y1] ∧ Kept (Old w0) w0 w')):=by
 refine Zv (n:=23) Try.func11 rfl rfl (nbl rfl) rfl ?_
 intro a hE
 have hM:=M.start w0
 unfold Yc at hF
 refine Zb (Zc hE Za ld rfl fun a hE=>Zf (Zb (Zd hE Za ld rfl fun a hE=>ZF hE Za ld rfl Try.underlying23 (hM.rd hv0_1) ?_))); intro a hE
 obtain ⟨l1,e2,hF⟩:=bind_some hF
 refine Tv hE hM Za ld rfl rfl Try.underlying23 Yv rfl (by decide) (fun _=>Qz) e2 fun u3 w a hM hE=>Zc hE Za ld rfl fun a hE=>Zf (wp_seq (Zb (Zc hE Za ld rfl fun a hE=>Zf ?_)))
 obtain ⟨j5,hl6,hF7⟩:=bind_some hF
 refine ZS (fun a w=>∃ (u8 : Value),Env 23 a [(3,u8)] ∧ M (Old w0) w0 w [osl NoB (j5 : List (List UInt8)) u8]) ?_ ?_
 ·skip
  refine wp_block ?_
  refine ZG (fun (s10 : (List (List UInt8)) × Int) a w=>∃ (u11 : Value),Env 23 a [(0,v0_1),(3,u11),(4,vI s10.2)] ∧ M (Old w0) w0 w [osl NoB (s10.1 : List (List UInt8)) u11]) hl6 ⟨u3,hE.sub ⟨rfl,rfl,rfl,trivial⟩,hM⟩ ?_
  rintro s10 a w ⟨u11,hE,hM⟩ o15 hs13 hx14
  unfold XU at hs13
  refine wp_seq (Zb (Zd hE Za ld rfl fun a hE=>Zd hE Za ld rfl fun a hE=>ZF hE Za ld rfl Try.underlying23 (hM.rd hv0_1) fun a hE=>Zh hE Za ld rfl rfl rfl fun a hE=>Zf ?_))
  refine Zm hE rfl ?_ ?_
  ·intro hb16
   have hs13:=Zr hs13 hb16
   refine wp_skip (Zt (wp_seq (wp_block (wp_region_lit (Zd hE Za ld rfl fun a hE=>Zd hE Za ld rfl fun a hE=>Zd hE Za ld rfl fun a hE=>Zd hE Za ld rfl ?_))))); intro a hE
   obtain ⟨x17,hi19,hs13⟩:=bix hs13
   refine Zo hE Za ld rfl rfl Try.underlying23 Yv (hM.rd hv0_1) hi19.1 ?_; intro a hE
   obtain ⟨cs20,hs21,hA22⟩:=ZM hv0_1 hi19.2 -- ^
   obtain ⟨u23,rfl⟩:=WG hs21 -- ^
   have h24:=hs21 -- ^
   refine Zy (v:=u23) hE Za ld rfl Yv rfl (hM.atk hA22 (ZY hv0_1 hi19.2)) ?_; intro a hE
   obtain ⟨r25,e26,hs13⟩:=bind_some hs13
   refine Zu hE Za ld rfl cb10 (Vt _ x17 u23 (hM.rdo h24) r25 e26) ?_
   rintro u27 w a ⟨_,rfl,hFr,hK⟩ hE
   have hM:=hM.add hK hFr
   obtain ⟨x28,hi30,hs13⟩:=bix hs13
   refine Zo hE Za ld rfl rfl Try.underlying23 Yv (hM.sl (pre:=[_]) noB) hi30.1 ?_; intro a hE
   have hc31:=WN (hM.sl (pre:=[]) noB)
   have hM:=((hM.pack1 (it:=own NoB r25 ([u27])) (Wq noB) (fun f0 q0=>(Yx.sat q0))).pull (pre:=[_])).pull (pre:=[_])
   refine Qm (i:=(s10.2).toNat) (seg:=[u27]) hE hM noB Za rfl rfl hc31 Yv (by omega) fun w a hM hE=>Zi (Y0 (Zt (wp_region_lit (Zd hE Za ld rfl fun a hE=>Zh hE Za ld rfl rfl rfl fun a hE=>Zc hE Za ld rfl fun a hE=>Zi (Zk ?_)))))
   exact ⟨_,(ois hs13),u11,hE.sub ⟨rfl,rfl,rfl,trivial⟩,hM⟩
  ·intro hb16
   have hs13:=Zs hs13 hb16
   refine wp_exit (Zp (Zp (Y7 ?_)))
   have ht32:=hx14 _ (ois hs13)
   subst ht32
   refine Zk ?_
   exact ⟨u11,hE.sub ⟨rfl,trivial⟩,hM⟩
 ·skip
  rintro a w ⟨u8,hE,hM⟩
  refine Zt (Zb (Zd hE Za ld rfl fun a hE=>Zc hE Za ld rfl fun a hE=>Zf ?_))
  have hr:=Option.some.inj hF7
  subst hr
  exact wp_ret (Zl hE rfl (Zg hE rfl) ⟨_,rfl,u8,rfl,hM.outF (Wr Ws),hM.kept⟩)
def XV (p0 : Int) (p1 : Int) (p2 : Int) : Option (Bool) :=
 (if (decide (p0 ≥ p1)) = true then (some (decide (p0 ≤ p2))) else (some false) : Option (Bool)).bind fun j1=>some j1
theorem V8 (w0 : World) (p0 : Int) (p1 : Int) (p2 : Int) (r : Bool) (hF : XV p0 p1 p2 = some r) :
  Calls Try.prog 82 [vI p0,vI p1,vI p2].toArray w0 (fun en w'=>∃ v,en = .returned v ∧ (v = (vT r) ∧ Kept (Old w0) w0 w')):=by
 refine Zv (n:=15) Try.func82 rfl rfl (nbl rfl) rfl ?_
 intro a hE
 have hM:=M.start w0
 unfold XV at hF
 refine Zb (Zc hE Za ld rfl fun a hE=>Zf ?_)
 obtain ⟨j1,hl2,hF3⟩:=bind_some hF
 refine Ye (fun a w=>Env 15 a [(6,vT j1)] ∧ M (Old w0) w0 w []) ?_ ?_
 ·skip
  refine wp_region_lit (Zd hE Za ld rfl fun a hE=>Zd hE Za ld rfl fun a hE=>Zh hE Za ld rfl rfl rfl fun a hE=>Zd hE Za ld rfl ?_); intro a hE
  refine X3 (decide (p0 ≥ p1)) (fun hb4=>?_) (fun hb4=>?_)
  ·have hl2:=Zr hl2 hb4
   refine Zd hE (Zq hE rfl (lkb rfl hb4)) (by decide) rfl fun a hE=>Zd hE (Zq hE rfl (lkb rfl hb4)) (by decide) rfl fun a hE=>Zh hE (Zq hE rfl (lkb rfl hb4)) (by decide) rfl rfl rfl fun a hE=>Yz hE Za ld (lkb rfl hb4) rfl fun a hE=>Zc hE Za ld rfl fun a hE=>Zi ?_
   have ht5:=Option.some.inj hl2
   subst ht5
   refine Zk ?_
   exact ⟨hE.sub ⟨rfl,trivial⟩,hM⟩
  ·have hl2:=Zs hl2 hb4
   refine Zx hE rfl (lkb rfl hb4) rfl (by decide) fun a hE=>Zx hE rfl (lkb rfl hb4) rfl (by decide) fun a hE=>Zx hE rfl (lkb rfl hb4) rfl (by decide) fun a hE=>Xc hE Za ld (lkb rfl hb4) rfl fun a hE=>Zc hE Za ld rfl fun a hE=>Zi ?_
   have ht6:=Option.some.inj hl2
   subst ht6
   refine Zk ?_
   exact ⟨hE.sub ⟨rfl,trivial⟩,hM⟩
 ·skip
  rintro a w ⟨hE,hM⟩
  have hr:=Option.some.inj hF3
  subst hr
  exact wp_ret (Zl hE rfl (Zg hE rfl) ⟨_,rfl,rfl,hM.kept⟩)
def ZV (s4 : Int × Int) : Option (Fl (Int × Int) Int) :=
 if (decide (s4.1 > 0)) = true then (some (Fl.nx (wr (Int.tdiv s4.1 2),wr (s4.2 + 1)))) else (some (Fl.ex s4.2))
def Yg (p0 : Int) : Option (Int) :=
 (ZB (ZV) (p0,0)).bind fun j1=>some j1
theorem Wo (w0 : World) (p0 : Int) (r : Int) (hF : Yg p0 = some r) :
  Calls Try.prog 139 [vI p0].toArray w0 (fun en w'=>∃ v,en = .returned v ∧ (v = (vI r) ∧ Kept (Old w0) w0 w')):=by
 refine Zv (n:=11) Try.func139 rfl rfl (nbl rfl) rfl ?_
 intro a hE
 have hM:=M.start w0
 unfold Yg at hF
 refine Zb (Zc hE Za ld rfl fun a hE=>Zf (Zb (Zc hE Za ld rfl fun a hE=>Zf ?_)))
 obtain ⟨j1,hl2,hF3⟩:=bind_some hF
 refine Ye (fun a w=>Env 11 a [(3,vI j1)] ∧ M (Old w0) w0 w []) ?_ ?_
 ·skip
  refine wp_block ?_
  refine ZG (fun (s4 : Int × Int) a w=>Env 11 a [(0,vI s4.1),(3,vI s4.2)] ∧ M (Old w0) w0 w []) hl2 ⟨hE.sub ⟨rfl,rfl,trivial⟩,hM⟩ ?_
  rintro s4 a w ⟨hE,hM⟩ o7 hs5 hx6
  unfold ZV at hs5
  refine wp_seq (Zb (Zd hE Za ld rfl fun a hE=>Zh hE Za ld rfl rfl rfl fun a hE=>Zf ?_))
  refine Zm hE rfl ?_ ?_
  ·intro hb8
   have hs5:=Zr hs5 hb8
   refine wp_skip (Zt (wp_seq (wp_block (wp_region_lit (Zd hE Za ld rfl fun a hE=>Zh hE Za ld rfl rfl rfl fun a hE=>Zc hE Za ld rfl fun a hE=>Zi (Y0 (Zt (wp_region_lit (Zd hE Za ld rfl fun a hE=>Zh hE Za ld rfl rfl (KH _ _ (by decide)) fun a hE=>Zc hE Za ld rfl fun a hE=>Zi (Zk ?_))))))))))
   exact ⟨_,(ois hs5),hE.sub ⟨rfl,rfl,trivial⟩,hM⟩
  ·intro hb8
   have hs5:=Zs hs5 hb8
   refine wp_exit (Zp (Zp (Y7 ?_)))
   have ht9:=hx6 _ (ois hs5)
   subst ht9
   refine Zk ?_
   exact ⟨hE.sub ⟨rfl,trivial⟩,hM⟩
 ·skip
  rintro a w ⟨hE,hM⟩
  refine Zb (Zd hE Za ld rfl fun a hE=>Zc hE Za ld rfl fun a hE=>Zf ?_)
  have hr:=Option.some.inj hF3
  subst hr
  exact wp_ret (Zl hE rfl (Zg hE rfl) ⟨_,rfl,rfl,hM.kept⟩)
def YS (p1 : Int) (r1 : Int) (s8 : Int × Int) : Option (Fl (Int × Int) Int) :=
 if (decide (s8.2 ≥ r1)) = true then ((Yi (IntKind.u64.wrap (wr (s8.2 - r1)))).bind fun _=>(Yg (Ug s8.1 (Vs p1 (IntKind.u64.wrap (wr (s8.2 - r1)))))).bind fun r14=>some (Fl.nx (Ug s8.1 (Vs p1 (IntKind.u64.wrap (wr (s8.2 - r1)))),r14))) else (some (Fl.ex s8.1))
def XP (p0 : Int) (p1 : Int) : Option (Int) :=
 (Yg p1).bind fun r1=>(Yg p0).bind fun r3=>(ZB (YS p1 r1) (p0,r3)).bind fun j5=>some j5
theorem To (w0 : World) (p0 : Int) (p1 : Int) (r : Int) (hF : XP p0 p1 = some r) :
  Calls Try.prog 95 [vI p0,vI p1].toArray w0 (fun en w'=>∃ v,en = .returned v ∧ (v = (vI r) ∧ Kept (Old w0) w0 w')):=by
 refine Zv (n:=25) Try.func95 rfl rfl (nbl rfl) rfl ?_
 intro a hE
 have hM:=M.start w0
 unfold XP at hF
 refine Zb (Zc hE Za ld rfl fun a hE=>Zf (Zb (Zd hE Za ld rfl ?_))); intro a hE
 obtain ⟨r1,e2,hF⟩:=bind_some hF
 refine Zu hE Za ld rfl KL (Wo _ p1 r1 e2) ?_
 rintro v w a ⟨rfl,hK⟩ hE
 have hM:=hM.keep hK
 refine Zc hE Za ld rfl fun a hE=>Zf (wp_seq (Zb (Zd hE Za ld rfl ?_))); intro a hE
 obtain ⟨r3,e4,hF⟩:=bind_some hF
 refine Zu hE Za ld rfl KL (Wo _ p0 r3 e4) ?_
 rintro v w a ⟨rfl,hK⟩ hE
 have hM:=hM.keep hK
 refine Zc hE Za ld rfl fun a hE=>Zf ?_
 obtain ⟨j5,hl6,hF7⟩:=bind_some hF
 refine ZS (fun a w=>Env 25 a [(0,vI j5)] ∧ M (Old w0) w0 w []) ?_ ?_
 ·skip
  refine wp_block ?_
  refine ZG (fun (s8 : Int × Int) a w=>Env 25 a [(0,vI s8.1),(1,vI p1),(5,vI r1),(6,vI s8.2)] ∧ M (Old w0) w0 w []) hl6 ⟨hE.sub ⟨rfl,rfl,rfl,rfl,trivial⟩,hM⟩ ?_
  rintro s8 a w ⟨hE,hM⟩ o11 hs9 hx10
  unfold YS at hs9
  refine wp_seq (Zb (Zd hE Za ld rfl fun a hE=>Zd hE Za ld rfl fun a hE=>Zh hE Za ld rfl rfl rfl fun a hE=>Zf ?_))
  refine Zm hE rfl ?_ ?_
  ·intro hb12
   have hs9:=Zr hs9 hb12
   refine wp_skip (Zt (wp_seq (wp_block (wp_region_lit (Zd hE Za ld rfl fun a hE=>Zd hE Za ld rfl fun a hE=>Zd hE Za ld rfl fun a hE=>Zd hE Za ld rfl fun a hE=>Zh hE Za ld rfl rfl rfl fun a hE=>WX hE Za ld rfl Try.underlying2 Try.underlying162 ?_))))); intro a hE
   obtain ⟨_,e13,hs9⟩:=bind_some hs9
   have e13:=XL e13
   refine QU hE Za ld rfl rfl (UX _ _ e13) fun a hE=>Zh hE Za ld rfl rfl rfl fun a hE=>Zc hE Za ld rfl fun a hE=>Zi (Y0 (Zt (wp_region_lit (Zd hE Za ld rfl ?_)))); intro a hE
   obtain ⟨r14,e15,hs9⟩:=bind_some hs9
   refine Zu hE Za ld rfl KL (Wo _ (Ug s8.1 (Vs p1 (IntKind.u64.wrap (wr (s8.2 - r1))))) r14 e15) ?_
   rintro v w a ⟨rfl,hK⟩ hE
   have hM:=hM.keep hK
   refine Zc hE Za ld rfl fun a hE=>Zi (Zk ?_)
   exact ⟨_,(ois hs9),hE.sub ⟨rfl,rfl,rfl,rfl,trivial⟩,hM⟩
  ·intro hb12
   have hs9:=Zs hs9 hb12
   refine wp_exit (Zp (Zp (Y7 ?_)))
   have ht16:=hx10 _ (ois hs9)
   subst ht16
   refine Zk ?_
   exact ⟨hE.sub ⟨rfl,trivial⟩,hM⟩
 ·skip
  rintro a w ⟨hE,hM⟩
  refine Zt (Zb (Zd hE Za ld rfl fun a hE=>Zc hE Za ld rfl fun a hE=>Zf ?_))
  have hr:=Option.some.inj hF7
  subst hr
  exact wp_ret (Zl hE rfl (Zg hE rfl) ⟨_,rfl,rfl,hM.kept⟩)
def YB (p0 : Int) (s8 : Int) : Option (Fl Int (Fl Unit Bool)) :=
 if (decide (s8 < 32)) = true then ((XP p0 s8).bind fun r13=>if (r13 == 0) = true then (some (Fl.ex (Fl.ex false))) else (some (Fl.nx (wr (s8 + 1))))) else (some (Fl.ex (Fl.nx ())))
def XB (p0 : Int) : Option (Bool) :=
 (XV p0 256 511).bind fun r1=>if (!r1) = true then (some false) else ((ZB (YB p0) 2).bind fun j4=>j4.el (fun s7=>some true) (fun r=>some r))
theorem UI (w0 : World) (p0 : Int) (r : Bool) (hF : XB p0 = some r) :
  Calls Try.prog 43 [vI p0].toArray w0 (fun en w'=>∃ v,en = .returned v ∧ (v = (vT r) ∧ Kept (Old w0) w0 w')):=by
 refine Zv (n:=15) Try.func43 rfl rfl (nbl rfl) rfl ?_
 intro a hE
 have hM:=M.start w0
 unfold XB at hF
 refine Zb (Zc hE Za ld rfl fun a hE=>Zf (wp_seq (Zb (Zd hE Za ld rfl ?_)))); intro a hE
 obtain ⟨r1,e2,hF⟩:=bind_some hF
 refine Zu hE Za ld rfl cb82 (V8 _ p0 256 511 r1 e2) ?_
 rintro v w a ⟨rfl,hK⟩ hE
 have hM:=hM.keep hK
 refine Xt hE Za ld rfl fun a hE=>Zf ?_
 refine Zm hE rfl ?_ ?_
 ·intro hb3
  have hF:=Zr hF hb3
  refine Zb (Zc hE Za ld rfl fun a hE=>Zf ?_)
  have hr:=Option.some.inj hF
  subst hr
  exact wp_ret (Zj (Zl hE rfl (Zg hE rfl) ⟨_,rfl,rfl,hM.kept⟩))
 ·intro hb3
  have hF:=Zs hF hb3
  refine wp_skip (Zt (wp_seq (Zb (Zc hE Za ld rfl fun a hE=>Zf ?_))))
  obtain ⟨j4,hl5,hF6⟩:=bind_some hF
  refine ZS (fun a w=>∃ s7 : Unit,j4 = Fl.nx s7 ∧ Env 15 a [] ∧ M (Old w0) w0 w []) ?_ ?_
  ·skip
   refine wp_block ?_
   refine ZG (fun (s8 : Int) a w=>Env 15 a [(0,vI p0),(3,vI s8)] ∧ M (Old w0) w0 w []) hl5 ⟨hE.sub ⟨rfl,rfl,trivial⟩,hM⟩ ?_
   rintro s8 a w ⟨hE,hM⟩ o11 hs9 hx10
   unfold YB at hs9
   refine wp_seq (Zb (Zd hE Za ld rfl fun a hE=>Zh hE Za ld rfl rfl rfl fun a hE=>Zf ?_))
   refine Zm hE rfl ?_ ?_
   ·intro hb12
    have hs9:=Zr hs9 hb12
    refine wp_skip (Zt (wp_seq (wp_block (Zb (Zd hE Za ld rfl fun a hE=>Zd hE Za ld rfl ?_))))); intro a hE
    obtain ⟨r13,e14,hs9⟩:=bind_some hs9
    refine Zu hE Za ld rfl cb95 (To _ p0 s8 r13 e14) ?_
    rintro v w a ⟨rfl,hK⟩ hE
    have hM:=hM.keep hK
    refine Zh hE Za ld rfl rfl rfl fun a hE=>Zf ?_
    refine Zm hE rfl ?_ ?_
    ·intro hb15
     have hs9:=Zr hs9 hb15
     refine Zb (Zc hE Za ld rfl fun a hE=>Zf ?_)
     have ht16:=hx10 _ (ois hs9)
     subst ht16
     have hr:=Option.some.inj hF6
     subst hr
     exact wp_ret (Z5 (Zj (Zj (Z5 (Zj (Zj (Zl hE rfl (Zg hE rfl) ⟨_,rfl,rfl,hM.kept⟩)))))))
    ·intro hb15
     have hs9:=Zs hs9 hb15
     refine wp_skip (Y0 (Zt (wp_region_lit (Zd hE Za ld rfl fun a hE=>Zh hE Za ld rfl rfl rfl fun a hE=>Zc hE Za ld rfl fun a hE=>Zi (Zk ?_)))))
     exact ⟨_,(ois hs9),hE.sub ⟨rfl,rfl,trivial⟩,hM⟩
   ·intro hb12
    have hs9:=Zs hs9 hb12
    refine wp_exit (Zp (Zp (Y7 ?_)))
    have ht17:=hx10 _ (ois hs9)
    subst ht17
    refine Zk ?_
    exact ⟨(),rfl,hE.sub trivial,hM⟩
  ·skip
   rintro a w ⟨s7,ht,hE,hM⟩
   subst ht
   have hF6:=Wk hF6
   refine Zt (Zb (Zc hE Za ld rfl fun a hE=>Zf ?_))
   have hr:=Option.some.inj hF6
   subst hr
   exact wp_ret (Zl hE rfl (Zg hE rfl) ⟨_,rfl,rfl,hM.kept⟩)
def XA (p0 : GShare) : Option (Bool) :=
 (if (p0.Place != 0) = true then (some (decide ((p0.Data.length : Int) ≤ 100))) else (some false) : Option (Bool)).bind fun j3=>some j3
theorem UR (w0 : World) (p0 : GShare) (v0_1 : Value) (hv0_1 : Ro w0 p0.Data [v0_1]) (r : Bool) (hF : XA p0 = some r) :
  Calls Try.prog 145 [(Value.agg (cat [[vB p0.Place],[v0_1]]).toArray)].toArray w0 (fun en w'=>∃ v,en = .returned v ∧ (v = (vT r) ∧ Kept (Old w0) w0 w')):=by
 refine Zv (n:=12) Try.func145 rfl rfl (nbl rfl) rfl ?_
 intro a hE
 have hM:=M.start w0
 unfold XA at hF
 refine Zb (VK (cs:=cat [[vB p0.Place],[v0_1]]) hE hM Za ld rfl rfl fun b1 w a hM hE=>Zc hE Za ld rfl fun a hE=>Zf ?_)
 obtain ⟨j3,hl4,hF5⟩:=bind_some hF
 refine Ye (fun a w=>Env 12 a [(2,vT j3)] ∧ M (Old w0) w0 w []) ?_ ?_
 ·skip
  refine wp_region_lit (Zn hE Za ld rfl (Wx) fun a hE=>Zy (v:=(vB p0.Place)) hE Za ld rfl ty5 rfl (At.cat (pre:=[]) (hM.rawAt (pre:=[])) cl0) fun a hE=>Zh hE Za ld rfl rfl (Um p0.Place 0) fun a hE=>Zd hE Za ld rfl ?_); intro a hE
  refine X3 (p0.Place != 0) (fun hb6=>?_) (fun hb6=>?_)
  ·have hl4:=Zr hl4 hb6
   refine Zn hE (Zq hE rfl (lkb rfl hb6)) (by decide) rfl (Yr) fun a hE=>Zy (v:=v0_1) hE (Zq hE rfl (lkb rfl hb6)) (by decide) rfl Yv rfl (At.cat (pre:=[[vB p0.Place]]) (hM.rawAt (pre:=[])) (cl1 (n:=1) (m:=0) rfl cl0)) fun a hE=>ZF hE (Zq hE rfl (lkb rfl hb6)) (by decide) rfl Try.underlying22 (hM.rd hv0_1) fun a hE=>Zh hE (Zq hE rfl (lkb rfl hb6)) (by decide) rfl rfl rfl fun a hE=>Yz hE Za ld (lkb rfl hb6) rfl fun a hE=>Zc hE Za ld rfl fun a hE=>Zi ?_
   have ht7:=Option.some.inj hl4
   subst ht7
   refine Zk ?_
   have hM:=M.fst (l:=[]) hM
   exact ⟨hE.sub ⟨rfl,trivial⟩,hM⟩
  ·have hl4:=Zs hl4 hb6
   refine Zx hE rfl (lkb rfl hb6) rfl (by decide) fun a hE=>Zx hE rfl (lkb rfl hb6) rfl (by decide) fun a hE=>Zx hE rfl (lkb rfl hb6) rfl (by decide) fun a hE=>Zx hE rfl (lkb rfl hb6) rfl (by decide) fun a hE=>Xc hE Za ld (lkb rfl hb6) rfl fun a hE=>Zc hE Za ld rfl fun a hE=>Zi ?_
   have ht8:=Option.some.inj hl4
   subst ht8
   refine Zk ?_
   have hM:=M.fst (l:=[]) hM
   exact ⟨hE.sub ⟨rfl,trivial⟩,hM⟩
 ·skip
  rintro a w ⟨hE,hM⟩
  have hr:=Option.some.inj hF5
  subst hr
  exact wp_ret (Zl hE rfl (Zg hE rfl) ⟨_,rfl,rfl,hM.kept⟩)
def YC (p0 : (List UInt8)) (s5 : Int) (s14 : Int) : Option (Fl Int (Fl Unit Bool)) :=
 if (decide (s14 < s5)) = true then (((idx p0 s5).bind fun x23=>(idx p0 s14).bind fun x26=>some (x23 == x26) : Option (Bool)).bind fun j19=>if j19 = true then (some (Fl.ex (Fl.ex true))) else (some (Fl.nx (wr (s14 + 1))))) else (some (Fl.ex (Fl.nx ())))
def YA (p0 : (List UInt8)) (s5 : Int) : Option (Fl Int (Fl Unit Bool)) :=
 if (decide (s5 < (p0.length : Int))) = true then ((ZB (YC p0 s5) 0).bind fun j10=>j10.el (fun s13=>some (Fl.nx (wr (s5 + 1)))) (fun r=>some (Fl.ex (Fl.ex r)))) else (some (Fl.ex (Fl.nx ())))
def Xv (p0 : (List UInt8)) : Option (Bool) :=
 (ZB (YA p0) 0).bind fun j1=>j1.el (fun s4=>some false) (fun r=>some r)
theorem UQ (w0 : World) (p0 : (List UInt8)) (v0_1 : Value) (hv0_1 : Ro w0 p0 [v0_1]) (r : Bool) (hF : Xv p0 = some r) :
  Calls Try.prog 96 [v0_1].toArray w0 (fun en w'=>∃ v,en = .returned v ∧ (v = (vT r) ∧ Kept (Old w0) w0 w')):=by
 refine Zv (n:=25) Try.func96 rfl rfl (nbl rfl) rfl ?_
 intro a hE
 have hM:=M.start w0
 unfold Xv at hF
 refine Zb (Zc hE Za ld rfl fun a hE=>Zf (wp_seq (Zb (Zc hE Za ld rfl fun a hE=>Zf ?_))))
 obtain ⟨j1,hl2,hF3⟩:=bind_some hF
 refine ZS (fun a w=>∃ s4 : Unit,j1 = Fl.nx s4 ∧ Env 25 a [] ∧ M (Old w0) w0 w []) ?_ ?_
 ·skip
  refine wp_block ?_
  refine ZG (fun (s5 : Int) a w=>Env 25 a [(0,v0_1),(3,vI s5)] ∧ M (Old w0) w0 w []) hl2 ⟨hE.sub ⟨rfl,rfl,trivial⟩,hM⟩ ?_
  rintro s5 a w ⟨hE,hM⟩ o8 hs6 hx7
  unfold YA at hs6
  refine wp_seq (Zb (Zd hE Za ld rfl fun a hE=>Zd hE Za ld rfl fun a hE=>ZF hE Za ld rfl Try.underlying22 (hM.rd hv0_1) fun a hE=>Zh hE Za ld rfl rfl rfl fun a hE=>Zf ?_))
  refine Zm hE rfl ?_ ?_
  ·intro hb9
   have hs6:=Zr hs6 hb9
   refine wp_skip (Zt (wp_seq (wp_block (Zb (Zc hE Za ld rfl fun a hE=>Zf ?_)))))
   obtain ⟨j10,hl11,hF12⟩:=bind_some hs6
   refine ZS (fun a w=>∃ s13 : Unit,j10 = Fl.nx s13 ∧ Env 25 a [(0,v0_1),(3,vI s5)] ∧ M (Old w0) w0 w []) ?_ ?_
   ·skip
    refine wp_block ?_
    refine ZG (fun (s14 : Int) a w=>Env 25 a [(0,v0_1),(3,vI s5),(4,vI s14)] ∧ M (Old w0) w0 w []) hl11 ⟨hE.sub ⟨rfl,rfl,rfl,trivial⟩,hM⟩ ?_
    rintro s14 a w ⟨hE,hM⟩ o17 hs15 hx16
    unfold YC at hs15
    refine wp_seq (Zb (Zd hE Za ld rfl fun a hE=>Zd hE Za ld rfl fun a hE=>Zh hE Za ld rfl rfl rfl fun a hE=>Zf ?_))
    refine Zm hE rfl ?_ ?_
    ·intro hb18
     have hs15:=Zr hs15 hb18
     refine wp_skip (Zt (wp_seq (wp_block ?_)))
     obtain ⟨j19,hl20,hF21⟩:=bind_some hs15
     refine Ye (fun a w=>Env 25 a [(0,v0_1),(3,vI s5),(4,vI s14),(24,vT j19)] ∧ M (Old w0) w0 w []) ?_ ?_
     ·skip
      obtain ⟨x23,hi25,hl20⟩:=bix hl20
      obtain ⟨x26,hi28,hl20⟩:=bix hl20
      refine Vx (n:=25) (hd:=[_,_,_,_,_,_,_,_,_]) (tl:=[]) Uo rfl rfl [16,17,18,19,20,21,22,23,24] (by decide) (fun w=>M (Old w0) w0 w []) (fun j=>([fun v _=>v = v0_1,fun v _=>v = (vI s5),fun v _=>v = (ptr (sb v0_1) (so v0_1 + (s5).toNat * 1)),fun v _=>v = (vB x23),fun v _=>v = v0_1,fun v _=>v = (vI s14),fun v _=>v = (ptr (sb v0_1) (so v0_1 + (s14).toNat * 1)),fun v _=>v = (vB x26),fun v _=>v = (vT (x23 == x26))] : List (Value → World → Prop)).getD j (fun _ _=>True)) (fun _ _ h hk=>h.keep hk) (gup (ZL (ZL (ZL (ZL (ZL (ZL (ZL (ZL (ZL Qy)))))))))) hE hM.drew (Xh (Ze ?_ (Ze ?_ (Ze ?_ (Ze ?_ (Ze ?_ (Ze ?_ (Ze ?_ (Ze ?_ (Ze ?_ YE)))))))))) ?_
      ·exact fun a w ux22 hE hM hp=>Zd hE Za ld rfl fun a hE=>⟨Kept.refl _ _,_,_,rfl,hE,rfl⟩
      ·exact fun a w ux22 hE hM hp=>Zd hE Za ld rfl fun a hE=>⟨Kept.refl _ _,_,_,rfl,hE,rfl⟩
      ·intro a w ux22 hE hM hp
       have f0 : ux22 0 = v0_1:=hp 0 _ rfl rfl
       have f1 : ux22 1 = (vI s5):=hp 1 _ rfl rfl
       exact Zo hE Za ld (lk rfl f0) (lk rfl f1) Try.underlying22 ty5 (hM.rd hv0_1) hi25.1 fun a hE=>⟨Kept.refl _ _,_,_,rfl,hE,rfl⟩
      ·intro a w ux22 hE hM hp
       have f2 : ux22 2 = (ptr (sb v0_1) (so v0_1 + (s5).toNat * 1)):=hp 0 _ rfl rfl
       exact Zy (v:=(vB x23)) hE Za ld (lk rfl f2) ty5 rfl (Xr (hM.rd hv0_1) hi25.2) fun a hE=>⟨Kept.refl _ _,_,_,rfl,hE,rfl⟩
      ·exact fun a w ux22 hE hM hp=>Zd hE Za ld rfl fun a hE=>⟨Kept.refl _ _,_,_,rfl,hE,rfl⟩
      ·exact fun a w ux22 hE hM hp=>Zd hE Za ld rfl fun a hE=>⟨Kept.refl _ _,_,_,rfl,hE,rfl⟩
      ·intro a w ux22 hE hM hp
       have f4 : ux22 4 = v0_1:=hp 0 _ rfl rfl
       have f5 : ux22 5 = (vI s14):=hp 1 _ rfl rfl
       exact Zo hE Za ld (lk rfl f4) (lk rfl f5) Try.underlying22 ty5 (hM.rd hv0_1) hi28.1 fun a hE=>⟨Kept.refl _ _,_,_,rfl,hE,rfl⟩
      ·intro a w ux22 hE hM hp
       have f6 : ux22 6 = (ptr (sb v0_1) (so v0_1 + (s14).toNat * 1)):=hp 0 _ rfl rfl
       exact Zy (v:=(vB x26)) hE Za ld (lk rfl f6) ty5 rfl (Xr (hM.rd hv0_1) hi28.2) fun a hE=>⟨Kept.refl _ _,_,_,rfl,hE,rfl⟩
      ·intro a w ux22 hE hM hp
       have f3 : ux22 3 = (vB x23):=hp 0 _ rfl rfl
       have f7 : ux22 7 = (vB x26):=hp 1 _ rfl rfl
       exact Zh hE Za ld (lk rfl f3) (lk rfl f7) (KY x23 x26) fun a hE=>⟨Kept.refl _ _,_,_,rfl,hE,rfl⟩
      ·intro a w ux22 hE hM hg
       have hE:=hE.sub (e':=[(24,(vT (x23 == x26))),(0,v0_1),(3,vI s5),(4,vI s14),(11,vI s14),(12,vI s5),(13,(vT (decide (s14 < s5))))]) ⟨lk rfl (hg 8 (by decide)),rfl,rfl,rfl,rfl,rfl,rfl,trivial⟩
       refine Zi ?_
       have ht29:=Option.some.inj hl20
       subst ht29
       refine Zk ?_
       exact ⟨hE.sub ⟨rfl,rfl,rfl,rfl,trivial⟩,hM⟩
     ·skip
      rintro a w ⟨hE,hM⟩
      refine Zm hE rfl ?_ ?_
      ·intro hb30
       have hF21:=Zr hF21 hb30
       refine Zb (Zc hE Za ld rfl fun a hE=>Zf ?_)
       have ht31:=hx16 _ (ois hF21)
       subst ht31
       have ht32:=hx7 _ (ois hF12)
       subst ht32
       have hr:=Option.some.inj hF3
       subst hr
       exact wp_ret (Z5 (Zj (Zj (Z5 (Zj (Z5 (Zj (Zj (Z5 (Zj (Zj (Zl hE rfl (Zg hE rfl) ⟨_,rfl,rfl,hM.kept⟩))))))))))))
      ·intro hb30
       have hF21:=Zs hF21 hb30
       refine wp_skip (Y0 (Zt (wp_region_lit (Zd hE Za ld rfl fun a hE=>Zh hE Za ld rfl rfl rfl fun a hE=>Zc hE Za ld rfl fun a hE=>Zi (Zk ?_)))))
       exact ⟨_,(ois hF21),hE.sub ⟨rfl,rfl,rfl,trivial⟩,hM⟩
    ·intro hb18
     have hs15:=Zs hs15 hb18
     refine wp_exit (Zp (Zp (Y7 ?_)))
     have ht33:=hx16 _ (ois hs15)
     subst ht33
     refine Zk ?_
     exact ⟨(),rfl,hE.sub ⟨rfl,rfl,trivial⟩,hM⟩
   ·skip
    rintro a w ⟨s13,ht,hE,hM⟩
    subst ht
    have hF12:=Wk hF12
    refine Y0 (Zt (wp_region_lit (Zd hE Za ld rfl fun a hE=>Zh hE Za ld rfl rfl rfl fun a hE=>Zc hE Za ld rfl fun a hE=>Zi (Zk ?_))))
    exact ⟨_,(ois hF12),hE.sub ⟨rfl,rfl,trivial⟩,hM⟩
  ·intro hb9
   have hs6:=Zs hs6 hb9
   refine wp_exit (Zp (Zp (Y7 ?_)))
   have ht34:=hx7 _ (ois hs6)
   subst ht34
   refine Zk ?_
   exact ⟨(),rfl,hE.sub trivial,hM⟩
 ·skip
  rintro a w ⟨s4,ht,hE,hM⟩
  subst ht
  have hF3:=Wk hF3
  refine Zt (Zb (Zc hE Za ld rfl fun a hE=>Zf ?_))
  have hr:=Option.some.inj hF3
  subst hr
  exact wp_ret (Zl hE rfl (Zg hE rfl) ⟨_,rfl,rfl,hM.kept⟩)
def Yu (p0 : (List GShare)) (s8 : (List UInt8) × Int) : Option (Fl ((List UInt8) × Int) (List UInt8)) :=
 if (decide (s8.2 < (p0.length : Int))) = true then ((idx p0 s8.2).bind fun x15=>(app 1 s8.1 ([x15.Place] : List UInt8)).bind fun l25=>some (Fl.nx ((s8.1 ++ ([x15.Place] : List UInt8)),wr (s8.2 + 1)))) else (some (Fl.ex s8.1))
def YG (p0 : (List GShare)) : Option (Bool) :=
 (ZB (Yu p0) (([] : List UInt8),0)).bind fun j3=>(Xv j3).bind fun r31=>some (!r31)
theorem VZ (w0 : World) (p0 : (List GShare)) (v0_1 : Value) (hv0_1 : Ro w0 p0 [v0_1]) (r : Bool) (hF : YG p0 = some r) :
  Calls Try.prog 146 [v0_1].toArray w0 (fun en w'=>∃ v,en = .returned v ∧ (v = (vT r) ∧ Kept (Old w0) w0 w')):=by
 refine Zv (n:=23) Try.func146 rfl rfl (nbl rfl) rfl ?_
 intro a hE
 have hM:=M.start w0
 unfold YG at hF
 refine Zb (Zc hE Za ld rfl fun a hE=>Zf (Zb (Y5 (xs:=[]) (l:=([] : List UInt8)) (vs:=[]) hE hM Za ld rfl rfl Try.underlying22 ty5 rfl (by decide) rfl fun u1 w a hM hE=>Zc hE Za ld rfl fun a hE=>Zf (wp_seq (Zb (Zc hE Za ld rfl fun a hE=>Zf ?_))))))
 obtain ⟨j3,hl4,hF5⟩:=bind_some hF
 refine ZS (fun a w=>∃ (u6 : Value),Env 23 a [(3,u6)] ∧ M (Old w0) w0 w [osl NoB (j3 : List UInt8) u6]) ?_ ?_
 ·skip
  refine wp_block ?_
  refine ZG (fun (s8 : (List UInt8) × Int) a w=>∃ (u9 : Value),Env 23 a [(0,v0_1),(3,u9),(4,vI s8.2)] ∧ M (Old w0) w0 w [osl NoB (s8.1 : List UInt8) u9]) hl4 ⟨u1,hE.sub ⟨rfl,rfl,rfl,trivial⟩,hM⟩ ?_
  rintro s8 a w ⟨u9,hE,hM⟩ o13 hs11 hx12
  unfold Yu at hs11
  refine wp_seq (Zb (Zd hE Za ld rfl fun a hE=>Zd hE Za ld rfl fun a hE=>ZF hE Za ld rfl Try.underlying25 (hM.rd hv0_1) fun a hE=>Zh hE Za ld rfl rfl rfl fun a hE=>Zf ?_))
  refine Zm hE rfl ?_ ?_
  ·intro hb14
   have hs11:=Zr hs11 hb14
   refine wp_skip (Zt (wp_seq (wp_block (wp_region_lit (Zd hE Za ld rfl fun a hE=>Zd hE Za ld rfl fun a hE=>Zd hE Za ld rfl ?_))))); intro a hE
   obtain ⟨x15,hi17,hs11⟩:=bix hs11
   refine Zo hE Za ld rfl rfl Try.underlying25 ZR (hM.rd hv0_1) hi17.1 fun a hE=>Zn hE Za ld rfl (Wx) ?_; intro a hE
   obtain ⟨cs18,hs19,hA20⟩:=ZM hv0_1 hi17.2 -- ^
   obtain ⟨u21,rfl,h22⟩:=ZJ hs19 -- ^
   refine Zy (v:=(vB x15.Place)) hE Za ld rfl ty5 rfl (At.cat (pre:=[]) (hM.atk hA20 (ZY hv0_1 hi17.2)) cl0) fun a hE=>Y5 (xs:=[.tmp 17]) (l:=([x15.Place] : List UInt8)) (vs:=[vB x15.Place]) hE hM Za ld rfl rfl Try.underlying22 ty5 rfl (by decide) rfl ?_; intro u23 w a hM hE
   obtain ⟨l25,e26,hs11⟩:=bind_some hs11
   obtain ⟨e29,rfl⟩:=Xl e26
   have hM:=hM.pull (pre:=[_])
   refine XW hE hM Za ld rfl rfl (hM.sl (pre:=[_]) noB) Try.underlying22 ty5 rfl (by decide) e29 fun u27 w a hM hE=>Zc hE Za ld rfl fun a hE=>Zi (Y0 (Zt (wp_region_lit (Zd hE Za ld rfl fun a hE=>Zh hE Za ld rfl rfl rfl fun a hE=>Zc hE Za ld rfl fun a hE=>Zi (Zk ?_)))))
   have hM:=M.fst (l:=[_]) hM
   exact ⟨_,(ois hs11),u27,hE.sub ⟨rfl,rfl,rfl,trivial⟩,hM⟩
  ·intro hb14
   have hs11:=Zs hs11 hb14
   refine wp_exit (Zp (Zp (Y7 ?_)))
   have ht30:=hx12 _ (ois hs11)
   subst ht30
   refine Zk ?_
   exact ⟨u9,hE.sub ⟨rfl,trivial⟩,hM⟩
 ·skip
  rintro a w ⟨u6,hE,hM⟩
  refine Zt (Zb (Zd hE Za ld rfl ?_)); intro a hE
  obtain ⟨r31,e32,hF5⟩:=bind_some hF5
  refine Zu hE Za ld rfl cb96 (UQ _ j3 u6 (hM.sl (pre:=[]) noB) r31 e32) ?_
  rintro v w a ⟨rfl,hK⟩ hE
  have hM:=hM.keep hK
  refine Xt hE Za ld rfl fun a hE=>Zc hE Za ld rfl fun a hE=>Zf ?_
  have hr:=Option.some.inj hF5
  subst hr
  have hM:=M.fst (l:=[]) hM
  exact wp_ret (Zl hE rfl (Zg hE rfl) ⟨_,rfl,rfl,hM.kept⟩)
def XC (p0 : (List GShare)) (s5 : Int) : Option (Fl Int (Fl Unit Int)) :=
 if (decide (s5 < (p0.length : Int))) = true then ((idx p0 s5).bind fun x10=>(XA x10).bind fun r18=>if (!r18) = true then (some (Fl.ex (Fl.ex 1))) else (some (Fl.nx (wr (s5 + 1))))) else (some (Fl.ex (Fl.nx ())))
def YU (p0 : (List GShare)) (s37 : Int) : Option (Fl Int (Fl Unit Int)) :=
 if (decide (s37 < (p0.length : Int))) = true then (((idx p0 s37).bind fun x46=>(idx p0 (0 : Int)).bind fun x54=>some ((x46.Data.length : Int) != (x54.Data.length : Int)) : Option (Bool)).bind fun j42=>if j42 = true then (some (Fl.ex (Fl.ex 2))) else (some (Fl.nx (wr (s37 + 1))))) else (some (Fl.ex (Fl.nx ())))
def XS (p0 : (List GShare)) : Option (Int) :=
 (ZB (XC p0) 0).bind fun j1=>j1.el (fun s4=>(YG p0).bind fun r23=>if (!r23) = true then (some 1) else ((if (decide ((p0.length : Int) < 1)) = true then (some true) else (some (decide ((p0.length : Int) > 12))) : Option (Bool)).bind fun j26=>if j26 = true then (some 2) else ((ZB (YU p0) 1).bind fun j33=>j33.el (fun s36=>some 0) (fun r=>some r)))) (fun r=>some r)
theorem Tn (w0 : World) (p0 : (List GShare)) (v0_1 : Value) (hv0_1 : Ro w0 p0 [v0_1]) (r : Int) (hF : XS p0 = some r) :
  Calls Try.prog 104 [v0_1].toArray w0 (fun en w'=>∃ v,en = .returned v ∧ (v = (vI r) ∧ Kept (Old w0) w0 w')):=by
 refine Zv (n:=46) Try.func104 rfl rfl (nbl rfl) rfl ?_
 intro a hE
 have hM:=M.start w0
 unfold XS at hF
 refine Zb (Zc hE Za ld rfl fun a hE=>Zf (wp_seq (Zb (Zc hE Za ld rfl fun a hE=>Zf ?_))))
 obtain ⟨j1,hl2,hF3⟩:=bind_some hF
 refine ZS (fun a w=>∃ s4 : Unit,j1 = Fl.nx s4 ∧ Env 46 a [(0,v0_1)] ∧ M (Old w0) w0 w []) ?_ ?_
 ·skip
  refine wp_block ?_
  refine ZG (fun (s5 : Int) a w=>Env 46 a [(0,v0_1),(3,vI s5)] ∧ M (Old w0) w0 w []) hl2 ⟨hE.sub ⟨rfl,rfl,trivial⟩,hM⟩ ?_
  rintro s5 a w ⟨hE,hM⟩ o8 hs6 hx7
  unfold XC at hs6
  refine wp_seq (Zb (Zd hE Za ld rfl fun a hE=>Zd hE Za ld rfl fun a hE=>ZF hE Za ld rfl Try.underlying25 (hM.rd hv0_1) fun a hE=>Zh hE Za ld rfl rfl rfl fun a hE=>Zf ?_))
  refine Zm hE rfl ?_ ?_
  ·intro hb9
   have hs6:=Zr hs6 hb9
   refine wp_skip (Zt (wp_seq (wp_block (Zb (Zd hE Za ld rfl fun a hE=>Zd hE Za ld rfl ?_))))); intro a hE
   obtain ⟨x10,hi12,hs6⟩:=bix hs6
   refine Zo hE Za ld rfl rfl Try.underlying25 ZR (hM.rd hv0_1) hi12.1 ?_; intro a hE
   obtain ⟨cs13,hs14,hA15⟩:=ZM hv0_1 hi12.2 -- ^
   obtain ⟨u16,rfl,h17⟩:=ZJ hs14 -- ^
   refine XY (cs:=cat [[vB x10.Place],[u16]]) hE Za ld rfl ZR rfl (hM.atk hA15 (ZY hv0_1 hi12.2)) (ZC (cl1 (n:=1) (m:=1) rfl (cl1 (n:=1) (m:=0) rfl cl0))) ?_; intro a hE
   obtain ⟨r18,e19,hs6⟩:=bind_some hs6
   refine Zu hE Za ld rfl cb145 (UR _ x10 u16 (hM.rdo h17) r18 e19) ?_
   rintro v w a ⟨rfl,hK⟩ hE
   have hM:=hM.keep hK
   refine Xt hE Za ld rfl fun a hE=>Zf ?_
   refine Zm hE rfl ?_ ?_
   ·intro hb20
    have hs6:=Zr hs6 hb20
    refine Zb (Zc hE Za ld rfl fun a hE=>Zf ?_)
    have ht21:=hx7 _ (ois hs6)
    subst ht21
    have hr:=Option.some.inj hF3
    subst hr
    exact wp_ret (Z5 (Zj (Zj (Z5 (Zj (Zj (Zl hE rfl (Zg hE rfl) ⟨_,rfl,rfl,hM.kept⟩)))))))
   ·intro hb20
    have hs6:=Zs hs6 hb20
    refine wp_skip (Y0 (Zt (wp_region_lit (Zd hE Za ld rfl fun a hE=>Zh hE Za ld rfl rfl rfl fun a hE=>Zc hE Za ld rfl fun a hE=>Zi (Zk ?_)))))
    exact ⟨_,(ois hs6),hE.sub ⟨rfl,rfl,trivial⟩,hM⟩
  ·intro hb9
   have hs6:=Zs hs6 hb9
   refine wp_exit (Zp (Zp (Y7 ?_)))
   have ht22:=hx7 _ (ois hs6)
   subst ht22
   refine Zk ?_
   exact ⟨(),rfl,hE.sub ⟨rfl,trivial⟩,hM⟩
 ·skip
  rintro a w ⟨s4,ht,hE,hM⟩
  subst ht
  have hF3:=Wk hF3
  refine Zt (wp_seq (Zb (Zd hE Za ld rfl ?_))); intro a hE
  obtain ⟨r23,e24,hF3⟩:=bind_some hF3
  refine Zu hE Za ld rfl cb146 (VZ _ p0 v0_1 (hM.rdo hv0_1) r23 e24) ?_
  rintro v w a ⟨rfl,hK⟩ hE
  have hM:=hM.keep hK
  refine Xt hE Za ld rfl fun a hE=>Zf ?_
  refine Zm hE rfl ?_ ?_
  ·intro hb25
   have hF3:=Zr hF3 hb25
   refine Zb (Zc hE Za ld rfl fun a hE=>Zf ?_)
   have hr:=Option.some.inj hF3
   subst hr
   exact wp_ret (Zj (Zl hE rfl (Zg hE rfl) ⟨_,rfl,rfl,hM.kept⟩))
  ·intro hb25
   have hF3:=Zs hF3 hb25
   refine wp_skip (Zt (wp_seq ?_))
   obtain ⟨j26,hl27,hF28⟩:=bind_some hF3
   refine Ye (fun a w=>Env 46 a [(0,v0_1),(27,vT j26)] ∧ M (Old w0) w0 w []) ?_ ?_
   ·skip
    refine wp_region_lit (Zd hE Za ld rfl fun a hE=>ZF hE Za ld rfl Try.underlying25 (hM.rd hv0_1) fun a hE=>Zh hE Za ld rfl rfl rfl fun a hE=>Zd hE Za ld rfl ?_); intro a hE
    refine X3 (decide ((p0.length : Int) < 1)) (fun hb29=>?_) (fun hb29=>?_)
    ·have hl27:=Zr hl27 hb29
     refine Zx hE rfl (lkb rfl hb29) rfl (by decide) fun a hE=>Zx hE rfl (lkb rfl hb29) rfl (by decide) fun a hE=>Zx hE rfl (lkb rfl hb29) rfl (by decide) fun a hE=>Yz hE Za ld (lkb rfl hb29) rfl fun a hE=>Zi ?_
     have ht30:=Option.some.inj hl27
     subst ht30
     refine Zk ?_
     exact ⟨hE.sub ⟨rfl,rfl,trivial⟩,hM⟩
    ·have hl27:=Zs hl27 hb29
     refine Zd hE (Zq hE rfl (lkb rfl hb29)) (by decide) rfl fun a hE=>ZF hE (Zq hE rfl (lkb rfl hb29)) (by decide) rfl Try.underlying25 (hM.rd hv0_1) fun a hE=>Zh hE (Zq hE rfl (lkb rfl hb29)) (by decide) rfl rfl rfl fun a hE=>Xc hE Za ld (lkb rfl hb29) rfl fun a hE=>Zi ?_
     have ht31:=Option.some.inj hl27
     subst ht31
     refine Zk ?_
     exact ⟨hE.sub ⟨rfl,rfl,trivial⟩,hM⟩
   ·skip
    rintro a w ⟨hE,hM⟩
    refine Zm hE rfl ?_ ?_
    ·intro hb32
     have hF28:=Zr hF28 hb32
     refine Zb (Zc hE Za ld rfl fun a hE=>Zf ?_)
     have hr:=Option.some.inj hF28
     subst hr
     exact wp_ret (Zj (Zl hE rfl (Zg hE rfl) ⟨_,rfl,rfl,hM.kept⟩))
    ·intro hb32
     have hF28:=Zs hF28 hb32
     refine wp_skip (Zt (wp_seq (Zb (Zc hE Za ld rfl fun a hE=>Zf ?_))))
     obtain ⟨j33,hl34,hF35⟩:=bind_some hF28
     refine ZS (fun a w=>∃ s36 : Unit,j33 = Fl.nx s36 ∧ Env 46 a [] ∧ M (Old w0) w0 w []) ?_ ?_
     ·skip
      refine wp_block ?_
      refine ZG (fun (s37 : Int) a w=>Env 46 a [(0,v0_1),(4,vI s37)] ∧ M (Old w0) w0 w []) hl34 ⟨hE.sub ⟨rfl,rfl,trivial⟩,hM⟩ ?_
      rintro s37 a w ⟨hE,hM⟩ o40 hs38 hx39
      unfold YU at hs38
      refine wp_seq (Zb (Zd hE Za ld rfl fun a hE=>Zd hE Za ld rfl fun a hE=>ZF hE Za ld rfl Try.underlying25 (hM.rd hv0_1) fun a hE=>Zh hE Za ld rfl rfl rfl fun a hE=>Zf ?_))
      refine Zm hE rfl ?_ ?_
      ·intro hb41
       have hs38:=Zr hs38 hb41
       refine wp_skip (Zt (wp_seq (wp_block ?_)))
       obtain ⟨j42,hl43,hF44⟩:=bind_some hs38
       refine Ye (fun a w=>Env 46 a [(0,v0_1),(4,vI s37),(45,vT j42)] ∧ M (Old w0) w0 w []) ?_ ?_
       ·skip
        obtain ⟨x46,hi48,hl43⟩:=bix hl43
        obtain ⟨cs49,hs50,hA51⟩:=ZM hv0_1 hi48.2 -- ^
        obtain ⟨u52,rfl,h53⟩:=ZJ hs50 -- ^
        obtain ⟨x54,hi56,hl43⟩:=bix hl43
        obtain ⟨cs57,hs58,hA59⟩:=ZM hv0_1 hi56.2 -- ^
        obtain ⟨u60,rfl,h61⟩:=ZJ hs58 -- ^
        refine Vx (n:=46) (hd:=[_,_,_,_,_,_,_,_,_,_,_,_]) (tl:=[]) Uo rfl rfl [34,35,36,37,38,39,40,41,42,43,44,45] (by decide) (fun w=>M (Old w0) w0 w []) (fun j=>([fun v _=>v = v0_1,fun v _=>v = (vI s37),fun v _=>v = (ptr (sb v0_1) (so v0_1 + (s37).toNat * 2)),fun v _=>v = (ptr (sb v0_1) (so v0_1 + (s37).toNat * 2 + 1)),fun v _=>v = u52,fun v _=>v = (vI (x46.Data.length : Int)),fun v _=>v = v0_1,fun v _=>v = (ptr (sb v0_1) (so v0_1 + ((0 : Int)).toNat * 2)),fun v _=>v = (ptr (sb v0_1) (so v0_1 + ((0 : Int)).toNat * 2 + 1)),fun v _=>v = u60,fun v _=>v = (vI (x54.Data.length : Int)),fun v _=>v = (vT ((x46.Data.length : Int) != (x54.Data.length : Int)))] : List (Value → World → Prop)).getD j (fun _ _=>True)) (fun _ _ h hk=>h.keep hk) (gup (ZL (ZL (ZL (ZL (ZL (ZL (ZL (ZL (ZL (ZL (ZL (ZL Qy))))))))))))) hE hM.drew (Xh (Ze ?_ (Ze ?_ (Ze ?_ (Ze ?_ (Ze ?_ (Ze ?_ (Ze ?_ (Ze ?_ (Ze ?_ (Ze ?_ (Ze ?_ (Ze ?_ YE))))))))))))) ?_
        ·exact fun a w ux45 hE hM hp=>Zd hE Za ld rfl fun a hE=>⟨Kept.refl _ _,_,_,rfl,hE,rfl⟩
        ·exact fun a w ux45 hE hM hp=>Zd hE Za ld rfl fun a hE=>⟨Kept.refl _ _,_,_,rfl,hE,rfl⟩
        ·intro a w ux45 hE hM hp
         have f0 : ux45 0 = v0_1:=hp 0 _ rfl rfl
         have f1 : ux45 1 = (vI s37):=hp 1 _ rfl rfl
         exact Zo hE Za ld (lk rfl f0) (lk rfl f1) Try.underlying25 ZR (hM.rd hv0_1) hi48.1 fun a hE=>⟨Kept.refl _ _,_,_,rfl,hE,rfl⟩
        ·intro a w ux45 hE hM hp
         have f2 : ux45 2 = (ptr (sb v0_1) (so v0_1 + (s37).toNat * 2)):=hp 0 _ rfl rfl
         exact Zn hE Za ld (lk rfl f2) (Yr) fun a hE=>⟨Kept.refl _ _,_,_,rfl,hE,rfl⟩
        ·intro a w ux45 hE hM hp
         have f3 : ux45 3 = (ptr (sb v0_1) (so v0_1 + (s37).toNat * 2 + 1)):=hp 0 _ rfl rfl
         exact Zy (v:=u52) hE Za ld (lk rfl f3) Yv rfl (At.cat (pre:=[[vB x46.Place]]) (hM.atk hA51 (ZY hv0_1 hi48.2)) (cl1 (n:=1) (m:=0) rfl cl0)) fun a hE=>⟨Kept.refl _ _,_,_,rfl,hE,rfl⟩
        ·intro a w ux45 hE hM hp
         have f4 : ux45 4 = u52:=hp 0 _ rfl rfl
         exact ZF hE Za ld (lk rfl f4) Try.underlying22 (hM.rd h53) fun a hE=>⟨Kept.refl _ _,_,_,rfl,hE,rfl⟩
        ·exact fun a w ux45 hE hM hp=>Zd hE Za ld rfl fun a hE=>⟨Kept.refl _ _,_,_,rfl,hE,rfl⟩
        ·intro a w ux45 hE hM hp
         have f6 : ux45 6 = v0_1:=hp 0 _ rfl rfl
         exact Zo hE Za ld (lk rfl f6) rfl Try.underlying25 ZR (hM.rd hv0_1) hi56.1 fun a hE=>⟨Kept.refl _ _,_,_,rfl,hE,rfl⟩
        ·intro a w ux45 hE hM hp
         have f7 : ux45 7 = (ptr (sb v0_1) (so v0_1 + ((0 : Int)).toNat * 2)):=hp 0 _ rfl rfl
         exact Zn hE Za ld (lk rfl f7) (Yr) fun a hE=>⟨Kept.refl _ _,_,_,rfl,hE,rfl⟩
        ·intro a w ux45 hE hM hp
         have f8 : ux45 8 = (ptr (sb v0_1) (so v0_1 + ((0 : Int)).toNat * 2 + 1)):=hp 0 _ rfl rfl
         exact Zy (v:=u60) hE Za ld (lk rfl f8) Yv rfl (At.cat (pre:=[[vB x54.Place]]) (hM.atk hA59 (ZY hv0_1 hi56.2)) (cl1 (n:=1) (m:=0) rfl cl0)) fun a hE=>⟨Kept.refl _ _,_,_,rfl,hE,rfl⟩
        ·intro a w ux45 hE hM hp
         have f9 : ux45 9 = u60:=hp 0 _ rfl rfl
         exact ZF hE Za ld (lk rfl f9) Try.underlying22 (hM.rd h61) fun a hE=>⟨Kept.refl _ _,_,_,rfl,hE,rfl⟩
        ·intro a w ux45 hE hM hp
         have f5 : ux45 5 = (vI (x46.Data.length : Int)):=hp 0 _ rfl rfl
         have f10 : ux45 10 = (vI (x54.Data.length : Int)):=hp 1 _ rfl rfl
         exact Zh hE Za ld (lk rfl f5) (lk rfl f10) rfl fun a hE=>⟨Kept.refl _ _,_,_,rfl,hE,rfl⟩
        ·intro a w ux45 hE hM hg
         have hE:=hE.sub (e':=[(45,(vT ((x46.Data.length : Int) != (x54.Data.length : Int)))),(0,v0_1),(4,vI s37),(28,vI s37),(29,v0_1),(30,(vI (p0.length : Int))),(31,(vT (decide (s37 < (p0.length : Int)))))]) ⟨lk rfl (hg 11 (by decide)),rfl,rfl,rfl,rfl,rfl,rfl,trivial⟩
         refine Zi ?_
         have ht62:=Option.some.inj hl43
         subst ht62
         refine Zk ?_
         exact ⟨hE.sub ⟨rfl,rfl,rfl,trivial⟩,hM⟩
       ·skip
        rintro a w ⟨hE,hM⟩
        refine Zm hE rfl ?_ ?_
        ·intro hb63
         have hF44:=Zr hF44 hb63
         refine Zb (Zc hE Za ld rfl fun a hE=>Zf ?_)
         have ht64:=hx39 _ (ois hF44)
         subst ht64
         have hr:=Option.some.inj hF35
         subst hr
         exact wp_ret (Z5 (Zj (Zj (Z5 (Zj (Zj (Zl hE rfl (Zg hE rfl) ⟨_,rfl,rfl,hM.kept⟩)))))))
        ·intro hb63
         have hF44:=Zs hF44 hb63
         refine wp_skip (Y0 (Zt (wp_region_lit (Zd hE Za ld rfl fun a hE=>Zh hE Za ld rfl rfl rfl fun a hE=>Zc hE Za ld rfl fun a hE=>Zi (Zk ?_)))))
         exact ⟨_,(ois hF44),hE.sub ⟨rfl,rfl,trivial⟩,hM⟩
      ·intro hb41
       have hs38:=Zs hs38 hb41
       refine wp_exit (Zp (Zp (Y7 ?_)))
       have ht65:=hx39 _ (ois hs38)
       subst ht65
       refine Zk ?_
       exact ⟨(),rfl,hE.sub trivial,hM⟩
     ·skip
      rintro a w ⟨s36,ht,hE,hM⟩
      subst ht
      have hF35:=Wk hF35
      refine Zt (Zb (Zc hE Za ld rfl fun a hE=>Zf ?_))
      have hr:=Option.some.inj hF35
      subst hr
      exact wp_ret (Zl hE rfl (Zg hE rfl) ⟨_,rfl,rfl,hM.kept⟩)
def XR (p0 : Int) (p1 : (List GShare)) (p2 : Int) : Option (Int) :=
 (XB p0).bind fun r1=>if (!r1) = true then (some 1) else ((XS p1).bind fun r4=>((if (r4 == 0) = true then ((XV p2 1 8).bind fun r13=>some (!r13)) else (some false) : Option (Bool)).bind fun j9=>if j9 = true then (some 2) else (some r4) : Option (Int)).bind fun j6=>some j6)
theorem U8 (w0 : World) (p0 : Int) (p1 : (List GShare)) (v1_1 : Value) (hv1_1 : Ro w0 p1 [v1_1]) (p2 : Int) (r : Int) (hF : XR p0 p1 p2 = some r) :
  Calls Try.prog 56 [vI p0,v1_1,vI p2].toArray w0 (fun en w'=>∃ v,en = .returned v ∧ (v = (vI r) ∧ Kept (Old w0) w0 w')):=by
 refine Zv (n:=21) Try.func56 rfl rfl (nbl rfl) rfl ?_
 intro a hE
 have hM:=M.start w0
 unfold XR at hF
 refine Zb (Zc hE Za ld rfl fun a hE=>Zf (wp_seq (Zb (Zd hE Za ld rfl ?_)))); intro a hE
 obtain ⟨r1,e2,hF⟩:=bind_some hF
 refine Zu hE Za ld rfl cb43 (UI _ p0 r1 e2) ?_
 rintro v w a ⟨rfl,hK⟩ hE
 have hM:=hM.keep hK
 refine Xt hE Za ld rfl fun a hE=>Zf ?_
 refine Zm hE rfl ?_ ?_
 ·intro hb3
  have hF:=Zr hF hb3
  refine Zb (Zc hE Za ld rfl fun a hE=>Zf ?_)
  have hr:=Option.some.inj hF
  subst hr
  exact wp_ret (Zj (Zl hE rfl (Zg hE rfl) ⟨_,rfl,rfl,hM.kept⟩))
 ·intro hb3
  have hF:=Zs hF hb3
  refine wp_skip (Zt (Zb (Zd hE Za ld rfl ?_))); intro a hE
  obtain ⟨r4,e5,hF⟩:=bind_some hF
  refine Zu hE Za ld rfl cb104 (Tn _ p1 v1_1 (hM.rdo hv1_1) r4 e5) ?_
  rintro v w a ⟨rfl,hK⟩ hE
  have hM:=hM.keep hK
  refine Zc hE Za ld rfl fun a hE=>Zf ?_
  obtain ⟨j6,hl7,hF8⟩:=bind_some hF
  refine Ye (fun a w=>Env 21 a [(7,vI j6)] ∧ M (Old w0) w0 w []) ?_ ?_
  ·skip
   obtain ⟨j9,hl10,hF11⟩:=bind_some hl7
   refine Ye (fun a w=>Env 21 a [(7,vI r4),(19,vT j9)] ∧ M (Old w0) w0 w []) ?_ ?_
   ·skip
    refine wp_region_lit (Zd hE Za ld rfl fun a hE=>Zh hE Za ld rfl rfl rfl fun a hE=>Zd hE Za ld rfl ?_); intro a hE
    refine X3 (r4 == 0) (fun hb12=>?_) (fun hb12=>?_)
    ·have hl10:=Zr hl10 hb12
     refine Zd hE (Zq hE rfl (lkb rfl hb12)) (by decide) rfl ?_; intro a hE
     obtain ⟨r13,e14,hl10⟩:=bind_some hl10
     refine Zu hE (Zq hE rfl (lkb rfl hb12)) (by decide) rfl cb82 (V8 _ p2 1 8 r13 e14) ?_
     rintro v w a ⟨rfl,hK⟩ hE
     have hM:=hM.keep hK
     refine Xt hE (Zq hE rfl (lkb rfl hb12)) (by decide) rfl fun a hE=>Yz hE Za ld (lkb rfl hb12) rfl fun a hE=>Zi ?_
     have ht15:=Option.some.inj hl10
     subst ht15
     refine Zk ?_
     exact ⟨hE.sub ⟨rfl,rfl,trivial⟩,hM⟩
    ·have hl10:=Zs hl10 hb12
     refine Zx hE rfl (lkb rfl hb12) rfl (by decide) fun a hE=>Zx hE rfl (lkb rfl hb12) rfl (by decide) fun a hE=>Zx hE rfl (lkb rfl hb12) rfl (by decide) fun a hE=>Xc hE Za ld (lkb rfl hb12) rfl fun a hE=>Zi ?_
     have ht16:=Option.some.inj hl10
     subst ht16
     refine Zk ?_
     exact ⟨hE.sub ⟨rfl,rfl,trivial⟩,hM⟩
   ·skip
    rintro a w ⟨hE,hM⟩
    refine Zm hE rfl ?_ ?_
    ·intro hb17
     have hF11:=Zr hF11 hb17
     refine wp_region_lit (Zc hE Za ld rfl fun a hE=>Zi ?_)
     have ht18:=Option.some.inj hF11
     subst ht18
     refine Zk ?_
     exact ⟨hE.sub ⟨rfl,trivial⟩,hM⟩
    ·intro hb17
     have hF11:=Zs hF11 hb17
     refine wp_skip ?_
     have ht19:=Option.some.inj hF11
     subst ht19
     refine Zk ?_
     exact ⟨hE.sub ⟨rfl,trivial⟩,hM⟩
  ·skip
   rintro a w ⟨hE,hM⟩
   refine Zb (Zd hE Za ld rfl fun a hE=>Zc hE Za ld rfl fun a hE=>Zf ?_)
   have hr:=Option.some.inj hF8
   subst hr
   exact wp_ret (Zl hE rfl (Zg hE rfl) ⟨_,rfl,rfl,hM.kept⟩)
def Xk (p0 : (List (List UInt8))) (p1 : Int) (s5 : Int) : Option (Fl Int (Fl Unit Bool)) :=
 if (decide (s5 < (p0.length : Int))) = true then ((idx p0 s5).bind fun x10=>if ((x10.length : Int) != p1) = true then (some (Fl.ex (Fl.ex false))) else (some (Fl.nx (wr (s5 + 1))))) else (some (Fl.ex (Fl.nx ())))
def Xw (p0 : (List (List UInt8))) (p1 : Int) : Option (Bool) :=
 (ZB (Xk p0 p1) 0).bind fun j1=>j1.el (fun s4=>some (decide ((p0.length : Int) ≤ 7))) (fun r=>some r)
theorem UJ (w0 : World) (p0 : (List (List UInt8))) (v0_1 : Value) (hv0_1 : Ro w0 p0 [v0_1]) (p1 : Int) (r : Bool) (hF : Xw p0 p1 = some r) :
  Calls Try.prog 44 [v0_1,vI p1].toArray w0 (fun en w'=>∃ v,en = .returned v ∧ (v = (vT r) ∧ Kept (Old w0) w0 w')):=by
 refine Zv (n:=22) Try.func44 rfl rfl (nbl rfl) rfl ?_
 intro a hE
 have hM:=M.start w0
 unfold Xw at hF
 refine Zb (Zc hE Za ld rfl fun a hE=>Zf (wp_seq (Zb (Zc hE Za ld rfl fun a hE=>Zf ?_))))
 obtain ⟨j1,hl2,hF3⟩:=bind_some hF
 refine ZS (fun a w=>∃ s4 : Unit,j1 = Fl.nx s4 ∧ Env 22 a [(0,v0_1)] ∧ M (Old w0) w0 w []) ?_ ?_
 ·skip
  refine wp_block ?_
  refine ZG (fun (s5 : Int) a w=>Env 22 a [(0,v0_1),(1,vI p1),(5,vI s5)] ∧ M (Old w0) w0 w []) hl2 ⟨hE.sub ⟨rfl,rfl,rfl,trivial⟩,hM⟩ ?_
  rintro s5 a w ⟨hE,hM⟩ o8 hs6 hx7
  unfold Xk at hs6
  refine wp_seq (Zb (Zd hE Za ld rfl fun a hE=>Zd hE Za ld rfl fun a hE=>ZF hE Za ld rfl Try.underlying23 (hM.rd hv0_1) fun a hE=>Zh hE Za ld rfl rfl rfl fun a hE=>Zf ?_))
  refine Zm hE rfl ?_ ?_
  ·intro hb9
   have hs6:=Zr hs6 hb9
   refine wp_skip (Zt (wp_seq (wp_block (Zb (Zd hE Za ld rfl fun a hE=>Zd hE Za ld rfl ?_))))); intro a hE
   obtain ⟨x10,hi12,hs6⟩:=bix hs6
   refine Zo hE Za ld rfl rfl Try.underlying23 Yv (hM.rd hv0_1) hi12.1 ?_; intro a hE
   obtain ⟨cs13,hs14,hA15⟩:=ZM hv0_1 hi12.2 -- ^
   obtain ⟨u16,rfl⟩:=WG hs14 -- ^
   have h17:=hs14 -- ^
   refine Zy (v:=u16) hE Za ld rfl Yv rfl (hM.atk hA15 (ZY hv0_1 hi12.2)) fun a hE=>ZF hE Za ld rfl Try.underlying22 (hM.rd h17) fun a hE=>Zd hE Za ld rfl fun a hE=>Zh hE Za ld rfl rfl rfl fun a hE=>Zf ?_
   refine Zm hE rfl ?_ ?_
   ·intro hb18
    have hs6:=Zr hs6 hb18
    refine Zb (Zc hE Za ld rfl fun a hE=>Zf ?_)
    have ht19:=hx7 _ (ois hs6)
    subst ht19
    have hr:=Option.some.inj hF3
    subst hr
    exact wp_ret (Z5 (Zj (Zj (Z5 (Zj (Zj (Zl hE rfl (Zg hE rfl) ⟨_,rfl,rfl,hM.kept⟩)))))))
   ·intro hb18
    have hs6:=Zs hs6 hb18
    refine wp_skip (Y0 (Zt (wp_region_lit (Zd hE Za ld rfl fun a hE=>Zh hE Za ld rfl rfl rfl fun a hE=>Zc hE Za ld rfl fun a hE=>Zi (Zk ?_)))))
    exact ⟨_,(ois hs6),hE.sub ⟨rfl,rfl,rfl,trivial⟩,hM⟩
  ·intro hb9
   have hs6:=Zs hs6 hb9
   refine wp_exit (Zp (Zp (Y7 ?_)))
   have ht20:=hx7 _ (ois hs6)
   subst ht20
   refine Zk ?_
   exact ⟨(),rfl,hE.sub ⟨rfl,trivial⟩,hM⟩
 ·skip
  rintro a w ⟨s4,ht,hE,hM⟩
  subst ht
  have hF3:=Wk hF3
  refine Zt (Zb (Zd hE Za ld rfl fun a hE=>ZF hE Za ld rfl Try.underlying23 (hM.rd hv0_1) fun a hE=>Zh hE Za ld rfl rfl rfl fun a hE=>Zc hE Za ld rfl fun a hE=>Zf ?_))
  have hr:=Option.some.inj hF3
  subst hr
  exact wp_ret (Zl hE rfl (Zg hE rfl) ⟨_,rfl,rfl,hM.kept⟩)
def Y2 (p0 : (List GShare)) (s8 : (List UInt8) × Int) : Option (Fl ((List UInt8) × Int) (List UInt8)) :=
 if (decide (s8.2 < (p0.length : Int))) = true then ((idx p0 s8.2).bind fun x15=>(app 1 s8.1 ([x15.Place] : List UInt8)).bind fun l25=>some (Fl.nx ((s8.1 ++ ([x15.Place] : List UInt8)),wr (s8.2 + 1)))) else (some (Fl.ex s8.1))
def Xn (p0 : (List GShare)) : Option ((List UInt8)) :=
 (ZB (Y2 p0) (([] : List UInt8),0)).bind fun j3=>some j3
theorem Ui (w0 : World) (p0 : (List GShare)) (v0_1 : Value) (hv0_1 : Ro w0 p0 [v0_1]) (r : (List UInt8)) (hF : Xn p0 = some r) :
  Calls Try.prog 57 [v0_1].toArray w0 (fun en w'=>∃ v,en = .returned v ∧ (∃ (y1 : Value),v = y1 ∧ Fr w0 w' [osl NoB (r : List UInt8) y1] ∧ Kept (Old w0) w0 w')):=by
 refine Zv (n:=21) Try.func57 rfl rfl (nbl rfl) rfl ?_
 intro a hE
 have hM:=M.start w0
 unfold Xn at hF
 refine Zb (Zc hE Za ld rfl fun a hE=>Zf (Zb (Y5 (xs:=[]) (l:=([] : List UInt8)) (vs:=[]) hE hM Za ld rfl rfl Try.underlying22 ty5 rfl (by decide) rfl fun u1 w a hM hE=>Zc hE Za ld rfl fun a hE=>Zf (wp_seq (Zb (Zc hE Za ld rfl fun a hE=>Zf ?_))))))
 obtain ⟨j3,hl4,hF5⟩:=bind_some hF
 refine ZS (fun a w=>∃ (u6 : Value),Env 21 a [(3,u6)] ∧ M (Old w0) w0 w [osl NoB (j3 : List UInt8) u6]) ?_ ?_
 ·skip
  refine wp_block ?_
  refine ZG (fun (s8 : (List UInt8) × Int) a w=>∃ (u9 : Value),Env 21 a [(0,v0_1),(3,u9),(4,vI s8.2)] ∧ M (Old w0) w0 w [osl NoB (s8.1 : List UInt8) u9]) hl4 ⟨u1,hE.sub ⟨rfl,rfl,rfl,trivial⟩,hM⟩ ?_
  rintro s8 a w ⟨u9,hE,hM⟩ o13 hs11 hx12
  unfold Y2 at hs11
  refine wp_seq (Zb (Zd hE Za ld rfl fun a hE=>Zd hE Za ld rfl fun a hE=>ZF hE Za ld rfl Try.underlying25 (hM.rd hv0_1) fun a hE=>Zh hE Za ld rfl rfl rfl fun a hE=>Zf ?_))
  refine Zm hE rfl ?_ ?_
  ·intro hb14
   have hs11:=Zr hs11 hb14
   refine wp_skip (Zt (wp_seq (wp_block (wp_region_lit (Zd hE Za ld rfl fun a hE=>Zd hE Za ld rfl fun a hE=>Zd hE Za ld rfl ?_))))); intro a hE
   obtain ⟨x15,hi17,hs11⟩:=bix hs11
   refine Zo hE Za ld rfl rfl Try.underlying25 ZR (hM.rd hv0_1) hi17.1 fun a hE=>Zn hE Za ld rfl (Wx) ?_; intro a hE
   obtain ⟨cs18,hs19,hA20⟩:=ZM hv0_1 hi17.2 -- ^
   obtain ⟨u21,rfl,h22⟩:=ZJ hs19 -- ^
   refine Zy (v:=(vB x15.Place)) hE Za ld rfl ty5 rfl (At.cat (pre:=[]) (hM.atk hA20 (ZY hv0_1 hi17.2)) cl0) fun a hE=>Y5 (xs:=[.tmp 17]) (l:=([x15.Place] : List UInt8)) (vs:=[vB x15.Place]) hE hM Za ld rfl rfl Try.underlying22 ty5 rfl (by decide) rfl ?_; intro u23 w a hM hE
   obtain ⟨l25,e26,hs11⟩:=bind_some hs11
   obtain ⟨e29,rfl⟩:=Xl e26
   have hM:=hM.pull (pre:=[_])
   refine XW hE hM Za ld rfl rfl (hM.sl (pre:=[_]) noB) Try.underlying22 ty5 rfl (by decide) e29 fun u27 w a hM hE=>Zc hE Za ld rfl fun a hE=>Zi (Y0 (Zt (wp_region_lit (Zd hE Za ld rfl fun a hE=>Zh hE Za ld rfl rfl rfl fun a hE=>Zc hE Za ld rfl fun a hE=>Zi (Zk ?_)))))
   have hM:=M.fst (l:=[_]) hM
   exact ⟨_,(ois hs11),u27,hE.sub ⟨rfl,rfl,rfl,trivial⟩,hM⟩
  ·intro hb14
   have hs11:=Zs hs11 hb14
   refine wp_exit (Zp (Zp (Y7 ?_)))
   have ht30:=hx12 _ (ois hs11)
   subst ht30
   refine Zk ?_
   exact ⟨u9,hE.sub ⟨rfl,trivial⟩,hM⟩
 ·skip
  rintro a w ⟨u6,hE,hM⟩
  refine Zt (Zb (Zd hE Za ld rfl fun a hE=>Zc hE Za ld rfl fun a hE=>Zf ?_))
  have hr:=Option.some.inj hF5
  subst hr
  exact wp_ret (Zl hE rfl (Zg hE rfl) ⟨_,rfl,u6,rfl,hM.outF (Wr Ws),hM.kept⟩)
def Z0 (p0 : Int) (s4 : Int × Int × Int) : Option (Fl (Int × Int × Int) Int) :=
 if (decide (s4.2.2 > 0)) = true then (((if ((Int.tmod s4.2.2 2) == 1) = true then (some (Ug s4.1 s4.2.1)) else (some s4.1) : Option (Int)).bind fun j12=>(if (decide ((wr (s4.2.1 * 2)) ≥ 256)) = true then (some (Ug (wr (s4.2.1 * 2)) p0)) else (some (wr (s4.2.1 * 2))) : Option (Int)).bind fun j18=>some (j12,j18) : Option (Int × Int)).bind fun j9=>some (Fl.nx (j9.1,j9.2,wr (Int.tdiv s4.2.2 2)))) else (some (Fl.ex s4.1))
def Xu (p0 : Int) (p1 : UInt8) (p2 : UInt8) : Option (UInt8) :=
 (ZB (Z0 p0) (0,bI p1,bI p2)).bind fun j1=>some (Xa j1)
theorem UG (w0 : World) (p0 : Int) (p1 : UInt8) (p2 : UInt8) (r : UInt8) (hF : Xu p0 p1 p2 = some r) :
  Calls Try.prog 140 [vI p0,vB p1,vB p2].toArray w0 (fun en w'=>∃ v,en = .returned v ∧ (v = (vB r) ∧ Kept (Old w0) w0 w')):=by
 refine Zv (n:=33) Try.func140 rfl rfl (nbl rfl) rfl ?_
 intro a hE
 have hM:=M.start w0
 unfold Xu at hF
 refine Zb (Zc hE Za ld rfl fun a hE=>Zf (Zb (Zd hE Za ld rfl fun a hE=>WX hE Za ld rfl Try.underlying5 Try.underlying2 ?_))); intro a hE
 rw [Up] at hE
 refine Zc hE Za ld rfl fun a hE=>Zc hE Za ld rfl fun a hE=>Zf (wp_seq (Zb (Zd hE Za ld rfl fun a hE=>WX hE Za ld rfl Try.underlying5 Try.underlying2 ?_))); intro a hE
 rw [Up] at hE
 refine Zc hE Za ld rfl fun a hE=>Zf ?_
 obtain ⟨j1,hl2,hF3⟩:=bind_some hF
 refine ZS (fun a w=>Env 33 a [(7,vI j1)] ∧ M (Old w0) w0 w []) ?_ ?_
 ·skip
  refine wp_block ?_
  refine ZG (fun (s4 : Int × Int × Int) a w=>Env 33 a [(0,vI p0),(7,vI s4.1),(8,vI s4.2.1),(9,vI s4.2.2)] ∧ M (Old w0) w0 w []) hl2 ⟨hE.sub ⟨rfl,rfl,rfl,rfl,trivial⟩,hM⟩ ?_
  rintro s4 a w ⟨hE,hM⟩ o7 hs5 hx6
  unfold Z0 at hs5
  refine wp_seq (Zb (Zd hE Za ld rfl fun a hE=>Zh hE Za ld rfl rfl rfl fun a hE=>Zf ?_))
  refine Zm hE rfl ?_ ?_
  ·intro hb8
   have hs5:=Zr hs5 hb8
   refine wp_skip (Zt ?_)
   obtain ⟨j9,hl10,hF11⟩:=bind_some hs5
   refine Ye (fun a w=>Env 33 a [(0,vI p0),(7,vI j9.1),(8,vI j9.2),(9,vI s4.2.2)] ∧ M (Old w0) w0 w []) ?_ ?_
   ·skip
    refine wp_block ?_
    obtain ⟨j12,hl13,hF14⟩:=bind_some hl10
    refine Ye (fun a w=>Env 33 a [(0,vI p0),(7,vI j12),(8,vI s4.2.1),(9,vI s4.2.2)] ∧ M (Old w0) w0 w []) ?_ ?_
    ·skip
     refine Zb (Zd hE Za ld rfl fun a hE=>Zh hE Za ld rfl rfl (bI_rem _ _ (by decide)) fun a hE=>Zh hE Za ld rfl rfl rfl fun a hE=>Zf ?_)
     refine Zm hE rfl ?_ ?_
     ·intro hb15
      have hl13:=Zr hl13 hb15
      refine wp_region_lit (Zd hE Za ld rfl fun a hE=>Zd hE Za ld rfl fun a hE=>Zh hE Za ld rfl rfl rfl fun a hE=>Zc hE Za ld rfl fun a hE=>Zi ?_)
      have ht16:=Option.some.inj hl13
      subst ht16
      refine Zk ?_
      exact ⟨hE.sub ⟨rfl,rfl,rfl,rfl,trivial⟩,hM⟩
     ·intro hb15
      have hl13:=Zs hl13 hb15
      refine wp_skip ?_
      have ht17:=Option.some.inj hl13
      subst ht17
      refine Zk ?_
      exact ⟨hE.sub ⟨rfl,rfl,rfl,rfl,trivial⟩,hM⟩
    ·skip
     rintro a w ⟨hE,hM⟩
     refine Zb (Zd hE Za ld rfl fun a hE=>Zh hE Za ld rfl rfl rfl fun a hE=>Zc hE Za ld rfl fun a hE=>Zf (Zb (Zd hE Za ld rfl fun a hE=>Zh hE Za ld rfl rfl rfl fun a hE=>Zf ?_)))
     obtain ⟨j18,hl19,hF20⟩:=bind_some hF14
     refine ZS (fun a w=>Env 33 a [(0,vI p0),(7,vI j12),(8,vI j18),(9,vI s4.2.2)] ∧ M (Old w0) w0 w []) ?_ ?_
     ·skip
      refine Zm hE rfl ?_ ?_
      ·intro hb21
       have hl19:=Zr hl19 hb21
       refine wp_region_lit (Zd hE Za ld rfl fun a hE=>Zd hE Za ld rfl fun a hE=>Zh hE Za ld rfl rfl rfl fun a hE=>Zc hE Za ld rfl fun a hE=>Zi ?_)
       have ht22:=Option.some.inj hl19
       subst ht22
       refine Zk ?_
       exact ⟨hE.sub ⟨rfl,rfl,rfl,rfl,trivial⟩,hM⟩
      ·intro hb21
       have hl19:=Zs hl19 hb21
       refine wp_skip ?_
       have ht23:=Option.some.inj hl19
       subst ht23
       refine Zk ?_
       exact ⟨hE.sub ⟨rfl,rfl,rfl,rfl,trivial⟩,hM⟩
     ·skip
      rintro a w ⟨hE,hM⟩
      refine Y0 ?_
      have ht24:=Option.some.inj hF20
      subst ht24
      refine Zk ?_
      exact ⟨hE.sub ⟨rfl,rfl,rfl,rfl,trivial⟩,hM⟩
   ·skip
    rintro a w ⟨hE,hM⟩
    refine wp_region_lit (Zd hE Za ld rfl fun a hE=>Zh hE Za ld rfl rfl (KH _ _ (by decide)) fun a hE=>Zc hE Za ld rfl fun a hE=>Zi (Zk ?_))
    exact ⟨_,(ois hF11),hE.sub ⟨rfl,rfl,rfl,rfl,trivial⟩,hM⟩
  ·intro hb8
   have hs5:=Zs hs5 hb8
   refine wp_exit (Zp (Zp (Y7 ?_)))
   have ht25:=hx6 _ (ois hs5)
   subst ht25
   refine Zk ?_
   exact ⟨hE.sub ⟨rfl,trivial⟩,hM⟩
 ·skip
  rintro a w ⟨hE,hM⟩
  refine Zt (Zb (Zd hE Za ld rfl fun a hE=>WX hE Za ld rfl Try.underlying2 Try.underlying5 ?_)); intro a hE
  rw [Wn] at hE
  refine Zc hE Za ld rfl fun a hE=>Zf ?_
  have hr:=Option.some.inj hF3
  subst hr
  exact wp_ret (Zl hE rfl (Zg hE rfl) ⟨_,rfl,rfl,hM.kept⟩)
def Yh (p0 : Int) (p1 : (List UInt8)) (p2 : UInt8) (s4 : UInt8 × Int) : Option (Fl (UInt8 × Int) UInt8) :=
 if (decide (s4.2 ≥ 0)) = true then ((Xu p0 s4.1 p2).bind fun r10=>(idx p1 s4.2).bind fun x12=>some (Fl.nx (r10 ^^^ x12,wr (s4.2 - 1)))) else (some (Fl.ex s4.1))
def XD (p0 : Int) (p1 : (List UInt8)) (p2 : UInt8) : Option (UInt8) :=
 (ZB (Yh p0 p1 p2) (0,wr ((p1.length : Int) - 1))).bind fun j1=>some j1
theorem UO (w0 : World) (p0 : Int) (p1 : (List UInt8)) (v1_1 : Value) (hv1_1 : Ro w0 p1 [v1_1]) (p2 : UInt8) (r : UInt8) (hF : XD p0 p1 p2 = some r) :
  Calls Try.prog 97 [vI p0,v1_1,vB p2].toArray w0 (fun en w'=>∃ v,en = .returned v ∧ (v = (vB r) ∧ Kept (Old w0) w0 w')):=by
 refine Zv (n:=26) Try.func97 rfl rfl (nbl rfl) rfl ?_
 intro a hE
 have hM:=M.start w0
 unfold XD at hF
 refine Zb (Zc hE Za ld rfl fun a hE=>Zf (Zb (Zc hE Za ld rfl fun a hE=>Zf (wp_seq (Zb (Zd hE Za ld rfl fun a hE=>ZF hE Za ld rfl Try.underlying22 (hM.rd hv1_1) fun a hE=>Zh hE Za ld rfl rfl rfl fun a hE=>Zc hE Za ld rfl fun a hE=>Zf ?_))))))
 obtain ⟨j1,hl2,hF3⟩:=bind_some hF
 refine ZS (fun a w=>Env 26 a [(7,vB j1)] ∧ M (Old w0) w0 w []) ?_ ?_
 ·skip
  refine wp_block ?_
  refine ZG (fun (s4 : UInt8 × Int) a w=>Env 26 a [(0,vI p0),(1,v1_1),(2,vB p2),(7,vB s4.1),(8,vI s4.2)] ∧ M (Old w0) w0 w []) hl2 ⟨hE.sub ⟨rfl,rfl,rfl,rfl,rfl,trivial⟩,hM⟩ ?_
  rintro s4 a w ⟨hE,hM⟩ o7 hs5 hx6
  unfold Yh at hs5
  refine wp_seq (Zb (Zd hE Za ld rfl fun a hE=>Zh hE Za ld rfl rfl rfl fun a hE=>Zf ?_))
  refine Zm hE rfl ?_ ?_
  ·intro hb8
   have hs5:=Zr hs5 hb8
   refine wp_skip (Zt (wp_seq (wp_block ?_)))
   obtain ⟨r10,e11,hs5⟩:=bind_some hs5
   obtain ⟨x12,hi14,hs5⟩:=bix hs5
   refine Vx (n:=26) (hd:=[_,_,_,_,_,_,_,_,_]) (tl:=[_]) Uo rfl rfl [16,17,18,19,20,21,22,23,24] (by decide) (fun w=>M (Old w0) w0 w []) (fun j=>([fun v _=>v = (vI p0),fun v _=>v = (vB s4.1),fun v _=>v = (vB p2),fun v _=>v = (vB r10),fun v _=>v = v1_1,fun v _=>v = (vI s4.2),fun v _=>v = (ptr (sb v1_1) (so v1_1 + (s4.2).toNat * 1)),fun v _=>v = (vB x12),fun v _=>v = (vB (r10 ^^^ x12))] : List (Value → World → Prop)).getD j (fun _ _=>True)) (fun _ _ h hk=>h.keep hk) (gup (ZL (ZL (ZL (ZL (ZL (ZL (ZL (ZL (ZL Qy)))))))))) hE hM.drew (Xh (Ze ?_ (Ze ?_ (Ze ?_ (Ze ?_ (Ze ?_ (Ze ?_ (Ze ?_ (Ze ?_ (Ze ?_ YE)))))))))) ?_
   ·exact fun a w ux9 hE hM hp=>Zd hE Za ld rfl fun a hE=>⟨Kept.refl _ _,_,_,rfl,hE,rfl⟩
   ·exact fun a w ux9 hE hM hp=>Zd hE Za ld rfl fun a hE=>⟨Kept.refl _ _,_,_,rfl,hE,rfl⟩
   ·exact fun a w ux9 hE hM hp=>Zd hE Za ld rfl fun a hE=>⟨Kept.refl _ _,_,_,rfl,hE,rfl⟩
   ·intro a w ux9 hE hM hp
    have f0 : ux9 0 = (vI p0):=hp 0 _ rfl rfl
    have f1 : ux9 1 = (vB s4.1):=hp 1 _ rfl rfl
    have f2 : ux9 2 = (vB p2):=hp 2 _ rfl rfl
    refine Zu hE Za ld (WP (WR (lk rfl f0) (WR (lk rfl f1) (WR (lk rfl f2) U9)))) cb140 (UG _ p0 s4.1 p2 r10 e11) ?_
    rintro v w a ⟨rfl,hK⟩ hE
    exact ⟨hK,_,_,rfl,hE,rfl⟩
   ·exact fun a w ux9 hE hM hp=>Zd hE Za ld rfl fun a hE=>⟨Kept.refl _ _,_,_,rfl,hE,rfl⟩
   ·exact fun a w ux9 hE hM hp=>Zd hE Za ld rfl fun a hE=>⟨Kept.refl _ _,_,_,rfl,hE,rfl⟩
   ·intro a w ux9 hE hM hp
    have f4 : ux9 4 = v1_1:=hp 0 _ rfl rfl
    have f5 : ux9 5 = (vI s4.2):=hp 1 _ rfl rfl
    exact Zo hE Za ld (lk rfl f4) (lk rfl f5) Try.underlying22 ty5 (hM.rd hv1_1) hi14.1 fun a hE=>⟨Kept.refl _ _,_,_,rfl,hE,rfl⟩
   ·intro a w ux9 hE hM hp
    have f6 : ux9 6 = (ptr (sb v1_1) (so v1_1 + (s4.2).toNat * 1)):=hp 0 _ rfl rfl
    exact Zy (v:=(vB x12)) hE Za ld (lk rfl f6) ty5 rfl (Xr (hM.rd hv1_1) hi14.2) fun a hE=>⟨Kept.refl _ _,_,_,rfl,hE,rfl⟩
   ·intro a w ux9 hE hM hp
    have f3 : ux9 3 = (vB r10):=hp 0 _ rfl rfl
    have f7 : ux9 7 = (vB x12):=hp 1 _ rfl rfl
    exact Zh hE Za ld (lk rfl f3) (lk rfl f7) (Qa r10 x12) fun a hE=>⟨Kept.refl _ _,_,_,rfl,hE,rfl⟩
   ·intro a w ux9 hE hM hg
    have hE:=hE.sub (e':=[(24,(vB (r10 ^^^ x12))),(0,vI p0),(1,v1_1),(2,vB p2),(7,vB s4.1),(8,vI s4.2),(12,vI s4.2),(13,(vT (decide (s4.2 ≥ 0))))]) ⟨lk rfl (hg 8 (by decide)),rfl,rfl,rfl,rfl,rfl,rfl,rfl,trivial⟩
    refine Zc hE Za ld rfl fun a hE=>Zi (Y0 (Zt (wp_region_lit (Zd hE Za ld rfl fun a hE=>Zh hE Za ld rfl rfl rfl fun a hE=>Zc hE Za ld rfl fun a hE=>Zi (Zk ?_)))))
    exact ⟨_,(ois hs5),hE.sub ⟨rfl,rfl,rfl,rfl,rfl,trivial⟩,hM⟩
  ·intro hb8
   have hs5:=Zs hs5 hb8
   refine wp_exit (Zp (Zp (Y7 ?_)))
   have ht15:=hx6 _ (ois hs5)
   subst ht15
   refine Zk ?_
   exact ⟨hE.sub ⟨rfl,trivial⟩,hM⟩
 ·skip
  rintro a w ⟨hE,hM⟩
  refine Zt (Zb (Zd hE Za ld rfl fun a hE=>Zc hE Za ld rfl fun a hE=>Zf ?_))
  have hr:=Option.some.inj hF3
  subst hr
  exact wp_ret (Zl hE rfl (Zg hE rfl) ⟨_,rfl,rfl,hM.kept⟩)
def YT (p2 : (List (List UInt8))) (s25 : (List UInt8) × Int) (s43 : (List UInt8) × Int) : Option (Fl ((List UInt8) × Int) (List UInt8)) :=
 if (decide (s43.2 < (p2.length : Int))) = true then ((idx p2 s43.2).bind fun x50=>(idx x50 s25.2).bind fun x58=>(app 1 s43.1 ([x58] : List UInt8)).bind fun l63=>some (Fl.nx ((s43.1 ++ ([x58] : List UInt8)),wr (s43.2 + 1)))) else (some (Fl.ex s43.1))
def YY (p0 : Int) (p1 : (List UInt8)) (p2 : (List (List UInt8))) (p3 : (List UInt8)) (s8 : Int × (List GShare)) (s25 : (List UInt8) × Int) : Option (Fl ((List UInt8) × Int) (List UInt8)) :=
 if (decide (s25.2 < (p1.length : Int))) = true then ((idx p1 s25.2).bind fun x33=>(ZB (YT p2 s25) (([x33] : List UInt8),0)).bind fun j38=>(idx p3 s8.1).bind fun x70=>(XD p0 j38 x70).bind fun r73=>(app 1 s25.1 ([r73] : List UInt8)).bind fun l77=>some (Fl.nx ((s25.1 ++ ([r73] : List UInt8)),wr (s25.2 + 1)))) else (some (Fl.ex s25.1))
def YX (p0 : Int) (p1 : (List UInt8)) (p2 : (List (List UInt8))) (p3 : (List UInt8)) (s8 : Int × (List GShare)) : Option (Fl (Int × (List GShare)) (List GShare)) :=
 if (decide (s8.1 < (p3.length : Int))) = true then ((idx p3 s8.1).bind fun x15=>(ZB (YY p0 p1 p2 p3 s8) ([],0)).bind fun j20=>(app 32 s8.2 ([(⟨x15,j20⟩ : GShare)] : List GShare)).bind fun l85=>some (Fl.nx (wr (s8.1 + 1),(s8.2 ++ ([(⟨x15,j20⟩ : GShare)] : List GShare))))) else (some (Fl.ex s8.2))
def XQ (p0 : Int) (p1 : (List UInt8)) (p2 : (List (List UInt8))) (p3 : (List UInt8)) : Option ((List GShare)) :=
 (ZB (YX p0 p1 p2 p3) (0,([] : List GShare))).bind fun j3=>some j3
theorem U0 (w0 : World) (p0 : Int) (p1 : (List UInt8)) (v1_1 : Value) (hv1_1 : Ro w0 p1 [v1_1]) (p2 : (List (List UInt8))) (v2_1 : Value) (hv2_1 : Ro w0 p2 [v2_1]) (p3 : (List UInt8)) (v3_1 : Value) (hv3_1 : Ro w0 p3 [v3_1]) (r : (List GShare)) (hF : XQ p0 p1 p2 p3 = some r) :
  Calls Try.prog 46 [vI p0,v1_1,v2_1,v3_1].toArray w0 (fun en w'=>∃ v,en = .returned v ∧ (∃ (y1 : Value),v = y1 ∧ Fr w0 w' [osl NoB (r : List GShare) y1] ∧ Kept (Old w0) w0 w')):=by
 refine Zv (n:=71) Try.func46 rfl rfl (nbl rfl) rfl ?_
 intro a hE
 have hM:=M.start w0
 unfold XQ at hF
 refine Zb (Zc hE Za ld rfl fun a hE=>Zf (Zb (VF (xs:=[]) (S:=NoB) (l:=([] : List GShare)) (vs:=[]) hE hM.emp noB Za ld rfl rfl rfl Try.underlying25 ZR rfl (by decide) (fun _ h=>⟨rfl,h⟩) (fun _ h=>by cases h) fun u1 w a hM hE=>Zc hE Za ld rfl fun a hE=>Zf (wp_seq (Zb (Zc hE Za ld rfl fun a hE=>Zf ?_))))))
 obtain ⟨j3,hl4,hF5⟩:=bind_some hF
 refine ZS (fun a w=>∃ (u6 : Value),Env 71 a [(9,u6)] ∧ M (Old w0) w0 w [osl NoB (j3 : List GShare) u6]) ?_ ?_
 ·skip
  refine wp_block ?_
  refine ZG (fun (s8 : Int × (List GShare)) a w=>∃ (u9 : Value),Env 71 a [(0,vI p0),(1,v1_1),(2,v2_1),(3,v3_1),(9,u9),(10,vI s8.1)] ∧ M (Old w0) w0 w [osl NoB (s8.2 : List GShare) u9]) hl4 ⟨u1,hE.sub ⟨rfl,rfl,rfl,rfl,rfl,rfl,trivial⟩,hM⟩ ?_
  rintro s8 a w ⟨u9,hE,hM⟩ o13 hs11 hx12
  unfold YX at hs11
  refine wp_seq (Zb (Zd hE Za ld rfl fun a hE=>Zd hE Za ld rfl fun a hE=>ZF hE Za ld rfl Try.underlying22 (hM.rd hv3_1) fun a hE=>Zh hE Za ld rfl rfl rfl fun a hE=>Zf ?_))
  refine Zm hE rfl ?_ ?_
  ·intro hb14
   have hs11:=Zr hs11 hb14
   refine wp_skip (Zt (wp_seq (wp_block (Zb (Zd hE Za ld rfl fun a hE=>Zd hE Za ld rfl ?_))))); intro a hE
   obtain ⟨x15,hi17,hs11⟩:=bix hs11
   refine Zo hE Za ld rfl rfl Try.underlying22 ty5 (hM.rd hv3_1) hi17.1 fun a hE=>Zy (v:=(vB x15)) hE Za ld rfl ty5 rfl (Xr (hM.rd hv3_1) hi17.2) fun a hE=>Vc (parts:=[(0,.tmp 25)]) (vs:=[(0,vB x15)]) (cs:=cat [[vB x15],[(Value.slice none 0 0)]]) hE Za ld rfl rfl ZR pl86 (W6 (pre:=[]) (seg:=[vB 0]) (seg':=[vB x15]) (post:=[[(Value.slice none 0 0)]]) rfl cl0 rfl rfl rfl V7) fun a hE=>Vb hE hM Za ld ZR fun b18 w a hM hE=>We (seg:=cat [[vB x15],[(Value.slice none 0 0)]]) (cs':=cat [[vB x15],[(Value.slice none 0 0)]]) hE hM Za rfl rfl rfl ZR (ZC (cl1 (n:=1) (m:=1) rfl (cl1 (n:=1) (m:=0) rfl cl0))) (Nat.le_of_eq ((Nat.zero_add _).trans (Eq.trans (ZC (cl1 (n:=1) (m:=1) rfl (cl1 (n:=1) (m:=0) rfl cl0))) (Eq.symm (ZC (cl1 (n:=1) (m:=1) rfl (cl1 (n:=1) (m:=0) rfl cl0))))))) (Va (cc1 (Flat.cell (x15 : UInt8)) (cc1 T9 cc0))) (Y8 (Eq.trans (ZC (cl1 (n:=1) (m:=1) rfl (cl1 (n:=1) (m:=0) rfl cl0))) (Eq.symm (ZC (cl1 (n:=1) (m:=1) rfl (cl1 (n:=1) (m:=0) rfl cl0)))))) fun w a hM hE=>Zf (wp_seq (Zb (Zc hE Za ld rfl fun a hE=>Zf ?_)))
   obtain ⟨j20,hl21,hF22⟩:=bind_some hs11
   refine ZS (fun a w=>∃ (u23 : Value),Env 71 a [(0,vI p0),(1,v1_1),(2,v2_1),(3,v3_1),(9,u9),(10,vI s8.1),(11,(ptr b18 0))] ∧ M (Old w0) w0 w [raw b18 (cat [[vB x15],[u23]]),osl NoB (s8.2 : List GShare) u9,osl NoB (j20 : List UInt8) u23]) ?_ ?_
   ·skip
    refine wp_block ?_
    have hM:=((M.nilS (α:=UInt8) NoB noB hM).pull (pre:=[_,_])).pull (pre:=[_,_])
    refine ZG (fun (s25 : (List UInt8) × Int) a w=>∃ (u26 : Value),Env 71 a [(0,vI p0),(1,v1_1),(2,v2_1),(3,v3_1),(9,u9),(10,vI s8.1),(11,(ptr b18 0)),(12,vI s25.2)] ∧ M (Old w0) w0 w [raw b18 (cat [[vB x15],[u26]]),osl NoB (s8.2 : List GShare) u9,osl NoB (s25.1 : List UInt8) u26]) hl21 ⟨(Value.slice none 0 0),hE.sub ⟨rfl,rfl,rfl,rfl,rfl,rfl,rfl,rfl,trivial⟩,hM⟩ ?_
    rintro s25 a w ⟨u26,hE,hM⟩ o30 hs28 hx29
    unfold YY at hs28
    refine wp_seq (Zb (Zd hE Za ld rfl fun a hE=>Zd hE Za ld rfl fun a hE=>ZF hE Za ld rfl Try.underlying22 (hM.rd hv1_1) fun a hE=>Zh hE Za ld rfl rfl rfl fun a hE=>Zf ?_))
    refine Zm hE rfl ?_ ?_
    ·intro hb32
     have hs28:=Zr hs28 hb32
     refine wp_skip (Zt (wp_seq (wp_block (Zb (Zd hE Za ld rfl fun a hE=>Zd hE Za ld rfl ?_))))); intro a hE
     obtain ⟨x33,hi35,hs28⟩:=bix hs28
     refine Zo hE Za ld rfl rfl Try.underlying22 ty5 (hM.rd hv1_1) hi35.1 fun a hE=>Zy (v:=(vB x33)) hE Za ld rfl ty5 rfl (Xr (hM.rd hv1_1) hi35.2) fun a hE=>Y5 (xs:=[.tmp 36]) (l:=([x33] : List UInt8)) (vs:=[vB x33]) hE hM Za ld rfl rfl Try.underlying22 ty5 rfl (by decide) rfl fun u36 w a hM hE=>Zc hE Za ld rfl fun a hE=>Zf (wp_seq (Zb (Zc hE Za ld rfl fun a hE=>Zf ?_)))
     obtain ⟨j38,hl39,hF40⟩:=bind_some hs28
     refine ZS (fun a w=>∃ (u41 : Value),Env 71 a [(0,vI p0),(1,v1_1),(2,v2_1),(3,v3_1),(9,u9),(10,vI s8.1),(11,(ptr b18 0)),(12,vI s25.2),(13,u41)] ∧ M (Old w0) w0 w [raw b18 (cat [[vB x15],[u26]]),osl NoB (s8.2 : List GShare) u9,osl NoB (s25.1 : List UInt8) u26,osl NoB (j38 : List UInt8) u41]) ?_ ?_
     ·skip
      refine wp_block ?_
      have hM:=((hM.pull (pre:=[_,_,_])).pull (pre:=[_,_,_])).pull (pre:=[_,_,_])
      refine ZG (fun (s43 : (List UInt8) × Int) a w=>∃ (u44 : Value),Env 71 a [(0,vI p0),(1,v1_1),(2,v2_1),(3,v3_1),(9,u9),(10,vI s8.1),(11,(ptr b18 0)),(12,vI s25.2),(13,u44),(14,vI s43.2)] ∧ M (Old w0) w0 w [raw b18 (cat [[vB x15],[u26]]),osl NoB (s8.2 : List GShare) u9,osl NoB (s25.1 : List UInt8) u26,osl NoB (s43.1 : List UInt8) u44]) hl39 ⟨u36,hE.sub ⟨rfl,rfl,rfl,rfl,rfl,rfl,rfl,rfl,rfl,rfl,trivial⟩,hM⟩ ?_
      rintro s43 a w ⟨u44,hE,hM⟩ o48 hs46 hx47
      unfold YT at hs46
      refine wp_seq (Zb (Zd hE Za ld rfl fun a hE=>Zd hE Za ld rfl fun a hE=>ZF hE Za ld rfl Try.underlying23 (hM.rd hv2_1) fun a hE=>Zh hE Za ld rfl rfl rfl fun a hE=>Zf ?_))
      refine Zm hE rfl ?_ ?_
      ·intro hb49
       have hs46:=Zr hs46 hb49
       refine wp_skip (Zt (wp_seq (wp_block (wp_region_lit (Zd hE Za ld rfl fun a hE=>Zd hE Za ld rfl fun a hE=>Zd hE Za ld rfl ?_))))); intro a hE
       obtain ⟨x50,hi52,hs46⟩:=bix hs46
       refine Zo hE Za ld rfl rfl Try.underlying23 Yv (hM.rd hv2_1) hi52.1 ?_; intro a hE
       obtain ⟨cs53,hs54,hA55⟩:=ZM hv2_1 hi52.2 -- ^
       obtain ⟨u56,rfl⟩:=WG hs54 -- ^
       have h57:=hs54 -- ^
       refine Zy (v:=u56) hE Za ld rfl Yv rfl (hM.atk hA55 (ZY hv2_1 hi52.2)) fun a hE=>Zd hE Za ld rfl ?_; intro a hE
       obtain ⟨x58,hi60,hs46⟩:=bix hs46
       refine Zo hE Za ld rfl rfl Try.underlying22 ty5 (hM.rd h57) hi60.1 fun a hE=>Zy (v:=(vB x58)) hE Za ld rfl ty5 rfl (Xr (hM.rd h57) hi60.2) fun a hE=>Y5 (xs:=[.tmp 51]) (l:=([x58] : List UInt8)) (vs:=[vB x58]) hE hM Za ld rfl rfl Try.underlying22 ty5 rfl (by decide) rfl ?_; intro u61 w a hM hE
       obtain ⟨l63,e64,hs46⟩:=bind_some hs46
       obtain ⟨e67,rfl⟩:=Xl e64
       have hM:=hM.pull (pre:=[_,_,_,_])
       refine XW hE hM Za ld rfl rfl (hM.sl (pre:=[_]) noB) Try.underlying22 ty5 rfl (by decide) e67 fun u65 w a hM hE=>Zc hE Za ld rfl fun a hE=>Zi (Y0 (Zt (wp_region_lit (Zd hE Za ld rfl fun a hE=>Zh hE Za ld rfl rfl rfl fun a hE=>Zc hE Za ld rfl fun a hE=>Zi (Zk ?_)))))
       have hM:=M.fst (l:=[_,_,_,_]) (((hM.pull (pre:=[_,_,_,_])).pull (pre:=[_,_,_,_])).pull (pre:=[_,_,_,_]))
       exact ⟨_,(ois hs46),u65,hE.sub ⟨rfl,rfl,rfl,rfl,rfl,rfl,rfl,rfl,rfl,rfl,trivial⟩,hM⟩
      ·intro hb49
       have hs46:=Zs hs46 hb49
       refine wp_exit (Zp (Zp (Y7 ?_)))
       have ht68:=hx47 _ (ois hs46)
       subst ht68
       refine Zk ?_
       exact ⟨u44,hE.sub ⟨rfl,rfl,rfl,rfl,rfl,rfl,rfl,rfl,rfl,trivial⟩,hM⟩
     ·skip
      rintro a w ⟨u41,hE,hM⟩
      refine Zt ?_
      obtain ⟨x70,hi72,hF40⟩:=bix hF40
      obtain ⟨r73,e74,hF40⟩:=bind_some hF40
      refine Ue (n:=71) (hd:=[_,_,_,_,_,_,_,_,_,_]) (tl:=[_,_,_]) (its:=[raw b18 (cat [[vB x15],[u26]]),osl NoB (s8.2 : List GShare) u9,osl NoB (s25.1 : List UInt8) u26,osl NoB (j38 : List UInt8) u41]) Uo rfl rfl [54,55,56,57,58,59,60,61,62,63] (by decide) [(9,fun v=>osl NoB (([r73] : List UInt8) : List UInt8) v)] rfl (fun j=>([fun v=>v = (ptr b18 (0 + 1)),fun v=>v = u26,fun v=>v = (vI p0),fun v=>v = u41,fun v=>v = v3_1,fun v=>v = (vI s8.1),fun v=>v = (ptr (sb v3_1) (so v3_1 + (s8.1).toNat * 1)),fun v=>v = (vB x70),fun v=>v = (vB r73),fun v=>True] : List (Value → Prop)).getD j (fun _=>True)) hE hM.drew (Xh (Ze ?_ (Ze ?_ (Ze ?_ (Ze ?_ (Ze ?_ (Ze ?_ (Ze ?_ (Ze ?_ (Ze ?_ (Ze ?_ YE))))))))))) ?_
      ·intro a w ux69 D hE hM hD hp
       have hM0:=hM
       exact Zn hE Za ld rfl (Yr) fun a hE=>⟨_,_,rfl,hE,rfl,hM0.optKeep rfl⟩
      ·intro a w ux69 D hE hM hD hp
       have f0 : ux69 0 = (ptr b18 (0 + 1)):=(hp 0 _ rfl rfl).2
       have hM0:=hM
       have hM : M (Old w0) w0 w [raw b18 (cat [[vB x15],[u26]]),osl NoB (s8.2 : List GShare) u9,osl NoB (s25.1 : List UInt8) u26,osl NoB (j38 : List UInt8) u41,opt (D 9) (osl NoB (([r73] : List UInt8) : List UInt8) (ux69 9))]:=hM
       exact Zy (v:=u26) hE Za ld (lk rfl f0) Yv rfl (At.cat (pre:=[[vB x15]]) (hM.rawAt (pre:=[])) (cl1 (n:=1) (m:=0) rfl cl0)) fun a hE=>⟨_,_,rfl,hE,rfl,hM0.optKeep rfl⟩
      ·intro a w ux69 D hE hM hD hp
       have hM0:=hM
       exact Zd hE Za ld rfl fun a hE=>⟨_,_,rfl,hE,rfl,hM0.optKeep rfl⟩
      ·intro a w ux69 D hE hM hD hp
       have hM0:=hM
       exact Zd hE Za ld rfl fun a hE=>⟨_,_,rfl,hE,rfl,hM0.optKeep rfl⟩
      ·intro a w ux69 D hE hM hD hp
       have hM0:=hM
       exact Zd hE Za ld rfl fun a hE=>⟨_,_,rfl,hE,rfl,hM0.optKeep rfl⟩
      ·intro a w ux69 D hE hM hD hp
       have hM0:=hM
       exact Zd hE Za ld rfl fun a hE=>⟨_,_,rfl,hE,rfl,hM0.optKeep rfl⟩
      ·intro a w ux69 D hE hM hD hp
       have f4 : ux69 4 = v3_1:=(hp 0 _ rfl rfl).2
       have f5 : ux69 5 = (vI s8.1):=(hp 1 _ rfl rfl).2
       have hM0:=hM
       have hM : M (Old w0) w0 w [raw b18 (cat [[vB x15],[u26]]),osl NoB (s8.2 : List GShare) u9,osl NoB (s25.1 : List UInt8) u26,osl NoB (j38 : List UInt8) u41,opt (D 9) (osl NoB (([r73] : List UInt8) : List UInt8) (ux69 9))]:=hM
       exact Zo hE Za ld (lk rfl f4) (lk rfl f5) Try.underlying22 ty5 (hM.rd hv3_1) hi72.1 fun a hE=>⟨_,_,rfl,hE,rfl,hM0.optKeep rfl⟩
      ·intro a w ux69 D hE hM hD hp
       have f6 : ux69 6 = (ptr (sb v3_1) (so v3_1 + (s8.1).toNat * 1)):=(hp 0 _ rfl rfl).2
       have hM0:=hM
       have hM : M (Old w0) w0 w [raw b18 (cat [[vB x15],[u26]]),osl NoB (s8.2 : List GShare) u9,osl NoB (s25.1 : List UInt8) u26,osl NoB (j38 : List UInt8) u41,opt (D 9) (osl NoB (([r73] : List UInt8) : List UInt8) (ux69 9))]:=hM
       exact Zy (v:=(vB x70)) hE Za ld (lk rfl f6) ty5 rfl (Xr (hM.rd hv3_1) hi72.2) fun a hE=>⟨_,_,rfl,hE,rfl,hM0.optKeep rfl⟩
      ·intro a w ux69 D hE hM hD hp
       have f2 : ux69 2 = (vI p0):=(hp 0 _ rfl rfl).2
       have f3 : ux69 3 = u41:=(hp 1 _ rfl rfl).2
       have f7 : ux69 7 = (vB x70):=(hp 2 _ rfl rfl).2
       have hM0:=hM
       have hM : M (Old w0) w0 w [raw b18 (cat [[vB x15],[u26]]),osl NoB (s8.2 : List GShare) u9,osl NoB (s25.1 : List UInt8) u26,osl NoB (j38 : List UInt8) u41,opt (D 9) (osl NoB (([r73] : List UInt8) : List UInt8) (ux69 9))]:=hM
       refine Zu hE Za ld (WP (WR (lk rfl f2) (WR (lk rfl f3) (WR (lk rfl f7) U9)))) cb97 (UO _ p0 j38 u41 (hM.sl (pre:=[_,_,_]) noB) x70 r73 e74) ?_
       rintro v w a ⟨rfl,hK⟩ hE
       exact ⟨_,_,rfl,hE,rfl,(hM0.keep hK).optKeep rfl⟩
      ·intro a w ux69 D hE hM hD hp
       have f8 : ux69 8 = (vB r73):=(hp 0 _ rfl rfl).2
       have hM0:=hM
       have hM : M (Old w0) w0 w [raw b18 (cat [[vB x15],[u26]]),osl NoB (s8.2 : List GShare) u9,osl NoB (s25.1 : List UInt8) u26,osl NoB (j38 : List UInt8) u41,opt (D 9) (osl NoB (([r73] : List UInt8) : List UInt8) (ux69 9))]:=hM
       exact Y5 (xs:=[.tmp 62]) (l:=([r73] : List UInt8)) (vs:=[vB r73]) hE hM Za ld (WP (WR (lk rfl f8) U9)) rfl Try.underlying22 ty5 rfl (by decide) rfl fun u75 w a hM hE=>⟨_,_,rfl,hE,trivial,M.optFill (mk1:=[]) (mk2:=[]) (f:=(fun v=>osl NoB (([r73] : List UInt8) : List UInt8) v)) hM rfl hD⟩
      ·intro a w ux69 hE hM hg
       have hM : M (Old w0) w0 w [raw b18 (cat [[vB x15],[u26]]),osl NoB (s8.2 : List GShare) u9,osl NoB (s25.1 : List UInt8) u26,osl NoB (j38 : List UInt8) u41,osl NoB (([r73] : List UInt8) : List UInt8) (ux69 9)]:=hM
       have hE:=hE.sub (e':=[(55,u26),(63,(ux69 9)),(0,vI p0),(1,v1_1),(2,v2_1),(3,v3_1),(9,u9),(10,vI s8.1),(11,(ptr b18 0)),(12,vI s25.2),(13,u41)]) ⟨lk rfl (hg 1 (by decide)),rfl,rfl,rfl,rfl,rfl,rfl,rfl,rfl,rfl,rfl,trivial⟩
       obtain ⟨l77,e78,hF40⟩:=bind_some hF40
       obtain ⟨e81,rfl⟩:=Xl e78
       have hM:=hM.pull (pre:=[_,_])
       refine XW hE hM Za ld rfl rfl (hM.sl (pre:=[_,_,_,_]) noB) Try.underlying22 ty5 rfl (by decide) e81 fun u79 w a hM hE=>Zn hE Za ld rfl (Yr) ?_; intro a hE
       have hM:=hM.pull (pre:=[_])
       refine We (seg:=[u79]) hE hM Za rfl rfl (WN (hM.sl (pre:=[_]) noB)) Yv rfl (VE (pre:=[[vB x15]]) (cl1 (n:=1) (m:=0) rfl cl0) rfl) (Rep.cell (hM.sl (pre:=[_]) noB)) (Wb (pre:=[[vB x15]]) (cl1 (n:=1) (m:=0) rfl cl0) rfl) fun w a hM hE=>Zi (Y0 (Zt (wp_region_lit (Zd hE Za ld rfl fun a hE=>Zh hE Za ld rfl rfl rfl fun a hE=>Zc hE Za ld rfl fun a hE=>Zi (Zk ?_)))))
       have hM:=M.fst (l:=[_,_,_]) (((hM.pull (pre:=[_])).pull (pre:=[_,_])).pull (pre:=[_,_]))
       exact ⟨_,(ois hF40),u79,hE.sub ⟨rfl,rfl,rfl,rfl,rfl,rfl,rfl,rfl,trivial⟩,hM⟩
    ·intro hb32
     have hs28:=Zs hs28 hb32
     refine wp_exit (Zp (Zp (Y7 ?_)))
     have ht82:=hx29 _ (ois hs28)
     subst ht82
     refine Zk ?_
     exact ⟨u26,hE.sub ⟨rfl,rfl,rfl,rfl,rfl,rfl,rfl,trivial⟩,hM⟩
   ·skip
    rintro a w ⟨u23,hE,hM⟩
    refine Zt (wp_region_lit (Zd hE Za ld rfl fun a hE=>XY (cs:=cat [[vB x15],[u23]]) hE Za ld rfl ZR rfl (hM.rawAt (pre:=[])) (ZC (cl1 (n:=1) (m:=1) rfl (cl1 (n:=1) (m:=0) rfl cl0))) ?_)); intro a hE
    have hM:=hM.pull (pre:=[_,_])
    have hM:=hM.pack1 (it:=own NoB (⟨x15,j20⟩ : GShare) (cat [[vB x15],[u23]])) (Wq noB) (fun f0 q0=>(Wc (Yx.sat q0) (by simp)))
    refine V2 (xs:=[.tmp 67]) (seg:=cat [[vB x15],[u23]]) hE hM noB Za ld rfl rfl Try.underlying25 ZR rfl (by decide) ?_; intro u83 w a hM hE
    obtain ⟨l85,e86,hF22⟩:=bind_some hF22
    obtain ⟨e89,rfl⟩:=Xl e86
    have hM:=hM.pull (pre:=[_,_])
    refine VD hE hM noB Za ld rfl rfl Try.underlying25 ZR rfl (by decide) e89 fun u87 w a hM hE=>Zc hE Za ld rfl fun a hE=>Zi (Y0 (Zt (wp_region_lit (Zd hE Za ld rfl fun a hE=>Zh hE Za ld rfl rfl rfl fun a hE=>Zc hE Za ld rfl fun a hE=>Zi (Zk ?_)))))
    have hM:=M.fst (l:=[_]) hM
    exact ⟨_,(ois hF22),u87,hE.sub ⟨rfl,rfl,rfl,rfl,rfl,rfl,trivial⟩,hM⟩
  ·intro hb14
   have hs11:=Zs hs11 hb14
   refine wp_exit (Zp (Zp (Y7 ?_)))
   have ht90:=hx12 _ (ois hs11)
   subst ht90
   refine Zk ?_
   exact ⟨u9,hE.sub ⟨rfl,trivial⟩,hM⟩
 ·skip
  rintro a w ⟨u6,hE,hM⟩
  refine Zt (Zb (Zd hE Za ld rfl fun a hE=>Zc hE Za ld rfl fun a hE=>Zf ?_))
  have hr:=Option.some.inj hF5
  subst hr
  exact wp_ret (Zl hE rfl (Zg hE rfl) ⟨_,rfl,u6,rfl,hM.outF (Wr Ws),hM.kept⟩)
def Xg (p0 : (List GShare)) (p1 : (List GShare)) (s8 : (List GShare) × Int) (s30 : (List UInt8) × Int) : Option (Fl ((List UInt8) × Int) (List UInt8)) :=
 (idx p0 s8.2).bind fun x37=>if (decide (s30.2 < (x37.Data.length : Int))) = true then ((idx p0 s8.2).bind fun x47=>(idx x47.Data s30.2).bind fun x55=>(idx p1 s8.2).bind fun x58=>(idx x58.Data s30.2).bind fun x66=>(app 1 s30.1 ([x55 ^^^ x66] : List UInt8)).bind fun l71=>some (Fl.nx ((s30.1 ++ ([x55 ^^^ x66] : List UInt8)),wr (s30.2 + 1)))) else (some (Fl.ex s30.1))
def Xf (p0 : (List GShare)) (p1 : (List GShare)) (s8 : (List GShare) × Int) : Option (Fl ((List GShare) × Int) (List GShare)) :=
 if (decide (s8.2 < (p0.length : Int))) = true then ((idx p0 s8.2).bind fun x15=>(ZB (Xg p0 p1 s8) ([],0)).bind fun j25=>(app 32 s8.1 ([(⟨x15.Place,j25⟩ : GShare)] : List GShare)).bind fun l79=>some (Fl.nx ((s8.1 ++ ([(⟨x15.Place,j25⟩ : GShare)] : List GShare)),wr (s8.2 + 1)))) else (some (Fl.ex s8.1))
def X5 (p0 : (List GShare)) (p1 : (List GShare)) : Option ((List GShare)) :=
 (ZB (Xf p0 p1) (([] : List GShare),0)).bind fun j3=>some j3
theorem TC (w0 : World) (p0 : (List GShare)) (v0_1 : Value) (hv0_1 : Ro w0 p0 [v0_1]) (p1 : (List GShare)) (v1_1 : Value) (hv1_1 : Ro w0 p1 [v1_1]) (r : (List GShare)) (hF : X5 p0 p1 = some r) :
  Calls Try.prog 58 [v0_1,v1_1].toArray w0 (fun en w'=>∃ v,en = .returned v ∧ (∃ (y1 : Value),v = y1 ∧ Fr w0 w' [osl NoB (r : List GShare) y1] ∧ Kept (Old w0) w0 w')):=by
 refine Zv (n:=59) Try.func58 rfl rfl (nbl rfl) rfl ?_
 intro a hE
 have hM:=M.start w0
 unfold X5 at hF
 refine Zb (Zc hE Za ld rfl fun a hE=>Zf (Zb (VF (xs:=[]) (S:=NoB) (l:=([] : List GShare)) (vs:=[]) hE hM.emp noB Za ld rfl rfl rfl Try.underlying25 ZR rfl (by decide) (fun _ h=>⟨rfl,h⟩) (fun _ h=>by cases h) fun u1 w a hM hE=>Zc hE Za ld rfl fun a hE=>Zf (wp_seq (Zb (Zc hE Za ld rfl fun a hE=>Zf ?_))))))
 obtain ⟨j3,hl4,hF5⟩:=bind_some hF
 refine ZS (fun a w=>∃ (u6 : Value),Env 59 a [(5,u6)] ∧ M (Old w0) w0 w [osl NoB (j3 : List GShare) u6]) ?_ ?_
 ·skip
  refine wp_block ?_
  refine ZG (fun (s8 : (List GShare) × Int) a w=>∃ (u9 : Value),Env 59 a [(0,v0_1),(1,v1_1),(5,u9),(6,vI s8.2)] ∧ M (Old w0) w0 w [osl NoB (s8.1 : List GShare) u9]) hl4 ⟨u1,hE.sub ⟨rfl,rfl,rfl,rfl,trivial⟩,hM⟩ ?_
  rintro s8 a w ⟨u9,hE,hM⟩ o13 hs11 hx12
  unfold Xf at hs11
  refine wp_seq (Zb (Zd hE Za ld rfl fun a hE=>Zd hE Za ld rfl fun a hE=>ZF hE Za ld rfl Try.underlying25 (hM.rd hv0_1) fun a hE=>Zh hE Za ld rfl rfl rfl fun a hE=>Zf ?_))
  refine Zm hE rfl ?_ ?_
  ·intro hb14
   have hs11:=Zr hs11 hb14
   refine wp_skip (Zt (wp_seq (wp_block (Zb (Zd hE Za ld rfl fun a hE=>Zd hE Za ld rfl ?_))))); intro a hE
   obtain ⟨x15,hi17,hs11⟩:=bix hs11
   refine Zo hE Za ld rfl rfl Try.underlying25 ZR (hM.rd hv0_1) hi17.1 fun a hE=>Zn hE Za ld rfl (Wx) ?_; intro a hE
   obtain ⟨cs18,hs19,hA20⟩:=ZM hv0_1 hi17.2 -- ^
   obtain ⟨u21,rfl,h22⟩:=ZJ hs19 -- ^
   refine Zy (v:=(vB x15.Place)) hE Za ld rfl ty5 rfl (At.cat (pre:=[]) (hM.atk hA20 (ZY hv0_1 hi17.2)) cl0) fun a hE=>Vc (parts:=[(0,.tmp 20)]) (vs:=[(0,vB x15.Place)]) (cs:=cat [[vB x15.Place],[(Value.slice none 0 0)]]) hE Za ld rfl rfl ZR pl86 (W6 (pre:=[]) (seg:=[vB 0]) (seg':=[vB x15.Place]) (post:=[[(Value.slice none 0 0)]]) rfl cl0 rfl rfl rfl V7) fun a hE=>Vb hE hM Za ld ZR fun b23 w a hM hE=>We (seg:=cat [[vB x15.Place],[(Value.slice none 0 0)]]) (cs':=cat [[vB x15.Place],[(Value.slice none 0 0)]]) hE hM Za rfl rfl rfl ZR (ZC (cl1 (n:=1) (m:=1) rfl (cl1 (n:=1) (m:=0) rfl cl0))) (Nat.le_of_eq ((Nat.zero_add _).trans (Eq.trans (ZC (cl1 (n:=1) (m:=1) rfl (cl1 (n:=1) (m:=0) rfl cl0))) (Eq.symm (ZC (cl1 (n:=1) (m:=1) rfl (cl1 (n:=1) (m:=0) rfl cl0))))))) (Va (cc1 (Flat.cell (x15.Place : UInt8)) (cc1 T9 cc0))) (Y8 (Eq.trans (ZC (cl1 (n:=1) (m:=1) rfl (cl1 (n:=1) (m:=0) rfl cl0))) (Eq.symm (ZC (cl1 (n:=1) (m:=1) rfl (cl1 (n:=1) (m:=0) rfl cl0)))))) fun w a hM hE=>Zf (wp_seq (Zb (Zc hE Za ld rfl fun a hE=>Zf ?_)))
   obtain ⟨j25,hl26,hF27⟩:=bind_some hs11
   refine ZS (fun a w=>∃ (u28 : Value),Env 59 a [(0,v0_1),(1,v1_1),(5,u9),(6,vI s8.2),(7,(ptr b23 0))] ∧ M (Old w0) w0 w [raw b23 (cat [[vB x15.Place],[u28]]),osl NoB (s8.1 : List GShare) u9,osl NoB (j25 : List UInt8) u28]) ?_ ?_
   ·skip
    refine wp_block ?_
    have hM:=((M.nilS (α:=UInt8) NoB noB hM).pull (pre:=[_,_])).pull (pre:=[_,_])
    refine ZG (fun (s30 : (List UInt8) × Int) a w=>∃ (u31 : Value),Env 59 a [(0,v0_1),(1,v1_1),(5,u9),(6,vI s8.2),(7,(ptr b23 0)),(8,vI s30.2)] ∧ M (Old w0) w0 w [raw b23 (cat [[vB x15.Place],[u31]]),osl NoB (s8.1 : List GShare) u9,osl NoB (s30.1 : List UInt8) u31]) hl26 ⟨(Value.slice none 0 0),hE.sub ⟨rfl,rfl,rfl,rfl,rfl,rfl,trivial⟩,hM⟩ ?_
    rintro s30 a w ⟨u31,hE,hM⟩ o35 hs33 hx34
    unfold Xg at hs33
    refine wp_seq (Zb (Zd hE Za ld rfl fun a hE=>Zd hE Za ld rfl fun a hE=>Zd hE Za ld rfl ?_)); intro a hE
    obtain ⟨x37,hi39,hs33⟩:=bix hs33
    refine Zo hE Za ld rfl rfl Try.underlying25 ZR (hM.rd hv0_1) hi39.1 fun a hE=>Zn hE Za ld rfl (Yr) ?_; intro a hE
    obtain ⟨cs40,hs41,hA42⟩:=ZM hv0_1 hi39.2 -- ^
    obtain ⟨u43,rfl,h44⟩:=ZJ hs41 -- ^
    refine Zy (v:=u43) hE Za ld rfl Yv rfl (At.cat (pre:=[[vB x37.Place]]) (hM.atk hA42 (ZY hv0_1 hi39.2)) (cl1 (n:=1) (m:=0) rfl cl0)) fun a hE=>ZF hE Za ld rfl Try.underlying22 (hM.rd h44) fun a hE=>Zh hE Za ld rfl rfl rfl fun a hE=>Zf ?_
    refine Zm hE rfl ?_ ?_
    ·intro hb45
     have hs33:=Zr hs33 hb45
     refine wp_skip (Zt (wp_seq (wp_block ?_)))
     obtain ⟨x47,hi49,hs33⟩:=bix hs33
     obtain ⟨cs50,hs51,hA52⟩:=ZM hv0_1 hi49.2 -- ^
     obtain ⟨u53,rfl,h54⟩:=ZJ hs51 -- ^
     obtain ⟨x55,hi57,hs33⟩:=bix hs33
     obtain ⟨x58,hi60,hs33⟩:=bix hs33
     obtain ⟨cs61,hs62,hA63⟩:=ZM hv1_1 hi60.2 -- ^
     obtain ⟨u64,rfl,h65⟩:=ZJ hs62 -- ^
     obtain ⟨x66,hi68,hs33⟩:=bix hs33
     refine Ue (n:=59) (hd:=[_,_,_,_,_,_,_,_,_,_,_,_,_,_,_,_,_,_,_,_]) (tl:=[_,_,_]) (its:=[raw b23 (cat [[vB x15.Place],[u31]]),osl NoB (s8.1 : List GShare) u9,osl NoB (s30.1 : List UInt8) u31]) Uo rfl rfl [32,33,34,35,36,37,38,39,40,41,42,43,44,45,46,47,48,49,50,51] (by decide) [(19,fun v=>osl NoB (([x55 ^^^ x66] : List UInt8) : List UInt8) v)] rfl (fun j=>([fun v=>v = (ptr b23 (0 + 1)),fun v=>v = u31,fun v=>v = v0_1,fun v=>v = (vI s8.2),fun v=>v = (ptr (sb v0_1) (so v0_1 + (s8.2).toNat * 2)),fun v=>v = (ptr (sb v0_1) (so v0_1 + (s8.2).toNat * 2 + 1)),fun v=>v = u53,fun v=>v = (vI s30.2),fun v=>v = (ptr (sb u53) (so u53 + (s30.2).toNat * 1)),fun v=>v = (vB x55),fun v=>v = v1_1,fun v=>v = (vI s8.2),fun v=>v = (ptr (sb v1_1) (so v1_1 + (s8.2).toNat * 2)),fun v=>v = (ptr (sb v1_1) (so v1_1 + (s8.2).toNat * 2 + 1)),fun v=>v = u64,fun v=>v = (vI s30.2),fun v=>v = (ptr (sb u64) (so u64 + (s30.2).toNat * 1)),fun v=>v = (vB x66),fun v=>v = (vB (x55 ^^^ x66)),fun v=>True] : List (Value → Prop)).getD j (fun _=>True)) hE hM.drew (Xh (Ze ?_ (Ze ?_ (Ze ?_ (Ze ?_ (Ze ?_ (Ze ?_ (Ze ?_ (Ze ?_ (Ze ?_ (Ze ?_ (Ze ?_ (Ze ?_ (Ze ?_ (Ze ?_ (Ze ?_ (Ze ?_ (Ze ?_ (Ze ?_ (Ze ?_ (Ze ?_ YE))))))))))))))))))))) ?_
     ·intro a w ux46 D hE hM hD hp
      have hM0:=hM
      exact Zn hE Za ld rfl (Yr) fun a hE=>⟨_,_,rfl,hE,rfl,hM0.optKeep rfl⟩
     ·intro a w ux46 D hE hM hD hp
      have f0 : ux46 0 = (ptr b23 (0 + 1)):=(hp 0 _ rfl rfl).2
      have hM0:=hM
      have hM : M (Old w0) w0 w [raw b23 (cat [[vB x15.Place],[u31]]),osl NoB (s8.1 : List GShare) u9,osl NoB (s30.1 : List UInt8) u31,opt (D 19) (osl NoB (([x55 ^^^ x66] : List UInt8) : List UInt8) (ux46 19))]:=hM
      exact Zy (v:=u31) hE Za ld (lk rfl f0) Yv rfl (At.cat (pre:=[[vB x15.Place]]) (hM.rawAt (pre:=[])) (cl1 (n:=1) (m:=0) rfl cl0)) fun a hE=>⟨_,_,rfl,hE,rfl,hM0.optKeep rfl⟩
     ·intro a w ux46 D hE hM hD hp
      have hM0:=hM
      exact Zd hE Za ld rfl fun a hE=>⟨_,_,rfl,hE,rfl,hM0.optKeep rfl⟩
     ·intro a w ux46 D hE hM hD hp
      have hM0:=hM
      exact Zd hE Za ld rfl fun a hE=>⟨_,_,rfl,hE,rfl,hM0.optKeep rfl⟩
     ·intro a w ux46 D hE hM hD hp
      have f2 : ux46 2 = v0_1:=(hp 0 _ rfl rfl).2
      have f3 : ux46 3 = (vI s8.2):=(hp 1 _ rfl rfl).2
      have hM0:=hM
      have hM : M (Old w0) w0 w [raw b23 (cat [[vB x15.Place],[u31]]),osl NoB (s8.1 : List GShare) u9,osl NoB (s30.1 : List UInt8) u31,opt (D 19) (osl NoB (([x55 ^^^ x66] : List UInt8) : List UInt8) (ux46 19))]:=hM
      exact Zo hE Za ld (lk rfl f2) (lk rfl f3) Try.underlying25 ZR (hM.rd hv0_1) hi49.1 fun a hE=>⟨_,_,rfl,hE,rfl,hM0.optKeep rfl⟩
     ·intro a w ux46 D hE hM hD hp
      have f4 : ux46 4 = (ptr (sb v0_1) (so v0_1 + (s8.2).toNat * 2)):=(hp 0 _ rfl rfl).2
      have hM0:=hM
      exact Zn hE Za ld (lk rfl f4) (Yr) fun a hE=>⟨_,_,rfl,hE,rfl,hM0.optKeep rfl⟩
     ·intro a w ux46 D hE hM hD hp
      have f5 : ux46 5 = (ptr (sb v0_1) (so v0_1 + (s8.2).toNat * 2 + 1)):=(hp 0 _ rfl rfl).2
      have hM0:=hM
      have hM : M (Old w0) w0 w [raw b23 (cat [[vB x15.Place],[u31]]),osl NoB (s8.1 : List GShare) u9,osl NoB (s30.1 : List UInt8) u31,opt (D 19) (osl NoB (([x55 ^^^ x66] : List UInt8) : List UInt8) (ux46 19))]:=hM
      exact Zy (v:=u53) hE Za ld (lk rfl f5) Yv rfl (At.cat (pre:=[[vB x47.Place]]) (hM.atk hA52 (ZY hv0_1 hi49.2)) (cl1 (n:=1) (m:=0) rfl cl0)) fun a hE=>⟨_,_,rfl,hE,rfl,hM0.optKeep rfl⟩
     ·intro a w ux46 D hE hM hD hp
      have hM0:=hM
      exact Zd hE Za ld rfl fun a hE=>⟨_,_,rfl,hE,rfl,hM0.optKeep rfl⟩
     ·intro a w ux46 D hE hM hD hp
      have f6 : ux46 6 = u53:=(hp 0 _ rfl rfl).2
      have f7 : ux46 7 = (vI s30.2):=(hp 1 _ rfl rfl).2
      have hM0:=hM
      have hM : M (Old w0) w0 w [raw b23 (cat [[vB x15.Place],[u31]]),osl NoB (s8.1 : List GShare) u9,osl NoB (s30.1 : List UInt8) u31,opt (D 19) (osl NoB (([x55 ^^^ x66] : List UInt8) : List UInt8) (ux46 19))]:=hM
      exact Zo hE Za ld (lk rfl f6) (lk rfl f7) Try.underlying22 ty5 (hM.rd h54) hi57.1 fun a hE=>⟨_,_,rfl,hE,rfl,hM0.optKeep rfl⟩
     ·intro a w ux46 D hE hM hD hp
      have f8 : ux46 8 = (ptr (sb u53) (so u53 + (s30.2).toNat * 1)):=(hp 0 _ rfl rfl).2
      have hM0:=hM
      have hM : M (Old w0) w0 w [raw b23 (cat [[vB x15.Place],[u31]]),osl NoB (s8.1 : List GShare) u9,osl NoB (s30.1 : List UInt8) u31,opt (D 19) (osl NoB (([x55 ^^^ x66] : List UInt8) : List UInt8) (ux46 19))]:=hM
      exact Zy (v:=(vB x55)) hE Za ld (lk rfl f8) ty5 rfl (Xr (hM.rd h54) hi57.2) fun a hE=>⟨_,_,rfl,hE,rfl,hM0.optKeep rfl⟩
     ·intro a w ux46 D hE hM hD hp
      have hM0:=hM
      exact Zd hE Za ld rfl fun a hE=>⟨_,_,rfl,hE,rfl,hM0.optKeep rfl⟩
     ·intro a w ux46 D hE hM hD hp
      have hM0:=hM
      exact Zd hE Za ld rfl fun a hE=>⟨_,_,rfl,hE,rfl,hM0.optKeep rfl⟩
     ·intro a w ux46 D hE hM hD hp
      have f10 : ux46 10 = v1_1:=(hp 0 _ rfl rfl).2
      have f11 : ux46 11 = (vI s8.2):=(hp 1 _ rfl rfl).2
      have hM0:=hM
      have hM : M (Old w0) w0 w [raw b23 (cat [[vB x15.Place],[u31]]),osl NoB (s8.1 : List GShare) u9,osl NoB (s30.1 : List UInt8) u31,opt (D 19) (osl NoB (([x55 ^^^ x66] : List UInt8) : List UInt8) (ux46 19))]:=hM
      exact Zo hE Za ld (lk rfl f10) (lk rfl f11) Try.underlying25 ZR (hM.rd hv1_1) hi60.1 fun a hE=>⟨_,_,rfl,hE,rfl,hM0.optKeep rfl⟩
     ·intro a w ux46 D hE hM hD hp
      have f12 : ux46 12 = (ptr (sb v1_1) (so v1_1 + (s8.2).toNat * 2)):=(hp 0 _ rfl rfl).2
      have hM0:=hM
      exact Zn hE Za ld (lk rfl f12) (Yr) fun a hE=>⟨_,_,rfl,hE,rfl,hM0.optKeep rfl⟩
     ·intro a w ux46 D hE hM hD hp
      have f13 : ux46 13 = (ptr (sb v1_1) (so v1_1 + (s8.2).toNat * 2 + 1)):=(hp 0 _ rfl rfl).2
      have hM0:=hM
      have hM : M (Old w0) w0 w [raw b23 (cat [[vB x15.Place],[u31]]),osl NoB (s8.1 : List GShare) u9,osl NoB (s30.1 : List UInt8) u31,opt (D 19) (osl NoB (([x55 ^^^ x66] : List UInt8) : List UInt8) (ux46 19))]:=hM
      exact Zy (v:=u64) hE Za ld (lk rfl f13) Yv rfl (At.cat (pre:=[[vB x58.Place]]) (hM.atk hA63 (ZY hv1_1 hi60.2)) (cl1 (n:=1) (m:=0) rfl cl0)) fun a hE=>⟨_,_,rfl,hE,rfl,hM0.optKeep rfl⟩
     ·intro a w ux46 D hE hM hD hp
      have hM0:=hM
      exact Zd hE Za ld rfl fun a hE=>⟨_,_,rfl,hE,rfl,hM0.optKeep rfl⟩
     ·intro a w ux46 D hE hM hD hp
      have f14 : ux46 14 = u64:=(hp 0 _ rfl rfl).2
      have f15 : ux46 15 = (vI s30.2):=(hp 1 _ rfl rfl).2
      have hM0:=hM
      have hM : M (Old w0) w0 w [raw b23 (cat [[vB x15.Place],[u31]]),osl NoB (s8.1 : List GShare) u9,osl NoB (s30.1 : List UInt8) u31,opt (D 19) (osl NoB (([x55 ^^^ x66] : List UInt8) : List UInt8) (ux46 19))]:=hM
      exact Zo hE Za ld (lk rfl f14) (lk rfl f15) Try.underlying22 ty5 (hM.rd h65) hi68.1 fun a hE=>⟨_,_,rfl,hE,rfl,hM0.optKeep rfl⟩
     ·intro a w ux46 D hE hM hD hp
      have f16 : ux46 16 = (ptr (sb u64) (so u64 + (s30.2).toNat * 1)):=(hp 0 _ rfl rfl).2
      have hM0:=hM
      have hM : M (Old w0) w0 w [raw b23 (cat [[vB x15.Place],[u31]]),osl NoB (s8.1 : List GShare) u9,osl NoB (s30.1 : List UInt8) u31,opt (D 19) (osl NoB (([x55 ^^^ x66] : List UInt8) : List UInt8) (ux46 19))]:=hM
      exact Zy (v:=(vB x66)) hE Za ld (lk rfl f16) ty5 rfl (Xr (hM.rd h65) hi68.2) fun a hE=>⟨_,_,rfl,hE,rfl,hM0.optKeep rfl⟩
     ·intro a w ux46 D hE hM hD hp
      have f9 : ux46 9 = (vB x55):=(hp 0 _ rfl rfl).2
      have f17 : ux46 17 = (vB x66):=(hp 1 _ rfl rfl).2
      have hM0:=hM
      exact Zh hE Za ld (lk rfl f9) (lk rfl f17) (Qa x55 x66) fun a hE=>⟨_,_,rfl,hE,rfl,hM0.optKeep rfl⟩
     ·intro a w ux46 D hE hM hD hp
      have f18 : ux46 18 = (vB (x55 ^^^ x66)):=(hp 0 _ rfl rfl).2
      have hM0:=hM
      have hM : M (Old w0) w0 w [raw b23 (cat [[vB x15.Place],[u31]]),osl NoB (s8.1 : List GShare) u9,osl NoB (s30.1 : List UInt8) u31,opt (D 19) (osl NoB (([x55 ^^^ x66] : List UInt8) : List UInt8) (ux46 19))]:=hM
      exact Y5 (xs:=[.tmp 50]) (l:=([x55 ^^^ x66] : List UInt8)) (vs:=[(vB (x55 ^^^ x66))]) hE hM Za ld (WP (WR (lk rfl f18) U9)) rfl Try.underlying22 ty5 rfl (by decide) rfl fun u69 w a hM hE=>⟨_,_,rfl,hE,trivial,M.optFill (mk1:=[]) (mk2:=[]) (f:=(fun v=>osl NoB (([x55 ^^^ x66] : List UInt8) : List UInt8) v)) hM rfl hD⟩
     ·intro a w ux46 hE hM hg
      have hM : M (Old w0) w0 w [raw b23 (cat [[vB x15.Place],[u31]]),osl NoB (s8.1 : List GShare) u9,osl NoB (s30.1 : List UInt8) u31,osl NoB (([x55 ^^^ x66] : List UInt8) : List UInt8) (ux46 19)]:=hM
      have hE:=hE.sub (e':=[(33,u31),(51,(ux46 19)),(0,v0_1),(1,v1_1),(5,u9),(6,vI s8.2),(7,(ptr b23 0)),(8,vI s30.2),(22,vI s30.2),(23,v0_1),(24,vI s8.2),(25,(ptr (sb v0_1) (so v0_1 + (s8.2).toNat * 2))),(26,(ptr (sb v0_1) (so v0_1 + (s8.2).toNat * 2 + 1))),(27,u43),(28,(vI (x37.Data.length : Int))),(29,(vT (decide (s30.2 < (x37.Data.length : Int)))))]) ⟨lk rfl (hg 1 (by decide)),rfl,rfl,rfl,rfl,rfl,rfl,rfl,rfl,rfl,rfl,rfl,rfl,rfl,rfl,rfl,trivial⟩
      obtain ⟨l71,e72,hs33⟩:=bind_some hs33
      obtain ⟨e75,rfl⟩:=Xl e72
      have hM:=hM.pull (pre:=[_,_])
      refine XW hE hM Za ld rfl rfl (hM.sl (pre:=[_,_,_]) noB) Try.underlying22 ty5 rfl (by decide) e75 fun u73 w a hM hE=>Zn hE Za ld rfl (Yr) ?_; intro a hE
      have hM:=hM.pull (pre:=[_])
      refine We (seg:=[u73]) hE hM Za rfl rfl (WN (hM.sl (pre:=[_]) noB)) Yv rfl (VE (pre:=[[vB x15.Place]]) (cl1 (n:=1) (m:=0) rfl cl0) rfl) (Rep.cell (hM.sl (pre:=[_]) noB)) (Wb (pre:=[[vB x15.Place]]) (cl1 (n:=1) (m:=0) rfl cl0) rfl) fun w a hM hE=>Zi (Y0 (Zt (wp_region_lit (Zd hE Za ld rfl fun a hE=>Zh hE Za ld rfl rfl rfl fun a hE=>Zc hE Za ld rfl fun a hE=>Zi (Zk ?_)))))
      have hM:=M.fst (l:=[_,_,_]) (((hM.pull (pre:=[_])).pull (pre:=[_,_])).pull (pre:=[_,_]))
      exact ⟨_,(ois hs33),u73,hE.sub ⟨rfl,rfl,rfl,rfl,rfl,rfl,trivial⟩,hM⟩
    ·intro hb45
     have hs33:=Zs hs33 hb45
     refine wp_exit (Zp (Zp (Y7 ?_)))
     have ht76:=hx34 _ (ois hs33)
     subst ht76
     refine Zk ?_
     exact ⟨u31,hE.sub ⟨rfl,rfl,rfl,rfl,rfl,trivial⟩,hM⟩
   ·skip
    rintro a w ⟨u28,hE,hM⟩
    refine Zt (wp_region_lit (Zd hE Za ld rfl fun a hE=>XY (cs:=cat [[vB x15.Place],[u28]]) hE Za ld rfl ZR rfl (hM.rawAt (pre:=[])) (ZC (cl1 (n:=1) (m:=1) rfl (cl1 (n:=1) (m:=0) rfl cl0))) ?_)); intro a hE
    have hM:=hM.pull (pre:=[_,_])
    have hM:=hM.pack1 (it:=own NoB (⟨x15.Place,j25⟩ : GShare) (cat [[vB x15.Place],[u28]])) (Wq noB) (fun f0 q0=>(Wc (Yx.sat q0) (by simp)))
    refine V2 (xs:=[.tmp 55]) (seg:=cat [[vB x15.Place],[u28]]) hE hM noB Za ld rfl rfl Try.underlying25 ZR rfl (by decide) ?_; intro u77 w a hM hE
    obtain ⟨l79,e80,hF27⟩:=bind_some hF27
    obtain ⟨e83,rfl⟩:=Xl e80
    have hM:=hM.pull (pre:=[_,_])
    refine VD hE hM noB Za ld rfl rfl Try.underlying25 ZR rfl (by decide) e83 fun u81 w a hM hE=>Zc hE Za ld rfl fun a hE=>Zi (Y0 (Zt (wp_region_lit (Zd hE Za ld rfl fun a hE=>Zh hE Za ld rfl rfl rfl fun a hE=>Zc hE Za ld rfl fun a hE=>Zi (Zk ?_)))))
    have hM:=M.fst (l:=[_]) hM
    exact ⟨_,(ois hF27),u81,hE.sub ⟨rfl,rfl,rfl,rfl,trivial⟩,hM⟩
  ·intro hb14
   have hs11:=Zs hs11 hb14
   refine wp_exit (Zp (Zp (Y7 ?_)))
   have ht84:=hx12 _ (ois hs11)
   subst ht84
   refine Zk ?_
   exact ⟨u9,hE.sub ⟨rfl,trivial⟩,hM⟩
 ·skip
  rintro a w ⟨u6,hE,hM⟩
  refine Zt (Zb (Zd hE Za ld rfl fun a hE=>Zc hE Za ld rfl fun a hE=>Zf ?_))
  have hr:=Option.some.inj hF5
  subst hr
  exact wp_ret (Zl hE rfl (Zg hE rfl) ⟨_,rfl,u6,rfl,hM.outF (Wr Ws),hM.kept⟩)
def Yo (p0 : Int) (p1 : (List GShare)) (p2 : (List (List UInt8))) : Option ((List GShare) × Int) :=
 (XR p0 p1 1).bind fun r1=>((if (r1 == 0) = true then ((idx p1 (0 : Int)).bind fun x10=>(Xw p2 (x10.Data.length : Int)).bind fun r18=>some (!r18)) else (some false) : Option (Bool)).bind fun j6=>if j6 = true then (some 2) else (some r1) : Option (Int)).bind fun j3=>if (j3 != 0) = true then (some ([],j3)) else (((idx p1 (0 : Int)).bind fun x33=>(mkS 1 (0 : UInt8) (x33.Data.length : Int)).bind fun l41=>(Xn p1).bind fun r45=>(XQ p0 l41 p2 r45).bind fun r48=>some r48 : Option ((List GShare))).bind fun j27=>(X5 p1 j27).bind fun r52=>some (r52,0))
theorem Vv (w0 : World) (p0 : Int) (p1 : (List GShare)) (v1_1 : Value) (hv1_1 : Ro w0 p1 [v1_1]) (p2 : (List (List UInt8))) (v2_1 : Value) (hv2_1 : Ro w0 p2 [v2_1]) (r : (List GShare) × Int) (hF : Yo p0 p1 p2 = some r) :
  Calls Try.prog 21 [vI p0,v1_1,v2_1].toArray w0 (fun en w'=>∃ v,en = .returned v ∧ (∃ (y1 : Value),v = (Value.tuple [y1,vI r.2].toArray) ∧ Fr w0 w' [osl NoB (r.1 : List GShare) y1] ∧ Kept (Old w0) w0 w')):=by
 refine Zv (n:=42) Try.func21 rfl rfl (nbl rfl) rfl ?_
 intro a hE
 have hM:=M.start w0
 unfold Yo at hF
 refine Zb (Zc hE Za ld rfl fun a hE=>Zc hE Za ld rfl fun a hE=>Zf (Zb (Zd hE Za ld rfl fun a hE=>Zd hE Za ld rfl ?_))); intro a hE
 obtain ⟨r1,e2,hF⟩:=bind_some hF
 refine Zu hE Za ld rfl cb56 (U8 _ p0 p1 v1_1 (hM.rdo hv1_1) 1 r1 e2) ?_
 rintro v w a ⟨rfl,hK⟩ hE
 have hM:=hM.keep hK
 refine Zc hE Za ld rfl fun a hE=>Zf ?_
 obtain ⟨j3,hl4,hF5⟩:=bind_some hF
 refine Ye (fun a w=>Env 42 a [(0,vI p0),(1,v1_1),(2,v2_1),(8,vI j3)] ∧ M (Old w0) w0 w []) ?_ ?_
 ·skip
  obtain ⟨j6,hl7,hF8⟩:=bind_some hl4
  refine Ye (fun a w=>Env 42 a [(0,vI p0),(1,v1_1),(2,v2_1),(8,vI r1),(24,vT j6)] ∧ M (Old w0) w0 w []) ?_ ?_
  ·skip
   refine wp_region_lit (Zd hE Za ld rfl fun a hE=>Zh hE Za ld rfl rfl rfl fun a hE=>Zd hE Za ld rfl ?_); intro a hE
   refine X3 (r1 == 0) (fun hb9=>?_) (fun hb9=>?_)
   ·have hl7:=Zr hl7 hb9
    refine Zd hE (Zq hE rfl (lkb rfl hb9)) (by decide) rfl fun a hE=>Zd hE (Zq hE rfl (lkb rfl hb9)) (by decide) rfl ?_; intro a hE
    obtain ⟨x10,hi12,hl7⟩:=bix hl7
    refine Zo hE (Zq hE rfl (lkb rfl hb9)) (by decide) rfl rfl Try.underlying25 ZR (hM.rd hv1_1) hi12.1 fun a hE=>Zn hE (Zq hE rfl (lkb rfl hb9)) (by decide) rfl (Yr) ?_; intro a hE
    obtain ⟨cs13,hs14,hA15⟩:=ZM hv1_1 hi12.2 -- ^
    obtain ⟨u16,rfl,h17⟩:=ZJ hs14 -- ^
    refine Zy (v:=u16) hE (Zq hE rfl (lkb rfl hb9)) (by decide) rfl Yv rfl (At.cat (pre:=[[vB x10.Place]]) (hM.atk hA15 (ZY hv1_1 hi12.2)) (cl1 (n:=1) (m:=0) rfl cl0)) fun a hE=>ZF hE (Zq hE rfl (lkb rfl hb9)) (by decide) rfl Try.underlying22 (hM.rd h17) ?_; intro a hE
    obtain ⟨r18,e19,hl7⟩:=bind_some hl7
    refine Zu hE (Zq hE rfl (lkb rfl hb9)) (by decide) rfl cb44 (UJ _ p2 v2_1 (hM.rdo hv2_1) (x10.Data.length : Int) r18 e19) ?_
    rintro v w a ⟨rfl,hK⟩ hE
    have hM:=hM.keep hK
    refine Xt hE (Zq hE rfl (lkb rfl hb9)) (by decide) rfl fun a hE=>Yz hE Za ld (lkb rfl hb9) rfl fun a hE=>Zi ?_
    have ht20:=Option.some.inj hl7
    subst ht20
    refine Zk ?_
    exact ⟨hE.sub ⟨rfl,rfl,rfl,rfl,rfl,trivial⟩,hM⟩
   ·have hl7:=Zs hl7 hb9
    refine Zx hE rfl (lkb rfl hb9) rfl (by decide) fun a hE=>Zx hE rfl (lkb rfl hb9) rfl (by decide) fun a hE=>Zx hE rfl (lkb rfl hb9) rfl (by decide) fun a hE=>Zx hE rfl (lkb rfl hb9) rfl (by decide) fun a hE=>Zx hE rfl (lkb rfl hb9) rfl (by decide) fun a hE=>Zx hE rfl (lkb rfl hb9) rfl (by decide) fun a hE=>Zx hE rfl (lkb rfl hb9) rfl (by decide) fun a hE=>Zx hE rfl (lkb rfl hb9) rfl (by decide) fun a hE=>Xc hE Za ld (lkb rfl hb9) rfl fun a hE=>Zi ?_
    have ht21:=Option.some.inj hl7
    subst ht21
    refine Zk ?_
    exact ⟨hE.sub ⟨rfl,rfl,rfl,rfl,rfl,trivial⟩,hM⟩
  ·skip
   rintro a w ⟨hE,hM⟩
   refine Zm hE rfl ?_ ?_
   ·intro hb22
    have hF8:=Zr hF8 hb22
    refine wp_region_lit (Zc hE Za ld rfl fun a hE=>Zi ?_)
    have ht23:=Option.some.inj hF8
    subst ht23
    refine Zk ?_
    exact ⟨hE.sub ⟨rfl,rfl,rfl,rfl,trivial⟩,hM⟩
   ·intro hb22
    have hF8:=Zs hF8 hb22
    refine wp_skip ?_
    have ht24:=Option.some.inj hF8
    subst ht24
    refine Zk ?_
    exact ⟨hE.sub ⟨rfl,rfl,rfl,rfl,trivial⟩,hM⟩
 ·skip
  rintro a w ⟨hE,hM⟩
  refine wp_seq (Zb (Zd hE Za ld rfl fun a hE=>Zh hE Za ld rfl rfl rfl fun a hE=>Zf ?_))
  refine Zm hE rfl ?_ ?_
  ·intro hb25
   have hF5:=Zr hF5 hb25
   refine Zb (Zd hE Za ld rfl fun a hE=>Zc hE Za ld rfl fun a hE=>Zc hE Za ld rfl fun a hE=>Zf ?_)
   have hM:=M.nilS (α:=GShare) NoB noB hM
   have hr:=Option.some.inj hF5
   subst hr
   exact wp_ret (Zj (UZ hE rfl (Zg hE rfl) (Zg hE rfl) ⟨_,rfl,(Value.slice none 0 0),rfl,hM.outF (Wr Ws),hM.kept⟩))
  ·intro hb25
   have hF5:=Zs hF5 hb25
   refine wp_skip (Zt ?_)
   obtain ⟨j27,hl28,hF29⟩:=bind_some hF5
   refine Ye (fun a w=>∃ (u30 : Value),Env 42 a [(1,v1_1),(9,u30)] ∧ M (Old w0) w0 w [osl NoB (j27 : List GShare) u30]) ?_ ?_
   ·skip
    obtain ⟨x33,hi35,hl28⟩:=bix hl28
    obtain ⟨cs36,hs37,hA38⟩:=ZM hv1_1 hi35.2 -- ^
    obtain ⟨u39,rfl,h40⟩:=ZJ hs37 -- ^
    obtain ⟨l41,e42,hl28⟩:=bind_some hl28
    obtain ⟨r45,e46,hl28⟩:=bind_some hl28
    refine Ue (n:=42) (hd:=[_,_,_,_,_,_,_,_,_,_]) (tl:=[_,_]) (its:=[]) Uo rfl rfl [28,29,30,31,32,33,34,35,36,37] (by decide) [(6,fun v=>osl NoB (l41 : List UInt8) v),(9,fun v=>osl NoB (r45 : List UInt8) v)] rfl (fun j=>([fun v=>v = (vI p0),fun v=>v = v1_1,fun v=>v = (ptr (sb v1_1) (so v1_1 + ((0 : Int)).toNat * 2)),fun v=>v = (ptr (sb v1_1) (so v1_1 + ((0 : Int)).toNat * 2 + 1)),fun v=>v = u39,fun v=>v = (vI (x33.Data.length : Int)),fun v=>True,fun v=>v = v2_1,fun v=>v = v1_1,fun v=>True] : List (Value → Prop)).getD j (fun _=>True)) hE hM.drew (Xh (Ze ?_ (Ze ?_ (Ze ?_ (Ze ?_ (Ze ?_ (Ze ?_ (Ze ?_ (Ze ?_ (Ze ?_ (Ze ?_ YE))))))))))) ?_
    ·intro a w ux32 D hE hM hD hp
     have hM0:=hM
     exact Zd hE Za ld rfl fun a hE=>⟨_,_,rfl,hE,rfl,hM0.optKeep rfl⟩
    ·intro a w ux32 D hE hM hD hp
     have hM0:=hM
     exact Zd hE Za ld rfl fun a hE=>⟨_,_,rfl,hE,rfl,hM0.optKeep rfl⟩
    ·intro a w ux32 D hE hM hD hp
     have f1 : ux32 1 = v1_1:=(hp 0 _ rfl rfl).2
     have hM0:=hM
     have hM : M (Old w0) w0 w [opt (D 6) (osl NoB (l41 : List UInt8) (ux32 6)),opt (D 9) (osl NoB (r45 : List UInt8) (ux32 9))]:=hM
     exact Zo hE Za ld (lk rfl f1) rfl Try.underlying25 ZR (hM.rd hv1_1) hi35.1 fun a hE=>⟨_,_,rfl,hE,rfl,hM0.optKeep rfl⟩
    ·intro a w ux32 D hE hM hD hp
     have f2 : ux32 2 = (ptr (sb v1_1) (so v1_1 + ((0 : Int)).toNat * 2)):=(hp 0 _ rfl rfl).2
     have hM0:=hM
     exact Zn hE Za ld (lk rfl f2) (Yr) fun a hE=>⟨_,_,rfl,hE,rfl,hM0.optKeep rfl⟩
    ·intro a w ux32 D hE hM hD hp
     have f3 : ux32 3 = (ptr (sb v1_1) (so v1_1 + ((0 : Int)).toNat * 2 + 1)):=(hp 0 _ rfl rfl).2
     have hM0:=hM
     have hM : M (Old w0) w0 w [opt (D 6) (osl NoB (l41 : List UInt8) (ux32 6)),opt (D 9) (osl NoB (r45 : List UInt8) (ux32 9))]:=hM
     exact Zy (v:=u39) hE Za ld (lk rfl f3) Yv rfl (At.cat (pre:=[[vB x33.Place]]) (hM.atk hA38 (ZY hv1_1 hi35.2)) (cl1 (n:=1) (m:=0) rfl cl0)) fun a hE=>⟨_,_,rfl,hE,rfl,hM0.optKeep rfl⟩
    ·intro a w ux32 D hE hM hD hp
     have f4 : ux32 4 = u39:=(hp 0 _ rfl rfl).2
     have hM0:=hM
     have hM : M (Old w0) w0 w [opt (D 6) (osl NoB (l41 : List UInt8) (ux32 6)),opt (D 9) (osl NoB (r45 : List UInt8) (ux32 9))]:=hM
     exact ZF hE Za ld (lk rfl f4) Try.underlying22 (hM.rd h40) fun a hE=>⟨_,_,rfl,hE,rfl,hM0.optKeep rfl⟩
    ·intro a w ux32 D hE hM hD hp
     have f5 : ux32 5 = (vI (x33.Data.length : Int)):=(hp 0 _ rfl rfl).2
     have hM0:=hM
     have hM : M (Old w0) w0 w [opt (D 6) (osl NoB (l41 : List UInt8) (ux32 6)),opt (D 9) (osl NoB (r45 : List UInt8) (ux32 9))]:=hM
     exact Tv hE hM Za ld (lk rfl f5) (lk rfl f5) Try.underlying22 ty5 rfl (by decide) (fun _=>Tg.2 ⟨rfl,rfl⟩) e42 fun u43 w a hM hE=>⟨_,_,rfl,hE,trivial,M.optFill (mk1:=[]) (mk2:=[_]) (f:=(fun v=>osl NoB (l41 : List UInt8) v)) hM rfl hD⟩
    ·intro a w ux32 D hE hM hD hp
     have hM0:=hM
     exact Zd hE Za ld rfl fun a hE=>⟨_,_,rfl,hE,rfl,hM0.optKeep rfl⟩
    ·intro a w ux32 D hE hM hD hp
     have hM0:=hM
     exact Zd hE Za ld rfl fun a hE=>⟨_,_,rfl,hE,rfl,hM0.optKeep rfl⟩
    ·intro a w ux32 D hE hM hD hp
     have f8 : ux32 8 = v1_1:=(hp 0 _ rfl rfl).2
     have hM0:=hM
     have hM : M (Old w0) w0 w [opt (D 6) (osl NoB (l41 : List UInt8) (ux32 6)),opt (D 9) (osl NoB (r45 : List UInt8) (ux32 9))]:=hM
     refine Zu hE Za ld (WP (WR (lk rfl f8) U9)) cb57 (Ui _ p1 v1_1 (hM.rdo hv1_1) r45 e46) ?_
     rintro _ w a ⟨_,rfl,hFr,hK⟩ hE
     have hM:=hM0.add hK hFr
     exact ⟨_,_,rfl,hE,trivial,M.optFill (mk1:=[_]) (mk2:=[]) (f:=(fun v=>osl NoB (r45 : List UInt8) v)) hM rfl hD⟩
    ·intro a w ux32 hE hM hg
     have hM : M (Old w0) w0 w [osl NoB (l41 : List UInt8) (ux32 6),osl NoB (r45 : List UInt8) (ux32 9)]:=hM
     have hE:=hE.sub (e':=[(28,vI p0),(34,(ux32 6)),(35,v2_1),(37,(ux32 9)),(1,v1_1)]) ⟨lk rfl (hg 0 (by decide)),rfl,lk rfl (hg 7 (by decide)),rfl,rfl,trivial⟩
     obtain ⟨r48,e49,hl28⟩:=bind_some hl28
     refine Zu hE Za ld rfl cb46 (U0 _ p0 l41 (ux32 6) (hM.sl (pre:=[]) noB) p2 v2_1 (hM.rdo hv2_1) r45 (ux32 9) (hM.sl (pre:=[_]) noB) r48 e49) ?_
     rintro u50 w a ⟨_,rfl,hFr,hK⟩ hE
     have hM:=hM.add hK hFr
     refine Zc hE Za ld rfl fun a hE=>Zi ?_
     have ht51:=Option.some.inj hl28
     subst ht51
     refine Zk ?_
     have hM:=M.fst (l:=[_]) hM
     exact ⟨u50,hE.sub ⟨rfl,rfl,trivial⟩,hM⟩
   ·skip
    rintro a w ⟨u30,hE,hM⟩
    refine Zb (Zd hE Za ld rfl fun a hE=>Zd hE Za ld rfl ?_); intro a hE
    obtain ⟨r52,e53,hF29⟩:=bind_some hF29
    refine Zu hE Za ld rfl cb58 (TC _ p1 v1_1 (hM.rdo hv1_1) j27 u30 (hM.sl (pre:=[]) noB) r52 e53) ?_
    rintro u54 w a ⟨_,rfl,hFr,hK⟩ hE
    have hM:=hM.add hK hFr
    refine Zc hE Za ld rfl fun a hE=>Zc hE Za ld rfl fun a hE=>Zf ?_
    have hr:=Option.some.inj hF29
    subst hr
    have hM:=M.fst (l:=[_]) hM
    exact wp_ret (UZ hE rfl (Zg hE rfl) (Zg hE rfl) ⟨_,rfl,u54,rfl,hM.outF (Wr Ws),hM.kept⟩)
def YL (p0 : Int) (p1 : Int) (p2 : Int) : Option (Bool) :=
 (if (decide (p1 ≤ p0)) = true then (some (decide (p0 ≤ p2))) else (some false) : Option (Bool)).bind fun j1=>some j1
theorem WF (w0 : World) (p0 : Int) (p1 : Int) (p2 : Int) (r : Bool) (hF : YL p0 p1 p2 = some r) :
  Calls Try.prog 49 [vI p0,vI p1,vI p2].toArray w0 (fun en w'=>∃ v,en = .returned v ∧ (v = (vT r) ∧ Kept (Old w0) w0 w')):=by
 refine Zv (n:=15) Try.func49 rfl rfl (nbl rfl) rfl ?_
 intro a hE
 have hM:=M.start w0
 unfold YL at hF
 refine Zb (Zc hE Za ld rfl fun a hE=>Zf ?_)
 obtain ⟨j1,hl2,hF3⟩:=bind_some hF
 refine Ye (fun a w=>Env 15 a [(6,vT j1)] ∧ M (Old w0) w0 w []) ?_ ?_
 ·skip
  refine wp_region_lit (Zd hE Za ld rfl fun a hE=>Zd hE Za ld rfl fun a hE=>Zh hE Za ld rfl rfl rfl fun a hE=>Zd hE Za ld rfl ?_); intro a hE
  refine X3 (decide (p1 ≤ p0)) (fun hb4=>?_) (fun hb4=>?_)
  ·have hl2:=Zr hl2 hb4
   refine Zd hE (Zq hE rfl (lkb rfl hb4)) (by decide) rfl fun a hE=>Zd hE (Zq hE rfl (lkb rfl hb4)) (by decide) rfl fun a hE=>Zh hE (Zq hE rfl (lkb rfl hb4)) (by decide) rfl rfl rfl fun a hE=>Yz hE Za ld (lkb rfl hb4) rfl fun a hE=>Zc hE Za ld rfl fun a hE=>Zi ?_
   have ht5:=Option.some.inj hl2
   subst ht5
   refine Zk ?_
   exact ⟨hE.sub ⟨rfl,trivial⟩,hM⟩
  ·have hl2:=Zs hl2 hb4
   refine Zx hE rfl (lkb rfl hb4) rfl (by decide) fun a hE=>Zx hE rfl (lkb rfl hb4) rfl (by decide) fun a hE=>Zx hE rfl (lkb rfl hb4) rfl (by decide) fun a hE=>Xc hE Za ld (lkb rfl hb4) rfl fun a hE=>Zc hE Za ld rfl fun a hE=>Zi ?_
   have ht6:=Option.some.inj hl2
   subst ht6
   refine Zk ?_
   exact ⟨hE.sub ⟨rfl,trivial⟩,hM⟩
 ·skip
  rintro a w ⟨hE,hM⟩
  have hr:=Option.some.inj hF3
  subst hr
  exact wp_ret (Zl hE rfl (Zg hE rfl) ⟨_,rfl,rfl,hM.kept⟩)
def Z7 (p1 : Int) (p2 : Int) (s4 : Int × Int) : Option (Fl (Int × Int) Int) :=
 if (decide (s4.2 ≥ p2)) = true then (((Yi s4.2).bind fun _=>(if ((andI (QX s4.1 s4.2) 1) == 1) = true then ((Yi (wr (s4.2 - p2))).bind fun _=>some (Ug s4.1 (Vs p1 (wr (s4.2 - p2))))) else (some s4.1) : Option (Int)).bind fun j13=>some j13 : Option (Int)).bind fun j9=>some (Fl.nx (j9,wr (s4.2 - 1)))) else (some (Fl.ex s4.1))
def Xp (p0 : Int) (p1 : Int) (p2 : Int) : Option (Int) :=
 (ZB (Z7 p1 p2) (p0,15)).bind fun j1=>some j1
theorem UD (w0 : World) (p0 : Int) (p1 : Int) (p2 : Int) (r : Int) (hF : Xp p0 p1 p2 = some r) :
  Calls Try.prog 98 [vI p0,vI p1,vI p2].toArray w0 (fun en w'=>∃ v,en = .returned v ∧ (v = (vI r) ∧ Kept (Old w0) w0 w')):=by
 refine Zv (n:=26) Try.func98 rfl rfl (nbl rfl) rfl ?_
 intro a hE
 have hM:=M.start w0
 unfold Xp at hF
 refine Zb (Zc hE Za ld rfl fun a hE=>Zf (wp_seq (Zb (Zc hE Za ld rfl fun a hE=>Zf ?_))))
 obtain ⟨j1,hl2,hF3⟩:=bind_some hF
 refine ZS (fun a w=>Env 26 a [(0,vI j1)] ∧ M (Old w0) w0 w []) ?_ ?_
 ·skip
  refine wp_block ?_
  refine ZG (fun (s4 : Int × Int) a w=>Env 26 a [(0,vI s4.1),(1,vI p1),(2,vI p2),(7,vI s4.2)] ∧ M (Old w0) w0 w []) hl2 ⟨hE.sub ⟨rfl,rfl,rfl,rfl,trivial⟩,hM⟩ ?_
  rintro s4 a w ⟨hE,hM⟩ o7 hs5 hx6
  unfold Z7 at hs5
  refine wp_seq (Zb (Zd hE Za ld rfl fun a hE=>Zd hE Za ld rfl fun a hE=>Zh hE Za ld rfl rfl rfl fun a hE=>Zf ?_))
  refine Zm hE rfl ?_ ?_
  ·intro hb8
   have hs5:=Zr hs5 hb8
   refine wp_skip (Zt ?_)
   obtain ⟨j9,hl10,hF11⟩:=bind_some hs5
   refine Ye (fun a w=>Env 26 a [(0,vI j9),(1,vI p1),(2,vI p2),(7,vI s4.2)] ∧ M (Old w0) w0 w []) ?_ ?_
   ·skip
    refine wp_block (Zb (Zd hE Za ld rfl fun a hE=>Zd hE Za ld rfl ?_)); intro a hE
    obtain ⟨_,e12,hl10⟩:=bind_some hl10
    have e12:=XL e12
    refine QU hE Za ld rfl rfl (bI_shr _ _ e12) fun a hE=>Zh hE Za ld rfl rfl rfl fun a hE=>Zh hE Za ld rfl rfl rfl fun a hE=>Zf ?_
    obtain ⟨j13,hl14,hF15⟩:=bind_some hl10
    refine ZS (fun a w=>Env 26 a [(0,vI j13),(1,vI p1),(2,vI p2),(7,vI s4.2)] ∧ M (Old w0) w0 w []) ?_ ?_
    ·skip
     refine Zm hE rfl ?_ ?_
     ·intro hb16
      have hl14:=Zr hl14 hb16
      refine wp_region_lit (Zd hE Za ld rfl fun a hE=>Zd hE Za ld rfl fun a hE=>Zd hE Za ld rfl fun a hE=>Zd hE Za ld rfl fun a hE=>Zh hE Za ld rfl rfl rfl ?_); intro a hE
      obtain ⟨_,e17,hl14⟩:=bind_some hl14
      have e17:=XL e17
      refine QU hE Za ld rfl rfl (UX _ _ e17) fun a hE=>Zh hE Za ld rfl rfl rfl fun a hE=>Zc hE Za ld rfl fun a hE=>Zi ?_
      have ht18:=Option.some.inj hl14
      subst ht18
      refine Zk ?_
      exact ⟨hE.sub ⟨rfl,rfl,rfl,rfl,trivial⟩,hM⟩
     ·intro hb16
      have hl14:=Zs hl14 hb16
      refine wp_skip ?_
      have ht19:=Option.some.inj hl14
      subst ht19
      refine Zk ?_
      exact ⟨hE.sub ⟨rfl,rfl,rfl,rfl,trivial⟩,hM⟩
    ·skip
     rintro a w ⟨hE,hM⟩
     refine Y0 ?_
     have ht20:=Option.some.inj hF15
     subst ht20
     refine Zk ?_
     exact ⟨hE.sub ⟨rfl,rfl,rfl,rfl,trivial⟩,hM⟩
   ·skip
    rintro a w ⟨hE,hM⟩
    refine wp_region_lit (Zd hE Za ld rfl fun a hE=>Zh hE Za ld rfl rfl rfl fun a hE=>Zc hE Za ld rfl fun a hE=>Zi (Zk ?_))
    exact ⟨_,(ois hF11),hE.sub ⟨rfl,rfl,rfl,rfl,trivial⟩,hM⟩
  ·intro hb8
   have hs5:=Zs hs5 hb8
   refine wp_exit (Zp (Zp (Y7 ?_)))
   have ht21:=hx6 _ (ois hs5)
   subst ht21
   refine Zk ?_
   exact ⟨hE.sub ⟨rfl,trivial⟩,hM⟩
 ·skip
  rintro a w ⟨hE,hM⟩
  refine Zt (Zb (Zd hE Za ld rfl fun a hE=>Zc hE Za ld rfl fun a hE=>Zf ?_))
  have hr:=Option.some.inj hF3
  subst hr
  exact wp_ret (Zl hE rfl (Zg hE rfl) ⟨_,rfl,rfl,hM.kept⟩)
def YV (p0 : Int) (s8 : Int) (s18 : Int) : Option (Fl Int (Fl Unit Bool)) :=
 (Yi s8).bind fun _=>if (decide (s18 < (Vs 2 s8))) = true then ((Xp p0 s18 s8).bind fun r24=>if (r24 == 0) = true then (some (Fl.ex (Fl.ex false))) else (some (Fl.nx (wr (s18 + 1))))) else (some (Fl.ex (Fl.nx ())))
def YW (p0 : Int) (s8 : Int) : Option (Fl Int (Fl Unit Bool)) :=
 if (decide (s8 ≤ 4)) = true then ((Yi s8).bind fun _=>(ZB (YV p0 s8) (Vs 1 s8)).bind fun j14=>j14.el (fun s17=>some (Fl.nx (wr (s8 + 1)))) (fun r=>some (Fl.ex (Fl.ex r)))) else (some (Fl.ex (Fl.nx ())))
def XM (p0 : Int) : Option (Bool) :=
 (YL p0 256 511).bind fun r1=>if (!r1) = true then (some false) else ((ZB (YW p0) 1).bind fun j4=>j4.el (fun s7=>some true) (fun r=>some r))
theorem Tj (w0 : World) (p0 : Int) (r : Bool) (hF : XM p0 = some r) :
  Calls Try.prog 47 [vI p0].toArray w0 (fun en w'=>∃ v,en = .returned v ∧ (v = (vT r) ∧ Kept (Old w0) w0 w')):=by
 refine Zv (n:=25) Try.func47 rfl rfl (nbl rfl) rfl ?_
 intro a hE
 have hM:=M.start w0
 unfold XM at hF
 refine Zb (Zc hE Za ld rfl fun a hE=>Zf (wp_seq (Zb (Zd hE Za ld rfl ?_)))); intro a hE
 obtain ⟨r1,e2,hF⟩:=bind_some hF
 refine Zu hE Za ld rfl cb49 (WF _ p0 256 511 r1 e2) ?_
 rintro v w a ⟨rfl,hK⟩ hE
 have hM:=hM.keep hK
 refine Xt hE Za ld rfl fun a hE=>Zf ?_
 refine Zm hE rfl ?_ ?_
 ·intro hb3
  have hF:=Zr hF hb3
  refine Zb (Zc hE Za ld rfl fun a hE=>Zf ?_)
  have hr:=Option.some.inj hF
  subst hr
  exact wp_ret (Zj (Zl hE rfl (Zg hE rfl) ⟨_,rfl,rfl,hM.kept⟩))
 ·intro hb3
  have hF:=Zs hF hb3
  refine wp_skip (Zt (wp_seq (Zb (Zc hE Za ld rfl fun a hE=>Zf ?_))))
  obtain ⟨j4,hl5,hF6⟩:=bind_some hF
  refine ZS (fun a w=>∃ s7 : Unit,j4 = Fl.nx s7 ∧ Env 25 a [] ∧ M (Old w0) w0 w []) ?_ ?_
  ·skip
   refine wp_block ?_
   refine ZG (fun (s8 : Int) a w=>Env 25 a [(0,vI p0),(3,vI s8)] ∧ M (Old w0) w0 w []) hl5 ⟨hE.sub ⟨rfl,rfl,trivial⟩,hM⟩ ?_
   rintro s8 a w ⟨hE,hM⟩ o11 hs9 hx10
   unfold YW at hs9
   refine wp_seq (Zb (Zd hE Za ld rfl fun a hE=>Zh hE Za ld rfl rfl rfl fun a hE=>Zf ?_))
   refine Zm hE rfl ?_ ?_
   ·intro hb12
    have hs9:=Zr hs9 hb12
    refine wp_skip (Zt (wp_seq (wp_block (Zb (Zd hE Za ld rfl ?_))))); intro a hE
    obtain ⟨_,e13,hs9⟩:=bind_some hs9
    have e13:=XL e13
    refine QU hE Za ld rfl rfl (UX _ _ e13) fun a hE=>Zc hE Za ld rfl fun a hE=>Zf ?_
    obtain ⟨j14,hl15,hF16⟩:=bind_some hs9
    refine ZS (fun a w=>∃ s17 : Unit,j14 = Fl.nx s17 ∧ Env 25 a [(0,vI p0),(3,vI s8)] ∧ M (Old w0) w0 w []) ?_ ?_
    ·skip
     refine wp_block ?_
     refine ZG (fun (s18 : Int) a w=>Env 25 a [(0,vI p0),(3,vI s8),(4,vI s18)] ∧ M (Old w0) w0 w []) hl15 ⟨hE.sub ⟨rfl,rfl,rfl,trivial⟩,hM⟩ ?_
     rintro s18 a w ⟨hE,hM⟩ o21 hs19 hx20
     unfold YV at hs19
     refine wp_seq (Zb (Zd hE Za ld rfl fun a hE=>Zd hE Za ld rfl ?_)); intro a hE
     obtain ⟨_,e22,hs19⟩:=bind_some hs19
     have e22:=XL e22
     refine QU hE Za ld rfl rfl (UX _ _ e22) fun a hE=>Zh hE Za ld rfl rfl rfl fun a hE=>Zf ?_
     refine Zm hE rfl ?_ ?_
     ·intro hb23
      have hs19:=Zr hs19 hb23
      refine wp_skip (Zt (wp_seq (wp_block (Zb (Zd hE Za ld rfl fun a hE=>Zd hE Za ld rfl fun a hE=>Zd hE Za ld rfl ?_))))); intro a hE
      obtain ⟨r24,e25,hs19⟩:=bind_some hs19
      refine Zu hE Za ld rfl cb98 (UD _ p0 s18 s8 r24 e25) ?_
      rintro v w a ⟨rfl,hK⟩ hE
      have hM:=hM.keep hK
      refine Zh hE Za ld rfl rfl rfl fun a hE=>Zf ?_
      refine Zm hE rfl ?_ ?_
      ·intro hb26
       have hs19:=Zr hs19 hb26
       refine Zb (Zc hE Za ld rfl fun a hE=>Zf ?_)
       have ht27:=hx20 _ (ois hs19)
       subst ht27
       have ht28:=hx10 _ (ois hF16)
       subst ht28
       have hr:=Option.some.inj hF6
       subst hr
       exact wp_ret (Z5 (Zj (Zj (Z5 (Zj (Z5 (Zj (Zj (Z5 (Zj (Zj (Zl hE rfl (Zg hE rfl) ⟨_,rfl,rfl,hM.kept⟩))))))))))))
      ·intro hb26
       have hs19:=Zs hs19 hb26
       refine wp_skip (Y0 (Zt (wp_region_lit (Zd hE Za ld rfl fun a hE=>Zh hE Za ld rfl rfl rfl fun a hE=>Zc hE Za ld rfl fun a hE=>Zi (Zk ?_)))))
       exact ⟨_,(ois hs19),hE.sub ⟨rfl,rfl,rfl,trivial⟩,hM⟩
     ·intro hb23
      have hs19:=Zs hs19 hb23
      refine wp_exit (Zp (Zp (Y7 ?_)))
      have ht29:=hx20 _ (ois hs19)
      subst ht29
      refine Zk ?_
      exact ⟨(),rfl,hE.sub ⟨rfl,rfl,trivial⟩,hM⟩
    ·skip
     rintro a w ⟨s17,ht,hE,hM⟩
     subst ht
     have hF16:=Wk hF16
     refine Y0 (Zt (wp_region_lit (Zd hE Za ld rfl fun a hE=>Zh hE Za ld rfl rfl rfl fun a hE=>Zc hE Za ld rfl fun a hE=>Zi (Zk ?_))))
     exact ⟨_,(ois hF16),hE.sub ⟨rfl,rfl,trivial⟩,hM⟩
   ·intro hb12
    have hs9:=Zs hs9 hb12
    refine wp_exit (Zp (Zp (Y7 ?_)))
    have ht30:=hx10 _ (ois hs9)
    subst ht30
    refine Zk ?_
    exact ⟨(),rfl,hE.sub trivial,hM⟩
  ·skip
   rintro a w ⟨s7,ht,hE,hM⟩
   subst ht
   have hF6:=Wk hF6
   refine Zt (Zb (Zc hE Za ld rfl fun a hE=>Zf ?_))
   have hr:=Option.some.inj hF6
   subst hr
   exact wp_ret (Zl hE rfl (Zg hE rfl) ⟨_,rfl,rfl,hM.kept⟩)
def ZN (p0 : (List GShare)) (p1 : GShare → Option (Bool)) (s5 : Int) : Option (Fl Int (Fl Unit Int)) :=
 if (decide (s5 < (p0.length : Int))) = true then ((idx p0 s5).bind fun x10=>((p1 x10)).bind fun r18=>if r18 = true then (some (Fl.ex (Fl.ex s5))) else (some (Fl.nx (wr (s5 + 1))))) else (some (Fl.ex (Fl.nx ())))
def ZE (p0 : (List GShare)) (p1 : GShare → Option (Bool)) : Option (Int) :=
 (ZB (ZN p0 p1) 0).bind fun j1=>j1.el (fun s4=>some (-1)) (fun r=>some r)
theorem XH (w0 : World) (p0 : (List GShare)) (v0_1 : Value) (hv0_1 : Ro w0 p0 [v0_1]) (p1 : GShare → Option (Bool)) (k1 : Nat) (q1 : List Value) (hcb1 : Callable Try.prog k1) (hg1 : ∀ (w2 : World),Kept (Old w0) w0 w2 → ∀ (z0 : GShare) (zu1 : Value) (_ : Ro w2 z0.Data [zu1]) (zr : Bool),p1 z0 = some zr → Calls Try.prog k1 ([(Value.agg (cat [[vB z0.Place],[zu1]]).toArray)] ++ q1).toArray w2 (fun en w3=>∃ v,en = .returned v ∧ (v = (vT zr) ∧ Kept (Old w2) w2 w3))) (r : Int) (hF : ZE p0 p1 = some r) :
  Calls Try.prog 147 [v0_1,(Value.func (.func k1) #[] q1.toArray)].toArray w0 (fun en w'=>∃ v,en = .returned v ∧ (v = (vI r) ∧ Kept (Old w0) w0 w')):=by
 refine Zv (n:=19) Try.func147 rfl rfl (nbl rfl) rfl ?_
 intro a hE
 have hM:=M.start w0
 unfold ZE at hF
 refine Zb (Zc hE Za ld rfl fun a hE=>Zf (wp_seq (Zb (Zd hE Za ld rfl fun a hE=>ZF hE Za ld rfl Try.underlying25 (hM.rd hv0_1) fun a hE=>Zd hE Za ld rfl fun a hE=>Zf ?_))))
 obtain ⟨j1,hl2,hF3⟩:=bind_some hF
 refine ZS (fun a w=>∃ s4 : Unit,j1 = Fl.nx s4 ∧ Env 19 a [] ∧ M (Old w0) w0 w []) ?_ ?_
 ·skip
  refine wp_block ?_
  refine ZG (fun (s5 : Int) a w=>Env 19 a [(0,v0_1),(1,(Value.func (.func k1) #[] q1.toArray)),(7,(vI (p0.length : Int))),(8,vI s5)] ∧ M (Old w0) w0 w []) hl2 ⟨hE.sub ⟨rfl,rfl,rfl,rfl,trivial⟩,hM⟩ ?_
  rintro s5 a w ⟨hE,hM⟩ o8 hs6 hx7
  unfold ZN at hs6
  refine Zb (Zh hE Za ld rfl rfl rfl fun a hE=>Zf (wp_seq ?_))
  refine Zm hE rfl ?_ ?_
  ·intro hb9
   have hs6:=Zr hs6 hb9
   refine wp_skip (Zt (wp_seq (wp_block (Zb (Zd hE Za ld rfl fun a hE=>Zc hE Za ld rfl fun a hE=>Zf (Zb (Zd hE Za ld rfl fun a hE=>Zd hE Za ld rfl fun a hE=>Zd hE Za ld rfl ?_))))))); intro a hE
   obtain ⟨x10,hi12,hs6⟩:=bix hs6
   refine Zo hE Za ld rfl rfl Try.underlying25 ZR (hM.rd hv0_1) hi12.1 ?_; intro a hE
   obtain ⟨cs13,hs14,hA15⟩:=ZM hv0_1 hi12.2 -- ^
   obtain ⟨u16,rfl,h17⟩:=ZJ hs14 -- ^
   refine XY (cs:=cat [[vB x10.Place],[u16]]) hE Za ld rfl ZR rfl (hM.atk hA15 (ZY hv0_1 hi12.2)) (ZC (cl1 (n:=1) (m:=1) rfl (cl1 (n:=1) (m:=0) rfl cl0))) ?_; intro a hE
   obtain ⟨r18,e19,hs6⟩:=bind_some hs6
   refine Qp (vs:=[(Value.agg (cat [[vB x10.Place],[u16]]).toArray)]) hE Za ld rfl rfl hcb1 (hg1 _ hM.kept x10 u16 (hM.rdo h17) r18 e19) ?_
   rintro v w a ⟨rfl,hK⟩ hE
   have hM:=hM.keep hK
   refine Zf ?_
   refine Zm hE rfl ?_ ?_
   ·intro hb20
    have hs6:=Zr hs6 hb20
    refine Zb (Zd hE Za ld rfl fun a hE=>Zc hE Za ld rfl fun a hE=>Zf ?_)
    have ht21:=hx7 _ (ois hs6)
    subst ht21
    have hr:=Option.some.inj hF3
    subst hr
    exact wp_ret (Z5 (Zj (Zj (Z5 (Zj (Zj (Zl hE rfl (Zg hE rfl) ⟨_,rfl,rfl,hM.kept⟩)))))))
   ·intro hb20
    have hs6:=Zs hs6 hb20
    refine wp_skip (Y0 (Zt (wp_region_lit (Zh hE Za ld rfl rfl rfl fun a hE=>Zd hE Za ld rfl fun a hE=>Zi (Zk ?_)))))
    exact ⟨_,(ois hs6),hE.sub ⟨rfl,rfl,rfl,rfl,trivial⟩,hM⟩
  ·intro hb9
   have hs6:=Zs hs6 hb9
   refine wp_exit (Zp (Zp (Y7 ?_)))
   have ht22:=hx7 _ (ois hs6)
   subst ht22
   refine Zk ?_
   exact ⟨(),rfl,hE.sub trivial,hM⟩
 ·skip
  rintro a w ⟨s4,ht,hE,hM⟩
  subst ht
  have hF3:=Wk hF3
  refine Zt (Zb (Zc hE Za ld rfl fun a hE=>Zf ?_))
  have hr:=Option.some.inj hF3
  subst hr
  exact wp_ret (Zl hE rfl (Zg hE rfl) ⟨_,rfl,rfl,hM.kept⟩)
def Zw (p0 : (List GShare)) (p1 : GShare → Option (Bool)) : Option (Bool) :=
 (ZE p0 p1).bind fun r1=>some (decide (r1 ≥ 0))
theorem Z6 (w0 : World) (p0 : (List GShare)) (v0_1 : Value) (hv0_1 : Ro w0 p0 [v0_1]) (p1 : GShare → Option (Bool)) (k1 : Nat) (q1 : List Value) (hcb1 : Callable Try.prog k1) (hg1 : ∀ (w2 : World),Kept (Old w0) w0 w2 → ∀ (z0 : GShare) (zu1 : Value) (_ : Ro w2 z0.Data [zu1]) (zr : Bool),p1 z0 = some zr → Calls Try.prog k1 ([(Value.agg (cat [[vB z0.Place],[zu1]]).toArray)] ++ q1).toArray w2 (fun en w3=>∃ v,en = .returned v ∧ (v = (vT zr) ∧ Kept (Old w2) w2 w3))) (r : Bool) (hF : Zw p0 p1 = some r) :
  Calls Try.prog 105 [v0_1,(Value.func (.func k1) #[] q1.toArray)].toArray w0 (fun en w'=>∃ v,en = .returned v ∧ (v = (vT r) ∧ Kept (Old w0) w0 w')):=by
 refine Zv (n:=9) Try.func105 rfl rfl (nbl rfl) rfl ?_
 intro a hE
 have hM:=M.start w0
 unfold Zw at hF
 refine Zb (Zc hE Za ld rfl fun a hE=>Zf (Zb (Zd hE Za ld rfl fun a hE=>Zd hE Za ld rfl ?_))); intro a hE
 obtain ⟨r1,e2,hF⟩:=bind_some hF
 refine Zu hE Za ld rfl cb147 (XH _ p0 v0_1 (hM.rdo hv0_1) p1 k1 q1 hcb1 (fun w2 hk2=>hg1 w2 (hM.kept.trans hk2)) r1 e2) ?_
 rintro v w a ⟨rfl,hK⟩ hE
 have hM:=hM.keep hK
 refine Zh hE Za ld rfl rfl rfl fun a hE=>Zc hE Za ld rfl fun a hE=>Zf ?_
 have hr:=Option.some.inj hF
 subst hr
 exact wp_ret (Zl hE rfl (Zg hE rfl) ⟨_,rfl,rfl,hM.kept⟩)
def XO (p0 : GShare) : Option (Bool) :=
 (if (p0.Place != 0) = true then (some (decide ((p0.Data.length : Int) ≤ 100))) else (some false) : Option (Bool)).bind fun j3=>some j3
theorem Ta (w0 : World) (p0 : GShare) (v0_1 : Value) (hv0_1 : Ro w0 p0.Data [v0_1]) (r : Bool) (hF : XO p0 = some r) :
  Calls Try.prog 107 [(Value.agg (cat [[vB p0.Place],[v0_1]]).toArray)].toArray w0 (fun en w'=>∃ v,en = .returned v ∧ (v = (vT r) ∧ Kept (Old w0) w0 w')):=by
 refine Zv (n:=12) Try.func107 rfl rfl (nbl rfl) rfl ?_
 intro a hE
 have hM:=M.start w0
 unfold XO at hF
 refine Zb (VK (cs:=cat [[vB p0.Place],[v0_1]]) hE hM Za ld rfl rfl fun b1 w a hM hE=>Zc hE Za ld rfl fun a hE=>Zf ?_)
 obtain ⟨j3,hl4,hF5⟩:=bind_some hF
 refine Ye (fun a w=>Env 12 a [(2,vT j3)] ∧ M (Old w0) w0 w []) ?_ ?_
 ·skip
  refine wp_region_lit (Zn hE Za ld rfl (Wx) fun a hE=>Zy (v:=(vB p0.Place)) hE Za ld rfl ty5 rfl (At.cat (pre:=[]) (hM.rawAt (pre:=[])) cl0) fun a hE=>Zh hE Za ld rfl rfl (Um p0.Place 0) fun a hE=>Zd hE Za ld rfl ?_); intro a hE
  refine X3 (p0.Place != 0) (fun hb6=>?_) (fun hb6=>?_)
  ·have hl4:=Zr hl4 hb6
   refine Zn hE (Zq hE rfl (lkb rfl hb6)) (by decide) rfl (Yr) fun a hE=>Zy (v:=v0_1) hE (Zq hE rfl (lkb rfl hb6)) (by decide) rfl Yv rfl (At.cat (pre:=[[vB p0.Place]]) (hM.rawAt (pre:=[])) (cl1 (n:=1) (m:=0) rfl cl0)) fun a hE=>ZF hE (Zq hE rfl (lkb rfl hb6)) (by decide) rfl Try.underlying22 (hM.rd hv0_1) fun a hE=>Zh hE (Zq hE rfl (lkb rfl hb6)) (by decide) rfl rfl rfl fun a hE=>Yz hE Za ld (lkb rfl hb6) rfl fun a hE=>Zc hE Za ld rfl fun a hE=>Zi ?_
   have ht7:=Option.some.inj hl4
   subst ht7
   refine Zk ?_
   have hM:=M.fst (l:=[]) hM
   exact ⟨hE.sub ⟨rfl,trivial⟩,hM⟩
  ·have hl4:=Zs hl4 hb6
   refine Zx hE rfl (lkb rfl hb6) rfl (by decide) fun a hE=>Zx hE rfl (lkb rfl hb6) rfl (by decide) fun a hE=>Zx hE rfl (lkb rfl hb6) rfl (by decide) fun a hE=>Zx hE rfl (lkb rfl hb6) rfl (by decide) fun a hE=>Xc hE Za ld (lkb rfl hb6) rfl fun a hE=>Zc hE Za ld rfl fun a hE=>Zi ?_
   have ht8:=Option.some.inj hl4
   subst ht8
   refine Zk ?_
   have hM:=M.fst (l:=[]) hM
   exact ⟨hE.sub ⟨rfl,trivial⟩,hM⟩
 ·skip
  rintro a w ⟨hE,hM⟩
  have hr:=Option.some.inj hF5
  subst hr
  exact wp_ret (Zl hE rfl (Zg hE rfl) ⟨_,rfl,rfl,hM.kept⟩)
def Yn (p0 : GShare) : Option (Bool) :=
 (XO p0).bind fun r3=>some (!r3)
theorem Vm (w0 : World) (p0 : GShare) (v0_1 : Value) (hv0_1 : Ro w0 p0.Data [v0_1]) (r : Bool) (hF : Yn p0 = some r) :
  Calls Try.prog 106 [(Value.agg (cat [[vB p0.Place],[v0_1]]).toArray)].toArray w0 (fun en w'=>∃ v,en = .returned v ∧ (v = (vT r) ∧ Kept (Old w0) w0 w')):=by
 refine Zv (n:=6) Try.func106 rfl rfl (nbl rfl) rfl ?_
 intro a hE
 have hM:=M.start w0
 unfold Yn at hF
 refine Zb (VK (cs:=cat [[vB p0.Place],[v0_1]]) hE hM Za ld rfl rfl fun b1 w a hM hE=>Zc hE Za ld rfl fun a hE=>Zf (Zb (XY (cs:=cat [[vB p0.Place],[v0_1]]) hE Za ld rfl ZR rfl (hM.rawAt (pre:=[])) (ZC (cl1 (n:=1) (m:=1) rfl (cl1 (n:=1) (m:=0) rfl cl0))) ?_))); intro a hE
 obtain ⟨r3,e4,hF⟩:=bind_some hF
 refine Zu hE Za ld rfl cb107 (Ta _ p0 v0_1 (hM.rdo hv0_1) r3 e4) ?_
 rintro v w a ⟨rfl,hK⟩ hE
 have hM:=hM.keep hK
 refine Xt hE Za ld rfl fun a hE=>Zc hE Za ld rfl fun a hE=>Zf ?_
 have hr:=Option.some.inj hF
 subst hr
 have hM:=M.fst (l:=[]) hM
 exact wp_ret (Zl hE rfl (Zg hE rfl) ⟨_,rfl,rfl,hM.kept⟩)
def Xe (p0 : (List GShare)) (s8 : (List UInt8) × Int) : Option (Fl ((List UInt8) × Int) (List UInt8)) :=
 if (decide (s8.2 < (p0.length : Int))) = true then ((idx p0 s8.2).bind fun x15=>(app 1 s8.1 ([x15.Place] : List UInt8)).bind fun l27=>some (Fl.nx ((s8.1 ++ ([x15.Place] : List UInt8)),wr (s8.2 + 1)))) else (some (Fl.ex s8.1))
def Ys (p0 : (List GShare)) : Option ((List UInt8)) :=
 (ZB (Xe p0) (([] : List UInt8),0)).bind fun j3=>some j3
theorem Vg (w0 : World) (p0 : (List GShare)) (v0_1 : Value) (hv0_1 : Ro w0 p0 [v0_1]) (r : (List UInt8)) (hF : Ys p0 = some r) :
  Calls Try.prog 62 [v0_1].toArray w0 (fun en w'=>∃ v,en = .returned v ∧ (∃ (y1 : Value),v = y1 ∧ Fr w0 w' [osl NoB (r : List UInt8) y1] ∧ Kept (Old w0) w0 w')):=by
 refine Zv (n:=20) Try.func62 rfl rfl (nbl rfl) rfl ?_
 intro a hE
 have hM:=M.start w0
 unfold Ys at hF
 refine Zb (Zc hE Za ld rfl fun a hE=>Zf (Zb (Y5 (xs:=[]) (l:=([] : List UInt8)) (vs:=[]) hE hM Za ld rfl rfl Try.underlying22 ty5 rfl (by decide) rfl fun u1 w a hM hE=>Zc hE Za ld rfl fun a hE=>Zf (wp_seq (Zb (Zd hE Za ld rfl fun a hE=>ZF hE Za ld rfl Try.underlying25 (hM.rd hv0_1) fun a hE=>Zd hE Za ld rfl fun a hE=>Zf ?_))))))
 obtain ⟨j3,hl4,hF5⟩:=bind_some hF
 refine ZS (fun a w=>∃ (u6 : Value),Env 20 a [(3,u6)] ∧ M (Old w0) w0 w [osl NoB (j3 : List UInt8) u6]) ?_ ?_
 ·skip
  refine wp_block ?_
  refine ZG (fun (s8 : (List UInt8) × Int) a w=>∃ (u9 : Value),Env 20 a [(3,u9),(7,v0_1),(8,(vI (p0.length : Int))),(9,vI s8.2)] ∧ M (Old w0) w0 w [osl NoB (s8.1 : List UInt8) u9]) hl4 ⟨u1,hE.sub ⟨rfl,rfl,rfl,rfl,trivial⟩,hM⟩ ?_
  rintro s8 a w ⟨u9,hE,hM⟩ o13 hs11 hx12
  unfold Xe at hs11
  refine Zb (Zh hE Za ld rfl rfl rfl fun a hE=>Zf (wp_seq ?_))
  refine Zm hE rfl ?_ ?_
  ·intro hb14
   have hs11:=Zr hs11 hb14
   refine wp_skip (Zt (wp_seq (wp_block (Zb ?_))))
   obtain ⟨x15,hi17,hs11⟩:=bix hs11
   refine Zo hE Za ld rfl rfl Try.underlying25 ZR (hM.rd hv0_1) hi17.1 ?_; intro a hE
   obtain ⟨cs18,hs19,hA20⟩:=ZM hv0_1 hi17.2 -- ^
   obtain ⟨u21,rfl,h22⟩:=ZJ hs19 -- ^
   refine XY (cs:=cat [[vB x15.Place],[u21]]) hE Za ld rfl ZR rfl (hM.atk hA20 (ZY hv0_1 hi17.2)) (ZC (cl1 (n:=1) (m:=1) rfl (cl1 (n:=1) (m:=0) rfl cl0))) fun a hE=>Vb hE hM Za ld ZR fun b23 w a hM hE=>We (seg:=cat [[vB x15.Place],[u21]]) (cs':=cat [[vB x15.Place],[u21]]) hE hM Za rfl rfl rfl ZR (ZC (cl1 (n:=1) (m:=1) rfl (cl1 (n:=1) (m:=0) rfl cl0))) (Nat.le_of_eq ((Nat.zero_add _).trans (Eq.trans (ZC (cl1 (n:=1) (m:=1) rfl (cl1 (n:=1) (m:=0) rfl cl0))) (Eq.symm (ZC (cl1 (n:=1) (m:=1) rfl (cl1 (n:=1) (m:=0) rfl cl0))))))) (Va (cc1 (Flat.cell (x15.Place : UInt8)) (cc1 (Rep.cell (hM.rd h22)) cc0))) (Y8 (Eq.trans (ZC (cl1 (n:=1) (m:=1) rfl (cl1 (n:=1) (m:=0) rfl cl0))) (Eq.symm (ZC (cl1 (n:=1) (m:=1) rfl (cl1 (n:=1) (m:=0) rfl cl0)))))) fun w a hM hE=>Zf (wp_region_lit (Zd hE Za ld rfl fun a hE=>Zn hE Za ld rfl (Wx) fun a hE=>Zy (v:=(vB x15.Place)) hE Za ld rfl ty5 rfl (At.cat (pre:=[]) (hM.rawAt (pre:=[])) cl0) fun a hE=>Y5 (xs:=[.tmp 15]) (l:=([x15.Place] : List UInt8)) (vs:=[vB x15.Place]) hE hM Za ld rfl rfl Try.underlying22 ty5 rfl (by decide) rfl ?_)); intro u25 w a hM hE
   obtain ⟨l27,e28,hs11⟩:=bind_some hs11
   obtain ⟨e31,rfl⟩:=Xl e28
   have hM:=hM.pull (pre:=[_,_])
   refine XW hE hM Za ld rfl rfl (hM.sl (pre:=[_]) noB) Try.underlying22 ty5 rfl (by decide) e31 fun u29 w a hM hE=>Zc hE Za ld rfl fun a hE=>Zi (Y0 (Zt (wp_region_lit (Zh hE Za ld rfl rfl rfl fun a hE=>Zd hE Za ld rfl fun a hE=>Zi (Zk ?_)))))
   have hM:=M.fst (l:=[_]) hM
   exact ⟨_,(ois hs11),u29,hE.sub ⟨rfl,rfl,rfl,rfl,trivial⟩,hM⟩
  ·intro hb14
   have hs11:=Zs hs11 hb14
   refine wp_exit (Zp (Zp (Y7 ?_)))
   have ht32:=hx12 _ (ois hs11)
   subst ht32
   refine Zk ?_
   exact ⟨u9,hE.sub ⟨rfl,trivial⟩,hM⟩
 ·skip
  rintro a w ⟨u6,hE,hM⟩
  refine Zt (Zb (Zd hE Za ld rfl fun a hE=>Zc hE Za ld rfl fun a hE=>Zf ?_))
  have hr:=Option.some.inj hF5
  subst hr
  exact wp_ret (Zl hE rfl (Zg hE rfl) ⟨_,rfl,u6,rfl,hM.outF (Wr Ws),hM.kept⟩)
def XI (p0 : (List UInt8)) (p1 : UInt8) : Option (Int) :=
 some (indexByte p0 p1)
theorem V9 (w0 : World) (p0 : (List UInt8)) (v0_1 : Value) (hv0_1 : Ro w0 p0 [v0_1]) (p1 : UInt8) (r : Int) (hF : XI p0 p1 = some r) :
  Calls Try.prog 102 [v0_1,vB p1].toArray w0 (fun en w'=>∃ v,en = .returned v ∧ (v = (vI r) ∧ Kept (Old w0) w0 w')):=by
 refine Zv (n:=8) Try.func102 rfl rfl (nbl rfl) rfl ?_
 intro a hE
 have hM:=M.start w0
 unfold XI at hF
 refine Zb (Zc hE Za ld rfl fun a hE=>Zf (Zb (Zd hE Za ld rfl fun a hE=>Zd hE Za ld rfl fun a hE=>Qv hE Za ld rfl Try.func142 rfl (by decide) (by kernel_rfl) (by kernel_rfl) (hM.rd hv0_1) fun a hE=>Zc hE Za ld rfl fun a hE=>Zf ?_)))
 have hr:=Option.some.inj hF
 subst hr
 exact wp_ret (Zl hE rfl (Zg hE rfl) ⟨_,rfl,rfl,hM.kept⟩)
def Z1 (p0 : (List UInt8)) (s5 : Int) : Option (Fl Int (Fl Unit Bool)) :=
 if (decide (s5 < (p0.length : Int))) = true then ((idx p0 s5).bind fun x10=>(slc p0 (0 : Int) s5).bind fun l13=>(XI l13 x10).bind fun r16=>if (decide (r16 ≥ 0)) = true then (some (Fl.ex (Fl.ex false))) else (some (Fl.nx (wr (s5 + 1))))) else (some (Fl.ex (Fl.nx ())))
def Yy (p0 : (List UInt8)) : Option (Bool) :=
 (ZB (Z1 p0) 0).bind fun j1=>j1.el (fun s4=>some true) (fun r=>some r)
theorem VH (w0 : World) (p0 : (List UInt8)) (v0_1 : Value) (hv0_1 : Ro w0 p0 [v0_1]) (r : Bool) (hF : Yy p0 = some r) :
  Calls Try.prog 101 [v0_1].toArray w0 (fun en w'=>∃ v,en = .returned v ∧ (v = (vT r) ∧ Kept (Old w0) w0 w')):=by
 refine Zv (n:=19) Try.func101 rfl rfl (nbl rfl) rfl ?_
 intro a hE
 have hM:=M.start w0
 unfold Yy at hF
 refine Zb (Zc hE Za ld rfl fun a hE=>Zf (wp_seq (Zb (Zd hE Za ld rfl fun a hE=>ZF hE Za ld rfl Try.underlying22 (hM.rd hv0_1) fun a hE=>Zd hE Za ld rfl fun a hE=>Zf ?_))))
 obtain ⟨j1,hl2,hF3⟩:=bind_some hF
 refine ZS (fun a w=>∃ s4 : Unit,j1 = Fl.nx s4 ∧ Env 19 a [] ∧ M (Old w0) w0 w []) ?_ ?_
 ·skip
  refine wp_block ?_
  refine ZG (fun (s5 : Int) a w=>Env 19 a [(0,v0_1),(5,v0_1),(6,(vI (p0.length : Int))),(7,vI s5)] ∧ M (Old w0) w0 w []) hl2 ⟨hE.sub ⟨rfl,rfl,rfl,rfl,trivial⟩,hM⟩ ?_
  rintro s5 a w ⟨hE,hM⟩ o8 hs6 hx7
  unfold Z1 at hs6
  refine Zb (Zh hE Za ld rfl rfl rfl fun a hE=>Zf (wp_seq ?_))
  refine Zm hE rfl ?_ ?_
  ·intro hb9
   have hs6:=Zr hs6 hb9
   refine wp_skip (Zt (wp_seq (wp_block (Zb (Zd hE Za ld rfl ?_))))); intro a hE
   obtain ⟨x10,hi12,hs6⟩:=bix hs6
   refine Zo hE Za ld rfl rfl Try.underlying22 ty5 (hM.rd hv0_1) hi12.1 fun a hE=>Zy (v:=(vB x10)) hE Za ld rfl ty5 rfl (Xr (hM.rd hv0_1) hi12.2) fun a hE=>Zc hE Za ld rfl fun a hE=>Zc hE Za ld rfl fun a hE=>Zf (Zb (Zd hE Za ld rfl fun a hE=>Zd hE Za ld rfl ?_)); intro a hE
   obtain ⟨l13,e14,hs6⟩:=bind_some hs6
   refine K6 hE Za ld rfl rfl rfl rfl rfl Try.underlying22 ty5 (hM.rd hv0_1) e14 ?_; intro a hE
   have h15 : Rep.sat (Old w0) w0 l13 [(WZ v0_1 ((0 : Int)).toNat (s5).toNat 1)] []:=KQ hv0_1 e14 -- ^
   refine Zd hE Za ld rfl ?_; intro a hE
   obtain ⟨r16,e17,hs6⟩:=bind_some hs6
   refine Zu hE Za ld rfl cb102 (V9 _ l13 (WZ v0_1 ((0 : Int)).toNat (s5).toNat 1) (hM.rdo h15) x10 r16 e17) ?_
   rintro v w a ⟨rfl,hK⟩ hE
   have hM:=hM.keep hK
   refine Zh hE Za ld rfl rfl rfl fun a hE=>Zf ?_
   refine Zm hE rfl ?_ ?_
   ·intro hb18
    have hs6:=Zr hs6 hb18
    refine Zb (Zc hE Za ld rfl fun a hE=>Zf ?_)
    have ht19:=hx7 _ (ois hs6)
    subst ht19
    have hr:=Option.some.inj hF3
    subst hr
    exact wp_ret (Z5 (Zj (Zj (Z5 (Zj (Zj (Zl hE rfl (Zg hE rfl) ⟨_,rfl,rfl,hM.kept⟩)))))))
   ·intro hb18
    have hs6:=Zs hs6 hb18
    refine wp_skip (Y0 (Zt (wp_region_lit (Zh hE Za ld rfl rfl rfl fun a hE=>Zd hE Za ld rfl fun a hE=>Zi (Zk ?_)))))
    exact ⟨_,(ois hs6),hE.sub ⟨rfl,rfl,rfl,rfl,trivial⟩,hM⟩
  ·intro hb9
   have hs6:=Zs hs6 hb9
   refine wp_exit (Zp (Zp (Y7 ?_)))
   have ht20:=hx7 _ (ois hs6)
   subst ht20
   refine Zk ?_
   exact ⟨(),rfl,hE.sub trivial,hM⟩
 ·skip
  rintro a w ⟨s4,ht,hE,hM⟩
  subst ht
  have hF3:=Wk hF3
  refine Zt (Zb (Zc hE Za ld rfl fun a hE=>Zf ?_))
  have hr:=Option.some.inj hF3
  subst hr
  exact wp_ret (Zl hE rfl (Zg hE rfl) ⟨_,rfl,rfl,hM.kept⟩)
def Yj (p0 : (List GShare)) : Option (Int) :=
 some (p0.length : Int)
theorem W2 (w0 : World) (p0 : (List GShare)) (v0_1 : Value) (hv0_1 : Ro w0 p0 [v0_1]) (r : Int) (hF : Yj p0 = some r) :
  Calls Try.prog 108 [v0_1].toArray w0 (fun en w'=>∃ v,en = .returned v ∧ (v = (vI r) ∧ Kept (Old w0) w0 w')):=by
 refine Zv (n:=5) Try.func108 rfl rfl (nbl rfl) rfl ?_
 intro a hE
 have hM:=M.start w0
 unfold Yj at hF
 refine Zb (Zc hE Za ld rfl fun a hE=>Zf (Zb (Zd hE Za ld rfl fun a hE=>ZF hE Za ld rfl Try.underlying25 (hM.rd hv0_1) fun a hE=>Zc hE Za ld rfl fun a hE=>Zf ?_)))
 have hr:=Option.some.inj hF
 subst hr
 exact wp_ret (Zl hE rfl (Zg hE rfl) ⟨_,rfl,rfl,hM.kept⟩)
def YD (p0 : GShare) (p1 : (List GShare)) : Option (Bool) :=
 ((idx p1 (0 : Int)).bind fun x7=>some ((p0.Data.length : Int) != (x7.Data.length : Int)) : Option (Bool)).bind fun j3=>some j3
theorem Ut (w0 : World) (p0 : GShare) (v0_1 : Value) (hv0_1 : Ro w0 p0.Data [v0_1]) (pb1 : Nat) (p1 : (List GShare)) (v1_2 : Value) (hv1_2 : Ro w0 p1 [v1_2]) (hA1 : At w0 pb1 0 ([v1_2])) (hB1 : Old w0 pb1) (r : Bool) (hF : YD p0 p1 = some r) :
  Calls Try.prog 148 [(Value.agg (cat [[vB p0.Place],[v0_1]]).toArray),(ptr pb1 0)].toArray w0 (fun en w'=>∃ v,en = .returned v ∧ (v = (vT r) ∧ Kept (Old w0) w0 w')):=by
 refine Zv (n:=13) Try.func148 rfl rfl (nbl rfl) rfl ?_
 intro a hE
 have hM:=M.start w0
 unfold YD at hF
 refine Zb (VK (cs:=cat [[vB p0.Place],[v0_1]]) hE hM Za ld rfl rfl fun b1 w a hM hE=>Zc hE Za ld rfl fun a hE=>Zf ?_)
 obtain ⟨j3,hl4,hF5⟩:=bind_some hF
 refine Ye (fun a w=>Env 13 a [(3,vT j3)] ∧ M (Old w0) w0 w []) ?_ ?_
 ·skip
  obtain ⟨x7,hi9,hl4⟩:=bix hl4
  obtain ⟨cs10,hs11,hA12⟩:=ZM hv1_2 hi9.2 -- ^
  obtain ⟨u13,rfl,h14⟩:=ZJ hs11 -- ^
  refine Vx (n:=13) (hd:=[_,_,_,_,_,_,_,_,_,_]) (tl:=[]) Uo rfl rfl [4,5,6,7,8,9,10,11,12,3] (by decide) (fun w=>M (Old w0) w0 w [raw b1 (cat [[vB p0.Place],[v0_1]])]) (fun j=>([fun v _=>v = (ptr b1 (0 + 1)),fun v _=>v = v0_1,fun v _=>v = (vI (p0.Data.length : Int)),fun v _=>v = v1_2,fun v _=>v = (ptr (sb v1_2) (so v1_2 + ((0 : Int)).toNat * 2)),fun v _=>v = (ptr (sb v1_2) (so v1_2 + ((0 : Int)).toNat * 2 + 1)),fun v _=>v = u13,fun v _=>v = (vI (x7.Data.length : Int)),fun v _=>v = (vT ((p0.Data.length : Int) != (x7.Data.length : Int))),fun v _=>v = (vT ((p0.Data.length : Int) != (x7.Data.length : Int)))] : List (Value → World → Prop)).getD j (fun _ _=>True)) (fun _ _ h hk=>h.keep hk) (gup (ZL (ZL (ZL (ZL (ZL (ZL (ZL (ZL (ZL (ZL Qy))))))))))) hE hM.drew (Xh (Ze ?_ (Ze ?_ (Ze ?_ (Ze ?_ (Ze ?_ (Ze ?_ (Ze ?_ (Ze ?_ (Ze ?_ (Ze ?_ YE))))))))))) ?_
  ·exact fun a w ux6 hE hM hp=>Zn hE Za ld rfl (Yr) fun a hE=>⟨Kept.refl _ _,_,_,rfl,hE,rfl⟩
  ·intro a w ux6 hE hM hp
   have f0 : ux6 0 = (ptr b1 (0 + 1)):=hp 0 _ rfl rfl
   exact Zy (v:=v0_1) hE Za ld (lk rfl f0) Yv rfl (At.cat (pre:=[[vB p0.Place]]) (hM.rawAt (pre:=[])) (cl1 (n:=1) (m:=0) rfl cl0)) fun a hE=>⟨Kept.refl _ _,_,_,rfl,hE,rfl⟩
  ·intro a w ux6 hE hM hp
   have f1 : ux6 1 = v0_1:=hp 0 _ rfl rfl
   exact ZF hE Za ld (lk rfl f1) Try.underlying22 (hM.rd hv0_1) fun a hE=>⟨Kept.refl _ _,_,_,rfl,hE,rfl⟩
  ·exact fun a w ux6 hE hM hp=>Zy (v:=v1_2) hE Za ld rfl ty25 rfl (hM.atk hA1 hB1) fun a hE=>⟨Kept.refl _ _,_,_,rfl,hE,rfl⟩
  ·intro a w ux6 hE hM hp
   have f3 : ux6 3 = v1_2:=hp 0 _ rfl rfl
   exact Zo hE Za ld (lk rfl f3) rfl Try.underlying25 ZR (hM.rd hv1_2) hi9.1 fun a hE=>⟨Kept.refl _ _,_,_,rfl,hE,rfl⟩
  ·intro a w ux6 hE hM hp
   have f4 : ux6 4 = (ptr (sb v1_2) (so v1_2 + ((0 : Int)).toNat * 2)):=hp 0 _ rfl rfl
   exact Zn hE Za ld (lk rfl f4) (Yr) fun a hE=>⟨Kept.refl _ _,_,_,rfl,hE,rfl⟩
  ·intro a w ux6 hE hM hp
   have f5 : ux6 5 = (ptr (sb v1_2) (so v1_2 + ((0 : Int)).toNat * 2 + 1)):=hp 0 _ rfl rfl
   exact Zy (v:=u13) hE Za ld (lk rfl f5) Yv rfl (At.cat (pre:=[[vB x7.Place]]) (hM.atk hA12 (ZY hv1_2 hi9.2)) (cl1 (n:=1) (m:=0) rfl cl0)) fun a hE=>⟨Kept.refl _ _,_,_,rfl,hE,rfl⟩
  ·intro a w ux6 hE hM hp
   have f6 : ux6 6 = u13:=hp 0 _ rfl rfl
   exact ZF hE Za ld (lk rfl f6) Try.underlying22 (hM.rd h14) fun a hE=>⟨Kept.refl _ _,_,_,rfl,hE,rfl⟩
  ·intro a w ux6 hE hM hp
   have f2 : ux6 2 = (vI (p0.Data.length : Int)):=hp 0 _ rfl rfl
   have f7 : ux6 7 = (vI (x7.Data.length : Int)):=hp 1 _ rfl rfl
   exact Zh hE Za ld (lk rfl f2) (lk rfl f7) rfl fun a hE=>⟨Kept.refl _ _,_,_,rfl,hE,rfl⟩
  ·intro a w ux6 hE hM hp
   have f8 : ux6 8 = (vT ((p0.Data.length : Int) != (x7.Data.length : Int))):=hp 0 _ rfl rfl
   exact Zc hE Za ld (lk rfl f8) fun a hE=>⟨Kept.refl _ _,_,_,rfl,hE,rfl⟩
  ·intro a w ux6 hE hM hg
   have hE:=hE.sub (e':=[(3,(vT ((p0.Data.length : Int) != (x7.Data.length : Int))))]) ⟨lk rfl (hg 9 (by decide)),trivial⟩
   refine Zi ?_
   have ht15:=Option.some.inj hl4
   subst ht15
   refine Zk ?_
   have hM:=M.fst (l:=[]) hM
   exact ⟨hE.sub ⟨rfl,trivial⟩,hM⟩
 ·skip
  rintro a w ⟨hE,hM⟩
  have hr:=Option.some.inj hF5
  subst hr
  exact wp_ret (Zl hE rfl (Zg hE rfl) ⟨_,rfl,rfl,hM.kept⟩)
def XN (p0 : (List GShare)) : Option (Bool) :=
 (Zw p0 (fun z0=>YD z0 p0)).bind fun r3=>some (!r3)
theorem Tq (w0 : World) (p0 : (List GShare)) (v0_1 : Value) (hv0_1 : Ro w0 p0 [v0_1]) (r : Bool) (hF : XN p0 = some r) :
  Calls Try.prog 109 [v0_1].toArray w0 (fun en w'=>∃ v,en = .returned v ∧ (v = (vT r) ∧ Kept (Old w0) w0 w')):=by
 refine Zv (n:=7) Try.func109 rfl rfl (nbl rfl) rfl ?_
 intro a hE
 have hM:=M.start w0
 unfold XN at hF
 refine Zb (VK (cs:=[v0_1]) hE hM Za ld rfl (WN (hM.rd hv0_1)) fun b1 w a hM hE=>Zc hE Za ld rfl fun a hE=>Zf (Zb (Zy (v:=v0_1) hE Za ld rfl ty25 rfl (hM.rawAt (pre:=[])) fun a hE=>Tw hE Za ld rfl ?_))); intro a hE
 obtain ⟨r3,e4,hF⟩:=bind_some hF
 refine Zu hE Za ld rfl cb105 (Z6 _ p0 v0_1 (hM.rdo hv0_1) (fun z0=>YD z0 p0) 148 [(ptr b1 0)] cb148 (fun w2 hk2 z0 zu0_0 zh0_0 zr zhr=>Ut w2 z0 zu0_0 zh0_0 b1 p0 v0_1 (K5 (hM.rdo hv0_1) hk2) (QA (hM.rawAt (pre:=[])) hk2 (by simp [cat])) (UA (hM.rawAt (pre:=[])) hk2 (by simp [cat])) zr zhr) r3 e4) ?_
 rintro v w a ⟨rfl,hK⟩ hE
 have hM:=hM.keep hK
 refine Xt hE Za ld rfl fun a hE=>Zc hE Za ld rfl fun a hE=>Zf ?_
 have hr:=Option.some.inj hF
 subst hr
 have hM:=M.fst (l:=[]) hM
 exact wp_ret (Zl hE rfl (Zg hE rfl) ⟨_,rfl,rfl,hM.kept⟩)
def YO (p0 : Int) (p1 : (List GShare)) (p2 : Int) : Option (Int) :=
 ((XM p0).bind fun r4=>if (!r4) = true then (some true) else ((Zw p1 (fun z0=>Yn z0)).bind fun r8=>if r8 = true then (some true) else ((Ys p1).bind fun r12=>(Yy r12).bind fun r15=>some (!r15))) : Option (Bool)).bind fun j1=>if j1 = true then (some 1) else (((Yj p1).bind fun r22=>(YL r22 1 12).bind fun r24=>if (!r24) = true then (some true) else ((XN p1).bind fun r28=>if (!r28) = true then (some true) else ((YL p2 1 8).bind fun r32=>some (!r32))) : Option (Bool)).bind fun j19=>if j19 = true then (some 2) else (some 0))
theorem VM (w0 : World) (p0 : Int) (p1 : (List GShare)) (v1_1 : Value) (hv1_1 : Ro w0 p1 [v1_1]) (p2 : Int) (r : Int) (hF : YO p0 p1 p2 = some r) :
  Calls Try.prog 60 [vI p0,v1_1,vI p2].toArray w0 (fun en w'=>∃ v,en = .returned v ∧ (v = (vI r) ∧ Kept (Old w0) w0 w')):=by
 refine Zv (n:=36) Try.func60 rfl rfl (nbl rfl) rfl ?_
 intro a hE
 have hM:=M.start w0
 unfold YO at hF
 refine Zb (Zc hE Za ld rfl fun a hE=>Zf (wp_seq (wp_block ?_)))
 obtain ⟨j1,hl2,hF3⟩:=bind_some hF
 refine Ye (fun a w=>Env 36 a [(1,v1_1),(2,vI p2),(7,vT j1)] ∧ M (Old w0) w0 w []) ?_ ?_
 ·skip
  refine wp_region_lit (Zd hE Za ld rfl ?_); intro a hE
  obtain ⟨r4,e5,hl2⟩:=bind_some hl2
  refine Zu hE Za ld rfl cb47 (Tj _ p0 r4 e5) ?_
  rintro v w a ⟨rfl,hK⟩ hE
  have hM:=hM.keep hK
  refine Xt hE Za ld rfl fun a hE=>Zd hE Za ld rfl ?_; intro a hE
  refine X3 (!r4) (fun hb6=>?_) (fun hb6=>?_)
  ·have hl2:=Zr hl2 hb6
   refine Zx hE rfl (lkb rfl hb6) rfl (by decide) fun a hE=>Zx hE rfl (lkb rfl hb6) rfl (by decide) fun a hE=>Yz hE Za ld (lkb rfl hb6) rfl fun a hE=>Zd hE Za ld rfl fun a hE=>Zx hE rfl rfl rfl (by decide) fun a hE=>Zx hE rfl rfl rfl (by decide) fun a hE=>Zx hE rfl rfl rfl (by decide) fun a hE=>Zx hE rfl rfl rfl (by decide) fun a hE=>Yz hE Za ld rfl rfl fun a hE=>Zc hE Za ld rfl fun a hE=>Zi ?_
   have ht7:=Option.some.inj hl2
   subst ht7
   refine Zk ?_
   exact ⟨hE.sub ⟨rfl,rfl,rfl,trivial⟩,hM⟩
  ·have hl2:=Zs hl2 hb6
   refine Zd hE (Zq hE rfl (lkb rfl hb6)) (by decide) rfl ?_; intro a hE
   obtain ⟨r8,e9,hl2⟩:=bind_some hl2
   refine Zu hE (Zq hE rfl (lkb rfl hb6)) (by decide) rfl cb105 (Z6 _ p1 v1_1 (hM.rdo hv1_1) (fun z0=>Yn z0) 106 [] cb106 (fun w2 hk2 z0 zu0_0 zh0_0 zr zhr=>Vm w2 z0 zu0_0 zh0_0 zr zhr) r8 e9) ?_
   rintro v w a ⟨rfl,hK⟩ hE
   have hM:=hM.keep hK
   refine Xc hE Za ld (lkb rfl hb6) rfl fun a hE=>Zd hE Za ld rfl ?_; intro a hE
   refine X3 r8 (fun hb10=>?_) (fun hb10=>?_)
   ·have hl2:=Zr hl2 hb10
    refine Zx hE rfl (lkb rfl hb10) rfl (by decide) fun a hE=>Zx hE rfl (lkb rfl hb10) rfl (by decide) fun a hE=>Zx hE rfl (lkb rfl hb10) rfl (by decide) fun a hE=>Zx hE rfl (lkb rfl hb10) rfl (by decide) fun a hE=>Yz hE Za ld (lkb rfl hb10) rfl fun a hE=>Zc hE Za ld rfl fun a hE=>Zi ?_
    have ht11:=Option.some.inj hl2
    subst ht11
    refine Zk ?_
    exact ⟨hE.sub ⟨rfl,rfl,rfl,trivial⟩,hM⟩
   ·have hl2:=Zs hl2 hb10
    refine Zd hE (Zq hE rfl (lkb rfl hb10)) (by decide) rfl ?_; intro a hE
    obtain ⟨r12,e13,hl2⟩:=bind_some hl2
    refine Zu hE (Zq hE rfl (lkb rfl hb10)) (by decide) rfl cb62 (Vg _ p1 v1_1 (hM.rdo hv1_1) r12 e13) ?_
    rintro u14 w a ⟨_,rfl,hFr,hK⟩ hE
    have hM:=hM.add hK hFr
    obtain ⟨r15,e16,hl2⟩:=bind_some hl2
    refine Zu hE (Zq hE rfl (lkb rfl hb10)) (by decide) rfl cb101 (VH _ r12 u14 (hM.sl (pre:=[]) noB) r15 e16) ?_
    rintro v w a ⟨rfl,hK⟩ hE
    have hM:=hM.keep hK
    refine Xt hE (Zq hE rfl (lkb rfl hb10)) (by decide) rfl fun a hE=>Xc hE Za ld (lkb rfl hb10) rfl fun a hE=>Zc hE Za ld rfl fun a hE=>Zi ?_
    have ht17:=Option.some.inj hl2
    subst ht17
    refine Zk ?_
    have hM:=M.fst (l:=[]) hM
    exact ⟨hE.sub ⟨rfl,rfl,rfl,trivial⟩,hM⟩
 ·skip
  rintro a w ⟨hE,hM⟩
  refine Zm hE rfl ?_ ?_
  ·intro hb18
   have hF3:=Zr hF3 hb18
   refine Zb (Zc hE Za ld rfl fun a hE=>Zf ?_)
   have hr:=Option.some.inj hF3
   subst hr
   exact wp_ret (Z5 (Zj (Zl hE rfl (Zg hE rfl) ⟨_,rfl,rfl,hM.kept⟩)))
  ·intro hb18
   have hF3:=Zs hF3 hb18
   obtain ⟨j19,hl20,hF21⟩:=bind_some hF3
   refine Ye (fun a w=>Env 36 a [(21,vT j19)] ∧ M (Old w0) w0 w []) ?_ ?_
   ·skip
    refine wp_region_lit (Zd hE Za ld rfl ?_); intro a hE
    obtain ⟨r22,e23,hl20⟩:=bind_some hl20
    refine Zu hE Za ld rfl cb108 (W2 _ p1 v1_1 (hM.rdo hv1_1) r22 e23) ?_
    rintro v w a ⟨rfl,hK⟩ hE
    have hM:=hM.keep hK
    obtain ⟨r24,e25,hl20⟩:=bind_some hl20
    refine Zu hE Za ld rfl cb49 (WF _ r22 1 12 r24 e25) ?_
    rintro v w a ⟨rfl,hK⟩ hE
    have hM:=hM.keep hK
    refine Xt hE Za ld rfl fun a hE=>Zd hE Za ld rfl ?_; intro a hE
    refine X3 (!r24) (fun hb26=>?_) (fun hb26=>?_)
    ·have hl20:=Zr hl20 hb26
     refine Zx hE rfl (lkb rfl hb26) rfl (by decide) fun a hE=>Zx hE rfl (lkb rfl hb26) rfl (by decide) fun a hE=>Zx hE rfl (lkb rfl hb26) rfl (by decide) fun a hE=>Yz hE Za ld (lkb rfl hb26) rfl fun a hE=>Zd hE Za ld rfl fun a hE=>Zx hE rfl rfl rfl (by decide) fun a hE=>Zx hE rfl rfl rfl (by decide) fun a hE=>Zx hE rfl rfl rfl (by decide) fun a hE=>Yz hE Za ld rfl rfl fun a hE=>Zc hE Za ld rfl fun a hE=>Zi ?_
     have ht27:=Option.some.inj hl20
     subst ht27
     refine Zk ?_
     exact ⟨hE.sub ⟨rfl,trivial⟩,hM⟩
    ·have hl20:=Zs hl20 hb26
     refine Zd hE (Zq hE rfl (lkb rfl hb26)) (by decide) rfl ?_; intro a hE
     obtain ⟨r28,e29,hl20⟩:=bind_some hl20
     refine Zu hE (Zq hE rfl (lkb rfl hb26)) (by decide) rfl cb109 (Tq _ p1 v1_1 (hM.rdo hv1_1) r28 e29) ?_
     rintro v w a ⟨rfl,hK⟩ hE
     have hM:=hM.keep hK
     refine Xt hE (Zq hE rfl (lkb rfl hb26)) (by decide) rfl fun a hE=>Xc hE Za ld (lkb rfl hb26) rfl fun a hE=>Zd hE Za ld rfl ?_; intro a hE
     refine X3 (!r28) (fun hb30=>?_) (fun hb30=>?_)
     ·have hl20:=Zr hl20 hb30
      refine Zx hE rfl (lkb rfl hb30) rfl (by decide) fun a hE=>Zx hE rfl (lkb rfl hb30) rfl (by decide) fun a hE=>Zx hE rfl (lkb rfl hb30) rfl (by decide) fun a hE=>Yz hE Za ld (lkb rfl hb30) rfl fun a hE=>Zc hE Za ld rfl fun a hE=>Zi ?_
      have ht31:=Option.some.inj hl20
      subst ht31
      refine Zk ?_
      exact ⟨hE.sub ⟨rfl,trivial⟩,hM⟩
     ·have hl20:=Zs hl20 hb30
      refine Zd hE (Zq hE rfl (lkb rfl hb30)) (by decide) rfl ?_; intro a hE
      obtain ⟨r32,e33,hl20⟩:=bind_some hl20
      refine Zu hE (Zq hE rfl (lkb rfl hb30)) (by decide) rfl cb49 (WF _ p2 1 8 r32 e33) ?_
      rintro v w a ⟨rfl,hK⟩ hE
      have hM:=hM.keep hK
      refine Xt hE (Zq hE rfl (lkb rfl hb30)) (by decide) rfl fun a hE=>Xc hE Za ld (lkb rfl hb30) rfl fun a hE=>Zc hE Za ld rfl fun a hE=>Zi ?_
      have ht34:=Option.some.inj hl20
      subst ht34
      refine Zk ?_
      exact ⟨hE.sub ⟨rfl,trivial⟩,hM⟩
   ·skip
    rintro a w ⟨hE,hM⟩
    refine Zm hE rfl ?_ ?_
    ·intro hb35
     have hF21:=Zr hF21 hb35
     refine Zb (Zc hE Za ld rfl fun a hE=>Zf ?_)
     have hr:=Option.some.inj hF21
     subst hr
     exact wp_ret (Z5 (Zj (Zl hE rfl (Zg hE rfl) ⟨_,rfl,rfl,hM.kept⟩)))
    ·intro hb35
     have hF21:=Zs hF21 hb35
     refine wp_skip (Y0 (Zt (Zb (Zc hE Za ld rfl fun a hE=>Zf ?_))))
     have hr:=Option.some.inj hF21
     subst hr
     exact wp_ret (Zl hE rfl (Zg hE rfl) ⟨_,rfl,rfl,hM.kept⟩)
def Yp (p0 : (List (List UInt8))) (p1 : (List UInt8) → Option (Bool)) (s5 : Int) : Option (Fl Int (Fl Unit Int)) :=
 if (decide (s5 < (p0.length : Int))) = true then ((idx p0 s5).bind fun x10=>((p1 x10)).bind fun r18=>if r18 = true then (some (Fl.ex (Fl.ex s5))) else (some (Fl.nx (wr (s5 + 1))))) else (some (Fl.ex (Fl.nx ())))
def ZX (p0 : (List (List UInt8))) (p1 : (List UInt8) → Option (Bool)) : Option (Int) :=
 (ZB (Yp p0 p1) 0).bind fun j1=>j1.el (fun s4=>some (-1)) (fun r=>some r)
theorem Ww (w0 : World) (p0 : (List (List UInt8))) (v0_1 : Value) (hv0_1 : Ro w0 p0 [v0_1]) (p1 : (List UInt8) → Option (Bool)) (k1 : Nat) (q1 : List Value) (hcb1 : Callable Try.prog k1) (hg1 : ∀ (w2 : World),Kept (Old w0) w0 w2 → ∀ (z0 : (List UInt8)) (zu1 : Value) (_ : Ro w2 z0 [zu1]) (zr : Bool),p1 z0 = some zr → Calls Try.prog k1 ([zu1] ++ q1).toArray w2 (fun en w3=>∃ v,en = .returned v ∧ (v = (vT zr) ∧ Kept (Old w2) w2 w3))) (r : Int) (hF : ZX p0 p1 = some r) :
  Calls Try.prog 141 [v0_1,(Value.func (.func k1) #[] q1.toArray)].toArray w0 (fun en w'=>∃ v,en = .returned v ∧ (v = (vI r) ∧ Kept (Old w0) w0 w')):=by
 refine Zv (n:=19) Try.func141 rfl rfl (nbl rfl) rfl ?_
 intro a hE
 have hM:=M.start w0
 unfold ZX at hF
 refine Zb (Zc hE Za ld rfl fun a hE=>Zf (wp_seq (Zb (Zd hE Za ld rfl fun a hE=>ZF hE Za ld rfl Try.underlying23 (hM.rd hv0_1) fun a hE=>Zd hE Za ld rfl fun a hE=>Zf ?_))))
 obtain ⟨j1,hl2,hF3⟩:=bind_some hF
 refine ZS (fun a w=>∃ s4 : Unit,j1 = Fl.nx s4 ∧ Env 19 a [] ∧ M (Old w0) w0 w []) ?_ ?_
 ·skip
  refine wp_block ?_
  refine ZG (fun (s5 : Int) a w=>Env 19 a [(0,v0_1),(1,(Value.func (.func k1) #[] q1.toArray)),(7,(vI (p0.length : Int))),(8,vI s5)] ∧ M (Old w0) w0 w []) hl2 ⟨hE.sub ⟨rfl,rfl,rfl,rfl,trivial⟩,hM⟩ ?_
  rintro s5 a w ⟨hE,hM⟩ o8 hs6 hx7
  unfold Yp at hs6
  refine Zb (Zh hE Za ld rfl rfl rfl fun a hE=>Zf (wp_seq ?_))
  refine Zm hE rfl ?_ ?_
  ·intro hb9
   have hs6:=Zr hs6 hb9
   refine wp_skip (Zt (wp_seq (wp_block (Zb (Zd hE Za ld rfl fun a hE=>Zc hE Za ld rfl fun a hE=>Zf (Zb (Zd hE Za ld rfl fun a hE=>Zd hE Za ld rfl fun a hE=>Zd hE Za ld rfl ?_))))))); intro a hE
   obtain ⟨x10,hi12,hs6⟩:=bix hs6
   refine Zo hE Za ld rfl rfl Try.underlying23 Yv (hM.rd hv0_1) hi12.1 ?_; intro a hE
   obtain ⟨cs13,hs14,hA15⟩:=ZM hv0_1 hi12.2 -- ^
   obtain ⟨u16,rfl⟩:=WG hs14 -- ^
   have h17:=hs14 -- ^
   refine Zy (v:=u16) hE Za ld rfl Yv rfl (hM.atk hA15 (ZY hv0_1 hi12.2)) ?_; intro a hE
   obtain ⟨r18,e19,hs6⟩:=bind_some hs6
   refine Qp (vs:=[u16]) hE Za ld rfl rfl hcb1 (hg1 _ hM.kept x10 u16 (hM.rdo h17) r18 e19) ?_
   rintro v w a ⟨rfl,hK⟩ hE
   have hM:=hM.keep hK
   refine Zf ?_
   refine Zm hE rfl ?_ ?_
   ·intro hb20
    have hs6:=Zr hs6 hb20
    refine Zb (Zd hE Za ld rfl fun a hE=>Zc hE Za ld rfl fun a hE=>Zf ?_)
    have ht21:=hx7 _ (ois hs6)
    subst ht21
    have hr:=Option.some.inj hF3
    subst hr
    exact wp_ret (Z5 (Zj (Zj (Z5 (Zj (Zj (Zl hE rfl (Zg hE rfl) ⟨_,rfl,rfl,hM.kept⟩)))))))
   ·intro hb20
    have hs6:=Zs hs6 hb20
    refine wp_skip (Y0 (Zt (wp_region_lit (Zh hE Za ld rfl rfl rfl fun a hE=>Zd hE Za ld rfl fun a hE=>Zi (Zk ?_)))))
    exact ⟨_,(ois hs6),hE.sub ⟨rfl,rfl,rfl,rfl,trivial⟩,hM⟩
  ·intro hb9
   have hs6:=Zs hs6 hb9
   refine wp_exit (Zp (Zp (Y7 ?_)))
   have ht22:=hx7 _ (ois hs6)
   subst ht22
   refine Zk ?_
   exact ⟨(),rfl,hE.sub trivial,hM⟩
 ·skip
  rintro a w ⟨s4,ht,hE,hM⟩
  subst ht
  have hF3:=Wk hF3
  refine Zt (Zb (Zc hE Za ld rfl fun a hE=>Zf ?_))
  have hr:=Option.some.inj hF3
  subst hr
  exact wp_ret (Zl hE rfl (Zg hE rfl) ⟨_,rfl,rfl,hM.kept⟩)
def ZH (p0 : (List (List UInt8))) (p1 : (List UInt8) → Option (Bool)) : Option (Bool) :=
 (ZX p0 p1).bind fun r1=>some (decide (r1 ≥ 0))
theorem Wj (w0 : World) (p0 : (List (List UInt8))) (v0_1 : Value) (hv0_1 : Ro w0 p0 [v0_1]) (p1 : (List UInt8) → Option (Bool)) (k1 : Nat) (q1 : List Value) (hcb1 : Callable Try.prog k1) (hg1 : ∀ (w2 : World),Kept (Old w0) w0 w2 → ∀ (z0 : (List UInt8)) (zu1 : Value) (_ : Ro w2 z0 [zu1]) (zr : Bool),p1 z0 = some zr → Calls Try.prog k1 ([zu1] ++ q1).toArray w2 (fun en w3=>∃ v,en = .returned v ∧ (v = (vT zr) ∧ Kept (Old w2) w2 w3))) (r : Bool) (hF : ZH p0 p1 = some r) :
  Calls Try.prog 99 [v0_1,(Value.func (.func k1) #[] q1.toArray)].toArray w0 (fun en w'=>∃ v,en = .returned v ∧ (v = (vT r) ∧ Kept (Old w0) w0 w')):=by
 refine Zv (n:=9) Try.func99 rfl rfl (nbl rfl) rfl ?_
 intro a hE
 have hM:=M.start w0
 unfold ZH at hF
 refine Zb (Zc hE Za ld rfl fun a hE=>Zf (Zb (Zd hE Za ld rfl fun a hE=>Zd hE Za ld rfl ?_))); intro a hE
 obtain ⟨r1,e2,hF⟩:=bind_some hF
 refine Zu hE Za ld rfl cb141 (Ww _ p0 v0_1 (hM.rdo hv0_1) p1 k1 q1 hcb1 (fun w2 hk2=>hg1 w2 (hM.kept.trans hk2)) r1 e2) ?_
 rintro v w a ⟨rfl,hK⟩ hE
 have hM:=hM.keep hK
 refine Zh hE Za ld rfl rfl rfl fun a hE=>Zc hE Za ld rfl fun a hE=>Zf ?_
 have hr:=Option.some.inj hF
 subst hr
 exact wp_ret (Zl hE rfl (Zg hE rfl) ⟨_,rfl,rfl,hM.kept⟩)
def Z3 (p0 : (List UInt8)) (p1 : Int) : Option (Bool) :=
 some ((p0.length : Int) != p1)
theorem W4 (w0 : World) (p0 : (List UInt8)) (v0_1 : Value) (hv0_1 : Ro w0 p0 [v0_1]) (pb1 : Nat) (p1 : Int) (hA1 : At w0 pb1 0 ([vI p1])) (hB1 : Old w0 pb1) (r : Bool) (hF : Z3 p0 p1 = some r) :
  Calls Try.prog 100 [v0_1,(ptr pb1 0)].toArray w0 (fun en w'=>∃ v,en = .returned v ∧ (v = (vT r) ∧ Kept (Old w0) w0 w')):=by
 refine Zv (n:=8) Try.func100 rfl rfl (nbl rfl) rfl ?_
 intro a hE
 have hM:=M.start w0
 unfold Z3 at hF
 refine Zb (Zc hE Za ld rfl fun a hE=>Zf (Zb (Zd hE Za ld rfl fun a hE=>ZF hE Za ld rfl Try.underlying22 (hM.rd hv0_1) fun a hE=>Zy (v:=(vI p1)) hE Za ld rfl ty3 rfl (hM.atk hA1 hB1) fun a hE=>Zh hE Za ld rfl rfl rfl fun a hE=>Zc hE Za ld rfl fun a hE=>Zf ?_)))
 have hr:=Option.some.inj hF
 subst hr
 exact wp_ret (Zl hE rfl (Zg hE rfl) ⟨_,rfl,rfl,hM.kept⟩)
def Yf (p0 : (List (List UInt8))) (p1 : Int) : Option (Bool) :=
 (if (decide ((p0.length : Int) ≤ 7)) = true then ((ZH p0 (fun z0=>Z3 z0 p1)).bind fun r7=>some (!r7)) else (some false) : Option (Bool)).bind fun j3=>some j3
theorem Vj (w0 : World) (p0 : (List (List UInt8))) (v0_1 : Value) (hv0_1 : Ro w0 p0 [v0_1]) (p1 : Int) (r : Bool) (hF : Yf p0 p1 = some r) :
  Calls Try.prog 48 [v0_1,vI p1].toArray w0 (fun en w'=>∃ v,en = .returned v ∧ (v = (vT r) ∧ Kept (Old w0) w0 w')):=by
 refine Zv (n:=14) Try.func48 rfl rfl (nbl rfl) rfl ?_
 intro a hE
 have hM:=M.start w0
 unfold Yf at hF
 refine Zb (VK (cs:=[vI p1]) hE hM Za ld rfl rfl fun b1 w a hM hE=>Zc hE Za ld rfl fun a hE=>Zf ?_)
 obtain ⟨j3,hl4,hF5⟩:=bind_some hF
 refine Ye (fun a w=>Env 14 a [(4,vT j3)] ∧ M (Old w0) w0 w []) ?_ ?_
 ·skip
  refine wp_region_lit (Zd hE Za ld rfl fun a hE=>ZF hE Za ld rfl Try.underlying23 (hM.rd hv0_1) fun a hE=>Zh hE Za ld rfl rfl rfl fun a hE=>Zd hE Za ld rfl ?_); intro a hE
  refine X3 (decide ((p0.length : Int) ≤ 7)) (fun hb6=>?_) (fun hb6=>?_)
  ·have hl4:=Zr hl4 hb6
   refine Zd hE (Zq hE rfl (lkb rfl hb6)) (by decide) rfl fun a hE=>Tw hE (Zq hE rfl (lkb rfl hb6)) (by decide) rfl ?_; intro a hE
   obtain ⟨r7,e8,hl4⟩:=bind_some hl4
   refine Zu hE (Zq hE rfl (lkb rfl hb6)) (by decide) rfl cb99 (Wj _ p0 v0_1 (hM.rdo hv0_1) (fun z0=>Z3 z0 p1) 100 [(ptr b1 0)] cb100 (fun w2 hk2 z0 zu0_0 zh0_0 zr zhr=>W4 w2 z0 zu0_0 zh0_0 b1 p1 (QA (hM.rawAt (pre:=[])) hk2 (by simp [cat])) (UA (hM.rawAt (pre:=[])) hk2 (by simp [cat])) zr zhr) r7 e8) ?_
   rintro v w a ⟨rfl,hK⟩ hE
   have hM:=hM.keep hK
   refine Xt hE (Zq hE rfl (lkb rfl hb6)) (by decide) rfl fun a hE=>Yz hE Za ld (lkb rfl hb6) rfl fun a hE=>Zc hE Za ld rfl fun a hE=>Zi ?_
   have ht9:=Option.some.inj hl4
   subst ht9
   refine Zk ?_
   have hM:=M.fst (l:=[]) hM
   exact ⟨hE.sub ⟨rfl,trivial⟩,hM⟩
  ·have hl4:=Zs hl4 hb6
   refine Zx hE rfl (lkb rfl hb6) rfl (by decide) fun a hE=>Zx hE rfl (lkb rfl hb6) rfl (by decide) fun a hE=>Zx hE rfl (lkb rfl hb6) rfl (by decide) fun a hE=>Zx hE rfl (lkb rfl hb6) rfl (by decide) fun a hE=>Xc hE Za ld (lkb rfl hb6) rfl fun a hE=>Zc hE Za ld rfl fun a hE=>Zi ?_
   have ht10:=Option.some.inj hl4
   subst ht10
   refine Zk ?_
   have hM:=M.fst (l:=[]) hM
   exact ⟨hE.sub ⟨rfl,trivial⟩,hM⟩
 ·skip
  rintro a w ⟨hE,hM⟩
  have hr:=Option.some.inj hF5
  subst hr
  exact wp_ret (Zl hE rfl (Zg hE rfl) ⟨_,rfl,rfl,hM.kept⟩)
def ZD (p1 : UInt8) (p2 : UInt8) (s4 : Int × Int) : Option (Fl (Int × Int) Int) :=
 if (decide (s4.2 < 8)) = true then (((Yi s4.2).bind fun _=>(if (((Qc p2 s4.2) &&& 1) == 1) = true then ((Yi s4.2).bind fun _=>some (Ug s4.1 (Vs (bI p1) s4.2))) else (some s4.1) : Option (Int)).bind fun j13=>some j13 : Option (Int)).bind fun j9=>some (Fl.nx (j9,wr (s4.2 + 1)))) else (some (Fl.ex s4.1))
def ZO (p0 : Int) (p1 : UInt8) (p2 : UInt8) : Option (UInt8) :=
 (ZB (ZD p1 p2) (0,0)).bind fun j1=>(Xp j1 p0 8).bind fun r22=>some (Xa r22)
theorem VS (w0 : World) (p0 : Int) (p1 : UInt8) (p2 : UInt8) (r : UInt8) (hF : ZO p0 p1 p2 = some r) :
  Calls Try.prog 144 [vI p0,vB p1,vB p2].toArray w0 (fun en w'=>∃ v,en = .returned v ∧ (v = (vB r) ∧ Kept (Old w0) w0 w')):=by
 refine Zv (n:=28) Try.func144 rfl rfl (nbl rfl) rfl ?_
 intro a hE
 have hM:=M.start w0
 unfold ZO at hF
 refine Zb (Zc hE Za ld rfl fun a hE=>Zf (Zb (Zc hE Za ld rfl fun a hE=>Zf (wp_seq (Zb (Zd hE Za ld rfl fun a hE=>Zf ?_))))))
 obtain ⟨j1,hl2,hF3⟩:=bind_some hF
 refine ZS (fun a w=>Env 28 a [(0,vI p0),(7,vI j1)] ∧ M (Old w0) w0 w []) ?_ ?_
 ·skip
  refine wp_block ?_
  refine ZG (fun (s4 : Int × Int) a w=>Env 28 a [(0,vI p0),(1,vB p1),(2,vB p2),(7,vI s4.1),(9,vI s4.2)] ∧ M (Old w0) w0 w []) hl2 ⟨hE.sub ⟨rfl,rfl,rfl,rfl,rfl,trivial⟩,hM⟩ ?_
  rintro s4 a w ⟨hE,hM⟩ o7 hs5 hx6
  unfold ZD at hs5
  refine Zb (Zh hE Za ld rfl rfl rfl fun a hE=>Zf (wp_seq ?_))
  refine Zm hE rfl ?_ ?_
  ·intro hb8
   have hs5:=Zr hs5 hb8
   refine wp_skip (Zt ?_)
   obtain ⟨j9,hl10,hF11⟩:=bind_some hs5
   refine Ye (fun a w=>Env 28 a [(0,vI p0),(1,vB p1),(2,vB p2),(7,vI j9),(9,vI s4.2)] ∧ M (Old w0) w0 w []) ?_ ?_
   ·skip
    refine wp_block (Zb (Zd hE Za ld rfl fun a hE=>Zc hE Za ld rfl fun a hE=>Zf (Zb (Zd hE Za ld rfl fun a hE=>Zd hE Za ld rfl ?_)))); intro a hE
    obtain ⟨_,e12,hl10⟩:=bind_some hl10
    have e12:=XL e12
    refine QU hE Za ld rfl rfl (bB_shr _ _ e12) fun a hE=>Zh hE Za ld rfl rfl (bB_and (Qc p2 s4.2) 1) fun a hE=>Zh hE Za ld rfl rfl (KY ((Qc p2 s4.2) &&& 1) 1) fun a hE=>Zf ?_
    obtain ⟨j13,hl14,hF15⟩:=bind_some hl10
    refine ZS (fun a w=>Env 28 a [(0,vI p0),(1,vB p1),(2,vB p2),(7,vI j13),(9,vI s4.2)] ∧ M (Old w0) w0 w []) ?_ ?_
    ·skip
     refine Zm hE rfl ?_ ?_
     ·intro hb16
      have hl14:=Zr hl14 hb16
      refine wp_region_lit (Zd hE Za ld rfl fun a hE=>Zd hE Za ld rfl fun a hE=>WX hE Za ld rfl Try.underlying5 Try.underlying2 ?_); intro a hE
      rw [Up] at hE
      refine Zd hE Za ld rfl ?_; intro a hE
      obtain ⟨_,e17,hl14⟩:=bind_some hl14
      have e17:=XL e17
      refine QU hE Za ld rfl rfl (UX _ _ e17) fun a hE=>Zh hE Za ld rfl rfl rfl fun a hE=>Zc hE Za ld rfl fun a hE=>Zi ?_
      have ht18:=Option.some.inj hl14
      subst ht18
      refine Zk ?_
      exact ⟨hE.sub ⟨rfl,rfl,rfl,rfl,rfl,trivial⟩,hM⟩
     ·intro hb16
      have hl14:=Zs hl14 hb16
      refine wp_skip ?_
      have ht19:=Option.some.inj hl14
      subst ht19
      refine Zk ?_
      exact ⟨hE.sub ⟨rfl,rfl,rfl,rfl,rfl,trivial⟩,hM⟩
    ·skip
     rintro a w ⟨hE,hM⟩
     refine Y0 ?_
     have ht20:=Option.some.inj hF15
     subst ht20
     refine Zk ?_
     exact ⟨hE.sub ⟨rfl,rfl,rfl,rfl,rfl,trivial⟩,hM⟩
   ·skip
    rintro a w ⟨hE,hM⟩
    refine wp_region_lit (Zh hE Za ld rfl rfl rfl fun a hE=>Zd hE Za ld rfl fun a hE=>Zi (Zk ?_))
    exact ⟨_,(ois hF11),hE.sub ⟨rfl,rfl,rfl,rfl,rfl,trivial⟩,hM⟩
  ·intro hb8
   have hs5:=Zs hs5 hb8
   refine wp_exit (Zp (Zp (Y7 ?_)))
   have ht21:=hx6 _ (ois hs5)
   subst ht21
   refine Zk ?_
   exact ⟨hE.sub ⟨rfl,rfl,trivial⟩,hM⟩
 ·skip
  rintro a w ⟨hE,hM⟩
  refine Zt (Zb (Zd hE Za ld rfl fun a hE=>Zd hE Za ld rfl ?_)); intro a hE
  obtain ⟨r22,e23,hF3⟩:=bind_some hF3
  refine Zu hE Za ld rfl cb98 (UD _ j1 p0 8 r22 e23) ?_
  rintro v w a ⟨rfl,hK⟩ hE
  have hM:=hM.keep hK
  refine WX hE Za ld rfl Try.underlying2 Try.underlying5 ?_; intro a hE
  rw [Wn] at hE
  refine Zc hE Za ld rfl fun a hE=>Zf ?_
  have hr:=Option.some.inj hF3
  subst hr
  exact wp_ret (Zl hE rfl (Zg hE rfl) ⟨_,rfl,rfl,hM.kept⟩)
-- value
/-! ### A range over slices.Backward: the polynomial's value -/
theorem VR (p1 p2 : UInt8) : ∀ (k i : Nat) (acc : Int),i + k = 8 → ∃ t,ZB (ZD p1 p2) (acc,(i : Int)) = some t
 | 0,i,acc,h=>by
  have : i = 8:=by omega
  subst this
  exact ⟨acc,Y3 (by unfold ZD; rfl)⟩
 | k + 1,i,acc,h=>by
  have h1 : decide ((i : Int) < 8) = true:=by simp only [decide_eq_true_eq]; omega
  have h2 : Yi (i : Int) = some ():=by unfold Yi; rw [if_pos (by omega)]
  have h3 : wr ((i : Int) + 1) = ((i + 1 : Nat) : Int):=by rw [WL (by omega)]; rfl
  cases hc : (((Qc p2 (i : Int)) &&& 1) == 1) with
  | true =>
   obtain ⟨t,ht⟩:=VR p1 p2 k (i + 1) (Ug acc (Vs (bI p1) (i : Int))) (by omega)
   refine ⟨t,?_⟩
   rw [Xs (s':=(Ug acc (Vs (bI p1) (i : Int)),((i + 1 : Nat) : Int)))]
   ·exact ht
   ·unfold ZD
    simp only [h1,if_true,h2,Option.bind_some,hc,h3]
  | false =>
   obtain ⟨t,ht⟩:=VR p1 p2 k (i + 1) acc (by omega)
   refine ⟨t,?_⟩
   rw [Xs (s':=(acc,((i + 1 : Nat) : Int)))]
   ·exact ht
   ·unfold ZD
    simp only [h1,if_true,h2,Option.bind_some,hc,Bool.false_eq_true,if_false,h3]
theorem Uj (m : Int) : ∀ (k : Nat) (acc : Int),k ≤ 8 → ∃ t,ZB (Z7 m 8) (acc,(k : Int) + 7) = some t
 | 0,acc,_=>⟨acc,Y3 (by unfold Z7; rfl)⟩
 | k + 1,acc,h=>by
  have h1 : decide (((k + 1 : Nat) : Int) + 7 ≥ 8) = true:=by simp only [decide_eq_true_eq]; omega
  have h2 : Yi (((k + 1 : Nat) : Int) + 7) = some ():=by unfold Yi; rw [if_pos (by omega)]
  have h4 : wr ((((k + 1 : Nat) : Int) + 7) - 8) = (k : Int):=by rw [WL (by omega)]; omega
  have h5 : Yi (k : Int) = some ():=by unfold Yi; rw [if_pos (by omega)]
  have h3 : wr ((((k + 1 : Nat) : Int) + 7) - 1) = (k : Int) + 7:=by rw [WL (by omega)]; omega
  cases hc : ((andI (QX acc (((k + 1 : Nat) : Int) + 7)) 1) == 1) with
  | true =>
   obtain ⟨t,ht⟩:=Uj m k (Ug acc (Vs m (k : Int))) (by omega)
   refine ⟨t,?_⟩
   rw [Xs (s':=(Ug acc (Vs m (k : Int)),(k : Int) + 7))]
   ·exact ht
   ·unfold Z7
    simp only [h1,if_true,h2,Option.bind_some,hc,h3,h4,h5]
  | false =>
   obtain ⟨t,ht⟩:=Uj m k acc (by omega)
   refine ⟨t,?_⟩
   rw [Xs (s':=(acc,(k : Int) + 7))]
   ·exact ht
   ·unfold Z7
    simp only [h1,if_true,h2,Option.bind_some,hc,Bool.false_eq_true,if_false,h3]
theorem KB (m : Int) (x y : UInt8) : ∃ r,ZO m x y = some r:=by
 obtain ⟨t,ht⟩:=VR x y 8 0 0 rfl
 obtain ⟨u,hu⟩:=Uj m 8 t (Nat.le_refl _)
 have ht' : ZB (ZD x y) (0,0) = some t:=ht
 have hu' : ZB (Z7 m 8) (t,15) = some u:=hu
 exact ⟨Xa u,by unfold ZO Xp; simp only [ht',hu',Option.bind_some]⟩
def U4 (m : Int) (x y : UInt8) : UInt8:=(ZO m x y).getD 0
theorem Uz (m : Int) (x y : UInt8) : ZO m x y = some (U4 m x y):=by
 obtain ⟨r,hr⟩:=KB m x y
 unfold U4; rw [hr]; rfl
def TV (m : Int) (x : UInt8) (out a : UInt8) : UInt8:=U4 m out x ^^^ a
def YI (p0 : Int) (p1 : List UInt8) (p2 : UInt8) : Option UInt8:=if p1.length ≤ 140737488351232 then some (p1.reverse.foldl (TV p0 p2) 0) else none
section
open Go.RowKit Go.Shelf
attribute [local go_sem] Oper.semAt_some
/-- The iterator: for every loop body that keeps what lay below n₀. -/
theorem KT (F : Fence) (n : Nat) (h7 : F.fn 155) (hro : F.round = none) (hn : 1 ≤ n) (l Bs n₀ b off cap : Nat) (zs : List UInt8) (hreach : zs.length ≤ 140737488351232) (hb : b < n₀) (J Jx : List (Int × UInt8) → World → Prop)
  (hY : ∀ pre x W,J pre W → pre.length < zs.length → YieldAt F (n - 1) Try.prog l #[.int .i64 x.1,.int .u8 x.2.toNat] W fun e W' =>
   (e = .returned (.bool true) ∧ J (pre ++ [x]) W' ∧ KpB n₀ Bs W W') ∨ (e = .returned (.bool false) ∧ Jx (pre ++ [x]) W'))
  (W : World) (hBs : W.cell? ⟨Bs,0,none⟩ = some (.slice (some ⟨b,off,none⟩) zs.length cap))
  (hc : ∀ j,j < zs.length → W.cell? ⟨b,off + j,none⟩ = some (.int .u8 (zs[j]?.getD 0).toNat)) (h0 : J [] W) :
  CallsIn F n Try.prog 155 #[.func (.yield l) #[] #[],.pointer (some ⟨Bs,0,none⟩)] W fun e W'=>(∃ v,e = .returned v) ∧
   ((∃ ys,ys = UN (Th zs) zs.length ∧ J ys W') ∨ (∃ pre,Jx pre W')):=by
 refine callsIn_of_wp Try.func155 rfl h7 ?_ hro
 simp only [Try.ntmps155,List.size_toArray,List.length_cons,List.length_nil,Nat.reduceAdd,Nat.reduceSub,Array.replicate_succ,Array.replicate_zero,List.push_toArray,List.append_toArray,List.nil_append,List.cons_append]
 gi_wp2
 gi_loopw [3] (fun i wr=>∃ k : Nat,k ≤ zs.length ∧ i = .int .i64 ((zs.length : Int) - 1 - k) ∧ J (UN (Th zs) k) wr ∧ KpB n₀ Bs W wr)
  (fun i _=>(intOf i + 1).toNat)
 case atStart=>exact ⟨0,Nat.zero_le _,by simp,h0,Below.refl _ _,rfl⟩
 case round =>
  obtain ⟨k,hk,rfl,hJs,hnx⟩:=hrel
  have hcx : k < zs.length → wr.cell? ⟨b,off + (zs.length - 1 - k),none⟩ = some (.int .u8 ((zs[zs.length - 1 - k]?.getD 0)).toNat):=fun h=>(hnx.1.cell (p:=⟨b,off + (zs.length - 1 - k),none⟩) hb).trans (hc _ (by omega))
  have hBs' : wr.cell? ⟨Bs,0,none⟩ = some (.slice (some ⟨b,off,none⟩) zs.length cap):=(World.cell?_of_block (w:=W) (a:=⟨Bs,0,none⟩) hnx.2).trans hBs
  by_cases hlt : k < zs.length
  ·obtain ⟨fn,tmps,assign,body,hy,hR⟩:=hY _ (Th zs k) wr hJs (by rw [Qw]; exact hlt)
   have e1 : (zs.length : Int) - 1 - k = ((zs.length - 1 - k : Nat) : Int):=by omega
   have hcx':=hcx hlt
   simp only [Th] at hy
   rw [e1] at hy ⊢
   obtain ⟨j,hj⟩ : ∃ j,zs.length - 1 - k = j:=⟨_,rfl⟩
   have hjl : j < zs.length:=by omega
   rw [hj] at hy hcx' ⊢
   obtain ⟨x,hx⟩ : ∃ x,zs[j]?.getD 0 = x:=⟨_,rfl⟩
   rw [hx] at hy hcx'
   gi_wp2
   refine hR.mono ?_
   rintro e W3 (⟨rfl,hJ3,hk3⟩ | ⟨rfl,hJx3⟩)
   ·gi_wp2
    go_roundw
    case rel=>exact ⟨k + 1,by omega,by simp; omega,by rw [Kr]; exact hJ3,hnx.trans hk3⟩
    case measure=>simp [intOf]
   ·gi_wp2
    refine bodyPost_ret (results_none rfl _ _ _) rfl ?_
    exact ⟨⟨_,rfl⟩,.inr ⟨_,hJx3⟩⟩
  ·obtain rfl : k = zs.length:=by omega
   have e1 : (zs.length : Int) - 1 - (zs.length : Int) = -1:=by omega
   rw [e1]
   gi_wp2
   go_end0
   exact ⟨⟨_,rfl⟩,.inl ⟨_,rfl,hJs⟩⟩
/-- .. at the nil slice,or one without elements: no round. -/
theorem K3 (F : Fence) (n : Nat) (h7 : F.fn 155) (hro : F.round = none) (l Bs : Nat) (p : Option Addr) (cap : Nat) (J : List (Int × UInt8) → World → Prop) (W : World) (hBs : W.cell? ⟨Bs,0,none⟩ = some (.slice p 0 cap)) (h0 : J [] W) :
  CallsIn F n Try.prog 155 #[.func (.yield l) #[] #[],.pointer (some ⟨Bs,0,none⟩)] W fun e W'=>(∃ v,e = .returned v) ∧ J [] W':=by
 refine callsIn_of_wp Try.func155 rfl h7 ?_ hro
 simp only [Try.ntmps155,List.size_toArray,List.length_cons,List.length_nil,Nat.reduceAdd,Nat.reduceSub,Array.replicate_succ,Array.replicate_zero,List.push_toArray,List.append_toArray,List.nil_append,List.cons_append]
 gi_wp2
 gi_loopw [3] (fun i wr=>i = .int .i64 (-1) ∧ J [] wr) (fun _ _=>0)
 case atStart=>exact ⟨rfl,h0⟩
 case round =>
  obtain ⟨rfl,hJs⟩:=hrel
  gi_wp2
  go_end0
  exact ⟨⟨_,rfl⟩,hJs⟩
theorem Jl (F : Fence) (n : Nat) (h5 : F.fn 143) (hro : F.round = none) (a : Option Addr) (len cap : Nat) (w : World) :
  CallsIn F n Try.prog 143 #[.slice a len cap] w fun e w'=>e = .returned (.func (.func 155) #[] #[.pointer (some ⟨w.heap.size,0,none⟩)]) ∧ w' = w.alloc (.cells #[.slice a len cap] 22):=by
 refine callsIn_of_wp Try.func143 rfl h5 ?_ hro
 simp only [Try.ntmps143,List.size_toArray,List.length_cons,List.length_nil,Nat.reduceAdd,Nat.reduceSub,Array.replicate_succ,Array.replicate_zero,List.push_toArray,List.append_toArray,List.nil_append,List.cons_append]
 gi_wp2
 go_ret
 exact ⟨rfl,rfl⟩
theorem QL (F : Fence) (n : Nat) (h7 : F.fn 155) (hro : F.round = none) (hn : 1 ≤ n) (Bs n₀ : Nat) (p : Option Addr) (cap : Nat) (zs : List UInt8) (hreach : zs.length ≤ 140737488351232) (w : World) (hBs : Bs < w.heap.size) (hn₀ : n₀ ≤ w.heap.size)
  (hc : w.cell? ⟨Bs,0,none⟩ = some (.slice p zs.length cap)) (hI : Byts n₀ w p zs) :
  SeqStopsK F n Try.prog 155 #[.pointer (some ⟨Bs,0,none⟩)] (fun x : Int × UInt8=>#[Value.int .i64 x.1,Value.int .u8 x.2.toNat]) (KpB n₀ Bs) (fun ys=>ys = UN (Th zs) zs.length)
   (fun _=>True) zs.length w:=fun l J Jx W hW _ _ hY h0=>by
 have hc':=(hW.cell (p:=⟨Bs,0,none⟩) hBs).trans hc
 rcases hI.below (hW.mono hn₀) with rfl | ⟨b,off,rfl,hb,hcs⟩
 ·exact (K3 F n h7 hro l Bs p cap J W hc' h0).mono fun e W' ⟨he,hj⟩=>⟨he,.inl ⟨_,rfl,hj⟩⟩
 ·refine (KT F n h7 hro hn l Bs n₀ b off cap zs hreach hb J Jx hY W hc' hcs h0).mono ?_
  rintro e W' ⟨he,⟨ys,rfl,hj⟩ | ⟨pre,hj⟩⟩
  ·exact ⟨he,.inl ⟨_,rfl,hj⟩⟩
  ·exact ⟨he,.inr ⟨_,trivial,hj⟩⟩
theorem KG (p0 : Int) (zs : List UInt8) (p2 : UInt8) (hreach : zs.length ≤ 140737488351232) (p : Option Addr) (cap : Nat) (w : World) (hI : Byts w.heap.size w p zs) :
  CallsIn Fence.wide 5 Try.prog 103 #[vI p0,.slice p zs.length cap,vB p2] w fun e W'=>e = .returned (vB (zs.reverse.foldl (TV p0 p2) 0)) ∧ Below w.heap.size w W':=by
 have h3 : Fence.wide.fn 103:=trivial
 have h5 : Fence.wide.fn 143:=trivial
 have h7 : Fence.wide.fn 155:=trivial
 refine callsIn_of_wp_marks Try.func103 rfl h3 ?_ rfl
 simp only [Try.ntmps103,List.size_toArray,List.length_cons,List.length_nil,Nat.reduceAdd,Nat.reduceSub,Array.replicate_succ,Array.replicate_zero,List.push_toArray,List.append_toArray,List.nil_append,List.cons_append]
 gi_wp2_with (gi_at_call 143; refine (Jl Fence.wide 4 h5 rfl _ _ _ _).mono ?_; rintro e w' ⟨rfl,rfl⟩)
 have bM:=Boxed.new w 82 (vI p0)
 have bX:=Boxed.new (w.alloc (.cells #[vI p0] 82)) 5 (vB p2)
 have bS:=Boxed.new ((w.alloc (.cells #[vI p0] 82)).alloc (.cells #[vB p2] 5)) 5 (.int .u8 0)
 have bN:=Boxed.new (((w.alloc (.cells #[vI p0] 82)).alloc (.cells #[vB p2] 5)).alloc (.cells #[.int .u8 0] 5)) 22 (.slice p zs.length cap)
 simp only [World.size_alloc] at bX bS bN
 have bM0:=((bM.alloc (.cells #[vB p2] 5)).alloc (.cells #[.int .u8 0] 5)).alloc (.cells #[.slice p zs.length cap] 22)
 have bX0:=(bX.alloc (.cells #[.int .u8 0] 5)).alloc (.cells #[.slice p zs.length cap] 22)
 have bS0:=bS.alloc (.cells #[.slice p zs.length cap] 22)
 have hB0 : Below w.heap.size w ((((w.alloc (.cells #[vI p0] 82)).alloc (.cells #[vB p2] 5)).alloc (.cells #[.int .u8 0] 5)).alloc (.cells #[.slice p zs.length cap] 22)):=((((Below.refl _ w).alloc (Nat.le_refl _) _).alloc (by simp) _).alloc (by simp; omega) _).alloc (by simp; omega) _
 have hsz : ((((w.alloc (.cells #[vI p0] 82)).alloc (.cells #[vB p2] 5)).alloc (.cells #[.int .u8 0] 5)).alloc (.cells #[.slice p zs.length cap] 22)).heap.size = w.heap.size + 4:=by simp
 obtain ⟨W0,hW0⟩ : ∃ W0,((((w.alloc (.cells #[vI p0] 82)).alloc (.cells #[vB p2] 5)).alloc (.cells #[.int .u8 0] 5)).alloc (.cells #[.slice p zs.length cap] 22)) = W0:=⟨_,rfl⟩
 rw [hW0] at bM0 bX0 bS0 bN hB0 hsz ⊢
 clear bM bX bS hW0
 refine wpIn_rangeFunc_ownG (F:=Fence.wide) (n:=5) rfl (by omega) (gf:=155) (lb:=#[.pointer (some ⟨w.heap.size + 1 + 1 + 1,0,none⟩)]) rfl h7 (enters_of Try.func155 (by kernel_rfl) rfl)
  (QL Fence.wide 4 h7 rfl (by omega) (w.heap.size + 1 + 1 + 1) w.heap.size p cap zs hreach W0 (by omega) (by omega) bN.cell (hI.below hB0)) (fun h k=>h.trans k)
  (fun W l o o' hl h ho hw=>⟨belowK_b (w:=W0) (by omega) W l o o' hl h ho hw,World.putObj_heap_other (by omega)⟩) (Below.refl _ _) (fun _=>rfl)
  (fun pre W=>(W.cell? ⟨w.heap.size,0,none⟩ = some (vI p0) ∧ W.cell? ⟨w.heap.size + 1,0,none⟩ = some (vB p2) ∧ Boxed W (w.heap.size + 1 + 1) 5 (vB ((pre.map (·.2)).foldl (TV p0 p2) 0)) ∧ w.heap.size + 4 ≤ W.heap.size) ∧ Below w.heap.size w W)
  (fun _ _ _=>False)
  (OwnFrom.and (Own.from (fun s A B row hs hg hr=>⟨cell_kept hs.1 hg hr,cell_kept hs.2.1 hg hr,hs.2.2.1.kept hg (fun e=>by obtain ⟨o,ho,hc⟩:=hr _ e.symm; rw [show A.heap[w.heap.size + 1 + 1]? = _ from hs.2.2.1] at ho; cases ho; cases hc),Nat.le_trans hs.2.2.2 hg.size⟩) _) (ownFrom_below (Nat.le_refl _) (by omega)))
  (fun _ _ _ _ _ hs _ _=>hs)
  ⟨⟨bM0.cell,bX0.cell,bS0,by omega⟩,hB0⟩
  (fun x=>{ tmps:=#[vI p0,.slice p zs.length cap,vB p2,.pointer (some ⟨w.heap.size,0,none⟩),undef,.pointer (some ⟨w.heap.size + 1,0,none⟩),.int .u8 0,.pointer (some ⟨w.heap.size + 1 + 1,0,none⟩),undef,vB x.2,.slice p zs.length cap,.func (.func 155) #[] #[.pointer (some ⟨w.heap.size + 1 + 1 + 1,0,none⟩)],.int .i64 x.1,vB x.2,undef,undef,undef,undef,undef,undef,undef],defers:=[] }) ?assign ?body ?done ?stop
 case assign =>
  intro l x W K hK
  gi_wp2
  exact hK
 case body =>
  rintro l pre x W ⟨⟨hm,hx,ho,hw4⟩,hB⟩ _
  have hout:=ho.cell
  generalize hacc : (pre.map (·.2)).foldl (TV p0 p2) 0 = acc at ho hout
  have hcall:=CallsIn.inRound l (n:=2) (callsIn_wide.2 (VS W p0 acc p2 _ (Uz p0 acc p2)))
  gi_wp2_with (refine ⟨trivial,?_⟩; gi_at_call 144; refine hcall.mono ?_; rintro e W1 ⟨v,rfl,rfl,hk⟩; have ho1 : Boxed W1 (w.heap.size + 1 + 1) 5 (vB acc):=(hk.block _ ho.lt).trans ho; have hc1:=ho1.cell; have hf1:=ho1.frozen)
  have hxr : ∀ a b : UInt8,Value.int .u8 (bits .xor .u8 a.toNat b.toNat) = vB (a ^^^ b):=fun a b=>Option.some.inj (Qa a b)
  have hB1:=KeptB hk hB.size
  have hlt:=ho.lt
  have hle : w.heap.size ≤ w.heap.size + 1 + 1:=by omega
  refine ⟨(KeptF hk _).trans ((KeepsOthers.setCell _ _ _).from _),⟨hB1.setCell (p:=⟨w.heap.size + 1 + 1,0,none⟩) hle _,?_⟩,⟨?_,?_,?_,?_⟩,(hB.trans hB1).setCell (p:=⟨w.heap.size + 1 + 1,0,none⟩) hle _⟩
  ·refine (Below.heap_setCell _ _ _ _ (by show _ ≠ w.heap.size + 1 + 1; omega)).trans ?_
   exact hk.block _ (show w.heap.size + 1 + 1 + 1 < W.heap.size by omega)
  ·rw [World.cell?_setCell_other _ _ _ _ (by simp)]
   exact (cell?_of_heap (hk.block _ (show w.heap.size < W.heap.size by omega)) 0).trans hm
  ·rw [World.cell?_setCell_other _ _ _ _ (by simp)]
   exact (cell?_of_heap (hk.block _ (show w.heap.size + 1 < W.heap.size by omega)) 0).trans hx
  ·rw [List.map_append,List.foldl_append,hacc]
   have:=ho1.set (.int .u8 (bits .xor .u8 (U4 p0 acc p2).toNat x.2.toNat))
   rw [hxr] at this ⊢
   exact this
  ·have:=hk.size
   simp only [World.setCell,Array.size_modify]
   omega
 case done =>
  rintro D ys W hD rfl ⟨⟨hm,hx,ho,hw4⟩,hB⟩ hK
  rw [Kq] at ho
  generalize hacc : zs.reverse.foldl (TV p0 p2) 0 = acc at ho
  have hout:=ho.cell
  gi_wp2
  refine ⟨by simp,.inl ⟨_,_,rfl,run_takeDeferred hK,?_⟩⟩
  exact ⟨_,results_tmp rfl _ _ _,by rw [hacc]; rfl,hB.trans (belowK_b (w:=w) (Nat.le_refl _) W D _ _ (by omega) hK rfl rfl)⟩
 case stop =>
  rintro D c pre W _ _ h _
  exact h.elim
end
theorem VX (w0 : World) (p0 : Int) (p1 : (List UInt8)) (v1_1 : Value) (hv1_1 : Ro w0 p1 [v1_1]) (p2 : UInt8) (r : UInt8) (hF : YI p0 p1 p2 = some r) :
  Calls Try.prog 103 [vI p0,v1_1,vB p2].toArray w0 (fun en w'=>∃ v,en = .returned v ∧ (v = (vB r) ∧ Kept (Old w0) w0 w')):=by
 unfold YI at hF
 split at hF
 ·rename_i hl
  obtain rfl:=Option.some.inj hF
  obtain ⟨p,cap,rfl,hI⟩:=Je hv1_1
  refine Calls.mono (callsIn_wide.1 (KG p0 p1 p2 hl p cap w0 hI)) ?_
  rintro e W' ⟨rfl,hB⟩
  exact ⟨_,rfl,rfl,hB.os,hB.tape,hB.output,hB.size,hB.block⟩
 ·cases hF
def Z8 (p2 : (List (List UInt8))) (s25 : (List UInt8) × Int) (s43 : (List UInt8) × Int) : Option (Fl ((List UInt8) × Int) (List UInt8)) :=
 if (decide (s43.2 < (p2.length : Int))) = true then ((idx p2 s43.2).bind fun x50=>(idx x50 s25.2).bind fun x58=>(app 1 s43.1 ([x58] : List UInt8)).bind fun l63=>some (Fl.nx ((s43.1 ++ ([x58] : List UInt8)),wr (s43.2 + 1)))) else (some (Fl.ex s43.1))
def Z9 (p0 : Int) (p1 : (List UInt8)) (p2 : (List (List UInt8))) (x15 : UInt8) (s25 : (List UInt8) × Int) : Option (Fl ((List UInt8) × Int) (List UInt8)) :=
 if (decide (s25.2 < (p1.length : Int))) = true then ((idx p1 s25.2).bind fun x33=>(ZB (Z8 p2 s25) (([x33] : List UInt8),0)).bind fun j38=>(YI p0 j38 x15).bind fun r70=>(app 1 s25.1 ([r70] : List UInt8)).bind fun l74=>some (Fl.nx ((s25.1 ++ ([r70] : List UInt8)),wr (s25.2 + 1)))) else (some (Fl.ex s25.1))
def Ya (p0 : Int) (p1 : (List UInt8)) (p2 : (List (List UInt8))) (p3 : (List UInt8)) (s8 : Int × (List GShare)) : Option (Fl (Int × (List GShare)) (List GShare)) :=
 if (decide (s8.1 < (p3.length : Int))) = true then ((idx p3 s8.1).bind fun x15=>(ZB (Z9 p0 p1 p2 x15) ([],0)).bind fun j20=>(app 32 s8.2 ([(⟨x15,j20⟩ : GShare)] : List GShare)).bind fun l82=>some (Fl.nx (wr (s8.1 + 1),(s8.2 ++ ([(⟨x15,j20⟩ : GShare)] : List GShare))))) else (some (Fl.ex s8.2))
def YJ (p0 : Int) (p1 : (List UInt8)) (p2 : (List (List UInt8))) (p3 : (List UInt8)) : Option ((List GShare)) :=
 (ZB (Ya p0 p1 p2 p3) (0,([] : List GShare))).bind fun j3=>some j3
theorem VQ (w0 : World) (p0 : Int) (p1 : (List UInt8)) (v1_1 : Value) (hv1_1 : Ro w0 p1 [v1_1]) (p2 : (List (List UInt8))) (v2_1 : Value) (hv2_1 : Ro w0 p2 [v2_1]) (p3 : (List UInt8)) (v3_1 : Value) (hv3_1 : Ro w0 p3 [v3_1]) (r : (List GShare)) (hF : YJ p0 p1 p2 p3 = some r) :
  Calls Try.prog 52 [vI p0,v1_1,v2_1,v3_1].toArray w0 (fun en w'=>∃ v,en = .returned v ∧ (∃ (y1 : Value),v = y1 ∧ Fr w0 w' [osl NoB (r : List GShare) y1] ∧ Kept (Old w0) w0 w')):=by
 refine Zv (n:=66) Try.func52 rfl rfl (nbl rfl) rfl ?_
 intro a hE
 have hM:=M.start w0
 unfold YJ at hF
 refine Zb (Zc hE Za ld rfl fun a hE=>Zf (Zb (VF (xs:=[]) (S:=NoB) (l:=([] : List GShare)) (vs:=[]) hE hM.emp noB Za ld rfl rfl rfl Try.underlying25 ZR rfl (by decide) (fun _ h=>⟨rfl,h⟩) (fun _ h=>by cases h) fun u1 w a hM hE=>Zc hE Za ld rfl fun a hE=>Zf (wp_seq (Zb (Zd hE Za ld rfl fun a hE=>ZF hE Za ld rfl Try.underlying22 (hM.rd hv3_1) fun a hE=>Zd hE Za ld rfl fun a hE=>Zf ?_))))))
 obtain ⟨j3,hl4,hF5⟩:=bind_some hF
 refine ZS (fun a w=>∃ (u6 : Value),Env 66 a [(9,u6)] ∧ M (Old w0) w0 w [osl NoB (j3 : List GShare) u6]) ?_ ?_
 ·skip
  refine wp_block ?_
  refine ZG (fun (s8 : Int × (List GShare)) a w=>∃ (u9 : Value),Env 66 a [(0,vI p0),(1,v1_1),(2,v2_1),(9,u9),(19,v3_1),(20,(vI (p3.length : Int))),(21,vI s8.1)] ∧ M (Old w0) w0 w [osl NoB (s8.2 : List GShare) u9]) hl4 ⟨u1,hE.sub ⟨rfl,rfl,rfl,rfl,rfl,rfl,rfl,trivial⟩,hM⟩ ?_
  rintro s8 a w ⟨u9,hE,hM⟩ o13 hs11 hx12
  unfold Ya at hs11
  refine Zb (Zh hE Za ld rfl rfl rfl fun a hE=>Zf (wp_seq ?_))
  refine Zm hE rfl ?_ ?_
  ·intro hb14
   have hs11:=Zr hs11 hb14
   refine wp_skip (Zt (wp_seq (wp_block (Zb ?_))))
   obtain ⟨x15,hi17,hs11⟩:=bix hs11
   refine Zo hE Za ld rfl rfl Try.underlying22 ty5 (hM.rd hv3_1) hi17.1 fun a hE=>Zy (v:=(vB x15)) hE Za ld rfl ty5 rfl (Xr (hM.rd hv3_1) hi17.2) fun a hE=>Zc hE Za ld rfl fun a hE=>Zf (Zb (Zd hE Za ld rfl fun a hE=>Vc (parts:=[(0,.tmp 25)]) (vs:=[(0,vB x15)]) (cs:=cat [[vB x15],[(Value.slice none 0 0)]]) hE Za ld rfl rfl ZR pl86 (W6 (pre:=[]) (seg:=[vB 0]) (seg':=[vB x15]) (post:=[[(Value.slice none 0 0)]]) rfl cl0 rfl rfl rfl V7) fun a hE=>Vb hE hM Za ld ZR fun b18 w a hM hE=>We (seg:=cat [[vB x15],[(Value.slice none 0 0)]]) (cs':=cat [[vB x15],[(Value.slice none 0 0)]]) hE hM Za rfl rfl rfl ZR (ZC (cl1 (n:=1) (m:=1) rfl (cl1 (n:=1) (m:=0) rfl cl0))) (Nat.le_of_eq ((Nat.zero_add _).trans (Eq.trans (ZC (cl1 (n:=1) (m:=1) rfl (cl1 (n:=1) (m:=0) rfl cl0))) (Eq.symm (ZC (cl1 (n:=1) (m:=1) rfl (cl1 (n:=1) (m:=0) rfl cl0))))))) (Va (cc1 (Flat.cell (x15 : UInt8)) (cc1 T9 cc0))) (Y8 (Eq.trans (ZC (cl1 (n:=1) (m:=1) rfl (cl1 (n:=1) (m:=0) rfl cl0))) (Eq.symm (ZC (cl1 (n:=1) (m:=1) rfl (cl1 (n:=1) (m:=0) rfl cl0)))))) fun w a hM hE=>Zf (wp_seq (Zb (Zd hE Za ld rfl fun a hE=>ZF hE Za ld rfl Try.underlying22 (hM.rd hv1_1) fun a hE=>Zd hE Za ld rfl fun a hE=>Zf ?_)))))
   obtain ⟨j20,hl21,hF22⟩:=bind_some hs11
   refine ZS (fun a w=>∃ (u23 : Value),Env 66 a [(0,vI p0),(1,v1_1),(2,v2_1),(9,u9),(12,(ptr b18 0)),(19,v3_1),(20,(vI (p3.length : Int))),(21,vI s8.1)] ∧ M (Old w0) w0 w [raw b18 (cat [[vB x15],[u23]]),osl NoB (s8.2 : List GShare) u9,osl NoB (j20 : List UInt8) u23]) ?_ ?_
   ·skip
    refine wp_block ?_
    have hM:=((M.nilS (α:=UInt8) NoB noB hM).pull (pre:=[_,_])).pull (pre:=[_,_])
    refine ZG (fun (s25 : (List UInt8) × Int) a w=>∃ (u26 : Value),Env 66 a [(0,vI p0),(1,v1_1),(2,v2_1),(9,u9),(11,vB x15),(12,(ptr b18 0)),(19,v3_1),(20,(vI (p3.length : Int))),(21,vI s8.1),(27,v1_1),(28,(vI (p1.length : Int))),(29,vI s25.2)] ∧ M (Old w0) w0 w [raw b18 (cat [[vB x15],[u26]]),osl NoB (s8.2 : List GShare) u9,osl NoB (s25.1 : List UInt8) u26]) hl21 ⟨(Value.slice none 0 0),hE.sub ⟨rfl,rfl,rfl,rfl,rfl,rfl,rfl,rfl,rfl,rfl,rfl,rfl,trivial⟩,hM⟩ ?_
    rintro s25 a w ⟨u26,hE,hM⟩ o30 hs28 hx29
    unfold Z9 at hs28
    refine Zb (Zh hE Za ld rfl rfl rfl fun a hE=>Zf (wp_seq ?_))
    refine Zm hE rfl ?_ ?_
    ·intro hb32
     have hs28:=Zr hs28 hb32
     refine wp_skip (Zt (wp_seq (wp_block (Zb (Zd hE Za ld rfl ?_))))); intro a hE
     obtain ⟨x33,hi35,hs28⟩:=bix hs28
     refine Zo hE Za ld rfl rfl Try.underlying22 ty5 (hM.rd hv1_1) hi35.1 fun a hE=>Zy (v:=(vB x33)) hE Za ld rfl ty5 rfl (Xr (hM.rd hv1_1) hi35.2) fun a hE=>Zc hE Za ld rfl fun a hE=>Zc hE Za ld rfl fun a hE=>Zf (Zb (Zd hE Za ld rfl fun a hE=>Y5 (xs:=[.tmp 34]) (l:=([x33] : List UInt8)) (vs:=[vB x33]) hE hM Za ld rfl rfl Try.underlying22 ty5 rfl (by decide) rfl fun u36 w a hM hE=>Zc hE Za ld rfl fun a hE=>Zf (wp_seq (Zb (Zd hE Za ld rfl fun a hE=>ZF hE Za ld rfl Try.underlying23 (hM.rd hv2_1) fun a hE=>Zd hE Za ld rfl fun a hE=>Zf ?_)))))
     obtain ⟨j38,hl39,hF40⟩:=bind_some hs28
     refine ZS (fun a w=>∃ (u41 : Value),Env 66 a [(0,vI p0),(1,v1_1),(2,v2_1),(9,u9),(11,vB x15),(12,(ptr b18 0)),(15,u41),(19,v3_1),(20,(vI (p3.length : Int))),(21,vI s8.1),(27,v1_1),(28,(vI (p1.length : Int))),(29,vI s25.2)] ∧ M (Old w0) w0 w [raw b18 (cat [[vB x15],[u26]]),osl NoB (s8.2 : List GShare) u9,osl NoB (s25.1 : List UInt8) u26,osl NoB (j38 : List UInt8) u41]) ?_ ?_
     ·skip
      refine wp_block ?_
      have hM:=((hM.pull (pre:=[_,_,_])).pull (pre:=[_,_,_])).pull (pre:=[_,_,_])
      refine ZG (fun (s43 : (List UInt8) × Int) a w=>∃ (u44 : Value),Env 66 a [(0,vI p0),(1,v1_1),(2,v2_1),(9,u9),(11,vB x15),(12,(ptr b18 0)),(13,vI s25.2),(15,u44),(19,v3_1),(20,(vI (p3.length : Int))),(21,vI s8.1),(27,v1_1),(28,(vI (p1.length : Int))),(29,vI s25.2),(36,v2_1),(37,(vI (p2.length : Int))),(38,vI s43.2)] ∧ M (Old w0) w0 w [raw b18 (cat [[vB x15],[u26]]),osl NoB (s8.2 : List GShare) u9,osl NoB (s25.1 : List UInt8) u26,osl NoB (s43.1 : List UInt8) u44]) hl39 ⟨u36,hE.sub ⟨rfl,rfl,rfl,rfl,rfl,rfl,rfl,rfl,rfl,rfl,rfl,rfl,rfl,rfl,rfl,rfl,rfl,trivial⟩,hM⟩ ?_
      rintro s43 a w ⟨u44,hE,hM⟩ o48 hs46 hx47
      unfold Z8 at hs46
      refine Zb (Zh hE Za ld rfl rfl rfl fun a hE=>Zf (wp_seq ?_))
      refine Zm hE rfl ?_ ?_
      ·intro hb49
       have hs46:=Zr hs46 hb49
       refine wp_skip (Zt (wp_seq (wp_block (Zb ?_))))
       obtain ⟨x50,hi52,hs46⟩:=bix hs46
       refine Zo hE Za ld rfl rfl Try.underlying23 Yv (hM.rd hv2_1) hi52.1 ?_; intro a hE
       obtain ⟨cs53,hs54,hA55⟩:=ZM hv2_1 hi52.2 -- ^
       obtain ⟨u56,rfl⟩:=WG hs54 -- ^
       have h57:=hs54 -- ^
       refine Zy (v:=u56) hE Za ld rfl Yv rfl (hM.atk hA55 (ZY hv2_1 hi52.2)) fun a hE=>Zc hE Za ld rfl fun a hE=>Zf (wp_region_lit (Zd hE Za ld rfl fun a hE=>Zd hE Za ld rfl fun a hE=>Zd hE Za ld rfl ?_)); intro a hE
       obtain ⟨x58,hi60,hs46⟩:=bix hs46
       refine Zo hE Za ld rfl rfl Try.underlying22 ty5 (hM.rd h57) hi60.1 fun a hE=>Zy (v:=(vB x58)) hE Za ld rfl ty5 rfl (Xr (hM.rd h57) hi60.2) fun a hE=>Y5 (xs:=[.tmp 46]) (l:=([x58] : List UInt8)) (vs:=[vB x58]) hE hM Za ld rfl rfl Try.underlying22 ty5 rfl (by decide) rfl ?_; intro u61 w a hM hE
       obtain ⟨l63,e64,hs46⟩:=bind_some hs46
       obtain ⟨e67,rfl⟩:=Xl e64
       have hM:=hM.pull (pre:=[_,_,_,_])
       refine XW hE hM Za ld rfl rfl (hM.sl (pre:=[_]) noB) Try.underlying22 ty5 rfl (by decide) e67 fun u65 w a hM hE=>Zc hE Za ld rfl fun a hE=>Zi (Y0 (Zt (wp_region_lit (Zh hE Za ld rfl rfl rfl fun a hE=>Zd hE Za ld rfl fun a hE=>Zi (Zk ?_)))))
       have hM:=M.fst (l:=[_,_,_,_]) (((hM.pull (pre:=[_,_,_,_])).pull (pre:=[_,_,_,_])).pull (pre:=[_,_,_,_]))
       exact ⟨_,(ois hs46),u65,hE.sub ⟨rfl,rfl,rfl,rfl,rfl,rfl,rfl,rfl,rfl,rfl,rfl,rfl,rfl,rfl,rfl,rfl,rfl,trivial⟩,hM⟩
      ·intro hb49
       have hs46:=Zs hs46 hb49
       refine wp_exit (Zp (Zp (Y7 ?_)))
       have ht68:=hx47 _ (ois hs46)
       subst ht68
       refine Zk ?_
       exact ⟨u44,hE.sub ⟨rfl,rfl,rfl,rfl,rfl,rfl,rfl,rfl,rfl,rfl,rfl,rfl,rfl,trivial⟩,hM⟩
     ·skip
      rintro a w ⟨u41,hE,hM⟩
      refine Zt ?_
      obtain ⟨r70,e71,hF40⟩:=bind_some hF40
      refine Ue (n:=66) (hd:=[_,_,_,_,_,_,_]) (tl:=[_,_,_]) (its:=[raw b18 (cat [[vB x15],[u26]]),osl NoB (s8.2 : List GShare) u9,osl NoB (s25.1 : List UInt8) u26,osl NoB (j38 : List UInt8) u41]) Uo rfl rfl [50,51,52,53,54,55,56] (by decide) [(6,fun v=>osl NoB (([r70] : List UInt8) : List UInt8) v)] rfl (fun j=>([fun v=>v = (ptr b18 (0 + 1)),fun v=>v = u26,fun v=>v = (vI p0),fun v=>v = u41,fun v=>v = (vB x15),fun v=>v = (vB r70),fun v=>True] : List (Value → Prop)).getD j (fun _=>True)) hE hM.drew (Xh (Ze ?_ (Ze ?_ (Ze ?_ (Ze ?_ (Ze ?_ (Ze ?_ (Ze ?_ YE)))))))) ?_
      ·intro a w ux69 D hE hM hD hp
       have hM0:=hM
       exact Zn hE Za ld rfl (Yr) fun a hE=>⟨_,_,rfl,hE,rfl,hM0.optKeep rfl⟩
      ·intro a w ux69 D hE hM hD hp
       have f0 : ux69 0 = (ptr b18 (0 + 1)):=(hp 0 _ rfl rfl).2
       have hM0:=hM
       have hM : M (Old w0) w0 w [raw b18 (cat [[vB x15],[u26]]),osl NoB (s8.2 : List GShare) u9,osl NoB (s25.1 : List UInt8) u26,osl NoB (j38 : List UInt8) u41,opt (D 6) (osl NoB (([r70] : List UInt8) : List UInt8) (ux69 6))]:=hM
       exact Zy (v:=u26) hE Za ld (lk rfl f0) Yv rfl (At.cat (pre:=[[vB x15]]) (hM.rawAt (pre:=[])) (cl1 (n:=1) (m:=0) rfl cl0)) fun a hE=>⟨_,_,rfl,hE,rfl,hM0.optKeep rfl⟩
      ·intro a w ux69 D hE hM hD hp
       have hM0:=hM
       exact Zd hE Za ld rfl fun a hE=>⟨_,_,rfl,hE,rfl,hM0.optKeep rfl⟩
      ·intro a w ux69 D hE hM hD hp
       have hM0:=hM
       exact Zd hE Za ld rfl fun a hE=>⟨_,_,rfl,hE,rfl,hM0.optKeep rfl⟩
      ·intro a w ux69 D hE hM hD hp
       have hM0:=hM
       exact Zd hE Za ld rfl fun a hE=>⟨_,_,rfl,hE,rfl,hM0.optKeep rfl⟩
      ·intro a w ux69 D hE hM hD hp
       have f2 : ux69 2 = (vI p0):=(hp 0 _ rfl rfl).2
       have f3 : ux69 3 = u41:=(hp 1 _ rfl rfl).2
       have f4 : ux69 4 = (vB x15):=(hp 2 _ rfl rfl).2
       have hM0:=hM
       have hM : M (Old w0) w0 w [raw b18 (cat [[vB x15],[u26]]),osl NoB (s8.2 : List GShare) u9,osl NoB (s25.1 : List UInt8) u26,osl NoB (j38 : List UInt8) u41,opt (D 6) (osl NoB (([r70] : List UInt8) : List UInt8) (ux69 6))]:=hM
       refine Zu hE Za ld (WP (WR (lk rfl f2) (WR (lk rfl f3) (WR (lk rfl f4) U9)))) cb103 (VX _ p0 j38 u41 (hM.sl (pre:=[_,_,_]) noB) x15 r70 e71) ?_
       rintro v w a ⟨rfl,hK⟩ hE
       exact ⟨_,_,rfl,hE,rfl,(hM0.keep hK).optKeep rfl⟩
      ·intro a w ux69 D hE hM hD hp
       have f5 : ux69 5 = (vB r70):=(hp 0 _ rfl rfl).2
       have hM0:=hM
       have hM : M (Old w0) w0 w [raw b18 (cat [[vB x15],[u26]]),osl NoB (s8.2 : List GShare) u9,osl NoB (s25.1 : List UInt8) u26,osl NoB (j38 : List UInt8) u41,opt (D 6) (osl NoB (([r70] : List UInt8) : List UInt8) (ux69 6))]:=hM
       exact Y5 (xs:=[.tmp 55]) (l:=([r70] : List UInt8)) (vs:=[vB r70]) hE hM Za ld (WP (WR (lk rfl f5) U9)) rfl Try.underlying22 ty5 rfl (by decide) rfl fun u72 w a hM hE=>⟨_,_,rfl,hE,trivial,M.optFill (mk1:=[]) (mk2:=[]) (f:=(fun v=>osl NoB (([r70] : List UInt8) : List UInt8) v)) hM rfl hD⟩
      ·intro a w ux69 hE hM hg
       have hM : M (Old w0) w0 w [raw b18 (cat [[vB x15],[u26]]),osl NoB (s8.2 : List GShare) u9,osl NoB (s25.1 : List UInt8) u26,osl NoB (j38 : List UInt8) u41,osl NoB (([r70] : List UInt8) : List UInt8) (ux69 6)]:=hM
       have hE:=hE.sub (e':=[(51,u26),(56,(ux69 6)),(0,vI p0),(1,v1_1),(2,v2_1),(9,u9),(11,vB x15),(12,(ptr b18 0)),(15,u41),(19,v3_1),(20,(vI (p3.length : Int))),(21,vI s8.1),(27,v1_1),(28,(vI (p1.length : Int))),(29,vI s25.2)]) ⟨lk rfl (hg 1 (by decide)),rfl,rfl,rfl,rfl,rfl,rfl,rfl,rfl,rfl,rfl,rfl,rfl,rfl,rfl,trivial⟩
       obtain ⟨l74,e75,hF40⟩:=bind_some hF40
       obtain ⟨e78,rfl⟩:=Xl e75
       have hM:=hM.pull (pre:=[_,_])
       refine XW hE hM Za ld rfl rfl (hM.sl (pre:=[_,_,_,_]) noB) Try.underlying22 ty5 rfl (by decide) e78 fun u76 w a hM hE=>Zn hE Za ld rfl (Yr) ?_; intro a hE
       have hM:=hM.pull (pre:=[_])
       refine We (seg:=[u76]) hE hM Za rfl rfl (WN (hM.sl (pre:=[_]) noB)) Yv rfl (VE (pre:=[[vB x15]]) (cl1 (n:=1) (m:=0) rfl cl0) rfl) (Rep.cell (hM.sl (pre:=[_]) noB)) (Wb (pre:=[[vB x15]]) (cl1 (n:=1) (m:=0) rfl cl0) rfl) fun w a hM hE=>Zi (Y0 (Zt (wp_region_lit (Zh hE Za ld rfl rfl rfl fun a hE=>Zd hE Za ld rfl fun a hE=>Zi (Zk ?_)))))
       have hM:=M.fst (l:=[_,_,_]) (((hM.pull (pre:=[_])).pull (pre:=[_,_])).pull (pre:=[_,_]))
       exact ⟨_,(ois hF40),u76,hE.sub ⟨rfl,rfl,rfl,rfl,rfl,rfl,rfl,rfl,rfl,rfl,rfl,rfl,trivial⟩,hM⟩
    ·intro hb32
     have hs28:=Zs hs28 hb32
     refine wp_exit (Zp (Zp (Y7 ?_)))
     have ht79:=hx29 _ (ois hs28)
     subst ht79
     refine Zk ?_
     exact ⟨u26,hE.sub ⟨rfl,rfl,rfl,rfl,rfl,rfl,rfl,rfl,trivial⟩,hM⟩
   ·skip
    rintro a w ⟨u23,hE,hM⟩
    refine Zt (wp_region_lit (Zd hE Za ld rfl fun a hE=>XY (cs:=cat [[vB x15],[u23]]) hE Za ld rfl ZR rfl (hM.rawAt (pre:=[])) (ZC (cl1 (n:=1) (m:=1) rfl (cl1 (n:=1) (m:=0) rfl cl0))) ?_)); intro a hE
    have hM:=hM.pull (pre:=[_,_])
    have hM:=hM.pack1 (it:=own NoB (⟨x15,j20⟩ : GShare) (cat [[vB x15],[u23]])) (Wq noB) (fun f0 q0=>(Wc (Yx.sat q0) (by simp)))
    refine V2 (xs:=[.tmp 61]) (seg:=cat [[vB x15],[u23]]) hE hM noB Za ld rfl rfl Try.underlying25 ZR rfl (by decide) ?_; intro u80 w a hM hE
    obtain ⟨l82,e83,hF22⟩:=bind_some hF22
    obtain ⟨e86,rfl⟩:=Xl e83
    have hM:=hM.pull (pre:=[_,_])
    refine VD hE hM noB Za ld rfl rfl Try.underlying25 ZR rfl (by decide) e86 fun u84 w a hM hE=>Zc hE Za ld rfl fun a hE=>Zi (Y0 (Zt (wp_region_lit (Zh hE Za ld rfl rfl rfl fun a hE=>Zd hE Za ld rfl fun a hE=>Zi (Zk ?_)))))
    have hM:=M.fst (l:=[_]) hM
    exact ⟨_,(ois hF22),u84,hE.sub ⟨rfl,rfl,rfl,rfl,rfl,rfl,rfl,trivial⟩,hM⟩
  ·intro hb14
   have hs11:=Zs hs11 hb14
   refine wp_exit (Zp (Zp (Y7 ?_)))
   have ht87:=hx12 _ (ois hs11)
   subst ht87
   refine Zk ?_
   exact ⟨u9,hE.sub ⟨rfl,trivial⟩,hM⟩
 ·skip
  rintro a w ⟨u6,hE,hM⟩
  refine Zt (Zb (Zd hE Za ld rfl fun a hE=>Zc hE Za ld rfl fun a hE=>Zf ?_))
  have hr:=Option.some.inj hF5
  subst hr
  exact wp_ret (Zl hE rfl (Zg hE rfl) ⟨_,rfl,u6,rfl,hM.outF (Wr Ws),hM.kept⟩)
def ZW (p0 : (List UInt8)) : Option ((List UInt8)) :=
 (app 1 ([] : List UInt8) p0).bind fun l7=>some (([] : List UInt8) ++ p0)
theorem WW (w0 : World) (p0 : (List UInt8)) (v0_1 : Value) (hv0_1 : Ro w0 p0 [v0_1]) (r : (List UInt8)) (hF : ZW p0 = some r) :
  Calls Try.prog 110 [v0_1].toArray w0 (fun en w'=>∃ v,en = .returned v ∧ (∃ (y1 : Value),v = y1 ∧ Fr w0 w' [osl NoB (r : List UInt8) y1] ∧ Kept (Old w0) w0 w')):=by
 refine Zv (n:=8) Try.func110 rfl rfl (nbl rfl) rfl ?_
 intro a hE
 have hM:=M.start w0
 unfold ZW at hF
 refine Zb (Zc hE Za ld rfl fun a hE=>Zf (wp_seq (Zb (Zd hE Za ld rfl fun a hE=>Ji hE Za ld rfl rfl Try.underlying22 (hM.rd hv0_1) fun bn1 a hn2 hE=>Zf ?_))))
 refine Zm hE rfl ?_ ?_
 ·intro hb3
  have h0:=hn2 hb3
  have hF : some ([]) = some r:=by rw [h0] at hF; simpa [app] using hF
  refine Zb (Zc hE Za ld rfl fun a hE=>Zf ?_)
  have hM:=M.nilS (α:=UInt8) NoB noB hM
  have hr:=Option.some.inj hF
  subst hr
  exact wp_ret (Zj (Zl hE rfl (Zg hE rfl) ⟨_,rfl,(Value.slice none 0 0),rfl,hM.outF (Wr Ws),hM.kept⟩))
 ·intro hb3
  refine wp_skip (Zt (Zb (Y5 (xs:=[]) (l:=([] : List UInt8)) (vs:=[]) hE hM Za ld rfl rfl Try.underlying22 ty5 rfl (by decide) rfl fun u5 w a hM hE=>Zd hE Za ld rfl ?_))); intro a hE
  obtain ⟨l7,e8,hF⟩:=bind_some hF
  obtain ⟨e11,rfl⟩:=Xl e8
  refine XW hE hM Za ld rfl rfl (hM.rd hv0_1) Try.underlying22 ty5 rfl (by decide) e11 fun u9 w a hM hE=>Zc hE Za ld rfl fun a hE=>Zf ?_
  have hr:=Option.some.inj hF
  subst hr
  exact wp_ret (Zl hE rfl (Zg hE rfl) ⟨_,rfl,u9,rfl,hM.outF (Wr Ws),hM.kept⟩)
def XE (p1 : (List GShare)) (s8 : Int × (List GShare)) (r25 : (List UInt8)) (s33 : Int × (List UInt8)) : Option (Fl (Int × (List UInt8)) (List UInt8)) :=
 if (decide (s33.1 < (r25.length : Int))) = true then ((idx s33.2 s33.1).bind fun x41=>(idx p1 s8.1).bind fun x44=>(idx x44.Data s33.1).bind fun x52=>(idx s33.2 s33.1).bind fun x55=>some (Fl.nx (wr (s33.1 + 1),(s33.2.set (s33.1).toNat (x41 ^^^ x52))))) else (some (Fl.ex s33.2))
def XF (p0 : (List GShare)) (p1 : (List GShare)) (s8 : Int × (List GShare)) : Option (Fl (Int × (List GShare)) (List GShare)) :=
 if (decide (s8.1 < (p0.length : Int))) = true then ((idx p0 s8.1).bind fun x15=>(ZW x15.Data).bind fun r25=>(ZB (XE p1 s8 r25) (0,r25)).bind fun j28=>(app 32 s8.2 ([(⟨x15.Place,j28⟩ : GShare)] : List GShare)).bind fun l61=>some (Fl.nx (wr (s8.1 + 1),(s8.2 ++ ([(⟨x15.Place,j28⟩ : GShare)] : List GShare))))) else (some (Fl.ex s8.2))
def Wh (p0 : (List GShare)) (p1 : (List GShare)) : Option ((List GShare)) :=
 (ZB (XF p0 p1) (0,([] : List GShare))).bind fun j3=>some j3
theorem T8 (w0 : World) (p0 : (List GShare)) (v0_1 : Value) (hv0_1 : Ro w0 p0 [v0_1]) (p1 : (List GShare)) (v1_1 : Value) (hv1_1 : Ro w0 p1 [v1_1]) (r : (List GShare)) (hF : Wh p0 p1 = some r) :
  Calls Try.prog 61 [v0_1,v1_1].toArray w0 (fun en w'=>∃ v,en = .returned v ∧ (∃ (y1 : Value),v = y1 ∧ Fr w0 w' [osl NoB (r : List GShare) y1] ∧ Kept (Old w0) w0 w')):=by
 refine Zv (n:=50) Try.func61 rfl rfl (nbl rfl) rfl ?_
 intro a hE
 have hM:=M.start w0
 unfold Wh at hF
 refine Zb (Zc hE Za ld rfl fun a hE=>Zf (Zb (VF (xs:=[]) (S:=NoB) (l:=([] : List GShare)) (vs:=[]) hE hM.emp noB Za ld rfl rfl rfl Try.underlying25 ZR rfl (by decide) (fun _ h=>⟨rfl,h⟩) (fun _ h=>by cases h) fun u1 w a hM hE=>Zc hE Za ld rfl fun a hE=>Zf (wp_seq (Zb (Zd hE Za ld rfl fun a hE=>ZF hE Za ld rfl Try.underlying25 (hM.rd hv0_1) fun a hE=>Zd hE Za ld rfl fun a hE=>Zf ?_))))))
 obtain ⟨j3,hl4,hF5⟩:=bind_some hF
 refine ZS (fun a w=>∃ (u6 : Value),Env 50 a [(5,u6)] ∧ M (Old w0) w0 w [osl NoB (j3 : List GShare) u6]) ?_ ?_
 ·skip
  refine wp_block ?_
  refine ZG (fun (s8 : Int × (List GShare)) a w=>∃ (u9 : Value),Env 50 a [(1,v1_1),(5,u9),(11,v0_1),(12,(vI (p0.length : Int))),(13,vI s8.1)] ∧ M (Old w0) w0 w [osl NoB (s8.2 : List GShare) u9]) hl4 ⟨u1,hE.sub ⟨rfl,rfl,rfl,rfl,rfl,trivial⟩,hM⟩ ?_
  rintro s8 a w ⟨u9,hE,hM⟩ o13 hs11 hx12
  unfold XF at hs11
  refine Zb (Zh hE Za ld rfl rfl rfl fun a hE=>Zf (wp_seq ?_))
  refine Zm hE rfl ?_ ?_
  ·intro hb14
   have hs11:=Zr hs11 hb14
   refine wp_skip (Zt (wp_seq (wp_block (Zb (Zd hE Za ld rfl ?_))))); intro a hE
   obtain ⟨x15,hi17,hs11⟩:=bix hs11
   refine Zo hE Za ld rfl rfl Try.underlying25 ZR (hM.rd hv0_1) hi17.1 ?_; intro a hE
   obtain ⟨cs18,hs19,hA20⟩:=ZM hv0_1 hi17.2 -- ^
   obtain ⟨u21,rfl,h22⟩:=ZJ hs19 -- ^
   refine XY (cs:=cat [[vB x15.Place],[u21]]) hE Za ld rfl ZR rfl (hM.atk hA20 (ZY hv0_1 hi17.2)) (ZC (cl1 (n:=1) (m:=1) rfl (cl1 (n:=1) (m:=0) rfl cl0))) fun a hE=>Vb hE hM Za ld ZR fun b23 w a hM hE=>Zc hE Za ld rfl fun a hE=>We (seg:=cat [[vB x15.Place],[u21]]) (cs':=cat [[vB x15.Place],[u21]]) hE hM Za rfl rfl rfl ZR (ZC (cl1 (n:=1) (m:=1) rfl (cl1 (n:=1) (m:=0) rfl cl0))) (Nat.le_of_eq ((Nat.zero_add _).trans (Eq.trans (ZC (cl1 (n:=1) (m:=1) rfl (cl1 (n:=1) (m:=0) rfl cl0))) (Eq.symm (ZC (cl1 (n:=1) (m:=1) rfl (cl1 (n:=1) (m:=0) rfl cl0))))))) (Va (cc1 (Flat.cell (x15.Place : UInt8)) (cc1 (Rep.cell (hM.rd h22)) cc0))) (Y8 (Eq.trans (ZC (cl1 (n:=1) (m:=1) rfl (cl1 (n:=1) (m:=0) rfl cl0))) (Eq.symm (ZC (cl1 (n:=1) (m:=1) rfl (cl1 (n:=1) (m:=0) rfl cl0)))))) fun w a hM hE=>Zf (Zb (Zn hE Za ld rfl (Yr) fun a hE=>Zy (v:=u21) hE Za ld rfl Yv rfl (At.cat (pre:=[[vB x15.Place]]) (hM.rawAt (pre:=[])) (cl1 (n:=1) (m:=0) rfl cl0)) ?_)); intro a hE
   obtain ⟨r25,e26,hs11⟩:=bind_some hs11
   refine Zu hE Za ld rfl cb110 (WW _ x15.Data u21 (hM.rdo h22) r25 e26) ?_
   rintro u27 w a ⟨_,rfl,hFr,hK⟩ hE
   have hM:=hM.add hK hFr
   refine Zc hE Za ld rfl fun a hE=>Zf (wp_seq (Zb (Zd hE Za ld rfl fun a hE=>ZF hE Za ld rfl Try.underlying22 (hM.sl (pre:=[]) noB) fun a hE=>Zd hE Za ld rfl fun a hE=>Zf ?_)))
   obtain ⟨j28,hl29,hF30⟩:=bind_some hs11
   refine ZS (fun a w=>∃ (u31 : Value),Env 50 a [(1,v1_1),(5,u9),(7,(ptr b23 0)),(8,u31),(11,v0_1),(12,(vI (p0.length : Int))),(13,vI s8.1)] ∧ M (Old w0) w0 w [raw b23 (cat [[vB x15.Place],[u21]]),osl NoB (s8.2 : List GShare) u9,osl NoB (j28 : List UInt8) u31]) ?_ ?_
   ·skip
    refine wp_block ?_
    have hM:=(hM.pull (pre:=[_,_])).pull (pre:=[_,_])
    refine ZG (fun (s33 : Int × (List UInt8)) a w=>∃ (u34 : Value),Env 50 a [(1,v1_1),(5,u9),(6,vI s8.1),(7,(ptr b23 0)),(8,u34),(11,v0_1),(12,(vI (p0.length : Int))),(13,vI s8.1),(22,(vI (r25.length : Int))),(23,vI s33.1)] ∧ M (Old w0) w0 w [raw b23 (cat [[vB x15.Place],[u21]]),osl NoB (s8.2 : List GShare) u9,osl NoB (s33.2 : List UInt8) u34]) hl29 ⟨u27,hE.sub ⟨rfl,rfl,rfl,rfl,rfl,rfl,rfl,rfl,rfl,rfl,trivial⟩,hM⟩ ?_
    rintro s33 a w ⟨u34,hE,hM⟩ o38 hs36 hx37
    unfold XE at hs36
    refine Zb (Zh hE Za ld rfl rfl rfl fun a hE=>Zf (wp_seq ?_))
    refine Zm hE rfl ?_ ?_
    ·intro hb39
     have hs36:=Zr hs36 hb39
     refine wp_skip (Zt (wp_seq (wp_block (Zb (Zd hE Za ld rfl fun a hE=>Zc hE Za ld rfl fun a hE=>Zf ?_)))))
     obtain ⟨x41,hi43,hs36⟩:=bix hs36
     obtain ⟨x44,hi46,hs36⟩:=bix hs36
     obtain ⟨cs47,hs48,hA49⟩:=ZM hv1_1 hi46.2 -- ^
     obtain ⟨u50,rfl,h51⟩:=ZJ hs48 -- ^
     obtain ⟨x52,hi54,hs36⟩:=bix hs36
     obtain ⟨x55,hi57,hs36⟩:=bix hs36
     refine Vx (n:=50) (hd:=[_,_,_,_,_,_,_,_,_,_,_,_,_,_]) (tl:=[_]) Uo rfl rfl [26,27,28,29,30,31,32,33,34,35,36,37,38,39] (by decide) (fun w=>M (Old w0) w0 w [raw b23 (cat [[vB x15.Place],[u21]]),osl NoB (s8.2 : List GShare) u9,osl NoB (s33.2 : List UInt8) u34]) (fun j=>([fun v _=>v = u34,fun v _=>v = (vI s33.1),fun v _=>v = (ptr (sb u34) (so u34 + (s33.1).toNat * 1)),fun v _=>v = (vB x41),fun v _=>v = v1_1,fun v _=>v = (vI s8.1),fun v _=>v = (ptr (sb v1_1) (so v1_1 + (s8.1).toNat * 2)),fun v _=>v = (ptr (sb v1_1) (so v1_1 + (s8.1).toNat * 2 + 1)),fun v _=>v = u50,fun v _=>v = (vI s33.1),fun v _=>v = (ptr (sb u50) (so u50 + (s33.1).toNat * 1)),fun v _=>v = (vB x52),fun v _=>v = (vB (x41 ^^^ x52)),fun v _=>v = (ptr (sb u34) (so u34 + (s33.1).toNat * 1))] : List (Value → World → Prop)).getD j (fun _ _=>True)) (fun _ _ h hk=>h.keep hk) (gup (ZL (ZL (ZL (ZL (ZL (ZL (ZL (ZL (ZL (ZL (ZL (ZL (ZL (ZL Qy))))))))))))))) hE hM.drew (Xh (Ze ?_ (Ze ?_ (Ze ?_ (Ze ?_ (Ze ?_ (Ze ?_ (Ze ?_ (Ze ?_ (Ze ?_ (Ze ?_ (Ze ?_ (Ze ?_ (Ze ?_ (Ze ?_ YE))))))))))))))) ?_
     ·exact fun a w ux40 hE hM hp=>Zd hE Za ld rfl fun a hE=>⟨Kept.refl _ _,_,_,rfl,hE,rfl⟩
     ·exact fun a w ux40 hE hM hp=>Zd hE Za ld rfl fun a hE=>⟨Kept.refl _ _,_,_,rfl,hE,rfl⟩
     ·intro a w ux40 hE hM hp
      have f0 : ux40 0 = u34:=hp 0 _ rfl rfl
      have f1 : ux40 1 = (vI s33.1):=hp 1 _ rfl rfl
      exact Zo hE Za ld (lk rfl f0) (lk rfl f1) Try.underlying22 ty5 (hM.sl (pre:=[_,_]) noB) hi43.1 fun a hE=>⟨Kept.refl _ _,_,_,rfl,hE,rfl⟩
     ·intro a w ux40 hE hM hp
      have f2 : ux40 2 = (ptr (sb u34) (so u34 + (s33.1).toNat * 1)):=hp 0 _ rfl rfl
      exact Zy (v:=(vB x41)) hE Za ld (lk rfl f2) ty5 rfl (Xr (hM.sl (pre:=[_,_]) noB) hi43.2) fun a hE=>⟨Kept.refl _ _,_,_,rfl,hE,rfl⟩
     ·exact fun a w ux40 hE hM hp=>Zd hE Za ld rfl fun a hE=>⟨Kept.refl _ _,_,_,rfl,hE,rfl⟩
     ·exact fun a w ux40 hE hM hp=>Zd hE Za ld rfl fun a hE=>⟨Kept.refl _ _,_,_,rfl,hE,rfl⟩
     ·intro a w ux40 hE hM hp
      have f4 : ux40 4 = v1_1:=hp 0 _ rfl rfl
      have f5 : ux40 5 = (vI s8.1):=hp 1 _ rfl rfl
      exact Zo hE Za ld (lk rfl f4) (lk rfl f5) Try.underlying25 ZR (hM.rd hv1_1) hi46.1 fun a hE=>⟨Kept.refl _ _,_,_,rfl,hE,rfl⟩
     ·intro a w ux40 hE hM hp
      have f6 : ux40 6 = (ptr (sb v1_1) (so v1_1 + (s8.1).toNat * 2)):=hp 0 _ rfl rfl
      exact Zn hE Za ld (lk rfl f6) (Yr) fun a hE=>⟨Kept.refl _ _,_,_,rfl,hE,rfl⟩
     ·intro a w ux40 hE hM hp
      have f7 : ux40 7 = (ptr (sb v1_1) (so v1_1 + (s8.1).toNat * 2 + 1)):=hp 0 _ rfl rfl
      exact Zy (v:=u50) hE Za ld (lk rfl f7) Yv rfl (At.cat (pre:=[[vB x44.Place]]) (hM.atk hA49 (ZY hv1_1 hi46.2)) (cl1 (n:=1) (m:=0) rfl cl0)) fun a hE=>⟨Kept.refl _ _,_,_,rfl,hE,rfl⟩
     ·exact fun a w ux40 hE hM hp=>Zd hE Za ld rfl fun a hE=>⟨Kept.refl _ _,_,_,rfl,hE,rfl⟩
     ·intro a w ux40 hE hM hp
      have f8 : ux40 8 = u50:=hp 0 _ rfl rfl
      have f9 : ux40 9 = (vI s33.1):=hp 1 _ rfl rfl
      exact Zo hE Za ld (lk rfl f8) (lk rfl f9) Try.underlying22 ty5 (hM.rd h51) hi54.1 fun a hE=>⟨Kept.refl _ _,_,_,rfl,hE,rfl⟩
     ·intro a w ux40 hE hM hp
      have f10 : ux40 10 = (ptr (sb u50) (so u50 + (s33.1).toNat * 1)):=hp 0 _ rfl rfl
      exact Zy (v:=(vB x52)) hE Za ld (lk rfl f10) ty5 rfl (Xr (hM.rd h51) hi54.2) fun a hE=>⟨Kept.refl _ _,_,_,rfl,hE,rfl⟩
     ·intro a w ux40 hE hM hp
      have f3 : ux40 3 = (vB x41):=hp 0 _ rfl rfl
      have f11 : ux40 11 = (vB x52):=hp 1 _ rfl rfl
      exact Zh hE Za ld (lk rfl f3) (lk rfl f11) (Qa x41 x52) fun a hE=>⟨Kept.refl _ _,_,_,rfl,hE,rfl⟩
     ·intro a w ux40 hE hM hp
      have f0 : ux40 0 = u34:=hp 0 _ rfl rfl
      have f1 : ux40 1 = (vI s33.1):=hp 1 _ rfl rfl
      exact Zo hE Za ld (lk rfl f0) (lk rfl f1) Try.underlying22 ty5 (hM.sl (pre:=[_,_]) noB) hi57.1 fun a hE=>⟨Kept.refl _ _,_,_,rfl,hE,rfl⟩
     ·intro a w ux40 hE hM hg
      have hE:=hE.sub (e':=[(38,(vB (x41 ^^^ x52))),(39,(ptr (sb u34) (so u34 + (s33.1).toNat * 1))),(1,v1_1),(5,u9),(6,vI s8.1),(7,(ptr b23 0)),(8,u34),(9,vI s33.1),(11,v0_1),(12,(vI (p0.length : Int))),(13,vI s8.1),(22,(vI (r25.length : Int))),(23,vI s33.1),(24,(vT (decide (s33.1 < (r25.length : Int))))),(25,vI s33.1)]) ⟨lk rfl (hg 12 (by decide)),lk rfl (hg 13 (by decide)),rfl,rfl,rfl,rfl,rfl,rfl,rfl,rfl,rfl,rfl,rfl,rfl,rfl,trivial⟩
      have hM:=hM.pull (pre:=[_,_])
      refine Tx (i:=(s33.1).toNat) (k0:=0) (seg:=[(vB (x41 ^^^ x52))]) (xo:=x55) (xn:=x41 ^^^ x52) hE hM Za rfl rfl rfl ty5 rfl (Flat.cell (x41 ^^^ x52 : UInt8)) hi57.2 (UT (m:=1) rfl (by decide)) (Y8 rfl) fun w a hM hE=>Zi (Y0 (Zt (wp_region_lit (Zh hE Za ld rfl rfl rfl fun a hE=>Zd hE Za ld rfl fun a hE=>Zi (Zk ?_)))))
      have hM:=(hM.pull (pre:=[_,_])).pull (pre:=[_,_])
      exact ⟨_,(ois hs36),u34,hE.sub ⟨rfl,rfl,rfl,rfl,rfl,rfl,rfl,rfl,rfl,rfl,trivial⟩,hM⟩
    ·intro hb39
     have hs36:=Zs hs36 hb39
     refine wp_exit (Zp (Zp (Y7 ?_)))
     have ht58:=hx37 _ (ois hs36)
     subst ht58
     refine Zk ?_
     exact ⟨u34,hE.sub ⟨rfl,rfl,rfl,rfl,rfl,rfl,rfl,trivial⟩,hM⟩
   ·skip
    rintro a w ⟨u31,hE,hM⟩
    refine Zt (wp_region_lit (Zd hE Za ld rfl fun a hE=>Zn hE Za ld rfl (Wx) fun a hE=>Zy (v:=(vB x15.Place)) hE Za ld rfl ty5 rfl (At.cat (pre:=[]) (hM.rawAt (pre:=[])) cl0) fun a hE=>Zd hE Za ld rfl fun a hE=>Vc (parts:=[(0,.tmp 43),(1,.tmp 44)]) (vs:=[(0,vB x15.Place),(1,u31)]) (cs:=cat [[vB x15.Place],[u31]]) hE Za ld rfl rfl ZR pl86 (W6 (pre:=[]) (seg:=[vB 0]) (seg':=[vB x15.Place]) (post:=[[(Value.slice none 0 0)]]) rfl cl0 rfl rfl rfl (W6 (pre:=[[vB x15.Place]]) (seg:=[(Value.slice none 0 0)]) (seg':=[u31]) (post:=[]) rfl (cl1 (n:=1) (m:=0) rfl cl0) rfl rfl (WN (hM.sl (pre:=[_,_]) noB)) V7)) ?_)); intro a hE
    have hM:=hM.pull (pre:=[_,_])
    have hM:=hM.pack1 (it:=own NoB (⟨x15.Place,j28⟩ : GShare) (cat [[vB x15.Place],[u31]])) (Wq noB) (fun f0 q0=>(Wc (Yx.sat q0) (by simp)))
    refine V2 (xs:=[.tmp 45]) (seg:=cat [[vB x15.Place],[u31]]) hE hM noB Za ld rfl rfl Try.underlying25 ZR rfl (by decide) ?_; intro u59 w a hM hE
    obtain ⟨l61,e62,hF30⟩:=bind_some hF30
    obtain ⟨e65,rfl⟩:=Xl e62
    have hM:=hM.pull (pre:=[_,_])
    refine VD hE hM noB Za ld rfl rfl Try.underlying25 ZR rfl (by decide) e65 fun u63 w a hM hE=>Zc hE Za ld rfl fun a hE=>Zi (Y0 (Zt (wp_region_lit (Zh hE Za ld rfl rfl rfl fun a hE=>Zd hE Za ld rfl fun a hE=>Zi (Zk ?_)))))
    have hM:=M.fst (l:=[_]) hM
    exact ⟨_,(ois hF30),u63,hE.sub ⟨rfl,rfl,rfl,rfl,rfl,trivial⟩,hM⟩
  ·intro hb14
   have hs11:=Zs hs11 hb14
   refine wp_exit (Zp (Zp (Y7 ?_)))
   have ht66:=hx12 _ (ois hs11)
   subst ht66
   refine Zk ?_
   exact ⟨u9,hE.sub ⟨rfl,trivial⟩,hM⟩
 ·skip
  rintro a w ⟨u6,hE,hM⟩
  refine Zt (Zb (Zd hE Za ld rfl fun a hE=>Zc hE Za ld rfl fun a hE=>Zf ?_))
  have hr:=Option.some.inj hF5
  subst hr
  exact wp_ret (Zl hE rfl (Zg hE rfl) ⟨_,rfl,u6,rfl,hM.outF (Wr Ws),hM.kept⟩)
def ZZ (p0 : Int) (p1 : (List GShare)) (p2 : (List (List UInt8))) : Option ((List GShare) × Int) :=
 (YO p0 p1 1).bind fun r1=>if (r1 != 0) = true then (some ([],r1)) else ((idx p1 (0 : Int)).bind fun x5=>(Yf p2 (x5.Data.length : Int)).bind fun r13=>if (!r13) = true then (some ([],2)) else (((mkS 1 (0 : UInt8) (x5.Data.length : Int)).bind fun l23=>(Ys p1).bind fun r27=>(YJ p0 l23 p2 r27).bind fun r30=>(Wh p1 r30).bind fun r33=>some r33 : Option ((List GShare))).bind fun j17=>some (j17,0)))
theorem Wu (w0 : World) (p0 : Int) (p1 : (List GShare)) (v1_1 : Value) (hv1_1 : Ro w0 p1 [v1_1]) (p2 : (List (List UInt8))) (v2_1 : Value) (hv2_1 : Ro w0 p2 [v2_1]) (r : (List GShare) × Int) (hF : ZZ p0 p1 p2 = some r) :
  Calls Try.prog 23 [vI p0,v1_1,v2_1].toArray w0 (fun en w'=>∃ v,en = .returned v ∧ (∃ (y1 : Value),v = (Value.tuple [y1,vI r.2].toArray) ∧ Fr w0 w' [osl NoB (r.1 : List GShare) y1] ∧ Kept (Old w0) w0 w')):=by
 refine Zv (n:=34) Try.func23 rfl rfl (nbl rfl) rfl ?_
 intro a hE
 have hM:=M.start w0
 unfold ZZ at hF
 refine Zb (Zc hE Za ld rfl fun a hE=>Zc hE Za ld rfl fun a hE=>Zf (wp_seq (Zb (Zd hE Za ld rfl fun a hE=>Zd hE Za ld rfl ?_)))); intro a hE
 obtain ⟨r1,e2,hF⟩:=bind_some hF
 refine Zu hE Za ld rfl cb60 (VM _ p0 p1 v1_1 (hM.rdo hv1_1) 1 r1 e2) ?_
 rintro v w a ⟨rfl,hK⟩ hE
 have hM:=hM.keep hK
 refine Zc hE Za ld rfl fun a hE=>Zf (Zb (Zd hE Za ld rfl fun a hE=>Zh hE Za ld rfl rfl rfl fun a hE=>Zf ?_))
 refine Zm hE rfl ?_ ?_
 ·intro hb3
  have hF:=Zr hF hb3
  refine Zb (Zd hE Za ld rfl fun a hE=>Zc hE Za ld rfl fun a hE=>Zc hE Za ld rfl fun a hE=>Zf ?_)
  have hM:=M.nilS (α:=GShare) NoB noB hM
  have hr:=Option.some.inj hF
  subst hr
  exact wp_ret (Zj (UZ hE rfl (Zg hE rfl) (Zg hE rfl) ⟨_,rfl,(Value.slice none 0 0),rfl,hM.outF (Wr Ws),hM.kept⟩))
 ·intro hb3
  have hF:=Zs hF hb3
  refine wp_skip (Zt (Zb (Zd hE Za ld rfl ?_))); intro a hE
  obtain ⟨x5,hi7,hF⟩:=bix hF
  refine Zo hE Za ld rfl rfl Try.underlying25 ZR (hM.rd hv1_1) hi7.1 fun a hE=>Zn hE Za ld rfl (Yr) ?_; intro a hE
  obtain ⟨cs8,hs9,hA10⟩:=ZM hv1_1 hi7.2 -- ^
  obtain ⟨u11,rfl,h12⟩:=ZJ hs9 -- ^
  refine Zy (v:=u11) hE Za ld rfl Yv rfl (At.cat (pre:=[[vB x5.Place]]) (hM.atk hA10 (ZY hv1_1 hi7.2)) (cl1 (n:=1) (m:=0) rfl cl0)) fun a hE=>ZF hE Za ld rfl Try.underlying22 (hM.rd h12) fun a hE=>Zc hE Za ld rfl fun a hE=>Zf (wp_seq (Zb (Zd hE Za ld rfl fun a hE=>Zd hE Za ld rfl ?_))); intro a hE
  obtain ⟨r13,e14,hF⟩:=bind_some hF
  refine Zu hE Za ld rfl cb48 (Vj _ p2 v2_1 (hM.rdo hv2_1) (x5.Data.length : Int) r13 e14) ?_
  rintro v w a ⟨rfl,hK⟩ hE
  have hM:=hM.keep hK
  refine Xt hE Za ld rfl fun a hE=>Zf ?_
  refine Zm hE rfl ?_ ?_
  ·intro hb15
   have hF:=Zr hF hb15
   refine Zb (Zc hE Za ld rfl fun a hE=>Zc hE Za ld rfl fun a hE=>Zf ?_)
   have hM:=M.nilS (α:=GShare) NoB noB hM
   have hr:=Option.some.inj hF
   subst hr
   exact wp_ret (Zj (UZ hE rfl (Zg hE rfl) (Zg hE rfl) ⟨_,rfl,(Value.slice none 0 0),rfl,hM.outF (Wr Ws),hM.kept⟩))
  ·intro hb15
   have hF:=Zs hF hb15
   refine wp_skip (Zt ?_)
   obtain ⟨j17,hl18,hF19⟩:=bind_some hF
   refine Ye (fun a w=>∃ (u20 : Value),Env 34 a [(6,u20),(7,vI 0)] ∧ M (Old w0) w0 w [osl NoB (j17 : List GShare) u20]) ?_ ?_
   ·skip
    obtain ⟨l23,e24,hl18⟩:=bind_some hl18
    obtain ⟨r27,e28,hl18⟩:=bind_some hl18
    obtain ⟨r30,e31,hl18⟩:=bind_some hl18
    refine Ue (n:=34) (hd:=[_,_,_,_,_,_,_,_]) (tl:=[_,_,_]) (its:=[]) Uo rfl rfl [25,26,27,28,29,30,31,32] (by decide) [(3,fun v=>osl NoB (l23 : List UInt8) v),(6,fun v=>osl NoB (r27 : List UInt8) v),(7,fun v=>osl NoB (r30 : List GShare) v)] rfl (fun j=>([fun v=>v = v1_1,fun v=>v = (vI p0),fun v=>v = (vI (x5.Data.length : Int)),fun v=>True,fun v=>v = v2_1,fun v=>v = v1_1,fun v=>True,fun v=>True] : List (Value → Prop)).getD j (fun _=>True)) hE hM.drew (Xh (Ze ?_ (Ze ?_ (Ze ?_ (Ze ?_ (Ze ?_ (Ze ?_ (Ze ?_ (Ze ?_ YE))))))))) ?_
    ·intro a w ux22 D hE hM hD hp
     have hM0:=hM
     exact Zd hE Za ld rfl fun a hE=>⟨_,_,rfl,hE,rfl,hM0.optKeep rfl⟩
    ·intro a w ux22 D hE hM hD hp
     have hM0:=hM
     exact Zd hE Za ld rfl fun a hE=>⟨_,_,rfl,hE,rfl,hM0.optKeep rfl⟩
    ·intro a w ux22 D hE hM hD hp
     have hM0:=hM
     exact Zd hE Za ld rfl fun a hE=>⟨_,_,rfl,hE,rfl,hM0.optKeep rfl⟩
    ·intro a w ux22 D hE hM hD hp
     have f2 : ux22 2 = (vI (x5.Data.length : Int)):=(hp 0 _ rfl rfl).2
     have hM0:=hM
     have hM : M (Old w0) w0 w [opt (D 3) (osl NoB (l23 : List UInt8) (ux22 3)),opt (D 6) (osl NoB (r27 : List UInt8) (ux22 6)),opt (D 7) (osl NoB (r30 : List GShare) (ux22 7))]:=hM
     exact Tv hE hM Za ld (lk rfl f2) (lk rfl f2) Try.underlying22 ty5 rfl (by decide) (fun _=>Tg.2 ⟨rfl,rfl⟩) e24 fun u25 w a hM hE=>⟨_,_,rfl,hE,trivial,M.optFill (mk1:=[]) (mk2:=[_,_]) (f:=(fun v=>osl NoB (l23 : List UInt8) v)) hM rfl hD⟩
    ·intro a w ux22 D hE hM hD hp
     have hM0:=hM
     exact Zd hE Za ld rfl fun a hE=>⟨_,_,rfl,hE,rfl,hM0.optKeep rfl⟩
    ·intro a w ux22 D hE hM hD hp
     have hM0:=hM
     exact Zd hE Za ld rfl fun a hE=>⟨_,_,rfl,hE,rfl,hM0.optKeep rfl⟩
    ·intro a w ux22 D hE hM hD hp
     have f5 : ux22 5 = v1_1:=(hp 0 _ rfl rfl).2
     have hM0:=hM
     have hM : M (Old w0) w0 w [opt (D 3) (osl NoB (l23 : List UInt8) (ux22 3)),opt (D 6) (osl NoB (r27 : List UInt8) (ux22 6)),opt (D 7) (osl NoB (r30 : List GShare) (ux22 7))]:=hM
     refine Zu hE Za ld (WP (WR (lk rfl f5) U9)) cb62 (Vg _ p1 v1_1 (hM.rdo hv1_1) r27 e28) ?_
     rintro _ w a ⟨_,rfl,hFr,hK⟩ hE
     have hM:=hM0.add hK hFr
     exact ⟨_,_,rfl,hE,trivial,M.optFill (mk1:=[_]) (mk2:=[_]) (f:=(fun v=>osl NoB (r27 : List UInt8) v)) hM rfl hD⟩
    ·intro a w ux22 D hE hM hD hp
     have f1 : ux22 1 = (vI p0):=(hp 0 _ rfl rfl).2
     have d3:=(hp 1 _ rfl rfl).1
     have f4 : ux22 4 = v2_1:=(hp 2 _ rfl rfl).2
     have d6:=(hp 3 _ rfl rfl).1
     have hM0:=hM
     have hM : M (Old w0) w0 w [opt (D 3) (osl NoB (l23 : List UInt8) (ux22 3)),opt (D 6) (osl NoB (r27 : List UInt8) (ux22 6)),opt (D 7) (osl NoB (r30 : List GShare) (ux22 7))]:=hM
     have hM:=(hM.sure (pre:=[]) d3).sure (pre:=[_]) d6
     refine Zu hE Za ld (WP (WR (lk rfl f1) (WR rfl (WR (lk rfl f4) (WR rfl U9))))) cb52 (VQ _ p0 l23 (ux22 3) (hM.sl (pre:=[]) noB) p2 v2_1 (hM.rdo hv2_1) r27 (ux22 6) (hM.sl (pre:=[_]) noB) r30 e31) ?_
     rintro _ w a ⟨_,rfl,hFr,hK⟩ hE
     have hM:=hM0.add hK hFr
     exact ⟨_,_,rfl,hE,trivial,M.optFill (mk1:=[_,_]) (mk2:=[]) (f:=(fun v=>osl NoB (r30 : List GShare) v)) hM rfl hD⟩
    ·intro a w ux22 hE hM hg
     have hM : M (Old w0) w0 w [osl NoB (l23 : List UInt8) (ux22 3),osl NoB (r27 : List UInt8) (ux22 6),osl NoB (r30 : List GShare) (ux22 7)]:=hM
     have hE:=hE.sub (e':=[(25,v1_1),(28,(ux22 3)),(31,(ux22 6)),(32,(ux22 7)),(6,(Value.slice none 0 0)),(7,vI 0)]) ⟨lk rfl (hg 0 (by decide)),rfl,rfl,rfl,rfl,rfl,trivial⟩
     obtain ⟨r33,e34,hl18⟩:=bind_some hl18
     refine Zu hE Za ld rfl cb61 (T8 _ p1 v1_1 (hM.rdo hv1_1) r30 (ux22 7) (hM.sl (pre:=[_,_]) noB) r33 e34) ?_
     rintro u35 w a ⟨_,rfl,hFr,hK⟩ hE
     have hM:=hM.add hK hFr
     refine Zc hE Za ld rfl fun a hE=>Zc hE Za ld rfl fun a hE=>Zi ?_
     have ht36:=Option.some.inj hl18
     subst ht36
     refine Zk ?_
     have hM:=M.fst (l:=[_]) hM
     exact ⟨u35,hE.sub ⟨rfl,rfl,trivial⟩,hM⟩
   ·skip
    rintro a w ⟨u20,hE,hM⟩
    have hr:=Option.some.inj hF19
    subst hr
    exact wp_ret (UZ hE rfl (Zg hE rfl) (Zg hE rfl) ⟨_,rfl,u20,rfl,hM.outF (Wr Ws),hM.kept⟩)
def X9 (p0 : (List UInt8)) (p1 : (List UInt8)) (s6 : Int) : Option (Fl Int (Fl Unit Bool)) :=
 if (decide (s6 < (p0.length : Int))) = true then (((idx p0 s6).bind fun x15=>(idx p1 s6).bind fun x18=>some (x15 != x18) : Option (Bool)).bind fun j11=>if j11 = true then (some (Fl.ex (Fl.ex false))) else (some (Fl.nx (wr (s6 + 1))))) else (some (Fl.ex (Fl.nx ())))
def YH (p0 : (List UInt8)) (p1 : (List UInt8)) : Option (Bool) :=
 if ((p0.length : Int) != (p1.length : Int)) = true then (some false) else ((ZB (X9 p0 p1) 0).bind fun j2=>j2.el (fun s5=>some true) (fun r=>some r))
theorem Vy (w0 : World) (p0 : (List UInt8)) (v0_1 : Value) (hv0_1 : Ro w0 p0 [v0_1]) (p1 : (List UInt8)) (v1_1 : Value) (hv1_1 : Ro w0 p1 [v1_1]) (r : Bool) (hF : YH p0 p1 = some r) :
  Calls Try.prog 14 [v0_1,v1_1].toArray w0 (fun en w'=>∃ v,en = .returned v ∧ (v = (vT r) ∧ Kept (Old w0) w0 w')):=by
 refine Zv (n:=26) Try.func14 rfl rfl (nbl rfl) rfl ?_
 intro a hE
 have hM:=M.start w0
 unfold YH at hF
 refine Zb (Zc hE Za ld rfl fun a hE=>Zf (wp_seq (Zb (Zd hE Za ld rfl fun a hE=>ZF hE Za ld rfl Try.underlying22 (hM.rd hv0_1) fun a hE=>Zd hE Za ld rfl fun a hE=>ZF hE Za ld rfl Try.underlying22 (hM.rd hv1_1) fun a hE=>Zh hE Za ld rfl rfl rfl fun a hE=>Zf ?_))))
 refine Zm hE rfl ?_ ?_
 ·intro hb1
  have hF:=Zr hF hb1
  refine Zb (Zc hE Za ld rfl fun a hE=>Zf ?_)
  have hr:=Option.some.inj hF
  subst hr
  exact wp_ret (Zj (Zl hE rfl (Zg hE rfl) ⟨_,rfl,rfl,hM.kept⟩))
 ·intro hb1
  have hF:=Zs hF hb1
  refine wp_skip (Zt (wp_seq (Zb (Zc hE Za ld rfl fun a hE=>Zf ?_))))
  obtain ⟨j2,hl3,hF4⟩:=bind_some hF
  refine ZS (fun a w=>∃ s5 : Unit,j2 = Fl.nx s5 ∧ Env 26 a [] ∧ M (Old w0) w0 w []) ?_ ?_
  ·skip
   refine wp_block ?_
   refine ZG (fun (s6 : Int) a w=>Env 26 a [(0,v0_1),(1,v1_1),(5,vI s6)] ∧ M (Old w0) w0 w []) hl3 ⟨hE.sub ⟨rfl,rfl,rfl,trivial⟩,hM⟩ ?_
   rintro s6 a w ⟨hE,hM⟩ o9 hs7 hx8
   unfold X9 at hs7
   refine wp_seq (Zb (Zd hE Za ld rfl fun a hE=>Zd hE Za ld rfl fun a hE=>ZF hE Za ld rfl Try.underlying22 (hM.rd hv0_1) fun a hE=>Zh hE Za ld rfl rfl rfl fun a hE=>Zf ?_))
   refine Zm hE rfl ?_ ?_
   ·intro hb10
    have hs7:=Zr hs7 hb10
    refine wp_skip (Zt (wp_seq (wp_block ?_)))
    obtain ⟨j11,hl12,hF13⟩:=bind_some hs7
    refine Ye (fun a w=>Env 26 a [(0,v0_1),(1,v1_1),(5,vI s6),(25,vT j11)] ∧ M (Old w0) w0 w []) ?_ ?_
    ·skip
     obtain ⟨x15,hi17,hl12⟩:=bix hl12
     obtain ⟨x18,hi20,hl12⟩:=bix hl12
     refine Vx (n:=26) (hd:=[_,_,_,_,_,_,_,_,_]) (tl:=[]) Uo rfl rfl [17,18,19,20,21,22,23,24,25] (by decide) (fun w=>M (Old w0) w0 w []) (fun j=>([fun v _=>v = v0_1,fun v _=>v = (vI s6),fun v _=>v = (ptr (sb v0_1) (so v0_1 + (s6).toNat * 1)),fun v _=>v = (vB x15),fun v _=>v = v1_1,fun v _=>v = (vI s6),fun v _=>v = (ptr (sb v1_1) (so v1_1 + (s6).toNat * 1)),fun v _=>v = (vB x18),fun v _=>v = (vT (x15 != x18))] : List (Value → World → Prop)).getD j (fun _ _=>True)) (fun _ _ h hk=>h.keep hk) (gup (ZL (ZL (ZL (ZL (ZL (ZL (ZL (ZL (ZL Qy)))))))))) hE hM.drew (Xh (Ze ?_ (Ze ?_ (Ze ?_ (Ze ?_ (Ze ?_ (Ze ?_ (Ze ?_ (Ze ?_ (Ze ?_ YE)))))))))) ?_
     ·exact fun a w ux14 hE hM hp=>Zd hE Za ld rfl fun a hE=>⟨Kept.refl _ _,_,_,rfl,hE,rfl⟩
     ·exact fun a w ux14 hE hM hp=>Zd hE Za ld rfl fun a hE=>⟨Kept.refl _ _,_,_,rfl,hE,rfl⟩
     ·intro a w ux14 hE hM hp
      have f0 : ux14 0 = v0_1:=hp 0 _ rfl rfl
      have f1 : ux14 1 = (vI s6):=hp 1 _ rfl rfl
      exact Zo hE Za ld (lk rfl f0) (lk rfl f1) Try.underlying22 ty5 (hM.rd hv0_1) hi17.1 fun a hE=>⟨Kept.refl _ _,_,_,rfl,hE,rfl⟩
     ·intro a w ux14 hE hM hp
      have f2 : ux14 2 = (ptr (sb v0_1) (so v0_1 + (s6).toNat * 1)):=hp 0 _ rfl rfl
      exact Zy (v:=(vB x15)) hE Za ld (lk rfl f2) ty5 rfl (Xr (hM.rd hv0_1) hi17.2) fun a hE=>⟨Kept.refl _ _,_,_,rfl,hE,rfl⟩
     ·exact fun a w ux14 hE hM hp=>Zd hE Za ld rfl fun a hE=>⟨Kept.refl _ _,_,_,rfl,hE,rfl⟩
     ·exact fun a w ux14 hE hM hp=>Zd hE Za ld rfl fun a hE=>⟨Kept.refl _ _,_,_,rfl,hE,rfl⟩
     ·intro a w ux14 hE hM hp
      have f4 : ux14 4 = v1_1:=hp 0 _ rfl rfl
      have f5 : ux14 5 = (vI s6):=hp 1 _ rfl rfl
      exact Zo hE Za ld (lk rfl f4) (lk rfl f5) Try.underlying22 ty5 (hM.rd hv1_1) hi20.1 fun a hE=>⟨Kept.refl _ _,_,_,rfl,hE,rfl⟩
     ·intro a w ux14 hE hM hp
      have f6 : ux14 6 = (ptr (sb v1_1) (so v1_1 + (s6).toNat * 1)):=hp 0 _ rfl rfl
      exact Zy (v:=(vB x18)) hE Za ld (lk rfl f6) ty5 rfl (Xr (hM.rd hv1_1) hi20.2) fun a hE=>⟨Kept.refl _ _,_,_,rfl,hE,rfl⟩
     ·intro a w ux14 hE hM hp
      have f3 : ux14 3 = (vB x15):=hp 0 _ rfl rfl
      have f7 : ux14 7 = (vB x18):=hp 1 _ rfl rfl
      exact Zh hE Za ld (lk rfl f3) (lk rfl f7) (Um x15 x18) fun a hE=>⟨Kept.refl _ _,_,_,rfl,hE,rfl⟩
     ·intro a w ux14 hE hM hg
      have hE:=hE.sub (e':=[(25,(vT (x15 != x18))),(0,v0_1),(1,v1_1),(5,vI s6),(11,vI s6),(12,v0_1),(13,(vI (p0.length : Int))),(14,(vT (decide (s6 < (p0.length : Int)))))]) ⟨lk rfl (hg 8 (by decide)),rfl,rfl,rfl,rfl,rfl,rfl,rfl,trivial⟩
      refine Zi ?_
      have ht21:=Option.some.inj hl12
      subst ht21
      refine Zk ?_
      exact ⟨hE.sub ⟨rfl,rfl,rfl,rfl,trivial⟩,hM⟩
    ·skip
     rintro a w ⟨hE,hM⟩
     refine Zm hE rfl ?_ ?_
     ·intro hb22
      have hF13:=Zr hF13 hb22
      refine Zb (Zc hE Za ld rfl fun a hE=>Zf ?_)
      have ht23:=hx8 _ (ois hF13)
      subst ht23
      have hr:=Option.some.inj hF4
      subst hr
      exact wp_ret (Z5 (Zj (Zj (Z5 (Zj (Zj (Zl hE rfl (Zg hE rfl) ⟨_,rfl,rfl,hM.kept⟩)))))))
     ·intro hb22
      have hF13:=Zs hF13 hb22
      refine wp_skip (Y0 (Zt (wp_region_lit (Zd hE Za ld rfl fun a hE=>Zh hE Za ld rfl rfl rfl fun a hE=>Zc hE Za ld rfl fun a hE=>Zi (Zk ?_)))))
      exact ⟨_,(ois hF13),hE.sub ⟨rfl,rfl,rfl,trivial⟩,hM⟩
   ·intro hb10
    have hs7:=Zs hs7 hb10
    refine wp_exit (Zp (Zp (Y7 ?_)))
    have ht24:=hx8 _ (ois hs7)
    subst ht24
    refine Zk ?_
    exact ⟨(),rfl,hE.sub trivial,hM⟩
  ·skip
   rintro a w ⟨s5,ht,hE,hM⟩
   subst ht
   have hF4:=Wk hF4
   refine Zt (Zb (Zc hE Za ld rfl fun a hE=>Zf ?_))
   have hr:=Option.some.inj hF4
   subst hr
   exact wp_ret (Zl hE rfl (Zg hE rfl) ⟨_,rfl,rfl,hM.kept⟩)
def Xj (p0 : GShare) (p1 : GShare) : Option (Bool) :=
 if (p0.Place != p1.Place) = true then (some false) else ((YH p0.Data p1.Data).bind fun r6=>if (!r6) = true then (some false) else (some true))
theorem Tf (w0 : World) (p0 : GShare) (v0_1 : Value) (hv0_1 : Ro w0 p0.Data [v0_1]) (p1 : GShare) (v1_1 : Value) (hv1_1 : Ro w0 p1.Data [v1_1]) (r : Bool) (hF : Xj p0 p1 = some r) :
  Calls Try.prog 53 [(Value.agg (cat [[vB p0.Place],[v0_1]]).toArray),(Value.agg (cat [[vB p1.Place],[v1_1]]).toArray)].toArray w0 (fun en w'=>∃ v,en = .returned v ∧ (v = (vT r) ∧ Kept (Old w0) w0 w')):=by
 refine Zv (n:=16) Try.func53 rfl rfl (nbl rfl) rfl ?_
 intro a hE
 have hM:=M.start w0
 unfold Xj at hF
 refine Zb (VK (cs:=cat [[vB p0.Place],[v0_1]]) hE hM Za ld rfl rfl fun b1 w a hM hE=>VK (cs:=cat [[vB p1.Place],[v1_1]]) hE hM Za ld rfl rfl fun b3 w a hM hE=>Zc hE Za ld rfl fun a hE=>Zf (wp_seq (Zb (Zn hE Za ld rfl (Wx) fun a hE=>Zy (v:=(vB p0.Place)) hE Za ld rfl ty5 rfl (At.cat (pre:=[]) (hM.rawAt (pre:=[_])) cl0) fun a hE=>Zn hE Za ld rfl (Wx) fun a hE=>Zy (v:=(vB p1.Place)) hE Za ld rfl ty5 rfl (At.cat (pre:=[]) (hM.rawAt (pre:=[])) cl0) fun a hE=>Zh hE Za ld rfl rfl (Um p0.Place p1.Place) fun a hE=>Zf ?_))))
 refine Zm hE rfl ?_ ?_
 ·intro hb5
  have hF:=Zr hF hb5
  refine Zb (Zc hE Za ld rfl fun a hE=>Zf ?_)
  have hr:=Option.some.inj hF
  subst hr
  have hM:=M.fst (l:=[]) hM
  exact wp_ret (Zj (Zl hE rfl (Zg hE rfl) ⟨_,rfl,rfl,hM.kept⟩))
 ·intro hb5
  have hF:=Zs hF hb5
  refine wp_skip (Zt (wp_seq (Zb (Zn hE Za ld rfl (Yr) fun a hE=>Zy (v:=v0_1) hE Za ld rfl Yv rfl (At.cat (pre:=[[vB p0.Place]]) (hM.rawAt (pre:=[_])) (cl1 (n:=1) (m:=0) rfl cl0)) fun a hE=>Zn hE Za ld rfl (Yr) fun a hE=>Zy (v:=v1_1) hE Za ld rfl Yv rfl (At.cat (pre:=[[vB p1.Place]]) (hM.rawAt (pre:=[])) (cl1 (n:=1) (m:=0) rfl cl0)) ?_)))); intro a hE
  obtain ⟨r6,e7,hF⟩:=bind_some hF
  refine Zu hE Za ld rfl cb14 (Vy _ p0.Data v0_1 (hM.rdo hv0_1) p1.Data v1_1 (hM.rdo hv1_1) r6 e7) ?_
  rintro v w a ⟨rfl,hK⟩ hE
  have hM:=hM.keep hK
  refine Xt hE Za ld rfl fun a hE=>Zf ?_
  refine Zm hE rfl ?_ ?_
  ·intro hb8
   have hF:=Zr hF hb8
   refine Zb (Zc hE Za ld rfl fun a hE=>Zf ?_)
   have hr:=Option.some.inj hF
   subst hr
   have hM:=M.fst (l:=[]) hM
   exact wp_ret (Zj (Zl hE rfl (Zg hE rfl) ⟨_,rfl,rfl,hM.kept⟩))
  ·intro hb8
   have hF:=Zs hF hb8
   refine wp_skip (Zt (Zb (Zc hE Za ld rfl fun a hE=>Zf ?_)))
   have hr:=Option.some.inj hF
   subst hr
   have hM:=M.fst (l:=[]) hM
   exact wp_ret (Zl hE rfl (Zg hE rfl) ⟨_,rfl,rfl,hM.kept⟩)
def XT (p0 : (List GShare)) (p1 : (List GShare)) (s6 : Int) : Option (Fl Int (Fl Unit Bool)) :=
 if (decide (s6 < (p0.length : Int))) = true then (((idx p0 s6).bind fun x15=>(idx p1 s6).bind fun x23=>(Xj x15 x23).bind fun r31=>some (!r31) : Option (Bool)).bind fun j11=>if j11 = true then (some (Fl.ex (Fl.ex false))) else (some (Fl.nx (wr (s6 + 1))))) else (some (Fl.ex (Fl.nx ())))
def Yd (p0 : (List GShare)) (p1 : (List GShare)) : Option (Bool) :=
 if ((p0.length : Int) != (p1.length : Int)) = true then (some false) else ((ZB (XT p0 p1) 0).bind fun j2=>j2.el (fun s5=>some true) (fun r=>some r))
theorem Wa (w0 : World) (p0 : (List GShare)) (v0_1 : Value) (hv0_1 : Ro w0 p0 [v0_1]) (p1 : (List GShare)) (v1_1 : Value) (hv1_1 : Ro w0 p1 [v1_1]) (r : Bool) (hF : Yd p0 p1 = some r) :
  Calls Try.prog 13 [v0_1,v1_1].toArray w0 (fun en w'=>∃ v,en = .returned v ∧ (v = (vT r) ∧ Kept (Old w0) w0 w')):=by
 refine Zv (n:=27) Try.func13 rfl rfl (nbl rfl) rfl ?_
 intro a hE
 have hM:=M.start w0
 unfold Yd at hF
 refine Zb (Zc hE Za ld rfl fun a hE=>Zf (wp_seq (Zb (Zd hE Za ld rfl fun a hE=>ZF hE Za ld rfl Try.underlying25 (hM.rd hv0_1) fun a hE=>Zd hE Za ld rfl fun a hE=>ZF hE Za ld rfl Try.underlying25 (hM.rd hv1_1) fun a hE=>Zh hE Za ld rfl rfl rfl fun a hE=>Zf ?_))))
 refine Zm hE rfl ?_ ?_
 ·intro hb1
  have hF:=Zr hF hb1
  refine Zb (Zc hE Za ld rfl fun a hE=>Zf ?_)
  have hr:=Option.some.inj hF
  subst hr
  exact wp_ret (Zj (Zl hE rfl (Zg hE rfl) ⟨_,rfl,rfl,hM.kept⟩))
 ·intro hb1
  have hF:=Zs hF hb1
  refine wp_skip (Zt (wp_seq (Zb (Zc hE Za ld rfl fun a hE=>Zf ?_))))
  obtain ⟨j2,hl3,hF4⟩:=bind_some hF
  refine ZS (fun a w=>∃ s5 : Unit,j2 = Fl.nx s5 ∧ Env 27 a [] ∧ M (Old w0) w0 w []) ?_ ?_
  ·skip
   refine wp_block ?_
   refine ZG (fun (s6 : Int) a w=>Env 27 a [(0,v0_1),(1,v1_1),(5,vI s6)] ∧ M (Old w0) w0 w []) hl3 ⟨hE.sub ⟨rfl,rfl,rfl,trivial⟩,hM⟩ ?_
   rintro s6 a w ⟨hE,hM⟩ o9 hs7 hx8
   unfold XT at hs7
   refine wp_seq (Zb (Zd hE Za ld rfl fun a hE=>Zd hE Za ld rfl fun a hE=>ZF hE Za ld rfl Try.underlying25 (hM.rd hv0_1) fun a hE=>Zh hE Za ld rfl rfl rfl fun a hE=>Zf ?_))
   refine Zm hE rfl ?_ ?_
   ·intro hb10
    have hs7:=Zr hs7 hb10
    refine wp_skip (Zt (wp_seq (wp_block ?_)))
    obtain ⟨j11,hl12,hF13⟩:=bind_some hs7
    refine Ye (fun a w=>Env 27 a [(0,v0_1),(1,v1_1),(5,vI s6),(26,vT j11)] ∧ M (Old w0) w0 w []) ?_ ?_
    ·skip
     obtain ⟨x15,hi17,hl12⟩:=bix hl12
     obtain ⟨cs18,hs19,hA20⟩:=ZM hv0_1 hi17.2 -- ^
     obtain ⟨u21,rfl,h22⟩:=ZJ hs19 -- ^
     obtain ⟨x23,hi25,hl12⟩:=bix hl12
     obtain ⟨cs26,hs27,hA28⟩:=ZM hv1_1 hi25.2 -- ^
     obtain ⟨u29,rfl,h30⟩:=ZJ hs27 -- ^
     obtain ⟨r31,e32,hl12⟩:=bind_some hl12
     refine Vx (n:=27) (hd:=[_,_,_,_,_,_,_,_,_,_]) (tl:=[]) Uo rfl rfl [17,18,19,20,21,22,23,24,25,26] (by decide) (fun w=>M (Old w0) w0 w []) (fun j=>([fun v _=>v = v0_1,fun v _=>v = (vI s6),fun v _=>v = (ptr (sb v0_1) (so v0_1 + (s6).toNat * 2)),fun v _=>v = (Value.agg (cat [[vB x15.Place],[u21]]).toArray),fun v _=>v = v1_1,fun v _=>v = (vI s6),fun v _=>v = (ptr (sb v1_1) (so v1_1 + (s6).toNat * 2)),fun v _=>v = (Value.agg (cat [[vB x23.Place],[u29]]).toArray),fun v _=>v = (vT r31),fun v _=>v = (vT (!r31))] : List (Value → World → Prop)).getD j (fun _ _=>True)) (fun _ _ h hk=>h.keep hk) (gup (ZL (ZL (ZL (ZL (ZL (ZL (ZL (ZL (ZL (ZL Qy))))))))))) hE hM.drew (Xh (Ze ?_ (Ze ?_ (Ze ?_ (Ze ?_ (Ze ?_ (Ze ?_ (Ze ?_ (Ze ?_ (Ze ?_ (Ze ?_ YE))))))))))) ?_
     ·exact fun a w ux14 hE hM hp=>Zd hE Za ld rfl fun a hE=>⟨Kept.refl _ _,_,_,rfl,hE,rfl⟩
     ·exact fun a w ux14 hE hM hp=>Zd hE Za ld rfl fun a hE=>⟨Kept.refl _ _,_,_,rfl,hE,rfl⟩
     ·intro a w ux14 hE hM hp
      have f0 : ux14 0 = v0_1:=hp 0 _ rfl rfl
      have f1 : ux14 1 = (vI s6):=hp 1 _ rfl rfl
      exact Zo hE Za ld (lk rfl f0) (lk rfl f1) Try.underlying25 ZR (hM.rd hv0_1) hi17.1 fun a hE=>⟨Kept.refl _ _,_,_,rfl,hE,rfl⟩
     ·intro a w ux14 hE hM hp
      have f2 : ux14 2 = (ptr (sb v0_1) (so v0_1 + (s6).toNat * 2)):=hp 0 _ rfl rfl
      exact XY (cs:=cat [[vB x15.Place],[u21]]) hE Za ld (lk rfl f2) ZR rfl (hM.atk hA20 (ZY hv0_1 hi17.2)) (ZC (cl1 (n:=1) (m:=1) rfl (cl1 (n:=1) (m:=0) rfl cl0))) fun a hE=>⟨Kept.refl _ _,_,_,rfl,hE,rfl⟩
     ·exact fun a w ux14 hE hM hp=>Zd hE Za ld rfl fun a hE=>⟨Kept.refl _ _,_,_,rfl,hE,rfl⟩
     ·exact fun a w ux14 hE hM hp=>Zd hE Za ld rfl fun a hE=>⟨Kept.refl _ _,_,_,rfl,hE,rfl⟩
     ·intro a w ux14 hE hM hp
      have f4 : ux14 4 = v1_1:=hp 0 _ rfl rfl
      have f5 : ux14 5 = (vI s6):=hp 1 _ rfl rfl
      exact Zo hE Za ld (lk rfl f4) (lk rfl f5) Try.underlying25 ZR (hM.rd hv1_1) hi25.1 fun a hE=>⟨Kept.refl _ _,_,_,rfl,hE,rfl⟩
     ·intro a w ux14 hE hM hp
      have f6 : ux14 6 = (ptr (sb v1_1) (so v1_1 + (s6).toNat * 2)):=hp 0 _ rfl rfl
      exact XY (cs:=cat [[vB x23.Place],[u29]]) hE Za ld (lk rfl f6) ZR rfl (hM.atk hA28 (ZY hv1_1 hi25.2)) (ZC (cl1 (n:=1) (m:=1) rfl (cl1 (n:=1) (m:=0) rfl cl0))) fun a hE=>⟨Kept.refl _ _,_,_,rfl,hE,rfl⟩
     ·intro a w ux14 hE hM hp
      have f3 : ux14 3 = (Value.agg (cat [[vB x15.Place],[u21]]).toArray):=hp 0 _ rfl rfl
      have f7 : ux14 7 = (Value.agg (cat [[vB x23.Place],[u29]]).toArray):=hp 1 _ rfl rfl
      refine Zu hE Za ld (WP (WR (lk rfl f3) (WR (lk rfl f7) U9))) cb53 (Tf _ x15 u21 (hM.rdo h22) x23 u29 (hM.rdo h30) r31 e32) ?_
      rintro v w a ⟨rfl,hK⟩ hE
      exact ⟨hK,_,_,rfl,hE,rfl⟩
     ·intro a w ux14 hE hM hp
      have f8 : ux14 8 = (vT r31):=hp 0 _ rfl rfl
      exact Xt hE Za ld (lk rfl f8) fun a hE=>⟨Kept.refl _ _,_,_,rfl,hE,rfl⟩
     ·intro a w ux14 hE hM hg
      have hE:=hE.sub (e':=[(26,(vT (!r31))),(0,v0_1),(1,v1_1),(5,vI s6),(11,vI s6),(12,v0_1),(13,(vI (p0.length : Int))),(14,(vT (decide (s6 < (p0.length : Int)))))]) ⟨lk rfl (hg 9 (by decide)),rfl,rfl,rfl,rfl,rfl,rfl,rfl,trivial⟩
      refine Zi ?_
      have ht33:=Option.some.inj hl12
      subst ht33
      refine Zk ?_
      exact ⟨hE.sub ⟨rfl,rfl,rfl,rfl,trivial⟩,hM⟩
    ·skip
     rintro a w ⟨hE,hM⟩
     refine Zm hE rfl ?_ ?_
     ·intro hb34
      have hF13:=Zr hF13 hb34
      refine Zb (Zc hE Za ld rfl fun a hE=>Zf ?_)
      have ht35:=hx8 _ (ois hF13)
      subst ht35
      have hr:=Option.some.inj hF4
      subst hr
      exact wp_ret (Z5 (Zj (Zj (Z5 (Zj (Zj (Zl hE rfl (Zg hE rfl) ⟨_,rfl,rfl,hM.kept⟩)))))))
     ·intro hb34
      have hF13:=Zs hF13 hb34
      refine wp_skip (Y0 (Zt (wp_region_lit (Zd hE Za ld rfl fun a hE=>Zh hE Za ld rfl rfl rfl fun a hE=>Zc hE Za ld rfl fun a hE=>Zi (Zk ?_)))))
      exact ⟨_,(ois hF13),hE.sub ⟨rfl,rfl,rfl,trivial⟩,hM⟩
   ·intro hb10
    have hs7:=Zs hs7 hb10
    refine wp_exit (Zp (Zp (Y7 ?_)))
    have ht36:=hx8 _ (ois hs7)
    subst ht36
    refine Zk ?_
    exact ⟨(),rfl,hE.sub trivial,hM⟩
  ·skip
   rintro a w ⟨s5,ht,hE,hM⟩
   subst ht
   have hF4:=Wk hF4
   refine Zt (Zb (Zc hE Za ld rfl fun a hE=>Zf ?_))
   have hr:=Option.some.inj hF4
   subst hr
   exact wp_ret (Zl hE rfl (Zg hE rfl) ⟨_,rfl,rfl,hM.kept⟩)
def XZ (p0 : (List (List UInt8))) (p1 : (List (List UInt8))) (s6 : Int) : Option (Fl Int (Fl Unit Bool)) :=
 if (decide (s6 < (p0.length : Int))) = true then (((idx p0 s6).bind fun x15=>(idx p1 s6).bind fun x23=>(YH x15 x23).bind fun r31=>some (!r31) : Option (Bool)).bind fun j11=>if j11 = true then (some (Fl.ex (Fl.ex false))) else (some (Fl.nx (wr (s6 + 1))))) else (some (Fl.ex (Fl.nx ())))
def Xy (p0 : (List (List UInt8))) (p1 : (List (List UInt8))) : Option (Bool) :=
 if ((p0.length : Int) != (p1.length : Int)) = true then (some false) else ((ZB (XZ p0 p1) 0).bind fun j2=>j2.el (fun s5=>some true) (fun r=>some r))
theorem UP (w0 : World) (p0 : (List (List UInt8))) (v0_1 : Value) (hv0_1 : Ro w0 p0 [v0_1]) (p1 : (List (List UInt8))) (v1_1 : Value) (hv1_1 : Ro w0 p1 [v1_1]) (r : Bool) (hF : Xy p0 p1 = some r) :
  Calls Try.prog 15 [v0_1,v1_1].toArray w0 (fun en w'=>∃ v,en = .returned v ∧ (v = (vT r) ∧ Kept (Old w0) w0 w')):=by
 refine Zv (n:=27) Try.func15 rfl rfl (nbl rfl) rfl ?_
 intro a hE
 have hM:=M.start w0
 unfold Xy at hF
 refine Zb (Zc hE Za ld rfl fun a hE=>Zf (wp_seq (Zb (Zd hE Za ld rfl fun a hE=>ZF hE Za ld rfl Try.underlying23 (hM.rd hv0_1) fun a hE=>Zd hE Za ld rfl fun a hE=>ZF hE Za ld rfl Try.underlying23 (hM.rd hv1_1) fun a hE=>Zh hE Za ld rfl rfl rfl fun a hE=>Zf ?_))))
 refine Zm hE rfl ?_ ?_
 ·intro hb1
  have hF:=Zr hF hb1
  refine Zb (Zc hE Za ld rfl fun a hE=>Zf ?_)
  have hr:=Option.some.inj hF
  subst hr
  exact wp_ret (Zj (Zl hE rfl (Zg hE rfl) ⟨_,rfl,rfl,hM.kept⟩))
 ·intro hb1
  have hF:=Zs hF hb1
  refine wp_skip (Zt (wp_seq (Zb (Zc hE Za ld rfl fun a hE=>Zf ?_))))
  obtain ⟨j2,hl3,hF4⟩:=bind_some hF
  refine ZS (fun a w=>∃ s5 : Unit,j2 = Fl.nx s5 ∧ Env 27 a [] ∧ M (Old w0) w0 w []) ?_ ?_
  ·skip
   refine wp_block ?_
   refine ZG (fun (s6 : Int) a w=>Env 27 a [(0,v0_1),(1,v1_1),(5,vI s6)] ∧ M (Old w0) w0 w []) hl3 ⟨hE.sub ⟨rfl,rfl,rfl,trivial⟩,hM⟩ ?_
   rintro s6 a w ⟨hE,hM⟩ o9 hs7 hx8
   unfold XZ at hs7
   refine wp_seq (Zb (Zd hE Za ld rfl fun a hE=>Zd hE Za ld rfl fun a hE=>ZF hE Za ld rfl Try.underlying23 (hM.rd hv0_1) fun a hE=>Zh hE Za ld rfl rfl rfl fun a hE=>Zf ?_))
   refine Zm hE rfl ?_ ?_
   ·intro hb10
    have hs7:=Zr hs7 hb10
    refine wp_skip (Zt (wp_seq (wp_block ?_)))
    obtain ⟨j11,hl12,hF13⟩:=bind_some hs7
    refine Ye (fun a w=>Env 27 a [(0,v0_1),(1,v1_1),(5,vI s6),(26,vT j11)] ∧ M (Old w0) w0 w []) ?_ ?_
    ·skip
     obtain ⟨x15,hi17,hl12⟩:=bix hl12
     obtain ⟨cs18,hs19,hA20⟩:=ZM hv0_1 hi17.2 -- ^
     obtain ⟨u21,rfl⟩:=WG hs19 -- ^
     have h22:=hs19 -- ^
     obtain ⟨x23,hi25,hl12⟩:=bix hl12
     obtain ⟨cs26,hs27,hA28⟩:=ZM hv1_1 hi25.2 -- ^
     obtain ⟨u29,rfl⟩:=WG hs27 -- ^
     have h30:=hs27 -- ^
     obtain ⟨r31,e32,hl12⟩:=bind_some hl12
     refine Vx (n:=27) (hd:=[_,_,_,_,_,_,_,_,_,_]) (tl:=[]) Uo rfl rfl [17,18,19,20,21,22,23,24,25,26] (by decide) (fun w=>M (Old w0) w0 w []) (fun j=>([fun v _=>v = v0_1,fun v _=>v = (vI s6),fun v _=>v = (ptr (sb v0_1) (so v0_1 + (s6).toNat * 1)),fun v _=>v = u21,fun v _=>v = v1_1,fun v _=>v = (vI s6),fun v _=>v = (ptr (sb v1_1) (so v1_1 + (s6).toNat * 1)),fun v _=>v = u29,fun v _=>v = (vT r31),fun v _=>v = (vT (!r31))] : List (Value → World → Prop)).getD j (fun _ _=>True)) (fun _ _ h hk=>h.keep hk) (gup (ZL (ZL (ZL (ZL (ZL (ZL (ZL (ZL (ZL (ZL Qy))))))))))) hE hM.drew (Xh (Ze ?_ (Ze ?_ (Ze ?_ (Ze ?_ (Ze ?_ (Ze ?_ (Ze ?_ (Ze ?_ (Ze ?_ (Ze ?_ YE))))))))))) ?_
     ·exact fun a w ux14 hE hM hp=>Zd hE Za ld rfl fun a hE=>⟨Kept.refl _ _,_,_,rfl,hE,rfl⟩
     ·exact fun a w ux14 hE hM hp=>Zd hE Za ld rfl fun a hE=>⟨Kept.refl _ _,_,_,rfl,hE,rfl⟩
     ·intro a w ux14 hE hM hp
      have f0 : ux14 0 = v0_1:=hp 0 _ rfl rfl
      have f1 : ux14 1 = (vI s6):=hp 1 _ rfl rfl
      exact Zo hE Za ld (lk rfl f0) (lk rfl f1) Try.underlying23 Yv (hM.rd hv0_1) hi17.1 fun a hE=>⟨Kept.refl _ _,_,_,rfl,hE,rfl⟩
     ·intro a w ux14 hE hM hp
      have f2 : ux14 2 = (ptr (sb v0_1) (so v0_1 + (s6).toNat * 1)):=hp 0 _ rfl rfl
      exact Zy (v:=u21) hE Za ld (lk rfl f2) Yv rfl (hM.atk hA20 (ZY hv0_1 hi17.2)) fun a hE=>⟨Kept.refl _ _,_,_,rfl,hE,rfl⟩
     ·exact fun a w ux14 hE hM hp=>Zd hE Za ld rfl fun a hE=>⟨Kept.refl _ _,_,_,rfl,hE,rfl⟩
     ·exact fun a w ux14 hE hM hp=>Zd hE Za ld rfl fun a hE=>⟨Kept.refl _ _,_,_,rfl,hE,rfl⟩
     ·intro a w ux14 hE hM hp
      have f4 : ux14 4 = v1_1:=hp 0 _ rfl rfl
      have f5 : ux14 5 = (vI s6):=hp 1 _ rfl rfl
      exact Zo hE Za ld (lk rfl f4) (lk rfl f5) Try.underlying23 Yv (hM.rd hv1_1) hi25.1 fun a hE=>⟨Kept.refl _ _,_,_,rfl,hE,rfl⟩
     ·intro a w ux14 hE hM hp
      have f6 : ux14 6 = (ptr (sb v1_1) (so v1_1 + (s6).toNat * 1)):=hp 0 _ rfl rfl
      exact Zy (v:=u29) hE Za ld (lk rfl f6) Yv rfl (hM.atk hA28 (ZY hv1_1 hi25.2)) fun a hE=>⟨Kept.refl _ _,_,_,rfl,hE,rfl⟩
     ·intro a w ux14 hE hM hp
      have f3 : ux14 3 = u21:=hp 0 _ rfl rfl
      have f7 : ux14 7 = u29:=hp 1 _ rfl rfl
      refine Zu hE Za ld (WP (WR (lk rfl f3) (WR (lk rfl f7) U9))) cb14 (Vy _ x15 u21 (hM.rdo h22) x23 u29 (hM.rdo h30) r31 e32) ?_
      rintro v w a ⟨rfl,hK⟩ hE
      exact ⟨hK,_,_,rfl,hE,rfl⟩
     ·intro a w ux14 hE hM hp
      have f8 : ux14 8 = (vT r31):=hp 0 _ rfl rfl
      exact Xt hE Za ld (lk rfl f8) fun a hE=>⟨Kept.refl _ _,_,_,rfl,hE,rfl⟩
     ·intro a w ux14 hE hM hg
      have hE:=hE.sub (e':=[(26,(vT (!r31))),(0,v0_1),(1,v1_1),(5,vI s6),(11,vI s6),(12,v0_1),(13,(vI (p0.length : Int))),(14,(vT (decide (s6 < (p0.length : Int)))))]) ⟨lk rfl (hg 9 (by decide)),rfl,rfl,rfl,rfl,rfl,rfl,rfl,trivial⟩
      refine Zi ?_
      have ht33:=Option.some.inj hl12
      subst ht33
      refine Zk ?_
      exact ⟨hE.sub ⟨rfl,rfl,rfl,rfl,trivial⟩,hM⟩
    ·skip
     rintro a w ⟨hE,hM⟩
     refine Zm hE rfl ?_ ?_
     ·intro hb34
      have hF13:=Zr hF13 hb34
      refine Zb (Zc hE Za ld rfl fun a hE=>Zf ?_)
      have ht35:=hx8 _ (ois hF13)
      subst ht35
      have hr:=Option.some.inj hF4
      subst hr
      exact wp_ret (Z5 (Zj (Zj (Z5 (Zj (Zj (Zl hE rfl (Zg hE rfl) ⟨_,rfl,rfl,hM.kept⟩)))))))
     ·intro hb34
      have hF13:=Zs hF13 hb34
      refine wp_skip (Y0 (Zt (wp_region_lit (Zd hE Za ld rfl fun a hE=>Zh hE Za ld rfl rfl rfl fun a hE=>Zc hE Za ld rfl fun a hE=>Zi (Zk ?_)))))
      exact ⟨_,(ois hF13),hE.sub ⟨rfl,rfl,rfl,trivial⟩,hM⟩
   ·intro hb10
    have hs7:=Zs hs7 hb10
    refine wp_exit (Zp (Zp (Y7 ?_)))
    have ht36:=hx8 _ (ois hs7)
    subst ht36
    refine Zk ?_
    exact ⟨(),rfl,hE.sub trivial,hM⟩
  ·skip
   rintro a w ⟨s5,ht,hE,hM⟩
   subst ht
   have hF4:=Wk hF4
   refine Zt (Zb (Zc hE Za ld rfl fun a hE=>Zf ?_))
   have hr:=Option.some.inj hF4
   subst hr
   exact wp_ret (Zl hE rfl (Zg hE rfl) ⟨_,rfl,rfl,hM.kept⟩)
def ZT (s4 : (List UInt8) × Int × Int) : Option (Fl ((List UInt8) × Int × Int) ((List UInt8) × Int)) :=
 if (decide (s4.2.2 < (s4.1.length : Int))) = true then ((idx s4.1 s4.2.2).bind fun x9=>some (Fl.nx ((s4.1.set (s4.2.2).toNat (Xa s4.2.1)),wr (s4.2.1 + 1),wr (s4.2.2 + 1)))) else (some (Fl.ex (s4.1,s4.2.1)))
def Z2 (p0 : (List UInt8)) (p1 : Int) : Option ((List UInt8) × Int) :=
 (ZB (ZT) (p0,p1,0)).bind fun j1=>some (j1.1,j1.2)
theorem W9 (St : Nat → Prop) (W w0 : World) (its : List Item) (p0 : (List UInt8)) (v0_1 : Value) (p1 : Int) (hM : M St W w0 (own NoB (p0 : (List UInt8)) [v0_1] :: its)) (r : (List UInt8) × Int) (hF : Z2 p0 p1 = some r) :
  Calls Try.prog 16 [v0_1,vI p1].toArray w0 (fun en w'=>∃ v,en = .returned v ∧ (v = (vI r.2) ∧ M St W w' (own NoB (r.1 : (List UInt8)) [v0_1] :: its))):=by
 refine Zv (n:=20) Try.func16 rfl rfl (nbl rfl) rfl ?_
 intro a hE
 unfold Z2 at hF
 refine Zb (Zc hE Za ld rfl fun a hE=>Zf (wp_seq (Zb (Zc hE Za ld rfl fun a hE=>Zf ?_))))
 obtain ⟨j1,hl2,hF3⟩:=bind_some hF
 refine ZS (fun a w=>Env 20 a [(0,v0_1),(1,vI j1.2)] ∧ M St W w (own NoB (j1.1 : (List UInt8)) [v0_1] :: its)) ?_ ?_
 ·skip
  refine wp_block ?_
  refine ZG (fun (s4 : (List UInt8) × Int × Int) a w=>Env 20 a [(0,v0_1),(1,vI s4.2.1),(5,vI s4.2.2)] ∧ M St W w (own NoB (s4.1 : (List UInt8)) [v0_1] :: its)) hl2 ⟨hE.sub ⟨rfl,rfl,rfl,trivial⟩,hM⟩ ?_
  rintro s4 a w ⟨hE,hM⟩ o7 hs5 hx6
  unfold ZT at hs5
  refine wp_seq (Zb (Zd hE Za ld rfl fun a hE=>Zd hE Za ld rfl fun a hE=>ZF hE Za ld rfl Try.underlying22 (hM.ro (pre:=[]) noB) fun a hE=>Zh hE Za ld rfl rfl rfl fun a hE=>Zf ?_))
  refine Zm hE rfl ?_ ?_
  ·intro hb8
   have hs5:=Zr hs5 hb8
   refine wp_skip (Zt (wp_seq (wp_block (Zb (Zd hE Za ld rfl fun a hE=>Zd hE Za ld rfl fun a hE=>Zd hE Za ld rfl fun a hE=>WX hE Za ld rfl Try.underlying3 Try.underlying5 ?_))))); intro a hE
   rw [Wn] at hE
   obtain ⟨x9,hi11,hs5⟩:=bix hs5
   refine Zo hE Za ld rfl rfl Try.underlying22 ty5 (hM.ro (pre:=[]) noB) hi11.1 ?_; intro a hE
   have hM:=hM.toOsl (List.getElem?_eq_some_iff.1 hi11.2).1
   refine Tx (i:=(s4.2.2).toNat) (k0:=0) (seg:=[(vB (Xa s4.2.1))]) (xo:=x9) (xn:=Xa s4.2.1) hE hM Za rfl rfl rfl ty5 rfl (Flat.cell (Xa s4.2.1 : UInt8)) hi11.2 (UT (m:=1) rfl (by decide)) (Y8 rfl) ?_; intro w a hM hE
   have hM:=hM.toOwn noB
   refine Zf (wp_region_lit (Zd hE Za ld rfl fun a hE=>Zh hE Za ld rfl rfl rfl fun a hE=>Zc hE Za ld rfl fun a hE=>Zi (Y0 (Zt (wp_region_lit (Zd hE Za ld rfl fun a hE=>Zh hE Za ld rfl rfl rfl fun a hE=>Zc hE Za ld rfl fun a hE=>Zi (Zk ?_)))))))
   exact ⟨_,(ois hs5),hE.sub ⟨rfl,rfl,rfl,trivial⟩,hM⟩
  ·intro hb8
   have hs5:=Zs hs5 hb8
   refine wp_exit (Zp (Zp (Y7 ?_)))
   have ht12:=hx6 _ (ois hs5)
   subst ht12
   refine Zk ?_
   exact ⟨hE.sub ⟨rfl,rfl,trivial⟩,hM⟩
 ·skip
  rintro a w ⟨hE,hM⟩
  refine Zt (Zb (Zd hE Za ld rfl fun a hE=>Zc hE Za ld rfl fun a hE=>Zf ?_))
  have hr:=Option.some.inj hF3
  subst hr
  exact wp_ret (Zl hE (by rfl) (Zg hE rfl) ⟨_,rfl,rfl,hM⟩)
def ZP (s4 : (List GShare) × Int × Int) : Option (Fl ((List GShare) × Int × Int) ((List GShare) × Int)) :=
 if (decide (s4.2.2 < (s4.1.length : Int))) = true then ((idx s4.1 s4.2.2).bind fun x9=>(idx (s4.1.set (s4.2.2).toNat (⟨Xa s4.2.1,x9.Data⟩ : GShare)) s4.2.2).bind fun x12=>(Z2 x12.Data (wr (s4.2.1 + 1))).bind fun r19=>some (Fl.nx (((s4.1.set (s4.2.2).toNat (⟨Xa s4.2.1,x9.Data⟩ : GShare)).set (s4.2.2).toNat (⟨x12.Place,r19.1⟩ : GShare)),r19.2,wr (s4.2.2 + 1)))) else (some (Fl.ex (s4.1,s4.2.1)))
def ZU (p0 : (List GShare)) (p1 : Int) : Option ((List GShare) × Int) :=
 (ZB (ZP) (p0,p1,0)).bind fun j1=>some (j1.1,j1.2)
theorem WT (St : Nat → Prop) (W w0 : World) (its : List Item) (p0 : (List GShare)) (v0_1 : Value) (p1 : Int) (hM : M St W w0 (own NoB (p0 : (List GShare)) [v0_1] :: its)) (r : (List GShare) × Int) (hF : ZU p0 p1 = some r) :
  Calls Try.prog 18 [v0_1,vI p1].toArray w0 (fun en w'=>∃ v,en = .returned v ∧ (v = (vI r.2) ∧ M St W w' (own NoB (r.1 : (List GShare)) [v0_1] :: its))):=by
 refine Zv (n:=28) Try.func18 rfl rfl (nbl rfl) rfl ?_
 intro a hE
 unfold ZU at hF
 refine Zb (Zc hE Za ld rfl fun a hE=>Zf (wp_seq (Zb (Zc hE Za ld rfl fun a hE=>Zf ?_))))
 obtain ⟨j1,hl2,hF3⟩:=bind_some hF
 refine ZS (fun a w=>Env 28 a [(0,v0_1),(1,vI j1.2)] ∧ M St W w (own NoB (j1.1 : (List GShare)) [v0_1] :: its)) ?_ ?_
 ·skip
  refine wp_block ?_
  refine ZG (fun (s4 : (List GShare) × Int × Int) a w=>Env 28 a [(0,v0_1),(1,vI s4.2.1),(5,vI s4.2.2)] ∧ M St W w (own NoB (s4.1 : (List GShare)) [v0_1] :: its)) hl2 ⟨hE.sub ⟨rfl,rfl,rfl,trivial⟩,hM⟩ ?_
  rintro s4 a w ⟨hE,hM⟩ o7 hs5 hx6
  unfold ZP at hs5
  refine wp_seq (Zb (Zd hE Za ld rfl fun a hE=>Zd hE Za ld rfl fun a hE=>ZF hE Za ld rfl Try.underlying25 (hM.ro (pre:=[]) noB) fun a hE=>Zh hE Za ld rfl rfl rfl fun a hE=>Zf ?_))
  refine Zm hE rfl ?_ ?_
  ·intro hb8
   have hs5:=Zr hs5 hb8
   refine wp_skip (Zt (wp_seq (wp_block (Zb (Zd hE Za ld rfl fun a hE=>Zd hE Za ld rfl fun a hE=>Zd hE Za ld rfl fun a hE=>WX hE Za ld rfl Try.underlying3 Try.underlying5 ?_))))); intro a hE
   rw [Wn] at hE
   obtain ⟨x9,hi11,hs5⟩:=bix hs5
   refine Zo hE Za ld rfl rfl Try.underlying25 ZR (hM.ro (pre:=[]) noB) hi11.1 fun a hE=>Zn hE Za ld rfl (Wx) ?_; intro a hE
   have hM:=hM.toOsl (List.getElem?_eq_some_iff.1 hi11.2).1
   refine KD (i:=(s4.2.2).toNat) (k0:=0 + 0) (seg:=[(vB (Xa s4.2.1))]) (xo:=x9) (xn:=(⟨Xa s4.2.1,x9.Data⟩ : GShare)) hE hM noB Za rfl rfl rfl ty5 rfl (Flat.cell (Xa s4.2.1 : UInt8)) hi11.2 (UT (m:=1) rfl (by decide)) (fun S w cs f h=>by obtain ⟨y1,_,rfl,rfl,s1⟩:=VY h; exact KI (Wb (pre:=[]) cl0 rfl) (Wc s1 (by simp))) ?_; intro w a hM hE
   have hM:=hM.toOwn noB
   refine Zf (Zb (Zd hE Za ld rfl fun a hE=>Zh hE Za ld rfl rfl rfl fun a hE=>Zc hE Za ld rfl fun a hE=>Zf (wp_region_lit (Zd hE Za ld rfl fun a hE=>Zd hE Za ld rfl ?_)))); intro a hE
   obtain ⟨x12,hi14,hs5⟩:=bix hs5
   refine Zo hE Za ld rfl rfl Try.underlying25 ZR (hM.ro (pre:=[]) noB) hi14.1 fun a hE=>Zn hE Za ld rfl (Yr) ?_; intro a hE
   have hM:=(hM.toOsl (List.getElem?_eq_some_iff.1 hi14.2).1).open1 noB hi14.2
   obtain ⟨cs15,hM,hA16⟩:=hM
   obtain ⟨_,hx,_⟩:=hM.head
   obtain ⟨u17,_,rfl,_,_⟩:=VY hx
   have hM:=hM.unpackL (m:=[own NoB (x12.Data : (List UInt8)) [u17]]) (fun fp h=>by obtain ⟨_,rfl,s1⟩:=QK h; exact YF.one (Wq noB) s1)
   simp only [List.cons_append,List.nil_append] at hM
   refine Zy (v:=u17) hE Za ld rfl Yv rfl (At.cat (pre:=[[vB x12.Place]]) hA16 (cl1 (n:=1) (m:=0) rfl cl0)) fun a hE=>Zd hE Za ld rfl ?_; intro a hE
   obtain ⟨r19,e20,hs5⟩:=bind_some hs5
   refine Zu hE Za ld rfl cb16 (W9 _ _ _ _ x12.Data u17 (wr (s4.2.1 + 1)) hM r19 e20) ?_
   rintro v w a ⟨rfl,hM⟩ hE
   have hM:=(hM.pull (pre:=[_])).pull (pre:=[_])
   have hM:=((hM.packL (m:=[own NoB (r19.1 : (List UInt8)) [u17]]) (it:=own NoB (⟨x12.Place,r19.1⟩ : GShare) (cat [[vB x12.Place],[u17]])) (Wq noB) (fun fp h=>by obtain ⟨_,_,rfl,_,s1,rfl⟩:=h; exact Wc s1 (by simp))).close1 noB).toOwn noB
   refine Zc hE Za ld rfl fun a hE=>Zi (Y0 (Zt (wp_region_lit (Zd hE Za ld rfl fun a hE=>Zh hE Za ld rfl rfl rfl fun a hE=>Zc hE Za ld rfl fun a hE=>Zi (Zk ?_)))))
   exact ⟨_,(ois hs5),hE.sub ⟨rfl,rfl,rfl,trivial⟩,hM⟩
  ·intro hb8
   have hs5:=Zs hs5 hb8
   refine wp_exit (Zp (Zp (Y7 ?_)))
   have ht21:=hx6 _ (ois hs5)
   subst ht21
   refine Zk ?_
   exact ⟨hE.sub ⟨rfl,rfl,trivial⟩,hM⟩
 ·skip
  rintro a w ⟨hE,hM⟩
  refine Zt (Zb (Zd hE Za ld rfl fun a hE=>Zc hE Za ld rfl fun a hE=>Zf ?_))
  have hr:=Option.some.inj hF3
  subst hr
  exact wp_ret (Zl hE (by rfl) (Zg hE rfl) ⟨_,rfl,rfl,hM⟩)
def YK (s4 : (List (List UInt8)) × Int × Int) : Option (Fl ((List (List UInt8)) × Int × Int) ((List (List UInt8)) × Int)) :=
 if (decide (s4.2.2 < (s4.1.length : Int))) = true then ((idx s4.1 s4.2.2).bind fun x9=>(Z2 x9 s4.2.1).bind fun r16=>some (Fl.nx ((s4.1.set (s4.2.2).toNat r16.1),r16.2,wr (s4.2.2 + 1)))) else (some (Fl.ex (s4.1,s4.2.1)))
def Y4 (p0 : (List (List UInt8))) (p1 : Int) : Option ((List (List UInt8)) × Int) :=
 (ZB (YK) (p0,p1,0)).bind fun j1=>some (j1.1,j1.2)
theorem Ub (St : Nat → Prop) (W w0 : World) (its : List Item) (p0 : (List (List UInt8))) (v0_1 : Value) (p1 : Int) (hM : M St W w0 (own NoB (p0 : (List (List UInt8))) [v0_1] :: its)) (r : (List (List UInt8)) × Int) (hF : Y4 p0 p1 = some r) :
  Calls Try.prog 17 [v0_1,vI p1].toArray w0 (fun en w'=>∃ v,en = .returned v ∧ (v = (vI r.2) ∧ M St W w' (own NoB (r.1 : (List (List UInt8))) [v0_1] :: its))):=by
 refine Zv (n:=19) Try.func17 rfl rfl (nbl rfl) rfl ?_
 intro a hE
 unfold Y4 at hF
 refine Zb (Zc hE Za ld rfl fun a hE=>Zf (wp_seq (Zb (Zc hE Za ld rfl fun a hE=>Zf ?_))))
 obtain ⟨j1,hl2,hF3⟩:=bind_some hF
 refine ZS (fun a w=>Env 19 a [(0,v0_1),(1,vI j1.2)] ∧ M St W w (own NoB (j1.1 : (List (List UInt8))) [v0_1] :: its)) ?_ ?_
 ·skip
  refine wp_block ?_
  refine ZG (fun (s4 : (List (List UInt8)) × Int × Int) a w=>Env 19 a [(0,v0_1),(1,vI s4.2.1),(5,vI s4.2.2)] ∧ M St W w (own NoB (s4.1 : (List (List UInt8))) [v0_1] :: its)) hl2 ⟨hE.sub ⟨rfl,rfl,rfl,trivial⟩,hM⟩ ?_
  rintro s4 a w ⟨hE,hM⟩ o7 hs5 hx6
  unfold YK at hs5
  refine wp_seq (Zb (Zd hE Za ld rfl fun a hE=>Zd hE Za ld rfl fun a hE=>ZF hE Za ld rfl Try.underlying23 (hM.ro (pre:=[]) noB) fun a hE=>Zh hE Za ld rfl rfl rfl fun a hE=>Zf ?_))
  refine Zm hE rfl ?_ ?_
  ·intro hb8
   have hs5:=Zr hs5 hb8
   refine wp_skip (Zt (wp_seq (wp_block (wp_region_lit (Zd hE Za ld rfl fun a hE=>Zd hE Za ld rfl ?_))))); intro a hE
   obtain ⟨x9,hi11,hs5⟩:=bix hs5
   refine Zo hE Za ld rfl rfl Try.underlying23 Yv (hM.ro (pre:=[]) noB) hi11.1 ?_; intro a hE
   have hM:=(hM.toOsl (List.getElem?_eq_some_iff.1 hi11.2).1).open1 noB hi11.2
   obtain ⟨cs12,hM,hA13⟩:=hM
   obtain ⟨_,hx,_⟩:=hM.head
   obtain ⟨u14,rfl⟩:=WG hx
   refine Zy (v:=u14) hE Za ld rfl Yv rfl hA13 fun a hE=>Zd hE Za ld rfl ?_; intro a hE
   obtain ⟨r16,e17,hs5⟩:=bind_some hs5
   refine Zu hE Za ld rfl cb16 (W9 _ _ _ _ x9 u14 s4.2.1 hM r16 e17) ?_
   rintro v w a ⟨rfl,hM⟩ hE
   have hM:=(((hM.pull (pre:=[_])).pull (pre:=[_])).close1 noB).toOwn noB
   refine Zc hE Za ld rfl fun a hE=>Zi (Y0 (Zt (wp_region_lit (Zd hE Za ld rfl fun a hE=>Zh hE Za ld rfl rfl rfl fun a hE=>Zc hE Za ld rfl fun a hE=>Zi (Zk ?_)))))
   exact ⟨_,(ois hs5),hE.sub ⟨rfl,rfl,rfl,trivial⟩,hM⟩
  ·intro hb8
   have hs5:=Zs hs5 hb8
   refine wp_exit (Zp (Zp (Y7 ?_)))
   have ht18:=hx6 _ (ois hs5)
   subst ht18
   refine Zk ?_
   exact ⟨hE.sub ⟨rfl,rfl,trivial⟩,hM⟩
 ·skip
  rintro a w ⟨hE,hM⟩
  refine Zt (Zb (Zd hE Za ld rfl fun a hE=>Zc hE Za ld rfl fun a hE=>Zf ?_))
  have hr:=Option.some.inj hF3
  subst hr
  exact wp_ret (Zl hE (by rfl) (Zg hE rfl) ⟨_,rfl,rfl,hM⟩)
end

end Go.Proofs.Ytpjogonponkbmaa
