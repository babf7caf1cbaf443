/- The walk of what the law reaches: contracts of functions. -/
import Derived.Test.YtfhhlkkhcoaapaaGreatDoorShelfP
import Derived.Test.YtfhhlkkhcoaapaaGreatDoorProg
set_option linter.unusedVariables false
set_option linter.unusedSimpArgs false
set_option maxRecDepth 20000
set_option maxHeartbeats 400000
namespace Go.Proofs.YtfhhlkkhcoaapaaGreatDoor
open Go
open Flat (enc)
noncomputable section
structure GShare where
 Place : UInt8
 Data : (List UInt8)
 deriving DecidableEq,Inhabited
instance : Dat GShare:=⟨fun x=>Dat.bd (α:=UInt8 × (List UInt8)) (x.Place,x.Data),fun x=>Dat.sz (α:=UInt8 × (List UInt8)) (x.Place,x.Data) + 1⟩
instance : Rep GShare:=repIso (α:=UInt8 × (List UInt8)) (fun x=>(x.Place,x.Data))
theorem VL {S : Nat → Prop} {w : World} {x : GShare} {cs : List Value} {fp : List Nat} (h : Rep.sat S w x cs fp) : ∃ (u1 : Value),∃ (g1 : List Nat),cs = cat [enc x.Place,[u1]] ∧ fp = g1 ∧ Rep.sat S w x.Data [u1] g1:=by
 obtain ⟨c0,d0,f0,q0,rfl,rfl,h0,hr0⟩:=h
 obtain ⟨rfl,rfl⟩:=h0
 obtain ⟨u1,rfl⟩:=Qd hr0
 exact ⟨u1,_,rfl,by simp,hr0⟩
theorem kq {S : Nat → Prop} {w : World} {x : GShare} {u1 : Value} {fp : List Nat} (h : Rep.sat S w x (cat [enc x.Place,[u1]]) fp) : ∃ (g1 : List Nat),fp = g1 ∧ Rep.sat S w x.Data [u1] g1:=by
 obtain ⟨w1,g1,hc,hf,s1⟩:=VL h
 obtain ⟨e1,k1⟩:=HU hc rfl
 obtain rfl:=(List.cons.inj k1).1
 exact ⟨g1,hf,s1⟩
theorem ZQ {S : Nat → Prop} {w : World} {x : GShare} {cs : List Value} (h : Rep.sat S w x cs []) : ∃ u1,cs = cat [enc x.Place,[u1]] ∧ Rep.sat S w x.Data [u1] []:=by
 obtain ⟨c0,d0,f0,g0,rfl,hf0,h0,hr0⟩:=h
 obtain ⟨rfl,rfl⟩:=List.append_eq_nil_iff.1 hf0.symm
 obtain ⟨rfl,_⟩:=h0
 obtain ⟨u1,rfl⟩:=Qd hr0
 exact ⟨u1,rfl,hr0⟩
theorem W2 {S : Nat → Prop} {w : World} {x : GShare} {u1 : Value} {g1 fp : List Nat} (h1 : Rep.sat S w x.Data [u1] g1) (hfp : fp = g1) : Rep.sat S w x (cat [enc x.Place,[u1]]) fp:=by
 rw [hfp]
 refine ⟨_,_,[],g1,rfl,(by simp),⟨rfl,rfl⟩,?_⟩
 exact h1
theorem UJ {St : Nat → Prop} {w0 w : World} {its : List Item} {i1 : Item} {x : GShare} {u1 : Value} (h : M St w0 w (i1 :: its)) (s1 : SatI i1 x.Data u1) : M St w0 w (own NoB x (cat [enc x.Place,[u1]]) :: its):=h.packL (m:=[_]) (VS noB) fun fp h=>by obtain ⟨_,_,rfl,_,k1,rfl⟩:=h; exact W2 (s1 _ _ k1) (by simp)
theorem Tc {St : Nat → Prop} {w0 w : World} {its : List Item} {x : GShare} {u1 : Value} (h : M St w0 w (own NoB x (cat [enc x.Place,[u1]]) :: its)) : M St w0 w (own NoB x.Data [u1] :: its):=h.unpackL (m:=[own NoB x.Data [u1]]) fun fp h=>by obtain ⟨_,rfl,s1⟩:=kq h; exact WD.one (VS noB) s1
theorem y8 (w : World) : Rep.sat NoB w (⟨(0 : UInt8),([] : (List UInt8))⟩ : GShare) (cat [(enc (0 : UInt8)),[.slice none 0 0]]) []:=W2 zj rfl
structure Gl01Source where
 code : (List UInt8)
 at0 : Int
 hash : Int
 deriving DecidableEq,Inhabited
instance : Dat Gl01Source:=⟨fun x=>Dat.bd (α:=(List UInt8) × Int × Int) (x.code,x.at0,x.hash),fun x=>Dat.sz (α:=(List UInt8) × Int × Int) (x.code,x.at0,x.hash) + 1⟩
instance : Rep Gl01Source:=repIso (α:=(List UInt8) × Int × Int) (fun x=>(x.code,x.at0,x.hash))
theorem zu {S : Nat → Prop} {w : World} {x : Gl01Source} {cs : List Value} {fp : List Nat} (h : Rep.sat S w x cs fp) : ∃ (u1 : Value),∃ (g1 : List Nat),cs = cat [[u1],enc x.at0,enc x.hash] ∧ fp = g1 ∧ Rep.sat S w x.code [u1] g1:=by
 obtain ⟨c0,d0,f0,q0,rfl,rfl,h0,hr0⟩:=h
 obtain ⟨u1,rfl⟩:=Qd h0
 obtain ⟨c1,d1,f1,q1,rfl,rfl,h1,hr1⟩:=hr0
 obtain ⟨rfl,rfl⟩:=h1
 obtain ⟨rfl,rfl⟩:=hr1
 exact ⟨u1,_,rfl,by simp,h0⟩
theorem AG {S : Nat → Prop} {w : World} {x : Gl01Source} {u1 : Value} {fp : List Nat} (h : Rep.sat S w x (cat [[u1],enc x.at0,enc x.hash]) fp) : ∃ (g1 : List Nat),fp = g1 ∧ Rep.sat S w x.code [u1] g1:=by
 obtain ⟨w1,g1,hc,hf,s1⟩:=zu h
 obtain ⟨e1,k1⟩:=HU hc rfl
 obtain ⟨e2,k2⟩:=HU k1 rfl
 obtain rfl:=(List.cons.inj e1).1
 exact ⟨g1,hf,s1⟩
theorem Zbo {S : Nat → Prop} {w : World} {x : Gl01Source} {cs : List Value} (h : Rep.sat S w x cs []) : ∃ u1,cs = cat [[u1],enc x.at0,enc x.hash] ∧ Rep.sat S w x.code [u1] []:=by
 obtain ⟨c0,d0,f0,g0,rfl,hf0,h0,hr0⟩:=h
 obtain ⟨rfl,rfl⟩:=List.append_eq_nil_iff.1 hf0.symm
 obtain ⟨u1,rfl⟩:=Qd h0
 obtain ⟨c1,d1,f1,g1,rfl,hf1,h1,hr1⟩:=hr0
 obtain ⟨rfl,rfl⟩:=List.append_eq_nil_iff.1 hf1.symm
 obtain ⟨rfl,_⟩:=h1
 obtain ⟨rfl,_⟩:=hr1
 exact ⟨u1,rfl,h0⟩
theorem zI {S : Nat → Prop} {w : World} {x : Gl01Source} {u1 : Value} {g1 fp : List Nat} (h1 : Rep.sat S w x.code [u1] g1) (hfp : fp = g1) : Rep.sat S w x (cat [[u1],enc x.at0,enc x.hash]) fp:=by
 rw [hfp]
 refine ⟨_,_,g1,[],rfl,(by simp),h1,?_⟩
 refine ⟨_,_,[],[],rfl,(by simp),⟨rfl,rfl⟩,?_⟩
 exact ⟨rfl,rfl⟩
theorem Zbn {St : Nat → Prop} {w0 w : World} {its : List Item} {i1 : Item} {x : Gl01Source} {u1 : Value} (h : M St w0 w (i1 :: its)) (s1 : SatI i1 x.code u1) : M St w0 w (own NoB x (cat [[u1],enc x.at0,enc x.hash]) :: its):=h.packL (m:=[_]) (VS noB) fun fp h=>by obtain ⟨_,_,rfl,_,k1,rfl⟩:=h; exact zI (s1 _ _ k1) (by simp)
theorem Zbm {St : Nat → Prop} {w0 w : World} {its : List Item} {x : Gl01Source} {u1 : Value} (h : M St w0 w (own NoB x (cat [[u1],enc x.at0,enc x.hash]) :: its)) : M St w0 w (own NoB x.code [u1] :: its):=h.unpackL (m:=[own NoB x.code [u1]]) fun fp h=>by obtain ⟨_,rfl,s1⟩:=AG h; exact WD.one (VS noB) s1
structure Gdice where
 b : (List UInt8)
 i : Int
 h : Int
 deriving DecidableEq,Inhabited
instance : Dat Gdice:=⟨fun x=>Dat.bd (α:=(List UInt8) × Int × Int) (x.b,x.i,x.h),fun x=>Dat.sz (α:=(List UInt8) × Int × Int) (x.b,x.i,x.h) + 1⟩
instance : Rep Gdice:=repIso (α:=(List UInt8) × Int × Int) (fun x=>(x.b,x.i,x.h))
theorem qN {S : Nat → Prop} {w : World} {x : Gdice} {cs : List Value} {fp : List Nat} (h : Rep.sat S w x cs fp) : ∃ (u1 : Value),∃ (g1 : List Nat),cs = cat [[u1],enc x.i,enc x.h] ∧ fp = g1 ∧ Rep.sat S w x.b [u1] g1:=by
 obtain ⟨c0,d0,f0,q0,rfl,rfl,h0,hr0⟩:=h
 obtain ⟨u1,rfl⟩:=Qd h0
 obtain ⟨c1,d1,f1,q1,rfl,rfl,h1,hr1⟩:=hr0
 obtain ⟨rfl,rfl⟩:=h1
 obtain ⟨rfl,rfl⟩:=hr1
 exact ⟨u1,_,rfl,by simp,h0⟩
theorem qz {S : Nat → Prop} {w : World} {x : Gdice} {u1 : Value} {fp : List Nat} (h : Rep.sat S w x (cat [[u1],enc x.i,enc x.h]) fp) : ∃ (g1 : List Nat),fp = g1 ∧ Rep.sat S w x.b [u1] g1:=by
 obtain ⟨w1,g1,hc,hf,s1⟩:=qN h
 obtain ⟨e1,k1⟩:=HU hc rfl
 obtain ⟨e2,k2⟩:=HU k1 rfl
 obtain rfl:=(List.cons.inj e1).1
 exact ⟨g1,hf,s1⟩
theorem un_Gdice {S : Nat → Prop} {w : World} {x : Gdice} {cs : List Value} (h : Rep.sat S w x cs []) : ∃ u1,cs = cat [[u1],enc x.i,enc x.h] ∧ Rep.sat S w x.b [u1] []:=by
 obtain ⟨c0,d0,f0,g0,rfl,hf0,h0,hr0⟩:=h
 obtain ⟨rfl,rfl⟩:=List.append_eq_nil_iff.1 hf0.symm
 obtain ⟨u1,rfl⟩:=Qd h0
 obtain ⟨c1,d1,f1,g1,rfl,hf1,h1,hr1⟩:=hr0
 obtain ⟨rfl,rfl⟩:=List.append_eq_nil_iff.1 hf1.symm
 obtain ⟨rfl,_⟩:=h1
 obtain ⟨rfl,_⟩:=hr1
 exact ⟨u1,rfl,h0⟩
theorem Zay {S : Nat → Prop} {w : World} {x : Gdice} {u1 : Value} {g1 fp : List Nat} (h1 : Rep.sat S w x.b [u1] g1) (hfp : fp = g1) : Rep.sat S w x (cat [[u1],enc x.i,enc x.h]) fp:=by
 rw [hfp]
 refine ⟨_,_,g1,[],rfl,(by simp),h1,?_⟩
 refine ⟨_,_,[],[],rfl,(by simp),⟨rfl,rfl⟩,?_⟩
 exact ⟨rfl,rfl⟩
theorem pm_Gdice {St : Nat → Prop} {w0 w : World} {its : List Item} {i1 : Item} {x : Gdice} {u1 : Value} (h : M St w0 w (i1 :: its)) (s1 : SatI i1 x.b u1) : M St w0 w (own NoB x (cat [[u1],enc x.i,enc x.h]) :: its):=h.packL (m:=[_]) (VS noB) fun fp h=>by obtain ⟨_,_,rfl,_,k1,rfl⟩:=h; exact Zay (s1 _ _ k1) (by simp)
theorem um_Gdice {St : Nat → Prop} {w0 w : World} {its : List Item} {x : Gdice} {u1 : Value} (h : M St w0 w (own NoB x (cat [[u1],enc x.i,enc x.h]) :: its)) : M St w0 w (own NoB x.b [u1] :: its):=h.unpackL (m:=[own NoB x.b [u1]]) fun fp h=>by obtain ⟨_,rfl,s1⟩:=qz h; exact WD.one (VS noB) s1
theorem ty2 : Ty Tryz.prog 2 (.int .i64) 1 8 (enc (0 : Int)):=⟨Tryz.underlying2,by kernel_rfl⟩
theorem ty3 : Ty Tryz.prog 3 (.int .i64) 1 8 (enc (0 : Int)):=⟨Tryz.underlying3,by kernel_rfl⟩
theorem ty5 : Ty Tryz.prog 5 (.int .u8) 1 1 (enc (0 : UInt8)):=⟨Tryz.underlying5,by kernel_rfl⟩
theorem ty9 : Ty Tryz.prog 9 .string 1 16 (enc (⟨[]⟩ : Str)):=⟨Tryz.underlying9,by kernel_rfl⟩
theorem YS : Ty Tryz.prog 22 (.slice 5) 1 24 [.slice none 0 0]:=⟨Tryz.underlying22,by kernel_rfl⟩
theorem jW : Ty Tryz.prog 24 (.slice 33) 1 24 [.slice none 0 0]:=⟨Tryz.underlying24,by kernel_rfl⟩
theorem ZN : Ty Tryz.prog 33 (.struct [{ name := "Place", type := 5, offset := 0, embedded := false, tag := "", pkgPath := "", byteOffset := 0 }, { name := "Data", type := 22, offset := 1, embedded := false, tag := "", pkgPath := "", byteOffset := 8 }].toArray) 2 32 (cat [(enc (0 : UInt8)), [.slice none 0 0]]) := ⟨Tryz.underlying33, by kernel_rfl⟩
theorem Af : Ty Tryz.prog 44 (.int .u64) 1 8 [.int .u64 0]:=⟨Tryz.underlying44,by kernel_rfl⟩
theorem ty94 : Ty Tryz.prog 94 (.struct [{ name := "b", type := 22, offset := 0, embedded := false, tag := "", pkgPath := "loop.example/g01182/laws", byteOffset := 0 }, { name := "i", type := 3, offset := 1, embedded := false, tag := "", pkgPath := "loop.example/g01182/laws", byteOffset := 24 }, { name := "h", type := 44, offset := 2, embedded := false, tag := "", pkgPath := "loop.example/g01182/laws", byteOffset := 32 }].toArray) 3 40 (cat [[.slice none 0 0], (enc (0 : Int)), [.int .u64 0]]) := ⟨Tryz.underlying94, by kernel_rfl⟩
theorem ty97 : Ty Tryz.prog 97 (.array 2 22) 2 48 (List.replicate 2 [.slice none 0 0]).flatten:=⟨Tryz.underlying97,by kernel_rfl⟩
theorem k8 : Ty Tryz.prog 119 (.struct [{ name := "code", type := 22, offset := 0, embedded := false, tag := "", pkgPath := "loop.example/g01182/spec", byteOffset := 0 }, { name := "at", type := 3, offset := 1, embedded := false, tag := "", pkgPath := "loop.example/g01182/spec", byteOffset := 24 }, { name := "hash", type := 44, offset := 2, embedded := false, tag := "", pkgPath := "loop.example/g01182/spec", byteOffset := 32 }].toArray) 3 40 (cat [[.slice none 0 0], (enc (0 : Int)), [.int .u64 0]]) := ⟨Tryz.underlying119, by kernel_rfl⟩
theorem XQ : Fd Tryz.prog 33 0 0:=B0 ZN.und rfl rfl ty5 (by decide)
theorem Yj : Fd Tryz.prog 33 1 1:=B0 ZN.und rfl rfl YS (by decide)
theorem Zar : Fd Tryz.prog 94 0 0:=B0 ty94.und rfl rfl YS (by decide)
theorem yG : Fd Tryz.prog 94 1 1:=B0 ty94.und rfl rfl ty3 (by decide)
theorem zg : Fd Tryz.prog 94 2 2:=B0 ty94.und rfl rfl Af (by decide)
theorem kS : Fd Tryz.prog 119 0 0:=B0 k8.und rfl rfl YS (by decide)
theorem As : Fd Tryz.prog 119 1 1:=B0 k8.und rfl rfl ty3 (by decide)
theorem HT : Fd Tryz.prog 119 2 2:=B0 k8.und rfl rfl Af (by decide)
theorem Hu : Places Tryz.prog [{ name := "Place", type := 5, offset := 0, embedded := false, tag := "", pkgPath := "", byteOffset := 0 }, { name := "Data", type := 22, offset := 1, embedded := false, tag := "", pkgPath := "", byteOffset := 8 }] [(0, 1), (1, 1)] := by show _ = _; kernel_rfl
theorem pl94 : Places Tryz.prog [{ name := "b", type := 22, offset := 0, embedded := false, tag := "", pkgPath := "loop.example/g01182/laws", byteOffset := 0 }, { name := "i", type := 3, offset := 1, embedded := false, tag := "", pkgPath := "loop.example/g01182/laws", byteOffset := 24 }, { name := "h", type := 44, offset := 2, embedded := false, tag := "", pkgPath := "loop.example/g01182/laws", byteOffset := 32 }] [(0, 1), (1, 1), (2, 1)] := by show _ = _; kernel_rfl
theorem pl119 : Places Tryz.prog [{ name := "code", type := 22, offset := 0, embedded := false, tag := "", pkgPath := "loop.example/g01182/spec", byteOffset := 0 }, { name := "at", type := 3, offset := 1, embedded := false, tag := "", pkgPath := "loop.example/g01182/spec", byteOffset := 24 }, { name := "hash", type := 44, offset := 2, embedded := false, tag := "", pkgPath := "loop.example/g01182/spec", byteOffset := 32 }] [(0, 1), (1, 1), (2, 1)] := by show _ = _; kernel_rfl
theorem Wb : Tryz.prog.follows .mixedOrders = true:=by kernel_rfl
theorem cb14 : Callable Tryz.prog 14:=cbm Tryz.func14
theorem kl : Callable Tryz.prog 35:=cbm Tryz.func35
theorem Tn : Callable Tryz.prog 37:=cbm Tryz.func37
theorem cb38 : Callable Tryz.prog 38:=cbm Tryz.func38
theorem cb39 : Callable Tryz.prog 39:=cbm Tryz.func39
theorem cb40 : Callable Tryz.prog 40:=cbm Tryz.func40
theorem cb44 : Callable Tryz.prog 44:=cbm Tryz.func44
theorem cb46 : Callable Tryz.prog 46:=cbm Tryz.func46
theorem Bp : Callable Tryz.prog 50:=cbm Tryz.func50
theorem cb51 : Callable Tryz.prog 51:=cbm Tryz.func51
theorem cb52 : Callable Tryz.prog 52:=cbm Tryz.func52
theorem An : Callable Tryz.prog 55:=cbm Tryz.func55
theorem cb56 : Callable Tryz.prog 56:=cbm Tryz.func56
theorem cb57 : Callable Tryz.prog 57:=cbm Tryz.func57
theorem cb61 : Callable Tryz.prog 61:=cbm Tryz.func61
theorem cb63 : Callable Tryz.prog 63:=cbm Tryz.func63
theorem cb65 : Callable Tryz.prog 65:=cbm Tryz.func65
theorem cb66 : Callable Tryz.prog 66:=cbm Tryz.func66
theorem cb78 : Callable Tryz.prog 78:=cbm Tryz.func78
theorem cb82 : Callable Tryz.prog 82:=cbm Tryz.func82
theorem cb85 : Callable Tryz.prog 85:=cbm Tryz.func85
theorem cb87 : Callable Tryz.prog 87:=cbm Tryz.func87
theorem cb88 : Callable Tryz.prog 88:=cbm Tryz.func88
theorem cb89 : Callable Tryz.prog 89:=cbm Tryz.func89
theorem HL : Callable Tryz.prog 108:=cbm Tryz.func108
theorem Zaj : Callable Tryz.prog 131:=cbm Tryz.func131
def Hs (p0 : (List UInt8)) : Option (Bool) :=
 some (decide ((p0.length : Int) > 4096))
theorem kh (w0 : World) (p0 : (List UInt8)) (v0_1 : Value) (hv0_1 : Ro w0 p0 [v0_1]) (r : Bool) (hF : Hs p0 = some r) :
  Calls Tryz.prog 4 [v0_1].toArray w0 (Rt w0 (vT r)):=by
 refine ce Tryz.func4 ?_
 intro a hE
 have hM:=M.start w0
 unfold Hs at hF
 refine Zc (Zb hE rfl fun a hE=>Ze (Zc (Zd hE rfl fun a hE=>ZL hE rfl Tryz.underlying22 (hM.rd hv0_1) fun a hE=>Zk hE rfl rfl rfl fun a hE=>Zb hE rfl fun a hE=>Ze ?_)))
 obtain rfl:=Option.some.inj hF
 exact wp_ret (kr1 hE rfl rfl hM.kept)
def TI (p0 : (List UInt8)) (s6 : Int × Int) : Option (Fl (Int × Int) Int) :=
 (if (decide (s6.2 < (p0.length : Int))) = true then (some (decide (s6.2 < 4096))) else (some false) : Option (Bool)).bind fun j10=>if j10 = true then ((idx p0 s6.2).bind fun x18=>some (Fl.nx (IntKind.u64.wrap ((IntKind.u64.wrap ((IntKind.u64.wrap (s6.1 * 1099511628211)) + (bI x18))) + 11),wr (s6.2 + 1)))) else (some (Fl.ex s6.1))
def Y1 (p0 : (List UInt8)) : Option ((Int × Int)) :=
 (ZH (TI p0) (IntKind.u64.wrap (9001 + (IntKind.u64.wrap (p0.length : Int))),0)).bind fun j3=>some (0,j3)
theorem Vj (St : Nat → Prop) (W w0 : World) (r0 : Item) (p0 : (List UInt8)) (v0_1 : Value) (hv0_1 : Rep.sat St W p0 [v0_1] []) (hM : M St W w0 [r0]) (r : (Int × Int)) (hF : Y1 p0 = some r) :
  Calls Tryz.prog 35 [v0_1].toArray w0 (fun en w'=>∃ v,en = .returned v ∧ (∃ (b : Nat),v = ptr b 0 ∧ M St W w' [raw b (cat [[v0_1],[vI r.1],[(Value.int .u64 r.2)]]),r0])):=by
 refine ce Tryz.func35 ?_
 intro a hE
 unfold Y1 at hF
 refine Zc (Zb hE rfl fun a hE=>Ze (Zc (Zd hE rfl fun a hE=>Zd hE rfl fun a hE=>ZL hE rfl Tryz.underlying22 (hM.rd hv0_1) fun a hE=>Qm hE Za ld rfl Tryz.underlying3 Tryz.underlying44 fun a hE=>Zk hE rfl rfl rfl fun a hE=>YY (parts:=[(0,.tmp 5),(2,.tmp 9)]) (vs:=[(0,v0_1),(2,(Value.int .u64 (IntKind.u64.wrap (9001 + (IntKind.u64.wrap (p0.length : Int))))))]) (cs:=cat [[v0_1],[vI 0],[(Value.int .u64 (IntKind.u64.wrap (9001 + (IntKind.u64.wrap (p0.length : Int)))))]]) hE Za ld rfl rfl k8 pl119 (YK (pre:=[]) (seg:=[(Value.slice none 0 0)]) (seg':=[v0_1]) (post:=[[vI 0],[(Value.int .u64 0)]]) rfl cl0 rfl rfl (Y2 (hM.rd hv0_1)) (YK (pre:=[[v0_1],[vI 0]]) (seg:=[(Value.int .u64 0)]) (seg':=[(Value.int .u64 (IntKind.u64.wrap (9001 + (IntKind.u64.wrap (p0.length : Int)))))]) (post:=[]) rfl ck rfl rfl rfl Wy)) fun a hE=>KW (cs:=cat [[v0_1],[vI 0],[(Value.int .u64 (IntKind.u64.wrap (9001 + (IntKind.u64.wrap (p0.length : Int)))))]]) hE hM Za ld rfl rfl fun b1 w a hM hE=>Zb hE rfl fun a hE=>Ze (wp_seq (Zc (Zb hE rfl fun a hE=>Ze ?_))))))
 obtain ⟨j3,hl4,hF5⟩:=bind_some hF
 refine ZP (fun a w=>Env 38 a [(3,(ptr b1 0))] ∧ M St W w [raw b1 (cat [[v0_1],[vI 0],[(Value.int .u64 j3)]]),r0]) ?_ ?_
 ·skip
  refine wp_block ?_
  refine ZK (fun (s6 : Int × Int) a w=>Env 38 a [(0,v0_1),(3,(ptr b1 0)),(4,vI s6.2)] ∧ M St W w [raw b1 (cat [[v0_1],[vI 0],[(Value.int .u64 s6.1)]]),r0]) hl4 ⟨hE.sub ⟨rfl,rfl,rfl,trivial⟩,hM⟩ ?_
  rintro s6 a w ⟨hE,hM⟩ o9 hs7 hx8
  unfold TI at hs7
  refine wp_seq ?_
  obtain ⟨j10,hl11,hF12⟩:=bind_some hs7
  refine Zx (fun a w=>Env 38 a [(0,v0_1),(3,(ptr b1 0)),(4,vI s6.2),(19,vT j10)] ∧ M St W w [raw b1 (cat [[v0_1],[vI 0],[(Value.int .u64 s6.1)]]),r0]) ?_ ?_
  ·skip
   refine wp_region_lit (Zd hE rfl fun a hE=>Zd hE rfl fun a hE=>ZL hE rfl Tryz.underlying22 (hM.rd hv0_1) fun a hE=>Zk hE rfl rfl rfl fun a hE=>Zd hE rfl ?_); intro a hE
   refine ZO (decide (s6.2 < (p0.length : Int))) (fun hb13=>?_) (fun hb13=>?_)
   ·have hl11:=Zn hl11 hb13
    refine Zh hE (Zf hE rfl (lkb rfl hb13)) (by decide) rfl fun a hE=>ZJ hE (Zf hE rfl (lkb rfl hb13)) (by decide) rfl rfl rfl fun a hE=>ZB hE (lkb rfl hb13) rfl fun a hE=>Zj ?_
    obtain rfl:=Option.some.inj hl11
    refine Zi ?_
    exact ⟨hE.sub ⟨rfl,rfl,rfl,rfl,trivial⟩,hM⟩
   ·have hl11:=Zo hl11 hb13
    refine Zg hE rfl (lkb rfl hb13) rfl (by decide) fun a hE=>Zg hE rfl (lkb rfl hb13) rfl (by decide) fun a hE=>Zy hE (lkb rfl hb13) rfl fun a hE=>Zj ?_
    obtain rfl:=Option.some.inj hl11
    refine Zi ?_
    exact ⟨hE.sub ⟨rfl,rfl,rfl,rfl,trivial⟩,hM⟩
  ·skip
   rintro a w ⟨hE,hM⟩
   refine Zm hE rfl ?_ ?_
   ·intro hb16
    have hF12:=Zn hF12 hb16
    refine wp_skip (Zu (wp_seq (wp_block ?_)))
    obtain ⟨x18,hi20,hF12⟩:=bix hF12
    refine YA [22,23,24,25,26,27,28,29,30,31,32,33,34,35,36] Wb rfl rfl (by decide) rfl hE hM (qsP (fun z=>Zh z.E Za ld rfl (kr0 rfl)) (qsP (fun z=>Zh z.E Za ld rfl (kr0 rfl)) (qsP (fun z=>Yw z.E Za ld rfl (kr0 rfl)) (qsP (fun z=>Zv z.E Za ld rfl (HT) (kr0 rfl)) (qsP (fun z=>ZE (v:=(Value.int .u64 s6.1)) z.E Za ld rfl Af rfl (At.cat (pre:=[[v0_1],[vI 0]]) (z.M.rawAt0) ck) (kr0 rfl)) (qsP (v:=(Value.int .u64 (IntKind.u64.wrap (s6.1 * 1099511628211)))) (fun z=>ZJ z.E Za ld rfl rfl rfl (kr0 rfl)) (qsP (fun z=>Zh z.E Za ld rfl (kr0 rfl)) (qsP (fun z=>Zh z.E Za ld rfl (kr0 rfl)) (qsP (fun z=>ZA z.E Za ld rfl rfl Tryz.underlying22 ty5 (z.M.rd hv0_1) hi20.1 (kr0 rfl)) (qsP (fun z=>ZE (v:=(vB x18)) z.E Za ld rfl ty5 rfl (ZS (z.M.rd hv0_1) hi20.2) (kr0 rfl)) (qsP (fun z=>kJ z.E Za ld rfl Tryz.underlying5 Tryz.underlying44 (kr0 rfl)) (qsP (v:=(Value.int .u64 (IntKind.u64.wrap ((IntKind.u64.wrap (s6.1 * 1099511628211)) + (bI x18))))) (fun z=>ZJ z.E Za ld rfl rfl rfl (kr0 rfl)) (qsP (v:=(Value.int .u64 (IntKind.u64.wrap ((IntKind.u64.wrap ((IntKind.u64.wrap (s6.1 * 1099511628211)) + (bI x18))) + 11)))) (fun z=>ZJ z.E Za ld rfl rfl rfl (kr0 rfl)) (qsP (fun z=>Yw z.E Za ld rfl (kr0 rfl)) (qsP (fun z=>Zv z.E Za ld rfl (HT) (kr0 rfl)) qs0))))))))))))))) ?_
    ·intro a w u hE hM
     refine Xs (seg:=[(Value.int .u64 (IntKind.u64.wrap ((IntKind.u64.wrap ((IntKind.u64.wrap (s6.1 * 1099511628211)) + (bI x18))) + 11)))]) hE hM Za rfl rfl rfl Af rfl (Th (pre:=[[v0_1],[vI 0]]) ck rfl) Aw (Wj (pre:=[[v0_1],[vI 0]]) ck rfl) fun w a hM hE=>Zj (Yg (Zu (wp_region_lit (Zd hE rfl fun a hE=>Zk hE rfl rfl rfl fun a hE=>Zb hE rfl fun a hE=>Zj (Zi ?_)))))
     exact ⟨_,(ois hF12),hE.sub ⟨rfl,rfl,rfl,trivial⟩,hM⟩
   ·intro hb16
    have hF12:=Zo hF12 hb16
    refine wp_exit (Zs (Zs (Ys ?_)))
    obtain rfl:=hx8 _ (ois hF12)
    refine Zi ?_
    exact ⟨hE.sub ⟨rfl,trivial⟩,hM⟩
 ·skip
  rintro a w ⟨hE,hM⟩
  refine Zu (Zc (Zd hE rfl fun a hE=>Zb hE rfl fun a hE=>Ze ?_))
  obtain rfl:=Option.some.inj hF5
  exact wp_ret (Yb hE rfl (Zl hE rfl) ⟨_,rfl,b1,rfl,hM⟩)
def WQ (p0 : Int) (p1 : Int) (p2 : Int) : Option (Bool) :=
 (if (decide (p0 ≥ p1)) = true then (some (decide (p0 ≤ p2))) else (some false) : Option (Bool)).bind fun j1=>some j1
theorem KL (w0 : World) (p0 : Int) (p1 : Int) (p2 : Int) (r : Bool) (hF : WQ p0 p1 p2 = some r) :
  Calls Tryz.prog 78 [vI p0,vI p1,vI p2].toArray w0 (Rt w0 (vT r)):=by
 refine ce Tryz.func78 ?_
 intro a hE
 have hM:=M.start w0
 unfold WQ at hF
 refine Zc (Zb hE rfl fun a hE=>Ze ?_)
 obtain ⟨j1,hl2,hF3⟩:=bind_some hF
 refine Zx (fun a w=>Env 15 a [(6,vT j1)] ∧ M (Old w0) w0 w []) ?_ ?_
 ·skip
  refine wp_region_lit (Zd hE rfl fun a hE=>Zd hE rfl fun a hE=>Zk hE rfl rfl rfl fun a hE=>Zd hE rfl ?_); intro a hE
  refine ZO (decide (p0 ≥ p1)) (fun hb4=>?_) (fun hb4=>?_)
  ·have hl2:=Zn hl2 hb4
   refine Zh hE (Zf hE rfl (lkb rfl hb4)) (by decide) rfl fun a hE=>Zh hE (Zf hE rfl (lkb rfl hb4)) (by decide) rfl fun a hE=>ZJ hE (Zf hE rfl (lkb rfl hb4)) (by decide) rfl rfl rfl fun a hE=>ZB hE (lkb rfl hb4) rfl fun a hE=>Zb hE rfl fun a hE=>Zj ?_
   obtain rfl:=Option.some.inj hl2
   refine Zi ?_
   exact ⟨hE.sub ⟨rfl,trivial⟩,hM⟩
  ·have hl2:=Zo hl2 hb4
   refine Zg hE rfl (lkb rfl hb4) rfl (by decide) fun a hE=>Zg hE rfl (lkb rfl hb4) rfl (by decide) fun a hE=>Zg hE rfl (lkb rfl hb4) rfl (by decide) fun a hE=>Zy hE (lkb rfl hb4) rfl fun a hE=>Zb hE rfl fun a hE=>Zj ?_
   obtain rfl:=Option.some.inj hl2
   refine Zi ?_
   exact ⟨hE.sub ⟨rfl,trivial⟩,hM⟩
 ·skip
  rintro a w ⟨hE,hM⟩
  obtain rfl:=Option.some.inj hF3
  exact wp_ret (kr1 hE rfl rfl hM.kept)
def Xp (s4 : Int × Int) : Option (Fl (Int × Int) Int) :=
 if (decide (s4.1 > 0)) = true then (some (Fl.nx (wr (Int.tdiv s4.1 2),wr (s4.2 + 1)))) else (some (Fl.ex s4.2))
def Wa (p0 : Int) : Option (Int) :=
 (ZH (Xp) (p0,0)).bind fun j1=>some j1
theorem Qc (w0 : World) (p0 : Int) (r : Int) (hF : Wa p0 = some r) :
  Calls Tryz.prog 131 [vI p0].toArray w0 (Rt w0 (vI r)):=by
 refine ce Tryz.func131 ?_
 intro a hE
 have hM:=M.start w0
 unfold Wa at hF
 refine Zc (Zb hE rfl fun a hE=>Ze (Zc (Zb hE rfl fun a hE=>Ze ?_)))
 obtain ⟨j1,hl2,hF3⟩:=bind_some hF
 refine Zx (fun a w=>Env 11 a [(3,vI j1)] ∧ M (Old w0) w0 w []) ?_ ?_
 ·skip
  refine wp_block ?_
  refine ZK (fun (s4 : Int × Int) a w=>Env 11 a [(0,vI s4.1),(3,vI s4.2)] ∧ M (Old w0) w0 w []) hl2 ⟨hE.sub ⟨rfl,rfl,trivial⟩,hM⟩ ?_
  rintro s4 a w ⟨hE,hM⟩ o7 hs5 hx6
  unfold Xp at hs5
  refine wp_seq (Zc (Zd hE rfl fun a hE=>Zk hE rfl rfl rfl fun a hE=>Ze ?_))
  refine Zm hE rfl ?_ ?_
  ·intro hb8
   have hs5:=Zn hs5 hb8
   refine wp_skip (Zu (wp_seq (wp_block (wp_region_lit (Zd hE rfl fun a hE=>Zk hE rfl rfl rfl fun a hE=>Zb hE rfl fun a hE=>Zj (Yg (Zu (wp_region_lit (Zd hE rfl fun a hE=>Zk hE rfl rfl (HB _ _ (by decide)) fun a hE=>Zb hE rfl fun a hE=>Zj (Zi ?_))))))))))
   exact ⟨_,(ois hs5),hE.sub ⟨rfl,rfl,trivial⟩,hM⟩
  ·intro hb8
   have hs5:=Zo hs5 hb8
   refine wp_exit (Zs (Zs (Ys ?_)))
   obtain rfl:=hx6 _ (ois hs5)
   refine Zi ?_
   exact ⟨hE.sub ⟨rfl,trivial⟩,hM⟩
 ·skip
  rintro a w ⟨hE,hM⟩
  refine Zc (Zd hE rfl fun a hE=>Zb hE rfl fun a hE=>Ze ?_)
  obtain rfl:=Option.some.inj hF3
  exact wp_ret (kr1 hE rfl rfl hM.kept)
def VA (p1 : Int) (r1 : Int) (s8 : Int × Int) : Option (Fl (Int × Int) Int) :=
 if (decide (s8.2 ≥ r1)) = true then ((YI (IntKind.u64.wrap (wr (s8.2 - r1)))).bind fun _=>(Wa (K4 s8.1 (TN p1 (IntKind.u64.wrap (wr (s8.2 - r1)))))).bind fun r14=>some (Fl.nx (K4 s8.1 (TN p1 (IntKind.u64.wrap (wr (s8.2 - r1)))),r14))) else (some (Fl.ex s8.1))
def UY (p0 : Int) (p1 : Int) : Option (Int) :=
 (Wa p1).bind fun r1=>(Wa p0).bind fun r3=>(ZH (VA p1 r1) (p0,r3)).bind fun j5=>some j5
theorem AK (w0 : World) (p0 : Int) (p1 : Int) (r : Int) (hF : UY p0 p1 = some r) :
  Calls Tryz.prog 106 [vI p0,vI p1].toArray w0 (Rt w0 (vI r)):=by
 refine ce Tryz.func106 ?_
 intro a hE
 have hM:=M.start w0
 unfold UY at hF
 refine Zc (Zb hE rfl fun a hE=>Ze (Zc (Zd hE rfl ?_))); intro a hE
 obtain ⟨r1,e2,hF⟩:=bind_some hF
 refine Zq hE rfl Zaj (Qc _ p1 r1 e2) ?_
 rintro v w a ⟨rfl,hK⟩ hE
 have hM:=hM.keep hK
 refine Zb hE rfl fun a hE=>Ze (wp_seq (Zc (Zd hE rfl ?_))); intro a hE
 obtain ⟨r3,e4,hF⟩:=bind_some hF
 refine Zq hE rfl Zaj (Qc _ p0 r3 e4) ?_
 rintro v w a ⟨rfl,hK⟩ hE
 have hM:=hM.keep hK
 refine Zb hE rfl fun a hE=>Ze ?_
 obtain ⟨j5,hl6,hF7⟩:=bind_some hF
 refine ZP (fun a w=>Env 25 a [(0,vI j5)] ∧ M (Old w0) w0 w []) ?_ ?_
 ·skip
  refine wp_block ?_
  refine ZK (fun (s8 : Int × Int) a w=>Env 25 a [(0,vI s8.1),(1,vI p1),(5,vI r1),(6,vI s8.2)] ∧ M (Old w0) w0 w []) hl6 ⟨hE.sub ⟨rfl,rfl,rfl,rfl,trivial⟩,hM⟩ ?_
  rintro s8 a w ⟨hE,hM⟩ o11 hs9 hx10
  unfold VA at hs9
  refine wp_seq (Zc (Zd hE rfl fun a hE=>Zd hE rfl fun a hE=>Zk hE rfl rfl rfl fun a hE=>Ze ?_))
  refine Zm hE rfl ?_ ?_
  ·intro hb12
   have hs9:=Zn hs9 hb12
   refine wp_skip (Zu (wp_seq (wp_block (wp_region_lit (Zd hE rfl fun a hE=>Zd hE rfl fun a hE=>Zd hE rfl fun a hE=>Zd hE rfl fun a hE=>Zk hE rfl rfl rfl fun a hE=>Qm hE Za ld rfl Tryz.underlying2 Tryz.underlying44 ?_))))); intro a hE
   obtain ⟨_,e13,hs9⟩:=bind_some hs9
   have e13:=WA e13
   refine Ke hE Za ld rfl rfl (Ho _ _ e13) fun a hE=>Zk hE rfl rfl rfl fun a hE=>Zb hE rfl fun a hE=>Zj (Yg (Zu (wp_region_lit (Zd hE rfl ?_)))); intro a hE
   obtain ⟨r14,e15,hs9⟩:=bind_some hs9
   refine Zq hE rfl Zaj (Qc _ (K4 s8.1 (TN p1 (IntKind.u64.wrap (wr (s8.2 - r1))))) r14 e15) ?_
   rintro v w a ⟨rfl,hK⟩ hE
   have hM:=hM.keep hK
   refine Zb hE rfl fun a hE=>Zj (Zi ?_)
   exact ⟨_,(ois hs9),hE.sub ⟨rfl,rfl,rfl,rfl,trivial⟩,hM⟩
  ·intro hb12
   have hs9:=Zo hs9 hb12
   refine wp_exit (Zs (Zs (Ys ?_)))
   obtain rfl:=hx10 _ (ois hs9)
   refine Zi ?_
   exact ⟨hE.sub ⟨rfl,trivial⟩,hM⟩
 ·skip
  rintro a w ⟨hE,hM⟩
  refine Zu (Zc (Zd hE rfl fun a hE=>Zb hE rfl fun a hE=>Ze ?_))
  obtain rfl:=Option.some.inj hF7
  exact wp_ret (kr1 hE rfl rfl hM.kept)
def WY (p0 : Int) (s8 : Int) : Option (Fl Int (Fl Unit Bool)) :=
 if (decide (s8 < 32)) = true then ((UY p0 s8).bind fun r13=>if (r13 == 0) = true then (some (Fl.ex (Fl.ex false))) else (some (Fl.nx (wr (s8 + 1))))) else (some (Fl.ex (Fl.nx ())))
def XW (p0 : Int) : Option (Bool) :=
 (WQ p0 256 511).bind fun r1=>if (!r1) = true then (some false) else ((ZH (WY p0) 2).bind fun j4=>j4.el (fun s7=>some true) (fun r=>some r))
theorem TD (w0 : World) (p0 : Int) (r : Bool) (hF : XW p0 = some r) :
  Calls Tryz.prog 57 [vI p0].toArray w0 (Rt w0 (vT r)):=by
 refine ce Tryz.func57 ?_
 intro a hE
 have hM:=M.start w0
 unfold XW at hF
 refine Zc (Zb hE rfl fun a hE=>Ze (wp_seq (Zc (Zd hE rfl ?_)))); intro a hE
 obtain ⟨r1,e2,hF⟩:=bind_some hF
 refine Zq hE rfl cb78 (KL _ p0 256 511 r1 e2) ?_
 rintro v w a ⟨rfl,hK⟩ hE
 have hM:=hM.keep hK
 refine Ve hE rfl fun a hE=>Ze ?_
 refine Zm hE rfl ?_ ?_
 ·intro hb3
  have hF:=Zn hF hb3
  refine Zc (Zb hE rfl fun a hE=>Ze ?_)
  obtain rfl:=Option.some.inj hF
  exact wp_ret (Zr (kr1 hE rfl rfl hM.kept))
 ·intro hb3
  have hF:=Zo hF hb3
  refine wp_skip (Zu (wp_seq (Zc (Zb hE rfl fun a hE=>Ze ?_))))
  obtain ⟨j4,hl5,hF6⟩:=bind_some hF
  refine ZP (fun a w=>∃ s7 : Unit,j4 = Fl.nx s7 ∧ Env 15 a [] ∧ M (Old w0) w0 w []) ?_ ?_
  ·skip
   refine wp_block ?_
   refine ZK (fun (s8 : Int) a w=>Env 15 a [(0,vI p0),(3,vI s8)] ∧ M (Old w0) w0 w []) hl5 ⟨hE.sub ⟨rfl,rfl,trivial⟩,hM⟩ ?_
   rintro s8 a w ⟨hE,hM⟩ o11 hs9 hx10
   unfold WY at hs9
   refine wp_seq (Zc (Zd hE rfl fun a hE=>Zk hE rfl rfl rfl fun a hE=>Ze ?_))
   refine Zm hE rfl ?_ ?_
   ·intro hb12
    have hs9:=Zn hs9 hb12
    refine wp_skip (Zu (wp_seq (wp_block (Zc (Zd hE rfl fun a hE=>Zd hE rfl ?_))))); intro a hE
    obtain ⟨r13,e14,hs9⟩:=bind_some hs9
    refine Zq hE rfl (cbm Tryz.func106) (AK _ p0 s8 r13 e14) ?_
    rintro v w a ⟨rfl,hK⟩ hE
    have hM:=hM.keep hK
    refine Zk hE rfl rfl rfl fun a hE=>Ze ?_
    refine Zm hE rfl ?_ ?_
    ·intro hb15
     have hs9:=Zn hs9 hb15
     refine Zc (Zb hE rfl fun a hE=>Ze ?_)
     obtain rfl:=hx10 _ (ois hs9)
     obtain rfl:=Option.some.inj hF6
     exact wp_ret (Z4 (Zr (Zr (Z4 (Zr (Zr (kr1 hE rfl rfl hM.kept)))))))
    ·intro hb15
     have hs9:=Zo hs9 hb15
     refine wp_skip (Yg (Zu (wp_region_lit (Zd hE rfl fun a hE=>Zk hE rfl rfl rfl fun a hE=>Zb hE rfl fun a hE=>Zj (Zi ?_)))))
     exact ⟨_,(ois hs9),hE.sub ⟨rfl,rfl,trivial⟩,hM⟩
   ·intro hb12
    have hs9:=Zo hs9 hb12
    refine wp_exit (Zs (Zs (Ys ?_)))
    obtain rfl:=hx10 _ (ois hs9)
    refine Zi ?_
    exact ⟨(),rfl,hE.sub trivial,hM⟩
  ·skip
   rintro a w ⟨s7,ht,hE,hM⟩
   subst ht
   have hF6:=VQ hF6
   refine Zu (Zc (Zb hE rfl fun a hE=>Ze ?_))
   obtain rfl:=Option.some.inj hF6
   exact wp_ret (kr1 hE rfl rfl hM.kept)
def UR (s8 : (List Int) × Int) : Option (Fl ((List Int) × Int) (List Int)) :=
 if (decide (s8.2 < 512)) = true then (((XW s8.2).bind fun r20=>(if r20 = true then ((app 8 s8.1 ([s8.2] : List Int)).bind fun l30=>some (s8.1 ++ ([s8.2] : List Int))) else (some s8.1) : Option ((List Int))).bind fun j22=>some j22 : Option ((List Int))).bind fun j15=>some (Fl.nx (j15,wr (s8.2 + 1)))) else (some (Fl.ex s8.1))
def Uo : Option ((List Int)) :=
 (ZH (UR) (([] : List Int),256)).bind fun j3=>some j3
theorem Bb (w0 : World)  (r : (List Int)) (hF : Uo  = some r) :
  Calls Tryz.prog 126 [].toArray w0 (fun en w'=>∃ v,en = .returned v ∧ (∃ (y1 : Value),v = y1 ∧ Fr w0 w' [osl NoB (r : List Int) y1] ∧ Kept (Old w0) w0 w')):=by
 refine ce Tryz.func126 ?_
 intro a hE
 have hM:=M.start w0
 unfold Uo at hF
 refine Zc (Zb hE rfl fun a hE=>Ze (Zc (ZD (xs:=[]) (l:=([] : List Int)) (vs:=[]) hE hM Za ld rfl rfl Tryz.underlying27 ty2 rfl (by decide) rfl fun u1 w a hM hE=>Zb hE rfl fun a hE=>Ze (wp_seq (Zc (Zb hE rfl fun a hE=>Ze ?_))))))
 obtain ⟨j3,hl4,hF5⟩:=bind_some hF
 refine ZP (fun a w=>∃ (u6 : Value),Env 15 a [(1,u6)] ∧ M (Old w0) w0 w [osl NoB (j3 : List Int) u6]) ?_ ?_
 ·skip
  refine wp_block ?_
  refine ZK (fun (s8 : (List Int) × Int) a w=>∃ (u9 : Value),Env 15 a [(1,u9),(2,vI s8.2)] ∧ M (Old w0) w0 w [osl NoB (s8.1 : List Int) u9]) hl4 ⟨u1,hE.sub ⟨rfl,rfl,trivial⟩,hM⟩ ?_
  rintro s8 a w ⟨u9,hE,hM⟩ o13 hs11 hx12
  unfold UR at hs11
  refine wp_seq (Zc (Zd hE rfl fun a hE=>Zk hE rfl rfl rfl fun a hE=>Ze ?_))
  refine Zm hE rfl ?_ ?_
  ·intro hb14
   have hs11:=Zn hs11 hb14
   refine wp_skip (Zu ?_)
   obtain ⟨j15,hl16,hF17⟩:=bind_some hs11
   refine Zx (fun a w=>∃ (u18 : Value),Env 15 a [(1,u18),(2,vI s8.2)] ∧ M (Old w0) w0 w [osl NoB (j15 : List Int) u18]) ?_ ?_
   ·skip
    refine wp_block (Zc (Zd hE rfl ?_)); intro a hE
    obtain ⟨r20,e21,hl16⟩:=bind_some hl16
    refine Zq hE rfl cb57 (TD _ s8.2 r20 e21) ?_
    rintro v w a ⟨rfl,hK⟩ hE
    have hM:=hM.keep hK
    refine Ze ?_
    obtain ⟨j22,hl23,hF24⟩:=bind_some hl16
    refine ZP (fun a w=>∃ (u25 : Value),Env 15 a [(1,u25),(2,vI s8.2)] ∧ M (Old w0) w0 w [osl NoB (j22 : List Int) u25]) ?_ ?_
    ·skip
     refine Zm hE rfl ?_ ?_
     ·intro hb27
      have hl23:=Zn hl23 hb27
      refine wp_region_lit (Zd hE rfl fun a hE=>Zd hE rfl fun a hE=>ZD (xs:=[.tmp 11]) (l:=([s8.2] : List Int)) (vs:=[vI s8.2]) hE hM Za ld rfl rfl Tryz.underlying27 ty2 rfl (by decide) rfl ?_); intro u28 w a hM hE
      obtain ⟨l30,e31,hl23⟩:=bind_some hl23
      obtain ⟨e34,rfl⟩:=ZY e31
      have hM:=hM.pull1
      refine Z9 hE hM Za ld rfl rfl (hM.sl (pre:=[_]) noB) Tryz.underlying27 ty2 rfl (by decide) e34 fun u32 w a hM hE=>Zb hE rfl fun a hE=>Zj ?_
      obtain rfl:=Option.some.inj hl23
      refine Zi ?_
      have hM:=M.fst (l:=[_]) hM
      exact ⟨u32,hE.sub ⟨rfl,rfl,trivial⟩,hM⟩
     ·intro hb27
      have hl23:=Zo hl23 hb27
      refine wp_skip ?_
      obtain rfl:=Option.some.inj hl23
      refine Zi ?_
      exact ⟨u9,hE.sub ⟨rfl,rfl,trivial⟩,hM⟩
    ·skip
     rintro a w ⟨u25,hE,hM⟩
     refine Yg ?_
     obtain rfl:=Option.some.inj hF24
     refine Zi ?_
     exact ⟨u25,hE.sub ⟨rfl,rfl,trivial⟩,hM⟩
   ·skip
    rintro a w ⟨u18,hE,hM⟩
    refine wp_region_lit (Zd hE rfl fun a hE=>Zk hE rfl rfl rfl fun a hE=>Zb hE rfl fun a hE=>Zj (Zi ?_))
    exact ⟨_,(ois hF17),u18,hE.sub ⟨rfl,rfl,trivial⟩,hM⟩
  ·intro hb14
   have hs11:=Zo hs11 hb14
   refine wp_exit (Zs (Zs (Ys ?_)))
   obtain rfl:=hx12 _ (ois hs11)
   refine Zi ?_
   exact ⟨u9,hE.sub ⟨rfl,trivial⟩,hM⟩
 ·skip
  rintro a w ⟨u6,hE,hM⟩
  refine Zu (Zc (Zd hE rfl fun a hE=>Zb hE rfl fun a hE=>Ze ?_))
  obtain rfl:=Option.some.inj hF5
  exact wp_ret (Yb hE rfl (Zl hE rfl) ⟨_,rfl,u6,rfl,hM.outF (Z8 Yd),hM.kept⟩)
def Zw (p0_0 : (List UInt8)) (p0 : (Int × Int)) (p1 : Int) : Option ((Int × Int) × Int) :=
 if (decide (p1 < 1)) = true then (some ((p0.1,p0.2),0)) else (((some (decide (p0.1 < (p0_0.length : Int))) : Option (Bool)).bind fun j5=>if j5 = true then (((idx p0_0 p0.1).bind fun x15=>some (wr ((IntKind.i64.wrap (wru (BitVec.ofInt 64 (YD (IntKind.u64.wrap ((IntKind.u64.wrap (p0.2 * 6364136223846793005)) + 1442695040888963407)) 33) &&& BitVec.ofInt 64 16777215).toNat)) + (bI x15))) : Option (Int)).bind fun j11=>some (wr (p0.1 + 1),j11)) else (some (p0.1,IntKind.i64.wrap (wru (BitVec.ofInt 64 (YD (IntKind.u64.wrap ((IntKind.u64.wrap (p0.2 * 6364136223846793005)) + 1442695040888963407)) 33) &&& BitVec.ofInt 64 16777215).toNat))) : Option (Int × Int)).bind fun j2=>(TB p1).bind fun _=>some ((j2.1,IntKind.u64.wrap ((IntKind.u64.wrap (p0.2 * 6364136223846793005)) + 1442695040888963407)),Int.tmod j2.2 p1))
theorem ZF (St : Nat → Prop) (W w0 : World) (r0 : Item) (pb0 : Nat) (p0_0 : (List UInt8)) (v0_0 : Value) (hv0_0 : Rep.sat St W p0_0 [v0_0] []) (p0 : (Int × Int)) (p1 : Int) (hM : M St W w0 [raw pb0 (cat [[v0_0],[vI p0.1],[(Value.int .u64 p0.2)]]),r0]) (r : (Int × Int) × Int) (hF : Zw p0_0 p0 p1 = some r) :
  Calls Tryz.prog 37 [(ptr pb0 0),vI p1].toArray w0 (fun en w'=>∃ v,en = .returned v ∧ (v = (vI r.2) ∧ M St W w' [raw pb0 (cat [[v0_0],[vI r.1.1],[(Value.int .u64 r.1.2)]]),r0])):=by
 refine ce Tryz.func37 ?_
 intro a hE
 unfold Zw at hF
 refine Zc (Zb hE rfl fun a hE=>Ze (wp_seq (Zc (Zd hE rfl fun a hE=>Zk hE rfl rfl rfl fun a hE=>Ze ?_))))
 refine Zm hE rfl ?_ ?_
 ·intro hb1
  have hF:=Zn hF hb1
  refine Zc (Zb hE rfl fun a hE=>Ze ?_)
  obtain rfl:=Option.some.inj hF
  exact wp_ret (Zr (Yb hE rfl (Zl hE rfl) ⟨_,rfl,rfl,hM⟩))
 ·intro hb1
  have hF:=Zo hF hb1
  refine wp_skip (Zu (Zc (Zd hE rfl fun a hE=>Zd hE rfl fun a hE=>Yw hE Za ld rfl fun a hE=>ZI hE rfl (HT) fun a hE=>ZX (v:=(Value.int .u64 p0.2)) hE rfl Af rfl (At.cat (pre:=[[v0_0],[vI p0.1]]) hM.rawAt0 ck) fun a hE=>Zk hE rfl rfl rfl fun a hE=>Zk hE rfl rfl rfl fun a hE=>Yw hE Za ld rfl fun a hE=>ZI hE rfl (HT) fun a hE=>Xs (seg:=[(Value.int .u64 (IntKind.u64.wrap ((IntKind.u64.wrap (p0.2 * 6364136223846793005)) + 1442695040888963407)))]) hE hM Za rfl rfl rfl Af rfl (Th (pre:=[[v0_0],[vI p0.1]]) ck rfl) Aw (Wj (pre:=[[v0_0],[vI p0.1]]) ck rfl) fun w a hM hE=>Ze (Zc (Zd hE rfl fun a hE=>Yw hE Za ld rfl ?_))))); intro a hE
  refine ZI hE rfl (HT) fun a hE=>ZX (v:=(Value.int .u64 (IntKind.u64.wrap ((IntKind.u64.wrap (p0.2 * 6364136223846793005)) + 1442695040888963407)))) hE rfl Af rfl (At.cat (pre:=[[v0_0],[vI p0.1]]) hM.rawAt0 ck) fun a hE=>Ke hE Za ld rfl rfl (JD _ _ (by decide)) fun a hE=>Zk hE rfl rfl rfl fun a hE=>Qm hE Za ld rfl Tryz.underlying44 Tryz.underlying2 fun a hE=>Zb hE rfl fun a hE=>Ze ?_
  obtain ⟨j2,hl3,hF4⟩:=bind_some hF
  refine Zx (fun a w=>Env 58 a [(1,vI p1),(5,vI j2.2)] ∧ M St W w [raw pb0 (cat [[v0_0],[vI j2.1],[(Value.int .u64 (IntKind.u64.wrap ((IntKind.u64.wrap (p0.2 * 6364136223846793005)) + 1442695040888963407)))]]),r0]) ?_ ?_
  ·skip
   obtain ⟨j5,hl6,hF7⟩:=bind_some hl3
   refine Zx (fun a w=>Env 58 a [(0,(ptr pb0 0)),(1,vI p1),(5,(vI (IntKind.i64.wrap (wru (BitVec.ofInt 64 (YD (IntKind.u64.wrap ((IntKind.u64.wrap (p0.2 * 6364136223846793005)) + 1442695040888963407)) 33) &&& BitVec.ofInt 64 16777215).toNat)))),(33,vT j5)] ∧ M St W w [raw pb0 (cat [[v0_0],[vI p0.1],[(Value.int .u64 (IntKind.u64.wrap ((IntKind.u64.wrap (p0.2 * 6364136223846793005)) + 1442695040888963407)))]]),r0]) ?_ ?_
   ·skip
    refine YA [24,25,26,27,28,29,30,31,32,33] Wb rfl rfl (by decide) rfl hE hM (qsP (fun z=>Zh z.E Za ld rfl (kr0 rfl)) (qsP (fun z=>Yw z.E Za ld rfl (kr0 rfl)) (qsP (fun z=>Zv z.E Za ld rfl (As) (kr0 rfl)) (qsP (fun z=>ZE (v:=(vI p0.1)) z.E Za ld rfl ty3 rfl (At.cat (pre:=[[v0_0]]) (z.M.rawAt0) ck) (kr0 rfl)) (qsP (fun z=>Zh z.E Za ld rfl (kr0 rfl)) (qsP (fun z=>Yw z.E Za ld rfl (kr0 rfl)) (qsP (fun z=>Zv z.E Za ld rfl (kS) (kr0 rfl)) (qsP (fun z=>ZE (v:=v0_0) z.E Za ld rfl YS rfl (At.cat (pre:=[]) (z.M.rawAt0) cl0) (kr0 rfl)) (qsP (fun z=>XN z.E Za ld rfl Tryz.underlying22 (z.M.rd hv0_0) (kr0 rfl)) (qsP (fun z=>ZJ z.E Za ld rfl rfl rfl (kr0 rfl)) qs0)))))))))) ?_
    ·intro a w u hE hM
     refine Zj ?_
     obtain rfl:=Option.some.inj hl6
     refine Zi ?_
     exact ⟨hE.sub ⟨rfl,rfl,rfl,rfl,trivial⟩,hM⟩
   ·skip
    rintro a w ⟨hE,hM⟩
    refine Zm hE rfl ?_ ?_
    ·intro hb10
     have hF7:=Zn hF7 hb10
     obtain ⟨j11,hl12,hF13⟩:=bind_some hF7
     refine Zx (fun a w=>Env 58 a [(0,(ptr pb0 0)),(1,vI p1),(5,vI j11)] ∧ M St W w [raw pb0 (cat [[v0_0],[vI p0.1],[(Value.int .u64 (IntKind.u64.wrap ((IntKind.u64.wrap (p0.2 * 6364136223846793005)) + 1442695040888963407)))]]),r0]) ?_ ?_
     ·skip
      obtain ⟨x15,hi17,hl12⟩:=bix hl12
      refine YA [34,35,36,37,38,39,40,41,42,43,44,45,46] Wb rfl rfl (by decide) rfl hE hM (qsP (fun z=>Zh z.E Za ld rfl (kr0 rfl)) (qsP (fun z=>Zh z.E Za ld rfl (kr0 rfl)) (qsP (fun z=>Yw z.E Za ld rfl (kr0 rfl)) (qsP (fun z=>Zv z.E Za ld rfl (kS) (kr0 rfl)) (qsP (fun z=>ZE (v:=v0_0) z.E Za ld rfl YS rfl (At.cat (pre:=[]) (z.M.rawAt0) cl0) (kr0 rfl)) (qsP (fun z=>Zh z.E Za ld rfl (kr0 rfl)) (qsP (fun z=>Yw z.E Za ld rfl (kr0 rfl)) (qsP (fun z=>Zv z.E Za ld rfl (As) (kr0 rfl)) (qsP (fun z=>ZE (v:=(vI p0.1)) z.E Za ld rfl ty3 rfl (At.cat (pre:=[[v0_0]]) (z.M.rawAt0) ck) (kr0 rfl)) (qsP (fun z=>ZA z.E Za ld rfl rfl Tryz.underlying22 ty5 (z.M.rd hv0_0) hi17.1 (kr0 rfl)) (qsP (fun z=>ZE (v:=(vB x15)) z.E Za ld rfl ty5 rfl (ZS (z.M.rd hv0_0) hi17.2) (kr0 rfl)) (qsP (fun z=>TA z.E Za ld rfl Tryz.underlying5 Tryz.underlying2 (kr0 rfl)) (qsP (v:=(vI (wr ((IntKind.i64.wrap (wru (BitVec.ofInt 64 (YD (IntKind.u64.wrap ((IntKind.u64.wrap (p0.2 * 6364136223846793005)) + 1442695040888963407)) 33) &&& BitVec.ofInt 64 16777215).toNat)) + (bI x15))))) (fun z=>ZJ z.E Za ld rfl rfl rfl (kr0 rfl)) qs0))))))))))))) ?_
      ·intro a w u hE hM
       refine Zb hE rfl fun a hE=>Zj ?_
       obtain rfl:=Option.some.inj hl12
       refine Zi ?_
       exact ⟨hE.sub ⟨rfl,rfl,rfl,trivial⟩,hM⟩
     ·skip
      rintro a w ⟨hE,hM⟩
      refine wp_region_lit (Zd hE rfl fun a hE=>Zd hE rfl fun a hE=>Yw hE Za ld rfl fun a hE=>ZI hE rfl (As) fun a hE=>ZX (v:=(vI p0.1)) hE rfl ty3 rfl (At.cat (pre:=[[v0_0]]) hM.rawAt0 ck) fun a hE=>Zk hE rfl rfl rfl fun a hE=>Yw hE Za ld rfl fun a hE=>ZI hE rfl (As) fun a hE=>Xs (seg:=[(vI (wr (p0.1 + 1)))]) hE hM Za rfl rfl rfl ty3 rfl (Th (pre:=[[v0_0]]) ck rfl) (Flat.cell (wr (p0.1 + 1) : Int)) (Wj (pre:=[[v0_0]]) ck rfl) fun w a hM hE=>Zj ?_)
      obtain rfl:=Option.some.inj hF13
      refine Zi ?_
      exact ⟨hE.sub ⟨rfl,rfl,trivial⟩,hM⟩
    ·intro hb10
     have hF7:=Zo hF7 hb10
     refine wp_skip ?_
     obtain rfl:=Option.some.inj hF7
     refine Zi ?_
     exact ⟨hE.sub ⟨rfl,rfl,trivial⟩,hM⟩
  ·skip
   rintro a w ⟨hE,hM⟩
   refine Zc (Zd hE rfl fun a hE=>Zd hE rfl ?_); intro a hE
   obtain ⟨_,e21,hF4⟩:=bind_some hF4
   have e21:=H8 e21
   refine Zk hE rfl rfl (Kj _ _ e21) fun a hE=>Zb hE rfl fun a hE=>Ze ?_
   obtain rfl:=Option.some.inj hF4
   exact wp_ret (Yb hE rfl (Zl hE rfl) ⟨_,rfl,rfl,hM⟩)
def Ya (p0_0 : (List UInt8)) (p0 : (Int × Int)) (p1 : (List Int)) : Option ((Int × Int) × Int) :=
 (Zw p0_0 (p0.1,p0.2) (p1.length : Int)).bind fun r1=>(idx p1 r1.2).bind fun x3=>some ((r1.1.1,r1.1.2),x3)
theorem YG (St : Nat → Prop) (W w0 : World) (r0 : Item) (pb0 : Nat) (p0_0 : (List UInt8)) (v0_0 : Value) (hv0_0 : Rep.sat St W p0_0 [v0_0] []) (p0 : (Int × Int)) (p1 : (List Int)) (v1 : Value) (hM : M St W w0 [raw pb0 (cat [[v0_0],[vI p0.1],[(Value.int .u64 p0.2)]]),osl NoB (p1 : List Int) v1,r0]) (r : (Int × Int) × Int) (hF : Ya p0_0 p0 p1 = some r) :
  Calls Tryz.prog 50 [(ptr pb0 0),v1].toArray w0 (fun en w'=>∃ v,en = .returned v ∧ (v = (vI r.2) ∧ M St W w' [raw pb0 (cat [[v0_0],[vI r.1.1],[(Value.int .u64 r.1.2)]]),osl NoB (p1 : List Int) v1,r0])):=by
 refine ce Tryz.func50 ?_
 intro a hE
 unfold Ya at hF
 refine Zc (Zb hE rfl fun a hE=>Ze (Zc (Zd hE rfl fun a hE=>Zd hE rfl fun a hE=>Zd hE rfl fun a hE=>ZL hE rfl Tryz.underlying27 (hM.sl (pre:=[_]) noB) ?_))); intro a hE
 have hM:=M.tailP (m:=[_]) hM
 obtain ⟨r1,e2,hF⟩:=bind_some hF
 refine Zq hE rfl Tn (ZF _ _ _ _ pb0 p0_0 v0_0 hv0_0 (p0.1,p0.2) (p1.length : Int) hM r1 e2) ?_
 rintro v w a ⟨rfl,hM⟩ hE
 have hM:=M.tailU (m:=[_]) hM
 simp only [List.cons_append,List.nil_append] at hM
 obtain ⟨x3,hi5,hF⟩:=bix hF
 refine ZG hE rfl rfl Tryz.underlying27 ty2 (hM.sl (pre:=[_]) noB) hi5.1 fun a hE=>ZX (v:=(vI x3)) hE rfl ty2 rfl (ZS (hM.sl (pre:=[_]) noB) hi5.2) fun a hE=>Zb hE rfl fun a hE=>Ze ?_
 obtain rfl:=Option.some.inj hF
 exact wp_ret (Yb hE rfl (Zl hE rfl) ⟨_,rfl,rfl,hM⟩)
def XV (p0_0 : (List UInt8)) (p0 : (Int × Int)) : Option ((Int × Int) × Int) :=
 (Uo).bind fun r1=>((Zw p0_0 (p0.1,p0.2) (r1.length : Int)).bind fun r8=>(idx r1 r8.2).bind fun x10=>(Zw p0_0 (r8.1.1,r8.1.2) (r1.length : Int)).bind fun r13=>(idx r1 r13.2).bind fun x15=>(Ya p0_0 (r13.1.1,r13.1.2) ([285,x10,x15] : List Int)).bind fun r20=>some (r20.1.1,r20.1.2,r20.2) : Option (Int × Int × Int)).bind fun j4=>some ((j4.1,j4.2.1),j4.2.2)
theorem Qw (St : Nat → Prop) (W w0 : World) (r0 : Item) (pb0 : Nat) (p0_0 : (List UInt8)) (v0_0 : Value) (hv0_0 : Rep.sat St W p0_0 [v0_0] []) (p0 : (Int × Int)) (hM : M St W w0 [raw pb0 (cat [[v0_0],[vI p0.1],[(Value.int .u64 p0.2)]]),r0]) (r : (Int × Int) × Int) (hF : XV p0_0 p0 = some r) :
  Calls Tryz.prog 90 [(ptr pb0 0)].toArray w0 (fun en w'=>∃ v,en = .returned v ∧ (v = (vI r.2) ∧ M St W w' [raw pb0 (cat [[v0_0],[vI r.1.1],[(Value.int .u64 r.1.2)]]),r0])):=by
 refine ce Tryz.func90 ?_
 intro a hE
 unfold XV at hF
 refine Zc (Zb hE rfl fun a hE=>Ze (Zc ?_))
 obtain ⟨r1,e2,hF⟩:=bind_some hF
 refine Zq hE rfl (cbm Tryz.func126) (Bb _  r1 e2) ?_
 rintro u3 w a ⟨_,rfl,hFr,hK⟩ hE
 have hM:=hM.add hK hFr
 refine Zb hE rfl fun a hE=>Ze ?_
 obtain ⟨j4,hl5,hF6⟩:=bind_some hF
 refine Zx (fun a w=>Env 22 a [(2,vI j4.2.2)] ∧ M St W w [raw pb0 (cat [[v0_0],[vI j4.1],[(Value.int .u64 j4.2.1)]]),r0]) ?_ ?_
 ·skip
  have hM:=hM.pull1
  obtain ⟨r8,e9,hl5⟩:=bind_some hl5
  obtain ⟨x10,hi12,hl5⟩:=bix hl5
  obtain ⟨r13,e14,hl5⟩:=bind_some hl5
  obtain ⟨x15,hi17,hl5⟩:=bix hl5
  refine Wo (its:=[osl NoB (r1 : List Int) u3,r0]) (mk:=([([5,12],fun bs _=>(tog (bs.getD 0 false) (raw pb0 (cat [[v0_0],[vI p0.1],[(Value.int .u64 p0.2)]])) (tog (bs.getD 1 false) (raw pb0 (cat [[v0_0],[vI r8.1.1],[(Value.int .u64 r8.1.2)]])) (raw pb0 (cat [[v0_0],[vI r13.1.1],[(Value.int .u64 r13.1.2)]]))))),mkO 15 (fun v=>osl NoB (([285,x10,x15] : List Int) : List Int) v)] : Mk)) [5,6,7,8,9,10,11,12,13,14,15,16,17,18,19,20] Wb rfl rfl (by decide) rfl hE (fun u=>M.qS (M.qE (M.q0 hM.drew u) emO) fun _=>rfl) (qsP (fun z=>Zh z.E Za ld rfl (kr0 rfl)) (qsP (fun z=>Zh z.E Za ld rfl (kr0 rfl)) (qsP (fun z=>Zh z.E Za ld rfl (kr0 rfl)) (qsP (fun z=>Zh z.E Za ld rfl (kr0 rfl)) (qsP (fun z=>XN z.E Za ld rfl Tryz.underlying27 (z.M.sl (pre:=[]) noB) (kr0 rfl)) (qsV (v:=(vI r8.2)) ?_ (qsP (fun z=>ZA z.E Za ld rfl rfl Tryz.underlying27 ty2 (z.M.sl (pre:=[]) noB) hi12.1 (kr0 rfl)) (qsP (fun z=>ZE (v:=(vI x10)) z.E Za ld rfl ty2 rfl (ZS (z.M.sl (pre:=[]) noB) hi12.2) (kr0 rfl)) (qsP (fun z=>Zh z.E Za ld rfl (kr0 rfl)) (qsP (fun z=>Zh z.E Za ld rfl (kr0 rfl)) (qsP (fun z=>Zh z.E Za ld rfl (kr0 rfl)) (qsP (fun z=>XN z.E Za ld rfl Tryz.underlying27 (z.M.sl (pre:=[]) noB) (kr0 rfl)) (qsV (v:=(vI r13.2)) ?_ (qsP (fun z=>ZA z.E Za ld rfl rfl Tryz.underlying27 ty2 (z.M.sl (pre:=[]) noB) hi17.1 (kr0 rfl)) (qsP (fun z=>ZE (v:=(vI x15)) z.E Za ld rfl ty2 rfl (ZS (z.M.sl (pre:=[]) noB) hi17.2) (kr0 rfl)) (qsM (pr:=fun v=>True) ?_ qs0)))))))))))))))) ?_
  ·intro a w ux7 D z
   have hE:=z.E
   have hD : D 5 = false:=z.F
   have hM:=z.M.togA (pre:=[_,_]) hD
   have hNx : D 12 = false:=offD (j:=12) (k:=2) z.c rfl rfl rfl hD
   have hM:=M.tailP (m:=[_]) hM.pull2
   refine Zq hE rfl Tn (ZF _ _ _ _ pb0 p0_0 v0_0 hv0_0 (p0.1,p0.2) (r1.length : Int) hM r8 e9) ?_
   rintro v w a ⟨rfl,hM⟩ hE
   have hM:=M.tailU (m:=[_]) hM
   simp only [List.cons_append,List.nil_append] at hM
   exact ⟨_,rfl,hE,M.qTogS (p:=([5,12],fun bs _=>(tog (bs.getD 0 false) (raw pb0 (cat [[v0_0],[vI p0.1],[(Value.int .u64 p0.2)]])) (tog (bs.getD 1 false) (raw pb0 (cat [[v0_0],[vI r8.1.1],[(Value.int .u64 r8.1.2)]])) (raw pb0 (cat [[v0_0],[vI r13.1.1],[(Value.int .u64 r13.1.2)]])))))) (mk1:=[]) (mk2:=[_]) hM rfl (by show tog (US D 5 5) (raw pb0 (cat [[v0_0],[vI p0.1],[(Value.int .u64 p0.2)]])) (tog (US D 5 12) (raw pb0 (cat [[v0_0],[vI r8.1.1],[(Value.int .u64 r8.1.2)]])) (raw pb0 (cat [[v0_0],[vI r13.1.1],[(Value.int .u64 r13.1.2)]]))) = _; rw [tg1 updS,tg0 (updN (i:=5) hNx (by decide))])⟩
  ·intro a w ux7 D z
   have hE:=z.E
   have hD : D 12 = false:=z.F
   have hM:=z.M
   have dC5 : D 5 = true:=z.p 2 _ rfl rfl
   have hM:=M.tailP (m:=[_]) (((hM.togB (pre:=[_,_]) dC5).togA (pre:=[_,_]) hD).pull2)
   refine Zq hE rfl Tn (ZF _ _ _ _ pb0 p0_0 v0_0 hv0_0 (r8.1.1,r8.1.2) (r1.length : Int) hM r13 e14) ?_
   rintro v w a ⟨rfl,hM⟩ hE
   have hM:=M.tailU (m:=[_]) hM
   simp only [List.cons_append,List.nil_append] at hM
   exact ⟨_,rfl,hE,M.qTogS (p:=([5,12],fun bs _=>(tog (bs.getD 0 false) (raw pb0 (cat [[v0_0],[vI p0.1],[(Value.int .u64 p0.2)]])) (tog (bs.getD 1 false) (raw pb0 (cat [[v0_0],[vI r8.1.1],[(Value.int .u64 r8.1.2)]])) (raw pb0 (cat [[v0_0],[vI r13.1.1],[(Value.int .u64 r13.1.2)]])))))) (mk1:=[]) (mk2:=[_]) hM rfl (by show tog (US D 12 5) (raw pb0 (cat [[v0_0],[vI p0.1],[(Value.int .u64 p0.2)]])) (tog (US D 12 12) (raw pb0 (cat [[v0_0],[vI r8.1.1],[(Value.int .u64 r8.1.2)]])) (raw pb0 (cat [[v0_0],[vI r13.1.1],[(Value.int .u64 r13.1.2)]]))) = _; rw [tg1 (updK dC5),tg1 updS])⟩
  ·intro a w ux7 D z
   have hE:=z.E
   have hD : D 15 = false:=z.F
   have hM:=z.M
   exact ZD (xs:=[.const (vI 285),.tmp 12,.tmp 19]) (l:=([285,x10,x15] : List Int)) (vs:=[vI 285,vI x10,vI x15]) hE hM Za ld rfl rfl Tryz.underlying27 ty2 rfl (by decide) rfl fun u18 w a hM hE=>⟨_,_,rfl,hE,M.qFill (mk1:=[_]) (mk2:=[]) (f:=(fun v=>osl NoB (([285,x10,x15] : List Int) : List Int) v)) hM rfl hD,trivial⟩
  ·intro a w ux7 D hE hM hG hall
   have d5:=hall 5 (by decide)
   have d12:=hall 12 (by decide)
   have d15:=hall 15 (by decide)
   have hM:=M.tailP (m:=[_,_]) (((((hM.togB (pre:=[_,_]) d5).togB (pre:=[_,_]) d12).sure (pre:=[_,_,_]) d15).pull3).pull3)
   obtain ⟨r20,e21,hl5⟩:=bind_some hl5
   refine Zq hE rfl Bp (YG _ _ _ _ pb0 p0_0 v0_0 hv0_0 (r13.1.1,r13.1.2) ([285,x10,x15] : List Int) (ux7 15) hM r20 e21) ?_
   rintro v w a ⟨rfl,hM⟩ hE
   have hM:=M.tailU (m:=[_,_]) hM
   simp only [List.cons_append,List.nil_append] at hM
   refine Zb hE rfl fun a hE=>Zj ?_
   obtain rfl:=Option.some.inj hl5
   refine Zi ?_
   have hM:=((hM.pull3.pull1.pull3).drop.pull2).drop
   exact ⟨hE.sub ⟨rfl,trivial⟩,hM⟩
 ·skip
  rintro a w ⟨hE,hM⟩
  obtain rfl:=Option.some.inj hF6
  exact wp_ret (Yb hE rfl (Zl hE rfl) ⟨_,rfl,rfl,hM⟩)
def YB (p0_0 : (List UInt8)) (p0 : (Int × Int)) : Option ((Int × Int) × UInt8) :=
 (Zw p0_0 (p0.1,p0.2) 4).bind fun r1=>(Zw p0_0 (r1.1.1,r1.1.2) 256).bind fun r3=>(Zw p0_0 (r3.1.1,r3.1.2) 256).bind fun r5=>(Ya p0_0 (r5.1.1,r5.1.2) ([r1.2,r3.2,r5.2,255] : List Int)).bind fun r9=>some ((r9.1.1,r9.1.2),Yp r9.2)
theorem X8 (St : Nat → Prop) (W w0 : World) (r0 : Item) (pb0 : Nat) (p0_0 : (List UInt8)) (v0_0 : Value) (hv0_0 : Rep.sat St W p0_0 [v0_0] []) (p0 : (Int × Int)) (hM : M St W w0 [raw pb0 (cat [[v0_0],[vI p0.1],[(Value.int .u64 p0.2)]]),r0]) (r : (Int × Int) × UInt8) (hF : YB p0_0 p0 = some r) :
  Calls Tryz.prog 38 [(ptr pb0 0)].toArray w0 (fun en w'=>∃ v,en = .returned v ∧ (v = (vB r.2) ∧ M St W w' [raw pb0 (cat [[v0_0],[vI r.1.1],[(Value.int .u64 r.1.2)]]),r0])):=by
 refine ce Tryz.func38 ?_
 intro a hE
 unfold YB at hF
 refine Zc (Zb hE rfl fun a hE=>Ze (Zc (Zd hE rfl fun a hE=>Zd hE rfl ?_))); intro a hE
 have hM:=M.tailP (m:=[_]) hM
 obtain ⟨r1,e2,hF⟩:=bind_some hF
 refine Zq hE rfl Tn (ZF _ _ _ _ pb0 p0_0 v0_0 hv0_0 (p0.1,p0.2) 4 hM r1 e2) ?_
 rintro v w a ⟨rfl,hM⟩ hE
 have hM:=M.tailU (m:=[_]) hM
 simp only [List.cons_append,List.nil_append] at hM
 refine Zd hE rfl ?_; intro a hE
 have hM:=M.tailP (m:=[_]) hM
 obtain ⟨r3,e4,hF⟩:=bind_some hF
 refine Zq hE rfl Tn (ZF _ _ _ _ pb0 p0_0 v0_0 hv0_0 (r1.1.1,r1.1.2) 256 hM r3 e4) ?_
 rintro v w a ⟨rfl,hM⟩ hE
 have hM:=M.tailU (m:=[_]) hM
 simp only [List.cons_append,List.nil_append] at hM
 refine Zd hE rfl ?_; intro a hE
 have hM:=M.tailP (m:=[_]) hM
 obtain ⟨r5,e6,hF⟩:=bind_some hF
 refine Zq hE rfl Tn (ZF _ _ _ _ pb0 p0_0 v0_0 hv0_0 (r3.1.1,r3.1.2) 256 hM r5 e6) ?_
 rintro v w a ⟨rfl,hM⟩ hE
 have hM:=M.tailU (m:=[_]) hM
 simp only [List.cons_append,List.nil_append] at hM
 refine ZD (xs:=[.tmp 5,.tmp 7,.tmp 9,.const (vI 255)]) (l:=([r1.2,r3.2,r5.2,255] : List Int)) (vs:=[vI r1.2,vI r3.2,vI r5.2,vI 255]) hE hM Za ld rfl rfl Tryz.underlying27 ty2 rfl (by decide) rfl ?_; intro u7 w a hM hE
 have hM:=M.tailP (m:=[_,_]) hM.pull1
 obtain ⟨r9,e10,hF⟩:=bind_some hF
 refine Zq hE rfl Bp (YG _ _ _ _ pb0 p0_0 v0_0 hv0_0 (r5.1.1,r5.1.2) ([r1.2,r3.2,r5.2,255] : List Int) u7 hM r9 e10) ?_
 rintro v w a ⟨rfl,hM⟩ hE
 have hM:=M.tailU (m:=[_,_]) hM
 simp only [List.cons_append,List.nil_append] at hM
 refine TH hE Za ld rfl Tryz.underlying2 Tryz.underlying5 fun a hE=>Zb hE rfl fun a hE=>Ze ?_
 obtain rfl:=Option.some.inj hF
 have hM:=(hM.pull2.pull1.pull2).drop
 exact wp_ret (Yb hE rfl (Zl hE rfl) ⟨_,rfl,rfl,hM⟩)
def VH (p0_0 : (List UInt8)) (s18 : Int × Int × (List UInt8) × Int) : Option (Fl (Int × Int × (List UInt8) × Int) (Int × Int × (List UInt8))) :=
 if (decide (s18.2.2.2 > 0)) = true then ((YB p0_0 (s18.1,s18.2.1)).bind fun r25=>(app 1 s18.2.2.1 ([r25.2] : List UInt8)).bind fun l29=>some (Fl.nx (r25.1.1,r25.1.2,(s18.2.2.1 ++ ([r25.2] : List UInt8)),wr (s18.2.2.2 - 1)))) else (some (Fl.ex (s18.1,s18.2.1,s18.2.2.1)))
def Xm (p0_0 : (List UInt8)) (p0 : (Int × Int)) (p1 : Int) : Option ((Int × Int) × (List UInt8)) :=
 (Zw p0_0 (p0.1,p0.2) (wr ((if 5 < p1 then 5 else p1) + 1))).bind fun r3=>(Zw p0_0 (r3.1.1,r3.1.2) (wr ((if 40 < p1 then 40 else p1) + 1))).bind fun r5=>(Zw p0_0 (r5.1.1,r5.1.2) (wr (p1 + 1))).bind fun r7=>(Ya p0_0 (r7.1.1,r7.1.2) ([r3.2,r5.2,r7.2] : List Int)).bind fun r11=>(ZH (VH p0_0) (r11.1.1,r11.1.2,([] : List UInt8),r11.2)).bind fun j13=>some ((j13.1,j13.2.1),j13.2.2)
theorem Tm (St : Nat → Prop) (W w0 : World) (r0 : Item) (pb0 : Nat) (p0_0 : (List UInt8)) (v0_0 : Value) (hv0_0 : Rep.sat St W p0_0 [v0_0] []) (p0 : (Int × Int)) (p1 : Int) (hM : M St W w0 [raw pb0 (cat [[v0_0],[vI p0.1],[(Value.int .u64 p0.2)]]),r0]) (r : (Int × Int) × (List UInt8)) (hF : Xm p0_0 p0 p1 = some r) :
  Calls Tryz.prog 66 [(ptr pb0 0),vI p1].toArray w0 (fun en w'=>∃ v,en = .returned v ∧ (∃ (y1 : Value),v = y1 ∧ M St W w' [raw pb0 (cat [[v0_0],[vI r.1.1],[(Value.int .u64 r.1.2)]]),osl NoB (r.2 : List UInt8) y1,r0])):=by
 refine ce Tryz.func66 ?_
 intro a hE
 unfold Xm at hF
 refine Zc (Zb hE rfl fun a hE=>Ze (Zc (ZD (xs:=[]) (l:=([] : List UInt8)) (vs:=[]) hE hM Za ld rfl rfl Tryz.underlying22 ty5 rfl (by decide) rfl fun u1 w a hM hE=>Zb hE rfl fun a hE=>Ze (wp_seq (Zc (Zd hE rfl fun a hE=>Zd hE rfl fun a hE=>Zd hE rfl fun a hE=>s_min hE Za ld rfl rfl fun a hE=>Zk hE rfl rfl rfl ?_)))))); intro a hE
 have hM:=M.tailP (m:=[_]) hM.pull1
 obtain ⟨r3,e4,hF⟩:=bind_some hF
 refine Zq hE rfl Tn (ZF _ _ _ _ pb0 p0_0 v0_0 hv0_0 (p0.1,p0.2) (wr ((if 5 < p1 then 5 else p1) + 1)) hM r3 e4) ?_
 rintro v w a ⟨rfl,hM⟩ hE
 have hM:=M.tailU (m:=[_]) hM
 simp only [List.cons_append,List.nil_append] at hM
 refine Zd hE rfl fun a hE=>Zd hE rfl fun a hE=>s_min hE Za ld rfl rfl fun a hE=>Zk hE rfl rfl rfl ?_; intro a hE
 have hM:=M.tailP (m:=[_]) hM
 obtain ⟨r5,e6,hF⟩:=bind_some hF
 refine Zq hE rfl Tn (ZF _ _ _ _ pb0 p0_0 v0_0 hv0_0 (r3.1.1,r3.1.2) (wr ((if 40 < p1 then 40 else p1) + 1)) hM r5 e6) ?_
 rintro v w a ⟨rfl,hM⟩ hE
 have hM:=M.tailU (m:=[_]) hM
 simp only [List.cons_append,List.nil_append] at hM
 refine Zd hE rfl fun a hE=>Zd hE rfl fun a hE=>Zk hE rfl rfl rfl ?_; intro a hE
 have hM:=M.tailP (m:=[_]) hM
 obtain ⟨r7,e8,hF⟩:=bind_some hF
 refine Zq hE rfl Tn (ZF _ _ _ _ pb0 p0_0 v0_0 hv0_0 (r5.1.1,r5.1.2) (wr (p1 + 1)) hM r7 e8) ?_
 rintro v w a ⟨rfl,hM⟩ hE
 have hM:=M.tailU (m:=[_]) hM
 simp only [List.cons_append,List.nil_append] at hM
 refine ZD (xs:=[.tmp 13,.tmp 18,.tmp 22]) (l:=([r3.2,r5.2,r7.2] : List Int)) (vs:=[vI r3.2,vI r5.2,vI r7.2]) hE hM Za ld rfl rfl Tryz.underlying27 ty2 rfl (by decide) rfl ?_; intro u9 w a hM hE
 have hM:=M.tailP (m:=[_,_]) hM.pull1
 obtain ⟨r11,e12,hF⟩:=bind_some hF
 refine Zq hE rfl Bp (YG _ _ _ _ pb0 p0_0 v0_0 hv0_0 (r7.1.1,r7.1.2) ([r3.2,r5.2,r7.2] : List Int) u9 hM r11 e12) ?_
 rintro v w a ⟨rfl,hM⟩ hE
 have hM:=M.tailU (m:=[_,_]) hM
 simp only [List.cons_append,List.nil_append] at hM
 refine Zb hE rfl fun a hE=>Ze ?_
 obtain ⟨j13,hl14,hF15⟩:=bind_some hF
 refine ZP (fun a w=>∃ (u16 : Value),Env 35 a [(5,u16)] ∧ M St W w [raw pb0 (cat [[v0_0],[vI j13.1],[(Value.int .u64 j13.2.1)]]),r0,osl NoB (j13.2.2 : List UInt8) u16]) ?_ ?_
 ·skip
  refine wp_block ?_
  have hM:=(hM.pull2.pull3.pull2.pull3).drop
  refine ZK (fun (s18 : Int × Int × (List UInt8) × Int) a w=>∃ (u19 : Value),Env 35 a [(0,(ptr pb0 0)),(5,u19),(6,vI s18.2.2.2)] ∧ M St W w [raw pb0 (cat [[v0_0],[vI s18.1],[(Value.int .u64 s18.2.1)]]),r0,osl NoB (s18.2.2.1 : List UInt8) u19]) hl14 ⟨u1,hE.sub ⟨rfl,rfl,rfl,trivial⟩,hM⟩ ?_
  rintro s18 a w ⟨u19,hE,hM⟩ o23 hs21 hx22
  unfold VH at hs21
  refine wp_seq (Zc (Zd hE rfl fun a hE=>Zk hE rfl rfl rfl fun a hE=>Ze ?_))
  refine Zm hE rfl ?_ ?_
  ·intro hb24
   have hs21:=Zn hs21 hb24
   refine wp_skip (Zu (wp_seq (wp_block (wp_region_lit (Zd hE rfl fun a hE=>Zd hE rfl ?_))))); intro a hE
   have hM:=M.tailP (m:=[_]) hM
   obtain ⟨r25,e26,hs21⟩:=bind_some hs21
   refine Zq hE rfl cb38 (X8 _ _ _ _ pb0 p0_0 v0_0 hv0_0 (s18.1,s18.2.1) hM r25 e26) ?_
   rintro v w a ⟨rfl,hM⟩ hE
   have hM:=M.tailU (m:=[_]) hM
   simp only [List.cons_append,List.nil_append] at hM
   refine ZD (xs:=[.tmp 31]) (l:=([r25.2] : List UInt8)) (vs:=[vB r25.2]) hE hM Za ld rfl rfl Tryz.underlying22 ty5 rfl (by decide) rfl ?_; intro u27 w a hM hE
   obtain ⟨l29,e30,hs21⟩:=bind_some hs21
   obtain ⟨e33,rfl⟩:=ZY e30
   have hM:=hM.pull3
   refine Z9 hE hM Za ld rfl rfl (hM.sl (pre:=[_]) noB) Tryz.underlying22 ty5 rfl (by decide) e33 fun u31 w a hM hE=>Zb hE rfl fun a hE=>Zj (Yg (Zu (wp_region_lit (Zd hE rfl fun a hE=>Zk hE rfl rfl rfl fun a hE=>Zb hE rfl fun a hE=>Zj (Zi ?_)))))
   have hM:=(hM.pull3.pull3.pull3).drop
   exact ⟨_,(ois hs21),u31,hE.sub ⟨rfl,rfl,rfl,trivial⟩,hM⟩
  ·intro hb24
   have hs21:=Zo hs21 hb24
   refine wp_exit (Zs (Zs (Ys ?_)))
   obtain rfl:=hx22 _ (ois hs21)
   refine Zi ?_
   exact ⟨u19,hE.sub ⟨rfl,trivial⟩,hM⟩
 ·skip
  rintro a w ⟨u16,hE,hM⟩
  refine Zu (Zc (Zd hE rfl fun a hE=>Zb hE rfl fun a hE=>Ze ?_))
  obtain rfl:=Option.some.inj hF15
  have hM:=hM.pull1.pull2.pull2
  exact wp_ret (Yb hE rfl (Zl hE rfl) ⟨_,rfl,u16,rfl,hM⟩)
def UQ (p0_0 : (List UInt8)) (s8 : Int × Int × Int × (List UInt8)) : Option (Fl (Int × Int × Int × (List UInt8)) (Int × Int × (List UInt8))) :=
 if (decide (s8.2.2.1 > 0)) = true then ((YB p0_0 (s8.1,s8.2.1)).bind fun r15=>(app 1 s8.2.2.2 ([r15.2] : List UInt8)).bind fun l19=>some (Fl.nx (r15.1.1,r15.1.2,wr (s8.2.2.1 - 1),(s8.2.2.2 ++ ([r15.2] : List UInt8))))) else (some (Fl.ex (s8.1,s8.2.1,s8.2.2.2)))
def Y9 (p0_0 : (List UInt8)) (p0 : (Int × Int)) (p1 : Int) : Option ((Int × Int) × (List UInt8)) :=
 (ZH (UQ p0_0) (p0.1,p0.2,p1,([] : List UInt8))).bind fun j3=>some ((j3.1,j3.2.1),j3.2.2)
theorem VY (St : Nat → Prop) (W w0 : World) (r0 : Item) (pb0 : Nat) (p0_0 : (List UInt8)) (v0_0 : Value) (hv0_0 : Rep.sat St W p0_0 [v0_0] []) (p0 : (Int × Int)) (p1 : Int) (hM : M St W w0 [raw pb0 (cat [[v0_0],[vI p0.1],[(Value.int .u64 p0.2)]]),r0]) (r : (Int × Int) × (List UInt8)) (hF : Y9 p0_0 p0 p1 = some r) :
  Calls Tryz.prog 63 [(ptr pb0 0),vI p1].toArray w0 (fun en w'=>∃ v,en = .returned v ∧ (∃ (y1 : Value),v = y1 ∧ M St W w' [raw pb0 (cat [[v0_0],[vI r.1.1],[(Value.int .u64 r.1.2)]]),osl NoB (r.2 : List UInt8) y1,r0])):=by
 refine ce Tryz.func63 ?_
 intro a hE
 unfold Y9 at hF
 refine Zc (Zb hE rfl fun a hE=>Ze (Zc (ZD (xs:=[]) (l:=([] : List UInt8)) (vs:=[]) hE hM Za ld rfl rfl Tryz.underlying22 ty5 rfl (by decide) rfl fun u1 w a hM hE=>Zb hE rfl fun a hE=>Ze ?_)))
 obtain ⟨j3,hl4,hF5⟩:=bind_some hF
 refine Zx (fun a w=>∃ (u6 : Value),Env 17 a [(5,u6)] ∧ M St W w [raw pb0 (cat [[v0_0],[vI j3.1],[(Value.int .u64 j3.2.1)]]),r0,osl NoB (j3.2.2 : List UInt8) u6]) ?_ ?_
 ·skip
  refine wp_block ?_
  have hM:=hM.pull2.pull2
  refine ZK (fun (s8 : Int × Int × Int × (List UInt8)) a w=>∃ (u9 : Value),Env 17 a [(0,(ptr pb0 0)),(1,vI s8.2.2.1),(5,u9)] ∧ M St W w [raw pb0 (cat [[v0_0],[vI s8.1],[(Value.int .u64 s8.2.1)]]),r0,osl NoB (s8.2.2.2 : List UInt8) u9]) hl4 ⟨u1,hE.sub ⟨rfl,rfl,rfl,trivial⟩,hM⟩ ?_
  rintro s8 a w ⟨u9,hE,hM⟩ o13 hs11 hx12
  unfold UQ at hs11
  refine wp_seq (Zc (Zd hE rfl fun a hE=>Zk hE rfl rfl rfl fun a hE=>Ze ?_))
  refine Zm hE rfl ?_ ?_
  ·intro hb14
   have hs11:=Zn hs11 hb14
   refine wp_skip (Zu (wp_seq (wp_block (wp_region_lit (Zd hE rfl fun a hE=>Zd hE rfl ?_))))); intro a hE
   have hM:=M.tailP (m:=[_]) hM
   obtain ⟨r15,e16,hs11⟩:=bind_some hs11
   refine Zq hE rfl cb38 (X8 _ _ _ _ pb0 p0_0 v0_0 hv0_0 (s8.1,s8.2.1) hM r15 e16) ?_
   rintro v w a ⟨rfl,hM⟩ hE
   have hM:=M.tailU (m:=[_]) hM
   simp only [List.cons_append,List.nil_append] at hM
   refine ZD (xs:=[.tmp 13]) (l:=([r15.2] : List UInt8)) (vs:=[vB r15.2]) hE hM Za ld rfl rfl Tryz.underlying22 ty5 rfl (by decide) rfl ?_; intro u17 w a hM hE
   obtain ⟨l19,e20,hs11⟩:=bind_some hs11
   obtain ⟨e23,rfl⟩:=ZY e20
   have hM:=hM.pull3
   refine Z9 hE hM Za ld rfl rfl (hM.sl (pre:=[_]) noB) Tryz.underlying22 ty5 rfl (by decide) e23 fun u21 w a hM hE=>Zb hE rfl fun a hE=>Zj (Yg (Zu (wp_region_lit (Zd hE rfl fun a hE=>Zk hE rfl rfl rfl fun a hE=>Zb hE rfl fun a hE=>Zj (Zi ?_)))))
   have hM:=(hM.pull3.pull3.pull3).drop
   exact ⟨_,(ois hs11),u21,hE.sub ⟨rfl,rfl,rfl,trivial⟩,hM⟩
  ·intro hb14
   have hs11:=Zo hs11 hb14
   refine wp_exit (Zs (Zs (Ys ?_)))
   obtain rfl:=hx12 _ (ois hs11)
   refine Zi ?_
   exact ⟨u9,hE.sub ⟨rfl,trivial⟩,hM⟩
 ·skip
  rintro a w ⟨u6,hE,hM⟩
  refine Zc (Zd hE rfl fun a hE=>Zb hE rfl fun a hE=>Ze ?_)
  obtain rfl:=Option.some.inj hF5
  have hM:=hM.pull1.pull2.pull2
  exact wp_ret (Yb hE rfl (Zl hE rfl) ⟨_,rfl,u6,rfl,hM⟩)
def Vm (p1 : Int) (r1 : (Int × Int) × Int) (r5 : (Int × Int) × Int) (s14 : (List UInt8) × Int) : Option (Fl ((List UInt8) × Int) (List UInt8)) :=
 if (decide (s14.2 < p1)) = true then ((app 1 s14.1 ([Yp (wr ((Int.tmod (wr ((wr ((wr (1 + r1.2)) - 1)) + (wr (r5.2 * s14.2)))) 255) + 1))] : List UInt8)).bind fun l23=>some (Fl.nx ((s14.1 ++ ([Yp (wr ((Int.tmod (wr ((wr ((wr (1 + r1.2)) - 1)) + (wr (r5.2 * s14.2)))) 255) + 1))] : List UInt8)),wr (s14.2 + 1)))) else (some (Fl.ex s14.1))
def XB (p0_0 : (List UInt8)) (p0 : (Int × Int)) (p1 : Int) : Option ((Int × Int) × (List UInt8)) :=
 (Zw p0_0 (p0.1,p0.2) 255).bind fun r1=>(Ya p0_0 (r1.1.1,r1.1.2) ([1,2,4,7] : List Int)).bind fun r5=>(ZH (Vm p1 r1 r5) (([] : List UInt8),0)).bind fun j9=>((if (decide (p1 > 0)) = true then ((Zw p0_0 (r5.1.1,r5.1.2) 24).bind fun r38=>some (r38.1.1,r38.1.2,r38.2 == 0)) else (some (r5.1.1,r5.1.2,false)) : Option (Int × Int × Bool)).bind fun j34=>if j34.2.2 = true then ((idx j9 (wr (p1 - 1))).bind fun x43=>(Ya p0_0 (j34.1,j34.2.1) ([0,bI x43] : List Int)).bind fun r48=>(idx j9 (0 : Int)).bind fun x50=>some (r48.1.1,r48.1.2,(j9.set ((0 : Int)).toNat (Yp r48.2)))) else (some (j34.1,j34.2.1,j9)) : Option (Int × Int × (List UInt8))).bind fun j29=>some ((j29.1,j29.2.1),j29.2.2)
theorem Qh (St : Nat → Prop) (W w0 : World) (r0 : Item) (pb0 : Nat) (p0_0 : (List UInt8)) (v0_0 : Value) (hv0_0 : Rep.sat St W p0_0 [v0_0] []) (p0 : (Int × Int)) (p1 : Int) (hM : M St W w0 [raw pb0 (cat [[v0_0],[vI p0.1],[(Value.int .u64 p0.2)]]),r0]) (r : (Int × Int) × (List UInt8)) (hF : XB p0_0 p0 p1 = some r) :
  Calls Tryz.prog 49 [(ptr pb0 0),vI p1].toArray w0 (fun en w'=>∃ v,en = .returned v ∧ (∃ (y1 : Value),v = y1 ∧ M St W w' [raw pb0 (cat [[v0_0],[vI r.1.1],[(Value.int .u64 r.1.2)]]),osl NoB (r.2 : List UInt8) y1,r0])):=by
 refine ce Tryz.func49 ?_
 intro a hE
 unfold XB at hF
 refine Zc (Zb hE rfl fun a hE=>Ze (Zc (Zd hE rfl ?_))); intro a hE
 have hM:=M.tailP (m:=[_]) hM
 obtain ⟨r1,e2,hF⟩:=bind_some hF
 refine Zq hE rfl Tn (ZF _ _ _ _ pb0 p0_0 v0_0 hv0_0 (p0.1,p0.2) 255 hM r1 e2) ?_
 rintro v w a ⟨rfl,hM⟩ hE
 have hM:=M.tailU (m:=[_]) hM
 simp only [List.cons_append,List.nil_append] at hM
 refine Zk hE rfl rfl rfl fun a hE=>Zd hE rfl fun a hE=>ZD (xs:=[.const (vI 1),.const (vI 2),.const (vI 4),.const (vI 7)]) (l:=([1,2,4,7] : List Int)) (vs:=[vI 1,vI 2,vI 4,vI 7]) hE hM Za ld rfl rfl Tryz.underlying27 ty2 rfl (by decide) rfl ?_; intro u3 w a hM hE
 have hM:=M.tailP (m:=[_,_]) hM.pull1
 obtain ⟨r5,e6,hF⟩:=bind_some hF
 refine Zq hE rfl Bp (YG _ _ _ _ pb0 p0_0 v0_0 hv0_0 (r1.1.1,r1.1.2) ([1,2,4,7] : List Int) u3 hM r5 e6) ?_
 rintro v w a ⟨rfl,hM⟩ hE
 have hM:=M.tailU (m:=[_,_]) hM
 simp only [List.cons_append,List.nil_append] at hM
 refine ZD (xs:=[]) (l:=([] : List UInt8)) (vs:=[]) hE hM Za ld rfl rfl Tryz.underlying22 ty5 rfl (by decide) rfl fun u7 w a hM hE=>Zb hE rfl fun a hE=>Zb hE rfl fun a hE=>Zb hE rfl fun a hE=>Ze (wp_seq (Zc (Zb hE rfl fun a hE=>Ze ?_)))
 obtain ⟨j9,hl10,hF11⟩:=bind_some hF
 refine ZP (fun a w=>∃ (u12 : Value),Env 53 a [(0,(ptr pb0 0)),(1,vI p1),(7,u12)] ∧ M St W w [raw pb0 (cat [[v0_0],[vI r5.1.1],[(Value.int .u64 r5.1.2)]]),r0,osl NoB (j9 : List UInt8) u12]) ?_ ?_
 ·skip
  refine wp_block ?_
  have hM:=(hM.pull3.pull2.pull3).drop
  refine ZK (fun (s14 : (List UInt8) × Int) a w=>∃ (u15 : Value),Env 53 a [(0,(ptr pb0 0)),(1,vI p1),(5,(vI (wr (1 + r1.2)))),(6,vI r5.2),(7,u15),(8,vI s14.2)] ∧ M St W w [raw pb0 (cat [[v0_0],[vI r5.1.1],[(Value.int .u64 r5.1.2)]]),r0,osl NoB (s14.1 : List UInt8) u15]) hl10 ⟨u7,hE.sub ⟨rfl,rfl,rfl,rfl,rfl,rfl,trivial⟩,hM⟩ ?_
  rintro s14 a w ⟨u15,hE,hM⟩ o19 hs17 hx18
  unfold Vm at hs17
  refine wp_seq (Zc (Zd hE rfl fun a hE=>Zd hE rfl fun a hE=>Zk hE rfl rfl rfl fun a hE=>Ze ?_))
  refine Zm hE rfl ?_ ?_
  ·intro hb20
   have hs17:=Zn hs17 hb20
   refine wp_skip (Zu (wp_seq (wp_block (wp_region_lit (Zd hE rfl fun a hE=>Zd hE rfl fun a hE=>Zk hE rfl rfl rfl fun a hE=>Zd hE rfl fun a hE=>Zd hE rfl fun a hE=>Zk hE rfl rfl rfl fun a hE=>Zk hE rfl rfl rfl fun a hE=>Zk hE rfl rfl (Kj _ _ (by decide)) fun a hE=>Zk hE rfl rfl rfl fun a hE=>TH hE Za ld rfl Tryz.underlying2 Tryz.underlying5 fun a hE=>ZD (xs:=[.tmp 30]) (l:=([Yp (wr ((Int.tmod (wr ((wr ((wr (1 + r1.2)) - 1)) + (wr (r5.2 * s14.2)))) 255) + 1))] : List UInt8)) (vs:=[(vB (Yp (wr ((Int.tmod (wr ((wr ((wr (1 + r1.2)) - 1)) + (wr (r5.2 * s14.2)))) 255) + 1))))]) hE hM Za ld rfl rfl Tryz.underlying22 ty5 rfl (by decide) rfl ?_))))); intro u21 w a hM hE
   obtain ⟨l23,e24,hs17⟩:=bind_some hs17
   obtain ⟨e27,rfl⟩:=ZY e24
   have hM:=hM.pull3
   refine Z9 hE hM Za ld rfl rfl (hM.sl (pre:=[_]) noB) Tryz.underlying22 ty5 rfl (by decide) e27 fun u25 w a hM hE=>Zb hE rfl fun a hE=>Zj (Yg (Zu (wp_region_lit (Zd hE rfl fun a hE=>Zk hE rfl rfl rfl fun a hE=>Zb hE rfl fun a hE=>Zj (Zi ?_)))))
   have hM:=(hM.pull3.pull3.pull3).drop
   exact ⟨_,(ois hs17),u25,hE.sub ⟨rfl,rfl,rfl,rfl,rfl,rfl,trivial⟩,hM⟩
  ·intro hb20
   have hs17:=Zo hs17 hb20
   refine wp_exit (Zs (Zs (Ys ?_)))
   obtain rfl:=hx18 _ (ois hs17)
   refine Zi ?_
   exact ⟨u15,hE.sub ⟨rfl,rfl,rfl,trivial⟩,hM⟩
 ·skip
  rintro a w ⟨u12,hE,hM⟩
  refine Zu ?_
  obtain ⟨j29,hl30,hF31⟩:=bind_some hF11
  refine Zx (fun a w=>∃ (u32 : Value),Env 53 a [(7,u32)] ∧ M St W w [raw pb0 (cat [[v0_0],[vI j29.1],[(Value.int .u64 j29.2.1)]]),r0,osl NoB (j29.2.2 : List UInt8) u32]) ?_ ?_
  ·skip
   obtain ⟨j34,hl35,hF36⟩:=bind_some hl30
   refine Zx (fun a w=>Env 53 a [(0,(ptr pb0 0)),(1,vI p1),(7,u12),(39,vT j34.2.2)] ∧ M St W w [raw pb0 (cat [[v0_0],[vI j34.1],[(Value.int .u64 j34.2.1)]]),r0,osl NoB (j9 : List UInt8) u12]) ?_ ?_
   ·skip
    refine wp_region_lit (Zd hE rfl fun a hE=>Zk hE rfl rfl rfl fun a hE=>Zd hE rfl ?_); intro a hE
    refine ZO (decide (p1 > 0)) (fun hb37=>?_) (fun hb37=>?_)
    ·have hl35:=Zn hl35 hb37
     refine Zh hE (Zf hE rfl (lkb rfl hb37)) (by decide) rfl ?_; intro a hE
     have hM:=M.tailP (m:=[_]) hM
     obtain ⟨r38,e39,hl35⟩:=bind_some hl35
     refine ZW hE (Zf hE rfl (lkb rfl hb37)) (by decide) rfl Tn (ZF _ _ _ _ pb0 p0_0 v0_0 hv0_0 (r5.1.1,r5.1.2) 24 hM r38 e39) ?_
     rintro v w a ⟨rfl,hM⟩ hE
     have hM:=M.tailU (m:=[_]) hM
     simp only [List.cons_append,List.nil_append] at hM
     refine ZJ hE (Zf hE rfl (lkb rfl hb37)) (by decide) rfl rfl rfl fun a hE=>ZB hE (lkb rfl hb37) rfl fun a hE=>Zj ?_
     obtain rfl:=Option.some.inj hl35
     refine Zi ?_
     exact ⟨hE.sub ⟨rfl,rfl,rfl,rfl,trivial⟩,hM⟩
    ·have hl35:=Zo hl35 hb37
     refine Zg hE rfl (lkb rfl hb37) rfl (by decide) fun a hE=>Zg hE rfl (lkb rfl hb37) rfl (by decide) fun a hE=>Zg hE rfl (lkb rfl hb37) rfl (by decide) fun a hE=>Zy hE (lkb rfl hb37) rfl fun a hE=>Zj ?_
     obtain rfl:=Option.some.inj hl35
     refine Zi ?_
     exact ⟨hE.sub ⟨rfl,rfl,rfl,rfl,trivial⟩,hM⟩
   ·skip
    rintro a w ⟨hE,hM⟩
    refine Zm hE rfl ?_ ?_
    ·intro hb42
     have hF36:=Zn hF36 hb42
     refine wp_region_lit (Zd hE rfl fun a hE=>Zd hE rfl fun a hE=>Zd hE rfl fun a hE=>Zd hE rfl fun a hE=>Zk hE rfl rfl rfl ?_); intro a hE
     obtain ⟨x43,hi45,hF36⟩:=bix hF36
     refine ZG hE rfl rfl Tryz.underlying22 ty5 (hM.sl (pre:=[_,_]) noB) hi45.1 fun a hE=>ZX (v:=(vB x43)) hE rfl ty5 rfl (ZS (hM.sl (pre:=[_,_]) noB) hi45.2) fun a hE=>TA hE Za ld rfl Tryz.underlying5 Tryz.underlying2 fun a hE=>ZD (xs:=[.const (vI 0),.tmp 47]) (l:=([0,bI x43] : List Int)) (vs:=[vI 0,(vI (bI x43))]) hE hM Za ld rfl rfl Tryz.underlying27 ty2 rfl (by decide) rfl ?_; intro u46 w a hM hE
     have hM:=M.tailP (m:=[_,_]) hM.pull1
     obtain ⟨r48,e49,hF36⟩:=bind_some hF36
     refine Zq hE rfl Bp (YG _ _ _ _ pb0 p0_0 v0_0 hv0_0 (j34.1,j34.2.1) ([0,bI x43] : List Int) u46 hM r48 e49) ?_
     rintro v w a ⟨rfl,hM⟩ hE
     have hM:=M.tailU (m:=[_,_]) hM
     simp only [List.cons_append,List.nil_append] at hM
     refine TH hE Za ld rfl Tryz.underlying2 Tryz.underlying5 ?_; intro a hE
     obtain ⟨x50,hi52,hF36⟩:=bix hF36
     refine ZG hE rfl rfl Tryz.underlying22 ty5 (hM.sl (pre:=[_,_,_]) noB) hi52.1 ?_; intro a hE
     have hM:=hM.pull3
     refine U2 (i:=((0 : Int)).toNat) (k0:=0) (seg:=[(vB (Yp r48.2))]) (xo:=x50) (xn:=Yp r48.2) hE hM Za rfl rfl rfl ty5 rfl (Flat.cell (Yp r48.2 : UInt8)) hi52.2 (TT (m:=1) rfl (by decide)) (ZZ rfl) fun w a hM hE=>Zj ?_
     obtain rfl:=Option.some.inj hF36
     refine Zi ?_
     have hM:=(hM.pull3.pull2.pull3).drop
     exact ⟨u12,hE.sub ⟨rfl,trivial⟩,hM⟩
    ·intro hb42
     have hF36:=Zo hF36 hb42
     refine wp_skip ?_
     obtain rfl:=Option.some.inj hF36
     refine Zi ?_
     exact ⟨u12,hE.sub ⟨rfl,trivial⟩,hM⟩
  ·skip
   rintro a w ⟨u32,hE,hM⟩
   refine Zc (Zd hE rfl fun a hE=>Zb hE rfl fun a hE=>Ze ?_)
   obtain rfl:=Option.some.inj hF31
   have hM:=hM.pull1.pull2.pull2
   exact wp_ret (Yb hE rfl (Zl hE rfl) ⟨_,rfl,u32,rfl,hM⟩)
def W6 (p0 : (List UInt8)) (s5 : Int) (s14 : Int) : Option (Fl Int (Fl Unit Bool)) :=
 if (decide (s14 < s5)) = true then (((idx p0 s5).bind fun x23=>(idx p0 s14).bind fun x26=>some (x23 == x26) : Option (Bool)).bind fun j19=>if j19 = true then (some (Fl.ex (Fl.ex true))) else (some (Fl.nx (wr (s14 + 1))))) else (some (Fl.ex (Fl.nx ())))
def WZ (p0 : (List UInt8)) (s5 : Int) : Option (Fl Int (Fl Unit Bool)) :=
 if (decide (s5 < (p0.length : Int))) = true then ((ZH (W6 p0 s5) 0).bind fun j10=>j10.el (fun s13=>some (Fl.nx (wr (s5 + 1)))) (fun r=>some (Fl.ex (Fl.ex r)))) else (some (Fl.ex (Fl.nx ())))
def Vx (p0 : (List UInt8)) : Option (Bool) :=
 (ZH (WZ p0) 0).bind fun j1=>j1.el (fun s4=>some false) (fun r=>some r)
theorem KX (w0 : World) (p0 : (List UInt8)) (v0_1 : Value) (hv0_1 : Ro w0 p0 [v0_1]) (r : Bool) (hF : Vx p0 = some r) :
  Calls Tryz.prog 107 [v0_1].toArray w0 (Rt w0 (vT r)):=by
 refine ce Tryz.func107 ?_
 intro a hE
 have hM:=M.start w0
 unfold Vx at hF
 refine Zc (Zb hE rfl fun a hE=>Ze (wp_seq (Zc (Zb hE rfl fun a hE=>Ze ?_))))
 obtain ⟨j1,hl2,hF3⟩:=bind_some hF
 refine ZP (fun a w=>∃ s4 : Unit,j1 = Fl.nx s4 ∧ Env 25 a [] ∧ M (Old w0) w0 w []) ?_ ?_
 ·skip
  refine wp_block ?_
  refine ZK (fun (s5 : Int) a w=>Env 25 a [(0,v0_1),(3,vI s5)] ∧ M (Old w0) w0 w []) hl2 ⟨hE.sub ⟨rfl,rfl,trivial⟩,hM⟩ ?_
  rintro s5 a w ⟨hE,hM⟩ o8 hs6 hx7
  unfold WZ at hs6
  refine wp_seq (Zc (Zd hE rfl fun a hE=>Zd hE rfl fun a hE=>ZL hE rfl Tryz.underlying22 (hM.rd hv0_1) fun a hE=>Zk hE rfl rfl rfl fun a hE=>Ze ?_))
  refine Zm hE rfl ?_ ?_
  ·intro hb9
   have hs6:=Zn hs6 hb9
   refine wp_skip (Zu (wp_seq (wp_block (Zc (Zb hE rfl fun a hE=>Ze ?_)))))
   obtain ⟨j10,hl11,hF12⟩:=bind_some hs6
   refine ZP (fun a w=>∃ s13 : Unit,j10 = Fl.nx s13 ∧ Env 25 a [(0,v0_1),(3,vI s5)] ∧ M (Old w0) w0 w []) ?_ ?_
   ·skip
    refine wp_block ?_
    refine ZK (fun (s14 : Int) a w=>Env 25 a [(0,v0_1),(3,vI s5),(4,vI s14)] ∧ M (Old w0) w0 w []) hl11 ⟨hE.sub ⟨rfl,rfl,rfl,trivial⟩,hM⟩ ?_
    rintro s14 a w ⟨hE,hM⟩ o17 hs15 hx16
    unfold W6 at hs15
    refine wp_seq (Zc (Zd hE rfl fun a hE=>Zd hE rfl fun a hE=>Zk hE rfl rfl rfl fun a hE=>Ze ?_))
    refine Zm hE rfl ?_ ?_
    ·intro hb18
     have hs15:=Zn hs15 hb18
     refine wp_skip (Zu (wp_seq (wp_block ?_)))
     obtain ⟨j19,hl20,hF21⟩:=bind_some hs15
     refine Zx (fun a w=>Env 25 a [(0,v0_1),(3,vI s5),(4,vI s14),(24,vT j19)] ∧ M (Old w0) w0 w []) ?_ ?_
     ·skip
      obtain ⟨x23,hi25,hl20⟩:=bix hl20
      obtain ⟨x26,hi28,hl20⟩:=bix hl20
      refine YA [16,17,18,19,20,21,22,23,24] Wb rfl rfl (by decide) rfl hE hM (qsP (fun z=>Zh z.E Za ld rfl (kr0 rfl)) (qsP (fun z=>Zh z.E Za ld rfl (kr0 rfl)) (qsP (fun z=>ZA z.E Za ld rfl rfl Tryz.underlying22 ty5 (z.M.rd hv0_1) hi25.1 (kr0 rfl)) (qsP (fun z=>ZE (v:=(vB x23)) z.E Za ld rfl ty5 rfl (ZS (z.M.rd hv0_1) hi25.2) (kr0 rfl)) (qsP (fun z=>Zh z.E Za ld rfl (kr0 rfl)) (qsP (fun z=>Zh z.E Za ld rfl (kr0 rfl)) (qsP (fun z=>ZA z.E Za ld rfl rfl Tryz.underlying22 ty5 (z.M.rd hv0_1) hi28.1 (kr0 rfl)) (qsP (fun z=>ZE (v:=(vB x26)) z.E Za ld rfl ty5 rfl (ZS (z.M.rd hv0_1) hi28.2) (kr0 rfl)) (qsP (fun z=>ZJ z.E Za ld rfl rfl (AE x23 x26) (kr0 rfl)) qs0))))))))) ?_
      ·intro a w u hE hM
       refine Zj ?_
       obtain rfl:=Option.some.inj hl20
       refine Zi ?_
       exact ⟨hE.sub ⟨rfl,rfl,rfl,rfl,trivial⟩,hM⟩
     ·skip
      rintro a w ⟨hE,hM⟩
      refine Zm hE rfl ?_ ?_
      ·intro hb30
       have hF21:=Zn hF21 hb30
       refine Zc (Zb hE rfl fun a hE=>Ze ?_)
       obtain rfl:=hx16 _ (ois hF21)
       obtain rfl:=hx7 _ (ois hF12)
       obtain rfl:=Option.some.inj hF3
       exact wp_ret (Z4 (Zr (Zr (Z4 (Zr (Z4 (Zr (Zr (Z4 (Zr (Zr (kr1 hE rfl rfl hM.kept))))))))))))
      ·intro hb30
       have hF21:=Zo hF21 hb30
       refine wp_skip (Yg (Zu (wp_region_lit (Zd hE rfl fun a hE=>Zk hE rfl rfl rfl fun a hE=>Zb hE rfl fun a hE=>Zj (Zi ?_)))))
       exact ⟨_,(ois hF21),hE.sub ⟨rfl,rfl,rfl,trivial⟩,hM⟩
    ·intro hb18
     have hs15:=Zo hs15 hb18
     refine wp_exit (Zs (Zs (Ys ?_)))
     obtain rfl:=hx16 _ (ois hs15)
     refine Zi ?_
     exact ⟨(),rfl,hE.sub ⟨rfl,rfl,trivial⟩,hM⟩
   ·skip
    rintro a w ⟨s13,ht,hE,hM⟩
    subst ht
    have hF12:=VQ hF12
    refine Yg (Zu (wp_region_lit (Zd hE rfl fun a hE=>Zk hE rfl rfl rfl fun a hE=>Zb hE rfl fun a hE=>Zj (Zi ?_))))
    exact ⟨_,(ois hF12),hE.sub ⟨rfl,rfl,trivial⟩,hM⟩
  ·intro hb9
   have hs6:=Zo hs6 hb9
   refine wp_exit (Zs (Zs (Ys ?_)))
   obtain rfl:=hx7 _ (ois hs6)
   refine Zi ?_
   exact ⟨(),rfl,hE.sub trivial,hM⟩
 ·skip
  rintro a w ⟨s4,ht,hE,hM⟩
  subst ht
  have hF3:=VQ hF3
  refine Zu (Zc (Zb hE rfl fun a hE=>Ze ?_))
  obtain rfl:=Option.some.inj hF3
  exact wp_ret (kr1 hE rfl rfl hM.kept)
def Vp (p0 : (List UInt8)) : Option (Bool) :=
 (app 1 ([0] : List UInt8) p0).bind fun l3=>(Vx (([0] : List UInt8) ++ p0)).bind fun r8=>some r8
theorem KU (w0 : World) (p0 : (List UInt8)) (v0_1 : Value) (hv0_1 : Ro w0 p0 [v0_1]) (r : Bool) (hF : Vp p0 = some r) :
  Calls Tryz.prog 58 [v0_1].toArray w0 (Rt w0 (vT r)):=by
 refine ce Tryz.func58 ?_
 intro a hE
 have hM:=M.start w0
 unfold Vp at hF
 refine Zc (Zb hE rfl fun a hE=>Ze (Zc (ZD (xs:=[.const (vB 0)]) (l:=([0] : List UInt8)) (vs:=[vB 0]) hE hM Za ld rfl rfl Tryz.underlying22 ty5 rfl (by decide) rfl fun u1 w a hM hE=>Zd hE rfl ?_))); intro a hE
 obtain ⟨l3,e4,hF⟩:=bind_some hF
 obtain ⟨e7,rfl⟩:=ZY e4
 refine Z9 hE hM Za ld rfl rfl (hM.rd hv0_1) Tryz.underlying22 ty5 rfl (by decide) e7 ?_; intro u5 w a hM hE
 obtain ⟨r8,e9,hF⟩:=bind_some hF
 refine Zq hE rfl (cbm Tryz.func107) (KX _ (([0] : List UInt8) ++ p0) u5 (hM.sl (pre:=[]) noB) r8 e9) ?_
 rintro v w a ⟨rfl,hK⟩ hE
 have hM:=hM.keep hK
 refine Zb hE rfl fun a hE=>Ze ?_
 obtain rfl:=Option.some.inj hF
 exact wp_ret (kr1 hE rfl rfl hM.kept)
def XL (p0 : Int) (s4 : Int × Int × Int) : Option (Fl (Int × Int × Int) Int) :=
 if (decide (s4.2.2 > 0)) = true then (((if ((Int.tmod s4.2.2 2) == 1) = true then (some (K4 s4.1 s4.2.1)) else (some s4.1) : Option (Int)).bind fun j12=>(if (decide ((wr (s4.2.1 * 2)) ≥ 256)) = true then (some (K4 (wr (s4.2.1 * 2)) p0)) else (some (wr (s4.2.1 * 2))) : Option (Int)).bind fun j18=>some (j12,j18) : Option (Int × Int)).bind fun j9=>some (Fl.nx (j9.1,j9.2,wr (Int.tdiv s4.2.2 2)))) else (some (Fl.ex s4.1))
def Yx (p0 : Int) (p1 : UInt8) (p2 : UInt8) : Option (UInt8) :=
 (ZH (XL p0) (0,bI p1,bI p2)).bind fun j1=>some (Yp j1)
theorem Xy (w0 : World) (p0 : Int) (p1 : UInt8) (p2 : UInt8) (r : UInt8) (hF : Yx p0 p1 p2 = some r) :
  Calls Tryz.prog 108 [vI p0,vB p1,vB p2].toArray w0 (Rt w0 (vB r)):=by
 refine ce Tryz.func108 ?_
 intro a hE
 have hM:=M.start w0
 unfold Yx at hF
 refine Zc (Zb hE rfl fun a hE=>Ze (Zc (Zd hE rfl fun a hE=>TA hE Za ld rfl Tryz.underlying5 Tryz.underlying2 fun a hE=>Zb hE rfl fun a hE=>Zb hE rfl fun a hE=>Ze (wp_seq (Zc (Zd hE rfl fun a hE=>TA hE Za ld rfl Tryz.underlying5 Tryz.underlying2 fun a hE=>Zb hE rfl fun a hE=>Ze ?_))))))
 obtain ⟨j1,hl2,hF3⟩:=bind_some hF
 refine ZP (fun a w=>Env 33 a [(7,vI j1)] ∧ M (Old w0) w0 w []) ?_ ?_
 ·skip
  refine wp_block ?_
  refine ZK (fun (s4 : Int × Int × Int) a w=>Env 33 a [(0,vI p0),(7,vI s4.1),(8,vI s4.2.1),(9,vI s4.2.2)] ∧ M (Old w0) w0 w []) hl2 ⟨hE.sub ⟨rfl,rfl,rfl,rfl,trivial⟩,hM⟩ ?_
  rintro s4 a w ⟨hE,hM⟩ o7 hs5 hx6
  unfold XL at hs5
  refine wp_seq (Zc (Zd hE rfl fun a hE=>Zk hE rfl rfl rfl fun a hE=>Ze ?_))
  refine Zm hE rfl ?_ ?_
  ·intro hb8
   have hs5:=Zn hs5 hb8
   refine wp_skip (Zu ?_)
   obtain ⟨j9,hl10,hF11⟩:=bind_some hs5
   refine Zx (fun a w=>Env 33 a [(0,vI p0),(7,vI j9.1),(8,vI j9.2),(9,vI s4.2.2)] ∧ M (Old w0) w0 w []) ?_ ?_
   ·skip
    refine wp_block ?_
    obtain ⟨j12,hl13,hF14⟩:=bind_some hl10
    refine Zx (fun a w=>Env 33 a [(0,vI p0),(7,vI j12),(8,vI s4.2.1),(9,vI s4.2.2)] ∧ M (Old w0) w0 w []) ?_ ?_
    ·skip
     refine Zc (Zd hE rfl fun a hE=>Zk hE rfl rfl (Kj _ _ (by decide)) fun a hE=>Zk hE rfl rfl rfl fun a hE=>Ze ?_)
     refine Zm hE rfl ?_ ?_
     ·intro hb15
      have hl13:=Zn hl13 hb15
      refine wp_region_lit (Zd hE rfl fun a hE=>Zd hE rfl fun a hE=>Zk hE rfl rfl rfl fun a hE=>Zb hE rfl fun a hE=>Zj ?_)
      obtain rfl:=Option.some.inj hl13
      refine Zi ?_
      exact ⟨hE.sub ⟨rfl,rfl,rfl,rfl,trivial⟩,hM⟩
     ·intro hb15
      have hl13:=Zo hl13 hb15
      refine wp_skip ?_
      obtain rfl:=Option.some.inj hl13
      refine Zi ?_
      exact ⟨hE.sub ⟨rfl,rfl,rfl,rfl,trivial⟩,hM⟩
    ·skip
     rintro a w ⟨hE,hM⟩
     refine Zc (Zd hE rfl fun a hE=>Zk hE rfl rfl rfl fun a hE=>Zb hE rfl fun a hE=>Ze (Zc (Zd hE rfl fun a hE=>Zk hE rfl rfl rfl fun a hE=>Ze ?_)))
     obtain ⟨j18,hl19,hF20⟩:=bind_some hF14
     refine ZP (fun a w=>Env 33 a [(0,vI p0),(7,vI j12),(8,vI j18),(9,vI s4.2.2)] ∧ M (Old w0) w0 w []) ?_ ?_
     ·skip
      refine Zm hE rfl ?_ ?_
      ·intro hb21
       have hl19:=Zn hl19 hb21
       refine wp_region_lit (Zd hE rfl fun a hE=>Zd hE rfl fun a hE=>Zk hE rfl rfl rfl fun a hE=>Zb hE rfl fun a hE=>Zj ?_)
       obtain rfl:=Option.some.inj hl19
       refine Zi ?_
       exact ⟨hE.sub ⟨rfl,rfl,rfl,rfl,trivial⟩,hM⟩
      ·intro hb21
       have hl19:=Zo hl19 hb21
       refine wp_skip ?_
       obtain rfl:=Option.some.inj hl19
       refine Zi ?_
       exact ⟨hE.sub ⟨rfl,rfl,rfl,rfl,trivial⟩,hM⟩
     ·skip
      rintro a w ⟨hE,hM⟩
      refine Yg ?_
      obtain rfl:=Option.some.inj hF20
      refine Zi ?_
      exact ⟨hE.sub ⟨rfl,rfl,rfl,rfl,trivial⟩,hM⟩
   ·skip
    rintro a w ⟨hE,hM⟩
    refine wp_region_lit (Zd hE rfl fun a hE=>Zk hE rfl rfl (HB _ _ (by decide)) fun a hE=>Zb hE rfl fun a hE=>Zj (Zi ?_))
    exact ⟨_,(ois hF11),hE.sub ⟨rfl,rfl,rfl,rfl,trivial⟩,hM⟩
  ·intro hb8
   have hs5:=Zo hs5 hb8
   refine wp_exit (Zs (Zs (Ys ?_)))
   obtain rfl:=hx6 _ (ois hs5)
   refine Zi ?_
   exact ⟨hE.sub ⟨rfl,trivial⟩,hM⟩
 ·skip
  rintro a w ⟨hE,hM⟩
  refine Zu (Zc (Zd hE rfl fun a hE=>TH hE Za ld rfl Tryz.underlying2 Tryz.underlying5 fun a hE=>Zb hE rfl fun a hE=>Ze ?_))
  obtain rfl:=Option.some.inj hF3
  exact wp_ret (kr1 hE rfl rfl hM.kept)
def Wh (p0 : Int) (p1 : (List UInt8)) (p2 : UInt8) (s4 : UInt8 × Int) : Option (Fl (UInt8 × Int) UInt8) :=
 if (decide (s4.2 ≥ 0)) = true then ((Yx p0 s4.1 p2).bind fun r10=>(idx p1 s4.2).bind fun x12=>some (Fl.nx (r10 ^^^ x12,wr (s4.2 - 1)))) else (some (Fl.ex s4.1))
def Vy (p0 : Int) (p1 : (List UInt8)) (p2 : UInt8) : Option (UInt8) :=
 (ZH (Wh p0 p1 p2) (0,wr ((p1.length : Int) - 1))).bind fun j1=>some j1
theorem KV (w0 : World) (p0 : Int) (p1 : (List UInt8)) (v1_1 : Value) (hv1_1 : Ro w0 p1 [v1_1]) (p2 : UInt8) (r : UInt8) (hF : Vy p0 p1 p2 = some r) :
  Calls Tryz.prog 124 [vI p0,v1_1,vB p2].toArray w0 (Rt w0 (vB r)):=by
 refine ce Tryz.func124 ?_
 intro a hE
 have hM:=M.start w0
 unfold Vy at hF
 refine Zc (Zb hE rfl fun a hE=>Ze (Zc (Zb hE rfl fun a hE=>Ze (wp_seq (Zc (Zd hE rfl fun a hE=>ZL hE rfl Tryz.underlying22 (hM.rd hv1_1) fun a hE=>Zk hE rfl rfl rfl fun a hE=>Zb hE rfl fun a hE=>Ze ?_))))))
 obtain ⟨j1,hl2,hF3⟩:=bind_some hF
 refine ZP (fun a w=>Env 26 a [(7,vB j1)] ∧ M (Old w0) w0 w []) ?_ ?_
 ·skip
  refine wp_block ?_
  refine ZK (fun (s4 : UInt8 × Int) a w=>Env 26 a [(0,vI p0),(1,v1_1),(2,vB p2),(7,vB s4.1),(8,vI s4.2)] ∧ M (Old w0) w0 w []) hl2 ⟨hE.sub ⟨rfl,rfl,rfl,rfl,rfl,trivial⟩,hM⟩ ?_
  rintro s4 a w ⟨hE,hM⟩ o7 hs5 hx6
  unfold Wh at hs5
  refine wp_seq (Zc (Zd hE rfl fun a hE=>Zk hE rfl rfl rfl fun a hE=>Ze ?_))
  refine Zm hE rfl ?_ ?_
  ·intro hb8
   have hs5:=Zn hs5 hb8
   refine wp_skip (Zu (wp_seq (wp_block ?_)))
   obtain ⟨r10,e11,hs5⟩:=bind_some hs5
   obtain ⟨x12,hi14,hs5⟩:=bix hs5
   refine YA [16,17,18,19,20,21,22,23,24] Wb rfl rfl (by decide) rfl hE hM (qsP (fun z=>Zh z.E Za ld rfl (kr0 rfl)) (qsP (fun z=>Zh z.E Za ld rfl (kr0 rfl)) (qsP (fun z=>Zh z.E Za ld rfl (kr0 rfl)) (qsP (fun z=>ZW z.E Za ld rfl HL (Xy _ p0 s4.1 p2 r10 e11) (kc rfl)) (qsP (fun z=>Zh z.E Za ld rfl (kr0 rfl)) (qsP (fun z=>Zh z.E Za ld rfl (kr0 rfl)) (qsP (fun z=>ZA z.E Za ld rfl rfl Tryz.underlying22 ty5 (z.M.rd hv1_1) hi14.1 (kr0 rfl)) (qsP (fun z=>ZE (v:=(vB x12)) z.E Za ld rfl ty5 rfl (ZS (z.M.rd hv1_1) hi14.2) (kr0 rfl)) (qsP (v:=(vB (r10 ^^^ x12))) (fun z=>ZJ z.E Za ld rfl rfl (Ur r10 x12) (kr0 rfl)) qs0))))))))) ?_
   ·intro a w u hE hM
    refine Zb hE rfl fun a hE=>Zj (Yg (Zu (wp_region_lit (Zd hE rfl fun a hE=>Zk hE rfl rfl rfl fun a hE=>Zb hE rfl fun a hE=>Zj (Zi ?_)))))
    exact ⟨_,(ois hs5),hE.sub ⟨rfl,rfl,rfl,rfl,rfl,trivial⟩,hM⟩
  ·intro hb8
   have hs5:=Zo hs5 hb8
   refine wp_exit (Zs (Zs (Ys ?_)))
   obtain rfl:=hx6 _ (ois hs5)
   refine Zi ?_
   exact ⟨hE.sub ⟨rfl,trivial⟩,hM⟩
 ·skip
  rintro a w ⟨hE,hM⟩
  refine Zu (Zc (Zd hE rfl fun a hE=>Zb hE rfl fun a hE=>Ze ?_))
  obtain rfl:=Option.some.inj hF3
  exact wp_ret (kr1 hE rfl rfl hM.kept)
def Vz (p2 : (List (List UInt8))) (s25 : (List UInt8) × Int) (s43 : (List UInt8) × Int) : Option (Fl ((List UInt8) × Int) (List UInt8)) :=
 if (decide (s43.2 < (p2.length : Int))) = true then ((idx p2 s43.2).bind fun x50=>(idx x50 s25.2).bind fun x58=>(app 1 s43.1 ([x58] : List UInt8)).bind fun l63=>some (Fl.nx ((s43.1 ++ ([x58] : List UInt8)),wr (s43.2 + 1)))) else (some (Fl.ex s43.1))
def VD (p0 : Int) (p1 : (List UInt8)) (p2 : (List (List UInt8))) (p3 : (List UInt8)) (s8 : Int × (List GShare)) (s25 : (List UInt8) × Int) : Option (Fl ((List UInt8) × Int) (List UInt8)) :=
 if (decide (s25.2 < (p1.length : Int))) = true then ((idx p1 s25.2).bind fun x33=>(ZH (Vz p2 s25) (([x33] : List UInt8),0)).bind fun j38=>(idx p3 s8.1).bind fun x70=>(Vy p0 j38 x70).bind fun r73=>(app 1 s25.1 ([r73] : List UInt8)).bind fun l77=>some (Fl.nx ((s25.1 ++ ([r73] : List UInt8)),wr (s25.2 + 1)))) else (some (Fl.ex s25.1))
def Vs (p0 : Int) (p1 : (List UInt8)) (p2 : (List (List UInt8))) (p3 : (List UInt8)) (s8 : Int × (List GShare)) : Option (Fl (Int × (List GShare)) (List GShare)) :=
 if (decide (s8.1 < (p3.length : Int))) = true then ((idx p3 s8.1).bind fun x15=>(ZH (VD p0 p1 p2 p3 s8) ([],0)).bind fun j20=>(app 32 s8.2 ([(⟨x15,j20⟩ : GShare)] : List GShare)).bind fun l85=>some (Fl.nx (wr (s8.1 + 1),(s8.2 ++ ([(⟨x15,j20⟩ : GShare)] : List GShare))))) else (some (Fl.ex s8.2))
def Ul (p0 : Int) (p1 : (List UInt8)) (p2 : (List (List UInt8))) (p3 : (List UInt8)) : Option ((List GShare)) :=
 (ZH (Vs p0 p1 p2 p3) (0,([] : List GShare))).bind fun j3=>some j3
theorem Jy (w0 : World) (p0 : Int) (p1 : (List UInt8)) (v1_1 : Value) (hv1_1 : Ro w0 p1 [v1_1]) (p2 : (List (List UInt8))) (v2_1 : Value) (hv2_1 : Ro w0 p2 [v2_1]) (p3 : (List UInt8)) (v3_1 : Value) (hv3_1 : Ro w0 p3 [v3_1]) (r : (List GShare)) (hF : Ul p0 p1 p2 p3 = some r) :
  Calls Tryz.prog 84 [vI p0,v1_1,v2_1,v3_1].toArray w0 (fun en w'=>∃ v,en = .returned v ∧ (∃ (y1 : Value),v = y1 ∧ Fr w0 w' [osl NoB (r : List GShare) y1] ∧ Kept (Old w0) w0 w')):=by
 refine ce Tryz.func84 ?_
 intro a hE
 have hM:=M.start w0
 unfold Ul at hF
 refine Zc (Zb hE rfl fun a hE=>Ze (Zc (TE (xs:=[]) (S:=NoB) (l:=([] : List GShare)) (vs:=[]) hE hM.emp noB Za ld rfl rfl rfl Tryz.underlying24 ZN rfl (by decide) (fun _ h=>⟨rfl,h⟩) (fun _ h=>by cases h) fun u1 w a hM hE=>Zb hE rfl fun a hE=>Ze (wp_seq (Zc (Zb hE rfl fun a hE=>Ze ?_))))))
 obtain ⟨j3,hl4,hF5⟩:=bind_some hF
 refine ZP (fun a w=>∃ (u6 : Value),Env 71 a [(9,u6)] ∧ M (Old w0) w0 w [osl NoB (j3 : List GShare) u6]) ?_ ?_
 ·skip
  refine wp_block ?_
  refine ZK (fun (s8 : Int × (List GShare)) a w=>∃ (u9 : Value),Env 71 a [(0,vI p0),(1,v1_1),(2,v2_1),(3,v3_1),(9,u9),(10,vI s8.1)] ∧ M (Old w0) w0 w [osl NoB (s8.2 : List GShare) u9]) hl4 ⟨u1,hE.sub ⟨rfl,rfl,rfl,rfl,rfl,rfl,trivial⟩,hM⟩ ?_
  rintro s8 a w ⟨u9,hE,hM⟩ o13 hs11 hx12
  unfold Vs at hs11
  refine wp_seq (Zc (Zd hE rfl fun a hE=>Zd hE rfl fun a hE=>ZL hE rfl Tryz.underlying22 (hM.rd hv3_1) fun a hE=>Zk hE rfl rfl rfl fun a hE=>Ze ?_))
  refine Zm hE rfl ?_ ?_
  ·intro hb14
   have hs11:=Zn hs11 hb14
   refine wp_skip (Zu (wp_seq (wp_block (Zc (Zd hE rfl fun a hE=>Zd hE rfl ?_))))); intro a hE
   obtain ⟨x15,hi17,hs11⟩:=bix hs11
   refine ZG hE rfl rfl Tryz.underlying22 ty5 (hM.rd hv3_1) hi17.1 fun a hE=>ZX (v:=(vB x15)) hE rfl ty5 rfl (ZS (hM.rd hv3_1) hi17.2) fun a hE=>YY (parts:=[(0,.tmp 25)]) (vs:=[(0,vB x15)]) (cs:=cat [[vB x15],[(Value.slice none 0 0)]]) hE Za ld rfl rfl ZN Hu (YK (pre:=[]) (seg:=[vB 0]) (seg':=[vB x15]) (post:=[[(Value.slice none 0 0)]]) rfl cl0 rfl rfl rfl Wy) fun a hE=>UP hE hM ZN fun b18 w a hM hE=>Xs (seg:=cat [[vB x15],[(Value.slice none 0 0)]]) (cs':=cat [[vB x15],[(Value.slice none 0 0)]]) hE hM Za rfl rfl rfl ZN cq (Nat.le_of_eq ((Nat.zero_add _).trans (Eq.trans cq (Eq.symm cq)))) (Wu (cc1 (Flat.cell (x15 : UInt8)) (cc1 JH cc0))) (ZZ (Eq.trans cq (Eq.symm cq))) fun w a hM hE=>Ze (wp_seq (Zc (Zb hE rfl fun a hE=>Ze ?_)))
   obtain ⟨j20,hl21,hF22⟩:=bind_some hs11
   refine ZP (fun a w=>∃ (u23 : Value),Env 71 a [(0,vI p0),(1,v1_1),(2,v2_1),(3,v3_1),(9,u9),(10,vI s8.1),(11,(ptr b18 0))] ∧ M (Old w0) w0 w [raw b18 (cat [[vB x15],[u23]]),osl NoB (s8.2 : List GShare) u9,osl NoB (j20 : List UInt8) u23]) ?_ ?_
   ·skip
    refine wp_block ?_
    have hM:=((M.nilS (α:=UInt8) NoB noB hM).pull2).pull2
    refine ZK (fun (s25 : (List UInt8) × Int) a w=>∃ (u26 : Value),Env 71 a [(0,vI p0),(1,v1_1),(2,v2_1),(3,v3_1),(9,u9),(10,vI s8.1),(11,(ptr b18 0)),(12,vI s25.2)] ∧ M (Old w0) w0 w [raw b18 (cat [[vB x15],[u26]]),osl NoB (s8.2 : List GShare) u9,osl NoB (s25.1 : List UInt8) u26]) hl21 ⟨(Value.slice none 0 0),hE.sub ⟨rfl,rfl,rfl,rfl,rfl,rfl,rfl,rfl,trivial⟩,hM⟩ ?_
    rintro s25 a w ⟨u26,hE,hM⟩ o30 hs28 hx29
    unfold VD at hs28
    refine wp_seq (Zc (Zd hE rfl fun a hE=>Zd hE rfl fun a hE=>ZL hE rfl Tryz.underlying22 (hM.rd hv1_1) fun a hE=>Zk hE rfl rfl rfl fun a hE=>Ze ?_))
    refine Zm hE rfl ?_ ?_
    ·intro hb32
     have hs28:=Zn hs28 hb32
     refine wp_skip (Zu (wp_seq (wp_block (Zc (Zd hE rfl fun a hE=>Zd hE rfl ?_))))); intro a hE
     obtain ⟨x33,hi35,hs28⟩:=bix hs28
     refine ZG hE rfl rfl Tryz.underlying22 ty5 (hM.rd hv1_1) hi35.1 fun a hE=>ZX (v:=(vB x33)) hE rfl ty5 rfl (ZS (hM.rd hv1_1) hi35.2) fun a hE=>ZD (xs:=[.tmp 36]) (l:=([x33] : List UInt8)) (vs:=[vB x33]) hE hM Za ld rfl rfl Tryz.underlying22 ty5 rfl (by decide) rfl fun u36 w a hM hE=>Zb hE rfl fun a hE=>Ze (wp_seq (Zc (Zb hE rfl fun a hE=>Ze ?_)))
     obtain ⟨j38,hl39,hF40⟩:=bind_some hs28
     refine ZP (fun a w=>∃ (u41 : Value),Env 71 a [(0,vI p0),(1,v1_1),(2,v2_1),(3,v3_1),(9,u9),(10,vI s8.1),(11,(ptr b18 0)),(12,vI s25.2),(13,u41)] ∧ M (Old w0) w0 w [raw b18 (cat [[vB x15],[u26]]),osl NoB (s8.2 : List GShare) u9,osl NoB (s25.1 : List UInt8) u26,osl NoB (j38 : List UInt8) u41]) ?_ ?_
     ·skip
      refine wp_block ?_
      have hM:=hM.pull3.pull3.pull3
      refine ZK (fun (s43 : (List UInt8) × Int) a w=>∃ (u44 : Value),Env 71 a [(0,vI p0),(1,v1_1),(2,v2_1),(3,v3_1),(9,u9),(10,vI s8.1),(11,(ptr b18 0)),(12,vI s25.2),(13,u44),(14,vI s43.2)] ∧ M (Old w0) w0 w [raw b18 (cat [[vB x15],[u26]]),osl NoB (s8.2 : List GShare) u9,osl NoB (s25.1 : List UInt8) u26,osl NoB (s43.1 : List UInt8) u44]) hl39 ⟨u36,hE.sub ⟨rfl,rfl,rfl,rfl,rfl,rfl,rfl,rfl,rfl,rfl,trivial⟩,hM⟩ ?_
      rintro s43 a w ⟨u44,hE,hM⟩ o48 hs46 hx47
      unfold Vz at hs46
      refine wp_seq (Zc (Zd hE rfl fun a hE=>Zd hE rfl fun a hE=>ZL hE rfl Tryz.underlying57 (hM.rd hv2_1) fun a hE=>Zk hE rfl rfl rfl fun a hE=>Ze ?_))
      refine Zm hE rfl ?_ ?_
      ·intro hb49
       have hs46:=Zn hs46 hb49
       refine wp_skip (Zu (wp_seq (wp_block (wp_region_lit (Zd hE rfl fun a hE=>Zd hE rfl fun a hE=>Zd hE rfl ?_))))); intro a hE
       obtain ⟨x50,hi52,hs46⟩:=bix hs46
       refine ZG hE rfl rfl Tryz.underlying57 YS (hM.rd hv2_1) hi52.1 ?_; intro a hE
       obtain ⟨cs53,hs54,hA55⟩:=Z3 hv2_1 hi52.2 -- ^
       obtain ⟨u56,rfl⟩:=Qd hs54 -- ^
       have h57:=hs54 -- ^
       refine ZX (v:=u56) hE rfl YS rfl (hM.atk hA55 (Yr hv2_1 hi52.2)) fun a hE=>Zd hE rfl ?_; intro a hE
       obtain ⟨x58,hi60,hs46⟩:=bix hs46
       refine ZG hE rfl rfl Tryz.underlying22 ty5 (hM.rd h57) hi60.1 fun a hE=>ZX (v:=(vB x58)) hE rfl ty5 rfl (ZS (hM.rd h57) hi60.2) fun a hE=>ZD (xs:=[.tmp 51]) (l:=([x58] : List UInt8)) (vs:=[vB x58]) hE hM Za ld rfl rfl Tryz.underlying22 ty5 rfl (by decide) rfl ?_; intro u61 w a hM hE
       obtain ⟨l63,e64,hs46⟩:=bind_some hs46
       obtain ⟨e67,rfl⟩:=ZY e64
       have hM:=hM.pull4
       refine Z9 hE hM Za ld rfl rfl (hM.sl (pre:=[_]) noB) Tryz.underlying22 ty5 rfl (by decide) e67 fun u65 w a hM hE=>Zb hE rfl fun a hE=>Zj (Yg (Zu (wp_region_lit (Zd hE rfl fun a hE=>Zk hE rfl rfl rfl fun a hE=>Zb hE rfl fun a hE=>Zj (Zi ?_)))))
       have hM:=M.fst (l:=[_,_,_,_]) hM.pull4.pull4.pull4
       exact ⟨_,(ois hs46),u65,hE.sub ⟨rfl,rfl,rfl,rfl,rfl,rfl,rfl,rfl,rfl,rfl,trivial⟩,hM⟩
      ·intro hb49
       have hs46:=Zo hs46 hb49
       refine wp_exit (Zs (Zs (Ys ?_)))
       obtain rfl:=hx47 _ (ois hs46)
       refine Zi ?_
       exact ⟨u44,hE.sub ⟨rfl,rfl,rfl,rfl,rfl,rfl,rfl,rfl,rfl,trivial⟩,hM⟩
     ·skip
      rintro a w ⟨u41,hE,hM⟩
      refine Zu ?_
      obtain ⟨x70,hi72,hF40⟩:=bix hF40
      obtain ⟨r73,e74,hF40⟩:=bind_some hF40
      refine Wo (its:=[raw b18 (cat [[vB x15],[u26]]),osl NoB (s8.2 : List GShare) u9,osl NoB (s25.1 : List UInt8) u26,osl NoB (j38 : List UInt8) u41]) (mk:=([mkO 9 (fun v=>osl NoB (([r73] : List UInt8) : List UInt8) v)] : Mk)) [54,55,56,57,58,59,60,61,62,63] Wb rfl rfl (by decide) rfl hE (fun u=>M.qE (M.q0 hM.drew u) emO) (qsP (fun z=>Zv z.E Za ld rfl (Yj) (kr0 rfl)) (qsP (fun z=>ZE (v:=u26) z.E Za ld rfl YS rfl (At.cat (pre:=[[vB x15]]) (z.M.rawAt0) ck) (kr0 rfl)) (qsP (fun z=>Zh z.E Za ld rfl (kr0 rfl)) (qsP (fun z=>Zh z.E Za ld rfl (kr0 rfl)) (qsP (fun z=>Zh z.E Za ld rfl (kr0 rfl)) (qsP (fun z=>Zh z.E Za ld rfl (kr0 rfl)) (qsP (fun z=>ZA z.E Za ld rfl rfl Tryz.underlying22 ty5 (z.M.rd hv3_1) hi72.1 (kr0 rfl)) (qsP (fun z=>ZE (v:=(vB x70)) z.E Za ld rfl ty5 rfl (ZS (z.M.rd hv3_1) hi72.2) (kr0 rfl)) (qsP (fun z=>ZW z.E Za ld rfl (cbm Tryz.func124) (KV _ p0 j38 u41 (z.M.sl (pre:=[_,_,_]) noB) x70 r73 e74) (kc rfl)) (qsM (pr:=fun v=>True) ?_ qs0)))))))))) ?_
      ·intro a w ux69 D z
       have hE:=z.E
       have hD : D 9 = false:=z.F
       have hM:=z.M
       exact ZD (xs:=[.tmp 62]) (l:=([r73] : List UInt8)) (vs:=[vB r73]) hE hM Za ld rfl rfl Tryz.underlying22 ty5 rfl (by decide) rfl fun u75 w a hM hE=>⟨_,_,rfl,hE,M.qFill (mk1:=[]) (mk2:=[]) (f:=(fun v=>osl NoB (([r73] : List UInt8) : List UInt8) v)) hM rfl hD,trivial⟩
      ·intro a w ux69 D hE hM hG hall
       have d9:=hall 9 (by decide)
       have hM:=hM.sure (pre:=[_,_,_,_]) d9
       obtain ⟨l77,e78,hF40⟩:=bind_some hF40
       obtain ⟨e81,rfl⟩:=ZY e78
       have hM:=hM.pull2
       refine Z9 hE hM Za ld rfl rfl (hM.sl (pre:=[_,_,_,_]) noB) Tryz.underlying22 ty5 rfl (by decide) e81 fun u79 w a hM hE=>ZI hE rfl (Yj) ?_; intro a hE
       have hM:=hM.pull1
       refine Xs (seg:=[u79]) hE hM Za rfl rfl (Y2 (hM.sl (pre:=[_]) noB)) YS rfl (Th (pre:=[[vB x15]]) ck rfl) (Rep.cell (hM.sl (pre:=[_]) noB)) (Wj (pre:=[[vB x15]]) ck rfl) fun w a hM hE=>Zj (Yg (Zu (wp_region_lit (Zd hE rfl fun a hE=>Zk hE rfl rfl rfl fun a hE=>Zb hE rfl fun a hE=>Zj (Zi ?_)))))
       have hM:=M.fst (l:=[_,_,_]) hM.pull1.pull2.pull2
       exact ⟨_,(ois hF40),u79,hE.sub ⟨rfl,rfl,rfl,rfl,rfl,rfl,rfl,rfl,trivial⟩,hM⟩
    ·intro hb32
     have hs28:=Zo hs28 hb32
     refine wp_exit (Zs (Zs (Ys ?_)))
     obtain rfl:=hx29 _ (ois hs28)
     refine Zi ?_
     exact ⟨u26,hE.sub ⟨rfl,rfl,rfl,rfl,rfl,rfl,rfl,trivial⟩,hM⟩
   ·skip
    rintro a w ⟨u23,hE,hM⟩
    refine Zu (wp_region_lit (Zd hE rfl fun a hE=>WR hE rfl ZN rfl hM.rawAt0 cq ?_)); intro a hE
    have hM:=hM.pull2
    have hM:=hM.pack1 (it:=own NoB (⟨x15,j20⟩ : GShare) (cat [[vB x15],[u23]])) (VS noB) (fun f0 q0=>(W2 (X5.sat q0) (by simp)))
    refine V0 (xs:=[.tmp 67]) (seg:=cat [[vB x15],[u23]]) hE hM noB Za ld rfl rfl Tryz.underlying24 ZN rfl (by decide) ?_; intro u83 w a hM hE
    obtain ⟨l85,e86,hF22⟩:=bind_some hF22
    obtain ⟨e89,rfl⟩:=ZY e86
    have hM:=hM.pull2
    refine UM hE hM noB Za ld rfl rfl Tryz.underlying24 ZN rfl (by decide) e89 fun u87 w a hM hE=>Zb hE rfl fun a hE=>Zj (Yg (Zu (wp_region_lit (Zd hE rfl fun a hE=>Zk hE rfl rfl rfl fun a hE=>Zb hE rfl fun a hE=>Zj (Zi ?_)))))
    have hM:=M.fst (l:=[_]) hM
    exact ⟨_,(ois hF22),u87,hE.sub ⟨rfl,rfl,rfl,rfl,rfl,rfl,trivial⟩,hM⟩
  ·intro hb14
   have hs11:=Zo hs11 hb14
   refine wp_exit (Zs (Zs (Ys ?_)))
   obtain rfl:=hx12 _ (ois hs11)
   refine Zi ?_
   exact ⟨u9,hE.sub ⟨rfl,trivial⟩,hM⟩
 ·skip
  rintro a w ⟨u6,hE,hM⟩
  refine Zu (Zc (Zd hE rfl fun a hE=>Zb hE rfl fun a hE=>Ze ?_))
  obtain rfl:=Option.some.inj hF5
  exact wp_ret (Yb hE rfl (Zl hE rfl) ⟨_,rfl,u6,rfl,hM.outF (Z8 Yd),hM.kept⟩)
def TF (p0_0 : (List UInt8)) (r3 : (Int × Int) × Int) (r5 : (Int × Int) × (List UInt8)) (s15 : Int × Int × (List (List UInt8)) × Int) : Option (Fl (Int × Int × (List (List UInt8)) × Int) (Int × Int × (List (List UInt8)))) :=
 if (decide (s15.2.2.2 < (wr (1 + r3.2)))) = true then ((Y9 p0_0 (s15.1,s15.2.1) (r5.2.length : Int)).bind fun r22=>(app 24 s15.2.2.1 ([r22.2] : List (List UInt8))).bind fun l28=>some (Fl.nx (r22.1.1,r22.1.2,(s15.2.2.1 ++ ([r22.2] : List (List UInt8))),wr (s15.2.2.2 + 1)))) else (some (Fl.ex (s15.1,s15.2.1,s15.2.2.1)))
def Um (p0_0 : (List UInt8)) (p0 : (Int × Int)) (p1 : Int) : Option ((Int × Int) × Int × (List GShare) × Int) :=
 (XV p0_0 (p0.1,p0.2)).bind fun r1=>(Zw p0_0 (r1.1.1,r1.1.2) 4).bind fun r3=>(Xm p0_0 (r3.1.1,r3.1.2) 6).bind fun r5=>(ZH (TF p0_0 r3 r5) (r5.1.1,r5.1.2,([] : List (List UInt8)),1)).bind fun j10=>(Zw p0_0 (j10.1,j10.2.1) p1).bind fun r34=>(Ya p0_0 (r34.1.1,r34.1.2) ([wr (1 + r3.2),wr ((wr (1 + r3.2)) + 1),wr ((wr (1 + r3.2)) + 2),wr (1 + r34.2)] : List Int)).bind fun r38=>(XB p0_0 (r38.1.1,r38.1.2) r38.2).bind fun r40=>((Vp r40.2).bind fun r48=>if r48 = true then (some ([1,2,3,4,5] : List UInt8)) else (some r40.2) : Option ((List UInt8))).bind fun j43=>(if (decide ((j43.length : Int) > p1)) = true then ((slc j43 (0 : Int) p1).bind fun l61=>some l61) else (some j43) : Option ((List UInt8))).bind fun j55=>(Ul r1.2 r5.2 j10.2.2 j55).bind fun r66=>some ((r40.1.1,r40.1.2),r1.2,r66,wr (1 + r3.2))
theorem Ji (St : Nat → Prop) (W w0 : World) (r0 : Item) (pb0 : Nat) (p0_0 : (List UInt8)) (v0_0 : Value) (hv0_0 : Rep.sat St W p0_0 [v0_0] []) (p0 : (Int × Int)) (p1 : Int) (hM : M St W w0 [raw pb0 (cat [[v0_0],[vI p0.1],[(Value.int .u64 p0.2)]]),r0]) (r : (Int × Int) × Int × (List GShare) × Int) (hF : Um p0_0 p0 p1 = some r) :
  Calls Tryz.prog 36 [(ptr pb0 0),vI p1].toArray w0 (fun en w'=>∃ v,en = .returned v ∧ (∃ (y1 : Value),v = (Value.tuple [vI r.2.1,y1,vI r.2.2.2].toArray) ∧ M St W w' [raw pb0 (cat [[v0_0],[vI r.1.1],[(Value.int .u64 r.1.2)]]),osl NoB (r.2.2.1 : List GShare) y1,r0])):=by
 refine ce Tryz.func36 ?_
 intro a hE
 unfold Um at hF
 refine Zc (Zb hE rfl fun a hE=>Zb hE rfl fun a hE=>Zb hE rfl fun a hE=>Ze (Zc (Zd hE rfl ?_))); intro a hE
 have hM:=M.tailP (m:=[_]) hM
 obtain ⟨r1,e2,hF⟩:=bind_some hF
 refine Zq hE rfl (cbm Tryz.func90) (Qw _ _ _ _ pb0 p0_0 v0_0 hv0_0 (p0.1,p0.2) hM r1 e2) ?_
 rintro v w a ⟨rfl,hM⟩ hE
 have hM:=M.tailU (m:=[_]) hM
 simp only [List.cons_append,List.nil_append] at hM
 refine Zd hE rfl ?_; intro a hE
 have hM:=M.tailP (m:=[_]) hM
 obtain ⟨r3,e4,hF⟩:=bind_some hF
 refine Zq hE rfl Tn (ZF _ _ _ _ pb0 p0_0 v0_0 hv0_0 (r1.1.1,r1.1.2) 4 hM r3 e4) ?_
 rintro v w a ⟨rfl,hM⟩ hE
 have hM:=M.tailU (m:=[_]) hM
 simp only [List.cons_append,List.nil_append] at hM
 refine Zk hE rfl rfl rfl fun a hE=>Zb hE rfl fun a hE=>Zb hE rfl fun a hE=>Ze (Zc (Zd hE rfl ?_)); intro a hE
 have hM:=M.tailP (m:=[_]) hM
 obtain ⟨r5,e6,hF⟩:=bind_some hF
 refine Zq hE rfl cb66 (Tm _ _ _ _ pb0 p0_0 v0_0 hv0_0 (r3.1.1,r3.1.2) 6 hM r5 e6) ?_
 rintro u7 w a ⟨_,rfl,hM⟩ hE
 have hM:=M.tailU (m:=[_,_]) hM
 simp only [List.cons_append,List.nil_append] at hM
 refine TE (xs:=[]) (S:=NoB) (l:=([] : List (List UInt8))) (vs:=[]) hE hM.emp noB Za ld rfl rfl rfl Tryz.underlying57 YS rfl (by decide) (fun _ h=>⟨rfl,h⟩) (fun _ h=>by cases h) fun u8 w a hM hE=>Zb hE rfl fun a hE=>Zb hE rfl fun a hE=>Ze (wp_seq (Zc (Zb hE rfl fun a hE=>Ze ?_)))
 obtain ⟨j10,hl11,hF12⟩:=bind_some hF
 refine ZP (fun a w=>∃ (u13 : Value),Env 64 a [(0,(ptr pb0 0)),(1,vI p1),(7,vI r1.2),(8,(vI (wr (1 + r3.2)))),(9,u7),(10,u13)] ∧ M St W w [raw pb0 (cat [[v0_0],[vI j10.1],[(Value.int .u64 j10.2.1)]]),osl NoB (r5.2 : List UInt8) u7,r0,osl NoB (j10.2.2 : List (List UInt8)) u13]) ?_ ?_
 ·skip
  refine wp_block ?_
  have hM:=hM.pull3.pull3.pull3
  refine ZK (fun (s15 : Int × Int × (List (List UInt8)) × Int) a w=>∃ (u16 : Value),Env 64 a [(0,(ptr pb0 0)),(1,vI p1),(7,vI r1.2),(8,(vI (wr (1 + r3.2)))),(9,u7),(10,u16),(11,vI s15.2.2.2)] ∧ M St W w [raw pb0 (cat [[v0_0],[vI s15.1],[(Value.int .u64 s15.2.1)]]),osl NoB (r5.2 : List UInt8) u7,r0,osl NoB (s15.2.2.1 : List (List UInt8)) u16]) hl11 ⟨u8,hE.sub ⟨rfl,rfl,rfl,rfl,rfl,rfl,rfl,trivial⟩,hM⟩ ?_
  rintro s15 a w ⟨u16,hE,hM⟩ o20 hs18 hx19
  unfold TF at hs18
  refine wp_seq (Zc (Zd hE rfl fun a hE=>Zd hE rfl fun a hE=>Zk hE rfl rfl rfl fun a hE=>Ze ?_))
  refine Zm hE rfl ?_ ?_
  ·intro hb21
   have hs18:=Zn hs18 hb21
   refine wp_skip (Zu (wp_seq (wp_block (wp_region_lit (Zd hE rfl fun a hE=>Zd hE rfl fun a hE=>Zd hE rfl fun a hE=>ZL hE rfl Tryz.underlying22 (hM.sl (pre:=[_]) noB) ?_))))); intro a hE
   have hM:=M.tailP (m:=[_]) hM
   obtain ⟨r22,e23,hs18⟩:=bind_some hs18
   refine Zq hE rfl cb63 (VY _ _ _ _ pb0 p0_0 v0_0 hv0_0 (s15.1,s15.2.1) (r5.2.length : Int) hM r22 e23) ?_
   rintro u24 w a ⟨_,rfl,hM⟩ hE
   have hM:=M.tailU (m:=[_,_]) hM
   simp only [List.cons_append,List.nil_append] at hM
   have hc27:=Y2 (hM.sl (pre:=[_]) noB)
   have hM:=hM.pull1
   have hM:=hM.pack1 (it:=own NoB r22.2 ([u24])) (VS noB) (fun f0 q0=>(X5.sat q0))
   refine V0 (xs:=[.tmp 30]) (seg:=[u24]) hE hM noB Za ld rfl hc27 Tryz.underlying57 YS rfl (by decide) ?_; intro u25 w a hM hE
   obtain ⟨l28,e29,hs18⟩:=bind_some hs18
   obtain ⟨e32,rfl⟩:=ZY e29
   have hM:=hM.pull4
   refine UM hE hM noB Za ld rfl rfl Tryz.underlying57 YS rfl (by decide) e32 fun u30 w a hM hE=>Zb hE rfl fun a hE=>Zj (Yg (Zu (wp_region_lit (Zd hE rfl fun a hE=>Zk hE rfl rfl rfl fun a hE=>Zb hE rfl fun a hE=>Zj (Zi ?_)))))
   have hM:=hM.pull3.pull3.pull3
   exact ⟨_,(ois hs18),u30,hE.sub ⟨rfl,rfl,rfl,rfl,rfl,rfl,rfl,trivial⟩,hM⟩
  ·intro hb21
   have hs18:=Zo hs18 hb21
   refine wp_exit (Zs (Zs (Ys ?_)))
   obtain rfl:=hx19 _ (ois hs18)
   refine Zi ?_
   exact ⟨u16,hE.sub ⟨rfl,rfl,rfl,rfl,rfl,rfl,trivial⟩,hM⟩
 ·skip
  rintro a w ⟨u13,hE,hM⟩
  refine Zu (Zc (Zd hE rfl fun a hE=>Zd hE rfl fun a hE=>Zd hE rfl fun a hE=>Zd hE rfl fun a hE=>Zk hE rfl rfl rfl fun a hE=>Zd hE rfl fun a hE=>Zk hE rfl rfl rfl fun a hE=>Zd hE rfl fun a hE=>Zd hE rfl ?_)); intro a hE
  have hM:=M.tailP (m:=[_]) hM
  obtain ⟨r34,e35,hF12⟩:=bind_some hF12
  refine Zq hE rfl Tn (ZF _ _ _ _ pb0 p0_0 v0_0 hv0_0 (j10.1,j10.2.1) p1 hM r34 e35) ?_
  rintro v w a ⟨rfl,hM⟩ hE
  have hM:=M.tailU (m:=[_]) hM
  simp only [List.cons_append,List.nil_append] at hM
  refine Zk hE rfl rfl rfl fun a hE=>ZD (xs:=[.tmp 35,.tmp 37,.tmp 39,.tmp 43]) (l:=([wr (1 + r3.2),wr ((wr (1 + r3.2)) + 1),wr ((wr (1 + r3.2)) + 2),wr (1 + r34.2)] : List Int)) (vs:=[(vI (wr (1 + r3.2))),(vI (wr ((wr (1 + r3.2)) + 1))),(vI (wr ((wr (1 + r3.2)) + 2))),(vI (wr (1 + r34.2)))]) hE hM Za ld rfl rfl Tryz.underlying27 ty2 rfl (by decide) rfl ?_; intro u36 w a hM hE
  have hM:=M.tailP (m:=[_,_]) hM.pull1
  obtain ⟨r38,e39,hF12⟩:=bind_some hF12
  refine Zq hE rfl Bp (YG _ _ _ _ pb0 p0_0 v0_0 hv0_0 (r34.1.1,r34.1.2) ([wr (1 + r3.2),wr ((wr (1 + r3.2)) + 1),wr ((wr (1 + r3.2)) + 2),wr (1 + r34.2)] : List Int) u36 hM r38 e39) ?_
  rintro v w a ⟨rfl,hM⟩ hE
  have hM:=M.tailU (m:=[_,_]) hM
  simp only [List.cons_append,List.nil_append] at hM
  have hM:=M.tailP (m:=[_]) hM
  obtain ⟨r40,e41,hF12⟩:=bind_some hF12
  refine Zq hE rfl (cbm Tryz.func49) (Qh _ _ _ _ pb0 p0_0 v0_0 hv0_0 (r38.1.1,r38.1.2) r38.2 hM r40 e41) ?_
  rintro u42 w a ⟨_,rfl,hM⟩ hE
  have hM:=M.tailU (m:=[_,_]) hM
  simp only [List.cons_append,List.nil_append] at hM
  refine Zb hE rfl fun a hE=>Ze ?_
  obtain ⟨j43,hl44,hF45⟩:=bind_some hF12
  refine Zx (fun a w=>∃ (u46 : Value),Env 64 a [(1,vI p1),(7,vI r1.2),(8,(vI (wr (1 + r3.2)))),(9,u7),(10,u13),(12,u46)] ∧ M St W w [raw pb0 (cat [[v0_0],[vI r40.1.1],[(Value.int .u64 r40.1.2)]]),osl NoB (r5.2 : List UInt8) u7,r0,osl NoB (j10.2.2 : List (List UInt8)) u13,osl NoB (j43 : List UInt8) u46]) ?_ ?_
  ·skip
   refine Zc (Zd hE rfl ?_); intro a hE
   obtain ⟨r48,e49,hl44⟩:=bind_some hl44
   refine Zq hE rfl (cbm Tryz.func58) (KU _ r40.2 u42 (hM.sl (pre:=[_]) noB) r48 e49) ?_
   rintro v w a ⟨rfl,hK⟩ hE
   have hM:=hM.keep hK
   refine Ze ?_
   refine Zm hE rfl ?_ ?_
   ·intro hb50
    have hl44:=Zn hl44 hb50
    refine wp_region_lit (ZD (xs:=[.const (vB 1),.const (vB 2),.const (vB 3),.const (vB 4),.const (vB 5)]) (l:=([1,2,3,4,5] : List UInt8)) (vs:=[vB 1,vB 2,vB 3,vB 4,vB 5]) hE hM Za ld rfl rfl Tryz.underlying22 ty5 rfl (by decide) rfl fun u51 w a hM hE=>Zb hE rfl fun a hE=>Zj ?_)
    obtain rfl:=Option.some.inj hl44
    refine Zi ?_
    have hM:=((hM.pull6.pull6.pull6.pull4.pull6).drop.pull5).drop
    exact ⟨u51,hE.sub ⟨rfl,rfl,rfl,rfl,rfl,rfl,trivial⟩,hM⟩
   ·intro hb50
    have hl44:=Zo hl44 hb50
    refine wp_skip ?_
    obtain rfl:=Option.some.inj hl44
    refine Zi ?_
    have hM:=(hM.pull1.pull5.pull5.pull5.pull4.pull5).drop
    exact ⟨u42,hE.sub ⟨rfl,rfl,rfl,rfl,rfl,rfl,trivial⟩,hM⟩
  ·skip
   rintro a w ⟨u46,hE,hM⟩
   obtain ⟨j55,hl56,hF57⟩:=bind_some hF45
   refine Zx (fun a w=>∃ (u58 : Value),Env 64 a [(7,vI r1.2),(8,(vI (wr (1 + r3.2)))),(9,u7),(10,u13),(12,u58)] ∧ M St W w [raw pb0 (cat [[v0_0],[vI r40.1.1],[(Value.int .u64 r40.1.2)]]),osl NoB (r5.2 : List UInt8) u7,r0,osl NoB (j10.2.2 : List (List UInt8)) u13,osl NoB (j55 : List UInt8) u58]) ?_ ?_
   ·skip
    refine Zc (Zd hE rfl fun a hE=>ZL hE rfl Tryz.underlying22 (hM.sl (pre:=[_,_,_,_]) noB) fun a hE=>Zd hE rfl fun a hE=>Zk hE rfl rfl rfl fun a hE=>Ze ?_)
    refine Zm hE rfl ?_ ?_
    ·intro hb60
     have hl56:=Zn hl56 hb60
     refine wp_region_lit (Zd hE rfl fun a hE=>Zd hE rfl ?_); intro a hE
     obtain ⟨l61,e62,hl56⟩:=bind_some hl56
     refine QZ hE Za ld rfl rfl rfl rfl rfl Tryz.underlying22 ty5 (hM.sl (pre:=[_,_,_,_]) noB) e62 ?_; intro a hE
     have hM:=hM.pull4.cut noB e62
     refine Zb hE rfl fun a hE=>Zj ?_
     obtain rfl:=Option.some.inj hl56
     refine Zi ?_
     have hM:=hM.pull4.pull4.pull4.pull4
     exact ⟨(Vc u46 ((0 : Int)).toNat (p1).toNat 1),hE.sub ⟨rfl,rfl,rfl,rfl,rfl,trivial⟩,hM⟩
    ·intro hb60
     have hl56:=Zo hl56 hb60
     refine wp_skip ?_
     obtain rfl:=Option.some.inj hl56
     refine Zi ?_
     exact ⟨u46,hE.sub ⟨rfl,rfl,rfl,rfl,rfl,trivial⟩,hM⟩
   ·skip
    rintro a w ⟨u58,hE,hM⟩
    refine Zc (Zd hE rfl fun a hE=>Zd hE rfl fun a hE=>Zd hE rfl fun a hE=>Zd hE rfl fun a hE=>Zd hE rfl ?_); intro a hE
    obtain ⟨r66,e67,hF57⟩:=bind_some hF57
    refine Zq hE rfl (cbm Tryz.func84) (Jy _ r1.2 r5.2 u7 (hM.sl (pre:=[_]) noB) j10.2.2 u13 (hM.sl (pre:=[_,_,_]) noB) j55 u58 (hM.sl (pre:=[_,_,_,_]) noB) r66 e67) ?_
    rintro u68 w a ⟨_,rfl,hFr,hK⟩ hE
    have hM:=hM.add hK hFr
    refine Zd hE rfl fun a hE=>Zb hE rfl fun a hE=>Zb hE rfl fun a hE=>Zb hE rfl fun a hE=>Ze ?_
    obtain rfl:=Option.some.inj hF57
    have hM:=(((hM.pull3.pull1.pull2.pull5).drop.pull4).drop.pull3).drop
    exact wp_ret (KD hE rfl (Zl hE rfl) (Zl hE rfl) (Zl hE rfl) ⟨_,rfl,u68,rfl,hM⟩)
def XY (p0_0 : (List UInt8)) (p0 : (Int × Int)) : Option ((Int × Int) × Int × (List GShare) × Int) :=
 (Ya p0_0 (p0.1,p0.2) ([5,7,12] : List Int)).bind fun r3=>(Um p0_0 (r3.1.1,r3.1.2) r3.2).bind fun r5=>((Zw p0_0 (r5.1.1,r5.1.2) 24).bind fun r13=>(if (r13.2 == 0) = true then (some (r13.1.1,r13.1.2,256,r5.2.2.1,r5.2.2.2)) else (if (r13.2 == 1) = true then ((idx r5.2.2.1 (wr ((r5.2.2.1.length : Int) - 1))).bind fun x23=>(Ya p0_0 (r13.1.1,r13.1.2) ([0,bI x23.Place] : List Int)).bind fun r32=>(idx r5.2.2.1 (0 : Int)).bind fun x34=>some (r32.1.1,r32.1.2,r5.2.1,(r5.2.2.1.set ((0 : Int)).toNat (⟨Yp r32.2,x34.Data⟩ : GShare)),r5.2.2.2)) else (if (r13.2 == 2) = true then ((idx r5.2.2.1 (0 : Int)).bind fun x42=>(app 1 x42.Data ([1] : List UInt8)).bind fun l50=>(idx r5.2.2.1 (0 : Int)).bind fun x55=>some (r13.1.1,r13.1.2,r5.2.1,(r5.2.2.1.set ((0 : Int)).toNat (⟨x42.Place,(x42.Data ++ ([1] : List UInt8))⟩ : GShare)),r5.2.2.2)) else (if (r13.2 == 3) = true then ((Ya p0_0 (r13.1.1,r13.1.2) ([0,9,(-1)] : List Int)).bind fun r62=>some (r62.1.1,r62.1.2,r5.2.1,r5.2.2.1,r62.2)) else (if (r13.2 == 4) = true then (some (r13.1.1,r13.1.2,r5.2.1,[],r5.2.2.2)) else ((if (r13.2 == 5) = true then (some (r13.2 == 5)) else (some (r13.2 == 6)) : Option (Bool)).bind fun j68=>if j68 = true then ((idx r5.2.2.1 (0 : Int)).bind fun x75=>if (decide ((x75.Data.length : Int) > 0)) = true then ((idx r5.2.2.1 (0 : Int)).bind fun x82=>(Zw p0_0 (r13.1.1,r13.1.2) (x75.Data.length : Int)).bind fun r85=>(YB p0_0 (r85.1.1,r85.1.2)).bind fun r87=>(idx x75.Data r85.2).bind fun x89=>some (r87.1.1,r87.1.2,r5.2.1,(r5.2.2.1.set ((0 : Int)).toNat (⟨x75.Place,(x75.Data.set (r85.2).toNat r87.2)⟩ : GShare)),r5.2.2.2)) else (some (r13.1.1,r13.1.2,r5.2.1,r5.2.2.1,r5.2.2.2))) else (some (r13.1.1,r13.1.2,r5.2.1,r5.2.2.1,r5.2.2.2))))))) : Option (Int × Int × Int × (List GShare) × Int)).bind fun j15=>some (j15.1,j15.2.1,j15.2.2.1,j15.2.2.2.1,j15.2.2.2.2) : Option (Int × Int × Int × (List GShare) × Int)).bind fun j8=>some ((j8.1,j8.2.1),j8.2.2.1,j8.2.2.2.1,j8.2.2.2.2)
theorem TC (St : Nat → Prop) (W w0 : World) (r0 : Item) (pb0 : Nat) (p0_0 : (List UInt8)) (v0_0 : Value) (hv0_0 : Rep.sat St W p0_0 [v0_0] []) (p0 : (Int × Int)) (hM : M St W w0 [raw pb0 (cat [[v0_0],[vI p0.1],[(Value.int .u64 p0.2)]]),r0]) (r : (Int × Int) × Int × (List GShare) × Int) (hF : XY p0_0 p0 = some r) :
  Calls Tryz.prog 39 [(ptr pb0 0)].toArray w0 (fun en w'=>∃ v,en = .returned v ∧ (∃ (y1 : Value),v = (Value.tuple [vI r.2.1,y1,vI r.2.2.2].toArray) ∧ M St W w' [raw pb0 (cat [[v0_0],[vI r.1.1],[(Value.int .u64 r.1.2)]]),osl NoB (r.2.2.1 : List GShare) y1,r0])):=by
 refine ce Tryz.func39 ?_
 intro a hE
 unfold XY at hF
 refine Zc (Zb hE rfl fun a hE=>Zb hE rfl fun a hE=>Zb hE rfl fun a hE=>Ze (Zc (Zd hE rfl fun a hE=>Zd hE rfl fun a hE=>ZD (xs:=[.const (vI 5),.const (vI 7),.const (vI 12)]) (l:=([5,7,12] : List Int)) (vs:=[vI 5,vI 7,vI 12]) hE hM Za ld rfl rfl Tryz.underlying27 ty2 rfl (by decide) rfl ?_))); intro u1 w a hM hE
 have hM:=M.tailP (m:=[_,_]) hM.pull1
 obtain ⟨r3,e4,hF⟩:=bind_some hF
 refine Zq hE rfl Bp (YG _ _ _ _ pb0 p0_0 v0_0 hv0_0 (p0.1,p0.2) ([5,7,12] : List Int) u1 hM r3 e4) ?_
 rintro v w a ⟨rfl,hM⟩ hE
 have hM:=M.tailU (m:=[_,_]) hM
 simp only [List.cons_append,List.nil_append] at hM
 have hM:=M.tailP (m:=[_]) hM
 obtain ⟨r5,e6,hF⟩:=bind_some hF
 refine Zq hE rfl (cbm Tryz.func36) (Ji _ _ _ _ pb0 p0_0 v0_0 hv0_0 (r3.1.1,r3.1.2) r3.2 hM r5 e6) ?_
 rintro v w a ⟨u7,rfl,hM⟩ hE
 have hM:=M.tailU (m:=[_,_]) hM
 simp only [List.cons_append,List.nil_append] at hM
 refine Zd hE rfl fun a hE=>Zt hE Za ld rfl rfl fun a hE=>Zt hE Za ld rfl rfl fun a hE=>Zt hE Za ld rfl rfl fun a hE=>Zb hE rfl fun a hE=>Zb hE rfl fun a hE=>Zb hE rfl fun a hE=>Ze ?_
 obtain ⟨j8,hl9,hF10⟩:=bind_some hF
 refine Zx (fun a w=>∃ (u11 : Value),Env 82 a [(5,vI j8.2.2.1),(6,u11),(7,vI j8.2.2.2.2)] ∧ M St W w [raw pb0 (cat [[v0_0],[vI j8.1],[(Value.int .u64 j8.2.1)]]),r0,osl NoB (j8.2.2.2.1 : List GShare) u11]) ?_ ?_
 ·skip
  refine Zc (Zd hE rfl ?_); intro a hE
  have hM:=M.tailP (m:=[_]) hM
  obtain ⟨r13,e14,hl9⟩:=bind_some hl9
  refine Zq hE rfl Tn (ZF _ _ _ _ pb0 p0_0 v0_0 hv0_0 (r5.1.1,r5.1.2) 24 hM r13 e14) ?_
  rintro v w a ⟨rfl,hM⟩ hE
  have hM:=M.tailU (m:=[_]) hM
  simp only [List.cons_append,List.nil_append] at hM
  refine Ze (wp_block (Zc (Zk hE rfl rfl rfl fun a hE=>Zb hE rfl fun a hE=>Ze ?_)))
  obtain ⟨j15,hl16,hF17⟩:=bind_some hl9
  refine ZP (fun a w=>∃ (u18 : Value),Env 82 a [(5,vI j15.2.2.1),(6,u18),(7,vI j15.2.2.2.2)] ∧ M St W w [raw pb0 (cat [[v0_0],[vI j15.1],[(Value.int .u64 j15.2.1)]]),r0,osl NoB (j15.2.2.2.1 : List GShare) u18]) ?_ ?_
  ·skip
   refine Zm hE rfl ?_ ?_
   ·intro hb20
    have hl16:=Zn hl16 hb20
    refine wp_region_lit (Zb hE rfl fun a hE=>Zj ?_)
    obtain rfl:=Option.some.inj hl16
    refine Zi ?_
    have hM:=(hM.pull1.pull3.pull2.pull3).drop
    exact ⟨u7,hE.sub ⟨rfl,rfl,rfl,trivial⟩,hM⟩
   ·intro hb20
    have hl16:=Zo hl16 hb20
    refine Zc (Zk hE rfl rfl rfl fun a hE=>Zb hE rfl fun a hE=>Ze ?_)
    refine Zm hE rfl ?_ ?_
    ·intro hb22
     have hl16:=Zn hl16 hb22
     refine wp_region_lit (Zd hE rfl fun a hE=>Zd hE rfl fun a hE=>Zd hE rfl fun a hE=>Zd hE rfl fun a hE=>ZL hE rfl Tryz.underlying24 (hM.sl (pre:=[_]) noB) fun a hE=>Zk hE rfl rfl rfl ?_); intro a hE
     obtain ⟨x23,hi25,hl16⟩:=bix hl16
     refine ZG hE rfl rfl Tryz.underlying24 ZN (hM.sl (pre:=[_]) noB) hi25.1 fun a hE=>ZI hE rfl (XQ) ?_; intro a hE
     obtain ⟨cs26,hs27,hA28⟩:=Z3 (hM.sl (pre:=[_]) noB) hi25.2
     obtain ⟨u29,rfl,_⟩:=ZQ hs27
     refine ZX (v:=(vB x23.Place)) hE rfl ty5 rfl (At.cat (pre:=[]) hA28 cl0) fun a hE=>TA hE Za ld rfl Tryz.underlying5 Tryz.underlying2 fun a hE=>ZD (xs:=[.const (vI 0),.tmp 34]) (l:=([0,bI x23.Place] : List Int)) (vs:=[vI 0,(vI (bI x23.Place))]) hE hM Za ld rfl rfl Tryz.underlying27 ty2 rfl (by decide) rfl ?_; intro u30 w a hM hE
     have hM:=M.tailP (m:=[_,_]) hM.pull1
     obtain ⟨r32,e33,hl16⟩:=bind_some hl16
     refine Zq hE rfl Bp (YG _ _ _ _ pb0 p0_0 v0_0 hv0_0 (r13.1.1,r13.1.2) ([0,bI x23.Place] : List Int) u30 hM r32 e33) ?_
     rintro v w a ⟨rfl,hM⟩ hE
     have hM:=M.tailU (m:=[_,_]) hM
     simp only [List.cons_append,List.nil_append] at hM
     refine TH hE Za ld rfl Tryz.underlying2 Tryz.underlying5 ?_; intro a hE
     obtain ⟨x34,hi36,hl16⟩:=bix hl16
     refine ZG hE rfl rfl Tryz.underlying24 ZN (hM.sl (pre:=[_,_]) noB) hi36.1 fun a hE=>ZI hE rfl (XQ) ?_; intro a hE
     have hM:=hM.pull2
     obtain ⟨cs37,hM,_⟩:=hM.open1 noB hi36.2
     obtain ⟨_,hx,_⟩:=hM.head
     obtain ⟨u38,_,rfl,_,_⟩:=VL hx
     have hM:=(Tc hM).pull1
     refine H4 (k0:=0 + 0) (seg:=[(vB (Yp r32.2))]) (cs':=cat [[(vB (Yp r32.2))],[u38]]) hE hM noB Za rfl rfl rfl ty5 rfl (Flat.cell (Yp r32.2 : UInt8)) (Th (pre:=[]) cl0 rfl) (Wj (pre:=[]) cl0 rfl) fun w a hM hE=>Zj ?_
     have hM:=(UJ (x:=(⟨Yp r32.2,x34.Data⟩ : GShare)) hM.pull5.pull5.pull5.pull5.pull4.pull5 siw).close1 noB
     obtain rfl:=Option.some.inj hl16
     refine Zi ?_
     have hM:=((hM.pull4.pull2.pull4).drop.pull3).drop
     exact ⟨u7,hE.sub ⟨rfl,rfl,rfl,trivial⟩,hM⟩
    ·intro hb22
     have hl16:=Zo hl16 hb22
     refine Zc (Zk hE rfl rfl rfl fun a hE=>Zb hE rfl fun a hE=>Ze ?_)
     refine Zm hE rfl ?_ ?_
     ·intro hb41
      have hl16:=Zn hl16 hb41
      refine wp_region_lit (Zd hE rfl fun a hE=>Zd hE rfl ?_); intro a hE
      obtain ⟨x42,hi44,hl16⟩:=bix hl16
      refine ZG hE rfl rfl Tryz.underlying24 ZN (hM.sl (pre:=[_]) noB) hi44.1 fun a hE=>ZI hE rfl (Yj) ?_; intro a hE
      have hM:=hM.pull1
      obtain ⟨cs45,hM,_⟩:=hM.open1 noB hi44.2
      obtain ⟨_,hx,_⟩:=hM.head
      obtain ⟨u46,_,rfl,_,_⟩:=VL hx
      have hM:=Tc hM
      refine ZX (v:=u46) hE rfl YS rfl (At.cat (pre:=[[vB x42.Place]]) (hM.holeAt (pre:=[_])) ck) fun a hE=>ZD (xs:=[.const (vB 1)]) (l:=([1] : List UInt8)) (vs:=[vB 1]) hE hM Za ld rfl rfl Tryz.underlying22 ty5 rfl (by decide) rfl ?_; intro u48 w a hM hE
      have hM:=hM.pull1.toOsl0
      obtain ⟨l50,e51,hl16⟩:=bind_some hl16
      obtain ⟨e54,rfl⟩:=ZY e51
      refine Z9 hE hM Za ld rfl rfl (hM.sl (pre:=[_]) noB) Tryz.underlying22 ty5 rfl (by decide) e54 ?_; intro u52 w a hM hE
      obtain ⟨x55,hi57,hl16⟩:=bix hl16
      refine Jz (pre:=[_,_]) hE hM Za ld rfl rfl Tryz.underlying24 ZN hi57.1 fun a hE=>ZI hE rfl (Yj) ?_; intro a hE
      have hM:=hM.pull2
      refine H4 (k0:=0 + 1) (seg:=[u52]) (cs':=cat [[vB x42.Place],[u52]]) hE hM noB Za rfl rfl (Y2 (hM.sl (pre:=[_]) noB)) YS rfl (Rep.cell (hM.sl (pre:=[_]) noB)) (Th (pre:=[[vB x42.Place]]) ck rfl) (Wj (pre:=[[vB x42.Place]]) ck rfl) fun w a hM hE=>Zj ?_
      have hM:=(UJ (x:=(⟨x42.Place,(x42.Data ++ ([1] : List UInt8))⟩ : GShare)) hM.pull5.pull5.pull5.pull5.pull4.pull5 sio).close1 noB
      obtain rfl:=Option.some.inj hl16
      refine Zi ?_
      have hM:=((hM.pull4.pull3.pull4).drop.pull3).drop
      exact ⟨u7,hE.sub ⟨rfl,rfl,rfl,trivial⟩,hM⟩
     ·intro hb41
      have hl16:=Zo hl16 hb41
      refine Zc (Zk hE rfl rfl rfl fun a hE=>Zb hE rfl fun a hE=>Ze ?_)
      refine Zm hE rfl ?_ ?_
      ·intro hb59
       have hl16:=Zn hl16 hb59
       refine wp_region_lit (Zd hE rfl fun a hE=>ZD (xs:=[.const (vI 0),.const (vI 9),.const (vI (-1))]) (l:=([0,9,(-1)] : List Int)) (vs:=[vI 0,vI 9,(vI (-1))]) hE hM Za ld rfl rfl Tryz.underlying27 ty2 rfl (by decide) rfl ?_); intro u60 w a hM hE
       have hM:=M.tailP (m:=[_,_]) hM.pull1
       obtain ⟨r62,e63,hl16⟩:=bind_some hl16
       refine Zq hE rfl Bp (YG _ _ _ _ pb0 p0_0 v0_0 hv0_0 (r13.1.1,r13.1.2) ([0,9,(-1)] : List Int) u60 hM r62 e63) ?_
       rintro v w a ⟨rfl,hM⟩ hE
       have hM:=M.tailU (m:=[_,_]) hM
       simp only [List.cons_append,List.nil_append] at hM
       refine Zb hE rfl fun a hE=>Zj ?_
       obtain rfl:=Option.some.inj hl16
       refine Zi ?_
       have hM:=((hM.pull2.pull4.pull2.pull4).drop.pull3).drop
       exact ⟨u7,hE.sub ⟨rfl,rfl,rfl,trivial⟩,hM⟩
      ·intro hb59
       have hl16:=Zo hl16 hb59
       refine Zc (Zk hE rfl rfl rfl fun a hE=>Zb hE rfl fun a hE=>Ze ?_)
       refine Zm hE rfl ?_ ?_
       ·intro hb65
        have hl16:=Zn hl16 hb65
        refine wp_region_lit (Zb hE rfl fun a hE=>Zj ?_)
        obtain rfl:=Option.some.inj hl16
        refine Zi ?_
        have hM:=((((((M.nilS (α:=GShare) NoB noB hM).pull4).pull2).pull4).drop).pull3).drop
        exact ⟨(Value.slice none 0 0),hE.sub ⟨rfl,rfl,rfl,trivial⟩,hM⟩
       ·intro hb65
        have hl16:=Zo hl16 hb65
        obtain ⟨j68,hl69,hF70⟩:=bind_some hl16
        refine Zx (fun a w=>Env 82 a [(0,(ptr pb0 0)),(5,vI r5.2.1),(6,u7),(7,vI r5.2.2.2),(58,vT j68)] ∧ M St W w [raw pb0 (cat [[v0_0],[vI r13.1.1],[(Value.int .u64 r13.1.2)]]),osl NoB (r5.2.2.1 : List GShare) u7,r0]) ?_ ?_
        ·skip
         refine Zc (Zk hE rfl rfl rfl fun a hE=>Zb hE rfl fun a hE=>Ze ?_)
         refine Zm hE rfl ?_ ?_
         ·intro hb71
          have hl69:=Zn hl69 hb71
          refine wp_skip ?_
          obtain rfl:=Option.some.inj hl69
          refine Zi ?_
          have hM:=(hM.pull3.pull2.pull2.pull3).drop
          exact ⟨hE.sub ⟨rfl,rfl,rfl,rfl,rfl,trivial⟩,hM⟩
         ·intro hb71
          have hl69:=Zo hl69 hb71
          refine wp_region_lit (Zk hE rfl rfl rfl fun a hE=>Zb hE rfl fun a hE=>Zj ?_)
          obtain rfl:=Option.some.inj hl69
          refine Zi ?_
          have hM:=(hM.pull3.pull2.pull2.pull3).drop
          exact ⟨hE.sub ⟨rfl,rfl,rfl,rfl,rfl,trivial⟩,hM⟩
        ·skip
         rintro a w ⟨hE,hM⟩
         refine Zm hE rfl ?_ ?_
         ·intro hb74
          have hF70:=Zn hF70 hb74
          refine Zc (Zd hE rfl ?_); intro a hE
          obtain ⟨x75,hi77,hF70⟩:=bix hF70
          refine ZG hE rfl rfl Tryz.underlying24 ZN (hM.sl (pre:=[_]) noB) hi77.1 fun a hE=>ZI hE rfl (Yj) ?_; intro a hE
          have hM:=hM.pull1
          obtain ⟨cs78,hM,_⟩:=hM.open1 noB hi77.2
          obtain ⟨_,hx,_⟩:=hM.head
          obtain ⟨u79,_,rfl,_,_⟩:=VL hx
          have hM:=Tc hM
          refine ZX (v:=u79) hE rfl YS rfl (At.cat (pre:=[[vB x75.Place]]) (hM.holeAt (pre:=[_])) ck) fun a hE=>ZL hE rfl Tryz.underlying22 (hM.ro (pre:=[]) noB) fun a hE=>Zb hE rfl fun a hE=>Ze (Zc (Zd hE rfl fun a hE=>Zk hE rfl rfl rfl fun a hE=>Ze ?_))
          refine Zm hE rfl ?_ ?_
          ·intro hb81
           have hF70:=Zn hF70 hb81
           refine Zc (Zd hE rfl ?_); intro a hE
           obtain ⟨x82,hi84,hF70⟩:=bix hF70
           refine Jz (pre:=[_]) hE hM Za ld rfl rfl Tryz.underlying24 ZN hi84.1 fun a hE=>ZI hE rfl (Yj) fun a hE=>ZX (v:=u79) hE rfl YS rfl (At.cat (pre:=[[vB x75.Place]]) (hM.holeAt (pre:=[_])) ck) fun a hE=>Zb hE rfl fun a hE=>Ze (wp_region_lit (Zd hE rfl fun a hE=>Zd hE rfl fun a hE=>Zd hE rfl ?_)); intro a hE
           have hM:=M.tailP (m:=[_]) hM.pull2
           obtain ⟨r85,e86,hF70⟩:=bind_some hF70
           refine Zq hE rfl Tn (ZF _ _ _ _ pb0 p0_0 v0_0 hv0_0 (r13.1.1,r13.1.2) (x75.Data.length : Int) hM r85 e86) ?_
           rintro v w a ⟨rfl,hM⟩ hE
           have hM:=M.tailU (m:=[_]) hM
           simp only [List.cons_append,List.nil_append] at hM
           refine Zd hE rfl ?_; intro a hE
           have hM:=M.tailP (m:=[_]) hM
           obtain ⟨r87,e88,hF70⟩:=bind_some hF70
           refine Zq hE rfl cb38 (X8 _ _ _ _ pb0 p0_0 v0_0 hv0_0 (r85.1.1,r85.1.2) hM r87 e88) ?_
           rintro v w a ⟨rfl,hM⟩ hE
           have hM:=M.tailU (m:=[_]) hM
           simp only [List.cons_append,List.nil_append] at hM
           obtain ⟨x89,hi91,hF70⟩:=bix hF70
           refine ZG hE rfl rfl Tryz.underlying22 ty5 (hM.ro (pre:=[_]) noB) hi91.1 ?_; intro a hE
           have hM:=hM.pull1.toOsl (List.getElem?_eq_some_iff.1 hi91.2).1
           refine U2 (i:=(r85.2).toNat) (k0:=0) (seg:=[vB r87.2]) (xo:=x89) (xn:=r87.2) hE hM Za rfl rfl rfl ty5 rfl (Flat.cell (r87.2 : UInt8)) hi91.2 (TT (m:=1) rfl (by decide)) (ZZ rfl) ?_; intro w a hM hE
           have hM:=hM.toOwn noB
           refine Zj ?_
           have hM:=(UJ (x:=(⟨x75.Place,(x75.Data.set (r85.2).toNat r87.2)⟩ : GShare)) hM.pull3.pull2.pull3.pull3 siw).close1 noB
           obtain rfl:=Option.some.inj hF70
           refine Zi ?_
           have hM:=hM.pull2.pull2
           exact ⟨u7,hE.sub ⟨rfl,rfl,rfl,trivial⟩,hM⟩
          ·intro hb81
           have hF70:=Zo hF70 hb81
           refine wp_skip ?_
           have hM:=(UJ (x:=x75) hM siw).close0 noB hi77.2
           obtain rfl:=Option.some.inj hF70
           refine Zi ?_
           have hM:=hM.pull2.pull2
           exact ⟨u7,hE.sub ⟨rfl,rfl,rfl,trivial⟩,hM⟩
         ·intro hb74
          have hF70:=Zo hF70 hb74
          refine wp_skip ?_
          obtain rfl:=Option.some.inj hF70
          refine Zi ?_
          have hM:=hM.pull1.pull2.pull2
          exact ⟨u7,hE.sub ⟨rfl,rfl,rfl,trivial⟩,hM⟩
  ·skip
   rintro a w ⟨u18,hE,hM⟩
   refine Yg ?_
   obtain rfl:=Option.some.inj hF17
   refine Zi ?_
   exact ⟨u18,hE.sub ⟨rfl,rfl,rfl,trivial⟩,hM⟩
 ·skip
  rintro a w ⟨u11,hE,hM⟩
  refine Zc (Zd hE rfl fun a hE=>Zd hE rfl fun a hE=>Zd hE rfl fun a hE=>Zb hE rfl fun a hE=>Zb hE rfl fun a hE=>Zb hE rfl fun a hE=>Ze ?_)
  obtain rfl:=Option.some.inj hF10
  have hM:=hM.pull1.pull2.pull2
  exact wp_ret (KD hE rfl (Zl hE rfl) (Zl hE rfl) (Zl hE rfl) ⟨_,rfl,u11,rfl,hM⟩)
def Wn (p0 : (List UInt8)) (s15 : Int × Int × (List GShare) × Int) : Option (Fl (Int × Int × (List GShare) × Int) (Int × Int × (List GShare))) :=
 if (decide (s15.2.2.2 > 0)) = true then (((Zw p0 (s15.1,s15.2.1) (s15.2.2.1.length : Int)).bind fun r27=>(idx s15.2.2.1 r27.2).bind fun x29=>(if (decide ((x29.Data.length : Int) > 0)) = true then ((idx s15.2.2.1 r27.2).bind fun x41=>(Zw p0 (r27.1.1,r27.1.2) (x29.Data.length : Int)).bind fun r47=>(YB p0 (r47.1.1,r47.1.2)).bind fun r49=>(idx x41.Data r47.2).bind fun x51=>some (r49.1.1,r49.1.2,(s15.2.2.1.set (r27.2).toNat (⟨x41.Place,(x41.Data.set (r47.2).toNat r49.2)⟩ : GShare)))) else (some (r27.1.1,r27.1.2,s15.2.2.1)) : Option (Int × Int × (List GShare))).bind fun j35=>some (j35.1,j35.2.1,j35.2.2) : Option (Int × Int × (List GShare))).bind fun j22=>some (Fl.nx (j22.1,j22.2.1,j22.2.2,wr (s15.2.2.2 - 1)))) else (some (Fl.ex (s15.1,s15.2.1,s15.2.2.1)))
def XF (p0 : (List UInt8)) : Option (Int × (List GShare) × Int) :=
 (Y1 p0).bind fun r1=>(Um p0 (r1.1,r1.2) 8).bind fun r5=>(Zw p0 (r5.1.1,r5.1.2) 3).bind fun r8=>(ZH (Wn p0) (r8.1.1,r8.1.2,r5.2.2.1,r8.2)).bind fun j10=>(Zw p0 (j10.1,j10.2.1) 12).bind fun r58=>if (r58.2 == 0) = true then ((XY p0 (r58.1.1,r58.1.2)).bind fun r61=>some (r61.2.1,r61.2.2.1,r61.2.2.2)) else (some (r5.2.1,j10.2.2,r5.2.2.2))
theorem Kp (w0 : World) (p0 : (List UInt8)) (v0_1 : Value) (hv0_1 : Ro w0 p0 [v0_1]) (r : Int × (List GShare) × Int) (hF : XF p0 = some r) :
  Calls Tryz.prog 5 [v0_1].toArray w0 (fun en w'=>∃ v,en = .returned v ∧ (∃ (y1 : Value),v = (Value.tuple [vI r.1,y1,vI r.2.2].toArray) ∧ Fr w0 w' [osl NoB (r.2.1 : List GShare) y1] ∧ Kept (Old w0) w0 w')):=by
 refine ce Tryz.func5 ?_
 intro a hE
 have hM:=M.start w0
 unfold XF at hF
 refine Zc (Zb hE rfl fun a hE=>Zb hE rfl fun a hE=>Zb hE rfl fun a hE=>Ze (Zc (Zd hE rfl ?_))); intro a hE
 have hM:=M.tailP (m:=[]) hM
 obtain ⟨r1,e2,hF⟩:=bind_some hF
 refine Zq hE rfl kl (Vj _ _ _ _ p0 v0_1 hv0_1 hM r1 e2) ?_
 rintro v w a ⟨b3,rfl,hM⟩ hE
 have hM:=M.tailU (m:=[_]) hM
 simp only [List.cons_append,List.nil_append] at hM
 refine Zb hE rfl fun a hE=>Ze (Zc (Zd hE rfl ?_)); intro a hE
 have hM:=M.tailP (m:=[_]) hM
 obtain ⟨r5,e6,hF⟩:=bind_some hF
 refine Zq hE rfl (cbm Tryz.func36) (Ji _ _ _ _ b3 p0 v0_1 hv0_1 (r1.1,r1.2) 8 hM r5 e6) ?_
 rintro v w a ⟨u7,rfl,hM⟩ hE
 have hM:=M.tailU (m:=[_,_]) hM
 simp only [List.cons_append,List.nil_append] at hM
 refine Zd hE rfl fun a hE=>Zt hE Za ld rfl rfl fun a hE=>Zt hE Za ld rfl rfl fun a hE=>Zt hE Za ld rfl rfl fun a hE=>Zb hE rfl fun a hE=>Zb hE rfl fun a hE=>Zb hE rfl fun a hE=>Ze (wp_seq (Zc (Zd hE rfl ?_))); intro a hE
 have hM:=M.tailP (m:=[_]) hM
 obtain ⟨r8,e9,hF⟩:=bind_some hF
 refine Zq hE rfl Tn (ZF _ _ _ _ b3 p0 v0_1 hv0_1 (r5.1.1,r5.1.2) 3 hM r8 e9) ?_
 rintro v w a ⟨rfl,hM⟩ hE
 have hM:=M.tailU (m:=[_]) hM
 simp only [List.cons_append,List.nil_append] at hM
 refine Zb hE rfl fun a hE=>Ze ?_
 obtain ⟨j10,hl11,hF12⟩:=bind_some hF
 refine ZP (fun a w=>∃ (u13 : Value),Env 62 a [(5,(ptr b3 0)),(6,vI r5.2.1),(7,u13),(8,vI r5.2.2.2)] ∧ M (Old w0) w0 w [raw b3 (cat [[v0_1],[vI j10.1],[(Value.int .u64 j10.2.1)]]),osl NoB (j10.2.2 : List GShare) u13]) ?_ ?_
 ·skip
  refine wp_block ?_
  refine ZK (fun (s15 : Int × Int × (List GShare) × Int) a w=>∃ (u16 : Value),Env 62 a [(5,(ptr b3 0)),(6,vI r5.2.1),(7,u16),(8,vI r5.2.2.2),(9,vI s15.2.2.2)] ∧ M (Old w0) w0 w [raw b3 (cat [[v0_1],[vI s15.1],[(Value.int .u64 s15.2.1)]]),osl NoB (s15.2.2.1 : List GShare) u16]) hl11 ⟨u7,hE.sub ⟨rfl,rfl,rfl,rfl,rfl,trivial⟩,hM⟩ ?_
  rintro s15 a w ⟨u16,hE,hM⟩ o20 hs18 hx19
  unfold Wn at hs18
  refine wp_seq (Zc (Zd hE rfl fun a hE=>Zk hE rfl rfl rfl fun a hE=>Ze ?_))
  refine Zm hE rfl ?_ ?_
  ·intro hb21
   have hs18:=Zn hs18 hb21
   refine wp_skip (Zu ?_)
   obtain ⟨j22,hl23,hF24⟩:=bind_some hs18
   refine Zx (fun a w=>∃ (u25 : Value),Env 62 a [(5,(ptr b3 0)),(6,vI r5.2.1),(7,u25),(8,vI r5.2.2.2),(9,vI s15.2.2.2)] ∧ M (Old w0) w0 w [raw b3 (cat [[v0_1],[vI j22.1],[(Value.int .u64 j22.2.1)]]),osl NoB (j22.2.2 : List GShare) u25]) ?_ ?_
   ·skip
    refine wp_block (Zc (Zd hE rfl fun a hE=>Zd hE rfl fun a hE=>ZL hE rfl Tryz.underlying24 (hM.sl (pre:=[_]) noB) ?_)); intro a hE
    have hM:=M.tailP (m:=[_]) hM
    obtain ⟨r27,e28,hl23⟩:=bind_some hl23
    refine Zq hE rfl Tn (ZF _ _ _ _ b3 p0 v0_1 hv0_1 (s15.1,s15.2.1) (s15.2.2.1.length : Int) hM r27 e28) ?_
    rintro v w a ⟨rfl,hM⟩ hE
    have hM:=M.tailU (m:=[_]) hM
    simp only [List.cons_append,List.nil_append] at hM
    refine Zb hE rfl fun a hE=>Ze (Zc (Zd hE rfl fun a hE=>Zd hE rfl ?_)); intro a hE
    obtain ⟨x29,hi31,hl23⟩:=bix hl23
    refine ZG hE rfl rfl Tryz.underlying24 ZN (hM.sl (pre:=[_]) noB) hi31.1 fun a hE=>ZI hE rfl (Yj) ?_; intro a hE
    have hM:=hM.pull1
    obtain ⟨cs32,hM,_⟩:=hM.open1 noB hi31.2
    obtain ⟨_,hx,_⟩:=hM.head
    obtain ⟨u33,_,rfl,_,_⟩:=VL hx
    have hM:=Tc hM
    refine ZX (v:=u33) hE rfl YS rfl (At.cat (pre:=[[vB x29.Place]]) (hM.holeAt (pre:=[_])) ck) fun a hE=>ZL hE rfl Tryz.underlying22 (hM.ro (pre:=[]) noB) fun a hE=>Zb hE rfl fun a hE=>Ze (Zc (Zd hE rfl fun a hE=>Zk hE rfl rfl rfl fun a hE=>Ze ?_))
    have hM:=(UJ (x:=x29) hM siw).close0 noB hi31.2
    obtain ⟨j35,hl36,hF37⟩:=bind_some hl23
    refine ZP (fun a w=>∃ (u38 : Value),Env 62 a [(5,(ptr b3 0)),(6,vI r5.2.1),(7,u38),(8,vI r5.2.2.2),(9,vI s15.2.2.2)] ∧ M (Old w0) w0 w [raw b3 (cat [[v0_1],[vI j35.1],[(Value.int .u64 j35.2.1)]]),osl NoB (j35.2.2 : List GShare) u38]) ?_ ?_
    ·skip
     refine Zm hE rfl ?_ ?_
     ·intro hb40
      have hl36:=Zn hl36 hb40
      refine Zc (Zd hE rfl fun a hE=>Zd hE rfl ?_); intro a hE
      obtain ⟨x41,hi43,hl36⟩:=bix hl36
      refine ZG hE rfl rfl Tryz.underlying24 ZN (hM.sl (pre:=[]) noB) hi43.1 fun a hE=>ZI hE rfl (Yj) ?_; intro a hE
      obtain ⟨cs44,hM,_⟩:=hM.open1 noB hi43.2
      obtain ⟨_,hx,_⟩:=hM.head
      obtain ⟨u45,_,rfl,_,_⟩:=VL hx
      have hM:=Tc hM
      refine ZX (v:=u45) hE rfl YS rfl (At.cat (pre:=[[vB x41.Place]]) (hM.holeAt (pre:=[_])) ck) fun a hE=>Zb hE rfl fun a hE=>Ze (wp_region_lit (Zd hE rfl fun a hE=>Zd hE rfl fun a hE=>Zd hE rfl ?_)); intro a hE
      have hM:=M.tailP (m:=[_]) hM.pull2
      obtain ⟨r47,e48,hl36⟩:=bind_some hl36
      refine Zq hE rfl Tn (ZF _ _ _ _ b3 p0 v0_1 hv0_1 (r27.1.1,r27.1.2) (x29.Data.length : Int) hM r47 e48) ?_
      rintro v w a ⟨rfl,hM⟩ hE
      have hM:=M.tailU (m:=[_]) hM
      simp only [List.cons_append,List.nil_append] at hM
      refine Zd hE rfl ?_; intro a hE
      have hM:=M.tailP (m:=[_]) hM
      obtain ⟨r49,e50,hl36⟩:=bind_some hl36
      refine Zq hE rfl cb38 (X8 _ _ _ _ b3 p0 v0_1 hv0_1 (r47.1.1,r47.1.2) hM r49 e50) ?_
      rintro v w a ⟨rfl,hM⟩ hE
      have hM:=M.tailU (m:=[_]) hM
      simp only [List.cons_append,List.nil_append] at hM
      obtain ⟨x51,hi53,hl36⟩:=bix hl36
      refine ZG hE rfl rfl Tryz.underlying22 ty5 (hM.ro (pre:=[_]) noB) hi53.1 ?_; intro a hE
      have hM:=hM.pull1.toOsl (List.getElem?_eq_some_iff.1 hi53.2).1
      refine U2 (i:=(r47.2).toNat) (k0:=0) (seg:=[vB r49.2]) (xo:=x51) (xn:=r49.2) hE hM Za rfl rfl rfl ty5 rfl (Flat.cell (r49.2 : UInt8)) hi53.2 (TT (m:=1) rfl (by decide)) (ZZ rfl) ?_; intro w a hM hE
      have hM:=hM.toOwn noB
      refine Zj ?_
      have hM:=(UJ (x:=(⟨x41.Place,(x41.Data.set (r47.2).toNat r49.2)⟩ : GShare)) hM.pull1.pull2.pull2 siw).close1 noB
      obtain rfl:=Option.some.inj hl36
      refine Zi ?_
      have hM:=hM.pull1
      exact ⟨u16,hE.sub ⟨rfl,rfl,rfl,rfl,rfl,trivial⟩,hM⟩
     ·intro hb40
      have hl36:=Zo hl36 hb40
      refine wp_skip ?_
      obtain rfl:=Option.some.inj hl36
      refine Zi ?_
      have hM:=hM.pull1
      exact ⟨u16,hE.sub ⟨rfl,rfl,rfl,rfl,rfl,trivial⟩,hM⟩
    ·skip
     rintro a w ⟨u38,hE,hM⟩
     refine Yg ?_
     obtain rfl:=Option.some.inj hF37
     refine Zi ?_
     exact ⟨u38,hE.sub ⟨rfl,rfl,rfl,rfl,rfl,trivial⟩,hM⟩
   ·skip
    rintro a w ⟨u25,hE,hM⟩
    refine wp_region_lit (Zd hE rfl fun a hE=>Zk hE rfl rfl rfl fun a hE=>Zb hE rfl fun a hE=>Zj (Zi ?_))
    exact ⟨_,(ois hF24),u25,hE.sub ⟨rfl,rfl,rfl,rfl,rfl,trivial⟩,hM⟩
  ·intro hb21
   have hs18:=Zo hs18 hb21
   refine wp_exit (Zs (Zs (Ys ?_)))
   obtain rfl:=hx19 _ (ois hs18)
   refine Zi ?_
   exact ⟨u16,hE.sub ⟨rfl,rfl,rfl,rfl,trivial⟩,hM⟩
 ·skip
  rintro a w ⟨u13,hE,hM⟩
  refine Zu (wp_seq (Zc (Zd hE rfl ?_))); intro a hE
  have hM:=M.tailP (m:=[_]) hM
  obtain ⟨r58,e59,hF12⟩:=bind_some hF12
  refine Zq hE rfl Tn (ZF _ _ _ _ b3 p0 v0_1 hv0_1 (j10.1,j10.2.1) 12 hM r58 e59) ?_
  rintro v w a ⟨rfl,hM⟩ hE
  have hM:=M.tailU (m:=[_]) hM
  simp only [List.cons_append,List.nil_append] at hM
  refine Zk hE rfl rfl rfl fun a hE=>Ze ?_
  refine Zm hE rfl ?_ ?_
  ·intro hb60
   have hF12:=Zn hF12 hb60
   refine Zc (Zd hE rfl ?_); intro a hE
   have hM:=M.tailP (m:=[_]) hM
   obtain ⟨r61,e62,hF12⟩:=bind_some hF12
   refine Zq hE rfl cb39 (TC _ _ _ _ b3 p0 v0_1 hv0_1 (r58.1.1,r58.1.2) hM r61 e62) ?_
   rintro v w a ⟨u63,rfl,hM⟩ hE
   have hM:=M.tailU (m:=[_,_]) hM
   simp only [List.cons_append,List.nil_append] at hM
   refine Zt hE Za ld rfl rfl fun a hE=>Zt hE Za ld rfl rfl fun a hE=>Zt hE Za ld rfl rfl fun a hE=>Zb hE rfl fun a hE=>Zb hE rfl fun a hE=>Zb hE rfl fun a hE=>Ze ?_
   obtain rfl:=Option.some.inj hF12
   have hM:=M.fst (l:=[_]) hM.pull1
   exact wp_ret (Zr (KD hE rfl (Zl hE rfl) (Zl hE rfl) (Zl hE rfl) ⟨_,rfl,u63,rfl,hM.outF (Z8 Yd),hM.kept⟩))
  ·intro hb60
   have hF12:=Zo hF12 hb60
   refine wp_skip (Zu (Zc (Zd hE rfl fun a hE=>Zd hE rfl fun a hE=>Zd hE rfl fun a hE=>Zb hE rfl fun a hE=>Zb hE rfl fun a hE=>Zb hE rfl fun a hE=>Ze ?_)))
   obtain rfl:=Option.some.inj hF12
   have hM:=M.fst (l:=[_]) hM.pull1
   exact wp_ret (KD hE rfl (Zl hE rfl) (Zl hE rfl) (Zl hE rfl) ⟨_,rfl,u13,rfl,hM.outF (Z8 Yd),hM.kept⟩)
def YQ (p0 : Int) (p1 : Int) (p2 : Int) : Option (Bool) :=
 (if (decide (p1 ≤ p0)) = true then (some (decide (p0 ≤ p2))) else (some false) : Option (Bool)).bind fun j1=>some j1
theorem Un (w0 : World) (p0 : Int) (p1 : Int) (p2 : Int) (r : Bool) (hF : YQ p0 p1 p2 = some r) :
  Calls Tryz.prog 52 [vI p0,vI p1,vI p2].toArray w0 (Rt w0 (vT r)):=by
 refine ce Tryz.func52 ?_
 intro a hE
 have hM:=M.start w0
 unfold YQ at hF
 refine Zc (Zb hE rfl fun a hE=>Ze ?_)
 obtain ⟨j1,hl2,hF3⟩:=bind_some hF
 refine Zx (fun a w=>Env 15 a [(6,vT j1)] ∧ M (Old w0) w0 w []) ?_ ?_
 ·skip
  refine wp_region_lit (Zd hE rfl fun a hE=>Zd hE rfl fun a hE=>Zk hE rfl rfl rfl fun a hE=>Zd hE rfl ?_); intro a hE
  refine ZO (decide (p1 ≤ p0)) (fun hb4=>?_) (fun hb4=>?_)
  ·have hl2:=Zn hl2 hb4
   refine Zh hE (Zf hE rfl (lkb rfl hb4)) (by decide) rfl fun a hE=>Zh hE (Zf hE rfl (lkb rfl hb4)) (by decide) rfl fun a hE=>ZJ hE (Zf hE rfl (lkb rfl hb4)) (by decide) rfl rfl rfl fun a hE=>ZB hE (lkb rfl hb4) rfl fun a hE=>Zb hE rfl fun a hE=>Zj ?_
   obtain rfl:=Option.some.inj hl2
   refine Zi ?_
   exact ⟨hE.sub ⟨rfl,trivial⟩,hM⟩
  ·have hl2:=Zo hl2 hb4
   refine Zg hE rfl (lkb rfl hb4) rfl (by decide) fun a hE=>Zg hE rfl (lkb rfl hb4) rfl (by decide) fun a hE=>Zg hE rfl (lkb rfl hb4) rfl (by decide) fun a hE=>Zy hE (lkb rfl hb4) rfl fun a hE=>Zb hE rfl fun a hE=>Zj ?_
   obtain rfl:=Option.some.inj hl2
   refine Zi ?_
   exact ⟨hE.sub ⟨rfl,trivial⟩,hM⟩
 ·skip
  rintro a w ⟨hE,hM⟩
  obtain rfl:=Option.some.inj hF3
  exact wp_ret (kr1 hE rfl rfl hM.kept)
def XR (p1 : Int) (p2 : Int) (s4 : Int × Int) : Option (Fl (Int × Int) Int) :=
 if (decide (s4.2 ≥ p2)) = true then (((YI s4.2).bind fun _=>(if ((B8 (YD s4.1 s4.2) 1) == 1) = true then ((YI (wr (s4.2 - p2))).bind fun _=>some (K4 s4.1 (TN p1 (wr (s4.2 - p2))))) else (some s4.1) : Option (Int)).bind fun j13=>some j13 : Option (Int)).bind fun j9=>some (Fl.nx (j9,wr (s4.2 - 1)))) else (some (Fl.ex s4.1))
def Uq (p0 : Int) (p1 : Int) (p2 : Int) : Option (Int) :=
 (ZH (XR p1 p2) (p0,15)).bind fun j1=>some j1
theorem B1 (w0 : World) (p0 : Int) (p1 : Int) (p2 : Int) (r : Int) (hF : Uq p0 p1 p2 = some r) :
  Calls Tryz.prog 103 [vI p0,vI p1,vI p2].toArray w0 (Rt w0 (vI r)):=by
 refine ce Tryz.func103 ?_
 intro a hE
 have hM:=M.start w0
 unfold Uq at hF
 refine Zc (Zb hE rfl fun a hE=>Ze (wp_seq (Zc (Zb hE rfl fun a hE=>Ze ?_))))
 obtain ⟨j1,hl2,hF3⟩:=bind_some hF
 refine ZP (fun a w=>Env 26 a [(0,vI j1)] ∧ M (Old w0) w0 w []) ?_ ?_
 ·skip
  refine wp_block ?_
  refine ZK (fun (s4 : Int × Int) a w=>Env 26 a [(0,vI s4.1),(1,vI p1),(2,vI p2),(7,vI s4.2)] ∧ M (Old w0) w0 w []) hl2 ⟨hE.sub ⟨rfl,rfl,rfl,rfl,trivial⟩,hM⟩ ?_
  rintro s4 a w ⟨hE,hM⟩ o7 hs5 hx6
  unfold XR at hs5
  refine wp_seq (Zc (Zd hE rfl fun a hE=>Zd hE rfl fun a hE=>Zk hE rfl rfl rfl fun a hE=>Ze ?_))
  refine Zm hE rfl ?_ ?_
  ·intro hb8
   have hs5:=Zn hs5 hb8
   refine wp_skip (Zu ?_)
   obtain ⟨j9,hl10,hF11⟩:=bind_some hs5
   refine Zx (fun a w=>Env 26 a [(0,vI j9),(1,vI p1),(2,vI p2),(7,vI s4.2)] ∧ M (Old w0) w0 w []) ?_ ?_
   ·skip
    refine wp_block (Zc (Zd hE rfl fun a hE=>Zd hE rfl ?_)); intro a hE
    obtain ⟨_,e12,hl10⟩:=bind_some hl10
    have e12:=WA e12
    refine Ke hE Za ld rfl rfl (km _ _ e12) fun a hE=>Zk hE rfl rfl rfl fun a hE=>Zk hE rfl rfl rfl fun a hE=>Ze ?_
    obtain ⟨j13,hl14,hF15⟩:=bind_some hl10
    refine ZP (fun a w=>Env 26 a [(0,vI j13),(1,vI p1),(2,vI p2),(7,vI s4.2)] ∧ M (Old w0) w0 w []) ?_ ?_
    ·skip
     refine Zm hE rfl ?_ ?_
     ·intro hb16
      have hl14:=Zn hl14 hb16
      refine wp_region_lit (Zd hE rfl fun a hE=>Zd hE rfl fun a hE=>Zd hE rfl fun a hE=>Zd hE rfl fun a hE=>Zk hE rfl rfl rfl ?_); intro a hE
      obtain ⟨_,e17,hl14⟩:=bind_some hl14
      have e17:=WA e17
      refine Ke hE Za ld rfl rfl (Ho _ _ e17) fun a hE=>Zk hE rfl rfl rfl fun a hE=>Zb hE rfl fun a hE=>Zj ?_
      obtain rfl:=Option.some.inj hl14
      refine Zi ?_
      exact ⟨hE.sub ⟨rfl,rfl,rfl,rfl,trivial⟩,hM⟩
     ·intro hb16
      have hl14:=Zo hl14 hb16
      refine wp_skip ?_
      obtain rfl:=Option.some.inj hl14
      refine Zi ?_
      exact ⟨hE.sub ⟨rfl,rfl,rfl,rfl,trivial⟩,hM⟩
    ·skip
     rintro a w ⟨hE,hM⟩
     refine Yg ?_
     obtain rfl:=Option.some.inj hF15
     refine Zi ?_
     exact ⟨hE.sub ⟨rfl,rfl,rfl,rfl,trivial⟩,hM⟩
   ·skip
    rintro a w ⟨hE,hM⟩
    refine wp_region_lit (Zd hE rfl fun a hE=>Zk hE rfl rfl rfl fun a hE=>Zb hE rfl fun a hE=>Zj (Zi ?_))
    exact ⟨_,(ois hF11),hE.sub ⟨rfl,rfl,rfl,rfl,trivial⟩,hM⟩
  ·intro hb8
   have hs5:=Zo hs5 hb8
   refine wp_exit (Zs (Zs (Ys ?_)))
   obtain rfl:=hx6 _ (ois hs5)
   refine Zi ?_
   exact ⟨hE.sub ⟨rfl,trivial⟩,hM⟩
 ·skip
  rintro a w ⟨hE,hM⟩
  refine Zu (Zc (Zd hE rfl fun a hE=>Zb hE rfl fun a hE=>Ze ?_))
  obtain rfl:=Option.some.inj hF3
  exact wp_ret (kr1 hE rfl rfl hM.kept)
def Vt (p0 : Int) (s8 : Int) (s18 : Int) : Option (Fl Int (Fl Unit Bool)) :=
 (YI s8).bind fun _=>if (decide (s18 < (TN 2 s8))) = true then ((Uq p0 s18 s8).bind fun r24=>if (r24 == 0) = true then (some (Fl.ex (Fl.ex false))) else (some (Fl.nx (wr (s18 + 1))))) else (some (Fl.ex (Fl.nx ())))
def Vw (p0 : Int) (s8 : Int) : Option (Fl Int (Fl Unit Bool)) :=
 if (decide (s8 ≤ 4)) = true then ((YI s8).bind fun _=>(ZH (Vt p0 s8) (TN 1 s8)).bind fun j14=>j14.el (fun s17=>some (Fl.nx (wr (s8 + 1)))) (fun r=>some (Fl.ex (Fl.ex r)))) else (some (Fl.ex (Fl.nx ())))
def WC (p0 : Int) : Option (Bool) :=
 (YQ p0 256 511).bind fun r1=>if (!r1) = true then (some false) else ((ZH (Vw p0) 1).bind fun j4=>j4.el (fun s7=>some true) (fun r=>some r))
theorem TX (w0 : World) (p0 : Int) (r : Bool) (hF : WC p0 = some r) :
  Calls Tryz.prog 51 [vI p0].toArray w0 (Rt w0 (vT r)):=by
 refine ce Tryz.func51 ?_
 intro a hE
 have hM:=M.start w0
 unfold WC at hF
 refine Zc (Zb hE rfl fun a hE=>Ze (wp_seq (Zc (Zd hE rfl ?_)))); intro a hE
 obtain ⟨r1,e2,hF⟩:=bind_some hF
 refine Zq hE rfl cb52 (Un _ p0 256 511 r1 e2) ?_
 rintro v w a ⟨rfl,hK⟩ hE
 have hM:=hM.keep hK
 refine Ve hE rfl fun a hE=>Ze ?_
 refine Zm hE rfl ?_ ?_
 ·intro hb3
  have hF:=Zn hF hb3
  refine Zc (Zb hE rfl fun a hE=>Ze ?_)
  obtain rfl:=Option.some.inj hF
  exact wp_ret (Zr (kr1 hE rfl rfl hM.kept))
 ·intro hb3
  have hF:=Zo hF hb3
  refine wp_skip (Zu (wp_seq (Zc (Zb hE rfl fun a hE=>Ze ?_))))
  obtain ⟨j4,hl5,hF6⟩:=bind_some hF
  refine ZP (fun a w=>∃ s7 : Unit,j4 = Fl.nx s7 ∧ Env 25 a [] ∧ M (Old w0) w0 w []) ?_ ?_
  ·skip
   refine wp_block ?_
   refine ZK (fun (s8 : Int) a w=>Env 25 a [(0,vI p0),(3,vI s8)] ∧ M (Old w0) w0 w []) hl5 ⟨hE.sub ⟨rfl,rfl,trivial⟩,hM⟩ ?_
   rintro s8 a w ⟨hE,hM⟩ o11 hs9 hx10
   unfold Vw at hs9
   refine wp_seq (Zc (Zd hE rfl fun a hE=>Zk hE rfl rfl rfl fun a hE=>Ze ?_))
   refine Zm hE rfl ?_ ?_
   ·intro hb12
    have hs9:=Zn hs9 hb12
    refine wp_skip (Zu (wp_seq (wp_block (Zc (Zd hE rfl ?_))))); intro a hE
    obtain ⟨_,e13,hs9⟩:=bind_some hs9
    have e13:=WA e13
    refine Ke hE Za ld rfl rfl (Ho _ _ e13) fun a hE=>Zb hE rfl fun a hE=>Ze ?_
    obtain ⟨j14,hl15,hF16⟩:=bind_some hs9
    refine ZP (fun a w=>∃ s17 : Unit,j14 = Fl.nx s17 ∧ Env 25 a [(0,vI p0),(3,vI s8)] ∧ M (Old w0) w0 w []) ?_ ?_
    ·skip
     refine wp_block ?_
     refine ZK (fun (s18 : Int) a w=>Env 25 a [(0,vI p0),(3,vI s8),(4,vI s18)] ∧ M (Old w0) w0 w []) hl15 ⟨hE.sub ⟨rfl,rfl,rfl,trivial⟩,hM⟩ ?_
     rintro s18 a w ⟨hE,hM⟩ o21 hs19 hx20
     unfold Vt at hs19
     refine wp_seq (Zc (Zd hE rfl fun a hE=>Zd hE rfl ?_)); intro a hE
     obtain ⟨_,e22,hs19⟩:=bind_some hs19
     have e22:=WA e22
     refine Ke hE Za ld rfl rfl (Ho _ _ e22) fun a hE=>Zk hE rfl rfl rfl fun a hE=>Ze ?_
     refine Zm hE rfl ?_ ?_
     ·intro hb23
      have hs19:=Zn hs19 hb23
      refine wp_skip (Zu (wp_seq (wp_block (Zc (Zd hE rfl fun a hE=>Zd hE rfl fun a hE=>Zd hE rfl ?_))))); intro a hE
      obtain ⟨r24,e25,hs19⟩:=bind_some hs19
      refine Zq hE rfl (cbm Tryz.func103) (B1 _ p0 s18 s8 r24 e25) ?_
      rintro v w a ⟨rfl,hK⟩ hE
      have hM:=hM.keep hK
      refine Zk hE rfl rfl rfl fun a hE=>Ze ?_
      refine Zm hE rfl ?_ ?_
      ·intro hb26
       have hs19:=Zn hs19 hb26
       refine Zc (Zb hE rfl fun a hE=>Ze ?_)
       obtain rfl:=hx20 _ (ois hs19)
       obtain rfl:=hx10 _ (ois hF16)
       obtain rfl:=Option.some.inj hF6
       exact wp_ret (Z4 (Zr (Zr (Z4 (Zr (Z4 (Zr (Zr (Z4 (Zr (Zr (kr1 hE rfl rfl hM.kept))))))))))))
      ·intro hb26
       have hs19:=Zo hs19 hb26
       refine wp_skip (Yg (Zu (wp_region_lit (Zd hE rfl fun a hE=>Zk hE rfl rfl rfl fun a hE=>Zb hE rfl fun a hE=>Zj (Zi ?_)))))
       exact ⟨_,(ois hs19),hE.sub ⟨rfl,rfl,rfl,trivial⟩,hM⟩
     ·intro hb23
      have hs19:=Zo hs19 hb23
      refine wp_exit (Zs (Zs (Ys ?_)))
      obtain rfl:=hx20 _ (ois hs19)
      refine Zi ?_
      exact ⟨(),rfl,hE.sub ⟨rfl,rfl,trivial⟩,hM⟩
    ·skip
     rintro a w ⟨s17,ht,hE,hM⟩
     subst ht
     have hF16:=VQ hF16
     refine Yg (Zu (wp_region_lit (Zd hE rfl fun a hE=>Zk hE rfl rfl rfl fun a hE=>Zb hE rfl fun a hE=>Zj (Zi ?_))))
     exact ⟨_,(ois hF16),hE.sub ⟨rfl,rfl,trivial⟩,hM⟩
   ·intro hb12
    have hs9:=Zo hs9 hb12
    refine wp_exit (Zs (Zs (Ys ?_)))
    obtain rfl:=hx10 _ (ois hs9)
    refine Zi ?_
    exact ⟨(),rfl,hE.sub trivial,hM⟩
  ·skip
   rintro a w ⟨s7,ht,hE,hM⟩
   subst ht
   have hF6:=VQ hF6
   refine Zu (Zc (Zb hE rfl fun a hE=>Ze ?_))
   obtain rfl:=Option.some.inj hF6
   exact wp_ret (kr1 hE rfl rfl hM.kept)
def YN (p0 : (List GShare)) (p1 : GShare → Option (Bool)) (s5 : Int) : Option (Fl Int (Fl Unit Int)) :=
 if (decide (s5 < (p0.length : Int))) = true then ((idx p0 s5).bind fun x10=>((p1 x10)).bind fun r18=>if r18 = true then (some (Fl.ex (Fl.ex s5))) else (some (Fl.nx (wr (s5 + 1))))) else (some (Fl.ex (Fl.nx ())))
def Yt (p0 : (List GShare)) (p1 : GShare → Option (Bool)) : Option (Int) :=
 (ZH (YN p0 p1) 0).bind fun j1=>j1.el (fun s4=>some (-1)) (fun r=>some r)
theorem UO (w0 : World) (p0 : (List GShare)) (v0_1 : Value) (hv0_1 : Ro w0 p0 [v0_1]) (p1 : GShare → Option (Bool)) (k1 : Nat) (q1 : List Value) (hcb1 : Callable Tryz.prog k1) (hg1 : ∀ (w2 : World),Kept (Old w0) w0 w2 → ∀ (z0 : GShare) (zu1 : Value) (_ : Ro w2 z0.Data [zu1]) (zr : Bool),p1 z0 = some zr → Calls Tryz.prog k1 ([(Value.agg (cat [[vB z0.Place],[zu1]]).toArray)] ++ q1).toArray w2 (fun en w3=>∃ v,en = .returned v ∧ (v = (vT zr) ∧ Kept (Old w2) w2 w3))) (r : Int) (hF : Yt p0 p1 = some r) :
  Calls Tryz.prog 127 [v0_1,(Value.func (.func k1) #[] q1.toArray)].toArray w0 (Rt w0 (vI r)):=by
 refine ce Tryz.func127 ?_
 intro a hE
 have hM:=M.start w0
 unfold Yt at hF
 refine Zc (Zb hE rfl fun a hE=>Ze (wp_seq (Zc (Zd hE rfl fun a hE=>ZL hE rfl Tryz.underlying24 (hM.rd hv0_1) fun a hE=>Zd hE rfl fun a hE=>Ze ?_))))
 obtain ⟨j1,hl2,hF3⟩:=bind_some hF
 refine ZP (fun a w=>∃ s4 : Unit,j1 = Fl.nx s4 ∧ Env 19 a [] ∧ M (Old w0) w0 w []) ?_ ?_
 ·skip
  refine wp_block ?_
  refine ZK (fun (s5 : Int) a w=>Env 19 a [(0,v0_1),(1,(Value.func (.func k1) #[] q1.toArray)),(7,(vI (p0.length : Int))),(8,vI s5)] ∧ M (Old w0) w0 w []) hl2 ⟨hE.sub ⟨rfl,rfl,rfl,rfl,trivial⟩,hM⟩ ?_
  rintro s5 a w ⟨hE,hM⟩ o8 hs6 hx7
  unfold YN at hs6
  refine Zc (Zk hE rfl rfl rfl fun a hE=>Ze (wp_seq ?_))
  refine Zm hE rfl ?_ ?_
  ·intro hb9
   have hs6:=Zn hs6 hb9
   refine wp_skip (Zu (wp_seq (wp_block (Zc (Zd hE rfl fun a hE=>Zb hE rfl fun a hE=>Ze (Zc (Zd hE rfl fun a hE=>Zd hE rfl fun a hE=>Zd hE rfl ?_))))))); intro a hE
   obtain ⟨x10,hi12,hs6⟩:=bix hs6
   refine ZG hE rfl rfl Tryz.underlying24 ZN (hM.rd hv0_1) hi12.1 ?_; intro a hE
   obtain ⟨cs13,hs14,hA15⟩:=Z3 hv0_1 hi12.2 -- ^
   obtain ⟨u16,rfl,h17⟩:=ZQ hs14 -- ^
   refine WR hE rfl ZN rfl (hM.atk hA15 (Yr hv0_1 hi12.2)) cq ?_; intro a hE
   obtain ⟨r18,e19,hs6⟩:=bind_some hs6
   refine y6 (vs:=[(Value.agg (cat [[vB x10.Place],[u16]]).toArray)]) hE Za ld rfl rfl hcb1 (hg1 _ hM.kept x10 u16 (hM.rdo h17) r18 e19) ?_
   rintro v w a ⟨rfl,hK⟩ hE
   have hM:=hM.keep hK
   refine Ze ?_
   refine Zm hE rfl ?_ ?_
   ·intro hb20
    have hs6:=Zn hs6 hb20
    refine Zc (Zd hE rfl fun a hE=>Zb hE rfl fun a hE=>Ze ?_)
    obtain rfl:=hx7 _ (ois hs6)
    obtain rfl:=Option.some.inj hF3
    exact wp_ret (Z4 (Zr (Zr (Z4 (Zr (Zr (kr1 hE rfl rfl hM.kept)))))))
   ·intro hb20
    have hs6:=Zo hs6 hb20
    refine wp_skip (Yg (Zu (wp_region_lit (Zk hE rfl rfl rfl fun a hE=>Zd hE rfl fun a hE=>Zj (Zi ?_)))))
    exact ⟨_,(ois hs6),hE.sub ⟨rfl,rfl,rfl,rfl,trivial⟩,hM⟩
  ·intro hb9
   have hs6:=Zo hs6 hb9
   refine wp_exit (Zs (Zs (Ys ?_)))
   obtain rfl:=hx7 _ (ois hs6)
   refine Zi ?_
   exact ⟨(),rfl,hE.sub trivial,hM⟩
 ·skip
  rintro a w ⟨s4,ht,hE,hM⟩
  subst ht
  have hF3:=VQ hF3
  refine Zu (Zc (Zb hE rfl fun a hE=>Ze ?_))
  obtain rfl:=Option.some.inj hF3
  exact wp_ret (kr1 hE rfl rfl hM.kept)
def ZR (p0 : (List GShare)) (p1 : GShare → Option (Bool)) : Option (Bool) :=
 (Yt p0 p1).bind fun r1=>some (decide (r1 ≥ 0))
theorem XM (w0 : World) (p0 : (List GShare)) (v0_1 : Value) (hv0_1 : Ro w0 p0 [v0_1]) (p1 : GShare → Option (Bool)) (k1 : Nat) (q1 : List Value) (hcb1 : Callable Tryz.prog k1) (hg1 : ∀ (w2 : World),Kept (Old w0) w0 w2 → ∀ (z0 : GShare) (zu1 : Value) (_ : Ro w2 z0.Data [zu1]) (zr : Bool),p1 z0 = some zr → Calls Tryz.prog k1 ([(Value.agg (cat [[vB z0.Place],[zu1]]).toArray)] ++ q1).toArray w2 (fun en w3=>∃ v,en = .returned v ∧ (v = (vT zr) ∧ Kept (Old w2) w2 w3))) (r : Bool) (hF : ZR p0 p1 = some r) :
  Calls Tryz.prog 91 [v0_1,(Value.func (.func k1) #[] q1.toArray)].toArray w0 (Rt w0 (vT r)):=by
 refine ce Tryz.func91 ?_
 intro a hE
 have hM:=M.start w0
 unfold ZR at hF
 refine Zc (Zb hE rfl fun a hE=>Ze (Zc (Zd hE rfl fun a hE=>Zd hE rfl ?_))); intro a hE
 obtain ⟨r1,e2,hF⟩:=bind_some hF
 refine Zq hE rfl (cbm Tryz.func127) (UO _ p0 v0_1 (hM.rdo hv0_1) p1 k1 q1 hcb1 (fun w2 hk2=>hg1 w2 (hM.kept.trans hk2)) r1 e2) ?_
 rintro v w a ⟨rfl,hK⟩ hE
 have hM:=hM.keep hK
 refine Zk hE rfl rfl rfl fun a hE=>Zb hE rfl fun a hE=>Ze ?_
 obtain rfl:=Option.some.inj hF
 exact wp_ret (kr1 hE rfl rfl hM.kept)
def Uj (p0 : GShare) : Option (Bool) :=
 (if (p0.Place != 0) = true then (some (decide ((p0.Data.length : Int) ≤ 100))) else (some false) : Option (Bool)).bind fun j3=>some j3
theorem Jr (w0 : World) (p0 : GShare) (v0_1 : Value) (hv0_1 : Ro w0 p0.Data [v0_1]) (r : Bool) (hF : Uj p0 = some r) :
  Calls Tryz.prog 67 [(Value.agg (cat [[vB p0.Place],[v0_1]]).toArray)].toArray w0 (Rt w0 (vT r)):=by
 refine ce Tryz.func67 ?_
 intro a hE
 have hM:=M.start w0
 unfold Uj at hF
 refine Zc (KW (cs:=cat [[vB p0.Place],[v0_1]]) hE hM Za ld rfl rfl fun b1 w a hM hE=>Zb hE rfl fun a hE=>Ze ?_)
 obtain ⟨j3,hl4,hF5⟩:=bind_some hF
 refine Zx (fun a w=>Env 12 a [(2,vT j3)] ∧ M (Old w0) w0 w []) ?_ ?_
 ·skip
  refine wp_region_lit (ZI hE rfl (XQ) fun a hE=>ZX (v:=(vB p0.Place)) hE rfl ty5 rfl (At.cat (pre:=[]) hM.rawAt0 cl0) fun a hE=>Zk hE rfl rfl (Kd p0.Place 0) fun a hE=>Zd hE rfl ?_); intro a hE
  refine ZO (p0.Place != 0) (fun hb6=>?_) (fun hb6=>?_)
  ·have hl4:=Zn hl4 hb6
   refine Zv hE (Zf hE rfl (lkb rfl hb6)) (by decide) rfl (Yj) fun a hE=>ZE (v:=v0_1) hE (Zf hE rfl (lkb rfl hb6)) (by decide) rfl YS rfl (At.cat (pre:=[[vB p0.Place]]) hM.rawAt0 ck) fun a hE=>XN hE (Zf hE rfl (lkb rfl hb6)) (by decide) rfl Tryz.underlying22 (hM.rd hv0_1) fun a hE=>ZJ hE (Zf hE rfl (lkb rfl hb6)) (by decide) rfl rfl rfl fun a hE=>ZB hE (lkb rfl hb6) rfl fun a hE=>Zb hE rfl fun a hE=>Zj ?_
   obtain rfl:=Option.some.inj hl4
   refine Zi ?_
   have hM:=M.fst (l:=[]) hM
   exact ⟨hE.sub ⟨rfl,trivial⟩,hM⟩
  ·have hl4:=Zo hl4 hb6
   refine Zg hE rfl (lkb rfl hb6) rfl (by decide) fun a hE=>Zg hE rfl (lkb rfl hb6) rfl (by decide) fun a hE=>Zg hE rfl (lkb rfl hb6) rfl (by decide) fun a hE=>Zg hE rfl (lkb rfl hb6) rfl (by decide) fun a hE=>Zy hE (lkb rfl hb6) rfl fun a hE=>Zb hE rfl fun a hE=>Zj ?_
   obtain rfl:=Option.some.inj hl4
   refine Zi ?_
   have hM:=M.fst (l:=[]) hM
   exact ⟨hE.sub ⟨rfl,trivial⟩,hM⟩
 ·skip
  rintro a w ⟨hE,hM⟩
  obtain rfl:=Option.some.inj hF5
  exact wp_ret (kr1 hE rfl rfl hM.kept)
def Ww (p0 : GShare) : Option (Bool) :=
 (Uj p0).bind fun r3=>some (!r3)
theorem Jw (w0 : World) (p0 : GShare) (v0_1 : Value) (hv0_1 : Ro w0 p0.Data [v0_1]) (r : Bool) (hF : Ww p0 = some r) :
  Calls Tryz.prog 92 [(Value.agg (cat [[vB p0.Place],[v0_1]]).toArray)].toArray w0 (Rt w0 (vT r)):=by
 refine ce Tryz.func92 ?_
 intro a hE
 have hM:=M.start w0
 unfold Ww at hF
 refine Zc (KW (cs:=cat [[vB p0.Place],[v0_1]]) hE hM Za ld rfl rfl fun b1 w a hM hE=>Zb hE rfl fun a hE=>Ze (Zc (WR hE rfl ZN rfl hM.rawAt0 cq ?_))); intro a hE
 obtain ⟨r3,e4,hF⟩:=bind_some hF
 refine Zq hE rfl (cbm Tryz.func67) (Jr _ p0 v0_1 (hM.rdo hv0_1) r3 e4) ?_
 rintro v w a ⟨rfl,hK⟩ hE
 have hM:=hM.keep hK
 refine Ve hE rfl fun a hE=>Zb hE rfl fun a hE=>Ze ?_
 obtain rfl:=Option.some.inj hF
 exact wp_ret (kr1 hE rfl rfl hM.kept)
def Ub (p0 : (List GShare)) (s8 : (List UInt8) × Int) : Option (Fl ((List UInt8) × Int) (List UInt8)) :=
 if (decide (s8.2 < (p0.length : Int))) = true then ((idx p0 s8.2).bind fun x15=>(app 1 s8.1 ([x15.Place] : List UInt8)).bind fun l27=>some (Fl.nx ((s8.1 ++ ([x15.Place] : List UInt8)),wr (s8.2 + 1)))) else (some (Fl.ex s8.1))
def YP (p0 : (List GShare)) : Option ((List UInt8)) :=
 (ZH (Ub p0) (([] : List UInt8),0)).bind fun j3=>some j3
theorem Vr (w0 : World) (p0 : (List GShare)) (v0_1 : Value) (hv0_1 : Ro w0 p0 [v0_1]) (r : (List UInt8)) (hF : YP p0 = some r) :
  Calls Tryz.prog 82 [v0_1].toArray w0 (fun en w'=>∃ v,en = .returned v ∧ (∃ (y1 : Value),v = y1 ∧ Fr w0 w' [osl NoB (r : List UInt8) y1] ∧ Kept (Old w0) w0 w')):=by
 refine ce Tryz.func82 ?_
 intro a hE
 have hM:=M.start w0
 unfold YP at hF
 refine Zc (Zb hE rfl fun a hE=>Ze (Zc (ZD (xs:=[]) (l:=([] : List UInt8)) (vs:=[]) hE hM Za ld rfl rfl Tryz.underlying22 ty5 rfl (by decide) rfl fun u1 w a hM hE=>Zb hE rfl fun a hE=>Ze (wp_seq (Zc (Zd hE rfl fun a hE=>ZL hE rfl Tryz.underlying24 (hM.rd hv0_1) fun a hE=>Zd hE rfl fun a hE=>Ze ?_))))))
 obtain ⟨j3,hl4,hF5⟩:=bind_some hF
 refine ZP (fun a w=>∃ (u6 : Value),Env 20 a [(3,u6)] ∧ M (Old w0) w0 w [osl NoB (j3 : List UInt8) u6]) ?_ ?_
 ·skip
  refine wp_block ?_
  refine ZK (fun (s8 : (List UInt8) × Int) a w=>∃ (u9 : Value),Env 20 a [(3,u9),(7,v0_1),(8,(vI (p0.length : Int))),(9,vI s8.2)] ∧ M (Old w0) w0 w [osl NoB (s8.1 : List UInt8) u9]) hl4 ⟨u1,hE.sub ⟨rfl,rfl,rfl,rfl,trivial⟩,hM⟩ ?_
  rintro s8 a w ⟨u9,hE,hM⟩ o13 hs11 hx12
  unfold Ub at hs11
  refine Zc (Zk hE rfl rfl rfl fun a hE=>Ze (wp_seq ?_))
  refine Zm hE rfl ?_ ?_
  ·intro hb14
   have hs11:=Zn hs11 hb14
   refine wp_skip (Zu (wp_seq (wp_block (Zc ?_))))
   obtain ⟨x15,hi17,hs11⟩:=bix hs11
   refine ZG hE rfl rfl Tryz.underlying24 ZN (hM.rd hv0_1) hi17.1 ?_; intro a hE
   obtain ⟨cs18,hs19,hA20⟩:=Z3 hv0_1 hi17.2 -- ^
   obtain ⟨u21,rfl,h22⟩:=ZQ hs19 -- ^
   refine WR hE rfl ZN rfl (hM.atk hA20 (Yr hv0_1 hi17.2)) cq fun a hE=>UP hE hM ZN fun b23 w a hM hE=>Xs (seg:=cat [[vB x15.Place],[u21]]) (cs':=cat [[vB x15.Place],[u21]]) hE hM Za rfl rfl rfl ZN cq (Nat.le_of_eq ((Nat.zero_add _).trans (Eq.trans cq (Eq.symm cq)))) (Wu (cc1 (Flat.cell (x15.Place : UInt8)) (cc1 (Rep.cell (hM.rd h22)) cc0))) (ZZ (Eq.trans cq (Eq.symm cq))) fun w a hM hE=>Ze (wp_region_lit (Zd hE rfl fun a hE=>ZI hE rfl (XQ) fun a hE=>ZX (v:=(vB x15.Place)) hE rfl ty5 rfl (At.cat (pre:=[]) hM.rawAt0 cl0) fun a hE=>ZD (xs:=[.tmp 15]) (l:=([x15.Place] : List UInt8)) (vs:=[vB x15.Place]) hE hM Za ld rfl rfl Tryz.underlying22 ty5 rfl (by decide) rfl ?_)); intro u25 w a hM hE
   obtain ⟨l27,e28,hs11⟩:=bind_some hs11
   obtain ⟨e31,rfl⟩:=ZY e28
   have hM:=hM.pull2
   refine Z9 hE hM Za ld rfl rfl (hM.sl (pre:=[_]) noB) Tryz.underlying22 ty5 rfl (by decide) e31 fun u29 w a hM hE=>Zb hE rfl fun a hE=>Zj (Yg (Zu (wp_region_lit (Zk hE rfl rfl rfl fun a hE=>Zd hE rfl fun a hE=>Zj (Zi ?_)))))
   have hM:=M.fst (l:=[_]) hM
   exact ⟨_,(ois hs11),u29,hE.sub ⟨rfl,rfl,rfl,rfl,trivial⟩,hM⟩
  ·intro hb14
   have hs11:=Zo hs11 hb14
   refine wp_exit (Zs (Zs (Ys ?_)))
   obtain rfl:=hx12 _ (ois hs11)
   refine Zi ?_
   exact ⟨u9,hE.sub ⟨rfl,trivial⟩,hM⟩
 ·skip
  rintro a w ⟨u6,hE,hM⟩
  refine Zu (Zc (Zd hE rfl fun a hE=>Zb hE rfl fun a hE=>Ze ?_))
  obtain rfl:=Option.some.inj hF5
  exact wp_ret (Yb hE rfl (Zl hE rfl) ⟨_,rfl,u6,rfl,hM.outF (Z8 Yd),hM.kept⟩)
def WF (p0 : (List UInt8)) (p1 : UInt8) : Option (Int) :=
 some (indexByte p0 p1)
theorem QW (w0 : World) (p0 : (List UInt8)) (v0_1 : Value) (hv0_1 : Ro w0 p0 [v0_1]) (p1 : UInt8) (r : Int) (hF : WF p0 p1 = some r) :
  Calls Tryz.prog 104 [v0_1,vB p1].toArray w0 (Rt w0 (vI r)):=by
 refine ce Tryz.func104 ?_
 intro a hE
 have hM:=M.start w0
 unfold WF at hF
 refine Zc (Zb hE rfl fun a hE=>Ze (Zc (Zd hE rfl fun a hE=>Zd hE rfl fun a hE=>yT hE Za ld rfl Tryz.func130 rfl (by decide) (by kernel_rfl) (by kernel_rfl) (hM.rd hv0_1) fun a hE=>Zb hE rfl fun a hE=>Ze ?_)))
 obtain rfl:=Option.some.inj hF
 exact wp_ret (kr1 hE rfl rfl hM.kept)
def XK (p0 : (List UInt8)) (s5 : Int) : Option (Fl Int (Fl Unit Bool)) :=
 if (decide (s5 < (p0.length : Int))) = true then ((idx p0 s5).bind fun x10=>(slc p0 (0 : Int) s5).bind fun l13=>(WF l13 x10).bind fun r16=>if (decide (r16 ≥ 0)) = true then (some (Fl.ex (Fl.ex false))) else (some (Fl.nx (wr (s5 + 1))))) else (some (Fl.ex (Fl.nx ())))
def Xl (p0 : (List UInt8)) : Option (Bool) :=
 (ZH (XK p0) 0).bind fun j1=>j1.el (fun s4=>some true) (fun r=>some r)
theorem Tl (w0 : World) (p0 : (List UInt8)) (v0_1 : Value) (hv0_1 : Ro w0 p0 [v0_1]) (r : Bool) (hF : Xl p0 = some r) :
  Calls Tryz.prog 61 [v0_1].toArray w0 (Rt w0 (vT r)):=by
 refine ce Tryz.func61 ?_
 intro a hE
 have hM:=M.start w0
 unfold Xl at hF
 refine Zc (Zb hE rfl fun a hE=>Ze (wp_seq (Zc (Zd hE rfl fun a hE=>ZL hE rfl Tryz.underlying22 (hM.rd hv0_1) fun a hE=>Zd hE rfl fun a hE=>Ze ?_))))
 obtain ⟨j1,hl2,hF3⟩:=bind_some hF
 refine ZP (fun a w=>∃ s4 : Unit,j1 = Fl.nx s4 ∧ Env 19 a [] ∧ M (Old w0) w0 w []) ?_ ?_
 ·skip
  refine wp_block ?_
  refine ZK (fun (s5 : Int) a w=>Env 19 a [(0,v0_1),(5,v0_1),(6,(vI (p0.length : Int))),(7,vI s5)] ∧ M (Old w0) w0 w []) hl2 ⟨hE.sub ⟨rfl,rfl,rfl,rfl,trivial⟩,hM⟩ ?_
  rintro s5 a w ⟨hE,hM⟩ o8 hs6 hx7
  unfold XK at hs6
  refine Zc (Zk hE rfl rfl rfl fun a hE=>Ze (wp_seq ?_))
  refine Zm hE rfl ?_ ?_
  ·intro hb9
   have hs6:=Zn hs6 hb9
   refine wp_skip (Zu (wp_seq (wp_block (Zc (Zd hE rfl ?_))))); intro a hE
   obtain ⟨x10,hi12,hs6⟩:=bix hs6
   refine ZG hE rfl rfl Tryz.underlying22 ty5 (hM.rd hv0_1) hi12.1 fun a hE=>ZX (v:=(vB x10)) hE rfl ty5 rfl (ZS (hM.rd hv0_1) hi12.2) fun a hE=>Zb hE rfl fun a hE=>Zb hE rfl fun a hE=>Ze (Zc (Zd hE rfl fun a hE=>Zd hE rfl ?_)); intro a hE
   obtain ⟨l13,e14,hs6⟩:=bind_some hs6
   refine QZ hE Za ld rfl rfl rfl rfl rfl Tryz.underlying22 ty5 (hM.rd hv0_1) e14 ?_; intro a hE
   have h15 : Rep.sat (Old w0) w0 l13 [(Vc v0_1 ((0 : Int)).toNat (s5).toNat 1)] []:=AV hv0_1 e14 -- ^
   refine Zd hE rfl ?_; intro a hE
   obtain ⟨r16,e17,hs6⟩:=bind_some hs6
   refine Zq hE rfl (cbm Tryz.func104) (QW _ l13 (Vc v0_1 ((0 : Int)).toNat (s5).toNat 1) (hM.rdo h15) x10 r16 e17) ?_
   rintro v w a ⟨rfl,hK⟩ hE
   have hM:=hM.keep hK
   refine Zk hE rfl rfl rfl fun a hE=>Ze ?_
   refine Zm hE rfl ?_ ?_
   ·intro hb18
    have hs6:=Zn hs6 hb18
    refine Zc (Zb hE rfl fun a hE=>Ze ?_)
    obtain rfl:=hx7 _ (ois hs6)
    obtain rfl:=Option.some.inj hF3
    exact wp_ret (Z4 (Zr (Zr (Z4 (Zr (Zr (kr1 hE rfl rfl hM.kept)))))))
   ·intro hb18
    have hs6:=Zo hs6 hb18
    refine wp_skip (Yg (Zu (wp_region_lit (Zk hE rfl rfl rfl fun a hE=>Zd hE rfl fun a hE=>Zj (Zi ?_)))))
    exact ⟨_,(ois hs6),hE.sub ⟨rfl,rfl,rfl,rfl,trivial⟩,hM⟩
  ·intro hb9
   have hs6:=Zo hs6 hb9
   refine wp_exit (Zs (Zs (Ys ?_)))
   obtain rfl:=hx7 _ (ois hs6)
   refine Zi ?_
   exact ⟨(),rfl,hE.sub trivial,hM⟩
 ·skip
  rintro a w ⟨s4,ht,hE,hM⟩
  subst ht
  have hF3:=VQ hF3
  refine Zu (Zc (Zb hE rfl fun a hE=>Ze ?_))
  obtain rfl:=Option.some.inj hF3
  exact wp_ret (kr1 hE rfl rfl hM.kept)
def Wm (p0 : (List GShare)) : Option (Int) :=
 some (p0.length : Int)
theorem Q6 (w0 : World) (p0 : (List GShare)) (v0_1 : Value) (hv0_1 : Ro w0 p0 [v0_1]) (r : Int) (hF : Wm p0 = some r) :
  Calls Tryz.prog 93 [v0_1].toArray w0 (Rt w0 (vI r)):=by
 refine ce Tryz.func93 ?_
 intro a hE
 have hM:=M.start w0
 unfold Wm at hF
 refine Zc (Zb hE rfl fun a hE=>Ze (Zc (Zd hE rfl fun a hE=>ZL hE rfl Tryz.underlying24 (hM.rd hv0_1) fun a hE=>Zb hE rfl fun a hE=>Ze ?_)))
 obtain rfl:=Option.some.inj hF
 exact wp_ret (kr1 hE rfl rfl hM.kept)
def W5 (p0 : GShare) (p1 : (List GShare)) : Option (Bool) :=
 ((idx p1 (0 : Int)).bind fun x7=>some ((p0.Data.length : Int) != (x7.Data.length : Int)) : Option (Bool)).bind fun j3=>some j3
theorem Bm (w0 : World) (p0 : GShare) (v0_1 : Value) (hv0_1 : Ro w0 p0.Data [v0_1]) (pb1 : Nat) (p1 : (List GShare)) (v1_2 : Value) (hv1_2 : Ro w0 p1 [v1_2]) (hA1 : At w0 pb1 0 ([v1_2])) (hB1 : Old w0 pb1) (r : Bool) (hF : W5 p0 p1 = some r) :
  Calls Tryz.prog 128 [(Value.agg (cat [[vB p0.Place],[v0_1]]).toArray),(ptr pb1 0)].toArray w0 (Rt w0 (vT r)):=by
 refine ce Tryz.func128 ?_
 intro a hE
 have hM:=M.start w0
 unfold W5 at hF
 refine Zc (KW (cs:=cat [[vB p0.Place],[v0_1]]) hE hM Za ld rfl rfl fun b1 w a hM hE=>Zb hE rfl fun a hE=>Ze ?_)
 obtain ⟨j3,hl4,hF5⟩:=bind_some hF
 refine Zx (fun a w=>Env 13 a [(3,vT j3)] ∧ M (Old w0) w0 w []) ?_ ?_
 ·skip
  obtain ⟨x7,hi9,hl4⟩:=bix hl4
  obtain ⟨cs10,hs11,hA12⟩:=Z3 hv1_2 hi9.2 -- ^
  obtain ⟨u13,rfl,h14⟩:=ZQ hs11 -- ^
  refine YA [4,5,6,7,8,9,10,11,12,3] Wb rfl rfl (by decide) rfl hE hM (qsP (fun z=>Zv z.E Za ld rfl (Yj) (kr0 rfl)) (qsP (fun z=>ZE (v:=v0_1) z.E Za ld rfl YS rfl (At.cat (pre:=[[vB p0.Place]]) (z.M.rawAt0) ck) (kr0 rfl)) (qsP (fun z=>XN z.E Za ld rfl Tryz.underlying22 (z.M.rd hv0_1) (kr0 rfl)) (qsP (fun z=>ZE (v:=v1_2) z.E Za ld rfl jW rfl (z.M.atk hA1 hB1) (kr0 rfl)) (qsP (fun z=>ZA z.E Za ld rfl rfl Tryz.underlying24 ZN (z.M.rd hv1_2) hi9.1 (kr0 rfl)) (qsP (fun z=>Zv z.E Za ld rfl (Yj) (kr0 rfl)) (qsP (fun z=>ZE (v:=u13) z.E Za ld rfl YS rfl (At.cat (pre:=[[vB x7.Place]]) (z.M.atk hA12 (Yr hv1_2 hi9.2)) ck) (kr0 rfl)) (qsP (fun z=>XN z.E Za ld rfl Tryz.underlying22 (z.M.rd h14) (kr0 rfl)) (qsP (fun z=>ZJ z.E Za ld rfl rfl rfl (kr0 rfl)) (qsP (fun z=>YO z.E Za ld rfl (kr0 rfl)) qs0)))))))))) ?_
  ·intro a w u hE hM
   refine Zj ?_
   obtain rfl:=Option.some.inj hl4
   refine Zi ?_
   have hM:=M.fst (l:=[]) hM
   exact ⟨hE.sub ⟨rfl,trivial⟩,hM⟩
 ·skip
  rintro a w ⟨hE,hM⟩
  obtain rfl:=Option.some.inj hF5
  exact wp_ret (kr1 hE rfl rfl hM.kept)
def U7 (p0 : (List GShare)) : Option (Bool) :=
 (ZR p0 (fun z0=>W5 z0 p0)).bind fun r3=>some (!r3)
theorem AP (w0 : World) (p0 : (List GShare)) (v0_1 : Value) (hv0_1 : Ro w0 p0 [v0_1]) (r : Bool) (hF : U7 p0 = some r) :
  Calls Tryz.prog 94 [v0_1].toArray w0 (Rt w0 (vT r)):=by
 refine ce Tryz.func94 ?_
 intro a hE
 have hM:=M.start w0
 unfold U7 at hF
 refine Zc (KW (cs:=[v0_1]) hE hM Za ld rfl (Y2 (hM.rd hv0_1)) fun b1 w a hM hE=>Zb hE rfl fun a hE=>Ze (Zc (ZX (v:=v0_1) hE rfl jW rfl hM.rawAt0 fun a hE=>A3 hE Za ld rfl ?_))); intro a hE
 obtain ⟨r3,e4,hF⟩:=bind_some hF
 refine Zq hE rfl (cbm Tryz.func91) (XM _ p0 v0_1 (hM.rdo hv0_1) (fun z0=>W5 z0 p0) 128 [(ptr b1 0)] (cbm Tryz.func128) (fun w2 hk2 z0 zu0_0 zh0_0 zr zhr=>Bm w2 z0 zu0_0 zh0_0 b1 p0 v0_1 (JE (hM.rdo hv0_1) hk2) (y7 hM.rawAt0 hk2 (by simp [cat])) (B4 hM.rawAt0 hk2 (by simp [cat])) zr zhr) r3 e4) ?_
 rintro v w a ⟨rfl,hK⟩ hE
 have hM:=hM.keep hK
 refine Ve hE rfl fun a hE=>Zb hE rfl fun a hE=>Ze ?_
 obtain rfl:=Option.some.inj hF
 exact wp_ret (kr1 hE rfl rfl hM.kept)
def YC (p0 : Int) (p1 : (List GShare)) (p2 : Int) : Option (Int) :=
 ((WC p0).bind fun r4=>if (!r4) = true then (some true) else ((ZR p1 (fun z0=>Ww z0)).bind fun r8=>if r8 = true then (some true) else ((YP p1).bind fun r12=>(Xl r12).bind fun r15=>some (!r15))) : Option (Bool)).bind fun j1=>if j1 = true then (some 1) else (((Wm p1).bind fun r22=>(YQ r22 1 12).bind fun r24=>if (!r24) = true then (some true) else ((U7 p1).bind fun r28=>if (!r28) = true then (some true) else ((YQ p2 1 8).bind fun r32=>some (!r32))) : Option (Bool)).bind fun j19=>if j19 = true then (some 2) else (some 0))
theorem Wd (w0 : World) (p0 : Int) (p1 : (List GShare)) (v1_1 : Value) (hv1_1 : Ro w0 p1 [v1_1]) (p2 : Int) (r : Int) (hF : YC p0 p1 p2 = some r) :
  Calls Tryz.prog 40 [vI p0,v1_1,vI p2].toArray w0 (Rt w0 (vI r)):=by
 refine ce Tryz.func40 ?_
 intro a hE
 have hM:=M.start w0
 unfold YC at hF
 refine Zc (Zb hE rfl fun a hE=>Ze (wp_seq (wp_block ?_)))
 obtain ⟨j1,hl2,hF3⟩:=bind_some hF
 refine Zx (fun a w=>Env 36 a [(1,v1_1),(2,vI p2),(7,vT j1)] ∧ M (Old w0) w0 w []) ?_ ?_
 ·skip
  refine wp_region_lit (Zd hE rfl ?_); intro a hE
  obtain ⟨r4,e5,hl2⟩:=bind_some hl2
  refine Zq hE rfl cb51 (TX _ p0 r4 e5) ?_
  rintro v w a ⟨rfl,hK⟩ hE
  have hM:=hM.keep hK
  refine Ve hE rfl fun a hE=>Zd hE rfl ?_; intro a hE
  refine ZO (!r4) (fun hb6=>?_) (fun hb6=>?_)
  ·have hl2:=Zn hl2 hb6
   refine Zg hE rfl (lkb rfl hb6) rfl (by decide) fun a hE=>Zg hE rfl (lkb rfl hb6) rfl (by decide) fun a hE=>ZB hE (lkb rfl hb6) rfl fun a hE=>Zd hE rfl fun a hE=>Zg hE rfl rfl rfl (by decide) fun a hE=>Zg hE rfl rfl rfl (by decide) fun a hE=>Zg hE rfl rfl rfl (by decide) fun a hE=>Zg hE rfl rfl rfl (by decide) fun a hE=>ZB hE rfl rfl fun a hE=>Zb hE rfl fun a hE=>Zj ?_
   obtain rfl:=Option.some.inj hl2
   refine Zi ?_
   exact ⟨hE.sub ⟨rfl,rfl,rfl,trivial⟩,hM⟩
  ·have hl2:=Zo hl2 hb6
   refine Zh hE (Zf hE rfl (lkb rfl hb6)) (by decide) rfl ?_; intro a hE
   obtain ⟨r8,e9,hl2⟩:=bind_some hl2
   refine ZW hE (Zf hE rfl (lkb rfl hb6)) (by decide) rfl (cbm Tryz.func91) (XM _ p1 v1_1 (hM.rdo hv1_1) (fun z0=>Ww z0) 92 [] (cbm Tryz.func92) (fun w2 hk2 z0 zu0_0 zh0_0 zr zhr=>Jw w2 z0 zu0_0 zh0_0 zr zhr) r8 e9) ?_
   rintro v w a ⟨rfl,hK⟩ hE
   have hM:=hM.keep hK
   refine Zy hE (lkb rfl hb6) rfl fun a hE=>Zd hE rfl ?_; intro a hE
   refine ZO r8 (fun hb10=>?_) (fun hb10=>?_)
   ·have hl2:=Zn hl2 hb10
    refine Zg hE rfl (lkb rfl hb10) rfl (by decide) fun a hE=>Zg hE rfl (lkb rfl hb10) rfl (by decide) fun a hE=>Zg hE rfl (lkb rfl hb10) rfl (by decide) fun a hE=>Zg hE rfl (lkb rfl hb10) rfl (by decide) fun a hE=>ZB hE (lkb rfl hb10) rfl fun a hE=>Zb hE rfl fun a hE=>Zj ?_
    obtain rfl:=Option.some.inj hl2
    refine Zi ?_
    exact ⟨hE.sub ⟨rfl,rfl,rfl,trivial⟩,hM⟩
   ·have hl2:=Zo hl2 hb10
    refine Zh hE (Zf hE rfl (lkb rfl hb10)) (by decide) rfl ?_; intro a hE
    obtain ⟨r12,e13,hl2⟩:=bind_some hl2
    refine ZW hE (Zf hE rfl (lkb rfl hb10)) (by decide) rfl cb82 (Vr _ p1 v1_1 (hM.rdo hv1_1) r12 e13) ?_
    rintro u14 w a ⟨_,rfl,hFr,hK⟩ hE
    have hM:=hM.add hK hFr
    obtain ⟨r15,e16,hl2⟩:=bind_some hl2
    refine ZW hE (Zf hE rfl (lkb rfl hb10)) (by decide) rfl cb61 (Tl _ r12 u14 (hM.sl (pre:=[]) noB) r15 e16) ?_
    rintro v w a ⟨rfl,hK⟩ hE
    have hM:=hM.keep hK
    refine U5 hE (Zf hE rfl (lkb rfl hb10)) (by decide) rfl fun a hE=>Zy hE (lkb rfl hb10) rfl fun a hE=>Zb hE rfl fun a hE=>Zj ?_
    obtain rfl:=Option.some.inj hl2
    refine Zi ?_
    have hM:=M.fst (l:=[]) hM
    exact ⟨hE.sub ⟨rfl,rfl,rfl,trivial⟩,hM⟩
 ·skip
  rintro a w ⟨hE,hM⟩
  refine Zm hE rfl ?_ ?_
  ·intro hb18
   have hF3:=Zn hF3 hb18
   refine Zc (Zb hE rfl fun a hE=>Ze ?_)
   obtain rfl:=Option.some.inj hF3
   exact wp_ret (Z4 (Zr (kr1 hE rfl rfl hM.kept)))
  ·intro hb18
   have hF3:=Zo hF3 hb18
   obtain ⟨j19,hl20,hF21⟩:=bind_some hF3
   refine Zx (fun a w=>Env 36 a [(21,vT j19)] ∧ M (Old w0) w0 w []) ?_ ?_
   ·skip
    refine wp_region_lit (Zd hE rfl ?_); intro a hE
    obtain ⟨r22,e23,hl20⟩:=bind_some hl20
    refine Zq hE rfl (cbm Tryz.func93) (Q6 _ p1 v1_1 (hM.rdo hv1_1) r22 e23) ?_
    rintro v w a ⟨rfl,hK⟩ hE
    have hM:=hM.keep hK
    obtain ⟨r24,e25,hl20⟩:=bind_some hl20
    refine Zq hE rfl cb52 (Un _ r22 1 12 r24 e25) ?_
    rintro v w a ⟨rfl,hK⟩ hE
    have hM:=hM.keep hK
    refine Ve hE rfl fun a hE=>Zd hE rfl ?_; intro a hE
    refine ZO (!r24) (fun hb26=>?_) (fun hb26=>?_)
    ·have hl20:=Zn hl20 hb26
     refine Zg hE rfl (lkb rfl hb26) rfl (by decide) fun a hE=>Zg hE rfl (lkb rfl hb26) rfl (by decide) fun a hE=>Zg hE rfl (lkb rfl hb26) rfl (by decide) fun a hE=>ZB hE (lkb rfl hb26) rfl fun a hE=>Zd hE rfl fun a hE=>Zg hE rfl rfl rfl (by decide) fun a hE=>Zg hE rfl rfl rfl (by decide) fun a hE=>Zg hE rfl rfl rfl (by decide) fun a hE=>ZB hE rfl rfl fun a hE=>Zb hE rfl fun a hE=>Zj ?_
     obtain rfl:=Option.some.inj hl20
     refine Zi ?_
     exact ⟨hE.sub ⟨rfl,trivial⟩,hM⟩
    ·have hl20:=Zo hl20 hb26
     refine Zh hE (Zf hE rfl (lkb rfl hb26)) (by decide) rfl ?_; intro a hE
     obtain ⟨r28,e29,hl20⟩:=bind_some hl20
     refine ZW hE (Zf hE rfl (lkb rfl hb26)) (by decide) rfl (cbm Tryz.func94) (AP _ p1 v1_1 (hM.rdo hv1_1) r28 e29) ?_
     rintro v w a ⟨rfl,hK⟩ hE
     have hM:=hM.keep hK
     refine U5 hE (Zf hE rfl (lkb rfl hb26)) (by decide) rfl fun a hE=>Zy hE (lkb rfl hb26) rfl fun a hE=>Zd hE rfl ?_; intro a hE
     refine ZO (!r28) (fun hb30=>?_) (fun hb30=>?_)
     ·have hl20:=Zn hl20 hb30
      refine Zg hE rfl (lkb rfl hb30) rfl (by decide) fun a hE=>Zg hE rfl (lkb rfl hb30) rfl (by decide) fun a hE=>Zg hE rfl (lkb rfl hb30) rfl (by decide) fun a hE=>ZB hE (lkb rfl hb30) rfl fun a hE=>Zb hE rfl fun a hE=>Zj ?_
      obtain rfl:=Option.some.inj hl20
      refine Zi ?_
      exact ⟨hE.sub ⟨rfl,trivial⟩,hM⟩
     ·have hl20:=Zo hl20 hb30
      refine Zh hE (Zf hE rfl (lkb rfl hb30)) (by decide) rfl ?_; intro a hE
      obtain ⟨r32,e33,hl20⟩:=bind_some hl20
      refine ZW hE (Zf hE rfl (lkb rfl hb30)) (by decide) rfl cb52 (Un _ p2 1 8 r32 e33) ?_
      rintro v w a ⟨rfl,hK⟩ hE
      have hM:=hM.keep hK
      refine U5 hE (Zf hE rfl (lkb rfl hb30)) (by decide) rfl fun a hE=>Zy hE (lkb rfl hb30) rfl fun a hE=>Zb hE rfl fun a hE=>Zj ?_
      obtain rfl:=Option.some.inj hl20
      refine Zi ?_
      exact ⟨hE.sub ⟨rfl,trivial⟩,hM⟩
   ·skip
    rintro a w ⟨hE,hM⟩
    refine Zm hE rfl ?_ ?_
    ·intro hb35
     have hF21:=Zn hF21 hb35
     refine Zc (Zb hE rfl fun a hE=>Ze ?_)
     obtain rfl:=Option.some.inj hF21
     exact wp_ret (Z4 (Zr (kr1 hE rfl rfl hM.kept)))
    ·intro hb35
     have hF21:=Zo hF21 hb35
     refine wp_skip (Yg (Zu (Zc (Zb hE rfl fun a hE=>Ze ?_))))
     obtain rfl:=Option.some.inj hF21
     exact wp_ret (kr1 hE rfl rfl hM.kept)
def XC (p0 : Int) : Option (Int) :=
 some (B8 (IntKind.i64.wrap (IntKind.u64.wrap ((IntKind.u64.wrap ((IntKind.u64.wrap ((wru (BitVec.ofInt 64 (IntKind.u64.wrap ((YD (IntKind.u64.wrap ((wru (BitVec.ofInt 64 (YD (IntKind.u64.wrap ((wru (BitVec.ofInt 64 (YD p0 1) &&& BitVec.ofInt 64 6148914691236517205).toNat) + (wru (BitVec.ofInt 64 p0 &&& BitVec.ofInt 64 6148914691236517205).toNat))) 2) &&& BitVec.ofInt 64 3689348814741910323).toNat) + (wru (BitVec.ofInt 64 (IntKind.u64.wrap ((wru (BitVec.ofInt 64 (YD p0 1) &&& BitVec.ofInt 64 6148914691236517205).toNat) + (wru (BitVec.ofInt 64 p0 &&& BitVec.ofInt 64 6148914691236517205).toNat))) &&& BitVec.ofInt 64 3689348814741910323).toNat))) 4) + (IntKind.u64.wrap ((wru (BitVec.ofInt 64 (YD (IntKind.u64.wrap ((wru (BitVec.ofInt 64 (YD p0 1) &&& BitVec.ofInt 64 6148914691236517205).toNat) + (wru (BitVec.ofInt 64 p0 &&& BitVec.ofInt 64 6148914691236517205).toNat))) 2) &&& BitVec.ofInt 64 3689348814741910323).toNat) + (wru (BitVec.ofInt 64 (IntKind.u64.wrap ((wru (BitVec.ofInt 64 (YD p0 1) &&& BitVec.ofInt 64 6148914691236517205).toNat) + (wru (BitVec.ofInt 64 p0 &&& BitVec.ofInt 64 6148914691236517205).toNat))) &&& BitVec.ofInt 64 3689348814741910323).toNat))))) &&& BitVec.ofInt 64 1085102592571150095).toNat) + (YD (wru (BitVec.ofInt 64 (IntKind.u64.wrap ((YD (IntKind.u64.wrap ((wru (BitVec.ofInt 64 (YD (IntKind.u64.wrap ((wru (BitVec.ofInt 64 (YD p0 1) &&& BitVec.ofInt 64 6148914691236517205).toNat) + (wru (BitVec.ofInt 64 p0 &&& BitVec.ofInt 64 6148914691236517205).toNat))) 2) &&& BitVec.ofInt 64 3689348814741910323).toNat) + (wru (BitVec.ofInt 64 (IntKind.u64.wrap ((wru (BitVec.ofInt 64 (YD p0 1) &&& BitVec.ofInt 64 6148914691236517205).toNat) + (wru (BitVec.ofInt 64 p0 &&& BitVec.ofInt 64 6148914691236517205).toNat))) &&& BitVec.ofInt 64 3689348814741910323).toNat))) 4) + (IntKind.u64.wrap ((wru (BitVec.ofInt 64 (YD (IntKind.u64.wrap ((wru (BitVec.ofInt 64 (YD p0 1) &&& BitVec.ofInt 64 6148914691236517205).toNat) + (wru (BitVec.ofInt 64 p0 &&& BitVec.ofInt 64 6148914691236517205).toNat))) 2) &&& BitVec.ofInt 64 3689348814741910323).toNat) + (wru (BitVec.ofInt 64 (IntKind.u64.wrap ((wru (BitVec.ofInt 64 (YD p0 1) &&& BitVec.ofInt 64 6148914691236517205).toNat) + (wru (BitVec.ofInt 64 p0 &&& BitVec.ofInt 64 6148914691236517205).toNat))) &&& BitVec.ofInt 64 3689348814741910323).toNat))))) &&& BitVec.ofInt 64 1085102592571150095).toNat) 8))) + (YD (IntKind.u64.wrap ((wru (BitVec.ofInt 64 (IntKind.u64.wrap ((YD (IntKind.u64.wrap ((wru (BitVec.ofInt 64 (YD (IntKind.u64.wrap ((wru (BitVec.ofInt 64 (YD p0 1) &&& BitVec.ofInt 64 6148914691236517205).toNat) + (wru (BitVec.ofInt 64 p0 &&& BitVec.ofInt 64 6148914691236517205).toNat))) 2) &&& BitVec.ofInt 64 3689348814741910323).toNat) + (wru (BitVec.ofInt 64 (IntKind.u64.wrap ((wru (BitVec.ofInt 64 (YD p0 1) &&& BitVec.ofInt 64 6148914691236517205).toNat) + (wru (BitVec.ofInt 64 p0 &&& BitVec.ofInt 64 6148914691236517205).toNat))) &&& BitVec.ofInt 64 3689348814741910323).toNat))) 4) + (IntKind.u64.wrap ((wru (BitVec.ofInt 64 (YD (IntKind.u64.wrap ((wru (BitVec.ofInt 64 (YD p0 1) &&& BitVec.ofInt 64 6148914691236517205).toNat) + (wru (BitVec.ofInt 64 p0 &&& BitVec.ofInt 64 6148914691236517205).toNat))) 2) &&& BitVec.ofInt 64 3689348814741910323).toNat) + (wru (BitVec.ofInt 64 (IntKind.u64.wrap ((wru (BitVec.ofInt 64 (YD p0 1) &&& BitVec.ofInt 64 6148914691236517205).toNat) + (wru (BitVec.ofInt 64 p0 &&& BitVec.ofInt 64 6148914691236517205).toNat))) &&& BitVec.ofInt 64 3689348814741910323).toNat))))) &&& BitVec.ofInt 64 1085102592571150095).toNat) + (YD (wru (BitVec.ofInt 64 (IntKind.u64.wrap ((YD (IntKind.u64.wrap ((wru (BitVec.ofInt 64 (YD (IntKind.u64.wrap ((wru (BitVec.ofInt 64 (YD p0 1) &&& BitVec.ofInt 64 6148914691236517205).toNat) + (wru (BitVec.ofInt 64 p0 &&& BitVec.ofInt 64 6148914691236517205).toNat))) 2) &&& BitVec.ofInt 64 3689348814741910323).toNat) + (wru (BitVec.ofInt 64 (IntKind.u64.wrap ((wru (BitVec.ofInt 64 (YD p0 1) &&& BitVec.ofInt 64 6148914691236517205).toNat) + (wru (BitVec.ofInt 64 p0 &&& BitVec.ofInt 64 6148914691236517205).toNat))) &&& BitVec.ofInt 64 3689348814741910323).toNat))) 4) + (IntKind.u64.wrap ((wru (BitVec.ofInt 64 (YD (IntKind.u64.wrap ((wru (BitVec.ofInt 64 (YD p0 1) &&& BitVec.ofInt 64 6148914691236517205).toNat) + (wru (BitVec.ofInt 64 p0 &&& BitVec.ofInt 64 6148914691236517205).toNat))) 2) &&& BitVec.ofInt 64 3689348814741910323).toNat) + (wru (BitVec.ofInt 64 (IntKind.u64.wrap ((wru (BitVec.ofInt 64 (YD p0 1) &&& BitVec.ofInt 64 6148914691236517205).toNat) + (wru (BitVec.ofInt 64 p0 &&& BitVec.ofInt 64 6148914691236517205).toNat))) &&& BitVec.ofInt 64 3689348814741910323).toNat))))) &&& BitVec.ofInt 64 1085102592571150095).toNat) 8))) 16))) + (YD (IntKind.u64.wrap ((IntKind.u64.wrap ((wru (BitVec.ofInt 64 (IntKind.u64.wrap ((YD (IntKind.u64.wrap ((wru (BitVec.ofInt 64 (YD (IntKind.u64.wrap ((wru (BitVec.ofInt 64 (YD p0 1) &&& BitVec.ofInt 64 6148914691236517205).toNat) + (wru (BitVec.ofInt 64 p0 &&& BitVec.ofInt 64 6148914691236517205).toNat))) 2) &&& BitVec.ofInt 64 3689348814741910323).toNat) + (wru (BitVec.ofInt 64 (IntKind.u64.wrap ((wru (BitVec.ofInt 64 (YD p0 1) &&& BitVec.ofInt 64 6148914691236517205).toNat) + (wru (BitVec.ofInt 64 p0 &&& BitVec.ofInt 64 6148914691236517205).toNat))) &&& BitVec.ofInt 64 3689348814741910323).toNat))) 4) + (IntKind.u64.wrap ((wru (BitVec.ofInt 64 (YD (IntKind.u64.wrap ((wru (BitVec.ofInt 64 (YD p0 1) &&& BitVec.ofInt 64 6148914691236517205).toNat) + (wru (BitVec.ofInt 64 p0 &&& BitVec.ofInt 64 6148914691236517205).toNat))) 2) &&& BitVec.ofInt 64 3689348814741910323).toNat) + (wru (BitVec.ofInt 64 (IntKind.u64.wrap ((wru (BitVec.ofInt 64 (YD p0 1) &&& BitVec.ofInt 64 6148914691236517205).toNat) + (wru (BitVec.ofInt 64 p0 &&& BitVec.ofInt 64 6148914691236517205).toNat))) &&& BitVec.ofInt 64 3689348814741910323).toNat))))) &&& BitVec.ofInt 64 1085102592571150095).toNat) + (YD (wru (BitVec.ofInt 64 (IntKind.u64.wrap ((YD (IntKind.u64.wrap ((wru (BitVec.ofInt 64 (YD (IntKind.u64.wrap ((wru (BitVec.ofInt 64 (YD p0 1) &&& BitVec.ofInt 64 6148914691236517205).toNat) + (wru (BitVec.ofInt 64 p0 &&& BitVec.ofInt 64 6148914691236517205).toNat))) 2) &&& BitVec.ofInt 64 3689348814741910323).toNat) + (wru (BitVec.ofInt 64 (IntKind.u64.wrap ((wru (BitVec.ofInt 64 (YD p0 1) &&& BitVec.ofInt 64 6148914691236517205).toNat) + (wru (BitVec.ofInt 64 p0 &&& BitVec.ofInt 64 6148914691236517205).toNat))) &&& BitVec.ofInt 64 3689348814741910323).toNat))) 4) + (IntKind.u64.wrap ((wru (BitVec.ofInt 64 (YD (IntKind.u64.wrap ((wru (BitVec.ofInt 64 (YD p0 1) &&& BitVec.ofInt 64 6148914691236517205).toNat) + (wru (BitVec.ofInt 64 p0 &&& BitVec.ofInt 64 6148914691236517205).toNat))) 2) &&& BitVec.ofInt 64 3689348814741910323).toNat) + (wru (BitVec.ofInt 64 (IntKind.u64.wrap ((wru (BitVec.ofInt 64 (YD p0 1) &&& BitVec.ofInt 64 6148914691236517205).toNat) + (wru (BitVec.ofInt 64 p0 &&& BitVec.ofInt 64 6148914691236517205).toNat))) &&& BitVec.ofInt 64 3689348814741910323).toNat))))) &&& BitVec.ofInt 64 1085102592571150095).toNat) 8))) + (YD (IntKind.u64.wrap ((wru (BitVec.ofInt 64 (IntKind.u64.wrap ((YD (IntKind.u64.wrap ((wru (BitVec.ofInt 64 (YD (IntKind.u64.wrap ((wru (BitVec.ofInt 64 (YD p0 1) &&& BitVec.ofInt 64 6148914691236517205).toNat) + (wru (BitVec.ofInt 64 p0 &&& BitVec.ofInt 64 6148914691236517205).toNat))) 2) &&& BitVec.ofInt 64 3689348814741910323).toNat) + (wru (BitVec.ofInt 64 (IntKind.u64.wrap ((wru (BitVec.ofInt 64 (YD p0 1) &&& BitVec.ofInt 64 6148914691236517205).toNat) + (wru (BitVec.ofInt 64 p0 &&& BitVec.ofInt 64 6148914691236517205).toNat))) &&& BitVec.ofInt 64 3689348814741910323).toNat))) 4) + (IntKind.u64.wrap ((wru (BitVec.ofInt 64 (YD (IntKind.u64.wrap ((wru (BitVec.ofInt 64 (YD p0 1) &&& BitVec.ofInt 64 6148914691236517205).toNat) + (wru (BitVec.ofInt 64 p0 &&& BitVec.ofInt 64 6148914691236517205).toNat))) 2) &&& BitVec.ofInt 64 3689348814741910323).toNat) + (wru (BitVec.ofInt 64 (IntKind.u64.wrap ((wru (BitVec.ofInt 64 (YD p0 1) &&& BitVec.ofInt 64 6148914691236517205).toNat) + (wru (BitVec.ofInt 64 p0 &&& BitVec.ofInt 64 6148914691236517205).toNat))) &&& BitVec.ofInt 64 3689348814741910323).toNat))))) &&& BitVec.ofInt 64 1085102592571150095).toNat) + (YD (wru (BitVec.ofInt 64 (IntKind.u64.wrap ((YD (IntKind.u64.wrap ((wru (BitVec.ofInt 64 (YD (IntKind.u64.wrap ((wru (BitVec.ofInt 64 (YD p0 1) &&& BitVec.ofInt 64 6148914691236517205).toNat) + (wru (BitVec.ofInt 64 p0 &&& BitVec.ofInt 64 6148914691236517205).toNat))) 2) &&& BitVec.ofInt 64 3689348814741910323).toNat) + (wru (BitVec.ofInt 64 (IntKind.u64.wrap ((wru (BitVec.ofInt 64 (YD p0 1) &&& BitVec.ofInt 64 6148914691236517205).toNat) + (wru (BitVec.ofInt 64 p0 &&& BitVec.ofInt 64 6148914691236517205).toNat))) &&& BitVec.ofInt 64 3689348814741910323).toNat))) 4) + (IntKind.u64.wrap ((wru (BitVec.ofInt 64 (YD (IntKind.u64.wrap ((wru (BitVec.ofInt 64 (YD p0 1) &&& BitVec.ofInt 64 6148914691236517205).toNat) + (wru (BitVec.ofInt 64 p0 &&& BitVec.ofInt 64 6148914691236517205).toNat))) 2) &&& BitVec.ofInt 64 3689348814741910323).toNat) + (wru (BitVec.ofInt 64 (IntKind.u64.wrap ((wru (BitVec.ofInt 64 (YD p0 1) &&& BitVec.ofInt 64 6148914691236517205).toNat) + (wru (BitVec.ofInt 64 p0 &&& BitVec.ofInt 64 6148914691236517205).toNat))) &&& BitVec.ofInt 64 3689348814741910323).toNat))))) &&& BitVec.ofInt 64 1085102592571150095).toNat) 8))) 16))) 32)))) 127)
theorem Kl (w0 : World) (p0 : Int) (r : Int) (hF : XC p0 = some r) :
  Calls Tryz.prog 96 [(Value.int .u64 p0)].toArray w0 (Rt w0 (vI r)):=by
 refine ce Tryz.func96 ?_
 intro a hE
 have hM:=M.start w0
 unfold XC at hF
 refine Zc (Zb hE rfl fun a hE=>Ze (Zc (Zd hE rfl fun a hE=>Ke hE Za ld rfl rfl (JD _ _ (by decide)) fun a hE=>Zk hE rfl rfl rfl fun a hE=>Zd hE rfl fun a hE=>Zk hE rfl rfl rfl fun a hE=>Zk hE rfl rfl rfl fun a hE=>Zb hE rfl fun a hE=>Ze (Zc (Zd hE rfl fun a hE=>Ke hE Za ld rfl rfl (JD _ _ (by decide)) fun a hE=>Zk hE rfl rfl rfl fun a hE=>Zd hE rfl ?_))))); intro a hE
 refine Zk hE rfl rfl rfl fun a hE=>Zk hE rfl rfl rfl fun a hE=>Zb hE rfl fun a hE=>Ze (Zc (Zd hE rfl fun a hE=>Ke hE Za ld rfl rfl (JD _ _ (by decide)) fun a hE=>Zd hE rfl fun a hE=>Zk hE rfl rfl rfl fun a hE=>Zk hE rfl rfl rfl fun a hE=>Zb hE rfl fun a hE=>Ze (Zc (Zd hE rfl fun a hE=>Zd hE rfl fun a hE=>Ke hE Za ld rfl rfl (JD _ _ (by decide)) ?_)))); intro a hE
 refine Zk hE rfl rfl rfl fun a hE=>Zb hE rfl fun a hE=>Ze (Zc (Zd hE rfl fun a hE=>Zd hE rfl fun a hE=>Ke hE Za ld rfl rfl (JD _ _ (by decide)) fun a hE=>Zk hE rfl rfl rfl fun a hE=>Zb hE rfl fun a hE=>Ze (Zc (Zd hE rfl fun a hE=>Zd hE rfl fun a hE=>Ke hE Za ld rfl rfl (JD _ _ (by decide)) fun a hE=>Zk hE rfl rfl rfl fun a hE=>Zb hE rfl ?_)))); intro a hE
 refine Ze (Zc (Zd hE rfl fun a hE=>Qm hE Za ld rfl Tryz.underlying44 Tryz.underlying3 fun a hE=>Zk hE rfl rfl rfl fun a hE=>Zb hE rfl fun a hE=>Ze ?_))
 obtain rfl:=Option.some.inj hF
 exact wp_ret (kr1 hE rfl rfl hM.kept)
def X6 (p0 : Int) : Option (Int) :=
 (XC p0).bind fun r1=>some r1
theorem K8 (w0 : World) (p0 : Int) (r : Int) (hF : X6 p0 = some r) :
  Calls Tryz.prog 41 [(Value.int .u64 p0)].toArray w0 (Rt w0 (vI r)):=by
 refine ce Tryz.func41 ?_
 intro a hE
 have hM:=M.start w0
 unfold X6 at hF
 refine Zc (Zb hE rfl fun a hE=>Ze (wp_seq ?_))
 refine Zcj hE rfl ?_
 refine wp_skip (Zu (Zc (Zd hE rfl ?_))); intro a hE
 obtain ⟨r1,e2,hF⟩:=bind_some hF
 refine Zq hE rfl (cbm Tryz.func96) (Kl _ p0 r1 e2) ?_
 rintro v w a ⟨rfl,hK⟩ hE
 have hM:=hM.keep hK
 refine Zb hE rfl fun a hE=>Ze ?_
 obtain rfl:=Option.some.inj hF
 exact wp_ret (kr1 hE rfl rfl hM.kept)
def Ud (p0 : Int) (p1 : Int) (s8 : (List Int) × Int) : Option (Fl ((List Int) × Int) (List Int)) :=
 if (decide (s8.2 < p1)) = true then (((YI s8.2).bind fun _=>(if ((B8 (YD p0 s8.2) 1) == 1) = true then ((app 8 s8.1 ([s8.2] : List Int)).bind fun l29=>some (s8.1 ++ ([s8.2] : List Int))) else (some s8.1) : Option ((List Int))).bind fun j21=>some j21 : Option ((List Int))).bind fun j15=>some (Fl.nx (j15,wr (s8.2 + 1)))) else (some (Fl.ex s8.1))
def Tx (p0 : Int) (p1 : Int) : Option ((List Int)) :=
 (ZH (Ud p0 p1) (([] : List Int),0)).bind fun j3=>some j3
theorem zO (w0 : World) (p0 : Int) (p1 : Int) (r : (List Int)) (hF : Tx p0 p1 = some r) :
  Calls Tryz.prog 42 [vI p0,vI p1].toArray w0 (fun en w'=>∃ v,en = .returned v ∧ (∃ (y1 : Value),v = y1 ∧ Fr w0 w' [osl NoB (r : List Int) y1] ∧ Kept (Old w0) w0 w')):=by
 refine ce Tryz.func42 ?_
 intro a hE
 have hM:=M.start w0
 unfold Tx at hF
 refine Zc (Zb hE rfl fun a hE=>Ze (Zc (ZD (xs:=[]) (l:=([] : List Int)) (vs:=[]) hE hM Za ld rfl rfl Tryz.underlying73 ty3 rfl (by decide) rfl fun u1 w a hM hE=>Zb hE rfl fun a hE=>Ze (wp_seq (Zc (Zd hE rfl fun a hE=>Zd hE rfl fun a hE=>Ze ?_))))))
 obtain ⟨j3,hl4,hF5⟩:=bind_some hF
 refine ZP (fun a w=>∃ (u6 : Value),Env 23 a [(5,u6)] ∧ M (Old w0) w0 w [osl NoB (j3 : List Int) u6]) ?_ ?_
 ·skip
  refine wp_block ?_
  refine ZK (fun (s8 : (List Int) × Int) a w=>∃ (u9 : Value),Env 23 a [(0,vI p0),(5,u9),(8,vI p1),(9,vI s8.2)] ∧ M (Old w0) w0 w [osl NoB (s8.1 : List Int) u9]) hl4 ⟨u1,hE.sub ⟨rfl,rfl,rfl,rfl,trivial⟩,hM⟩ ?_
  rintro s8 a w ⟨u9,hE,hM⟩ o13 hs11 hx12
  unfold Ud at hs11
  refine Zc (Zk hE rfl rfl rfl fun a hE=>Ze (wp_seq ?_))
  refine Zm hE rfl ?_ ?_
  ·intro hb14
   have hs11:=Zn hs11 hb14
   refine wp_skip (Zu ?_)
   obtain ⟨j15,hl16,hF17⟩:=bind_some hs11
   refine Zx (fun a w=>∃ (u18 : Value),Env 23 a [(0,vI p0),(5,u18),(8,vI p1),(9,vI s8.2)] ∧ M (Old w0) w0 w [osl NoB (j15 : List Int) u18]) ?_ ?_
   ·skip
    refine wp_block (Zc (Zd hE rfl fun a hE=>Zb hE rfl fun a hE=>Ze (Zc (Zd hE rfl fun a hE=>Zd hE rfl ?_)))); intro a hE
    obtain ⟨_,e20,hl16⟩:=bind_some hl16
    have e20:=WA e20
    refine Ke hE Za ld rfl rfl (km _ _ e20) fun a hE=>Zk hE rfl rfl rfl fun a hE=>Zk hE rfl rfl rfl fun a hE=>Ze ?_
    obtain ⟨j21,hl22,hF23⟩:=bind_some hl16
    refine ZP (fun a w=>∃ (u24 : Value),Env 23 a [(0,vI p0),(5,u24),(8,vI p1),(9,vI s8.2)] ∧ M (Old w0) w0 w [osl NoB (j21 : List Int) u24]) ?_ ?_
    ·skip
     refine Zm hE rfl ?_ ?_
     ·intro hb26
      have hl22:=Zn hl22 hb26
      refine wp_region_lit (Zd hE rfl fun a hE=>Zd hE rfl fun a hE=>ZD (xs:=[.tmp 18]) (l:=([s8.2] : List Int)) (vs:=[vI s8.2]) hE hM Za ld rfl rfl Tryz.underlying73 ty3 rfl (by decide) rfl ?_); intro u27 w a hM hE
      obtain ⟨l29,e30,hl22⟩:=bind_some hl22
      obtain ⟨e33,rfl⟩:=ZY e30
      have hM:=hM.pull1
      refine Z9 hE hM Za ld rfl rfl (hM.sl (pre:=[_]) noB) Tryz.underlying73 ty3 rfl (by decide) e33 fun u31 w a hM hE=>Zb hE rfl fun a hE=>Zj ?_
      obtain rfl:=Option.some.inj hl22
      refine Zi ?_
      have hM:=M.fst (l:=[_]) hM
      exact ⟨u31,hE.sub ⟨rfl,rfl,rfl,rfl,trivial⟩,hM⟩
     ·intro hb26
      have hl22:=Zo hl22 hb26
      refine wp_skip ?_
      obtain rfl:=Option.some.inj hl22
      refine Zi ?_
      exact ⟨u9,hE.sub ⟨rfl,rfl,rfl,rfl,trivial⟩,hM⟩
    ·skip
     rintro a w ⟨u24,hE,hM⟩
     refine Yg ?_
     obtain rfl:=Option.some.inj hF23
     refine Zi ?_
     exact ⟨u24,hE.sub ⟨rfl,rfl,rfl,rfl,trivial⟩,hM⟩
   ·skip
    rintro a w ⟨u18,hE,hM⟩
    refine wp_region_lit (Zk hE rfl rfl rfl fun a hE=>Zd hE rfl fun a hE=>Zj (Zi ?_))
    exact ⟨_,(ois hF17),u18,hE.sub ⟨rfl,rfl,rfl,rfl,trivial⟩,hM⟩
  ·intro hb14
   have hs11:=Zo hs11 hb14
   refine wp_exit (Zs (Zs (Ys ?_)))
   obtain rfl:=hx12 _ (ois hs11)
   refine Zi ?_
   exact ⟨u9,hE.sub ⟨rfl,trivial⟩,hM⟩
 ·skip
  rintro a w ⟨u6,hE,hM⟩
  refine Zu (Zc (Zd hE rfl fun a hE=>Zb hE rfl fun a hE=>Ze ?_))
  obtain rfl:=Option.some.inj hF5
  exact wp_ret (Yb hE rfl (Zl hE rfl) ⟨_,rfl,u6,rfl,hM.outF (Z8 Yd),hM.kept⟩)
def UC (p0 : Int) : Option (Bool) :=
 some (p0 != p0)
theorem KQ (w0 : World) (p0 : Int) (r : Bool) (hF : UC p0 = some r) :
  Calls Tryz.prog 129 [vI p0].toArray w0 (Rt w0 (vT r)):=by
 refine ce Tryz.func129 ?_
 intro a hE
 have hM:=M.start w0
 unfold UC at hF
 refine Zc (Zb hE rfl fun a hE=>Ze (Zc (Zd hE rfl fun a hE=>Zd hE rfl fun a hE=>Zk hE rfl rfl rfl fun a hE=>Zb hE rfl fun a hE=>Ze ?_)))
 obtain rfl:=Option.some.inj hF
 exact wp_ret (kr1 hE rfl rfl hM.kept)
def VE (p0 : Int) (p1 : Int) : Option (Int) :=
 (UC p0).bind fun r1=>(UC p1).bind fun r3=>if r1 = true then (if r3 = true then (some 0) else (some (-1))) else (if r3 = true then (some 1) else (if (decide (p0 < p1)) = true then (some (-1)) else (if (decide (p0 > p1)) = true then (some 1) else (some 0))))
theorem HR (w0 : World) (p0 : Int) (p1 : Int) (r : Int) (hF : VE p0 p1 = some r) :
  Calls Tryz.prog 97 [vI p0,vI p1].toArray w0 (Rt w0 (vI r)):=by
 refine ce Tryz.func97 ?_
 intro a hE
 have hM:=M.start w0
 unfold VE at hF
 refine Zc (Zb hE rfl fun a hE=>Ze (Zc (Zd hE rfl ?_))); intro a hE
 obtain ⟨r1,e2,hF⟩:=bind_some hF
 refine Zq hE rfl (cbm Tryz.func129) (KQ _ p0 r1 e2) ?_
 rintro v w a ⟨rfl,hK⟩ hE
 have hM:=hM.keep hK
 refine Zb hE rfl fun a hE=>Ze (Zc (Zd hE rfl ?_)); intro a hE
 obtain ⟨r3,e4,hF⟩:=bind_some hF
 refine Zq hE rfl (cbm Tryz.func129) (KQ _ p1 r3 e4) ?_
 rintro v w a ⟨rfl,hK⟩ hE
 have hM:=hM.keep hK
 refine Zb hE rfl fun a hE=>Ze (wp_seq (Zc (Zd hE rfl fun a hE=>Ze ?_)))
 refine Zm hE rfl ?_ ?_
 ·intro hb5
  have hF:=Zn hF hb5
  refine wp_seq (Zc (Zd hE rfl fun a hE=>Ze ?_))
  refine Zm hE rfl ?_ ?_
  ·intro hb6
   have hF:=Zn hF hb6
   refine Zc (Zb hE rfl fun a hE=>Ze ?_)
   obtain rfl:=Option.some.inj hF
   exact wp_ret (Zr (Zr (kr1 hE rfl rfl hM.kept)))
  ·intro hb6
   have hF:=Zo hF hb6
   refine wp_skip (Zu (Zc (Zb hE rfl fun a hE=>Ze ?_)))
   obtain rfl:=Option.some.inj hF
   exact wp_ret (Zr (kr1 hE rfl rfl hM.kept))
 ·intro hb5
  have hF:=Zo hF hb5
  refine wp_skip (Zu (wp_seq (Zc (Zd hE rfl fun a hE=>Ze ?_))))
  refine Zm hE rfl ?_ ?_
  ·intro hb7
   have hF:=Zn hF hb7
   refine Zc (Zb hE rfl fun a hE=>Ze ?_)
   obtain rfl:=Option.some.inj hF
   exact wp_ret (Zr (kr1 hE rfl rfl hM.kept))
  ·intro hb7
   have hF:=Zo hF hb7
   refine wp_skip (Zu (wp_seq (Zc (Zd hE rfl fun a hE=>Zd hE rfl fun a hE=>Zk hE rfl rfl rfl fun a hE=>Ze ?_))))
   refine Zm hE rfl ?_ ?_
   ·intro hb8
    have hF:=Zn hF hb8
    refine Zc (Zb hE rfl fun a hE=>Ze ?_)
    obtain rfl:=Option.some.inj hF
    exact wp_ret (Zr (kr1 hE rfl rfl hM.kept))
   ·intro hb8
    have hF:=Zo hF hb8
    refine wp_skip (Zu (wp_seq (Zc (Zd hE rfl fun a hE=>Zd hE rfl fun a hE=>Zk hE rfl rfl rfl fun a hE=>Ze ?_))))
    refine Zm hE rfl ?_ ?_
    ·intro hb9
     have hF:=Zn hF hb9
     refine Zc (Zb hE rfl fun a hE=>Ze ?_)
     obtain rfl:=Option.some.inj hF
     exact wp_ret (Zr (kr1 hE rfl rfl hM.kept))
    ·intro hb9
     have hF:=Zo hF hb9
     refine wp_skip (Zu (Zc (Zb hE rfl fun a hE=>Ze ?_)))
     obtain rfl:=Option.some.inj hF
     exact wp_ret (kr1 hE rfl rfl hM.kept)
def Yc (p0 : (List Int)) (p1 : (List Int)) (s5 : Int) : Option (Fl Int (Fl Unit Int)) :=
 if (decide (s5 < (p0.length : Int))) = true then ((idx p0 s5).bind fun x10=>if (decide (s5 ≥ (p1.length : Int))) = true then (some (Fl.ex (Fl.ex 1))) else ((idx p1 s5).bind fun x15=>(VE x10 x15).bind fun r18=>if (r18 != 0) = true then (some (Fl.ex (Fl.ex r18))) else (some (Fl.nx (wr (s5 + 1)))))) else (some (Fl.ex (Fl.nx ())))
def Xv (p0 : (List Int)) (p1 : (List Int)) : Option (Int) :=
 (ZH (Yc p0 p1) 0).bind fun j1=>j1.el (fun s4=>if (decide ((p0.length : Int) < (p1.length : Int))) = true then (some (-1)) else (some 0)) (fun r=>some r)
theorem Q8 (w0 : World) (p0 : (List Int)) (v0_1 : Value) (hv0_1 : Ro w0 p0 [v0_1]) (p1 : (List Int)) (v1_1 : Value) (hv1_1 : Ro w0 p1 [v1_1]) (r : Int) (hF : Xv p0 p1 = some r) :
  Calls Tryz.prog 43 [v0_1,v1_1].toArray w0 (Rt w0 (vI r)):=by
 refine ce Tryz.func43 ?_
 intro a hE
 have hM:=M.start w0
 unfold Xv at hF
 refine Zc (Zb hE rfl fun a hE=>Ze (wp_seq (Zc (Zd hE rfl fun a hE=>ZL hE rfl Tryz.underlying73 (hM.rd hv0_1) fun a hE=>Zd hE rfl fun a hE=>Ze ?_))))
 obtain ⟨j1,hl2,hF3⟩:=bind_some hF
 refine ZP (fun a w=>∃ s4 : Unit,j1 = Fl.nx s4 ∧ Env 36 a [(0,v0_1),(1,v1_1)] ∧ M (Old w0) w0 w []) ?_ ?_
 ·skip
  refine wp_block ?_
  refine ZK (fun (s5 : Int) a w=>Env 36 a [(0,v0_1),(1,v1_1),(9,v0_1),(10,(vI (p0.length : Int))),(11,vI s5)] ∧ M (Old w0) w0 w []) hl2 ⟨hE.sub ⟨rfl,rfl,rfl,rfl,rfl,trivial⟩,hM⟩ ?_
  rintro s5 a w ⟨hE,hM⟩ o8 hs6 hx7
  unfold Yc at hs6
  refine Zc (Zk hE rfl rfl rfl fun a hE=>Ze (wp_seq ?_))
  refine Zm hE rfl ?_ ?_
  ·intro hb9
   have hs6:=Zn hs6 hb9
   refine wp_skip (Zu (wp_seq (wp_block (Zc (Zd hE rfl ?_))))); intro a hE
   obtain ⟨x10,hi12,hs6⟩:=bix hs6
   refine ZG hE rfl rfl Tryz.underlying73 ty3 (hM.rd hv0_1) hi12.1 fun a hE=>ZX (v:=(vI x10)) hE rfl ty3 rfl (ZS (hM.rd hv0_1) hi12.2) fun a hE=>Zb hE rfl fun a hE=>Zb hE rfl fun a hE=>Ze (wp_seq (Zc (Zd hE rfl fun a hE=>Zd hE rfl fun a hE=>ZL hE rfl Tryz.underlying73 (hM.rd hv1_1) fun a hE=>Zk hE rfl rfl rfl fun a hE=>Ze ?_)))
   refine Zm hE rfl ?_ ?_
   ·intro hb13
    have hs6:=Zn hs6 hb13
    refine Zc (Zb hE rfl fun a hE=>Ze ?_)
    obtain rfl:=hx7 _ (ois hs6)
    obtain rfl:=Option.some.inj hF3
    exact wp_ret (Zr (Z4 (Zr (Zr (Z4 (Zr (Zr (kr1 hE rfl rfl hM.kept))))))))
   ·intro hb13
    have hs6:=Zo hs6 hb13
    refine wp_skip (Zu (Zc (Zd hE rfl fun a hE=>Zd hE rfl ?_))); intro a hE
    obtain ⟨x15,hi17,hs6⟩:=bix hs6
    refine ZG hE rfl rfl Tryz.underlying73 ty3 (hM.rd hv1_1) hi17.1 fun a hE=>ZX (v:=(vI x15)) hE rfl ty3 rfl (ZS (hM.rd hv1_1) hi17.2) fun a hE=>Zb hE rfl fun a hE=>Ze (Zc (Zd hE rfl fun a hE=>Zd hE rfl ?_)); intro a hE
    obtain ⟨r18,e19,hs6⟩:=bind_some hs6
    refine Zq hE rfl (cbm Tryz.func97) (HR _ x10 x15 r18 e19) ?_
    rintro v w a ⟨rfl,hK⟩ hE
    have hM:=hM.keep hK
    refine Zb hE rfl fun a hE=>Ze (Zc (Zd hE rfl fun a hE=>Zk hE rfl rfl rfl fun a hE=>Ze ?_))
    refine Zm hE rfl ?_ ?_
    ·intro hb20
     have hs6:=Zn hs6 hb20
     refine Zc (Zd hE rfl fun a hE=>Zb hE rfl fun a hE=>Ze ?_)
     obtain rfl:=hx7 _ (ois hs6)
     obtain rfl:=Option.some.inj hF3
     exact wp_ret (Z4 (Zr (Zr (Z4 (Zr (Zr (kr1 hE rfl rfl hM.kept)))))))
    ·intro hb20
     have hs6:=Zo hs6 hb20
     refine wp_skip (Yg (Zu (wp_region_lit (Zk hE rfl rfl rfl fun a hE=>Zd hE rfl fun a hE=>Zj (Zi ?_)))))
     exact ⟨_,(ois hs6),hE.sub ⟨rfl,rfl,rfl,rfl,rfl,trivial⟩,hM⟩
  ·intro hb9
   have hs6:=Zo hs6 hb9
   refine wp_exit (Zs (Zs (Ys ?_)))
   obtain rfl:=hx7 _ (ois hs6)
   refine Zi ?_
   exact ⟨(),rfl,hE.sub ⟨rfl,rfl,trivial⟩,hM⟩
 ·skip
  rintro a w ⟨s4,ht,hE,hM⟩
  subst ht
  have hF3:=VQ hF3
  refine Zu (wp_seq (Zc (Zd hE rfl fun a hE=>ZL hE rfl Tryz.underlying73 (hM.rd hv0_1) fun a hE=>Zd hE rfl fun a hE=>ZL hE rfl Tryz.underlying73 (hM.rd hv1_1) fun a hE=>Zk hE rfl rfl rfl fun a hE=>Ze ?_)))
  refine Zm hE rfl ?_ ?_
  ·intro hb23
   have hF3:=Zn hF3 hb23
   refine Zc (Zb hE rfl fun a hE=>Ze ?_)
   obtain rfl:=Option.some.inj hF3
   exact wp_ret (Zr (kr1 hE rfl rfl hM.kept))
  ·intro hb23
   have hF3:=Zo hF3 hb23
   refine wp_skip (Zu (Zc (Zb hE rfl fun a hE=>Ze ?_)))
   obtain rfl:=Option.some.inj hF3
   exact wp_ret (kr1 hE rfl rfl hM.kept)
def Ye (p1 : UInt8) (p2 : UInt8) (s4 : Int × Int) : Option (Fl (Int × Int) Int) :=
 if (decide (s4.2 < 8)) = true then (((YI s4.2).bind fun _=>(if (((BR p2 s4.2) &&& 1) == 1) = true then ((YI s4.2).bind fun _=>some (K4 s4.1 (TN (bI p1) s4.2))) else (some s4.1) : Option (Int)).bind fun j13=>some j13 : Option (Int)).bind fun j9=>some (Fl.nx (j9,wr (s4.2 + 1)))) else (some (Fl.ex s4.1))
def ZM (p0 : Int) (p1 : UInt8) (p2 : UInt8) : Option (UInt8) :=
 (ZH (Ye p1 p2) (0,0)).bind fun j1=>(Uq j1 p0 8).bind fun r22=>some (Yp r22)
theorem Z5 (w0 : World) (p0 : Int) (p1 : UInt8) (p2 : UInt8) (r : UInt8) (hF : ZM p0 p1 p2 = some r) :
  Calls Tryz.prog 55 [vI p0,vB p1,vB p2].toArray w0 (Rt w0 (vB r)):=by
 refine ce Tryz.func55 ?_
 intro a hE
 have hM:=M.start w0
 unfold ZM at hF
 refine Zc (Zb hE rfl fun a hE=>Ze (Zc (Zb hE rfl fun a hE=>Ze (wp_seq (Zc (Zd hE rfl fun a hE=>Ze ?_))))))
 obtain ⟨j1,hl2,hF3⟩:=bind_some hF
 refine ZP (fun a w=>Env 28 a [(0,vI p0),(7,vI j1)] ∧ M (Old w0) w0 w []) ?_ ?_
 ·skip
  refine wp_block ?_
  refine ZK (fun (s4 : Int × Int) a w=>Env 28 a [(0,vI p0),(1,vB p1),(2,vB p2),(7,vI s4.1),(9,vI s4.2)] ∧ M (Old w0) w0 w []) hl2 ⟨hE.sub ⟨rfl,rfl,rfl,rfl,rfl,trivial⟩,hM⟩ ?_
  rintro s4 a w ⟨hE,hM⟩ o7 hs5 hx6
  unfold Ye at hs5
  refine Zc (Zk hE rfl rfl rfl fun a hE=>Ze (wp_seq ?_))
  refine Zm hE rfl ?_ ?_
  ·intro hb8
   have hs5:=Zn hs5 hb8
   refine wp_skip (Zu ?_)
   obtain ⟨j9,hl10,hF11⟩:=bind_some hs5
   refine Zx (fun a w=>Env 28 a [(0,vI p0),(1,vB p1),(2,vB p2),(7,vI j9),(9,vI s4.2)] ∧ M (Old w0) w0 w []) ?_ ?_
   ·skip
    refine wp_block (Zc (Zd hE rfl fun a hE=>Zb hE rfl fun a hE=>Ze (Zc (Zd hE rfl fun a hE=>Zd hE rfl ?_)))); intro a hE
    obtain ⟨_,e12,hl10⟩:=bind_some hl10
    have e12:=WA e12
    refine Ke hE Za ld rfl rfl (qT _ _ e12) fun a hE=>Zk hE rfl rfl (Za0 (BR p2 s4.2) 1) fun a hE=>Zk hE rfl rfl (AE ((BR p2 s4.2) &&& 1) 1) fun a hE=>Ze ?_
    obtain ⟨j13,hl14,hF15⟩:=bind_some hl10
    refine ZP (fun a w=>Env 28 a [(0,vI p0),(1,vB p1),(2,vB p2),(7,vI j13),(9,vI s4.2)] ∧ M (Old w0) w0 w []) ?_ ?_
    ·skip
     refine Zm hE rfl ?_ ?_
     ·intro hb16
      have hl14:=Zn hl14 hb16
      refine wp_region_lit (Zd hE rfl fun a hE=>Zd hE rfl fun a hE=>TA hE Za ld rfl Tryz.underlying5 Tryz.underlying2 fun a hE=>Zd hE rfl ?_); intro a hE
      obtain ⟨_,e17,hl14⟩:=bind_some hl14
      have e17:=WA e17
      refine Ke hE Za ld rfl rfl (Ho _ _ e17) fun a hE=>Zk hE rfl rfl rfl fun a hE=>Zb hE rfl fun a hE=>Zj ?_
      obtain rfl:=Option.some.inj hl14
      refine Zi ?_
      exact ⟨hE.sub ⟨rfl,rfl,rfl,rfl,rfl,trivial⟩,hM⟩
     ·intro hb16
      have hl14:=Zo hl14 hb16
      refine wp_skip ?_
      obtain rfl:=Option.some.inj hl14
      refine Zi ?_
      exact ⟨hE.sub ⟨rfl,rfl,rfl,rfl,rfl,trivial⟩,hM⟩
    ·skip
     rintro a w ⟨hE,hM⟩
     refine Yg ?_
     obtain rfl:=Option.some.inj hF15
     refine Zi ?_
     exact ⟨hE.sub ⟨rfl,rfl,rfl,rfl,rfl,trivial⟩,hM⟩
   ·skip
    rintro a w ⟨hE,hM⟩
    refine wp_region_lit (Zk hE rfl rfl rfl fun a hE=>Zd hE rfl fun a hE=>Zj (Zi ?_))
    exact ⟨_,(ois hF11),hE.sub ⟨rfl,rfl,rfl,rfl,rfl,trivial⟩,hM⟩
  ·intro hb8
   have hs5:=Zo hs5 hb8
   refine wp_exit (Zs (Zs (Ys ?_)))
   obtain rfl:=hx6 _ (ois hs5)
   refine Zi ?_
   exact ⟨hE.sub ⟨rfl,rfl,trivial⟩,hM⟩
 ·skip
  rintro a w ⟨hE,hM⟩
  refine Zu (Zc (Zd hE rfl fun a hE=>Zd hE rfl ?_)); intro a hE
  obtain ⟨r22,e23,hF3⟩:=bind_some hF3
  refine Zq hE rfl (cbm Tryz.func103) (B1 _ j1 p0 8 r22 e23) ?_
  rintro v w a ⟨rfl,hK⟩ hE
  have hM:=hM.keep hK
  refine TH hE Za ld rfl Tryz.underlying2 Tryz.underlying5 fun a hE=>Zb hE rfl fun a hE=>Ze ?_
  obtain rfl:=Option.some.inj hF3
  exact wp_ret (kr1 hE rfl rfl hM.kept)
def VT (p0 : Int) (s4 : UInt8 × Int × UInt8) : Option (Fl (UInt8 × Int × UInt8) UInt8) :=
 if (decide (s4.2.1 > 0)) = true then (((if ((Int.tmod s4.2.1 2) == 1) = true then ((ZM p0 s4.2.2 s4.1).bind fun r16=>some r16) else (some s4.2.2) : Option (UInt8)).bind fun j12=>(ZM p0 s4.1 s4.1).bind fun r20=>some (r20,j12) : Option (UInt8 × UInt8)).bind fun j9=>some (Fl.nx (j9.1,wr (Int.tdiv s4.2.1 2),j9.2))) else (some (Fl.ex s4.2.2))
def Wg (p0 : Int) (p1 : UInt8) (p2 : Int) : Option (UInt8) :=
 (ZH (VT p0) (p1,p2,1)).bind fun j1=>some j1
theorem Hp (w0 : World) (p0 : Int) (p1 : UInt8) (p2 : Int) (r : UInt8) (hF : Wg p0 p1 p2 = some r) :
  Calls Tryz.prog 105 [vI p0,vB p1,vI p2].toArray w0 (Rt w0 (vB r)):=by
 refine ce Tryz.func105 ?_
 intro a hE
 have hM:=M.start w0
 unfold Wg at hF
 refine Zc (Zb hE rfl fun a hE=>Ze (Zc (Zb hE rfl fun a hE=>Ze ?_)))
 obtain ⟨j1,hl2,hF3⟩:=bind_some hF
 refine Zx (fun a w=>Env 24 a [(7,vB j1)] ∧ M (Old w0) w0 w []) ?_ ?_
 ·skip
  refine wp_block ?_
  refine ZK (fun (s4 : UInt8 × Int × UInt8) a w=>Env 24 a [(0,vI p0),(1,vB s4.1),(2,vI s4.2.1),(7,vB s4.2.2)] ∧ M (Old w0) w0 w []) hl2 ⟨hE.sub ⟨rfl,rfl,rfl,rfl,trivial⟩,hM⟩ ?_
  rintro s4 a w ⟨hE,hM⟩ o7 hs5 hx6
  unfold VT at hs5
  refine wp_seq (Zc (Zd hE rfl fun a hE=>Zk hE rfl rfl rfl fun a hE=>Ze ?_))
  refine Zm hE rfl ?_ ?_
  ·intro hb8
   have hs5:=Zn hs5 hb8
   refine wp_skip (Zu ?_)
   obtain ⟨j9,hl10,hF11⟩:=bind_some hs5
   refine Zx (fun a w=>Env 24 a [(0,vI p0),(1,vB j9.1),(2,vI s4.2.1),(7,vB j9.2)] ∧ M (Old w0) w0 w []) ?_ ?_
   ·skip
    refine wp_block ?_
    obtain ⟨j12,hl13,hF14⟩:=bind_some hl10
    refine Zx (fun a w=>Env 24 a [(0,vI p0),(1,vB s4.1),(2,vI s4.2.1),(7,vB j12)] ∧ M (Old w0) w0 w []) ?_ ?_
    ·skip
     refine Zc (Zd hE rfl fun a hE=>Zk hE rfl rfl (Kj _ _ (by decide)) fun a hE=>Zk hE rfl rfl rfl fun a hE=>Ze ?_)
     refine Zm hE rfl ?_ ?_
     ·intro hb15
      have hl13:=Zn hl13 hb15
      refine wp_region_lit (Zd hE rfl fun a hE=>Zd hE rfl fun a hE=>Zd hE rfl ?_); intro a hE
      obtain ⟨r16,e17,hl13⟩:=bind_some hl13
      refine Zq hE rfl An (Z5 _ p0 s4.2.2 s4.1 r16 e17) ?_
      rintro v w a ⟨rfl,hK⟩ hE
      have hM:=hM.keep hK
      refine Zb hE rfl fun a hE=>Zj ?_
      obtain rfl:=Option.some.inj hl13
      refine Zi ?_
      exact ⟨hE.sub ⟨rfl,rfl,rfl,rfl,trivial⟩,hM⟩
     ·intro hb15
      have hl13:=Zo hl13 hb15
      refine wp_skip ?_
      obtain rfl:=Option.some.inj hl13
      refine Zi ?_
      exact ⟨hE.sub ⟨rfl,rfl,rfl,rfl,trivial⟩,hM⟩
    ·skip
     rintro a w ⟨hE,hM⟩
     refine wp_region_lit (Zd hE rfl fun a hE=>Zd hE rfl fun a hE=>Zd hE rfl ?_); intro a hE
     obtain ⟨r20,e21,hF14⟩:=bind_some hF14
     refine Zq hE rfl An (Z5 _ p0 s4.1 s4.1 r20 e21) ?_
     rintro v w a ⟨rfl,hK⟩ hE
     have hM:=hM.keep hK
     refine Zb hE rfl fun a hE=>Zj (Yg ?_)
     obtain rfl:=Option.some.inj hF14
     refine Zi ?_
     exact ⟨hE.sub ⟨rfl,rfl,rfl,rfl,trivial⟩,hM⟩
   ·skip
    rintro a w ⟨hE,hM⟩
    refine wp_region_lit (Zd hE rfl fun a hE=>Zk hE rfl rfl (HB _ _ (by decide)) fun a hE=>Zb hE rfl fun a hE=>Zj (Zi ?_))
    exact ⟨_,(ois hF11),hE.sub ⟨rfl,rfl,rfl,rfl,trivial⟩,hM⟩
  ·intro hb8
   have hs5:=Zo hs5 hb8
   refine wp_exit (Zs (Zs (Ys ?_)))
   obtain rfl:=hx6 _ (ois hs5)
   refine Zi ?_
   exact ⟨hE.sub ⟨rfl,trivial⟩,hM⟩
 ·skip
  rintro a w ⟨hE,hM⟩
  refine Zc (Zd hE rfl fun a hE=>Zb hE rfl fun a hE=>Ze ?_)
  obtain rfl:=Option.some.inj hF3
  exact wp_ret (kr1 hE rfl rfl hM.kept)
def Y4 (p0 : Int) (p1 : UInt8) : Option (UInt8) :=
 (Wg p0 p1 254).bind fun r1=>some r1
theorem U6 (w0 : World) (p0 : Int) (p1 : UInt8) (r : UInt8) (hF : Y4 p0 p1 = some r) :
  Calls Tryz.prog 56 [vI p0,vB p1].toArray w0 (Rt w0 (vB r)):=by
 refine ce Tryz.func56 ?_
 intro a hE
 have hM:=M.start w0
 unfold Y4 at hF
 refine Zc (Zb hE rfl fun a hE=>Ze (Zc (Zd hE rfl fun a hE=>Zd hE rfl ?_))); intro a hE
 obtain ⟨r1,e2,hF⟩:=bind_some hF
 refine Zq hE rfl (cbm Tryz.func105) (Hp _ p0 p1 254 r1 e2) ?_
 rintro v w a ⟨rfl,hK⟩ hE
 have hM:=hM.keep hK
 refine Zb hE rfl fun a hE=>Ze ?_
 obtain rfl:=Option.some.inj hF
 exact wp_ret (kr1 hE rfl rfl hM.kept)
def Y6 (p0 : Int) (p1 : (List GShare)) (p2 : UInt8) (x25 : GShare) (s38 : UInt8 × Int) : Option (Fl (UInt8 × Int) UInt8) :=
 if (decide (s38.2 < (p1.length : Int))) = true then (((idx p1 s38.2).bind fun x46=>(if (x46.Place != x25.Place) = true then ((Y4 p0 (x25.Place ^^^ x46.Place)).bind fun r61=>(ZM p0 (p2 ^^^ x46.Place) r61).bind fun r63=>(ZM p0 s38.1 r63).bind fun r65=>some r65) else (some s38.1) : Option (UInt8)).bind fun j56=>some j56 : Option (UInt8)).bind fun j43=>some (Fl.nx (j43,wr (s38.2 + 1)))) else (some (Fl.ex s38.1))
def Xa (p0 : Int) (x25 : GShare) (j35 : UInt8) (s76 : Int × (List UInt8)) : Option (Fl (Int × (List UInt8)) (List UInt8)) :=
 if (decide (s76.1 < (x25.Data.length : Int))) = true then ((idx x25.Data s76.1).bind fun x83=>(idx s76.2 s76.1).bind fun x87=>(ZM p0 x83 j35).bind fun r90=>(idx s76.2 s76.1).bind fun x92=>some (Fl.nx (wr (s76.1 + 1),(s76.2.set (s76.1).toNat (x87 ^^^ r90))))) else (some (Fl.ex s76.2))
def Xd (p0 : Int) (p1 : (List GShare)) (p2 : UInt8) (s18 : Int × (List UInt8)) : Option (Fl (Int × (List UInt8)) (List UInt8)) :=
 if (decide (s18.1 < (p1.length : Int))) = true then ((idx p1 s18.1).bind fun x25=>(ZH (Y6 p0 p1 p2 x25) (1,0)).bind fun j35=>(ZH (Xa p0 x25 j35) (0,s18.2)).bind fun j71=>some (Fl.nx (wr (s18.1 + 1),j71))) else (some (Fl.ex s18.2))
def X7 (p0 : Int) (p1 : (List GShare)) (p2 : UInt8) : Option ((List UInt8)) :=
 (idx p1 (0 : Int)).bind fun x1=>(mkS 1 (0 : UInt8) (x1.Data.length : Int)).bind fun l9=>(ZH (Xd p0 p1 p2) (0,l9)).bind fun j13=>some j13
theorem K7 (w0 : World) (p0 : Int) (p1 : (List GShare)) (v1_1 : Value) (hv1_1 : Ro w0 p1 [v1_1]) (p2 : UInt8) (r : (List UInt8)) (hF : X7 p0 p1 p2 = some r) :
  Calls Tryz.prog 98 [vI p0,v1_1,vB p2].toArray w0 (fun en w'=>∃ v,en = .returned v ∧ (∃ (y1 : Value),v = y1 ∧ Fr w0 w' [osl NoB (r : List UInt8) y1] ∧ Kept (Old w0) w0 w')):=by
 refine ce Tryz.func98 ?_
 intro a hE
 have hM:=M.start w0
 unfold X7 at hF
 refine Zc (Zb hE rfl fun a hE=>Ze (Zc (Zd hE rfl ?_))); intro a hE
 obtain ⟨x1,hi3,hF⟩:=bix hF
 refine ZG hE rfl rfl Tryz.underlying24 ZN (hM.rd hv1_1) hi3.1 fun a hE=>ZI hE rfl (Yj) ?_; intro a hE
 obtain ⟨cs4,hs5,hA6⟩:=Z3 hv1_1 hi3.2 -- ^
 obtain ⟨u7,rfl,h8⟩:=ZQ hs5 -- ^
 refine ZX (v:=u7) hE rfl YS rfl (At.cat (pre:=[[vB x1.Place]]) (hM.atk hA6 (Yr hv1_1 hi3.2)) ck) fun a hE=>ZL hE rfl Tryz.underlying22 (hM.rd h8) ?_; intro a hE
 obtain ⟨l9,e10,hF⟩:=bind_some hF
 refine Hq hE hM Za ld rfl rfl Tryz.underlying22 ty5 rfl (by decide) (fun _=>QQ.2 ⟨rfl,rfl⟩) e10 fun u11 w a hM hE=>Zb hE rfl fun a hE=>Ze (wp_seq (Zc (Zd hE rfl fun a hE=>ZL hE rfl Tryz.underlying24 (hM.rd hv1_1) fun a hE=>Zd hE rfl fun a hE=>Ze ?_)))
 obtain ⟨j13,hl14,hF15⟩:=bind_some hF
 refine ZP (fun a w=>∃ (u16 : Value),Env 76 a [(7,u16)] ∧ M (Old w0) w0 w [osl NoB (j13 : List UInt8) u16]) ?_ ?_
 ·skip
  refine wp_block ?_
  refine ZK (fun (s18 : Int × (List UInt8)) a w=>∃ (u19 : Value),Env 76 a [(0,vI p0),(1,v1_1),(2,vB p2),(7,u19),(21,v1_1),(22,(vI (p1.length : Int))),(23,vI s18.1)] ∧ M (Old w0) w0 w [osl NoB (s18.2 : List UInt8) u19]) hl14 ⟨u11,hE.sub ⟨rfl,rfl,rfl,rfl,rfl,rfl,rfl,trivial⟩,hM⟩ ?_
  rintro s18 a w ⟨u19,hE,hM⟩ o23 hs21 hx22
  unfold Xd at hs21
  refine Zc (Zk hE rfl rfl rfl fun a hE=>Ze (wp_seq ?_))
  refine Zm hE rfl ?_ ?_
  ·intro hb24
   have hs21:=Zn hs21 hb24
   refine wp_skip (Zu (wp_seq (wp_block (Zc ?_))))
   obtain ⟨x25,hi27,hs21⟩:=bix hs21
   refine ZG hE rfl rfl Tryz.underlying24 ZN (hM.rd hv1_1) hi27.1 ?_; intro a hE
   obtain ⟨cs28,hs29,hA30⟩:=Z3 hv1_1 hi27.2 -- ^
   obtain ⟨u31,rfl,h32⟩:=ZQ hs29 -- ^
   refine WR hE rfl ZN rfl (hM.atk hA30 (Yr hv1_1 hi27.2)) cq fun a hE=>UP hE hM ZN fun b33 w a hM hE=>Xs (seg:=cat [[vB x25.Place],[u31]]) (cs':=cat [[vB x25.Place],[u31]]) hE hM Za rfl rfl rfl ZN cq (Nat.le_of_eq ((Nat.zero_add _).trans (Eq.trans cq (Eq.symm cq)))) (Wu (cc1 (Flat.cell (x25.Place : UInt8)) (cc1 (Rep.cell (hM.rd h32)) cc0))) (ZZ (Eq.trans cq (Eq.symm cq))) fun w a hM hE=>Ze (Zc (Zb hE rfl fun a hE=>Ze (wp_seq (Zc (Zd hE rfl fun a hE=>ZL hE rfl Tryz.underlying24 (hM.rd hv1_1) fun a hE=>Zd hE rfl fun a hE=>Ze ?_)))))
   obtain ⟨j35,hl36,hF37⟩:=bind_some hs21
   refine ZP (fun a w=>Env 76 a [(0,vI p0),(1,v1_1),(2,vB p2),(7,u19),(9,(ptr b33 0)),(10,vB j35),(21,v1_1),(22,(vI (p1.length : Int))),(23,vI s18.1)] ∧ M (Old w0) w0 w [raw b33 (cat [[vB x25.Place],[u31]]),osl NoB (s18.2 : List UInt8) u19]) ?_ ?_
   ·skip
    refine wp_block ?_
    refine ZK (fun (s38 : UInt8 × Int) a w=>Env 76 a [(0,vI p0),(1,v1_1),(2,vB p2),(7,u19),(9,(ptr b33 0)),(10,vB s38.1),(21,v1_1),(22,(vI (p1.length : Int))),(23,vI s18.1),(27,v1_1),(28,(vI (p1.length : Int))),(29,vI s38.2)] ∧ M (Old w0) w0 w [raw b33 (cat [[vB x25.Place],[u31]]),osl NoB (s18.2 : List UInt8) u19]) hl36 ⟨hE.sub ⟨rfl,rfl,rfl,rfl,rfl,rfl,rfl,rfl,rfl,rfl,rfl,rfl,trivial⟩,hM⟩ ?_
    rintro s38 a w ⟨hE,hM⟩ o41 hs39 hx40
    unfold Y6 at hs39
    refine Zc (Zk hE rfl rfl rfl fun a hE=>Ze (wp_seq ?_))
    refine Zm hE rfl ?_ ?_
    ·intro hb42
     have hs39:=Zn hs39 hb42
     refine wp_skip (Zu ?_)
     obtain ⟨j43,hl44,hF45⟩:=bind_some hs39
     refine Zx (fun a w=>Env 76 a [(0,vI p0),(1,v1_1),(2,vB p2),(7,u19),(9,(ptr b33 0)),(10,vB j43),(21,v1_1),(22,(vI (p1.length : Int))),(23,vI s18.1),(27,v1_1),(28,(vI (p1.length : Int))),(29,vI s38.2)] ∧ M (Old w0) w0 w [raw b33 (cat [[vB x25.Place],[u31]]),osl NoB (s18.2 : List UInt8) u19]) ?_ ?_
     ·skip
      refine wp_block (Zc ?_)
      obtain ⟨x46,hi48,hl44⟩:=bix hl44
      refine ZG hE rfl rfl Tryz.underlying24 ZN (hM.rd hv1_1) hi48.1 ?_; intro a hE
      obtain ⟨cs49,hs50,hA51⟩:=Z3 hv1_1 hi48.2 -- ^
      obtain ⟨u52,rfl,h53⟩:=ZQ hs50 -- ^
      refine WR hE rfl ZN rfl (hM.atk hA51 (Yr hv1_1 hi48.2)) cq fun a hE=>UP hE hM ZN fun b54 w a hM hE=>Xs (seg:=cat [[vB x46.Place],[u52]]) (cs':=cat [[vB x46.Place],[u52]]) hE hM Za rfl rfl rfl ZN cq (Nat.le_of_eq ((Nat.zero_add _).trans (Eq.trans cq (Eq.symm cq)))) (Wu (cc1 (Flat.cell (x46.Place : UInt8)) (cc1 (Rep.cell (hM.rd h53)) cc0))) (ZZ (Eq.trans cq (Eq.symm cq))) fun w a hM hE=>Ze (Zc (ZI hE rfl (XQ) fun a hE=>ZX (v:=(vB x46.Place)) hE rfl ty5 rfl (At.cat (pre:=[]) hM.rawAt0 cl0) fun a hE=>ZI hE rfl (XQ) fun a hE=>ZX (v:=(vB x25.Place)) hE rfl ty5 rfl (At.cat (pre:=[]) hM.rawAt1 cl0) fun a hE=>Zk hE rfl rfl (Kd x46.Place x25.Place) fun a hE=>Ze ?_))
      obtain ⟨j56,hl57,hF58⟩:=bind_some hl44
      refine ZP (fun a w=>Env 76 a [(0,vI p0),(1,v1_1),(2,vB p2),(7,u19),(9,(ptr b33 0)),(10,vB j56),(21,v1_1),(22,(vI (p1.length : Int))),(23,vI s18.1),(27,v1_1),(28,(vI (p1.length : Int))),(29,vI s38.2)] ∧ M (Old w0) w0 w [raw b33 (cat [[vB x25.Place],[u31]]),osl NoB (s18.2 : List UInt8) u19]) ?_ ?_
      ·skip
       refine Zm hE rfl ?_ ?_
       ·intro hb59
        have hl57:=Zn hl57 hb59
        obtain ⟨r61,e62,hl57⟩:=bind_some hl57
        obtain ⟨r63,e64,hl57⟩:=bind_some hl57
        obtain ⟨r65,e66,hl57⟩:=bind_some hl57
        refine YA [38,39,40,41,42,43,44,45,46,47,48,49,50,51,52,53] Wb rfl rfl (by decide) rfl hE hM (qsP (fun z=>Zh z.E Za ld rfl (kr0 rfl)) (qsP (fun z=>Zh z.E Za ld rfl (kr0 rfl)) (qsP (fun z=>Zh z.E Za ld rfl (kr0 rfl)) (qsP (fun z=>Zh z.E Za ld rfl (kr0 rfl)) (qsP (fun z=>Zv z.E Za ld rfl (XQ) (kr0 rfl)) (qsP (fun z=>ZE (v:=(vB x46.Place)) z.E Za ld rfl ty5 rfl (At.cat (pre:=[]) (z.M.rawAt0) cl0) (kr0 rfl)) (qsP (v:=(vB (p2 ^^^ x46.Place))) (fun z=>ZJ z.E Za ld rfl rfl (Ur p2 x46.Place) (kr0 rfl)) (qsP (fun z=>Zh z.E Za ld rfl (kr0 rfl)) (qsP (fun z=>Zv z.E Za ld rfl (XQ) (kr0 rfl)) (qsP (fun z=>ZE (v:=(vB x25.Place)) z.E Za ld rfl ty5 rfl (At.cat (pre:=[]) (z.M.rawAt1) cl0) (kr0 rfl)) (qsP (fun z=>Zv z.E Za ld rfl (XQ) (kr0 rfl)) (qsP (fun z=>ZE (v:=(vB x46.Place)) z.E Za ld rfl ty5 rfl (At.cat (pre:=[]) (z.M.rawAt0) cl0) (kr0 rfl)) (qsP (v:=(vB (x25.Place ^^^ x46.Place))) (fun z=>ZJ z.E Za ld rfl rfl (Ur x25.Place x46.Place) (kr0 rfl)) (qsP (fun z=>ZW z.E Za ld rfl cb56 (U6 _ p0 (x25.Place ^^^ x46.Place) r61 e62) (kc rfl)) (qsP (fun z=>ZW z.E Za ld rfl An (Z5 _ p0 (p2 ^^^ x46.Place) r61 r63 e64) (kc rfl)) (qsP (fun z=>ZW z.E Za ld rfl An (Z5 _ p0 s38.1 r63 r65 e66) (kc rfl)) qs0)))))))))))))))) ?_
        ·intro a w u hE hM
         refine Zb hE rfl fun a hE=>Zj ?_
         obtain rfl:=Option.some.inj hl57
         refine Zi ?_
         have hM:=M.fst (l:=[_,_]) hM.pull2.pull2
         exact ⟨hE.sub ⟨rfl,rfl,rfl,rfl,rfl,rfl,rfl,rfl,rfl,rfl,rfl,rfl,trivial⟩,hM⟩
       ·intro hb59
        have hl57:=Zo hl57 hb59
        refine wp_skip ?_
        obtain rfl:=Option.some.inj hl57
        refine Zi ?_
        have hM:=M.fst (l:=[_,_]) hM.pull2.pull2
        exact ⟨hE.sub ⟨rfl,rfl,rfl,rfl,rfl,rfl,rfl,rfl,rfl,rfl,rfl,rfl,trivial⟩,hM⟩
      ·skip
       rintro a w ⟨hE,hM⟩
       refine Yg ?_
       obtain rfl:=Option.some.inj hF58
       refine Zi ?_
       exact ⟨hE.sub ⟨rfl,rfl,rfl,rfl,rfl,rfl,rfl,rfl,rfl,rfl,rfl,rfl,trivial⟩,hM⟩
     ·skip
      rintro a w ⟨hE,hM⟩
      refine wp_region_lit (Zk hE rfl rfl rfl fun a hE=>Zd hE rfl fun a hE=>Zj (Zi ?_))
      exact ⟨_,(ois hF45),hE.sub ⟨rfl,rfl,rfl,rfl,rfl,rfl,rfl,rfl,rfl,rfl,rfl,rfl,trivial⟩,hM⟩
    ·intro hb42
     have hs39:=Zo hs39 hb42
     refine wp_exit (Zs (Zs (Ys ?_)))
     obtain rfl:=hx40 _ (ois hs39)
     refine Zi ?_
     exact ⟨hE.sub ⟨rfl,rfl,rfl,rfl,rfl,rfl,rfl,rfl,rfl,trivial⟩,hM⟩
   ·skip
    rintro a w ⟨hE,hM⟩
    refine Zu (Zc (ZI hE rfl (Yj) fun a hE=>ZX (v:=u31) hE rfl YS rfl (At.cat (pre:=[[vB x25.Place]]) hM.rawAt0 ck) fun a hE=>ZL hE rfl Tryz.underlying22 (hM.rd h32) fun a hE=>Zd hE rfl fun a hE=>Ze ?_))
    obtain ⟨j71,hl72,hF73⟩:=bind_some hF37
    refine ZP (fun a w=>∃ (u74 : Value),Env 76 a [(0,vI p0),(1,v1_1),(2,vB p2),(7,u74),(21,v1_1),(22,(vI (p1.length : Int))),(23,vI s18.1)] ∧ M (Old w0) w0 w [osl NoB (j71 : List UInt8) u74]) ?_ ?_
    ·skip
     refine wp_block ?_
     have hM:=M.fst (l:=[_]) hM.pull1
     refine ZK (fun (s76 : Int × (List UInt8)) a w=>∃ (u77 : Value),Env 76 a [(0,vI p0),(1,v1_1),(2,vB p2),(7,u77),(10,vB j35),(21,v1_1),(22,(vI (p1.length : Int))),(23,vI s18.1),(56,u31),(57,(vI (x25.Data.length : Int))),(58,vI s76.1)] ∧ M (Old w0) w0 w [osl NoB (s76.2 : List UInt8) u77]) hl72 ⟨u19,hE.sub ⟨rfl,rfl,rfl,rfl,rfl,rfl,rfl,rfl,rfl,rfl,rfl,trivial⟩,hM⟩ ?_
     rintro s76 a w ⟨u77,hE,hM⟩ o81 hs79 hx80
     unfold Xa at hs79
     refine Zc (Zk hE rfl rfl rfl fun a hE=>Ze (wp_seq ?_))
     refine Zm hE rfl ?_ ?_
     ·intro hb82
      have hs79:=Zn hs79 hb82
      refine wp_skip (Zu (wp_seq (wp_block (Zc (Zd hE rfl ?_))))); intro a hE
      obtain ⟨x83,hi85,hs79⟩:=bix hs79
      refine ZG hE rfl rfl Tryz.underlying22 ty5 (hM.rd h32) hi85.1 fun a hE=>ZX (v:=(vB x83)) hE rfl ty5 rfl (ZS (hM.rd h32) hi85.2) fun a hE=>Zb hE rfl fun a hE=>Zb hE rfl fun a hE=>Ze ?_
      obtain ⟨x87,hi89,hs79⟩:=bix hs79
      obtain ⟨r90,e91,hs79⟩:=bind_some hs79
      obtain ⟨x92,hi94,hs79⟩:=bix hs79
      refine YA [63,64,65,66,67,68,69,70,71,72] Wb rfl rfl (by decide) rfl hE hM (qsP (fun z=>Zh z.E Za ld rfl (kr0 rfl)) (qsP (fun z=>Zh z.E Za ld rfl (kr0 rfl)) (qsP (fun z=>ZA z.E Za ld rfl rfl Tryz.underlying22 ty5 (z.M.sl (pre:=[]) noB) hi89.1 (kr0 rfl)) (qsP (fun z=>ZE (v:=(vB x87)) z.E Za ld rfl ty5 rfl (ZS (z.M.sl (pre:=[]) noB) hi89.2) (kr0 rfl)) (qsP (fun z=>Zh z.E Za ld rfl (kr0 rfl)) (qsP (fun z=>Zh z.E Za ld rfl (kr0 rfl)) (qsP (fun z=>Zh z.E Za ld rfl (kr0 rfl)) (qsP (fun z=>ZW z.E Za ld rfl An (Z5 _ p0 x83 j35 r90 e91) (kc rfl)) (qsP (v:=(vB (x87 ^^^ r90))) (fun z=>ZJ z.E Za ld rfl rfl (Ur x87 r90) (kr0 rfl)) (qsP (fun z=>ZA z.E Za ld rfl rfl Tryz.underlying22 ty5 (z.M.sl (pre:=[]) noB) hi94.1 (kr0 rfl)) qs0)))))))))) ?_
      ·intro a w u hE hM
       refine U2 (i:=(s76.1).toNat) (k0:=0) (seg:=[(vB (x87 ^^^ r90))]) (xo:=x92) (xn:=x87 ^^^ r90) hE hM Za rfl rfl rfl ty5 rfl (Flat.cell (x87 ^^^ r90 : UInt8)) hi94.2 (TT (m:=1) rfl (by decide)) (ZZ rfl) fun w a hM hE=>Zj (Yg (Zu (wp_region_lit (Zk hE rfl rfl rfl fun a hE=>Zd hE rfl fun a hE=>Zj (Zi ?_)))))
       exact ⟨_,(ois hs79),u77,hE.sub ⟨rfl,rfl,rfl,rfl,rfl,rfl,rfl,rfl,rfl,rfl,rfl,trivial⟩,hM⟩
     ·intro hb82
      have hs79:=Zo hs79 hb82
      refine wp_exit (Zs (Zs (Ys ?_)))
      obtain rfl:=hx80 _ (ois hs79)
      refine Zi ?_
      exact ⟨u77,hE.sub ⟨rfl,rfl,rfl,rfl,rfl,rfl,rfl,trivial⟩,hM⟩
    ·skip
     rintro a w ⟨u74,hE,hM⟩
     refine Yg (Zu (wp_region_lit (Zk hE rfl rfl rfl fun a hE=>Zd hE rfl fun a hE=>Zj (Zi ?_))))
     exact ⟨_,(ois hF73),u74,hE.sub ⟨rfl,rfl,rfl,rfl,rfl,rfl,rfl,trivial⟩,hM⟩
  ·intro hb24
   have hs21:=Zo hs21 hb24
   refine wp_exit (Zs (Zs (Ys ?_)))
   obtain rfl:=hx22 _ (ois hs21)
   refine Zi ?_
   exact ⟨u19,hE.sub ⟨rfl,trivial⟩,hM⟩
 ·skip
  rintro a w ⟨u16,hE,hM⟩
  refine Zu (Zc (Zd hE rfl fun a hE=>Zb hE rfl fun a hE=>Ze ?_))
  obtain rfl:=Option.some.inj hF15
  exact wp_ret (Yb hE rfl (Zl hE rfl) ⟨_,rfl,u16,rfl,hM.outF (Z8 Yd),hM.kept⟩)
def UE (p0 : (List UInt8)) (p1 : (List UInt8)) : Option (Bool) :=
 some (decide ((⟨p0⟩ : Str) = (⟨p1⟩ : Str)))
theorem Kf (w0 : World) (p0 : (List UInt8)) (v0_1 : Value) (hv0_1 : Ro w0 p0 [v0_1]) (p1 : (List UInt8)) (v1_1 : Value) (hv1_1 : Ro w0 p1 [v1_1]) (r : Bool) (hF : UE p0 p1 = some r) :
  Calls Tryz.prog 87 [v0_1,v1_1].toArray w0 (Rt w0 (vT r)):=by
 refine ce Tryz.func87 ?_
 intro a hE
 have hM:=M.start w0
 unfold UE at hF
 refine Zc (Zb hE rfl fun a hE=>Ze (Zc (Zd hE rfl fun a hE=>T5 hE Za ld rfl Tryz.underlying22 Tryz.underlying5 Tryz.underlying9 (hM.rd hv0_1) fun a hE=>Zd hE rfl fun a hE=>T5 hE Za ld rfl Tryz.underlying22 Tryz.underlying5 Tryz.underlying9 (hM.rd hv1_1) fun a hE=>s_eqS hE Za ld rfl rfl fun a hE=>Zb hE rfl fun a hE=>Ze ?_)))
 obtain rfl:=Option.some.inj hF
 exact wp_ret (kr1 hE rfl rfl hM.kept)
def WH (p0 : Int) (p1 : (List GShare)) (p2 : Int) (s5 : Int) : Option (Fl Int (Fl Unit Bool)) :=
 if (decide (s5 < (p1.length : Int))) = true then (((slc p1 (0 : Int) p2).bind fun l14=>(idx p1 s5).bind fun x17=>(X7 p0 l14 x17.Place).bind fun r25=>(idx p1 s5).bind fun x28=>(UE r25 x28.Data).bind fun r36=>some (!r36) : Option (Bool)).bind fun j10=>if j10 = true then (some (Fl.ex (Fl.ex false))) else (some (Fl.nx (wr (s5 + 1))))) else (some (Fl.ex (Fl.nx ())))
def We (p0 : Int) (p1 : (List GShare)) (p2 : Int) : Option (Bool) :=
 (ZH (WH p0 p1 p2) p2).bind fun j1=>j1.el (fun s4=>some true) (fun r=>some r)
theorem Qa (w0 : World) (p0 : Int) (p1 : (List GShare)) (v1_1 : Value) (hv1_1 : Ro w0 p1 [v1_1]) (p2 : Int) (r : Bool) (hF : We p0 p1 p2 = some r) :
  Calls Tryz.prog 44 [vI p0,v1_1,vI p2].toArray w0 (Rt w0 (vT r)):=by
 refine ce Tryz.func44 ?_
 intro a hE
 have hM:=M.start w0
 unfold We at hF
 refine Zc (Zb hE rfl fun a hE=>Ze (wp_seq (Zc (Zd hE rfl fun a hE=>Zb hE rfl fun a hE=>Ze ?_))))
 obtain ⟨j1,hl2,hF3⟩:=bind_some hF
 refine ZP (fun a w=>∃ s4 : Unit,j1 = Fl.nx s4 ∧ Env 32 a [] ∧ M (Old w0) w0 w []) ?_ ?_
 ·skip
  refine wp_block ?_
  refine ZK (fun (s5 : Int) a w=>Env 32 a [(0,vI p0),(1,v1_1),(2,vI p2),(7,vI s5)] ∧ M (Old w0) w0 w []) hl2 ⟨hE.sub ⟨rfl,rfl,rfl,rfl,trivial⟩,hM⟩ ?_
  rintro s5 a w ⟨hE,hM⟩ o8 hs6 hx7
  unfold WH at hs6
  refine wp_seq (Zc (Zd hE rfl fun a hE=>Zd hE rfl fun a hE=>ZL hE rfl Tryz.underlying24 (hM.rd hv1_1) fun a hE=>Zk hE rfl rfl rfl fun a hE=>Ze ?_))
  refine Zm hE rfl ?_ ?_
  ·intro hb9
   have hs6:=Zn hs6 hb9
   refine wp_skip (Zu (wp_seq (wp_block ?_)))
   obtain ⟨j10,hl11,hF12⟩:=bind_some hs6
   refine Zx (fun a w=>Env 32 a [(0,vI p0),(1,v1_1),(2,vI p2),(7,vI s5),(31,vT j10)] ∧ M (Old w0) w0 w []) ?_ ?_
   ·skip
    obtain ⟨l14,e15,hl11⟩:=bind_some hl11
    have h16 : Rep.sat (Old w0) w0 l14 [(Vc v1_1 ((0 : Int)).toNat (p2).toNat 2)] []:=AV hv1_1 e15 -- ^
    obtain ⟨x17,hi19,hl11⟩:=bix hl11
    obtain ⟨cs20,hs21,hA22⟩:=Z3 hv1_1 hi19.2 -- ^
    obtain ⟨u23,rfl,h24⟩:=ZQ hs21 -- ^
    obtain ⟨r25,e26,hl11⟩:=bind_some hl11
    obtain ⟨x28,hi30,hl11⟩:=bix hl11
    obtain ⟨cs31,hs32,hA33⟩:=Z3 hv1_1 hi30.2 -- ^
    obtain ⟨u34,rfl,h35⟩:=ZQ hs32 -- ^
    refine Wo (its:=[]) (mk:=([mkO 9 (fun v=>osl NoB (r25 : List UInt8) v)] : Mk)) [15,16,17,18,19,20,21,22,23,24,25,26,27,28,29] Wb rfl rfl (by decide) rfl hE (fun u=>M.qE (M.q0 hM.drew u) emO) (qsP (fun z=>Zh z.E Za ld rfl (kr0 rfl)) (qsP (fun z=>Zh z.E Za ld rfl (kr0 rfl)) (qsP (fun z=>Zh z.E Za ld rfl (kr0 rfl)) (qsP (fun z=>QZ z.E Za ld rfl rfl (VW rfl) rfl rfl Tryz.underlying24 ZN (z.M.rd hv1_1) e15 (kr0 rfl)) (qsP (fun z=>Zh z.E Za ld rfl (kr0 rfl)) (qsP (fun z=>Zh z.E Za ld rfl (kr0 rfl)) (qsP (fun z=>ZA z.E Za ld rfl rfl Tryz.underlying24 ZN (z.M.rd hv1_1) hi19.1 (kr0 rfl)) (qsP (fun z=>Zv z.E Za ld rfl (XQ) (kr0 rfl)) (qsP (fun z=>ZE (v:=(vB x17.Place)) z.E Za ld rfl ty5 rfl (At.cat (pre:=[]) (z.M.atk hA22 (Yr hv1_1 hi19.2)) cl0) (kr0 rfl)) (qsM (pr:=fun v=>True) ?_ (qsP (fun z=>Zh z.E Za ld rfl (kr0 rfl)) (qsP (fun z=>Zh z.E Za ld rfl (kr0 rfl)) (qsP (fun z=>ZA z.E Za ld rfl rfl Tryz.underlying24 ZN (z.M.rd hv1_1) hi30.1 (kr0 rfl)) (qsP (fun z=>Zv z.E Za ld rfl (Yj) (kr0 rfl)) (qsP (fun z=>ZE (v:=u34) z.E Za ld rfl YS rfl (At.cat (pre:=[[vB x28.Place]]) (z.M.atk hA33 (Yr hv1_1 hi30.2)) ck) (kr0 rfl)) qs0))))))))))))))) ?_
    ·intro a w ux13 D z
     have hE:=z.E
     have hD : D 9 = false:=z.F
     have hM0:=z.M
     have hM:=z.M
     refine Zq hE rfl (cbm Tryz.func98) (K7 _ p0 l14 (Vc v1_1 ((0 : Int)).toNat (p2).toNat 2) (hM.rdo h16) x17.Place r25 e26) ?_
     rintro _ w a ⟨_,rfl,hFr,hK⟩ hE
     have hM:=hM0.add hK hFr
     exact ⟨_,_,rfl,hE,M.qFill (mk1:=[]) (mk2:=[]) (f:=(fun v=>osl NoB (r25 : List UInt8) v)) hM rfl hD,trivial⟩
    ·intro a w ux13 D hE hM hG hall
     have d9:=hall 9 (by decide)
     have hM:=hM.sure (pre:=[]) d9
     obtain ⟨r36,e37,hl11⟩:=bind_some hl11
     refine Zq hE rfl cb87 (Kf _ r25 (ux13 9) (hM.sl (pre:=[]) noB) x28.Data u34 (hM.rdo h35) r36 e37) ?_
     rintro v w a ⟨rfl,hK⟩ hE
     have hM:=hM.keep hK
     refine Ve hE rfl fun a hE=>Zj ?_
     obtain rfl:=Option.some.inj hl11
     refine Zi ?_
     have hM:=M.fst (l:=[]) hM
     exact ⟨hE.sub ⟨rfl,rfl,rfl,rfl,rfl,trivial⟩,hM⟩
   ·skip
    rintro a w ⟨hE,hM⟩
    refine Zm hE rfl ?_ ?_
    ·intro hb39
     have hF12:=Zn hF12 hb39
     refine Zc (Zb hE rfl fun a hE=>Ze ?_)
     obtain rfl:=hx7 _ (ois hF12)
     obtain rfl:=Option.some.inj hF3
     exact wp_ret (Z4 (Zr (Zr (Z4 (Zr (Zr (kr1 hE rfl rfl hM.kept)))))))
    ·intro hb39
     have hF12:=Zo hF12 hb39
     refine wp_skip (Yg (Zu (wp_region_lit (Zd hE rfl fun a hE=>Zk hE rfl rfl rfl fun a hE=>Zb hE rfl fun a hE=>Zj (Zi ?_)))))
     exact ⟨_,(ois hF12),hE.sub ⟨rfl,rfl,rfl,rfl,trivial⟩,hM⟩
  ·intro hb9
   have hs6:=Zo hs6 hb9
   refine wp_exit (Zs (Zs (Ys ?_)))
   obtain rfl:=hx7 _ (ois hs6)
   refine Zi ?_
   exact ⟨(),rfl,hE.sub trivial,hM⟩
 ·skip
  rintro a w ⟨s4,ht,hE,hM⟩
  subst ht
  have hF3:=VQ hF3
  refine Zu (Zc (Zb hE rfl fun a hE=>Ze ?_))
  obtain rfl:=Option.some.inj hF3
  exact wp_ret (kr1 hE rfl rfl hM.kept)
def YW (p0 : (List Int)) (p1 : Int) (s5 : Int) : Option (Fl Int (Fl Unit Int)) :=
 if (decide (s5 < (p0.length : Int))) = true then ((idx p0 s5).bind fun x10=>if (p1 == x10) = true then (some (Fl.ex (Fl.ex s5))) else (some (Fl.nx (wr (s5 + 1))))) else (some (Fl.ex (Fl.nx ())))
def WS (p0 : (List Int)) (p1 : Int) : Option (Int) :=
 (ZH (YW p0 p1) 0).bind fun j1=>j1.el (fun s4=>some (-1)) (fun r=>some r)
theorem KO (w0 : World) (p0 : (List Int)) (v0_1 : Value) (hv0_1 : Ro w0 p0 [v0_1]) (p1 : Int) (r : Int) (hF : WS p0 p1 = some r) :
  Calls Tryz.prog 99 [v0_1,vI p1].toArray w0 (Rt w0 (vI r)):=by
 refine ce Tryz.func99 ?_
 intro a hE
 have hM:=M.start w0
 unfold WS at hF
 refine Zc (Zb hE rfl fun a hE=>Ze (wp_seq (Zc (Zd hE rfl fun a hE=>ZL hE rfl Tryz.underlying73 (hM.rd hv0_1) fun a hE=>Zd hE rfl fun a hE=>Ze ?_))))
 obtain ⟨j1,hl2,hF3⟩:=bind_some hF
 refine ZP (fun a w=>∃ s4 : Unit,j1 = Fl.nx s4 ∧ Env 19 a [] ∧ M (Old w0) w0 w []) ?_ ?_
 ·skip
  refine wp_block ?_
  refine ZK (fun (s5 : Int) a w=>Env 19 a [(0,v0_1),(1,vI p1),(7,(vI (p0.length : Int))),(8,vI s5)] ∧ M (Old w0) w0 w []) hl2 ⟨hE.sub ⟨rfl,rfl,rfl,rfl,trivial⟩,hM⟩ ?_
  rintro s5 a w ⟨hE,hM⟩ o8 hs6 hx7
  unfold YW at hs6
  refine Zc (Zk hE rfl rfl rfl fun a hE=>Ze (wp_seq ?_))
  refine Zm hE rfl ?_ ?_
  ·intro hb9
   have hs6:=Zn hs6 hb9
   refine wp_skip (Zu (wp_seq (wp_block (Zc (Zd hE rfl fun a hE=>Zb hE rfl fun a hE=>Ze (Zc (Zd hE rfl fun a hE=>Zd hE rfl fun a hE=>Zd hE rfl ?_))))))); intro a hE
   obtain ⟨x10,hi12,hs6⟩:=bix hs6
   refine ZG hE rfl rfl Tryz.underlying73 ty3 (hM.rd hv0_1) hi12.1 fun a hE=>ZX (v:=(vI x10)) hE rfl ty3 rfl (ZS (hM.rd hv0_1) hi12.2) fun a hE=>Zk hE rfl rfl rfl fun a hE=>Ze ?_
   refine Zm hE rfl ?_ ?_
   ·intro hb13
    have hs6:=Zn hs6 hb13
    refine Zc (Zd hE rfl fun a hE=>Zb hE rfl fun a hE=>Ze ?_)
    obtain rfl:=hx7 _ (ois hs6)
    obtain rfl:=Option.some.inj hF3
    exact wp_ret (Z4 (Zr (Zr (Z4 (Zr (Zr (kr1 hE rfl rfl hM.kept)))))))
   ·intro hb13
    have hs6:=Zo hs6 hb13
    refine wp_skip (Yg (Zu (wp_region_lit (Zk hE rfl rfl rfl fun a hE=>Zd hE rfl fun a hE=>Zj (Zi ?_)))))
    exact ⟨_,(ois hs6),hE.sub ⟨rfl,rfl,rfl,rfl,trivial⟩,hM⟩
  ·intro hb9
   have hs6:=Zo hs6 hb9
   refine wp_exit (Zs (Zs (Ys ?_)))
   obtain rfl:=hx7 _ (ois hs6)
   refine Zi ?_
   exact ⟨(),rfl,hE.sub trivial,hM⟩
 ·skip
  rintro a w ⟨s4,ht,hE,hM⟩
  subst ht
  have hF3:=VQ hF3
  refine Zu (Zc (Zb hE rfl fun a hE=>Ze ?_))
  obtain rfl:=Option.some.inj hF3
  exact wp_ret (kr1 hE rfl rfl hM.kept)
def Xj (p0 : (List Int)) (p1 : Int) : Option (Bool) :=
 (WS p0 p1).bind fun r1=>some (decide (r1 ≥ 0))
theorem QV (w0 : World) (p0 : (List Int)) (v0_1 : Value) (hv0_1 : Ro w0 p0 [v0_1]) (p1 : Int) (r : Bool) (hF : Xj p0 p1 = some r) :
  Calls Tryz.prog 45 [v0_1,vI p1].toArray w0 (Rt w0 (vT r)):=by
 refine ce Tryz.func45 ?_
 intro a hE
 have hM:=M.start w0
 unfold Xj at hF
 refine Zc (Zb hE rfl fun a hE=>Ze (Zc (Zd hE rfl fun a hE=>Zd hE rfl ?_))); intro a hE
 obtain ⟨r1,e2,hF⟩:=bind_some hF
 refine Zq hE rfl (cbm Tryz.func99) (KO _ p0 v0_1 (hM.rdo hv0_1) p1 r1 e2) ?_
 rintro v w a ⟨rfl,hK⟩ hE
 have hM:=hM.keep hK
 refine Zk hE rfl rfl rfl fun a hE=>Zb hE rfl fun a hE=>Ze ?_
 obtain rfl:=Option.some.inj hF
 exact wp_ret (kr1 hE rfl rfl hM.kept)
def XJ (p1 : (List GShare)) (r29 : (List Int)) (s39 : (List GShare) × Int) : Option (Fl ((List GShare) × Int) (List GShare)) :=
 if (decide (s39.2 < (r29.length : Int))) = true then ((idx r29 s39.2).bind fun x46=>(idx p1 x46).bind fun x49=>(app 32 s39.1 ([x49] : List GShare)).bind fun l59=>some (Fl.nx ((s39.1 ++ ([x49] : List GShare)),wr (s39.2 + 1)))) else (some (Fl.ex s39.1))
def YZ (p0 : Int) (p1 : (List GShare)) (p2 : Int) (s13 : (List Int) × Int) : Option (Fl ((List Int) × Int) (List Int)) :=
 if (decide (s13.2 < (TN 1 (p1.length : Int)))) = true then (((X6 (IntKind.u64.wrap s13.2)).bind fun r25=>if (decide (r25 < (s13.1.length : Int))) = true then (some s13.1) else ((Tx s13.2 (p1.length : Int)).bind fun r29=>(ZH (XJ p1 r29) (([] : List GShare),0)).bind fun j34=>(if ((r29.length : Int) == (s13.1.length : Int)) = true then ((Xv r29 s13.1).bind fun r69=>some (decide (r69 ≥ 0))) else (some false) : Option (Bool)).bind fun j65=>if j65 = true then (some s13.1) else ((if (decide ((j34.length : Int) ≤ p2)) = true then (some true) else ((We p0 j34 p2).bind fun r80=>some r80) : Option (Bool)).bind fun j75=>(if j75 = true then (some r29) else (some s13.1) : Option ((List Int))).bind fun j83=>some j83)) : Option ((List Int))).bind fun j20=>some (Fl.nx (j20,wr (s13.2 + 1)))) else (some (Fl.ex s13.1))
def XH (p1 : (List GShare)) (j8 : (List Int)) (s108 : (List Int) × Int) : Option (Fl ((List Int) × Int) (List Int)) :=
 if (decide (s108.2 < (p1.length : Int))) = true then (((Xj j8 s108.2).bind fun r120=>(if (!r120) = true then ((app 8 s108.1 ([s108.2] : List Int)).bind fun l130=>some (s108.1 ++ ([s108.2] : List Int))) else (some s108.1) : Option ((List Int))).bind fun j122=>some j122 : Option ((List Int))).bind fun j115=>some (Fl.nx (j115,wr (s108.2 + 1)))) else (some (Fl.ex s108.1))
def WK (p0 : Int) (p1 : (List GShare)) (p2 : Int) : Option ((List Int) × Int) :=
 (YC p0 p1 p2).bind fun r1=>if (r1 != 0) = true then (some ([],r1)) else ((YI (p1.length : Int)).bind fun _=>(ZH (YZ p0 p1 p2) (([] : List Int),0)).bind fun j8=>(if (decide ((j8.length : Int) ≤ p2)) = true then (some true) else (some (decide ((p1.length : Int) < (wr (p2 + (wr (2 * (wr ((p1.length : Int) - (j8.length : Int)))))))))) : Option (Bool)).bind fun j93=>if j93 = true then (some ([],4)) else ((ZH (XH p1 j8) (([] : List Int),0)).bind fun j103=>some (j103,0)))
theorem JT (w0 : World) (p0 : Int) (p1 : (List GShare)) (v1_1 : Value) (hv1_1 : Ro w0 p1 [v1_1]) (p2 : Int) (r : (List Int) × Int) (hF : WK p0 p1 p2 = some r) :
  Calls Tryz.prog 6 [vI p0,v1_1,vI p2].toArray w0 (fun en w'=>∃ v,en = .returned v ∧ (∃ (y1 : Value),v = (Value.tuple [y1,vI r.2].toArray) ∧ Fr w0 w' [osl NoB (r.1 : List Int) y1] ∧ Kept (Old w0) w0 w')):=by
 refine ce Tryz.func6 ?_
 intro a hE
 have hM:=M.start w0
 unfold WK at hF
 refine Zc (Zb hE rfl fun a hE=>Zb hE rfl fun a hE=>Ze (wp_seq (Zc (Zd hE rfl fun a hE=>Zd hE rfl fun a hE=>Zd hE rfl ?_)))); intro a hE
 obtain ⟨r1,e2,hF⟩:=bind_some hF
 refine Zq hE rfl cb40 (Wd _ p0 p1 v1_1 (hM.rdo hv1_1) p2 r1 e2) ?_
 rintro v w a ⟨rfl,hK⟩ hE
 have hM:=hM.keep hK
 refine Zb hE rfl fun a hE=>Ze (Zc (Zd hE rfl fun a hE=>Zk hE rfl rfl rfl fun a hE=>Ze ?_))
 refine Zm hE rfl ?_ ?_
 ·intro hb3
  have hF:=Zn hF hb3
  refine Zc (Zd hE rfl fun a hE=>Zb hE rfl fun a hE=>Zb hE rfl fun a hE=>Ze ?_)
  have hM:=M.nilS (α:=Int) NoB noB hM
  obtain rfl:=Option.some.inj hF
  exact wp_ret (Zr (Z0 hE rfl (Zl hE rfl) (Zl hE rfl) ⟨_,rfl,(Value.slice none 0 0),rfl,hM.outF (Z8 Yd),hM.kept⟩))
 ·intro hb3
  have hF:=Zo hF hb3
  refine wp_skip (Zu (Zc (Zd hE rfl fun a hE=>ZL hE rfl Tryz.underlying24 (hM.rd hv1_1) fun a hE=>ZD (xs:=[]) (l:=([] : List Int)) (vs:=[]) hE hM Za ld rfl rfl Tryz.underlying73 ty3 rfl (by decide) rfl fun u5 w a hM hE=>Zb hE rfl fun a hE=>Zb hE rfl fun a hE=>Ze (wp_seq (Zc (Zd hE rfl ?_)))))); intro a hE
  obtain ⟨_,e7,hF⟩:=bind_some hF
  have e7:=WA e7
  refine Ke hE Za ld rfl rfl (Ho _ _ e7) fun a hE=>Zd hE rfl fun a hE=>Ze ?_
  obtain ⟨j8,hl9,hF10⟩:=bind_some hF
  refine ZP (fun a w=>∃ (u11 : Value),Env 112 a [(2,vI p2),(9,(vI (p1.length : Int))),(10,u11)] ∧ M (Old w0) w0 w [osl NoB (j8 : List Int) u11]) ?_ ?_
  ·skip
   refine wp_block ?_
   refine ZK (fun (s13 : (List Int) × Int) a w=>∃ (u14 : Value),Env 112 a [(0,vI p0),(1,v1_1),(2,vI p2),(9,(vI (p1.length : Int))),(10,u14),(30,(vI (TN 1 (p1.length : Int)))),(31,vI s13.2)] ∧ M (Old w0) w0 w [osl NoB (s13.1 : List Int) u14]) hl9 ⟨u5,hE.sub ⟨rfl,rfl,rfl,rfl,rfl,rfl,rfl,trivial⟩,hM⟩ ?_
   rintro s13 a w ⟨u14,hE,hM⟩ o18 hs16 hx17
   unfold YZ at hs16
   refine Zc (Zk hE rfl rfl rfl fun a hE=>Ze (wp_seq ?_))
   refine Zm hE rfl ?_ ?_
   ·intro hb19
    have hs16:=Zn hs16 hb19
    refine wp_skip (Zu ?_)
    obtain ⟨j20,hl21,hF22⟩:=bind_some hs16
    refine Zx (fun a w=>∃ (u23 : Value),Env 112 a [(0,vI p0),(1,v1_1),(2,vI p2),(9,(vI (p1.length : Int))),(10,u23),(30,(vI (TN 1 (p1.length : Int)))),(31,vI s13.2)] ∧ M (Old w0) w0 w [osl NoB (j20 : List Int) u23]) ?_ ?_
    ·skip
     refine wp_block (Zc (Zd hE rfl fun a hE=>Zb hE rfl fun a hE=>Ze (wp_seq (Zc (Zd hE rfl fun a hE=>Qm hE Za ld rfl Tryz.underlying3 Tryz.underlying75 ?_))))); intro a hE
     obtain ⟨r25,e26,hl21⟩:=bind_some hl21
     refine Zq hE rfl (cbm Tryz.func41) (K8 _ (IntKind.u64.wrap s13.2) r25 e26) ?_
     rintro v w a ⟨rfl,hK⟩ hE
     have hM:=hM.keep hK
     refine Zd hE rfl fun a hE=>ZL hE rfl Tryz.underlying73 (hM.sl (pre:=[]) noB) fun a hE=>Zk hE rfl rfl rfl fun a hE=>Ze ?_
     refine Zm hE rfl ?_ ?_
     ·intro hb27
      have hl21:=Zn hl21 hb27
      refine wp_exit (Zs (Ys ?_))
      obtain rfl:=Option.some.inj hl21
      refine Zi ?_
      exact ⟨u14,hE.sub ⟨rfl,rfl,rfl,rfl,rfl,rfl,rfl,trivial⟩,hM⟩
     ·intro hb27
      have hl21:=Zo hl21 hb27
      refine wp_skip (Zu (Zc (Zd hE rfl fun a hE=>Zd hE rfl ?_))); intro a hE
      obtain ⟨r29,e30,hl21⟩:=bind_some hl21
      refine Zq hE rfl (cbm Tryz.func42) (zO _ s13.2 (p1.length : Int) r29 e30) ?_
      rintro u31 w a ⟨_,rfl,hFr,hK⟩ hE
      have hM:=hM.add hK hFr
      refine TE (xs:=[]) (S:=NoB) (l:=([] : List GShare)) (vs:=[]) hE hM.emp noB Za ld rfl rfl rfl Tryz.underlying24 ZN rfl (by decide) (fun _ h=>⟨rfl,h⟩) (fun _ h=>by cases h) fun u32 w a hM hE=>Zb hE rfl fun a hE=>Zb hE rfl fun a hE=>Ze (wp_seq (Zc (Zd hE rfl fun a hE=>ZL hE rfl Tryz.underlying73 (hM.sl (pre:=[_]) noB) fun a hE=>Zd hE rfl fun a hE=>Ze ?_)))
      obtain ⟨j34,hl35,hF36⟩:=bind_some hl21
      refine ZP (fun a w=>∃ (u37 : Value),Env 112 a [(0,vI p0),(1,v1_1),(2,vI p2),(9,(vI (p1.length : Int))),(10,u14),(12,u31),(13,u37),(30,(vI (TN 1 (p1.length : Int)))),(31,vI s13.2)] ∧ M (Old w0) w0 w [osl NoB (r29 : List Int) u31,osl NoB (s13.1 : List Int) u14,osl (Old w0) (j34 : List GShare) u37]) ?_ ?_
      ·skip
       refine wp_block ?_
       have hM:=((hM.oslWk (S':=Old w0) noB (fun _ h=>h)).pull2).pull2
       refine ZK (fun (s39 : (List GShare) × Int) a w=>∃ (u40 : Value),Env 112 a [(0,vI p0),(1,v1_1),(2,vI p2),(9,(vI (p1.length : Int))),(10,u14),(12,u31),(13,u40),(30,(vI (TN 1 (p1.length : Int)))),(31,vI s13.2),(44,u31),(45,(vI (r29.length : Int))),(46,vI s39.2)] ∧ M (Old w0) w0 w [osl NoB (r29 : List Int) u31,osl NoB (s13.1 : List Int) u14,osl (Old w0) (s39.1 : List GShare) u40]) hl35 ⟨u32,hE.sub ⟨rfl,rfl,rfl,rfl,rfl,rfl,rfl,rfl,rfl,rfl,rfl,rfl,trivial⟩,hM⟩ ?_
       rintro s39 a w ⟨u40,hE,hM⟩ o44 hs42 hx43
       unfold XJ at hs42
       refine Zc (Zk hE rfl rfl rfl fun a hE=>Ze (wp_seq ?_))
       refine Zm hE rfl ?_ ?_
       ·intro hb45
        have hs42:=Zn hs42 hb45
        refine wp_skip (Zu (wp_seq (wp_block (Zc ?_))))
        obtain ⟨x46,hi48,hs42⟩:=bix hs42
        refine ZG hE rfl rfl Tryz.underlying73 ty3 (hM.sl (pre:=[]) noB) hi48.1 fun a hE=>ZX (v:=(vI x46)) hE rfl ty3 rfl (ZS (hM.sl (pre:=[]) noB) hi48.2) fun a hE=>Zb hE rfl fun a hE=>Ze (wp_region_lit (Zd hE rfl fun a hE=>Zd hE rfl fun a hE=>Zd hE rfl ?_)); intro a hE
        obtain ⟨x49,hi51,hs42⟩:=bix hs42
        refine ZG hE rfl rfl Tryz.underlying24 ZN (hM.rd hv1_1) hi51.1 ?_; intro a hE
        obtain ⟨cs52,hs53,hA54⟩:=Z3 hv1_1 hi51.2 -- ^
        obtain ⟨u55,rfl,h56⟩:=ZQ hs53 -- ^
        refine WR hE rfl ZN rfl (hM.atk hA54 (Yr hv1_1 hi51.2)) cq ?_; intro a hE
        have hM:=hM.addRo (S:=(Old w0)) (x:=x49) (cs:=cat [[vB x49.Place],[u55]]) (fun _ h=>h) (W2 (hM.rd h56) (by simp))
        refine V0 (xs:=[.tmp 54]) (seg:=cat [[vB x49.Place],[u55]]) hE hM (fun _ h=>h) Za ld rfl rfl Tryz.underlying24 ZN rfl (by decide) ?_; intro u57 w a hM hE
        obtain ⟨l59,e60,hs42⟩:=bind_some hs42
        obtain ⟨e63,rfl⟩:=ZY e60
        have hM:=hM.pull3
        refine UM hE hM (fun _ h=>h) Za ld rfl rfl Tryz.underlying24 ZN rfl (by decide) e63 fun u61 w a hM hE=>Zb hE rfl fun a hE=>Zj (Yg (Zu (wp_region_lit (Zk hE rfl rfl rfl fun a hE=>Zd hE rfl fun a hE=>Zj (Zi ?_)))))
        have hM:=hM.pull2.pull2
        exact ⟨_,(ois hs42),u61,hE.sub ⟨rfl,rfl,rfl,rfl,rfl,rfl,rfl,rfl,rfl,rfl,rfl,rfl,trivial⟩,hM⟩
       ·intro hb45
        have hs42:=Zo hs42 hb45
        refine wp_exit (Zs (Zs (Ys ?_)))
        obtain rfl:=hx43 _ (ois hs42)
        refine Zi ?_
        exact ⟨u40,hE.sub ⟨rfl,rfl,rfl,rfl,rfl,rfl,rfl,rfl,rfl,trivial⟩,hM⟩
      ·skip
       rintro a w ⟨u37,hE,hM⟩
       refine Zu (wp_seq ?_)
       obtain ⟨j65,hl66,hF67⟩:=bind_some hF36
       refine Zx (fun a w=>Env 112 a [(0,vI p0),(1,v1_1),(2,vI p2),(9,(vI (p1.length : Int))),(10,u14),(12,u31),(13,u37),(30,(vI (TN 1 (p1.length : Int)))),(31,vI s13.2),(68,vT j65)] ∧ M (Old w0) w0 w [osl NoB (r29 : List Int) u31,osl NoB (s13.1 : List Int) u14,osl (Old w0) (j34 : List GShare) u37]) ?_ ?_
       ·skip
        refine wp_region_lit (Zd hE rfl fun a hE=>ZL hE rfl Tryz.underlying73 (hM.sl (pre:=[]) noB) fun a hE=>Zd hE rfl fun a hE=>ZL hE rfl Tryz.underlying73 (hM.sl (pre:=[_]) noB) fun a hE=>Zk hE rfl rfl rfl fun a hE=>Zd hE rfl ?_); intro a hE
        refine ZO ((r29.length : Int) == (s13.1.length : Int)) (fun hb68=>?_) (fun hb68=>?_)
        ·have hl66:=Zn hl66 hb68
         refine Zh hE (Zf hE rfl (lkb rfl hb68)) (by decide) rfl fun a hE=>Zh hE (Zf hE rfl (lkb rfl hb68)) (by decide) rfl ?_; intro a hE
         obtain ⟨r69,e70,hl66⟩:=bind_some hl66
         refine ZW hE (Zf hE rfl (lkb rfl hb68)) (by decide) rfl (cbm Tryz.func43) (Q8 _ r29 u31 (hM.sl (pre:=[]) noB) s13.1 u14 (hM.sl (pre:=[_]) noB) r69 e70) ?_
         rintro v w a ⟨rfl,hK⟩ hE
         have hM:=hM.keep hK
         refine ZJ hE (Zf hE rfl (lkb rfl hb68)) (by decide) rfl rfl rfl fun a hE=>ZB hE (lkb rfl hb68) rfl fun a hE=>Zj ?_
         obtain rfl:=Option.some.inj hl66
         refine Zi ?_
         exact ⟨hE.sub ⟨rfl,rfl,rfl,rfl,rfl,rfl,rfl,rfl,rfl,rfl,trivial⟩,hM⟩
        ·have hl66:=Zo hl66 hb68
         refine Zg hE rfl (lkb rfl hb68) rfl (by decide) fun a hE=>Zg hE rfl (lkb rfl hb68) rfl (by decide) fun a hE=>Zg hE rfl (lkb rfl hb68) rfl (by decide) fun a hE=>Zg hE rfl (lkb rfl hb68) rfl (by decide) fun a hE=>Zy hE (lkb rfl hb68) rfl fun a hE=>Zj ?_
         obtain rfl:=Option.some.inj hl66
         refine Zi ?_
         exact ⟨hE.sub ⟨rfl,rfl,rfl,rfl,rfl,rfl,rfl,rfl,rfl,rfl,trivial⟩,hM⟩
       ·skip
        rintro a w ⟨hE,hM⟩
        refine Zm hE rfl ?_ ?_
        ·intro hb73
         have hF67:=Zn hF67 hb73
         refine wp_exit (Zs (Ys ?_))
         obtain rfl:=Option.some.inj hF67
         refine Zi ?_
         have hM:=M.fst (l:=[_]) hM.pull1
         exact ⟨u14,hE.sub ⟨rfl,rfl,rfl,rfl,rfl,rfl,rfl,trivial⟩,hM⟩
        ·intro hb73
         have hF67:=Zo hF67 hb73
         refine wp_skip (Zu ?_)
         obtain ⟨j75,hl76,hF77⟩:=bind_some hF67
         refine Zx (fun a w=>Env 112 a [(0,vI p0),(1,v1_1),(2,vI p2),(9,(vI (p1.length : Int))),(10,u14),(12,u31),(30,(vI (TN 1 (p1.length : Int)))),(31,vI s13.2),(78,vT j75)] ∧ M (Old w0) w0 w [osl NoB (r29 : List Int) u31,osl NoB (s13.1 : List Int) u14]) ?_ ?_
         ·skip
          refine wp_region_lit (Zd hE rfl fun a hE=>ZL hE rfl Tryz.underlying24 (hM.sl (pre:=[_,_]) (fun _ h=>h)) fun a hE=>Zd hE rfl fun a hE=>Zk hE rfl rfl rfl fun a hE=>Zd hE rfl ?_); intro a hE
          refine ZO (decide ((j34.length : Int) ≤ p2)) (fun hb78=>?_) (fun hb78=>?_)
          ·have hl76:=Zn hl76 hb78
           refine Zg hE rfl (lkb rfl hb78) rfl (by decide) fun a hE=>Zg hE rfl (lkb rfl hb78) rfl (by decide) fun a hE=>Zg hE rfl (lkb rfl hb78) rfl (by decide) fun a hE=>Zg hE rfl (lkb rfl hb78) rfl (by decide) fun a hE=>ZB hE (lkb rfl hb78) rfl fun a hE=>Zj ?_
           obtain rfl:=Option.some.inj hl76
           refine Zi ?_
           have hM:=M.fst (l:=[_,_]) hM.pull1.pull1
           exact ⟨hE.sub ⟨rfl,rfl,rfl,rfl,rfl,rfl,rfl,rfl,rfl,trivial⟩,hM⟩
          ·have hl76:=Zo hl76 hb78
           refine Zh hE (Zf hE rfl (lkb rfl hb78)) (by decide) rfl fun a hE=>Zh hE (Zf hE rfl (lkb rfl hb78)) (by decide) rfl fun a hE=>Zh hE (Zf hE rfl (lkb rfl hb78)) (by decide) rfl ?_; intro a hE
           obtain ⟨r80,e81,hl76⟩:=bind_some hl76
           refine ZW hE (Zf hE rfl (lkb rfl hb78)) (by decide) rfl cb44 (Qa _ p0 j34 u37 (hM.sl (pre:=[_,_]) (fun _ h=>h)) p2 r80 e81) ?_
           rintro v w a ⟨rfl,hK⟩ hE
           have hM:=hM.keep hK
           refine Zy hE (lkb rfl hb78) rfl fun a hE=>Zj ?_
           obtain rfl:=Option.some.inj hl76
           refine Zi ?_
           have hM:=M.fst (l:=[_,_]) hM.pull1.pull1
           exact ⟨hE.sub ⟨rfl,rfl,rfl,rfl,rfl,rfl,rfl,rfl,rfl,trivial⟩,hM⟩
         ·skip
          rintro a w ⟨hE,hM⟩
          obtain ⟨j83,hl84,hF85⟩:=bind_some hF77
          refine ZP (fun a w=>∃ (u86 : Value),Env 112 a [(0,vI p0),(1,v1_1),(2,vI p2),(9,(vI (p1.length : Int))),(10,u86),(30,(vI (TN 1 (p1.length : Int)))),(31,vI s13.2)] ∧ M (Old w0) w0 w [osl NoB (j83 : List Int) u86]) ?_ ?_
          ·skip
           refine Zm hE rfl ?_ ?_
           ·intro hb88
            have hl84:=Zn hl84 hb88
            refine wp_region_lit (Zd hE rfl fun a hE=>Zb hE rfl fun a hE=>Zj ?_)
            obtain rfl:=Option.some.inj hl84
            refine Zi ?_
            have hM:=M.fst (l:=[_]) hM
            exact ⟨u31,hE.sub ⟨rfl,rfl,rfl,rfl,rfl,rfl,rfl,trivial⟩,hM⟩
           ·intro hb88
            have hl84:=Zo hl84 hb88
            refine wp_skip ?_
            obtain rfl:=Option.some.inj hl84
            refine Zi ?_
            have hM:=M.fst (l:=[_]) hM.pull1
            exact ⟨u14,hE.sub ⟨rfl,rfl,rfl,rfl,rfl,rfl,rfl,trivial⟩,hM⟩
          ·skip
           rintro a w ⟨u86,hE,hM⟩
           refine Yg ?_
           obtain rfl:=Option.some.inj hF85
           refine Zi ?_
           exact ⟨u86,hE.sub ⟨rfl,rfl,rfl,rfl,rfl,rfl,rfl,trivial⟩,hM⟩
    ·skip
     rintro a w ⟨u23,hE,hM⟩
     refine wp_region_lit (Zk hE rfl rfl rfl fun a hE=>Zd hE rfl fun a hE=>Zj (Zi ?_))
     exact ⟨_,(ois hF22),u23,hE.sub ⟨rfl,rfl,rfl,rfl,rfl,rfl,rfl,trivial⟩,hM⟩
   ·intro hb19
    have hs16:=Zo hs16 hb19
    refine wp_exit (Zs (Zs (Ys ?_)))
    obtain rfl:=hx17 _ (ois hs16)
    refine Zi ?_
    exact ⟨u14,hE.sub ⟨rfl,rfl,rfl,trivial⟩,hM⟩
  ·skip
   rintro a w ⟨u11,hE,hM⟩
   refine Zu (Zc (Zd hE rfl fun a hE=>Zd hE rfl fun a hE=>ZL hE rfl Tryz.underlying73 (hM.sl (pre:=[]) noB) fun a hE=>Zk hE rfl rfl rfl fun a hE=>Zb hE rfl fun a hE=>Ze (wp_seq ?_)))
   obtain ⟨j93,hl94,hF95⟩:=bind_some hF10
   refine Zx (fun a w=>Env 112 a [(9,(vI (p1.length : Int))),(10,u11),(96,vT j93)] ∧ M (Old w0) w0 w [osl NoB (j8 : List Int) u11]) ?_ ?_
   ·skip
    refine wp_region_lit (Zd hE rfl fun a hE=>ZL hE rfl Tryz.underlying73 (hM.sl (pre:=[]) noB) fun a hE=>Zd hE rfl fun a hE=>Zk hE rfl rfl rfl fun a hE=>Zd hE rfl ?_); intro a hE
    refine ZO (decide ((j8.length : Int) ≤ p2)) (fun hb96=>?_) (fun hb96=>?_)
    ·have hl94:=Zn hl94 hb96
     refine Zg hE rfl (lkb rfl hb96) rfl (by decide) fun a hE=>Zg hE rfl (lkb rfl hb96) rfl (by decide) fun a hE=>Zg hE rfl (lkb rfl hb96) rfl (by decide) fun a hE=>Zg hE rfl (lkb rfl hb96) rfl (by decide) fun a hE=>Zg hE rfl (lkb rfl hb96) rfl (by decide) fun a hE=>Zg hE rfl (lkb rfl hb96) rfl (by decide) fun a hE=>ZB hE (lkb rfl hb96) rfl fun a hE=>Zj ?_
     obtain rfl:=Option.some.inj hl94
     refine Zi ?_
     exact ⟨hE.sub ⟨rfl,rfl,rfl,trivial⟩,hM⟩
    ·have hl94:=Zo hl94 hb96
     refine Zh hE (Zf hE rfl (lkb rfl hb96)) (by decide) rfl fun a hE=>Zh hE (Zf hE rfl (lkb rfl hb96)) (by decide) rfl fun a hE=>Zh hE (Zf hE rfl (lkb rfl hb96)) (by decide) rfl fun a hE=>ZJ hE (Zf hE rfl (lkb rfl hb96)) (by decide) rfl rfl rfl fun a hE=>ZJ hE (Zf hE rfl (lkb rfl hb96)) (by decide) rfl rfl rfl fun a hE=>ZJ hE (Zf hE rfl (lkb rfl hb96)) (by decide) rfl rfl rfl fun a hE=>Zy hE (lkb rfl hb96) rfl fun a hE=>Zj ?_
     obtain rfl:=Option.some.inj hl94
     refine Zi ?_
     exact ⟨hE.sub ⟨rfl,rfl,rfl,trivial⟩,hM⟩
   ·skip
    rintro a w ⟨hE,hM⟩
    refine Zm hE rfl ?_ ?_
    ·intro hb99
     have hF95:=Zn hF95 hb99
     refine Zc (Zb hE rfl fun a hE=>Zb hE rfl fun a hE=>Ze ?_)
     have hM:=M.nilS (α:=Int) NoB noB hM
     obtain rfl:=Option.some.inj hF95
     have hM:=M.fst (l:=[_]) hM
     exact wp_ret (Zr (Z0 hE rfl (Zl hE rfl) (Zl hE rfl) ⟨_,rfl,(Value.slice none 0 0),rfl,hM.outF (Z8 Yd),hM.kept⟩))
    ·intro hb99
     have hF95:=Zo hF95 hb99
     refine wp_skip (Zu (Zc (ZD (xs:=[]) (l:=([] : List Int)) (vs:=[]) hE hM Za ld rfl rfl Tryz.underlying27 ty2 rfl (by decide) rfl fun u101 w a hM hE=>Zb hE rfl fun a hE=>Ze (wp_seq (Zc (Zd hE rfl fun a hE=>Zd hE rfl fun a hE=>Ze ?_))))))
     obtain ⟨j103,hl104,hF105⟩:=bind_some hF95
     refine ZP (fun a w=>∃ (u106 : Value),Env 112 a [(17,u106)] ∧ M (Old w0) w0 w [osl NoB (j103 : List Int) u106]) ?_ ?_
     ·skip
      refine wp_block ?_
      have hM:=hM.pull1
      refine ZK (fun (s108 : (List Int) × Int) a w=>∃ (u109 : Value),Env 112 a [(10,u11),(17,u109),(98,(vI (p1.length : Int))),(99,vI s108.2)] ∧ M (Old w0) w0 w [osl NoB (j8 : List Int) u11,osl NoB (s108.1 : List Int) u109]) hl104 ⟨u101,hE.sub ⟨rfl,rfl,rfl,rfl,trivial⟩,hM⟩ ?_
      rintro s108 a w ⟨u109,hE,hM⟩ o113 hs111 hx112
      unfold XH at hs111
      refine Zc (Zk hE rfl rfl rfl fun a hE=>Ze (wp_seq ?_))
      refine Zm hE rfl ?_ ?_
      ·intro hb114
       have hs111:=Zn hs111 hb114
       refine wp_skip (Zu ?_)
       obtain ⟨j115,hl116,hF117⟩:=bind_some hs111
       refine Zx (fun a w=>∃ (u118 : Value),Env 112 a [(10,u11),(17,u118),(98,(vI (p1.length : Int))),(99,vI s108.2)] ∧ M (Old w0) w0 w [osl NoB (j8 : List Int) u11,osl NoB (j115 : List Int) u118]) ?_ ?_
       ·skip
        refine wp_block (Zc (Zd hE rfl fun a hE=>Zb hE rfl fun a hE=>Ze (Zc (Zd hE rfl fun a hE=>Zd hE rfl ?_)))); intro a hE
        obtain ⟨r120,e121,hl116⟩:=bind_some hl116
        refine Zq hE rfl (cbm Tryz.func45) (QV _ j8 u11 (hM.sl (pre:=[]) noB) s108.2 r120 e121) ?_
        rintro v w a ⟨rfl,hK⟩ hE
        have hM:=hM.keep hK
        refine Ve hE rfl fun a hE=>Ze ?_
        obtain ⟨j122,hl123,hF124⟩:=bind_some hl116
        refine ZP (fun a w=>∃ (u125 : Value),Env 112 a [(10,u11),(17,u125),(98,(vI (p1.length : Int))),(99,vI s108.2)] ∧ M (Old w0) w0 w [osl NoB (j8 : List Int) u11,osl NoB (j122 : List Int) u125]) ?_ ?_
        ·skip
         refine Zm hE rfl ?_ ?_
         ·intro hb127
          have hl123:=Zn hl123 hb127
          refine wp_region_lit (Zd hE rfl fun a hE=>Zd hE rfl fun a hE=>ZD (xs:=[.tmp 107]) (l:=([s108.2] : List Int)) (vs:=[vI s108.2]) hE hM Za ld rfl rfl Tryz.underlying27 ty2 rfl (by decide) rfl ?_); intro u128 w a hM hE
          obtain ⟨l130,e131,hl123⟩:=bind_some hl123
          obtain ⟨e134,rfl⟩:=ZY e131
          have hM:=hM.pull2
          refine Z9 hE hM Za ld rfl rfl (hM.sl (pre:=[_]) noB) Tryz.underlying27 ty2 rfl (by decide) e134 fun u132 w a hM hE=>Zb hE rfl fun a hE=>Zj ?_
          obtain rfl:=Option.some.inj hl123
          refine Zi ?_
          have hM:=M.fst (l:=[_,_]) hM.pull2
          exact ⟨u132,hE.sub ⟨rfl,rfl,rfl,rfl,trivial⟩,hM⟩
         ·intro hb127
          have hl123:=Zo hl123 hb127
          refine wp_skip ?_
          obtain rfl:=Option.some.inj hl123
          refine Zi ?_
          exact ⟨u109,hE.sub ⟨rfl,rfl,rfl,rfl,trivial⟩,hM⟩
        ·skip
         rintro a w ⟨u125,hE,hM⟩
         refine Yg ?_
         obtain rfl:=Option.some.inj hF124
         refine Zi ?_
         exact ⟨u125,hE.sub ⟨rfl,rfl,rfl,rfl,trivial⟩,hM⟩
       ·skip
        rintro a w ⟨u118,hE,hM⟩
        refine wp_region_lit (Zk hE rfl rfl rfl fun a hE=>Zd hE rfl fun a hE=>Zj (Zi ?_))
        exact ⟨_,(ois hF117),u118,hE.sub ⟨rfl,rfl,rfl,rfl,trivial⟩,hM⟩
      ·intro hb114
       have hs111:=Zo hs111 hb114
       refine wp_exit (Zs (Zs (Ys ?_)))
       obtain rfl:=hx112 _ (ois hs111)
       refine Zi ?_
       have hM:=M.fst (l:=[_]) hM.pull1
       exact ⟨u109,hE.sub ⟨rfl,trivial⟩,hM⟩
     ·skip
      rintro a w ⟨u106,hE,hM⟩
      refine Zu (Zc (Zd hE rfl fun a hE=>Zb hE rfl fun a hE=>Zb hE rfl fun a hE=>Ze ?_))
      obtain rfl:=Option.some.inj hF105
      exact wp_ret (Z0 hE rfl (Zl hE rfl) (Zl hE rfl) ⟨_,rfl,u106,rfl,hM.outF (Z8 Yd),hM.kept⟩)
def VC (p0 : GShare) : Option (Bool) :=
 (if (p0.Place != 0) = true then (some (decide ((p0.Data.length : Int) ≤ 100))) else (some false) : Option (Bool)).bind fun j3=>some j3
theorem KT (w0 : World) (p0 : GShare) (v0_1 : Value) (hv0_1 : Ro w0 p0.Data [v0_1]) (r : Bool) (hF : VC p0 = some r) :
  Calls Tryz.prog 69 [(Value.agg (cat [[vB p0.Place],[v0_1]]).toArray)].toArray w0 (Rt w0 (vT r)):=by
 refine ce Tryz.func69 ?_
 intro a hE
 have hM:=M.start w0
 unfold VC at hF
 refine Zc (KW (cs:=cat [[vB p0.Place],[v0_1]]) hE hM Za ld rfl rfl fun b1 w a hM hE=>Zb hE rfl fun a hE=>Ze ?_)
 obtain ⟨j3,hl4,hF5⟩:=bind_some hF
 refine Zx (fun a w=>Env 12 a [(2,vT j3)] ∧ M (Old w0) w0 w []) ?_ ?_
 ·skip
  refine wp_region_lit (ZI hE rfl (XQ) fun a hE=>ZX (v:=(vB p0.Place)) hE rfl ty5 rfl (At.cat (pre:=[]) hM.rawAt0 cl0) fun a hE=>Zk hE rfl rfl (Kd p0.Place 0) fun a hE=>Zd hE rfl ?_); intro a hE
  refine ZO (p0.Place != 0) (fun hb6=>?_) (fun hb6=>?_)
  ·have hl4:=Zn hl4 hb6
   refine Zv hE (Zf hE rfl (lkb rfl hb6)) (by decide) rfl (Yj) fun a hE=>ZE (v:=v0_1) hE (Zf hE rfl (lkb rfl hb6)) (by decide) rfl YS rfl (At.cat (pre:=[[vB p0.Place]]) hM.rawAt0 ck) fun a hE=>XN hE (Zf hE rfl (lkb rfl hb6)) (by decide) rfl Tryz.underlying22 (hM.rd hv0_1) fun a hE=>ZJ hE (Zf hE rfl (lkb rfl hb6)) (by decide) rfl rfl rfl fun a hE=>ZB hE (lkb rfl hb6) rfl fun a hE=>Zb hE rfl fun a hE=>Zj ?_
   obtain rfl:=Option.some.inj hl4
   refine Zi ?_
   have hM:=M.fst (l:=[]) hM
   exact ⟨hE.sub ⟨rfl,trivial⟩,hM⟩
  ·have hl4:=Zo hl4 hb6
   refine Zg hE rfl (lkb rfl hb6) rfl (by decide) fun a hE=>Zg hE rfl (lkb rfl hb6) rfl (by decide) fun a hE=>Zg hE rfl (lkb rfl hb6) rfl (by decide) fun a hE=>Zg hE rfl (lkb rfl hb6) rfl (by decide) fun a hE=>Zy hE (lkb rfl hb6) rfl fun a hE=>Zb hE rfl fun a hE=>Zj ?_
   obtain rfl:=Option.some.inj hl4
   refine Zi ?_
   have hM:=M.fst (l:=[]) hM
   exact ⟨hE.sub ⟨rfl,trivial⟩,hM⟩
 ·skip
  rintro a w ⟨hE,hM⟩
  obtain rfl:=Option.some.inj hF5
  exact wp_ret (kr1 hE rfl rfl hM.kept)
def WL (p0 : (List GShare)) (s8 : (List UInt8) × Int) : Option (Fl ((List UInt8) × Int) (List UInt8)) :=
 if (decide (s8.2 < (p0.length : Int))) = true then ((idx p0 s8.2).bind fun x15=>(app 1 s8.1 ([x15.Place] : List UInt8)).bind fun l25=>some (Fl.nx ((s8.1 ++ ([x15.Place] : List UInt8)),wr (s8.2 + 1)))) else (some (Fl.ex s8.1))
def Vb (p0 : (List GShare)) : Option (Bool) :=
 (ZH (WL p0) (([] : List UInt8),0)).bind fun j3=>(Vx j3).bind fun r31=>some (!r31)
theorem Hf (w0 : World) (p0 : (List GShare)) (v0_1 : Value) (hv0_1 : Ro w0 p0 [v0_1]) (r : Bool) (hF : Vb p0 = some r) :
  Calls Tryz.prog 125 [v0_1].toArray w0 (Rt w0 (vT r)):=by
 refine ce Tryz.func125 ?_
 intro a hE
 have hM:=M.start w0
 unfold Vb at hF
 refine Zc (Zb hE rfl fun a hE=>Ze (Zc (ZD (xs:=[]) (l:=([] : List UInt8)) (vs:=[]) hE hM Za ld rfl rfl Tryz.underlying22 ty5 rfl (by decide) rfl fun u1 w a hM hE=>Zb hE rfl fun a hE=>Ze (wp_seq (Zc (Zb hE rfl fun a hE=>Ze ?_))))))
 obtain ⟨j3,hl4,hF5⟩:=bind_some hF
 refine ZP (fun a w=>∃ (u6 : Value),Env 23 a [(3,u6)] ∧ M (Old w0) w0 w [osl NoB (j3 : List UInt8) u6]) ?_ ?_
 ·skip
  refine wp_block ?_
  refine ZK (fun (s8 : (List UInt8) × Int) a w=>∃ (u9 : Value),Env 23 a [(0,v0_1),(3,u9),(4,vI s8.2)] ∧ M (Old w0) w0 w [osl NoB (s8.1 : List UInt8) u9]) hl4 ⟨u1,hE.sub ⟨rfl,rfl,rfl,trivial⟩,hM⟩ ?_
  rintro s8 a w ⟨u9,hE,hM⟩ o13 hs11 hx12
  unfold WL at hs11
  refine wp_seq (Zc (Zd hE rfl fun a hE=>Zd hE rfl fun a hE=>ZL hE rfl Tryz.underlying24 (hM.rd hv0_1) fun a hE=>Zk hE rfl rfl rfl fun a hE=>Ze ?_))
  refine Zm hE rfl ?_ ?_
  ·intro hb14
   have hs11:=Zn hs11 hb14
   refine wp_skip (Zu (wp_seq (wp_block (wp_region_lit (Zd hE rfl fun a hE=>Zd hE rfl fun a hE=>Zd hE rfl ?_))))); intro a hE
   obtain ⟨x15,hi17,hs11⟩:=bix hs11
   refine ZG hE rfl rfl Tryz.underlying24 ZN (hM.rd hv0_1) hi17.1 fun a hE=>ZI hE rfl (XQ) ?_; intro a hE
   obtain ⟨cs18,hs19,hA20⟩:=Z3 hv0_1 hi17.2 -- ^
   obtain ⟨u21,rfl,h22⟩:=ZQ hs19 -- ^
   refine ZX (v:=(vB x15.Place)) hE rfl ty5 rfl (At.cat (pre:=[]) (hM.atk hA20 (Yr hv0_1 hi17.2)) cl0) fun a hE=>ZD (xs:=[.tmp 17]) (l:=([x15.Place] : List UInt8)) (vs:=[vB x15.Place]) hE hM Za ld rfl rfl Tryz.underlying22 ty5 rfl (by decide) rfl ?_; intro u23 w a hM hE
   obtain ⟨l25,e26,hs11⟩:=bind_some hs11
   obtain ⟨e29,rfl⟩:=ZY e26
   have hM:=hM.pull1
   refine Z9 hE hM Za ld rfl rfl (hM.sl (pre:=[_]) noB) Tryz.underlying22 ty5 rfl (by decide) e29 fun u27 w a hM hE=>Zb hE rfl fun a hE=>Zj (Yg (Zu (wp_region_lit (Zd hE rfl fun a hE=>Zk hE rfl rfl rfl fun a hE=>Zb hE rfl fun a hE=>Zj (Zi ?_)))))
   have hM:=M.fst (l:=[_]) hM
   exact ⟨_,(ois hs11),u27,hE.sub ⟨rfl,rfl,rfl,trivial⟩,hM⟩
  ·intro hb14
   have hs11:=Zo hs11 hb14
   refine wp_exit (Zs (Zs (Ys ?_)))
   obtain rfl:=hx12 _ (ois hs11)
   refine Zi ?_
   exact ⟨u9,hE.sub ⟨rfl,trivial⟩,hM⟩
 ·skip
  rintro a w ⟨u6,hE,hM⟩
  refine Zu (Zc (Zd hE rfl ?_)); intro a hE
  obtain ⟨r31,e32,hF5⟩:=bind_some hF5
  refine Zq hE rfl (cbm Tryz.func107) (KX _ j3 u6 (hM.sl (pre:=[]) noB) r31 e32) ?_
  rintro v w a ⟨rfl,hK⟩ hE
  have hM:=hM.keep hK
  refine Ve hE rfl fun a hE=>Zb hE rfl fun a hE=>Ze ?_
  obtain rfl:=Option.some.inj hF5
  exact wp_ret (kr1 hE rfl rfl hM.kept)
def UB (p0 : (List GShare)) (s5 : Int) : Option (Fl Int (Fl Unit Int)) :=
 if (decide (s5 < (p0.length : Int))) = true then ((idx p0 s5).bind fun x10=>(VC x10).bind fun r18=>if (!r18) = true then (some (Fl.ex (Fl.ex 1))) else (some (Fl.nx (wr (s5 + 1))))) else (some (Fl.ex (Fl.nx ())))
def Vq (p0 : (List GShare)) (s37 : Int) : Option (Fl Int (Fl Unit Int)) :=
 if (decide (s37 < (p0.length : Int))) = true then (((idx p0 s37).bind fun x46=>(idx p0 (0 : Int)).bind fun x54=>some ((x46.Data.length : Int) != (x54.Data.length : Int)) : Option (Bool)).bind fun j42=>if j42 = true then (some (Fl.ex (Fl.ex 2))) else (some (Fl.nx (wr (s37 + 1))))) else (some (Fl.ex (Fl.nx ())))
def Vh (p0 : (List GShare)) : Option (Int) :=
 (ZH (UB p0) 0).bind fun j1=>j1.el (fun s4=>(Vb p0).bind fun r23=>if (!r23) = true then (some 1) else ((if (decide ((p0.length : Int) < 1)) = true then (some true) else (some (decide ((p0.length : Int) > 12))) : Option (Bool)).bind fun j26=>if j26 = true then (some 2) else ((ZH (Vq p0) 1).bind fun j33=>j33.el (fun s36=>some 0) (fun r=>some r)))) (fun r=>some r)
theorem QI (w0 : World) (p0 : (List GShare)) (v0_1 : Value) (hv0_1 : Ro w0 p0 [v0_1]) (r : Int) (hF : Vh p0 = some r) :
  Calls Tryz.prog 88 [v0_1].toArray w0 (Rt w0 (vI r)):=by
 refine ce Tryz.func88 ?_
 intro a hE
 have hM:=M.start w0
 unfold Vh at hF
 refine Zc (Zb hE rfl fun a hE=>Ze (wp_seq (Zc (Zb hE rfl fun a hE=>Ze ?_))))
 obtain ⟨j1,hl2,hF3⟩:=bind_some hF
 refine ZP (fun a w=>∃ s4 : Unit,j1 = Fl.nx s4 ∧ Env 46 a [(0,v0_1)] ∧ M (Old w0) w0 w []) ?_ ?_
 ·skip
  refine wp_block ?_
  refine ZK (fun (s5 : Int) a w=>Env 46 a [(0,v0_1),(3,vI s5)] ∧ M (Old w0) w0 w []) hl2 ⟨hE.sub ⟨rfl,rfl,trivial⟩,hM⟩ ?_
  rintro s5 a w ⟨hE,hM⟩ o8 hs6 hx7
  unfold UB at hs6
  refine wp_seq (Zc (Zd hE rfl fun a hE=>Zd hE rfl fun a hE=>ZL hE rfl Tryz.underlying24 (hM.rd hv0_1) fun a hE=>Zk hE rfl rfl rfl fun a hE=>Ze ?_))
  refine Zm hE rfl ?_ ?_
  ·intro hb9
   have hs6:=Zn hs6 hb9
   refine wp_skip (Zu (wp_seq (wp_block (Zc (Zd hE rfl fun a hE=>Zd hE rfl ?_))))); intro a hE
   obtain ⟨x10,hi12,hs6⟩:=bix hs6
   refine ZG hE rfl rfl Tryz.underlying24 ZN (hM.rd hv0_1) hi12.1 ?_; intro a hE
   obtain ⟨cs13,hs14,hA15⟩:=Z3 hv0_1 hi12.2 -- ^
   obtain ⟨u16,rfl,h17⟩:=ZQ hs14 -- ^
   refine WR hE rfl ZN rfl (hM.atk hA15 (Yr hv0_1 hi12.2)) cq ?_; intro a hE
   obtain ⟨r18,e19,hs6⟩:=bind_some hs6
   refine Zq hE rfl (cbm Tryz.func69) (KT _ x10 u16 (hM.rdo h17) r18 e19) ?_
   rintro v w a ⟨rfl,hK⟩ hE
   have hM:=hM.keep hK
   refine Ve hE rfl fun a hE=>Ze ?_
   refine Zm hE rfl ?_ ?_
   ·intro hb20
    have hs6:=Zn hs6 hb20
    refine Zc (Zb hE rfl fun a hE=>Ze ?_)
    obtain rfl:=hx7 _ (ois hs6)
    obtain rfl:=Option.some.inj hF3
    exact wp_ret (Z4 (Zr (Zr (Z4 (Zr (Zr (kr1 hE rfl rfl hM.kept)))))))
   ·intro hb20
    have hs6:=Zo hs6 hb20
    refine wp_skip (Yg (Zu (wp_region_lit (Zd hE rfl fun a hE=>Zk hE rfl rfl rfl fun a hE=>Zb hE rfl fun a hE=>Zj (Zi ?_)))))
    exact ⟨_,(ois hs6),hE.sub ⟨rfl,rfl,trivial⟩,hM⟩
  ·intro hb9
   have hs6:=Zo hs6 hb9
   refine wp_exit (Zs (Zs (Ys ?_)))
   obtain rfl:=hx7 _ (ois hs6)
   refine Zi ?_
   exact ⟨(),rfl,hE.sub ⟨rfl,trivial⟩,hM⟩
 ·skip
  rintro a w ⟨s4,ht,hE,hM⟩
  subst ht
  have hF3:=VQ hF3
  refine Zu (wp_seq (Zc (Zd hE rfl ?_))); intro a hE
  obtain ⟨r23,e24,hF3⟩:=bind_some hF3
  refine Zq hE rfl (cbm Tryz.func125) (Hf _ p0 v0_1 (hM.rdo hv0_1) r23 e24) ?_
  rintro v w a ⟨rfl,hK⟩ hE
  have hM:=hM.keep hK
  refine Ve hE rfl fun a hE=>Ze ?_
  refine Zm hE rfl ?_ ?_
  ·intro hb25
   have hF3:=Zn hF3 hb25
   refine Zc (Zb hE rfl fun a hE=>Ze ?_)
   obtain rfl:=Option.some.inj hF3
   exact wp_ret (Zr (kr1 hE rfl rfl hM.kept))
  ·intro hb25
   have hF3:=Zo hF3 hb25
   refine wp_skip (Zu (wp_seq ?_))
   obtain ⟨j26,hl27,hF28⟩:=bind_some hF3
   refine Zx (fun a w=>Env 46 a [(0,v0_1),(27,vT j26)] ∧ M (Old w0) w0 w []) ?_ ?_
   ·skip
    refine wp_region_lit (Zd hE rfl fun a hE=>ZL hE rfl Tryz.underlying24 (hM.rd hv0_1) fun a hE=>Zk hE rfl rfl rfl fun a hE=>Zd hE rfl ?_); intro a hE
    refine ZO (decide ((p0.length : Int) < 1)) (fun hb29=>?_) (fun hb29=>?_)
    ·have hl27:=Zn hl27 hb29
     refine Zg hE rfl (lkb rfl hb29) rfl (by decide) fun a hE=>Zg hE rfl (lkb rfl hb29) rfl (by decide) fun a hE=>Zg hE rfl (lkb rfl hb29) rfl (by decide) fun a hE=>ZB hE (lkb rfl hb29) rfl fun a hE=>Zj ?_
     obtain rfl:=Option.some.inj hl27
     refine Zi ?_
     exact ⟨hE.sub ⟨rfl,rfl,trivial⟩,hM⟩
    ·have hl27:=Zo hl27 hb29
     refine Zh hE (Zf hE rfl (lkb rfl hb29)) (by decide) rfl fun a hE=>XN hE (Zf hE rfl (lkb rfl hb29)) (by decide) rfl Tryz.underlying24 (hM.rd hv0_1) fun a hE=>ZJ hE (Zf hE rfl (lkb rfl hb29)) (by decide) rfl rfl rfl fun a hE=>Zy hE (lkb rfl hb29) rfl fun a hE=>Zj ?_
     obtain rfl:=Option.some.inj hl27
     refine Zi ?_
     exact ⟨hE.sub ⟨rfl,rfl,trivial⟩,hM⟩
   ·skip
    rintro a w ⟨hE,hM⟩
    refine Zm hE rfl ?_ ?_
    ·intro hb32
     have hF28:=Zn hF28 hb32
     refine Zc (Zb hE rfl fun a hE=>Ze ?_)
     obtain rfl:=Option.some.inj hF28
     exact wp_ret (Zr (kr1 hE rfl rfl hM.kept))
    ·intro hb32
     have hF28:=Zo hF28 hb32
     refine wp_skip (Zu (wp_seq (Zc (Zb hE rfl fun a hE=>Ze ?_))))
     obtain ⟨j33,hl34,hF35⟩:=bind_some hF28
     refine ZP (fun a w=>∃ s36 : Unit,j33 = Fl.nx s36 ∧ Env 46 a [] ∧ M (Old w0) w0 w []) ?_ ?_
     ·skip
      refine wp_block ?_
      refine ZK (fun (s37 : Int) a w=>Env 46 a [(0,v0_1),(4,vI s37)] ∧ M (Old w0) w0 w []) hl34 ⟨hE.sub ⟨rfl,rfl,trivial⟩,hM⟩ ?_
      rintro s37 a w ⟨hE,hM⟩ o40 hs38 hx39
      unfold Vq at hs38
      refine wp_seq (Zc (Zd hE rfl fun a hE=>Zd hE rfl fun a hE=>ZL hE rfl Tryz.underlying24 (hM.rd hv0_1) fun a hE=>Zk hE rfl rfl rfl fun a hE=>Ze ?_))
      refine Zm hE rfl ?_ ?_
      ·intro hb41
       have hs38:=Zn hs38 hb41
       refine wp_skip (Zu (wp_seq (wp_block ?_)))
       obtain ⟨j42,hl43,hF44⟩:=bind_some hs38
       refine Zx (fun a w=>Env 46 a [(0,v0_1),(4,vI s37),(45,vT j42)] ∧ M (Old w0) w0 w []) ?_ ?_
       ·skip
        obtain ⟨x46,hi48,hl43⟩:=bix hl43
        obtain ⟨cs49,hs50,hA51⟩:=Z3 hv0_1 hi48.2 -- ^
        obtain ⟨u52,rfl,h53⟩:=ZQ hs50 -- ^
        obtain ⟨x54,hi56,hl43⟩:=bix hl43
        obtain ⟨cs57,hs58,hA59⟩:=Z3 hv0_1 hi56.2 -- ^
        obtain ⟨u60,rfl,h61⟩:=ZQ hs58 -- ^
        refine YA [34,35,36,37,38,39,40,41,42,43,44,45] Wb rfl rfl (by decide) rfl hE hM (qsP (fun z=>Zh z.E Za ld rfl (kr0 rfl)) (qsP (fun z=>Zh z.E Za ld rfl (kr0 rfl)) (qsP (fun z=>ZA z.E Za ld rfl rfl Tryz.underlying24 ZN (z.M.rd hv0_1) hi48.1 (kr0 rfl)) (qsP (fun z=>Zv z.E Za ld rfl (Yj) (kr0 rfl)) (qsP (fun z=>ZE (v:=u52) z.E Za ld rfl YS rfl (At.cat (pre:=[[vB x46.Place]]) (z.M.atk hA51 (Yr hv0_1 hi48.2)) ck) (kr0 rfl)) (qsP (fun z=>XN z.E Za ld rfl Tryz.underlying22 (z.M.rd h53) (kr0 rfl)) (qsP (fun z=>Zh z.E Za ld rfl (kr0 rfl)) (qsP (fun z=>ZA z.E Za ld rfl rfl Tryz.underlying24 ZN (z.M.rd hv0_1) hi56.1 (kr0 rfl)) (qsP (fun z=>Zv z.E Za ld rfl (Yj) (kr0 rfl)) (qsP (fun z=>ZE (v:=u60) z.E Za ld rfl YS rfl (At.cat (pre:=[[vB x54.Place]]) (z.M.atk hA59 (Yr hv0_1 hi56.2)) ck) (kr0 rfl)) (qsP (fun z=>XN z.E Za ld rfl Tryz.underlying22 (z.M.rd h61) (kr0 rfl)) (qsP (fun z=>ZJ z.E Za ld rfl rfl rfl (kr0 rfl)) qs0)))))))))))) ?_
        ·intro a w u hE hM
         refine Zj ?_
         obtain rfl:=Option.some.inj hl43
         refine Zi ?_
         exact ⟨hE.sub ⟨rfl,rfl,rfl,trivial⟩,hM⟩
       ·skip
        rintro a w ⟨hE,hM⟩
        refine Zm hE rfl ?_ ?_
        ·intro hb63
         have hF44:=Zn hF44 hb63
         refine Zc (Zb hE rfl fun a hE=>Ze ?_)
         obtain rfl:=hx39 _ (ois hF44)
         obtain rfl:=Option.some.inj hF35
         exact wp_ret (Z4 (Zr (Zr (Z4 (Zr (Zr (kr1 hE rfl rfl hM.kept)))))))
        ·intro hb63
         have hF44:=Zo hF44 hb63
         refine wp_skip (Yg (Zu (wp_region_lit (Zd hE rfl fun a hE=>Zk hE rfl rfl rfl fun a hE=>Zb hE rfl fun a hE=>Zj (Zi ?_)))))
         exact ⟨_,(ois hF44),hE.sub ⟨rfl,rfl,trivial⟩,hM⟩
      ·intro hb41
       have hs38:=Zo hs38 hb41
       refine wp_exit (Zs (Zs (Ys ?_)))
       obtain rfl:=hx39 _ (ois hs38)
       refine Zi ?_
       exact ⟨(),rfl,hE.sub trivial,hM⟩
     ·skip
      rintro a w ⟨s36,ht,hE,hM⟩
      subst ht
      have hF35:=VQ hF35
      refine Zu (Zc (Zb hE rfl fun a hE=>Ze ?_))
      obtain rfl:=Option.some.inj hF35
      exact wp_ret (kr1 hE rfl rfl hM.kept)
def W8 (p0 : Int) (p1 : (List GShare)) (p2 : Int) : Option (Int) :=
 (XW p0).bind fun r1=>if (!r1) = true then (some 1) else ((Vh p1).bind fun r4=>((if (r4 == 0) = true then ((WQ p2 1 8).bind fun r13=>some (!r13)) else (some false) : Option (Bool)).bind fun j9=>if j9 = true then (some 2) else (some r4) : Option (Int)).bind fun j6=>some j6)
theorem QM (w0 : World) (p0 : Int) (p1 : (List GShare)) (v1_1 : Value) (hv1_1 : Ro w0 p1 [v1_1]) (p2 : Int) (r : Int) (hF : W8 p0 p1 p2 = some r) :
  Calls Tryz.prog 46 [vI p0,v1_1,vI p2].toArray w0 (Rt w0 (vI r)):=by
 refine ce Tryz.func46 ?_
 intro a hE
 have hM:=M.start w0
 unfold W8 at hF
 refine Zc (Zb hE rfl fun a hE=>Ze (wp_seq (Zc (Zd hE rfl ?_)))); intro a hE
 obtain ⟨r1,e2,hF⟩:=bind_some hF
 refine Zq hE rfl cb57 (TD _ p0 r1 e2) ?_
 rintro v w a ⟨rfl,hK⟩ hE
 have hM:=hM.keep hK
 refine Ve hE rfl fun a hE=>Ze ?_
 refine Zm hE rfl ?_ ?_
 ·intro hb3
  have hF:=Zn hF hb3
  refine Zc (Zb hE rfl fun a hE=>Ze ?_)
  obtain rfl:=Option.some.inj hF
  exact wp_ret (Zr (kr1 hE rfl rfl hM.kept))
 ·intro hb3
  have hF:=Zo hF hb3
  refine wp_skip (Zu (Zc (Zd hE rfl ?_))); intro a hE
  obtain ⟨r4,e5,hF⟩:=bind_some hF
  refine Zq hE rfl cb88 (QI _ p1 v1_1 (hM.rdo hv1_1) r4 e5) ?_
  rintro v w a ⟨rfl,hK⟩ hE
  have hM:=hM.keep hK
  refine Zb hE rfl fun a hE=>Ze ?_
  obtain ⟨j6,hl7,hF8⟩:=bind_some hF
  refine Zx (fun a w=>Env 21 a [(7,vI j6)] ∧ M (Old w0) w0 w []) ?_ ?_
  ·skip
   obtain ⟨j9,hl10,hF11⟩:=bind_some hl7
   refine Zx (fun a w=>Env 21 a [(7,vI r4),(19,vT j9)] ∧ M (Old w0) w0 w []) ?_ ?_
   ·skip
    refine wp_region_lit (Zd hE rfl fun a hE=>Zk hE rfl rfl rfl fun a hE=>Zd hE rfl ?_); intro a hE
    refine ZO (r4 == 0) (fun hb12=>?_) (fun hb12=>?_)
    ·have hl10:=Zn hl10 hb12
     refine Zh hE (Zf hE rfl (lkb rfl hb12)) (by decide) rfl ?_; intro a hE
     obtain ⟨r13,e14,hl10⟩:=bind_some hl10
     refine ZW hE (Zf hE rfl (lkb rfl hb12)) (by decide) rfl cb78 (KL _ p2 1 8 r13 e14) ?_
     rintro v w a ⟨rfl,hK⟩ hE
     have hM:=hM.keep hK
     refine U5 hE (Zf hE rfl (lkb rfl hb12)) (by decide) rfl fun a hE=>ZB hE (lkb rfl hb12) rfl fun a hE=>Zj ?_
     obtain rfl:=Option.some.inj hl10
     refine Zi ?_
     exact ⟨hE.sub ⟨rfl,rfl,trivial⟩,hM⟩
    ·have hl10:=Zo hl10 hb12
     refine Zg hE rfl (lkb rfl hb12) rfl (by decide) fun a hE=>Zg hE rfl (lkb rfl hb12) rfl (by decide) fun a hE=>Zg hE rfl (lkb rfl hb12) rfl (by decide) fun a hE=>Zy hE (lkb rfl hb12) rfl fun a hE=>Zj ?_
     obtain rfl:=Option.some.inj hl10
     refine Zi ?_
     exact ⟨hE.sub ⟨rfl,rfl,trivial⟩,hM⟩
   ·skip
    rintro a w ⟨hE,hM⟩
    refine Zm hE rfl ?_ ?_
    ·intro hb17
     have hF11:=Zn hF11 hb17
     refine wp_region_lit (Zb hE rfl fun a hE=>Zj ?_)
     obtain rfl:=Option.some.inj hF11
     refine Zi ?_
     exact ⟨hE.sub ⟨rfl,trivial⟩,hM⟩
    ·intro hb17
     have hF11:=Zo hF11 hb17
     refine wp_skip ?_
     obtain rfl:=Option.some.inj hF11
     refine Zi ?_
     exact ⟨hE.sub ⟨rfl,trivial⟩,hM⟩
  ·skip
   rintro a w ⟨hE,hM⟩
   refine Zc (Zd hE rfl fun a hE=>Zb hE rfl fun a hE=>Ze ?_)
   obtain rfl:=Option.some.inj hF8
   exact wp_ret (kr1 hE rfl rfl hM.kept)
def XX (s4 : Int × Int) : Option (Fl (Int × Int) Int) :=
 if (decide (s4.1 > 0)) = true then (some (Fl.nx (wr (Int.tdiv s4.1 2),wr (s4.2 + (Int.tmod s4.1 2))))) else (some (Fl.ex s4.2))
def U0 (p0 : Int) : Option (Int) :=
 (ZH (XX) (p0,0)).bind fun j1=>some j1
theorem AC (w0 : World) (p0 : Int) (r : Int) (hF : U0 p0 = some r) :
  Calls Tryz.prog 100 [vI p0].toArray w0 (Rt w0 (vI r)):=by
 refine ce Tryz.func100 ?_
 intro a hE
 have hM:=M.start w0
 unfold U0 at hF
 refine Zc (Zb hE rfl fun a hE=>Ze (Zc (Zb hE rfl fun a hE=>Ze ?_)))
 obtain ⟨j1,hl2,hF3⟩:=bind_some hF
 refine Zx (fun a w=>Env 13 a [(3,vI j1)] ∧ M (Old w0) w0 w []) ?_ ?_
 ·skip
  refine wp_block ?_
  refine ZK (fun (s4 : Int × Int) a w=>Env 13 a [(0,vI s4.1),(3,vI s4.2)] ∧ M (Old w0) w0 w []) hl2 ⟨hE.sub ⟨rfl,rfl,trivial⟩,hM⟩ ?_
  rintro s4 a w ⟨hE,hM⟩ o7 hs5 hx6
  unfold XX at hs5
  refine wp_seq (Zc (Zd hE rfl fun a hE=>Zk hE rfl rfl rfl fun a hE=>Ze ?_))
  refine Zm hE rfl ?_ ?_
  ·intro hb8
   have hs5:=Zn hs5 hb8
   refine wp_skip (Zu (wp_seq (wp_block (wp_region_lit (Zd hE rfl fun a hE=>Zd hE rfl fun a hE=>Zk hE rfl rfl (Kj _ _ (by decide)) fun a hE=>Zk hE rfl rfl rfl fun a hE=>Zb hE rfl fun a hE=>Zj (Yg (Zu (wp_region_lit (Zd hE rfl fun a hE=>Zk hE rfl rfl (HB _ _ (by decide)) fun a hE=>Zb hE rfl fun a hE=>Zj (Zi ?_))))))))))
   exact ⟨_,(ois hs5),hE.sub ⟨rfl,rfl,trivial⟩,hM⟩
  ·intro hb8
   have hs5:=Zo hs5 hb8
   refine wp_exit (Zs (Zs (Ys ?_)))
   obtain rfl:=hx6 _ (ois hs5)
   refine Zi ?_
   exact ⟨hE.sub ⟨rfl,trivial⟩,hM⟩
 ·skip
  rintro a w ⟨hE,hM⟩
  refine Zc (Zd hE rfl fun a hE=>Zb hE rfl fun a hE=>Ze ?_)
  obtain rfl:=Option.some.inj hF3
  exact wp_ret (kr1 hE rfl rfl hM.kept)
def UU (p0 : Int) (p1 : Int) : Option (Bool) :=
 (if ((K4 p0 p1) != 0) = true then (some ((B8 p0 (B8 (K4 p0 p1) (wr (0 - (K4 p0 p1))))) != 0)) else (some false) : Option (Bool)).bind fun j1=>some j1
theorem zn (w0 : World) (p0 : Int) (p1 : Int) (r : Bool) (hF : UU p0 p1 = some r) :
  Calls Tryz.prog 101 [vI p0,vI p1].toArray w0 (Rt w0 (vT r)):=by
 refine ce Tryz.func101 ?_
 intro a hE
 have hM:=M.start w0
 unfold UU at hF
 refine Zc (Zb hE rfl fun a hE=>Ze (Zc (Zd hE rfl fun a hE=>Zd hE rfl fun a hE=>Zk hE rfl rfl rfl fun a hE=>Zb hE rfl fun a hE=>Ze ?_)))
 obtain ⟨j1,hl2,hF3⟩:=bind_some hF
 refine Zx (fun a w=>Env 20 a [(4,vT j1)] ∧ M (Old w0) w0 w []) ?_ ?_
 ·skip
  refine wp_region_lit (Zd hE rfl fun a hE=>Zk hE rfl rfl rfl fun a hE=>Zd hE rfl ?_); intro a hE
  refine ZO ((K4 p0 p1) != 0) (fun hb4=>?_) (fun hb4=>?_)
  ·have hl2:=Zn hl2 hb4
   refine Zh hE (Zf hE rfl (lkb rfl hb4)) (by decide) rfl fun a hE=>Zh hE (Zf hE rfl (lkb rfl hb4)) (by decide) rfl fun a hE=>Zh hE (Zf hE rfl (lkb rfl hb4)) (by decide) rfl fun a hE=>s_neg hE (Zf hE rfl (lkb rfl hb4)) (by decide) rfl fun a hE=>ZJ hE (Zf hE rfl (lkb rfl hb4)) (by decide) rfl rfl rfl fun a hE=>ZJ hE (Zf hE rfl (lkb rfl hb4)) (by decide) rfl rfl rfl fun a hE=>ZJ hE (Zf hE rfl (lkb rfl hb4)) (by decide) rfl rfl rfl fun a hE=>ZB hE (lkb rfl hb4) rfl fun a hE=>Zb hE rfl fun a hE=>Zj ?_
   obtain rfl:=Option.some.inj hl2
   refine Zi ?_
   exact ⟨hE.sub ⟨rfl,trivial⟩,hM⟩
  ·have hl2:=Zo hl2 hb4
   refine Zg hE rfl (lkb rfl hb4) rfl (by decide) fun a hE=>Zg hE rfl (lkb rfl hb4) rfl (by decide) fun a hE=>Zg hE rfl (lkb rfl hb4) rfl (by decide) fun a hE=>Zg hE rfl (lkb rfl hb4) rfl (by decide) fun a hE=>Zg hE rfl (lkb rfl hb4) rfl (by decide) fun a hE=>Zg hE rfl (lkb rfl hb4) rfl (by decide) fun a hE=>Zg hE rfl (lkb rfl hb4) rfl (by decide) fun a hE=>Zy hE (lkb rfl hb4) rfl fun a hE=>Zb hE rfl fun a hE=>Zj ?_
   obtain rfl:=Option.some.inj hl2
   refine Zi ?_
   exact ⟨hE.sub ⟨rfl,trivial⟩,hM⟩
 ·skip
  rintro a w ⟨hE,hM⟩
  obtain rfl:=Option.some.inj hF3
  exact wp_ret (kr1 hE rfl rfl hM.kept)
def Vo (p0 : (List GShare)) (p1 : Int) (s12 : (List GShare) × (List Int) × Int) : Option (Fl ((List GShare) × (List Int) × Int) ((List GShare) × (List Int))) :=
 if (decide (s12.2.2 < (p0.length : Int))) = true then (((YI (IntKind.u64.wrap s12.2.2)).bind fun _=>(if ((B8 (YD p1 (IntKind.u64.wrap s12.2.2)) 1) == 1) = true then ((idx p0 s12.2.2).bind fun x37=>(app 32 s12.1 ([x37] : List GShare)).bind fun l47=>some ((s12.1 ++ ([x37] : List GShare)),s12.2.1)) else ((app 8 s12.2.1 ([s12.2.2] : List Int)).bind fun l55=>some (s12.1,(s12.2.1 ++ ([s12.2.2] : List Int)))) : Option ((List GShare) × (List Int))).bind fun j29=>some (j29.1,j29.2) : Option ((List GShare) × (List Int))).bind fun j21=>some (Fl.nx (j21.1,j21.2,wr (s12.2.2 + 1)))) else (some (Fl.ex (s12.1,s12.2.1)))
def Ui (p0 : (List GShare)) (p1 : Int) : Option ((List GShare) × (List Int)) :=
 (ZH (Vo p0 p1) (([] : List GShare),([] : List Int),0)).bind fun j5=>some (j5.1,j5.2)
theorem Jl (w0 : World) (p0 : (List GShare)) (v0_1 : Value) (hv0_1 : Ro w0 p0 [v0_1]) (p1 : Int) (r : (List GShare) × (List Int)) (hF : Ui p0 p1 = some r) :
  Calls Tryz.prog 102 [v0_1,vI p1].toArray w0 (fun en w'=>∃ v,en = .returned v ∧ (∃ (y1 : Value) (y2 : Value),v = (Value.tuple [y1,y2].toArray) ∧ Fr w0 w' [osl NoB (r.2 : List Int) y2] ∧ Ro w' (r.1 : (List GShare)) [y1] ∧ Kept (Old w0) w0 w')):=by
 refine ce Tryz.func102 ?_
 intro a hE
 have hM:=M.start w0
 unfold Ui at hF
 refine Zc (Zb hE rfl fun a hE=>Zb hE rfl fun a hE=>Ze (Zc (TE (xs:=[]) (S:=NoB) (l:=([] : List GShare)) (vs:=[]) hE hM.emp noB Za ld rfl rfl rfl Tryz.underlying24 ZN rfl (by decide) (fun _ h=>⟨rfl,h⟩) (fun _ h=>by cases h) fun u1 w a hM hE=>ZD (xs:=[]) (l:=([] : List Int)) (vs:=[]) hE hM Za ld rfl rfl Tryz.underlying27 ty2 rfl (by decide) rfl fun u3 w a hM hE=>Zb hE rfl fun a hE=>Zb hE rfl fun a hE=>Ze (wp_seq (Zc (Zb hE rfl fun a hE=>Ze ?_))))))
 obtain ⟨j5,hl6,hF7⟩:=bind_some hF
 refine ZP (fun a w=>∃ (u8 : Value) (u10 : Value),Env 36 a [(6,u8),(7,u10)] ∧ M (Old w0) w0 w [osl (Old w0) (j5.1 : List GShare) u8,osl NoB (j5.2 : List Int) u10]) ?_ ?_
 ·skip
  refine wp_block ?_
  have hM:=hM.pull1
  have hM:=hM.oslWk (S':=Old w0) noB (fun _ h=>h)
  refine ZK (fun (s12 : (List GShare) × (List Int) × Int) a w=>∃ (u13 : Value) (u15 : Value),Env 36 a [(0,v0_1),(1,vI p1),(6,u13),(7,u15),(8,vI s12.2.2)] ∧ M (Old w0) w0 w [osl (Old w0) (s12.1 : List GShare) u13,osl NoB (s12.2.1 : List Int) u15]) hl6 ⟨u1,u3,hE.sub ⟨rfl,rfl,rfl,rfl,rfl,trivial⟩,hM⟩ ?_
  rintro s12 a w ⟨u13,u15,hE,hM⟩ o19 hs17 hx18
  unfold Vo at hs17
  refine wp_seq (Zc (Zd hE rfl fun a hE=>Zd hE rfl fun a hE=>ZL hE rfl Tryz.underlying24 (hM.rd hv0_1) fun a hE=>Zk hE rfl rfl rfl fun a hE=>Ze ?_))
  refine Zm hE rfl ?_ ?_
  ·intro hb20
   have hs17:=Zn hs17 hb20
   refine wp_skip (Zu ?_)
   obtain ⟨j21,hl22,hF23⟩:=bind_some hs17
   refine Zx (fun a w=>∃ (u24 : Value) (u26 : Value),Env 36 a [(0,v0_1),(1,vI p1),(6,u24),(7,u26),(8,vI s12.2.2)] ∧ M (Old w0) w0 w [osl (Old w0) (j21.1 : List GShare) u24,osl NoB (j21.2 : List Int) u26]) ?_ ?_
   ·skip
    refine wp_block (Zc (Zd hE rfl fun a hE=>Zd hE rfl fun a hE=>Qm hE Za ld rfl Tryz.underlying3 Tryz.underlying75 ?_)); intro a hE
    obtain ⟨_,e28,hl22⟩:=bind_some hl22
    have e28:=WA e28
    refine Ke hE Za ld rfl rfl (km _ _ e28) fun a hE=>Zk hE rfl rfl rfl fun a hE=>Zk hE rfl rfl rfl fun a hE=>Ze ?_
    obtain ⟨j29,hl30,hF31⟩:=bind_some hl22
    refine ZP (fun a w=>∃ (u32 : Value) (u34 : Value),Env 36 a [(0,v0_1),(1,vI p1),(6,u32),(7,u34),(8,vI s12.2.2)] ∧ M (Old w0) w0 w [osl (Old w0) (j29.1 : List GShare) u32,osl NoB (j29.2 : List Int) u34]) ?_ ?_
    ·skip
     refine Zm hE rfl ?_ ?_
     ·intro hb36
      have hl30:=Zn hl30 hb36
      refine wp_region_lit (Zd hE rfl fun a hE=>Zd hE rfl fun a hE=>Zd hE rfl ?_); intro a hE
      obtain ⟨x37,hi39,hl30⟩:=bix hl30
      refine ZG hE rfl rfl Tryz.underlying24 ZN (hM.rd hv0_1) hi39.1 ?_; intro a hE
      obtain ⟨cs40,hs41,hA42⟩:=Z3 hv0_1 hi39.2 -- ^
      obtain ⟨u43,rfl,h44⟩:=ZQ hs41 -- ^
      refine WR hE rfl ZN rfl (hM.atk hA42 (Yr hv0_1 hi39.2)) cq ?_; intro a hE
      have hM:=hM.addRo (S:=(Old w0)) (x:=x37) (cs:=cat [[vB x37.Place],[u43]]) (fun _ h=>h) (W2 (hM.rd h44) (by simp))
      refine V0 (xs:=[.tmp 27]) (seg:=cat [[vB x37.Place],[u43]]) hE hM (fun _ h=>h) Za ld rfl rfl Tryz.underlying24 ZN rfl (by decide) ?_; intro u45 w a hM hE
      obtain ⟨l47,e48,hl30⟩:=bind_some hl30
      obtain ⟨e51,rfl⟩:=ZY e48
      have hM:=hM.pull1
      refine UM hE hM (fun _ h=>h) Za ld rfl rfl Tryz.underlying24 ZN rfl (by decide) e51 fun u49 w a hM hE=>Zb hE rfl fun a hE=>Zj ?_
      obtain rfl:=Option.some.inj hl30
      refine Zi ?_
      exact ⟨u49,u15,hE.sub ⟨rfl,rfl,rfl,rfl,rfl,trivial⟩,hM⟩
     ·intro hb36
      have hl30:=Zo hl30 hb36
      refine wp_region_lit (Zd hE rfl fun a hE=>Zd hE rfl fun a hE=>ZD (xs:=[.tmp 31]) (l:=([s12.2.2] : List Int)) (vs:=[vI s12.2.2]) hE hM Za ld rfl rfl Tryz.underlying27 ty2 rfl (by decide) rfl ?_); intro u53 w a hM hE
      obtain ⟨l55,e56,hl30⟩:=bind_some hl30
      obtain ⟨e59,rfl⟩:=ZY e56
      have hM:=hM.pull2
      refine Z9 hE hM Za ld rfl rfl (hM.sl (pre:=[_]) noB) Tryz.underlying27 ty2 rfl (by decide) e59 fun u57 w a hM hE=>Zb hE rfl fun a hE=>Zj ?_
      obtain rfl:=Option.some.inj hl30
      refine Zi ?_
      have hM:=M.fst (l:=[_,_]) hM.pull2
      exact ⟨u13,u57,hE.sub ⟨rfl,rfl,rfl,rfl,rfl,trivial⟩,hM⟩
    ·skip
     rintro a w ⟨u32,u34,hE,hM⟩
     refine Yg ?_
     obtain rfl:=Option.some.inj hF31
     refine Zi ?_
     exact ⟨u32,u34,hE.sub ⟨rfl,rfl,rfl,rfl,rfl,trivial⟩,hM⟩
   ·skip
    rintro a w ⟨u24,u26,hE,hM⟩
    refine wp_region_lit (Zd hE rfl fun a hE=>Zk hE rfl rfl rfl fun a hE=>Zb hE rfl fun a hE=>Zj (Zi ?_))
    exact ⟨_,(ois hF23),u24,u26,hE.sub ⟨rfl,rfl,rfl,rfl,rfl,trivial⟩,hM⟩
  ·intro hb20
   have hs17:=Zo hs17 hb20
   refine wp_exit (Zs (Zs (Ys ?_)))
   obtain rfl:=hx18 _ (ois hs17)
   refine Zi ?_
   exact ⟨u13,u15,hE.sub ⟨rfl,rfl,trivial⟩,hM⟩
 ·skip
  rintro a w ⟨u8,u10,hE,hM⟩
  refine Zu (Zc (Zd hE rfl fun a hE=>Zd hE rfl fun a hE=>Zb hE rfl fun a hE=>Zb hE rfl fun a hE=>Ze ?_))
  obtain rfl:=Option.some.inj hF7
  have hro63 : Ro w (j5.1 : (List GShare)) [u8]:=(hM.sl (pre:=[]) (fun _ h=>h))
  have hM:=M.fst (l:=[_]) hM.pull1
  exact wp_ret (Z0 hE rfl (Zl hE rfl) (Zl hE rfl) ⟨_,rfl,u8,u10,rfl,hM.outF (Z8 Yd),hro63,hM.kept⟩)
def Xq (p0 : (List GShare)) (s8 : (List UInt8) × Int) : Option (Fl ((List UInt8) × Int) (List UInt8)) :=
 if (decide (s8.2 < (p0.length : Int))) = true then ((idx p0 s8.2).bind fun x15=>(app 1 s8.1 ([x15.Place] : List UInt8)).bind fun l25=>some (Fl.nx ((s8.1 ++ ([x15.Place] : List UInt8)),wr (s8.2 + 1)))) else (some (Fl.ex s8.1))
def YT (p0 : (List GShare)) : Option ((List UInt8)) :=
 (ZH (Xq p0) (([] : List UInt8),0)).bind fun j3=>some j3
end

end Go.Proofs.YtfhhlkkhcoaapaaGreatDoor
