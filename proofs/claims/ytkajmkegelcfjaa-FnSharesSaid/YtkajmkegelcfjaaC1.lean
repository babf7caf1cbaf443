/- The walk of what the law reaches: contracts of functions. -/
import Derived.Test.YtkajmkegelcfjaaK2
import Derived.Test.YtkajmkegelcfjaaProg
set_option linter.unusedVariables false
set_option linter.unusedSimpArgs false
set_option maxRecDepth 20000
set_option maxHeartbeats 400000
namespace Go.Proofs.Ytkajmkegelcfjaa
open Go
open Flat (enc)
noncomputable section
structure Gl01Source where
 code : (List UInt8)
 at0 : Int
 hash : Int
 deriving DecidableEq,Inhabited
instance : Dat Gl01Source:=⟨fun x=>Dat.bd (α:=(List UInt8) × Int × Int) (x.code,x.at0,x.hash),fun x=>Dat.sz (α:=(List UInt8) × Int × Int) (x.code,x.at0,x.hash) + 1⟩
instance : Rep Gl01Source:=repIso (α:=(List UInt8) × Int × Int) (fun x=>(x.code,x.at0,x.hash))
theorem JB {S : Nat → Prop} {w : World} {x : Gl01Source} {cs : List Value} {fp : List Nat} (h : Rep.sat S w x cs fp) : ∃ (u1 : Value),∃ (g1 : List Nat),cs = cat [[u1],enc x.at0,enc x.hash] ∧ fp = g1 ∧ Rep.sat S w x.code [u1] g1:=by
 obtain ⟨c0,d0,f0,q0,rfl,rfl,h0,hr0⟩:=h
 obtain ⟨u1,rfl⟩:=Uo h0
 obtain ⟨c1,d1,f1,q1,rfl,rfl,h1,hr1⟩:=hr0
 obtain ⟨rfl,rfl⟩:=h1
 obtain ⟨rfl,rfl⟩:=hr1
 exact ⟨u1,_,rfl,by simp,h0⟩
theorem JH {S : Nat → Prop} {w : World} {x : Gl01Source} {u1 : Value} {fp : List Nat} (h : Rep.sat S w x (cat [[u1],enc x.at0,enc x.hash]) fp) : ∃ (g1 : List Nat),fp = g1 ∧ Rep.sat S w x.code [u1] g1:=by
 obtain ⟨w1,g1,hc,hf,s1⟩:=JB h
 obtain ⟨e1,k1⟩:=QR hc rfl
 obtain ⟨e2,k2⟩:=QR k1 rfl
 obtain rfl:=(List.cons.inj e1).1
 exact ⟨g1,hf,s1⟩
theorem zH {S : Nat → Prop} {w : World} {x : Gl01Source} {cs : List Value} (h : Rep.sat S w x cs []) : ∃ u1,cs = cat [[u1],enc x.at0,enc x.hash] ∧ Rep.sat S w x.code [u1] []:=by
 obtain ⟨c0,d0,f0,g0,rfl,hf0,h0,hr0⟩:=h
 obtain ⟨rfl,rfl⟩:=List.append_eq_nil_iff.1 hf0.symm
 obtain ⟨u1,rfl⟩:=Uo h0
 obtain ⟨c1,d1,f1,g1,rfl,hf1,h1,hr1⟩:=hr0
 obtain ⟨rfl,rfl⟩:=List.append_eq_nil_iff.1 hf1.symm
 obtain ⟨rfl,_⟩:=h1
 obtain ⟨rfl,_⟩:=hr1
 exact ⟨u1,rfl,h0⟩
theorem J2 {S : Nat → Prop} {w : World} {x : Gl01Source} {u1 : Value} {g1 fp : List Nat} (h1 : Rep.sat S w x.code [u1] g1) (hfp : fp = g1) : Rep.sat S w x (cat [[u1],enc x.at0,enc x.hash]) fp:=by
 rw [hfp]
 refine ⟨_,_,g1,[],rfl,(by simp),h1,?_⟩
 refine ⟨_,_,[],[],rfl,(by simp),⟨rfl,rfl⟩,?_⟩
 exact ⟨rfl,rfl⟩
theorem zG {St : Nat → Prop} {w0 w : World} {its : List Item} {i1 : Item} {x : Gl01Source} {u1 : Value} (h : M St w0 w (i1 :: its)) (s1 : SatI i1 x.code u1) : M St w0 w (own NoB x (cat [[u1],enc x.at0,enc x.hash]) :: its):=h.packL (m:=[_]) (Vh noB) fun fp h=>by obtain ⟨_,_,rfl,_,k1,rfl⟩:=h; exact J2 (s1 _ _ k1) (by simp)
theorem zI {St : Nat → Prop} {w0 w : World} {its : List Item} {x : Gl01Source} {u1 : Value} (h : M St w0 w (own NoB x (cat [[u1],enc x.at0,enc x.hash]) :: its)) : M St w0 w (own NoB x.code [u1] :: its):=h.unpackL (m:=[own NoB x.code [u1]]) fun fp h=>by obtain ⟨_,rfl,s1⟩:=JH h; exact Xi.one (Vh noB) s1
structure GShare where
 Place : UInt8
 Data : (List UInt8)
 deriving DecidableEq,Inhabited
instance : Dat GShare:=⟨fun x=>Dat.bd (α:=UInt8 × (List UInt8)) (x.Place,x.Data),fun x=>Dat.sz (α:=UInt8 × (List UInt8)) (x.Place,x.Data) + 1⟩
instance : Rep GShare:=repIso (α:=UInt8 × (List UInt8)) (fun x=>(x.Place,x.Data))
theorem Ua {S : Nat → Prop} {w : World} {x : GShare} {cs : List Value} {fp : List Nat} (h : Rep.sat S w x cs fp) : ∃ (u1 : Value),∃ (g1 : List Nat),cs = cat [enc x.Place,[u1]] ∧ fp = g1 ∧ Rep.sat S w x.Data [u1] g1:=by
 obtain ⟨c0,d0,f0,q0,rfl,rfl,h0,hr0⟩:=h
 obtain ⟨rfl,rfl⟩:=h0
 obtain ⟨u1,rfl⟩:=Uo hr0
 exact ⟨u1,_,rfl,by simp,hr0⟩
theorem BR {S : Nat → Prop} {w : World} {x : GShare} {u1 : Value} {fp : List Nat} (h : Rep.sat S w x (cat [enc x.Place,[u1]]) fp) : ∃ (g1 : List Nat),fp = g1 ∧ Rep.sat S w x.Data [u1] g1:=by
 obtain ⟨w1,g1,hc,hf,s1⟩:=Ua h
 obtain ⟨e1,k1⟩:=QR hc rfl
 obtain rfl:=(List.cons.inj k1).1
 exact ⟨g1,hf,s1⟩
theorem ZW {S : Nat → Prop} {w : World} {x : GShare} {cs : List Value} (h : Rep.sat S w x cs []) : ∃ u1,cs = cat [enc x.Place,[u1]] ∧ Rep.sat S w x.Data [u1] []:=by
 obtain ⟨c0,d0,f0,g0,rfl,hf0,h0,hr0⟩:=h
 obtain ⟨rfl,rfl⟩:=List.append_eq_nil_iff.1 hf0.symm
 obtain ⟨rfl,_⟩:=h0
 obtain ⟨u1,rfl⟩:=Uo hr0
 exact ⟨u1,rfl,hr0⟩
theorem Tb {S : Nat → Prop} {w : World} {x : GShare} {u1 : Value} {g1 fp : List Nat} (h1 : Rep.sat S w x.Data [u1] g1) (hfp : fp = g1) : Rep.sat S w x (cat [enc x.Place,[u1]]) fp:=by
 rw [hfp]
 refine ⟨_,_,[],g1,rfl,(by simp),⟨rfl,rfl⟩,?_⟩
 exact h1
theorem Uz {St : Nat → Prop} {w0 w : World} {its : List Item} {i1 : Item} {x : GShare} {u1 : Value} (h : M St w0 w (i1 :: its)) (s1 : SatI i1 x.Data u1) : M St w0 w (own NoB x (cat [enc x.Place,[u1]]) :: its):=h.packL (m:=[_]) (Vh noB) fun fp h=>by obtain ⟨_,_,rfl,_,k1,rfl⟩:=h; exact Tb (s1 _ _ k1) (by simp)
theorem Te {St : Nat → Prop} {w0 w : World} {its : List Item} {x : GShare} {u1 : Value} (h : M St w0 w (own NoB x (cat [enc x.Place,[u1]]) :: its)) : M St w0 w (own NoB x.Data [u1] :: its):=h.unpackL (m:=[own NoB x.Data [u1]]) fun fp h=>by obtain ⟨_,rfl,s1⟩:=BR h; exact Xi.one (Vh noB) s1
theorem z7 (w : World) : Rep.sat NoB w (⟨(0 : UInt8),([] : (List UInt8))⟩ : GShare) (cat [(enc (0 : UInt8)),[.slice none 0 0]]) []:=Tb A1 rfl
structure Gdice where
 b : (List UInt8)
 i : Int
 h : Int
 deriving DecidableEq,Inhabited
instance : Dat Gdice:=⟨fun x=>Dat.bd (α:=(List UInt8) × Int × Int) (x.b,x.i,x.h),fun x=>Dat.sz (α:=(List UInt8) × Int × Int) (x.b,x.i,x.h) + 1⟩
instance : Rep Gdice:=repIso (α:=(List UInt8) × Int × Int) (fun x=>(x.b,x.i,x.h))
theorem AH {S : Nat → Prop} {w : World} {x : Gdice} {cs : List Value} {fp : List Nat} (h : Rep.sat S w x cs fp) : ∃ (u1 : Value),∃ (g1 : List Nat),cs = cat [[u1],enc x.i,enc x.h] ∧ fp = g1 ∧ Rep.sat S w x.b [u1] g1:=by
 obtain ⟨c0,d0,f0,q0,rfl,rfl,h0,hr0⟩:=h
 obtain ⟨u1,rfl⟩:=Uo h0
 obtain ⟨c1,d1,f1,q1,rfl,rfl,h1,hr1⟩:=hr0
 obtain ⟨rfl,rfl⟩:=h1
 obtain ⟨rfl,rfl⟩:=hr1
 exact ⟨u1,_,rfl,by simp,h0⟩
theorem AT {S : Nat → Prop} {w : World} {x : Gdice} {u1 : Value} {fp : List Nat} (h : Rep.sat S w x (cat [[u1],enc x.i,enc x.h]) fp) : ∃ (g1 : List Nat),fp = g1 ∧ Rep.sat S w x.b [u1] g1:=by
 obtain ⟨w1,g1,hc,hf,s1⟩:=AH h
 obtain ⟨e1,k1⟩:=QR hc rfl
 obtain ⟨e2,k2⟩:=QR k1 rfl
 obtain rfl:=(List.cons.inj e1).1
 exact ⟨g1,hf,s1⟩
theorem un_Gdice {S : Nat → Prop} {w : World} {x : Gdice} {cs : List Value} (h : Rep.sat S w x cs []) : ∃ u1,cs = cat [[u1],enc x.i,enc x.h] ∧ Rep.sat S w x.b [u1] []:=by
 obtain ⟨c0,d0,f0,g0,rfl,hf0,h0,hr0⟩:=h
 obtain ⟨rfl,rfl⟩:=List.append_eq_nil_iff.1 hf0.symm
 obtain ⟨u1,rfl⟩:=Uo h0
 obtain ⟨c1,d1,f1,g1,rfl,hf1,h1,hr1⟩:=hr0
 obtain ⟨rfl,rfl⟩:=List.append_eq_nil_iff.1 hf1.symm
 obtain ⟨rfl,_⟩:=h1
 obtain ⟨rfl,_⟩:=hr1
 exact ⟨u1,rfl,h0⟩
theorem A0 {S : Nat → Prop} {w : World} {x : Gdice} {u1 : Value} {g1 fp : List Nat} (h1 : Rep.sat S w x.b [u1] g1) (hfp : fp = g1) : Rep.sat S w x (cat [[u1],enc x.i,enc x.h]) fp:=by
 rw [hfp]
 refine ⟨_,_,g1,[],rfl,(by simp),h1,?_⟩
 refine ⟨_,_,[],[],rfl,(by simp),⟨rfl,rfl⟩,?_⟩
 exact ⟨rfl,rfl⟩
theorem pm_Gdice {St : Nat → Prop} {w0 w : World} {its : List Item} {i1 : Item} {x : Gdice} {u1 : Value} (h : M St w0 w (i1 :: its)) (s1 : SatI i1 x.b u1) : M St w0 w (own NoB x (cat [[u1],enc x.i,enc x.h]) :: its):=h.packL (m:=[_]) (Vh noB) fun fp h=>by obtain ⟨_,_,rfl,_,k1,rfl⟩:=h; exact A0 (s1 _ _ k1) (by simp)
theorem um_Gdice {St : Nat → Prop} {w0 w : World} {its : List Item} {x : Gdice} {u1 : Value} (h : M St w0 w (own NoB x (cat [[u1],enc x.i,enc x.h]) :: its)) : M St w0 w (own NoB x.b [u1] :: its):=h.unpackL (m:=[own NoB x.b [u1]]) fun fp h=>by obtain ⟨_,rfl,s1⟩:=AT h; exact Xi.one (Vh noB) s1
theorem ty2 : Ty Try.prog 2 (.int .i64) 1 8 (enc (0 : Int)):=⟨Try.underlying2,by kernel_rfl⟩
theorem ty3 : Ty Try.prog 3 (.int .i64) 1 8 (enc (0 : Int)):=⟨Try.underlying3,by kernel_rfl⟩
theorem ty5 : Ty Try.prog 5 (.int .u8) 1 1 (enc (0 : UInt8)):=⟨Try.underlying5,by kernel_rfl⟩
theorem YS : Ty Try.prog 22 (.slice 5) 1 24 [.slice none 0 0]:=⟨Try.underlying22,by kernel_rfl⟩
theorem ty27 : Ty Try.prog 27 (.slice 38) 1 24 [.slice none 0 0]:=⟨Try.underlying27,by kernel_rfl⟩
theorem ZU : Ty Try.prog 38 (.struct [{ name := "Place", type := 5, offset := 0, embedded := false, tag := "", pkgPath := "", byteOffset := 0 }, { name := "Data", type := 22, offset := 1, embedded := false, tag := "", pkgPath := "", byteOffset := 8 }].toArray) 2 32 (cat [(enc (0 : UInt8)), [.slice none 0 0]]) := ⟨Try.underlying38, by kernel_rfl⟩
theorem KZ : Ty Try.prog 45 (.int .u64) 1 8 [.int .u64 0]:=⟨Try.underlying45,by kernel_rfl⟩
theorem Ai : Ty Try.prog 122 (.struct [{ name := "b", type := 22, offset := 0, embedded := false, tag := "", pkgPath := "loop.example/g01182/laws", byteOffset := 0 }, { name := "i", type := 3, offset := 1, embedded := false, tag := "", pkgPath := "loop.example/g01182/laws", byteOffset := 24 }, { name := "h", type := 45, offset := 2, embedded := false, tag := "", pkgPath := "loop.example/g01182/laws", byteOffset := 32 }].toArray) 3 40 (cat [[.slice none 0 0], (enc (0 : Int)), [.int .u64 0]]) := ⟨Try.underlying122, by kernel_rfl⟩
theorem Az : Ty Try.prog 169 (.struct [{ name := "code", type := 22, offset := 0, embedded := false, tag := "", pkgPath := "loop.example/g01182/spec", byteOffset := 0 }, { name := "at", type := 3, offset := 1, embedded := false, tag := "", pkgPath := "loop.example/g01182/spec", byteOffset := 24 }, { name := "hash", type := 45, offset := 2, embedded := false, tag := "", pkgPath := "loop.example/g01182/spec", byteOffset := 32 }].toArray) 3 40 (cat [[.slice none 0 0], (enc (0 : Int)), [.int .u64 0]]) := ⟨Try.underlying169, by kernel_rfl⟩
theorem Wn : Fd Try.prog 38 0 0:=KH ZU.und rfl rfl ty5 (by decide)
theorem YL : Fd Try.prog 38 1 1:=KH ZU.und rfl rfl YS (by decide)
theorem Ar : Fd Try.prog 122 0 0:=KH Ai.und rfl rfl YS (by decide)
theorem K8 : Fd Try.prog 122 1 1:=KH Ai.und rfl rfl ty3 (by decide)
theorem Q5 : Fd Try.prog 122 2 2:=KH Ai.und rfl rfl KZ (by decide)
theorem B9 : Fd Try.prog 169 0 0:=KH Az.und rfl rfl YS (by decide)
theorem Jd : Fd Try.prog 169 1 1:=KH Az.und rfl rfl ty3 (by decide)
theorem Q6 : Fd Try.prog 169 2 2:=KH Az.und rfl rfl KZ (by decide)
theorem HO : Places Try.prog [{ name := "Place", type := 5, offset := 0, embedded := false, tag := "", pkgPath := "", byteOffset := 0 }, { name := "Data", type := 22, offset := 1, embedded := false, tag := "", pkgPath := "", byteOffset := 8 }] [(0, 1), (1, 1)] := by show _ = _; kernel_rfl
theorem pl122 : Places Try.prog [{ name := "b", type := 22, offset := 0, embedded := false, tag := "", pkgPath := "loop.example/g01182/laws", byteOffset := 0 }, { name := "i", type := 3, offset := 1, embedded := false, tag := "", pkgPath := "loop.example/g01182/laws", byteOffset := 24 }, { name := "h", type := 45, offset := 2, embedded := false, tag := "", pkgPath := "loop.example/g01182/laws", byteOffset := 32 }] [(0, 1), (1, 1), (2, 1)] := by show _ = _; kernel_rfl
theorem pl169 : Places Try.prog [{ name := "code", type := 22, offset := 0, embedded := false, tag := "", pkgPath := "loop.example/g01182/spec", byteOffset := 0 }, { name := "at", type := 3, offset := 1, embedded := false, tag := "", pkgPath := "loop.example/g01182/spec", byteOffset := 24 }, { name := "hash", type := 45, offset := 2, embedded := false, tag := "", pkgPath := "loop.example/g01182/spec", byteOffset := 32 }] [(0, 1), (1, 1), (2, 1)] := by show _ = _; kernel_rfl
theorem VC : Try.prog.follows .mixedOrders = true:=by kernel_rfl
theorem cb11 : Callable Try.prog 11:=cbm Try.func11
theorem cb12 : Callable Try.prog 12:=cbm Try.func12
theorem cb47 : Callable Try.prog 47:=cbm Try.func47
theorem Kk : Callable Try.prog 49:=cbm Try.func49
theorem UW : Callable Try.prog 50:=cbm Try.func50
theorem cb54 : Callable Try.prog 54:=cbm Try.func54
theorem cb56 : Callable Try.prog 56:=cbm Try.func56
theorem cb60 : Callable Try.prog 60:=cbm Try.func60
theorem cb64 : Callable Try.prog 64:=cbm Try.func64
theorem cb66 : Callable Try.prog 66:=cbm Try.func66
theorem cb67 : Callable Try.prog 67:=cbm Try.func67
theorem cb70 : Callable Try.prog 70:=cbm Try.func70
theorem BF : Callable Try.prog 71:=cbm Try.func71
theorem cb75 : Callable Try.prog 75:=cbm Try.func75
theorem cb77 : Callable Try.prog 77:=cbm Try.func77
theorem cb83 : Callable Try.prog 83:=cbm Try.func83
theorem cb84 : Callable Try.prog 84:=cbm Try.func84
theorem H3 : Callable Try.prog 132:=cbm Try.func132
theorem zc : Callable Try.prog 177:=cbm Try.func177
theorem JG : Callable Try.prog 178:=cbm Try.func178
def Qz (p0 : (List UInt8)) : Option (Bool) :=
 some (decide ((p0.length : Int) > 4096))
theorem BI (w0 : World) (p0 : (List UInt8)) (v0_1 : Value) (hv0_1 : Ro w0 p0 [v0_1]) (r : Bool) (hF : Qz p0 = some r) :
  Calls Try.prog 6 [v0_1].toArray w0 (Rt w0 (vT r)):=by
 refine ce Try.func6 ?_
 intro a hE
 have hM:=M.start w0
 unfold Qz at hF
 refine Zc (Zb hE rfl fun a hE=>Ze (Zc (Zd hE rfl fun a hE=>ZQ hE rfl Try.underlying22 (hM.rd hv0_1) fun a hE=>Zk hE rfl rfl rfl fun a hE=>Zb hE rfl fun a hE=>Ze ?_)))
 obtain rfl:=Option.some.inj hF
 exact wp_ret (kr1 hE rfl rfl hM.kept)
def VK (p0 : (List UInt8)) (s6 : Int × Int) : Option (Fl (Int × Int) Int) :=
 (if (decide (s6.2 < (p0.length : Int))) = true then (some (decide (s6.2 < 4096))) else (some false) : Option (Bool)).bind fun j10=>if j10 = true then ((idx p0 s6.2).bind fun x18=>some (Fl.nx (IntKind.u64.wrap ((IntKind.u64.wrap ((IntKind.u64.wrap (s6.1 * 1099511628211)) + (bI x18))) + 11),wr (s6.2 + 1)))) else (some (Fl.ex s6.1))
def XR (p0 : (List UInt8)) : Option ((Int × Int)) :=
 (ZJ (VK p0) (IntKind.u64.wrap (9001 + (IntKind.u64.wrap (p0.length : Int))),0)).bind fun j3=>some (0,j3)
theorem UJ (St : Nat → Prop) (W w0 : World) (R : Item) (p0 : (List UInt8)) (v0_1 : Value) (hv0_1 : Rep.sat St W p0 [v0_1] []) (hM : M St W w0 [R]) (r : (Int × Int)) (hF : XR p0 = some r) :
  Calls Try.prog 47 [v0_1].toArray w0 (fun en w'=>∃ v,en = .returned v ∧ (∃ (b : Nat),v = ptr b 0 ∧ M St W w' [raw b (cat [[v0_1],[vI r.1],[(Value.int .u64 r.2)]]),R])):=by
 refine ce Try.func47 ?_
 intro a hE
 unfold XR at hF
 refine Zc (Zb hE rfl fun a hE=>Ze (Zc (Zd hE rfl fun a hE=>Zd hE rfl fun a hE=>ZQ hE rfl Try.underlying22 (hM.rd hv0_1) fun a hE=>TV hE Za ld rfl Try.underlying3 Try.underlying45 fun a hE=>Zk hE rfl rfl rfl fun a hE=>XS (parts:=[(0,.tmp 5),(2,.tmp 9)]) (vs:=[(0,v0_1),(2,(Value.int .u64 (IntKind.u64.wrap (9001 + (IntKind.u64.wrap (p0.length : Int))))))]) (cs:=cat [[v0_1],[vI 0],[(Value.int .u64 (IntKind.u64.wrap (9001 + (IntKind.u64.wrap (p0.length : Int)))))]]) hE Za ld rfl rfl Az pl169 (X9 (pre:=[]) (seg:=[(Value.slice none 0 0)]) (seg':=[v0_1]) (post:=[[vI 0],[(Value.int .u64 0)]]) rfl cl0 rfl rfl (WD (hM.rd hv0_1)) (X9 (pre:=[[v0_1],[vI 0]]) (seg:=[(Value.int .u64 0)]) (seg':=[(Value.int .u64 (IntKind.u64.wrap (9001 + (IntKind.u64.wrap (p0.length : Int)))))]) (post:=[]) rfl ck rfl rfl rfl Vq)) fun a hE=>Q3 (cs:=cat [[v0_1],[vI 0],[(Value.int .u64 (IntKind.u64.wrap (9001 + (IntKind.u64.wrap (p0.length : Int)))))]]) hE hM Za ld rfl rfl fun b1 w a hM hE=>Zb hE rfl fun a hE=>Ze (wp_seq (Zc (Zb hE rfl fun a hE=>Ze ?_))))))
 obtain ⟨j3,hl4,hF5⟩:=bind_some hF
 refine Z6 (fun a w=>Env 38 a [(3,(ptr b1 0))] ∧ M St W w [raw b1 (cat [[v0_1],[vI 0],[(Value.int .u64 j3)]]),R]) ?_ ?_
 ·skip
  refine wp_block ?_
  refine ZO (fun (s6 : Int × Int) a w=>Env 38 a [(0,v0_1),(3,(ptr b1 0)),(4,vI s6.2)] ∧ M St W w [raw b1 (cat [[v0_1],[vI 0],[(Value.int .u64 s6.1)]]),R]) hl4 ⟨hE.sub ⟨rfl,rfl,rfl,trivial⟩,hM⟩ ?_
  rintro s6 a w ⟨hE,hM⟩ o9 hs7 hx8
  unfold VK at hs7
  refine wp_seq ?_
  obtain ⟨j10,hl11,hF12⟩:=bind_some hs7
  refine ZB (fun a w=>Env 38 a [(0,v0_1),(3,(ptr b1 0)),(4,vI s6.2),(19,vT j10)] ∧ M St W w [raw b1 (cat [[v0_1],[vI 0],[(Value.int .u64 s6.1)]]),R]) ?_ ?_
  ·skip
   refine wp_region_lit (Zd hE rfl fun a hE=>Zd hE rfl fun a hE=>ZQ hE rfl Try.underlying22 (hM.rd hv0_1) fun a hE=>Zk hE rfl rfl rfl fun a hE=>Zd hE rfl ?_); intro a hE
   refine ZZ (decide (s6.2 < (p0.length : Int))) (fun hb13=>?_) (fun hb13=>?_)
   ·have hl11:=Zp hl11 hb13
    refine Zh hE (Zf hE rfl (lkb rfl hb13)) (by decide) rfl fun a hE=>Z2 hE (Zf hE rfl (lkb rfl hb13)) (by decide) rfl rfl rfl fun a hE=>ZC hE (lkb rfl hb13) rfl fun a hE=>Zi ?_
    obtain rfl:=Option.some.inj hl11
    refine Zj ?_
    exact ⟨hE.sub ⟨rfl,rfl,rfl,rfl,trivial⟩,hM⟩
   ·have hl11:=Zo hl11 hb13
    refine Zg hE rfl (lkb rfl hb13) rfl (by decide) fun a hE=>Zg hE rfl (lkb rfl hb13) rfl (by decide) fun a hE=>ZL hE (lkb rfl hb13) rfl fun a hE=>Zi ?_
    obtain rfl:=Option.some.inj hl11
    refine Zj ?_
    exact ⟨hE.sub ⟨rfl,rfl,rfl,rfl,trivial⟩,hM⟩
  ·skip
   rintro a w ⟨hE,hM⟩
   refine Zm hE rfl ?_ ?_
   ·intro hb16
    have hF12:=Zp hF12 hb16
    refine wp_skip (Zx (wp_seq (wp_block ?_)))
    obtain ⟨x18,hi20,hF12⟩:=bix hF12
    refine Y4 [22,23,24,25,26,27,28,29,30,31,32,33,34,35,36] VC rfl rfl (by decide) rfl hE hM (qsP (fun z=>Zh z.E Za ld rfl (kr0 rfl)) (qsP (fun z=>Zh z.E Za ld rfl (kr0 rfl)) (qsP (fun z=>Z0 z.E Za ld rfl (kr0 rfl)) (qsP (fun z=>Zv z.E Za ld rfl (Q6) (kr0 rfl)) (qsP (fun z=>ZK (v:=(Value.int .u64 s6.1)) z.E Za ld rfl KZ rfl (At.cat (pre:=[[v0_1],[vI 0]]) (z.M.rawAt0) ck) (kr0 rfl)) (qsP (v:=(Value.int .u64 (IntKind.u64.wrap (s6.1 * 1099511628211)))) (fun z=>Z2 z.E Za ld rfl rfl rfl (kr0 rfl)) (qsP (fun z=>Zh z.E Za ld rfl (kr0 rfl)) (qsP (fun z=>Zh z.E Za ld rfl (kr0 rfl)) (qsP (fun z=>ZG z.E Za ld rfl rfl Try.underlying22 ty5 (z.M.rd hv0_1) hi20.1 (kr0 rfl)) (qsP (fun z=>ZK (v:=(vB x18)) z.E Za ld rfl ty5 rfl (Z4 (z.M.rd hv0_1) hi20.2) (kr0 rfl)) (qsP (fun z=>AC z.E Za ld rfl Try.underlying5 Try.underlying45 (kr0 rfl)) (qsP (v:=(Value.int .u64 (IntKind.u64.wrap ((IntKind.u64.wrap (s6.1 * 1099511628211)) + (bI x18))))) (fun z=>Z2 z.E Za ld rfl rfl rfl (kr0 rfl)) (qsP (v:=(Value.int .u64 (IntKind.u64.wrap ((IntKind.u64.wrap ((IntKind.u64.wrap (s6.1 * 1099511628211)) + (bI x18))) + 11)))) (fun z=>Z2 z.E Za ld rfl rfl rfl (kr0 rfl)) (qsP (fun z=>Z0 z.E Za ld rfl (kr0 rfl)) (qsP (fun z=>Zv z.E Za ld rfl (Q6) (kr0 rfl)) qs0))))))))))))))) ?_
    ·intro a w u hE hM
     refine Y3 (seg:=[(Value.int .u64 (IntKind.u64.wrap ((IntKind.u64.wrap ((IntKind.u64.wrap (s6.1 * 1099511628211)) + (bI x18))) + 11)))]) hE hM Za rfl rfl rfl KZ rfl (VZ (pre:=[[v0_1],[vI 0]]) ck rfl) Jc (XW (pre:=[[v0_1],[vI 0]]) ck rfl) fun w a hM hE=>Zi (YK (Zx (wp_region_lit (Zd hE rfl fun a hE=>Zk hE rfl rfl rfl fun a hE=>Zb hE rfl fun a hE=>Zi (Zj ?_)))))
     exact ⟨_,(ois hF12),hE.sub ⟨rfl,rfl,rfl,trivial⟩,hM⟩
   ·intro hb16
    have hF12:=Zo hF12 hb16
    refine wp_exit (Zs (Zs (Y6 ?_)))
    obtain rfl:=hx8 _ (ois hF12)
    refine Zj ?_
    exact ⟨hE.sub ⟨rfl,trivial⟩,hM⟩
 ·skip
  rintro a w ⟨hE,hM⟩
  refine Zx (Zc (Zd hE rfl fun a hE=>Zb hE rfl fun a hE=>Ze ?_))
  obtain rfl:=Option.some.inj hF5
  exact wp_ret (Y7 hE rfl (Zq hE rfl) ⟨_,rfl,b1,rfl,hM⟩)
def Zz (p0_0 : (List UInt8)) (p0 : (Int × Int)) (p1 : Int) : Option ((Int × Int) × Int) :=
 if (decide (p1 < 1)) = true then (some ((p0.1,p0.2),0)) else (((some (decide (p0.1 < (p0_0.length : Int))) : Option (Bool)).bind fun j5=>if j5 = true then (((idx p0_0 p0.1).bind fun x15=>some (wr ((IntKind.i64.wrap (wru (BitVec.ofInt 64 (Ti (IntKind.u64.wrap ((IntKind.u64.wrap (p0.2 * 6364136223846793005)) + 1442695040888963407)) 33) &&& BitVec.ofInt 64 16777215).toNat)) + (bI x15))) : Option (Int)).bind fun j11=>some (wr (p0.1 + 1),j11)) else (some (p0.1,IntKind.i64.wrap (wru (BitVec.ofInt 64 (Ti (IntKind.u64.wrap ((IntKind.u64.wrap (p0.2 * 6364136223846793005)) + 1442695040888963407)) 33) &&& BitVec.ofInt 64 16777215).toNat))) : Option (Int × Int)).bind fun j2=>(UP p1).bind fun _=>some ((j2.1,IntKind.u64.wrap ((IntKind.u64.wrap (p0.2 * 6364136223846793005)) + 1442695040888963407)),Int.tmod j2.2 p1))
theorem ZI (St : Nat → Prop) (W w0 : World) (R : Item) (pb0 : Nat) (p0_0 : (List UInt8)) (v0_0 : Value) (hv0_0 : Rep.sat St W p0_0 [v0_0] []) (p0 : (Int × Int)) (p1 : Int) (hM : M St W w0 [raw pb0 (cat [[v0_0],[vI p0.1],[(Value.int .u64 p0.2)]]),R]) (r : (Int × Int) × Int) (hF : Zz p0_0 p0 p1 = some r) :
  Calls Try.prog 50 [(ptr pb0 0),vI p1].toArray w0 (fun en w'=>∃ v,en = .returned v ∧ (v = (vI r.2) ∧ M St W w' [raw pb0 (cat [[v0_0],[vI r.1.1],[(Value.int .u64 r.1.2)]]),R])):=by
 refine ce Try.func50 ?_
 intro a hE
 unfold Zz at hF
 refine Zc (Zb hE rfl fun a hE=>Ze (wp_seq (Zc (Zd hE rfl fun a hE=>Zk hE rfl rfl rfl fun a hE=>Ze ?_))))
 refine Zm hE rfl ?_ ?_
 ·intro hb1
  have hF:=Zp hF hb1
  refine Zc (Zb hE rfl fun a hE=>Ze ?_)
  obtain rfl:=Option.some.inj hF
  exact wp_ret (Zr (Y7 hE rfl (Zq hE rfl) ⟨_,rfl,rfl,hM⟩))
 ·intro hb1
  have hF:=Zo hF hb1
  refine wp_skip (Zx (Zc (Zd hE rfl fun a hE=>Zd hE rfl fun a hE=>Z0 hE Za ld rfl fun a hE=>ZA hE rfl (Q6) fun a hE=>ZM (v:=(Value.int .u64 p0.2)) hE rfl KZ rfl (At.cat (pre:=[[v0_0],[vI p0.1]]) hM.rawAt0 ck) fun a hE=>Zk hE rfl rfl rfl fun a hE=>Zk hE rfl rfl rfl fun a hE=>Z0 hE Za ld rfl fun a hE=>ZA hE rfl (Q6) fun a hE=>Y3 (seg:=[(Value.int .u64 (IntKind.u64.wrap ((IntKind.u64.wrap (p0.2 * 6364136223846793005)) + 1442695040888963407)))]) hE hM Za rfl rfl rfl KZ rfl (VZ (pre:=[[v0_0],[vI p0.1]]) ck rfl) Jc (XW (pre:=[[v0_0],[vI p0.1]]) ck rfl) fun w a hM hE=>Ze (Zc (Zd hE rfl fun a hE=>Z0 hE Za ld rfl ?_))))); intro a hE
  refine ZA hE rfl (Q6) fun a hE=>ZM (v:=(Value.int .u64 (IntKind.u64.wrap ((IntKind.u64.wrap (p0.2 * 6364136223846793005)) + 1442695040888963407)))) hE rfl KZ rfl (At.cat (pre:=[[v0_0],[vI p0.1]]) hM.rawAt0 ck) fun a hE=>HW hE Za ld rfl rfl (zg _ _ (by decide)) fun a hE=>Zk hE rfl rfl rfl fun a hE=>TV hE Za ld rfl Try.underlying45 Try.underlying2 fun a hE=>Zb hE rfl fun a hE=>Ze ?_
  obtain ⟨j2,hl3,hF4⟩:=bind_some hF
  refine ZB (fun a w=>Env 58 a [(1,vI p1),(5,vI j2.2)] ∧ M St W w [raw pb0 (cat [[v0_0],[vI j2.1],[(Value.int .u64 (IntKind.u64.wrap ((IntKind.u64.wrap (p0.2 * 6364136223846793005)) + 1442695040888963407)))]]),R]) ?_ ?_
  ·skip
   obtain ⟨j5,hl6,hF7⟩:=bind_some hl3
   refine ZB (fun a w=>Env 58 a [(0,(ptr pb0 0)),(1,vI p1),(5,(vI (IntKind.i64.wrap (wru (BitVec.ofInt 64 (Ti (IntKind.u64.wrap ((IntKind.u64.wrap (p0.2 * 6364136223846793005)) + 1442695040888963407)) 33) &&& BitVec.ofInt 64 16777215).toNat)))),(33,vT j5)] ∧ M St W w [raw pb0 (cat [[v0_0],[vI p0.1],[(Value.int .u64 (IntKind.u64.wrap ((IntKind.u64.wrap (p0.2 * 6364136223846793005)) + 1442695040888963407)))]]),R]) ?_ ?_
   ·skip
    refine Y4 [24,25,26,27,28,29,30,31,32,33] VC rfl rfl (by decide) rfl hE hM (qsP (fun z=>Zh z.E Za ld rfl (kr0 rfl)) (qsP (fun z=>Z0 z.E Za ld rfl (kr0 rfl)) (qsP (fun z=>Zv z.E Za ld rfl (Jd) (kr0 rfl)) (qsP (fun z=>ZK (v:=(vI p0.1)) z.E Za ld rfl ty3 rfl (At.cat (pre:=[[v0_0]]) (z.M.rawAt0) ck) (kr0 rfl)) (qsP (fun z=>Zh z.E Za ld rfl (kr0 rfl)) (qsP (fun z=>Z0 z.E Za ld rfl (kr0 rfl)) (qsP (fun z=>Zv z.E Za ld rfl (B9) (kr0 rfl)) (qsP (fun z=>ZK (v:=v0_0) z.E Za ld rfl YS rfl (At.cat (pre:=[]) (z.M.rawAt0) cl0) (kr0 rfl)) (qsP (fun z=>VU z.E Za ld rfl Try.underlying22 (z.M.rd hv0_0) (kr0 rfl)) (qsP (fun z=>Z2 z.E Za ld rfl rfl rfl (kr0 rfl)) qs0)))))))))) ?_
    ·intro a w u hE hM
     refine Zi ?_
     obtain rfl:=Option.some.inj hl6
     refine Zj ?_
     exact ⟨hE.sub ⟨rfl,rfl,rfl,rfl,trivial⟩,hM⟩
   ·skip
    rintro a w ⟨hE,hM⟩
    refine Zm hE rfl ?_ ?_
    ·intro hb10
     have hF7:=Zp hF7 hb10
     obtain ⟨j11,hl12,hF13⟩:=bind_some hF7
     refine ZB (fun a w=>Env 58 a [(0,(ptr pb0 0)),(1,vI p1),(5,vI j11)] ∧ M St W w [raw pb0 (cat [[v0_0],[vI p0.1],[(Value.int .u64 (IntKind.u64.wrap ((IntKind.u64.wrap (p0.2 * 6364136223846793005)) + 1442695040888963407)))]]),R]) ?_ ?_
     ·skip
      obtain ⟨x15,hi17,hl12⟩:=bix hl12
      refine Y4 [34,35,36,37,38,39,40,41,42,43,44,45,46] VC rfl rfl (by decide) rfl hE hM (qsP (fun z=>Zh z.E Za ld rfl (kr0 rfl)) (qsP (fun z=>Zh z.E Za ld rfl (kr0 rfl)) (qsP (fun z=>Z0 z.E Za ld rfl (kr0 rfl)) (qsP (fun z=>Zv z.E Za ld rfl (B9) (kr0 rfl)) (qsP (fun z=>ZK (v:=v0_0) z.E Za ld rfl YS rfl (At.cat (pre:=[]) (z.M.rawAt0) cl0) (kr0 rfl)) (qsP (fun z=>Zh z.E Za ld rfl (kr0 rfl)) (qsP (fun z=>Z0 z.E Za ld rfl (kr0 rfl)) (qsP (fun z=>Zv z.E Za ld rfl (Jd) (kr0 rfl)) (qsP (fun z=>ZK (v:=(vI p0.1)) z.E Za ld rfl ty3 rfl (At.cat (pre:=[[v0_0]]) (z.M.rawAt0) ck) (kr0 rfl)) (qsP (fun z=>ZG z.E Za ld rfl rfl Try.underlying22 ty5 (z.M.rd hv0_0) hi17.1 (kr0 rfl)) (qsP (fun z=>ZK (v:=(vB x15)) z.E Za ld rfl ty5 rfl (Z4 (z.M.rd hv0_0) hi17.2) (kr0 rfl)) (qsP (fun z=>Tl z.E Za ld rfl Try.underlying5 Try.underlying2 (kr0 rfl)) (qsP (v:=(vI (wr ((IntKind.i64.wrap (wru (BitVec.ofInt 64 (Ti (IntKind.u64.wrap ((IntKind.u64.wrap (p0.2 * 6364136223846793005)) + 1442695040888963407)) 33) &&& BitVec.ofInt 64 16777215).toNat)) + (bI x15))))) (fun z=>Z2 z.E Za ld rfl rfl rfl (kr0 rfl)) qs0))))))))))))) ?_
      ·intro a w u hE hM
       refine Zb hE rfl fun a hE=>Zi ?_
       obtain rfl:=Option.some.inj hl12
       refine Zj ?_
       exact ⟨hE.sub ⟨rfl,rfl,rfl,trivial⟩,hM⟩
     ·skip
      rintro a w ⟨hE,hM⟩
      refine wp_region_lit (Zd hE rfl fun a hE=>Zd hE rfl fun a hE=>Z0 hE Za ld rfl fun a hE=>ZA hE rfl (Jd) fun a hE=>ZM (v:=(vI p0.1)) hE rfl ty3 rfl (At.cat (pre:=[[v0_0]]) hM.rawAt0 ck) fun a hE=>Zk hE rfl rfl rfl fun a hE=>Z0 hE Za ld rfl fun a hE=>ZA hE rfl (Jd) fun a hE=>Y3 (seg:=[(vI (wr (p0.1 + 1)))]) hE hM Za rfl rfl rfl ty3 rfl (VZ (pre:=[[v0_0]]) ck rfl) (Flat.cell (wr (p0.1 + 1) : Int)) (XW (pre:=[[v0_0]]) ck rfl) fun w a hM hE=>Zi ?_)
      obtain rfl:=Option.some.inj hF13
      refine Zj ?_
      exact ⟨hE.sub ⟨rfl,rfl,trivial⟩,hM⟩
    ·intro hb10
     have hF7:=Zo hF7 hb10
     refine wp_skip ?_
     obtain rfl:=Option.some.inj hF7
     refine Zj ?_
     exact ⟨hE.sub ⟨rfl,rfl,trivial⟩,hM⟩
  ·skip
   rintro a w ⟨hE,hM⟩
   refine Zc (Zd hE rfl fun a hE=>Zd hE rfl ?_); intro a hE
   obtain ⟨_,e21,hF4⟩:=bind_some hF4
   have e21:=QY e21
   refine Zk hE rfl rfl (Kq _ _ e21) fun a hE=>Zb hE rfl fun a hE=>Ze ?_
   obtain rfl:=Option.some.inj hF4
   exact wp_ret (Y7 hE rfl (Zq hE rfl) ⟨_,rfl,rfl,hM⟩)
def ZR (p0_0 : (List UInt8)) (p0 : (Int × Int)) (p1 : (List Int)) : Option ((Int × Int) × Int) :=
 (Zz p0_0 (p0.1,p0.2) (p1.length : Int)).bind fun r1=>(idx p1 r1.2).bind fun x3=>some ((r1.1.1,r1.1.2),x3)
theorem Z9 (St : Nat → Prop) (W w0 : World) (R : Item) (pb0 : Nat) (p0_0 : (List UInt8)) (v0_0 : Value) (hv0_0 : Rep.sat St W p0_0 [v0_0] []) (p0 : (Int × Int)) (p1 : (List Int)) (v1 : Value) (hM : M St W w0 [raw pb0 (cat [[v0_0],[vI p0.1],[(Value.int .u64 p0.2)]]),osl NoB (p1 : List Int) v1,R]) (r : (Int × Int) × Int) (hF : ZR p0_0 p0 p1 = some r) :
  Calls Try.prog 49 [(ptr pb0 0),v1].toArray w0 (fun en w'=>∃ v,en = .returned v ∧ (v = (vI r.2) ∧ M St W w' [raw pb0 (cat [[v0_0],[vI r.1.1],[(Value.int .u64 r.1.2)]]),osl NoB (p1 : List Int) v1,R])):=by
 refine ce Try.func49 ?_
 intro a hE
 unfold ZR at hF
 refine Zc (Zb hE rfl fun a hE=>Ze (Zc (Zd hE rfl fun a hE=>Zd hE rfl fun a hE=>Zd hE rfl fun a hE=>ZQ hE rfl Try.underlying138 (hM.sl (pre:=[_]) noB) ?_))); intro a hE
 have hM:=M.tailP (m:=[_]) hM
 obtain ⟨r1,e2,hF⟩:=bind_some hF
 refine Zl hE rfl UW (ZI _ _ _ _ pb0 p0_0 v0_0 hv0_0 (p0.1,p0.2) (p1.length : Int) hM r1 e2) ?_
 rintro v w a ⟨rfl,hM⟩ hE
 have hM:=M.tailU (m:=[_]) hM
 simp only [List.cons_append,List.nil_append] at hM
 obtain ⟨x3,hi5,hF⟩:=bix hF
 refine ZD hE rfl rfl Try.underlying138 ty2 (hM.sl (pre:=[_]) noB) hi5.1 fun a hE=>ZM (v:=(vI x3)) hE rfl ty2 rfl (Z4 (hM.sl (pre:=[_]) noB) hi5.2) fun a hE=>Zb hE rfl fun a hE=>Ze ?_
 obtain rfl:=Option.some.inj hF
 exact wp_ret (Y7 hE rfl (Zq hE rfl) ⟨_,rfl,rfl,hM⟩)
def Yk (p0_0 : (List UInt8)) (p0 : (Int × Int)) : Option ((Int × Int) × UInt8) :=
 (Zz p0_0 (p0.1,p0.2) 4).bind fun r1=>(Zz p0_0 (r1.1.1,r1.1.2) 256).bind fun r3=>(Zz p0_0 (r3.1.1,r3.1.2) 256).bind fun r5=>(ZR p0_0 (r5.1.1,r5.1.2) ([r1.2,r3.2,r5.2,255] : List Int)).bind fun r9=>some ((r9.1.1,r9.1.2),X1 r9.2)
theorem WW (St : Nat → Prop) (W w0 : World) (R : Item) (pb0 : Nat) (p0_0 : (List UInt8)) (v0_0 : Value) (hv0_0 : Rep.sat St W p0_0 [v0_0] []) (p0 : (Int × Int)) (hM : M St W w0 [raw pb0 (cat [[v0_0],[vI p0.1],[(Value.int .u64 p0.2)]]),R]) (r : (Int × Int) × UInt8) (hF : Yk p0_0 p0 = some r) :
  Calls Try.prog 84 [(ptr pb0 0)].toArray w0 (fun en w'=>∃ v,en = .returned v ∧ (v = (vB r.2) ∧ M St W w' [raw pb0 (cat [[v0_0],[vI r.1.1],[(Value.int .u64 r.1.2)]]),R])):=by
 refine ce Try.func84 ?_
 intro a hE
 unfold Yk at hF
 refine Zc (Zb hE rfl fun a hE=>Ze (Zc (Zd hE rfl fun a hE=>Zd hE rfl ?_))); intro a hE
 have hM:=M.tailP (m:=[_]) hM
 obtain ⟨r1,e2,hF⟩:=bind_some hF
 refine Zl hE rfl UW (ZI _ _ _ _ pb0 p0_0 v0_0 hv0_0 (p0.1,p0.2) 4 hM r1 e2) ?_
 rintro v w a ⟨rfl,hM⟩ hE
 have hM:=M.tailU (m:=[_]) hM
 simp only [List.cons_append,List.nil_append] at hM
 refine Zd hE rfl ?_; intro a hE
 have hM:=M.tailP (m:=[_]) hM
 obtain ⟨r3,e4,hF⟩:=bind_some hF
 refine Zl hE rfl UW (ZI _ _ _ _ pb0 p0_0 v0_0 hv0_0 (r1.1.1,r1.1.2) 256 hM r3 e4) ?_
 rintro v w a ⟨rfl,hM⟩ hE
 have hM:=M.tailU (m:=[_]) hM
 simp only [List.cons_append,List.nil_append] at hM
 refine Zd hE rfl ?_; intro a hE
 have hM:=M.tailP (m:=[_]) hM
 obtain ⟨r5,e6,hF⟩:=bind_some hF
 refine Zl hE rfl UW (ZI _ _ _ _ pb0 p0_0 v0_0 hv0_0 (r3.1.1,r3.1.2) 256 hM r5 e6) ?_
 rintro v w a ⟨rfl,hM⟩ hE
 have hM:=M.tailU (m:=[_]) hM
 simp only [List.cons_append,List.nil_append] at hM
 refine ZE (xs:=[.tmp 5,.tmp 7,.tmp 9,.const (vI 255)]) (l:=([r1.2,r3.2,r5.2,255] : List Int)) (vs:=[vI r1.2,vI r3.2,vI r5.2,vI 255]) hE hM Za ld rfl rfl Try.underlying138 ty2 rfl (by decide) rfl ?_; intro u7 w a hM hE
 have hM:=M.tailP (m:=[_,_]) hM.pull1
 obtain ⟨r9,e10,hF⟩:=bind_some hF
 refine Zl hE rfl Kk (Z9 _ _ _ _ pb0 p0_0 v0_0 hv0_0 (r5.1.1,r5.1.2) ([r1.2,r3.2,r5.2,255] : List Int) u7 hM r9 e10) ?_
 rintro v w a ⟨rfl,hM⟩ hE
 have hM:=M.tailU (m:=[_,_]) hM
 simp only [List.cons_append,List.nil_append] at hM
 refine Tj hE Za ld rfl Try.underlying2 Try.underlying5 fun a hE=>Zb hE rfl fun a hE=>Ze ?_
 obtain rfl:=Option.some.inj hF
 have hM:=(hM.pull2.pull1.pull2).drop
 exact wp_ret (Y7 hE rfl (Zq hE rfl) ⟨_,rfl,rfl,hM⟩)
def Wj (p0_0 : (List UInt8)) (s18 : Int × Int × (List UInt8) × Int) : Option (Fl (Int × Int × (List UInt8) × Int) (Int × Int × (List UInt8))) :=
 if (decide (s18.2.2.2 > 0)) = true then ((Yk p0_0 (s18.1,s18.2.1)).bind fun r25=>(app 1 s18.2.2.1 ([r25.2] : List UInt8)).bind fun l29=>some (Fl.nx (r25.1.1,r25.1.2,(s18.2.2.1 ++ ([r25.2] : List UInt8)),wr (s18.2.2.2 - 1)))) else (some (Fl.ex (s18.1,s18.2.1,s18.2.2.1)))
def Y1 (p0_0 : (List UInt8)) (p0 : (Int × Int)) (p1 : Int) : Option ((Int × Int) × (List UInt8)) :=
 (Zz p0_0 (p0.1,p0.2) (wr ((if 5 < p1 then 5 else p1) + 1))).bind fun r3=>(Zz p0_0 (r3.1.1,r3.1.2) (wr ((if 40 < p1 then 40 else p1) + 1))).bind fun r5=>(Zz p0_0 (r5.1.1,r5.1.2) (wr (p1 + 1))).bind fun r7=>(ZR p0_0 (r7.1.1,r7.1.2) ([r3.2,r5.2,r7.2] : List Int)).bind fun r11=>(ZJ (Wj p0_0) (r11.1.1,r11.1.2,([] : List UInt8),r11.2)).bind fun j13=>some ((j13.1,j13.2.1),j13.2.2)
theorem Us (St : Nat → Prop) (W w0 : World) (R : Item) (pb0 : Nat) (p0_0 : (List UInt8)) (v0_0 : Value) (hv0_0 : Rep.sat St W p0_0 [v0_0] []) (p0 : (Int × Int)) (p1 : Int) (hM : M St W w0 [raw pb0 (cat [[v0_0],[vI p0.1],[(Value.int .u64 p0.2)]]),R]) (r : (Int × Int) × (List UInt8)) (hF : Y1 p0_0 p0 p1 = some r) :
  Calls Try.prog 48 [(ptr pb0 0),vI p1].toArray w0 (fun en w'=>∃ v,en = .returned v ∧ (∃ (y1 : Value),v = y1 ∧ M St W w' [raw pb0 (cat [[v0_0],[vI r.1.1],[(Value.int .u64 r.1.2)]]),osl NoB (r.2 : List UInt8) y1,R])):=by
 refine ce Try.func48 ?_
 intro a hE
 unfold Y1 at hF
 refine Zc (Zb hE rfl fun a hE=>Ze (Zc (ZE (xs:=[]) (l:=([] : List UInt8)) (vs:=[]) hE hM Za ld rfl rfl Try.underlying22 ty5 rfl (by decide) rfl fun u1 w a hM hE=>Zb hE rfl fun a hE=>Ze (wp_seq (Zc (Zd hE rfl fun a hE=>Zd hE rfl fun a hE=>Zd hE rfl fun a hE=>s_min hE Za ld rfl rfl fun a hE=>Zk hE rfl rfl rfl ?_)))))); intro a hE
 have hM:=M.tailP (m:=[_]) hM.pull1
 obtain ⟨r3,e4,hF⟩:=bind_some hF
 refine Zl hE rfl UW (ZI _ _ _ _ pb0 p0_0 v0_0 hv0_0 (p0.1,p0.2) (wr ((if 5 < p1 then 5 else p1) + 1)) hM r3 e4) ?_
 rintro v w a ⟨rfl,hM⟩ hE
 have hM:=M.tailU (m:=[_]) hM
 simp only [List.cons_append,List.nil_append] at hM
 refine Zd hE rfl fun a hE=>Zd hE rfl fun a hE=>s_min hE Za ld rfl rfl fun a hE=>Zk hE rfl rfl rfl ?_; intro a hE
 have hM:=M.tailP (m:=[_]) hM
 obtain ⟨r5,e6,hF⟩:=bind_some hF
 refine Zl hE rfl UW (ZI _ _ _ _ pb0 p0_0 v0_0 hv0_0 (r3.1.1,r3.1.2) (wr ((if 40 < p1 then 40 else p1) + 1)) hM r5 e6) ?_
 rintro v w a ⟨rfl,hM⟩ hE
 have hM:=M.tailU (m:=[_]) hM
 simp only [List.cons_append,List.nil_append] at hM
 refine Zd hE rfl fun a hE=>Zd hE rfl fun a hE=>Zk hE rfl rfl rfl ?_; intro a hE
 have hM:=M.tailP (m:=[_]) hM
 obtain ⟨r7,e8,hF⟩:=bind_some hF
 refine Zl hE rfl UW (ZI _ _ _ _ pb0 p0_0 v0_0 hv0_0 (r5.1.1,r5.1.2) (wr (p1 + 1)) hM r7 e8) ?_
 rintro v w a ⟨rfl,hM⟩ hE
 have hM:=M.tailU (m:=[_]) hM
 simp only [List.cons_append,List.nil_append] at hM
 refine ZE (xs:=[.tmp 13,.tmp 18,.tmp 22]) (l:=([r3.2,r5.2,r7.2] : List Int)) (vs:=[vI r3.2,vI r5.2,vI r7.2]) hE hM Za ld rfl rfl Try.underlying138 ty2 rfl (by decide) rfl ?_; intro u9 w a hM hE
 have hM:=M.tailP (m:=[_,_]) hM.pull1
 obtain ⟨r11,e12,hF⟩:=bind_some hF
 refine Zl hE rfl Kk (Z9 _ _ _ _ pb0 p0_0 v0_0 hv0_0 (r7.1.1,r7.1.2) ([r3.2,r5.2,r7.2] : List Int) u9 hM r11 e12) ?_
 rintro v w a ⟨rfl,hM⟩ hE
 have hM:=M.tailU (m:=[_,_]) hM
 simp only [List.cons_append,List.nil_append] at hM
 refine Zb hE rfl fun a hE=>Ze ?_
 obtain ⟨j13,hl14,hF15⟩:=bind_some hF
 refine Z6 (fun a w=>∃ (u16 : Value),Env 35 a [(5,u16)] ∧ M St W w [raw pb0 (cat [[v0_0],[vI j13.1],[(Value.int .u64 j13.2.1)]]),R,osl NoB (j13.2.2 : List UInt8) u16]) ?_ ?_
 ·skip
  refine wp_block ?_
  have hM:=(hM.pull2.pull3.pull2.pull3).drop
  refine ZO (fun (s18 : Int × Int × (List UInt8) × Int) a w=>∃ (u19 : Value),Env 35 a [(0,(ptr pb0 0)),(5,u19),(6,vI s18.2.2.2)] ∧ M St W w [raw pb0 (cat [[v0_0],[vI s18.1],[(Value.int .u64 s18.2.1)]]),R,osl NoB (s18.2.2.1 : List UInt8) u19]) hl14 ⟨u1,hE.sub ⟨rfl,rfl,rfl,trivial⟩,hM⟩ ?_
  rintro s18 a w ⟨u19,hE,hM⟩ o23 hs21 hx22
  unfold Wj at hs21
  refine wp_seq (Zc (Zd hE rfl fun a hE=>Zk hE rfl rfl rfl fun a hE=>Ze ?_))
  refine Zm hE rfl ?_ ?_
  ·intro hb24
   have hs21:=Zp hs21 hb24
   refine wp_skip (Zx (wp_seq (wp_block (wp_region_lit (Zd hE rfl fun a hE=>Zd hE rfl ?_))))); intro a hE
   have hM:=M.tailP (m:=[_]) hM
   obtain ⟨r25,e26,hs21⟩:=bind_some hs21
   refine Zl hE rfl cb84 (WW _ _ _ _ pb0 p0_0 v0_0 hv0_0 (s18.1,s18.2.1) hM r25 e26) ?_
   rintro v w a ⟨rfl,hM⟩ hE
   have hM:=M.tailU (m:=[_]) hM
   simp only [List.cons_append,List.nil_append] at hM
   refine ZE (xs:=[.tmp 31]) (l:=([r25.2] : List UInt8)) (vs:=[vB r25.2]) hE hM Za ld rfl rfl Try.underlying22 ty5 rfl (by decide) rfl ?_; intro u27 w a hM hE
   obtain ⟨l29,e30,hs21⟩:=bind_some hs21
   obtain ⟨e33,rfl⟩:=Yi e30
   have hM:=hM.pull3
   refine YE hE hM Za ld rfl rfl (hM.sl (pre:=[_]) noB) Try.underlying22 ty5 rfl (by decide) e33 fun u31 w a hM hE=>Zb hE rfl fun a hE=>Zi (YK (Zx (wp_region_lit (Zd hE rfl fun a hE=>Zk hE rfl rfl rfl fun a hE=>Zb hE rfl fun a hE=>Zi (Zj ?_)))))
   have hM:=(hM.pull3.pull3.pull3).drop
   exact ⟨_,(ois hs21),u31,hE.sub ⟨rfl,rfl,rfl,trivial⟩,hM⟩
  ·intro hb24
   have hs21:=Zo hs21 hb24
   refine wp_exit (Zs (Zs (Y6 ?_)))
   obtain rfl:=hx22 _ (ois hs21)
   refine Zj ?_
   exact ⟨u19,hE.sub ⟨rfl,trivial⟩,hM⟩
 ·skip
  rintro a w ⟨u16,hE,hM⟩
  refine Zx (Zc (Zd hE rfl fun a hE=>Zb hE rfl fun a hE=>Ze ?_))
  obtain rfl:=Option.some.inj hF15
  have hM:=hM.pull1.pull2.pull2
  exact wp_ret (Y7 hE rfl (Zq hE rfl) ⟨_,rfl,u16,rfl,hM⟩)
def Vi (p0_0 : (List UInt8)) (s8 : Int × Int × Int × (List UInt8)) : Option (Fl (Int × Int × Int × (List UInt8)) (Int × Int × (List UInt8))) :=
 if (decide (s8.2.2.1 > 0)) = true then ((Yk p0_0 (s8.1,s8.2.1)).bind fun r15=>(app 1 s8.2.2.2 ([r15.2] : List UInt8)).bind fun l19=>some (Fl.nx (r15.1.1,r15.1.2,wr (s8.2.2.1 - 1),(s8.2.2.2 ++ ([r15.2] : List UInt8))))) else (some (Fl.ex (s8.1,s8.2.1,s8.2.2.2)))
def XD (p0_0 : (List UInt8)) (p0 : (Int × Int)) (p1 : Int) : Option ((Int × Int) × (List UInt8)) :=
 (ZJ (Vi p0_0) (p0.1,p0.2,p1,([] : List UInt8))).bind fun j3=>some ((j3.1,j3.2.1),j3.2.2)
theorem Th (St : Nat → Prop) (W w0 : World) (R : Item) (pb0 : Nat) (p0_0 : (List UInt8)) (v0_0 : Value) (hv0_0 : Rep.sat St W p0_0 [v0_0] []) (p0 : (Int × Int)) (p1 : Int) (hM : M St W w0 [raw pb0 (cat [[v0_0],[vI p0.1],[(Value.int .u64 p0.2)]]),R]) (r : (Int × Int) × (List UInt8)) (hF : XD p0_0 p0 p1 = some r) :
  Calls Try.prog 51 [(ptr pb0 0),vI p1].toArray w0 (fun en w'=>∃ v,en = .returned v ∧ (∃ (y1 : Value),v = y1 ∧ M St W w' [raw pb0 (cat [[v0_0],[vI r.1.1],[(Value.int .u64 r.1.2)]]),osl NoB (r.2 : List UInt8) y1,R])):=by
 refine ce Try.func51 ?_
 intro a hE
 unfold XD at hF
 refine Zc (Zb hE rfl fun a hE=>Ze (Zc (ZE (xs:=[]) (l:=([] : List UInt8)) (vs:=[]) hE hM Za ld rfl rfl Try.underlying22 ty5 rfl (by decide) rfl fun u1 w a hM hE=>Zb hE rfl fun a hE=>Ze ?_)))
 obtain ⟨j3,hl4,hF5⟩:=bind_some hF
 refine ZB (fun a w=>∃ (u6 : Value),Env 17 a [(5,u6)] ∧ M St W w [raw pb0 (cat [[v0_0],[vI j3.1],[(Value.int .u64 j3.2.1)]]),R,osl NoB (j3.2.2 : List UInt8) u6]) ?_ ?_
 ·skip
  refine wp_block ?_
  have hM:=hM.pull2.pull2
  refine ZO (fun (s8 : Int × Int × Int × (List UInt8)) a w=>∃ (u9 : Value),Env 17 a [(0,(ptr pb0 0)),(1,vI s8.2.2.1),(5,u9)] ∧ M St W w [raw pb0 (cat [[v0_0],[vI s8.1],[(Value.int .u64 s8.2.1)]]),R,osl NoB (s8.2.2.2 : List UInt8) u9]) hl4 ⟨u1,hE.sub ⟨rfl,rfl,rfl,trivial⟩,hM⟩ ?_
  rintro s8 a w ⟨u9,hE,hM⟩ o13 hs11 hx12
  unfold Vi at hs11
  refine wp_seq (Zc (Zd hE rfl fun a hE=>Zk hE rfl rfl rfl fun a hE=>Ze ?_))
  refine Zm hE rfl ?_ ?_
  ·intro hb14
   have hs11:=Zp hs11 hb14
   refine wp_skip (Zx (wp_seq (wp_block (wp_region_lit (Zd hE rfl fun a hE=>Zd hE rfl ?_))))); intro a hE
   have hM:=M.tailP (m:=[_]) hM
   obtain ⟨r15,e16,hs11⟩:=bind_some hs11
   refine Zl hE rfl cb84 (WW _ _ _ _ pb0 p0_0 v0_0 hv0_0 (s8.1,s8.2.1) hM r15 e16) ?_
   rintro v w a ⟨rfl,hM⟩ hE
   have hM:=M.tailU (m:=[_]) hM
   simp only [List.cons_append,List.nil_append] at hM
   refine ZE (xs:=[.tmp 13]) (l:=([r15.2] : List UInt8)) (vs:=[vB r15.2]) hE hM Za ld rfl rfl Try.underlying22 ty5 rfl (by decide) rfl ?_; intro u17 w a hM hE
   obtain ⟨l19,e20,hs11⟩:=bind_some hs11
   obtain ⟨e23,rfl⟩:=Yi e20
   have hM:=hM.pull3
   refine YE hE hM Za ld rfl rfl (hM.sl (pre:=[_]) noB) Try.underlying22 ty5 rfl (by decide) e23 fun u21 w a hM hE=>Zb hE rfl fun a hE=>Zi (YK (Zx (wp_region_lit (Zd hE rfl fun a hE=>Zk hE rfl rfl rfl fun a hE=>Zb hE rfl fun a hE=>Zi (Zj ?_)))))
   have hM:=(hM.pull3.pull3.pull3).drop
   exact ⟨_,(ois hs11),u21,hE.sub ⟨rfl,rfl,rfl,trivial⟩,hM⟩
  ·intro hb14
   have hs11:=Zo hs11 hb14
   refine wp_exit (Zs (Zs (Y6 ?_)))
   obtain rfl:=hx12 _ (ois hs11)
   refine Zj ?_
   exact ⟨u9,hE.sub ⟨rfl,trivial⟩,hM⟩
 ·skip
  rintro a w ⟨u6,hE,hM⟩
  refine Zc (Zd hE rfl fun a hE=>Zb hE rfl fun a hE=>Ze ?_)
  obtain rfl:=Option.some.inj hF5
  have hM:=hM.pull1.pull2.pull2
  exact wp_ret (Y7 hE rfl (Zq hE rfl) ⟨_,rfl,u6,rfl,hM⟩)
def Vx (p0 : Int) (p1 : Int) (p2 : Int) : Option (Bool) :=
 (if (decide (p0 ≥ p1)) = true then (some (decide (p0 ≤ p2))) else (some false) : Option (Bool)).bind fun j1=>some j1
theorem QE (w0 : World) (p0 : Int) (p1 : Int) (p2 : Int) (r : Bool) (hF : Vx p0 p1 p2 = some r) :
  Calls Try.prog 91 [vI p0,vI p1,vI p2].toArray w0 (Rt w0 (vT r)):=by
 refine ce Try.func91 ?_
 intro a hE
 have hM:=M.start w0
 unfold Vx at hF
 refine Zc (Zb hE rfl fun a hE=>Ze ?_)
 obtain ⟨j1,hl2,hF3⟩:=bind_some hF
 refine ZB (fun a w=>Env 15 a [(6,vT j1)] ∧ M (Old w0) w0 w []) ?_ ?_
 ·skip
  refine wp_region_lit (Zd hE rfl fun a hE=>Zd hE rfl fun a hE=>Zk hE rfl rfl rfl fun a hE=>Zd hE rfl ?_); intro a hE
  refine ZZ (decide (p0 ≥ p1)) (fun hb4=>?_) (fun hb4=>?_)
  ·have hl2:=Zp hl2 hb4
   refine Zh hE (Zf hE rfl (lkb rfl hb4)) (by decide) rfl fun a hE=>Zh hE (Zf hE rfl (lkb rfl hb4)) (by decide) rfl fun a hE=>Z2 hE (Zf hE rfl (lkb rfl hb4)) (by decide) rfl rfl rfl fun a hE=>ZC hE (lkb rfl hb4) rfl fun a hE=>Zb hE rfl fun a hE=>Zi ?_
   obtain rfl:=Option.some.inj hl2
   refine Zj ?_
   exact ⟨hE.sub ⟨rfl,trivial⟩,hM⟩
  ·have hl2:=Zo hl2 hb4
   refine Zg hE rfl (lkb rfl hb4) rfl (by decide) fun a hE=>Zg hE rfl (lkb rfl hb4) rfl (by decide) fun a hE=>Zg hE rfl (lkb rfl hb4) rfl (by decide) fun a hE=>ZL hE (lkb rfl hb4) rfl fun a hE=>Zb hE rfl fun a hE=>Zi ?_
   obtain rfl:=Option.some.inj hl2
   refine Zj ?_
   exact ⟨hE.sub ⟨rfl,trivial⟩,hM⟩
 ·skip
  rintro a w ⟨hE,hM⟩
  obtain rfl:=Option.some.inj hF3
  exact wp_ret (kr1 hE rfl rfl hM.kept)
def YB (s4 : Int × Int) : Option (Fl (Int × Int) Int) :=
 if (decide (s4.1 > 0)) = true then (some (Fl.nx (wr (Int.tdiv s4.1 2),wr (s4.2 + 1)))) else (some (Fl.ex s4.2))
def Xh (p0 : Int) : Option (Int) :=
 (ZJ (YB) (p0,0)).bind fun j1=>some j1
theorem Uc (w0 : World) (p0 : Int) (r : Int) (hF : Xh p0 = some r) :
  Calls Try.prog 177 [vI p0].toArray w0 (Rt w0 (vI r)):=by
 refine ce Try.func177 ?_
 intro a hE
 have hM:=M.start w0
 unfold Xh at hF
 refine Zc (Zb hE rfl fun a hE=>Ze (Zc (Zb hE rfl fun a hE=>Ze ?_)))
 obtain ⟨j1,hl2,hF3⟩:=bind_some hF
 refine ZB (fun a w=>Env 11 a [(3,vI j1)] ∧ M (Old w0) w0 w []) ?_ ?_
 ·skip
  refine wp_block ?_
  refine ZO (fun (s4 : Int × Int) a w=>Env 11 a [(0,vI s4.1),(3,vI s4.2)] ∧ M (Old w0) w0 w []) hl2 ⟨hE.sub ⟨rfl,rfl,trivial⟩,hM⟩ ?_
  rintro s4 a w ⟨hE,hM⟩ o7 hs5 hx6
  unfold YB at hs5
  refine wp_seq (Zc (Zd hE rfl fun a hE=>Zk hE rfl rfl rfl fun a hE=>Ze ?_))
  refine Zm hE rfl ?_ ?_
  ·intro hb8
   have hs5:=Zp hs5 hb8
   refine wp_skip (Zx (wp_seq (wp_block (wp_region_lit (Zd hE rfl fun a hE=>Zk hE rfl rfl rfl fun a hE=>Zb hE rfl fun a hE=>Zi (YK (Zx (wp_region_lit (Zd hE rfl fun a hE=>Zk hE rfl rfl (HD _ _ (by decide)) fun a hE=>Zb hE rfl fun a hE=>Zi (Zj ?_))))))))))
   exact ⟨_,(ois hs5),hE.sub ⟨rfl,rfl,trivial⟩,hM⟩
  ·intro hb8
   have hs5:=Zo hs5 hb8
   refine wp_exit (Zs (Zs (Y6 ?_)))
   obtain rfl:=hx6 _ (ois hs5)
   refine Zj ?_
   exact ⟨hE.sub ⟨rfl,trivial⟩,hM⟩
 ·skip
  rintro a w ⟨hE,hM⟩
  refine Zc (Zd hE rfl fun a hE=>Zb hE rfl fun a hE=>Ze ?_)
  obtain rfl:=Option.some.inj hF3
  exact wp_ret (kr1 hE rfl rfl hM.kept)
def X8 (p1 : Int) (r1 : Int) (s8 : Int × Int) : Option (Fl (Int × Int) Int) :=
 if (decide (s8.2 ≥ r1)) = true then ((Xf (IntKind.u64.wrap (wr (s8.2 - r1)))).bind fun _=>(Xh (Ka s8.1 (T1 p1 (IntKind.u64.wrap (wr (s8.2 - r1)))))).bind fun r14=>some (Fl.nx (Ka s8.1 (T1 p1 (IntKind.u64.wrap (wr (s8.2 - r1)))),r14))) else (some (Fl.ex s8.1))
def Vo (p0 : Int) (p1 : Int) : Option (Int) :=
 (Xh p1).bind fun r1=>(Xh p0).bind fun r3=>(ZJ (X8 p1 r1) (p0,r3)).bind fun j5=>some j5
theorem JX (w0 : World) (p0 : Int) (p1 : Int) (r : Int) (hF : Vo p0 p1 = some r) :
  Calls Try.prog 124 [vI p0,vI p1].toArray w0 (Rt w0 (vI r)):=by
 refine ce Try.func124 ?_
 intro a hE
 have hM:=M.start w0
 unfold Vo at hF
 refine Zc (Zb hE rfl fun a hE=>Ze (Zc (Zd hE rfl ?_))); intro a hE
 obtain ⟨r1,e2,hF⟩:=bind_some hF
 refine Zl hE rfl zc (Uc _ p1 r1 e2) ?_
 rintro v w a ⟨rfl,hK⟩ hE
 have hM:=hM.keep hK
 refine Zb hE rfl fun a hE=>Ze (wp_seq (Zc (Zd hE rfl ?_))); intro a hE
 obtain ⟨r3,e4,hF⟩:=bind_some hF
 refine Zl hE rfl zc (Uc _ p0 r3 e4) ?_
 rintro v w a ⟨rfl,hK⟩ hE
 have hM:=hM.keep hK
 refine Zb hE rfl fun a hE=>Ze ?_
 obtain ⟨j5,hl6,hF7⟩:=bind_some hF
 refine Z6 (fun a w=>Env 25 a [(0,vI j5)] ∧ M (Old w0) w0 w []) ?_ ?_
 ·skip
  refine wp_block ?_
  refine ZO (fun (s8 : Int × Int) a w=>Env 25 a [(0,vI s8.1),(1,vI p1),(5,vI r1),(6,vI s8.2)] ∧ M (Old w0) w0 w []) hl6 ⟨hE.sub ⟨rfl,rfl,rfl,rfl,trivial⟩,hM⟩ ?_
  rintro s8 a w ⟨hE,hM⟩ o11 hs9 hx10
  unfold X8 at hs9
  refine wp_seq (Zc (Zd hE rfl fun a hE=>Zd hE rfl fun a hE=>Zk hE rfl rfl rfl fun a hE=>Ze ?_))
  refine Zm hE rfl ?_ ?_
  ·intro hb12
   have hs9:=Zp hs9 hb12
   refine wp_skip (Zx (wp_seq (wp_block (wp_region_lit (Zd hE rfl fun a hE=>Zd hE rfl fun a hE=>Zd hE rfl fun a hE=>Zd hE rfl fun a hE=>Zk hE rfl rfl rfl fun a hE=>TV hE Za ld rfl Try.underlying2 Try.underlying45 ?_))))); intro a hE
   obtain ⟨_,e13,hs9⟩:=bind_some hs9
   have e13:=Vt e13
   refine HW hE Za ld rfl rfl (JA _ _ e13) fun a hE=>Zk hE rfl rfl rfl fun a hE=>Zb hE rfl fun a hE=>Zi (YK (Zx (wp_region_lit (Zd hE rfl ?_)))); intro a hE
   obtain ⟨r14,e15,hs9⟩:=bind_some hs9
   refine Zl hE rfl zc (Uc _ (Ka s8.1 (T1 p1 (IntKind.u64.wrap (wr (s8.2 - r1))))) r14 e15) ?_
   rintro v w a ⟨rfl,hK⟩ hE
   have hM:=hM.keep hK
   refine Zb hE rfl fun a hE=>Zi (Zj ?_)
   exact ⟨_,(ois hs9),hE.sub ⟨rfl,rfl,rfl,rfl,trivial⟩,hM⟩
  ·intro hb12
   have hs9:=Zo hs9 hb12
   refine wp_exit (Zs (Zs (Y6 ?_)))
   obtain rfl:=hx10 _ (ois hs9)
   refine Zj ?_
   exact ⟨hE.sub ⟨rfl,trivial⟩,hM⟩
 ·skip
  rintro a w ⟨hE,hM⟩
  refine Zx (Zc (Zd hE rfl fun a hE=>Zb hE rfl fun a hE=>Ze ?_))
  obtain rfl:=Option.some.inj hF7
  exact wp_ret (kr1 hE rfl rfl hM.kept)
def XF (p0 : Int) (s8 : Int) : Option (Fl Int (Fl Unit Bool)) :=
 if (decide (s8 < 32)) = true then ((Vo p0 s8).bind fun r13=>if (r13 == 0) = true then (some (Fl.ex (Fl.ex false))) else (some (Fl.nx (wr (s8 + 1))))) else (some (Fl.ex (Fl.nx ())))
def Xu (p0 : Int) : Option (Bool) :=
 (Vx p0 256 511).bind fun r1=>if (!r1) = true then (some false) else ((ZJ (XF p0) 2).bind fun j4=>j4.el (fun s7=>some true) (fun r=>some r))
theorem Un (w0 : World) (p0 : Int) (r : Bool) (hF : Xu p0 = some r) :
  Calls Try.prog 60 [vI p0].toArray w0 (Rt w0 (vT r)):=by
 refine ce Try.func60 ?_
 intro a hE
 have hM:=M.start w0
 unfold Xu at hF
 refine Zc (Zb hE rfl fun a hE=>Ze (wp_seq (Zc (Zd hE rfl ?_)))); intro a hE
 obtain ⟨r1,e2,hF⟩:=bind_some hF
 refine Zl hE rfl (cbm Try.func91) (QE _ p0 256 511 r1 e2) ?_
 rintro v w a ⟨rfl,hK⟩ hE
 have hM:=hM.keep hK
 refine VW hE rfl fun a hE=>Ze ?_
 refine Zm hE rfl ?_ ?_
 ·intro hb3
  have hF:=Zp hF hb3
  refine Zc (Zb hE rfl fun a hE=>Ze ?_)
  obtain rfl:=Option.some.inj hF
  exact wp_ret (Zr (kr1 hE rfl rfl hM.kept))
 ·intro hb3
  have hF:=Zo hF hb3
  refine wp_skip (Zx (wp_seq (Zc (Zb hE rfl fun a hE=>Ze ?_))))
  obtain ⟨j4,hl5,hF6⟩:=bind_some hF
  refine Z6 (fun a w=>∃ s7 : Unit,j4 = Fl.nx s7 ∧ Env 15 a [] ∧ M (Old w0) w0 w []) ?_ ?_
  ·skip
   refine wp_block ?_
   refine ZO (fun (s8 : Int) a w=>Env 15 a [(0,vI p0),(3,vI s8)] ∧ M (Old w0) w0 w []) hl5 ⟨hE.sub ⟨rfl,rfl,trivial⟩,hM⟩ ?_
   rintro s8 a w ⟨hE,hM⟩ o11 hs9 hx10
   unfold XF at hs9
   refine wp_seq (Zc (Zd hE rfl fun a hE=>Zk hE rfl rfl rfl fun a hE=>Ze ?_))
   refine Zm hE rfl ?_ ?_
   ·intro hb12
    have hs9:=Zp hs9 hb12
    refine wp_skip (Zx (wp_seq (wp_block (Zc (Zd hE rfl fun a hE=>Zd hE rfl ?_))))); intro a hE
    obtain ⟨r13,e14,hs9⟩:=bind_some hs9
    refine Zl hE rfl (cbm Try.func124) (JX _ p0 s8 r13 e14) ?_
    rintro v w a ⟨rfl,hK⟩ hE
    have hM:=hM.keep hK
    refine Zk hE rfl rfl rfl fun a hE=>Ze ?_
    refine Zm hE rfl ?_ ?_
    ·intro hb15
     have hs9:=Zp hs9 hb15
     refine Zc (Zb hE rfl fun a hE=>Ze ?_)
     obtain rfl:=hx10 _ (ois hs9)
     obtain rfl:=Option.some.inj hF6
     exact wp_ret (Yh (Zr (Zr (Yh (Zr (Zr (kr1 hE rfl rfl hM.kept)))))))
    ·intro hb15
     have hs9:=Zo hs9 hb15
     refine wp_skip (YK (Zx (wp_region_lit (Zd hE rfl fun a hE=>Zk hE rfl rfl rfl fun a hE=>Zb hE rfl fun a hE=>Zi (Zj ?_)))))
     exact ⟨_,(ois hs9),hE.sub ⟨rfl,rfl,trivial⟩,hM⟩
   ·intro hb12
    have hs9:=Zo hs9 hb12
    refine wp_exit (Zs (Zs (Y6 ?_)))
    obtain rfl:=hx10 _ (ois hs9)
    refine Zj ?_
    exact ⟨(),rfl,hE.sub trivial,hM⟩
  ·skip
   rintro a w ⟨s7,ht,hE,hM⟩
   subst ht
   have hF6:=VV hF6
   refine Zx (Zc (Zb hE rfl fun a hE=>Ze ?_))
   obtain rfl:=Option.some.inj hF6
   exact wp_ret (kr1 hE rfl rfl hM.kept)
def Vj (s8 : (List Int) × Int) : Option (Fl ((List Int) × Int) (List Int)) :=
 if (decide (s8.2 < 512)) = true then (((Xu s8.2).bind fun r20=>(if r20 = true then ((app 8 s8.1 ([s8.2] : List Int)).bind fun l30=>some (s8.1 ++ ([s8.2] : List Int))) else (some s8.1) : Option ((List Int))).bind fun j22=>some j22 : Option ((List Int))).bind fun j15=>some (Fl.nx (j15,wr (s8.2 + 1)))) else (some (Fl.ex s8.1))
def WK : Option ((List Int)) :=
 (ZJ (Vj) (([] : List Int),256)).bind fun j3=>some j3
theorem KA (w0 : World)  (r : (List Int)) (hF : WK  = some r) :
  Calls Try.prog 174 [].toArray w0 (fun en w'=>∃ v,en = .returned v ∧ (∃ (y1 : Value),v = y1 ∧ Fr w0 w' [osl NoB (r : List Int) y1] ∧ Kept (Old w0) w0 w')):=by
 refine ce Try.func174 ?_
 intro a hE
 have hM:=M.start w0
 unfold WK at hF
 refine Zc (Zb hE rfl fun a hE=>Ze (Zc (ZE (xs:=[]) (l:=([] : List Int)) (vs:=[]) hE hM Za ld rfl rfl Try.underlying138 ty2 rfl (by decide) rfl fun u1 w a hM hE=>Zb hE rfl fun a hE=>Ze (wp_seq (Zc (Zb hE rfl fun a hE=>Ze ?_))))))
 obtain ⟨j3,hl4,hF5⟩:=bind_some hF
 refine Z6 (fun a w=>∃ (u6 : Value),Env 15 a [(1,u6)] ∧ M (Old w0) w0 w [osl NoB (j3 : List Int) u6]) ?_ ?_
 ·skip
  refine wp_block ?_
  refine ZO (fun (s8 : (List Int) × Int) a w=>∃ (u9 : Value),Env 15 a [(1,u9),(2,vI s8.2)] ∧ M (Old w0) w0 w [osl NoB (s8.1 : List Int) u9]) hl4 ⟨u1,hE.sub ⟨rfl,rfl,trivial⟩,hM⟩ ?_
  rintro s8 a w ⟨u9,hE,hM⟩ o13 hs11 hx12
  unfold Vj at hs11
  refine wp_seq (Zc (Zd hE rfl fun a hE=>Zk hE rfl rfl rfl fun a hE=>Ze ?_))
  refine Zm hE rfl ?_ ?_
  ·intro hb14
   have hs11:=Zp hs11 hb14
   refine wp_skip (Zx ?_)
   obtain ⟨j15,hl16,hF17⟩:=bind_some hs11
   refine ZB (fun a w=>∃ (u18 : Value),Env 15 a [(1,u18),(2,vI s8.2)] ∧ M (Old w0) w0 w [osl NoB (j15 : List Int) u18]) ?_ ?_
   ·skip
    refine wp_block (Zc (Zd hE rfl ?_)); intro a hE
    obtain ⟨r20,e21,hl16⟩:=bind_some hl16
    refine Zl hE rfl cb60 (Un _ s8.2 r20 e21) ?_
    rintro v w a ⟨rfl,hK⟩ hE
    have hM:=hM.keep hK
    refine Ze ?_
    obtain ⟨j22,hl23,hF24⟩:=bind_some hl16
    refine Z6 (fun a w=>∃ (u25 : Value),Env 15 a [(1,u25),(2,vI s8.2)] ∧ M (Old w0) w0 w [osl NoB (j22 : List Int) u25]) ?_ ?_
    ·skip
     refine Zm hE rfl ?_ ?_
     ·intro hb27
      have hl23:=Zp hl23 hb27
      refine wp_region_lit (Zd hE rfl fun a hE=>Zd hE rfl fun a hE=>ZE (xs:=[.tmp 11]) (l:=([s8.2] : List Int)) (vs:=[vI s8.2]) hE hM Za ld rfl rfl Try.underlying138 ty2 rfl (by decide) rfl ?_); intro u28 w a hM hE
      obtain ⟨l30,e31,hl23⟩:=bind_some hl23
      obtain ⟨e34,rfl⟩:=Yi e31
      have hM:=hM.pull1
      refine YE hE hM Za ld rfl rfl (hM.sl (pre:=[_]) noB) Try.underlying138 ty2 rfl (by decide) e34 fun u32 w a hM hE=>Zb hE rfl fun a hE=>Zi ?_
      obtain rfl:=Option.some.inj hl23
      refine Zj ?_
      have hM:=M.fst (l:=[_]) hM
      exact ⟨u32,hE.sub ⟨rfl,rfl,trivial⟩,hM⟩
     ·intro hb27
      have hl23:=Zo hl23 hb27
      refine wp_skip ?_
      obtain rfl:=Option.some.inj hl23
      refine Zj ?_
      exact ⟨u9,hE.sub ⟨rfl,rfl,trivial⟩,hM⟩
    ·skip
     rintro a w ⟨u25,hE,hM⟩
     refine YK ?_
     obtain rfl:=Option.some.inj hF24
     refine Zj ?_
     exact ⟨u25,hE.sub ⟨rfl,rfl,trivial⟩,hM⟩
   ·skip
    rintro a w ⟨u18,hE,hM⟩
    refine wp_region_lit (Zd hE rfl fun a hE=>Zk hE rfl rfl rfl fun a hE=>Zb hE rfl fun a hE=>Zi (Zj ?_))
    exact ⟨_,(ois hF17),u18,hE.sub ⟨rfl,rfl,trivial⟩,hM⟩
  ·intro hb14
   have hs11:=Zo hs11 hb14
   refine wp_exit (Zs (Zs (Y6 ?_)))
   obtain rfl:=hx12 _ (ois hs11)
   refine Zj ?_
   exact ⟨u9,hE.sub ⟨rfl,trivial⟩,hM⟩
 ·skip
  rintro a w ⟨u6,hE,hM⟩
  refine Zx (Zc (Zd hE rfl fun a hE=>Zb hE rfl fun a hE=>Ze ?_))
  obtain rfl:=Option.some.inj hF5
  exact wp_ret (Y7 hE rfl (Zq hE rfl) ⟨_,rfl,u6,rfl,hM.outF (YG YP),hM.kept⟩)
def Y0 (p0_0 : (List UInt8)) (p0 : (Int × Int)) : Option ((Int × Int) × Int) :=
 (WK).bind fun r1=>((Zz p0_0 (p0.1,p0.2) (r1.length : Int)).bind fun r8=>(idx r1 r8.2).bind fun x10=>(Zz p0_0 (r8.1.1,r8.1.2) (r1.length : Int)).bind fun r13=>(idx r1 r13.2).bind fun x15=>(ZR p0_0 (r13.1.1,r13.1.2) ([285,x10,x15] : List Int)).bind fun r20=>some (r20.1.1,r20.1.2,r20.2) : Option (Int × Int × Int)).bind fun j4=>some ((j4.1,j4.2.1),j4.2.2)
theorem Ur (St : Nat → Prop) (W w0 : World) (R : Item) (pb0 : Nat) (p0_0 : (List UInt8)) (v0_0 : Value) (hv0_0 : Rep.sat St W p0_0 [v0_0] []) (p0 : (Int × Int)) (hM : M St W w0 [raw pb0 (cat [[v0_0],[vI p0.1],[(Value.int .u64 p0.2)]]),R]) (r : (Int × Int) × Int) (hF : Y0 p0_0 p0 = some r) :
  Calls Try.prog 119 [(ptr pb0 0)].toArray w0 (fun en w'=>∃ v,en = .returned v ∧ (v = (vI r.2) ∧ M St W w' [raw pb0 (cat [[v0_0],[vI r.1.1],[(Value.int .u64 r.1.2)]]),R])):=by
 refine ce Try.func119 ?_
 intro a hE
 unfold Y0 at hF
 refine Zc (Zb hE rfl fun a hE=>Ze (Zc ?_))
 obtain ⟨r1,e2,hF⟩:=bind_some hF
 refine Zl hE rfl (cbm Try.func174) (KA _  r1 e2) ?_
 rintro u3 w a ⟨_,rfl,hFr,hK⟩ hE
 have hM:=hM.add hK hFr
 refine Zb hE rfl fun a hE=>Ze ?_
 obtain ⟨j4,hl5,hF6⟩:=bind_some hF
 refine ZB (fun a w=>Env 22 a [(2,vI j4.2.2)] ∧ M St W w [raw pb0 (cat [[v0_0],[vI j4.1],[(Value.int .u64 j4.2.1)]]),R]) ?_ ?_
 ·skip
  have hM:=hM.pull1
  obtain ⟨r8,e9,hl5⟩:=bind_some hl5
  obtain ⟨x10,hi12,hl5⟩:=bix hl5
  obtain ⟨r13,e14,hl5⟩:=bind_some hl5
  obtain ⟨x15,hi17,hl5⟩:=bix hl5
  refine VL (its:=[osl NoB (r1 : List Int) u3,R]) (mk:=([([5,12],fun bs _=>(tog (bs.getD 0 false) (raw pb0 (cat [[v0_0],[vI p0.1],[(Value.int .u64 p0.2)]])) (tog (bs.getD 1 false) (raw pb0 (cat [[v0_0],[vI r8.1.1],[(Value.int .u64 r8.1.2)]])) (raw pb0 (cat [[v0_0],[vI r13.1.1],[(Value.int .u64 r13.1.2)]]))))),mkO 15 (fun v=>osl NoB (([285,x10,x15] : List Int) : List Int) v)] : Mk)) [5,6,7,8,9,10,11,12,13,14,15,16,17,18,19,20] VC rfl rfl (by decide) rfl hE (fun u=>M.qS (M.qE (M.q0 hM.drew u) emO) fun _=>rfl) (qsP (fun z=>Zh z.E Za ld rfl (kr0 rfl)) (qsP (fun z=>Zh z.E Za ld rfl (kr0 rfl)) (qsP (fun z=>Zh z.E Za ld rfl (kr0 rfl)) (qsP (fun z=>Zh z.E Za ld rfl (kr0 rfl)) (qsP (v:=(vI (r1.length : Int))) ?_ (qsV (v:=(vI r8.2)) ?_ (qsP (v:=(ptr (sb u3) (so u3 + (r8.2).toNat * 1))) ?_ (qsP (v:=(vI x10)) ?_ (qsP (fun z=>Zh z.E Za ld rfl (kr0 rfl)) (qsP (fun z=>Zh z.E Za ld rfl (kr0 rfl)) (qsP (fun z=>Zh z.E Za ld rfl (kr0 rfl)) (qsP (v:=(vI (r1.length : Int))) ?_ (qsV (v:=(vI r13.2)) ?_ (qsP (v:=(ptr (sb u3) (so u3 + (r13.2).toNat * 1))) ?_ (qsP (v:=(vI x15)) ?_ (qsM (pr:=fun v=>True) ?_ qs0)))))))))))))))) ?_
  ·intro a w ux7 D z
   have hE:=z.E
   have hM:=z.M
   exact ZQ hE rfl Try.underlying138 (hM.sl (pre:=[]) noB) fun a hE=>⟨Kept.refl _ _,_,rfl,hE⟩
  ·intro a w ux7 D z
   have hE:=z.E
   have hD : D 5 = false:=z.F
   have hM:=z.M.togA (pre:=[_,_]) hD
   have hNx : D 12 = false:=offD (j:=12) (k:=2) z.c rfl rfl rfl hD
   have hM:=M.tailP (m:=[_]) hM.pull2
   refine Zl hE rfl UW (ZI _ _ _ _ pb0 p0_0 v0_0 hv0_0 (p0.1,p0.2) (r1.length : Int) hM r8 e9) ?_
   rintro v w a ⟨rfl,hM⟩ hE
   have hM:=M.tailU (m:=[_]) hM
   simp only [List.cons_append,List.nil_append] at hM
   exact ⟨_,rfl,hE,M.qTogS (p:=([5,12],fun bs _=>(tog (bs.getD 0 false) (raw pb0 (cat [[v0_0],[vI p0.1],[(Value.int .u64 p0.2)]])) (tog (bs.getD 1 false) (raw pb0 (cat [[v0_0],[vI r8.1.1],[(Value.int .u64 r8.1.2)]])) (raw pb0 (cat [[v0_0],[vI r13.1.1],[(Value.int .u64 r13.1.2)]])))))) (mk1:=[]) (mk2:=[_]) hM rfl (by show tog (VR D 5 5) (raw pb0 (cat [[v0_0],[vI p0.1],[(Value.int .u64 p0.2)]])) (tog (VR D 5 12) (raw pb0 (cat [[v0_0],[vI r8.1.1],[(Value.int .u64 r8.1.2)]])) (raw pb0 (cat [[v0_0],[vI r13.1.1],[(Value.int .u64 r13.1.2)]]))) = _; rw [tg1 updS,tg0 (updN (i:=5) hNx (by decide))])⟩
  ·intro a w ux7 D z
   have hE:=z.E
   have hM:=z.M
   exact ZD hE rfl rfl Try.underlying138 ty2 (hM.sl (pre:=[]) noB) hi12.1 fun a hE=>⟨Kept.refl _ _,_,rfl,hE⟩
  ·intro a w ux7 D z
   have hE:=z.E
   have hM:=z.M
   exact ZM (v:=(vI x10)) hE rfl ty2 rfl (Z4 (hM.sl (pre:=[]) noB) hi12.2) fun a hE=>⟨Kept.refl _ _,_,rfl,hE⟩
  ·intro a w ux7 D z
   have hE:=z.E
   have hM:=z.M
   exact ZQ hE rfl Try.underlying138 (hM.sl (pre:=[]) noB) fun a hE=>⟨Kept.refl _ _,_,rfl,hE⟩
  ·intro a w ux7 D z
   have hE:=z.E
   have hD : D 12 = false:=z.F
   have hM:=z.M
   have dC5 : D 5 = true:=z.p 2 _ rfl rfl
   have hM:=M.tailP (m:=[_]) (((hM.togB (pre:=[_,_]) dC5).togA (pre:=[_,_]) hD).pull2)
   refine Zl hE rfl UW (ZI _ _ _ _ pb0 p0_0 v0_0 hv0_0 (r8.1.1,r8.1.2) (r1.length : Int) hM r13 e14) ?_
   rintro v w a ⟨rfl,hM⟩ hE
   have hM:=M.tailU (m:=[_]) hM
   simp only [List.cons_append,List.nil_append] at hM
   exact ⟨_,rfl,hE,M.qTogS (p:=([5,12],fun bs _=>(tog (bs.getD 0 false) (raw pb0 (cat [[v0_0],[vI p0.1],[(Value.int .u64 p0.2)]])) (tog (bs.getD 1 false) (raw pb0 (cat [[v0_0],[vI r8.1.1],[(Value.int .u64 r8.1.2)]])) (raw pb0 (cat [[v0_0],[vI r13.1.1],[(Value.int .u64 r13.1.2)]])))))) (mk1:=[]) (mk2:=[_]) hM rfl (by show tog (VR D 12 5) (raw pb0 (cat [[v0_0],[vI p0.1],[(Value.int .u64 p0.2)]])) (tog (VR D 12 12) (raw pb0 (cat [[v0_0],[vI r8.1.1],[(Value.int .u64 r8.1.2)]])) (raw pb0 (cat [[v0_0],[vI r13.1.1],[(Value.int .u64 r13.1.2)]]))) = _; rw [tg1 (updK dC5),tg1 updS])⟩
  ·intro a w ux7 D z
   have hE:=z.E
   have hM:=z.M
   exact ZD hE rfl rfl Try.underlying138 ty2 (hM.sl (pre:=[]) noB) hi17.1 fun a hE=>⟨Kept.refl _ _,_,rfl,hE⟩
  ·intro a w ux7 D z
   have hE:=z.E
   have hM:=z.M
   exact ZM (v:=(vI x15)) hE rfl ty2 rfl (Z4 (hM.sl (pre:=[]) noB) hi17.2) fun a hE=>⟨Kept.refl _ _,_,rfl,hE⟩
  ·intro a w ux7 D z
   have hE:=z.E
   have hD : D 15 = false:=z.F
   have hM:=z.M
   exact ZE (xs:=[.const (vI 285),.tmp 12,.tmp 19]) (l:=([285,x10,x15] : List Int)) (vs:=[vI 285,vI x10,vI x15]) hE hM Za ld rfl rfl Try.underlying138 ty2 rfl (by decide) rfl fun u18 w a hM hE=>⟨_,_,rfl,hE,M.qFill (mk1:=[_]) (mk2:=[]) (f:=(fun v=>osl NoB (([285,x10,x15] : List Int) : List Int) v)) hM rfl hD,trivial⟩
  ·intro a w ux7 D hE hM hG hall
   have d5:=hall 5 (by decide)
   have d12:=hall 12 (by decide)
   have d15:=hall 15 (by decide)
   have hM:=M.tailP (m:=[_,_]) (((((hM.togB (pre:=[_,_]) d5).togB (pre:=[_,_]) d12).sure (pre:=[_,_,_]) d15).pull3).pull3)
   obtain ⟨r20,e21,hl5⟩:=bind_some hl5
   refine Zl hE rfl Kk (Z9 _ _ _ _ pb0 p0_0 v0_0 hv0_0 (r13.1.1,r13.1.2) ([285,x10,x15] : List Int) (ux7 15) hM r20 e21) ?_
   rintro v w a ⟨rfl,hM⟩ hE
   have hM:=M.tailU (m:=[_,_]) hM
   simp only [List.cons_append,List.nil_append] at hM
   refine Zb hE rfl fun a hE=>Zi ?_
   obtain rfl:=Option.some.inj hl5
   refine Zj ?_
   have hM:=((hM.pull3.pull1.pull3).drop.pull2).drop
   exact ⟨hE.sub ⟨rfl,trivial⟩,hM⟩
 ·skip
  rintro a w ⟨hE,hM⟩
  obtain rfl:=Option.some.inj hF6
  exact wp_ret (Y7 hE rfl (Zq hE rfl) ⟨_,rfl,rfl,hM⟩)
def W4 (p0_0 : (List UInt8)) (p0 : (Int × Int)) : Option ((Int × Int) × Int) :=
 (Zz p0_0 (p0.1,p0.2) 20).bind fun r1=>if (r1.2 == 0) = true then ((ZR p0_0 (r1.1.1,r1.1.2) ([0,256,257,511,512,(-285),300,1099511627776] : List Int)).bind fun r6=>some ((r6.1.1,r6.1.2),r6.2)) else ((Y0 p0_0 (r1.1.1,r1.1.2)).bind fun r8=>some ((r8.1.1,r8.1.2),r8.2))
theorem KS (St : Nat → Prop) (W w0 : World) (R : Item) (pb0 : Nat) (p0_0 : (List UInt8)) (v0_0 : Value) (hv0_0 : Rep.sat St W p0_0 [v0_0] []) (p0 : (Int × Int)) (hM : M St W w0 [raw pb0 (cat [[v0_0],[vI p0.1],[(Value.int .u64 p0.2)]]),R]) (r : (Int × Int) × Int) (hF : W4 p0_0 p0 = some r) :
  Calls Try.prog 52 [(ptr pb0 0)].toArray w0 (fun en w'=>∃ v,en = .returned v ∧ (v = (vI r.2) ∧ M St W w' [raw pb0 (cat [[v0_0],[vI r.1.1],[(Value.int .u64 r.1.2)]]),R])):=by
 refine ce Try.func52 ?_
 intro a hE
 unfold W4 at hF
 refine Zc (Zb hE rfl fun a hE=>Ze (wp_seq (Zc (Zd hE rfl ?_)))); intro a hE
 have hM:=M.tailP (m:=[_]) hM
 obtain ⟨r1,e2,hF⟩:=bind_some hF
 refine Zl hE rfl UW (ZI _ _ _ _ pb0 p0_0 v0_0 hv0_0 (p0.1,p0.2) 20 hM r1 e2) ?_
 rintro v w a ⟨rfl,hM⟩ hE
 have hM:=M.tailU (m:=[_]) hM
 simp only [List.cons_append,List.nil_append] at hM
 refine Zk hE rfl rfl rfl fun a hE=>Ze ?_
 refine Zm hE rfl ?_ ?_
 ·intro hb3
  have hF:=Zp hF hb3
  refine Zc (Zd hE rfl fun a hE=>ZE (xs:=[.const (vI 0),.const (vI 256),.const (vI 257),.const (vI 511),.const (vI 512),.const (vI (-285)),.const (vI 300),.const (vI 1099511627776)]) (l:=([0,256,257,511,512,(-285),300,1099511627776] : List Int)) (vs:=[vI 0,vI 256,vI 257,vI 511,vI 512,(vI (-285)),vI 300,vI 1099511627776]) hE hM Za ld rfl rfl Try.underlying138 ty2 rfl (by decide) rfl ?_); intro u4 w a hM hE
  have hM:=M.tailP (m:=[_,_]) hM.pull1
  obtain ⟨r6,e7,hF⟩:=bind_some hF
  refine Zl hE rfl Kk (Z9 _ _ _ _ pb0 p0_0 v0_0 hv0_0 (r1.1.1,r1.1.2) ([0,256,257,511,512,(-285),300,1099511627776] : List Int) u4 hM r6 e7) ?_
  rintro v w a ⟨rfl,hM⟩ hE
  have hM:=M.tailU (m:=[_,_]) hM
  simp only [List.cons_append,List.nil_append] at hM
  refine Zb hE rfl fun a hE=>Ze ?_
  obtain rfl:=Option.some.inj hF
  have hM:=(hM.pull2.pull1.pull2).drop
  exact wp_ret (Zr (Y7 hE rfl (Zq hE rfl) ⟨_,rfl,rfl,hM⟩))
 ·intro hb3
  have hF:=Zo hF hb3
  refine wp_skip (Zx (Zc (Zd hE rfl ?_))); intro a hE
  have hM:=M.tailP (m:=[_]) hM
  obtain ⟨r8,e9,hF⟩:=bind_some hF
  refine Zl hE rfl (cbm Try.func119) (Ur _ _ _ _ pb0 p0_0 v0_0 hv0_0 (r1.1.1,r1.1.2) hM r8 e9) ?_
  rintro v w a ⟨rfl,hM⟩ hE
  have hM:=M.tailU (m:=[_]) hM
  simp only [List.cons_append,List.nil_append] at hM
  refine Zb hE rfl fun a hE=>Ze ?_
  obtain rfl:=Option.some.inj hF
  exact wp_ret (Y7 hE rfl (Zq hE rfl) ⟨_,rfl,rfl,hM⟩)
def XZ (p1 : Int) (r1 : (Int × Int) × Int) (r5 : (Int × Int) × Int) (s14 : (List UInt8) × Int) : Option (Fl ((List UInt8) × Int) (List UInt8)) :=
 if (decide (s14.2 < p1)) = true then ((app 1 s14.1 ([X1 (wr ((Int.tmod (wr ((wr ((wr (1 + r1.2)) - 1)) + (wr (r5.2 * s14.2)))) 255) + 1))] : List UInt8)).bind fun l23=>some (Fl.nx ((s14.1 ++ ([X1 (wr ((Int.tmod (wr ((wr ((wr (1 + r1.2)) - 1)) + (wr (r5.2 * s14.2)))) 255) + 1))] : List UInt8)),wr (s14.2 + 1)))) else (some (Fl.ex s14.1))
def YQ (p0_0 : (List UInt8)) (p0 : (Int × Int)) (p1 : Int) : Option ((Int × Int) × (List UInt8)) :=
 (Zz p0_0 (p0.1,p0.2) 255).bind fun r1=>(ZR p0_0 (r1.1.1,r1.1.2) ([1,2,4,7] : List Int)).bind fun r5=>(ZJ (XZ p1 r1 r5) (([] : List UInt8),0)).bind fun j9=>((if (decide (p1 > 0)) = true then ((Zz p0_0 (r5.1.1,r5.1.2) 24).bind fun r38=>some (r38.1.1,r38.1.2,r38.2 == 0)) else (some (r5.1.1,r5.1.2,false)) : Option (Int × Int × Bool)).bind fun j34=>if j34.2.2 = true then ((idx j9 (wr (p1 - 1))).bind fun x43=>(ZR p0_0 (j34.1,j34.2.1) ([0,bI x43] : List Int)).bind fun r48=>(idx j9 (0 : Int)).bind fun x50=>some (r48.1.1,r48.1.2,(j9.set ((0 : Int)).toNat (X1 r48.2)))) else (some (j34.1,j34.2.1,j9)) : Option (Int × Int × (List UInt8))).bind fun j29=>some ((j29.1,j29.2.1),j29.2.2)
theorem Um (St : Nat → Prop) (W w0 : World) (R : Item) (pb0 : Nat) (p0_0 : (List UInt8)) (v0_0 : Value) (hv0_0 : Rep.sat St W p0_0 [v0_0] []) (p0 : (Int × Int)) (p1 : Int) (hM : M St W w0 [raw pb0 (cat [[v0_0],[vI p0.1],[(Value.int .u64 p0.2)]]),R]) (r : (Int × Int) × (List UInt8)) (hF : YQ p0_0 p0 p1 = some r) :
  Calls Try.prog 53 [(ptr pb0 0),vI p1].toArray w0 (fun en w'=>∃ v,en = .returned v ∧ (∃ (y1 : Value),v = y1 ∧ M St W w' [raw pb0 (cat [[v0_0],[vI r.1.1],[(Value.int .u64 r.1.2)]]),osl NoB (r.2 : List UInt8) y1,R])):=by
 refine ce Try.func53 ?_
 intro a hE
 unfold YQ at hF
 refine Zc (Zb hE rfl fun a hE=>Ze (Zc (Zd hE rfl ?_))); intro a hE
 have hM:=M.tailP (m:=[_]) hM
 obtain ⟨r1,e2,hF⟩:=bind_some hF
 refine Zl hE rfl UW (ZI _ _ _ _ pb0 p0_0 v0_0 hv0_0 (p0.1,p0.2) 255 hM r1 e2) ?_
 rintro v w a ⟨rfl,hM⟩ hE
 have hM:=M.tailU (m:=[_]) hM
 simp only [List.cons_append,List.nil_append] at hM
 refine Zk hE rfl rfl rfl fun a hE=>Zd hE rfl fun a hE=>ZE (xs:=[.const (vI 1),.const (vI 2),.const (vI 4),.const (vI 7)]) (l:=([1,2,4,7] : List Int)) (vs:=[vI 1,vI 2,vI 4,vI 7]) hE hM Za ld rfl rfl Try.underlying138 ty2 rfl (by decide) rfl ?_; intro u3 w a hM hE
 have hM:=M.tailP (m:=[_,_]) hM.pull1
 obtain ⟨r5,e6,hF⟩:=bind_some hF
 refine Zl hE rfl Kk (Z9 _ _ _ _ pb0 p0_0 v0_0 hv0_0 (r1.1.1,r1.1.2) ([1,2,4,7] : List Int) u3 hM r5 e6) ?_
 rintro v w a ⟨rfl,hM⟩ hE
 have hM:=M.tailU (m:=[_,_]) hM
 simp only [List.cons_append,List.nil_append] at hM
 refine ZE (xs:=[]) (l:=([] : List UInt8)) (vs:=[]) hE hM Za ld rfl rfl Try.underlying22 ty5 rfl (by decide) rfl fun u7 w a hM hE=>Zb hE rfl fun a hE=>Zb hE rfl fun a hE=>Zb hE rfl fun a hE=>Ze (wp_seq (Zc (Zb hE rfl fun a hE=>Ze ?_)))
 obtain ⟨j9,hl10,hF11⟩:=bind_some hF
 refine Z6 (fun a w=>∃ (u12 : Value),Env 53 a [(0,(ptr pb0 0)),(1,vI p1),(7,u12)] ∧ M St W w [raw pb0 (cat [[v0_0],[vI r5.1.1],[(Value.int .u64 r5.1.2)]]),R,osl NoB (j9 : List UInt8) u12]) ?_ ?_
 ·skip
  refine wp_block ?_
  have hM:=(hM.pull3.pull2.pull3).drop
  refine ZO (fun (s14 : (List UInt8) × Int) a w=>∃ (u15 : Value),Env 53 a [(0,(ptr pb0 0)),(1,vI p1),(5,(vI (wr (1 + r1.2)))),(6,vI r5.2),(7,u15),(8,vI s14.2)] ∧ M St W w [raw pb0 (cat [[v0_0],[vI r5.1.1],[(Value.int .u64 r5.1.2)]]),R,osl NoB (s14.1 : List UInt8) u15]) hl10 ⟨u7,hE.sub ⟨rfl,rfl,rfl,rfl,rfl,rfl,trivial⟩,hM⟩ ?_
  rintro s14 a w ⟨u15,hE,hM⟩ o19 hs17 hx18
  unfold XZ at hs17
  refine wp_seq (Zc (Zd hE rfl fun a hE=>Zd hE rfl fun a hE=>Zk hE rfl rfl rfl fun a hE=>Ze ?_))
  refine Zm hE rfl ?_ ?_
  ·intro hb20
   have hs17:=Zp hs17 hb20
   refine wp_skip (Zx (wp_seq (wp_block (wp_region_lit (Zd hE rfl fun a hE=>Zd hE rfl fun a hE=>Zk hE rfl rfl rfl fun a hE=>Zd hE rfl fun a hE=>Zd hE rfl fun a hE=>Zk hE rfl rfl rfl fun a hE=>Zk hE rfl rfl rfl fun a hE=>Zk hE rfl rfl (Kq _ _ (by decide)) fun a hE=>Zk hE rfl rfl rfl fun a hE=>Tj hE Za ld rfl Try.underlying2 Try.underlying5 fun a hE=>ZE (xs:=[.tmp 30]) (l:=([X1 (wr ((Int.tmod (wr ((wr ((wr (1 + r1.2)) - 1)) + (wr (r5.2 * s14.2)))) 255) + 1))] : List UInt8)) (vs:=[(vB (X1 (wr ((Int.tmod (wr ((wr ((wr (1 + r1.2)) - 1)) + (wr (r5.2 * s14.2)))) 255) + 1))))]) hE hM Za ld rfl rfl Try.underlying22 ty5 rfl (by decide) rfl ?_))))); intro u21 w a hM hE
   obtain ⟨l23,e24,hs17⟩:=bind_some hs17
   obtain ⟨e27,rfl⟩:=Yi e24
   have hM:=hM.pull3
   refine YE hE hM Za ld rfl rfl (hM.sl (pre:=[_]) noB) Try.underlying22 ty5 rfl (by decide) e27 fun u25 w a hM hE=>Zb hE rfl fun a hE=>Zi (YK (Zx (wp_region_lit (Zd hE rfl fun a hE=>Zk hE rfl rfl rfl fun a hE=>Zb hE rfl fun a hE=>Zi (Zj ?_)))))
   have hM:=(hM.pull3.pull3.pull3).drop
   exact ⟨_,(ois hs17),u25,hE.sub ⟨rfl,rfl,rfl,rfl,rfl,rfl,trivial⟩,hM⟩
  ·intro hb20
   have hs17:=Zo hs17 hb20
   refine wp_exit (Zs (Zs (Y6 ?_)))
   obtain rfl:=hx18 _ (ois hs17)
   refine Zj ?_
   exact ⟨u15,hE.sub ⟨rfl,rfl,rfl,trivial⟩,hM⟩
 ·skip
  rintro a w ⟨u12,hE,hM⟩
  refine Zx ?_
  obtain ⟨j29,hl30,hF31⟩:=bind_some hF11
  refine ZB (fun a w=>∃ (u32 : Value),Env 53 a [(7,u32)] ∧ M St W w [raw pb0 (cat [[v0_0],[vI j29.1],[(Value.int .u64 j29.2.1)]]),R,osl NoB (j29.2.2 : List UInt8) u32]) ?_ ?_
  ·skip
   obtain ⟨j34,hl35,hF36⟩:=bind_some hl30
   refine ZB (fun a w=>Env 53 a [(0,(ptr pb0 0)),(1,vI p1),(7,u12),(39,vT j34.2.2)] ∧ M St W w [raw pb0 (cat [[v0_0],[vI j34.1],[(Value.int .u64 j34.2.1)]]),R,osl NoB (j9 : List UInt8) u12]) ?_ ?_
   ·skip
    refine wp_region_lit (Zd hE rfl fun a hE=>Zk hE rfl rfl rfl fun a hE=>Zd hE rfl ?_); intro a hE
    refine ZZ (decide (p1 > 0)) (fun hb37=>?_) (fun hb37=>?_)
    ·have hl35:=Zp hl35 hb37
     refine Zh hE (Zf hE rfl (lkb rfl hb37)) (by decide) rfl ?_; intro a hE
     have hM:=M.tailP (m:=[_]) hM
     obtain ⟨r38,e39,hl35⟩:=bind_some hl35
     refine Z1 hE (Zf hE rfl (lkb rfl hb37)) (by decide) rfl UW (ZI _ _ _ _ pb0 p0_0 v0_0 hv0_0 (r5.1.1,r5.1.2) 24 hM r38 e39) ?_
     rintro v w a ⟨rfl,hM⟩ hE
     have hM:=M.tailU (m:=[_]) hM
     simp only [List.cons_append,List.nil_append] at hM
     refine Z2 hE (Zf hE rfl (lkb rfl hb37)) (by decide) rfl rfl rfl fun a hE=>ZC hE (lkb rfl hb37) rfl fun a hE=>Zi ?_
     obtain rfl:=Option.some.inj hl35
     refine Zj ?_
     exact ⟨hE.sub ⟨rfl,rfl,rfl,rfl,trivial⟩,hM⟩
    ·have hl35:=Zo hl35 hb37
     refine Zg hE rfl (lkb rfl hb37) rfl (by decide) fun a hE=>Zg hE rfl (lkb rfl hb37) rfl (by decide) fun a hE=>Zg hE rfl (lkb rfl hb37) rfl (by decide) fun a hE=>ZL hE (lkb rfl hb37) rfl fun a hE=>Zi ?_
     obtain rfl:=Option.some.inj hl35
     refine Zj ?_
     exact ⟨hE.sub ⟨rfl,rfl,rfl,rfl,trivial⟩,hM⟩
   ·skip
    rintro a w ⟨hE,hM⟩
    refine Zm hE rfl ?_ ?_
    ·intro hb42
     have hF36:=Zp hF36 hb42
     refine wp_region_lit (Zd hE rfl fun a hE=>Zd hE rfl fun a hE=>Zd hE rfl fun a hE=>Zd hE rfl fun a hE=>Zk hE rfl rfl rfl ?_); intro a hE
     obtain ⟨x43,hi45,hF36⟩:=bix hF36
     refine ZD hE rfl rfl Try.underlying22 ty5 (hM.sl (pre:=[_,_]) noB) hi45.1 fun a hE=>ZM (v:=(vB x43)) hE rfl ty5 rfl (Z4 (hM.sl (pre:=[_,_]) noB) hi45.2) fun a hE=>Tl hE Za ld rfl Try.underlying5 Try.underlying2 fun a hE=>ZE (xs:=[.const (vI 0),.tmp 47]) (l:=([0,bI x43] : List Int)) (vs:=[vI 0,(vI (bI x43))]) hE hM Za ld rfl rfl Try.underlying138 ty2 rfl (by decide) rfl ?_; intro u46 w a hM hE
     have hM:=M.tailP (m:=[_,_]) hM.pull1
     obtain ⟨r48,e49,hF36⟩:=bind_some hF36
     refine Zl hE rfl Kk (Z9 _ _ _ _ pb0 p0_0 v0_0 hv0_0 (j34.1,j34.2.1) ([0,bI x43] : List Int) u46 hM r48 e49) ?_
     rintro v w a ⟨rfl,hM⟩ hE
     have hM:=M.tailU (m:=[_,_]) hM
     simp only [List.cons_append,List.nil_append] at hM
     refine Tj hE Za ld rfl Try.underlying2 Try.underlying5 ?_; intro a hE
     obtain ⟨x50,hi52,hF36⟩:=bix hF36
     refine ZD hE rfl rfl Try.underlying22 ty5 (hM.sl (pre:=[_,_,_]) noB) hi52.1 ?_; intro a hE
     have hM:=hM.pull3
     refine UH (i:=((0 : Int)).toNat) (k0:=0) (seg:=[(vB (X1 r48.2))]) (xo:=x50) (xn:=X1 r48.2) hE hM Za rfl rfl rfl ty5 rfl (Flat.cell (X1 r48.2 : UInt8)) hi52.2 (Tm (m:=1) rfl (by decide)) (ZX rfl) fun w a hM hE=>Zi ?_
     obtain rfl:=Option.some.inj hF36
     refine Zj ?_
     have hM:=(hM.pull3.pull2.pull3).drop
     exact ⟨u12,hE.sub ⟨rfl,trivial⟩,hM⟩
    ·intro hb42
     have hF36:=Zo hF36 hb42
     refine wp_skip ?_
     obtain rfl:=Option.some.inj hF36
     refine Zj ?_
     exact ⟨u12,hE.sub ⟨rfl,trivial⟩,hM⟩
  ·skip
   rintro a w ⟨u32,hE,hM⟩
   refine Zc (Zd hE rfl fun a hE=>Zb hE rfl fun a hE=>Ze ?_)
   obtain rfl:=Option.some.inj hF31
   have hM:=hM.pull1.pull2.pull2
   exact wp_ret (Y7 hE rfl (Zq hE rfl) ⟨_,rfl,u32,rfl,hM⟩)
def Wi (p0 : (List UInt8)) (r9 : (Int × Int) × (List UInt8)) (s27 : Int × Int × (List (List UInt8)) × Int) : Option (Fl (Int × Int × (List (List UInt8)) × Int) (Int × Int × (List (List UInt8)))) :=
 if (decide (s27.2.2.2 > 0)) = true then ((XD p0 (s27.1,s27.2.1) (r9.2.length : Int)).bind fun r34=>(app 24 s27.2.2.1 ([r34.2] : List (List UInt8))).bind fun l40=>some (Fl.nx (r34.1.1,r34.1.2,(s27.2.2.1 ++ ([r34.2] : List (List UInt8))),wr (s27.2.2.2 - 1)))) else (some (Fl.ex (s27.1,s27.2.1,s27.2.2.1)))
def Xw (p0 : (List UInt8)) : Option (Int × (List UInt8) × (List (List UInt8)) × (List UInt8)) :=
 (XR p0).bind fun r1=>(ZR p0 (r1.1,r1.2) ([8,8,100,101] : List Int)).bind fun r7=>(Y1 p0 (r7.1.1,r7.1.2) r7.2).bind fun r9=>(Zz p0 (r9.1.1,r9.1.2) 4).bind fun r14=>(Zz p0 (r14.1.1,r14.1.2) 8).bind fun r16=>(ZR p0 (r16.1.1,r16.1.2) ([r14.2,r16.2,8] : List Int)).bind fun r20=>(ZJ (Wi p0 r9) (r20.1.1,r20.1.2,([] : List (List UInt8)),r20.2)).bind fun j22=>((if (decide ((j22.2.2.length : Int) > 0)) = true then ((Zz p0 (j22.1,j22.2.1) 20).bind fun r55=>some (r55.1.1,r55.1.2,r55.2 == 0)) else (some (j22.1,j22.2.1,false)) : Option (Int × Int × Bool)).bind fun j51=>if j51.2.2 = true then ((idx j22.2.2 (0 : Int)).bind fun x60=>(app 1 x60 ([1] : List UInt8)).bind fun l68=>(idx j22.2.2 (0 : Int)).bind fun x73=>some (j51.1,j51.2.1,(j22.2.2.set ((0 : Int)).toNat (x60 ++ ([1] : List UInt8))))) else (some (j51.1,j51.2.1,j22.2.2)) : Option (Int × Int × (List (List UInt8)))).bind fun j46=>(W4 p0 (j46.1,j46.2.1)).bind fun r78=>(Zz p0 (r78.1.1,r78.1.2) 5).bind fun r80=>(Zz p0 (r80.1.1,r80.1.2) 12).bind fun r82=>(ZR p0 (r82.1.1,r82.1.2) ([wr (1 + r80.2),wr (1 + r82.2),0,13] : List Int)).bind fun r86=>(YQ p0 (r86.1.1,r86.1.2) r86.2).bind fun r88=>some (r78.2,r9.2,j46.2.2,r88.2)
theorem Qd (w0 : World) (p0 : (List UInt8)) (v0_1 : Value) (hv0_1 : Ro w0 p0 [v0_1]) (r : Int × (List UInt8) × (List (List UInt8)) × (List UInt8)) (hF : Xw p0 = some r) :
  Calls Try.prog 7 [v0_1].toArray w0 (fun en w'=>∃ v,en = .returned v ∧ (∃ (y1 : Value) (y2 : Value) (y3 : Value),v = (Value.tuple [vI r.1,y1,y2,y3].toArray) ∧ Fr w0 w' [osl NoB (r.2.1 : List UInt8) y1,osl NoB (r.2.2.1 : List (List UInt8)) y2,osl NoB (r.2.2.2 : List UInt8) y3] ∧ Kept (Old w0) w0 w')):=by
 refine ce Try.func7 ?_
 intro a hE
 have hM:=M.start w0
 unfold Xw at hF
 refine Zc (Zb hE rfl fun a hE=>Zb hE rfl fun a hE=>Zb hE rfl fun a hE=>Zb hE rfl fun a hE=>Ze (Zc (Zd hE rfl ?_))); intro a hE
 have hM:=M.tailP (m:=[]) hM
 obtain ⟨r1,e2,hF⟩:=bind_some hF
 refine Zl hE rfl cb47 (UJ _ _ _ _ p0 v0_1 hv0_1 hM r1 e2) ?_
 rintro v w a ⟨b3,rfl,hM⟩ hE
 have hM:=M.tailU (m:=[_]) hM
 simp only [List.cons_append,List.nil_append] at hM
 refine Zb hE rfl fun a hE=>Ze (Zc (Zd hE rfl fun a hE=>Zd hE rfl fun a hE=>ZE (xs:=[.const (vI 8),.const (vI 8),.const (vI 100),.const (vI 101)]) (l:=([8,8,100,101] : List Int)) (vs:=[vI 8,vI 8,vI 100,vI 101]) hE hM Za ld rfl rfl Try.underlying138 ty2 rfl (by decide) rfl ?_)); intro u5 w a hM hE
 have hM:=M.tailP (m:=[_,_]) hM.pull1
 obtain ⟨r7,e8,hF⟩:=bind_some hF
 refine Zl hE rfl Kk (Z9 _ _ _ _ b3 p0 v0_1 hv0_1 (r1.1,r1.2) ([8,8,100,101] : List Int) u5 hM r7 e8) ?_
 rintro v w a ⟨rfl,hM⟩ hE
 have hM:=M.tailU (m:=[_,_]) hM
 simp only [List.cons_append,List.nil_append] at hM
 have hM:=M.tailP (m:=[_]) hM
 obtain ⟨r9,e10,hF⟩:=bind_some hF
 refine Zl hE rfl (cbm Try.func48) (Us _ _ _ _ b3 p0 v0_1 hv0_1 (r7.1.1,r7.1.2) r7.2 hM r9 e10) ?_
 rintro u11 w a ⟨_,rfl,hM⟩ hE
 have hM:=M.tailU (m:=[_,_]) hM
 simp only [List.cons_append,List.nil_append] at hM
 refine US (xs:=[]) (S:=NoB) (l:=([] : List (List UInt8))) (vs:=[]) hE hM.emp noB Za ld rfl rfl rfl Try.underlying24 YS rfl (by decide) (fun _ h=>⟨rfl,h⟩) (fun _ h=>by cases h) fun u12 w a hM hE=>Zb hE rfl fun a hE=>Zb hE rfl fun a hE=>Ze (wp_seq (Zc (Zd hE rfl fun a hE=>Zd hE rfl ?_))); intro a hE
 have hM:=M.tailP (m:=[_]) hM.pull1
 obtain ⟨r14,e15,hF⟩:=bind_some hF
 refine Zl hE rfl UW (ZI _ _ _ _ b3 p0 v0_1 hv0_1 (r9.1.1,r9.1.2) 4 hM r14 e15) ?_
 rintro v w a ⟨rfl,hM⟩ hE
 have hM:=M.tailU (m:=[_]) hM
 simp only [List.cons_append,List.nil_append] at hM
 refine Zd hE rfl ?_; intro a hE
 have hM:=M.tailP (m:=[_]) hM
 obtain ⟨r16,e17,hF⟩:=bind_some hF
 refine Zl hE rfl UW (ZI _ _ _ _ b3 p0 v0_1 hv0_1 (r14.1.1,r14.1.2) 8 hM r16 e17) ?_
 rintro v w a ⟨rfl,hM⟩ hE
 have hM:=M.tailU (m:=[_]) hM
 simp only [List.cons_append,List.nil_append] at hM
 refine ZE (xs:=[.tmp 20,.tmp 22,.const (vI 8)]) (l:=([r14.2,r16.2,8] : List Int)) (vs:=[vI r14.2,vI r16.2,vI 8]) hE hM Za ld rfl rfl Try.underlying138 ty2 rfl (by decide) rfl ?_; intro u18 w a hM hE
 have hM:=M.tailP (m:=[_,_]) hM.pull1
 obtain ⟨r20,e21,hF⟩:=bind_some hF
 refine Zl hE rfl Kk (Z9 _ _ _ _ b3 p0 v0_1 hv0_1 (r16.1.1,r16.1.2) ([r14.2,r16.2,8] : List Int) u18 hM r20 e21) ?_
 rintro v w a ⟨rfl,hM⟩ hE
 have hM:=M.tailU (m:=[_,_]) hM
 simp only [List.cons_append,List.nil_append] at hM
 refine Zb hE rfl fun a hE=>Ze ?_
 obtain ⟨j22,hl23,hF24⟩:=bind_some hF
 refine Z6 (fun a w=>∃ (u25 : Value),Env 66 a [(6,(ptr b3 0)),(7,u11),(8,u25)] ∧ M (Old w0) w0 w [raw b3 (cat [[v0_1],[vI j22.1],[(Value.int .u64 j22.2.1)]]),osl NoB (r9.2 : List UInt8) u11,osl NoB (j22.2.2 : List (List UInt8)) u25]) ?_ ?_
 ·skip
  refine wp_block ?_
  have hM:=M.fst (l:=[_,_,_]) hM.pull2.pull3.pull2
  refine ZO (fun (s27 : Int × Int × (List (List UInt8)) × Int) a w=>∃ (u28 : Value),Env 66 a [(6,(ptr b3 0)),(7,u11),(8,u28),(9,vI s27.2.2.2)] ∧ M (Old w0) w0 w [raw b3 (cat [[v0_1],[vI s27.1],[(Value.int .u64 s27.2.1)]]),osl NoB (r9.2 : List UInt8) u11,osl NoB (s27.2.2.1 : List (List UInt8)) u28]) hl23 ⟨u12,hE.sub ⟨rfl,rfl,rfl,rfl,trivial⟩,hM⟩ ?_
  rintro s27 a w ⟨u28,hE,hM⟩ o32 hs30 hx31
  unfold Wi at hs30
  refine wp_seq (Zc (Zd hE rfl fun a hE=>Zk hE rfl rfl rfl fun a hE=>Ze ?_))
  refine Zm hE rfl ?_ ?_
  ·intro hb33
   have hs30:=Zp hs30 hb33
   refine wp_skip (Zx (wp_seq (wp_block (wp_region_lit (Zd hE rfl fun a hE=>Zd hE rfl fun a hE=>Zd hE rfl fun a hE=>ZQ hE rfl Try.underlying22 (hM.sl (pre:=[_]) noB) ?_))))); intro a hE
   have hM:=M.tailP (m:=[_]) hM
   obtain ⟨r34,e35,hs30⟩:=bind_some hs30
   refine Zl hE rfl (cbm Try.func51) (Th _ _ _ _ b3 p0 v0_1 hv0_1 (s27.1,s27.2.1) (r9.2.length : Int) hM r34 e35) ?_
   rintro u36 w a ⟨_,rfl,hM⟩ hE
   have hM:=M.tailU (m:=[_,_]) hM
   simp only [List.cons_append,List.nil_append] at hM
   have hc39:=WD (hM.sl (pre:=[_]) noB)
   have hM:=hM.pull1
   have hM:=hM.pack1 (it:=own NoB r34.2 ([u36])) (Vh noB) (fun f0 q0=>(X2.sat q0))
   refine U5 (xs:=[.tmp 33]) (seg:=[u36]) hE hM noB Za ld rfl hc39 Try.underlying24 YS rfl (by decide) ?_; intro u37 w a hM hE
   obtain ⟨l40,e41,hs30⟩:=bind_some hs30
   obtain ⟨e44,rfl⟩:=Yi e41
   have hM:=hM.pull3
   refine UA hE hM noB Za ld rfl rfl Try.underlying24 YS rfl (by decide) e44 fun u42 w a hM hE=>Zb hE rfl fun a hE=>Zi (YK (Zx (wp_region_lit (Zd hE rfl fun a hE=>Zk hE rfl rfl rfl fun a hE=>Zb hE rfl fun a hE=>Zi (Zj ?_)))))
   have hM:=hM.pull2.pull2
   exact ⟨_,(ois hs30),u42,hE.sub ⟨rfl,rfl,rfl,rfl,trivial⟩,hM⟩
  ·intro hb33
   have hs30:=Zo hs30 hb33
   refine wp_exit (Zs (Zs (Y6 ?_)))
   obtain rfl:=hx31 _ (ois hs30)
   refine Zj ?_
   exact ⟨u28,hE.sub ⟨rfl,rfl,rfl,trivial⟩,hM⟩
 ·skip
  rintro a w ⟨u25,hE,hM⟩
  refine Zx ?_
  obtain ⟨j46,hl47,hF48⟩:=bind_some hF24
  refine ZB (fun a w=>∃ (u49 : Value),Env 66 a [(6,(ptr b3 0)),(7,u11),(8,u49)] ∧ M (Old w0) w0 w [raw b3 (cat [[v0_1],[vI j46.1],[(Value.int .u64 j46.2.1)]]),osl NoB (r9.2 : List UInt8) u11,osl NoB (j46.2.2 : List (List UInt8)) u49]) ?_ ?_
  ·skip
   obtain ⟨j51,hl52,hF53⟩:=bind_some hl47
   refine ZB (fun a w=>Env 66 a [(6,(ptr b3 0)),(7,u11),(8,u25),(43,vT j51.2.2)] ∧ M (Old w0) w0 w [raw b3 (cat [[v0_1],[vI j51.1],[(Value.int .u64 j51.2.1)]]),osl NoB (r9.2 : List UInt8) u11,osl NoB (j22.2.2 : List (List UInt8)) u25]) ?_ ?_
   ·skip
    refine wp_region_lit (Zd hE rfl fun a hE=>ZQ hE rfl Try.underlying24 (hM.sl (pre:=[_,_]) noB) fun a hE=>Zk hE rfl rfl rfl fun a hE=>Zd hE rfl ?_); intro a hE
    refine ZZ (decide ((j22.2.2.length : Int) > 0)) (fun hb54=>?_) (fun hb54=>?_)
    ·have hl52:=Zp hl52 hb54
     refine Zh hE (Zf hE rfl (lkb rfl hb54)) (by decide) rfl ?_; intro a hE
     have hM:=M.tailP (m:=[_]) hM
     obtain ⟨r55,e56,hl52⟩:=bind_some hl52
     refine Z1 hE (Zf hE rfl (lkb rfl hb54)) (by decide) rfl UW (ZI _ _ _ _ b3 p0 v0_1 hv0_1 (j22.1,j22.2.1) 20 hM r55 e56) ?_
     rintro v w a ⟨rfl,hM⟩ hE
     have hM:=M.tailU (m:=[_]) hM
     simp only [List.cons_append,List.nil_append] at hM
     refine Z2 hE (Zf hE rfl (lkb rfl hb54)) (by decide) rfl rfl rfl fun a hE=>ZC hE (lkb rfl hb54) rfl fun a hE=>Zi ?_
     obtain rfl:=Option.some.inj hl52
     refine Zj ?_
     exact ⟨hE.sub ⟨rfl,rfl,rfl,rfl,trivial⟩,hM⟩
    ·have hl52:=Zo hl52 hb54
     refine Zg hE rfl (lkb rfl hb54) rfl (by decide) fun a hE=>Zg hE rfl (lkb rfl hb54) rfl (by decide) fun a hE=>Zg hE rfl (lkb rfl hb54) rfl (by decide) fun a hE=>ZL hE (lkb rfl hb54) rfl fun a hE=>Zi ?_
     obtain rfl:=Option.some.inj hl52
     refine Zj ?_
     exact ⟨hE.sub ⟨rfl,rfl,rfl,rfl,trivial⟩,hM⟩
   ·skip
    rintro a w ⟨hE,hM⟩
    refine Zm hE rfl ?_ ?_
    ·intro hb59
     have hF53:=Zp hF53 hb59
     refine wp_region_lit (Zd hE rfl fun a hE=>Zd hE rfl ?_); intro a hE
     obtain ⟨x60,hi62,hF53⟩:=bix hF53
     refine ZD hE rfl rfl Try.underlying24 YS (hM.sl (pre:=[_,_]) noB) hi62.1 ?_; intro a hE
     have hM:=hM.pull2
     obtain ⟨cs63,hM,_⟩:=hM.open1 noB hi62.2
     obtain ⟨_,hx,_⟩:=hM.head
     obtain ⟨u64,rfl⟩:=Uo hx
     refine ZM (v:=u64) hE rfl YS rfl (hM.holeAt (pre:=[_])) fun a hE=>ZE (xs:=[.const (vB 1)]) (l:=([1] : List UInt8)) (vs:=[vB 1]) hE hM Za ld rfl rfl Try.underlying22 ty5 rfl (by decide) rfl ?_; intro u66 w a hM hE
     have hM:=hM.pull1.toOsl0
     obtain ⟨l68,e69,hF53⟩:=bind_some hF53
     obtain ⟨e72,rfl⟩:=Yi e69
     refine YE hE hM Za ld rfl rfl (hM.sl (pre:=[_]) noB) Try.underlying22 ty5 rfl (by decide) e72 ?_; intro u70 w a hM hE
     obtain ⟨x73,hi75,hF53⟩:=bix hF53
     refine QQ (pre:=[_,_]) hE hM Za ld rfl rfl Try.underlying24 YS hi75.1 ?_; intro a hE
     have hM:=hM.pull2
     refine JW (k0:=0) (seg:=[u70]) (cs':=[u70]) hE hM noB Za rfl rfl (WD (hM.sl (pre:=[_]) noB)) YS rfl (Rep.cell (hM.sl (pre:=[_]) noB)) (Nat.le_of_eq ((Nat.zero_add _).trans rfl)) (ZX rfl) ?_; intro w a hM hE
     have hM:=(hM.pull4.pull4.pull4.pull3.pull4.toOwn noB).close1 noB
     refine Zi ?_
     obtain rfl:=Option.some.inj hF53
     refine Zj ?_
     have hM:=M.fst (l:=[_,_,_]) hM.pull3.pull3
     exact ⟨u25,hE.sub ⟨rfl,rfl,rfl,trivial⟩,hM⟩
    ·intro hb59
     have hF53:=Zo hF53 hb59
     refine wp_skip ?_
     obtain rfl:=Option.some.inj hF53
     refine Zj ?_
     exact ⟨u25,hE.sub ⟨rfl,rfl,rfl,trivial⟩,hM⟩
  ·skip
   rintro a w ⟨u49,hE,hM⟩
   refine Zc (Zd hE rfl ?_); intro a hE
   have hM:=M.tailP (m:=[_]) hM
   obtain ⟨r78,e79,hF48⟩:=bind_some hF48
   refine Zl hE rfl (cbm Try.func52) (KS _ _ _ _ b3 p0 v0_1 hv0_1 (j46.1,j46.2.1) hM r78 e79) ?_
   rintro v w a ⟨rfl,hM⟩ hE
   have hM:=M.tailU (m:=[_]) hM
   simp only [List.cons_append,List.nil_append] at hM
   refine Zd hE rfl fun a hE=>Zd hE rfl fun a hE=>Zd hE rfl fun a hE=>Zd hE rfl fun a hE=>Zd hE rfl ?_; intro a hE
   have hM:=M.tailP (m:=[_]) hM
   obtain ⟨r80,e81,hF48⟩:=bind_some hF48
   refine Zl hE rfl UW (ZI _ _ _ _ b3 p0 v0_1 hv0_1 (r78.1.1,r78.1.2) 5 hM r80 e81) ?_
   rintro v w a ⟨rfl,hM⟩ hE
   have hM:=M.tailU (m:=[_]) hM
   simp only [List.cons_append,List.nil_append] at hM
   refine Zk hE rfl rfl rfl fun a hE=>Zd hE rfl ?_; intro a hE
   have hM:=M.tailP (m:=[_]) hM
   obtain ⟨r82,e83,hF48⟩:=bind_some hF48
   refine Zl hE rfl UW (ZI _ _ _ _ b3 p0 v0_1 hv0_1 (r80.1.1,r80.1.2) 12 hM r82 e83) ?_
   rintro v w a ⟨rfl,hM⟩ hE
   have hM:=M.tailU (m:=[_]) hM
   simp only [List.cons_append,List.nil_append] at hM
   refine Zk hE rfl rfl rfl fun a hE=>ZE (xs:=[.tmp 59,.tmp 62,.const (vI 0),.const (vI 13)]) (l:=([wr (1 + r80.2),wr (1 + r82.2),0,13] : List Int)) (vs:=[(vI (wr (1 + r80.2))),(vI (wr (1 + r82.2))),vI 0,vI 13]) hE hM Za ld rfl rfl Try.underlying138 ty2 rfl (by decide) rfl ?_; intro u84 w a hM hE
   have hM:=M.tailP (m:=[_,_]) hM.pull1
   obtain ⟨r86,e87,hF48⟩:=bind_some hF48
   refine Zl hE rfl Kk (Z9 _ _ _ _ b3 p0 v0_1 hv0_1 (r82.1.1,r82.1.2) ([wr (1 + r80.2),wr (1 + r82.2),0,13] : List Int) u84 hM r86 e87) ?_
   rintro v w a ⟨rfl,hM⟩ hE
   have hM:=M.tailU (m:=[_,_]) hM
   simp only [List.cons_append,List.nil_append] at hM
   have hM:=M.tailP (m:=[_]) hM
   obtain ⟨r88,e89,hF48⟩:=bind_some hF48
   refine Zl hE rfl (cbm Try.func53) (Um _ _ _ _ b3 p0 v0_1 hv0_1 (r86.1.1,r86.1.2) r86.2 hM r88 e89) ?_
   rintro u90 w a ⟨_,rfl,hM⟩ hE
   have hM:=M.tailU (m:=[_,_]) hM
   simp only [List.cons_append,List.nil_append] at hM
   refine Zb hE rfl fun a hE=>Zb hE rfl fun a hE=>Zb hE rfl fun a hE=>Zb hE rfl fun a hE=>Ze ?_
   obtain rfl:=Option.some.inj hF48
   have hM:=M.fst (l:=[_,_,_]) hM.pull1.pull4.pull4
   exact wp_ret (A7 hE rfl (Zq hE rfl) (Zq hE rfl) (Zq hE rfl) (Zq hE rfl) ⟨_,rfl,u11,u49,u90,rfl,hM.outF (YG (YG (YG YP))),hM.kept⟩)
def YU (p0 : Int) (p1 : Int) (p2 : Int) : Option (Bool) :=
 (if (decide (p1 ≤ p0)) = true then (some (decide (p0 ≤ p2))) else (some false) : Option (Bool)).bind fun j1=>some j1
theorem Vr (w0 : World) (p0 : Int) (p1 : Int) (p2 : Int) (r : Bool) (hF : YU p0 p1 p2 = some r) :
  Calls Try.prog 56 [vI p0,vI p1,vI p2].toArray w0 (Rt w0 (vT r)):=by
 refine ce Try.func56 ?_
 intro a hE
 have hM:=M.start w0
 unfold YU at hF
 refine Zc (Zb hE rfl fun a hE=>Ze ?_)
 obtain ⟨j1,hl2,hF3⟩:=bind_some hF
 refine ZB (fun a w=>Env 15 a [(6,vT j1)] ∧ M (Old w0) w0 w []) ?_ ?_
 ·skip
  refine wp_region_lit (Zd hE rfl fun a hE=>Zd hE rfl fun a hE=>Zk hE rfl rfl rfl fun a hE=>Zd hE rfl ?_); intro a hE
  refine ZZ (decide (p1 ≤ p0)) (fun hb4=>?_) (fun hb4=>?_)
  ·have hl2:=Zp hl2 hb4
   refine Zh hE (Zf hE rfl (lkb rfl hb4)) (by decide) rfl fun a hE=>Zh hE (Zf hE rfl (lkb rfl hb4)) (by decide) rfl fun a hE=>Z2 hE (Zf hE rfl (lkb rfl hb4)) (by decide) rfl rfl rfl fun a hE=>ZC hE (lkb rfl hb4) rfl fun a hE=>Zb hE rfl fun a hE=>Zi ?_
   obtain rfl:=Option.some.inj hl2
   refine Zj ?_
   exact ⟨hE.sub ⟨rfl,trivial⟩,hM⟩
  ·have hl2:=Zo hl2 hb4
   refine Zg hE rfl (lkb rfl hb4) rfl (by decide) fun a hE=>Zg hE rfl (lkb rfl hb4) rfl (by decide) fun a hE=>Zg hE rfl (lkb rfl hb4) rfl (by decide) fun a hE=>ZL hE (lkb rfl hb4) rfl fun a hE=>Zb hE rfl fun a hE=>Zi ?_
   obtain rfl:=Option.some.inj hl2
   refine Zj ?_
   exact ⟨hE.sub ⟨rfl,trivial⟩,hM⟩
 ·skip
  rintro a w ⟨hE,hM⟩
  obtain rfl:=Option.some.inj hF3
  exact wp_ret (kr1 hE rfl rfl hM.kept)
def YW (p1 : Int) (p2 : Int) (s4 : Int × Int) : Option (Fl (Int × Int) Int) :=
 if (decide (s4.2 ≥ p2)) = true then (((Xf s4.2).bind fun _=>(if ((andI (Ti s4.1 s4.2) 1) == 1) = true then ((Xf (wr (s4.2 - p2))).bind fun _=>some (Ka s4.1 (T1 p1 (wr (s4.2 - p2))))) else (some s4.1) : Option (Int)).bind fun j13=>some j13 : Option (Int)).bind fun j9=>some (Fl.nx (j9,wr (s4.2 - 1)))) else (some (Fl.ex s4.1))
def WN (p0 : Int) (p1 : Int) (p2 : Int) : Option (Int) :=
 (ZJ (YW p1 p2) (p0,15)).bind fun j1=>some j1
theorem KP (w0 : World) (p0 : Int) (p1 : Int) (p2 : Int) (r : Int) (hF : WN p0 p1 p2 = some r) :
  Calls Try.prog 120 [vI p0,vI p1,vI p2].toArray w0 (Rt w0 (vI r)):=by
 refine ce Try.func120 ?_
 intro a hE
 have hM:=M.start w0
 unfold WN at hF
 refine Zc (Zb hE rfl fun a hE=>Ze (wp_seq (Zc (Zb hE rfl fun a hE=>Ze ?_))))
 obtain ⟨j1,hl2,hF3⟩:=bind_some hF
 refine Z6 (fun a w=>Env 26 a [(0,vI j1)] ∧ M (Old w0) w0 w []) ?_ ?_
 ·skip
  refine wp_block ?_
  refine ZO (fun (s4 : Int × Int) a w=>Env 26 a [(0,vI s4.1),(1,vI p1),(2,vI p2),(7,vI s4.2)] ∧ M (Old w0) w0 w []) hl2 ⟨hE.sub ⟨rfl,rfl,rfl,rfl,trivial⟩,hM⟩ ?_
  rintro s4 a w ⟨hE,hM⟩ o7 hs5 hx6
  unfold YW at hs5
  refine wp_seq (Zc (Zd hE rfl fun a hE=>Zd hE rfl fun a hE=>Zk hE rfl rfl rfl fun a hE=>Ze ?_))
  refine Zm hE rfl ?_ ?_
  ·intro hb8
   have hs5:=Zp hs5 hb8
   refine wp_skip (Zx ?_)
   obtain ⟨j9,hl10,hF11⟩:=bind_some hs5
   refine ZB (fun a w=>Env 26 a [(0,vI j9),(1,vI p1),(2,vI p2),(7,vI s4.2)] ∧ M (Old w0) w0 w []) ?_ ?_
   ·skip
    refine wp_block (Zc (Zd hE rfl fun a hE=>Zd hE rfl ?_)); intro a hE
    obtain ⟨_,e12,hl10⟩:=bind_some hl10
    have e12:=Vt e12
    refine HW hE Za ld rfl rfl (bI_shr _ _ e12) fun a hE=>Zk hE rfl rfl rfl fun a hE=>Zk hE rfl rfl rfl fun a hE=>Ze ?_
    obtain ⟨j13,hl14,hF15⟩:=bind_some hl10
    refine Z6 (fun a w=>Env 26 a [(0,vI j13),(1,vI p1),(2,vI p2),(7,vI s4.2)] ∧ M (Old w0) w0 w []) ?_ ?_
    ·skip
     refine Zm hE rfl ?_ ?_
     ·intro hb16
      have hl14:=Zp hl14 hb16
      refine wp_region_lit (Zd hE rfl fun a hE=>Zd hE rfl fun a hE=>Zd hE rfl fun a hE=>Zd hE rfl fun a hE=>Zk hE rfl rfl rfl ?_); intro a hE
      obtain ⟨_,e17,hl14⟩:=bind_some hl14
      have e17:=Vt e17
      refine HW hE Za ld rfl rfl (JA _ _ e17) fun a hE=>Zk hE rfl rfl rfl fun a hE=>Zb hE rfl fun a hE=>Zi ?_
      obtain rfl:=Option.some.inj hl14
      refine Zj ?_
      exact ⟨hE.sub ⟨rfl,rfl,rfl,rfl,trivial⟩,hM⟩
     ·intro hb16
      have hl14:=Zo hl14 hb16
      refine wp_skip ?_
      obtain rfl:=Option.some.inj hl14
      refine Zj ?_
      exact ⟨hE.sub ⟨rfl,rfl,rfl,rfl,trivial⟩,hM⟩
    ·skip
     rintro a w ⟨hE,hM⟩
     refine YK ?_
     obtain rfl:=Option.some.inj hF15
     refine Zj ?_
     exact ⟨hE.sub ⟨rfl,rfl,rfl,rfl,trivial⟩,hM⟩
   ·skip
    rintro a w ⟨hE,hM⟩
    refine wp_region_lit (Zd hE rfl fun a hE=>Zk hE rfl rfl rfl fun a hE=>Zb hE rfl fun a hE=>Zi (Zj ?_))
    exact ⟨_,(ois hF11),hE.sub ⟨rfl,rfl,rfl,rfl,trivial⟩,hM⟩
  ·intro hb8
   have hs5:=Zo hs5 hb8
   refine wp_exit (Zs (Zs (Y6 ?_)))
   obtain rfl:=hx6 _ (ois hs5)
   refine Zj ?_
   exact ⟨hE.sub ⟨rfl,trivial⟩,hM⟩
 ·skip
  rintro a w ⟨hE,hM⟩
  refine Zx (Zc (Zd hE rfl fun a hE=>Zb hE rfl fun a hE=>Ze ?_))
  obtain rfl:=Option.some.inj hF3
  exact wp_ret (kr1 hE rfl rfl hM.kept)
def Wb (p0 : Int) (s8 : Int) (s18 : Int) : Option (Fl Int (Fl Unit Bool)) :=
 (Xf s8).bind fun _=>if (decide (s18 < (T1 2 s8))) = true then ((WN p0 s18 s8).bind fun r24=>if (r24 == 0) = true then (some (Fl.ex (Fl.ex false))) else (some (Fl.nx (wr (s18 + 1))))) else (some (Fl.ex (Fl.nx ())))
def Wg (p0 : Int) (s8 : Int) : Option (Fl Int (Fl Unit Bool)) :=
 if (decide (s8 ≤ 4)) = true then ((Xf s8).bind fun _=>(ZJ (Wb p0 s8) (T1 1 s8)).bind fun j14=>j14.el (fun s17=>some (Fl.nx (wr (s8 + 1)))) (fun r=>some (Fl.ex (Fl.ex r)))) else (some (Fl.ex (Fl.nx ())))
def XN (p0 : Int) : Option (Bool) :=
 (YU p0 256 511).bind fun r1=>if (!r1) = true then (some false) else ((ZJ (Wg p0) 1).bind fun j4=>j4.el (fun s7=>some true) (fun r=>some r))
theorem UD (w0 : World) (p0 : Int) (r : Bool) (hF : XN p0 = some r) :
  Calls Try.prog 54 [vI p0].toArray w0 (Rt w0 (vT r)):=by
 refine ce Try.func54 ?_
 intro a hE
 have hM:=M.start w0
 unfold XN at hF
 refine Zc (Zb hE rfl fun a hE=>Ze (wp_seq (Zc (Zd hE rfl ?_)))); intro a hE
 obtain ⟨r1,e2,hF⟩:=bind_some hF
 refine Zl hE rfl cb56 (Vr _ p0 256 511 r1 e2) ?_
 rintro v w a ⟨rfl,hK⟩ hE
 have hM:=hM.keep hK
 refine VW hE rfl fun a hE=>Ze ?_
 refine Zm hE rfl ?_ ?_
 ·intro hb3
  have hF:=Zp hF hb3
  refine Zc (Zb hE rfl fun a hE=>Ze ?_)
  obtain rfl:=Option.some.inj hF
  exact wp_ret (Zr (kr1 hE rfl rfl hM.kept))
 ·intro hb3
  have hF:=Zo hF hb3
  refine wp_skip (Zx (wp_seq (Zc (Zb hE rfl fun a hE=>Ze ?_))))
  obtain ⟨j4,hl5,hF6⟩:=bind_some hF
  refine Z6 (fun a w=>∃ s7 : Unit,j4 = Fl.nx s7 ∧ Env 25 a [] ∧ M (Old w0) w0 w []) ?_ ?_
  ·skip
   refine wp_block ?_
   refine ZO (fun (s8 : Int) a w=>Env 25 a [(0,vI p0),(3,vI s8)] ∧ M (Old w0) w0 w []) hl5 ⟨hE.sub ⟨rfl,rfl,trivial⟩,hM⟩ ?_
   rintro s8 a w ⟨hE,hM⟩ o11 hs9 hx10
   unfold Wg at hs9
   refine wp_seq (Zc (Zd hE rfl fun a hE=>Zk hE rfl rfl rfl fun a hE=>Ze ?_))
   refine Zm hE rfl ?_ ?_
   ·intro hb12
    have hs9:=Zp hs9 hb12
    refine wp_skip (Zx (wp_seq (wp_block (Zc (Zd hE rfl ?_))))); intro a hE
    obtain ⟨_,e13,hs9⟩:=bind_some hs9
    have e13:=Vt e13
    refine HW hE Za ld rfl rfl (JA _ _ e13) fun a hE=>Zb hE rfl fun a hE=>Ze ?_
    obtain ⟨j14,hl15,hF16⟩:=bind_some hs9
    refine Z6 (fun a w=>∃ s17 : Unit,j14 = Fl.nx s17 ∧ Env 25 a [(0,vI p0),(3,vI s8)] ∧ M (Old w0) w0 w []) ?_ ?_
    ·skip
     refine wp_block ?_
     refine ZO (fun (s18 : Int) a w=>Env 25 a [(0,vI p0),(3,vI s8),(4,vI s18)] ∧ M (Old w0) w0 w []) hl15 ⟨hE.sub ⟨rfl,rfl,rfl,trivial⟩,hM⟩ ?_
     rintro s18 a w ⟨hE,hM⟩ o21 hs19 hx20
     unfold Wb at hs19
     refine wp_seq (Zc (Zd hE rfl fun a hE=>Zd hE rfl ?_)); intro a hE
     obtain ⟨_,e22,hs19⟩:=bind_some hs19
     have e22:=Vt e22
     refine HW hE Za ld rfl rfl (JA _ _ e22) fun a hE=>Zk hE rfl rfl rfl fun a hE=>Ze ?_
     refine Zm hE rfl ?_ ?_
     ·intro hb23
      have hs19:=Zp hs19 hb23
      refine wp_skip (Zx (wp_seq (wp_block (Zc (Zd hE rfl fun a hE=>Zd hE rfl fun a hE=>Zd hE rfl ?_))))); intro a hE
      obtain ⟨r24,e25,hs19⟩:=bind_some hs19
      refine Zl hE rfl (cbm Try.func120) (KP _ p0 s18 s8 r24 e25) ?_
      rintro v w a ⟨rfl,hK⟩ hE
      have hM:=hM.keep hK
      refine Zk hE rfl rfl rfl fun a hE=>Ze ?_
      refine Zm hE rfl ?_ ?_
      ·intro hb26
       have hs19:=Zp hs19 hb26
       refine Zc (Zb hE rfl fun a hE=>Ze ?_)
       obtain rfl:=hx20 _ (ois hs19)
       obtain rfl:=hx10 _ (ois hF16)
       obtain rfl:=Option.some.inj hF6
       exact wp_ret (Yh (Zr (Zr (Yh (Zr (Yh (Zr (Zr (Yh (Zr (Zr (kr1 hE rfl rfl hM.kept))))))))))))
      ·intro hb26
       have hs19:=Zo hs19 hb26
       refine wp_skip (YK (Zx (wp_region_lit (Zd hE rfl fun a hE=>Zk hE rfl rfl rfl fun a hE=>Zb hE rfl fun a hE=>Zi (Zj ?_)))))
       exact ⟨_,(ois hs19),hE.sub ⟨rfl,rfl,rfl,trivial⟩,hM⟩
     ·intro hb23
      have hs19:=Zo hs19 hb23
      refine wp_exit (Zs (Zs (Y6 ?_)))
      obtain rfl:=hx20 _ (ois hs19)
      refine Zj ?_
      exact ⟨(),rfl,hE.sub ⟨rfl,rfl,trivial⟩,hM⟩
    ·skip
     rintro a w ⟨s17,ht,hE,hM⟩
     subst ht
     have hF16:=VV hF16
     refine YK (Zx (wp_region_lit (Zd hE rfl fun a hE=>Zk hE rfl rfl rfl fun a hE=>Zb hE rfl fun a hE=>Zi (Zj ?_))))
     exact ⟨_,(ois hF16),hE.sub ⟨rfl,rfl,trivial⟩,hM⟩
   ·intro hb12
    have hs9:=Zo hs9 hb12
    refine wp_exit (Zs (Zs (Y6 ?_)))
    obtain rfl:=hx10 _ (ois hs9)
    refine Zj ?_
    exact ⟨(),rfl,hE.sub trivial,hM⟩
  ·skip
   rintro a w ⟨s7,ht,hE,hM⟩
   subst ht
   have hF6:=VV hF6
   refine Zx (Zc (Zb hE rfl fun a hE=>Ze ?_))
   obtain rfl:=Option.some.inj hF6
   exact wp_ret (kr1 hE rfl rfl hM.kept)
def Xp (p0 : (List (List UInt8))) (p1 : (List UInt8) → Option (Bool)) (s5 : Int) : Option (Fl Int (Fl Unit Int)) :=
 if (decide (s5 < (p0.length : Int))) = true then ((idx p0 s5).bind fun x10=>((p1 x10)).bind fun r18=>if r18 = true then (some (Fl.ex (Fl.ex s5))) else (some (Fl.nx (wr (s5 + 1))))) else (some (Fl.ex (Fl.nx ())))
def YJ (p0 : (List (List UInt8))) (p1 : (List UInt8) → Option (Bool)) : Option (Int) :=
 (ZJ (Xp p0 p1) 0).bind fun j1=>j1.el (fun s4=>some (-1)) (fun r=>some r)
theorem Up (w0 : World) (p0 : (List (List UInt8))) (v0_1 : Value) (hv0_1 : Ro w0 p0 [v0_1]) (p1 : (List UInt8) → Option (Bool)) (k1 : Nat) (q1 : List Value) (hcb1 : Callable Try.prog k1) (hg1 : ∀ (w2 : World),Kept (Old w0) w0 w2 → ∀ (z0 : (List UInt8)) (zu1 : Value) (_ : Ro w2 z0 [zu1]) (zr : Bool),p1 z0 = some zr → Calls Try.prog k1 ([zu1] ++ q1).toArray w2 (fun en w3=>∃ v,en = .returned v ∧ (v = (vT zr) ∧ Kept (Old w2) w2 w3))) (r : Int) (hF : YJ p0 p1 = some r) :
  Calls Try.prog 175 [v0_1,(Value.func (.func k1) #[] q1.toArray)].toArray w0 (Rt w0 (vI r)):=by
 refine ce Try.func175 ?_
 intro a hE
 have hM:=M.start w0
 unfold YJ at hF
 refine Zc (Zb hE rfl fun a hE=>Ze (wp_seq (Zc (Zd hE rfl fun a hE=>ZQ hE rfl Try.underlying24 (hM.rd hv0_1) fun a hE=>Zd hE rfl fun a hE=>Ze ?_))))
 obtain ⟨j1,hl2,hF3⟩:=bind_some hF
 refine Z6 (fun a w=>∃ s4 : Unit,j1 = Fl.nx s4 ∧ Env 19 a [] ∧ M (Old w0) w0 w []) ?_ ?_
 ·skip
  refine wp_block ?_
  refine ZO (fun (s5 : Int) a w=>Env 19 a [(0,v0_1),(1,(Value.func (.func k1) #[] q1.toArray)),(7,(vI (p0.length : Int))),(8,vI s5)] ∧ M (Old w0) w0 w []) hl2 ⟨hE.sub ⟨rfl,rfl,rfl,rfl,trivial⟩,hM⟩ ?_
  rintro s5 a w ⟨hE,hM⟩ o8 hs6 hx7
  unfold Xp at hs6
  refine Zc (Zk hE rfl rfl rfl fun a hE=>Ze (wp_seq ?_))
  refine Zm hE rfl ?_ ?_
  ·intro hb9
   have hs6:=Zp hs6 hb9
   refine wp_skip (Zx (wp_seq (wp_block (Zc (Zd hE rfl fun a hE=>Zb hE rfl fun a hE=>Ze (Zc (Zd hE rfl fun a hE=>Zd hE rfl fun a hE=>Zd hE rfl ?_))))))); intro a hE
   obtain ⟨x10,hi12,hs6⟩:=bix hs6
   refine ZD hE rfl rfl Try.underlying24 YS (hM.rd hv0_1) hi12.1 ?_; intro a hE
   obtain ⟨cs13,hs14,hA15⟩:=Yc hv0_1 hi12.2 -- ^
   obtain ⟨u16,rfl⟩:=Uo hs14 -- ^
   have h17:=hs14 -- ^
   refine ZM (v:=u16) hE rfl YS rfl (hM.atk hA15 (YI hv0_1 hi12.2)) ?_; intro a hE
   obtain ⟨r18,e19,hs6⟩:=bind_some hs6
   refine Bh (vs:=[u16]) hE Za ld rfl rfl hcb1 (hg1 _ hM.kept x10 u16 (hM.rdo h17) r18 e19) ?_
   rintro v w a ⟨rfl,hK⟩ hE
   have hM:=hM.keep hK
   refine Ze ?_
   refine Zm hE rfl ?_ ?_
   ·intro hb20
    have hs6:=Zp hs6 hb20
    refine Zc (Zd hE rfl fun a hE=>Zb hE rfl fun a hE=>Ze ?_)
    obtain rfl:=hx7 _ (ois hs6)
    obtain rfl:=Option.some.inj hF3
    exact wp_ret (Yh (Zr (Zr (Yh (Zr (Zr (kr1 hE rfl rfl hM.kept)))))))
   ·intro hb20
    have hs6:=Zo hs6 hb20
    refine wp_skip (YK (Zx (wp_region_lit (Zk hE rfl rfl rfl fun a hE=>Zd hE rfl fun a hE=>Zi (Zj ?_)))))
    exact ⟨_,(ois hs6),hE.sub ⟨rfl,rfl,rfl,rfl,trivial⟩,hM⟩
  ·intro hb9
   have hs6:=Zo hs6 hb9
   refine wp_exit (Zs (Zs (Y6 ?_)))
   obtain rfl:=hx7 _ (ois hs6)
   refine Zj ?_
   exact ⟨(),rfl,hE.sub trivial,hM⟩
 ·skip
  rintro a w ⟨s4,ht,hE,hM⟩
  subst ht
  have hF3:=VV hF3
  refine Zx (Zc (Zb hE rfl fun a hE=>Ze ?_))
  obtain rfl:=Option.some.inj hF3
  exact wp_ret (kr1 hE rfl rfl hM.kept)
def Z5 (p0 : (List (List UInt8))) (p1 : (List UInt8) → Option (Bool)) : Option (Bool) :=
 (YJ p0 p1).bind fun r1=>some (decide (r1 ≥ 0))
theorem V5 (w0 : World) (p0 : (List (List UInt8))) (v0_1 : Value) (hv0_1 : Ro w0 p0 [v0_1]) (p1 : (List UInt8) → Option (Bool)) (k1 : Nat) (q1 : List Value) (hcb1 : Callable Try.prog k1) (hg1 : ∀ (w2 : World),Kept (Old w0) w0 w2 → ∀ (z0 : (List UInt8)) (zu1 : Value) (_ : Ro w2 z0 [zu1]) (zr : Bool),p1 z0 = some zr → Calls Try.prog k1 ([zu1] ++ q1).toArray w2 (fun en w3=>∃ v,en = .returned v ∧ (v = (vT zr) ∧ Kept (Old w2) w2 w3))) (r : Bool) (hF : Z5 p0 p1 = some r) :
  Calls Try.prog 121 [v0_1,(Value.func (.func k1) #[] q1.toArray)].toArray w0 (Rt w0 (vT r)):=by
 refine ce Try.func121 ?_
 intro a hE
 have hM:=M.start w0
 unfold Z5 at hF
 refine Zc (Zb hE rfl fun a hE=>Ze (Zc (Zd hE rfl fun a hE=>Zd hE rfl ?_))); intro a hE
 obtain ⟨r1,e2,hF⟩:=bind_some hF
 refine Zl hE rfl (cbm Try.func175) (Up _ p0 v0_1 (hM.rdo hv0_1) p1 k1 q1 hcb1 (fun w2 hk2=>hg1 w2 (hM.kept.trans hk2)) r1 e2) ?_
 rintro v w a ⟨rfl,hK⟩ hE
 have hM:=hM.keep hK
 refine Zk hE rfl rfl rfl fun a hE=>Zb hE rfl fun a hE=>Ze ?_
 obtain rfl:=Option.some.inj hF
 exact wp_ret (kr1 hE rfl rfl hM.kept)
def YR (p0 : (List UInt8)) (p1 : Int) : Option (Bool) :=
 some ((p0.length : Int) != p1)
theorem U4 (w0 : World) (p0 : (List UInt8)) (v0_1 : Value) (hv0_1 : Ro w0 p0 [v0_1]) (pb1 : Nat) (p1 : Int) (hA1 : At w0 pb1 0 ([vI p1])) (hB1 : Old w0 pb1) (r : Bool) (hF : YR p0 p1 = some r) :
  Calls Try.prog 122 [v0_1,(ptr pb1 0)].toArray w0 (Rt w0 (vT r)):=by
 refine ce Try.func122 ?_
 intro a hE
 have hM:=M.start w0
 unfold YR at hF
 refine Zc (Zb hE rfl fun a hE=>Ze (Zc (Zd hE rfl fun a hE=>ZQ hE rfl Try.underlying22 (hM.rd hv0_1) fun a hE=>ZM (v:=(vI p1)) hE rfl ty3 rfl (hM.atk hA1 hB1) fun a hE=>Zk hE rfl rfl rfl fun a hE=>Zb hE rfl fun a hE=>Ze ?_)))
 obtain rfl:=Option.some.inj hF
 exact wp_ret (kr1 hE rfl rfl hM.kept)
def YC (p0 : (List (List UInt8))) (p1 : Int) : Option (Bool) :=
 (if (decide ((p0.length : Int) ≤ 7)) = true then ((Z5 p0 (fun z0=>YR z0 p1)).bind fun r7=>some (!r7)) else (some false) : Option (Bool)).bind fun j3=>some j3
theorem V8 (w0 : World) (p0 : (List (List UInt8))) (v0_1 : Value) (hv0_1 : Ro w0 p0 [v0_1]) (p1 : Int) (r : Bool) (hF : YC p0 p1 = some r) :
  Calls Try.prog 55 [v0_1,vI p1].toArray w0 (Rt w0 (vT r)):=by
 refine ce Try.func55 ?_
 intro a hE
 have hM:=M.start w0
 unfold YC at hF
 refine Zc (Q3 (cs:=[vI p1]) hE hM Za ld rfl rfl fun b1 w a hM hE=>Zb hE rfl fun a hE=>Ze ?_)
 obtain ⟨j3,hl4,hF5⟩:=bind_some hF
 refine ZB (fun a w=>Env 14 a [(4,vT j3)] ∧ M (Old w0) w0 w []) ?_ ?_
 ·skip
  refine wp_region_lit (Zd hE rfl fun a hE=>ZQ hE rfl Try.underlying24 (hM.rd hv0_1) fun a hE=>Zk hE rfl rfl rfl fun a hE=>Zd hE rfl ?_); intro a hE
  refine ZZ (decide ((p0.length : Int) ≤ 7)) (fun hb6=>?_) (fun hb6=>?_)
  ·have hl4:=Zp hl4 hb6
   refine Zh hE (Zf hE rfl (lkb rfl hb6)) (by decide) rfl fun a hE=>JN hE (Zf hE rfl (lkb rfl hb6)) (by decide) rfl ?_; intro a hE
   obtain ⟨r7,e8,hl4⟩:=bind_some hl4
   refine Z1 hE (Zf hE rfl (lkb rfl hb6)) (by decide) rfl (cbm Try.func121) (V5 _ p0 v0_1 (hM.rdo hv0_1) (fun z0=>YR z0 p1) 122 [(ptr b1 0)] (cbm Try.func122) (fun w2 hk2 z0 zu0_0 zh0_0 zr zhr=>U4 w2 z0 zu0_0 zh0_0 b1 p1 (H8 hM.rawAt0 hk2 (by simp [cat])) (KQ hM.rawAt0 hk2 (by simp [cat])) zr zhr) r7 e8) ?_
   rintro v w a ⟨rfl,hK⟩ hE
   have hM:=hM.keep hK
   refine V7 hE (Zf hE rfl (lkb rfl hb6)) (by decide) rfl fun a hE=>ZC hE (lkb rfl hb6) rfl fun a hE=>Zb hE rfl fun a hE=>Zi ?_
   obtain rfl:=Option.some.inj hl4
   refine Zj ?_
   have hM:=M.fst (l:=[]) hM
   exact ⟨hE.sub ⟨rfl,trivial⟩,hM⟩
  ·have hl4:=Zo hl4 hb6
   refine Zg hE rfl (lkb rfl hb6) rfl (by decide) fun a hE=>Zg hE rfl (lkb rfl hb6) rfl (by decide) fun a hE=>Zg hE rfl (lkb rfl hb6) rfl (by decide) fun a hE=>Zg hE rfl (lkb rfl hb6) rfl (by decide) fun a hE=>ZL hE (lkb rfl hb6) rfl fun a hE=>Zb hE rfl fun a hE=>Zi ?_
   obtain rfl:=Option.some.inj hl4
   refine Zj ?_
   have hM:=M.fst (l:=[]) hM
   exact ⟨hE.sub ⟨rfl,trivial⟩,hM⟩
 ·skip
  rintro a w ⟨hE,hM⟩
  obtain rfl:=Option.some.inj hF5
  exact wp_ret (kr1 hE rfl rfl hM.kept)
def WT (p0 : (List UInt8)) : Option (Int) :=
 some (p0.length : Int)
theorem Qx (w0 : World) (p0 : (List UInt8)) (v0_1 : Value) (hv0_1 : Ro w0 p0 [v0_1]) (r : Int) (hF : WT p0 = some r) :
  Calls Try.prog 57 [v0_1].toArray w0 (Rt w0 (vI r)):=by
 refine ce Try.func57 ?_
 intro a hE
 have hM:=M.start w0
 unfold WT at hF
 refine Zc (Zb hE rfl fun a hE=>Ze (Zc (Zd hE rfl fun a hE=>ZQ hE rfl Try.underlying22 (hM.rd hv0_1) fun a hE=>Zb hE rfl fun a hE=>Ze ?_)))
 obtain rfl:=Option.some.inj hF
 exact wp_ret (kr1 hE rfl rfl hM.kept)
def Xq (p0 : (List UInt8)) (p1 : UInt8) : Option (Int) :=
 some (indexByte p0 p1)
theorem UT (w0 : World) (p0 : (List UInt8)) (v0_1 : Value) (hv0_1 : Ro w0 p0 [v0_1]) (p1 : UInt8) (r : Int) (hF : Xq p0 p1 = some r) :
  Calls Try.prog 123 [v0_1,vB p1].toArray w0 (Rt w0 (vI r)):=by
 refine ce Try.func123 ?_
 intro a hE
 have hM:=M.start w0
 unfold Xq at hF
 refine Zc (Zb hE rfl fun a hE=>Ze (Zc (Zd hE rfl fun a hE=>Zd hE rfl fun a hE=>H6 hE Za ld rfl Try.func176 rfl (by decide) (by kernel_rfl) (by kernel_rfl) (hM.rd hv0_1) fun a hE=>Zb hE rfl fun a hE=>Ze ?_)))
 obtain rfl:=Option.some.inj hF
 exact wp_ret (kr1 hE rfl rfl hM.kept)
def YN (p0 : (List UInt8)) (s5 : Int) : Option (Fl Int (Fl Unit Bool)) :=
 if (decide (s5 < (p0.length : Int))) = true then ((idx p0 s5).bind fun x10=>(slc p0 (0 : Int) s5).bind fun l13=>(Xq l13 x10).bind fun r16=>if (decide (r16 ≥ 0)) = true then (some (Fl.ex (Fl.ex false))) else (some (Fl.nx (wr (s5 + 1))))) else (some (Fl.ex (Fl.nx ())))
def Yz (p0 : (List UInt8)) : Option (Bool) :=
 (ZJ (YN p0) 0).bind fun j1=>j1.el (fun s4=>some true) (fun r=>some r)
theorem VE (w0 : World) (p0 : (List UInt8)) (v0_1 : Value) (hv0_1 : Ro w0 p0 [v0_1]) (r : Bool) (hF : Yz p0 = some r) :
  Calls Try.prog 70 [v0_1].toArray w0 (Rt w0 (vT r)):=by
 refine ce Try.func70 ?_
 intro a hE
 have hM:=M.start w0
 unfold Yz at hF
 refine Zc (Zb hE rfl fun a hE=>Ze (wp_seq (Zc (Zd hE rfl fun a hE=>ZQ hE rfl Try.underlying22 (hM.rd hv0_1) fun a hE=>Zd hE rfl fun a hE=>Ze ?_))))
 obtain ⟨j1,hl2,hF3⟩:=bind_some hF
 refine Z6 (fun a w=>∃ s4 : Unit,j1 = Fl.nx s4 ∧ Env 19 a [] ∧ M (Old w0) w0 w []) ?_ ?_
 ·skip
  refine wp_block ?_
  refine ZO (fun (s5 : Int) a w=>Env 19 a [(0,v0_1),(5,v0_1),(6,(vI (p0.length : Int))),(7,vI s5)] ∧ M (Old w0) w0 w []) hl2 ⟨hE.sub ⟨rfl,rfl,rfl,rfl,trivial⟩,hM⟩ ?_
  rintro s5 a w ⟨hE,hM⟩ o8 hs6 hx7
  unfold YN at hs6
  refine Zc (Zk hE rfl rfl rfl fun a hE=>Ze (wp_seq ?_))
  refine Zm hE rfl ?_ ?_
  ·intro hb9
   have hs6:=Zp hs6 hb9
   refine wp_skip (Zx (wp_seq (wp_block (Zc (Zd hE rfl ?_))))); intro a hE
   obtain ⟨x10,hi12,hs6⟩:=bix hs6
   refine ZD hE rfl rfl Try.underlying22 ty5 (hM.rd hv0_1) hi12.1 fun a hE=>ZM (v:=(vB x10)) hE rfl ty5 rfl (Z4 (hM.rd hv0_1) hi12.2) fun a hE=>Zb hE rfl fun a hE=>Zb hE rfl fun a hE=>Ze (Zc (Zd hE rfl fun a hE=>Zd hE rfl ?_)); intro a hE
   obtain ⟨l13,e14,hs6⟩:=bind_some hs6
   refine Tw hE Za ld rfl rfl rfl rfl rfl Try.underlying22 ty5 (hM.rd hv0_1) e14 ?_; intro a hE
   have h15 : Rep.sat (Old w0) w0 l13 [(XL v0_1 ((0 : Int)).toNat (s5).toNat 1)] []:=U3 hv0_1 e14 -- ^
   refine Zd hE rfl ?_; intro a hE
   obtain ⟨r16,e17,hs6⟩:=bind_some hs6
   refine Zl hE rfl (cbm Try.func123) (UT _ l13 (XL v0_1 ((0 : Int)).toNat (s5).toNat 1) (hM.rdo h15) x10 r16 e17) ?_
   rintro v w a ⟨rfl,hK⟩ hE
   have hM:=hM.keep hK
   refine Zk hE rfl rfl rfl fun a hE=>Ze ?_
   refine Zm hE rfl ?_ ?_
   ·intro hb18
    have hs6:=Zp hs6 hb18
    refine Zc (Zb hE rfl fun a hE=>Ze ?_)
    obtain rfl:=hx7 _ (ois hs6)
    obtain rfl:=Option.some.inj hF3
    exact wp_ret (Yh (Zr (Zr (Yh (Zr (Zr (kr1 hE rfl rfl hM.kept)))))))
   ·intro hb18
    have hs6:=Zo hs6 hb18
    refine wp_skip (YK (Zx (wp_region_lit (Zk hE rfl rfl rfl fun a hE=>Zd hE rfl fun a hE=>Zi (Zj ?_)))))
    exact ⟨_,(ois hs6),hE.sub ⟨rfl,rfl,rfl,rfl,trivial⟩,hM⟩
  ·intro hb9
   have hs6:=Zo hs6 hb9
   refine wp_exit (Zs (Zs (Y6 ?_)))
   obtain rfl:=hx7 _ (ois hs6)
   refine Zj ?_
   exact ⟨(),rfl,hE.sub trivial,hM⟩
 ·skip
  rintro a w ⟨s4,ht,hE,hM⟩
  subst ht
  have hF3:=VV hF3
  refine Zx (Zc (Zb hE rfl fun a hE=>Ze ?_))
  obtain rfl:=Option.some.inj hF3
  exact wp_ret (kr1 hE rfl rfl hM.kept)
def XM (p0 : (List UInt8)) : Option (Bool) :=
 ((Yz p0).bind fun r4=>if r4 = true then ((Xq p0 0).bind fun r7=>some (decide (r7 < 0))) else (some false) : Option (Bool)).bind fun j1=>some j1
theorem Qn (w0 : World) (p0 : (List UInt8)) (v0_1 : Value) (hv0_1 : Ro w0 p0 [v0_1]) (r : Bool) (hF : XM p0 = some r) :
  Calls Try.prog 58 [v0_1].toArray w0 (Rt w0 (vT r)):=by
 refine ce Try.func58 ?_
 intro a hE
 have hM:=M.start w0
 unfold XM at hF
 refine Zc (Zb hE rfl fun a hE=>Ze ?_)
 obtain ⟨j1,hl2,hF3⟩:=bind_some hF
 refine ZB (fun a w=>Env 10 a [(2,vT j1)] ∧ M (Old w0) w0 w []) ?_ ?_
 ·skip
  refine wp_region_lit (Zd hE rfl ?_); intro a hE
  obtain ⟨r4,e5,hl2⟩:=bind_some hl2
  refine Zl hE rfl cb70 (VE _ p0 v0_1 (hM.rdo hv0_1) r4 e5) ?_
  rintro v w a ⟨rfl,hK⟩ hE
  have hM:=hM.keep hK
  refine Zd hE rfl ?_; intro a hE
  refine ZZ r4 (fun hb6=>?_) (fun hb6=>?_)
  ·have hl2:=Zp hl2 hb6
   refine Zh hE (Zf hE rfl (lkb rfl hb6)) (by decide) rfl ?_; intro a hE
   obtain ⟨r7,e8,hl2⟩:=bind_some hl2
   refine Z1 hE (Zf hE rfl (lkb rfl hb6)) (by decide) rfl (cbm Try.func123) (UT _ p0 v0_1 (hM.rdo hv0_1) 0 r7 e8) ?_
   rintro v w a ⟨rfl,hK⟩ hE
   have hM:=hM.keep hK
   refine Z2 hE (Zf hE rfl (lkb rfl hb6)) (by decide) rfl rfl rfl fun a hE=>ZC hE (lkb rfl hb6) rfl fun a hE=>Zb hE rfl fun a hE=>Zi ?_
   obtain rfl:=Option.some.inj hl2
   refine Zj ?_
   exact ⟨hE.sub ⟨rfl,trivial⟩,hM⟩
  ·have hl2:=Zo hl2 hb6
   refine Zg hE rfl (lkb rfl hb6) rfl (by decide) fun a hE=>Zg hE rfl (lkb rfl hb6) rfl (by decide) fun a hE=>Zg hE rfl (lkb rfl hb6) rfl (by decide) fun a hE=>ZL hE (lkb rfl hb6) rfl fun a hE=>Zb hE rfl fun a hE=>Zi ?_
   obtain rfl:=Option.some.inj hl2
   refine Zj ?_
   exact ⟨hE.sub ⟨rfl,trivial⟩,hM⟩
 ·skip
  rintro a w ⟨hE,hM⟩
  obtain rfl:=Option.some.inj hF3
  exact wp_ret (kr1 hE rfl rfl hM.kept)
def ZS (p1 : UInt8) (p2 : UInt8) (s4 : Int × Int) : Option (Fl (Int × Int) Int) :=
 if (decide (s4.2 < 8)) = true then (((Xf s4.2).bind fun _=>(if (((HT p2 s4.2) &&& 1) == 1) = true then ((Xf s4.2).bind fun _=>some (Ka s4.1 (T1 (bI p1) s4.2))) else (some s4.1) : Option (Int)).bind fun j13=>some j13 : Option (Int)).bind fun j9=>some (Fl.nx (j9,wr (s4.2 + 1)))) else (some (Fl.ex s4.1))
def ZP (p0 : Int) (p1 : UInt8) (p2 : UInt8) : Option (UInt8) :=
 (ZJ (ZS p1 p2) (0,0)).bind fun j1=>(WN j1 p0 8).bind fun r22=>some (X1 r22)
theorem Xd (w0 : World) (p0 : Int) (p1 : UInt8) (p2 : UInt8) (r : UInt8) (hF : ZP p0 p1 p2 = some r) :
  Calls Try.prog 132 [vI p0,vB p1,vB p2].toArray w0 (Rt w0 (vB r)):=by
 refine ce Try.func132 ?_
 intro a hE
 have hM:=M.start w0
 unfold ZP at hF
 refine Zc (Zb hE rfl fun a hE=>Ze (Zc (Zb hE rfl fun a hE=>Ze (wp_seq (Zc (Zd hE rfl fun a hE=>Ze ?_))))))
 obtain ⟨j1,hl2,hF3⟩:=bind_some hF
 refine Z6 (fun a w=>Env 28 a [(0,vI p0),(7,vI j1)] ∧ M (Old w0) w0 w []) ?_ ?_
 ·skip
  refine wp_block ?_
  refine ZO (fun (s4 : Int × Int) a w=>Env 28 a [(0,vI p0),(1,vB p1),(2,vB p2),(7,vI s4.1),(9,vI s4.2)] ∧ M (Old w0) w0 w []) hl2 ⟨hE.sub ⟨rfl,rfl,rfl,rfl,rfl,trivial⟩,hM⟩ ?_
  rintro s4 a w ⟨hE,hM⟩ o7 hs5 hx6
  unfold ZS at hs5
  refine Zc (Zk hE rfl rfl rfl fun a hE=>Ze (wp_seq ?_))
  refine Zm hE rfl ?_ ?_
  ·intro hb8
   have hs5:=Zp hs5 hb8
   refine wp_skip (Zx ?_)
   obtain ⟨j9,hl10,hF11⟩:=bind_some hs5
   refine ZB (fun a w=>Env 28 a [(0,vI p0),(1,vB p1),(2,vB p2),(7,vI j9),(9,vI s4.2)] ∧ M (Old w0) w0 w []) ?_ ?_
   ·skip
    refine wp_block (Zc (Zd hE rfl fun a hE=>Zb hE rfl fun a hE=>Ze (Zc (Zd hE rfl fun a hE=>Zd hE rfl ?_)))); intro a hE
    obtain ⟨_,e12,hl10⟩:=bind_some hl10
    have e12:=Vt e12
    refine HW hE Za ld rfl rfl (bB_shr _ _ e12) fun a hE=>Zk hE rfl rfl (bB_and (HT p2 s4.2) 1) fun a hE=>Zk hE rfl rfl (JP ((HT p2 s4.2) &&& 1) 1) fun a hE=>Ze ?_
    obtain ⟨j13,hl14,hF15⟩:=bind_some hl10
    refine Z6 (fun a w=>Env 28 a [(0,vI p0),(1,vB p1),(2,vB p2),(7,vI j13),(9,vI s4.2)] ∧ M (Old w0) w0 w []) ?_ ?_
    ·skip
     refine Zm hE rfl ?_ ?_
     ·intro hb16
      have hl14:=Zp hl14 hb16
      refine wp_region_lit (Zd hE rfl fun a hE=>Zd hE rfl fun a hE=>Tl hE Za ld rfl Try.underlying5 Try.underlying2 fun a hE=>Zd hE rfl ?_); intro a hE
      obtain ⟨_,e17,hl14⟩:=bind_some hl14
      have e17:=Vt e17
      refine HW hE Za ld rfl rfl (JA _ _ e17) fun a hE=>Zk hE rfl rfl rfl fun a hE=>Zb hE rfl fun a hE=>Zi ?_
      obtain rfl:=Option.some.inj hl14
      refine Zj ?_
      exact ⟨hE.sub ⟨rfl,rfl,rfl,rfl,rfl,trivial⟩,hM⟩
     ·intro hb16
      have hl14:=Zo hl14 hb16
      refine wp_skip ?_
      obtain rfl:=Option.some.inj hl14
      refine Zj ?_
      exact ⟨hE.sub ⟨rfl,rfl,rfl,rfl,rfl,trivial⟩,hM⟩
    ·skip
     rintro a w ⟨hE,hM⟩
     refine YK ?_
     obtain rfl:=Option.some.inj hF15
     refine Zj ?_
     exact ⟨hE.sub ⟨rfl,rfl,rfl,rfl,rfl,trivial⟩,hM⟩
   ·skip
    rintro a w ⟨hE,hM⟩
    refine wp_region_lit (Zk hE rfl rfl rfl fun a hE=>Zd hE rfl fun a hE=>Zi (Zj ?_))
    exact ⟨_,(ois hF11),hE.sub ⟨rfl,rfl,rfl,rfl,rfl,trivial⟩,hM⟩
  ·intro hb8
   have hs5:=Zo hs5 hb8
   refine wp_exit (Zs (Zs (Y6 ?_)))
   obtain rfl:=hx6 _ (ois hs5)
   refine Zj ?_
   exact ⟨hE.sub ⟨rfl,rfl,trivial⟩,hM⟩
 ·skip
  rintro a w ⟨hE,hM⟩
  refine Zx (Zc (Zd hE rfl fun a hE=>Zd hE rfl ?_)); intro a hE
  obtain ⟨r22,e23,hF3⟩:=bind_some hF3
  refine Zl hE rfl (cbm Try.func120) (KP _ j1 p0 8 r22 e23) ?_
  rintro v w a ⟨rfl,hK⟩ hE
  have hM:=hM.keep hK
  refine Tj hE Za ld rfl Try.underlying2 Try.underlying5 fun a hE=>Zb hE rfl fun a hE=>Ze ?_
  obtain rfl:=Option.some.inj hF3
  exact wp_ret (kr1 hE rfl rfl hM.kept)
-- value
/-! ### A range over slices.Backward: the polynomial's value -/
theorem Qp (p1 p2 : UInt8) : ∀ (k i : Nat) (acc : Int),i + k = 8 → ∃ t,ZJ (ZS p1 p2) (acc,(i : Int)) = some t
 | 0,i,acc,h=>by
  have : i = 8:=by omega
  subst this
  exact ⟨acc,X0 (by unfold ZS; rfl)⟩
 | k + 1,i,acc,h=>by
  have h1 : decide ((i : Int) < 8) = true:=by simp only [decide_eq_true_eq]; omega
  have h2 : Xf (i : Int) = some ():=by unfold Xf; rw [if_pos (by omega)]
  have h3 : wr ((i : Int) + 1) = ((i + 1 : Nat) : Int):=by rw [Wp (by omega)]; rfl
  cases hc : (((HT p2 (i : Int)) &&& 1) == 1) with
  | true =>
   obtain ⟨t,ht⟩:=Qp p1 p2 k (i + 1) (Ka acc (T1 (bI p1) (i : Int))) (by omega)
   refine ⟨t,?_⟩
   rw [Vk (s':=(Ka acc (T1 (bI p1) (i : Int)),((i + 1 : Nat) : Int)))]
   ·exact ht
   ·unfold ZS
    simp only [h1,if_true,h2,Option.bind_some,hc,h3]
  | false =>
   obtain ⟨t,ht⟩:=Qp p1 p2 k (i + 1) acc (by omega)
   refine ⟨t,?_⟩
   rw [Vk (s':=(acc,((i + 1 : Nat) : Int)))]
   ·exact ht
   ·unfold ZS
    simp only [h1,if_true,h2,Option.bind_some,hc,Bool.false_eq_true,if_false,h3]
theorem Kb (m : Int) : ∀ (k : Nat) (acc : Int),k ≤ 8 → ∃ t,ZJ (YW m 8) (acc,(k : Int) + 7) = some t
 | 0,acc,_=>⟨acc,X0 (by unfold YW; rfl)⟩
 | k + 1,acc,h=>by
  have h1 : decide (((k + 1 : Nat) : Int) + 7 ≥ 8) = true:=by simp only [decide_eq_true_eq]; omega
  have h2 : Xf (((k + 1 : Nat) : Int) + 7) = some ():=by unfold Xf; rw [if_pos (by omega)]
  have h4 : wr ((((k + 1 : Nat) : Int) + 7) - 8) = (k : Int):=by rw [Wp (by omega)]; omega
  have h5 : Xf (k : Int) = some ():=by unfold Xf; rw [if_pos (by omega)]
  have h3 : wr ((((k + 1 : Nat) : Int) + 7) - 1) = (k : Int) + 7:=by rw [Wp (by omega)]; omega
  cases hc : ((andI (Ti acc (((k + 1 : Nat) : Int) + 7)) 1) == 1) with
  | true =>
   obtain ⟨t,ht⟩:=Kb m k (Ka acc (T1 m (k : Int))) (by omega)
   refine ⟨t,?_⟩
   rw [Vk (s':=(Ka acc (T1 m (k : Int)),(k : Int) + 7))]
   ·exact ht
   ·unfold YW
    simp only [h1,if_true,h2,Option.bind_some,hc,h3,h4,h5]
  | false =>
   obtain ⟨t,ht⟩:=Kb m k acc (by omega)
   refine ⟨t,?_⟩
   rw [Vk (s':=(acc,(k : Int) + 7))]
   ·exact ht
   ·unfold YW
    simp only [h1,if_true,h2,Option.bind_some,hc,Bool.false_eq_true,if_false,h3]
theorem AI (m : Int) (x y : UInt8) : ∃ r,ZP m x y = some r:=by
 obtain ⟨t,ht⟩:=Qp x y 8 0 0 rfl
 obtain ⟨u,hu⟩:=Kb m 8 t (Nat.le_refl _)
 have ht' : ZJ (ZS x y) (0,0) = some t:=ht
 have hu' : ZJ (YW m 8) (t,15) = some u:=hu
 exact ⟨X1 u,by unfold ZP WN; simp only [ht',hu',Option.bind_some]⟩
def JQ (m : Int) (x y : UInt8) : UInt8:=(ZP m x y).getD 0
theorem KO (m : Int) (x y : UInt8) : ZP m x y = some (JQ m x y):=by
 obtain ⟨r,hr⟩:=AI m x y
 unfold JQ; rw [hr]; rfl
def Hq (m : Int) (x : UInt8) (out a : UInt8) : UInt8:=JQ m out x ^^^ a
def Xb (p0 : Int) (p1 : List UInt8) (p2 : UInt8) : Option UInt8:=if p1.length ≤ 140737488351232 then some (p1.reverse.foldl (Hq p0 p2) 0) else none
section
open Go.RowKit Go.Shelf
attribute [local go_sem] Oper.semAt_some
/-- The iterator: for every loop body that keeps what lay below n₀. -/
theorem A9 (F : Fence) (n : Nat) (h7 : F.fn 180) (hro : F.round = none) (hn : 1 ≤ n) (l Bs n₀ b off cap : Nat) (zs : List UInt8) (hreach : zs.length ≤ 140737488351232) (hb : b < n₀) (J Jx : List (Int × UInt8) → World → Prop)
  (hY : ∀ pre x W,J pre W → pre.length < zs.length → YieldAt F (n - 1) Try.prog l #[.int .i64 x.1,.int .u8 x.2.toNat] W fun e W' =>
   (e = .returned (.bool true) ∧ J (pre ++ [x]) W' ∧ KpB n₀ Bs W W') ∨ (e = .returned (.bool false) ∧ Jx (pre ++ [x]) W'))
  (W : World) (hBs : W.cell? ⟨Bs,0,none⟩ = some (.slice (some ⟨b,off,none⟩) zs.length cap))
  (hc : ∀ j,j < zs.length → W.cell? ⟨b,off + j,none⟩ = some (.int .u8 (zs[j]?.getD 0).toNat)) (h0 : J [] W) :
  CallsIn F n Try.prog 180 #[.func (.yield l) #[] #[],.pointer (some ⟨Bs,0,none⟩)] W fun e W'=>(∃ v,e = .returned v) ∧
   ((∃ ys,ys = K5 (Jn zs) zs.length ∧ J ys W') ∨ (∃ pre,Jx pre W')):=by
 refine callsIn_of_wp Try.func180 rfl h7 ?_ hro
 simp only [Try.ntmps180,List.size_toArray,List.length_cons,List.length_nil,Nat.reduceAdd,Nat.reduceSub,Array.replicate_succ,Array.replicate_zero,List.push_toArray,List.append_toArray,List.nil_append,List.cons_append]
 gi_wp2
 gi_loopw [3] (fun i wr=>∃ k : Nat,k ≤ zs.length ∧ i = .int .i64 ((zs.length : Int) - 1 - k) ∧ J (K5 (Jn zs) k) wr ∧ KpB n₀ Bs W wr)
  (fun i _=>(intOf i + 1).toNat)
 case atStart=>exact ⟨0,Nat.zero_le _,by simp,h0,Below.refl _ _,rfl⟩
 case round =>
  obtain ⟨k,hk,rfl,hJs,hnx⟩:=hrel
  have hcx : k < zs.length → wr.cell? ⟨b,off + (zs.length - 1 - k),none⟩ = some (.int .u8 ((zs[zs.length - 1 - k]?.getD 0)).toNat):=fun h=>(hnx.1.cell (p:=⟨b,off + (zs.length - 1 - k),none⟩) hb).trans (hc _ (by omega))
  have hBs' : wr.cell? ⟨Bs,0,none⟩ = some (.slice (some ⟨b,off,none⟩) zs.length cap):=(World.cell?_of_block (w:=W) (a:=⟨Bs,0,none⟩) hnx.2).trans hBs
  by_cases hlt : k < zs.length
  ·obtain ⟨fn,tmps,assign,body,hy,hR⟩:=hY _ (Jn zs k) wr hJs (by rw [Bk]; exact hlt)
   have e1 : (zs.length : Int) - 1 - k = ((zs.length - 1 - k : Nat) : Int):=by omega
   have hcx':=hcx hlt
   simp only [Jn] at hy
   rw [e1] at hy ⊢
   obtain ⟨j,hj⟩ : ∃ j,zs.length - 1 - k = j:=⟨_,rfl⟩
   have hjl : j < zs.length:=by omega
   rw [hj] at hy hcx' ⊢
   obtain ⟨x,hx⟩ : ∃ x,zs[j]?.getD 0 = x:=⟨_,rfl⟩
   rw [hx] at hy hcx'
   gi_wp2
   refine hR.mono ?_
   rintro e W3 (⟨rfl,hJ3,hk3⟩ | ⟨rfl,hJx3⟩)
   ·gi_wp2
    go_roundw
    case rel=>exact ⟨k + 1,by omega,by simp; omega,by rw [AQ]; exact hJ3,hnx.trans hk3⟩
    case measure=>simp [intOf]
   ·gi_wp2
    refine bodyPost_ret (results_none rfl _ _ _) rfl ?_
    exact ⟨⟨_,rfl⟩,.inr ⟨_,hJx3⟩⟩
  ·obtain rfl : k = zs.length:=by omega
   have e1 : (zs.length : Int) - 1 - (zs.length : Int) = -1:=by omega
   rw [e1]
   gi_wp2
   go_end0
   exact ⟨⟨_,rfl⟩,.inl ⟨_,rfl,hJs⟩⟩
/-- .. at the nil slice,or one without elements: no round. -/
theorem zq (F : Fence) (n : Nat) (h7 : F.fn 180) (hro : F.round = none) (l Bs : Nat) (p : Option Addr) (cap : Nat) (J : List (Int × UInt8) → World → Prop) (W : World) (hBs : W.cell? ⟨Bs,0,none⟩ = some (.slice p 0 cap)) (h0 : J [] W) :
  CallsIn F n Try.prog 180 #[.func (.yield l) #[] #[],.pointer (some ⟨Bs,0,none⟩)] W fun e W'=>(∃ v,e = .returned v) ∧ J [] W':=by
 refine callsIn_of_wp Try.func180 rfl h7 ?_ hro
 simp only [Try.ntmps180,List.size_toArray,List.length_cons,List.length_nil,Nat.reduceAdd,Nat.reduceSub,Array.replicate_succ,Array.replicate_zero,List.push_toArray,List.append_toArray,List.nil_append,List.cons_append]
 gi_wp2
 gi_loopw [3] (fun i wr=>i = .int .i64 (-1) ∧ J [] wr) (fun _ _=>0)
 case atStart=>exact ⟨rfl,h0⟩
 case round =>
  obtain ⟨rfl,hJs⟩:=hrel
  gi_wp2
  go_end0
  exact ⟨⟨_,rfl⟩,hJs⟩
theorem zX (F : Fence) (n : Nat) (h5 : F.fn 131) (hro : F.round = none) (a : Option Addr) (len cap : Nat) (w : World) :
  CallsIn F n Try.prog 131 #[.slice a len cap] w fun e w'=>e = .returned (.func (.func 180) #[] #[.pointer (some ⟨w.heap.size,0,none⟩)]) ∧ w' = w.alloc (.cells #[.slice a len cap] 22):=by
 refine callsIn_of_wp Try.func131 rfl h5 ?_ hro
 simp only [Try.ntmps131,List.size_toArray,List.length_cons,List.length_nil,Nat.reduceAdd,Nat.reduceSub,Array.replicate_succ,Array.replicate_zero,List.push_toArray,List.append_toArray,List.nil_append,List.cons_append]
 gi_wp2
 go_ret
 exact ⟨rfl,rfl⟩
theorem BK (F : Fence) (n : Nat) (h7 : F.fn 180) (hro : F.round = none) (hn : 1 ≤ n) (Bs n₀ : Nat) (p : Option Addr) (cap : Nat) (zs : List UInt8) (hreach : zs.length ≤ 140737488351232) (w : World) (hBs : Bs < w.heap.size) (hn₀ : n₀ ≤ w.heap.size)
  (hc : w.cell? ⟨Bs,0,none⟩ = some (.slice p zs.length cap)) (hI : Byts n₀ w p zs) :
  SeqStopsK F n Try.prog 180 #[.pointer (some ⟨Bs,0,none⟩)] (fun x : Int × UInt8=>#[Value.int .i64 x.1,Value.int .u8 x.2.toNat]) (KpB n₀ Bs) (fun ys=>ys = K5 (Jn zs) zs.length)
   (fun _=>True) zs.length w:=fun l J Jx W hW _ _ hY h0=>by
 have hc':=(hW.cell (p:=⟨Bs,0,none⟩) hBs).trans hc
 rcases hI.below (hW.mono hn₀) with rfl | ⟨b,off,rfl,hb,hcs⟩
 ·exact (zq F n h7 hro l Bs p cap J W hc' h0).mono fun e W' ⟨he,hj⟩=>⟨he,.inl ⟨_,rfl,hj⟩⟩
 ·refine (A9 F n h7 hro hn l Bs n₀ b off cap zs hreach hb J Jx hY W hc' hcs h0).mono ?_
  rintro e W' ⟨he,⟨ys,rfl,hj⟩ | ⟨pre,hj⟩⟩
  ·exact ⟨he,.inl ⟨_,rfl,hj⟩⟩
  ·exact ⟨he,.inr ⟨_,trivial,hj⟩⟩
theorem zw (p0 : Int) (zs : List UInt8) (p2 : UInt8) (hreach : zs.length ≤ 140737488351232) (p : Option Addr) (cap : Nat) (w : World) (hI : Byts w.heap.size w p zs) :
  CallsIn Fence.wide 5 Try.prog 73 #[vI p0,.slice p zs.length cap,vB p2] w fun e W'=>e = .returned (vB (zs.reverse.foldl (Hq p0 p2) 0)) ∧ Below w.heap.size w W':=by
 have h3 : Fence.wide.fn 73:=trivial
 have h5 : Fence.wide.fn 131:=trivial
 have h7 : Fence.wide.fn 180:=trivial
 refine callsIn_of_wp_marks Try.func73 rfl h3 ?_ rfl
 simp only [Try.ntmps73,List.size_toArray,List.length_cons,List.length_nil,Nat.reduceAdd,Nat.reduceSub,Array.replicate_succ,Array.replicate_zero,List.push_toArray,List.append_toArray,List.nil_append,List.cons_append]
 gi_wp2_with (gi_at_call 131; refine (zX Fence.wide 4 h5 rfl _ _ _ _).mono ?_; rintro e w' ⟨rfl,rfl⟩)
 have bM:=Boxed.new w 107 (vI p0)
 have bX:=Boxed.new (w.alloc (.cells #[vI p0] 107)) 5 (vB p2)
 have bS:=Boxed.new ((w.alloc (.cells #[vI p0] 107)).alloc (.cells #[vB p2] 5)) 5 (.int .u8 0)
 have bN:=Boxed.new (((w.alloc (.cells #[vI p0] 107)).alloc (.cells #[vB p2] 5)).alloc (.cells #[.int .u8 0] 5)) 22 (.slice p zs.length cap)
 simp only [World.size_alloc] at bX bS bN
 have bM0:=((bM.alloc (.cells #[vB p2] 5)).alloc (.cells #[.int .u8 0] 5)).alloc (.cells #[.slice p zs.length cap] 22)
 have bX0:=(bX.alloc (.cells #[.int .u8 0] 5)).alloc (.cells #[.slice p zs.length cap] 22)
 have bS0:=bS.alloc (.cells #[.slice p zs.length cap] 22)
 have hB0 : Below w.heap.size w ((((w.alloc (.cells #[vI p0] 107)).alloc (.cells #[vB p2] 5)).alloc (.cells #[.int .u8 0] 5)).alloc (.cells #[.slice p zs.length cap] 22)):=((((Below.refl _ w).alloc (Nat.le_refl _) _).alloc (by simp) _).alloc (by simp; omega) _).alloc (by simp; omega) _
 have hsz : ((((w.alloc (.cells #[vI p0] 107)).alloc (.cells #[vB p2] 5)).alloc (.cells #[.int .u8 0] 5)).alloc (.cells #[.slice p zs.length cap] 22)).heap.size = w.heap.size + 4:=by simp
 obtain ⟨W0,hW0⟩ : ∃ W0,((((w.alloc (.cells #[vI p0] 107)).alloc (.cells #[vB p2] 5)).alloc (.cells #[.int .u8 0] 5)).alloc (.cells #[.slice p zs.length cap] 22)) = W0:=⟨_,rfl⟩
 rw [hW0] at bM0 bX0 bS0 bN hB0 hsz ⊢
 clear bM bX bS hW0
 refine wpIn_rangeFunc_ownG (F:=Fence.wide) (n:=5) rfl (by omega) (gf:=180) (lb:=#[.pointer (some ⟨w.heap.size + 1 + 1 + 1,0,none⟩)]) rfl h7 (enters_of Try.func180 (by kernel_rfl) rfl)
  (BK Fence.wide 4 h7 rfl (by omega) (w.heap.size + 1 + 1 + 1) w.heap.size p cap zs hreach W0 (by omega) (by omega) bN.cell (hI.below hB0)) (fun h k=>h.trans k)
  (fun W l o o' hl h ho hw=>⟨belowK_b (w:=W0) (by omega) W l o o' hl h ho hw,World.putObj_heap_other (by omega)⟩) (Below.refl _ _) (fun _=>rfl)
  (fun pre W=>(W.cell? ⟨w.heap.size,0,none⟩ = some (vI p0) ∧ W.cell? ⟨w.heap.size + 1,0,none⟩ = some (vB p2) ∧ Boxed W (w.heap.size + 1 + 1) 5 (vB ((pre.map (·.2)).foldl (Hq p0 p2) 0)) ∧ w.heap.size + 4 ≤ W.heap.size) ∧ Below w.heap.size w W)
  (fun _ _ _=>False)
  (OwnFrom.and (Own.from (fun s A B row hs hg hr=>⟨cell_kept hs.1 hg hr,cell_kept hs.2.1 hg hr,hs.2.2.1.kept hg (fun e=>by obtain ⟨o,ho,hc⟩:=hr _ e.symm; rw [show A.heap[w.heap.size + 1 + 1]? = _ from hs.2.2.1] at ho; cases ho; cases hc),Nat.le_trans hs.2.2.2 hg.size⟩) _) (ownFrom_below (Nat.le_refl _) (by omega)))
  (fun _ _ _ _ _ hs _ _=>hs)
  ⟨⟨bM0.cell,bX0.cell,bS0,by omega⟩,hB0⟩
  (fun x=>{ tmps:=#[vI p0,.slice p zs.length cap,vB p2,.pointer (some ⟨w.heap.size,0,none⟩),undef,.pointer (some ⟨w.heap.size + 1,0,none⟩),.int .u8 0,.pointer (some ⟨w.heap.size + 1 + 1,0,none⟩),undef,vB x.2,.slice p zs.length cap,.func (.func 180) #[] #[.pointer (some ⟨w.heap.size + 1 + 1 + 1,0,none⟩)],.int .i64 x.1,vB x.2,undef,undef,undef,undef,undef,undef,undef],defers:=[] }) ?assign ?body ?done ?stop
 case assign =>
  intro l x W K hK
  gi_wp2
  exact hK
 case body =>
  rintro l pre x W ⟨⟨hm,hx,ho,hw4⟩,hB⟩ _
  have hout:=ho.cell
  generalize hacc : (pre.map (·.2)).foldl (Hq p0 p2) 0 = acc at ho hout
  have hcall:=CallsIn.inRound l (n:=2) (callsIn_wide.2 (Xd W p0 acc p2 _ (KO p0 acc p2)))
  gi_wp2_with (refine ⟨trivial,?_⟩; gi_at_call 132; refine hcall.mono ?_; rintro e W1 ⟨v,rfl,rfl,hk⟩; have ho1 : Boxed W1 (w.heap.size + 1 + 1) 5 (vB acc):=(hk.block _ ho.lt).trans ho; have hc1:=ho1.cell; have hf1:=ho1.frozen)
  have hxr : ∀ a b : UInt8,Value.int .u8 (bits .xor .u8 a.toNat b.toNat) = vB (a ^^^ b):=fun a b=>Option.some.inj (U0 a b)
  have hB1:=KeptB hk hB.size
  have hlt:=ho.lt
  have hle : w.heap.size ≤ w.heap.size + 1 + 1:=by omega
  refine ⟨(KeptF hk _).trans ((KeepsOthers.setCell _ _ _).from _),⟨hB1.setCell (p:=⟨w.heap.size + 1 + 1,0,none⟩) hle _,?_⟩,⟨?_,?_,?_,?_⟩,(hB.trans hB1).setCell (p:=⟨w.heap.size + 1 + 1,0,none⟩) hle _⟩
  ·refine (Below.heap_setCell _ _ _ _ (by show _ ≠ w.heap.size + 1 + 1; omega)).trans ?_
   exact hk.block _ (show w.heap.size + 1 + 1 + 1 < W.heap.size by omega)
  ·rw [World.cell?_setCell_other _ _ _ _ (by simp)]
   exact (cell?_of_heap (hk.block _ (show w.heap.size < W.heap.size by omega)) 0).trans hm
  ·rw [World.cell?_setCell_other _ _ _ _ (by simp)]
   exact (cell?_of_heap (hk.block _ (show w.heap.size + 1 < W.heap.size by omega)) 0).trans hx
  ·rw [List.map_append,List.foldl_append,hacc]
   have:=ho1.set (.int .u8 (bits .xor .u8 (JQ p0 acc p2).toNat x.2.toNat))
   rw [hxr] at this ⊢
   exact this
  ·have:=hk.size
   simp only [World.setCell,Array.size_modify]
   omega
 case done =>
  rintro D ys W hD rfl ⟨⟨hm,hx,ho,hw4⟩,hB⟩ hK
  rw [AW] at ho
  generalize hacc : zs.reverse.foldl (Hq p0 p2) 0 = acc at ho
  have hout:=ho.cell
  gi_wp2
  refine ⟨by simp,.inl ⟨_,_,rfl,run_takeDeferred hK,?_⟩⟩
  exact ⟨_,results_tmp rfl _ _ _,by rw [hacc]; rfl,hB.trans (belowK_b (w:=w) (Nat.le_refl _) W D _ _ (by omega) hK rfl rfl)⟩
 case stop =>
  rintro D c pre W _ _ h _
  exact h.elim
end
theorem UC (w0 : World) (p0 : Int) (p1 : (List UInt8)) (v1_1 : Value) (hv1_1 : Ro w0 p1 [v1_1]) (p2 : UInt8) (r : UInt8) (hF : Xb p0 p1 p2 = some r) :
  Calls Try.prog 73 [vI p0,v1_1,vB p2].toArray w0 (Rt w0 (vB r)):=by
 unfold Xb at hF
 split at hF
 ·rename_i hl
  obtain rfl:=Option.some.inj hF
  obtain ⟨p,cap,rfl,hI⟩:=zW hv1_1
  refine Calls.mono (callsIn_wide.1 (zw p0 p1 p2 hl p cap w0 hI)) ?_
  rintro e W' ⟨rfl,hB⟩
  exact ⟨_,rfl,rfl,hB.os,hB.tape,hB.output,hB.size,hB.block⟩
 ·cases hF
def YY (p2 : (List (List UInt8))) (s25 : (List UInt8) × Int) (s43 : (List UInt8) × Int) : Option (Fl ((List UInt8) × Int) (List UInt8)) :=
 if (decide (s43.2 < (p2.length : Int))) = true then ((idx p2 s43.2).bind fun x50=>(idx x50 s25.2).bind fun x58=>(app 1 s43.1 ([x58] : List UInt8)).bind fun l63=>some (Fl.nx ((s43.1 ++ ([x58] : List UInt8)),wr (s43.2 + 1)))) else (some (Fl.ex s43.1))
def YZ (p0 : Int) (p1 : (List UInt8)) (p2 : (List (List UInt8))) (x15 : UInt8) (s25 : (List UInt8) × Int) : Option (Fl ((List UInt8) × Int) (List UInt8)) :=
 if (decide (s25.2 < (p1.length : Int))) = true then ((idx p1 s25.2).bind fun x33=>(ZJ (YY p2 s25) (([x33] : List UInt8),0)).bind fun j38=>(Xb p0 j38 x15).bind fun r70=>(app 1 s25.1 ([r70] : List UInt8)).bind fun l74=>some (Fl.nx ((s25.1 ++ ([r70] : List UInt8)),wr (s25.2 + 1)))) else (some (Fl.ex s25.1))
def YX (p0 : Int) (p1 : (List UInt8)) (p2 : (List (List UInt8))) (p3 : (List UInt8)) (s8 : Int × (List GShare)) : Option (Fl (Int × (List GShare)) (List GShare)) :=
 if (decide (s8.1 < (p3.length : Int))) = true then ((idx p3 s8.1).bind fun x15=>(ZJ (YZ p0 p1 p2 x15) ([],0)).bind fun j20=>(app 32 s8.2 ([(⟨x15,j20⟩ : GShare)] : List GShare)).bind fun l82=>some (Fl.nx (wr (s8.1 + 1),(s8.2 ++ ([(⟨x15,j20⟩ : GShare)] : List GShare))))) else (some (Fl.ex s8.2))
def Xg (p0 : Int) (p1 : (List UInt8)) (p2 : (List (List UInt8))) (p3 : (List UInt8)) : Option ((List GShare)) :=
 (ZJ (YX p0 p1 p2 p3) (0,([] : List GShare))).bind fun j3=>some j3
theorem UI (w0 : World) (p0 : Int) (p1 : (List UInt8)) (v1_1 : Value) (hv1_1 : Ro w0 p1 [v1_1]) (p2 : (List (List UInt8))) (v2_1 : Value) (hv2_1 : Ro w0 p2 [v2_1]) (p3 : (List UInt8)) (v3_1 : Value) (hv3_1 : Ro w0 p3 [v3_1]) (r : (List GShare)) (hF : Xg p0 p1 p2 p3 = some r) :
  Calls Try.prog 59 [vI p0,v1_1,v2_1,v3_1].toArray w0 (fun en w'=>∃ v,en = .returned v ∧ (∃ (y1 : Value),v = y1 ∧ Fr w0 w' [osl NoB (r : List GShare) y1] ∧ Kept (Old w0) w0 w')):=by
 refine ce Try.func59 ?_
 intro a hE
 have hM:=M.start w0
 unfold Xg at hF
 refine Zc (Zb hE rfl fun a hE=>Ze (Zc (US (xs:=[]) (S:=NoB) (l:=([] : List GShare)) (vs:=[]) hE hM.emp noB Za ld rfl rfl rfl Try.underlying27 ZU rfl (by decide) (fun _ h=>⟨rfl,h⟩) (fun _ h=>by cases h) fun u1 w a hM hE=>Zb hE rfl fun a hE=>Ze (wp_seq (Zc (Zd hE rfl fun a hE=>ZQ hE rfl Try.underlying22 (hM.rd hv3_1) fun a hE=>Zd hE rfl fun a hE=>Ze ?_))))))
 obtain ⟨j3,hl4,hF5⟩:=bind_some hF
 refine Z6 (fun a w=>∃ (u6 : Value),Env 66 a [(9,u6)] ∧ M (Old w0) w0 w [osl NoB (j3 : List GShare) u6]) ?_ ?_
 ·skip
  refine wp_block ?_
  refine ZO (fun (s8 : Int × (List GShare)) a w=>∃ (u9 : Value),Env 66 a [(0,vI p0),(1,v1_1),(2,v2_1),(9,u9),(19,v3_1),(20,(vI (p3.length : Int))),(21,vI s8.1)] ∧ M (Old w0) w0 w [osl NoB (s8.2 : List GShare) u9]) hl4 ⟨u1,hE.sub ⟨rfl,rfl,rfl,rfl,rfl,rfl,rfl,trivial⟩,hM⟩ ?_
  rintro s8 a w ⟨u9,hE,hM⟩ o13 hs11 hx12
  unfold YX at hs11
  refine Zc (Zk hE rfl rfl rfl fun a hE=>Ze (wp_seq ?_))
  refine Zm hE rfl ?_ ?_
  ·intro hb14
   have hs11:=Zp hs11 hb14
   refine wp_skip (Zx (wp_seq (wp_block (Zc ?_))))
   obtain ⟨x15,hi17,hs11⟩:=bix hs11
   refine ZD hE rfl rfl Try.underlying22 ty5 (hM.rd hv3_1) hi17.1 fun a hE=>ZM (v:=(vB x15)) hE rfl ty5 rfl (Z4 (hM.rd hv3_1) hi17.2) fun a hE=>Zb hE rfl fun a hE=>Ze (Zc (Zd hE rfl fun a hE=>XS (parts:=[(0,.tmp 25)]) (vs:=[(0,vB x15)]) (cs:=cat [[vB x15],[(Value.slice none 0 0)]]) hE Za ld rfl rfl ZU HO (X9 (pre:=[]) (seg:=[vB 0]) (seg':=[vB x15]) (post:=[[(Value.slice none 0 0)]]) rfl cl0 rfl rfl rfl Vq) fun a hE=>Ug hE hM ZU fun b18 w a hM hE=>Y3 (seg:=cat [[vB x15],[(Value.slice none 0 0)]]) (cs':=cat [[vB x15],[(Value.slice none 0 0)]]) hE hM Za rfl rfl rfl ZU cq (Nat.le_of_eq ((Nat.zero_add _).trans (Eq.trans cq (Eq.symm cq)))) (Wk (cc1 (Flat.cell (x15 : UInt8)) (cc1 Qc cc0))) (ZX (Eq.trans cq (Eq.symm cq))) fun w a hM hE=>Ze (wp_seq (Zc (Zd hE rfl fun a hE=>ZQ hE rfl Try.underlying22 (hM.rd hv1_1) fun a hE=>Zd hE rfl fun a hE=>Ze ?_)))))
   obtain ⟨j20,hl21,hF22⟩:=bind_some hs11
   refine Z6 (fun a w=>∃ (u23 : Value),Env 66 a [(0,vI p0),(1,v1_1),(2,v2_1),(9,u9),(12,(ptr b18 0)),(19,v3_1),(20,(vI (p3.length : Int))),(21,vI s8.1)] ∧ M (Old w0) w0 w [raw b18 (cat [[vB x15],[u23]]),osl NoB (s8.2 : List GShare) u9,osl NoB (j20 : List UInt8) u23]) ?_ ?_
   ·skip
    refine wp_block ?_
    have hM:=((M.nilS (α:=UInt8) NoB noB hM).pull2).pull2
    refine ZO (fun (s25 : (List UInt8) × Int) a w=>∃ (u26 : Value),Env 66 a [(0,vI p0),(1,v1_1),(2,v2_1),(9,u9),(11,vB x15),(12,(ptr b18 0)),(19,v3_1),(20,(vI (p3.length : Int))),(21,vI s8.1),(27,v1_1),(28,(vI (p1.length : Int))),(29,vI s25.2)] ∧ M (Old w0) w0 w [raw b18 (cat [[vB x15],[u26]]),osl NoB (s8.2 : List GShare) u9,osl NoB (s25.1 : List UInt8) u26]) hl21 ⟨(Value.slice none 0 0),hE.sub ⟨rfl,rfl,rfl,rfl,rfl,rfl,rfl,rfl,rfl,rfl,rfl,rfl,trivial⟩,hM⟩ ?_
    rintro s25 a w ⟨u26,hE,hM⟩ o30 hs28 hx29
    unfold YZ at hs28
    refine Zc (Zk hE rfl rfl rfl fun a hE=>Ze (wp_seq ?_))
    refine Zm hE rfl ?_ ?_
    ·intro hb32
     have hs28:=Zp hs28 hb32
     refine wp_skip (Zx (wp_seq (wp_block (Zc (Zd hE rfl ?_))))); intro a hE
     obtain ⟨x33,hi35,hs28⟩:=bix hs28
     refine ZD hE rfl rfl Try.underlying22 ty5 (hM.rd hv1_1) hi35.1 fun a hE=>ZM (v:=(vB x33)) hE rfl ty5 rfl (Z4 (hM.rd hv1_1) hi35.2) fun a hE=>Zb hE rfl fun a hE=>Zb hE rfl fun a hE=>Ze (Zc (Zd hE rfl fun a hE=>ZE (xs:=[.tmp 34]) (l:=([x33] : List UInt8)) (vs:=[vB x33]) hE hM Za ld rfl rfl Try.underlying22 ty5 rfl (by decide) rfl fun u36 w a hM hE=>Zb hE rfl fun a hE=>Ze (wp_seq (Zc (Zd hE rfl fun a hE=>ZQ hE rfl Try.underlying24 (hM.rd hv2_1) fun a hE=>Zd hE rfl fun a hE=>Ze ?_)))))
     obtain ⟨j38,hl39,hF40⟩:=bind_some hs28
     refine Z6 (fun a w=>∃ (u41 : Value),Env 66 a [(0,vI p0),(1,v1_1),(2,v2_1),(9,u9),(11,vB x15),(12,(ptr b18 0)),(15,u41),(19,v3_1),(20,(vI (p3.length : Int))),(21,vI s8.1),(27,v1_1),(28,(vI (p1.length : Int))),(29,vI s25.2)] ∧ M (Old w0) w0 w [raw b18 (cat [[vB x15],[u26]]),osl NoB (s8.2 : List GShare) u9,osl NoB (s25.1 : List UInt8) u26,osl NoB (j38 : List UInt8) u41]) ?_ ?_
     ·skip
      refine wp_block ?_
      have hM:=hM.pull3.pull3.pull3
      refine ZO (fun (s43 : (List UInt8) × Int) a w=>∃ (u44 : Value),Env 66 a [(0,vI p0),(1,v1_1),(2,v2_1),(9,u9),(11,vB x15),(12,(ptr b18 0)),(13,vI s25.2),(15,u44),(19,v3_1),(20,(vI (p3.length : Int))),(21,vI s8.1),(27,v1_1),(28,(vI (p1.length : Int))),(29,vI s25.2),(36,v2_1),(37,(vI (p2.length : Int))),(38,vI s43.2)] ∧ M (Old w0) w0 w [raw b18 (cat [[vB x15],[u26]]),osl NoB (s8.2 : List GShare) u9,osl NoB (s25.1 : List UInt8) u26,osl NoB (s43.1 : List UInt8) u44]) hl39 ⟨u36,hE.sub ⟨rfl,rfl,rfl,rfl,rfl,rfl,rfl,rfl,rfl,rfl,rfl,rfl,rfl,rfl,rfl,rfl,rfl,trivial⟩,hM⟩ ?_
      rintro s43 a w ⟨u44,hE,hM⟩ o48 hs46 hx47
      unfold YY at hs46
      refine Zc (Zk hE rfl rfl rfl fun a hE=>Ze (wp_seq ?_))
      refine Zm hE rfl ?_ ?_
      ·intro hb49
       have hs46:=Zp hs46 hb49
       refine wp_skip (Zx (wp_seq (wp_block (Zc ?_))))
       obtain ⟨x50,hi52,hs46⟩:=bix hs46
       refine ZD hE rfl rfl Try.underlying24 YS (hM.rd hv2_1) hi52.1 ?_; intro a hE
       obtain ⟨cs53,hs54,hA55⟩:=Yc hv2_1 hi52.2 -- ^
       obtain ⟨u56,rfl⟩:=Uo hs54 -- ^
       have h57:=hs54 -- ^
       refine ZM (v:=u56) hE rfl YS rfl (hM.atk hA55 (YI hv2_1 hi52.2)) fun a hE=>Zb hE rfl fun a hE=>Ze (wp_region_lit (Zd hE rfl fun a hE=>Zd hE rfl fun a hE=>Zd hE rfl ?_)); intro a hE
       obtain ⟨x58,hi60,hs46⟩:=bix hs46
       refine ZD hE rfl rfl Try.underlying22 ty5 (hM.rd h57) hi60.1 fun a hE=>ZM (v:=(vB x58)) hE rfl ty5 rfl (Z4 (hM.rd h57) hi60.2) fun a hE=>ZE (xs:=[.tmp 46]) (l:=([x58] : List UInt8)) (vs:=[vB x58]) hE hM Za ld rfl rfl Try.underlying22 ty5 rfl (by decide) rfl ?_; intro u61 w a hM hE
       obtain ⟨l63,e64,hs46⟩:=bind_some hs46
       obtain ⟨e67,rfl⟩:=Yi e64
       have hM:=hM.pull4
       refine YE hE hM Za ld rfl rfl (hM.sl (pre:=[_]) noB) Try.underlying22 ty5 rfl (by decide) e67 fun u65 w a hM hE=>Zb hE rfl fun a hE=>Zi (YK (Zx (wp_region_lit (Zk hE rfl rfl rfl fun a hE=>Zd hE rfl fun a hE=>Zi (Zj ?_)))))
       have hM:=M.fst (l:=[_,_,_,_]) hM.pull4.pull4.pull4
       exact ⟨_,(ois hs46),u65,hE.sub ⟨rfl,rfl,rfl,rfl,rfl,rfl,rfl,rfl,rfl,rfl,rfl,rfl,rfl,rfl,rfl,rfl,rfl,trivial⟩,hM⟩
      ·intro hb49
       have hs46:=Zo hs46 hb49
       refine wp_exit (Zs (Zs (Y6 ?_)))
       obtain rfl:=hx47 _ (ois hs46)
       refine Zj ?_
       exact ⟨u44,hE.sub ⟨rfl,rfl,rfl,rfl,rfl,rfl,rfl,rfl,rfl,rfl,rfl,rfl,rfl,trivial⟩,hM⟩
     ·skip
      rintro a w ⟨u41,hE,hM⟩
      refine Zx ?_
      obtain ⟨r70,e71,hF40⟩:=bind_some hF40
      refine VL (its:=[raw b18 (cat [[vB x15],[u26]]),osl NoB (s8.2 : List GShare) u9,osl NoB (s25.1 : List UInt8) u26,osl NoB (j38 : List UInt8) u41]) (mk:=([mkO 6 (fun v=>osl NoB (([r70] : List UInt8) : List UInt8) v)] : Mk)) [50,51,52,53,54,55,56] VC rfl rfl (by decide) rfl hE (fun u=>M.qE (M.q0 hM.drew u) emO) (qsP (fun z=>Zv z.E Za ld rfl (YL) (kr0 rfl)) (qsP (v:=u26) ?_ (qsP (fun z=>Zh z.E Za ld rfl (kr0 rfl)) (qsP (fun z=>Zh z.E Za ld rfl (kr0 rfl)) (qsP (fun z=>Zh z.E Za ld rfl (kr0 rfl)) (qsP (v:=(vB r70)) ?_ (qsM (pr:=fun v=>True) ?_ qs0))))))) ?_
      ·intro a w ux69 D z
       have hE:=z.E
       have hM:=z.M
       exact ZM (v:=u26) hE rfl YS rfl (At.cat (pre:=[[vB x15]]) hM.rawAt0 ck) fun a hE=>⟨Kept.refl _ _,_,rfl,hE⟩
      ·intro a w ux69 D z
       have hE:=z.E
       have hM:=z.M
       refine Zl hE rfl (cbm Try.func73) (UC _ p0 j38 u41 (hM.sl (pre:=[_,_,_]) noB) x15 r70 e71) ?_
       rintro v w a ⟨rfl,hK⟩ hE
       exact ⟨hK,_,rfl,hE⟩
      ·intro a w ux69 D z
       have hE:=z.E
       have hD : D 6 = false:=z.F
       have hM:=z.M
       exact ZE (xs:=[.tmp 55]) (l:=([r70] : List UInt8)) (vs:=[vB r70]) hE hM Za ld rfl rfl Try.underlying22 ty5 rfl (by decide) rfl fun u72 w a hM hE=>⟨_,_,rfl,hE,M.qFill (mk1:=[]) (mk2:=[]) (f:=(fun v=>osl NoB (([r70] : List UInt8) : List UInt8) v)) hM rfl hD,trivial⟩
      ·intro a w ux69 D hE hM hG hall
       have d6:=hall 6 (by decide)
       have hM:=hM.sure (pre:=[_,_,_,_]) d6
       obtain ⟨l74,e75,hF40⟩:=bind_some hF40
       obtain ⟨e78,rfl⟩:=Yi e75
       have hM:=hM.pull2
       refine YE hE hM Za ld rfl rfl (hM.sl (pre:=[_,_,_,_]) noB) Try.underlying22 ty5 rfl (by decide) e78 fun u76 w a hM hE=>ZA hE rfl (YL) ?_; intro a hE
       have hM:=hM.pull1
       refine Y3 (seg:=[u76]) hE hM Za rfl rfl (WD (hM.sl (pre:=[_]) noB)) YS rfl (VZ (pre:=[[vB x15]]) ck rfl) (Rep.cell (hM.sl (pre:=[_]) noB)) (XW (pre:=[[vB x15]]) ck rfl) fun w a hM hE=>Zi (YK (Zx (wp_region_lit (Zk hE rfl rfl rfl fun a hE=>Zd hE rfl fun a hE=>Zi (Zj ?_)))))
       have hM:=M.fst (l:=[_,_,_]) hM.pull1.pull2.pull2
       exact ⟨_,(ois hF40),u76,hE.sub ⟨rfl,rfl,rfl,rfl,rfl,rfl,rfl,rfl,rfl,rfl,rfl,rfl,trivial⟩,hM⟩
    ·intro hb32
     have hs28:=Zo hs28 hb32
     refine wp_exit (Zs (Zs (Y6 ?_)))
     obtain rfl:=hx29 _ (ois hs28)
     refine Zj ?_
     exact ⟨u26,hE.sub ⟨rfl,rfl,rfl,rfl,rfl,rfl,rfl,rfl,trivial⟩,hM⟩
   ·skip
    rintro a w ⟨u23,hE,hM⟩
    refine Zx (wp_region_lit (Zd hE rfl fun a hE=>Ue hE rfl ZU rfl hM.rawAt0 cq ?_)); intro a hE
    have hM:=hM.pull2
    have hM:=hM.pack1 (it:=own NoB (⟨x15,j20⟩ : GShare) (cat [[vB x15],[u23]])) (Vh noB) (fun f0 q0=>(Tb (X2.sat q0) (by simp)))
    refine U5 (xs:=[.tmp 61]) (seg:=cat [[vB x15],[u23]]) hE hM noB Za ld rfl rfl Try.underlying27 ZU rfl (by decide) ?_; intro u80 w a hM hE
    obtain ⟨l82,e83,hF22⟩:=bind_some hF22
    obtain ⟨e86,rfl⟩:=Yi e83
    have hM:=hM.pull2
    refine UA hE hM noB Za ld rfl rfl Try.underlying27 ZU rfl (by decide) e86 fun u84 w a hM hE=>Zb hE rfl fun a hE=>Zi (YK (Zx (wp_region_lit (Zk hE rfl rfl rfl fun a hE=>Zd hE rfl fun a hE=>Zi (Zj ?_)))))
    have hM:=M.fst (l:=[_]) hM
    exact ⟨_,(ois hF22),u84,hE.sub ⟨rfl,rfl,rfl,rfl,rfl,rfl,rfl,trivial⟩,hM⟩
  ·intro hb14
   have hs11:=Zo hs11 hb14
   refine wp_exit (Zs (Zs (Y6 ?_)))
   obtain rfl:=hx12 _ (ois hs11)
   refine Zj ?_
   exact ⟨u9,hE.sub ⟨rfl,trivial⟩,hM⟩
 ·skip
  rintro a w ⟨u6,hE,hM⟩
  refine Zx (Zc (Zd hE rfl fun a hE=>Zb hE rfl fun a hE=>Ze ?_))
  obtain rfl:=Option.some.inj hF5
  exact wp_ret (Y7 hE rfl (Zq hE rfl) ⟨_,rfl,u6,rfl,hM.outF (YG YP),hM.kept⟩)
def W5 (p0 : Int) (p1 : (List UInt8)) (p2 : (List (List UInt8))) (p3 : (List UInt8)) : Option ((List GShare) × Int) :=
 (XN p0).bind fun r1=>if (!r1) = true then (some ([],1)) else ((if (decide ((p1.length : Int) > 100)) = true then (some true) else ((YC p2 (p1.length : Int)).bind fun r10=>if (!r10) = true then (some true) else ((WT p3).bind fun r14=>(YU r14 1 12).bind fun r16=>some (!r16))) : Option (Bool)).bind fun j5=>if j5 = true then (some ([],2)) else ((XM p3).bind fun r21=>if (!r21) = true then (some ([],5)) else ((Xg p0 p1 p2 p3).bind fun r25=>some (r25,0))))
theorem KU (w0 : World) (p0 : Int) (p1 : (List UInt8)) (v1_1 : Value) (hv1_1 : Ro w0 p1 [v1_1]) (p2 : (List (List UInt8))) (v2_1 : Value) (hv2_1 : Ro w0 p2 [v2_1]) (p3 : (List UInt8)) (v3_1 : Value) (hv3_1 : Ro w0 p3 [v3_1]) (r : (List GShare) × Int) (hF : W5 p0 p1 p2 p3 = some r) :
  Calls Try.prog 8 [vI p0,v1_1,v2_1,v3_1].toArray w0 (fun en w'=>∃ v,en = .returned v ∧ (∃ (y1 : Value),v = (Value.tuple [y1,vI r.2].toArray) ∧ Fr w0 w' [osl NoB (r.1 : List GShare) y1] ∧ Kept (Old w0) w0 w')):=by
 refine ce Try.func8 ?_
 intro a hE
 have hM:=M.start w0
 unfold W5 at hF
 refine Zc (Zb hE rfl fun a hE=>Zb hE rfl fun a hE=>Ze (wp_seq (wp_block (Zc (Zd hE rfl ?_))))); intro a hE
 obtain ⟨r1,e2,hF⟩:=bind_some hF
 refine Zl hE rfl cb54 (UD _ p0 r1 e2) ?_
 rintro v w a ⟨rfl,hK⟩ hE
 have hM:=hM.keep hK
 refine VW hE rfl fun a hE=>Zb hE rfl fun a hE=>Ze ?_
 refine Zm hE rfl ?_ ?_
 ·intro hb3
  have hF:=Zp hF hb3
  refine Zc (Zb hE rfl fun a hE=>Zb hE rfl fun a hE=>Ze ?_)
  have hM:=M.nilS (α:=GShare) NoB noB hM
  obtain rfl:=Option.some.inj hF
  exact wp_ret (Yh (Zr (Yr hE rfl (Zq hE rfl) (Zq hE rfl) ⟨_,rfl,(Value.slice none 0 0),rfl,hM.outF (YG YP),hM.kept⟩)))
 ·intro hb3
  have hF:=Zo hF hb3
  obtain ⟨j5,hl6,hF7⟩:=bind_some hF
  refine ZB (fun a w=>Env 40 a [(0,vI p0),(1,v1_1),(2,v2_1),(3,v3_1),(14,vT j5)] ∧ M (Old w0) w0 w []) ?_ ?_
  ·skip
   refine wp_region_lit (Zd hE rfl fun a hE=>ZQ hE rfl Try.underlying22 (hM.rd hv1_1) fun a hE=>Zk hE rfl rfl rfl fun a hE=>Zd hE rfl ?_); intro a hE
   refine ZZ (decide ((p1.length : Int) > 100)) (fun hb8=>?_) (fun hb8=>?_)
   ·have hl6:=Zp hl6 hb8
    refine Zg hE rfl (lkb rfl hb8) rfl (by decide) fun a hE=>Zg hE rfl (lkb rfl hb8) rfl (by decide) fun a hE=>Zg hE rfl (lkb rfl hb8) rfl (by decide) fun a hE=>Zg hE rfl (lkb rfl hb8) rfl (by decide) fun a hE=>Zg hE rfl (lkb rfl hb8) rfl (by decide) fun a hE=>ZC hE (lkb rfl hb8) rfl fun a hE=>Zd hE rfl fun a hE=>Zg hE rfl rfl rfl (by decide) fun a hE=>Zg hE rfl rfl rfl (by decide) fun a hE=>Zg hE rfl rfl rfl (by decide) fun a hE=>Zg hE rfl rfl rfl (by decide) fun a hE=>ZC hE rfl rfl ?_; intro a hE
    refine Zb hE rfl fun a hE=>Zi ?_
    obtain rfl:=Option.some.inj hl6
    refine Zj ?_
    exact ⟨hE.sub ⟨rfl,rfl,rfl,rfl,rfl,trivial⟩,hM⟩
   ·have hl6:=Zo hl6 hb8
    refine Zh hE (Zf hE rfl (lkb rfl hb8)) (by decide) rfl fun a hE=>Zh hE (Zf hE rfl (lkb rfl hb8)) (by decide) rfl fun a hE=>VU hE (Zf hE rfl (lkb rfl hb8)) (by decide) rfl Try.underlying22 (hM.rd hv1_1) ?_; intro a hE
    obtain ⟨r10,e11,hl6⟩:=bind_some hl6
    refine Z1 hE (Zf hE rfl (lkb rfl hb8)) (by decide) rfl (cbm Try.func55) (V8 _ p2 v2_1 (hM.rdo hv2_1) (p1.length : Int) r10 e11) ?_
    rintro v w a ⟨rfl,hK⟩ hE
    have hM:=hM.keep hK
    refine V7 hE (Zf hE rfl (lkb rfl hb8)) (by decide) rfl fun a hE=>ZL hE (lkb rfl hb8) rfl fun a hE=>Zd hE rfl ?_; intro a hE
    refine ZZ (!r10) (fun hb12=>?_) (fun hb12=>?_)
    ·have hl6:=Zp hl6 hb12
     refine Zg hE rfl (lkb rfl hb12) rfl (by decide) fun a hE=>Zg hE rfl (lkb rfl hb12) rfl (by decide) fun a hE=>Zg hE rfl (lkb rfl hb12) rfl (by decide) fun a hE=>Zg hE rfl (lkb rfl hb12) rfl (by decide) fun a hE=>ZC hE (lkb rfl hb12) rfl fun a hE=>Zb hE rfl fun a hE=>Zi ?_
     obtain rfl:=Option.some.inj hl6
     refine Zj ?_
     exact ⟨hE.sub ⟨rfl,rfl,rfl,rfl,rfl,trivial⟩,hM⟩
    ·have hl6:=Zo hl6 hb12
     refine Zh hE (Zf hE rfl (lkb rfl hb12)) (by decide) rfl ?_; intro a hE
     obtain ⟨r14,e15,hl6⟩:=bind_some hl6
     refine Z1 hE (Zf hE rfl (lkb rfl hb12)) (by decide) rfl (cbm Try.func57) (Qx _ p3 v3_1 (hM.rdo hv3_1) r14 e15) ?_
     rintro v w a ⟨rfl,hK⟩ hE
     have hM:=hM.keep hK
     obtain ⟨r16,e17,hl6⟩:=bind_some hl6
     refine Z1 hE (Zf hE rfl (lkb rfl hb12)) (by decide) rfl cb56 (Vr _ r14 1 12 r16 e17) ?_
     rintro v w a ⟨rfl,hK⟩ hE
     have hM:=hM.keep hK
     refine V7 hE (Zf hE rfl (lkb rfl hb12)) (by decide) rfl fun a hE=>ZL hE (lkb rfl hb12) rfl fun a hE=>Zb hE rfl fun a hE=>Zi ?_
     obtain rfl:=Option.some.inj hl6
     refine Zj ?_
     exact ⟨hE.sub ⟨rfl,rfl,rfl,rfl,rfl,trivial⟩,hM⟩
  ·skip
   rintro a w ⟨hE,hM⟩
   refine Zm hE rfl ?_ ?_
   ·intro hb19
    have hF7:=Zp hF7 hb19
    refine Zc (Zb hE rfl fun a hE=>Zb hE rfl fun a hE=>Ze ?_)
    have hM:=M.nilS (α:=GShare) NoB noB hM
    obtain rfl:=Option.some.inj hF7
    exact wp_ret (Yh (Zr (Yr hE rfl (Zq hE rfl) (Zq hE rfl) ⟨_,rfl,(Value.slice none 0 0),rfl,hM.outF (YG YP),hM.kept⟩)))
   ·intro hb19
    have hF7:=Zo hF7 hb19
    refine Zc (Zd hE rfl ?_); intro a hE
    obtain ⟨r21,e22,hF7⟩:=bind_some hF7
    refine Zl hE rfl (cbm Try.func58) (Qn _ p3 v3_1 (hM.rdo hv3_1) r21 e22) ?_
    rintro v w a ⟨rfl,hK⟩ hE
    have hM:=hM.keep hK
    refine VW hE rfl fun a hE=>Zb hE rfl fun a hE=>Ze ?_
    refine Zm hE rfl ?_ ?_
    ·intro hb23
     have hF7:=Zp hF7 hb23
     refine Zc (Zb hE rfl fun a hE=>Zb hE rfl fun a hE=>Ze ?_)
     have hM:=M.nilS (α:=GShare) NoB noB hM
     obtain rfl:=Option.some.inj hF7
     exact wp_ret (Yh (Zr (Yr hE rfl (Zq hE rfl) (Zq hE rfl) ⟨_,rfl,(Value.slice none 0 0),rfl,hM.outF (YG YP),hM.kept⟩)))
    ·intro hb23
     have hF7:=Zo hF7 hb23
     refine wp_skip (YK (Zx (Zc (Zd hE rfl fun a hE=>Zd hE rfl fun a hE=>Zd hE rfl fun a hE=>Zd hE rfl ?_)))); intro a hE
     obtain ⟨r25,e26,hF7⟩:=bind_some hF7
     refine Zl hE rfl (cbm Try.func59) (UI _ p0 p1 v1_1 (hM.rdo hv1_1) p2 v2_1 (hM.rdo hv2_1) p3 v3_1 (hM.rdo hv3_1) r25 e26) ?_
     rintro u27 w a ⟨_,rfl,hFr,hK⟩ hE
     have hM:=hM.add hK hFr
     refine Zb hE rfl fun a hE=>Zb hE rfl fun a hE=>Ze ?_
     obtain rfl:=Option.some.inj hF7
     exact wp_ret (Yr hE rfl (Zq hE rfl) (Zq hE rfl) ⟨_,rfl,u27,rfl,hM.outF (YG YP),hM.kept⟩)
def Wz (p0 : (List (List UInt8))) (p1 : Int) (s5 : Int) : Option (Fl Int (Fl Unit Bool)) :=
 if (decide (s5 < (p0.length : Int))) = true then ((idx p0 s5).bind fun x10=>if ((x10.length : Int) != p1) = true then (some (Fl.ex (Fl.ex false))) else (some (Fl.nx (wr (s5 + 1))))) else (some (Fl.ex (Fl.nx ())))
def WY (p0 : (List (List UInt8))) (p1 : Int) : Option (Bool) :=
 (ZJ (Wz p0 p1) 0).bind fun j1=>j1.el (fun s4=>some (decide ((p0.length : Int) ≤ 7))) (fun r=>some r)
theorem K0 (w0 : World) (p0 : (List (List UInt8))) (v0_1 : Value) (hv0_1 : Ro w0 p0 [v0_1]) (p1 : Int) (r : Bool) (hF : WY p0 p1 = some r) :
  Calls Try.prog 61 [v0_1,vI p1].toArray w0 (Rt w0 (vT r)):=by
 refine ce Try.func61 ?_
 intro a hE
 have hM:=M.start w0
 unfold WY at hF
 refine Zc (Zb hE rfl fun a hE=>Ze (wp_seq (Zc (Zb hE rfl fun a hE=>Ze ?_))))
 obtain ⟨j1,hl2,hF3⟩:=bind_some hF
 refine Z6 (fun a w=>∃ s4 : Unit,j1 = Fl.nx s4 ∧ Env 22 a [(0,v0_1)] ∧ M (Old w0) w0 w []) ?_ ?_
 ·skip
  refine wp_block ?_
  refine ZO (fun (s5 : Int) a w=>Env 22 a [(0,v0_1),(1,vI p1),(5,vI s5)] ∧ M (Old w0) w0 w []) hl2 ⟨hE.sub ⟨rfl,rfl,rfl,trivial⟩,hM⟩ ?_
  rintro s5 a w ⟨hE,hM⟩ o8 hs6 hx7
  unfold Wz at hs6
  refine wp_seq (Zc (Zd hE rfl fun a hE=>Zd hE rfl fun a hE=>ZQ hE rfl Try.underlying24 (hM.rd hv0_1) fun a hE=>Zk hE rfl rfl rfl fun a hE=>Ze ?_))
  refine Zm hE rfl ?_ ?_
  ·intro hb9
   have hs6:=Zp hs6 hb9
   refine wp_skip (Zx (wp_seq (wp_block (Zc (Zd hE rfl fun a hE=>Zd hE rfl ?_))))); intro a hE
   obtain ⟨x10,hi12,hs6⟩:=bix hs6
   refine ZD hE rfl rfl Try.underlying24 YS (hM.rd hv0_1) hi12.1 ?_; intro a hE
   obtain ⟨cs13,hs14,hA15⟩:=Yc hv0_1 hi12.2 -- ^
   obtain ⟨u16,rfl⟩:=Uo hs14 -- ^
   have h17:=hs14 -- ^
   refine ZM (v:=u16) hE rfl YS rfl (hM.atk hA15 (YI hv0_1 hi12.2)) fun a hE=>ZQ hE rfl Try.underlying22 (hM.rd h17) fun a hE=>Zd hE rfl fun a hE=>Zk hE rfl rfl rfl fun a hE=>Ze ?_
   refine Zm hE rfl ?_ ?_
   ·intro hb18
    have hs6:=Zp hs6 hb18
    refine Zc (Zb hE rfl fun a hE=>Ze ?_)
    obtain rfl:=hx7 _ (ois hs6)
    obtain rfl:=Option.some.inj hF3
    exact wp_ret (Yh (Zr (Zr (Yh (Zr (Zr (kr1 hE rfl rfl hM.kept)))))))
   ·intro hb18
    have hs6:=Zo hs6 hb18
    refine wp_skip (YK (Zx (wp_region_lit (Zd hE rfl fun a hE=>Zk hE rfl rfl rfl fun a hE=>Zb hE rfl fun a hE=>Zi (Zj ?_)))))
    exact ⟨_,(ois hs6),hE.sub ⟨rfl,rfl,rfl,trivial⟩,hM⟩
  ·intro hb9
   have hs6:=Zo hs6 hb9
   refine wp_exit (Zs (Zs (Y6 ?_)))
   obtain rfl:=hx7 _ (ois hs6)
   refine Zj ?_
   exact ⟨(),rfl,hE.sub ⟨rfl,trivial⟩,hM⟩
 ·skip
  rintro a w ⟨s4,ht,hE,hM⟩
  subst ht
  have hF3:=VV hF3
  refine Zx (Zc (Zd hE rfl fun a hE=>ZQ hE rfl Try.underlying24 (hM.rd hv0_1) fun a hE=>Zk hE rfl rfl rfl fun a hE=>Zb hE rfl fun a hE=>Ze ?_))
  obtain rfl:=Option.some.inj hF3
  exact wp_ret (kr1 hE rfl rfl hM.kept)
def XH (p0 : (List UInt8)) (s5 : Int) (s14 : Int) : Option (Fl Int (Fl Unit Bool)) :=
 if (decide (s14 < s5)) = true then (((idx p0 s5).bind fun x23=>(idx p0 s14).bind fun x26=>some (x23 == x26) : Option (Bool)).bind fun j19=>if j19 = true then (some (Fl.ex (Fl.ex true))) else (some (Fl.nx (wr (s14 + 1))))) else (some (Fl.ex (Fl.nx ())))
def XC (p0 : (List UInt8)) (s5 : Int) : Option (Fl Int (Fl Unit Bool)) :=
 if (decide (s5 < (p0.length : Int))) = true then ((ZJ (XH p0 s5) 0).bind fun j10=>j10.el (fun s13=>some (Fl.nx (wr (s5 + 1)))) (fun r=>some (Fl.ex (Fl.ex r)))) else (some (Fl.ex (Fl.nx ())))
def We (p0 : (List UInt8)) : Option (Bool) :=
 (ZJ (XC p0) 0).bind fun j1=>j1.el (fun s4=>some false) (fun r=>some r)
theorem TB (w0 : World) (p0 : (List UInt8)) (v0_1 : Value) (hv0_1 : Ro w0 p0 [v0_1]) (r : Bool) (hF : We p0 = some r) :
  Calls Try.prog 125 [v0_1].toArray w0 (Rt w0 (vT r)):=by
 refine ce Try.func125 ?_
 intro a hE
 have hM:=M.start w0
 unfold We at hF
 refine Zc (Zb hE rfl fun a hE=>Ze (wp_seq (Zc (Zb hE rfl fun a hE=>Ze ?_))))
 obtain ⟨j1,hl2,hF3⟩:=bind_some hF
 refine Z6 (fun a w=>∃ s4 : Unit,j1 = Fl.nx s4 ∧ Env 25 a [] ∧ M (Old w0) w0 w []) ?_ ?_
 ·skip
  refine wp_block ?_
  refine ZO (fun (s5 : Int) a w=>Env 25 a [(0,v0_1),(3,vI s5)] ∧ M (Old w0) w0 w []) hl2 ⟨hE.sub ⟨rfl,rfl,trivial⟩,hM⟩ ?_
  rintro s5 a w ⟨hE,hM⟩ o8 hs6 hx7
  unfold XC at hs6
  refine wp_seq (Zc (Zd hE rfl fun a hE=>Zd hE rfl fun a hE=>ZQ hE rfl Try.underlying22 (hM.rd hv0_1) fun a hE=>Zk hE rfl rfl rfl fun a hE=>Ze ?_))
  refine Zm hE rfl ?_ ?_
  ·intro hb9
   have hs6:=Zp hs6 hb9
   refine wp_skip (Zx (wp_seq (wp_block (Zc (Zb hE rfl fun a hE=>Ze ?_)))))
   obtain ⟨j10,hl11,hF12⟩:=bind_some hs6
   refine Z6 (fun a w=>∃ s13 : Unit,j10 = Fl.nx s13 ∧ Env 25 a [(0,v0_1),(3,vI s5)] ∧ M (Old w0) w0 w []) ?_ ?_
   ·skip
    refine wp_block ?_
    refine ZO (fun (s14 : Int) a w=>Env 25 a [(0,v0_1),(3,vI s5),(4,vI s14)] ∧ M (Old w0) w0 w []) hl11 ⟨hE.sub ⟨rfl,rfl,rfl,trivial⟩,hM⟩ ?_
    rintro s14 a w ⟨hE,hM⟩ o17 hs15 hx16
    unfold XH at hs15
    refine wp_seq (Zc (Zd hE rfl fun a hE=>Zd hE rfl fun a hE=>Zk hE rfl rfl rfl fun a hE=>Ze ?_))
    refine Zm hE rfl ?_ ?_
    ·intro hb18
     have hs15:=Zp hs15 hb18
     refine wp_skip (Zx (wp_seq (wp_block ?_)))
     obtain ⟨j19,hl20,hF21⟩:=bind_some hs15
     refine ZB (fun a w=>Env 25 a [(0,v0_1),(3,vI s5),(4,vI s14),(24,vT j19)] ∧ M (Old w0) w0 w []) ?_ ?_
     ·skip
      obtain ⟨x23,hi25,hl20⟩:=bix hl20
      obtain ⟨x26,hi28,hl20⟩:=bix hl20
      refine Y4 [16,17,18,19,20,21,22,23,24] VC rfl rfl (by decide) rfl hE hM (qsP (fun z=>Zh z.E Za ld rfl (kr0 rfl)) (qsP (fun z=>Zh z.E Za ld rfl (kr0 rfl)) (qsP (fun z=>ZG z.E Za ld rfl rfl Try.underlying22 ty5 (z.M.rd hv0_1) hi25.1 (kr0 rfl)) (qsP (fun z=>ZK (v:=(vB x23)) z.E Za ld rfl ty5 rfl (Z4 (z.M.rd hv0_1) hi25.2) (kr0 rfl)) (qsP (fun z=>Zh z.E Za ld rfl (kr0 rfl)) (qsP (fun z=>Zh z.E Za ld rfl (kr0 rfl)) (qsP (fun z=>ZG z.E Za ld rfl rfl Try.underlying22 ty5 (z.M.rd hv0_1) hi28.1 (kr0 rfl)) (qsP (fun z=>ZK (v:=(vB x26)) z.E Za ld rfl ty5 rfl (Z4 (z.M.rd hv0_1) hi28.2) (kr0 rfl)) (qsP (fun z=>Z2 z.E Za ld rfl rfl (JP x23 x26) (kr0 rfl)) qs0))))))))) ?_
      ·intro a w u hE hM
       refine Zi ?_
       obtain rfl:=Option.some.inj hl20
       refine Zj ?_
       exact ⟨hE.sub ⟨rfl,rfl,rfl,rfl,trivial⟩,hM⟩
     ·skip
      rintro a w ⟨hE,hM⟩
      refine Zm hE rfl ?_ ?_
      ·intro hb30
       have hF21:=Zp hF21 hb30
       refine Zc (Zb hE rfl fun a hE=>Ze ?_)
       obtain rfl:=hx16 _ (ois hF21)
       obtain rfl:=hx7 _ (ois hF12)
       obtain rfl:=Option.some.inj hF3
       exact wp_ret (Yh (Zr (Zr (Yh (Zr (Yh (Zr (Zr (Yh (Zr (Zr (kr1 hE rfl rfl hM.kept))))))))))))
      ·intro hb30
       have hF21:=Zo hF21 hb30
       refine wp_skip (YK (Zx (wp_region_lit (Zd hE rfl fun a hE=>Zk hE rfl rfl rfl fun a hE=>Zb hE rfl fun a hE=>Zi (Zj ?_)))))
       exact ⟨_,(ois hF21),hE.sub ⟨rfl,rfl,rfl,trivial⟩,hM⟩
    ·intro hb18
     have hs15:=Zo hs15 hb18
     refine wp_exit (Zs (Zs (Y6 ?_)))
     obtain rfl:=hx16 _ (ois hs15)
     refine Zj ?_
     exact ⟨(),rfl,hE.sub ⟨rfl,rfl,trivial⟩,hM⟩
   ·skip
    rintro a w ⟨s13,ht,hE,hM⟩
    subst ht
    have hF12:=VV hF12
    refine YK (Zx (wp_region_lit (Zd hE rfl fun a hE=>Zk hE rfl rfl rfl fun a hE=>Zb hE rfl fun a hE=>Zi (Zj ?_))))
    exact ⟨_,(ois hF12),hE.sub ⟨rfl,rfl,trivial⟩,hM⟩
  ·intro hb9
   have hs6:=Zo hs6 hb9
   refine wp_exit (Zs (Zs (Y6 ?_)))
   obtain rfl:=hx7 _ (ois hs6)
   refine Zj ?_
   exact ⟨(),rfl,hE.sub trivial,hM⟩
 ·skip
  rintro a w ⟨s4,ht,hE,hM⟩
  subst ht
  have hF3:=VV hF3
  refine Zx (Zc (Zb hE rfl fun a hE=>Ze ?_))
  obtain rfl:=Option.some.inj hF3
  exact wp_ret (kr1 hE rfl rfl hM.kept)
def Wa (p0 : (List UInt8)) : Option (Bool) :=
 (app 1 ([0] : List UInt8) p0).bind fun l3=>(We (([0] : List UInt8) ++ p0)).bind fun r8=>some r8
theorem TA (w0 : World) (p0 : (List UInt8)) (v0_1 : Value) (hv0_1 : Ro w0 p0 [v0_1]) (r : Bool) (hF : Wa p0 = some r) :
  Calls Try.prog 62 [v0_1].toArray w0 (Rt w0 (vT r)):=by
 refine ce Try.func62 ?_
 intro a hE
 have hM:=M.start w0
 unfold Wa at hF
 refine Zc (Zb hE rfl fun a hE=>Ze (Zc (ZE (xs:=[.const (vB 0)]) (l:=([0] : List UInt8)) (vs:=[vB 0]) hE hM Za ld rfl rfl Try.underlying22 ty5 rfl (by decide) rfl fun u1 w a hM hE=>Zd hE rfl ?_))); intro a hE
 obtain ⟨l3,e4,hF⟩:=bind_some hF
 obtain ⟨e7,rfl⟩:=Yi e4
 refine YE hE hM Za ld rfl rfl (hM.rd hv0_1) Try.underlying22 ty5 rfl (by decide) e7 ?_; intro u5 w a hM hE
 obtain ⟨r8,e9,hF⟩:=bind_some hF
 refine Zl hE rfl (cbm Try.func125) (TB _ (([0] : List UInt8) ++ p0) u5 (hM.sl (pre:=[]) noB) r8 e9) ?_
 rintro v w a ⟨rfl,hK⟩ hE
 have hM:=hM.keep hK
 refine Zb hE rfl fun a hE=>Ze ?_
 obtain rfl:=Option.some.inj hF
 exact wp_ret (kr1 hE rfl rfl hM.kept)
def YO (p0 : Int) (s4 : Int × Int × Int) : Option (Fl (Int × Int × Int) Int) :=
 if (decide (s4.2.2 > 0)) = true then (((if ((Int.tmod s4.2.2 2) == 1) = true then (some (Ka s4.1 s4.2.1)) else (some s4.1) : Option (Int)).bind fun j12=>(if (decide ((wr (s4.2.1 * 2)) ≥ 256)) = true then (some (Ka (wr (s4.2.1 * 2)) p0)) else (some (wr (s4.2.1 * 2))) : Option (Int)).bind fun j18=>some (j12,j18) : Option (Int × Int)).bind fun j9=>some (Fl.nx (j9.1,j9.2,wr (Int.tdiv s4.2.2 2)))) else (some (Fl.ex s4.1))
def Ye (p0 : Int) (p1 : UInt8) (p2 : UInt8) : Option (UInt8) :=
 (ZJ (YO p0) (0,bI p1,bI p2)).bind fun j1=>some (X1 j1)
theorem Xv (w0 : World) (p0 : Int) (p1 : UInt8) (p2 : UInt8) (r : UInt8) (hF : Ye p0 p1 p2 = some r) :
  Calls Try.prog 178 [vI p0,vB p1,vB p2].toArray w0 (Rt w0 (vB r)):=by
 refine ce Try.func178 ?_
 intro a hE
 have hM:=M.start w0
 unfold Ye at hF
 refine Zc (Zb hE rfl fun a hE=>Ze (Zc (Zd hE rfl fun a hE=>Tl hE Za ld rfl Try.underlying5 Try.underlying2 fun a hE=>Zb hE rfl fun a hE=>Zb hE rfl fun a hE=>Ze (wp_seq (Zc (Zd hE rfl fun a hE=>Tl hE Za ld rfl Try.underlying5 Try.underlying2 fun a hE=>Zb hE rfl fun a hE=>Ze ?_))))))
 obtain ⟨j1,hl2,hF3⟩:=bind_some hF
 refine Z6 (fun a w=>Env 33 a [(7,vI j1)] ∧ M (Old w0) w0 w []) ?_ ?_
 ·skip
  refine wp_block ?_
  refine ZO (fun (s4 : Int × Int × Int) a w=>Env 33 a [(0,vI p0),(7,vI s4.1),(8,vI s4.2.1),(9,vI s4.2.2)] ∧ M (Old w0) w0 w []) hl2 ⟨hE.sub ⟨rfl,rfl,rfl,rfl,trivial⟩,hM⟩ ?_
  rintro s4 a w ⟨hE,hM⟩ o7 hs5 hx6
  unfold YO at hs5
  refine wp_seq (Zc (Zd hE rfl fun a hE=>Zk hE rfl rfl rfl fun a hE=>Ze ?_))
  refine Zm hE rfl ?_ ?_
  ·intro hb8
   have hs5:=Zp hs5 hb8
   refine wp_skip (Zx ?_)
   obtain ⟨j9,hl10,hF11⟩:=bind_some hs5
   refine ZB (fun a w=>Env 33 a [(0,vI p0),(7,vI j9.1),(8,vI j9.2),(9,vI s4.2.2)] ∧ M (Old w0) w0 w []) ?_ ?_
   ·skip
    refine wp_block ?_
    obtain ⟨j12,hl13,hF14⟩:=bind_some hl10
    refine ZB (fun a w=>Env 33 a [(0,vI p0),(7,vI j12),(8,vI s4.2.1),(9,vI s4.2.2)] ∧ M (Old w0) w0 w []) ?_ ?_
    ·skip
     refine Zc (Zd hE rfl fun a hE=>Zk hE rfl rfl (Kq _ _ (by decide)) fun a hE=>Zk hE rfl rfl rfl fun a hE=>Ze ?_)
     refine Zm hE rfl ?_ ?_
     ·intro hb15
      have hl13:=Zp hl13 hb15
      refine wp_region_lit (Zd hE rfl fun a hE=>Zd hE rfl fun a hE=>Zk hE rfl rfl rfl fun a hE=>Zb hE rfl fun a hE=>Zi ?_)
      obtain rfl:=Option.some.inj hl13
      refine Zj ?_
      exact ⟨hE.sub ⟨rfl,rfl,rfl,rfl,trivial⟩,hM⟩
     ·intro hb15
      have hl13:=Zo hl13 hb15
      refine wp_skip ?_
      obtain rfl:=Option.some.inj hl13
      refine Zj ?_
      exact ⟨hE.sub ⟨rfl,rfl,rfl,rfl,trivial⟩,hM⟩
    ·skip
     rintro a w ⟨hE,hM⟩
     refine Zc (Zd hE rfl fun a hE=>Zk hE rfl rfl rfl fun a hE=>Zb hE rfl fun a hE=>Ze (Zc (Zd hE rfl fun a hE=>Zk hE rfl rfl rfl fun a hE=>Ze ?_)))
     obtain ⟨j18,hl19,hF20⟩:=bind_some hF14
     refine Z6 (fun a w=>Env 33 a [(0,vI p0),(7,vI j12),(8,vI j18),(9,vI s4.2.2)] ∧ M (Old w0) w0 w []) ?_ ?_
     ·skip
      refine Zm hE rfl ?_ ?_
      ·intro hb21
       have hl19:=Zp hl19 hb21
       refine wp_region_lit (Zd hE rfl fun a hE=>Zd hE rfl fun a hE=>Zk hE rfl rfl rfl fun a hE=>Zb hE rfl fun a hE=>Zi ?_)
       obtain rfl:=Option.some.inj hl19
       refine Zj ?_
       exact ⟨hE.sub ⟨rfl,rfl,rfl,rfl,trivial⟩,hM⟩
      ·intro hb21
       have hl19:=Zo hl19 hb21
       refine wp_skip ?_
       obtain rfl:=Option.some.inj hl19
       refine Zj ?_
       exact ⟨hE.sub ⟨rfl,rfl,rfl,rfl,trivial⟩,hM⟩
     ·skip
      rintro a w ⟨hE,hM⟩
      refine YK ?_
      obtain rfl:=Option.some.inj hF20
      refine Zj ?_
      exact ⟨hE.sub ⟨rfl,rfl,rfl,rfl,trivial⟩,hM⟩
   ·skip
    rintro a w ⟨hE,hM⟩
    refine wp_region_lit (Zd hE rfl fun a hE=>Zk hE rfl rfl (HD _ _ (by decide)) fun a hE=>Zb hE rfl fun a hE=>Zi (Zj ?_))
    exact ⟨_,(ois hF11),hE.sub ⟨rfl,rfl,rfl,rfl,trivial⟩,hM⟩
  ·intro hb8
   have hs5:=Zo hs5 hb8
   refine wp_exit (Zs (Zs (Y6 ?_)))
   obtain rfl:=hx6 _ (ois hs5)
   refine Zj ?_
   exact ⟨hE.sub ⟨rfl,trivial⟩,hM⟩
 ·skip
  rintro a w ⟨hE,hM⟩
  refine Zx (Zc (Zd hE rfl fun a hE=>Tj hE Za ld rfl Try.underlying2 Try.underlying5 fun a hE=>Zb hE rfl fun a hE=>Ze ?_))
  obtain rfl:=Option.some.inj hF3
  exact wp_ret (kr1 hE rfl rfl hM.kept)
def Xa (p0 : Int) (p1 : (List UInt8)) (p2 : UInt8) (s4 : UInt8 × Int) : Option (Fl (UInt8 × Int) UInt8) :=
 if (decide (s4.2 ≥ 0)) = true then ((Ye p0 s4.1 p2).bind fun r10=>(idx p1 s4.2).bind fun x12=>some (Fl.nx (r10 ^^^ x12,wr (s4.2 - 1)))) else (some (Fl.ex s4.1))
def Wf (p0 : Int) (p1 : (List UInt8)) (p2 : UInt8) : Option (UInt8) :=
 (ZJ (Xa p0 p1 p2) (0,wr ((p1.length : Int) - 1))).bind fun j1=>some j1
theorem TE (w0 : World) (p0 : Int) (p1 : (List UInt8)) (v1_1 : Value) (hv1_1 : Ro w0 p1 [v1_1]) (p2 : UInt8) (r : UInt8) (hF : Wf p0 p1 p2 = some r) :
  Calls Try.prog 126 [vI p0,v1_1,vB p2].toArray w0 (Rt w0 (vB r)):=by
 refine ce Try.func126 ?_
 intro a hE
 have hM:=M.start w0
 unfold Wf at hF
 refine Zc (Zb hE rfl fun a hE=>Ze (Zc (Zb hE rfl fun a hE=>Ze (wp_seq (Zc (Zd hE rfl fun a hE=>ZQ hE rfl Try.underlying22 (hM.rd hv1_1) fun a hE=>Zk hE rfl rfl rfl fun a hE=>Zb hE rfl fun a hE=>Ze ?_))))))
 obtain ⟨j1,hl2,hF3⟩:=bind_some hF
 refine Z6 (fun a w=>Env 26 a [(7,vB j1)] ∧ M (Old w0) w0 w []) ?_ ?_
 ·skip
  refine wp_block ?_
  refine ZO (fun (s4 : UInt8 × Int) a w=>Env 26 a [(0,vI p0),(1,v1_1),(2,vB p2),(7,vB s4.1),(8,vI s4.2)] ∧ M (Old w0) w0 w []) hl2 ⟨hE.sub ⟨rfl,rfl,rfl,rfl,rfl,trivial⟩,hM⟩ ?_
  rintro s4 a w ⟨hE,hM⟩ o7 hs5 hx6
  unfold Xa at hs5
  refine wp_seq (Zc (Zd hE rfl fun a hE=>Zk hE rfl rfl rfl fun a hE=>Ze ?_))
  refine Zm hE rfl ?_ ?_
  ·intro hb8
   have hs5:=Zp hs5 hb8
   refine wp_skip (Zx (wp_seq (wp_block ?_)))
   obtain ⟨r10,e11,hs5⟩:=bind_some hs5
   obtain ⟨x12,hi14,hs5⟩:=bix hs5
   refine Y4 [16,17,18,19,20,21,22,23,24] VC rfl rfl (by decide) rfl hE hM (qsP (fun z=>Zh z.E Za ld rfl (kr0 rfl)) (qsP (fun z=>Zh z.E Za ld rfl (kr0 rfl)) (qsP (fun z=>Zh z.E Za ld rfl (kr0 rfl)) (qsP (fun z=>Z1 z.E Za ld rfl JG (Xv _ p0 s4.1 p2 r10 e11) (kc rfl)) (qsP (fun z=>Zh z.E Za ld rfl (kr0 rfl)) (qsP (fun z=>Zh z.E Za ld rfl (kr0 rfl)) (qsP (fun z=>ZG z.E Za ld rfl rfl Try.underlying22 ty5 (z.M.rd hv1_1) hi14.1 (kr0 rfl)) (qsP (fun z=>ZK (v:=(vB x12)) z.E Za ld rfl ty5 rfl (Z4 (z.M.rd hv1_1) hi14.2) (kr0 rfl)) (qsP (v:=(vB (r10 ^^^ x12))) (fun z=>Z2 z.E Za ld rfl rfl (U0 r10 x12) (kr0 rfl)) qs0))))))))) ?_
   ·intro a w u hE hM
    refine Zb hE rfl fun a hE=>Zi (YK (Zx (wp_region_lit (Zd hE rfl fun a hE=>Zk hE rfl rfl rfl fun a hE=>Zb hE rfl fun a hE=>Zi (Zj ?_)))))
    exact ⟨_,(ois hs5),hE.sub ⟨rfl,rfl,rfl,rfl,rfl,trivial⟩,hM⟩
  ·intro hb8
   have hs5:=Zo hs5 hb8
   refine wp_exit (Zs (Zs (Y6 ?_)))
   obtain rfl:=hx6 _ (ois hs5)
   refine Zj ?_
   exact ⟨hE.sub ⟨rfl,trivial⟩,hM⟩
 ·skip
  rintro a w ⟨hE,hM⟩
  refine Zx (Zc (Zd hE rfl fun a hE=>Zb hE rfl fun a hE=>Ze ?_))
  obtain rfl:=Option.some.inj hF3
  exact wp_ret (kr1 hE rfl rfl hM.kept)
def Wc (p2 : (List (List UInt8))) (s25 : (List UInt8) × Int) (s43 : (List UInt8) × Int) : Option (Fl ((List UInt8) × Int) (List UInt8)) :=
 if (decide (s43.2 < (p2.length : Int))) = true then ((idx p2 s43.2).bind fun x50=>(idx x50 s25.2).bind fun x58=>(app 1 s43.1 ([x58] : List UInt8)).bind fun l63=>some (Fl.nx ((s43.1 ++ ([x58] : List UInt8)),wr (s43.2 + 1)))) else (some (Fl.ex s43.1))
def Wd (p0 : Int) (p1 : (List UInt8)) (p2 : (List (List UInt8))) (p3 : (List UInt8)) (s8 : Int × (List GShare)) (s25 : (List UInt8) × Int) : Option (Fl ((List UInt8) × Int) (List UInt8)) :=
 if (decide (s25.2 < (p1.length : Int))) = true then ((idx p1 s25.2).bind fun x33=>(ZJ (Wc p2 s25) (([x33] : List UInt8),0)).bind fun j38=>(idx p3 s8.1).bind fun x70=>(Wf p0 j38 x70).bind fun r73=>(app 1 s25.1 ([r73] : List UInt8)).bind fun l77=>some (Fl.nx ((s25.1 ++ ([r73] : List UInt8)),wr (s25.2 + 1)))) else (some (Fl.ex s25.1))
def X6 (p0 : Int) (p1 : (List UInt8)) (p2 : (List (List UInt8))) (p3 : (List UInt8)) (s8 : Int × (List GShare)) : Option (Fl (Int × (List GShare)) (List GShare)) :=
 if (decide (s8.1 < (p3.length : Int))) = true then ((idx p3 s8.1).bind fun x15=>(ZJ (Wd p0 p1 p2 p3 s8) ([],0)).bind fun j20=>(app 32 s8.2 ([(⟨x15,j20⟩ : GShare)] : List GShare)).bind fun l85=>some (Fl.nx (wr (s8.1 + 1),(s8.2 ++ ([(⟨x15,j20⟩ : GShare)] : List GShare))))) else (some (Fl.ex s8.2))
def WF (p0 : Int) (p1 : (List UInt8)) (p2 : (List (List UInt8))) (p3 : (List UInt8)) : Option ((List GShare)) :=
 (ZJ (X6 p0 p1 p2 p3) (0,([] : List GShare))).bind fun j3=>some j3
theorem TT (w0 : World) (p0 : Int) (p1 : (List UInt8)) (v1_1 : Value) (hv1_1 : Ro w0 p1 [v1_1]) (p2 : (List (List UInt8))) (v2_1 : Value) (hv2_1 : Ro w0 p2 [v2_1]) (p3 : (List UInt8)) (v3_1 : Value) (hv3_1 : Ro w0 p3 [v3_1]) (r : (List GShare)) (hF : WF p0 p1 p2 p3 = some r) :
  Calls Try.prog 63 [vI p0,v1_1,v2_1,v3_1].toArray w0 (fun en w'=>∃ v,en = .returned v ∧ (∃ (y1 : Value),v = y1 ∧ Fr w0 w' [osl NoB (r : List GShare) y1] ∧ Kept (Old w0) w0 w')):=by
 refine ce Try.func63 ?_
 intro a hE
 have hM:=M.start w0
 unfold WF at hF
 refine Zc (Zb hE rfl fun a hE=>Ze (Zc (US (xs:=[]) (S:=NoB) (l:=([] : List GShare)) (vs:=[]) hE hM.emp noB Za ld rfl rfl rfl Try.underlying27 ZU rfl (by decide) (fun _ h=>⟨rfl,h⟩) (fun _ h=>by cases h) fun u1 w a hM hE=>Zb hE rfl fun a hE=>Ze (wp_seq (Zc (Zb hE rfl fun a hE=>Ze ?_))))))
 obtain ⟨j3,hl4,hF5⟩:=bind_some hF
 refine Z6 (fun a w=>∃ (u6 : Value),Env 71 a [(9,u6)] ∧ M (Old w0) w0 w [osl NoB (j3 : List GShare) u6]) ?_ ?_
 ·skip
  refine wp_block ?_
  refine ZO (fun (s8 : Int × (List GShare)) a w=>∃ (u9 : Value),Env 71 a [(0,vI p0),(1,v1_1),(2,v2_1),(3,v3_1),(9,u9),(10,vI s8.1)] ∧ M (Old w0) w0 w [osl NoB (s8.2 : List GShare) u9]) hl4 ⟨u1,hE.sub ⟨rfl,rfl,rfl,rfl,rfl,rfl,trivial⟩,hM⟩ ?_
  rintro s8 a w ⟨u9,hE,hM⟩ o13 hs11 hx12
  unfold X6 at hs11
  refine wp_seq (Zc (Zd hE rfl fun a hE=>Zd hE rfl fun a hE=>ZQ hE rfl Try.underlying22 (hM.rd hv3_1) fun a hE=>Zk hE rfl rfl rfl fun a hE=>Ze ?_))
  refine Zm hE rfl ?_ ?_
  ·intro hb14
   have hs11:=Zp hs11 hb14
   refine wp_skip (Zx (wp_seq (wp_block (Zc (Zd hE rfl fun a hE=>Zd hE rfl ?_))))); intro a hE
   obtain ⟨x15,hi17,hs11⟩:=bix hs11
   refine ZD hE rfl rfl Try.underlying22 ty5 (hM.rd hv3_1) hi17.1 fun a hE=>ZM (v:=(vB x15)) hE rfl ty5 rfl (Z4 (hM.rd hv3_1) hi17.2) fun a hE=>XS (parts:=[(0,.tmp 25)]) (vs:=[(0,vB x15)]) (cs:=cat [[vB x15],[(Value.slice none 0 0)]]) hE Za ld rfl rfl ZU HO (X9 (pre:=[]) (seg:=[vB 0]) (seg':=[vB x15]) (post:=[[(Value.slice none 0 0)]]) rfl cl0 rfl rfl rfl Vq) fun a hE=>Ug hE hM ZU fun b18 w a hM hE=>Y3 (seg:=cat [[vB x15],[(Value.slice none 0 0)]]) (cs':=cat [[vB x15],[(Value.slice none 0 0)]]) hE hM Za rfl rfl rfl ZU cq (Nat.le_of_eq ((Nat.zero_add _).trans (Eq.trans cq (Eq.symm cq)))) (Wk (cc1 (Flat.cell (x15 : UInt8)) (cc1 Qc cc0))) (ZX (Eq.trans cq (Eq.symm cq))) fun w a hM hE=>Ze (wp_seq (Zc (Zb hE rfl fun a hE=>Ze ?_)))
   obtain ⟨j20,hl21,hF22⟩:=bind_some hs11
   refine Z6 (fun a w=>∃ (u23 : Value),Env 71 a [(0,vI p0),(1,v1_1),(2,v2_1),(3,v3_1),(9,u9),(10,vI s8.1),(11,(ptr b18 0))] ∧ M (Old w0) w0 w [raw b18 (cat [[vB x15],[u23]]),osl NoB (s8.2 : List GShare) u9,osl NoB (j20 : List UInt8) u23]) ?_ ?_
   ·skip
    refine wp_block ?_
    have hM:=((M.nilS (α:=UInt8) NoB noB hM).pull2).pull2
    refine ZO (fun (s25 : (List UInt8) × Int) a w=>∃ (u26 : Value),Env 71 a [(0,vI p0),(1,v1_1),(2,v2_1),(3,v3_1),(9,u9),(10,vI s8.1),(11,(ptr b18 0)),(12,vI s25.2)] ∧ M (Old w0) w0 w [raw b18 (cat [[vB x15],[u26]]),osl NoB (s8.2 : List GShare) u9,osl NoB (s25.1 : List UInt8) u26]) hl21 ⟨(Value.slice none 0 0),hE.sub ⟨rfl,rfl,rfl,rfl,rfl,rfl,rfl,rfl,trivial⟩,hM⟩ ?_
    rintro s25 a w ⟨u26,hE,hM⟩ o30 hs28 hx29
    unfold Wd at hs28
    refine wp_seq (Zc (Zd hE rfl fun a hE=>Zd hE rfl fun a hE=>ZQ hE rfl Try.underlying22 (hM.rd hv1_1) fun a hE=>Zk hE rfl rfl rfl fun a hE=>Ze ?_))
    refine Zm hE rfl ?_ ?_
    ·intro hb32
     have hs28:=Zp hs28 hb32
     refine wp_skip (Zx (wp_seq (wp_block (Zc (Zd hE rfl fun a hE=>Zd hE rfl ?_))))); intro a hE
     obtain ⟨x33,hi35,hs28⟩:=bix hs28
     refine ZD hE rfl rfl Try.underlying22 ty5 (hM.rd hv1_1) hi35.1 fun a hE=>ZM (v:=(vB x33)) hE rfl ty5 rfl (Z4 (hM.rd hv1_1) hi35.2) fun a hE=>ZE (xs:=[.tmp 36]) (l:=([x33] : List UInt8)) (vs:=[vB x33]) hE hM Za ld rfl rfl Try.underlying22 ty5 rfl (by decide) rfl fun u36 w a hM hE=>Zb hE rfl fun a hE=>Ze (wp_seq (Zc (Zb hE rfl fun a hE=>Ze ?_)))
     obtain ⟨j38,hl39,hF40⟩:=bind_some hs28
     refine Z6 (fun a w=>∃ (u41 : Value),Env 71 a [(0,vI p0),(1,v1_1),(2,v2_1),(3,v3_1),(9,u9),(10,vI s8.1),(11,(ptr b18 0)),(12,vI s25.2),(13,u41)] ∧ M (Old w0) w0 w [raw b18 (cat [[vB x15],[u26]]),osl NoB (s8.2 : List GShare) u9,osl NoB (s25.1 : List UInt8) u26,osl NoB (j38 : List UInt8) u41]) ?_ ?_
     ·skip
      refine wp_block ?_
      have hM:=hM.pull3.pull3.pull3
      refine ZO (fun (s43 : (List UInt8) × Int) a w=>∃ (u44 : Value),Env 71 a [(0,vI p0),(1,v1_1),(2,v2_1),(3,v3_1),(9,u9),(10,vI s8.1),(11,(ptr b18 0)),(12,vI s25.2),(13,u44),(14,vI s43.2)] ∧ M (Old w0) w0 w [raw b18 (cat [[vB x15],[u26]]),osl NoB (s8.2 : List GShare) u9,osl NoB (s25.1 : List UInt8) u26,osl NoB (s43.1 : List UInt8) u44]) hl39 ⟨u36,hE.sub ⟨rfl,rfl,rfl,rfl,rfl,rfl,rfl,rfl,rfl,rfl,trivial⟩,hM⟩ ?_
      rintro s43 a w ⟨u44,hE,hM⟩ o48 hs46 hx47
      unfold Wc at hs46
      refine wp_seq (Zc (Zd hE rfl fun a hE=>Zd hE rfl fun a hE=>ZQ hE rfl Try.underlying24 (hM.rd hv2_1) fun a hE=>Zk hE rfl rfl rfl fun a hE=>Ze ?_))
      refine Zm hE rfl ?_ ?_
      ·intro hb49
       have hs46:=Zp hs46 hb49
       refine wp_skip (Zx (wp_seq (wp_block (wp_region_lit (Zd hE rfl fun a hE=>Zd hE rfl fun a hE=>Zd hE rfl ?_))))); intro a hE
       obtain ⟨x50,hi52,hs46⟩:=bix hs46
       refine ZD hE rfl rfl Try.underlying24 YS (hM.rd hv2_1) hi52.1 ?_; intro a hE
       obtain ⟨cs53,hs54,hA55⟩:=Yc hv2_1 hi52.2 -- ^
       obtain ⟨u56,rfl⟩:=Uo hs54 -- ^
       have h57:=hs54 -- ^
       refine ZM (v:=u56) hE rfl YS rfl (hM.atk hA55 (YI hv2_1 hi52.2)) fun a hE=>Zd hE rfl ?_; intro a hE
       obtain ⟨x58,hi60,hs46⟩:=bix hs46
       refine ZD hE rfl rfl Try.underlying22 ty5 (hM.rd h57) hi60.1 fun a hE=>ZM (v:=(vB x58)) hE rfl ty5 rfl (Z4 (hM.rd h57) hi60.2) fun a hE=>ZE (xs:=[.tmp 51]) (l:=([x58] : List UInt8)) (vs:=[vB x58]) hE hM Za ld rfl rfl Try.underlying22 ty5 rfl (by decide) rfl ?_; intro u61 w a hM hE
       obtain ⟨l63,e64,hs46⟩:=bind_some hs46
       obtain ⟨e67,rfl⟩:=Yi e64
       have hM:=hM.pull4
       refine YE hE hM Za ld rfl rfl (hM.sl (pre:=[_]) noB) Try.underlying22 ty5 rfl (by decide) e67 fun u65 w a hM hE=>Zb hE rfl fun a hE=>Zi (YK (Zx (wp_region_lit (Zd hE rfl fun a hE=>Zk hE rfl rfl rfl fun a hE=>Zb hE rfl fun a hE=>Zi (Zj ?_)))))
       have hM:=M.fst (l:=[_,_,_,_]) hM.pull4.pull4.pull4
       exact ⟨_,(ois hs46),u65,hE.sub ⟨rfl,rfl,rfl,rfl,rfl,rfl,rfl,rfl,rfl,rfl,trivial⟩,hM⟩
      ·intro hb49
       have hs46:=Zo hs46 hb49
       refine wp_exit (Zs (Zs (Y6 ?_)))
       obtain rfl:=hx47 _ (ois hs46)
       refine Zj ?_
       exact ⟨u44,hE.sub ⟨rfl,rfl,rfl,rfl,rfl,rfl,rfl,rfl,rfl,trivial⟩,hM⟩
     ·skip
      rintro a w ⟨u41,hE,hM⟩
      refine Zx ?_
      obtain ⟨x70,hi72,hF40⟩:=bix hF40
      obtain ⟨r73,e74,hF40⟩:=bind_some hF40
      refine VL (its:=[raw b18 (cat [[vB x15],[u26]]),osl NoB (s8.2 : List GShare) u9,osl NoB (s25.1 : List UInt8) u26,osl NoB (j38 : List UInt8) u41]) (mk:=([mkO 9 (fun v=>osl NoB (([r73] : List UInt8) : List UInt8) v)] : Mk)) [54,55,56,57,58,59,60,61,62,63] VC rfl rfl (by decide) rfl hE (fun u=>M.qE (M.q0 hM.drew u) emO) (qsP (fun z=>Zv z.E Za ld rfl (YL) (kr0 rfl)) (qsP (v:=u26) ?_ (qsP (fun z=>Zh z.E Za ld rfl (kr0 rfl)) (qsP (fun z=>Zh z.E Za ld rfl (kr0 rfl)) (qsP (fun z=>Zh z.E Za ld rfl (kr0 rfl)) (qsP (fun z=>Zh z.E Za ld rfl (kr0 rfl)) (qsP (v:=(ptr (sb v3_1) (so v3_1 + (s8.1).toNat * 1))) ?_ (qsP (v:=(vB x70)) ?_ (qsP (v:=(vB r73)) ?_ (qsM (pr:=fun v=>True) ?_ qs0)))))))))) ?_
      ·intro a w ux69 D z
       have hE:=z.E
       have hM:=z.M
       exact ZM (v:=u26) hE rfl YS rfl (At.cat (pre:=[[vB x15]]) hM.rawAt0 ck) fun a hE=>⟨Kept.refl _ _,_,rfl,hE⟩
      ·intro a w ux69 D z
       have hE:=z.E
       have hM:=z.M
       exact ZD hE rfl rfl Try.underlying22 ty5 (hM.rd hv3_1) hi72.1 fun a hE=>⟨Kept.refl _ _,_,rfl,hE⟩
      ·intro a w ux69 D z
       have hE:=z.E
       have hM:=z.M
       exact ZM (v:=(vB x70)) hE rfl ty5 rfl (Z4 (hM.rd hv3_1) hi72.2) fun a hE=>⟨Kept.refl _ _,_,rfl,hE⟩
      ·intro a w ux69 D z
       have hE:=z.E
       have hM:=z.M
       refine Zl hE rfl (cbm Try.func126) (TE _ p0 j38 u41 (hM.sl (pre:=[_,_,_]) noB) x70 r73 e74) ?_
       rintro v w a ⟨rfl,hK⟩ hE
       exact ⟨hK,_,rfl,hE⟩
      ·intro a w ux69 D z
       have hE:=z.E
       have hD : D 9 = false:=z.F
       have hM:=z.M
       exact ZE (xs:=[.tmp 62]) (l:=([r73] : List UInt8)) (vs:=[vB r73]) hE hM Za ld rfl rfl Try.underlying22 ty5 rfl (by decide) rfl fun u75 w a hM hE=>⟨_,_,rfl,hE,M.qFill (mk1:=[]) (mk2:=[]) (f:=(fun v=>osl NoB (([r73] : List UInt8) : List UInt8) v)) hM rfl hD,trivial⟩
      ·intro a w ux69 D hE hM hG hall
       have d9:=hall 9 (by decide)
       have hM:=hM.sure (pre:=[_,_,_,_]) d9
       obtain ⟨l77,e78,hF40⟩:=bind_some hF40
       obtain ⟨e81,rfl⟩:=Yi e78
       have hM:=hM.pull2
       refine YE hE hM Za ld rfl rfl (hM.sl (pre:=[_,_,_,_]) noB) Try.underlying22 ty5 rfl (by decide) e81 fun u79 w a hM hE=>ZA hE rfl (YL) ?_; intro a hE
       have hM:=hM.pull1
       refine Y3 (seg:=[u79]) hE hM Za rfl rfl (WD (hM.sl (pre:=[_]) noB)) YS rfl (VZ (pre:=[[vB x15]]) ck rfl) (Rep.cell (hM.sl (pre:=[_]) noB)) (XW (pre:=[[vB x15]]) ck rfl) fun w a hM hE=>Zi (YK (Zx (wp_region_lit (Zd hE rfl fun a hE=>Zk hE rfl rfl rfl fun a hE=>Zb hE rfl fun a hE=>Zi (Zj ?_)))))
       have hM:=M.fst (l:=[_,_,_]) hM.pull1.pull2.pull2
       exact ⟨_,(ois hF40),u79,hE.sub ⟨rfl,rfl,rfl,rfl,rfl,rfl,rfl,rfl,trivial⟩,hM⟩
    ·intro hb32
     have hs28:=Zo hs28 hb32
     refine wp_exit (Zs (Zs (Y6 ?_)))
     obtain rfl:=hx29 _ (ois hs28)
     refine Zj ?_
     exact ⟨u26,hE.sub ⟨rfl,rfl,rfl,rfl,rfl,rfl,rfl,trivial⟩,hM⟩
   ·skip
    rintro a w ⟨u23,hE,hM⟩
    refine Zx (wp_region_lit (Zd hE rfl fun a hE=>Ue hE rfl ZU rfl hM.rawAt0 cq ?_)); intro a hE
    have hM:=hM.pull2
    have hM:=hM.pack1 (it:=own NoB (⟨x15,j20⟩ : GShare) (cat [[vB x15],[u23]])) (Vh noB) (fun f0 q0=>(Tb (X2.sat q0) (by simp)))
    refine U5 (xs:=[.tmp 67]) (seg:=cat [[vB x15],[u23]]) hE hM noB Za ld rfl rfl Try.underlying27 ZU rfl (by decide) ?_; intro u83 w a hM hE
    obtain ⟨l85,e86,hF22⟩:=bind_some hF22
    obtain ⟨e89,rfl⟩:=Yi e86
    have hM:=hM.pull2
    refine UA hE hM noB Za ld rfl rfl Try.underlying27 ZU rfl (by decide) e89 fun u87 w a hM hE=>Zb hE rfl fun a hE=>Zi (YK (Zx (wp_region_lit (Zd hE rfl fun a hE=>Zk hE rfl rfl rfl fun a hE=>Zb hE rfl fun a hE=>Zi (Zj ?_)))))
    have hM:=M.fst (l:=[_]) hM
    exact ⟨_,(ois hF22),u87,hE.sub ⟨rfl,rfl,rfl,rfl,rfl,rfl,trivial⟩,hM⟩
  ·intro hb14
   have hs11:=Zo hs11 hb14
   refine wp_exit (Zs (Zs (Y6 ?_)))
   obtain rfl:=hx12 _ (ois hs11)
   refine Zj ?_
   exact ⟨u9,hE.sub ⟨rfl,trivial⟩,hM⟩
 ·skip
  rintro a w ⟨u6,hE,hM⟩
  refine Zx (Zc (Zd hE rfl fun a hE=>Zb hE rfl fun a hE=>Ze ?_))
  obtain rfl:=Option.some.inj hF5
  exact wp_ret (Y7 hE rfl (Zq hE rfl) ⟨_,rfl,u6,rfl,hM.outF (YG YP),hM.kept⟩)
def W7 (p0 : Int) (p1 : (List UInt8)) (p2 : (List (List UInt8))) (p3 : (List UInt8)) : Option ((List GShare) × Int) :=
 (Xu p0).bind fun r1=>if (!r1) = true then (some ([],1)) else ((if (decide ((p1.length : Int) > 100)) = true then (some true) else ((WY p2 (p1.length : Int)).bind fun r10=>if (!r10) = true then (some true) else (if (decide ((p3.length : Int) < 1)) = true then (some true) else (some (decide ((p3.length : Int) > 12))))) : Option (Bool)).bind fun j5=>if j5 = true then (some ([],2)) else ((Wa p3).bind fun r19=>if r19 = true then (some ([],5)) else ((WF p0 p1 p2 p3).bind fun r23=>some (r23,0))))
theorem K2 (w0 : World) (p0 : Int) (p1 : (List UInt8)) (v1_1 : Value) (hv1_1 : Ro w0 p1 [v1_1]) (p2 : (List (List UInt8))) (v2_1 : Value) (hv2_1 : Ro w0 p2 [v2_1]) (p3 : (List UInt8)) (v3_1 : Value) (hv3_1 : Ro w0 p3 [v3_1]) (r : (List GShare) × Int) (hF : W7 p0 p1 p2 p3 = some r) :
  Calls Try.prog 9 [vI p0,v1_1,v2_1,v3_1].toArray w0 (fun en w'=>∃ v,en = .returned v ∧ (∃ (y1 : Value),v = (Value.tuple [y1,vI r.2].toArray) ∧ Fr w0 w' [osl NoB (r.1 : List GShare) y1] ∧ Kept (Old w0) w0 w')):=by
 refine ce Try.func9 ?_
 intro a hE
 have hM:=M.start w0
 unfold W7 at hF
 refine Zc (Zb hE rfl fun a hE=>Zb hE rfl fun a hE=>Ze (wp_seq (wp_block (Zc (Zd hE rfl ?_))))); intro a hE
 obtain ⟨r1,e2,hF⟩:=bind_some hF
 refine Zl hE rfl cb60 (Un _ p0 r1 e2) ?_
 rintro v w a ⟨rfl,hK⟩ hE
 have hM:=hM.keep hK
 refine VW hE rfl fun a hE=>Zb hE rfl fun a hE=>Ze ?_
 refine Zm hE rfl ?_ ?_
 ·intro hb3
  have hF:=Zp hF hb3
  refine Zc (Zb hE rfl fun a hE=>Zb hE rfl fun a hE=>Ze ?_)
  have hM:=M.nilS (α:=GShare) NoB noB hM
  obtain rfl:=Option.some.inj hF
  exact wp_ret (Yh (Zr (Yr hE rfl (Zq hE rfl) (Zq hE rfl) ⟨_,rfl,(Value.slice none 0 0),rfl,hM.outF (YG YP),hM.kept⟩)))
 ·intro hb3
  have hF:=Zo hF hb3
  obtain ⟨j5,hl6,hF7⟩:=bind_some hF
  refine ZB (fun a w=>Env 43 a [(0,vI p0),(1,v1_1),(2,v2_1),(3,v3_1),(14,vT j5)] ∧ M (Old w0) w0 w []) ?_ ?_
  ·skip
   refine wp_region_lit (Zd hE rfl fun a hE=>ZQ hE rfl Try.underlying22 (hM.rd hv1_1) fun a hE=>Zk hE rfl rfl rfl fun a hE=>Zd hE rfl ?_); intro a hE
   refine ZZ (decide ((p1.length : Int) > 100)) (fun hb8=>?_) (fun hb8=>?_)
   ·have hl6:=Zp hl6 hb8
    refine Zg hE rfl (lkb rfl hb8) rfl (by decide) fun a hE=>Zg hE rfl (lkb rfl hb8) rfl (by decide) fun a hE=>Zg hE rfl (lkb rfl hb8) rfl (by decide) fun a hE=>Zg hE rfl (lkb rfl hb8) rfl (by decide) fun a hE=>Zg hE rfl (lkb rfl hb8) rfl (by decide) fun a hE=>ZC hE (lkb rfl hb8) rfl fun a hE=>Zd hE rfl fun a hE=>Zg hE rfl rfl rfl (by decide) fun a hE=>Zg hE rfl rfl rfl (by decide) fun a hE=>Zg hE rfl rfl rfl (by decide) fun a hE=>ZC hE rfl rfl fun a hE=>Zd hE rfl ?_; intro a hE
    refine Zg hE rfl rfl rfl (by decide) fun a hE=>Zg hE rfl rfl rfl (by decide) fun a hE=>Zg hE rfl rfl rfl (by decide) fun a hE=>ZC hE rfl rfl fun a hE=>Zb hE rfl fun a hE=>Zi ?_
    obtain rfl:=Option.some.inj hl6
    refine Zj ?_
    exact ⟨hE.sub ⟨rfl,rfl,rfl,rfl,rfl,trivial⟩,hM⟩
   ·have hl6:=Zo hl6 hb8
    refine Zh hE (Zf hE rfl (lkb rfl hb8)) (by decide) rfl fun a hE=>Zh hE (Zf hE rfl (lkb rfl hb8)) (by decide) rfl fun a hE=>VU hE (Zf hE rfl (lkb rfl hb8)) (by decide) rfl Try.underlying22 (hM.rd hv1_1) ?_; intro a hE
    obtain ⟨r10,e11,hl6⟩:=bind_some hl6
    refine Z1 hE (Zf hE rfl (lkb rfl hb8)) (by decide) rfl (cbm Try.func61) (K0 _ p2 v2_1 (hM.rdo hv2_1) (p1.length : Int) r10 e11) ?_
    rintro v w a ⟨rfl,hK⟩ hE
    have hM:=hM.keep hK
    refine V7 hE (Zf hE rfl (lkb rfl hb8)) (by decide) rfl fun a hE=>ZL hE (lkb rfl hb8) rfl fun a hE=>Zd hE rfl ?_; intro a hE
    refine ZZ (!r10) (fun hb12=>?_) (fun hb12=>?_)
    ·have hl6:=Zp hl6 hb12
     refine Zg hE rfl (lkb rfl hb12) rfl (by decide) fun a hE=>Zg hE rfl (lkb rfl hb12) rfl (by decide) fun a hE=>Zg hE rfl (lkb rfl hb12) rfl (by decide) fun a hE=>ZC hE (lkb rfl hb12) rfl fun a hE=>Zd hE rfl fun a hE=>Zg hE rfl rfl rfl (by decide) fun a hE=>Zg hE rfl rfl rfl (by decide) fun a hE=>Zg hE rfl rfl rfl (by decide) fun a hE=>ZC hE rfl rfl fun a hE=>Zb hE rfl fun a hE=>Zi ?_
     obtain rfl:=Option.some.inj hl6
     refine Zj ?_
     exact ⟨hE.sub ⟨rfl,rfl,rfl,rfl,rfl,trivial⟩,hM⟩
    ·have hl6:=Zo hl6 hb12
     refine Zh hE (Zf hE rfl (lkb rfl hb12)) (by decide) rfl fun a hE=>VU hE (Zf hE rfl (lkb rfl hb12)) (by decide) rfl Try.underlying22 (hM.rd hv3_1) fun a hE=>Z2 hE (Zf hE rfl (lkb rfl hb12)) (by decide) rfl rfl rfl fun a hE=>ZL hE (lkb rfl hb12) rfl fun a hE=>Zd hE rfl ?_; intro a hE
     refine ZZ (decide ((p3.length : Int) < 1)) (fun hb14=>?_) (fun hb14=>?_)
     ·have hl6:=Zp hl6 hb14
      refine Zg hE rfl (lkb rfl hb14) rfl (by decide) fun a hE=>Zg hE rfl (lkb rfl hb14) rfl (by decide) fun a hE=>Zg hE rfl (lkb rfl hb14) rfl (by decide) fun a hE=>ZC hE (lkb rfl hb14) rfl fun a hE=>Zb hE rfl fun a hE=>Zi ?_
      obtain rfl:=Option.some.inj hl6
      refine Zj ?_
      exact ⟨hE.sub ⟨rfl,rfl,rfl,rfl,rfl,trivial⟩,hM⟩
     ·have hl6:=Zo hl6 hb14
      refine Zh hE (Zf hE rfl (lkb rfl hb14)) (by decide) rfl fun a hE=>VU hE (Zf hE rfl (lkb rfl hb14)) (by decide) rfl Try.underlying22 (hM.rd hv3_1) fun a hE=>Z2 hE (Zf hE rfl (lkb rfl hb14)) (by decide) rfl rfl rfl fun a hE=>ZL hE (lkb rfl hb14) rfl fun a hE=>Zb hE rfl fun a hE=>Zi ?_
      obtain rfl:=Option.some.inj hl6
      refine Zj ?_
      exact ⟨hE.sub ⟨rfl,rfl,rfl,rfl,rfl,trivial⟩,hM⟩
  ·skip
   rintro a w ⟨hE,hM⟩
   refine Zm hE rfl ?_ ?_
   ·intro hb17
    have hF7:=Zp hF7 hb17
    refine Zc (Zb hE rfl fun a hE=>Zb hE rfl fun a hE=>Ze ?_)
    have hM:=M.nilS (α:=GShare) NoB noB hM
    obtain rfl:=Option.some.inj hF7
    exact wp_ret (Yh (Zr (Yr hE rfl (Zq hE rfl) (Zq hE rfl) ⟨_,rfl,(Value.slice none 0 0),rfl,hM.outF (YG YP),hM.kept⟩)))
   ·intro hb17
    have hF7:=Zo hF7 hb17
    refine Zc (Zd hE rfl ?_); intro a hE
    obtain ⟨r19,e20,hF7⟩:=bind_some hF7
    refine Zl hE rfl (cbm Try.func62) (TA _ p3 v3_1 (hM.rdo hv3_1) r19 e20) ?_
    rintro v w a ⟨rfl,hK⟩ hE
    have hM:=hM.keep hK
    refine Zb hE rfl fun a hE=>Ze ?_
    refine Zm hE rfl ?_ ?_
    ·intro hb21
     have hF7:=Zp hF7 hb21
     refine Zc (Zb hE rfl fun a hE=>Zb hE rfl fun a hE=>Ze ?_)
     have hM:=M.nilS (α:=GShare) NoB noB hM
     obtain rfl:=Option.some.inj hF7
     exact wp_ret (Yh (Zr (Yr hE rfl (Zq hE rfl) (Zq hE rfl) ⟨_,rfl,(Value.slice none 0 0),rfl,hM.outF (YG YP),hM.kept⟩)))
    ·intro hb21
     have hF7:=Zo hF7 hb21
     refine wp_skip (YK (Zx (Zc (Zd hE rfl fun a hE=>Zd hE rfl fun a hE=>Zd hE rfl fun a hE=>Zd hE rfl ?_)))); intro a hE
     obtain ⟨r23,e24,hF7⟩:=bind_some hF7
     refine Zl hE rfl (cbm Try.func63) (TT _ p0 p1 v1_1 (hM.rdo hv1_1) p2 v2_1 (hM.rdo hv2_1) p3 v3_1 (hM.rdo hv3_1) r23 e24) ?_
     rintro u25 w a ⟨_,rfl,hFr,hK⟩ hE
     have hM:=hM.add hK hFr
     refine Zb hE rfl fun a hE=>Zb hE rfl fun a hE=>Ze ?_
     obtain rfl:=Option.some.inj hF7
     exact wp_ret (Yr hE rfl (Zq hE rfl) (Zq hE rfl) ⟨_,rfl,u25,rfl,hM.outF (YG YP),hM.kept⟩)
def Vu (p0 : (List UInt8)) (p1 : (List UInt8)) (s6 : Int) : Option (Fl Int (Fl Unit Bool)) :=
 if (decide (s6 < (p0.length : Int))) = true then (((idx p0 s6).bind fun x15=>(idx p1 s6).bind fun x18=>some (x15 != x18) : Option (Bool)).bind fun j11=>if j11 = true then (some (Fl.ex (Fl.ex false))) else (some (Fl.nx (wr (s6 + 1))))) else (some (Fl.ex (Fl.nx ())))
def Xj (p0 : (List UInt8)) (p1 : (List UInt8)) : Option (Bool) :=
 if ((p0.length : Int) != (p1.length : Int)) = true then (some false) else ((ZJ (Vu p0 p1) 0).bind fun j2=>j2.el (fun s5=>some true) (fun r=>some r))
theorem VJ (w0 : World) (p0 : (List UInt8)) (v0_1 : Value) (hv0_1 : Ro w0 p0 [v0_1]) (p1 : (List UInt8)) (v1_1 : Value) (hv1_1 : Ro w0 p1 [v1_1]) (r : Bool) (hF : Xj p0 p1 = some r) :
  Calls Try.prog 12 [v0_1,v1_1].toArray w0 (Rt w0 (vT r)):=by
 refine ce Try.func12 ?_
 intro a hE
 have hM:=M.start w0
 unfold Xj at hF
 refine Zc (Zb hE rfl fun a hE=>Ze (wp_seq (Zc (Zd hE rfl fun a hE=>ZQ hE rfl Try.underlying22 (hM.rd hv0_1) fun a hE=>Zd hE rfl fun a hE=>ZQ hE rfl Try.underlying22 (hM.rd hv1_1) fun a hE=>Zk hE rfl rfl rfl fun a hE=>Ze ?_))))
 refine Zm hE rfl ?_ ?_
 ·intro hb1
  have hF:=Zp hF hb1
  refine Zc (Zb hE rfl fun a hE=>Ze ?_)
  obtain rfl:=Option.some.inj hF
  exact wp_ret (Zr (kr1 hE rfl rfl hM.kept))
 ·intro hb1
  have hF:=Zo hF hb1
  refine wp_skip (Zx (wp_seq (Zc (Zb hE rfl fun a hE=>Ze ?_))))
  obtain ⟨j2,hl3,hF4⟩:=bind_some hF
  refine Z6 (fun a w=>∃ s5 : Unit,j2 = Fl.nx s5 ∧ Env 26 a [] ∧ M (Old w0) w0 w []) ?_ ?_
  ·skip
   refine wp_block ?_
   refine ZO (fun (s6 : Int) a w=>Env 26 a [(0,v0_1),(1,v1_1),(5,vI s6)] ∧ M (Old w0) w0 w []) hl3 ⟨hE.sub ⟨rfl,rfl,rfl,trivial⟩,hM⟩ ?_
   rintro s6 a w ⟨hE,hM⟩ o9 hs7 hx8
   unfold Vu at hs7
   refine wp_seq (Zc (Zd hE rfl fun a hE=>Zd hE rfl fun a hE=>ZQ hE rfl Try.underlying22 (hM.rd hv0_1) fun a hE=>Zk hE rfl rfl rfl fun a hE=>Ze ?_))
   refine Zm hE rfl ?_ ?_
   ·intro hb10
    have hs7:=Zp hs7 hb10
    refine wp_skip (Zx (wp_seq (wp_block ?_)))
    obtain ⟨j11,hl12,hF13⟩:=bind_some hs7
    refine ZB (fun a w=>Env 26 a [(0,v0_1),(1,v1_1),(5,vI s6),(25,vT j11)] ∧ M (Old w0) w0 w []) ?_ ?_
    ·skip
     obtain ⟨x15,hi17,hl12⟩:=bix hl12
     obtain ⟨x18,hi20,hl12⟩:=bix hl12
     refine Y4 [17,18,19,20,21,22,23,24,25] VC rfl rfl (by decide) rfl hE hM (qsP (fun z=>Zh z.E Za ld rfl (kr0 rfl)) (qsP (fun z=>Zh z.E Za ld rfl (kr0 rfl)) (qsP (fun z=>ZG z.E Za ld rfl rfl Try.underlying22 ty5 (z.M.rd hv0_1) hi17.1 (kr0 rfl)) (qsP (fun z=>ZK (v:=(vB x15)) z.E Za ld rfl ty5 rfl (Z4 (z.M.rd hv0_1) hi17.2) (kr0 rfl)) (qsP (fun z=>Zh z.E Za ld rfl (kr0 rfl)) (qsP (fun z=>Zh z.E Za ld rfl (kr0 rfl)) (qsP (fun z=>ZG z.E Za ld rfl rfl Try.underlying22 ty5 (z.M.rd hv1_1) hi20.1 (kr0 rfl)) (qsP (fun z=>ZK (v:=(vB x18)) z.E Za ld rfl ty5 rfl (Z4 (z.M.rd hv1_1) hi20.2) (kr0 rfl)) (qsP (fun z=>Z2 z.E Za ld rfl rfl (Tk x15 x18) (kr0 rfl)) qs0))))))))) ?_
     ·intro a w u hE hM
      refine Zi ?_
      obtain rfl:=Option.some.inj hl12
      refine Zj ?_
      exact ⟨hE.sub ⟨rfl,rfl,rfl,rfl,trivial⟩,hM⟩
    ·skip
     rintro a w ⟨hE,hM⟩
     refine Zm hE rfl ?_ ?_
     ·intro hb22
      have hF13:=Zp hF13 hb22
      refine Zc (Zb hE rfl fun a hE=>Ze ?_)
      obtain rfl:=hx8 _ (ois hF13)
      obtain rfl:=Option.some.inj hF4
      exact wp_ret (Yh (Zr (Zr (Yh (Zr (Zr (kr1 hE rfl rfl hM.kept)))))))
     ·intro hb22
      have hF13:=Zo hF13 hb22
      refine wp_skip (YK (Zx (wp_region_lit (Zd hE rfl fun a hE=>Zk hE rfl rfl rfl fun a hE=>Zb hE rfl fun a hE=>Zi (Zj ?_)))))
      exact ⟨_,(ois hF13),hE.sub ⟨rfl,rfl,rfl,trivial⟩,hM⟩
   ·intro hb10
    have hs7:=Zo hs7 hb10
    refine wp_exit (Zs (Zs (Y6 ?_)))
    obtain rfl:=hx8 _ (ois hs7)
    refine Zj ?_
    exact ⟨(),rfl,hE.sub trivial,hM⟩
  ·skip
   rintro a w ⟨s5,ht,hE,hM⟩
   subst ht
   have hF4:=VV hF4
   refine Zx (Zc (Zb hE rfl fun a hE=>Ze ?_))
   obtain rfl:=Option.some.inj hF4
   exact wp_ret (kr1 hE rfl rfl hM.kept)
def W2 (p0 : (List GShare)) (p1 : (List GShare)) (s6 : Int) : Option (Fl Int (Fl Unit Bool)) :=
 if (decide (s6 < (p0.length : Int))) = true then (((idx p0 s6).bind fun x15=>(idx p1 s6).bind fun x23=>if (x15.Place != x23.Place) = true then (some true) else ((idx p0 s6).bind fun x33=>(idx p1 s6).bind fun x41=>(Xj x33.Data x41.Data).bind fun r49=>some (!r49)) : Option (Bool)).bind fun j11=>if j11 = true then (some (Fl.ex (Fl.ex false))) else (some (Fl.nx (wr (s6 + 1))))) else (some (Fl.ex (Fl.nx ())))
def Vs (p0 : (List GShare)) (p1 : (List GShare)) : Option (Bool) :=
 if ((p0.length : Int) != (p1.length : Int)) = true then (some false) else ((ZJ (W2 p0 p1) 0).bind fun j2=>j2.el (fun s5=>some true) (fun r=>some r))
theorem Js (w0 : World) (p0 : (List GShare)) (v0_1 : Value) (hv0_1 : Ro w0 p0 [v0_1]) (p1 : (List GShare)) (v1_1 : Value) (hv1_1 : Ro w0 p1 [v1_1]) (r : Bool) (hF : Vs p0 p1 = some r) :
  Calls Try.prog 10 [v0_1,v1_1].toArray w0 (Rt w0 (vT r)):=by
 refine ce Try.func10 ?_
 intro a hE
 have hM:=M.start w0
 unfold Vs at hF
 refine Zc (Zb hE rfl fun a hE=>Ze (wp_seq (Zc (Zd hE rfl fun a hE=>ZQ hE rfl Try.underlying27 (hM.rd hv0_1) fun a hE=>Zd hE rfl fun a hE=>ZQ hE rfl Try.underlying27 (hM.rd hv1_1) fun a hE=>Zk hE rfl rfl rfl fun a hE=>Ze ?_))))
 refine Zm hE rfl ?_ ?_
 ·intro hb1
  have hF:=Zp hF hb1
  refine Zc (Zb hE rfl fun a hE=>Ze ?_)
  obtain rfl:=Option.some.inj hF
  exact wp_ret (Zr (kr1 hE rfl rfl hM.kept))
 ·intro hb1
  have hF:=Zo hF hb1
  refine wp_skip (Zx (wp_seq (Zc (Zb hE rfl fun a hE=>Ze ?_))))
  obtain ⟨j2,hl3,hF4⟩:=bind_some hF
  refine Z6 (fun a w=>∃ s5 : Unit,j2 = Fl.nx s5 ∧ Env 42 a [] ∧ M (Old w0) w0 w []) ?_ ?_
  ·skip
   refine wp_block ?_
   refine ZO (fun (s6 : Int) a w=>Env 42 a [(0,v0_1),(1,v1_1),(5,vI s6)] ∧ M (Old w0) w0 w []) hl3 ⟨hE.sub ⟨rfl,rfl,rfl,trivial⟩,hM⟩ ?_
   rintro s6 a w ⟨hE,hM⟩ o9 hs7 hx8
   unfold W2 at hs7
   refine wp_seq (Zc (Zd hE rfl fun a hE=>Zd hE rfl fun a hE=>ZQ hE rfl Try.underlying27 (hM.rd hv0_1) fun a hE=>Zk hE rfl rfl rfl fun a hE=>Ze ?_))
   refine Zm hE rfl ?_ ?_
   ·intro hb10
    have hs7:=Zp hs7 hb10
    refine wp_skip (Zx (wp_seq (wp_block ?_)))
    obtain ⟨j11,hl12,hF13⟩:=bind_some hs7
    refine ZB (fun a w=>Env 42 a [(0,v0_1),(1,v1_1),(5,vI s6),(41,vT j11)] ∧ M (Old w0) w0 w []) ?_ ?_
    ·skip
     obtain ⟨x15,hi17,hl12⟩:=bix hl12
     obtain ⟨cs18,hs19,hA20⟩:=Yc hv0_1 hi17.2 -- ^
     obtain ⟨u21,rfl,h22⟩:=ZW hs19 -- ^
     obtain ⟨x23,hi25,hl12⟩:=bix hl12
     obtain ⟨cs26,hs27,hA28⟩:=Yc hv1_1 hi25.2 -- ^
     obtain ⟨u29,rfl,h30⟩:=ZW hs27 -- ^
     refine ZZ (x15.Place != x23.Place) (fun hb31=>?_) (fun hb31=>?_)
     ·have hl12:=Zp hl12 hb31
      refine Y4 [17,18,19,20,21,22,23,24,25,26,27,28,29,30,31,32,33,34,35,36,37,38,39,40,41] VC rfl rfl (by decide) rfl hE hM (qsP (fun z=>Zh z.E Za ld rfl (kr0 rfl)) (qsP (fun z=>Zh z.E Za ld rfl (kr0 rfl)) (qsP (fun z=>ZG z.E Za ld rfl rfl Try.underlying27 ZU (z.M.rd hv0_1) hi17.1 (kr0 rfl)) (qsP (fun z=>Zv z.E Za ld rfl (Wn) (kr0 rfl)) (qsP (fun z=>ZK (v:=(vB x15.Place)) z.E Za ld rfl ty5 rfl (At.cat (pre:=[]) (z.M.atk hA20 (YI hv0_1 hi17.2)) cl0) (kr0 rfl)) (qsP (fun z=>Zh z.E Za ld rfl (kr0 rfl)) (qsP (fun z=>Zh z.E Za ld rfl (kr0 rfl)) (qsP (fun z=>ZG z.E Za ld rfl rfl Try.underlying27 ZU (z.M.rd hv1_1) hi25.1 (kr0 rfl)) (qsP (fun z=>Zv z.E Za ld rfl (Wn) (kr0 rfl)) (qsP (fun z=>ZK (v:=(vB x23.Place)) z.E Za ld rfl ty5 rfl (At.cat (pre:=[]) (z.M.atk hA28 (YI hv1_1 hi25.2)) cl0) (kr0 rfl)) (qsP (fun z=>Z2 z.E Za ld rfl rfl (Tk x15.Place x23.Place) (kr0 rfl)) (qsP (fun z=>Zh z.E Za ld rfl (kr0 rfl)) (qsP (fun z=>Zg z.E rfl (lkb rfl hb31) rfl (by decide) (kr0 rfl)) (qsP (fun z=>Zg z.E rfl (lkb rfl hb31) rfl (by decide) (kr0 rfl)) (qsP (fun z=>Zg z.E rfl (lkb rfl hb31) rfl (by decide) (kr0 rfl)) (qsP (fun z=>Zg z.E rfl (lkb rfl hb31) rfl (by decide) (kr0 rfl)) (qsP (fun z=>Zg z.E rfl (lkb rfl hb31) rfl (by decide) (kr0 rfl)) (qsP (fun z=>Zg z.E rfl (lkb rfl hb31) rfl (by decide) (kr0 rfl)) (qsP (fun z=>Zg z.E rfl (lkb rfl hb31) rfl (by decide) (kr0 rfl)) (qsP (fun z=>Zg z.E rfl (lkb rfl hb31) rfl (by decide) (kr0 rfl)) (qsP (fun z=>Zg z.E rfl (lkb rfl hb31) rfl (by decide) (kr0 rfl)) (qsP (fun z=>Zg z.E rfl (lkb rfl hb31) rfl (by decide) (kr0 rfl)) (qsP (fun z=>Zg z.E rfl (lkb rfl hb31) rfl (by decide) (kr0 rfl)) (qsP (fun z=>Zg z.E rfl (lkb rfl hb31) rfl (by decide) (kr0 rfl)) (qsP (fun z=>Qb z.E Za ld (lkb rfl hb31) rfl (kr0 rfl)) qs0))))))))))))))))))))))))) ?_
      ·intro a w u hE hM
       refine Zi ?_
       obtain rfl:=Option.some.inj hl12
       refine Zj ?_
       exact ⟨hE.sub ⟨rfl,rfl,rfl,rfl,trivial⟩,hM⟩
     ·have hl12:=Zo hl12 hb31
      obtain ⟨x33,hi35,hl12⟩:=bix hl12
      obtain ⟨cs36,hs37,hA38⟩:=Yc hv0_1 hi35.2 -- ^
      obtain ⟨u39,rfl,h40⟩:=ZW hs37 -- ^
      obtain ⟨x41,hi43,hl12⟩:=bix hl12
      obtain ⟨cs44,hs45,hA46⟩:=Yc hv1_1 hi43.2 -- ^
      obtain ⟨u47,rfl,h48⟩:=ZW hs45 -- ^
      obtain ⟨r49,e50,hl12⟩:=bind_some hl12
      refine Y4 [17,18,19,20,21,22,23,24,25,26,27,28,29,30,31,32,33,34,35,36,37,38,39,40,41] VC rfl rfl (by decide) rfl hE hM (qsP (fun z=>Zh z.E Za ld rfl (kr0 rfl)) (qsP (fun z=>Zh z.E Za ld rfl (kr0 rfl)) (qsP (fun z=>ZG z.E Za ld rfl rfl Try.underlying27 ZU (z.M.rd hv0_1) hi17.1 (kr0 rfl)) (qsP (fun z=>Zv z.E Za ld rfl (Wn) (kr0 rfl)) (qsP (fun z=>ZK (v:=(vB x15.Place)) z.E Za ld rfl ty5 rfl (At.cat (pre:=[]) (z.M.atk hA20 (YI hv0_1 hi17.2)) cl0) (kr0 rfl)) (qsP (fun z=>Zh z.E Za ld rfl (kr0 rfl)) (qsP (fun z=>Zh z.E Za ld rfl (kr0 rfl)) (qsP (fun z=>ZG z.E Za ld rfl rfl Try.underlying27 ZU (z.M.rd hv1_1) hi25.1 (kr0 rfl)) (qsP (fun z=>Zv z.E Za ld rfl (Wn) (kr0 rfl)) (qsP (fun z=>ZK (v:=(vB x23.Place)) z.E Za ld rfl ty5 rfl (At.cat (pre:=[]) (z.M.atk hA28 (YI hv1_1 hi25.2)) cl0) (kr0 rfl)) (qsP (fun z=>Z2 z.E Za ld rfl rfl (Tk x15.Place x23.Place) (kr0 rfl)) (qsP (fun z=>Zh z.E Za ld rfl (kr0 rfl)) (qsP (fun z=>Zh z.E (Zf z.E rfl (lkb rfl hb31)) (by decide) rfl (kr0 rfl)) (qsP (fun z=>Zh z.E (Zf z.E rfl (lkb rfl hb31)) (by decide) rfl (kr0 rfl)) (qsP (fun z=>ZG z.E (Zf z.E rfl (lkb rfl hb31)) (by decide) rfl rfl Try.underlying27 ZU (z.M.rd hv0_1) hi35.1 (kr0 rfl)) (qsP (fun z=>Zv z.E (Zf z.E rfl (lkb rfl hb31)) (by decide) rfl (YL) (kr0 rfl)) (qsP (fun z=>ZK (v:=u39) z.E (Zf z.E rfl (lkb rfl hb31)) (by decide) rfl YS rfl (At.cat (pre:=[[vB x33.Place]]) (z.M.atk hA38 (YI hv0_1 hi35.2)) ck) (kr0 rfl)) (qsP (fun z=>Zh z.E (Zf z.E rfl (lkb rfl hb31)) (by decide) rfl (kr0 rfl)) (qsP (fun z=>Zh z.E (Zf z.E rfl (lkb rfl hb31)) (by decide) rfl (kr0 rfl)) (qsP (fun z=>ZG z.E (Zf z.E rfl (lkb rfl hb31)) (by decide) rfl rfl Try.underlying27 ZU (z.M.rd hv1_1) hi43.1 (kr0 rfl)) (qsP (fun z=>Zv z.E (Zf z.E rfl (lkb rfl hb31)) (by decide) rfl (YL) (kr0 rfl)) (qsP (fun z=>ZK (v:=u47) z.E (Zf z.E rfl (lkb rfl hb31)) (by decide) rfl YS rfl (At.cat (pre:=[[vB x41.Place]]) (z.M.atk hA46 (YI hv1_1 hi43.2)) ck) (kr0 rfl)) (qsP (fun z=>Z1 z.E (Zf z.E rfl (lkb rfl hb31)) (by decide) rfl cb12 (VJ _ x33.Data u39 (z.M.rdo h40) x41.Data u47 (z.M.rdo h48) r49 e50) (kc rfl)) (qsP (fun z=>V7 z.E (Zf z.E rfl (lkb rfl hb31)) (by decide) rfl (kr0 rfl)) (qsP (fun z=>UR z.E Za ld (lkb rfl hb31) rfl (kr0 rfl)) qs0))))))))))))))))))))))))) ?_
      ·intro a w u hE hM
       refine Zi ?_
       obtain rfl:=Option.some.inj hl12
       refine Zj ?_
       exact ⟨hE.sub ⟨rfl,rfl,rfl,rfl,trivial⟩,hM⟩
    ·skip
     rintro a w ⟨hE,hM⟩
     refine Zm hE rfl ?_ ?_
     ·intro hb52
      have hF13:=Zp hF13 hb52
      refine Zc (Zb hE rfl fun a hE=>Ze ?_)
      obtain rfl:=hx8 _ (ois hF13)
      obtain rfl:=Option.some.inj hF4
      exact wp_ret (Yh (Zr (Zr (Yh (Zr (Zr (kr1 hE rfl rfl hM.kept)))))))
     ·intro hb52
      have hF13:=Zo hF13 hb52
      refine wp_skip (YK (Zx (wp_region_lit (Zd hE rfl fun a hE=>Zk hE rfl rfl rfl fun a hE=>Zb hE rfl fun a hE=>Zi (Zj ?_)))))
      exact ⟨_,(ois hF13),hE.sub ⟨rfl,rfl,rfl,trivial⟩,hM⟩
   ·intro hb10
    have hs7:=Zo hs7 hb10
    refine wp_exit (Zs (Zs (Y6 ?_)))
    obtain rfl:=hx8 _ (ois hs7)
    refine Zj ?_
    exact ⟨(),rfl,hE.sub trivial,hM⟩
  ·skip
   rintro a w ⟨s5,ht,hE,hM⟩
   subst ht
   have hF4:=VV hF4
   refine Zx (Zc (Zb hE rfl fun a hE=>Ze ?_))
   obtain rfl:=Option.some.inj hF4
   exact wp_ret (kr1 hE rfl rfl hM.kept)
def Yf (p0 : (List GShare)) (p1 : GShare → Option (Bool)) (s5 : Int) : Option (Fl Int (Fl Unit Int)) :=
 if (decide (s5 < (p0.length : Int))) = true then ((idx p0 s5).bind fun x10=>((p1 x10)).bind fun r18=>if r18 = true then (some (Fl.ex (Fl.ex s5))) else (some (Fl.nx (wr (s5 + 1))))) else (some (Fl.ex (Fl.nx ())))
def ZY (p0 : (List GShare)) (p1 : GShare → Option (Bool)) : Option (Int) :=
 (ZJ (Yf p0 p1) 0).bind fun j1=>j1.el (fun s4=>some (-1)) (fun r=>some r)
theorem Vg (w0 : World) (p0 : (List GShare)) (v0_1 : Value) (hv0_1 : Ro w0 p0 [v0_1]) (p1 : GShare → Option (Bool)) (k1 : Nat) (q1 : List Value) (hcb1 : Callable Try.prog k1) (hg1 : ∀ (w2 : World),Kept (Old w0) w0 w2 → ∀ (z0 : GShare) (zu1 : Value) (_ : Ro w2 z0.Data [zu1]) (zr : Bool),p1 z0 = some zr → Calls Try.prog k1 ([(Value.agg (cat [[vB z0.Place],[zu1]]).toArray)] ++ q1).toArray w2 (fun en w3=>∃ v,en = .returned v ∧ (v = (vT zr) ∧ Kept (Old w2) w2 w3))) (r : Int) (hF : ZY p0 p1 = some r) :
  Calls Try.prog 129 [v0_1,(Value.func (.func k1) #[] q1.toArray)].toArray w0 (Rt w0 (vI r)):=by
 refine ce Try.func129 ?_
 intro a hE
 have hM:=M.start w0
 unfold ZY at hF
 refine Zc (Zb hE rfl fun a hE=>Ze (wp_seq (Zc (Zd hE rfl fun a hE=>ZQ hE rfl Try.underlying27 (hM.rd hv0_1) fun a hE=>Zd hE rfl fun a hE=>Ze ?_))))
 obtain ⟨j1,hl2,hF3⟩:=bind_some hF
 refine Z6 (fun a w=>∃ s4 : Unit,j1 = Fl.nx s4 ∧ Env 19 a [] ∧ M (Old w0) w0 w []) ?_ ?_
 ·skip
  refine wp_block ?_
  refine ZO (fun (s5 : Int) a w=>Env 19 a [(0,v0_1),(1,(Value.func (.func k1) #[] q1.toArray)),(7,(vI (p0.length : Int))),(8,vI s5)] ∧ M (Old w0) w0 w []) hl2 ⟨hE.sub ⟨rfl,rfl,rfl,rfl,trivial⟩,hM⟩ ?_
  rintro s5 a w ⟨hE,hM⟩ o8 hs6 hx7
  unfold Yf at hs6
  refine Zc (Zk hE rfl rfl rfl fun a hE=>Ze (wp_seq ?_))
  refine Zm hE rfl ?_ ?_
  ·intro hb9
   have hs6:=Zp hs6 hb9
   refine wp_skip (Zx (wp_seq (wp_block (Zc (Zd hE rfl fun a hE=>Zb hE rfl fun a hE=>Ze (Zc (Zd hE rfl fun a hE=>Zd hE rfl fun a hE=>Zd hE rfl ?_))))))); intro a hE
   obtain ⟨x10,hi12,hs6⟩:=bix hs6
   refine ZD hE rfl rfl Try.underlying27 ZU (hM.rd hv0_1) hi12.1 ?_; intro a hE
   obtain ⟨cs13,hs14,hA15⟩:=Yc hv0_1 hi12.2 -- ^
   obtain ⟨u16,rfl,h17⟩:=ZW hs14 -- ^
   refine Ue hE rfl ZU rfl (hM.atk hA15 (YI hv0_1 hi12.2)) cq ?_; intro a hE
   obtain ⟨r18,e19,hs6⟩:=bind_some hs6
   refine Bh (vs:=[(Value.agg (cat [[vB x10.Place],[u16]]).toArray)]) hE Za ld rfl rfl hcb1 (hg1 _ hM.kept x10 u16 (hM.rdo h17) r18 e19) ?_
   rintro v w a ⟨rfl,hK⟩ hE
   have hM:=hM.keep hK
   refine Ze ?_
   refine Zm hE rfl ?_ ?_
   ·intro hb20
    have hs6:=Zp hs6 hb20
    refine Zc (Zd hE rfl fun a hE=>Zb hE rfl fun a hE=>Ze ?_)
    obtain rfl:=hx7 _ (ois hs6)
    obtain rfl:=Option.some.inj hF3
    exact wp_ret (Yh (Zr (Zr (Yh (Zr (Zr (kr1 hE rfl rfl hM.kept)))))))
   ·intro hb20
    have hs6:=Zo hs6 hb20
    refine wp_skip (YK (Zx (wp_region_lit (Zk hE rfl rfl rfl fun a hE=>Zd hE rfl fun a hE=>Zi (Zj ?_)))))
    exact ⟨_,(ois hs6),hE.sub ⟨rfl,rfl,rfl,rfl,trivial⟩,hM⟩
  ·intro hb9
   have hs6:=Zo hs6 hb9
   refine wp_exit (Zs (Zs (Y6 ?_)))
   obtain rfl:=hx7 _ (ois hs6)
   refine Zj ?_
   exact ⟨(),rfl,hE.sub trivial,hM⟩
 ·skip
  rintro a w ⟨s4,ht,hE,hM⟩
  subst ht
  have hF3:=VV hF3
  refine Zx (Zc (Zb hE rfl fun a hE=>Ze ?_))
  obtain rfl:=Option.some.inj hF3
  exact wp_ret (kr1 hE rfl rfl hM.kept)
def Zy (p0 : (List GShare)) (p1 : GShare → Option (Bool)) : Option (Bool) :=
 (ZY p0 p1).bind fun r1=>some (decide (r1 ≥ 0))
theorem Ya (w0 : World) (p0 : (List GShare)) (v0_1 : Value) (hv0_1 : Ro w0 p0 [v0_1]) (p1 : GShare → Option (Bool)) (k1 : Nat) (q1 : List Value) (hcb1 : Callable Try.prog k1) (hg1 : ∀ (w2 : World),Kept (Old w0) w0 w2 → ∀ (z0 : GShare) (zu1 : Value) (_ : Ro w2 z0.Data [zu1]) (zr : Bool),p1 z0 = some zr → Calls Try.prog k1 ([(Value.agg (cat [[vB z0.Place],[zu1]]).toArray)] ++ q1).toArray w2 (fun en w3=>∃ v,en = .returned v ∧ (v = (vT zr) ∧ Kept (Old w2) w2 w3))) (r : Bool) (hF : Zy p0 p1 = some r) :
  Calls Try.prog 67 [v0_1,(Value.func (.func k1) #[] q1.toArray)].toArray w0 (Rt w0 (vT r)):=by
 refine ce Try.func67 ?_
 intro a hE
 have hM:=M.start w0
 unfold Zy at hF
 refine Zc (Zb hE rfl fun a hE=>Ze (Zc (Zd hE rfl fun a hE=>Zd hE rfl ?_))); intro a hE
 obtain ⟨r1,e2,hF⟩:=bind_some hF
 refine Zl hE rfl (cbm Try.func129) (Vg _ p0 v0_1 (hM.rdo hv0_1) p1 k1 q1 hcb1 (fun w2 hk2=>hg1 w2 (hM.kept.trans hk2)) r1 e2) ?_
 rintro v w a ⟨rfl,hK⟩ hE
 have hM:=hM.keep hK
 refine Zk hE rfl rfl rfl fun a hE=>Zb hE rfl fun a hE=>Ze ?_
 obtain rfl:=Option.some.inj hF
 exact wp_ret (kr1 hE rfl rfl hM.kept)
def WJ (p0 : GShare) : Option (Bool) :=
 (if (p0.Place != 0) = true then (some (decide ((p0.Data.length : Int) ≤ 100))) else (some false) : Option (Bool)).bind fun j3=>some j3
theorem T3 (w0 : World) (p0 : GShare) (v0_1 : Value) (hv0_1 : Ro w0 p0.Data [v0_1]) (r : Bool) (hF : WJ p0 = some r) :
  Calls Try.prog 69 [(Value.agg (cat [[vB p0.Place],[v0_1]]).toArray)].toArray w0 (Rt w0 (vT r)):=by
 refine ce Try.func69 ?_
 intro a hE
 have hM:=M.start w0
 unfold WJ at hF
 refine Zc (Q3 (cs:=cat [[vB p0.Place],[v0_1]]) hE hM Za ld rfl rfl fun b1 w a hM hE=>Zb hE rfl fun a hE=>Ze ?_)
 obtain ⟨j3,hl4,hF5⟩:=bind_some hF
 refine ZB (fun a w=>Env 12 a [(2,vT j3)] ∧ M (Old w0) w0 w []) ?_ ?_
 ·skip
  refine wp_region_lit (ZA hE rfl (Wn) fun a hE=>ZM (v:=(vB p0.Place)) hE rfl ty5 rfl (At.cat (pre:=[]) hM.rawAt0 cl0) fun a hE=>Zk hE rfl rfl (Tk p0.Place 0) fun a hE=>Zd hE rfl ?_); intro a hE
  refine ZZ (p0.Place != 0) (fun hb6=>?_) (fun hb6=>?_)
  ·have hl4:=Zp hl4 hb6
   refine Zv hE (Zf hE rfl (lkb rfl hb6)) (by decide) rfl (YL) fun a hE=>ZK (v:=v0_1) hE (Zf hE rfl (lkb rfl hb6)) (by decide) rfl YS rfl (At.cat (pre:=[[vB p0.Place]]) hM.rawAt0 ck) fun a hE=>VU hE (Zf hE rfl (lkb rfl hb6)) (by decide) rfl Try.underlying22 (hM.rd hv0_1) fun a hE=>Z2 hE (Zf hE rfl (lkb rfl hb6)) (by decide) rfl rfl rfl fun a hE=>ZC hE (lkb rfl hb6) rfl fun a hE=>Zb hE rfl fun a hE=>Zi ?_
   obtain rfl:=Option.some.inj hl4
   refine Zj ?_
   have hM:=M.fst (l:=[]) hM
   exact ⟨hE.sub ⟨rfl,trivial⟩,hM⟩
  ·have hl4:=Zo hl4 hb6
   refine Zg hE rfl (lkb rfl hb6) rfl (by decide) fun a hE=>Zg hE rfl (lkb rfl hb6) rfl (by decide) fun a hE=>Zg hE rfl (lkb rfl hb6) rfl (by decide) fun a hE=>Zg hE rfl (lkb rfl hb6) rfl (by decide) fun a hE=>ZL hE (lkb rfl hb6) rfl fun a hE=>Zb hE rfl fun a hE=>Zi ?_
   obtain rfl:=Option.some.inj hl4
   refine Zj ?_
   have hM:=M.fst (l:=[]) hM
   exact ⟨hE.sub ⟨rfl,trivial⟩,hM⟩
 ·skip
  rintro a w ⟨hE,hM⟩
  obtain rfl:=Option.some.inj hF5
  exact wp_ret (kr1 hE rfl rfl hM.kept)
def Xn (p0 : GShare) : Option (Bool) :=
 (WJ p0).bind fun r3=>some (!r3)
theorem TO (w0 : World) (p0 : GShare) (v0_1 : Value) (hv0_1 : Ro w0 p0.Data [v0_1]) (r : Bool) (hF : Xn p0 = some r) :
  Calls Try.prog 127 [(Value.agg (cat [[vB p0.Place],[v0_1]]).toArray)].toArray w0 (Rt w0 (vT r)):=by
 refine ce Try.func127 ?_
 intro a hE
 have hM:=M.start w0
 unfold Xn at hF
 refine Zc (Q3 (cs:=cat [[vB p0.Place],[v0_1]]) hE hM Za ld rfl rfl fun b1 w a hM hE=>Zb hE rfl fun a hE=>Ze (Zc (Ue hE rfl ZU rfl hM.rawAt0 cq ?_))); intro a hE
 obtain ⟨r3,e4,hF⟩:=bind_some hF
 refine Zl hE rfl (cbm Try.func69) (T3 _ p0 v0_1 (hM.rdo hv0_1) r3 e4) ?_
 rintro v w a ⟨rfl,hK⟩ hE
 have hM:=hM.keep hK
 refine VW hE rfl fun a hE=>Zb hE rfl fun a hE=>Ze ?_
 obtain rfl:=Option.some.inj hF
 exact wp_ret (kr1 hE rfl rfl hM.kept)
def WH (p0 : (List GShare)) (s8 : (List UInt8) × Int) : Option (Fl ((List UInt8) × Int) (List UInt8)) :=
 if (decide (s8.2 < (p0.length : Int))) = true then ((idx p0 s8.2).bind fun x15=>(app 1 s8.1 ([x15.Place] : List UInt8)).bind fun l27=>some (Fl.nx ((s8.1 ++ ([x15.Place] : List UInt8)),wr (s8.2 + 1)))) else (some (Fl.ex s8.1))
def Z7 (p0 : (List GShare)) : Option ((List UInt8)) :=
 (ZJ (WH p0) (([] : List UInt8),0)).bind fun j3=>some j3
theorem Xt (w0 : World) (p0 : (List GShare)) (v0_1 : Value) (hv0_1 : Ro w0 p0 [v0_1]) (r : (List UInt8)) (hF : Z7 p0 = some r) :
  Calls Try.prog 71 [v0_1].toArray w0 (fun en w'=>∃ v,en = .returned v ∧ (∃ (y1 : Value),v = y1 ∧ Fr w0 w' [osl NoB (r : List UInt8) y1] ∧ Kept (Old w0) w0 w')):=by
 refine ce Try.func71 ?_
 intro a hE
 have hM:=M.start w0
 unfold Z7 at hF
 refine Zc (Zb hE rfl fun a hE=>Ze (Zc (ZE (xs:=[]) (l:=([] : List UInt8)) (vs:=[]) hE hM Za ld rfl rfl Try.underlying22 ty5 rfl (by decide) rfl fun u1 w a hM hE=>Zb hE rfl fun a hE=>Ze (wp_seq (Zc (Zd hE rfl fun a hE=>ZQ hE rfl Try.underlying27 (hM.rd hv0_1) fun a hE=>Zd hE rfl fun a hE=>Ze ?_))))))
 obtain ⟨j3,hl4,hF5⟩:=bind_some hF
 refine Z6 (fun a w=>∃ (u6 : Value),Env 20 a [(3,u6)] ∧ M (Old w0) w0 w [osl NoB (j3 : List UInt8) u6]) ?_ ?_
 ·skip
  refine wp_block ?_
  refine ZO (fun (s8 : (List UInt8) × Int) a w=>∃ (u9 : Value),Env 20 a [(3,u9),(7,v0_1),(8,(vI (p0.length : Int))),(9,vI s8.2)] ∧ M (Old w0) w0 w [osl NoB (s8.1 : List UInt8) u9]) hl4 ⟨u1,hE.sub ⟨rfl,rfl,rfl,rfl,trivial⟩,hM⟩ ?_
  rintro s8 a w ⟨u9,hE,hM⟩ o13 hs11 hx12
  unfold WH at hs11
  refine Zc (Zk hE rfl rfl rfl fun a hE=>Ze (wp_seq ?_))
  refine Zm hE rfl ?_ ?_
  ·intro hb14
   have hs11:=Zp hs11 hb14
   refine wp_skip (Zx (wp_seq (wp_block (Zc ?_))))
   obtain ⟨x15,hi17,hs11⟩:=bix hs11
   refine ZD hE rfl rfl Try.underlying27 ZU (hM.rd hv0_1) hi17.1 ?_; intro a hE
   obtain ⟨cs18,hs19,hA20⟩:=Yc hv0_1 hi17.2 -- ^
   obtain ⟨u21,rfl,h22⟩:=ZW hs19 -- ^
   refine Ue hE rfl ZU rfl (hM.atk hA20 (YI hv0_1 hi17.2)) cq fun a hE=>Ug hE hM ZU fun b23 w a hM hE=>Y3 (seg:=cat [[vB x15.Place],[u21]]) (cs':=cat [[vB x15.Place],[u21]]) hE hM Za rfl rfl rfl ZU cq (Nat.le_of_eq ((Nat.zero_add _).trans (Eq.trans cq (Eq.symm cq)))) (Wk (cc1 (Flat.cell (x15.Place : UInt8)) (cc1 (Rep.cell (hM.rd h22)) cc0))) (ZX (Eq.trans cq (Eq.symm cq))) fun w a hM hE=>Ze (wp_region_lit (Zd hE rfl fun a hE=>ZA hE rfl (Wn) fun a hE=>ZM (v:=(vB x15.Place)) hE rfl ty5 rfl (At.cat (pre:=[]) hM.rawAt0 cl0) fun a hE=>ZE (xs:=[.tmp 15]) (l:=([x15.Place] : List UInt8)) (vs:=[vB x15.Place]) hE hM Za ld rfl rfl Try.underlying22 ty5 rfl (by decide) rfl ?_)); intro u25 w a hM hE
   obtain ⟨l27,e28,hs11⟩:=bind_some hs11
   obtain ⟨e31,rfl⟩:=Yi e28
   have hM:=hM.pull2
   refine YE hE hM Za ld rfl rfl (hM.sl (pre:=[_]) noB) Try.underlying22 ty5 rfl (by decide) e31 fun u29 w a hM hE=>Zb hE rfl fun a hE=>Zi (YK (Zx (wp_region_lit (Zk hE rfl rfl rfl fun a hE=>Zd hE rfl fun a hE=>Zi (Zj ?_)))))
   have hM:=M.fst (l:=[_]) hM
   exact ⟨_,(ois hs11),u29,hE.sub ⟨rfl,rfl,rfl,rfl,trivial⟩,hM⟩
  ·intro hb14
   have hs11:=Zo hs11 hb14
   refine wp_exit (Zs (Zs (Y6 ?_)))
   obtain rfl:=hx12 _ (ois hs11)
   refine Zj ?_
   exact ⟨u9,hE.sub ⟨rfl,trivial⟩,hM⟩
 ·skip
  rintro a w ⟨u6,hE,hM⟩
  refine Zx (Zc (Zd hE rfl fun a hE=>Zb hE rfl fun a hE=>Ze ?_))
  obtain rfl:=Option.some.inj hF5
  exact wp_ret (Y7 hE rfl (Zq hE rfl) ⟨_,rfl,u6,rfl,hM.outF (YG YP),hM.kept⟩)
def Yg (p0 : (List GShare)) : Option (Int) :=
 some (p0.length : Int)
theorem Wo (w0 : World) (p0 : (List GShare)) (v0_1 : Value) (hv0_1 : Ro w0 p0 [v0_1]) (r : Int) (hF : Yg p0 = some r) :
  Calls Try.prog 66 [v0_1].toArray w0 (Rt w0 (vI r)):=by
 refine ce Try.func66 ?_
 intro a hE
 have hM:=M.start w0
 unfold Yg at hF
 refine Zc (Zb hE rfl fun a hE=>Ze (Zc (Zd hE rfl fun a hE=>ZQ hE rfl Try.underlying27 (hM.rd hv0_1) fun a hE=>Zb hE rfl fun a hE=>Ze ?_)))
 obtain rfl:=Option.some.inj hF
 exact wp_ret (kr1 hE rfl rfl hM.kept)
def XE (p0 : GShare) (p1 : (List GShare)) : Option (Bool) :=
 ((idx p1 (0 : Int)).bind fun x7=>some ((p0.Data.length : Int) != (x7.Data.length : Int)) : Option (Bool)).bind fun j3=>some j3
theorem Kr (w0 : World) (p0 : GShare) (v0_1 : Value) (hv0_1 : Ro w0 p0.Data [v0_1]) (pb1 : Nat) (p1 : (List GShare)) (v1_2 : Value) (hv1_2 : Ro w0 p1 [v1_2]) (hA1 : At w0 pb1 0 ([v1_2])) (hB1 : Old w0 pb1) (r : Bool) (hF : XE p0 p1 = some r) :
  Calls Try.prog 130 [(Value.agg (cat [[vB p0.Place],[v0_1]]).toArray),(ptr pb1 0)].toArray w0 (Rt w0 (vT r)):=by
 refine ce Try.func130 ?_
 intro a hE
 have hM:=M.start w0
 unfold XE at hF
 refine Zc (Q3 (cs:=cat [[vB p0.Place],[v0_1]]) hE hM Za ld rfl rfl fun b1 w a hM hE=>Zb hE rfl fun a hE=>Ze ?_)
 obtain ⟨j3,hl4,hF5⟩:=bind_some hF
 refine ZB (fun a w=>Env 13 a [(3,vT j3)] ∧ M (Old w0) w0 w []) ?_ ?_
 ·skip
  obtain ⟨x7,hi9,hl4⟩:=bix hl4
  obtain ⟨cs10,hs11,hA12⟩:=Yc hv1_2 hi9.2 -- ^
  obtain ⟨u13,rfl,h14⟩:=ZW hs11 -- ^
  refine Y4 [4,5,6,7,8,9,10,11,12,3] VC rfl rfl (by decide) rfl hE hM (qsP (fun z=>Zv z.E Za ld rfl (YL) (kr0 rfl)) (qsP (fun z=>ZK (v:=v0_1) z.E Za ld rfl YS rfl (At.cat (pre:=[[vB p0.Place]]) (z.M.rawAt0) ck) (kr0 rfl)) (qsP (fun z=>VU z.E Za ld rfl Try.underlying22 (z.M.rd hv0_1) (kr0 rfl)) (qsP (fun z=>ZK (v:=v1_2) z.E Za ld rfl ty27 rfl (z.M.atk hA1 hB1) (kr0 rfl)) (qsP (fun z=>ZG z.E Za ld rfl rfl Try.underlying27 ZU (z.M.rd hv1_2) hi9.1 (kr0 rfl)) (qsP (fun z=>Zv z.E Za ld rfl (YL) (kr0 rfl)) (qsP (fun z=>ZK (v:=u13) z.E Za ld rfl YS rfl (At.cat (pre:=[[vB x7.Place]]) (z.M.atk hA12 (YI hv1_2 hi9.2)) ck) (kr0 rfl)) (qsP (fun z=>VU z.E Za ld rfl Try.underlying22 (z.M.rd h14) (kr0 rfl)) (qsP (fun z=>Z2 z.E Za ld rfl rfl rfl (kr0 rfl)) (qsP (fun z=>QI z.E Za ld rfl (kr0 rfl)) qs0)))))))))) ?_
  ·intro a w u hE hM
   refine Zi ?_
   obtain rfl:=Option.some.inj hl4
   refine Zj ?_
   have hM:=M.fst (l:=[]) hM
   exact ⟨hE.sub ⟨rfl,trivial⟩,hM⟩
 ·skip
  rintro a w ⟨hE,hM⟩
  obtain rfl:=Option.some.inj hF5
  exact wp_ret (kr1 hE rfl rfl hM.kept)
def WC (p0 : (List GShare)) : Option (Bool) :=
 (Zy p0 (fun z0=>XE z0 p0)).bind fun r3=>some (!r3)
theorem TL (w0 : World) (p0 : (List GShare)) (v0_1 : Value) (hv0_1 : Ro w0 p0 [v0_1]) (r : Bool) (hF : WC p0 = some r) :
  Calls Try.prog 72 [v0_1].toArray w0 (Rt w0 (vT r)):=by
 refine ce Try.func72 ?_
 intro a hE
 have hM:=M.start w0
 unfold WC at hF
 refine Zc (Q3 (cs:=[v0_1]) hE hM Za ld rfl (WD (hM.rd hv0_1)) fun b1 w a hM hE=>Zb hE rfl fun a hE=>Ze (Zc (ZM (v:=v0_1) hE rfl ty27 rfl hM.rawAt0 fun a hE=>JN hE Za ld rfl ?_))); intro a hE
 obtain ⟨r3,e4,hF⟩:=bind_some hF
 refine Zl hE rfl cb67 (Ya _ p0 v0_1 (hM.rdo hv0_1) (fun z0=>XE z0 p0) 130 [(ptr b1 0)] (cbm Try.func130) (fun w2 hk2 z0 zu0_0 zh0_0 zr zhr=>Kr w2 z0 zu0_0 zh0_0 b1 p0 v0_1 (A6 (hM.rdo hv0_1) hk2) (H8 hM.rawAt0 hk2 (by simp [cat])) (KQ hM.rawAt0 hk2 (by simp [cat])) zr zhr) r3 e4) ?_
 rintro v w a ⟨rfl,hK⟩ hE
 have hM:=hM.keep hK
 refine VW hE rfl fun a hE=>Zb hE rfl fun a hE=>Ze ?_
 obtain rfl:=Option.some.inj hF
 exact wp_ret (kr1 hE rfl rfl hM.kept)
def Z3 (p0 : Int) (p1 : (List GShare)) (p2 : Int) : Option (Int) :=
 ((XN p0).bind fun r4=>if (!r4) = true then (some true) else ((Zy p1 (fun z0=>Xn z0)).bind fun r8=>if r8 = true then (some true) else ((Z7 p1).bind fun r12=>(Yz r12).bind fun r15=>some (!r15))) : Option (Bool)).bind fun j1=>if j1 = true then (some 1) else (((Yg p1).bind fun r22=>(YU r22 1 12).bind fun r24=>if (!r24) = true then (some true) else ((WC p1).bind fun r28=>if (!r28) = true then (some true) else ((YU p2 1 8).bind fun r32=>some (!r32))) : Option (Bool)).bind fun j19=>if j19 = true then (some 2) else (some 0))
theorem Xc (w0 : World) (p0 : Int) (p1 : (List GShare)) (v1_1 : Value) (hv1_1 : Ro w0 p1 [v1_1]) (p2 : Int) (r : Int) (hF : Z3 p0 p1 p2 = some r) :
  Calls Try.prog 64 [vI p0,v1_1,vI p2].toArray w0 (Rt w0 (vI r)):=by
 refine ce Try.func64 ?_
 intro a hE
 have hM:=M.start w0
 unfold Z3 at hF
 refine Zc (Zb hE rfl fun a hE=>Ze (wp_seq (wp_block ?_)))
 obtain ⟨j1,hl2,hF3⟩:=bind_some hF
 refine ZB (fun a w=>Env 36 a [(1,v1_1),(2,vI p2),(7,vT j1)] ∧ M (Old w0) w0 w []) ?_ ?_
 ·skip
  refine wp_region_lit (Zd hE rfl ?_); intro a hE
  obtain ⟨r4,e5,hl2⟩:=bind_some hl2
  refine Zl hE rfl cb54 (UD _ p0 r4 e5) ?_
  rintro v w a ⟨rfl,hK⟩ hE
  have hM:=hM.keep hK
  refine VW hE rfl fun a hE=>Zd hE rfl ?_; intro a hE
  refine ZZ (!r4) (fun hb6=>?_) (fun hb6=>?_)
  ·have hl2:=Zp hl2 hb6
   refine Zg hE rfl (lkb rfl hb6) rfl (by decide) fun a hE=>Zg hE rfl (lkb rfl hb6) rfl (by decide) fun a hE=>ZC hE (lkb rfl hb6) rfl fun a hE=>Zd hE rfl fun a hE=>Zg hE rfl rfl rfl (by decide) fun a hE=>Zg hE rfl rfl rfl (by decide) fun a hE=>Zg hE rfl rfl rfl (by decide) fun a hE=>Zg hE rfl rfl rfl (by decide) fun a hE=>ZC hE rfl rfl fun a hE=>Zb hE rfl fun a hE=>Zi ?_
   obtain rfl:=Option.some.inj hl2
   refine Zj ?_
   exact ⟨hE.sub ⟨rfl,rfl,rfl,trivial⟩,hM⟩
  ·have hl2:=Zo hl2 hb6
   refine Zh hE (Zf hE rfl (lkb rfl hb6)) (by decide) rfl ?_; intro a hE
   obtain ⟨r8,e9,hl2⟩:=bind_some hl2
   refine Z1 hE (Zf hE rfl (lkb rfl hb6)) (by decide) rfl cb67 (Ya _ p1 v1_1 (hM.rdo hv1_1) (fun z0=>Xn z0) 127 [] (cbm Try.func127) (fun w2 hk2 z0 zu0_0 zh0_0 zr zhr=>TO w2 z0 zu0_0 zh0_0 zr zhr) r8 e9) ?_
   rintro v w a ⟨rfl,hK⟩ hE
   have hM:=hM.keep hK
   refine ZL hE (lkb rfl hb6) rfl fun a hE=>Zd hE rfl ?_; intro a hE
   refine ZZ r8 (fun hb10=>?_) (fun hb10=>?_)
   ·have hl2:=Zp hl2 hb10
    refine Zg hE rfl (lkb rfl hb10) rfl (by decide) fun a hE=>Zg hE rfl (lkb rfl hb10) rfl (by decide) fun a hE=>Zg hE rfl (lkb rfl hb10) rfl (by decide) fun a hE=>Zg hE rfl (lkb rfl hb10) rfl (by decide) fun a hE=>ZC hE (lkb rfl hb10) rfl fun a hE=>Zb hE rfl fun a hE=>Zi ?_
    obtain rfl:=Option.some.inj hl2
    refine Zj ?_
    exact ⟨hE.sub ⟨rfl,rfl,rfl,trivial⟩,hM⟩
   ·have hl2:=Zo hl2 hb10
    refine Zh hE (Zf hE rfl (lkb rfl hb10)) (by decide) rfl ?_; intro a hE
    obtain ⟨r12,e13,hl2⟩:=bind_some hl2
    refine Z1 hE (Zf hE rfl (lkb rfl hb10)) (by decide) rfl BF (Xt _ p1 v1_1 (hM.rdo hv1_1) r12 e13) ?_
    rintro u14 w a ⟨_,rfl,hFr,hK⟩ hE
    have hM:=hM.add hK hFr
    obtain ⟨r15,e16,hl2⟩:=bind_some hl2
    refine Z1 hE (Zf hE rfl (lkb rfl hb10)) (by decide) rfl cb70 (VE _ r12 u14 (hM.sl (pre:=[]) noB) r15 e16) ?_
    rintro v w a ⟨rfl,hK⟩ hE
    have hM:=hM.keep hK
    refine V7 hE (Zf hE rfl (lkb rfl hb10)) (by decide) rfl fun a hE=>ZL hE (lkb rfl hb10) rfl fun a hE=>Zb hE rfl fun a hE=>Zi ?_
    obtain rfl:=Option.some.inj hl2
    refine Zj ?_
    have hM:=M.fst (l:=[]) hM
    exact ⟨hE.sub ⟨rfl,rfl,rfl,trivial⟩,hM⟩
 ·skip
  rintro a w ⟨hE,hM⟩
  refine Zm hE rfl ?_ ?_
  ·intro hb18
   have hF3:=Zp hF3 hb18
   refine Zc (Zb hE rfl fun a hE=>Ze ?_)
   obtain rfl:=Option.some.inj hF3
   exact wp_ret (Yh (Zr (kr1 hE rfl rfl hM.kept)))
  ·intro hb18
   have hF3:=Zo hF3 hb18
   obtain ⟨j19,hl20,hF21⟩:=bind_some hF3
   refine ZB (fun a w=>Env 36 a [(21,vT j19)] ∧ M (Old w0) w0 w []) ?_ ?_
   ·skip
    refine wp_region_lit (Zd hE rfl ?_); intro a hE
    obtain ⟨r22,e23,hl20⟩:=bind_some hl20
    refine Zl hE rfl cb66 (Wo _ p1 v1_1 (hM.rdo hv1_1) r22 e23) ?_
    rintro v w a ⟨rfl,hK⟩ hE
    have hM:=hM.keep hK
    obtain ⟨r24,e25,hl20⟩:=bind_some hl20
    refine Zl hE rfl cb56 (Vr _ r22 1 12 r24 e25) ?_
    rintro v w a ⟨rfl,hK⟩ hE
    have hM:=hM.keep hK
    refine VW hE rfl fun a hE=>Zd hE rfl ?_; intro a hE
    refine ZZ (!r24) (fun hb26=>?_) (fun hb26=>?_)
    ·have hl20:=Zp hl20 hb26
     refine Zg hE rfl (lkb rfl hb26) rfl (by decide) fun a hE=>Zg hE rfl (lkb rfl hb26) rfl (by decide) fun a hE=>Zg hE rfl (lkb rfl hb26) rfl (by decide) fun a hE=>ZC hE (lkb rfl hb26) rfl fun a hE=>Zd hE rfl fun a hE=>Zg hE rfl rfl rfl (by decide) fun a hE=>Zg hE rfl rfl rfl (by decide) fun a hE=>Zg hE rfl rfl rfl (by decide) fun a hE=>ZC hE rfl rfl fun a hE=>Zb hE rfl fun a hE=>Zi ?_
     obtain rfl:=Option.some.inj hl20
     refine Zj ?_
     exact ⟨hE.sub ⟨rfl,trivial⟩,hM⟩
    ·have hl20:=Zo hl20 hb26
     refine Zh hE (Zf hE rfl (lkb rfl hb26)) (by decide) rfl ?_; intro a hE
     obtain ⟨r28,e29,hl20⟩:=bind_some hl20
     refine Z1 hE (Zf hE rfl (lkb rfl hb26)) (by decide) rfl (cbm Try.func72) (TL _ p1 v1_1 (hM.rdo hv1_1) r28 e29) ?_
     rintro v w a ⟨rfl,hK⟩ hE
     have hM:=hM.keep hK
     refine V7 hE (Zf hE rfl (lkb rfl hb26)) (by decide) rfl fun a hE=>ZL hE (lkb rfl hb26) rfl fun a hE=>Zd hE rfl ?_; intro a hE
     refine ZZ (!r28) (fun hb30=>?_) (fun hb30=>?_)
     ·have hl20:=Zp hl20 hb30
      refine Zg hE rfl (lkb rfl hb30) rfl (by decide) fun a hE=>Zg hE rfl (lkb rfl hb30) rfl (by decide) fun a hE=>Zg hE rfl (lkb rfl hb30) rfl (by decide) fun a hE=>ZC hE (lkb rfl hb30) rfl fun a hE=>Zb hE rfl fun a hE=>Zi ?_
      obtain rfl:=Option.some.inj hl20
      refine Zj ?_
      exact ⟨hE.sub ⟨rfl,trivial⟩,hM⟩
     ·have hl20:=Zo hl20 hb30
      refine Zh hE (Zf hE rfl (lkb rfl hb30)) (by decide) rfl ?_; intro a hE
      obtain ⟨r32,e33,hl20⟩:=bind_some hl20
      refine Z1 hE (Zf hE rfl (lkb rfl hb30)) (by decide) rfl cb56 (Vr _ p2 1 8 r32 e33) ?_
      rintro v w a ⟨rfl,hK⟩ hE
      have hM:=hM.keep hK
      refine V7 hE (Zf hE rfl (lkb rfl hb30)) (by decide) rfl fun a hE=>ZL hE (lkb rfl hb30) rfl fun a hE=>Zb hE rfl fun a hE=>Zi ?_
      obtain rfl:=Option.some.inj hl20
      refine Zj ?_
      exact ⟨hE.sub ⟨rfl,trivial⟩,hM⟩
   ·skip
    rintro a w ⟨hE,hM⟩
    refine Zm hE rfl ?_ ?_
    ·intro hb35
     have hF21:=Zp hF21 hb35
     refine Zc (Zb hE rfl fun a hE=>Ze ?_)
     obtain rfl:=Option.some.inj hF21
     exact wp_ret (Yh (Zr (kr1 hE rfl rfl hM.kept)))
    ·intro hb35
     have hF21:=Zo hF21 hb35
     refine wp_skip (YK (Zx (Zc (Zb hE rfl fun a hE=>Ze ?_))))
     obtain rfl:=Option.some.inj hF21
     exact wp_ret (kr1 hE rfl rfl hM.kept)
def Ws (p0 : Int) (s4 : UInt8 × Int × UInt8) : Option (Fl (UInt8 × Int × UInt8) UInt8) :=
 if (decide (s4.2.1 > 0)) = true then (((if ((Int.tmod s4.2.1 2) == 1) = true then ((ZP p0 s4.2.2 s4.1).bind fun r16=>some r16) else (some s4.2.2) : Option (UInt8)).bind fun j12=>(ZP p0 s4.1 s4.1).bind fun r20=>some (r20,j12) : Option (UInt8 × UInt8)).bind fun j9=>some (Fl.nx (j9.1,wr (Int.tdiv s4.2.1 2),j9.2))) else (some (Fl.ex s4.2.2))
def Xe (p0 : Int) (p1 : UInt8) (p2 : Int) : Option (UInt8) :=
 (ZJ (Ws p0) (p1,p2,1)).bind fun j1=>some j1
theorem QB (w0 : World) (p0 : Int) (p1 : UInt8) (p2 : Int) (r : UInt8) (hF : Xe p0 p1 p2 = some r) :
  Calls Try.prog 203 [vI p0,vB p1,vI p2].toArray w0 (Rt w0 (vB r)):=by
 refine ce Try.func203 ?_
 intro a hE
 have hM:=M.start w0
 unfold Xe at hF
 refine Zc (Zb hE rfl fun a hE=>Ze (Zc (Zb hE rfl fun a hE=>Ze ?_)))
 obtain ⟨j1,hl2,hF3⟩:=bind_some hF
 refine ZB (fun a w=>Env 24 a [(7,vB j1)] ∧ M (Old w0) w0 w []) ?_ ?_
 ·skip
  refine wp_block ?_
  refine ZO (fun (s4 : UInt8 × Int × UInt8) a w=>Env 24 a [(0,vI p0),(1,vB s4.1),(2,vI s4.2.1),(7,vB s4.2.2)] ∧ M (Old w0) w0 w []) hl2 ⟨hE.sub ⟨rfl,rfl,rfl,rfl,trivial⟩,hM⟩ ?_
  rintro s4 a w ⟨hE,hM⟩ o7 hs5 hx6
  unfold Ws at hs5
  refine wp_seq (Zc (Zd hE rfl fun a hE=>Zk hE rfl rfl rfl fun a hE=>Ze ?_))
  refine Zm hE rfl ?_ ?_
  ·intro hb8
   have hs5:=Zp hs5 hb8
   refine wp_skip (Zx ?_)
   obtain ⟨j9,hl10,hF11⟩:=bind_some hs5
   refine ZB (fun a w=>Env 24 a [(0,vI p0),(1,vB j9.1),(2,vI s4.2.1),(7,vB j9.2)] ∧ M (Old w0) w0 w []) ?_ ?_
   ·skip
    refine wp_block ?_
    obtain ⟨j12,hl13,hF14⟩:=bind_some hl10
    refine ZB (fun a w=>Env 24 a [(0,vI p0),(1,vB s4.1),(2,vI s4.2.1),(7,vB j12)] ∧ M (Old w0) w0 w []) ?_ ?_
    ·skip
     refine Zc (Zd hE rfl fun a hE=>Zk hE rfl rfl (Kq _ _ (by decide)) fun a hE=>Zk hE rfl rfl rfl fun a hE=>Ze ?_)
     refine Zm hE rfl ?_ ?_
     ·intro hb15
      have hl13:=Zp hl13 hb15
      refine wp_region_lit (Zd hE rfl fun a hE=>Zd hE rfl fun a hE=>Zd hE rfl ?_); intro a hE
      obtain ⟨r16,e17,hl13⟩:=bind_some hl13
      refine Zl hE rfl H3 (Xd _ p0 s4.2.2 s4.1 r16 e17) ?_
      rintro v w a ⟨rfl,hK⟩ hE
      have hM:=hM.keep hK
      refine Zb hE rfl fun a hE=>Zi ?_
      obtain rfl:=Option.some.inj hl13
      refine Zj ?_
      exact ⟨hE.sub ⟨rfl,rfl,rfl,rfl,trivial⟩,hM⟩
     ·intro hb15
      have hl13:=Zo hl13 hb15
      refine wp_skip ?_
      obtain rfl:=Option.some.inj hl13
      refine Zj ?_
      exact ⟨hE.sub ⟨rfl,rfl,rfl,rfl,trivial⟩,hM⟩
    ·skip
     rintro a w ⟨hE,hM⟩
     refine wp_region_lit (Zd hE rfl fun a hE=>Zd hE rfl fun a hE=>Zd hE rfl ?_); intro a hE
     obtain ⟨r20,e21,hF14⟩:=bind_some hF14
     refine Zl hE rfl H3 (Xd _ p0 s4.1 s4.1 r20 e21) ?_
     rintro v w a ⟨rfl,hK⟩ hE
     have hM:=hM.keep hK
     refine Zb hE rfl fun a hE=>Zi (YK ?_)
     obtain rfl:=Option.some.inj hF14
     refine Zj ?_
     exact ⟨hE.sub ⟨rfl,rfl,rfl,rfl,trivial⟩,hM⟩
   ·skip
    rintro a w ⟨hE,hM⟩
    refine wp_region_lit (Zd hE rfl fun a hE=>Zk hE rfl rfl (HD _ _ (by decide)) fun a hE=>Zb hE rfl fun a hE=>Zi (Zj ?_))
    exact ⟨_,(ois hF11),hE.sub ⟨rfl,rfl,rfl,rfl,trivial⟩,hM⟩
  ·intro hb8
   have hs5:=Zo hs5 hb8
   refine wp_exit (Zs (Zs (Y6 ?_)))
   obtain rfl:=hx6 _ (ois hs5)
   refine Zj ?_
   exact ⟨hE.sub ⟨rfl,trivial⟩,hM⟩
 ·skip
  rintro a w ⟨hE,hM⟩
  refine Zc (Zd hE rfl fun a hE=>Zb hE rfl fun a hE=>Ze ?_)
  obtain rfl:=Option.some.inj hF3
  exact wp_ret (kr1 hE rfl rfl hM.kept)
def Xk (p0 : Int) (p1 : UInt8) : Option (UInt8) :=
 (Xe p0 p1 254).bind fun r1=>some r1
theorem T0 (w0 : World) (p0 : Int) (p1 : UInt8) (r : UInt8) (hF : Xk p0 p1 = some r) :
  Calls Try.prog 179 [vI p0,vB p1].toArray w0 (Rt w0 (vB r)):=by
 refine ce Try.func179 ?_
 intro a hE
 have hM:=M.start w0
 unfold Xk at hF
 refine Zc (Zb hE rfl fun a hE=>Ze (Zc (Zd hE rfl fun a hE=>Zd hE rfl ?_))); intro a hE
 obtain ⟨r1,e2,hF⟩:=bind_some hF
 refine Zl hE rfl (cbm Try.func203) (QB _ p0 p1 254 r1 e2) ?_
 rintro v w a ⟨rfl,hK⟩ hE
 have hM:=hM.keep hK
 refine Zb hE rfl fun a hE=>Ze ?_
 obtain rfl:=Option.some.inj hF
 exact wp_ret (kr1 hE rfl rfl hM.kept)
def Yx (p0 : Int) (p1 : (List GShare)) (p2 : UInt8) (x25 : GShare) (s38 : UInt8 × Int) : Option (Fl (UInt8 × Int) UInt8) :=
 if (decide (s38.2 < (p1.length : Int))) = true then (((idx p1 s38.2).bind fun x46=>(if (x46.Place != x25.Place) = true then ((Xk p0 (x25.Place ^^^ x46.Place)).bind fun r61=>(ZP p0 (p2 ^^^ x46.Place) r61).bind fun r63=>(ZP p0 s38.1 r63).bind fun r65=>some r65) else (some s38.1) : Option (UInt8)).bind fun j56=>some j56 : Option (UInt8)).bind fun j43=>some (Fl.nx (j43,wr (s38.2 + 1)))) else (some (Fl.ex s38.1))
def Yu (p0 : Int) (x25 : GShare) (j35 : UInt8) (s76 : Int × (List UInt8)) : Option (Fl (Int × (List UInt8)) (List UInt8)) :=
 if (decide (s76.1 < (x25.Data.length : Int))) = true then ((idx x25.Data s76.1).bind fun x83=>(idx s76.2 s76.1).bind fun x87=>(ZP p0 x83 j35).bind fun r90=>(idx s76.2 s76.1).bind fun x92=>some (Fl.nx (wr (s76.1 + 1),(s76.2.set (s76.1).toNat (x87 ^^^ r90))))) else (some (Fl.ex s76.2))
def Yt (p0 : Int) (p1 : (List GShare)) (p2 : UInt8) (s18 : Int × (List UInt8)) : Option (Fl (Int × (List UInt8)) (List UInt8)) :=
 if (decide (s18.1 < (p1.length : Int))) = true then ((idx p1 s18.1).bind fun x25=>(ZJ (Yx p0 p1 p2 x25) (1,0)).bind fun j35=>(ZJ (Yu p0 x25 j35) (0,s18.2)).bind fun j71=>some (Fl.nx (wr (s18.1 + 1),j71))) else (some (Fl.ex s18.2))
def YD (p0 : Int) (p1 : (List GShare)) (p2 : UInt8) : Option ((List UInt8)) :=
 (idx p1 (0 : Int)).bind fun x1=>(mkS 1 (0 : UInt8) (x1.Data.length : Int)).bind fun l9=>(ZJ (Yt p0 p1 p2) (0,l9)).bind fun j13=>some j13
theorem V6 (w0 : World) (p0 : Int) (p1 : (List GShare)) (v1_1 : Value) (hv1_1 : Ro w0 p1 [v1_1]) (p2 : UInt8) (r : (List UInt8)) (hF : YD p0 p1 p2 = some r) :
  Calls Try.prog 128 [vI p0,v1_1,vB p2].toArray w0 (fun en w'=>∃ v,en = .returned v ∧ (∃ (y1 : Value),v = y1 ∧ Fr w0 w' [osl NoB (r : List UInt8) y1] ∧ Kept (Old w0) w0 w')):=by
 refine ce Try.func128 ?_
 intro a hE
 have hM:=M.start w0
 unfold YD at hF
 refine Zc (Zb hE rfl fun a hE=>Ze (Zc (Zd hE rfl ?_))); intro a hE
 obtain ⟨x1,hi3,hF⟩:=bix hF
 refine ZD hE rfl rfl Try.underlying27 ZU (hM.rd hv1_1) hi3.1 fun a hE=>ZA hE rfl (YL) ?_; intro a hE
 obtain ⟨cs4,hs5,hA6⟩:=Yc hv1_1 hi3.2 -- ^
 obtain ⟨u7,rfl,h8⟩:=ZW hs5 -- ^
 refine ZM (v:=u7) hE rfl YS rfl (At.cat (pre:=[[vB x1.Place]]) (hM.atk hA6 (YI hv1_1 hi3.2)) ck) fun a hE=>ZQ hE rfl Try.underlying22 (hM.rd h8) ?_; intro a hE
 obtain ⟨l9,e10,hF⟩:=bind_some hF
 refine HH hE hM Za ld rfl rfl Try.underlying22 ty5 rfl (by decide) (fun _=>QG.2 ⟨rfl,rfl⟩) e10 fun u11 w a hM hE=>Zb hE rfl fun a hE=>Ze (wp_seq (Zc (Zd hE rfl fun a hE=>ZQ hE rfl Try.underlying27 (hM.rd hv1_1) fun a hE=>Zd hE rfl fun a hE=>Ze ?_)))
 obtain ⟨j13,hl14,hF15⟩:=bind_some hF
 refine Z6 (fun a w=>∃ (u16 : Value),Env 76 a [(7,u16)] ∧ M (Old w0) w0 w [osl NoB (j13 : List UInt8) u16]) ?_ ?_
 ·skip
  refine wp_block ?_
  refine ZO (fun (s18 : Int × (List UInt8)) a w=>∃ (u19 : Value),Env 76 a [(0,vI p0),(1,v1_1),(2,vB p2),(7,u19),(21,v1_1),(22,(vI (p1.length : Int))),(23,vI s18.1)] ∧ M (Old w0) w0 w [osl NoB (s18.2 : List UInt8) u19]) hl14 ⟨u11,hE.sub ⟨rfl,rfl,rfl,rfl,rfl,rfl,rfl,trivial⟩,hM⟩ ?_
  rintro s18 a w ⟨u19,hE,hM⟩ o23 hs21 hx22
  unfold Yt at hs21
  refine Zc (Zk hE rfl rfl rfl fun a hE=>Ze (wp_seq ?_))
  refine Zm hE rfl ?_ ?_
  ·intro hb24
   have hs21:=Zp hs21 hb24
   refine wp_skip (Zx (wp_seq (wp_block (Zc ?_))))
   obtain ⟨x25,hi27,hs21⟩:=bix hs21
   refine ZD hE rfl rfl Try.underlying27 ZU (hM.rd hv1_1) hi27.1 ?_; intro a hE
   obtain ⟨cs28,hs29,hA30⟩:=Yc hv1_1 hi27.2 -- ^
   obtain ⟨u31,rfl,h32⟩:=ZW hs29 -- ^
   refine Ue hE rfl ZU rfl (hM.atk hA30 (YI hv1_1 hi27.2)) cq fun a hE=>Ug hE hM ZU fun b33 w a hM hE=>Y3 (seg:=cat [[vB x25.Place],[u31]]) (cs':=cat [[vB x25.Place],[u31]]) hE hM Za rfl rfl rfl ZU cq (Nat.le_of_eq ((Nat.zero_add _).trans (Eq.trans cq (Eq.symm cq)))) (Wk (cc1 (Flat.cell (x25.Place : UInt8)) (cc1 (Rep.cell (hM.rd h32)) cc0))) (ZX (Eq.trans cq (Eq.symm cq))) fun w a hM hE=>Ze (Zc (Zb hE rfl fun a hE=>Ze (wp_seq (Zc (Zd hE rfl fun a hE=>ZQ hE rfl Try.underlying27 (hM.rd hv1_1) fun a hE=>Zd hE rfl fun a hE=>Ze ?_)))))
   obtain ⟨j35,hl36,hF37⟩:=bind_some hs21
   refine Z6 (fun a w=>Env 76 a [(0,vI p0),(1,v1_1),(2,vB p2),(7,u19),(9,(ptr b33 0)),(10,vB j35),(21,v1_1),(22,(vI (p1.length : Int))),(23,vI s18.1)] ∧ M (Old w0) w0 w [raw b33 (cat [[vB x25.Place],[u31]]),osl NoB (s18.2 : List UInt8) u19]) ?_ ?_
   ·skip
    refine wp_block ?_
    refine ZO (fun (s38 : UInt8 × Int) a w=>Env 76 a [(0,vI p0),(1,v1_1),(2,vB p2),(7,u19),(9,(ptr b33 0)),(10,vB s38.1),(21,v1_1),(22,(vI (p1.length : Int))),(23,vI s18.1),(27,v1_1),(28,(vI (p1.length : Int))),(29,vI s38.2)] ∧ M (Old w0) w0 w [raw b33 (cat [[vB x25.Place],[u31]]),osl NoB (s18.2 : List UInt8) u19]) hl36 ⟨hE.sub ⟨rfl,rfl,rfl,rfl,rfl,rfl,rfl,rfl,rfl,rfl,rfl,rfl,trivial⟩,hM⟩ ?_
    rintro s38 a w ⟨hE,hM⟩ o41 hs39 hx40
    unfold Yx at hs39
    refine Zc (Zk hE rfl rfl rfl fun a hE=>Ze (wp_seq ?_))
    refine Zm hE rfl ?_ ?_
    ·intro hb42
     have hs39:=Zp hs39 hb42
     refine wp_skip (Zx ?_)
     obtain ⟨j43,hl44,hF45⟩:=bind_some hs39
     refine ZB (fun a w=>Env 76 a [(0,vI p0),(1,v1_1),(2,vB p2),(7,u19),(9,(ptr b33 0)),(10,vB j43),(21,v1_1),(22,(vI (p1.length : Int))),(23,vI s18.1),(27,v1_1),(28,(vI (p1.length : Int))),(29,vI s38.2)] ∧ M (Old w0) w0 w [raw b33 (cat [[vB x25.Place],[u31]]),osl NoB (s18.2 : List UInt8) u19]) ?_ ?_
     ·skip
      refine wp_block (Zc ?_)
      obtain ⟨x46,hi48,hl44⟩:=bix hl44
      refine ZD hE rfl rfl Try.underlying27 ZU (hM.rd hv1_1) hi48.1 ?_; intro a hE
      obtain ⟨cs49,hs50,hA51⟩:=Yc hv1_1 hi48.2 -- ^
      obtain ⟨u52,rfl,h53⟩:=ZW hs50 -- ^
      refine Ue hE rfl ZU rfl (hM.atk hA51 (YI hv1_1 hi48.2)) cq fun a hE=>Ug hE hM ZU fun b54 w a hM hE=>Y3 (seg:=cat [[vB x46.Place],[u52]]) (cs':=cat [[vB x46.Place],[u52]]) hE hM Za rfl rfl rfl ZU cq (Nat.le_of_eq ((Nat.zero_add _).trans (Eq.trans cq (Eq.symm cq)))) (Wk (cc1 (Flat.cell (x46.Place : UInt8)) (cc1 (Rep.cell (hM.rd h53)) cc0))) (ZX (Eq.trans cq (Eq.symm cq))) fun w a hM hE=>Ze (Zc (ZA hE rfl (Wn) fun a hE=>ZM (v:=(vB x46.Place)) hE rfl ty5 rfl (At.cat (pre:=[]) hM.rawAt0 cl0) fun a hE=>ZA hE rfl (Wn) fun a hE=>ZM (v:=(vB x25.Place)) hE rfl ty5 rfl (At.cat (pre:=[]) hM.rawAt1 cl0) fun a hE=>Zk hE rfl rfl (Tk x46.Place x25.Place) fun a hE=>Ze ?_))
      obtain ⟨j56,hl57,hF58⟩:=bind_some hl44
      refine Z6 (fun a w=>Env 76 a [(0,vI p0),(1,v1_1),(2,vB p2),(7,u19),(9,(ptr b33 0)),(10,vB j56),(21,v1_1),(22,(vI (p1.length : Int))),(23,vI s18.1),(27,v1_1),(28,(vI (p1.length : Int))),(29,vI s38.2)] ∧ M (Old w0) w0 w [raw b33 (cat [[vB x25.Place],[u31]]),osl NoB (s18.2 : List UInt8) u19]) ?_ ?_
      ·skip
       refine Zm hE rfl ?_ ?_
       ·intro hb59
        have hl57:=Zp hl57 hb59
        obtain ⟨r61,e62,hl57⟩:=bind_some hl57
        obtain ⟨r63,e64,hl57⟩:=bind_some hl57
        obtain ⟨r65,e66,hl57⟩:=bind_some hl57
        refine Y4 [38,39,40,41,42,43,44,45,46,47,48,49,50,51,52,53] VC rfl rfl (by decide) rfl hE hM (qsP (fun z=>Zh z.E Za ld rfl (kr0 rfl)) (qsP (fun z=>Zh z.E Za ld rfl (kr0 rfl)) (qsP (fun z=>Zh z.E Za ld rfl (kr0 rfl)) (qsP (fun z=>Zh z.E Za ld rfl (kr0 rfl)) (qsP (fun z=>Zv z.E Za ld rfl (Wn) (kr0 rfl)) (qsP (fun z=>ZK (v:=(vB x46.Place)) z.E Za ld rfl ty5 rfl (At.cat (pre:=[]) (z.M.rawAt0) cl0) (kr0 rfl)) (qsP (v:=(vB (p2 ^^^ x46.Place))) (fun z=>Z2 z.E Za ld rfl rfl (U0 p2 x46.Place) (kr0 rfl)) (qsP (fun z=>Zh z.E Za ld rfl (kr0 rfl)) (qsP (fun z=>Zv z.E Za ld rfl (Wn) (kr0 rfl)) (qsP (fun z=>ZK (v:=(vB x25.Place)) z.E Za ld rfl ty5 rfl (At.cat (pre:=[]) (z.M.rawAt1) cl0) (kr0 rfl)) (qsP (fun z=>Zv z.E Za ld rfl (Wn) (kr0 rfl)) (qsP (fun z=>ZK (v:=(vB x46.Place)) z.E Za ld rfl ty5 rfl (At.cat (pre:=[]) (z.M.rawAt0) cl0) (kr0 rfl)) (qsP (v:=(vB (x25.Place ^^^ x46.Place))) (fun z=>Z2 z.E Za ld rfl rfl (U0 x25.Place x46.Place) (kr0 rfl)) (qsP (fun z=>Z1 z.E Za ld rfl (cbm Try.func179) (T0 _ p0 (x25.Place ^^^ x46.Place) r61 e62) (kc rfl)) (qsP (fun z=>Z1 z.E Za ld rfl H3 (Xd _ p0 (p2 ^^^ x46.Place) r61 r63 e64) (kc rfl)) (qsP (fun z=>Z1 z.E Za ld rfl H3 (Xd _ p0 s38.1 r63 r65 e66) (kc rfl)) qs0)))))))))))))))) ?_
        ·intro a w u hE hM
         refine Zb hE rfl fun a hE=>Zi ?_
         obtain rfl:=Option.some.inj hl57
         refine Zj ?_
         have hM:=M.fst (l:=[_,_]) hM.pull2.pull2
         exact ⟨hE.sub ⟨rfl,rfl,rfl,rfl,rfl,rfl,rfl,rfl,rfl,rfl,rfl,rfl,trivial⟩,hM⟩
       ·intro hb59
        have hl57:=Zo hl57 hb59
        refine wp_skip ?_
        obtain rfl:=Option.some.inj hl57
        refine Zj ?_
        have hM:=M.fst (l:=[_,_]) hM.pull2.pull2
        exact ⟨hE.sub ⟨rfl,rfl,rfl,rfl,rfl,rfl,rfl,rfl,rfl,rfl,rfl,rfl,trivial⟩,hM⟩
      ·skip
       rintro a w ⟨hE,hM⟩
       refine YK ?_
       obtain rfl:=Option.some.inj hF58
       refine Zj ?_
       exact ⟨hE.sub ⟨rfl,rfl,rfl,rfl,rfl,rfl,rfl,rfl,rfl,rfl,rfl,rfl,trivial⟩,hM⟩
     ·skip
      rintro a w ⟨hE,hM⟩
      refine wp_region_lit (Zk hE rfl rfl rfl fun a hE=>Zd hE rfl fun a hE=>Zi (Zj ?_))
      exact ⟨_,(ois hF45),hE.sub ⟨rfl,rfl,rfl,rfl,rfl,rfl,rfl,rfl,rfl,rfl,rfl,rfl,trivial⟩,hM⟩
    ·intro hb42
     have hs39:=Zo hs39 hb42
     refine wp_exit (Zs (Zs (Y6 ?_)))
     obtain rfl:=hx40 _ (ois hs39)
     refine Zj ?_
     exact ⟨hE.sub ⟨rfl,rfl,rfl,rfl,rfl,rfl,rfl,rfl,rfl,trivial⟩,hM⟩
   ·skip
    rintro a w ⟨hE,hM⟩
    refine Zx (Zc (ZA hE rfl (YL) fun a hE=>ZM (v:=u31) hE rfl YS rfl (At.cat (pre:=[[vB x25.Place]]) hM.rawAt0 ck) fun a hE=>ZQ hE rfl Try.underlying22 (hM.rd h32) fun a hE=>Zd hE rfl fun a hE=>Ze ?_))
    obtain ⟨j71,hl72,hF73⟩:=bind_some hF37
    refine Z6 (fun a w=>∃ (u74 : Value),Env 76 a [(0,vI p0),(1,v1_1),(2,vB p2),(7,u74),(21,v1_1),(22,(vI (p1.length : Int))),(23,vI s18.1)] ∧ M (Old w0) w0 w [osl NoB (j71 : List UInt8) u74]) ?_ ?_
    ·skip
     refine wp_block ?_
     have hM:=M.fst (l:=[_]) hM.pull1
     refine ZO (fun (s76 : Int × (List UInt8)) a w=>∃ (u77 : Value),Env 76 a [(0,vI p0),(1,v1_1),(2,vB p2),(7,u77),(10,vB j35),(21,v1_1),(22,(vI (p1.length : Int))),(23,vI s18.1),(56,u31),(57,(vI (x25.Data.length : Int))),(58,vI s76.1)] ∧ M (Old w0) w0 w [osl NoB (s76.2 : List UInt8) u77]) hl72 ⟨u19,hE.sub ⟨rfl,rfl,rfl,rfl,rfl,rfl,rfl,rfl,rfl,rfl,rfl,trivial⟩,hM⟩ ?_
     rintro s76 a w ⟨u77,hE,hM⟩ o81 hs79 hx80
     unfold Yu at hs79
     refine Zc (Zk hE rfl rfl rfl fun a hE=>Ze (wp_seq ?_))
     refine Zm hE rfl ?_ ?_
     ·intro hb82
      have hs79:=Zp hs79 hb82
      refine wp_skip (Zx (wp_seq (wp_block (Zc (Zd hE rfl ?_))))); intro a hE
      obtain ⟨x83,hi85,hs79⟩:=bix hs79
      refine ZD hE rfl rfl Try.underlying22 ty5 (hM.rd h32) hi85.1 fun a hE=>ZM (v:=(vB x83)) hE rfl ty5 rfl (Z4 (hM.rd h32) hi85.2) fun a hE=>Zb hE rfl fun a hE=>Zb hE rfl fun a hE=>Ze ?_
      obtain ⟨x87,hi89,hs79⟩:=bix hs79
      obtain ⟨r90,e91,hs79⟩:=bind_some hs79
      obtain ⟨x92,hi94,hs79⟩:=bix hs79
      refine Y4 [63,64,65,66,67,68,69,70,71,72] VC rfl rfl (by decide) rfl hE hM (qsP (fun z=>Zh z.E Za ld rfl (kr0 rfl)) (qsP (fun z=>Zh z.E Za ld rfl (kr0 rfl)) (qsP (fun z=>ZG z.E Za ld rfl rfl Try.underlying22 ty5 (z.M.sl (pre:=[]) noB) hi89.1 (kr0 rfl)) (qsP (fun z=>ZK (v:=(vB x87)) z.E Za ld rfl ty5 rfl (Z4 (z.M.sl (pre:=[]) noB) hi89.2) (kr0 rfl)) (qsP (fun z=>Zh z.E Za ld rfl (kr0 rfl)) (qsP (fun z=>Zh z.E Za ld rfl (kr0 rfl)) (qsP (fun z=>Zh z.E Za ld rfl (kr0 rfl)) (qsP (fun z=>Z1 z.E Za ld rfl H3 (Xd _ p0 x83 j35 r90 e91) (kc rfl)) (qsP (v:=(vB (x87 ^^^ r90))) (fun z=>Z2 z.E Za ld rfl rfl (U0 x87 r90) (kr0 rfl)) (qsP (fun z=>ZG z.E Za ld rfl rfl Try.underlying22 ty5 (z.M.sl (pre:=[]) noB) hi94.1 (kr0 rfl)) qs0)))))))))) ?_
      ·intro a w u hE hM
       refine UH (i:=(s76.1).toNat) (k0:=0) (seg:=[(vB (x87 ^^^ r90))]) (xo:=x92) (xn:=x87 ^^^ r90) hE hM Za rfl rfl rfl ty5 rfl (Flat.cell (x87 ^^^ r90 : UInt8)) hi94.2 (Tm (m:=1) rfl (by decide)) (ZX rfl) fun w a hM hE=>Zi (YK (Zx (wp_region_lit (Zk hE rfl rfl rfl fun a hE=>Zd hE rfl fun a hE=>Zi (Zj ?_)))))
       exact ⟨_,(ois hs79),u77,hE.sub ⟨rfl,rfl,rfl,rfl,rfl,rfl,rfl,rfl,rfl,rfl,rfl,trivial⟩,hM⟩
     ·intro hb82
      have hs79:=Zo hs79 hb82
      refine wp_exit (Zs (Zs (Y6 ?_)))
      obtain rfl:=hx80 _ (ois hs79)
      refine Zj ?_
      exact ⟨u77,hE.sub ⟨rfl,rfl,rfl,rfl,rfl,rfl,rfl,trivial⟩,hM⟩
    ·skip
     rintro a w ⟨u74,hE,hM⟩
     refine YK (Zx (wp_region_lit (Zk hE rfl rfl rfl fun a hE=>Zd hE rfl fun a hE=>Zi (Zj ?_))))
     exact ⟨_,(ois hF73),u74,hE.sub ⟨rfl,rfl,rfl,rfl,rfl,rfl,rfl,trivial⟩,hM⟩
  ·intro hb24
   have hs21:=Zo hs21 hb24
   refine wp_exit (Zs (Zs (Y6 ?_)))
   obtain rfl:=hx22 _ (ois hs21)
   refine Zj ?_
   exact ⟨u19,hE.sub ⟨rfl,trivial⟩,hM⟩
 ·skip
  rintro a w ⟨u16,hE,hM⟩
  refine Zx (Zc (Zd hE rfl fun a hE=>Zb hE rfl fun a hE=>Ze ?_))
  obtain rfl:=Option.some.inj hF15
  exact wp_ret (Y7 hE rfl (Zq hE rfl) ⟨_,rfl,u16,rfl,hM.outF (YG YP),hM.kept⟩)
def Vb (p0 : (List UInt8)) (p1 : (List UInt8)) : Option (Bool) :=
 some (decide ((⟨p0⟩ : Str) = (⟨p1⟩ : Str)))
theorem UV (w0 : World) (p0 : (List UInt8)) (v0_1 : Value) (hv0_1 : Ro w0 p0 [v0_1]) (p1 : (List UInt8)) (v1_1 : Value) (hv1_1 : Ro w0 p1 [v1_1]) (r : Bool) (hF : Vb p0 p1 = some r) :
  Calls Try.prog 83 [v0_1,v1_1].toArray w0 (Rt w0 (vT r)):=by
 refine ce Try.func83 ?_
 intro a hE
 have hM:=M.start w0
 unfold Vb at hF
 refine Zc (Zb hE rfl fun a hE=>Ze (Zc (Zd hE rfl fun a hE=>JO hE Za ld rfl Try.underlying22 Try.underlying5 Try.underlying9 (hM.rd hv0_1) fun a hE=>Zd hE rfl fun a hE=>JO hE Za ld rfl Try.underlying22 Try.underlying5 Try.underlying9 (hM.rd hv1_1) fun a hE=>s_eqS hE Za ld rfl rfl fun a hE=>Zb hE rfl fun a hE=>Ze ?_)))
 obtain rfl:=Option.some.inj hF
 exact wp_ret (kr1 hE rfl rfl hM.kept)
def Xr (p0 : Int) (p1 : (List GShare)) (p2 : Int) (s5 : Int) : Option (Fl Int (Fl Unit Bool)) :=
 if (decide (s5 < (p1.length : Int))) = true then (((slc p1 (0 : Int) p2).bind fun l14=>(idx p1 s5).bind fun x17=>(YD p0 l14 x17.Place).bind fun r25=>(idx p1 s5).bind fun x28=>(Vb r25 x28.Data).bind fun r36=>some (!r36) : Option (Bool)).bind fun j10=>if j10 = true then (some (Fl.ex (Fl.ex false))) else (some (Fl.nx (wr (s5 + 1))))) else (some (Fl.ex (Fl.nx ())))
def XJ (p0 : Int) (p1 : (List GShare)) (p2 : Int) : Option (Bool) :=
 (ZJ (Xr p0 p1 p2) p2).bind fun j1=>j1.el (fun s4=>some true) (fun r=>some r)
theorem Tc (w0 : World) (p0 : Int) (p1 : (List GShare)) (v1_1 : Value) (hv1_1 : Ro w0 p1 [v1_1]) (p2 : Int) (r : Bool) (hF : XJ p0 p1 p2 = some r) :
  Calls Try.prog 78 [vI p0,v1_1,vI p2].toArray w0 (Rt w0 (vT r)):=by
 refine ce Try.func78 ?_
 intro a hE
 have hM:=M.start w0
 unfold XJ at hF
 refine Zc (Zb hE rfl fun a hE=>Ze (wp_seq (Zc (Zd hE rfl fun a hE=>Zb hE rfl fun a hE=>Ze ?_))))
 obtain ⟨j1,hl2,hF3⟩:=bind_some hF
 refine Z6 (fun a w=>∃ s4 : Unit,j1 = Fl.nx s4 ∧ Env 32 a [] ∧ M (Old w0) w0 w []) ?_ ?_
 ·skip
  refine wp_block ?_
  refine ZO (fun (s5 : Int) a w=>Env 32 a [(0,vI p0),(1,v1_1),(2,vI p2),(7,vI s5)] ∧ M (Old w0) w0 w []) hl2 ⟨hE.sub ⟨rfl,rfl,rfl,rfl,trivial⟩,hM⟩ ?_
  rintro s5 a w ⟨hE,hM⟩ o8 hs6 hx7
  unfold Xr at hs6
  refine wp_seq (Zc (Zd hE rfl fun a hE=>Zd hE rfl fun a hE=>ZQ hE rfl Try.underlying27 (hM.rd hv1_1) fun a hE=>Zk hE rfl rfl rfl fun a hE=>Ze ?_))
  refine Zm hE rfl ?_ ?_
  ·intro hb9
   have hs6:=Zp hs6 hb9
   refine wp_skip (Zx (wp_seq (wp_block ?_)))
   obtain ⟨j10,hl11,hF12⟩:=bind_some hs6
   refine ZB (fun a w=>Env 32 a [(0,vI p0),(1,v1_1),(2,vI p2),(7,vI s5),(31,vT j10)] ∧ M (Old w0) w0 w []) ?_ ?_
   ·skip
    obtain ⟨l14,e15,hl11⟩:=bind_some hl11
    have h16 : Rep.sat (Old w0) w0 l14 [(XL v1_1 ((0 : Int)).toNat (p2).toNat 2)] []:=U3 hv1_1 e15 -- ^
    obtain ⟨x17,hi19,hl11⟩:=bix hl11
    obtain ⟨cs20,hs21,hA22⟩:=Yc hv1_1 hi19.2 -- ^
    obtain ⟨u23,rfl,h24⟩:=ZW hs21 -- ^
    obtain ⟨r25,e26,hl11⟩:=bind_some hl11
    obtain ⟨x28,hi30,hl11⟩:=bix hl11
    obtain ⟨cs31,hs32,hA33⟩:=Yc hv1_1 hi30.2 -- ^
    obtain ⟨u34,rfl,h35⟩:=ZW hs32 -- ^
    refine VL (its:=[]) (mk:=([mkO 9 (fun v=>osl NoB (r25 : List UInt8) v)] : Mk)) [15,16,17,18,19,20,21,22,23,24,25,26,27,28,29] VC rfl rfl (by decide) rfl hE (fun u=>M.qE (M.q0 hM.drew u) emO) (qsP (fun z=>Zh z.E Za ld rfl (kr0 rfl)) (qsP (fun z=>Zh z.E Za ld rfl (kr0 rfl)) (qsP (fun z=>Zh z.E Za ld rfl (kr0 rfl)) (qsP (v:=(XL v1_1 ((0 : Int)).toNat (p2).toNat 2)) ?_ (qsP (fun z=>Zh z.E Za ld rfl (kr0 rfl)) (qsP (fun z=>Zh z.E Za ld rfl (kr0 rfl)) (qsP (v:=(ptr (sb v1_1) (so v1_1 + (s5).toNat * 2))) ?_ (qsP (fun z=>Zv z.E Za ld rfl (Wn) (kr0 rfl)) (qsP (v:=(vB x17.Place)) ?_ (qsM (pr:=fun v=>True) ?_ (qsP (fun z=>Zh z.E Za ld rfl (kr0 rfl)) (qsP (fun z=>Zh z.E Za ld rfl (kr0 rfl)) (qsP (v:=(ptr (sb v1_1) (so v1_1 + (s5).toNat * 2))) ?_ (qsP (fun z=>Zv z.E Za ld rfl (YL) (kr0 rfl)) (qsP (v:=u34) ?_ qs0))))))))))))))) ?_
    ·intro a w ux13 D z
     have hE:=z.E
     have hM:=z.M
     exact Tw hE Za ld rfl rfl (Hg rfl) rfl rfl Try.underlying27 ZU (hM.rd hv1_1) e15 fun a hE=>⟨Kept.refl _ _,_,rfl,hE⟩
    ·intro a w ux13 D z
     have hE:=z.E
     have hM:=z.M
     exact ZD hE rfl rfl Try.underlying27 ZU (hM.rd hv1_1) hi19.1 fun a hE=>⟨Kept.refl _ _,_,rfl,hE⟩
    ·intro a w ux13 D z
     have hE:=z.E
     have hM:=z.M
     exact ZM (v:=(vB x17.Place)) hE rfl ty5 rfl (At.cat (pre:=[]) (hM.atk hA22 (YI hv1_1 hi19.2)) cl0) fun a hE=>⟨Kept.refl _ _,_,rfl,hE⟩
    ·intro a w ux13 D z
     have hE:=z.E
     have hD : D 9 = false:=z.F
     have hM0:=z.M
     have hM:=z.M
     refine Zl hE rfl (cbm Try.func128) (V6 _ p0 l14 (XL v1_1 ((0 : Int)).toNat (p2).toNat 2) (hM.rdo h16) x17.Place r25 e26) ?_
     rintro _ w a ⟨_,rfl,hFr,hK⟩ hE
     have hM:=hM0.add hK hFr
     exact ⟨_,_,rfl,hE,M.qFill (mk1:=[]) (mk2:=[]) (f:=(fun v=>osl NoB (r25 : List UInt8) v)) hM rfl hD,trivial⟩
    ·intro a w ux13 D z
     have hE:=z.E
     have hM:=z.M
     exact ZD hE rfl rfl Try.underlying27 ZU (hM.rd hv1_1) hi30.1 fun a hE=>⟨Kept.refl _ _,_,rfl,hE⟩
    ·intro a w ux13 D z
     have hE:=z.E
     have hM:=z.M
     exact ZM (v:=u34) hE rfl YS rfl (At.cat (pre:=[[vB x28.Place]]) (hM.atk hA33 (YI hv1_1 hi30.2)) ck) fun a hE=>⟨Kept.refl _ _,_,rfl,hE⟩
    ·intro a w ux13 D hE hM hG hall
     have d9:=hall 9 (by decide)
     have hM:=hM.sure (pre:=[]) d9
     obtain ⟨r36,e37,hl11⟩:=bind_some hl11
     refine Zl hE rfl cb83 (UV _ r25 (ux13 9) (hM.sl (pre:=[]) noB) x28.Data u34 (hM.rdo h35) r36 e37) ?_
     rintro v w a ⟨rfl,hK⟩ hE
     have hM:=hM.keep hK
     refine VW hE rfl fun a hE=>Zi ?_
     obtain rfl:=Option.some.inj hl11
     refine Zj ?_
     have hM:=M.fst (l:=[]) hM
     exact ⟨hE.sub ⟨rfl,rfl,rfl,rfl,rfl,trivial⟩,hM⟩
   ·skip
    rintro a w ⟨hE,hM⟩
    refine Zm hE rfl ?_ ?_
    ·intro hb39
     have hF12:=Zp hF12 hb39
     refine Zc (Zb hE rfl fun a hE=>Ze ?_)
     obtain rfl:=hx7 _ (ois hF12)
     obtain rfl:=Option.some.inj hF3
     exact wp_ret (Yh (Zr (Zr (Yh (Zr (Zr (kr1 hE rfl rfl hM.kept)))))))
    ·intro hb39
     have hF12:=Zo hF12 hb39
     refine wp_skip (YK (Zx (wp_region_lit (Zd hE rfl fun a hE=>Zk hE rfl rfl rfl fun a hE=>Zb hE rfl fun a hE=>Zi (Zj ?_)))))
     exact ⟨_,(ois hF12),hE.sub ⟨rfl,rfl,rfl,rfl,trivial⟩,hM⟩
  ·intro hb9
   have hs6:=Zo hs6 hb9
   refine wp_exit (Zs (Zs (Y6 ?_)))
   obtain rfl:=hx7 _ (ois hs6)
   refine Zj ?_
   exact ⟨(),rfl,hE.sub trivial,hM⟩
 ·skip
  rintro a w ⟨s4,ht,hE,hM⟩
  subst ht
  have hF3:=VV hF3
  refine Zx (Zc (Zb hE rfl fun a hE=>Ze ?_))
  obtain rfl:=Option.some.inj hF3
  exact wp_ret (kr1 hE rfl rfl hM.kept)
def YM (p0 : Int) (p1 : (List GShare)) (p2 : Int) (p3 : UInt8) : Option ((List UInt8) × Int) :=
 (Yg p1).bind fun r1=>if (decide (r1 < p2)) = true then (some ([],4)) else ((XJ p0 p1 p2).bind fun r5=>if (!r5) = true then (some ([],5)) else ((slc p1 (0 : Int) p2).bind fun l9=>(YD p0 l9 p3).bind fun r12=>some (r12,0)))
theorem Ui (w0 : World) (p0 : Int) (p1 : (List GShare)) (v1_1 : Value) (hv1_1 : Ro w0 p1 [v1_1]) (p2 : Int) (p3 : UInt8) (r : (List UInt8) × Int) (hF : YM p0 p1 p2 p3 = some r) :
  Calls Try.prog 65 [vI p0,v1_1,vI p2,vB p3].toArray w0 (fun en w'=>∃ v,en = .returned v ∧ (∃ (y1 : Value),v = (Value.tuple [y1,vI r.2].toArray) ∧ Fr w0 w' [osl NoB (r.1 : List UInt8) y1] ∧ Kept (Old w0) w0 w')):=by
 refine ce Try.func65 ?_
 intro a hE
 have hM:=M.start w0
 unfold YM at hF
 refine Zc (Zb hE rfl fun a hE=>Zb hE rfl fun a hE=>Ze (wp_seq (wp_block (Zc (Zd hE rfl ?_))))); intro a hE
 obtain ⟨r1,e2,hF⟩:=bind_some hF
 refine Zl hE rfl cb66 (Wo _ p1 v1_1 (hM.rdo hv1_1) r1 e2) ?_
 rintro v w a ⟨rfl,hK⟩ hE
 have hM:=hM.keep hK
 refine Zd hE rfl fun a hE=>Zk hE rfl rfl rfl fun a hE=>Zb hE rfl fun a hE=>Ze ?_
 refine Zm hE rfl ?_ ?_
 ·intro hb3
  have hF:=Zp hF hb3
  refine Zc (Zb hE rfl fun a hE=>Zb hE rfl fun a hE=>Ze ?_)
  have hM:=M.nilS (α:=UInt8) NoB noB hM
  obtain rfl:=Option.some.inj hF
  exact wp_ret (Yh (Zr (Yr hE rfl (Zq hE rfl) (Zq hE rfl) ⟨_,rfl,(Value.slice none 0 0),rfl,hM.outF (YG YP),hM.kept⟩)))
 ·intro hb3
  have hF:=Zo hF hb3
  refine Zc (Zd hE rfl fun a hE=>Zd hE rfl fun a hE=>Zd hE rfl ?_); intro a hE
  obtain ⟨r5,e6,hF⟩:=bind_some hF
  refine Zl hE rfl (cbm Try.func78) (Tc _ p0 p1 v1_1 (hM.rdo hv1_1) p2 r5 e6) ?_
  rintro v w a ⟨rfl,hK⟩ hE
  have hM:=hM.keep hK
  refine VW hE rfl fun a hE=>Zb hE rfl fun a hE=>Ze ?_
  refine Zm hE rfl ?_ ?_
  ·intro hb7
   have hF:=Zp hF hb7
   refine Zc (Zb hE rfl fun a hE=>Zb hE rfl fun a hE=>Ze ?_)
   have hM:=M.nilS (α:=UInt8) NoB noB hM
   obtain rfl:=Option.some.inj hF
   exact wp_ret (Yh (Zr (Yr hE rfl (Zq hE rfl) (Zq hE rfl) ⟨_,rfl,(Value.slice none 0 0),rfl,hM.outF (YG YP),hM.kept⟩)))
  ·intro hb7
   have hF:=Zo hF hb7
   refine wp_skip (YK (Zx (Zc (Zd hE rfl fun a hE=>Zd hE rfl fun a hE=>Zd hE rfl ?_)))); intro a hE
   obtain ⟨l9,e10,hF⟩:=bind_some hF
   refine Tw hE Za ld rfl rfl rfl rfl rfl Try.underlying27 ZU (hM.rd hv1_1) e10 ?_; intro a hE
   have h11 : Rep.sat (Old w0) w0 l9 [(XL v1_1 ((0 : Int)).toNat (p2).toNat 2)] []:=U3 hv1_1 e10 -- ^
   refine Zd hE rfl ?_; intro a hE
   obtain ⟨r12,e13,hF⟩:=bind_some hF
   refine Zl hE rfl (cbm Try.func128) (V6 _ p0 l9 (XL v1_1 ((0 : Int)).toNat (p2).toNat 2) (hM.rdo h11) p3 r12 e13) ?_
   rintro u14 w a ⟨_,rfl,hFr,hK⟩ hE
   have hM:=hM.add hK hFr
   refine Zb hE rfl fun a hE=>Zb hE rfl fun a hE=>Ze ?_
   obtain rfl:=Option.some.inj hF
   exact wp_ret (Yr hE rfl (Zq hE rfl) (Zq hE rfl) ⟨_,rfl,u14,rfl,hM.outF (YG YP),hM.kept⟩)
def Yn (p0 : Int) (p1 : (List GShare)) (p2 : Int) : Option ((List UInt8) × Int) :=
 (Z3 p0 p1 p2).bind fun r1=>if (r1 != 0) = true then (some ([],r1)) else ((YM p0 p1 p2 0).bind fun r5=>some (r5.1,r5.2))
theorem WS (w0 : World) (p0 : Int) (p1 : (List GShare)) (v1_1 : Value) (hv1_1 : Ro w0 p1 [v1_1]) (p2 : Int) (r : (List UInt8) × Int) (hF : Yn p0 p1 p2 = some r) :
  Calls Try.prog 11 [vI p0,v1_1,vI p2].toArray w0 (fun en w'=>∃ v,en = .returned v ∧ (∃ (y1 : Value),v = (Value.tuple [y1,vI r.2].toArray) ∧ Fr w0 w' [osl NoB (r.1 : List UInt8) y1] ∧ Kept (Old w0) w0 w')):=by
 refine ce Try.func11 ?_
 intro a hE
 have hM:=M.start w0
 unfold Yn at hF
 refine Zc (Zb hE rfl fun a hE=>Zb hE rfl fun a hE=>Ze (wp_seq (Zc (Zd hE rfl fun a hE=>Zd hE rfl fun a hE=>Zd hE rfl ?_)))); intro a hE
 obtain ⟨r1,e2,hF⟩:=bind_some hF
 refine Zl hE rfl cb64 (Xc _ p0 p1 v1_1 (hM.rdo hv1_1) p2 r1 e2) ?_
 rintro v w a ⟨rfl,hK⟩ hE
 have hM:=hM.keep hK
 refine Zb hE rfl fun a hE=>Ze (Zc (Zd hE rfl fun a hE=>Zk hE rfl rfl rfl fun a hE=>Ze ?_))
 refine Zm hE rfl ?_ ?_
 ·intro hb3
  have hF:=Zp hF hb3
  refine Zc (Zd hE rfl fun a hE=>Zb hE rfl fun a hE=>Zb hE rfl fun a hE=>Ze ?_)
  have hM:=M.nilS (α:=UInt8) NoB noB hM
  obtain rfl:=Option.some.inj hF
  exact wp_ret (Zr (Yr hE rfl (Zq hE rfl) (Zq hE rfl) ⟨_,rfl,(Value.slice none 0 0),rfl,hM.outF (YG YP),hM.kept⟩))
 ·intro hb3
  have hF:=Zo hF hb3
  refine wp_skip (Zx (Zc (Zd hE rfl fun a hE=>Zd hE rfl fun a hE=>Zd hE rfl ?_))); intro a hE
  obtain ⟨r5,e6,hF⟩:=bind_some hF
  refine Zl hE rfl (cbm Try.func65) (Ui _ p0 p1 v1_1 (hM.rdo hv1_1) p2 0 r5 e6) ?_
  rintro v w a ⟨u7,rfl,hFr,hK⟩ hE
  have hM:=hM.add hK hFr
  refine Zw hE Za ld rfl rfl fun a hE=>Zw hE Za ld rfl rfl fun a hE=>Zb hE rfl fun a hE=>Zb hE rfl fun a hE=>Ze ?_
  obtain rfl:=Option.some.inj hF
  exact wp_ret (Yr hE rfl (Zq hE rfl) (Zq hE rfl) ⟨_,rfl,u7,rfl,hM.outF (YG YP),hM.kept⟩)
def XQ (p0 : GShare) : Option (Bool) :=
 (WJ p0).bind fun r3=>some (!r3)
theorem Qv (w0 : World) (p0 : GShare) (v0_1 : Value) (hv0_1 : Ro w0 p0.Data [v0_1]) (r : Bool) (hF : XQ p0 = some r) :
  Calls Try.prog 68 [(Value.agg (cat [[vB p0.Place],[v0_1]]).toArray)].toArray w0 (Rt w0 (vT r)):=by
 refine ce Try.func68 ?_
 intro a hE
 have hM:=M.start w0
 unfold XQ at hF
 refine Zc (Q3 (cs:=cat [[vB p0.Place],[v0_1]]) hE hM Za ld rfl rfl fun b1 w a hM hE=>Zb hE rfl fun a hE=>Ze (Zc (Ue hE rfl ZU rfl hM.rawAt0 cq ?_))); intro a hE
 obtain ⟨r3,e4,hF⟩:=bind_some hF
 refine Zl hE rfl (cbm Try.func69) (T3 _ p0 v0_1 (hM.rdo hv0_1) r3 e4) ?_
 rintro v w a ⟨rfl,hK⟩ hE
 have hM:=hM.keep hK
 refine VW hE rfl fun a hE=>Zb hE rfl fun a hE=>Ze ?_
 obtain rfl:=Option.some.inj hF
 exact wp_ret (kr1 hE rfl rfl hM.kept)
def XI (p0 : (List GShare)) : Option (Bool) :=
 ((Yg p0).bind fun r4=>(YU r4 1 12).bind fun r6=>if r6 = true then ((Zy p0 (fun z0=>XQ z0)).bind fun r9=>if (!r9) = true then ((Z7 p0).bind fun r12=>(Yz r12).bind fun r15=>if r15 = true then ((WC p0).bind fun r18=>some r18) else (some false)) else (some false)) else (some false) : Option (Bool)).bind fun j1=>some j1
theorem Ta (w0 : World) (p0 : (List GShare)) (v0_1 : Value) (hv0_1 : Ro w0 p0 [v0_1]) (r : Bool) (hF : XI p0 = some r) :
  Calls Try.prog 13 [v0_1].toArray w0 (Rt w0 (vT r)):=by
 refine ce Try.func13 ?_
 intro a hE
 have hM:=M.start w0
 unfold XI at hF
 refine Zc (Zb hE rfl fun a hE=>Ze ?_)
 obtain ⟨j1,hl2,hF3⟩:=bind_some hF
 refine ZB (fun a w=>Env 20 a [(2,vT j1)] ∧ M (Old w0) w0 w []) ?_ ?_
 ·skip
  refine wp_region_lit (Zd hE rfl ?_); intro a hE
  obtain ⟨r4,e5,hl2⟩:=bind_some hl2
  refine Zl hE rfl cb66 (Wo _ p0 v0_1 (hM.rdo hv0_1) r4 e5) ?_
  rintro v w a ⟨rfl,hK⟩ hE
  have hM:=hM.keep hK
  obtain ⟨r6,e7,hl2⟩:=bind_some hl2
  refine Zl hE rfl cb56 (Vr _ r4 1 12 r6 e7) ?_
  rintro v w a ⟨rfl,hK⟩ hE
  have hM:=hM.keep hK
  refine Zd hE rfl ?_; intro a hE
  refine ZZ r6 (fun hb8=>?_) (fun hb8=>?_)
  ·have hl2:=Zp hl2 hb8
   refine Zh hE (Zf hE rfl (lkb rfl hb8)) (by decide) rfl ?_; intro a hE
   obtain ⟨r9,e10,hl2⟩:=bind_some hl2
   refine Z1 hE (Zf hE rfl (lkb rfl hb8)) (by decide) rfl cb67 (Ya _ p0 v0_1 (hM.rdo hv0_1) (fun z0=>XQ z0) 68 [] (cbm Try.func68) (fun w2 hk2 z0 zu0_0 zh0_0 zr zhr=>Qv w2 z0 zu0_0 zh0_0 zr zhr) r9 e10) ?_
   rintro v w a ⟨rfl,hK⟩ hE
   have hM:=hM.keep hK
   refine V7 hE (Zf hE rfl (lkb rfl hb8)) (by decide) rfl fun a hE=>ZC hE (lkb rfl hb8) rfl fun a hE=>Zd hE rfl ?_; intro a hE
   refine ZZ (!r9) (fun hb11=>?_) (fun hb11=>?_)
   ·have hl2:=Zp hl2 hb11
    refine Zh hE (Zf hE rfl (lkb rfl hb11)) (by decide) rfl ?_; intro a hE
    obtain ⟨r12,e13,hl2⟩:=bind_some hl2
    refine Z1 hE (Zf hE rfl (lkb rfl hb11)) (by decide) rfl BF (Xt _ p0 v0_1 (hM.rdo hv0_1) r12 e13) ?_
    rintro u14 w a ⟨_,rfl,hFr,hK⟩ hE
    have hM:=hM.add hK hFr
    obtain ⟨r15,e16,hl2⟩:=bind_some hl2
    refine Z1 hE (Zf hE rfl (lkb rfl hb11)) (by decide) rfl cb70 (VE _ r12 u14 (hM.sl (pre:=[]) noB) r15 e16) ?_
    rintro v w a ⟨rfl,hK⟩ hE
    have hM:=hM.keep hK
    refine ZC hE (lkb rfl hb11) rfl fun a hE=>Zd hE rfl ?_; intro a hE
    refine ZZ r15 (fun hb17=>?_) (fun hb17=>?_)
    ·have hl2:=Zp hl2 hb17
     refine Zh hE (Zf hE rfl (lkb rfl hb17)) (by decide) rfl ?_; intro a hE
     obtain ⟨r18,e19,hl2⟩:=bind_some hl2
     refine Z1 hE (Zf hE rfl (lkb rfl hb17)) (by decide) rfl (cbm Try.func72) (TL _ p0 v0_1 (hM.rdo hv0_1) r18 e19) ?_
     rintro v w a ⟨rfl,hK⟩ hE
     have hM:=hM.keep hK
     refine ZC hE (lkb rfl hb17) rfl fun a hE=>Zb hE rfl fun a hE=>Zi ?_
     obtain rfl:=Option.some.inj hl2
     refine Zj ?_
     have hM:=M.fst (l:=[]) hM
     exact ⟨hE.sub ⟨rfl,trivial⟩,hM⟩
    ·have hl2:=Zo hl2 hb17
     refine Zg hE rfl (lkb rfl hb17) rfl (by decide) fun a hE=>Zg hE rfl (lkb rfl hb17) rfl (by decide) fun a hE=>ZL hE (lkb rfl hb17) rfl fun a hE=>Zb hE rfl fun a hE=>Zi ?_
     obtain rfl:=Option.some.inj hl2
     refine Zj ?_
     have hM:=M.fst (l:=[]) hM
     exact ⟨hE.sub ⟨rfl,trivial⟩,hM⟩
   ·have hl2:=Zo hl2 hb11
    refine Zg hE rfl (lkb rfl hb11) rfl (by decide) fun a hE=>Zg hE rfl (lkb rfl hb11) rfl (by decide) fun a hE=>Zg hE rfl (lkb rfl hb11) rfl (by decide) fun a hE=>ZL hE (lkb rfl hb11) rfl fun a hE=>Zd hE rfl fun a hE=>Zg hE rfl rfl rfl (by decide) fun a hE=>Zg hE rfl rfl rfl (by decide) fun a hE=>ZL hE rfl rfl fun a hE=>Zb hE rfl fun a hE=>Zi ?_
    obtain rfl:=Option.some.inj hl2
    refine Zj ?_
    exact ⟨hE.sub ⟨rfl,trivial⟩,hM⟩
  ·have hl2:=Zo hl2 hb8
   refine Zg hE rfl (lkb rfl hb8) rfl (by decide) fun a hE=>Zg hE rfl (lkb rfl hb8) rfl (by decide) fun a hE=>Zg hE rfl (lkb rfl hb8) rfl (by decide) fun a hE=>ZL hE (lkb rfl hb8) rfl fun a hE=>Zd hE rfl fun a hE=>Zg hE rfl rfl rfl (by decide) fun a hE=>Zg hE rfl rfl rfl (by decide) fun a hE=>Zg hE rfl rfl rfl (by decide) fun a hE=>ZL hE rfl rfl fun a hE=>Zd hE rfl fun a hE=>Zg hE rfl rfl rfl (by decide) fun a hE=>Zg hE rfl rfl rfl (by decide) ?_; intro a hE
   refine ZL hE rfl rfl fun a hE=>Zb hE rfl fun a hE=>Zi ?_
   obtain rfl:=Option.some.inj hl2
   refine Zj ?_
   exact ⟨hE.sub ⟨rfl,trivial⟩,hM⟩
 ·skip
  rintro a w ⟨hE,hM⟩
  obtain rfl:=Option.some.inj hF3
  exact wp_ret (kr1 hE rfl rfl hM.kept)
def Vm (p0 : Int) (p1 : (List UInt8)) (p2 : UInt8) : Option (UInt8 × Int) :=
 (XN p0).bind fun r1=>if (!r1) = true then (some (0,1)) else (if (decide ((p1.length : Int) > 40)) = true then (some (0,2)) else ((Xb p0 p1 p2).bind fun r5=>some (r5,0)))
theorem Jl (w0 : World) (p0 : Int) (p1 : (List UInt8)) (v1_1 : Value) (hv1_1 : Ro w0 p1 [v1_1]) (p2 : UInt8) (r : UInt8 × Int) (hF : Vm p0 p1 p2 = some r) :
  Calls Try.prog 14 [vI p0,v1_1,vB p2].toArray w0 (Rt w0 (Value.tuple [vB r.1,vI r.2].toArray)):=by
 refine ce Try.func14 ?_
 intro a hE
 have hM:=M.start w0
 unfold Vm at hF
 refine Zc (Zb hE rfl fun a hE=>Zb hE rfl fun a hE=>Ze (wp_seq (wp_block (Zc (Zd hE rfl ?_))))); intro a hE
 obtain ⟨r1,e2,hF⟩:=bind_some hF
 refine Zl hE rfl cb54 (UD _ p0 r1 e2) ?_
 rintro v w a ⟨rfl,hK⟩ hE
 have hM:=hM.keep hK
 refine VW hE rfl fun a hE=>Zb hE rfl fun a hE=>Ze ?_
 refine Zm hE rfl ?_ ?_
 ·intro hb3
  have hF:=Zp hF hb3
  refine Zc (Zb hE rfl fun a hE=>Zb hE rfl fun a hE=>Ze ?_)
  obtain rfl:=Option.some.inj hF
  exact wp_ret (Yh (Zr (Yr hE rfl (Zq hE rfl) (Zq hE rfl) ⟨_,rfl,rfl,hM.kept⟩)))
 ·intro hb3
  have hF:=Zo hF hb3
  refine Zc (Zd hE rfl fun a hE=>ZQ hE rfl Try.underlying22 (hM.rd hv1_1) fun a hE=>Zk hE rfl rfl rfl fun a hE=>Zb hE rfl fun a hE=>Ze ?_)
  refine Zm hE rfl ?_ ?_
  ·intro hb4
   have hF:=Zp hF hb4
   refine Zc (Zb hE rfl fun a hE=>Zb hE rfl fun a hE=>Ze ?_)
   obtain rfl:=Option.some.inj hF
   exact wp_ret (Yh (Zr (Yr hE rfl (Zq hE rfl) (Zq hE rfl) ⟨_,rfl,rfl,hM.kept⟩)))
  ·intro hb4
   have hF:=Zo hF hb4
   refine wp_skip (YK (Zx (Zc (Zd hE rfl fun a hE=>Zd hE rfl fun a hE=>Zd hE rfl ?_)))); intro a hE
   obtain ⟨r5,e6,hF⟩:=bind_some hF
   refine Zl hE rfl (cbm Try.func73) (UC _ p0 p1 v1_1 (hM.rdo hv1_1) p2 r5 e6) ?_
   rintro v w a ⟨rfl,hK⟩ hE
   have hM:=hM.keep hK
   refine Zb hE rfl fun a hE=>Zb hE rfl fun a hE=>Ze ?_
   obtain rfl:=Option.some.inj hF
   exact wp_ret (Yr hE rfl (Zq hE rfl) (Zq hE rfl) ⟨_,rfl,rfl,hM.kept⟩)
def VN (p0_0 : (List UInt8)) (r3 : (Int × Int) × Int) (r5 : (Int × Int) × (List UInt8)) (s15 : Int × Int × (List (List UInt8)) × Int) : Option (Fl (Int × Int × (List (List UInt8)) × Int) (Int × Int × (List (List UInt8)))) :=
 if (decide (s15.2.2.2 < (wr (1 + r3.2)))) = true then ((XD p0_0 (s15.1,s15.2.1) (r5.2.length : Int)).bind fun r22=>(app 24 s15.2.2.1 ([r22.2] : List (List UInt8))).bind fun l28=>some (Fl.nx (r22.1.1,r22.1.2,(s15.2.2.1 ++ ([r22.2] : List (List UInt8))),wr (s15.2.2.2 + 1)))) else (some (Fl.ex (s15.1,s15.2.1,s15.2.2.1)))
def Vv (p0_0 : (List UInt8)) (p0 : (Int × Int)) (p1 : Int) : Option ((Int × Int) × Int × (List GShare) × Int) :=
 (Y0 p0_0 (p0.1,p0.2)).bind fun r1=>(Zz p0_0 (r1.1.1,r1.1.2) 4).bind fun r3=>(Y1 p0_0 (r3.1.1,r3.1.2) 6).bind fun r5=>(ZJ (VN p0_0 r3 r5) (r5.1.1,r5.1.2,([] : List (List UInt8)),1)).bind fun j10=>(Zz p0_0 (j10.1,j10.2.1) p1).bind fun r34=>(ZR p0_0 (r34.1.1,r34.1.2) ([wr (1 + r3.2),wr ((wr (1 + r3.2)) + 1),wr ((wr (1 + r3.2)) + 2),wr (1 + r34.2)] : List Int)).bind fun r38=>(YQ p0_0 (r38.1.1,r38.1.2) r38.2).bind fun r40=>((Wa r40.2).bind fun r48=>if r48 = true then (some ([1,2,3,4,5] : List UInt8)) else (some r40.2) : Option ((List UInt8))).bind fun j43=>(if (decide ((j43.length : Int) > p1)) = true then ((slc j43 (0 : Int) p1).bind fun l61=>some l61) else (some j43) : Option ((List UInt8))).bind fun j55=>(WF r1.2 r5.2 j10.2.2 j55).bind fun r66=>some ((r40.1.1,r40.1.2),r1.2,r66,wr (1 + r3.2))
theorem Ji (St : Nat → Prop) (W w0 : World) (R : Item) (pb0 : Nat) (p0_0 : (List UInt8)) (v0_0 : Value) (hv0_0 : Rep.sat St W p0_0 [v0_0] []) (p0 : (Int × Int)) (p1 : Int) (hM : M St W w0 [raw pb0 (cat [[v0_0],[vI p0.1],[(Value.int .u64 p0.2)]]),R]) (r : (Int × Int) × Int × (List GShare) × Int) (hF : Vv p0_0 p0 p1 = some r) :
  Calls Try.prog 133 [(ptr pb0 0),vI p1].toArray w0 (fun en w'=>∃ v,en = .returned v ∧ (∃ (y1 : Value),v = (Value.tuple [vI r.2.1,y1,vI r.2.2.2].toArray) ∧ M St W w' [raw pb0 (cat [[v0_0],[vI r.1.1],[(Value.int .u64 r.1.2)]]),osl NoB (r.2.2.1 : List GShare) y1,R])):=by
 refine ce Try.func133 ?_
 intro a hE
 unfold Vv at hF
 refine Zc (Zb hE rfl fun a hE=>Zb hE rfl fun a hE=>Zb hE rfl fun a hE=>Ze (Zc (Zd hE rfl ?_))); intro a hE
 have hM:=M.tailP (m:=[_]) hM
 obtain ⟨r1,e2,hF⟩:=bind_some hF
 refine Zl hE rfl (cbm Try.func119) (Ur _ _ _ _ pb0 p0_0 v0_0 hv0_0 (p0.1,p0.2) hM r1 e2) ?_
 rintro v w a ⟨rfl,hM⟩ hE
 have hM:=M.tailU (m:=[_]) hM
 simp only [List.cons_append,List.nil_append] at hM
 refine Zd hE rfl ?_; intro a hE
 have hM:=M.tailP (m:=[_]) hM
 obtain ⟨r3,e4,hF⟩:=bind_some hF
 refine Zl hE rfl UW (ZI _ _ _ _ pb0 p0_0 v0_0 hv0_0 (r1.1.1,r1.1.2) 4 hM r3 e4) ?_
 rintro v w a ⟨rfl,hM⟩ hE
 have hM:=M.tailU (m:=[_]) hM
 simp only [List.cons_append,List.nil_append] at hM
 refine Zk hE rfl rfl rfl fun a hE=>Zb hE rfl fun a hE=>Zb hE rfl fun a hE=>Ze (Zc (Zd hE rfl ?_)); intro a hE
 have hM:=M.tailP (m:=[_]) hM
 obtain ⟨r5,e6,hF⟩:=bind_some hF
 refine Zl hE rfl (cbm Try.func48) (Us _ _ _ _ pb0 p0_0 v0_0 hv0_0 (r3.1.1,r3.1.2) 6 hM r5 e6) ?_
 rintro u7 w a ⟨_,rfl,hM⟩ hE
 have hM:=M.tailU (m:=[_,_]) hM
 simp only [List.cons_append,List.nil_append] at hM
 refine US (xs:=[]) (S:=NoB) (l:=([] : List (List UInt8))) (vs:=[]) hE hM.emp noB Za ld rfl rfl rfl Try.underlying24 YS rfl (by decide) (fun _ h=>⟨rfl,h⟩) (fun _ h=>by cases h) fun u8 w a hM hE=>Zb hE rfl fun a hE=>Zb hE rfl fun a hE=>Ze (wp_seq (Zc (Zb hE rfl fun a hE=>Ze ?_)))
 obtain ⟨j10,hl11,hF12⟩:=bind_some hF
 refine Z6 (fun a w=>∃ (u13 : Value),Env 64 a [(0,(ptr pb0 0)),(1,vI p1),(7,vI r1.2),(8,(vI (wr (1 + r3.2)))),(9,u7),(10,u13)] ∧ M St W w [raw pb0 (cat [[v0_0],[vI j10.1],[(Value.int .u64 j10.2.1)]]),osl NoB (r5.2 : List UInt8) u7,R,osl NoB (j10.2.2 : List (List UInt8)) u13]) ?_ ?_
 ·skip
  refine wp_block ?_
  have hM:=hM.pull3.pull3.pull3
  refine ZO (fun (s15 : Int × Int × (List (List UInt8)) × Int) a w=>∃ (u16 : Value),Env 64 a [(0,(ptr pb0 0)),(1,vI p1),(7,vI r1.2),(8,(vI (wr (1 + r3.2)))),(9,u7),(10,u16),(11,vI s15.2.2.2)] ∧ M St W w [raw pb0 (cat [[v0_0],[vI s15.1],[(Value.int .u64 s15.2.1)]]),osl NoB (r5.2 : List UInt8) u7,R,osl NoB (s15.2.2.1 : List (List UInt8)) u16]) hl11 ⟨u8,hE.sub ⟨rfl,rfl,rfl,rfl,rfl,rfl,rfl,trivial⟩,hM⟩ ?_
  rintro s15 a w ⟨u16,hE,hM⟩ o20 hs18 hx19
  unfold VN at hs18
  refine wp_seq (Zc (Zd hE rfl fun a hE=>Zd hE rfl fun a hE=>Zk hE rfl rfl rfl fun a hE=>Ze ?_))
  refine Zm hE rfl ?_ ?_
  ·intro hb21
   have hs18:=Zp hs18 hb21
   refine wp_skip (Zx (wp_seq (wp_block (wp_region_lit (Zd hE rfl fun a hE=>Zd hE rfl fun a hE=>Zd hE rfl fun a hE=>ZQ hE rfl Try.underlying22 (hM.sl (pre:=[_]) noB) ?_))))); intro a hE
   have hM:=M.tailP (m:=[_]) hM
   obtain ⟨r22,e23,hs18⟩:=bind_some hs18
   refine Zl hE rfl (cbm Try.func51) (Th _ _ _ _ pb0 p0_0 v0_0 hv0_0 (s15.1,s15.2.1) (r5.2.length : Int) hM r22 e23) ?_
   rintro u24 w a ⟨_,rfl,hM⟩ hE
   have hM:=M.tailU (m:=[_,_]) hM
   simp only [List.cons_append,List.nil_append] at hM
   have hc27:=WD (hM.sl (pre:=[_]) noB)
   have hM:=hM.pull1
   have hM:=hM.pack1 (it:=own NoB r22.2 ([u24])) (Vh noB) (fun f0 q0=>(X2.sat q0))
   refine U5 (xs:=[.tmp 30]) (seg:=[u24]) hE hM noB Za ld rfl hc27 Try.underlying24 YS rfl (by decide) ?_; intro u25 w a hM hE
   obtain ⟨l28,e29,hs18⟩:=bind_some hs18
   obtain ⟨e32,rfl⟩:=Yi e29
   have hM:=hM.pull4
   refine UA hE hM noB Za ld rfl rfl Try.underlying24 YS rfl (by decide) e32 fun u30 w a hM hE=>Zb hE rfl fun a hE=>Zi (YK (Zx (wp_region_lit (Zd hE rfl fun a hE=>Zk hE rfl rfl rfl fun a hE=>Zb hE rfl fun a hE=>Zi (Zj ?_)))))
   have hM:=hM.pull3.pull3.pull3
   exact ⟨_,(ois hs18),u30,hE.sub ⟨rfl,rfl,rfl,rfl,rfl,rfl,rfl,trivial⟩,hM⟩
  ·intro hb21
   have hs18:=Zo hs18 hb21
   refine wp_exit (Zs (Zs (Y6 ?_)))
   obtain rfl:=hx19 _ (ois hs18)
   refine Zj ?_
   exact ⟨u16,hE.sub ⟨rfl,rfl,rfl,rfl,rfl,rfl,trivial⟩,hM⟩
 ·skip
  rintro a w ⟨u13,hE,hM⟩
  refine Zx (Zc (Zd hE rfl fun a hE=>Zd hE rfl fun a hE=>Zd hE rfl fun a hE=>Zd hE rfl fun a hE=>Zk hE rfl rfl rfl fun a hE=>Zd hE rfl fun a hE=>Zk hE rfl rfl rfl fun a hE=>Zd hE rfl fun a hE=>Zd hE rfl ?_)); intro a hE
  have hM:=M.tailP (m:=[_]) hM
  obtain ⟨r34,e35,hF12⟩:=bind_some hF12
  refine Zl hE rfl UW (ZI _ _ _ _ pb0 p0_0 v0_0 hv0_0 (j10.1,j10.2.1) p1 hM r34 e35) ?_
  rintro v w a ⟨rfl,hM⟩ hE
  have hM:=M.tailU (m:=[_]) hM
  simp only [List.cons_append,List.nil_append] at hM
  refine Zk hE rfl rfl rfl fun a hE=>ZE (xs:=[.tmp 35,.tmp 37,.tmp 39,.tmp 43]) (l:=([wr (1 + r3.2),wr ((wr (1 + r3.2)) + 1),wr ((wr (1 + r3.2)) + 2),wr (1 + r34.2)] : List Int)) (vs:=[(vI (wr (1 + r3.2))),(vI (wr ((wr (1 + r3.2)) + 1))),(vI (wr ((wr (1 + r3.2)) + 2))),(vI (wr (1 + r34.2)))]) hE hM Za ld rfl rfl Try.underlying138 ty2 rfl (by decide) rfl ?_; intro u36 w a hM hE
  have hM:=M.tailP (m:=[_,_]) hM.pull1
  obtain ⟨r38,e39,hF12⟩:=bind_some hF12
  refine Zl hE rfl Kk (Z9 _ _ _ _ pb0 p0_0 v0_0 hv0_0 (r34.1.1,r34.1.2) ([wr (1 + r3.2),wr ((wr (1 + r3.2)) + 1),wr ((wr (1 + r3.2)) + 2),wr (1 + r34.2)] : List Int) u36 hM r38 e39) ?_
  rintro v w a ⟨rfl,hM⟩ hE
  have hM:=M.tailU (m:=[_,_]) hM
  simp only [List.cons_append,List.nil_append] at hM
  have hM:=M.tailP (m:=[_]) hM
  obtain ⟨r40,e41,hF12⟩:=bind_some hF12
  refine Zl hE rfl (cbm Try.func53) (Um _ _ _ _ pb0 p0_0 v0_0 hv0_0 (r38.1.1,r38.1.2) r38.2 hM r40 e41) ?_
  rintro u42 w a ⟨_,rfl,hM⟩ hE
  have hM:=M.tailU (m:=[_,_]) hM
  simp only [List.cons_append,List.nil_append] at hM
  refine Zb hE rfl fun a hE=>Ze ?_
  obtain ⟨j43,hl44,hF45⟩:=bind_some hF12
  refine ZB (fun a w=>∃ (u46 : Value),Env 64 a [(1,vI p1),(7,vI r1.2),(8,(vI (wr (1 + r3.2)))),(9,u7),(10,u13),(12,u46)] ∧ M St W w [raw pb0 (cat [[v0_0],[vI r40.1.1],[(Value.int .u64 r40.1.2)]]),osl NoB (r5.2 : List UInt8) u7,R,osl NoB (j10.2.2 : List (List UInt8)) u13,osl NoB (j43 : List UInt8) u46]) ?_ ?_
  ·skip
   refine Zc (Zd hE rfl ?_); intro a hE
   obtain ⟨r48,e49,hl44⟩:=bind_some hl44
   refine Zl hE rfl (cbm Try.func62) (TA _ r40.2 u42 (hM.sl (pre:=[_]) noB) r48 e49) ?_
   rintro v w a ⟨rfl,hK⟩ hE
   have hM:=hM.keep hK
   refine Ze ?_
   refine Zm hE rfl ?_ ?_
   ·intro hb50
    have hl44:=Zp hl44 hb50
    refine wp_region_lit (ZE (xs:=[.const (vB 1),.const (vB 2),.const (vB 3),.const (vB 4),.const (vB 5)]) (l:=([1,2,3,4,5] : List UInt8)) (vs:=[vB 1,vB 2,vB 3,vB 4,vB 5]) hE hM Za ld rfl rfl Try.underlying22 ty5 rfl (by decide) rfl fun u51 w a hM hE=>Zb hE rfl fun a hE=>Zi ?_)
    obtain rfl:=Option.some.inj hl44
    refine Zj ?_
    have hM:=((hM.pull6.pull6.pull6.pull4.pull6).drop.pull5).drop
    exact ⟨u51,hE.sub ⟨rfl,rfl,rfl,rfl,rfl,rfl,trivial⟩,hM⟩
   ·intro hb50
    have hl44:=Zo hl44 hb50
    refine wp_skip ?_
    obtain rfl:=Option.some.inj hl44
    refine Zj ?_
    have hM:=(hM.pull1.pull5.pull5.pull5.pull4.pull5).drop
    exact ⟨u42,hE.sub ⟨rfl,rfl,rfl,rfl,rfl,rfl,trivial⟩,hM⟩
  ·skip
   rintro a w ⟨u46,hE,hM⟩
   obtain ⟨j55,hl56,hF57⟩:=bind_some hF45
   refine ZB (fun a w=>∃ (u58 : Value),Env 64 a [(7,vI r1.2),(8,(vI (wr (1 + r3.2)))),(9,u7),(10,u13),(12,u58)] ∧ M St W w [raw pb0 (cat [[v0_0],[vI r40.1.1],[(Value.int .u64 r40.1.2)]]),osl NoB (r5.2 : List UInt8) u7,R,osl NoB (j10.2.2 : List (List UInt8)) u13,osl NoB (j55 : List UInt8) u58]) ?_ ?_
   ·skip
    refine Zc (Zd hE rfl fun a hE=>ZQ hE rfl Try.underlying22 (hM.sl (pre:=[_,_,_,_]) noB) fun a hE=>Zd hE rfl fun a hE=>Zk hE rfl rfl rfl fun a hE=>Ze ?_)
    refine Zm hE rfl ?_ ?_
    ·intro hb60
     have hl56:=Zp hl56 hb60
     refine wp_region_lit (Zd hE rfl fun a hE=>Zd hE rfl ?_); intro a hE
     obtain ⟨l61,e62,hl56⟩:=bind_some hl56
     refine Tw hE Za ld rfl rfl rfl rfl rfl Try.underlying22 ty5 (hM.sl (pre:=[_,_,_,_]) noB) e62 ?_; intro a hE
     have hM:=hM.pull4.cut noB e62
     refine Zb hE rfl fun a hE=>Zi ?_
     obtain rfl:=Option.some.inj hl56
     refine Zj ?_
     have hM:=hM.pull4.pull4.pull4.pull4
     exact ⟨(XL u46 ((0 : Int)).toNat (p1).toNat 1),hE.sub ⟨rfl,rfl,rfl,rfl,rfl,trivial⟩,hM⟩
    ·intro hb60
     have hl56:=Zo hl56 hb60
     refine wp_skip ?_
     obtain rfl:=Option.some.inj hl56
     refine Zj ?_
     exact ⟨u46,hE.sub ⟨rfl,rfl,rfl,rfl,rfl,trivial⟩,hM⟩
   ·skip
    rintro a w ⟨u58,hE,hM⟩
    refine Zc (Zd hE rfl fun a hE=>Zd hE rfl fun a hE=>Zd hE rfl fun a hE=>Zd hE rfl fun a hE=>Zd hE rfl ?_); intro a hE
    obtain ⟨r66,e67,hF57⟩:=bind_some hF57
    refine Zl hE rfl (cbm Try.func63) (TT _ r1.2 r5.2 u7 (hM.sl (pre:=[_]) noB) j10.2.2 u13 (hM.sl (pre:=[_,_,_]) noB) j55 u58 (hM.sl (pre:=[_,_,_,_]) noB) r66 e67) ?_
    rintro u68 w a ⟨_,rfl,hFr,hK⟩ hE
    have hM:=hM.add hK hFr
    refine Zd hE rfl fun a hE=>Zb hE rfl fun a hE=>Zb hE rfl fun a hE=>Zb hE rfl fun a hE=>Ze ?_
    obtain rfl:=Option.some.inj hF57
    have hM:=(((hM.pull3.pull1.pull2.pull5).drop.pull4).drop.pull3).drop
    exact wp_ret (BU hE rfl (Zq hE rfl) (Zq hE rfl) (Zq hE rfl) ⟨_,rfl,u68,rfl,hM⟩)
def X3 (p0_0 : (List UInt8)) (p0 : (Int × Int)) : Option ((Int × Int) × Int × (List GShare) × Int) :=
 (ZR p0_0 (p0.1,p0.2) ([5,7,12] : List Int)).bind fun r3=>(Vv p0_0 (r3.1.1,r3.1.2) r3.2).bind fun r5=>((Zz p0_0 (r5.1.1,r5.1.2) 24).bind fun r13=>(if (r13.2 == 0) = true then (some (r13.1.1,r13.1.2,256,r5.2.2.1,r5.2.2.2)) else (if (r13.2 == 1) = true then ((idx r5.2.2.1 (wr ((r5.2.2.1.length : Int) - 1))).bind fun x23=>(ZR p0_0 (r13.1.1,r13.1.2) ([0,bI x23.Place] : List Int)).bind fun r32=>(idx r5.2.2.1 (0 : Int)).bind fun x34=>some (r32.1.1,r32.1.2,r5.2.1,(r5.2.2.1.set ((0 : Int)).toNat (⟨X1 r32.2,x34.Data⟩ : GShare)),r5.2.2.2)) else (if (r13.2 == 2) = true then ((idx r5.2.2.1 (0 : Int)).bind fun x42=>(app 1 x42.Data ([1] : List UInt8)).bind fun l50=>(idx r5.2.2.1 (0 : Int)).bind fun x55=>some (r13.1.1,r13.1.2,r5.2.1,(r5.2.2.1.set ((0 : Int)).toNat (⟨x42.Place,(x42.Data ++ ([1] : List UInt8))⟩ : GShare)),r5.2.2.2)) else (if (r13.2 == 3) = true then ((ZR p0_0 (r13.1.1,r13.1.2) ([0,9,(-1)] : List Int)).bind fun r62=>some (r62.1.1,r62.1.2,r5.2.1,r5.2.2.1,r62.2)) else (if (r13.2 == 4) = true then (some (r13.1.1,r13.1.2,r5.2.1,[],r5.2.2.2)) else ((if (r13.2 == 5) = true then (some (r13.2 == 5)) else (some (r13.2 == 6)) : Option (Bool)).bind fun j68=>if j68 = true then ((idx r5.2.2.1 (0 : Int)).bind fun x75=>if (decide ((x75.Data.length : Int) > 0)) = true then ((idx r5.2.2.1 (0 : Int)).bind fun x82=>(Zz p0_0 (r13.1.1,r13.1.2) (x75.Data.length : Int)).bind fun r85=>(Yk p0_0 (r85.1.1,r85.1.2)).bind fun r87=>(idx x75.Data r85.2).bind fun x89=>some (r87.1.1,r87.1.2,r5.2.1,(r5.2.2.1.set ((0 : Int)).toNat (⟨x75.Place,(x75.Data.set (r85.2).toNat r87.2)⟩ : GShare)),r5.2.2.2)) else (some (r13.1.1,r13.1.2,r5.2.1,r5.2.2.1,r5.2.2.2))) else (some (r13.1.1,r13.1.2,r5.2.1,r5.2.2.1,r5.2.2.2))))))) : Option (Int × Int × Int × (List GShare) × Int)).bind fun j15=>some (j15.1,j15.2.1,j15.2.2.1,j15.2.2.2.1,j15.2.2.2.2) : Option (Int × Int × Int × (List GShare) × Int)).bind fun j8=>some ((j8.1,j8.2.1),j8.2.2.1,j8.2.2.2.1,j8.2.2.2.2)
end

end Go.Proofs.Ytkajmkegelcfjaa
