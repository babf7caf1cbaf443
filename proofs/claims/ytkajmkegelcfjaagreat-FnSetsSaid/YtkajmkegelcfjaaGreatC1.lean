/- The walk of what the law reaches: contracts of functions. -/
import Derived.Test.YtkajmkegelcfjaaGreatK2
import Derived.Test.YtkajmkegelcfjaaGreatProg
set_option linter.unusedVariables false
set_option linter.unusedSimpArgs false
set_option maxRecDepth 20000
set_option maxHeartbeats 400000
namespace Go.Proofs.YtkajmkegelcfjaaGreat
open Go
open Flat (enc)
noncomputable section
structure GCipher where
 Field : Int
 Box : (Vector UInt8 256)
 Mix : (Vector (Vector UInt8 4) 4)
 Places : (Vector UInt8 16)
 Rounds : Int
 deriving DecidableEq,Inhabited
instance : Dat GCipher:=⟨fun x=>Dat.bd (α:=Int × (Vector UInt8 256) × (Vector (Vector UInt8 4) 4) × (Vector UInt8 16) × Int) (x.Field,x.Box,x.Mix,x.Places,x.Rounds),fun x=>Dat.sz (α:=Int × (Vector UInt8 256) × (Vector (Vector UInt8 4) 4) × (Vector UInt8 16) × Int) (x.Field,x.Box,x.Mix,x.Places,x.Rounds) + 1⟩
instance : Flat GCipher where
 n:=290
 enc x:=cat [enc x.Field,enc x.Box,enc x.Mix,enc x.Places,enc x.Rounds]
 len x:=zB (cl1 (Flat.len _) (cl1 (Flat.len _) (cl1 (Flat.len _) (cl1 (Flat.len _) (cl1 (Flat.len _) cl0)))))
 cell x:=Yf (cc1 (Flat.cell _) (cc1 (Flat.cell _) (cc1 (Flat.cell _) (cc1 (Flat.cell _) (cc1 (Flat.cell _) cc0)))))
structure Gl01Source where
 code : (List UInt8)
 at0 : Int
 hash : Int
 deriving DecidableEq,Inhabited
instance : Dat Gl01Source:=⟨fun x=>Dat.bd (α:=(List UInt8) × Int × Int) (x.code,x.at0,x.hash),fun x=>Dat.sz (α:=(List UInt8) × Int × Int) (x.code,x.at0,x.hash) + 1⟩
instance : Rep Gl01Source:=repIso (α:=(List UInt8) × Int × Int) (fun x=>(x.code,x.at0,x.hash))
theorem Ag {S : Nat → Prop} {w : World} {x : Gl01Source} {cs : List Value} {fp : List Nat} (h : Rep.sat S w x cs fp) : ∃ (u1 : Value),∃ (g1 : List Nat),cs = cat [[u1],enc x.at0,enc x.hash] ∧ fp = g1 ∧ Rep.sat S w x.code [u1] g1:=by
 obtain ⟨c0,d0,f0,q0,rfl,rfl,h0,hr0⟩:=h
 obtain ⟨u1,rfl⟩:=zy h0
 obtain ⟨c1,d1,f1,q1,rfl,rfl,h1,hr1⟩:=hr0
 obtain ⟨rfl,rfl⟩:=h1
 obtain ⟨rfl,rfl⟩:=hr1
 exact ⟨u1,_,rfl,by simp,h0⟩
theorem B3 {S : Nat → Prop} {w : World} {x : Gl01Source} {u1 : Value} {fp : List Nat} (h : Rep.sat S w x (cat [[u1],enc x.at0,enc x.hash]) fp) : ∃ (g1 : List Nat),fp = g1 ∧ Rep.sat S w x.code [u1] g1:=by
 obtain ⟨w1,g1,hc,hf,s1⟩:=Ag h
 obtain ⟨e1,k1⟩:=TX hc rfl
 obtain ⟨e2,k2⟩:=TX k1 rfl
 obtain rfl:=(List.cons.inj e1).1
 exact ⟨g1,hf,s1⟩
theorem qP {S : Nat → Prop} {w : World} {x : Gl01Source} {cs : List Value} (h : Rep.sat S w x cs []) : ∃ u1,cs = cat [[u1],enc x.at0,enc x.hash] ∧ Rep.sat S w x.code [u1] []:=by
 obtain ⟨c0,d0,f0,g0,rfl,hf0,h0,hr0⟩:=h
 obtain ⟨rfl,rfl⟩:=List.append_eq_nil_iff.1 hf0.symm
 obtain ⟨u1,rfl⟩:=zy h0
 obtain ⟨c1,d1,f1,g1,rfl,hf1,h1,hr1⟩:=hr0
 obtain ⟨rfl,rfl⟩:=List.append_eq_nil_iff.1 hf1.symm
 obtain ⟨rfl,_⟩:=h1
 obtain ⟨rfl,_⟩:=hr1
 exact ⟨u1,rfl,h0⟩
theorem AV {S : Nat → Prop} {w : World} {x : Gl01Source} {u1 : Value} {g1 fp : List Nat} (h1 : Rep.sat S w x.code [u1] g1) (hfp : fp = g1) : Rep.sat S w x (cat [[u1],enc x.at0,enc x.hash]) fp:=by
 rw [hfp]
 refine ⟨_,_,g1,[],rfl,(by simp),h1,?_⟩
 refine ⟨_,_,[],[],rfl,(by simp),⟨rfl,rfl⟩,?_⟩
 exact ⟨rfl,rfl⟩
theorem qQ {St : Nat → Prop} {w0 w : World} {its : List Item} {i1 : Item} {x : Gl01Source} {u1 : Value} (h : M St w0 w (i1 :: its)) (s1 : SatI i1 x.code u1) : M St w0 w (own NoB x (cat [[u1],enc x.at0,enc x.hash]) :: its):=h.packL (m:=[_]) (QV noB) fun fp h=>by obtain ⟨_,_,rfl,_,k1,rfl⟩:=h; exact AV (s1 _ _ k1) (by simp)
theorem qO {St : Nat → Prop} {w0 w : World} {its : List Item} {x : Gl01Source} {u1 : Value} (h : M St w0 w (own NoB x (cat [[u1],enc x.at0,enc x.hash]) :: its)) : M St w0 w (own NoB x.code [u1] :: its):=h.unpackL (m:=[own NoB x.code [u1]]) fun fp h=>by obtain ⟨_,rfl,s1⟩:=B3 h; exact Wi.one (QV noB) s1
structure Gengine where
 box : (Vector UInt8 256)
 backBox : (Vector UInt8 256)
 places : (Vector UInt8 16)
 backPlaces : (Vector UInt8 16)
 mixer : (Ref (Vector (Vector (Vector UInt8 256) 4) 4))
 backMixer : (Ref (Vector (Vector (Vector UInt8 256) 4) 4))
 rounds : Int
 deriving DecidableEq,Inhabited
instance : Dat Gengine:=⟨fun x=>Dat.bd (α:=(Vector UInt8 256) × (Vector UInt8 256) × (Vector UInt8 16) × (Vector UInt8 16) × (Ref (Vector (Vector (Vector UInt8 256) 4) 4)) × (Ref (Vector (Vector (Vector UInt8 256) 4) 4)) × Int) (x.box,x.backBox,x.places,x.backPlaces,x.mixer,x.backMixer,x.rounds),fun x=>Dat.sz (α:=(Vector UInt8 256) × (Vector UInt8 256) × (Vector UInt8 16) × (Vector UInt8 16) × (Ref (Vector (Vector (Vector UInt8 256) 4) 4)) × (Ref (Vector (Vector (Vector UInt8 256) 4) 4)) × Int) (x.box,x.backBox,x.places,x.backPlaces,x.mixer,x.backMixer,x.rounds) + 1⟩
instance : Rep Gengine:=repIso (α:=(Vector UInt8 256) × (Vector UInt8 256) × (Vector UInt8 16) × (Vector UInt8 16) × (Ref (Vector (Vector (Vector UInt8 256) 4) 4)) × (Ref (Vector (Vector (Vector UInt8 256) 4) 4)) × Int) (fun x=>(x.box,x.backBox,x.places,x.backPlaces,x.mixer,x.backMixer,x.rounds))
theorem yh {S : Nat → Prop} {w : World} {x : Gengine} {cs : List Value} {fp : List Nat} (h : Rep.sat S w x cs fp) : ∃ (u1 : Value) (u2 : Value),∃ (g1 : List Nat) (g2 : List Nat),cs = cat [enc x.box,enc x.backBox,enc x.places,enc x.backPlaces,[u1],[u2],enc x.rounds] ∧ fp = (g1 ++ g2) ∧ Rep.sat S w x.mixer [u1] g1 ∧ Rep.sat S w x.backMixer [u2] g2:=by
 obtain ⟨c0,d0,f0,q0,rfl,rfl,h0,hr0⟩:=h
 obtain ⟨rfl,rfl⟩:=h0
 obtain ⟨c1,d1,f1,q1,rfl,rfl,h1,hr1⟩:=hr0
 obtain ⟨rfl,rfl⟩:=h1
 obtain ⟨c2,d2,f2,q2,rfl,rfl,h2,hr2⟩:=hr1
 obtain ⟨rfl,rfl⟩:=h2
 obtain ⟨c3,d3,f3,q3,rfl,rfl,h3,hr3⟩:=hr2
 obtain ⟨rfl,rfl⟩:=h3
 obtain ⟨c4,d4,f4,q4,rfl,rfl,h4,hr4⟩:=hr3
 obtain ⟨u1,rfl⟩:=BH h4
 obtain ⟨c5,d5,f5,q5,rfl,rfl,h5,hr5⟩:=hr4
 obtain ⟨u2,rfl⟩:=BH h5
 obtain ⟨rfl,rfl⟩:=hr5
 exact ⟨u1,u2,_,_,rfl,by simp,h4,h5⟩
theorem Za2 {S : Nat → Prop} {w : World} {x : Gengine} {u1 u2 : Value} {fp : List Nat} (h : Rep.sat S w x (cat [enc x.box,enc x.backBox,enc x.places,enc x.backPlaces,[u1],[u2],enc x.rounds]) fp) : ∃ (g1 : List Nat) (g2 : List Nat),fp = (g1 ++ g2) ∧ Rep.sat S w x.mixer [u1] g1 ∧ Rep.sat S w x.backMixer [u2] g2:=by
 obtain ⟨w1,w2,g1,g2,hc,hf,s1,s2⟩:=yh h
 obtain ⟨e1,k1⟩:=TX hc rfl
 obtain ⟨e2,k2⟩:=TX k1 rfl
 obtain ⟨e3,k3⟩:=TX k2 rfl
 obtain ⟨e4,k4⟩:=TX k3 rfl
 obtain ⟨e5,k5⟩:=TX k4 rfl
 obtain ⟨e6,k6⟩:=TX k5 rfl
 obtain rfl:=(List.cons.inj e5).1
 obtain rfl:=(List.cons.inj e6).1
 exact ⟨g1,g2,hf,s1,s2⟩
theorem TS {S : Nat → Prop} {w : World} {x : Gengine} {cs : List Value} (h : Rep.sat S w x cs []) : ∃ u1 u2,cs = cat [enc x.box,enc x.backBox,enc x.places,enc x.backPlaces,[u1],[u2],enc x.rounds] ∧ Rep.sat S w x.mixer [u1] [] ∧ Rep.sat S w x.backMixer [u2] []:=by
 obtain ⟨c0,d0,f0,g0,rfl,hf0,h0,hr0⟩:=h
 obtain ⟨rfl,rfl⟩:=List.append_eq_nil_iff.1 hf0.symm
 obtain ⟨rfl,_⟩:=h0
 obtain ⟨c1,d1,f1,g1,rfl,hf1,h1,hr1⟩:=hr0
 obtain ⟨rfl,rfl⟩:=List.append_eq_nil_iff.1 hf1.symm
 obtain ⟨rfl,_⟩:=h1
 obtain ⟨c2,d2,f2,g2,rfl,hf2,h2,hr2⟩:=hr1
 obtain ⟨rfl,rfl⟩:=List.append_eq_nil_iff.1 hf2.symm
 obtain ⟨rfl,_⟩:=h2
 obtain ⟨c3,d3,f3,g3,rfl,hf3,h3,hr3⟩:=hr2
 obtain ⟨rfl,rfl⟩:=List.append_eq_nil_iff.1 hf3.symm
 obtain ⟨rfl,_⟩:=h3
 obtain ⟨c4,d4,f4,g4,rfl,hf4,h4,hr4⟩:=hr3
 obtain ⟨rfl,rfl⟩:=List.append_eq_nil_iff.1 hf4.symm
 obtain ⟨u1,rfl⟩:=BH h4
 obtain ⟨c5,d5,f5,g5,rfl,hf5,h5,hr5⟩:=hr4
 obtain ⟨rfl,rfl⟩:=List.append_eq_nil_iff.1 hf5.symm
 obtain ⟨u2,rfl⟩:=BH h5
 obtain ⟨rfl,_⟩:=hr5
 exact ⟨u1,u2,rfl,h4,h5⟩
theorem je {S : Nat → Prop} {w : World} {x : Gengine} {u1 u2 : Value} {g1 g2 fp : List Nat} (h1 : Rep.sat S w x.mixer [u1] g1) (h2 : Rep.sat S w x.backMixer [u2] g2) (hfp : fp = (g1 ++ g2)) : Rep.sat S w x (cat [enc x.box,enc x.backBox,enc x.places,enc x.backPlaces,[u1],[u2],enc x.rounds]) fp:=by
 rw [hfp]
 refine ⟨_,_,[],(g1 ++ g2),rfl,(by simp),⟨rfl,rfl⟩,?_⟩
 refine ⟨_,_,[],(g1 ++ g2),rfl,(by simp),⟨rfl,rfl⟩,?_⟩
 refine ⟨_,_,[],(g1 ++ g2),rfl,(by simp),⟨rfl,rfl⟩,?_⟩
 refine ⟨_,_,[],(g1 ++ g2),rfl,(by simp),⟨rfl,rfl⟩,?_⟩
 refine ⟨_,_,g1,g2,rfl,(by simp),h1,?_⟩
 refine ⟨_,_,g2,[],rfl,(by simp),h2,?_⟩
 exact ⟨rfl,rfl⟩
structure Gdice where
 b : (List UInt8)
 i : Int
 h : Int
 deriving DecidableEq,Inhabited
instance : Dat Gdice:=⟨fun x=>Dat.bd (α:=(List UInt8) × Int × Int) (x.b,x.i,x.h),fun x=>Dat.sz (α:=(List UInt8) × Int × Int) (x.b,x.i,x.h) + 1⟩
instance : Rep Gdice:=repIso (α:=(List UInt8) × Int × Int) (fun x=>(x.b,x.i,x.h))
theorem km {S : Nat → Prop} {w : World} {x : Gdice} {cs : List Value} {fp : List Nat} (h : Rep.sat S w x cs fp) : ∃ (u1 : Value),∃ (g1 : List Nat),cs = cat [[u1],enc x.i,enc x.h] ∧ fp = g1 ∧ Rep.sat S w x.b [u1] g1:=by
 obtain ⟨c0,d0,f0,q0,rfl,rfl,h0,hr0⟩:=h
 obtain ⟨u1,rfl⟩:=zy h0
 obtain ⟨c1,d1,f1,q1,rfl,rfl,h1,hr1⟩:=hr0
 obtain ⟨rfl,rfl⟩:=h1
 obtain ⟨rfl,rfl⟩:=hr1
 exact ⟨u1,_,rfl,by simp,h0⟩
theorem kB {S : Nat → Prop} {w : World} {x : Gdice} {u1 : Value} {fp : List Nat} (h : Rep.sat S w x (cat [[u1],enc x.i,enc x.h]) fp) : ∃ (g1 : List Nat),fp = g1 ∧ Rep.sat S w x.b [u1] g1:=by
 obtain ⟨w1,g1,hc,hf,s1⟩:=km h
 obtain ⟨e1,k1⟩:=TX hc rfl
 obtain ⟨e2,k2⟩:=TX k1 rfl
 obtain rfl:=(List.cons.inj e1).1
 exact ⟨g1,hf,s1⟩
theorem un_Gdice {S : Nat → Prop} {w : World} {x : Gdice} {cs : List Value} (h : Rep.sat S w x cs []) : ∃ u1,cs = cat [[u1],enc x.i,enc x.h] ∧ Rep.sat S w x.b [u1] []:=by
 obtain ⟨c0,d0,f0,g0,rfl,hf0,h0,hr0⟩:=h
 obtain ⟨rfl,rfl⟩:=List.append_eq_nil_iff.1 hf0.symm
 obtain ⟨u1,rfl⟩:=zy h0
 obtain ⟨c1,d1,f1,g1,rfl,hf1,h1,hr1⟩:=hr0
 obtain ⟨rfl,rfl⟩:=List.append_eq_nil_iff.1 hf1.symm
 obtain ⟨rfl,_⟩:=h1
 obtain ⟨rfl,_⟩:=hr1
 exact ⟨u1,rfl,h0⟩
theorem kW {S : Nat → Prop} {w : World} {x : Gdice} {u1 : Value} {g1 fp : List Nat} (h1 : Rep.sat S w x.b [u1] g1) (hfp : fp = g1) : Rep.sat S w x (cat [[u1],enc x.i,enc x.h]) fp:=by
 rw [hfp]
 refine ⟨_,_,g1,[],rfl,(by simp),h1,?_⟩
 refine ⟨_,_,[],[],rfl,(by simp),⟨rfl,rfl⟩,?_⟩
 exact ⟨rfl,rfl⟩
theorem pm_Gdice {St : Nat → Prop} {w0 w : World} {its : List Item} {i1 : Item} {x : Gdice} {u1 : Value} (h : M St w0 w (i1 :: its)) (s1 : SatI i1 x.b u1) : M St w0 w (own NoB x (cat [[u1],enc x.i,enc x.h]) :: its):=h.packL (m:=[_]) (QV noB) fun fp h=>by obtain ⟨_,_,rfl,_,k1,rfl⟩:=h; exact kW (s1 _ _ k1) (by simp)
theorem um_Gdice {St : Nat → Prop} {w0 w : World} {its : List Item} {x : Gdice} {u1 : Value} (h : M St w0 w (own NoB x (cat [[u1],enc x.i,enc x.h]) :: its)) : M St w0 w (own NoB x.b [u1] :: its):=h.unpackL (m:=[own NoB x.b [u1]]) fun fp h=>by obtain ⟨_,rfl,s1⟩:=kB h; exact Wi.one (QV noB) s1
theorem ty2 : Ty Tryz.prog 2 (.int .i64) 1 8 (enc (0 : Int)):=⟨Tryz.underlying2,by kernel_rfl⟩
theorem ty3 : Ty Tryz.prog 3 (.int .i64) 1 8 (enc (0 : Int)):=⟨Tryz.underlying3,by kernel_rfl⟩
theorem ty4 : Ty Tryz.prog 4 .bool 1 1 (enc false):=⟨Tryz.underlying4,by kernel_rfl⟩
theorem ty5 : Ty Tryz.prog 5 (.int .u8) 1 1 (enc (0 : UInt8)):=⟨Tryz.underlying5,by kernel_rfl⟩
theorem ty22 : Ty Tryz.prog 22 (.slice 5) 1 24 [.slice none 0 0]:=⟨Tryz.underlying22,by kernel_rfl⟩
theorem ty24 : Ty Tryz.prog 24 (.array 256 5) 256 256 (enc (Vector.replicate 256 (0 : UInt8))):=⟨Tryz.underlying24,by kernel_rfl⟩
theorem YN : Ty Tryz.prog 25 (.array 256 5) 256 256 (enc (Vector.replicate 256 (0 : UInt8))):=⟨Tryz.underlying25,by kernel_rfl⟩
theorem Yq : Ty Tryz.prog 26 (.array 4 5) 4 4 (enc (Vector.replicate 4 (0 : UInt8))):=⟨Tryz.underlying26,by kernel_rfl⟩
theorem XV : Ty Tryz.prog 28 (.array 4 26) 16 16 (enc (Vector.replicate 4 (Vector.replicate 4 (0 : UInt8)))):=⟨Tryz.underlying28,by kernel_rfl⟩
theorem KE : Ty Tryz.prog 30 (.array 16 5) 16 16 (enc (Vector.replicate 16 (0 : UInt8))):=⟨Tryz.underlying30,by kernel_rfl⟩
theorem ZT : Ty Tryz.prog 32 (.struct [{ name := "Field", type := 2, offset := 0, embedded := false, tag := "", pkgPath := "", byteOffset := 0 }, { name := "Box", type := 25, offset := 1, embedded := false, tag := "", pkgPath := "", byteOffset := 8 }, { name := "Mix", type := 28, offset := 257, embedded := false, tag := "", pkgPath := "", byteOffset := 264 }, { name := "Places", type := 30, offset := 273, embedded := false, tag := "", pkgPath := "", byteOffset := 280 }, { name := "Rounds", type := 2, offset := 289, embedded := false, tag := "", pkgPath := "", byteOffset := 296 }].toArray) 290 304 (enc (⟨(0 : Int), (Vector.replicate 256 (0 : UInt8)), (Vector.replicate 4 (Vector.replicate 4 (0 : UInt8))), (Vector.replicate 16 (0 : UInt8)), (0 : Int)⟩ : GCipher)) := ⟨Tryz.underlying32, by kernel_rfl⟩
theorem Zv : Ty Tryz.prog 33 (.array 16 5) 16 16 (enc (Vector.replicate 16 (0 : UInt8))):=⟨Tryz.underlying33,by kernel_rfl⟩
theorem ty44 : Ty Tryz.prog 44 (.slice 2) 1 24 [.slice none 0 0]:=⟨Tryz.underlying44,by kernel_rfl⟩
theorem Bp : Ty Tryz.prog 55 (.int .u64) 1 8 [.int .u64 0]:=⟨Tryz.underlying55,by kernel_rfl⟩
theorem Qm : Ty Tryz.prog 74 (.array 256 4) 256 256 (enc (Vector.replicate 256 false)):=⟨Tryz.underlying74,by kernel_rfl⟩
theorem ty84 : Ty Tryz.prog 84 (.struct [{ name := "b", type := 22, offset := 0, embedded := false, tag := "", pkgPath := "loop.example/g01182/laws", byteOffset := 0 }, { name := "i", type := 3, offset := 1, embedded := false, tag := "", pkgPath := "loop.example/g01182/laws", byteOffset := 24 }, { name := "h", type := 55, offset := 2, embedded := false, tag := "", pkgPath := "loop.example/g01182/laws", byteOffset := 32 }].toArray) 3 40 (cat [[.slice none 0 0], (enc (0 : Int)), [.int .u64 0]]) := ⟨Tryz.underlying84, by kernel_rfl⟩
theorem ty92 : Ty Tryz.prog 92 (.struct [{ name := "code", type := 22, offset := 0, embedded := false, tag := "", pkgPath := "loop.example/g01182/spec", byteOffset := 0 }, { name := "at", type := 3, offset := 1, embedded := false, tag := "", pkgPath := "loop.example/g01182/spec", byteOffset := 24 }, { name := "hash", type := 55, offset := 2, embedded := false, tag := "", pkgPath := "loop.example/g01182/spec", byteOffset := 32 }].toArray) 3 40 (cat [[.slice none 0 0], (enc (0 : Int)), [.int .u64 0]]) := ⟨Tryz.underlying92, by kernel_rfl⟩
theorem kJ : Ty Tryz.prog 101 (.pointer 130) 1 8 [.pointer none]:=⟨Tryz.underlying101,by kernel_rfl⟩
theorem H6 : Ty Tryz.prog 104 (.struct [{ name := "box", type := 25, offset := 0, embedded := false, tag := "", pkgPath := "loop.example/g01182/impl", byteOffset := 0 }, { name := "backBox", type := 25, offset := 256, embedded := false, tag := "", pkgPath := "loop.example/g01182/impl", byteOffset := 256 }, { name := "places", type := 30, offset := 512, embedded := false, tag := "", pkgPath := "loop.example/g01182/impl", byteOffset := 512 }, { name := "backPlaces", type := 30, offset := 528, embedded := false, tag := "", pkgPath := "loop.example/g01182/impl", byteOffset := 528 }, { name := "mixer", type := 101, offset := 544, embedded := false, tag := "", pkgPath := "loop.example/g01182/impl", byteOffset := 544 }, { name := "backMixer", type := 101, offset := 545, embedded := false, tag := "", pkgPath := "loop.example/g01182/impl", byteOffset := 552 }, { name := "rounds", type := 2, offset := 546, embedded := false, tag := "", pkgPath := "loop.example/g01182/impl", byteOffset := 560 }].toArray) 547 568 (cat [(enc (Vector.replicate 256 (0 : UInt8))), (enc (Vector.replicate 256 (0 : UInt8))), (enc (Vector.replicate 16 (0 : UInt8))), (enc (Vector.replicate 16 (0 : UInt8))), [.pointer none], [.pointer none], (enc (0 : Int))]) := ⟨Tryz.underlying104, by kernel_rfl⟩
theorem B4 : Ty Tryz.prog 128 (.array 4 24) 1024 1024 (enc (Vector.replicate 4 (Vector.replicate 256 (0 : UInt8)))):=⟨Tryz.underlying128,by kernel_rfl⟩
theorem ty130 : Ty Tryz.prog 130 (.array 4 128) 4096 4096 (enc (Vector.replicate 4 (Vector.replicate 4 (Vector.replicate 256 (0 : UInt8))))):=⟨Tryz.underlying130,by kernel_rfl⟩
theorem kN : Ty Tryz.prog 132 (.array 16 4) 16 16 (enc (Vector.replicate 16 false)):=⟨Tryz.underlying132,by kernel_rfl⟩
theorem QF : Fd Tryz.prog 32 0 0:=TJ ZT.und rfl rfl ty2 (by decide)
theorem Qa : Fd Tryz.prog 32 1 1:=TJ ZT.und rfl rfl YN (by decide)
theorem Qb : Fd Tryz.prog 32 2 257:=TJ ZT.und rfl rfl XV (by decide)
theorem Tt : Fd Tryz.prog 32 3 273:=TJ ZT.und rfl rfl KE (by decide)
theorem Qx : Fd Tryz.prog 32 4 289:=TJ ZT.und rfl rfl ty2 (by decide)
theorem qJ : Fd Tryz.prog 84 0 0:=TJ ty84.und rfl rfl ty22 (by decide)
theorem zR : Fd Tryz.prog 84 1 1:=TJ ty84.und rfl rfl ty3 (by decide)
theorem Ap : Fd Tryz.prog 84 2 2:=TJ ty84.und rfl rfl Bp (by decide)
theorem qx : Fd Tryz.prog 92 0 0:=TJ ty92.und rfl rfl ty22 (by decide)
theorem zp : Fd Tryz.prog 92 1 1:=TJ ty92.und rfl rfl ty3 (by decide)
theorem BI : Fd Tryz.prog 92 2 2:=TJ ty92.und rfl rfl Bp (by decide)
theorem zA : Fd Tryz.prog 104 0 0:=TJ H6.und rfl rfl YN (by decide)
theorem Zar : Fd Tryz.prog 104 1 256:=TJ H6.und rfl rfl YN (by decide)
theorem Zau : Fd Tryz.prog 104 2 512:=TJ H6.und rfl rfl KE (by decide)
theorem fd104_3 : Fd Tryz.prog 104 3 528:=TJ H6.und rfl rfl KE (by decide)
theorem Zaw : Fd Tryz.prog 104 4 544:=TJ H6.und rfl rfl kJ (by decide)
theorem fd104_5 : Fd Tryz.prog 104 5 545:=TJ H6.und rfl rfl kJ (by decide)
theorem fd104_6 : Fd Tryz.prog 104 6 546:=TJ H6.und rfl rfl ty2 (by decide)
theorem pl32 : Places Tryz.prog [{ name := "Field", type := 2, offset := 0, embedded := false, tag := "", pkgPath := "", byteOffset := 0 }, { name := "Box", type := 25, offset := 1, embedded := false, tag := "", pkgPath := "", byteOffset := 8 }, { name := "Mix", type := 28, offset := 257, embedded := false, tag := "", pkgPath := "", byteOffset := 264 }, { name := "Places", type := 30, offset := 273, embedded := false, tag := "", pkgPath := "", byteOffset := 280 }, { name := "Rounds", type := 2, offset := 289, embedded := false, tag := "", pkgPath := "", byteOffset := 296 }] [(0, 1), (1, 256), (257, 16), (273, 16), (289, 1)] := by show _ = _; kernel_rfl
theorem pl84 : Places Tryz.prog [{ name := "b", type := 22, offset := 0, embedded := false, tag := "", pkgPath := "loop.example/g01182/laws", byteOffset := 0 }, { name := "i", type := 3, offset := 1, embedded := false, tag := "", pkgPath := "loop.example/g01182/laws", byteOffset := 24 }, { name := "h", type := 55, offset := 2, embedded := false, tag := "", pkgPath := "loop.example/g01182/laws", byteOffset := 32 }] [(0, 1), (1, 1), (2, 1)] := by show _ = _; kernel_rfl
theorem pl92 : Places Tryz.prog [{ name := "code", type := 22, offset := 0, embedded := false, tag := "", pkgPath := "loop.example/g01182/spec", byteOffset := 0 }, { name := "at", type := 3, offset := 1, embedded := false, tag := "", pkgPath := "loop.example/g01182/spec", byteOffset := 24 }, { name := "hash", type := 55, offset := 2, embedded := false, tag := "", pkgPath := "loop.example/g01182/spec", byteOffset := 32 }] [(0, 1), (1, 1), (2, 1)] := by show _ = _; kernel_rfl
theorem pl104 : Places Tryz.prog [{ name := "box", type := 25, offset := 0, embedded := false, tag := "", pkgPath := "loop.example/g01182/impl", byteOffset := 0 }, { name := "backBox", type := 25, offset := 256, embedded := false, tag := "", pkgPath := "loop.example/g01182/impl", byteOffset := 256 }, { name := "places", type := 30, offset := 512, embedded := false, tag := "", pkgPath := "loop.example/g01182/impl", byteOffset := 512 }, { name := "backPlaces", type := 30, offset := 528, embedded := false, tag := "", pkgPath := "loop.example/g01182/impl", byteOffset := 528 }, { name := "mixer", type := 101, offset := 544, embedded := false, tag := "", pkgPath := "loop.example/g01182/impl", byteOffset := 544 }, { name := "backMixer", type := 101, offset := 545, embedded := false, tag := "", pkgPath := "loop.example/g01182/impl", byteOffset := 552 }, { name := "rounds", type := 2, offset := 546, embedded := false, tag := "", pkgPath := "loop.example/g01182/impl", byteOffset := 560 }] [(0, 256), (256, 256), (512, 16), (528, 16), (544, 1), (545, 1), (546, 1)] := by show _ = _; kernel_rfl
theorem Xm : Tryz.prog.follows .mixedOrders = true:=by kernel_rfl
theorem cb10 : Callable Tryz.prog 10:=cbm Tryz.func10
theorem cb15 : Callable Tryz.prog 15:=cbm Tryz.func15
theorem cb26 : Callable Tryz.prog 26:=cbm Tryz.func26
theorem cb28 : Callable Tryz.prog 28:=cbm Tryz.func28
theorem cb29 : Callable Tryz.prog 29:=cbm Tryz.func29
theorem cb30 : Callable Tryz.prog 30:=cbm Tryz.func30
theorem cb31 : Callable Tryz.prog 31:=cbm Tryz.func31
theorem cb32 : Callable Tryz.prog 32:=cbm Tryz.func32
theorem cb33 : Callable Tryz.prog 33:=cbm Tryz.func33
theorem cb34 : Callable Tryz.prog 34:=cbm Tryz.func34
theorem cb35 : Callable Tryz.prog 35:=cbm Tryz.func35
theorem Uu : Callable Tryz.prog 36:=cbm Tryz.func36
theorem cb37 : Callable Tryz.prog 37:=cbm Tryz.func37
theorem yL : Callable Tryz.prog 38:=cbm Tryz.func38
theorem cb40 : Callable Tryz.prog 40:=cbm Tryz.func40
theorem cb41 : Callable Tryz.prog 41:=cbm Tryz.func41
theorem cb44 : Callable Tryz.prog 44:=cbm Tryz.func44
theorem cb46 : Callable Tryz.prog 46:=cbm Tryz.func46
theorem yU : Callable Tryz.prog 47:=cbm Tryz.func47
theorem cb48 : Callable Tryz.prog 48:=cbm Tryz.func48
theorem cb78 : Callable Tryz.prog 78:=cbm Tryz.func78
theorem cb83 : Callable Tryz.prog 83:=cbm Tryz.func83
theorem cb84 : Callable Tryz.prog 84:=cbm Tryz.func84
theorem yo : Callable Tryz.prog 93:=cbm Tryz.func93
theorem Jy : Callable Tryz.prog 102:=cbm Tryz.func102
theorem qC : Callable Tryz.prog 107:=cbm Tryz.func107
theorem kH : Callable Tryz.prog 109:=cbm Tryz.func109
def JQ (p0 : (List UInt8)) : Option (Bool) :=
 some (decide ((p0.length : Int) > 4096))
theorem y9 (w0 : World) (p0 : (List UInt8)) (v0_1 : Value) (hv0_1 : Ro w0 p0 [v0_1]) (r : Bool) (hF : JQ p0 = some r) :
  Calls Tryz.prog 4 [v0_1].toArray w0 (Rt w0 (vT r)):=by
 refine ce Tryz.func4 ?_
 intro a hE
 have hM:=M.start w0
 unfold JQ at hF
 refine Zb (Zc hE rfl fun a hE=>Ze (Zb (Zd hE rfl fun a hE=>Wm hE rfl Tryz.underlying22 (hM.rd hv0_1) fun a hE=>Zl hE rfl rfl rfl fun a hE=>Zc hE rfl fun a hE=>Ze ?_)))
 obtain rfl:=Option.some.inj hF
 exact wp_ret (kr1 hE rfl rfl hM.kept)
def Tc (p0 : (List UInt8)) (s6 : Int × Int) : Option (Fl (Int × Int) Int) :=
 (if (decide (s6.2 < (p0.length : Int))) = true then (some (decide (s6.2 < 4096))) else (some false) : Option (Bool)).bind fun j10=>if j10 = true then ((idx p0 s6.2).bind fun x18=>some (Fl.nx (IntKind.u64.wrap ((IntKind.u64.wrap ((IntKind.u64.wrap (s6.1 * 1099511628211)) + (bI x18))) + 11),wr (s6.2 + 1)))) else (some (Fl.ex s6.1))
def Wu (p0 : (List UInt8)) : Option ((Int × Int)) :=
 (ZK (Tc p0) (IntKind.u64.wrap (9001 + (IntKind.u64.wrap (p0.length : Int))),0)).bind fun j3=>some (0,j3)
theorem Ts (St : Nat → Prop) (W w0 : World) (R : Item) (p0 : (List UInt8)) (v0_1 : Value) (hv0_1 : Rep.sat St W p0 [v0_1] []) (hM : M St W w0 [R]) (r : (Int × Int)) (hF : Wu p0 = some r) :
  Calls Tryz.prog 35 [v0_1].toArray w0 (fun en w'=>∃ v,en = .returned v ∧ (∃ (b : Nat),v = ptr b 0 ∧ M St W w' [raw b (cat [[v0_1],[vI r.1],[(Value.int .u64 r.2)]]),R])):=by
 refine ce Tryz.func35 ?_
 intro a hE
 unfold Wu at hF
 refine Zb (Zc hE rfl fun a hE=>Ze (Zb (Zd hE rfl fun a hE=>Zd hE rfl fun a hE=>Wm hE rfl Tryz.underlying22 (hM.rd hv0_1) fun a hE=>Q4 hE Za ld rfl Tryz.underlying3 Tryz.underlying55 fun a hE=>Zl hE rfl rfl rfl fun a hE=>TM (parts:=[(0,.tmp 5),(2,.tmp 9)]) (vs:=[(0,v0_1),(2,(Value.int .u64 (IntKind.u64.wrap (9001 + (IntKind.u64.wrap (p0.length : Int))))))]) (cs:=cat [[v0_1],[vI 0],[(Value.int .u64 (IntKind.u64.wrap (9001 + (IntKind.u64.wrap (p0.length : Int)))))]]) hE Za ld rfl rfl ty92 pl92 (Wa (pre:=[]) (seg:=[(Value.slice none 0 0)]) (seg':=[v0_1]) (post:=[[vI 0],[(Value.int .u64 0)]]) rfl cl0 rfl rfl (Aq (hM.rd hv0_1)) (Wa (pre:=[[v0_1],[vI 0]]) (seg:=[(Value.int .u64 0)]) (seg':=[(Value.int .u64 (IntKind.u64.wrap (9001 + (IntKind.u64.wrap (p0.length : Int)))))]) (post:=[]) rfl ck rfl rfl rfl Ko)) fun a hE=>ZY (cs:=cat [[v0_1],[vI 0],[(Value.int .u64 (IntKind.u64.wrap (9001 + (IntKind.u64.wrap (p0.length : Int)))))]]) hE hM Za ld rfl rfl fun b1 w a hM hE=>Zc hE rfl fun a hE=>Ze (wp_seq (Zb (Zc hE rfl fun a hE=>Ze ?_))))))
 obtain ⟨j3,hl4,hF5⟩:=bind_some hF
 refine ZS (fun a w=>Env 38 a [(3,(ptr b1 0))] ∧ M St W w [raw b1 (cat [[v0_1],[vI 0],[(Value.int .u64 j3)]]),R]) ?_ ?_
 ·skip
  refine wp_block ?_
  refine ZO (fun (s6 : Int × Int) a w=>Env 38 a [(0,v0_1),(3,(ptr b1 0)),(4,vI s6.2)] ∧ M St W w [raw b1 (cat [[v0_1],[vI 0],[(Value.int .u64 s6.1)]]),R]) hl4 ⟨hE.sub ⟨rfl,rfl,rfl,trivial⟩,hM⟩ ?_
  rintro s6 a w ⟨hE,hM⟩ o9 hs7 hx8
  unfold Tc at hs7
  refine wp_seq ?_
  obtain ⟨j10,hl11,hF12⟩:=bind_some hs7
  refine ZQ (fun a w=>Env 38 a [(0,v0_1),(3,(ptr b1 0)),(4,vI s6.2),(19,vT j10)] ∧ M St W w [raw b1 (cat [[v0_1],[vI 0],[(Value.int .u64 s6.1)]]),R]) ?_ ?_
  ·skip
   refine wp_region_lit (Zd hE rfl fun a hE=>Zd hE rfl fun a hE=>Wm hE rfl Tryz.underlying22 (hM.rd hv0_1) fun a hE=>Zl hE rfl rfl rfl fun a hE=>Zd hE rfl ?_); intro a hE
   refine YF (decide (s6.2 < (p0.length : Int))) (fun hb13=>?_) (fun hb13=>?_)
   ·have hl11:=Zu hl11 hb13
    refine Zj hE (Zm hE rfl (lkb rfl hb13)) (by decide) rfl fun a hE=>Yk hE (Zm hE rfl (lkb rfl hb13)) (by decide) rfl rfl rfl fun a hE=>ZW hE (lkb rfl hb13) rfl fun a hE=>Zh ?_
    obtain rfl:=Option.some.inj hl11
    refine Zi ?_
    exact ⟨hE.sub ⟨rfl,rfl,rfl,rfl,trivial⟩,hM⟩
   ·have hl11:=Zt hl11 hb13
    refine Zp hE rfl (lkb rfl hb13) rfl (by decide) fun a hE=>Zp hE rfl (lkb rfl hb13) rfl (by decide) fun a hE=>Z7 hE (lkb rfl hb13) rfl fun a hE=>Zh ?_
    obtain rfl:=Option.some.inj hl11
    refine Zi ?_
    exact ⟨hE.sub ⟨rfl,rfl,rfl,rfl,trivial⟩,hM⟩
  ·skip
   rintro a w ⟨hE,hM⟩
   refine Zr hE rfl ?_ ?_
   ·intro hb16
    have hF12:=Zu hF12 hb16
    refine wp_skip (Zz (wp_seq (wp_block ?_)))
    obtain ⟨x18,hi20,hF12⟩:=bix hF12
    refine Yl [22,23,24,25,26,27,28,29,30,31,32,33,34,35,36] Xm rfl rfl (by decide) rfl hE hM (qsP (fun z=>Zj z.E Za ld rfl (kr0 rfl)) (qsP (fun z=>Zj z.E Za ld rfl (kr0 rfl)) (qsP (fun z=>ZV z.E Za ld rfl (kr0 rfl)) (qsP (fun z=>ZP z.E Za ld rfl (BI) (kr0 rfl)) (qsP (fun z=>Z0 (v:=(Value.int .u64 s6.1)) z.E Za ld rfl Bp rfl (At.cat (pre:=[[v0_1],[vI 0]]) (z.M.rawAt0) ck) (kr0 rfl)) (qsP (v:=(Value.int .u64 (IntKind.u64.wrap (s6.1 * 1099511628211)))) (fun z=>Yk z.E Za ld rfl rfl rfl (kr0 rfl)) (qsP (fun z=>Zj z.E Za ld rfl (kr0 rfl)) (qsP (fun z=>Zj z.E Za ld rfl (kr0 rfl)) (qsP (fun z=>X7 z.E Za ld rfl rfl Tryz.underlying22 ty5 (z.M.rd hv0_1) hi20.1 (kr0 rfl)) (qsP (fun z=>Z0 (v:=(vB x18)) z.E Za ld rfl ty5 rfl (Y1 (z.M.rd hv0_1) hi20.2) (kr0 rfl)) (qsP (fun z=>jj z.E Za ld rfl Tryz.underlying5 Tryz.underlying55 (kr0 rfl)) (qsP (v:=(Value.int .u64 (IntKind.u64.wrap ((IntKind.u64.wrap (s6.1 * 1099511628211)) + (bI x18))))) (fun z=>Yk z.E Za ld rfl rfl rfl (kr0 rfl)) (qsP (v:=(Value.int .u64 (IntKind.u64.wrap ((IntKind.u64.wrap ((IntKind.u64.wrap (s6.1 * 1099511628211)) + (bI x18))) + 11)))) (fun z=>Yk z.E Za ld rfl rfl rfl (kr0 rfl)) (qsP (fun z=>ZV z.E Za ld rfl (kr0 rfl)) (qsP (fun z=>ZP z.E Za ld rfl (BI) (kr0 rfl)) qs0))))))))))))))) ?_
    ·intro a w u hE hM
     refine Zg (seg:=[(Value.int .u64 (IntKind.u64.wrap ((IntKind.u64.wrap ((IntKind.u64.wrap (s6.1 * 1099511628211)) + (bI x18))) + 11)))]) hE hM Za rfl rfl rfl Bp rfl (Ur (pre:=[[v0_1],[vI 0]]) ck rfl) Bz (XC (pre:=[[v0_1],[vI 0]]) ck rfl) fun w a hM hE=>Zh (Z9 (Zz (wp_region_lit (Zd hE rfl fun a hE=>Zl hE rfl rfl rfl fun a hE=>Zc hE rfl fun a hE=>Zh (Zi ?_)))))
     exact ⟨_,(ois hF12),hE.sub ⟨rfl,rfl,rfl,trivial⟩,hM⟩
   ·intro hb16
    have hF12:=Zt hF12 hb16
    refine wp_exit (Zq (Zq (Yi ?_)))
    obtain rfl:=hx8 _ (ois hF12)
    refine Zi ?_
    exact ⟨hE.sub ⟨rfl,trivial⟩,hM⟩
 ·skip
  rintro a w ⟨hE,hM⟩
  refine Zz (Zb (Zd hE rfl fun a hE=>Zc hE rfl fun a hE=>Ze ?_))
  obtain rfl:=Option.some.inj hF5
  exact wp_ret (Z2 hE rfl (ZF hE rfl) ⟨_,rfl,b1,rfl,hM⟩)
def ZD (p0_0 : (List UInt8)) (p0 : (Int × Int)) (p1 : Int) : Option ((Int × Int) × Int) :=
 if (decide (p1 < 1)) = true then (some ((p0.1,p0.2),0)) else (((some (decide (p0.1 < (p0_0.length : Int))) : Option (Bool)).bind fun j5=>if j5 = true then (((idx p0_0 p0.1).bind fun x15=>some (wr ((IntKind.i64.wrap (wru (BitVec.ofInt 64 (Kh (IntKind.u64.wrap ((IntKind.u64.wrap (p0.2 * 6364136223846793005)) + 1442695040888963407)) 33) &&& BitVec.ofInt 64 16777215).toNat)) + (bI x15))) : Option (Int)).bind fun j11=>some (wr (p0.1 + 1),j11)) else (some (p0.1,IntKind.i64.wrap (wru (BitVec.ofInt 64 (Kh (IntKind.u64.wrap ((IntKind.u64.wrap (p0.2 * 6364136223846793005)) + 1442695040888963407)) 33) &&& BitVec.ofInt 64 16777215).toNat))) : Option (Int × Int)).bind fun j2=>(QO p1).bind fun _=>some ((j2.1,IntKind.u64.wrap ((IntKind.u64.wrap (p0.2 * 6364136223846793005)) + 1442695040888963407)),Int.tmod j2.2 p1))
theorem ZG (St : Nat → Prop) (W w0 : World) (R : Item) (pb0 : Nat) (p0_0 : (List UInt8)) (v0_0 : Value) (hv0_0 : Rep.sat St W p0_0 [v0_0] []) (p0 : (Int × Int)) (p1 : Int) (hM : M St W w0 [raw pb0 (cat [[v0_0],[vI p0.1],[(Value.int .u64 p0.2)]]),R]) (r : (Int × Int) × Int) (hF : ZD p0_0 p0 p1 = some r) :
  Calls Tryz.prog 36 [(ptr pb0 0),vI p1].toArray w0 (fun en w'=>∃ v,en = .returned v ∧ (v = (vI r.2) ∧ M St W w' [raw pb0 (cat [[v0_0],[vI r.1.1],[(Value.int .u64 r.1.2)]]),R])):=by
 refine ce Tryz.func36 ?_
 intro a hE
 unfold ZD at hF
 refine Zb (Zc hE rfl fun a hE=>Ze (wp_seq (Zb (Zd hE rfl fun a hE=>Zl hE rfl rfl rfl fun a hE=>Ze ?_))))
 refine Zr hE rfl ?_ ?_
 ·intro hb1
  have hF:=Zu hF hb1
  refine Zb (Zc hE rfl fun a hE=>Ze ?_)
  obtain rfl:=Option.some.inj hF
  exact wp_ret (ZI (Z2 hE rfl (ZF hE rfl) ⟨_,rfl,rfl,hM⟩))
 ·intro hb1
  have hF:=Zt hF hb1
  refine wp_skip (Zz (Zb (Zd hE rfl fun a hE=>Zd hE rfl fun a hE=>ZV hE Za ld rfl fun a hE=>ZJ hE rfl (BI) fun a hE=>ZR (v:=(Value.int .u64 p0.2)) hE rfl Bp rfl (At.cat (pre:=[[v0_0],[vI p0.1]]) hM.rawAt0 ck) fun a hE=>Zl hE rfl rfl rfl fun a hE=>Zl hE rfl rfl rfl fun a hE=>ZV hE Za ld rfl fun a hE=>ZJ hE rfl (BI) fun a hE=>Zg (seg:=[(Value.int .u64 (IntKind.u64.wrap ((IntKind.u64.wrap (p0.2 * 6364136223846793005)) + 1442695040888963407)))]) hE hM Za rfl rfl rfl Bp rfl (Ur (pre:=[[v0_0],[vI p0.1]]) ck rfl) Bz (XC (pre:=[[v0_0],[vI p0.1]]) ck rfl) fun w a hM hE=>Ze (Zb (Zd hE rfl fun a hE=>ZV hE Za ld rfl ?_))))); intro a hE
  refine ZJ hE rfl (BI) fun a hE=>ZR (v:=(Value.int .u64 (IntKind.u64.wrap ((IntKind.u64.wrap (p0.2 * 6364136223846793005)) + 1442695040888963407)))) hE rfl Bp rfl (At.cat (pre:=[[v0_0],[vI p0.1]]) hM.rawAt0 ck) fun a hE=>HX hE Za ld rfl rfl (qo _ _ (by decide)) fun a hE=>Zl hE rfl rfl rfl fun a hE=>Q4 hE Za ld rfl Tryz.underlying55 Tryz.underlying2 fun a hE=>Zc hE rfl fun a hE=>Ze ?_
  obtain ⟨j2,hl3,hF4⟩:=bind_some hF
  refine ZQ (fun a w=>Env 58 a [(1,vI p1),(5,vI j2.2)] ∧ M St W w [raw pb0 (cat [[v0_0],[vI j2.1],[(Value.int .u64 (IntKind.u64.wrap ((IntKind.u64.wrap (p0.2 * 6364136223846793005)) + 1442695040888963407)))]]),R]) ?_ ?_
  ·skip
   obtain ⟨j5,hl6,hF7⟩:=bind_some hl3
   refine ZQ (fun a w=>Env 58 a [(0,(ptr pb0 0)),(1,vI p1),(5,(vI (IntKind.i64.wrap (wru (BitVec.ofInt 64 (Kh (IntKind.u64.wrap ((IntKind.u64.wrap (p0.2 * 6364136223846793005)) + 1442695040888963407)) 33) &&& BitVec.ofInt 64 16777215).toNat)))),(33,vT j5)] ∧ M St W w [raw pb0 (cat [[v0_0],[vI p0.1],[(Value.int .u64 (IntKind.u64.wrap ((IntKind.u64.wrap (p0.2 * 6364136223846793005)) + 1442695040888963407)))]]),R]) ?_ ?_
   ·skip
    refine Yl [24,25,26,27,28,29,30,31,32,33] Xm rfl rfl (by decide) rfl hE hM (qsP (fun z=>Zj z.E Za ld rfl (kr0 rfl)) (qsP (fun z=>ZV z.E Za ld rfl (kr0 rfl)) (qsP (fun z=>ZP z.E Za ld rfl (zp) (kr0 rfl)) (qsP (fun z=>Z0 (v:=(vI p0.1)) z.E Za ld rfl ty3 rfl (At.cat (pre:=[[v0_0]]) (z.M.rawAt0) ck) (kr0 rfl)) (qsP (fun z=>Zj z.E Za ld rfl (kr0 rfl)) (qsP (fun z=>ZV z.E Za ld rfl (kr0 rfl)) (qsP (fun z=>ZP z.E Za ld rfl (qx) (kr0 rfl)) (qsP (fun z=>Z0 (v:=v0_0) z.E Za ld rfl ty22 rfl (At.cat (pre:=[]) (z.M.rawAt0) cl0) (kr0 rfl)) (qsP (fun z=>AE z.E Za ld rfl Tryz.underlying22 (z.M.rd hv0_0) (kr0 rfl)) (qsP (fun z=>Yk z.E Za ld rfl rfl rfl (kr0 rfl)) qs0)))))))))) ?_
    ·intro a w u hE hM
     refine Zh ?_
     obtain rfl:=Option.some.inj hl6
     refine Zi ?_
     exact ⟨hE.sub ⟨rfl,rfl,rfl,rfl,trivial⟩,hM⟩
   ·skip
    rintro a w ⟨hE,hM⟩
    refine Zr hE rfl ?_ ?_
    ·intro hb10
     have hF7:=Zu hF7 hb10
     obtain ⟨j11,hl12,hF13⟩:=bind_some hF7
     refine ZQ (fun a w=>Env 58 a [(0,(ptr pb0 0)),(1,vI p1),(5,vI j11)] ∧ M St W w [raw pb0 (cat [[v0_0],[vI p0.1],[(Value.int .u64 (IntKind.u64.wrap ((IntKind.u64.wrap (p0.2 * 6364136223846793005)) + 1442695040888963407)))]]),R]) ?_ ?_
     ·skip
      obtain ⟨x15,hi17,hl12⟩:=bix hl12
      refine Yl [34,35,36,37,38,39,40,41,42,43,44,45,46] Xm rfl rfl (by decide) rfl hE hM (qsP (fun z=>Zj z.E Za ld rfl (kr0 rfl)) (qsP (fun z=>Zj z.E Za ld rfl (kr0 rfl)) (qsP (fun z=>ZV z.E Za ld rfl (kr0 rfl)) (qsP (fun z=>ZP z.E Za ld rfl (qx) (kr0 rfl)) (qsP (fun z=>Z0 (v:=v0_0) z.E Za ld rfl ty22 rfl (At.cat (pre:=[]) (z.M.rawAt0) cl0) (kr0 rfl)) (qsP (fun z=>Zj z.E Za ld rfl (kr0 rfl)) (qsP (fun z=>ZV z.E Za ld rfl (kr0 rfl)) (qsP (fun z=>ZP z.E Za ld rfl (zp) (kr0 rfl)) (qsP (fun z=>Z0 (v:=(vI p0.1)) z.E Za ld rfl ty3 rfl (At.cat (pre:=[[v0_0]]) (z.M.rawAt0) ck) (kr0 rfl)) (qsP (fun z=>X7 z.E Za ld rfl rfl Tryz.underlying22 ty5 (z.M.rd hv0_0) hi17.1 (kr0 rfl)) (qsP (fun z=>Z0 (v:=(vB x15)) z.E Za ld rfl ty5 rfl (Y1 (z.M.rd hv0_0) hi17.2) (kr0 rfl)) (qsP (fun z=>Ku z.E Za ld rfl Tryz.underlying5 Tryz.underlying2 (kr0 rfl)) (qsP (v:=(vI (wr ((IntKind.i64.wrap (wru (BitVec.ofInt 64 (Kh (IntKind.u64.wrap ((IntKind.u64.wrap (p0.2 * 6364136223846793005)) + 1442695040888963407)) 33) &&& BitVec.ofInt 64 16777215).toNat)) + (bI x15))))) (fun z=>Yk z.E Za ld rfl rfl rfl (kr0 rfl)) qs0))))))))))))) ?_
      ·intro a w u hE hM
       refine Zc hE rfl fun a hE=>Zh ?_
       obtain rfl:=Option.some.inj hl12
       refine Zi ?_
       exact ⟨hE.sub ⟨rfl,rfl,rfl,trivial⟩,hM⟩
     ·skip
      rintro a w ⟨hE,hM⟩
      refine wp_region_lit (Zd hE rfl fun a hE=>Zd hE rfl fun a hE=>ZV hE Za ld rfl fun a hE=>ZJ hE rfl (zp) fun a hE=>ZR (v:=(vI p0.1)) hE rfl ty3 rfl (At.cat (pre:=[[v0_0]]) hM.rawAt0 ck) fun a hE=>Zl hE rfl rfl rfl fun a hE=>ZV hE Za ld rfl fun a hE=>ZJ hE rfl (zp) fun a hE=>Zg (seg:=[(vI (wr (p0.1 + 1)))]) hE hM Za rfl rfl rfl ty3 rfl (Ur (pre:=[[v0_0]]) ck rfl) (Flat.cell (wr (p0.1 + 1) : Int)) (XC (pre:=[[v0_0]]) ck rfl) fun w a hM hE=>Zh ?_)
      obtain rfl:=Option.some.inj hF13
      refine Zi ?_
      exact ⟨hE.sub ⟨rfl,rfl,trivial⟩,hM⟩
    ·intro hb10
     have hF7:=Zt hF7 hb10
     refine wp_skip ?_
     obtain rfl:=Option.some.inj hF7
     refine Zi ?_
     exact ⟨hE.sub ⟨rfl,rfl,trivial⟩,hM⟩
  ·skip
   rintro a w ⟨hE,hM⟩
   refine Zb (Zd hE rfl fun a hE=>Zd hE rfl ?_); intro a hE
   obtain ⟨_,e21,hF4⟩:=bind_some hF4
   have e21:=HA e21
   refine Zl hE rfl rfl (KA _ _ e21) fun a hE=>Zc hE rfl fun a hE=>Ze ?_
   obtain rfl:=Option.some.inj hF4
   exact wp_ret (Z2 hE rfl (ZF hE rfl) ⟨_,rfl,rfl,hM⟩)
def Y0 (p0_0 : (List UInt8)) (p0 : (Int × Int)) (p1 : (List Int)) : Option ((Int × Int) × Int) :=
 (ZD p0_0 (p0.1,p0.2) (p1.length : Int)).bind fun r1=>(idx p1 r1.2).bind fun x3=>some ((r1.1.1,r1.1.2),x3)
theorem W7 (St : Nat → Prop) (W w0 : World) (R : Item) (pb0 : Nat) (p0_0 : (List UInt8)) (v0_0 : Value) (hv0_0 : Rep.sat St W p0_0 [v0_0] []) (p0 : (Int × Int)) (p1 : (List Int)) (v1 : Value) (hM : M St W w0 [raw pb0 (cat [[v0_0],[vI p0.1],[(Value.int .u64 p0.2)]]),osl NoB (p1 : List Int) v1,R]) (r : (Int × Int) × Int) (hF : Y0 p0_0 p0 p1 = some r) :
  Calls Tryz.prog 47 [(ptr pb0 0),v1].toArray w0 (fun en w'=>∃ v,en = .returned v ∧ (v = (vI r.2) ∧ M St W w' [raw pb0 (cat [[v0_0],[vI r.1.1],[(Value.int .u64 r.1.2)]]),osl NoB (p1 : List Int) v1,R])):=by
 refine ce Tryz.func47 ?_
 intro a hE
 unfold Y0 at hF
 refine Zb (Zc hE rfl fun a hE=>Ze (Zb (Zd hE rfl fun a hE=>Zd hE rfl fun a hE=>Zd hE rfl fun a hE=>Wm hE rfl Tryz.underlying44 (hM.sl (pre:=[_]) noB) ?_))); intro a hE
 have hM:=M.tailP (m:=[_]) hM
 obtain ⟨r1,e2,hF⟩:=bind_some hF
 refine Zo hE rfl Uu (ZG _ _ _ _ pb0 p0_0 v0_0 hv0_0 (p0.1,p0.2) (p1.length : Int) hM r1 e2) ?_
 rintro v w a ⟨rfl,hM⟩ hE
 have hM:=M.tailU (m:=[_]) hM
 simp only [List.cons_append,List.nil_append] at hM
 obtain ⟨x3,hi5,hF⟩:=bix hF
 refine XM hE rfl rfl Tryz.underlying44 ty2 (hM.sl (pre:=[_]) noB) hi5.1 fun a hE=>ZR (v:=(vI x3)) hE rfl ty2 rfl (Y1 (hM.sl (pre:=[_]) noB) hi5.2) fun a hE=>Zc hE rfl fun a hE=>Ze ?_
 obtain rfl:=Option.some.inj hF
 exact wp_ret (Z2 hE rfl (ZF hE rfl) ⟨_,rfl,rfl,hM⟩)
def Xu (p0 : Int) (s4 : Int × Int × Int) : Option (Fl (Int × Int × Int) Int) :=
 if (decide (s4.2.2 > 0)) = true then (((if ((Int.tmod s4.2.2 2) == 1) = true then (some (Jn s4.1 s4.2.1)) else (some s4.1) : Option (Int)).bind fun j12=>(if (decide ((wr (s4.2.1 * 2)) ≥ 256)) = true then (some (Jn (wr (s4.2.1 * 2)) p0)) else (some (wr (s4.2.1 * 2))) : Option (Int)).bind fun j18=>some (j12,j18) : Option (Int × Int)).bind fun j9=>some (Fl.nx (j9.1,j9.2,wr (Int.tdiv s4.2.2 2)))) else (some (Fl.ex s4.1))
def Ye (p0 : Int) (p1 : UInt8) (p2 : UInt8) : Option (UInt8) :=
 (ZK (Xu p0) (0,bI p1,bI p2)).bind fun j1=>some (ZH j1)
theorem Y7 (w0 : World) (p0 : Int) (p1 : UInt8) (p2 : UInt8) (r : UInt8) (hF : Ye p0 p1 p2 = some r) :
  Calls Tryz.prog 102 [vI p0,vB p1,vB p2].toArray w0 (Rt w0 (vB r)):=by
 refine ce Tryz.func102 ?_
 intro a hE
 have hM:=M.start w0
 unfold Ye at hF
 refine Zb (Zc hE rfl fun a hE=>Ze (Zb (Zd hE rfl fun a hE=>Ku hE Za ld rfl Tryz.underlying5 Tryz.underlying2 fun a hE=>Zc hE rfl fun a hE=>Zc hE rfl fun a hE=>Ze (wp_seq (Zb (Zd hE rfl fun a hE=>Ku hE Za ld rfl Tryz.underlying5 Tryz.underlying2 fun a hE=>Zc hE rfl fun a hE=>Ze ?_))))))
 obtain ⟨j1,hl2,hF3⟩:=bind_some hF
 refine ZS (fun a w=>Env 33 a [(7,vI j1)] ∧ M (Old w0) w0 w []) ?_ ?_
 ·skip
  refine wp_block ?_
  refine ZO (fun (s4 : Int × Int × Int) a w=>Env 33 a [(0,vI p0),(7,vI s4.1),(8,vI s4.2.1),(9,vI s4.2.2)] ∧ M (Old w0) w0 w []) hl2 ⟨hE.sub ⟨rfl,rfl,rfl,rfl,trivial⟩,hM⟩ ?_
  rintro s4 a w ⟨hE,hM⟩ o7 hs5 hx6
  unfold Xu at hs5
  refine wp_seq (Zb (Zd hE rfl fun a hE=>Zl hE rfl rfl rfl fun a hE=>Ze ?_))
  refine Zr hE rfl ?_ ?_
  ·intro hb8
   have hs5:=Zu hs5 hb8
   refine wp_skip (Zz ?_)
   obtain ⟨j9,hl10,hF11⟩:=bind_some hs5
   refine ZQ (fun a w=>Env 33 a [(0,vI p0),(7,vI j9.1),(8,vI j9.2),(9,vI s4.2.2)] ∧ M (Old w0) w0 w []) ?_ ?_
   ·skip
    refine wp_block ?_
    obtain ⟨j12,hl13,hF14⟩:=bind_some hl10
    refine ZQ (fun a w=>Env 33 a [(0,vI p0),(7,vI j12),(8,vI s4.2.1),(9,vI s4.2.2)] ∧ M (Old w0) w0 w []) ?_ ?_
    ·skip
     refine Zb (Zd hE rfl fun a hE=>Zl hE rfl rfl (KA _ _ (by decide)) fun a hE=>Zl hE rfl rfl rfl fun a hE=>Ze ?_)
     refine Zr hE rfl ?_ ?_
     ·intro hb15
      have hl13:=Zu hl13 hb15
      refine wp_region_lit (Zd hE rfl fun a hE=>Zd hE rfl fun a hE=>Zl hE rfl rfl rfl fun a hE=>Zc hE rfl fun a hE=>Zh ?_)
      obtain rfl:=Option.some.inj hl13
      refine Zi ?_
      exact ⟨hE.sub ⟨rfl,rfl,rfl,rfl,trivial⟩,hM⟩
     ·intro hb15
      have hl13:=Zt hl13 hb15
      refine wp_skip ?_
      obtain rfl:=Option.some.inj hl13
      refine Zi ?_
      exact ⟨hE.sub ⟨rfl,rfl,rfl,rfl,trivial⟩,hM⟩
    ·skip
     rintro a w ⟨hE,hM⟩
     refine Zb (Zd hE rfl fun a hE=>Zl hE rfl rfl rfl fun a hE=>Zc hE rfl fun a hE=>Ze (Zb (Zd hE rfl fun a hE=>Zl hE rfl rfl rfl fun a hE=>Ze ?_)))
     obtain ⟨j18,hl19,hF20⟩:=bind_some hF14
     refine ZS (fun a w=>Env 33 a [(0,vI p0),(7,vI j12),(8,vI j18),(9,vI s4.2.2)] ∧ M (Old w0) w0 w []) ?_ ?_
     ·skip
      refine Zr hE rfl ?_ ?_
      ·intro hb21
       have hl19:=Zu hl19 hb21
       refine wp_region_lit (Zd hE rfl fun a hE=>Zd hE rfl fun a hE=>Zl hE rfl rfl rfl fun a hE=>Zc hE rfl fun a hE=>Zh ?_)
       obtain rfl:=Option.some.inj hl19
       refine Zi ?_
       exact ⟨hE.sub ⟨rfl,rfl,rfl,rfl,trivial⟩,hM⟩
      ·intro hb21
       have hl19:=Zt hl19 hb21
       refine wp_skip ?_
       obtain rfl:=Option.some.inj hl19
       refine Zi ?_
       exact ⟨hE.sub ⟨rfl,rfl,rfl,rfl,trivial⟩,hM⟩
     ·skip
      rintro a w ⟨hE,hM⟩
      refine Z9 ?_
      obtain rfl:=Option.some.inj hF20
      refine Zi ?_
      exact ⟨hE.sub ⟨rfl,rfl,rfl,rfl,trivial⟩,hM⟩
   ·skip
    rintro a w ⟨hE,hM⟩
    refine wp_region_lit (Zd hE rfl fun a hE=>Zl hE rfl rfl (JE _ _ (by decide)) fun a hE=>Zc hE rfl fun a hE=>Zh (Zi ?_))
    exact ⟨_,(ois hF11),hE.sub ⟨rfl,rfl,rfl,rfl,trivial⟩,hM⟩
  ·intro hb8
   have hs5:=Zt hs5 hb8
   refine wp_exit (Zq (Zq (Yi ?_)))
   obtain rfl:=hx6 _ (ois hs5)
   refine Zi ?_
   exact ⟨hE.sub ⟨rfl,trivial⟩,hM⟩
 ·skip
  rintro a w ⟨hE,hM⟩
  refine Zz (Zb (Zd hE rfl fun a hE=>YX hE Za ld rfl Tryz.underlying2 Tryz.underlying5 fun a hE=>Zc hE rfl fun a hE=>Ze ?_))
  obtain rfl:=Option.some.inj hF3
  exact wp_ret (kr1 hE rfl rfl hM.kept)
def YO (p0 : Int) (s16 : UInt8 × UInt8 × Int) : Option (Fl (UInt8 × UInt8 × Int) UInt8) :=
 if (decide (s16.2.2 > 0)) = true then (((if ((Int.tmod s16.2.2 2) == 1) = true then ((Ye p0 s16.1 s16.2.1).bind fun r28=>some r28) else (some s16.1) : Option (UInt8)).bind fun j24=>(Ye p0 s16.2.1 s16.2.1).bind fun r32=>some (j24,r32) : Option (UInt8 × UInt8)).bind fun j21=>some (Fl.nx (j21.1,j21.2,wr (Int.tdiv s16.2.2 2)))) else (some (Fl.ex s16.1))
def Xw (p0 : Int) (p1 : Int) (s8 : (Vector UInt8 256) × Int) : Option (Fl ((Vector UInt8 256) × Int) (Vector UInt8 256)) :=
 if (decide (s8.2 < 256)) = true then ((ZK (YO p0) (1,ZH s8.2,p1)).bind fun j13=>(ZB s8.1 s8.2).bind fun x37=>some (Fl.nx ((s8.1.setIfInBounds (s8.2).toNat j13),wr (s8.2 + 1)))) else (some (Fl.ex s8.1))
def Xn (p0 : Int) (p1 : Int) : Option ((Vector UInt8 256)) :=
 (ZK (Xw p0 p1) ((Vector.replicate 256 (0 : UInt8)),0)).bind fun j5=>some j5
theorem Qd (w0 : World) (p0 : Int) (p1 : Int) (r : (Vector UInt8 256)) (hF : Xn p0 p1 = some r) :
  Calls Tryz.prog 83 [vI p0,vI p1].toArray w0 (Rt w0 (Value.agg (enc r).toArray)):=by
 refine ce Tryz.func83 ?_
 intro a hE
 have hM:=M.start w0
 unfold Xn at hF
 refine Zb (Zs hE hM YN fun b1 w a hM hE=>Ze (Zb (Z8 (parts:=[]) (vs:=[]) (cs:=enc (Vector.replicate 256 (0 : UInt8))) hE Za ld rfl rfl YN rfl ty5 ZZ fun a hE=>Zs hE hM YN fun b3 w a hM hE=>Zg (seg:=enc (Vector.replicate 256 (0 : UInt8))) (cs':=enc (Vector.replicate 256 (0 : UInt8))) hE hM Za rfl rfl rfl YN (Flat.len _) (zle flq) (Flat.cell _) (Zf flq) fun w a hM hE=>Ze (wp_seq (Zb (Zc hE rfl fun a hE=>Ze ?_))))))
 obtain ⟨j5,hl6,hF7⟩:=bind_some hF
 refine ZS (fun a w=>Env 37 a [(4,(ptr b1 0)),(5,(ptr b3 0))] ∧ M (Old w0) w0 w [raw b3 (enc j5),raw b1 (enc (Vector.replicate 256 (0 : UInt8)))]) ?_ ?_
 ·skip
  refine wp_block ?_
  refine ZO (fun (s8 : (Vector UInt8 256) × Int) a w=>Env 37 a [(0,vI p0),(1,vI p1),(4,(ptr b1 0)),(5,(ptr b3 0)),(6,vI s8.2)] ∧ M (Old w0) w0 w [raw b3 (enc s8.1),raw b1 (enc (Vector.replicate 256 (0 : UInt8)))]) hl6 ⟨hE.sub ⟨rfl,rfl,rfl,rfl,rfl,trivial⟩,hM⟩ ?_
  rintro s8 a w ⟨hE,hM⟩ o11 hs9 hx10
  unfold Xw at hs9
  refine wp_seq (Zb (Zd hE rfl fun a hE=>Zl hE rfl rfl rfl fun a hE=>Ze ?_))
  refine Zr hE rfl ?_ ?_
  ·intro hb12
   have hs9:=Zu hs9 hb12
   refine wp_skip (Zz (wp_seq (wp_block (Zb (Zd hE rfl fun a hE=>YX hE Za ld rfl Tryz.underlying3 Tryz.underlying5 fun a hE=>Zc hE rfl fun a hE=>Zc hE rfl fun a hE=>Ze (wp_seq (Zb (Zd hE rfl fun a hE=>Zc hE rfl fun a hE=>Ze ?_))))))))
   obtain ⟨j13,hl14,hF15⟩:=bind_some hs9
   refine ZS (fun a w=>Env 37 a [(0,vI p0),(1,vI p1),(4,(ptr b1 0)),(5,(ptr b3 0)),(6,vI s8.2),(7,vB j13)] ∧ M (Old w0) w0 w [raw b3 (enc s8.1),raw b1 (enc (Vector.replicate 256 (0 : UInt8)))]) ?_ ?_
   ·skip
    refine wp_block ?_
    refine ZO (fun (s16 : UInt8 × UInt8 × Int) a w=>Env 37 a [(0,vI p0),(1,vI p1),(4,(ptr b1 0)),(5,(ptr b3 0)),(6,vI s8.2),(7,vB s16.1),(8,vB s16.2.1),(9,vI s16.2.2)] ∧ M (Old w0) w0 w [raw b3 (enc s8.1),raw b1 (enc (Vector.replicate 256 (0 : UInt8)))]) hl14 ⟨hE.sub ⟨rfl,rfl,rfl,rfl,rfl,rfl,rfl,rfl,trivial⟩,hM⟩ ?_
    rintro s16 a w ⟨hE,hM⟩ o19 hs17 hx18
    unfold YO at hs17
    refine wp_seq (Zb (Zd hE rfl fun a hE=>Zl hE rfl rfl rfl fun a hE=>Ze ?_))
    refine Zr hE rfl ?_ ?_
    ·intro hb20
     have hs17:=Zu hs17 hb20
     refine wp_skip (Zz ?_)
     obtain ⟨j21,hl22,hF23⟩:=bind_some hs17
     refine ZQ (fun a w=>Env 37 a [(0,vI p0),(1,vI p1),(4,(ptr b1 0)),(5,(ptr b3 0)),(6,vI s8.2),(7,vB j21.1),(8,vB j21.2),(9,vI s16.2.2)] ∧ M (Old w0) w0 w [raw b3 (enc s8.1),raw b1 (enc (Vector.replicate 256 (0 : UInt8)))]) ?_ ?_
     ·skip
      refine wp_block ?_
      obtain ⟨j24,hl25,hF26⟩:=bind_some hl22
      refine ZQ (fun a w=>Env 37 a [(0,vI p0),(1,vI p1),(4,(ptr b1 0)),(5,(ptr b3 0)),(6,vI s8.2),(7,vB j24),(8,vB s16.2.1),(9,vI s16.2.2)] ∧ M (Old w0) w0 w [raw b3 (enc s8.1),raw b1 (enc (Vector.replicate 256 (0 : UInt8)))]) ?_ ?_
      ·skip
       refine Zb (Zd hE rfl fun a hE=>Zl hE rfl rfl (KA _ _ (by decide)) fun a hE=>Zl hE rfl rfl rfl fun a hE=>Ze ?_)
       refine Zr hE rfl ?_ ?_
       ·intro hb27
        have hl25:=Zu hl25 hb27
        refine wp_region_lit (Zd hE rfl fun a hE=>Zd hE rfl fun a hE=>Zd hE rfl ?_); intro a hE
        obtain ⟨r28,e29,hl25⟩:=bind_some hl25
        refine Zo hE rfl Jy (Y7 _ p0 s16.1 s16.2.1 r28 e29) ?_
        rintro v w a ⟨rfl,hK⟩ hE
        have hM:=hM.keep hK
        refine Zc hE rfl fun a hE=>Zh ?_
        obtain rfl:=Option.some.inj hl25
        refine Zi ?_
        exact ⟨hE.sub ⟨rfl,rfl,rfl,rfl,rfl,rfl,rfl,rfl,trivial⟩,hM⟩
       ·intro hb27
        have hl25:=Zt hl25 hb27
        refine wp_skip ?_
        obtain rfl:=Option.some.inj hl25
        refine Zi ?_
        exact ⟨hE.sub ⟨rfl,rfl,rfl,rfl,rfl,rfl,rfl,rfl,trivial⟩,hM⟩
      ·skip
       rintro a w ⟨hE,hM⟩
       refine wp_region_lit (Zd hE rfl fun a hE=>Zd hE rfl fun a hE=>Zd hE rfl ?_); intro a hE
       obtain ⟨r32,e33,hF26⟩:=bind_some hF26
       refine Zo hE rfl Jy (Y7 _ p0 s16.2.1 s16.2.1 r32 e33) ?_
       rintro v w a ⟨rfl,hK⟩ hE
       have hM:=hM.keep hK
       refine Zc hE rfl fun a hE=>Zh (Z9 ?_)
       obtain rfl:=Option.some.inj hF26
       refine Zi ?_
       exact ⟨hE.sub ⟨rfl,rfl,rfl,rfl,rfl,rfl,rfl,rfl,trivial⟩,hM⟩
     ·skip
      rintro a w ⟨hE,hM⟩
      refine wp_region_lit (Zd hE rfl fun a hE=>Zl hE rfl rfl (JE _ _ (by decide)) fun a hE=>Zc hE rfl fun a hE=>Zh (Zi ?_))
      exact ⟨_,(ois hF23),hE.sub ⟨rfl,rfl,rfl,rfl,rfl,rfl,rfl,rfl,trivial⟩,hM⟩
    ·intro hb20
     have hs17:=Zt hs17 hb20
     refine wp_exit (Zq (Zq (Yi ?_)))
     obtain rfl:=hx18 _ (ois hs17)
     refine Zi ?_
     exact ⟨hE.sub ⟨rfl,rfl,rfl,rfl,rfl,rfl,trivial⟩,hM⟩
   ·skip
    rintro a w ⟨hE,hM⟩
    refine Zz (wp_region_lit (Zd hE rfl fun a hE=>Zd hE rfl ?_)); intro a hE
    obtain ⟨x37,hi36,hF15⟩:=bvx hF15
    refine Zw hE rfl rfl Tryz.underlying25 ty5 hi36.1 fun a hE=>Zg (seg:=[vB j13]) (cs':=enc (s8.1.setIfInBounds (s8.2).toNat j13)) hE hM Za rfl rfl rfl ty5 rfl (ZE (v:=s8.1) (x:=j13) hi36.1) (Flat.cell (j13 : UInt8)) (Zy (v:=s8.1) (x:=j13) hi36.1) fun w a hM hE=>Zh (Z9 (Zz (wp_region_lit (Zd hE rfl fun a hE=>Zl hE rfl rfl rfl fun a hE=>Zc hE rfl fun a hE=>Zh (Zi ?_)))))
    exact ⟨_,(ois hF15),hE.sub ⟨rfl,rfl,rfl,rfl,rfl,trivial⟩,hM⟩
  ·intro hb12
   have hs9:=Zt hs9 hb12
   refine wp_exit (Zq (Zq (Yi ?_)))
   obtain rfl:=hx10 _ (ois hs9)
   refine Zi ?_
   exact ⟨hE.sub ⟨rfl,rfl,trivial⟩,hM⟩
 ·skip
  rintro a w ⟨hE,hM⟩
  refine Zz (Zb (Zk hE rfl YN rfl hM.rawAt0 (Flat.len _) ?_)); intro a hE
  have hM:=hM.pull1
  refine Zg (seg:=enc j5) (cs':=enc j5) hE hM Za rfl rfl rfl YN (Flat.len _) (zle flq) (Flat.cell _) (Zf flq) fun w a hM hE=>Ze ?_
  obtain rfl:=Option.some.inj hF7
  have hq40 : ZX Tryz.prog _ _ (.cell 4 25) _:=ZN hE rfl YN rfl hM.rawAt0 (Flat.len _) rfl
  exact wp_ret (Z2 hE rfl hq40 ⟨_,rfl,rfl,hM.kept⟩)
def Wr (p0 : UInt8) (p1 : Int) : Option (UInt8) :=
 (XE (IntKind.u64.wrap p1)).bind fun _=>some (ZH (andI (orI (K0 (bI p0) (IntKind.u64.wrap p1)) (Kh (K0 (bI p0) (IntKind.u64.wrap p1)) 8)) 255))
theorem BR (w0 : World) (p0 : UInt8) (p1 : Int) (r : UInt8) (hF : Wr p0 p1 = some r) :
  Calls Tryz.prog 103 [vB p0,vI p1].toArray w0 (Rt w0 (vB r)):=by
 refine ce Tryz.func103 ?_
 intro a hE
 have hM:=M.start w0
 unfold Wr at hF
 refine Zb (Zc hE rfl fun a hE=>Ze (Zb (Zd hE rfl fun a hE=>Ku hE Za ld rfl Tryz.underlying5 Tryz.underlying2 fun a hE=>Zd hE rfl fun a hE=>Q4 hE Za ld rfl Tryz.underlying2 Tryz.underlying55 ?_))); intro a hE
 obtain ⟨_,e1,hF⟩:=bind_some hF
 have e1:=WS e1
 refine HX hE Za ld rfl rfl (HD _ _ e1) fun a hE=>Zc hE rfl fun a hE=>Ze (Zb (Zd hE rfl fun a hE=>Zd hE rfl fun a hE=>HX hE Za ld rfl rfl (kM _ _ (by decide)) fun a hE=>Zl hE rfl rfl rfl fun a hE=>Zl hE rfl rfl rfl fun a hE=>YX hE Za ld rfl Tryz.underlying2 Tryz.underlying5 fun a hE=>Zc hE rfl fun a hE=>Ze ?_))
 obtain rfl:=Option.some.inj hF
 exact wp_ret (kr1 hE rfl rfl hM.kept)
def Z4 (p0 : (List Int)) (s8 : (Vector UInt8 256) × Int) (s16 : UInt8 × Int) : Option (Fl (UInt8 × Int) UInt8) :=
 if (decide (s16.2 < (p0.length : Int))) = true then ((idx p0 s16.2).bind fun x21=>(Wr (ZH s8.2) x21).bind fun r24=>some (Fl.nx (s16.1 ^^^ r24,wr (s16.2 + 1)))) else (some (Fl.ex s16.1))
def YH (p0 : (List Int)) (p1 : UInt8) (s8 : (Vector UInt8 256) × Int) : Option (Fl ((Vector UInt8 256) × Int) (Vector UInt8 256)) :=
 if (decide (s8.2 < 256)) = true then ((ZK (Z4 p0 s8) (p1,0)).bind fun j13=>(ZB s8.1 s8.2).bind fun x28=>some (Fl.nx ((s8.1.setIfInBounds (s8.2).toNat j13),wr (s8.2 + 1)))) else (some (Fl.ex s8.1))
def Yw (p0 : (List Int)) (p1 : UInt8) : Option ((Vector UInt8 256)) :=
 (ZK (YH p0 p1) ((Vector.replicate 256 (0 : UInt8)),0)).bind fun j5=>some j5
theorem UZ (w0 : World) (p0 : (List Int)) (v0_1 : Value) (hv0_1 : Ro w0 p0 [v0_1]) (p1 : UInt8) (r : (Vector UInt8 256)) (hF : Yw p0 p1 = some r) :
  Calls Tryz.prog 84 [v0_1,vB p1].toArray w0 (Rt w0 (Value.agg (enc r).toArray)):=by
 refine ce Tryz.func84 ?_
 intro a hE
 have hM:=M.start w0
 unfold Yw at hF
 refine Zb (Zs hE hM YN fun b1 w a hM hE=>Ze (Zb (Z8 (parts:=[]) (vs:=[]) (cs:=enc (Vector.replicate 256 (0 : UInt8))) hE Za ld rfl rfl YN rfl ty5 ZZ fun a hE=>Zs hE hM YN fun b3 w a hM hE=>Zg (seg:=enc (Vector.replicate 256 (0 : UInt8))) (cs':=enc (Vector.replicate 256 (0 : UInt8))) hE hM Za rfl rfl rfl YN (Flat.len _) (zle flq) (Flat.cell _) (Zf flq) fun w a hM hE=>Ze (wp_seq (Zb (Zc hE rfl fun a hE=>Ze ?_))))))
 obtain ⟨j5,hl6,hF7⟩:=bind_some hF
 refine ZS (fun a w=>Env 34 a [(4,(ptr b1 0)),(5,(ptr b3 0))] ∧ M (Old w0) w0 w [raw b3 (enc j5),raw b1 (enc (Vector.replicate 256 (0 : UInt8)))]) ?_ ?_
 ·skip
  refine wp_block ?_
  refine ZO (fun (s8 : (Vector UInt8 256) × Int) a w=>Env 34 a [(0,v0_1),(1,vB p1),(4,(ptr b1 0)),(5,(ptr b3 0)),(6,vI s8.2)] ∧ M (Old w0) w0 w [raw b3 (enc s8.1),raw b1 (enc (Vector.replicate 256 (0 : UInt8)))]) hl6 ⟨hE.sub ⟨rfl,rfl,rfl,rfl,rfl,trivial⟩,hM⟩ ?_
  rintro s8 a w ⟨hE,hM⟩ o11 hs9 hx10
  unfold YH at hs9
  refine wp_seq (Zb (Zd hE rfl fun a hE=>Zl hE rfl rfl rfl fun a hE=>Ze ?_))
  refine Zr hE rfl ?_ ?_
  ·intro hb12
   have hs9:=Zu hs9 hb12
   refine wp_skip (Zz (wp_seq (wp_block (Zb (Zd hE rfl fun a hE=>Zc hE rfl fun a hE=>Ze (wp_seq (Zb (Zc hE rfl fun a hE=>Ze ?_))))))))
   obtain ⟨j13,hl14,hF15⟩:=bind_some hs9
   refine ZS (fun a w=>Env 34 a [(0,v0_1),(1,vB p1),(4,(ptr b1 0)),(5,(ptr b3 0)),(6,vI s8.2),(7,vB j13)] ∧ M (Old w0) w0 w [raw b3 (enc s8.1),raw b1 (enc (Vector.replicate 256 (0 : UInt8)))]) ?_ ?_
   ·skip
    refine wp_block ?_
    refine ZO (fun (s16 : UInt8 × Int) a w=>Env 34 a [(0,v0_1),(1,vB p1),(4,(ptr b1 0)),(5,(ptr b3 0)),(6,vI s8.2),(7,vB s16.1),(8,vI s16.2)] ∧ M (Old w0) w0 w [raw b3 (enc s8.1),raw b1 (enc (Vector.replicate 256 (0 : UInt8)))]) hl14 ⟨hE.sub ⟨rfl,rfl,rfl,rfl,rfl,rfl,rfl,trivial⟩,hM⟩ ?_
    rintro s16 a w ⟨hE,hM⟩ o19 hs17 hx18
    unfold Z4 at hs17
    refine wp_seq (Zb (Zd hE rfl fun a hE=>Zd hE rfl fun a hE=>Wm hE rfl Tryz.underlying44 (hM.rd hv0_1) fun a hE=>Zl hE rfl rfl rfl fun a hE=>Ze ?_))
    refine Zr hE rfl ?_ ?_
    ·intro hb20
     have hs17:=Zu hs17 hb20
     refine wp_skip (Zz (wp_seq (wp_block (wp_region_lit (Zd hE rfl fun a hE=>Zd hE rfl fun a hE=>YX hE Za ld rfl Tryz.underlying3 Tryz.underlying5 fun a hE=>Zd hE rfl fun a hE=>Zd hE rfl ?_))))); intro a hE
     obtain ⟨x21,hi23,hs17⟩:=bix hs17
     refine XM hE rfl rfl Tryz.underlying44 ty2 (hM.rd hv0_1) hi23.1 fun a hE=>ZR (v:=(vI x21)) hE rfl ty2 rfl (Y1 (hM.rd hv0_1) hi23.2) ?_; intro a hE
     obtain ⟨r24,e25,hs17⟩:=bind_some hs17
     refine Zo hE rfl (cbm Tryz.func103) (BR _ (ZH s8.2) x21 r24 e25) ?_
     rintro v w a ⟨rfl,hK⟩ hE
     have hM:=hM.keep hK
     refine Zl hE rfl rfl (WI s16.1 r24) fun a hE=>Zc hE rfl fun a hE=>Zh (Z9 (Zz (wp_region_lit (Zd hE rfl fun a hE=>Zl hE rfl rfl rfl fun a hE=>Zc hE rfl fun a hE=>Zh (Zi ?_)))))
     exact ⟨_,(ois hs17),hE.sub ⟨rfl,rfl,rfl,rfl,rfl,rfl,rfl,trivial⟩,hM⟩
    ·intro hb20
     have hs17:=Zt hs17 hb20
     refine wp_exit (Zq (Zq (Yi ?_)))
     obtain rfl:=hx18 _ (ois hs17)
     refine Zi ?_
     exact ⟨hE.sub ⟨rfl,rfl,rfl,rfl,rfl,rfl,trivial⟩,hM⟩
   ·skip
    rintro a w ⟨hE,hM⟩
    refine Zz (wp_region_lit (Zd hE rfl fun a hE=>Zd hE rfl ?_)); intro a hE
    obtain ⟨x28,hi27,hF15⟩:=bvx hF15
    refine Zw hE rfl rfl Tryz.underlying25 ty5 hi27.1 fun a hE=>Zg (seg:=[vB j13]) (cs':=enc (s8.1.setIfInBounds (s8.2).toNat j13)) hE hM Za rfl rfl rfl ty5 rfl (ZE (v:=s8.1) (x:=j13) hi27.1) (Flat.cell (j13 : UInt8)) (Zy (v:=s8.1) (x:=j13) hi27.1) fun w a hM hE=>Zh (Z9 (Zz (wp_region_lit (Zd hE rfl fun a hE=>Zl hE rfl rfl rfl fun a hE=>Zc hE rfl fun a hE=>Zh (Zi ?_)))))
    exact ⟨_,(ois hF15),hE.sub ⟨rfl,rfl,rfl,rfl,rfl,trivial⟩,hM⟩
  ·intro hb12
   have hs9:=Zt hs9 hb12
   refine wp_exit (Zq (Zq (Yi ?_)))
   obtain rfl:=hx10 _ (ois hs9)
   refine Zi ?_
   exact ⟨hE.sub ⟨rfl,rfl,trivial⟩,hM⟩
 ·skip
  rintro a w ⟨hE,hM⟩
  refine Zz (Zb (Zk hE rfl YN rfl hM.rawAt0 (Flat.len _) ?_)); intro a hE
  have hM:=hM.pull1
  refine Zg (seg:=enc j5) (cs':=enc j5) hE hM Za rfl rfl rfl YN (Flat.len _) (zle flq) (Flat.cell _) (Zf flq) fun w a hM hE=>Ze ?_
  obtain rfl:=Option.some.inj hF7
  have hq31 : ZX Tryz.prog _ _ (.cell 4 25) _:=ZN hE rfl YN rfl hM.rawAt0 (Flat.len _) rfl
  exact wp_ret (Z2 hE rfl hq31 ⟨_,rfl,rfl,hM.kept⟩)
def XZ (p0 : (Vector UInt8 256)) (p1 : (Vector UInt8 256)) (s12 : (Vector UInt8 256) × Int) : Option (Fl ((Vector UInt8 256) × Int) (Vector UInt8 256)) :=
 if (decide (s12.2 < 256)) = true then ((ZB p0 s12.2).bind fun x18=>(ZB p1 (bI x18)).bind fun x21=>(ZB s12.1 s12.2).bind fun x24=>some (Fl.nx ((s12.1.setIfInBounds (s12.2).toNat x21),wr (s12.2 + 1)))) else (some (Fl.ex s12.1))
def Wo (p0 : (Vector UInt8 256)) (p1 : (Vector UInt8 256)) : Option ((Vector UInt8 256)) :=
 (ZK (XZ p0 p1) ((Vector.replicate 256 (0 : UInt8)),0)).bind fun j9=>some j9
theorem KX (w0 : World) (p0 : (Vector UInt8 256)) (p1 : (Vector UInt8 256)) (r : (Vector UInt8 256)) (hF : Wo p0 p1 = some r) :
  Calls Tryz.prog 82 [(Value.agg (enc p0).toArray),(Value.agg (enc p1).toArray)].toArray w0 (Rt w0 (Value.agg (enc r).toArray)):=by
 refine ce Tryz.func82 ?_
 intro a hE
 have hM:=M.start w0
 unfold Wo at hF
 refine Zb (ZY (cs:=enc p0) hE hM Za ld rfl rfl fun b1 w a hM hE=>ZY (cs:=enc p1) hE hM Za ld rfl rfl fun b3 w a hM hE=>Zs hE hM YN fun b5 w a hM hE=>Ze (Zb (Z8 (parts:=[]) (vs:=[]) (cs:=enc (Vector.replicate 256 (0 : UInt8))) hE Za ld rfl rfl YN rfl ty5 ZZ fun a hE=>Zs hE hM YN fun b7 w a hM hE=>Zg (seg:=enc (Vector.replicate 256 (0 : UInt8))) (cs':=enc (Vector.replicate 256 (0 : UInt8))) hE hM Za rfl rfl rfl YN (Flat.len _) (zle flq) (Flat.cell _) (Zf flq) fun w a hM hE=>Ze (wp_seq (Zb (Zc hE rfl fun a hE=>Ze ?_))))))
 obtain ⟨j9,hl10,hF11⟩:=bind_some hF
 refine ZS (fun a w=>Env 20 a [(4,(ptr b5 0)),(5,(ptr b7 0))] ∧ M (Old w0) w0 w [raw b7 (enc j9),raw b5 (enc (Vector.replicate 256 (0 : UInt8)))]) ?_ ?_
 ·skip
  refine wp_block ?_
  refine ZO (fun (s12 : (Vector UInt8 256) × Int) a w=>Env 20 a [(2,(ptr b1 0)),(3,(ptr b3 0)),(4,(ptr b5 0)),(5,(ptr b7 0)),(6,vI s12.2)] ∧ M (Old w0) w0 w [raw b7 (enc s12.1),raw b5 (enc (Vector.replicate 256 (0 : UInt8))),raw b3 (enc p1),raw b1 (enc p0)]) hl10 ⟨hE.sub ⟨rfl,rfl,rfl,rfl,rfl,trivial⟩,hM⟩ ?_
  rintro s12 a w ⟨hE,hM⟩ o15 hs13 hx14
  unfold XZ at hs13
  refine wp_seq (Zb (Zd hE rfl fun a hE=>Zl hE rfl rfl rfl fun a hE=>Ze ?_))
  refine Zr hE rfl ?_ ?_
  ·intro hb16
   have hs13:=Zu hs13 hb16
   refine wp_skip (Zz (wp_seq (wp_block (wp_region_lit (Zd hE rfl fun a hE=>Zd hE rfl ?_))))); intro a hE
   obtain ⟨x18,hi17,hs13⟩:=bvx hs13
   refine Zw hE rfl rfl Tryz.underlying25 ty5 hi17.1 fun a hE=>ZR (v:=(vB x18)) hE rfl ty5 rfl (At.vec hM.rawAt3 hi17.2) ?_; intro a hE
   obtain ⟨x21,hi20,hs13⟩:=bvx hs13
   refine Zw hE rfl rfl Tryz.underlying25 ty5 hi20.1 fun a hE=>ZR (v:=(vB x21)) hE rfl ty5 rfl (At.vec hM.rawAt2 hi20.2) ?_; intro a hE
   obtain ⟨x24,hi23,hs13⟩:=bvx hs13
   refine Zw hE rfl rfl Tryz.underlying25 ty5 hi23.1 fun a hE=>Zg (seg:=[vB x21]) (cs':=enc (s12.1.setIfInBounds (s12.2).toNat x21)) hE hM Za rfl rfl rfl ty5 rfl (ZE (v:=s12.1) (x:=x21) hi23.1) (Flat.cell (x21 : UInt8)) (Zy (v:=s12.1) (x:=x21) hi23.1) fun w a hM hE=>Zh (Z9 (Zz (wp_region_lit (Zd hE rfl fun a hE=>Zl hE rfl rfl rfl fun a hE=>Zc hE rfl fun a hE=>Zh (Zi ?_)))))
   exact ⟨_,(ois hs13),hE.sub ⟨rfl,rfl,rfl,rfl,rfl,trivial⟩,hM⟩
  ·intro hb16
   have hs13:=Zt hs13 hb16
   refine wp_exit (Zq (Zq (Yi ?_)))
   obtain rfl:=hx14 _ (ois hs13)
   refine Zi ?_
   have hM:=M.fst (l:=[_,_]) hM.pull1.pull1
   exact ⟨hE.sub ⟨rfl,rfl,trivial⟩,hM⟩
 ·skip
  rintro a w ⟨hE,hM⟩
  refine Zz (Zb (Zk hE rfl YN rfl hM.rawAt0 (Flat.len _) ?_)); intro a hE
  have hM:=hM.pull1
  refine Zg (seg:=enc j9) (cs':=enc j9) hE hM Za rfl rfl rfl YN (Flat.len _) (zle flq) (Flat.cell _) (Zf flq) fun w a hM hE=>Ze ?_
  obtain rfl:=Option.some.inj hF11
  have hq27 : ZX Tryz.prog _ _ (.cell 4 25) _:=ZN hE rfl YN rfl hM.rawAt0 (Flat.len _) rfl
  exact wp_ret (Z2 hE rfl hq27 ⟨_,rfl,rfl,hM.kept⟩)
def UT (p0 : Int) (s4 : UInt8 × Int × UInt8) : Option (Fl (UInt8 × Int × UInt8) UInt8) :=
 if (decide (s4.2.1 > 0)) = true then (((if ((Int.tmod s4.2.1 2) == 1) = true then ((Ye p0 s4.2.2 s4.1).bind fun r16=>some r16) else (some s4.2.2) : Option (UInt8)).bind fun j12=>(Ye p0 s4.1 s4.1).bind fun r20=>some (r20,j12) : Option (UInt8 × UInt8)).bind fun j9=>some (Fl.nx (j9.1,wr (Int.tdiv s4.2.1 2),j9.2))) else (some (Fl.ex s4.2.2))
def Vt (p0 : Int) (p1 : UInt8) (p2 : Int) : Option (UInt8) :=
 (ZK (UT p0) (p1,p2,1)).bind fun j1=>some j1
theorem Bw (w0 : World) (p0 : Int) (p1 : UInt8) (p2 : Int) (r : UInt8) (hF : Vt p0 p1 p2 = some r) :
  Calls Tryz.prog 104 [vI p0,vB p1,vI p2].toArray w0 (Rt w0 (vB r)):=by
 refine ce Tryz.func104 ?_
 intro a hE
 have hM:=M.start w0
 unfold Vt at hF
 refine Zb (Zc hE rfl fun a hE=>Ze (Zb (Zc hE rfl fun a hE=>Ze ?_)))
 obtain ⟨j1,hl2,hF3⟩:=bind_some hF
 refine ZQ (fun a w=>Env 24 a [(7,vB j1)] ∧ M (Old w0) w0 w []) ?_ ?_
 ·skip
  refine wp_block ?_
  refine ZO (fun (s4 : UInt8 × Int × UInt8) a w=>Env 24 a [(0,vI p0),(1,vB s4.1),(2,vI s4.2.1),(7,vB s4.2.2)] ∧ M (Old w0) w0 w []) hl2 ⟨hE.sub ⟨rfl,rfl,rfl,rfl,trivial⟩,hM⟩ ?_
  rintro s4 a w ⟨hE,hM⟩ o7 hs5 hx6
  unfold UT at hs5
  refine wp_seq (Zb (Zd hE rfl fun a hE=>Zl hE rfl rfl rfl fun a hE=>Ze ?_))
  refine Zr hE rfl ?_ ?_
  ·intro hb8
   have hs5:=Zu hs5 hb8
   refine wp_skip (Zz ?_)
   obtain ⟨j9,hl10,hF11⟩:=bind_some hs5
   refine ZQ (fun a w=>Env 24 a [(0,vI p0),(1,vB j9.1),(2,vI s4.2.1),(7,vB j9.2)] ∧ M (Old w0) w0 w []) ?_ ?_
   ·skip
    refine wp_block ?_
    obtain ⟨j12,hl13,hF14⟩:=bind_some hl10
    refine ZQ (fun a w=>Env 24 a [(0,vI p0),(1,vB s4.1),(2,vI s4.2.1),(7,vB j12)] ∧ M (Old w0) w0 w []) ?_ ?_
    ·skip
     refine Zb (Zd hE rfl fun a hE=>Zl hE rfl rfl (KA _ _ (by decide)) fun a hE=>Zl hE rfl rfl rfl fun a hE=>Ze ?_)
     refine Zr hE rfl ?_ ?_
     ·intro hb15
      have hl13:=Zu hl13 hb15
      refine wp_region_lit (Zd hE rfl fun a hE=>Zd hE rfl fun a hE=>Zd hE rfl ?_); intro a hE
      obtain ⟨r16,e17,hl13⟩:=bind_some hl13
      refine Zo hE rfl Jy (Y7 _ p0 s4.2.2 s4.1 r16 e17) ?_
      rintro v w a ⟨rfl,hK⟩ hE
      have hM:=hM.keep hK
      refine Zc hE rfl fun a hE=>Zh ?_
      obtain rfl:=Option.some.inj hl13
      refine Zi ?_
      exact ⟨hE.sub ⟨rfl,rfl,rfl,rfl,trivial⟩,hM⟩
     ·intro hb15
      have hl13:=Zt hl13 hb15
      refine wp_skip ?_
      obtain rfl:=Option.some.inj hl13
      refine Zi ?_
      exact ⟨hE.sub ⟨rfl,rfl,rfl,rfl,trivial⟩,hM⟩
    ·skip
     rintro a w ⟨hE,hM⟩
     refine wp_region_lit (Zd hE rfl fun a hE=>Zd hE rfl fun a hE=>Zd hE rfl ?_); intro a hE
     obtain ⟨r20,e21,hF14⟩:=bind_some hF14
     refine Zo hE rfl Jy (Y7 _ p0 s4.1 s4.1 r20 e21) ?_
     rintro v w a ⟨rfl,hK⟩ hE
     have hM:=hM.keep hK
     refine Zc hE rfl fun a hE=>Zh (Z9 ?_)
     obtain rfl:=Option.some.inj hF14
     refine Zi ?_
     exact ⟨hE.sub ⟨rfl,rfl,rfl,rfl,trivial⟩,hM⟩
   ·skip
    rintro a w ⟨hE,hM⟩
    refine wp_region_lit (Zd hE rfl fun a hE=>Zl hE rfl rfl (JE _ _ (by decide)) fun a hE=>Zc hE rfl fun a hE=>Zh (Zi ?_))
    exact ⟨_,(ois hF11),hE.sub ⟨rfl,rfl,rfl,rfl,trivial⟩,hM⟩
  ·intro hb8
   have hs5:=Zt hs5 hb8
   refine wp_exit (Zq (Zq (Yi ?_)))
   obtain rfl:=hx6 _ (ois hs5)
   refine Zi ?_
   exact ⟨hE.sub ⟨rfl,trivial⟩,hM⟩
 ·skip
  rintro a w ⟨hE,hM⟩
  refine Zb (Zd hE rfl fun a hE=>Zc hE rfl fun a hE=>Ze ?_)
  obtain rfl:=Option.some.inj hF3
  exact wp_ret (kr1 hE rfl rfl hM.kept)
def WT (p0 : Int) (p1 : UInt8) : Option (UInt8) :=
 (Vt p0 p1 254).bind fun r1=>some r1
theorem Jt (w0 : World) (p0 : Int) (p1 : UInt8) (r : UInt8) (hF : WT p0 p1 = some r) :
  Calls Tryz.prog 85 [vI p0,vB p1].toArray w0 (Rt w0 (vB r)):=by
 refine ce Tryz.func85 ?_
 intro a hE
 have hM:=M.start w0
 unfold WT at hF
 refine Zb (Zc hE rfl fun a hE=>Ze (Zb (Zd hE rfl fun a hE=>Zd hE rfl ?_))); intro a hE
 obtain ⟨r1,e2,hF⟩:=bind_some hF
 refine Zo hE rfl (cbm Tryz.func104) (Bw _ p0 p1 254 r1 e2) ?_
 rintro v w a ⟨rfl,hK⟩ hE
 have hM:=hM.keep hK
 refine Zc hE rfl fun a hE=>Ze ?_
 obtain rfl:=Option.some.inj hF
 exact wp_ret (kr1 hE rfl rfl hM.kept)
def UW (s16 : (Vector (Vector UInt8 4) 4) × Int) (s24 : (Vector (Vector UInt8 4) 4) × Int) : Option (Fl ((Vector (Vector UInt8 4) 4) × Int) (Vector (Vector UInt8 4) 4)) :=
 if (decide (s24.2 < 4)) = true then ((WT 285 (ZH (Jn s16.2 (wr (4 + s24.2))))).bind fun r30=>(ZB s24.1 s16.2).bind fun x33=>(ZB x33 s24.2).bind fun x36=>some (Fl.nx ((s24.1.setIfInBounds (s16.2).toNat (x33.setIfInBounds (s24.2).toNat r30)),wr (s24.2 + 1)))) else (some (Fl.ex s24.1))
def UU (s16 : (Vector (Vector UInt8 4) 4) × Int) : Option (Fl ((Vector (Vector UInt8 4) 4) × Int) (Vector (Vector UInt8 4) 4)) :=
 if (decide (s16.2 < 4)) = true then ((ZK (UW s16) (s16.1,0)).bind fun j21=>some (Fl.nx (j21,wr (s16.2 + 1)))) else (some (Fl.ex s16.1))
def UV (s43 : (Vector UInt8 16) × Int) : Option (Fl ((Vector UInt8 16) × Int) (Vector UInt8 16)) :=
 if (decide (s43.2 < 16)) = true then ((ZB s43.1 s43.2).bind fun x49=>some (Fl.nx ((s43.1.setIfInBounds (s43.2).toNat (ZH (Int.tmod (wr ((wr (13 * s43.2)) + 4)) 16))),wr (s43.2 + 1)))) else (some (Fl.ex s43.1))
def Vs (p0 : Int) : Option (GCipher) :=
 (Xn 285 254).bind fun r5=>(Yw ([0,1,4] : List Int) 90).bind fun r9=>(Wo r5 r9).bind fun r11=>(ZK (UU) ((Vector.replicate 4 (Vector.replicate 4 (0 : UInt8))),0)).bind fun j13=>(ZK (UV) ((Vector.replicate 16 (0 : UInt8)),0)).bind fun j40=>some (⟨285,r11,j13,j40,p0⟩ : GCipher)
theorem KJ (w0 : World) (p0 : Int) (r : GCipher) (hF : Vs p0 = some r) :
  Calls Tryz.prog 56 [vI p0].toArray w0 (Rt w0 (Value.agg (enc r).toArray)):=by
 refine ce Tryz.func56 ?_
 intro a hE
 have hM:=M.start w0
 unfold Vs at hF
 refine Zb (Zs hE hM ZT fun b1 w a hM hE=>Ze (Zb (Zd hE rfl fun a hE=>TM (parts:=[(0,.const (vI 285)),(4,.tmp 7)]) (vs:=[(0,vI 285),(4,vI p0)]) (cs:=cat [[vI 285],enc (Vector.replicate 256 (0 : UInt8)),enc (Vector.replicate 4 (Vector.replicate 4 (0 : UInt8))),enc (Vector.replicate 16 (0 : UInt8)),[vI p0]]) hE Za ld rfl rfl ZT pl32 (Wa (pre:=[]) (seg:=[vI 0]) (seg':=[vI 285]) (post:=[enc (Vector.replicate 256 (0 : UInt8)),enc (Vector.replicate 4 (Vector.replicate 4 (0 : UInt8))),enc (Vector.replicate 16 (0 : UInt8)),[vI 0]]) rfl cl0 rfl rfl rfl (Wa (pre:=[[vI 285],enc (Vector.replicate 256 (0 : UInt8)),enc (Vector.replicate 4 (Vector.replicate 4 (0 : UInt8))),enc (Vector.replicate 16 (0 : UInt8))]) (seg:=[vI 0]) (seg':=[vI p0]) (post:=[]) rfl ck rfl rfl rfl Ko)) fun a hE=>Zs hE hM ZT fun b3 w a hM hE=>Zg (seg:=cat [[vI 285],enc (Vector.replicate 256 (0 : UInt8)),enc (Vector.replicate 4 (Vector.replicate 4 (0 : UInt8))),enc (Vector.replicate 16 (0 : UInt8)),[vI p0]]) (cs':=cat [[vI 285],enc (Vector.replicate 256 (0 : UInt8)),enc (Vector.replicate 4 (Vector.replicate 4 (0 : UInt8))),enc (Vector.replicate 16 (0 : UInt8)),[vI p0]]) hE hM Za rfl rfl rfl ZT cq (Nat.le_of_eq ((Nat.zero_add _).trans (Eq.trans cq (Eq.symm cq)))) (Yf (cc1 (Flat.cell (285 : Int)) (cc1 (Flat.cell _) (cc1 (Flat.cell _) (cc1 (Flat.cell _) (cc1 (Flat.cell (p0 : Int)) cc0)))))) (Zf (Eq.trans cq (Eq.symm cq))) fun w a hM hE=>Ze (Zb ?_))))
 obtain ⟨r5,e6,hF⟩:=bind_some hF
 refine Zo hE rfl cb83 (Qd _ 285 254 r5 e6) ?_
 rintro v w a ⟨rfl,hK⟩ hE
 have hM:=hM.keep hK
 refine Yc (xs:=[.const (vI 0),.const (vI 1),.const (vI 4)]) (l:=([0,1,4] : List Int)) (vs:=[vI 0,vI 1,vI 4]) hE hM Za ld rfl rfl Tryz.underlying44 ty2 rfl (by decide) rfl ?_; intro u7 w a hM hE
 obtain ⟨r9,e10,hF⟩:=bind_some hF
 refine Zo hE rfl cb84 (UZ _ ([0,1,4] : List Int) u7 (hM.sl (pre:=[]) noB) 90 r9 e10) ?_
 rintro v w a ⟨rfl,hK⟩ hE
 have hM:=hM.keep hK
 obtain ⟨r11,e12,hF⟩:=bind_some hF
 refine Zo hE rfl (cbm Tryz.func82) (KX _ r5 r9 r11 e12) ?_
 rintro v w a ⟨rfl,hK⟩ hE
 have hM:=hM.keep hK
 refine ZJ hE rfl (Qa) ?_; intro a hE
 have hM:=hM.pull1
 refine Zg (seg:=enc r11) hE hM Za rfl rfl rfl YN (Flat.len _) (Ur (pre:=[[vI 285]]) ck flq) (Flat.cell _) (XC (pre:=[[vI 285]]) ck flq) fun w a hM hE=>Ze (wp_seq (Zb (Zc hE rfl fun a hE=>Ze ?_)))
 obtain ⟨j13,hl14,hF15⟩:=bind_some hF
 refine ZS (fun a w=>Env 46 a [(2,(ptr b1 0)),(3,(ptr b3 0))] ∧ M (Old w0) w0 w [raw b3 (cat [[vI 285],enc r11,enc j13,enc (Vector.replicate 16 (0 : UInt8)),[vI p0]]),raw b1 (cat [[vI 0],enc (Vector.replicate 256 (0 : UInt8)),enc (Vector.replicate 4 (Vector.replicate 4 (0 : UInt8))),enc (Vector.replicate 16 (0 : UInt8)),[vI 0]])]) ?_ ?_
 ·skip
  refine wp_block ?_
  have hM:=M.fst (l:=[_,_]) hM.pull2.pull1
  refine ZO (fun (s16 : (Vector (Vector UInt8 4) 4) × Int) a w=>Env 46 a [(2,(ptr b1 0)),(3,(ptr b3 0)),(4,vI s16.2)] ∧ M (Old w0) w0 w [raw b3 (cat [[vI 285],enc r11,enc s16.1,enc (Vector.replicate 16 (0 : UInt8)),[vI p0]]),raw b1 (cat [[vI 0],enc (Vector.replicate 256 (0 : UInt8)),enc (Vector.replicate 4 (Vector.replicate 4 (0 : UInt8))),enc (Vector.replicate 16 (0 : UInt8)),[vI 0]])]) hl14 ⟨hE.sub ⟨rfl,rfl,rfl,trivial⟩,hM⟩ ?_
  rintro s16 a w ⟨hE,hM⟩ o19 hs17 hx18
  unfold UU at hs17
  refine wp_seq (Zb (Zd hE rfl fun a hE=>Zl hE rfl rfl rfl fun a hE=>Ze ?_))
  refine Zr hE rfl ?_ ?_
  ·intro hb20
   have hs17:=Zu hs17 hb20
   refine wp_skip (Zz (wp_seq (wp_block (Zb (Zc hE rfl fun a hE=>Ze ?_)))))
   obtain ⟨j21,hl22,hF23⟩:=bind_some hs17
   refine ZS (fun a w=>Env 46 a [(2,(ptr b1 0)),(3,(ptr b3 0)),(4,vI s16.2)] ∧ M (Old w0) w0 w [raw b3 (cat [[vI 285],enc r11,enc j21,enc (Vector.replicate 16 (0 : UInt8)),[vI p0]]),raw b1 (cat [[vI 0],enc (Vector.replicate 256 (0 : UInt8)),enc (Vector.replicate 4 (Vector.replicate 4 (0 : UInt8))),enc (Vector.replicate 16 (0 : UInt8)),[vI 0]])]) ?_ ?_
   ·skip
    refine wp_block ?_
    refine ZO (fun (s24 : (Vector (Vector UInt8 4) 4) × Int) a w=>Env 46 a [(2,(ptr b1 0)),(3,(ptr b3 0)),(4,vI s16.2),(5,vI s24.2)] ∧ M (Old w0) w0 w [raw b3 (cat [[vI 285],enc r11,enc s24.1,enc (Vector.replicate 16 (0 : UInt8)),[vI p0]]),raw b1 (cat [[vI 0],enc (Vector.replicate 256 (0 : UInt8)),enc (Vector.replicate 4 (Vector.replicate 4 (0 : UInt8))),enc (Vector.replicate 16 (0 : UInt8)),[vI 0]])]) hl22 ⟨hE.sub ⟨rfl,rfl,rfl,rfl,trivial⟩,hM⟩ ?_
    rintro s24 a w ⟨hE,hM⟩ o27 hs25 hx26
    unfold UW at hs25
    refine wp_seq (Zb (Zd hE rfl fun a hE=>Zl hE rfl rfl rfl fun a hE=>Ze ?_))
    refine Zr hE rfl ?_ ?_
    ·intro hb28
     have hs25:=Zu hs25 hb28
     refine wp_skip (Zz (wp_seq (wp_block ?_)))
     obtain ⟨r30,e31,hs25⟩:=bind_some hs25
     obtain ⟨x33,hi32,hs25⟩:=bvx hs25
     obtain ⟨x36,hi35,hs25⟩:=bvx hs25
     refine Yl [22,23,24,25,26,27,28,29,30,31,32] Xm rfl rfl (by decide) rfl hE hM (qsP (fun z=>Zj z.E Za ld rfl (kr0 rfl)) (qsP (fun z=>Zj z.E Za ld rfl (kr0 rfl)) (qsP (fun z=>Zj z.E Za ld rfl (kr0 rfl)) (qsP (fun z=>Zj z.E Za ld rfl (kr0 rfl)) (qsP (v:=(vI (wr (4 + s24.2)))) (fun z=>Yk z.E Za ld rfl rfl rfl (kr0 rfl)) (qsP (v:=(vI (Jn s16.2 (wr (4 + s24.2))))) (fun z=>Yk z.E Za ld rfl rfl rfl (kr0 rfl)) (qsP (fun z=>YX z.E Za ld rfl Tryz.underlying3 Tryz.underlying5 (kr0 rfl)) (qsP (fun z=>YD z.E Za ld rfl (cbm Tryz.func85) (Jt _ 285 (ZH (Jn s16.2 (wr (4 + s24.2)))) r30 e31) (kc rfl)) (qsP (fun z=>ZP z.E Za ld rfl (Qb) (kr0 rfl)) (qsP (fun z=>ZA z.E Za ld rfl rfl Tryz.underlying28 Yq hi32.1 (kr0 rfl)) (qsP (fun z=>ZA z.E Za ld rfl rfl Tryz.underlying26 ty5 hi35.1 (kr0 rfl)) qs0))))))))))) ?_
     ·intro a w u hE hM
      refine Zg (seg:=[vB r30]) (cs':=cat [[vI 285],enc r11,enc (s24.1.setIfInBounds (s16.2).toNat (x33.setIfInBounds (s24.2).toNat r30)),enc (Vector.replicate 16 (0 : UInt8)),[vI p0]]) hE hM Za rfl rfl rfl ty5 rfl (Ud (o':=(s16.2).toNat * 4 + (0 + (s24.2).toNat * 1)) (pre:=[[vI 285],enc r11]) (seg:=enc s24.1) (post:=[enc (Vector.replicate 16 (0 : UInt8)),[vI p0]]) ck (XJ (o':=0 + (s24.2).toNat * 1) hi32 (ZE (v:=x33) (x:=r30) hi35.1) (by first | omega | (simp only [Flat.n] <;> omega))) (by first | omega | (simp only [Flat.n] <;> omega))) (Flat.cell (r30 : UInt8)) (XY (o':=(s16.2).toNat * 4 + (0 + (s24.2).toNat * 1)) (pre:=[[vI 285],enc r11]) (seg:=enc s24.1) (post:=[enc (Vector.replicate 16 (0 : UInt8)),[vI p0]]) ck (XJ (o':=0 + (s24.2).toNat * 1) hi32 (ZE (v:=x33) (x:=r30) hi35.1) (by first | omega | (simp only [Flat.n] <;> omega))) (Y4 (o':=0 + (s24.2).toNat * 1) hi32 (ZE (v:=x33) (x:=r30) hi35.1) (Zy (v:=x33) (x:=r30) hi35.1) (by first | omega | (simp only [Flat.n] <;> omega))) (by first | omega | (simp only [Flat.n] <;> omega))) fun w a hM hE=>Zh (Z9 (Zz (wp_region_lit (Zd hE rfl fun a hE=>Zl hE rfl rfl rfl fun a hE=>Zc hE rfl fun a hE=>Zh (Zi ?_)))))
      exact ⟨_,(ois hs25),hE.sub ⟨rfl,rfl,rfl,rfl,trivial⟩,hM⟩
    ·intro hb28
     have hs25:=Zt hs25 hb28
     refine wp_exit (Zq (Zq (Yi ?_)))
     obtain rfl:=hx26 _ (ois hs25)
     refine Zi ?_
     exact ⟨hE.sub ⟨rfl,rfl,rfl,trivial⟩,hM⟩
   ·skip
    rintro a w ⟨hE,hM⟩
    refine Z9 (Zz (wp_region_lit (Zd hE rfl fun a hE=>Zl hE rfl rfl rfl fun a hE=>Zc hE rfl fun a hE=>Zh (Zi ?_))))
    exact ⟨_,(ois hF23),hE.sub ⟨rfl,rfl,rfl,trivial⟩,hM⟩
  ·intro hb20
   have hs17:=Zt hs17 hb20
   refine wp_exit (Zq (Zq (Yi ?_)))
   obtain rfl:=hx18 _ (ois hs17)
   refine Zi ?_
   exact ⟨hE.sub ⟨rfl,rfl,trivial⟩,hM⟩
 ·skip
  rintro a w ⟨hE,hM⟩
  refine Zz (wp_seq (Zb (Zc hE rfl fun a hE=>Ze ?_)))
  obtain ⟨j40,hl41,hF42⟩:=bind_some hF15
  refine ZS (fun a w=>Env 46 a [(2,(ptr b1 0)),(3,(ptr b3 0))] ∧ M (Old w0) w0 w [raw b3 (cat [[vI 285],enc r11,enc j13,enc j40,[vI p0]]),raw b1 (cat [[vI 0],enc (Vector.replicate 256 (0 : UInt8)),enc (Vector.replicate 4 (Vector.replicate 4 (0 : UInt8))),enc (Vector.replicate 16 (0 : UInt8)),[vI 0]])]) ?_ ?_
  ·skip
   refine wp_block ?_
   refine ZO (fun (s43 : (Vector UInt8 16) × Int) a w=>Env 46 a [(2,(ptr b1 0)),(3,(ptr b3 0)),(6,vI s43.2)] ∧ M (Old w0) w0 w [raw b3 (cat [[vI 285],enc r11,enc j13,enc s43.1,[vI p0]]),raw b1 (cat [[vI 0],enc (Vector.replicate 256 (0 : UInt8)),enc (Vector.replicate 4 (Vector.replicate 4 (0 : UInt8))),enc (Vector.replicate 16 (0 : UInt8)),[vI 0]])]) hl41 ⟨hE.sub ⟨rfl,rfl,rfl,trivial⟩,hM⟩ ?_
   rintro s43 a w ⟨hE,hM⟩ o46 hs44 hx45
   unfold UV at hs44
   refine wp_seq (Zb (Zd hE rfl fun a hE=>Zl hE rfl rfl rfl fun a hE=>Ze ?_))
   refine Zr hE rfl ?_ ?_
   ·intro hb47
    have hs44:=Zu hs44 hb47
    refine wp_skip (Zz (wp_seq (wp_block (wp_region_lit (Zd hE rfl fun a hE=>Zd hE rfl fun a hE=>Zl hE rfl rfl rfl fun a hE=>Zl hE rfl rfl rfl fun a hE=>Zl hE rfl rfl (KA _ _ (by decide)) fun a hE=>YX hE Za ld rfl Tryz.underlying3 Tryz.underlying5 fun a hE=>ZJ hE rfl (Tt) ?_))))); intro a hE
    obtain ⟨x49,hi48,hs44⟩:=bvx hs44
    refine Zw hE rfl rfl Tryz.underlying30 ty5 hi48.1 fun a hE=>Zg (seg:=[(vB (ZH (Int.tmod (wr ((wr (13 * s43.2)) + 4)) 16)))]) (cs':=cat [[vI 285],enc r11,enc j13,enc (s43.1.setIfInBounds (s43.2).toNat (ZH (Int.tmod (wr ((wr (13 * s43.2)) + 4)) 16))),[vI p0]]) hE hM Za rfl rfl rfl ty5 rfl (Ud (o':=0 + (s43.2).toNat * 1) (pre:=[[vI 285],enc r11,enc j13]) (seg:=enc s43.1) (post:=[[vI p0]]) ck (ZE (v:=s43.1) (x:=ZH (Int.tmod (wr ((wr (13 * s43.2)) + 4)) 16)) hi48.1) (by first | omega | (simp only [Flat.n] <;> omega))) (Flat.cell (ZH (Int.tmod (wr ((wr (13 * s43.2)) + 4)) 16) : UInt8)) (XY (o':=0 + (s43.2).toNat * 1) (pre:=[[vI 285],enc r11,enc j13]) (seg:=enc s43.1) (post:=[[vI p0]]) ck (ZE (v:=s43.1) (x:=ZH (Int.tmod (wr ((wr (13 * s43.2)) + 4)) 16)) hi48.1) (Zy (v:=s43.1) (x:=ZH (Int.tmod (wr ((wr (13 * s43.2)) + 4)) 16)) hi48.1) (by first | omega | (simp only [Flat.n] <;> omega))) fun w a hM hE=>Zh (Z9 (Zz (wp_region_lit (Zd hE rfl fun a hE=>Zl hE rfl rfl rfl fun a hE=>Zc hE rfl fun a hE=>Zh (Zi ?_)))))
    exact ⟨_,(ois hs44),hE.sub ⟨rfl,rfl,rfl,trivial⟩,hM⟩
   ·intro hb47
    have hs44:=Zt hs44 hb47
    refine wp_exit (Zq (Zq (Yi ?_)))
    obtain rfl:=hx45 _ (ois hs44)
    refine Zi ?_
    exact ⟨hE.sub ⟨rfl,rfl,trivial⟩,hM⟩
  ·skip
   rintro a w ⟨hE,hM⟩
   refine Zz (Zb (Zk hE rfl ZT rfl hM.rawAt0 cq ?_)); intro a hE
   have hM:=hM.pull1
   refine Zg (seg:=cat [[(vI ((⟨285,r11,j13,j40,p0⟩ : GCipher).Field))],enc ((⟨285,r11,j13,j40,p0⟩ : GCipher).Box),enc ((⟨285,r11,j13,j40,p0⟩ : GCipher).Mix),enc ((⟨285,r11,j13,j40,p0⟩ : GCipher).Places),[(vI ((⟨285,r11,j13,j40,p0⟩ : GCipher).Rounds))]]) (cs':=cat [[(vI ((⟨285,r11,j13,j40,p0⟩ : GCipher).Field))],enc ((⟨285,r11,j13,j40,p0⟩ : GCipher).Box),enc ((⟨285,r11,j13,j40,p0⟩ : GCipher).Mix),enc ((⟨285,r11,j13,j40,p0⟩ : GCipher).Places),[(vI ((⟨285,r11,j13,j40,p0⟩ : GCipher).Rounds))]]) hE hM Za rfl rfl rfl ZT cq (Nat.le_of_eq ((Nat.zero_add _).trans (Eq.trans cq (Eq.symm cq)))) (Yf (cc1 (Flat.cell ((⟨285,r11,j13,j40,p0⟩ : GCipher).Field : Int)) (cc1 (Flat.cell _) (cc1 (Flat.cell _) (cc1 (Flat.cell _) (cc1 (Flat.cell ((⟨285,r11,j13,j40,p0⟩ : GCipher).Rounds : Int)) cc0)))))) (Zf (Eq.trans cq (Eq.symm cq))) fun w a hM hE=>Ze ?_
   obtain rfl:=Option.some.inj hF42
   have hq52 : ZX Tryz.prog _ _ (.cell 2 32) _:=ZN hE rfl ZT rfl hM.rawAt0 cq rfl
   exact wp_ret (Z2 hE rfl hq52 ⟨_,rfl,rfl,hM.kept⟩)
def XL (p0 : Int) (p1 : Int) (p2 : Int) : Option (Bool) :=
 (if (decide (p0 ≥ p1)) = true then (some (decide (p0 ≤ p2))) else (some false) : Option (Bool)).bind fun j1=>some j1
theorem UR (w0 : World) (p0 : Int) (p1 : Int) (p2 : Int) (r : Bool) (hF : XL p0 p1 p2 = some r) :
  Calls Tryz.prog 44 [vI p0,vI p1,vI p2].toArray w0 (Rt w0 (vT r)):=by
 refine ce Tryz.func44 ?_
 intro a hE
 have hM:=M.start w0
 unfold XL at hF
 refine Zb (Zc hE rfl fun a hE=>Ze ?_)
 obtain ⟨j1,hl2,hF3⟩:=bind_some hF
 refine ZQ (fun a w=>Env 15 a [(6,vT j1)] ∧ M (Old w0) w0 w []) ?_ ?_
 ·skip
  refine wp_region_lit (Zd hE rfl fun a hE=>Zd hE rfl fun a hE=>Zl hE rfl rfl rfl fun a hE=>Zd hE rfl ?_); intro a hE
  refine YF (decide (p0 ≥ p1)) (fun hb4=>?_) (fun hb4=>?_)
  ·have hl2:=Zu hl2 hb4
   refine Zj hE (Zm hE rfl (lkb rfl hb4)) (by decide) rfl fun a hE=>Zj hE (Zm hE rfl (lkb rfl hb4)) (by decide) rfl fun a hE=>Yk hE (Zm hE rfl (lkb rfl hb4)) (by decide) rfl rfl rfl fun a hE=>ZW hE (lkb rfl hb4) rfl fun a hE=>Zc hE rfl fun a hE=>Zh ?_
   obtain rfl:=Option.some.inj hl2
   refine Zi ?_
   exact ⟨hE.sub ⟨rfl,trivial⟩,hM⟩
  ·have hl2:=Zt hl2 hb4
   refine Zp hE rfl (lkb rfl hb4) rfl (by decide) fun a hE=>Zp hE rfl (lkb rfl hb4) rfl (by decide) fun a hE=>Zp hE rfl (lkb rfl hb4) rfl (by decide) fun a hE=>Z7 hE (lkb rfl hb4) rfl fun a hE=>Zc hE rfl fun a hE=>Zh ?_
   obtain rfl:=Option.some.inj hl2
   refine Zi ?_
   exact ⟨hE.sub ⟨rfl,trivial⟩,hM⟩
 ·skip
  rintro a w ⟨hE,hM⟩
  obtain rfl:=Option.some.inj hF3
  exact wp_ret (kr1 hE rfl rfl hM.kept)
def Xg (s4 : Int × Int) : Option (Fl (Int × Int) Int) :=
 if (decide (s4.1 > 0)) = true then (some (Fl.nx (wr (Int.tdiv s4.1 2),wr (s4.2 + 1)))) else (some (Fl.ex s4.2))
def X9 (p0 : Int) : Option (Int) :=
 (ZK (Xg) (p0,0)).bind fun j1=>some j1
theorem TN (w0 : World) (p0 : Int) (r : Int) (hF : X9 p0 = some r) :
  Calls Tryz.prog 107 [vI p0].toArray w0 (Rt w0 (vI r)):=by
 refine ce Tryz.func107 ?_
 intro a hE
 have hM:=M.start w0
 unfold X9 at hF
 refine Zb (Zc hE rfl fun a hE=>Ze (Zb (Zc hE rfl fun a hE=>Ze ?_)))
 obtain ⟨j1,hl2,hF3⟩:=bind_some hF
 refine ZQ (fun a w=>Env 11 a [(3,vI j1)] ∧ M (Old w0) w0 w []) ?_ ?_
 ·skip
  refine wp_block ?_
  refine ZO (fun (s4 : Int × Int) a w=>Env 11 a [(0,vI s4.1),(3,vI s4.2)] ∧ M (Old w0) w0 w []) hl2 ⟨hE.sub ⟨rfl,rfl,trivial⟩,hM⟩ ?_
  rintro s4 a w ⟨hE,hM⟩ o7 hs5 hx6
  unfold Xg at hs5
  refine wp_seq (Zb (Zd hE rfl fun a hE=>Zl hE rfl rfl rfl fun a hE=>Ze ?_))
  refine Zr hE rfl ?_ ?_
  ·intro hb8
   have hs5:=Zu hs5 hb8
   refine wp_skip (Zz (wp_seq (wp_block (wp_region_lit (Zd hE rfl fun a hE=>Zl hE rfl rfl rfl fun a hE=>Zc hE rfl fun a hE=>Zh (Z9 (Zz (wp_region_lit (Zd hE rfl fun a hE=>Zl hE rfl rfl (JE _ _ (by decide)) fun a hE=>Zc hE rfl fun a hE=>Zh (Zi ?_))))))))))
   exact ⟨_,(ois hs5),hE.sub ⟨rfl,rfl,trivial⟩,hM⟩
  ·intro hb8
   have hs5:=Zt hs5 hb8
   refine wp_exit (Zq (Zq (Yi ?_)))
   obtain rfl:=hx6 _ (ois hs5)
   refine Zi ?_
   exact ⟨hE.sub ⟨rfl,trivial⟩,hM⟩
 ·skip
  rintro a w ⟨hE,hM⟩
  refine Zb (Zd hE rfl fun a hE=>Zc hE rfl fun a hE=>Ze ?_)
  obtain rfl:=Option.some.inj hF3
  exact wp_ret (kr1 hE rfl rfl hM.kept)
def Vk (p1 : Int) (r1 : Int) (s8 : Int × Int) : Option (Fl (Int × Int) Int) :=
 if (decide (s8.2 ≥ r1)) = true then ((XE (IntKind.u64.wrap (wr (s8.2 - r1)))).bind fun _=>(X9 (Jn s8.1 (K0 p1 (IntKind.u64.wrap (wr (s8.2 - r1)))))).bind fun r14=>some (Fl.nx (Jn s8.1 (K0 p1 (IntKind.u64.wrap (wr (s8.2 - r1)))),r14))) else (some (Fl.ex s8.1))
def UC (p0 : Int) (p1 : Int) : Option (Int) :=
 (X9 p1).bind fun r1=>(X9 p0).bind fun r3=>(ZK (Vk p1 r1) (p0,r3)).bind fun j5=>some j5
theorem B9 (w0 : World) (p0 : Int) (p1 : Int) (r : Int) (hF : UC p0 p1 = some r) :
  Calls Tryz.prog 94 [vI p0,vI p1].toArray w0 (Rt w0 (vI r)):=by
 refine ce Tryz.func94 ?_
 intro a hE
 have hM:=M.start w0
 unfold UC at hF
 refine Zb (Zc hE rfl fun a hE=>Ze (Zb (Zd hE rfl ?_))); intro a hE
 obtain ⟨r1,e2,hF⟩:=bind_some hF
 refine Zo hE rfl qC (TN _ p1 r1 e2) ?_
 rintro v w a ⟨rfl,hK⟩ hE
 have hM:=hM.keep hK
 refine Zc hE rfl fun a hE=>Ze (wp_seq (Zb (Zd hE rfl ?_))); intro a hE
 obtain ⟨r3,e4,hF⟩:=bind_some hF
 refine Zo hE rfl qC (TN _ p0 r3 e4) ?_
 rintro v w a ⟨rfl,hK⟩ hE
 have hM:=hM.keep hK
 refine Zc hE rfl fun a hE=>Ze ?_
 obtain ⟨j5,hl6,hF7⟩:=bind_some hF
 refine ZS (fun a w=>Env 25 a [(0,vI j5)] ∧ M (Old w0) w0 w []) ?_ ?_
 ·skip
  refine wp_block ?_
  refine ZO (fun (s8 : Int × Int) a w=>Env 25 a [(0,vI s8.1),(1,vI p1),(5,vI r1),(6,vI s8.2)] ∧ M (Old w0) w0 w []) hl6 ⟨hE.sub ⟨rfl,rfl,rfl,rfl,trivial⟩,hM⟩ ?_
  rintro s8 a w ⟨hE,hM⟩ o11 hs9 hx10
  unfold Vk at hs9
  refine wp_seq (Zb (Zd hE rfl fun a hE=>Zd hE rfl fun a hE=>Zl hE rfl rfl rfl fun a hE=>Ze ?_))
  refine Zr hE rfl ?_ ?_
  ·intro hb12
   have hs9:=Zu hs9 hb12
   refine wp_skip (Zz (wp_seq (wp_block (wp_region_lit (Zd hE rfl fun a hE=>Zd hE rfl fun a hE=>Zd hE rfl fun a hE=>Zd hE rfl fun a hE=>Zl hE rfl rfl rfl fun a hE=>Q4 hE Za ld rfl Tryz.underlying2 Tryz.underlying55 ?_))))); intro a hE
   obtain ⟨_,e13,hs9⟩:=bind_some hs9
   have e13:=WS e13
   refine HX hE Za ld rfl rfl (HD _ _ e13) fun a hE=>Zl hE rfl rfl rfl fun a hE=>Zc hE rfl fun a hE=>Zh (Z9 (Zz (wp_region_lit (Zd hE rfl ?_)))); intro a hE
   obtain ⟨r14,e15,hs9⟩:=bind_some hs9
   refine Zo hE rfl qC (TN _ (Jn s8.1 (K0 p1 (IntKind.u64.wrap (wr (s8.2 - r1))))) r14 e15) ?_
   rintro v w a ⟨rfl,hK⟩ hE
   have hM:=hM.keep hK
   refine Zc hE rfl fun a hE=>Zh (Zi ?_)
   exact ⟨_,(ois hs9),hE.sub ⟨rfl,rfl,rfl,rfl,trivial⟩,hM⟩
  ·intro hb12
   have hs9:=Zt hs9 hb12
   refine wp_exit (Zq (Zq (Yi ?_)))
   obtain rfl:=hx10 _ (ois hs9)
   refine Zi ?_
   exact ⟨hE.sub ⟨rfl,trivial⟩,hM⟩
 ·skip
  rintro a w ⟨hE,hM⟩
  refine Zz (Zb (Zd hE rfl fun a hE=>Zc hE rfl fun a hE=>Ze ?_))
  obtain rfl:=Option.some.inj hF7
  exact wp_ret (kr1 hE rfl rfl hM.kept)
def WX (p0 : Int) (s8 : Int) : Option (Fl Int (Fl Unit Bool)) :=
 if (decide (s8 < 32)) = true then ((UC p0 s8).bind fun r13=>if (r13 == 0) = true then (some (Fl.ex (Fl.ex false))) else (some (Fl.nx (wr (s8 + 1))))) else (some (Fl.ex (Fl.nx ())))
def Vp (p0 : Int) : Option (Bool) :=
 (XL p0 256 511).bind fun r1=>if (!r1) = true then (some false) else ((ZK (WX p0) 2).bind fun j4=>j4.el (fun s7=>some true) (fun r=>some r))
theorem KL (w0 : World) (p0 : Int) (r : Bool) (hF : Vp p0 = some r) :
  Calls Tryz.prog 68 [vI p0].toArray w0 (Rt w0 (vT r)):=by
 refine ce Tryz.func68 ?_
 intro a hE
 have hM:=M.start w0
 unfold Vp at hF
 refine Zb (Zc hE rfl fun a hE=>Ze (wp_seq (Zb (Zd hE rfl ?_)))); intro a hE
 obtain ⟨r1,e2,hF⟩:=bind_some hF
 refine Zo hE rfl cb44 (UR _ p0 256 511 r1 e2) ?_
 rintro v w a ⟨rfl,hK⟩ hE
 have hM:=hM.keep hK
 refine TH hE rfl fun a hE=>Ze ?_
 refine Zr hE rfl ?_ ?_
 ·intro hb3
  have hF:=Zu hF hb3
  refine Zb (Zc hE rfl fun a hE=>Ze ?_)
  obtain rfl:=Option.some.inj hF
  exact wp_ret (ZI (kr1 hE rfl rfl hM.kept))
 ·intro hb3
  have hF:=Zt hF hb3
  refine wp_skip (Zz (wp_seq (Zb (Zc hE rfl fun a hE=>Ze ?_))))
  obtain ⟨j4,hl5,hF6⟩:=bind_some hF
  refine ZS (fun a w=>∃ s7 : Unit,j4 = Fl.nx s7 ∧ Env 15 a [] ∧ M (Old w0) w0 w []) ?_ ?_
  ·skip
   refine wp_block ?_
   refine ZO (fun (s8 : Int) a w=>Env 15 a [(0,vI p0),(3,vI s8)] ∧ M (Old w0) w0 w []) hl5 ⟨hE.sub ⟨rfl,rfl,trivial⟩,hM⟩ ?_
   rintro s8 a w ⟨hE,hM⟩ o11 hs9 hx10
   unfold WX at hs9
   refine wp_seq (Zb (Zd hE rfl fun a hE=>Zl hE rfl rfl rfl fun a hE=>Ze ?_))
   refine Zr hE rfl ?_ ?_
   ·intro hb12
    have hs9:=Zu hs9 hb12
    refine wp_skip (Zz (wp_seq (wp_block (Zb (Zd hE rfl fun a hE=>Zd hE rfl ?_))))); intro a hE
    obtain ⟨r13,e14,hs9⟩:=bind_some hs9
    refine Zo hE rfl (cbm Tryz.func94) (B9 _ p0 s8 r13 e14) ?_
    rintro v w a ⟨rfl,hK⟩ hE
    have hM:=hM.keep hK
    refine Zl hE rfl rfl rfl fun a hE=>Ze ?_
    refine Zr hE rfl ?_ ?_
    ·intro hb15
     have hs9:=Zu hs9 hb15
     refine Zb (Zc hE rfl fun a hE=>Ze ?_)
     obtain rfl:=hx10 _ (ois hs9)
     obtain rfl:=Option.some.inj hF6
     exact wp_ret (Y8 (ZI (ZI (Y8 (ZI (ZI (kr1 hE rfl rfl hM.kept)))))))
    ·intro hb15
     have hs9:=Zt hs9 hb15
     refine wp_skip (Z9 (Zz (wp_region_lit (Zd hE rfl fun a hE=>Zl hE rfl rfl rfl fun a hE=>Zc hE rfl fun a hE=>Zh (Zi ?_)))))
     exact ⟨_,(ois hs9),hE.sub ⟨rfl,rfl,trivial⟩,hM⟩
   ·intro hb12
    have hs9:=Zt hs9 hb12
    refine wp_exit (Zq (Zq (Yi ?_)))
    obtain rfl:=hx10 _ (ois hs9)
    refine Zi ?_
    exact ⟨(),rfl,hE.sub trivial,hM⟩
  ·skip
   rintro a w ⟨s7,ht,hE,hM⟩
   subst ht
   have hF6:=Qi hF6
   refine Zz (Zb (Zc hE rfl fun a hE=>Ze ?_))
   obtain rfl:=Option.some.inj hF6
   exact wp_ret (kr1 hE rfl rfl hM.kept)
def Ut (s8 : (List Int) × Int) : Option (Fl ((List Int) × Int) (List Int)) :=
 if (decide (s8.2 < 512)) = true then (((Vp s8.2).bind fun r20=>(if r20 = true then ((app 8 s8.1 ([s8.2] : List Int)).bind fun l30=>some (s8.1 ++ ([s8.2] : List Int))) else (some s8.1) : Option ((List Int))).bind fun j22=>some j22 : Option ((List Int))).bind fun j15=>some (Fl.nx (j15,wr (s8.2 + 1)))) else (some (Fl.ex s8.1))
def VY : Option ((List Int)) :=
 (ZK (Ut) (([] : List Int),256)).bind fun j3=>some j3
theorem H1 (w0 : World)  (r : (List Int)) (hF : VY  = some r) :
  Calls Tryz.prog 112 [].toArray w0 (fun en w'=>∃ v,en = .returned v ∧ (∃ (y1 : Value),v = y1 ∧ Fr w0 w' [osl NoB (r : List Int) y1] ∧ Kept (Old w0) w0 w')):=by
 refine ce Tryz.func112 ?_
 intro a hE
 have hM:=M.start w0
 unfold VY at hF
 refine Zb (Zc hE rfl fun a hE=>Ze (Zb (Yc (xs:=[]) (l:=([] : List Int)) (vs:=[]) hE hM Za ld rfl rfl Tryz.underlying44 ty2 rfl (by decide) rfl fun u1 w a hM hE=>Zc hE rfl fun a hE=>Ze (wp_seq (Zb (Zc hE rfl fun a hE=>Ze ?_))))))
 obtain ⟨j3,hl4,hF5⟩:=bind_some hF
 refine ZS (fun a w=>∃ (u6 : Value),Env 15 a [(1,u6)] ∧ M (Old w0) w0 w [osl NoB (j3 : List Int) u6]) ?_ ?_
 ·skip
  refine wp_block ?_
  refine ZO (fun (s8 : (List Int) × Int) a w=>∃ (u9 : Value),Env 15 a [(1,u9),(2,vI s8.2)] ∧ M (Old w0) w0 w [osl NoB (s8.1 : List Int) u9]) hl4 ⟨u1,hE.sub ⟨rfl,rfl,trivial⟩,hM⟩ ?_
  rintro s8 a w ⟨u9,hE,hM⟩ o13 hs11 hx12
  unfold Ut at hs11
  refine wp_seq (Zb (Zd hE rfl fun a hE=>Zl hE rfl rfl rfl fun a hE=>Ze ?_))
  refine Zr hE rfl ?_ ?_
  ·intro hb14
   have hs11:=Zu hs11 hb14
   refine wp_skip (Zz ?_)
   obtain ⟨j15,hl16,hF17⟩:=bind_some hs11
   refine ZQ (fun a w=>∃ (u18 : Value),Env 15 a [(1,u18),(2,vI s8.2)] ∧ M (Old w0) w0 w [osl NoB (j15 : List Int) u18]) ?_ ?_
   ·skip
    refine wp_block (Zb (Zd hE rfl ?_)); intro a hE
    obtain ⟨r20,e21,hl16⟩:=bind_some hl16
    refine Zo hE rfl (cbm Tryz.func68) (KL _ s8.2 r20 e21) ?_
    rintro v w a ⟨rfl,hK⟩ hE
    have hM:=hM.keep hK
    refine Ze ?_
    obtain ⟨j22,hl23,hF24⟩:=bind_some hl16
    refine ZS (fun a w=>∃ (u25 : Value),Env 15 a [(1,u25),(2,vI s8.2)] ∧ M (Old w0) w0 w [osl NoB (j22 : List Int) u25]) ?_ ?_
    ·skip
     refine Zr hE rfl ?_ ?_
     ·intro hb27
      have hl23:=Zu hl23 hb27
      refine wp_region_lit (Zd hE rfl fun a hE=>Zd hE rfl fun a hE=>Yc (xs:=[.tmp 11]) (l:=([s8.2] : List Int)) (vs:=[vI s8.2]) hE hM Za ld rfl rfl Tryz.underlying44 ty2 rfl (by decide) rfl ?_); intro u28 w a hM hE
      obtain ⟨l30,e31,hl23⟩:=bind_some hl23
      obtain ⟨e34,rfl⟩:=U3 e31
      have hM:=hM.pull1
      refine Uo hE hM Za ld rfl rfl (hM.sl (pre:=[_]) noB) Tryz.underlying44 ty2 rfl (by decide) e34 fun u32 w a hM hE=>Zc hE rfl fun a hE=>Zh ?_
      obtain rfl:=Option.some.inj hl23
      refine Zi ?_
      have hM:=M.fst (l:=[_]) hM
      exact ⟨u32,hE.sub ⟨rfl,rfl,trivial⟩,hM⟩
     ·intro hb27
      have hl23:=Zt hl23 hb27
      refine wp_skip ?_
      obtain rfl:=Option.some.inj hl23
      refine Zi ?_
      exact ⟨u9,hE.sub ⟨rfl,rfl,trivial⟩,hM⟩
    ·skip
     rintro a w ⟨u25,hE,hM⟩
     refine Z9 ?_
     obtain rfl:=Option.some.inj hF24
     refine Zi ?_
     exact ⟨u25,hE.sub ⟨rfl,rfl,trivial⟩,hM⟩
   ·skip
    rintro a w ⟨u18,hE,hM⟩
    refine wp_region_lit (Zd hE rfl fun a hE=>Zl hE rfl rfl rfl fun a hE=>Zc hE rfl fun a hE=>Zh (Zi ?_))
    exact ⟨_,(ois hF17),u18,hE.sub ⟨rfl,rfl,trivial⟩,hM⟩
  ·intro hb14
   have hs11:=Zt hs11 hb14
   refine wp_exit (Zq (Zq (Yi ?_)))
   obtain rfl:=hx12 _ (ois hs11)
   refine Zi ?_
   exact ⟨u9,hE.sub ⟨rfl,trivial⟩,hM⟩
 ·skip
  rintro a w ⟨u6,hE,hM⟩
  refine Zz (Zb (Zd hE rfl fun a hE=>Zc hE rfl fun a hE=>Ze ?_))
  obtain rfl:=Option.some.inj hF5
  exact wp_ret (Z2 hE rfl (ZF hE rfl) ⟨_,rfl,u6,rfl,hM.outF (WU WD),hM.kept⟩)
def Xf (p0_0 : (List UInt8)) (p0 : (Int × Int)) : Option ((Int × Int) × Int) :=
 (VY).bind fun r1=>((ZD p0_0 (p0.1,p0.2) (r1.length : Int)).bind fun r8=>(idx r1 r8.2).bind fun x10=>(ZD p0_0 (r8.1.1,r8.1.2) (r1.length : Int)).bind fun r13=>(idx r1 r13.2).bind fun x15=>(Y0 p0_0 (r13.1.1,r13.1.2) ([285,x10,x15] : List Int)).bind fun r20=>some (r20.1.1,r20.1.2,r20.2) : Option (Int × Int × Int)).bind fun j4=>some ((j4.1,j4.2.1),j4.2.2)
theorem U0 (St : Nat → Prop) (W w0 : World) (R : Item) (pb0 : Nat) (p0_0 : (List UInt8)) (v0_0 : Value) (hv0_0 : Rep.sat St W p0_0 [v0_0] []) (p0 : (Int × Int)) (hM : M St W w0 [raw pb0 (cat [[v0_0],[vI p0.1],[(Value.int .u64 p0.2)]]),R]) (r : (Int × Int) × Int) (hF : Xf p0_0 p0 = some r) :
  Calls Tryz.prog 109 [(ptr pb0 0)].toArray w0 (fun en w'=>∃ v,en = .returned v ∧ (v = (vI r.2) ∧ M St W w' [raw pb0 (cat [[v0_0],[vI r.1.1],[(Value.int .u64 r.1.2)]]),R])):=by
 refine ce Tryz.func109 ?_
 intro a hE
 unfold Xf at hF
 refine Zb (Zc hE rfl fun a hE=>Ze (Zb ?_))
 obtain ⟨r1,e2,hF⟩:=bind_some hF
 refine Zo hE rfl (cbm Tryz.func112) (H1 _  r1 e2) ?_
 rintro u3 w a ⟨_,rfl,hFr,hK⟩ hE
 have hM:=hM.add hK hFr
 refine Zc hE rfl fun a hE=>Ze ?_
 obtain ⟨j4,hl5,hF6⟩:=bind_some hF
 refine ZQ (fun a w=>Env 22 a [(2,vI j4.2.2)] ∧ M St W w [raw pb0 (cat [[v0_0],[vI j4.1],[(Value.int .u64 j4.2.1)]]),R]) ?_ ?_
 ·skip
  have hM:=hM.pull1
  obtain ⟨r8,e9,hl5⟩:=bind_some hl5
  obtain ⟨x10,hi12,hl5⟩:=bix hl5
  obtain ⟨r13,e14,hl5⟩:=bind_some hl5
  obtain ⟨x15,hi17,hl5⟩:=bix hl5
  refine Wk (its:=[osl NoB (r1 : List Int) u3,R]) (mk:=([([5,12],fun bs _=>(tog (bs.getD 0 false) (raw pb0 (cat [[v0_0],[vI p0.1],[(Value.int .u64 p0.2)]])) (tog (bs.getD 1 false) (raw pb0 (cat [[v0_0],[vI r8.1.1],[(Value.int .u64 r8.1.2)]])) (raw pb0 (cat [[v0_0],[vI r13.1.1],[(Value.int .u64 r13.1.2)]]))))),mkO 15 (fun v=>osl NoB (([285,x10,x15] : List Int) : List Int) v)] : Mk)) [5,6,7,8,9,10,11,12,13,14,15,16,17,18,19,20] Xm rfl rfl (by decide) rfl hE (fun u=>M.qS (M.qE (M.q0 hM.drew u) emO) fun _=>rfl) (qsP (fun z=>Zj z.E Za ld rfl (kr0 rfl)) (qsP (fun z=>Zj z.E Za ld rfl (kr0 rfl)) (qsP (fun z=>Zj z.E Za ld rfl (kr0 rfl)) (qsP (fun z=>Zj z.E Za ld rfl (kr0 rfl)) (qsP (v:=(vI (r1.length : Int))) ?_ (qsV (v:=(vI r8.2)) ?_ (qsP (v:=(ptr (sb u3) (so u3 + (r8.2).toNat * 1))) ?_ (qsP (v:=(vI x10)) ?_ (qsP (fun z=>Zj z.E Za ld rfl (kr0 rfl)) (qsP (fun z=>Zj z.E Za ld rfl (kr0 rfl)) (qsP (fun z=>Zj z.E Za ld rfl (kr0 rfl)) (qsP (v:=(vI (r1.length : Int))) ?_ (qsV (v:=(vI r13.2)) ?_ (qsP (v:=(ptr (sb u3) (so u3 + (r13.2).toNat * 1))) ?_ (qsP (v:=(vI x15)) ?_ (qsM (pr:=fun v=>True) ?_ qs0)))))))))))))))) ?_
  ·intro a w ux7 D z
   have hE:=z.E
   have hM:=z.M
   exact Wm hE rfl Tryz.underlying44 (hM.sl (pre:=[]) noB) fun a hE=>⟨Kept.refl _ _,_,rfl,hE⟩
  ·intro a w ux7 D z
   have hE:=z.E
   have hD : D 5 = false:=z.F
   have hM:=z.M.togA (pre:=[_,_]) hD
   have hNx : D 12 = false:=VH (j:=12) (k:=2) z.c rfl rfl rfl hD
   have hM:=M.tailP (m:=[_]) hM.pull2
   refine Zo hE rfl Uu (ZG _ _ _ _ pb0 p0_0 v0_0 hv0_0 (p0.1,p0.2) (r1.length : Int) hM r8 e9) ?_
   rintro v w a ⟨rfl,hM⟩ hE
   have hM:=M.tailU (m:=[_]) hM
   simp only [List.cons_append,List.nil_append] at hM
   exact ⟨_,rfl,hE,M.qTogS (p:=([5,12],fun bs _=>(tog (bs.getD 0 false) (raw pb0 (cat [[v0_0],[vI p0.1],[(Value.int .u64 p0.2)]])) (tog (bs.getD 1 false) (raw pb0 (cat [[v0_0],[vI r8.1.1],[(Value.int .u64 r8.1.2)]])) (raw pb0 (cat [[v0_0],[vI r13.1.1],[(Value.int .u64 r13.1.2)]])))))) (mk1:=[]) (mk2:=[_]) hM rfl (by show tog (YW D 5 5) (raw pb0 (cat [[v0_0],[vI p0.1],[(Value.int .u64 p0.2)]])) (tog (YW D 5 12) (raw pb0 (cat [[v0_0],[vI r8.1.1],[(Value.int .u64 r8.1.2)]])) (raw pb0 (cat [[v0_0],[vI r13.1.1],[(Value.int .u64 r13.1.2)]]))) = _; rw [tg1 JH,tg0 (yS (i:=5) hNx (by decide))])⟩
  ·intro a w ux7 D z
   have hE:=z.E
   have hM:=z.M
   exact XM hE rfl rfl Tryz.underlying44 ty2 (hM.sl (pre:=[]) noB) hi12.1 fun a hE=>⟨Kept.refl _ _,_,rfl,hE⟩
  ·intro a w ux7 D z
   have hE:=z.E
   have hM:=z.M
   exact ZR (v:=(vI x10)) hE rfl ty2 rfl (Y1 (hM.sl (pre:=[]) noB) hi12.2) fun a hE=>⟨Kept.refl _ _,_,rfl,hE⟩
  ·intro a w ux7 D z
   have hE:=z.E
   have hM:=z.M
   exact Wm hE rfl Tryz.underlying44 (hM.sl (pre:=[]) noB) fun a hE=>⟨Kept.refl _ _,_,rfl,hE⟩
  ·intro a w ux7 D z
   have hE:=z.E
   have hD : D 12 = false:=z.F
   have hM:=z.M
   have dC5 : D 5 = true:=z.p 2 _ rfl rfl
   have hM:=M.tailP (m:=[_]) (((hM.togB (pre:=[_,_]) dC5).togA (pre:=[_,_]) hD).pull2)
   refine Zo hE rfl Uu (ZG _ _ _ _ pb0 p0_0 v0_0 hv0_0 (r8.1.1,r8.1.2) (r1.length : Int) hM r13 e14) ?_
   rintro v w a ⟨rfl,hM⟩ hE
   have hM:=M.tailU (m:=[_]) hM
   simp only [List.cons_append,List.nil_append] at hM
   exact ⟨_,rfl,hE,M.qTogS (p:=([5,12],fun bs _=>(tog (bs.getD 0 false) (raw pb0 (cat [[v0_0],[vI p0.1],[(Value.int .u64 p0.2)]])) (tog (bs.getD 1 false) (raw pb0 (cat [[v0_0],[vI r8.1.1],[(Value.int .u64 r8.1.2)]])) (raw pb0 (cat [[v0_0],[vI r13.1.1],[(Value.int .u64 r13.1.2)]])))))) (mk1:=[]) (mk2:=[_]) hM rfl (by show tog (YW D 12 5) (raw pb0 (cat [[v0_0],[vI p0.1],[(Value.int .u64 p0.2)]])) (tog (YW D 12 12) (raw pb0 (cat [[v0_0],[vI r8.1.1],[(Value.int .u64 r8.1.2)]])) (raw pb0 (cat [[v0_0],[vI r13.1.1],[(Value.int .u64 r13.1.2)]]))) = _; rw [tg1 (Ah dC5),tg1 JH])⟩
  ·intro a w ux7 D z
   have hE:=z.E
   have hM:=z.M
   exact XM hE rfl rfl Tryz.underlying44 ty2 (hM.sl (pre:=[]) noB) hi17.1 fun a hE=>⟨Kept.refl _ _,_,rfl,hE⟩
  ·intro a w ux7 D z
   have hE:=z.E
   have hM:=z.M
   exact ZR (v:=(vI x15)) hE rfl ty2 rfl (Y1 (hM.sl (pre:=[]) noB) hi17.2) fun a hE=>⟨Kept.refl _ _,_,rfl,hE⟩
  ·intro a w ux7 D z
   have hE:=z.E
   have hD : D 15 = false:=z.F
   have hM:=z.M
   exact Yc (xs:=[.const (vI 285),.tmp 12,.tmp 19]) (l:=([285,x10,x15] : List Int)) (vs:=[vI 285,vI x10,vI x15]) hE hM Za ld rfl rfl Tryz.underlying44 ty2 rfl (by decide) rfl fun u18 w a hM hE=>⟨_,_,rfl,hE,M.qFill (mk1:=[_]) (mk2:=[]) (f:=(fun v=>osl NoB (([285,x10,x15] : List Int) : List Int) v)) hM rfl hD,trivial⟩
  ·intro a w ux7 D hE hM hG hall
   have d5:=hall 5 (by decide)
   have d12:=hall 12 (by decide)
   have d15:=hall 15 (by decide)
   have hM:=M.tailP (m:=[_,_]) (((((hM.togB (pre:=[_,_]) d5).togB (pre:=[_,_]) d12).sure (pre:=[_,_,_]) d15).pull3).pull3)
   obtain ⟨r20,e21,hl5⟩:=bind_some hl5
   refine Zo hE rfl yU (W7 _ _ _ _ pb0 p0_0 v0_0 hv0_0 (r13.1.1,r13.1.2) ([285,x10,x15] : List Int) (ux7 15) hM r20 e21) ?_
   rintro v w a ⟨rfl,hM⟩ hE
   have hM:=M.tailU (m:=[_,_]) hM
   simp only [List.cons_append,List.nil_append] at hM
   refine Zc hE rfl fun a hE=>Zh ?_
   obtain rfl:=Option.some.inj hl5
   refine Zi ?_
   have hM:=((hM.pull3.pull1.pull3).drop.pull2).drop
   exact ⟨hE.sub ⟨rfl,trivial⟩,hM⟩
 ·skip
  rintro a w ⟨hE,hM⟩
  obtain rfl:=Option.some.inj hF6
  exact wp_ret (Z2 hE rfl (ZF hE rfl) ⟨_,rfl,rfl,hM⟩)
def Uh (s8 : (Vector UInt8 256) × Int) : Option (Fl ((Vector UInt8 256) × Int) (Vector UInt8 256)) :=
 if (decide (s8.2 < 256)) = true then ((ZB s8.1 s8.2).bind fun x14=>some (Fl.nx ((s8.1.setIfInBounds (s8.2).toNat (ZH s8.2)),wr (s8.2 + 1)))) else (some (Fl.ex s8.1))
def VX : Option ((Vector UInt8 256)) :=
 (ZK (Uh) ((Vector.replicate 256 (0 : UInt8)),0)).bind fun j5=>some j5
theorem K7 (w0 : World)  (r : (Vector UInt8 256)) (hF : VX  = some r) :
  Calls Tryz.prog 113 [].toArray w0 (Rt w0 (Value.agg (enc r).toArray)):=by
 refine ce Tryz.func113 ?_
 intro a hE
 have hM:=M.start w0
 unfold VX at hF
 refine Zb (Zs hE hM YN fun b1 w a hM hE=>Ze (Zb (Z8 (parts:=[]) (vs:=[]) (cs:=enc (Vector.replicate 256 (0 : UInt8))) hE Za ld rfl rfl YN rfl ty5 ZZ fun a hE=>Zs hE hM YN fun b3 w a hM hE=>Zg (seg:=enc (Vector.replicate 256 (0 : UInt8))) (cs':=enc (Vector.replicate 256 (0 : UInt8))) hE hM Za rfl rfl rfl YN (Flat.len _) (zle flq) (Flat.cell _) (Zf flq) fun w a hM hE=>Ze (wp_seq (Zb (Zc hE rfl fun a hE=>Ze ?_))))))
 obtain ⟨j5,hl6,hF7⟩:=bind_some hF
 refine ZS (fun a w=>Env 13 a [(0,(ptr b1 0)),(1,(ptr b3 0))] ∧ M (Old w0) w0 w [raw b3 (enc j5),raw b1 (enc (Vector.replicate 256 (0 : UInt8)))]) ?_ ?_
 ·skip
  refine wp_block ?_
  refine ZO (fun (s8 : (Vector UInt8 256) × Int) a w=>Env 13 a [(0,(ptr b1 0)),(1,(ptr b3 0)),(2,vI s8.2)] ∧ M (Old w0) w0 w [raw b3 (enc s8.1),raw b1 (enc (Vector.replicate 256 (0 : UInt8)))]) hl6 ⟨hE.sub ⟨rfl,rfl,rfl,trivial⟩,hM⟩ ?_
  rintro s8 a w ⟨hE,hM⟩ o11 hs9 hx10
  unfold Uh at hs9
  refine wp_seq (Zb (Zd hE rfl fun a hE=>Zl hE rfl rfl rfl fun a hE=>Ze ?_))
  refine Zr hE rfl ?_ ?_
  ·intro hb12
   have hs9:=Zu hs9 hb12
   refine wp_skip (Zz (wp_seq (wp_block (wp_region_lit (Zd hE rfl fun a hE=>Zd hE rfl fun a hE=>YX hE Za ld rfl Tryz.underlying3 Tryz.underlying5 ?_))))); intro a hE
   obtain ⟨x14,hi13,hs9⟩:=bvx hs9
   refine Zw hE rfl rfl Tryz.underlying25 ty5 hi13.1 fun a hE=>Zg (seg:=[(vB (ZH s8.2))]) (cs':=enc (s8.1.setIfInBounds (s8.2).toNat (ZH s8.2))) hE hM Za rfl rfl rfl ty5 rfl (ZE (v:=s8.1) (x:=ZH s8.2) hi13.1) (Flat.cell (ZH s8.2 : UInt8)) (Zy (v:=s8.1) (x:=ZH s8.2) hi13.1) fun w a hM hE=>Zh (Z9 (Zz (wp_region_lit (Zd hE rfl fun a hE=>Zl hE rfl rfl rfl fun a hE=>Zc hE rfl fun a hE=>Zh (Zi ?_)))))
   exact ⟨_,(ois hs9),hE.sub ⟨rfl,rfl,rfl,trivial⟩,hM⟩
  ·intro hb12
   have hs9:=Zt hs9 hb12
   refine wp_exit (Zq (Zq (Yi ?_)))
   obtain rfl:=hx10 _ (ois hs9)
   refine Zi ?_
   exact ⟨hE.sub ⟨rfl,rfl,trivial⟩,hM⟩
 ·skip
  rintro a w ⟨hE,hM⟩
  refine Zz (Zb (Zk hE rfl YN rfl hM.rawAt0 (Flat.len _) ?_)); intro a hE
  have hM:=hM.pull1
  refine Zg (seg:=enc j5) (cs':=enc j5) hE hM Za rfl rfl rfl YN (Flat.len _) (zle flq) (Flat.cell _) (Zf flq) fun w a hM hE=>Ze ?_
  obtain rfl:=Option.some.inj hF7
  have hq17 : ZX Tryz.prog _ _ (.cell 0 25) _:=ZN hE rfl YN rfl hM.rawAt0 (Flat.len _) rfl
  exact wp_ret (Z2 hE rfl hq17 ⟨_,rfl,rfl,hM.kept⟩)
def V7 (p0_0 : (List UInt8)) (s10 : (Vector UInt8 256) × Int × Int × Int) : Option (Fl ((Vector UInt8 256) × Int × Int × Int) ((Vector UInt8 256) × Int × Int)) :=
 if (decide (s10.2.2.2 > 0)) = true then ((ZD p0_0 (s10.2.1,s10.2.2.1) (wr (s10.2.2.2 + 1))).bind fun r15=>(ZB s10.1 s10.2.2.2).bind fun x18=>(ZB s10.1 r15.2).bind fun x21=>(ZB s10.1 s10.2.2.2).bind fun x24=>(ZB (s10.1.setIfInBounds (s10.2.2.2).toNat x21) r15.2).bind fun x27=>some (Fl.nx (((s10.1.setIfInBounds (s10.2.2.2).toNat x21).setIfInBounds (r15.2).toNat x18),r15.1.1,r15.1.2,wr (s10.2.2.2 - 1)))) else (some (Fl.ex (s10.1,s10.2.1,s10.2.2.1)))
def Vu (p0_0 : (List UInt8)) (p0 : (Int × Int)) : Option ((Int × Int) × (Vector UInt8 256)) :=
 (VX).bind fun r3=>(ZK (V7 p0_0) (r3,p0.1,p0.2,255)).bind fun j7=>some ((j7.2.1,j7.2.2),j7.1)
theorem J4 (St : Nat → Prop) (W w0 : World) (R : Item) (pb0 : Nat) (p0_0 : (List UInt8)) (v0_0 : Value) (hv0_0 : Rep.sat St W p0_0 [v0_0] []) (p0 : (Int × Int)) (hM : M St W w0 [raw pb0 (cat [[v0_0],[vI p0.1],[(Value.int .u64 p0.2)]]),R]) (r : (Int × Int) × (Vector UInt8 256)) (hF : Vu p0_0 p0 = some r) :
  Calls Tryz.prog 114 [(ptr pb0 0)].toArray w0 (fun en w'=>∃ v,en = .returned v ∧ (v = (Value.agg (enc r.2).toArray) ∧ M St W w' [raw pb0 (cat [[v0_0],[vI r.1.1],[(Value.int .u64 r.1.2)]]),R])):=by
 refine ce Tryz.func114 ?_
 intro a hE
 unfold Vu at hF
 refine Zb (Zs hE hM YN fun b1 w a hM hE=>Ze (Zb ?_))
 obtain ⟨r3,e4,hF⟩:=bind_some hF
 refine Zo hE rfl (cbm Tryz.func113) (K7 _  r3 e4) ?_
 rintro v w a ⟨rfl,hK⟩ hE
 have hM:=hM.keep hK
 refine Zs hE hM YN fun b5 w a hM hE=>Zg (seg:=enc r3) (cs':=enc r3) hE hM Za rfl rfl rfl YN (Flat.len _) (zle flq) (Flat.cell _) (Zf flq) fun w a hM hE=>Ze (wp_seq (Zb (Zc hE rfl fun a hE=>Ze ?_)))
 obtain ⟨j7,hl8,hF9⟩:=bind_some hF
 refine ZS (fun a w=>Env 28 a [(2,(ptr b1 0)),(3,(ptr b5 0))] ∧ M St W w [raw b5 (enc j7.1),raw b1 (enc (Vector.replicate 256 (0 : UInt8))),raw pb0 (cat [[v0_0],[vI j7.2.1],[(Value.int .u64 j7.2.2)]]),R]) ?_ ?_
 ·skip
  refine wp_block ?_
  refine ZO (fun (s10 : (Vector UInt8 256) × Int × Int × Int) a w=>Env 28 a [(0,(ptr pb0 0)),(2,(ptr b1 0)),(3,(ptr b5 0)),(4,vI s10.2.2.2)] ∧ M St W w [raw b5 (enc s10.1),raw b1 (enc (Vector.replicate 256 (0 : UInt8))),raw pb0 (cat [[v0_0],[vI s10.2.1],[(Value.int .u64 s10.2.2.1)]]),R]) hl8 ⟨hE.sub ⟨rfl,rfl,rfl,rfl,trivial⟩,hM⟩ ?_
  rintro s10 a w ⟨hE,hM⟩ o13 hs11 hx12
  unfold V7 at hs11
  refine wp_seq (Zb (Zd hE rfl fun a hE=>Zl hE rfl rfl rfl fun a hE=>Ze ?_))
  refine Zr hE rfl ?_ ?_
  ·intro hb14
   have hs11:=Zu hs11 hb14
   refine wp_skip (Zz (wp_seq (wp_block (Zb (Zd hE rfl fun a hE=>Zd hE rfl fun a hE=>Zl hE rfl rfl rfl ?_))))); intro a hE
   have hM:=M.tailP (m:=[_]) hM.pull2
   obtain ⟨r15,e16,hs11⟩:=bind_some hs11
   refine Zo hE rfl Uu (ZG _ _ _ _ pb0 p0_0 v0_0 hv0_0 (s10.2.1,s10.2.2.1) (wr (s10.2.2.2 + 1)) hM r15 e16) ?_
   rintro v w a ⟨rfl,hM⟩ hE
   have hM:=M.tailU (m:=[_]) hM
   simp only [List.cons_append,List.nil_append] at hM
   refine Zc hE rfl fun a hE=>Ze (Zb (Zd hE rfl ?_)); intro a hE
   obtain ⟨x18,hi17,hs11⟩:=bvx hs11
   refine Zw hE rfl rfl Tryz.underlying25 ty5 hi17.1 fun a hE=>ZR (v:=(vB x18)) hE rfl ty5 rfl (At.vec hM.rawAt1 hi17.2) fun a hE=>Zc hE rfl fun a hE=>Ze (Zb (Zd hE rfl fun a hE=>Zd hE rfl ?_)); intro a hE
   obtain ⟨x21,hi20,hs11⟩:=bvx hs11
   refine Zw hE rfl rfl Tryz.underlying25 ty5 hi20.1 fun a hE=>ZR (v:=(vB x21)) hE rfl ty5 rfl (At.vec hM.rawAt1 hi20.2) ?_; intro a hE
   obtain ⟨x24,hi23,hs11⟩:=bvx hs11
   refine Zw hE rfl rfl Tryz.underlying25 ty5 hi23.1 ?_; intro a hE
   have hM:=hM.pull1
   refine Zg (seg:=[vB x21]) (cs':=enc (s10.1.setIfInBounds (s10.2.2.2).toNat x21)) hE hM Za rfl rfl rfl ty5 rfl (ZE (v:=s10.1) (x:=x21) hi23.1) (Flat.cell (x21 : UInt8)) (Zy (v:=s10.1) (x:=x21) hi23.1) fun w a hM hE=>Ze (wp_region_lit (Zd hE rfl fun a hE=>Zd hE rfl ?_)); intro a hE
   obtain ⟨x27,hi26,hs11⟩:=bvx hs11
   refine Zw hE rfl rfl Tryz.underlying25 ty5 hi26.1 fun a hE=>Zg (seg:=[vB x18]) (cs':=enc ((s10.1.setIfInBounds (s10.2.2.2).toNat x21).setIfInBounds (r15.2).toNat x18)) hE hM Za rfl rfl rfl ty5 rfl (ZE (v:=(s10.1.setIfInBounds (s10.2.2.2).toNat x21)) (x:=x18) hi26.1) (Flat.cell (x18 : UInt8)) (Zy (v:=(s10.1.setIfInBounds (s10.2.2.2).toNat x21)) (x:=x18) hi26.1) fun w a hM hE=>Zh (Z9 (Zz (wp_region_lit (Zd hE rfl fun a hE=>Zl hE rfl rfl rfl fun a hE=>Zc hE rfl fun a hE=>Zh (Zi ?_)))))
   have hM:=hM.pull3.pull2.pull3.pull3
   exact ⟨_,(ois hs11),hE.sub ⟨rfl,rfl,rfl,rfl,trivial⟩,hM⟩
  ·intro hb14
   have hs11:=Zt hs11 hb14
   refine wp_exit (Zq (Zq (Yi ?_)))
   obtain rfl:=hx12 _ (ois hs11)
   refine Zi ?_
   exact ⟨hE.sub ⟨rfl,rfl,trivial⟩,hM⟩
 ·skip
  rintro a w ⟨hE,hM⟩
  refine Zz (Zb (Zk hE rfl YN rfl hM.rawAt0 (Flat.len _) ?_)); intro a hE
  have hM:=hM.pull1
  refine Zg (seg:=enc j7.1) (cs':=enc j7.1) hE hM Za rfl rfl rfl YN (Flat.len _) (zle flq) (Flat.cell _) (Zf flq) fun w a hM hE=>Ze ?_
  obtain rfl:=Option.some.inj hF9
  have hq30 : ZX Tryz.prog _ _ (.cell 2 25) _:=ZN hE rfl YN rfl hM.rawAt0 (Flat.len _) rfl
  have hM:=((hM.pull3.pull3.pull3).drop.pull2).drop
  exact wp_ret (Z2 hE rfl hq30 ⟨_,rfl,rfl,hM⟩)
def UK (p0_0 : (List UInt8)) (p0 : (Int × Int)) : Option ((Int × Int) × (Vector UInt8 256)) :=
 (ZD p0_0 (p0.1,p0.2) 6).bind fun r3=>if (r3.2 == 0) = true then ((Xf p0_0 (r3.1.1,r3.1.2)).bind fun r6=>(Xn r6.2 254).bind fun r8=>(ZD p0_0 (r6.1.1,r6.1.2) 256).bind fun r12=>(Yw ([0,1,4] : List Int) (ZH r12.2)).bind fun r14=>(Wo r8 r14).bind fun r16=>some ((r12.1.1,r12.1.2),r16)) else (if (r3.2 == 1) = true then ((Xf p0_0 (r3.1.1,r3.1.2)).bind fun r20=>(Y0 p0_0 (r20.1.1,r20.1.2) ([1,2,7,11,13,127,254] : List Int)).bind fun r24=>(Xn r20.2 r24.2).bind fun r26=>some ((r24.1.1,r24.1.2),r26)) else (if (r3.2 == 2) = true then ((ZD p0_0 (r3.1.1,r3.1.2) 256).bind fun r32=>(Yw ([0,2,5] : List Int) (ZH r32.2)).bind fun r34=>some ((r32.1.1,r32.1.2),r34)) else (if (r3.2 == 3) = true then ((VX).bind fun r38=>(ZD p0_0 (r3.1.1,r3.1.2) 256).bind fun r42=>(ZD p0_0 (r42.1.1,r42.1.2) 256).bind fun r44=>(ZB r38 r42.2).bind fun x47=>(ZB r38 r44.2).bind fun x50=>(ZB r38 r42.2).bind fun x53=>(ZB (r38.setIfInBounds (r42.2).toNat x50) r44.2).bind fun x56=>some ((r44.1.1,r44.1.2),((r38.setIfInBounds (r42.2).toNat x50).setIfInBounds (r44.2).toNat x47))) else ((Vu p0_0 (r3.1.1,r3.1.2)).bind fun r59=>some ((r59.1.1,r59.1.2),r59.2)))))
theorem BZ (St : Nat → Prop) (W w0 : World) (R : Item) (pb0 : Nat) (p0_0 : (List UInt8)) (v0_0 : Value) (hv0_0 : Rep.sat St W p0_0 [v0_0] []) (p0 : (Int × Int)) (hM : M St W w0 [raw pb0 (cat [[v0_0],[vI p0.1],[(Value.int .u64 p0.2)]]),R]) (r : (Int × Int) × (Vector UInt8 256)) (hF : UK p0_0 p0 = some r) :
  Calls Tryz.prog 110 [(ptr pb0 0)].toArray w0 (fun en w'=>∃ v,en = .returned v ∧ (v = (Value.agg (enc r.2).toArray) ∧ M St W w' [raw pb0 (cat [[v0_0],[vI r.1.1],[(Value.int .u64 r.1.2)]]),R])):=by
 refine ce Tryz.func110 ?_
 intro a hE
 unfold UK at hF
 refine Zb (Zs hE hM YN fun b1 w a hM hE=>Ze (wp_seq (Zb (Zd hE rfl ?_)))); intro a hE
 have hM:=M.tailP (m:=[_]) hM.pull1
 obtain ⟨r3,e4,hF⟩:=bind_some hF
 refine Zo hE rfl Uu (ZG _ _ _ _ pb0 p0_0 v0_0 hv0_0 (p0.1,p0.2) 6 hM r3 e4) ?_
 rintro v w a ⟨rfl,hM⟩ hE
 have hM:=M.tailU (m:=[_]) hM
 simp only [List.cons_append,List.nil_append] at hM
 refine Ze (wp_block (Zb (Zl hE rfl rfl rfl fun a hE=>Zc hE rfl fun a hE=>Ze ?_)))
 refine Zr hE rfl ?_ ?_
 ·intro hb5
  have hF:=Zu hF hb5
  refine Zb (Zd hE rfl ?_); intro a hE
  have hM:=M.tailP (m:=[_]) hM
  obtain ⟨r6,e7,hF⟩:=bind_some hF
  refine Zo hE rfl kH (U0 _ _ _ _ pb0 p0_0 v0_0 hv0_0 (r3.1.1,r3.1.2) hM r6 e7) ?_
  rintro v w a ⟨rfl,hM⟩ hE
  have hM:=M.tailU (m:=[_]) hM
  simp only [List.cons_append,List.nil_append] at hM
  obtain ⟨r8,e9,hF⟩:=bind_some hF
  refine Zo hE rfl cb83 (Qd _ r6.2 254 r8 e9) ?_
  rintro v w a ⟨rfl,hK⟩ hE
  have hM:=hM.keep hK
  refine Yc (xs:=[.const (vI 0),.const (vI 1),.const (vI 4)]) (l:=([0,1,4] : List Int)) (vs:=[vI 0,vI 1,vI 4]) hE hM Za ld rfl rfl Tryz.underlying44 ty2 rfl (by decide) rfl fun u10 w a hM hE=>Zd hE rfl ?_; intro a hE
  have hM:=M.tailP (m:=[_]) hM.pull1
  obtain ⟨r12,e13,hF⟩:=bind_some hF
  refine Zo hE rfl Uu (ZG _ _ _ _ pb0 p0_0 v0_0 hv0_0 (r6.1.1,r6.1.2) 256 hM r12 e13) ?_
  rintro v w a ⟨rfl,hM⟩ hE
  have hM:=M.tailU (m:=[_]) hM
  simp only [List.cons_append,List.nil_append] at hM
  refine YX hE Za ld rfl Tryz.underlying2 Tryz.underlying5 ?_; intro a hE
  obtain ⟨r14,e15,hF⟩:=bind_some hF
  refine Zo hE rfl cb84 (UZ _ ([0,1,4] : List Int) u10 (hM.sl (pre:=[_]) noB) (ZH r12.2) r14 e15) ?_
  rintro v w a ⟨rfl,hK⟩ hE
  have hM:=hM.keep hK
  obtain ⟨r16,e17,hF⟩:=bind_some hF
  refine Zo hE rfl (cbm Tryz.func82) (KX _ r8 r14 r16 e17) ?_
  rintro v w a ⟨rfl,hK⟩ hE
  have hM:=(hM.keep hK).pull2
  refine Zg (seg:=enc r16) (cs':=enc r16) hE hM Za rfl rfl rfl YN (Flat.len _) (zle flq) (Flat.cell _) (Zf flq) fun w a hM hE=>Ze ?_
  obtain rfl:=Option.some.inj hF
  have hq18 : ZX Tryz.prog _ _ (.cell 2 25) _:=ZN hE rfl YN rfl hM.rawAt0 (Flat.len _) rfl
  have hM:=((hM.pull3.pull2.pull3).drop.pull2).drop
  exact wp_ret (Y8 (ZI (Z2 hE rfl hq18 ⟨_,rfl,rfl,hM⟩)))
 ·intro hb5
  have hF:=Zt hF hb5
  refine Zb (Zl hE rfl rfl rfl fun a hE=>Zc hE rfl fun a hE=>Ze ?_)
  refine Zr hE rfl ?_ ?_
  ·intro hb19
   have hF:=Zu hF hb19
   refine Zb (Zd hE rfl ?_); intro a hE
   have hM:=M.tailP (m:=[_]) hM
   obtain ⟨r20,e21,hF⟩:=bind_some hF
   refine Zo hE rfl kH (U0 _ _ _ _ pb0 p0_0 v0_0 hv0_0 (r3.1.1,r3.1.2) hM r20 e21) ?_
   rintro v w a ⟨rfl,hM⟩ hE
   have hM:=M.tailU (m:=[_]) hM
   simp only [List.cons_append,List.nil_append] at hM
   refine Zd hE rfl fun a hE=>Yc (xs:=[.const (vI 1),.const (vI 2),.const (vI 7),.const (vI 11),.const (vI 13),.const (vI 127),.const (vI 254)]) (l:=([1,2,7,11,13,127,254] : List Int)) (vs:=[vI 1,vI 2,vI 7,vI 11,vI 13,vI 127,vI 254]) hE hM Za ld rfl rfl Tryz.underlying44 ty2 rfl (by decide) rfl ?_; intro u22 w a hM hE
   have hM:=M.tailP (m:=[_,_]) hM.pull1
   obtain ⟨r24,e25,hF⟩:=bind_some hF
   refine Zo hE rfl yU (W7 _ _ _ _ pb0 p0_0 v0_0 hv0_0 (r20.1.1,r20.1.2) ([1,2,7,11,13,127,254] : List Int) u22 hM r24 e25) ?_
   rintro v w a ⟨rfl,hM⟩ hE
   have hM:=M.tailU (m:=[_,_]) hM
   simp only [List.cons_append,List.nil_append] at hM
   obtain ⟨r26,e27,hF⟩:=bind_some hF
   refine Zo hE rfl cb83 (Qd _ r20.2 r24.2 r26 e27) ?_
   rintro v w a ⟨rfl,hK⟩ hE
   have hM:=(hM.keep hK).pull2
   refine Zg (seg:=enc r26) (cs':=enc r26) hE hM Za rfl rfl rfl YN (Flat.len _) (zle flq) (Flat.cell _) (Zf flq) fun w a hM hE=>Ze ?_
   obtain rfl:=Option.some.inj hF
   have hq28 : ZX Tryz.prog _ _ (.cell 2 25) _:=ZN hE rfl YN rfl hM.rawAt0 (Flat.len _) rfl
   have hM:=((hM.pull3.pull2.pull3).drop.pull2).drop
   exact wp_ret (Y8 (ZI (Z2 hE rfl hq28 ⟨_,rfl,rfl,hM⟩)))
  ·intro hb19
   have hF:=Zt hF hb19
   refine Zb (Zl hE rfl rfl rfl fun a hE=>Zc hE rfl fun a hE=>Ze ?_)
   refine Zr hE rfl ?_ ?_
   ·intro hb29
    have hF:=Zu hF hb29
    refine Zb (Yc (xs:=[.const (vI 0),.const (vI 2),.const (vI 5)]) (l:=([0,2,5] : List Int)) (vs:=[vI 0,vI 2,vI 5]) hE hM Za ld rfl rfl Tryz.underlying44 ty2 rfl (by decide) rfl fun u30 w a hM hE=>Zd hE rfl ?_); intro a hE
    have hM:=M.tailP (m:=[_]) hM.pull1
    obtain ⟨r32,e33,hF⟩:=bind_some hF
    refine Zo hE rfl Uu (ZG _ _ _ _ pb0 p0_0 v0_0 hv0_0 (r3.1.1,r3.1.2) 256 hM r32 e33) ?_
    rintro v w a ⟨rfl,hM⟩ hE
    have hM:=M.tailU (m:=[_]) hM
    simp only [List.cons_append,List.nil_append] at hM
    refine YX hE Za ld rfl Tryz.underlying2 Tryz.underlying5 ?_; intro a hE
    obtain ⟨r34,e35,hF⟩:=bind_some hF
    refine Zo hE rfl cb84 (UZ _ ([0,2,5] : List Int) u30 (hM.sl (pre:=[_]) noB) (ZH r32.2) r34 e35) ?_
    rintro v w a ⟨rfl,hK⟩ hE
    have hM:=(hM.keep hK).pull2
    refine Zg (seg:=enc r34) (cs':=enc r34) hE hM Za rfl rfl rfl YN (Flat.len _) (zle flq) (Flat.cell _) (Zf flq) fun w a hM hE=>Ze ?_
    obtain rfl:=Option.some.inj hF
    have hq36 : ZX Tryz.prog _ _ (.cell 2 25) _:=ZN hE rfl YN rfl hM.rawAt0 (Flat.len _) rfl
    have hM:=((hM.pull3.pull2.pull3).drop.pull2).drop
    exact wp_ret (Y8 (ZI (Z2 hE rfl hq36 ⟨_,rfl,rfl,hM⟩)))
   ·intro hb29
    have hF:=Zt hF hb29
    refine Zb (Zl hE rfl rfl rfl fun a hE=>Zc hE rfl fun a hE=>Ze ?_)
    refine Zr hE rfl ?_ ?_
    ·intro hb37
     have hF:=Zu hF hb37
     refine Zb ?_
     obtain ⟨r38,e39,hF⟩:=bind_some hF
     refine Zo hE rfl (cbm Tryz.func113) (K7 _  r38 e39) ?_
     rintro v w a ⟨rfl,hK⟩ hE
     have hM:=hM.keep hK
     refine Zs hE hM YN fun b40 w a hM hE=>Zg (seg:=enc r38) (cs':=enc r38) hE hM Za rfl rfl rfl YN (Flat.len _) (zle flq) (Flat.cell _) (Zf flq) fun w a hM hE=>Ze (Zb (Zd hE rfl ?_)); intro a hE
     have hM:=M.tailP (m:=[_]) hM.pull1
     obtain ⟨r42,e43,hF⟩:=bind_some hF
     refine Zo hE rfl Uu (ZG _ _ _ _ pb0 p0_0 v0_0 hv0_0 (r3.1.1,r3.1.2) 256 hM r42 e43) ?_
     rintro v w a ⟨rfl,hM⟩ hE
     have hM:=M.tailU (m:=[_]) hM
     simp only [List.cons_append,List.nil_append] at hM
     refine Zd hE rfl ?_; intro a hE
     have hM:=M.tailP (m:=[_]) hM
     obtain ⟨r44,e45,hF⟩:=bind_some hF
     refine Zo hE rfl Uu (ZG _ _ _ _ pb0 p0_0 v0_0 hv0_0 (r42.1.1,r42.1.2) 256 hM r44 e45) ?_
     rintro v w a ⟨rfl,hM⟩ hE
     have hM:=M.tailU (m:=[_]) hM
     simp only [List.cons_append,List.nil_append] at hM
     refine Zc hE rfl fun a hE=>Zc hE rfl fun a hE=>Ze (Zb (Zd hE rfl ?_)); intro a hE
     obtain ⟨x47,hi46,hF⟩:=bvx hF
     refine Zw hE rfl rfl Tryz.underlying25 ty5 hi46.1 fun a hE=>ZR (v:=(vB x47)) hE rfl ty5 rfl (At.vec hM.rawAt1 hi46.2) fun a hE=>Zc hE rfl fun a hE=>Ze (Zb (Zd hE rfl fun a hE=>Zd hE rfl ?_)); intro a hE
     obtain ⟨x50,hi49,hF⟩:=bvx hF
     refine Zw hE rfl rfl Tryz.underlying25 ty5 hi49.1 fun a hE=>ZR (v:=(vB x50)) hE rfl ty5 rfl (At.vec hM.rawAt1 hi49.2) ?_; intro a hE
     obtain ⟨x53,hi52,hF⟩:=bvx hF
     refine Zw hE rfl rfl Tryz.underlying25 ty5 hi52.1 ?_; intro a hE
     have hM:=hM.pull1
     refine Zg (seg:=[vB x50]) (cs':=enc (r38.setIfInBounds (r42.2).toNat x50)) hE hM Za rfl rfl rfl ty5 rfl (ZE (v:=r38) (x:=x50) hi52.1) (Flat.cell (x50 : UInt8)) (Zy (v:=r38) (x:=x50) hi52.1) fun w a hM hE=>Ze (Zb (Zd hE rfl fun a hE=>Zd hE rfl ?_)); intro a hE
     obtain ⟨x56,hi55,hF⟩:=bvx hF
     refine Zw hE rfl rfl Tryz.underlying25 ty5 hi55.1 fun a hE=>Zg (seg:=[vB x47]) (cs':=enc ((r38.setIfInBounds (r42.2).toNat x50).setIfInBounds (r44.2).toNat x47)) hE hM Za rfl rfl rfl ty5 rfl (ZE (v:=(r38.setIfInBounds (r42.2).toNat x50)) (x:=x47) hi55.1) (Flat.cell (x47 : UInt8)) (Zy (v:=(r38.setIfInBounds (r42.2).toNat x50)) (x:=x47) hi55.1) fun w a hM hE=>Ze (Zb (Zk hE rfl YN rfl hM.rawAt0 (Flat.len _) ?_)); intro a hE
     have hM:=hM.pull2
     refine Zg (seg:=enc ((r38.setIfInBounds (r42.2).toNat x50).setIfInBounds (r44.2).toNat x47)) (cs':=enc ((r38.setIfInBounds (r42.2).toNat x50).setIfInBounds (r44.2).toNat x47)) hE hM Za rfl rfl rfl YN (Flat.len _) (zle flq) (Flat.cell _) (Zf flq) fun w a hM hE=>Ze ?_
     obtain rfl:=Option.some.inj hF
     have hq58 : ZX Tryz.prog _ _ (.cell 2 25) _:=ZN hE rfl YN rfl hM.rawAt0 (Flat.len _) rfl
     have hM:=((hM.pull3.pull3.pull3).drop.pull2).drop
     exact wp_ret (Y8 (ZI (Z2 hE rfl hq58 ⟨_,rfl,rfl,hM⟩)))
    ·intro hb37
     have hF:=Zt hF hb37
     refine wp_skip (Z9 (Zz (Zb (Zd hE rfl ?_)))); intro a hE
     have hM:=M.tailP (m:=[_]) hM
     obtain ⟨r59,e60,hF⟩:=bind_some hF
     refine Zo hE rfl (cbm Tryz.func114) (J4 _ _ _ _ pb0 p0_0 v0_0 hv0_0 (r3.1.1,r3.1.2) hM r59 e60) ?_
     rintro v w a ⟨rfl,hM⟩ hE
     have hM:=M.tailU (m:=[_]) hM
     simp only [List.cons_append,List.nil_append] at hM
     have hM:=hM.pull1
     refine Zg (seg:=enc r59.2) (cs':=enc r59.2) hE hM Za rfl rfl rfl YN (Flat.len _) (zle flq) (Flat.cell _) (Zf flq) fun w a hM hE=>Ze ?_
     obtain rfl:=Option.some.inj hF
     have hq61 : ZX Tryz.prog _ _ (.cell 2 25) _:=ZN hE rfl YN rfl hM.rawAt0 (Flat.len _) rfl
     have hM:=(hM.pull2.pull2.pull2).drop
     exact wp_ret (Z2 hE rfl hq61 ⟨_,rfl,rfl,hM⟩)
def Tf (s8 : (Vector (Vector UInt8 4) 4) × Int) : Option (Fl ((Vector (Vector UInt8 4) 4) × Int) (Vector (Vector UInt8 4) 4)) :=
 if (decide (s8.2 < 4)) = true then ((ZB s8.1 s8.2).bind fun x14=>(ZB x14 s8.2).bind fun x17=>some (Fl.nx ((s8.1.setIfInBounds (s8.2).toNat (x14.setIfInBounds (s8.2).toNat 1)),wr (s8.2 + 1)))) else (some (Fl.ex s8.1))
def Vx : Option ((Vector (Vector UInt8 4) 4)) :=
 (ZK (Tf) ((Vector.replicate 4 (Vector.replicate 4 (0 : UInt8))),0)).bind fun j5=>some j5
theorem JV (w0 : World)  (r : (Vector (Vector UInt8 4) 4)) (hF : Vx  = some r) :
  Calls Tryz.prog 108 [].toArray w0 (Rt w0 (Value.agg (enc r).toArray)):=by
 refine ce Tryz.func108 ?_
 intro a hE
 have hM:=M.start w0
 unfold Vx at hF
 refine Zb (Zs hE hM XV fun b1 w a hM hE=>Ze (Zb (Z8 (parts:=[]) (vs:=[]) (cs:=enc (Vector.replicate 4 (Vector.replicate 4 (0 : UInt8)))) hE Za ld rfl rfl XV rfl Yq ZZ fun a hE=>Zs hE hM XV fun b3 w a hM hE=>Zg (seg:=enc (Vector.replicate 4 (Vector.replicate 4 (0 : UInt8)))) (cs':=enc (Vector.replicate 4 (Vector.replicate 4 (0 : UInt8)))) hE hM Za rfl rfl rfl XV (Flat.len _) (zle flq) (Flat.cell _) (Zf flq) fun w a hM hE=>Ze (wp_seq (Zb (Zc hE rfl fun a hE=>Ze ?_))))))
 obtain ⟨j5,hl6,hF7⟩:=bind_some hF
 refine ZS (fun a w=>Env 13 a [(0,(ptr b1 0)),(1,(ptr b3 0))] ∧ M (Old w0) w0 w [raw b3 (enc j5),raw b1 (enc (Vector.replicate 4 (Vector.replicate 4 (0 : UInt8))))]) ?_ ?_
 ·skip
  refine wp_block ?_
  refine ZO (fun (s8 : (Vector (Vector UInt8 4) 4) × Int) a w=>Env 13 a [(0,(ptr b1 0)),(1,(ptr b3 0)),(2,vI s8.2)] ∧ M (Old w0) w0 w [raw b3 (enc s8.1),raw b1 (enc (Vector.replicate 4 (Vector.replicate 4 (0 : UInt8))))]) hl6 ⟨hE.sub ⟨rfl,rfl,rfl,trivial⟩,hM⟩ ?_
  rintro s8 a w ⟨hE,hM⟩ o11 hs9 hx10
  unfold Tf at hs9
  refine wp_seq (Zb (Zd hE rfl fun a hE=>Zl hE rfl rfl rfl fun a hE=>Ze ?_))
  refine Zr hE rfl ?_ ?_
  ·intro hb12
   have hs9:=Zu hs9 hb12
   refine wp_skip (Zz (wp_seq (wp_block (wp_region_lit (Zd hE rfl fun a hE=>Zd hE rfl ?_))))); intro a hE
   obtain ⟨x14,hi13,hs9⟩:=bvx hs9
   refine Zw hE rfl rfl Tryz.underlying28 Yq hi13.1 ?_; intro a hE
   obtain ⟨x17,hi16,hs9⟩:=bvx hs9
   refine Zw hE rfl rfl Tryz.underlying26 ty5 hi16.1 fun a hE=>Zg (seg:=[vB 1]) (cs':=enc (s8.1.setIfInBounds (s8.2).toNat (x14.setIfInBounds (s8.2).toNat 1))) hE hM Za rfl rfl rfl ty5 rfl (XJ (o':=0 + (s8.2).toNat * 1) hi13 (ZE (v:=x14) (x:=1) hi16.1) (by first | omega | (simp only [Flat.n] <;> omega))) (Flat.cell (1 : UInt8)) (Y4 (o':=0 + (s8.2).toNat * 1) hi13 (ZE (v:=x14) (x:=1) hi16.1) (Zy (v:=x14) (x:=1) hi16.1) (by first | omega | (simp only [Flat.n] <;> omega))) fun w a hM hE=>Zh (Z9 (Zz (wp_region_lit (Zd hE rfl fun a hE=>Zl hE rfl rfl rfl fun a hE=>Zc hE rfl fun a hE=>Zh (Zi ?_)))))
   exact ⟨_,(ois hs9),hE.sub ⟨rfl,rfl,rfl,trivial⟩,hM⟩
  ·intro hb12
   have hs9:=Zt hs9 hb12
   refine wp_exit (Zq (Zq (Yi ?_)))
   obtain rfl:=hx10 _ (ois hs9)
   refine Zi ?_
   exact ⟨hE.sub ⟨rfl,rfl,trivial⟩,hM⟩
 ·skip
  rintro a w ⟨hE,hM⟩
  refine Zz (Zb (Zk hE rfl XV rfl hM.rawAt0 (Flat.len _) ?_)); intro a hE
  have hM:=hM.pull1
  refine Zg (seg:=enc j5) (cs':=enc j5) hE hM Za rfl rfl rfl XV (Flat.len _) (zle flq) (Flat.cell _) (Zf flq) fun w a hM hE=>Ze ?_
  obtain rfl:=Option.some.inj hF7
  have hq20 : ZX Tryz.prog _ _ (.cell 0 28) _:=ZN hE rfl XV rfl hM.rawAt0 (Flat.len _) rfl
  exact wp_ret (Z2 hE rfl hq20 ⟨_,rfl,rfl,hM.kept⟩)
def TF (s13 : (Vector (Vector UInt8 4) 4) × (Vector (Vector UInt8 4) 4) × UInt8 × Int) (s21 : Int) : Option (Fl Int Int) :=
 (if (decide (s21 < 4)) = true then ((ZB s13.1 s21).bind fun x30=>(ZB x30 s13.2.2.2).bind fun x33=>some (x33 == 0)) else (some false) : Option (Bool)).bind fun j25=>if j25 = true then (some (Fl.nx (wr (s21 + 1)))) else (some (Fl.ex s21))
def VE (p0 : Int) (s13 : (Vector (Vector UInt8 4) 4) × (Vector (Vector UInt8 4) 4) × UInt8 × Int) (r91 : UInt8) (s96 : (Vector (Vector UInt8 4) 4) × (Vector (Vector UInt8 4) 4) × Int) : Option (Fl ((Vector (Vector UInt8 4) 4) × (Vector (Vector UInt8 4) 4) × Int) ((Vector (Vector UInt8 4) 4) × (Vector (Vector UInt8 4) 4))) :=
 if (decide (s96.2.2 < 4)) = true then (((ZB s96.1 s13.2.2.2).bind fun x106=>(ZB x106 s96.2.2).bind fun x109=>(Ye p0 x109 r91).bind fun r111=>(ZB s96.1 s13.2.2.2).bind fun x114=>(ZB x114 s96.2.2).bind fun x117=>some (s96.1.setIfInBounds (s13.2.2.2).toNat (x114.setIfInBounds (s96.2.2).toNat r111)) : Option ((Vector (Vector UInt8 4) 4))).bind fun j101=>(ZB s96.2.1 s13.2.2.2).bind fun x122=>(ZB x122 s96.2.2).bind fun x125=>(Ye p0 x125 r91).bind fun r127=>(ZB s96.2.1 s13.2.2.2).bind fun x130=>(ZB x130 s96.2.2).bind fun x133=>some (Fl.nx (j101,(s96.2.1.setIfInBounds (s13.2.2.2).toNat (x130.setIfInBounds (s96.2.2).toNat r127)),wr (s96.2.2 + 1)))) else (some (Fl.ex (s96.1,s96.2.1)))
def XD (p0 : Int) (s13 : (Vector (Vector UInt8 4) 4) × (Vector (Vector UInt8 4) 4) × UInt8 × Int) (s139 : (Vector (Vector UInt8 4) 4) × (Vector (Vector UInt8 4) 4) × Int) (x148 : UInt8) (s153 : (Vector (Vector UInt8 4) 4) × (Vector (Vector UInt8 4) 4) × Int) : Option (Fl ((Vector (Vector UInt8 4) 4) × (Vector (Vector UInt8 4) 4) × Int) ((Vector (Vector UInt8 4) 4) × (Vector (Vector UInt8 4) 4))) :=
 (if (decide (s153.2.2 < 4)) = true then (some (s139.2.2 != s13.2.2.2)) else (some false) : Option (Bool)).bind fun j157=>if j157 = true then (((ZB s153.1 s139.2.2).bind fun x169=>(ZB x169 s153.2.2).bind fun x172=>(ZB s153.1 s13.2.2.2).bind fun x175=>(ZB x175 s153.2.2).bind fun x178=>(Ye p0 x148 x178).bind fun r180=>(ZB s153.1 s139.2.2).bind fun x183=>(ZB x183 s153.2.2).bind fun x186=>some (s153.1.setIfInBounds (s139.2.2).toNat (x183.setIfInBounds (s153.2.2).toNat (x172 ^^^ r180))) : Option ((Vector (Vector UInt8 4) 4))).bind fun j164=>(ZB s153.2.1 s139.2.2).bind fun x191=>(ZB x191 s153.2.2).bind fun x194=>(ZB s153.2.1 s13.2.2.2).bind fun x197=>(ZB x197 s153.2.2).bind fun x200=>(Ye p0 x148 x200).bind fun r202=>(ZB s153.2.1 s139.2.2).bind fun x205=>(ZB x205 s153.2.2).bind fun x208=>some (Fl.nx (j164,(s153.2.1.setIfInBounds (s139.2.2).toNat (x205.setIfInBounds (s153.2.2).toNat (x194 ^^^ r202))),wr (s153.2.2 + 1)))) else (some (Fl.ex (s153.1,s153.2.1)))
def VA (p0 : Int) (s13 : (Vector (Vector UInt8 4) 4) × (Vector (Vector UInt8 4) 4) × UInt8 × Int) (s139 : (Vector (Vector UInt8 4) 4) × (Vector (Vector UInt8 4) 4) × Int) : Option (Fl ((Vector (Vector UInt8 4) 4) × (Vector (Vector UInt8 4) 4) × Int) ((Vector (Vector UInt8 4) 4) × (Vector (Vector UInt8 4) 4))) :=
 if (decide (s139.2.2 < 4)) = true then ((ZB s139.1 s139.2.2).bind fun x145=>(ZB x145 s13.2.2.2).bind fun x148=>(ZK (XD p0 s13 s139 x148) (s139.1,s139.2.1,0)).bind fun j150=>some (Fl.nx (j150.1,j150.2,wr (s139.2.2 + 1)))) else (some (Fl.ex (s139.1,s139.2.1)))
def XG (p0 : Int) (s13 : (Vector (Vector UInt8 4) 4) × (Vector (Vector UInt8 4) 4) × UInt8 × Int) : Option (Fl ((Vector (Vector UInt8 4) 4) × (Vector (Vector UInt8 4) 4) × UInt8 × Int) (Fl ((Vector (Vector UInt8 4) 4) × UInt8) (UInt8 × (Vector (Vector UInt8 4) 4)))) :=
 if (decide (s13.2.2.2 < 4)) = true then ((ZK (TF s13) s13.2.2.2).bind fun j18=>if (j18 == 4) = true then (some (Fl.ex (Fl.ex (0,(Vector.replicate 4 (Vector.replicate 4 (0 : UInt8))))))) else ((ZB s13.1 j18).bind fun x44=>(ZB s13.2.1 j18).bind fun x47=>(ZB s13.1 s13.2.2.2).bind fun x60=>(ZB s13.1 j18).bind fun x63=>(ZB (s13.1.setIfInBounds (j18).toNat x60) s13.2.2.2).bind fun x66=>(ZB s13.2.1 s13.2.2.2).bind fun x69=>(ZB s13.2.1 j18).bind fun x72=>(ZB (s13.2.1.setIfInBounds (j18).toNat x69) s13.2.2.2).bind fun x75=>(ZB ((s13.1.setIfInBounds (j18).toNat x60).setIfInBounds (s13.2.2.2).toNat x44) s13.2.2.2).bind fun x78=>(ZB x78 s13.2.2.2).bind fun x81=>(Ye p0 s13.2.2.1 x81).bind fun r83=>(ZB ((s13.1.setIfInBounds (j18).toNat x60).setIfInBounds (s13.2.2.2).toNat x44) s13.2.2.2).bind fun x86=>(ZB x86 s13.2.2.2).bind fun x89=>(WT p0 x89).bind fun r91=>(ZK (VE p0 s13 r91) (((s13.1.setIfInBounds (j18).toNat x60).setIfInBounds (s13.2.2.2).toNat x44),((s13.2.1.setIfInBounds (j18).toNat x69).setIfInBounds (s13.2.2.2).toNat x47),0)).bind fun j93=>(ZK (VA p0 s13) (j93.1,j93.2,0)).bind fun j136=>some (Fl.nx (j136.1,j136.2,r83,wr (s13.2.2.2 + 1))))) else (some (Fl.ex (Fl.nx (s13.2.1,s13.2.2.1))))
def V2 (p0 : Int) (p1 : (Vector (Vector UInt8 4) 4)) : Option (UInt8 × (Vector (Vector UInt8 4) 4)) :=
 (Vx).bind fun r5=>(ZK (XG p0) (p1,r5,1,0)).bind fun j9=>j9.el (fun s12=>(some (s12.1,s12.2) : Option ((Vector (Vector UInt8 4) 4) × UInt8)).bind fun j213=>some (j213.2,j213.1)) (fun r=>some r)
theorem HR (w0 : World) (p0 : Int) (p1 : (Vector (Vector UInt8 4) 4)) (r : UInt8 × (Vector (Vector UInt8 4) 4)) (hF : V2 p0 p1 = some r) :
  Calls Tryz.prog 95 [vI p0,(Value.agg (enc p1).toArray)].toArray w0 (Rt w0 (Value.tuple [vB r.1,(Value.agg (enc r.2).toArray)].toArray)):=by
 refine ce Tryz.func95 ?_
 intro a hE
 have hM:=M.start w0
 unfold V2 at hF
 refine Zb (ZY (cs:=enc p1) hE hM Za ld rfl rfl fun b1 w a hM hE=>Zc hE rfl fun a hE=>Zs hE hM XV fun b3 w a hM hE=>Ze (Zb ?_))
 obtain ⟨r5,e6,hF⟩:=bind_some hF
 refine Zo hE rfl (cbm Tryz.func108) (JV _  r5 e6) ?_
 rintro v w a ⟨rfl,hK⟩ hE
 have hM:=hM.keep hK
 refine Zs hE hM XV fun b7 w a hM hE=>Zg (seg:=enc r5) (cs':=enc r5) hE hM Za rfl rfl rfl XV (Flat.len _) (zle flq) (Flat.cell _) (Zf flq) fun w a hM hE=>Zc hE rfl fun a hE=>Ze (wp_seq (Zb (Zc hE rfl fun a hE=>Ze ?_)))
 obtain ⟨j9,hl10,hF11⟩:=bind_some hF
 refine ZS (fun a w=>∃ s12 : (Vector (Vector UInt8 4) 4) × UInt8,j9 = Fl.nx s12 ∧ Env 159 a [(5,(ptr b3 0)),(6,(ptr b7 0)),(7,vB s12.2)] ∧ M (Old w0) w0 w [raw b7 (enc s12.1),raw b3 (enc (Vector.replicate 4 (Vector.replicate 4 (0 : UInt8))))]) ?_ ?_
 ·skip
  refine wp_block ?_
  refine ZO (fun (s13 : (Vector (Vector UInt8 4) 4) × (Vector (Vector UInt8 4) 4) × UInt8 × Int) a w=>Env 159 a [(0,vI p0),(3,(ptr b1 0)),(5,(ptr b3 0)),(6,(ptr b7 0)),(7,vB s13.2.2.1),(8,vI s13.2.2.2)] ∧ M (Old w0) w0 w [raw b7 (enc s13.2.1),raw b3 (enc (Vector.replicate 4 (Vector.replicate 4 (0 : UInt8)))),raw b1 (enc s13.1)]) hl10 ⟨hE.sub ⟨rfl,rfl,rfl,rfl,rfl,rfl,trivial⟩,hM⟩ ?_
  rintro s13 a w ⟨hE,hM⟩ o16 hs14 hx15
  unfold XG at hs14
  refine wp_seq (Zb (Zd hE rfl fun a hE=>Zl hE rfl rfl rfl fun a hE=>Ze ?_))
  refine Zr hE rfl ?_ ?_
  ·intro hb17
   have hs14:=Zu hs14 hb17
   refine wp_skip (Zz (wp_seq (wp_block (Zb (Zd hE rfl fun a hE=>Zc hE rfl fun a hE=>Ze ?_)))))
   obtain ⟨j18,hl19,hF20⟩:=bind_some hs14
   refine ZQ (fun a w=>Env 159 a [(0,vI p0),(3,(ptr b1 0)),(5,(ptr b3 0)),(6,(ptr b7 0)),(7,vB s13.2.2.1),(8,vI s13.2.2.2),(9,vI j18)] ∧ M (Old w0) w0 w [raw b7 (enc s13.2.1),raw b3 (enc (Vector.replicate 4 (Vector.replicate 4 (0 : UInt8)))),raw b1 (enc s13.1)]) ?_ ?_
   ·skip
    refine wp_block ?_
    refine ZO (fun (s21 : Int) a w=>Env 159 a [(0,vI p0),(3,(ptr b1 0)),(5,(ptr b3 0)),(6,(ptr b7 0)),(7,vB s13.2.2.1),(8,vI s13.2.2.2),(9,vI s21)] ∧ M (Old w0) w0 w [raw b7 (enc s13.2.1),raw b3 (enc (Vector.replicate 4 (Vector.replicate 4 (0 : UInt8)))),raw b1 (enc s13.1)]) hl19 ⟨hE.sub ⟨rfl,rfl,rfl,rfl,rfl,rfl,rfl,trivial⟩,hM⟩ ?_
    rintro s21 a w ⟨hE,hM⟩ o24 hs22 hx23
    unfold TF at hs22
    refine wp_seq ?_
    obtain ⟨j25,hl26,hF27⟩:=bind_some hs22
    refine ZQ (fun a w=>Env 159 a [(0,vI p0),(3,(ptr b1 0)),(5,(ptr b3 0)),(6,(ptr b7 0)),(7,vB s13.2.2.1),(8,vI s13.2.2.2),(9,vI s21),(32,vT j25)] ∧ M (Old w0) w0 w [raw b7 (enc s13.2.1),raw b3 (enc (Vector.replicate 4 (Vector.replicate 4 (0 : UInt8)))),raw b1 (enc s13.1)]) ?_ ?_
    ·skip
     refine wp_region_lit (Zd hE rfl fun a hE=>Zl hE rfl rfl rfl fun a hE=>Zd hE rfl ?_); intro a hE
     refine YF (decide (s21 < 4)) (fun hb28=>?_) (fun hb28=>?_)
     ·have hl26:=Zu hl26 hb28
      refine Zj hE (Zm hE rfl (lkb rfl hb28)) (by decide) rfl fun a hE=>Zj hE (Zm hE rfl (lkb rfl hb28)) (by decide) rfl ?_; intro a hE
      obtain ⟨x30,hi29,hl26⟩:=bvx hl26
      refine ZA hE (Zm hE rfl (lkb rfl hb28)) (by decide) rfl rfl Tryz.underlying28 Yq hi29.1 ?_; intro a hE
      obtain ⟨x33,hi32,hl26⟩:=bvx hl26
      refine ZA hE (Zm hE rfl (lkb rfl hb28)) (by decide) rfl rfl Tryz.underlying26 ty5 hi32.1 fun a hE=>Z0 (v:=(vB x33)) hE (Zm hE rfl (lkb rfl hb28)) (by decide) rfl ty5 rfl (At.vec (At.vec hM.rawAt2 hi29.2) hi32.2) fun a hE=>Yk hE (Zm hE rfl (lkb rfl hb28)) (by decide) rfl rfl (Al x33 0) fun a hE=>ZW hE (lkb rfl hb28) rfl fun a hE=>Zh ?_
      obtain rfl:=Option.some.inj hl26
      refine Zi ?_
      exact ⟨hE.sub ⟨rfl,rfl,rfl,rfl,rfl,rfl,rfl,rfl,trivial⟩,hM⟩
     ·have hl26:=Zt hl26 hb28
      refine Zp hE rfl (lkb rfl hb28) rfl (by decide) fun a hE=>Zp hE rfl (lkb rfl hb28) rfl (by decide) fun a hE=>Zp hE rfl (lkb rfl hb28) rfl (by decide) fun a hE=>Zp hE rfl (lkb rfl hb28) rfl (by decide) fun a hE=>Zp hE rfl (lkb rfl hb28) rfl (by decide) fun a hE=>Zp hE rfl (lkb rfl hb28) rfl (by decide) fun a hE=>Z7 hE (lkb rfl hb28) rfl fun a hE=>Zh ?_
      obtain rfl:=Option.some.inj hl26
      refine Zi ?_
      exact ⟨hE.sub ⟨rfl,rfl,rfl,rfl,rfl,rfl,rfl,rfl,trivial⟩,hM⟩
    ·skip
     rintro a w ⟨hE,hM⟩
     refine Zr hE rfl ?_ ?_
     ·intro hb37
      have hF27:=Zu hF27 hb37
      refine wp_skip (Zz (wp_block (wp_region_lit (Zd hE rfl fun a hE=>Zl hE rfl rfl rfl fun a hE=>Zc hE rfl fun a hE=>Zh (Z9 (Zi ?_))))))
      exact ⟨_,(ois hF27),hE.sub ⟨rfl,rfl,rfl,rfl,rfl,rfl,rfl,trivial⟩,hM⟩
     ·intro hb37
      have hF27:=Zt hF27 hb37
      refine wp_exit (Zq (Zq (Yi ?_)))
      obtain rfl:=hx23 _ (ois hF27)
      refine Zi ?_
      exact ⟨hE.sub ⟨rfl,rfl,rfl,rfl,rfl,rfl,rfl,trivial⟩,hM⟩
   ·skip
    rintro a w ⟨hE,hM⟩
    refine wp_seq (Zb (Zd hE rfl fun a hE=>Zl hE rfl rfl rfl fun a hE=>Ze ?_))
    refine Zr hE rfl ?_ ?_
    ·intro hb39
     have hF20:=Zu hF20 hb39
     refine Zb (Z8 (parts:=[]) (vs:=[]) (cs:=enc (Vector.replicate 4 (Vector.replicate 4 (0 : UInt8)))) hE Za ld rfl rfl XV rfl Yq ZZ fun a hE=>Zc hE rfl ?_); intro a hE
     have hM:=hM.pull1
     refine Zg (seg:=enc (Vector.replicate 4 (Vector.replicate 4 (0 : UInt8)))) (cs':=enc (Vector.replicate 4 (Vector.replicate 4 (0 : UInt8)))) hE hM Za rfl rfl rfl XV (Flat.len _) (zle flq) (Flat.cell _) (Zf flq) fun w a hM hE=>Ze ?_
     obtain rfl:=hx15 _ (ois hF20)
     obtain rfl:=Option.some.inj hF11
     have hq41 : ZX Tryz.prog _ _ (.cell 5 28) _:=ZN hE rfl XV rfl hM.rawAt0 (Flat.len _) rfl
     exact wp_ret (ZI (Y8 (ZI (ZI (Y8 (ZI (ZI (Xk hE rfl (ZF hE rfl) hq41 ⟨_,rfl,rfl,hM.kept⟩))))))))
    ·intro hb39
     have hF20:=Zt hF20 hb39
     refine wp_skip (Zz (wp_seq ?_))
     obtain ⟨x44,hi43,hF20⟩:=bvx hF20
     obtain ⟨x47,hi46,hF20⟩:=bvx hF20
     refine Wk (its:=[raw b7 (enc s13.2.1),raw b3 (enc (Vector.replicate 4 (Vector.replicate 4 (0 : UInt8)))),raw b1 (enc s13.1)]) (mk:=([mkC 6 8 (enc (Vector.replicate 4 (0 : UInt8))) (enc x44),mkO 7 (fun v=>Jp v (enc (Vector.replicate 4 (0 : UInt8))))] : Mk)) [38,39,40,41,42,43,10,11,167] Xm rfl rfl (by decide) rfl hE (fun u=>M.qE (M.qE (M.q0 hM.drew u) emO) emC) (qsP (fun z=>Zj z.E Za ld rfl (kr0 rfl)) (qsP (fun z=>ZA z.E Za ld rfl rfl Tryz.underlying28 Yq hi43.1 (kr0 rfl)) (qsP (v:=(Value.agg (enc x44).toArray)) ?_ (qsP (fun z=>Zj z.E Za ld rfl (kr0 rfl)) (qsP (fun z=>ZA z.E Za ld rfl rfl Tryz.underlying28 Yq hi46.1 (kr0 rfl)) (qsP (v:=(Value.agg (enc x47).toArray)) ?_ (qsM (pr:=fun v=>True) ?_ (qsM (pr:=fun v=>True) ?_ (qsM (pr:=fun v=>True) ?_ qs0))))))))) ?_
     ·intro a w ux42 D z
      have hE:=z.E
      have hM:=z.M
      exact Zk hE rfl Yq rfl (At.vec hM.rawAt2 hi43.2) (Flat.len _) fun a hE=>⟨Kept.refl _ _,_,rfl,hE⟩
     ·intro a w ux42 D z
      have hE:=z.E
      have hM:=z.M
      exact Zk hE rfl Yq rfl (At.vec hM.rawAt0 hi46.2) (Flat.len _) fun a hE=>⟨Kept.refl _ _,_,rfl,hE⟩
     ·intro a w ux42 D z
      have hE:=z.E
      have hD : D 6 = false:=z.F
      have hM:=z.M
      refine Zs hE hM Yq ?_; intro b49 w a hM hE
      have hs : D 8 = false:=VH (j:=8) (k:=0) z.c rfl rfl rfl hD
      exact ⟨_,_,rfl,hE,M.qAlloc (mk1:=[]) (mk2:=[_]) hM rfl hD hs (by decide),trivial⟩
     ·intro a w ux42 D z
      have hE:=z.E
      have hD : D 7 = false:=z.F
      have hM:=z.M
      refine Zs hE hM Yq ?_; intro b51 w a hM hE
      have hM:=hM.pack1 (it:=Jp _ (enc (Vector.replicate 4 (0 : UInt8)))) (fun w w' fp ⟨b',e,k⟩ hb=>⟨b',e,Tw w w' fp k hb⟩) (fun fp k=>⟨_,rfl,k⟩)
      exact ⟨_,_,rfl,hE,M.qFill (mk1:=[_]) (mk2:=[]) (f:=fun v=>Jp v (enc (Vector.replicate 4 (0 : UInt8)))) hM rfl hD,trivial⟩
     ·intro a w ux42 D z
      have hE:=z.E
      have hD : D 8 = false:=z.F
      have d6 : D 6 = true:=z.p 0 _ rfl rfl
      have hM:=z.M
      obtain ⟨b53,hb54,hM⟩:=M.openCellF (pre:=[_,_,_]) hM d6 hD
      exact Zg (seg:=enc x44) (cs':=enc x44) hE hM Za (lk rfl hb54) rfl rfl Yq (Flat.len _) (zle flq) (Flat.cell _) (Zf flq) fun w a hM hE=>⟨undef,_,rfl,Env.dummy hE (by decide),M.qStore (i:=6) (mk1:=[]) (mk2:=[_]) hM rfl d6 hb54 (by decide),trivial⟩
     ·intro a w ux42 D hE hM hG hall
      have d6:=hall 6 (by decide)
      have d7:=hall 7 (by decide)
      have d8:=hall 8 (by decide)
      obtain ⟨b55,f56,hM⟩:=M.openCellT (pre:=[_,_,_]) hM d6 d8
      have hM:=(hM.sure (pre:=[_,_,_,_]) d7).pull
      obtain ⟨_,⟨b57,f58,_⟩,_⟩:=hM.head
      have hM:=hM.pack1 Tw (it:=raw b57 (enc (Vector.replicate 4 (0 : UInt8)))) (fun fp ⟨b2,e2,k2⟩=>by rw [f58] at e2; simp [ptr] at e2; subst e2; exact k2)
      have hE:=hE.setq (t:=10) rfl f56
      have hE:=hE.setq (t:=11) rfl f58
      refine Zg (seg:=enc x47) (cs':=enc x47) hE hM Za rfl rfl rfl Yq (Flat.len _) (zle flq) (Flat.cell _) (Zf flq) fun w a hM hE=>Zh (Zz (Zb (Zd hE rfl fun a hE=>Zd hE rfl ?_))); intro a hE
      obtain ⟨x60,hi59,hF20⟩:=bvx hF20
      refine Zw hE rfl rfl Tryz.underlying28 Yq hi59.1 fun a hE=>Zk hE rfl Yq rfl (At.vec hM.rawAt4 hi59.2) (Flat.len _) ?_; intro a hE
      obtain ⟨x63,hi62,hF20⟩:=bvx hF20
      refine Zw hE rfl rfl Tryz.underlying28 Yq hi62.1 ?_; intro a hE
      have hM:=hM.pull4
      refine Zg (seg:=enc x60) (cs':=enc (s13.1.setIfInBounds (j18).toNat x60)) hE hM Za rfl rfl rfl Yq (Flat.len _) (ZE (v:=s13.1) (x:=x60) hi62.1) (Flat.cell _) (Zy (v:=s13.1) (x:=x60) hi62.1) fun w a hM hE=>Ze (Zb (Zd hE rfl fun a hE=>Zk hE rfl Yq rfl hM.rawAt2 (Flat.len _) ?_)); intro a hE
      obtain ⟨x66,hi65,hF20⟩:=bvx hF20
      refine Zw hE rfl rfl Tryz.underlying28 Yq hi65.1 fun a hE=>Zg (seg:=enc x44) (cs':=enc ((s13.1.setIfInBounds (j18).toNat x60).setIfInBounds (s13.2.2.2).toNat x44)) hE hM Za rfl rfl rfl Yq (Flat.len _) (ZE (v:=(s13.1.setIfInBounds (j18).toNat x60)) (x:=x44) hi65.1) (Flat.cell _) (Zy (v:=(s13.1.setIfInBounds (j18).toNat x60)) (x:=x44) hi65.1) fun w a hM hE=>Ze (Zb (Zd hE rfl fun a hE=>Zd hE rfl ?_)); intro a hE
      obtain ⟨x69,hi68,hF20⟩:=bvx hF20
      refine Zw hE rfl rfl Tryz.underlying28 Yq hi68.1 fun a hE=>Zk hE rfl Yq rfl (At.vec hM.rawAt3 hi68.2) (Flat.len _) ?_; intro a hE
      obtain ⟨x72,hi71,hF20⟩:=bvx hF20
      refine Zw hE rfl rfl Tryz.underlying28 Yq hi71.1 ?_; intro a hE
      have hM:=hM.pull3
      refine Zg (seg:=enc x69) (cs':=enc (s13.2.1.setIfInBounds (j18).toNat x69)) hE hM Za rfl rfl rfl Yq (Flat.len _) (ZE (v:=s13.2.1) (x:=x69) hi71.1) (Flat.cell _) (Zy (v:=s13.2.1) (x:=x69) hi71.1) fun w a hM hE=>Ze (Zb (Zd hE rfl fun a hE=>Zk hE rfl Yq rfl hM.rawAt2 (Flat.len _) ?_)); intro a hE
      obtain ⟨x75,hi74,hF20⟩:=bvx hF20
      refine Zw hE rfl rfl Tryz.underlying28 Yq hi74.1 fun a hE=>Zg (seg:=enc x47) (cs':=enc ((s13.2.1.setIfInBounds (j18).toNat x69).setIfInBounds (s13.2.2.2).toNat x47)) hE hM Za rfl rfl rfl Yq (Flat.len _) (ZE (v:=(s13.2.1.setIfInBounds (j18).toNat x69)) (x:=x47) hi74.1) (Flat.cell _) (Zy (v:=(s13.2.1.setIfInBounds (j18).toNat x69)) (x:=x47) hi74.1) fun w a hM hE=>Ze (Zb (Zd hE rfl fun a hE=>Zd hE rfl fun a hE=>Zd hE rfl fun a hE=>Zd hE rfl ?_)); intro a hE
      obtain ⟨x78,hi77,hF20⟩:=bvx hF20
      refine Zw hE rfl rfl Tryz.underlying28 Yq hi77.1 ?_; intro a hE
      obtain ⟨x81,hi80,hF20⟩:=bvx hF20
      refine Zw hE rfl rfl Tryz.underlying26 ty5 hi80.1 fun a hE=>ZR (v:=(vB x81)) hE rfl ty5 rfl (At.vec (At.vec hM.rawAt1 hi77.2) hi80.2) ?_; intro a hE
      obtain ⟨r83,e84,hF20⟩:=bind_some hF20
      refine Zo hE rfl Jy (Y7 _ p0 s13.2.2.1 x81 r83 e84) ?_
      rintro v w a ⟨rfl,hK⟩ hE
      have hM:=hM.keep hK
      refine Zc hE rfl fun a hE=>Ze (Zb (Zd hE rfl fun a hE=>Zd hE rfl fun a hE=>Zd hE rfl ?_)); intro a hE
      obtain ⟨x86,hi85,hF20⟩:=bvx hF20
      refine Zw hE rfl rfl Tryz.underlying28 Yq hi85.1 ?_; intro a hE
      obtain ⟨x89,hi88,hF20⟩:=bvx hF20
      refine Zw hE rfl rfl Tryz.underlying26 ty5 hi88.1 fun a hE=>ZR (v:=(vB x89)) hE rfl ty5 rfl (At.vec (At.vec hM.rawAt1 hi85.2) hi88.2) ?_; intro a hE
      obtain ⟨r91,e92,hF20⟩:=bind_some hF20
      refine Zo hE rfl (cbm Tryz.func85) (Jt _ p0 x89 r91 e92) ?_
      rintro v w a ⟨rfl,hK⟩ hE
      have hM:=hM.keep hK
      refine Zc hE rfl fun a hE=>Ze (wp_seq (Zb (Zc hE rfl fun a hE=>Ze ?_)))
      obtain ⟨j93,hl94,hF95⟩:=bind_some hF20
      refine ZS (fun a w=>Env 159 a [(0,vI p0),(3,(ptr b1 0)),(5,(ptr b3 0)),(6,(ptr b7 0)),(7,vB r83),(8,vI s13.2.2.2)] ∧ M (Old w0) w0 w [raw b7 (enc j93.2),raw b1 (enc j93.1),raw b3 (enc (Vector.replicate 4 (Vector.replicate 4 (0 : UInt8))))]) ?_ ?_
      ·skip
       refine wp_block ?_
       have hM:=M.fst (l:=[_,_,_]) hM.pull4.pull2.pull2
       refine ZO (fun (s96 : (Vector (Vector UInt8 4) 4) × (Vector (Vector UInt8 4) 4) × Int) a w=>Env 159 a [(0,vI p0),(3,(ptr b1 0)),(5,(ptr b3 0)),(6,(ptr b7 0)),(7,vB r83),(8,vI s13.2.2.2),(12,vB r91),(13,vI s96.2.2)] ∧ M (Old w0) w0 w [raw b7 (enc s96.2.1),raw b1 (enc s96.1),raw b3 (enc (Vector.replicate 4 (Vector.replicate 4 (0 : UInt8))))]) hl94 ⟨hE.sub ⟨rfl,rfl,rfl,rfl,rfl,rfl,rfl,rfl,trivial⟩,hM⟩ ?_
       rintro s96 a w ⟨hE,hM⟩ o99 hs97 hx98
       unfold VE at hs97
       refine wp_seq (Zb (Zd hE rfl fun a hE=>Zl hE rfl rfl rfl fun a hE=>Ze ?_))
       refine Zr hE rfl ?_ ?_
       ·intro hb100
        have hs97:=Zu hs97 hb100
        refine wp_skip (Zz (wp_seq (wp_block ?_)))
        obtain ⟨j101,hl102,hF103⟩:=bind_some hs97
        refine ZQ (fun a w=>Env 159 a [(0,vI p0),(3,(ptr b1 0)),(5,(ptr b3 0)),(6,(ptr b7 0)),(7,vB r83),(8,vI s13.2.2.2),(12,vB r91),(13,vI s96.2.2)] ∧ M (Old w0) w0 w [raw b7 (enc s96.2.1),raw b1 (enc j101),raw b3 (enc (Vector.replicate 4 (Vector.replicate 4 (0 : UInt8))))]) ?_ ?_
        ·skip
         obtain ⟨x106,hi105,hl102⟩:=bvx hl102
         obtain ⟨x109,hi108,hl102⟩:=bvx hl102
         obtain ⟨r111,e112,hl102⟩:=bind_some hl102
         obtain ⟨x114,hi113,hl102⟩:=bvx hl102
         obtain ⟨x117,hi116,hl102⟩:=bvx hl102
         refine Yl [79,80,81,82,83,84,85,86,87,88,89,90] Xm rfl rfl (by decide) rfl hE hM (qsP (fun z=>Zj z.E Za ld rfl (kr0 rfl)) (qsP (fun z=>Zj z.E Za ld rfl (kr0 rfl)) (qsP (fun z=>Zj z.E Za ld rfl (kr0 rfl)) (qsP (fun z=>Zj z.E Za ld rfl (kr0 rfl)) (qsP (fun z=>Zj z.E Za ld rfl (kr0 rfl)) (qsP (fun z=>ZA z.E Za ld rfl rfl Tryz.underlying28 Yq hi105.1 (kr0 rfl)) (qsP (fun z=>ZA z.E Za ld rfl rfl Tryz.underlying26 ty5 hi108.1 (kr0 rfl)) (qsP (fun z=>Z0 (v:=(vB x109)) z.E Za ld rfl ty5 rfl (At.vec (At.vec (z.M.rawAt1) hi105.2) hi108.2) (kr0 rfl)) (qsP (fun z=>Zj z.E Za ld rfl (kr0 rfl)) (qsP (fun z=>YD z.E Za ld rfl Jy (Y7 _ p0 x109 r91 r111 e112) (kc rfl)) (qsP (fun z=>ZA z.E Za ld rfl rfl Tryz.underlying28 Yq hi113.1 (kr0 rfl)) (qsP (fun z=>ZA z.E Za ld rfl rfl Tryz.underlying26 ty5 hi116.1 (kr0 rfl)) qs0)))))))))))) ?_
         ·intro a w u hE hM
          have hM:=hM.pull1
          refine Zg (seg:=[vB r111]) (cs':=enc (s96.1.setIfInBounds (s13.2.2.2).toNat (x114.setIfInBounds (s96.2.2).toNat r111))) hE hM Za rfl rfl rfl ty5 rfl (XJ (o':=0 + (s96.2.2).toNat * 1) hi113 (ZE (v:=x114) (x:=r111) hi116.1) (by first | omega | (simp only [Flat.n] <;> omega))) (Flat.cell (r111 : UInt8)) (Y4 (o':=0 + (s96.2.2).toNat * 1) hi113 (ZE (v:=x114) (x:=r111) hi116.1) (Zy (v:=x114) (x:=r111) hi116.1) (by first | omega | (simp only [Flat.n] <;> omega))) fun w a hM hE=>Zh ?_
          obtain rfl:=Option.some.inj hl102
          refine Zi ?_
          have hM:=hM.pull2.pull1.pull2
          exact ⟨hE.sub ⟨rfl,rfl,rfl,rfl,rfl,rfl,rfl,rfl,trivial⟩,hM⟩
        ·skip
         rintro a w ⟨hE,hM⟩
         obtain ⟨x122,hi121,hF103⟩:=bvx hF103
         obtain ⟨x125,hi124,hF103⟩:=bvx hF103
         obtain ⟨r127,e128,hF103⟩:=bind_some hF103
         obtain ⟨x130,hi129,hF103⟩:=bvx hF103
         obtain ⟨x133,hi132,hF103⟩:=bvx hF103
         refine Yl [91,92,93,94,95,96,97,98,99,100,101,102] Xm rfl rfl (by decide) rfl hE hM (qsP (fun z=>Zj z.E Za ld rfl (kr0 rfl)) (qsP (fun z=>Zj z.E Za ld rfl (kr0 rfl)) (qsP (fun z=>Zj z.E Za ld rfl (kr0 rfl)) (qsP (fun z=>Zj z.E Za ld rfl (kr0 rfl)) (qsP (fun z=>Zj z.E Za ld rfl (kr0 rfl)) (qsP (fun z=>ZA z.E Za ld rfl rfl Tryz.underlying28 Yq hi121.1 (kr0 rfl)) (qsP (fun z=>ZA z.E Za ld rfl rfl Tryz.underlying26 ty5 hi124.1 (kr0 rfl)) (qsP (fun z=>Z0 (v:=(vB x125)) z.E Za ld rfl ty5 rfl (At.vec (At.vec (z.M.rawAt0) hi121.2) hi124.2) (kr0 rfl)) (qsP (fun z=>Zj z.E Za ld rfl (kr0 rfl)) (qsP (fun z=>YD z.E Za ld rfl Jy (Y7 _ p0 x125 r91 r127 e128) (kc rfl)) (qsP (fun z=>ZA z.E Za ld rfl rfl Tryz.underlying28 Yq hi129.1 (kr0 rfl)) (qsP (fun z=>ZA z.E Za ld rfl rfl Tryz.underlying26 ty5 hi132.1 (kr0 rfl)) qs0)))))))))))) ?_
         ·intro a w u hE hM
          refine Zg (seg:=[vB r127]) (cs':=enc (s96.2.1.setIfInBounds (s13.2.2.2).toNat (x130.setIfInBounds (s96.2.2).toNat r127))) hE hM Za rfl rfl rfl ty5 rfl (XJ (o':=0 + (s96.2.2).toNat * 1) hi129 (ZE (v:=x130) (x:=r127) hi132.1) (by first | omega | (simp only [Flat.n] <;> omega))) (Flat.cell (r127 : UInt8)) (Y4 (o':=0 + (s96.2.2).toNat * 1) hi129 (ZE (v:=x130) (x:=r127) hi132.1) (Zy (v:=x130) (x:=r127) hi132.1) (by first | omega | (simp only [Flat.n] <;> omega))) fun w a hM hE=>Zh (Z9 (Zz (wp_region_lit (Zd hE rfl fun a hE=>Zl hE rfl rfl rfl fun a hE=>Zc hE rfl fun a hE=>Zh (Zi ?_)))))
          exact ⟨_,(ois hF103),hE.sub ⟨rfl,rfl,rfl,rfl,rfl,rfl,rfl,rfl,trivial⟩,hM⟩
       ·intro hb100
        have hs97:=Zt hs97 hb100
        refine wp_exit (Zq (Zq (Yi ?_)))
        obtain rfl:=hx98 _ (ois hs97)
        refine Zi ?_
        exact ⟨hE.sub ⟨rfl,rfl,rfl,rfl,rfl,rfl,trivial⟩,hM⟩
      ·skip
       rintro a w ⟨hE,hM⟩
       refine Zz (Zb (Zc hE rfl fun a hE=>Ze ?_))
       obtain ⟨j136,hl137,hF138⟩:=bind_some hF95
       refine ZS (fun a w=>Env 159 a [(0,vI p0),(3,(ptr b1 0)),(5,(ptr b3 0)),(6,(ptr b7 0)),(7,vB r83),(8,vI s13.2.2.2)] ∧ M (Old w0) w0 w [raw b7 (enc j136.2),raw b1 (enc j136.1),raw b3 (enc (Vector.replicate 4 (Vector.replicate 4 (0 : UInt8))))]) ?_ ?_
       ·skip
        refine wp_block ?_
        refine ZO (fun (s139 : (Vector (Vector UInt8 4) 4) × (Vector (Vector UInt8 4) 4) × Int) a w=>Env 159 a [(0,vI p0),(3,(ptr b1 0)),(5,(ptr b3 0)),(6,(ptr b7 0)),(7,vB r83),(8,vI s13.2.2.2),(14,vI s139.2.2)] ∧ M (Old w0) w0 w [raw b7 (enc s139.2.1),raw b1 (enc s139.1),raw b3 (enc (Vector.replicate 4 (Vector.replicate 4 (0 : UInt8))))]) hl137 ⟨hE.sub ⟨rfl,rfl,rfl,rfl,rfl,rfl,rfl,trivial⟩,hM⟩ ?_
        rintro s139 a w ⟨hE,hM⟩ o142 hs140 hx141
        unfold VA at hs140
        refine wp_seq (Zb (Zd hE rfl fun a hE=>Zl hE rfl rfl rfl fun a hE=>Ze ?_))
        refine Zr hE rfl ?_ ?_
        ·intro hb143
         have hs140:=Zu hs140 hb143
         refine wp_skip (Zz (wp_seq (wp_block (Zb (Zd hE rfl fun a hE=>Zd hE rfl ?_))))); intro a hE
         obtain ⟨x145,hi144,hs140⟩:=bvx hs140
         refine Zw hE rfl rfl Tryz.underlying28 Yq hi144.1 ?_; intro a hE
         obtain ⟨x148,hi147,hs140⟩:=bvx hs140
         refine Zw hE rfl rfl Tryz.underlying26 ty5 hi147.1 fun a hE=>ZR (v:=(vB x148)) hE rfl ty5 rfl (At.vec (At.vec hM.rawAt1 hi144.2) hi147.2) fun a hE=>Zc hE rfl fun a hE=>Ze (Zb (Zc hE rfl fun a hE=>Ze ?_))
         obtain ⟨j150,hl151,hF152⟩:=bind_some hs140
         refine ZS (fun a w=>Env 159 a [(0,vI p0),(3,(ptr b1 0)),(5,(ptr b3 0)),(6,(ptr b7 0)),(7,vB r83),(8,vI s13.2.2.2),(14,vI s139.2.2)] ∧ M (Old w0) w0 w [raw b7 (enc j150.2),raw b1 (enc j150.1),raw b3 (enc (Vector.replicate 4 (Vector.replicate 4 (0 : UInt8))))]) ?_ ?_
         ·skip
          refine wp_block ?_
          refine ZO (fun (s153 : (Vector (Vector UInt8 4) 4) × (Vector (Vector UInt8 4) 4) × Int) a w=>Env 159 a [(0,vI p0),(3,(ptr b1 0)),(5,(ptr b3 0)),(6,(ptr b7 0)),(7,vB r83),(8,vI s13.2.2.2),(14,vI s139.2.2),(15,vB x148),(16,vI s153.2.2)] ∧ M (Old w0) w0 w [raw b7 (enc s153.2.1),raw b1 (enc s153.1),raw b3 (enc (Vector.replicate 4 (Vector.replicate 4 (0 : UInt8))))]) hl151 ⟨hE.sub ⟨rfl,rfl,rfl,rfl,rfl,rfl,rfl,rfl,rfl,trivial⟩,hM⟩ ?_
          rintro s153 a w ⟨hE,hM⟩ o156 hs154 hx155
          unfold XD at hs154
          refine wp_seq ?_
          obtain ⟨j157,hl158,hF159⟩:=bind_some hs154
          refine ZQ (fun a w=>Env 159 a [(0,vI p0),(3,(ptr b1 0)),(5,(ptr b3 0)),(6,(ptr b7 0)),(7,vB r83),(8,vI s13.2.2.2),(14,vI s139.2.2),(15,vB x148),(16,vI s153.2.2),(118,vT j157)] ∧ M (Old w0) w0 w [raw b7 (enc s153.2.1),raw b1 (enc s153.1),raw b3 (enc (Vector.replicate 4 (Vector.replicate 4 (0 : UInt8))))]) ?_ ?_
          ·skip
           refine wp_region_lit (Zd hE rfl fun a hE=>Zl hE rfl rfl rfl fun a hE=>Zd hE rfl ?_); intro a hE
           refine YF (decide (s153.2.2 < 4)) (fun hb160=>?_) (fun hb160=>?_)
           ·have hl158:=Zu hl158 hb160
            refine Zj hE (Zm hE rfl (lkb rfl hb160)) (by decide) rfl fun a hE=>Zj hE (Zm hE rfl (lkb rfl hb160)) (by decide) rfl fun a hE=>Yk hE (Zm hE rfl (lkb rfl hb160)) (by decide) rfl rfl rfl fun a hE=>ZW hE (lkb rfl hb160) rfl fun a hE=>Zh ?_
            obtain rfl:=Option.some.inj hl158
            refine Zi ?_
            exact ⟨hE.sub ⟨rfl,rfl,rfl,rfl,rfl,rfl,rfl,rfl,rfl,rfl,trivial⟩,hM⟩
           ·have hl158:=Zt hl158 hb160
            refine Zp hE rfl (lkb rfl hb160) rfl (by decide) fun a hE=>Zp hE rfl (lkb rfl hb160) rfl (by decide) fun a hE=>Zp hE rfl (lkb rfl hb160) rfl (by decide) fun a hE=>Z7 hE (lkb rfl hb160) rfl fun a hE=>Zh ?_
            obtain rfl:=Option.some.inj hl158
            refine Zi ?_
            exact ⟨hE.sub ⟨rfl,rfl,rfl,rfl,rfl,rfl,rfl,rfl,rfl,rfl,trivial⟩,hM⟩
          ·skip
           rintro a w ⟨hE,hM⟩
           refine Zr hE rfl ?_ ?_
           ·intro hb163
            have hF159:=Zu hF159 hb163
            refine wp_skip (Zz (wp_seq (wp_block ?_)))
            obtain ⟨j164,hl165,hF166⟩:=bind_some hF159
            refine ZQ (fun a w=>Env 159 a [(0,vI p0),(3,(ptr b1 0)),(5,(ptr b3 0)),(6,(ptr b7 0)),(7,vB r83),(8,vI s13.2.2.2),(14,vI s139.2.2),(15,vB x148),(16,vI s153.2.2)] ∧ M (Old w0) w0 w [raw b7 (enc s153.2.1),raw b1 (enc j164),raw b3 (enc (Vector.replicate 4 (Vector.replicate 4 (0 : UInt8))))]) ?_ ?_
            ·skip
             obtain ⟨x169,hi168,hl165⟩:=bvx hl165
             obtain ⟨x172,hi171,hl165⟩:=bvx hl165
             obtain ⟨x175,hi174,hl165⟩:=bvx hl165
             obtain ⟨x178,hi177,hl165⟩:=bvx hl165
             obtain ⟨r180,e181,hl165⟩:=bind_some hl165
             obtain ⟨x183,hi182,hl165⟩:=bvx hl165
             obtain ⟨x186,hi185,hl165⟩:=bvx hl165
             refine Yl [121,122,123,124,125,126,127,128,129,130,131,132,133,134,135,136,137,138] Xm rfl rfl (by decide) rfl hE hM (qsP (fun z=>Zj z.E Za ld rfl (kr0 rfl)) (qsP (fun z=>Zj z.E Za ld rfl (kr0 rfl)) (qsP (fun z=>Zj z.E Za ld rfl (kr0 rfl)) (qsP (fun z=>Zj z.E Za ld rfl (kr0 rfl)) (qsP (fun z=>ZA z.E Za ld rfl rfl Tryz.underlying28 Yq hi168.1 (kr0 rfl)) (qsP (fun z=>ZA z.E Za ld rfl rfl Tryz.underlying26 ty5 hi171.1 (kr0 rfl)) (qsP (fun z=>Z0 (v:=(vB x172)) z.E Za ld rfl ty5 rfl (At.vec (At.vec (z.M.rawAt1) hi168.2) hi171.2) (kr0 rfl)) (qsP (fun z=>Zj z.E Za ld rfl (kr0 rfl)) (qsP (fun z=>Zj z.E Za ld rfl (kr0 rfl)) (qsP (fun z=>Zj z.E Za ld rfl (kr0 rfl)) (qsP (fun z=>Zj z.E Za ld rfl (kr0 rfl)) (qsP (fun z=>ZA z.E Za ld rfl rfl Tryz.underlying28 Yq hi174.1 (kr0 rfl)) (qsP (fun z=>ZA z.E Za ld rfl rfl Tryz.underlying26 ty5 hi177.1 (kr0 rfl)) (qsP (fun z=>Z0 (v:=(vB x178)) z.E Za ld rfl ty5 rfl (At.vec (At.vec (z.M.rawAt1) hi174.2) hi177.2) (kr0 rfl)) (qsP (fun z=>YD z.E Za ld rfl Jy (Y7 _ p0 x148 x178 r180 e181) (kc rfl)) (qsP (v:=(vB (x172 ^^^ r180))) (fun z=>Yk z.E Za ld rfl rfl (WI x172 r180) (kr0 rfl)) (qsP (fun z=>ZA z.E Za ld rfl rfl Tryz.underlying28 Yq hi182.1 (kr0 rfl)) (qsP (fun z=>ZA z.E Za ld rfl rfl Tryz.underlying26 ty5 hi185.1 (kr0 rfl)) qs0)))))))))))))))))) ?_
             ·intro a w u hE hM
              have hM:=hM.pull1
              refine Zg (seg:=[(vB (x172 ^^^ r180))]) (cs':=enc (s153.1.setIfInBounds (s139.2.2).toNat (x183.setIfInBounds (s153.2.2).toNat (x172 ^^^ r180)))) hE hM Za rfl rfl rfl ty5 rfl (XJ (o':=0 + (s153.2.2).toNat * 1) hi182 (ZE (v:=x183) (x:=x172 ^^^ r180) hi185.1) (by first | omega | (simp only [Flat.n] <;> omega))) (Flat.cell (x172 ^^^ r180 : UInt8)) (Y4 (o':=0 + (s153.2.2).toNat * 1) hi182 (ZE (v:=x183) (x:=x172 ^^^ r180) hi185.1) (Zy (v:=x183) (x:=x172 ^^^ r180) hi185.1) (by first | omega | (simp only [Flat.n] <;> omega))) fun w a hM hE=>Zh ?_
              obtain rfl:=Option.some.inj hl165
              refine Zi ?_
              have hM:=hM.pull2.pull1.pull2
              exact ⟨hE.sub ⟨rfl,rfl,rfl,rfl,rfl,rfl,rfl,rfl,rfl,trivial⟩,hM⟩
            ·skip
             rintro a w ⟨hE,hM⟩
             obtain ⟨x191,hi190,hF166⟩:=bvx hF166
             obtain ⟨x194,hi193,hF166⟩:=bvx hF166
             obtain ⟨x197,hi196,hF166⟩:=bvx hF166
             obtain ⟨x200,hi199,hF166⟩:=bvx hF166
             obtain ⟨r202,e203,hF166⟩:=bind_some hF166
             obtain ⟨x205,hi204,hF166⟩:=bvx hF166
             obtain ⟨x208,hi207,hF166⟩:=bvx hF166
             refine Yl [139,140,141,142,143,144,145,146,147,148,149,150,151,152,153,154,155,156] Xm rfl rfl (by decide) rfl hE hM (qsP (fun z=>Zj z.E Za ld rfl (kr0 rfl)) (qsP (fun z=>Zj z.E Za ld rfl (kr0 rfl)) (qsP (fun z=>Zj z.E Za ld rfl (kr0 rfl)) (qsP (fun z=>Zj z.E Za ld rfl (kr0 rfl)) (qsP (fun z=>ZA z.E Za ld rfl rfl Tryz.underlying28 Yq hi190.1 (kr0 rfl)) (qsP (fun z=>ZA z.E Za ld rfl rfl Tryz.underlying26 ty5 hi193.1 (kr0 rfl)) (qsP (fun z=>Z0 (v:=(vB x194)) z.E Za ld rfl ty5 rfl (At.vec (At.vec (z.M.rawAt0) hi190.2) hi193.2) (kr0 rfl)) (qsP (fun z=>Zj z.E Za ld rfl (kr0 rfl)) (qsP (fun z=>Zj z.E Za ld rfl (kr0 rfl)) (qsP (fun z=>Zj z.E Za ld rfl (kr0 rfl)) (qsP (fun z=>Zj z.E Za ld rfl (kr0 rfl)) (qsP (fun z=>ZA z.E Za ld rfl rfl Tryz.underlying28 Yq hi196.1 (kr0 rfl)) (qsP (fun z=>ZA z.E Za ld rfl rfl Tryz.underlying26 ty5 hi199.1 (kr0 rfl)) (qsP (fun z=>Z0 (v:=(vB x200)) z.E Za ld rfl ty5 rfl (At.vec (At.vec (z.M.rawAt0) hi196.2) hi199.2) (kr0 rfl)) (qsP (fun z=>YD z.E Za ld rfl Jy (Y7 _ p0 x148 x200 r202 e203) (kc rfl)) (qsP (v:=(vB (x194 ^^^ r202))) (fun z=>Yk z.E Za ld rfl rfl (WI x194 r202) (kr0 rfl)) (qsP (fun z=>ZA z.E Za ld rfl rfl Tryz.underlying28 Yq hi204.1 (kr0 rfl)) (qsP (fun z=>ZA z.E Za ld rfl rfl Tryz.underlying26 ty5 hi207.1 (kr0 rfl)) qs0)))))))))))))))))) ?_
             ·intro a w u hE hM
              refine Zg (seg:=[(vB (x194 ^^^ r202))]) (cs':=enc (s153.2.1.setIfInBounds (s139.2.2).toNat (x205.setIfInBounds (s153.2.2).toNat (x194 ^^^ r202)))) hE hM Za rfl rfl rfl ty5 rfl (XJ (o':=0 + (s153.2.2).toNat * 1) hi204 (ZE (v:=x205) (x:=x194 ^^^ r202) hi207.1) (by first | omega | (simp only [Flat.n] <;> omega))) (Flat.cell (x194 ^^^ r202 : UInt8)) (Y4 (o':=0 + (s153.2.2).toNat * 1) hi204 (ZE (v:=x205) (x:=x194 ^^^ r202) hi207.1) (Zy (v:=x205) (x:=x194 ^^^ r202) hi207.1) (by first | omega | (simp only [Flat.n] <;> omega))) fun w a hM hE=>Zh (Z9 (Zz (wp_region_lit (Zd hE rfl fun a hE=>Zl hE rfl rfl rfl fun a hE=>Zc hE rfl fun a hE=>Zh (Zi ?_)))))
              exact ⟨_,(ois hF166),hE.sub ⟨rfl,rfl,rfl,rfl,rfl,rfl,rfl,rfl,rfl,trivial⟩,hM⟩
           ·intro hb163
            have hF159:=Zt hF159 hb163
            refine wp_exit (Zq (Zq (Yi ?_)))
            obtain rfl:=hx155 _ (ois hF159)
            refine Zi ?_
            exact ⟨hE.sub ⟨rfl,rfl,rfl,rfl,rfl,rfl,rfl,trivial⟩,hM⟩
         ·skip
          rintro a w ⟨hE,hM⟩
          refine Z9 (Zz (wp_region_lit (Zd hE rfl fun a hE=>Zl hE rfl rfl rfl fun a hE=>Zc hE rfl fun a hE=>Zh (Zi ?_))))
          exact ⟨_,(ois hF152),hE.sub ⟨rfl,rfl,rfl,rfl,rfl,rfl,rfl,trivial⟩,hM⟩
        ·intro hb143
         have hs140:=Zt hs140 hb143
         refine wp_exit (Zq (Zq (Yi ?_)))
         obtain rfl:=hx141 _ (ois hs140)
         refine Zi ?_
         exact ⟨hE.sub ⟨rfl,rfl,rfl,rfl,rfl,rfl,trivial⟩,hM⟩
       ·skip
        rintro a w ⟨hE,hM⟩
        refine Z9 (Zz (wp_region_lit (Zd hE rfl fun a hE=>Zl hE rfl rfl rfl fun a hE=>Zc hE rfl fun a hE=>Zh (Zi ?_))))
        have hM:=hM.pull1.pull2.pull2
        exact ⟨_,(ois hF138),hE.sub ⟨rfl,rfl,rfl,rfl,rfl,rfl,trivial⟩,hM⟩
  ·intro hb17
   have hs14:=Zt hs14 hb17
   refine wp_exit (Zq (Zq (Yi ?_)))
   obtain rfl:=hx15 _ (ois hs14)
   refine Zi ?_
   have hM:=M.fst (l:=[_,_]) hM.pull1.pull1
   exact ⟨(s13.2.1,s13.2.2.1),rfl,hE.sub ⟨rfl,rfl,rfl,trivial⟩,hM⟩
 ·skip
  rintro a w ⟨s12,ht,hE,hM⟩
  subst ht
  have hF11:=Qi hF11
  refine Zz ?_
  obtain ⟨j213,hl214,hF215⟩:=bind_some hF11
  refine ZQ (fun a w=>Env 159 a [(4,vB j213.2),(5,(ptr b3 0))] ∧ M (Old w0) w0 w [raw b3 (enc j213.1)]) ?_ ?_
  ·skip
   refine Yl [157,158,4] Xm rfl rfl (by decide) rfl hE hM (qsP (fun z=>Zj z.E Za ld rfl (kr0 rfl)) (qsP (fun z=>YE z.E Za ld rfl XV rfl (z.M.rawAt0) (Flat.len _) (kr0 rfl)) (qsP (fun z=>U6 z.E Za ld rfl (kr0 rfl)) qs0))) ?_
   ·intro a w u hE hM
    have hM:=hM.pull1
    refine Zg (seg:=enc s12.1) (cs':=enc s12.1) hE hM Za rfl rfl rfl XV (Flat.len _) (zle flq) (Flat.cell _) (Zf flq) fun w a hM hE=>Zh ?_
    obtain rfl:=Option.some.inj hl214
    refine Zi ?_
    have hM:=M.fst (l:=[_]) hM
    exact ⟨hE.sub ⟨rfl,rfl,trivial⟩,hM⟩
  ·skip
   rintro a w ⟨hE,hM⟩
   obtain rfl:=Option.some.inj hF215
   have hq218 : ZX Tryz.prog _ _ (.cell 5 28) _:=ZN hE rfl XV rfl hM.rawAt0 (Flat.len _) rfl
   exact wp_ret (Xk hE rfl (ZF hE rfl) hq218 ⟨_,rfl,rfl,hM.kept⟩)
def Wz (p0 : Int) (p1 : (Vector (Vector UInt8 4) 4)) : Option ((Vector (Vector UInt8 4) 4) × Bool) :=
 (V2 p0 p1).bind fun r5=>some (r5.2,r5.1 != 0)
theorem QT (w0 : World) (p0 : Int) (p1 : (Vector (Vector UInt8 4) 4)) (r : (Vector (Vector UInt8 4) 4) × Bool) (hF : Wz p0 p1 = some r) :
  Calls Tryz.prog 71 [vI p0,(Value.agg (enc p1).toArray)].toArray w0 (Rt w0 (Value.tuple [(Value.agg (enc r.1).toArray),vT r.2].toArray)):=by
 refine ce Tryz.func71 ?_
 intro a hE
 have hM:=M.start w0
 unfold Wz at hF
 refine Zb (ZY (cs:=enc p1) hE hM Za ld rfl rfl fun b1 w a hM hE=>Zs hE hM XV fun b3 w a hM hE=>Zc hE rfl fun a hE=>Ze (Zb (Zd hE rfl fun a hE=>Zk hE rfl XV rfl hM.rawAt1 (Flat.len _) ?_))); intro a hE
 obtain ⟨r5,e6,hF⟩:=bind_some hF
 refine Zo hE rfl (cbm Tryz.func95) (HR _ p0 p1 r5 e6) ?_
 rintro v w a ⟨rfl,hK⟩ hE
 have hM:=hM.keep hK
 refine Zd hE rfl fun a hE=>Zx hE Za ld rfl rfl fun a hE=>Zx hE Za ld rfl rfl fun a hE=>Zs hE hM XV fun b7 w a hM hE=>Zc hE rfl fun a hE=>Zg (seg:=enc r5.2) (cs':=enc r5.2) hE hM Za rfl rfl rfl XV (Flat.len _) (zle flq) (Flat.cell _) (Zf flq) fun w a hM hE=>Ze (Zb (Zk hE rfl XV rfl hM.rawAt0 (Flat.len _) fun a hE=>Zd hE rfl fun a hE=>Zl hE rfl rfl (yR r5.1 0) ?_)); intro a hE
 have hM:=hM.pull1
 refine Zg (seg:=enc r5.2) (cs':=enc r5.2) hE hM Za rfl rfl rfl XV (Flat.len _) (zle flq) (Flat.cell _) (Zf flq) fun w a hM hE=>Zc hE rfl fun a hE=>Ze ?_
 obtain rfl:=Option.some.inj hF
 have hq9 : ZX Tryz.prog _ _ (.cell 4 28) _:=ZN hE rfl XV rfl hM.rawAt0 (Flat.len _) rfl
 exact wp_ret (Xk hE rfl hq9 (ZF hE rfl) ⟨_,rfl,rfl,hM.kept⟩)
def Td (p0_0 : (List UInt8)) (s26 : (Vector (Vector UInt8 4) 4) × Int × Int × Int) : Option (Fl ((Vector (Vector UInt8 4) 4) × Int × Int × Int) ((Vector (Vector UInt8 4) 4) × Int × Int)) :=
 if (decide (s26.2.2.2 > 0)) = true then ((ZD p0_0 (s26.2.1,s26.2.2.1) 4).bind fun r32=>(ZD p0_0 (r32.1.1,r32.1.2) 4).bind fun r34=>(ZD p0_0 (r34.1.1,r34.1.2) 256).bind fun r36=>(ZB s26.1 r32.2).bind fun x39=>(ZB x39 r34.2).bind fun x42=>some (Fl.nx ((s26.1.setIfInBounds (r32.2).toNat (x39.setIfInBounds (r34.2).toNat (ZH r36.2))),r36.1.1,r36.1.2,wr (s26.2.2.2 - 1)))) else (some (Fl.ex (s26.1,s26.2.1,s26.2.2.1)))
def Uz (p0_0 : (List UInt8)) (p0 : (Int × Int)) : Option ((Int × Int) × GCipher) :=
 (ZD p0_0 (p0.1,p0.2) 20).bind fun r3=>(Y0 p0_0 (r3.1.1,r3.1.2) ([0,1,2,3,5,9,r3.2] : List Int)).bind fun r7=>(Vs (wr (1 + r7.2))).bind fun r9=>(ZD p0_0 (r7.1.1,r7.1.2) 2).bind fun r13=>if (r13.2 == 0) = true then (some ((r13.1.1,r13.1.2),r9)) else ((Xf p0_0 (r13.1.1,r13.1.2)).bind fun r17=>(UK p0_0 (r17.1.1,r17.1.2)).bind fun r19=>(ZD p0_0 (r19.1.1,r19.1.2) 4).bind fun r21=>(ZK (Td p0_0) (r9.Mix,r21.1.1,r21.1.2,r21.2)).bind fun j23=>((Wz r17.2 j23.1).bind fun r48=>if (!r48.2) = true then ((ZD p0_0 (j23.2.1,j23.2.2) 256).bind fun r53=>some ((((((Vector.replicate 4 (Vector.replicate 4 (0 : UInt8))).setIfInBounds 0 ((Vector.replicate 4 (0 : UInt8)).setIfInBounds 0 1)).setIfInBounds 1 (((Vector.replicate 4 (0 : UInt8)).setIfInBounds 0 0).setIfInBounds 1 1)).setIfInBounds 2 ((((Vector.replicate 4 (0 : UInt8)).setIfInBounds 0 0).setIfInBounds 1 0).setIfInBounds 2 1)).setIfInBounds 3 (((((Vector.replicate 4 (0 : UInt8)).setIfInBounds 0 (ZH r53.2)).setIfInBounds 1 0).setIfInBounds 2 0).setIfInBounds 3 1)),r53.1.1,r53.1.2)) else (some (j23.1,j23.2.1,j23.2.2)) : Option ((Vector (Vector UInt8 4) 4) × Int × Int)).bind fun j45=>(ZD p0_0 (j45.2.1,j45.2.2) 16).bind fun r57=>(ZD p0_0 (r57.1.1,r57.1.2) 16).bind fun r59=>(ZB r9.Places r57.2).bind fun x62=>(ZB r9.Places r59.2).bind fun x65=>(ZB r9.Places r57.2).bind fun x68=>(ZB (r9.Places.setIfInBounds (r57.2).toNat x65) r59.2).bind fun x71=>some ((r59.1.1,r59.1.2),(⟨r17.2,r19.2,j45.1,((r9.Places.setIfInBounds (r57.2).toNat x65).setIfInBounds (r59.2).toNat x62),r9.Rounds⟩ : GCipher)))
theorem Ar (St : Nat → Prop) (W w0 : World) (R : Item) (pb0 : Nat) (p0_0 : (List UInt8)) (v0_0 : Value) (hv0_0 : Rep.sat St W p0_0 [v0_0] []) (p0 : (Int × Int)) (hM : M St W w0 [raw pb0 (cat [[v0_0],[vI p0.1],[(Value.int .u64 p0.2)]]),R]) (r : (Int × Int) × GCipher) (hF : Uz p0_0 p0 = some r) :
  Calls Tryz.prog 99 [(ptr pb0 0)].toArray w0 (fun en w'=>∃ v,en = .returned v ∧ (v = (Value.agg (enc r.2).toArray) ∧ M St W w' [raw pb0 (cat [[v0_0],[vI r.1.1],[(Value.int .u64 r.1.2)]]),R])):=by
 refine ce Tryz.func99 ?_
 intro a hE
 unfold Uz at hF
 refine Zb (Zs hE hM ZT fun b1 w a hM hE=>Ze (Zb (Zd hE rfl fun a hE=>Zd hE rfl ?_))); intro a hE
 have hM:=M.tailP (m:=[_]) hM.pull1
 obtain ⟨r3,e4,hF⟩:=bind_some hF
 refine Zo hE rfl Uu (ZG _ _ _ _ pb0 p0_0 v0_0 hv0_0 (p0.1,p0.2) 20 hM r3 e4) ?_
 rintro v w a ⟨rfl,hM⟩ hE
 have hM:=M.tailU (m:=[_]) hM
 simp only [List.cons_append,List.nil_append] at hM
 refine Yc (xs:=[.const (vI 0),.const (vI 1),.const (vI 2),.const (vI 3),.const (vI 5),.const (vI 9),.tmp 12]) (l:=([0,1,2,3,5,9,r3.2] : List Int)) (vs:=[vI 0,vI 1,vI 2,vI 3,vI 5,vI 9,vI r3.2]) hE hM Za ld rfl rfl Tryz.underlying44 ty2 rfl (by decide) rfl ?_; intro u5 w a hM hE
 have hM:=M.tailP (m:=[_,_]) hM.pull1
 obtain ⟨r7,e8,hF⟩:=bind_some hF
 refine Zo hE rfl yU (W7 _ _ _ _ pb0 p0_0 v0_0 hv0_0 (r3.1.1,r3.1.2) ([0,1,2,3,5,9,r3.2] : List Int) u5 hM r7 e8) ?_
 rintro v w a ⟨rfl,hM⟩ hE
 have hM:=M.tailU (m:=[_,_]) hM
 simp only [List.cons_append,List.nil_append] at hM
 refine Zl hE rfl rfl rfl ?_; intro a hE
 obtain ⟨r9,e10,hF⟩:=bind_some hF
 refine Zo hE rfl (cbm Tryz.func56) (KJ _ (wr (1 + r7.2)) r9 e10) ?_
 rintro v w a ⟨rfl,hK⟩ hE
 have hM:=hM.keep hK
 refine Zs hE hM ZT fun b11 w a hM hE=>Zg (seg:=cat [[vI r9.Field],enc r9.Box,enc r9.Mix,enc r9.Places,[vI r9.Rounds]]) (cs':=cat [[vI r9.Field],enc r9.Box,enc r9.Mix,enc r9.Places,[vI r9.Rounds]]) hE hM Za rfl rfl rfl ZT cq (Nat.le_of_eq ((Nat.zero_add _).trans (Eq.trans cq (Eq.symm cq)))) (Yf (cc1 (Flat.cell (r9.Field : Int)) (cc1 (Flat.cell _) (cc1 (Flat.cell _) (cc1 (Flat.cell _) (cc1 (Flat.cell (r9.Rounds : Int)) cc0)))))) (Zf (Eq.trans cq (Eq.symm cq))) fun w a hM hE=>Ze (wp_seq (Zb (Zd hE rfl ?_))); intro a hE
 have hM:=M.tailP (m:=[_]) hM.pull1
 obtain ⟨r13,e14,hF⟩:=bind_some hF
 refine Zo hE rfl Uu (ZG _ _ _ _ pb0 p0_0 v0_0 hv0_0 (r7.1.1,r7.1.2) 2 hM r13 e14) ?_
 rintro v w a ⟨rfl,hM⟩ hE
 have hM:=M.tailU (m:=[_]) hM
 simp only [List.cons_append,List.nil_append] at hM
 refine Zl hE rfl rfl rfl fun a hE=>Ze ?_
 refine Zr hE rfl ?_ ?_
 ·intro hb15
  have hF:=Zu hF hb15
  refine Zb (Zk hE rfl ZT rfl hM.rawAt1 cq ?_); intro a hE
  have hM:=hM.pull3
  refine Zg (seg:=cat [[vI r9.Field],enc r9.Box,enc r9.Mix,enc r9.Places,[vI r9.Rounds]]) (cs':=cat [[vI r9.Field],enc r9.Box,enc r9.Mix,enc r9.Places,[vI r9.Rounds]]) hE hM Za rfl rfl rfl ZT cq (Nat.le_of_eq ((Nat.zero_add _).trans (Eq.trans cq (Eq.symm cq)))) (Yf (cc1 (Flat.cell (r9.Field : Int)) (cc1 (Flat.cell _) (cc1 (Flat.cell _) (cc1 (Flat.cell _) (cc1 (Flat.cell (r9.Rounds : Int)) cc0)))))) (Zf (Eq.trans cq (Eq.symm cq))) fun w a hM hE=>Ze ?_
  obtain rfl:=Option.some.inj hF
  have hq16 : ZX Tryz.prog _ _ (.cell 2 32) _:=ZN hE rfl ZT rfl hM.rawAt0 cq rfl
  have hM:=(((hM.pull4.pull2.pull4).drop.pull3).drop.pull2).drop
  exact wp_ret (ZI (Z2 hE rfl hq16 ⟨_,rfl,rfl,hM⟩))
 ·intro hb15
  have hF:=Zt hF hb15
  refine wp_skip (Zz (Zb (Zd hE rfl ?_))); intro a hE
  have hM:=M.tailP (m:=[_]) hM
  obtain ⟨r17,e18,hF⟩:=bind_some hF
  refine Zo hE rfl kH (U0 _ _ _ _ pb0 p0_0 v0_0 hv0_0 (r13.1.1,r13.1.2) hM r17 e18) ?_
  rintro v w a ⟨rfl,hM⟩ hE
  have hM:=M.tailU (m:=[_]) hM
  simp only [List.cons_append,List.nil_append] at hM
  refine ZJ hE rfl (QF) ?_; intro a hE
  have hM:=hM.pull1
  refine Zg (seg:=[vI r17.2]) hE hM Za rfl rfl rfl ty2 rfl (Ur (pre:=[]) cl0 rfl) (Flat.cell (r17.2 : Int)) (XC (pre:=[]) cl0 rfl) fun w a hM hE=>Ze (Zb (Zd hE rfl ?_)); intro a hE
  have hM:=M.tailP (m:=[_]) hM.pull1
  obtain ⟨r19,e20,hF⟩:=bind_some hF
  refine Zo hE rfl (cbm Tryz.func110) (BZ _ _ _ _ pb0 p0_0 v0_0 hv0_0 (r17.1.1,r17.1.2) hM r19 e20) ?_
  rintro v w a ⟨rfl,hM⟩ hE
  have hM:=M.tailU (m:=[_]) hM
  simp only [List.cons_append,List.nil_append] at hM
  refine ZJ hE rfl (Qa) ?_; intro a hE
  have hM:=hM.pull1
  refine Zg (seg:=enc r19.2) hE hM Za rfl rfl rfl YN (Flat.len _) (Ur (pre:=[[vI r17.2]]) ck flq) (Flat.cell _) (XC (pre:=[[vI r17.2]]) ck flq) fun w a hM hE=>Ze (wp_seq (Zb (Zd hE rfl ?_))); intro a hE
  have hM:=M.tailP (m:=[_]) hM.pull1
  obtain ⟨r21,e22,hF⟩:=bind_some hF
  refine Zo hE rfl Uu (ZG _ _ _ _ pb0 p0_0 v0_0 hv0_0 (r19.1.1,r19.1.2) 4 hM r21 e22) ?_
  rintro v w a ⟨rfl,hM⟩ hE
  have hM:=M.tailU (m:=[_]) hM
  simp only [List.cons_append,List.nil_append] at hM
  refine Zc hE rfl fun a hE=>Ze ?_
  obtain ⟨j23,hl24,hF25⟩:=bind_some hF
  refine ZS (fun a w=>Env 82 a [(0,(ptr pb0 0)),(2,(ptr b1 0)),(3,(ptr b11 0))] ∧ M St W w [raw pb0 (cat [[v0_0],[vI j23.2.1],[(Value.int .u64 j23.2.2)]]),raw b11 (cat [[vI r17.2],enc r19.2,enc j23.1,enc r9.Places,[vI r9.Rounds]]),raw b1 (cat [[vI 0],enc (Vector.replicate 256 (0 : UInt8)),enc (Vector.replicate 4 (Vector.replicate 4 (0 : UInt8))),enc (Vector.replicate 16 (0 : UInt8)),[vI 0]]),R]) ?_ ?_
  ·skip
   refine wp_block ?_
   have hM:=(hM.pull4.pull4.pull3.pull3.pull4).drop
   refine ZO (fun (s26 : (Vector (Vector UInt8 4) 4) × Int × Int × Int) a w=>Env 82 a [(0,(ptr pb0 0)),(2,(ptr b1 0)),(3,(ptr b11 0)),(4,vI s26.2.2.2)] ∧ M St W w [raw pb0 (cat [[v0_0],[vI s26.2.1],[(Value.int .u64 s26.2.2.1)]]),raw b11 (cat [[vI r17.2],enc r19.2,enc s26.1,enc r9.Places,[vI r9.Rounds]]),raw b1 (cat [[vI 0],enc (Vector.replicate 256 (0 : UInt8)),enc (Vector.replicate 4 (Vector.replicate 4 (0 : UInt8))),enc (Vector.replicate 16 (0 : UInt8)),[vI 0]]),R]) hl24 ⟨hE.sub ⟨rfl,rfl,rfl,rfl,trivial⟩,hM⟩ ?_
   rintro s26 a w ⟨hE,hM⟩ o29 hs27 hx28
   unfold Td at hs27
   refine wp_seq (Zb (Zd hE rfl fun a hE=>Zl hE rfl rfl rfl fun a hE=>Ze ?_))
   refine Zr hE rfl ?_ ?_
   ·intro hb30
    have hs27:=Zu hs27 hb30
    refine wp_skip (Zz (wp_seq (wp_block ?_)))
    obtain ⟨r32,e33,hs27⟩:=bind_some hs27
    obtain ⟨r34,e35,hs27⟩:=bind_some hs27
    obtain ⟨r36,e37,hs27⟩:=bind_some hs27
    obtain ⟨x39,hi38,hs27⟩:=bvx hs27
    refine Wk (its:=[raw b11 (cat [[vI r17.2],enc r19.2,enc s26.1,enc r9.Places,[vI r9.Rounds]]),raw b1 (cat [[vI 0],enc (Vector.replicate 256 (0 : UInt8)),enc (Vector.replicate 4 (Vector.replicate 4 (0 : UInt8))),enc (Vector.replicate 16 (0 : UInt8)),[vI 0]]),R]) (mk:=([([1,3,5],fun bs _=>(tog (bs.getD 0 false) (raw pb0 (cat [[v0_0],[vI s26.2.1],[(Value.int .u64 s26.2.2.1)]])) (tog (bs.getD 1 false) (raw pb0 (cat [[v0_0],[vI r32.1.1],[(Value.int .u64 r32.1.2)]])) (tog (bs.getD 2 false) (raw pb0 (cat [[v0_0],[vI r34.1.1],[(Value.int .u64 r34.1.2)]])) (raw pb0 (cat [[v0_0],[vI r36.1.1],[(Value.int .u64 r36.1.2)]]))))))] : Mk)) [33,34,35,36,37,38,39,40,41] Xm rfl rfl (by decide) rfl hE (fun u=>M.qS (M.q0 hM.drew u) fun _=>rfl) (qsP (fun z=>Zj z.E Za ld rfl (kr0 rfl)) (qsV (v:=(vI r32.2)) ?_ (qsP (fun z=>Zj z.E Za ld rfl (kr0 rfl)) (qsV (v:=(vI r34.2)) ?_ (qsP (fun z=>Zj z.E Za ld rfl (kr0 rfl)) (qsV (v:=(vI r36.2)) ?_ (qsP (fun z=>YX z.E Za ld rfl Tryz.underlying2 Tryz.underlying5 (kr0 rfl)) (qsP (fun z=>ZP z.E Za ld rfl (Qb) (kr0 rfl)) (qsP (fun z=>ZA z.E Za ld rfl rfl Tryz.underlying28 Yq hi38.1 (kr0 rfl)) qs0))))))))) ?_
    ·intro a w ux31 D z
     have hE:=z.E
     have hD : D 1 = false:=z.F
     have hM:=z.M.togA (pre:=[_,_,_]) hD
     have hNx : D 3 = false:=VH (j:=3) (k:=1) z.c rfl rfl rfl hD
     have hM:=M.tailP (m:=[_]) hM.pull3
     refine Zo hE rfl Uu (ZG _ _ _ _ pb0 p0_0 v0_0 hv0_0 (s26.2.1,s26.2.2.1) 4 hM r32 e33) ?_
     rintro v w a ⟨rfl,hM⟩ hE
     have hM:=M.tailU (m:=[_]) hM
     simp only [List.cons_append,List.nil_append] at hM
     exact ⟨_,rfl,hE,M.qTogS (p:=([1,3,5],fun bs _=>(tog (bs.getD 0 false) (raw pb0 (cat [[v0_0],[vI s26.2.1],[(Value.int .u64 s26.2.2.1)]])) (tog (bs.getD 1 false) (raw pb0 (cat [[v0_0],[vI r32.1.1],[(Value.int .u64 r32.1.2)]])) (tog (bs.getD 2 false) (raw pb0 (cat [[v0_0],[vI r34.1.1],[(Value.int .u64 r34.1.2)]])) (raw pb0 (cat [[v0_0],[vI r36.1.1],[(Value.int .u64 r36.1.2)]]))))))) (mk1:=[]) (mk2:=[]) hM rfl (by show tog (YW D 1 1) (raw pb0 (cat [[v0_0],[vI s26.2.1],[(Value.int .u64 s26.2.2.1)]])) (tog (YW D 1 3) (raw pb0 (cat [[v0_0],[vI r32.1.1],[(Value.int .u64 r32.1.2)]])) (tog (YW D 1 5) (raw pb0 (cat [[v0_0],[vI r34.1.1],[(Value.int .u64 r34.1.2)]])) (raw pb0 (cat [[v0_0],[vI r36.1.1],[(Value.int .u64 r36.1.2)]])))) = _; rw [tg1 JH,tg0 (yS (i:=1) hNx (by decide))])⟩
    ·intro a w ux31 D z
     have hE:=z.E
     have hD : D 3 = false:=z.F
     have hM:=z.M
     have dC1 : D 1 = true:=z.p 1 _ rfl rfl
     have hM:=(hM.togB (pre:=[_,_,_]) dC1).togA (pre:=[_,_,_]) hD
     have hNx : D 5 = false:=VH (j:=5) (k:=1) z.c rfl rfl rfl hD
     have hM:=M.tailP (m:=[_]) hM.pull3
     refine Zo hE rfl Uu (ZG _ _ _ _ pb0 p0_0 v0_0 hv0_0 (r32.1.1,r32.1.2) 4 hM r34 e35) ?_
     rintro v w a ⟨rfl,hM⟩ hE
     have hM:=M.tailU (m:=[_]) hM
     simp only [List.cons_append,List.nil_append] at hM
     exact ⟨_,rfl,hE,M.qTogS (p:=([1,3,5],fun bs _=>(tog (bs.getD 0 false) (raw pb0 (cat [[v0_0],[vI s26.2.1],[(Value.int .u64 s26.2.2.1)]])) (tog (bs.getD 1 false) (raw pb0 (cat [[v0_0],[vI r32.1.1],[(Value.int .u64 r32.1.2)]])) (tog (bs.getD 2 false) (raw pb0 (cat [[v0_0],[vI r34.1.1],[(Value.int .u64 r34.1.2)]])) (raw pb0 (cat [[v0_0],[vI r36.1.1],[(Value.int .u64 r36.1.2)]]))))))) (mk1:=[]) (mk2:=[]) hM rfl (by show tog (YW D 3 1) (raw pb0 (cat [[v0_0],[vI s26.2.1],[(Value.int .u64 s26.2.2.1)]])) (tog (YW D 3 3) (raw pb0 (cat [[v0_0],[vI r32.1.1],[(Value.int .u64 r32.1.2)]])) (tog (YW D 3 5) (raw pb0 (cat [[v0_0],[vI r34.1.1],[(Value.int .u64 r34.1.2)]])) (raw pb0 (cat [[v0_0],[vI r36.1.1],[(Value.int .u64 r36.1.2)]])))) = _; rw [tg1 (Ah dC1),tg1 JH,tg0 (yS (i:=3) hNx (by decide))])⟩
    ·intro a w ux31 D z
     have hE:=z.E
     have hD : D 5 = false:=z.F
     have hM:=z.M
     have dC3 : D 3 = true:=z.p 1 _ rfl rfl
     have dC1 : D 1 = true:=z.c 3 _ _ rfl (List.mem_of_getElem? (i:=1) rfl) rfl dC3
     have hM:=M.tailP (m:=[_]) ((((hM.togB (pre:=[_,_,_]) dC1).togB (pre:=[_,_,_]) dC3).togA (pre:=[_,_,_]) hD).pull3)
     refine Zo hE rfl Uu (ZG _ _ _ _ pb0 p0_0 v0_0 hv0_0 (r34.1.1,r34.1.2) 256 hM r36 e37) ?_
     rintro v w a ⟨rfl,hM⟩ hE
     have hM:=M.tailU (m:=[_]) hM
     simp only [List.cons_append,List.nil_append] at hM
     exact ⟨_,rfl,hE,M.qTogS (p:=([1,3,5],fun bs _=>(tog (bs.getD 0 false) (raw pb0 (cat [[v0_0],[vI s26.2.1],[(Value.int .u64 s26.2.2.1)]])) (tog (bs.getD 1 false) (raw pb0 (cat [[v0_0],[vI r32.1.1],[(Value.int .u64 r32.1.2)]])) (tog (bs.getD 2 false) (raw pb0 (cat [[v0_0],[vI r34.1.1],[(Value.int .u64 r34.1.2)]])) (raw pb0 (cat [[v0_0],[vI r36.1.1],[(Value.int .u64 r36.1.2)]]))))))) (mk1:=[]) (mk2:=[]) hM rfl (by show tog (YW D 5 1) (raw pb0 (cat [[v0_0],[vI s26.2.1],[(Value.int .u64 s26.2.2.1)]])) (tog (YW D 5 3) (raw pb0 (cat [[v0_0],[vI r32.1.1],[(Value.int .u64 r32.1.2)]])) (tog (YW D 5 5) (raw pb0 (cat [[v0_0],[vI r34.1.1],[(Value.int .u64 r34.1.2)]])) (raw pb0 (cat [[v0_0],[vI r36.1.1],[(Value.int .u64 r36.1.2)]])))) = _; rw [tg1 (Ah dC1),tg1 (Ah dC3),tg1 JH])⟩
    ·intro a w ux31 D hE hM hG hall
     have d1:=hall 1 (by decide)
     have d3:=hall 3 (by decide)
     have d5:=hall 5 (by decide)
     have hM:=((hM.togB (pre:=[_,_,_]) d1).togB (pre:=[_,_,_]) d3).togB (pre:=[_,_,_]) d5
     obtain ⟨x42,hi41,hs27⟩:=bvx hs27
     refine Zw hE rfl rfl Tryz.underlying26 ty5 hi41.1 fun a hE=>Zg (seg:=[(vB (ZH r36.2))]) (cs':=cat [[vI r17.2],enc r19.2,enc (s26.1.setIfInBounds (r32.2).toNat (x39.setIfInBounds (r34.2).toNat (ZH r36.2))),enc r9.Places,[vI r9.Rounds]]) hE hM Za rfl rfl rfl ty5 rfl (Ud (o':=(r32.2).toNat * 4 + (0 + (r34.2).toNat * 1)) (pre:=[[vI r17.2],enc r19.2]) (seg:=enc s26.1) (post:=[enc r9.Places,[vI r9.Rounds]]) ck (XJ (o':=0 + (r34.2).toNat * 1) hi38 (ZE (v:=x39) (x:=ZH r36.2) hi41.1) (by first | omega | (simp only [Flat.n] <;> omega))) (by first | omega | (simp only [Flat.n] <;> omega))) (Flat.cell (ZH r36.2 : UInt8)) (XY (o':=(r32.2).toNat * 4 + (0 + (r34.2).toNat * 1)) (pre:=[[vI r17.2],enc r19.2]) (seg:=enc s26.1) (post:=[enc r9.Places,[vI r9.Rounds]]) ck (XJ (o':=0 + (r34.2).toNat * 1) hi38 (ZE (v:=x39) (x:=ZH r36.2) hi41.1) (by first | omega | (simp only [Flat.n] <;> omega))) (Y4 (o':=0 + (r34.2).toNat * 1) hi38 (ZE (v:=x39) (x:=ZH r36.2) hi41.1) (Zy (v:=x39) (x:=ZH r36.2) hi41.1) (by first | omega | (simp only [Flat.n] <;> omega))) (by first | omega | (simp only [Flat.n] <;> omega))) fun w a hM hE=>Zh (Z9 (Zz (wp_region_lit (Zd hE rfl fun a hE=>Zl hE rfl rfl rfl fun a hE=>Zc hE rfl fun a hE=>Zh (Zi ?_)))))
     have hM:=hM.pull2.pull2.pull2.pull3
     exact ⟨_,(ois hs27),hE.sub ⟨rfl,rfl,rfl,rfl,trivial⟩,hM⟩
   ·intro hb30
    have hs27:=Zt hs27 hb30
    refine wp_exit (Zq (Zq (Yi ?_)))
    obtain rfl:=hx28 _ (ois hs27)
    refine Zi ?_
    exact ⟨hE.sub ⟨rfl,rfl,rfl,trivial⟩,hM⟩
  ·skip
   rintro a w ⟨hE,hM⟩
   refine Zz ?_
   obtain ⟨j45,hl46,hF47⟩:=bind_some hF25
   refine ZQ (fun a w=>Env 82 a [(0,(ptr pb0 0)),(2,(ptr b1 0)),(3,(ptr b11 0))] ∧ M St W w [raw pb0 (cat [[v0_0],[vI j45.2.1],[(Value.int .u64 j45.2.2)]]),raw b11 (cat [[vI r17.2],enc r19.2,enc j45.1,enc r9.Places,[vI r9.Rounds]]),raw b1 (cat [[vI 0],enc (Vector.replicate 256 (0 : UInt8)),enc (Vector.replicate 4 (Vector.replicate 4 (0 : UInt8))),enc (Vector.replicate 16 (0 : UInt8)),[vI 0]]),R]) ?_ ?_
   ·skip
    refine Zb (ZJ hE rfl (QF) fun a hE=>ZR (v:=(vI r17.2)) hE rfl ty2 rfl (At.cat (pre:=[]) hM.rawAt1 cl0) fun a hE=>ZJ hE rfl (Qb) fun a hE=>Zk hE rfl XV rfl (At.cat (pre:=[[vI r17.2],enc r19.2]) hM.rawAt1 ck) (Flat.len _) ?_); intro a hE
    obtain ⟨r48,e49,hl46⟩:=bind_some hl46
    refine Zo hE rfl (cbm Tryz.func71) (QT _ r17.2 j23.1 r48 e49) ?_
    rintro v w a ⟨rfl,hK⟩ hE
    have hM:=hM.keep hK
    refine Zd hE rfl fun a hE=>Zx hE Za ld rfl rfl fun a hE=>Zx hE Za ld rfl rfl fun a hE=>Zs hE hM XV fun b50 w a hM hE=>Zg (seg:=enc r48.1) (cs':=enc r48.1) hE hM Za rfl rfl rfl XV (Flat.len _) (zle flq) (Flat.cell _) (Zf flq) fun w a hM hE=>Zc hE rfl fun a hE=>Ze (Zb (Zd hE rfl fun a hE=>TH hE rfl fun a hE=>Ze ?_))
    refine Zr hE rfl ?_ ?_
    ·intro hb52
     have hl46:=Zu hl46 hb52
     refine wp_region_lit (Z8 (parts:=[(0,.const (vB 1))]) (vs:=[(0,vB 1)]) (cs:=enc ((Vector.replicate 4 (0 : UInt8)).setIfInBounds 0 1)) hE Za ld rfl rfl Yq rfl ty5 (XF (v:=(Vector.replicate 4 (0 : UInt8))) (x:=1) rfl (by decide) rfl ZZ) fun a hE=>Z8 (parts:=[(0,.const (vB 0)),(1,.const (vB 1))]) (vs:=[(0,vB 0),(1,vB 1)]) (cs:=enc (((Vector.replicate 4 (0 : UInt8)).setIfInBounds 0 0).setIfInBounds 1 1)) hE Za ld rfl rfl Yq rfl ty5 (XF (v:=(Vector.replicate 4 (0 : UInt8))) (x:=0) rfl (by decide) rfl (XF (v:=((Vector.replicate 4 (0 : UInt8)).setIfInBounds 0 0)) (x:=1) rfl (by decide) rfl ZZ)) fun a hE=>Z8 (parts:=[(0,.const (vB 0)),(1,.const (vB 0)),(2,.const (vB 1))]) (vs:=[(0,vB 0),(1,vB 0),(2,vB 1)]) (cs:=enc ((((Vector.replicate 4 (0 : UInt8)).setIfInBounds 0 0).setIfInBounds 1 0).setIfInBounds 2 1)) hE Za ld rfl rfl Yq rfl ty5 (XF (v:=(Vector.replicate 4 (0 : UInt8))) (x:=0) rfl (by decide) rfl (XF (v:=((Vector.replicate 4 (0 : UInt8)).setIfInBounds 0 0)) (x:=0) rfl (by decide) rfl (XF (v:=(((Vector.replicate 4 (0 : UInt8)).setIfInBounds 0 0).setIfInBounds 1 0)) (x:=1) rfl (by decide) rfl ZZ))) fun a hE=>Zd hE rfl ?_); intro a hE
     have hM:=M.tailP (m:=[_]) hM.pull1
     obtain ⟨r53,e54,hl46⟩:=bind_some hl46
     refine Zo hE rfl Uu (ZG _ _ _ _ pb0 p0_0 v0_0 hv0_0 (j23.2.1,j23.2.2) 256 hM r53 e54) ?_
     rintro v w a ⟨rfl,hM⟩ hE
     have hM:=M.tailU (m:=[_]) hM
     simp only [List.cons_append,List.nil_append] at hM
     refine YX hE Za ld rfl Tryz.underlying2 Tryz.underlying5 fun a hE=>Z8 (parts:=[(0,.tmp 58),(1,.const (vB 0)),(2,.const (vB 0)),(3,.const (vB 1))]) (vs:=[(0,(vB (ZH r53.2))),(1,vB 0),(2,vB 0),(3,vB 1)]) (cs:=enc (((((Vector.replicate 4 (0 : UInt8)).setIfInBounds 0 (ZH r53.2)).setIfInBounds 1 0).setIfInBounds 2 0).setIfInBounds 3 1)) hE Za ld rfl rfl Yq rfl ty5 (XF (v:=(Vector.replicate 4 (0 : UInt8))) (x:=ZH r53.2) rfl (by decide) rfl (XF (v:=((Vector.replicate 4 (0 : UInt8)).setIfInBounds 0 (ZH r53.2))) (x:=0) rfl (by decide) rfl (XF (v:=(((Vector.replicate 4 (0 : UInt8)).setIfInBounds 0 (ZH r53.2)).setIfInBounds 1 0)) (x:=0) rfl (by decide) rfl (XF (v:=((((Vector.replicate 4 (0 : UInt8)).setIfInBounds 0 (ZH r53.2)).setIfInBounds 1 0).setIfInBounds 2 0)) (x:=1) rfl (by decide) rfl ZZ)))) fun a hE=>Z8 (parts:=[(0,.tmp 53),(1,.tmp 54),(2,.tmp 55),(3,.tmp 59)]) (vs:=[(0,(Value.agg (enc ((Vector.replicate 4 (0 : UInt8)).setIfInBounds 0 1)).toArray)),(1,(Value.agg (enc (((Vector.replicate 4 (0 : UInt8)).setIfInBounds 0 0).setIfInBounds 1 1)).toArray)),(2,(Value.agg (enc ((((Vector.replicate 4 (0 : UInt8)).setIfInBounds 0 0).setIfInBounds 1 0).setIfInBounds 2 1)).toArray)),(3,(Value.agg (enc (((((Vector.replicate 4 (0 : UInt8)).setIfInBounds 0 (ZH r53.2)).setIfInBounds 1 0).setIfInBounds 2 0).setIfInBounds 3 1)).toArray))]) (cs:=enc (((((Vector.replicate 4 (Vector.replicate 4 (0 : UInt8))).setIfInBounds 0 ((Vector.replicate 4 (0 : UInt8)).setIfInBounds 0 1)).setIfInBounds 1 (((Vector.replicate 4 (0 : UInt8)).setIfInBounds 0 0).setIfInBounds 1 1)).setIfInBounds 2 ((((Vector.replicate 4 (0 : UInt8)).setIfInBounds 0 0).setIfInBounds 1 0).setIfInBounds 2 1)).setIfInBounds 3 (((((Vector.replicate 4 (0 : UInt8)).setIfInBounds 0 (ZH r53.2)).setIfInBounds 1 0).setIfInBounds 2 0).setIfInBounds 3 1))) hE Za ld rfl rfl XV rfl Yq (XF (v:=(Vector.replicate 4 (Vector.replicate 4 (0 : UInt8)))) (x:=((Vector.replicate 4 (0 : UInt8)).setIfInBounds 0 1)) rfl (by decide) rfl (XF (v:=((Vector.replicate 4 (Vector.replicate 4 (0 : UInt8))).setIfInBounds 0 ((Vector.replicate 4 (0 : UInt8)).setIfInBounds 0 1))) (x:=(((Vector.replicate 4 (0 : UInt8)).setIfInBounds 0 0).setIfInBounds 1 1)) rfl (by decide) rfl (XF (v:=(((Vector.replicate 4 (Vector.replicate 4 (0 : UInt8))).setIfInBounds 0 ((Vector.replicate 4 (0 : UInt8)).setIfInBounds 0 1)).setIfInBounds 1 (((Vector.replicate 4 (0 : UInt8)).setIfInBounds 0 0).setIfInBounds 1 1))) (x:=((((Vector.replicate 4 (0 : UInt8)).setIfInBounds 0 0).setIfInBounds 1 0).setIfInBounds 2 1)) rfl (by decide) rfl (XF (v:=((((Vector.replicate 4 (Vector.replicate 4 (0 : UInt8))).setIfInBounds 0 ((Vector.replicate 4 (0 : UInt8)).setIfInBounds 0 1)).setIfInBounds 1 (((Vector.replicate 4 (0 : UInt8)).setIfInBounds 0 0).setIfInBounds 1 1)).setIfInBounds 2 ((((Vector.replicate 4 (0 : UInt8)).setIfInBounds 0 0).setIfInBounds 1 0).setIfInBounds 2 1))) (x:=(((((Vector.replicate 4 (0 : UInt8)).setIfInBounds 0 (ZH r53.2)).setIfInBounds 1 0).setIfInBounds 2 0).setIfInBounds 3 1)) rfl (by decide) rfl ZZ)))) fun a hE=>ZJ hE rfl (Qb) ?_; intro a hE
     have hM:=hM.pull2
     refine Zg (seg:=enc (((((Vector.replicate 4 (Vector.replicate 4 (0 : UInt8))).setIfInBounds 0 ((Vector.replicate 4 (0 : UInt8)).setIfInBounds 0 1)).setIfInBounds 1 (((Vector.replicate 4 (0 : UInt8)).setIfInBounds 0 0).setIfInBounds 1 1)).setIfInBounds 2 ((((Vector.replicate 4 (0 : UInt8)).setIfInBounds 0 0).setIfInBounds 1 0).setIfInBounds 2 1)).setIfInBounds 3 (((((Vector.replicate 4 (0 : UInt8)).setIfInBounds 0 (ZH r53.2)).setIfInBounds 1 0).setIfInBounds 2 0).setIfInBounds 3 1))) hE hM Za rfl rfl rfl XV (Flat.len _) (Ur (pre:=[[vI r17.2],enc r19.2]) ck flq) (Flat.cell _) (XC (pre:=[[vI r17.2],enc r19.2]) ck flq) fun w a hM hE=>Zh ?_
     obtain rfl:=Option.some.inj hl46
     refine Zi ?_
     have hM:=(hM.pull4.pull4.pull2.pull3.pull4).drop
     exact ⟨hE.sub ⟨rfl,rfl,rfl,trivial⟩,hM⟩
    ·intro hb52
     have hl46:=Zt hl46 hb52
     refine wp_skip ?_
     obtain rfl:=Option.some.inj hl46
     refine Zi ?_
     have hM:=(hM.pull4.pull4.pull4.pull4.pull4).drop
     exact ⟨hE.sub ⟨rfl,rfl,rfl,trivial⟩,hM⟩
   ·skip
    rintro a w ⟨hE,hM⟩
    refine Zb (Zd hE rfl ?_); intro a hE
    have hM:=M.tailP (m:=[_]) hM
    obtain ⟨r57,e58,hF47⟩:=bind_some hF47
    refine Zo hE rfl Uu (ZG _ _ _ _ pb0 p0_0 v0_0 hv0_0 (j45.2.1,j45.2.2) 16 hM r57 e58) ?_
    rintro v w a ⟨rfl,hM⟩ hE
    have hM:=M.tailU (m:=[_]) hM
    simp only [List.cons_append,List.nil_append] at hM
    refine Zd hE rfl ?_; intro a hE
    have hM:=M.tailP (m:=[_]) hM
    obtain ⟨r59,e60,hF47⟩:=bind_some hF47
    refine Zo hE rfl Uu (ZG _ _ _ _ pb0 p0_0 v0_0 hv0_0 (r57.1.1,r57.1.2) 16 hM r59 e60) ?_
    rintro v w a ⟨rfl,hM⟩ hE
    have hM:=M.tailU (m:=[_]) hM
    simp only [List.cons_append,List.nil_append] at hM
    refine Zc hE rfl fun a hE=>Zc hE rfl fun a hE=>Ze (Zb (Zd hE rfl fun a hE=>ZJ hE rfl (Tt) ?_)); intro a hE
    obtain ⟨x62,hi61,hF47⟩:=bvx hF47
    refine Zw hE rfl rfl Tryz.underlying30 ty5 hi61.1 fun a hE=>ZR (v:=(vB x62)) hE rfl ty5 rfl (At.vec (At.cat (pre:=[[vI r17.2],enc r19.2,enc j45.1]) hM.rawAt1 ck) hi61.2) fun a hE=>Zc hE rfl fun a hE=>Ze (Zb (Zd hE rfl fun a hE=>Zd hE rfl fun a hE=>ZJ hE rfl (Tt) ?_)); intro a hE
    obtain ⟨x65,hi64,hF47⟩:=bvx hF47
    refine Zw hE rfl rfl Tryz.underlying30 ty5 hi64.1 fun a hE=>ZR (v:=(vB x65)) hE rfl ty5 rfl (At.vec (At.cat (pre:=[[vI r17.2],enc r19.2,enc j45.1]) hM.rawAt1 ck) hi64.2) fun a hE=>ZJ hE rfl (Tt) ?_; intro a hE
    obtain ⟨x68,hi67,hF47⟩:=bvx hF47
    refine Zw hE rfl rfl Tryz.underlying30 ty5 hi67.1 ?_; intro a hE
    have hM:=hM.pull1
    refine Zg (seg:=[vB x65]) (cs':=cat [[vI r17.2],enc r19.2,enc j45.1,enc (r9.Places.setIfInBounds (r57.2).toNat x65),[vI r9.Rounds]]) hE hM Za rfl rfl rfl ty5 rfl (Ud (o':=0 + (r57.2).toNat * 1) (pre:=[[vI r17.2],enc r19.2,enc j45.1]) (seg:=enc r9.Places) (post:=[[vI r9.Rounds]]) ck (ZE (v:=r9.Places) (x:=x65) hi67.1) (by first | omega | (simp only [Flat.n] <;> omega))) (Flat.cell (x65 : UInt8)) (XY (o':=0 + (r57.2).toNat * 1) (pre:=[[vI r17.2],enc r19.2,enc j45.1]) (seg:=enc r9.Places) (post:=[[vI r9.Rounds]]) ck (ZE (v:=r9.Places) (x:=x65) hi67.1) (Zy (v:=r9.Places) (x:=x65) hi67.1) (by first | omega | (simp only [Flat.n] <;> omega))) fun w a hM hE=>Ze (Zb (Zd hE rfl fun a hE=>Zd hE rfl fun a hE=>ZJ hE rfl (Tt) ?_)); intro a hE
    obtain ⟨x71,hi70,hF47⟩:=bvx hF47
    refine Zw hE rfl rfl Tryz.underlying30 ty5 hi70.1 fun a hE=>Zg (seg:=[vB x62]) (cs':=cat [[vI r17.2],enc r19.2,enc j45.1,enc ((r9.Places.setIfInBounds (r57.2).toNat x65).setIfInBounds (r59.2).toNat x62),[vI r9.Rounds]]) hE hM Za rfl rfl rfl ty5 rfl (Ud (o':=0 + (r59.2).toNat * 1) (pre:=[[vI r17.2],enc r19.2,enc j45.1]) (seg:=enc (r9.Places.setIfInBounds (r57.2).toNat x65)) (post:=[[vI r9.Rounds]]) ck (ZE (v:=(r9.Places.setIfInBounds (r57.2).toNat x65)) (x:=x62) hi70.1) (by first | omega | (simp only [Flat.n] <;> omega))) (Flat.cell (x62 : UInt8)) (XY (o':=0 + (r59.2).toNat * 1) (pre:=[[vI r17.2],enc r19.2,enc j45.1]) (seg:=enc (r9.Places.setIfInBounds (r57.2).toNat x65)) (post:=[[vI r9.Rounds]]) ck (ZE (v:=(r9.Places.setIfInBounds (r57.2).toNat x65)) (x:=x62) hi70.1) (Zy (v:=(r9.Places.setIfInBounds (r57.2).toNat x65)) (x:=x62) hi70.1) (by first | omega | (simp only [Flat.n] <;> omega))) fun w a hM hE=>Ze (Zb (Zk hE rfl ZT rfl hM.rawAt0 cq ?_)); intro a hE
    have hM:=hM.pull2
    refine Zg (seg:=cat [[(vI ((⟨r17.2,r19.2,j45.1,((r9.Places.setIfInBounds (r57.2).toNat x65).setIfInBounds (r59.2).toNat x62),r9.Rounds⟩ : GCipher).Field))],enc ((⟨r17.2,r19.2,j45.1,((r9.Places.setIfInBounds (r57.2).toNat x65).setIfInBounds (r59.2).toNat x62),r9.Rounds⟩ : GCipher).Box),enc ((⟨r17.2,r19.2,j45.1,((r9.Places.setIfInBounds (r57.2).toNat x65).setIfInBounds (r59.2).toNat x62),r9.Rounds⟩ : GCipher).Mix),enc ((⟨r17.2,r19.2,j45.1,((r9.Places.setIfInBounds (r57.2).toNat x65).setIfInBounds (r59.2).toNat x62),r9.Rounds⟩ : GCipher).Places),[(vI ((⟨r17.2,r19.2,j45.1,((r9.Places.setIfInBounds (r57.2).toNat x65).setIfInBounds (r59.2).toNat x62),r9.Rounds⟩ : GCipher).Rounds))]]) (cs':=cat [[(vI ((⟨r17.2,r19.2,j45.1,((r9.Places.setIfInBounds (r57.2).toNat x65).setIfInBounds (r59.2).toNat x62),r9.Rounds⟩ : GCipher).Field))],enc ((⟨r17.2,r19.2,j45.1,((r9.Places.setIfInBounds (r57.2).toNat x65).setIfInBounds (r59.2).toNat x62),r9.Rounds⟩ : GCipher).Box),enc ((⟨r17.2,r19.2,j45.1,((r9.Places.setIfInBounds (r57.2).toNat x65).setIfInBounds (r59.2).toNat x62),r9.Rounds⟩ : GCipher).Mix),enc ((⟨r17.2,r19.2,j45.1,((r9.Places.setIfInBounds (r57.2).toNat x65).setIfInBounds (r59.2).toNat x62),r9.Rounds⟩ : GCipher).Places),[(vI ((⟨r17.2,r19.2,j45.1,((r9.Places.setIfInBounds (r57.2).toNat x65).setIfInBounds (r59.2).toNat x62),r9.Rounds⟩ : GCipher).Rounds))]]) hE hM Za rfl rfl rfl ZT cq (Nat.le_of_eq ((Nat.zero_add _).trans (Eq.trans cq (Eq.symm cq)))) (Yf (cc1 (Flat.cell ((⟨r17.2,r19.2,j45.1,((r9.Places.setIfInBounds (r57.2).toNat x65).setIfInBounds (r59.2).toNat x62),r9.Rounds⟩ : GCipher).Field : Int)) (cc1 (Flat.cell _) (cc1 (Flat.cell _) (cc1 (Flat.cell _) (cc1 (Flat.cell ((⟨r17.2,r19.2,j45.1,((r9.Places.setIfInBounds (r57.2).toNat x65).setIfInBounds (r59.2).toNat x62),r9.Rounds⟩ : GCipher).Rounds : Int)) cc0)))))) (Zf (Eq.trans cq (Eq.symm cq))) fun w a hM hE=>Ze ?_
    obtain rfl:=Option.some.inj hF47
    have hq73 : ZX Tryz.prog _ _ (.cell 2 32) _:=ZN hE rfl ZT rfl hM.rawAt0 cq rfl
    have hM:=((hM.pull3.pull3.pull3).drop.pull2).drop
    exact wp_ret (Z2 hE rfl hq73 ⟨_,rfl,rfl,hM⟩)
def Uf (p0_0 : (List UInt8)) (p0 : (Int × Int)) (p1 : (List UInt8)) : Option ((Int × Int) × UInt8) :=
 (ZD p0_0 (p0.1,p0.2) (p1.length : Int)).bind fun r1=>(idx p1 r1.2).bind fun x3=>some ((r1.1.1,r1.1.2),x3)
theorem Bm (St : Nat → Prop) (W w0 : World) (R : Item) (pb0 : Nat) (p0_0 : (List UInt8)) (v0_0 : Value) (hv0_0 : Rep.sat St W p0_0 [v0_0] []) (p0 : (Int × Int)) (p1 : (List UInt8)) (v1 : Value) (hM : M St W w0 [raw pb0 (cat [[v0_0],[vI p0.1],[(Value.int .u64 p0.2)]]),osl NoB (p1 : List UInt8) v1,R]) (r : (Int × Int) × UInt8) (hF : Uf p0_0 p0 p1 = some r) :
  Calls Tryz.prog 100 [(ptr pb0 0),v1].toArray w0 (fun en w'=>∃ v,en = .returned v ∧ (v = (vB r.2) ∧ M St W w' [raw pb0 (cat [[v0_0],[vI r.1.1],[(Value.int .u64 r.1.2)]]),osl NoB (p1 : List UInt8) v1,R])):=by
 refine ce Tryz.func100 ?_
 intro a hE
 unfold Uf at hF
 refine Zb (Zc hE rfl fun a hE=>Ze (Zb (Zd hE rfl fun a hE=>Zd hE rfl fun a hE=>Zd hE rfl fun a hE=>Wm hE rfl Tryz.underlying22 (hM.sl (pre:=[_]) noB) ?_))); intro a hE
 have hM:=M.tailP (m:=[_]) hM
 obtain ⟨r1,e2,hF⟩:=bind_some hF
 refine Zo hE rfl Uu (ZG _ _ _ _ pb0 p0_0 v0_0 hv0_0 (p0.1,p0.2) (p1.length : Int) hM r1 e2) ?_
 rintro v w a ⟨rfl,hM⟩ hE
 have hM:=M.tailU (m:=[_]) hM
 simp only [List.cons_append,List.nil_append] at hM
 obtain ⟨x3,hi5,hF⟩:=bix hF
 refine XM hE rfl rfl Tryz.underlying22 ty5 (hM.sl (pre:=[_]) noB) hi5.1 fun a hE=>ZR (v:=(vB x3)) hE rfl ty5 rfl (Y1 (hM.sl (pre:=[_]) noB) hi5.2) fun a hE=>Zc hE rfl fun a hE=>Ze ?_
 obtain rfl:=Option.some.inj hF
 exact wp_ret (Z2 hE rfl (ZF hE rfl) ⟨_,rfl,rfl,hM⟩)
def Ug (p0_0 : (List UInt8)) (p0 : (Int × Int)) : Option ((Int × Int) × GCipher) :=
 (Uz p0_0 (p0.1,p0.2)).bind fun r3=>((ZD p0_0 (r3.1.1,r3.1.2) 24).bind fun r10=>(if (r10.2 == 0) = true then ((Y0 p0_0 (r10.1.1,r10.1.2) ([256,511,0,512] : List Int)).bind fun r18=>some (r18.2,r3.2.Box,r3.2.Mix,r3.2.Places,r3.2.Rounds,r18.1.1,r18.1.2)) else (if (r10.2 == 1) = true then ((ZB r3.2.Box (1 : Int)).bind fun x23=>(ZB r3.2.Box (0 : Int)).bind fun x26=>some (r3.2.Field,(r3.2.Box.setIfInBounds ((0 : Int)).toNat x23),r3.2.Mix,r3.2.Places,r3.2.Rounds,r10.1.1,r10.1.2)) else (if (r10.2 == 2) = true then ((ZB r3.2.Mix (1 : Int)).bind fun x31=>(ZB r3.2.Mix (0 : Int)).bind fun x34=>some (r3.2.Field,r3.2.Box,(r3.2.Mix.setIfInBounds ((0 : Int)).toNat x31),r3.2.Places,r3.2.Rounds,r10.1.1,r10.1.2)) else (if (r10.2 == 3) = true then ((Uf p0_0 (r10.1.1,r10.1.2) ([16,1,255] : List UInt8)).bind fun r40=>(ZB r3.2.Places (0 : Int)).bind fun x43=>(ZB (r3.2.Places.setIfInBounds ((0 : Int)).toNat r40.2) (0 : Int)).bind fun x46=>(ZB (r3.2.Places.setIfInBounds ((0 : Int)).toNat r40.2) (1 : Int)).bind fun x49=>some (r3.2.Field,r3.2.Box,r3.2.Mix,((r3.2.Places.setIfInBounds ((0 : Int)).toNat r40.2).setIfInBounds ((1 : Int)).toNat x46),r3.2.Rounds,r40.1.1,r40.1.2)) else (if (r10.2 == 4) = true then ((Y0 p0_0 (r10.1.1,r10.1.2) ([0,21,(-1)] : List Int)).bind fun r55=>some (r3.2.Field,r3.2.Box,r3.2.Mix,r3.2.Places,r55.2,r55.1.1,r55.1.2)) else (some (r3.2.Field,r3.2.Box,r3.2.Mix,r3.2.Places,r3.2.Rounds,r10.1.1,r10.1.2)))))) : Option (Int × (Vector UInt8 256) × (Vector (Vector UInt8 4) 4) × (Vector UInt8 16) × Int × Int × Int)).bind fun j12=>some (j12.1,j12.2.1,j12.2.2.1,j12.2.2.2.1,j12.2.2.2.2.1,j12.2.2.2.2.2.1,j12.2.2.2.2.2.2) : Option (Int × (Vector UInt8 256) × (Vector (Vector UInt8 4) 4) × (Vector UInt8 16) × Int × Int × Int)).bind fun j7=>some ((j7.2.2.2.2.2.1,j7.2.2.2.2.2.2),(⟨j7.1,j7.2.1,j7.2.2.1,j7.2.2.2.1,j7.2.2.2.2.1⟩ : GCipher))
theorem Bk (St : Nat → Prop) (W w0 : World) (R : Item) (pb0 : Nat) (p0_0 : (List UInt8)) (v0_0 : Value) (hv0_0 : Rep.sat St W p0_0 [v0_0] []) (p0 : (Int × Int)) (hM : M St W w0 [raw pb0 (cat [[v0_0],[vI p0.1],[(Value.int .u64 p0.2)]]),R]) (r : (Int × Int) × GCipher) (hF : Ug p0_0 p0 = some r) :
  Calls Tryz.prog 80 [(ptr pb0 0)].toArray w0 (fun en w'=>∃ v,en = .returned v ∧ (v = (Value.agg (enc r.2).toArray) ∧ M St W w' [raw pb0 (cat [[v0_0],[vI r.1.1],[(Value.int .u64 r.1.2)]]),R])):=by
 refine ce Tryz.func80 ?_
 intro a hE
 unfold Ug at hF
 refine Zb (Zs hE hM ZT fun b1 w a hM hE=>Ze (Zb (Zd hE rfl ?_))); intro a hE
 have hM:=M.tailP (m:=[_]) hM.pull1
 obtain ⟨r3,e4,hF⟩:=bind_some hF
 refine Zo hE rfl (cbm Tryz.func99) (Ar _ _ _ _ pb0 p0_0 v0_0 hv0_0 (p0.1,p0.2) hM r3 e4) ?_
 rintro v w a ⟨rfl,hM⟩ hE
 have hM:=M.tailU (m:=[_]) hM
 simp only [List.cons_append,List.nil_append] at hM
 refine Zs hE hM ZT fun b5 w a hM hE=>Zg (seg:=cat [[vI r3.2.Field],enc r3.2.Box,enc r3.2.Mix,enc r3.2.Places,[vI r3.2.Rounds]]) (cs':=cat [[vI r3.2.Field],enc r3.2.Box,enc r3.2.Mix,enc r3.2.Places,[vI r3.2.Rounds]]) hE hM Za rfl rfl rfl ZT cq (Nat.le_of_eq ((Nat.zero_add _).trans (Eq.trans cq (Eq.symm cq)))) (Yf (cc1 (Flat.cell (r3.2.Field : Int)) (cc1 (Flat.cell _) (cc1 (Flat.cell _) (cc1 (Flat.cell _) (cc1 (Flat.cell (r3.2.Rounds : Int)) cc0)))))) (Zf (Eq.trans cq (Eq.symm cq))) fun w a hM hE=>Ze ?_
 obtain ⟨j7,hl8,hF9⟩:=bind_some hF
 refine ZQ (fun a w=>Env 47 a [(2,(ptr b1 0)),(3,(ptr b5 0))] ∧ M St W w [raw b5 (cat [[vI j7.1],enc j7.2.1,enc j7.2.2.1,enc j7.2.2.2.1,[vI j7.2.2.2.2.1]]),raw pb0 (cat [[v0_0],[vI j7.2.2.2.2.2.1],[(Value.int .u64 j7.2.2.2.2.2.2)]]),raw b1 (cat [[vI 0],enc (Vector.replicate 256 (0 : UInt8)),enc (Vector.replicate 4 (Vector.replicate 4 (0 : UInt8))),enc (Vector.replicate 16 (0 : UInt8)),[vI 0]]),R]) ?_ ?_
 ·skip
  refine Zb (Zd hE rfl ?_); intro a hE
  have hM:=M.tailP (m:=[_]) hM.pull1
  obtain ⟨r10,e11,hl8⟩:=bind_some hl8
  refine Zo hE rfl Uu (ZG _ _ _ _ pb0 p0_0 v0_0 hv0_0 (r3.1.1,r3.1.2) 24 hM r10 e11) ?_
  rintro v w a ⟨rfl,hM⟩ hE
  have hM:=M.tailU (m:=[_]) hM
  simp only [List.cons_append,List.nil_append] at hM
  refine Ze (wp_block (Zb (Zl hE rfl rfl rfl fun a hE=>Zc hE rfl fun a hE=>Ze ?_)))
  obtain ⟨j12,hl13,hF14⟩:=bind_some hl8
  refine ZS (fun a w=>Env 47 a [(2,(ptr b1 0)),(3,(ptr b5 0))] ∧ M St W w [raw pb0 (cat [[v0_0],[vI j12.2.2.2.2.2.1],[(Value.int .u64 j12.2.2.2.2.2.2)]]),raw b5 (cat [[vI j12.1],enc j12.2.1,enc j12.2.2.1,enc j12.2.2.2.1,[vI j12.2.2.2.2.1]]),raw b1 (cat [[vI 0],enc (Vector.replicate 256 (0 : UInt8)),enc (Vector.replicate 4 (Vector.replicate 4 (0 : UInt8))),enc (Vector.replicate 16 (0 : UInt8)),[vI 0]]),R]) ?_ ?_
  ·skip
   refine Zr hE rfl ?_ ?_
   ·intro hb15
    have hl13:=Zu hl13 hb15
    refine wp_region_lit (Zd hE rfl fun a hE=>Yc (xs:=[.const (vI 256),.const (vI 511),.const (vI 0),.const (vI 512)]) (l:=([256,511,0,512] : List Int)) (vs:=[vI 256,vI 511,vI 0,vI 512]) hE hM Za ld rfl rfl Tryz.underlying44 ty2 rfl (by decide) rfl ?_); intro u16 w a hM hE
    have hM:=M.tailP (m:=[_,_]) hM.pull1
    obtain ⟨r18,e19,hl13⟩:=bind_some hl13
    refine Zo hE rfl yU (W7 _ _ _ _ pb0 p0_0 v0_0 hv0_0 (r10.1.1,r10.1.2) ([256,511,0,512] : List Int) u16 hM r18 e19) ?_
    rintro v w a ⟨rfl,hM⟩ hE
    have hM:=M.tailU (m:=[_,_]) hM
    simp only [List.cons_append,List.nil_append] at hM
    refine ZJ hE rfl (QF) ?_; intro a hE
    have hM:=hM.pull2
    refine Zg (seg:=[vI r18.2]) hE hM Za rfl rfl rfl ty2 rfl (Ur (pre:=[]) cl0 rfl) (Flat.cell (r18.2 : Int)) (XC (pre:=[]) cl0 rfl) fun w a hM hE=>Zh ?_
    obtain rfl:=Option.some.inj hl13
    refine Zi ?_
    have hM:=(hM.pull4.pull4.pull2.pull3.pull4).drop
    exact ⟨hE.sub ⟨rfl,rfl,trivial⟩,hM⟩
   ·intro hb15
    have hl13:=Zt hl13 hb15
    refine Zb (Zl hE rfl rfl rfl fun a hE=>Zc hE rfl fun a hE=>Ze ?_)
    refine Zr hE rfl ?_ ?_
    ·intro hb21
     have hl13:=Zu hl13 hb21
     refine wp_region_lit (ZJ hE rfl (Qa) ?_); intro a hE
     obtain ⟨x23,hi22,hl13⟩:=bvx hl13
     refine Zw hE rfl rfl Tryz.underlying25 ty5 hi22.1 fun a hE=>ZR (v:=(vB x23)) hE rfl ty5 rfl (At.vec (At.cat (pre:=[[vI r3.2.Field]]) hM.rawAt1 ck) hi22.2) fun a hE=>ZJ hE rfl (Qa) ?_; intro a hE
     obtain ⟨x26,hi25,hl13⟩:=bvx hl13
     refine Zw hE rfl rfl Tryz.underlying25 ty5 hi25.1 ?_; intro a hE
     have hM:=hM.pull1
     refine Zg (seg:=[vB x23]) (cs':=cat [[vI r3.2.Field],enc (r3.2.Box.setIfInBounds ((0 : Int)).toNat x23),enc r3.2.Mix,enc r3.2.Places,[vI r3.2.Rounds]]) hE hM Za rfl rfl rfl ty5 rfl (Ud (o':=0 + ((0 : Int)).toNat * 1) (pre:=[[vI r3.2.Field]]) (seg:=enc r3.2.Box) (post:=[enc r3.2.Mix,enc r3.2.Places,[vI r3.2.Rounds]]) ck (ZE (v:=r3.2.Box) (x:=x23) hi25.1) (by first | omega | (simp only [Flat.n] <;> omega))) (Flat.cell (x23 : UInt8)) (XY (o':=0 + ((0 : Int)).toNat * 1) (pre:=[[vI r3.2.Field]]) (seg:=enc r3.2.Box) (post:=[enc r3.2.Mix,enc r3.2.Places,[vI r3.2.Rounds]]) ck (ZE (v:=r3.2.Box) (x:=x23) hi25.1) (Zy (v:=r3.2.Box) (x:=x23) hi25.1) (by first | omega | (simp only [Flat.n] <;> omega))) fun w a hM hE=>Zh ?_
     obtain rfl:=Option.some.inj hl13
     refine Zi ?_
     have hM:=hM.pull3.pull3.pull2.pull3
     exact ⟨hE.sub ⟨rfl,rfl,trivial⟩,hM⟩
    ·intro hb21
     have hl13:=Zt hl13 hb21
     refine Zb (Zl hE rfl rfl rfl fun a hE=>Zc hE rfl fun a hE=>Ze ?_)
     refine Zr hE rfl ?_ ?_
     ·intro hb29
      have hl13:=Zu hl13 hb29
      refine wp_region_lit (ZJ hE rfl (Qb) ?_); intro a hE
      obtain ⟨x31,hi30,hl13⟩:=bvx hl13
      refine Zw hE rfl rfl Tryz.underlying28 Yq hi30.1 fun a hE=>Zk hE rfl Yq rfl (At.vec (At.cat (pre:=[[vI r3.2.Field],enc r3.2.Box]) hM.rawAt1 ck) hi30.2) (Flat.len _) fun a hE=>ZJ hE rfl (Qb) ?_; intro a hE
      obtain ⟨x34,hi33,hl13⟩:=bvx hl13
      refine Zw hE rfl rfl Tryz.underlying28 Yq hi33.1 ?_; intro a hE
      have hM:=hM.pull1
      refine Zg (seg:=enc x31) (cs':=cat [[vI r3.2.Field],enc r3.2.Box,enc (r3.2.Mix.setIfInBounds ((0 : Int)).toNat x31),enc r3.2.Places,[vI r3.2.Rounds]]) hE hM Za rfl rfl rfl Yq (Flat.len _) (Ud (o':=0 + ((0 : Int)).toNat * 4) (pre:=[[vI r3.2.Field],enc r3.2.Box]) (seg:=enc r3.2.Mix) (post:=[enc r3.2.Places,[vI r3.2.Rounds]]) ck (ZE (v:=r3.2.Mix) (x:=x31) hi33.1) (by first | omega | (simp only [Flat.n] <;> omega))) (Flat.cell _) (XY (o':=0 + ((0 : Int)).toNat * 4) (pre:=[[vI r3.2.Field],enc r3.2.Box]) (seg:=enc r3.2.Mix) (post:=[enc r3.2.Places,[vI r3.2.Rounds]]) ck (ZE (v:=r3.2.Mix) (x:=x31) hi33.1) (Zy (v:=r3.2.Mix) (x:=x31) hi33.1) (by first | omega | (simp only [Flat.n] <;> omega))) fun w a hM hE=>Zh ?_
      obtain rfl:=Option.some.inj hl13
      refine Zi ?_
      have hM:=hM.pull3.pull3.pull2.pull3
      exact ⟨hE.sub ⟨rfl,rfl,trivial⟩,hM⟩
     ·intro hb29
      have hl13:=Zt hl13 hb29
      refine Zb (Zl hE rfl rfl rfl fun a hE=>Zc hE rfl fun a hE=>Ze ?_)
      refine Zr hE rfl ?_ ?_
      ·intro hb37
       have hl13:=Zu hl13 hb37
       refine Zb (Zd hE rfl fun a hE=>Yc (xs:=[.const (vB 16),.const (vB 1),.const (vB 255)]) (l:=([16,1,255] : List UInt8)) (vs:=[vB 16,vB 1,vB 255]) hE hM Za ld rfl rfl Tryz.underlying22 ty5 rfl (by decide) rfl ?_); intro u38 w a hM hE
       have hM:=M.tailP (m:=[_,_]) hM.pull1
       obtain ⟨r40,e41,hl13⟩:=bind_some hl13
       refine Zo hE rfl (cbm Tryz.func100) (Bm _ _ _ _ pb0 p0_0 v0_0 hv0_0 (r10.1.1,r10.1.2) ([16,1,255] : List UInt8) u38 hM r40 e41) ?_
       rintro v w a ⟨rfl,hM⟩ hE
       have hM:=M.tailU (m:=[_,_]) hM
       simp only [List.cons_append,List.nil_append] at hM
       refine ZJ hE rfl (Tt) ?_; intro a hE
       obtain ⟨x43,hi42,hl13⟩:=bvx hl13
       refine Zw hE rfl rfl Tryz.underlying30 ty5 hi42.1 ?_; intro a hE
       have hM:=hM.pull2
       refine Zg (seg:=[vB r40.2]) (cs':=cat [[vI r3.2.Field],enc r3.2.Box,enc r3.2.Mix,enc (r3.2.Places.setIfInBounds ((0 : Int)).toNat r40.2),[vI r3.2.Rounds]]) hE hM Za rfl rfl rfl ty5 rfl (Ud (o':=0 + ((0 : Int)).toNat * 1) (pre:=[[vI r3.2.Field],enc r3.2.Box,enc r3.2.Mix]) (seg:=enc r3.2.Places) (post:=[[vI r3.2.Rounds]]) ck (ZE (v:=r3.2.Places) (x:=r40.2) hi42.1) (by first | omega | (simp only [Flat.n] <;> omega))) (Flat.cell (r40.2 : UInt8)) (XY (o':=0 + ((0 : Int)).toNat * 1) (pre:=[[vI r3.2.Field],enc r3.2.Box,enc r3.2.Mix]) (seg:=enc r3.2.Places) (post:=[[vI r3.2.Rounds]]) ck (ZE (v:=r3.2.Places) (x:=r40.2) hi42.1) (Zy (v:=r3.2.Places) (x:=r40.2) hi42.1) (by first | omega | (simp only [Flat.n] <;> omega))) fun w a hM hE=>Ze (wp_region_lit (ZJ hE rfl (Tt) ?_)); intro a hE
       obtain ⟨x46,hi45,hl13⟩:=bvx hl13
       refine Zw hE rfl rfl Tryz.underlying30 ty5 hi45.1 fun a hE=>ZR (v:=(vB x46)) hE rfl ty5 rfl (At.vec (At.cat (pre:=[[vI r3.2.Field],enc r3.2.Box,enc r3.2.Mix]) hM.rawAt0 ck) hi45.2) fun a hE=>ZJ hE rfl (Tt) ?_; intro a hE
       obtain ⟨x49,hi48,hl13⟩:=bvx hl13
       refine Zw hE rfl rfl Tryz.underlying30 ty5 hi48.1 fun a hE=>Zg (seg:=[vB x46]) (cs':=cat [[vI r3.2.Field],enc r3.2.Box,enc r3.2.Mix,enc ((r3.2.Places.setIfInBounds ((0 : Int)).toNat r40.2).setIfInBounds ((1 : Int)).toNat x46),[vI r3.2.Rounds]]) hE hM Za rfl rfl rfl ty5 rfl (Ud (o':=0 + ((1 : Int)).toNat * 1) (pre:=[[vI r3.2.Field],enc r3.2.Box,enc r3.2.Mix]) (seg:=enc (r3.2.Places.setIfInBounds ((0 : Int)).toNat r40.2)) (post:=[[vI r3.2.Rounds]]) ck (ZE (v:=(r3.2.Places.setIfInBounds ((0 : Int)).toNat r40.2)) (x:=x46) hi48.1) (by first | omega | (simp only [Flat.n] <;> omega))) (Flat.cell (x46 : UInt8)) (XY (o':=0 + ((1 : Int)).toNat * 1) (pre:=[[vI r3.2.Field],enc r3.2.Box,enc r3.2.Mix]) (seg:=enc (r3.2.Places.setIfInBounds ((0 : Int)).toNat r40.2)) (post:=[[vI r3.2.Rounds]]) ck (ZE (v:=(r3.2.Places.setIfInBounds ((0 : Int)).toNat r40.2)) (x:=x46) hi48.1) (Zy (v:=(r3.2.Places.setIfInBounds ((0 : Int)).toNat r40.2)) (x:=x46) hi48.1) (by first | omega | (simp only [Flat.n] <;> omega))) fun w a hM hE=>Zh ?_
       obtain rfl:=Option.some.inj hl13
       refine Zi ?_
       have hM:=(hM.pull4.pull4.pull2.pull3.pull4).drop
       exact ⟨hE.sub ⟨rfl,rfl,trivial⟩,hM⟩
      ·intro hb37
       have hl13:=Zt hl13 hb37
       refine Zb (Zl hE rfl rfl rfl fun a hE=>Zc hE rfl fun a hE=>Ze ?_)
       refine Zr hE rfl ?_ ?_
       ·intro hb52
        have hl13:=Zu hl13 hb52
        refine wp_region_lit (Zd hE rfl fun a hE=>Yc (xs:=[.const (vI 0),.const (vI 21),.const (vI (-1))]) (l:=([0,21,(-1)] : List Int)) (vs:=[vI 0,vI 21,(vI (-1))]) hE hM Za ld rfl rfl Tryz.underlying44 ty2 rfl (by decide) rfl ?_); intro u53 w a hM hE
        have hM:=M.tailP (m:=[_,_]) hM.pull1
        obtain ⟨r55,e56,hl13⟩:=bind_some hl13
        refine Zo hE rfl yU (W7 _ _ _ _ pb0 p0_0 v0_0 hv0_0 (r10.1.1,r10.1.2) ([0,21,(-1)] : List Int) u53 hM r55 e56) ?_
        rintro v w a ⟨rfl,hM⟩ hE
        have hM:=M.tailU (m:=[_,_]) hM
        simp only [List.cons_append,List.nil_append] at hM
        refine ZJ hE rfl (Qx) ?_; intro a hE
        have hM:=hM.pull2
        refine Zg (seg:=[vI r55.2]) hE hM Za rfl rfl rfl ty2 rfl (Ur (pre:=[[vI r3.2.Field],enc r3.2.Box,enc r3.2.Mix,enc r3.2.Places]) ck rfl) (Flat.cell (r55.2 : Int)) (XC (pre:=[[vI r3.2.Field],enc r3.2.Box,enc r3.2.Mix,enc r3.2.Places]) ck rfl) fun w a hM hE=>Zh ?_
        obtain rfl:=Option.some.inj hl13
        refine Zi ?_
        have hM:=(hM.pull4.pull4.pull2.pull3.pull4).drop
        exact ⟨hE.sub ⟨rfl,rfl,trivial⟩,hM⟩
       ·intro hb52
        have hl13:=Zt hl13 hb52
        refine wp_skip ?_
        obtain rfl:=Option.some.inj hl13
        refine Zi ?_
        exact ⟨hE.sub ⟨rfl,rfl,trivial⟩,hM⟩
  ·skip
   rintro a w ⟨hE,hM⟩
   refine Z9 ?_
   obtain rfl:=Option.some.inj hF14
   refine Zi ?_
   have hM:=hM.pull3.pull3.pull2.pull3
   exact ⟨hE.sub ⟨rfl,rfl,trivial⟩,hM⟩
 ·skip
  rintro a w ⟨hE,hM⟩
  refine Zb (Zk hE rfl ZT rfl hM.rawAt0 cq ?_); intro a hE
  have hM:=hM.pull2
  refine Zg (seg:=cat [[(vI ((⟨j7.1,j7.2.1,j7.2.2.1,j7.2.2.2.1,j7.2.2.2.2.1⟩ : GCipher).Field))],enc ((⟨j7.1,j7.2.1,j7.2.2.1,j7.2.2.2.1,j7.2.2.2.2.1⟩ : GCipher).Box),enc ((⟨j7.1,j7.2.1,j7.2.2.1,j7.2.2.2.1,j7.2.2.2.2.1⟩ : GCipher).Mix),enc ((⟨j7.1,j7.2.1,j7.2.2.1,j7.2.2.2.1,j7.2.2.2.2.1⟩ : GCipher).Places),[(vI ((⟨j7.1,j7.2.1,j7.2.2.1,j7.2.2.2.1,j7.2.2.2.2.1⟩ : GCipher).Rounds))]]) (cs':=cat [[(vI ((⟨j7.1,j7.2.1,j7.2.2.1,j7.2.2.2.1,j7.2.2.2.2.1⟩ : GCipher).Field))],enc ((⟨j7.1,j7.2.1,j7.2.2.1,j7.2.2.2.1,j7.2.2.2.2.1⟩ : GCipher).Box),enc ((⟨j7.1,j7.2.1,j7.2.2.1,j7.2.2.2.1,j7.2.2.2.2.1⟩ : GCipher).Mix),enc ((⟨j7.1,j7.2.1,j7.2.2.1,j7.2.2.2.1,j7.2.2.2.2.1⟩ : GCipher).Places),[(vI ((⟨j7.1,j7.2.1,j7.2.2.1,j7.2.2.2.1,j7.2.2.2.2.1⟩ : GCipher).Rounds))]]) hE hM Za rfl rfl rfl ZT cq (Nat.le_of_eq ((Nat.zero_add _).trans (Eq.trans cq (Eq.symm cq)))) (Yf (cc1 (Flat.cell ((⟨j7.1,j7.2.1,j7.2.2.1,j7.2.2.2.1,j7.2.2.2.2.1⟩ : GCipher).Field : Int)) (cc1 (Flat.cell _) (cc1 (Flat.cell _) (cc1 (Flat.cell _) (cc1 (Flat.cell ((⟨j7.1,j7.2.1,j7.2.2.1,j7.2.2.2.1,j7.2.2.2.2.1⟩ : GCipher).Rounds : Int)) cc0)))))) (Zf (Eq.trans cq (Eq.symm cq))) fun w a hM hE=>Ze ?_
  obtain rfl:=Option.some.inj hF9
  have hq60 : ZX Tryz.prog _ _ (.cell 2 32) _:=ZN hE rfl ZT rfl hM.rawAt0 cq rfl
  have hM:=((hM.pull3.pull3.pull3).drop.pull2).drop
  exact wp_ret (Z2 hE rfl hq60 ⟨_,rfl,rfl,hM⟩)
def Vb (p0_0 : (List UInt8)) (p0 : (Int × Int)) : Option ((Int × Int) × UInt8) :=
 (ZD p0_0 (p0.1,p0.2) 4).bind fun r1=>(ZD p0_0 (r1.1.1,r1.1.2) 256).bind fun r3=>(ZD p0_0 (r3.1.1,r3.1.2) 256).bind fun r5=>(Y0 p0_0 (r5.1.1,r5.1.2) ([r1.2,r3.2,r5.2,255] : List Int)).bind fun r9=>some ((r9.1.1,r9.1.2),ZH r9.2)
theorem JA (St : Nat → Prop) (W w0 : World) (R : Item) (pb0 : Nat) (p0_0 : (List UInt8)) (v0_0 : Value) (hv0_0 : Rep.sat St W p0_0 [v0_0] []) (p0 : (Int × Int)) (hM : M St W w0 [raw pb0 (cat [[v0_0],[vI p0.1],[(Value.int .u64 p0.2)]]),R]) (r : (Int × Int) × UInt8) (hF : Vb p0_0 p0 = some r) :
  Calls Tryz.prog 101 [(ptr pb0 0)].toArray w0 (fun en w'=>∃ v,en = .returned v ∧ (v = (vB r.2) ∧ M St W w' [raw pb0 (cat [[v0_0],[vI r.1.1],[(Value.int .u64 r.1.2)]]),R])):=by
 refine ce Tryz.func101 ?_
 intro a hE
 unfold Vb at hF
 refine Zb (Zc hE rfl fun a hE=>Ze (Zb (Zd hE rfl fun a hE=>Zd hE rfl ?_))); intro a hE
 have hM:=M.tailP (m:=[_]) hM
 obtain ⟨r1,e2,hF⟩:=bind_some hF
 refine Zo hE rfl Uu (ZG _ _ _ _ pb0 p0_0 v0_0 hv0_0 (p0.1,p0.2) 4 hM r1 e2) ?_
 rintro v w a ⟨rfl,hM⟩ hE
 have hM:=M.tailU (m:=[_]) hM
 simp only [List.cons_append,List.nil_append] at hM
 refine Zd hE rfl ?_; intro a hE
 have hM:=M.tailP (m:=[_]) hM
 obtain ⟨r3,e4,hF⟩:=bind_some hF
 refine Zo hE rfl Uu (ZG _ _ _ _ pb0 p0_0 v0_0 hv0_0 (r1.1.1,r1.1.2) 256 hM r3 e4) ?_
 rintro v w a ⟨rfl,hM⟩ hE
 have hM:=M.tailU (m:=[_]) hM
 simp only [List.cons_append,List.nil_append] at hM
 refine Zd hE rfl ?_; intro a hE
 have hM:=M.tailP (m:=[_]) hM
 obtain ⟨r5,e6,hF⟩:=bind_some hF
 refine Zo hE rfl Uu (ZG _ _ _ _ pb0 p0_0 v0_0 hv0_0 (r3.1.1,r3.1.2) 256 hM r5 e6) ?_
 rintro v w a ⟨rfl,hM⟩ hE
 have hM:=M.tailU (m:=[_]) hM
 simp only [List.cons_append,List.nil_append] at hM
 refine Yc (xs:=[.tmp 5,.tmp 7,.tmp 9,.const (vI 255)]) (l:=([r1.2,r3.2,r5.2,255] : List Int)) (vs:=[vI r1.2,vI r3.2,vI r5.2,vI 255]) hE hM Za ld rfl rfl Tryz.underlying44 ty2 rfl (by decide) rfl ?_; intro u7 w a hM hE
 have hM:=M.tailP (m:=[_,_]) hM.pull1
 obtain ⟨r9,e10,hF⟩:=bind_some hF
 refine Zo hE rfl yU (W7 _ _ _ _ pb0 p0_0 v0_0 hv0_0 (r5.1.1,r5.1.2) ([r1.2,r3.2,r5.2,255] : List Int) u7 hM r9 e10) ?_
 rintro v w a ⟨rfl,hM⟩ hE
 have hM:=M.tailU (m:=[_,_]) hM
 simp only [List.cons_append,List.nil_append] at hM
 refine YX hE Za ld rfl Tryz.underlying2 Tryz.underlying5 fun a hE=>Zc hE rfl fun a hE=>Ze ?_
 obtain rfl:=Option.some.inj hF
 have hM:=(hM.pull2.pull1.pull2).drop
 exact wp_ret (Z2 hE rfl (ZF hE rfl) ⟨_,rfl,rfl,hM⟩)
def Vw (p0_0 : (List UInt8)) (s19 : (Vector UInt8 16) × Int × Int × Int) : Option (Fl ((Vector UInt8 16) × Int × Int × Int) ((Vector UInt8 16) × Int × Int)) :=
 if (decide (s19.2.2.2 < 16)) = true then ((ZD p0_0 (s19.2.1,s19.2.2.1) 256).bind fun r24=>(ZB s19.1 s19.2.2.2).bind fun x27=>some (Fl.nx ((s19.1.setIfInBounds (s19.2.2.2).toNat (ZH r24.2)),r24.1.1,r24.1.2,wr (s19.2.2.2 + 1)))) else (some (Fl.ex (s19.1,s19.2.1,s19.2.2.1)))
def XR (p0_0 : (List UInt8)) (p0 : (Int × Int)) : Option ((Int × Int) × (Vector UInt8 16)) :=
 (ZD p0_0 (p0.1,p0.2) 5).bind fun r5=>if (r5.2 == 0) = true then ((ZD p0_0 (r5.1.1,r5.1.2) 16).bind fun r8=>(Vb p0_0 (r8.1.1,r8.1.2)).bind fun r10=>(ZB (Vector.replicate 16 (0 : UInt8)) r8.2).bind fun x13=>some ((r10.1.1,r10.1.2),((Vector.replicate 16 (0 : UInt8)).setIfInBounds (r8.2).toNat r10.2))) else ((ZK (Vw p0_0) ((Vector.replicate 16 (0 : UInt8)),r5.1.1,r5.1.2,0)).bind fun j16=>some ((j16.2.1,j16.2.2),j16.1))
theorem Qk (St : Nat → Prop) (W w0 : World) (R : Item) (pb0 : Nat) (p0_0 : (List UInt8)) (v0_0 : Value) (hv0_0 : Rep.sat St W p0_0 [v0_0] []) (p0 : (Int × Int)) (hM : M St W w0 [raw pb0 (cat [[v0_0],[vI p0.1],[(Value.int .u64 p0.2)]]),R]) (r : (Int × Int) × (Vector UInt8 16)) (hF : XR p0_0 p0 = some r) :
  Calls Tryz.prog 81 [(ptr pb0 0)].toArray w0 (fun en w'=>∃ v,en = .returned v ∧ (v = (Value.agg (enc r.2).toArray) ∧ M St W w' [raw pb0 (cat [[v0_0],[vI r.1.1],[(Value.int .u64 r.1.2)]]),R])):=by
 refine ce Tryz.func81 ?_
 intro a hE
 unfold XR at hF
 refine Zb (Zs hE hM Zv fun b1 w a hM hE=>Ze (Zb (Z8 (parts:=[]) (vs:=[]) (cs:=enc (Vector.replicate 16 (0 : UInt8))) hE Za ld rfl rfl Zv rfl ty5 ZZ fun a hE=>Zs hE hM Zv fun b3 w a hM hE=>Zg (seg:=enc (Vector.replicate 16 (0 : UInt8))) (cs':=enc (Vector.replicate 16 (0 : UInt8))) hE hM Za rfl rfl rfl Zv (Flat.len _) (zle flq) (Flat.cell _) (Zf flq) fun w a hM hE=>Ze (wp_seq (Zb (Zd hE rfl ?_)))))); intro a hE
 have hM:=M.tailP (m:=[_]) hM.pull2
 obtain ⟨r5,e6,hF⟩:=bind_some hF
 refine Zo hE rfl Uu (ZG _ _ _ _ pb0 p0_0 v0_0 hv0_0 (p0.1,p0.2) 5 hM r5 e6) ?_
 rintro v w a ⟨rfl,hM⟩ hE
 have hM:=M.tailU (m:=[_]) hM
 simp only [List.cons_append,List.nil_append] at hM
 refine Zl hE rfl rfl rfl fun a hE=>Ze ?_
 refine Zr hE rfl ?_ ?_
 ·intro hb7
  have hF:=Zu hF hb7
  refine Zb (Zd hE rfl ?_); intro a hE
  have hM:=M.tailP (m:=[_]) hM
  obtain ⟨r8,e9,hF⟩:=bind_some hF
  refine Zo hE rfl Uu (ZG _ _ _ _ pb0 p0_0 v0_0 hv0_0 (r5.1.1,r5.1.2) 16 hM r8 e9) ?_
  rintro v w a ⟨rfl,hM⟩ hE
  have hM:=M.tailU (m:=[_]) hM
  simp only [List.cons_append,List.nil_append] at hM
  refine Zd hE rfl ?_; intro a hE
  have hM:=M.tailP (m:=[_]) hM
  obtain ⟨r10,e11,hF⟩:=bind_some hF
  refine Zo hE rfl (cbm Tryz.func101) (JA _ _ _ _ pb0 p0_0 v0_0 hv0_0 (r8.1.1,r8.1.2) hM r10 e11) ?_
  rintro v w a ⟨rfl,hM⟩ hE
  have hM:=M.tailU (m:=[_]) hM
  simp only [List.cons_append,List.nil_append] at hM
  obtain ⟨x13,hi12,hF⟩:=bvx hF
  refine Zw hE rfl rfl Tryz.underlying33 ty5 hi12.1 ?_; intro a hE
  have hM:=hM.pull1
  refine Zg (seg:=[vB r10.2]) (cs':=enc ((Vector.replicate 16 (0 : UInt8)).setIfInBounds (r8.2).toNat r10.2)) hE hM Za rfl rfl rfl ty5 rfl (ZE (v:=(Vector.replicate 16 (0 : UInt8))) (x:=r10.2) hi12.1) (Flat.cell (r10.2 : UInt8)) (Zy (v:=(Vector.replicate 16 (0 : UInt8))) (x:=r10.2) hi12.1) fun w a hM hE=>Ze (Zb (Zk hE rfl Zv rfl hM.rawAt0 (Flat.len _) ?_)); intro a hE
  have hM:=hM.pull2
  refine Zg (seg:=enc ((Vector.replicate 16 (0 : UInt8)).setIfInBounds (r8.2).toNat r10.2)) (cs':=enc ((Vector.replicate 16 (0 : UInt8)).setIfInBounds (r8.2).toNat r10.2)) hE hM Za rfl rfl rfl Zv (Flat.len _) (zle flq) (Flat.cell _) (Zf flq) fun w a hM hE=>Ze ?_
  obtain rfl:=Option.some.inj hF
  have hq15 : ZX Tryz.prog _ _ (.cell 2 33) _:=ZN hE rfl Zv rfl hM.rawAt0 (Flat.len _) rfl
  have hM:=((hM.pull3.pull3.pull3).drop.pull2).drop
  exact wp_ret (ZI (Z2 hE rfl hq15 ⟨_,rfl,rfl,hM⟩))
 ·intro hb7
  have hF:=Zt hF hb7
  refine wp_skip (Zz (wp_seq (Zb (Zc hE rfl fun a hE=>Ze ?_))))
  obtain ⟨j16,hl17,hF18⟩:=bind_some hF
  refine ZS (fun a w=>Env 25 a [(2,(ptr b1 0)),(3,(ptr b3 0))] ∧ M St W w [raw pb0 (cat [[v0_0],[vI j16.2.1],[(Value.int .u64 j16.2.2)]]),raw b3 (enc j16.1),raw b1 (enc (Vector.replicate 16 (0 : UInt8))),R]) ?_ ?_
  ·skip
   refine wp_block ?_
   refine ZO (fun (s19 : (Vector UInt8 16) × Int × Int × Int) a w=>Env 25 a [(0,(ptr pb0 0)),(2,(ptr b1 0)),(3,(ptr b3 0)),(4,vI s19.2.2.2)] ∧ M St W w [raw pb0 (cat [[v0_0],[vI s19.2.1],[(Value.int .u64 s19.2.2.1)]]),raw b3 (enc s19.1),raw b1 (enc (Vector.replicate 16 (0 : UInt8))),R]) hl17 ⟨hE.sub ⟨rfl,rfl,rfl,rfl,trivial⟩,hM⟩ ?_
   rintro s19 a w ⟨hE,hM⟩ o22 hs20 hx21
   unfold Vw at hs20
   refine wp_seq (Zb (Zd hE rfl fun a hE=>Zl hE rfl rfl rfl fun a hE=>Ze ?_))
   refine Zr hE rfl ?_ ?_
   ·intro hb23
    have hs20:=Zu hs20 hb23
    refine wp_skip (Zz (wp_seq (wp_block (wp_region_lit (Zd hE rfl fun a hE=>Zd hE rfl ?_))))); intro a hE
    have hM:=M.tailP (m:=[_]) hM
    obtain ⟨r24,e25,hs20⟩:=bind_some hs20
    refine Zo hE rfl Uu (ZG _ _ _ _ pb0 p0_0 v0_0 hv0_0 (s19.2.1,s19.2.2.1) 256 hM r24 e25) ?_
    rintro v w a ⟨rfl,hM⟩ hE
    have hM:=M.tailU (m:=[_]) hM
    simp only [List.cons_append,List.nil_append] at hM
    refine YX hE Za ld rfl Tryz.underlying2 Tryz.underlying5 ?_; intro a hE
    obtain ⟨x27,hi26,hs20⟩:=bvx hs20
    refine Zw hE rfl rfl Tryz.underlying33 ty5 hi26.1 ?_; intro a hE
    have hM:=hM.pull1
    refine Zg (seg:=[(vB (ZH r24.2))]) (cs':=enc (s19.1.setIfInBounds (s19.2.2.2).toNat (ZH r24.2))) hE hM Za rfl rfl rfl ty5 rfl (ZE (v:=s19.1) (x:=ZH r24.2) hi26.1) (Flat.cell (ZH r24.2 : UInt8)) (Zy (v:=s19.1) (x:=ZH r24.2) hi26.1) fun w a hM hE=>Zh (Z9 (Zz (wp_region_lit (Zd hE rfl fun a hE=>Zl hE rfl rfl rfl fun a hE=>Zc hE rfl fun a hE=>Zh (Zi ?_)))))
    have hM:=hM.pull3.pull3.pull2.pull3
    exact ⟨_,(ois hs20),hE.sub ⟨rfl,rfl,rfl,rfl,trivial⟩,hM⟩
   ·intro hb23
    have hs20:=Zt hs20 hb23
    refine wp_exit (Zq (Zq (Yi ?_)))
    obtain rfl:=hx21 _ (ois hs20)
    refine Zi ?_
    exact ⟨hE.sub ⟨rfl,rfl,trivial⟩,hM⟩
  ·skip
   rintro a w ⟨hE,hM⟩
   refine Zz (Zb (Zk hE rfl Zv rfl hM.rawAt1 (Flat.len _) ?_)); intro a hE
   have hM:=hM.pull2
   refine Zg (seg:=enc j16.1) (cs':=enc j16.1) hE hM Za rfl rfl rfl Zv (Flat.len _) (zle flq) (Flat.cell _) (Zf flq) fun w a hM hE=>Ze ?_
   obtain rfl:=Option.some.inj hF18
   have hq30 : ZX Tryz.prog _ _ (.cell 2 33) _:=ZN hE rfl Zv rfl hM.rawAt0 (Flat.len _) rfl
   have hM:=((hM.pull3.pull2.pull3).drop.pull2).drop
   exact wp_ret (Z2 hE rfl hq30 ⟨_,rfl,rfl,hM⟩)
def Uk (p0 : (List UInt8)) : Option (GCipher × (Vector UInt8 16) × (Vector UInt8 16)) :=
 (Wu p0).bind fun r7=>(Ug p0 (r7.1,r7.2)).bind fun r11=>(XR p0 (r11.1.1,r11.1.2)).bind fun r13=>(XR p0 (r13.1.1,r13.1.2)).bind fun r15=>some (r11.2,r13.2,r15.2)
theorem Bn (w0 : World) (p0 : (List UInt8)) (v0_1 : Value) (hv0_1 : Ro w0 p0 [v0_1]) (r : GCipher × (Vector UInt8 16) × (Vector UInt8 16)) (hF : Uk p0 = some r) :
  Calls Tryz.prog 55 [v0_1].toArray w0 (Rt w0 (Value.tuple [(Value.agg (enc r.1).toArray),(Value.agg (enc r.2.1).toArray),(Value.agg (enc r.2.2).toArray)].toArray)):=by
 refine ce Tryz.func55 ?_
 intro a hE
 have hM:=M.start w0
 unfold Uk at hF
 refine Zb (Zs hE hM ZT fun b1 w a hM hE=>Zs hE hM Zv fun b3 w a hM hE=>Zs hE hM Zv fun b5 w a hM hE=>Ze (Zb (Zd hE rfl ?_))); intro a hE
 have hM:=M.tailP (m:=[]) hM
 obtain ⟨r7,e8,hF⟩:=bind_some hF
 refine Zo hE rfl cb35 (Ts _ _ _ _ p0 v0_1 hv0_1 hM r7 e8) ?_
 rintro v w a ⟨b9,rfl,hM⟩ hE
 have hM:=M.tailU (m:=[_]) hM
 simp only [List.cons_append,List.nil_append] at hM
 refine Zc hE rfl fun a hE=>Ze (Zb (Zd hE rfl ?_)); intro a hE
 have hM:=M.tailP (m:=[_]) hM
 obtain ⟨r11,e12,hF⟩:=bind_some hF
 refine Zo hE rfl (cbm Tryz.func80) (Bk _ _ _ _ b9 p0 v0_1 hv0_1 (r7.1,r7.2) hM r11 e12) ?_
 rintro v w a ⟨rfl,hM⟩ hE
 have hM:=M.tailU (m:=[_]) hM
 simp only [List.cons_append,List.nil_append] at hM
 refine Zd hE rfl ?_; intro a hE
 have hM:=M.tailP (m:=[_]) hM
 obtain ⟨r13,e14,hF⟩:=bind_some hF
 refine Zo hE rfl (cbm Tryz.func81) (Qk _ _ _ _ b9 p0 v0_1 hv0_1 (r11.1.1,r11.1.2) hM r13 e14) ?_
 rintro v w a ⟨rfl,hM⟩ hE
 have hM:=M.tailU (m:=[_]) hM
 simp only [List.cons_append,List.nil_append] at hM
 refine Zd hE rfl ?_; intro a hE
 have hM:=M.tailP (m:=[_]) hM
 obtain ⟨r15,e16,hF⟩:=bind_some hF
 refine Zo hE rfl (cbm Tryz.func81) (Qk _ _ _ _ b9 p0 v0_1 hv0_1 (r13.1.1,r13.1.2) hM r15 e16) ?_
 rintro v w a ⟨rfl,hM⟩ hE
 have hM:=M.tailU (m:=[_]) hM
 simp only [List.cons_append,List.nil_append] at hM
 have hM:=hM.pull3
 refine Zg (seg:=cat [[vI r11.2.Field],enc r11.2.Box,enc r11.2.Mix,enc r11.2.Places,[vI r11.2.Rounds]]) (cs':=cat [[vI r11.2.Field],enc r11.2.Box,enc r11.2.Mix,enc r11.2.Places,[vI r11.2.Rounds]]) hE hM Za rfl rfl rfl ZT cq (Nat.le_of_eq ((Nat.zero_add _).trans (Eq.trans cq (Eq.symm cq)))) (Yf (cc1 (Flat.cell (r11.2.Field : Int)) (cc1 (Flat.cell _) (cc1 (Flat.cell _) (cc1 (Flat.cell _) (cc1 (Flat.cell (r11.2.Rounds : Int)) cc0)))))) (Zf (Eq.trans cq (Eq.symm cq))) ?_; intro w a hM hE
 have hM:=hM.pull3
 refine Zg (seg:=enc r13.2) (cs':=enc r13.2) hE hM Za rfl rfl rfl Zv (Flat.len _) (zle flq) (Flat.cell _) (Zf flq) ?_; intro w a hM hE
 have hM:=hM.pull3
 refine Zg (seg:=enc r15.2) (cs':=enc r15.2) hE hM Za rfl rfl rfl Zv (Flat.len _) (zle flq) (Flat.cell _) (Zf flq) fun w a hM hE=>Ze ?_
 obtain rfl:=Option.some.inj hF
 have hq17 : ZX Tryz.prog _ _ (.cell 2 32) _:=ZN hE rfl ZT rfl hM.rawAt2 cq rfl
 have hq18 : ZX Tryz.prog _ _ (.cell 3 33) _:=ZN hE rfl Zv rfl hM.rawAt1 (Flat.len _) rfl
 have hq19 : ZX Tryz.prog _ _ (.cell 4 33) _:=ZN hE rfl Zv rfl hM.rawAt0 (Flat.len _) rfl
 exact wp_ret (y5 hE rfl hq17 hq18 hq19 ⟨_,rfl,rfl,hM.kept⟩)
def XN (p0 : (List UInt8)) : Option (GCipher × (Vector UInt8 16) × (Vector UInt8 16) × Int × Int) :=
 (Wu p0).bind fun r7=>(Uk p0).bind fun r11=>((ZD p0 (r7.1,r7.2) 2).bind fun r22=>if (r22.2 == 0) = true then ((ZD p0 (r22.1.1,r22.1.2) 5).bind fun r25=>(Vs (wr (1 + r25.2))).bind fun r27=>some (r25.1.1,r25.1.2,r27.Field,r27.Box,r27.Mix,r27.Places,r27.Rounds)) else (some (r22.1.1,r22.1.2,r11.1.Field,r11.1.Box,r11.1.Mix,r11.1.Places,r11.1.Rounds)) : Option (Int × Int × Int × (Vector UInt8 256) × (Vector (Vector UInt8 4) 4) × (Vector UInt8 16) × Int)).bind fun j19=>((if (decide (j19.2.2.2.2.2.2 > 5)) = true then (some (decide (j19.2.2.2.2.2.2 ≤ 20))) else (some false) : Option (Bool)).bind fun j34=>if j34 = true then (some 5) else (some j19.2.2.2.2.2.2) : Option (Int)).bind fun j31=>((ZD p0 (j19.1,j19.2.1) 16).bind fun r47=>(ZD p0 (r47.1.1,r47.1.2) 30).bind fun r49=>(ZD p0 (r49.1.1,r49.1.2) (if (wr (j31 + 1)) > 1 then (wr (j31 + 1)) else 1)).bind fun r51=>(ZD p0 (r51.1.1,r51.1.2) 30).bind fun r53=>some ((⟨j19.2.2.1,j19.2.2.2.1,j19.2.2.2.2.1,j19.2.2.2.2.2.1,j31⟩ : GCipher).Field,(⟨j19.2.2.1,j19.2.2.2.1,j19.2.2.2.2.1,j19.2.2.2.2.2.1,j31⟩ : GCipher).Box,(⟨j19.2.2.1,j19.2.2.2.1,j19.2.2.2.2.1,j19.2.2.2.2.2.1,j31⟩ : GCipher).Mix,(⟨j19.2.2.1,j19.2.2.2.1,j19.2.2.2.2.1,j19.2.2.2.2.2.1,j31⟩ : GCipher).Places,(⟨j19.2.2.1,j19.2.2.2.1,j19.2.2.2.2.1,j19.2.2.2.2.2.1,j31⟩ : GCipher).Rounds,r11.2.1,r11.2.2,wr (r47.2 - (wr (Int.tdiv r49.2 29))),wr (r51.2 - (wr (Int.tdiv r53.2 29)))) : Option (Int × (Vector UInt8 256) × (Vector (Vector UInt8 4) 4) × (Vector UInt8 16) × Int × (Vector UInt8 16) × (Vector UInt8 16) × Int × Int)).bind fun j43=>some ((⟨j43.1,j43.2.1,j43.2.2.1,j43.2.2.2.1,j43.2.2.2.2.1⟩ : GCipher),j43.2.2.2.2.2.1,j43.2.2.2.2.2.2.1,j43.2.2.2.2.2.2.2.1,j43.2.2.2.2.2.2.2.2)
theorem UI (w0 : World) (p0 : (List UInt8)) (v0_1 : Value) (hv0_1 : Ro w0 p0 [v0_1]) (r : GCipher × (Vector UInt8 16) × (Vector UInt8 16) × Int × Int) (hF : XN p0 = some r) :
  Calls Tryz.prog 28 [v0_1].toArray w0 (Rt w0 (Value.tuple [(Value.agg (enc r.1).toArray),(Value.agg (enc r.2.1).toArray),(Value.agg (enc r.2.2.1).toArray),vI r.2.2.2.1,vI r.2.2.2.2].toArray)):=by
 refine ce Tryz.func28 ?_
 intro a hE
 have hM:=M.start w0
 unfold XN at hF
 refine Zb (Zs hE hM ZT fun b1 w a hM hE=>Zs hE hM Zv fun b3 w a hM hE=>Zs hE hM Zv fun b5 w a hM hE=>Zc hE rfl fun a hE=>Zc hE rfl fun a hE=>Ze (Zb (Zd hE rfl ?_))); intro a hE
 have hM:=M.tailP (m:=[]) hM
 obtain ⟨r7,e8,hF⟩:=bind_some hF
 refine Zo hE rfl cb35 (Ts _ _ _ _ p0 v0_1 hv0_1 hM r7 e8) ?_
 rintro v w a ⟨b9,rfl,hM⟩ hE
 have hM:=M.tailU (m:=[_]) hM
 simp only [List.cons_append,List.nil_append] at hM
 refine Zc hE rfl fun a hE=>Ze (Zb (Zd hE rfl ?_)); intro a hE
 obtain ⟨r11,e12,hF⟩:=bind_some hF
 refine Zo hE rfl (cbm Tryz.func55) (Bn _ p0 v0_1 (hM.rdo hv0_1) r11 e12) ?_
 rintro v w a ⟨rfl,hK⟩ hE
 have hM:=hM.keep hK
 refine Zd hE rfl fun a hE=>Zx hE Za ld rfl rfl fun a hE=>Zx hE Za ld rfl rfl fun a hE=>Zx hE Za ld rfl rfl fun a hE=>Zs hE hM ZT fun b13 w a hM hE=>Zs hE hM Zv fun b15 w a hM hE=>Zs hE hM Zv ?_; intro b17 w a hM hE
 have hM:=hM.pull2
 refine Zg (seg:=cat [[vI r11.1.Field],enc r11.1.Box,enc r11.1.Mix,enc r11.1.Places,[vI r11.1.Rounds]]) (cs':=cat [[vI r11.1.Field],enc r11.1.Box,enc r11.1.Mix,enc r11.1.Places,[vI r11.1.Rounds]]) hE hM Za rfl rfl rfl ZT cq (Nat.le_of_eq ((Nat.zero_add _).trans (Eq.trans cq (Eq.symm cq)))) (Yf (cc1 (Flat.cell (r11.1.Field : Int)) (cc1 (Flat.cell _) (cc1 (Flat.cell _) (cc1 (Flat.cell _) (cc1 (Flat.cell (r11.1.Rounds : Int)) cc0)))))) (Zf (Eq.trans cq (Eq.symm cq))) ?_; intro w a hM hE
 have hM:=hM.pull2
 refine Zg (seg:=enc r11.2.1) (cs':=enc r11.2.1) hE hM Za rfl rfl rfl Zv (Flat.len _) (zle flq) (Flat.cell _) (Zf flq) ?_; intro w a hM hE
 have hM:=hM.pull2
 refine Zg (seg:=enc r11.2.2) (cs':=enc r11.2.2) hE hM Za rfl rfl rfl Zv (Flat.len _) (zle flq) (Flat.cell _) (Zf flq) fun w a hM hE=>Ze ?_
 obtain ⟨j19,hl20,hF21⟩:=bind_some hF
 refine ZQ (fun a w=>Env 54 a [(2,(ptr b1 0)),(3,(ptr b3 0)),(4,(ptr b5 0)),(7,(ptr b9 0)),(8,(ptr b13 0)),(9,(ptr b15 0)),(10,(ptr b17 0))] ∧ M (Old w0) w0 w [raw b17 (enc r11.2.2),raw b15 (enc r11.2.1),raw b13 (cat [[vI j19.2.2.1],enc j19.2.2.2.1,enc j19.2.2.2.2.1,enc j19.2.2.2.2.2.1,[vI j19.2.2.2.2.2.2]]),raw b9 (cat [[v0_1],[vI j19.1],[(Value.int .u64 j19.2.1)]]),raw b5 (enc (Vector.replicate 16 (0 : UInt8))),raw b3 (enc (Vector.replicate 16 (0 : UInt8))),raw b1 (cat [[vI 0],enc (Vector.replicate 256 (0 : UInt8)),enc (Vector.replicate 4 (Vector.replicate 4 (0 : UInt8))),enc (Vector.replicate 16 (0 : UInt8)),[vI 0]])]) ?_ ?_
 ·skip
  refine Zb (Zd hE rfl ?_); intro a hE
  have hM:=M.tailP (m:=[_]) hM.pull3
  obtain ⟨r22,e23,hl20⟩:=bind_some hl20
  refine Zo hE rfl Uu (ZG _ _ _ _ b9 p0 v0_1 hv0_1 (r7.1,r7.2) 2 hM r22 e23) ?_
  rintro v w a ⟨rfl,hM⟩ hE
  have hM:=M.tailU (m:=[_]) hM
  simp only [List.cons_append,List.nil_append] at hM
  refine Zl hE rfl rfl rfl fun a hE=>Ze ?_
  refine Zr hE rfl ?_ ?_
  ·intro hb24
   have hl20:=Zu hl20 hb24
   refine wp_region_lit (Zd hE rfl ?_); intro a hE
   have hM:=M.tailP (m:=[_]) hM
   obtain ⟨r25,e26,hl20⟩:=bind_some hl20
   refine Zo hE rfl Uu (ZG _ _ _ _ b9 p0 v0_1 hv0_1 (r22.1.1,r22.1.2) 5 hM r25 e26) ?_
   rintro v w a ⟨rfl,hM⟩ hE
   have hM:=M.tailU (m:=[_]) hM
   simp only [List.cons_append,List.nil_append] at hM
   refine Zl hE rfl rfl rfl ?_; intro a hE
   obtain ⟨r27,e28,hl20⟩:=bind_some hl20
   refine Zo hE rfl (cbm Tryz.func56) (KJ _ (wr (1 + r25.2)) r27 e28) ?_
   rintro v w a ⟨rfl,hK⟩ hE
   have hM:=(hM.keep hK).pull3
   refine Zg (seg:=cat [[vI r27.Field],enc r27.Box,enc r27.Mix,enc r27.Places,[vI r27.Rounds]]) (cs':=cat [[vI r27.Field],enc r27.Box,enc r27.Mix,enc r27.Places,[vI r27.Rounds]]) hE hM Za rfl rfl rfl ZT cq (Nat.le_of_eq ((Nat.zero_add _).trans (Eq.trans cq (Eq.symm cq)))) (Yf (cc1 (Flat.cell (r27.Field : Int)) (cc1 (Flat.cell _) (cc1 (Flat.cell _) (cc1 (Flat.cell _) (cc1 (Flat.cell (r27.Rounds : Int)) cc0)))))) (Zf (Eq.trans cq (Eq.symm cq))) fun w a hM hE=>Zh ?_
   obtain rfl:=Option.some.inj hl20
   refine Zi ?_
   have hM:=hM.pull6.pull6.pull6.pull4.pull4.pull6.pull6
   exact ⟨hE.sub ⟨rfl,rfl,rfl,rfl,rfl,rfl,rfl,trivial⟩,hM⟩
  ·intro hb24
   have hl20:=Zt hl20 hb24
   refine wp_skip ?_
   obtain rfl:=Option.some.inj hl20
   refine Zi ?_
   have hM:=hM.pull6.pull6.pull6.pull3.pull6.pull6.pull6
   exact ⟨hE.sub ⟨rfl,rfl,rfl,rfl,rfl,rfl,rfl,trivial⟩,hM⟩
 ·skip
  rintro a w ⟨hE,hM⟩
  obtain ⟨j31,hl32,hF33⟩:=bind_some hF21
  refine ZQ (fun a w=>Env 54 a [(2,(ptr b1 0)),(3,(ptr b3 0)),(4,(ptr b5 0)),(7,(ptr b9 0)),(8,(ptr b13 0)),(9,(ptr b15 0)),(10,(ptr b17 0))] ∧ M (Old w0) w0 w [raw b17 (enc r11.2.2),raw b15 (enc r11.2.1),raw b13 (cat [[vI j19.2.2.1],enc j19.2.2.2.1,enc j19.2.2.2.2.1,enc j19.2.2.2.2.2.1,[vI j31]]),raw b9 (cat [[v0_1],[vI j19.1],[(Value.int .u64 j19.2.1)]]),raw b5 (enc (Vector.replicate 16 (0 : UInt8))),raw b3 (enc (Vector.replicate 16 (0 : UInt8))),raw b1 (cat [[vI 0],enc (Vector.replicate 256 (0 : UInt8)),enc (Vector.replicate 4 (Vector.replicate 4 (0 : UInt8))),enc (Vector.replicate 16 (0 : UInt8)),[vI 0]])]) ?_ ?_
  ·skip
   obtain ⟨j34,hl35,hF36⟩:=bind_some hl32
   refine ZQ (fun a w=>Env 54 a [(2,(ptr b1 0)),(3,(ptr b3 0)),(4,(ptr b5 0)),(7,(ptr b9 0)),(8,(ptr b13 0)),(9,(ptr b15 0)),(10,(ptr b17 0)),(33,vT j34)] ∧ M (Old w0) w0 w [raw b17 (enc r11.2.2),raw b15 (enc r11.2.1),raw b13 (cat [[vI j19.2.2.1],enc j19.2.2.2.1,enc j19.2.2.2.2.1,enc j19.2.2.2.2.2.1,[vI j19.2.2.2.2.2.2]]),raw b9 (cat [[v0_1],[vI j19.1],[(Value.int .u64 j19.2.1)]]),raw b5 (enc (Vector.replicate 16 (0 : UInt8))),raw b3 (enc (Vector.replicate 16 (0 : UInt8))),raw b1 (cat [[vI 0],enc (Vector.replicate 256 (0 : UInt8)),enc (Vector.replicate 4 (Vector.replicate 4 (0 : UInt8))),enc (Vector.replicate 16 (0 : UInt8)),[vI 0]])]) ?_ ?_
   ·skip
    refine wp_region_lit (ZJ hE rfl (Qx) fun a hE=>ZR (v:=(vI j19.2.2.2.2.2.2)) hE rfl ty2 rfl (At.cat (pre:=[[vI j19.2.2.1],enc j19.2.2.2.1,enc j19.2.2.2.2.1,enc j19.2.2.2.2.2.1]) hM.rawAt2 ck) fun a hE=>Zl hE rfl rfl rfl fun a hE=>Zd hE rfl ?_); intro a hE
    refine YF (decide (j19.2.2.2.2.2.2 > 5)) (fun hb37=>?_) (fun hb37=>?_)
    ·have hl35:=Zu hl35 hb37
     refine ZP hE (Zm hE rfl (lkb rfl hb37)) (by decide) rfl (Qx) fun a hE=>Z0 (v:=(vI j19.2.2.2.2.2.2)) hE (Zm hE rfl (lkb rfl hb37)) (by decide) rfl ty2 rfl (At.cat (pre:=[[vI j19.2.2.1],enc j19.2.2.2.1,enc j19.2.2.2.2.1,enc j19.2.2.2.2.2.1]) hM.rawAt2 ck) fun a hE=>Yk hE (Zm hE rfl (lkb rfl hb37)) (by decide) rfl rfl rfl fun a hE=>ZW hE (lkb rfl hb37) rfl fun a hE=>Zh ?_
     obtain rfl:=Option.some.inj hl35
     refine Zi ?_
     exact ⟨hE.sub ⟨rfl,rfl,rfl,rfl,rfl,rfl,rfl,rfl,trivial⟩,hM⟩
    ·have hl35:=Zt hl35 hb37
     refine Zp hE rfl (lkb rfl hb37) rfl (by decide) fun a hE=>Zp hE rfl (lkb rfl hb37) rfl (by decide) fun a hE=>Zp hE rfl (lkb rfl hb37) rfl (by decide) fun a hE=>Z7 hE (lkb rfl hb37) rfl fun a hE=>Zh ?_
     obtain rfl:=Option.some.inj hl35
     refine Zi ?_
     exact ⟨hE.sub ⟨rfl,rfl,rfl,rfl,rfl,rfl,rfl,rfl,trivial⟩,hM⟩
   ·skip
    rintro a w ⟨hE,hM⟩
    refine Zr hE rfl ?_ ?_
    ·intro hb40
     have hF36:=Zu hF36 hb40
     refine wp_region_lit (ZJ hE rfl (Qx) ?_); intro a hE
     have hM:=hM.pull2
     refine Zg (seg:=[vI 5]) hE hM Za rfl rfl rfl ty2 rfl (Ur (pre:=[[vI j19.2.2.1],enc j19.2.2.2.1,enc j19.2.2.2.2.1,enc j19.2.2.2.2.2.1]) ck rfl) (Flat.cell (5 : Int)) (XC (pre:=[[vI j19.2.2.1],enc j19.2.2.2.1,enc j19.2.2.2.2.1,enc j19.2.2.2.2.2.1]) ck rfl) fun w a hM hE=>Zh ?_
     obtain rfl:=Option.some.inj hF36
     refine Zi ?_
     have hM:=hM.pull6.pull6.pull6.pull6.pull4.pull6.pull6
     exact ⟨hE.sub ⟨rfl,rfl,rfl,rfl,rfl,rfl,rfl,trivial⟩,hM⟩
    ·intro hb40
     have hF36:=Zt hF36 hb40
     refine wp_skip ?_
     obtain rfl:=Option.some.inj hF36
     refine Zi ?_
     exact ⟨hE.sub ⟨rfl,rfl,rfl,rfl,rfl,rfl,rfl,trivial⟩,hM⟩
  ·skip
   rintro a w ⟨hE,hM⟩
   obtain ⟨j43,hl44,hF45⟩:=bind_some hF33
   refine ZQ (fun a w=>Env 54 a [(2,(ptr b1 0)),(3,(ptr b3 0)),(4,(ptr b5 0)),(5,vI j43.2.2.2.2.2.2.2.1),(6,vI j43.2.2.2.2.2.2.2.2)] ∧ M (Old w0) w0 w [raw b5 (enc j43.2.2.2.2.2.2.1),raw b3 (enc j43.2.2.2.2.2.1),raw b1 (cat [[vI j43.1],enc j43.2.1,enc j43.2.2.1,enc j43.2.2.2.1,[vI j43.2.2.2.2.1]])]) ?_ ?_
   ·skip
    have hM:=hM.pull6.pull6.pull6.pull6
    obtain ⟨r47,e48,hl44⟩:=bind_some hl44
    obtain ⟨r49,e50,hl44⟩:=bind_some hl44
    obtain ⟨r51,e52,hl44⟩:=bind_some hl44
    obtain ⟨r53,e54,hl44⟩:=bind_some hl44
    refine Wk (its:=[raw b17 (enc r11.2.2),raw b15 (enc r11.2.1),raw b13 (cat [[vI j19.2.2.1],enc j19.2.2.2.1,enc j19.2.2.2.2.1,enc j19.2.2.2.2.2.1,[vI j31]])]) (mk:=([mkT 19 (raw b1 (cat [[vI 0],enc (Vector.replicate 256 (0 : UInt8)),enc (Vector.replicate 4 (Vector.replicate 4 (0 : UInt8))),enc (Vector.replicate 16 (0 : UInt8)),[vI 0]])) (raw b1 (cat [[(vI ((⟨j19.2.2.1,j19.2.2.2.1,j19.2.2.2.2.1,j19.2.2.2.2.2.1,j31⟩ : GCipher).Field))],enc ((⟨j19.2.2.1,j19.2.2.2.1,j19.2.2.2.2.1,j19.2.2.2.2.2.1,j31⟩ : GCipher).Box),enc ((⟨j19.2.2.1,j19.2.2.2.1,j19.2.2.2.2.1,j19.2.2.2.2.2.1,j31⟩ : GCipher).Mix),enc ((⟨j19.2.2.1,j19.2.2.2.1,j19.2.2.2.2.1,j19.2.2.2.2.2.1,j31⟩ : GCipher).Places),[(vI ((⟨j19.2.2.1,j19.2.2.2.1,j19.2.2.2.2.1,j19.2.2.2.2.2.1,j31⟩ : GCipher).Rounds))]])),mkT 20 (raw b3 (enc (Vector.replicate 16 (0 : UInt8)))) (raw b3 (enc r11.2.1)),mkT 21 (raw b5 (enc (Vector.replicate 16 (0 : UInt8)))) (raw b5 (enc r11.2.2)),([4,6,14,16],fun bs _=>(tog (bs.getD 0 false) (raw b9 (cat [[v0_1],[vI j19.1],[(Value.int .u64 j19.2.1)]])) (tog (bs.getD 1 false) (raw b9 (cat [[v0_1],[vI r47.1.1],[(Value.int .u64 r47.1.2)]])) (tog (bs.getD 2 false) (raw b9 (cat [[v0_1],[vI r49.1.1],[(Value.int .u64 r49.1.2)]])) (tog (bs.getD 3 false) (raw b9 (cat [[v0_1],[vI r51.1.1],[(Value.int .u64 r51.1.2)]])) (raw b9 (cat [[v0_1],[vI r53.1.1],[(Value.int .u64 r53.1.2)]])))))))] : Mk)) [35,36,37,38,39,40,41,42,43,44,45,46,47,48,49,50,51,52,53,73,74,75,5] Xm rfl rfl (by decide) rfl hE (fun u=>M.qT (M.qT (M.qT (M.qS (M.q0 hM.drew u) fun _=>rfl)))) (qsP (v:=(Value.agg (enc (⟨j19.2.2.1,j19.2.2.2.1,j19.2.2.2.2.1,j19.2.2.2.2.2.1,j31⟩ : GCipher)).toArray)) ?_ (qsP (v:=(Value.agg (enc r11.2.1).toArray)) ?_ (qsP (v:=(Value.agg (enc r11.2.2).toArray)) ?_ (qsP (fun z=>Zj z.E Za ld rfl (kr0 rfl)) (qsV (v:=(vI r47.2)) ?_ (qsP (fun z=>Zj z.E Za ld rfl (kr0 rfl)) (qsV (v:=(vI r49.2)) ?_ (qsP (v:=(vI (wr (Int.tdiv r49.2 29)))) (fun z=>Yk z.E Za ld rfl rfl (JE _ _ (by decide)) (kr0 rfl)) (qsP (v:=(vI (wr (r47.2 - (wr (Int.tdiv r49.2 29)))))) (fun z=>Yk z.E Za ld rfl rfl rfl (kr0 rfl)) (qsP (fun z=>Zj z.E Za ld rfl (kr0 rfl)) (qsP (fun z=>ZP z.E Za ld rfl (Qx) (kr0 rfl)) (qsP (v:=(vI j31)) ?_ (qsP (v:=(vI (wr (j31 + 1)))) (fun z=>Yk z.E Za ld rfl rfl rfl (kr0 rfl)) (qsP (fun z=>s_max z.E Za ld rfl rfl (kr0 rfl)) (qsV (v:=(vI r51.2)) ?_ (qsP (fun z=>Zj z.E Za ld rfl (kr0 rfl)) (qsV (v:=(vI r53.2)) ?_ (qsP (v:=(vI (wr (Int.tdiv r53.2 29)))) (fun z=>Yk z.E Za ld rfl rfl (JE _ _ (by decide)) (kr0 rfl)) (qsP (v:=(vI (wr (r51.2 - (wr (Int.tdiv r53.2 29)))))) (fun z=>Yk z.E Za ld rfl rfl rfl (kr0 rfl)) (qsM (pr:=fun v=>True) ?_ (qsM (pr:=fun v=>True) ?_ (qsM (pr:=fun v=>True) ?_ (qsP (fun z=>U6 z.E Za ld rfl (kr0 rfl)) qs0))))))))))))))))))))))) ?_
    ·intro a w ux46 D z
     have hE:=z.E
     have hD : D 0 = false:=z.F
     have hM:=((z.M.togA (pre:=[_,_,_]) (VH (j:=19) (k:=0) z.c rfl rfl rfl hD)).togA (pre:=[_,_,_,_]) (VH (j:=20) (k:=2) z.c rfl rfl rfl hD)).togA (pre:=[_,_,_,_,_]) (VH (j:=21) (k:=2) z.c rfl rfl rfl hD)
     exact Zk hE rfl ZT rfl hM.rawAt2 cq fun a hE=>⟨Kept.refl _ _,_,rfl,hE⟩
    ·intro a w ux46 D z
     have hE:=z.E
     have hD : D 1 = false:=z.F
     have hM:=(z.M.togA (pre:=[_,_,_,_]) (VH (j:=20) (k:=0) z.c rfl rfl rfl hD)).togA (pre:=[_,_,_,_,_]) (VH (j:=21) (k:=3) z.c rfl rfl rfl hD)
     exact Zk hE rfl Zv rfl hM.rawAt1 (Flat.len _) fun a hE=>⟨Kept.refl _ _,_,rfl,hE⟩
    ·intro a w ux46 D z
     have hE:=z.E
     have hD : D 2 = false:=z.F
     have hM:=z.M.togA (pre:=[_,_,_,_,_]) (VH (j:=21) (k:=0) z.c rfl rfl rfl hD)
     exact Zk hE rfl Zv rfl hM.rawAt0 (Flat.len _) fun a hE=>⟨Kept.refl _ _,_,rfl,hE⟩
    ·intro a w ux46 D z
     have hE:=z.E
     have hD : D 4 = false:=z.F
     have hM:=z.M.togA (pre:=[_,_,_,_,_,_]) hD
     have hNx : D 6 = false:=VH (j:=6) (k:=1) z.c rfl rfl rfl hD
     have hM:=M.tailP (m:=[_]) hM.pull6
     refine Zo hE rfl Uu (ZG _ _ _ _ b9 p0 v0_1 hv0_1 (j19.1,j19.2.1) 16 hM r47 e48) ?_
     rintro v w a ⟨rfl,hM⟩ hE
     have hM:=M.tailU (m:=[_]) hM
     simp only [List.cons_append,List.nil_append] at hM
     exact ⟨_,rfl,hE,M.qTogS (p:=([4,6,14,16],fun bs _=>(tog (bs.getD 0 false) (raw b9 (cat [[v0_1],[vI j19.1],[(Value.int .u64 j19.2.1)]])) (tog (bs.getD 1 false) (raw b9 (cat [[v0_1],[vI r47.1.1],[(Value.int .u64 r47.1.2)]])) (tog (bs.getD 2 false) (raw b9 (cat [[v0_1],[vI r49.1.1],[(Value.int .u64 r49.1.2)]])) (tog (bs.getD 3 false) (raw b9 (cat [[v0_1],[vI r51.1.1],[(Value.int .u64 r51.1.2)]])) (raw b9 (cat [[v0_1],[vI r53.1.1],[(Value.int .u64 r53.1.2)]])))))))) (mk1:=[_,_,_]) (mk2:=[]) hM rfl (by show tog (YW D 4 4) (raw b9 (cat [[v0_1],[vI j19.1],[(Value.int .u64 j19.2.1)]])) (tog (YW D 4 6) (raw b9 (cat [[v0_1],[vI r47.1.1],[(Value.int .u64 r47.1.2)]])) (tog (YW D 4 14) (raw b9 (cat [[v0_1],[vI r49.1.1],[(Value.int .u64 r49.1.2)]])) (tog (YW D 4 16) (raw b9 (cat [[v0_1],[vI r51.1.1],[(Value.int .u64 r51.1.2)]])) (raw b9 (cat [[v0_1],[vI r53.1.1],[(Value.int .u64 r53.1.2)]]))))) = _; rw [tg1 JH,tg0 (yS (i:=4) hNx (by decide))])⟩
    ·intro a w ux46 D z
     have hE:=z.E
     have hD : D 6 = false:=z.F
     have hM:=z.M
     have dC4 : D 4 = true:=z.p 1 _ rfl rfl
     have hM:=(hM.togB (pre:=[_,_,_,_,_,_]) dC4).togA (pre:=[_,_,_,_,_,_]) hD
     have hNx : D 14 = false:=VH (j:=14) (k:=2) z.c rfl rfl rfl hD
     have hM:=M.tailP (m:=[_]) hM.pull6
     refine Zo hE rfl Uu (ZG _ _ _ _ b9 p0 v0_1 hv0_1 (r47.1.1,r47.1.2) 30 hM r49 e50) ?_
     rintro v w a ⟨rfl,hM⟩ hE
     have hM:=M.tailU (m:=[_]) hM
     simp only [List.cons_append,List.nil_append] at hM
     exact ⟨_,rfl,hE,M.qTogS (p:=([4,6,14,16],fun bs _=>(tog (bs.getD 0 false) (raw b9 (cat [[v0_1],[vI j19.1],[(Value.int .u64 j19.2.1)]])) (tog (bs.getD 1 false) (raw b9 (cat [[v0_1],[vI r47.1.1],[(Value.int .u64 r47.1.2)]])) (tog (bs.getD 2 false) (raw b9 (cat [[v0_1],[vI r49.1.1],[(Value.int .u64 r49.1.2)]])) (tog (bs.getD 3 false) (raw b9 (cat [[v0_1],[vI r51.1.1],[(Value.int .u64 r51.1.2)]])) (raw b9 (cat [[v0_1],[vI r53.1.1],[(Value.int .u64 r53.1.2)]])))))))) (mk1:=[_,_,_]) (mk2:=[]) hM rfl (by show tog (YW D 6 4) (raw b9 (cat [[v0_1],[vI j19.1],[(Value.int .u64 j19.2.1)]])) (tog (YW D 6 6) (raw b9 (cat [[v0_1],[vI r47.1.1],[(Value.int .u64 r47.1.2)]])) (tog (YW D 6 14) (raw b9 (cat [[v0_1],[vI r49.1.1],[(Value.int .u64 r49.1.2)]])) (tog (YW D 6 16) (raw b9 (cat [[v0_1],[vI r51.1.1],[(Value.int .u64 r51.1.2)]])) (raw b9 (cat [[v0_1],[vI r53.1.1],[(Value.int .u64 r53.1.2)]]))))) = _; rw [tg1 (Ah dC4),tg1 JH,tg0 (yS (i:=6) hNx (by decide))])⟩
    ·intro a w ux46 D z
     have hE:=z.E
     have hM:=z.M
     exact ZR (v:=(vI j31)) hE rfl ty2 rfl (At.cat (pre:=[[vI j19.2.2.1],enc j19.2.2.2.1,enc j19.2.2.2.2.1,enc j19.2.2.2.2.2.1]) hM.rawAt2 ck) fun a hE=>⟨Kept.refl _ _,_,rfl,hE⟩
    ·intro a w ux46 D z
     have hE:=z.E
     have hD : D 14 = false:=z.F
     have hM:=z.M
     have dC6 : D 6 = true:=z.p 2 _ rfl rfl
     have dC4 : D 4 = true:=z.c 6 _ _ rfl (List.mem_of_getElem? (i:=1) rfl) rfl dC6
     have hM:=((hM.togB (pre:=[_,_,_,_,_,_]) dC4).togB (pre:=[_,_,_,_,_,_]) dC6).togA (pre:=[_,_,_,_,_,_]) hD
     have hNx : D 16 = false:=VH (j:=16) (k:=1) z.c rfl rfl rfl hD
     have hM:=M.tailP (m:=[_]) hM.pull6
     refine Zo hE rfl Uu (ZG _ _ _ _ b9 p0 v0_1 hv0_1 (r49.1.1,r49.1.2) (if (wr (j31 + 1)) > 1 then (wr (j31 + 1)) else 1) hM r51 e52) ?_
     rintro v w a ⟨rfl,hM⟩ hE
     have hM:=M.tailU (m:=[_]) hM
     simp only [List.cons_append,List.nil_append] at hM
     exact ⟨_,rfl,hE,M.qTogS (p:=([4,6,14,16],fun bs _=>(tog (bs.getD 0 false) (raw b9 (cat [[v0_1],[vI j19.1],[(Value.int .u64 j19.2.1)]])) (tog (bs.getD 1 false) (raw b9 (cat [[v0_1],[vI r47.1.1],[(Value.int .u64 r47.1.2)]])) (tog (bs.getD 2 false) (raw b9 (cat [[v0_1],[vI r49.1.1],[(Value.int .u64 r49.1.2)]])) (tog (bs.getD 3 false) (raw b9 (cat [[v0_1],[vI r51.1.1],[(Value.int .u64 r51.1.2)]])) (raw b9 (cat [[v0_1],[vI r53.1.1],[(Value.int .u64 r53.1.2)]])))))))) (mk1:=[_,_,_]) (mk2:=[]) hM rfl (by show tog (YW D 14 4) (raw b9 (cat [[v0_1],[vI j19.1],[(Value.int .u64 j19.2.1)]])) (tog (YW D 14 6) (raw b9 (cat [[v0_1],[vI r47.1.1],[(Value.int .u64 r47.1.2)]])) (tog (YW D 14 14) (raw b9 (cat [[v0_1],[vI r49.1.1],[(Value.int .u64 r49.1.2)]])) (tog (YW D 14 16) (raw b9 (cat [[v0_1],[vI r51.1.1],[(Value.int .u64 r51.1.2)]])) (raw b9 (cat [[v0_1],[vI r53.1.1],[(Value.int .u64 r53.1.2)]]))))) = _; rw [tg1 (Ah dC4),tg1 (Ah dC6),tg1 JH,tg0 (yS (i:=14) hNx (by decide))])⟩
    ·intro a w ux46 D z
     have hE:=z.E
     have hD : D 16 = false:=z.F
     have hM:=z.M
     have dC14 : D 14 = true:=z.p 1 _ rfl rfl
     have dC6 : D 6 = true:=z.c 14 _ _ rfl (List.mem_of_getElem? (i:=2) rfl) rfl dC14
     have dC4 : D 4 = true:=z.c 6 _ _ rfl (List.mem_of_getElem? (i:=1) rfl) rfl dC6
     have hM:=M.tailP (m:=[_]) (((((hM.togB (pre:=[_,_,_,_,_,_]) dC4).togB (pre:=[_,_,_,_,_,_]) dC6).togB (pre:=[_,_,_,_,_,_]) dC14).togA (pre:=[_,_,_,_,_,_]) hD).pull6)
     refine Zo hE rfl Uu (ZG _ _ _ _ b9 p0 v0_1 hv0_1 (r51.1.1,r51.1.2) 30 hM r53 e54) ?_
     rintro v w a ⟨rfl,hM⟩ hE
     have hM:=M.tailU (m:=[_]) hM
     simp only [List.cons_append,List.nil_append] at hM
     exact ⟨_,rfl,hE,M.qTogS (p:=([4,6,14,16],fun bs _=>(tog (bs.getD 0 false) (raw b9 (cat [[v0_1],[vI j19.1],[(Value.int .u64 j19.2.1)]])) (tog (bs.getD 1 false) (raw b9 (cat [[v0_1],[vI r47.1.1],[(Value.int .u64 r47.1.2)]])) (tog (bs.getD 2 false) (raw b9 (cat [[v0_1],[vI r49.1.1],[(Value.int .u64 r49.1.2)]])) (tog (bs.getD 3 false) (raw b9 (cat [[v0_1],[vI r51.1.1],[(Value.int .u64 r51.1.2)]])) (raw b9 (cat [[v0_1],[vI r53.1.1],[(Value.int .u64 r53.1.2)]])))))))) (mk1:=[_,_,_]) (mk2:=[]) hM rfl (by show tog (YW D 16 4) (raw b9 (cat [[v0_1],[vI j19.1],[(Value.int .u64 j19.2.1)]])) (tog (YW D 16 6) (raw b9 (cat [[v0_1],[vI r47.1.1],[(Value.int .u64 r47.1.2)]])) (tog (YW D 16 14) (raw b9 (cat [[v0_1],[vI r49.1.1],[(Value.int .u64 r49.1.2)]])) (tog (YW D 16 16) (raw b9 (cat [[v0_1],[vI r51.1.1],[(Value.int .u64 r51.1.2)]])) (raw b9 (cat [[v0_1],[vI r53.1.1],[(Value.int .u64 r53.1.2)]]))))) = _; rw [tg1 (Ah dC4),tg1 (Ah dC6),tg1 (Ah dC14),tg1 JH])⟩
    ·intro a w ux46 D z
     have hE:=z.E
     have hD : D 19 = false:=z.F
     have hM:=(z.M.togA (pre:=[_,_,_]) hD).pull3
     exact Zg (seg:=cat [[(vI ((⟨j19.2.2.1,j19.2.2.2.1,j19.2.2.2.2.1,j19.2.2.2.2.2.1,j31⟩ : GCipher).Field))],enc ((⟨j19.2.2.1,j19.2.2.2.1,j19.2.2.2.2.1,j19.2.2.2.2.2.1,j31⟩ : GCipher).Box),enc ((⟨j19.2.2.1,j19.2.2.2.1,j19.2.2.2.2.1,j19.2.2.2.2.2.1,j31⟩ : GCipher).Mix),enc ((⟨j19.2.2.1,j19.2.2.2.1,j19.2.2.2.2.1,j19.2.2.2.2.2.1,j31⟩ : GCipher).Places),[(vI ((⟨j19.2.2.1,j19.2.2.2.1,j19.2.2.2.2.1,j19.2.2.2.2.2.1,j31⟩ : GCipher).Rounds))]]) (cs':=cat [[(vI ((⟨j19.2.2.1,j19.2.2.2.1,j19.2.2.2.2.1,j19.2.2.2.2.2.1,j31⟩ : GCipher).Field))],enc ((⟨j19.2.2.1,j19.2.2.2.1,j19.2.2.2.2.1,j19.2.2.2.2.2.1,j31⟩ : GCipher).Box),enc ((⟨j19.2.2.1,j19.2.2.2.1,j19.2.2.2.2.1,j19.2.2.2.2.2.1,j31⟩ : GCipher).Mix),enc ((⟨j19.2.2.1,j19.2.2.2.1,j19.2.2.2.2.1,j19.2.2.2.2.2.1,j31⟩ : GCipher).Places),[(vI ((⟨j19.2.2.1,j19.2.2.2.1,j19.2.2.2.2.1,j19.2.2.2.2.2.1,j31⟩ : GCipher).Rounds))]]) hE hM Za rfl rfl rfl ZT cq (Nat.le_of_eq ((Nat.zero_add _).trans (Eq.trans cq (Eq.symm cq)))) (Yf (cc1 (Flat.cell ((⟨j19.2.2.1,j19.2.2.2.1,j19.2.2.2.2.1,j19.2.2.2.2.2.1,j31⟩ : GCipher).Field : Int)) (cc1 (Flat.cell _) (cc1 (Flat.cell _) (cc1 (Flat.cell _) (cc1 (Flat.cell ((⟨j19.2.2.1,j19.2.2.2.1,j19.2.2.2.2.1,j19.2.2.2.2.2.1,j31⟩ : GCipher).Rounds : Int)) cc0)))))) (Zf (Eq.trans cq (Eq.symm cq))) fun w a hM hE=>⟨undef,_,rfl,Env.dummy hE (by decide),M.qTog (mk1:=[]) (mk2:=[_,_,_]) hM rfl,trivial⟩
    ·intro a w ux46 D z
     have hE:=z.E
     have hD : D 20 = false:=z.F
     have hM:=(z.M.togA (pre:=[_,_,_,_]) hD).pull4
     exact Zg (seg:=enc r11.2.1) (cs':=enc r11.2.1) hE hM Za rfl rfl rfl Zv (Flat.len _) (zle flq) (Flat.cell _) (Zf flq) fun w a hM hE=>⟨undef,_,rfl,Env.dummy hE (by decide),M.qTog (mk1:=[_]) (mk2:=[_,_]) hM rfl,trivial⟩
    ·intro a w ux46 D z
     have hE:=z.E
     have hD : D 21 = false:=z.F
     have hM:=(z.M.togA (pre:=[_,_,_,_,_]) hD).pull5
     exact Zg (seg:=enc r11.2.2) (cs':=enc r11.2.2) hE hM Za rfl rfl rfl Zv (Flat.len _) (zle flq) (Flat.cell _) (Zf flq) fun w a hM hE=>⟨undef,_,rfl,Env.dummy hE (by decide),M.qTog (mk1:=[_,_]) (mk2:=[_]) hM rfl,trivial⟩
    ·intro a w ux46 D hE hM hG hall
     have d4:=hall 4 (by decide)
     have d6:=hall 6 (by decide)
     have d14:=hall 14 (by decide)
     have d16:=hall 16 (by decide)
     have d19:=hall 19 (by decide)
     have d20:=hall 20 (by decide)
     have d21:=hall 21 (by decide)
     have hM:=((((((hM.togB (pre:=[_,_,_]) d19).togB (pre:=[_,_,_,_]) d20).togB (pre:=[_,_,_,_,_]) d21).togB (pre:=[_,_,_,_,_,_]) d4).togB (pre:=[_,_,_,_,_,_]) d6).togB (pre:=[_,_,_,_,_,_]) d14).togB (pre:=[_,_,_,_,_,_]) d16
     refine Zc hE rfl fun a hE=>Zh ?_
     obtain rfl:=Option.some.inj hl44
     refine Zi ?_
     have hM:=M.fst (l:=[_,_,_]) hM.pull3.pull4.pull5
     exact ⟨hE.sub ⟨rfl,rfl,rfl,rfl,rfl,trivial⟩,hM⟩
   ·skip
    rintro a w ⟨hE,hM⟩
    obtain rfl:=Option.some.inj hF45
    have hq56 : ZX Tryz.prog _ _ (.cell 2 32) _:=ZN hE rfl ZT rfl hM.rawAt2 cq rfl
    have hq57 : ZX Tryz.prog _ _ (.cell 3 33) _:=ZN hE rfl Zv rfl hM.rawAt1 (Flat.len _) rfl
    have hq58 : ZX Tryz.prog _ _ (.cell 4 33) _:=ZN hE rfl Zv rfl hM.rawAt0 (Flat.len _) rfl
    exact wp_ret (zS hE rfl hq56 hq57 hq58 (ZF hE rfl) (ZF hE rfl) ⟨_,rfl,rfl,hM.kept⟩)
def VS (p0 : (List UInt8)) : Option (GCipher × (Vector UInt8 16) × (Vector UInt8 16) × Int × Int) :=
 (XN p0).bind fun r7=>(some (r7.1.Field,r7.1.Box,r7.1.Mix,r7.1.Places,r7.1.Rounds,r7.2.1,r7.2.2.1,r7.2.2.2.1,r7.2.2.2.2) : Option (Int × (Vector UInt8 256) × (Vector (Vector UInt8 4) 4) × (Vector UInt8 16) × Int × (Vector UInt8 16) × (Vector UInt8 16) × Int × Int)).bind fun j15=>some ((⟨j15.1,j15.2.1,j15.2.2.1,j15.2.2.2.1,j15.2.2.2.2.1⟩ : GCipher),j15.2.2.2.2.2.1,j15.2.2.2.2.2.2.1,j15.2.2.2.2.2.2.2.1,j15.2.2.2.2.2.2.2.2)
theorem H0 (w0 : World) (p0 : (List UInt8)) (v0_1 : Value) (hv0_1 : Ro w0 p0 [v0_1]) (r : GCipher × (Vector UInt8 16) × (Vector UInt8 16) × Int × Int) (hF : VS p0 = some r) :
  Calls Tryz.prog 5 [v0_1].toArray w0 (Rt w0 (Value.tuple [(Value.agg (enc r.1).toArray),(Value.agg (enc r.2.1).toArray),(Value.agg (enc r.2.2.1).toArray),vI r.2.2.2.1,vI r.2.2.2.2].toArray)):=by
 refine ce Tryz.func5 ?_
 intro a hE
 have hM:=M.start w0
 unfold VS at hF
 refine Zb (Zs hE hM ZT fun b1 w a hM hE=>Zs hE hM Zv fun b3 w a hM hE=>Zs hE hM Zv fun b5 w a hM hE=>Zc hE rfl fun a hE=>Zc hE rfl fun a hE=>Ze (Zb (Zd hE rfl ?_))); intro a hE
 obtain ⟨r7,e8,hF⟩:=bind_some hF
 refine Zo hE rfl cb28 (UI _ p0 v0_1 (hM.rdo hv0_1) r7 e8) ?_
 rintro v w a ⟨rfl,hK⟩ hE
 have hM:=hM.keep hK
 refine Zd hE rfl fun a hE=>Zx hE Za ld rfl rfl fun a hE=>Zx hE Za ld rfl rfl fun a hE=>Zx hE Za ld rfl rfl fun a hE=>Zx hE Za ld rfl rfl fun a hE=>Zx hE Za ld rfl rfl fun a hE=>Zs hE hM ZT fun b9 w a hM hE=>Zs hE hM Zv fun b11 w a hM hE=>Zs hE hM Zv ?_; intro b13 w a hM hE
 have hM:=hM.pull2
 refine Zg (seg:=cat [[vI r7.1.Field],enc r7.1.Box,enc r7.1.Mix,enc r7.1.Places,[vI r7.1.Rounds]]) (cs':=cat [[vI r7.1.Field],enc r7.1.Box,enc r7.1.Mix,enc r7.1.Places,[vI r7.1.Rounds]]) hE hM Za rfl rfl rfl ZT cq (Nat.le_of_eq ((Nat.zero_add _).trans (Eq.trans cq (Eq.symm cq)))) (Yf (cc1 (Flat.cell (r7.1.Field : Int)) (cc1 (Flat.cell _) (cc1 (Flat.cell _) (cc1 (Flat.cell _) (cc1 (Flat.cell (r7.1.Rounds : Int)) cc0)))))) (Zf (Eq.trans cq (Eq.symm cq))) ?_; intro w a hM hE
 have hM:=hM.pull2
 refine Zg (seg:=enc r7.2.1) (cs':=enc r7.2.1) hE hM Za rfl rfl rfl Zv (Flat.len _) (zle flq) (Flat.cell _) (Zf flq) ?_; intro w a hM hE
 have hM:=hM.pull2
 refine Zg (seg:=enc r7.2.2.1) (cs':=enc r7.2.2.1) hE hM Za rfl rfl rfl Zv (Flat.len _) (zle flq) (Flat.cell _) (Zf flq) fun w a hM hE=>Zc hE rfl fun a hE=>Zc hE rfl fun a hE=>Ze ?_
 obtain ⟨j15,hl16,hF17⟩:=bind_some hF
 refine ZQ (fun a w=>Env 25 a [(2,(ptr b1 0)),(3,(ptr b3 0)),(4,(ptr b5 0)),(5,vI j15.2.2.2.2.2.2.2.1),(6,vI j15.2.2.2.2.2.2.2.2)] ∧ M (Old w0) w0 w [raw b5 (enc j15.2.2.2.2.2.2.1),raw b3 (enc j15.2.2.2.2.2.1),raw b1 (cat [[vI j15.1],enc j15.2.1,enc j15.2.2.1,enc j15.2.2.2.1,[vI j15.2.2.2.2.1]])]) ?_ ?_
 ·skip
  have hM:=hM.pull5.pull5.pull5
  refine Wk (its:=[raw b13 (enc r7.2.2.1),raw b11 (enc r7.2.1),raw b9 (cat [[vI r7.1.Field],enc r7.1.Box,enc r7.1.Mix,enc r7.1.Places,[vI r7.1.Rounds]])]) (mk:=([mkT 5 (raw b1 (cat [[vI 0],enc (Vector.replicate 256 (0 : UInt8)),enc (Vector.replicate 4 (Vector.replicate 4 (0 : UInt8))),enc (Vector.replicate 16 (0 : UInt8)),[vI 0]])) (raw b1 (cat [[vI r7.1.Field],enc r7.1.Box,enc r7.1.Mix,enc r7.1.Places,[vI r7.1.Rounds]])),mkT 6 (raw b3 (enc (Vector.replicate 16 (0 : UInt8)))) (raw b3 (enc r7.2.1)),mkT 7 (raw b5 (enc (Vector.replicate 16 (0 : UInt8)))) (raw b5 (enc r7.2.2.1))] : Mk)) [20,21,22,23,24,30,31,32,5] Xm rfl rfl (by decide) rfl hE (fun u=>M.qT (M.qT (M.qT (M.q0 hM.drew u)))) (qsP (v:=(Value.agg (enc r7.1).toArray)) ?_ (qsP (v:=(Value.agg (enc r7.2.1).toArray)) ?_ (qsP (v:=(Value.agg (enc r7.2.2.1).toArray)) ?_ (qsP (fun z=>Zj z.E Za ld rfl (kr0 rfl)) (qsP (fun z=>Zj z.E Za ld rfl (kr0 rfl)) (qsM (pr:=fun v=>True) ?_ (qsM (pr:=fun v=>True) ?_ (qsM (pr:=fun v=>True) ?_ (qsP (fun z=>U6 z.E Za ld rfl (kr0 rfl)) qs0))))))))) ?_
  ·intro a w ux18 D z
   have hE:=z.E
   have hD : D 0 = false:=z.F
   have hM:=((z.M.togA (pre:=[_,_,_]) (VH (j:=5) (k:=0) z.c rfl rfl rfl hD)).togA (pre:=[_,_,_,_]) (VH (j:=6) (k:=2) z.c rfl rfl rfl hD)).togA (pre:=[_,_,_,_,_]) (VH (j:=7) (k:=2) z.c rfl rfl rfl hD)
   exact Zk hE rfl ZT rfl hM.rawAt2 cq fun a hE=>⟨Kept.refl _ _,_,rfl,hE⟩
  ·intro a w ux18 D z
   have hE:=z.E
   have hD : D 1 = false:=z.F
   have hM:=(z.M.togA (pre:=[_,_,_,_]) (VH (j:=6) (k:=0) z.c rfl rfl rfl hD)).togA (pre:=[_,_,_,_,_]) (VH (j:=7) (k:=3) z.c rfl rfl rfl hD)
   exact Zk hE rfl Zv rfl hM.rawAt1 (Flat.len _) fun a hE=>⟨Kept.refl _ _,_,rfl,hE⟩
  ·intro a w ux18 D z
   have hE:=z.E
   have hD : D 2 = false:=z.F
   have hM:=z.M.togA (pre:=[_,_,_,_,_]) (VH (j:=7) (k:=0) z.c rfl rfl rfl hD)
   exact Zk hE rfl Zv rfl hM.rawAt0 (Flat.len _) fun a hE=>⟨Kept.refl _ _,_,rfl,hE⟩
  ·intro a w ux18 D z
   have hE:=z.E
   have hD : D 5 = false:=z.F
   have hM:=(z.M.togA (pre:=[_,_,_]) hD).pull3
   exact Zg (seg:=cat [[vI r7.1.Field],enc r7.1.Box,enc r7.1.Mix,enc r7.1.Places,[vI r7.1.Rounds]]) (cs':=cat [[vI r7.1.Field],enc r7.1.Box,enc r7.1.Mix,enc r7.1.Places,[vI r7.1.Rounds]]) hE hM Za rfl rfl rfl ZT cq (Nat.le_of_eq ((Nat.zero_add _).trans (Eq.trans cq (Eq.symm cq)))) (Yf (cc1 (Flat.cell (r7.1.Field : Int)) (cc1 (Flat.cell _) (cc1 (Flat.cell _) (cc1 (Flat.cell _) (cc1 (Flat.cell (r7.1.Rounds : Int)) cc0)))))) (Zf (Eq.trans cq (Eq.symm cq))) fun w a hM hE=>⟨undef,_,rfl,Env.dummy hE (by decide),M.qTog (mk1:=[]) (mk2:=[_,_]) hM rfl,trivial⟩
  ·intro a w ux18 D z
   have hE:=z.E
   have hD : D 6 = false:=z.F
   have hM:=(z.M.togA (pre:=[_,_,_,_]) hD).pull4
   exact Zg (seg:=enc r7.2.1) (cs':=enc r7.2.1) hE hM Za rfl rfl rfl Zv (Flat.len _) (zle flq) (Flat.cell _) (Zf flq) fun w a hM hE=>⟨undef,_,rfl,Env.dummy hE (by decide),M.qTog (mk1:=[_]) (mk2:=[_]) hM rfl,trivial⟩
  ·intro a w ux18 D z
   have hE:=z.E
   have hD : D 7 = false:=z.F
   have hM:=(z.M.togA (pre:=[_,_,_,_,_]) hD).pull5
   exact Zg (seg:=enc r7.2.2.1) (cs':=enc r7.2.2.1) hE hM Za rfl rfl rfl Zv (Flat.len _) (zle flq) (Flat.cell _) (Zf flq) fun w a hM hE=>⟨undef,_,rfl,Env.dummy hE (by decide),M.qTog (mk1:=[_,_]) (mk2:=[]) hM rfl,trivial⟩
  ·intro a w ux18 D hE hM hG hall
   have d5:=hall 5 (by decide)
   have d6:=hall 6 (by decide)
   have d7:=hall 7 (by decide)
   have hM:=((hM.togB (pre:=[_,_,_]) d5).togB (pre:=[_,_,_,_]) d6).togB (pre:=[_,_,_,_,_]) d7
   refine Zc hE rfl fun a hE=>Zh ?_
   obtain rfl:=Option.some.inj hl16
   refine Zi ?_
   have hM:=M.fst (l:=[_,_,_]) hM.pull3.pull4.pull5
   exact ⟨hE.sub ⟨rfl,rfl,rfl,rfl,rfl,trivial⟩,hM⟩
 ·skip
  rintro a w ⟨hE,hM⟩
  obtain rfl:=Option.some.inj hF17
  have hq20 : ZX Tryz.prog _ _ (.cell 2 32) _:=ZN hE rfl ZT rfl hM.rawAt2 cq rfl
  have hq21 : ZX Tryz.prog _ _ (.cell 3 33) _:=ZN hE rfl Zv rfl hM.rawAt1 (Flat.len _) rfl
  have hq22 : ZX Tryz.prog _ _ (.cell 4 33) _:=ZN hE rfl Zv rfl hM.rawAt0 (Flat.len _) rfl
  exact wp_ret (zS hE rfl hq20 hq21 hq22 (ZF hE rfl) (ZF hE rfl) ⟨_,rfl,rfl,hM.kept⟩)
def Y2 (p0 : Int) (p1 : Int) (p2 : Int) : Option (Bool) :=
 (if (decide (p1 ≤ p0)) = true then (some (decide (p0 ≤ p2))) else (some false) : Option (Bool)).bind fun j1=>some j1
theorem W5 (w0 : World) (p0 : Int) (p1 : Int) (p2 : Int) (r : Bool) (hF : Y2 p0 p1 p2 = some r) :
  Calls Tryz.prog 38 [vI p0,vI p1,vI p2].toArray w0 (Rt w0 (vT r)):=by
 refine ce Tryz.func38 ?_
 intro a hE
 have hM:=M.start w0
 unfold Y2 at hF
 refine Zb (Zc hE rfl fun a hE=>Ze ?_)
 obtain ⟨j1,hl2,hF3⟩:=bind_some hF
 refine ZQ (fun a w=>Env 15 a [(6,vT j1)] ∧ M (Old w0) w0 w []) ?_ ?_
 ·skip
  refine wp_region_lit (Zd hE rfl fun a hE=>Zd hE rfl fun a hE=>Zl hE rfl rfl rfl fun a hE=>Zd hE rfl ?_); intro a hE
  refine YF (decide (p1 ≤ p0)) (fun hb4=>?_) (fun hb4=>?_)
  ·have hl2:=Zu hl2 hb4
   refine Zj hE (Zm hE rfl (lkb rfl hb4)) (by decide) rfl fun a hE=>Zj hE (Zm hE rfl (lkb rfl hb4)) (by decide) rfl fun a hE=>Yk hE (Zm hE rfl (lkb rfl hb4)) (by decide) rfl rfl rfl fun a hE=>ZW hE (lkb rfl hb4) rfl fun a hE=>Zc hE rfl fun a hE=>Zh ?_
   obtain rfl:=Option.some.inj hl2
   refine Zi ?_
   exact ⟨hE.sub ⟨rfl,trivial⟩,hM⟩
  ·have hl2:=Zt hl2 hb4
   refine Zp hE rfl (lkb rfl hb4) rfl (by decide) fun a hE=>Zp hE rfl (lkb rfl hb4) rfl (by decide) fun a hE=>Zp hE rfl (lkb rfl hb4) rfl (by decide) fun a hE=>Z7 hE (lkb rfl hb4) rfl fun a hE=>Zc hE rfl fun a hE=>Zh ?_
   obtain rfl:=Option.some.inj hl2
   refine Zi ?_
   exact ⟨hE.sub ⟨rfl,trivial⟩,hM⟩
 ·skip
  rintro a w ⟨hE,hM⟩
  obtain rfl:=Option.some.inj hF3
  exact wp_ret (kr1 hE rfl rfl hM.kept)
def UY (p1 : Int) (p2 : Int) (s4 : Int × Int) : Option (Fl (Int × Int) Int) :=
 if (decide (s4.2 ≥ p2)) = true then (((XE s4.2).bind fun _=>(if ((andI (Kh s4.1 s4.2) 1) == 1) = true then ((XE (wr (s4.2 - p2))).bind fun _=>some (Jn s4.1 (K0 p1 (wr (s4.2 - p2))))) else (some s4.1) : Option (Int)).bind fun j13=>some j13 : Option (Int)).bind fun j9=>some (Fl.nx (j9,wr (s4.2 - 1)))) else (some (Fl.ex s4.1))
def UA (p0 : Int) (p1 : Int) (p2 : Int) : Option (Int) :=
 (ZK (UY p1 p2) (p0,15)).bind fun j1=>some j1
theorem Bh (w0 : World) (p0 : Int) (p1 : Int) (p2 : Int) (r : Int) (hF : UA p0 p1 p2 = some r) :
  Calls Tryz.prog 90 [vI p0,vI p1,vI p2].toArray w0 (Rt w0 (vI r)):=by
 refine ce Tryz.func90 ?_
 intro a hE
 have hM:=M.start w0
 unfold UA at hF
 refine Zb (Zc hE rfl fun a hE=>Ze (wp_seq (Zb (Zc hE rfl fun a hE=>Ze ?_))))
 obtain ⟨j1,hl2,hF3⟩:=bind_some hF
 refine ZS (fun a w=>Env 26 a [(0,vI j1)] ∧ M (Old w0) w0 w []) ?_ ?_
 ·skip
  refine wp_block ?_
  refine ZO (fun (s4 : Int × Int) a w=>Env 26 a [(0,vI s4.1),(1,vI p1),(2,vI p2),(7,vI s4.2)] ∧ M (Old w0) w0 w []) hl2 ⟨hE.sub ⟨rfl,rfl,rfl,rfl,trivial⟩,hM⟩ ?_
  rintro s4 a w ⟨hE,hM⟩ o7 hs5 hx6
  unfold UY at hs5
  refine wp_seq (Zb (Zd hE rfl fun a hE=>Zd hE rfl fun a hE=>Zl hE rfl rfl rfl fun a hE=>Ze ?_))
  refine Zr hE rfl ?_ ?_
  ·intro hb8
   have hs5:=Zu hs5 hb8
   refine wp_skip (Zz ?_)
   obtain ⟨j9,hl10,hF11⟩:=bind_some hs5
   refine ZQ (fun a w=>Env 26 a [(0,vI j9),(1,vI p1),(2,vI p2),(7,vI s4.2)] ∧ M (Old w0) w0 w []) ?_ ?_
   ·skip
    refine wp_block (Zb (Zd hE rfl fun a hE=>Zd hE rfl ?_)); intro a hE
    obtain ⟨_,e12,hl10⟩:=bind_some hl10
    have e12:=WS e12
    refine HX hE Za ld rfl rfl (kM _ _ e12) fun a hE=>Zl hE rfl rfl rfl fun a hE=>Zl hE rfl rfl rfl fun a hE=>Ze ?_
    obtain ⟨j13,hl14,hF15⟩:=bind_some hl10
    refine ZS (fun a w=>Env 26 a [(0,vI j13),(1,vI p1),(2,vI p2),(7,vI s4.2)] ∧ M (Old w0) w0 w []) ?_ ?_
    ·skip
     refine Zr hE rfl ?_ ?_
     ·intro hb16
      have hl14:=Zu hl14 hb16
      refine wp_region_lit (Zd hE rfl fun a hE=>Zd hE rfl fun a hE=>Zd hE rfl fun a hE=>Zd hE rfl fun a hE=>Zl hE rfl rfl rfl ?_); intro a hE
      obtain ⟨_,e17,hl14⟩:=bind_some hl14
      have e17:=WS e17
      refine HX hE Za ld rfl rfl (HD _ _ e17) fun a hE=>Zl hE rfl rfl rfl fun a hE=>Zc hE rfl fun a hE=>Zh ?_
      obtain rfl:=Option.some.inj hl14
      refine Zi ?_
      exact ⟨hE.sub ⟨rfl,rfl,rfl,rfl,trivial⟩,hM⟩
     ·intro hb16
      have hl14:=Zt hl14 hb16
      refine wp_skip ?_
      obtain rfl:=Option.some.inj hl14
      refine Zi ?_
      exact ⟨hE.sub ⟨rfl,rfl,rfl,rfl,trivial⟩,hM⟩
    ·skip
     rintro a w ⟨hE,hM⟩
     refine Z9 ?_
     obtain rfl:=Option.some.inj hF15
     refine Zi ?_
     exact ⟨hE.sub ⟨rfl,rfl,rfl,rfl,trivial⟩,hM⟩
   ·skip
    rintro a w ⟨hE,hM⟩
    refine wp_region_lit (Zd hE rfl fun a hE=>Zl hE rfl rfl rfl fun a hE=>Zc hE rfl fun a hE=>Zh (Zi ?_))
    exact ⟨_,(ois hF11),hE.sub ⟨rfl,rfl,rfl,rfl,trivial⟩,hM⟩
  ·intro hb8
   have hs5:=Zt hs5 hb8
   refine wp_exit (Zq (Zq (Yi ?_)))
   obtain rfl:=hx6 _ (ois hs5)
   refine Zi ?_
   exact ⟨hE.sub ⟨rfl,trivial⟩,hM⟩
 ·skip
  rintro a w ⟨hE,hM⟩
  refine Zz (Zb (Zd hE rfl fun a hE=>Zc hE rfl fun a hE=>Ze ?_))
  obtain rfl:=Option.some.inj hF3
  exact wp_ret (kr1 hE rfl rfl hM.kept)
def Vn (p0 : Int) (s8 : Int) (s18 : Int) : Option (Fl Int (Fl Unit Bool)) :=
 (XE s8).bind fun _=>if (decide (s18 < (K0 2 s8))) = true then ((UA p0 s18 s8).bind fun r24=>if (r24 == 0) = true then (some (Fl.ex (Fl.ex false))) else (some (Fl.nx (wr (s18 + 1))))) else (some (Fl.ex (Fl.nx ())))
def Vo (p0 : Int) (s8 : Int) : Option (Fl Int (Fl Unit Bool)) :=
 if (decide (s8 ≤ 4)) = true then ((XE s8).bind fun _=>(ZK (Vn p0 s8) (K0 1 s8)).bind fun j14=>j14.el (fun s17=>some (Fl.nx (wr (s8 + 1)))) (fun r=>some (Fl.ex (Fl.ex r)))) else (some (Fl.ex (Fl.nx ())))
def UJ (p0 : Int) : Option (Bool) :=
 (Y2 p0 256 511).bind fun r1=>if (!r1) = true then (some false) else ((ZK (Vo p0) 1).bind fun j4=>j4.el (fun s7=>some true) (fun r=>some r))
theorem Az (w0 : World) (p0 : Int) (r : Bool) (hF : UJ p0 = some r) :
  Calls Tryz.prog 60 [vI p0].toArray w0 (Rt w0 (vT r)):=by
 refine ce Tryz.func60 ?_
 intro a hE
 have hM:=M.start w0
 unfold UJ at hF
 refine Zb (Zc hE rfl fun a hE=>Ze (wp_seq (Zb (Zd hE rfl ?_)))); intro a hE
 obtain ⟨r1,e2,hF⟩:=bind_some hF
 refine Zo hE rfl yL (W5 _ p0 256 511 r1 e2) ?_
 rintro v w a ⟨rfl,hK⟩ hE
 have hM:=hM.keep hK
 refine TH hE rfl fun a hE=>Ze ?_
 refine Zr hE rfl ?_ ?_
 ·intro hb3
  have hF:=Zu hF hb3
  refine Zb (Zc hE rfl fun a hE=>Ze ?_)
  obtain rfl:=Option.some.inj hF
  exact wp_ret (ZI (kr1 hE rfl rfl hM.kept))
 ·intro hb3
  have hF:=Zt hF hb3
  refine wp_skip (Zz (wp_seq (Zb (Zc hE rfl fun a hE=>Ze ?_))))
  obtain ⟨j4,hl5,hF6⟩:=bind_some hF
  refine ZS (fun a w=>∃ s7 : Unit,j4 = Fl.nx s7 ∧ Env 25 a [] ∧ M (Old w0) w0 w []) ?_ ?_
  ·skip
   refine wp_block ?_
   refine ZO (fun (s8 : Int) a w=>Env 25 a [(0,vI p0),(3,vI s8)] ∧ M (Old w0) w0 w []) hl5 ⟨hE.sub ⟨rfl,rfl,trivial⟩,hM⟩ ?_
   rintro s8 a w ⟨hE,hM⟩ o11 hs9 hx10
   unfold Vo at hs9
   refine wp_seq (Zb (Zd hE rfl fun a hE=>Zl hE rfl rfl rfl fun a hE=>Ze ?_))
   refine Zr hE rfl ?_ ?_
   ·intro hb12
    have hs9:=Zu hs9 hb12
    refine wp_skip (Zz (wp_seq (wp_block (Zb (Zd hE rfl ?_))))); intro a hE
    obtain ⟨_,e13,hs9⟩:=bind_some hs9
    have e13:=WS e13
    refine HX hE Za ld rfl rfl (HD _ _ e13) fun a hE=>Zc hE rfl fun a hE=>Ze ?_
    obtain ⟨j14,hl15,hF16⟩:=bind_some hs9
    refine ZS (fun a w=>∃ s17 : Unit,j14 = Fl.nx s17 ∧ Env 25 a [(0,vI p0),(3,vI s8)] ∧ M (Old w0) w0 w []) ?_ ?_
    ·skip
     refine wp_block ?_
     refine ZO (fun (s18 : Int) a w=>Env 25 a [(0,vI p0),(3,vI s8),(4,vI s18)] ∧ M (Old w0) w0 w []) hl15 ⟨hE.sub ⟨rfl,rfl,rfl,trivial⟩,hM⟩ ?_
     rintro s18 a w ⟨hE,hM⟩ o21 hs19 hx20
     unfold Vn at hs19
     refine wp_seq (Zb (Zd hE rfl fun a hE=>Zd hE rfl ?_)); intro a hE
     obtain ⟨_,e22,hs19⟩:=bind_some hs19
     have e22:=WS e22
     refine HX hE Za ld rfl rfl (HD _ _ e22) fun a hE=>Zl hE rfl rfl rfl fun a hE=>Ze ?_
     refine Zr hE rfl ?_ ?_
     ·intro hb23
      have hs19:=Zu hs19 hb23
      refine wp_skip (Zz (wp_seq (wp_block (Zb (Zd hE rfl fun a hE=>Zd hE rfl fun a hE=>Zd hE rfl ?_))))); intro a hE
      obtain ⟨r24,e25,hs19⟩:=bind_some hs19
      refine Zo hE rfl (cbm Tryz.func90) (Bh _ p0 s18 s8 r24 e25) ?_
      rintro v w a ⟨rfl,hK⟩ hE
      have hM:=hM.keep hK
      refine Zl hE rfl rfl rfl fun a hE=>Ze ?_
      refine Zr hE rfl ?_ ?_
      ·intro hb26
       have hs19:=Zu hs19 hb26
       refine Zb (Zc hE rfl fun a hE=>Ze ?_)
       obtain rfl:=hx20 _ (ois hs19)
       obtain rfl:=hx10 _ (ois hF16)
       obtain rfl:=Option.some.inj hF6
       exact wp_ret (Y8 (ZI (ZI (Y8 (ZI (Y8 (ZI (ZI (Y8 (ZI (ZI (kr1 hE rfl rfl hM.kept))))))))))))
      ·intro hb26
       have hs19:=Zt hs19 hb26
       refine wp_skip (Z9 (Zz (wp_region_lit (Zd hE rfl fun a hE=>Zl hE rfl rfl rfl fun a hE=>Zc hE rfl fun a hE=>Zh (Zi ?_)))))
       exact ⟨_,(ois hs19),hE.sub ⟨rfl,rfl,rfl,trivial⟩,hM⟩
     ·intro hb23
      have hs19:=Zt hs19 hb23
      refine wp_exit (Zq (Zq (Yi ?_)))
      obtain rfl:=hx20 _ (ois hs19)
      refine Zi ?_
      exact ⟨(),rfl,hE.sub ⟨rfl,rfl,trivial⟩,hM⟩
    ·skip
     rintro a w ⟨s17,ht,hE,hM⟩
     subst ht
     have hF16:=Qi hF16
     refine Z9 (Zz (wp_region_lit (Zd hE rfl fun a hE=>Zl hE rfl rfl rfl fun a hE=>Zc hE rfl fun a hE=>Zh (Zi ?_))))
     exact ⟨_,(ois hF16),hE.sub ⟨rfl,rfl,trivial⟩,hM⟩
   ·intro hb12
    have hs9:=Zt hs9 hb12
    refine wp_exit (Zq (Zq (Yi ?_)))
    obtain rfl:=hx10 _ (ois hs9)
    refine Zi ?_
    exact ⟨(),rfl,hE.sub trivial,hM⟩
  ·skip
   rintro a w ⟨s7,ht,hE,hM⟩
   subst ht
   have hF6:=Qi hF6
   refine Zz (Zb (Zc hE rfl fun a hE=>Ze ?_))
   obtain rfl:=Option.some.inj hF6
   exact wp_ret (kr1 hE rfl rfl hM.kept)
def YJ (p0 : (List Bool)) (p1 : Bool) (s5 : Int) : Option (Fl Int (Fl Unit Int)) :=
 if (decide (s5 < (p0.length : Int))) = true then ((idx p0 s5).bind fun x10=>if (p1 == x10) = true then (some (Fl.ex (Fl.ex s5))) else (some (Fl.nx (wr (s5 + 1))))) else (some (Fl.ex (Fl.nx ())))
def Wh (p0 : (List Bool)) (p1 : Bool) : Option (Int) :=
 (ZK (YJ p0 p1) 0).bind fun j1=>j1.el (fun s4=>some (-1)) (fun r=>some r)
theorem Q6 (w0 : World) (p0 : (List Bool)) (v0_1 : Value) (hv0_1 : Ro w0 p0 [v0_1]) (p1 : Bool) (r : Int) (hF : Wh p0 p1 = some r) :
  Calls Tryz.prog 77 [v0_1,vT p1].toArray w0 (Rt w0 (vI r)):=by
 refine ce Tryz.func77 ?_
 intro a hE
 have hM:=M.start w0
 unfold Wh at hF
 refine Zb (Zc hE rfl fun a hE=>Ze (wp_seq (Zb (Zd hE rfl fun a hE=>Wm hE rfl Tryz.underlying82 (hM.rd hv0_1) fun a hE=>Zd hE rfl fun a hE=>Ze ?_))))
 obtain ⟨j1,hl2,hF3⟩:=bind_some hF
 refine ZS (fun a w=>∃ s4 : Unit,j1 = Fl.nx s4 ∧ Env 19 a [] ∧ M (Old w0) w0 w []) ?_ ?_
 ·skip
  refine wp_block ?_
  refine ZO (fun (s5 : Int) a w=>Env 19 a [(0,v0_1),(1,vT p1),(7,(vI (p0.length : Int))),(8,vI s5)] ∧ M (Old w0) w0 w []) hl2 ⟨hE.sub ⟨rfl,rfl,rfl,rfl,trivial⟩,hM⟩ ?_
  rintro s5 a w ⟨hE,hM⟩ o8 hs6 hx7
  unfold YJ at hs6
  refine Zb (Zl hE rfl rfl rfl fun a hE=>Ze (wp_seq ?_))
  refine Zr hE rfl ?_ ?_
  ·intro hb9
   have hs6:=Zu hs6 hb9
   refine wp_skip (Zz (wp_seq (wp_block (Zb (Zd hE rfl fun a hE=>Zc hE rfl fun a hE=>Ze (Zb (Zd hE rfl fun a hE=>Zd hE rfl fun a hE=>Zd hE rfl ?_))))))); intro a hE
   obtain ⟨x10,hi12,hs6⟩:=bix hs6
   refine XM hE rfl rfl Tryz.underlying82 ty4 (hM.rd hv0_1) hi12.1 fun a hE=>ZR (v:=(vT x10)) hE rfl ty4 rfl (Y1 (hM.rd hv0_1) hi12.2) fun a hE=>s_eqT hE Za ld rfl rfl Tryz.underlying4 fun a hE=>Ze ?_
   refine Zr hE rfl ?_ ?_
   ·intro hb13
    have hs6:=Zu hs6 hb13
    refine Zb (Zd hE rfl fun a hE=>Zc hE rfl fun a hE=>Ze ?_)
    obtain rfl:=hx7 _ (ois hs6)
    obtain rfl:=Option.some.inj hF3
    exact wp_ret (Y8 (ZI (ZI (Y8 (ZI (ZI (kr1 hE rfl rfl hM.kept)))))))
   ·intro hb13
    have hs6:=Zt hs6 hb13
    refine wp_skip (Z9 (Zz (wp_region_lit (Zl hE rfl rfl rfl fun a hE=>Zd hE rfl fun a hE=>Zh (Zi ?_)))))
    exact ⟨_,(ois hs6),hE.sub ⟨rfl,rfl,rfl,rfl,trivial⟩,hM⟩
  ·intro hb9
   have hs6:=Zt hs6 hb9
   refine wp_exit (Zq (Zq (Yi ?_)))
   obtain rfl:=hx7 _ (ois hs6)
   refine Zi ?_
   exact ⟨(),rfl,hE.sub trivial,hM⟩
 ·skip
  rintro a w ⟨s4,ht,hE,hM⟩
  subst ht
  have hF3:=Qi hF3
  refine Zz (Zb (Zc hE rfl fun a hE=>Ze ?_))
  obtain rfl:=Option.some.inj hF3
  exact wp_ret (kr1 hE rfl rfl hM.kept)
def Yt (p0 : (List Bool)) (p1 : Bool) : Option (Bool) :=
 (Wh p0 p1).bind fun r1=>some (decide (r1 ≥ 0))
theorem Up (w0 : World) (p0 : (List Bool)) (v0_1 : Value) (hv0_1 : Ro w0 p0 [v0_1]) (p1 : Bool) (r : Bool) (hF : Yt p0 p1 = some r) :
  Calls Tryz.prog 53 [v0_1,vT p1].toArray w0 (Rt w0 (vT r)):=by
 refine ce Tryz.func53 ?_
 intro a hE
 have hM:=M.start w0
 unfold Yt at hF
 refine Zb (Zc hE rfl fun a hE=>Ze (Zb (Zd hE rfl fun a hE=>Zd hE rfl ?_))); intro a hE
 obtain ⟨r1,e2,hF⟩:=bind_some hF
 refine Zo hE rfl (cbm Tryz.func77) (Q6 _ p0 v0_1 (hM.rdo hv0_1) p1 r1 e2) ?_
 rintro v w a ⟨rfl,hK⟩ hE
 have hM:=hM.keep hK
 refine Zl hE rfl rfl rfl fun a hE=>Zc hE rfl fun a hE=>Ze ?_
 obtain rfl:=Option.some.inj hF
 exact wp_ret (kr1 hE rfl rfl hM.kept)
def Xh (p0 : (Vector UInt8 256)) (s8 : (Vector Bool 256) × Int) : Option (Fl ((Vector Bool 256) × Int) (Vector Bool 256)) :=
 if (decide (s8.2 < 256)) = true then ((ZB p0 s8.2).bind fun x13=>(ZB s8.1 (bI x13)).bind fun x17=>some (Fl.nx ((s8.1.setIfInBounds ((bI x13)).toNat true),wr (s8.2 + 1)))) else (some (Fl.ex s8.1))
def Wv (p0 : (Vector UInt8 256)) : Option (Bool) :=
 (ZK (Xh p0) ((Vector.replicate 256 false),0)).bind fun j5=>(slc j5.toList (0 : Int) (256 : Int)).bind fun l20=>(Yt l20 false).bind fun r23=>some (!r23)
theorem K8 (w0 : World) (p0 : (Vector UInt8 256)) (r : Bool) (hF : Wv p0 = some r) :
  Calls Tryz.prog 61 [(Value.agg (enc p0).toArray)].toArray w0 (Rt w0 (vT r)):=by
 refine ce Tryz.func61 ?_
 intro a hE
 have hM:=M.start w0
 unfold Wv at hF
 refine Zb (ZY (cs:=enc p0) hE hM Za ld rfl rfl fun b1 w a hM hE=>Zc hE rfl fun a hE=>Ze (Zb (Z8 (parts:=[]) (vs:=[]) (cs:=enc (Vector.replicate 256 false)) hE Za ld rfl rfl Qm rfl ty4 ZZ fun a hE=>Zs hE hM Qm fun b3 w a hM hE=>Zg (seg:=enc (Vector.replicate 256 false)) (cs':=enc (Vector.replicate 256 false)) hE hM Za rfl rfl rfl Qm (Flat.len _) (zle flq) (Flat.cell _) (Zf flq) fun w a hM hE=>Ze (wp_seq (Zb (Zk hE rfl YN rfl hM.rawAt1 (Flat.len _) fun a hE=>Zd hE rfl fun a hE=>Ze ?_))))))
 obtain ⟨j5,hl6,hF7⟩:=bind_some hF
 refine ZS (fun a w=>Env 17 a [(3,(ptr b3 0))] ∧ M (Old w0) w0 w [raw b3 (enc j5)]) ?_ ?_
 ·skip
  refine wp_block ?_
  have hM:=M.fst (l:=[_]) hM
  refine ZO (fun (s8 : (Vector Bool 256) × Int) a w=>Env 17 a [(3,(ptr b3 0)),(7,(Value.agg (enc p0).toArray)),(8,vI s8.2)] ∧ M (Old w0) w0 w [raw b3 (enc s8.1)]) hl6 ⟨hE.sub ⟨rfl,rfl,rfl,trivial⟩,hM⟩ ?_
  rintro s8 a w ⟨hE,hM⟩ o11 hs9 hx10
  unfold Xh at hs9
  refine Zb (Zl hE rfl rfl rfl fun a hE=>Ze (wp_seq ?_))
  refine Zr hE rfl ?_ ?_
  ·intro hb12
   have hs9:=Zu hs9 hb12
   refine wp_skip (Zz (wp_seq (wp_block (Zb ?_))))
   obtain ⟨x13,hi15,hs9⟩:=bvx hs9
   refine QD hE Za ld rfl rfl Tryz.underlying25 ty5 rfl rfl hi15 rfl fun a hE=>Zc hE rfl fun a hE=>Ze (wp_region_lit (Zd hE rfl ?_)); intro a hE
   obtain ⟨x17,hi16,hs9⟩:=bvx hs9
   refine Zw hE rfl rfl Tryz.underlying74 ty4 hi16.1 fun a hE=>Zg (seg:=[vT true]) (cs':=enc (s8.1.setIfInBounds ((bI x13)).toNat true)) hE hM Za rfl rfl rfl ty4 rfl (ZE (v:=s8.1) (x:=true) hi16.1) (Flat.cell (true : Bool)) (Zy (v:=s8.1) (x:=true) hi16.1) fun w a hM hE=>Zh (Z9 (Zz (wp_region_lit (Zl hE rfl rfl rfl fun a hE=>Zd hE rfl fun a hE=>Zh (Zi ?_)))))
   exact ⟨_,(ois hs9),hE.sub ⟨rfl,rfl,rfl,trivial⟩,hM⟩
  ·intro hb12
   have hs9:=Zt hs9 hb12
   refine wp_exit (Zq (Zq (Yi ?_)))
   obtain rfl:=hx10 _ (ois hs9)
   refine Zi ?_
   exact ⟨hE.sub ⟨rfl,trivial⟩,hM⟩
 ·skip
  rintro a w ⟨hE,hM⟩
  refine Zz (Zb ?_)
  obtain ⟨l20,e21,hF7⟩:=bind_some hF7
  have hb22:=BA e21 -- ^
  refine Kw (N:=256) hE Za ld rfl rfl rfl rfl rfl Tryz.underlying74 ty4 hb22 ?_; intro a hE
  obtain ⟨r23,e24,hF7⟩:=bind_some hF7
  refine Zo hE rfl (cbm Tryz.func53) (Up _ l20 (Vh (.slice (some ⟨b3,0,none⟩) 256 256) ((0 : Int)).toNat ((256 : Int)).toNat 1) (Hn (At.sat hM.rawAt0 (by simp) (by decide)) e21) false r23 e24) ?_
  rintro v w a ⟨rfl,hK⟩ hE
  have hM:=hM.keep hK
  refine TH hE rfl fun a hE=>Zc hE rfl fun a hE=>Ze ?_
  obtain rfl:=Option.some.inj hF7
  exact wp_ret (kr1 hE rfl rfl hM.kept)
def Ti (s8 : (Vector (Vector UInt8 4) 4) × Int) : Option (Fl ((Vector (Vector UInt8 4) 4) × Int) (Vector (Vector UInt8 4) 4)) :=
 if (decide (s8.2 < 4)) = true then ((ZB s8.1 s8.2).bind fun x14=>(ZB x14 s8.2).bind fun x17=>some (Fl.nx ((s8.1.setIfInBounds (s8.2).toNat (x14.setIfInBounds (s8.2).toNat 1)),wr (s8.2 + 1)))) else (some (Fl.ex s8.1))
def VF : Option ((Vector (Vector UInt8 4) 4)) :=
 (ZK (Ti) ((Vector.replicate 4 (Vector.replicate 4 (0 : UInt8))),0)).bind fun j5=>some j5
theorem Hs (w0 : World)  (r : (Vector (Vector UInt8 4) 4)) (hF : VF  = some r) :
  Calls Tryz.prog 92 [].toArray w0 (Rt w0 (Value.agg (enc r).toArray)):=by
 refine ce Tryz.func92 ?_
 intro a hE
 have hM:=M.start w0
 unfold VF at hF
 refine Zb (Zs hE hM XV fun b1 w a hM hE=>Ze (Zb (Z8 (parts:=[]) (vs:=[]) (cs:=enc (Vector.replicate 4 (Vector.replicate 4 (0 : UInt8)))) hE Za ld rfl rfl XV rfl Yq ZZ fun a hE=>Zs hE hM XV fun b3 w a hM hE=>Zg (seg:=enc (Vector.replicate 4 (Vector.replicate 4 (0 : UInt8)))) (cs':=enc (Vector.replicate 4 (Vector.replicate 4 (0 : UInt8)))) hE hM Za rfl rfl rfl XV (Flat.len _) (zle flq) (Flat.cell _) (Zf flq) fun w a hM hE=>Ze (wp_seq (Zb (Zd hE rfl fun a hE=>Ze ?_))))))
 obtain ⟨j5,hl6,hF7⟩:=bind_some hF
 refine ZS (fun a w=>Env 13 a [(0,(ptr b1 0)),(1,(ptr b3 0))] ∧ M (Old w0) w0 w [raw b3 (enc j5),raw b1 (enc (Vector.replicate 4 (Vector.replicate 4 (0 : UInt8))))]) ?_ ?_
 ·skip
  refine wp_block ?_
  refine ZO (fun (s8 : (Vector (Vector UInt8 4) 4) × Int) a w=>Env 13 a [(0,(ptr b1 0)),(1,(ptr b3 0)),(4,vI s8.2)] ∧ M (Old w0) w0 w [raw b3 (enc s8.1),raw b1 (enc (Vector.replicate 4 (Vector.replicate 4 (0 : UInt8))))]) hl6 ⟨hE.sub ⟨rfl,rfl,rfl,trivial⟩,hM⟩ ?_
  rintro s8 a w ⟨hE,hM⟩ o11 hs9 hx10
  unfold Ti at hs9
  refine Zb (Zl hE rfl rfl rfl fun a hE=>Ze (wp_seq ?_))
  refine Zr hE rfl ?_ ?_
  ·intro hb12
   have hs9:=Zu hs9 hb12
   refine wp_skip (Zz (wp_seq (wp_block (Zb (Zd hE rfl fun a hE=>Zc hE rfl fun a hE=>Ze (wp_region_lit (Zd hE rfl fun a hE=>Zd hE rfl ?_))))))); intro a hE
   obtain ⟨x14,hi13,hs9⟩:=bvx hs9
   refine Zw hE rfl rfl Tryz.underlying28 Yq hi13.1 ?_; intro a hE
   obtain ⟨x17,hi16,hs9⟩:=bvx hs9
   refine Zw hE rfl rfl Tryz.underlying26 ty5 hi16.1 fun a hE=>Zg (seg:=[vB 1]) (cs':=enc (s8.1.setIfInBounds (s8.2).toNat (x14.setIfInBounds (s8.2).toNat 1))) hE hM Za rfl rfl rfl ty5 rfl (XJ (o':=0 + (s8.2).toNat * 1) hi13 (ZE (v:=x14) (x:=1) hi16.1) (by first | omega | (simp only [Flat.n] <;> omega))) (Flat.cell (1 : UInt8)) (Y4 (o':=0 + (s8.2).toNat * 1) hi13 (ZE (v:=x14) (x:=1) hi16.1) (Zy (v:=x14) (x:=1) hi16.1) (by first | omega | (simp only [Flat.n] <;> omega))) fun w a hM hE=>Zh (Z9 (Zz (wp_region_lit (Zl hE rfl rfl rfl fun a hE=>Zd hE rfl fun a hE=>Zh (Zi ?_)))))
   exact ⟨_,(ois hs9),hE.sub ⟨rfl,rfl,rfl,trivial⟩,hM⟩
  ·intro hb12
   have hs9:=Zt hs9 hb12
   refine wp_exit (Zq (Zq (Yi ?_)))
   obtain rfl:=hx10 _ (ois hs9)
   refine Zi ?_
   exact ⟨hE.sub ⟨rfl,rfl,trivial⟩,hM⟩
 ·skip
  rintro a w ⟨hE,hM⟩
  refine Zz (Zb (Zk hE rfl XV rfl hM.rawAt0 (Flat.len _) ?_)); intro a hE
  have hM:=hM.pull1
  refine Zg (seg:=enc j5) (cs':=enc j5) hE hM Za rfl rfl rfl XV (Flat.len _) (zle flq) (Flat.cell _) (Zf flq) fun w a hM hE=>Ze ?_
  obtain rfl:=Option.some.inj hF7
  have hq20 : ZX Tryz.prog _ _ (.cell 0 28) _:=ZN hE rfl XV rfl hM.rawAt0 (Flat.len _) rfl
  exact wp_ret (Z2 hE rfl hq20 ⟨_,rfl,rfl,hM.kept⟩)
def XS (p1 : UInt8) (p2 : UInt8) (s4 : Int × Int) : Option (Fl (Int × Int) Int) :=
 if (decide (s4.2 < 8)) = true then (((XE s4.2).bind fun _=>(if (((B8 p2 s4.2) &&& 1) == 1) = true then ((XE s4.2).bind fun _=>some (Jn s4.1 (K0 (bI p1) s4.2))) else (some s4.1) : Option (Int)).bind fun j13=>some j13 : Option (Int)).bind fun j9=>some (Fl.nx (j9,wr (s4.2 + 1)))) else (some (Fl.ex s4.1))
def Yd (p0 : Int) (p1 : UInt8) (p2 : UInt8) : Option (UInt8) :=
 (ZK (XS p1 p2) (0,0)).bind fun j1=>(UA j1 p0 8).bind fun r22=>some (ZH r22)
theorem Y3 (w0 : World) (p0 : Int) (p1 : UInt8) (p2 : UInt8) (r : UInt8) (hF : Yd p0 p1 p2 = some r) :
  Calls Tryz.prog 93 [vI p0,vB p1,vB p2].toArray w0 (Rt w0 (vB r)):=by
 refine ce Tryz.func93 ?_
 intro a hE
 have hM:=M.start w0
 unfold Yd at hF
 refine Zb (Zc hE rfl fun a hE=>Ze (Zb (Zc hE rfl fun a hE=>Ze (wp_seq (Zb (Zd hE rfl fun a hE=>Ze ?_))))))
 obtain ⟨j1,hl2,hF3⟩:=bind_some hF
 refine ZS (fun a w=>Env 28 a [(0,vI p0),(7,vI j1)] ∧ M (Old w0) w0 w []) ?_ ?_
 ·skip
  refine wp_block ?_
  refine ZO (fun (s4 : Int × Int) a w=>Env 28 a [(0,vI p0),(1,vB p1),(2,vB p2),(7,vI s4.1),(9,vI s4.2)] ∧ M (Old w0) w0 w []) hl2 ⟨hE.sub ⟨rfl,rfl,rfl,rfl,rfl,trivial⟩,hM⟩ ?_
  rintro s4 a w ⟨hE,hM⟩ o7 hs5 hx6
  unfold XS at hs5
  refine Zb (Zl hE rfl rfl rfl fun a hE=>Ze (wp_seq ?_))
  refine Zr hE rfl ?_ ?_
  ·intro hb8
   have hs5:=Zu hs5 hb8
   refine wp_skip (Zz ?_)
   obtain ⟨j9,hl10,hF11⟩:=bind_some hs5
   refine ZQ (fun a w=>Env 28 a [(0,vI p0),(1,vB p1),(2,vB p2),(7,vI j9),(9,vI s4.2)] ∧ M (Old w0) w0 w []) ?_ ?_
   ·skip
    refine wp_block (Zb (Zd hE rfl fun a hE=>Zc hE rfl fun a hE=>Ze (Zb (Zd hE rfl fun a hE=>Zd hE rfl ?_)))); intro a hE
    obtain ⟨_,e12,hl10⟩:=bind_some hl10
    have e12:=WS e12
    refine HX hE Za ld rfl rfl (k8 _ _ e12) fun a hE=>Zl hE rfl rfl (bB_and (B8 p2 s4.2) 1) fun a hE=>Zl hE rfl rfl (Al ((B8 p2 s4.2) &&& 1) 1) fun a hE=>Ze ?_
    obtain ⟨j13,hl14,hF15⟩:=bind_some hl10
    refine ZS (fun a w=>Env 28 a [(0,vI p0),(1,vB p1),(2,vB p2),(7,vI j13),(9,vI s4.2)] ∧ M (Old w0) w0 w []) ?_ ?_
    ·skip
     refine Zr hE rfl ?_ ?_
     ·intro hb16
      have hl14:=Zu hl14 hb16
      refine wp_region_lit (Zd hE rfl fun a hE=>Zd hE rfl fun a hE=>Ku hE Za ld rfl Tryz.underlying5 Tryz.underlying2 fun a hE=>Zd hE rfl ?_); intro a hE
      obtain ⟨_,e17,hl14⟩:=bind_some hl14
      have e17:=WS e17
      refine HX hE Za ld rfl rfl (HD _ _ e17) fun a hE=>Zl hE rfl rfl rfl fun a hE=>Zc hE rfl fun a hE=>Zh ?_
      obtain rfl:=Option.some.inj hl14
      refine Zi ?_
      exact ⟨hE.sub ⟨rfl,rfl,rfl,rfl,rfl,trivial⟩,hM⟩
     ·intro hb16
      have hl14:=Zt hl14 hb16
      refine wp_skip ?_
      obtain rfl:=Option.some.inj hl14
      refine Zi ?_
      exact ⟨hE.sub ⟨rfl,rfl,rfl,rfl,rfl,trivial⟩,hM⟩
    ·skip
     rintro a w ⟨hE,hM⟩
     refine Z9 ?_
     obtain rfl:=Option.some.inj hF15
     refine Zi ?_
     exact ⟨hE.sub ⟨rfl,rfl,rfl,rfl,rfl,trivial⟩,hM⟩
   ·skip
    rintro a w ⟨hE,hM⟩
    refine wp_region_lit (Zl hE rfl rfl rfl fun a hE=>Zd hE rfl fun a hE=>Zh (Zi ?_))
    exact ⟨_,(ois hF11),hE.sub ⟨rfl,rfl,rfl,rfl,rfl,trivial⟩,hM⟩
  ·intro hb8
   have hs5:=Zt hs5 hb8
   refine wp_exit (Zq (Zq (Yi ?_)))
   obtain rfl:=hx6 _ (ois hs5)
   refine Zi ?_
   exact ⟨hE.sub ⟨rfl,rfl,trivial⟩,hM⟩
 ·skip
  rintro a w ⟨hE,hM⟩
  refine Zz (Zb (Zd hE rfl fun a hE=>Zd hE rfl ?_)); intro a hE
  obtain ⟨r22,e23,hF3⟩:=bind_some hF3
  refine Zo hE rfl (cbm Tryz.func90) (Bh _ j1 p0 8 r22 e23) ?_
  rintro v w a ⟨rfl,hK⟩ hE
  have hM:=hM.keep hK
  refine YX hE Za ld rfl Tryz.underlying2 Tryz.underlying5 fun a hE=>Zc hE rfl fun a hE=>Ze ?_
  obtain rfl:=Option.some.inj hF3
  exact wp_ret (kr1 hE rfl rfl hM.kept)
def VK (p0 : Int) (s4 : UInt8 × Int × UInt8) : Option (Fl (UInt8 × Int × UInt8) UInt8) :=
 if (decide (s4.2.1 > 0)) = true then (((if ((Int.tmod s4.2.1 2) == 1) = true then ((Yd p0 s4.2.2 s4.1).bind fun r16=>some r16) else (some s4.2.2) : Option (UInt8)).bind fun j12=>(Yd p0 s4.1 s4.1).bind fun r20=>some (r20,j12) : Option (UInt8 × UInt8)).bind fun j9=>some (Fl.nx (j9.1,wr (Int.tdiv s4.2.1 2),j9.2))) else (some (Fl.ex s4.2.2))
def Wf (p0 : Int) (p1 : UInt8) (p2 : Int) : Option (UInt8) :=
 (ZK (VK p0) (p1,p2,1)).bind fun j1=>some j1
theorem JU (w0 : World) (p0 : Int) (p1 : UInt8) (p2 : Int) (r : UInt8) (hF : Wf p0 p1 p2 = some r) :
  Calls Tryz.prog 98 [vI p0,vB p1,vI p2].toArray w0 (Rt w0 (vB r)):=by
 refine ce Tryz.func98 ?_
 intro a hE
 have hM:=M.start w0
 unfold Wf at hF
 refine Zb (Zc hE rfl fun a hE=>Ze (Zb (Zc hE rfl fun a hE=>Ze ?_)))
 obtain ⟨j1,hl2,hF3⟩:=bind_some hF
 refine ZQ (fun a w=>Env 24 a [(7,vB j1)] ∧ M (Old w0) w0 w []) ?_ ?_
 ·skip
  refine wp_block ?_
  refine ZO (fun (s4 : UInt8 × Int × UInt8) a w=>Env 24 a [(0,vI p0),(1,vB s4.1),(2,vI s4.2.1),(7,vB s4.2.2)] ∧ M (Old w0) w0 w []) hl2 ⟨hE.sub ⟨rfl,rfl,rfl,rfl,trivial⟩,hM⟩ ?_
  rintro s4 a w ⟨hE,hM⟩ o7 hs5 hx6
  unfold VK at hs5
  refine wp_seq (Zb (Zd hE rfl fun a hE=>Zl hE rfl rfl rfl fun a hE=>Ze ?_))
  refine Zr hE rfl ?_ ?_
  ·intro hb8
   have hs5:=Zu hs5 hb8
   refine wp_skip (Zz ?_)
   obtain ⟨j9,hl10,hF11⟩:=bind_some hs5
   refine ZQ (fun a w=>Env 24 a [(0,vI p0),(1,vB j9.1),(2,vI s4.2.1),(7,vB j9.2)] ∧ M (Old w0) w0 w []) ?_ ?_
   ·skip
    refine wp_block ?_
    obtain ⟨j12,hl13,hF14⟩:=bind_some hl10
    refine ZQ (fun a w=>Env 24 a [(0,vI p0),(1,vB s4.1),(2,vI s4.2.1),(7,vB j12)] ∧ M (Old w0) w0 w []) ?_ ?_
    ·skip
     refine Zb (Zd hE rfl fun a hE=>Zl hE rfl rfl (KA _ _ (by decide)) fun a hE=>Zl hE rfl rfl rfl fun a hE=>Ze ?_)
     refine Zr hE rfl ?_ ?_
     ·intro hb15
      have hl13:=Zu hl13 hb15
      refine wp_region_lit (Zd hE rfl fun a hE=>Zd hE rfl fun a hE=>Zd hE rfl ?_); intro a hE
      obtain ⟨r16,e17,hl13⟩:=bind_some hl13
      refine Zo hE rfl yo (Y3 _ p0 s4.2.2 s4.1 r16 e17) ?_
      rintro v w a ⟨rfl,hK⟩ hE
      have hM:=hM.keep hK
      refine Zc hE rfl fun a hE=>Zh ?_
      obtain rfl:=Option.some.inj hl13
      refine Zi ?_
      exact ⟨hE.sub ⟨rfl,rfl,rfl,rfl,trivial⟩,hM⟩
     ·intro hb15
      have hl13:=Zt hl13 hb15
      refine wp_skip ?_
      obtain rfl:=Option.some.inj hl13
      refine Zi ?_
      exact ⟨hE.sub ⟨rfl,rfl,rfl,rfl,trivial⟩,hM⟩
    ·skip
     rintro a w ⟨hE,hM⟩
     refine wp_region_lit (Zd hE rfl fun a hE=>Zd hE rfl fun a hE=>Zd hE rfl ?_); intro a hE
     obtain ⟨r20,e21,hF14⟩:=bind_some hF14
     refine Zo hE rfl yo (Y3 _ p0 s4.1 s4.1 r20 e21) ?_
     rintro v w a ⟨rfl,hK⟩ hE
     have hM:=hM.keep hK
     refine Zc hE rfl fun a hE=>Zh (Z9 ?_)
     obtain rfl:=Option.some.inj hF14
     refine Zi ?_
     exact ⟨hE.sub ⟨rfl,rfl,rfl,rfl,trivial⟩,hM⟩
   ·skip
    rintro a w ⟨hE,hM⟩
    refine wp_region_lit (Zd hE rfl fun a hE=>Zl hE rfl rfl (JE _ _ (by decide)) fun a hE=>Zc hE rfl fun a hE=>Zh (Zi ?_))
    exact ⟨_,(ois hF11),hE.sub ⟨rfl,rfl,rfl,rfl,trivial⟩,hM⟩
  ·intro hb8
   have hs5:=Zt hs5 hb8
   refine wp_exit (Zq (Zq (Yi ?_)))
   obtain rfl:=hx6 _ (ois hs5)
   refine Zi ?_
   exact ⟨hE.sub ⟨rfl,trivial⟩,hM⟩
 ·skip
  rintro a w ⟨hE,hM⟩
  refine Zb (Zd hE rfl fun a hE=>Zc hE rfl fun a hE=>Ze ?_)
  obtain rfl:=Option.some.inj hF3
  exact wp_ret (kr1 hE rfl rfl hM.kept)
def Yo (p0 : Int) (p1 : UInt8) : Option (UInt8) :=
 (Wf p0 p1 254).bind fun r1=>some r1
end

end Go.Proofs.YtkajmkegelcfjaaGreat
