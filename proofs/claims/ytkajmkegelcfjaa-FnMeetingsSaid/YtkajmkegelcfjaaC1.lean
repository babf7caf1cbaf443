/- The walk of what the law reaches: contracts of functions. -/
import Derived.Test.YtkajmkegelcfjaaK2
import Derived.Test.YtkajmkegelcfjaaProg
set_option linter.unusedVariables false
set_option linter.unusedSimpArgs false
set_option maxRecDepth 20000
set_option maxHeartbeats 400000
namespace Go.Proofs.Ytkajmkegelcfjaa
open Go
open Flat (enc)
noncomputable section
structure GCipher where
 Field : Int
 Box : (Vector UInt8 256)
 Mix : (Vector (Vector UInt8 4) 4)
 Places : (Vector UInt8 16)
 Rounds : Int
 deriving DecidableEq,Inhabited
instance : Dat GCipher:=⟨fun x=>Dat.bd (α:=Int × (Vector UInt8 256) × (Vector (Vector UInt8 4) 4) × (Vector UInt8 16) × Int) (x.Field,x.Box,x.Mix,x.Places,x.Rounds),fun x=>Dat.sz (α:=Int × (Vector UInt8 256) × (Vector (Vector UInt8 4) 4) × (Vector UInt8 16) × Int) (x.Field,x.Box,x.Mix,x.Places,x.Rounds) + 1⟩
instance : Flat GCipher where
 n:=290
 enc x:=cat [enc x.Field,enc x.Box,enc x.Mix,enc x.Places,enc x.Rounds]
 len x:=Zl (cl1 (Flat.len _) (cl1 (Flat.len _) (cl1 (Flat.len _) (cl1 (Flat.len _) (cl1 (Flat.len _) cl0)))))
 cell x:=Yq (cc1 (Flat.cell _) (cc1 (Flat.cell _) (cc1 (Flat.cell _) (cc1 (Flat.cell _) (cc1 (Flat.cell _) cc0)))))
structure Gl01Source where
 code : (List UInt8)
 at0 : Int
 hash : Int
 deriving DecidableEq,Inhabited
instance : Dat Gl01Source:=⟨fun x=>Dat.bd (α:=(List UInt8) × Int × Int) (x.code,x.at0,x.hash),fun x=>Dat.sz (α:=(List UInt8) × Int × Int) (x.code,x.at0,x.hash) + 1⟩
instance : Rep Gl01Source:=repIso (α:=(List UInt8) × Int × Int) (fun x=>(x.code,x.at0,x.hash))
theorem HS {S : Nat → Prop} {w : World} {x : Gl01Source} {cs : List Value} {fp : List Nat} (h : Rep.sat S w x cs fp) : ∃ (u1 : Value),∃ (g1 : List Nat),cs = cat [[u1],enc x.at0,enc x.hash] ∧ fp = g1 ∧ Rep.sat S w x.code [u1] g1:=by
 obtain ⟨c0,d0,f0,q0,rfl,rfl,h0,hr0⟩:=h
 obtain ⟨u1,rfl⟩:=Ah h0
 obtain ⟨c1,d1,f1,q1,rfl,rfl,h1,hr1⟩:=hr0
 obtain ⟨rfl,rfl⟩:=h1
 obtain ⟨rfl,rfl⟩:=hr1
 exact ⟨u1,_,rfl,by simp,h0⟩
theorem yW {S : Nat → Prop} {w : World} {x : Gl01Source} {u1 : Value} {fp : List Nat} (h : Rep.sat S w x (cat [[u1],enc x.at0,enc x.hash]) fp) : ∃ (g1 : List Nat),fp = g1 ∧ Rep.sat S w x.code [u1] g1:=by
 obtain ⟨w1,g1,hc,hf,s1⟩:=HS h
 obtain ⟨e1,k1⟩:=TR hc rfl
 obtain ⟨e2,k2⟩:=TR k1 rfl
 obtain rfl:=(List.cons.inj e1).1
 exact ⟨g1,hf,s1⟩
theorem jE {S : Nat → Prop} {w : World} {x : Gl01Source} {cs : List Value} (h : Rep.sat S w x cs []) : ∃ u1,cs = cat [[u1],enc x.at0,enc x.hash] ∧ Rep.sat S w x.code [u1] []:=by
 obtain ⟨c0,d0,f0,g0,rfl,hf0,h0,hr0⟩:=h
 obtain ⟨rfl,rfl⟩:=List.append_eq_nil_iff.1 hf0.symm
 obtain ⟨u1,rfl⟩:=Ah h0
 obtain ⟨c1,d1,f1,g1,rfl,hf1,h1,hr1⟩:=hr0
 obtain ⟨rfl,rfl⟩:=List.append_eq_nil_iff.1 hf1.symm
 obtain ⟨rfl,_⟩:=h1
 obtain ⟨rfl,_⟩:=hr1
 exact ⟨u1,rfl,h0⟩
theorem jD {S : Nat → Prop} {w : World} {x : Gl01Source} {u1 : Value} {g1 fp : List Nat} (h1 : Rep.sat S w x.code [u1] g1) (hfp : fp = g1) : Rep.sat S w x (cat [[u1],enc x.at0,enc x.hash]) fp:=by
 rw [hfp]
 refine ⟨_,_,g1,[],rfl,(by simp),h1,?_⟩
 refine ⟨_,_,[],[],rfl,(by simp),⟨rfl,rfl⟩,?_⟩
 exact ⟨rfl,rfl⟩
structure Gengine where
 box : (Vector UInt8 256)
 backBox : (Vector UInt8 256)
 places : (Vector UInt8 16)
 backPlaces : (Vector UInt8 16)
 mixer : (Ref (Vector (Vector (Vector UInt8 256) 4) 4))
 backMixer : (Ref (Vector (Vector (Vector UInt8 256) 4) 4))
 rounds : Int
 deriving DecidableEq,Inhabited
instance : Dat Gengine:=⟨fun x=>Dat.bd (α:=(Vector UInt8 256) × (Vector UInt8 256) × (Vector UInt8 16) × (Vector UInt8 16) × (Ref (Vector (Vector (Vector UInt8 256) 4) 4)) × (Ref (Vector (Vector (Vector UInt8 256) 4) 4)) × Int) (x.box,x.backBox,x.places,x.backPlaces,x.mixer,x.backMixer,x.rounds),fun x=>Dat.sz (α:=(Vector UInt8 256) × (Vector UInt8 256) × (Vector UInt8 16) × (Vector UInt8 16) × (Ref (Vector (Vector (Vector UInt8 256) 4) 4)) × (Ref (Vector (Vector (Vector UInt8 256) 4) 4)) × Int) (x.box,x.backBox,x.places,x.backPlaces,x.mixer,x.backMixer,x.rounds) + 1⟩
instance : Rep Gengine:=repIso (α:=(Vector UInt8 256) × (Vector UInt8 256) × (Vector UInt8 16) × (Vector UInt8 16) × (Ref (Vector (Vector (Vector UInt8 256) 4) 4)) × (Ref (Vector (Vector (Vector UInt8 256) 4) 4)) × Int) (fun x=>(x.box,x.backBox,x.places,x.backPlaces,x.mixer,x.backMixer,x.rounds))
theorem AH {S : Nat → Prop} {w : World} {x : Gengine} {cs : List Value} {fp : List Nat} (h : Rep.sat S w x cs fp) : ∃ (u1 : Value) (u2 : Value),∃ (g1 : List Nat) (g2 : List Nat),cs = cat [enc x.box,enc x.backBox,enc x.places,enc x.backPlaces,[u1],[u2],enc x.rounds] ∧ fp = (g1 ++ g2) ∧ Rep.sat S w x.mixer [u1] g1 ∧ Rep.sat S w x.backMixer [u2] g2:=by
 obtain ⟨c0,d0,f0,q0,rfl,rfl,h0,hr0⟩:=h
 obtain ⟨rfl,rfl⟩:=h0
 obtain ⟨c1,d1,f1,q1,rfl,rfl,h1,hr1⟩:=hr0
 obtain ⟨rfl,rfl⟩:=h1
 obtain ⟨c2,d2,f2,q2,rfl,rfl,h2,hr2⟩:=hr1
 obtain ⟨rfl,rfl⟩:=h2
 obtain ⟨c3,d3,f3,q3,rfl,rfl,h3,hr3⟩:=hr2
 obtain ⟨rfl,rfl⟩:=h3
 obtain ⟨c4,d4,f4,q4,rfl,rfl,h4,hr4⟩:=hr3
 obtain ⟨u1,rfl⟩:=Kv h4
 obtain ⟨c5,d5,f5,q5,rfl,rfl,h5,hr5⟩:=hr4
 obtain ⟨u2,rfl⟩:=Kv h5
 obtain ⟨rfl,rfl⟩:=hr5
 exact ⟨u1,u2,_,_,rfl,by simp,h4,h5⟩
theorem kl {S : Nat → Prop} {w : World} {x : Gengine} {u1 u2 : Value} {fp : List Nat} (h : Rep.sat S w x (cat [enc x.box,enc x.backBox,enc x.places,enc x.backPlaces,[u1],[u2],enc x.rounds]) fp) : ∃ (g1 : List Nat) (g2 : List Nat),fp = (g1 ++ g2) ∧ Rep.sat S w x.mixer [u1] g1 ∧ Rep.sat S w x.backMixer [u2] g2:=by
 obtain ⟨w1,w2,g1,g2,hc,hf,s1,s2⟩:=AH h
 obtain ⟨e1,k1⟩:=TR hc rfl
 obtain ⟨e2,k2⟩:=TR k1 rfl
 obtain ⟨e3,k3⟩:=TR k2 rfl
 obtain ⟨e4,k4⟩:=TR k3 rfl
 obtain ⟨e5,k5⟩:=TR k4 rfl
 obtain ⟨e6,k6⟩:=TR k5 rfl
 obtain rfl:=(List.cons.inj e5).1
 obtain rfl:=(List.cons.inj e6).1
 exact ⟨g1,g2,hf,s1,s2⟩
theorem VE {S : Nat → Prop} {w : World} {x : Gengine} {cs : List Value} (h : Rep.sat S w x cs []) : ∃ u1 u2,cs = cat [enc x.box,enc x.backBox,enc x.places,enc x.backPlaces,[u1],[u2],enc x.rounds] ∧ Rep.sat S w x.mixer [u1] [] ∧ Rep.sat S w x.backMixer [u2] []:=by
 obtain ⟨c0,d0,f0,g0,rfl,hf0,h0,hr0⟩:=h
 obtain ⟨rfl,rfl⟩:=List.append_eq_nil_iff.1 hf0.symm
 obtain ⟨rfl,_⟩:=h0
 obtain ⟨c1,d1,f1,g1,rfl,hf1,h1,hr1⟩:=hr0
 obtain ⟨rfl,rfl⟩:=List.append_eq_nil_iff.1 hf1.symm
 obtain ⟨rfl,_⟩:=h1
 obtain ⟨c2,d2,f2,g2,rfl,hf2,h2,hr2⟩:=hr1
 obtain ⟨rfl,rfl⟩:=List.append_eq_nil_iff.1 hf2.symm
 obtain ⟨rfl,_⟩:=h2
 obtain ⟨c3,d3,f3,g3,rfl,hf3,h3,hr3⟩:=hr2
 obtain ⟨rfl,rfl⟩:=List.append_eq_nil_iff.1 hf3.symm
 obtain ⟨rfl,_⟩:=h3
 obtain ⟨c4,d4,f4,g4,rfl,hf4,h4,hr4⟩:=hr3
 obtain ⟨rfl,rfl⟩:=List.append_eq_nil_iff.1 hf4.symm
 obtain ⟨u1,rfl⟩:=Kv h4
 obtain ⟨c5,d5,f5,g5,rfl,hf5,h5,hr5⟩:=hr4
 obtain ⟨rfl,rfl⟩:=List.append_eq_nil_iff.1 hf5.symm
 obtain ⟨u2,rfl⟩:=Kv h5
 obtain ⟨rfl,_⟩:=hr5
 exact ⟨u1,u2,rfl,h4,h5⟩
theorem zA {S : Nat → Prop} {w : World} {x : Gengine} {u1 u2 : Value} {g1 g2 fp : List Nat} (h1 : Rep.sat S w x.mixer [u1] g1) (h2 : Rep.sat S w x.backMixer [u2] g2) (hfp : fp = (g1 ++ g2)) : Rep.sat S w x (cat [enc x.box,enc x.backBox,enc x.places,enc x.backPlaces,[u1],[u2],enc x.rounds]) fp:=by
 rw [hfp]
 refine ⟨_,_,[],(g1 ++ g2),rfl,(by simp),⟨rfl,rfl⟩,?_⟩
 refine ⟨_,_,[],(g1 ++ g2),rfl,(by simp),⟨rfl,rfl⟩,?_⟩
 refine ⟨_,_,[],(g1 ++ g2),rfl,(by simp),⟨rfl,rfl⟩,?_⟩
 refine ⟨_,_,[],(g1 ++ g2),rfl,(by simp),⟨rfl,rfl⟩,?_⟩
 refine ⟨_,_,g1,g2,rfl,(by simp),h1,?_⟩
 refine ⟨_,_,g2,[],rfl,(by simp),h2,?_⟩
 exact ⟨rfl,rfl⟩
structure GMeeting where
 First : Int
 Second : Int
 deriving DecidableEq,Inhabited
instance : Dat GMeeting:=⟨fun x=>Dat.bd (α:=Int × Int) (x.First,x.Second),fun x=>Dat.sz (α:=Int × Int) (x.First,x.Second) + 1⟩
instance : Flat GMeeting where
 n:=2
 enc x:=cat [enc x.First,enc x.Second]
 len x:=Zl (cl1 (Flat.len _) (cl1 (Flat.len _) cl0))
 cell x:=Yq (cc1 (Flat.cell _) (cc1 (Flat.cell _) cc0))
structure Gkeyed where
 engine : (Ref Gengine)
 keys : (List (Vector UInt8 16))
 deriving DecidableEq,Inhabited
instance : Dat Gkeyed:=⟨fun x=>Dat.bd (α:=(Ref Gengine) × (List (Vector UInt8 16))) (x.engine,x.keys),fun x=>Dat.sz (α:=(Ref Gengine) × (List (Vector UInt8 16))) (x.engine,x.keys) + 1⟩
instance : Rep Gkeyed:=repIso (α:=(Ref Gengine) × (List (Vector UInt8 16))) (fun x=>(x.engine,x.keys))
theorem zk {S : Nat → Prop} {w : World} {x : Gkeyed} {cs : List Value} {fp : List Nat} (h : Rep.sat S w x cs fp) : ∃ (u1 : Value) (u2 : Value),∃ (g1 : List Nat) (g2 : List Nat),cs = cat [[u1],[u2]] ∧ fp = (g1 ++ g2) ∧ Rep.sat S w x.engine [u1] g1 ∧ Rep.sat S w x.keys [u2] g2:=by
 obtain ⟨c0,d0,f0,q0,rfl,rfl,h0,hr0⟩:=h
 obtain ⟨u1,rfl⟩:=Kv h0
 obtain ⟨u2,rfl⟩:=Ah hr0
 exact ⟨u1,u2,_,_,rfl,by simp,h0,hr0⟩
theorem unc_Gkeyed {S : Nat → Prop} {w : World} {x : Gkeyed} {u1 u2 : Value} {fp : List Nat} (h : Rep.sat S w x (cat [[u1],[u2]]) fp) : ∃ (g1 : List Nat) (g2 : List Nat),fp = (g1 ++ g2) ∧ Rep.sat S w x.engine [u1] g1 ∧ Rep.sat S w x.keys [u2] g2:=by
 obtain ⟨w1,w2,g1,g2,hc,hf,s1,s2⟩:=zk h
 obtain ⟨e1,k1⟩:=TR hc rfl
 obtain rfl:=(List.cons.inj e1).1
 obtain rfl:=(List.cons.inj k1).1
 exact ⟨g1,g2,hf,s1,s2⟩
theorem un_Gkeyed {S : Nat → Prop} {w : World} {x : Gkeyed} {cs : List Value} (h : Rep.sat S w x cs []) : ∃ u1 u2,cs = cat [[u1],[u2]] ∧ Rep.sat S w x.engine [u1] [] ∧ Rep.sat S w x.keys [u2] []:=by
 obtain ⟨c0,d0,f0,g0,rfl,hf0,h0,hr0⟩:=h
 obtain ⟨rfl,rfl⟩:=List.append_eq_nil_iff.1 hf0.symm
 obtain ⟨u1,rfl⟩:=Kv h0
 obtain ⟨u2,rfl⟩:=Ah hr0
 exact ⟨u1,u2,rfl,h0,hr0⟩
theorem pk_Gkeyed {S : Nat → Prop} {w : World} {x : Gkeyed} {u1 u2 : Value} {g1 g2 fp : List Nat} (h1 : Rep.sat S w x.engine [u1] g1) (h2 : Rep.sat S w x.keys [u2] g2) (hfp : fp = (g1 ++ g2)) : Rep.sat S w x (cat [[u1],[u2]]) fp:=by
 rw [hfp]
 refine ⟨_,_,g1,g2,rfl,(by simp),h1,?_⟩
 exact h2
theorem ty2 : Ty Try.prog 2 (.int .i64) 1 8 (enc (0 : Int)):=⟨Try.underlying2,by kernel_rfl⟩
theorem ty3 : Ty Try.prog 3 (.int .i64) 1 8 (enc (0 : Int)):=⟨Try.underlying3,by kernel_rfl⟩
theorem ty4 : Ty Try.prog 4 .bool 1 1 (enc false):=⟨Try.underlying4,by kernel_rfl⟩
theorem ty5 : Ty Try.prog 5 (.int .u8) 1 1 (enc (0 : UInt8)):=⟨Try.underlying5,by kernel_rfl⟩
theorem ty22 : Ty Try.prog 22 (.slice 5) 1 24 [.slice none 0 0]:=⟨Try.underlying22,by kernel_rfl⟩
theorem ty45 : Ty Try.prog 45 (.int .u64) 1 8 [.int .u64 0]:=⟨Try.underlying45,by kernel_rfl⟩
theorem ty53 : Ty Try.prog 53 (.array 256 5) 256 256 (enc (Vector.replicate 256 (0 : UInt8))):=⟨Try.underlying53,by kernel_rfl⟩
theorem YC : Ty Try.prog 54 (.array 256 5) 256 256 (enc (Vector.replicate 256 (0 : UInt8))):=⟨Try.underlying54,by kernel_rfl⟩
theorem Yr : Ty Try.prog 55 (.array 4 5) 4 4 (enc (Vector.replicate 4 (0 : UInt8))):=⟨Try.underlying55,by kernel_rfl⟩
theorem Y7 : Ty Try.prog 57 (.array 4 55) 16 16 (enc (Vector.replicate 4 (Vector.replicate 4 (0 : UInt8)))):=⟨Try.underlying57,by kernel_rfl⟩
theorem UY : Ty Try.prog 59 (.array 16 5) 16 16 (enc (Vector.replicate 16 (0 : UInt8))):=⟨Try.underlying59,by kernel_rfl⟩
theorem Z8 : Ty Try.prog 61 (.struct [{ name := "Field", type := 2, offset := 0, embedded := false, tag := "", pkgPath := "", byteOffset := 0 }, { name := "Box", type := 54, offset := 1, embedded := false, tag := "", pkgPath := "", byteOffset := 8 }, { name := "Mix", type := 57, offset := 257, embedded := false, tag := "", pkgPath := "", byteOffset := 264 }, { name := "Places", type := 59, offset := 273, embedded := false, tag := "", pkgPath := "", byteOffset := 280 }, { name := "Rounds", type := 2, offset := 289, embedded := false, tag := "", pkgPath := "", byteOffset := 296 }].toArray) 290 304 (enc (⟨(0 : Int), (Vector.replicate 256 (0 : UInt8)), (Vector.replicate 4 (Vector.replicate 4 (0 : UInt8))), (Vector.replicate 16 (0 : UInt8)), (0 : Int)⟩ : GCipher)) := ⟨Try.underlying61, by kernel_rfl⟩
theorem Zw : Ty Try.prog 62 (.array 16 5) 16 16 (enc (Vector.replicate 16 (0 : UInt8))):=⟨Try.underlying62,by kernel_rfl⟩
theorem Kr : Ty Try.prog 73 (.struct [{ name := "First", type := 2, offset := 0, embedded := false, tag := "", pkgPath := "", byteOffset := 0 }, { name := "Second", type := 2, offset := 1, embedded := false, tag := "", pkgPath := "", byteOffset := 8 }].toArray) 2 16 (enc (⟨(0 : Int), (0 : Int)⟩ : GMeeting)) := ⟨Try.underlying73, by kernel_rfl⟩
theorem ty129 : Ty Try.prog 129 (.pointer 196) 1 8 [.pointer none]:=⟨Try.underlying129,by kernel_rfl⟩
theorem ty136 : Ty Try.prog 136 (.slice 62) 1 24 [.slice none 0 0]:=⟨Try.underlying136,by kernel_rfl⟩
theorem KN : Ty Try.prog 141 (.struct [{ name := "engine", type := 129, offset := 0, embedded := false, tag := "", pkgPath := "loop.example/g01182/impl", byteOffset := 0 }, { name := "keys", type := 136, offset := 1, embedded := false, tag := "", pkgPath := "loop.example/g01182/impl", byteOffset := 8 }].toArray) 2 32 (cat [[.pointer none], [.slice none 0 0]]) := ⟨Try.underlying141, by kernel_rfl⟩
theorem zV : Ty Try.prog 169 (.struct [{ name := "code", type := 22, offset := 0, embedded := false, tag := "", pkgPath := "loop.example/g01182/spec", byteOffset := 0 }, { name := "at", type := 3, offset := 1, embedded := false, tag := "", pkgPath := "loop.example/g01182/spec", byteOffset := 24 }, { name := "hash", type := 45, offset := 2, embedded := false, tag := "", pkgPath := "loop.example/g01182/spec", byteOffset := 32 }].toArray) 3 40 (cat [[.slice none 0 0], (enc (0 : Int)), [.int .u64 0]]) := ⟨Try.underlying169, by kernel_rfl⟩
theorem ya : Ty Try.prog 193 (.pointer 231) 1 8 [.pointer none]:=⟨Try.underlying193,by kernel_rfl⟩
theorem Hj : Ty Try.prog 196 (.struct [{ name := "box", type := 54, offset := 0, embedded := false, tag := "", pkgPath := "loop.example/g01182/impl", byteOffset := 0 }, { name := "backBox", type := 54, offset := 256, embedded := false, tag := "", pkgPath := "loop.example/g01182/impl", byteOffset := 256 }, { name := "places", type := 59, offset := 512, embedded := false, tag := "", pkgPath := "loop.example/g01182/impl", byteOffset := 512 }, { name := "backPlaces", type := 59, offset := 528, embedded := false, tag := "", pkgPath := "loop.example/g01182/impl", byteOffset := 528 }, { name := "mixer", type := 193, offset := 544, embedded := false, tag := "", pkgPath := "loop.example/g01182/impl", byteOffset := 544 }, { name := "backMixer", type := 193, offset := 545, embedded := false, tag := "", pkgPath := "loop.example/g01182/impl", byteOffset := 552 }, { name := "rounds", type := 2, offset := 546, embedded := false, tag := "", pkgPath := "loop.example/g01182/impl", byteOffset := 560 }].toArray) 547 568 (cat [(enc (Vector.replicate 256 (0 : UInt8))), (enc (Vector.replicate 256 (0 : UInt8))), (enc (Vector.replicate 16 (0 : UInt8))), (enc (Vector.replicate 16 (0 : UInt8))), [.pointer none], [.pointer none], (enc (0 : Int))]) := ⟨Try.underlying196, by kernel_rfl⟩
theorem BW : Ty Try.prog 225 (.array 256 4) 256 256 (enc (Vector.replicate 256 false)):=⟨Try.underlying225,by kernel_rfl⟩
theorem Bq : Ty Try.prog 229 (.array 4 53) 1024 1024 (enc (Vector.replicate 4 (Vector.replicate 256 (0 : UInt8)))):=⟨Try.underlying229,by kernel_rfl⟩
theorem ty231 : Ty Try.prog 231 (.array 4 229) 4096 4096 (enc (Vector.replicate 4 (Vector.replicate 4 (Vector.replicate 256 (0 : UInt8))))):=⟨Try.underlying231,by kernel_rfl⟩
theorem yV : Ty Try.prog 232 (.array 16 4) 16 16 (enc (Vector.replicate 16 false)):=⟨Try.underlying232,by kernel_rfl⟩
theorem Tg : Fd Try.prog 61 0 0:=U0 Z8.und rfl rfl ty2 (by decide)
theorem TX : Fd Try.prog 61 1 1:=U0 Z8.und rfl rfl YC (by decide)
theorem TF : Fd Try.prog 61 2 257:=U0 Z8.und rfl rfl Y7 (by decide)
theorem U6 : Fd Try.prog 61 3 273:=U0 Z8.und rfl rfl UY (by decide)
theorem UL : Fd Try.prog 61 4 289:=U0 Z8.und rfl rfl ty2 (by decide)
theorem fd73_0 : Fd Try.prog 73 0 0:=U0 Kr.und rfl rfl ty2 (by decide)
theorem fd73_1 : Fd Try.prog 73 1 1:=U0 Kr.und rfl rfl ty2 (by decide)
theorem ka : Fd Try.prog 141 0 0:=U0 KN.und rfl rfl ty129 (by decide)
theorem kk : Fd Try.prog 141 1 1:=U0 KN.und rfl rfl ty136 (by decide)
theorem zO : Fd Try.prog 169 0 0:=U0 zV.und rfl rfl ty22 (by decide)
theorem HD : Fd Try.prog 169 1 1:=U0 zV.und rfl rfl ty3 (by decide)
theorem Ji : Fd Try.prog 169 2 2:=U0 zV.und rfl rfl ty45 (by decide)
theorem Al : Fd Try.prog 196 0 0:=U0 Hj.und rfl rfl YC (by decide)
theorem jN : Fd Try.prog 196 1 256:=U0 Hj.und rfl rfl YC (by decide)
theorem kc : Fd Try.prog 196 2 512:=U0 Hj.und rfl rfl UY (by decide)
theorem jK : Fd Try.prog 196 3 528:=U0 Hj.und rfl rfl UY (by decide)
theorem jP : Fd Try.prog 196 4 544:=U0 Hj.und rfl rfl ya (by decide)
theorem jL : Fd Try.prog 196 5 545:=U0 Hj.und rfl rfl ya (by decide)
theorem jX : Fd Try.prog 196 6 546:=U0 Hj.und rfl rfl ty2 (by decide)
theorem pl61 : Places Try.prog [{ name := "Field", type := 2, offset := 0, embedded := false, tag := "", pkgPath := "", byteOffset := 0 }, { name := "Box", type := 54, offset := 1, embedded := false, tag := "", pkgPath := "", byteOffset := 8 }, { name := "Mix", type := 57, offset := 257, embedded := false, tag := "", pkgPath := "", byteOffset := 264 }, { name := "Places", type := 59, offset := 273, embedded := false, tag := "", pkgPath := "", byteOffset := 280 }, { name := "Rounds", type := 2, offset := 289, embedded := false, tag := "", pkgPath := "", byteOffset := 296 }] [(0, 1), (1, 256), (257, 16), (273, 16), (289, 1)] := by show _ = _; kernel_rfl
theorem pl73 : Places Try.prog [{ name := "First", type := 2, offset := 0, embedded := false, tag := "", pkgPath := "", byteOffset := 0 }, { name := "Second", type := 2, offset := 1, embedded := false, tag := "", pkgPath := "", byteOffset := 8 }] [(0, 1), (1, 1)] := by show _ = _; kernel_rfl
theorem pl141 : Places Try.prog [{ name := "engine", type := 129, offset := 0, embedded := false, tag := "", pkgPath := "loop.example/g01182/impl", byteOffset := 0 }, { name := "keys", type := 136, offset := 1, embedded := false, tag := "", pkgPath := "loop.example/g01182/impl", byteOffset := 8 }] [(0, 1), (1, 1)] := by show _ = _; kernel_rfl
theorem pl169 : Places Try.prog [{ name := "code", type := 22, offset := 0, embedded := false, tag := "", pkgPath := "loop.example/g01182/spec", byteOffset := 0 }, { name := "at", type := 3, offset := 1, embedded := false, tag := "", pkgPath := "loop.example/g01182/spec", byteOffset := 24 }, { name := "hash", type := 45, offset := 2, embedded := false, tag := "", pkgPath := "loop.example/g01182/spec", byteOffset := 32 }] [(0, 1), (1, 1), (2, 1)] := by show _ = _; kernel_rfl
theorem pl196 : Places Try.prog [{ name := "box", type := 54, offset := 0, embedded := false, tag := "", pkgPath := "loop.example/g01182/impl", byteOffset := 0 }, { name := "backBox", type := 54, offset := 256, embedded := false, tag := "", pkgPath := "loop.example/g01182/impl", byteOffset := 256 }, { name := "places", type := 59, offset := 512, embedded := false, tag := "", pkgPath := "loop.example/g01182/impl", byteOffset := 512 }, { name := "backPlaces", type := 59, offset := 528, embedded := false, tag := "", pkgPath := "loop.example/g01182/impl", byteOffset := 528 }, { name := "mixer", type := 193, offset := 544, embedded := false, tag := "", pkgPath := "loop.example/g01182/impl", byteOffset := 544 }, { name := "backMixer", type := 193, offset := 545, embedded := false, tag := "", pkgPath := "loop.example/g01182/impl", byteOffset := 552 }, { name := "rounds", type := 2, offset := 546, embedded := false, tag := "", pkgPath := "loop.example/g01182/impl", byteOffset := 560 }] [(0, 256), (256, 256), (512, 16), (528, 16), (544, 1), (545, 1), (546, 1)] := by show _ = _; kernel_rfl
theorem YS : Try.prog.follows .mixedOrders = true:=by kernel_rfl
theorem cb6 : Callable Try.prog 6:=⟨_,_,Try.func6,by decide,rfl⟩
theorem cb27 : Callable Try.prog 27:=⟨_,_,Try.func27,by decide,rfl⟩
theorem cb28 : Callable Try.prog 28:=⟨_,_,Try.func28,by decide,rfl⟩
theorem cb29 : Callable Try.prog 29:=⟨_,_,Try.func29,by decide,rfl⟩
theorem cb30 : Callable Try.prog 30:=⟨_,_,Try.func30,by decide,rfl⟩
theorem cb31 : Callable Try.prog 31:=⟨_,_,Try.func31,by decide,rfl⟩
theorem cb32 : Callable Try.prog 32:=⟨_,_,Try.func32,by decide,rfl⟩
theorem cb33 : Callable Try.prog 33:=⟨_,_,Try.func33,by decide,rfl⟩
theorem cb34 : Callable Try.prog 34:=⟨_,_,Try.func34,by decide,rfl⟩
theorem cb35 : Callable Try.prog 35:=⟨_,_,Try.func35,by decide,rfl⟩
theorem cb36 : Callable Try.prog 36:=⟨_,_,Try.func36,by decide,rfl⟩
theorem cb37 : Callable Try.prog 37:=⟨_,_,Try.func37,by decide,rfl⟩
theorem cb38 : Callable Try.prog 38:=⟨_,_,Try.func38,by decide,rfl⟩
theorem cb47 : Callable Try.prog 47:=⟨_,_,Try.func47,by decide,rfl⟩
theorem cb49 : Callable Try.prog 49:=⟨_,_,Try.func49,by decide,rfl⟩
theorem VD : Callable Try.prog 50:=⟨_,_,Try.func50,by decide,rfl⟩
theorem cb54 : Callable Try.prog 54:=⟨_,_,Try.func54,by decide,rfl⟩
theorem cb56 : Callable Try.prog 56:=⟨_,_,Try.func56,by decide,rfl⟩
theorem cb60 : Callable Try.prog 60:=⟨_,_,Try.func60,by decide,rfl⟩
theorem cb70 : Callable Try.prog 70:=⟨_,_,Try.func70,by decide,rfl⟩
theorem cb84 : Callable Try.prog 84:=⟨_,_,Try.func84,by decide,rfl⟩
theorem cb85 : Callable Try.prog 85:=⟨_,_,Try.func85,by decide,rfl⟩
theorem cb86 : Callable Try.prog 86:=⟨_,_,Try.func86,by decide,rfl⟩
theorem cb87 : Callable Try.prog 87:=⟨_,_,Try.func87,by decide,rfl⟩
theorem cb88 : Callable Try.prog 88:=⟨_,_,Try.func88,by decide,rfl⟩
theorem cb89 : Callable Try.prog 89:=⟨_,_,Try.func89,by decide,rfl⟩
theorem cb90 : Callable Try.prog 90:=⟨_,_,Try.func90,by decide,rfl⟩
theorem cb91 : Callable Try.prog 91:=⟨_,_,Try.func91,by decide,rfl⟩
theorem cb92 : Callable Try.prog 92:=⟨_,_,Try.func92,by decide,rfl⟩
theorem cb93 : Callable Try.prog 93:=⟨_,_,Try.func93,by decide,rfl⟩
theorem cb94 : Callable Try.prog 94:=⟨_,_,Try.func94,by decide,rfl⟩
theorem cb95 : Callable Try.prog 95:=⟨_,_,Try.func95,by decide,rfl⟩
theorem cb96 : Callable Try.prog 96:=⟨_,_,Try.func96,by decide,rfl⟩
theorem cb97 : Callable Try.prog 97:=⟨_,_,Try.func97,by decide,rfl⟩
theorem cb98 : Callable Try.prog 98:=⟨_,_,Try.func98,by decide,rfl⟩
theorem cb99 : Callable Try.prog 99:=⟨_,_,Try.func99,by decide,rfl⟩
theorem cb100 : Callable Try.prog 100:=⟨_,_,Try.func100,by decide,rfl⟩
theorem ja : Callable Try.prog 119:=⟨_,_,Try.func119,by decide,rfl⟩
theorem cb120 : Callable Try.prog 120:=⟨_,_,Try.func120,by decide,rfl⟩
theorem cb123 : Callable Try.prog 123:=⟨_,_,Try.func123,by decide,rfl⟩
theorem cb124 : Callable Try.prog 124:=⟨_,_,Try.func124,by decide,rfl⟩
theorem Hl : Callable Try.prog 132:=⟨_,_,Try.func132,by decide,rfl⟩
theorem cb140 : Callable Try.prog 140:=⟨_,_,Try.func140,by decide,rfl⟩
theorem cb141 : Callable Try.prog 141:=⟨_,_,Try.func141,by decide,rfl⟩
theorem cb142 : Callable Try.prog 142:=⟨_,_,Try.func142,by decide,rfl⟩
theorem cb143 : Callable Try.prog 143:=⟨_,_,Try.func143,by decide,rfl⟩
theorem cb144 : Callable Try.prog 144:=⟨_,_,Try.func144,by decide,rfl⟩
theorem cb145 : Callable Try.prog 145:=⟨_,_,Try.func145,by decide,rfl⟩
theorem cb146 : Callable Try.prog 146:=⟨_,_,Try.func146,by decide,rfl⟩
theorem cb147 : Callable Try.prog 147:=⟨_,_,Try.func147,by decide,rfl⟩
theorem cb148 : Callable Try.prog 148:=⟨_,_,Try.func148,by decide,rfl⟩
theorem cb149 : Callable Try.prog 149:=⟨_,_,Try.func149,by decide,rfl⟩
theorem cb150 : Callable Try.prog 150:=⟨_,_,Try.func150,by decide,rfl⟩
theorem cb151 : Callable Try.prog 151:=⟨_,_,Try.func151,by decide,rfl⟩
theorem y0 : Callable Try.prog 152:=⟨_,_,Try.func152,by decide,rfl⟩
theorem cb153 : Callable Try.prog 153:=⟨_,_,Try.func153,by decide,rfl⟩
theorem z8 : Callable Try.prog 154:=⟨_,_,Try.func154,by decide,rfl⟩
theorem cb155 : Callable Try.prog 155:=⟨_,_,Try.func155,by decide,rfl⟩
theorem cb156 : Callable Try.prog 156:=⟨_,_,Try.func156,by decide,rfl⟩
theorem cb157 : Callable Try.prog 157:=⟨_,_,Try.func157,by decide,rfl⟩
theorem z4 : Callable Try.prog 158:=⟨_,_,Try.func158,by decide,rfl⟩
theorem cb159 : Callable Try.prog 159:=⟨_,_,Try.func159,by decide,rfl⟩
theorem cb160 : Callable Try.prog 160:=⟨_,_,Try.func160,by decide,rfl⟩
theorem cb161 : Callable Try.prog 161:=⟨_,_,Try.func161,by decide,rfl⟩
theorem cb162 : Callable Try.prog 162:=⟨_,_,Try.func162,by decide,rfl⟩
theorem cb163 : Callable Try.prog 163:=⟨_,_,Try.func163,by decide,rfl⟩
theorem cb164 : Callable Try.prog 164:=⟨_,_,Try.func164,by decide,rfl⟩
theorem cb174 : Callable Try.prog 174:=⟨_,_,Try.func174,by decide,rfl⟩
theorem yU : Callable Try.prog 177:=⟨_,_,Try.func177,by decide,rfl⟩
theorem KP : Callable Try.prog 178:=⟨_,_,Try.func178,by decide,rfl⟩
theorem cb179 : Callable Try.prog 179:=⟨_,_,Try.func179,by decide,rfl⟩
theorem cb181 : Callable Try.prog 181:=⟨_,_,Try.func181,by decide,rfl⟩
theorem cb182 : Callable Try.prog 182:=⟨_,_,Try.func182,by decide,rfl⟩
theorem cb183 : Callable Try.prog 183:=⟨_,_,Try.func183,by decide,rfl⟩
theorem cb184 : Callable Try.prog 184:=⟨_,_,Try.func184,by decide,rfl⟩
theorem yT : Callable Try.prog 185:=⟨_,_,Try.func185,by decide,rfl⟩
theorem yR : Callable Try.prog 186:=⟨_,_,Try.func186,by decide,rfl⟩
theorem cb187 : Callable Try.prog 187:=⟨_,_,Try.func187,by decide,rfl⟩
theorem cb188 : Callable Try.prog 188:=⟨_,_,Try.func188,by decide,rfl⟩
theorem cb189 : Callable Try.prog 189:=⟨_,_,Try.func189,by decide,rfl⟩
theorem cb190 : Callable Try.prog 190:=⟨_,_,Try.func190,by decide,rfl⟩
theorem cb191 : Callable Try.prog 191:=⟨_,_,Try.func191,by decide,rfl⟩
theorem cb203 : Callable Try.prog 203:=⟨_,_,Try.func203,by decide,rfl⟩
theorem cb204 : Callable Try.prog 204:=⟨_,_,Try.func204,by decide,rfl⟩
theorem cb205 : Callable Try.prog 205:=⟨_,_,Try.func205,by decide,rfl⟩
theorem cb206 : Callable Try.prog 206:=⟨_,_,Try.func206,by decide,rfl⟩
theorem cb207 : Callable Try.prog 207:=⟨_,_,Try.func207,by decide,rfl⟩
theorem cb208 : Callable Try.prog 208:=⟨_,_,Try.func208,by decide,rfl⟩
theorem cb209 : Callable Try.prog 209:=⟨_,_,Try.func209,by decide,rfl⟩
theorem cb215 : Callable Try.prog 215:=⟨_,_,Try.func215,by decide,rfl⟩
theorem cb216 : Callable Try.prog 216:=⟨_,_,Try.func216,by decide,rfl⟩
theorem cb217 : Callable Try.prog 217:=⟨_,_,Try.func217,by decide,rfl⟩
def QE (p0 : (List UInt8)) : Option (Bool) :=
 some (decide ((p0.length : Int) > 4096))
theorem zx (w0 : World) (p0 : (List UInt8)) (v0_1 : Value) (hv0_1 : Ro w0 p0 [v0_1]) (r : Bool) (hF : QE p0 = some r) :
  Calls Try.prog 6 [v0_1].toArray w0 (fun en w'=>∃ v,en = .returned v ∧ (v = (vT r) ∧ Kept (Old w0) w0 w')):=by
 refine ZJ (n:=6) Try.func6 rfl rfl (nbl rfl) rfl ?_
 intro a hE
 have hM:=M.start w0
 unfold QE at hF
 refine Zd (Ze hE Za ld rfl fun a hE=>Zf (Zd (Zc hE Za ld rfl fun a hE=>UU hE Za ld rfl Try.underlying22 (hM.rd hv0_1) fun a hE=>Zm hE Za ld rfl rfl rfl fun a hE=>Ze hE Za ld rfl fun a hE=>Zf ?_)))
 have hr:=Option.some.inj hF
 subst hr
 exact wp_ret (ZK hE rfl (Zx hE rfl) ⟨_,rfl,rfl,hM.kept⟩)
def UJ (p0 : (List UInt8)) (s6 : Int × Int) : Option (Fl (Int × Int) Int) :=
 (if (decide (s6.2 < (p0.length : Int))) = true then (some (decide (s6.2 < 4096))) else (some false) : Option (Bool)).bind fun j10=>if j10 = true then ((idx p0 s6.2).bind fun x18=>some (Fl.nx (IntKind.u64.wrap ((IntKind.u64.wrap ((IntKind.u64.wrap (s6.1 * 1099511628211)) + (bI x18))) + 11),wr (s6.2 + 1)))) else (some (Fl.ex s6.1))
def Xk (p0 : (List UInt8)) : Option ((Int × Int)) :=
 (ZQ (UJ p0) (IntKind.u64.wrap (9001 + (IntKind.u64.wrap (p0.length : Int))),0)).bind fun j3=>some (0,j3)
theorem V9 (St : Nat → Prop) (W w0 : World) (R : Item) (p0 : (List UInt8)) (v0_1 : Value) (hv0_1 : Rep.sat St W p0 [v0_1] []) (hM : M St W w0 [R]) (r : (Int × Int)) (hF : Xk p0 = some r) :
  Calls Try.prog 47 [v0_1].toArray w0 (fun en w'=>∃ v,en = .returned v ∧ (∃ (b : Nat),v = ptr b 0 ∧ M St W w' [raw b (cat [[v0_1],[vI r.1],[(Value.int .u64 r.2)]]),R])):=by
 refine ZJ (n:=38) Try.func47 rfl rfl (nbl rfl) rfl ?_
 intro a hE
 unfold Xk at hF
 refine Zd (Ze hE Za ld rfl fun a hE=>Zf (Zd (Zc hE Za ld rfl fun a hE=>Zc hE Za ld rfl fun a hE=>UU hE Za ld rfl Try.underlying22 (hM.rd hv0_1) fun a hE=>Yg hE Za ld rfl Try.underlying3 Try.underlying45 fun a hE=>Zm hE Za ld rfl rfl rfl fun a hE=>Te (parts:=[(0,.tmp 5),(2,.tmp 9)]) (vs:=[(0,v0_1),(2,(Value.int .u64 (IntKind.u64.wrap (9001 + (IntKind.u64.wrap (p0.length : Int))))))]) (cs:=cat [[v0_1],[vI 0],[(Value.int .u64 (IntKind.u64.wrap (9001 + (IntKind.u64.wrap (p0.length : Int)))))]]) hE Za ld rfl rfl zV pl169 (Xd (pre:=[]) (seg:=[(Value.slice none 0 0)]) (seg':=[v0_1]) (post:=[[vI 0],[(Value.int .u64 0)]]) rfl cl0 rfl rfl (AD (hM.rd hv0_1)) (Xd (pre:=[[v0_1],[vI 0]]) (seg:=[(Value.int .u64 0)]) (seg':=[(Value.int .u64 (IntKind.u64.wrap (9001 + (IntKind.u64.wrap (p0.length : Int)))))]) (post:=[]) rfl (cl1 (n:=1) (m:=1) rfl (cl1 (n:=1) (m:=0) rfl cl0)) rfl rfl rfl Qj)) fun a hE=>Z3 (cs:=cat [[v0_1],[vI 0],[(Value.int .u64 (IntKind.u64.wrap (9001 + (IntKind.u64.wrap (p0.length : Int)))))]]) hE hM Za ld rfl rfl fun b1 w a hM hE=>Ze hE Za ld rfl fun a hE=>Zf (wp_seq (Zd (Ze hE Za ld rfl fun a hE=>Zf ?_))))))
 obtain ⟨j3,hl4,hF5⟩:=bind_some hF
 refine Z0 (fun a w=>Env 38 a [(3,(ptr b1 0))] ∧ M St W w [raw b1 (cat [[v0_1],[vI 0],[(Value.int .u64 j3)]]),R]) ?_ ?_
 ·skip
  refine wp_block ?_
  refine ZV (fun (s6 : Int × Int) a w=>Env 38 a [(0,v0_1),(3,(ptr b1 0)),(4,vI s6.2)] ∧ M St W w [raw b1 (cat [[v0_1],[vI 0],[(Value.int .u64 s6.1)]]),R]) hl4 ⟨hE.sub ⟨rfl,rfl,rfl,trivial⟩,hM⟩ ?_
  rintro s6 a w ⟨hE,hM⟩ o9 hs7 hx8
  unfold UJ at hs7
  refine wp_seq ?_
  obtain ⟨j10,hl11,hF12⟩:=bind_some hs7
  refine ZT (fun a w=>Env 38 a [(0,v0_1),(3,(ptr b1 0)),(4,vI s6.2),(19,vT j10)] ∧ M St W w [raw b1 (cat [[v0_1],[vI 0],[(Value.int .u64 s6.1)]]),R]) ?_ ?_
  ·skip
   refine wp_region_lit (Zc hE Za ld rfl fun a hE=>Zc hE Za ld rfl fun a hE=>UU hE Za ld rfl Try.underlying22 (hM.rd hv0_1) fun a hE=>Zm hE Za ld rfl rfl rfl fun a hE=>Zc hE Za ld rfl ?_); intro a hE
   refine Xy (decide (s6.2 < (p0.length : Int))) (fun hb13=>?_) (fun hb13=>?_)
   ·have hl11:=ZB hl11 hb13
    refine Zc hE (Zt hE rfl (lkb rfl hb13)) (by decide) rfl fun a hE=>Zm hE (Zt hE rfl (lkb rfl hb13)) (by decide) rfl rfl rfl fun a hE=>Yy hE Za ld (lkb rfl hb13) rfl fun a hE=>Zk ?_
    have ht14:=Option.some.inj hl11
    subst ht14
    refine Zn ?_
    exact ⟨hE.sub ⟨rfl,rfl,rfl,rfl,trivial⟩,hM⟩
   ·have hl11:=ZA hl11 hb13
    refine Zz hE rfl (lkb rfl hb13) rfl (by decide) fun a hE=>Zz hE rfl (lkb rfl hb13) rfl (by decide) fun a hE=>Yh hE Za ld (lkb rfl hb13) rfl fun a hE=>Zk ?_
    have ht15:=Option.some.inj hl11
    subst ht15
    refine Zn ?_
    exact ⟨hE.sub ⟨rfl,rfl,rfl,rfl,trivial⟩,hM⟩
  ·skip
   rintro a w ⟨hE,hM⟩
   refine Zv hE rfl ?_ ?_
   ·intro hb16
    have hF12:=ZB hF12 hb16
    refine wp_skip (ZG (wp_seq (wp_block ?_)))
    obtain ⟨x18,hi20,hF12⟩:=bix hF12
    refine Yw (n:=38) (hd:=[_,_,_,_,_,_,_,_,_,_,_,_,_,_,_]) (tl:=[_]) YS rfl rfl [22,23,24,25,26,27,28,29,30,31,32,33,34,35,36] (by decide) (fun w=>M St W w [raw b1 (cat [[v0_1],[vI 0],[(Value.int .u64 s6.1)]]),R]) (fun j=>([fun v _=>v = (ptr b1 0),fun v _=>v = (ptr b1 0),fun v _=>v = (ptr b1 0),fun v _=>v = (ptr b1 (0 + 2)),fun v _=>v = (Value.int .u64 s6.1),fun v _=>v = (Value.int .u64 (IntKind.u64.wrap (s6.1 * 1099511628211))),fun v _=>v = v0_1,fun v _=>v = (vI s6.2),fun v _=>v = (ptr (sb v0_1) (so v0_1 + (s6.2).toNat * 1)),fun v _=>v = (vB x18),fun v _=>v = (Value.int .u64 (bI x18)),fun v _=>v = (Value.int .u64 (IntKind.u64.wrap ((IntKind.u64.wrap (s6.1 * 1099511628211)) + (bI x18)))),fun v _=>v = (Value.int .u64 (IntKind.u64.wrap ((IntKind.u64.wrap ((IntKind.u64.wrap (s6.1 * 1099511628211)) + (bI x18))) + 11))),fun v _=>v = (ptr b1 0),fun v _=>v = (ptr b1 (0 + 2))] : List (Value → World → Prop)).getD j (fun _ _=>True)) (fun _ _ h hk=>h.keep hk) (gup (Zp (Zp (Zp (Zp (Zp (Zp (Zp (Zp (Zp (Zp (Zp (Zp (Zp (Zp (Zp Vq)))))))))))))))) hE hM.drew (ZS (Zb ?_ (Zb ?_ (Zb ?_ (Zb ?_ (Zb ?_ (Zb ?_ (Zb ?_ (Zb ?_ (Zb ?_ (Zb ?_ (Zb ?_ (Zb ?_ (Zb ?_ (Zb ?_ (Zb ?_ ZL)))))))))))))))) ?_
    ·exact fun a w ux17 hE hM hp=>Zc hE Za ld rfl fun a hE=>⟨Kept.refl _ _,_,_,rfl,hE,rfl⟩
    ·exact fun a w ux17 hE hM hp=>Zc hE Za ld rfl fun a hE=>⟨Kept.refl _ _,_,_,rfl,hE,rfl⟩
    ·intro a w ux17 hE hM hp
     have f1 : ux17 1 = (ptr b1 0):=hp 0 _ rfl rfl
     exact Z9 hE Za ld (lk rfl f1) fun a hE=>⟨Kept.refl _ _,_,_,rfl,hE,rfl⟩
    ·intro a w ux17 hE hM hp
     have f2 : ux17 2 = (ptr b1 0):=hp 0 _ rfl rfl
     exact Zr hE Za ld (lk rfl f2) (Ji) fun a hE=>⟨Kept.refl _ _,_,_,rfl,hE,rfl⟩
    ·intro a w ux17 hE hM hp
     have f3 : ux17 3 = (ptr b1 (0 + 2)):=hp 0 _ rfl rfl
     exact ZF (v:=(Value.int .u64 s6.1)) hE Za ld (lk rfl f3) ty45 rfl (At.cat (pre:=[[v0_1],[vI 0]]) (hM.rawAt (pre:=[])) (cl1 (n:=1) (m:=1) rfl (cl1 (n:=1) (m:=0) rfl cl0))) fun a hE=>⟨Kept.refl _ _,_,_,rfl,hE,rfl⟩
    ·intro a w ux17 hE hM hp
     have f4 : ux17 4 = (Value.int .u64 s6.1):=hp 0 _ rfl rfl
     exact Zm hE Za ld (lk rfl f4) rfl rfl fun a hE=>⟨Kept.refl _ _,_,_,rfl,hE,rfl⟩
    ·exact fun a w ux17 hE hM hp=>Zc hE Za ld rfl fun a hE=>⟨Kept.refl _ _,_,_,rfl,hE,rfl⟩
    ·exact fun a w ux17 hE hM hp=>Zc hE Za ld rfl fun a hE=>⟨Kept.refl _ _,_,_,rfl,hE,rfl⟩
    ·intro a w ux17 hE hM hp
     have f6 : ux17 6 = v0_1:=hp 0 _ rfl rfl
     have f7 : ux17 7 = (vI s6.2):=hp 1 _ rfl rfl
     exact Yv hE Za ld (lk rfl f6) (lk rfl f7) Try.underlying22 ty5 (hM.rd hv0_1) hi20.1 fun a hE=>⟨Kept.refl _ _,_,_,rfl,hE,rfl⟩
    ·intro a w ux17 hE hM hp
     have f8 : ux17 8 = (ptr (sb v0_1) (so v0_1 + (s6.2).toNat * 1)):=hp 0 _ rfl rfl
     exact ZF (v:=(vB x18)) hE Za ld (lk rfl f8) ty5 rfl (X9 (hM.rd hv0_1) hi20.2) fun a hE=>⟨Kept.refl _ _,_,_,rfl,hE,rfl⟩
    ·intro a w ux17 hE hM hp
     have f9 : ux17 9 = (vB x18):=hp 0 _ rfl rfl
     refine Yg hE Za ld (lk rfl f9) Try.underlying5 Try.underlying45 ?_; intro a hE
     rw [A9] at hE
     exact ⟨Kept.refl _ _,_,_,rfl,hE,rfl⟩
    ·intro a w ux17 hE hM hp
     have f5 : ux17 5 = (Value.int .u64 (IntKind.u64.wrap (s6.1 * 1099511628211))):=hp 0 _ rfl rfl
     have f10 : ux17 10 = (Value.int .u64 (bI x18)):=hp 1 _ rfl rfl
     exact Zm hE Za ld (lk rfl f5) (lk rfl f10) rfl fun a hE=>⟨Kept.refl _ _,_,_,rfl,hE,rfl⟩
    ·intro a w ux17 hE hM hp
     have f11 : ux17 11 = (Value.int .u64 (IntKind.u64.wrap ((IntKind.u64.wrap (s6.1 * 1099511628211)) + (bI x18)))):=hp 0 _ rfl rfl
     exact Zm hE Za ld (lk rfl f11) rfl rfl fun a hE=>⟨Kept.refl _ _,_,_,rfl,hE,rfl⟩
    ·intro a w ux17 hE hM hp
     have f0 : ux17 0 = (ptr b1 0):=hp 0 _ rfl rfl
     exact Z9 hE Za ld (lk rfl f0) fun a hE=>⟨Kept.refl _ _,_,_,rfl,hE,rfl⟩
    ·intro a w ux17 hE hM hp
     have f13 : ux17 13 = (ptr b1 0):=hp 0 _ rfl rfl
     exact Zr hE Za ld (lk rfl f13) (Ji) fun a hE=>⟨Kept.refl _ _,_,_,rfl,hE,rfl⟩
    ·intro a w ux17 hE hM hg
     have hE:=hE.sub (e':=[(34,(Value.int .u64 (IntKind.u64.wrap ((IntKind.u64.wrap ((IntKind.u64.wrap (s6.1 * 1099511628211)) + (bI x18))) + 11)))),(36,(ptr b1 (0 + 2))),(0,v0_1),(3,(ptr b1 0)),(4,vI s6.2),(19,vT j10)]) ⟨lk rfl (hg 12 (by decide)),lk rfl (hg 14 (by decide)),rfl,rfl,rfl,rfl,trivial⟩
     refine Zi (seg:=[(Value.int .u64 (IntKind.u64.wrap ((IntKind.u64.wrap ((IntKind.u64.wrap (s6.1 * 1099511628211)) + (bI x18))) + 11)))]) hE hM Za rfl rfl rfl ty45 rfl (UX (pre:=[[v0_1],[vI 0]]) (cl1 (n:=1) (m:=1) rfl (cl1 (n:=1) (m:=0) rfl cl0)) rfl) zX (WL (pre:=[[v0_1],[vI 0]]) (cl1 (n:=1) (m:=1) rfl (cl1 (n:=1) (m:=0) rfl cl0)) rfl) fun w a hM hE=>Zk (Yj (ZG (wp_region_lit (Zc hE Za ld rfl fun a hE=>Zm hE Za ld rfl rfl rfl fun a hE=>Ze hE Za ld rfl fun a hE=>Zk (Zn ?_)))))
     exact ⟨_,(ois hF12),hE.sub ⟨rfl,rfl,rfl,trivial⟩,hM⟩
   ·intro hb16
    have hF12:=ZA hF12 hb16
    refine wp_exit (Zs (Zs (Yz ?_)))
    have ht21:=hx8 _ (ois hF12)
    subst ht21
    refine Zn ?_
    exact ⟨hE.sub ⟨rfl,trivial⟩,hM⟩
 ·skip
  rintro a w ⟨hE,hM⟩
  refine ZG (Zd (Zc hE Za ld rfl fun a hE=>Ze hE Za ld rfl fun a hE=>Zf ?_))
  have hr:=Option.some.inj hF5
  subst hr
  exact wp_ret (ZK hE rfl (Zx hE rfl) ⟨_,rfl,b1,rfl,hM⟩)
def ZC (p0_0 : (List UInt8)) (p0 : (Int × Int)) (p1 : Int) : Option ((Int × Int) × Int) :=
 if (decide (p1 < 1)) = true then (some ((p0.1,p0.2),0)) else (((some (decide (p0.1 < (p0_0.length : Int))) : Option (Bool)).bind fun j5=>if j5 = true then (((idx p0_0 p0.1).bind fun x15=>some (wr ((IntKind.i64.wrap (wru (BitVec.ofInt 64 (Tc (IntKind.u64.wrap ((IntKind.u64.wrap (p0.2 * 6364136223846793005)) + 1442695040888963407)) 33) &&& BitVec.ofInt 64 16777215).toNat)) + (bI x15))) : Option (Int)).bind fun j11=>some (wr (p0.1 + 1),j11)) else (some (p0.1,IntKind.i64.wrap (wru (BitVec.ofInt 64 (Tc (IntKind.u64.wrap ((IntKind.u64.wrap (p0.2 * 6364136223846793005)) + 1442695040888963407)) 33) &&& BitVec.ofInt 64 16777215).toNat))) : Option (Int × Int)).bind fun j2=>(K9 p1).bind fun _=>some ((j2.1,IntKind.u64.wrap ((IntKind.u64.wrap (p0.2 * 6364136223846793005)) + 1442695040888963407)),Int.tmod j2.2 p1))
theorem ZH (St : Nat → Prop) (W w0 : World) (R : Item) (pb0 : Nat) (p0_0 : (List UInt8)) (v0_0 : Value) (hv0_0 : Rep.sat St W p0_0 [v0_0] []) (p0 : (Int × Int)) (p1 : Int) (hM : M St W w0 [raw pb0 (cat [[v0_0],[vI p0.1],[(Value.int .u64 p0.2)]]),R]) (r : (Int × Int) × Int) (hF : ZC p0_0 p0 p1 = some r) :
  Calls Try.prog 50 [(ptr pb0 0),vI p1].toArray w0 (fun en w'=>∃ v,en = .returned v ∧ (v = (vI r.2) ∧ M St W w' [raw pb0 (cat [[v0_0],[vI r.1.1],[(Value.int .u64 r.1.2)]]),R])):=by
 refine ZJ (n:=58) Try.func50 rfl rfl (nbl rfl) rfl ?_
 intro a hE
 unfold ZC at hF
 refine Zd (Ze hE Za ld rfl fun a hE=>Zf (wp_seq (Zd (Zc hE Za ld rfl fun a hE=>Zm hE Za ld rfl rfl rfl fun a hE=>Zf ?_))))
 refine Zv hE rfl ?_ ?_
 ·intro hb1
  have hF:=ZB hF hb1
  refine Zd (Ze hE Za ld rfl fun a hE=>Zf ?_)
  have hr:=Option.some.inj hF
  subst hr
  exact wp_ret (ZP (ZK hE rfl (Zx hE rfl) ⟨_,rfl,rfl,hM⟩))
 ·intro hb1
  have hF:=ZA hF hb1
  refine wp_skip (ZG (Zd (Zc hE Za ld rfl fun a hE=>Zc hE Za ld rfl fun a hE=>Z9 hE Za ld rfl fun a hE=>Zr hE Za ld rfl (Ji) fun a hE=>ZF (v:=(Value.int .u64 p0.2)) hE Za ld rfl ty45 rfl (At.cat (pre:=[[v0_0],[vI p0.1]]) (hM.rawAt (pre:=[])) (cl1 (n:=1) (m:=1) rfl (cl1 (n:=1) (m:=0) rfl cl0))) fun a hE=>Zm hE Za ld rfl rfl rfl fun a hE=>Zm hE Za ld rfl rfl rfl fun a hE=>Z9 hE Za ld rfl fun a hE=>Zr hE Za ld rfl (Ji) fun a hE=>Zi (seg:=[(Value.int .u64 (IntKind.u64.wrap ((IntKind.u64.wrap (p0.2 * 6364136223846793005)) + 1442695040888963407)))]) hE hM Za rfl rfl rfl ty45 rfl (UX (pre:=[[v0_0],[vI p0.1]]) (cl1 (n:=1) (m:=1) rfl (cl1 (n:=1) (m:=0) rfl cl0)) rfl) zX (WL (pre:=[[v0_0],[vI p0.1]]) (cl1 (n:=1) (m:=1) rfl (cl1 (n:=1) (m:=0) rfl cl0)) rfl) fun w a hM hE=>Zf (Zd (Zc hE Za ld rfl fun a hE=>Z9 hE Za ld rfl ?_))))); intro a hE
  refine Zr hE Za ld rfl (Ji) fun a hE=>ZF (v:=(Value.int .u64 (IntKind.u64.wrap ((IntKind.u64.wrap (p0.2 * 6364136223846793005)) + 1442695040888963407)))) hE Za ld rfl ty45 rfl (At.cat (pre:=[[v0_0],[vI p0.1]]) (hM.rawAt (pre:=[])) (cl1 (n:=1) (m:=1) rfl (cl1 (n:=1) (m:=0) rfl cl0))) fun a hE=>Bf hE Za ld rfl rfl (bU_shr _ _ (by decide)) fun a hE=>Zm hE Za ld rfl rfl rfl fun a hE=>Yg hE Za ld rfl Try.underlying45 Try.underlying2 fun a hE=>Ze hE Za ld rfl fun a hE=>Zf ?_
  obtain ⟨j2,hl3,hF4⟩:=bind_some hF
  refine ZT (fun a w=>Env 58 a [(1,vI p1),(5,vI j2.2)] ∧ M St W w [raw pb0 (cat [[v0_0],[vI j2.1],[(Value.int .u64 (IntKind.u64.wrap ((IntKind.u64.wrap (p0.2 * 6364136223846793005)) + 1442695040888963407)))]]),R]) ?_ ?_
  ·skip
   obtain ⟨j5,hl6,hF7⟩:=bind_some hl3
   refine ZT (fun a w=>Env 58 a [(0,(ptr pb0 0)),(1,vI p1),(5,(vI (IntKind.i64.wrap (wru (BitVec.ofInt 64 (Tc (IntKind.u64.wrap ((IntKind.u64.wrap (p0.2 * 6364136223846793005)) + 1442695040888963407)) 33) &&& BitVec.ofInt 64 16777215).toNat)))),(33,vT j5)] ∧ M St W w [raw pb0 (cat [[v0_0],[vI p0.1],[(Value.int .u64 (IntKind.u64.wrap ((IntKind.u64.wrap (p0.2 * 6364136223846793005)) + 1442695040888963407)))]]),R]) ?_ ?_
   ·skip
    refine Yw (n:=58) (hd:=[_,_,_,_,_,_,_,_,_,_]) (tl:=[]) YS rfl rfl [24,25,26,27,28,29,30,31,32,33] (by decide) (fun w=>M St W w [raw pb0 (cat [[v0_0],[vI p0.1],[(Value.int .u64 (IntKind.u64.wrap ((IntKind.u64.wrap (p0.2 * 6364136223846793005)) + 1442695040888963407)))]]),R]) (fun j=>([fun v _=>v = (ptr pb0 0),fun v _=>v = (ptr pb0 0),fun v _=>v = (ptr pb0 (0 + 1)),fun v _=>v = (vI p0.1),fun v _=>v = (ptr pb0 0),fun v _=>v = (ptr pb0 0),fun v _=>v = (ptr pb0 (0 + 0)),fun v _=>v = v0_0,fun v _=>v = (vI (p0_0.length : Int)),fun v _=>v = (vT (decide (p0.1 < (p0_0.length : Int))))] : List (Value → World → Prop)).getD j (fun _ _=>True)) (fun _ _ h hk=>h.keep hk) (gup (Zp (Zp (Zp (Zp (Zp (Zp (Zp (Zp (Zp (Zp Vq))))))))))) hE hM.drew (ZS (Zb ?_ (Zb ?_ (Zb ?_ (Zb ?_ (Zb ?_ (Zb ?_ (Zb ?_ (Zb ?_ (Zb ?_ (Zb ?_ ZL))))))))))) ?_
    ·exact fun a w ux8 hE hM hp=>Zc hE Za ld rfl fun a hE=>⟨Kept.refl _ _,_,_,rfl,hE,rfl⟩
    ·intro a w ux8 hE hM hp
     have f0 : ux8 0 = (ptr pb0 0):=hp 0 _ rfl rfl
     exact Z9 hE Za ld (lk rfl f0) fun a hE=>⟨Kept.refl _ _,_,_,rfl,hE,rfl⟩
    ·intro a w ux8 hE hM hp
     have f1 : ux8 1 = (ptr pb0 0):=hp 0 _ rfl rfl
     exact Zr hE Za ld (lk rfl f1) (HD) fun a hE=>⟨Kept.refl _ _,_,_,rfl,hE,rfl⟩
    ·intro a w ux8 hE hM hp
     have f2 : ux8 2 = (ptr pb0 (0 + 1)):=hp 0 _ rfl rfl
     exact ZF (v:=(vI p0.1)) hE Za ld (lk rfl f2) ty3 rfl (At.cat (pre:=[[v0_0]]) (hM.rawAt (pre:=[])) (cl1 (n:=1) (m:=0) rfl cl0)) fun a hE=>⟨Kept.refl _ _,_,_,rfl,hE,rfl⟩
    ·exact fun a w ux8 hE hM hp=>Zc hE Za ld rfl fun a hE=>⟨Kept.refl _ _,_,_,rfl,hE,rfl⟩
    ·intro a w ux8 hE hM hp
     have f4 : ux8 4 = (ptr pb0 0):=hp 0 _ rfl rfl
     exact Z9 hE Za ld (lk rfl f4) fun a hE=>⟨Kept.refl _ _,_,_,rfl,hE,rfl⟩
    ·intro a w ux8 hE hM hp
     have f5 : ux8 5 = (ptr pb0 0):=hp 0 _ rfl rfl
     exact Zr hE Za ld (lk rfl f5) (zO) fun a hE=>⟨Kept.refl _ _,_,_,rfl,hE,rfl⟩
    ·intro a w ux8 hE hM hp
     have f6 : ux8 6 = (ptr pb0 (0 + 0)):=hp 0 _ rfl rfl
     exact ZF (v:=v0_0) hE Za ld (lk rfl f6) ty22 rfl (At.cat (pre:=[]) (hM.rawAt (pre:=[])) cl0) fun a hE=>⟨Kept.refl _ _,_,_,rfl,hE,rfl⟩
    ·intro a w ux8 hE hM hp
     have f7 : ux8 7 = v0_0:=hp 0 _ rfl rfl
     exact UU hE Za ld (lk rfl f7) Try.underlying22 (hM.rd hv0_0) fun a hE=>⟨Kept.refl _ _,_,_,rfl,hE,rfl⟩
    ·intro a w ux8 hE hM hp
     have f3 : ux8 3 = (vI p0.1):=hp 0 _ rfl rfl
     have f8 : ux8 8 = (vI (p0_0.length : Int)):=hp 1 _ rfl rfl
     exact Zm hE Za ld (lk rfl f3) (lk rfl f8) rfl fun a hE=>⟨Kept.refl _ _,_,_,rfl,hE,rfl⟩
    ·intro a w ux8 hE hM hg
     have hE:=hE.sub (e':=[(33,(vT (decide (p0.1 < (p0_0.length : Int))))),(0,(ptr pb0 0)),(1,vI p1),(4,vI 0),(5,(vI (IntKind.i64.wrap (wru (BitVec.ofInt 64 (Tc (IntKind.u64.wrap ((IntKind.u64.wrap (p0.2 * 6364136223846793005)) + 1442695040888963407)) 33) &&& BitVec.ofInt 64 16777215).toNat))))]) ⟨lk rfl (hg 9 (by decide)),rfl,rfl,rfl,rfl,trivial⟩
     refine Zk ?_
     have ht9:=Option.some.inj hl6
     subst ht9
     refine Zn ?_
     exact ⟨hE.sub ⟨rfl,rfl,rfl,rfl,trivial⟩,hM⟩
   ·skip
    rintro a w ⟨hE,hM⟩
    refine Zv hE rfl ?_ ?_
    ·intro hb10
     have hF7:=ZB hF7 hb10
     obtain ⟨j11,hl12,hF13⟩:=bind_some hF7
     refine ZT (fun a w=>Env 58 a [(0,(ptr pb0 0)),(1,vI p1),(5,vI j11)] ∧ M St W w [raw pb0 (cat [[v0_0],[vI p0.1],[(Value.int .u64 (IntKind.u64.wrap ((IntKind.u64.wrap (p0.2 * 6364136223846793005)) + 1442695040888963407)))]]),R]) ?_ ?_
     ·skip
      obtain ⟨x15,hi17,hl12⟩:=bix hl12
      refine Yw (n:=58) (hd:=[_,_,_,_,_,_,_,_,_,_,_,_,_]) (tl:=[_]) YS rfl rfl [34,35,36,37,38,39,40,41,42,43,44,45,46] (by decide) (fun w=>M St W w [raw pb0 (cat [[v0_0],[vI p0.1],[(Value.int .u64 (IntKind.u64.wrap ((IntKind.u64.wrap (p0.2 * 6364136223846793005)) + 1442695040888963407)))]]),R]) (fun j=>([fun v _=>v = (vI (IntKind.i64.wrap (wru (BitVec.ofInt 64 (Tc (IntKind.u64.wrap ((IntKind.u64.wrap (p0.2 * 6364136223846793005)) + 1442695040888963407)) 33) &&& BitVec.ofInt 64 16777215).toNat))),fun v _=>v = (ptr pb0 0),fun v _=>v = (ptr pb0 0),fun v _=>v = (ptr pb0 (0 + 0)),fun v _=>v = v0_0,fun v _=>v = (ptr pb0 0),fun v _=>v = (ptr pb0 0),fun v _=>v = (ptr pb0 (0 + 1)),fun v _=>v = (vI p0.1),fun v _=>v = (ptr (sb v0_0) (so v0_0 + (p0.1).toNat * 1)),fun v _=>v = (vB x15),fun v _=>v = (vI (bI x15)),fun v _=>v = (vI (wr ((IntKind.i64.wrap (wru (BitVec.ofInt 64 (Tc (IntKind.u64.wrap ((IntKind.u64.wrap (p0.2 * 6364136223846793005)) + 1442695040888963407)) 33) &&& BitVec.ofInt 64 16777215).toNat)) + (bI x15))))] : List (Value → World → Prop)).getD j (fun _ _=>True)) (fun _ _ h hk=>h.keep hk) (gup (Zp (Zp (Zp (Zp (Zp (Zp (Zp (Zp (Zp (Zp (Zp (Zp (Zp Vq)))))))))))))) hE hM.drew (ZS (Zb ?_ (Zb ?_ (Zb ?_ (Zb ?_ (Zb ?_ (Zb ?_ (Zb ?_ (Zb ?_ (Zb ?_ (Zb ?_ (Zb ?_ (Zb ?_ (Zb ?_ ZL)))))))))))))) ?_
      ·exact fun a w ux14 hE hM hp=>Zc hE Za ld rfl fun a hE=>⟨Kept.refl _ _,_,_,rfl,hE,rfl⟩
      ·exact fun a w ux14 hE hM hp=>Zc hE Za ld rfl fun a hE=>⟨Kept.refl _ _,_,_,rfl,hE,rfl⟩
      ·intro a w ux14 hE hM hp
       have f1 : ux14 1 = (ptr pb0 0):=hp 0 _ rfl rfl
       exact Z9 hE Za ld (lk rfl f1) fun a hE=>⟨Kept.refl _ _,_,_,rfl,hE,rfl⟩
      ·intro a w ux14 hE hM hp
       have f2 : ux14 2 = (ptr pb0 0):=hp 0 _ rfl rfl
       exact Zr hE Za ld (lk rfl f2) (zO) fun a hE=>⟨Kept.refl _ _,_,_,rfl,hE,rfl⟩
      ·intro a w ux14 hE hM hp
       have f3 : ux14 3 = (ptr pb0 (0 + 0)):=hp 0 _ rfl rfl
       exact ZF (v:=v0_0) hE Za ld (lk rfl f3) ty22 rfl (At.cat (pre:=[]) (hM.rawAt (pre:=[])) cl0) fun a hE=>⟨Kept.refl _ _,_,_,rfl,hE,rfl⟩
      ·exact fun a w ux14 hE hM hp=>Zc hE Za ld rfl fun a hE=>⟨Kept.refl _ _,_,_,rfl,hE,rfl⟩
      ·intro a w ux14 hE hM hp
       have f5 : ux14 5 = (ptr pb0 0):=hp 0 _ rfl rfl
       exact Z9 hE Za ld (lk rfl f5) fun a hE=>⟨Kept.refl _ _,_,_,rfl,hE,rfl⟩
      ·intro a w ux14 hE hM hp
       have f6 : ux14 6 = (ptr pb0 0):=hp 0 _ rfl rfl
       exact Zr hE Za ld (lk rfl f6) (HD) fun a hE=>⟨Kept.refl _ _,_,_,rfl,hE,rfl⟩
      ·intro a w ux14 hE hM hp
       have f7 : ux14 7 = (ptr pb0 (0 + 1)):=hp 0 _ rfl rfl
       exact ZF (v:=(vI p0.1)) hE Za ld (lk rfl f7) ty3 rfl (At.cat (pre:=[[v0_0]]) (hM.rawAt (pre:=[])) (cl1 (n:=1) (m:=0) rfl cl0)) fun a hE=>⟨Kept.refl _ _,_,_,rfl,hE,rfl⟩
      ·intro a w ux14 hE hM hp
       have f4 : ux14 4 = v0_0:=hp 0 _ rfl rfl
       have f8 : ux14 8 = (vI p0.1):=hp 1 _ rfl rfl
       exact Yv hE Za ld (lk rfl f4) (lk rfl f8) Try.underlying22 ty5 (hM.rd hv0_0) hi17.1 fun a hE=>⟨Kept.refl _ _,_,_,rfl,hE,rfl⟩
      ·intro a w ux14 hE hM hp
       have f9 : ux14 9 = (ptr (sb v0_0) (so v0_0 + (p0.1).toNat * 1)):=hp 0 _ rfl rfl
       exact ZF (v:=(vB x15)) hE Za ld (lk rfl f9) ty5 rfl (X9 (hM.rd hv0_0) hi17.2) fun a hE=>⟨Kept.refl _ _,_,_,rfl,hE,rfl⟩
      ·intro a w ux14 hE hM hp
       have f10 : ux14 10 = (vB x15):=hp 0 _ rfl rfl
       refine Yg hE Za ld (lk rfl f10) Try.underlying5 Try.underlying2 ?_; intro a hE
       rw [Uy] at hE
       exact ⟨Kept.refl _ _,_,_,rfl,hE,rfl⟩
      ·intro a w ux14 hE hM hp
       have f0 : ux14 0 = (vI (IntKind.i64.wrap (wru (BitVec.ofInt 64 (Tc (IntKind.u64.wrap ((IntKind.u64.wrap (p0.2 * 6364136223846793005)) + 1442695040888963407)) 33) &&& BitVec.ofInt 64 16777215).toNat))):=hp 0 _ rfl rfl
       have f11 : ux14 11 = (vI (bI x15)):=hp 1 _ rfl rfl
       exact Zm hE Za ld (lk rfl f0) (lk rfl f11) rfl fun a hE=>⟨Kept.refl _ _,_,_,rfl,hE,rfl⟩
      ·intro a w ux14 hE hM hg
       have hE:=hE.sub (e':=[(46,(vI (wr ((IntKind.i64.wrap (wru (BitVec.ofInt 64 (Tc (IntKind.u64.wrap ((IntKind.u64.wrap (p0.2 * 6364136223846793005)) + 1442695040888963407)) 33) &&& BitVec.ofInt 64 16777215).toNat)) + (bI x15))))),(0,(ptr pb0 0)),(1,vI p1),(5,(vI (IntKind.i64.wrap (wru (BitVec.ofInt 64 (Tc (IntKind.u64.wrap ((IntKind.u64.wrap (p0.2 * 6364136223846793005)) + 1442695040888963407)) 33) &&& BitVec.ofInt 64 16777215).toNat))))]) ⟨lk rfl (hg 12 (by decide)),rfl,rfl,rfl,trivial⟩
       refine Ze hE Za ld rfl fun a hE=>Zk ?_
       have ht18:=Option.some.inj hl12
       subst ht18
       refine Zn ?_
       exact ⟨hE.sub ⟨rfl,rfl,rfl,trivial⟩,hM⟩
     ·skip
      rintro a w ⟨hE,hM⟩
      refine wp_region_lit (Zc hE Za ld rfl fun a hE=>Zc hE Za ld rfl fun a hE=>Z9 hE Za ld rfl fun a hE=>Zr hE Za ld rfl (HD) fun a hE=>ZF (v:=(vI p0.1)) hE Za ld rfl ty3 rfl (At.cat (pre:=[[v0_0]]) (hM.rawAt (pre:=[])) (cl1 (n:=1) (m:=0) rfl cl0)) fun a hE=>Zm hE Za ld rfl rfl rfl fun a hE=>Z9 hE Za ld rfl fun a hE=>Zr hE Za ld rfl (HD) fun a hE=>Zi (seg:=[(vI (wr (p0.1 + 1)))]) hE hM Za rfl rfl rfl ty3 rfl (UX (pre:=[[v0_0]]) (cl1 (n:=1) (m:=0) rfl cl0) rfl) (Flat.cell (wr (p0.1 + 1) : Int)) (WL (pre:=[[v0_0]]) (cl1 (n:=1) (m:=0) rfl cl0) rfl) fun w a hM hE=>Zk ?_)
      have ht19:=Option.some.inj hF13
      subst ht19
      refine Zn ?_
      exact ⟨hE.sub ⟨rfl,rfl,trivial⟩,hM⟩
    ·intro hb10
     have hF7:=ZA hF7 hb10
     refine wp_skip ?_
     have ht20:=Option.some.inj hF7
     subst ht20
     refine Zn ?_
     exact ⟨hE.sub ⟨rfl,rfl,trivial⟩,hM⟩
  ·skip
   rintro a w ⟨hE,hM⟩
   refine Zd (Zc hE Za ld rfl fun a hE=>Zc hE Za ld rfl ?_); intro a hE
   obtain ⟨_,e21,hF4⟩:=bind_some hF4
   have e21:=B7 e21
   refine Zm hE Za ld rfl rfl (Kc _ _ e21) fun a hE=>Ze hE Za ld rfl fun a hE=>Zf ?_
   have hr:=Option.some.inj hF4
   subst hr
   exact wp_ret (ZK hE rfl (Zx hE rfl) ⟨_,rfl,rfl,hM⟩)
def YZ (p0_0 : (List UInt8)) (p0 : (Int × Int)) (p1 : (List Int)) : Option ((Int × Int) × Int) :=
 (ZC p0_0 (p0.1,p0.2) (p1.length : Int)).bind fun r1=>(idx p1 r1.2).bind fun x3=>some ((r1.1.1,r1.1.2),x3)
theorem Vs (St : Nat → Prop) (W w0 : World) (R : Item) (pb0 : Nat) (p0_0 : (List UInt8)) (v0_0 : Value) (hv0_0 : Rep.sat St W p0_0 [v0_0] []) (p0 : (Int × Int)) (p1 : (List Int)) (v1 : Value) (hM : M St W w0 [raw pb0 (cat [[v0_0],[vI p0.1],[(Value.int .u64 p0.2)]]),osl NoB (p1 : List Int) v1,R]) (r : (Int × Int) × Int) (hF : YZ p0_0 p0 p1 = some r) :
  Calls Try.prog 49 [(ptr pb0 0),v1].toArray w0 (fun en w'=>∃ v,en = .returned v ∧ (v = (vI r.2) ∧ M St W w' [raw pb0 (cat [[v0_0],[vI r.1.1],[(Value.int .u64 r.1.2)]]),osl NoB (p1 : List Int) v1,R])):=by
 refine ZJ (n:=12) Try.func49 rfl rfl (nbl rfl) rfl ?_
 intro a hE
 unfold YZ at hF
 refine Zd (Ze hE Za ld rfl fun a hE=>Zf (Zd (Zc hE Za ld rfl fun a hE=>Zc hE Za ld rfl fun a hE=>Zc hE Za ld rfl fun a hE=>UU hE Za ld rfl Try.underlying138 (hM.sl (pre:=[_]) noB) ?_))); intro a hE
 have hM:=M.tailP (m:=[_]) hM
 obtain ⟨r1,e2,hF⟩:=bind_some hF
 refine Zo hE Za ld rfl VD (ZH _ _ _ _ pb0 p0_0 v0_0 hv0_0 (p0.1,p0.2) (p1.length : Int) hM r1 e2) ?_
 rintro v w a ⟨rfl,hM⟩ hE
 have hM:=M.tailU (m:=[_]) hM
 simp only [List.cons_append,List.nil_append] at hM
 obtain ⟨x3,hi5,hF⟩:=bix hF
 refine Yv hE Za ld rfl rfl Try.underlying138 ty2 (hM.sl (pre:=[_]) noB) hi5.1 fun a hE=>ZF (v:=(vI x3)) hE Za ld rfl ty2 rfl (X9 (hM.sl (pre:=[_]) noB) hi5.2) fun a hE=>Ze hE Za ld rfl fun a hE=>Zf ?_
 have hr:=Option.some.inj hF
 subst hr
 exact wp_ret (ZK hE rfl (Zx hE rfl) ⟨_,rfl,rfl,hM⟩)
def Xc (p0 : Int) (s4 : Int × Int × Int) : Option (Fl (Int × Int × Int) Int) :=
 if (decide (s4.2.2 > 0)) = true then (((if ((Int.tmod s4.2.2 2) == 1) = true then (some (KE s4.1 s4.2.1)) else (some s4.1) : Option (Int)).bind fun j12=>(if (decide ((wr (s4.2.1 * 2)) ≥ 256)) = true then (some (KE (wr (s4.2.1 * 2)) p0)) else (some (wr (s4.2.1 * 2))) : Option (Int)).bind fun j18=>some (j12,j18) : Option (Int × Int)).bind fun j9=>some (Fl.nx (j9.1,j9.2,wr (Int.tdiv s4.2.2 2)))) else (some (Fl.ex s4.1))
def Yd (p0 : Int) (p1 : UInt8) (p2 : UInt8) : Option (UInt8) :=
 (ZQ (Xc p0) (0,bI p1,bI p2)).bind fun j1=>some (ZE j1)
theorem YO (w0 : World) (p0 : Int) (p1 : UInt8) (p2 : UInt8) (r : UInt8) (hF : Yd p0 p1 p2 = some r) :
  Calls Try.prog 178 [vI p0,vB p1,vB p2].toArray w0 (fun en w'=>∃ v,en = .returned v ∧ (v = (vB r) ∧ Kept (Old w0) w0 w')):=by
 refine ZJ (n:=33) Try.func178 rfl rfl (nbl rfl) rfl ?_
 intro a hE
 have hM:=M.start w0
 unfold Yd at hF
 refine Zd (Ze hE Za ld rfl fun a hE=>Zf (Zd (Zc hE Za ld rfl fun a hE=>Yg hE Za ld rfl Try.underlying5 Try.underlying2 ?_))); intro a hE
 rw [Uy] at hE
 refine Ze hE Za ld rfl fun a hE=>Ze hE Za ld rfl fun a hE=>Zf (wp_seq (Zd (Zc hE Za ld rfl fun a hE=>Yg hE Za ld rfl Try.underlying5 Try.underlying2 ?_))); intro a hE
 rw [Uy] at hE
 refine Ze hE Za ld rfl fun a hE=>Zf ?_
 obtain ⟨j1,hl2,hF3⟩:=bind_some hF
 refine Z0 (fun a w=>Env 33 a [(7,vI j1)] ∧ M (Old w0) w0 w []) ?_ ?_
 ·skip
  refine wp_block ?_
  refine ZV (fun (s4 : Int × Int × Int) a w=>Env 33 a [(0,vI p0),(7,vI s4.1),(8,vI s4.2.1),(9,vI s4.2.2)] ∧ M (Old w0) w0 w []) hl2 ⟨hE.sub ⟨rfl,rfl,rfl,rfl,trivial⟩,hM⟩ ?_
  rintro s4 a w ⟨hE,hM⟩ o7 hs5 hx6
  unfold Xc at hs5
  refine wp_seq (Zd (Zc hE Za ld rfl fun a hE=>Zm hE Za ld rfl rfl rfl fun a hE=>Zf ?_))
  refine Zv hE rfl ?_ ?_
  ·intro hb8
   have hs5:=ZB hs5 hb8
   refine wp_skip (ZG ?_)
   obtain ⟨j9,hl10,hF11⟩:=bind_some hs5
   refine ZT (fun a w=>Env 33 a [(0,vI p0),(7,vI j9.1),(8,vI j9.2),(9,vI s4.2.2)] ∧ M (Old w0) w0 w []) ?_ ?_
   ·skip
    refine wp_block ?_
    obtain ⟨j12,hl13,hF14⟩:=bind_some hl10
    refine ZT (fun a w=>Env 33 a [(0,vI p0),(7,vI j12),(8,vI s4.2.1),(9,vI s4.2.2)] ∧ M (Old w0) w0 w []) ?_ ?_
    ·skip
     refine Zd (Zc hE Za ld rfl fun a hE=>Zm hE Za ld rfl rfl (Kc _ _ (by decide)) fun a hE=>Zm hE Za ld rfl rfl rfl fun a hE=>Zf ?_)
     refine Zv hE rfl ?_ ?_
     ·intro hb15
      have hl13:=ZB hl13 hb15
      refine wp_region_lit (Zc hE Za ld rfl fun a hE=>Zc hE Za ld rfl fun a hE=>Zm hE Za ld rfl rfl rfl fun a hE=>Ze hE Za ld rfl fun a hE=>Zk ?_)
      have ht16:=Option.some.inj hl13
      subst ht16
      refine Zn ?_
      exact ⟨hE.sub ⟨rfl,rfl,rfl,rfl,trivial⟩,hM⟩
     ·intro hb15
      have hl13:=ZA hl13 hb15
      refine wp_skip ?_
      have ht17:=Option.some.inj hl13
      subst ht17
      refine Zn ?_
      exact ⟨hE.sub ⟨rfl,rfl,rfl,rfl,trivial⟩,hM⟩
    ·skip
     rintro a w ⟨hE,hM⟩
     refine Zd (Zc hE Za ld rfl fun a hE=>Zm hE Za ld rfl rfl rfl fun a hE=>Ze hE Za ld rfl fun a hE=>Zf (Zd (Zc hE Za ld rfl fun a hE=>Zm hE Za ld rfl rfl rfl fun a hE=>Zf ?_)))
     obtain ⟨j18,hl19,hF20⟩:=bind_some hF14
     refine Z0 (fun a w=>Env 33 a [(0,vI p0),(7,vI j12),(8,vI j18),(9,vI s4.2.2)] ∧ M (Old w0) w0 w []) ?_ ?_
     ·skip
      refine Zv hE rfl ?_ ?_
      ·intro hb21
       have hl19:=ZB hl19 hb21
       refine wp_region_lit (Zc hE Za ld rfl fun a hE=>Zc hE Za ld rfl fun a hE=>Zm hE Za ld rfl rfl rfl fun a hE=>Ze hE Za ld rfl fun a hE=>Zk ?_)
       have ht22:=Option.some.inj hl19
       subst ht22
       refine Zn ?_
       exact ⟨hE.sub ⟨rfl,rfl,rfl,rfl,trivial⟩,hM⟩
      ·intro hb21
       have hl19:=ZA hl19 hb21
       refine wp_skip ?_
       have ht23:=Option.some.inj hl19
       subst ht23
       refine Zn ?_
       exact ⟨hE.sub ⟨rfl,rfl,rfl,rfl,trivial⟩,hM⟩
     ·skip
      rintro a w ⟨hE,hM⟩
      refine Yj ?_
      have ht24:=Option.some.inj hF20
      subst ht24
      refine Zn ?_
      exact ⟨hE.sub ⟨rfl,rfl,rfl,rfl,trivial⟩,hM⟩
   ·skip
    rintro a w ⟨hE,hM⟩
    refine wp_region_lit (Zc hE Za ld rfl fun a hE=>Zm hE Za ld rfl rfl (Qf _ _ (by decide)) fun a hE=>Ze hE Za ld rfl fun a hE=>Zk (Zn ?_))
    exact ⟨_,(ois hF11),hE.sub ⟨rfl,rfl,rfl,rfl,trivial⟩,hM⟩
  ·intro hb8
   have hs5:=ZA hs5 hb8
   refine wp_exit (Zs (Zs (Yz ?_)))
   have ht25:=hx6 _ (ois hs5)
   subst ht25
   refine Zn ?_
   exact ⟨hE.sub ⟨rfl,trivial⟩,hM⟩
 ·skip
  rintro a w ⟨hE,hM⟩
  refine ZG (Zd (Zc hE Za ld rfl fun a hE=>Yg hE Za ld rfl Try.underlying2 Try.underlying5 ?_)); intro a hE
  rw [Z6] at hE
  refine Ze hE Za ld rfl fun a hE=>Zf ?_
  have hr:=Option.some.inj hF3
  subst hr
  exact wp_ret (ZK hE rfl (Zx hE rfl) ⟨_,rfl,rfl,hM.kept⟩)
def YG (p0 : Int) (s16 : UInt8 × UInt8 × Int) : Option (Fl (UInt8 × UInt8 × Int) UInt8) :=
 if (decide (s16.2.2 > 0)) = true then (((if ((Int.tmod s16.2.2 2) == 1) = true then ((Yd p0 s16.1 s16.2.1).bind fun r28=>some r28) else (some s16.1) : Option (UInt8)).bind fun j24=>(Yd p0 s16.2.1 s16.2.1).bind fun r32=>some (j24,r32) : Option (UInt8 × UInt8)).bind fun j21=>some (Fl.nx (j21.1,j21.2,wr (Int.tdiv s16.2.2 2)))) else (some (Fl.ex s16.1))
def Xb (p0 : Int) (p1 : Int) (s8 : (Vector UInt8 256) × Int) : Option (Fl ((Vector UInt8 256) × Int) (Vector UInt8 256)) :=
 if (decide (s8.2 < 256)) = true then ((ZQ (YG p0) (1,ZE s8.2,p1)).bind fun j13=>(ZI s8.1 s8.2).bind fun x37=>some (Fl.nx ((s8.1.setIfInBounds (s8.2).toNat j13),wr (s8.2 + 1)))) else (some (Fl.ex s8.1))
def Y3 (p0 : Int) (p1 : Int) : Option ((Vector UInt8 256)) :=
 (ZQ (Xb p0 p1) ((Vector.replicate 256 (0 : UInt8)),0)).bind fun j5=>some j5
theorem TE (w0 : World) (p0 : Int) (p1 : Int) (r : (Vector UInt8 256)) (hF : Y3 p0 p1 = some r) :
  Calls Try.prog 185 [vI p0,vI p1].toArray w0 (fun en w'=>∃ v,en = .returned v ∧ (v = (Value.agg (enc r).toArray) ∧ Kept (Old w0) w0 w')):=by
 refine ZJ (n:=37) Try.func185 rfl rfl (nbl rfl) rfl ?_
 intro a hE
 have hM:=M.start w0
 unfold Y3 at hF
 refine Zd (Zu hE hM Za ld YC fun b1 w a hM hE=>Zf (Zd (Z7 (parts:=[]) (vs:=[]) (cs:=enc (Vector.replicate 256 (0 : UInt8))) hE Za ld rfl rfl YC rfl ty5 ZZ fun a hE=>Zu hE hM Za ld YC fun b3 w a hM hE=>Zi (seg:=enc (Vector.replicate 256 (0 : UInt8))) (cs':=enc (Vector.replicate 256 (0 : UInt8))) hE hM Za rfl rfl rfl YC (Flat.len _) (zle flq) (Flat.cell _) (Zg flq) fun w a hM hE=>Zf (wp_seq (Zd (Ze hE Za ld rfl fun a hE=>Zf ?_))))))
 obtain ⟨j5,hl6,hF7⟩:=bind_some hF
 refine Z0 (fun a w=>Env 37 a [(4,(ptr b1 0)),(5,(ptr b3 0))] ∧ M (Old w0) w0 w [raw b3 (enc j5),raw b1 (enc (Vector.replicate 256 (0 : UInt8)))]) ?_ ?_
 ·skip
  refine wp_block ?_
  refine ZV (fun (s8 : (Vector UInt8 256) × Int) a w=>Env 37 a [(0,vI p0),(1,vI p1),(4,(ptr b1 0)),(5,(ptr b3 0)),(6,vI s8.2)] ∧ M (Old w0) w0 w [raw b3 (enc s8.1),raw b1 (enc (Vector.replicate 256 (0 : UInt8)))]) hl6 ⟨hE.sub ⟨rfl,rfl,rfl,rfl,rfl,trivial⟩,hM⟩ ?_
  rintro s8 a w ⟨hE,hM⟩ o11 hs9 hx10
  unfold Xb at hs9
  refine wp_seq (Zd (Zc hE Za ld rfl fun a hE=>Zm hE Za ld rfl rfl rfl fun a hE=>Zf ?_))
  refine Zv hE rfl ?_ ?_
  ·intro hb12
   have hs9:=ZB hs9 hb12
   refine wp_skip (ZG (wp_seq (wp_block (Zd (Zc hE Za ld rfl fun a hE=>Yg hE Za ld rfl Try.underlying3 Try.underlying5 ?_))))); intro a hE
   rw [Z6] at hE
   refine Ze hE Za ld rfl fun a hE=>Ze hE Za ld rfl fun a hE=>Zf (wp_seq (Zd (Zc hE Za ld rfl fun a hE=>Ze hE Za ld rfl fun a hE=>Zf ?_)))
   obtain ⟨j13,hl14,hF15⟩:=bind_some hs9
   refine Z0 (fun a w=>Env 37 a [(0,vI p0),(1,vI p1),(4,(ptr b1 0)),(5,(ptr b3 0)),(6,vI s8.2),(7,vB j13)] ∧ M (Old w0) w0 w [raw b3 (enc s8.1),raw b1 (enc (Vector.replicate 256 (0 : UInt8)))]) ?_ ?_
   ·skip
    refine wp_block ?_
    refine ZV (fun (s16 : UInt8 × UInt8 × Int) a w=>Env 37 a [(0,vI p0),(1,vI p1),(4,(ptr b1 0)),(5,(ptr b3 0)),(6,vI s8.2),(7,vB s16.1),(8,vB s16.2.1),(9,vI s16.2.2)] ∧ M (Old w0) w0 w [raw b3 (enc s8.1),raw b1 (enc (Vector.replicate 256 (0 : UInt8)))]) hl14 ⟨hE.sub ⟨rfl,rfl,rfl,rfl,rfl,rfl,rfl,rfl,trivial⟩,hM⟩ ?_
    rintro s16 a w ⟨hE,hM⟩ o19 hs17 hx18
    unfold YG at hs17
    refine wp_seq (Zd (Zc hE Za ld rfl fun a hE=>Zm hE Za ld rfl rfl rfl fun a hE=>Zf ?_))
    refine Zv hE rfl ?_ ?_
    ·intro hb20
     have hs17:=ZB hs17 hb20
     refine wp_skip (ZG ?_)
     obtain ⟨j21,hl22,hF23⟩:=bind_some hs17
     refine ZT (fun a w=>Env 37 a [(0,vI p0),(1,vI p1),(4,(ptr b1 0)),(5,(ptr b3 0)),(6,vI s8.2),(7,vB j21.1),(8,vB j21.2),(9,vI s16.2.2)] ∧ M (Old w0) w0 w [raw b3 (enc s8.1),raw b1 (enc (Vector.replicate 256 (0 : UInt8)))]) ?_ ?_
     ·skip
      refine wp_block ?_
      obtain ⟨j24,hl25,hF26⟩:=bind_some hl22
      refine ZT (fun a w=>Env 37 a [(0,vI p0),(1,vI p1),(4,(ptr b1 0)),(5,(ptr b3 0)),(6,vI s8.2),(7,vB j24),(8,vB s16.2.1),(9,vI s16.2.2)] ∧ M (Old w0) w0 w [raw b3 (enc s8.1),raw b1 (enc (Vector.replicate 256 (0 : UInt8)))]) ?_ ?_
      ·skip
       refine Zd (Zc hE Za ld rfl fun a hE=>Zm hE Za ld rfl rfl (Kc _ _ (by decide)) fun a hE=>Zm hE Za ld rfl rfl rfl fun a hE=>Zf ?_)
       refine Zv hE rfl ?_ ?_
       ·intro hb27
        have hl25:=ZB hl25 hb27
        refine wp_region_lit (Zc hE Za ld rfl fun a hE=>Zc hE Za ld rfl fun a hE=>Zc hE Za ld rfl ?_); intro a hE
        obtain ⟨r28,e29,hl25⟩:=bind_some hl25
        refine Zo hE Za ld rfl KP (YO _ p0 s16.1 s16.2.1 r28 e29) ?_
        rintro v w a ⟨rfl,hK⟩ hE
        have hM:=hM.keep hK
        refine Ze hE Za ld rfl fun a hE=>Zk ?_
        have ht30:=Option.some.inj hl25
        subst ht30
        refine Zn ?_
        exact ⟨hE.sub ⟨rfl,rfl,rfl,rfl,rfl,rfl,rfl,rfl,trivial⟩,hM⟩
       ·intro hb27
        have hl25:=ZA hl25 hb27
        refine wp_skip ?_
        have ht31:=Option.some.inj hl25
        subst ht31
        refine Zn ?_
        exact ⟨hE.sub ⟨rfl,rfl,rfl,rfl,rfl,rfl,rfl,rfl,trivial⟩,hM⟩
      ·skip
       rintro a w ⟨hE,hM⟩
       refine wp_region_lit (Zc hE Za ld rfl fun a hE=>Zc hE Za ld rfl fun a hE=>Zc hE Za ld rfl ?_); intro a hE
       obtain ⟨r32,e33,hF26⟩:=bind_some hF26
       refine Zo hE Za ld rfl KP (YO _ p0 s16.2.1 s16.2.1 r32 e33) ?_
       rintro v w a ⟨rfl,hK⟩ hE
       have hM:=hM.keep hK
       refine Ze hE Za ld rfl fun a hE=>Zk (Yj ?_)
       have ht34:=Option.some.inj hF26
       subst ht34
       refine Zn ?_
       exact ⟨hE.sub ⟨rfl,rfl,rfl,rfl,rfl,rfl,rfl,rfl,trivial⟩,hM⟩
     ·skip
      rintro a w ⟨hE,hM⟩
      refine wp_region_lit (Zc hE Za ld rfl fun a hE=>Zm hE Za ld rfl rfl (Qf _ _ (by decide)) fun a hE=>Ze hE Za ld rfl fun a hE=>Zk (Zn ?_))
      exact ⟨_,(ois hF23),hE.sub ⟨rfl,rfl,rfl,rfl,rfl,rfl,rfl,rfl,trivial⟩,hM⟩
    ·intro hb20
     have hs17:=ZA hs17 hb20
     refine wp_exit (Zs (Zs (Yz ?_)))
     have ht35:=hx18 _ (ois hs17)
     subst ht35
     refine Zn ?_
     exact ⟨hE.sub ⟨rfl,rfl,rfl,rfl,rfl,rfl,trivial⟩,hM⟩
   ·skip
    rintro a w ⟨hE,hM⟩
    refine ZG (wp_region_lit (Zc hE Za ld rfl fun a hE=>Zc hE Za ld rfl ?_)); intro a hE
    obtain ⟨x37,hi36,hF15⟩:=bvx hF15
    refine Zh hE Za ld rfl rfl Try.underlying54 ty5 hi36.1 fun a hE=>Zi (seg:=[vB j13]) (cs':=enc (s8.1.setIfInBounds (s8.2).toNat j13)) hE hM Za rfl rfl rfl ty5 rfl (ZN (v:=s8.1) (x:=j13) hi36.1) (Flat.cell (j13 : UInt8)) (ZD (v:=s8.1) (x:=j13) hi36.1) fun w a hM hE=>Zk (Yj (ZG (wp_region_lit (Zc hE Za ld rfl fun a hE=>Zm hE Za ld rfl rfl rfl fun a hE=>Ze hE Za ld rfl fun a hE=>Zk (Zn ?_)))))
    exact ⟨_,(ois hF15),hE.sub ⟨rfl,rfl,rfl,rfl,rfl,trivial⟩,hM⟩
  ·intro hb12
   have hs9:=ZA hs9 hb12
   refine wp_exit (Zs (Zs (Yz ?_)))
   have ht39:=hx10 _ (ois hs9)
   subst ht39
   refine Zn ?_
   exact ⟨hE.sub ⟨rfl,rfl,trivial⟩,hM⟩
 ·skip
  rintro a w ⟨hE,hM⟩
  refine ZG (Zd (Zj (cs:=enc j5) hE Za ld rfl YC rfl (hM.rawAt (pre:=[])) (Flat.len _) ?_)); intro a hE
  have hM:=hM.pull (pre:=[_])
  refine Zi (seg:=enc j5) (cs':=enc j5) hE hM Za rfl rfl rfl YC (Flat.len _) (zle flq) (Flat.cell _) (Zg flq) fun w a hM hE=>Zf ?_
  have hr:=Option.some.inj hF7
  subst hr
  have hq40 : ZY Try.prog _ _ (.cell 4 54) _:=ZM hE rfl YC rfl (hM.rawAt (pre:=[])) (Flat.len _) rfl
  have hM:=M.fst (l:=[]) hM
  exact wp_ret (ZK hE rfl hq40 ⟨_,rfl,rfl,hM.kept⟩)
def X7 (p0 : UInt8) (p1 : Int) : Option (UInt8) :=
 (Wp (IntKind.u64.wrap p1)).bind fun _=>some (ZE (andI (orI (Ka (bI p0) (IntKind.u64.wrap p1)) (Tc (Ka (bI p0) (IntKind.u64.wrap p1)) 8)) 255))
theorem Bp (w0 : World) (p0 : UInt8) (p1 : Int) (r : UInt8) (hF : X7 p0 p1 = some r) :
  Calls Try.prog 207 [vB p0,vI p1].toArray w0 (fun en w'=>∃ v,en = .returned v ∧ (v = (vB r) ∧ Kept (Old w0) w0 w')):=by
 refine ZJ (n:=17) Try.func207 rfl rfl (nbl rfl) rfl ?_
 intro a hE
 have hM:=M.start w0
 unfold X7 at hF
 refine Zd (Ze hE Za ld rfl fun a hE=>Zf (Zd (Zc hE Za ld rfl fun a hE=>Yg hE Za ld rfl Try.underlying5 Try.underlying2 ?_))); intro a hE
 rw [Uy] at hE
 refine Zc hE Za ld rfl fun a hE=>Yg hE Za ld rfl Try.underlying2 Try.underlying45 ?_; intro a hE
 obtain ⟨_,e1,hF⟩:=bind_some hF
 have e1:=VA e1
 refine Bf hE Za ld rfl rfl (JK _ _ e1) fun a hE=>Ze hE Za ld rfl fun a hE=>Zf (Zd (Zc hE Za ld rfl fun a hE=>Zc hE Za ld rfl fun a hE=>Bf hE Za ld rfl rfl (zw _ _ (by decide)) fun a hE=>Zm hE Za ld rfl rfl rfl fun a hE=>Zm hE Za ld rfl rfl rfl fun a hE=>Yg hE Za ld rfl Try.underlying2 Try.underlying5 ?_)); intro a hE
 rw [Z6] at hE
 refine Ze hE Za ld rfl fun a hE=>Zf ?_
 have hr:=Option.some.inj hF
 subst hr
 exact wp_ret (ZK hE rfl (Zx hE rfl) ⟨_,rfl,rfl,hM.kept⟩)
def Z4 (p0 : (List Int)) (s8 : (Vector UInt8 256) × Int) (s16 : UInt8 × Int) : Option (Fl (UInt8 × Int) UInt8) :=
 if (decide (s16.2 < (p0.length : Int))) = true then ((idx p0 s16.2).bind fun x21=>(X7 (ZE s8.2) x21).bind fun r24=>some (Fl.nx (s16.1 ^^^ r24,wr (s16.2 + 1)))) else (some (Fl.ex s16.1))
def YA (p0 : (List Int)) (p1 : UInt8) (s8 : (Vector UInt8 256) × Int) : Option (Fl ((Vector UInt8 256) × Int) (Vector UInt8 256)) :=
 if (decide (s8.2 < 256)) = true then ((ZQ (Z4 p0 s8) (p1,0)).bind fun j13=>(ZI s8.1 s8.2).bind fun x28=>some (Fl.nx ((s8.1.setIfInBounds (s8.2).toNat j13),wr (s8.2 + 1)))) else (some (Fl.ex s8.1))
def Yt (p0 : (List Int)) (p1 : UInt8) : Option ((Vector UInt8 256)) :=
 (ZQ (YA p0 p1) ((Vector.replicate 256 (0 : UInt8)),0)).bind fun j5=>some j5
theorem UA (w0 : World) (p0 : (List Int)) (v0_1 : Value) (hv0_1 : Ro w0 p0 [v0_1]) (p1 : UInt8) (r : (Vector UInt8 256)) (hF : Yt p0 p1 = some r) :
  Calls Try.prog 186 [v0_1,vB p1].toArray w0 (fun en w'=>∃ v,en = .returned v ∧ (v = (Value.agg (enc r).toArray) ∧ Kept (Old w0) w0 w')):=by
 refine ZJ (n:=34) Try.func186 rfl rfl (nbl rfl) rfl ?_
 intro a hE
 have hM:=M.start w0
 unfold Yt at hF
 refine Zd (Zu hE hM Za ld YC fun b1 w a hM hE=>Zf (Zd (Z7 (parts:=[]) (vs:=[]) (cs:=enc (Vector.replicate 256 (0 : UInt8))) hE Za ld rfl rfl YC rfl ty5 ZZ fun a hE=>Zu hE hM Za ld YC fun b3 w a hM hE=>Zi (seg:=enc (Vector.replicate 256 (0 : UInt8))) (cs':=enc (Vector.replicate 256 (0 : UInt8))) hE hM Za rfl rfl rfl YC (Flat.len _) (zle flq) (Flat.cell _) (Zg flq) fun w a hM hE=>Zf (wp_seq (Zd (Ze hE Za ld rfl fun a hE=>Zf ?_))))))
 obtain ⟨j5,hl6,hF7⟩:=bind_some hF
 refine Z0 (fun a w=>Env 34 a [(4,(ptr b1 0)),(5,(ptr b3 0))] ∧ M (Old w0) w0 w [raw b3 (enc j5),raw b1 (enc (Vector.replicate 256 (0 : UInt8)))]) ?_ ?_
 ·skip
  refine wp_block ?_
  refine ZV (fun (s8 : (Vector UInt8 256) × Int) a w=>Env 34 a [(0,v0_1),(1,vB p1),(4,(ptr b1 0)),(5,(ptr b3 0)),(6,vI s8.2)] ∧ M (Old w0) w0 w [raw b3 (enc s8.1),raw b1 (enc (Vector.replicate 256 (0 : UInt8)))]) hl6 ⟨hE.sub ⟨rfl,rfl,rfl,rfl,rfl,trivial⟩,hM⟩ ?_
  rintro s8 a w ⟨hE,hM⟩ o11 hs9 hx10
  unfold YA at hs9
  refine wp_seq (Zd (Zc hE Za ld rfl fun a hE=>Zm hE Za ld rfl rfl rfl fun a hE=>Zf ?_))
  refine Zv hE rfl ?_ ?_
  ·intro hb12
   have hs9:=ZB hs9 hb12
   refine wp_skip (ZG (wp_seq (wp_block (Zd (Zc hE Za ld rfl fun a hE=>Ze hE Za ld rfl fun a hE=>Zf (wp_seq (Zd (Ze hE Za ld rfl fun a hE=>Zf ?_))))))))
   obtain ⟨j13,hl14,hF15⟩:=bind_some hs9
   refine Z0 (fun a w=>Env 34 a [(0,v0_1),(1,vB p1),(4,(ptr b1 0)),(5,(ptr b3 0)),(6,vI s8.2),(7,vB j13)] ∧ M (Old w0) w0 w [raw b3 (enc s8.1),raw b1 (enc (Vector.replicate 256 (0 : UInt8)))]) ?_ ?_
   ·skip
    refine wp_block ?_
    refine ZV (fun (s16 : UInt8 × Int) a w=>Env 34 a [(0,v0_1),(1,vB p1),(4,(ptr b1 0)),(5,(ptr b3 0)),(6,vI s8.2),(7,vB s16.1),(8,vI s16.2)] ∧ M (Old w0) w0 w [raw b3 (enc s8.1),raw b1 (enc (Vector.replicate 256 (0 : UInt8)))]) hl14 ⟨hE.sub ⟨rfl,rfl,rfl,rfl,rfl,rfl,rfl,trivial⟩,hM⟩ ?_
    rintro s16 a w ⟨hE,hM⟩ o19 hs17 hx18
    unfold Z4 at hs17
    refine wp_seq (Zd (Zc hE Za ld rfl fun a hE=>Zc hE Za ld rfl fun a hE=>UU hE Za ld rfl Try.underlying138 (hM.rd hv0_1) fun a hE=>Zm hE Za ld rfl rfl rfl fun a hE=>Zf ?_))
    refine Zv hE rfl ?_ ?_
    ·intro hb20
     have hs17:=ZB hs17 hb20
     refine wp_skip (ZG (wp_seq (wp_block (wp_region_lit (Zc hE Za ld rfl fun a hE=>Zc hE Za ld rfl fun a hE=>Yg hE Za ld rfl Try.underlying3 Try.underlying5 ?_))))); intro a hE
     rw [Z6] at hE
     refine Zc hE Za ld rfl fun a hE=>Zc hE Za ld rfl ?_; intro a hE
     obtain ⟨x21,hi23,hs17⟩:=bix hs17
     refine Yv hE Za ld rfl rfl Try.underlying138 ty2 (hM.rd hv0_1) hi23.1 fun a hE=>ZF (v:=(vI x21)) hE Za ld rfl ty2 rfl (X9 (hM.rd hv0_1) hi23.2) ?_; intro a hE
     obtain ⟨r24,e25,hs17⟩:=bind_some hs17
     refine Zo hE Za ld rfl cb207 (Bp _ (ZE s8.2) x21 r24 e25) ?_
     rintro v w a ⟨rfl,hK⟩ hE
     have hM:=hM.keep hK
     refine Zm hE Za ld rfl rfl (Ug s16.1 r24) fun a hE=>Ze hE Za ld rfl fun a hE=>Zk (Yj (ZG (wp_region_lit (Zc hE Za ld rfl fun a hE=>Zm hE Za ld rfl rfl rfl fun a hE=>Ze hE Za ld rfl fun a hE=>Zk (Zn ?_)))))
     exact ⟨_,(ois hs17),hE.sub ⟨rfl,rfl,rfl,rfl,rfl,rfl,rfl,trivial⟩,hM⟩
    ·intro hb20
     have hs17:=ZA hs17 hb20
     refine wp_exit (Zs (Zs (Yz ?_)))
     have ht26:=hx18 _ (ois hs17)
     subst ht26
     refine Zn ?_
     exact ⟨hE.sub ⟨rfl,rfl,rfl,rfl,rfl,rfl,trivial⟩,hM⟩
   ·skip
    rintro a w ⟨hE,hM⟩
    refine ZG (wp_region_lit (Zc hE Za ld rfl fun a hE=>Zc hE Za ld rfl ?_)); intro a hE
    obtain ⟨x28,hi27,hF15⟩:=bvx hF15
    refine Zh hE Za ld rfl rfl Try.underlying54 ty5 hi27.1 fun a hE=>Zi (seg:=[vB j13]) (cs':=enc (s8.1.setIfInBounds (s8.2).toNat j13)) hE hM Za rfl rfl rfl ty5 rfl (ZN (v:=s8.1) (x:=j13) hi27.1) (Flat.cell (j13 : UInt8)) (ZD (v:=s8.1) (x:=j13) hi27.1) fun w a hM hE=>Zk (Yj (ZG (wp_region_lit (Zc hE Za ld rfl fun a hE=>Zm hE Za ld rfl rfl rfl fun a hE=>Ze hE Za ld rfl fun a hE=>Zk (Zn ?_)))))
    exact ⟨_,(ois hF15),hE.sub ⟨rfl,rfl,rfl,rfl,rfl,trivial⟩,hM⟩
  ·intro hb12
   have hs9:=ZA hs9 hb12
   refine wp_exit (Zs (Zs (Yz ?_)))
   have ht30:=hx10 _ (ois hs9)
   subst ht30
   refine Zn ?_
   exact ⟨hE.sub ⟨rfl,rfl,trivial⟩,hM⟩
 ·skip
  rintro a w ⟨hE,hM⟩
  refine ZG (Zd (Zj (cs:=enc j5) hE Za ld rfl YC rfl (hM.rawAt (pre:=[])) (Flat.len _) ?_)); intro a hE
  have hM:=hM.pull (pre:=[_])
  refine Zi (seg:=enc j5) (cs':=enc j5) hE hM Za rfl rfl rfl YC (Flat.len _) (zle flq) (Flat.cell _) (Zg flq) fun w a hM hE=>Zf ?_
  have hr:=Option.some.inj hF7
  subst hr
  have hq31 : ZY Try.prog _ _ (.cell 4 54) _:=ZM hE rfl YC rfl (hM.rawAt (pre:=[])) (Flat.len _) rfl
  have hM:=M.fst (l:=[]) hM
  exact wp_ret (ZK hE rfl hq31 ⟨_,rfl,rfl,hM.kept⟩)
def Xw (p0 : (Vector UInt8 256)) (p1 : (Vector UInt8 256)) (s12 : (Vector UInt8 256) × Int) : Option (Fl ((Vector UInt8 256) × Int) (Vector UInt8 256)) :=
 if (decide (s12.2 < 256)) = true then ((ZI p0 s12.2).bind fun x18=>(ZI p1 (bI x18)).bind fun x21=>(ZI s12.1 s12.2).bind fun x24=>some (Fl.nx ((s12.1.setIfInBounds (s12.2).toNat x21),wr (s12.2 + 1)))) else (some (Fl.ex s12.1))
def Wd (p0 : (Vector UInt8 256)) (p1 : (Vector UInt8 256)) : Option ((Vector UInt8 256)) :=
 (ZQ (Xw p0 p1) ((Vector.replicate 256 (0 : UInt8)),0)).bind fun j9=>some j9
theorem Q8 (w0 : World) (p0 : (Vector UInt8 256)) (p1 : (Vector UInt8 256)) (r : (Vector UInt8 256)) (hF : Wd p0 p1 = some r) :
  Calls Try.prog 184 [(Value.agg (enc p0).toArray),(Value.agg (enc p1).toArray)].toArray w0 (fun en w'=>∃ v,en = .returned v ∧ (v = (Value.agg (enc r).toArray) ∧ Kept (Old w0) w0 w')):=by
 refine ZJ (n:=20) Try.func184 rfl rfl (nbl rfl) rfl ?_
 intro a hE
 have hM:=M.start w0
 unfold Wd at hF
 refine Zd (Z3 (cs:=enc p0) hE hM Za ld rfl rfl fun b1 w a hM hE=>Z3 (cs:=enc p1) hE hM Za ld rfl rfl fun b3 w a hM hE=>Zu hE hM Za ld YC fun b5 w a hM hE=>Zf (Zd (Z7 (parts:=[]) (vs:=[]) (cs:=enc (Vector.replicate 256 (0 : UInt8))) hE Za ld rfl rfl YC rfl ty5 ZZ fun a hE=>Zu hE hM Za ld YC fun b7 w a hM hE=>Zi (seg:=enc (Vector.replicate 256 (0 : UInt8))) (cs':=enc (Vector.replicate 256 (0 : UInt8))) hE hM Za rfl rfl rfl YC (Flat.len _) (zle flq) (Flat.cell _) (Zg flq) fun w a hM hE=>Zf (wp_seq (Zd (Ze hE Za ld rfl fun a hE=>Zf ?_))))))
 obtain ⟨j9,hl10,hF11⟩:=bind_some hF
 refine Z0 (fun a w=>Env 20 a [(4,(ptr b5 0)),(5,(ptr b7 0))] ∧ M (Old w0) w0 w [raw b7 (enc j9),raw b5 (enc (Vector.replicate 256 (0 : UInt8)))]) ?_ ?_
 ·skip
  refine wp_block ?_
  refine ZV (fun (s12 : (Vector UInt8 256) × Int) a w=>Env 20 a [(2,(ptr b1 0)),(3,(ptr b3 0)),(4,(ptr b5 0)),(5,(ptr b7 0)),(6,vI s12.2)] ∧ M (Old w0) w0 w [raw b7 (enc s12.1),raw b5 (enc (Vector.replicate 256 (0 : UInt8))),raw b3 (enc p1),raw b1 (enc p0)]) hl10 ⟨hE.sub ⟨rfl,rfl,rfl,rfl,rfl,trivial⟩,hM⟩ ?_
  rintro s12 a w ⟨hE,hM⟩ o15 hs13 hx14
  unfold Xw at hs13
  refine wp_seq (Zd (Zc hE Za ld rfl fun a hE=>Zm hE Za ld rfl rfl rfl fun a hE=>Zf ?_))
  refine Zv hE rfl ?_ ?_
  ·intro hb16
   have hs13:=ZB hs13 hb16
   refine wp_skip (ZG (wp_seq (wp_block (wp_region_lit (Zc hE Za ld rfl fun a hE=>Zc hE Za ld rfl ?_))))); intro a hE
   obtain ⟨x18,hi17,hs13⟩:=bvx hs13
   refine Zh hE Za ld rfl rfl Try.underlying54 ty5 hi17.1 fun a hE=>ZF (v:=(vB x18)) hE Za ld rfl ty5 rfl (At.vec (hM.rawAt (pre:=[_,_,_])) hi17.2) ?_; intro a hE
   obtain ⟨x21,hi20,hs13⟩:=bvx hs13
   refine Zh hE Za ld rfl rfl Try.underlying54 ty5 hi20.1 fun a hE=>ZF (v:=(vB x21)) hE Za ld rfl ty5 rfl (At.vec (hM.rawAt (pre:=[_,_])) hi20.2) ?_; intro a hE
   obtain ⟨x24,hi23,hs13⟩:=bvx hs13
   refine Zh hE Za ld rfl rfl Try.underlying54 ty5 hi23.1 fun a hE=>Zi (seg:=[vB x21]) (cs':=enc (s12.1.setIfInBounds (s12.2).toNat x21)) hE hM Za rfl rfl rfl ty5 rfl (ZN (v:=s12.1) (x:=x21) hi23.1) (Flat.cell (x21 : UInt8)) (ZD (v:=s12.1) (x:=x21) hi23.1) fun w a hM hE=>Zk (Yj (ZG (wp_region_lit (Zc hE Za ld rfl fun a hE=>Zm hE Za ld rfl rfl rfl fun a hE=>Ze hE Za ld rfl fun a hE=>Zk (Zn ?_)))))
   exact ⟨_,(ois hs13),hE.sub ⟨rfl,rfl,rfl,rfl,rfl,trivial⟩,hM⟩
  ·intro hb16
   have hs13:=ZA hs13 hb16
   refine wp_exit (Zs (Zs (Yz ?_)))
   have ht26:=hx14 _ (ois hs13)
   subst ht26
   refine Zn ?_
   have hM:=M.fst (l:=[_,_]) ((hM.pull (pre:=[_])).pull (pre:=[_]))
   exact ⟨hE.sub ⟨rfl,rfl,trivial⟩,hM⟩
 ·skip
  rintro a w ⟨hE,hM⟩
  refine ZG (Zd (Zj (cs:=enc j9) hE Za ld rfl YC rfl (hM.rawAt (pre:=[])) (Flat.len _) ?_)); intro a hE
  have hM:=hM.pull (pre:=[_])
  refine Zi (seg:=enc j9) (cs':=enc j9) hE hM Za rfl rfl rfl YC (Flat.len _) (zle flq) (Flat.cell _) (Zg flq) fun w a hM hE=>Zf ?_
  have hr:=Option.some.inj hF11
  subst hr
  have hq27 : ZY Try.prog _ _ (.cell 4 54) _:=ZM hE rfl YC rfl (hM.rawAt (pre:=[])) (Flat.len _) rfl
  have hM:=M.fst (l:=[]) hM
  exact wp_ret (ZK hE rfl hq27 ⟨_,rfl,rfl,hM.kept⟩)
def Ux (p0 : Int) (s4 : UInt8 × Int × UInt8) : Option (Fl (UInt8 × Int × UInt8) UInt8) :=
 if (decide (s4.2.1 > 0)) = true then (((if ((Int.tmod s4.2.1 2) == 1) = true then ((Yd p0 s4.2.2 s4.1).bind fun r16=>some r16) else (some s4.2.2) : Option (UInt8)).bind fun j12=>(Yd p0 s4.1 s4.1).bind fun r20=>some (r20,j12) : Option (UInt8 × UInt8)).bind fun j9=>some (Fl.nx (j9.1,wr (Int.tdiv s4.2.1 2),j9.2))) else (some (Fl.ex s4.2.2))
def W1 (p0 : Int) (p1 : UInt8) (p2 : Int) : Option (UInt8) :=
 (ZQ (Ux p0) (p1,p2,1)).bind fun j1=>some j1
theorem Hs (w0 : World) (p0 : Int) (p1 : UInt8) (p2 : Int) (r : UInt8) (hF : W1 p0 p1 p2 = some r) :
  Calls Try.prog 204 [vI p0,vB p1,vI p2].toArray w0 (fun en w'=>∃ v,en = .returned v ∧ (v = (vB r) ∧ Kept (Old w0) w0 w')):=by
 refine ZJ (n:=24) Try.func204 rfl rfl (nbl rfl) rfl ?_
 intro a hE
 have hM:=M.start w0
 unfold W1 at hF
 refine Zd (Ze hE Za ld rfl fun a hE=>Zf (Zd (Ze hE Za ld rfl fun a hE=>Zf ?_)))
 obtain ⟨j1,hl2,hF3⟩:=bind_some hF
 refine ZT (fun a w=>Env 24 a [(7,vB j1)] ∧ M (Old w0) w0 w []) ?_ ?_
 ·skip
  refine wp_block ?_
  refine ZV (fun (s4 : UInt8 × Int × UInt8) a w=>Env 24 a [(0,vI p0),(1,vB s4.1),(2,vI s4.2.1),(7,vB s4.2.2)] ∧ M (Old w0) w0 w []) hl2 ⟨hE.sub ⟨rfl,rfl,rfl,rfl,trivial⟩,hM⟩ ?_
  rintro s4 a w ⟨hE,hM⟩ o7 hs5 hx6
  unfold Ux at hs5
  refine wp_seq (Zd (Zc hE Za ld rfl fun a hE=>Zm hE Za ld rfl rfl rfl fun a hE=>Zf ?_))
  refine Zv hE rfl ?_ ?_
  ·intro hb8
   have hs5:=ZB hs5 hb8
   refine wp_skip (ZG ?_)
   obtain ⟨j9,hl10,hF11⟩:=bind_some hs5
   refine ZT (fun a w=>Env 24 a [(0,vI p0),(1,vB j9.1),(2,vI s4.2.1),(7,vB j9.2)] ∧ M (Old w0) w0 w []) ?_ ?_
   ·skip
    refine wp_block ?_
    obtain ⟨j12,hl13,hF14⟩:=bind_some hl10
    refine ZT (fun a w=>Env 24 a [(0,vI p0),(1,vB s4.1),(2,vI s4.2.1),(7,vB j12)] ∧ M (Old w0) w0 w []) ?_ ?_
    ·skip
     refine Zd (Zc hE Za ld rfl fun a hE=>Zm hE Za ld rfl rfl (Kc _ _ (by decide)) fun a hE=>Zm hE Za ld rfl rfl rfl fun a hE=>Zf ?_)
     refine Zv hE rfl ?_ ?_
     ·intro hb15
      have hl13:=ZB hl13 hb15
      refine wp_region_lit (Zc hE Za ld rfl fun a hE=>Zc hE Za ld rfl fun a hE=>Zc hE Za ld rfl ?_); intro a hE
      obtain ⟨r16,e17,hl13⟩:=bind_some hl13
      refine Zo hE Za ld rfl KP (YO _ p0 s4.2.2 s4.1 r16 e17) ?_
      rintro v w a ⟨rfl,hK⟩ hE
      have hM:=hM.keep hK
      refine Ze hE Za ld rfl fun a hE=>Zk ?_
      have ht18:=Option.some.inj hl13
      subst ht18
      refine Zn ?_
      exact ⟨hE.sub ⟨rfl,rfl,rfl,rfl,trivial⟩,hM⟩
     ·intro hb15
      have hl13:=ZA hl13 hb15
      refine wp_skip ?_
      have ht19:=Option.some.inj hl13
      subst ht19
      refine Zn ?_
      exact ⟨hE.sub ⟨rfl,rfl,rfl,rfl,trivial⟩,hM⟩
    ·skip
     rintro a w ⟨hE,hM⟩
     refine wp_region_lit (Zc hE Za ld rfl fun a hE=>Zc hE Za ld rfl fun a hE=>Zc hE Za ld rfl ?_); intro a hE
     obtain ⟨r20,e21,hF14⟩:=bind_some hF14
     refine Zo hE Za ld rfl KP (YO _ p0 s4.1 s4.1 r20 e21) ?_
     rintro v w a ⟨rfl,hK⟩ hE
     have hM:=hM.keep hK
     refine Ze hE Za ld rfl fun a hE=>Zk (Yj ?_)
     have ht22:=Option.some.inj hF14
     subst ht22
     refine Zn ?_
     exact ⟨hE.sub ⟨rfl,rfl,rfl,rfl,trivial⟩,hM⟩
   ·skip
    rintro a w ⟨hE,hM⟩
    refine wp_region_lit (Zc hE Za ld rfl fun a hE=>Zm hE Za ld rfl rfl (Qf _ _ (by decide)) fun a hE=>Ze hE Za ld rfl fun a hE=>Zk (Zn ?_))
    exact ⟨_,(ois hF11),hE.sub ⟨rfl,rfl,rfl,rfl,trivial⟩,hM⟩
  ·intro hb8
   have hs5:=ZA hs5 hb8
   refine wp_exit (Zs (Zs (Yz ?_)))
   have ht23:=hx6 _ (ois hs5)
   subst ht23
   refine Zn ?_
   exact ⟨hE.sub ⟨rfl,trivial⟩,hM⟩
 ·skip
  rintro a w ⟨hE,hM⟩
  refine Zd (Zc hE Za ld rfl fun a hE=>Ze hE Za ld rfl fun a hE=>Zf ?_)
  have hr:=Option.some.inj hF3
  subst hr
  exact wp_ret (ZK hE rfl (Zx hE rfl) ⟨_,rfl,rfl,hM.kept⟩)
def Wv (p0 : Int) (p1 : UInt8) : Option (UInt8) :=
 (W1 p0 p1 254).bind fun r1=>some r1
theorem KM (w0 : World) (p0 : Int) (p1 : UInt8) (r : UInt8) (hF : Wv p0 p1 = some r) :
  Calls Try.prog 181 [vI p0,vB p1].toArray w0 (fun en w'=>∃ v,en = .returned v ∧ (v = (vB r) ∧ Kept (Old w0) w0 w')):=by
 refine ZJ (n:=8) Try.func181 rfl rfl (nbl rfl) rfl ?_
 intro a hE
 have hM:=M.start w0
 unfold Wv at hF
 refine Zd (Ze hE Za ld rfl fun a hE=>Zf (Zd (Zc hE Za ld rfl fun a hE=>Zc hE Za ld rfl ?_))); intro a hE
 obtain ⟨r1,e2,hF⟩:=bind_some hF
 refine Zo hE Za ld rfl cb204 (Hs _ p0 p1 254 r1 e2) ?_
 rintro v w a ⟨rfl,hK⟩ hE
 have hM:=hM.keep hK
 refine Ze hE Za ld rfl fun a hE=>Zf ?_
 have hr:=Option.some.inj hF
 subst hr
 exact wp_ret (ZK hE rfl (Zx hE rfl) ⟨_,rfl,rfl,hM.kept⟩)
def Uu (s16 : (Vector (Vector UInt8 4) 4) × Int) (s24 : (Vector (Vector UInt8 4) 4) × Int) : Option (Fl ((Vector (Vector UInt8 4) 4) × Int) (Vector (Vector UInt8 4) 4)) :=
 if (decide (s24.2 < 4)) = true then ((Wv 285 (ZE (KE s16.2 (wr (4 + s24.2))))).bind fun r30=>(ZI s24.1 s16.2).bind fun x33=>(ZI x33 s24.2).bind fun x36=>some (Fl.nx ((s24.1.setIfInBounds (s16.2).toNat (x33.setIfInBounds (s24.2).toNat r30)),wr (s24.2 + 1)))) else (some (Fl.ex s24.1))
def Us (s16 : (Vector (Vector UInt8 4) 4) × Int) : Option (Fl ((Vector (Vector UInt8 4) 4) × Int) (Vector (Vector UInt8 4) 4)) :=
 if (decide (s16.2 < 4)) = true then ((ZQ (Uu s16) (s16.1,0)).bind fun j21=>some (Fl.nx (j21,wr (s16.2 + 1)))) else (some (Fl.ex s16.1))
def Uq (s43 : (Vector UInt8 16) × Int) : Option (Fl ((Vector UInt8 16) × Int) (Vector UInt8 16)) :=
 if (decide (s43.2 < 16)) = true then ((ZI s43.1 s43.2).bind fun x49=>some (Fl.nx ((s43.1.setIfInBounds (s43.2).toNat (ZE (Int.tmod (wr ((wr (13 * s43.2)) + 4)) 16))),wr (s43.2 + 1)))) else (some (Fl.ex s43.1))
def WW (p0 : Int) : Option (GCipher) :=
 (Y3 285 254).bind fun r5=>(Yt ([0,1,4] : List Int) 90).bind fun r9=>(Wd r5 r9).bind fun r11=>(ZQ (Us) ((Vector.replicate 4 (Vector.replicate 4 (0 : UInt8))),0)).bind fun j13=>(ZQ (Uq) ((Vector.replicate 16 (0 : UInt8)),0)).bind fun j40=>some (⟨285,r11,j13,j40,p0⟩ : GCipher)
theorem QT (w0 : World) (p0 : Int) (r : GCipher) (hF : WW p0 = some r) :
  Calls Try.prog 141 [vI p0].toArray w0 (fun en w'=>∃ v,en = .returned v ∧ (v = (Value.agg (enc r).toArray) ∧ Kept (Old w0) w0 w')):=by
 refine ZJ (n:=46) Try.func141 rfl rfl (nbl rfl) rfl ?_
 intro a hE
 have hM:=M.start w0
 unfold WW at hF
 refine Zd (Zu hE hM Za ld Z8 fun b1 w a hM hE=>Zf (Zd (Zc hE Za ld rfl fun a hE=>Te (parts:=[(0,.const (vI 285)),(4,.tmp 7)]) (vs:=[(0,vI 285),(4,vI p0)]) (cs:=cat [[vI 285],enc (Vector.replicate 256 (0 : UInt8)),enc (Vector.replicate 4 (Vector.replicate 4 (0 : UInt8))),enc (Vector.replicate 16 (0 : UInt8)),[vI p0]]) hE Za ld rfl rfl Z8 pl61 (Xd (pre:=[]) (seg:=[vI 0]) (seg':=[vI 285]) (post:=[enc (Vector.replicate 256 (0 : UInt8)),enc (Vector.replicate 4 (Vector.replicate 4 (0 : UInt8))),enc (Vector.replicate 16 (0 : UInt8)),[vI 0]]) rfl cl0 rfl rfl rfl (Xd (pre:=[[vI 285],enc (Vector.replicate 256 (0 : UInt8)),enc (Vector.replicate 4 (Vector.replicate 4 (0 : UInt8))),enc (Vector.replicate 16 (0 : UInt8))]) (seg:=[vI 0]) (seg':=[vI p0]) (post:=[]) rfl (cl1 (n:=1) (m:=288) rfl (cl1 (n:=256) (m:=32) (Flat.len _) (cl1 (n:=16) (m:=16) (Flat.len _) (cl1 (n:=16) (m:=0) (Flat.len _) cl0)))) rfl rfl rfl Qj)) fun a hE=>Zu hE hM Za ld Z8 fun b3 w a hM hE=>Zi (seg:=cat [[vI 285],enc (Vector.replicate 256 (0 : UInt8)),enc (Vector.replicate 4 (Vector.replicate 4 (0 : UInt8))),enc (Vector.replicate 16 (0 : UInt8)),[vI p0]]) (cs':=cat [[vI 285],enc (Vector.replicate 256 (0 : UInt8)),enc (Vector.replicate 4 (Vector.replicate 4 (0 : UInt8))),enc (Vector.replicate 16 (0 : UInt8)),[vI p0]]) hE hM Za rfl rfl rfl Z8 (Zl (cl1 (n:=1) (m:=289) rfl (cl1 (n:=256) (m:=33) (Flat.len _) (cl1 (n:=16) (m:=17) (Flat.len _) (cl1 (n:=16) (m:=1) (Flat.len _) (cl1 (n:=1) (m:=0) rfl cl0)))))) (Nat.le_of_eq ((Nat.zero_add _).trans (Eq.trans (Zl (cl1 (n:=1) (m:=289) rfl (cl1 (n:=256) (m:=33) (Flat.len _) (cl1 (n:=16) (m:=17) (Flat.len _) (cl1 (n:=16) (m:=1) (Flat.len _) (cl1 (n:=1) (m:=0) rfl cl0)))))) (Eq.symm (Zl (cl1 (n:=1) (m:=289) rfl (cl1 (n:=256) (m:=33) (Flat.len _) (cl1 (n:=16) (m:=17) (Flat.len _) (cl1 (n:=16) (m:=1) (Flat.len _) (cl1 (n:=1) (m:=0) rfl cl0)))))))))) (Yq (cc1 (Flat.cell (285 : Int)) (cc1 (Flat.cell _) (cc1 (Flat.cell _) (cc1 (Flat.cell _) (cc1 (Flat.cell (p0 : Int)) cc0)))))) (Zg (Eq.trans (Zl (cl1 (n:=1) (m:=289) rfl (cl1 (n:=256) (m:=33) (Flat.len _) (cl1 (n:=16) (m:=17) (Flat.len _) (cl1 (n:=16) (m:=1) (Flat.len _) (cl1 (n:=1) (m:=0) rfl cl0)))))) (Eq.symm (Zl (cl1 (n:=1) (m:=289) rfl (cl1 (n:=256) (m:=33) (Flat.len _) (cl1 (n:=16) (m:=17) (Flat.len _) (cl1 (n:=16) (m:=1) (Flat.len _) (cl1 (n:=1) (m:=0) rfl cl0))))))))) fun w a hM hE=>Zf (Zd ?_))))
 obtain ⟨r5,e6,hF⟩:=bind_some hF
 refine Zo hE Za ld rfl yT (TE _ 285 254 r5 e6) ?_
 rintro v w a ⟨rfl,hK⟩ hE
 have hM:=hM.keep hK
 refine YM (xs:=[.const (vI 0),.const (vI 1),.const (vI 4)]) (l:=([0,1,4] : List Int)) (vs:=[vI 0,vI 1,vI 4]) hE hM Za ld rfl rfl Try.underlying138 ty2 rfl (by decide) rfl ?_; intro u7 w a hM hE
 obtain ⟨r9,e10,hF⟩:=bind_some hF
 refine Zo hE Za ld rfl yR (UA _ ([0,1,4] : List Int) u7 (hM.sl (pre:=[]) noB) 90 r9 e10) ?_
 rintro v w a ⟨rfl,hK⟩ hE
 have hM:=hM.keep hK
 obtain ⟨r11,e12,hF⟩:=bind_some hF
 refine Zo hE Za ld rfl cb184 (Q8 _ r5 r9 r11 e12) ?_
 rintro v w a ⟨rfl,hK⟩ hE
 have hM:=hM.keep hK
 refine Zr hE Za ld rfl (TX) ?_; intro a hE
 have hM:=hM.pull (pre:=[_])
 refine Zi (seg:=enc r11) hE hM Za rfl rfl rfl YC (Flat.len _) (UX (pre:=[[vI 285]]) (cl1 (n:=1) (m:=0) rfl cl0) flq) (Flat.cell _) (WL (pre:=[[vI 285]]) (cl1 (n:=1) (m:=0) rfl cl0) flq) fun w a hM hE=>Zf (wp_seq (Zd (Ze hE Za ld rfl fun a hE=>Zf ?_)))
 obtain ⟨j13,hl14,hF15⟩:=bind_some hF
 refine Z0 (fun a w=>Env 46 a [(2,(ptr b1 0)),(3,(ptr b3 0))] ∧ M (Old w0) w0 w [raw b3 (cat [[vI 285],enc r11,enc j13,enc (Vector.replicate 16 (0 : UInt8)),[vI p0]]),raw b1 (cat [[vI 0],enc (Vector.replicate 256 (0 : UInt8)),enc (Vector.replicate 4 (Vector.replicate 4 (0 : UInt8))),enc (Vector.replicate 16 (0 : UInt8)),[vI 0]])]) ?_ ?_
 ·skip
  refine wp_block ?_
  have hM:=M.fst (l:=[_,_]) ((hM.pull (pre:=[_,_])).pull (pre:=[_]))
  refine ZV (fun (s16 : (Vector (Vector UInt8 4) 4) × Int) a w=>Env 46 a [(2,(ptr b1 0)),(3,(ptr b3 0)),(4,vI s16.2)] ∧ M (Old w0) w0 w [raw b3 (cat [[vI 285],enc r11,enc s16.1,enc (Vector.replicate 16 (0 : UInt8)),[vI p0]]),raw b1 (cat [[vI 0],enc (Vector.replicate 256 (0 : UInt8)),enc (Vector.replicate 4 (Vector.replicate 4 (0 : UInt8))),enc (Vector.replicate 16 (0 : UInt8)),[vI 0]])]) hl14 ⟨hE.sub ⟨rfl,rfl,rfl,trivial⟩,hM⟩ ?_
  rintro s16 a w ⟨hE,hM⟩ o19 hs17 hx18
  unfold Us at hs17
  refine wp_seq (Zd (Zc hE Za ld rfl fun a hE=>Zm hE Za ld rfl rfl rfl fun a hE=>Zf ?_))
  refine Zv hE rfl ?_ ?_
  ·intro hb20
   have hs17:=ZB hs17 hb20
   refine wp_skip (ZG (wp_seq (wp_block (Zd (Ze hE Za ld rfl fun a hE=>Zf ?_)))))
   obtain ⟨j21,hl22,hF23⟩:=bind_some hs17
   refine Z0 (fun a w=>Env 46 a [(2,(ptr b1 0)),(3,(ptr b3 0)),(4,vI s16.2)] ∧ M (Old w0) w0 w [raw b3 (cat [[vI 285],enc r11,enc j21,enc (Vector.replicate 16 (0 : UInt8)),[vI p0]]),raw b1 (cat [[vI 0],enc (Vector.replicate 256 (0 : UInt8)),enc (Vector.replicate 4 (Vector.replicate 4 (0 : UInt8))),enc (Vector.replicate 16 (0 : UInt8)),[vI 0]])]) ?_ ?_
   ·skip
    refine wp_block ?_
    refine ZV (fun (s24 : (Vector (Vector UInt8 4) 4) × Int) a w=>Env 46 a [(2,(ptr b1 0)),(3,(ptr b3 0)),(4,vI s16.2),(5,vI s24.2)] ∧ M (Old w0) w0 w [raw b3 (cat [[vI 285],enc r11,enc s24.1,enc (Vector.replicate 16 (0 : UInt8)),[vI p0]]),raw b1 (cat [[vI 0],enc (Vector.replicate 256 (0 : UInt8)),enc (Vector.replicate 4 (Vector.replicate 4 (0 : UInt8))),enc (Vector.replicate 16 (0 : UInt8)),[vI 0]])]) hl22 ⟨hE.sub ⟨rfl,rfl,rfl,rfl,trivial⟩,hM⟩ ?_
    rintro s24 a w ⟨hE,hM⟩ o27 hs25 hx26
    unfold Uu at hs25
    refine wp_seq (Zd (Zc hE Za ld rfl fun a hE=>Zm hE Za ld rfl rfl rfl fun a hE=>Zf ?_))
    refine Zv hE rfl ?_ ?_
    ·intro hb28
     have hs25:=ZB hs25 hb28
     refine wp_skip (ZG (wp_seq (wp_block ?_)))
     obtain ⟨r30,e31,hs25⟩:=bind_some hs25
     obtain ⟨x33,hi32,hs25⟩:=bvx hs25
     obtain ⟨x36,hi35,hs25⟩:=bvx hs25
     refine Yw (n:=46) (hd:=[_,_,_,_,_,_,_,_,_,_,_]) (tl:=[_]) YS rfl rfl [22,23,24,25,26,27,28,29,30,31,32] (by decide) (fun w=>M (Old w0) w0 w [raw b3 (cat [[vI 285],enc r11,enc s24.1,enc (Vector.replicate 16 (0 : UInt8)),[vI p0]]),raw b1 (cat [[vI 0],enc (Vector.replicate 256 (0 : UInt8)),enc (Vector.replicate 4 (Vector.replicate 4 (0 : UInt8))),enc (Vector.replicate 16 (0 : UInt8)),[vI 0]])]) (fun j=>([fun v _=>v = (vI s16.2),fun v _=>v = (vI s24.2),fun v _=>v = (vI s16.2),fun v _=>v = (vI s24.2),fun v _=>v = (vI (wr (4 + s24.2))),fun v _=>v = (vI (KE s16.2 (wr (4 + s24.2)))),fun v _=>v = (vB (ZE (KE s16.2 (wr (4 + s24.2))))),fun v _=>v = (vB r30),fun v _=>v = (ptr b3 (0 + 257)),fun v _=>v = (ptr b3 (0 + 257 + (s16.2).toNat * 4)),fun v _=>v = (ptr b3 (0 + 257 + (s16.2).toNat * 4 + (s24.2).toNat * 1))] : List (Value → World → Prop)).getD j (fun _ _=>True)) (fun _ _ h hk=>h.keep hk) (gup (Zp (Zp (Zp (Zp (Zp (Zp (Zp (Zp (Zp (Zp (Zp Vq)))))))))))) hE hM.drew (ZS (Zb ?_ (Zb ?_ (Zb ?_ (Zb ?_ (Zb ?_ (Zb ?_ (Zb ?_ (Zb ?_ (Zb ?_ (Zb ?_ (Zb ?_ ZL)))))))))))) ?_
     ·exact fun a w ux29 hE hM hp=>Zc hE Za ld rfl fun a hE=>⟨Kept.refl _ _,_,_,rfl,hE,rfl⟩
     ·exact fun a w ux29 hE hM hp=>Zc hE Za ld rfl fun a hE=>⟨Kept.refl _ _,_,_,rfl,hE,rfl⟩
     ·exact fun a w ux29 hE hM hp=>Zc hE Za ld rfl fun a hE=>⟨Kept.refl _ _,_,_,rfl,hE,rfl⟩
     ·exact fun a w ux29 hE hM hp=>Zc hE Za ld rfl fun a hE=>⟨Kept.refl _ _,_,_,rfl,hE,rfl⟩
     ·intro a w ux29 hE hM hp
      have f3 : ux29 3 = (vI s24.2):=hp 0 _ rfl rfl
      exact Zm hE Za ld rfl (lk rfl f3) rfl fun a hE=>⟨Kept.refl _ _,_,_,rfl,hE,rfl⟩
     ·intro a w ux29 hE hM hp
      have f2 : ux29 2 = (vI s16.2):=hp 0 _ rfl rfl
      have f4 : ux29 4 = (vI (wr (4 + s24.2))):=hp 1 _ rfl rfl
      exact Zm hE Za ld (lk rfl f2) (lk rfl f4) rfl fun a hE=>⟨Kept.refl _ _,_,_,rfl,hE,rfl⟩
     ·intro a w ux29 hE hM hp
      have f5 : ux29 5 = (vI (KE s16.2 (wr (4 + s24.2)))):=hp 0 _ rfl rfl
      refine Yg hE Za ld (lk rfl f5) Try.underlying3 Try.underlying5 ?_; intro a hE
      rw [Z6] at hE
      exact ⟨Kept.refl _ _,_,_,rfl,hE,rfl⟩
     ·intro a w ux29 hE hM hp
      have f6 : ux29 6 = (vB (ZE (KE s16.2 (wr (4 + s24.2))))):=hp 0 _ rfl rfl
      refine Zo hE Za ld (Z1 (ZX rfl (ZX (lk rfl f6) Xg))) cb181 (KM _ 285 (ZE (KE s16.2 (wr (4 + s24.2)))) r30 e31) ?_
      rintro v w a ⟨rfl,hK⟩ hE
      exact ⟨hK,_,_,rfl,hE,rfl⟩
     ·exact fun a w ux29 hE hM hp=>Zr hE Za ld rfl (TF) fun a hE=>⟨Kept.refl _ _,_,_,rfl,hE,rfl⟩
     ·intro a w ux29 hE hM hp
      have f0 : ux29 0 = (vI s16.2):=hp 1 _ rfl rfl
      have f8 : ux29 8 = (ptr b3 (0 + 257)):=hp 0 _ rfl rfl
      exact Zh hE Za ld (lk rfl f8) (lk rfl f0) Try.underlying57 Yr hi32.1 fun a hE=>⟨Kept.refl _ _,_,_,rfl,hE,rfl⟩
     ·intro a w ux29 hE hM hp
      have f1 : ux29 1 = (vI s24.2):=hp 1 _ rfl rfl
      have f9 : ux29 9 = (ptr b3 (0 + 257 + (s16.2).toNat * 4)):=hp 0 _ rfl rfl
      exact Zh hE Za ld (lk rfl f9) (lk rfl f1) Try.underlying55 ty5 hi35.1 fun a hE=>⟨Kept.refl _ _,_,_,rfl,hE,rfl⟩
     ·intro a w ux29 hE hM hg
      have hE:=hE.sub (e':=[(29,vB r30),(32,(ptr b3 (0 + 257 + (s16.2).toNat * 4 + (s24.2).toNat * 1))),(2,(ptr b1 0)),(3,(ptr b3 0)),(4,vI s16.2),(5,vI s24.2),(18,vI s24.2),(19,(vT (decide (s24.2 < 4))))]) ⟨lk rfl (hg 7 (by decide)),lk rfl (hg 10 (by decide)),rfl,rfl,rfl,rfl,rfl,rfl,trivial⟩
      refine Zi (seg:=[vB r30]) (cs':=cat [[vI 285],enc r11,enc (s24.1.setIfInBounds (s16.2).toNat (x33.setIfInBounds (s24.2).toNat r30)),enc (Vector.replicate 16 (0 : UInt8)),[vI p0]]) hE hM Za rfl rfl rfl ty5 rfl (U3 (o':=(s16.2).toNat * 4 + (0 + (s24.2).toNat * 1)) (pre:=[[vI 285],enc r11]) (seg:=enc s24.1) (post:=[enc (Vector.replicate 16 (0 : UInt8)),[vI p0]]) (cl1 (n:=1) (m:=256) rfl (cl1 (n:=256) (m:=0) (Flat.len _) cl0)) (We (o':=0 + (s24.2).toNat * 1) hi32 (ZN (v:=x33) (x:=r30) hi35.1) (by first | omega | (simp only [Flat.n] <;> omega))) (by first | omega | (simp only [Flat.n] <;> omega))) (Flat.cell (r30 : UInt8)) (Vd (o':=(s16.2).toNat * 4 + (0 + (s24.2).toNat * 1)) (pre:=[[vI 285],enc r11]) (seg:=enc s24.1) (post:=[enc (Vector.replicate 16 (0 : UInt8)),[vI p0]]) (cl1 (n:=1) (m:=256) rfl (cl1 (n:=256) (m:=0) (Flat.len _) cl0)) (We (o':=0 + (s24.2).toNat * 1) hi32 (ZN (v:=x33) (x:=r30) hi35.1) (by first | omega | (simp only [Flat.n] <;> omega))) (YX (o':=0 + (s24.2).toNat * 1) hi32 (ZN (v:=x33) (x:=r30) hi35.1) (ZD (v:=x33) (x:=r30) hi35.1) (by first | omega | (simp only [Flat.n] <;> omega))) (by first | omega | (simp only [Flat.n] <;> omega))) fun w a hM hE=>Zk (Yj (ZG (wp_region_lit (Zc hE Za ld rfl fun a hE=>Zm hE Za ld rfl rfl rfl fun a hE=>Ze hE Za ld rfl fun a hE=>Zk (Zn ?_)))))
      exact ⟨_,(ois hs25),hE.sub ⟨rfl,rfl,rfl,rfl,trivial⟩,hM⟩
    ·intro hb28
     have hs25:=ZA hs25 hb28
     refine wp_exit (Zs (Zs (Yz ?_)))
     have ht38:=hx26 _ (ois hs25)
     subst ht38
     refine Zn ?_
     exact ⟨hE.sub ⟨rfl,rfl,rfl,trivial⟩,hM⟩
   ·skip
    rintro a w ⟨hE,hM⟩
    refine Yj (ZG (wp_region_lit (Zc hE Za ld rfl fun a hE=>Zm hE Za ld rfl rfl rfl fun a hE=>Ze hE Za ld rfl fun a hE=>Zk (Zn ?_))))
    exact ⟨_,(ois hF23),hE.sub ⟨rfl,rfl,rfl,trivial⟩,hM⟩
  ·intro hb20
   have hs17:=ZA hs17 hb20
   refine wp_exit (Zs (Zs (Yz ?_)))
   have ht39:=hx18 _ (ois hs17)
   subst ht39
   refine Zn ?_
   exact ⟨hE.sub ⟨rfl,rfl,trivial⟩,hM⟩
 ·skip
  rintro a w ⟨hE,hM⟩
  refine ZG (wp_seq (Zd (Ze hE Za ld rfl fun a hE=>Zf ?_)))
  obtain ⟨j40,hl41,hF42⟩:=bind_some hF15
  refine Z0 (fun a w=>Env 46 a [(2,(ptr b1 0)),(3,(ptr b3 0))] ∧ M (Old w0) w0 w [raw b3 (cat [[vI 285],enc r11,enc j13,enc j40,[vI p0]]),raw b1 (cat [[vI 0],enc (Vector.replicate 256 (0 : UInt8)),enc (Vector.replicate 4 (Vector.replicate 4 (0 : UInt8))),enc (Vector.replicate 16 (0 : UInt8)),[vI 0]])]) ?_ ?_
  ·skip
   refine wp_block ?_
   refine ZV (fun (s43 : (Vector UInt8 16) × Int) a w=>Env 46 a [(2,(ptr b1 0)),(3,(ptr b3 0)),(6,vI s43.2)] ∧ M (Old w0) w0 w [raw b3 (cat [[vI 285],enc r11,enc j13,enc s43.1,[vI p0]]),raw b1 (cat [[vI 0],enc (Vector.replicate 256 (0 : UInt8)),enc (Vector.replicate 4 (Vector.replicate 4 (0 : UInt8))),enc (Vector.replicate 16 (0 : UInt8)),[vI 0]])]) hl41 ⟨hE.sub ⟨rfl,rfl,rfl,trivial⟩,hM⟩ ?_
   rintro s43 a w ⟨hE,hM⟩ o46 hs44 hx45
   unfold Uq at hs44
   refine wp_seq (Zd (Zc hE Za ld rfl fun a hE=>Zm hE Za ld rfl rfl rfl fun a hE=>Zf ?_))
   refine Zv hE rfl ?_ ?_
   ·intro hb47
    have hs44:=ZB hs44 hb47
    refine wp_skip (ZG (wp_seq (wp_block (wp_region_lit (Zc hE Za ld rfl fun a hE=>Zc hE Za ld rfl fun a hE=>Zm hE Za ld rfl rfl rfl fun a hE=>Zm hE Za ld rfl rfl rfl fun a hE=>Zm hE Za ld rfl rfl (Kc _ _ (by decide)) fun a hE=>Yg hE Za ld rfl Try.underlying3 Try.underlying5 ?_))))); intro a hE
    rw [Z6] at hE
    refine Zr hE Za ld rfl (U6) ?_; intro a hE
    obtain ⟨x49,hi48,hs44⟩:=bvx hs44
    refine Zh hE Za ld rfl rfl Try.underlying59 ty5 hi48.1 fun a hE=>Zi (seg:=[(vB (ZE (Int.tmod (wr ((wr (13 * s43.2)) + 4)) 16)))]) (cs':=cat [[vI 285],enc r11,enc j13,enc (s43.1.setIfInBounds (s43.2).toNat (ZE (Int.tmod (wr ((wr (13 * s43.2)) + 4)) 16))),[vI p0]]) hE hM Za rfl rfl rfl ty5 rfl (U3 (o':=0 + (s43.2).toNat * 1) (pre:=[[vI 285],enc r11,enc j13]) (seg:=enc s43.1) (post:=[[vI p0]]) (cl1 (n:=1) (m:=272) rfl (cl1 (n:=256) (m:=16) (Flat.len _) (cl1 (n:=16) (m:=0) (Flat.len _) cl0))) (ZN (v:=s43.1) (x:=ZE (Int.tmod (wr ((wr (13 * s43.2)) + 4)) 16)) hi48.1) (by first | omega | (simp only [Flat.n] <;> omega))) (Flat.cell (ZE (Int.tmod (wr ((wr (13 * s43.2)) + 4)) 16) : UInt8)) (Vd (o':=0 + (s43.2).toNat * 1) (pre:=[[vI 285],enc r11,enc j13]) (seg:=enc s43.1) (post:=[[vI p0]]) (cl1 (n:=1) (m:=272) rfl (cl1 (n:=256) (m:=16) (Flat.len _) (cl1 (n:=16) (m:=0) (Flat.len _) cl0))) (ZN (v:=s43.1) (x:=ZE (Int.tmod (wr ((wr (13 * s43.2)) + 4)) 16)) hi48.1) (ZD (v:=s43.1) (x:=ZE (Int.tmod (wr ((wr (13 * s43.2)) + 4)) 16)) hi48.1) (by first | omega | (simp only [Flat.n] <;> omega))) fun w a hM hE=>Zk (Yj (ZG (wp_region_lit (Zc hE Za ld rfl fun a hE=>Zm hE Za ld rfl rfl rfl fun a hE=>Ze hE Za ld rfl fun a hE=>Zk (Zn ?_)))))
    exact ⟨_,(ois hs44),hE.sub ⟨rfl,rfl,rfl,trivial⟩,hM⟩
   ·intro hb47
    have hs44:=ZA hs44 hb47
    refine wp_exit (Zs (Zs (Yz ?_)))
    have ht51:=hx45 _ (ois hs44)
    subst ht51
    refine Zn ?_
    exact ⟨hE.sub ⟨rfl,rfl,trivial⟩,hM⟩
  ·skip
   rintro a w ⟨hE,hM⟩
   refine ZG (Zd (Zj (cs:=enc (⟨285,r11,j13,j40,p0⟩ : GCipher)) hE Za ld rfl Z8 rfl (hM.rawAt (pre:=[])) (Zl (cl1 (n:=1) (m:=289) rfl (cl1 (n:=256) (m:=33) (Flat.len _) (cl1 (n:=16) (m:=17) (Flat.len _) (cl1 (n:=16) (m:=1) (Flat.len _) (cl1 (n:=1) (m:=0) rfl cl0)))))) ?_)); intro a hE
   have hM:=hM.pull (pre:=[_])
   refine Zi (seg:=cat [[(vI ((⟨285,r11,j13,j40,p0⟩ : GCipher).Field))],enc ((⟨285,r11,j13,j40,p0⟩ : GCipher).Box),enc ((⟨285,r11,j13,j40,p0⟩ : GCipher).Mix),enc ((⟨285,r11,j13,j40,p0⟩ : GCipher).Places),[(vI ((⟨285,r11,j13,j40,p0⟩ : GCipher).Rounds))]]) (cs':=cat [[(vI ((⟨285,r11,j13,j40,p0⟩ : GCipher).Field))],enc ((⟨285,r11,j13,j40,p0⟩ : GCipher).Box),enc ((⟨285,r11,j13,j40,p0⟩ : GCipher).Mix),enc ((⟨285,r11,j13,j40,p0⟩ : GCipher).Places),[(vI ((⟨285,r11,j13,j40,p0⟩ : GCipher).Rounds))]]) hE hM Za rfl rfl rfl Z8 (Zl (cl1 (n:=1) (m:=289) rfl (cl1 (n:=256) (m:=33) (Flat.len _) (cl1 (n:=16) (m:=17) (Flat.len _) (cl1 (n:=16) (m:=1) (Flat.len _) (cl1 (n:=1) (m:=0) rfl cl0)))))) (Nat.le_of_eq ((Nat.zero_add _).trans (Eq.trans (Zl (cl1 (n:=1) (m:=289) rfl (cl1 (n:=256) (m:=33) (Flat.len _) (cl1 (n:=16) (m:=17) (Flat.len _) (cl1 (n:=16) (m:=1) (Flat.len _) (cl1 (n:=1) (m:=0) rfl cl0)))))) (Eq.symm (Zl (cl1 (n:=1) (m:=289) rfl (cl1 (n:=256) (m:=33) (Flat.len _) (cl1 (n:=16) (m:=17) (Flat.len _) (cl1 (n:=16) (m:=1) (Flat.len _) (cl1 (n:=1) (m:=0) rfl cl0)))))))))) (Yq (cc1 (Flat.cell ((⟨285,r11,j13,j40,p0⟩ : GCipher).Field : Int)) (cc1 (Flat.cell _) (cc1 (Flat.cell _) (cc1 (Flat.cell _) (cc1 (Flat.cell ((⟨285,r11,j13,j40,p0⟩ : GCipher).Rounds : Int)) cc0)))))) (Zg (Eq.trans (Zl (cl1 (n:=1) (m:=289) rfl (cl1 (n:=256) (m:=33) (Flat.len _) (cl1 (n:=16) (m:=17) (Flat.len _) (cl1 (n:=16) (m:=1) (Flat.len _) (cl1 (n:=1) (m:=0) rfl cl0)))))) (Eq.symm (Zl (cl1 (n:=1) (m:=289) rfl (cl1 (n:=256) (m:=33) (Flat.len _) (cl1 (n:=16) (m:=17) (Flat.len _) (cl1 (n:=16) (m:=1) (Flat.len _) (cl1 (n:=1) (m:=0) rfl cl0))))))))) fun w a hM hE=>Zf ?_
   have hr:=Option.some.inj hF42
   subst hr
   have hq52 : ZY Try.prog _ _ (.cell 2 61) _:=ZM hE rfl Z8 rfl (hM.rawAt (pre:=[])) (Zl (cl1 (n:=1) (m:=289) rfl (cl1 (n:=256) (m:=33) (Flat.len _) (cl1 (n:=16) (m:=17) (Flat.len _) (cl1 (n:=16) (m:=1) (Flat.len _) (cl1 (n:=1) (m:=0) rfl cl0)))))) rfl
   have hM:=M.fst (l:=[]) hM
   exact wp_ret (ZK hE rfl hq52 ⟨_,rfl,rfl,hM.kept⟩)
def Wq (p0 : Int) (p1 : Int) (p2 : Int) : Option (Bool) :=
 (if (decide (p0 ≥ p1)) = true then (some (decide (p0 ≤ p2))) else (some false) : Option (Bool)).bind fun j1=>some j1
theorem UW (w0 : World) (p0 : Int) (p1 : Int) (p2 : Int) (r : Bool) (hF : Wq p0 p1 p2 = some r) :
  Calls Try.prog 91 [vI p0,vI p1,vI p2].toArray w0 (fun en w'=>∃ v,en = .returned v ∧ (v = (vT r) ∧ Kept (Old w0) w0 w')):=by
 refine ZJ (n:=15) Try.func91 rfl rfl (nbl rfl) rfl ?_
 intro a hE
 have hM:=M.start w0
 unfold Wq at hF
 refine Zd (Ze hE Za ld rfl fun a hE=>Zf ?_)
 obtain ⟨j1,hl2,hF3⟩:=bind_some hF
 refine ZT (fun a w=>Env 15 a [(6,vT j1)] ∧ M (Old w0) w0 w []) ?_ ?_
 ·skip
  refine wp_region_lit (Zc hE Za ld rfl fun a hE=>Zc hE Za ld rfl fun a hE=>Zm hE Za ld rfl rfl rfl fun a hE=>Zc hE Za ld rfl ?_); intro a hE
  refine Xy (decide (p0 ≥ p1)) (fun hb4=>?_) (fun hb4=>?_)
  ·have hl2:=ZB hl2 hb4
   refine Zc hE (Zt hE rfl (lkb rfl hb4)) (by decide) rfl fun a hE=>Zc hE (Zt hE rfl (lkb rfl hb4)) (by decide) rfl fun a hE=>Zm hE (Zt hE rfl (lkb rfl hb4)) (by decide) rfl rfl rfl fun a hE=>Yy hE Za ld (lkb rfl hb4) rfl fun a hE=>Ze hE Za ld rfl fun a hE=>Zk ?_
   have ht5:=Option.some.inj hl2
   subst ht5
   refine Zn ?_
   exact ⟨hE.sub ⟨rfl,trivial⟩,hM⟩
  ·have hl2:=ZA hl2 hb4
   refine Zz hE rfl (lkb rfl hb4) rfl (by decide) fun a hE=>Zz hE rfl (lkb rfl hb4) rfl (by decide) fun a hE=>Zz hE rfl (lkb rfl hb4) rfl (by decide) fun a hE=>Yh hE Za ld (lkb rfl hb4) rfl fun a hE=>Ze hE Za ld rfl fun a hE=>Zk ?_
   have ht6:=Option.some.inj hl2
   subst ht6
   refine Zn ?_
   exact ⟨hE.sub ⟨rfl,trivial⟩,hM⟩
 ·skip
  rintro a w ⟨hE,hM⟩
  have hr:=Option.some.inj hF3
  subst hr
  exact wp_ret (ZK hE rfl (Zx hE rfl) ⟨_,rfl,rfl,hM.kept⟩)
def YW (s4 : Int × Int) : Option (Fl (Int × Int) Int) :=
 if (decide (s4.1 > 0)) = true then (some (Fl.nx (wr (Int.tdiv s4.1 2),wr (s4.2 + 1)))) else (some (Fl.ex s4.2))
def XU (p0 : Int) : Option (Int) :=
 (ZQ (YW) (p0,0)).bind fun j1=>some j1
theorem Tn (w0 : World) (p0 : Int) (r : Int) (hF : XU p0 = some r) :
  Calls Try.prog 177 [vI p0].toArray w0 (fun en w'=>∃ v,en = .returned v ∧ (v = (vI r) ∧ Kept (Old w0) w0 w')):=by
 refine ZJ (n:=11) Try.func177 rfl rfl (nbl rfl) rfl ?_
 intro a hE
 have hM:=M.start w0
 unfold XU at hF
 refine Zd (Ze hE Za ld rfl fun a hE=>Zf (Zd (Ze hE Za ld rfl fun a hE=>Zf ?_)))
 obtain ⟨j1,hl2,hF3⟩:=bind_some hF
 refine ZT (fun a w=>Env 11 a [(3,vI j1)] ∧ M (Old w0) w0 w []) ?_ ?_
 ·skip
  refine wp_block ?_
  refine ZV (fun (s4 : Int × Int) a w=>Env 11 a [(0,vI s4.1),(3,vI s4.2)] ∧ M (Old w0) w0 w []) hl2 ⟨hE.sub ⟨rfl,rfl,trivial⟩,hM⟩ ?_
  rintro s4 a w ⟨hE,hM⟩ o7 hs5 hx6
  unfold YW at hs5
  refine wp_seq (Zd (Zc hE Za ld rfl fun a hE=>Zm hE Za ld rfl rfl rfl fun a hE=>Zf ?_))
  refine Zv hE rfl ?_ ?_
  ·intro hb8
   have hs5:=ZB hs5 hb8
   refine wp_skip (ZG (wp_seq (wp_block (wp_region_lit (Zc hE Za ld rfl fun a hE=>Zm hE Za ld rfl rfl rfl fun a hE=>Ze hE Za ld rfl fun a hE=>Zk (Yj (ZG (wp_region_lit (Zc hE Za ld rfl fun a hE=>Zm hE Za ld rfl rfl (Qf _ _ (by decide)) fun a hE=>Ze hE Za ld rfl fun a hE=>Zk (Zn ?_))))))))))
   exact ⟨_,(ois hs5),hE.sub ⟨rfl,rfl,trivial⟩,hM⟩
  ·intro hb8
   have hs5:=ZA hs5 hb8
   refine wp_exit (Zs (Zs (Yz ?_)))
   have ht9:=hx6 _ (ois hs5)
   subst ht9
   refine Zn ?_
   exact ⟨hE.sub ⟨rfl,trivial⟩,hM⟩
 ·skip
  rintro a w ⟨hE,hM⟩
  refine Zd (Zc hE Za ld rfl fun a hE=>Ze hE Za ld rfl fun a hE=>Zf ?_)
  have hr:=Option.some.inj hF3
  subst hr
  exact wp_ret (ZK hE rfl (Zx hE rfl) ⟨_,rfl,rfl,hM.kept⟩)
def WR (p1 : Int) (r1 : Int) (s8 : Int × Int) : Option (Fl (Int × Int) Int) :=
 if (decide (s8.2 ≥ r1)) = true then ((Wp (IntKind.u64.wrap (wr (s8.2 - r1)))).bind fun _=>(XU (KE s8.1 (Ka p1 (IntKind.u64.wrap (wr (s8.2 - r1)))))).bind fun r14=>some (Fl.nx (KE s8.1 (Ka p1 (IntKind.u64.wrap (wr (s8.2 - r1)))),r14))) else (some (Fl.ex s8.1))
def Ul (p0 : Int) (p1 : Int) : Option (Int) :=
 (XU p1).bind fun r1=>(XU p0).bind fun r3=>(ZQ (WR p1 r1) (p0,r3)).bind fun j5=>some j5
theorem HY (w0 : World) (p0 : Int) (p1 : Int) (r : Int) (hF : Ul p0 p1 = some r) :
  Calls Try.prog 124 [vI p0,vI p1].toArray w0 (fun en w'=>∃ v,en = .returned v ∧ (v = (vI r) ∧ Kept (Old w0) w0 w')):=by
 refine ZJ (n:=25) Try.func124 rfl rfl (nbl rfl) rfl ?_
 intro a hE
 have hM:=M.start w0
 unfold Ul at hF
 refine Zd (Ze hE Za ld rfl fun a hE=>Zf (Zd (Zc hE Za ld rfl ?_))); intro a hE
 obtain ⟨r1,e2,hF⟩:=bind_some hF
 refine Zo hE Za ld rfl yU (Tn _ p1 r1 e2) ?_
 rintro v w a ⟨rfl,hK⟩ hE
 have hM:=hM.keep hK
 refine Ze hE Za ld rfl fun a hE=>Zf (wp_seq (Zd (Zc hE Za ld rfl ?_))); intro a hE
 obtain ⟨r3,e4,hF⟩:=bind_some hF
 refine Zo hE Za ld rfl yU (Tn _ p0 r3 e4) ?_
 rintro v w a ⟨rfl,hK⟩ hE
 have hM:=hM.keep hK
 refine Ze hE Za ld rfl fun a hE=>Zf ?_
 obtain ⟨j5,hl6,hF7⟩:=bind_some hF
 refine Z0 (fun a w=>Env 25 a [(0,vI j5)] ∧ M (Old w0) w0 w []) ?_ ?_
 ·skip
  refine wp_block ?_
  refine ZV (fun (s8 : Int × Int) a w=>Env 25 a [(0,vI s8.1),(1,vI p1),(5,vI r1),(6,vI s8.2)] ∧ M (Old w0) w0 w []) hl6 ⟨hE.sub ⟨rfl,rfl,rfl,rfl,trivial⟩,hM⟩ ?_
  rintro s8 a w ⟨hE,hM⟩ o11 hs9 hx10
  unfold WR at hs9
  refine wp_seq (Zd (Zc hE Za ld rfl fun a hE=>Zc hE Za ld rfl fun a hE=>Zm hE Za ld rfl rfl rfl fun a hE=>Zf ?_))
  refine Zv hE rfl ?_ ?_
  ·intro hb12
   have hs9:=ZB hs9 hb12
   refine wp_skip (ZG (wp_seq (wp_block (wp_region_lit (Zc hE Za ld rfl fun a hE=>Zc hE Za ld rfl fun a hE=>Zc hE Za ld rfl fun a hE=>Zc hE Za ld rfl fun a hE=>Zm hE Za ld rfl rfl rfl fun a hE=>Yg hE Za ld rfl Try.underlying2 Try.underlying45 ?_))))); intro a hE
   obtain ⟨_,e13,hs9⟩:=bind_some hs9
   have e13:=VA e13
   refine Bf hE Za ld rfl rfl (JK _ _ e13) fun a hE=>Zm hE Za ld rfl rfl rfl fun a hE=>Ze hE Za ld rfl fun a hE=>Zk (Yj (ZG (wp_region_lit (Zc hE Za ld rfl ?_)))); intro a hE
   obtain ⟨r14,e15,hs9⟩:=bind_some hs9
   refine Zo hE Za ld rfl yU (Tn _ (KE s8.1 (Ka p1 (IntKind.u64.wrap (wr (s8.2 - r1))))) r14 e15) ?_
   rintro v w a ⟨rfl,hK⟩ hE
   have hM:=hM.keep hK
   refine Ze hE Za ld rfl fun a hE=>Zk (Zn ?_)
   exact ⟨_,(ois hs9),hE.sub ⟨rfl,rfl,rfl,rfl,trivial⟩,hM⟩
  ·intro hb12
   have hs9:=ZA hs9 hb12
   refine wp_exit (Zs (Zs (Yz ?_)))
   have ht16:=hx10 _ (ois hs9)
   subst ht16
   refine Zn ?_
   exact ⟨hE.sub ⟨rfl,trivial⟩,hM⟩
 ·skip
  rintro a w ⟨hE,hM⟩
  refine ZG (Zd (Zc hE Za ld rfl fun a hE=>Ze hE Za ld rfl fun a hE=>Zf ?_))
  have hr:=Option.some.inj hF7
  subst hr
  exact wp_ret (ZK hE rfl (Zx hE rfl) ⟨_,rfl,rfl,hM.kept⟩)
def WE (p0 : Int) (s8 : Int) : Option (Fl Int (Fl Unit Bool)) :=
 if (decide (s8 < 32)) = true then ((Ul p0 s8).bind fun r13=>if (r13 == 0) = true then (some (Fl.ex (Fl.ex false))) else (some (Fl.nx (wr (s8 + 1))))) else (some (Fl.ex (Fl.nx ())))
def W3 (p0 : Int) : Option (Bool) :=
 (Wq p0 256 511).bind fun r1=>if (!r1) = true then (some false) else ((ZQ (WE p0) 2).bind fun j4=>j4.el (fun s7=>some true) (fun r=>some r))
theorem QO (w0 : World) (p0 : Int) (r : Bool) (hF : W3 p0 = some r) :
  Calls Try.prog 60 [vI p0].toArray w0 (fun en w'=>∃ v,en = .returned v ∧ (v = (vT r) ∧ Kept (Old w0) w0 w')):=by
 refine ZJ (n:=15) Try.func60 rfl rfl (nbl rfl) rfl ?_
 intro a hE
 have hM:=M.start w0
 unfold W3 at hF
 refine Zd (Ze hE Za ld rfl fun a hE=>Zf (wp_seq (Zd (Zc hE Za ld rfl ?_)))); intro a hE
 obtain ⟨r1,e2,hF⟩:=bind_some hF
 refine Zo hE Za ld rfl cb91 (UW _ p0 256 511 r1 e2) ?_
 rintro v w a ⟨rfl,hK⟩ hE
 have hM:=hM.keep hK
 refine UT hE Za ld rfl fun a hE=>Zf ?_
 refine Zv hE rfl ?_ ?_
 ·intro hb3
  have hF:=ZB hF hb3
  refine Zd (Ze hE Za ld rfl fun a hE=>Zf ?_)
  have hr:=Option.some.inj hF
  subst hr
  exact wp_ret (ZP (ZK hE rfl (Zx hE rfl) ⟨_,rfl,rfl,hM.kept⟩))
 ·intro hb3
  have hF:=ZA hF hb3
  refine wp_skip (ZG (wp_seq (Zd (Ze hE Za ld rfl fun a hE=>Zf ?_))))
  obtain ⟨j4,hl5,hF6⟩:=bind_some hF
  refine Z0 (fun a w=>∃ s7 : Unit,j4 = Fl.nx s7 ∧ Env 15 a [] ∧ M (Old w0) w0 w []) ?_ ?_
  ·skip
   refine wp_block ?_
   refine ZV (fun (s8 : Int) a w=>Env 15 a [(0,vI p0),(3,vI s8)] ∧ M (Old w0) w0 w []) hl5 ⟨hE.sub ⟨rfl,rfl,trivial⟩,hM⟩ ?_
   rintro s8 a w ⟨hE,hM⟩ o11 hs9 hx10
   unfold WE at hs9
   refine wp_seq (Zd (Zc hE Za ld rfl fun a hE=>Zm hE Za ld rfl rfl rfl fun a hE=>Zf ?_))
   refine Zv hE rfl ?_ ?_
   ·intro hb12
    have hs9:=ZB hs9 hb12
    refine wp_skip (ZG (wp_seq (wp_block (Zd (Zc hE Za ld rfl fun a hE=>Zc hE Za ld rfl ?_))))); intro a hE
    obtain ⟨r13,e14,hs9⟩:=bind_some hs9
    refine Zo hE Za ld rfl cb124 (HY _ p0 s8 r13 e14) ?_
    rintro v w a ⟨rfl,hK⟩ hE
    have hM:=hM.keep hK
    refine Zm hE Za ld rfl rfl rfl fun a hE=>Zf ?_
    refine Zv hE rfl ?_ ?_
    ·intro hb15
     have hs9:=ZB hs9 hb15
     refine Zd (Ze hE Za ld rfl fun a hE=>Zf ?_)
     have ht16:=hx10 _ (ois hs9)
     subst ht16
     have hr:=Option.some.inj hF6
     subst hr
     exact wp_ret (Y4 (ZP (ZP (Y4 (ZP (ZP (ZK hE rfl (Zx hE rfl) ⟨_,rfl,rfl,hM.kept⟩)))))))
    ·intro hb15
     have hs9:=ZA hs9 hb15
     refine wp_skip (Yj (ZG (wp_region_lit (Zc hE Za ld rfl fun a hE=>Zm hE Za ld rfl rfl rfl fun a hE=>Ze hE Za ld rfl fun a hE=>Zk (Zn ?_)))))
     exact ⟨_,(ois hs9),hE.sub ⟨rfl,rfl,trivial⟩,hM⟩
   ·intro hb12
    have hs9:=ZA hs9 hb12
    refine wp_exit (Zs (Zs (Yz ?_)))
    have ht17:=hx10 _ (ois hs9)
    subst ht17
    refine Zn ?_
    exact ⟨(),rfl,hE.sub trivial,hM⟩
  ·skip
   rintro a w ⟨s7,ht,hE,hM⟩
   subst ht
   have hF6:=Qp hF6
   refine ZG (Zd (Ze hE Za ld rfl fun a hE=>Zf ?_))
   have hr:=Option.some.inj hF6
   subst hr
   exact wp_ret (ZK hE rfl (Zx hE rfl) ⟨_,rfl,rfl,hM.kept⟩)
def V1 (s8 : (List Int) × Int) : Option (Fl ((List Int) × Int) (List Int)) :=
 if (decide (s8.2 < 512)) = true then (((W3 s8.2).bind fun r20=>(if r20 = true then ((app 8 s8.1 ([s8.2] : List Int)).bind fun l30=>some (s8.1 ++ ([s8.2] : List Int))) else (some s8.1) : Option ((List Int))).bind fun j22=>some j22 : Option ((List Int))).bind fun j15=>some (Fl.nx (j15,wr (s8.2 + 1)))) else (some (Fl.ex s8.1))
def Vm : Option ((List Int)) :=
 (ZQ (V1) (([] : List Int),256)).bind fun j3=>some j3
theorem J3 (w0 : World)  (r : (List Int)) (hF : Vm  = some r) :
  Calls Try.prog 174 [].toArray w0 (fun en w'=>∃ v,en = .returned v ∧ (∃ (y1 : Value),v = y1 ∧ Fr w0 w' [osl NoB (r : List Int) y1] ∧ Kept (Old w0) w0 w')):=by
 refine ZJ (n:=15) Try.func174 rfl rfl (nbl rfl) rfl ?_
 intro a hE
 have hM:=M.start w0
 unfold Vm at hF
 refine Zd (Ze hE Za ld rfl fun a hE=>Zf (Zd (YM (xs:=[]) (l:=([] : List Int)) (vs:=[]) hE hM Za ld rfl rfl Try.underlying138 ty2 rfl (by decide) rfl fun u1 w a hM hE=>Ze hE Za ld rfl fun a hE=>Zf (wp_seq (Zd (Ze hE Za ld rfl fun a hE=>Zf ?_))))))
 obtain ⟨j3,hl4,hF5⟩:=bind_some hF
 refine Z0 (fun a w=>∃ (u6 : Value),Env 15 a [(1,u6)] ∧ M (Old w0) w0 w [osl NoB (j3 : List Int) u6]) ?_ ?_
 ·skip
  refine wp_block ?_
  refine ZV (fun (s8 : (List Int) × Int) a w=>∃ (u9 : Value),Env 15 a [(1,u9),(2,vI s8.2)] ∧ M (Old w0) w0 w [osl NoB (s8.1 : List Int) u9]) hl4 ⟨u1,hE.sub ⟨rfl,rfl,trivial⟩,hM⟩ ?_
  rintro s8 a w ⟨u9,hE,hM⟩ o13 hs11 hx12
  unfold V1 at hs11
  refine wp_seq (Zd (Zc hE Za ld rfl fun a hE=>Zm hE Za ld rfl rfl rfl fun a hE=>Zf ?_))
  refine Zv hE rfl ?_ ?_
  ·intro hb14
   have hs11:=ZB hs11 hb14
   refine wp_skip (ZG ?_)
   obtain ⟨j15,hl16,hF17⟩:=bind_some hs11
   refine ZT (fun a w=>∃ (u18 : Value),Env 15 a [(1,u18),(2,vI s8.2)] ∧ M (Old w0) w0 w [osl NoB (j15 : List Int) u18]) ?_ ?_
   ·skip
    refine wp_block (Zd (Zc hE Za ld rfl ?_)); intro a hE
    obtain ⟨r20,e21,hl16⟩:=bind_some hl16
    refine Zo hE Za ld rfl cb60 (QO _ s8.2 r20 e21) ?_
    rintro v w a ⟨rfl,hK⟩ hE
    have hM:=hM.keep hK
    refine Zf ?_
    obtain ⟨j22,hl23,hF24⟩:=bind_some hl16
    refine Z0 (fun a w=>∃ (u25 : Value),Env 15 a [(1,u25),(2,vI s8.2)] ∧ M (Old w0) w0 w [osl NoB (j22 : List Int) u25]) ?_ ?_
    ·skip
     refine Zv hE rfl ?_ ?_
     ·intro hb27
      have hl23:=ZB hl23 hb27
      refine wp_region_lit (Zc hE Za ld rfl fun a hE=>Zc hE Za ld rfl fun a hE=>YM (xs:=[.tmp 11]) (l:=([s8.2] : List Int)) (vs:=[vI s8.2]) hE hM Za ld rfl rfl Try.underlying138 ty2 rfl (by decide) rfl ?_); intro u28 w a hM hE
      obtain ⟨l30,e31,hl23⟩:=bind_some hl23
      obtain ⟨e34,rfl⟩:=T0 e31
      have hM:=hM.pull (pre:=[_])
      refine Td hE hM Za ld rfl rfl (hM.sl (pre:=[_]) noB) Try.underlying138 ty2 rfl (by decide) e34 fun u32 w a hM hE=>Ze hE Za ld rfl fun a hE=>Zk ?_
      have ht35:=Option.some.inj hl23
      subst ht35
      refine Zn ?_
      have hM:=M.fst (l:=[_]) hM
      exact ⟨u32,hE.sub ⟨rfl,rfl,trivial⟩,hM⟩
     ·intro hb27
      have hl23:=ZA hl23 hb27
      refine wp_skip ?_
      have ht36:=Option.some.inj hl23
      subst ht36
      refine Zn ?_
      exact ⟨u9,hE.sub ⟨rfl,rfl,trivial⟩,hM⟩
    ·skip
     rintro a w ⟨u25,hE,hM⟩
     refine Yj ?_
     have ht37:=Option.some.inj hF24
     subst ht37
     refine Zn ?_
     exact ⟨u25,hE.sub ⟨rfl,rfl,trivial⟩,hM⟩
   ·skip
    rintro a w ⟨u18,hE,hM⟩
    refine wp_region_lit (Zc hE Za ld rfl fun a hE=>Zm hE Za ld rfl rfl rfl fun a hE=>Ze hE Za ld rfl fun a hE=>Zk (Zn ?_))
    exact ⟨_,(ois hF17),u18,hE.sub ⟨rfl,rfl,trivial⟩,hM⟩
  ·intro hb14
   have hs11:=ZA hs11 hb14
   refine wp_exit (Zs (Zs (Yz ?_)))
   have ht38:=hx12 _ (ois hs11)
   subst ht38
   refine Zn ?_
   exact ⟨u9,hE.sub ⟨rfl,trivial⟩,hM⟩
 ·skip
  rintro a w ⟨u6,hE,hM⟩
  refine ZG (Zd (Zc hE Za ld rfl fun a hE=>Ze hE Za ld rfl fun a hE=>Zf ?_))
  have hr:=Option.some.inj hF5
  subst hr
  exact wp_ret (ZK hE rfl (Zx hE rfl) ⟨_,rfl,u6,rfl,hM.outF (Hb KR),hM.kept⟩)
def YU (p0_0 : (List UInt8)) (p0 : (Int × Int)) : Option ((Int × Int) × Int) :=
 (Vm).bind fun r1=>((ZC p0_0 (p0.1,p0.2) (r1.length : Int)).bind fun r8=>(idx r1 r8.2).bind fun x10=>(ZC p0_0 (r8.1.1,r8.1.2) (r1.length : Int)).bind fun r13=>(idx r1 r13.2).bind fun x15=>(YZ p0_0 (r13.1.1,r13.1.2) ([285,x10,x15] : List Int)).bind fun r20=>some (r20.1.1,r20.1.2,r20.2) : Option (Int × Int × Int)).bind fun j4=>some ((j4.1,j4.2.1),j4.2.2)
theorem UC (St : Nat → Prop) (W w0 : World) (R : Item) (pb0 : Nat) (p0_0 : (List UInt8)) (v0_0 : Value) (hv0_0 : Rep.sat St W p0_0 [v0_0] []) (p0 : (Int × Int)) (hM : M St W w0 [raw pb0 (cat [[v0_0],[vI p0.1],[(Value.int .u64 p0.2)]]),R]) (r : (Int × Int) × Int) (hF : YU p0_0 p0 = some r) :
  Calls Try.prog 119 [(ptr pb0 0)].toArray w0 (fun en w'=>∃ v,en = .returned v ∧ (v = (vI r.2) ∧ M St W w' [raw pb0 (cat [[v0_0],[vI r.1.1],[(Value.int .u64 r.1.2)]]),R])):=by
 refine ZJ (n:=22) Try.func119 rfl rfl (nbl rfl) rfl ?_
 intro a hE
 unfold YU at hF
 refine Zd (Ze hE Za ld rfl fun a hE=>Zf (Zd ?_))
 obtain ⟨r1,e2,hF⟩:=bind_some hF
 refine Zo hE Za ld rfl cb174 (J3 _  r1 e2) ?_
 rintro u3 w a ⟨_,rfl,hFr,hK⟩ hE
 have hM:=hM.add hK hFr
 refine Ze hE Za ld rfl fun a hE=>Zf ?_
 obtain ⟨j4,hl5,hF6⟩:=bind_some hF
 refine ZT (fun a w=>Env 22 a [(2,vI j4.2.2)] ∧ M St W w [raw pb0 (cat [[v0_0],[vI j4.1],[(Value.int .u64 j4.2.1)]]),R]) ?_ ?_
 ·skip
  have hM:=hM.pull (pre:=[_])
  obtain ⟨r8,e9,hl5⟩:=bind_some hl5
  obtain ⟨x10,hi12,hl5⟩:=bix hl5
  obtain ⟨r13,e14,hl5⟩:=bind_some hl5
  obtain ⟨x15,hi17,hl5⟩:=bix hl5
  refine Vj (n:=22) (hd:=[_,_,_,_,_,_,_,_,_,_,_,_,_,_,_,_]) (tl:=[_,_]) YS rfl rfl [5,6,7,8,9,10,11,12,13,14,15,16,17,18,19,20] (by decide) (fun D u w=>M St W w ([osl NoB (r1 : List Int) u3,R] ++ qL ([([5,12],fun bs _=>(tog (bs.getD 0 false) (raw pb0 (cat [[v0_0],[vI p0.1],[(Value.int .u64 p0.2)]])) (tog (bs.getD 1 false) (raw pb0 (cat [[v0_0],[vI r8.1.1],[(Value.int .u64 r8.1.2)]])) (raw pb0 (cat [[v0_0],[vI r13.1.1],[(Value.int .u64 r13.1.2)]]))))),mkO 15 (fun v=>osl NoB (([285,x10,x15] : List Int) : List Int) v)] : Mk) D u) ∧ GOk ([([],fun us v=>v = (ptr pb0 0)),([],fun us v=>v = u3),([],fun us v=>v = (ptr pb0 0)),([],fun us v=>v = u3),([],fun us v=>v = (vI (r1.length : Int))),([],fun us v=>v = (vI r8.2)),([],fun us v=>v = (ptr (sb u3) (so u3 + (r8.2).toNat * 1))),([],fun us v=>v = (vI x10)),([],fun us v=>v = u3),([],fun us v=>v = (ptr pb0 0)),([],fun us v=>v = u3),([],fun us v=>v = (vI (r1.length : Int))),([],fun us v=>v = (vI r13.2)),([],fun us v=>v = (ptr (sb u3) (so u3 + (r13.2).toNat * 1))),([],fun us v=>v = (vI x15)),([],fun us v=>True)] : Gs) D u) hE (fun u=>⟨M.qS (M.qE (M.q0 hM.drew u) emO) fun _=>rfl,KH⟩) (ZS (Zb ?_ (Zb ?_ (Zb ?_ (Zb ?_ (Zb ?_ (Zb ?_ (Zb ?_ (Zb ?_ (Zb ?_ (Zb ?_ (Zb ?_ (Zb ?_ (Zb ?_ (Zb ?_ (Zb ?_ (Zb ?_ ZL))))))))))))))))) ?_
  ·intro a w ux7 D hE hI hD hdc hp
   have hM0:=hI.1
   exact Zc hE Za ld rfl fun a hE=>⟨_,_,rfl,hE,M.qKeep hM0 rfl,hI.2.put hD rfl ZR rfl⟩
  ·intro a w ux7 D hE hI hD hdc hp
   have hM0:=hI.1
   exact Zc hE Za ld rfl fun a hE=>⟨_,_,rfl,hE,M.qKeep hM0 rfl,hI.2.put hD rfl ZR rfl⟩
  ·intro a w ux7 D hE hI hD hdc hp
   have hM0:=hI.1
   exact Zc hE Za ld rfl fun a hE=>⟨_,_,rfl,hE,M.qKeep hM0 rfl,hI.2.put hD rfl ZR rfl⟩
  ·intro a w ux7 D hE hI hD hdc hp
   have hM0:=hI.1
   exact Zc hE Za ld rfl fun a hE=>⟨_,_,rfl,hE,M.qKeep hM0 rfl,hI.2.put hD rfl ZR rfl⟩
  ·intro a w ux7 D hE hI hD hdc hp
   have d3 : D 3 = true:=hp 0 _ rfl rfl
   have g3:=hI.2 3 d3 _ rfl
   have f3 : ux7 3 = u3:=g3.2
   have hM0:=hI.1
   have hM:=hI.1
   exact UU hE Za ld (lk rfl f3) Try.underlying138 (hM.sl (pre:=[]) noB) fun a hE=>⟨_,_,rfl,hE,M.qKeep hM0 rfl,hI.2.put hD rfl ZR rfl⟩
  ·intro a w ux7 D hE hI hD hdc hp
   have d2 : D 2 = true:=hp 0 _ rfl rfl
   have g2:=hI.2 2 d2 _ rfl
   have f2 : ux7 2 = (ptr pb0 0):=g2.2
   have d4 : D 4 = true:=hp 1 _ rfl rfl
   have g4:=hI.2 4 d4 _ rfl
   have f4 : ux7 4 = (vI (r1.length : Int)):=g4.2
   have hM0:=hI.1
   have hM : M St W w [osl NoB (r1 : List Int) u3,R,tog (D 5) (raw pb0 (cat [[v0_0],[vI p0.1],[(Value.int .u64 p0.2)]])) (tog (D 12) (raw pb0 (cat [[v0_0],[vI r8.1.1],[(Value.int .u64 r8.1.2)]])) (raw pb0 (cat [[v0_0],[vI r13.1.1],[(Value.int .u64 r13.1.2)]]))),opt (D 15) (osl NoB (([285,x10,x15] : List Int) : List Int) (ux7 15))]:=hI.1
   have hM:=hM.togA (pre:=[_,_]) hD
   have hNx : D 12 = false:=Bool.eq_false_iff.2 fun hx=>Bool.noConfusion (hD.symm.trans (hdc 12 _ _ rfl (List.mem_of_getElem? (i:=2) rfl) rfl hx))
   have hM:=M.tailP (m:=[_]) (hM.pull (pre:=[_,_]))
   refine Zo hE Za ld (Z1 (ZX (lk rfl f2) (ZX (lk rfl f4) Xg))) VD (ZH _ _ _ _ pb0 p0_0 v0_0 hv0_0 (p0.1,p0.2) (r1.length : Int) hM r8 e9) ?_
   rintro v w a ⟨rfl,hM⟩ hE
   have hM:=M.tailU (m:=[_]) hM
   simp only [List.cons_append,List.nil_append] at hM
   exact ⟨_,_,rfl,hE,M.qTogS (p:=([5,12],fun bs _=>(tog (bs.getD 0 false) (raw pb0 (cat [[v0_0],[vI p0.1],[(Value.int .u64 p0.2)]])) (tog (bs.getD 1 false) (raw pb0 (cat [[v0_0],[vI r8.1.1],[(Value.int .u64 r8.1.2)]])) (raw pb0 (cat [[v0_0],[vI r13.1.1],[(Value.int .u64 r13.1.2)]])))))) (mk1:=[]) (mk2:=[_]) hM rfl (by show tog (Yl D 5 5) (raw pb0 (cat [[v0_0],[vI p0.1],[(Value.int .u64 p0.2)]])) (tog (Yl D 5 12) (raw pb0 (cat [[v0_0],[vI r8.1.1],[(Value.int .u64 r8.1.2)]])) (raw pb0 (cat [[v0_0],[vI r13.1.1],[(Value.int .u64 r13.1.2)]]))) = _; rw [tg1 KF,tg0 (Bx (i:=5) hNx (by decide))]),hI.2.put hD rfl ZR rfl⟩
  ·intro a w ux7 D hE hI hD hdc hp
   have d1 : D 1 = true:=hp 0 _ rfl rfl
   have g1:=hI.2 1 d1 _ rfl
   have f1 : ux7 1 = u3:=g1.2
   have d5 : D 5 = true:=hp 1 _ rfl rfl
   have g5:=hI.2 5 d5 _ rfl
   have f5 : ux7 5 = (vI r8.2):=g5.2
   have hM0:=hI.1
   have hM:=hI.1
   exact Yv hE Za ld (lk rfl f1) (lk rfl f5) Try.underlying138 ty2 (hM.sl (pre:=[]) noB) hi12.1 fun a hE=>⟨_,_,rfl,hE,M.qKeep hM0 rfl,hI.2.put hD rfl ZR rfl⟩
  ·intro a w ux7 D hE hI hD hdc hp
   have d6 : D 6 = true:=hp 0 _ rfl rfl
   have g6:=hI.2 6 d6 _ rfl
   have f6 : ux7 6 = (ptr (sb u3) (so u3 + (r8.2).toNat * 1)):=g6.2
   have hM0:=hI.1
   have hM:=hI.1
   exact ZF (v:=(vI x10)) hE Za ld (lk rfl f6) ty2 rfl (X9 (hM.sl (pre:=[]) noB) hi12.2) fun a hE=>⟨_,_,rfl,hE,M.qKeep hM0 rfl,hI.2.put hD rfl ZR rfl⟩
  ·intro a w ux7 D hE hI hD hdc hp
   have hM0:=hI.1
   exact Zc hE Za ld rfl fun a hE=>⟨_,_,rfl,hE,M.qKeep hM0 rfl,hI.2.put hD rfl ZR rfl⟩
  ·intro a w ux7 D hE hI hD hdc hp
   have hM0:=hI.1
   exact Zc hE Za ld rfl fun a hE=>⟨_,_,rfl,hE,M.qKeep hM0 rfl,hI.2.put hD rfl ZR rfl⟩
  ·intro a w ux7 D hE hI hD hdc hp
   have hM0:=hI.1
   exact Zc hE Za ld rfl fun a hE=>⟨_,_,rfl,hE,M.qKeep hM0 rfl,hI.2.put hD rfl ZR rfl⟩
  ·intro a w ux7 D hE hI hD hdc hp
   have d10 : D 10 = true:=hp 0 _ rfl rfl
   have g10:=hI.2 10 d10 _ rfl
   have f10 : ux7 10 = u3:=g10.2
   have hM0:=hI.1
   have hM:=hI.1
   exact UU hE Za ld (lk rfl f10) Try.underlying138 (hM.sl (pre:=[]) noB) fun a hE=>⟨_,_,rfl,hE,M.qKeep hM0 rfl,hI.2.put hD rfl ZR rfl⟩
  ·intro a w ux7 D hE hI hD hdc hp
   have d9 : D 9 = true:=hp 0 _ rfl rfl
   have g9:=hI.2 9 d9 _ rfl
   have f9 : ux7 9 = (ptr pb0 0):=g9.2
   have d11 : D 11 = true:=hp 1 _ rfl rfl
   have g11:=hI.2 11 d11 _ rfl
   have f11 : ux7 11 = (vI (r1.length : Int)):=g11.2
   have hM0:=hI.1
   have hM : M St W w [osl NoB (r1 : List Int) u3,R,tog (D 5) (raw pb0 (cat [[v0_0],[vI p0.1],[(Value.int .u64 p0.2)]])) (tog (D 12) (raw pb0 (cat [[v0_0],[vI r8.1.1],[(Value.int .u64 r8.1.2)]])) (raw pb0 (cat [[v0_0],[vI r13.1.1],[(Value.int .u64 r13.1.2)]]))),opt (D 15) (osl NoB (([285,x10,x15] : List Int) : List Int) (ux7 15))]:=hI.1
   have dC5 : D 5 = true:=hp 2 _ rfl rfl
   have hM:=M.tailP (m:=[_]) (((hM.togB (pre:=[_,_]) dC5).togA (pre:=[_,_]) hD).pull (pre:=[_,_]))
   refine Zo hE Za ld (Z1 (ZX (lk rfl f9) (ZX (lk rfl f11) Xg))) VD (ZH _ _ _ _ pb0 p0_0 v0_0 hv0_0 (r8.1.1,r8.1.2) (r1.length : Int) hM r13 e14) ?_
   rintro v w a ⟨rfl,hM⟩ hE
   have hM:=M.tailU (m:=[_]) hM
   simp only [List.cons_append,List.nil_append] at hM
   exact ⟨_,_,rfl,hE,M.qTogS (p:=([5,12],fun bs _=>(tog (bs.getD 0 false) (raw pb0 (cat [[v0_0],[vI p0.1],[(Value.int .u64 p0.2)]])) (tog (bs.getD 1 false) (raw pb0 (cat [[v0_0],[vI r8.1.1],[(Value.int .u64 r8.1.2)]])) (raw pb0 (cat [[v0_0],[vI r13.1.1],[(Value.int .u64 r13.1.2)]])))))) (mk1:=[]) (mk2:=[_]) hM rfl (by show tog (Yl D 12 5) (raw pb0 (cat [[v0_0],[vI p0.1],[(Value.int .u64 p0.2)]])) (tog (Yl D 12 12) (raw pb0 (cat [[v0_0],[vI r8.1.1],[(Value.int .u64 r8.1.2)]])) (raw pb0 (cat [[v0_0],[vI r13.1.1],[(Value.int .u64 r13.1.2)]]))) = _; rw [tg1 (K8 dC5),tg1 KF]),hI.2.put hD rfl ZR rfl⟩
  ·intro a w ux7 D hE hI hD hdc hp
   have d8 : D 8 = true:=hp 0 _ rfl rfl
   have g8:=hI.2 8 d8 _ rfl
   have f8 : ux7 8 = u3:=g8.2
   have d12 : D 12 = true:=hp 1 _ rfl rfl
   have g12:=hI.2 12 d12 _ rfl
   have f12 : ux7 12 = (vI r13.2):=g12.2
   have hM0:=hI.1
   have hM:=hI.1
   exact Yv hE Za ld (lk rfl f8) (lk rfl f12) Try.underlying138 ty2 (hM.sl (pre:=[]) noB) hi17.1 fun a hE=>⟨_,_,rfl,hE,M.qKeep hM0 rfl,hI.2.put hD rfl ZR rfl⟩
  ·intro a w ux7 D hE hI hD hdc hp
   have d13 : D 13 = true:=hp 0 _ rfl rfl
   have g13:=hI.2 13 d13 _ rfl
   have f13 : ux7 13 = (ptr (sb u3) (so u3 + (r13.2).toNat * 1)):=g13.2
   have hM0:=hI.1
   have hM:=hI.1
   exact ZF (v:=(vI x15)) hE Za ld (lk rfl f13) ty2 rfl (X9 (hM.sl (pre:=[]) noB) hi17.2) fun a hE=>⟨_,_,rfl,hE,M.qKeep hM0 rfl,hI.2.put hD rfl ZR rfl⟩
  ·intro a w ux7 D hE hI hD hdc hp
   have d7 : D 7 = true:=hp 0 _ rfl rfl
   have g7:=hI.2 7 d7 _ rfl
   have f7 : ux7 7 = (vI x10):=g7.2
   have d14 : D 14 = true:=hp 1 _ rfl rfl
   have g14:=hI.2 14 d14 _ rfl
   have f14 : ux7 14 = (vI x15):=g14.2
   have hM0:=hI.1
   have hM:=hI.1
   exact YM (xs:=[.const (vI 285),.tmp 12,.tmp 19]) (l:=([285,x10,x15] : List Int)) (vs:=[vI 285,vI x10,vI x15]) hE hM Za ld (Z1 (ZX rfl (ZX (lk rfl f7) (ZX (lk rfl f14) Xg)))) rfl Try.underlying138 ty2 rfl (by decide) rfl fun u18 w a hM hE=>⟨_,_,rfl,hE,M.qFill (mk1:=[_]) (mk2:=[]) (f:=(fun v=>osl NoB (([285,x10,x15] : List Int) : List Int) v)) hM rfl hD,hI.2.put hD rfl ZR trivial⟩
  ·intro a w ux7 D hE hI hall
   have hM:=hI.1
   have d0 : D 0 = true:=hall 0 (by decide)
   have d1 : D 1 = true:=hall 1 (by decide)
   have d2 : D 2 = true:=hall 2 (by decide)
   have d3 : D 3 = true:=hall 3 (by decide)
   have d4 : D 4 = true:=hall 4 (by decide)
   have d5 : D 5 = true:=hall 5 (by decide)
   have d6 : D 6 = true:=hall 6 (by decide)
   have d7 : D 7 = true:=hall 7 (by decide)
   have d8 : D 8 = true:=hall 8 (by decide)
   have d9 : D 9 = true:=hall 9 (by decide)
   have d10 : D 10 = true:=hall 10 (by decide)
   have d11 : D 11 = true:=hall 11 (by decide)
   have d12 : D 12 = true:=hall 12 (by decide)
   have d13 : D 13 = true:=hall 13 (by decide)
   have d14 : D 14 = true:=hall 14 (by decide)
   have d15 : D 15 = true:=hall 15 (by decide)
   have f0 : ux7 0 = (ptr pb0 0):=(hI.2 0 d0 _ rfl).2
   have f1 : ux7 1 = u3:=(hI.2 1 d1 _ rfl).2
   have f2 : ux7 2 = (ptr pb0 0):=(hI.2 2 d2 _ rfl).2
   have f3 : ux7 3 = u3:=(hI.2 3 d3 _ rfl).2
   have f4 : ux7 4 = (vI (r1.length : Int)):=(hI.2 4 d4 _ rfl).2
   have f5 : ux7 5 = (vI r8.2):=(hI.2 5 d5 _ rfl).2
   have f6 : ux7 6 = (ptr (sb u3) (so u3 + (r8.2).toNat * 1)):=(hI.2 6 d6 _ rfl).2
   have f7 : ux7 7 = (vI x10):=(hI.2 7 d7 _ rfl).2
   have f8 : ux7 8 = u3:=(hI.2 8 d8 _ rfl).2
   have f9 : ux7 9 = (ptr pb0 0):=(hI.2 9 d9 _ rfl).2
   have f10 : ux7 10 = u3:=(hI.2 10 d10 _ rfl).2
   have f11 : ux7 11 = (vI (r1.length : Int)):=(hI.2 11 d11 _ rfl).2
   have f12 : ux7 12 = (vI r13.2):=(hI.2 12 d12 _ rfl).2
   have f13 : ux7 13 = (ptr (sb u3) (so u3 + (r13.2).toNat * 1)):=(hI.2 13 d13 _ rfl).2
   have f14 : ux7 14 = (vI x15):=(hI.2 14 d14 _ rfl).2
   have hM:=((hM.togB (pre:=[_,_]) d5).togB (pre:=[_,_]) d12).sure (pre:=[_,_,_]) d15
   have hE:=hE.sub (e':=[(5,(ptr pb0 0)),(20,(ux7 15)),(2,vI 0)]) ⟨lk rfl f0,rfl,rfl,trivial⟩
   have hM:=M.tailP (m:=[_,_]) ((hM.pull (pre:=[_,_,_])).pull (pre:=[_,_,_]))
   obtain ⟨r20,e21,hl5⟩:=bind_some hl5
   refine Zo hE Za ld rfl cb49 (Vs _ _ _ _ pb0 p0_0 v0_0 hv0_0 (r13.1.1,r13.1.2) ([285,x10,x15] : List Int) (ux7 15) hM r20 e21) ?_
   rintro v w a ⟨rfl,hM⟩ hE
   have hM:=M.tailU (m:=[_,_]) hM
   simp only [List.cons_append,List.nil_append] at hM
   refine Ze hE Za ld rfl fun a hE=>Zk ?_
   have ht22:=Option.some.inj hl5
   subst ht22
   refine Zn ?_
   have hM:=(((((hM.pull (pre:=[_,_,_])).pull (pre:=[_])).pull (pre:=[_,_,_])).drop).pull (pre:=[_,_])).drop
   exact ⟨hE.sub ⟨rfl,trivial⟩,hM⟩
 ·skip
  rintro a w ⟨hE,hM⟩
  have hr:=Option.some.inj hF6
  subst hr
  exact wp_ret (ZK hE rfl (Zx hE rfl) ⟨_,rfl,rfl,hM⟩)
def VL (s8 : (Vector UInt8 256) × Int) : Option (Fl ((Vector UInt8 256) × Int) (Vector UInt8 256)) :=
 if (decide (s8.2 < 256)) = true then ((ZI s8.1 s8.2).bind fun x14=>some (Fl.nx ((s8.1.setIfInBounds (s8.2).toNat (ZE s8.2)),wr (s8.2 + 1)))) else (some (Fl.ex s8.1))
def Vp : Option ((Vector UInt8 256)) :=
 (ZQ (VL) ((Vector.replicate 256 (0 : UInt8)),0)).bind fun j5=>some j5
theorem Ke (w0 : World)  (r : (Vector UInt8 256)) (hF : Vp  = some r) :
  Calls Try.prog 216 [].toArray w0 (fun en w'=>∃ v,en = .returned v ∧ (v = (Value.agg (enc r).toArray) ∧ Kept (Old w0) w0 w')):=by
 refine ZJ (n:=13) Try.func216 rfl rfl (nbl rfl) rfl ?_
 intro a hE
 have hM:=M.start w0
 unfold Vp at hF
 refine Zd (Zu hE hM Za ld YC fun b1 w a hM hE=>Zf (Zd (Z7 (parts:=[]) (vs:=[]) (cs:=enc (Vector.replicate 256 (0 : UInt8))) hE Za ld rfl rfl YC rfl ty5 ZZ fun a hE=>Zu hE hM Za ld YC fun b3 w a hM hE=>Zi (seg:=enc (Vector.replicate 256 (0 : UInt8))) (cs':=enc (Vector.replicate 256 (0 : UInt8))) hE hM Za rfl rfl rfl YC (Flat.len _) (zle flq) (Flat.cell _) (Zg flq) fun w a hM hE=>Zf (wp_seq (Zd (Ze hE Za ld rfl fun a hE=>Zf ?_))))))
 obtain ⟨j5,hl6,hF7⟩:=bind_some hF
 refine Z0 (fun a w=>Env 13 a [(0,(ptr b1 0)),(1,(ptr b3 0))] ∧ M (Old w0) w0 w [raw b3 (enc j5),raw b1 (enc (Vector.replicate 256 (0 : UInt8)))]) ?_ ?_
 ·skip
  refine wp_block ?_
  refine ZV (fun (s8 : (Vector UInt8 256) × Int) a w=>Env 13 a [(0,(ptr b1 0)),(1,(ptr b3 0)),(2,vI s8.2)] ∧ M (Old w0) w0 w [raw b3 (enc s8.1),raw b1 (enc (Vector.replicate 256 (0 : UInt8)))]) hl6 ⟨hE.sub ⟨rfl,rfl,rfl,trivial⟩,hM⟩ ?_
  rintro s8 a w ⟨hE,hM⟩ o11 hs9 hx10
  unfold VL at hs9
  refine wp_seq (Zd (Zc hE Za ld rfl fun a hE=>Zm hE Za ld rfl rfl rfl fun a hE=>Zf ?_))
  refine Zv hE rfl ?_ ?_
  ·intro hb12
   have hs9:=ZB hs9 hb12
   refine wp_skip (ZG (wp_seq (wp_block (wp_region_lit (Zc hE Za ld rfl fun a hE=>Zc hE Za ld rfl fun a hE=>Yg hE Za ld rfl Try.underlying3 Try.underlying5 ?_))))); intro a hE
   rw [Z6] at hE
   obtain ⟨x14,hi13,hs9⟩:=bvx hs9
   refine Zh hE Za ld rfl rfl Try.underlying54 ty5 hi13.1 fun a hE=>Zi (seg:=[(vB (ZE s8.2))]) (cs':=enc (s8.1.setIfInBounds (s8.2).toNat (ZE s8.2))) hE hM Za rfl rfl rfl ty5 rfl (ZN (v:=s8.1) (x:=ZE s8.2) hi13.1) (Flat.cell (ZE s8.2 : UInt8)) (ZD (v:=s8.1) (x:=ZE s8.2) hi13.1) fun w a hM hE=>Zk (Yj (ZG (wp_region_lit (Zc hE Za ld rfl fun a hE=>Zm hE Za ld rfl rfl rfl fun a hE=>Ze hE Za ld rfl fun a hE=>Zk (Zn ?_)))))
   exact ⟨_,(ois hs9),hE.sub ⟨rfl,rfl,rfl,trivial⟩,hM⟩
  ·intro hb12
   have hs9:=ZA hs9 hb12
   refine wp_exit (Zs (Zs (Yz ?_)))
   have ht16:=hx10 _ (ois hs9)
   subst ht16
   refine Zn ?_
   exact ⟨hE.sub ⟨rfl,rfl,trivial⟩,hM⟩
 ·skip
  rintro a w ⟨hE,hM⟩
  refine ZG (Zd (Zj (cs:=enc j5) hE Za ld rfl YC rfl (hM.rawAt (pre:=[])) (Flat.len _) ?_)); intro a hE
  have hM:=hM.pull (pre:=[_])
  refine Zi (seg:=enc j5) (cs':=enc j5) hE hM Za rfl rfl rfl YC (Flat.len _) (zle flq) (Flat.cell _) (Zg flq) fun w a hM hE=>Zf ?_
  have hr:=Option.some.inj hF7
  subst hr
  have hq17 : ZY Try.prog _ _ (.cell 0 54) _:=ZM hE rfl YC rfl (hM.rawAt (pre:=[])) (Flat.len _) rfl
  have hM:=M.fst (l:=[]) hM
  exact wp_ret (ZK hE rfl hq17 ⟨_,rfl,rfl,hM.kept⟩)
def VF (p0_0 : (List UInt8)) (s10 : (Vector UInt8 256) × Int × Int × Int) : Option (Fl ((Vector UInt8 256) × Int × Int × Int) ((Vector UInt8 256) × Int × Int)) :=
 if (decide (s10.2.2.2 > 0)) = true then ((ZC p0_0 (s10.2.1,s10.2.2.1) (wr (s10.2.2.2 + 1))).bind fun r15=>(ZI s10.1 s10.2.2.2).bind fun x18=>(ZI s10.1 r15.2).bind fun x21=>(ZI s10.1 s10.2.2.2).bind fun x24=>(ZI (s10.1.setIfInBounds (s10.2.2.2).toNat x21) r15.2).bind fun x27=>some (Fl.nx (((s10.1.setIfInBounds (s10.2.2.2).toNat x21).setIfInBounds (r15.2).toNat x18),r15.1.1,r15.1.2,wr (s10.2.2.2 - 1)))) else (some (Fl.ex (s10.1,s10.2.1,s10.2.2.1)))
def W7 (p0_0 : (List UInt8)) (p0 : (Int × Int)) : Option ((Int × Int) × (Vector UInt8 256)) :=
 (Vp).bind fun r3=>(ZQ (VF p0_0) (r3,p0.1,p0.2,255)).bind fun j7=>some ((j7.2.1,j7.2.2),j7.1)
theorem Jb (St : Nat → Prop) (W w0 : World) (R : Item) (pb0 : Nat) (p0_0 : (List UInt8)) (v0_0 : Value) (hv0_0 : Rep.sat St W p0_0 [v0_0] []) (p0 : (Int × Int)) (hM : M St W w0 [raw pb0 (cat [[v0_0],[vI p0.1],[(Value.int .u64 p0.2)]]),R]) (r : (Int × Int) × (Vector UInt8 256)) (hF : W7 p0_0 p0 = some r) :
  Calls Try.prog 217 [(ptr pb0 0)].toArray w0 (fun en w'=>∃ v,en = .returned v ∧ (v = (Value.agg (enc r.2).toArray) ∧ M St W w' [raw pb0 (cat [[v0_0],[vI r.1.1],[(Value.int .u64 r.1.2)]]),R])):=by
 refine ZJ (n:=28) Try.func217 rfl rfl (nbl rfl) rfl ?_
 intro a hE
 unfold W7 at hF
 refine Zd (Zu hE hM Za ld YC fun b1 w a hM hE=>Zf (Zd ?_))
 obtain ⟨r3,e4,hF⟩:=bind_some hF
 refine Zo hE Za ld rfl cb216 (Ke _  r3 e4) ?_
 rintro v w a ⟨rfl,hK⟩ hE
 have hM:=hM.keep hK
 refine Zu hE hM Za ld YC fun b5 w a hM hE=>Zi (seg:=enc r3) (cs':=enc r3) hE hM Za rfl rfl rfl YC (Flat.len _) (zle flq) (Flat.cell _) (Zg flq) fun w a hM hE=>Zf (wp_seq (Zd (Ze hE Za ld rfl fun a hE=>Zf ?_)))
 obtain ⟨j7,hl8,hF9⟩:=bind_some hF
 refine Z0 (fun a w=>Env 28 a [(2,(ptr b1 0)),(3,(ptr b5 0))] ∧ M St W w [raw b5 (enc j7.1),raw b1 (enc (Vector.replicate 256 (0 : UInt8))),raw pb0 (cat [[v0_0],[vI j7.2.1],[(Value.int .u64 j7.2.2)]]),R]) ?_ ?_
 ·skip
  refine wp_block ?_
  refine ZV (fun (s10 : (Vector UInt8 256) × Int × Int × Int) a w=>Env 28 a [(0,(ptr pb0 0)),(2,(ptr b1 0)),(3,(ptr b5 0)),(4,vI s10.2.2.2)] ∧ M St W w [raw b5 (enc s10.1),raw b1 (enc (Vector.replicate 256 (0 : UInt8))),raw pb0 (cat [[v0_0],[vI s10.2.1],[(Value.int .u64 s10.2.2.1)]]),R]) hl8 ⟨hE.sub ⟨rfl,rfl,rfl,rfl,trivial⟩,hM⟩ ?_
  rintro s10 a w ⟨hE,hM⟩ o13 hs11 hx12
  unfold VF at hs11
  refine wp_seq (Zd (Zc hE Za ld rfl fun a hE=>Zm hE Za ld rfl rfl rfl fun a hE=>Zf ?_))
  refine Zv hE rfl ?_ ?_
  ·intro hb14
   have hs11:=ZB hs11 hb14
   refine wp_skip (ZG (wp_seq (wp_block (Zd (Zc hE Za ld rfl fun a hE=>Zc hE Za ld rfl fun a hE=>Zm hE Za ld rfl rfl rfl ?_))))); intro a hE
   have hM:=M.tailP (m:=[_]) (hM.pull (pre:=[_,_]))
   obtain ⟨r15,e16,hs11⟩:=bind_some hs11
   refine Zo hE Za ld rfl VD (ZH _ _ _ _ pb0 p0_0 v0_0 hv0_0 (s10.2.1,s10.2.2.1) (wr (s10.2.2.2 + 1)) hM r15 e16) ?_
   rintro v w a ⟨rfl,hM⟩ hE
   have hM:=M.tailU (m:=[_]) hM
   simp only [List.cons_append,List.nil_append] at hM
   refine Ze hE Za ld rfl fun a hE=>Zf (Zd (Zc hE Za ld rfl ?_)); intro a hE
   obtain ⟨x18,hi17,hs11⟩:=bvx hs11
   refine Zh hE Za ld rfl rfl Try.underlying54 ty5 hi17.1 fun a hE=>ZF (v:=(vB x18)) hE Za ld rfl ty5 rfl (At.vec (hM.rawAt (pre:=[_])) hi17.2) fun a hE=>Ze hE Za ld rfl fun a hE=>Zf (Zd (Zc hE Za ld rfl fun a hE=>Zc hE Za ld rfl ?_)); intro a hE
   obtain ⟨x21,hi20,hs11⟩:=bvx hs11
   refine Zh hE Za ld rfl rfl Try.underlying54 ty5 hi20.1 fun a hE=>ZF (v:=(vB x21)) hE Za ld rfl ty5 rfl (At.vec (hM.rawAt (pre:=[_])) hi20.2) ?_; intro a hE
   obtain ⟨x24,hi23,hs11⟩:=bvx hs11
   refine Zh hE Za ld rfl rfl Try.underlying54 ty5 hi23.1 ?_; intro a hE
   have hM:=hM.pull (pre:=[_])
   refine Zi (seg:=[vB x21]) (cs':=enc (s10.1.setIfInBounds (s10.2.2.2).toNat x21)) hE hM Za rfl rfl rfl ty5 rfl (ZN (v:=s10.1) (x:=x21) hi23.1) (Flat.cell (x21 : UInt8)) (ZD (v:=s10.1) (x:=x21) hi23.1) fun w a hM hE=>Zf (wp_region_lit (Zc hE Za ld rfl fun a hE=>Zc hE Za ld rfl ?_)); intro a hE
   obtain ⟨x27,hi26,hs11⟩:=bvx hs11
   refine Zh hE Za ld rfl rfl Try.underlying54 ty5 hi26.1 fun a hE=>Zi (seg:=[vB x18]) (cs':=enc ((s10.1.setIfInBounds (s10.2.2.2).toNat x21).setIfInBounds (r15.2).toNat x18)) hE hM Za rfl rfl rfl ty5 rfl (ZN (v:=(s10.1.setIfInBounds (s10.2.2.2).toNat x21)) (x:=x18) hi26.1) (Flat.cell (x18 : UInt8)) (ZD (v:=(s10.1.setIfInBounds (s10.2.2.2).toNat x21)) (x:=x18) hi26.1) fun w a hM hE=>Zk (Yj (ZG (wp_region_lit (Zc hE Za ld rfl fun a hE=>Zm hE Za ld rfl rfl rfl fun a hE=>Ze hE Za ld rfl fun a hE=>Zk (Zn ?_)))))
   have hM:=(((hM.pull (pre:=[_,_,_])).pull (pre:=[_,_])).pull (pre:=[_,_,_])).pull (pre:=[_,_,_])
   exact ⟨_,(ois hs11),hE.sub ⟨rfl,rfl,rfl,rfl,trivial⟩,hM⟩
  ·intro hb14
   have hs11:=ZA hs11 hb14
   refine wp_exit (Zs (Zs (Yz ?_)))
   have ht29:=hx12 _ (ois hs11)
   subst ht29
   refine Zn ?_
   exact ⟨hE.sub ⟨rfl,rfl,trivial⟩,hM⟩
 ·skip
  rintro a w ⟨hE,hM⟩
  refine ZG (Zd (Zj (cs:=enc j7.1) hE Za ld rfl YC rfl (hM.rawAt (pre:=[])) (Flat.len _) ?_)); intro a hE
  have hM:=hM.pull (pre:=[_])
  refine Zi (seg:=enc j7.1) (cs':=enc j7.1) hE hM Za rfl rfl rfl YC (Flat.len _) (zle flq) (Flat.cell _) (Zg flq) fun w a hM hE=>Zf ?_
  have hr:=Option.some.inj hF9
  subst hr
  have hq30 : ZY Try.prog _ _ (.cell 2 54) _:=ZM hE rfl YC rfl (hM.rawAt (pre:=[])) (Flat.len _) rfl
  have hM:=(((((hM.pull (pre:=[_,_,_])).pull (pre:=[_,_,_])).pull (pre:=[_,_,_])).drop).pull (pre:=[_,_])).drop
  exact wp_ret (ZK hE rfl hq30 ⟨_,rfl,rfl,hM⟩)
def Ub (p0_0 : (List UInt8)) (p0 : (Int × Int)) : Option ((Int × Int) × (Vector UInt8 256)) :=
 (ZC p0_0 (p0.1,p0.2) 6).bind fun r3=>if (r3.2 == 0) = true then ((YU p0_0 (r3.1.1,r3.1.2)).bind fun r6=>(Y3 r6.2 254).bind fun r8=>(ZC p0_0 (r6.1.1,r6.1.2) 256).bind fun r12=>(Yt ([0,1,4] : List Int) (ZE r12.2)).bind fun r14=>(Wd r8 r14).bind fun r16=>some ((r12.1.1,r12.1.2),r16)) else (if (r3.2 == 1) = true then ((YU p0_0 (r3.1.1,r3.1.2)).bind fun r20=>(YZ p0_0 (r20.1.1,r20.1.2) ([1,2,7,11,13,127,254] : List Int)).bind fun r24=>(Y3 r20.2 r24.2).bind fun r26=>some ((r24.1.1,r24.1.2),r26)) else (if (r3.2 == 2) = true then ((ZC p0_0 (r3.1.1,r3.1.2) 256).bind fun r32=>(Yt ([0,2,5] : List Int) (ZE r32.2)).bind fun r34=>some ((r32.1.1,r32.1.2),r34)) else (if (r3.2 == 3) = true then ((Vp).bind fun r38=>(ZC p0_0 (r3.1.1,r3.1.2) 256).bind fun r42=>(ZC p0_0 (r42.1.1,r42.1.2) 256).bind fun r44=>(ZI r38 r42.2).bind fun x47=>(ZI r38 r44.2).bind fun x50=>(ZI r38 r42.2).bind fun x53=>(ZI (r38.setIfInBounds (r42.2).toNat x50) r44.2).bind fun x56=>some ((r44.1.1,r44.1.2),((r38.setIfInBounds (r42.2).toNat x50).setIfInBounds (r44.2).toNat x47))) else ((W7 p0_0 (r3.1.1,r3.1.2)).bind fun r59=>some ((r59.1.1,r59.1.2),r59.2)))))
theorem H4 (St : Nat → Prop) (W w0 : World) (R : Item) (pb0 : Nat) (p0_0 : (List UInt8)) (v0_0 : Value) (hv0_0 : Rep.sat St W p0_0 [v0_0] []) (p0 : (Int × Int)) (hM : M St W w0 [raw pb0 (cat [[v0_0],[vI p0.1],[(Value.int .u64 p0.2)]]),R]) (r : (Int × Int) × (Vector UInt8 256)) (hF : Ub p0_0 p0 = some r) :
  Calls Try.prog 215 [(ptr pb0 0)].toArray w0 (fun en w'=>∃ v,en = .returned v ∧ (v = (Value.agg (enc r.2).toArray) ∧ M St W w' [raw pb0 (cat [[v0_0],[vI r.1.1],[(Value.int .u64 r.1.2)]]),R])):=by
 refine ZJ (n:=56) Try.func215 rfl rfl (nbl rfl) rfl ?_
 intro a hE
 unfold Ub at hF
 refine Zd (Zu hE hM Za ld YC fun b1 w a hM hE=>Zf (wp_seq (Zd (Zc hE Za ld rfl ?_)))); intro a hE
 have hM:=M.tailP (m:=[_]) (hM.pull (pre:=[_]))
 obtain ⟨r3,e4,hF⟩:=bind_some hF
 refine Zo hE Za ld rfl VD (ZH _ _ _ _ pb0 p0_0 v0_0 hv0_0 (p0.1,p0.2) 6 hM r3 e4) ?_
 rintro v w a ⟨rfl,hM⟩ hE
 have hM:=M.tailU (m:=[_]) hM
 simp only [List.cons_append,List.nil_append] at hM
 refine Zf (wp_block (Zd (Zm hE Za ld rfl rfl rfl fun a hE=>Ze hE Za ld rfl fun a hE=>Zf ?_)))
 refine Zv hE rfl ?_ ?_
 ·intro hb5
  have hF:=ZB hF hb5
  refine Zd (Zc hE Za ld rfl ?_); intro a hE
  have hM:=M.tailP (m:=[_]) hM
  obtain ⟨r6,e7,hF⟩:=bind_some hF
  refine Zo hE Za ld rfl ja (UC _ _ _ _ pb0 p0_0 v0_0 hv0_0 (r3.1.1,r3.1.2) hM r6 e7) ?_
  rintro v w a ⟨rfl,hM⟩ hE
  have hM:=M.tailU (m:=[_]) hM
  simp only [List.cons_append,List.nil_append] at hM
  obtain ⟨r8,e9,hF⟩:=bind_some hF
  refine Zo hE Za ld rfl yT (TE _ r6.2 254 r8 e9) ?_
  rintro v w a ⟨rfl,hK⟩ hE
  have hM:=hM.keep hK
  refine YM (xs:=[.const (vI 0),.const (vI 1),.const (vI 4)]) (l:=([0,1,4] : List Int)) (vs:=[vI 0,vI 1,vI 4]) hE hM Za ld rfl rfl Try.underlying138 ty2 rfl (by decide) rfl fun u10 w a hM hE=>Zc hE Za ld rfl ?_; intro a hE
  have hM:=M.tailP (m:=[_]) (hM.pull (pre:=[_]))
  obtain ⟨r12,e13,hF⟩:=bind_some hF
  refine Zo hE Za ld rfl VD (ZH _ _ _ _ pb0 p0_0 v0_0 hv0_0 (r6.1.1,r6.1.2) 256 hM r12 e13) ?_
  rintro v w a ⟨rfl,hM⟩ hE
  have hM:=M.tailU (m:=[_]) hM
  simp only [List.cons_append,List.nil_append] at hM
  refine Yg hE Za ld rfl Try.underlying2 Try.underlying5 ?_; intro a hE
  rw [Z6] at hE
  obtain ⟨r14,e15,hF⟩:=bind_some hF
  refine Zo hE Za ld rfl yR (UA _ ([0,1,4] : List Int) u10 (hM.sl (pre:=[_]) noB) (ZE r12.2) r14 e15) ?_
  rintro v w a ⟨rfl,hK⟩ hE
  have hM:=hM.keep hK
  obtain ⟨r16,e17,hF⟩:=bind_some hF
  refine Zo hE Za ld rfl cb184 (Q8 _ r8 r14 r16 e17) ?_
  rintro v w a ⟨rfl,hK⟩ hE
  have hM:=(hM.keep hK).pull (pre:=[_,_])
  refine Zi (seg:=enc r16) (cs':=enc r16) hE hM Za rfl rfl rfl YC (Flat.len _) (zle flq) (Flat.cell _) (Zg flq) fun w a hM hE=>Zf ?_
  have hr:=Option.some.inj hF
  subst hr
  have hq18 : ZY Try.prog _ _ (.cell 2 54) _:=ZM hE rfl YC rfl (hM.rawAt (pre:=[])) (Flat.len _) rfl
  have hM:=(((((hM.pull (pre:=[_,_,_])).pull (pre:=[_,_])).pull (pre:=[_,_,_])).drop).pull (pre:=[_,_])).drop
  exact wp_ret (Y4 (ZP (ZK hE rfl hq18 ⟨_,rfl,rfl,hM⟩)))
 ·intro hb5
  have hF:=ZA hF hb5
  refine Zd (Zm hE Za ld rfl rfl rfl fun a hE=>Ze hE Za ld rfl fun a hE=>Zf ?_)
  refine Zv hE rfl ?_ ?_
  ·intro hb19
   have hF:=ZB hF hb19
   refine Zd (Zc hE Za ld rfl ?_); intro a hE
   have hM:=M.tailP (m:=[_]) hM
   obtain ⟨r20,e21,hF⟩:=bind_some hF
   refine Zo hE Za ld rfl ja (UC _ _ _ _ pb0 p0_0 v0_0 hv0_0 (r3.1.1,r3.1.2) hM r20 e21) ?_
   rintro v w a ⟨rfl,hM⟩ hE
   have hM:=M.tailU (m:=[_]) hM
   simp only [List.cons_append,List.nil_append] at hM
   refine Zc hE Za ld rfl fun a hE=>YM (xs:=[.const (vI 1),.const (vI 2),.const (vI 7),.const (vI 11),.const (vI 13),.const (vI 127),.const (vI 254)]) (l:=([1,2,7,11,13,127,254] : List Int)) (vs:=[vI 1,vI 2,vI 7,vI 11,vI 13,vI 127,vI 254]) hE hM Za ld rfl rfl Try.underlying138 ty2 rfl (by decide) rfl ?_; intro u22 w a hM hE
   have hM:=M.tailP (m:=[_,_]) (hM.pull (pre:=[_]))
   obtain ⟨r24,e25,hF⟩:=bind_some hF
   refine Zo hE Za ld rfl cb49 (Vs _ _ _ _ pb0 p0_0 v0_0 hv0_0 (r20.1.1,r20.1.2) ([1,2,7,11,13,127,254] : List Int) u22 hM r24 e25) ?_
   rintro v w a ⟨rfl,hM⟩ hE
   have hM:=M.tailU (m:=[_,_]) hM
   simp only [List.cons_append,List.nil_append] at hM
   obtain ⟨r26,e27,hF⟩:=bind_some hF
   refine Zo hE Za ld rfl yT (TE _ r20.2 r24.2 r26 e27) ?_
   rintro v w a ⟨rfl,hK⟩ hE
   have hM:=(hM.keep hK).pull (pre:=[_,_])
   refine Zi (seg:=enc r26) (cs':=enc r26) hE hM Za rfl rfl rfl YC (Flat.len _) (zle flq) (Flat.cell _) (Zg flq) fun w a hM hE=>Zf ?_
   have hr:=Option.some.inj hF
   subst hr
   have hq28 : ZY Try.prog _ _ (.cell 2 54) _:=ZM hE rfl YC rfl (hM.rawAt (pre:=[])) (Flat.len _) rfl
   have hM:=(((((hM.pull (pre:=[_,_,_])).pull (pre:=[_,_])).pull (pre:=[_,_,_])).drop).pull (pre:=[_,_])).drop
   exact wp_ret (Y4 (ZP (ZK hE rfl hq28 ⟨_,rfl,rfl,hM⟩)))
  ·intro hb19
   have hF:=ZA hF hb19
   refine Zd (Zm hE Za ld rfl rfl rfl fun a hE=>Ze hE Za ld rfl fun a hE=>Zf ?_)
   refine Zv hE rfl ?_ ?_
   ·intro hb29
    have hF:=ZB hF hb29
    refine Zd (YM (xs:=[.const (vI 0),.const (vI 2),.const (vI 5)]) (l:=([0,2,5] : List Int)) (vs:=[vI 0,vI 2,vI 5]) hE hM Za ld rfl rfl Try.underlying138 ty2 rfl (by decide) rfl fun u30 w a hM hE=>Zc hE Za ld rfl ?_); intro a hE
    have hM:=M.tailP (m:=[_]) (hM.pull (pre:=[_]))
    obtain ⟨r32,e33,hF⟩:=bind_some hF
    refine Zo hE Za ld rfl VD (ZH _ _ _ _ pb0 p0_0 v0_0 hv0_0 (r3.1.1,r3.1.2) 256 hM r32 e33) ?_
    rintro v w a ⟨rfl,hM⟩ hE
    have hM:=M.tailU (m:=[_]) hM
    simp only [List.cons_append,List.nil_append] at hM
    refine Yg hE Za ld rfl Try.underlying2 Try.underlying5 ?_; intro a hE
    rw [Z6] at hE
    obtain ⟨r34,e35,hF⟩:=bind_some hF
    refine Zo hE Za ld rfl yR (UA _ ([0,2,5] : List Int) u30 (hM.sl (pre:=[_]) noB) (ZE r32.2) r34 e35) ?_
    rintro v w a ⟨rfl,hK⟩ hE
    have hM:=(hM.keep hK).pull (pre:=[_,_])
    refine Zi (seg:=enc r34) (cs':=enc r34) hE hM Za rfl rfl rfl YC (Flat.len _) (zle flq) (Flat.cell _) (Zg flq) fun w a hM hE=>Zf ?_
    have hr:=Option.some.inj hF
    subst hr
    have hq36 : ZY Try.prog _ _ (.cell 2 54) _:=ZM hE rfl YC rfl (hM.rawAt (pre:=[])) (Flat.len _) rfl
    have hM:=(((((hM.pull (pre:=[_,_,_])).pull (pre:=[_,_])).pull (pre:=[_,_,_])).drop).pull (pre:=[_,_])).drop
    exact wp_ret (Y4 (ZP (ZK hE rfl hq36 ⟨_,rfl,rfl,hM⟩)))
   ·intro hb29
    have hF:=ZA hF hb29
    refine Zd (Zm hE Za ld rfl rfl rfl fun a hE=>Ze hE Za ld rfl fun a hE=>Zf ?_)
    refine Zv hE rfl ?_ ?_
    ·intro hb37
     have hF:=ZB hF hb37
     refine Zd ?_
     obtain ⟨r38,e39,hF⟩:=bind_some hF
     refine Zo hE Za ld rfl cb216 (Ke _  r38 e39) ?_
     rintro v w a ⟨rfl,hK⟩ hE
     have hM:=hM.keep hK
     refine Zu hE hM Za ld YC fun b40 w a hM hE=>Zi (seg:=enc r38) (cs':=enc r38) hE hM Za rfl rfl rfl YC (Flat.len _) (zle flq) (Flat.cell _) (Zg flq) fun w a hM hE=>Zf (Zd (Zc hE Za ld rfl ?_)); intro a hE
     have hM:=M.tailP (m:=[_]) (hM.pull (pre:=[_]))
     obtain ⟨r42,e43,hF⟩:=bind_some hF
     refine Zo hE Za ld rfl VD (ZH _ _ _ _ pb0 p0_0 v0_0 hv0_0 (r3.1.1,r3.1.2) 256 hM r42 e43) ?_
     rintro v w a ⟨rfl,hM⟩ hE
     have hM:=M.tailU (m:=[_]) hM
     simp only [List.cons_append,List.nil_append] at hM
     refine Zc hE Za ld rfl ?_; intro a hE
     have hM:=M.tailP (m:=[_]) hM
     obtain ⟨r44,e45,hF⟩:=bind_some hF
     refine Zo hE Za ld rfl VD (ZH _ _ _ _ pb0 p0_0 v0_0 hv0_0 (r42.1.1,r42.1.2) 256 hM r44 e45) ?_
     rintro v w a ⟨rfl,hM⟩ hE
     have hM:=M.tailU (m:=[_]) hM
     simp only [List.cons_append,List.nil_append] at hM
     refine Ze hE Za ld rfl fun a hE=>Ze hE Za ld rfl fun a hE=>Zf (Zd (Zc hE Za ld rfl ?_)); intro a hE
     obtain ⟨x47,hi46,hF⟩:=bvx hF
     refine Zh hE Za ld rfl rfl Try.underlying54 ty5 hi46.1 fun a hE=>ZF (v:=(vB x47)) hE Za ld rfl ty5 rfl (At.vec (hM.rawAt (pre:=[_])) hi46.2) fun a hE=>Ze hE Za ld rfl fun a hE=>Zf (Zd (Zc hE Za ld rfl fun a hE=>Zc hE Za ld rfl ?_)); intro a hE
     obtain ⟨x50,hi49,hF⟩:=bvx hF
     refine Zh hE Za ld rfl rfl Try.underlying54 ty5 hi49.1 fun a hE=>ZF (v:=(vB x50)) hE Za ld rfl ty5 rfl (At.vec (hM.rawAt (pre:=[_])) hi49.2) ?_; intro a hE
     obtain ⟨x53,hi52,hF⟩:=bvx hF
     refine Zh hE Za ld rfl rfl Try.underlying54 ty5 hi52.1 ?_; intro a hE
     have hM:=hM.pull (pre:=[_])
     refine Zi (seg:=[vB x50]) (cs':=enc (r38.setIfInBounds (r42.2).toNat x50)) hE hM Za rfl rfl rfl ty5 rfl (ZN (v:=r38) (x:=x50) hi52.1) (Flat.cell (x50 : UInt8)) (ZD (v:=r38) (x:=x50) hi52.1) fun w a hM hE=>Zf (Zd (Zc hE Za ld rfl fun a hE=>Zc hE Za ld rfl ?_)); intro a hE
     obtain ⟨x56,hi55,hF⟩:=bvx hF
     refine Zh hE Za ld rfl rfl Try.underlying54 ty5 hi55.1 fun a hE=>Zi (seg:=[vB x47]) (cs':=enc ((r38.setIfInBounds (r42.2).toNat x50).setIfInBounds (r44.2).toNat x47)) hE hM Za rfl rfl rfl ty5 rfl (ZN (v:=(r38.setIfInBounds (r42.2).toNat x50)) (x:=x47) hi55.1) (Flat.cell (x47 : UInt8)) (ZD (v:=(r38.setIfInBounds (r42.2).toNat x50)) (x:=x47) hi55.1) fun w a hM hE=>Zf (Zd (Zj (cs:=enc ((r38.setIfInBounds (r42.2).toNat x50).setIfInBounds (r44.2).toNat x47)) hE Za ld rfl YC rfl (hM.rawAt (pre:=[])) (Flat.len _) ?_)); intro a hE
     have hM:=hM.pull (pre:=[_,_])
     refine Zi (seg:=enc ((r38.setIfInBounds (r42.2).toNat x50).setIfInBounds (r44.2).toNat x47)) (cs':=enc ((r38.setIfInBounds (r42.2).toNat x50).setIfInBounds (r44.2).toNat x47)) hE hM Za rfl rfl rfl YC (Flat.len _) (zle flq) (Flat.cell _) (Zg flq) fun w a hM hE=>Zf ?_
     have hr:=Option.some.inj hF
     subst hr
     have hq58 : ZY Try.prog _ _ (.cell 2 54) _:=ZM hE rfl YC rfl (hM.rawAt (pre:=[])) (Flat.len _) rfl
     have hM:=(((((hM.pull (pre:=[_,_,_])).pull (pre:=[_,_,_])).pull (pre:=[_,_,_])).drop).pull (pre:=[_,_])).drop
     exact wp_ret (Y4 (ZP (ZK hE rfl hq58 ⟨_,rfl,rfl,hM⟩)))
    ·intro hb37
     have hF:=ZA hF hb37
     refine wp_skip (Yj (ZG (Zd (Zc hE Za ld rfl ?_)))); intro a hE
     have hM:=M.tailP (m:=[_]) hM
     obtain ⟨r59,e60,hF⟩:=bind_some hF
     refine Zo hE Za ld rfl cb217 (Jb _ _ _ _ pb0 p0_0 v0_0 hv0_0 (r3.1.1,r3.1.2) hM r59 e60) ?_
     rintro v w a ⟨rfl,hM⟩ hE
     have hM:=M.tailU (m:=[_]) hM
     simp only [List.cons_append,List.nil_append] at hM
     have hM:=hM.pull (pre:=[_])
     refine Zi (seg:=enc r59.2) (cs':=enc r59.2) hE hM Za rfl rfl rfl YC (Flat.len _) (zle flq) (Flat.cell _) (Zg flq) fun w a hM hE=>Zf ?_
     have hr:=Option.some.inj hF
     subst hr
     have hq61 : ZY Try.prog _ _ (.cell 2 54) _:=ZM hE rfl YC rfl (hM.rawAt (pre:=[])) (Flat.len _) rfl
     have hM:=(((hM.pull (pre:=[_,_])).pull (pre:=[_,_])).pull (pre:=[_,_])).drop
     exact wp_ret (ZK hE rfl hq61 ⟨_,rfl,rfl,hM⟩)
def UN (s8 : (Vector (Vector UInt8 4) 4) × Int) : Option (Fl ((Vector (Vector UInt8 4) 4) × Int) (Vector (Vector UInt8 4) 4)) :=
 if (decide (s8.2 < 4)) = true then ((ZI s8.1 s8.2).bind fun x14=>(ZI x14 s8.2).bind fun x17=>some (Fl.nx ((s8.1.setIfInBounds (s8.2).toNat (x14.setIfInBounds (s8.2).toNat 1)),wr (s8.2 + 1)))) else (some (Fl.ex s8.1))
def Va : Option ((Vector (Vector UInt8 4) 4)) :=
 (ZQ (UN) ((Vector.replicate 4 (Vector.replicate 4 (0 : UInt8))),0)).bind fun j5=>some j5
theorem Jy (w0 : World)  (r : (Vector (Vector UInt8 4) 4)) (hF : Va  = some r) :
  Calls Try.prog 209 [].toArray w0 (fun en w'=>∃ v,en = .returned v ∧ (v = (Value.agg (enc r).toArray) ∧ Kept (Old w0) w0 w')):=by
 refine ZJ (n:=13) Try.func209 rfl rfl (nbl rfl) rfl ?_
 intro a hE
 have hM:=M.start w0
 unfold Va at hF
 refine Zd (Zu hE hM Za ld Y7 fun b1 w a hM hE=>Zf (Zd (Z7 (parts:=[]) (vs:=[]) (cs:=enc (Vector.replicate 4 (Vector.replicate 4 (0 : UInt8)))) hE Za ld rfl rfl Y7 rfl Yr ZZ fun a hE=>Zu hE hM Za ld Y7 fun b3 w a hM hE=>Zi (seg:=enc (Vector.replicate 4 (Vector.replicate 4 (0 : UInt8)))) (cs':=enc (Vector.replicate 4 (Vector.replicate 4 (0 : UInt8)))) hE hM Za rfl rfl rfl Y7 (Flat.len _) (zle flq) (Flat.cell _) (Zg flq) fun w a hM hE=>Zf (wp_seq (Zd (Ze hE Za ld rfl fun a hE=>Zf ?_))))))
 obtain ⟨j5,hl6,hF7⟩:=bind_some hF
 refine Z0 (fun a w=>Env 13 a [(0,(ptr b1 0)),(1,(ptr b3 0))] ∧ M (Old w0) w0 w [raw b3 (enc j5),raw b1 (enc (Vector.replicate 4 (Vector.replicate 4 (0 : UInt8))))]) ?_ ?_
 ·skip
  refine wp_block ?_
  refine ZV (fun (s8 : (Vector (Vector UInt8 4) 4) × Int) a w=>Env 13 a [(0,(ptr b1 0)),(1,(ptr b3 0)),(2,vI s8.2)] ∧ M (Old w0) w0 w [raw b3 (enc s8.1),raw b1 (enc (Vector.replicate 4 (Vector.replicate 4 (0 : UInt8))))]) hl6 ⟨hE.sub ⟨rfl,rfl,rfl,trivial⟩,hM⟩ ?_
  rintro s8 a w ⟨hE,hM⟩ o11 hs9 hx10
  unfold UN at hs9
  refine wp_seq (Zd (Zc hE Za ld rfl fun a hE=>Zm hE Za ld rfl rfl rfl fun a hE=>Zf ?_))
  refine Zv hE rfl ?_ ?_
  ·intro hb12
   have hs9:=ZB hs9 hb12
   refine wp_skip (ZG (wp_seq (wp_block (wp_region_lit (Zc hE Za ld rfl fun a hE=>Zc hE Za ld rfl ?_))))); intro a hE
   obtain ⟨x14,hi13,hs9⟩:=bvx hs9
   refine Zh hE Za ld rfl rfl Try.underlying57 Yr hi13.1 ?_; intro a hE
   obtain ⟨x17,hi16,hs9⟩:=bvx hs9
   refine Zh hE Za ld rfl rfl Try.underlying55 ty5 hi16.1 fun a hE=>Zi (seg:=[vB 1]) (cs':=enc (s8.1.setIfInBounds (s8.2).toNat (x14.setIfInBounds (s8.2).toNat 1))) hE hM Za rfl rfl rfl ty5 rfl (We (o':=0 + (s8.2).toNat * 1) hi13 (ZN (v:=x14) (x:=1) hi16.1) (by first | omega | (simp only [Flat.n] <;> omega))) (Flat.cell (1 : UInt8)) (YX (o':=0 + (s8.2).toNat * 1) hi13 (ZN (v:=x14) (x:=1) hi16.1) (ZD (v:=x14) (x:=1) hi16.1) (by first | omega | (simp only [Flat.n] <;> omega))) fun w a hM hE=>Zk (Yj (ZG (wp_region_lit (Zc hE Za ld rfl fun a hE=>Zm hE Za ld rfl rfl rfl fun a hE=>Ze hE Za ld rfl fun a hE=>Zk (Zn ?_)))))
   exact ⟨_,(ois hs9),hE.sub ⟨rfl,rfl,rfl,trivial⟩,hM⟩
  ·intro hb12
   have hs9:=ZA hs9 hb12
   refine wp_exit (Zs (Zs (Yz ?_)))
   have ht19:=hx10 _ (ois hs9)
   subst ht19
   refine Zn ?_
   exact ⟨hE.sub ⟨rfl,rfl,trivial⟩,hM⟩
 ·skip
  rintro a w ⟨hE,hM⟩
  refine ZG (Zd (Zj (cs:=enc j5) hE Za ld rfl Y7 rfl (hM.rawAt (pre:=[])) (Flat.len _) ?_)); intro a hE
  have hM:=hM.pull (pre:=[_])
  refine Zi (seg:=enc j5) (cs':=enc j5) hE hM Za rfl rfl rfl Y7 (Flat.len _) (zle flq) (Flat.cell _) (Zg flq) fun w a hM hE=>Zf ?_
  have hr:=Option.some.inj hF7
  subst hr
  have hq20 : ZY Try.prog _ _ (.cell 0 57) _:=ZM hE rfl Y7 rfl (hM.rawAt (pre:=[])) (Flat.len _) rfl
  have hM:=M.fst (l:=[]) hM
  exact wp_ret (ZK hE rfl hq20 ⟨_,rfl,rfl,hM.kept⟩)
def UZ (s13 : (Vector (Vector UInt8 4) 4) × (Vector (Vector UInt8 4) 4) × UInt8 × Int) (s21 : Int) : Option (Fl Int Int) :=
 (if (decide (s21 < 4)) = true then ((ZI s13.1 s21).bind fun x30=>(ZI x30 s13.2.2.2).bind fun x33=>some (x33 == 0)) else (some false) : Option (Bool)).bind fun j25=>if j25 = true then (some (Fl.nx (wr (s21 + 1)))) else (some (Fl.ex s21))
def W8 (p0 : Int) (s13 : (Vector (Vector UInt8 4) 4) × (Vector (Vector UInt8 4) 4) × UInt8 × Int) (r91 : UInt8) (s96 : (Vector (Vector UInt8 4) 4) × (Vector (Vector UInt8 4) 4) × Int) : Option (Fl ((Vector (Vector UInt8 4) 4) × (Vector (Vector UInt8 4) 4) × Int) ((Vector (Vector UInt8 4) 4) × (Vector (Vector UInt8 4) 4))) :=
 if (decide (s96.2.2 < 4)) = true then (((ZI s96.1 s13.2.2.2).bind fun x106=>(ZI x106 s96.2.2).bind fun x109=>(Yd p0 x109 r91).bind fun r111=>(ZI s96.1 s13.2.2.2).bind fun x114=>(ZI x114 s96.2.2).bind fun x117=>some (s96.1.setIfInBounds (s13.2.2.2).toNat (x114.setIfInBounds (s96.2.2).toNat r111)) : Option ((Vector (Vector UInt8 4) 4))).bind fun j101=>(ZI s96.2.1 s13.2.2.2).bind fun x122=>(ZI x122 s96.2.2).bind fun x125=>(Yd p0 x125 r91).bind fun r127=>(ZI s96.2.1 s13.2.2.2).bind fun x130=>(ZI x130 s96.2.2).bind fun x133=>some (Fl.nx (j101,(s96.2.1.setIfInBounds (s13.2.2.2).toNat (x130.setIfInBounds (s96.2.2).toNat r127)),wr (s96.2.2 + 1)))) else (some (Fl.ex (s96.1,s96.2.1)))
def Xl (p0 : Int) (s13 : (Vector (Vector UInt8 4) 4) × (Vector (Vector UInt8 4) 4) × UInt8 × Int) (s139 : (Vector (Vector UInt8 4) 4) × (Vector (Vector UInt8 4) 4) × Int) (x148 : UInt8) (s153 : (Vector (Vector UInt8 4) 4) × (Vector (Vector UInt8 4) 4) × Int) : Option (Fl ((Vector (Vector UInt8 4) 4) × (Vector (Vector UInt8 4) 4) × Int) ((Vector (Vector UInt8 4) 4) × (Vector (Vector UInt8 4) 4))) :=
 (if (decide (s153.2.2 < 4)) = true then (some (s139.2.2 != s13.2.2.2)) else (some false) : Option (Bool)).bind fun j157=>if j157 = true then (((ZI s153.1 s139.2.2).bind fun x169=>(ZI x169 s153.2.2).bind fun x172=>(ZI s153.1 s13.2.2.2).bind fun x175=>(ZI x175 s153.2.2).bind fun x178=>(Yd p0 x148 x178).bind fun r180=>(ZI s153.1 s139.2.2).bind fun x183=>(ZI x183 s153.2.2).bind fun x186=>some (s153.1.setIfInBounds (s139.2.2).toNat (x183.setIfInBounds (s153.2.2).toNat (x172 ^^^ r180))) : Option ((Vector (Vector UInt8 4) 4))).bind fun j164=>(ZI s153.2.1 s139.2.2).bind fun x191=>(ZI x191 s153.2.2).bind fun x194=>(ZI s153.2.1 s13.2.2.2).bind fun x197=>(ZI x197 s153.2.2).bind fun x200=>(Yd p0 x148 x200).bind fun r202=>(ZI s153.2.1 s139.2.2).bind fun x205=>(ZI x205 s153.2.2).bind fun x208=>some (Fl.nx (j164,(s153.2.1.setIfInBounds (s139.2.2).toNat (x205.setIfInBounds (s153.2.2).toNat (x194 ^^^ r202))),wr (s153.2.2 + 1)))) else (some (Fl.ex (s153.1,s153.2.1)))
def W6 (p0 : Int) (s13 : (Vector (Vector UInt8 4) 4) × (Vector (Vector UInt8 4) 4) × UInt8 × Int) (s139 : (Vector (Vector UInt8 4) 4) × (Vector (Vector UInt8 4) 4) × Int) : Option (Fl ((Vector (Vector UInt8 4) 4) × (Vector (Vector UInt8 4) 4) × Int) ((Vector (Vector UInt8 4) 4) × (Vector (Vector UInt8 4) 4))) :=
 if (decide (s139.2.2 < 4)) = true then ((ZI s139.1 s139.2.2).bind fun x145=>(ZI x145 s13.2.2.2).bind fun x148=>(ZQ (Xl p0 s13 s139 x148) (s139.1,s139.2.1,0)).bind fun j150=>some (Fl.nx (j150.1,j150.2,wr (s139.2.2 + 1)))) else (some (Fl.ex (s139.1,s139.2.1)))
def Xm (p0 : Int) (s13 : (Vector (Vector UInt8 4) 4) × (Vector (Vector UInt8 4) 4) × UInt8 × Int) : Option (Fl ((Vector (Vector UInt8 4) 4) × (Vector (Vector UInt8 4) 4) × UInt8 × Int) (Fl ((Vector (Vector UInt8 4) 4) × UInt8) (UInt8 × (Vector (Vector UInt8 4) 4)))) :=
 if (decide (s13.2.2.2 < 4)) = true then ((ZQ (UZ s13) s13.2.2.2).bind fun j18=>if (j18 == 4) = true then (some (Fl.ex (Fl.ex (0,(Vector.replicate 4 (Vector.replicate 4 (0 : UInt8))))))) else ((ZI s13.1 j18).bind fun x44=>(ZI s13.2.1 j18).bind fun x47=>(ZI s13.1 s13.2.2.2).bind fun x60=>(ZI s13.1 j18).bind fun x63=>(ZI (s13.1.setIfInBounds (j18).toNat x60) s13.2.2.2).bind fun x66=>(ZI s13.2.1 s13.2.2.2).bind fun x69=>(ZI s13.2.1 j18).bind fun x72=>(ZI (s13.2.1.setIfInBounds (j18).toNat x69) s13.2.2.2).bind fun x75=>(ZI ((s13.1.setIfInBounds (j18).toNat x60).setIfInBounds (s13.2.2.2).toNat x44) s13.2.2.2).bind fun x78=>(ZI x78 s13.2.2.2).bind fun x81=>(Yd p0 s13.2.2.1 x81).bind fun r83=>(ZI ((s13.1.setIfInBounds (j18).toNat x60).setIfInBounds (s13.2.2.2).toNat x44) s13.2.2.2).bind fun x86=>(ZI x86 s13.2.2.2).bind fun x89=>(Wv p0 x89).bind fun r91=>(ZQ (W8 p0 s13 r91) (((s13.1.setIfInBounds (j18).toNat x60).setIfInBounds (s13.2.2.2).toNat x44),((s13.2.1.setIfInBounds (j18).toNat x69).setIfInBounds (s13.2.2.2).toNat x47),0)).bind fun j93=>(ZQ (W6 p0 s13) (j93.1,j93.2,0)).bind fun j136=>some (Fl.nx (j136.1,j136.2,r83,wr (s13.2.2.2 + 1))))) else (some (Fl.ex (Fl.nx (s13.2.1,s13.2.2.1))))
def Vr (p0 : Int) (p1 : (Vector (Vector UInt8 4) 4)) : Option (UInt8 × (Vector (Vector UInt8 4) 4)) :=
 (Va).bind fun r5=>(ZQ (Xm p0) (p1,r5,1,0)).bind fun j9=>j9.el (fun s12=>(some (s12.1,s12.2) : Option ((Vector (Vector UInt8 4) 4) × UInt8)).bind fun j213=>some (j213.2,j213.1)) (fun r=>some r)
theorem JS (w0 : World) (p0 : Int) (p1 : (Vector (Vector UInt8 4) 4)) (r : UInt8 × (Vector (Vector UInt8 4) 4)) (hF : Vr p0 p1 = some r) :
  Calls Try.prog 189 [vI p0,(Value.agg (enc p1).toArray)].toArray w0 (fun en w'=>∃ v,en = .returned v ∧ (v = (Value.tuple [vB r.1,(Value.agg (enc r.2).toArray)].toArray) ∧ Kept (Old w0) w0 w')):=by
 refine ZJ (n:=159) Try.func189 rfl rfl (nbl rfl) rfl ?_
 intro a hE
 have hM:=M.start w0
 unfold Vr at hF
 refine Zd (Z3 (cs:=enc p1) hE hM Za ld rfl rfl fun b1 w a hM hE=>Ze hE Za ld rfl fun a hE=>Zu hE hM Za ld Y7 fun b3 w a hM hE=>Zf (Zd ?_))
 obtain ⟨r5,e6,hF⟩:=bind_some hF
 refine Zo hE Za ld rfl cb209 (Jy _  r5 e6) ?_
 rintro v w a ⟨rfl,hK⟩ hE
 have hM:=hM.keep hK
 refine Zu hE hM Za ld Y7 fun b7 w a hM hE=>Zi (seg:=enc r5) (cs':=enc r5) hE hM Za rfl rfl rfl Y7 (Flat.len _) (zle flq) (Flat.cell _) (Zg flq) fun w a hM hE=>Ze hE Za ld rfl fun a hE=>Zf (wp_seq (Zd (Ze hE Za ld rfl fun a hE=>Zf ?_)))
 obtain ⟨j9,hl10,hF11⟩:=bind_some hF
 refine Z0 (fun a w=>∃ s12 : (Vector (Vector UInt8 4) 4) × UInt8,j9 = Fl.nx s12 ∧ Env 159 a [(5,(ptr b3 0)),(6,(ptr b7 0)),(7,vB s12.2)] ∧ M (Old w0) w0 w [raw b7 (enc s12.1),raw b3 (enc (Vector.replicate 4 (Vector.replicate 4 (0 : UInt8))))]) ?_ ?_
 ·skip
  refine wp_block ?_
  refine ZV (fun (s13 : (Vector (Vector UInt8 4) 4) × (Vector (Vector UInt8 4) 4) × UInt8 × Int) a w=>Env 159 a [(0,vI p0),(3,(ptr b1 0)),(5,(ptr b3 0)),(6,(ptr b7 0)),(7,vB s13.2.2.1),(8,vI s13.2.2.2)] ∧ M (Old w0) w0 w [raw b7 (enc s13.2.1),raw b3 (enc (Vector.replicate 4 (Vector.replicate 4 (0 : UInt8)))),raw b1 (enc s13.1)]) hl10 ⟨hE.sub ⟨rfl,rfl,rfl,rfl,rfl,rfl,trivial⟩,hM⟩ ?_
  rintro s13 a w ⟨hE,hM⟩ o16 hs14 hx15
  unfold Xm at hs14
  refine wp_seq (Zd (Zc hE Za ld rfl fun a hE=>Zm hE Za ld rfl rfl rfl fun a hE=>Zf ?_))
  refine Zv hE rfl ?_ ?_
  ·intro hb17
   have hs14:=ZB hs14 hb17
   refine wp_skip (ZG (wp_seq (wp_block (Zd (Zc hE Za ld rfl fun a hE=>Ze hE Za ld rfl fun a hE=>Zf ?_)))))
   obtain ⟨j18,hl19,hF20⟩:=bind_some hs14
   refine ZT (fun a w=>Env 159 a [(0,vI p0),(3,(ptr b1 0)),(5,(ptr b3 0)),(6,(ptr b7 0)),(7,vB s13.2.2.1),(8,vI s13.2.2.2),(9,vI j18)] ∧ M (Old w0) w0 w [raw b7 (enc s13.2.1),raw b3 (enc (Vector.replicate 4 (Vector.replicate 4 (0 : UInt8)))),raw b1 (enc s13.1)]) ?_ ?_
   ·skip
    refine wp_block ?_
    refine ZV (fun (s21 : Int) a w=>Env 159 a [(0,vI p0),(3,(ptr b1 0)),(5,(ptr b3 0)),(6,(ptr b7 0)),(7,vB s13.2.2.1),(8,vI s13.2.2.2),(9,vI s21)] ∧ M (Old w0) w0 w [raw b7 (enc s13.2.1),raw b3 (enc (Vector.replicate 4 (Vector.replicate 4 (0 : UInt8)))),raw b1 (enc s13.1)]) hl19 ⟨hE.sub ⟨rfl,rfl,rfl,rfl,rfl,rfl,rfl,trivial⟩,hM⟩ ?_
    rintro s21 a w ⟨hE,hM⟩ o24 hs22 hx23
    unfold UZ at hs22
    refine wp_seq ?_
    obtain ⟨j25,hl26,hF27⟩:=bind_some hs22
    refine ZT (fun a w=>Env 159 a [(0,vI p0),(3,(ptr b1 0)),(5,(ptr b3 0)),(6,(ptr b7 0)),(7,vB s13.2.2.1),(8,vI s13.2.2.2),(9,vI s21),(32,vT j25)] ∧ M (Old w0) w0 w [raw b7 (enc s13.2.1),raw b3 (enc (Vector.replicate 4 (Vector.replicate 4 (0 : UInt8)))),raw b1 (enc s13.1)]) ?_ ?_
    ·skip
     refine wp_region_lit (Zc hE Za ld rfl fun a hE=>Zm hE Za ld rfl rfl rfl fun a hE=>Zc hE Za ld rfl ?_); intro a hE
     refine Xy (decide (s21 < 4)) (fun hb28=>?_) (fun hb28=>?_)
     ·have hl26:=ZB hl26 hb28
      refine Zc hE (Zt hE rfl (lkb rfl hb28)) (by decide) rfl fun a hE=>Zc hE (Zt hE rfl (lkb rfl hb28)) (by decide) rfl ?_; intro a hE
      obtain ⟨x30,hi29,hl26⟩:=bvx hl26
      refine Zh hE (Zt hE rfl (lkb rfl hb28)) (by decide) rfl rfl Try.underlying57 Yr hi29.1 ?_; intro a hE
      obtain ⟨x33,hi32,hl26⟩:=bvx hl26
      refine Zh hE (Zt hE rfl (lkb rfl hb28)) (by decide) rfl rfl Try.underlying55 ty5 hi32.1 fun a hE=>ZF (v:=(vB x33)) hE (Zt hE rfl (lkb rfl hb28)) (by decide) rfl ty5 rfl (At.vec (At.vec (hM.rawAt (pre:=[_,_])) hi29.2) hi32.2) fun a hE=>Zm hE (Zt hE rfl (lkb rfl hb28)) (by decide) rfl rfl (zF x33 0) fun a hE=>Yy hE Za ld (lkb rfl hb28) rfl fun a hE=>Zk ?_
      have ht35:=Option.some.inj hl26
      subst ht35
      refine Zn ?_
      exact ⟨hE.sub ⟨rfl,rfl,rfl,rfl,rfl,rfl,rfl,rfl,trivial⟩,hM⟩
     ·have hl26:=ZA hl26 hb28
      refine Zz hE rfl (lkb rfl hb28) rfl (by decide) fun a hE=>Zz hE rfl (lkb rfl hb28) rfl (by decide) fun a hE=>Zz hE rfl (lkb rfl hb28) rfl (by decide) fun a hE=>Zz hE rfl (lkb rfl hb28) rfl (by decide) fun a hE=>Zz hE rfl (lkb rfl hb28) rfl (by decide) fun a hE=>Zz hE rfl (lkb rfl hb28) rfl (by decide) fun a hE=>Yh hE Za ld (lkb rfl hb28) rfl fun a hE=>Zk ?_
      have ht36:=Option.some.inj hl26
      subst ht36
      refine Zn ?_
      exact ⟨hE.sub ⟨rfl,rfl,rfl,rfl,rfl,rfl,rfl,rfl,trivial⟩,hM⟩
    ·skip
     rintro a w ⟨hE,hM⟩
     refine Zv hE rfl ?_ ?_
     ·intro hb37
      have hF27:=ZB hF27 hb37
      refine wp_skip (ZG (wp_block (wp_region_lit (Zc hE Za ld rfl fun a hE=>Zm hE Za ld rfl rfl rfl fun a hE=>Ze hE Za ld rfl fun a hE=>Zk (Yj (Zn ?_))))))
      exact ⟨_,(ois hF27),hE.sub ⟨rfl,rfl,rfl,rfl,rfl,rfl,rfl,trivial⟩,hM⟩
     ·intro hb37
      have hF27:=ZA hF27 hb37
      refine wp_exit (Zs (Zs (Yz ?_)))
      have ht38:=hx23 _ (ois hF27)
      subst ht38
      refine Zn ?_
      exact ⟨hE.sub ⟨rfl,rfl,rfl,rfl,rfl,rfl,rfl,trivial⟩,hM⟩
   ·skip
    rintro a w ⟨hE,hM⟩
    refine wp_seq (Zd (Zc hE Za ld rfl fun a hE=>Zm hE Za ld rfl rfl rfl fun a hE=>Zf ?_))
    refine Zv hE rfl ?_ ?_
    ·intro hb39
     have hF20:=ZB hF20 hb39
     refine Zd (Z7 (parts:=[]) (vs:=[]) (cs:=enc (Vector.replicate 4 (Vector.replicate 4 (0 : UInt8)))) hE Za ld rfl rfl Y7 rfl Yr ZZ fun a hE=>Ze hE Za ld rfl ?_); intro a hE
     have hM:=hM.pull (pre:=[_])
     refine Zi (seg:=enc (Vector.replicate 4 (Vector.replicate 4 (0 : UInt8)))) (cs':=enc (Vector.replicate 4 (Vector.replicate 4 (0 : UInt8)))) hE hM Za rfl rfl rfl Y7 (Flat.len _) (zle flq) (Flat.cell _) (Zg flq) fun w a hM hE=>Zf ?_
     have ht40:=hx15 _ (ois hF20)
     subst ht40
     have hr:=Option.some.inj hF11
     subst hr
     have hq41 : ZY Try.prog _ _ (.cell 5 57) _:=ZM hE rfl Y7 rfl (hM.rawAt (pre:=[])) (Flat.len _) rfl
     have hM:=M.fst (l:=[]) hM
     exact wp_ret (ZP (Y4 (ZP (ZP (Y4 (ZP (ZP (VH hE rfl (Zx hE rfl) hq41 ⟨_,rfl,rfl,hM.kept⟩))))))))
    ·intro hb39
     have hF20:=ZA hF20 hb39
     refine wp_skip (ZG (wp_seq ?_))
     obtain ⟨x44,hi43,hF20⟩:=bvx hF20
     obtain ⟨x47,hi46,hF20⟩:=bvx hF20
     refine Vj (n:=159) (hd:=[_,_,_,_,_,_,_,_,_]) (tl:=[_]) YS rfl rfl [38,39,40,41,42,43,10,11,167] (by decide) (fun D u w=>M (Old w0) w0 w ([raw b7 (enc s13.2.1),raw b3 (enc (Vector.replicate 4 (Vector.replicate 4 (0 : UInt8)))),raw b1 (enc s13.1)] ++ qL ([mkC 6 8 (enc (Vector.replicate 4 (0 : UInt8))) (enc x44),mkO 7 (fun v=>Qk v (enc (Vector.replicate 4 (0 : UInt8))))] : Mk) D u) ∧ GOk ([([],fun us v=>v = (vI j18)),([],fun us v=>v = (ptr b1 (0 + (j18).toNat * 4))),([],fun us v=>v = (Value.agg (enc x44).toArray)),([],fun us v=>v = (vI j18)),([],fun us v=>v = (ptr b7 (0 + (j18).toNat * 4))),([],fun us v=>v = (Value.agg (enc x47).toArray)),([],fun us v=>True),([],fun us v=>True),([],fun us v=>True)] : Gs) D u) hE (fun u=>⟨M.qE (M.qE (M.q0 hM.drew u) emO) emC,KH⟩) (ZS (Zb ?_ (Zb ?_ (Zb ?_ (Zb ?_ (Zb ?_ (Zb ?_ (Zb ?_ (Zb ?_ (Zb ?_ ZL)))))))))) ?_
     ·intro a w ux42 D hE hI hD hdc hp
      have hM0:=hI.1
      exact Zc hE Za ld rfl fun a hE=>⟨_,_,rfl,hE,M.qKeep hM0 rfl,hI.2.put hD rfl ZR rfl⟩
     ·intro a w ux42 D hE hI hD hdc hp
      have d0 : D 0 = true:=hp 0 _ rfl rfl
      have g0:=hI.2 0 d0 _ rfl
      have f0 : ux42 0 = (vI j18):=g0.2
      have hM0:=hI.1
      exact Zh hE Za ld rfl (lk rfl f0) Try.underlying57 Yr hi43.1 fun a hE=>⟨_,_,rfl,hE,M.qKeep hM0 rfl,hI.2.put hD rfl ZR rfl⟩
     ·intro a w ux42 D hE hI hD hdc hp
      have d1 : D 1 = true:=hp 0 _ rfl rfl
      have g1:=hI.2 1 d1 _ rfl
      have f1 : ux42 1 = (ptr b1 (0 + (j18).toNat * 4)):=g1.2
      have hM0:=hI.1
      have hM:=hI.1
      exact Zj (cs:=enc x44) hE Za ld (lk rfl f1) Yr rfl (At.vec (hM.rawAt (pre:=[_,_])) hi43.2) (Flat.len _) fun a hE=>⟨_,_,rfl,hE,M.qKeep hM0 rfl,hI.2.put hD rfl ZR rfl⟩
     ·intro a w ux42 D hE hI hD hdc hp
      have hM0:=hI.1
      exact Zc hE Za ld rfl fun a hE=>⟨_,_,rfl,hE,M.qKeep hM0 rfl,hI.2.put hD rfl ZR rfl⟩
     ·intro a w ux42 D hE hI hD hdc hp
      have d3 : D 3 = true:=hp 0 _ rfl rfl
      have g3:=hI.2 3 d3 _ rfl
      have f3 : ux42 3 = (vI j18):=g3.2
      have hM0:=hI.1
      exact Zh hE Za ld rfl (lk rfl f3) Try.underlying57 Yr hi46.1 fun a hE=>⟨_,_,rfl,hE,M.qKeep hM0 rfl,hI.2.put hD rfl ZR rfl⟩
     ·intro a w ux42 D hE hI hD hdc hp
      have d4 : D 4 = true:=hp 0 _ rfl rfl
      have g4:=hI.2 4 d4 _ rfl
      have f4 : ux42 4 = (ptr b7 (0 + (j18).toNat * 4)):=g4.2
      have hM0:=hI.1
      have hM:=hI.1
      exact Zj (cs:=enc x47) hE Za ld (lk rfl f4) Yr rfl (At.vec (hM.rawAt (pre:=[])) hi46.2) (Flat.len _) fun a hE=>⟨_,_,rfl,hE,M.qKeep hM0 rfl,hI.2.put hD rfl ZR rfl⟩
     ·intro a w ux42 D hE hI hD hdc hp
      have hM0:=hI.1
      have hM:=hI.1
      refine Zu hE hM Za ld Yr ?_; intro b49 w a hM hE
      have hs : D 8 = false:=Bool.eq_false_iff.2 fun hx=>Bool.noConfusion (hD.symm.trans (hdc 8 _ _ rfl (List.mem_of_getElem? (i:=0) rfl) rfl hx))
      exact ⟨_,_,rfl,hE,M.qAlloc (mk1:=[]) (mk2:=[_]) hM rfl hD hs (by decide),hI.2.put hD rfl ZR trivial⟩
     ·intro a w ux42 D hE hI hD hdc hp
      have hM0:=hI.1
      have hM:=hI.1
      refine Zu hE hM Za ld Yr ?_; intro b51 w a hM hE
      have hM:=hM.pack1 (it:=Qk _ (enc (Vector.replicate 4 (0 : UInt8)))) (fun w w' fp ⟨b',e,k⟩ hb=>⟨b',e,U1 w w' fp k hb⟩) (fun fp k=>⟨_,rfl,k⟩)
      exact ⟨_,_,rfl,hE,M.qFill (mk1:=[_]) (mk2:=[]) (f:=fun v=>Qk v (enc (Vector.replicate 4 (0 : UInt8)))) hM rfl hD,hI.2.put hD rfl ZR trivial⟩
     ·intro a w ux42 D hE hI hD hdc hp
      have d6 : D 6 = true:=hp 0 _ rfl rfl
      have d2 : D 2 = true:=hp 1 _ rfl rfl
      have g2:=hI.2 2 d2 _ rfl
      have f2 : ux42 2 = (Value.agg (enc x44).toArray):=g2.2
      have hM0:=hI.1
      have hM : M (Old w0) w0 w [raw b7 (enc s13.2.1),raw b3 (enc (Vector.replicate 4 (Vector.replicate 4 (0 : UInt8)))),raw b1 (enc s13.1),T6 (D 6) (D 8) (ux42 6) (enc (Vector.replicate 4 (0 : UInt8))) (enc x44),opt (D 7) (Qk (ux42 7) (enc (Vector.replicate 4 (0 : UInt8))))]:=hI.1
      obtain ⟨b53,hb54,hM⟩:=M.openCell (pre:=[_,_,_]) hM d6
      rw [hD,if_neg (by decide)] at hM
      exact Zi (seg:=enc x44) (cs':=enc x44) hE hM Za (lk rfl hb54) (lk rfl f2) rfl Yr (Flat.len _) (zle flq) (Flat.cell _) (Zg flq) fun w a hM hE=>⟨undef,_,rfl,Env.dummy hE (by decide),M.qStore (i:=6) (mk1:=[]) (mk2:=[_]) hM rfl d6 hb54 (by decide),hI.2.put hD rfl ZR trivial⟩
     ·intro a w ux42 D hE hI hall
      have hM : M (Old w0) w0 w [raw b7 (enc s13.2.1),raw b3 (enc (Vector.replicate 4 (Vector.replicate 4 (0 : UInt8)))),raw b1 (enc s13.1),T6 (D 6) (D 8) (ux42 6) (enc (Vector.replicate 4 (0 : UInt8))) (enc x44),opt (D 7) (Qk (ux42 7) (enc (Vector.replicate 4 (0 : UInt8))))]:=hI.1
      have d0 : D 0 = true:=hall 0 (by decide)
      have d1 : D 1 = true:=hall 1 (by decide)
      have d2 : D 2 = true:=hall 2 (by decide)
      have d3 : D 3 = true:=hall 3 (by decide)
      have d4 : D 4 = true:=hall 4 (by decide)
      have d5 : D 5 = true:=hall 5 (by decide)
      have d6 : D 6 = true:=hall 6 (by decide)
      have d7 : D 7 = true:=hall 7 (by decide)
      have d8 : D 8 = true:=hall 8 (by decide)
      have f0 : ux42 0 = (vI j18):=(hI.2 0 d0 _ rfl).2
      have f1 : ux42 1 = (ptr b1 (0 + (j18).toNat * 4)):=(hI.2 1 d1 _ rfl).2
      have f2 : ux42 2 = (Value.agg (enc x44).toArray):=(hI.2 2 d2 _ rfl).2
      have f3 : ux42 3 = (vI j18):=(hI.2 3 d3 _ rfl).2
      have f4 : ux42 4 = (ptr b7 (0 + (j18).toNat * 4)):=(hI.2 4 d4 _ rfl).2
      have f5 : ux42 5 = (Value.agg (enc x47).toArray):=(hI.2 5 d5 _ rfl).2
      obtain ⟨b55,f56,hM⟩:=M.openCell (pre:=[_,_,_]) hM d6
      rw [if_pos d8] at hM
      have hM:=(hM.sure (pre:=[_,_,_,_]) d7).pull
      obtain ⟨_,⟨b57,f58,_⟩,_⟩:=hM.head
      have hM:=hM.pack1 U1 (it:=raw b57 (enc (Vector.replicate 4 (0 : UInt8)))) (fun fp ⟨b2,e2,k2⟩=>by rw [f58] at e2; simp [ptr] at e2; subst e2; exact k2)
      have hE:=hE.sub (e':=[(43,(Value.agg (enc x47).toArray)),(10,(ptr b55 0)),(11,(ptr b57 0)),(0,vI p0),(3,(ptr b1 0)),(5,(ptr b3 0)),(6,(ptr b7 0)),(7,vB s13.2.2.1),(8,vI s13.2.2.2),(9,vI j18),(35,vI j18),(36,(vT (j18 == 4)))]) ⟨lk rfl f5,lk rfl f56,lk rfl f58,rfl,rfl,rfl,rfl,rfl,rfl,rfl,rfl,rfl,trivial⟩
      refine Zi (seg:=enc x47) (cs':=enc x47) hE hM Za rfl rfl rfl Yr (Flat.len _) (zle flq) (Flat.cell _) (Zg flq) fun w a hM hE=>Zk (ZG (Zd (Zc hE Za ld rfl fun a hE=>Zc hE Za ld rfl ?_))); intro a hE
      obtain ⟨x60,hi59,hF20⟩:=bvx hF20
      refine Zh hE Za ld rfl rfl Try.underlying57 Yr hi59.1 fun a hE=>Zj (cs:=enc x60) hE Za ld rfl Yr rfl (At.vec (hM.rawAt (pre:=[_,_,_,_])) hi59.2) (Flat.len _) ?_; intro a hE
      obtain ⟨x63,hi62,hF20⟩:=bvx hF20
      refine Zh hE Za ld rfl rfl Try.underlying57 Yr hi62.1 ?_; intro a hE
      have hM:=hM.pull (pre:=[_,_,_,_])
      refine Zi (seg:=enc x60) (cs':=enc (s13.1.setIfInBounds (j18).toNat x60)) hE hM Za rfl rfl rfl Yr (Flat.len _) (ZN (v:=s13.1) (x:=x60) hi62.1) (Flat.cell _) (ZD (v:=s13.1) (x:=x60) hi62.1) fun w a hM hE=>Zf (Zd (Zc hE Za ld rfl fun a hE=>Zj (cs:=enc x44) hE Za ld rfl Yr rfl (hM.rawAt (pre:=[_,_])) (Flat.len _) ?_)); intro a hE
      obtain ⟨x66,hi65,hF20⟩:=bvx hF20
      refine Zh hE Za ld rfl rfl Try.underlying57 Yr hi65.1 fun a hE=>Zi (seg:=enc x44) (cs':=enc ((s13.1.setIfInBounds (j18).toNat x60).setIfInBounds (s13.2.2.2).toNat x44)) hE hM Za rfl rfl rfl Yr (Flat.len _) (ZN (v:=(s13.1.setIfInBounds (j18).toNat x60)) (x:=x44) hi65.1) (Flat.cell _) (ZD (v:=(s13.1.setIfInBounds (j18).toNat x60)) (x:=x44) hi65.1) fun w a hM hE=>Zf (Zd (Zc hE Za ld rfl fun a hE=>Zc hE Za ld rfl ?_)); intro a hE
      obtain ⟨x69,hi68,hF20⟩:=bvx hF20
      refine Zh hE Za ld rfl rfl Try.underlying57 Yr hi68.1 fun a hE=>Zj (cs:=enc x69) hE Za ld rfl Yr rfl (At.vec (hM.rawAt (pre:=[_,_,_])) hi68.2) (Flat.len _) ?_; intro a hE
      obtain ⟨x72,hi71,hF20⟩:=bvx hF20
      refine Zh hE Za ld rfl rfl Try.underlying57 Yr hi71.1 ?_; intro a hE
      have hM:=hM.pull (pre:=[_,_,_])
      refine Zi (seg:=enc x69) (cs':=enc (s13.2.1.setIfInBounds (j18).toNat x69)) hE hM Za rfl rfl rfl Yr (Flat.len _) (ZN (v:=s13.2.1) (x:=x69) hi71.1) (Flat.cell _) (ZD (v:=s13.2.1) (x:=x69) hi71.1) fun w a hM hE=>Zf (Zd (Zc hE Za ld rfl fun a hE=>Zj (cs:=enc x47) hE Za ld rfl Yr rfl (hM.rawAt (pre:=[_,_])) (Flat.len _) ?_)); intro a hE
      obtain ⟨x75,hi74,hF20⟩:=bvx hF20
      refine Zh hE Za ld rfl rfl Try.underlying57 Yr hi74.1 fun a hE=>Zi (seg:=enc x47) (cs':=enc ((s13.2.1.setIfInBounds (j18).toNat x69).setIfInBounds (s13.2.2.2).toNat x47)) hE hM Za rfl rfl rfl Yr (Flat.len _) (ZN (v:=(s13.2.1.setIfInBounds (j18).toNat x69)) (x:=x47) hi74.1) (Flat.cell _) (ZD (v:=(s13.2.1.setIfInBounds (j18).toNat x69)) (x:=x47) hi74.1) fun w a hM hE=>Zf (Zd (Zc hE Za ld rfl fun a hE=>Zc hE Za ld rfl fun a hE=>Zc hE Za ld rfl fun a hE=>Zc hE Za ld rfl ?_)); intro a hE
      obtain ⟨x78,hi77,hF20⟩:=bvx hF20
      refine Zh hE Za ld rfl rfl Try.underlying57 Yr hi77.1 ?_; intro a hE
      obtain ⟨x81,hi80,hF20⟩:=bvx hF20
      refine Zh hE Za ld rfl rfl Try.underlying55 ty5 hi80.1 fun a hE=>ZF (v:=(vB x81)) hE Za ld rfl ty5 rfl (At.vec (At.vec (hM.rawAt (pre:=[_])) hi77.2) hi80.2) ?_; intro a hE
      obtain ⟨r83,e84,hF20⟩:=bind_some hF20
      refine Zo hE Za ld rfl KP (YO _ p0 s13.2.2.1 x81 r83 e84) ?_
      rintro v w a ⟨rfl,hK⟩ hE
      have hM:=hM.keep hK
      refine Ze hE Za ld rfl fun a hE=>Zf (Zd (Zc hE Za ld rfl fun a hE=>Zc hE Za ld rfl fun a hE=>Zc hE Za ld rfl ?_)); intro a hE
      obtain ⟨x86,hi85,hF20⟩:=bvx hF20
      refine Zh hE Za ld rfl rfl Try.underlying57 Yr hi85.1 ?_; intro a hE
      obtain ⟨x89,hi88,hF20⟩:=bvx hF20
      refine Zh hE Za ld rfl rfl Try.underlying55 ty5 hi88.1 fun a hE=>ZF (v:=(vB x89)) hE Za ld rfl ty5 rfl (At.vec (At.vec (hM.rawAt (pre:=[_])) hi85.2) hi88.2) ?_; intro a hE
      obtain ⟨r91,e92,hF20⟩:=bind_some hF20
      refine Zo hE Za ld rfl cb181 (KM _ p0 x89 r91 e92) ?_
      rintro v w a ⟨rfl,hK⟩ hE
      have hM:=hM.keep hK
      refine Ze hE Za ld rfl fun a hE=>Zf (wp_seq (Zd (Ze hE Za ld rfl fun a hE=>Zf ?_)))
      obtain ⟨j93,hl94,hF95⟩:=bind_some hF20
      refine Z0 (fun a w=>Env 159 a [(0,vI p0),(3,(ptr b1 0)),(5,(ptr b3 0)),(6,(ptr b7 0)),(7,vB r83),(8,vI s13.2.2.2)] ∧ M (Old w0) w0 w [raw b7 (enc j93.2),raw b1 (enc j93.1),raw b3 (enc (Vector.replicate 4 (Vector.replicate 4 (0 : UInt8))))]) ?_ ?_
      ·skip
       refine wp_block ?_
       have hM:=M.fst (l:=[_,_,_]) (((hM.pull (pre:=[_,_,_,_])).pull (pre:=[_,_])).pull (pre:=[_,_]))
       refine ZV (fun (s96 : (Vector (Vector UInt8 4) 4) × (Vector (Vector UInt8 4) 4) × Int) a w=>Env 159 a [(0,vI p0),(3,(ptr b1 0)),(5,(ptr b3 0)),(6,(ptr b7 0)),(7,vB r83),(8,vI s13.2.2.2),(12,vB r91),(13,vI s96.2.2)] ∧ M (Old w0) w0 w [raw b7 (enc s96.2.1),raw b1 (enc s96.1),raw b3 (enc (Vector.replicate 4 (Vector.replicate 4 (0 : UInt8))))]) hl94 ⟨hE.sub ⟨rfl,rfl,rfl,rfl,rfl,rfl,rfl,rfl,trivial⟩,hM⟩ ?_
       rintro s96 a w ⟨hE,hM⟩ o99 hs97 hx98
       unfold W8 at hs97
       refine wp_seq (Zd (Zc hE Za ld rfl fun a hE=>Zm hE Za ld rfl rfl rfl fun a hE=>Zf ?_))
       refine Zv hE rfl ?_ ?_
       ·intro hb100
        have hs97:=ZB hs97 hb100
        refine wp_skip (ZG (wp_seq (wp_block ?_)))
        obtain ⟨j101,hl102,hF103⟩:=bind_some hs97
        refine ZT (fun a w=>Env 159 a [(0,vI p0),(3,(ptr b1 0)),(5,(ptr b3 0)),(6,(ptr b7 0)),(7,vB r83),(8,vI s13.2.2.2),(12,vB r91),(13,vI s96.2.2)] ∧ M (Old w0) w0 w [raw b7 (enc s96.2.1),raw b1 (enc j101),raw b3 (enc (Vector.replicate 4 (Vector.replicate 4 (0 : UInt8))))]) ?_ ?_
        ·skip
         obtain ⟨x106,hi105,hl102⟩:=bvx hl102
         obtain ⟨x109,hi108,hl102⟩:=bvx hl102
         obtain ⟨r111,e112,hl102⟩:=bind_some hl102
         obtain ⟨x114,hi113,hl102⟩:=bvx hl102
         obtain ⟨x117,hi116,hl102⟩:=bvx hl102
         refine Yw (n:=159) (hd:=[_,_,_,_,_,_,_,_,_,_,_,_]) (tl:=[_]) YS rfl rfl [79,80,81,82,83,84,85,86,87,88,89,90] (by decide) (fun w=>M (Old w0) w0 w [raw b7 (enc s96.2.1),raw b1 (enc s96.1),raw b3 (enc (Vector.replicate 4 (Vector.replicate 4 (0 : UInt8))))]) (fun j=>([fun v _=>v = (vI s13.2.2.2),fun v _=>v = (vI s96.2.2),fun v _=>v = (vI p0),fun v _=>v = (vI s13.2.2.2),fun v _=>v = (vI s96.2.2),fun v _=>v = (ptr b1 (0 + (s13.2.2.2).toNat * 4)),fun v _=>v = (ptr b1 (0 + (s13.2.2.2).toNat * 4 + (s96.2.2).toNat * 1)),fun v _=>v = (vB x109),fun v _=>v = (vB r91),fun v _=>v = (vB r111),fun v _=>v = (ptr b1 (0 + (s13.2.2.2).toNat * 4)),fun v _=>v = (ptr b1 (0 + (s13.2.2.2).toNat * 4 + (s96.2.2).toNat * 1))] : List (Value → World → Prop)).getD j (fun _ _=>True)) (fun _ _ h hk=>h.keep hk) (gup (Zp (Zp (Zp (Zp (Zp (Zp (Zp (Zp (Zp (Zp (Zp (Zp Vq))))))))))))) hE hM.drew (ZS (Zb ?_ (Zb ?_ (Zb ?_ (Zb ?_ (Zb ?_ (Zb ?_ (Zb ?_ (Zb ?_ (Zb ?_ (Zb ?_ (Zb ?_ (Zb ?_ ZL))))))))))))) ?_
         ·exact fun a w ux104 hE hM hp=>Zc hE Za ld rfl fun a hE=>⟨Kept.refl _ _,_,_,rfl,hE,rfl⟩
         ·exact fun a w ux104 hE hM hp=>Zc hE Za ld rfl fun a hE=>⟨Kept.refl _ _,_,_,rfl,hE,rfl⟩
         ·exact fun a w ux104 hE hM hp=>Zc hE Za ld rfl fun a hE=>⟨Kept.refl _ _,_,_,rfl,hE,rfl⟩
         ·exact fun a w ux104 hE hM hp=>Zc hE Za ld rfl fun a hE=>⟨Kept.refl _ _,_,_,rfl,hE,rfl⟩
         ·exact fun a w ux104 hE hM hp=>Zc hE Za ld rfl fun a hE=>⟨Kept.refl _ _,_,_,rfl,hE,rfl⟩
         ·intro a w ux104 hE hM hp
          have f3 : ux104 3 = (vI s13.2.2.2):=hp 0 _ rfl rfl
          exact Zh hE Za ld rfl (lk rfl f3) Try.underlying57 Yr hi105.1 fun a hE=>⟨Kept.refl _ _,_,_,rfl,hE,rfl⟩
         ·intro a w ux104 hE hM hp
          have f4 : ux104 4 = (vI s96.2.2):=hp 1 _ rfl rfl
          have f5 : ux104 5 = (ptr b1 (0 + (s13.2.2.2).toNat * 4)):=hp 0 _ rfl rfl
          exact Zh hE Za ld (lk rfl f5) (lk rfl f4) Try.underlying55 ty5 hi108.1 fun a hE=>⟨Kept.refl _ _,_,_,rfl,hE,rfl⟩
         ·intro a w ux104 hE hM hp
          have f6 : ux104 6 = (ptr b1 (0 + (s13.2.2.2).toNat * 4 + (s96.2.2).toNat * 1)):=hp 0 _ rfl rfl
          exact ZF (v:=(vB x109)) hE Za ld (lk rfl f6) ty5 rfl (At.vec (At.vec (hM.rawAt (pre:=[_])) hi105.2) hi108.2) fun a hE=>⟨Kept.refl _ _,_,_,rfl,hE,rfl⟩
         ·exact fun a w ux104 hE hM hp=>Zc hE Za ld rfl fun a hE=>⟨Kept.refl _ _,_,_,rfl,hE,rfl⟩
         ·intro a w ux104 hE hM hp
          have f2 : ux104 2 = (vI p0):=hp 0 _ rfl rfl
          have f7 : ux104 7 = (vB x109):=hp 1 _ rfl rfl
          have f8 : ux104 8 = (vB r91):=hp 2 _ rfl rfl
          refine Zo hE Za ld (Z1 (ZX (lk rfl f2) (ZX (lk rfl f7) (ZX (lk rfl f8) Xg)))) KP (YO _ p0 x109 r91 r111 e112) ?_
          rintro v w a ⟨rfl,hK⟩ hE
          exact ⟨hK,_,_,rfl,hE,rfl⟩
         ·intro a w ux104 hE hM hp
          have f0 : ux104 0 = (vI s13.2.2.2):=hp 0 _ rfl rfl
          exact Zh hE Za ld rfl (lk rfl f0) Try.underlying57 Yr hi113.1 fun a hE=>⟨Kept.refl _ _,_,_,rfl,hE,rfl⟩
         ·intro a w ux104 hE hM hp
          have f1 : ux104 1 = (vI s96.2.2):=hp 1 _ rfl rfl
          have f10 : ux104 10 = (ptr b1 (0 + (s13.2.2.2).toNat * 4)):=hp 0 _ rfl rfl
          exact Zh hE Za ld (lk rfl f10) (lk rfl f1) Try.underlying55 ty5 hi116.1 fun a hE=>⟨Kept.refl _ _,_,_,rfl,hE,rfl⟩
         ·intro a w ux104 hE hM hg
          have hE:=hE.sub (e':=[(88,vB r111),(90,(ptr b1 (0 + (s13.2.2.2).toNat * 4 + (s96.2.2).toNat * 1))),(0,vI p0),(3,(ptr b1 0)),(5,(ptr b3 0)),(6,(ptr b7 0)),(7,vB r83),(8,vI s13.2.2.2),(12,vB r91),(13,vI s96.2.2),(75,vI s96.2.2),(76,(vT (decide (s96.2.2 < 4))))]) ⟨lk rfl (hg 9 (by decide)),lk rfl (hg 11 (by decide)),rfl,rfl,rfl,rfl,rfl,rfl,rfl,rfl,rfl,rfl,trivial⟩
          have hM:=hM.pull (pre:=[_])
          refine Zi (seg:=[vB r111]) (cs':=enc (s96.1.setIfInBounds (s13.2.2.2).toNat (x114.setIfInBounds (s96.2.2).toNat r111))) hE hM Za rfl rfl rfl ty5 rfl (We (o':=0 + (s96.2.2).toNat * 1) hi113 (ZN (v:=x114) (x:=r111) hi116.1) (by first | omega | (simp only [Flat.n] <;> omega))) (Flat.cell (r111 : UInt8)) (YX (o':=0 + (s96.2.2).toNat * 1) hi113 (ZN (v:=x114) (x:=r111) hi116.1) (ZD (v:=x114) (x:=r111) hi116.1) (by first | omega | (simp only [Flat.n] <;> omega))) fun w a hM hE=>Zk ?_
          have ht119:=Option.some.inj hl102
          subst ht119
          refine Zn ?_
          have hM:=((hM.pull (pre:=[_,_])).pull (pre:=[_])).pull (pre:=[_,_])
          exact ⟨hE.sub ⟨rfl,rfl,rfl,rfl,rfl,rfl,rfl,rfl,trivial⟩,hM⟩
        ·skip
         rintro a w ⟨hE,hM⟩
         obtain ⟨x122,hi121,hF103⟩:=bvx hF103
         obtain ⟨x125,hi124,hF103⟩:=bvx hF103
         obtain ⟨r127,e128,hF103⟩:=bind_some hF103
         obtain ⟨x130,hi129,hF103⟩:=bvx hF103
         obtain ⟨x133,hi132,hF103⟩:=bvx hF103
         refine Yw (n:=159) (hd:=[_,_,_,_,_,_,_,_,_,_,_,_]) (tl:=[_]) YS rfl rfl [91,92,93,94,95,96,97,98,99,100,101,102] (by decide) (fun w=>M (Old w0) w0 w [raw b7 (enc s96.2.1),raw b1 (enc j101),raw b3 (enc (Vector.replicate 4 (Vector.replicate 4 (0 : UInt8))))]) (fun j=>([fun v _=>v = (vI s13.2.2.2),fun v _=>v = (vI s96.2.2),fun v _=>v = (vI p0),fun v _=>v = (vI s13.2.2.2),fun v _=>v = (vI s96.2.2),fun v _=>v = (ptr b7 (0 + (s13.2.2.2).toNat * 4)),fun v _=>v = (ptr b7 (0 + (s13.2.2.2).toNat * 4 + (s96.2.2).toNat * 1)),fun v _=>v = (vB x125),fun v _=>v = (vB r91),fun v _=>v = (vB r127),fun v _=>v = (ptr b7 (0 + (s13.2.2.2).toNat * 4)),fun v _=>v = (ptr b7 (0 + (s13.2.2.2).toNat * 4 + (s96.2.2).toNat * 1))] : List (Value → World → Prop)).getD j (fun _ _=>True)) (fun _ _ h hk=>h.keep hk) (gup (Zp (Zp (Zp (Zp (Zp (Zp (Zp (Zp (Zp (Zp (Zp (Zp Vq))))))))))))) hE hM.drew (ZS (Zb ?_ (Zb ?_ (Zb ?_ (Zb ?_ (Zb ?_ (Zb ?_ (Zb ?_ (Zb ?_ (Zb ?_ (Zb ?_ (Zb ?_ (Zb ?_ ZL))))))))))))) ?_
         ·exact fun a w ux120 hE hM hp=>Zc hE Za ld rfl fun a hE=>⟨Kept.refl _ _,_,_,rfl,hE,rfl⟩
         ·exact fun a w ux120 hE hM hp=>Zc hE Za ld rfl fun a hE=>⟨Kept.refl _ _,_,_,rfl,hE,rfl⟩
         ·exact fun a w ux120 hE hM hp=>Zc hE Za ld rfl fun a hE=>⟨Kept.refl _ _,_,_,rfl,hE,rfl⟩
         ·exact fun a w ux120 hE hM hp=>Zc hE Za ld rfl fun a hE=>⟨Kept.refl _ _,_,_,rfl,hE,rfl⟩
         ·exact fun a w ux120 hE hM hp=>Zc hE Za ld rfl fun a hE=>⟨Kept.refl _ _,_,_,rfl,hE,rfl⟩
         ·intro a w ux120 hE hM hp
          have f3 : ux120 3 = (vI s13.2.2.2):=hp 0 _ rfl rfl
          exact Zh hE Za ld rfl (lk rfl f3) Try.underlying57 Yr hi121.1 fun a hE=>⟨Kept.refl _ _,_,_,rfl,hE,rfl⟩
         ·intro a w ux120 hE hM hp
          have f4 : ux120 4 = (vI s96.2.2):=hp 1 _ rfl rfl
          have f5 : ux120 5 = (ptr b7 (0 + (s13.2.2.2).toNat * 4)):=hp 0 _ rfl rfl
          exact Zh hE Za ld (lk rfl f5) (lk rfl f4) Try.underlying55 ty5 hi124.1 fun a hE=>⟨Kept.refl _ _,_,_,rfl,hE,rfl⟩
         ·intro a w ux120 hE hM hp
          have f6 : ux120 6 = (ptr b7 (0 + (s13.2.2.2).toNat * 4 + (s96.2.2).toNat * 1)):=hp 0 _ rfl rfl
          exact ZF (v:=(vB x125)) hE Za ld (lk rfl f6) ty5 rfl (At.vec (At.vec (hM.rawAt (pre:=[])) hi121.2) hi124.2) fun a hE=>⟨Kept.refl _ _,_,_,rfl,hE,rfl⟩
         ·exact fun a w ux120 hE hM hp=>Zc hE Za ld rfl fun a hE=>⟨Kept.refl _ _,_,_,rfl,hE,rfl⟩
         ·intro a w ux120 hE hM hp
          have f2 : ux120 2 = (vI p0):=hp 0 _ rfl rfl
          have f7 : ux120 7 = (vB x125):=hp 1 _ rfl rfl
          have f8 : ux120 8 = (vB r91):=hp 2 _ rfl rfl
          refine Zo hE Za ld (Z1 (ZX (lk rfl f2) (ZX (lk rfl f7) (ZX (lk rfl f8) Xg)))) KP (YO _ p0 x125 r91 r127 e128) ?_
          rintro v w a ⟨rfl,hK⟩ hE
          exact ⟨hK,_,_,rfl,hE,rfl⟩
         ·intro a w ux120 hE hM hp
          have f0 : ux120 0 = (vI s13.2.2.2):=hp 0 _ rfl rfl
          exact Zh hE Za ld rfl (lk rfl f0) Try.underlying57 Yr hi129.1 fun a hE=>⟨Kept.refl _ _,_,_,rfl,hE,rfl⟩
         ·intro a w ux120 hE hM hp
          have f1 : ux120 1 = (vI s96.2.2):=hp 1 _ rfl rfl
          have f10 : ux120 10 = (ptr b7 (0 + (s13.2.2.2).toNat * 4)):=hp 0 _ rfl rfl
          exact Zh hE Za ld (lk rfl f10) (lk rfl f1) Try.underlying55 ty5 hi132.1 fun a hE=>⟨Kept.refl _ _,_,_,rfl,hE,rfl⟩
         ·intro a w ux120 hE hM hg
          have hE:=hE.sub (e':=[(100,vB r127),(102,(ptr b7 (0 + (s13.2.2.2).toNat * 4 + (s96.2.2).toNat * 1))),(0,vI p0),(3,(ptr b1 0)),(5,(ptr b3 0)),(6,(ptr b7 0)),(7,vB r83),(8,vI s13.2.2.2),(12,vB r91),(13,vI s96.2.2)]) ⟨lk rfl (hg 9 (by decide)),lk rfl (hg 11 (by decide)),rfl,rfl,rfl,rfl,rfl,rfl,rfl,rfl,trivial⟩
          refine Zi (seg:=[vB r127]) (cs':=enc (s96.2.1.setIfInBounds (s13.2.2.2).toNat (x130.setIfInBounds (s96.2.2).toNat r127))) hE hM Za rfl rfl rfl ty5 rfl (We (o':=0 + (s96.2.2).toNat * 1) hi129 (ZN (v:=x130) (x:=r127) hi132.1) (by first | omega | (simp only [Flat.n] <;> omega))) (Flat.cell (r127 : UInt8)) (YX (o':=0 + (s96.2.2).toNat * 1) hi129 (ZN (v:=x130) (x:=r127) hi132.1) (ZD (v:=x130) (x:=r127) hi132.1) (by first | omega | (simp only [Flat.n] <;> omega))) fun w a hM hE=>Zk (Yj (ZG (wp_region_lit (Zc hE Za ld rfl fun a hE=>Zm hE Za ld rfl rfl rfl fun a hE=>Ze hE Za ld rfl fun a hE=>Zk (Zn ?_)))))
          exact ⟨_,(ois hF103),hE.sub ⟨rfl,rfl,rfl,rfl,rfl,rfl,rfl,rfl,trivial⟩,hM⟩
       ·intro hb100
        have hs97:=ZA hs97 hb100
        refine wp_exit (Zs (Zs (Yz ?_)))
        have ht135:=hx98 _ (ois hs97)
        subst ht135
        refine Zn ?_
        exact ⟨hE.sub ⟨rfl,rfl,rfl,rfl,rfl,rfl,trivial⟩,hM⟩
      ·skip
       rintro a w ⟨hE,hM⟩
       refine ZG (Zd (Ze hE Za ld rfl fun a hE=>Zf ?_))
       obtain ⟨j136,hl137,hF138⟩:=bind_some hF95
       refine Z0 (fun a w=>Env 159 a [(0,vI p0),(3,(ptr b1 0)),(5,(ptr b3 0)),(6,(ptr b7 0)),(7,vB r83),(8,vI s13.2.2.2)] ∧ M (Old w0) w0 w [raw b7 (enc j136.2),raw b1 (enc j136.1),raw b3 (enc (Vector.replicate 4 (Vector.replicate 4 (0 : UInt8))))]) ?_ ?_
       ·skip
        refine wp_block ?_
        refine ZV (fun (s139 : (Vector (Vector UInt8 4) 4) × (Vector (Vector UInt8 4) 4) × Int) a w=>Env 159 a [(0,vI p0),(3,(ptr b1 0)),(5,(ptr b3 0)),(6,(ptr b7 0)),(7,vB r83),(8,vI s13.2.2.2),(14,vI s139.2.2)] ∧ M (Old w0) w0 w [raw b7 (enc s139.2.1),raw b1 (enc s139.1),raw b3 (enc (Vector.replicate 4 (Vector.replicate 4 (0 : UInt8))))]) hl137 ⟨hE.sub ⟨rfl,rfl,rfl,rfl,rfl,rfl,rfl,trivial⟩,hM⟩ ?_
        rintro s139 a w ⟨hE,hM⟩ o142 hs140 hx141
        unfold W6 at hs140
        refine wp_seq (Zd (Zc hE Za ld rfl fun a hE=>Zm hE Za ld rfl rfl rfl fun a hE=>Zf ?_))
        refine Zv hE rfl ?_ ?_
        ·intro hb143
         have hs140:=ZB hs140 hb143
         refine wp_skip (ZG (wp_seq (wp_block (Zd (Zc hE Za ld rfl fun a hE=>Zc hE Za ld rfl ?_))))); intro a hE
         obtain ⟨x145,hi144,hs140⟩:=bvx hs140
         refine Zh hE Za ld rfl rfl Try.underlying57 Yr hi144.1 ?_; intro a hE
         obtain ⟨x148,hi147,hs140⟩:=bvx hs140
         refine Zh hE Za ld rfl rfl Try.underlying55 ty5 hi147.1 fun a hE=>ZF (v:=(vB x148)) hE Za ld rfl ty5 rfl (At.vec (At.vec (hM.rawAt (pre:=[_])) hi144.2) hi147.2) fun a hE=>Ze hE Za ld rfl fun a hE=>Zf (Zd (Ze hE Za ld rfl fun a hE=>Zf ?_))
         obtain ⟨j150,hl151,hF152⟩:=bind_some hs140
         refine Z0 (fun a w=>Env 159 a [(0,vI p0),(3,(ptr b1 0)),(5,(ptr b3 0)),(6,(ptr b7 0)),(7,vB r83),(8,vI s13.2.2.2),(14,vI s139.2.2)] ∧ M (Old w0) w0 w [raw b7 (enc j150.2),raw b1 (enc j150.1),raw b3 (enc (Vector.replicate 4 (Vector.replicate 4 (0 : UInt8))))]) ?_ ?_
         ·skip
          refine wp_block ?_
          refine ZV (fun (s153 : (Vector (Vector UInt8 4) 4) × (Vector (Vector UInt8 4) 4) × Int) a w=>Env 159 a [(0,vI p0),(3,(ptr b1 0)),(5,(ptr b3 0)),(6,(ptr b7 0)),(7,vB r83),(8,vI s13.2.2.2),(14,vI s139.2.2),(15,vB x148),(16,vI s153.2.2)] ∧ M (Old w0) w0 w [raw b7 (enc s153.2.1),raw b1 (enc s153.1),raw b3 (enc (Vector.replicate 4 (Vector.replicate 4 (0 : UInt8))))]) hl151 ⟨hE.sub ⟨rfl,rfl,rfl,rfl,rfl,rfl,rfl,rfl,rfl,trivial⟩,hM⟩ ?_
          rintro s153 a w ⟨hE,hM⟩ o156 hs154 hx155
          unfold Xl at hs154
          refine wp_seq ?_
          obtain ⟨j157,hl158,hF159⟩:=bind_some hs154
          refine ZT (fun a w=>Env 159 a [(0,vI p0),(3,(ptr b1 0)),(5,(ptr b3 0)),(6,(ptr b7 0)),(7,vB r83),(8,vI s13.2.2.2),(14,vI s139.2.2),(15,vB x148),(16,vI s153.2.2),(118,vT j157)] ∧ M (Old w0) w0 w [raw b7 (enc s153.2.1),raw b1 (enc s153.1),raw b3 (enc (Vector.replicate 4 (Vector.replicate 4 (0 : UInt8))))]) ?_ ?_
          ·skip
           refine wp_region_lit (Zc hE Za ld rfl fun a hE=>Zm hE Za ld rfl rfl rfl fun a hE=>Zc hE Za ld rfl ?_); intro a hE
           refine Xy (decide (s153.2.2 < 4)) (fun hb160=>?_) (fun hb160=>?_)
           ·have hl158:=ZB hl158 hb160
            refine Zc hE (Zt hE rfl (lkb rfl hb160)) (by decide) rfl fun a hE=>Zc hE (Zt hE rfl (lkb rfl hb160)) (by decide) rfl fun a hE=>Zm hE (Zt hE rfl (lkb rfl hb160)) (by decide) rfl rfl rfl fun a hE=>Yy hE Za ld (lkb rfl hb160) rfl fun a hE=>Zk ?_
            have ht161:=Option.some.inj hl158
            subst ht161
            refine Zn ?_
            exact ⟨hE.sub ⟨rfl,rfl,rfl,rfl,rfl,rfl,rfl,rfl,rfl,rfl,trivial⟩,hM⟩
           ·have hl158:=ZA hl158 hb160
            refine Zz hE rfl (lkb rfl hb160) rfl (by decide) fun a hE=>Zz hE rfl (lkb rfl hb160) rfl (by decide) fun a hE=>Zz hE rfl (lkb rfl hb160) rfl (by decide) fun a hE=>Yh hE Za ld (lkb rfl hb160) rfl fun a hE=>Zk ?_
            have ht162:=Option.some.inj hl158
            subst ht162
            refine Zn ?_
            exact ⟨hE.sub ⟨rfl,rfl,rfl,rfl,rfl,rfl,rfl,rfl,rfl,rfl,trivial⟩,hM⟩
          ·skip
           rintro a w ⟨hE,hM⟩
           refine Zv hE rfl ?_ ?_
           ·intro hb163
            have hF159:=ZB hF159 hb163
            refine wp_skip (ZG (wp_seq (wp_block ?_)))
            obtain ⟨j164,hl165,hF166⟩:=bind_some hF159
            refine ZT (fun a w=>Env 159 a [(0,vI p0),(3,(ptr b1 0)),(5,(ptr b3 0)),(6,(ptr b7 0)),(7,vB r83),(8,vI s13.2.2.2),(14,vI s139.2.2),(15,vB x148),(16,vI s153.2.2)] ∧ M (Old w0) w0 w [raw b7 (enc s153.2.1),raw b1 (enc j164),raw b3 (enc (Vector.replicate 4 (Vector.replicate 4 (0 : UInt8))))]) ?_ ?_
            ·skip
             obtain ⟨x169,hi168,hl165⟩:=bvx hl165
             obtain ⟨x172,hi171,hl165⟩:=bvx hl165
             obtain ⟨x175,hi174,hl165⟩:=bvx hl165
             obtain ⟨x178,hi177,hl165⟩:=bvx hl165
             obtain ⟨r180,e181,hl165⟩:=bind_some hl165
             obtain ⟨x183,hi182,hl165⟩:=bvx hl165
             obtain ⟨x186,hi185,hl165⟩:=bvx hl165
             refine Yw (n:=159) (hd:=[_,_,_,_,_,_,_,_,_,_,_,_,_,_,_,_,_,_]) (tl:=[_]) YS rfl rfl [121,122,123,124,125,126,127,128,129,130,131,132,133,134,135,136,137,138] (by decide) (fun w=>M (Old w0) w0 w [raw b7 (enc s153.2.1),raw b1 (enc s153.1),raw b3 (enc (Vector.replicate 4 (Vector.replicate 4 (0 : UInt8))))]) (fun j=>([fun v _=>v = (vI s139.2.2),fun v _=>v = (vI s153.2.2),fun v _=>v = (vI s139.2.2),fun v _=>v = (vI s153.2.2),fun v _=>v = (ptr b1 (0 + (s139.2.2).toNat * 4)),fun v _=>v = (ptr b1 (0 + (s139.2.2).toNat * 4 + (s153.2.2).toNat * 1)),fun v _=>v = (vB x172),fun v _=>v = (vI p0),fun v _=>v = (vB x148),fun v _=>v = (vI s13.2.2.2),fun v _=>v = (vI s153.2.2),fun v _=>v = (ptr b1 (0 + (s13.2.2.2).toNat * 4)),fun v _=>v = (ptr b1 (0 + (s13.2.2.2).toNat * 4 + (s153.2.2).toNat * 1)),fun v _=>v = (vB x178),fun v _=>v = (vB r180),fun v _=>v = (vB (x172 ^^^ r180)),fun v _=>v = (ptr b1 (0 + (s139.2.2).toNat * 4)),fun v _=>v = (ptr b1 (0 + (s139.2.2).toNat * 4 + (s153.2.2).toNat * 1))] : List (Value → World → Prop)).getD j (fun _ _=>True)) (fun _ _ h hk=>h.keep hk) (gup (Zp (Zp (Zp (Zp (Zp (Zp (Zp (Zp (Zp (Zp (Zp (Zp (Zp (Zp (Zp (Zp (Zp (Zp Vq))))))))))))))))))) hE hM.drew (ZS (Zb ?_ (Zb ?_ (Zb ?_ (Zb ?_ (Zb ?_ (Zb ?_ (Zb ?_ (Zb ?_ (Zb ?_ (Zb ?_ (Zb ?_ (Zb ?_ (Zb ?_ (Zb ?_ (Zb ?_ (Zb ?_ (Zb ?_ (Zb ?_ ZL))))))))))))))))))) ?_
             ·exact fun a w ux167 hE hM hp=>Zc hE Za ld rfl fun a hE=>⟨Kept.refl _ _,_,_,rfl,hE,rfl⟩
             ·exact fun a w ux167 hE hM hp=>Zc hE Za ld rfl fun a hE=>⟨Kept.refl _ _,_,_,rfl,hE,rfl⟩
             ·exact fun a w ux167 hE hM hp=>Zc hE Za ld rfl fun a hE=>⟨Kept.refl _ _,_,_,rfl,hE,rfl⟩
             ·exact fun a w ux167 hE hM hp=>Zc hE Za ld rfl fun a hE=>⟨Kept.refl _ _,_,_,rfl,hE,rfl⟩
             ·intro a w ux167 hE hM hp
              have f2 : ux167 2 = (vI s139.2.2):=hp 0 _ rfl rfl
              exact Zh hE Za ld rfl (lk rfl f2) Try.underlying57 Yr hi168.1 fun a hE=>⟨Kept.refl _ _,_,_,rfl,hE,rfl⟩
             ·intro a w ux167 hE hM hp
              have f3 : ux167 3 = (vI s153.2.2):=hp 1 _ rfl rfl
              have f4 : ux167 4 = (ptr b1 (0 + (s139.2.2).toNat * 4)):=hp 0 _ rfl rfl
              exact Zh hE Za ld (lk rfl f4) (lk rfl f3) Try.underlying55 ty5 hi171.1 fun a hE=>⟨Kept.refl _ _,_,_,rfl,hE,rfl⟩
             ·intro a w ux167 hE hM hp
              have f5 : ux167 5 = (ptr b1 (0 + (s139.2.2).toNat * 4 + (s153.2.2).toNat * 1)):=hp 0 _ rfl rfl
              exact ZF (v:=(vB x172)) hE Za ld (lk rfl f5) ty5 rfl (At.vec (At.vec (hM.rawAt (pre:=[_])) hi168.2) hi171.2) fun a hE=>⟨Kept.refl _ _,_,_,rfl,hE,rfl⟩
             ·exact fun a w ux167 hE hM hp=>Zc hE Za ld rfl fun a hE=>⟨Kept.refl _ _,_,_,rfl,hE,rfl⟩
             ·exact fun a w ux167 hE hM hp=>Zc hE Za ld rfl fun a hE=>⟨Kept.refl _ _,_,_,rfl,hE,rfl⟩
             ·exact fun a w ux167 hE hM hp=>Zc hE Za ld rfl fun a hE=>⟨Kept.refl _ _,_,_,rfl,hE,rfl⟩
             ·exact fun a w ux167 hE hM hp=>Zc hE Za ld rfl fun a hE=>⟨Kept.refl _ _,_,_,rfl,hE,rfl⟩
             ·intro a w ux167 hE hM hp
              have f9 : ux167 9 = (vI s13.2.2.2):=hp 0 _ rfl rfl
              exact Zh hE Za ld rfl (lk rfl f9) Try.underlying57 Yr hi174.1 fun a hE=>⟨Kept.refl _ _,_,_,rfl,hE,rfl⟩
             ·intro a w ux167 hE hM hp
              have f10 : ux167 10 = (vI s153.2.2):=hp 1 _ rfl rfl
              have f11 : ux167 11 = (ptr b1 (0 + (s13.2.2.2).toNat * 4)):=hp 0 _ rfl rfl
              exact Zh hE Za ld (lk rfl f11) (lk rfl f10) Try.underlying55 ty5 hi177.1 fun a hE=>⟨Kept.refl _ _,_,_,rfl,hE,rfl⟩
             ·intro a w ux167 hE hM hp
              have f12 : ux167 12 = (ptr b1 (0 + (s13.2.2.2).toNat * 4 + (s153.2.2).toNat * 1)):=hp 0 _ rfl rfl
              exact ZF (v:=(vB x178)) hE Za ld (lk rfl f12) ty5 rfl (At.vec (At.vec (hM.rawAt (pre:=[_])) hi174.2) hi177.2) fun a hE=>⟨Kept.refl _ _,_,_,rfl,hE,rfl⟩
             ·intro a w ux167 hE hM hp
              have f7 : ux167 7 = (vI p0):=hp 0 _ rfl rfl
              have f8 : ux167 8 = (vB x148):=hp 1 _ rfl rfl
              have f13 : ux167 13 = (vB x178):=hp 2 _ rfl rfl
              refine Zo hE Za ld (Z1 (ZX (lk rfl f7) (ZX (lk rfl f8) (ZX (lk rfl f13) Xg)))) KP (YO _ p0 x148 x178 r180 e181) ?_
              rintro v w a ⟨rfl,hK⟩ hE
              exact ⟨hK,_,_,rfl,hE,rfl⟩
             ·intro a w ux167 hE hM hp
              have f6 : ux167 6 = (vB x172):=hp 0 _ rfl rfl
              have f14 : ux167 14 = (vB r180):=hp 1 _ rfl rfl
              exact Zm hE Za ld (lk rfl f6) (lk rfl f14) (Ug x172 r180) fun a hE=>⟨Kept.refl _ _,_,_,rfl,hE,rfl⟩
             ·intro a w ux167 hE hM hp
              have f0 : ux167 0 = (vI s139.2.2):=hp 0 _ rfl rfl
              exact Zh hE Za ld rfl (lk rfl f0) Try.underlying57 Yr hi182.1 fun a hE=>⟨Kept.refl _ _,_,_,rfl,hE,rfl⟩
             ·intro a w ux167 hE hM hp
              have f1 : ux167 1 = (vI s153.2.2):=hp 1 _ rfl rfl
              have f16 : ux167 16 = (ptr b1 (0 + (s139.2.2).toNat * 4)):=hp 0 _ rfl rfl
              exact Zh hE Za ld (lk rfl f16) (lk rfl f1) Try.underlying55 ty5 hi185.1 fun a hE=>⟨Kept.refl _ _,_,_,rfl,hE,rfl⟩
             ·intro a w ux167 hE hM hg
              have hE:=hE.sub (e':=[(136,(vB (x172 ^^^ r180))),(138,(ptr b1 (0 + (s139.2.2).toNat * 4 + (s153.2.2).toNat * 1))),(0,vI p0),(3,(ptr b1 0)),(5,(ptr b3 0)),(6,(ptr b7 0)),(7,vB r83),(8,vI s13.2.2.2),(14,vI s139.2.2),(15,vB x148),(16,vI s153.2.2),(118,vT j157)]) ⟨lk rfl (hg 15 (by decide)),lk rfl (hg 17 (by decide)),rfl,rfl,rfl,rfl,rfl,rfl,rfl,rfl,rfl,rfl,trivial⟩
              have hM:=hM.pull (pre:=[_])
              refine Zi (seg:=[(vB (x172 ^^^ r180))]) (cs':=enc (s153.1.setIfInBounds (s139.2.2).toNat (x183.setIfInBounds (s153.2.2).toNat (x172 ^^^ r180)))) hE hM Za rfl rfl rfl ty5 rfl (We (o':=0 + (s153.2.2).toNat * 1) hi182 (ZN (v:=x183) (x:=x172 ^^^ r180) hi185.1) (by first | omega | (simp only [Flat.n] <;> omega))) (Flat.cell (x172 ^^^ r180 : UInt8)) (YX (o':=0 + (s153.2.2).toNat * 1) hi182 (ZN (v:=x183) (x:=x172 ^^^ r180) hi185.1) (ZD (v:=x183) (x:=x172 ^^^ r180) hi185.1) (by first | omega | (simp only [Flat.n] <;> omega))) fun w a hM hE=>Zk ?_
              have ht188:=Option.some.inj hl165
              subst ht188
              refine Zn ?_
              have hM:=((hM.pull (pre:=[_,_])).pull (pre:=[_])).pull (pre:=[_,_])
              exact ⟨hE.sub ⟨rfl,rfl,rfl,rfl,rfl,rfl,rfl,rfl,rfl,trivial⟩,hM⟩
            ·skip
             rintro a w ⟨hE,hM⟩
             obtain ⟨x191,hi190,hF166⟩:=bvx hF166
             obtain ⟨x194,hi193,hF166⟩:=bvx hF166
             obtain ⟨x197,hi196,hF166⟩:=bvx hF166
             obtain ⟨x200,hi199,hF166⟩:=bvx hF166
             obtain ⟨r202,e203,hF166⟩:=bind_some hF166
             obtain ⟨x205,hi204,hF166⟩:=bvx hF166
             obtain ⟨x208,hi207,hF166⟩:=bvx hF166
             refine Yw (n:=159) (hd:=[_,_,_,_,_,_,_,_,_,_,_,_,_,_,_,_,_,_]) (tl:=[_]) YS rfl rfl [139,140,141,142,143,144,145,146,147,148,149,150,151,152,153,154,155,156] (by decide) (fun w=>M (Old w0) w0 w [raw b7 (enc s153.2.1),raw b1 (enc j164),raw b3 (enc (Vector.replicate 4 (Vector.replicate 4 (0 : UInt8))))]) (fun j=>([fun v _=>v = (vI s139.2.2),fun v _=>v = (vI s153.2.2),fun v _=>v = (vI s139.2.2),fun v _=>v = (vI s153.2.2),fun v _=>v = (ptr b7 (0 + (s139.2.2).toNat * 4)),fun v _=>v = (ptr b7 (0 + (s139.2.2).toNat * 4 + (s153.2.2).toNat * 1)),fun v _=>v = (vB x194),fun v _=>v = (vI p0),fun v _=>v = (vB x148),fun v _=>v = (vI s13.2.2.2),fun v _=>v = (vI s153.2.2),fun v _=>v = (ptr b7 (0 + (s13.2.2.2).toNat * 4)),fun v _=>v = (ptr b7 (0 + (s13.2.2.2).toNat * 4 + (s153.2.2).toNat * 1)),fun v _=>v = (vB x200),fun v _=>v = (vB r202),fun v _=>v = (vB (x194 ^^^ r202)),fun v _=>v = (ptr b7 (0 + (s139.2.2).toNat * 4)),fun v _=>v = (ptr b7 (0 + (s139.2.2).toNat * 4 + (s153.2.2).toNat * 1))] : List (Value → World → Prop)).getD j (fun _ _=>True)) (fun _ _ h hk=>h.keep hk) (gup (Zp (Zp (Zp (Zp (Zp (Zp (Zp (Zp (Zp (Zp (Zp (Zp (Zp (Zp (Zp (Zp (Zp (Zp Vq))))))))))))))))))) hE hM.drew (ZS (Zb ?_ (Zb ?_ (Zb ?_ (Zb ?_ (Zb ?_ (Zb ?_ (Zb ?_ (Zb ?_ (Zb ?_ (Zb ?_ (Zb ?_ (Zb ?_ (Zb ?_ (Zb ?_ (Zb ?_ (Zb ?_ (Zb ?_ (Zb ?_ ZL))))))))))))))))))) ?_
             ·exact fun a w ux189 hE hM hp=>Zc hE Za ld rfl fun a hE=>⟨Kept.refl _ _,_,_,rfl,hE,rfl⟩
             ·exact fun a w ux189 hE hM hp=>Zc hE Za ld rfl fun a hE=>⟨Kept.refl _ _,_,_,rfl,hE,rfl⟩
             ·exact fun a w ux189 hE hM hp=>Zc hE Za ld rfl fun a hE=>⟨Kept.refl _ _,_,_,rfl,hE,rfl⟩
             ·exact fun a w ux189 hE hM hp=>Zc hE Za ld rfl fun a hE=>⟨Kept.refl _ _,_,_,rfl,hE,rfl⟩
             ·intro a w ux189 hE hM hp
              have f2 : ux189 2 = (vI s139.2.2):=hp 0 _ rfl rfl
              exact Zh hE Za ld rfl (lk rfl f2) Try.underlying57 Yr hi190.1 fun a hE=>⟨Kept.refl _ _,_,_,rfl,hE,rfl⟩
             ·intro a w ux189 hE hM hp
              have f3 : ux189 3 = (vI s153.2.2):=hp 1 _ rfl rfl
              have f4 : ux189 4 = (ptr b7 (0 + (s139.2.2).toNat * 4)):=hp 0 _ rfl rfl
              exact Zh hE Za ld (lk rfl f4) (lk rfl f3) Try.underlying55 ty5 hi193.1 fun a hE=>⟨Kept.refl _ _,_,_,rfl,hE,rfl⟩
             ·intro a w ux189 hE hM hp
              have f5 : ux189 5 = (ptr b7 (0 + (s139.2.2).toNat * 4 + (s153.2.2).toNat * 1)):=hp 0 _ rfl rfl
              exact ZF (v:=(vB x194)) hE Za ld (lk rfl f5) ty5 rfl (At.vec (At.vec (hM.rawAt (pre:=[])) hi190.2) hi193.2) fun a hE=>⟨Kept.refl _ _,_,_,rfl,hE,rfl⟩
             ·exact fun a w ux189 hE hM hp=>Zc hE Za ld rfl fun a hE=>⟨Kept.refl _ _,_,_,rfl,hE,rfl⟩
             ·exact fun a w ux189 hE hM hp=>Zc hE Za ld rfl fun a hE=>⟨Kept.refl _ _,_,_,rfl,hE,rfl⟩
             ·exact fun a w ux189 hE hM hp=>Zc hE Za ld rfl fun a hE=>⟨Kept.refl _ _,_,_,rfl,hE,rfl⟩
             ·exact fun a w ux189 hE hM hp=>Zc hE Za ld rfl fun a hE=>⟨Kept.refl _ _,_,_,rfl,hE,rfl⟩
             ·intro a w ux189 hE hM hp
              have f9 : ux189 9 = (vI s13.2.2.2):=hp 0 _ rfl rfl
              exact Zh hE Za ld rfl (lk rfl f9) Try.underlying57 Yr hi196.1 fun a hE=>⟨Kept.refl _ _,_,_,rfl,hE,rfl⟩
             ·intro a w ux189 hE hM hp
              have f10 : ux189 10 = (vI s153.2.2):=hp 1 _ rfl rfl
              have f11 : ux189 11 = (ptr b7 (0 + (s13.2.2.2).toNat * 4)):=hp 0 _ rfl rfl
              exact Zh hE Za ld (lk rfl f11) (lk rfl f10) Try.underlying55 ty5 hi199.1 fun a hE=>⟨Kept.refl _ _,_,_,rfl,hE,rfl⟩
             ·intro a w ux189 hE hM hp
              have f12 : ux189 12 = (ptr b7 (0 + (s13.2.2.2).toNat * 4 + (s153.2.2).toNat * 1)):=hp 0 _ rfl rfl
              exact ZF (v:=(vB x200)) hE Za ld (lk rfl f12) ty5 rfl (At.vec (At.vec (hM.rawAt (pre:=[])) hi196.2) hi199.2) fun a hE=>⟨Kept.refl _ _,_,_,rfl,hE,rfl⟩
             ·intro a w ux189 hE hM hp
              have f7 : ux189 7 = (vI p0):=hp 0 _ rfl rfl
              have f8 : ux189 8 = (vB x148):=hp 1 _ rfl rfl
              have f13 : ux189 13 = (vB x200):=hp 2 _ rfl rfl
              refine Zo hE Za ld (Z1 (ZX (lk rfl f7) (ZX (lk rfl f8) (ZX (lk rfl f13) Xg)))) KP (YO _ p0 x148 x200 r202 e203) ?_
              rintro v w a ⟨rfl,hK⟩ hE
              exact ⟨hK,_,_,rfl,hE,rfl⟩
             ·intro a w ux189 hE hM hp
              have f6 : ux189 6 = (vB x194):=hp 0 _ rfl rfl
              have f14 : ux189 14 = (vB r202):=hp 1 _ rfl rfl
              exact Zm hE Za ld (lk rfl f6) (lk rfl f14) (Ug x194 r202) fun a hE=>⟨Kept.refl _ _,_,_,rfl,hE,rfl⟩
             ·intro a w ux189 hE hM hp
              have f0 : ux189 0 = (vI s139.2.2):=hp 0 _ rfl rfl
              exact Zh hE Za ld rfl (lk rfl f0) Try.underlying57 Yr hi204.1 fun a hE=>⟨Kept.refl _ _,_,_,rfl,hE,rfl⟩
             ·intro a w ux189 hE hM hp
              have f1 : ux189 1 = (vI s153.2.2):=hp 1 _ rfl rfl
              have f16 : ux189 16 = (ptr b7 (0 + (s139.2.2).toNat * 4)):=hp 0 _ rfl rfl
              exact Zh hE Za ld (lk rfl f16) (lk rfl f1) Try.underlying55 ty5 hi207.1 fun a hE=>⟨Kept.refl _ _,_,_,rfl,hE,rfl⟩
             ·intro a w ux189 hE hM hg
              have hE:=hE.sub (e':=[(154,(vB (x194 ^^^ r202))),(156,(ptr b7 (0 + (s139.2.2).toNat * 4 + (s153.2.2).toNat * 1))),(0,vI p0),(3,(ptr b1 0)),(5,(ptr b3 0)),(6,(ptr b7 0)),(7,vB r83),(8,vI s13.2.2.2),(14,vI s139.2.2),(15,vB x148),(16,vI s153.2.2)]) ⟨lk rfl (hg 15 (by decide)),lk rfl (hg 17 (by decide)),rfl,rfl,rfl,rfl,rfl,rfl,rfl,rfl,rfl,trivial⟩
              refine Zi (seg:=[(vB (x194 ^^^ r202))]) (cs':=enc (s153.2.1.setIfInBounds (s139.2.2).toNat (x205.setIfInBounds (s153.2.2).toNat (x194 ^^^ r202)))) hE hM Za rfl rfl rfl ty5 rfl (We (o':=0 + (s153.2.2).toNat * 1) hi204 (ZN (v:=x205) (x:=x194 ^^^ r202) hi207.1) (by first | omega | (simp only [Flat.n] <;> omega))) (Flat.cell (x194 ^^^ r202 : UInt8)) (YX (o':=0 + (s153.2.2).toNat * 1) hi204 (ZN (v:=x205) (x:=x194 ^^^ r202) hi207.1) (ZD (v:=x205) (x:=x194 ^^^ r202) hi207.1) (by first | omega | (simp only [Flat.n] <;> omega))) fun w a hM hE=>Zk (Yj (ZG (wp_region_lit (Zc hE Za ld rfl fun a hE=>Zm hE Za ld rfl rfl rfl fun a hE=>Ze hE Za ld rfl fun a hE=>Zk (Zn ?_)))))
              exact ⟨_,(ois hF166),hE.sub ⟨rfl,rfl,rfl,rfl,rfl,rfl,rfl,rfl,rfl,trivial⟩,hM⟩
           ·intro hb163
            have hF159:=ZA hF159 hb163
            refine wp_exit (Zs (Zs (Yz ?_)))
            have ht210:=hx155 _ (ois hF159)
            subst ht210
            refine Zn ?_
            exact ⟨hE.sub ⟨rfl,rfl,rfl,rfl,rfl,rfl,rfl,trivial⟩,hM⟩
         ·skip
          rintro a w ⟨hE,hM⟩
          refine Yj (ZG (wp_region_lit (Zc hE Za ld rfl fun a hE=>Zm hE Za ld rfl rfl rfl fun a hE=>Ze hE Za ld rfl fun a hE=>Zk (Zn ?_))))
          exact ⟨_,(ois hF152),hE.sub ⟨rfl,rfl,rfl,rfl,rfl,rfl,rfl,trivial⟩,hM⟩
        ·intro hb143
         have hs140:=ZA hs140 hb143
         refine wp_exit (Zs (Zs (Yz ?_)))
         have ht211:=hx141 _ (ois hs140)
         subst ht211
         refine Zn ?_
         exact ⟨hE.sub ⟨rfl,rfl,rfl,rfl,rfl,rfl,trivial⟩,hM⟩
       ·skip
        rintro a w ⟨hE,hM⟩
        refine Yj (ZG (wp_region_lit (Zc hE Za ld rfl fun a hE=>Zm hE Za ld rfl rfl rfl fun a hE=>Ze hE Za ld rfl fun a hE=>Zk (Zn ?_))))
        have hM:=((hM.pull (pre:=[_])).pull (pre:=[_,_])).pull (pre:=[_,_])
        exact ⟨_,(ois hF138),hE.sub ⟨rfl,rfl,rfl,rfl,rfl,rfl,trivial⟩,hM⟩
  ·intro hb17
   have hs14:=ZA hs14 hb17
   refine wp_exit (Zs (Zs (Yz ?_)))
   have ht212:=hx15 _ (ois hs14)
   subst ht212
   refine Zn ?_
   have hM:=M.fst (l:=[_,_]) ((hM.pull (pre:=[_])).pull (pre:=[_]))
   exact ⟨(s13.2.1,s13.2.2.1),rfl,hE.sub ⟨rfl,rfl,rfl,trivial⟩,hM⟩
 ·skip
  rintro a w ⟨s12,ht,hE,hM⟩
  subst ht
  have hF11:=Qp hF11
  refine ZG ?_
  obtain ⟨j213,hl214,hF215⟩:=bind_some hF11
  refine ZT (fun a w=>Env 159 a [(4,vB j213.2),(5,(ptr b3 0))] ∧ M (Old w0) w0 w [raw b3 (enc j213.1)]) ?_ ?_
  ·skip
   refine Yw (n:=159) (hd:=[_,_,_]) (tl:=[_]) YS rfl rfl [157,158,4] (by decide) (fun w=>M (Old w0) w0 w [raw b7 (enc s12.1),raw b3 (enc (Vector.replicate 4 (Vector.replicate 4 (0 : UInt8))))]) (fun j=>([fun v _=>v = (vB s12.2),fun v _=>v = (Value.agg (enc s12.1).toArray),fun v _=>v = (vB s12.2)] : List (Value → World → Prop)).getD j (fun _ _=>True)) (fun _ _ h hk=>h.keep hk) (gup (Zp (Zp (Zp Vq)))) hE hM.drew (ZS (Zb ?_ (Zb ?_ (Zb ?_ ZL)))) ?_
   ·exact fun a w ux216 hE hM hp=>Zc hE Za ld rfl fun a hE=>⟨Kept.refl _ _,_,_,rfl,hE,rfl⟩
   ·exact fun a w ux216 hE hM hp=>Zj (cs:=enc s12.1) hE Za ld rfl Y7 rfl (hM.rawAt (pre:=[])) (Flat.len _) fun a hE=>⟨Kept.refl _ _,_,_,rfl,hE,rfl⟩
   ·intro a w ux216 hE hM hp
    have f0 : ux216 0 = (vB s12.2):=hp 0 _ rfl rfl
    exact Ze hE Za ld (lk rfl f0) fun a hE=>⟨Kept.refl _ _,_,_,rfl,hE,rfl⟩
   ·intro a w ux216 hE hM hg
    have hE:=hE.sub (e':=[(158,(Value.agg (enc s12.1).toArray)),(4,vB s12.2),(5,(ptr b3 0))]) ⟨lk rfl (hg 1 (by decide)),lk rfl (hg 2 (by decide)),rfl,trivial⟩
    have hM:=hM.pull (pre:=[_])
    refine Zi (seg:=enc s12.1) (cs':=enc s12.1) hE hM Za rfl rfl rfl Y7 (Flat.len _) (zle flq) (Flat.cell _) (Zg flq) fun w a hM hE=>Zk ?_
    have ht217:=Option.some.inj hl214
    subst ht217
    refine Zn ?_
    have hM:=M.fst (l:=[_]) hM
    exact ⟨hE.sub ⟨rfl,rfl,trivial⟩,hM⟩
  ·skip
   rintro a w ⟨hE,hM⟩
   have hr:=Option.some.inj hF215
   subst hr
   have hq218 : ZY Try.prog _ _ (.cell 5 57) _:=ZM hE rfl Y7 rfl (hM.rawAt (pre:=[])) (Flat.len _) rfl
   have hM:=M.fst (l:=[]) hM
   exact wp_ret (VH hE rfl (Zx hE rfl) hq218 ⟨_,rfl,rfl,hM.kept⟩)
def Xj (p0 : Int) (p1 : (Vector (Vector UInt8 4) 4)) : Option ((Vector (Vector UInt8 4) 4) × Bool) :=
 (Vr p0 p1).bind fun r5=>some (r5.2,r5.1 != 0)
theorem Ta (w0 : World) (p0 : Int) (p1 : (Vector (Vector UInt8 4) 4)) (r : (Vector (Vector UInt8 4) 4) × Bool) (hF : Xj p0 p1 = some r) :
  Calls Try.prog 152 [vI p0,(Value.agg (enc p1).toArray)].toArray w0 (fun en w'=>∃ v,en = .returned v ∧ (v = (Value.tuple [(Value.agg (enc r.1).toArray),vT r.2].toArray) ∧ Kept (Old w0) w0 w')):=by
 refine ZJ (n:=17) Try.func152 rfl rfl (nbl rfl) rfl ?_
 intro a hE
 have hM:=M.start w0
 unfold Xj at hF
 refine Zd (Z3 (cs:=enc p1) hE hM Za ld rfl rfl fun b1 w a hM hE=>Zu hE hM Za ld Y7 fun b3 w a hM hE=>Ze hE Za ld rfl fun a hE=>Zf (Zd (Zc hE Za ld rfl fun a hE=>Zj (cs:=enc p1) hE Za ld rfl Y7 rfl (hM.rawAt (pre:=[_])) (Flat.len _) ?_))); intro a hE
 obtain ⟨r5,e6,hF⟩:=bind_some hF
 refine Zo hE Za ld rfl cb189 (JS _ p0 p1 r5 e6) ?_
 rintro v w a ⟨rfl,hK⟩ hE
 have hM:=hM.keep hK
 refine Zc hE Za ld rfl fun a hE=>Zy hE Za ld rfl rfl fun a hE=>Zy hE Za ld rfl rfl fun a hE=>Zu hE hM Za ld Y7 fun b7 w a hM hE=>Ze hE Za ld rfl fun a hE=>Zi (seg:=enc r5.2) (cs':=enc r5.2) hE hM Za rfl rfl rfl Y7 (Flat.len _) (zle flq) (Flat.cell _) (Zg flq) fun w a hM hE=>Zf (Zd (Zj (cs:=enc r5.2) hE Za ld rfl Y7 rfl (hM.rawAt (pre:=[])) (Flat.len _) fun a hE=>Zc hE Za ld rfl fun a hE=>Zm hE Za ld rfl rfl (zt r5.1 0) ?_)); intro a hE
 have hM:=hM.pull (pre:=[_])
 refine Zi (seg:=enc r5.2) (cs':=enc r5.2) hE hM Za rfl rfl rfl Y7 (Flat.len _) (zle flq) (Flat.cell _) (Zg flq) fun w a hM hE=>Ze hE Za ld rfl fun a hE=>Zf ?_
 have hr:=Option.some.inj hF
 subst hr
 have hq9 : ZY Try.prog _ _ (.cell 4 57) _:=ZM hE rfl Y7 rfl (hM.rawAt (pre:=[])) (Flat.len _) rfl
 have hM:=M.fst (l:=[]) hM
 exact wp_ret (VH hE rfl hq9 (Zx hE rfl) ⟨_,rfl,rfl,hM.kept⟩)
def UI (p0_0 : (List UInt8)) (s26 : (Vector (Vector UInt8 4) 4) × Int × Int × Int) : Option (Fl ((Vector (Vector UInt8 4) 4) × Int × Int × Int) ((Vector (Vector UInt8 4) 4) × Int × Int)) :=
 if (decide (s26.2.2.2 > 0)) = true then ((ZC p0_0 (s26.2.1,s26.2.2.1) 4).bind fun r32=>(ZC p0_0 (r32.1.1,r32.1.2) 4).bind fun r34=>(ZC p0_0 (r34.1.1,r34.1.2) 256).bind fun r36=>(ZI s26.1 r32.2).bind fun x39=>(ZI x39 r34.2).bind fun x42=>some (Fl.nx ((s26.1.setIfInBounds (r32.2).toNat (x39.setIfInBounds (r34.2).toNat (ZE r36.2))),r36.1.1,r36.1.2,wr (s26.2.2.2 - 1)))) else (some (Fl.ex (s26.1,s26.2.1,s26.2.2.1)))
def Ud (p0_0 : (List UInt8)) (p0 : (Int × Int)) : Option ((Int × Int) × GCipher) :=
 (ZC p0_0 (p0.1,p0.2) 20).bind fun r3=>(YZ p0_0 (r3.1.1,r3.1.2) ([0,1,2,3,5,9,r3.2] : List Int)).bind fun r7=>(WW (wr (1 + r7.2))).bind fun r9=>(ZC p0_0 (r7.1.1,r7.1.2) 2).bind fun r13=>if (r13.2 == 0) = true then (some ((r13.1.1,r13.1.2),r9)) else ((YU p0_0 (r13.1.1,r13.1.2)).bind fun r17=>(Ub p0_0 (r17.1.1,r17.1.2)).bind fun r19=>(ZC p0_0 (r19.1.1,r19.1.2) 4).bind fun r21=>(ZQ (UI p0_0) (r9.Mix,r21.1.1,r21.1.2,r21.2)).bind fun j23=>((Xj r17.2 j23.1).bind fun r48=>if (!r48.2) = true then ((ZC p0_0 (j23.2.1,j23.2.2) 256).bind fun r53=>some ((((((Vector.replicate 4 (Vector.replicate 4 (0 : UInt8))).setIfInBounds 0 ((Vector.replicate 4 (0 : UInt8)).setIfInBounds 0 1)).setIfInBounds 1 (((Vector.replicate 4 (0 : UInt8)).setIfInBounds 0 0).setIfInBounds 1 1)).setIfInBounds 2 ((((Vector.replicate 4 (0 : UInt8)).setIfInBounds 0 0).setIfInBounds 1 0).setIfInBounds 2 1)).setIfInBounds 3 (((((Vector.replicate 4 (0 : UInt8)).setIfInBounds 0 (ZE r53.2)).setIfInBounds 1 0).setIfInBounds 2 0).setIfInBounds 3 1)),r53.1.1,r53.1.2)) else (some (j23.1,j23.2.1,j23.2.2)) : Option ((Vector (Vector UInt8 4) 4) × Int × Int)).bind fun j45=>(ZC p0_0 (j45.2.1,j45.2.2) 16).bind fun r57=>(ZC p0_0 (r57.1.1,r57.1.2) 16).bind fun r59=>(ZI r9.Places r57.2).bind fun x62=>(ZI r9.Places r59.2).bind fun x65=>(ZI r9.Places r57.2).bind fun x68=>(ZI (r9.Places.setIfInBounds (r57.2).toNat x65) r59.2).bind fun x71=>some ((r59.1.1,r59.1.2),(⟨r17.2,r19.2,j45.1,((r9.Places.setIfInBounds (r57.2).toNat x65).setIfInBounds (r59.2).toNat x62),r9.Rounds⟩ : GCipher)))
theorem Bk (St : Nat → Prop) (W w0 : World) (R : Item) (pb0 : Nat) (p0_0 : (List UInt8)) (v0_0 : Value) (hv0_0 : Rep.sat St W p0_0 [v0_0] []) (p0 : (Int × Int)) (hM : M St W w0 [raw pb0 (cat [[v0_0],[vI p0.1],[(Value.int .u64 p0.2)]]),R]) (r : (Int × Int) × GCipher) (hF : Ud p0_0 p0 = some r) :
  Calls Try.prog 205 [(ptr pb0 0)].toArray w0 (fun en w'=>∃ v,en = .returned v ∧ (v = (Value.agg (enc r.2).toArray) ∧ M St W w' [raw pb0 (cat [[v0_0],[vI r.1.1],[(Value.int .u64 r.1.2)]]),R])):=by
 refine ZJ (n:=82) Try.func205 rfl rfl (nbl rfl) rfl ?_
 intro a hE
 unfold Ud at hF
 refine Zd (Zu hE hM Za ld Z8 fun b1 w a hM hE=>Zf (Zd (Zc hE Za ld rfl fun a hE=>Zc hE Za ld rfl ?_))); intro a hE
 have hM:=M.tailP (m:=[_]) (hM.pull (pre:=[_]))
 obtain ⟨r3,e4,hF⟩:=bind_some hF
 refine Zo hE Za ld rfl VD (ZH _ _ _ _ pb0 p0_0 v0_0 hv0_0 (p0.1,p0.2) 20 hM r3 e4) ?_
 rintro v w a ⟨rfl,hM⟩ hE
 have hM:=M.tailU (m:=[_]) hM
 simp only [List.cons_append,List.nil_append] at hM
 refine YM (xs:=[.const (vI 0),.const (vI 1),.const (vI 2),.const (vI 3),.const (vI 5),.const (vI 9),.tmp 12]) (l:=([0,1,2,3,5,9,r3.2] : List Int)) (vs:=[vI 0,vI 1,vI 2,vI 3,vI 5,vI 9,vI r3.2]) hE hM Za ld rfl rfl Try.underlying138 ty2 rfl (by decide) rfl ?_; intro u5 w a hM hE
 have hM:=M.tailP (m:=[_,_]) (hM.pull (pre:=[_]))
 obtain ⟨r7,e8,hF⟩:=bind_some hF
 refine Zo hE Za ld rfl cb49 (Vs _ _ _ _ pb0 p0_0 v0_0 hv0_0 (r3.1.1,r3.1.2) ([0,1,2,3,5,9,r3.2] : List Int) u5 hM r7 e8) ?_
 rintro v w a ⟨rfl,hM⟩ hE
 have hM:=M.tailU (m:=[_,_]) hM
 simp only [List.cons_append,List.nil_append] at hM
 refine Zm hE Za ld rfl rfl rfl ?_; intro a hE
 obtain ⟨r9,e10,hF⟩:=bind_some hF
 refine Zo hE Za ld rfl cb141 (QT _ (wr (1 + r7.2)) r9 e10) ?_
 rintro v w a ⟨rfl,hK⟩ hE
 have hM:=hM.keep hK
 refine Zu hE hM Za ld Z8 fun b11 w a hM hE=>Zi (seg:=cat [[vI r9.Field],enc r9.Box,enc r9.Mix,enc r9.Places,[vI r9.Rounds]]) (cs':=cat [[vI r9.Field],enc r9.Box,enc r9.Mix,enc r9.Places,[vI r9.Rounds]]) hE hM Za rfl rfl rfl Z8 (Zl (cl1 (n:=1) (m:=289) rfl (cl1 (n:=256) (m:=33) (Flat.len _) (cl1 (n:=16) (m:=17) (Flat.len _) (cl1 (n:=16) (m:=1) (Flat.len _) (cl1 (n:=1) (m:=0) rfl cl0)))))) (Nat.le_of_eq ((Nat.zero_add _).trans (Eq.trans (Zl (cl1 (n:=1) (m:=289) rfl (cl1 (n:=256) (m:=33) (Flat.len _) (cl1 (n:=16) (m:=17) (Flat.len _) (cl1 (n:=16) (m:=1) (Flat.len _) (cl1 (n:=1) (m:=0) rfl cl0)))))) (Eq.symm (Zl (cl1 (n:=1) (m:=289) rfl (cl1 (n:=256) (m:=33) (Flat.len _) (cl1 (n:=16) (m:=17) (Flat.len _) (cl1 (n:=16) (m:=1) (Flat.len _) (cl1 (n:=1) (m:=0) rfl cl0)))))))))) (Yq (cc1 (Flat.cell (r9.Field : Int)) (cc1 (Flat.cell _) (cc1 (Flat.cell _) (cc1 (Flat.cell _) (cc1 (Flat.cell (r9.Rounds : Int)) cc0)))))) (Zg (Eq.trans (Zl (cl1 (n:=1) (m:=289) rfl (cl1 (n:=256) (m:=33) (Flat.len _) (cl1 (n:=16) (m:=17) (Flat.len _) (cl1 (n:=16) (m:=1) (Flat.len _) (cl1 (n:=1) (m:=0) rfl cl0)))))) (Eq.symm (Zl (cl1 (n:=1) (m:=289) rfl (cl1 (n:=256) (m:=33) (Flat.len _) (cl1 (n:=16) (m:=17) (Flat.len _) (cl1 (n:=16) (m:=1) (Flat.len _) (cl1 (n:=1) (m:=0) rfl cl0))))))))) fun w a hM hE=>Zf (wp_seq (Zd (Zc hE Za ld rfl ?_))); intro a hE
 have hM:=M.tailP (m:=[_]) (hM.pull (pre:=[_]))
 obtain ⟨r13,e14,hF⟩:=bind_some hF
 refine Zo hE Za ld rfl VD (ZH _ _ _ _ pb0 p0_0 v0_0 hv0_0 (r7.1.1,r7.1.2) 2 hM r13 e14) ?_
 rintro v w a ⟨rfl,hM⟩ hE
 have hM:=M.tailU (m:=[_]) hM
 simp only [List.cons_append,List.nil_append] at hM
 refine Zm hE Za ld rfl rfl rfl fun a hE=>Zf ?_
 refine Zv hE rfl ?_ ?_
 ·intro hb15
  have hF:=ZB hF hb15
  refine Zd (Zj (cs:=enc r9) hE Za ld rfl Z8 rfl (hM.rawAt (pre:=[_])) (Zl (cl1 (n:=1) (m:=289) rfl (cl1 (n:=256) (m:=33) (Flat.len _) (cl1 (n:=16) (m:=17) (Flat.len _) (cl1 (n:=16) (m:=1) (Flat.len _) (cl1 (n:=1) (m:=0) rfl cl0)))))) ?_); intro a hE
  have hM:=hM.pull (pre:=[_,_,_])
  refine Zi (seg:=cat [[vI r9.Field],enc r9.Box,enc r9.Mix,enc r9.Places,[vI r9.Rounds]]) (cs':=cat [[vI r9.Field],enc r9.Box,enc r9.Mix,enc r9.Places,[vI r9.Rounds]]) hE hM Za rfl rfl rfl Z8 (Zl (cl1 (n:=1) (m:=289) rfl (cl1 (n:=256) (m:=33) (Flat.len _) (cl1 (n:=16) (m:=17) (Flat.len _) (cl1 (n:=16) (m:=1) (Flat.len _) (cl1 (n:=1) (m:=0) rfl cl0)))))) (Nat.le_of_eq ((Nat.zero_add _).trans (Eq.trans (Zl (cl1 (n:=1) (m:=289) rfl (cl1 (n:=256) (m:=33) (Flat.len _) (cl1 (n:=16) (m:=17) (Flat.len _) (cl1 (n:=16) (m:=1) (Flat.len _) (cl1 (n:=1) (m:=0) rfl cl0)))))) (Eq.symm (Zl (cl1 (n:=1) (m:=289) rfl (cl1 (n:=256) (m:=33) (Flat.len _) (cl1 (n:=16) (m:=17) (Flat.len _) (cl1 (n:=16) (m:=1) (Flat.len _) (cl1 (n:=1) (m:=0) rfl cl0)))))))))) (Yq (cc1 (Flat.cell (r9.Field : Int)) (cc1 (Flat.cell _) (cc1 (Flat.cell _) (cc1 (Flat.cell _) (cc1 (Flat.cell (r9.Rounds : Int)) cc0)))))) (Zg (Eq.trans (Zl (cl1 (n:=1) (m:=289) rfl (cl1 (n:=256) (m:=33) (Flat.len _) (cl1 (n:=16) (m:=17) (Flat.len _) (cl1 (n:=16) (m:=1) (Flat.len _) (cl1 (n:=1) (m:=0) rfl cl0)))))) (Eq.symm (Zl (cl1 (n:=1) (m:=289) rfl (cl1 (n:=256) (m:=33) (Flat.len _) (cl1 (n:=16) (m:=17) (Flat.len _) (cl1 (n:=16) (m:=1) (Flat.len _) (cl1 (n:=1) (m:=0) rfl cl0))))))))) fun w a hM hE=>Zf ?_
  have hr:=Option.some.inj hF
  subst hr
  have hq16 : ZY Try.prog _ _ (.cell 2 61) _:=ZM hE rfl Z8 rfl (hM.rawAt (pre:=[])) (Zl (cl1 (n:=1) (m:=289) rfl (cl1 (n:=256) (m:=33) (Flat.len _) (cl1 (n:=16) (m:=17) (Flat.len _) (cl1 (n:=16) (m:=1) (Flat.len _) (cl1 (n:=1) (m:=0) rfl cl0)))))) rfl
  have hM:=(((((((hM.pull (pre:=[_,_,_,_])).pull (pre:=[_,_])).pull (pre:=[_,_,_,_])).drop).pull (pre:=[_,_,_])).drop).pull (pre:=[_,_])).drop
  exact wp_ret (ZP (ZK hE rfl hq16 ⟨_,rfl,rfl,hM⟩))
 ·intro hb15
  have hF:=ZA hF hb15
  refine wp_skip (ZG (Zd (Zc hE Za ld rfl ?_))); intro a hE
  have hM:=M.tailP (m:=[_]) hM
  obtain ⟨r17,e18,hF⟩:=bind_some hF
  refine Zo hE Za ld rfl ja (UC _ _ _ _ pb0 p0_0 v0_0 hv0_0 (r13.1.1,r13.1.2) hM r17 e18) ?_
  rintro v w a ⟨rfl,hM⟩ hE
  have hM:=M.tailU (m:=[_]) hM
  simp only [List.cons_append,List.nil_append] at hM
  refine Zr hE Za ld rfl (Tg) ?_; intro a hE
  have hM:=hM.pull (pre:=[_])
  refine Zi (seg:=[vI r17.2]) hE hM Za rfl rfl rfl ty2 rfl (UX (pre:=[]) cl0 rfl) (Flat.cell (r17.2 : Int)) (WL (pre:=[]) cl0 rfl) fun w a hM hE=>Zf (Zd (Zc hE Za ld rfl ?_)); intro a hE
  have hM:=M.tailP (m:=[_]) (hM.pull (pre:=[_]))
  obtain ⟨r19,e20,hF⟩:=bind_some hF
  refine Zo hE Za ld rfl cb215 (H4 _ _ _ _ pb0 p0_0 v0_0 hv0_0 (r17.1.1,r17.1.2) hM r19 e20) ?_
  rintro v w a ⟨rfl,hM⟩ hE
  have hM:=M.tailU (m:=[_]) hM
  simp only [List.cons_append,List.nil_append] at hM
  refine Zr hE Za ld rfl (TX) ?_; intro a hE
  have hM:=hM.pull (pre:=[_])
  refine Zi (seg:=enc r19.2) hE hM Za rfl rfl rfl YC (Flat.len _) (UX (pre:=[[vI r17.2]]) (cl1 (n:=1) (m:=0) rfl cl0) flq) (Flat.cell _) (WL (pre:=[[vI r17.2]]) (cl1 (n:=1) (m:=0) rfl cl0) flq) fun w a hM hE=>Zf (wp_seq (Zd (Zc hE Za ld rfl ?_))); intro a hE
  have hM:=M.tailP (m:=[_]) (hM.pull (pre:=[_]))
  obtain ⟨r21,e22,hF⟩:=bind_some hF
  refine Zo hE Za ld rfl VD (ZH _ _ _ _ pb0 p0_0 v0_0 hv0_0 (r19.1.1,r19.1.2) 4 hM r21 e22) ?_
  rintro v w a ⟨rfl,hM⟩ hE
  have hM:=M.tailU (m:=[_]) hM
  simp only [List.cons_append,List.nil_append] at hM
  refine Ze hE Za ld rfl fun a hE=>Zf ?_
  obtain ⟨j23,hl24,hF25⟩:=bind_some hF
  refine Z0 (fun a w=>Env 82 a [(0,(ptr pb0 0)),(2,(ptr b1 0)),(3,(ptr b11 0))] ∧ M St W w [raw pb0 (cat [[v0_0],[vI j23.2.1],[(Value.int .u64 j23.2.2)]]),raw b11 (cat [[vI r17.2],enc r19.2,enc j23.1,enc r9.Places,[vI r9.Rounds]]),raw b1 (cat [[vI 0],enc (Vector.replicate 256 (0 : UInt8)),enc (Vector.replicate 4 (Vector.replicate 4 (0 : UInt8))),enc (Vector.replicate 16 (0 : UInt8)),[vI 0]]),R]) ?_ ?_
  ·skip
   refine wp_block ?_
   have hM:=(((((hM.pull (pre:=[_,_,_,_])).pull (pre:=[_,_,_,_])).pull (pre:=[_,_,_])).pull (pre:=[_,_,_])).pull (pre:=[_,_,_,_])).drop
   refine ZV (fun (s26 : (Vector (Vector UInt8 4) 4) × Int × Int × Int) a w=>Env 82 a [(0,(ptr pb0 0)),(2,(ptr b1 0)),(3,(ptr b11 0)),(4,vI s26.2.2.2)] ∧ M St W w [raw pb0 (cat [[v0_0],[vI s26.2.1],[(Value.int .u64 s26.2.2.1)]]),raw b11 (cat [[vI r17.2],enc r19.2,enc s26.1,enc r9.Places,[vI r9.Rounds]]),raw b1 (cat [[vI 0],enc (Vector.replicate 256 (0 : UInt8)),enc (Vector.replicate 4 (Vector.replicate 4 (0 : UInt8))),enc (Vector.replicate 16 (0 : UInt8)),[vI 0]]),R]) hl24 ⟨hE.sub ⟨rfl,rfl,rfl,rfl,trivial⟩,hM⟩ ?_
   rintro s26 a w ⟨hE,hM⟩ o29 hs27 hx28
   unfold UI at hs27
   refine wp_seq (Zd (Zc hE Za ld rfl fun a hE=>Zm hE Za ld rfl rfl rfl fun a hE=>Zf ?_))
   refine Zv hE rfl ?_ ?_
   ·intro hb30
    have hs27:=ZB hs27 hb30
    refine wp_skip (ZG (wp_seq (wp_block ?_)))
    obtain ⟨r32,e33,hs27⟩:=bind_some hs27
    obtain ⟨r34,e35,hs27⟩:=bind_some hs27
    obtain ⟨r36,e37,hs27⟩:=bind_some hs27
    obtain ⟨x39,hi38,hs27⟩:=bvx hs27
    refine Vj (n:=82) (hd:=[_,_,_,_,_,_,_,_,_]) (tl:=[_,_]) YS rfl rfl [33,34,35,36,37,38,39,40,41] (by decide) (fun D u w=>M St W w ([raw b11 (cat [[vI r17.2],enc r19.2,enc s26.1,enc r9.Places,[vI r9.Rounds]]),raw b1 (cat [[vI 0],enc (Vector.replicate 256 (0 : UInt8)),enc (Vector.replicate 4 (Vector.replicate 4 (0 : UInt8))),enc (Vector.replicate 16 (0 : UInt8)),[vI 0]]),R] ++ qL ([([1,3,5],fun bs _=>(tog (bs.getD 0 false) (raw pb0 (cat [[v0_0],[vI s26.2.1],[(Value.int .u64 s26.2.2.1)]])) (tog (bs.getD 1 false) (raw pb0 (cat [[v0_0],[vI r32.1.1],[(Value.int .u64 r32.1.2)]])) (tog (bs.getD 2 false) (raw pb0 (cat [[v0_0],[vI r34.1.1],[(Value.int .u64 r34.1.2)]])) (raw pb0 (cat [[v0_0],[vI r36.1.1],[(Value.int .u64 r36.1.2)]]))))))] : Mk) D u) ∧ GOk ([([],fun us v=>v = (ptr pb0 0)),([],fun us v=>v = (vI r32.2)),([],fun us v=>v = (ptr pb0 0)),([],fun us v=>v = (vI r34.2)),([],fun us v=>v = (ptr pb0 0)),([],fun us v=>v = (vI r36.2)),([],fun us v=>v = (vB (ZE r36.2))),([],fun us v=>v = (ptr b11 (0 + 257))),([],fun us v=>v = (ptr b11 (0 + 257 + (r32.2).toNat * 4)))] : Gs) D u) hE (fun u=>⟨M.qS (M.q0 hM.drew u) fun _=>rfl,KH⟩) (ZS (Zb ?_ (Zb ?_ (Zb ?_ (Zb ?_ (Zb ?_ (Zb ?_ (Zb ?_ (Zb ?_ (Zb ?_ ZL)))))))))) ?_
    ·intro a w ux31 D hE hI hD hdc hp
     have hM0:=hI.1
     exact Zc hE Za ld rfl fun a hE=>⟨_,_,rfl,hE,M.qKeep hM0 rfl,hI.2.put hD rfl ZR rfl⟩
    ·intro a w ux31 D hE hI hD hdc hp
     have d0 : D 0 = true:=hp 0 _ rfl rfl
     have g0:=hI.2 0 d0 _ rfl
     have f0 : ux31 0 = (ptr pb0 0):=g0.2
     have hM0:=hI.1
     have hM : M St W w [raw b11 (cat [[vI r17.2],enc r19.2,enc s26.1,enc r9.Places,[vI r9.Rounds]]),raw b1 (cat [[vI 0],enc (Vector.replicate 256 (0 : UInt8)),enc (Vector.replicate 4 (Vector.replicate 4 (0 : UInt8))),enc (Vector.replicate 16 (0 : UInt8)),[vI 0]]),R,tog (D 1) (raw pb0 (cat [[v0_0],[vI s26.2.1],[(Value.int .u64 s26.2.2.1)]])) (tog (D 3) (raw pb0 (cat [[v0_0],[vI r32.1.1],[(Value.int .u64 r32.1.2)]])) (tog (D 5) (raw pb0 (cat [[v0_0],[vI r34.1.1],[(Value.int .u64 r34.1.2)]])) (raw pb0 (cat [[v0_0],[vI r36.1.1],[(Value.int .u64 r36.1.2)]]))))]:=hI.1
     have hM:=hM.togA (pre:=[_,_,_]) hD
     have hNx : D 3 = false:=Bool.eq_false_iff.2 fun hx=>Bool.noConfusion (hD.symm.trans (hdc 3 _ _ rfl (List.mem_of_getElem? (i:=1) rfl) rfl hx))
     have hM:=M.tailP (m:=[_]) (hM.pull (pre:=[_,_,_]))
     refine Zo hE Za ld (Z1 (ZX (lk rfl f0) (ZX rfl Xg))) VD (ZH _ _ _ _ pb0 p0_0 v0_0 hv0_0 (s26.2.1,s26.2.2.1) 4 hM r32 e33) ?_
     rintro v w a ⟨rfl,hM⟩ hE
     have hM:=M.tailU (m:=[_]) hM
     simp only [List.cons_append,List.nil_append] at hM
     exact ⟨_,_,rfl,hE,M.qTogS (p:=([1,3,5],fun bs _=>(tog (bs.getD 0 false) (raw pb0 (cat [[v0_0],[vI s26.2.1],[(Value.int .u64 s26.2.2.1)]])) (tog (bs.getD 1 false) (raw pb0 (cat [[v0_0],[vI r32.1.1],[(Value.int .u64 r32.1.2)]])) (tog (bs.getD 2 false) (raw pb0 (cat [[v0_0],[vI r34.1.1],[(Value.int .u64 r34.1.2)]])) (raw pb0 (cat [[v0_0],[vI r36.1.1],[(Value.int .u64 r36.1.2)]]))))))) (mk1:=[]) (mk2:=[]) hM rfl (by show tog (Yl D 1 1) (raw pb0 (cat [[v0_0],[vI s26.2.1],[(Value.int .u64 s26.2.2.1)]])) (tog (Yl D 1 3) (raw pb0 (cat [[v0_0],[vI r32.1.1],[(Value.int .u64 r32.1.2)]])) (tog (Yl D 1 5) (raw pb0 (cat [[v0_0],[vI r34.1.1],[(Value.int .u64 r34.1.2)]])) (raw pb0 (cat [[v0_0],[vI r36.1.1],[(Value.int .u64 r36.1.2)]])))) = _; rw [tg1 KF,tg0 (Bx (i:=1) hNx (by decide))]),hI.2.put hD rfl ZR rfl⟩
    ·intro a w ux31 D hE hI hD hdc hp
     have hM0:=hI.1
     exact Zc hE Za ld rfl fun a hE=>⟨_,_,rfl,hE,M.qKeep hM0 rfl,hI.2.put hD rfl ZR rfl⟩
    ·intro a w ux31 D hE hI hD hdc hp
     have d2 : D 2 = true:=hp 0 _ rfl rfl
     have g2:=hI.2 2 d2 _ rfl
     have f2 : ux31 2 = (ptr pb0 0):=g2.2
     have hM0:=hI.1
     have hM : M St W w [raw b11 (cat [[vI r17.2],enc r19.2,enc s26.1,enc r9.Places,[vI r9.Rounds]]),raw b1 (cat [[vI 0],enc (Vector.replicate 256 (0 : UInt8)),enc (Vector.replicate 4 (Vector.replicate 4 (0 : UInt8))),enc (Vector.replicate 16 (0 : UInt8)),[vI 0]]),R,tog (D 1) (raw pb0 (cat [[v0_0],[vI s26.2.1],[(Value.int .u64 s26.2.2.1)]])) (tog (D 3) (raw pb0 (cat [[v0_0],[vI r32.1.1],[(Value.int .u64 r32.1.2)]])) (tog (D 5) (raw pb0 (cat [[v0_0],[vI r34.1.1],[(Value.int .u64 r34.1.2)]])) (raw pb0 (cat [[v0_0],[vI r36.1.1],[(Value.int .u64 r36.1.2)]]))))]:=hI.1
     have dC1 : D 1 = true:=hp 1 _ rfl rfl
     have hM:=(hM.togB (pre:=[_,_,_]) dC1).togA (pre:=[_,_,_]) hD
     have hNx : D 5 = false:=Bool.eq_false_iff.2 fun hx=>Bool.noConfusion (hD.symm.trans (hdc 5 _ _ rfl (List.mem_of_getElem? (i:=1) rfl) rfl hx))
     have hM:=M.tailP (m:=[_]) (hM.pull (pre:=[_,_,_]))
     refine Zo hE Za ld (Z1 (ZX (lk rfl f2) (ZX rfl Xg))) VD (ZH _ _ _ _ pb0 p0_0 v0_0 hv0_0 (r32.1.1,r32.1.2) 4 hM r34 e35) ?_
     rintro v w a ⟨rfl,hM⟩ hE
     have hM:=M.tailU (m:=[_]) hM
     simp only [List.cons_append,List.nil_append] at hM
     exact ⟨_,_,rfl,hE,M.qTogS (p:=([1,3,5],fun bs _=>(tog (bs.getD 0 false) (raw pb0 (cat [[v0_0],[vI s26.2.1],[(Value.int .u64 s26.2.2.1)]])) (tog (bs.getD 1 false) (raw pb0 (cat [[v0_0],[vI r32.1.1],[(Value.int .u64 r32.1.2)]])) (tog (bs.getD 2 false) (raw pb0 (cat [[v0_0],[vI r34.1.1],[(Value.int .u64 r34.1.2)]])) (raw pb0 (cat [[v0_0],[vI r36.1.1],[(Value.int .u64 r36.1.2)]]))))))) (mk1:=[]) (mk2:=[]) hM rfl (by show tog (Yl D 3 1) (raw pb0 (cat [[v0_0],[vI s26.2.1],[(Value.int .u64 s26.2.2.1)]])) (tog (Yl D 3 3) (raw pb0 (cat [[v0_0],[vI r32.1.1],[(Value.int .u64 r32.1.2)]])) (tog (Yl D 3 5) (raw pb0 (cat [[v0_0],[vI r34.1.1],[(Value.int .u64 r34.1.2)]])) (raw pb0 (cat [[v0_0],[vI r36.1.1],[(Value.int .u64 r36.1.2)]])))) = _; rw [tg1 (K8 dC1),tg1 KF,tg0 (Bx (i:=3) hNx (by decide))]),hI.2.put hD rfl ZR rfl⟩
    ·intro a w ux31 D hE hI hD hdc hp
     have hM0:=hI.1
     exact Zc hE Za ld rfl fun a hE=>⟨_,_,rfl,hE,M.qKeep hM0 rfl,hI.2.put hD rfl ZR rfl⟩
    ·intro a w ux31 D hE hI hD hdc hp
     have d4 : D 4 = true:=hp 0 _ rfl rfl
     have g4:=hI.2 4 d4 _ rfl
     have f4 : ux31 4 = (ptr pb0 0):=g4.2
     have hM0:=hI.1
     have hM : M St W w [raw b11 (cat [[vI r17.2],enc r19.2,enc s26.1,enc r9.Places,[vI r9.Rounds]]),raw b1 (cat [[vI 0],enc (Vector.replicate 256 (0 : UInt8)),enc (Vector.replicate 4 (Vector.replicate 4 (0 : UInt8))),enc (Vector.replicate 16 (0 : UInt8)),[vI 0]]),R,tog (D 1) (raw pb0 (cat [[v0_0],[vI s26.2.1],[(Value.int .u64 s26.2.2.1)]])) (tog (D 3) (raw pb0 (cat [[v0_0],[vI r32.1.1],[(Value.int .u64 r32.1.2)]])) (tog (D 5) (raw pb0 (cat [[v0_0],[vI r34.1.1],[(Value.int .u64 r34.1.2)]])) (raw pb0 (cat [[v0_0],[vI r36.1.1],[(Value.int .u64 r36.1.2)]]))))]:=hI.1
     have dC3 : D 3 = true:=hp 1 _ rfl rfl
     have dC1 : D 1 = true:=hdc 3 _ _ rfl (List.mem_of_getElem? (i:=1) rfl) rfl dC3
     have hM:=M.tailP (m:=[_]) ((((hM.togB (pre:=[_,_,_]) dC1).togB (pre:=[_,_,_]) dC3).togA (pre:=[_,_,_]) hD).pull (pre:=[_,_,_]))
     refine Zo hE Za ld (Z1 (ZX (lk rfl f4) (ZX rfl Xg))) VD (ZH _ _ _ _ pb0 p0_0 v0_0 hv0_0 (r34.1.1,r34.1.2) 256 hM r36 e37) ?_
     rintro v w a ⟨rfl,hM⟩ hE
     have hM:=M.tailU (m:=[_]) hM
     simp only [List.cons_append,List.nil_append] at hM
     exact ⟨_,_,rfl,hE,M.qTogS (p:=([1,3,5],fun bs _=>(tog (bs.getD 0 false) (raw pb0 (cat [[v0_0],[vI s26.2.1],[(Value.int .u64 s26.2.2.1)]])) (tog (bs.getD 1 false) (raw pb0 (cat [[v0_0],[vI r32.1.1],[(Value.int .u64 r32.1.2)]])) (tog (bs.getD 2 false) (raw pb0 (cat [[v0_0],[vI r34.1.1],[(Value.int .u64 r34.1.2)]])) (raw pb0 (cat [[v0_0],[vI r36.1.1],[(Value.int .u64 r36.1.2)]]))))))) (mk1:=[]) (mk2:=[]) hM rfl (by show tog (Yl D 5 1) (raw pb0 (cat [[v0_0],[vI s26.2.1],[(Value.int .u64 s26.2.2.1)]])) (tog (Yl D 5 3) (raw pb0 (cat [[v0_0],[vI r32.1.1],[(Value.int .u64 r32.1.2)]])) (tog (Yl D 5 5) (raw pb0 (cat [[v0_0],[vI r34.1.1],[(Value.int .u64 r34.1.2)]])) (raw pb0 (cat [[v0_0],[vI r36.1.1],[(Value.int .u64 r36.1.2)]])))) = _; rw [tg1 (K8 dC1),tg1 (K8 dC3),tg1 KF]),hI.2.put hD rfl ZR rfl⟩
    ·intro a w ux31 D hE hI hD hdc hp
     have d5 : D 5 = true:=hp 0 _ rfl rfl
     have g5:=hI.2 5 d5 _ rfl
     have f5 : ux31 5 = (vI r36.2):=g5.2
     have hM0:=hI.1
     refine Yg hE Za ld (lk rfl f5) Try.underlying2 Try.underlying5 ?_; intro a hE
     rw [Z6] at hE
     exact ⟨_,_,rfl,hE,M.qKeep hM0 rfl,hI.2.put hD rfl ZR rfl⟩
    ·intro a w ux31 D hE hI hD hdc hp
     have hM0:=hI.1
     exact Zr hE Za ld rfl (TF) fun a hE=>⟨_,_,rfl,hE,M.qKeep hM0 rfl,hI.2.put hD rfl ZR rfl⟩
    ·intro a w ux31 D hE hI hD hdc hp
     have d1 : D 1 = true:=hp 1 _ rfl rfl
     have g1:=hI.2 1 d1 _ rfl
     have f1 : ux31 1 = (vI r32.2):=g1.2
     have d7 : D 7 = true:=hp 0 _ rfl rfl
     have g7:=hI.2 7 d7 _ rfl
     have f7 : ux31 7 = (ptr b11 (0 + 257)):=g7.2
     have hM0:=hI.1
     exact Zh hE Za ld (lk rfl f7) (lk rfl f1) Try.underlying57 Yr hi38.1 fun a hE=>⟨_,_,rfl,hE,M.qKeep hM0 rfl,hI.2.put hD rfl ZR rfl⟩
    ·intro a w ux31 D hE hI hall
     have hM:=hI.1
     have d0 : D 0 = true:=hall 0 (by decide)
     have d1 : D 1 = true:=hall 1 (by decide)
     have d2 : D 2 = true:=hall 2 (by decide)
     have d3 : D 3 = true:=hall 3 (by decide)
     have d4 : D 4 = true:=hall 4 (by decide)
     have d5 : D 5 = true:=hall 5 (by decide)
     have d6 : D 6 = true:=hall 6 (by decide)
     have d7 : D 7 = true:=hall 7 (by decide)
     have d8 : D 8 = true:=hall 8 (by decide)
     have f0 : ux31 0 = (ptr pb0 0):=(hI.2 0 d0 _ rfl).2
     have f1 : ux31 1 = (vI r32.2):=(hI.2 1 d1 _ rfl).2
     have f2 : ux31 2 = (ptr pb0 0):=(hI.2 2 d2 _ rfl).2
     have f3 : ux31 3 = (vI r34.2):=(hI.2 3 d3 _ rfl).2
     have f4 : ux31 4 = (ptr pb0 0):=(hI.2 4 d4 _ rfl).2
     have f5 : ux31 5 = (vI r36.2):=(hI.2 5 d5 _ rfl).2
     have f6 : ux31 6 = (vB (ZE r36.2)):=(hI.2 6 d6 _ rfl).2
     have f7 : ux31 7 = (ptr b11 (0 + 257)):=(hI.2 7 d7 _ rfl).2
     have f8 : ux31 8 = (ptr b11 (0 + 257 + (r32.2).toNat * 4)):=(hI.2 8 d8 _ rfl).2
     have hM:=((hM.togB (pre:=[_,_,_]) d1).togB (pre:=[_,_,_]) d3).togB (pre:=[_,_,_]) d5
     have hE:=hE.sub (e':=[(36,vI r34.2),(39,(vB (ZE r36.2))),(41,(ptr b11 (0 + 257 + (r32.2).toNat * 4))),(0,(ptr pb0 0)),(2,(ptr b1 0)),(3,(ptr b11 0)),(4,vI s26.2.2.2),(29,vI s26.2.2.2),(30,(vT (decide (s26.2.2.2 > 0))))]) ⟨lk rfl f3,lk rfl f6,lk rfl f8,rfl,rfl,rfl,rfl,rfl,rfl,trivial⟩
     obtain ⟨x42,hi41,hs27⟩:=bvx hs27
     refine Zh hE Za ld rfl rfl Try.underlying55 ty5 hi41.1 fun a hE=>Zi (seg:=[(vB (ZE r36.2))]) (cs':=cat [[vI r17.2],enc r19.2,enc (s26.1.setIfInBounds (r32.2).toNat (x39.setIfInBounds (r34.2).toNat (ZE r36.2))),enc r9.Places,[vI r9.Rounds]]) hE hM Za rfl rfl rfl ty5 rfl (U3 (o':=(r32.2).toNat * 4 + (0 + (r34.2).toNat * 1)) (pre:=[[vI r17.2],enc r19.2]) (seg:=enc s26.1) (post:=[enc r9.Places,[vI r9.Rounds]]) (cl1 (n:=1) (m:=256) rfl (cl1 (n:=256) (m:=0) (Flat.len _) cl0)) (We (o':=0 + (r34.2).toNat * 1) hi38 (ZN (v:=x39) (x:=ZE r36.2) hi41.1) (by first | omega | (simp only [Flat.n] <;> omega))) (by first | omega | (simp only [Flat.n] <;> omega))) (Flat.cell (ZE r36.2 : UInt8)) (Vd (o':=(r32.2).toNat * 4 + (0 + (r34.2).toNat * 1)) (pre:=[[vI r17.2],enc r19.2]) (seg:=enc s26.1) (post:=[enc r9.Places,[vI r9.Rounds]]) (cl1 (n:=1) (m:=256) rfl (cl1 (n:=256) (m:=0) (Flat.len _) cl0)) (We (o':=0 + (r34.2).toNat * 1) hi38 (ZN (v:=x39) (x:=ZE r36.2) hi41.1) (by first | omega | (simp only [Flat.n] <;> omega))) (YX (o':=0 + (r34.2).toNat * 1) hi38 (ZN (v:=x39) (x:=ZE r36.2) hi41.1) (ZD (v:=x39) (x:=ZE r36.2) hi41.1) (by first | omega | (simp only [Flat.n] <;> omega))) (by first | omega | (simp only [Flat.n] <;> omega))) fun w a hM hE=>Zk (Yj (ZG (wp_region_lit (Zc hE Za ld rfl fun a hE=>Zm hE Za ld rfl rfl rfl fun a hE=>Ze hE Za ld rfl fun a hE=>Zk (Zn ?_)))))
     have hM:=(((hM.pull (pre:=[_,_])).pull (pre:=[_,_])).pull (pre:=[_,_])).pull (pre:=[_,_,_])
     exact ⟨_,(ois hs27),hE.sub ⟨rfl,rfl,rfl,rfl,trivial⟩,hM⟩
   ·intro hb30
    have hs27:=ZA hs27 hb30
    refine wp_exit (Zs (Zs (Yz ?_)))
    have ht44:=hx28 _ (ois hs27)
    subst ht44
    refine Zn ?_
    exact ⟨hE.sub ⟨rfl,rfl,rfl,trivial⟩,hM⟩
  ·skip
   rintro a w ⟨hE,hM⟩
   refine ZG ?_
   obtain ⟨j45,hl46,hF47⟩:=bind_some hF25
   refine ZT (fun a w=>Env 82 a [(0,(ptr pb0 0)),(2,(ptr b1 0)),(3,(ptr b11 0))] ∧ M St W w [raw pb0 (cat [[v0_0],[vI j45.2.1],[(Value.int .u64 j45.2.2)]]),raw b11 (cat [[vI r17.2],enc r19.2,enc j45.1,enc r9.Places,[vI r9.Rounds]]),raw b1 (cat [[vI 0],enc (Vector.replicate 256 (0 : UInt8)),enc (Vector.replicate 4 (Vector.replicate 4 (0 : UInt8))),enc (Vector.replicate 16 (0 : UInt8)),[vI 0]]),R]) ?_ ?_
   ·skip
    refine Zd (Zr hE Za ld rfl (Tg) fun a hE=>ZF (v:=(vI r17.2)) hE Za ld rfl ty2 rfl (At.cat (pre:=[]) (hM.rawAt (pre:=[_])) cl0) fun a hE=>Zr hE Za ld rfl (TF) fun a hE=>Zj (cs:=enc j23.1) hE Za ld rfl Y7 rfl (At.cat (pre:=[[vI r17.2],enc r19.2]) (hM.rawAt (pre:=[_])) (cl1 (n:=1) (m:=256) rfl (cl1 (n:=256) (m:=0) (Flat.len _) cl0))) (Flat.len _) ?_); intro a hE
    obtain ⟨r48,e49,hl46⟩:=bind_some hl46
    refine Zo hE Za ld rfl y0 (Ta _ r17.2 j23.1 r48 e49) ?_
    rintro v w a ⟨rfl,hK⟩ hE
    have hM:=hM.keep hK
    refine Zc hE Za ld rfl fun a hE=>Zy hE Za ld rfl rfl fun a hE=>Zy hE Za ld rfl rfl fun a hE=>Zu hE hM Za ld Y7 fun b50 w a hM hE=>Zi (seg:=enc r48.1) (cs':=enc r48.1) hE hM Za rfl rfl rfl Y7 (Flat.len _) (zle flq) (Flat.cell _) (Zg flq) fun w a hM hE=>Ze hE Za ld rfl fun a hE=>Zf (Zd (Zc hE Za ld rfl fun a hE=>UT hE Za ld rfl fun a hE=>Zf ?_))
    refine Zv hE rfl ?_ ?_
    ·intro hb52
     have hl46:=ZB hl46 hb52
     refine wp_region_lit (Z7 (parts:=[(0,.const (vB 1))]) (vs:=[(0,vB 1)]) (cs:=enc ((Vector.replicate 4 (0 : UInt8)).setIfInBounds 0 1)) hE Za ld rfl rfl Yr rfl ty5 (Ye (v:=(Vector.replicate 4 (0 : UInt8))) (x:=1) rfl (by decide) rfl ZZ) fun a hE=>Z7 (parts:=[(0,.const (vB 0)),(1,.const (vB 1))]) (vs:=[(0,vB 0),(1,vB 1)]) (cs:=enc (((Vector.replicate 4 (0 : UInt8)).setIfInBounds 0 0).setIfInBounds 1 1)) hE Za ld rfl rfl Yr rfl ty5 (Ye (v:=(Vector.replicate 4 (0 : UInt8))) (x:=0) rfl (by decide) rfl (Ye (v:=((Vector.replicate 4 (0 : UInt8)).setIfInBounds 0 0)) (x:=1) rfl (by decide) rfl ZZ)) fun a hE=>Z7 (parts:=[(0,.const (vB 0)),(1,.const (vB 0)),(2,.const (vB 1))]) (vs:=[(0,vB 0),(1,vB 0),(2,vB 1)]) (cs:=enc ((((Vector.replicate 4 (0 : UInt8)).setIfInBounds 0 0).setIfInBounds 1 0).setIfInBounds 2 1)) hE Za ld rfl rfl Yr rfl ty5 (Ye (v:=(Vector.replicate 4 (0 : UInt8))) (x:=0) rfl (by decide) rfl (Ye (v:=((Vector.replicate 4 (0 : UInt8)).setIfInBounds 0 0)) (x:=0) rfl (by decide) rfl (Ye (v:=(((Vector.replicate 4 (0 : UInt8)).setIfInBounds 0 0).setIfInBounds 1 0)) (x:=1) rfl (by decide) rfl ZZ))) fun a hE=>Zc hE Za ld rfl ?_); intro a hE
     have hM:=M.tailP (m:=[_]) (hM.pull (pre:=[_]))
     obtain ⟨r53,e54,hl46⟩:=bind_some hl46
     refine Zo hE Za ld rfl VD (ZH _ _ _ _ pb0 p0_0 v0_0 hv0_0 (j23.2.1,j23.2.2) 256 hM r53 e54) ?_
     rintro v w a ⟨rfl,hM⟩ hE
     have hM:=M.tailU (m:=[_]) hM
     simp only [List.cons_append,List.nil_append] at hM
     refine Yg hE Za ld rfl Try.underlying2 Try.underlying5 ?_; intro a hE
     rw [Z6] at hE
     refine Z7 (parts:=[(0,.tmp 58),(1,.const (vB 0)),(2,.const (vB 0)),(3,.const (vB 1))]) (vs:=[(0,(vB (ZE r53.2))),(1,vB 0),(2,vB 0),(3,vB 1)]) (cs:=enc (((((Vector.replicate 4 (0 : UInt8)).setIfInBounds 0 (ZE r53.2)).setIfInBounds 1 0).setIfInBounds 2 0).setIfInBounds 3 1)) hE Za ld rfl rfl Yr rfl ty5 (Ye (v:=(Vector.replicate 4 (0 : UInt8))) (x:=ZE r53.2) rfl (by decide) rfl (Ye (v:=((Vector.replicate 4 (0 : UInt8)).setIfInBounds 0 (ZE r53.2))) (x:=0) rfl (by decide) rfl (Ye (v:=(((Vector.replicate 4 (0 : UInt8)).setIfInBounds 0 (ZE r53.2)).setIfInBounds 1 0)) (x:=0) rfl (by decide) rfl (Ye (v:=((((Vector.replicate 4 (0 : UInt8)).setIfInBounds 0 (ZE r53.2)).setIfInBounds 1 0).setIfInBounds 2 0)) (x:=1) rfl (by decide) rfl ZZ)))) fun a hE=>Z7 (parts:=[(0,.tmp 53),(1,.tmp 54),(2,.tmp 55),(3,.tmp 59)]) (vs:=[(0,(Value.agg (enc ((Vector.replicate 4 (0 : UInt8)).setIfInBounds 0 1)).toArray)),(1,(Value.agg (enc (((Vector.replicate 4 (0 : UInt8)).setIfInBounds 0 0).setIfInBounds 1 1)).toArray)),(2,(Value.agg (enc ((((Vector.replicate 4 (0 : UInt8)).setIfInBounds 0 0).setIfInBounds 1 0).setIfInBounds 2 1)).toArray)),(3,(Value.agg (enc (((((Vector.replicate 4 (0 : UInt8)).setIfInBounds 0 (ZE r53.2)).setIfInBounds 1 0).setIfInBounds 2 0).setIfInBounds 3 1)).toArray))]) (cs:=enc (((((Vector.replicate 4 (Vector.replicate 4 (0 : UInt8))).setIfInBounds 0 ((Vector.replicate 4 (0 : UInt8)).setIfInBounds 0 1)).setIfInBounds 1 (((Vector.replicate 4 (0 : UInt8)).setIfInBounds 0 0).setIfInBounds 1 1)).setIfInBounds 2 ((((Vector.replicate 4 (0 : UInt8)).setIfInBounds 0 0).setIfInBounds 1 0).setIfInBounds 2 1)).setIfInBounds 3 (((((Vector.replicate 4 (0 : UInt8)).setIfInBounds 0 (ZE r53.2)).setIfInBounds 1 0).setIfInBounds 2 0).setIfInBounds 3 1))) hE Za ld rfl rfl Y7 rfl Yr (Ye (v:=(Vector.replicate 4 (Vector.replicate 4 (0 : UInt8)))) (x:=((Vector.replicate 4 (0 : UInt8)).setIfInBounds 0 1)) rfl (by decide) rfl (Ye (v:=((Vector.replicate 4 (Vector.replicate 4 (0 : UInt8))).setIfInBounds 0 ((Vector.replicate 4 (0 : UInt8)).setIfInBounds 0 1))) (x:=(((Vector.replicate 4 (0 : UInt8)).setIfInBounds 0 0).setIfInBounds 1 1)) rfl (by decide) rfl (Ye (v:=(((Vector.replicate 4 (Vector.replicate 4 (0 : UInt8))).setIfInBounds 0 ((Vector.replicate 4 (0 : UInt8)).setIfInBounds 0 1)).setIfInBounds 1 (((Vector.replicate 4 (0 : UInt8)).setIfInBounds 0 0).setIfInBounds 1 1))) (x:=((((Vector.replicate 4 (0 : UInt8)).setIfInBounds 0 0).setIfInBounds 1 0).setIfInBounds 2 1)) rfl (by decide) rfl (Ye (v:=((((Vector.replicate 4 (Vector.replicate 4 (0 : UInt8))).setIfInBounds 0 ((Vector.replicate 4 (0 : UInt8)).setIfInBounds 0 1)).setIfInBounds 1 (((Vector.replicate 4 (0 : UInt8)).setIfInBounds 0 0).setIfInBounds 1 1)).setIfInBounds 2 ((((Vector.replicate 4 (0 : UInt8)).setIfInBounds 0 0).setIfInBounds 1 0).setIfInBounds 2 1))) (x:=(((((Vector.replicate 4 (0 : UInt8)).setIfInBounds 0 (ZE r53.2)).setIfInBounds 1 0).setIfInBounds 2 0).setIfInBounds 3 1)) rfl (by decide) rfl ZZ)))) fun a hE=>Zr hE Za ld rfl (TF) ?_; intro a hE
     have hM:=hM.pull (pre:=[_,_])
     refine Zi (seg:=enc (((((Vector.replicate 4 (Vector.replicate 4 (0 : UInt8))).setIfInBounds 0 ((Vector.replicate 4 (0 : UInt8)).setIfInBounds 0 1)).setIfInBounds 1 (((Vector.replicate 4 (0 : UInt8)).setIfInBounds 0 0).setIfInBounds 1 1)).setIfInBounds 2 ((((Vector.replicate 4 (0 : UInt8)).setIfInBounds 0 0).setIfInBounds 1 0).setIfInBounds 2 1)).setIfInBounds 3 (((((Vector.replicate 4 (0 : UInt8)).setIfInBounds 0 (ZE r53.2)).setIfInBounds 1 0).setIfInBounds 2 0).setIfInBounds 3 1))) hE hM Za rfl rfl rfl Y7 (Flat.len _) (UX (pre:=[[vI r17.2],enc r19.2]) (cl1 (n:=1) (m:=256) rfl (cl1 (n:=256) (m:=0) (Flat.len _) cl0)) flq) (Flat.cell _) (WL (pre:=[[vI r17.2],enc r19.2]) (cl1 (n:=1) (m:=256) rfl (cl1 (n:=256) (m:=0) (Flat.len _) cl0)) flq) fun w a hM hE=>Zk ?_
     have ht55:=Option.some.inj hl46
     subst ht55
     refine Zn ?_
     have hM:=(((((hM.pull (pre:=[_,_,_,_])).pull (pre:=[_,_,_,_])).pull (pre:=[_,_])).pull (pre:=[_,_,_])).pull (pre:=[_,_,_,_])).drop
     exact ⟨hE.sub ⟨rfl,rfl,rfl,trivial⟩,hM⟩
    ·intro hb52
     have hl46:=ZA hl46 hb52
     refine wp_skip ?_
     have ht56:=Option.some.inj hl46
     subst ht56
     refine Zn ?_
     have hM:=(((((hM.pull (pre:=[_,_,_,_])).pull (pre:=[_,_,_,_])).pull (pre:=[_,_,_,_])).pull (pre:=[_,_,_,_])).pull (pre:=[_,_,_,_])).drop
     exact ⟨hE.sub ⟨rfl,rfl,rfl,trivial⟩,hM⟩
   ·skip
    rintro a w ⟨hE,hM⟩
    refine Zd (Zc hE Za ld rfl ?_); intro a hE
    have hM:=M.tailP (m:=[_]) hM
    obtain ⟨r57,e58,hF47⟩:=bind_some hF47
    refine Zo hE Za ld rfl VD (ZH _ _ _ _ pb0 p0_0 v0_0 hv0_0 (j45.2.1,j45.2.2) 16 hM r57 e58) ?_
    rintro v w a ⟨rfl,hM⟩ hE
    have hM:=M.tailU (m:=[_]) hM
    simp only [List.cons_append,List.nil_append] at hM
    refine Zc hE Za ld rfl ?_; intro a hE
    have hM:=M.tailP (m:=[_]) hM
    obtain ⟨r59,e60,hF47⟩:=bind_some hF47
    refine Zo hE Za ld rfl VD (ZH _ _ _ _ pb0 p0_0 v0_0 hv0_0 (r57.1.1,r57.1.2) 16 hM r59 e60) ?_
    rintro v w a ⟨rfl,hM⟩ hE
    have hM:=M.tailU (m:=[_]) hM
    simp only [List.cons_append,List.nil_append] at hM
    refine Ze hE Za ld rfl fun a hE=>Ze hE Za ld rfl fun a hE=>Zf (Zd (Zc hE Za ld rfl fun a hE=>Zr hE Za ld rfl (U6) ?_)); intro a hE
    obtain ⟨x62,hi61,hF47⟩:=bvx hF47
    refine Zh hE Za ld rfl rfl Try.underlying59 ty5 hi61.1 fun a hE=>ZF (v:=(vB x62)) hE Za ld rfl ty5 rfl (At.vec (At.cat (pre:=[[vI r17.2],enc r19.2,enc j45.1]) (hM.rawAt (pre:=[_])) (cl1 (n:=1) (m:=272) rfl (cl1 (n:=256) (m:=16) (Flat.len _) (cl1 (n:=16) (m:=0) (Flat.len _) cl0)))) hi61.2) fun a hE=>Ze hE Za ld rfl fun a hE=>Zf (Zd (Zc hE Za ld rfl fun a hE=>Zc hE Za ld rfl fun a hE=>Zr hE Za ld rfl (U6) ?_)); intro a hE
    obtain ⟨x65,hi64,hF47⟩:=bvx hF47
    refine Zh hE Za ld rfl rfl Try.underlying59 ty5 hi64.1 fun a hE=>ZF (v:=(vB x65)) hE Za ld rfl ty5 rfl (At.vec (At.cat (pre:=[[vI r17.2],enc r19.2,enc j45.1]) (hM.rawAt (pre:=[_])) (cl1 (n:=1) (m:=272) rfl (cl1 (n:=256) (m:=16) (Flat.len _) (cl1 (n:=16) (m:=0) (Flat.len _) cl0)))) hi64.2) fun a hE=>Zr hE Za ld rfl (U6) ?_; intro a hE
    obtain ⟨x68,hi67,hF47⟩:=bvx hF47
    refine Zh hE Za ld rfl rfl Try.underlying59 ty5 hi67.1 ?_; intro a hE
    have hM:=hM.pull (pre:=[_])
    refine Zi (seg:=[vB x65]) (cs':=cat [[vI r17.2],enc r19.2,enc j45.1,enc (r9.Places.setIfInBounds (r57.2).toNat x65),[vI r9.Rounds]]) hE hM Za rfl rfl rfl ty5 rfl (U3 (o':=0 + (r57.2).toNat * 1) (pre:=[[vI r17.2],enc r19.2,enc j45.1]) (seg:=enc r9.Places) (post:=[[vI r9.Rounds]]) (cl1 (n:=1) (m:=272) rfl (cl1 (n:=256) (m:=16) (Flat.len _) (cl1 (n:=16) (m:=0) (Flat.len _) cl0))) (ZN (v:=r9.Places) (x:=x65) hi67.1) (by first | omega | (simp only [Flat.n] <;> omega))) (Flat.cell (x65 : UInt8)) (Vd (o':=0 + (r57.2).toNat * 1) (pre:=[[vI r17.2],enc r19.2,enc j45.1]) (seg:=enc r9.Places) (post:=[[vI r9.Rounds]]) (cl1 (n:=1) (m:=272) rfl (cl1 (n:=256) (m:=16) (Flat.len _) (cl1 (n:=16) (m:=0) (Flat.len _) cl0))) (ZN (v:=r9.Places) (x:=x65) hi67.1) (ZD (v:=r9.Places) (x:=x65) hi67.1) (by first | omega | (simp only [Flat.n] <;> omega))) fun w a hM hE=>Zf (Zd (Zc hE Za ld rfl fun a hE=>Zc hE Za ld rfl fun a hE=>Zr hE Za ld rfl (U6) ?_)); intro a hE
    obtain ⟨x71,hi70,hF47⟩:=bvx hF47
    refine Zh hE Za ld rfl rfl Try.underlying59 ty5 hi70.1 fun a hE=>Zi (seg:=[vB x62]) (cs':=cat [[vI r17.2],enc r19.2,enc j45.1,enc ((r9.Places.setIfInBounds (r57.2).toNat x65).setIfInBounds (r59.2).toNat x62),[vI r9.Rounds]]) hE hM Za rfl rfl rfl ty5 rfl (U3 (o':=0 + (r59.2).toNat * 1) (pre:=[[vI r17.2],enc r19.2,enc j45.1]) (seg:=enc (r9.Places.setIfInBounds (r57.2).toNat x65)) (post:=[[vI r9.Rounds]]) (cl1 (n:=1) (m:=272) rfl (cl1 (n:=256) (m:=16) (Flat.len _) (cl1 (n:=16) (m:=0) (Flat.len _) cl0))) (ZN (v:=(r9.Places.setIfInBounds (r57.2).toNat x65)) (x:=x62) hi70.1) (by first | omega | (simp only [Flat.n] <;> omega))) (Flat.cell (x62 : UInt8)) (Vd (o':=0 + (r59.2).toNat * 1) (pre:=[[vI r17.2],enc r19.2,enc j45.1]) (seg:=enc (r9.Places.setIfInBounds (r57.2).toNat x65)) (post:=[[vI r9.Rounds]]) (cl1 (n:=1) (m:=272) rfl (cl1 (n:=256) (m:=16) (Flat.len _) (cl1 (n:=16) (m:=0) (Flat.len _) cl0))) (ZN (v:=(r9.Places.setIfInBounds (r57.2).toNat x65)) (x:=x62) hi70.1) (ZD (v:=(r9.Places.setIfInBounds (r57.2).toNat x65)) (x:=x62) hi70.1) (by first | omega | (simp only [Flat.n] <;> omega))) fun w a hM hE=>Zf (Zd (Zj (cs:=enc (⟨r17.2,r19.2,j45.1,((r9.Places.setIfInBounds (r57.2).toNat x65).setIfInBounds (r59.2).toNat x62),r9.Rounds⟩ : GCipher)) hE Za ld rfl Z8 rfl (hM.rawAt (pre:=[])) (Zl (cl1 (n:=1) (m:=289) rfl (cl1 (n:=256) (m:=33) (Flat.len _) (cl1 (n:=16) (m:=17) (Flat.len _) (cl1 (n:=16) (m:=1) (Flat.len _) (cl1 (n:=1) (m:=0) rfl cl0)))))) ?_)); intro a hE
    have hM:=hM.pull (pre:=[_,_])
    refine Zi (seg:=cat [[(vI ((⟨r17.2,r19.2,j45.1,((r9.Places.setIfInBounds (r57.2).toNat x65).setIfInBounds (r59.2).toNat x62),r9.Rounds⟩ : GCipher).Field))],enc ((⟨r17.2,r19.2,j45.1,((r9.Places.setIfInBounds (r57.2).toNat x65).setIfInBounds (r59.2).toNat x62),r9.Rounds⟩ : GCipher).Box),enc ((⟨r17.2,r19.2,j45.1,((r9.Places.setIfInBounds (r57.2).toNat x65).setIfInBounds (r59.2).toNat x62),r9.Rounds⟩ : GCipher).Mix),enc ((⟨r17.2,r19.2,j45.1,((r9.Places.setIfInBounds (r57.2).toNat x65).setIfInBounds (r59.2).toNat x62),r9.Rounds⟩ : GCipher).Places),[(vI ((⟨r17.2,r19.2,j45.1,((r9.Places.setIfInBounds (r57.2).toNat x65).setIfInBounds (r59.2).toNat x62),r9.Rounds⟩ : GCipher).Rounds))]]) (cs':=cat [[(vI ((⟨r17.2,r19.2,j45.1,((r9.Places.setIfInBounds (r57.2).toNat x65).setIfInBounds (r59.2).toNat x62),r9.Rounds⟩ : GCipher).Field))],enc ((⟨r17.2,r19.2,j45.1,((r9.Places.setIfInBounds (r57.2).toNat x65).setIfInBounds (r59.2).toNat x62),r9.Rounds⟩ : GCipher).Box),enc ((⟨r17.2,r19.2,j45.1,((r9.Places.setIfInBounds (r57.2).toNat x65).setIfInBounds (r59.2).toNat x62),r9.Rounds⟩ : GCipher).Mix),enc ((⟨r17.2,r19.2,j45.1,((r9.Places.setIfInBounds (r57.2).toNat x65).setIfInBounds (r59.2).toNat x62),r9.Rounds⟩ : GCipher).Places),[(vI ((⟨r17.2,r19.2,j45.1,((r9.Places.setIfInBounds (r57.2).toNat x65).setIfInBounds (r59.2).toNat x62),r9.Rounds⟩ : GCipher).Rounds))]]) hE hM Za rfl rfl rfl Z8 (Zl (cl1 (n:=1) (m:=289) rfl (cl1 (n:=256) (m:=33) (Flat.len _) (cl1 (n:=16) (m:=17) (Flat.len _) (cl1 (n:=16) (m:=1) (Flat.len _) (cl1 (n:=1) (m:=0) rfl cl0)))))) (Nat.le_of_eq ((Nat.zero_add _).trans (Eq.trans (Zl (cl1 (n:=1) (m:=289) rfl (cl1 (n:=256) (m:=33) (Flat.len _) (cl1 (n:=16) (m:=17) (Flat.len _) (cl1 (n:=16) (m:=1) (Flat.len _) (cl1 (n:=1) (m:=0) rfl cl0)))))) (Eq.symm (Zl (cl1 (n:=1) (m:=289) rfl (cl1 (n:=256) (m:=33) (Flat.len _) (cl1 (n:=16) (m:=17) (Flat.len _) (cl1 (n:=16) (m:=1) (Flat.len _) (cl1 (n:=1) (m:=0) rfl cl0)))))))))) (Yq (cc1 (Flat.cell ((⟨r17.2,r19.2,j45.1,((r9.Places.setIfInBounds (r57.2).toNat x65).setIfInBounds (r59.2).toNat x62),r9.Rounds⟩ : GCipher).Field : Int)) (cc1 (Flat.cell _) (cc1 (Flat.cell _) (cc1 (Flat.cell _) (cc1 (Flat.cell ((⟨r17.2,r19.2,j45.1,((r9.Places.setIfInBounds (r57.2).toNat x65).setIfInBounds (r59.2).toNat x62),r9.Rounds⟩ : GCipher).Rounds : Int)) cc0)))))) (Zg (Eq.trans (Zl (cl1 (n:=1) (m:=289) rfl (cl1 (n:=256) (m:=33) (Flat.len _) (cl1 (n:=16) (m:=17) (Flat.len _) (cl1 (n:=16) (m:=1) (Flat.len _) (cl1 (n:=1) (m:=0) rfl cl0)))))) (Eq.symm (Zl (cl1 (n:=1) (m:=289) rfl (cl1 (n:=256) (m:=33) (Flat.len _) (cl1 (n:=16) (m:=17) (Flat.len _) (cl1 (n:=16) (m:=1) (Flat.len _) (cl1 (n:=1) (m:=0) rfl cl0))))))))) fun w a hM hE=>Zf ?_
    have hr:=Option.some.inj hF47
    subst hr
    have hq73 : ZY Try.prog _ _ (.cell 2 61) _:=ZM hE rfl Z8 rfl (hM.rawAt (pre:=[])) (Zl (cl1 (n:=1) (m:=289) rfl (cl1 (n:=256) (m:=33) (Flat.len _) (cl1 (n:=16) (m:=17) (Flat.len _) (cl1 (n:=16) (m:=1) (Flat.len _) (cl1 (n:=1) (m:=0) rfl cl0)))))) rfl
    have hM:=(((((hM.pull (pre:=[_,_,_])).pull (pre:=[_,_,_])).pull (pre:=[_,_,_])).drop).pull (pre:=[_,_])).drop
    exact wp_ret (ZK hE rfl hq73 ⟨_,rfl,rfl,hM⟩)
def VM (p0_0 : (List UInt8)) (p0 : (Int × Int)) (p1 : (List UInt8)) : Option ((Int × Int) × UInt8) :=
 (ZC p0_0 (p0.1,p0.2) (p1.length : Int)).bind fun r1=>(idx p1 r1.2).bind fun x3=>some ((r1.1.1,r1.1.2),x3)
theorem Hr (St : Nat → Prop) (W w0 : World) (R : Item) (pb0 : Nat) (p0_0 : (List UInt8)) (v0_0 : Value) (hv0_0 : Rep.sat St W p0_0 [v0_0] []) (p0 : (Int × Int)) (p1 : (List UInt8)) (v1 : Value) (hM : M St W w0 [raw pb0 (cat [[v0_0],[vI p0.1],[(Value.int .u64 p0.2)]]),osl NoB (p1 : List UInt8) v1,R]) (r : (Int × Int) × UInt8) (hF : VM p0_0 p0 p1 = some r) :
  Calls Try.prog 206 [(ptr pb0 0),v1].toArray w0 (fun en w'=>∃ v,en = .returned v ∧ (v = (vB r.2) ∧ M St W w' [raw pb0 (cat [[v0_0],[vI r.1.1],[(Value.int .u64 r.1.2)]]),osl NoB (p1 : List UInt8) v1,R])):=by
 refine ZJ (n:=12) Try.func206 rfl rfl (nbl rfl) rfl ?_
 intro a hE
 unfold VM at hF
 refine Zd (Ze hE Za ld rfl fun a hE=>Zf (Zd (Zc hE Za ld rfl fun a hE=>Zc hE Za ld rfl fun a hE=>Zc hE Za ld rfl fun a hE=>UU hE Za ld rfl Try.underlying22 (hM.sl (pre:=[_]) noB) ?_))); intro a hE
 have hM:=M.tailP (m:=[_]) hM
 obtain ⟨r1,e2,hF⟩:=bind_some hF
 refine Zo hE Za ld rfl VD (ZH _ _ _ _ pb0 p0_0 v0_0 hv0_0 (p0.1,p0.2) (p1.length : Int) hM r1 e2) ?_
 rintro v w a ⟨rfl,hM⟩ hE
 have hM:=M.tailU (m:=[_]) hM
 simp only [List.cons_append,List.nil_append] at hM
 obtain ⟨x3,hi5,hF⟩:=bix hF
 refine Yv hE Za ld rfl rfl Try.underlying22 ty5 (hM.sl (pre:=[_]) noB) hi5.1 fun a hE=>ZF (v:=(vB x3)) hE Za ld rfl ty5 rfl (X9 (hM.sl (pre:=[_]) noB) hi5.2) fun a hE=>Ze hE Za ld rfl fun a hE=>Zf ?_
 have hr:=Option.some.inj hF
 subst hr
 exact wp_ret (ZK hE rfl (Zx hE rfl) ⟨_,rfl,rfl,hM⟩)
def VP (p0_0 : (List UInt8)) (p0 : (Int × Int)) : Option ((Int × Int) × GCipher) :=
 (Ud p0_0 (p0.1,p0.2)).bind fun r3=>((ZC p0_0 (r3.1.1,r3.1.2) 24).bind fun r10=>(if (r10.2 == 0) = true then ((YZ p0_0 (r10.1.1,r10.1.2) ([256,511,0,512] : List Int)).bind fun r18=>some (r18.2,r3.2.Box,r3.2.Mix,r3.2.Places,r3.2.Rounds,r18.1.1,r18.1.2)) else (if (r10.2 == 1) = true then ((ZI r3.2.Box (1 : Int)).bind fun x23=>(ZI r3.2.Box (0 : Int)).bind fun x26=>some (r3.2.Field,(r3.2.Box.setIfInBounds ((0 : Int)).toNat x23),r3.2.Mix,r3.2.Places,r3.2.Rounds,r10.1.1,r10.1.2)) else (if (r10.2 == 2) = true then ((ZI r3.2.Mix (1 : Int)).bind fun x31=>(ZI r3.2.Mix (0 : Int)).bind fun x34=>some (r3.2.Field,r3.2.Box,(r3.2.Mix.setIfInBounds ((0 : Int)).toNat x31),r3.2.Places,r3.2.Rounds,r10.1.1,r10.1.2)) else (if (r10.2 == 3) = true then ((VM p0_0 (r10.1.1,r10.1.2) ([16,1,255] : List UInt8)).bind fun r40=>(ZI r3.2.Places (0 : Int)).bind fun x43=>(ZI (r3.2.Places.setIfInBounds ((0 : Int)).toNat r40.2) (0 : Int)).bind fun x46=>(ZI (r3.2.Places.setIfInBounds ((0 : Int)).toNat r40.2) (1 : Int)).bind fun x49=>some (r3.2.Field,r3.2.Box,r3.2.Mix,((r3.2.Places.setIfInBounds ((0 : Int)).toNat r40.2).setIfInBounds ((1 : Int)).toNat x46),r3.2.Rounds,r40.1.1,r40.1.2)) else (if (r10.2 == 4) = true then ((YZ p0_0 (r10.1.1,r10.1.2) ([0,21,(-1)] : List Int)).bind fun r55=>some (r3.2.Field,r3.2.Box,r3.2.Mix,r3.2.Places,r55.2,r55.1.1,r55.1.2)) else (some (r3.2.Field,r3.2.Box,r3.2.Mix,r3.2.Places,r3.2.Rounds,r10.1.1,r10.1.2)))))) : Option (Int × (Vector UInt8 256) × (Vector (Vector UInt8 4) 4) × (Vector UInt8 16) × Int × Int × Int)).bind fun j12=>some (j12.1,j12.2.1,j12.2.2.1,j12.2.2.2.1,j12.2.2.2.2.1,j12.2.2.2.2.2.1,j12.2.2.2.2.2.2) : Option (Int × (Vector UInt8 256) × (Vector (Vector UInt8 4) 4) × (Vector UInt8 16) × Int × Int × Int)).bind fun j7=>some ((j7.2.2.2.2.2.1,j7.2.2.2.2.2.2),(⟨j7.1,j7.2.1,j7.2.2.1,j7.2.2.2.1,j7.2.2.2.2.1⟩ : GCipher))
theorem Ht (St : Nat → Prop) (W w0 : World) (R : Item) (pb0 : Nat) (p0_0 : (List UInt8)) (v0_0 : Value) (hv0_0 : Rep.sat St W p0_0 [v0_0] []) (p0 : (Int × Int)) (hM : M St W w0 [raw pb0 (cat [[v0_0],[vI p0.1],[(Value.int .u64 p0.2)]]),R]) (r : (Int × Int) × GCipher) (hF : VP p0_0 p0 = some r) :
  Calls Try.prog 182 [(ptr pb0 0)].toArray w0 (fun en w'=>∃ v,en = .returned v ∧ (v = (Value.agg (enc r.2).toArray) ∧ M St W w' [raw pb0 (cat [[v0_0],[vI r.1.1],[(Value.int .u64 r.1.2)]]),R])):=by
 refine ZJ (n:=47) Try.func182 rfl rfl (nbl rfl) rfl ?_
 intro a hE
 unfold VP at hF
 refine Zd (Zu hE hM Za ld Z8 fun b1 w a hM hE=>Zf (Zd (Zc hE Za ld rfl ?_))); intro a hE
 have hM:=M.tailP (m:=[_]) (hM.pull (pre:=[_]))
 obtain ⟨r3,e4,hF⟩:=bind_some hF
 refine Zo hE Za ld rfl cb205 (Bk _ _ _ _ pb0 p0_0 v0_0 hv0_0 (p0.1,p0.2) hM r3 e4) ?_
 rintro v w a ⟨rfl,hM⟩ hE
 have hM:=M.tailU (m:=[_]) hM
 simp only [List.cons_append,List.nil_append] at hM
 refine Zu hE hM Za ld Z8 fun b5 w a hM hE=>Zi (seg:=cat [[vI r3.2.Field],enc r3.2.Box,enc r3.2.Mix,enc r3.2.Places,[vI r3.2.Rounds]]) (cs':=cat [[vI r3.2.Field],enc r3.2.Box,enc r3.2.Mix,enc r3.2.Places,[vI r3.2.Rounds]]) hE hM Za rfl rfl rfl Z8 (Zl (cl1 (n:=1) (m:=289) rfl (cl1 (n:=256) (m:=33) (Flat.len _) (cl1 (n:=16) (m:=17) (Flat.len _) (cl1 (n:=16) (m:=1) (Flat.len _) (cl1 (n:=1) (m:=0) rfl cl0)))))) (Nat.le_of_eq ((Nat.zero_add _).trans (Eq.trans (Zl (cl1 (n:=1) (m:=289) rfl (cl1 (n:=256) (m:=33) (Flat.len _) (cl1 (n:=16) (m:=17) (Flat.len _) (cl1 (n:=16) (m:=1) (Flat.len _) (cl1 (n:=1) (m:=0) rfl cl0)))))) (Eq.symm (Zl (cl1 (n:=1) (m:=289) rfl (cl1 (n:=256) (m:=33) (Flat.len _) (cl1 (n:=16) (m:=17) (Flat.len _) (cl1 (n:=16) (m:=1) (Flat.len _) (cl1 (n:=1) (m:=0) rfl cl0)))))))))) (Yq (cc1 (Flat.cell (r3.2.Field : Int)) (cc1 (Flat.cell _) (cc1 (Flat.cell _) (cc1 (Flat.cell _) (cc1 (Flat.cell (r3.2.Rounds : Int)) cc0)))))) (Zg (Eq.trans (Zl (cl1 (n:=1) (m:=289) rfl (cl1 (n:=256) (m:=33) (Flat.len _) (cl1 (n:=16) (m:=17) (Flat.len _) (cl1 (n:=16) (m:=1) (Flat.len _) (cl1 (n:=1) (m:=0) rfl cl0)))))) (Eq.symm (Zl (cl1 (n:=1) (m:=289) rfl (cl1 (n:=256) (m:=33) (Flat.len _) (cl1 (n:=16) (m:=17) (Flat.len _) (cl1 (n:=16) (m:=1) (Flat.len _) (cl1 (n:=1) (m:=0) rfl cl0))))))))) fun w a hM hE=>Zf ?_
 obtain ⟨j7,hl8,hF9⟩:=bind_some hF
 refine ZT (fun a w=>Env 47 a [(2,(ptr b1 0)),(3,(ptr b5 0))] ∧ M St W w [raw b5 (cat [[vI j7.1],enc j7.2.1,enc j7.2.2.1,enc j7.2.2.2.1,[vI j7.2.2.2.2.1]]),raw pb0 (cat [[v0_0],[vI j7.2.2.2.2.2.1],[(Value.int .u64 j7.2.2.2.2.2.2)]]),raw b1 (cat [[vI 0],enc (Vector.replicate 256 (0 : UInt8)),enc (Vector.replicate 4 (Vector.replicate 4 (0 : UInt8))),enc (Vector.replicate 16 (0 : UInt8)),[vI 0]]),R]) ?_ ?_
 ·skip
  refine Zd (Zc hE Za ld rfl ?_); intro a hE
  have hM:=M.tailP (m:=[_]) (hM.pull (pre:=[_]))
  obtain ⟨r10,e11,hl8⟩:=bind_some hl8
  refine Zo hE Za ld rfl VD (ZH _ _ _ _ pb0 p0_0 v0_0 hv0_0 (r3.1.1,r3.1.2) 24 hM r10 e11) ?_
  rintro v w a ⟨rfl,hM⟩ hE
  have hM:=M.tailU (m:=[_]) hM
  simp only [List.cons_append,List.nil_append] at hM
  refine Zf (wp_block (Zd (Zm hE Za ld rfl rfl rfl fun a hE=>Ze hE Za ld rfl fun a hE=>Zf ?_)))
  obtain ⟨j12,hl13,hF14⟩:=bind_some hl8
  refine Z0 (fun a w=>Env 47 a [(2,(ptr b1 0)),(3,(ptr b5 0))] ∧ M St W w [raw pb0 (cat [[v0_0],[vI j12.2.2.2.2.2.1],[(Value.int .u64 j12.2.2.2.2.2.2)]]),raw b5 (cat [[vI j12.1],enc j12.2.1,enc j12.2.2.1,enc j12.2.2.2.1,[vI j12.2.2.2.2.1]]),raw b1 (cat [[vI 0],enc (Vector.replicate 256 (0 : UInt8)),enc (Vector.replicate 4 (Vector.replicate 4 (0 : UInt8))),enc (Vector.replicate 16 (0 : UInt8)),[vI 0]]),R]) ?_ ?_
  ·skip
   refine Zv hE rfl ?_ ?_
   ·intro hb15
    have hl13:=ZB hl13 hb15
    refine wp_region_lit (Zc hE Za ld rfl fun a hE=>YM (xs:=[.const (vI 256),.const (vI 511),.const (vI 0),.const (vI 512)]) (l:=([256,511,0,512] : List Int)) (vs:=[vI 256,vI 511,vI 0,vI 512]) hE hM Za ld rfl rfl Try.underlying138 ty2 rfl (by decide) rfl ?_); intro u16 w a hM hE
    have hM:=M.tailP (m:=[_,_]) (hM.pull (pre:=[_]))
    obtain ⟨r18,e19,hl13⟩:=bind_some hl13
    refine Zo hE Za ld rfl cb49 (Vs _ _ _ _ pb0 p0_0 v0_0 hv0_0 (r10.1.1,r10.1.2) ([256,511,0,512] : List Int) u16 hM r18 e19) ?_
    rintro v w a ⟨rfl,hM⟩ hE
    have hM:=M.tailU (m:=[_,_]) hM
    simp only [List.cons_append,List.nil_append] at hM
    refine Zr hE Za ld rfl (Tg) ?_; intro a hE
    have hM:=hM.pull (pre:=[_,_])
    refine Zi (seg:=[vI r18.2]) hE hM Za rfl rfl rfl ty2 rfl (UX (pre:=[]) cl0 rfl) (Flat.cell (r18.2 : Int)) (WL (pre:=[]) cl0 rfl) fun w a hM hE=>Zk ?_
    have ht20:=Option.some.inj hl13
    subst ht20
    refine Zn ?_
    have hM:=(((((hM.pull (pre:=[_,_,_,_])).pull (pre:=[_,_,_,_])).pull (pre:=[_,_])).pull (pre:=[_,_,_])).pull (pre:=[_,_,_,_])).drop
    exact ⟨hE.sub ⟨rfl,rfl,trivial⟩,hM⟩
   ·intro hb15
    have hl13:=ZA hl13 hb15
    refine Zd (Zm hE Za ld rfl rfl rfl fun a hE=>Ze hE Za ld rfl fun a hE=>Zf ?_)
    refine Zv hE rfl ?_ ?_
    ·intro hb21
     have hl13:=ZB hl13 hb21
     refine wp_region_lit (Zr hE Za ld rfl (TX) ?_); intro a hE
     obtain ⟨x23,hi22,hl13⟩:=bvx hl13
     refine Zh hE Za ld rfl rfl Try.underlying54 ty5 hi22.1 fun a hE=>ZF (v:=(vB x23)) hE Za ld rfl ty5 rfl (At.vec (At.cat (pre:=[[vI r3.2.Field]]) (hM.rawAt (pre:=[_])) (cl1 (n:=1) (m:=0) rfl cl0)) hi22.2) fun a hE=>Zr hE Za ld rfl (TX) ?_; intro a hE
     obtain ⟨x26,hi25,hl13⟩:=bvx hl13
     refine Zh hE Za ld rfl rfl Try.underlying54 ty5 hi25.1 ?_; intro a hE
     have hM:=hM.pull (pre:=[_])
     refine Zi (seg:=[vB x23]) (cs':=cat [[vI r3.2.Field],enc (r3.2.Box.setIfInBounds ((0 : Int)).toNat x23),enc r3.2.Mix,enc r3.2.Places,[vI r3.2.Rounds]]) hE hM Za rfl rfl rfl ty5 rfl (U3 (o':=0 + ((0 : Int)).toNat * 1) (pre:=[[vI r3.2.Field]]) (seg:=enc r3.2.Box) (post:=[enc r3.2.Mix,enc r3.2.Places,[vI r3.2.Rounds]]) (cl1 (n:=1) (m:=0) rfl cl0) (ZN (v:=r3.2.Box) (x:=x23) hi25.1) (by first | omega | (simp only [Flat.n] <;> omega))) (Flat.cell (x23 : UInt8)) (Vd (o':=0 + ((0 : Int)).toNat * 1) (pre:=[[vI r3.2.Field]]) (seg:=enc r3.2.Box) (post:=[enc r3.2.Mix,enc r3.2.Places,[vI r3.2.Rounds]]) (cl1 (n:=1) (m:=0) rfl cl0) (ZN (v:=r3.2.Box) (x:=x23) hi25.1) (ZD (v:=r3.2.Box) (x:=x23) hi25.1) (by first | omega | (simp only [Flat.n] <;> omega))) fun w a hM hE=>Zk ?_
     have ht28:=Option.some.inj hl13
     subst ht28
     refine Zn ?_
     have hM:=(((hM.pull (pre:=[_,_,_])).pull (pre:=[_,_,_])).pull (pre:=[_,_])).pull (pre:=[_,_,_])
     exact ⟨hE.sub ⟨rfl,rfl,trivial⟩,hM⟩
    ·intro hb21
     have hl13:=ZA hl13 hb21
     refine Zd (Zm hE Za ld rfl rfl rfl fun a hE=>Ze hE Za ld rfl fun a hE=>Zf ?_)
     refine Zv hE rfl ?_ ?_
     ·intro hb29
      have hl13:=ZB hl13 hb29
      refine wp_region_lit (Zr hE Za ld rfl (TF) ?_); intro a hE
      obtain ⟨x31,hi30,hl13⟩:=bvx hl13
      refine Zh hE Za ld rfl rfl Try.underlying57 Yr hi30.1 fun a hE=>Zj (cs:=enc x31) hE Za ld rfl Yr rfl (At.vec (At.cat (pre:=[[vI r3.2.Field],enc r3.2.Box]) (hM.rawAt (pre:=[_])) (cl1 (n:=1) (m:=256) rfl (cl1 (n:=256) (m:=0) (Flat.len _) cl0))) hi30.2) (Flat.len _) fun a hE=>Zr hE Za ld rfl (TF) ?_; intro a hE
      obtain ⟨x34,hi33,hl13⟩:=bvx hl13
      refine Zh hE Za ld rfl rfl Try.underlying57 Yr hi33.1 ?_; intro a hE
      have hM:=hM.pull (pre:=[_])
      refine Zi (seg:=enc x31) (cs':=cat [[vI r3.2.Field],enc r3.2.Box,enc (r3.2.Mix.setIfInBounds ((0 : Int)).toNat x31),enc r3.2.Places,[vI r3.2.Rounds]]) hE hM Za rfl rfl rfl Yr (Flat.len _) (U3 (o':=0 + ((0 : Int)).toNat * 4) (pre:=[[vI r3.2.Field],enc r3.2.Box]) (seg:=enc r3.2.Mix) (post:=[enc r3.2.Places,[vI r3.2.Rounds]]) (cl1 (n:=1) (m:=256) rfl (cl1 (n:=256) (m:=0) (Flat.len _) cl0)) (ZN (v:=r3.2.Mix) (x:=x31) hi33.1) (by first | omega | (simp only [Flat.n] <;> omega))) (Flat.cell _) (Vd (o':=0 + ((0 : Int)).toNat * 4) (pre:=[[vI r3.2.Field],enc r3.2.Box]) (seg:=enc r3.2.Mix) (post:=[enc r3.2.Places,[vI r3.2.Rounds]]) (cl1 (n:=1) (m:=256) rfl (cl1 (n:=256) (m:=0) (Flat.len _) cl0)) (ZN (v:=r3.2.Mix) (x:=x31) hi33.1) (ZD (v:=r3.2.Mix) (x:=x31) hi33.1) (by first | omega | (simp only [Flat.n] <;> omega))) fun w a hM hE=>Zk ?_
      have ht36:=Option.some.inj hl13
      subst ht36
      refine Zn ?_
      have hM:=(((hM.pull (pre:=[_,_,_])).pull (pre:=[_,_,_])).pull (pre:=[_,_])).pull (pre:=[_,_,_])
      exact ⟨hE.sub ⟨rfl,rfl,trivial⟩,hM⟩
     ·intro hb29
      have hl13:=ZA hl13 hb29
      refine Zd (Zm hE Za ld rfl rfl rfl fun a hE=>Ze hE Za ld rfl fun a hE=>Zf ?_)
      refine Zv hE rfl ?_ ?_
      ·intro hb37
       have hl13:=ZB hl13 hb37
       refine Zd (Zc hE Za ld rfl fun a hE=>YM (xs:=[.const (vB 16),.const (vB 1),.const (vB 255)]) (l:=([16,1,255] : List UInt8)) (vs:=[vB 16,vB 1,vB 255]) hE hM Za ld rfl rfl Try.underlying22 ty5 rfl (by decide) rfl ?_); intro u38 w a hM hE
       have hM:=M.tailP (m:=[_,_]) (hM.pull (pre:=[_]))
       obtain ⟨r40,e41,hl13⟩:=bind_some hl13
       refine Zo hE Za ld rfl cb206 (Hr _ _ _ _ pb0 p0_0 v0_0 hv0_0 (r10.1.1,r10.1.2) ([16,1,255] : List UInt8) u38 hM r40 e41) ?_
       rintro v w a ⟨rfl,hM⟩ hE
       have hM:=M.tailU (m:=[_,_]) hM
       simp only [List.cons_append,List.nil_append] at hM
       refine Zr hE Za ld rfl (U6) ?_; intro a hE
       obtain ⟨x43,hi42,hl13⟩:=bvx hl13
       refine Zh hE Za ld rfl rfl Try.underlying59 ty5 hi42.1 ?_; intro a hE
       have hM:=hM.pull (pre:=[_,_])
       refine Zi (seg:=[vB r40.2]) (cs':=cat [[vI r3.2.Field],enc r3.2.Box,enc r3.2.Mix,enc (r3.2.Places.setIfInBounds ((0 : Int)).toNat r40.2),[vI r3.2.Rounds]]) hE hM Za rfl rfl rfl ty5 rfl (U3 (o':=0 + ((0 : Int)).toNat * 1) (pre:=[[vI r3.2.Field],enc r3.2.Box,enc r3.2.Mix]) (seg:=enc r3.2.Places) (post:=[[vI r3.2.Rounds]]) (cl1 (n:=1) (m:=272) rfl (cl1 (n:=256) (m:=16) (Flat.len _) (cl1 (n:=16) (m:=0) (Flat.len _) cl0))) (ZN (v:=r3.2.Places) (x:=r40.2) hi42.1) (by first | omega | (simp only [Flat.n] <;> omega))) (Flat.cell (r40.2 : UInt8)) (Vd (o':=0 + ((0 : Int)).toNat * 1) (pre:=[[vI r3.2.Field],enc r3.2.Box,enc r3.2.Mix]) (seg:=enc r3.2.Places) (post:=[[vI r3.2.Rounds]]) (cl1 (n:=1) (m:=272) rfl (cl1 (n:=256) (m:=16) (Flat.len _) (cl1 (n:=16) (m:=0) (Flat.len _) cl0))) (ZN (v:=r3.2.Places) (x:=r40.2) hi42.1) (ZD (v:=r3.2.Places) (x:=r40.2) hi42.1) (by first | omega | (simp only [Flat.n] <;> omega))) fun w a hM hE=>Zf (wp_region_lit (Zr hE Za ld rfl (U6) ?_)); intro a hE
       obtain ⟨x46,hi45,hl13⟩:=bvx hl13
       refine Zh hE Za ld rfl rfl Try.underlying59 ty5 hi45.1 fun a hE=>ZF (v:=(vB x46)) hE Za ld rfl ty5 rfl (At.vec (At.cat (pre:=[[vI r3.2.Field],enc r3.2.Box,enc r3.2.Mix]) (hM.rawAt (pre:=[])) (cl1 (n:=1) (m:=272) rfl (cl1 (n:=256) (m:=16) (Flat.len _) (cl1 (n:=16) (m:=0) (Flat.len _) cl0)))) hi45.2) fun a hE=>Zr hE Za ld rfl (U6) ?_; intro a hE
       obtain ⟨x49,hi48,hl13⟩:=bvx hl13
       refine Zh hE Za ld rfl rfl Try.underlying59 ty5 hi48.1 fun a hE=>Zi (seg:=[vB x46]) (cs':=cat [[vI r3.2.Field],enc r3.2.Box,enc r3.2.Mix,enc ((r3.2.Places.setIfInBounds ((0 : Int)).toNat r40.2).setIfInBounds ((1 : Int)).toNat x46),[vI r3.2.Rounds]]) hE hM Za rfl rfl rfl ty5 rfl (U3 (o':=0 + ((1 : Int)).toNat * 1) (pre:=[[vI r3.2.Field],enc r3.2.Box,enc r3.2.Mix]) (seg:=enc (r3.2.Places.setIfInBounds ((0 : Int)).toNat r40.2)) (post:=[[vI r3.2.Rounds]]) (cl1 (n:=1) (m:=272) rfl (cl1 (n:=256) (m:=16) (Flat.len _) (cl1 (n:=16) (m:=0) (Flat.len _) cl0))) (ZN (v:=(r3.2.Places.setIfInBounds ((0 : Int)).toNat r40.2)) (x:=x46) hi48.1) (by first | omega | (simp only [Flat.n] <;> omega))) (Flat.cell (x46 : UInt8)) (Vd (o':=0 + ((1 : Int)).toNat * 1) (pre:=[[vI r3.2.Field],enc r3.2.Box,enc r3.2.Mix]) (seg:=enc (r3.2.Places.setIfInBounds ((0 : Int)).toNat r40.2)) (post:=[[vI r3.2.Rounds]]) (cl1 (n:=1) (m:=272) rfl (cl1 (n:=256) (m:=16) (Flat.len _) (cl1 (n:=16) (m:=0) (Flat.len _) cl0))) (ZN (v:=(r3.2.Places.setIfInBounds ((0 : Int)).toNat r40.2)) (x:=x46) hi48.1) (ZD (v:=(r3.2.Places.setIfInBounds ((0 : Int)).toNat r40.2)) (x:=x46) hi48.1) (by first | omega | (simp only [Flat.n] <;> omega))) fun w a hM hE=>Zk ?_
       have ht51:=Option.some.inj hl13
       subst ht51
       refine Zn ?_
       have hM:=(((((hM.pull (pre:=[_,_,_,_])).pull (pre:=[_,_,_,_])).pull (pre:=[_,_])).pull (pre:=[_,_,_])).pull (pre:=[_,_,_,_])).drop
       exact ⟨hE.sub ⟨rfl,rfl,trivial⟩,hM⟩
      ·intro hb37
       have hl13:=ZA hl13 hb37
       refine Zd (Zm hE Za ld rfl rfl rfl fun a hE=>Ze hE Za ld rfl fun a hE=>Zf ?_)
       refine Zv hE rfl ?_ ?_
       ·intro hb52
        have hl13:=ZB hl13 hb52
        refine wp_region_lit (Zc hE Za ld rfl fun a hE=>YM (xs:=[.const (vI 0),.const (vI 21),.const (vI (-1))]) (l:=([0,21,(-1)] : List Int)) (vs:=[vI 0,vI 21,(vI (-1))]) hE hM Za ld rfl rfl Try.underlying138 ty2 rfl (by decide) rfl ?_); intro u53 w a hM hE
        have hM:=M.tailP (m:=[_,_]) (hM.pull (pre:=[_]))
        obtain ⟨r55,e56,hl13⟩:=bind_some hl13
        refine Zo hE Za ld rfl cb49 (Vs _ _ _ _ pb0 p0_0 v0_0 hv0_0 (r10.1.1,r10.1.2) ([0,21,(-1)] : List Int) u53 hM r55 e56) ?_
        rintro v w a ⟨rfl,hM⟩ hE
        have hM:=M.tailU (m:=[_,_]) hM
        simp only [List.cons_append,List.nil_append] at hM
        refine Zr hE Za ld rfl (UL) ?_; intro a hE
        have hM:=hM.pull (pre:=[_,_])
        refine Zi (seg:=[vI r55.2]) hE hM Za rfl rfl rfl ty2 rfl (UX (pre:=[[vI r3.2.Field],enc r3.2.Box,enc r3.2.Mix,enc r3.2.Places]) (cl1 (n:=1) (m:=288) rfl (cl1 (n:=256) (m:=32) (Flat.len _) (cl1 (n:=16) (m:=16) (Flat.len _) (cl1 (n:=16) (m:=0) (Flat.len _) cl0)))) rfl) (Flat.cell (r55.2 : Int)) (WL (pre:=[[vI r3.2.Field],enc r3.2.Box,enc r3.2.Mix,enc r3.2.Places]) (cl1 (n:=1) (m:=288) rfl (cl1 (n:=256) (m:=32) (Flat.len _) (cl1 (n:=16) (m:=16) (Flat.len _) (cl1 (n:=16) (m:=0) (Flat.len _) cl0)))) rfl) fun w a hM hE=>Zk ?_
        have ht57:=Option.some.inj hl13
        subst ht57
        refine Zn ?_
        have hM:=(((((hM.pull (pre:=[_,_,_,_])).pull (pre:=[_,_,_,_])).pull (pre:=[_,_])).pull (pre:=[_,_,_])).pull (pre:=[_,_,_,_])).drop
        exact ⟨hE.sub ⟨rfl,rfl,trivial⟩,hM⟩
       ·intro hb52
        have hl13:=ZA hl13 hb52
        refine wp_skip ?_
        have ht58:=Option.some.inj hl13
        subst ht58
        refine Zn ?_
        exact ⟨hE.sub ⟨rfl,rfl,trivial⟩,hM⟩
  ·skip
   rintro a w ⟨hE,hM⟩
   refine Yj ?_
   have ht59:=Option.some.inj hF14
   subst ht59
   refine Zn ?_
   have hM:=(((hM.pull (pre:=[_,_,_])).pull (pre:=[_,_,_])).pull (pre:=[_,_])).pull (pre:=[_,_,_])
   exact ⟨hE.sub ⟨rfl,rfl,trivial⟩,hM⟩
 ·skip
  rintro a w ⟨hE,hM⟩
  refine Zd (Zj (cs:=enc (⟨j7.1,j7.2.1,j7.2.2.1,j7.2.2.2.1,j7.2.2.2.2.1⟩ : GCipher)) hE Za ld rfl Z8 rfl (hM.rawAt (pre:=[])) (Zl (cl1 (n:=1) (m:=289) rfl (cl1 (n:=256) (m:=33) (Flat.len _) (cl1 (n:=16) (m:=17) (Flat.len _) (cl1 (n:=16) (m:=1) (Flat.len _) (cl1 (n:=1) (m:=0) rfl cl0)))))) ?_); intro a hE
  have hM:=hM.pull (pre:=[_,_])
  refine Zi (seg:=cat [[(vI ((⟨j7.1,j7.2.1,j7.2.2.1,j7.2.2.2.1,j7.2.2.2.2.1⟩ : GCipher).Field))],enc ((⟨j7.1,j7.2.1,j7.2.2.1,j7.2.2.2.1,j7.2.2.2.2.1⟩ : GCipher).Box),enc ((⟨j7.1,j7.2.1,j7.2.2.1,j7.2.2.2.1,j7.2.2.2.2.1⟩ : GCipher).Mix),enc ((⟨j7.1,j7.2.1,j7.2.2.1,j7.2.2.2.1,j7.2.2.2.2.1⟩ : GCipher).Places),[(vI ((⟨j7.1,j7.2.1,j7.2.2.1,j7.2.2.2.1,j7.2.2.2.2.1⟩ : GCipher).Rounds))]]) (cs':=cat [[(vI ((⟨j7.1,j7.2.1,j7.2.2.1,j7.2.2.2.1,j7.2.2.2.2.1⟩ : GCipher).Field))],enc ((⟨j7.1,j7.2.1,j7.2.2.1,j7.2.2.2.1,j7.2.2.2.2.1⟩ : GCipher).Box),enc ((⟨j7.1,j7.2.1,j7.2.2.1,j7.2.2.2.1,j7.2.2.2.2.1⟩ : GCipher).Mix),enc ((⟨j7.1,j7.2.1,j7.2.2.1,j7.2.2.2.1,j7.2.2.2.2.1⟩ : GCipher).Places),[(vI ((⟨j7.1,j7.2.1,j7.2.2.1,j7.2.2.2.1,j7.2.2.2.2.1⟩ : GCipher).Rounds))]]) hE hM Za rfl rfl rfl Z8 (Zl (cl1 (n:=1) (m:=289) rfl (cl1 (n:=256) (m:=33) (Flat.len _) (cl1 (n:=16) (m:=17) (Flat.len _) (cl1 (n:=16) (m:=1) (Flat.len _) (cl1 (n:=1) (m:=0) rfl cl0)))))) (Nat.le_of_eq ((Nat.zero_add _).trans (Eq.trans (Zl (cl1 (n:=1) (m:=289) rfl (cl1 (n:=256) (m:=33) (Flat.len _) (cl1 (n:=16) (m:=17) (Flat.len _) (cl1 (n:=16) (m:=1) (Flat.len _) (cl1 (n:=1) (m:=0) rfl cl0)))))) (Eq.symm (Zl (cl1 (n:=1) (m:=289) rfl (cl1 (n:=256) (m:=33) (Flat.len _) (cl1 (n:=16) (m:=17) (Flat.len _) (cl1 (n:=16) (m:=1) (Flat.len _) (cl1 (n:=1) (m:=0) rfl cl0)))))))))) (Yq (cc1 (Flat.cell ((⟨j7.1,j7.2.1,j7.2.2.1,j7.2.2.2.1,j7.2.2.2.2.1⟩ : GCipher).Field : Int)) (cc1 (Flat.cell _) (cc1 (Flat.cell _) (cc1 (Flat.cell _) (cc1 (Flat.cell ((⟨j7.1,j7.2.1,j7.2.2.1,j7.2.2.2.1,j7.2.2.2.2.1⟩ : GCipher).Rounds : Int)) cc0)))))) (Zg (Eq.trans (Zl (cl1 (n:=1) (m:=289) rfl (cl1 (n:=256) (m:=33) (Flat.len _) (cl1 (n:=16) (m:=17) (Flat.len _) (cl1 (n:=16) (m:=1) (Flat.len _) (cl1 (n:=1) (m:=0) rfl cl0)))))) (Eq.symm (Zl (cl1 (n:=1) (m:=289) rfl (cl1 (n:=256) (m:=33) (Flat.len _) (cl1 (n:=16) (m:=17) (Flat.len _) (cl1 (n:=16) (m:=1) (Flat.len _) (cl1 (n:=1) (m:=0) rfl cl0))))))))) fun w a hM hE=>Zf ?_
  have hr:=Option.some.inj hF9
  subst hr
  have hq60 : ZY Try.prog _ _ (.cell 2 61) _:=ZM hE rfl Z8 rfl (hM.rawAt (pre:=[])) (Zl (cl1 (n:=1) (m:=289) rfl (cl1 (n:=256) (m:=33) (Flat.len _) (cl1 (n:=16) (m:=17) (Flat.len _) (cl1 (n:=16) (m:=1) (Flat.len _) (cl1 (n:=1) (m:=0) rfl cl0)))))) rfl
  have hM:=(((((hM.pull (pre:=[_,_,_])).pull (pre:=[_,_,_])).pull (pre:=[_,_,_])).drop).pull (pre:=[_,_])).drop
  exact wp_ret (ZK hE rfl hq60 ⟨_,rfl,rfl,hM⟩)
def WI (p0_0 : (List UInt8)) (p0 : (Int × Int)) : Option ((Int × Int) × UInt8) :=
 (ZC p0_0 (p0.1,p0.2) 4).bind fun r1=>(ZC p0_0 (r1.1.1,r1.1.2) 256).bind fun r3=>(ZC p0_0 (r3.1.1,r3.1.2) 256).bind fun r5=>(YZ p0_0 (r5.1.1,r5.1.2) ([r1.2,r3.2,r5.2,255] : List Int)).bind fun r9=>some ((r9.1.1,r9.1.2),ZE r9.2)
theorem K4 (St : Nat → Prop) (W w0 : World) (R : Item) (pb0 : Nat) (p0_0 : (List UInt8)) (v0_0 : Value) (hv0_0 : Rep.sat St W p0_0 [v0_0] []) (p0 : (Int × Int)) (hM : M St W w0 [raw pb0 (cat [[v0_0],[vI p0.1],[(Value.int .u64 p0.2)]]),R]) (r : (Int × Int) × UInt8) (hF : WI p0_0 p0 = some r) :
  Calls Try.prog 84 [(ptr pb0 0)].toArray w0 (fun en w'=>∃ v,en = .returned v ∧ (v = (vB r.2) ∧ M St W w' [raw pb0 (cat [[v0_0],[vI r.1.1],[(Value.int .u64 r.1.2)]]),R])):=by
 refine ZJ (n:=13) Try.func84 rfl rfl (nbl rfl) rfl ?_
 intro a hE
 unfold WI at hF
 refine Zd (Ze hE Za ld rfl fun a hE=>Zf (Zd (Zc hE Za ld rfl fun a hE=>Zc hE Za ld rfl ?_))); intro a hE
 have hM:=M.tailP (m:=[_]) hM
 obtain ⟨r1,e2,hF⟩:=bind_some hF
 refine Zo hE Za ld rfl VD (ZH _ _ _ _ pb0 p0_0 v0_0 hv0_0 (p0.1,p0.2) 4 hM r1 e2) ?_
 rintro v w a ⟨rfl,hM⟩ hE
 have hM:=M.tailU (m:=[_]) hM
 simp only [List.cons_append,List.nil_append] at hM
 refine Zc hE Za ld rfl ?_; intro a hE
 have hM:=M.tailP (m:=[_]) hM
 obtain ⟨r3,e4,hF⟩:=bind_some hF
 refine Zo hE Za ld rfl VD (ZH _ _ _ _ pb0 p0_0 v0_0 hv0_0 (r1.1.1,r1.1.2) 256 hM r3 e4) ?_
 rintro v w a ⟨rfl,hM⟩ hE
 have hM:=M.tailU (m:=[_]) hM
 simp only [List.cons_append,List.nil_append] at hM
 refine Zc hE Za ld rfl ?_; intro a hE
 have hM:=M.tailP (m:=[_]) hM
 obtain ⟨r5,e6,hF⟩:=bind_some hF
 refine Zo hE Za ld rfl VD (ZH _ _ _ _ pb0 p0_0 v0_0 hv0_0 (r3.1.1,r3.1.2) 256 hM r5 e6) ?_
 rintro v w a ⟨rfl,hM⟩ hE
 have hM:=M.tailU (m:=[_]) hM
 simp only [List.cons_append,List.nil_append] at hM
 refine YM (xs:=[.tmp 5,.tmp 7,.tmp 9,.const (vI 255)]) (l:=([r1.2,r3.2,r5.2,255] : List Int)) (vs:=[vI r1.2,vI r3.2,vI r5.2,vI 255]) hE hM Za ld rfl rfl Try.underlying138 ty2 rfl (by decide) rfl ?_; intro u7 w a hM hE
 have hM:=M.tailP (m:=[_,_]) (hM.pull (pre:=[_]))
 obtain ⟨r9,e10,hF⟩:=bind_some hF
 refine Zo hE Za ld rfl cb49 (Vs _ _ _ _ pb0 p0_0 v0_0 hv0_0 (r5.1.1,r5.1.2) ([r1.2,r3.2,r5.2,255] : List Int) u7 hM r9 e10) ?_
 rintro v w a ⟨rfl,hM⟩ hE
 have hM:=M.tailU (m:=[_,_]) hM
 simp only [List.cons_append,List.nil_append] at hM
 refine Yg hE Za ld rfl Try.underlying2 Try.underlying5 ?_; intro a hE
 rw [Z6] at hE
 refine Ze hE Za ld rfl fun a hE=>Zf ?_
 have hr:=Option.some.inj hF
 subst hr
 have hM:=(((hM.pull (pre:=[_,_])).pull (pre:=[_])).pull (pre:=[_,_])).drop
 exact wp_ret (ZK hE rfl (Zx hE rfl) ⟨_,rfl,rfl,hM⟩)
def Vb (p0_0 : (List UInt8)) (s19 : (Vector UInt8 16) × Int × Int × Int) : Option (Fl ((Vector UInt8 16) × Int × Int × Int) ((Vector UInt8 16) × Int × Int)) :=
 if (decide (s19.2.2.2 < 16)) = true then ((ZC p0_0 (s19.2.1,s19.2.2.1) 256).bind fun r24=>(ZI s19.1 s19.2.2.2).bind fun x27=>some (Fl.nx ((s19.1.setIfInBounds (s19.2.2.2).toNat (ZE r24.2)),r24.1.1,r24.1.2,wr (s19.2.2.2 + 1)))) else (some (Fl.ex (s19.1,s19.2.1,s19.2.2.1)))
def Xo (p0_0 : (List UInt8)) (p0 : (Int × Int)) : Option ((Int × Int) × (Vector UInt8 16)) :=
 (ZC p0_0 (p0.1,p0.2) 5).bind fun r5=>if (r5.2 == 0) = true then ((ZC p0_0 (r5.1.1,r5.1.2) 16).bind fun r8=>(WI p0_0 (r8.1.1,r8.1.2)).bind fun r10=>(ZI (Vector.replicate 16 (0 : UInt8)) r8.2).bind fun x13=>some ((r10.1.1,r10.1.2),((Vector.replicate 16 (0 : UInt8)).setIfInBounds (r8.2).toNat r10.2))) else ((ZQ (Vb p0_0) ((Vector.replicate 16 (0 : UInt8)),r5.1.1,r5.1.2,0)).bind fun j16=>some ((j16.2.1,j16.2.2),j16.1))
end

end Go.Proofs.Ytkajmkegelcfjaa
