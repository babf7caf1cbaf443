/- The walk of what the law reaches: contracts of functions. -/
import Derived.Test.YtpibglnacohdkaaGreatK2
import Derived.Test.YtpibglnacohdkaaGreatProg
set_option linter.unusedVariables false
set_option linter.unusedSimpArgs false
set_option maxRecDepth 20000
set_option maxHeartbeats 400000
namespace Go.Proofs.YtpibglnacohdkaaGreat
open Go
open Flat (enc)
noncomputable section
structure GBlobs where
 Keys : (List (Vector UInt8 32))
 Data : (List (List UInt8))
 Counts : (List Int)
 deriving DecidableEq,Inhabited
instance : Dat GBlobs:=⟨fun x=>Dat.bd (α:=(List (Vector UInt8 32)) × (List (List UInt8)) × (List Int)) (x.Keys,x.Data,x.Counts),fun x=>Dat.sz (α:=(List (Vector UInt8 32)) × (List (List UInt8)) × (List Int)) (x.Keys,x.Data,x.Counts) + 1⟩
instance : Rep GBlobs:=repIso (α:=(List (Vector UInt8 32)) × (List (List UInt8)) × (List Int)) (fun x=>(x.Keys,x.Data,x.Counts))
theorem yJ {S : Nat → Prop} {w : World} {x : GBlobs} {cs : List Value} {fp : List Nat} (h : Rep.sat S w x cs fp) : ∃ (u1 : Value) (u2 : Value) (u3 : Value),∃ (g1 : List Nat) (g2 : List Nat) (g3 : List Nat),cs = cat [[u1],[u2],[u3]] ∧ fp = (g1 ++ (g2 ++ g3)) ∧ Rep.sat S w x.Keys [u1] g1 ∧ Rep.sat S w x.Data [u2] g2 ∧ Rep.sat S w x.Counts [u3] g3:=by
 obtain ⟨c0,d0,f0,q0,rfl,rfl,h0,hr0⟩:=h
 obtain ⟨u1,rfl⟩:=Vx h0
 obtain ⟨c1,d1,f1,q1,rfl,rfl,h1,hr1⟩:=hr0
 obtain ⟨u2,rfl⟩:=Vx h1
 obtain ⟨u3,rfl⟩:=Vx hr1
 exact ⟨u1,u2,u3,_,_,_,rfl,by simp,h0,h1,hr1⟩
theorem yc {S : Nat → Prop} {w : World} {x : GBlobs} {u1 u2 u3 : Value} {fp : List Nat} (h : Rep.sat S w x (cat [[u1],[u2],[u3]]) fp) : ∃ (g1 : List Nat) (g2 : List Nat) (g3 : List Nat),fp = (g1 ++ (g2 ++ g3)) ∧ Rep.sat S w x.Keys [u1] g1 ∧ Rep.sat S w x.Data [u2] g2 ∧ Rep.sat S w x.Counts [u3] g3:=by
 obtain ⟨w1,w2,w3,g1,g2,g3,hc,hf,s1,s2,s3⟩:=yJ h
 obtain ⟨e1,k1⟩:=T5 hc rfl
 obtain ⟨e2,k2⟩:=T5 k1 rfl
 obtain rfl:=(List.cons.inj e1).1
 obtain rfl:=(List.cons.inj e2).1
 obtain rfl:=(List.cons.inj k2).1
 exact ⟨g1,g2,g3,hf,s1,s2,s3⟩
theorem WN {S : Nat → Prop} {w : World} {x : GBlobs} {cs : List Value} (h : Rep.sat S w x cs []) : ∃ u1 u2 u3,cs = cat [[u1],[u2],[u3]] ∧ Rep.sat S w x.Keys [u1] [] ∧ Rep.sat S w x.Data [u2] [] ∧ Rep.sat S w x.Counts [u3] []:=by
 obtain ⟨c0,d0,f0,g0,rfl,hf0,h0,hr0⟩:=h
 obtain ⟨rfl,rfl⟩:=List.append_eq_nil_iff.1 hf0.symm
 obtain ⟨u1,rfl⟩:=Vx h0
 obtain ⟨c1,d1,f1,g1,rfl,hf1,h1,hr1⟩:=hr0
 obtain ⟨rfl,rfl⟩:=List.append_eq_nil_iff.1 hf1.symm
 obtain ⟨u2,rfl⟩:=Vx h1
 obtain ⟨u3,rfl⟩:=Vx hr1
 exact ⟨u1,u2,u3,rfl,h0,h1,hr1⟩
theorem B3 {S : Nat → Prop} {w : World} {x : GBlobs} {u1 u2 u3 : Value} {g1 g2 g3 fp : List Nat} (h1 : Rep.sat S w x.Keys [u1] g1) (h2 : Rep.sat S w x.Data [u2] g2) (h3 : Rep.sat S w x.Counts [u3] g3) (hfp : fp = (g1 ++ (g2 ++ g3))) : Rep.sat S w x (cat [[u1],[u2],[u3]]) fp:=by
 rw [hfp]
 refine ⟨_,_,g1,(g2 ++ g3),rfl,(by simp),h1,?_⟩
 refine ⟨_,_,g2,g3,rfl,(by simp),h2,?_⟩
 exact h3
theorem TR {St : Nat → Prop} {w0 w : World} {its : List Item} {i1 i2 i3 : Item} {x : GBlobs} {u1 u2 u3 : Value} (h : M St w0 w (i1 :: i2 :: i3 :: its)) (s1 : SatI i1 x.Keys u1) (s2 : SatI i2 x.Data u2) (s3 : SatI i3 x.Counts u3) : M St w0 w (own NoB x (cat [[u1],[u2],[u3]]) :: its):=h.packL (m:=[_,_,_]) (Vw noB) fun fp h=>by obtain ⟨_,_,rfl,_,k1,_,_,rfl,_,k2,_,_,rfl,_,k3,rfl⟩:=h; exact B3 (s1 _ _ k1) (s2 _ _ k2) (s3 _ _ k3) (by simp)
theorem TQ {St : Nat → Prop} {w0 w : World} {its : List Item} {x : GBlobs} {u1 u2 u3 : Value} (h : M St w0 w (own NoB x (cat [[u1],[u2],[u3]]) :: its)) : M St w0 w (own NoB x.Keys [u1] :: own NoB x.Data [u2] :: own NoB x.Counts [u3] :: its):=h.unpackL (m:=[own NoB x.Keys [u1],own NoB x.Data [u2],own NoB x.Counts [u3]]) fun fp h=>by obtain ⟨_,_,_,rfl,s1,s2,s3⟩:=yc h; exact (XA.cons (Vw noB) s1 (XA.cons (Vw noB) s2 (XA.one (Vw noB) s3)))
theorem qw (w : World) : Rep.sat NoB w (⟨([] : (List (Vector UInt8 32))),([] : (List (List UInt8))),([] : (List Int))⟩ : GBlobs) (cat [[.slice none 0 0],[.slice none 0 0],[.slice none 0 0]]) []:=B3 Qh Qh Qh rfl
structure GCipher where
 Field : Int
 Box : (Vector UInt8 256)
 Mix : (Vector (Vector UInt8 4) 4)
 Places : (Vector UInt8 16)
 Rounds : Int
 deriving DecidableEq,Inhabited
instance : Dat GCipher:=⟨fun x=>Dat.bd (α:=Int × (Vector UInt8 256) × (Vector (Vector UInt8 4) 4) × (Vector UInt8 16) × Int) (x.Field,x.Box,x.Mix,x.Places,x.Rounds),fun x=>Dat.sz (α:=Int × (Vector UInt8 256) × (Vector (Vector UInt8 4) 4) × (Vector UInt8 16) × Int) (x.Field,x.Box,x.Mix,x.Places,x.Rounds) + 1⟩
instance : Flat GCipher where
 n:=290
 enc x:=cat [enc x.Field,enc x.Box,enc x.Mix,enc x.Places,enc x.Rounds]
 len x:=Ao (cl1 (Flat.len _) (cl1 (Flat.len _) (cl1 (Flat.len _) (cl1 (Flat.len _) (cl1 (Flat.len _) cl0)))))
 cell x:=YC (cc1 (Flat.cell _) (cc1 (Flat.cell _) (cc1 (Flat.cell _) (cc1 (Flat.cell _) (cc1 (Flat.cell _) cc0)))))
structure Gengine where
 box : (Vector UInt8 256)
 backBox : (Vector UInt8 256)
 places : (Vector UInt8 16)
 backPlaces : (Vector UInt8 16)
 mixer : (Ref (Vector (Vector (Vector UInt8 256) 4) 4))
 backMixer : (Ref (Vector (Vector (Vector UInt8 256) 4) 4))
 rounds : Int
 deriving DecidableEq,Inhabited
instance : Dat Gengine:=⟨fun x=>Dat.bd (α:=(Vector UInt8 256) × (Vector UInt8 256) × (Vector UInt8 16) × (Vector UInt8 16) × (Ref (Vector (Vector (Vector UInt8 256) 4) 4)) × (Ref (Vector (Vector (Vector UInt8 256) 4) 4)) × Int) (x.box,x.backBox,x.places,x.backPlaces,x.mixer,x.backMixer,x.rounds),fun x=>Dat.sz (α:=(Vector UInt8 256) × (Vector UInt8 256) × (Vector UInt8 16) × (Vector UInt8 16) × (Ref (Vector (Vector (Vector UInt8 256) 4) 4)) × (Ref (Vector (Vector (Vector UInt8 256) 4) 4)) × Int) (x.box,x.backBox,x.places,x.backPlaces,x.mixer,x.backMixer,x.rounds) + 1⟩
instance : Rep Gengine:=repIso (α:=(Vector UInt8 256) × (Vector UInt8 256) × (Vector UInt8 16) × (Vector UInt8 16) × (Ref (Vector (Vector (Vector UInt8 256) 4) 4)) × (Ref (Vector (Vector (Vector UInt8 256) 4) 4)) × Int) (fun x=>(x.box,x.backBox,x.places,x.backPlaces,x.mixer,x.backMixer,x.rounds))
theorem AU {S : Nat → Prop} {w : World} {x : Gengine} {cs : List Value} {fp : List Nat} (h : Rep.sat S w x cs fp) : ∃ (u1 : Value) (u2 : Value),∃ (g1 : List Nat) (g2 : List Nat),cs = cat [enc x.box,enc x.backBox,enc x.places,enc x.backPlaces,[u1],[u2],enc x.rounds] ∧ fp = (g1 ++ g2) ∧ Rep.sat S w x.mixer [u1] g1 ∧ Rep.sat S w x.backMixer [u2] g2:=by
 obtain ⟨c0,d0,f0,q0,rfl,rfl,h0,hr0⟩:=h
 obtain ⟨rfl,rfl⟩:=h0
 obtain ⟨c1,d1,f1,q1,rfl,rfl,h1,hr1⟩:=hr0
 obtain ⟨rfl,rfl⟩:=h1
 obtain ⟨c2,d2,f2,q2,rfl,rfl,h2,hr2⟩:=hr1
 obtain ⟨rfl,rfl⟩:=h2
 obtain ⟨c3,d3,f3,q3,rfl,rfl,h3,hr3⟩:=hr2
 obtain ⟨rfl,rfl⟩:=h3
 obtain ⟨c4,d4,f4,q4,rfl,rfl,h4,hr4⟩:=hr3
 obtain ⟨u1,rfl⟩:=Q5 h4
 obtain ⟨c5,d5,f5,q5,rfl,rfl,h5,hr5⟩:=hr4
 obtain ⟨u2,rfl⟩:=Q5 h5
 obtain ⟨rfl,rfl⟩:=hr5
 exact ⟨u1,u2,_,_,rfl,by simp,h4,h5⟩
theorem qx {S : Nat → Prop} {w : World} {x : Gengine} {u1 u2 : Value} {fp : List Nat} (h : Rep.sat S w x (cat [enc x.box,enc x.backBox,enc x.places,enc x.backPlaces,[u1],[u2],enc x.rounds]) fp) : ∃ (g1 : List Nat) (g2 : List Nat),fp = (g1 ++ g2) ∧ Rep.sat S w x.mixer [u1] g1 ∧ Rep.sat S w x.backMixer [u2] g2:=by
 obtain ⟨w1,w2,g1,g2,hc,hf,s1,s2⟩:=AU h
 obtain ⟨e1,k1⟩:=T5 hc rfl
 obtain ⟨e2,k2⟩:=T5 k1 rfl
 obtain ⟨e3,k3⟩:=T5 k2 rfl
 obtain ⟨e4,k4⟩:=T5 k3 rfl
 obtain ⟨e5,k5⟩:=T5 k4 rfl
 obtain ⟨e6,k6⟩:=T5 k5 rfl
 obtain rfl:=(List.cons.inj e5).1
 obtain rfl:=(List.cons.inj e6).1
 exact ⟨g1,g2,hf,s1,s2⟩
theorem Tl {S : Nat → Prop} {w : World} {x : Gengine} {cs : List Value} (h : Rep.sat S w x cs []) : ∃ u1 u2,cs = cat [enc x.box,enc x.backBox,enc x.places,enc x.backPlaces,[u1],[u2],enc x.rounds] ∧ Rep.sat S w x.mixer [u1] [] ∧ Rep.sat S w x.backMixer [u2] []:=by
 obtain ⟨c0,d0,f0,g0,rfl,hf0,h0,hr0⟩:=h
 obtain ⟨rfl,rfl⟩:=List.append_eq_nil_iff.1 hf0.symm
 obtain ⟨rfl,_⟩:=h0
 obtain ⟨c1,d1,f1,g1,rfl,hf1,h1,hr1⟩:=hr0
 obtain ⟨rfl,rfl⟩:=List.append_eq_nil_iff.1 hf1.symm
 obtain ⟨rfl,_⟩:=h1
 obtain ⟨c2,d2,f2,g2,rfl,hf2,h2,hr2⟩:=hr1
 obtain ⟨rfl,rfl⟩:=List.append_eq_nil_iff.1 hf2.symm
 obtain ⟨rfl,_⟩:=h2
 obtain ⟨c3,d3,f3,g3,rfl,hf3,h3,hr3⟩:=hr2
 obtain ⟨rfl,rfl⟩:=List.append_eq_nil_iff.1 hf3.symm
 obtain ⟨rfl,_⟩:=h3
 obtain ⟨c4,d4,f4,g4,rfl,hf4,h4,hr4⟩:=hr3
 obtain ⟨rfl,rfl⟩:=List.append_eq_nil_iff.1 hf4.symm
 obtain ⟨u1,rfl⟩:=Q5 h4
 obtain ⟨c5,d5,f5,g5,rfl,hf5,h5,hr5⟩:=hr4
 obtain ⟨rfl,rfl⟩:=List.append_eq_nil_iff.1 hf5.symm
 obtain ⟨u2,rfl⟩:=Q5 h5
 obtain ⟨rfl,_⟩:=hr5
 exact ⟨u1,u2,rfl,h4,h5⟩
theorem yC {S : Nat → Prop} {w : World} {x : Gengine} {u1 u2 : Value} {g1 g2 fp : List Nat} (h1 : Rep.sat S w x.mixer [u1] g1) (h2 : Rep.sat S w x.backMixer [u2] g2) (hfp : fp = (g1 ++ g2)) : Rep.sat S w x (cat [enc x.box,enc x.backBox,enc x.places,enc x.backPlaces,[u1],[u2],enc x.rounds]) fp:=by
 rw [hfp]
 refine ⟨_,_,[],(g1 ++ g2),rfl,(by simp),⟨rfl,rfl⟩,?_⟩
 refine ⟨_,_,[],(g1 ++ g2),rfl,(by simp),⟨rfl,rfl⟩,?_⟩
 refine ⟨_,_,[],(g1 ++ g2),rfl,(by simp),⟨rfl,rfl⟩,?_⟩
 refine ⟨_,_,[],(g1 ++ g2),rfl,(by simp),⟨rfl,rfl⟩,?_⟩
 refine ⟨_,_,g1,g2,rfl,(by simp),h1,?_⟩
 refine ⟨_,_,g2,[],rfl,(by simp),h2,?_⟩
 exact ⟨rfl,rfl⟩
structure Ghasher where
 engine : (Ref Gengine)
 deriving DecidableEq,Inhabited
instance : Dat Ghasher:=⟨fun x=>Dat.bd (α:=(Ref Gengine)) (x.engine),fun x=>Dat.sz (α:=(Ref Gengine)) (x.engine) + 1⟩
instance : Rep Ghasher:=repIso (α:=(Ref Gengine)) (fun x=>(x.engine))
theorem A8 {S : Nat → Prop} {w : World} {x : Ghasher} {cs : List Value} {fp : List Nat} (h : Rep.sat S w x cs fp) : ∃ (u1 : Value),∃ (g1 : List Nat),cs = cat [[u1]] ∧ fp = g1 ∧ Rep.sat S w x.engine [u1] g1:=by
 obtain ⟨u1,rfl⟩:=Q5 h
 exact ⟨u1,_,rfl,by simp,h⟩
theorem zA {S : Nat → Prop} {w : World} {x : Ghasher} {u1 : Value} {fp : List Nat} (h : Rep.sat S w x (cat [[u1]]) fp) : ∃ (g1 : List Nat),fp = g1 ∧ Rep.sat S w x.engine [u1] g1:=by
 obtain ⟨w1,g1,hc,hf,s1⟩:=A8 h
 obtain rfl:=(List.cons.inj hc).1
 exact ⟨g1,hf,s1⟩
theorem yG {S : Nat → Prop} {w : World} {x : Ghasher} {cs : List Value} (h : Rep.sat S w x cs []) : ∃ u1,cs = cat [[u1]] ∧ Rep.sat S w x.engine [u1] []:=by
 obtain ⟨u1,rfl⟩:=Q5 h
 exact ⟨u1,rfl,h⟩
theorem yb {S : Nat → Prop} {w : World} {x : Ghasher} {u1 : Value} {g1 fp : List Nat} (h1 : Rep.sat S w x.engine [u1] g1) (hfp : fp = g1) : Rep.sat S w x (cat [[u1]]) fp:=by
 rw [hfp]
 exact h1
theorem ty2 : Ty Tryz.prog 2 (.int .i64) 1 8 (enc (0 : Int)):=⟨Tryz.underlying2,by kernel_rfl⟩
theorem ty5 : Ty Tryz.prog 5 (.int .u8) 1 1 (enc (0 : UInt8)):=⟨Tryz.underlying5,by kernel_rfl⟩
theorem ty22 : Ty Tryz.prog 22 (.slice 27) 1 24 [.slice none 0 0]:=⟨Tryz.underlying22,by kernel_rfl⟩
theorem Tg : Ty Tryz.prog 23 (.slice 40) 1 24 [.slice none 0 0]:=⟨Tryz.underlying23,by kernel_rfl⟩
theorem U3 : Ty Tryz.prog 24 (.slice 2) 1 24 [.slice none 0 0]:=⟨Tryz.underlying24,by kernel_rfl⟩
theorem zM : Ty Tryz.prog 26 (.struct [{ name := "Keys", type := 22, offset := 0, embedded := false, tag := "", pkgPath := "", byteOffset := 0 }, { name := "Data", type := 23, offset := 1, embedded := false, tag := "", pkgPath := "", byteOffset := 24 }, { name := "Counts", type := 24, offset := 2, embedded := false, tag := "", pkgPath := "", byteOffset := 48 }].toArray) 3 72 (cat [[.slice none 0 0], [.slice none 0 0], [.slice none 0 0]]) := ⟨Tryz.underlying26, by kernel_rfl⟩
theorem ty27 : Ty Tryz.prog 27 (.array 32 5) 32 32 (enc (Vector.replicate 32 (0 : UInt8))):=⟨Tryz.underlying27,by kernel_rfl⟩
theorem Tu : Ty Tryz.prog 29 (.slice 35) 1 24 [.slice none 0 0]:=⟨Tryz.underlying29,by kernel_rfl⟩
theorem Yy : Ty Tryz.prog 31 (.struct [{ name := "Keys", type := 29, offset := 0, embedded := false, tag := "", pkgPath := "", byteOffset := 0 }, { name := "Data", type := 23, offset := 1, embedded := false, tag := "", pkgPath := "", byteOffset := 24 }, { name := "Counts", type := 24, offset := 2, embedded := false, tag := "", pkgPath := "", byteOffset := 48 }].toArray) 3 72 (cat [[.slice none 0 0], [.slice none 0 0], [.slice none 0 0]]) := ⟨Tryz.underlying31, by kernel_rfl⟩
theorem Z3 : Ty Tryz.prog 35 (.array 32 5) 32 32 (enc (Vector.replicate 32 (0 : UInt8))):=⟨Tryz.underlying35,by kernel_rfl⟩
theorem XQ : Ty Tryz.prog 40 (.slice 5) 1 24 [.slice none 0 0]:=⟨Tryz.underlying40,by kernel_rfl⟩
theorem ZJ : Ty Tryz.prog 68 (.array 16 5) 16 16 (enc (Vector.replicate 16 (0 : UInt8))):=⟨Tryz.underlying68,by kernel_rfl⟩
theorem ty100 : Ty Tryz.prog 100 (.pointer 244) 1 8 [.pointer none]:=⟨Tryz.underlying100,by kernel_rfl⟩
theorem zu : Ty Tryz.prog 102 (.struct [{ name := "engine", type := 100, offset := 0, embedded := false, tag := "", pkgPath := "loop.example/g01182/impl", byteOffset := 0 }].toArray) 1 8 (cat [[.pointer none]]) := ⟨Tryz.underlying102, by kernel_rfl⟩
theorem BV : Ty Tryz.prog 156 (.array 256 5) 256 256 (enc (Vector.replicate 256 (0 : UInt8))):=⟨Tryz.underlying156,by kernel_rfl⟩
theorem Xw : Ty Tryz.prog 157 (.array 256 5) 256 256 (enc (Vector.replicate 256 (0 : UInt8))):=⟨Tryz.underlying157,by kernel_rfl⟩
theorem Xq : Ty Tryz.prog 158 (.array 4 5) 4 4 (enc (Vector.replicate 4 (0 : UInt8))):=⟨Tryz.underlying158,by kernel_rfl⟩
theorem Uc : Ty Tryz.prog 160 (.array 4 158) 16 16 (enc (Vector.replicate 4 (Vector.replicate 4 (0 : UInt8)))):=⟨Tryz.underlying160,by kernel_rfl⟩
theorem TF : Ty Tryz.prog 161 (.array 16 5) 16 16 (enc (Vector.replicate 16 (0 : UInt8))):=⟨Tryz.underlying161,by kernel_rfl⟩
theorem V7 : Ty Tryz.prog 163 (.struct [{ name := "Field", type := 2, offset := 0, embedded := false, tag := "", pkgPath := "", byteOffset := 0 }, { name := "Box", type := 157, offset := 1, embedded := false, tag := "", pkgPath := "", byteOffset := 8 }, { name := "Mix", type := 160, offset := 257, embedded := false, tag := "", pkgPath := "", byteOffset := 264 }, { name := "Places", type := 161, offset := 273, embedded := false, tag := "", pkgPath := "", byteOffset := 280 }, { name := "Rounds", type := 2, offset := 289, embedded := false, tag := "", pkgPath := "", byteOffset := 296 }].toArray) 290 304 (enc (⟨(0 : Int), (Vector.replicate 256 (0 : UInt8)), (Vector.replicate 4 (Vector.replicate 4 (0 : UInt8))), (Vector.replicate 16 (0 : UInt8)), (0 : Int)⟩ : GCipher)) := ⟨Tryz.underlying163, by kernel_rfl⟩
theorem kp : Ty Tryz.prog 241 (.pointer 265) 1 8 [.pointer none]:=⟨Tryz.underlying241,by kernel_rfl⟩
theorem JN : Ty Tryz.prog 244 (.struct [{ name := "box", type := 157, offset := 0, embedded := false, tag := "", pkgPath := "loop.example/g01182/impl", byteOffset := 0 }, { name := "backBox", type := 157, offset := 256, embedded := false, tag := "", pkgPath := "loop.example/g01182/impl", byteOffset := 256 }, { name := "places", type := 161, offset := 512, embedded := false, tag := "", pkgPath := "loop.example/g01182/impl", byteOffset := 512 }, { name := "backPlaces", type := 161, offset := 528, embedded := false, tag := "", pkgPath := "loop.example/g01182/impl", byteOffset := 528 }, { name := "mixer", type := 241, offset := 544, embedded := false, tag := "", pkgPath := "loop.example/g01182/impl", byteOffset := 544 }, { name := "backMixer", type := 241, offset := 545, embedded := false, tag := "", pkgPath := "loop.example/g01182/impl", byteOffset := 552 }, { name := "rounds", type := 2, offset := 546, embedded := false, tag := "", pkgPath := "loop.example/g01182/impl", byteOffset := 560 }].toArray) 547 568 (cat [(enc (Vector.replicate 256 (0 : UInt8))), (enc (Vector.replicate 256 (0 : UInt8))), (enc (Vector.replicate 16 (0 : UInt8))), (enc (Vector.replicate 16 (0 : UInt8))), [.pointer none], [.pointer none], (enc (0 : Int))]) := ⟨Tryz.underlying244, by kernel_rfl⟩
theorem HO : Ty Tryz.prog 263 (.array 4 156) 1024 1024 (enc (Vector.replicate 4 (Vector.replicate 256 (0 : UInt8)))):=⟨Tryz.underlying263,by kernel_rfl⟩
theorem ty265 : Ty Tryz.prog 265 (.array 4 263) 4096 4096 (enc (Vector.replicate 4 (Vector.replicate 4 (Vector.replicate 256 (0 : UInt8))))):=⟨Tryz.underlying265,by kernel_rfl⟩
theorem kr : Fd Tryz.prog 26 0 0:=U2 zM.und rfl rfl ty22 (by decide)
theorem jJ : Fd Tryz.prog 26 1 1:=U2 zM.und rfl rfl Tg (by decide)
theorem jL : Fd Tryz.prog 26 2 2:=U2 zM.und rfl rfl U3 (by decide)
theorem X1 : Fd Tryz.prog 31 0 0:=U2 Yy.und rfl rfl Tu (by decide)
theorem X5 : Fd Tryz.prog 31 1 1:=U2 Yy.und rfl rfl Tg (by decide)
theorem X2 : Fd Tryz.prog 31 2 2:=U2 Yy.und rfl rfl U3 (by decide)
theorem qc : Fd Tryz.prog 102 0 0:=U2 zu.und rfl rfl ty100 (by decide)
theorem Hm : Fd Tryz.prog 163 0 0:=U2 V7.und rfl rfl ty2 (by decide)
theorem Q6 : Fd Tryz.prog 163 1 1:=U2 V7.und rfl rfl Xw (by decide)
theorem KO : Fd Tryz.prog 163 2 257:=U2 V7.und rfl rfl Uc (by decide)
theorem KH : Fd Tryz.prog 163 3 273:=U2 V7.und rfl rfl TF (by decide)
theorem Az : Fd Tryz.prog 163 4 289:=U2 V7.und rfl rfl ty2 (by decide)
theorem AD : Fd Tryz.prog 244 0 0:=U2 JN.und rfl rfl Xw (by decide)
theorem fd244_1 : Fd Tryz.prog 244 1 256:=U2 JN.und rfl rfl Xw (by decide)
theorem kZ : Fd Tryz.prog 244 2 512:=U2 JN.und rfl rfl TF (by decide)
theorem fd244_3 : Fd Tryz.prog 244 3 528:=U2 JN.und rfl rfl TF (by decide)
theorem qt : Fd Tryz.prog 244 4 544:=U2 JN.und rfl rfl kp (by decide)
theorem fd244_5 : Fd Tryz.prog 244 5 545:=U2 JN.und rfl rfl kp (by decide)
theorem qh : Fd Tryz.prog 244 6 546:=U2 JN.und rfl rfl ty2 (by decide)
theorem pl31 : Places Tryz.prog [{ name := "Keys", type := 29, offset := 0, embedded := false, tag := "", pkgPath := "", byteOffset := 0 }, { name := "Data", type := 23, offset := 1, embedded := false, tag := "", pkgPath := "", byteOffset := 24 }, { name := "Counts", type := 24, offset := 2, embedded := false, tag := "", pkgPath := "", byteOffset := 48 }] [(0, 1), (1, 1), (2, 1)] := by show _ = _; kernel_rfl
theorem pl102 : Places Tryz.prog [{ name := "engine", type := 100, offset := 0, embedded := false, tag := "", pkgPath := "loop.example/g01182/impl", byteOffset := 0 }] [(0, 1)] := by show _ = _; kernel_rfl
theorem pl163 : Places Tryz.prog [{ name := "Field", type := 2, offset := 0, embedded := false, tag := "", pkgPath := "", byteOffset := 0 }, { name := "Box", type := 157, offset := 1, embedded := false, tag := "", pkgPath := "", byteOffset := 8 }, { name := "Mix", type := 160, offset := 257, embedded := false, tag := "", pkgPath := "", byteOffset := 264 }, { name := "Places", type := 161, offset := 273, embedded := false, tag := "", pkgPath := "", byteOffset := 280 }, { name := "Rounds", type := 2, offset := 289, embedded := false, tag := "", pkgPath := "", byteOffset := 296 }] [(0, 1), (1, 256), (257, 16), (273, 16), (289, 1)] := by show _ = _; kernel_rfl
theorem pl244 : Places Tryz.prog [{ name := "box", type := 157, offset := 0, embedded := false, tag := "", pkgPath := "loop.example/g01182/impl", byteOffset := 0 }, { name := "backBox", type := 157, offset := 256, embedded := false, tag := "", pkgPath := "loop.example/g01182/impl", byteOffset := 256 }, { name := "places", type := 161, offset := 512, embedded := false, tag := "", pkgPath := "loop.example/g01182/impl", byteOffset := 512 }, { name := "backPlaces", type := 161, offset := 528, embedded := false, tag := "", pkgPath := "loop.example/g01182/impl", byteOffset := 528 }, { name := "mixer", type := 241, offset := 544, embedded := false, tag := "", pkgPath := "loop.example/g01182/impl", byteOffset := 544 }, { name := "backMixer", type := 241, offset := 545, embedded := false, tag := "", pkgPath := "loop.example/g01182/impl", byteOffset := 552 }, { name := "rounds", type := 2, offset := 546, embedded := false, tag := "", pkgPath := "loop.example/g01182/impl", byteOffset := 560 }] [(0, 256), (256, 256), (512, 16), (528, 16), (544, 1), (545, 1), (546, 1)] := by show _ = _; kernel_rfl
theorem Yq : Tryz.prog.follows .mixedOrders = true:=by kernel_rfl
theorem cb11 : Callable Tryz.prog 11:=cbm Tryz.func11
theorem cb12 : Callable Tryz.prog 12:=cbm Tryz.func12
theorem cb14 : Callable Tryz.prog 14:=cbm Tryz.func14
theorem cb68 : Callable Tryz.prog 68:=cbm Tryz.func68
theorem BU : Callable Tryz.prog 182:=cbm Tryz.func182
theorem B4 : Callable Tryz.prog 206:=cbm Tryz.func206
theorem zV : Callable Tryz.prog 208:=cbm Tryz.func208
theorem jG : Callable Tryz.prog 215:=cbm Tryz.func215
theorem JQ : Callable Tryz.prog 233:=cbm Tryz.func233
def Wr (p0 : (List (Vector UInt8 32))) (p1 : Int) : Option (Int) :=
 if (decide ((wr (p1 - (p0.length : Int))) < 0)) = true then (some (-1)) else (some (wr (p1 - (p0.length : Int))))
theorem Jp (w0 : World) (p0 : (List (Vector UInt8 32))) (v0_1 : Value) (hv0_1 : Ro w0 p0 [v0_1]) (p1 : Int) (r : Int) (hF : Wr p0 p1 = some r) :
  Calls Tryz.prog 40 [v0_1,vI p1].toArray w0 (Rt w0 (vI r)):=by
 refine ce Tryz.func40 ?_
 intro a hE
 have hM:=M.start w0
 unfold Wr at hF
 refine Zb (Zc hE rfl fun a hE=>Ze (Zb (Zd hE rfl fun a hE=>Zd hE rfl fun a hE=>Z7 hE rfl Tryz.underlying22 (hM.rd hv0_1) fun a hE=>Zg hE rfl rfl rfl fun a hE=>Zc hE rfl fun a hE=>Ze (wp_seq (Zb (Zd hE rfl fun a hE=>Zg hE rfl rfl rfl fun a hE=>Ze ?_))))))
 refine Zo hE rfl ?_ ?_
 ·intro hb1
  have hF:=Zs hF hb1
  refine Zb (Zc hE rfl fun a hE=>Ze ?_)
  obtain rfl:=Option.some.inj hF
  exact wp_ret (Zx (kr1 hE rfl rfl hM.kept))
 ·intro hb1
  have hF:=Zt hF hb1
  refine wp_skip (Zp (Zb (Zd hE rfl fun a hE=>Zc hE rfl fun a hE=>Ze ?_)))
  obtain rfl:=Option.some.inj hF
  exact wp_ret (kr1 hE rfl rfl hM.kept)
def WE (p0 : (List UInt8)) (p1 : Int) : Option (Int) :=
 if (decide ((wr (p1 - (p0.length : Int))) < 0)) = true then (some (-1)) else (some (wr (p1 - (p0.length : Int))))
theorem HM (w0 : World) (p0 : (List UInt8)) (v0_1 : Value) (hv0_1 : Ro w0 p0 [v0_1]) (p1 : Int) (r : Int) (hF : WE p0 p1 = some r) :
  Calls Tryz.prog 117 [v0_1,vI p1].toArray w0 (Rt w0 (vI r)):=by
 refine ce Tryz.func117 ?_
 intro a hE
 have hM:=M.start w0
 unfold WE at hF
 refine Zb (Zc hE rfl fun a hE=>Ze (Zb (Zd hE rfl fun a hE=>Zd hE rfl fun a hE=>Z7 hE rfl Tryz.underlying40 (hM.rd hv0_1) fun a hE=>Zg hE rfl rfl rfl fun a hE=>Zc hE rfl fun a hE=>Ze (wp_seq (Zb (Zd hE rfl fun a hE=>Zg hE rfl rfl rfl fun a hE=>Ze ?_))))))
 refine Zo hE rfl ?_ ?_
 ·intro hb1
  have hF:=Zs hF hb1
  refine Zb (Zc hE rfl fun a hE=>Ze ?_)
  obtain rfl:=Option.some.inj hF
  exact wp_ret (Zx (kr1 hE rfl rfl hM.kept))
 ·intro hb1
  have hF:=Zt hF hb1
  refine wp_skip (Zp (Zb (Zd hE rfl fun a hE=>Zc hE rfl fun a hE=>Ze ?_)))
  obtain rfl:=Option.some.inj hF
  exact wp_ret (kr1 hE rfl rfl hM.kept)
def Ut (p0 : (List (List UInt8))) (s6 : Int × Int) : Option (Fl (Int × Int) (Fl Int Int)) :=
 if (decide (s6.2 < (p0.length : Int))) = true then ((idx p0 s6.2).bind fun x11=>(WE x11 s6.1).bind fun r19=>if (decide (r19 < 0)) = true then (some (Fl.ex (Fl.ex (-1)))) else (some (Fl.nx (r19,wr (s6.2 + 1))))) else (some (Fl.ex (Fl.nx s6.1)))
def X3 (p0 : (List (List UInt8))) (p1 : Int) : Option (Int) :=
 if (decide ((wr (p1 - (p0.length : Int))) < 0)) = true then (some (-1)) else ((Zz (Ut p0) (wr (p1 - (p0.length : Int)),0)).bind fun j2=>j2.el (fun s5=>some s5) (fun r=>some r))
theorem J2 (w0 : World) (p0 : (List (List UInt8))) (v0_1 : Value) (hv0_1 : Ro w0 p0 [v0_1]) (p1 : Int) (r : Int) (hF : X3 p0 p1 = some r) :
  Calls Tryz.prog 41 [v0_1,vI p1].toArray w0 (Rt w0 (vI r)):=by
 refine ce Tryz.func41 ?_
 intro a hE
 have hM:=M.start w0
 unfold X3 at hF
 refine Zb (Zc hE rfl fun a hE=>Ze (Zb (Zd hE rfl fun a hE=>Zd hE rfl fun a hE=>Z7 hE rfl Tryz.underlying23 (hM.rd hv0_1) fun a hE=>Zg hE rfl rfl rfl fun a hE=>Zc hE rfl fun a hE=>Ze (wp_seq (Zb (Zd hE rfl fun a hE=>Zg hE rfl rfl rfl fun a hE=>Ze ?_))))))
 refine Zo hE rfl ?_ ?_
 ·intro hb1
  have hF:=Zs hF hb1
  refine Zb (Zc hE rfl fun a hE=>Ze ?_)
  obtain rfl:=Option.some.inj hF
  exact wp_ret (Zx (kr1 hE rfl rfl hM.kept))
 ·intro hb1
  have hF:=Zt hF hb1
  refine wp_skip (Zp (wp_seq (Zb (Zc hE rfl fun a hE=>Ze ?_))))
  obtain ⟨j2,hl3,hF4⟩:=bind_some hF
  refine ZM (fun a w=>∃ s5 : Int,j2 = Fl.nx s5 ∧ Env 27 a [(1,vI s5)] ∧ M (Old w0) w0 w []) ?_ ?_
  ·skip
   refine wp_block ?_
   refine ZE (fun (s6 : Int × Int) a w=>Env 27 a [(0,v0_1),(1,vI s6.1),(5,vI s6.2)] ∧ M (Old w0) w0 w []) hl3 ⟨hE.sub ⟨rfl,rfl,rfl,trivial⟩,hM⟩ ?_
   rintro s6 a w ⟨hE,hM⟩ o9 hs7 hx8
   unfold Ut at hs7
   refine wp_seq (Zb (Zd hE rfl fun a hE=>Zd hE rfl fun a hE=>Z7 hE rfl Tryz.underlying23 (hM.rd hv0_1) fun a hE=>Zg hE rfl rfl rfl fun a hE=>Ze ?_))
   refine Zo hE rfl ?_ ?_
   ·intro hb10
    have hs7:=Zs hs7 hb10
    refine wp_skip (Zp (wp_seq (wp_block (Zb (Zd hE rfl fun a hE=>Zd hE rfl ?_))))); intro a hE
    obtain ⟨x11,hi13,hs7⟩:=bix hs7
    refine Z9 hE rfl rfl Tryz.underlying23 XQ (hM.rd hv0_1) hi13.1 ?_; intro a hE
    obtain ⟨cs14,hs15,hA16⟩:=UO hv0_1 hi13.2 -- ^
    obtain ⟨u17,rfl⟩:=Vx hs15 -- ^
    have h18:=hs15 -- ^
    refine ZA (v:=u17) hE rfl XQ rfl (hM.atk hA16 (US hv0_1 hi13.2)) fun a hE=>Zd hE rfl ?_; intro a hE
    obtain ⟨r19,e20,hs7⟩:=bind_some hs7
    refine Zy hE rfl (cbm Tryz.func117) (HM _ x11 u17 (hM.rdo h18) s6.1 r19 e20) ?_
    rintro v w a ⟨rfl,hK⟩ hE
    have hM:=hM.keep hK
    refine Zc hE rfl fun a hE=>Ze (Zb (Zd hE rfl fun a hE=>Zg hE rfl rfl rfl fun a hE=>Ze ?_))
    refine Zo hE rfl ?_ ?_
    ·intro hb21
     have hs7:=Zs hs7 hb21
     refine Zb (Zc hE rfl fun a hE=>Ze ?_)
     obtain rfl:=hx8 _ (ois hs7)
     obtain rfl:=Option.some.inj hF4
     exact wp_ret (XW (Zx (Zx (XW (Zx (Zx (kr1 hE rfl rfl hM.kept)))))))
    ·intro hb21
     have hs7:=Zt hs7 hb21
     refine wp_skip (Yc (Zp (wp_region_lit (Zd hE rfl fun a hE=>Zg hE rfl rfl rfl fun a hE=>Zc hE rfl fun a hE=>Zf (Zh ?_)))))
     exact ⟨_,(ois hs7),hE.sub ⟨rfl,rfl,rfl,trivial⟩,hM⟩
   ·intro hb10
    have hs7:=Zt hs7 hb10
    refine wp_exit (Zm (Zm (Yb ?_)))
    obtain rfl:=hx8 _ (ois hs7)
    refine Zh ?_
    exact ⟨s6.1,rfl,hE.sub ⟨rfl,trivial⟩,hM⟩
  ·skip
   rintro a w ⟨s5,ht,hE,hM⟩
   subst ht
   have hF4:=Tw hF4
   refine Zp (Zb (Zd hE rfl fun a hE=>Zc hE rfl fun a hE=>Ze ?_))
   obtain rfl:=Option.some.inj hF4
   exact wp_ret (kr1 hE rfl rfl hM.kept)
def Xp (p0 : (List Int)) (p1 : Int) : Option (Int) :=
 if (decide ((wr (p1 - (p0.length : Int))) < 0)) = true then (some (-1)) else (some (wr (p1 - (p0.length : Int))))
theorem JX (w0 : World) (p0 : (List Int)) (v0_1 : Value) (hv0_1 : Ro w0 p0 [v0_1]) (p1 : Int) (r : Int) (hF : Xp p0 p1 = some r) :
  Calls Tryz.prog 42 [v0_1,vI p1].toArray w0 (Rt w0 (vI r)):=by
 refine ce Tryz.func42 ?_
 intro a hE
 have hM:=M.start w0
 unfold Xp at hF
 refine Zb (Zc hE rfl fun a hE=>Ze (Zb (Zd hE rfl fun a hE=>Zd hE rfl fun a hE=>Z7 hE rfl Tryz.underlying24 (hM.rd hv0_1) fun a hE=>Zg hE rfl rfl rfl fun a hE=>Zc hE rfl fun a hE=>Ze (wp_seq (Zb (Zd hE rfl fun a hE=>Zg hE rfl rfl rfl fun a hE=>Ze ?_))))))
 refine Zo hE rfl ?_ ?_
 ·intro hb1
  have hF:=Zs hF hb1
  refine Zb (Zc hE rfl fun a hE=>Ze ?_)
  obtain rfl:=Option.some.inj hF
  exact wp_ret (Zx (kr1 hE rfl rfl hM.kept))
 ·intro hb1
  have hF:=Zt hF hb1
  refine wp_skip (Zp (Zb (Zd hE rfl fun a hE=>Zc hE rfl fun a hE=>Ze ?_)))
  obtain rfl:=Option.some.inj hF
  exact wp_ret (kr1 hE rfl rfl hM.kept)
def U5 (p0 : GBlobs) (p1 : Int) : Option (Int) :=
 (Wr p0.Keys p1).bind fun r3=>if (decide (r3 < 0)) = true then (some (-1)) else ((X3 p0.Data r3).bind fun r6=>if (decide (r6 < 0)) = true then (some (-1)) else ((Xp p0.Counts r6).bind fun r9=>if (decide (r9 < 0)) = true then (some (-1)) else (some r9)))
theorem Bp (w0 : World) (p0 : GBlobs) (v0_1 : Value) (hv0_1 : Ro w0 p0.Keys [v0_1]) (v0_2 : Value) (hv0_2 : Ro w0 p0.Data [v0_2]) (v0_3 : Value) (hv0_3 : Ro w0 p0.Counts [v0_3]) (p1 : Int) (r : Int) (hF : U5 p0 p1 = some r) :
  Calls Tryz.prog 9 [(Value.agg (cat [[v0_1],[v0_2],[v0_3]]).toArray),vI p1].toArray w0 (Rt w0 (vI r)):=by
 refine ce Tryz.func9 ?_
 intro a hE
 have hM:=M.start w0
 unfold U5 at hF
 refine Zb (ZZ (cs:=cat [[v0_1],[v0_2],[v0_3]]) hE hM Za ld rfl rfl fun b1 w a hM hE=>Zc hE rfl fun a hE=>Ze (Zb (Zw hE rfl (kr) fun a hE=>ZA (v:=v0_1) hE rfl ty22 rfl (At.cat (pre:=[]) hM.rawAt0 cl0) fun a hE=>Zd hE rfl ?_))); intro a hE
 obtain ⟨r3,e4,hF⟩:=bind_some hF
 refine Zy hE rfl (cbm Tryz.func40) (Jp _ p0.Keys v0_1 (hM.rdo hv0_1) p1 r3 e4) ?_
 rintro v w a ⟨rfl,hK⟩ hE
 have hM:=hM.keep hK
 refine Zc hE rfl fun a hE=>Ze (wp_seq (Zb (Zd hE rfl fun a hE=>Zg hE rfl rfl rfl fun a hE=>Ze ?_)))
 refine Zo hE rfl ?_ ?_
 ·intro hb5
  have hF:=Zs hF hb5
  refine Zb (Zc hE rfl fun a hE=>Ze ?_)
  obtain rfl:=Option.some.inj hF
  exact wp_ret (Zx (kr1 hE rfl rfl hM.kept))
 ·intro hb5
  have hF:=Zt hF hb5
  refine wp_skip (Zp (Zb (Zw hE rfl (jJ) fun a hE=>ZA (v:=v0_2) hE rfl Tg rfl (At.cat (pre:=[[v0_1]]) hM.rawAt0 ck) fun a hE=>Zd hE rfl ?_))); intro a hE
  obtain ⟨r6,e7,hF⟩:=bind_some hF
  refine Zy hE rfl (cbm Tryz.func41) (J2 _ p0.Data v0_2 (hM.rdo hv0_2) r3 r6 e7) ?_
  rintro v w a ⟨rfl,hK⟩ hE
  have hM:=hM.keep hK
  refine Zc hE rfl fun a hE=>Ze (wp_seq (Zb (Zd hE rfl fun a hE=>Zg hE rfl rfl rfl fun a hE=>Ze ?_)))
  refine Zo hE rfl ?_ ?_
  ·intro hb8
   have hF:=Zs hF hb8
   refine Zb (Zc hE rfl fun a hE=>Ze ?_)
   obtain rfl:=Option.some.inj hF
   exact wp_ret (Zx (kr1 hE rfl rfl hM.kept))
  ·intro hb8
   have hF:=Zt hF hb8
   refine wp_skip (Zp (Zb (Zw hE rfl (jL) fun a hE=>ZA (v:=v0_3) hE rfl U3 rfl (At.cat (pre:=[[v0_1],[v0_2]]) hM.rawAt0 ck) fun a hE=>Zd hE rfl ?_))); intro a hE
   obtain ⟨r9,e10,hF⟩:=bind_some hF
   refine Zy hE rfl (cbm Tryz.func42) (JX _ p0.Counts v0_3 (hM.rdo hv0_3) r6 r9 e10) ?_
   rintro v w a ⟨rfl,hK⟩ hE
   have hM:=hM.keep hK
   refine Zc hE rfl fun a hE=>Ze (wp_seq (Zb (Zd hE rfl fun a hE=>Zg hE rfl rfl rfl fun a hE=>Ze ?_)))
   refine Zo hE rfl ?_ ?_
   ·intro hb11
    have hF:=Zs hF hb11
    refine Zb (Zc hE rfl fun a hE=>Ze ?_)
    obtain rfl:=Option.some.inj hF
    exact wp_ret (Zx (kr1 hE rfl rfl hM.kept))
   ·intro hb11
    have hF:=Zt hF hb11
    refine wp_skip (Zp (Zb (Zd hE rfl fun a hE=>Zc hE rfl fun a hE=>Ze ?_)))
    obtain rfl:=Option.some.inj hF
    exact wp_ret (kr1 hE rfl rfl hM.kept)
def Uv (p0 : (Vector UInt8 32)) (s10 : (Vector UInt8 32) × Int) : Option (Fl ((Vector UInt8 32) × Int) (Vector UInt8 32)) :=
 if (decide (s10.2 < 32)) = true then ((ZI p0 s10.2).bind fun x16=>(ZI s10.1 s10.2).bind fun x19=>some (Fl.nx ((s10.1.setIfInBounds (s10.2).toNat x16),wr (s10.2 + 1)))) else (some (Fl.ex s10.1))
def YU (p0 : (Vector UInt8 32)) : Option ((Vector UInt8 32)) :=
 (Zz (Uv p0) ((Vector.replicate 32 (0 : UInt8)),0)).bind fun j7=>some j7
theorem UN (w0 : World) (p0 : (Vector UInt8 32)) (r : (Vector UInt8 32)) (hF : YU p0 = some r) :
  Calls Tryz.prog 12 [(Value.agg (enc p0).toArray)].toArray w0 (Rt w0 (Value.agg (enc r).toArray)):=by
 refine ce Tryz.func12 ?_
 intro a hE
 have hM:=M.start w0
 unfold YU at hF
 refine Zb (ZZ (cs:=enc p0) hE hM Za ld rfl rfl fun b1 w a hM hE=>ZC hE hM Z3 fun b3 w a hM hE=>Ze (Zb (ZC hE hM Z3 fun b5 w a hM hE=>Ze (wp_seq (Zb (Zc hE rfl fun a hE=>Ze ?_))))))
 obtain ⟨j7,hl8,hF9⟩:=bind_some hF
 refine ZM (fun a w=>Env 15 a [(2,(ptr b3 0)),(3,(ptr b5 0))] ∧ M (Old w0) w0 w [raw b5 (enc j7),raw b3 (enc (Vector.replicate 32 (0 : UInt8)))]) ?_ ?_
 ·skip
  refine wp_block ?_
  refine ZE (fun (s10 : (Vector UInt8 32) × Int) a w=>Env 15 a [(1,(ptr b1 0)),(2,(ptr b3 0)),(3,(ptr b5 0)),(4,vI s10.2)] ∧ M (Old w0) w0 w [raw b5 (enc s10.1),raw b3 (enc (Vector.replicate 32 (0 : UInt8))),raw b1 (enc p0)]) hl8 ⟨hE.sub ⟨rfl,rfl,rfl,rfl,trivial⟩,hM⟩ ?_
  rintro s10 a w ⟨hE,hM⟩ o13 hs11 hx12
  unfold Uv at hs11
  refine wp_seq (Zb (Zd hE rfl fun a hE=>Zg hE rfl rfl rfl fun a hE=>Ze ?_))
  refine Zo hE rfl ?_ ?_
  ·intro hb14
   have hs11:=Zs hs11 hb14
   refine wp_skip (Zp (wp_seq (wp_block (wp_region_lit (Zd hE rfl fun a hE=>Zd hE rfl ?_))))); intro a hE
   obtain ⟨x16,hi15,hs11⟩:=bvx hs11
   refine ZF hE rfl rfl Tryz.underlying27 ty5 hi15.1 fun a hE=>ZA (v:=(vB x16)) hE rfl ty5 rfl (At.vec hM.rawAt2 hi15.2) ?_; intro a hE
   obtain ⟨x19,hi18,hs11⟩:=bvx hs11
   refine ZF hE rfl rfl Tryz.underlying35 ty5 hi18.1 fun a hE=>Zn (seg:=[vB x16]) (cs':=enc (s10.1.setIfInBounds (s10.2).toNat x16)) hE hM Za rfl rfl rfl ty5 rfl (ZN (v:=s10.1) (x:=x16) hi18.1) (Flat.cell (x16 : UInt8)) (ZD (v:=s10.1) (x:=x16) hi18.1) fun w a hM hE=>Zf (Yc (Zp (wp_region_lit (Zd hE rfl fun a hE=>Zg hE rfl rfl rfl fun a hE=>Zc hE rfl fun a hE=>Zf (Zh ?_)))))
   exact ⟨_,(ois hs11),hE.sub ⟨rfl,rfl,rfl,rfl,trivial⟩,hM⟩
  ·intro hb14
   have hs11:=Zt hs11 hb14
   refine wp_exit (Zm (Zm (Yb ?_)))
   obtain rfl:=hx12 _ (ois hs11)
   refine Zh ?_
   have hM:=M.fst (l:=[_,_]) hM.pull1.pull1
   exact ⟨hE.sub ⟨rfl,rfl,trivial⟩,hM⟩
 ·skip
  rintro a w ⟨hE,hM⟩
  refine Zp (Zb (Zq hE rfl Z3 rfl hM.rawAt0 (Flat.len _) ?_)); intro a hE
  have hM:=hM.pull1
  refine Zn (seg:=enc j7) (cs':=enc j7) hE hM Za rfl rfl rfl Z3 (Flat.len _) (zle flq) (Flat.cell _) (Zk flq) fun w a hM hE=>Ze ?_
  obtain rfl:=Option.some.inj hF9
  have hq22 : Yz Tryz.prog _ _ (.cell 2 35) _:=ZS hE rfl Z3 rfl hM.rawAt0 (Flat.len _) rfl
  exact wp_ret (ZP hE rfl hq22 ⟨_,rfl,rfl,hM.kept⟩)
def V0 (p0 : (List (Vector UInt8 32))) (s10 : (List (Vector UInt8 32)) × Int) : Option (Fl ((List (Vector UInt8 32)) × Int) (List (Vector UInt8 32))) :=
 if (decide (s10.2 < (p0.length : Int))) = true then ((idx p0 s10.2).bind fun x17=>(YU x17).bind fun r20=>(idx s10.1 s10.2).bind fun x22=>some (Fl.nx ((s10.1.set (s10.2).toNat r20),wr (s10.2 + 1)))) else (some (Fl.ex s10.1))
def Vl (p0 : (List (Vector UInt8 32))) : Option ((List (Vector UInt8 32))) :=
 (mkS 32 (Vector.replicate 32 (0 : UInt8)) (p0.length : Int)).bind fun l1=>(Zz (V0 p0) (l1,0)).bind fun j5=>some j5
theorem Jb (w0 : World) (p0 : (List (Vector UInt8 32))) (v0_1 : Value) (hv0_1 : Ro w0 p0 [v0_1]) (r : (List (Vector UInt8 32))) (hF : Vl p0 = some r) :
  Calls Tryz.prog 46 [v0_1].toArray w0 (fun en w'=>∃ v,en = .returned v ∧ (∃ (y1 : Value),v = y1 ∧ Fr w0 w' [osl NoB (r : List (Vector UInt8 32)) y1] ∧ Kept (Old w0) w0 w')):=by
 refine ce Tryz.func46 ?_
 intro a hE
 have hM:=M.start w0
 unfold Vl at hF
 refine Zb (Zc hE rfl fun a hE=>Ze (Zb (Zd hE rfl fun a hE=>Z7 hE rfl Tryz.underlying22 (hM.rd hv0_1) ?_))); intro a hE
 obtain ⟨l1,e2,hF⟩:=bind_some hF
 refine Aq hE hM Za ld rfl rfl Tryz.underlying29 Z3 rfl (by decide) (fun _=>Tz.2 ⟨rfl,rfl⟩) e2 fun u3 w a hM hE=>Zc hE rfl fun a hE=>Ze (wp_seq (Zb (Zc hE rfl fun a hE=>Ze ?_)))
 obtain ⟨j5,hl6,hF7⟩:=bind_some hF
 refine ZM (fun a w=>∃ (u8 : Value),Env 23 a [(3,u8)] ∧ M (Old w0) w0 w [osl NoB (j5 : List (Vector UInt8 32)) u8]) ?_ ?_
 ·skip
  refine wp_block ?_
  refine ZE (fun (s10 : (List (Vector UInt8 32)) × Int) a w=>∃ (u11 : Value),Env 23 a [(0,v0_1),(3,u11),(4,vI s10.2)] ∧ M (Old w0) w0 w [osl NoB (s10.1 : List (Vector UInt8 32)) u11]) hl6 ⟨u3,hE.sub ⟨rfl,rfl,rfl,trivial⟩,hM⟩ ?_
  rintro s10 a w ⟨u11,hE,hM⟩ o15 hs13 hx14
  unfold V0 at hs13
  refine wp_seq (Zb (Zd hE rfl fun a hE=>Zd hE rfl fun a hE=>Z7 hE rfl Tryz.underlying22 (hM.rd hv0_1) fun a hE=>Zg hE rfl rfl rfl fun a hE=>Ze ?_))
  refine Zo hE rfl ?_ ?_
  ·intro hb16
   have hs13:=Zs hs13 hb16
   refine wp_skip (Zp (wp_seq (wp_block (wp_region_lit (Zd hE rfl fun a hE=>Zd hE rfl fun a hE=>Zd hE rfl fun a hE=>Zd hE rfl ?_))))); intro a hE
   obtain ⟨x17,hi19,hs13⟩:=bix hs13
   refine Z9 hE rfl rfl Tryz.underlying22 ty27 (hM.rd hv0_1) hi19.1 fun a hE=>Zq hE rfl ty27 rfl (Yl (hM.rd hv0_1) hi19.2) (Flat.len _) ?_; intro a hE
   obtain ⟨r20,e21,hs13⟩:=bind_some hs13
   refine Zy hE rfl cb12 (UN _ x17 r20 e21) ?_
   rintro v w a ⟨rfl,hK⟩ hE
   have hM:=hM.keep hK
   obtain ⟨x22,hi24,hs13⟩:=bix hs13
   refine Z9 hE rfl rfl Tryz.underlying29 Z3 (hM.sl (pre:=[]) noB) hi24.1 fun a hE=>Tv (i:=(s10.2).toNat) (k0:=0) (seg:=enc r20) (xo:=x22) (xn:=r20) hE hM Za rfl rfl rfl Z3 (Flat.len _) (Flat.cell _) hi24.2 (Qn (m:=32) (Flat.len _) (by decide)) (Zk flq) fun w a hM hE=>Zf (Yc (Zp (wp_region_lit (Zd hE rfl fun a hE=>Zg hE rfl rfl rfl fun a hE=>Zc hE rfl fun a hE=>Zf (Zh ?_)))))
   exact ⟨_,(ois hs13),u11,hE.sub ⟨rfl,rfl,rfl,trivial⟩,hM⟩
  ·intro hb16
   have hs13:=Zt hs13 hb16
   refine wp_exit (Zm (Zm (Yb ?_)))
   obtain rfl:=hx14 _ (ois hs13)
   refine Zh ?_
   exact ⟨u11,hE.sub ⟨rfl,trivial⟩,hM⟩
 ·skip
  rintro a w ⟨u8,hE,hM⟩
  refine Zp (Zb (Zd hE rfl fun a hE=>Zc hE rfl fun a hE=>Ze ?_))
  obtain rfl:=Option.some.inj hF7
  exact wp_ret (ZP hE rfl (ZR hE rfl) ⟨_,rfl,u8,rfl,hM.outF (Yu XD),hM.kept⟩)
def UQ (p0 : (List UInt8)) (s10 : (List UInt8) × Int) : Option (Fl ((List UInt8) × Int) (List UInt8)) :=
 if (decide (s10.2 < (p0.length : Int))) = true then ((idx p0 s10.2).bind fun x17=>(idx s10.1 s10.2).bind fun x20=>some (Fl.nx ((s10.1.set (s10.2).toNat x17),wr (s10.2 + 1)))) else (some (Fl.ex s10.1))
def Vd (p0 : (List UInt8)) : Option ((List UInt8)) :=
 (mkS 1 (0 : UInt8) (p0.length : Int)).bind fun l1=>(Zz (UQ p0) (l1,0)).bind fun j5=>some j5
theorem HR (w0 : World) (p0 : (List UInt8)) (v0_1 : Value) (hv0_1 : Ro w0 p0 [v0_1]) (r : (List UInt8)) (hF : Vd p0 = some r) :
  Calls Tryz.prog 18 [v0_1].toArray w0 (fun en w'=>∃ v,en = .returned v ∧ (∃ (y1 : Value),v = y1 ∧ Fr w0 w' [osl NoB (r : List UInt8) y1] ∧ Kept (Old w0) w0 w')):=by
 refine ce Tryz.func18 ?_
 intro a hE
 have hM:=M.start w0
 unfold Vd at hF
 refine Zb (Zc hE rfl fun a hE=>Ze (Zb (Zd hE rfl fun a hE=>Z7 hE rfl Tryz.underlying40 (hM.rd hv0_1) ?_))); intro a hE
 obtain ⟨l1,e2,hF⟩:=bind_some hF
 refine Aq hE hM Za ld rfl rfl Tryz.underlying40 ty5 rfl (by decide) (fun _=>Tz.2 ⟨rfl,rfl⟩) e2 fun u3 w a hM hE=>Zc hE rfl fun a hE=>Ze (wp_seq (Zb (Zc hE rfl fun a hE=>Ze ?_)))
 obtain ⟨j5,hl6,hF7⟩:=bind_some hF
 refine ZM (fun a w=>∃ (u8 : Value),Env 22 a [(3,u8)] ∧ M (Old w0) w0 w [osl NoB (j5 : List UInt8) u8]) ?_ ?_
 ·skip
  refine wp_block ?_
  refine ZE (fun (s10 : (List UInt8) × Int) a w=>∃ (u11 : Value),Env 22 a [(0,v0_1),(3,u11),(4,vI s10.2)] ∧ M (Old w0) w0 w [osl NoB (s10.1 : List UInt8) u11]) hl6 ⟨u3,hE.sub ⟨rfl,rfl,rfl,trivial⟩,hM⟩ ?_
  rintro s10 a w ⟨u11,hE,hM⟩ o15 hs13 hx14
  unfold UQ at hs13
  refine wp_seq (Zb (Zd hE rfl fun a hE=>Zd hE rfl fun a hE=>Z7 hE rfl Tryz.underlying40 (hM.rd hv0_1) fun a hE=>Zg hE rfl rfl rfl fun a hE=>Ze ?_))
  refine Zo hE rfl ?_ ?_
  ·intro hb16
   have hs13:=Zs hs13 hb16
   refine wp_skip (Zp (wp_seq (wp_block (wp_region_lit (Zd hE rfl fun a hE=>Zd hE rfl fun a hE=>Zd hE rfl fun a hE=>Zd hE rfl ?_))))); intro a hE
   obtain ⟨x17,hi19,hs13⟩:=bix hs13
   refine Z9 hE rfl rfl Tryz.underlying40 ty5 (hM.rd hv0_1) hi19.1 fun a hE=>ZA (v:=(vB x17)) hE rfl ty5 rfl (Yl (hM.rd hv0_1) hi19.2) ?_; intro a hE
   obtain ⟨x20,hi22,hs13⟩:=bix hs13
   refine Z9 hE rfl rfl Tryz.underlying40 ty5 (hM.sl (pre:=[]) noB) hi22.1 fun a hE=>Tv (i:=(s10.2).toNat) (k0:=0) (seg:=[vB x17]) (xo:=x20) (xn:=x17) hE hM Za rfl rfl rfl ty5 rfl (Flat.cell (x17 : UInt8)) hi22.2 (Qn (m:=1) rfl (by decide)) (Zk rfl) fun w a hM hE=>Zf (Yc (Zp (wp_region_lit (Zd hE rfl fun a hE=>Zg hE rfl rfl rfl fun a hE=>Zc hE rfl fun a hE=>Zf (Zh ?_)))))
   exact ⟨_,(ois hs13),u11,hE.sub ⟨rfl,rfl,rfl,trivial⟩,hM⟩
  ·intro hb16
   have hs13:=Zt hs13 hb16
   refine wp_exit (Zm (Zm (Yb ?_)))
   obtain rfl:=hx14 _ (ois hs13)
   refine Zh ?_
   exact ⟨u11,hE.sub ⟨rfl,trivial⟩,hM⟩
 ·skip
  rintro a w ⟨u8,hE,hM⟩
  refine Zp (Zb (Zd hE rfl fun a hE=>Zc hE rfl fun a hE=>Ze ?_))
  obtain rfl:=Option.some.inj hF7
  exact wp_ret (ZP hE rfl (ZR hE rfl) ⟨_,rfl,u8,rfl,hM.outF (Yu XD),hM.kept⟩)
def Uu (p0 : (List (List UInt8))) (s10 : (List (List UInt8)) × Int) : Option (Fl ((List (List UInt8)) × Int) (List (List UInt8))) :=
 if (decide (s10.2 < (p0.length : Int))) = true then ((idx p0 s10.2).bind fun x17=>(Vd x17).bind fun r25=>(idx s10.1 s10.2).bind fun x28=>some (Fl.nx ((s10.1.set (s10.2).toNat r25),wr (s10.2 + 1)))) else (some (Fl.ex s10.1))
def VG (p0 : (List (List UInt8))) : Option ((List (List UInt8))) :=
 (mkS 24 ([] : (List UInt8)) (p0.length : Int)).bind fun l1=>(Zz (Uu p0) (l1,0)).bind fun j5=>some j5
theorem JY (w0 : World) (p0 : (List (List UInt8))) (v0_1 : Value) (hv0_1 : Ro w0 p0 [v0_1]) (r : (List (List UInt8))) (hF : VG p0 = some r) :
  Calls Tryz.prog 47 [v0_1].toArray w0 (fun en w'=>∃ v,en = .returned v ∧ (∃ (y1 : Value),v = y1 ∧ Fr w0 w' [osl NoB (r : List (List UInt8)) y1] ∧ Kept (Old w0) w0 w')):=by
 refine ce Tryz.func47 ?_
 intro a hE
 have hM:=M.start w0
 unfold VG at hF
 refine Zb (Zc hE rfl fun a hE=>Ze (Zb (Zd hE rfl fun a hE=>Z7 hE rfl Tryz.underlying23 (hM.rd hv0_1) ?_))); intro a hE
 obtain ⟨l1,e2,hF⟩:=bind_some hF
 refine Aq hE hM Za ld rfl rfl Tryz.underlying23 XQ rfl (by decide) (fun _=>Qh) e2 fun u3 w a hM hE=>Zc hE rfl fun a hE=>Ze (wp_seq (Zb (Zc hE rfl fun a hE=>Ze ?_)))
 obtain ⟨j5,hl6,hF7⟩:=bind_some hF
 refine ZM (fun a w=>∃ (u8 : Value),Env 23 a [(3,u8)] ∧ M (Old w0) w0 w [osl NoB (j5 : List (List UInt8)) u8]) ?_ ?_
 ·skip
  refine wp_block ?_
  refine ZE (fun (s10 : (List (List UInt8)) × Int) a w=>∃ (u11 : Value),Env 23 a [(0,v0_1),(3,u11),(4,vI s10.2)] ∧ M (Old w0) w0 w [osl NoB (s10.1 : List (List UInt8)) u11]) hl6 ⟨u3,hE.sub ⟨rfl,rfl,rfl,trivial⟩,hM⟩ ?_
  rintro s10 a w ⟨u11,hE,hM⟩ o15 hs13 hx14
  unfold Uu at hs13
  refine wp_seq (Zb (Zd hE rfl fun a hE=>Zd hE rfl fun a hE=>Z7 hE rfl Tryz.underlying23 (hM.rd hv0_1) fun a hE=>Zg hE rfl rfl rfl fun a hE=>Ze ?_))
  refine Zo hE rfl ?_ ?_
  ·intro hb16
   have hs13:=Zs hs13 hb16
   refine wp_skip (Zp (wp_seq (wp_block (wp_region_lit (Zd hE rfl fun a hE=>Zd hE rfl fun a hE=>Zd hE rfl fun a hE=>Zd hE rfl ?_))))); intro a hE
   obtain ⟨x17,hi19,hs13⟩:=bix hs13
   refine Z9 hE rfl rfl Tryz.underlying23 XQ (hM.rd hv0_1) hi19.1 ?_; intro a hE
   obtain ⟨cs20,hs21,hA22⟩:=UO hv0_1 hi19.2 -- ^
   obtain ⟨u23,rfl⟩:=Vx hs21 -- ^
   have h24:=hs21 -- ^
   refine ZA (v:=u23) hE rfl XQ rfl (hM.atk hA22 (US hv0_1 hi19.2)) ?_; intro a hE
   obtain ⟨r25,e26,hs13⟩:=bind_some hs13
   refine Zy hE rfl (cbm Tryz.func18) (HR _ x17 u23 (hM.rdo h24) r25 e26) ?_
   rintro u27 w a ⟨_,rfl,hFr,hK⟩ hE
   have hM:=hM.add hK hFr
   obtain ⟨x28,hi30,hs13⟩:=bix hs13
   refine Z9 hE rfl rfl Tryz.underlying23 XQ (hM.sl (pre:=[_]) noB) hi30.1 ?_; intro a hE
   have hc31:=YS (hM.sl (pre:=[]) noB)
   have hM:=((hM.pack1 (it:=own NoB r25 ([u27])) (Vw noB) (fun f0 q0=>(Wh.sat q0))).pull1).pull1
   refine jX (i:=(s10.2).toNat) (seg:=[u27]) hE hM noB Za rfl rfl hc31 XQ (by omega) fun w a hM hE=>Zf (Yc (Zp (wp_region_lit (Zd hE rfl fun a hE=>Zg hE rfl rfl rfl fun a hE=>Zc hE rfl fun a hE=>Zf (Zh ?_)))))
   exact ⟨_,(ois hs13),u11,hE.sub ⟨rfl,rfl,rfl,trivial⟩,hM⟩
  ·intro hb16
   have hs13:=Zt hs13 hb16
   refine wp_exit (Zm (Zm (Yb ?_)))
   obtain rfl:=hx14 _ (ois hs13)
   refine Zh ?_
   exact ⟨u11,hE.sub ⟨rfl,trivial⟩,hM⟩
 ·skip
  rintro a w ⟨u8,hE,hM⟩
  refine Zp (Zb (Zd hE rfl fun a hE=>Zc hE rfl fun a hE=>Ze ?_))
  obtain rfl:=Option.some.inj hF7
  exact wp_ret (ZP hE rfl (ZR hE rfl) ⟨_,rfl,u8,rfl,hM.outF (Yu XD),hM.kept⟩)
def UB (p0 : (List Int)) (s10 : (List Int) × Int) : Option (Fl ((List Int) × Int) (List Int)) :=
 if (decide (s10.2 < (p0.length : Int))) = true then ((idx p0 s10.2).bind fun x17=>(idx s10.1 s10.2).bind fun x20=>some (Fl.nx ((s10.1.set (s10.2).toNat x17),wr (s10.2 + 1)))) else (some (Fl.ex s10.1))
def VJ (p0 : (List Int)) : Option ((List Int)) :=
 (mkS 8 (0 : Int) (p0.length : Int)).bind fun l1=>(Zz (UB p0) (l1,0)).bind fun j5=>some j5
theorem Hg (w0 : World) (p0 : (List Int)) (v0_1 : Value) (hv0_1 : Ro w0 p0 [v0_1]) (r : (List Int)) (hF : VJ p0 = some r) :
  Calls Tryz.prog 48 [v0_1].toArray w0 (fun en w'=>∃ v,en = .returned v ∧ (∃ (y1 : Value),v = y1 ∧ Fr w0 w' [osl NoB (r : List Int) y1] ∧ Kept (Old w0) w0 w')):=by
 refine ce Tryz.func48 ?_
 intro a hE
 have hM:=M.start w0
 unfold VJ at hF
 refine Zb (Zc hE rfl fun a hE=>Ze (Zb (Zd hE rfl fun a hE=>Z7 hE rfl Tryz.underlying24 (hM.rd hv0_1) ?_))); intro a hE
 obtain ⟨l1,e2,hF⟩:=bind_some hF
 refine Aq hE hM Za ld rfl rfl Tryz.underlying24 ty2 rfl (by decide) (fun _=>Tz.2 ⟨rfl,rfl⟩) e2 fun u3 w a hM hE=>Zc hE rfl fun a hE=>Ze (wp_seq (Zb (Zc hE rfl fun a hE=>Ze ?_)))
 obtain ⟨j5,hl6,hF7⟩:=bind_some hF
 refine ZM (fun a w=>∃ (u8 : Value),Env 22 a [(3,u8)] ∧ M (Old w0) w0 w [osl NoB (j5 : List Int) u8]) ?_ ?_
 ·skip
  refine wp_block ?_
  refine ZE (fun (s10 : (List Int) × Int) a w=>∃ (u11 : Value),Env 22 a [(0,v0_1),(3,u11),(4,vI s10.2)] ∧ M (Old w0) w0 w [osl NoB (s10.1 : List Int) u11]) hl6 ⟨u3,hE.sub ⟨rfl,rfl,rfl,trivial⟩,hM⟩ ?_
  rintro s10 a w ⟨u11,hE,hM⟩ o15 hs13 hx14
  unfold UB at hs13
  refine wp_seq (Zb (Zd hE rfl fun a hE=>Zd hE rfl fun a hE=>Z7 hE rfl Tryz.underlying24 (hM.rd hv0_1) fun a hE=>Zg hE rfl rfl rfl fun a hE=>Ze ?_))
  refine Zo hE rfl ?_ ?_
  ·intro hb16
   have hs13:=Zs hs13 hb16
   refine wp_skip (Zp (wp_seq (wp_block (wp_region_lit (Zd hE rfl fun a hE=>Zd hE rfl fun a hE=>Zd hE rfl fun a hE=>Zd hE rfl ?_))))); intro a hE
   obtain ⟨x17,hi19,hs13⟩:=bix hs13
   refine Z9 hE rfl rfl Tryz.underlying24 ty2 (hM.rd hv0_1) hi19.1 fun a hE=>ZA (v:=(vI x17)) hE rfl ty2 rfl (Yl (hM.rd hv0_1) hi19.2) ?_; intro a hE
   obtain ⟨x20,hi22,hs13⟩:=bix hs13
   refine Z9 hE rfl rfl Tryz.underlying24 ty2 (hM.sl (pre:=[]) noB) hi22.1 fun a hE=>Tv (i:=(s10.2).toNat) (k0:=0) (seg:=[vI x17]) (xo:=x20) (xn:=x17) hE hM Za rfl rfl rfl ty2 rfl (Flat.cell (x17 : Int)) hi22.2 (Qn (m:=1) rfl (by decide)) (Zk rfl) fun w a hM hE=>Zf (Yc (Zp (wp_region_lit (Zd hE rfl fun a hE=>Zg hE rfl rfl rfl fun a hE=>Zc hE rfl fun a hE=>Zf (Zh ?_)))))
   exact ⟨_,(ois hs13),u11,hE.sub ⟨rfl,rfl,rfl,trivial⟩,hM⟩
  ·intro hb16
   have hs13:=Zt hs13 hb16
   refine wp_exit (Zm (Zm (Yb ?_)))
   obtain rfl:=hx14 _ (ois hs13)
   refine Zh ?_
   exact ⟨u11,hE.sub ⟨rfl,trivial⟩,hM⟩
 ·skip
  rintro a w ⟨u8,hE,hM⟩
  refine Zp (Zb (Zd hE rfl fun a hE=>Zc hE rfl fun a hE=>Ze ?_))
  obtain rfl:=Option.some.inj hF7
  exact wp_ret (ZP hE rfl (ZR hE rfl) ⟨_,rfl,u8,rfl,hM.outF (Yu XD),hM.kept⟩)
def XO (p0 : GBlobs) : Option (GBlobs) :=
 (Vl p0.Keys).bind fun r7=>(VG p0.Data).bind fun r10=>(VJ p0.Counts).bind fun r13=>some (⟨r7,r10,r13⟩ : GBlobs)
theorem Tf (w0 : World) (p0 : GBlobs) (v0_1 : Value) (hv0_1 : Ro w0 p0.Keys [v0_1]) (v0_2 : Value) (hv0_2 : Ro w0 p0.Data [v0_2]) (v0_3 : Value) (hv0_3 : Ro w0 p0.Counts [v0_3]) (r : GBlobs) (hF : XO p0 = some r) :
  Calls Tryz.prog 11 [(Value.agg (cat [[v0_1],[v0_2],[v0_3]]).toArray)].toArray w0 (fun en w'=>∃ v,en = .returned v ∧ (∃ (y1 : Value) (y2 : Value) (y3 : Value),v = (Value.agg (cat [[y1],[y2],[y3]]).toArray) ∧ Fr w0 w' [osl NoB (r.Keys : List (Vector UInt8 32)) y1,osl NoB (r.Data : List (List UInt8)) y2,osl NoB (r.Counts : List Int) y3] ∧ Kept (Old w0) w0 w')):=by
 refine ce Tryz.func11 ?_
 intro a hE
 have hM:=M.start w0
 unfold XO at hF
 refine Zb (ZZ (cs:=cat [[v0_1],[v0_2],[v0_3]]) hE hM Za ld rfl rfl fun b1 w a hM hE=>ZC hE hM Yy fun b3 w a hM hE=>Ze (Zb (ZC hE hM Yy fun b5 w a hM hE=>Ze (Zb (Zw hE rfl (kr) fun a hE=>ZA (v:=v0_1) hE rfl ty22 rfl (At.cat (pre:=[]) hM.rawAt2 cl0) ?_))))); intro a hE
 obtain ⟨r7,e8,hF⟩:=bind_some hF
 refine Zy hE rfl (cbm Tryz.func46) (Jb _ p0.Keys v0_1 (hM.rdo hv0_1) r7 e8) ?_
 rintro u9 w a ⟨_,rfl,hFr,hK⟩ hE
 have hM:=hM.add hK hFr
 refine Zw hE rfl (X1) ?_; intro a hE
 have hM:=hM.pull1
 refine Zn (seg:=[u9]) hE hM Za rfl rfl (YS (hM.sl (pre:=[_]) noB)) Tu rfl (Ux (pre:=[]) cl0 rfl) (Rep.cell (hM.sl (pre:=[_]) noB)) (Xy (pre:=[]) cl0 rfl) fun w a hM hE=>Ze (Zb (Zw hE rfl (jJ) fun a hE=>ZA (v:=v0_2) hE rfl Tg rfl (At.cat (pre:=[[v0_1]]) hM.rawAt3 ck) ?_)); intro a hE
 obtain ⟨r10,e11,hF⟩:=bind_some hF
 refine Zy hE rfl (cbm Tryz.func47) (JY _ p0.Data v0_2 (hM.rdo hv0_2) r10 e11) ?_
 rintro u12 w a ⟨_,rfl,hFr,hK⟩ hE
 have hM:=hM.add hK hFr
 refine Zw hE rfl (X5) ?_; intro a hE
 have hM:=hM.pull1
 refine Zn (seg:=[u12]) hE hM Za rfl rfl (YS (hM.sl (pre:=[_]) noB)) Tg rfl (Ux (pre:=[[u9]]) ck rfl) (Rep.cell (hM.sl (pre:=[_]) noB)) (Xy (pre:=[[u9]]) ck rfl) fun w a hM hE=>Ze (Zb (Zw hE rfl (jL) fun a hE=>ZA (v:=v0_3) hE rfl U3 rfl (At.cat (pre:=[[v0_1],[v0_2]]) hM.rawAt4 ck) ?_)); intro a hE
 obtain ⟨r13,e14,hF⟩:=bind_some hF
 refine Zy hE rfl (cbm Tryz.func48) (Hg _ p0.Counts v0_3 (hM.rdo hv0_3) r13 e14) ?_
 rintro u15 w a ⟨_,rfl,hFr,hK⟩ hE
 have hM:=hM.add hK hFr
 refine Zw hE rfl (X2) ?_; intro a hE
 have hM:=hM.pull1
 refine Zn (seg:=[u15]) hE hM Za rfl rfl (YS (hM.sl (pre:=[_]) noB)) U3 rfl (Ux (pre:=[[u9],[u12]]) ck rfl) (Rep.cell (hM.sl (pre:=[_]) noB)) (Xy (pre:=[[u9],[u12]]) ck rfl) fun w a hM hE=>Ze (Zb (Zq hE rfl Yy rfl hM.rawAt0 cq ?_)); intro a hE
 have hM:=hM.pull4
 refine Zn (seg:=cat [[u9],[u12],[u15]]) (cs':=cat [[u9],[u12],[u15]]) hE hM Za rfl rfl rfl Yy cq (Nat.le_of_eq ((Nat.zero_add _).trans (Eq.trans cq (Eq.symm cq)))) (YC (cc1 (Rep.cell (hM.sl (pre:=[_,_,_,_]) noB)) (cc1 (Rep.cell (hM.sl (pre:=[_,_,_]) noB)) (cc1 (Rep.cell (hM.sl (pre:=[_,_]) noB)) cc0)))) (Zk (Eq.trans cq (Eq.symm cq))) fun w a hM hE=>Ze ?_
 obtain rfl:=Option.some.inj hF
 have hq16 : Yz Tryz.prog _ _ (.cell 2 31) _:=ZS hE rfl Yy rfl hM.rawAt0 cq rfl
 have hM:=M.fst (l:=[_,_,_]) hM.pull2.pull3.pull4
 exact wp_ret (ZP hE rfl hq16 ⟨_,rfl,u9,u12,u15,rfl,hM.outF (Yu (Yu (Yu XD))),hM.kept⟩)
def X6 (p0 : (Vector UInt8 32)) (p1 : (Vector UInt8 32)) (s9 : Int) : Option (Fl Int (Fl Unit Bool)) :=
 if (decide (s9 < 32)) = true then (((ZI p0 s9).bind fun x19=>(ZI p1 s9).bind fun x22=>some (x19 != x22) : Option (Bool)).bind fun j14=>if j14 = true then (((ZI p0 s9).bind fun x31=>(ZI p1 s9).bind fun x34=>some (decide (x31 < x34)) : Option (Bool)).bind fun j26=>some (Fl.ex (Fl.ex j26))) else (some (Fl.nx (wr (s9 + 1))))) else (some (Fl.ex (Fl.nx ())))
def WI (p0 : (Vector UInt8 32)) (p1 : (Vector UInt8 32)) : Option (Bool) :=
 (Zz (X6 p0 p1) 0).bind fun j5=>j5.el (fun s8=>some false) (fun r=>some r)
theorem QR (w0 : World) (p0 : (Vector UInt8 32)) (p1 : (Vector UInt8 32)) (r : Bool) (hF : WI p0 p1 = some r) :
  Calls Tryz.prog 126 [(Value.agg (enc p0).toArray),(Value.agg (enc p1).toArray)].toArray w0 (Rt w0 (vT r)):=by
 refine ce Tryz.func126 ?_
 intro a hE
 have hM:=M.start w0
 unfold WI at hF
 refine Zb (ZZ (cs:=enc p0) hE hM Za ld rfl rfl fun b1 w a hM hE=>ZZ (cs:=enc p1) hE hM Za ld rfl rfl fun b3 w a hM hE=>Zc hE rfl fun a hE=>Ze (wp_seq (Zb (Zc hE rfl fun a hE=>Ze ?_))))
 obtain ⟨j5,hl6,hF7⟩:=bind_some hF
 refine ZM (fun a w=>∃ s8 : Unit,j5 = Fl.nx s8 ∧ Env 24 a [] ∧ M (Old w0) w0 w []) ?_ ?_
 ·skip
  refine wp_block ?_
  refine ZE (fun (s9 : Int) a w=>Env 24 a [(2,(ptr b1 0)),(3,(ptr b3 0)),(5,vI s9)] ∧ M (Old w0) w0 w [raw b3 (enc p1),raw b1 (enc p0)]) hl6 ⟨hE.sub ⟨rfl,rfl,rfl,trivial⟩,hM⟩ ?_
  rintro s9 a w ⟨hE,hM⟩ o12 hs10 hx11
  unfold X6 at hs10
  refine wp_seq (Zb (Zd hE rfl fun a hE=>Zg hE rfl rfl rfl fun a hE=>Ze ?_))
  refine Zo hE rfl ?_ ?_
  ·intro hb13
   have hs10:=Zs hs10 hb13
   refine wp_skip (Zp (wp_seq (wp_block ?_)))
   obtain ⟨j14,hl15,hF16⟩:=bind_some hs10
   refine ZK (fun a w=>Env 24 a [(2,(ptr b1 0)),(3,(ptr b3 0)),(5,vI s9),(16,vT j14)] ∧ M (Old w0) w0 w [raw b3 (enc p1),raw b1 (enc p0)]) ?_ ?_
   ·skip
    obtain ⟨x19,hi18,hl15⟩:=bvx hl15
    obtain ⟨x22,hi21,hl15⟩:=bvx hl15
    refine ZV [10,11,12,13,14,15,16] Yq rfl rfl (by decide) rfl hE hM (qsP (fun z=>Zi z.E Za ld rfl (kr0 rfl)) (qsP (fun z=>ZB z.E Za ld rfl rfl Tryz.underlying35 ty5 hi18.1 (kr0 rfl)) (qsP (fun z=>ZL (v:=(vB x19)) z.E Za ld rfl ty5 rfl (At.vec (z.M.rawAt1) hi18.2) (kr0 rfl)) (qsP (fun z=>Zi z.E Za ld rfl (kr0 rfl)) (qsP (fun z=>ZB z.E Za ld rfl rfl Tryz.underlying35 ty5 hi21.1 (kr0 rfl)) (qsP (fun z=>ZL (v:=(vB x22)) z.E Za ld rfl ty5 rfl (At.vec (z.M.rawAt0) hi21.2) (kr0 rfl)) (qsP (fun z=>Yd z.E Za ld rfl rfl (Jh x19 x22) (kr0 rfl)) qs0))))))) ?_
    ·intro a w u hE hM
     refine Zf ?_
     obtain rfl:=Option.some.inj hl15
     refine Zh ?_
     exact ⟨hE.sub ⟨rfl,rfl,rfl,rfl,trivial⟩,hM⟩
   ·skip
    rintro a w ⟨hE,hM⟩
    refine Zo hE rfl ?_ ?_
    ·intro hb25
     have hF16:=Zs hF16 hb25
     obtain ⟨j26,hl27,hF28⟩:=bind_some hF16
     refine ZK (fun a w=>Env 24 a [(4,vT j26)] ∧ M (Old w0) w0 w []) ?_ ?_
     ·skip
      obtain ⟨x31,hi30,hl27⟩:=bvx hl27
      obtain ⟨x34,hi33,hl27⟩:=bvx hl27
      refine ZV [17,18,19,20,21,22,23,4] Yq rfl rfl (by decide) rfl hE hM (qsP (fun z=>Zi z.E Za ld rfl (kr0 rfl)) (qsP (fun z=>ZB z.E Za ld rfl rfl Tryz.underlying35 ty5 hi30.1 (kr0 rfl)) (qsP (fun z=>ZL (v:=(vB x31)) z.E Za ld rfl ty5 rfl (At.vec (z.M.rawAt1) hi30.2) (kr0 rfl)) (qsP (fun z=>Zi z.E Za ld rfl (kr0 rfl)) (qsP (fun z=>ZB z.E Za ld rfl rfl Tryz.underlying35 ty5 hi33.1 (kr0 rfl)) (qsP (fun z=>ZL (v:=(vB x34)) z.E Za ld rfl ty5 rfl (At.vec (z.M.rawAt0) hi33.2) (kr0 rfl)) (qsP (fun z=>Yd z.E Za ld rfl rfl (bB_lss x31 x34) (kr0 rfl)) (qsP (fun z=>Qd z.E Za ld rfl (kr0 rfl)) qs0)))))))) ?_
      ·intro a w u hE hM
       refine Zf ?_
       obtain rfl:=Option.some.inj hl27
       refine Zh ?_
       have hM:=M.fst (l:=[]) hM
       exact ⟨hE.sub ⟨rfl,trivial⟩,hM⟩
     ·skip
      rintro a w ⟨hE,hM⟩
      obtain rfl:=hx11 _ (ois hF28)
      obtain rfl:=Option.some.inj hF7
      exact wp_ret (XW (Zx (Zx (XW (Zx (Zx (kr1 hE rfl rfl hM.kept)))))))
    ·intro hb25
     have hF16:=Zt hF16 hb25
     refine wp_skip (Yc (Zp (wp_region_lit (Zd hE rfl fun a hE=>Zg hE rfl rfl rfl fun a hE=>Zc hE rfl fun a hE=>Zf (Zh ?_)))))
     exact ⟨_,(ois hF16),hE.sub ⟨rfl,rfl,rfl,trivial⟩,hM⟩
  ·intro hb13
   have hs10:=Zt hs10 hb13
   refine wp_exit (Zm (Zm (Yb ?_)))
   obtain rfl:=hx11 _ (ois hs10)
   refine Zh ?_
   have hM:=M.fst (l:=[]) hM
   exact ⟨(),rfl,hE.sub trivial,hM⟩
 ·skip
  rintro a w ⟨s8,ht,hE,hM⟩
  subst ht
  have hF7:=Tw hF7
  refine Zp (Zb (Zc hE rfl fun a hE=>Ze ?_))
  obtain rfl:=Option.some.inj hF7
  exact wp_ret (kr1 hE rfl rfl hM.kept)
def V9 (p0 : (List (Vector UInt8 32))) (s5 : Int) : Option (Fl Int (Fl Unit Bool)) :=
 if (decide (s5 < (p0.length : Int))) = true then (((idx p0 (wr (s5 - 1))).bind fun x14=>(idx p0 s5).bind fun x17=>(WI x14 x17).bind fun r20=>some (!r20) : Option (Bool)).bind fun j10=>if j10 = true then (some (Fl.ex (Fl.ex false))) else (some (Fl.nx (wr (s5 + 1))))) else (some (Fl.ex (Fl.nx ())))
def Wa (p0 : (List (Vector UInt8 32))) : Option (Bool) :=
 (Zz (V9 p0) 1).bind fun j1=>j1.el (fun s4=>some true) (fun r=>some r)
theorem Kb (w0 : World) (p0 : (List (Vector UInt8 32))) (v0_1 : Value) (hv0_1 : Ro w0 p0 [v0_1]) (r : Bool) (hF : Wa p0 = some r) :
  Calls Tryz.prog 118 [v0_1].toArray w0 (Rt w0 (vT r)):=by
 refine ce Tryz.func118 ?_
 intro a hE
 have hM:=M.start w0
 unfold Wa at hF
 refine Zb (Zc hE rfl fun a hE=>Ze (wp_seq (Zb (Zc hE rfl fun a hE=>Ze ?_))))
 obtain ⟨j1,hl2,hF3⟩:=bind_some hF
 refine ZM (fun a w=>∃ s4 : Unit,j1 = Fl.nx s4 ∧ Env 21 a [] ∧ M (Old w0) w0 w []) ?_ ?_
 ·skip
  refine wp_block ?_
  refine ZE (fun (s5 : Int) a w=>Env 21 a [(0,v0_1),(3,vI s5)] ∧ M (Old w0) w0 w []) hl2 ⟨hE.sub ⟨rfl,rfl,trivial⟩,hM⟩ ?_
  rintro s5 a w ⟨hE,hM⟩ o8 hs6 hx7
  unfold V9 at hs6
  refine wp_seq (Zb (Zd hE rfl fun a hE=>Zd hE rfl fun a hE=>Z7 hE rfl Tryz.underlying29 (hM.rd hv0_1) fun a hE=>Zg hE rfl rfl rfl fun a hE=>Ze ?_))
  refine Zo hE rfl ?_ ?_
  ·intro hb9
   have hs6:=Zs hs6 hb9
   refine wp_skip (Zp (wp_seq (wp_block ?_)))
   obtain ⟨j10,hl11,hF12⟩:=bind_some hs6
   refine ZK (fun a w=>Env 21 a [(0,v0_1),(3,vI s5),(20,vT j10)] ∧ M (Old w0) w0 w []) ?_ ?_
   ·skip
    obtain ⟨x14,hi16,hl11⟩:=bix hl11
    obtain ⟨x17,hi19,hl11⟩:=bix hl11
    obtain ⟨r20,e21,hl11⟩:=bind_some hl11
    refine ZV [10,11,12,13,14,15,16,17,18,19,20] Yq rfl rfl (by decide) rfl hE hM (qsP (fun z=>Zi z.E Za ld rfl (kr0 rfl)) (qsP (fun z=>Zi z.E Za ld rfl (kr0 rfl)) (qsP (v:=(vI (wr (s5 - 1)))) (fun z=>Yd z.E Za ld rfl rfl rfl (kr0 rfl)) (qsP (fun z=>ZX z.E Za ld rfl rfl Tryz.underlying29 Z3 (z.M.rd hv0_1) hi16.1 (kr0 rfl)) (qsP (fun z=>Z0 z.E Za ld rfl Z3 rfl (Yl (z.M.rd hv0_1) hi16.2) (Flat.len _) (kr0 rfl)) (qsP (fun z=>Zi z.E Za ld rfl (kr0 rfl)) (qsP (fun z=>Zi z.E Za ld rfl (kr0 rfl)) (qsP (fun z=>ZX z.E Za ld rfl rfl Tryz.underlying29 Z3 (z.M.rd hv0_1) hi19.1 (kr0 rfl)) (qsP (fun z=>Z0 z.E Za ld rfl Z3 rfl (Yl (z.M.rd hv0_1) hi19.2) (Flat.len _) (kr0 rfl)) (qsP (fun z=>Yg z.E Za ld rfl (cbm Tryz.func126) (QR _ x14 x17 r20 e21) (kc rfl)) (qsP (fun z=>QA z.E Za ld rfl (kr0 rfl)) qs0))))))))))) ?_
    ·intro a w u hE hM
     refine Zf ?_
     obtain rfl:=Option.some.inj hl11
     refine Zh ?_
     exact ⟨hE.sub ⟨rfl,rfl,rfl,trivial⟩,hM⟩
   ·skip
    rintro a w ⟨hE,hM⟩
    refine Zo hE rfl ?_ ?_
    ·intro hb23
     have hF12:=Zs hF12 hb23
     refine Zb (Zc hE rfl fun a hE=>Ze ?_)
     obtain rfl:=hx7 _ (ois hF12)
     obtain rfl:=Option.some.inj hF3
     exact wp_ret (XW (Zx (Zx (XW (Zx (Zx (kr1 hE rfl rfl hM.kept)))))))
    ·intro hb23
     have hF12:=Zt hF12 hb23
     refine wp_skip (Yc (Zp (wp_region_lit (Zd hE rfl fun a hE=>Zg hE rfl rfl rfl fun a hE=>Zc hE rfl fun a hE=>Zf (Zh ?_)))))
     exact ⟨_,(ois hF12),hE.sub ⟨rfl,rfl,trivial⟩,hM⟩
  ·intro hb9
   have hs6:=Zt hs6 hb9
   refine wp_exit (Zm (Zm (Yb ?_)))
   obtain rfl:=hx7 _ (ois hs6)
   refine Zh ?_
   exact ⟨(),rfl,hE.sub trivial,hM⟩
 ·skip
  rintro a w ⟨s4,ht,hE,hM⟩
  subst ht
  have hF3:=Tw hF3
  refine Zp (Zb (Zc hE rfl fun a hE=>Ze ?_))
  obtain rfl:=Option.some.inj hF3
  exact wp_ret (kr1 hE rfl rfl hM.kept)
def YZ (p0 : Int) (s4 : Int × Int × Int) : Option (Fl (Int × Int × Int) Int) :=
 if (decide (s4.2.2 > 0)) = true then (((if ((Int.tmod s4.2.2 2) == 1) = true then (some (JF s4.1 s4.2.1)) else (some s4.1) : Option (Int)).bind fun j12=>(if (decide ((wr (s4.2.1 * 2)) ≥ 256)) = true then (some (JF (wr (s4.2.1 * 2)) p0)) else (some (wr (s4.2.1 * 2))) : Option (Int)).bind fun j18=>some (j12,j18) : Option (Int × Int)).bind fun j9=>some (Fl.nx (j9.1,j9.2,wr (Int.tdiv s4.2.2 2)))) else (some (Fl.ex s4.1))
def YI (p0 : Int) (p1 : UInt8) (p2 : UInt8) : Option (UInt8) :=
 (Zz (YZ p0) (0,bI p1,bI p2)).bind fun j1=>some (ZG j1)
theorem VF (w0 : World) (p0 : Int) (p1 : UInt8) (p2 : UInt8) (r : UInt8) (hF : YI p0 p1 p2 = some r) :
  Calls Tryz.prog 208 [vI p0,vB p1,vB p2].toArray w0 (Rt w0 (vB r)):=by
 refine ce Tryz.func208 ?_
 intro a hE
 have hM:=M.start w0
 unfold YI at hF
 refine Zb (Zc hE rfl fun a hE=>Ze (Zb (Zd hE rfl fun a hE=>Ht hE Za ld rfl Tryz.underlying5 Tryz.underlying2 fun a hE=>Zc hE rfl fun a hE=>Zc hE rfl fun a hE=>Ze (wp_seq (Zb (Zd hE rfl fun a hE=>Ht hE Za ld rfl Tryz.underlying5 Tryz.underlying2 fun a hE=>Zc hE rfl fun a hE=>Ze ?_))))))
 obtain ⟨j1,hl2,hF3⟩:=bind_some hF
 refine ZM (fun a w=>Env 33 a [(7,vI j1)] ∧ M (Old w0) w0 w []) ?_ ?_
 ·skip
  refine wp_block ?_
  refine ZE (fun (s4 : Int × Int × Int) a w=>Env 33 a [(0,vI p0),(7,vI s4.1),(8,vI s4.2.1),(9,vI s4.2.2)] ∧ M (Old w0) w0 w []) hl2 ⟨hE.sub ⟨rfl,rfl,rfl,rfl,trivial⟩,hM⟩ ?_
  rintro s4 a w ⟨hE,hM⟩ o7 hs5 hx6
  unfold YZ at hs5
  refine wp_seq (Zb (Zd hE rfl fun a hE=>Zg hE rfl rfl rfl fun a hE=>Ze ?_))
  refine Zo hE rfl ?_ ?_
  ·intro hb8
   have hs5:=Zs hs5 hb8
   refine wp_skip (Zp ?_)
   obtain ⟨j9,hl10,hF11⟩:=bind_some hs5
   refine ZK (fun a w=>Env 33 a [(0,vI p0),(7,vI j9.1),(8,vI j9.2),(9,vI s4.2.2)] ∧ M (Old w0) w0 w []) ?_ ?_
   ·skip
    refine wp_block ?_
    obtain ⟨j12,hl13,hF14⟩:=bind_some hl10
    refine ZK (fun a w=>Env 33 a [(0,vI p0),(7,vI j12),(8,vI s4.2.1),(9,vI s4.2.2)] ∧ M (Old w0) w0 w []) ?_ ?_
    ·skip
     refine Zb (Zd hE rfl fun a hE=>Zg hE rfl rfl (T8 _ _ (by decide)) fun a hE=>Zg hE rfl rfl rfl fun a hE=>Ze ?_)
     refine Zo hE rfl ?_ ?_
     ·intro hb15
      have hl13:=Zs hl13 hb15
      refine wp_region_lit (Zd hE rfl fun a hE=>Zd hE rfl fun a hE=>Zg hE rfl rfl rfl fun a hE=>Zc hE rfl fun a hE=>Zf ?_)
      obtain rfl:=Option.some.inj hl13
      refine Zh ?_
      exact ⟨hE.sub ⟨rfl,rfl,rfl,rfl,trivial⟩,hM⟩
     ·intro hb15
      have hl13:=Zt hl13 hb15
      refine wp_skip ?_
      obtain rfl:=Option.some.inj hl13
      refine Zh ?_
      exact ⟨hE.sub ⟨rfl,rfl,rfl,rfl,trivial⟩,hM⟩
    ·skip
     rintro a w ⟨hE,hM⟩
     refine Zb (Zd hE rfl fun a hE=>Zg hE rfl rfl rfl fun a hE=>Zc hE rfl fun a hE=>Ze (Zb (Zd hE rfl fun a hE=>Zg hE rfl rfl rfl fun a hE=>Ze ?_)))
     obtain ⟨j18,hl19,hF20⟩:=bind_some hF14
     refine ZM (fun a w=>Env 33 a [(0,vI p0),(7,vI j12),(8,vI j18),(9,vI s4.2.2)] ∧ M (Old w0) w0 w []) ?_ ?_
     ·skip
      refine Zo hE rfl ?_ ?_
      ·intro hb21
       have hl19:=Zs hl19 hb21
       refine wp_region_lit (Zd hE rfl fun a hE=>Zd hE rfl fun a hE=>Zg hE rfl rfl rfl fun a hE=>Zc hE rfl fun a hE=>Zf ?_)
       obtain rfl:=Option.some.inj hl19
       refine Zh ?_
       exact ⟨hE.sub ⟨rfl,rfl,rfl,rfl,trivial⟩,hM⟩
      ·intro hb21
       have hl19:=Zt hl19 hb21
       refine wp_skip ?_
       obtain rfl:=Option.some.inj hl19
       refine Zh ?_
       exact ⟨hE.sub ⟨rfl,rfl,rfl,rfl,trivial⟩,hM⟩
     ·skip
      rintro a w ⟨hE,hM⟩
      refine Yc ?_
      obtain rfl:=Option.some.inj hF20
      refine Zh ?_
      exact ⟨hE.sub ⟨rfl,rfl,rfl,rfl,trivial⟩,hM⟩
   ·skip
    rintro a w ⟨hE,hM⟩
    refine wp_region_lit (Zd hE rfl fun a hE=>Zg hE rfl rfl (AH _ _ (by decide)) fun a hE=>Zc hE rfl fun a hE=>Zf (Zh ?_))
    exact ⟨_,(ois hF11),hE.sub ⟨rfl,rfl,rfl,rfl,trivial⟩,hM⟩
  ·intro hb8
   have hs5:=Zt hs5 hb8
   refine wp_exit (Zm (Zm (Yb ?_)))
   obtain rfl:=hx6 _ (ois hs5)
   refine Zh ?_
   exact ⟨hE.sub ⟨rfl,trivial⟩,hM⟩
 ·skip
  rintro a w ⟨hE,hM⟩
  refine Zp (Zb (Zd hE rfl fun a hE=>Xb hE Za ld rfl Tryz.underlying2 Tryz.underlying5 fun a hE=>Zc hE rfl fun a hE=>Ze ?_))
  obtain rfl:=Option.some.inj hF3
  exact wp_ret (kr1 hE rfl rfl hM.kept)
def Vo (p0 : Int) (s16 : UInt8 × UInt8 × Int) : Option (Fl (UInt8 × UInt8 × Int) UInt8) :=
 if (decide (s16.2.2 > 0)) = true then (((if ((Int.tmod s16.2.2 2) == 1) = true then ((YI p0 s16.1 s16.2.1).bind fun r28=>some r28) else (some s16.1) : Option (UInt8)).bind fun j24=>(YI p0 s16.2.1 s16.2.1).bind fun r32=>some (j24,r32) : Option (UInt8 × UInt8)).bind fun j21=>some (Fl.nx (j21.1,j21.2,wr (Int.tdiv s16.2.2 2)))) else (some (Fl.ex s16.1))
def Vt (p0 : Int) (p1 : Int) (s8 : (Vector UInt8 256) × Int) : Option (Fl ((Vector UInt8 256) × Int) (Vector UInt8 256)) :=
 if (decide (s8.2 < 256)) = true then ((Zz (Vo p0) (1,ZG s8.2,p1)).bind fun j13=>(ZI s8.1 s8.2).bind fun x37=>some (Fl.nx ((s8.1.setIfInBounds (s8.2).toNat j13),wr (s8.2 + 1)))) else (some (Fl.ex s8.1))
def VQ (p0 : Int) (p1 : Int) : Option ((Vector UInt8 256)) :=
 (Zz (Vt p0 p1) ((Vector.replicate 256 (0 : UInt8)),0)).bind fun j5=>some j5
theorem JZ (w0 : World) (p0 : Int) (p1 : Int) (r : (Vector UInt8 256)) (hF : VQ p0 p1 = some r) :
  Calls Tryz.prog 176 [vI p0,vI p1].toArray w0 (Rt w0 (Value.agg (enc r).toArray)):=by
 refine ce Tryz.func176 ?_
 intro a hE
 have hM:=M.start w0
 unfold VQ at hF
 refine Zb (ZC hE hM Xw fun b1 w a hM hE=>Ze (Zb (XP (parts:=[]) (vs:=[]) (cs:=enc (Vector.replicate 256 (0 : UInt8))) hE Za ld rfl rfl Xw rfl ty5 Y1 fun a hE=>ZC hE hM Xw fun b3 w a hM hE=>Zn (seg:=enc (Vector.replicate 256 (0 : UInt8))) (cs':=enc (Vector.replicate 256 (0 : UInt8))) hE hM Za rfl rfl rfl Xw (Flat.len _) (zle flq) (Flat.cell _) (Zk flq) fun w a hM hE=>Ze (wp_seq (Zb (Zc hE rfl fun a hE=>Ze ?_))))))
 obtain ⟨j5,hl6,hF7⟩:=bind_some hF
 refine ZM (fun a w=>Env 37 a [(4,(ptr b1 0)),(5,(ptr b3 0))] ∧ M (Old w0) w0 w [raw b3 (enc j5),raw b1 (enc (Vector.replicate 256 (0 : UInt8)))]) ?_ ?_
 ·skip
  refine wp_block ?_
  refine ZE (fun (s8 : (Vector UInt8 256) × Int) a w=>Env 37 a [(0,vI p0),(1,vI p1),(4,(ptr b1 0)),(5,(ptr b3 0)),(6,vI s8.2)] ∧ M (Old w0) w0 w [raw b3 (enc s8.1),raw b1 (enc (Vector.replicate 256 (0 : UInt8)))]) hl6 ⟨hE.sub ⟨rfl,rfl,rfl,rfl,rfl,trivial⟩,hM⟩ ?_
  rintro s8 a w ⟨hE,hM⟩ o11 hs9 hx10
  unfold Vt at hs9
  refine wp_seq (Zb (Zd hE rfl fun a hE=>Zg hE rfl rfl rfl fun a hE=>Ze ?_))
  refine Zo hE rfl ?_ ?_
  ·intro hb12
   have hs9:=Zs hs9 hb12
   refine wp_skip (Zp (wp_seq (wp_block (Zb (Zd hE rfl fun a hE=>Xb hE Za ld rfl Tryz.underlying3 Tryz.underlying5 fun a hE=>Zc hE rfl fun a hE=>Zc hE rfl fun a hE=>Ze (wp_seq (Zb (Zd hE rfl fun a hE=>Zc hE rfl fun a hE=>Ze ?_))))))))
   obtain ⟨j13,hl14,hF15⟩:=bind_some hs9
   refine ZM (fun a w=>Env 37 a [(0,vI p0),(1,vI p1),(4,(ptr b1 0)),(5,(ptr b3 0)),(6,vI s8.2),(7,vB j13)] ∧ M (Old w0) w0 w [raw b3 (enc s8.1),raw b1 (enc (Vector.replicate 256 (0 : UInt8)))]) ?_ ?_
   ·skip
    refine wp_block ?_
    refine ZE (fun (s16 : UInt8 × UInt8 × Int) a w=>Env 37 a [(0,vI p0),(1,vI p1),(4,(ptr b1 0)),(5,(ptr b3 0)),(6,vI s8.2),(7,vB s16.1),(8,vB s16.2.1),(9,vI s16.2.2)] ∧ M (Old w0) w0 w [raw b3 (enc s8.1),raw b1 (enc (Vector.replicate 256 (0 : UInt8)))]) hl14 ⟨hE.sub ⟨rfl,rfl,rfl,rfl,rfl,rfl,rfl,rfl,trivial⟩,hM⟩ ?_
    rintro s16 a w ⟨hE,hM⟩ o19 hs17 hx18
    unfold Vo at hs17
    refine wp_seq (Zb (Zd hE rfl fun a hE=>Zg hE rfl rfl rfl fun a hE=>Ze ?_))
    refine Zo hE rfl ?_ ?_
    ·intro hb20
     have hs17:=Zs hs17 hb20
     refine wp_skip (Zp ?_)
     obtain ⟨j21,hl22,hF23⟩:=bind_some hs17
     refine ZK (fun a w=>Env 37 a [(0,vI p0),(1,vI p1),(4,(ptr b1 0)),(5,(ptr b3 0)),(6,vI s8.2),(7,vB j21.1),(8,vB j21.2),(9,vI s16.2.2)] ∧ M (Old w0) w0 w [raw b3 (enc s8.1),raw b1 (enc (Vector.replicate 256 (0 : UInt8)))]) ?_ ?_
     ·skip
      refine wp_block ?_
      obtain ⟨j24,hl25,hF26⟩:=bind_some hl22
      refine ZK (fun a w=>Env 37 a [(0,vI p0),(1,vI p1),(4,(ptr b1 0)),(5,(ptr b3 0)),(6,vI s8.2),(7,vB j24),(8,vB s16.2.1),(9,vI s16.2.2)] ∧ M (Old w0) w0 w [raw b3 (enc s8.1),raw b1 (enc (Vector.replicate 256 (0 : UInt8)))]) ?_ ?_
      ·skip
       refine Zb (Zd hE rfl fun a hE=>Zg hE rfl rfl (T8 _ _ (by decide)) fun a hE=>Zg hE rfl rfl rfl fun a hE=>Ze ?_)
       refine Zo hE rfl ?_ ?_
       ·intro hb27
        have hl25:=Zs hl25 hb27
        refine wp_region_lit (Zd hE rfl fun a hE=>Zd hE rfl fun a hE=>Zd hE rfl ?_); intro a hE
        obtain ⟨r28,e29,hl25⟩:=bind_some hl25
        refine Zy hE rfl zV (VF _ p0 s16.1 s16.2.1 r28 e29) ?_
        rintro v w a ⟨rfl,hK⟩ hE
        have hM:=hM.keep hK
        refine Zc hE rfl fun a hE=>Zf ?_
        obtain rfl:=Option.some.inj hl25
        refine Zh ?_
        exact ⟨hE.sub ⟨rfl,rfl,rfl,rfl,rfl,rfl,rfl,rfl,trivial⟩,hM⟩
       ·intro hb27
        have hl25:=Zt hl25 hb27
        refine wp_skip ?_
        obtain rfl:=Option.some.inj hl25
        refine Zh ?_
        exact ⟨hE.sub ⟨rfl,rfl,rfl,rfl,rfl,rfl,rfl,rfl,trivial⟩,hM⟩
      ·skip
       rintro a w ⟨hE,hM⟩
       refine wp_region_lit (Zd hE rfl fun a hE=>Zd hE rfl fun a hE=>Zd hE rfl ?_); intro a hE
       obtain ⟨r32,e33,hF26⟩:=bind_some hF26
       refine Zy hE rfl zV (VF _ p0 s16.2.1 s16.2.1 r32 e33) ?_
       rintro v w a ⟨rfl,hK⟩ hE
       have hM:=hM.keep hK
       refine Zc hE rfl fun a hE=>Zf (Yc ?_)
       obtain rfl:=Option.some.inj hF26
       refine Zh ?_
       exact ⟨hE.sub ⟨rfl,rfl,rfl,rfl,rfl,rfl,rfl,rfl,trivial⟩,hM⟩
     ·skip
      rintro a w ⟨hE,hM⟩
      refine wp_region_lit (Zd hE rfl fun a hE=>Zg hE rfl rfl (AH _ _ (by decide)) fun a hE=>Zc hE rfl fun a hE=>Zf (Zh ?_))
      exact ⟨_,(ois hF23),hE.sub ⟨rfl,rfl,rfl,rfl,rfl,rfl,rfl,rfl,trivial⟩,hM⟩
    ·intro hb20
     have hs17:=Zt hs17 hb20
     refine wp_exit (Zm (Zm (Yb ?_)))
     obtain rfl:=hx18 _ (ois hs17)
     refine Zh ?_
     exact ⟨hE.sub ⟨rfl,rfl,rfl,rfl,rfl,rfl,trivial⟩,hM⟩
   ·skip
    rintro a w ⟨hE,hM⟩
    refine Zp (wp_region_lit (Zd hE rfl fun a hE=>Zd hE rfl ?_)); intro a hE
    obtain ⟨x37,hi36,hF15⟩:=bvx hF15
    refine ZF hE rfl rfl Tryz.underlying157 ty5 hi36.1 fun a hE=>Zn (seg:=[vB j13]) (cs':=enc (s8.1.setIfInBounds (s8.2).toNat j13)) hE hM Za rfl rfl rfl ty5 rfl (ZN (v:=s8.1) (x:=j13) hi36.1) (Flat.cell (j13 : UInt8)) (ZD (v:=s8.1) (x:=j13) hi36.1) fun w a hM hE=>Zf (Yc (Zp (wp_region_lit (Zd hE rfl fun a hE=>Zg hE rfl rfl rfl fun a hE=>Zc hE rfl fun a hE=>Zf (Zh ?_)))))
    exact ⟨_,(ois hF15),hE.sub ⟨rfl,rfl,rfl,rfl,rfl,trivial⟩,hM⟩
  ·intro hb12
   have hs9:=Zt hs9 hb12
   refine wp_exit (Zm (Zm (Yb ?_)))
   obtain rfl:=hx10 _ (ois hs9)
   refine Zh ?_
   exact ⟨hE.sub ⟨rfl,rfl,trivial⟩,hM⟩
 ·skip
  rintro a w ⟨hE,hM⟩
  refine Zp (Zb (Zq hE rfl Xw rfl hM.rawAt0 (Flat.len _) ?_)); intro a hE
  have hM:=hM.pull1
  refine Zn (seg:=enc j5) (cs':=enc j5) hE hM Za rfl rfl rfl Xw (Flat.len _) (zle flq) (Flat.cell _) (Zk flq) fun w a hM hE=>Ze ?_
  obtain rfl:=Option.some.inj hF7
  have hq40 : Yz Tryz.prog _ _ (.cell 4 157) _:=ZS hE rfl Xw rfl hM.rawAt0 (Flat.len _) rfl
  exact wp_ret (ZP hE rfl hq40 ⟨_,rfl,rfl,hM.kept⟩)
def XG (p0 : UInt8) (p1 : Int) : Option (UInt8) :=
 (Xd (IntKind.u64.wrap p1)).bind fun _=>some (ZG (Hf (orI (Bu (bI p0) (IntKind.u64.wrap p1)) (TC (Bu (bI p0) (IntKind.u64.wrap p1)) 8)) 255))
theorem HU (w0 : World) (p0 : UInt8) (p1 : Int) (r : UInt8) (hF : XG p0 p1 = some r) :
  Calls Tryz.prog 209 [vB p0,vI p1].toArray w0 (Rt w0 (vB r)):=by
 refine ce Tryz.func209 ?_
 intro a hE
 have hM:=M.start w0
 unfold XG at hF
 refine Zb (Zc hE rfl fun a hE=>Ze (Zb (Zd hE rfl fun a hE=>Ht hE Za ld rfl Tryz.underlying5 Tryz.underlying2 fun a hE=>Zd hE rfl fun a hE=>Ks hE Za ld rfl Tryz.underlying2 Tryz.underlying229 ?_))); intro a hE
 obtain ⟨_,e1,hF⟩:=bind_some hF
 have e1:=Wi e1
 refine HT hE Za ld rfl rfl (yt _ _ e1) fun a hE=>Zc hE rfl fun a hE=>Ze (Zb (Zd hE rfl fun a hE=>Zd hE rfl fun a hE=>HT hE Za ld rfl rfl (As _ _ (by decide)) fun a hE=>Zg hE rfl rfl rfl fun a hE=>Zg hE rfl rfl rfl fun a hE=>Xb hE Za ld rfl Tryz.underlying2 Tryz.underlying5 fun a hE=>Zc hE rfl fun a hE=>Ze ?_))
 obtain rfl:=Option.some.inj hF
 exact wp_ret (kr1 hE rfl rfl hM.kept)
def Z4 (p0 : (List Int)) (s8 : (Vector UInt8 256) × Int) (s16 : UInt8 × Int) : Option (Fl (UInt8 × Int) UInt8) :=
 if (decide (s16.2 < (p0.length : Int))) = true then ((idx p0 s16.2).bind fun x21=>(XG (ZG s8.2) x21).bind fun r24=>some (Fl.nx (s16.1 ^^^ r24,wr (s16.2 + 1)))) else (some (Fl.ex s16.1))
def XL (p0 : (List Int)) (p1 : UInt8) (s8 : (Vector UInt8 256) × Int) : Option (Fl ((Vector UInt8 256) × Int) (Vector UInt8 256)) :=
 if (decide (s8.2 < 256)) = true then ((Zz (Z4 p0 s8) (p1,0)).bind fun j13=>(ZI s8.1 s8.2).bind fun x28=>some (Fl.nx ((s8.1.setIfInBounds (s8.2).toNat j13),wr (s8.2 + 1)))) else (some (Fl.ex s8.1))
def Wc (p0 : (List Int)) (p1 : UInt8) : Option ((Vector UInt8 256)) :=
 (Zz (XL p0 p1) ((Vector.replicate 256 (0 : UInt8)),0)).bind fun j5=>some j5
theorem Kc (w0 : World) (p0 : (List Int)) (v0_1 : Value) (hv0_1 : Ro w0 p0 [v0_1]) (p1 : UInt8) (r : (Vector UInt8 256)) (hF : Wc p0 p1 = some r) :
  Calls Tryz.prog 177 [v0_1,vB p1].toArray w0 (Rt w0 (Value.agg (enc r).toArray)):=by
 refine ce Tryz.func177 ?_
 intro a hE
 have hM:=M.start w0
 unfold Wc at hF
 refine Zb (ZC hE hM Xw fun b1 w a hM hE=>Ze (Zb (XP (parts:=[]) (vs:=[]) (cs:=enc (Vector.replicate 256 (0 : UInt8))) hE Za ld rfl rfl Xw rfl ty5 Y1 fun a hE=>ZC hE hM Xw fun b3 w a hM hE=>Zn (seg:=enc (Vector.replicate 256 (0 : UInt8))) (cs':=enc (Vector.replicate 256 (0 : UInt8))) hE hM Za rfl rfl rfl Xw (Flat.len _) (zle flq) (Flat.cell _) (Zk flq) fun w a hM hE=>Ze (wp_seq (Zb (Zc hE rfl fun a hE=>Ze ?_))))))
 obtain ⟨j5,hl6,hF7⟩:=bind_some hF
 refine ZM (fun a w=>Env 34 a [(4,(ptr b1 0)),(5,(ptr b3 0))] ∧ M (Old w0) w0 w [raw b3 (enc j5),raw b1 (enc (Vector.replicate 256 (0 : UInt8)))]) ?_ ?_
 ·skip
  refine wp_block ?_
  refine ZE (fun (s8 : (Vector UInt8 256) × Int) a w=>Env 34 a [(0,v0_1),(1,vB p1),(4,(ptr b1 0)),(5,(ptr b3 0)),(6,vI s8.2)] ∧ M (Old w0) w0 w [raw b3 (enc s8.1),raw b1 (enc (Vector.replicate 256 (0 : UInt8)))]) hl6 ⟨hE.sub ⟨rfl,rfl,rfl,rfl,rfl,trivial⟩,hM⟩ ?_
  rintro s8 a w ⟨hE,hM⟩ o11 hs9 hx10
  unfold XL at hs9
  refine wp_seq (Zb (Zd hE rfl fun a hE=>Zg hE rfl rfl rfl fun a hE=>Ze ?_))
  refine Zo hE rfl ?_ ?_
  ·intro hb12
   have hs9:=Zs hs9 hb12
   refine wp_skip (Zp (wp_seq (wp_block (Zb (Zd hE rfl fun a hE=>Zc hE rfl fun a hE=>Ze (wp_seq (Zb (Zc hE rfl fun a hE=>Ze ?_))))))))
   obtain ⟨j13,hl14,hF15⟩:=bind_some hs9
   refine ZM (fun a w=>Env 34 a [(0,v0_1),(1,vB p1),(4,(ptr b1 0)),(5,(ptr b3 0)),(6,vI s8.2),(7,vB j13)] ∧ M (Old w0) w0 w [raw b3 (enc s8.1),raw b1 (enc (Vector.replicate 256 (0 : UInt8)))]) ?_ ?_
   ·skip
    refine wp_block ?_
    refine ZE (fun (s16 : UInt8 × Int) a w=>Env 34 a [(0,v0_1),(1,vB p1),(4,(ptr b1 0)),(5,(ptr b3 0)),(6,vI s8.2),(7,vB s16.1),(8,vI s16.2)] ∧ M (Old w0) w0 w [raw b3 (enc s8.1),raw b1 (enc (Vector.replicate 256 (0 : UInt8)))]) hl14 ⟨hE.sub ⟨rfl,rfl,rfl,rfl,rfl,rfl,rfl,trivial⟩,hM⟩ ?_
    rintro s16 a w ⟨hE,hM⟩ o19 hs17 hx18
    unfold Z4 at hs17
    refine wp_seq (Zb (Zd hE rfl fun a hE=>Zd hE rfl fun a hE=>Z7 hE rfl Tryz.underlying24 (hM.rd hv0_1) fun a hE=>Zg hE rfl rfl rfl fun a hE=>Ze ?_))
    refine Zo hE rfl ?_ ?_
    ·intro hb20
     have hs17:=Zs hs17 hb20
     refine wp_skip (Zp (wp_seq (wp_block (wp_region_lit (Zd hE rfl fun a hE=>Zd hE rfl fun a hE=>Xb hE Za ld rfl Tryz.underlying3 Tryz.underlying5 fun a hE=>Zd hE rfl fun a hE=>Zd hE rfl ?_))))); intro a hE
     obtain ⟨x21,hi23,hs17⟩:=bix hs17
     refine Z9 hE rfl rfl Tryz.underlying24 ty2 (hM.rd hv0_1) hi23.1 fun a hE=>ZA (v:=(vI x21)) hE rfl ty2 rfl (Yl (hM.rd hv0_1) hi23.2) ?_; intro a hE
     obtain ⟨r24,e25,hs17⟩:=bind_some hs17
     refine Zy hE rfl (cbm Tryz.func209) (HU _ (ZG s8.2) x21 r24 e25) ?_
     rintro v w a ⟨rfl,hK⟩ hE
     have hM:=hM.keep hK
     refine Zg hE rfl rfl (VV s16.1 r24) fun a hE=>Zc hE rfl fun a hE=>Zf (Yc (Zp (wp_region_lit (Zd hE rfl fun a hE=>Zg hE rfl rfl rfl fun a hE=>Zc hE rfl fun a hE=>Zf (Zh ?_)))))
     exact ⟨_,(ois hs17),hE.sub ⟨rfl,rfl,rfl,rfl,rfl,rfl,rfl,trivial⟩,hM⟩
    ·intro hb20
     have hs17:=Zt hs17 hb20
     refine wp_exit (Zm (Zm (Yb ?_)))
     obtain rfl:=hx18 _ (ois hs17)
     refine Zh ?_
     exact ⟨hE.sub ⟨rfl,rfl,rfl,rfl,rfl,rfl,trivial⟩,hM⟩
   ·skip
    rintro a w ⟨hE,hM⟩
    refine Zp (wp_region_lit (Zd hE rfl fun a hE=>Zd hE rfl ?_)); intro a hE
    obtain ⟨x28,hi27,hF15⟩:=bvx hF15
    refine ZF hE rfl rfl Tryz.underlying157 ty5 hi27.1 fun a hE=>Zn (seg:=[vB j13]) (cs':=enc (s8.1.setIfInBounds (s8.2).toNat j13)) hE hM Za rfl rfl rfl ty5 rfl (ZN (v:=s8.1) (x:=j13) hi27.1) (Flat.cell (j13 : UInt8)) (ZD (v:=s8.1) (x:=j13) hi27.1) fun w a hM hE=>Zf (Yc (Zp (wp_region_lit (Zd hE rfl fun a hE=>Zg hE rfl rfl rfl fun a hE=>Zc hE rfl fun a hE=>Zf (Zh ?_)))))
    exact ⟨_,(ois hF15),hE.sub ⟨rfl,rfl,rfl,rfl,rfl,trivial⟩,hM⟩
  ·intro hb12
   have hs9:=Zt hs9 hb12
   refine wp_exit (Zm (Zm (Yb ?_)))
   obtain rfl:=hx10 _ (ois hs9)
   refine Zh ?_
   exact ⟨hE.sub ⟨rfl,rfl,trivial⟩,hM⟩
 ·skip
  rintro a w ⟨hE,hM⟩
  refine Zp (Zb (Zq hE rfl Xw rfl hM.rawAt0 (Flat.len _) ?_)); intro a hE
  have hM:=hM.pull1
  refine Zn (seg:=enc j5) (cs':=enc j5) hE hM Za rfl rfl rfl Xw (Flat.len _) (zle flq) (Flat.cell _) (Zk flq) fun w a hM hE=>Ze ?_
  obtain rfl:=Option.some.inj hF7
  have hq31 : Yz Tryz.prog _ _ (.cell 4 157) _:=ZS hE rfl Xw rfl hM.rawAt0 (Flat.len _) rfl
  exact wp_ret (ZP hE rfl hq31 ⟨_,rfl,rfl,hM.kept⟩)
def VO (p0 : (Vector UInt8 256)) (p1 : (Vector UInt8 256)) (s12 : (Vector UInt8 256) × Int) : Option (Fl ((Vector UInt8 256) × Int) (Vector UInt8 256)) :=
 if (decide (s12.2 < 256)) = true then ((ZI p0 s12.2).bind fun x18=>(ZI p1 (bI x18)).bind fun x21=>(ZI s12.1 s12.2).bind fun x24=>some (Fl.nx ((s12.1.setIfInBounds (s12.2).toNat x21),wr (s12.2 + 1)))) else (some (Fl.ex s12.1))
def V5 (p0 : (Vector UInt8 256)) (p1 : (Vector UInt8 256)) : Option ((Vector UInt8 256)) :=
 (Zz (VO p0 p1) ((Vector.replicate 256 (0 : UInt8)),0)).bind fun j9=>some j9
theorem H5 (w0 : World) (p0 : (Vector UInt8 256)) (p1 : (Vector UInt8 256)) (r : (Vector UInt8 256)) (hF : V5 p0 p1 = some r) :
  Calls Tryz.prog 175 [(Value.agg (enc p0).toArray),(Value.agg (enc p1).toArray)].toArray w0 (Rt w0 (Value.agg (enc r).toArray)):=by
 refine ce Tryz.func175 ?_
 intro a hE
 have hM:=M.start w0
 unfold V5 at hF
 refine Zb (ZZ (cs:=enc p0) hE hM Za ld rfl rfl fun b1 w a hM hE=>ZZ (cs:=enc p1) hE hM Za ld rfl rfl fun b3 w a hM hE=>ZC hE hM Xw fun b5 w a hM hE=>Ze (Zb (XP (parts:=[]) (vs:=[]) (cs:=enc (Vector.replicate 256 (0 : UInt8))) hE Za ld rfl rfl Xw rfl ty5 Y1 fun a hE=>ZC hE hM Xw fun b7 w a hM hE=>Zn (seg:=enc (Vector.replicate 256 (0 : UInt8))) (cs':=enc (Vector.replicate 256 (0 : UInt8))) hE hM Za rfl rfl rfl Xw (Flat.len _) (zle flq) (Flat.cell _) (Zk flq) fun w a hM hE=>Ze (wp_seq (Zb (Zc hE rfl fun a hE=>Ze ?_))))))
 obtain ⟨j9,hl10,hF11⟩:=bind_some hF
 refine ZM (fun a w=>Env 20 a [(4,(ptr b5 0)),(5,(ptr b7 0))] ∧ M (Old w0) w0 w [raw b7 (enc j9),raw b5 (enc (Vector.replicate 256 (0 : UInt8)))]) ?_ ?_
 ·skip
  refine wp_block ?_
  refine ZE (fun (s12 : (Vector UInt8 256) × Int) a w=>Env 20 a [(2,(ptr b1 0)),(3,(ptr b3 0)),(4,(ptr b5 0)),(5,(ptr b7 0)),(6,vI s12.2)] ∧ M (Old w0) w0 w [raw b7 (enc s12.1),raw b5 (enc (Vector.replicate 256 (0 : UInt8))),raw b3 (enc p1),raw b1 (enc p0)]) hl10 ⟨hE.sub ⟨rfl,rfl,rfl,rfl,rfl,trivial⟩,hM⟩ ?_
  rintro s12 a w ⟨hE,hM⟩ o15 hs13 hx14
  unfold VO at hs13
  refine wp_seq (Zb (Zd hE rfl fun a hE=>Zg hE rfl rfl rfl fun a hE=>Ze ?_))
  refine Zo hE rfl ?_ ?_
  ·intro hb16
   have hs13:=Zs hs13 hb16
   refine wp_skip (Zp (wp_seq (wp_block (wp_region_lit (Zd hE rfl fun a hE=>Zd hE rfl ?_))))); intro a hE
   obtain ⟨x18,hi17,hs13⟩:=bvx hs13
   refine ZF hE rfl rfl Tryz.underlying157 ty5 hi17.1 fun a hE=>ZA (v:=(vB x18)) hE rfl ty5 rfl (At.vec hM.rawAt3 hi17.2) ?_; intro a hE
   obtain ⟨x21,hi20,hs13⟩:=bvx hs13
   refine ZF hE rfl rfl Tryz.underlying157 ty5 hi20.1 fun a hE=>ZA (v:=(vB x21)) hE rfl ty5 rfl (At.vec hM.rawAt2 hi20.2) ?_; intro a hE
   obtain ⟨x24,hi23,hs13⟩:=bvx hs13
   refine ZF hE rfl rfl Tryz.underlying157 ty5 hi23.1 fun a hE=>Zn (seg:=[vB x21]) (cs':=enc (s12.1.setIfInBounds (s12.2).toNat x21)) hE hM Za rfl rfl rfl ty5 rfl (ZN (v:=s12.1) (x:=x21) hi23.1) (Flat.cell (x21 : UInt8)) (ZD (v:=s12.1) (x:=x21) hi23.1) fun w a hM hE=>Zf (Yc (Zp (wp_region_lit (Zd hE rfl fun a hE=>Zg hE rfl rfl rfl fun a hE=>Zc hE rfl fun a hE=>Zf (Zh ?_)))))
   exact ⟨_,(ois hs13),hE.sub ⟨rfl,rfl,rfl,rfl,rfl,trivial⟩,hM⟩
  ·intro hb16
   have hs13:=Zt hs13 hb16
   refine wp_exit (Zm (Zm (Yb ?_)))
   obtain rfl:=hx14 _ (ois hs13)
   refine Zh ?_
   have hM:=M.fst (l:=[_,_]) hM.pull1.pull1
   exact ⟨hE.sub ⟨rfl,rfl,trivial⟩,hM⟩
 ·skip
  rintro a w ⟨hE,hM⟩
  refine Zp (Zb (Zq hE rfl Xw rfl hM.rawAt0 (Flat.len _) ?_)); intro a hE
  have hM:=hM.pull1
  refine Zn (seg:=enc j9) (cs':=enc j9) hE hM Za rfl rfl rfl Xw (Flat.len _) (zle flq) (Flat.cell _) (Zk flq) fun w a hM hE=>Ze ?_
  obtain rfl:=Option.some.inj hF11
  have hq27 : Yz Tryz.prog _ _ (.cell 4 157) _:=ZS hE rfl Xw rfl hM.rawAt0 (Flat.len _) rfl
  exact wp_ret (ZP hE rfl hq27 ⟨_,rfl,rfl,hM.kept⟩)
def Uq (p0 : Int) (s4 : UInt8 × Int × UInt8) : Option (Fl (UInt8 × Int × UInt8) UInt8) :=
 if (decide (s4.2.1 > 0)) = true then (((if ((Int.tmod s4.2.1 2) == 1) = true then ((YI p0 s4.2.2 s4.1).bind fun r16=>some r16) else (some s4.2.2) : Option (UInt8)).bind fun j12=>(YI p0 s4.1 s4.1).bind fun r20=>some (r20,j12) : Option (UInt8 × UInt8)).bind fun j9=>some (Fl.nx (j9.1,wr (Int.tdiv s4.2.1 2),j9.2))) else (some (Fl.ex s4.2.2))
def WT (p0 : Int) (p1 : UInt8) (p2 : Int) : Option (UInt8) :=
 (Zz (Uq p0) (p1,p2,1)).bind fun j1=>some j1
theorem J7 (w0 : World) (p0 : Int) (p1 : UInt8) (p2 : Int) (r : UInt8) (hF : WT p0 p1 p2 = some r) :
  Calls Tryz.prog 210 [vI p0,vB p1,vI p2].toArray w0 (Rt w0 (vB r)):=by
 refine ce Tryz.func210 ?_
 intro a hE
 have hM:=M.start w0
 unfold WT at hF
 refine Zb (Zc hE rfl fun a hE=>Ze (Zb (Zc hE rfl fun a hE=>Ze ?_)))
 obtain ⟨j1,hl2,hF3⟩:=bind_some hF
 refine ZK (fun a w=>Env 24 a [(7,vB j1)] ∧ M (Old w0) w0 w []) ?_ ?_
 ·skip
  refine wp_block ?_
  refine ZE (fun (s4 : UInt8 × Int × UInt8) a w=>Env 24 a [(0,vI p0),(1,vB s4.1),(2,vI s4.2.1),(7,vB s4.2.2)] ∧ M (Old w0) w0 w []) hl2 ⟨hE.sub ⟨rfl,rfl,rfl,rfl,trivial⟩,hM⟩ ?_
  rintro s4 a w ⟨hE,hM⟩ o7 hs5 hx6
  unfold Uq at hs5
  refine wp_seq (Zb (Zd hE rfl fun a hE=>Zg hE rfl rfl rfl fun a hE=>Ze ?_))
  refine Zo hE rfl ?_ ?_
  ·intro hb8
   have hs5:=Zs hs5 hb8
   refine wp_skip (Zp ?_)
   obtain ⟨j9,hl10,hF11⟩:=bind_some hs5
   refine ZK (fun a w=>Env 24 a [(0,vI p0),(1,vB j9.1),(2,vI s4.2.1),(7,vB j9.2)] ∧ M (Old w0) w0 w []) ?_ ?_
   ·skip
    refine wp_block ?_
    obtain ⟨j12,hl13,hF14⟩:=bind_some hl10
    refine ZK (fun a w=>Env 24 a [(0,vI p0),(1,vB s4.1),(2,vI s4.2.1),(7,vB j12)] ∧ M (Old w0) w0 w []) ?_ ?_
    ·skip
     refine Zb (Zd hE rfl fun a hE=>Zg hE rfl rfl (T8 _ _ (by decide)) fun a hE=>Zg hE rfl rfl rfl fun a hE=>Ze ?_)
     refine Zo hE rfl ?_ ?_
     ·intro hb15
      have hl13:=Zs hl13 hb15
      refine wp_region_lit (Zd hE rfl fun a hE=>Zd hE rfl fun a hE=>Zd hE rfl ?_); intro a hE
      obtain ⟨r16,e17,hl13⟩:=bind_some hl13
      refine Zy hE rfl zV (VF _ p0 s4.2.2 s4.1 r16 e17) ?_
      rintro v w a ⟨rfl,hK⟩ hE
      have hM:=hM.keep hK
      refine Zc hE rfl fun a hE=>Zf ?_
      obtain rfl:=Option.some.inj hl13
      refine Zh ?_
      exact ⟨hE.sub ⟨rfl,rfl,rfl,rfl,trivial⟩,hM⟩
     ·intro hb15
      have hl13:=Zt hl13 hb15
      refine wp_skip ?_
      obtain rfl:=Option.some.inj hl13
      refine Zh ?_
      exact ⟨hE.sub ⟨rfl,rfl,rfl,rfl,trivial⟩,hM⟩
    ·skip
     rintro a w ⟨hE,hM⟩
     refine wp_region_lit (Zd hE rfl fun a hE=>Zd hE rfl fun a hE=>Zd hE rfl ?_); intro a hE
     obtain ⟨r20,e21,hF14⟩:=bind_some hF14
     refine Zy hE rfl zV (VF _ p0 s4.1 s4.1 r20 e21) ?_
     rintro v w a ⟨rfl,hK⟩ hE
     have hM:=hM.keep hK
     refine Zc hE rfl fun a hE=>Zf (Yc ?_)
     obtain rfl:=Option.some.inj hF14
     refine Zh ?_
     exact ⟨hE.sub ⟨rfl,rfl,rfl,rfl,trivial⟩,hM⟩
   ·skip
    rintro a w ⟨hE,hM⟩
    refine wp_region_lit (Zd hE rfl fun a hE=>Zg hE rfl rfl (AH _ _ (by decide)) fun a hE=>Zc hE rfl fun a hE=>Zf (Zh ?_))
    exact ⟨_,(ois hF11),hE.sub ⟨rfl,rfl,rfl,rfl,trivial⟩,hM⟩
  ·intro hb8
   have hs5:=Zt hs5 hb8
   refine wp_exit (Zm (Zm (Yb ?_)))
   obtain rfl:=hx6 _ (ois hs5)
   refine Zh ?_
   exact ⟨hE.sub ⟨rfl,trivial⟩,hM⟩
 ·skip
  rintro a w ⟨hE,hM⟩
  refine Zb (Zd hE rfl fun a hE=>Zc hE rfl fun a hE=>Ze ?_)
  obtain rfl:=Option.some.inj hF3
  exact wp_ret (kr1 hE rfl rfl hM.kept)
def W2 (p0 : Int) (p1 : UInt8) : Option (UInt8) :=
 (WT p0 p1 254).bind fun r1=>some r1
theorem BC (w0 : World) (p0 : Int) (p1 : UInt8) (r : UInt8) (hF : W2 p0 p1 = some r) :
  Calls Tryz.prog 178 [vI p0,vB p1].toArray w0 (Rt w0 (vB r)):=by
 refine ce Tryz.func178 ?_
 intro a hE
 have hM:=M.start w0
 unfold W2 at hF
 refine Zb (Zc hE rfl fun a hE=>Ze (Zb (Zd hE rfl fun a hE=>Zd hE rfl ?_))); intro a hE
 obtain ⟨r1,e2,hF⟩:=bind_some hF
 refine Zy hE rfl (cbm Tryz.func210) (J7 _ p0 p1 254 r1 e2) ?_
 rintro v w a ⟨rfl,hK⟩ hE
 have hM:=hM.keep hK
 refine Zc hE rfl fun a hE=>Ze ?_
 obtain rfl:=Option.some.inj hF
 exact wp_ret (kr1 hE rfl rfl hM.kept)
def Um (s16 : (Vector (Vector UInt8 4) 4) × Int) (s24 : (Vector (Vector UInt8 4) 4) × Int) : Option (Fl ((Vector (Vector UInt8 4) 4) × Int) (Vector (Vector UInt8 4) 4)) :=
 if (decide (s24.2 < 4)) = true then ((W2 285 (ZG (JF s16.2 (wr (4 + s24.2))))).bind fun r30=>(ZI s24.1 s16.2).bind fun x33=>(ZI x33 s24.2).bind fun x36=>some (Fl.nx ((s24.1.setIfInBounds (s16.2).toNat (x33.setIfInBounds (s24.2).toNat r30)),wr (s24.2 + 1)))) else (some (Fl.ex s24.1))
def Up (s16 : (Vector (Vector UInt8 4) 4) × Int) : Option (Fl ((Vector (Vector UInt8 4) 4) × Int) (Vector (Vector UInt8 4) 4)) :=
 if (decide (s16.2 < 4)) = true then ((Zz (Um s16) (s16.1,0)).bind fun j21=>some (Fl.nx (j21,wr (s16.2 + 1)))) else (some (Fl.ex s16.1))
def Ul (s43 : (Vector UInt8 16) × Int) : Option (Fl ((Vector UInt8 16) × Int) (Vector UInt8 16)) :=
 if (decide (s43.2 < 16)) = true then ((ZI s43.1 s43.2).bind fun x49=>some (Fl.nx ((s43.1.setIfInBounds (s43.2).toNat (ZG (Int.tmod (wr ((wr (13 * s43.2)) + 4)) 16))),wr (s43.2 + 1)))) else (some (Fl.ex s43.1))
def VK (p0 : Int) : Option (GCipher) :=
 (VQ 285 254).bind fun r5=>(Wc ([0,1,4] : List Int) 90).bind fun r9=>(V5 r5 r9).bind fun r11=>(Zz (Up) ((Vector.replicate 4 (Vector.replicate 4 (0 : UInt8))),0)).bind fun j13=>(Zz (Ul) ((Vector.replicate 16 (0 : UInt8)),0)).bind fun j40=>some (⟨285,r11,j13,j40,p0⟩ : GCipher)
theorem J1 (w0 : World) (p0 : Int) (r : GCipher) (hF : VK p0 = some r) :
  Calls Tryz.prog 125 [vI p0].toArray w0 (Rt w0 (Value.agg (enc r).toArray)):=by
 refine ce Tryz.func125 ?_
 intro a hE
 have hM:=M.start w0
 unfold VK at hF
 refine Zb (ZC hE hM V7 fun b1 w a hM hE=>Ze (Zb (Zd hE rfl fun a hE=>VB (parts:=[(0,.const (vI 285)),(4,.tmp 7)]) (vs:=[(0,vI 285),(4,vI p0)]) (cs:=cat [[vI 285],enc (Vector.replicate 256 (0 : UInt8)),enc (Vector.replicate 4 (Vector.replicate 4 (0 : UInt8))),enc (Vector.replicate 16 (0 : UInt8)),[vI p0]]) hE Za ld rfl rfl V7 pl163 (Xh (pre:=[]) (seg:=[vI 0]) (seg':=[vI 285]) (post:=[enc (Vector.replicate 256 (0 : UInt8)),enc (Vector.replicate 4 (Vector.replicate 4 (0 : UInt8))),enc (Vector.replicate 16 (0 : UInt8)),[vI 0]]) rfl cl0 rfl rfl rfl (Xh (pre:=[[vI 285],enc (Vector.replicate 256 (0 : UInt8)),enc (Vector.replicate 4 (Vector.replicate 4 (0 : UInt8))),enc (Vector.replicate 16 (0 : UInt8))]) (seg:=[vI 0]) (seg':=[vI p0]) (post:=[]) rfl ck rfl rfl rfl U6)) fun a hE=>ZC hE hM V7 fun b3 w a hM hE=>Zn (seg:=cat [[vI 285],enc (Vector.replicate 256 (0 : UInt8)),enc (Vector.replicate 4 (Vector.replicate 4 (0 : UInt8))),enc (Vector.replicate 16 (0 : UInt8)),[vI p0]]) (cs':=cat [[vI 285],enc (Vector.replicate 256 (0 : UInt8)),enc (Vector.replicate 4 (Vector.replicate 4 (0 : UInt8))),enc (Vector.replicate 16 (0 : UInt8)),[vI p0]]) hE hM Za rfl rfl rfl V7 cq (Nat.le_of_eq ((Nat.zero_add _).trans (Eq.trans cq (Eq.symm cq)))) (YC (cc1 (Flat.cell (285 : Int)) (cc1 (Flat.cell _) (cc1 (Flat.cell _) (cc1 (Flat.cell _) (cc1 (Flat.cell (p0 : Int)) cc0)))))) (Zk (Eq.trans cq (Eq.symm cq))) fun w a hM hE=>Ze (Zb ?_))))
 obtain ⟨r5,e6,hF⟩:=bind_some hF
 refine Zy hE rfl (cbm Tryz.func176) (JZ _ 285 254 r5 e6) ?_
 rintro v w a ⟨rfl,hK⟩ hE
 have hM:=hM.keep hK
 refine Yr (xs:=[.const (vI 0),.const (vI 1),.const (vI 4)]) (l:=([0,1,4] : List Int)) (vs:=[vI 0,vI 1,vI 4]) hE hM Za ld rfl rfl Tryz.underlying24 ty2 rfl (by decide) rfl ?_; intro u7 w a hM hE
 obtain ⟨r9,e10,hF⟩:=bind_some hF
 refine Zy hE rfl (cbm Tryz.func177) (Kc _ ([0,1,4] : List Int) u7 (hM.sl (pre:=[]) noB) 90 r9 e10) ?_
 rintro v w a ⟨rfl,hK⟩ hE
 have hM:=hM.keep hK
 obtain ⟨r11,e12,hF⟩:=bind_some hF
 refine Zy hE rfl (cbm Tryz.func175) (H5 _ r5 r9 r11 e12) ?_
 rintro v w a ⟨rfl,hK⟩ hE
 have hM:=hM.keep hK
 refine Zw hE rfl (Q6) ?_; intro a hE
 have hM:=hM.pull1
 refine Zn (seg:=enc r11) hE hM Za rfl rfl rfl Xw (Flat.len _) (Ux (pre:=[[vI 285]]) ck flq) (Flat.cell _) (Xy (pre:=[[vI 285]]) ck flq) fun w a hM hE=>Ze (wp_seq (Zb (Zc hE rfl fun a hE=>Ze ?_)))
 obtain ⟨j13,hl14,hF15⟩:=bind_some hF
 refine ZM (fun a w=>Env 46 a [(2,(ptr b1 0)),(3,(ptr b3 0))] ∧ M (Old w0) w0 w [raw b3 (cat [[vI 285],enc r11,enc j13,enc (Vector.replicate 16 (0 : UInt8)),[vI p0]]),raw b1 (cat [[vI 0],enc (Vector.replicate 256 (0 : UInt8)),enc (Vector.replicate 4 (Vector.replicate 4 (0 : UInt8))),enc (Vector.replicate 16 (0 : UInt8)),[vI 0]])]) ?_ ?_
 ·skip
  refine wp_block ?_
  have hM:=M.fst (l:=[_,_]) hM.pull2.pull1
  refine ZE (fun (s16 : (Vector (Vector UInt8 4) 4) × Int) a w=>Env 46 a [(2,(ptr b1 0)),(3,(ptr b3 0)),(4,vI s16.2)] ∧ M (Old w0) w0 w [raw b3 (cat [[vI 285],enc r11,enc s16.1,enc (Vector.replicate 16 (0 : UInt8)),[vI p0]]),raw b1 (cat [[vI 0],enc (Vector.replicate 256 (0 : UInt8)),enc (Vector.replicate 4 (Vector.replicate 4 (0 : UInt8))),enc (Vector.replicate 16 (0 : UInt8)),[vI 0]])]) hl14 ⟨hE.sub ⟨rfl,rfl,rfl,trivial⟩,hM⟩ ?_
  rintro s16 a w ⟨hE,hM⟩ o19 hs17 hx18
  unfold Up at hs17
  refine wp_seq (Zb (Zd hE rfl fun a hE=>Zg hE rfl rfl rfl fun a hE=>Ze ?_))
  refine Zo hE rfl ?_ ?_
  ·intro hb20
   have hs17:=Zs hs17 hb20
   refine wp_skip (Zp (wp_seq (wp_block (Zb (Zc hE rfl fun a hE=>Ze ?_)))))
   obtain ⟨j21,hl22,hF23⟩:=bind_some hs17
   refine ZM (fun a w=>Env 46 a [(2,(ptr b1 0)),(3,(ptr b3 0)),(4,vI s16.2)] ∧ M (Old w0) w0 w [raw b3 (cat [[vI 285],enc r11,enc j21,enc (Vector.replicate 16 (0 : UInt8)),[vI p0]]),raw b1 (cat [[vI 0],enc (Vector.replicate 256 (0 : UInt8)),enc (Vector.replicate 4 (Vector.replicate 4 (0 : UInt8))),enc (Vector.replicate 16 (0 : UInt8)),[vI 0]])]) ?_ ?_
   ·skip
    refine wp_block ?_
    refine ZE (fun (s24 : (Vector (Vector UInt8 4) 4) × Int) a w=>Env 46 a [(2,(ptr b1 0)),(3,(ptr b3 0)),(4,vI s16.2),(5,vI s24.2)] ∧ M (Old w0) w0 w [raw b3 (cat [[vI 285],enc r11,enc s24.1,enc (Vector.replicate 16 (0 : UInt8)),[vI p0]]),raw b1 (cat [[vI 0],enc (Vector.replicate 256 (0 : UInt8)),enc (Vector.replicate 4 (Vector.replicate 4 (0 : UInt8))),enc (Vector.replicate 16 (0 : UInt8)),[vI 0]])]) hl22 ⟨hE.sub ⟨rfl,rfl,rfl,rfl,trivial⟩,hM⟩ ?_
    rintro s24 a w ⟨hE,hM⟩ o27 hs25 hx26
    unfold Um at hs25
    refine wp_seq (Zb (Zd hE rfl fun a hE=>Zg hE rfl rfl rfl fun a hE=>Ze ?_))
    refine Zo hE rfl ?_ ?_
    ·intro hb28
     have hs25:=Zs hs25 hb28
     refine wp_skip (Zp (wp_seq (wp_block ?_)))
     obtain ⟨r30,e31,hs25⟩:=bind_some hs25
     obtain ⟨x33,hi32,hs25⟩:=bvx hs25
     obtain ⟨x36,hi35,hs25⟩:=bvx hs25
     refine ZV [22,23,24,25,26,27,28,29,30,31,32] Yq rfl rfl (by decide) rfl hE hM (qsP (fun z=>Zi z.E Za ld rfl (kr0 rfl)) (qsP (fun z=>Zi z.E Za ld rfl (kr0 rfl)) (qsP (fun z=>Zi z.E Za ld rfl (kr0 rfl)) (qsP (fun z=>Zi z.E Za ld rfl (kr0 rfl)) (qsP (v:=(vI (wr (4 + s24.2)))) (fun z=>Yd z.E Za ld rfl rfl rfl (kr0 rfl)) (qsP (v:=(vI (JF s16.2 (wr (4 + s24.2))))) (fun z=>Yd z.E Za ld rfl rfl rfl (kr0 rfl)) (qsP (fun z=>Xb z.E Za ld rfl Tryz.underlying3 Tryz.underlying5 (kr0 rfl)) (qsP (fun z=>Yg z.E Za ld rfl (cbm Tryz.func178) (BC _ 285 (ZG (JF s16.2 (wr (4 + s24.2)))) r30 e31) (kc rfl)) (qsP (fun z=>Zr z.E Za ld rfl (KO) (kr0 rfl)) (qsP (fun z=>ZB z.E Za ld rfl rfl Tryz.underlying160 Xq hi32.1 (kr0 rfl)) (qsP (fun z=>ZB z.E Za ld rfl rfl Tryz.underlying158 ty5 hi35.1 (kr0 rfl)) qs0))))))))))) ?_
     ·intro a w u hE hM
      refine Zn (seg:=[vB r30]) (cs':=cat [[vI 285],enc r11,enc (s24.1.setIfInBounds (s16.2).toNat (x33.setIfInBounds (s24.2).toNat r30)),enc (Vector.replicate 16 (0 : UInt8)),[vI p0]]) hE hM Za rfl rfl rfl ty5 rfl (QU (o':=(s16.2).toNat * 4 + (0 + (s24.2).toNat * 1)) (pre:=[[vI 285],enc r11]) (seg:=enc s24.1) (post:=[enc (Vector.replicate 16 (0 : UInt8)),[vI p0]]) ck (VI (o':=0 + (s24.2).toNat * 1) hi32 (ZN (v:=x33) (x:=r30) hi35.1) (by first | omega | (simp only [Flat.n] <;> omega))) (by first | omega | (simp only [Flat.n] <;> omega))) (Flat.cell (r30 : UInt8)) (Tt (o':=(s16.2).toNat * 4 + (0 + (s24.2).toNat * 1)) (pre:=[[vI 285],enc r11]) (seg:=enc s24.1) (post:=[enc (Vector.replicate 16 (0 : UInt8)),[vI p0]]) ck (VI (o':=0 + (s24.2).toNat * 1) hi32 (ZN (v:=x33) (x:=r30) hi35.1) (by first | omega | (simp only [Flat.n] <;> omega))) (WZ (o':=0 + (s24.2).toNat * 1) hi32 (ZN (v:=x33) (x:=r30) hi35.1) (ZD (v:=x33) (x:=r30) hi35.1) (by first | omega | (simp only [Flat.n] <;> omega))) (by first | omega | (simp only [Flat.n] <;> omega))) fun w a hM hE=>Zf (Yc (Zp (wp_region_lit (Zd hE rfl fun a hE=>Zg hE rfl rfl rfl fun a hE=>Zc hE rfl fun a hE=>Zf (Zh ?_)))))
      exact ⟨_,(ois hs25),hE.sub ⟨rfl,rfl,rfl,rfl,trivial⟩,hM⟩
    ·intro hb28
     have hs25:=Zt hs25 hb28
     refine wp_exit (Zm (Zm (Yb ?_)))
     obtain rfl:=hx26 _ (ois hs25)
     refine Zh ?_
     exact ⟨hE.sub ⟨rfl,rfl,rfl,trivial⟩,hM⟩
   ·skip
    rintro a w ⟨hE,hM⟩
    refine Yc (Zp (wp_region_lit (Zd hE rfl fun a hE=>Zg hE rfl rfl rfl fun a hE=>Zc hE rfl fun a hE=>Zf (Zh ?_))))
    exact ⟨_,(ois hF23),hE.sub ⟨rfl,rfl,rfl,trivial⟩,hM⟩
  ·intro hb20
   have hs17:=Zt hs17 hb20
   refine wp_exit (Zm (Zm (Yb ?_)))
   obtain rfl:=hx18 _ (ois hs17)
   refine Zh ?_
   exact ⟨hE.sub ⟨rfl,rfl,trivial⟩,hM⟩
 ·skip
  rintro a w ⟨hE,hM⟩
  refine Zp (wp_seq (Zb (Zc hE rfl fun a hE=>Ze ?_)))
  obtain ⟨j40,hl41,hF42⟩:=bind_some hF15
  refine ZM (fun a w=>Env 46 a [(2,(ptr b1 0)),(3,(ptr b3 0))] ∧ M (Old w0) w0 w [raw b3 (cat [[vI 285],enc r11,enc j13,enc j40,[vI p0]]),raw b1 (cat [[vI 0],enc (Vector.replicate 256 (0 : UInt8)),enc (Vector.replicate 4 (Vector.replicate 4 (0 : UInt8))),enc (Vector.replicate 16 (0 : UInt8)),[vI 0]])]) ?_ ?_
  ·skip
   refine wp_block ?_
   refine ZE (fun (s43 : (Vector UInt8 16) × Int) a w=>Env 46 a [(2,(ptr b1 0)),(3,(ptr b3 0)),(6,vI s43.2)] ∧ M (Old w0) w0 w [raw b3 (cat [[vI 285],enc r11,enc j13,enc s43.1,[vI p0]]),raw b1 (cat [[vI 0],enc (Vector.replicate 256 (0 : UInt8)),enc (Vector.replicate 4 (Vector.replicate 4 (0 : UInt8))),enc (Vector.replicate 16 (0 : UInt8)),[vI 0]])]) hl41 ⟨hE.sub ⟨rfl,rfl,rfl,trivial⟩,hM⟩ ?_
   rintro s43 a w ⟨hE,hM⟩ o46 hs44 hx45
   unfold Ul at hs44
   refine wp_seq (Zb (Zd hE rfl fun a hE=>Zg hE rfl rfl rfl fun a hE=>Ze ?_))
   refine Zo hE rfl ?_ ?_
   ·intro hb47
    have hs44:=Zs hs44 hb47
    refine wp_skip (Zp (wp_seq (wp_block (wp_region_lit (Zd hE rfl fun a hE=>Zd hE rfl fun a hE=>Zg hE rfl rfl rfl fun a hE=>Zg hE rfl rfl rfl fun a hE=>Zg hE rfl rfl (T8 _ _ (by decide)) fun a hE=>Xb hE Za ld rfl Tryz.underlying3 Tryz.underlying5 fun a hE=>Zw hE rfl (KH) ?_))))); intro a hE
    obtain ⟨x49,hi48,hs44⟩:=bvx hs44
    refine ZF hE rfl rfl Tryz.underlying161 ty5 hi48.1 fun a hE=>Zn (seg:=[(vB (ZG (Int.tmod (wr ((wr (13 * s43.2)) + 4)) 16)))]) (cs':=cat [[vI 285],enc r11,enc j13,enc (s43.1.setIfInBounds (s43.2).toNat (ZG (Int.tmod (wr ((wr (13 * s43.2)) + 4)) 16))),[vI p0]]) hE hM Za rfl rfl rfl ty5 rfl (QU (o':=0 + (s43.2).toNat * 1) (pre:=[[vI 285],enc r11,enc j13]) (seg:=enc s43.1) (post:=[[vI p0]]) ck (ZN (v:=s43.1) (x:=ZG (Int.tmod (wr ((wr (13 * s43.2)) + 4)) 16)) hi48.1) (by first | omega | (simp only [Flat.n] <;> omega))) (Flat.cell (ZG (Int.tmod (wr ((wr (13 * s43.2)) + 4)) 16) : UInt8)) (Tt (o':=0 + (s43.2).toNat * 1) (pre:=[[vI 285],enc r11,enc j13]) (seg:=enc s43.1) (post:=[[vI p0]]) ck (ZN (v:=s43.1) (x:=ZG (Int.tmod (wr ((wr (13 * s43.2)) + 4)) 16)) hi48.1) (ZD (v:=s43.1) (x:=ZG (Int.tmod (wr ((wr (13 * s43.2)) + 4)) 16)) hi48.1) (by first | omega | (simp only [Flat.n] <;> omega))) fun w a hM hE=>Zf (Yc (Zp (wp_region_lit (Zd hE rfl fun a hE=>Zg hE rfl rfl rfl fun a hE=>Zc hE rfl fun a hE=>Zf (Zh ?_)))))
    exact ⟨_,(ois hs44),hE.sub ⟨rfl,rfl,rfl,trivial⟩,hM⟩
   ·intro hb47
    have hs44:=Zt hs44 hb47
    refine wp_exit (Zm (Zm (Yb ?_)))
    obtain rfl:=hx45 _ (ois hs44)
    refine Zh ?_
    exact ⟨hE.sub ⟨rfl,rfl,trivial⟩,hM⟩
  ·skip
   rintro a w ⟨hE,hM⟩
   refine Zp (Zb (Zq hE rfl V7 rfl hM.rawAt0 cq ?_)); intro a hE
   have hM:=hM.pull1
   refine Zn (seg:=cat [[(vI ((⟨285,r11,j13,j40,p0⟩ : GCipher).Field))],enc ((⟨285,r11,j13,j40,p0⟩ : GCipher).Box),enc ((⟨285,r11,j13,j40,p0⟩ : GCipher).Mix),enc ((⟨285,r11,j13,j40,p0⟩ : GCipher).Places),[(vI ((⟨285,r11,j13,j40,p0⟩ : GCipher).Rounds))]]) (cs':=cat [[(vI ((⟨285,r11,j13,j40,p0⟩ : GCipher).Field))],enc ((⟨285,r11,j13,j40,p0⟩ : GCipher).Box),enc ((⟨285,r11,j13,j40,p0⟩ : GCipher).Mix),enc ((⟨285,r11,j13,j40,p0⟩ : GCipher).Places),[(vI ((⟨285,r11,j13,j40,p0⟩ : GCipher).Rounds))]]) hE hM Za rfl rfl rfl V7 cq (Nat.le_of_eq ((Nat.zero_add _).trans (Eq.trans cq (Eq.symm cq)))) (YC (cc1 (Flat.cell ((⟨285,r11,j13,j40,p0⟩ : GCipher).Field : Int)) (cc1 (Flat.cell _) (cc1 (Flat.cell _) (cc1 (Flat.cell _) (cc1 (Flat.cell ((⟨285,r11,j13,j40,p0⟩ : GCipher).Rounds : Int)) cc0)))))) (Zk (Eq.trans cq (Eq.symm cq))) fun w a hM hE=>Ze ?_
   obtain rfl:=Option.some.inj hF42
   have hq52 : Yz Tryz.prog _ _ (.cell 2 163) _:=ZS hE rfl V7 rfl hM.rawAt0 cq rfl
   exact wp_ret (ZP hE rfl hq52 ⟨_,rfl,rfl,hM.kept⟩)
def Vi (p0 : (List UInt8)) : Option ((List UInt8)) :=
 (app 1 ([] : List UInt8) p0).bind fun l3=>some (([] : List UInt8) ++ p0)
theorem QY (w0 : World) (p0 : (List UInt8)) (v0_1 : Value) (hv0_1 : Ro w0 p0 [v0_1]) (r : (List UInt8)) (hF : Vi p0 = some r) :
  Calls Tryz.prog 65 [v0_1].toArray w0 (fun en w'=>∃ v,en = .returned v ∧ (∃ (y1 : Value),v = y1 ∧ Fr w0 w' [osl NoB (r : List UInt8) y1] ∧ Kept (Old w0) w0 w')):=by
 refine ce Tryz.func65 ?_
 intro a hE
 have hM:=M.start w0
 unfold Vi at hF
 refine Zb (Zc hE rfl fun a hE=>Ze (Zb (Yr (xs:=[]) (l:=([] : List UInt8)) (vs:=[]) hE hM Za ld rfl rfl Tryz.underlying40 ty5 rfl (by decide) rfl fun u1 w a hM hE=>Zd hE rfl ?_))); intro a hE
 obtain ⟨l3,e4,hF⟩:=bind_some hF
 have e7:=(Yo e4).1
 refine Yi hE hM Za ld rfl rfl (hM.rd hv0_1) Tryz.underlying40 ty5 rfl (by decide) e7 fun u5 w a hM hE=>Zc hE rfl fun a hE=>Ze ?_
 obtain rfl:=Option.some.inj hF
 exact wp_ret (ZP hE rfl (ZR hE rfl) ⟨_,rfl,u5,rfl,hM.outF (Yu XD),hM.kept⟩)
def Tb (s16 : (List UInt8)) : Option (Fl (List UInt8) (List UInt8)) :=
 if ((Int.tmod (s16.length : Int) 16) != 8) = true then ((app 1 s16 ([0] : List UInt8)).bind fun l25=>some (Fl.nx (s16 ++ ([0] : List UInt8)))) else (some (Fl.ex s16))
def Vp (p0 : (List UInt8)) (s36 : (List UInt8) × Int) : Option (Fl ((List UInt8) × Int) (List UInt8)) :=
 if (decide (s36.2 ≥ 0)) = true then ((Xd (IntKind.u64.wrap (wr (8 * s36.2)))).bind fun _=>(app 1 s36.1 ([ZG (Hf (TC (p0.length : Int) (IntKind.u64.wrap (wr (8 * s36.2)))) 255)] : List UInt8)).bind fun l46=>some (Fl.nx ((s36.1 ++ ([ZG (Hf (TC (p0.length : Int) (IntKind.u64.wrap (wr (8 * s36.2)))) 255)] : List UInt8)),wr (s36.2 - 1)))) else (some (Fl.ex s36.1))
def UI (p0 : (List UInt8)) : Option ((List UInt8)) :=
 (Vi p0).bind fun r1=>(app 1 r1 ([128] : List UInt8)).bind fun l6=>(Zz (Tb) (r1 ++ ([128] : List UInt8))).bind fun j11=>(Zz (Vp p0) (j11,7)).bind fun j31=>some j31
theorem BD (w0 : World) (p0 : (List UInt8)) (v0_1 : Value) (hv0_1 : Ro w0 p0 [v0_1]) (r : (List UInt8)) (hF : UI p0 = some r) :
  Calls Tryz.prog 172 [v0_1].toArray w0 (fun en w'=>∃ v,en = .returned v ∧ (∃ (y1 : Value),v = y1 ∧ Fr w0 w' [osl NoB (r : List UInt8) y1] ∧ Kept (Old w0) w0 w')):=by
 refine ce Tryz.func172 ?_
 intro a hE
 have hM:=M.start w0
 unfold UI at hF
 refine Zb (Zc hE rfl fun a hE=>Ze (Zb (Zd hE rfl ?_))); intro a hE
 obtain ⟨r1,e2,hF⟩:=bind_some hF
 refine Zy hE rfl (cbm Tryz.func65) (QY _ p0 v0_1 (hM.rdo hv0_1) r1 e2) ?_
 rintro u3 w a ⟨_,rfl,hFr,hK⟩ hE
 have hM:=hM.add hK hFr
 refine Yr (xs:=[.const (vB 128)]) (l:=([128] : List UInt8)) (vs:=[vB 128]) hE hM Za ld rfl rfl Tryz.underlying40 ty5 rfl (by decide) rfl ?_; intro u4 w a hM hE
 obtain ⟨l6,e7,hF⟩:=bind_some hF
 obtain ⟨e10,rfl⟩:=Yo e7
 have hM:=hM.pull1
 refine Yi hE hM Za ld rfl rfl (hM.sl (pre:=[_]) noB) Tryz.underlying40 ty5 rfl (by decide) e10 fun u8 w a hM hE=>Zc hE rfl fun a hE=>Ze ?_
 obtain ⟨j11,hl12,hF13⟩:=bind_some hF
 refine ZK (fun a w=>∃ (u14 : Value),Env 32 a [(0,v0_1),(3,u14)] ∧ M (Old w0) w0 w [osl NoB (j11 : List UInt8) u14]) ?_ ?_
 ·skip
  refine wp_block ?_
  have hM:=M.fst (l:=[_]) hM
  refine ZE (fun (s16 : (List UInt8)) a w=>∃ (u17 : Value),Env 32 a [(0,v0_1),(3,u17)] ∧ M (Old w0) w0 w [osl NoB (s16 : List UInt8) u17]) hl12 ⟨u8,hE.sub ⟨rfl,rfl,trivial⟩,hM⟩ ?_
  rintro s16 a w ⟨u17,hE,hM⟩ o21 hs19 hx20
  unfold Tb at hs19
  refine wp_seq (Zb (Zd hE rfl fun a hE=>Z7 hE rfl Tryz.underlying40 (hM.sl (pre:=[]) noB) fun a hE=>Zg hE rfl rfl (T8 _ _ (by decide)) fun a hE=>Zg hE rfl rfl rfl fun a hE=>Ze ?_))
  refine Zo hE rfl ?_ ?_
  ·intro hb22
   have hs19:=Zs hs19 hb22
   refine wp_skip (Zp (wp_block (wp_region_lit (Zd hE rfl fun a hE=>Yr (xs:=[.const (vB 0)]) (l:=([0] : List UInt8)) (vs:=[vB 0]) hE hM Za ld rfl rfl Tryz.underlying40 ty5 rfl (by decide) rfl ?_)))); intro u23 w a hM hE
   obtain ⟨l25,e26,hs19⟩:=bind_some hs19
   obtain ⟨e29,rfl⟩:=Yo e26
   have hM:=hM.pull1
   refine Yi hE hM Za ld rfl rfl (hM.sl (pre:=[_]) noB) Tryz.underlying40 ty5 rfl (by decide) e29 fun u27 w a hM hE=>Zc hE rfl fun a hE=>Zf (Yc (Zh ?_))
   have hM:=M.fst (l:=[_]) hM
   exact ⟨_,(ois hs19),u27,hE.sub ⟨rfl,rfl,trivial⟩,hM⟩
  ·intro hb22
   have hs19:=Zt hs19 hb22
   refine wp_exit (Zm (Zm (Yb ?_)))
   obtain rfl:=hx20 _ (ois hs19)
   refine Zh ?_
   exact ⟨u17,hE.sub ⟨rfl,rfl,trivial⟩,hM⟩
 ·skip
  rintro a w ⟨u14,hE,hM⟩
  refine wp_seq (Zb (Zc hE rfl fun a hE=>Ze ?_))
  obtain ⟨j31,hl32,hF33⟩:=bind_some hF13
  refine ZM (fun a w=>∃ (u34 : Value),Env 32 a [(3,u34)] ∧ M (Old w0) w0 w [osl NoB (j31 : List UInt8) u34]) ?_ ?_
  ·skip
   refine wp_block ?_
   refine ZE (fun (s36 : (List UInt8) × Int) a w=>∃ (u37 : Value),Env 32 a [(0,v0_1),(3,u37),(4,vI s36.2)] ∧ M (Old w0) w0 w [osl NoB (s36.1 : List UInt8) u37]) hl32 ⟨u14,hE.sub ⟨rfl,rfl,rfl,trivial⟩,hM⟩ ?_
   rintro s36 a w ⟨u37,hE,hM⟩ o41 hs39 hx40
   unfold Vp at hs39
   refine wp_seq (Zb (Zd hE rfl fun a hE=>Zg hE rfl rfl rfl fun a hE=>Ze ?_))
   refine Zo hE rfl ?_ ?_
   ·intro hb42
    have hs39:=Zs hs39 hb42
    refine wp_skip (Zp (wp_seq (wp_block (wp_region_lit (Zd hE rfl fun a hE=>Zd hE rfl fun a hE=>Z7 hE rfl Tryz.underlying40 (hM.rd hv0_1) fun a hE=>Zd hE rfl fun a hE=>Zg hE rfl rfl rfl fun a hE=>Ks hE Za ld rfl Tryz.underlying3 Tryz.underlying171 ?_))))); intro a hE
    obtain ⟨_,e43,hs39⟩:=bind_some hs39
    have e43:=Wi e43
    refine HT hE Za ld rfl rfl (As _ _ e43) fun a hE=>Zg hE rfl rfl rfl fun a hE=>Xb hE Za ld rfl Tryz.underlying3 Tryz.underlying5 fun a hE=>Yr (xs:=[.tmp 28]) (l:=([ZG (Hf (TC (p0.length : Int) (IntKind.u64.wrap (wr (8 * s36.2)))) 255)] : List UInt8)) (vs:=[(vB (ZG (Hf (TC (p0.length : Int) (IntKind.u64.wrap (wr (8 * s36.2)))) 255)))]) hE hM Za ld rfl rfl Tryz.underlying40 ty5 rfl (by decide) rfl ?_; intro u44 w a hM hE
    obtain ⟨l46,e47,hs39⟩:=bind_some hs39
    obtain ⟨e50,rfl⟩:=Yo e47
    have hM:=hM.pull1
    refine Yi hE hM Za ld rfl rfl (hM.sl (pre:=[_]) noB) Tryz.underlying40 ty5 rfl (by decide) e50 fun u48 w a hM hE=>Zc hE rfl fun a hE=>Zf (Yc (Zp (wp_region_lit (Zd hE rfl fun a hE=>Zg hE rfl rfl rfl fun a hE=>Zc hE rfl fun a hE=>Zf (Zh ?_)))))
    have hM:=M.fst (l:=[_]) hM
    exact ⟨_,(ois hs39),u48,hE.sub ⟨rfl,rfl,rfl,trivial⟩,hM⟩
   ·intro hb42
    have hs39:=Zt hs39 hb42
    refine wp_exit (Zm (Zm (Yb ?_)))
    obtain rfl:=hx40 _ (ois hs39)
    refine Zh ?_
    exact ⟨u37,hE.sub ⟨rfl,trivial⟩,hM⟩
  ·skip
   rintro a w ⟨u34,hE,hM⟩
   refine Zp (Zb (Zd hE rfl fun a hE=>Zc hE rfl fun a hE=>Ze ?_))
   obtain rfl:=Option.some.inj hF33
   exact wp_ret (ZP hE rfl (ZR hE rfl) ⟨_,rfl,u34,rfl,hM.outF (Yu XD),hM.kept⟩)
def XZ (p0 : (List UInt8)) (s8 : (List (Vector UInt8 16)) × Int) (s20 : (Vector UInt8 16) × Int) : Option (Fl ((Vector UInt8 16) × Int) (Vector UInt8 16)) :=
 if (decide (s20.2 < 16)) = true then ((idx p0 (wr (s8.2 + s20.2))).bind fun x25=>(ZI s20.1 s20.2).bind fun x29=>some (Fl.nx ((s20.1.setIfInBounds (s20.2).toNat x25),wr (s20.2 + 1)))) else (some (Fl.ex s20.1))
def X0 (p0 : (List UInt8)) (s8 : (List (Vector UInt8 16)) × Int) : Option (Fl ((List (Vector UInt8 16)) × Int) (List (Vector UInt8 16))) :=
 if (decide ((wr (s8.2 + 16)) ≤ (p0.length : Int))) = true then ((Zz (XZ p0 s8) ((Vector.replicate 16 (0 : UInt8)),0)).bind fun j17=>(app 16 s8.1 ([j17] : List (Vector UInt8 16))).bind fun l34=>some (Fl.nx ((s8.1 ++ ([j17] : List (Vector UInt8 16))),wr (s8.2 + 16)))) else (some (Fl.ex s8.1))
def Vr (p0 : (List UInt8)) : Option ((List (Vector UInt8 16))) :=
 (Zz (X0 p0) (([] : List (Vector UInt8 16)),0)).bind fun j3=>some j3
theorem Jv (w0 : World) (p0 : (List UInt8)) (v0_1 : Value) (hv0_1 : Ro w0 p0 [v0_1]) (r : (List (Vector UInt8 16))) (hF : Vr p0 = some r) :
  Calls Tryz.prog 171 [v0_1].toArray w0 (fun en w'=>∃ v,en = .returned v ∧ (∃ (y1 : Value),v = y1 ∧ Fr w0 w' [osl NoB (r : List (Vector UInt8 16)) y1] ∧ Kept (Old w0) w0 w')):=by
 refine ce Tryz.func171 ?_
 intro a hE
 have hM:=M.start w0
 unfold Vr at hF
 refine Zb (Zc hE rfl fun a hE=>Ze (Zb (Yr (xs:=[]) (l:=([] : List (Vector UInt8 16))) (vs:=[]) hE hM Za ld rfl rfl Tryz.underlying54 ZJ rfl (by decide) rfl fun u1 w a hM hE=>Zc hE rfl fun a hE=>Ze (wp_seq (Zb (Zc hE rfl fun a hE=>Ze ?_))))))
 obtain ⟨j3,hl4,hF5⟩:=bind_some hF
 refine ZM (fun a w=>∃ (u6 : Value),Env 33 a [(3,u6)] ∧ M (Old w0) w0 w [osl NoB (j3 : List (Vector UInt8 16)) u6]) ?_ ?_
 ·skip
  refine wp_block ?_
  refine ZE (fun (s8 : (List (Vector UInt8 16)) × Int) a w=>∃ (u9 : Value),Env 33 a [(0,v0_1),(3,u9),(4,vI s8.2)] ∧ M (Old w0) w0 w [osl NoB (s8.1 : List (Vector UInt8 16)) u9]) hl4 ⟨u1,hE.sub ⟨rfl,rfl,rfl,trivial⟩,hM⟩ ?_
  rintro s8 a w ⟨u9,hE,hM⟩ o13 hs11 hx12
  unfold X0 at hs11
  refine wp_seq (Zb (Zd hE rfl fun a hE=>Zg hE rfl rfl rfl fun a hE=>Zd hE rfl fun a hE=>Z7 hE rfl Tryz.underlying40 (hM.rd hv0_1) fun a hE=>Zg hE rfl rfl rfl fun a hE=>Ze ?_))
  refine Zo hE rfl ?_ ?_
  ·intro hb14
   have hs11:=Zs hs11 hb14
   refine wp_skip (Zp (wp_seq (wp_block (Zb (XP (parts:=[]) (vs:=[]) (cs:=enc (Vector.replicate 16 (0 : UInt8))) hE Za ld rfl rfl ZJ rfl ty5 Y1 fun a hE=>ZC hE hM ZJ fun b15 w a hM hE=>Zn (seg:=enc (Vector.replicate 16 (0 : UInt8))) (cs':=enc (Vector.replicate 16 (0 : UInt8))) hE hM Za rfl rfl rfl ZJ (Flat.len _) (zle flq) (Flat.cell _) (Zk flq) fun w a hM hE=>Ze (wp_seq (Zb (Zc hE rfl fun a hE=>Ze ?_))))))))
   obtain ⟨j17,hl18,hF19⟩:=bind_some hs11
   refine ZM (fun a w=>Env 33 a [(0,v0_1),(3,u9),(4,vI s8.2),(5,(ptr b15 0))] ∧ M (Old w0) w0 w [raw b15 (enc j17),osl NoB (s8.1 : List (Vector UInt8 16)) u9]) ?_ ?_
   ·skip
    refine wp_block ?_
    refine ZE (fun (s20 : (Vector UInt8 16) × Int) a w=>Env 33 a [(0,v0_1),(3,u9),(4,vI s8.2),(5,(ptr b15 0)),(6,vI s20.2)] ∧ M (Old w0) w0 w [raw b15 (enc s20.1),osl NoB (s8.1 : List (Vector UInt8 16)) u9]) hl18 ⟨hE.sub ⟨rfl,rfl,rfl,rfl,rfl,trivial⟩,hM⟩ ?_
    rintro s20 a w ⟨hE,hM⟩ o23 hs21 hx22
    unfold XZ at hs21
    refine wp_seq (Zb (Zd hE rfl fun a hE=>Zg hE rfl rfl rfl fun a hE=>Ze ?_))
    refine Zo hE rfl ?_ ?_
    ·intro hb24
     have hs21:=Zs hs21 hb24
     refine wp_skip (Zp (wp_seq (wp_block (wp_region_lit (Zd hE rfl fun a hE=>Zd hE rfl fun a hE=>Zd hE rfl fun a hE=>Zd hE rfl fun a hE=>Zg hE rfl rfl rfl ?_))))); intro a hE
     obtain ⟨x25,hi27,hs21⟩:=bix hs21
     refine Z9 hE rfl rfl Tryz.underlying40 ty5 (hM.rd hv0_1) hi27.1 fun a hE=>ZA (v:=(vB x25)) hE rfl ty5 rfl (Yl (hM.rd hv0_1) hi27.2) ?_; intro a hE
     obtain ⟨x29,hi28,hs21⟩:=bvx hs21
     refine ZF hE rfl rfl Tryz.underlying68 ty5 hi28.1 fun a hE=>Zn (seg:=[vB x25]) (cs':=enc (s20.1.setIfInBounds (s20.2).toNat x25)) hE hM Za rfl rfl rfl ty5 rfl (ZN (v:=s20.1) (x:=x25) hi28.1) (Flat.cell (x25 : UInt8)) (ZD (v:=s20.1) (x:=x25) hi28.1) fun w a hM hE=>Zf (Yc (Zp (wp_region_lit (Zd hE rfl fun a hE=>Zg hE rfl rfl rfl fun a hE=>Zc hE rfl fun a hE=>Zf (Zh ?_)))))
     exact ⟨_,(ois hs21),hE.sub ⟨rfl,rfl,rfl,rfl,rfl,trivial⟩,hM⟩
    ·intro hb24
     have hs21:=Zt hs21 hb24
     refine wp_exit (Zm (Zm (Yb ?_)))
     obtain rfl:=hx22 _ (ois hs21)
     refine Zh ?_
     exact ⟨hE.sub ⟨rfl,rfl,rfl,rfl,trivial⟩,hM⟩
   ·skip
    rintro a w ⟨hE,hM⟩
    refine Zp (wp_region_lit (Zd hE rfl fun a hE=>Zq hE rfl ZJ rfl hM.rawAt0 (Flat.len _) fun a hE=>Yr (xs:=[.tmp 29]) (l:=([j17] : List (Vector UInt8 16))) (vs:=[(Value.agg (enc j17).toArray)]) hE hM Za ld rfl rfl Tryz.underlying54 ZJ rfl (by decide) rfl ?_)); intro u32 w a hM hE
    obtain ⟨l34,e35,hF19⟩:=bind_some hF19
    obtain ⟨e38,rfl⟩:=Yo e35
    have hM:=hM.pull2
    refine Yi hE hM Za ld rfl rfl (hM.sl (pre:=[_]) noB) Tryz.underlying54 ZJ rfl (by decide) e38 fun u36 w a hM hE=>Zc hE rfl fun a hE=>Zf (Yc (Zp (wp_region_lit (Zd hE rfl fun a hE=>Zg hE rfl rfl rfl fun a hE=>Zc hE rfl fun a hE=>Zf (Zh ?_)))))
    have hM:=M.fst (l:=[_]) hM
    exact ⟨_,(ois hF19),u36,hE.sub ⟨rfl,rfl,rfl,trivial⟩,hM⟩
  ·intro hb14
   have hs11:=Zt hs11 hb14
   refine wp_exit (Zm (Zm (Yb ?_)))
   obtain rfl:=hx12 _ (ois hs11)
   refine Zh ?_
   exact ⟨u9,hE.sub ⟨rfl,trivial⟩,hM⟩
 ·skip
  rintro a w ⟨u6,hE,hM⟩
  refine Zp (Zb (Zd hE rfl fun a hE=>Zc hE rfl fun a hE=>Ze ?_))
  obtain rfl:=Option.some.inj hF5
  exact wp_ret (ZP hE rfl (ZR hE rfl) ⟨_,rfl,u6,rfl,hM.outF (Yu XD),hM.kept⟩)
def Wo (s8 : (Vector UInt8 32) × Int) : Option (Fl ((Vector UInt8 32) × Int) (Vector UInt8 32)) :=
 if (decide (s8.2 < 32)) = true then ((ZI s8.1 s8.2).bind fun x14=>some (Fl.nx ((s8.1.setIfInBounds (s8.2).toNat (ZG (Int.tmod (wr (17 * s8.2)) 256))),wr (s8.2 + 1)))) else (some (Fl.ex s8.1))
def VN : Option ((Vector UInt8 32)) :=
 (Zz (Wo) ((Vector.replicate 32 (0 : UInt8)),0)).bind fun j5=>some j5
theorem Hd (w0 : World)  (r : (Vector UInt8 32)) (hF : VN  = some r) :
  Calls Tryz.prog 173 [].toArray w0 (Rt w0 (Value.agg (enc r).toArray)):=by
 refine ce Tryz.func173 ?_
 intro a hE
 have hM:=M.start w0
 unfold VN at hF
 refine Zb (ZC hE hM Z3 fun b1 w a hM hE=>Ze (Zb (XP (parts:=[]) (vs:=[]) (cs:=enc (Vector.replicate 32 (0 : UInt8))) hE Za ld rfl rfl Z3 rfl ty5 Y1 fun a hE=>ZC hE hM Z3 fun b3 w a hM hE=>Zn (seg:=enc (Vector.replicate 32 (0 : UInt8))) (cs':=enc (Vector.replicate 32 (0 : UInt8))) hE hM Za rfl rfl rfl Z3 (Flat.len _) (zle flq) (Flat.cell _) (Zk flq) fun w a hM hE=>Ze (wp_seq (Zb (Zc hE rfl fun a hE=>Ze ?_))))))
 obtain ⟨j5,hl6,hF7⟩:=bind_some hF
 refine ZM (fun a w=>Env 15 a [(0,(ptr b1 0)),(1,(ptr b3 0))] ∧ M (Old w0) w0 w [raw b3 (enc j5),raw b1 (enc (Vector.replicate 32 (0 : UInt8)))]) ?_ ?_
 ·skip
  refine wp_block ?_
  refine ZE (fun (s8 : (Vector UInt8 32) × Int) a w=>Env 15 a [(0,(ptr b1 0)),(1,(ptr b3 0)),(2,vI s8.2)] ∧ M (Old w0) w0 w [raw b3 (enc s8.1),raw b1 (enc (Vector.replicate 32 (0 : UInt8)))]) hl6 ⟨hE.sub ⟨rfl,rfl,rfl,trivial⟩,hM⟩ ?_
  rintro s8 a w ⟨hE,hM⟩ o11 hs9 hx10
  unfold Wo at hs9
  refine wp_seq (Zb (Zd hE rfl fun a hE=>Zg hE rfl rfl rfl fun a hE=>Ze ?_))
  refine Zo hE rfl ?_ ?_
  ·intro hb12
   have hs9:=Zs hs9 hb12
   refine wp_skip (Zp (wp_seq (wp_block (wp_region_lit (Zd hE rfl fun a hE=>Zd hE rfl fun a hE=>Zg hE rfl rfl rfl fun a hE=>Zg hE rfl rfl (T8 _ _ (by decide)) fun a hE=>Xb hE Za ld rfl Tryz.underlying3 Tryz.underlying5 ?_))))); intro a hE
   obtain ⟨x14,hi13,hs9⟩:=bvx hs9
   refine ZF hE rfl rfl Tryz.underlying35 ty5 hi13.1 fun a hE=>Zn (seg:=[(vB (ZG (Int.tmod (wr (17 * s8.2)) 256)))]) (cs':=enc (s8.1.setIfInBounds (s8.2).toNat (ZG (Int.tmod (wr (17 * s8.2)) 256)))) hE hM Za rfl rfl rfl ty5 rfl (ZN (v:=s8.1) (x:=ZG (Int.tmod (wr (17 * s8.2)) 256)) hi13.1) (Flat.cell (ZG (Int.tmod (wr (17 * s8.2)) 256) : UInt8)) (ZD (v:=s8.1) (x:=ZG (Int.tmod (wr (17 * s8.2)) 256)) hi13.1) fun w a hM hE=>Zf (Yc (Zp (wp_region_lit (Zd hE rfl fun a hE=>Zg hE rfl rfl rfl fun a hE=>Zc hE rfl fun a hE=>Zf (Zh ?_)))))
   exact ⟨_,(ois hs9),hE.sub ⟨rfl,rfl,rfl,trivial⟩,hM⟩
  ·intro hb12
   have hs9:=Zt hs9 hb12
   refine wp_exit (Zm (Zm (Yb ?_)))
   obtain rfl:=hx10 _ (ois hs9)
   refine Zh ?_
   exact ⟨hE.sub ⟨rfl,rfl,trivial⟩,hM⟩
 ·skip
  rintro a w ⟨hE,hM⟩
  refine Zp (Zb (Zq hE rfl Z3 rfl hM.rawAt0 (Flat.len _) ?_)); intro a hE
  have hM:=hM.pull1
  refine Zn (seg:=enc j5) (cs':=enc j5) hE hM Za rfl rfl rfl Z3 (Flat.len _) (zle flq) (Flat.cell _) (Zk flq) fun w a hM hE=>Ze ?_
  obtain rfl:=Option.some.inj hF7
  have hq17 : Yz Tryz.prog _ _ (.cell 0 35) _:=ZS hE rfl Z3 rfl hM.rawAt0 (Flat.len _) rfl
  exact wp_ret (ZP hE rfl hq17 ⟨_,rfl,rfl,hM.kept⟩)
def XY (p0 : (Vector UInt8 32)) (s14 : (Vector UInt8 16) × (Vector UInt8 16) × Int) : Option (Fl ((Vector UInt8 16) × (Vector UInt8 16) × Int) ((Vector UInt8 16) × (Vector UInt8 16))) :=
 if (decide (s14.2.2 < 16)) = true then ((ZI p0 s14.2.2).bind fun x20=>(ZI s14.2.1 s14.2.2).bind fun x23=>(ZI p0 (wr (16 + s14.2.2))).bind fun x26=>(ZI s14.1 s14.2.2).bind fun x29=>some (Fl.nx ((s14.1.setIfInBounds (s14.2.2).toNat x26),(s14.2.1.setIfInBounds (s14.2.2).toNat x20),wr (s14.2.2 + 1)))) else (some (Fl.ex (s14.1,s14.2.1)))
def Vh (p0 : (Vector UInt8 32)) : Option ((Vector UInt8 16) × (Vector UInt8 16)) :=
 (Zz (XY p0) ((Vector.replicate 16 (0 : UInt8)),(Vector.replicate 16 (0 : UInt8)),0)).bind fun j11=>(some (j11.2,j11.1) : Option ((Vector UInt8 16) × (Vector UInt8 16))).bind fun j32=>some (j32.1,j32.2)
theorem Jd (w0 : World) (p0 : (Vector UInt8 32)) (r : (Vector UInt8 16) × (Vector UInt8 16)) (hF : Vh p0 = some r) :
  Calls Tryz.prog 205 [(Value.agg (enc p0).toArray)].toArray w0 (Rt w0 (Value.tuple [(Value.agg (enc r.1).toArray),(Value.agg (enc r.2).toArray)].toArray)):=by
 refine ce Tryz.func205 ?_
 intro a hE
 have hM:=M.start w0
 unfold Vh at hF
 refine Zb (ZZ (cs:=enc p0) hE hM Za ld rfl rfl fun b1 w a hM hE=>ZC hE hM ZJ fun b3 w a hM hE=>ZC hE hM ZJ fun b5 w a hM hE=>Ze (Zb (XP (parts:=[]) (vs:=[]) (cs:=enc (Vector.replicate 16 (0 : UInt8))) hE Za ld rfl rfl ZJ rfl ty5 Y1 fun a hE=>XP (parts:=[]) (vs:=[]) (cs:=enc (Vector.replicate 16 (0 : UInt8))) hE Za ld rfl rfl ZJ rfl ty5 Y1 fun a hE=>ZC hE hM ZJ fun b7 w a hM hE=>ZC hE hM ZJ ?_))); intro b9 w a hM hE
 have hM:=hM.pull1
 refine Zn (seg:=enc (Vector.replicate 16 (0 : UInt8))) (cs':=enc (Vector.replicate 16 (0 : UInt8))) hE hM Za rfl rfl rfl ZJ (Flat.len _) (zle flq) (Flat.cell _) (Zk flq) ?_; intro w a hM hE
 have hM:=hM.pull1
 refine Zn (seg:=enc (Vector.replicate 16 (0 : UInt8))) (cs':=enc (Vector.replicate 16 (0 : UInt8))) hE hM Za rfl rfl rfl ZJ (Flat.len _) (zle flq) (Flat.cell _) (Zk flq) fun w a hM hE=>Ze (wp_seq (Zb (Zc hE rfl fun a hE=>Ze ?_)))
 obtain ⟨j11,hl12,hF13⟩:=bind_some hF
 refine ZM (fun a w=>Env 26 a [(2,(ptr b3 0)),(3,(ptr b5 0)),(4,(ptr b7 0)),(5,(ptr b9 0))] ∧ M (Old w0) w0 w [raw b9 (enc j11.1),raw b7 (enc j11.2),raw b5 (enc (Vector.replicate 16 (0 : UInt8))),raw b3 (enc (Vector.replicate 16 (0 : UInt8)))]) ?_ ?_
 ·skip
  refine wp_block ?_
  refine ZE (fun (s14 : (Vector UInt8 16) × (Vector UInt8 16) × Int) a w=>Env 26 a [(1,(ptr b1 0)),(2,(ptr b3 0)),(3,(ptr b5 0)),(4,(ptr b7 0)),(5,(ptr b9 0)),(6,vI s14.2.2)] ∧ M (Old w0) w0 w [raw b9 (enc s14.1),raw b7 (enc s14.2.1),raw b5 (enc (Vector.replicate 16 (0 : UInt8))),raw b3 (enc (Vector.replicate 16 (0 : UInt8))),raw b1 (enc p0)]) hl12 ⟨hE.sub ⟨rfl,rfl,rfl,rfl,rfl,rfl,trivial⟩,hM⟩ ?_
  rintro s14 a w ⟨hE,hM⟩ o17 hs15 hx16
  unfold XY at hs15
  refine wp_seq (Zb (Zd hE rfl fun a hE=>Zg hE rfl rfl rfl fun a hE=>Ze ?_))
  refine Zo hE rfl ?_ ?_
  ·intro hb18
   have hs15:=Zs hs15 hb18
   refine wp_skip (Zp (wp_seq (wp_block (Zb (Zd hE rfl fun a hE=>Zd hE rfl ?_))))); intro a hE
   obtain ⟨x20,hi19,hs15⟩:=bvx hs15
   refine ZF hE rfl rfl Tryz.underlying35 ty5 hi19.1 fun a hE=>ZA (v:=(vB x20)) hE rfl ty5 rfl (At.vec hM.rawAt4 hi19.2) ?_; intro a hE
   obtain ⟨x23,hi22,hs15⟩:=bvx hs15
   refine ZF hE rfl rfl Tryz.underlying68 ty5 hi22.1 ?_; intro a hE
   have hM:=hM.pull1
   refine Zn (seg:=[vB x20]) (cs':=enc (s14.2.1.setIfInBounds (s14.2.2).toNat x20)) hE hM Za rfl rfl rfl ty5 rfl (ZN (v:=s14.2.1) (x:=x20) hi22.1) (Flat.cell (x20 : UInt8)) (ZD (v:=s14.2.1) (x:=x20) hi22.1) fun w a hM hE=>Ze (wp_region_lit (Zd hE rfl fun a hE=>Zd hE rfl fun a hE=>Zg hE rfl rfl rfl ?_)); intro a hE
   obtain ⟨x26,hi25,hs15⟩:=bvx hs15
   refine ZF hE rfl rfl Tryz.underlying35 ty5 hi25.1 fun a hE=>ZA (v:=(vB x26)) hE rfl ty5 rfl (At.vec hM.rawAt4 hi25.2) ?_; intro a hE
   obtain ⟨x29,hi28,hs15⟩:=bvx hs15
   refine ZF hE rfl rfl Tryz.underlying68 ty5 hi28.1 ?_; intro a hE
   have hM:=hM.pull1
   refine Zn (seg:=[vB x26]) (cs':=enc (s14.1.setIfInBounds (s14.2.2).toNat x26)) hE hM Za rfl rfl rfl ty5 rfl (ZN (v:=s14.1) (x:=x26) hi28.1) (Flat.cell (x26 : UInt8)) (ZD (v:=s14.1) (x:=x26) hi28.1) fun w a hM hE=>Zf (Yc (Zp (wp_region_lit (Zd hE rfl fun a hE=>Zg hE rfl rfl rfl fun a hE=>Zc hE rfl fun a hE=>Zf (Zh ?_)))))
   exact ⟨_,(ois hs15),hE.sub ⟨rfl,rfl,rfl,rfl,rfl,rfl,trivial⟩,hM⟩
  ·intro hb18
   have hs15:=Zt hs15 hb18
   refine wp_exit (Zm (Zm (Yb ?_)))
   obtain rfl:=hx16 _ (ois hs15)
   refine Zh ?_
   have hM:=M.fst (l:=[_,_,_,_]) hM.pull3.pull3.pull3.pull3
   exact ⟨hE.sub ⟨rfl,rfl,rfl,rfl,trivial⟩,hM⟩
 ·skip
  rintro a w ⟨hE,hM⟩
  refine Zp ?_
  obtain ⟨j32,hl33,hF34⟩:=bind_some hF13
  refine ZK (fun a w=>Env 26 a [(2,(ptr b3 0)),(3,(ptr b5 0))] ∧ M (Old w0) w0 w [raw b5 (enc j32.2),raw b3 (enc j32.1)]) ?_ ?_
  ·skip
   have hM:=hM.pull3
   refine Yv (its:=[raw b9 (enc j11.1),raw b7 (enc j11.2),raw b5 (enc (Vector.replicate 16 (0 : UInt8)))]) (mk:=([mkT 2 (raw b3 (enc (Vector.replicate 16 (0 : UInt8)))) (raw b3 (enc j11.2))] : Mk)) [24,25,28] Yq rfl rfl (by decide) rfl hE (fun u=>M.qT (M.q0 hM.drew u)) (qsP (v:=(Value.agg (enc j11.2).toArray)) ?_ (qsP (v:=(Value.agg (enc j11.1).toArray)) ?_ (qsM (pr:=fun v=>True) ?_ qs0))) ?_
   ·intro a w ux35 D z
    have hE:=z.E
    have hD : D 0 = false:=z.F
    have hM:=z.M.togA (pre:=[_,_,_]) (QE (j:=2) (k:=0) z.c rfl rfl rfl hD)
    exact Zq hE rfl ZJ rfl hM.rawAt1 (Flat.len _) fun a hE=>⟨Kept.refl _ _,_,rfl,hE⟩
   ·intro a w ux35 D z
    have hE:=z.E
    have hM:=z.M
    exact Zq hE rfl ZJ rfl hM.rawAt0 (Flat.len _) fun a hE=>⟨Kept.refl _ _,_,rfl,hE⟩
   ·intro a w ux35 D z
    have hE:=z.E
    have hD : D 2 = false:=z.F
    have hM:=(z.M.togA (pre:=[_,_,_]) hD).pull3
    exact Zn (seg:=enc j11.2) (cs':=enc j11.2) hE hM Za rfl rfl rfl ZJ (Flat.len _) (zle flq) (Flat.cell _) (Zk flq) fun w a hM hE=>⟨undef,_,rfl,Env.dummy hE (by decide),M.qTog (mk1:=[]) (mk2:=[]) hM rfl,trivial⟩
   ·intro a w ux35 D hE hM hG hall
    have d2:=hall 2 (by decide)
    have hM:=(hM.togB (pre:=[_,_,_]) d2).pull2
    refine Zn (seg:=enc j11.1) (cs':=enc j11.1) hE hM Za rfl rfl rfl ZJ (Flat.len _) (zle flq) (Flat.cell _) (Zk flq) fun w a hM hE=>Zf ?_
    obtain rfl:=Option.some.inj hl33
    refine Zh ?_
    have hM:=M.fst (l:=[_,_]) hM.pull3.pull1
    exact ⟨hE.sub ⟨rfl,rfl,trivial⟩,hM⟩
  ·skip
   rintro a w ⟨hE,hM⟩
   obtain rfl:=Option.some.inj hF34
   have hq37 : Yz Tryz.prog _ _ (.cell 2 68) _:=ZS hE rfl ZJ rfl hM.rawAt1 (Flat.len _) rfl
   have hq38 : Yz Tryz.prog _ _ (.cell 3 68) _:=ZS hE rfl ZJ rfl hM.rawAt0 (Flat.len _) rfl
   exact wp_ret (To hE rfl hq37 hq38 ⟨_,rfl,rfl,hM.kept⟩)
def Va (p1 : (Vector UInt8 16)) (s10 : (Vector UInt8 16) × Int) : Option (Fl ((Vector UInt8 16) × Int) (Vector UInt8 16)) :=
 if (decide (s10.2 < 16)) = true then ((ZI s10.1 s10.2).bind fun x17=>(ZI p1 s10.2).bind fun x20=>(ZI s10.1 s10.2).bind fun x23=>some (Fl.nx ((s10.1.setIfInBounds (s10.2).toNat (x17 ^^^ x20)),wr (s10.2 + 1)))) else (some (Fl.ex s10.1))
def Y6 (p0 : (Vector UInt8 16)) (p1 : (Vector UInt8 16)) : Option ((Vector UInt8 16)) :=
 (Zz (Va p1) (p0,0)).bind fun j7=>some j7
theorem VT (w0 : World) (p0 : (Vector UInt8 16)) (p1 : (Vector UInt8 16)) (r : (Vector UInt8 16)) (hF : Y6 p0 p1 = some r) :
  Calls Tryz.prog 206 [(Value.agg (enc p0).toArray),(Value.agg (enc p1).toArray)].toArray w0 (Rt w0 (Value.agg (enc r).toArray)):=by
 refine ce Tryz.func206 ?_
 intro a hE
 have hM:=M.start w0
 unfold Y6 at hF
 refine Zb (ZZ (cs:=enc p0) hE hM Za ld rfl rfl fun b1 w a hM hE=>ZZ (cs:=enc p1) hE hM Za ld rfl rfl fun b3 w a hM hE=>ZC hE hM ZJ fun b5 w a hM hE=>Ze (wp_seq (Zb (Zc hE rfl fun a hE=>Ze ?_))))
 obtain ⟨j7,hl8,hF9⟩:=bind_some hF
 refine ZM (fun a w=>Env 20 a [(2,(ptr b1 0)),(4,(ptr b5 0))] ∧ M (Old w0) w0 w [raw b5 (enc (Vector.replicate 16 (0 : UInt8))),raw b1 (enc j7)]) ?_ ?_
 ·skip
  refine wp_block ?_
  refine ZE (fun (s10 : (Vector UInt8 16) × Int) a w=>Env 20 a [(2,(ptr b1 0)),(3,(ptr b3 0)),(4,(ptr b5 0)),(5,vI s10.2)] ∧ M (Old w0) w0 w [raw b5 (enc (Vector.replicate 16 (0 : UInt8))),raw b3 (enc p1),raw b1 (enc s10.1)]) hl8 ⟨hE.sub ⟨rfl,rfl,rfl,rfl,trivial⟩,hM⟩ ?_
  rintro s10 a w ⟨hE,hM⟩ o13 hs11 hx12
  unfold Va at hs11
  refine wp_seq (Zb (Zd hE rfl fun a hE=>Zg hE rfl rfl rfl fun a hE=>Ze ?_))
  refine Zo hE rfl ?_ ?_
  ·intro hb14
   have hs11:=Zs hs11 hb14
   refine wp_skip (Zp (wp_seq (wp_block ?_)))
   obtain ⟨x17,hi16,hs11⟩:=bvx hs11
   obtain ⟨x20,hi19,hs11⟩:=bvx hs11
   obtain ⟨x23,hi22,hs11⟩:=bvx hs11
   refine ZV [10,11,12,13,14,15,16,17,18] Yq rfl rfl (by decide) rfl hE hM (qsP (fun z=>Zi z.E Za ld rfl (kr0 rfl)) (qsP (fun z=>Zi z.E Za ld rfl (kr0 rfl)) (qsP (fun z=>ZB z.E Za ld rfl rfl Tryz.underlying68 ty5 hi16.1 (kr0 rfl)) (qsP (fun z=>ZL (v:=(vB x17)) z.E Za ld rfl ty5 rfl (At.vec (z.M.rawAt2) hi16.2) (kr0 rfl)) (qsP (fun z=>Zi z.E Za ld rfl (kr0 rfl)) (qsP (fun z=>ZB z.E Za ld rfl rfl Tryz.underlying68 ty5 hi19.1 (kr0 rfl)) (qsP (fun z=>ZL (v:=(vB x20)) z.E Za ld rfl ty5 rfl (At.vec (z.M.rawAt1) hi19.2) (kr0 rfl)) (qsP (v:=(vB (x17 ^^^ x20))) (fun z=>Yd z.E Za ld rfl rfl (VV x17 x20) (kr0 rfl)) (qsP (fun z=>ZB z.E Za ld rfl rfl Tryz.underlying68 ty5 hi22.1 (kr0 rfl)) qs0))))))))) ?_
   ·intro a w u hE hM
    have hM:=hM.pull2
    refine Zn (seg:=[(vB (x17 ^^^ x20))]) (cs':=enc (s10.1.setIfInBounds (s10.2).toNat (x17 ^^^ x20))) hE hM Za rfl rfl rfl ty5 rfl (ZN (v:=s10.1) (x:=x17 ^^^ x20) hi22.1) (Flat.cell (x17 ^^^ x20 : UInt8)) (ZD (v:=s10.1) (x:=x17 ^^^ x20) hi22.1) fun w a hM hE=>Zf (Yc (Zp (wp_region_lit (Zd hE rfl fun a hE=>Zg hE rfl rfl rfl fun a hE=>Zc hE rfl fun a hE=>Zf (Zh ?_)))))
    have hM:=hM.pull2.pull2
    exact ⟨_,(ois hs11),hE.sub ⟨rfl,rfl,rfl,rfl,trivial⟩,hM⟩
  ·intro hb14
   have hs11:=Zt hs11 hb14
   refine wp_exit (Zm (Zm (Yb ?_)))
   obtain rfl:=hx12 _ (ois hs11)
   refine Zh ?_
   have hM:=M.fst (l:=[_,_]) hM.pull2.pull1
   exact ⟨hE.sub ⟨rfl,rfl,trivial⟩,hM⟩
 ·skip
  rintro a w ⟨hE,hM⟩
  refine Zp (Zb (Zq hE rfl ZJ rfl hM.rawAt1 (Flat.len _) fun a hE=>Zn (seg:=enc j7) (cs':=enc j7) hE hM Za rfl rfl rfl ZJ (Flat.len _) (zle flq) (Flat.cell _) (Zk flq) fun w a hM hE=>Ze ?_))
  obtain rfl:=Option.some.inj hF9
  have hq26 : Yz Tryz.prog _ _ (.cell 4 68) _:=ZS hE rfl ZJ rfl hM.rawAt0 (Flat.len _) rfl
  exact wp_ret (ZP hE rfl hq26 ⟨_,rfl,rfl,hM.kept⟩)
def WS (p0 : (Vector UInt8 256)) (p2 : Int) (s10 : (Vector UInt8 16) × Int) : Option (Fl ((Vector UInt8 16) × Int) (Vector UInt8 16)) :=
 if (decide (s10.2 < 16)) = true then (((ZI s10.1 (Int.tmod (wr (s10.2 + 15)) 16)).bind fun x19=>(if (s10.2 == 0) = true then (some (x19 ^^^ (ZG p2))) else (some x19) : Option (UInt8)).bind fun j21=>(ZI s10.1 s10.2).bind fun x29=>(ZI p0 (bI j21)).bind fun x32=>(ZI s10.1 s10.2).bind fun x35=>some (s10.1.setIfInBounds (s10.2).toNat (x29 ^^^ x32)) : Option ((Vector UInt8 16))).bind fun j15=>some (Fl.nx (j15,wr (s10.2 + 1)))) else (some (Fl.ex s10.1))
def V4 (p0 : (Vector UInt8 256)) (p1 : (Vector UInt8 16)) (p2 : Int) : Option ((Vector UInt8 16)) :=
 (Zz (WS p0 p2) (p1,0)).bind fun j7=>some j7
theorem HX (w0 : World) (p0 : (Vector UInt8 256)) (p1 : (Vector UInt8 16)) (p2 : Int) (r : (Vector UInt8 16)) (hF : V4 p0 p1 p2 = some r) :
  Calls Tryz.prog 239 [(Value.agg (enc p0).toArray),(Value.agg (enc p1).toArray),vI p2].toArray w0 (Rt w0 (Value.agg (enc r).toArray)):=by
 refine ce Tryz.func239 ?_
 intro a hE
 have hM:=M.start w0
 unfold V4 at hF
 refine Zb (ZZ (cs:=enc p0) hE hM Za ld rfl rfl fun b1 w a hM hE=>ZZ (cs:=enc p1) hE hM Za ld rfl rfl fun b3 w a hM hE=>ZC hE hM ZJ fun b5 w a hM hE=>Ze (wp_seq (Zb (Zc hE rfl fun a hE=>Ze ?_))))
 obtain ⟨j7,hl8,hF9⟩:=bind_some hF
 refine ZM (fun a w=>Env 34 a [(4,(ptr b3 0)),(6,(ptr b5 0))] ∧ M (Old w0) w0 w [raw b5 (enc (Vector.replicate 16 (0 : UInt8))),raw b3 (enc j7)]) ?_ ?_
 ·skip
  refine wp_block ?_
  refine ZE (fun (s10 : (Vector UInt8 16) × Int) a w=>Env 34 a [(2,vI p2),(3,(ptr b1 0)),(4,(ptr b3 0)),(6,(ptr b5 0)),(7,vI s10.2)] ∧ M (Old w0) w0 w [raw b5 (enc (Vector.replicate 16 (0 : UInt8))),raw b3 (enc s10.1),raw b1 (enc p0)]) hl8 ⟨hE.sub ⟨rfl,rfl,rfl,rfl,rfl,trivial⟩,hM⟩ ?_
  rintro s10 a w ⟨hE,hM⟩ o13 hs11 hx12
  unfold WS at hs11
  refine wp_seq (Zb (Zd hE rfl fun a hE=>Zg hE rfl rfl rfl fun a hE=>Ze ?_))
  refine Zo hE rfl ?_ ?_
  ·intro hb14
   have hs11:=Zs hs11 hb14
   refine wp_skip (Zp ?_)
   obtain ⟨j15,hl16,hF17⟩:=bind_some hs11
   refine ZK (fun a w=>Env 34 a [(2,vI p2),(3,(ptr b1 0)),(4,(ptr b3 0)),(6,(ptr b5 0)),(7,vI s10.2)] ∧ M (Old w0) w0 w [raw b5 (enc (Vector.replicate 16 (0 : UInt8))),raw b3 (enc j15),raw b1 (enc p0)]) ?_ ?_
   ·skip
    refine wp_block (Zb (Zd hE rfl fun a hE=>Zg hE rfl rfl rfl fun a hE=>Zg hE rfl rfl (T8 _ _ (by decide)) ?_)); intro a hE
    obtain ⟨x19,hi18,hl16⟩:=bvx hl16
    refine ZF hE rfl rfl Tryz.underlying68 ty5 hi18.1 fun a hE=>ZA (v:=(vB x19)) hE rfl ty5 rfl (At.vec hM.rawAt1 hi18.2) fun a hE=>Zc hE rfl fun a hE=>Ze ?_
    obtain ⟨j21,hl22,hF23⟩:=bind_some hl16
    refine ZK (fun a w=>Env 34 a [(2,vI p2),(3,(ptr b1 0)),(4,(ptr b3 0)),(6,(ptr b5 0)),(7,vI s10.2),(8,vB j21)] ∧ M (Old w0) w0 w [raw b5 (enc (Vector.replicate 16 (0 : UInt8))),raw b3 (enc s10.1),raw b1 (enc p0)]) ?_ ?_
    ·skip
     refine Zb (Zd hE rfl fun a hE=>Zg hE rfl rfl rfl fun a hE=>Ze ?_)
     refine Zo hE rfl ?_ ?_
     ·intro hb24
      have hl22:=Zs hl22 hb24
      refine wp_region_lit (Zd hE rfl fun a hE=>Zd hE rfl fun a hE=>Xb hE Za ld rfl Tryz.underlying2 Tryz.underlying5 fun a hE=>Zg hE rfl rfl (VV x19 (ZG p2)) fun a hE=>Zc hE rfl fun a hE=>Zf ?_)
      obtain rfl:=Option.some.inj hl22
      refine Zh ?_
      exact ⟨hE.sub ⟨rfl,rfl,rfl,rfl,rfl,rfl,trivial⟩,hM⟩
     ·intro hb24
      have hl22:=Zt hl22 hb24
      refine wp_skip ?_
      obtain rfl:=Option.some.inj hl22
      refine Zh ?_
      exact ⟨hE.sub ⟨rfl,rfl,rfl,rfl,rfl,rfl,trivial⟩,hM⟩
    ·skip
     rintro a w ⟨hE,hM⟩
     obtain ⟨x29,hi28,hF23⟩:=bvx hF23
     obtain ⟨x32,hi31,hF23⟩:=bvx hF23
     obtain ⟨x35,hi34,hF23⟩:=bvx hF23
     refine ZV [24,25,26,27,28,29,30,31,32] Yq rfl rfl (by decide) rfl hE hM (qsP (fun z=>Zi z.E Za ld rfl (kr0 rfl)) (qsP (fun z=>Zi z.E Za ld rfl (kr0 rfl)) (qsP (fun z=>ZB z.E Za ld rfl rfl Tryz.underlying68 ty5 hi28.1 (kr0 rfl)) (qsP (fun z=>ZL (v:=(vB x29)) z.E Za ld rfl ty5 rfl (At.vec (z.M.rawAt1) hi28.2) (kr0 rfl)) (qsP (fun z=>Zi z.E Za ld rfl (kr0 rfl)) (qsP (fun z=>ZB z.E Za ld rfl rfl Tryz.underlying157 ty5 hi31.1 (kr0 rfl)) (qsP (fun z=>ZL (v:=(vB x32)) z.E Za ld rfl ty5 rfl (At.vec (z.M.rawAt2) hi31.2) (kr0 rfl)) (qsP (v:=(vB (x29 ^^^ x32))) (fun z=>Yd z.E Za ld rfl rfl (VV x29 x32) (kr0 rfl)) (qsP (fun z=>ZB z.E Za ld rfl rfl Tryz.underlying68 ty5 hi34.1 (kr0 rfl)) qs0))))))))) ?_
     ·intro a w u hE hM
      have hM:=hM.pull1
      refine Zn (seg:=[(vB (x29 ^^^ x32))]) (cs':=enc (s10.1.setIfInBounds (s10.2).toNat (x29 ^^^ x32))) hE hM Za rfl rfl rfl ty5 rfl (ZN (v:=s10.1) (x:=x29 ^^^ x32) hi34.1) (Flat.cell (x29 ^^^ x32 : UInt8)) (ZD (v:=s10.1) (x:=x29 ^^^ x32) hi34.1) fun w a hM hE=>Zf (Yc ?_)
      obtain rfl:=Option.some.inj hF23
      refine Zh ?_
      have hM:=hM.pull2.pull1.pull2
      exact ⟨hE.sub ⟨rfl,rfl,rfl,rfl,rfl,trivial⟩,hM⟩
   ·skip
    rintro a w ⟨hE,hM⟩
    refine wp_region_lit (Zd hE rfl fun a hE=>Zg hE rfl rfl rfl fun a hE=>Zc hE rfl fun a hE=>Zf (Zh ?_))
    exact ⟨_,(ois hF17),hE.sub ⟨rfl,rfl,rfl,rfl,rfl,trivial⟩,hM⟩
  ·intro hb14
   have hs11:=Zt hs11 hb14
   refine wp_exit (Zm (Zm (Yb ?_)))
   obtain rfl:=hx12 _ (ois hs11)
   refine Zh ?_
   have hM:=M.fst (l:=[_,_]) hM.pull1.pull1
   exact ⟨hE.sub ⟨rfl,rfl,trivial⟩,hM⟩
 ·skip
  rintro a w ⟨hE,hM⟩
  refine Zp (Zb (Zq hE rfl ZJ rfl hM.rawAt1 (Flat.len _) fun a hE=>Zn (seg:=enc j7) (cs':=enc j7) hE hM Za rfl rfl rfl ZJ (Flat.len _) (zle flq) (Flat.cell _) (Zk flq) fun w a hM hE=>Ze ?_))
  obtain rfl:=Option.some.inj hF9
  have hq39 : Yz Tryz.prog _ _ (.cell 6 68) _:=ZS hE rfl ZJ rfl hM.rawAt0 (Flat.len _) rfl
  exact wp_ret (ZP hE rfl hq39 ⟨_,rfl,rfl,hM.kept⟩)
def WO (p0 : GCipher) (p2 : Int) (s12 : (Vector UInt8 16) × (List (Vector UInt8 16)) × Int) : Option (Fl ((Vector UInt8 16) × (List (Vector UInt8 16)) × Int) (List (Vector UInt8 16))) :=
 if (decide (s12.2.2 ≤ p2)) = true then ((V4 p0.Box s12.1 s12.2.2).bind fun r19=>(app 16 s12.2.1 ([r19] : List (Vector UInt8 16))).bind fun l23=>some (Fl.nx (r19,(s12.2.1 ++ ([r19] : List (Vector UInt8 16))),wr (s12.2.2 + 1)))) else (some (Fl.ex s12.2.1))
def Ui (p0 : GCipher) (p1 : (Vector UInt8 16)) (p2 : Int) : Option ((List (Vector UInt8 16))) :=
 (Zz (WO p0 p2) (p1,([p1] : List (Vector UInt8 16)),1)).bind fun j7=>some j7
theorem Hz (w0 : World) (p0 : GCipher) (p1 : (Vector UInt8 16)) (p2 : Int) (r : (List (Vector UInt8 16))) (hF : Ui p0 p1 p2 = some r) :
  Calls Tryz.prog 228 [(Value.agg (enc p0).toArray),(Value.agg (enc p1).toArray),vI p2].toArray w0 (fun en w'=>∃ v,en = .returned v ∧ (∃ (y1 : Value),v = y1 ∧ Fr w0 w' [osl NoB (r : List (Vector UInt8 16)) y1] ∧ Kept (Old w0) w0 w')):=by
 refine ce Tryz.func228 ?_
 intro a hE
 have hM:=M.start w0
 unfold Ui at hF
 refine Zb (ZZ (cs:=cat [[vI p0.Field],enc p0.Box,enc p0.Mix,enc p0.Places,[vI p0.Rounds]]) hE hM Za ld rfl rfl fun b1 w a hM hE=>ZZ (cs:=enc p1) hE hM Za ld rfl rfl fun b3 w a hM hE=>Zc hE rfl fun a hE=>Ze (Zb (Zq hE rfl ZJ rfl hM.rawAt0 (Flat.len _) fun a hE=>Yr (xs:=[.tmp 9]) (l:=([p1] : List (Vector UInt8 16))) (vs:=[(Value.agg (enc p1).toArray)]) hE hM Za ld rfl rfl Tryz.underlying54 ZJ rfl (by decide) rfl fun u5 w a hM hE=>Zc hE rfl fun a hE=>Ze (wp_seq (Zb (Zc hE rfl fun a hE=>Ze ?_))))))
 obtain ⟨j7,hl8,hF9⟩:=bind_some hF
 refine ZM (fun a w=>∃ (u10 : Value),Env 26 a [(7,u10)] ∧ M (Old w0) w0 w [osl NoB (j7 : List (Vector UInt8 16)) u10]) ?_ ?_
 ·skip
  refine wp_block ?_
  have hM:=hM.pull2.pull2
  refine ZE (fun (s12 : (Vector UInt8 16) × (List (Vector UInt8 16)) × Int) a w=>∃ (u13 : Value),Env 26 a [(2,vI p2),(3,(ptr b1 0)),(4,(ptr b3 0)),(7,u13),(8,vI s12.2.2)] ∧ M (Old w0) w0 w [raw b3 (enc s12.1),raw b1 (cat [[vI p0.Field],enc p0.Box,enc p0.Mix,enc p0.Places,[vI p0.Rounds]]),osl NoB (s12.2.1 : List (Vector UInt8 16)) u13]) hl8 ⟨u5,hE.sub ⟨rfl,rfl,rfl,rfl,rfl,trivial⟩,hM⟩ ?_
  rintro s12 a w ⟨u13,hE,hM⟩ o17 hs15 hx16
  unfold WO at hs15
  refine wp_seq (Zb (Zd hE rfl fun a hE=>Zd hE rfl fun a hE=>Zg hE rfl rfl rfl fun a hE=>Ze ?_))
  refine Zo hE rfl ?_ ?_
  ·intro hb18
   have hs15:=Zs hs15 hb18
   refine wp_skip (Zp (wp_seq (wp_block (Zb (Zw hE rfl (Q6) fun a hE=>Zq hE rfl Xw rfl (At.cat (pre:=[[vI p0.Field]]) hM.rawAt1 ck) (Flat.len _) fun a hE=>Zq hE rfl ZJ rfl hM.rawAt0 (Flat.len _) fun a hE=>Zd hE rfl ?_))))); intro a hE
   obtain ⟨r19,e20,hs15⟩:=bind_some hs15
   refine Zy hE rfl (cbm Tryz.func239) (HX _ p0.Box s12.1 s12.2.2 r19 e20) ?_
   rintro v w a ⟨rfl,hK⟩ hE
   have hM:=hM.keep hK
   refine Zn (seg:=enc r19) (cs':=enc r19) hE hM Za rfl rfl rfl ZJ (Flat.len _) (zle flq) (Flat.cell _) (Zk flq) fun w a hM hE=>Ze (wp_region_lit (Zd hE rfl fun a hE=>Zq hE rfl ZJ rfl hM.rawAt0 (Flat.len _) fun a hE=>Yr (xs:=[.tmp 22]) (l:=([r19] : List (Vector UInt8 16))) (vs:=[(Value.agg (enc r19).toArray)]) hE hM Za ld rfl rfl Tryz.underlying54 ZJ rfl (by decide) rfl ?_)); intro u21 w a hM hE
   obtain ⟨l23,e24,hs15⟩:=bind_some hs15
   obtain ⟨e27,rfl⟩:=Yo e24
   have hM:=hM.pull3
   refine Yi hE hM Za ld rfl rfl (hM.sl (pre:=[_]) noB) Tryz.underlying54 ZJ rfl (by decide) e27 fun u25 w a hM hE=>Zc hE rfl fun a hE=>Zf (Yc (Zp (wp_region_lit (Zd hE rfl fun a hE=>Zg hE rfl rfl rfl fun a hE=>Zc hE rfl fun a hE=>Zf (Zh ?_)))))
   have hM:=M.fst (l:=[_,_,_]) hM.pull3.pull3
   exact ⟨_,(ois hs15),u25,hE.sub ⟨rfl,rfl,rfl,rfl,rfl,trivial⟩,hM⟩
  ·intro hb18
   have hs15:=Zt hs15 hb18
   refine wp_exit (Zm (Zm (Yb ?_)))
   obtain rfl:=hx16 _ (ois hs15)
   refine Zh ?_
   have hM:=M.fst (l:=[_]) hM.pull2
   exact ⟨u13,hE.sub ⟨rfl,trivial⟩,hM⟩
 ·skip
  rintro a w ⟨u10,hE,hM⟩
  refine Zp (Zb (Zd hE rfl fun a hE=>Zc hE rfl fun a hE=>Ze ?_))
  obtain rfl:=Option.some.inj hF9
  exact wp_ret (ZP hE rfl (ZR hE rfl) ⟨_,rfl,u10,rfl,hM.outF (Yu XD),hM.kept⟩)
def Wx (p0 : (Vector UInt8 256)) (s10 : (Vector UInt8 16) × Int) : Option (Fl ((Vector UInt8 16) × Int) (Vector UInt8 16)) :=
 if (decide (s10.2 < 16)) = true then ((ZI s10.1 s10.2).bind fun x16=>(ZI p0 (bI x16)).bind fun x19=>(ZI s10.1 s10.2).bind fun x22=>some (Fl.nx ((s10.1.setIfInBounds (s10.2).toNat x19),wr (s10.2 + 1)))) else (some (Fl.ex s10.1))
def VP (p0 : (Vector UInt8 256)) (p1 : (Vector UInt8 16)) : Option ((Vector UInt8 16)) :=
 (Zz (Wx p0) (p1,0)).bind fun j7=>some j7
theorem J4 (w0 : World) (p0 : (Vector UInt8 256)) (p1 : (Vector UInt8 16)) (r : (Vector UInt8 16)) (hF : VP p0 p1 = some r) :
  Calls Tryz.prog 230 [(Value.agg (enc p0).toArray),(Value.agg (enc p1).toArray)].toArray w0 (Rt w0 (Value.agg (enc r).toArray)):=by
 refine ce Tryz.func230 ?_
 intro a hE
 have hM:=M.start w0
 unfold VP at hF
 refine Zb (ZZ (cs:=enc p0) hE hM Za ld rfl rfl fun b1 w a hM hE=>ZZ (cs:=enc p1) hE hM Za ld rfl rfl fun b3 w a hM hE=>ZC hE hM ZJ fun b5 w a hM hE=>Ze (wp_seq (Zb (Zc hE rfl fun a hE=>Ze ?_))))
 obtain ⟨j7,hl8,hF9⟩:=bind_some hF
 refine ZM (fun a w=>Env 18 a [(3,(ptr b3 0)),(4,(ptr b5 0))] ∧ M (Old w0) w0 w [raw b5 (enc (Vector.replicate 16 (0 : UInt8))),raw b3 (enc j7)]) ?_ ?_
 ·skip
  refine wp_block ?_
  refine ZE (fun (s10 : (Vector UInt8 16) × Int) a w=>Env 18 a [(2,(ptr b1 0)),(3,(ptr b3 0)),(4,(ptr b5 0)),(5,vI s10.2)] ∧ M (Old w0) w0 w [raw b5 (enc (Vector.replicate 16 (0 : UInt8))),raw b3 (enc s10.1),raw b1 (enc p0)]) hl8 ⟨hE.sub ⟨rfl,rfl,rfl,rfl,trivial⟩,hM⟩ ?_
  rintro s10 a w ⟨hE,hM⟩ o13 hs11 hx12
  unfold Wx at hs11
  refine wp_seq (Zb (Zd hE rfl fun a hE=>Zg hE rfl rfl rfl fun a hE=>Ze ?_))
  refine Zo hE rfl ?_ ?_
  ·intro hb14
   have hs11:=Zs hs11 hb14
   refine wp_skip (Zp (wp_seq (wp_block (wp_region_lit (Zd hE rfl fun a hE=>Zd hE rfl ?_))))); intro a hE
   obtain ⟨x16,hi15,hs11⟩:=bvx hs11
   refine ZF hE rfl rfl Tryz.underlying68 ty5 hi15.1 fun a hE=>ZA (v:=(vB x16)) hE rfl ty5 rfl (At.vec hM.rawAt1 hi15.2) ?_; intro a hE
   obtain ⟨x19,hi18,hs11⟩:=bvx hs11
   refine ZF hE rfl rfl Tryz.underlying157 ty5 hi18.1 fun a hE=>ZA (v:=(vB x19)) hE rfl ty5 rfl (At.vec hM.rawAt2 hi18.2) ?_; intro a hE
   obtain ⟨x22,hi21,hs11⟩:=bvx hs11
   refine ZF hE rfl rfl Tryz.underlying68 ty5 hi21.1 ?_; intro a hE
   have hM:=hM.pull1
   refine Zn (seg:=[vB x19]) (cs':=enc (s10.1.setIfInBounds (s10.2).toNat x19)) hE hM Za rfl rfl rfl ty5 rfl (ZN (v:=s10.1) (x:=x19) hi21.1) (Flat.cell (x19 : UInt8)) (ZD (v:=s10.1) (x:=x19) hi21.1) fun w a hM hE=>Zf (Yc (Zp (wp_region_lit (Zd hE rfl fun a hE=>Zg hE rfl rfl rfl fun a hE=>Zc hE rfl fun a hE=>Zf (Zh ?_)))))
   have hM:=hM.pull2.pull1.pull2
   exact ⟨_,(ois hs11),hE.sub ⟨rfl,rfl,rfl,rfl,trivial⟩,hM⟩
  ·intro hb14
   have hs11:=Zt hs11 hb14
   refine wp_exit (Zm (Zm (Yb ?_)))
   obtain rfl:=hx12 _ (ois hs11)
   refine Zh ?_
   have hM:=M.fst (l:=[_,_]) hM.pull1.pull1
   exact ⟨hE.sub ⟨rfl,rfl,trivial⟩,hM⟩
 ·skip
  rintro a w ⟨hE,hM⟩
  refine Zp (Zb (Zq hE rfl ZJ rfl hM.rawAt1 (Flat.len _) fun a hE=>Zn (seg:=enc j7) (cs':=enc j7) hE hM Za rfl rfl rfl ZJ (Flat.len _) (zle flq) (Flat.cell _) (Zk flq) fun w a hM hE=>Ze ?_))
  obtain rfl:=Option.some.inj hF9
  have hq25 : Yz Tryz.prog _ _ (.cell 4 68) _:=ZS hE rfl ZJ rfl hM.rawAt0 (Flat.len _) rfl
  exact wp_ret (ZP hE rfl hq25 ⟨_,rfl,rfl,hM.kept⟩)
def WQ (p0 : (Vector UInt8 16)) (p1 : (Vector UInt8 16)) (s12 : (Vector UInt8 16) × Int) : Option (Fl ((Vector UInt8 16) × Int) (Vector UInt8 16)) :=
 if (decide (s12.2 < 16)) = true then ((ZI p0 s12.2).bind fun x18=>(ZI p1 (bI x18)).bind fun x21=>(ZI s12.1 s12.2).bind fun x24=>some (Fl.nx ((s12.1.setIfInBounds (s12.2).toNat x21),wr (s12.2 + 1)))) else (some (Fl.ex s12.1))
def Uj (p0 : (Vector UInt8 16)) (p1 : (Vector UInt8 16)) : Option ((Vector UInt8 16)) :=
 (Zz (WQ p0 p1) ((Vector.replicate 16 (0 : UInt8)),0)).bind fun j9=>some j9
theorem H0 (w0 : World) (p0 : (Vector UInt8 16)) (p1 : (Vector UInt8 16)) (r : (Vector UInt8 16)) (hF : Uj p0 p1 = some r) :
  Calls Tryz.prog 229 [(Value.agg (enc p0).toArray),(Value.agg (enc p1).toArray)].toArray w0 (Rt w0 (Value.agg (enc r).toArray)):=by
 refine ce Tryz.func229 ?_
 intro a hE
 have hM:=M.start w0
 unfold Uj at hF
 refine Zb (ZZ (cs:=enc p0) hE hM Za ld rfl rfl fun b1 w a hM hE=>ZZ (cs:=enc p1) hE hM Za ld rfl rfl fun b3 w a hM hE=>ZC hE hM ZJ fun b5 w a hM hE=>Ze (Zb (XP (parts:=[]) (vs:=[]) (cs:=enc (Vector.replicate 16 (0 : UInt8))) hE Za ld rfl rfl ZJ rfl ty5 Y1 fun a hE=>ZC hE hM ZJ fun b7 w a hM hE=>Zn (seg:=enc (Vector.replicate 16 (0 : UInt8))) (cs':=enc (Vector.replicate 16 (0 : UInt8))) hE hM Za rfl rfl rfl ZJ (Flat.len _) (zle flq) (Flat.cell _) (Zk flq) fun w a hM hE=>Ze (wp_seq (Zb (Zc hE rfl fun a hE=>Ze ?_))))))
 obtain ⟨j9,hl10,hF11⟩:=bind_some hF
 refine ZM (fun a w=>Env 20 a [(4,(ptr b5 0)),(5,(ptr b7 0))] ∧ M (Old w0) w0 w [raw b7 (enc j9),raw b5 (enc (Vector.replicate 16 (0 : UInt8)))]) ?_ ?_
 ·skip
  refine wp_block ?_
  refine ZE (fun (s12 : (Vector UInt8 16) × Int) a w=>Env 20 a [(2,(ptr b1 0)),(3,(ptr b3 0)),(4,(ptr b5 0)),(5,(ptr b7 0)),(6,vI s12.2)] ∧ M (Old w0) w0 w [raw b7 (enc s12.1),raw b5 (enc (Vector.replicate 16 (0 : UInt8))),raw b3 (enc p1),raw b1 (enc p0)]) hl10 ⟨hE.sub ⟨rfl,rfl,rfl,rfl,rfl,trivial⟩,hM⟩ ?_
  rintro s12 a w ⟨hE,hM⟩ o15 hs13 hx14
  unfold WQ at hs13
  refine wp_seq (Zb (Zd hE rfl fun a hE=>Zg hE rfl rfl rfl fun a hE=>Ze ?_))
  refine Zo hE rfl ?_ ?_
  ·intro hb16
   have hs13:=Zs hs13 hb16
   refine wp_skip (Zp (wp_seq (wp_block (wp_region_lit (Zd hE rfl fun a hE=>Zd hE rfl ?_))))); intro a hE
   obtain ⟨x18,hi17,hs13⟩:=bvx hs13
   refine ZF hE rfl rfl Tryz.underlying161 ty5 hi17.1 fun a hE=>ZA (v:=(vB x18)) hE rfl ty5 rfl (At.vec hM.rawAt3 hi17.2) ?_; intro a hE
   obtain ⟨x21,hi20,hs13⟩:=bvx hs13
   refine ZF hE rfl rfl Tryz.underlying68 ty5 hi20.1 fun a hE=>ZA (v:=(vB x21)) hE rfl ty5 rfl (At.vec hM.rawAt2 hi20.2) ?_; intro a hE
   obtain ⟨x24,hi23,hs13⟩:=bvx hs13
   refine ZF hE rfl rfl Tryz.underlying68 ty5 hi23.1 fun a hE=>Zn (seg:=[vB x21]) (cs':=enc (s12.1.setIfInBounds (s12.2).toNat x21)) hE hM Za rfl rfl rfl ty5 rfl (ZN (v:=s12.1) (x:=x21) hi23.1) (Flat.cell (x21 : UInt8)) (ZD (v:=s12.1) (x:=x21) hi23.1) fun w a hM hE=>Zf (Yc (Zp (wp_region_lit (Zd hE rfl fun a hE=>Zg hE rfl rfl rfl fun a hE=>Zc hE rfl fun a hE=>Zf (Zh ?_)))))
   exact ⟨_,(ois hs13),hE.sub ⟨rfl,rfl,rfl,rfl,rfl,trivial⟩,hM⟩
  ·intro hb16
   have hs13:=Zt hs13 hb16
   refine wp_exit (Zm (Zm (Yb ?_)))
   obtain rfl:=hx14 _ (ois hs13)
   refine Zh ?_
   have hM:=M.fst (l:=[_,_]) hM.pull1.pull1
   exact ⟨hE.sub ⟨rfl,rfl,trivial⟩,hM⟩
 ·skip
  rintro a w ⟨hE,hM⟩
  refine Zp (Zb (Zq hE rfl ZJ rfl hM.rawAt0 (Flat.len _) ?_)); intro a hE
  have hM:=hM.pull1
  refine Zn (seg:=enc j9) (cs':=enc j9) hE hM Za rfl rfl rfl ZJ (Flat.len _) (zle flq) (Flat.cell _) (Zk flq) fun w a hM hE=>Ze ?_
  obtain rfl:=Option.some.inj hF11
  have hq27 : Yz Tryz.prog _ _ (.cell 4 68) _:=ZS hE rfl ZJ rfl hM.rawAt0 (Flat.len _) rfl
  exact wp_ret (ZP hE rfl hq27 ⟨_,rfl,rfl,hM.kept⟩)
def XM (p0 : Int) (p1 : (Vector (Vector UInt8 4) 4)) (p2 : (Vector UInt8 16)) (s12 : (Vector UInt8 16) × Int) (s20 : (Vector UInt8 16) × Int) (s28 : (Vector UInt8 16) × Int) : Option (Fl ((Vector UInt8 16) × Int) (Vector UInt8 16)) :=
 if (decide (s28.2 < 4)) = true then ((ZI s28.1 (wr ((wr (4 * s12.2)) + s20.2))).bind fun x35=>(ZI p1 s20.2).bind fun x38=>(ZI x38 s28.2).bind fun x41=>(ZI p2 (wr ((wr (4 * s12.2)) + s28.2))).bind fun x44=>(YI p0 x41 x44).bind fun r46=>(ZI s28.1 (wr ((wr (4 * s12.2)) + s20.2))).bind fun x49=>some (Fl.nx ((s28.1.setIfInBounds ((wr ((wr (4 * s12.2)) + s20.2))).toNat (x35 ^^^ r46)),wr (s28.2 + 1)))) else (some (Fl.ex s28.1))
def Vm (p0 : Int) (p1 : (Vector (Vector UInt8 4) 4)) (p2 : (Vector UInt8 16)) (s12 : (Vector UInt8 16) × Int) (s20 : (Vector UInt8 16) × Int) : Option (Fl ((Vector UInt8 16) × Int) (Vector UInt8 16)) :=
 if (decide (s20.2 < 4)) = true then ((Zz (XM p0 p1 p2 s12 s20) (s20.1,0)).bind fun j25=>some (Fl.nx (j25,wr (s20.2 + 1)))) else (some (Fl.ex s20.1))
def Vq (p0 : Int) (p1 : (Vector (Vector UInt8 4) 4)) (p2 : (Vector UInt8 16)) (s12 : (Vector UInt8 16) × Int) : Option (Fl ((Vector UInt8 16) × Int) (Vector UInt8 16)) :=
 if (decide (s12.2 < 4)) = true then ((Zz (Vm p0 p1 p2 s12) (s12.1,0)).bind fun j17=>some (Fl.nx (j17,wr (s12.2 + 1)))) else (some (Fl.ex s12.1))
def UH (p0 : Int) (p1 : (Vector (Vector UInt8 4) 4)) (p2 : (Vector UInt8 16)) : Option ((Vector UInt8 16)) :=
 (Zz (Vq p0 p1 p2) ((Vector.replicate 16 (0 : UInt8)),0)).bind fun j9=>some j9
theorem BB (w0 : World) (p0 : Int) (p1 : (Vector (Vector UInt8 4) 4)) (p2 : (Vector UInt8 16)) (r : (Vector UInt8 16)) (hF : UH p0 p1 p2 = some r) :
  Calls Tryz.prog 231 [vI p0,(Value.agg (enc p1).toArray),(Value.agg (enc p2).toArray)].toArray w0 (Rt w0 (Value.agg (enc r).toArray)):=by
 refine ce Tryz.func231 ?_
 intro a hE
 have hM:=M.start w0
 unfold UH at hF
 refine Zb (ZZ (cs:=enc p1) hE hM Za ld rfl rfl fun b1 w a hM hE=>ZZ (cs:=enc p2) hE hM Za ld rfl rfl fun b3 w a hM hE=>ZC hE hM ZJ fun b5 w a hM hE=>Ze (Zb (XP (parts:=[]) (vs:=[]) (cs:=enc (Vector.replicate 16 (0 : UInt8))) hE Za ld rfl rfl ZJ rfl ty5 Y1 fun a hE=>ZC hE hM ZJ fun b7 w a hM hE=>Zn (seg:=enc (Vector.replicate 16 (0 : UInt8))) (cs':=enc (Vector.replicate 16 (0 : UInt8))) hE hM Za rfl rfl rfl ZJ (Flat.len _) (zle flq) (Flat.cell _) (Zk flq) fun w a hM hE=>Ze (wp_seq (Zb (Zc hE rfl fun a hE=>Ze ?_))))))
 obtain ⟨j9,hl10,hF11⟩:=bind_some hF
 refine ZM (fun a w=>Env 50 a [(6,(ptr b5 0)),(7,(ptr b7 0))] ∧ M (Old w0) w0 w [raw b7 (enc j9),raw b5 (enc (Vector.replicate 16 (0 : UInt8)))]) ?_ ?_
 ·skip
  refine wp_block ?_
  refine ZE (fun (s12 : (Vector UInt8 16) × Int) a w=>Env 50 a [(0,vI p0),(4,(ptr b1 0)),(5,(ptr b3 0)),(6,(ptr b5 0)),(7,(ptr b7 0)),(8,vI s12.2)] ∧ M (Old w0) w0 w [raw b7 (enc s12.1),raw b5 (enc (Vector.replicate 16 (0 : UInt8))),raw b3 (enc p2),raw b1 (enc p1)]) hl10 ⟨hE.sub ⟨rfl,rfl,rfl,rfl,rfl,rfl,trivial⟩,hM⟩ ?_
  rintro s12 a w ⟨hE,hM⟩ o15 hs13 hx14
  unfold Vq at hs13
  refine wp_seq (Zb (Zd hE rfl fun a hE=>Zg hE rfl rfl rfl fun a hE=>Ze ?_))
  refine Zo hE rfl ?_ ?_
  ·intro hb16
   have hs13:=Zs hs13 hb16
   refine wp_skip (Zp (wp_seq (wp_block (Zb (Zc hE rfl fun a hE=>Ze ?_)))))
   obtain ⟨j17,hl18,hF19⟩:=bind_some hs13
   refine ZM (fun a w=>Env 50 a [(0,vI p0),(4,(ptr b1 0)),(5,(ptr b3 0)),(6,(ptr b5 0)),(7,(ptr b7 0)),(8,vI s12.2)] ∧ M (Old w0) w0 w [raw b7 (enc j17),raw b5 (enc (Vector.replicate 16 (0 : UInt8))),raw b3 (enc p2),raw b1 (enc p1)]) ?_ ?_
   ·skip
    refine wp_block ?_
    refine ZE (fun (s20 : (Vector UInt8 16) × Int) a w=>Env 50 a [(0,vI p0),(4,(ptr b1 0)),(5,(ptr b3 0)),(6,(ptr b5 0)),(7,(ptr b7 0)),(8,vI s12.2),(9,vI s20.2)] ∧ M (Old w0) w0 w [raw b7 (enc s20.1),raw b5 (enc (Vector.replicate 16 (0 : UInt8))),raw b3 (enc p2),raw b1 (enc p1)]) hl18 ⟨hE.sub ⟨rfl,rfl,rfl,rfl,rfl,rfl,rfl,trivial⟩,hM⟩ ?_
    rintro s20 a w ⟨hE,hM⟩ o23 hs21 hx22
    unfold Vm at hs21
    refine wp_seq (Zb (Zd hE rfl fun a hE=>Zg hE rfl rfl rfl fun a hE=>Ze ?_))
    refine Zo hE rfl ?_ ?_
    ·intro hb24
     have hs21:=Zs hs21 hb24
     refine wp_skip (Zp (wp_seq (wp_block (Zb (Zc hE rfl fun a hE=>Ze ?_)))))
     obtain ⟨j25,hl26,hF27⟩:=bind_some hs21
     refine ZM (fun a w=>Env 50 a [(0,vI p0),(4,(ptr b1 0)),(5,(ptr b3 0)),(6,(ptr b5 0)),(7,(ptr b7 0)),(8,vI s12.2),(9,vI s20.2)] ∧ M (Old w0) w0 w [raw b7 (enc j25),raw b5 (enc (Vector.replicate 16 (0 : UInt8))),raw b3 (enc p2),raw b1 (enc p1)]) ?_ ?_
     ·skip
      refine wp_block ?_
      refine ZE (fun (s28 : (Vector UInt8 16) × Int) a w=>Env 50 a [(0,vI p0),(4,(ptr b1 0)),(5,(ptr b3 0)),(6,(ptr b5 0)),(7,(ptr b7 0)),(8,vI s12.2),(9,vI s20.2),(10,vI s28.2)] ∧ M (Old w0) w0 w [raw b7 (enc s28.1),raw b5 (enc (Vector.replicate 16 (0 : UInt8))),raw b3 (enc p2),raw b1 (enc p1)]) hl26 ⟨hE.sub ⟨rfl,rfl,rfl,rfl,rfl,rfl,rfl,rfl,trivial⟩,hM⟩ ?_
      rintro s28 a w ⟨hE,hM⟩ o31 hs29 hx30
      unfold XM at hs29
      refine wp_seq (Zb (Zd hE rfl fun a hE=>Zg hE rfl rfl rfl fun a hE=>Ze ?_))
      refine Zo hE rfl ?_ ?_
      ·intro hb32
       have hs29:=Zs hs29 hb32
       refine wp_skip (Zp (wp_seq (wp_block ?_)))
       obtain ⟨x35,hi34,hs29⟩:=bvx hs29
       obtain ⟨x38,hi37,hs29⟩:=bvx hs29
       obtain ⟨x41,hi40,hs29⟩:=bvx hs29
       obtain ⟨x44,hi43,hs29⟩:=bvx hs29
       obtain ⟨r46,e47,hs29⟩:=bind_some hs29
       obtain ⟨x49,hi48,hs29⟩:=bvx hs29
       refine ZV [24,25,26,27,28,29,30,31,32,33,34,35,36,37,38,39,40,41,42,43,44,45,46,47,48] Yq rfl rfl (by decide) rfl hE hM (qsP (fun z=>Zi z.E Za ld rfl (kr0 rfl)) (qsP (v:=(vI (wr (4 * s12.2)))) (fun z=>Yd z.E Za ld rfl rfl rfl (kr0 rfl)) (qsP (fun z=>Zi z.E Za ld rfl (kr0 rfl)) (qsP (v:=(vI (wr ((wr (4 * s12.2)) + s20.2)))) (fun z=>Yd z.E Za ld rfl rfl rfl (kr0 rfl)) (qsP (fun z=>Zi z.E Za ld rfl (kr0 rfl)) (qsP (v:=(vI (wr (4 * s12.2)))) (fun z=>Yd z.E Za ld rfl rfl rfl (kr0 rfl)) (qsP (fun z=>Zi z.E Za ld rfl (kr0 rfl)) (qsP (v:=(vI (wr ((wr (4 * s12.2)) + s20.2)))) (fun z=>Yd z.E Za ld rfl rfl rfl (kr0 rfl)) (qsP (fun z=>ZB z.E Za ld rfl rfl Tryz.underlying68 ty5 hi34.1 (kr0 rfl)) (qsP (fun z=>ZL (v:=(vB x35)) z.E Za ld rfl ty5 rfl (At.vec (z.M.rawAt0) hi34.2) (kr0 rfl)) (qsP (fun z=>Zi z.E Za ld rfl (kr0 rfl)) (qsP (fun z=>Zi z.E Za ld rfl (kr0 rfl)) (qsP (fun z=>Zi z.E Za ld rfl (kr0 rfl)) (qsP (fun z=>ZB z.E Za ld rfl rfl Tryz.underlying160 Xq hi37.1 (kr0 rfl)) (qsP (fun z=>ZB z.E Za ld rfl rfl Tryz.underlying158 ty5 hi40.1 (kr0 rfl)) (qsP (fun z=>ZL (v:=(vB x41)) z.E Za ld rfl ty5 rfl (At.vec (At.vec (z.M.rawAt3) hi37.2) hi40.2) (kr0 rfl)) (qsP (fun z=>Zi z.E Za ld rfl (kr0 rfl)) (qsP (v:=(vI (wr (4 * s12.2)))) (fun z=>Yd z.E Za ld rfl rfl rfl (kr0 rfl)) (qsP (fun z=>Zi z.E Za ld rfl (kr0 rfl)) (qsP (v:=(vI (wr ((wr (4 * s12.2)) + s28.2)))) (fun z=>Yd z.E Za ld rfl rfl rfl (kr0 rfl)) (qsP (fun z=>ZB z.E Za ld rfl rfl Tryz.underlying68 ty5 hi43.1 (kr0 rfl)) (qsP (fun z=>ZL (v:=(vB x44)) z.E Za ld rfl ty5 rfl (At.vec (z.M.rawAt2) hi43.2) (kr0 rfl)) (qsP (fun z=>Yg z.E Za ld rfl zV (VF _ p0 x41 x44 r46 e47) (kc rfl)) (qsP (v:=(vB (x35 ^^^ r46))) (fun z=>Yd z.E Za ld rfl rfl (VV x35 r46) (kr0 rfl)) (qsP (fun z=>ZB z.E Za ld rfl rfl Tryz.underlying68 ty5 hi48.1 (kr0 rfl)) qs0))))))))))))))))))))))))) ?_
       ·intro a w u hE hM
        refine Zn (seg:=[(vB (x35 ^^^ r46))]) (cs':=enc (s28.1.setIfInBounds ((wr ((wr (4 * s12.2)) + s20.2))).toNat (x35 ^^^ r46))) hE hM Za rfl rfl rfl ty5 rfl (ZN (v:=s28.1) (x:=x35 ^^^ r46) hi48.1) (Flat.cell (x35 ^^^ r46 : UInt8)) (ZD (v:=s28.1) (x:=x35 ^^^ r46) hi48.1) fun w a hM hE=>Zf (Yc (Zp (wp_region_lit (Zd hE rfl fun a hE=>Zg hE rfl rfl rfl fun a hE=>Zc hE rfl fun a hE=>Zf (Zh ?_)))))
        exact ⟨_,(ois hs29),hE.sub ⟨rfl,rfl,rfl,rfl,rfl,rfl,rfl,rfl,trivial⟩,hM⟩
      ·intro hb32
       have hs29:=Zt hs29 hb32
       refine wp_exit (Zm (Zm (Yb ?_)))
       obtain rfl:=hx30 _ (ois hs29)
       refine Zh ?_
       exact ⟨hE.sub ⟨rfl,rfl,rfl,rfl,rfl,rfl,rfl,trivial⟩,hM⟩
     ·skip
      rintro a w ⟨hE,hM⟩
      refine Yc (Zp (wp_region_lit (Zd hE rfl fun a hE=>Zg hE rfl rfl rfl fun a hE=>Zc hE rfl fun a hE=>Zf (Zh ?_))))
      exact ⟨_,(ois hF27),hE.sub ⟨rfl,rfl,rfl,rfl,rfl,rfl,rfl,trivial⟩,hM⟩
    ·intro hb24
     have hs21:=Zt hs21 hb24
     refine wp_exit (Zm (Zm (Yb ?_)))
     obtain rfl:=hx22 _ (ois hs21)
     refine Zh ?_
     exact ⟨hE.sub ⟨rfl,rfl,rfl,rfl,rfl,rfl,trivial⟩,hM⟩
   ·skip
    rintro a w ⟨hE,hM⟩
    refine Yc (Zp (wp_region_lit (Zd hE rfl fun a hE=>Zg hE rfl rfl rfl fun a hE=>Zc hE rfl fun a hE=>Zf (Zh ?_))))
    exact ⟨_,(ois hF19),hE.sub ⟨rfl,rfl,rfl,rfl,rfl,rfl,trivial⟩,hM⟩
  ·intro hb16
   have hs13:=Zt hs13 hb16
   refine wp_exit (Zm (Zm (Yb ?_)))
   obtain rfl:=hx14 _ (ois hs13)
   refine Zh ?_
   have hM:=M.fst (l:=[_,_]) hM.pull1.pull1
   exact ⟨hE.sub ⟨rfl,rfl,trivial⟩,hM⟩
 ·skip
  rintro a w ⟨hE,hM⟩
  refine Zp (Zb (Zq hE rfl ZJ rfl hM.rawAt0 (Flat.len _) ?_)); intro a hE
  have hM:=hM.pull1
  refine Zn (seg:=enc j9) (cs':=enc j9) hE hM Za rfl rfl rfl ZJ (Flat.len _) (zle flq) (Flat.cell _) (Zk flq) fun w a hM hE=>Ze ?_
  obtain rfl:=Option.some.inj hF11
  have hq54 : Yz Tryz.prog _ _ (.cell 6 68) _:=ZS hE rfl ZJ rfl hM.rawAt0 (Flat.len _) rfl
  exact wp_ret (ZP hE rfl hq54 ⟨_,rfl,rfl,hM.kept⟩)
def Xn (p0 : GCipher) (p3 : Int) (r9 : (List (Vector UInt8 16))) (s25 : (Vector UInt8 16) × Int) : Option (Fl ((Vector UInt8 16) × Int) (Vector UInt8 16)) :=
 if (decide (s25.2 ≤ p3)) = true then ((((VP p0.Box s25.1).bind fun r37=>(Uj p0.Places r37).bind fun r39=>some r39 : Option ((Vector UInt8 16))).bind fun j33=>(if (decide (s25.2 < p3)) = true then ((UH p0.Field p0.Mix j33).bind fun r46=>some r46) else (some j33) : Option ((Vector UInt8 16))).bind fun j42=>(idx r9 s25.2).bind fun x51=>(Y6 j42 x51).bind fun r54=>some r54 : Option ((Vector UInt8 16))).bind fun j30=>some (Fl.nx (j30,wr (s25.2 + 1)))) else (some (Fl.ex s25.1))
def YX (p0 : GCipher) (p1 : (Vector UInt8 16)) (p2 : (Vector UInt8 16)) (p3 : Int) : Option ((Vector UInt8 16)) :=
 (Ui p0 p1 p3).bind fun r9=>((idx r9 (0 : Int)).bind fun x16=>(Y6 p2 x16).bind fun r19=>some r19 : Option ((Vector UInt8 16))).bind fun j12=>(Zz (Xn p0 p3 r9) (j12,1)).bind fun j22=>some j22
theorem T0 (w0 : World) (p0 : GCipher) (p1 : (Vector UInt8 16)) (p2 : (Vector UInt8 16)) (p3 : Int) (r : (Vector UInt8 16)) (hF : YX p0 p1 p2 p3 = some r) :
  Calls Tryz.prog 207 [(Value.agg (enc p0).toArray),(Value.agg (enc p1).toArray),(Value.agg (enc p2).toArray),vI p3].toArray w0 (Rt w0 (Value.agg (enc r).toArray)):=by
 refine ce Tryz.func207 ?_
 intro a hE
 have hM:=M.start w0
 unfold YX at hF
 refine Zb (ZZ (cs:=cat [[vI p0.Field],enc p0.Box,enc p0.Mix,enc p0.Places,[vI p0.Rounds]]) hE hM Za ld rfl rfl fun b1 w a hM hE=>ZZ (cs:=enc p1) hE hM Za ld rfl rfl fun b3 w a hM hE=>ZZ (cs:=enc p2) hE hM Za ld rfl rfl fun b5 w a hM hE=>ZC hE hM ZJ fun b7 w a hM hE=>Ze (Zb (Zq hE rfl V7 rfl hM.rawAt3 cq fun a hE=>Zq hE rfl ZJ rfl hM.rawAt2 (Flat.len _) fun a hE=>Zd hE rfl ?_))); intro a hE
 obtain ⟨r9,e10,hF⟩:=bind_some hF
 refine Zy hE rfl (cbm Tryz.func228) (Hz _ p0 p1 p3 r9 e10) ?_
 rintro u11 w a ⟨_,rfl,hFr,hK⟩ hE
 have hM:=hM.add hK hFr
 refine Zc hE rfl fun a hE=>Ze ?_
 obtain ⟨j12,hl13,hF14⟩:=bind_some hF
 refine ZK (fun a w=>Env 48 a [(3,vI p3),(4,(ptr b1 0)),(6,(ptr b5 0)),(8,(ptr b7 0)),(9,u11)] ∧ M (Old w0) w0 w [osl NoB (r9 : List (Vector UInt8 16)) u11,raw b7 (enc (Vector.replicate 16 (0 : UInt8))),raw b5 (enc j12),raw b1 (cat [[vI p0.Field],enc p0.Box,enc p0.Mix,enc p0.Places,[vI p0.Rounds]])]) ?_ ?_
 ·skip
  obtain ⟨x16,hi18,hl13⟩:=bix hl13
  obtain ⟨r19,e20,hl13⟩:=bind_some hl13
  refine ZV [15,16,17,18,19] Yq rfl rfl (by decide) rfl hE hM (qsP (fun z=>Z0 z.E Za ld rfl ZJ rfl (z.M.rawAt2) (Flat.len _) (kr0 rfl)) (qsP (fun z=>Zi z.E Za ld rfl (kr0 rfl)) (qsP (fun z=>ZX z.E Za ld rfl rfl Tryz.underlying54 ZJ (z.M.sl (pre:=[]) noB) hi18.1 (kr0 rfl)) (qsP (fun z=>Z0 z.E Za ld rfl ZJ rfl (Yl (z.M.sl (pre:=[]) noB) hi18.2) (Flat.len _) (kr0 rfl)) (qsP (fun z=>Yg z.E Za ld rfl B4 (VT _ p2 x16 r19 e20) (kc rfl)) qs0))))) ?_
  ·intro a w u hE hM
   have hM:=hM.pull2
   refine Zn (seg:=enc r19) (cs':=enc r19) hE hM Za rfl rfl rfl ZJ (Flat.len _) (zle flq) (Flat.cell _) (Zk flq) fun w a hM hE=>Zf ?_
   obtain rfl:=Option.some.inj hl13
   refine Zh ?_
   have hM:=M.fst (l:=[_,_,_,_]) hM.pull4.pull1.pull3.pull3
   exact ⟨hE.sub ⟨rfl,rfl,rfl,rfl,rfl,trivial⟩,hM⟩
 ·skip
  rintro a w ⟨hE,hM⟩
  refine wp_seq (Zb (Zc hE rfl fun a hE=>Ze ?_))
  obtain ⟨j22,hl23,hF24⟩:=bind_some hF14
  refine ZM (fun a w=>Env 48 a [(6,(ptr b5 0)),(8,(ptr b7 0))] ∧ M (Old w0) w0 w [raw b7 (enc (Vector.replicate 16 (0 : UInt8))),raw b5 (enc j22)]) ?_ ?_
  ·skip
   refine wp_block ?_
   refine ZE (fun (s25 : (Vector UInt8 16) × Int) a w=>Env 48 a [(3,vI p3),(4,(ptr b1 0)),(6,(ptr b5 0)),(8,(ptr b7 0)),(9,u11),(10,vI s25.2)] ∧ M (Old w0) w0 w [osl NoB (r9 : List (Vector UInt8 16)) u11,raw b7 (enc (Vector.replicate 16 (0 : UInt8))),raw b5 (enc s25.1),raw b1 (cat [[vI p0.Field],enc p0.Box,enc p0.Mix,enc p0.Places,[vI p0.Rounds]])]) hl23 ⟨hE.sub ⟨rfl,rfl,rfl,rfl,rfl,rfl,trivial⟩,hM⟩ ?_
   rintro s25 a w ⟨hE,hM⟩ o28 hs26 hx27
   unfold Xn at hs26
   refine wp_seq (Zb (Zd hE rfl fun a hE=>Zd hE rfl fun a hE=>Zg hE rfl rfl rfl fun a hE=>Ze ?_))
   refine Zo hE rfl ?_ ?_
   ·intro hb29
    have hs26:=Zs hs26 hb29
    refine wp_skip (Zp ?_)
    obtain ⟨j30,hl31,hF32⟩:=bind_some hs26
    refine ZK (fun a w=>Env 48 a [(3,vI p3),(4,(ptr b1 0)),(6,(ptr b5 0)),(8,(ptr b7 0)),(9,u11),(10,vI s25.2)] ∧ M (Old w0) w0 w [osl NoB (r9 : List (Vector UInt8 16)) u11,raw b7 (enc (Vector.replicate 16 (0 : UInt8))),raw b5 (enc j30),raw b1 (cat [[vI p0.Field],enc p0.Box,enc p0.Mix,enc p0.Places,[vI p0.Rounds]])]) ?_ ?_
    ·skip
     refine wp_block ?_
     obtain ⟨j33,hl34,hF35⟩:=bind_some hl31
     refine ZK (fun a w=>Env 48 a [(3,vI p3),(4,(ptr b1 0)),(6,(ptr b5 0)),(8,(ptr b7 0)),(9,u11),(10,vI s25.2)] ∧ M (Old w0) w0 w [osl NoB (r9 : List (Vector UInt8 16)) u11,raw b7 (enc (Vector.replicate 16 (0 : UInt8))),raw b5 (enc j33),raw b1 (cat [[vI p0.Field],enc p0.Box,enc p0.Mix,enc p0.Places,[vI p0.Rounds]])]) ?_ ?_
     ·skip
      obtain ⟨r37,e38,hl34⟩:=bind_some hl34
      obtain ⟨r39,e40,hl34⟩:=bind_some hl34
      refine ZV [25,26,27,28,29,30,31] Yq rfl rfl (by decide) rfl hE hM (qsP (fun z=>Zr z.E Za ld rfl (KH) (kr0 rfl)) (qsP (fun z=>Z0 z.E Za ld rfl TF rfl (At.cat (pre:=[[vI p0.Field],enc p0.Box,enc p0.Mix]) (z.M.rawAt3) ck) (Flat.len _) (kr0 rfl)) (qsP (fun z=>Zr z.E Za ld rfl (Q6) (kr0 rfl)) (qsP (fun z=>Z0 z.E Za ld rfl Xw rfl (At.cat (pre:=[[vI p0.Field]]) (z.M.rawAt3) ck) (Flat.len _) (kr0 rfl)) (qsP (fun z=>Z0 z.E Za ld rfl ZJ rfl (z.M.rawAt2) (Flat.len _) (kr0 rfl)) (qsP (fun z=>Yg z.E Za ld rfl (cbm Tryz.func230) (J4 _ p0.Box s25.1 r37 e38) (kc rfl)) (qsP (fun z=>Yg z.E Za ld rfl (cbm Tryz.func229) (H0 _ p0.Places r37 r39 e40) (kc rfl)) qs0))))))) ?_
      ·intro a w u hE hM
       have hM:=hM.pull2
       refine Zn (seg:=enc r39) (cs':=enc r39) hE hM Za rfl rfl rfl ZJ (Flat.len _) (zle flq) (Flat.cell _) (Zk flq) fun w a hM hE=>Zf ?_
       obtain rfl:=Option.some.inj hl34
       refine Zh ?_
       have hM:=hM.pull3.pull1.pull3.pull3
       exact ⟨hE.sub ⟨rfl,rfl,rfl,rfl,rfl,rfl,trivial⟩,hM⟩
     ·skip
      rintro a w ⟨hE,hM⟩
      obtain ⟨j42,hl43,hF44⟩:=bind_some hF35
      refine ZK (fun a w=>Env 48 a [(3,vI p3),(4,(ptr b1 0)),(6,(ptr b5 0)),(8,(ptr b7 0)),(9,u11),(10,vI s25.2)] ∧ M (Old w0) w0 w [osl NoB (r9 : List (Vector UInt8 16)) u11,raw b7 (enc (Vector.replicate 16 (0 : UInt8))),raw b5 (enc j42),raw b1 (cat [[vI p0.Field],enc p0.Box,enc p0.Mix,enc p0.Places,[vI p0.Rounds]])]) ?_ ?_
      ·skip
       refine Zb (Zd hE rfl fun a hE=>Zd hE rfl fun a hE=>Zg hE rfl rfl rfl fun a hE=>Ze ?_)
       refine Zo hE rfl ?_ ?_
       ·intro hb45
        have hl43:=Zs hl43 hb45
        refine wp_region_lit (Zw hE rfl (Hm) fun a hE=>ZA (v:=(vI p0.Field)) hE rfl ty2 rfl (At.cat (pre:=[]) hM.rawAt3 cl0) fun a hE=>Zw hE rfl (KO) fun a hE=>Zq hE rfl Uc rfl (At.cat (pre:=[[vI p0.Field],enc p0.Box]) hM.rawAt3 ck) (Flat.len _) fun a hE=>Zq hE rfl ZJ rfl hM.rawAt2 (Flat.len _) ?_); intro a hE
        obtain ⟨r46,e47,hl43⟩:=bind_some hl43
        refine Zy hE rfl (cbm Tryz.func231) (BB _ p0.Field p0.Mix j33 r46 e47) ?_
        rintro v w a ⟨rfl,hK⟩ hE
        have hM:=(hM.keep hK).pull2
        refine Zn (seg:=enc r46) (cs':=enc r46) hE hM Za rfl rfl rfl ZJ (Flat.len _) (zle flq) (Flat.cell _) (Zk flq) fun w a hM hE=>Zf ?_
        obtain rfl:=Option.some.inj hl43
        refine Zh ?_
        have hM:=hM.pull3.pull1.pull3.pull3
        exact ⟨hE.sub ⟨rfl,rfl,rfl,rfl,rfl,rfl,trivial⟩,hM⟩
       ·intro hb45
        have hl43:=Zt hl43 hb45
        refine wp_skip ?_
        obtain rfl:=Option.some.inj hl43
        refine Zh ?_
        exact ⟨hE.sub ⟨rfl,rfl,rfl,rfl,rfl,rfl,trivial⟩,hM⟩
      ·skip
       rintro a w ⟨hE,hM⟩
       obtain ⟨x51,hi53,hF44⟩:=bix hF44
       obtain ⟨r54,e55,hF44⟩:=bind_some hF44
       refine ZV [41,42,43,44,45,46] Yq rfl rfl (by decide) rfl hE hM (qsP (fun z=>Z0 z.E Za ld rfl ZJ rfl (z.M.rawAt2) (Flat.len _) (kr0 rfl)) (qsP (fun z=>Zi z.E Za ld rfl (kr0 rfl)) (qsP (fun z=>Zi z.E Za ld rfl (kr0 rfl)) (qsP (fun z=>ZX z.E Za ld rfl rfl Tryz.underlying54 ZJ (z.M.sl (pre:=[]) noB) hi53.1 (kr0 rfl)) (qsP (fun z=>Z0 z.E Za ld rfl ZJ rfl (Yl (z.M.sl (pre:=[]) noB) hi53.2) (Flat.len _) (kr0 rfl)) (qsP (fun z=>Yg z.E Za ld rfl B4 (VT _ j42 x51 r54 e55) (kc rfl)) qs0)))))) ?_
       ·intro a w u hE hM
        have hM:=hM.pull2
        refine Zn (seg:=enc r54) (cs':=enc r54) hE hM Za rfl rfl rfl ZJ (Flat.len _) (zle flq) (Flat.cell _) (Zk flq) fun w a hM hE=>Zf (Yc ?_)
        obtain rfl:=Option.some.inj hF44
        refine Zh ?_
        have hM:=hM.pull3.pull1.pull3.pull3
        exact ⟨hE.sub ⟨rfl,rfl,rfl,rfl,rfl,rfl,trivial⟩,hM⟩
    ·skip
     rintro a w ⟨hE,hM⟩
     refine wp_region_lit (Zd hE rfl fun a hE=>Zg hE rfl rfl rfl fun a hE=>Zc hE rfl fun a hE=>Zf (Zh ?_))
     exact ⟨_,(ois hF32),hE.sub ⟨rfl,rfl,rfl,rfl,rfl,rfl,trivial⟩,hM⟩
   ·intro hb29
    have hs26:=Zt hs26 hb29
    refine wp_exit (Zm (Zm (Yb ?_)))
    obtain rfl:=hx27 _ (ois hs26)
    refine Zh ?_
    have hM:=M.fst (l:=[_,_]) hM.pull2.pull2
    exact ⟨hE.sub ⟨rfl,rfl,trivial⟩,hM⟩
  ·skip
   rintro a w ⟨hE,hM⟩
   refine Zp (Zb (Zq hE rfl ZJ rfl hM.rawAt1 (Flat.len _) fun a hE=>Zn (seg:=enc j22) (cs':=enc j22) hE hM Za rfl rfl rfl ZJ (Flat.len _) (zle flq) (Flat.cell _) (Zk flq) fun w a hM hE=>Ze ?_))
   obtain rfl:=Option.some.inj hF24
   have hq58 : Yz Tryz.prog _ _ (.cell 8 68) _:=ZS hE rfl ZJ rfl hM.rawAt0 (Flat.len _) rfl
   exact wp_ret (ZP hE rfl hq58 ⟨_,rfl,rfl,hM.kept⟩)
def XX (r31 : (Vector UInt8 16)) (r40 : (Vector UInt8 16)) (s51 : (Vector UInt8 32) × Int) : Option (Fl ((Vector UInt8 32) × Int) (Vector UInt8 32)) :=
 if (decide (s51.2 < 16)) = true then ((ZI r31 s51.2).bind fun x57=>(ZI s51.1 s51.2).bind fun x60=>(ZI r40 s51.2).bind fun x63=>(ZI (s51.1.setIfInBounds (s51.2).toNat x57) (wr (16 + s51.2))).bind fun x66=>some (Fl.nx (((s51.1.setIfInBounds (s51.2).toNat x57).setIfInBounds ((wr (16 + s51.2))).toNat x63),wr (s51.2 + 1)))) else (some (Fl.ex s51.1))
def Ws (p0 : GCipher) (p1 : (Vector UInt8 32)) (p2 : (Vector UInt8 16)) : Option ((Vector UInt8 32)) :=
 (Vh p1).bind fun r9=>(Y6 r9.1 p2).bind fun r16=>(Y6 r9.2 p2).bind fun r18=>(YX p0 r9.2 r16 p0.Rounds).bind fun r29=>(Y6 r29 r16).bind fun r31=>(YX p0 r31 r18 p0.Rounds).bind fun r38=>(Y6 r38 r18).bind fun r40=>(Zz (XX r31 r40) ((Vector.replicate 32 (0 : UInt8)),0)).bind fun j48=>some j48
theorem Ju (w0 : World) (p0 : GCipher) (p1 : (Vector UInt8 32)) (p2 : (Vector UInt8 16)) (r : (Vector UInt8 32)) (hF : Ws p0 p1 p2 = some r) :
  Calls Tryz.prog 174 [(Value.agg (enc p0).toArray),(Value.agg (enc p1).toArray),(Value.agg (enc p2).toArray)].toArray w0 (Rt w0 (Value.agg (enc r).toArray)):=by
 refine ce Tryz.func174 ?_
 intro a hE
 have hM:=M.start w0
 unfold Ws at hF
 refine Zb (ZZ (cs:=cat [[vI p0.Field],enc p0.Box,enc p0.Mix,enc p0.Places,[vI p0.Rounds]]) hE hM Za ld rfl rfl fun b1 w a hM hE=>ZZ (cs:=enc p1) hE hM Za ld rfl rfl fun b3 w a hM hE=>ZZ (cs:=enc p2) hE hM Za ld rfl rfl fun b5 w a hM hE=>ZC hE hM Z3 fun b7 w a hM hE=>Ze (Zb (Zq hE rfl Z3 rfl hM.rawAt2 (Flat.len _) ?_))); intro a hE
 obtain ⟨r9,e10,hF⟩:=bind_some hF
 refine Zy hE rfl (cbm Tryz.func205) (Jd _ p1 r9 e10) ?_
 rintro v w a ⟨rfl,hK⟩ hE
 have hM:=hM.keep hK
 refine Zd hE rfl fun a hE=>XS hE Za ld rfl rfl fun a hE=>XS hE Za ld rfl rfl fun a hE=>ZC hE hM ZJ fun b11 w a hM hE=>ZC hE hM ZJ ?_; intro b13 w a hM hE
 have hM:=hM.pull1
 refine Zn (seg:=enc r9.1) (cs':=enc r9.1) hE hM Za rfl rfl rfl ZJ (Flat.len _) (zle flq) (Flat.cell _) (Zk flq) ?_; intro w a hM hE
 have hM:=hM.pull1
 refine Zn (seg:=enc r9.2) (cs':=enc r9.2) hE hM Za rfl rfl rfl ZJ (Flat.len _) (zle flq) (Flat.cell _) (Zk flq) fun w a hM hE=>Ze (wp_seq ?_)
 obtain ⟨r16,e17,hF⟩:=bind_some hF
 obtain ⟨r18,e19,hF⟩:=bind_some hF
 refine Yv (its:=[raw b13 (enc r9.2),raw b11 (enc r9.1),raw b7 (enc (Vector.replicate 32 (0 : UInt8))),raw b5 (enc p2),raw b3 (enc p1),raw b1 (cat [[vI p0.Field],enc p0.Box,enc p0.Mix,enc p0.Places,[vI p0.Rounds]])]) (mk:=([mkO 6 (fun v=>UR v (enc (Vector.replicate 16 (0 : UInt8)))),mkO 7 (fun v=>UR v (enc (Vector.replicate 16 (0 : UInt8))))] : Mk)) [20,21,22,23,24,25,9,10] Yq rfl rfl (by decide) rfl hE (fun u=>M.qE (M.qE (M.q0 hM.drew u) emO) emO) (qsP (v:=(Value.agg (enc r9.1).toArray)) ?_ (qsP (v:=(Value.agg (enc p2).toArray)) ?_ (qsP (fun z=>Yg z.E Za ld rfl B4 (VT _ r9.1 p2 r16 e17) (kc rfl)) (qsP (v:=(Value.agg (enc r9.2).toArray)) ?_ (qsP (v:=(Value.agg (enc p2).toArray)) ?_ (qsP (fun z=>Yg z.E Za ld rfl B4 (VT _ r9.2 p2 r18 e19) (kc rfl)) (qsM (pr:=fun v=>True) ?_ (qsM (pr:=fun v=>True) ?_ qs0)))))))) ?_
 ·intro a w ux15 D z
  have hE:=z.E
  have hM:=z.M
  exact Zq hE rfl ZJ rfl hM.rawAt1 (Flat.len _) fun a hE=>⟨Kept.refl _ _,_,rfl,hE⟩
 ·intro a w ux15 D z
  have hE:=z.E
  have hM:=z.M
  exact Zq hE rfl ZJ rfl hM.rawAt3 (Flat.len _) fun a hE=>⟨Kept.refl _ _,_,rfl,hE⟩
 ·intro a w ux15 D z
  have hE:=z.E
  have hM:=z.M
  exact Zq hE rfl ZJ rfl hM.rawAt0 (Flat.len _) fun a hE=>⟨Kept.refl _ _,_,rfl,hE⟩
 ·intro a w ux15 D z
  have hE:=z.E
  have hM:=z.M
  exact Zq hE rfl ZJ rfl hM.rawAt3 (Flat.len _) fun a hE=>⟨Kept.refl _ _,_,rfl,hE⟩
 ·intro a w ux15 D z
  have hE:=z.E
  have hD : D 6 = false:=z.F
  have hM:=z.M
  refine ZC hE hM ZJ ?_; intro b20 w a hM hE
  have hM:=hM.pack1 (it:=UR _ (enc (Vector.replicate 16 (0 : UInt8)))) (fun w w' fp ⟨b',e,k⟩ hb=>⟨b',e,Y9 w w' fp k hb⟩) (fun fp k=>⟨_,rfl,k⟩)
  exact ⟨_,_,rfl,hE,M.qFill (mk1:=[]) (mk2:=[_]) (f:=fun v=>UR v (enc (Vector.replicate 16 (0 : UInt8)))) hM rfl hD,trivial⟩
 ·intro a w ux15 D z
  have hE:=z.E
  have hD : D 7 = false:=z.F
  have hM:=z.M
  refine ZC hE hM ZJ ?_; intro b22 w a hM hE
  have hM:=hM.pack1 (it:=UR _ (enc (Vector.replicate 16 (0 : UInt8)))) (fun w w' fp ⟨b',e,k⟩ hb=>⟨b',e,Y9 w w' fp k hb⟩) (fun fp k=>⟨_,rfl,k⟩)
  exact ⟨_,_,rfl,hE,M.qFill (mk1:=[_]) (mk2:=[]) (f:=fun v=>UR v (enc (Vector.replicate 16 (0 : UInt8)))) hM rfl hD,trivial⟩
 ·intro a w ux15 D hE hM hG hall
  have d6:=hall 6 (by decide)
  have d7:=hall 7 (by decide)
  have hM:=(hM.sure (pre:=[_,_,_,_,_,_]) d6).pull
  obtain ⟨_,⟨b24,f25,_⟩,_⟩:=hM.head
  have hM:=((hM.pack1 Y9 (it:=raw b24 (enc (Vector.replicate 16 (0 : UInt8)))) (fun fp ⟨b2,e2,k2⟩=>by rw [f25] at e2; simp [ptr] at e2; subst e2; exact k2)).sure (pre:=[_,_,_,_,_,_,_]) d7).pull
  obtain ⟨_,⟨b26,f27,_⟩,_⟩:=hM.head
  have hM:=hM.pack1 Y9 (it:=raw b26 (enc (Vector.replicate 16 (0 : UInt8)))) (fun fp ⟨b2,e2,k2⟩=>by rw [f27] at e2; simp [ptr] at e2; subst e2; exact k2)
  have hE:=hE.setq (t:=9) rfl f25
  have hE:=hE.setq (t:=10) rfl f27
  have hM:=hM.pull1
  refine Zn (seg:=enc r16) (cs':=enc r16) hE hM Za rfl rfl rfl ZJ (Flat.len _) (zle flq) (Flat.cell _) (Zk flq) ?_; intro w a hM hE
  have hM:=hM.pull1
  refine Zn (seg:=enc r18) (cs':=enc r18) hE hM Za rfl rfl rfl ZJ (Flat.len _) (zle flq) (Flat.cell _) (Zk flq) fun w a hM hE=>Zf (Zp (wp_seq ?_))
  obtain ⟨r29,e30,hF⟩:=bind_some hF
  obtain ⟨r31,e32,hF⟩:=bind_some hF
  refine Yv (its:=[raw b26 (enc r18),raw b24 (enc r16),raw b13 (enc r9.2),raw b11 (enc r9.1),raw b7 (enc (Vector.replicate 32 (0 : UInt8))),raw b5 (enc p2),raw b3 (enc p1),raw b1 (cat [[vI p0.Field],enc p0.Box,enc p0.Mix,enc p0.Places,[vI p0.Rounds]])]) (mk:=([mkO 8 (fun v=>UR v (enc (Vector.replicate 16 (0 : UInt8))))] : Mk)) [26,27,28,29,30,31,32,33,11] Yq rfl rfl (by decide) rfl hE (fun u=>M.qE (M.q0 hM.drew u) emO) (qsP (v:=(Value.agg (enc p0).toArray)) ?_ (qsP (v:=(Value.agg (enc r9.2).toArray)) ?_ (qsP (v:=(Value.agg (enc r16).toArray)) ?_ (qsP (fun z=>Zr z.E Za ld rfl (Az) (kr0 rfl)) (qsP (v:=(vI p0.Rounds)) ?_ (qsP (fun z=>Yg z.E Za ld rfl (cbm Tryz.func207) (T0 _ p0 r9.2 r16 p0.Rounds r29 e30) (kc rfl)) (qsP (v:=(Value.agg (enc r16).toArray)) ?_ (qsP (fun z=>Yg z.E Za ld rfl B4 (VT _ r29 r16 r31 e32) (kc rfl)) (qsM (pr:=fun v=>True) ?_ qs0))))))))) ?_
  ·intro a w ux28 D z
   have hE:=z.E
   have hM:=z.M
   exact Zq hE rfl V7 rfl hM.rawAt7 cq fun a hE=>⟨Kept.refl _ _,_,rfl,hE⟩
  ·intro a w ux28 D z
   have hE:=z.E
   have hM:=z.M
   exact Zq hE rfl ZJ rfl hM.rawAt2 (Flat.len _) fun a hE=>⟨Kept.refl _ _,_,rfl,hE⟩
  ·intro a w ux28 D z
   have hE:=z.E
   have hM:=z.M
   exact Zq hE rfl ZJ rfl hM.rawAt1 (Flat.len _) fun a hE=>⟨Kept.refl _ _,_,rfl,hE⟩
  ·intro a w ux28 D z
   have hE:=z.E
   have hM:=z.M
   exact ZA (v:=(vI p0.Rounds)) hE rfl ty2 rfl (At.cat (pre:=[[vI p0.Field],enc p0.Box,enc p0.Mix,enc p0.Places]) hM.rawAt7 ck) fun a hE=>⟨Kept.refl _ _,_,rfl,hE⟩
  ·intro a w ux28 D z
   have hE:=z.E
   have hM:=z.M
   exact Zq hE rfl ZJ rfl hM.rawAt1 (Flat.len _) fun a hE=>⟨Kept.refl _ _,_,rfl,hE⟩
  ·intro a w ux28 D z
   have hE:=z.E
   have hD : D 8 = false:=z.F
   have hM:=z.M
   refine ZC hE hM ZJ ?_; intro b33 w a hM hE
   have hM:=hM.pack1 (it:=UR _ (enc (Vector.replicate 16 (0 : UInt8)))) (fun w w' fp ⟨b',e,k⟩ hb=>⟨b',e,Y9 w w' fp k hb⟩) (fun fp k=>⟨_,rfl,k⟩)
   exact ⟨_,_,rfl,hE,M.qFill (mk1:=[]) (mk2:=[]) (f:=fun v=>UR v (enc (Vector.replicate 16 (0 : UInt8)))) hM rfl hD,trivial⟩
  ·intro a w ux28 D hE hM hG hall
   have d8:=hall 8 (by decide)
   have hM:=(hM.sure (pre:=[_,_,_,_,_,_,_,_]) d8).pull
   obtain ⟨_,⟨b35,f36,_⟩,_⟩:=hM.head
   have hM:=hM.pack1 Y9 (it:=raw b35 (enc (Vector.replicate 16 (0 : UInt8)))) (fun fp ⟨b2,e2,k2⟩=>by rw [f36] at e2; simp [ptr] at e2; subst e2; exact k2)
   have hE:=hE.setq (t:=11) rfl f36
   refine Zn (seg:=enc r31) (cs':=enc r31) hE hM Za rfl rfl rfl ZJ (Flat.len _) (zle flq) (Flat.cell _) (Zk flq) fun w a hM hE=>Zf (Zp (wp_seq ?_))
   obtain ⟨r38,e39,hF⟩:=bind_some hF
   obtain ⟨r40,e41,hF⟩:=bind_some hF
   refine Yv (its:=[raw b35 (enc r31),raw b26 (enc r18),raw b24 (enc r16),raw b13 (enc r9.2),raw b11 (enc r9.1),raw b7 (enc (Vector.replicate 32 (0 : UInt8))),raw b5 (enc p2),raw b3 (enc p1),raw b1 (cat [[vI p0.Field],enc p0.Box,enc p0.Mix,enc p0.Places,[vI p0.Rounds]])]) (mk:=([mkO 8 (fun v=>UR v (enc (Vector.replicate 16 (0 : UInt8))))] : Mk)) [34,35,36,37,38,39,40,41,12] Yq rfl rfl (by decide) rfl hE (fun u=>M.qE (M.q0 hM.drew u) emO) (qsP (v:=(Value.agg (enc p0).toArray)) ?_ (qsP (v:=(Value.agg (enc r31).toArray)) ?_ (qsP (v:=(Value.agg (enc r18).toArray)) ?_ (qsP (fun z=>Zr z.E Za ld rfl (Az) (kr0 rfl)) (qsP (v:=(vI p0.Rounds)) ?_ (qsP (fun z=>Yg z.E Za ld rfl (cbm Tryz.func207) (T0 _ p0 r31 r18 p0.Rounds r38 e39) (kc rfl)) (qsP (v:=(Value.agg (enc r18).toArray)) ?_ (qsP (fun z=>Yg z.E Za ld rfl B4 (VT _ r38 r18 r40 e41) (kc rfl)) (qsM (pr:=fun v=>True) ?_ qs0))))))))) ?_
   ·intro a w ux37 D z
    have hE:=z.E
    have hM:=z.M
    exact Zq hE rfl V7 rfl hM.rawAt8 cq fun a hE=>⟨Kept.refl _ _,_,rfl,hE⟩
   ·intro a w ux37 D z
    have hE:=z.E
    have hM:=z.M
    exact Zq hE rfl ZJ rfl hM.rawAt0 (Flat.len _) fun a hE=>⟨Kept.refl _ _,_,rfl,hE⟩
   ·intro a w ux37 D z
    have hE:=z.E
    have hM:=z.M
    exact Zq hE rfl ZJ rfl hM.rawAt1 (Flat.len _) fun a hE=>⟨Kept.refl _ _,_,rfl,hE⟩
   ·intro a w ux37 D z
    have hE:=z.E
    have hM:=z.M
    exact ZA (v:=(vI p0.Rounds)) hE rfl ty2 rfl (At.cat (pre:=[[vI p0.Field],enc p0.Box,enc p0.Mix,enc p0.Places]) hM.rawAt8 ck) fun a hE=>⟨Kept.refl _ _,_,rfl,hE⟩
   ·intro a w ux37 D z
    have hE:=z.E
    have hM:=z.M
    exact Zq hE rfl ZJ rfl hM.rawAt1 (Flat.len _) fun a hE=>⟨Kept.refl _ _,_,rfl,hE⟩
   ·intro a w ux37 D z
    have hE:=z.E
    have hD : D 8 = false:=z.F
    have hM:=z.M
    refine ZC hE hM ZJ ?_; intro b42 w a hM hE
    have hM:=hM.pack1 (it:=UR _ (enc (Vector.replicate 16 (0 : UInt8)))) (fun w w' fp ⟨b',e,k⟩ hb=>⟨b',e,Y9 w w' fp k hb⟩) (fun fp k=>⟨_,rfl,k⟩)
    exact ⟨_,_,rfl,hE,M.qFill (mk1:=[]) (mk2:=[]) (f:=fun v=>UR v (enc (Vector.replicate 16 (0 : UInt8)))) hM rfl hD,trivial⟩
   ·intro a w ux37 D hE hM hG hall
    have d8:=hall 8 (by decide)
    have hM:=(hM.sure (pre:=[_,_,_,_,_,_,_,_,_]) d8).pull
    obtain ⟨_,⟨b44,f45,_⟩,_⟩:=hM.head
    have hM:=hM.pack1 Y9 (it:=raw b44 (enc (Vector.replicate 16 (0 : UInt8)))) (fun fp ⟨b2,e2,k2⟩=>by rw [f45] at e2; simp [ptr] at e2; subst e2; exact k2)
    have hE:=hE.setq (t:=12) rfl f45
    refine Zn (seg:=enc r40) (cs':=enc r40) hE hM Za rfl rfl rfl ZJ (Flat.len _) (zle flq) (Flat.cell _) (Zk flq) fun w a hM hE=>Zf (Zp (Zb (XP (parts:=[]) (vs:=[]) (cs:=enc (Vector.replicate 32 (0 : UInt8))) hE Za ld rfl rfl Z3 rfl ty5 Y1 fun a hE=>ZC hE hM Z3 fun b46 w a hM hE=>Zn (seg:=enc (Vector.replicate 32 (0 : UInt8))) (cs':=enc (Vector.replicate 32 (0 : UInt8))) hE hM Za rfl rfl rfl Z3 (Flat.len _) (zle flq) (Flat.cell _) (Zk flq) fun w a hM hE=>Ze (wp_seq (Zb (Zc hE rfl fun a hE=>Ze ?_))))))
    obtain ⟨j48,hl49,hF50⟩:=bind_some hF
    refine ZM (fun a w=>Env 59 a [(6,(ptr b7 0)),(13,(ptr b46 0))] ∧ M (Old w0) w0 w [raw b46 (enc j48),raw b7 (enc (Vector.replicate 32 (0 : UInt8)))]) ?_ ?_
    ·skip
     refine wp_block ?_
     have hM:=M.fst (l:=[_,_,_,_]) hM.pull7.pull3.pull3.pull3
     refine ZE (fun (s51 : (Vector UInt8 32) × Int) a w=>Env 59 a [(6,(ptr b7 0)),(11,(ptr b35 0)),(12,(ptr b44 0)),(13,(ptr b46 0)),(14,vI s51.2)] ∧ M (Old w0) w0 w [raw b46 (enc s51.1),raw b44 (enc r40),raw b35 (enc r31),raw b7 (enc (Vector.replicate 32 (0 : UInt8)))]) hl49 ⟨hE.sub ⟨rfl,rfl,rfl,rfl,rfl,trivial⟩,hM⟩ ?_
     rintro s51 a w ⟨hE,hM⟩ o54 hs52 hx53
     unfold XX at hs52
     refine wp_seq (Zb (Zd hE rfl fun a hE=>Zg hE rfl rfl rfl fun a hE=>Ze ?_))
     refine Zo hE rfl ?_ ?_
     ·intro hb55
      have hs52:=Zs hs52 hb55
      refine wp_skip (Zp (wp_seq (wp_block (Zb (Zd hE rfl fun a hE=>Zd hE rfl ?_))))); intro a hE
      obtain ⟨x57,hi56,hs52⟩:=bvx hs52
      refine ZF hE rfl rfl Tryz.underlying68 ty5 hi56.1 fun a hE=>ZA (v:=(vB x57)) hE rfl ty5 rfl (At.vec hM.rawAt2 hi56.2) ?_; intro a hE
      obtain ⟨x60,hi59,hs52⟩:=bvx hs52
      refine ZF hE rfl rfl Tryz.underlying35 ty5 hi59.1 fun a hE=>Zn (seg:=[vB x57]) (cs':=enc (s51.1.setIfInBounds (s51.2).toNat x57)) hE hM Za rfl rfl rfl ty5 rfl (ZN (v:=s51.1) (x:=x57) hi59.1) (Flat.cell (x57 : UInt8)) (ZD (v:=s51.1) (x:=x57) hi59.1) fun w a hM hE=>Ze (wp_region_lit (Zd hE rfl fun a hE=>Zg hE rfl rfl rfl fun a hE=>Zd hE rfl ?_)); intro a hE
      obtain ⟨x63,hi62,hs52⟩:=bvx hs52
      refine ZF hE rfl rfl Tryz.underlying68 ty5 hi62.1 fun a hE=>ZA (v:=(vB x63)) hE rfl ty5 rfl (At.vec hM.rawAt1 hi62.2) ?_; intro a hE
      obtain ⟨x66,hi65,hs52⟩:=bvx hs52
      refine ZF hE rfl rfl Tryz.underlying35 ty5 hi65.1 fun a hE=>Zn (seg:=[vB x63]) (cs':=enc ((s51.1.setIfInBounds (s51.2).toNat x57).setIfInBounds ((wr (16 + s51.2))).toNat x63)) hE hM Za rfl rfl rfl ty5 rfl (ZN (v:=(s51.1.setIfInBounds (s51.2).toNat x57)) (x:=x63) hi65.1) (Flat.cell (x63 : UInt8)) (ZD (v:=(s51.1.setIfInBounds (s51.2).toNat x57)) (x:=x63) hi65.1) fun w a hM hE=>Zf (Yc (Zp (wp_region_lit (Zd hE rfl fun a hE=>Zg hE rfl rfl rfl fun a hE=>Zc hE rfl fun a hE=>Zf (Zh ?_)))))
      exact ⟨_,(ois hs52),hE.sub ⟨rfl,rfl,rfl,rfl,rfl,trivial⟩,hM⟩
     ·intro hb55
      have hs52:=Zt hs52 hb55
      refine wp_exit (Zm (Zm (Yb ?_)))
      obtain rfl:=hx53 _ (ois hs52)
      refine Zh ?_
      have hM:=M.fst (l:=[_,_]) hM.pull3.pull1
      exact ⟨hE.sub ⟨rfl,rfl,trivial⟩,hM⟩
    ·skip
     rintro a w ⟨hE,hM⟩
     refine Zp (Zb (Zq hE rfl Z3 rfl hM.rawAt0 (Flat.len _) ?_)); intro a hE
     have hM:=hM.pull1
     refine Zn (seg:=enc j48) (cs':=enc j48) hE hM Za rfl rfl rfl Z3 (Flat.len _) (zle flq) (Flat.cell _) (Zk flq) fun w a hM hE=>Ze ?_
     obtain rfl:=Option.some.inj hF50
     have hq69 : Yz Tryz.prog _ _ (.cell 6 35) _:=ZS hE rfl Z3 rfl hM.rawAt0 (Flat.len _) rfl
     exact wp_ret (ZP hE rfl hq69 ⟨_,rfl,rfl,hM.kept⟩)
def VR (p0 : GCipher) (r8 : (List (Vector UInt8 16))) (s18 : (Vector UInt8 32) × Int) : Option (Fl ((Vector UInt8 32) × Int) (Vector UInt8 32)) :=
 if (decide (s18.2 < (r8.length : Int))) = true then ((idx r8 s18.2).bind fun x24=>(Ws p0 s18.1 x24).bind fun r27=>some (Fl.nx (r27,wr (s18.2 + 1)))) else (some (Fl.ex s18.1))
def U7 (p0 : GCipher) (p1 : (List UInt8)) : Option ((Vector UInt8 32)) :=
 (UI p1).bind fun r5=>(Vr r5).bind fun r8=>(VN).bind fun r11=>(Zz (VR p0 r8) (r11,0)).bind fun j15=>some j15
theorem Ad (w0 : World) (p0 : GCipher) (p1 : (List UInt8)) (v1_1 : Value) (hv1_1 : Ro w0 p1 [v1_1]) (r : (Vector UInt8 32)) (hF : U7 p0 p1 = some r) :
  Calls Tryz.prog 124 [(Value.agg (enc p0).toArray),v1_1].toArray w0 (Rt w0 (Value.agg (enc r).toArray)):=by
 refine ce Tryz.func124 ?_
 intro a hE
 have hM:=M.start w0
 unfold U7 at hF
 refine Zb (ZZ (cs:=cat [[vI p0.Field],enc p0.Box,enc p0.Mix,enc p0.Places,[vI p0.Rounds]]) hE hM Za ld rfl rfl fun b1 w a hM hE=>ZC hE hM Z3 fun b3 w a hM hE=>Ze (Zb (Zd hE rfl ?_))); intro a hE
 obtain ⟨r5,e6,hF⟩:=bind_some hF
 refine Zy hE rfl (cbm Tryz.func172) (BD _ p1 v1_1 (hM.rdo hv1_1) r5 e6) ?_
 rintro u7 w a ⟨_,rfl,hFr,hK⟩ hE
 have hM:=hM.add hK hFr
 obtain ⟨r8,e9,hF⟩:=bind_some hF
 refine Zy hE rfl (cbm Tryz.func171) (Jv _ r5 u7 (hM.sl (pre:=[]) noB) r8 e9) ?_
 rintro u10 w a ⟨_,rfl,hFr,hK⟩ hE
 have hM:=hM.add hK hFr
 obtain ⟨r11,e12,hF⟩:=bind_some hF
 refine Zy hE rfl (cbm Tryz.func173) (Hd _  r11 e12) ?_
 rintro v w a ⟨rfl,hK⟩ hE
 have hM:=hM.keep hK
 refine ZC hE hM Z3 fun b13 w a hM hE=>Zc hE rfl fun a hE=>Zn (seg:=enc r11) (cs':=enc r11) hE hM Za rfl rfl rfl Z3 (Flat.len _) (zle flq) (Flat.cell _) (Zk flq) fun w a hM hE=>Ze (wp_seq (Zb (Zc hE rfl fun a hE=>Ze ?_)))
 obtain ⟨j15,hl16,hF17⟩:=bind_some hF
 refine ZM (fun a w=>Env 26 a [(4,(ptr b3 0)),(6,(ptr b13 0))] ∧ M (Old w0) w0 w [raw b13 (enc j15),raw b3 (enc (Vector.replicate 32 (0 : UInt8)))]) ?_ ?_
 ·skip
  refine wp_block ?_
  have hM:=M.fst (l:=[_,_,_,_]) hM.pull4.pull4.pull3.pull3
  refine ZE (fun (s18 : (Vector UInt8 32) × Int) a w=>Env 26 a [(2,(ptr b1 0)),(4,(ptr b3 0)),(5,u10),(6,(ptr b13 0)),(7,vI s18.2)] ∧ M (Old w0) w0 w [raw b13 (enc s18.1),osl NoB (r8 : List (Vector UInt8 16)) u10,raw b3 (enc (Vector.replicate 32 (0 : UInt8))),raw b1 (cat [[vI p0.Field],enc p0.Box,enc p0.Mix,enc p0.Places,[vI p0.Rounds]])]) hl16 ⟨hE.sub ⟨rfl,rfl,rfl,rfl,rfl,trivial⟩,hM⟩ ?_
  rintro s18 a w ⟨hE,hM⟩ o21 hs19 hx20
  unfold VR at hs19
  refine wp_seq (Zb (Zd hE rfl fun a hE=>Zd hE rfl fun a hE=>Z7 hE rfl Tryz.underlying54 (hM.sl (pre:=[_]) noB) fun a hE=>Zg hE rfl rfl rfl fun a hE=>Ze ?_))
  refine Zo hE rfl ?_ ?_
  ·intro hb22
   have hs19:=Zs hs19 hb22
   refine wp_skip (Zp (wp_seq (wp_block ?_)))
   obtain ⟨x24,hi26,hs19⟩:=bix hs19
   obtain ⟨r27,e28,hs19⟩:=bind_some hs19
   refine ZV [18,19,20,21,22,23,24] Yq rfl rfl (by decide) rfl hE hM (qsP (fun z=>Z0 z.E Za ld rfl V7 rfl (z.M.rawAt3) cq (kr0 rfl)) (qsP (fun z=>Z0 z.E Za ld rfl Z3 rfl (z.M.rawAt0) (Flat.len _) (kr0 rfl)) (qsP (fun z=>Zi z.E Za ld rfl (kr0 rfl)) (qsP (fun z=>Zi z.E Za ld rfl (kr0 rfl)) (qsP (fun z=>ZX z.E Za ld rfl rfl Tryz.underlying54 ZJ (z.M.sl (pre:=[_]) noB) hi26.1 (kr0 rfl)) (qsP (fun z=>Z0 z.E Za ld rfl ZJ rfl (Yl (z.M.sl (pre:=[_]) noB) hi26.2) (Flat.len _) (kr0 rfl)) (qsP (fun z=>Yg z.E Za ld rfl (cbm Tryz.func174) (Ju _ p0 s18.1 x24 r27 e28) (kc rfl)) qs0))))))) ?_
   ·intro a w u hE hM
    refine Zn (seg:=enc r27) (cs':=enc r27) hE hM Za rfl rfl rfl Z3 (Flat.len _) (zle flq) (Flat.cell _) (Zk flq) fun w a hM hE=>Zf (Yc (Zp (wp_region_lit (Zd hE rfl fun a hE=>Zg hE rfl rfl rfl fun a hE=>Zc hE rfl fun a hE=>Zf (Zh ?_)))))
    exact ⟨_,(ois hs19),hE.sub ⟨rfl,rfl,rfl,rfl,rfl,trivial⟩,hM⟩
  ·intro hb22
   have hs19:=Zt hs19 hb22
   refine wp_exit (Zm (Zm (Yb ?_)))
   obtain rfl:=hx20 _ (ois hs19)
   refine Zh ?_
   have hM:=M.fst (l:=[_,_]) hM.pull2.pull1
   exact ⟨hE.sub ⟨rfl,rfl,trivial⟩,hM⟩
 ·skip
  rintro a w ⟨hE,hM⟩
  refine Zp (Zb (Zq hE rfl Z3 rfl hM.rawAt0 (Flat.len _) ?_)); intro a hE
  have hM:=hM.pull1
  refine Zn (seg:=enc j15) (cs':=enc j15) hE hM Za rfl rfl rfl Z3 (Flat.len _) (zle flq) (Flat.cell _) (Zk flq) fun w a hM hE=>Ze ?_
  obtain rfl:=Option.some.inj hF17
  have hq30 : Yz Tryz.prog _ _ (.cell 4 35) _:=ZS hE rfl Z3 rfl hM.rawAt0 (Flat.len _) rfl
  exact wp_ret (ZP hE rfl hq30 ⟨_,rfl,rfl,hM.kept⟩)
def Vk (p0 : (List UInt8)) : Option ((Vector UInt8 32)) :=
 (VK 8).bind fun r3=>(U7 r3 p0).bind fun r5=>some r5
theorem Jj (w0 : World) (p0 : (List UInt8)) (v0_1 : Value) (hv0_1 : Ro w0 p0 [v0_1]) (r : (Vector UInt8 32)) (hF : Vk p0 = some r) :
  Calls Tryz.prog 63 [v0_1].toArray w0 (Rt w0 (Value.agg (enc r).toArray)):=by
 refine ce Tryz.func63 ?_
 intro a hE
 have hM:=M.start w0
 unfold Vk at hF
 refine Zb (ZC hE hM Z3 fun b1 w a hM hE=>Ze (Zb ?_))
 obtain ⟨r3,e4,hF⟩:=bind_some hF
 refine Zy hE rfl (cbm Tryz.func125) (J1 _ 8 r3 e4) ?_
 rintro v w a ⟨rfl,hK⟩ hE
 have hM:=hM.keep hK
 refine Zd hE rfl ?_; intro a hE
 obtain ⟨r5,e6,hF⟩:=bind_some hF
 refine Zy hE rfl (cbm Tryz.func124) (Ad _ r3 p0 v0_1 (hM.rdo hv0_1) r5 e6) ?_
 rintro v w a ⟨rfl,hK⟩ hE
 have hM:=hM.keep hK
 refine Zn (seg:=enc r5) (cs':=enc r5) hE hM Za rfl rfl rfl Z3 (Flat.len _) (zle flq) (Flat.cell _) (Zk flq) fun w a hM hE=>Ze ?_
 obtain rfl:=Option.some.inj hF
 have hq7 : Yz Tryz.prog _ _ (.cell 2 35) _:=ZS hE rfl Z3 rfl hM.rawAt0 (Flat.len _) rfl
 exact wp_ret (ZP hE rfl hq7 ⟨_,rfl,rfl,hM.kept⟩)
def VS (p0 : GBlobs) (s20 : Int) : Option (Fl Int (Fl Unit Bool)) :=
 if (decide (s20 < (p0.Keys.length : Int))) = true then (((idx p0.Data s20).bind fun x29=>if (decide ((x29.length : Int) > 2000)) = true then (some true) else ((idx p0.Counts s20).bind fun x39=>if (decide (x39 < 1)) = true then (some true) else ((idx p0.Counts s20).bind fun x44=>if (decide (x44 > 1000000)) = true then (some true) else ((idx p0.Data s20).bind fun x49=>(Vk x49).bind fun r57=>(idx p0.Keys s20).bind fun x59=>some (!decide (r57 = x59))))) : Option (Bool)).bind fun j25=>if j25 = true then (some (Fl.ex (Fl.ex false))) else (some (Fl.nx (wr (s20 + 1))))) else (some (Fl.ex (Fl.nx ())))
def U9 (p0 : GBlobs) : Option (Bool) :=
 (if (decide ((p0.Keys.length : Int) > 32)) = true then (some true) else (if ((p0.Data.length : Int) != (p0.Keys.length : Int)) = true then (some true) else (if ((p0.Counts.length : Int) != (p0.Keys.length : Int)) = true then (some true) else ((Wa p0.Keys).bind fun r12=>some (!r12)))) : Option (Bool)).bind fun j3=>if j3 = true then (some false) else ((Zz (VS p0) 0).bind fun j16=>j16.el (fun s19=>some true) (fun r=>some r))
theorem Ar (w0 : World) (p0 : GBlobs) (v0_1 : Value) (hv0_1 : Ro w0 p0.Keys [v0_1]) (v0_2 : Value) (hv0_2 : Ro w0 p0.Data [v0_2]) (v0_3 : Value) (hv0_3 : Ro w0 p0.Counts [v0_3]) (r : Bool) (hF : U9 p0 = some r) :
  Calls Tryz.prog 43 [(Value.agg (cat [[v0_1],[v0_2],[v0_3]]).toArray)].toArray w0 (Rt w0 (vT r)):=by
 refine ce Tryz.func43 ?_
 intro a hE
 have hM:=M.start w0
 unfold U9 at hF
 refine Zb (ZZ (cs:=cat [[v0_1],[v0_2],[v0_3]]) hE hM Za ld rfl rfl fun b1 w a hM hE=>Zc hE rfl fun a hE=>Ze (Zb (Zw hE rfl (X1) fun a hE=>ZA (v:=v0_1) hE rfl Tu rfl (At.cat (pre:=[]) hM.rawAt0 cl0) fun a hE=>Z7 hE rfl Tryz.underlying29 (hM.rd hv0_1) fun a hE=>Zc hE rfl fun a hE=>Ze (wp_seq ?_))))
 obtain ⟨j3,hl4,hF5⟩:=bind_some hF
 refine ZK (fun a w=>Env 72 a [(1,(ptr b1 0)),(3,(vI (p0.Keys.length : Int))),(29,vT j3)] ∧ M (Old w0) w0 w [raw b1 (cat [[v0_1],[v0_2],[v0_3]])]) ?_ ?_
 ·skip
  refine wp_region_lit (Zd hE rfl fun a hE=>Zg hE rfl rfl rfl fun a hE=>Zd hE rfl ?_); intro a hE
  refine Vs (decide ((p0.Keys.length : Int) > 32)) (fun hb6=>?_) (fun hb6=>?_)
  ·have hl4:=Zs hl4 hb6
   refine Zl hE rfl (lkb rfl hb6) rfl (by decide) fun a hE=>Zl hE rfl (lkb rfl hb6) rfl (by decide) fun a hE=>Zl hE rfl (lkb rfl hb6) rfl (by decide) fun a hE=>Zl hE rfl (lkb rfl hb6) rfl (by decide) fun a hE=>Zl hE rfl (lkb rfl hb6) rfl (by decide) fun a hE=>Xr hE (lkb rfl hb6) rfl fun a hE=>Zd hE rfl fun a hE=>Zl hE rfl rfl rfl (by decide) fun a hE=>Zl hE rfl rfl rfl (by decide) fun a hE=>Zl hE rfl rfl rfl (by decide) fun a hE=>Zl hE rfl rfl rfl (by decide) fun a hE=>Zl hE rfl rfl rfl (by decide) ?_; intro a hE
   refine Xr hE rfl rfl fun a hE=>Zd hE rfl fun a hE=>Zl hE rfl rfl rfl (by decide) fun a hE=>Zl hE rfl rfl rfl (by decide) fun a hE=>Zl hE rfl rfl rfl (by decide) fun a hE=>Zl hE rfl rfl rfl (by decide) fun a hE=>Xr hE rfl rfl fun a hE=>Zf ?_
   obtain rfl:=Option.some.inj hl4
   refine Zh ?_
   exact ⟨hE.sub ⟨rfl,rfl,rfl,trivial⟩,hM⟩
  ·have hl4:=Zt hl4 hb6
   refine Zr hE (Zj hE rfl (lkb rfl hb6)) (by decide) rfl (X5) fun a hE=>ZL (v:=v0_2) hE (Zj hE rfl (lkb rfl hb6)) (by decide) rfl Tg rfl (At.cat (pre:=[[v0_1]]) hM.rawAt0 ck) fun a hE=>TS hE (Zj hE rfl (lkb rfl hb6)) (by decide) rfl Tryz.underlying23 (hM.rd hv0_2) fun a hE=>Zi hE (Zj hE rfl (lkb rfl hb6)) (by decide) rfl fun a hE=>Yd hE (Zj hE rfl (lkb rfl hb6)) (by decide) rfl rfl rfl fun a hE=>VX hE (lkb rfl hb6) rfl fun a hE=>Zd hE rfl ?_; intro a hE
   refine Vs ((p0.Data.length : Int) != (p0.Keys.length : Int)) (fun hb8=>?_) (fun hb8=>?_)
   ·have hl4:=Zs hl4 hb8
    refine Zl hE rfl (lkb rfl hb8) rfl (by decide) fun a hE=>Zl hE rfl (lkb rfl hb8) rfl (by decide) fun a hE=>Zl hE rfl (lkb rfl hb8) rfl (by decide) fun a hE=>Zl hE rfl (lkb rfl hb8) rfl (by decide) fun a hE=>Zl hE rfl (lkb rfl hb8) rfl (by decide) fun a hE=>Xr hE (lkb rfl hb8) rfl fun a hE=>Zd hE rfl fun a hE=>Zl hE rfl rfl rfl (by decide) fun a hE=>Zl hE rfl rfl rfl (by decide) fun a hE=>Zl hE rfl rfl rfl (by decide) fun a hE=>Zl hE rfl rfl rfl (by decide) fun a hE=>Xr hE rfl rfl ?_; intro a hE
    refine Zf ?_
    obtain rfl:=Option.some.inj hl4
    refine Zh ?_
    exact ⟨hE.sub ⟨rfl,rfl,rfl,trivial⟩,hM⟩
   ·have hl4:=Zt hl4 hb8
    refine Zr hE (Zj hE rfl (lkb rfl hb8)) (by decide) rfl (X2) fun a hE=>ZL (v:=v0_3) hE (Zj hE rfl (lkb rfl hb8)) (by decide) rfl U3 rfl (At.cat (pre:=[[v0_1],[v0_2]]) hM.rawAt0 ck) fun a hE=>TS hE (Zj hE rfl (lkb rfl hb8)) (by decide) rfl Tryz.underlying24 (hM.rd hv0_3) fun a hE=>Zi hE (Zj hE rfl (lkb rfl hb8)) (by decide) rfl fun a hE=>Yd hE (Zj hE rfl (lkb rfl hb8)) (by decide) rfl rfl rfl fun a hE=>VX hE (lkb rfl hb8) rfl fun a hE=>Zd hE rfl ?_; intro a hE
    refine Vs ((p0.Counts.length : Int) != (p0.Keys.length : Int)) (fun hb10=>?_) (fun hb10=>?_)
    ·have hl4:=Zs hl4 hb10
     refine Zl hE rfl (lkb rfl hb10) rfl (by decide) fun a hE=>Zl hE rfl (lkb rfl hb10) rfl (by decide) fun a hE=>Zl hE rfl (lkb rfl hb10) rfl (by decide) fun a hE=>Zl hE rfl (lkb rfl hb10) rfl (by decide) fun a hE=>Xr hE (lkb rfl hb10) rfl fun a hE=>Zf ?_
     obtain rfl:=Option.some.inj hl4
     refine Zh ?_
     exact ⟨hE.sub ⟨rfl,rfl,rfl,trivial⟩,hM⟩
    ·have hl4:=Zt hl4 hb10
     refine Zr hE (Zj hE rfl (lkb rfl hb10)) (by decide) rfl (X1) fun a hE=>ZL (v:=v0_1) hE (Zj hE rfl (lkb rfl hb10)) (by decide) rfl Tu rfl (At.cat (pre:=[]) hM.rawAt0 cl0) ?_; intro a hE
     obtain ⟨r12,e13,hl4⟩:=bind_some hl4
     refine Yg hE (Zj hE rfl (lkb rfl hb10)) (by decide) rfl (cbm Tryz.func118) (Kb _ p0.Keys v0_1 (hM.rdo hv0_1) r12 e13) ?_
     rintro v w a ⟨rfl,hK⟩ hE
     have hM:=hM.keep hK
     refine QA hE (Zj hE rfl (lkb rfl hb10)) (by decide) rfl fun a hE=>VX hE (lkb rfl hb10) rfl fun a hE=>Zf ?_
     obtain rfl:=Option.some.inj hl4
     refine Zh ?_
     exact ⟨hE.sub ⟨rfl,rfl,rfl,trivial⟩,hM⟩
 ·skip
  rintro a w ⟨hE,hM⟩
  refine Zo hE rfl ?_ ?_
  ·intro hb15
   have hF5:=Zs hF5 hb15
   refine Zb (Zc hE rfl fun a hE=>Ze ?_)
   obtain rfl:=Option.some.inj hF5
   exact wp_ret (Zx (kr1 hE rfl rfl hM.kept))
  ·intro hb15
   have hF5:=Zt hF5 hb15
   refine wp_skip (Zp (wp_seq (Zb (Zc hE rfl fun a hE=>Ze ?_))))
   obtain ⟨j16,hl17,hF18⟩:=bind_some hF5
   refine ZM (fun a w=>∃ s19 : Unit,j16 = Fl.nx s19 ∧ Env 72 a [] ∧ M (Old w0) w0 w []) ?_ ?_
   ·skip
    refine wp_block ?_
    refine ZE (fun (s20 : Int) a w=>Env 72 a [(1,(ptr b1 0)),(3,(vI (p0.Keys.length : Int))),(4,vI s20)] ∧ M (Old w0) w0 w [raw b1 (cat [[v0_1],[v0_2],[v0_3]])]) hl17 ⟨hE.sub ⟨rfl,rfl,rfl,trivial⟩,hM⟩ ?_
    rintro s20 a w ⟨hE,hM⟩ o23 hs21 hx22
    unfold VS at hs21
    refine wp_seq (Zb (Zd hE rfl fun a hE=>Zd hE rfl fun a hE=>Zg hE rfl rfl rfl fun a hE=>Ze ?_))
    refine Zo hE rfl ?_ ?_
    ·intro hb24
     have hs21:=Zs hs21 hb24
     refine wp_skip (Zp (wp_seq (wp_block ?_)))
     obtain ⟨j25,hl26,hF27⟩:=bind_some hs21
     refine ZK (fun a w=>Env 72 a [(1,(ptr b1 0)),(3,(vI (p0.Keys.length : Int))),(4,vI s20),(71,vT j25)] ∧ M (Old w0) w0 w [raw b1 (cat [[v0_1],[v0_2],[v0_3]])]) ?_ ?_
     ·skip
      obtain ⟨x29,hi31,hl26⟩:=bix hl26
      obtain ⟨cs32,hs33,hA34⟩:=UO hv0_2 hi31.2 -- ^
      obtain ⟨u35,rfl⟩:=Vx hs33 -- ^
      have h36:=hs33 -- ^
      refine Vs (decide ((x29.length : Int) > 2000)) (fun hb37=>?_) (fun hb37=>?_)
      ·have hl26:=Zs hl26 hb37
       refine ZV [35,36,37,38,39,40,41,42,43,44,45,46,47,48,49,50,51,52,53,54,55,56,57,58,59,60,61,62,63,64,65,66,67,68,69,70,71] Yq rfl rfl (by decide) rfl hE hM (qsP (fun z=>Zr z.E Za ld rfl (X5) (kr0 rfl)) (qsP (fun z=>ZL (v:=v0_2) z.E Za ld rfl Tg rfl (At.cat (pre:=[[v0_1]]) (z.M.rawAt0) ck) (kr0 rfl)) (qsP (fun z=>Zi z.E Za ld rfl (kr0 rfl)) (qsP (fun z=>ZX z.E Za ld rfl rfl Tryz.underlying23 XQ (z.M.rd hv0_2) hi31.1 (kr0 rfl)) (qsP (fun z=>ZL (v:=u35) z.E Za ld rfl XQ rfl (z.M.atk hA34 (US hv0_2 hi31.2)) (kr0 rfl)) (qsP (fun z=>TS z.E Za ld rfl Tryz.underlying40 (z.M.rd h36) (kr0 rfl)) (qsP (fun z=>Yd z.E Za ld rfl rfl rfl (kr0 rfl)) (qsP (fun z=>Zi z.E Za ld rfl (kr0 rfl)) (qsP (fun z=>Zl z.E rfl (lkb rfl hb37) rfl (by decide) (kr0 rfl)) (qsP (fun z=>Zl z.E rfl (lkb rfl hb37) rfl (by decide) (kr0 rfl)) (qsP (fun z=>Zl z.E rfl (lkb rfl hb37) rfl (by decide) (kr0 rfl)) (qsP (fun z=>Zl z.E rfl (lkb rfl hb37) rfl (by decide) (kr0 rfl)) (qsP (fun z=>Zl z.E rfl (lkb rfl hb37) rfl (by decide) (kr0 rfl)) (qsP (fun z=>Zl z.E rfl (lkb rfl hb37) rfl (by decide) (kr0 rfl)) (qsP (fun z=>Tp z.E Za ld (lkb rfl hb37) rfl (kr0 rfl)) (qsP (fun z=>Zi z.E Za ld rfl (kr0 rfl)) (qsP (fun z=>Zl z.E rfl rfl rfl (by decide) (kr0 rfl)) (qsP (fun z=>Zl z.E rfl rfl rfl (by decide) (kr0 rfl)) (qsP (fun z=>Zl z.E rfl rfl rfl (by decide) (kr0 rfl)) (qsP (fun z=>Zl z.E rfl rfl rfl (by decide) (kr0 rfl)) (qsP (fun z=>Zl z.E rfl rfl rfl (by decide) (kr0 rfl)) (qsP (fun z=>Zl z.E rfl rfl rfl (by decide) (kr0 rfl)) (qsP (fun z=>Tp z.E Za ld rfl rfl (kr0 rfl)) (qsP (fun z=>Zi z.E Za ld rfl (kr0 rfl)) (qsP (fun z=>Zl z.E rfl rfl rfl (by decide) (kr0 rfl)) (qsP (fun z=>Zl z.E rfl rfl rfl (by decide) (kr0 rfl)) (qsP (fun z=>Zl z.E rfl rfl rfl (by decide) (kr0 rfl)) (qsP (fun z=>Zl z.E rfl rfl rfl (by decide) (kr0 rfl)) (qsP (fun z=>Zl z.E rfl rfl rfl (by decide) (kr0 rfl)) (qsP (fun z=>Zl z.E rfl rfl rfl (by decide) (kr0 rfl)) (qsP (fun z=>Zl z.E rfl rfl rfl (by decide) (kr0 rfl)) (qsP (fun z=>Zl z.E rfl rfl rfl (by decide) (kr0 rfl)) (qsP (fun z=>Zl z.E rfl rfl rfl (by decide) (kr0 rfl)) (qsP (fun z=>Zl z.E rfl rfl rfl (by decide) (kr0 rfl)) (qsP (fun z=>Zl z.E rfl rfl rfl (by decide) (kr0 rfl)) (qsP (fun z=>Zl z.E rfl rfl rfl (by decide) (kr0 rfl)) (qsP (fun z=>Tp z.E Za ld rfl rfl (kr0 rfl)) qs0))))))))))))))))))))))))))))))))))))) ?_
       ·intro a w u hE hM
        refine Zf ?_
        obtain rfl:=Option.some.inj hl26
        refine Zh ?_
        exact ⟨hE.sub ⟨rfl,rfl,rfl,rfl,trivial⟩,hM⟩
      ·have hl26:=Zt hl26 hb37
       obtain ⟨x39,hi41,hl26⟩:=bix hl26
       refine Vs (decide (x39 < 1)) (fun hb42=>?_) (fun hb42=>?_)
       ·have hl26:=Zs hl26 hb42
        refine ZV [35,36,37,38,39,40,41,42,43,44,45,46,47,48,49,50,51,52,53,54,55,56,57,58,59,60,61,62,63,64,65,66,67,68,69,70,71] Yq rfl rfl (by decide) rfl hE hM (qsP (fun z=>Zr z.E Za ld rfl (X5) (kr0 rfl)) (qsP (fun z=>ZL (v:=v0_2) z.E Za ld rfl Tg rfl (At.cat (pre:=[[v0_1]]) (z.M.rawAt0) ck) (kr0 rfl)) (qsP (fun z=>Zi z.E Za ld rfl (kr0 rfl)) (qsP (fun z=>ZX z.E Za ld rfl rfl Tryz.underlying23 XQ (z.M.rd hv0_2) hi31.1 (kr0 rfl)) (qsP (fun z=>ZL (v:=u35) z.E Za ld rfl XQ rfl (z.M.atk hA34 (US hv0_2 hi31.2)) (kr0 rfl)) (qsP (fun z=>TS z.E Za ld rfl Tryz.underlying40 (z.M.rd h36) (kr0 rfl)) (qsP (fun z=>Yd z.E Za ld rfl rfl rfl (kr0 rfl)) (qsP (fun z=>Zi z.E Za ld rfl (kr0 rfl)) (qsP (fun z=>Zr z.E (Zj z.E rfl (lkb rfl hb37)) (by decide) rfl (X2) (kr0 rfl)) (qsP (fun z=>ZL (v:=v0_3) z.E (Zj z.E rfl (lkb rfl hb37)) (by decide) rfl U3 rfl (At.cat (pre:=[[v0_1],[v0_2]]) (z.M.rawAt0) ck) (kr0 rfl)) (qsP (fun z=>Zi z.E (Zj z.E rfl (lkb rfl hb37)) (by decide) rfl (kr0 rfl)) (qsP (fun z=>ZX z.E (Zj z.E rfl (lkb rfl hb37)) (by decide) rfl rfl Tryz.underlying24 ty2 (z.M.rd hv0_3) hi41.1 (kr0 rfl)) (qsP (fun z=>ZL (v:=(vI x39)) z.E (Zj z.E rfl (lkb rfl hb37)) (by decide) rfl ty2 rfl (Yl (z.M.rd hv0_3) hi41.2) (kr0 rfl)) (qsP (fun z=>Yd z.E (Zj z.E rfl (lkb rfl hb37)) (by decide) rfl rfl rfl (kr0 rfl)) (qsP (fun z=>Th z.E Za ld (lkb rfl hb37) rfl (kr0 rfl)) (qsP (fun z=>Zi z.E Za ld rfl (kr0 rfl)) (qsP (fun z=>Zl z.E rfl (lkb rfl hb42) rfl (by decide) (kr0 rfl)) (qsP (fun z=>Zl z.E rfl (lkb rfl hb42) rfl (by decide) (kr0 rfl)) (qsP (fun z=>Zl z.E rfl (lkb rfl hb42) rfl (by decide) (kr0 rfl)) (qsP (fun z=>Zl z.E rfl (lkb rfl hb42) rfl (by decide) (kr0 rfl)) (qsP (fun z=>Zl z.E rfl (lkb rfl hb42) rfl (by decide) (kr0 rfl)) (qsP (fun z=>Zl z.E rfl (lkb rfl hb42) rfl (by decide) (kr0 rfl)) (qsP (fun z=>Tp z.E Za ld (lkb rfl hb42) rfl (kr0 rfl)) (qsP (fun z=>Zi z.E Za ld rfl (kr0 rfl)) (qsP (fun z=>Zl z.E rfl rfl rfl (by decide) (kr0 rfl)) (qsP (fun z=>Zl z.E rfl rfl rfl (by decide) (kr0 rfl)) (qsP (fun z=>Zl z.E rfl rfl rfl (by decide) (kr0 rfl)) (qsP (fun z=>Zl z.E rfl rfl rfl (by decide) (kr0 rfl)) (qsP (fun z=>Zl z.E rfl rfl rfl (by decide) (kr0 rfl)) (qsP (fun z=>Zl z.E rfl rfl rfl (by decide) (kr0 rfl)) (qsP (fun z=>Zl z.E rfl rfl rfl (by decide) (kr0 rfl)) (qsP (fun z=>Zl z.E rfl rfl rfl (by decide) (kr0 rfl)) (qsP (fun z=>Zl z.E rfl rfl rfl (by decide) (kr0 rfl)) (qsP (fun z=>Zl z.E rfl rfl rfl (by decide) (kr0 rfl)) (qsP (fun z=>Zl z.E rfl rfl rfl (by decide) (kr0 rfl)) (qsP (fun z=>Zl z.E rfl rfl rfl (by decide) (kr0 rfl)) (qsP (fun z=>Tp z.E Za ld rfl rfl (kr0 rfl)) qs0))))))))))))))))))))))))))))))))))))) ?_
        ·intro a w u hE hM
         refine Zf ?_
         obtain rfl:=Option.some.inj hl26
         refine Zh ?_
         exact ⟨hE.sub ⟨rfl,rfl,rfl,rfl,trivial⟩,hM⟩
       ·have hl26:=Zt hl26 hb42
        obtain ⟨x44,hi46,hl26⟩:=bix hl26
        refine Vs (decide (x44 > 1000000)) (fun hb47=>?_) (fun hb47=>?_)
        ·have hl26:=Zs hl26 hb47
         refine ZV [35,36,37,38,39,40,41,42,43,44,45,46,47,48,49,50,51,52,53,54,55,56,57,58,59,60,61,62,63,64,65,66,67,68,69,70,71] Yq rfl rfl (by decide) rfl hE hM (qsP (fun z=>Zr z.E Za ld rfl (X5) (kr0 rfl)) (qsP (fun z=>ZL (v:=v0_2) z.E Za ld rfl Tg rfl (At.cat (pre:=[[v0_1]]) (z.M.rawAt0) ck) (kr0 rfl)) (qsP (fun z=>Zi z.E Za ld rfl (kr0 rfl)) (qsP (fun z=>ZX z.E Za ld rfl rfl Tryz.underlying23 XQ (z.M.rd hv0_2) hi31.1 (kr0 rfl)) (qsP (fun z=>ZL (v:=u35) z.E Za ld rfl XQ rfl (z.M.atk hA34 (US hv0_2 hi31.2)) (kr0 rfl)) (qsP (fun z=>TS z.E Za ld rfl Tryz.underlying40 (z.M.rd h36) (kr0 rfl)) (qsP (fun z=>Yd z.E Za ld rfl rfl rfl (kr0 rfl)) (qsP (fun z=>Zi z.E Za ld rfl (kr0 rfl)) (qsP (fun z=>Zr z.E (Zj z.E rfl (lkb rfl hb37)) (by decide) rfl (X2) (kr0 rfl)) (qsP (fun z=>ZL (v:=v0_3) z.E (Zj z.E rfl (lkb rfl hb37)) (by decide) rfl U3 rfl (At.cat (pre:=[[v0_1],[v0_2]]) (z.M.rawAt0) ck) (kr0 rfl)) (qsP (fun z=>Zi z.E (Zj z.E rfl (lkb rfl hb37)) (by decide) rfl (kr0 rfl)) (qsP (fun z=>ZX z.E (Zj z.E rfl (lkb rfl hb37)) (by decide) rfl rfl Tryz.underlying24 ty2 (z.M.rd hv0_3) hi41.1 (kr0 rfl)) (qsP (fun z=>ZL (v:=(vI x39)) z.E (Zj z.E rfl (lkb rfl hb37)) (by decide) rfl ty2 rfl (Yl (z.M.rd hv0_3) hi41.2) (kr0 rfl)) (qsP (fun z=>Yd z.E (Zj z.E rfl (lkb rfl hb37)) (by decide) rfl rfl rfl (kr0 rfl)) (qsP (fun z=>Th z.E Za ld (lkb rfl hb37) rfl (kr0 rfl)) (qsP (fun z=>Zi z.E Za ld rfl (kr0 rfl)) (qsP (fun z=>Zr z.E (Zj z.E rfl (lkb rfl hb42)) (by decide) rfl (X2) (kr0 rfl)) (qsP (fun z=>ZL (v:=v0_3) z.E (Zj z.E rfl (lkb rfl hb42)) (by decide) rfl U3 rfl (At.cat (pre:=[[v0_1],[v0_2]]) (z.M.rawAt0) ck) (kr0 rfl)) (qsP (fun z=>Zi z.E (Zj z.E rfl (lkb rfl hb42)) (by decide) rfl (kr0 rfl)) (qsP (fun z=>ZX z.E (Zj z.E rfl (lkb rfl hb42)) (by decide) rfl rfl Tryz.underlying24 ty2 (z.M.rd hv0_3) hi46.1 (kr0 rfl)) (qsP (fun z=>ZL (v:=(vI x44)) z.E (Zj z.E rfl (lkb rfl hb42)) (by decide) rfl ty2 rfl (Yl (z.M.rd hv0_3) hi46.2) (kr0 rfl)) (qsP (fun z=>Yd z.E (Zj z.E rfl (lkb rfl hb42)) (by decide) rfl rfl rfl (kr0 rfl)) (qsP (fun z=>Th z.E Za ld (lkb rfl hb42) rfl (kr0 rfl)) (qsP (fun z=>Zi z.E Za ld rfl (kr0 rfl)) (qsP (fun z=>Zl z.E rfl (lkb rfl hb47) rfl (by decide) (kr0 rfl)) (qsP (fun z=>Zl z.E rfl (lkb rfl hb47) rfl (by decide) (kr0 rfl)) (qsP (fun z=>Zl z.E rfl (lkb rfl hb47) rfl (by decide) (kr0 rfl)) (qsP (fun z=>Zl z.E rfl (lkb rfl hb47) rfl (by decide) (kr0 rfl)) (qsP (fun z=>Zl z.E rfl (lkb rfl hb47) rfl (by decide) (kr0 rfl)) (qsP (fun z=>Zl z.E rfl (lkb rfl hb47) rfl (by decide) (kr0 rfl)) (qsP (fun z=>Zl z.E rfl (lkb rfl hb47) rfl (by decide) (kr0 rfl)) (qsP (fun z=>Zl z.E rfl (lkb rfl hb47) rfl (by decide) (kr0 rfl)) (qsP (fun z=>Zl z.E rfl (lkb rfl hb47) rfl (by decide) (kr0 rfl)) (qsP (fun z=>Zl z.E rfl (lkb rfl hb47) rfl (by decide) (kr0 rfl)) (qsP (fun z=>Zl z.E rfl (lkb rfl hb47) rfl (by decide) (kr0 rfl)) (qsP (fun z=>Zl z.E rfl (lkb rfl hb47) rfl (by decide) (kr0 rfl)) (qsP (fun z=>Tp z.E Za ld (lkb rfl hb47) rfl (kr0 rfl)) qs0))))))))))))))))))))))))))))))))))))) ?_
         ·intro a w u hE hM
          refine Zf ?_
          obtain rfl:=Option.some.inj hl26
          refine Zh ?_
          exact ⟨hE.sub ⟨rfl,rfl,rfl,rfl,trivial⟩,hM⟩
        ·have hl26:=Zt hl26 hb47
         obtain ⟨x49,hi51,hl26⟩:=bix hl26
         obtain ⟨cs52,hs53,hA54⟩:=UO hv0_2 hi51.2 -- ^
         obtain ⟨u55,rfl⟩:=Vx hs53 -- ^
         have h56:=hs53 -- ^
         obtain ⟨r57,e58,hl26⟩:=bind_some hl26
         obtain ⟨x59,hi61,hl26⟩:=bix hl26
         refine ZV [35,36,37,38,39,40,41,42,43,44,45,46,47,48,49,50,51,52,53,54,55,56,57,58,59,60,61,62,63,64,65,66,67,68,69,70,71] Yq rfl rfl (by decide) rfl hE hM (qsP (fun z=>Zr z.E Za ld rfl (X5) (kr0 rfl)) (qsP (fun z=>ZL (v:=v0_2) z.E Za ld rfl Tg rfl (At.cat (pre:=[[v0_1]]) (z.M.rawAt0) ck) (kr0 rfl)) (qsP (fun z=>Zi z.E Za ld rfl (kr0 rfl)) (qsP (fun z=>ZX z.E Za ld rfl rfl Tryz.underlying23 XQ (z.M.rd hv0_2) hi31.1 (kr0 rfl)) (qsP (fun z=>ZL (v:=u35) z.E Za ld rfl XQ rfl (z.M.atk hA34 (US hv0_2 hi31.2)) (kr0 rfl)) (qsP (fun z=>TS z.E Za ld rfl Tryz.underlying40 (z.M.rd h36) (kr0 rfl)) (qsP (fun z=>Yd z.E Za ld rfl rfl rfl (kr0 rfl)) (qsP (fun z=>Zi z.E Za ld rfl (kr0 rfl)) (qsP (fun z=>Zr z.E (Zj z.E rfl (lkb rfl hb37)) (by decide) rfl (X2) (kr0 rfl)) (qsP (fun z=>ZL (v:=v0_3) z.E (Zj z.E rfl (lkb rfl hb37)) (by decide) rfl U3 rfl (At.cat (pre:=[[v0_1],[v0_2]]) (z.M.rawAt0) ck) (kr0 rfl)) (qsP (fun z=>Zi z.E (Zj z.E rfl (lkb rfl hb37)) (by decide) rfl (kr0 rfl)) (qsP (fun z=>ZX z.E (Zj z.E rfl (lkb rfl hb37)) (by decide) rfl rfl Tryz.underlying24 ty2 (z.M.rd hv0_3) hi41.1 (kr0 rfl)) (qsP (fun z=>ZL (v:=(vI x39)) z.E (Zj z.E rfl (lkb rfl hb37)) (by decide) rfl ty2 rfl (Yl (z.M.rd hv0_3) hi41.2) (kr0 rfl)) (qsP (fun z=>Yd z.E (Zj z.E rfl (lkb rfl hb37)) (by decide) rfl rfl rfl (kr0 rfl)) (qsP (fun z=>Th z.E Za ld (lkb rfl hb37) rfl (kr0 rfl)) (qsP (fun z=>Zi z.E Za ld rfl (kr0 rfl)) (qsP (fun z=>Zr z.E (Zj z.E rfl (lkb rfl hb42)) (by decide) rfl (X2) (kr0 rfl)) (qsP (fun z=>ZL (v:=v0_3) z.E (Zj z.E rfl (lkb rfl hb42)) (by decide) rfl U3 rfl (At.cat (pre:=[[v0_1],[v0_2]]) (z.M.rawAt0) ck) (kr0 rfl)) (qsP (fun z=>Zi z.E (Zj z.E rfl (lkb rfl hb42)) (by decide) rfl (kr0 rfl)) (qsP (fun z=>ZX z.E (Zj z.E rfl (lkb rfl hb42)) (by decide) rfl rfl Tryz.underlying24 ty2 (z.M.rd hv0_3) hi46.1 (kr0 rfl)) (qsP (fun z=>ZL (v:=(vI x44)) z.E (Zj z.E rfl (lkb rfl hb42)) (by decide) rfl ty2 rfl (Yl (z.M.rd hv0_3) hi46.2) (kr0 rfl)) (qsP (fun z=>Yd z.E (Zj z.E rfl (lkb rfl hb42)) (by decide) rfl rfl rfl (kr0 rfl)) (qsP (fun z=>Th z.E Za ld (lkb rfl hb42) rfl (kr0 rfl)) (qsP (fun z=>Zi z.E Za ld rfl (kr0 rfl)) (qsP (fun z=>Zr z.E (Zj z.E rfl (lkb rfl hb47)) (by decide) rfl (X5) (kr0 rfl)) (qsP (fun z=>ZL (v:=v0_2) z.E (Zj z.E rfl (lkb rfl hb47)) (by decide) rfl Tg rfl (At.cat (pre:=[[v0_1]]) (z.M.rawAt0) ck) (kr0 rfl)) (qsP (fun z=>Zi z.E (Zj z.E rfl (lkb rfl hb47)) (by decide) rfl (kr0 rfl)) (qsP (fun z=>ZX z.E (Zj z.E rfl (lkb rfl hb47)) (by decide) rfl rfl Tryz.underlying23 XQ (z.M.rd hv0_2) hi51.1 (kr0 rfl)) (qsP (fun z=>ZL (v:=u55) z.E (Zj z.E rfl (lkb rfl hb47)) (by decide) rfl XQ rfl (z.M.atk hA54 (US hv0_2 hi51.2)) (kr0 rfl)) (qsP (fun z=>Yg z.E (Zj z.E rfl (lkb rfl hb47)) (by decide) rfl (cbm Tryz.func63) (Jj _ x49 u55 (z.M.rdo h56) r57 e58) (kc rfl)) (qsP (fun z=>Zr z.E (Zj z.E rfl (lkb rfl hb47)) (by decide) rfl (X1) (kr0 rfl)) (qsP (fun z=>ZL (v:=v0_1) z.E (Zj z.E rfl (lkb rfl hb47)) (by decide) rfl Tu rfl (At.cat (pre:=[]) (z.M.rawAt0) cl0) (kr0 rfl)) (qsP (fun z=>Zi z.E (Zj z.E rfl (lkb rfl hb47)) (by decide) rfl (kr0 rfl)) (qsP (fun z=>ZX z.E (Zj z.E rfl (lkb rfl hb47)) (by decide) rfl rfl Tryz.underlying29 Z3 (z.M.rd hv0_1) hi61.1 (kr0 rfl)) (qsP (fun z=>Z0 z.E (Zj z.E rfl (lkb rfl hb47)) (by decide) rfl Z3 rfl (Yl (z.M.rd hv0_1) hi61.2) (Flat.len _) (kr0 rfl)) (qsP (fun z=>s_neA z.E (Zj z.E rfl (lkb rfl hb47)) (by decide) rfl rfl (HI Tryz.underlying35 ty5 rfl false rfl (by decide) (JJ Tryz.underlying5)) (by decide) (by kernel_rfl) (kr0 rfl)) (qsP (fun z=>Th z.E Za ld (lkb rfl hb47) rfl (kr0 rfl)) qs0))))))))))))))))))))))))))))))))))))) ?_
         ·intro a w u hE hM
          refine Zf ?_
          obtain rfl:=Option.some.inj hl26
          refine Zh ?_
          exact ⟨hE.sub ⟨rfl,rfl,rfl,rfl,trivial⟩,hM⟩
     ·skip
      rintro a w ⟨hE,hM⟩
      refine Zo hE rfl ?_ ?_
      ·intro hb63
       have hF27:=Zs hF27 hb63
       refine Zb (Zc hE rfl fun a hE=>Ze ?_)
       obtain rfl:=hx22 _ (ois hF27)
       obtain rfl:=Option.some.inj hF18
       exact wp_ret (XW (Zx (Zx (XW (Zx (Zx (kr1 hE rfl rfl hM.kept)))))))
      ·intro hb63
       have hF27:=Zt hF27 hb63
       refine wp_skip (Yc (Zp (wp_region_lit (Zd hE rfl fun a hE=>Zg hE rfl rfl rfl fun a hE=>Zc hE rfl fun a hE=>Zf (Zh ?_)))))
       exact ⟨_,(ois hF27),hE.sub ⟨rfl,rfl,rfl,trivial⟩,hM⟩
    ·intro hb24
     have hs21:=Zt hs21 hb24
     refine wp_exit (Zm (Zm (Yb ?_)))
     obtain rfl:=hx22 _ (ois hs21)
     refine Zh ?_
     have hM:=M.fst (l:=[]) hM
     exact ⟨(),rfl,hE.sub trivial,hM⟩
   ·skip
    rintro a w ⟨s19,ht,hE,hM⟩
    subst ht
    have hF18:=Tw hF18
    refine Zp (Zb (Zc hE rfl fun a hE=>Ze ?_))
    obtain rfl:=Option.some.inj hF18
    exact wp_ret (kr1 hE rfl rfl hM.kept)
def Wl (p0 : (List (Vector UInt8 32))) (p1 : (Vector UInt8 32)) (s6 : Int × Int) : Option (Fl (Int × Int) Int) :=
 if (decide (s6.2 < (p0.length : Int))) = true then ((((idx p0 s6.2).bind fun x18=>(WI x18 p1).bind fun r21=>some r21 : Option (Bool)).bind fun j14=>(if j14 = true then (some (wr (s6.1 + 1))) else (some s6.1) : Option (Int)).bind fun j24=>some j24 : Option (Int)).bind fun j11=>some (Fl.nx (j11,wr (s6.2 + 1)))) else (some (Fl.ex s6.1))
def VL (p0 : (List (Vector UInt8 32))) (p1 : (Vector UInt8 32)) : Option (Int) :=
 (Zz (Wl p0 p1) (0,0)).bind fun j3=>some j3
theorem Hc (w0 : World) (p0 : (List (Vector UInt8 32))) (v0_1 : Value) (hv0_1 : Ro w0 p0 [v0_1]) (p1 : (Vector UInt8 32)) (r : Int) (hF : VL p0 p1 = some r) :
  Calls Tryz.prog 64 [v0_1,(Value.agg (enc p1).toArray)].toArray w0 (Rt w0 (vI r)):=by
 refine ce Tryz.func64 ?_
 intro a hE
 have hM:=M.start w0
 unfold VL at hF
 refine Zb (ZZ (cs:=enc p1) hE hM Za ld rfl rfl fun b1 w a hM hE=>Zc hE rfl fun a hE=>Ze (Zb (Zc hE rfl fun a hE=>Ze (wp_seq (Zb (Zc hE rfl fun a hE=>Ze ?_))))))
 obtain ⟨j3,hl4,hF5⟩:=bind_some hF
 refine ZM (fun a w=>Env 22 a [(5,vI j3)] ∧ M (Old w0) w0 w []) ?_ ?_
 ·skip
  refine wp_block ?_
  refine ZE (fun (s6 : Int × Int) a w=>Env 22 a [(0,v0_1),(3,(ptr b1 0)),(5,vI s6.1),(6,vI s6.2)] ∧ M (Old w0) w0 w [raw b1 (enc p1)]) hl4 ⟨hE.sub ⟨rfl,rfl,rfl,rfl,trivial⟩,hM⟩ ?_
  rintro s6 a w ⟨hE,hM⟩ o9 hs7 hx8
  unfold Wl at hs7
  refine wp_seq (Zb (Zd hE rfl fun a hE=>Zd hE rfl fun a hE=>Z7 hE rfl Tryz.underlying29 (hM.rd hv0_1) fun a hE=>Zg hE rfl rfl rfl fun a hE=>Ze ?_))
  refine Zo hE rfl ?_ ?_
  ·intro hb10
   have hs7:=Zs hs7 hb10
   refine wp_skip (Zp ?_)
   obtain ⟨j11,hl12,hF13⟩:=bind_some hs7
   refine ZK (fun a w=>Env 22 a [(0,v0_1),(3,(ptr b1 0)),(5,vI j11),(6,vI s6.2)] ∧ M (Old w0) w0 w [raw b1 (enc p1)]) ?_ ?_
   ·skip
    refine wp_block ?_
    obtain ⟨j14,hl15,hF16⟩:=bind_some hl12
    refine ZK (fun a w=>Env 22 a [(0,v0_1),(3,(ptr b1 0)),(5,vI s6.1),(6,vI s6.2),(18,vT j14)] ∧ M (Old w0) w0 w [raw b1 (enc p1)]) ?_ ?_
    ·skip
     obtain ⟨x18,hi20,hl15⟩:=bix hl15
     obtain ⟨r21,e22,hl15⟩:=bind_some hl15
     refine ZV [13,14,15,16,17,18] Yq rfl rfl (by decide) rfl hE hM (qsP (fun z=>Zi z.E Za ld rfl (kr0 rfl)) (qsP (fun z=>Zi z.E Za ld rfl (kr0 rfl)) (qsP (fun z=>ZX z.E Za ld rfl rfl Tryz.underlying29 Z3 (z.M.rd hv0_1) hi20.1 (kr0 rfl)) (qsP (fun z=>Z0 z.E Za ld rfl Z3 rfl (Yl (z.M.rd hv0_1) hi20.2) (Flat.len _) (kr0 rfl)) (qsP (fun z=>Z0 z.E Za ld rfl Z3 rfl (z.M.rawAt0) (Flat.len _) (kr0 rfl)) (qsP (fun z=>Yg z.E Za ld rfl (cbm Tryz.func126) (QR _ x18 p1 r21 e22) (kc rfl)) qs0)))))) ?_
     ·intro a w u hE hM
      refine Zf ?_
      obtain rfl:=Option.some.inj hl15
      refine Zh ?_
      exact ⟨hE.sub ⟨rfl,rfl,rfl,rfl,rfl,trivial⟩,hM⟩
    ·skip
     rintro a w ⟨hE,hM⟩
     obtain ⟨j24,hl25,hF26⟩:=bind_some hF16
     refine ZM (fun a w=>Env 22 a [(0,v0_1),(3,(ptr b1 0)),(5,vI j24),(6,vI s6.2)] ∧ M (Old w0) w0 w [raw b1 (enc p1)]) ?_ ?_
     ·skip
      refine Zo hE rfl ?_ ?_
      ·intro hb27
       have hl25:=Zs hl25 hb27
       refine wp_region_lit (Zd hE rfl fun a hE=>Zg hE rfl rfl rfl fun a hE=>Zc hE rfl fun a hE=>Zf ?_)
       obtain rfl:=Option.some.inj hl25
       refine Zh ?_
       exact ⟨hE.sub ⟨rfl,rfl,rfl,rfl,trivial⟩,hM⟩
      ·intro hb27
       have hl25:=Zt hl25 hb27
       refine wp_skip ?_
       obtain rfl:=Option.some.inj hl25
       refine Zh ?_
       exact ⟨hE.sub ⟨rfl,rfl,rfl,rfl,trivial⟩,hM⟩
     ·skip
      rintro a w ⟨hE,hM⟩
      refine Yc ?_
      obtain rfl:=Option.some.inj hF26
      refine Zh ?_
      exact ⟨hE.sub ⟨rfl,rfl,rfl,rfl,trivial⟩,hM⟩
   ·skip
    rintro a w ⟨hE,hM⟩
    refine wp_region_lit (Zd hE rfl fun a hE=>Zg hE rfl rfl rfl fun a hE=>Zc hE rfl fun a hE=>Zf (Zh ?_))
    exact ⟨_,(ois hF13),hE.sub ⟨rfl,rfl,rfl,rfl,trivial⟩,hM⟩
  ·intro hb10
   have hs7:=Zt hs7 hb10
   refine wp_exit (Zm (Zm (Yb ?_)))
   obtain rfl:=hx8 _ (ois hs7)
   refine Zh ?_
   have hM:=M.fst (l:=[]) hM
   exact ⟨hE.sub ⟨rfl,trivial⟩,hM⟩
 ·skip
  rintro a w ⟨hE,hM⟩
  refine Zp (Zb (Zd hE rfl fun a hE=>Zc hE rfl fun a hE=>Ze ?_))
  obtain rfl:=Option.some.inj hF5
  exact wp_ret (kr1 hE rfl rfl hM.kept)
def Uh (p0 : GBlobs) (p1 : (Vector UInt8 32)) : Option (Int) :=
 (VL p0.Keys p1).bind fun r5=>(if (decide (r5 < (p0.Keys.length : Int))) = true then ((idx p0.Keys r5).bind fun x12=>some (decide (x12 = p1))) else (some false) : Option (Bool)).bind fun j7=>if j7 = true then (some r5) else (some (-1))
theorem Bk (w0 : World) (p0 : GBlobs) (v0_1 : Value) (hv0_1 : Ro w0 p0.Keys [v0_1]) (v0_2 : Value) (hv0_2 : Ro w0 p0.Data [v0_2]) (v0_3 : Value) (hv0_3 : Ro w0 p0.Counts [v0_3]) (p1 : (Vector UInt8 32)) (r : Int) (hF : Uh p0 p1 = some r) :
  Calls Tryz.prog 44 [(Value.agg (cat [[v0_1],[v0_2],[v0_3]]).toArray),(Value.agg (enc p1).toArray)].toArray w0 (Rt w0 (vI r)):=by
 refine ce Tryz.func44 ?_
 intro a hE
 have hM:=M.start w0
 unfold Uh at hF
 refine Zb (ZZ (cs:=cat [[v0_1],[v0_2],[v0_3]]) hE hM Za ld rfl rfl fun b1 w a hM hE=>ZZ (cs:=enc p1) hE hM Za ld rfl rfl fun b3 w a hM hE=>Zc hE rfl fun a hE=>Ze (Zb (Zw hE rfl (X1) fun a hE=>ZA (v:=v0_1) hE rfl Tu rfl (At.cat (pre:=[]) hM.rawAt1 cl0) fun a hE=>Zq hE rfl Z3 rfl hM.rawAt0 (Flat.len _) ?_))); intro a hE
 obtain ⟨r5,e6,hF⟩:=bind_some hF
 refine Zy hE rfl (cbm Tryz.func64) (Hc _ p0.Keys v0_1 (hM.rdo hv0_1) p1 r5 e6) ?_
 rintro v w a ⟨rfl,hK⟩ hE
 have hM:=hM.keep hK
 refine Zc hE rfl fun a hE=>Ze (wp_seq ?_)
 obtain ⟨j7,hl8,hF9⟩:=bind_some hF
 refine ZK (fun a w=>Env 25 a [(5,vI r5),(23,vT j7)] ∧ M (Old w0) w0 w []) ?_ ?_
 ·skip
  refine Vs (decide (r5 < (p0.Keys.length : Int))) (fun hb11=>?_) (fun hb11=>?_)
  ·have hl8:=Zs hl8 hb11
   obtain ⟨x12,hi14,hl8⟩:=bix hl8
   refine ZV [10,11,12,13,14,15,16,17,18,19,20,21,22,23] Yq rfl rfl (by decide) rfl hE hM (qsP (fun z=>Zi z.E Za ld rfl (kr0 rfl)) (qsP (fun z=>Zr z.E Za ld rfl (X1) (kr0 rfl)) (qsP (fun z=>ZL (v:=v0_1) z.E Za ld rfl Tu rfl (At.cat (pre:=[]) (z.M.rawAt1) cl0) (kr0 rfl)) (qsP (fun z=>TS z.E Za ld rfl Tryz.underlying29 (z.M.rd hv0_1) (kr0 rfl)) (qsP (fun z=>Yd z.E Za ld rfl rfl rfl (kr0 rfl)) (qsP (fun z=>Zi z.E Za ld rfl (kr0 rfl)) (qsP (fun z=>Zr z.E (Zj z.E rfl (lkb rfl hb11)) (by decide) rfl (X1) (kr0 rfl)) (qsP (fun z=>ZL (v:=v0_1) z.E (Zj z.E rfl (lkb rfl hb11)) (by decide) rfl Tu rfl (At.cat (pre:=[]) (z.M.rawAt1) cl0) (kr0 rfl)) (qsP (fun z=>Zi z.E (Zj z.E rfl (lkb rfl hb11)) (by decide) rfl (kr0 rfl)) (qsP (fun z=>ZX z.E (Zj z.E rfl (lkb rfl hb11)) (by decide) rfl rfl Tryz.underlying29 Z3 (z.M.rd hv0_1) hi14.1 (kr0 rfl)) (qsP (fun z=>Z0 z.E (Zj z.E rfl (lkb rfl hb11)) (by decide) rfl Z3 rfl (Yl (z.M.rd hv0_1) hi14.2) (Flat.len _) (kr0 rfl)) (qsP (fun z=>Z0 z.E (Zj z.E rfl (lkb rfl hb11)) (by decide) rfl Z3 rfl (z.M.rawAt0) (Flat.len _) (kr0 rfl)) (qsP (fun z=>s_eqA z.E (Zj z.E rfl (lkb rfl hb11)) (by decide) rfl rfl (HI Tryz.underlying35 ty5 rfl false rfl (by decide) (JJ Tryz.underlying5)) (by decide) (by kernel_rfl) (kr0 rfl)) (qsP (fun z=>Tp z.E Za ld (lkb rfl hb11) rfl (kr0 rfl)) qs0)))))))))))))) ?_
   ·intro a w u hE hM
    refine Zf ?_
    obtain rfl:=Option.some.inj hl8
    refine Zh ?_
    have hM:=M.fst (l:=[]) hM
    exact ⟨hE.sub ⟨rfl,rfl,trivial⟩,hM⟩
  ·have hl8:=Zt hl8 hb11
   refine ZV [10,11,12,13,14,15,16,17,18,19,20,21,22,23] Yq rfl rfl (by decide) rfl hE hM (qsP (fun z=>Zi z.E Za ld rfl (kr0 rfl)) (qsP (fun z=>Zr z.E Za ld rfl (X1) (kr0 rfl)) (qsP (fun z=>ZL (v:=v0_1) z.E Za ld rfl Tu rfl (At.cat (pre:=[]) (z.M.rawAt1) cl0) (kr0 rfl)) (qsP (fun z=>TS z.E Za ld rfl Tryz.underlying29 (z.M.rd hv0_1) (kr0 rfl)) (qsP (fun z=>Yd z.E Za ld rfl rfl rfl (kr0 rfl)) (qsP (fun z=>Zi z.E Za ld rfl (kr0 rfl)) (qsP (fun z=>Zl z.E rfl (lkb rfl hb11) rfl (by decide) (kr0 rfl)) (qsP (fun z=>Zl z.E rfl (lkb rfl hb11) rfl (by decide) (kr0 rfl)) (qsP (fun z=>Zl z.E rfl (lkb rfl hb11) rfl (by decide) (kr0 rfl)) (qsP (fun z=>Zl z.E rfl (lkb rfl hb11) rfl (by decide) (kr0 rfl)) (qsP (fun z=>Zl z.E rfl (lkb rfl hb11) rfl (by decide) (kr0 rfl)) (qsP (fun z=>Zl z.E rfl (lkb rfl hb11) rfl (by decide) (kr0 rfl)) (qsP (fun z=>Zl z.E rfl (lkb rfl hb11) rfl (by decide) (kr0 rfl)) (qsP (fun z=>Th z.E Za ld (lkb rfl hb11) rfl (kr0 rfl)) qs0)))))))))))))) ?_
   ·intro a w u hE hM
    refine Zf ?_
    obtain rfl:=Option.some.inj hl8
    refine Zh ?_
    have hM:=M.fst (l:=[]) hM
    exact ⟨hE.sub ⟨rfl,rfl,trivial⟩,hM⟩
 ·skip
  rintro a w ⟨hE,hM⟩
  refine Zo hE rfl ?_ ?_
  ·intro hb17
   have hF9:=Zs hF9 hb17
   refine Zb (Zd hE rfl fun a hE=>Zc hE rfl fun a hE=>Ze ?_)
   obtain rfl:=Option.some.inj hF9
   exact wp_ret (Zx (kr1 hE rfl rfl hM.kept))
  ·intro hb17
   have hF9:=Zt hF9 hb17
   refine wp_skip (Zp (Zb (Zc hE rfl fun a hE=>Ze ?_)))
   obtain rfl:=Option.some.inj hF9
   exact wp_ret (kr1 hE rfl rfl hM.kept)
def Tr (p0 : (List Int)) : Option ((List Int)) :=
 (app 8 ([] : List Int) p0).bind fun l3=>some (([] : List Int) ++ p0)
theorem Bv (w0 : World) (p0 : (List Int)) (v0_1 : Value) (hv0_1 : Ro w0 p0 [v0_1]) (r : (List Int)) (hF : Tr p0 = some r) :
  Calls Tryz.prog 119 [v0_1].toArray w0 (fun en w'=>∃ v,en = .returned v ∧ (∃ (y1 : Value),v = y1 ∧ Fr w0 w' [osl NoB (r : List Int) y1] ∧ Kept (Old w0) w0 w')):=by
 refine ce Tryz.func119 ?_
 intro a hE
 have hM:=M.start w0
 unfold Tr at hF
 refine Zb (Zc hE rfl fun a hE=>Ze (Zb (Yr (xs:=[]) (l:=([] : List Int)) (vs:=[]) hE hM Za ld rfl rfl Tryz.underlying24 ty2 rfl (by decide) rfl fun u1 w a hM hE=>Zd hE rfl ?_))); intro a hE
 obtain ⟨l3,e4,hF⟩:=bind_some hF
 have e7:=(Yo e4).1
 refine Yi hE hM Za ld rfl rfl (hM.rd hv0_1) Tryz.underlying24 ty2 rfl (by decide) e7 fun u5 w a hM hE=>Zc hE rfl fun a hE=>Ze ?_
 obtain rfl:=Option.some.inj hF
 exact wp_ret (ZP hE rfl (ZR hE rfl) ⟨_,rfl,u5,rfl,hM.outF (Yu XD),hM.kept⟩)
def V6 (p0 : GBlobs) (s25 : (List (List UInt8)) × Int) : Option (Fl ((List (List UInt8)) × Int) (List (List UInt8))) :=
 if (decide (s25.2 < (p0.Data.length : Int))) = true then ((idx p0.Data s25.2).bind fun x34=>(Vi x34).bind fun r42=>(app 24 s25.1 ([r42] : List (List UInt8))).bind fun l48=>some (Fl.nx ((s25.1 ++ ([r42] : List (List UInt8))),wr (s25.2 + 1)))) else (some (Fl.ex s25.1))
def UK (p0 : GBlobs) : Option (GBlobs) :=
 (app 32 ([] : List (Vector UInt8 32)) p0.Keys).bind fun l8=>(Tr p0.Counts).bind fun r13=>(Zz (V6 p0) ([],0)).bind fun j20=>some (⟨(([] : List (Vector UInt8 32)) ++ p0.Keys),j20,r13⟩ : GBlobs)
theorem Bx (w0 : World) (p0 : GBlobs) (v0_1 : Value) (hv0_1 : Ro w0 p0.Keys [v0_1]) (v0_2 : Value) (hv0_2 : Ro w0 p0.Data [v0_2]) (v0_3 : Value) (hv0_3 : Ro w0 p0.Counts [v0_3]) (r : GBlobs) (hF : UK p0 = some r) :
  Calls Tryz.prog 45 [(Value.agg (cat [[v0_1],[v0_2],[v0_3]]).toArray)].toArray w0 (fun en w'=>∃ v,en = .returned v ∧ (∃ (y1 : Value) (y2 : Value) (y3 : Value),v = (Value.agg (cat [[y1],[y2],[y3]]).toArray) ∧ Fr w0 w' [osl NoB (r.Keys : List (Vector UInt8 32)) y1,osl NoB (r.Data : List (List UInt8)) y2,osl NoB (r.Counts : List Int) y3] ∧ Kept (Old w0) w0 w')):=by
 refine ce Tryz.func45 ?_
 intro a hE
 have hM:=M.start w0
 unfold UK at hF
 refine Zb (ZZ (cs:=cat [[v0_1],[v0_2],[v0_3]]) hE hM Za ld rfl rfl fun b1 w a hM hE=>ZC hE hM Yy fun b3 w a hM hE=>Ze (wp_seq ?_))
 obtain ⟨l8,e9,hF⟩:=bind_some hF
 obtain ⟨r13,e14,hF⟩:=bind_some hF
 refine Yv (its:=[raw b3 (cat [[(Value.slice none 0 0)],[(Value.slice none 0 0)],[(Value.slice none 0 0)]]),raw b1 (cat [[v0_1],[v0_2],[v0_3]])]) (mk:=([mkN [(3,fun v=>osl NoB ((([] : List (Vector UInt8 32)) ++ p0.Keys) : List (Vector UInt8 32)) v),(0,fun v=>osl NoB (([] : List (Vector UInt8 32)) : List (Vector UInt8 32)) v)],mkO 6 (fun v=>osl NoB (r13 : List Int) v),mkO 8 (fun v=>UR v (cat [[(Value.slice none 0 0)],[(Value.slice none 0 0)],[(Value.slice none 0 0)]]))] : Mk)) [5,6,7,8,9,10,11,12,3] Yq rfl rfl (by decide) rfl hE (fun u=>M.qE (M.qE (M.qE (M.q0 hM.drew u) emO) emO) emN) (qsM (pr:=fun v=>True) ?_ (qsP (fun z=>Zr z.E Za ld rfl (X1) (kr0 rfl)) (qsP (v:=v0_1) ?_ (qsM (pr:=fun v=>True) ?_ (qsP (fun z=>Zr z.E Za ld rfl (X2) (kr0 rfl)) (qsP (v:=v0_3) ?_ (qsM (pr:=fun v=>True) ?_ (qsD (ds:=[3,6]) (f:=fun us=>(Value.agg (cat [[(us.getD 0 undef)],[(Value.slice none 0 0)],[(us.getD 1 undef)]]).toArray)) ?_ (qsM (pr:=fun v=>True) ?_ qs0))))))))) ?_
 ·intro a w ux5 D z
  have hE:=z.E
  have hD : D 0 = false:=z.F
  have hM:=z.M
  refine Yr (xs:=[]) (l:=([] : List (Vector UInt8 32))) (vs:=[]) hE hM Za ld rfl rfl Tryz.underlying29 Z3 rfl (by decide) rfl ?_; intro u6 w a hM hE
  have hq3 : D 3 = false:=QE (j:=3) (k:=0) z.c rfl rfl rfl hD
  exact ⟨_,_,rfl,hE,M.qPut (p:=mkN [(3,fun v=>osl NoB ((([] : List (Vector UInt8 32)) ++ p0.Keys) : List (Vector UInt8 32)) v),(0,fun v=>osl NoB (([] : List (Vector UInt8 32)) : List (Vector UInt8 32)) v)]) (its:=[raw b3 (cat [[(Value.slice none 0 0)],[(Value.slice none 0 0)],[(Value.slice none 0 0)]]),raw b1 (cat [[v0_1],[v0_2],[v0_3]])]) (mk1:=[]) (mk2:=[_,_]) hM rfl (Q3 (QF hq3 (QF hD QJ))) (TA (l:=[_]) (QF hq3 QJ)),trivial⟩
 ·intro a w ux5 D z
  have hE:=z.E
  have hM:=z.M
  exact ZA (v:=v0_1) hE rfl Tu rfl (At.cat (pre:=[]) hM.rawAt1 cl0) fun a hE=>⟨Kept.refl _ _,_,rfl,hE⟩
 ·intro a w ux5 D z
  have hE:=z.E
  have hD : D 3 = false:=z.F
  have d0 : D 0 = true:=z.p 0 _ rfl rfl
  have hM:=(z.M.chnF (pre:=[_,_]) hD).chnT (pre:=[_,_]) d0
  obtain ⟨e12,rfl⟩:=Yo e9
  have hM:=hM.pull2
  exact Yi hE hM Za ld rfl rfl (hM.rd hv0_1) Tryz.underlying29 Z3 rfl (by decide) e12 fun u10 w a hM hE=>⟨_,_,rfl,hE,M.qTogS (p:=mkN [(3,fun v=>osl NoB ((([] : List (Vector UInt8 32)) ++ p0.Keys) : List (Vector UInt8 32)) v),(0,fun v=>osl NoB (([] : List (Vector UInt8 32)) : List (Vector UInt8 32)) v)]) (its:=[raw b3 (cat [[(Value.slice none 0 0)],[(Value.slice none 0 0)],[(Value.slice none 0 0)]]),raw b1 (cat [[v0_1],[v0_2],[v0_3]])]) (mk1:=[]) (mk2:=[_,_]) hM rfl (TA (l:=[]) QJ),trivial⟩
 ·intro a w ux5 D z
  have hE:=z.E
  have hM:=z.M
  exact ZA (v:=v0_3) hE rfl U3 rfl (At.cat (pre:=[[v0_1],[v0_2]]) hM.rawAt1 ck) fun a hE=>⟨Kept.refl _ _,_,rfl,hE⟩
 ·intro a w ux5 D z
  have hE:=z.E
  have hD : D 6 = false:=z.F
  have hM0:=z.M
  have hM:=z.M
  refine Zy hE rfl (cbm Tryz.func119) (Bv _ p0.Counts v0_3 (hM.rdo hv0_3) r13 e14) ?_
  rintro _ w a ⟨_,rfl,hFr,hK⟩ hE
  have hM:=hM0.add hK hFr
  exact ⟨_,_,rfl,hE,M.qFill (mk1:=[_]) (mk2:=[_]) (f:=(fun v=>osl NoB (r13 : List Int) v)) hM rfl hD,trivial⟩
 ·intro a w ux5 D z
  have hE:=z.E
  have d3 : D 3 = true:=z.p 0 _ rfl rfl
  have d6 : D 6 = true:=z.p 1 _ rfl rfl
  have hM:=(z.M.chnT (pre:=[_,_]) d3).sure (pre:=[_,_,_]) d6
  exact VB (parts:=[(0,.tmp 8),(2,.tmp 11)]) (vs:=[(0,(ux5 3)),(2,(ux5 6))]) (cs:=cat [[(ux5 3)],[(Value.slice none 0 0)],[(ux5 6)]]) hE Za ld rfl rfl Yy pl31 (Xh (pre:=[]) (seg:=[(Value.slice none 0 0)]) (seg':=[(ux5 3)]) (post:=[[(Value.slice none 0 0)],[(Value.slice none 0 0)]]) rfl cl0 rfl rfl (YS (hM.sl (pre:=[_,_]) noB)) (Xh (pre:=[[(ux5 3)],[(Value.slice none 0 0)]]) (seg:=[(Value.slice none 0 0)]) (seg':=[(ux5 6)]) (post:=[]) rfl ck rfl rfl (YS (hM.sl (pre:=[_,_,_]) noB)) U6)) fun a hE=>⟨Kept.refl _ _,(BE d3 (BE d6 AX)),_,rfl,hE⟩
 ·intro a w ux5 D z
  have hE:=z.E
  have hD : D 8 = false:=z.F
  have hM:=z.M
  refine ZC hE hM Yy ?_; intro b16 w a hM hE
  have hM:=hM.pack1 (it:=UR _ (cat [[(Value.slice none 0 0)],[(Value.slice none 0 0)],[(Value.slice none 0 0)]])) (fun w w' fp ⟨b',e,k⟩ hb=>⟨b',e,Y9 w w' fp k hb⟩) (fun fp k=>⟨_,rfl,k⟩)
  exact ⟨_,_,rfl,hE,M.qFill (mk1:=[_,_]) (mk2:=[]) (f:=fun v=>UR v (cat [[(Value.slice none 0 0)],[(Value.slice none 0 0)],[(Value.slice none 0 0)]])) hM rfl hD,trivial⟩
 ·intro a w ux5 D hE hM hG hall
  have d3:=hall 3 (by decide)
  have d6:=hall 6 (by decide)
  have d8:=hall 8 (by decide)
  have hM:=(((hM.chnT (pre:=[_,_]) d3).sure (pre:=[_,_,_]) d6).sure (pre:=[_,_,_,_]) d8).pull
  obtain ⟨_,⟨b18,f19,_⟩,_⟩:=hM.head
  have hM:=hM.pack1 Y9 (it:=raw b18 (cat [[(Value.slice none 0 0)],[(Value.slice none 0 0)],[(Value.slice none 0 0)]])) (fun fp ⟨b2,e2,k2⟩=>by rw [f19] at e2; simp [ptr] at e2; subst e2; exact k2)
  have hE:=hE.setq (t:=3) rfl f19
  refine Zn (seg:=cat [[(ux5 3)],[(Value.slice none 0 0)],[(ux5 6)]]) (cs':=cat [[(ux5 3)],[(Value.slice none 0 0)],[(ux5 6)]]) hE hM Za rfl rfl rfl Yy cq (Nat.le_of_eq ((Nat.zero_add _).trans (Eq.trans cq (Eq.symm cq)))) (YC (cc1 (Rep.cell (hM.sl (pre:=[_,_,_]) noB)) (cc1 Ta (cc1 (Rep.cell (hM.sl (pre:=[_,_,_,_]) noB)) cc0)))) (Zk (Eq.trans cq (Eq.symm cq))) fun w a hM hE=>Zf (Zp (wp_seq (Zb (Zc hE rfl fun a hE=>Ze ?_))))
  obtain ⟨j20,hl21,hF22⟩:=bind_some hF
  refine ZM (fun a w=>∃ (u23 : Value),Env 32 a [(2,(ptr b3 0)),(3,(ptr b18 0))] ∧ M (Old w0) w0 w [raw b18 (cat [[(ux5 3)],[u23],[(ux5 6)]]),raw b3 (cat [[(Value.slice none 0 0)],[(Value.slice none 0 0)],[(Value.slice none 0 0)]]),osl NoB ((([] : List (Vector UInt8 32)) ++ p0.Keys) : List (Vector UInt8 32)) (ux5 3),osl NoB (r13 : List Int) (ux5 6),osl NoB (j20 : List (List UInt8)) u23]) ?_ ?_
  ·skip
   refine wp_block ?_
   have hM:=(((((M.nilS (α:=(List UInt8)) NoB noB hM).pull5).pull5).pull5).pull5).pull5
   refine ZE (fun (s25 : (List (List UInt8)) × Int) a w=>∃ (u26 : Value),Env 32 a [(1,(ptr b1 0)),(2,(ptr b3 0)),(3,(ptr b18 0)),(4,vI s25.2)] ∧ M (Old w0) w0 w [raw b18 (cat [[(ux5 3)],[u26],[(ux5 6)]]),raw b3 (cat [[(Value.slice none 0 0)],[(Value.slice none 0 0)],[(Value.slice none 0 0)]]),raw b1 (cat [[v0_1],[v0_2],[v0_3]]),osl NoB ((([] : List (Vector UInt8 32)) ++ p0.Keys) : List (Vector UInt8 32)) (ux5 3),osl NoB (r13 : List Int) (ux5 6),osl NoB (s25.1 : List (List UInt8)) u26]) hl21 ⟨(Value.slice none 0 0),hE.sub ⟨rfl,rfl,rfl,rfl,trivial⟩,hM⟩ ?_
   rintro s25 a w ⟨u26,hE,hM⟩ o30 hs28 hx29
   unfold V6 at hs28
   refine wp_seq (Zb (Zd hE rfl fun a hE=>Zw hE rfl (X5) fun a hE=>ZA (v:=v0_2) hE rfl Tg rfl (At.cat (pre:=[[v0_1]]) hM.rawAt2 ck) fun a hE=>Z7 hE rfl Tryz.underlying23 (hM.rd hv0_2) fun a hE=>Zg hE rfl rfl rfl fun a hE=>Ze ?_))
   refine Zo hE rfl ?_ ?_
   ·intro hb32
    have hs28:=Zs hs28 hb32
    refine wp_skip (Zp (wp_seq (wp_block ?_)))
    obtain ⟨x34,hi36,hs28⟩:=bix hs28
    obtain ⟨cs37,hs38,hA39⟩:=UO hv0_2 hi36.2 -- ^
    obtain ⟨u40,rfl⟩:=Vx hs38 -- ^
    have h41:=hs38 -- ^
    obtain ⟨r42,e43,hs28⟩:=bind_some hs28
    refine Yv (its:=[raw b18 (cat [[(ux5 3)],[u26],[(ux5 6)]]),raw b3 (cat [[(Value.slice none 0 0)],[(Value.slice none 0 0)],[(Value.slice none 0 0)]]),raw b1 (cat [[v0_1],[v0_2],[v0_3]]),osl NoB ((([] : List (Vector UInt8 32)) ++ p0.Keys) : List (Vector UInt8 32)) (ux5 3),osl NoB (r13 : List Int) (ux5 6),osl NoB (s25.1 : List (List UInt8)) u26]) (mk:=([mkN [(8,fun v=>osl NoB (([r42] : List (List UInt8)) : List (List UInt8)) v),(7,fun v=>osl NoB (r42 : List UInt8) v)]] : Mk)) [20,21,22,23,24,25,26,27,28] Yq rfl rfl (by decide) rfl hE (fun u=>M.qE (M.q0 hM.drew u) emN) (qsP (fun z=>Zr z.E Za ld rfl (X5) (kr0 rfl)) (qsP (v:=u26) ?_ (qsP (fun z=>Zr z.E Za ld rfl (X5) (kr0 rfl)) (qsP (v:=v0_2) ?_ (qsP (fun z=>Zi z.E Za ld rfl (kr0 rfl)) (qsP (v:=(ptr (sb v0_2) (so v0_2 + (s25.2).toNat * 1))) ?_ (qsP (v:=u40) ?_ (qsM (pr:=fun v=>True) ?_ (qsM (pr:=fun v=>True) ?_ qs0))))))))) ?_
    ·intro a w ux33 D z
     have hE:=z.E
     have hM:=z.M
     exact ZA (v:=u26) hE rfl Tg rfl (At.cat (pre:=[[(ux5 3)]]) hM.rawAt0 ck) fun a hE=>⟨Kept.refl _ _,_,rfl,hE⟩
    ·intro a w ux33 D z
     have hE:=z.E
     have hM:=z.M
     exact ZA (v:=v0_2) hE rfl Tg rfl (At.cat (pre:=[[v0_1]]) hM.rawAt2 ck) fun a hE=>⟨Kept.refl _ _,_,rfl,hE⟩
    ·intro a w ux33 D z
     have hE:=z.E
     have hM:=z.M
     exact Z9 hE rfl rfl Tryz.underlying23 XQ (hM.rd hv0_2) hi36.1 fun a hE=>⟨Kept.refl _ _,_,rfl,hE⟩
    ·intro a w ux33 D z
     have hE:=z.E
     have hM:=z.M
     exact ZA (v:=u40) hE rfl XQ rfl (hM.atk hA39 (US hv0_2 hi36.2)) fun a hE=>⟨Kept.refl _ _,_,rfl,hE⟩
    ·intro a w ux33 D z
     have hE:=z.E
     have hD : D 7 = false:=z.F
     have hM0:=z.M
     have hM:=z.M
     refine Zy hE rfl (cbm Tryz.func65) (QY _ x34 u40 (hM.rdo h41) r42 e43) ?_
     rintro _ w a ⟨_,rfl,hFr,hK⟩ hE
     have hM:=hM0.add hK hFr
     have hq8 : D 8 = false:=QE (j:=8) (k:=0) z.c rfl rfl rfl hD
     exact ⟨_,_,rfl,hE,M.qPut (p:=mkN [(8,fun v=>osl NoB (([r42] : List (List UInt8)) : List (List UInt8)) v),(7,fun v=>osl NoB (r42 : List UInt8) v)]) (its:=[raw b18 (cat [[(ux5 3)],[u26],[(ux5 6)]]),raw b3 (cat [[(Value.slice none 0 0)],[(Value.slice none 0 0)],[(Value.slice none 0 0)]]),raw b1 (cat [[v0_1],[v0_2],[v0_3]]),osl NoB ((([] : List (Vector UInt8 32)) ++ p0.Keys) : List (Vector UInt8 32)) (ux5 3),osl NoB (r13 : List Int) (ux5 6),osl NoB (s25.1 : List (List UInt8)) u26]) (mk1:=[]) (mk2:=[]) hM rfl (Q3 (QF hq8 (QF hD QJ))) (TA (l:=[_]) (QF hq8 QJ)),trivial⟩
    ·intro a w ux33 D z
     have hE:=z.E
     have hD : D 8 = false:=z.F
     have d7 : D 7 = true:=z.p 0 _ rfl rfl
     have hM:=(z.M.chnF (pre:=[_,_,_,_,_,_]) hD).chnT (pre:=[_,_,_,_,_,_]) d7
     have hc47:=YS (hM.sl (pre:=[_,_,_,_,_,_]) noB)
     have hM:=hM.pull6
     have hM:=hM.pack1 (it:=own NoB r42 ([(ux33 7)])) (Vw noB) (fun f0 q0=>(Wh.sat q0))
     exact za (xs:=[.tmp 27]) (seg:=[(ux33 7)]) hE hM noB Za ld rfl hc47 Tryz.underlying23 XQ rfl (by decide) fun u45 w a hM hE=>⟨_,_,rfl,hE,M.qTogS (p:=mkN [(8,fun v=>osl NoB (([r42] : List (List UInt8)) : List (List UInt8)) v),(7,fun v=>osl NoB (r42 : List UInt8) v)]) (its:=[raw b18 (cat [[(ux5 3)],[u26],[(ux5 6)]]),raw b3 (cat [[(Value.slice none 0 0)],[(Value.slice none 0 0)],[(Value.slice none 0 0)]]),raw b1 (cat [[v0_1],[v0_2],[v0_3]]),osl NoB ((([] : List (Vector UInt8 32)) ++ p0.Keys) : List (Vector UInt8 32)) (ux5 3),osl NoB (r13 : List Int) (ux5 6),osl NoB (s25.1 : List (List UInt8)) u26]) (mk1:=[]) (mk2:=[]) hM rfl (TA (l:=[]) QJ),trivial⟩
    ·intro a w ux33 D hE hM hG hall
     have d8:=hall 8 (by decide)
     have hM:=hM.chnT (pre:=[_,_,_,_,_,_]) d8
     obtain ⟨l48,e49,hs28⟩:=bind_some hs28
     obtain ⟨e52,rfl⟩:=Yo e49
     have hM:=hM.pull6.pull6
     refine BR hE hM noB Za ld rfl rfl Tryz.underlying23 XQ rfl (by decide) e52 fun u50 w a hM hE=>Zw hE rfl (X5) ?_; intro a hE
     have hM:=hM.pull1
     refine Zn (seg:=[u50]) hE hM Za rfl rfl (YS (hM.sl (pre:=[_]) noB)) Tg rfl (Ux (pre:=[[(ux5 3)]]) ck rfl) (Rep.cell (hM.sl (pre:=[_]) noB)) (Xy (pre:=[[(ux5 3)]]) ck rfl) fun w a hM hE=>Zf (Yc (Zp (wp_region_lit (Zd hE rfl fun a hE=>Zg hE rfl rfl rfl fun a hE=>Zc hE rfl fun a hE=>Zf (Zh ?_)))))
     have hM:=hM.pull1.pull5.pull5.pull5.pull5.pull5
     exact ⟨_,(ois hs28),u50,hE.sub ⟨rfl,rfl,rfl,rfl,trivial⟩,hM⟩
   ·intro hb32
    have hs28:=Zt hs28 hb32
    refine wp_exit (Zm (Zm (Yb ?_)))
    obtain rfl:=hx29 _ (ois hs28)
    refine Zh ?_
    have hM:=M.fst (l:=[_,_,_,_,_]) hM.pull5.pull5.pull5.pull4.pull4
    exact ⟨u26,hE.sub ⟨rfl,rfl,trivial⟩,hM⟩
  ·skip
   rintro a w ⟨u23,hE,hM⟩
   refine Zp (Zb (Zq hE rfl Yy rfl hM.rawAt0 cq ?_)); intro a hE
   have hM:=hM.pull1
   refine Zn (seg:=cat [[(ux5 3)],[u23],[(ux5 6)]]) (cs':=cat [[(ux5 3)],[u23],[(ux5 6)]]) hE hM Za rfl rfl rfl Yy cq (Nat.le_of_eq ((Nat.zero_add _).trans (Eq.trans cq (Eq.symm cq)))) (YC (cc1 (Rep.cell (hM.sl (pre:=[_,_]) noB)) (cc1 (Rep.cell (hM.sl (pre:=[_,_,_,_]) noB)) (cc1 (Rep.cell (hM.sl (pre:=[_,_,_]) noB)) cc0)))) (Zk (Eq.trans cq (Eq.symm cq))) fun w a hM hE=>Ze ?_
   obtain rfl:=Option.some.inj hF22
   have hq54 : Yz Tryz.prog _ _ (.cell 2 31) _:=ZS hE rfl Yy rfl hM.rawAt0 cq rfl
   have hM:=M.fst (l:=[_,_,_]) hM.pull3.pull4.pull4
   exact wp_ret (ZP hE rfl hq54 ⟨_,rfl,(ux5 3),u23,(ux5 6),rfl,hM.outF (Yu (Yu (Yu XD))),hM.kept⟩)
def VM (p0 : GBlobs) (p1 : (Vector UInt8 32)) : Option (GBlobs × Int) :=
 (U9 p0).bind fun r7=>if (!r7) = true then (some ((⟨[],[],[]⟩ : GBlobs),1)) else ((Uh p0 p1).bind fun r14=>if (decide (r14 < 0)) = true then (some ((⟨[],[],[]⟩ : GBlobs),4)) else ((UK p0).bind fun r21=>(idx r21.Counts r14).bind fun x28=>if (decide (x28 > 1)) = true then ((idx r21.Counts r14).bind fun x32=>(idx r21.Counts r14).bind fun x35=>some ((⟨r21.Keys,r21.Data,(r21.Counts.set (r14).toNat (wr (x32 - 1)))⟩ : GBlobs),0)) else (((slc r21.Keys (0 : Int) r14).bind fun l47=>(app 32 ([] : List (Vector UInt8 32)) l47).bind fun l49=>(slc r21.Keys (wr (r14 + 1)) (r21.Keys.length : Int)).bind fun l54=>(app 32 (([] : List (Vector UInt8 32)) ++ l47) l54).bind fun l56=>some ((([] : List (Vector UInt8 32)) ++ l47) ++ l54) : Option ((List (Vector UInt8 32)))).bind fun j39=>((slc r21.Counts (0 : Int) r14).bind fun l70=>(app 8 ([] : List Int) l70).bind fun l72=>(slc r21.Counts (wr (r14 + 1)) (r21.Counts.length : Int)).bind fun l77=>(app 8 (([] : List Int) ++ l70) l77).bind fun l79=>some ((([] : List Int) ++ l70) ++ l77) : Option ((List Int))).bind fun j62=>((Xd ((wr (r14 + 1)) - r14)).bind fun _=>(slc r21.Data (0 : Int) r14).bind fun l97=>(app 24 ([] : List (List UInt8)) l97).bind fun l99=>(slc r21.Data (wr (r14 + 1)) (r21.Data.length : Int)).bind fun l104=>(app 24 (([] : List (List UInt8)) ++ l97) l104).bind fun l106=>some ((([] : List (List UInt8)) ++ l97) ++ l104) : Option ((List (List UInt8)))).bind fun j85=>some ((⟨j39,j85,j62⟩ : GBlobs),0))))
theorem He (w0 : World) (p0 : GBlobs) (v0_1 : Value) (hv0_1 : Ro w0 p0.Keys [v0_1]) (v0_2 : Value) (hv0_2 : Ro w0 p0.Data [v0_2]) (v0_3 : Value) (hv0_3 : Ro w0 p0.Counts [v0_3]) (p1 : (Vector UInt8 32)) (r : GBlobs × Int) (hF : VM p0 p1 = some r) :
  Calls Tryz.prog 10 [(Value.agg (cat [[v0_1],[v0_2],[v0_3]]).toArray),(Value.agg (enc p1).toArray)].toArray w0 (fun en w'=>∃ v,en = .returned v ∧ (∃ (y1 : Value) (y2 : Value) (y3 : Value),v = (Value.tuple [(Value.agg (cat [[y1],[y2],[y3]]).toArray),vI r.2].toArray) ∧ Fr w0 w' [osl NoB (r.1.Keys : List (Vector UInt8 32)) y1,osl NoB (r.1.Data : List (List UInt8)) y2,osl NoB (r.1.Counts : List Int) y3] ∧ Kept (Old w0) w0 w')):=by
 refine ce Tryz.func10 ?_
 intro a hE
 have hM:=M.start w0
 unfold VM at hF
 refine Zb (ZZ (cs:=cat [[v0_1],[v0_2],[v0_3]]) hE hM Za ld rfl rfl fun b1 w a hM hE=>ZZ (cs:=enc p1) hE hM Za ld rfl rfl fun b3 w a hM hE=>ZC hE hM Yy fun b5 w a hM hE=>Zc hE rfl fun a hE=>Ze (wp_seq (Zb (Zq hE rfl Yy rfl hM.rawAt2 cq ?_)))); intro a hE
 obtain ⟨r7,e8,hF⟩:=bind_some hF
 refine Zy hE rfl (cbm Tryz.func43) (Ar _ p0 v0_1 (hM.rdo hv0_1) v0_2 (hM.rdo hv0_2) v0_3 (hM.rdo hv0_3) r7 e8) ?_
 rintro v w a ⟨rfl,hK⟩ hE
 have hM:=hM.keep hK
 refine KJ hE rfl fun a hE=>Ze ?_
 refine Zo hE rfl ?_ ?_
 ·intro hb9
  have hF:=Zs hF hb9
  refine Zb (VB (parts:=[]) (vs:=[]) (cs:=cat [[(Value.slice none 0 0)],[(Value.slice none 0 0)],[(Value.slice none 0 0)]]) hE Za ld rfl rfl Yy pl31 U6 fun a hE=>Zn (seg:=cat [[(Value.slice none 0 0)],[(Value.slice none 0 0)],[(Value.slice none 0 0)]]) (cs':=cat [[(Value.slice none 0 0)],[(Value.slice none 0 0)],[(Value.slice none 0 0)]]) hE hM Za rfl rfl rfl Yy cq (Nat.le_of_eq ((Nat.zero_add _).trans (Eq.trans cq (Eq.symm cq)))) (YC (cc1 Ta (cc1 Ta (cc1 Ta cc0)))) (Zk (Eq.trans cq (Eq.symm cq))) fun w a hM hE=>Zc hE rfl fun a hE=>Ze ?_)
  have hM:=M.nilS (α:=Int) NoB noB (M.nilS (α:=(List UInt8)) NoB noB (M.nilS (α:=(Vector UInt8 32)) NoB noB hM))
  obtain rfl:=Option.some.inj hF
  have hq13 : Yz Tryz.prog _ _ (.cell 4 31) _:=ZS hE rfl Yy rfl hM.rawAt3 cq rfl
  have hM:=M.fst (l:=[_,_,_]) hM.pull1.pull2
  exact wp_ret (Zx (To hE rfl hq13 (ZR hE rfl) ⟨_,rfl,(Value.slice none 0 0),(Value.slice none 0 0),(Value.slice none 0 0),rfl,hM.outF (Yu (Yu (Yu XD))),hM.kept⟩))
 ·intro hb9
  have hF:=Zt hF hb9
  refine wp_skip (Zp (Zb (Zq hE rfl Yy rfl hM.rawAt2 cq fun a hE=>Zq hE rfl Z3 rfl hM.rawAt1 (Flat.len _) ?_))); intro a hE
  obtain ⟨r14,e15,hF⟩:=bind_some hF
  refine Zy hE rfl (cbm Tryz.func44) (Bk _ p0 v0_1 (hM.rdo hv0_1) v0_2 (hM.rdo hv0_2) v0_3 (hM.rdo hv0_3) p1 r14 e15) ?_
  rintro v w a ⟨rfl,hK⟩ hE
  have hM:=hM.keep hK
  refine Zc hE rfl fun a hE=>Ze (wp_seq (Zb (Zd hE rfl fun a hE=>Zg hE rfl rfl rfl fun a hE=>Ze ?_)))
  refine Zo hE rfl ?_ ?_
  ·intro hb16
   have hF:=Zs hF hb16
   refine Zb (VB (parts:=[]) (vs:=[]) (cs:=cat [[(Value.slice none 0 0)],[(Value.slice none 0 0)],[(Value.slice none 0 0)]]) hE Za ld rfl rfl Yy pl31 U6 fun a hE=>Zn (seg:=cat [[(Value.slice none 0 0)],[(Value.slice none 0 0)],[(Value.slice none 0 0)]]) (cs':=cat [[(Value.slice none 0 0)],[(Value.slice none 0 0)],[(Value.slice none 0 0)]]) hE hM Za rfl rfl rfl Yy cq (Nat.le_of_eq ((Nat.zero_add _).trans (Eq.trans cq (Eq.symm cq)))) (YC (cc1 Ta (cc1 Ta (cc1 Ta cc0)))) (Zk (Eq.trans cq (Eq.symm cq))) fun w a hM hE=>Zc hE rfl fun a hE=>Ze ?_)
   have hM:=M.nilS (α:=Int) NoB noB (M.nilS (α:=(List UInt8)) NoB noB (M.nilS (α:=(Vector UInt8 32)) NoB noB hM))
   obtain rfl:=Option.some.inj hF
   have hq20 : Yz Tryz.prog _ _ (.cell 4 31) _:=ZS hE rfl Yy rfl hM.rawAt3 cq rfl
   have hM:=M.fst (l:=[_,_,_]) hM.pull1.pull2
   exact wp_ret (Zx (To hE rfl hq20 (ZR hE rfl) ⟨_,rfl,(Value.slice none 0 0),(Value.slice none 0 0),(Value.slice none 0 0),rfl,hM.outF (Yu (Yu (Yu XD))),hM.kept⟩))
  ·intro hb16
   have hF:=Zt hF hb16
   refine wp_skip (Zp (Zb (Zq hE rfl Yy rfl hM.rawAt2 cq ?_))); intro a hE
   obtain ⟨r21,e22,hF⟩:=bind_some hF
   refine Zy hE rfl (cbm Tryz.func45) (Bx _ p0 v0_1 (hM.rdo hv0_1) v0_2 (hM.rdo hv0_2) v0_3 (hM.rdo hv0_3) r21 e22) ?_
   rintro v w a ⟨u23,u24,u25,rfl,hFr,hK⟩ hE
   have hM:=hM.add hK hFr
   refine ZC hE hM Yy fun b26 w a hM hE=>Zn (seg:=cat [[u23],[u24],[u25]]) (cs':=cat [[u23],[u24],[u25]]) hE hM Za rfl rfl rfl Yy cq (Nat.le_of_eq ((Nat.zero_add _).trans (Eq.trans cq (Eq.symm cq)))) (YC (cc1 (Rep.cell (hM.sl (pre:=[_]) noB)) (cc1 (Rep.cell (hM.sl (pre:=[_,_]) noB)) (cc1 (Rep.cell (hM.sl (pre:=[_,_,_]) noB)) cc0)))) (Zk (Eq.trans cq (Eq.symm cq))) fun w a hM hE=>Ze (wp_seq (Zb (Zw hE rfl (X2) fun a hE=>ZA (v:=u25) hE rfl U3 rfl (At.cat (pre:=[[u23],[u24]]) hM.rawAt0 ck) fun a hE=>Zd hE rfl ?_))); intro a hE
   obtain ⟨x28,hi30,hF⟩:=bix hF
   refine Z9 hE rfl rfl Tryz.underlying24 ty2 (hM.sl (pre:=[_,_,_]) noB) hi30.1 fun a hE=>ZA (v:=(vI x28)) hE rfl ty2 rfl (Yl (hM.sl (pre:=[_,_,_]) noB) hi30.2) fun a hE=>Zg hE rfl rfl rfl fun a hE=>Ze ?_
   refine Zo hE rfl ?_ ?_
   ·intro hb31
    have hF:=Zs hF hb31
    refine Zb (Zw hE rfl (X2) fun a hE=>ZA (v:=u25) hE rfl U3 rfl (At.cat (pre:=[[u23],[u24]]) hM.rawAt0 ck) fun a hE=>Zd hE rfl ?_); intro a hE
    obtain ⟨x32,hi34,hF⟩:=bix hF
    refine Z9 hE rfl rfl Tryz.underlying24 ty2 (hM.sl (pre:=[_,_,_]) noB) hi34.1 fun a hE=>ZA (v:=(vI x32)) hE rfl ty2 rfl (Yl (hM.sl (pre:=[_,_,_]) noB) hi34.2) fun a hE=>Zg hE rfl rfl rfl ?_; intro a hE
    obtain ⟨x35,hi37,hF⟩:=bix hF
    refine Z9 hE rfl rfl Tryz.underlying24 ty2 (hM.sl (pre:=[_,_,_]) noB) hi37.1 ?_; intro a hE
    have hM:=hM.pull3
    refine Tv (i:=(r14).toNat) (k0:=0) (seg:=[(vI (wr (x32 - 1)))]) (xo:=x35) (xn:=wr (x32 - 1)) hE hM Za rfl rfl rfl ty2 rfl (Flat.cell (wr (x32 - 1) : Int)) hi37.2 (Qn (m:=1) rfl (by decide)) (Zk rfl) fun w a hM hE=>Ze (Zb (Zq hE rfl Yy rfl hM.rawAt1 cq ?_)); intro a hE
    have hM:=hM.pull4
    refine Zn (seg:=cat [[u23],[u24],[u25]]) (cs':=cat [[u23],[u24],[u25]]) hE hM Za rfl rfl rfl Yy cq (Nat.le_of_eq ((Nat.zero_add _).trans (Eq.trans cq (Eq.symm cq)))) (YC (cc1 (Rep.cell (hM.sl (pre:=[_,_,_]) noB)) (cc1 (Rep.cell (hM.sl (pre:=[_,_,_,_]) noB)) (cc1 (Rep.cell (hM.sl (pre:=[_]) noB)) cc0)))) (Zk (Eq.trans cq (Eq.symm cq))) fun w a hM hE=>Zc hE rfl fun a hE=>Ze ?_
    obtain rfl:=Option.some.inj hF
    have hq38 : Yz Tryz.prog _ _ (.cell 4 31) _:=ZS hE rfl Yy rfl hM.rawAt0 cq rfl
    have hM:=M.fst (l:=[_,_,_]) hM.pull1.pull4.pull4
    exact wp_ret (Zx (To hE rfl hq38 (ZR hE rfl) ⟨_,rfl,u23,u24,u25,rfl,hM.outF (Yu (Yu (Yu XD))),hM.kept⟩))
   ·intro hb31
    have hF:=Zt hF hb31
    refine wp_skip (Zp ?_)
    obtain ⟨j39,hl40,hF41⟩:=bind_some hF
    refine ZK (fun a w=>∃ (u42 : Value),Env 74 a [(4,(ptr b5 0)),(6,vI r14),(7,(ptr b26 0))] ∧ M (Old w0) w0 w [raw b26 (cat [[u42],[u24],[u25]]),osl NoB (r21.Data : List (List UInt8)) u24,osl NoB (r21.Counts : List Int) u25,raw b5 (cat [[(Value.slice none 0 0)],[(Value.slice none 0 0)],[(Value.slice none 0 0)]]),osl NoB (j39 : List (Vector UInt8 32)) u42]) ?_ ?_
    ·skip
     obtain ⟨l47,e48,hl40⟩:=bind_some hl40
     obtain ⟨l49,e50,hl40⟩:=bind_some hl40
     obtain ⟨l54,e55,hl40⟩:=bind_some hl40
     refine Yv (its:=[raw b26 (cat [[u23],[u24],[u25]]),osl NoB (r21.Keys : List (Vector UInt8 32)) u23,osl NoB (r21.Data : List (List UInt8)) u24,osl NoB (r21.Counts : List Int) u25,raw b5 (cat [[(Value.slice none 0 0)],[(Value.slice none 0 0)],[(Value.slice none 0 0)]]),raw b3 (enc p1),raw b1 (cat [[v0_1],[v0_2],[v0_3]])]) (mk:=([mkN [(5,fun v=>osl NoB ((([] : List (Vector UInt8 32)) ++ l47) : List (Vector UInt8 32)) v),(0,fun v=>osl NoB (([] : List (Vector UInt8 32)) : List (Vector UInt8 32)) v)]] : Mk)) [34,35,36,37,38,39,40,41,42,43,44] Yq rfl rfl (by decide) rfl hE (fun u=>M.qE (M.q0 hM.drew u) emN) (qsM (pr:=fun v=>True) ?_ (qsP (fun z=>Zr z.E Za ld rfl (X1) (kr0 rfl)) (qsP (v:=u23) ?_ (qsP (fun z=>Zi z.E Za ld rfl (kr0 rfl)) (qsP (v:=(Ym u23 ((0 : Int)).toNat (r14).toNat 32)) ?_ (qsM (pr:=fun v=>True) ?_ (qsP (fun z=>Zr z.E Za ld rfl (X1) (kr0 rfl)) (qsP (v:=u23) ?_ (qsP (fun z=>Zi z.E Za ld rfl (kr0 rfl)) (qsP (v:=(vI (wr (r14 + 1)))) (fun z=>Yd z.E Za ld rfl rfl rfl (kr0 rfl)) (qsP (v:=(Ym u23 ((wr (r14 + 1))).toNat ((r21.Keys.length : Int)).toNat 32)) ?_ qs0))))))))))) ?_
     ·intro a w ux44 D z
      have hE:=z.E
      have hD : D 0 = false:=z.F
      have hM:=z.M
      refine Yr (xs:=[]) (l:=([] : List (Vector UInt8 32))) (vs:=[]) hE hM Za ld rfl rfl Tryz.underlying29 Z3 rfl (by decide) rfl ?_; intro u45 w a hM hE
      have hq5 : D 5 = false:=QE (j:=5) (k:=0) z.c rfl rfl rfl hD
      exact ⟨_,_,rfl,hE,M.qPut (p:=mkN [(5,fun v=>osl NoB ((([] : List (Vector UInt8 32)) ++ l47) : List (Vector UInt8 32)) v),(0,fun v=>osl NoB (([] : List (Vector UInt8 32)) : List (Vector UInt8 32)) v)]) (its:=[raw b26 (cat [[u23],[u24],[u25]]),osl NoB (r21.Keys : List (Vector UInt8 32)) u23,osl NoB (r21.Data : List (List UInt8)) u24,osl NoB (r21.Counts : List Int) u25,raw b5 (cat [[(Value.slice none 0 0)],[(Value.slice none 0 0)],[(Value.slice none 0 0)]]),raw b3 (enc p1),raw b1 (cat [[v0_1],[v0_2],[v0_3]])]) (mk1:=[]) (mk2:=[]) hM rfl (Q3 (QF hq5 (QF hD QJ))) (TA (l:=[_]) (QF hq5 QJ)),trivial⟩
     ·intro a w ux44 D z
      have hE:=z.E
      have hM:=z.M
      exact ZA (v:=u23) hE rfl Tu rfl (At.cat (pre:=[]) hM.rawAt0 cl0) fun a hE=>⟨Kept.refl _ _,_,rfl,hE⟩
     ·intro a w ux44 D z
      have hE:=z.E
      have hM:=z.M
      exact Vz hE Za ld rfl rfl (Tn rfl) rfl rfl Tryz.underlying29 Z3 (hM.sl (pre:=[_]) noB) e48 fun a hE=>⟨Kept.refl _ _,_,rfl,hE⟩
     ·intro a w ux44 D z
      have hE:=z.E
      have hD : D 5 = false:=z.F
      have d0 : D 0 = true:=z.p 0 _ rfl rfl
      have hM:=(z.M.chnF (pre:=[_,_,_,_,_,_,_]) hD).chnT (pre:=[_,_,_,_,_,_,_]) d0
      have e53:=(Yo e50).1
      have hM:=hM.pull7
      exact Yi hE hM Za ld rfl rfl (Xx (hM.sl (pre:=[_,_]) noB) e48) Tryz.underlying29 Z3 rfl (by decide) e53 fun u51 w a hM hE=>⟨_,_,rfl,hE,M.qTogS (p:=mkN [(5,fun v=>osl NoB ((([] : List (Vector UInt8 32)) ++ l47) : List (Vector UInt8 32)) v),(0,fun v=>osl NoB (([] : List (Vector UInt8 32)) : List (Vector UInt8 32)) v)]) (its:=[raw b26 (cat [[u23],[u24],[u25]]),osl NoB (r21.Keys : List (Vector UInt8 32)) u23,osl NoB (r21.Data : List (List UInt8)) u24,osl NoB (r21.Counts : List Int) u25,raw b5 (cat [[(Value.slice none 0 0)],[(Value.slice none 0 0)],[(Value.slice none 0 0)]]),raw b3 (enc p1),raw b1 (cat [[v0_1],[v0_2],[v0_3]])]) (mk1:=[]) (mk2:=[]) hM rfl (TA (l:=[]) QJ),trivial⟩
     ·intro a w ux44 D z
      have hE:=z.E
      have hM:=z.M
      exact ZA (v:=u23) hE rfl Tu rfl (At.cat (pre:=[]) hM.rawAt0 cl0) fun a hE=>⟨Kept.refl _ _,_,rfl,hE⟩
     ·intro a w ux44 D z
      have hE:=z.E
      have hM:=z.M
      exact Vz hE Za ld rfl (Tn rfl) rfl rfl rfl Tryz.underlying29 Z3 (hM.sl (pre:=[_]) noB) e55 fun a hE=>⟨Kept.refl _ _,_,rfl,hE⟩
     ·intro a w ux44 D hE hM hG hall
      have d5:=hall 5 (by decide)
      have hM:=hM.chnT (pre:=[_,_,_,_,_,_,_]) d5
      obtain ⟨l56,e57,hl40⟩:=bind_some hl40
      obtain ⟨e60,rfl⟩:=Yo e57
      have hM:=hM.pull7
      refine Yi hE hM Za ld rfl rfl (Xx (hM.sl (pre:=[_,_]) noB) e55) Tryz.underlying29 Z3 rfl (by decide) e60 fun u58 w a hM hE=>Zw hE rfl (X1) ?_; intro a hE
      have hM:=hM.pull1
      refine Zn (seg:=[u58]) hE hM Za rfl rfl (YS (hM.sl (pre:=[_]) noB)) Tu rfl (Ux (pre:=[]) cl0 rfl) (Rep.cell (hM.sl (pre:=[_]) noB)) (Xy (pre:=[]) cl0 rfl) fun w a hM hE=>Zf ?_
      obtain rfl:=Option.some.inj hl40
      refine Zh ?_
      have hM:=M.fst (l:=[_,_,_,_,_]) hM.pull1.pull5.pull5.pull5.pull4
      exact ⟨u58,hE.sub ⟨rfl,rfl,rfl,trivial⟩,hM⟩
    ·skip
     rintro a w ⟨u42,hE,hM⟩
     obtain ⟨j62,hl63,hF64⟩:=bind_some hF41
     refine ZK (fun a w=>∃ (u65 : Value),Env 74 a [(4,(ptr b5 0)),(6,vI r14),(7,(ptr b26 0))] ∧ M (Old w0) w0 w [raw b26 (cat [[u42],[u24],[u65]]),osl NoB (r21.Data : List (List UInt8)) u24,raw b5 (cat [[(Value.slice none 0 0)],[(Value.slice none 0 0)],[(Value.slice none 0 0)]]),osl NoB (j39 : List (Vector UInt8 32)) u42,osl NoB (j62 : List Int) u65]) ?_ ?_
     ·skip
      obtain ⟨l70,e71,hl63⟩:=bind_some hl63
      obtain ⟨l72,e73,hl63⟩:=bind_some hl63
      obtain ⟨l77,e78,hl63⟩:=bind_some hl63
      refine Yv (its:=[raw b26 (cat [[u42],[u24],[u25]]),osl NoB (r21.Data : List (List UInt8)) u24,osl NoB (r21.Counts : List Int) u25,raw b5 (cat [[(Value.slice none 0 0)],[(Value.slice none 0 0)],[(Value.slice none 0 0)]]),osl NoB (j39 : List (Vector UInt8 32)) u42]) (mk:=([mkN [(5,fun v=>osl NoB ((([] : List Int) ++ l70) : List Int) v),(0,fun v=>osl NoB (([] : List Int) : List Int) v)]] : Mk)) [47,48,49,50,51,52,53,54,55,56,57] Yq rfl rfl (by decide) rfl hE (fun u=>M.qE (M.q0 hM.drew u) emN) (qsM (pr:=fun v=>True) ?_ (qsP (fun z=>Zr z.E Za ld rfl (X2) (kr0 rfl)) (qsP (v:=u25) ?_ (qsP (fun z=>Zi z.E Za ld rfl (kr0 rfl)) (qsP (v:=(Ym u25 ((0 : Int)).toNat (r14).toNat 1)) ?_ (qsM (pr:=fun v=>True) ?_ (qsP (fun z=>Zr z.E Za ld rfl (X2) (kr0 rfl)) (qsP (v:=u25) ?_ (qsP (fun z=>Zi z.E Za ld rfl (kr0 rfl)) (qsP (v:=(vI (wr (r14 + 1)))) (fun z=>Yd z.E Za ld rfl rfl rfl (kr0 rfl)) (qsP (v:=(Ym u25 ((wr (r14 + 1))).toNat ((r21.Counts.length : Int)).toNat 1)) ?_ qs0))))))))))) ?_
      ·intro a w ux67 D z
       have hE:=z.E
       have hD : D 0 = false:=z.F
       have hM:=z.M
       refine Yr (xs:=[]) (l:=([] : List Int)) (vs:=[]) hE hM Za ld rfl rfl Tryz.underlying24 ty2 rfl (by decide) rfl ?_; intro u68 w a hM hE
       have hq5 : D 5 = false:=QE (j:=5) (k:=0) z.c rfl rfl rfl hD
       exact ⟨_,_,rfl,hE,M.qPut (p:=mkN [(5,fun v=>osl NoB ((([] : List Int) ++ l70) : List Int) v),(0,fun v=>osl NoB (([] : List Int) : List Int) v)]) (its:=[raw b26 (cat [[u42],[u24],[u25]]),osl NoB (r21.Data : List (List UInt8)) u24,osl NoB (r21.Counts : List Int) u25,raw b5 (cat [[(Value.slice none 0 0)],[(Value.slice none 0 0)],[(Value.slice none 0 0)]]),osl NoB (j39 : List (Vector UInt8 32)) u42]) (mk1:=[]) (mk2:=[]) hM rfl (Q3 (QF hq5 (QF hD QJ))) (TA (l:=[_]) (QF hq5 QJ)),trivial⟩
      ·intro a w ux67 D z
       have hE:=z.E
       have hM:=z.M
       exact ZA (v:=u25) hE rfl U3 rfl (At.cat (pre:=[[u42],[u24]]) hM.rawAt0 ck) fun a hE=>⟨Kept.refl _ _,_,rfl,hE⟩
      ·intro a w ux67 D z
       have hE:=z.E
       have hM:=z.M
       exact Vz hE Za ld rfl rfl (Tn rfl) rfl rfl Tryz.underlying24 ty2 (hM.sl (pre:=[_,_]) noB) e71 fun a hE=>⟨Kept.refl _ _,_,rfl,hE⟩
      ·intro a w ux67 D z
       have hE:=z.E
       have hD : D 5 = false:=z.F
       have d0 : D 0 = true:=z.p 0 _ rfl rfl
       have hM:=(z.M.chnF (pre:=[_,_,_,_,_]) hD).chnT (pre:=[_,_,_,_,_]) d0
       have e76:=(Yo e73).1
       have hM:=hM.pull5
       exact Yi hE hM Za ld rfl rfl (Xx (hM.sl (pre:=[_,_,_]) noB) e71) Tryz.underlying24 ty2 rfl (by decide) e76 fun u74 w a hM hE=>⟨_,_,rfl,hE,M.qTogS (p:=mkN [(5,fun v=>osl NoB ((([] : List Int) ++ l70) : List Int) v),(0,fun v=>osl NoB (([] : List Int) : List Int) v)]) (its:=[raw b26 (cat [[u42],[u24],[u25]]),osl NoB (r21.Data : List (List UInt8)) u24,osl NoB (r21.Counts : List Int) u25,raw b5 (cat [[(Value.slice none 0 0)],[(Value.slice none 0 0)],[(Value.slice none 0 0)]]),osl NoB (j39 : List (Vector UInt8 32)) u42]) (mk1:=[]) (mk2:=[]) hM rfl (TA (l:=[]) QJ),trivial⟩
      ·intro a w ux67 D z
       have hE:=z.E
       have hM:=z.M
       exact ZA (v:=u25) hE rfl U3 rfl (At.cat (pre:=[[u42],[u24]]) hM.rawAt0 ck) fun a hE=>⟨Kept.refl _ _,_,rfl,hE⟩
      ·intro a w ux67 D z
       have hE:=z.E
       have hM:=z.M
       exact Vz hE Za ld rfl (Tn rfl) rfl rfl rfl Tryz.underlying24 ty2 (hM.sl (pre:=[_,_]) noB) e78 fun a hE=>⟨Kept.refl _ _,_,rfl,hE⟩
      ·intro a w ux67 D hE hM hG hall
       have d5:=hall 5 (by decide)
       have hM:=hM.chnT (pre:=[_,_,_,_,_]) d5
       obtain ⟨l79,e80,hl63⟩:=bind_some hl63
       obtain ⟨e83,rfl⟩:=Yo e80
       have hM:=hM.pull5
       refine Yi hE hM Za ld rfl rfl (Xx (hM.sl (pre:=[_,_,_]) noB) e78) Tryz.underlying24 ty2 rfl (by decide) e83 fun u81 w a hM hE=>Zw hE rfl (X2) ?_; intro a hE
       have hM:=hM.pull1
       refine Zn (seg:=[u81]) hE hM Za rfl rfl (YS (hM.sl (pre:=[_]) noB)) U3 rfl (Ux (pre:=[[u42],[u24]]) ck rfl) (Rep.cell (hM.sl (pre:=[_]) noB)) (Xy (pre:=[[u42],[u24]]) ck rfl) fun w a hM hE=>Zf ?_
       obtain rfl:=Option.some.inj hl63
       refine Zh ?_
       have hM:=M.fst (l:=[_,_,_,_,_]) hM.pull1.pull5.pull5.pull4.pull4
       exact ⟨u81,hE.sub ⟨rfl,rfl,rfl,trivial⟩,hM⟩
     ·skip
      rintro a w ⟨u65,hE,hM⟩
      obtain ⟨j85,hl86,hF87⟩:=bind_some hF64
      refine ZK (fun a w=>∃ (u88 : Value),Env 74 a [(4,(ptr b5 0)),(7,(ptr b26 0))] ∧ M (Old w0) w0 w [raw b26 (cat [[u42],[u88],[u65]]),raw b5 (cat [[(Value.slice none 0 0)],[(Value.slice none 0 0)],[(Value.slice none 0 0)]]),osl NoB (j39 : List (Vector UInt8 32)) u42,osl NoB (j62 : List Int) u65,osl NoB (j85 : List (List UInt8)) u88]) ?_ ?_
      ·skip
       have hM:=hM.pull1
       obtain ⟨hs90,hl91,hM⟩:=hM.toHdr noB
       obtain ⟨_,hg93,hl86⟩:=bind_some hl86
       have hg93:=Wi hg93
       obtain ⟨l97,d_l97,hl86⟩:=bind_some hl86
       obtain ⟨h_l97,e98,q_l97⟩:=zG d_l97 hl91
       obtain ⟨l99,e100,hl86⟩:=bind_some hl86
       obtain ⟨l104,d_l104,hl86⟩:=bind_some hl86
       obtain ⟨h_l104,e105,q_l104⟩:=kf d_l104 hl91
       refine Yv (its:=[osl NoB (hs90 : List (Opq 1)) u24,els NoB r21.Data hs90,raw b26 (cat [[u42],[u24],[u65]]),raw b5 (cat [[(Value.slice none 0 0)],[(Value.slice none 0 0)],[(Value.slice none 0 0)]]),osl NoB (j39 : List (Vector UInt8 32)) u42,osl NoB (j62 : List Int) u65]) (mk:=([mkN [(5,fun v=>osl NoB ((([] : List (Opq 1)) ++ h_l97) : List (Opq 1)) v),(0,fun v=>osl NoB (([] : List (Opq 1)) : List (Opq 1)) v)]] : Mk)) [60,61,62,63,64,65,66,67,68,69,70] Yq rfl rfl (by decide) rfl hE (fun u=>M.qE (M.q0 hM.drew u) emN) (qsM (pr:=fun v=>True) ?_ (qsP (fun z=>Zr z.E Za ld rfl (X5) (kr0 rfl)) (qsP (v:=u24) ?_ (qsP (fun z=>Zi z.E Za ld rfl (kr0 rfl)) (qsP (v:=(Ym u24 ((0 : Int)).toNat (r14).toNat 1)) ?_ (qsM (pr:=fun v=>True) ?_ (qsP (fun z=>Zr z.E Za ld rfl (X5) (kr0 rfl)) (qsP (v:=u24) ?_ (qsP (fun z=>Zi z.E Za ld rfl (kr0 rfl)) (qsP (v:=(vI (wr (r14 + 1)))) (fun z=>Yd z.E Za ld rfl rfl rfl (kr0 rfl)) (qsP (v:=(Ym u24 ((wr (r14 + 1))).toNat ((hs90.length : Int)).toNat 1)) ?_ qs0))))))))))) ?_
       ·intro a w ux94 D z
        have hE:=z.E
        have hD : D 0 = false:=z.F
        have hM:=z.M
        refine Yr (xs:=[]) (l:=([] : List (Opq 1))) (vs:=[]) hE hM Za ld rfl rfl Tryz.underlying23 XQ rfl (by decide) rfl ?_; intro u95 w a hM hE
        have hq5 : D 5 = false:=QE (j:=5) (k:=0) z.c rfl rfl rfl hD
        exact ⟨_,_,rfl,hE,M.qPut (p:=mkN [(5,fun v=>osl NoB ((([] : List (Opq 1)) ++ h_l97) : List (Opq 1)) v),(0,fun v=>osl NoB (([] : List (Opq 1)) : List (Opq 1)) v)]) (its:=[osl NoB (hs90 : List (Opq 1)) u24,els NoB r21.Data hs90,raw b26 (cat [[u42],[u24],[u65]]),raw b5 (cat [[(Value.slice none 0 0)],[(Value.slice none 0 0)],[(Value.slice none 0 0)]]),osl NoB (j39 : List (Vector UInt8 32)) u42,osl NoB (j62 : List Int) u65]) (mk1:=[]) (mk2:=[]) hM rfl (Q3 (QF hq5 (QF hD QJ))) (TA (l:=[_]) (QF hq5 QJ)),trivial⟩
       ·intro a w ux94 D z
        have hE:=z.E
        have hM:=z.M
        exact ZA (v:=u24) hE rfl Tg rfl (At.cat (pre:=[[u42]]) hM.rawAt2 ck) fun a hE=>⟨Kept.refl _ _,_,rfl,hE⟩
       ·intro a w ux94 D z
        have hE:=z.E
        have hM:=z.M
        exact Vz hE Za ld rfl rfl (Tn rfl) rfl rfl Tryz.underlying23 XQ (hM.sl (pre:=[]) noB) e98 fun a hE=>⟨Kept.refl _ _,_,rfl,hE⟩
       ·intro a w ux94 D z
        have hE:=z.E
        have hD : D 5 = false:=z.F
        have d0 : D 0 = true:=z.p 0 _ rfl rfl
        have hM:=(z.M.chnF (pre:=[_,_,_,_,_,_]) hD).chnT (pre:=[_,_,_,_,_,_]) d0
        obtain ⟨e103,rfl⟩:=Yo e100
        have e103 : (([] : List (Opq 1)).length + h_l97.length) * 24 ≤ 140737488355328:=by simpa [q_l97,q_l104] using e103
        have hM:=hM.pull6
        exact Yi hE hM Za ld rfl rfl (Xx (hM.sl (pre:=[_]) noB) e98) Tryz.underlying23 XQ rfl (by decide) e103 fun u101 w a hM hE=>⟨_,_,rfl,hE,M.qTogS (p:=mkN [(5,fun v=>osl NoB ((([] : List (Opq 1)) ++ h_l97) : List (Opq 1)) v),(0,fun v=>osl NoB (([] : List (Opq 1)) : List (Opq 1)) v)]) (its:=[osl NoB (hs90 : List (Opq 1)) u24,els NoB r21.Data hs90,raw b26 (cat [[u42],[u24],[u65]]),raw b5 (cat [[(Value.slice none 0 0)],[(Value.slice none 0 0)],[(Value.slice none 0 0)]]),osl NoB (j39 : List (Vector UInt8 32)) u42,osl NoB (j62 : List Int) u65]) (mk1:=[]) (mk2:=[]) hM rfl (TA (l:=[]) QJ),trivial⟩
       ·intro a w ux94 D z
        have hE:=z.E
        have hM:=z.M
        exact ZA (v:=u24) hE rfl Tg rfl (At.cat (pre:=[[u42]]) hM.rawAt2 ck) fun a hE=>⟨Kept.refl _ _,_,rfl,hE⟩
       ·intro a w ux94 D z
        have hE:=z.E
        have hM:=z.M
        exact Vz hE Za ld rfl (Tn rfl) rfl rfl rfl Tryz.underlying23 XQ (hM.sl (pre:=[]) noB) e105 fun a hE=>⟨Kept.refl _ _,_,rfl,hE⟩
       ·intro a w ux94 D hE hM hG hall
        have d5:=hall 5 (by decide)
        have hM:=hM.chnT (pre:=[_,_,_,_,_,_]) d5
        obtain ⟨l106,e107,hl86⟩:=bind_some hl86
        obtain ⟨e110,rfl⟩:=Yo e107
        have e110 : ((([] : List (Opq 1)) ++ h_l97).length + h_l104.length) * 24 ≤ 140737488355328:=by simpa [q_l97,q_l104] using e110
        have hM:=hM.pull6
        refine Yi hE hM Za ld rfl rfl (Xx (hM.sl (pre:=[_]) noB) e105) Tryz.underlying23 XQ rfl (by decide) e110 fun u108 w a hM hE=>Zw hE rfl (X5) ?_; intro a hE
        have hM:=hM.pull3
        refine Zn (seg:=[u108]) hE hM Za rfl rfl (YS (hM.sl (pre:=[_]) noB)) Tg rfl (Ux (pre:=[[u42]]) ck rfl) (Rep.cell (hM.sl (pre:=[_]) noB)) (Xy (pre:=[[u42]]) ck rfl) ?_; intro w a hM hE
        have hM:=M.ofHdr (α:=(List UInt8)) ((hM.pull3.cutEls noB d_l97 d_l104 e98 e105 (Int.sub_nonneg.1 hg93)).pull2) noB
        refine Zf ?_
        obtain rfl:=Option.some.inj hl86
        refine Zh ?_
        have hM:=M.fst (l:=[_,_,_,_,_]) hM.pull5.pull5.pull5.pull4
        exact ⟨u108,hE.sub ⟨rfl,rfl,trivial⟩,hM⟩
      ·skip
       rintro a w ⟨u88,hE,hM⟩
       refine Zb (Zq hE rfl Yy rfl hM.rawAt0 cq ?_); intro a hE
       have hM:=hM.pull1
       refine Zn (seg:=cat [[u42],[u88],[u65]]) (cs':=cat [[u42],[u88],[u65]]) hE hM Za rfl rfl rfl Yy cq (Nat.le_of_eq ((Nat.zero_add _).trans (Eq.trans cq (Eq.symm cq)))) (YC (cc1 (Rep.cell (hM.sl (pre:=[_,_]) noB)) (cc1 (Rep.cell (hM.sl (pre:=[_,_,_,_]) noB)) (cc1 (Rep.cell (hM.sl (pre:=[_,_,_]) noB)) cc0)))) (Zk (Eq.trans cq (Eq.symm cq))) fun w a hM hE=>Zc hE rfl fun a hE=>Ze ?_
       obtain rfl:=Option.some.inj hF87
       have hq112 : Yz Tryz.prog _ _ (.cell 4 31) _:=ZS hE rfl Yy rfl hM.rawAt0 cq rfl
       have hM:=M.fst (l:=[_,_,_]) hM.pull3.pull4.pull4
       exact wp_ret (To hE rfl hq112 (ZR hE rfl) ⟨_,rfl,u42,u88,u65,rfl,hM.outF (Yu (Yu (Yu XD))),hM.kept⟩)
def UA (p1 : Int) (p2 : Int) (s4 : Int × Int) : Option (Fl (Int × Int) Int) :=
 if (decide (s4.2 ≥ p2)) = true then (((Xd s4.2).bind fun _=>(if ((Hf (TC s4.1 s4.2) 1) == 1) = true then ((Xd (wr (s4.2 - p2))).bind fun _=>some (JF s4.1 (Bu p1 (wr (s4.2 - p2))))) else (some s4.1) : Option (Int)).bind fun j13=>some j13 : Option (Int)).bind fun j9=>some (Fl.nx (j9,wr (s4.2 - 1)))) else (some (Fl.ex s4.1))
def UY (p0 : Int) (p1 : Int) (p2 : Int) : Option (Int) :=
 (Zz (UA p1 p2) (p0,15)).bind fun j1=>some j1
theorem zE (w0 : World) (p0 : Int) (p1 : Int) (p2 : Int) (r : Int) (hF : UY p0 p1 p2 = some r) :
  Calls Tryz.prog 240 [vI p0,vI p1,vI p2].toArray w0 (Rt w0 (vI r)):=by
 refine ce Tryz.func240 ?_
 intro a hE
 have hM:=M.start w0
 unfold UY at hF
 refine Zb (Zc hE rfl fun a hE=>Ze (wp_seq (Zb (Zc hE rfl fun a hE=>Ze ?_))))
 obtain ⟨j1,hl2,hF3⟩:=bind_some hF
 refine ZM (fun a w=>Env 26 a [(0,vI j1)] ∧ M (Old w0) w0 w []) ?_ ?_
 ·skip
  refine wp_block ?_
  refine ZE (fun (s4 : Int × Int) a w=>Env 26 a [(0,vI s4.1),(1,vI p1),(2,vI p2),(7,vI s4.2)] ∧ M (Old w0) w0 w []) hl2 ⟨hE.sub ⟨rfl,rfl,rfl,rfl,trivial⟩,hM⟩ ?_
  rintro s4 a w ⟨hE,hM⟩ o7 hs5 hx6
  unfold UA at hs5
  refine wp_seq (Zb (Zd hE rfl fun a hE=>Zd hE rfl fun a hE=>Zg hE rfl rfl rfl fun a hE=>Ze ?_))
  refine Zo hE rfl ?_ ?_
  ·intro hb8
   have hs5:=Zs hs5 hb8
   refine wp_skip (Zp ?_)
   obtain ⟨j9,hl10,hF11⟩:=bind_some hs5
   refine ZK (fun a w=>Env 26 a [(0,vI j9),(1,vI p1),(2,vI p2),(7,vI s4.2)] ∧ M (Old w0) w0 w []) ?_ ?_
   ·skip
    refine wp_block (Zb (Zd hE rfl fun a hE=>Zd hE rfl ?_)); intro a hE
    obtain ⟨_,e12,hl10⟩:=bind_some hl10
    have e12:=Wi e12
    refine HT hE Za ld rfl rfl (As _ _ e12) fun a hE=>Zg hE rfl rfl rfl fun a hE=>Zg hE rfl rfl rfl fun a hE=>Ze ?_
    obtain ⟨j13,hl14,hF15⟩:=bind_some hl10
    refine ZM (fun a w=>Env 26 a [(0,vI j13),(1,vI p1),(2,vI p2),(7,vI s4.2)] ∧ M (Old w0) w0 w []) ?_ ?_
    ·skip
     refine Zo hE rfl ?_ ?_
     ·intro hb16
      have hl14:=Zs hl14 hb16
      refine wp_region_lit (Zd hE rfl fun a hE=>Zd hE rfl fun a hE=>Zd hE rfl fun a hE=>Zd hE rfl fun a hE=>Zg hE rfl rfl rfl ?_); intro a hE
      obtain ⟨_,e17,hl14⟩:=bind_some hl14
      have e17:=Wi e17
      refine HT hE Za ld rfl rfl (yt _ _ e17) fun a hE=>Zg hE rfl rfl rfl fun a hE=>Zc hE rfl fun a hE=>Zf ?_
      obtain rfl:=Option.some.inj hl14
      refine Zh ?_
      exact ⟨hE.sub ⟨rfl,rfl,rfl,rfl,trivial⟩,hM⟩
     ·intro hb16
      have hl14:=Zt hl14 hb16
      refine wp_skip ?_
      obtain rfl:=Option.some.inj hl14
      refine Zh ?_
      exact ⟨hE.sub ⟨rfl,rfl,rfl,rfl,trivial⟩,hM⟩
    ·skip
     rintro a w ⟨hE,hM⟩
     refine Yc ?_
     obtain rfl:=Option.some.inj hF15
     refine Zh ?_
     exact ⟨hE.sub ⟨rfl,rfl,rfl,rfl,trivial⟩,hM⟩
   ·skip
    rintro a w ⟨hE,hM⟩
    refine wp_region_lit (Zd hE rfl fun a hE=>Zg hE rfl rfl rfl fun a hE=>Zc hE rfl fun a hE=>Zf (Zh ?_))
    exact ⟨_,(ois hF11),hE.sub ⟨rfl,rfl,rfl,rfl,trivial⟩,hM⟩
  ·intro hb8
   have hs5:=Zt hs5 hb8
   refine wp_exit (Zm (Zm (Yb ?_)))
   obtain rfl:=hx6 _ (ois hs5)
   refine Zh ?_
   exact ⟨hE.sub ⟨rfl,trivial⟩,hM⟩
 ·skip
  rintro a w ⟨hE,hM⟩
  refine Zp (Zb (Zd hE rfl fun a hE=>Zc hE rfl fun a hE=>Ze ?_))
  obtain rfl:=Option.some.inj hF3
  exact wp_ret (kr1 hE rfl rfl hM.kept)
def Xl (p1 : UInt8) (p2 : UInt8) (s4 : Int × Int) : Option (Fl (Int × Int) Int) :=
 if (decide (s4.2 < 8)) = true then (((Xd s4.2).bind fun _=>(if (((HJ p2 s4.2) &&& 1) == 1) = true then ((Xd s4.2).bind fun _=>some (JF s4.1 (Bu (bI p1) s4.2))) else (some s4.1) : Option (Int)).bind fun j13=>some j13 : Option (Int)).bind fun j9=>some (Fl.nx (j9,wr (s4.2 + 1)))) else (some (Fl.ex s4.1))
def Z1 (p0 : Int) (p1 : UInt8) (p2 : UInt8) : Option (UInt8) :=
 (Zz (Xl p1 p2) (0,0)).bind fun j1=>(UY j1 p0 8).bind fun r22=>some (ZG r22)
theorem YB (w0 : World) (p0 : Int) (p1 : UInt8) (p2 : UInt8) (r : UInt8) (hF : Z1 p0 p1 p2 = some r) :
  Calls Tryz.prog 233 [vI p0,vB p1,vB p2].toArray w0 (Rt w0 (vB r)):=by
 refine ce Tryz.func233 ?_
 intro a hE
 have hM:=M.start w0
 unfold Z1 at hF
 refine Zb (Zc hE rfl fun a hE=>Ze (Zb (Zc hE rfl fun a hE=>Ze (wp_seq (Zb (Zd hE rfl fun a hE=>Ze ?_))))))
 obtain ⟨j1,hl2,hF3⟩:=bind_some hF
 refine ZM (fun a w=>Env 28 a [(0,vI p0),(7,vI j1)] ∧ M (Old w0) w0 w []) ?_ ?_
 ·skip
  refine wp_block ?_
  refine ZE (fun (s4 : Int × Int) a w=>Env 28 a [(0,vI p0),(1,vB p1),(2,vB p2),(7,vI s4.1),(9,vI s4.2)] ∧ M (Old w0) w0 w []) hl2 ⟨hE.sub ⟨rfl,rfl,rfl,rfl,rfl,trivial⟩,hM⟩ ?_
  rintro s4 a w ⟨hE,hM⟩ o7 hs5 hx6
  unfold Xl at hs5
  refine Zb (Zg hE rfl rfl rfl fun a hE=>Ze (wp_seq ?_))
  refine Zo hE rfl ?_ ?_
  ·intro hb8
   have hs5:=Zs hs5 hb8
   refine wp_skip (Zp ?_)
   obtain ⟨j9,hl10,hF11⟩:=bind_some hs5
   refine ZK (fun a w=>Env 28 a [(0,vI p0),(1,vB p1),(2,vB p2),(7,vI j9),(9,vI s4.2)] ∧ M (Old w0) w0 w []) ?_ ?_
   ·skip
    refine wp_block (Zb (Zd hE rfl fun a hE=>Zc hE rfl fun a hE=>Ze (Zb (Zd hE rfl fun a hE=>Zd hE rfl ?_)))); intro a hE
    obtain ⟨_,e12,hl10⟩:=bind_some hl10
    have e12:=Wi e12
    refine HT hE Za ld rfl rfl (ke _ _ e12) fun a hE=>Zg hE rfl rfl (bB_and (HJ p2 s4.2) 1) fun a hE=>Zg hE rfl rfl (kJ ((HJ p2 s4.2) &&& 1) 1) fun a hE=>Ze ?_
    obtain ⟨j13,hl14,hF15⟩:=bind_some hl10
    refine ZM (fun a w=>Env 28 a [(0,vI p0),(1,vB p1),(2,vB p2),(7,vI j13),(9,vI s4.2)] ∧ M (Old w0) w0 w []) ?_ ?_
    ·skip
     refine Zo hE rfl ?_ ?_
     ·intro hb16
      have hl14:=Zs hl14 hb16
      refine wp_region_lit (Zd hE rfl fun a hE=>Zd hE rfl fun a hE=>Ht hE Za ld rfl Tryz.underlying5 Tryz.underlying2 fun a hE=>Zd hE rfl ?_); intro a hE
      obtain ⟨_,e17,hl14⟩:=bind_some hl14
      have e17:=Wi e17
      refine HT hE Za ld rfl rfl (yt _ _ e17) fun a hE=>Zg hE rfl rfl rfl fun a hE=>Zc hE rfl fun a hE=>Zf ?_
      obtain rfl:=Option.some.inj hl14
      refine Zh ?_
      exact ⟨hE.sub ⟨rfl,rfl,rfl,rfl,rfl,trivial⟩,hM⟩
     ·intro hb16
      have hl14:=Zt hl14 hb16
      refine wp_skip ?_
      obtain rfl:=Option.some.inj hl14
      refine Zh ?_
      exact ⟨hE.sub ⟨rfl,rfl,rfl,rfl,rfl,trivial⟩,hM⟩
    ·skip
     rintro a w ⟨hE,hM⟩
     refine Yc ?_
     obtain rfl:=Option.some.inj hF15
     refine Zh ?_
     exact ⟨hE.sub ⟨rfl,rfl,rfl,rfl,rfl,trivial⟩,hM⟩
   ·skip
    rintro a w ⟨hE,hM⟩
    refine wp_region_lit (Zg hE rfl rfl rfl fun a hE=>Zd hE rfl fun a hE=>Zf (Zh ?_))
    exact ⟨_,(ois hF11),hE.sub ⟨rfl,rfl,rfl,rfl,rfl,trivial⟩,hM⟩
  ·intro hb8
   have hs5:=Zt hs5 hb8
   refine wp_exit (Zm (Zm (Yb ?_)))
   obtain rfl:=hx6 _ (ois hs5)
   refine Zh ?_
   exact ⟨hE.sub ⟨rfl,rfl,trivial⟩,hM⟩
 ·skip
  rintro a w ⟨hE,hM⟩
  refine Zp (Zb (Zd hE rfl fun a hE=>Zd hE rfl ?_)); intro a hE
  obtain ⟨r22,e23,hF3⟩:=bind_some hF3
  refine Zy hE rfl (cbm Tryz.func240) (zE _ j1 p0 8 r22 e23) ?_
  rintro v w a ⟨rfl,hK⟩ hE
  have hM:=hM.keep hK
  refine Xb hE Za ld rfl Tryz.underlying2 Tryz.underlying5 fun a hE=>Zc hE rfl fun a hE=>Ze ?_
  obtain rfl:=Option.some.inj hF3
  exact wp_ret (kr1 hE rfl rfl hM.kept)
def W7 (p0 : Int) (s4 : UInt8 × Int × UInt8) : Option (Fl (UInt8 × Int × UInt8) UInt8) :=
 if (decide (s4.2.1 > 0)) = true then (((if ((Int.tmod s4.2.1 2) == 1) = true then ((Z1 p0 s4.2.2 s4.1).bind fun r16=>some r16) else (some s4.2.2) : Option (UInt8)).bind fun j12=>(Z1 p0 s4.1 s4.1).bind fun r20=>some (r20,j12) : Option (UInt8 × UInt8)).bind fun j9=>some (Fl.nx (j9.1,wr (Int.tdiv s4.2.1 2),j9.2))) else (some (Fl.ex s4.2.2))
def XB (p0 : Int) (p1 : UInt8) (p2 : Int) : Option (UInt8) :=
 (Zz (W7 p0) (p1,p2,1)).bind fun j1=>some j1
theorem KA (w0 : World) (p0 : Int) (p1 : UInt8) (p2 : Int) (r : UInt8) (hF : XB p0 p1 p2 = some r) :
  Calls Tryz.prog 234 [vI p0,vB p1,vI p2].toArray w0 (Rt w0 (vB r)):=by
 refine ce Tryz.func234 ?_
 intro a hE
 have hM:=M.start w0
 unfold XB at hF
 refine Zb (Zc hE rfl fun a hE=>Ze (Zb (Zc hE rfl fun a hE=>Ze ?_)))
 obtain ⟨j1,hl2,hF3⟩:=bind_some hF
 refine ZK (fun a w=>Env 24 a [(7,vB j1)] ∧ M (Old w0) w0 w []) ?_ ?_
 ·skip
  refine wp_block ?_
  refine ZE (fun (s4 : UInt8 × Int × UInt8) a w=>Env 24 a [(0,vI p0),(1,vB s4.1),(2,vI s4.2.1),(7,vB s4.2.2)] ∧ M (Old w0) w0 w []) hl2 ⟨hE.sub ⟨rfl,rfl,rfl,rfl,trivial⟩,hM⟩ ?_
  rintro s4 a w ⟨hE,hM⟩ o7 hs5 hx6
  unfold W7 at hs5
  refine wp_seq (Zb (Zd hE rfl fun a hE=>Zg hE rfl rfl rfl fun a hE=>Ze ?_))
  refine Zo hE rfl ?_ ?_
  ·intro hb8
   have hs5:=Zs hs5 hb8
   refine wp_skip (Zp ?_)
   obtain ⟨j9,hl10,hF11⟩:=bind_some hs5
   refine ZK (fun a w=>Env 24 a [(0,vI p0),(1,vB j9.1),(2,vI s4.2.1),(7,vB j9.2)] ∧ M (Old w0) w0 w []) ?_ ?_
   ·skip
    refine wp_block ?_
    obtain ⟨j12,hl13,hF14⟩:=bind_some hl10
    refine ZK (fun a w=>Env 24 a [(0,vI p0),(1,vB s4.1),(2,vI s4.2.1),(7,vB j12)] ∧ M (Old w0) w0 w []) ?_ ?_
    ·skip
     refine Zb (Zd hE rfl fun a hE=>Zg hE rfl rfl (T8 _ _ (by decide)) fun a hE=>Zg hE rfl rfl rfl fun a hE=>Ze ?_)
     refine Zo hE rfl ?_ ?_
     ·intro hb15
      have hl13:=Zs hl13 hb15
      refine wp_region_lit (Zd hE rfl fun a hE=>Zd hE rfl fun a hE=>Zd hE rfl ?_); intro a hE
      obtain ⟨r16,e17,hl13⟩:=bind_some hl13
      refine Zy hE rfl JQ (YB _ p0 s4.2.2 s4.1 r16 e17) ?_
      rintro v w a ⟨rfl,hK⟩ hE
      have hM:=hM.keep hK
      refine Zc hE rfl fun a hE=>Zf ?_
      obtain rfl:=Option.some.inj hl13
      refine Zh ?_
      exact ⟨hE.sub ⟨rfl,rfl,rfl,rfl,trivial⟩,hM⟩
     ·intro hb15
      have hl13:=Zt hl13 hb15
      refine wp_skip ?_
      obtain rfl:=Option.some.inj hl13
      refine Zh ?_
      exact ⟨hE.sub ⟨rfl,rfl,rfl,rfl,trivial⟩,hM⟩
    ·skip
     rintro a w ⟨hE,hM⟩
     refine wp_region_lit (Zd hE rfl fun a hE=>Zd hE rfl fun a hE=>Zd hE rfl ?_); intro a hE
     obtain ⟨r20,e21,hF14⟩:=bind_some hF14
     refine Zy hE rfl JQ (YB _ p0 s4.1 s4.1 r20 e21) ?_
     rintro v w a ⟨rfl,hK⟩ hE
     have hM:=hM.keep hK
     refine Zc hE rfl fun a hE=>Zf (Yc ?_)
     obtain rfl:=Option.some.inj hF14
     refine Zh ?_
     exact ⟨hE.sub ⟨rfl,rfl,rfl,rfl,trivial⟩,hM⟩
   ·skip
    rintro a w ⟨hE,hM⟩
    refine wp_region_lit (Zd hE rfl fun a hE=>Zg hE rfl rfl (AH _ _ (by decide)) fun a hE=>Zc hE rfl fun a hE=>Zf (Zh ?_))
    exact ⟨_,(ois hF11),hE.sub ⟨rfl,rfl,rfl,rfl,trivial⟩,hM⟩
  ·intro hb8
   have hs5:=Zt hs5 hb8
   refine wp_exit (Zm (Zm (Yb ?_)))
   obtain rfl:=hx6 _ (ois hs5)
   refine Zh ?_
   exact ⟨hE.sub ⟨rfl,trivial⟩,hM⟩
 ·skip
  rintro a w ⟨hE,hM⟩
  refine Zb (Zd hE rfl fun a hE=>Zc hE rfl fun a hE=>Ze ?_)
  obtain rfl:=Option.some.inj hF3
  exact wp_ret (kr1 hE rfl rfl hM.kept)
def Yf (p0 : Int) (p1 : UInt8) : Option (UInt8) :=
 (XB p0 p1 254).bind fun r1=>some r1
theorem V8 (w0 : World) (p0 : Int) (p1 : UInt8) (r : UInt8) (hF : Yf p0 p1 = some r) :
  Calls Tryz.prog 215 [vI p0,vB p1].toArray w0 (Rt w0 (vB r)):=by
 refine ce Tryz.func215 ?_
 intro a hE
 have hM:=M.start w0
 unfold Yf at hF
 refine Zb (Zc hE rfl fun a hE=>Ze (Zb (Zd hE rfl fun a hE=>Zd hE rfl ?_))); intro a hE
 obtain ⟨r1,e2,hF⟩:=bind_some hF
 refine Zy hE rfl (cbm Tryz.func234) (KA _ p0 p1 254 r1 e2) ?_
 rintro v w a ⟨rfl,hK⟩ hE
 have hM:=hM.keep hK
 refine Zc hE rfl fun a hE=>Ze ?_
 obtain rfl:=Option.some.inj hF
 exact wp_ret (kr1 hE rfl rfl hM.kept)
def Ya (p0 : UInt8) (p1 : Int) : Option (UInt8) :=
 (Xd (wru (BitVec.ofInt 64 (IntKind.u64.wrap p1) &&& BitVec.ofInt 64 7).toNat)).bind fun _=>(Xd (IntKind.u64.wrap (8 - (wru (BitVec.ofInt 64 (IntKind.u64.wrap p1) &&& BitVec.ofInt 64 7).toNat)))).bind fun _=>some ((shlB p0 (wru (BitVec.ofInt 64 (IntKind.u64.wrap p1) &&& BitVec.ofInt 64 7).toNat)) ||| (HJ p0 (IntKind.u64.wrap (8 - (wru (BitVec.ofInt 64 (IntKind.u64.wrap p1) &&& BitVec.ofInt 64 7).toNat)))))
theorem UX (w0 : World) (p0 : UInt8) (p1 : Int) (r : UInt8) (hF : Ya p0 p1 = some r) :
  Calls Tryz.prog 216 [vB p0,vI p1].toArray w0 (Rt w0 (vB r)):=by
 refine ce Tryz.func216 ?_
 intro a hE
 have hM:=M.start w0
 unfold Ya at hF
 refine Zb (Zc hE rfl fun a hE=>Ze (Zb (Zd hE rfl fun a hE=>Ks hE Za ld rfl Tryz.underlying3 Tryz.underlying171 fun a hE=>Zg hE rfl rfl rfl fun a hE=>Zc hE rfl fun a hE=>Ze (Zb (Zd hE rfl fun a hE=>Zd hE rfl ?_))))); intro a hE
 obtain ⟨_,e1,hF⟩:=bind_some hF
 have e1:=Wi e1
 refine HT hE Za ld rfl rfl (bB_shl _ _ e1) fun a hE=>Zd hE rfl fun a hE=>Zd hE rfl fun a hE=>Zg hE rfl rfl rfl ?_; intro a hE
 obtain ⟨_,e2,hF⟩:=bind_some hF
 have e2:=Wi e2
 refine HT hE Za ld rfl rfl (ke _ _ e2) fun a hE=>Zg hE rfl rfl (bB_or (shlB p0 (wru (BitVec.ofInt 64 (IntKind.u64.wrap p1) &&& BitVec.ofInt 64 7).toNat)) (HJ p0 (IntKind.u64.wrap (8 - (wru (BitVec.ofInt 64 (IntKind.u64.wrap p1) &&& BitVec.ofInt 64 7).toNat))))) fun a hE=>Zc hE rfl fun a hE=>Ze ?_
 obtain rfl:=Option.some.inj hF
 exact wp_ret (kr1 hE rfl rfl hM.kept)
def X8 (s8 : (Vector UInt8 256) × Int) : Option (Fl ((Vector UInt8 256) × Int) (Vector UInt8 256)) :=
 if (decide (s8.2 < 256)) = true then ((Yf 285 (ZG s8.2)).bind fun r13=>(Ya r13 1).bind fun r15=>(Ya r13 4).bind fun r17=>(ZI s8.1 s8.2).bind fun x20=>some (Fl.nx ((s8.1.setIfInBounds (s8.2).toNat (((r13 ^^^ r15) ^^^ r17) ^^^ 90)),wr (s8.2 + 1)))) else (some (Fl.ex s8.1))
def W9 (s26 : (Vector (Vector UInt8 4) 4) × Int) (s34 : (Vector (Vector UInt8 4) 4) × Int) : Option (Fl ((Vector (Vector UInt8 4) 4) × Int) (Vector (Vector UInt8 4) 4)) :=
 if (decide (s34.2 < 4)) = true then ((Yf 285 (ZG (JF s26.2 (wr (4 + s34.2))))).bind fun r40=>(ZI s34.1 s26.2).bind fun x43=>(ZI x43 s34.2).bind fun x46=>some (Fl.nx ((s34.1.setIfInBounds (s26.2).toNat (x43.setIfInBounds (s34.2).toNat r40)),wr (s34.2 + 1)))) else (some (Fl.ex s34.1))
def W5 (s26 : (Vector (Vector UInt8 4) 4) × Int) : Option (Fl ((Vector (Vector UInt8 4) 4) × Int) (Vector (Vector UInt8 4) 4)) :=
 if (decide (s26.2 < 4)) = true then ((Zz (W9 s26) (s26.1,0)).bind fun j31=>some (Fl.nx (j31,wr (s26.2 + 1)))) else (some (Fl.ex s26.1))
def W8 (s53 : (Vector UInt8 16) × Int) : Option (Fl ((Vector UInt8 16) × Int) (Vector UInt8 16)) :=
 if (decide (s53.2 < 16)) = true then ((ZI s53.1 s53.2).bind fun x59=>some (Fl.nx ((s53.1.setIfInBounds (s53.2).toNat (ZG (Int.tmod (wr ((wr (13 * s53.2)) + 4)) 16))),wr (s53.2 + 1)))) else (some (Fl.ex s53.1))
def WK (p0 : Int) : Option (GCipher) :=
 (Zz (X8) ((Vector.replicate 256 (0 : UInt8)),0)).bind fun j5=>(Zz (W5) ((Vector.replicate 4 (Vector.replicate 4 (0 : UInt8))),0)).bind fun j23=>(Zz (W8) ((Vector.replicate 16 (0 : UInt8)),0)).bind fun j50=>some (⟨285,j5,j23,j50,p0⟩ : GCipher)
end

end Go.Proofs.YtpibglnacohdkaaGreat
