/- The walk of what the law reaches: contracts of functions. -/
import Derived.Test.YtpibglnacohdkaaGreatK2
import Derived.Test.YtpibglnacohdkaaGreatProg
set_option linter.unusedVariables false
set_option linter.unusedSimpArgs false
set_option maxRecDepth 20000
set_option maxHeartbeats 400000
namespace Go.Proofs.YtpibglnacohdkaaGreat
open Go
open Flat (enc)
noncomputable section
structure GBlobs where
 Keys : (List (Vector UInt8 32))
 Data : (List (List UInt8))
 Counts : (List Int)
 deriving DecidableEq,Inhabited
instance : Dat GBlobs:=⟨fun x=>Dat.bd (α:=(List (Vector UInt8 32)) × (List (List UInt8)) × (List Int)) (x.Keys,x.Data,x.Counts),fun x=>Dat.sz (α:=(List (Vector UInt8 32)) × (List (List UInt8)) × (List Int)) (x.Keys,x.Data,x.Counts) + 1⟩
instance : Rep GBlobs:=repIso (α:=(List (Vector UInt8 32)) × (List (List UInt8)) × (List Int)) (fun x=>(x.Keys,x.Data,x.Counts))
theorem yj {S : Nat → Prop} {w : World} {x : GBlobs} {cs : List Value} {fp : List Nat} (h : Rep.sat S w x cs fp) : ∃ (u1 : Value) (u2 : Value) (u3 : Value),∃ (g1 : List Nat) (g2 : List Nat) (g3 : List Nat),cs = cat [[u1],[u2],[u3]] ∧ fp = (g1 ++ (g2 ++ g3)) ∧ Rep.sat S w x.Keys [u1] g1 ∧ Rep.sat S w x.Data [u2] g2 ∧ Rep.sat S w x.Counts [u3] g3:=by
 obtain ⟨c0,d0,f0,q0,rfl,rfl,h0,hr0⟩:=h
 obtain ⟨u1,rfl⟩:=VE h0
 obtain ⟨c1,d1,f1,q1,rfl,rfl,h1,hr1⟩:=hr0
 obtain ⟨u2,rfl⟩:=VE h1
 obtain ⟨u3,rfl⟩:=VE hr1
 exact ⟨u1,u2,u3,_,_,_,rfl,by simp,h0,h1,hr1⟩
theorem yf {S : Nat → Prop} {w : World} {x : GBlobs} {u1 u2 u3 : Value} {fp : List Nat} (h : Rep.sat S w x (cat [[u1],[u2],[u3]]) fp) : ∃ (g1 : List Nat) (g2 : List Nat) (g3 : List Nat),fp = (g1 ++ (g2 ++ g3)) ∧ Rep.sat S w x.Keys [u1] g1 ∧ Rep.sat S w x.Data [u2] g2 ∧ Rep.sat S w x.Counts [u3] g3:=by
 obtain ⟨w1,w2,w3,g1,g2,g3,hc,hf,s1,s2,s3⟩:=yj h
 obtain ⟨e1,k1⟩:=Qd hc rfl
 obtain ⟨e2,k2⟩:=Qd k1 rfl
 obtain rfl:=(List.cons.inj e1).1
 obtain rfl:=(List.cons.inj e2).1
 obtain rfl:=(List.cons.inj k2).1
 exact ⟨g1,g2,g3,hf,s1,s2,s3⟩
theorem Kh {S : Nat → Prop} {w : World} {x : GBlobs} {cs : List Value} (h : Rep.sat S w x cs []) : ∃ u1 u2 u3,cs = cat [[u1],[u2],[u3]] ∧ Rep.sat S w x.Keys [u1] [] ∧ Rep.sat S w x.Data [u2] [] ∧ Rep.sat S w x.Counts [u3] []:=by
 obtain ⟨c0,d0,f0,g0,rfl,hf0,h0,hr0⟩:=h
 obtain ⟨rfl,rfl⟩:=List.append_eq_nil_iff.1 hf0.symm
 obtain ⟨u1,rfl⟩:=VE h0
 obtain ⟨c1,d1,f1,g1,rfl,hf1,h1,hr1⟩:=hr0
 obtain ⟨rfl,rfl⟩:=List.append_eq_nil_iff.1 hf1.symm
 obtain ⟨u2,rfl⟩:=VE h1
 obtain ⟨u3,rfl⟩:=VE hr1
 exact ⟨u1,u2,u3,rfl,h0,h1,hr1⟩
theorem BP {S : Nat → Prop} {w : World} {x : GBlobs} {u1 u2 u3 : Value} {g1 g2 g3 fp : List Nat} (h1 : Rep.sat S w x.Keys [u1] g1) (h2 : Rep.sat S w x.Data [u2] g2) (h3 : Rep.sat S w x.Counts [u3] g3) (hfp : fp = (g1 ++ (g2 ++ g3))) : Rep.sat S w x (cat [[u1],[u2],[u3]]) fp:=by
 rw [hfp]
 refine ⟨_,_,g1,(g2 ++ g3),rfl,(by simp),h1,?_⟩
 refine ⟨_,_,g2,g3,rfl,(by simp),h2,?_⟩
 exact h3
theorem JC {St : Nat → Prop} {w0 w : World} {its : List Item} {i1 i2 i3 : Item} {x : GBlobs} {u1 u2 u3 : Value} (h : M St w0 w (i1 :: i2 :: i3 :: its)) (s1 : SatI i1 x.Keys u1) (s2 : SatI i2 x.Data u2) (s3 : SatI i3 x.Counts u3) : M St w0 w (own NoB x (cat [[u1],[u2],[u3]]) :: its):=h.packL (m:=[_,_,_]) (V5 noB) fun fp h=>by obtain ⟨_,_,rfl,_,k1,_,_,rfl,_,k2,_,_,rfl,_,k3,rfl⟩:=h; exact BP (s1 _ _ k1) (s2 _ _ k2) (s3 _ _ k3) (by simp)
theorem JB {St : Nat → Prop} {w0 w : World} {its : List Item} {x : GBlobs} {u1 u2 u3 : Value} (h : M St w0 w (own NoB x (cat [[u1],[u2],[u3]]) :: its)) : M St w0 w (own NoB x.Keys [u1] :: own NoB x.Data [u2] :: own NoB x.Counts [u3] :: its):=h.unpackL (m:=[own NoB x.Keys [u1],own NoB x.Data [u2],own NoB x.Counts [u3]]) fun fp h=>by obtain ⟨_,_,_,rfl,s1,s2,s3⟩:=yf h; exact (XH.cons (V5 noB) s1 (XH.cons (V5 noB) s2 (XH.one (V5 noB) s3)))
theorem qx (w : World) : Rep.sat NoB w (⟨([] : (List (Vector UInt8 32))),([] : (List (List UInt8))),([] : (List Int))⟩ : GBlobs) (cat [[.slice none 0 0],[.slice none 0 0],[.slice none 0 0]]) []:=BP Qp Qp Qp rfl
structure GCipher where
 Field : Int
 Box : (Vector UInt8 256)
 Mix : (Vector (Vector UInt8 4) 4)
 Places : (Vector UInt8 16)
 Rounds : Int
 deriving DecidableEq,Inhabited
instance : Dat GCipher:=⟨fun x=>Dat.bd (α:=Int × (Vector UInt8 256) × (Vector (Vector UInt8 4) 4) × (Vector UInt8 16) × Int) (x.Field,x.Box,x.Mix,x.Places,x.Rounds),fun x=>Dat.sz (α:=Int × (Vector UInt8 256) × (Vector (Vector UInt8 4) 4) × (Vector UInt8 16) × Int) (x.Field,x.Box,x.Mix,x.Places,x.Rounds) + 1⟩
instance : Flat GCipher where
 n:=290
 enc x:=cat [enc x.Field,enc x.Box,enc x.Mix,enc x.Places,enc x.Rounds]
 len x:=AJ (cl1 (Flat.len _) (cl1 (Flat.len _) (cl1 (Flat.len _) (cl1 (Flat.len _) (cl1 (Flat.len _) cl0)))))
 cell x:=Yq (cc1 (Flat.cell _) (cc1 (Flat.cell _) (cc1 (Flat.cell _) (cc1 (Flat.cell _) (cc1 (Flat.cell _) cc0)))))
structure Gengine where
 box : (Vector UInt8 256)
 backBox : (Vector UInt8 256)
 places : (Vector UInt8 16)
 backPlaces : (Vector UInt8 16)
 mixer : (Ref (Vector (Vector (Vector UInt8 256) 4) 4))
 backMixer : (Ref (Vector (Vector (Vector UInt8 256) 4) 4))
 rounds : Int
 deriving DecidableEq,Inhabited
instance : Dat Gengine:=⟨fun x=>Dat.bd (α:=(Vector UInt8 256) × (Vector UInt8 256) × (Vector UInt8 16) × (Vector UInt8 16) × (Ref (Vector (Vector (Vector UInt8 256) 4) 4)) × (Ref (Vector (Vector (Vector UInt8 256) 4) 4)) × Int) (x.box,x.backBox,x.places,x.backPlaces,x.mixer,x.backMixer,x.rounds),fun x=>Dat.sz (α:=(Vector UInt8 256) × (Vector UInt8 256) × (Vector UInt8 16) × (Vector UInt8 16) × (Ref (Vector (Vector (Vector UInt8 256) 4) 4)) × (Ref (Vector (Vector (Vector UInt8 256) 4) 4)) × Int) (x.box,x.backBox,x.places,x.backPlaces,x.mixer,x.backMixer,x.rounds) + 1⟩
instance : Rep Gengine:=repIso (α:=(Vector UInt8 256) × (Vector UInt8 256) × (Vector UInt8 16) × (Vector UInt8 16) × (Ref (Vector (Vector (Vector UInt8 256) 4) 4)) × (Ref (Vector (Vector (Vector UInt8 256) 4) 4)) × Int) (fun x=>(x.box,x.backBox,x.places,x.backPlaces,x.mixer,x.backMixer,x.rounds))
theorem zI {S : Nat → Prop} {w : World} {x : Gengine} {cs : List Value} {fp : List Nat} (h : Rep.sat S w x cs fp) : ∃ (u1 : Value) (u2 : Value),∃ (g1 : List Nat) (g2 : List Nat),cs = cat [enc x.box,enc x.backBox,enc x.places,enc x.backPlaces,[u1],[u2],enc x.rounds] ∧ fp = (g1 ++ g2) ∧ Rep.sat S w x.mixer [u1] g1 ∧ Rep.sat S w x.backMixer [u2] g2:=by
 obtain ⟨c0,d0,f0,q0,rfl,rfl,h0,hr0⟩:=h
 obtain ⟨rfl,rfl⟩:=h0
 obtain ⟨c1,d1,f1,q1,rfl,rfl,h1,hr1⟩:=hr0
 obtain ⟨rfl,rfl⟩:=h1
 obtain ⟨c2,d2,f2,q2,rfl,rfl,h2,hr2⟩:=hr1
 obtain ⟨rfl,rfl⟩:=h2
 obtain ⟨c3,d3,f3,q3,rfl,rfl,h3,hr3⟩:=hr2
 obtain ⟨rfl,rfl⟩:=h3
 obtain ⟨c4,d4,f4,q4,rfl,rfl,h4,hr4⟩:=hr3
 obtain ⟨u1,rfl⟩:=Kd h4
 obtain ⟨c5,d5,f5,q5,rfl,rfl,h5,hr5⟩:=hr4
 obtain ⟨u2,rfl⟩:=Kd h5
 obtain ⟨rfl,rfl⟩:=hr5
 exact ⟨u1,u2,_,_,rfl,by simp,h4,h5⟩
theorem qw {S : Nat → Prop} {w : World} {x : Gengine} {u1 u2 : Value} {fp : List Nat} (h : Rep.sat S w x (cat [enc x.box,enc x.backBox,enc x.places,enc x.backPlaces,[u1],[u2],enc x.rounds]) fp) : ∃ (g1 : List Nat) (g2 : List Nat),fp = (g1 ++ g2) ∧ Rep.sat S w x.mixer [u1] g1 ∧ Rep.sat S w x.backMixer [u2] g2:=by
 obtain ⟨w1,w2,g1,g2,hc,hf,s1,s2⟩:=zI h
 obtain ⟨e1,k1⟩:=Qd hc rfl
 obtain ⟨e2,k2⟩:=Qd k1 rfl
 obtain ⟨e3,k3⟩:=Qd k2 rfl
 obtain ⟨e4,k4⟩:=Qd k3 rfl
 obtain ⟨e5,k5⟩:=Qd k4 rfl
 obtain ⟨e6,k6⟩:=Qd k5 rfl
 obtain rfl:=(List.cons.inj e5).1
 obtain rfl:=(List.cons.inj e6).1
 exact ⟨g1,g2,hf,s1,s2⟩
theorem Tr {S : Nat → Prop} {w : World} {x : Gengine} {cs : List Value} (h : Rep.sat S w x cs []) : ∃ u1 u2,cs = cat [enc x.box,enc x.backBox,enc x.places,enc x.backPlaces,[u1],[u2],enc x.rounds] ∧ Rep.sat S w x.mixer [u1] [] ∧ Rep.sat S w x.backMixer [u2] []:=by
 obtain ⟨c0,d0,f0,g0,rfl,hf0,h0,hr0⟩:=h
 obtain ⟨rfl,rfl⟩:=List.append_eq_nil_iff.1 hf0.symm
 obtain ⟨rfl,_⟩:=h0
 obtain ⟨c1,d1,f1,g1,rfl,hf1,h1,hr1⟩:=hr0
 obtain ⟨rfl,rfl⟩:=List.append_eq_nil_iff.1 hf1.symm
 obtain ⟨rfl,_⟩:=h1
 obtain ⟨c2,d2,f2,g2,rfl,hf2,h2,hr2⟩:=hr1
 obtain ⟨rfl,rfl⟩:=List.append_eq_nil_iff.1 hf2.symm
 obtain ⟨rfl,_⟩:=h2
 obtain ⟨c3,d3,f3,g3,rfl,hf3,h3,hr3⟩:=hr2
 obtain ⟨rfl,rfl⟩:=List.append_eq_nil_iff.1 hf3.symm
 obtain ⟨rfl,_⟩:=h3
 obtain ⟨c4,d4,f4,g4,rfl,hf4,h4,hr4⟩:=hr3
 obtain ⟨rfl,rfl⟩:=List.append_eq_nil_iff.1 hf4.symm
 obtain ⟨u1,rfl⟩:=Kd h4
 obtain ⟨c5,d5,f5,g5,rfl,hf5,h5,hr5⟩:=hr4
 obtain ⟨rfl,rfl⟩:=List.append_eq_nil_iff.1 hf5.symm
 obtain ⟨u2,rfl⟩:=Kd h5
 obtain ⟨rfl,_⟩:=hr5
 exact ⟨u1,u2,rfl,h4,h5⟩
theorem yw {S : Nat → Prop} {w : World} {x : Gengine} {u1 u2 : Value} {g1 g2 fp : List Nat} (h1 : Rep.sat S w x.mixer [u1] g1) (h2 : Rep.sat S w x.backMixer [u2] g2) (hfp : fp = (g1 ++ g2)) : Rep.sat S w x (cat [enc x.box,enc x.backBox,enc x.places,enc x.backPlaces,[u1],[u2],enc x.rounds]) fp:=by
 rw [hfp]
 refine ⟨_,_,[],(g1 ++ g2),rfl,(by simp),⟨rfl,rfl⟩,?_⟩
 refine ⟨_,_,[],(g1 ++ g2),rfl,(by simp),⟨rfl,rfl⟩,?_⟩
 refine ⟨_,_,[],(g1 ++ g2),rfl,(by simp),⟨rfl,rfl⟩,?_⟩
 refine ⟨_,_,[],(g1 ++ g2),rfl,(by simp),⟨rfl,rfl⟩,?_⟩
 refine ⟨_,_,g1,g2,rfl,(by simp),h1,?_⟩
 refine ⟨_,_,g2,[],rfl,(by simp),h2,?_⟩
 exact ⟨rfl,rfl⟩
structure Ghasher where
 engine : (Ref Gengine)
 deriving DecidableEq,Inhabited
instance : Dat Ghasher:=⟨fun x=>Dat.bd (α:=(Ref Gengine)) (x.engine),fun x=>Dat.sz (α:=(Ref Gengine)) (x.engine) + 1⟩
instance : Rep Ghasher:=repIso (α:=(Ref Gengine)) (fun x=>(x.engine))
theorem zA {S : Nat → Prop} {w : World} {x : Ghasher} {cs : List Value} {fp : List Nat} (h : Rep.sat S w x cs fp) : ∃ (u1 : Value),∃ (g1 : List Nat),cs = cat [[u1]] ∧ fp = g1 ∧ Rep.sat S w x.engine [u1] g1:=by
 obtain ⟨u1,rfl⟩:=Kd h
 exact ⟨u1,_,rfl,by simp,h⟩
theorem qy {S : Nat → Prop} {w : World} {x : Ghasher} {u1 : Value} {fp : List Nat} (h : Rep.sat S w x (cat [[u1]]) fp) : ∃ (g1 : List Nat),fp = g1 ∧ Rep.sat S w x.engine [u1] g1:=by
 obtain ⟨w1,g1,hc,hf,s1⟩:=zA h
 obtain rfl:=(List.cons.inj hc).1
 exact ⟨g1,hf,s1⟩
theorem un_Ghasher {S : Nat → Prop} {w : World} {x : Ghasher} {cs : List Value} (h : Rep.sat S w x cs []) : ∃ u1,cs = cat [[u1]] ∧ Rep.sat S w x.engine [u1] []:=by
 obtain ⟨u1,rfl⟩:=Kd h
 exact ⟨u1,rfl,h⟩
theorem pk_Ghasher {S : Nat → Prop} {w : World} {x : Ghasher} {u1 : Value} {g1 fp : List Nat} (h1 : Rep.sat S w x.engine [u1] g1) (hfp : fp = g1) : Rep.sat S w x (cat [[u1]]) fp:=by
 rw [hfp]
 exact h1
theorem ty2 : Ty Tryz.prog 2 (.int .i64) 1 8 (enc (0 : Int)):=⟨Tryz.underlying2,by kernel_rfl⟩
theorem ty5 : Ty Tryz.prog 5 (.int .u8) 1 1 (enc (0 : UInt8)):=⟨Tryz.underlying5,by kernel_rfl⟩
theorem ty22 : Ty Tryz.prog 22 (.slice 27) 1 24 [.slice none 0 0]:=⟨Tryz.underlying22,by kernel_rfl⟩
theorem U8 : Ty Tryz.prog 23 (.slice 40) 1 24 [.slice none 0 0]:=⟨Tryz.underlying23,by kernel_rfl⟩
theorem U7 : Ty Tryz.prog 24 (.slice 2) 1 24 [.slice none 0 0]:=⟨Tryz.underlying24,by kernel_rfl⟩
theorem A7 : Ty Tryz.prog 26 (.struct [{ name := "Keys", type := 22, offset := 0, embedded := false, tag := "", pkgPath := "", byteOffset := 0 }, { name := "Data", type := 23, offset := 1, embedded := false, tag := "", pkgPath := "", byteOffset := 24 }, { name := "Counts", type := 24, offset := 2, embedded := false, tag := "", pkgPath := "", byteOffset := 48 }].toArray) 3 72 (cat [[.slice none 0 0], [.slice none 0 0], [.slice none 0 0]]) := ⟨Tryz.underlying26, by kernel_rfl⟩
theorem ty27 : Ty Tryz.prog 27 (.array 32 5) 32 32 (enc (Vector.replicate 32 (0 : UInt8))):=⟨Tryz.underlying27,by kernel_rfl⟩
theorem To : Ty Tryz.prog 29 (.slice 35) 1 24 [.slice none 0 0]:=⟨Tryz.underlying29,by kernel_rfl⟩
theorem Yv : Ty Tryz.prog 31 (.struct [{ name := "Keys", type := 29, offset := 0, embedded := false, tag := "", pkgPath := "", byteOffset := 0 }, { name := "Data", type := 23, offset := 1, embedded := false, tag := "", pkgPath := "", byteOffset := 24 }, { name := "Counts", type := 24, offset := 2, embedded := false, tag := "", pkgPath := "", byteOffset := 48 }].toArray) 3 72 (cat [[.slice none 0 0], [.slice none 0 0], [.slice none 0 0]]) := ⟨Tryz.underlying31, by kernel_rfl⟩
theorem ZL : Ty Tryz.prog 35 (.array 32 5) 32 32 (enc (Vector.replicate 32 (0 : UInt8))):=⟨Tryz.underlying35,by kernel_rfl⟩
theorem YU : Ty Tryz.prog 40 (.slice 5) 1 24 [.slice none 0 0]:=⟨Tryz.underlying40,by kernel_rfl⟩
theorem ZJ : Ty Tryz.prog 68 (.array 16 5) 16 16 (enc (Vector.replicate 16 (0 : UInt8))):=⟨Tryz.underlying68,by kernel_rfl⟩
theorem kO : Ty Tryz.prog 100 (.pointer 244) 1 8 [.pointer none]:=⟨Tryz.underlying100,by kernel_rfl⟩
theorem J1 : Ty Tryz.prog 102 (.struct [{ name := "engine", type := 100, offset := 0, embedded := false, tag := "", pkgPath := "loop.example/g01182/impl", byteOffset := 0 }].toArray) 1 8 (cat [[.pointer none]]) := ⟨Tryz.underlying102, by kernel_rfl⟩
theorem Aj : Ty Tryz.prog 156 (.array 256 5) 256 256 (enc (Vector.replicate 256 (0 : UInt8))):=⟨Tryz.underlying156,by kernel_rfl⟩
theorem XI : Ty Tryz.prog 157 (.array 256 5) 256 256 (enc (Vector.replicate 256 (0 : UInt8))):=⟨Tryz.underlying157,by kernel_rfl⟩
theorem XB : Ty Tryz.prog 158 (.array 4 5) 4 4 (enc (Vector.replicate 4 (0 : UInt8))):=⟨Tryz.underlying158,by kernel_rfl⟩
theorem Ua : Ty Tryz.prog 160 (.array 4 158) 16 16 (enc (Vector.replicate 4 (Vector.replicate 4 (0 : UInt8)))):=⟨Tryz.underlying160,by kernel_rfl⟩
theorem TN : Ty Tryz.prog 161 (.array 16 5) 16 16 (enc (Vector.replicate 16 (0 : UInt8))):=⟨Tryz.underlying161,by kernel_rfl⟩
theorem Up : Ty Tryz.prog 163 (.struct [{ name := "Field", type := 2, offset := 0, embedded := false, tag := "", pkgPath := "", byteOffset := 0 }, { name := "Box", type := 157, offset := 1, embedded := false, tag := "", pkgPath := "", byteOffset := 8 }, { name := "Mix", type := 160, offset := 257, embedded := false, tag := "", pkgPath := "", byteOffset := 264 }, { name := "Places", type := 161, offset := 273, embedded := false, tag := "", pkgPath := "", byteOffset := 280 }, { name := "Rounds", type := 2, offset := 289, embedded := false, tag := "", pkgPath := "", byteOffset := 296 }].toArray) 290 304 (enc (⟨(0 : Int), (Vector.replicate 256 (0 : UInt8)), (Vector.replicate 4 (Vector.replicate 4 (0 : UInt8))), (Vector.replicate 16 (0 : UInt8)), (0 : Int)⟩ : GCipher)) := ⟨Tryz.underlying163, by kernel_rfl⟩
theorem jQ : Ty Tryz.prog 241 (.pointer 265) 1 8 [.pointer none]:=⟨Tryz.underlying241,by kernel_rfl⟩
theorem J3 : Ty Tryz.prog 244 (.struct [{ name := "box", type := 157, offset := 0, embedded := false, tag := "", pkgPath := "loop.example/g01182/impl", byteOffset := 0 }, { name := "backBox", type := 157, offset := 256, embedded := false, tag := "", pkgPath := "loop.example/g01182/impl", byteOffset := 256 }, { name := "places", type := 161, offset := 512, embedded := false, tag := "", pkgPath := "loop.example/g01182/impl", byteOffset := 512 }, { name := "backPlaces", type := 161, offset := 528, embedded := false, tag := "", pkgPath := "loop.example/g01182/impl", byteOffset := 528 }, { name := "mixer", type := 241, offset := 544, embedded := false, tag := "", pkgPath := "loop.example/g01182/impl", byteOffset := 544 }, { name := "backMixer", type := 241, offset := 545, embedded := false, tag := "", pkgPath := "loop.example/g01182/impl", byteOffset := 552 }, { name := "rounds", type := 2, offset := 546, embedded := false, tag := "", pkgPath := "loop.example/g01182/impl", byteOffset := 560 }].toArray) 547 568 (cat [(enc (Vector.replicate 256 (0 : UInt8))), (enc (Vector.replicate 256 (0 : UInt8))), (enc (Vector.replicate 16 (0 : UInt8))), (enc (Vector.replicate 16 (0 : UInt8))), [.pointer none], [.pointer none], (enc (0 : Int))]) := ⟨Tryz.underlying244, by kernel_rfl⟩
theorem HF : Ty Tryz.prog 263 (.array 4 156) 1024 1024 (enc (Vector.replicate 4 (Vector.replicate 256 (0 : UInt8)))):=⟨Tryz.underlying263,by kernel_rfl⟩
theorem ty265 : Ty Tryz.prog 265 (.array 4 263) 4096 4096 (enc (Vector.replicate 4 (Vector.replicate 4 (Vector.replicate 256 (0 : UInt8))))):=⟨Tryz.underlying265,by kernel_rfl⟩
theorem kj : Fd Tryz.prog 26 0 0:=Tc A7.und rfl rfl ty22 (by decide)
theorem j0 : Fd Tryz.prog 26 1 1:=Tc A7.und rfl rfl U8 (by decide)
theorem ki : Fd Tryz.prog 26 2 2:=Tc A7.und rfl rfl U7 (by decide)
theorem XL : Fd Tryz.prog 31 0 0:=Tc Yv.und rfl rfl To (by decide)
theorem We : Fd Tryz.prog 31 1 1:=Tc Yv.und rfl rfl U8 (by decide)
theorem Wb : Fd Tryz.prog 31 2 2:=Tc Yv.und rfl rfl U7 (by decide)
theorem jd : Fd Tryz.prog 102 0 0:=Tc J1.und rfl rfl kO (by decide)
theorem Hv : Fd Tryz.prog 163 0 0:=Tc Up.und rfl rfl ty2 (by decide)
theorem Kb : Fd Tryz.prog 163 1 1:=Tc Up.und rfl rfl XI (by decide)
theorem Jg : Fd Tryz.prog 163 2 257:=Tc Up.und rfl rfl Ua (by decide)
theorem KZ : Fd Tryz.prog 163 3 273:=Tc Up.und rfl rfl TN (by decide)
theorem As : Fd Tryz.prog 163 4 289:=Tc Up.und rfl rfl ty2 (by decide)
theorem AM : Fd Tryz.prog 244 0 0:=Tc J3.und rfl rfl XI (by decide)
theorem fd244_1 : Fd Tryz.prog 244 1 256:=Tc J3.und rfl rfl XI (by decide)
theorem qv : Fd Tryz.prog 244 2 512:=Tc J3.und rfl rfl TN (by decide)
theorem fd244_3 : Fd Tryz.prog 244 3 528:=Tc J3.und rfl rfl TN (by decide)
theorem qu : Fd Tryz.prog 244 4 544:=Tc J3.und rfl rfl jQ (by decide)
theorem fd244_5 : Fd Tryz.prog 244 5 545:=Tc J3.und rfl rfl jQ (by decide)
theorem kT : Fd Tryz.prog 244 6 546:=Tc J3.und rfl rfl ty2 (by decide)
theorem AH : Places Tryz.prog [{ name := "Keys", type := 29, offset := 0, embedded := false, tag := "", pkgPath := "", byteOffset := 0 }, { name := "Data", type := 23, offset := 1, embedded := false, tag := "", pkgPath := "", byteOffset := 24 }, { name := "Counts", type := 24, offset := 2, embedded := false, tag := "", pkgPath := "", byteOffset := 48 }] [(0, 1), (1, 1), (2, 1)] := by show _ = _; kernel_rfl
theorem pl102 : Places Tryz.prog [{ name := "engine", type := 100, offset := 0, embedded := false, tag := "", pkgPath := "loop.example/g01182/impl", byteOffset := 0 }] [(0, 1)] := by show _ = _; kernel_rfl
theorem pl163 : Places Tryz.prog [{ name := "Field", type := 2, offset := 0, embedded := false, tag := "", pkgPath := "", byteOffset := 0 }, { name := "Box", type := 157, offset := 1, embedded := false, tag := "", pkgPath := "", byteOffset := 8 }, { name := "Mix", type := 160, offset := 257, embedded := false, tag := "", pkgPath := "", byteOffset := 264 }, { name := "Places", type := 161, offset := 273, embedded := false, tag := "", pkgPath := "", byteOffset := 280 }, { name := "Rounds", type := 2, offset := 289, embedded := false, tag := "", pkgPath := "", byteOffset := 296 }] [(0, 1), (1, 256), (257, 16), (273, 16), (289, 1)] := by show _ = _; kernel_rfl
theorem pl244 : Places Tryz.prog [{ name := "box", type := 157, offset := 0, embedded := false, tag := "", pkgPath := "loop.example/g01182/impl", byteOffset := 0 }, { name := "backBox", type := 157, offset := 256, embedded := false, tag := "", pkgPath := "loop.example/g01182/impl", byteOffset := 256 }, { name := "places", type := 161, offset := 512, embedded := false, tag := "", pkgPath := "loop.example/g01182/impl", byteOffset := 512 }, { name := "backPlaces", type := 161, offset := 528, embedded := false, tag := "", pkgPath := "loop.example/g01182/impl", byteOffset := 528 }, { name := "mixer", type := 241, offset := 544, embedded := false, tag := "", pkgPath := "loop.example/g01182/impl", byteOffset := 544 }, { name := "backMixer", type := 241, offset := 545, embedded := false, tag := "", pkgPath := "loop.example/g01182/impl", byteOffset := 552 }, { name := "rounds", type := 2, offset := 546, embedded := false, tag := "", pkgPath := "loop.example/g01182/impl", byteOffset := 560 }] [(0, 256), (256, 256), (512, 16), (528, 16), (544, 1), (545, 1), (546, 1)] := by show _ = _; kernel_rfl
theorem Yu : Tryz.prog.follows .mixedOrders = true:=by kernel_rfl
theorem cb11 : Callable Tryz.prog 11:=cbm Tryz.func11
theorem cb14 : Callable Tryz.prog 14:=cbm Tryz.func14
theorem cb18 : Callable Tryz.prog 18:=cbm Tryz.func18
theorem cb20 : Callable Tryz.prog 20:=cbm Tryz.func20
theorem cb65 : Callable Tryz.prog 65:=cbm Tryz.func65
theorem cb68 : Callable Tryz.prog 68:=cbm Tryz.func68
theorem cb75 : Callable Tryz.prog 75:=cbm Tryz.func75
theorem BW : Callable Tryz.prog 182:=cbm Tryz.func182
theorem BO : Callable Tryz.prog 206:=cbm Tryz.func206
theorem zG : Callable Tryz.prog 208:=cbm Tryz.func208
theorem jU : Callable Tryz.prog 215:=cbm Tryz.func215
theorem JU : Callable Tryz.prog 233:=cbm Tryz.func233
def WC (p0 : (List (Vector UInt8 32))) (p1 : Int) : Option (Int) :=
 if (decide ((wr (p1 - (p0.length : Int))) < 0)) = true then (some (-1)) else (some (wr (p1 - (p0.length : Int))))
theorem JF (w0 : World) (p0 : (List (Vector UInt8 32))) (v0_1 : Value) (hv0_1 : Ro w0 p0 [v0_1]) (p1 : Int) (r : Int) (hF : WC p0 p1 = some r) :
  Calls Tryz.prog 40 [v0_1,vI p1].toArray w0 (Rt w0 (vI r)):=by
 refine ce Tryz.func40 ?_
 intro a hE
 have hM:=M.start w0
 unfold WC at hF
 refine Zb (Zc hE rfl fun a hE=>Ze (Zb (Zd hE rfl fun a hE=>Zd hE rfl fun a hE=>Z5 hE rfl Tryz.underlying22 (hM.rd hv0_1) fun a hE=>Zi hE rfl rfl rfl fun a hE=>Zc hE rfl fun a hE=>Ze (wp_seq (Zb (Zd hE rfl fun a hE=>Zi hE rfl rfl rfl fun a hE=>Ze ?_))))))
 refine Zo hE rfl ?_ ?_
 ·intro hb1
  have hF:=Zt hF hb1
  refine Zb (Zc hE rfl fun a hE=>Ze ?_)
  obtain rfl:=Option.some.inj hF
  exact wp_ret (Zv (kr1 hE rfl rfl hM.kept))
 ·intro hb1
  have hF:=Zs hF hb1
  refine wp_skip (Zp (Zb (Zd hE rfl fun a hE=>Zc hE rfl fun a hE=>Ze ?_)))
  obtain rfl:=Option.some.inj hF
  exact wp_ret (kr1 hE rfl rfl hM.kept)
def WJ (p0 : (List UInt8)) (p1 : Int) : Option (Int) :=
 if (decide ((wr (p1 - (p0.length : Int))) < 0)) = true then (some (-1)) else (some (wr (p1 - (p0.length : Int))))
theorem H1 (w0 : World) (p0 : (List UInt8)) (v0_1 : Value) (hv0_1 : Ro w0 p0 [v0_1]) (p1 : Int) (r : Int) (hF : WJ p0 p1 = some r) :
  Calls Tryz.prog 117 [v0_1,vI p1].toArray w0 (Rt w0 (vI r)):=by
 refine ce Tryz.func117 ?_
 intro a hE
 have hM:=M.start w0
 unfold WJ at hF
 refine Zb (Zc hE rfl fun a hE=>Ze (Zb (Zd hE rfl fun a hE=>Zd hE rfl fun a hE=>Z5 hE rfl Tryz.underlying40 (hM.rd hv0_1) fun a hE=>Zi hE rfl rfl rfl fun a hE=>Zc hE rfl fun a hE=>Ze (wp_seq (Zb (Zd hE rfl fun a hE=>Zi hE rfl rfl rfl fun a hE=>Ze ?_))))))
 refine Zo hE rfl ?_ ?_
 ·intro hb1
  have hF:=Zt hF hb1
  refine Zb (Zc hE rfl fun a hE=>Ze ?_)
  obtain rfl:=Option.some.inj hF
  exact wp_ret (Zv (kr1 hE rfl rfl hM.kept))
 ·intro hb1
  have hF:=Zs hF hb1
  refine wp_skip (Zp (Zb (Zd hE rfl fun a hE=>Zc hE rfl fun a hE=>Ze ?_)))
  obtain rfl:=Option.some.inj hF
  exact wp_ret (kr1 hE rfl rfl hM.kept)
def Uy (p0 : (List (List UInt8))) (s6 : Int × Int) : Option (Fl (Int × Int) (Fl Int Int)) :=
 if (decide (s6.2 < (p0.length : Int))) = true then ((idx p0 s6.2).bind fun x11=>(WJ x11 s6.1).bind fun r19=>if (decide (r19 < 0)) = true then (some (Fl.ex (Fl.ex (-1)))) else (some (Fl.nx (r19,wr (s6.2 + 1))))) else (some (Fl.ex (Fl.nx s6.1)))
def Wf (p0 : (List (List UInt8))) (p1 : Int) : Option (Int) :=
 if (decide ((wr (p1 - (p0.length : Int))) < 0)) = true then (some (-1)) else ((ZA (Uy p0) (wr (p1 - (p0.length : Int)),0)).bind fun j2=>j2.el (fun s5=>some s5) (fun r=>some r))
theorem J7 (w0 : World) (p0 : (List (List UInt8))) (v0_1 : Value) (hv0_1 : Ro w0 p0 [v0_1]) (p1 : Int) (r : Int) (hF : Wf p0 p1 = some r) :
  Calls Tryz.prog 41 [v0_1,vI p1].toArray w0 (Rt w0 (vI r)):=by
 refine ce Tryz.func41 ?_
 intro a hE
 have hM:=M.start w0
 unfold Wf at hF
 refine Zb (Zc hE rfl fun a hE=>Ze (Zb (Zd hE rfl fun a hE=>Zd hE rfl fun a hE=>Z5 hE rfl Tryz.underlying23 (hM.rd hv0_1) fun a hE=>Zi hE rfl rfl rfl fun a hE=>Zc hE rfl fun a hE=>Ze (wp_seq (Zb (Zd hE rfl fun a hE=>Zi hE rfl rfl rfl fun a hE=>Ze ?_))))))
 refine Zo hE rfl ?_ ?_
 ·intro hb1
  have hF:=Zt hF hb1
  refine Zb (Zc hE rfl fun a hE=>Ze ?_)
  obtain rfl:=Option.some.inj hF
  exact wp_ret (Zv (kr1 hE rfl rfl hM.kept))
 ·intro hb1
  have hF:=Zs hF hb1
  refine wp_skip (Zp (wp_seq (Zb (Zc hE rfl fun a hE=>Ze ?_))))
  obtain ⟨j2,hl3,hF4⟩:=bind_some hF
  refine ZO (fun a w=>∃ s5 : Int,j2 = Fl.nx s5 ∧ Env 27 a [(1,vI s5)] ∧ M (Old w0) w0 w []) ?_ ?_
  ·skip
   refine wp_block ?_
   refine ZE (fun (s6 : Int × Int) a w=>Env 27 a [(0,v0_1),(1,vI s6.1),(5,vI s6.2)] ∧ M (Old w0) w0 w []) hl3 ⟨hE.sub ⟨rfl,rfl,rfl,trivial⟩,hM⟩ ?_
   rintro s6 a w ⟨hE,hM⟩ o9 hs7 hx8
   unfold Uy at hs7
   refine wp_seq (Zb (Zd hE rfl fun a hE=>Zd hE rfl fun a hE=>Z5 hE rfl Tryz.underlying23 (hM.rd hv0_1) fun a hE=>Zi hE rfl rfl rfl fun a hE=>Ze ?_))
   refine Zo hE rfl ?_ ?_
   ·intro hb10
    have hs7:=Zt hs7 hb10
    refine wp_skip (Zp (wp_seq (wp_block (Zb (Zd hE rfl fun a hE=>Zd hE rfl ?_))))); intro a hE
    obtain ⟨x11,hi13,hs7⟩:=bix hs7
    refine Yd hE rfl rfl Tryz.underlying23 YU (hM.rd hv0_1) hi13.1 ?_; intro a hE
    obtain ⟨cs14,hs15,hA16⟩:=US hv0_1 hi13.2 -- ^
    obtain ⟨u17,rfl⟩:=VE hs15 -- ^
    have h18:=hs15 -- ^
    refine ZB (v:=u17) hE rfl YU rfl (hM.atk hA16 (UY hv0_1 hi13.2)) fun a hE=>Zd hE rfl ?_; intro a hE
    obtain ⟨r19,e20,hs7⟩:=bind_some hs7
    refine Zx hE rfl (cbm Tryz.func117) (H1 _ x11 u17 (hM.rdo h18) s6.1 r19 e20) ?_
    rintro v w a ⟨rfl,hK⟩ hE
    have hM:=hM.keep hK
    refine Zc hE rfl fun a hE=>Ze (Zb (Zd hE rfl fun a hE=>Zi hE rfl rfl rfl fun a hE=>Ze ?_))
    refine Zo hE rfl ?_ ?_
    ·intro hb21
     have hs7:=Zt hs7 hb21
     refine Zb (Zc hE rfl fun a hE=>Ze ?_)
     obtain rfl:=hx8 _ (ois hs7)
     obtain rfl:=Option.some.inj hF4
     exact wp_ret (Xk (Zv (Zv (Xk (Zv (Zv (kr1 hE rfl rfl hM.kept)))))))
    ·intro hb21
     have hs7:=Zs hs7 hb21
     refine wp_skip (Yb (Zp (wp_region_lit (Zd hE rfl fun a hE=>Zi hE rfl rfl rfl fun a hE=>Zc hE rfl fun a hE=>Zg (Zk ?_)))))
     exact ⟨_,(ois hs7),hE.sub ⟨rfl,rfl,rfl,trivial⟩,hM⟩
   ·intro hb10
    have hs7:=Zs hs7 hb10
    refine wp_exit (Zn (Zn (Ye ?_)))
    obtain rfl:=hx8 _ (ois hs7)
    refine Zk ?_
    exact ⟨s6.1,rfl,hE.sub ⟨rfl,trivial⟩,hM⟩
  ·skip
   rintro a w ⟨s5,ht,hE,hM⟩
   subst ht
   have hF4:=Ta hF4
   refine Zp (Zb (Zd hE rfl fun a hE=>Zc hE rfl fun a hE=>Ze ?_))
   obtain rfl:=Option.some.inj hF4
   exact wp_ret (kr1 hE rfl rfl hM.kept)
def XC (p0 : (List Int)) (p1 : Int) : Option (Int) :=
 if (decide ((wr (p1 - (p0.length : Int))) < 0)) = true then (some (-1)) else (some (wr (p1 - (p0.length : Int))))
theorem Hc (w0 : World) (p0 : (List Int)) (v0_1 : Value) (hv0_1 : Ro w0 p0 [v0_1]) (p1 : Int) (r : Int) (hF : XC p0 p1 = some r) :
  Calls Tryz.prog 42 [v0_1,vI p1].toArray w0 (Rt w0 (vI r)):=by
 refine ce Tryz.func42 ?_
 intro a hE
 have hM:=M.start w0
 unfold XC at hF
 refine Zb (Zc hE rfl fun a hE=>Ze (Zb (Zd hE rfl fun a hE=>Zd hE rfl fun a hE=>Z5 hE rfl Tryz.underlying24 (hM.rd hv0_1) fun a hE=>Zi hE rfl rfl rfl fun a hE=>Zc hE rfl fun a hE=>Ze (wp_seq (Zb (Zd hE rfl fun a hE=>Zi hE rfl rfl rfl fun a hE=>Ze ?_))))))
 refine Zo hE rfl ?_ ?_
 ·intro hb1
  have hF:=Zt hF hb1
  refine Zb (Zc hE rfl fun a hE=>Ze ?_)
  obtain rfl:=Option.some.inj hF
  exact wp_ret (Zv (kr1 hE rfl rfl hM.kept))
 ·intro hb1
  have hF:=Zs hF hb1
  refine wp_skip (Zp (Zb (Zd hE rfl fun a hE=>Zc hE rfl fun a hE=>Ze ?_)))
  obtain rfl:=Option.some.inj hF
  exact wp_ret (kr1 hE rfl rfl hM.kept)
def Ti (p0 : GBlobs) (p1 : Int) : Option (Int) :=
 (WC p0.Keys p1).bind fun r3=>if (decide (r3 < 0)) = true then (some (-1)) else ((Wf p0.Data r3).bind fun r6=>if (decide (r6 < 0)) = true then (some (-1)) else ((XC p0.Counts r6).bind fun r9=>if (decide (r9 < 0)) = true then (some (-1)) else (some r9)))
theorem HZ (w0 : World) (p0 : GBlobs) (v0_1 : Value) (hv0_1 : Ro w0 p0.Keys [v0_1]) (v0_2 : Value) (hv0_2 : Ro w0 p0.Data [v0_2]) (v0_3 : Value) (hv0_3 : Ro w0 p0.Counts [v0_3]) (p1 : Int) (r : Int) (hF : Ti p0 p1 = some r) :
  Calls Tryz.prog 9 [(Value.agg (cat [[v0_1],[v0_2],[v0_3]]).toArray),vI p1].toArray w0 (Rt w0 (vI r)):=by
 refine ce Tryz.func9 ?_
 intro a hE
 have hM:=M.start w0
 unfold Ti at hF
 refine Zb (Ya (cs:=cat [[v0_1],[v0_2],[v0_3]]) hE hM Za ld rfl rfl fun b1 w a hM hE=>Zc hE rfl fun a hE=>Ze (Zb (Zy hE rfl (kj) fun a hE=>ZB (v:=v0_1) hE rfl ty22 rfl (At.cat (pre:=[]) hM.rawAt0 cl0) fun a hE=>Zd hE rfl ?_))); intro a hE
 obtain ⟨r3,e4,hF⟩:=bind_some hF
 refine Zx hE rfl (cbm Tryz.func40) (JF _ p0.Keys v0_1 (hM.rdo hv0_1) p1 r3 e4) ?_
 rintro v w a ⟨rfl,hK⟩ hE
 have hM:=hM.keep hK
 refine Zc hE rfl fun a hE=>Ze (wp_seq (Zb (Zd hE rfl fun a hE=>Zi hE rfl rfl rfl fun a hE=>Ze ?_)))
 refine Zo hE rfl ?_ ?_
 ·intro hb5
  have hF:=Zt hF hb5
  refine Zb (Zc hE rfl fun a hE=>Ze ?_)
  obtain rfl:=Option.some.inj hF
  exact wp_ret (Zv (kr1 hE rfl rfl hM.kept))
 ·intro hb5
  have hF:=Zs hF hb5
  refine wp_skip (Zp (Zb (Zy hE rfl (j0) fun a hE=>ZB (v:=v0_2) hE rfl U8 rfl (At.cat (pre:=[[v0_1]]) hM.rawAt0 ck) fun a hE=>Zd hE rfl ?_))); intro a hE
  obtain ⟨r6,e7,hF⟩:=bind_some hF
  refine Zx hE rfl (cbm Tryz.func41) (J7 _ p0.Data v0_2 (hM.rdo hv0_2) r3 r6 e7) ?_
  rintro v w a ⟨rfl,hK⟩ hE
  have hM:=hM.keep hK
  refine Zc hE rfl fun a hE=>Ze (wp_seq (Zb (Zd hE rfl fun a hE=>Zi hE rfl rfl rfl fun a hE=>Ze ?_)))
  refine Zo hE rfl ?_ ?_
  ·intro hb8
   have hF:=Zt hF hb8
   refine Zb (Zc hE rfl fun a hE=>Ze ?_)
   obtain rfl:=Option.some.inj hF
   exact wp_ret (Zv (kr1 hE rfl rfl hM.kept))
  ·intro hb8
   have hF:=Zs hF hb8
   refine wp_skip (Zp (Zb (Zy hE rfl (ki) fun a hE=>ZB (v:=v0_3) hE rfl U7 rfl (At.cat (pre:=[[v0_1],[v0_2]]) hM.rawAt0 ck) fun a hE=>Zd hE rfl ?_))); intro a hE
   obtain ⟨r9,e10,hF⟩:=bind_some hF
   refine Zx hE rfl (cbm Tryz.func42) (Hc _ p0.Counts v0_3 (hM.rdo hv0_3) r6 r9 e10) ?_
   rintro v w a ⟨rfl,hK⟩ hE
   have hM:=hM.keep hK
   refine Zc hE rfl fun a hE=>Ze (wp_seq (Zb (Zd hE rfl fun a hE=>Zi hE rfl rfl rfl fun a hE=>Ze ?_)))
   refine Zo hE rfl ?_ ?_
   ·intro hb11
    have hF:=Zt hF hb11
    refine Zb (Zc hE rfl fun a hE=>Ze ?_)
    obtain rfl:=Option.some.inj hF
    exact wp_ret (Zv (kr1 hE rfl rfl hM.kept))
   ·intro hb11
    have hF:=Zs hF hb11
    refine wp_skip (Zp (Zb (Zd hE rfl fun a hE=>Zc hE rfl fun a hE=>Ze ?_)))
    obtain rfl:=Option.some.inj hF
    exact wp_ret (kr1 hE rfl rfl hM.kept)
def Uv (p0 : (Vector UInt8 32)) (s10 : (Vector UInt8 32) × Int) : Option (Fl ((Vector UInt8 32) × Int) (Vector UInt8 32)) :=
 if (decide (s10.2 < 32)) = true then ((ZI p0 s10.2).bind fun x16=>(ZI s10.1 s10.2).bind fun x19=>some (Fl.nx ((s10.1.setIfInBounds (s10.2).toNat x16),wr (s10.2 + 1)))) else (some (Fl.ex s10.1))
def WY (p0 : (Vector UInt8 32)) : Option ((Vector UInt8 32)) :=
 (ZA (Uv p0) ((Vector.replicate 32 (0 : UInt8)),0)).bind fun j7=>some j7
theorem Hp (w0 : World) (p0 : (Vector UInt8 32)) (r : (Vector UInt8 32)) (hF : WY p0 = some r) :
  Calls Tryz.prog 12 [(Value.agg (enc p0).toArray)].toArray w0 (Rt w0 (Value.agg (enc r).toArray)):=by
 refine ce Tryz.func12 ?_
 intro a hE
 have hM:=M.start w0
 unfold WY at hF
 refine Zb (Ya (cs:=enc p0) hE hM Za ld rfl rfl fun b1 w a hM hE=>Zz hE hM ZL fun b3 w a hM hE=>Ze (Zb (Zz hE hM ZL fun b5 w a hM hE=>Ze (wp_seq (Zb (Zc hE rfl fun a hE=>Ze ?_))))))
 obtain ⟨j7,hl8,hF9⟩:=bind_some hF
 refine ZO (fun a w=>Env 15 a [(2,(ptr b3 0)),(3,(ptr b5 0))] ∧ M (Old w0) w0 w [raw b5 (enc j7),raw b3 (enc (Vector.replicate 32 (0 : UInt8)))]) ?_ ?_
 ·skip
  refine wp_block ?_
  refine ZE (fun (s10 : (Vector UInt8 32) × Int) a w=>Env 15 a [(1,(ptr b1 0)),(2,(ptr b3 0)),(3,(ptr b5 0)),(4,vI s10.2)] ∧ M (Old w0) w0 w [raw b5 (enc s10.1),raw b3 (enc (Vector.replicate 32 (0 : UInt8))),raw b1 (enc p0)]) hl8 ⟨hE.sub ⟨rfl,rfl,rfl,rfl,trivial⟩,hM⟩ ?_
  rintro s10 a w ⟨hE,hM⟩ o13 hs11 hx12
  unfold Uv at hs11
  refine wp_seq (Zb (Zd hE rfl fun a hE=>Zi hE rfl rfl rfl fun a hE=>Ze ?_))
  refine Zo hE rfl ?_ ?_
  ·intro hb14
   have hs11:=Zt hs11 hb14
   refine wp_skip (Zp (wp_seq (wp_block (wp_region_lit (Zd hE rfl fun a hE=>Zd hE rfl ?_))))); intro a hE
   obtain ⟨x16,hi15,hs11⟩:=bvx hs11
   refine ZF hE rfl rfl Tryz.underlying27 ty5 hi15.1 fun a hE=>ZB (v:=(vB x16)) hE rfl ty5 rfl (At.vec hM.rawAt2 hi15.2) ?_; intro a hE
   obtain ⟨x19,hi18,hs11⟩:=bvx hs11
   refine ZF hE rfl rfl Tryz.underlying35 ty5 hi18.1 fun a hE=>Zm (seg:=[vB x16]) (cs':=enc (s10.1.setIfInBounds (s10.2).toNat x16)) hE hM Za rfl rfl rfl ty5 rfl (ZS (v:=s10.1) (x:=x16) hi18.1) (Flat.cell (x16 : UInt8)) (ZD (v:=s10.1) (x:=x16) hi18.1) fun w a hM hE=>Zg (Yb (Zp (wp_region_lit (Zd hE rfl fun a hE=>Zi hE rfl rfl rfl fun a hE=>Zc hE rfl fun a hE=>Zg (Zk ?_)))))
   exact ⟨_,(ois hs11),hE.sub ⟨rfl,rfl,rfl,rfl,trivial⟩,hM⟩
  ·intro hb14
   have hs11:=Zs hs11 hb14
   refine wp_exit (Zn (Zn (Ye ?_)))
   obtain rfl:=hx12 _ (ois hs11)
   refine Zk ?_
   have hM:=M.fst (l:=[_,_]) hM.pull1.pull1
   exact ⟨hE.sub ⟨rfl,rfl,trivial⟩,hM⟩
 ·skip
  rintro a w ⟨hE,hM⟩
  refine Zp (Zb (Zr hE rfl ZL rfl hM.rawAt0 (Flat.len _) ?_)); intro a hE
  have hM:=hM.pull1
  refine Zm (seg:=enc j7) (cs':=enc j7) hE hM Za rfl rfl rfl ZL (Flat.len _) (zle flq) (Flat.cell _) (Zh flq) fun w a hM hE=>Ze ?_
  obtain rfl:=Option.some.inj hF9
  have hq22 : Z6 Tryz.prog _ _ (.cell 2 35) _:=ZK hE rfl ZL rfl hM.rawAt0 (Flat.len _) rfl
  exact wp_ret (ZP hE rfl hq22 ⟨_,rfl,rfl,hM.kept⟩)
def V2 (p0 : (List (Vector UInt8 32))) (s10 : (List (Vector UInt8 32)) × Int) : Option (Fl ((List (Vector UInt8 32)) × Int) (List (Vector UInt8 32))) :=
 if (decide (s10.2 < (p0.length : Int))) = true then ((idx p0 s10.2).bind fun x17=>(WY x17).bind fun r20=>(idx s10.1 s10.2).bind fun x22=>some (Fl.nx ((s10.1.set (s10.2).toNat r20),wr (s10.2 + 1)))) else (some (Fl.ex s10.1))
def Vy (p0 : (List (Vector UInt8 32))) : Option ((List (Vector UInt8 32))) :=
 (mkS 32 (Vector.replicate 32 (0 : UInt8)) (p0.length : Int)).bind fun l1=>(ZA (V2 p0) (l1,0)).bind fun j5=>some j5
theorem JQ (w0 : World) (p0 : (List (Vector UInt8 32))) (v0_1 : Value) (hv0_1 : Ro w0 p0 [v0_1]) (r : (List (Vector UInt8 32))) (hF : Vy p0 = some r) :
  Calls Tryz.prog 46 [v0_1].toArray w0 (fun en w'=>∃ v,en = .returned v ∧ (∃ (y1 : Value),v = y1 ∧ Fr w0 w' [osl NoB (r : List (Vector UInt8 32)) y1] ∧ Kept (Old w0) w0 w')):=by
 refine ce Tryz.func46 ?_
 intro a hE
 have hM:=M.start w0
 unfold Vy at hF
 refine Zb (Zc hE rfl fun a hE=>Ze (Zb (Zd hE rfl fun a hE=>Z5 hE rfl Tryz.underlying22 (hM.rd hv0_1) ?_))); intro a hE
 obtain ⟨l1,e2,hF⟩:=bind_some hF
 refine Au hE hM Za ld rfl rfl Tryz.underlying29 ZL rfl (by decide) (fun _=>TG.2 ⟨rfl,rfl⟩) e2 fun u3 w a hM hE=>Zc hE rfl fun a hE=>Ze (wp_seq (Zb (Zc hE rfl fun a hE=>Ze ?_)))
 obtain ⟨j5,hl6,hF7⟩:=bind_some hF
 refine ZO (fun a w=>∃ (u8 : Value),Env 23 a [(3,u8)] ∧ M (Old w0) w0 w [osl NoB (j5 : List (Vector UInt8 32)) u8]) ?_ ?_
 ·skip
  refine wp_block ?_
  refine ZE (fun (s10 : (List (Vector UInt8 32)) × Int) a w=>∃ (u11 : Value),Env 23 a [(0,v0_1),(3,u11),(4,vI s10.2)] ∧ M (Old w0) w0 w [osl NoB (s10.1 : List (Vector UInt8 32)) u11]) hl6 ⟨u3,hE.sub ⟨rfl,rfl,rfl,trivial⟩,hM⟩ ?_
  rintro s10 a w ⟨u11,hE,hM⟩ o15 hs13 hx14
  unfold V2 at hs13
  refine wp_seq (Zb (Zd hE rfl fun a hE=>Zd hE rfl fun a hE=>Z5 hE rfl Tryz.underlying22 (hM.rd hv0_1) fun a hE=>Zi hE rfl rfl rfl fun a hE=>Ze ?_))
  refine Zo hE rfl ?_ ?_
  ·intro hb16
   have hs13:=Zt hs13 hb16
   refine wp_skip (Zp (wp_seq (wp_block (wp_region_lit (Zd hE rfl fun a hE=>Zd hE rfl fun a hE=>Zd hE rfl fun a hE=>Zd hE rfl ?_))))); intro a hE
   obtain ⟨x17,hi19,hs13⟩:=bix hs13
   refine Yd hE rfl rfl Tryz.underlying22 ty27 (hM.rd hv0_1) hi19.1 fun a hE=>Zr hE rfl ty27 rfl (Yt (hM.rd hv0_1) hi19.2) (Flat.len _) ?_; intro a hE
   obtain ⟨r20,e21,hs13⟩:=bind_some hs13
   refine Zx hE rfl (cbm Tryz.func12) (Hp _ x17 r20 e21) ?_
   rintro v w a ⟨rfl,hK⟩ hE
   have hM:=hM.keep hK
   obtain ⟨x22,hi24,hs13⟩:=bix hs13
   refine Yd hE rfl rfl Tryz.underlying29 ZL (hM.sl (pre:=[]) noB) hi24.1 fun a hE=>TA (i:=(s10.2).toNat) (k0:=0) (seg:=enc r20) (xo:=x22) (xn:=r20) hE hM Za rfl rfl rfl ZL (Flat.len _) (Flat.cell _) hi24.2 (QD (m:=32) (Flat.len _) (by decide)) (Zh flq) fun w a hM hE=>Zg (Yb (Zp (wp_region_lit (Zd hE rfl fun a hE=>Zi hE rfl rfl rfl fun a hE=>Zc hE rfl fun a hE=>Zg (Zk ?_)))))
   exact ⟨_,(ois hs13),u11,hE.sub ⟨rfl,rfl,rfl,trivial⟩,hM⟩
  ·intro hb16
   have hs13:=Zs hs13 hb16
   refine wp_exit (Zn (Zn (Ye ?_)))
   obtain rfl:=hx14 _ (ois hs13)
   refine Zk ?_
   exact ⟨u11,hE.sub ⟨rfl,trivial⟩,hM⟩
 ·skip
  rintro a w ⟨u8,hE,hM⟩
  refine Zp (Zb (Zd hE rfl fun a hE=>Zc hE rfl fun a hE=>Ze ?_))
  obtain rfl:=Option.some.inj hF7
  exact wp_ret (ZP hE rfl (ZU hE rfl) ⟨_,rfl,u8,rfl,hM.outF (Yf Xi),hM.kept⟩)
def UU (p0 : (List UInt8)) (s10 : (List UInt8) × Int) : Option (Fl ((List UInt8) × Int) (List UInt8)) :=
 if (decide (s10.2 < (p0.length : Int))) = true then ((idx p0 s10.2).bind fun x17=>(idx s10.1 s10.2).bind fun x20=>some (Fl.nx ((s10.1.set (s10.2).toNat x17),wr (s10.2 + 1)))) else (some (Fl.ex s10.1))
def YZ (p0 : (List UInt8)) : Option ((List UInt8)) :=
 (mkS 1 (0 : UInt8) (p0.length : Int)).bind fun l1=>(ZA (UU p0) (l1,0)).bind fun j5=>some j5
theorem Uh (w0 : World) (p0 : (List UInt8)) (v0_1 : Value) (hv0_1 : Ro w0 p0 [v0_1]) (r : (List UInt8)) (hF : YZ p0 = some r) :
  Calls Tryz.prog 18 [v0_1].toArray w0 (fun en w'=>∃ v,en = .returned v ∧ (∃ (y1 : Value),v = y1 ∧ Fr w0 w' [osl NoB (r : List UInt8) y1] ∧ Kept (Old w0) w0 w')):=by
 refine ce Tryz.func18 ?_
 intro a hE
 have hM:=M.start w0
 unfold YZ at hF
 refine Zb (Zc hE rfl fun a hE=>Ze (Zb (Zd hE rfl fun a hE=>Z5 hE rfl Tryz.underlying40 (hM.rd hv0_1) ?_))); intro a hE
 obtain ⟨l1,e2,hF⟩:=bind_some hF
 refine Au hE hM Za ld rfl rfl Tryz.underlying40 ty5 rfl (by decide) (fun _=>TG.2 ⟨rfl,rfl⟩) e2 fun u3 w a hM hE=>Zc hE rfl fun a hE=>Ze (wp_seq (Zb (Zc hE rfl fun a hE=>Ze ?_)))
 obtain ⟨j5,hl6,hF7⟩:=bind_some hF
 refine ZO (fun a w=>∃ (u8 : Value),Env 22 a [(3,u8)] ∧ M (Old w0) w0 w [osl NoB (j5 : List UInt8) u8]) ?_ ?_
 ·skip
  refine wp_block ?_
  refine ZE (fun (s10 : (List UInt8) × Int) a w=>∃ (u11 : Value),Env 22 a [(0,v0_1),(3,u11),(4,vI s10.2)] ∧ M (Old w0) w0 w [osl NoB (s10.1 : List UInt8) u11]) hl6 ⟨u3,hE.sub ⟨rfl,rfl,rfl,trivial⟩,hM⟩ ?_
  rintro s10 a w ⟨u11,hE,hM⟩ o15 hs13 hx14
  unfold UU at hs13
  refine wp_seq (Zb (Zd hE rfl fun a hE=>Zd hE rfl fun a hE=>Z5 hE rfl Tryz.underlying40 (hM.rd hv0_1) fun a hE=>Zi hE rfl rfl rfl fun a hE=>Ze ?_))
  refine Zo hE rfl ?_ ?_
  ·intro hb16
   have hs13:=Zt hs13 hb16
   refine wp_skip (Zp (wp_seq (wp_block (wp_region_lit (Zd hE rfl fun a hE=>Zd hE rfl fun a hE=>Zd hE rfl fun a hE=>Zd hE rfl ?_))))); intro a hE
   obtain ⟨x17,hi19,hs13⟩:=bix hs13
   refine Yd hE rfl rfl Tryz.underlying40 ty5 (hM.rd hv0_1) hi19.1 fun a hE=>ZB (v:=(vB x17)) hE rfl ty5 rfl (Yt (hM.rd hv0_1) hi19.2) ?_; intro a hE
   obtain ⟨x20,hi22,hs13⟩:=bix hs13
   refine Yd hE rfl rfl Tryz.underlying40 ty5 (hM.sl (pre:=[]) noB) hi22.1 fun a hE=>TA (i:=(s10.2).toNat) (k0:=0) (seg:=[vB x17]) (xo:=x20) (xn:=x17) hE hM Za rfl rfl rfl ty5 rfl (Flat.cell (x17 : UInt8)) hi22.2 (QD (m:=1) rfl (by decide)) (Zh rfl) fun w a hM hE=>Zg (Yb (Zp (wp_region_lit (Zd hE rfl fun a hE=>Zi hE rfl rfl rfl fun a hE=>Zc hE rfl fun a hE=>Zg (Zk ?_)))))
   exact ⟨_,(ois hs13),u11,hE.sub ⟨rfl,rfl,rfl,trivial⟩,hM⟩
  ·intro hb16
   have hs13:=Zs hs13 hb16
   refine wp_exit (Zn (Zn (Ye ?_)))
   obtain rfl:=hx14 _ (ois hs13)
   refine Zk ?_
   exact ⟨u11,hE.sub ⟨rfl,trivial⟩,hM⟩
 ·skip
  rintro a w ⟨u8,hE,hM⟩
  refine Zp (Zb (Zd hE rfl fun a hE=>Zc hE rfl fun a hE=>Ze ?_))
  obtain rfl:=Option.some.inj hF7
  exact wp_ret (ZP hE rfl (ZU hE rfl) ⟨_,rfl,u8,rfl,hM.outF (Yf Xi),hM.kept⟩)
def UB (p0 : (List (List UInt8))) (s10 : (List (List UInt8)) × Int) : Option (Fl ((List (List UInt8)) × Int) (List (List UInt8))) :=
 if (decide (s10.2 < (p0.length : Int))) = true then ((idx p0 s10.2).bind fun x17=>(YZ x17).bind fun r25=>(idx s10.1 s10.2).bind fun x28=>some (Fl.nx ((s10.1.set (s10.2).toNat r25),wr (s10.2 + 1)))) else (some (Fl.ex s10.1))
def VT (p0 : (List (List UInt8))) : Option ((List (List UInt8))) :=
 (mkS 24 ([] : (List UInt8)) (p0.length : Int)).bind fun l1=>(ZA (UB p0) (l1,0)).bind fun j5=>some j5
theorem Hq (w0 : World) (p0 : (List (List UInt8))) (v0_1 : Value) (hv0_1 : Ro w0 p0 [v0_1]) (r : (List (List UInt8))) (hF : VT p0 = some r) :
  Calls Tryz.prog 47 [v0_1].toArray w0 (fun en w'=>∃ v,en = .returned v ∧ (∃ (y1 : Value),v = y1 ∧ Fr w0 w' [osl NoB (r : List (List UInt8)) y1] ∧ Kept (Old w0) w0 w')):=by
 refine ce Tryz.func47 ?_
 intro a hE
 have hM:=M.start w0
 unfold VT at hF
 refine Zb (Zc hE rfl fun a hE=>Ze (Zb (Zd hE rfl fun a hE=>Z5 hE rfl Tryz.underlying23 (hM.rd hv0_1) ?_))); intro a hE
 obtain ⟨l1,e2,hF⟩:=bind_some hF
 refine Au hE hM Za ld rfl rfl Tryz.underlying23 YU rfl (by decide) (fun _=>Qp) e2 fun u3 w a hM hE=>Zc hE rfl fun a hE=>Ze (wp_seq (Zb (Zc hE rfl fun a hE=>Ze ?_)))
 obtain ⟨j5,hl6,hF7⟩:=bind_some hF
 refine ZO (fun a w=>∃ (u8 : Value),Env 23 a [(3,u8)] ∧ M (Old w0) w0 w [osl NoB (j5 : List (List UInt8)) u8]) ?_ ?_
 ·skip
  refine wp_block ?_
  refine ZE (fun (s10 : (List (List UInt8)) × Int) a w=>∃ (u11 : Value),Env 23 a [(0,v0_1),(3,u11),(4,vI s10.2)] ∧ M (Old w0) w0 w [osl NoB (s10.1 : List (List UInt8)) u11]) hl6 ⟨u3,hE.sub ⟨rfl,rfl,rfl,trivial⟩,hM⟩ ?_
  rintro s10 a w ⟨u11,hE,hM⟩ o15 hs13 hx14
  unfold UB at hs13
  refine wp_seq (Zb (Zd hE rfl fun a hE=>Zd hE rfl fun a hE=>Z5 hE rfl Tryz.underlying23 (hM.rd hv0_1) fun a hE=>Zi hE rfl rfl rfl fun a hE=>Ze ?_))
  refine Zo hE rfl ?_ ?_
  ·intro hb16
   have hs13:=Zt hs13 hb16
   refine wp_skip (Zp (wp_seq (wp_block (wp_region_lit (Zd hE rfl fun a hE=>Zd hE rfl fun a hE=>Zd hE rfl fun a hE=>Zd hE rfl ?_))))); intro a hE
   obtain ⟨x17,hi19,hs13⟩:=bix hs13
   refine Yd hE rfl rfl Tryz.underlying23 YU (hM.rd hv0_1) hi19.1 ?_; intro a hE
   obtain ⟨cs20,hs21,hA22⟩:=US hv0_1 hi19.2 -- ^
   obtain ⟨u23,rfl⟩:=VE hs21 -- ^
   have h24:=hs21 -- ^
   refine ZB (v:=u23) hE rfl YU rfl (hM.atk hA22 (UY hv0_1 hi19.2)) ?_; intro a hE
   obtain ⟨r25,e26,hs13⟩:=bind_some hs13
   refine Zx hE rfl cb18 (Uh _ x17 u23 (hM.rdo h24) r25 e26) ?_
   rintro u27 w a ⟨_,rfl,hFr,hK⟩ hE
   have hM:=hM.add hK hFr
   obtain ⟨x28,hi30,hs13⟩:=bix hs13
   refine Yd hE rfl rfl Tryz.underlying23 YU (hM.sl (pre:=[_]) noB) hi30.1 ?_; intro a hE
   have hc31:=YC (hM.sl (pre:=[]) noB)
   have hM:=((hM.pack1 (it:=own NoB r25 ([u27])) (V5 noB) (fun f0 q0=>(XV.sat q0))).pull1).pull1
   refine kN (i:=(s10.2).toNat) (seg:=[u27]) hE hM noB Za rfl rfl hc31 YU (by omega) fun w a hM hE=>Zg (Yb (Zp (wp_region_lit (Zd hE rfl fun a hE=>Zi hE rfl rfl rfl fun a hE=>Zc hE rfl fun a hE=>Zg (Zk ?_)))))
   exact ⟨_,(ois hs13),u11,hE.sub ⟨rfl,rfl,rfl,trivial⟩,hM⟩
  ·intro hb16
   have hs13:=Zs hs13 hb16
   refine wp_exit (Zn (Zn (Ye ?_)))
   obtain rfl:=hx14 _ (ois hs13)
   refine Zk ?_
   exact ⟨u11,hE.sub ⟨rfl,trivial⟩,hM⟩
 ·skip
  rintro a w ⟨u8,hE,hM⟩
  refine Zp (Zb (Zd hE rfl fun a hE=>Zc hE rfl fun a hE=>Ze ?_))
  obtain rfl:=Option.some.inj hF7
  exact wp_ret (ZP hE rfl (ZU hE rfl) ⟨_,rfl,u8,rfl,hM.outF (Yf Xi),hM.kept⟩)
def UA (p0 : (List Int)) (s10 : (List Int) × Int) : Option (Fl ((List Int) × Int) (List Int)) :=
 if (decide (s10.2 < (p0.length : Int))) = true then ((idx p0 s10.2).bind fun x17=>(idx s10.1 s10.2).bind fun x20=>some (Fl.nx ((s10.1.set (s10.2).toNat x17),wr (s10.2 + 1)))) else (some (Fl.ex s10.1))
def VO (p0 : (List Int)) : Option ((List Int)) :=
 (mkS 8 (0 : Int) (p0.length : Int)).bind fun l1=>(ZA (UA p0) (l1,0)).bind fun j5=>some j5
theorem Hk (w0 : World) (p0 : (List Int)) (v0_1 : Value) (hv0_1 : Ro w0 p0 [v0_1]) (r : (List Int)) (hF : VO p0 = some r) :
  Calls Tryz.prog 48 [v0_1].toArray w0 (fun en w'=>∃ v,en = .returned v ∧ (∃ (y1 : Value),v = y1 ∧ Fr w0 w' [osl NoB (r : List Int) y1] ∧ Kept (Old w0) w0 w')):=by
 refine ce Tryz.func48 ?_
 intro a hE
 have hM:=M.start w0
 unfold VO at hF
 refine Zb (Zc hE rfl fun a hE=>Ze (Zb (Zd hE rfl fun a hE=>Z5 hE rfl Tryz.underlying24 (hM.rd hv0_1) ?_))); intro a hE
 obtain ⟨l1,e2,hF⟩:=bind_some hF
 refine Au hE hM Za ld rfl rfl Tryz.underlying24 ty2 rfl (by decide) (fun _=>TG.2 ⟨rfl,rfl⟩) e2 fun u3 w a hM hE=>Zc hE rfl fun a hE=>Ze (wp_seq (Zb (Zc hE rfl fun a hE=>Ze ?_)))
 obtain ⟨j5,hl6,hF7⟩:=bind_some hF
 refine ZO (fun a w=>∃ (u8 : Value),Env 22 a [(3,u8)] ∧ M (Old w0) w0 w [osl NoB (j5 : List Int) u8]) ?_ ?_
 ·skip
  refine wp_block ?_
  refine ZE (fun (s10 : (List Int) × Int) a w=>∃ (u11 : Value),Env 22 a [(0,v0_1),(3,u11),(4,vI s10.2)] ∧ M (Old w0) w0 w [osl NoB (s10.1 : List Int) u11]) hl6 ⟨u3,hE.sub ⟨rfl,rfl,rfl,trivial⟩,hM⟩ ?_
  rintro s10 a w ⟨u11,hE,hM⟩ o15 hs13 hx14
  unfold UA at hs13
  refine wp_seq (Zb (Zd hE rfl fun a hE=>Zd hE rfl fun a hE=>Z5 hE rfl Tryz.underlying24 (hM.rd hv0_1) fun a hE=>Zi hE rfl rfl rfl fun a hE=>Ze ?_))
  refine Zo hE rfl ?_ ?_
  ·intro hb16
   have hs13:=Zt hs13 hb16
   refine wp_skip (Zp (wp_seq (wp_block (wp_region_lit (Zd hE rfl fun a hE=>Zd hE rfl fun a hE=>Zd hE rfl fun a hE=>Zd hE rfl ?_))))); intro a hE
   obtain ⟨x17,hi19,hs13⟩:=bix hs13
   refine Yd hE rfl rfl Tryz.underlying24 ty2 (hM.rd hv0_1) hi19.1 fun a hE=>ZB (v:=(vI x17)) hE rfl ty2 rfl (Yt (hM.rd hv0_1) hi19.2) ?_; intro a hE
   obtain ⟨x20,hi22,hs13⟩:=bix hs13
   refine Yd hE rfl rfl Tryz.underlying24 ty2 (hM.sl (pre:=[]) noB) hi22.1 fun a hE=>TA (i:=(s10.2).toNat) (k0:=0) (seg:=[vI x17]) (xo:=x20) (xn:=x17) hE hM Za rfl rfl rfl ty2 rfl (Flat.cell (x17 : Int)) hi22.2 (QD (m:=1) rfl (by decide)) (Zh rfl) fun w a hM hE=>Zg (Yb (Zp (wp_region_lit (Zd hE rfl fun a hE=>Zi hE rfl rfl rfl fun a hE=>Zc hE rfl fun a hE=>Zg (Zk ?_)))))
   exact ⟨_,(ois hs13),u11,hE.sub ⟨rfl,rfl,rfl,trivial⟩,hM⟩
  ·intro hb16
   have hs13:=Zs hs13 hb16
   refine wp_exit (Zn (Zn (Ye ?_)))
   obtain rfl:=hx14 _ (ois hs13)
   refine Zk ?_
   exact ⟨u11,hE.sub ⟨rfl,trivial⟩,hM⟩
 ·skip
  rintro a w ⟨u8,hE,hM⟩
  refine Zp (Zb (Zd hE rfl fun a hE=>Zc hE rfl fun a hE=>Ze ?_))
  obtain rfl:=Option.some.inj hF7
  exact wp_ret (ZP hE rfl (ZU hE rfl) ⟨_,rfl,u8,rfl,hM.outF (Yf Xi),hM.kept⟩)
def X0 (p0 : GBlobs) : Option (GBlobs) :=
 (Vy p0.Keys).bind fun r7=>(VT p0.Data).bind fun r10=>(VO p0.Counts).bind fun r13=>some (⟨r7,r10,r13⟩ : GBlobs)
theorem Te (w0 : World) (p0 : GBlobs) (v0_1 : Value) (hv0_1 : Ro w0 p0.Keys [v0_1]) (v0_2 : Value) (hv0_2 : Ro w0 p0.Data [v0_2]) (v0_3 : Value) (hv0_3 : Ro w0 p0.Counts [v0_3]) (r : GBlobs) (hF : X0 p0 = some r) :
  Calls Tryz.prog 11 [(Value.agg (cat [[v0_1],[v0_2],[v0_3]]).toArray)].toArray w0 (fun en w'=>∃ v,en = .returned v ∧ (∃ (y1 : Value) (y2 : Value) (y3 : Value),v = (Value.agg (cat [[y1],[y2],[y3]]).toArray) ∧ Fr w0 w' [osl NoB (r.Keys : List (Vector UInt8 32)) y1,osl NoB (r.Data : List (List UInt8)) y2,osl NoB (r.Counts : List Int) y3] ∧ Kept (Old w0) w0 w')):=by
 refine ce Tryz.func11 ?_
 intro a hE
 have hM:=M.start w0
 unfold X0 at hF
 refine Zb (Ya (cs:=cat [[v0_1],[v0_2],[v0_3]]) hE hM Za ld rfl rfl fun b1 w a hM hE=>Zz hE hM Yv fun b3 w a hM hE=>Ze (Zb (Zz hE hM Yv fun b5 w a hM hE=>Ze (Zb (Zy hE rfl (kj) fun a hE=>ZB (v:=v0_1) hE rfl ty22 rfl (At.cat (pre:=[]) hM.rawAt2 cl0) ?_))))); intro a hE
 obtain ⟨r7,e8,hF⟩:=bind_some hF
 refine Zx hE rfl (cbm Tryz.func46) (JQ _ p0.Keys v0_1 (hM.rdo hv0_1) r7 e8) ?_
 rintro u9 w a ⟨_,rfl,hFr,hK⟩ hE
 have hM:=hM.add hK hFr
 refine Zy hE rfl (XL) ?_; intro a hE
 have hM:=hM.pull1
 refine Zm (seg:=[u9]) hE hM Za rfl rfl (YC (hM.sl (pre:=[_]) noB)) To rfl (Us (pre:=[]) cl0 rfl) (Rep.cell (hM.sl (pre:=[_]) noB)) (XO (pre:=[]) cl0 rfl) fun w a hM hE=>Ze (Zb (Zy hE rfl (j0) fun a hE=>ZB (v:=v0_2) hE rfl U8 rfl (At.cat (pre:=[[v0_1]]) hM.rawAt3 ck) ?_)); intro a hE
 obtain ⟨r10,e11,hF⟩:=bind_some hF
 refine Zx hE rfl (cbm Tryz.func47) (Hq _ p0.Data v0_2 (hM.rdo hv0_2) r10 e11) ?_
 rintro u12 w a ⟨_,rfl,hFr,hK⟩ hE
 have hM:=hM.add hK hFr
 refine Zy hE rfl (We) ?_; intro a hE
 have hM:=hM.pull1
 refine Zm (seg:=[u12]) hE hM Za rfl rfl (YC (hM.sl (pre:=[_]) noB)) U8 rfl (Us (pre:=[[u9]]) ck rfl) (Rep.cell (hM.sl (pre:=[_]) noB)) (XO (pre:=[[u9]]) ck rfl) fun w a hM hE=>Ze (Zb (Zy hE rfl (ki) fun a hE=>ZB (v:=v0_3) hE rfl U7 rfl (At.cat (pre:=[[v0_1],[v0_2]]) hM.rawAt4 ck) ?_)); intro a hE
 obtain ⟨r13,e14,hF⟩:=bind_some hF
 refine Zx hE rfl (cbm Tryz.func48) (Hk _ p0.Counts v0_3 (hM.rdo hv0_3) r13 e14) ?_
 rintro u15 w a ⟨_,rfl,hFr,hK⟩ hE
 have hM:=hM.add hK hFr
 refine Zy hE rfl (Wb) ?_; intro a hE
 have hM:=hM.pull1
 refine Zm (seg:=[u15]) hE hM Za rfl rfl (YC (hM.sl (pre:=[_]) noB)) U7 rfl (Us (pre:=[[u9],[u12]]) ck rfl) (Rep.cell (hM.sl (pre:=[_]) noB)) (XO (pre:=[[u9],[u12]]) ck rfl) fun w a hM hE=>Ze (Zb (Zr hE rfl Yv rfl hM.rawAt0 cq ?_)); intro a hE
 have hM:=hM.pull4
 refine Zm (seg:=cat [[u9],[u12],[u15]]) (cs':=cat [[u9],[u12],[u15]]) hE hM Za rfl rfl rfl Yv cq (Nat.le_of_eq ((Nat.zero_add _).trans (Eq.trans cq (Eq.symm cq)))) (Yq (cc1 (Rep.cell (hM.sl (pre:=[_,_,_,_]) noB)) (cc1 (Rep.cell (hM.sl (pre:=[_,_,_]) noB)) (cc1 (Rep.cell (hM.sl (pre:=[_,_]) noB)) cc0)))) (Zh (Eq.trans cq (Eq.symm cq))) fun w a hM hE=>Ze ?_
 obtain rfl:=Option.some.inj hF
 have hq16 : Z6 Tryz.prog _ _ (.cell 2 31) _:=ZK hE rfl Yv rfl hM.rawAt0 cq rfl
 have hM:=M.fst (l:=[_,_,_]) hM.pull2.pull3.pull4
 exact wp_ret (ZP hE rfl hq16 ⟨_,rfl,u9,u12,u15,rfl,hM.outF (Yf (Yf (Yf Xi))),hM.kept⟩)
def Wd (p0 : (Vector UInt8 32)) (p1 : (Vector UInt8 32)) (s9 : Int) : Option (Fl Int (Fl Unit Bool)) :=
 if (decide (s9 < 32)) = true then (((ZI p0 s9).bind fun x19=>(ZI p1 s9).bind fun x22=>some (x19 != x22) : Option (Bool)).bind fun j14=>if j14 = true then (((ZI p0 s9).bind fun x31=>(ZI p1 s9).bind fun x34=>some (decide (x31 < x34)) : Option (Bool)).bind fun j26=>some (Fl.ex (Fl.ex j26))) else (some (Fl.nx (wr (s9 + 1))))) else (some (Fl.ex (Fl.nx ())))
def WI (p0 : (Vector UInt8 32)) (p1 : (Vector UInt8 32)) : Option (Bool) :=
 (ZA (Wd p0 p1) 0).bind fun j5=>j5.el (fun s8=>some false) (fun r=>some r)
theorem Q1 (w0 : World) (p0 : (Vector UInt8 32)) (p1 : (Vector UInt8 32)) (r : Bool) (hF : WI p0 p1 = some r) :
  Calls Tryz.prog 126 [(Value.agg (enc p0).toArray),(Value.agg (enc p1).toArray)].toArray w0 (Rt w0 (vT r)):=by
 refine ce Tryz.func126 ?_
 intro a hE
 have hM:=M.start w0
 unfold WI at hF
 refine Zb (Ya (cs:=enc p0) hE hM Za ld rfl rfl fun b1 w a hM hE=>Ya (cs:=enc p1) hE hM Za ld rfl rfl fun b3 w a hM hE=>Zc hE rfl fun a hE=>Ze (wp_seq (Zb (Zc hE rfl fun a hE=>Ze ?_))))
 obtain ⟨j5,hl6,hF7⟩:=bind_some hF
 refine ZO (fun a w=>∃ s8 : Unit,j5 = Fl.nx s8 ∧ Env 24 a [] ∧ M (Old w0) w0 w []) ?_ ?_
 ·skip
  refine wp_block ?_
  refine ZE (fun (s9 : Int) a w=>Env 24 a [(2,(ptr b1 0)),(3,(ptr b3 0)),(5,vI s9)] ∧ M (Old w0) w0 w [raw b3 (enc p1),raw b1 (enc p0)]) hl6 ⟨hE.sub ⟨rfl,rfl,rfl,trivial⟩,hM⟩ ?_
  rintro s9 a w ⟨hE,hM⟩ o12 hs10 hx11
  unfold Wd at hs10
  refine wp_seq (Zb (Zd hE rfl fun a hE=>Zi hE rfl rfl rfl fun a hE=>Ze ?_))
  refine Zo hE rfl ?_ ?_
  ·intro hb13
   have hs10:=Zt hs10 hb13
   refine wp_skip (Zp (wp_seq (wp_block ?_)))
   obtain ⟨j14,hl15,hF16⟩:=bind_some hs10
   refine ZN (fun a w=>Env 24 a [(2,(ptr b1 0)),(3,(ptr b3 0)),(5,vI s9),(16,vT j14)] ∧ M (Old w0) w0 w [raw b3 (enc p1),raw b1 (enc p0)]) ?_ ?_
   ·skip
    obtain ⟨x19,hi18,hl15⟩:=bvx hl15
    obtain ⟨x22,hi21,hl15⟩:=bvx hl15
    refine ZX [10,11,12,13,14,15,16] Yu rfl rfl (by decide) rfl hE hM (qsP (fun z=>Zj z.E Za ld rfl (kr0 rfl)) (qsP (fun z=>ZC z.E Za ld rfl rfl Tryz.underlying35 ty5 hi18.1 (kr0 rfl)) (qsP (fun z=>ZM (v:=(vB x19)) z.E Za ld rfl ty5 rfl (At.vec (z.M.rawAt1) hi18.2) (kr0 rfl)) (qsP (fun z=>Zj z.E Za ld rfl (kr0 rfl)) (qsP (fun z=>ZC z.E Za ld rfl rfl Tryz.underlying35 ty5 hi21.1 (kr0 rfl)) (qsP (fun z=>ZM (v:=(vB x22)) z.E Za ld rfl ty5 rfl (At.vec (z.M.rawAt0) hi21.2) (kr0 rfl)) (qsP (fun z=>Z9 z.E Za ld rfl rfl (JH x19 x22) (kr0 rfl)) qs0))))))) ?_
    ·intro a w u hE hM
     refine Zg ?_
     obtain rfl:=Option.some.inj hl15
     refine Zk ?_
     exact ⟨hE.sub ⟨rfl,rfl,rfl,rfl,trivial⟩,hM⟩
   ·skip
    rintro a w ⟨hE,hM⟩
    refine Zo hE rfl ?_ ?_
    ·intro hb25
     have hF16:=Zt hF16 hb25
     obtain ⟨j26,hl27,hF28⟩:=bind_some hF16
     refine ZN (fun a w=>Env 24 a [(4,vT j26)] ∧ M (Old w0) w0 w []) ?_ ?_
     ·skip
      obtain ⟨x31,hi30,hl27⟩:=bvx hl27
      obtain ⟨x34,hi33,hl27⟩:=bvx hl27
      refine ZX [17,18,19,20,21,22,23,4] Yu rfl rfl (by decide) rfl hE hM (qsP (fun z=>Zj z.E Za ld rfl (kr0 rfl)) (qsP (fun z=>ZC z.E Za ld rfl rfl Tryz.underlying35 ty5 hi30.1 (kr0 rfl)) (qsP (fun z=>ZM (v:=(vB x31)) z.E Za ld rfl ty5 rfl (At.vec (z.M.rawAt1) hi30.2) (kr0 rfl)) (qsP (fun z=>Zj z.E Za ld rfl (kr0 rfl)) (qsP (fun z=>ZC z.E Za ld rfl rfl Tryz.underlying35 ty5 hi33.1 (kr0 rfl)) (qsP (fun z=>ZM (v:=(vB x34)) z.E Za ld rfl ty5 rfl (At.vec (z.M.rawAt0) hi33.2) (kr0 rfl)) (qsP (fun z=>Z9 z.E Za ld rfl rfl (bB_lss x31 x34) (kr0 rfl)) (qsP (fun z=>Qo z.E Za ld rfl (kr0 rfl)) qs0)))))))) ?_
      ·intro a w u hE hM
       refine Zg ?_
       obtain rfl:=Option.some.inj hl27
       refine Zk ?_
       have hM:=M.fst (l:=[]) hM
       exact ⟨hE.sub ⟨rfl,trivial⟩,hM⟩
     ·skip
      rintro a w ⟨hE,hM⟩
      obtain rfl:=hx11 _ (ois hF28)
      obtain rfl:=Option.some.inj hF7
      exact wp_ret (Xk (Zv (Zv (Xk (Zv (Zv (kr1 hE rfl rfl hM.kept)))))))
    ·intro hb25
     have hF16:=Zs hF16 hb25
     refine wp_skip (Yb (Zp (wp_region_lit (Zd hE rfl fun a hE=>Zi hE rfl rfl rfl fun a hE=>Zc hE rfl fun a hE=>Zg (Zk ?_)))))
     exact ⟨_,(ois hF16),hE.sub ⟨rfl,rfl,rfl,trivial⟩,hM⟩
  ·intro hb13
   have hs10:=Zs hs10 hb13
   refine wp_exit (Zn (Zn (Ye ?_)))
   obtain rfl:=hx11 _ (ois hs10)
   refine Zk ?_
   have hM:=M.fst (l:=[]) hM
   exact ⟨(),rfl,hE.sub trivial,hM⟩
 ·skip
  rintro a w ⟨s8,ht,hE,hM⟩
  subst ht
  have hF7:=Ta hF7
  refine Zp (Zb (Zc hE rfl fun a hE=>Ze ?_))
  obtain rfl:=Option.some.inj hF7
  exact wp_ret (kr1 hE rfl rfl hM.kept)
def Ud (p0 : (List (Vector UInt8 32))) (s5 : Int) : Option (Fl Int (Fl Unit Bool)) :=
 if (decide (s5 < (p0.length : Int))) = true then (((idx p0 (wr (s5 - 1))).bind fun x14=>(idx p0 s5).bind fun x17=>(WI x14 x17).bind fun r20=>some (!r20) : Option (Bool)).bind fun j10=>if j10 = true then (some (Fl.ex (Fl.ex false))) else (some (Fl.nx (wr (s5 + 1))))) else (some (Fl.ex (Fl.nx ())))
def Wi (p0 : (List (Vector UInt8 32))) : Option (Bool) :=
 (ZA (Ud p0) 1).bind fun j1=>j1.el (fun s4=>some true) (fun r=>some r)
theorem Ki (w0 : World) (p0 : (List (Vector UInt8 32))) (v0_1 : Value) (hv0_1 : Ro w0 p0 [v0_1]) (r : Bool) (hF : Wi p0 = some r) :
  Calls Tryz.prog 118 [v0_1].toArray w0 (Rt w0 (vT r)):=by
 refine ce Tryz.func118 ?_
 intro a hE
 have hM:=M.start w0
 unfold Wi at hF
 refine Zb (Zc hE rfl fun a hE=>Ze (wp_seq (Zb (Zc hE rfl fun a hE=>Ze ?_))))
 obtain ⟨j1,hl2,hF3⟩:=bind_some hF
 refine ZO (fun a w=>∃ s4 : Unit,j1 = Fl.nx s4 ∧ Env 21 a [] ∧ M (Old w0) w0 w []) ?_ ?_
 ·skip
  refine wp_block ?_
  refine ZE (fun (s5 : Int) a w=>Env 21 a [(0,v0_1),(3,vI s5)] ∧ M (Old w0) w0 w []) hl2 ⟨hE.sub ⟨rfl,rfl,trivial⟩,hM⟩ ?_
  rintro s5 a w ⟨hE,hM⟩ o8 hs6 hx7
  unfold Ud at hs6
  refine wp_seq (Zb (Zd hE rfl fun a hE=>Zd hE rfl fun a hE=>Z5 hE rfl Tryz.underlying29 (hM.rd hv0_1) fun a hE=>Zi hE rfl rfl rfl fun a hE=>Ze ?_))
  refine Zo hE rfl ?_ ?_
  ·intro hb9
   have hs6:=Zt hs6 hb9
   refine wp_skip (Zp (wp_seq (wp_block ?_)))
   obtain ⟨j10,hl11,hF12⟩:=bind_some hs6
   refine ZN (fun a w=>Env 21 a [(0,v0_1),(3,vI s5),(20,vT j10)] ∧ M (Old w0) w0 w []) ?_ ?_
   ·skip
    obtain ⟨x14,hi16,hl11⟩:=bix hl11
    obtain ⟨x17,hi19,hl11⟩:=bix hl11
    obtain ⟨r20,e21,hl11⟩:=bind_some hl11
    refine ZX [10,11,12,13,14,15,16,17,18,19,20] Yu rfl rfl (by decide) rfl hE hM (qsP (fun z=>Zj z.E Za ld rfl (kr0 rfl)) (qsP (fun z=>Zj z.E Za ld rfl (kr0 rfl)) (qsP (v:=(vI (wr (s5 - 1)))) (fun z=>Z9 z.E Za ld rfl rfl rfl (kr0 rfl)) (qsP (fun z=>ZZ z.E Za ld rfl rfl Tryz.underlying29 ZL (z.M.rd hv0_1) hi16.1 (kr0 rfl)) (qsP (fun z=>ZW z.E Za ld rfl ZL rfl (Yt (z.M.rd hv0_1) hi16.2) (Flat.len _) (kr0 rfl)) (qsP (fun z=>Zj z.E Za ld rfl (kr0 rfl)) (qsP (fun z=>Zj z.E Za ld rfl (kr0 rfl)) (qsP (fun z=>ZZ z.E Za ld rfl rfl Tryz.underlying29 ZL (z.M.rd hv0_1) hi19.1 (kr0 rfl)) (qsP (fun z=>ZW z.E Za ld rfl ZL rfl (Yt (z.M.rd hv0_1) hi19.2) (Flat.len _) (kr0 rfl)) (qsP (fun z=>Yk z.E Za ld rfl (cbm Tryz.func126) (Q1 _ x14 x17 r20 e21) (kc rfl)) (qsP (fun z=>TF z.E Za ld rfl (kr0 rfl)) qs0))))))))))) ?_
    ·intro a w u hE hM
     refine Zg ?_
     obtain rfl:=Option.some.inj hl11
     refine Zk ?_
     exact ⟨hE.sub ⟨rfl,rfl,rfl,trivial⟩,hM⟩
   ·skip
    rintro a w ⟨hE,hM⟩
    refine Zo hE rfl ?_ ?_
    ·intro hb23
     have hF12:=Zt hF12 hb23
     refine Zb (Zc hE rfl fun a hE=>Ze ?_)
     obtain rfl:=hx7 _ (ois hF12)
     obtain rfl:=Option.some.inj hF3
     exact wp_ret (Xk (Zv (Zv (Xk (Zv (Zv (kr1 hE rfl rfl hM.kept)))))))
    ·intro hb23
     have hF12:=Zs hF12 hb23
     refine wp_skip (Yb (Zp (wp_region_lit (Zd hE rfl fun a hE=>Zi hE rfl rfl rfl fun a hE=>Zc hE rfl fun a hE=>Zg (Zk ?_)))))
     exact ⟨_,(ois hF12),hE.sub ⟨rfl,rfl,trivial⟩,hM⟩
  ·intro hb9
   have hs6:=Zs hs6 hb9
   refine wp_exit (Zn (Zn (Ye ?_)))
   obtain rfl:=hx7 _ (ois hs6)
   refine Zk ?_
   exact ⟨(),rfl,hE.sub trivial,hM⟩
 ·skip
  rintro a w ⟨s4,ht,hE,hM⟩
  subst ht
  have hF3:=Ta hF3
  refine Zp (Zb (Zc hE rfl fun a hE=>Ze ?_))
  obtain rfl:=Option.some.inj hF3
  exact wp_ret (kr1 hE rfl rfl hM.kept)
def Xb (p0 : Int) (s4 : Int × Int × Int) : Option (Fl (Int × Int × Int) Int) :=
 if (decide (s4.2.2 > 0)) = true then (((if ((Int.tmod s4.2.2 2) == 1) = true then (some (JD s4.1 s4.2.1)) else (some s4.1) : Option (Int)).bind fun j12=>(if (decide ((wr (s4.2.1 * 2)) ≥ 256)) = true then (some (JD (wr (s4.2.1 * 2)) p0)) else (some (wr (s4.2.1 * 2))) : Option (Int)).bind fun j18=>some (j12,j18) : Option (Int × Int)).bind fun j9=>some (Fl.nx (j9.1,j9.2,wr (Int.tdiv s4.2.2 2)))) else (some (Fl.ex s4.1))
def YM (p0 : Int) (p1 : UInt8) (p2 : UInt8) : Option (UInt8) :=
 (ZA (Xb p0) (0,bI p1,bI p2)).bind fun j1=>some (ZG j1)
theorem VH (w0 : World) (p0 : Int) (p1 : UInt8) (p2 : UInt8) (r : UInt8) (hF : YM p0 p1 p2 = some r) :
  Calls Tryz.prog 208 [vI p0,vB p1,vB p2].toArray w0 (Rt w0 (vB r)):=by
 refine ce Tryz.func208 ?_
 intro a hE
 have hM:=M.start w0
 unfold YM at hF
 refine Zb (Zc hE rfl fun a hE=>Ze (Zb (Zd hE rfl fun a hE=>HA hE Za ld rfl Tryz.underlying5 Tryz.underlying2 fun a hE=>Zc hE rfl fun a hE=>Zc hE rfl fun a hE=>Ze (wp_seq (Zb (Zd hE rfl fun a hE=>HA hE Za ld rfl Tryz.underlying5 Tryz.underlying2 fun a hE=>Zc hE rfl fun a hE=>Ze ?_))))))
 obtain ⟨j1,hl2,hF3⟩:=bind_some hF
 refine ZO (fun a w=>Env 33 a [(7,vI j1)] ∧ M (Old w0) w0 w []) ?_ ?_
 ·skip
  refine wp_block ?_
  refine ZE (fun (s4 : Int × Int × Int) a w=>Env 33 a [(0,vI p0),(7,vI s4.1),(8,vI s4.2.1),(9,vI s4.2.2)] ∧ M (Old w0) w0 w []) hl2 ⟨hE.sub ⟨rfl,rfl,rfl,rfl,trivial⟩,hM⟩ ?_
  rintro s4 a w ⟨hE,hM⟩ o7 hs5 hx6
  unfold Xb at hs5
  refine wp_seq (Zb (Zd hE rfl fun a hE=>Zi hE rfl rfl rfl fun a hE=>Ze ?_))
  refine Zo hE rfl ?_ ?_
  ·intro hb8
   have hs5:=Zt hs5 hb8
   refine wp_skip (Zp ?_)
   obtain ⟨j9,hl10,hF11⟩:=bind_some hs5
   refine ZN (fun a w=>Env 33 a [(0,vI p0),(7,vI j9.1),(8,vI j9.2),(9,vI s4.2.2)] ∧ M (Old w0) w0 w []) ?_ ?_
   ·skip
    refine wp_block ?_
    obtain ⟨j12,hl13,hF14⟩:=bind_some hl10
    refine ZN (fun a w=>Env 33 a [(0,vI p0),(7,vI j12),(8,vI s4.2.1),(9,vI s4.2.2)] ∧ M (Old w0) w0 w []) ?_ ?_
    ·skip
     refine Zb (Zd hE rfl fun a hE=>Zi hE rfl rfl (Qi _ _ (by decide)) fun a hE=>Zi hE rfl rfl rfl fun a hE=>Ze ?_)
     refine Zo hE rfl ?_ ?_
     ·intro hb15
      have hl13:=Zt hl13 hb15
      refine wp_region_lit (Zd hE rfl fun a hE=>Zd hE rfl fun a hE=>Zi hE rfl rfl rfl fun a hE=>Zc hE rfl fun a hE=>Zg ?_)
      obtain rfl:=Option.some.inj hl13
      refine Zk ?_
      exact ⟨hE.sub ⟨rfl,rfl,rfl,rfl,trivial⟩,hM⟩
     ·intro hb15
      have hl13:=Zs hl13 hb15
      refine wp_skip ?_
      obtain rfl:=Option.some.inj hl13
      refine Zk ?_
      exact ⟨hE.sub ⟨rfl,rfl,rfl,rfl,trivial⟩,hM⟩
    ·skip
     rintro a w ⟨hE,hM⟩
     refine Zb (Zd hE rfl fun a hE=>Zi hE rfl rfl rfl fun a hE=>Zc hE rfl fun a hE=>Ze (Zb (Zd hE rfl fun a hE=>Zi hE rfl rfl rfl fun a hE=>Ze ?_)))
     obtain ⟨j18,hl19,hF20⟩:=bind_some hF14
     refine ZO (fun a w=>Env 33 a [(0,vI p0),(7,vI j12),(8,vI j18),(9,vI s4.2.2)] ∧ M (Old w0) w0 w []) ?_ ?_
     ·skip
      refine Zo hE rfl ?_ ?_
      ·intro hb21
       have hl19:=Zt hl19 hb21
       refine wp_region_lit (Zd hE rfl fun a hE=>Zd hE rfl fun a hE=>Zi hE rfl rfl rfl fun a hE=>Zc hE rfl fun a hE=>Zg ?_)
       obtain rfl:=Option.some.inj hl19
       refine Zk ?_
       exact ⟨hE.sub ⟨rfl,rfl,rfl,rfl,trivial⟩,hM⟩
      ·intro hb21
       have hl19:=Zs hl19 hb21
       refine wp_skip ?_
       obtain rfl:=Option.some.inj hl19
       refine Zk ?_
       exact ⟨hE.sub ⟨rfl,rfl,rfl,rfl,trivial⟩,hM⟩
     ·skip
      rintro a w ⟨hE,hM⟩
      refine Yb ?_
      obtain rfl:=Option.some.inj hF20
      refine Zk ?_
      exact ⟨hE.sub ⟨rfl,rfl,rfl,rfl,trivial⟩,hM⟩
   ·skip
    rintro a w ⟨hE,hM⟩
    refine wp_region_lit (Zd hE rfl fun a hE=>Zi hE rfl rfl (Ap _ _ (by decide)) fun a hE=>Zc hE rfl fun a hE=>Zg (Zk ?_))
    exact ⟨_,(ois hF11),hE.sub ⟨rfl,rfl,rfl,rfl,trivial⟩,hM⟩
  ·intro hb8
   have hs5:=Zs hs5 hb8
   refine wp_exit (Zn (Zn (Ye ?_)))
   obtain rfl:=hx6 _ (ois hs5)
   refine Zk ?_
   exact ⟨hE.sub ⟨rfl,trivial⟩,hM⟩
 ·skip
  rintro a w ⟨hE,hM⟩
  refine Zp (Zb (Zd hE rfl fun a hE=>Xo hE Za ld rfl Tryz.underlying2 Tryz.underlying5 fun a hE=>Zc hE rfl fun a hE=>Ze ?_))
  obtain rfl:=Option.some.inj hF3
  exact wp_ret (kr1 hE rfl rfl hM.kept)
def Vz (p0 : Int) (s16 : UInt8 × UInt8 × Int) : Option (Fl (UInt8 × UInt8 × Int) UInt8) :=
 if (decide (s16.2.2 > 0)) = true then (((if ((Int.tmod s16.2.2 2) == 1) = true then ((YM p0 s16.1 s16.2.1).bind fun r28=>some r28) else (some s16.1) : Option (UInt8)).bind fun j24=>(YM p0 s16.2.1 s16.2.1).bind fun r32=>some (j24,r32) : Option (UInt8 × UInt8)).bind fun j21=>some (Fl.nx (j21.1,j21.2,wr (Int.tdiv s16.2.2 2)))) else (some (Fl.ex s16.1))
def Vk (p0 : Int) (p1 : Int) (s8 : (Vector UInt8 256) × Int) : Option (Fl ((Vector UInt8 256) × Int) (Vector UInt8 256)) :=
 if (decide (s8.2 < 256)) = true then ((ZA (Vz p0) (1,ZG s8.2,p1)).bind fun j13=>(ZI s8.1 s8.2).bind fun x37=>some (Fl.nx ((s8.1.setIfInBounds (s8.2).toNat j13),wr (s8.2 + 1)))) else (some (Fl.ex s8.1))
def VU (p0 : Int) (p1 : Int) : Option ((Vector UInt8 256)) :=
 (ZA (Vk p0 p1) ((Vector.replicate 256 (0 : UInt8)),0)).bind fun j5=>some j5
theorem Hm (w0 : World) (p0 : Int) (p1 : Int) (r : (Vector UInt8 256)) (hF : VU p0 p1 = some r) :
  Calls Tryz.prog 176 [vI p0,vI p1].toArray w0 (Rt w0 (Value.agg (enc r).toArray)):=by
 refine ce Tryz.func176 ?_
 intro a hE
 have hM:=M.start w0
 unfold VU at hF
 refine Zb (Zz hE hM XI fun b1 w a hM hE=>Ze (Zb (YB (parts:=[]) (vs:=[]) (cs:=enc (Vector.replicate 256 (0 : UInt8))) hE Za ld rfl rfl XI rfl ty5 Yp fun a hE=>Zz hE hM XI fun b3 w a hM hE=>Zm (seg:=enc (Vector.replicate 256 (0 : UInt8))) (cs':=enc (Vector.replicate 256 (0 : UInt8))) hE hM Za rfl rfl rfl XI (Flat.len _) (zle flq) (Flat.cell _) (Zh flq) fun w a hM hE=>Ze (wp_seq (Zb (Zc hE rfl fun a hE=>Ze ?_))))))
 obtain ⟨j5,hl6,hF7⟩:=bind_some hF
 refine ZO (fun a w=>Env 37 a [(4,(ptr b1 0)),(5,(ptr b3 0))] ∧ M (Old w0) w0 w [raw b3 (enc j5),raw b1 (enc (Vector.replicate 256 (0 : UInt8)))]) ?_ ?_
 ·skip
  refine wp_block ?_
  refine ZE (fun (s8 : (Vector UInt8 256) × Int) a w=>Env 37 a [(0,vI p0),(1,vI p1),(4,(ptr b1 0)),(5,(ptr b3 0)),(6,vI s8.2)] ∧ M (Old w0) w0 w [raw b3 (enc s8.1),raw b1 (enc (Vector.replicate 256 (0 : UInt8)))]) hl6 ⟨hE.sub ⟨rfl,rfl,rfl,rfl,rfl,trivial⟩,hM⟩ ?_
  rintro s8 a w ⟨hE,hM⟩ o11 hs9 hx10
  unfold Vk at hs9
  refine wp_seq (Zb (Zd hE rfl fun a hE=>Zi hE rfl rfl rfl fun a hE=>Ze ?_))
  refine Zo hE rfl ?_ ?_
  ·intro hb12
   have hs9:=Zt hs9 hb12
   refine wp_skip (Zp (wp_seq (wp_block (Zb (Zd hE rfl fun a hE=>Xo hE Za ld rfl Tryz.underlying3 Tryz.underlying5 fun a hE=>Zc hE rfl fun a hE=>Zc hE rfl fun a hE=>Ze (wp_seq (Zb (Zd hE rfl fun a hE=>Zc hE rfl fun a hE=>Ze ?_))))))))
   obtain ⟨j13,hl14,hF15⟩:=bind_some hs9
   refine ZO (fun a w=>Env 37 a [(0,vI p0),(1,vI p1),(4,(ptr b1 0)),(5,(ptr b3 0)),(6,vI s8.2),(7,vB j13)] ∧ M (Old w0) w0 w [raw b3 (enc s8.1),raw b1 (enc (Vector.replicate 256 (0 : UInt8)))]) ?_ ?_
   ·skip
    refine wp_block ?_
    refine ZE (fun (s16 : UInt8 × UInt8 × Int) a w=>Env 37 a [(0,vI p0),(1,vI p1),(4,(ptr b1 0)),(5,(ptr b3 0)),(6,vI s8.2),(7,vB s16.1),(8,vB s16.2.1),(9,vI s16.2.2)] ∧ M (Old w0) w0 w [raw b3 (enc s8.1),raw b1 (enc (Vector.replicate 256 (0 : UInt8)))]) hl14 ⟨hE.sub ⟨rfl,rfl,rfl,rfl,rfl,rfl,rfl,rfl,trivial⟩,hM⟩ ?_
    rintro s16 a w ⟨hE,hM⟩ o19 hs17 hx18
    unfold Vz at hs17
    refine wp_seq (Zb (Zd hE rfl fun a hE=>Zi hE rfl rfl rfl fun a hE=>Ze ?_))
    refine Zo hE rfl ?_ ?_
    ·intro hb20
     have hs17:=Zt hs17 hb20
     refine wp_skip (Zp ?_)
     obtain ⟨j21,hl22,hF23⟩:=bind_some hs17
     refine ZN (fun a w=>Env 37 a [(0,vI p0),(1,vI p1),(4,(ptr b1 0)),(5,(ptr b3 0)),(6,vI s8.2),(7,vB j21.1),(8,vB j21.2),(9,vI s16.2.2)] ∧ M (Old w0) w0 w [raw b3 (enc s8.1),raw b1 (enc (Vector.replicate 256 (0 : UInt8)))]) ?_ ?_
     ·skip
      refine wp_block ?_
      obtain ⟨j24,hl25,hF26⟩:=bind_some hl22
      refine ZN (fun a w=>Env 37 a [(0,vI p0),(1,vI p1),(4,(ptr b1 0)),(5,(ptr b3 0)),(6,vI s8.2),(7,vB j24),(8,vB s16.2.1),(9,vI s16.2.2)] ∧ M (Old w0) w0 w [raw b3 (enc s8.1),raw b1 (enc (Vector.replicate 256 (0 : UInt8)))]) ?_ ?_
      ·skip
       refine Zb (Zd hE rfl fun a hE=>Zi hE rfl rfl (Qi _ _ (by decide)) fun a hE=>Zi hE rfl rfl rfl fun a hE=>Ze ?_)
       refine Zo hE rfl ?_ ?_
       ·intro hb27
        have hl25:=Zt hl25 hb27
        refine wp_region_lit (Zd hE rfl fun a hE=>Zd hE rfl fun a hE=>Zd hE rfl ?_); intro a hE
        obtain ⟨r28,e29,hl25⟩:=bind_some hl25
        refine Zx hE rfl zG (VH _ p0 s16.1 s16.2.1 r28 e29) ?_
        rintro v w a ⟨rfl,hK⟩ hE
        have hM:=hM.keep hK
        refine Zc hE rfl fun a hE=>Zg ?_
        obtain rfl:=Option.some.inj hl25
        refine Zk ?_
        exact ⟨hE.sub ⟨rfl,rfl,rfl,rfl,rfl,rfl,rfl,rfl,trivial⟩,hM⟩
       ·intro hb27
        have hl25:=Zs hl25 hb27
        refine wp_skip ?_
        obtain rfl:=Option.some.inj hl25
        refine Zk ?_
        exact ⟨hE.sub ⟨rfl,rfl,rfl,rfl,rfl,rfl,rfl,rfl,trivial⟩,hM⟩
      ·skip
       rintro a w ⟨hE,hM⟩
       refine wp_region_lit (Zd hE rfl fun a hE=>Zd hE rfl fun a hE=>Zd hE rfl ?_); intro a hE
       obtain ⟨r32,e33,hF26⟩:=bind_some hF26
       refine Zx hE rfl zG (VH _ p0 s16.2.1 s16.2.1 r32 e33) ?_
       rintro v w a ⟨rfl,hK⟩ hE
       have hM:=hM.keep hK
       refine Zc hE rfl fun a hE=>Zg (Yb ?_)
       obtain rfl:=Option.some.inj hF26
       refine Zk ?_
       exact ⟨hE.sub ⟨rfl,rfl,rfl,rfl,rfl,rfl,rfl,rfl,trivial⟩,hM⟩
     ·skip
      rintro a w ⟨hE,hM⟩
      refine wp_region_lit (Zd hE rfl fun a hE=>Zi hE rfl rfl (Ap _ _ (by decide)) fun a hE=>Zc hE rfl fun a hE=>Zg (Zk ?_))
      exact ⟨_,(ois hF23),hE.sub ⟨rfl,rfl,rfl,rfl,rfl,rfl,rfl,rfl,trivial⟩,hM⟩
    ·intro hb20
     have hs17:=Zs hs17 hb20
     refine wp_exit (Zn (Zn (Ye ?_)))
     obtain rfl:=hx18 _ (ois hs17)
     refine Zk ?_
     exact ⟨hE.sub ⟨rfl,rfl,rfl,rfl,rfl,rfl,trivial⟩,hM⟩
   ·skip
    rintro a w ⟨hE,hM⟩
    refine Zp (wp_region_lit (Zd hE rfl fun a hE=>Zd hE rfl ?_)); intro a hE
    obtain ⟨x37,hi36,hF15⟩:=bvx hF15
    refine ZF hE rfl rfl Tryz.underlying157 ty5 hi36.1 fun a hE=>Zm (seg:=[vB j13]) (cs':=enc (s8.1.setIfInBounds (s8.2).toNat j13)) hE hM Za rfl rfl rfl ty5 rfl (ZS (v:=s8.1) (x:=j13) hi36.1) (Flat.cell (j13 : UInt8)) (ZD (v:=s8.1) (x:=j13) hi36.1) fun w a hM hE=>Zg (Yb (Zp (wp_region_lit (Zd hE rfl fun a hE=>Zi hE rfl rfl rfl fun a hE=>Zc hE rfl fun a hE=>Zg (Zk ?_)))))
    exact ⟨_,(ois hF15),hE.sub ⟨rfl,rfl,rfl,rfl,rfl,trivial⟩,hM⟩
  ·intro hb12
   have hs9:=Zs hs9 hb12
   refine wp_exit (Zn (Zn (Ye ?_)))
   obtain rfl:=hx10 _ (ois hs9)
   refine Zk ?_
   exact ⟨hE.sub ⟨rfl,rfl,trivial⟩,hM⟩
 ·skip
  rintro a w ⟨hE,hM⟩
  refine Zp (Zb (Zr hE rfl XI rfl hM.rawAt0 (Flat.len _) ?_)); intro a hE
  have hM:=hM.pull1
  refine Zm (seg:=enc j5) (cs':=enc j5) hE hM Za rfl rfl rfl XI (Flat.len _) (zle flq) (Flat.cell _) (Zh flq) fun w a hM hE=>Ze ?_
  obtain rfl:=Option.some.inj hF7
  have hq40 : Z6 Tryz.prog _ _ (.cell 4 157) _:=ZK hE rfl XI rfl hM.rawAt0 (Flat.len _) rfl
  exact wp_ret (ZP hE rfl hq40 ⟨_,rfl,rfl,hM.kept⟩)
def XQ (p0 : UInt8) (p1 : Int) : Option (UInt8) :=
 (XW (IntKind.u64.wrap p1)).bind fun _=>some (ZG (Hj (orI (BD (bI p0) (IntKind.u64.wrap p1)) (TJ (BD (bI p0) (IntKind.u64.wrap p1)) 8)) 255))
theorem Bj (w0 : World) (p0 : UInt8) (p1 : Int) (r : UInt8) (hF : XQ p0 p1 = some r) :
  Calls Tryz.prog 209 [vB p0,vI p1].toArray w0 (Rt w0 (vB r)):=by
 refine ce Tryz.func209 ?_
 intro a hE
 have hM:=M.start w0
 unfold XQ at hF
 refine Zb (Zc hE rfl fun a hE=>Ze (Zb (Zd hE rfl fun a hE=>HA hE Za ld rfl Tryz.underlying5 Tryz.underlying2 fun a hE=>Zd hE rfl fun a hE=>KC hE Za ld rfl Tryz.underlying2 Tryz.underlying229 ?_))); intro a hE
 obtain ⟨_,e1,hF⟩:=bind_some hF
 have e1:=W9 e1
 refine Br hE Za ld rfl rfl (yz _ _ e1) fun a hE=>Zc hE rfl fun a hE=>Ze (Zb (Zd hE rfl fun a hE=>Zd hE rfl fun a hE=>Br hE Za ld rfl rfl (AO _ _ (by decide)) fun a hE=>Zi hE rfl rfl rfl fun a hE=>Zi hE rfl rfl rfl fun a hE=>Xo hE Za ld rfl Tryz.underlying2 Tryz.underlying5 fun a hE=>Zc hE rfl fun a hE=>Ze ?_))
 obtain rfl:=Option.some.inj hF
 exact wp_ret (kr1 hE rfl rfl hM.kept)
def Z7 (p0 : (List Int)) (s8 : (Vector UInt8 256) × Int) (s16 : UInt8 × Int) : Option (Fl (UInt8 × Int) UInt8) :=
 if (decide (s16.2 < (p0.length : Int))) = true then ((idx p0 s16.2).bind fun x21=>(XQ (ZG s8.2) x21).bind fun r24=>some (Fl.nx (s16.1 ^^^ r24,wr (s16.2 + 1)))) else (some (Fl.ex s16.1))
def XS (p0 : (List Int)) (p1 : UInt8) (s8 : (Vector UInt8 256) × Int) : Option (Fl ((Vector UInt8 256) × Int) (Vector UInt8 256)) :=
 if (decide (s8.2 < 256)) = true then ((ZA (Z7 p0 s8) (p1,0)).bind fun j13=>(ZI s8.1 s8.2).bind fun x28=>some (Fl.nx ((s8.1.setIfInBounds (s8.2).toNat j13),wr (s8.2 + 1)))) else (some (Fl.ex s8.1))
def Wl (p0 : (List Int)) (p1 : UInt8) : Option ((Vector UInt8 256)) :=
 (ZA (XS p0 p1) ((Vector.replicate 256 (0 : UInt8)),0)).bind fun j5=>some j5
theorem Kk (w0 : World) (p0 : (List Int)) (v0_1 : Value) (hv0_1 : Ro w0 p0 [v0_1]) (p1 : UInt8) (r : (Vector UInt8 256)) (hF : Wl p0 p1 = some r) :
  Calls Tryz.prog 177 [v0_1,vB p1].toArray w0 (Rt w0 (Value.agg (enc r).toArray)):=by
 refine ce Tryz.func177 ?_
 intro a hE
 have hM:=M.start w0
 unfold Wl at hF
 refine Zb (Zz hE hM XI fun b1 w a hM hE=>Ze (Zb (YB (parts:=[]) (vs:=[]) (cs:=enc (Vector.replicate 256 (0 : UInt8))) hE Za ld rfl rfl XI rfl ty5 Yp fun a hE=>Zz hE hM XI fun b3 w a hM hE=>Zm (seg:=enc (Vector.replicate 256 (0 : UInt8))) (cs':=enc (Vector.replicate 256 (0 : UInt8))) hE hM Za rfl rfl rfl XI (Flat.len _) (zle flq) (Flat.cell _) (Zh flq) fun w a hM hE=>Ze (wp_seq (Zb (Zc hE rfl fun a hE=>Ze ?_))))))
 obtain ⟨j5,hl6,hF7⟩:=bind_some hF
 refine ZO (fun a w=>Env 34 a [(4,(ptr b1 0)),(5,(ptr b3 0))] ∧ M (Old w0) w0 w [raw b3 (enc j5),raw b1 (enc (Vector.replicate 256 (0 : UInt8)))]) ?_ ?_
 ·skip
  refine wp_block ?_
  refine ZE (fun (s8 : (Vector UInt8 256) × Int) a w=>Env 34 a [(0,v0_1),(1,vB p1),(4,(ptr b1 0)),(5,(ptr b3 0)),(6,vI s8.2)] ∧ M (Old w0) w0 w [raw b3 (enc s8.1),raw b1 (enc (Vector.replicate 256 (0 : UInt8)))]) hl6 ⟨hE.sub ⟨rfl,rfl,rfl,rfl,rfl,trivial⟩,hM⟩ ?_
  rintro s8 a w ⟨hE,hM⟩ o11 hs9 hx10
  unfold XS at hs9
  refine wp_seq (Zb (Zd hE rfl fun a hE=>Zi hE rfl rfl rfl fun a hE=>Ze ?_))
  refine Zo hE rfl ?_ ?_
  ·intro hb12
   have hs9:=Zt hs9 hb12
   refine wp_skip (Zp (wp_seq (wp_block (Zb (Zd hE rfl fun a hE=>Zc hE rfl fun a hE=>Ze (wp_seq (Zb (Zc hE rfl fun a hE=>Ze ?_))))))))
   obtain ⟨j13,hl14,hF15⟩:=bind_some hs9
   refine ZO (fun a w=>Env 34 a [(0,v0_1),(1,vB p1),(4,(ptr b1 0)),(5,(ptr b3 0)),(6,vI s8.2),(7,vB j13)] ∧ M (Old w0) w0 w [raw b3 (enc s8.1),raw b1 (enc (Vector.replicate 256 (0 : UInt8)))]) ?_ ?_
   ·skip
    refine wp_block ?_
    refine ZE (fun (s16 : UInt8 × Int) a w=>Env 34 a [(0,v0_1),(1,vB p1),(4,(ptr b1 0)),(5,(ptr b3 0)),(6,vI s8.2),(7,vB s16.1),(8,vI s16.2)] ∧ M (Old w0) w0 w [raw b3 (enc s8.1),raw b1 (enc (Vector.replicate 256 (0 : UInt8)))]) hl14 ⟨hE.sub ⟨rfl,rfl,rfl,rfl,rfl,rfl,rfl,trivial⟩,hM⟩ ?_
    rintro s16 a w ⟨hE,hM⟩ o19 hs17 hx18
    unfold Z7 at hs17
    refine wp_seq (Zb (Zd hE rfl fun a hE=>Zd hE rfl fun a hE=>Z5 hE rfl Tryz.underlying24 (hM.rd hv0_1) fun a hE=>Zi hE rfl rfl rfl fun a hE=>Ze ?_))
    refine Zo hE rfl ?_ ?_
    ·intro hb20
     have hs17:=Zt hs17 hb20
     refine wp_skip (Zp (wp_seq (wp_block (wp_region_lit (Zd hE rfl fun a hE=>Zd hE rfl fun a hE=>Xo hE Za ld rfl Tryz.underlying3 Tryz.underlying5 fun a hE=>Zd hE rfl fun a hE=>Zd hE rfl ?_))))); intro a hE
     obtain ⟨x21,hi23,hs17⟩:=bix hs17
     refine Yd hE rfl rfl Tryz.underlying24 ty2 (hM.rd hv0_1) hi23.1 fun a hE=>ZB (v:=(vI x21)) hE rfl ty2 rfl (Yt (hM.rd hv0_1) hi23.2) ?_; intro a hE
     obtain ⟨r24,e25,hs17⟩:=bind_some hs17
     refine Zx hE rfl (cbm Tryz.func209) (Bj _ (ZG s8.2) x21 r24 e25) ?_
     rintro v w a ⟨rfl,hK⟩ hE
     have hM:=hM.keep hK
     refine Zi hE rfl rfl (V0 s16.1 r24) fun a hE=>Zc hE rfl fun a hE=>Zg (Yb (Zp (wp_region_lit (Zd hE rfl fun a hE=>Zi hE rfl rfl rfl fun a hE=>Zc hE rfl fun a hE=>Zg (Zk ?_)))))
     exact ⟨_,(ois hs17),hE.sub ⟨rfl,rfl,rfl,rfl,rfl,rfl,rfl,trivial⟩,hM⟩
    ·intro hb20
     have hs17:=Zs hs17 hb20
     refine wp_exit (Zn (Zn (Ye ?_)))
     obtain rfl:=hx18 _ (ois hs17)
     refine Zk ?_
     exact ⟨hE.sub ⟨rfl,rfl,rfl,rfl,rfl,rfl,trivial⟩,hM⟩
   ·skip
    rintro a w ⟨hE,hM⟩
    refine Zp (wp_region_lit (Zd hE rfl fun a hE=>Zd hE rfl ?_)); intro a hE
    obtain ⟨x28,hi27,hF15⟩:=bvx hF15
    refine ZF hE rfl rfl Tryz.underlying157 ty5 hi27.1 fun a hE=>Zm (seg:=[vB j13]) (cs':=enc (s8.1.setIfInBounds (s8.2).toNat j13)) hE hM Za rfl rfl rfl ty5 rfl (ZS (v:=s8.1) (x:=j13) hi27.1) (Flat.cell (j13 : UInt8)) (ZD (v:=s8.1) (x:=j13) hi27.1) fun w a hM hE=>Zg (Yb (Zp (wp_region_lit (Zd hE rfl fun a hE=>Zi hE rfl rfl rfl fun a hE=>Zc hE rfl fun a hE=>Zg (Zk ?_)))))
    exact ⟨_,(ois hF15),hE.sub ⟨rfl,rfl,rfl,rfl,rfl,trivial⟩,hM⟩
  ·intro hb12
   have hs9:=Zs hs9 hb12
   refine wp_exit (Zn (Zn (Ye ?_)))
   obtain rfl:=hx10 _ (ois hs9)
   refine Zk ?_
   exact ⟨hE.sub ⟨rfl,rfl,trivial⟩,hM⟩
 ·skip
  rintro a w ⟨hE,hM⟩
  refine Zp (Zb (Zr hE rfl XI rfl hM.rawAt0 (Flat.len _) ?_)); intro a hE
  have hM:=hM.pull1
  refine Zm (seg:=enc j5) (cs':=enc j5) hE hM Za rfl rfl rfl XI (Flat.len _) (zle flq) (Flat.cell _) (Zh flq) fun w a hM hE=>Ze ?_
  obtain rfl:=Option.some.inj hF7
  have hq31 : Z6 Tryz.prog _ _ (.cell 4 157) _:=ZK hE rfl XI rfl hM.rawAt0 (Flat.len _) rfl
  exact wp_ret (ZP hE rfl hq31 ⟨_,rfl,rfl,hM.kept⟩)
def VR (p0 : (Vector UInt8 256)) (p1 : (Vector UInt8 256)) (s12 : (Vector UInt8 256) × Int) : Option (Fl ((Vector UInt8 256) × Int) (Vector UInt8 256)) :=
 if (decide (s12.2 < 256)) = true then ((ZI p0 s12.2).bind fun x18=>(ZI p1 (bI x18)).bind fun x21=>(ZI s12.1 s12.2).bind fun x24=>some (Fl.nx ((s12.1.setIfInBounds (s12.2).toNat x21),wr (s12.2 + 1)))) else (some (Fl.ex s12.1))
def Ue (p0 : (Vector UInt8 256)) (p1 : (Vector UInt8 256)) : Option ((Vector UInt8 256)) :=
 (ZA (VR p0 p1) ((Vector.replicate 256 (0 : UInt8)),0)).bind fun j9=>some j9
theorem Bv (w0 : World) (p0 : (Vector UInt8 256)) (p1 : (Vector UInt8 256)) (r : (Vector UInt8 256)) (hF : Ue p0 p1 = some r) :
  Calls Tryz.prog 175 [(Value.agg (enc p0).toArray),(Value.agg (enc p1).toArray)].toArray w0 (Rt w0 (Value.agg (enc r).toArray)):=by
 refine ce Tryz.func175 ?_
 intro a hE
 have hM:=M.start w0
 unfold Ue at hF
 refine Zb (Ya (cs:=enc p0) hE hM Za ld rfl rfl fun b1 w a hM hE=>Ya (cs:=enc p1) hE hM Za ld rfl rfl fun b3 w a hM hE=>Zz hE hM XI fun b5 w a hM hE=>Ze (Zb (YB (parts:=[]) (vs:=[]) (cs:=enc (Vector.replicate 256 (0 : UInt8))) hE Za ld rfl rfl XI rfl ty5 Yp fun a hE=>Zz hE hM XI fun b7 w a hM hE=>Zm (seg:=enc (Vector.replicate 256 (0 : UInt8))) (cs':=enc (Vector.replicate 256 (0 : UInt8))) hE hM Za rfl rfl rfl XI (Flat.len _) (zle flq) (Flat.cell _) (Zh flq) fun w a hM hE=>Ze (wp_seq (Zb (Zc hE rfl fun a hE=>Ze ?_))))))
 obtain ⟨j9,hl10,hF11⟩:=bind_some hF
 refine ZO (fun a w=>Env 20 a [(4,(ptr b5 0)),(5,(ptr b7 0))] ∧ M (Old w0) w0 w [raw b7 (enc j9),raw b5 (enc (Vector.replicate 256 (0 : UInt8)))]) ?_ ?_
 ·skip
  refine wp_block ?_
  refine ZE (fun (s12 : (Vector UInt8 256) × Int) a w=>Env 20 a [(2,(ptr b1 0)),(3,(ptr b3 0)),(4,(ptr b5 0)),(5,(ptr b7 0)),(6,vI s12.2)] ∧ M (Old w0) w0 w [raw b7 (enc s12.1),raw b5 (enc (Vector.replicate 256 (0 : UInt8))),raw b3 (enc p1),raw b1 (enc p0)]) hl10 ⟨hE.sub ⟨rfl,rfl,rfl,rfl,rfl,trivial⟩,hM⟩ ?_
  rintro s12 a w ⟨hE,hM⟩ o15 hs13 hx14
  unfold VR at hs13
  refine wp_seq (Zb (Zd hE rfl fun a hE=>Zi hE rfl rfl rfl fun a hE=>Ze ?_))
  refine Zo hE rfl ?_ ?_
  ·intro hb16
   have hs13:=Zt hs13 hb16
   refine wp_skip (Zp (wp_seq (wp_block (wp_region_lit (Zd hE rfl fun a hE=>Zd hE rfl ?_))))); intro a hE
   obtain ⟨x18,hi17,hs13⟩:=bvx hs13
   refine ZF hE rfl rfl Tryz.underlying157 ty5 hi17.1 fun a hE=>ZB (v:=(vB x18)) hE rfl ty5 rfl (At.vec hM.rawAt3 hi17.2) ?_; intro a hE
   obtain ⟨x21,hi20,hs13⟩:=bvx hs13
   refine ZF hE rfl rfl Tryz.underlying157 ty5 hi20.1 fun a hE=>ZB (v:=(vB x21)) hE rfl ty5 rfl (At.vec hM.rawAt2 hi20.2) ?_; intro a hE
   obtain ⟨x24,hi23,hs13⟩:=bvx hs13
   refine ZF hE rfl rfl Tryz.underlying157 ty5 hi23.1 fun a hE=>Zm (seg:=[vB x21]) (cs':=enc (s12.1.setIfInBounds (s12.2).toNat x21)) hE hM Za rfl rfl rfl ty5 rfl (ZS (v:=s12.1) (x:=x21) hi23.1) (Flat.cell (x21 : UInt8)) (ZD (v:=s12.1) (x:=x21) hi23.1) fun w a hM hE=>Zg (Yb (Zp (wp_region_lit (Zd hE rfl fun a hE=>Zi hE rfl rfl rfl fun a hE=>Zc hE rfl fun a hE=>Zg (Zk ?_)))))
   exact ⟨_,(ois hs13),hE.sub ⟨rfl,rfl,rfl,rfl,rfl,trivial⟩,hM⟩
  ·intro hb16
   have hs13:=Zs hs13 hb16
   refine wp_exit (Zn (Zn (Ye ?_)))
   obtain rfl:=hx14 _ (ois hs13)
   refine Zk ?_
   have hM:=M.fst (l:=[_,_]) hM.pull1.pull1
   exact ⟨hE.sub ⟨rfl,rfl,trivial⟩,hM⟩
 ·skip
  rintro a w ⟨hE,hM⟩
  refine Zp (Zb (Zr hE rfl XI rfl hM.rawAt0 (Flat.len _) ?_)); intro a hE
  have hM:=hM.pull1
  refine Zm (seg:=enc j9) (cs':=enc j9) hE hM Za rfl rfl rfl XI (Flat.len _) (zle flq) (Flat.cell _) (Zh flq) fun w a hM hE=>Ze ?_
  obtain rfl:=Option.some.inj hF11
  have hq27 : Z6 Tryz.prog _ _ (.cell 4 157) _:=ZK hE rfl XI rfl hM.rawAt0 (Flat.len _) rfl
  exact wp_ret (ZP hE rfl hq27 ⟨_,rfl,rfl,hM.kept⟩)
def UF (p0 : Int) (s4 : UInt8 × Int × UInt8) : Option (Fl (UInt8 × Int × UInt8) UInt8) :=
 if (decide (s4.2.1 > 0)) = true then (((if ((Int.tmod s4.2.1 2) == 1) = true then ((YM p0 s4.2.2 s4.1).bind fun r16=>some r16) else (some s4.2.2) : Option (UInt8)).bind fun j12=>(YM p0 s4.1 s4.1).bind fun r20=>some (r20,j12) : Option (UInt8 × UInt8)).bind fun j9=>some (Fl.nx (j9.1,wr (Int.tdiv s4.2.1 2),j9.2))) else (some (Fl.ex s4.2.2))
def WW (p0 : Int) (p1 : UInt8) (p2 : Int) : Option (UInt8) :=
 (ZA (UF p0) (p1,p2,1)).bind fun j1=>some j1
theorem Hf (w0 : World) (p0 : Int) (p1 : UInt8) (p2 : Int) (r : UInt8) (hF : WW p0 p1 p2 = some r) :
  Calls Tryz.prog 210 [vI p0,vB p1,vI p2].toArray w0 (Rt w0 (vB r)):=by
 refine ce Tryz.func210 ?_
 intro a hE
 have hM:=M.start w0
 unfold WW at hF
 refine Zb (Zc hE rfl fun a hE=>Ze (Zb (Zc hE rfl fun a hE=>Ze ?_)))
 obtain ⟨j1,hl2,hF3⟩:=bind_some hF
 refine ZN (fun a w=>Env 24 a [(7,vB j1)] ∧ M (Old w0) w0 w []) ?_ ?_
 ·skip
  refine wp_block ?_
  refine ZE (fun (s4 : UInt8 × Int × UInt8) a w=>Env 24 a [(0,vI p0),(1,vB s4.1),(2,vI s4.2.1),(7,vB s4.2.2)] ∧ M (Old w0) w0 w []) hl2 ⟨hE.sub ⟨rfl,rfl,rfl,rfl,trivial⟩,hM⟩ ?_
  rintro s4 a w ⟨hE,hM⟩ o7 hs5 hx6
  unfold UF at hs5
  refine wp_seq (Zb (Zd hE rfl fun a hE=>Zi hE rfl rfl rfl fun a hE=>Ze ?_))
  refine Zo hE rfl ?_ ?_
  ·intro hb8
   have hs5:=Zt hs5 hb8
   refine wp_skip (Zp ?_)
   obtain ⟨j9,hl10,hF11⟩:=bind_some hs5
   refine ZN (fun a w=>Env 24 a [(0,vI p0),(1,vB j9.1),(2,vI s4.2.1),(7,vB j9.2)] ∧ M (Old w0) w0 w []) ?_ ?_
   ·skip
    refine wp_block ?_
    obtain ⟨j12,hl13,hF14⟩:=bind_some hl10
    refine ZN (fun a w=>Env 24 a [(0,vI p0),(1,vB s4.1),(2,vI s4.2.1),(7,vB j12)] ∧ M (Old w0) w0 w []) ?_ ?_
    ·skip
     refine Zb (Zd hE rfl fun a hE=>Zi hE rfl rfl (Qi _ _ (by decide)) fun a hE=>Zi hE rfl rfl rfl fun a hE=>Ze ?_)
     refine Zo hE rfl ?_ ?_
     ·intro hb15
      have hl13:=Zt hl13 hb15
      refine wp_region_lit (Zd hE rfl fun a hE=>Zd hE rfl fun a hE=>Zd hE rfl ?_); intro a hE
      obtain ⟨r16,e17,hl13⟩:=bind_some hl13
      refine Zx hE rfl zG (VH _ p0 s4.2.2 s4.1 r16 e17) ?_
      rintro v w a ⟨rfl,hK⟩ hE
      have hM:=hM.keep hK
      refine Zc hE rfl fun a hE=>Zg ?_
      obtain rfl:=Option.some.inj hl13
      refine Zk ?_
      exact ⟨hE.sub ⟨rfl,rfl,rfl,rfl,trivial⟩,hM⟩
     ·intro hb15
      have hl13:=Zs hl13 hb15
      refine wp_skip ?_
      obtain rfl:=Option.some.inj hl13
      refine Zk ?_
      exact ⟨hE.sub ⟨rfl,rfl,rfl,rfl,trivial⟩,hM⟩
    ·skip
     rintro a w ⟨hE,hM⟩
     refine wp_region_lit (Zd hE rfl fun a hE=>Zd hE rfl fun a hE=>Zd hE rfl ?_); intro a hE
     obtain ⟨r20,e21,hF14⟩:=bind_some hF14
     refine Zx hE rfl zG (VH _ p0 s4.1 s4.1 r20 e21) ?_
     rintro v w a ⟨rfl,hK⟩ hE
     have hM:=hM.keep hK
     refine Zc hE rfl fun a hE=>Zg (Yb ?_)
     obtain rfl:=Option.some.inj hF14
     refine Zk ?_
     exact ⟨hE.sub ⟨rfl,rfl,rfl,rfl,trivial⟩,hM⟩
   ·skip
    rintro a w ⟨hE,hM⟩
    refine wp_region_lit (Zd hE rfl fun a hE=>Zi hE rfl rfl (Ap _ _ (by decide)) fun a hE=>Zc hE rfl fun a hE=>Zg (Zk ?_))
    exact ⟨_,(ois hF11),hE.sub ⟨rfl,rfl,rfl,rfl,trivial⟩,hM⟩
  ·intro hb8
   have hs5:=Zs hs5 hb8
   refine wp_exit (Zn (Zn (Ye ?_)))
   obtain rfl:=hx6 _ (ois hs5)
   refine Zk ?_
   exact ⟨hE.sub ⟨rfl,trivial⟩,hM⟩
 ·skip
  rintro a w ⟨hE,hM⟩
  refine Zb (Zd hE rfl fun a hE=>Zc hE rfl fun a hE=>Ze ?_)
  obtain rfl:=Option.some.inj hF3
  exact wp_ret (kr1 hE rfl rfl hM.kept)
def Vb (p0 : Int) (p1 : UInt8) : Option (UInt8) :=
 (WW p0 p1 254).bind fun r1=>some r1
theorem Bz (w0 : World) (p0 : Int) (p1 : UInt8) (r : UInt8) (hF : Vb p0 p1 = some r) :
  Calls Tryz.prog 178 [vI p0,vB p1].toArray w0 (Rt w0 (vB r)):=by
 refine ce Tryz.func178 ?_
 intro a hE
 have hM:=M.start w0
 unfold Vb at hF
 refine Zb (Zc hE rfl fun a hE=>Ze (Zb (Zd hE rfl fun a hE=>Zd hE rfl ?_))); intro a hE
 obtain ⟨r1,e2,hF⟩:=bind_some hF
 refine Zx hE rfl (cbm Tryz.func210) (Hf _ p0 p1 254 r1 e2) ?_
 rintro v w a ⟨rfl,hK⟩ hE
 have hM:=hM.keep hK
 refine Zc hE rfl fun a hE=>Ze ?_
 obtain rfl:=Option.some.inj hF
 exact wp_ret (kr1 hE rfl rfl hM.kept)
def Uu (s16 : (Vector (Vector UInt8 4) 4) × Int) (s24 : (Vector (Vector UInt8 4) 4) × Int) : Option (Fl ((Vector (Vector UInt8 4) 4) × Int) (Vector (Vector UInt8 4) 4)) :=
 if (decide (s24.2 < 4)) = true then ((Vb 285 (ZG (JD s16.2 (wr (4 + s24.2))))).bind fun r30=>(ZI s24.1 s16.2).bind fun x33=>(ZI x33 s24.2).bind fun x36=>some (Fl.nx ((s24.1.setIfInBounds (s16.2).toNat (x33.setIfInBounds (s24.2).toNat r30)),wr (s24.2 + 1)))) else (some (Fl.ex s24.1))
def Ur (s16 : (Vector (Vector UInt8 4) 4) × Int) : Option (Fl ((Vector (Vector UInt8 4) 4) × Int) (Vector (Vector UInt8 4) 4)) :=
 if (decide (s16.2 < 4)) = true then ((ZA (Uu s16) (s16.1,0)).bind fun j21=>some (Fl.nx (j21,wr (s16.2 + 1)))) else (some (Fl.ex s16.1))
def Uz (s43 : (Vector UInt8 16) × Int) : Option (Fl ((Vector UInt8 16) × Int) (Vector UInt8 16)) :=
 if (decide (s43.2 < 16)) = true then ((ZI s43.1 s43.2).bind fun x49=>some (Fl.nx ((s43.1.setIfInBounds (s43.2).toNat (ZG (Int.tmod (wr ((wr (13 * s43.2)) + 4)) 16))),wr (s43.2 + 1)))) else (some (Fl.ex s43.1))
def VN (p0 : Int) : Option (GCipher) :=
 (VU 285 254).bind fun r5=>(Wl ([0,1,4] : List Int) 90).bind fun r9=>(Ue r5 r9).bind fun r11=>(ZA (Ur) ((Vector.replicate 4 (Vector.replicate 4 (0 : UInt8))),0)).bind fun j13=>(ZA (Uz) ((Vector.replicate 16 (0 : UInt8)),0)).bind fun j40=>some (⟨285,r11,j13,j40,p0⟩ : GCipher)
theorem Hl (w0 : World) (p0 : Int) (r : GCipher) (hF : VN p0 = some r) :
  Calls Tryz.prog 125 [vI p0].toArray w0 (Rt w0 (Value.agg (enc r).toArray)):=by
 refine ce Tryz.func125 ?_
 intro a hE
 have hM:=M.start w0
 unfold VN at hF
 refine Zb (Zz hE hM Up fun b1 w a hM hE=>Ze (Zb (Zd hE rfl fun a hE=>XM (parts:=[(0,.const (vI 285)),(4,.tmp 7)]) (vs:=[(0,vI 285),(4,vI p0)]) (cs:=cat [[vI 285],enc (Vector.replicate 256 (0 : UInt8)),enc (Vector.replicate 4 (Vector.replicate 4 (0 : UInt8))),enc (Vector.replicate 16 (0 : UInt8)),[vI p0]]) hE Za ld rfl rfl Up pl163 (Xx (pre:=[]) (seg:=[vI 0]) (seg':=[vI 285]) (post:=[enc (Vector.replicate 256 (0 : UInt8)),enc (Vector.replicate 4 (Vector.replicate 4 (0 : UInt8))),enc (Vector.replicate 16 (0 : UInt8)),[vI 0]]) rfl cl0 rfl rfl rfl (Xx (pre:=[[vI 285],enc (Vector.replicate 256 (0 : UInt8)),enc (Vector.replicate 4 (Vector.replicate 4 (0 : UInt8))),enc (Vector.replicate 16 (0 : UInt8))]) (seg:=[vI 0]) (seg':=[vI p0]) (post:=[]) rfl ck rfl rfl rfl Vv)) fun a hE=>Zz hE hM Up fun b3 w a hM hE=>Zm (seg:=cat [[vI 285],enc (Vector.replicate 256 (0 : UInt8)),enc (Vector.replicate 4 (Vector.replicate 4 (0 : UInt8))),enc (Vector.replicate 16 (0 : UInt8)),[vI p0]]) (cs':=cat [[vI 285],enc (Vector.replicate 256 (0 : UInt8)),enc (Vector.replicate 4 (Vector.replicate 4 (0 : UInt8))),enc (Vector.replicate 16 (0 : UInt8)),[vI p0]]) hE hM Za rfl rfl rfl Up cq (Nat.le_of_eq ((Nat.zero_add _).trans (Eq.trans cq (Eq.symm cq)))) (Yq (cc1 (Flat.cell (285 : Int)) (cc1 (Flat.cell _) (cc1 (Flat.cell _) (cc1 (Flat.cell _) (cc1 (Flat.cell (p0 : Int)) cc0)))))) (Zh (Eq.trans cq (Eq.symm cq))) fun w a hM hE=>Ze (Zb ?_))))
 obtain ⟨r5,e6,hF⟩:=bind_some hF
 refine Zx hE rfl (cbm Tryz.func176) (Hm _ 285 254 r5 e6) ?_
 rintro v w a ⟨rfl,hK⟩ hE
 have hM:=hM.keep hK
 refine Yr (xs:=[.const (vI 0),.const (vI 1),.const (vI 4)]) (l:=([0,1,4] : List Int)) (vs:=[vI 0,vI 1,vI 4]) hE hM Za ld rfl rfl Tryz.underlying24 ty2 rfl (by decide) rfl ?_; intro u7 w a hM hE
 obtain ⟨r9,e10,hF⟩:=bind_some hF
 refine Zx hE rfl (cbm Tryz.func177) (Kk _ ([0,1,4] : List Int) u7 (hM.sl (pre:=[]) noB) 90 r9 e10) ?_
 rintro v w a ⟨rfl,hK⟩ hE
 have hM:=hM.keep hK
 obtain ⟨r11,e12,hF⟩:=bind_some hF
 refine Zx hE rfl (cbm Tryz.func175) (Bv _ r5 r9 r11 e12) ?_
 rintro v w a ⟨rfl,hK⟩ hE
 have hM:=hM.keep hK
 refine Zy hE rfl (Kb) ?_; intro a hE
 have hM:=hM.pull1
 refine Zm (seg:=enc r11) hE hM Za rfl rfl rfl XI (Flat.len _) (Us (pre:=[[vI 285]]) ck flq) (Flat.cell _) (XO (pre:=[[vI 285]]) ck flq) fun w a hM hE=>Ze (wp_seq (Zb (Zc hE rfl fun a hE=>Ze ?_)))
 obtain ⟨j13,hl14,hF15⟩:=bind_some hF
 refine ZO (fun a w=>Env 46 a [(2,(ptr b1 0)),(3,(ptr b3 0))] ∧ M (Old w0) w0 w [raw b3 (cat [[vI 285],enc r11,enc j13,enc (Vector.replicate 16 (0 : UInt8)),[vI p0]]),raw b1 (cat [[vI 0],enc (Vector.replicate 256 (0 : UInt8)),enc (Vector.replicate 4 (Vector.replicate 4 (0 : UInt8))),enc (Vector.replicate 16 (0 : UInt8)),[vI 0]])]) ?_ ?_
 ·skip
  refine wp_block ?_
  have hM:=M.fst (l:=[_,_]) hM.pull2.pull1
  refine ZE (fun (s16 : (Vector (Vector UInt8 4) 4) × Int) a w=>Env 46 a [(2,(ptr b1 0)),(3,(ptr b3 0)),(4,vI s16.2)] ∧ M (Old w0) w0 w [raw b3 (cat [[vI 285],enc r11,enc s16.1,enc (Vector.replicate 16 (0 : UInt8)),[vI p0]]),raw b1 (cat [[vI 0],enc (Vector.replicate 256 (0 : UInt8)),enc (Vector.replicate 4 (Vector.replicate 4 (0 : UInt8))),enc (Vector.replicate 16 (0 : UInt8)),[vI 0]])]) hl14 ⟨hE.sub ⟨rfl,rfl,rfl,trivial⟩,hM⟩ ?_
  rintro s16 a w ⟨hE,hM⟩ o19 hs17 hx18
  unfold Ur at hs17
  refine wp_seq (Zb (Zd hE rfl fun a hE=>Zi hE rfl rfl rfl fun a hE=>Ze ?_))
  refine Zo hE rfl ?_ ?_
  ·intro hb20
   have hs17:=Zt hs17 hb20
   refine wp_skip (Zp (wp_seq (wp_block (Zb (Zc hE rfl fun a hE=>Ze ?_)))))
   obtain ⟨j21,hl22,hF23⟩:=bind_some hs17
   refine ZO (fun a w=>Env 46 a [(2,(ptr b1 0)),(3,(ptr b3 0)),(4,vI s16.2)] ∧ M (Old w0) w0 w [raw b3 (cat [[vI 285],enc r11,enc j21,enc (Vector.replicate 16 (0 : UInt8)),[vI p0]]),raw b1 (cat [[vI 0],enc (Vector.replicate 256 (0 : UInt8)),enc (Vector.replicate 4 (Vector.replicate 4 (0 : UInt8))),enc (Vector.replicate 16 (0 : UInt8)),[vI 0]])]) ?_ ?_
   ·skip
    refine wp_block ?_
    refine ZE (fun (s24 : (Vector (Vector UInt8 4) 4) × Int) a w=>Env 46 a [(2,(ptr b1 0)),(3,(ptr b3 0)),(4,vI s16.2),(5,vI s24.2)] ∧ M (Old w0) w0 w [raw b3 (cat [[vI 285],enc r11,enc s24.1,enc (Vector.replicate 16 (0 : UInt8)),[vI p0]]),raw b1 (cat [[vI 0],enc (Vector.replicate 256 (0 : UInt8)),enc (Vector.replicate 4 (Vector.replicate 4 (0 : UInt8))),enc (Vector.replicate 16 (0 : UInt8)),[vI 0]])]) hl22 ⟨hE.sub ⟨rfl,rfl,rfl,rfl,trivial⟩,hM⟩ ?_
    rintro s24 a w ⟨hE,hM⟩ o27 hs25 hx26
    unfold Uu at hs25
    refine wp_seq (Zb (Zd hE rfl fun a hE=>Zi hE rfl rfl rfl fun a hE=>Ze ?_))
    refine Zo hE rfl ?_ ?_
    ·intro hb28
     have hs25:=Zt hs25 hb28
     refine wp_skip (Zp (wp_seq (wp_block ?_)))
     obtain ⟨r30,e31,hs25⟩:=bind_some hs25
     obtain ⟨x33,hi32,hs25⟩:=bvx hs25
     obtain ⟨x36,hi35,hs25⟩:=bvx hs25
     refine ZX [22,23,24,25,26,27,28,29,30,31,32] Yu rfl rfl (by decide) rfl hE hM (qsP (fun z=>Zj z.E Za ld rfl (kr0 rfl)) (qsP (fun z=>Zj z.E Za ld rfl (kr0 rfl)) (qsP (fun z=>Zj z.E Za ld rfl (kr0 rfl)) (qsP (fun z=>Zj z.E Za ld rfl (kr0 rfl)) (qsP (v:=(vI (wr (4 + s24.2)))) (fun z=>Z9 z.E Za ld rfl rfl rfl (kr0 rfl)) (qsP (v:=(vI (JD s16.2 (wr (4 + s24.2))))) (fun z=>Z9 z.E Za ld rfl rfl rfl (kr0 rfl)) (qsP (fun z=>Xo z.E Za ld rfl Tryz.underlying3 Tryz.underlying5 (kr0 rfl)) (qsP (fun z=>Yk z.E Za ld rfl (cbm Tryz.func178) (Bz _ 285 (ZG (JD s16.2 (wr (4 + s24.2)))) r30 e31) (kc rfl)) (qsP (fun z=>Zq z.E Za ld rfl (Jg) (kr0 rfl)) (qsP (fun z=>ZC z.E Za ld rfl rfl Tryz.underlying160 XB hi32.1 (kr0 rfl)) (qsP (fun z=>ZC z.E Za ld rfl rfl Tryz.underlying158 ty5 hi35.1 (kr0 rfl)) qs0))))))))))) ?_
     ·intro a w u hE hM
      refine Zm (seg:=[vB r30]) (cs':=cat [[vI 285],enc r11,enc (s24.1.setIfInBounds (s16.2).toNat (x33.setIfInBounds (s24.2).toNat r30)),enc (Vector.replicate 16 (0 : UInt8)),[vI p0]]) hE hM Za rfl rfl rfl ty5 rfl (Q2 (o':=(s16.2).toNat * 4 + (0 + (s24.2).toNat * 1)) (pre:=[[vI 285],enc r11]) (seg:=enc s24.1) (post:=[enc (Vector.replicate 16 (0 : UInt8)),[vI p0]]) ck (VJ (o':=0 + (s24.2).toNat * 1) hi32 (ZS (v:=x33) (x:=r30) hi35.1) (by first | omega | (simp only [Flat.n] <;> omega))) (by first | omega | (simp only [Flat.n] <;> omega))) (Flat.cell (r30 : UInt8)) (TE (o':=(s16.2).toNat * 4 + (0 + (s24.2).toNat * 1)) (pre:=[[vI 285],enc r11]) (seg:=enc s24.1) (post:=[enc (Vector.replicate 16 (0 : UInt8)),[vI p0]]) ck (VJ (o':=0 + (s24.2).toNat * 1) hi32 (ZS (v:=x33) (x:=r30) hi35.1) (by first | omega | (simp only [Flat.n] <;> omega))) (W5 (o':=0 + (s24.2).toNat * 1) hi32 (ZS (v:=x33) (x:=r30) hi35.1) (ZD (v:=x33) (x:=r30) hi35.1) (by first | omega | (simp only [Flat.n] <;> omega))) (by first | omega | (simp only [Flat.n] <;> omega))) fun w a hM hE=>Zg (Yb (Zp (wp_region_lit (Zd hE rfl fun a hE=>Zi hE rfl rfl rfl fun a hE=>Zc hE rfl fun a hE=>Zg (Zk ?_)))))
      exact ⟨_,(ois hs25),hE.sub ⟨rfl,rfl,rfl,rfl,trivial⟩,hM⟩
    ·intro hb28
     have hs25:=Zs hs25 hb28
     refine wp_exit (Zn (Zn (Ye ?_)))
     obtain rfl:=hx26 _ (ois hs25)
     refine Zk ?_
     exact ⟨hE.sub ⟨rfl,rfl,rfl,trivial⟩,hM⟩
   ·skip
    rintro a w ⟨hE,hM⟩
    refine Yb (Zp (wp_region_lit (Zd hE rfl fun a hE=>Zi hE rfl rfl rfl fun a hE=>Zc hE rfl fun a hE=>Zg (Zk ?_))))
    exact ⟨_,(ois hF23),hE.sub ⟨rfl,rfl,rfl,trivial⟩,hM⟩
  ·intro hb20
   have hs17:=Zs hs17 hb20
   refine wp_exit (Zn (Zn (Ye ?_)))
   obtain rfl:=hx18 _ (ois hs17)
   refine Zk ?_
   exact ⟨hE.sub ⟨rfl,rfl,trivial⟩,hM⟩
 ·skip
  rintro a w ⟨hE,hM⟩
  refine Zp (wp_seq (Zb (Zc hE rfl fun a hE=>Ze ?_)))
  obtain ⟨j40,hl41,hF42⟩:=bind_some hF15
  refine ZO (fun a w=>Env 46 a [(2,(ptr b1 0)),(3,(ptr b3 0))] ∧ M (Old w0) w0 w [raw b3 (cat [[vI 285],enc r11,enc j13,enc j40,[vI p0]]),raw b1 (cat [[vI 0],enc (Vector.replicate 256 (0 : UInt8)),enc (Vector.replicate 4 (Vector.replicate 4 (0 : UInt8))),enc (Vector.replicate 16 (0 : UInt8)),[vI 0]])]) ?_ ?_
  ·skip
   refine wp_block ?_
   refine ZE (fun (s43 : (Vector UInt8 16) × Int) a w=>Env 46 a [(2,(ptr b1 0)),(3,(ptr b3 0)),(6,vI s43.2)] ∧ M (Old w0) w0 w [raw b3 (cat [[vI 285],enc r11,enc j13,enc s43.1,[vI p0]]),raw b1 (cat [[vI 0],enc (Vector.replicate 256 (0 : UInt8)),enc (Vector.replicate 4 (Vector.replicate 4 (0 : UInt8))),enc (Vector.replicate 16 (0 : UInt8)),[vI 0]])]) hl41 ⟨hE.sub ⟨rfl,rfl,rfl,trivial⟩,hM⟩ ?_
   rintro s43 a w ⟨hE,hM⟩ o46 hs44 hx45
   unfold Uz at hs44
   refine wp_seq (Zb (Zd hE rfl fun a hE=>Zi hE rfl rfl rfl fun a hE=>Ze ?_))
   refine Zo hE rfl ?_ ?_
   ·intro hb47
    have hs44:=Zt hs44 hb47
    refine wp_skip (Zp (wp_seq (wp_block (wp_region_lit (Zd hE rfl fun a hE=>Zd hE rfl fun a hE=>Zi hE rfl rfl rfl fun a hE=>Zi hE rfl rfl rfl fun a hE=>Zi hE rfl rfl (Qi _ _ (by decide)) fun a hE=>Xo hE Za ld rfl Tryz.underlying3 Tryz.underlying5 fun a hE=>Zy hE rfl (KZ) ?_))))); intro a hE
    obtain ⟨x49,hi48,hs44⟩:=bvx hs44
    refine ZF hE rfl rfl Tryz.underlying161 ty5 hi48.1 fun a hE=>Zm (seg:=[(vB (ZG (Int.tmod (wr ((wr (13 * s43.2)) + 4)) 16)))]) (cs':=cat [[vI 285],enc r11,enc j13,enc (s43.1.setIfInBounds (s43.2).toNat (ZG (Int.tmod (wr ((wr (13 * s43.2)) + 4)) 16))),[vI p0]]) hE hM Za rfl rfl rfl ty5 rfl (Q2 (o':=0 + (s43.2).toNat * 1) (pre:=[[vI 285],enc r11,enc j13]) (seg:=enc s43.1) (post:=[[vI p0]]) ck (ZS (v:=s43.1) (x:=ZG (Int.tmod (wr ((wr (13 * s43.2)) + 4)) 16)) hi48.1) (by first | omega | (simp only [Flat.n] <;> omega))) (Flat.cell (ZG (Int.tmod (wr ((wr (13 * s43.2)) + 4)) 16) : UInt8)) (TE (o':=0 + (s43.2).toNat * 1) (pre:=[[vI 285],enc r11,enc j13]) (seg:=enc s43.1) (post:=[[vI p0]]) ck (ZS (v:=s43.1) (x:=ZG (Int.tmod (wr ((wr (13 * s43.2)) + 4)) 16)) hi48.1) (ZD (v:=s43.1) (x:=ZG (Int.tmod (wr ((wr (13 * s43.2)) + 4)) 16)) hi48.1) (by first | omega | (simp only [Flat.n] <;> omega))) fun w a hM hE=>Zg (Yb (Zp (wp_region_lit (Zd hE rfl fun a hE=>Zi hE rfl rfl rfl fun a hE=>Zc hE rfl fun a hE=>Zg (Zk ?_)))))
    exact ⟨_,(ois hs44),hE.sub ⟨rfl,rfl,rfl,trivial⟩,hM⟩
   ·intro hb47
    have hs44:=Zs hs44 hb47
    refine wp_exit (Zn (Zn (Ye ?_)))
    obtain rfl:=hx45 _ (ois hs44)
    refine Zk ?_
    exact ⟨hE.sub ⟨rfl,rfl,trivial⟩,hM⟩
  ·skip
   rintro a w ⟨hE,hM⟩
   refine Zp (Zb (Zr hE rfl Up rfl hM.rawAt0 cq ?_)); intro a hE
   have hM:=hM.pull1
   refine Zm (seg:=cat [[(vI ((⟨285,r11,j13,j40,p0⟩ : GCipher).Field))],enc ((⟨285,r11,j13,j40,p0⟩ : GCipher).Box),enc ((⟨285,r11,j13,j40,p0⟩ : GCipher).Mix),enc ((⟨285,r11,j13,j40,p0⟩ : GCipher).Places),[(vI ((⟨285,r11,j13,j40,p0⟩ : GCipher).Rounds))]]) (cs':=cat [[(vI ((⟨285,r11,j13,j40,p0⟩ : GCipher).Field))],enc ((⟨285,r11,j13,j40,p0⟩ : GCipher).Box),enc ((⟨285,r11,j13,j40,p0⟩ : GCipher).Mix),enc ((⟨285,r11,j13,j40,p0⟩ : GCipher).Places),[(vI ((⟨285,r11,j13,j40,p0⟩ : GCipher).Rounds))]]) hE hM Za rfl rfl rfl Up cq (Nat.le_of_eq ((Nat.zero_add _).trans (Eq.trans cq (Eq.symm cq)))) (Yq (cc1 (Flat.cell ((⟨285,r11,j13,j40,p0⟩ : GCipher).Field : Int)) (cc1 (Flat.cell _) (cc1 (Flat.cell _) (cc1 (Flat.cell _) (cc1 (Flat.cell ((⟨285,r11,j13,j40,p0⟩ : GCipher).Rounds : Int)) cc0)))))) (Zh (Eq.trans cq (Eq.symm cq))) fun w a hM hE=>Ze ?_
   obtain rfl:=Option.some.inj hF42
   have hq52 : Z6 Tryz.prog _ _ (.cell 2 163) _:=ZK hE rfl Up rfl hM.rawAt0 cq rfl
   exact wp_ret (ZP hE rfl hq52 ⟨_,rfl,rfl,hM.kept⟩)
def WL (p0 : (List UInt8)) : Option ((List UInt8)) :=
 (app 1 ([] : List UInt8) p0).bind fun l3=>some (([] : List UInt8) ++ p0)
theorem TY (w0 : World) (p0 : (List UInt8)) (v0_1 : Value) (hv0_1 : Ro w0 p0 [v0_1]) (r : (List UInt8)) (hF : WL p0 = some r) :
  Calls Tryz.prog 65 [v0_1].toArray w0 (fun en w'=>∃ v,en = .returned v ∧ (∃ (y1 : Value),v = y1 ∧ Fr w0 w' [osl NoB (r : List UInt8) y1] ∧ Kept (Old w0) w0 w')):=by
 refine ce Tryz.func65 ?_
 intro a hE
 have hM:=M.start w0
 unfold WL at hF
 refine Zb (Zc hE rfl fun a hE=>Ze (Zb (Yr (xs:=[]) (l:=([] : List UInt8)) (vs:=[]) hE hM Za ld rfl rfl Tryz.underlying40 ty5 rfl (by decide) rfl fun u1 w a hM hE=>Zd hE rfl ?_))); intro a hE
 obtain ⟨l3,e4,hF⟩:=bind_some hF
 have e7:=(Yj e4).1
 refine Z2 hE hM Za ld rfl rfl (hM.rd hv0_1) Tryz.underlying40 ty5 rfl (by decide) e7 fun u5 w a hM hE=>Zc hE rfl fun a hE=>Ze ?_
 obtain rfl:=Option.some.inj hF
 exact wp_ret (ZP hE rfl (ZU hE rfl) ⟨_,rfl,u5,rfl,hM.outF (Yf Xi),hM.kept⟩)
def Tb (s16 : (List UInt8)) : Option (Fl (List UInt8) (List UInt8)) :=
 if ((Int.tmod (s16.length : Int) 16) != 8) = true then ((app 1 s16 ([0] : List UInt8)).bind fun l25=>some (Fl.nx (s16 ++ ([0] : List UInt8)))) else (some (Fl.ex s16))
def Vw (p0 : (List UInt8)) (s36 : (List UInt8) × Int) : Option (Fl ((List UInt8) × Int) (List UInt8)) :=
 if (decide (s36.2 ≥ 0)) = true then ((XW (IntKind.u64.wrap (wr (8 * s36.2)))).bind fun _=>(app 1 s36.1 ([ZG (Hj (TJ (p0.length : Int) (IntKind.u64.wrap (wr (8 * s36.2)))) 255)] : List UInt8)).bind fun l46=>some (Fl.nx ((s36.1 ++ ([ZG (Hj (TJ (p0.length : Int) (IntKind.u64.wrap (wr (8 * s36.2)))) 255)] : List UInt8)),wr (s36.2 - 1)))) else (some (Fl.ex s36.1))
def UL (p0 : (List UInt8)) : Option ((List UInt8)) :=
 (WL p0).bind fun r1=>(app 1 r1 ([128] : List UInt8)).bind fun l6=>(ZA (Tb) (r1 ++ ([128] : List UInt8))).bind fun j11=>(ZA (Vw p0) (j11,7)).bind fun j31=>some j31
theorem By (w0 : World) (p0 : (List UInt8)) (v0_1 : Value) (hv0_1 : Ro w0 p0 [v0_1]) (r : (List UInt8)) (hF : UL p0 = some r) :
  Calls Tryz.prog 172 [v0_1].toArray w0 (fun en w'=>∃ v,en = .returned v ∧ (∃ (y1 : Value),v = y1 ∧ Fr w0 w' [osl NoB (r : List UInt8) y1] ∧ Kept (Old w0) w0 w')):=by
 refine ce Tryz.func172 ?_
 intro a hE
 have hM:=M.start w0
 unfold UL at hF
 refine Zb (Zc hE rfl fun a hE=>Ze (Zb (Zd hE rfl ?_))); intro a hE
 obtain ⟨r1,e2,hF⟩:=bind_some hF
 refine Zx hE rfl cb65 (TY _ p0 v0_1 (hM.rdo hv0_1) r1 e2) ?_
 rintro u3 w a ⟨_,rfl,hFr,hK⟩ hE
 have hM:=hM.add hK hFr
 refine Yr (xs:=[.const (vB 128)]) (l:=([128] : List UInt8)) (vs:=[vB 128]) hE hM Za ld rfl rfl Tryz.underlying40 ty5 rfl (by decide) rfl ?_; intro u4 w a hM hE
 obtain ⟨l6,e7,hF⟩:=bind_some hF
 obtain ⟨e10,rfl⟩:=Yj e7
 have hM:=hM.pull1
 refine Z2 hE hM Za ld rfl rfl (hM.sl (pre:=[_]) noB) Tryz.underlying40 ty5 rfl (by decide) e10 fun u8 w a hM hE=>Zc hE rfl fun a hE=>Ze ?_
 obtain ⟨j11,hl12,hF13⟩:=bind_some hF
 refine ZN (fun a w=>∃ (u14 : Value),Env 32 a [(0,v0_1),(3,u14)] ∧ M (Old w0) w0 w [osl NoB (j11 : List UInt8) u14]) ?_ ?_
 ·skip
  refine wp_block ?_
  have hM:=M.fst (l:=[_]) hM
  refine ZE (fun (s16 : (List UInt8)) a w=>∃ (u17 : Value),Env 32 a [(0,v0_1),(3,u17)] ∧ M (Old w0) w0 w [osl NoB (s16 : List UInt8) u17]) hl12 ⟨u8,hE.sub ⟨rfl,rfl,trivial⟩,hM⟩ ?_
  rintro s16 a w ⟨u17,hE,hM⟩ o21 hs19 hx20
  unfold Tb at hs19
  refine wp_seq (Zb (Zd hE rfl fun a hE=>Z5 hE rfl Tryz.underlying40 (hM.sl (pre:=[]) noB) fun a hE=>Zi hE rfl rfl (Qi _ _ (by decide)) fun a hE=>Zi hE rfl rfl rfl fun a hE=>Ze ?_))
  refine Zo hE rfl ?_ ?_
  ·intro hb22
   have hs19:=Zt hs19 hb22
   refine wp_skip (Zp (wp_block (wp_region_lit (Zd hE rfl fun a hE=>Yr (xs:=[.const (vB 0)]) (l:=([0] : List UInt8)) (vs:=[vB 0]) hE hM Za ld rfl rfl Tryz.underlying40 ty5 rfl (by decide) rfl ?_)))); intro u23 w a hM hE
   obtain ⟨l25,e26,hs19⟩:=bind_some hs19
   obtain ⟨e29,rfl⟩:=Yj e26
   have hM:=hM.pull1
   refine Z2 hE hM Za ld rfl rfl (hM.sl (pre:=[_]) noB) Tryz.underlying40 ty5 rfl (by decide) e29 fun u27 w a hM hE=>Zc hE rfl fun a hE=>Zg (Yb (Zk ?_))
   have hM:=M.fst (l:=[_]) hM
   exact ⟨_,(ois hs19),u27,hE.sub ⟨rfl,rfl,trivial⟩,hM⟩
  ·intro hb22
   have hs19:=Zs hs19 hb22
   refine wp_exit (Zn (Zn (Ye ?_)))
   obtain rfl:=hx20 _ (ois hs19)
   refine Zk ?_
   exact ⟨u17,hE.sub ⟨rfl,rfl,trivial⟩,hM⟩
 ·skip
  rintro a w ⟨u14,hE,hM⟩
  refine wp_seq (Zb (Zc hE rfl fun a hE=>Ze ?_))
  obtain ⟨j31,hl32,hF33⟩:=bind_some hF13
  refine ZO (fun a w=>∃ (u34 : Value),Env 32 a [(3,u34)] ∧ M (Old w0) w0 w [osl NoB (j31 : List UInt8) u34]) ?_ ?_
  ·skip
   refine wp_block ?_
   refine ZE (fun (s36 : (List UInt8) × Int) a w=>∃ (u37 : Value),Env 32 a [(0,v0_1),(3,u37),(4,vI s36.2)] ∧ M (Old w0) w0 w [osl NoB (s36.1 : List UInt8) u37]) hl32 ⟨u14,hE.sub ⟨rfl,rfl,rfl,trivial⟩,hM⟩ ?_
   rintro s36 a w ⟨u37,hE,hM⟩ o41 hs39 hx40
   unfold Vw at hs39
   refine wp_seq (Zb (Zd hE rfl fun a hE=>Zi hE rfl rfl rfl fun a hE=>Ze ?_))
   refine Zo hE rfl ?_ ?_
   ·intro hb42
    have hs39:=Zt hs39 hb42
    refine wp_skip (Zp (wp_seq (wp_block (wp_region_lit (Zd hE rfl fun a hE=>Zd hE rfl fun a hE=>Z5 hE rfl Tryz.underlying40 (hM.rd hv0_1) fun a hE=>Zd hE rfl fun a hE=>Zi hE rfl rfl rfl fun a hE=>KC hE Za ld rfl Tryz.underlying3 Tryz.underlying171 ?_))))); intro a hE
    obtain ⟨_,e43,hs39⟩:=bind_some hs39
    have e43:=W9 e43
    refine Br hE Za ld rfl rfl (AO _ _ e43) fun a hE=>Zi hE rfl rfl rfl fun a hE=>Xo hE Za ld rfl Tryz.underlying3 Tryz.underlying5 fun a hE=>Yr (xs:=[.tmp 28]) (l:=([ZG (Hj (TJ (p0.length : Int) (IntKind.u64.wrap (wr (8 * s36.2)))) 255)] : List UInt8)) (vs:=[(vB (ZG (Hj (TJ (p0.length : Int) (IntKind.u64.wrap (wr (8 * s36.2)))) 255)))]) hE hM Za ld rfl rfl Tryz.underlying40 ty5 rfl (by decide) rfl ?_; intro u44 w a hM hE
    obtain ⟨l46,e47,hs39⟩:=bind_some hs39
    obtain ⟨e50,rfl⟩:=Yj e47
    have hM:=hM.pull1
    refine Z2 hE hM Za ld rfl rfl (hM.sl (pre:=[_]) noB) Tryz.underlying40 ty5 rfl (by decide) e50 fun u48 w a hM hE=>Zc hE rfl fun a hE=>Zg (Yb (Zp (wp_region_lit (Zd hE rfl fun a hE=>Zi hE rfl rfl rfl fun a hE=>Zc hE rfl fun a hE=>Zg (Zk ?_)))))
    have hM:=M.fst (l:=[_]) hM
    exact ⟨_,(ois hs39),u48,hE.sub ⟨rfl,rfl,rfl,trivial⟩,hM⟩
   ·intro hb42
    have hs39:=Zs hs39 hb42
    refine wp_exit (Zn (Zn (Ye ?_)))
    obtain rfl:=hx40 _ (ois hs39)
    refine Zk ?_
    exact ⟨u37,hE.sub ⟨rfl,trivial⟩,hM⟩
  ·skip
   rintro a w ⟨u34,hE,hM⟩
   refine Zp (Zb (Zd hE rfl fun a hE=>Zc hE rfl fun a hE=>Ze ?_))
   obtain rfl:=Option.some.inj hF33
   exact wp_ret (ZP hE rfl (ZU hE rfl) ⟨_,rfl,u34,rfl,hM.outF (Yf Xi),hM.kept⟩)
def Wa (p0 : (List UInt8)) (s8 : (List (Vector UInt8 16)) × Int) (s20 : (Vector UInt8 16) × Int) : Option (Fl ((Vector UInt8 16) × Int) (Vector UInt8 16)) :=
 if (decide (s20.2 < 16)) = true then ((idx p0 (wr (s8.2 + s20.2))).bind fun x25=>(ZI s20.1 s20.2).bind fun x29=>some (Fl.nx ((s20.1.setIfInBounds (s20.2).toNat x25),wr (s20.2 + 1)))) else (some (Fl.ex s20.1))
def X5 (p0 : (List UInt8)) (s8 : (List (Vector UInt8 16)) × Int) : Option (Fl ((List (Vector UInt8 16)) × Int) (List (Vector UInt8 16))) :=
 if (decide ((wr (s8.2 + 16)) ≤ (p0.length : Int))) = true then ((ZA (Wa p0 s8) ((Vector.replicate 16 (0 : UInt8)),0)).bind fun j17=>(app 16 s8.1 ([j17] : List (Vector UInt8 16))).bind fun l34=>some (Fl.nx ((s8.1 ++ ([j17] : List (Vector UInt8 16))),wr (s8.2 + 16)))) else (some (Fl.ex s8.1))
def Vl (p0 : (List UInt8)) : Option ((List (Vector UInt8 16))) :=
 (ZA (X5 p0) (([] : List (Vector UInt8 16)),0)).bind fun j3=>some j3
theorem Jk (w0 : World) (p0 : (List UInt8)) (v0_1 : Value) (hv0_1 : Ro w0 p0 [v0_1]) (r : (List (Vector UInt8 16))) (hF : Vl p0 = some r) :
  Calls Tryz.prog 171 [v0_1].toArray w0 (fun en w'=>∃ v,en = .returned v ∧ (∃ (y1 : Value),v = y1 ∧ Fr w0 w' [osl NoB (r : List (Vector UInt8 16)) y1] ∧ Kept (Old w0) w0 w')):=by
 refine ce Tryz.func171 ?_
 intro a hE
 have hM:=M.start w0
 unfold Vl at hF
 refine Zb (Zc hE rfl fun a hE=>Ze (Zb (Yr (xs:=[]) (l:=([] : List (Vector UInt8 16))) (vs:=[]) hE hM Za ld rfl rfl Tryz.underlying54 ZJ rfl (by decide) rfl fun u1 w a hM hE=>Zc hE rfl fun a hE=>Ze (wp_seq (Zb (Zc hE rfl fun a hE=>Ze ?_))))))
 obtain ⟨j3,hl4,hF5⟩:=bind_some hF
 refine ZO (fun a w=>∃ (u6 : Value),Env 33 a [(3,u6)] ∧ M (Old w0) w0 w [osl NoB (j3 : List (Vector UInt8 16)) u6]) ?_ ?_
 ·skip
  refine wp_block ?_
  refine ZE (fun (s8 : (List (Vector UInt8 16)) × Int) a w=>∃ (u9 : Value),Env 33 a [(0,v0_1),(3,u9),(4,vI s8.2)] ∧ M (Old w0) w0 w [osl NoB (s8.1 : List (Vector UInt8 16)) u9]) hl4 ⟨u1,hE.sub ⟨rfl,rfl,rfl,trivial⟩,hM⟩ ?_
  rintro s8 a w ⟨u9,hE,hM⟩ o13 hs11 hx12
  unfold X5 at hs11
  refine wp_seq (Zb (Zd hE rfl fun a hE=>Zi hE rfl rfl rfl fun a hE=>Zd hE rfl fun a hE=>Z5 hE rfl Tryz.underlying40 (hM.rd hv0_1) fun a hE=>Zi hE rfl rfl rfl fun a hE=>Ze ?_))
  refine Zo hE rfl ?_ ?_
  ·intro hb14
   have hs11:=Zt hs11 hb14
   refine wp_skip (Zp (wp_seq (wp_block (Zb (YB (parts:=[]) (vs:=[]) (cs:=enc (Vector.replicate 16 (0 : UInt8))) hE Za ld rfl rfl ZJ rfl ty5 Yp fun a hE=>Zz hE hM ZJ fun b15 w a hM hE=>Zm (seg:=enc (Vector.replicate 16 (0 : UInt8))) (cs':=enc (Vector.replicate 16 (0 : UInt8))) hE hM Za rfl rfl rfl ZJ (Flat.len _) (zle flq) (Flat.cell _) (Zh flq) fun w a hM hE=>Ze (wp_seq (Zb (Zc hE rfl fun a hE=>Ze ?_))))))))
   obtain ⟨j17,hl18,hF19⟩:=bind_some hs11
   refine ZO (fun a w=>Env 33 a [(0,v0_1),(3,u9),(4,vI s8.2),(5,(ptr b15 0))] ∧ M (Old w0) w0 w [raw b15 (enc j17),osl NoB (s8.1 : List (Vector UInt8 16)) u9]) ?_ ?_
   ·skip
    refine wp_block ?_
    refine ZE (fun (s20 : (Vector UInt8 16) × Int) a w=>Env 33 a [(0,v0_1),(3,u9),(4,vI s8.2),(5,(ptr b15 0)),(6,vI s20.2)] ∧ M (Old w0) w0 w [raw b15 (enc s20.1),osl NoB (s8.1 : List (Vector UInt8 16)) u9]) hl18 ⟨hE.sub ⟨rfl,rfl,rfl,rfl,rfl,trivial⟩,hM⟩ ?_
    rintro s20 a w ⟨hE,hM⟩ o23 hs21 hx22
    unfold Wa at hs21
    refine wp_seq (Zb (Zd hE rfl fun a hE=>Zi hE rfl rfl rfl fun a hE=>Ze ?_))
    refine Zo hE rfl ?_ ?_
    ·intro hb24
     have hs21:=Zt hs21 hb24
     refine wp_skip (Zp (wp_seq (wp_block (wp_region_lit (Zd hE rfl fun a hE=>Zd hE rfl fun a hE=>Zd hE rfl fun a hE=>Zd hE rfl fun a hE=>Zi hE rfl rfl rfl ?_))))); intro a hE
     obtain ⟨x25,hi27,hs21⟩:=bix hs21
     refine Yd hE rfl rfl Tryz.underlying40 ty5 (hM.rd hv0_1) hi27.1 fun a hE=>ZB (v:=(vB x25)) hE rfl ty5 rfl (Yt (hM.rd hv0_1) hi27.2) ?_; intro a hE
     obtain ⟨x29,hi28,hs21⟩:=bvx hs21
     refine ZF hE rfl rfl Tryz.underlying68 ty5 hi28.1 fun a hE=>Zm (seg:=[vB x25]) (cs':=enc (s20.1.setIfInBounds (s20.2).toNat x25)) hE hM Za rfl rfl rfl ty5 rfl (ZS (v:=s20.1) (x:=x25) hi28.1) (Flat.cell (x25 : UInt8)) (ZD (v:=s20.1) (x:=x25) hi28.1) fun w a hM hE=>Zg (Yb (Zp (wp_region_lit (Zd hE rfl fun a hE=>Zi hE rfl rfl rfl fun a hE=>Zc hE rfl fun a hE=>Zg (Zk ?_)))))
     exact ⟨_,(ois hs21),hE.sub ⟨rfl,rfl,rfl,rfl,rfl,trivial⟩,hM⟩
    ·intro hb24
     have hs21:=Zs hs21 hb24
     refine wp_exit (Zn (Zn (Ye ?_)))
     obtain rfl:=hx22 _ (ois hs21)
     refine Zk ?_
     exact ⟨hE.sub ⟨rfl,rfl,rfl,rfl,trivial⟩,hM⟩
   ·skip
    rintro a w ⟨hE,hM⟩
    refine Zp (wp_region_lit (Zd hE rfl fun a hE=>Zr hE rfl ZJ rfl hM.rawAt0 (Flat.len _) fun a hE=>Yr (xs:=[.tmp 29]) (l:=([j17] : List (Vector UInt8 16))) (vs:=[(Value.agg (enc j17).toArray)]) hE hM Za ld rfl rfl Tryz.underlying54 ZJ rfl (by decide) rfl ?_)); intro u32 w a hM hE
    obtain ⟨l34,e35,hF19⟩:=bind_some hF19
    obtain ⟨e38,rfl⟩:=Yj e35
    have hM:=hM.pull2
    refine Z2 hE hM Za ld rfl rfl (hM.sl (pre:=[_]) noB) Tryz.underlying54 ZJ rfl (by decide) e38 fun u36 w a hM hE=>Zc hE rfl fun a hE=>Zg (Yb (Zp (wp_region_lit (Zd hE rfl fun a hE=>Zi hE rfl rfl rfl fun a hE=>Zc hE rfl fun a hE=>Zg (Zk ?_)))))
    have hM:=M.fst (l:=[_]) hM
    exact ⟨_,(ois hF19),u36,hE.sub ⟨rfl,rfl,rfl,trivial⟩,hM⟩
  ·intro hb14
   have hs11:=Zs hs11 hb14
   refine wp_exit (Zn (Zn (Ye ?_)))
   obtain rfl:=hx12 _ (ois hs11)
   refine Zk ?_
   exact ⟨u9,hE.sub ⟨rfl,trivial⟩,hM⟩
 ·skip
  rintro a w ⟨u6,hE,hM⟩
  refine Zp (Zb (Zd hE rfl fun a hE=>Zc hE rfl fun a hE=>Ze ?_))
  obtain rfl:=Option.some.inj hF5
  exact wp_ret (ZP hE rfl (ZU hE rfl) ⟨_,rfl,u6,rfl,hM.outF (Yf Xi),hM.kept⟩)
def Ws (s8 : (Vector UInt8 32) × Int) : Option (Fl ((Vector UInt8 32) × Int) (Vector UInt8 32)) :=
 if (decide (s8.2 < 32)) = true then ((ZI s8.1 s8.2).bind fun x14=>some (Fl.nx ((s8.1.setIfInBounds (s8.2).toNat (ZG (Int.tmod (wr (17 * s8.2)) 256))),wr (s8.2 + 1)))) else (some (Fl.ex s8.1))
def VP : Option ((Vector UInt8 32)) :=
 (ZA (Ws) ((Vector.replicate 32 (0 : UInt8)),0)).bind fun j5=>some j5
theorem Hh (w0 : World)  (r : (Vector UInt8 32)) (hF : VP  = some r) :
  Calls Tryz.prog 173 [].toArray w0 (Rt w0 (Value.agg (enc r).toArray)):=by
 refine ce Tryz.func173 ?_
 intro a hE
 have hM:=M.start w0
 unfold VP at hF
 refine Zb (Zz hE hM ZL fun b1 w a hM hE=>Ze (Zb (YB (parts:=[]) (vs:=[]) (cs:=enc (Vector.replicate 32 (0 : UInt8))) hE Za ld rfl rfl ZL rfl ty5 Yp fun a hE=>Zz hE hM ZL fun b3 w a hM hE=>Zm (seg:=enc (Vector.replicate 32 (0 : UInt8))) (cs':=enc (Vector.replicate 32 (0 : UInt8))) hE hM Za rfl rfl rfl ZL (Flat.len _) (zle flq) (Flat.cell _) (Zh flq) fun w a hM hE=>Ze (wp_seq (Zb (Zc hE rfl fun a hE=>Ze ?_))))))
 obtain ⟨j5,hl6,hF7⟩:=bind_some hF
 refine ZO (fun a w=>Env 15 a [(0,(ptr b1 0)),(1,(ptr b3 0))] ∧ M (Old w0) w0 w [raw b3 (enc j5),raw b1 (enc (Vector.replicate 32 (0 : UInt8)))]) ?_ ?_
 ·skip
  refine wp_block ?_
  refine ZE (fun (s8 : (Vector UInt8 32) × Int) a w=>Env 15 a [(0,(ptr b1 0)),(1,(ptr b3 0)),(2,vI s8.2)] ∧ M (Old w0) w0 w [raw b3 (enc s8.1),raw b1 (enc (Vector.replicate 32 (0 : UInt8)))]) hl6 ⟨hE.sub ⟨rfl,rfl,rfl,trivial⟩,hM⟩ ?_
  rintro s8 a w ⟨hE,hM⟩ o11 hs9 hx10
  unfold Ws at hs9
  refine wp_seq (Zb (Zd hE rfl fun a hE=>Zi hE rfl rfl rfl fun a hE=>Ze ?_))
  refine Zo hE rfl ?_ ?_
  ·intro hb12
   have hs9:=Zt hs9 hb12
   refine wp_skip (Zp (wp_seq (wp_block (wp_region_lit (Zd hE rfl fun a hE=>Zd hE rfl fun a hE=>Zi hE rfl rfl rfl fun a hE=>Zi hE rfl rfl (Qi _ _ (by decide)) fun a hE=>Xo hE Za ld rfl Tryz.underlying3 Tryz.underlying5 ?_))))); intro a hE
   obtain ⟨x14,hi13,hs9⟩:=bvx hs9
   refine ZF hE rfl rfl Tryz.underlying35 ty5 hi13.1 fun a hE=>Zm (seg:=[(vB (ZG (Int.tmod (wr (17 * s8.2)) 256)))]) (cs':=enc (s8.1.setIfInBounds (s8.2).toNat (ZG (Int.tmod (wr (17 * s8.2)) 256)))) hE hM Za rfl rfl rfl ty5 rfl (ZS (v:=s8.1) (x:=ZG (Int.tmod (wr (17 * s8.2)) 256)) hi13.1) (Flat.cell (ZG (Int.tmod (wr (17 * s8.2)) 256) : UInt8)) (ZD (v:=s8.1) (x:=ZG (Int.tmod (wr (17 * s8.2)) 256)) hi13.1) fun w a hM hE=>Zg (Yb (Zp (wp_region_lit (Zd hE rfl fun a hE=>Zi hE rfl rfl rfl fun a hE=>Zc hE rfl fun a hE=>Zg (Zk ?_)))))
   exact ⟨_,(ois hs9),hE.sub ⟨rfl,rfl,rfl,trivial⟩,hM⟩
  ·intro hb12
   have hs9:=Zs hs9 hb12
   refine wp_exit (Zn (Zn (Ye ?_)))
   obtain rfl:=hx10 _ (ois hs9)
   refine Zk ?_
   exact ⟨hE.sub ⟨rfl,rfl,trivial⟩,hM⟩
 ·skip
  rintro a w ⟨hE,hM⟩
  refine Zp (Zb (Zr hE rfl ZL rfl hM.rawAt0 (Flat.len _) ?_)); intro a hE
  have hM:=hM.pull1
  refine Zm (seg:=enc j5) (cs':=enc j5) hE hM Za rfl rfl rfl ZL (Flat.len _) (zle flq) (Flat.cell _) (Zh flq) fun w a hM hE=>Ze ?_
  obtain rfl:=Option.some.inj hF7
  have hq17 : Z6 Tryz.prog _ _ (.cell 0 35) _:=ZK hE rfl ZL rfl hM.rawAt0 (Flat.len _) rfl
  exact wp_ret (ZP hE rfl hq17 ⟨_,rfl,rfl,hM.kept⟩)
def X7 (p0 : (Vector UInt8 32)) (s14 : (Vector UInt8 16) × (Vector UInt8 16) × Int) : Option (Fl ((Vector UInt8 16) × (Vector UInt8 16) × Int) ((Vector UInt8 16) × (Vector UInt8 16))) :=
 if (decide (s14.2.2 < 16)) = true then ((ZI p0 s14.2.2).bind fun x20=>(ZI s14.2.1 s14.2.2).bind fun x23=>(ZI p0 (wr (16 + s14.2.2))).bind fun x26=>(ZI s14.1 s14.2.2).bind fun x29=>some (Fl.nx ((s14.1.setIfInBounds (s14.2.2).toNat x26),(s14.2.1.setIfInBounds (s14.2.2).toNat x20),wr (s14.2.2 + 1)))) else (some (Fl.ex (s14.1,s14.2.1)))
def Vu (p0 : (Vector UInt8 32)) : Option ((Vector UInt8 16) × (Vector UInt8 16)) :=
 (ZA (X7 p0) ((Vector.replicate 16 (0 : UInt8)),(Vector.replicate 16 (0 : UInt8)),0)).bind fun j11=>(some (j11.2,j11.1) : Option ((Vector UInt8 16) × (Vector UInt8 16))).bind fun j32=>some (j32.1,j32.2)
theorem JN (w0 : World) (p0 : (Vector UInt8 32)) (r : (Vector UInt8 16) × (Vector UInt8 16)) (hF : Vu p0 = some r) :
  Calls Tryz.prog 205 [(Value.agg (enc p0).toArray)].toArray w0 (Rt w0 (Value.tuple [(Value.agg (enc r.1).toArray),(Value.agg (enc r.2).toArray)].toArray)):=by
 refine ce Tryz.func205 ?_
 intro a hE
 have hM:=M.start w0
 unfold Vu at hF
 refine Zb (Ya (cs:=enc p0) hE hM Za ld rfl rfl fun b1 w a hM hE=>Zz hE hM ZJ fun b3 w a hM hE=>Zz hE hM ZJ fun b5 w a hM hE=>Ze (Zb (YB (parts:=[]) (vs:=[]) (cs:=enc (Vector.replicate 16 (0 : UInt8))) hE Za ld rfl rfl ZJ rfl ty5 Yp fun a hE=>YB (parts:=[]) (vs:=[]) (cs:=enc (Vector.replicate 16 (0 : UInt8))) hE Za ld rfl rfl ZJ rfl ty5 Yp fun a hE=>Zz hE hM ZJ fun b7 w a hM hE=>Zz hE hM ZJ ?_))); intro b9 w a hM hE
 have hM:=hM.pull1
 refine Zm (seg:=enc (Vector.replicate 16 (0 : UInt8))) (cs':=enc (Vector.replicate 16 (0 : UInt8))) hE hM Za rfl rfl rfl ZJ (Flat.len _) (zle flq) (Flat.cell _) (Zh flq) ?_; intro w a hM hE
 have hM:=hM.pull1
 refine Zm (seg:=enc (Vector.replicate 16 (0 : UInt8))) (cs':=enc (Vector.replicate 16 (0 : UInt8))) hE hM Za rfl rfl rfl ZJ (Flat.len _) (zle flq) (Flat.cell _) (Zh flq) fun w a hM hE=>Ze (wp_seq (Zb (Zc hE rfl fun a hE=>Ze ?_)))
 obtain ⟨j11,hl12,hF13⟩:=bind_some hF
 refine ZO (fun a w=>Env 26 a [(2,(ptr b3 0)),(3,(ptr b5 0)),(4,(ptr b7 0)),(5,(ptr b9 0))] ∧ M (Old w0) w0 w [raw b9 (enc j11.1),raw b7 (enc j11.2),raw b5 (enc (Vector.replicate 16 (0 : UInt8))),raw b3 (enc (Vector.replicate 16 (0 : UInt8)))]) ?_ ?_
 ·skip
  refine wp_block ?_
  refine ZE (fun (s14 : (Vector UInt8 16) × (Vector UInt8 16) × Int) a w=>Env 26 a [(1,(ptr b1 0)),(2,(ptr b3 0)),(3,(ptr b5 0)),(4,(ptr b7 0)),(5,(ptr b9 0)),(6,vI s14.2.2)] ∧ M (Old w0) w0 w [raw b9 (enc s14.1),raw b7 (enc s14.2.1),raw b5 (enc (Vector.replicate 16 (0 : UInt8))),raw b3 (enc (Vector.replicate 16 (0 : UInt8))),raw b1 (enc p0)]) hl12 ⟨hE.sub ⟨rfl,rfl,rfl,rfl,rfl,rfl,trivial⟩,hM⟩ ?_
  rintro s14 a w ⟨hE,hM⟩ o17 hs15 hx16
  unfold X7 at hs15
  refine wp_seq (Zb (Zd hE rfl fun a hE=>Zi hE rfl rfl rfl fun a hE=>Ze ?_))
  refine Zo hE rfl ?_ ?_
  ·intro hb18
   have hs15:=Zt hs15 hb18
   refine wp_skip (Zp (wp_seq (wp_block (Zb (Zd hE rfl fun a hE=>Zd hE rfl ?_))))); intro a hE
   obtain ⟨x20,hi19,hs15⟩:=bvx hs15
   refine ZF hE rfl rfl Tryz.underlying35 ty5 hi19.1 fun a hE=>ZB (v:=(vB x20)) hE rfl ty5 rfl (At.vec hM.rawAt4 hi19.2) ?_; intro a hE
   obtain ⟨x23,hi22,hs15⟩:=bvx hs15
   refine ZF hE rfl rfl Tryz.underlying68 ty5 hi22.1 ?_; intro a hE
   have hM:=hM.pull1
   refine Zm (seg:=[vB x20]) (cs':=enc (s14.2.1.setIfInBounds (s14.2.2).toNat x20)) hE hM Za rfl rfl rfl ty5 rfl (ZS (v:=s14.2.1) (x:=x20) hi22.1) (Flat.cell (x20 : UInt8)) (ZD (v:=s14.2.1) (x:=x20) hi22.1) fun w a hM hE=>Ze (wp_region_lit (Zd hE rfl fun a hE=>Zd hE rfl fun a hE=>Zi hE rfl rfl rfl ?_)); intro a hE
   obtain ⟨x26,hi25,hs15⟩:=bvx hs15
   refine ZF hE rfl rfl Tryz.underlying35 ty5 hi25.1 fun a hE=>ZB (v:=(vB x26)) hE rfl ty5 rfl (At.vec hM.rawAt4 hi25.2) ?_; intro a hE
   obtain ⟨x29,hi28,hs15⟩:=bvx hs15
   refine ZF hE rfl rfl Tryz.underlying68 ty5 hi28.1 ?_; intro a hE
   have hM:=hM.pull1
   refine Zm (seg:=[vB x26]) (cs':=enc (s14.1.setIfInBounds (s14.2.2).toNat x26)) hE hM Za rfl rfl rfl ty5 rfl (ZS (v:=s14.1) (x:=x26) hi28.1) (Flat.cell (x26 : UInt8)) (ZD (v:=s14.1) (x:=x26) hi28.1) fun w a hM hE=>Zg (Yb (Zp (wp_region_lit (Zd hE rfl fun a hE=>Zi hE rfl rfl rfl fun a hE=>Zc hE rfl fun a hE=>Zg (Zk ?_)))))
   exact ⟨_,(ois hs15),hE.sub ⟨rfl,rfl,rfl,rfl,rfl,rfl,trivial⟩,hM⟩
  ·intro hb18
   have hs15:=Zs hs15 hb18
   refine wp_exit (Zn (Zn (Ye ?_)))
   obtain rfl:=hx16 _ (ois hs15)
   refine Zk ?_
   have hM:=M.fst (l:=[_,_,_,_]) hM.pull3.pull3.pull3.pull3
   exact ⟨hE.sub ⟨rfl,rfl,rfl,rfl,trivial⟩,hM⟩
 ·skip
  rintro a w ⟨hE,hM⟩
  refine Zp ?_
  obtain ⟨j32,hl33,hF34⟩:=bind_some hF13
  refine ZN (fun a w=>Env 26 a [(2,(ptr b3 0)),(3,(ptr b5 0))] ∧ M (Old w0) w0 w [raw b5 (enc j32.2),raw b3 (enc j32.1)]) ?_ ?_
  ·skip
   have hM:=hM.pull3
   refine Yz (its:=[raw b9 (enc j11.1),raw b7 (enc j11.2),raw b5 (enc (Vector.replicate 16 (0 : UInt8)))]) (mk:=([mkT 2 (raw b3 (enc (Vector.replicate 16 (0 : UInt8)))) (raw b3 (enc j11.2))] : Mk)) [24,25,28] Yu rfl rfl (by decide) rfl hE (fun u=>M.qT (M.q0 hM.drew u)) (qsP (v:=(Value.agg (enc j11.2).toArray)) ?_ (qsP (v:=(Value.agg (enc j11.1).toArray)) ?_ (qsM (pr:=fun v=>True) ?_ qs0))) ?_
   ·intro a w ux35 D z
    have hE:=z.E
    have hD : D 0 = false:=z.F
    have hM:=z.M.togA (pre:=[_,_,_]) (Qg (j:=2) (k:=0) z.c rfl rfl rfl hD)
    exact Zr hE rfl ZJ rfl hM.rawAt1 (Flat.len _) fun a hE=>⟨Kept.refl _ _,_,rfl,hE⟩
   ·intro a w ux35 D z
    have hE:=z.E
    have hM:=z.M
    exact Zr hE rfl ZJ rfl hM.rawAt0 (Flat.len _) fun a hE=>⟨Kept.refl _ _,_,rfl,hE⟩
   ·intro a w ux35 D z
    have hE:=z.E
    have hD : D 2 = false:=z.F
    have hM:=(z.M.togA (pre:=[_,_,_]) hD).pull3
    exact Zm (seg:=enc j11.2) (cs':=enc j11.2) hE hM Za rfl rfl rfl ZJ (Flat.len _) (zle flq) (Flat.cell _) (Zh flq) fun w a hM hE=>⟨undef,_,rfl,Env.dummy hE (by decide),M.qTog (mk1:=[]) (mk2:=[]) hM rfl,trivial⟩
   ·intro a w ux35 D hE hM hG hall
    have d2:=hall 2 (by decide)
    have hM:=(hM.togB (pre:=[_,_,_]) d2).pull2
    refine Zm (seg:=enc j11.1) (cs':=enc j11.1) hE hM Za rfl rfl rfl ZJ (Flat.len _) (zle flq) (Flat.cell _) (Zh flq) fun w a hM hE=>Zg ?_
    obtain rfl:=Option.some.inj hl33
    refine Zk ?_
    have hM:=M.fst (l:=[_,_]) hM.pull3.pull1
    exact ⟨hE.sub ⟨rfl,rfl,trivial⟩,hM⟩
  ·skip
   rintro a w ⟨hE,hM⟩
   obtain rfl:=Option.some.inj hF34
   have hq37 : Z6 Tryz.prog _ _ (.cell 2 68) _:=ZK hE rfl ZJ rfl hM.rawAt1 (Flat.len _) rfl
   have hq38 : Z6 Tryz.prog _ _ (.cell 3 68) _:=ZK hE rfl ZJ rfl hM.rawAt0 (Flat.len _) rfl
   exact wp_ret (AX hE rfl hq37 hq38 ⟨_,rfl,rfl,hM.kept⟩)
def VA (p1 : (Vector UInt8 16)) (s10 : (Vector UInt8 16) × Int) : Option (Fl ((Vector UInt8 16) × Int) (Vector UInt8 16)) :=
 if (decide (s10.2 < 16)) = true then ((ZI s10.1 s10.2).bind fun x17=>(ZI p1 s10.2).bind fun x20=>(ZI s10.1 s10.2).bind fun x23=>some (Fl.nx ((s10.1.setIfInBounds (s10.2).toNat (x17 ^^^ x20)),wr (s10.2 + 1)))) else (some (Fl.ex s10.1))
def Xj (p0 : (Vector UInt8 16)) (p1 : (Vector UInt8 16)) : Option ((Vector UInt8 16)) :=
 (ZA (VA p1) (p0,0)).bind fun j7=>some j7
theorem VX (w0 : World) (p0 : (Vector UInt8 16)) (p1 : (Vector UInt8 16)) (r : (Vector UInt8 16)) (hF : Xj p0 p1 = some r) :
  Calls Tryz.prog 206 [(Value.agg (enc p0).toArray),(Value.agg (enc p1).toArray)].toArray w0 (Rt w0 (Value.agg (enc r).toArray)):=by
 refine ce Tryz.func206 ?_
 intro a hE
 have hM:=M.start w0
 unfold Xj at hF
 refine Zb (Ya (cs:=enc p0) hE hM Za ld rfl rfl fun b1 w a hM hE=>Ya (cs:=enc p1) hE hM Za ld rfl rfl fun b3 w a hM hE=>Zz hE hM ZJ fun b5 w a hM hE=>Ze (wp_seq (Zb (Zc hE rfl fun a hE=>Ze ?_))))
 obtain ⟨j7,hl8,hF9⟩:=bind_some hF
 refine ZO (fun a w=>Env 20 a [(2,(ptr b1 0)),(4,(ptr b5 0))] ∧ M (Old w0) w0 w [raw b5 (enc (Vector.replicate 16 (0 : UInt8))),raw b1 (enc j7)]) ?_ ?_
 ·skip
  refine wp_block ?_
  refine ZE (fun (s10 : (Vector UInt8 16) × Int) a w=>Env 20 a [(2,(ptr b1 0)),(3,(ptr b3 0)),(4,(ptr b5 0)),(5,vI s10.2)] ∧ M (Old w0) w0 w [raw b5 (enc (Vector.replicate 16 (0 : UInt8))),raw b3 (enc p1),raw b1 (enc s10.1)]) hl8 ⟨hE.sub ⟨rfl,rfl,rfl,rfl,trivial⟩,hM⟩ ?_
  rintro s10 a w ⟨hE,hM⟩ o13 hs11 hx12
  unfold VA at hs11
  refine wp_seq (Zb (Zd hE rfl fun a hE=>Zi hE rfl rfl rfl fun a hE=>Ze ?_))
  refine Zo hE rfl ?_ ?_
  ·intro hb14
   have hs11:=Zt hs11 hb14
   refine wp_skip (Zp (wp_seq (wp_block ?_)))
   obtain ⟨x17,hi16,hs11⟩:=bvx hs11
   obtain ⟨x20,hi19,hs11⟩:=bvx hs11
   obtain ⟨x23,hi22,hs11⟩:=bvx hs11
   refine ZX [10,11,12,13,14,15,16,17,18] Yu rfl rfl (by decide) rfl hE hM (qsP (fun z=>Zj z.E Za ld rfl (kr0 rfl)) (qsP (fun z=>Zj z.E Za ld rfl (kr0 rfl)) (qsP (fun z=>ZC z.E Za ld rfl rfl Tryz.underlying68 ty5 hi16.1 (kr0 rfl)) (qsP (fun z=>ZM (v:=(vB x17)) z.E Za ld rfl ty5 rfl (At.vec (z.M.rawAt2) hi16.2) (kr0 rfl)) (qsP (fun z=>Zj z.E Za ld rfl (kr0 rfl)) (qsP (fun z=>ZC z.E Za ld rfl rfl Tryz.underlying68 ty5 hi19.1 (kr0 rfl)) (qsP (fun z=>ZM (v:=(vB x20)) z.E Za ld rfl ty5 rfl (At.vec (z.M.rawAt1) hi19.2) (kr0 rfl)) (qsP (v:=(vB (x17 ^^^ x20))) (fun z=>Z9 z.E Za ld rfl rfl (V0 x17 x20) (kr0 rfl)) (qsP (fun z=>ZC z.E Za ld rfl rfl Tryz.underlying68 ty5 hi22.1 (kr0 rfl)) qs0))))))))) ?_
   ·intro a w u hE hM
    have hM:=hM.pull2
    refine Zm (seg:=[(vB (x17 ^^^ x20))]) (cs':=enc (s10.1.setIfInBounds (s10.2).toNat (x17 ^^^ x20))) hE hM Za rfl rfl rfl ty5 rfl (ZS (v:=s10.1) (x:=x17 ^^^ x20) hi22.1) (Flat.cell (x17 ^^^ x20 : UInt8)) (ZD (v:=s10.1) (x:=x17 ^^^ x20) hi22.1) fun w a hM hE=>Zg (Yb (Zp (wp_region_lit (Zd hE rfl fun a hE=>Zi hE rfl rfl rfl fun a hE=>Zc hE rfl fun a hE=>Zg (Zk ?_)))))
    have hM:=hM.pull2.pull2
    exact ⟨_,(ois hs11),hE.sub ⟨rfl,rfl,rfl,rfl,trivial⟩,hM⟩
  ·intro hb14
   have hs11:=Zs hs11 hb14
   refine wp_exit (Zn (Zn (Ye ?_)))
   obtain rfl:=hx12 _ (ois hs11)
   refine Zk ?_
   have hM:=M.fst (l:=[_,_]) hM.pull2.pull1
   exact ⟨hE.sub ⟨rfl,rfl,trivial⟩,hM⟩
 ·skip
  rintro a w ⟨hE,hM⟩
  refine Zp (Zb (Zr hE rfl ZJ rfl hM.rawAt1 (Flat.len _) fun a hE=>Zm (seg:=enc j7) (cs':=enc j7) hE hM Za rfl rfl rfl ZJ (Flat.len _) (zle flq) (Flat.cell _) (Zh flq) fun w a hM hE=>Ze ?_))
  obtain rfl:=Option.some.inj hF9
  have hq26 : Z6 Tryz.prog _ _ (.cell 4 68) _:=ZK hE rfl ZJ rfl hM.rawAt0 (Flat.len _) rfl
  exact wp_ret (ZP hE rfl hq26 ⟨_,rfl,rfl,hM.kept⟩)
def W1 (p0 : (Vector UInt8 256)) (p2 : Int) (s10 : (Vector UInt8 16) × Int) : Option (Fl ((Vector UInt8 16) × Int) (Vector UInt8 16)) :=
 if (decide (s10.2 < 16)) = true then (((ZI s10.1 (Int.tmod (wr (s10.2 + 15)) 16)).bind fun x19=>(if (s10.2 == 0) = true then (some (x19 ^^^ (ZG p2))) else (some x19) : Option (UInt8)).bind fun j21=>(ZI s10.1 s10.2).bind fun x29=>(ZI p0 (bI j21)).bind fun x32=>(ZI s10.1 s10.2).bind fun x35=>some (s10.1.setIfInBounds (s10.2).toNat (x29 ^^^ x32)) : Option ((Vector UInt8 16))).bind fun j15=>some (Fl.nx (j15,wr (s10.2 + 1)))) else (some (Fl.ex s10.1))
def Uq (p0 : (Vector UInt8 256)) (p1 : (Vector UInt8 16)) (p2 : Int) : Option ((Vector UInt8 16)) :=
 (ZA (W1 p0 p2) (p1,0)).bind fun j7=>some j7
theorem Be (w0 : World) (p0 : (Vector UInt8 256)) (p1 : (Vector UInt8 16)) (p2 : Int) (r : (Vector UInt8 16)) (hF : Uq p0 p1 p2 = some r) :
  Calls Tryz.prog 239 [(Value.agg (enc p0).toArray),(Value.agg (enc p1).toArray),vI p2].toArray w0 (Rt w0 (Value.agg (enc r).toArray)):=by
 refine ce Tryz.func239 ?_
 intro a hE
 have hM:=M.start w0
 unfold Uq at hF
 refine Zb (Ya (cs:=enc p0) hE hM Za ld rfl rfl fun b1 w a hM hE=>Ya (cs:=enc p1) hE hM Za ld rfl rfl fun b3 w a hM hE=>Zz hE hM ZJ fun b5 w a hM hE=>Ze (wp_seq (Zb (Zc hE rfl fun a hE=>Ze ?_))))
 obtain ⟨j7,hl8,hF9⟩:=bind_some hF
 refine ZO (fun a w=>Env 34 a [(4,(ptr b3 0)),(6,(ptr b5 0))] ∧ M (Old w0) w0 w [raw b5 (enc (Vector.replicate 16 (0 : UInt8))),raw b3 (enc j7)]) ?_ ?_
 ·skip
  refine wp_block ?_
  refine ZE (fun (s10 : (Vector UInt8 16) × Int) a w=>Env 34 a [(2,vI p2),(3,(ptr b1 0)),(4,(ptr b3 0)),(6,(ptr b5 0)),(7,vI s10.2)] ∧ M (Old w0) w0 w [raw b5 (enc (Vector.replicate 16 (0 : UInt8))),raw b3 (enc s10.1),raw b1 (enc p0)]) hl8 ⟨hE.sub ⟨rfl,rfl,rfl,rfl,rfl,trivial⟩,hM⟩ ?_
  rintro s10 a w ⟨hE,hM⟩ o13 hs11 hx12
  unfold W1 at hs11
  refine wp_seq (Zb (Zd hE rfl fun a hE=>Zi hE rfl rfl rfl fun a hE=>Ze ?_))
  refine Zo hE rfl ?_ ?_
  ·intro hb14
   have hs11:=Zt hs11 hb14
   refine wp_skip (Zp ?_)
   obtain ⟨j15,hl16,hF17⟩:=bind_some hs11
   refine ZN (fun a w=>Env 34 a [(2,vI p2),(3,(ptr b1 0)),(4,(ptr b3 0)),(6,(ptr b5 0)),(7,vI s10.2)] ∧ M (Old w0) w0 w [raw b5 (enc (Vector.replicate 16 (0 : UInt8))),raw b3 (enc j15),raw b1 (enc p0)]) ?_ ?_
   ·skip
    refine wp_block (Zb (Zd hE rfl fun a hE=>Zi hE rfl rfl rfl fun a hE=>Zi hE rfl rfl (Qi _ _ (by decide)) ?_)); intro a hE
    obtain ⟨x19,hi18,hl16⟩:=bvx hl16
    refine ZF hE rfl rfl Tryz.underlying68 ty5 hi18.1 fun a hE=>ZB (v:=(vB x19)) hE rfl ty5 rfl (At.vec hM.rawAt1 hi18.2) fun a hE=>Zc hE rfl fun a hE=>Ze ?_
    obtain ⟨j21,hl22,hF23⟩:=bind_some hl16
    refine ZN (fun a w=>Env 34 a [(2,vI p2),(3,(ptr b1 0)),(4,(ptr b3 0)),(6,(ptr b5 0)),(7,vI s10.2),(8,vB j21)] ∧ M (Old w0) w0 w [raw b5 (enc (Vector.replicate 16 (0 : UInt8))),raw b3 (enc s10.1),raw b1 (enc p0)]) ?_ ?_
    ·skip
     refine Zb (Zd hE rfl fun a hE=>Zi hE rfl rfl rfl fun a hE=>Ze ?_)
     refine Zo hE rfl ?_ ?_
     ·intro hb24
      have hl22:=Zt hl22 hb24
      refine wp_region_lit (Zd hE rfl fun a hE=>Zd hE rfl fun a hE=>Xo hE Za ld rfl Tryz.underlying2 Tryz.underlying5 fun a hE=>Zi hE rfl rfl (V0 x19 (ZG p2)) fun a hE=>Zc hE rfl fun a hE=>Zg ?_)
      obtain rfl:=Option.some.inj hl22
      refine Zk ?_
      exact ⟨hE.sub ⟨rfl,rfl,rfl,rfl,rfl,rfl,trivial⟩,hM⟩
     ·intro hb24
      have hl22:=Zs hl22 hb24
      refine wp_skip ?_
      obtain rfl:=Option.some.inj hl22
      refine Zk ?_
      exact ⟨hE.sub ⟨rfl,rfl,rfl,rfl,rfl,rfl,trivial⟩,hM⟩
    ·skip
     rintro a w ⟨hE,hM⟩
     obtain ⟨x29,hi28,hF23⟩:=bvx hF23
     obtain ⟨x32,hi31,hF23⟩:=bvx hF23
     obtain ⟨x35,hi34,hF23⟩:=bvx hF23
     refine ZX [24,25,26,27,28,29,30,31,32] Yu rfl rfl (by decide) rfl hE hM (qsP (fun z=>Zj z.E Za ld rfl (kr0 rfl)) (qsP (fun z=>Zj z.E Za ld rfl (kr0 rfl)) (qsP (fun z=>ZC z.E Za ld rfl rfl Tryz.underlying68 ty5 hi28.1 (kr0 rfl)) (qsP (fun z=>ZM (v:=(vB x29)) z.E Za ld rfl ty5 rfl (At.vec (z.M.rawAt1) hi28.2) (kr0 rfl)) (qsP (fun z=>Zj z.E Za ld rfl (kr0 rfl)) (qsP (fun z=>ZC z.E Za ld rfl rfl Tryz.underlying157 ty5 hi31.1 (kr0 rfl)) (qsP (fun z=>ZM (v:=(vB x32)) z.E Za ld rfl ty5 rfl (At.vec (z.M.rawAt2) hi31.2) (kr0 rfl)) (qsP (v:=(vB (x29 ^^^ x32))) (fun z=>Z9 z.E Za ld rfl rfl (V0 x29 x32) (kr0 rfl)) (qsP (fun z=>ZC z.E Za ld rfl rfl Tryz.underlying68 ty5 hi34.1 (kr0 rfl)) qs0))))))))) ?_
     ·intro a w u hE hM
      have hM:=hM.pull1
      refine Zm (seg:=[(vB (x29 ^^^ x32))]) (cs':=enc (s10.1.setIfInBounds (s10.2).toNat (x29 ^^^ x32))) hE hM Za rfl rfl rfl ty5 rfl (ZS (v:=s10.1) (x:=x29 ^^^ x32) hi34.1) (Flat.cell (x29 ^^^ x32 : UInt8)) (ZD (v:=s10.1) (x:=x29 ^^^ x32) hi34.1) fun w a hM hE=>Zg (Yb ?_)
      obtain rfl:=Option.some.inj hF23
      refine Zk ?_
      have hM:=hM.pull2.pull1.pull2
      exact ⟨hE.sub ⟨rfl,rfl,rfl,rfl,rfl,trivial⟩,hM⟩
   ·skip
    rintro a w ⟨hE,hM⟩
    refine wp_region_lit (Zd hE rfl fun a hE=>Zi hE rfl rfl rfl fun a hE=>Zc hE rfl fun a hE=>Zg (Zk ?_))
    exact ⟨_,(ois hF17),hE.sub ⟨rfl,rfl,rfl,rfl,rfl,trivial⟩,hM⟩
  ·intro hb14
   have hs11:=Zs hs11 hb14
   refine wp_exit (Zn (Zn (Ye ?_)))
   obtain rfl:=hx12 _ (ois hs11)
   refine Zk ?_
   have hM:=M.fst (l:=[_,_]) hM.pull1.pull1
   exact ⟨hE.sub ⟨rfl,rfl,trivial⟩,hM⟩
 ·skip
  rintro a w ⟨hE,hM⟩
  refine Zp (Zb (Zr hE rfl ZJ rfl hM.rawAt1 (Flat.len _) fun a hE=>Zm (seg:=enc j7) (cs':=enc j7) hE hM Za rfl rfl rfl ZJ (Flat.len _) (zle flq) (Flat.cell _) (Zh flq) fun w a hM hE=>Ze ?_))
  obtain rfl:=Option.some.inj hF9
  have hq39 : Z6 Tryz.prog _ _ (.cell 6 68) _:=ZK hE rfl ZJ rfl hM.rawAt0 (Flat.len _) rfl
  exact wp_ret (ZP hE rfl hq39 ⟨_,rfl,rfl,hM.kept⟩)
def WZ (p0 : GCipher) (p2 : Int) (s12 : (Vector UInt8 16) × (List (Vector UInt8 16)) × Int) : Option (Fl ((Vector UInt8 16) × (List (Vector UInt8 16)) × Int) (List (Vector UInt8 16))) :=
 if (decide (s12.2.2 ≤ p2)) = true then ((Uq p0.Box s12.1 s12.2.2).bind fun r19=>(app 16 s12.2.1 ([r19] : List (Vector UInt8 16))).bind fun l23=>some (Fl.nx (r19,(s12.2.1 ++ ([r19] : List (Vector UInt8 16))),wr (s12.2.2 + 1)))) else (some (Fl.ex s12.2.1))
def Um (p0 : GCipher) (p1 : (Vector UInt8 16)) (p2 : Int) : Option ((List (Vector UInt8 16))) :=
 (ZA (WZ p0 p2) (p1,([p1] : List (Vector UInt8 16)),1)).bind fun j7=>some j7
theorem Bu (w0 : World) (p0 : GCipher) (p1 : (Vector UInt8 16)) (p2 : Int) (r : (List (Vector UInt8 16))) (hF : Um p0 p1 p2 = some r) :
  Calls Tryz.prog 228 [(Value.agg (enc p0).toArray),(Value.agg (enc p1).toArray),vI p2].toArray w0 (fun en w'=>∃ v,en = .returned v ∧ (∃ (y1 : Value),v = y1 ∧ Fr w0 w' [osl NoB (r : List (Vector UInt8 16)) y1] ∧ Kept (Old w0) w0 w')):=by
 refine ce Tryz.func228 ?_
 intro a hE
 have hM:=M.start w0
 unfold Um at hF
 refine Zb (Ya (cs:=cat [[vI p0.Field],enc p0.Box,enc p0.Mix,enc p0.Places,[vI p0.Rounds]]) hE hM Za ld rfl rfl fun b1 w a hM hE=>Ya (cs:=enc p1) hE hM Za ld rfl rfl fun b3 w a hM hE=>Zc hE rfl fun a hE=>Ze (Zb (Zr hE rfl ZJ rfl hM.rawAt0 (Flat.len _) fun a hE=>Yr (xs:=[.tmp 9]) (l:=([p1] : List (Vector UInt8 16))) (vs:=[(Value.agg (enc p1).toArray)]) hE hM Za ld rfl rfl Tryz.underlying54 ZJ rfl (by decide) rfl fun u5 w a hM hE=>Zc hE rfl fun a hE=>Ze (wp_seq (Zb (Zc hE rfl fun a hE=>Ze ?_))))))
 obtain ⟨j7,hl8,hF9⟩:=bind_some hF
 refine ZO (fun a w=>∃ (u10 : Value),Env 26 a [(7,u10)] ∧ M (Old w0) w0 w [osl NoB (j7 : List (Vector UInt8 16)) u10]) ?_ ?_
 ·skip
  refine wp_block ?_
  have hM:=hM.pull2.pull2
  refine ZE (fun (s12 : (Vector UInt8 16) × (List (Vector UInt8 16)) × Int) a w=>∃ (u13 : Value),Env 26 a [(2,vI p2),(3,(ptr b1 0)),(4,(ptr b3 0)),(7,u13),(8,vI s12.2.2)] ∧ M (Old w0) w0 w [raw b3 (enc s12.1),raw b1 (cat [[vI p0.Field],enc p0.Box,enc p0.Mix,enc p0.Places,[vI p0.Rounds]]),osl NoB (s12.2.1 : List (Vector UInt8 16)) u13]) hl8 ⟨u5,hE.sub ⟨rfl,rfl,rfl,rfl,rfl,trivial⟩,hM⟩ ?_
  rintro s12 a w ⟨u13,hE,hM⟩ o17 hs15 hx16
  unfold WZ at hs15
  refine wp_seq (Zb (Zd hE rfl fun a hE=>Zd hE rfl fun a hE=>Zi hE rfl rfl rfl fun a hE=>Ze ?_))
  refine Zo hE rfl ?_ ?_
  ·intro hb18
   have hs15:=Zt hs15 hb18
   refine wp_skip (Zp (wp_seq (wp_block (Zb (Zy hE rfl (Kb) fun a hE=>Zr hE rfl XI rfl (At.cat (pre:=[[vI p0.Field]]) hM.rawAt1 ck) (Flat.len _) fun a hE=>Zr hE rfl ZJ rfl hM.rawAt0 (Flat.len _) fun a hE=>Zd hE rfl ?_))))); intro a hE
   obtain ⟨r19,e20,hs15⟩:=bind_some hs15
   refine Zx hE rfl (cbm Tryz.func239) (Be _ p0.Box s12.1 s12.2.2 r19 e20) ?_
   rintro v w a ⟨rfl,hK⟩ hE
   have hM:=hM.keep hK
   refine Zm (seg:=enc r19) (cs':=enc r19) hE hM Za rfl rfl rfl ZJ (Flat.len _) (zle flq) (Flat.cell _) (Zh flq) fun w a hM hE=>Ze (wp_region_lit (Zd hE rfl fun a hE=>Zr hE rfl ZJ rfl hM.rawAt0 (Flat.len _) fun a hE=>Yr (xs:=[.tmp 22]) (l:=([r19] : List (Vector UInt8 16))) (vs:=[(Value.agg (enc r19).toArray)]) hE hM Za ld rfl rfl Tryz.underlying54 ZJ rfl (by decide) rfl ?_)); intro u21 w a hM hE
   obtain ⟨l23,e24,hs15⟩:=bind_some hs15
   obtain ⟨e27,rfl⟩:=Yj e24
   have hM:=hM.pull3
   refine Z2 hE hM Za ld rfl rfl (hM.sl (pre:=[_]) noB) Tryz.underlying54 ZJ rfl (by decide) e27 fun u25 w a hM hE=>Zc hE rfl fun a hE=>Zg (Yb (Zp (wp_region_lit (Zd hE rfl fun a hE=>Zi hE rfl rfl rfl fun a hE=>Zc hE rfl fun a hE=>Zg (Zk ?_)))))
   have hM:=M.fst (l:=[_,_,_]) hM.pull3.pull3
   exact ⟨_,(ois hs15),u25,hE.sub ⟨rfl,rfl,rfl,rfl,rfl,trivial⟩,hM⟩
  ·intro hb18
   have hs15:=Zs hs15 hb18
   refine wp_exit (Zn (Zn (Ye ?_)))
   obtain rfl:=hx16 _ (ois hs15)
   refine Zk ?_
   have hM:=M.fst (l:=[_]) hM.pull2
   exact ⟨u13,hE.sub ⟨rfl,trivial⟩,hM⟩
 ·skip
  rintro a w ⟨u10,hE,hM⟩
  refine Zp (Zb (Zd hE rfl fun a hE=>Zc hE rfl fun a hE=>Ze ?_))
  obtain rfl:=Option.some.inj hF9
  exact wp_ret (ZP hE rfl (ZU hE rfl) ⟨_,rfl,u10,rfl,hM.outF (Yf Xi),hM.kept⟩)
def Wz (p0 : (Vector UInt8 256)) (s10 : (Vector UInt8 16) × Int) : Option (Fl ((Vector UInt8 16) × Int) (Vector UInt8 16)) :=
 if (decide (s10.2 < 16)) = true then ((ZI s10.1 s10.2).bind fun x16=>(ZI p0 (bI x16)).bind fun x19=>(ZI s10.1 s10.2).bind fun x22=>some (Fl.nx ((s10.1.setIfInBounds (s10.2).toNat x19),wr (s10.2 + 1)))) else (some (Fl.ex s10.1))
def VQ (p0 : (Vector UInt8 256)) (p1 : (Vector UInt8 16)) : Option ((Vector UInt8 16)) :=
 (ZA (Wz p0) (p1,0)).bind fun j7=>some j7
theorem Hn (w0 : World) (p0 : (Vector UInt8 256)) (p1 : (Vector UInt8 16)) (r : (Vector UInt8 16)) (hF : VQ p0 p1 = some r) :
  Calls Tryz.prog 230 [(Value.agg (enc p0).toArray),(Value.agg (enc p1).toArray)].toArray w0 (Rt w0 (Value.agg (enc r).toArray)):=by
 refine ce Tryz.func230 ?_
 intro a hE
 have hM:=M.start w0
 unfold VQ at hF
 refine Zb (Ya (cs:=enc p0) hE hM Za ld rfl rfl fun b1 w a hM hE=>Ya (cs:=enc p1) hE hM Za ld rfl rfl fun b3 w a hM hE=>Zz hE hM ZJ fun b5 w a hM hE=>Ze (wp_seq (Zb (Zc hE rfl fun a hE=>Ze ?_))))
 obtain ⟨j7,hl8,hF9⟩:=bind_some hF
 refine ZO (fun a w=>Env 18 a [(3,(ptr b3 0)),(4,(ptr b5 0))] ∧ M (Old w0) w0 w [raw b5 (enc (Vector.replicate 16 (0 : UInt8))),raw b3 (enc j7)]) ?_ ?_
 ·skip
  refine wp_block ?_
  refine ZE (fun (s10 : (Vector UInt8 16) × Int) a w=>Env 18 a [(2,(ptr b1 0)),(3,(ptr b3 0)),(4,(ptr b5 0)),(5,vI s10.2)] ∧ M (Old w0) w0 w [raw b5 (enc (Vector.replicate 16 (0 : UInt8))),raw b3 (enc s10.1),raw b1 (enc p0)]) hl8 ⟨hE.sub ⟨rfl,rfl,rfl,rfl,trivial⟩,hM⟩ ?_
  rintro s10 a w ⟨hE,hM⟩ o13 hs11 hx12
  unfold Wz at hs11
  refine wp_seq (Zb (Zd hE rfl fun a hE=>Zi hE rfl rfl rfl fun a hE=>Ze ?_))
  refine Zo hE rfl ?_ ?_
  ·intro hb14
   have hs11:=Zt hs11 hb14
   refine wp_skip (Zp (wp_seq (wp_block (wp_region_lit (Zd hE rfl fun a hE=>Zd hE rfl ?_))))); intro a hE
   obtain ⟨x16,hi15,hs11⟩:=bvx hs11
   refine ZF hE rfl rfl Tryz.underlying68 ty5 hi15.1 fun a hE=>ZB (v:=(vB x16)) hE rfl ty5 rfl (At.vec hM.rawAt1 hi15.2) ?_; intro a hE
   obtain ⟨x19,hi18,hs11⟩:=bvx hs11
   refine ZF hE rfl rfl Tryz.underlying157 ty5 hi18.1 fun a hE=>ZB (v:=(vB x19)) hE rfl ty5 rfl (At.vec hM.rawAt2 hi18.2) ?_; intro a hE
   obtain ⟨x22,hi21,hs11⟩:=bvx hs11
   refine ZF hE rfl rfl Tryz.underlying68 ty5 hi21.1 ?_; intro a hE
   have hM:=hM.pull1
   refine Zm (seg:=[vB x19]) (cs':=enc (s10.1.setIfInBounds (s10.2).toNat x19)) hE hM Za rfl rfl rfl ty5 rfl (ZS (v:=s10.1) (x:=x19) hi21.1) (Flat.cell (x19 : UInt8)) (ZD (v:=s10.1) (x:=x19) hi21.1) fun w a hM hE=>Zg (Yb (Zp (wp_region_lit (Zd hE rfl fun a hE=>Zi hE rfl rfl rfl fun a hE=>Zc hE rfl fun a hE=>Zg (Zk ?_)))))
   have hM:=hM.pull2.pull1.pull2
   exact ⟨_,(ois hs11),hE.sub ⟨rfl,rfl,rfl,rfl,trivial⟩,hM⟩
  ·intro hb14
   have hs11:=Zs hs11 hb14
   refine wp_exit (Zn (Zn (Ye ?_)))
   obtain rfl:=hx12 _ (ois hs11)
   refine Zk ?_
   have hM:=M.fst (l:=[_,_]) hM.pull1.pull1
   exact ⟨hE.sub ⟨rfl,rfl,trivial⟩,hM⟩
 ·skip
  rintro a w ⟨hE,hM⟩
  refine Zp (Zb (Zr hE rfl ZJ rfl hM.rawAt1 (Flat.len _) fun a hE=>Zm (seg:=enc j7) (cs':=enc j7) hE hM Za rfl rfl rfl ZJ (Flat.len _) (zle flq) (Flat.cell _) (Zh flq) fun w a hM hE=>Ze ?_))
  obtain rfl:=Option.some.inj hF9
  have hq25 : Z6 Tryz.prog _ _ (.cell 4 68) _:=ZK hE rfl ZJ rfl hM.rawAt0 (Flat.len _) rfl
  exact wp_ret (ZP hE rfl hq25 ⟨_,rfl,rfl,hM.kept⟩)
def WX (p0 : (Vector UInt8 16)) (p1 : (Vector UInt8 16)) (s12 : (Vector UInt8 16) × Int) : Option (Fl ((Vector UInt8 16) × Int) (Vector UInt8 16)) :=
 if (decide (s12.2 < 16)) = true then ((ZI p0 s12.2).bind fun x18=>(ZI p1 (bI x18)).bind fun x21=>(ZI s12.1 s12.2).bind fun x24=>some (Fl.nx ((s12.1.setIfInBounds (s12.2).toNat x21),wr (s12.2 + 1)))) else (some (Fl.ex s12.1))
def Uc (p0 : (Vector UInt8 16)) (p1 : (Vector UInt8 16)) : Option ((Vector UInt8 16)) :=
 (ZA (WX p0 p1) ((Vector.replicate 16 (0 : UInt8)),0)).bind fun j9=>some j9
theorem Bd (w0 : World) (p0 : (Vector UInt8 16)) (p1 : (Vector UInt8 16)) (r : (Vector UInt8 16)) (hF : Uc p0 p1 = some r) :
  Calls Tryz.prog 229 [(Value.agg (enc p0).toArray),(Value.agg (enc p1).toArray)].toArray w0 (Rt w0 (Value.agg (enc r).toArray)):=by
 refine ce Tryz.func229 ?_
 intro a hE
 have hM:=M.start w0
 unfold Uc at hF
 refine Zb (Ya (cs:=enc p0) hE hM Za ld rfl rfl fun b1 w a hM hE=>Ya (cs:=enc p1) hE hM Za ld rfl rfl fun b3 w a hM hE=>Zz hE hM ZJ fun b5 w a hM hE=>Ze (Zb (YB (parts:=[]) (vs:=[]) (cs:=enc (Vector.replicate 16 (0 : UInt8))) hE Za ld rfl rfl ZJ rfl ty5 Yp fun a hE=>Zz hE hM ZJ fun b7 w a hM hE=>Zm (seg:=enc (Vector.replicate 16 (0 : UInt8))) (cs':=enc (Vector.replicate 16 (0 : UInt8))) hE hM Za rfl rfl rfl ZJ (Flat.len _) (zle flq) (Flat.cell _) (Zh flq) fun w a hM hE=>Ze (wp_seq (Zb (Zc hE rfl fun a hE=>Ze ?_))))))
 obtain ⟨j9,hl10,hF11⟩:=bind_some hF
 refine ZO (fun a w=>Env 20 a [(4,(ptr b5 0)),(5,(ptr b7 0))] ∧ M (Old w0) w0 w [raw b7 (enc j9),raw b5 (enc (Vector.replicate 16 (0 : UInt8)))]) ?_ ?_
 ·skip
  refine wp_block ?_
  refine ZE (fun (s12 : (Vector UInt8 16) × Int) a w=>Env 20 a [(2,(ptr b1 0)),(3,(ptr b3 0)),(4,(ptr b5 0)),(5,(ptr b7 0)),(6,vI s12.2)] ∧ M (Old w0) w0 w [raw b7 (enc s12.1),raw b5 (enc (Vector.replicate 16 (0 : UInt8))),raw b3 (enc p1),raw b1 (enc p0)]) hl10 ⟨hE.sub ⟨rfl,rfl,rfl,rfl,rfl,trivial⟩,hM⟩ ?_
  rintro s12 a w ⟨hE,hM⟩ o15 hs13 hx14
  unfold WX at hs13
  refine wp_seq (Zb (Zd hE rfl fun a hE=>Zi hE rfl rfl rfl fun a hE=>Ze ?_))
  refine Zo hE rfl ?_ ?_
  ·intro hb16
   have hs13:=Zt hs13 hb16
   refine wp_skip (Zp (wp_seq (wp_block (wp_region_lit (Zd hE rfl fun a hE=>Zd hE rfl ?_))))); intro a hE
   obtain ⟨x18,hi17,hs13⟩:=bvx hs13
   refine ZF hE rfl rfl Tryz.underlying161 ty5 hi17.1 fun a hE=>ZB (v:=(vB x18)) hE rfl ty5 rfl (At.vec hM.rawAt3 hi17.2) ?_; intro a hE
   obtain ⟨x21,hi20,hs13⟩:=bvx hs13
   refine ZF hE rfl rfl Tryz.underlying68 ty5 hi20.1 fun a hE=>ZB (v:=(vB x21)) hE rfl ty5 rfl (At.vec hM.rawAt2 hi20.2) ?_; intro a hE
   obtain ⟨x24,hi23,hs13⟩:=bvx hs13
   refine ZF hE rfl rfl Tryz.underlying68 ty5 hi23.1 fun a hE=>Zm (seg:=[vB x21]) (cs':=enc (s12.1.setIfInBounds (s12.2).toNat x21)) hE hM Za rfl rfl rfl ty5 rfl (ZS (v:=s12.1) (x:=x21) hi23.1) (Flat.cell (x21 : UInt8)) (ZD (v:=s12.1) (x:=x21) hi23.1) fun w a hM hE=>Zg (Yb (Zp (wp_region_lit (Zd hE rfl fun a hE=>Zi hE rfl rfl rfl fun a hE=>Zc hE rfl fun a hE=>Zg (Zk ?_)))))
   exact ⟨_,(ois hs13),hE.sub ⟨rfl,rfl,rfl,rfl,rfl,trivial⟩,hM⟩
  ·intro hb16
   have hs13:=Zs hs13 hb16
   refine wp_exit (Zn (Zn (Ye ?_)))
   obtain rfl:=hx14 _ (ois hs13)
   refine Zk ?_
   have hM:=M.fst (l:=[_,_]) hM.pull1.pull1
   exact ⟨hE.sub ⟨rfl,rfl,trivial⟩,hM⟩
 ·skip
  rintro a w ⟨hE,hM⟩
  refine Zp (Zb (Zr hE rfl ZJ rfl hM.rawAt0 (Flat.len _) ?_)); intro a hE
  have hM:=hM.pull1
  refine Zm (seg:=enc j9) (cs':=enc j9) hE hM Za rfl rfl rfl ZJ (Flat.len _) (zle flq) (Flat.cell _) (Zh flq) fun w a hM hE=>Ze ?_
  obtain rfl:=Option.some.inj hF11
  have hq27 : Z6 Tryz.prog _ _ (.cell 4 68) _:=ZK hE rfl ZJ rfl hM.rawAt0 (Flat.len _) rfl
  exact wp_ret (ZP hE rfl hq27 ⟨_,rfl,rfl,hM.kept⟩)
def XX (p0 : Int) (p1 : (Vector (Vector UInt8 4) 4)) (p2 : (Vector UInt8 16)) (s12 : (Vector UInt8 16) × Int) (s20 : (Vector UInt8 16) × Int) (s28 : (Vector UInt8 16) × Int) : Option (Fl ((Vector UInt8 16) × Int) (Vector UInt8 16)) :=
 if (decide (s28.2 < 4)) = true then ((ZI s28.1 (wr ((wr (4 * s12.2)) + s20.2))).bind fun x35=>(ZI p1 s20.2).bind fun x38=>(ZI x38 s28.2).bind fun x41=>(ZI p2 (wr ((wr (4 * s12.2)) + s28.2))).bind fun x44=>(YM p0 x41 x44).bind fun r46=>(ZI s28.1 (wr ((wr (4 * s12.2)) + s20.2))).bind fun x49=>some (Fl.nx ((s28.1.setIfInBounds ((wr ((wr (4 * s12.2)) + s20.2))).toNat (x35 ^^^ r46)),wr (s28.2 + 1)))) else (some (Fl.ex s28.1))
def VB (p0 : Int) (p1 : (Vector (Vector UInt8 4) 4)) (p2 : (Vector UInt8 16)) (s12 : (Vector UInt8 16) × Int) (s20 : (Vector UInt8 16) × Int) : Option (Fl ((Vector UInt8 16) × Int) (Vector UInt8 16)) :=
 if (decide (s20.2 < 4)) = true then ((ZA (XX p0 p1 p2 s12 s20) (s20.1,0)).bind fun j25=>some (Fl.nx (j25,wr (s20.2 + 1)))) else (some (Fl.ex s20.1))
def Vr (p0 : Int) (p1 : (Vector (Vector UInt8 4) 4)) (p2 : (Vector UInt8 16)) (s12 : (Vector UInt8 16) × Int) : Option (Fl ((Vector UInt8 16) × Int) (Vector UInt8 16)) :=
 if (decide (s12.2 < 4)) = true then ((ZA (VB p0 p1 p2 s12) (s12.1,0)).bind fun j17=>some (Fl.nx (j17,wr (s12.2 + 1)))) else (some (Fl.ex s12.1))
def UO (p0 : Int) (p1 : (Vector (Vector UInt8 4) 4)) (p2 : (Vector UInt8 16)) : Option ((Vector UInt8 16)) :=
 (ZA (Vr p0 p1 p2) ((Vector.replicate 16 (0 : UInt8)),0)).bind fun j9=>some j9
theorem BF (w0 : World) (p0 : Int) (p1 : (Vector (Vector UInt8 4) 4)) (p2 : (Vector UInt8 16)) (r : (Vector UInt8 16)) (hF : UO p0 p1 p2 = some r) :
  Calls Tryz.prog 231 [vI p0,(Value.agg (enc p1).toArray),(Value.agg (enc p2).toArray)].toArray w0 (Rt w0 (Value.agg (enc r).toArray)):=by
 refine ce Tryz.func231 ?_
 intro a hE
 have hM:=M.start w0
 unfold UO at hF
 refine Zb (Ya (cs:=enc p1) hE hM Za ld rfl rfl fun b1 w a hM hE=>Ya (cs:=enc p2) hE hM Za ld rfl rfl fun b3 w a hM hE=>Zz hE hM ZJ fun b5 w a hM hE=>Ze (Zb (YB (parts:=[]) (vs:=[]) (cs:=enc (Vector.replicate 16 (0 : UInt8))) hE Za ld rfl rfl ZJ rfl ty5 Yp fun a hE=>Zz hE hM ZJ fun b7 w a hM hE=>Zm (seg:=enc (Vector.replicate 16 (0 : UInt8))) (cs':=enc (Vector.replicate 16 (0 : UInt8))) hE hM Za rfl rfl rfl ZJ (Flat.len _) (zle flq) (Flat.cell _) (Zh flq) fun w a hM hE=>Ze (wp_seq (Zb (Zc hE rfl fun a hE=>Ze ?_))))))
 obtain ⟨j9,hl10,hF11⟩:=bind_some hF
 refine ZO (fun a w=>Env 50 a [(6,(ptr b5 0)),(7,(ptr b7 0))] ∧ M (Old w0) w0 w [raw b7 (enc j9),raw b5 (enc (Vector.replicate 16 (0 : UInt8)))]) ?_ ?_
 ·skip
  refine wp_block ?_
  refine ZE (fun (s12 : (Vector UInt8 16) × Int) a w=>Env 50 a [(0,vI p0),(4,(ptr b1 0)),(5,(ptr b3 0)),(6,(ptr b5 0)),(7,(ptr b7 0)),(8,vI s12.2)] ∧ M (Old w0) w0 w [raw b7 (enc s12.1),raw b5 (enc (Vector.replicate 16 (0 : UInt8))),raw b3 (enc p2),raw b1 (enc p1)]) hl10 ⟨hE.sub ⟨rfl,rfl,rfl,rfl,rfl,rfl,trivial⟩,hM⟩ ?_
  rintro s12 a w ⟨hE,hM⟩ o15 hs13 hx14
  unfold Vr at hs13
  refine wp_seq (Zb (Zd hE rfl fun a hE=>Zi hE rfl rfl rfl fun a hE=>Ze ?_))
  refine Zo hE rfl ?_ ?_
  ·intro hb16
   have hs13:=Zt hs13 hb16
   refine wp_skip (Zp (wp_seq (wp_block (Zb (Zc hE rfl fun a hE=>Ze ?_)))))
   obtain ⟨j17,hl18,hF19⟩:=bind_some hs13
   refine ZO (fun a w=>Env 50 a [(0,vI p0),(4,(ptr b1 0)),(5,(ptr b3 0)),(6,(ptr b5 0)),(7,(ptr b7 0)),(8,vI s12.2)] ∧ M (Old w0) w0 w [raw b7 (enc j17),raw b5 (enc (Vector.replicate 16 (0 : UInt8))),raw b3 (enc p2),raw b1 (enc p1)]) ?_ ?_
   ·skip
    refine wp_block ?_
    refine ZE (fun (s20 : (Vector UInt8 16) × Int) a w=>Env 50 a [(0,vI p0),(4,(ptr b1 0)),(5,(ptr b3 0)),(6,(ptr b5 0)),(7,(ptr b7 0)),(8,vI s12.2),(9,vI s20.2)] ∧ M (Old w0) w0 w [raw b7 (enc s20.1),raw b5 (enc (Vector.replicate 16 (0 : UInt8))),raw b3 (enc p2),raw b1 (enc p1)]) hl18 ⟨hE.sub ⟨rfl,rfl,rfl,rfl,rfl,rfl,rfl,trivial⟩,hM⟩ ?_
    rintro s20 a w ⟨hE,hM⟩ o23 hs21 hx22
    unfold VB at hs21
    refine wp_seq (Zb (Zd hE rfl fun a hE=>Zi hE rfl rfl rfl fun a hE=>Ze ?_))
    refine Zo hE rfl ?_ ?_
    ·intro hb24
     have hs21:=Zt hs21 hb24
     refine wp_skip (Zp (wp_seq (wp_block (Zb (Zc hE rfl fun a hE=>Ze ?_)))))
     obtain ⟨j25,hl26,hF27⟩:=bind_some hs21
     refine ZO (fun a w=>Env 50 a [(0,vI p0),(4,(ptr b1 0)),(5,(ptr b3 0)),(6,(ptr b5 0)),(7,(ptr b7 0)),(8,vI s12.2),(9,vI s20.2)] ∧ M (Old w0) w0 w [raw b7 (enc j25),raw b5 (enc (Vector.replicate 16 (0 : UInt8))),raw b3 (enc p2),raw b1 (enc p1)]) ?_ ?_
     ·skip
      refine wp_block ?_
      refine ZE (fun (s28 : (Vector UInt8 16) × Int) a w=>Env 50 a [(0,vI p0),(4,(ptr b1 0)),(5,(ptr b3 0)),(6,(ptr b5 0)),(7,(ptr b7 0)),(8,vI s12.2),(9,vI s20.2),(10,vI s28.2)] ∧ M (Old w0) w0 w [raw b7 (enc s28.1),raw b5 (enc (Vector.replicate 16 (0 : UInt8))),raw b3 (enc p2),raw b1 (enc p1)]) hl26 ⟨hE.sub ⟨rfl,rfl,rfl,rfl,rfl,rfl,rfl,rfl,trivial⟩,hM⟩ ?_
      rintro s28 a w ⟨hE,hM⟩ o31 hs29 hx30
      unfold XX at hs29
      refine wp_seq (Zb (Zd hE rfl fun a hE=>Zi hE rfl rfl rfl fun a hE=>Ze ?_))
      refine Zo hE rfl ?_ ?_
      ·intro hb32
       have hs29:=Zt hs29 hb32
       refine wp_skip (Zp (wp_seq (wp_block ?_)))
       obtain ⟨x35,hi34,hs29⟩:=bvx hs29
       obtain ⟨x38,hi37,hs29⟩:=bvx hs29
       obtain ⟨x41,hi40,hs29⟩:=bvx hs29
       obtain ⟨x44,hi43,hs29⟩:=bvx hs29
       obtain ⟨r46,e47,hs29⟩:=bind_some hs29
       obtain ⟨x49,hi48,hs29⟩:=bvx hs29
       refine ZX [24,25,26,27,28,29,30,31,32,33,34,35,36,37,38,39,40,41,42,43,44,45,46,47,48] Yu rfl rfl (by decide) rfl hE hM (qsP (fun z=>Zj z.E Za ld rfl (kr0 rfl)) (qsP (v:=(vI (wr (4 * s12.2)))) (fun z=>Z9 z.E Za ld rfl rfl rfl (kr0 rfl)) (qsP (fun z=>Zj z.E Za ld rfl (kr0 rfl)) (qsP (v:=(vI (wr ((wr (4 * s12.2)) + s20.2)))) (fun z=>Z9 z.E Za ld rfl rfl rfl (kr0 rfl)) (qsP (fun z=>Zj z.E Za ld rfl (kr0 rfl)) (qsP (v:=(vI (wr (4 * s12.2)))) (fun z=>Z9 z.E Za ld rfl rfl rfl (kr0 rfl)) (qsP (fun z=>Zj z.E Za ld rfl (kr0 rfl)) (qsP (v:=(vI (wr ((wr (4 * s12.2)) + s20.2)))) (fun z=>Z9 z.E Za ld rfl rfl rfl (kr0 rfl)) (qsP (fun z=>ZC z.E Za ld rfl rfl Tryz.underlying68 ty5 hi34.1 (kr0 rfl)) (qsP (fun z=>ZM (v:=(vB x35)) z.E Za ld rfl ty5 rfl (At.vec (z.M.rawAt0) hi34.2) (kr0 rfl)) (qsP (fun z=>Zj z.E Za ld rfl (kr0 rfl)) (qsP (fun z=>Zj z.E Za ld rfl (kr0 rfl)) (qsP (fun z=>Zj z.E Za ld rfl (kr0 rfl)) (qsP (fun z=>ZC z.E Za ld rfl rfl Tryz.underlying160 XB hi37.1 (kr0 rfl)) (qsP (fun z=>ZC z.E Za ld rfl rfl Tryz.underlying158 ty5 hi40.1 (kr0 rfl)) (qsP (fun z=>ZM (v:=(vB x41)) z.E Za ld rfl ty5 rfl (At.vec (At.vec (z.M.rawAt3) hi37.2) hi40.2) (kr0 rfl)) (qsP (fun z=>Zj z.E Za ld rfl (kr0 rfl)) (qsP (v:=(vI (wr (4 * s12.2)))) (fun z=>Z9 z.E Za ld rfl rfl rfl (kr0 rfl)) (qsP (fun z=>Zj z.E Za ld rfl (kr0 rfl)) (qsP (v:=(vI (wr ((wr (4 * s12.2)) + s28.2)))) (fun z=>Z9 z.E Za ld rfl rfl rfl (kr0 rfl)) (qsP (fun z=>ZC z.E Za ld rfl rfl Tryz.underlying68 ty5 hi43.1 (kr0 rfl)) (qsP (fun z=>ZM (v:=(vB x44)) z.E Za ld rfl ty5 rfl (At.vec (z.M.rawAt2) hi43.2) (kr0 rfl)) (qsP (fun z=>Yk z.E Za ld rfl zG (VH _ p0 x41 x44 r46 e47) (kc rfl)) (qsP (v:=(vB (x35 ^^^ r46))) (fun z=>Z9 z.E Za ld rfl rfl (V0 x35 r46) (kr0 rfl)) (qsP (fun z=>ZC z.E Za ld rfl rfl Tryz.underlying68 ty5 hi48.1 (kr0 rfl)) qs0))))))))))))))))))))))))) ?_
       ·intro a w u hE hM
        refine Zm (seg:=[(vB (x35 ^^^ r46))]) (cs':=enc (s28.1.setIfInBounds ((wr ((wr (4 * s12.2)) + s20.2))).toNat (x35 ^^^ r46))) hE hM Za rfl rfl rfl ty5 rfl (ZS (v:=s28.1) (x:=x35 ^^^ r46) hi48.1) (Flat.cell (x35 ^^^ r46 : UInt8)) (ZD (v:=s28.1) (x:=x35 ^^^ r46) hi48.1) fun w a hM hE=>Zg (Yb (Zp (wp_region_lit (Zd hE rfl fun a hE=>Zi hE rfl rfl rfl fun a hE=>Zc hE rfl fun a hE=>Zg (Zk ?_)))))
        exact ⟨_,(ois hs29),hE.sub ⟨rfl,rfl,rfl,rfl,rfl,rfl,rfl,rfl,trivial⟩,hM⟩
      ·intro hb32
       have hs29:=Zs hs29 hb32
       refine wp_exit (Zn (Zn (Ye ?_)))
       obtain rfl:=hx30 _ (ois hs29)
       refine Zk ?_
       exact ⟨hE.sub ⟨rfl,rfl,rfl,rfl,rfl,rfl,rfl,trivial⟩,hM⟩
     ·skip
      rintro a w ⟨hE,hM⟩
      refine Yb (Zp (wp_region_lit (Zd hE rfl fun a hE=>Zi hE rfl rfl rfl fun a hE=>Zc hE rfl fun a hE=>Zg (Zk ?_))))
      exact ⟨_,(ois hF27),hE.sub ⟨rfl,rfl,rfl,rfl,rfl,rfl,rfl,trivial⟩,hM⟩
    ·intro hb24
     have hs21:=Zs hs21 hb24
     refine wp_exit (Zn (Zn (Ye ?_)))
     obtain rfl:=hx22 _ (ois hs21)
     refine Zk ?_
     exact ⟨hE.sub ⟨rfl,rfl,rfl,rfl,rfl,rfl,trivial⟩,hM⟩
   ·skip
    rintro a w ⟨hE,hM⟩
    refine Yb (Zp (wp_region_lit (Zd hE rfl fun a hE=>Zi hE rfl rfl rfl fun a hE=>Zc hE rfl fun a hE=>Zg (Zk ?_))))
    exact ⟨_,(ois hF19),hE.sub ⟨rfl,rfl,rfl,rfl,rfl,rfl,trivial⟩,hM⟩
  ·intro hb16
   have hs13:=Zs hs13 hb16
   refine wp_exit (Zn (Zn (Ye ?_)))
   obtain rfl:=hx14 _ (ois hs13)
   refine Zk ?_
   have hM:=M.fst (l:=[_,_]) hM.pull1.pull1
   exact ⟨hE.sub ⟨rfl,rfl,trivial⟩,hM⟩
 ·skip
  rintro a w ⟨hE,hM⟩
  refine Zp (Zb (Zr hE rfl ZJ rfl hM.rawAt0 (Flat.len _) ?_)); intro a hE
  have hM:=hM.pull1
  refine Zm (seg:=enc j9) (cs':=enc j9) hE hM Za rfl rfl rfl ZJ (Flat.len _) (zle flq) (Flat.cell _) (Zh flq) fun w a hM hE=>Ze ?_
  obtain rfl:=Option.some.inj hF11
  have hq54 : Z6 Tryz.prog _ _ (.cell 6 68) _:=ZK hE rfl ZJ rfl hM.rawAt0 (Flat.len _) rfl
  exact wp_ret (ZP hE rfl hq54 ⟨_,rfl,rfl,hM.kept⟩)
def Xs (p0 : GCipher) (p3 : Int) (r9 : (List (Vector UInt8 16))) (s25 : (Vector UInt8 16) × Int) : Option (Fl ((Vector UInt8 16) × Int) (Vector UInt8 16)) :=
 if (decide (s25.2 ≤ p3)) = true then ((((VQ p0.Box s25.1).bind fun r37=>(Uc p0.Places r37).bind fun r39=>some r39 : Option ((Vector UInt8 16))).bind fun j33=>(if (decide (s25.2 < p3)) = true then ((UO p0.Field p0.Mix j33).bind fun r46=>some r46) else (some j33) : Option ((Vector UInt8 16))).bind fun j42=>(idx r9 s25.2).bind fun x51=>(Xj j42 x51).bind fun r54=>some r54 : Option ((Vector UInt8 16))).bind fun j30=>some (Fl.nx (j30,wr (s25.2 + 1)))) else (some (Fl.ex s25.1))
def Y6 (p0 : GCipher) (p1 : (Vector UInt8 16)) (p2 : (Vector UInt8 16)) (p3 : Int) : Option ((Vector UInt8 16)) :=
 (Um p0 p1 p3).bind fun r9=>((idx r9 (0 : Int)).bind fun x16=>(Xj p2 x16).bind fun r19=>some r19 : Option ((Vector UInt8 16))).bind fun j12=>(ZA (Xs p0 p3 r9) (j12,1)).bind fun j22=>some j22
theorem TZ (w0 : World) (p0 : GCipher) (p1 : (Vector UInt8 16)) (p2 : (Vector UInt8 16)) (p3 : Int) (r : (Vector UInt8 16)) (hF : Y6 p0 p1 p2 p3 = some r) :
  Calls Tryz.prog 207 [(Value.agg (enc p0).toArray),(Value.agg (enc p1).toArray),(Value.agg (enc p2).toArray),vI p3].toArray w0 (Rt w0 (Value.agg (enc r).toArray)):=by
 refine ce Tryz.func207 ?_
 intro a hE
 have hM:=M.start w0
 unfold Y6 at hF
 refine Zb (Ya (cs:=cat [[vI p0.Field],enc p0.Box,enc p0.Mix,enc p0.Places,[vI p0.Rounds]]) hE hM Za ld rfl rfl fun b1 w a hM hE=>Ya (cs:=enc p1) hE hM Za ld rfl rfl fun b3 w a hM hE=>Ya (cs:=enc p2) hE hM Za ld rfl rfl fun b5 w a hM hE=>Zz hE hM ZJ fun b7 w a hM hE=>Ze (Zb (Zr hE rfl Up rfl hM.rawAt3 cq fun a hE=>Zr hE rfl ZJ rfl hM.rawAt2 (Flat.len _) fun a hE=>Zd hE rfl ?_))); intro a hE
 obtain ⟨r9,e10,hF⟩:=bind_some hF
 refine Zx hE rfl (cbm Tryz.func228) (Bu _ p0 p1 p3 r9 e10) ?_
 rintro u11 w a ⟨_,rfl,hFr,hK⟩ hE
 have hM:=hM.add hK hFr
 refine Zc hE rfl fun a hE=>Ze ?_
 obtain ⟨j12,hl13,hF14⟩:=bind_some hF
 refine ZN (fun a w=>Env 48 a [(3,vI p3),(4,(ptr b1 0)),(6,(ptr b5 0)),(8,(ptr b7 0)),(9,u11)] ∧ M (Old w0) w0 w [osl NoB (r9 : List (Vector UInt8 16)) u11,raw b7 (enc (Vector.replicate 16 (0 : UInt8))),raw b5 (enc j12),raw b1 (cat [[vI p0.Field],enc p0.Box,enc p0.Mix,enc p0.Places,[vI p0.Rounds]])]) ?_ ?_
 ·skip
  obtain ⟨x16,hi18,hl13⟩:=bix hl13
  obtain ⟨r19,e20,hl13⟩:=bind_some hl13
  refine ZX [15,16,17,18,19] Yu rfl rfl (by decide) rfl hE hM (qsP (fun z=>ZW z.E Za ld rfl ZJ rfl (z.M.rawAt2) (Flat.len _) (kr0 rfl)) (qsP (fun z=>Zj z.E Za ld rfl (kr0 rfl)) (qsP (fun z=>ZZ z.E Za ld rfl rfl Tryz.underlying54 ZJ (z.M.sl (pre:=[]) noB) hi18.1 (kr0 rfl)) (qsP (fun z=>ZW z.E Za ld rfl ZJ rfl (Yt (z.M.sl (pre:=[]) noB) hi18.2) (Flat.len _) (kr0 rfl)) (qsP (fun z=>Yk z.E Za ld rfl BO (VX _ p2 x16 r19 e20) (kc rfl)) qs0))))) ?_
  ·intro a w u hE hM
   have hM:=hM.pull2
   refine Zm (seg:=enc r19) (cs':=enc r19) hE hM Za rfl rfl rfl ZJ (Flat.len _) (zle flq) (Flat.cell _) (Zh flq) fun w a hM hE=>Zg ?_
   obtain rfl:=Option.some.inj hl13
   refine Zk ?_
   have hM:=M.fst (l:=[_,_,_,_]) hM.pull4.pull1.pull3.pull3
   exact ⟨hE.sub ⟨rfl,rfl,rfl,rfl,rfl,trivial⟩,hM⟩
 ·skip
  rintro a w ⟨hE,hM⟩
  refine wp_seq (Zb (Zc hE rfl fun a hE=>Ze ?_))
  obtain ⟨j22,hl23,hF24⟩:=bind_some hF14
  refine ZO (fun a w=>Env 48 a [(6,(ptr b5 0)),(8,(ptr b7 0))] ∧ M (Old w0) w0 w [raw b7 (enc (Vector.replicate 16 (0 : UInt8))),raw b5 (enc j22)]) ?_ ?_
  ·skip
   refine wp_block ?_
   refine ZE (fun (s25 : (Vector UInt8 16) × Int) a w=>Env 48 a [(3,vI p3),(4,(ptr b1 0)),(6,(ptr b5 0)),(8,(ptr b7 0)),(9,u11),(10,vI s25.2)] ∧ M (Old w0) w0 w [osl NoB (r9 : List (Vector UInt8 16)) u11,raw b7 (enc (Vector.replicate 16 (0 : UInt8))),raw b5 (enc s25.1),raw b1 (cat [[vI p0.Field],enc p0.Box,enc p0.Mix,enc p0.Places,[vI p0.Rounds]])]) hl23 ⟨hE.sub ⟨rfl,rfl,rfl,rfl,rfl,rfl,trivial⟩,hM⟩ ?_
   rintro s25 a w ⟨hE,hM⟩ o28 hs26 hx27
   unfold Xs at hs26
   refine wp_seq (Zb (Zd hE rfl fun a hE=>Zd hE rfl fun a hE=>Zi hE rfl rfl rfl fun a hE=>Ze ?_))
   refine Zo hE rfl ?_ ?_
   ·intro hb29
    have hs26:=Zt hs26 hb29
    refine wp_skip (Zp ?_)
    obtain ⟨j30,hl31,hF32⟩:=bind_some hs26
    refine ZN (fun a w=>Env 48 a [(3,vI p3),(4,(ptr b1 0)),(6,(ptr b5 0)),(8,(ptr b7 0)),(9,u11),(10,vI s25.2)] ∧ M (Old w0) w0 w [osl NoB (r9 : List (Vector UInt8 16)) u11,raw b7 (enc (Vector.replicate 16 (0 : UInt8))),raw b5 (enc j30),raw b1 (cat [[vI p0.Field],enc p0.Box,enc p0.Mix,enc p0.Places,[vI p0.Rounds]])]) ?_ ?_
    ·skip
     refine wp_block ?_
     obtain ⟨j33,hl34,hF35⟩:=bind_some hl31
     refine ZN (fun a w=>Env 48 a [(3,vI p3),(4,(ptr b1 0)),(6,(ptr b5 0)),(8,(ptr b7 0)),(9,u11),(10,vI s25.2)] ∧ M (Old w0) w0 w [osl NoB (r9 : List (Vector UInt8 16)) u11,raw b7 (enc (Vector.replicate 16 (0 : UInt8))),raw b5 (enc j33),raw b1 (cat [[vI p0.Field],enc p0.Box,enc p0.Mix,enc p0.Places,[vI p0.Rounds]])]) ?_ ?_
     ·skip
      obtain ⟨r37,e38,hl34⟩:=bind_some hl34
      obtain ⟨r39,e40,hl34⟩:=bind_some hl34
      refine ZX [25,26,27,28,29,30,31] Yu rfl rfl (by decide) rfl hE hM (qsP (fun z=>Zq z.E Za ld rfl (KZ) (kr0 rfl)) (qsP (fun z=>ZW z.E Za ld rfl TN rfl (At.cat (pre:=[[vI p0.Field],enc p0.Box,enc p0.Mix]) (z.M.rawAt3) ck) (Flat.len _) (kr0 rfl)) (qsP (fun z=>Zq z.E Za ld rfl (Kb) (kr0 rfl)) (qsP (fun z=>ZW z.E Za ld rfl XI rfl (At.cat (pre:=[[vI p0.Field]]) (z.M.rawAt3) ck) (Flat.len _) (kr0 rfl)) (qsP (fun z=>ZW z.E Za ld rfl ZJ rfl (z.M.rawAt2) (Flat.len _) (kr0 rfl)) (qsP (fun z=>Yk z.E Za ld rfl (cbm Tryz.func230) (Hn _ p0.Box s25.1 r37 e38) (kc rfl)) (qsP (fun z=>Yk z.E Za ld rfl (cbm Tryz.func229) (Bd _ p0.Places r37 r39 e40) (kc rfl)) qs0))))))) ?_
      ·intro a w u hE hM
       have hM:=hM.pull2
       refine Zm (seg:=enc r39) (cs':=enc r39) hE hM Za rfl rfl rfl ZJ (Flat.len _) (zle flq) (Flat.cell _) (Zh flq) fun w a hM hE=>Zg ?_
       obtain rfl:=Option.some.inj hl34
       refine Zk ?_
       have hM:=hM.pull3.pull1.pull3.pull3
       exact ⟨hE.sub ⟨rfl,rfl,rfl,rfl,rfl,rfl,trivial⟩,hM⟩
     ·skip
      rintro a w ⟨hE,hM⟩
      obtain ⟨j42,hl43,hF44⟩:=bind_some hF35
      refine ZN (fun a w=>Env 48 a [(3,vI p3),(4,(ptr b1 0)),(6,(ptr b5 0)),(8,(ptr b7 0)),(9,u11),(10,vI s25.2)] ∧ M (Old w0) w0 w [osl NoB (r9 : List (Vector UInt8 16)) u11,raw b7 (enc (Vector.replicate 16 (0 : UInt8))),raw b5 (enc j42),raw b1 (cat [[vI p0.Field],enc p0.Box,enc p0.Mix,enc p0.Places,[vI p0.Rounds]])]) ?_ ?_
      ·skip
       refine Zb (Zd hE rfl fun a hE=>Zd hE rfl fun a hE=>Zi hE rfl rfl rfl fun a hE=>Ze ?_)
       refine Zo hE rfl ?_ ?_
       ·intro hb45
        have hl43:=Zt hl43 hb45
        refine wp_region_lit (Zy hE rfl (Hv) fun a hE=>ZB (v:=(vI p0.Field)) hE rfl ty2 rfl (At.cat (pre:=[]) hM.rawAt3 cl0) fun a hE=>Zy hE rfl (Jg) fun a hE=>Zr hE rfl Ua rfl (At.cat (pre:=[[vI p0.Field],enc p0.Box]) hM.rawAt3 ck) (Flat.len _) fun a hE=>Zr hE rfl ZJ rfl hM.rawAt2 (Flat.len _) ?_); intro a hE
        obtain ⟨r46,e47,hl43⟩:=bind_some hl43
        refine Zx hE rfl (cbm Tryz.func231) (BF _ p0.Field p0.Mix j33 r46 e47) ?_
        rintro v w a ⟨rfl,hK⟩ hE
        have hM:=(hM.keep hK).pull2
        refine Zm (seg:=enc r46) (cs':=enc r46) hE hM Za rfl rfl rfl ZJ (Flat.len _) (zle flq) (Flat.cell _) (Zh flq) fun w a hM hE=>Zg ?_
        obtain rfl:=Option.some.inj hl43
        refine Zk ?_
        have hM:=hM.pull3.pull1.pull3.pull3
        exact ⟨hE.sub ⟨rfl,rfl,rfl,rfl,rfl,rfl,trivial⟩,hM⟩
       ·intro hb45
        have hl43:=Zs hl43 hb45
        refine wp_skip ?_
        obtain rfl:=Option.some.inj hl43
        refine Zk ?_
        exact ⟨hE.sub ⟨rfl,rfl,rfl,rfl,rfl,rfl,trivial⟩,hM⟩
      ·skip
       rintro a w ⟨hE,hM⟩
       obtain ⟨x51,hi53,hF44⟩:=bix hF44
       obtain ⟨r54,e55,hF44⟩:=bind_some hF44
       refine ZX [41,42,43,44,45,46] Yu rfl rfl (by decide) rfl hE hM (qsP (fun z=>ZW z.E Za ld rfl ZJ rfl (z.M.rawAt2) (Flat.len _) (kr0 rfl)) (qsP (fun z=>Zj z.E Za ld rfl (kr0 rfl)) (qsP (fun z=>Zj z.E Za ld rfl (kr0 rfl)) (qsP (fun z=>ZZ z.E Za ld rfl rfl Tryz.underlying54 ZJ (z.M.sl (pre:=[]) noB) hi53.1 (kr0 rfl)) (qsP (fun z=>ZW z.E Za ld rfl ZJ rfl (Yt (z.M.sl (pre:=[]) noB) hi53.2) (Flat.len _) (kr0 rfl)) (qsP (fun z=>Yk z.E Za ld rfl BO (VX _ j42 x51 r54 e55) (kc rfl)) qs0)))))) ?_
       ·intro a w u hE hM
        have hM:=hM.pull2
        refine Zm (seg:=enc r54) (cs':=enc r54) hE hM Za rfl rfl rfl ZJ (Flat.len _) (zle flq) (Flat.cell _) (Zh flq) fun w a hM hE=>Zg (Yb ?_)
        obtain rfl:=Option.some.inj hF44
        refine Zk ?_
        have hM:=hM.pull3.pull1.pull3.pull3
        exact ⟨hE.sub ⟨rfl,rfl,rfl,rfl,rfl,rfl,trivial⟩,hM⟩
    ·skip
     rintro a w ⟨hE,hM⟩
     refine wp_region_lit (Zd hE rfl fun a hE=>Zi hE rfl rfl rfl fun a hE=>Zc hE rfl fun a hE=>Zg (Zk ?_))
     exact ⟨_,(ois hF32),hE.sub ⟨rfl,rfl,rfl,rfl,rfl,rfl,trivial⟩,hM⟩
   ·intro hb29
    have hs26:=Zs hs26 hb29
    refine wp_exit (Zn (Zn (Ye ?_)))
    obtain rfl:=hx27 _ (ois hs26)
    refine Zk ?_
    have hM:=M.fst (l:=[_,_]) hM.pull2.pull2
    exact ⟨hE.sub ⟨rfl,rfl,trivial⟩,hM⟩
  ·skip
   rintro a w ⟨hE,hM⟩
   refine Zp (Zb (Zr hE rfl ZJ rfl hM.rawAt1 (Flat.len _) fun a hE=>Zm (seg:=enc j22) (cs':=enc j22) hE hM Za rfl rfl rfl ZJ (Flat.len _) (zle flq) (Flat.cell _) (Zh flq) fun w a hM hE=>Ze ?_))
   obtain rfl:=Option.some.inj hF24
   have hq58 : Z6 Tryz.prog _ _ (.cell 8 68) _:=ZK hE rfl ZJ rfl hM.rawAt0 (Flat.len _) rfl
   exact wp_ret (ZP hE rfl hq58 ⟨_,rfl,rfl,hM.kept⟩)
def X8 (r31 : (Vector UInt8 16)) (r40 : (Vector UInt8 16)) (s51 : (Vector UInt8 32) × Int) : Option (Fl ((Vector UInt8 32) × Int) (Vector UInt8 32)) :=
 if (decide (s51.2 < 16)) = true then ((ZI r31 s51.2).bind fun x57=>(ZI s51.1 s51.2).bind fun x60=>(ZI r40 s51.2).bind fun x63=>(ZI (s51.1.setIfInBounds (s51.2).toNat x57) (wr (16 + s51.2))).bind fun x66=>some (Fl.nx (((s51.1.setIfInBounds (s51.2).toNat x57).setIfInBounds ((wr (16 + s51.2))).toNat x63),wr (s51.2 + 1)))) else (some (Fl.ex s51.1))
def WB (p0 : GCipher) (p1 : (Vector UInt8 32)) (p2 : (Vector UInt8 16)) : Option ((Vector UInt8 32)) :=
 (Vu p1).bind fun r9=>(Xj r9.1 p2).bind fun r16=>(Xj r9.2 p2).bind fun r18=>(Y6 p0 r9.2 r16 p0.Rounds).bind fun r29=>(Xj r29 r16).bind fun r31=>(Y6 p0 r31 r18 p0.Rounds).bind fun r38=>(Xj r38 r18).bind fun r40=>(ZA (X8 r31 r40) ((Vector.replicate 32 (0 : UInt8)),0)).bind fun j48=>some j48
theorem JO (w0 : World) (p0 : GCipher) (p1 : (Vector UInt8 32)) (p2 : (Vector UInt8 16)) (r : (Vector UInt8 32)) (hF : WB p0 p1 p2 = some r) :
  Calls Tryz.prog 174 [(Value.agg (enc p0).toArray),(Value.agg (enc p1).toArray),(Value.agg (enc p2).toArray)].toArray w0 (Rt w0 (Value.agg (enc r).toArray)):=by
 refine ce Tryz.func174 ?_
 intro a hE
 have hM:=M.start w0
 unfold WB at hF
 refine Zb (Ya (cs:=cat [[vI p0.Field],enc p0.Box,enc p0.Mix,enc p0.Places,[vI p0.Rounds]]) hE hM Za ld rfl rfl fun b1 w a hM hE=>Ya (cs:=enc p1) hE hM Za ld rfl rfl fun b3 w a hM hE=>Ya (cs:=enc p2) hE hM Za ld rfl rfl fun b5 w a hM hE=>Zz hE hM ZL fun b7 w a hM hE=>Ze (Zb (Zr hE rfl ZL rfl hM.rawAt2 (Flat.len _) ?_))); intro a hE
 obtain ⟨r9,e10,hF⟩:=bind_some hF
 refine Zx hE rfl (cbm Tryz.func205) (JN _ p1 r9 e10) ?_
 rintro v w a ⟨rfl,hK⟩ hE
 have hM:=hM.keep hK
 refine Zd hE rfl fun a hE=>XN hE Za ld rfl rfl fun a hE=>XN hE Za ld rfl rfl fun a hE=>Zz hE hM ZJ fun b11 w a hM hE=>Zz hE hM ZJ ?_; intro b13 w a hM hE
 have hM:=hM.pull1
 refine Zm (seg:=enc r9.1) (cs':=enc r9.1) hE hM Za rfl rfl rfl ZJ (Flat.len _) (zle flq) (Flat.cell _) (Zh flq) ?_; intro w a hM hE
 have hM:=hM.pull1
 refine Zm (seg:=enc r9.2) (cs':=enc r9.2) hE hM Za rfl rfl rfl ZJ (Flat.len _) (zle flq) (Flat.cell _) (Zh flq) fun w a hM hE=>Ze (wp_seq ?_)
 obtain ⟨r16,e17,hF⟩:=bind_some hF
 obtain ⟨r18,e19,hF⟩:=bind_some hF
 refine Yz (its:=[raw b13 (enc r9.2),raw b11 (enc r9.1),raw b7 (enc (Vector.replicate 32 (0 : UInt8))),raw b5 (enc p2),raw b3 (enc p1),raw b1 (cat [[vI p0.Field],enc p0.Box,enc p0.Mix,enc p0.Places,[vI p0.Rounds]])]) (mk:=([mkO 6 (fun v=>VZ v (enc (Vector.replicate 16 (0 : UInt8)))),mkO 7 (fun v=>VZ v (enc (Vector.replicate 16 (0 : UInt8))))] : Mk)) [20,21,22,23,24,25,9,10] Yu rfl rfl (by decide) rfl hE (fun u=>M.qE (M.qE (M.q0 hM.drew u) emO) emO) (qsP (v:=(Value.agg (enc r9.1).toArray)) ?_ (qsP (v:=(Value.agg (enc p2).toArray)) ?_ (qsP (fun z=>Yk z.E Za ld rfl BO (VX _ r9.1 p2 r16 e17) (kc rfl)) (qsP (v:=(Value.agg (enc r9.2).toArray)) ?_ (qsP (v:=(Value.agg (enc p2).toArray)) ?_ (qsP (fun z=>Yk z.E Za ld rfl BO (VX _ r9.2 p2 r18 e19) (kc rfl)) (qsM (pr:=fun v=>True) ?_ (qsM (pr:=fun v=>True) ?_ qs0)))))))) ?_
 ·intro a w ux15 D z
  have hE:=z.E
  have hM:=z.M
  exact Zr hE rfl ZJ rfl hM.rawAt1 (Flat.len _) fun a hE=>⟨Kept.refl _ _,_,rfl,hE⟩
 ·intro a w ux15 D z
  have hE:=z.E
  have hM:=z.M
  exact Zr hE rfl ZJ rfl hM.rawAt3 (Flat.len _) fun a hE=>⟨Kept.refl _ _,_,rfl,hE⟩
 ·intro a w ux15 D z
  have hE:=z.E
  have hM:=z.M
  exact Zr hE rfl ZJ rfl hM.rawAt0 (Flat.len _) fun a hE=>⟨Kept.refl _ _,_,rfl,hE⟩
 ·intro a w ux15 D z
  have hE:=z.E
  have hM:=z.M
  exact Zr hE rfl ZJ rfl hM.rawAt3 (Flat.len _) fun a hE=>⟨Kept.refl _ _,_,rfl,hE⟩
 ·intro a w ux15 D z
  have hE:=z.E
  have hD : D 6 = false:=z.F
  have hM:=z.M
  refine Zz hE hM ZJ ?_; intro b20 w a hM hE
  have hM:=hM.pack1 (it:=VZ _ (enc (Vector.replicate 16 (0 : UInt8)))) (fun w w' fp ⟨b',e,k⟩ hb=>⟨b',e,YW w w' fp k hb⟩) (fun fp k=>⟨_,rfl,k⟩)
  exact ⟨_,_,rfl,hE,M.qFill (mk1:=[]) (mk2:=[_]) (f:=fun v=>VZ v (enc (Vector.replicate 16 (0 : UInt8)))) hM rfl hD,trivial⟩
 ·intro a w ux15 D z
  have hE:=z.E
  have hD : D 7 = false:=z.F
  have hM:=z.M
  refine Zz hE hM ZJ ?_; intro b22 w a hM hE
  have hM:=hM.pack1 (it:=VZ _ (enc (Vector.replicate 16 (0 : UInt8)))) (fun w w' fp ⟨b',e,k⟩ hb=>⟨b',e,YW w w' fp k hb⟩) (fun fp k=>⟨_,rfl,k⟩)
  exact ⟨_,_,rfl,hE,M.qFill (mk1:=[_]) (mk2:=[]) (f:=fun v=>VZ v (enc (Vector.replicate 16 (0 : UInt8)))) hM rfl hD,trivial⟩
 ·intro a w ux15 D hE hM hG hall
  have d6:=hall 6 (by decide)
  have d7:=hall 7 (by decide)
  have hM:=(hM.sure (pre:=[_,_,_,_,_,_]) d6).pull
  obtain ⟨_,⟨b24,f25,_⟩,_⟩:=hM.head
  have hM:=((hM.pack1 YW (it:=raw b24 (enc (Vector.replicate 16 (0 : UInt8)))) (fun fp ⟨b2,e2,k2⟩=>by rw [f25] at e2; simp [ptr] at e2; subst e2; exact k2)).sure (pre:=[_,_,_,_,_,_,_]) d7).pull
  obtain ⟨_,⟨b26,f27,_⟩,_⟩:=hM.head
  have hM:=hM.pack1 YW (it:=raw b26 (enc (Vector.replicate 16 (0 : UInt8)))) (fun fp ⟨b2,e2,k2⟩=>by rw [f27] at e2; simp [ptr] at e2; subst e2; exact k2)
  have hE:=hE.setq (t:=9) rfl f25
  have hE:=hE.setq (t:=10) rfl f27
  have hM:=hM.pull1
  refine Zm (seg:=enc r16) (cs':=enc r16) hE hM Za rfl rfl rfl ZJ (Flat.len _) (zle flq) (Flat.cell _) (Zh flq) ?_; intro w a hM hE
  have hM:=hM.pull1
  refine Zm (seg:=enc r18) (cs':=enc r18) hE hM Za rfl rfl rfl ZJ (Flat.len _) (zle flq) (Flat.cell _) (Zh flq) fun w a hM hE=>Zg (Zp (wp_seq ?_))
  obtain ⟨r29,e30,hF⟩:=bind_some hF
  obtain ⟨r31,e32,hF⟩:=bind_some hF
  refine Yz (its:=[raw b26 (enc r18),raw b24 (enc r16),raw b13 (enc r9.2),raw b11 (enc r9.1),raw b7 (enc (Vector.replicate 32 (0 : UInt8))),raw b5 (enc p2),raw b3 (enc p1),raw b1 (cat [[vI p0.Field],enc p0.Box,enc p0.Mix,enc p0.Places,[vI p0.Rounds]])]) (mk:=([mkO 8 (fun v=>VZ v (enc (Vector.replicate 16 (0 : UInt8))))] : Mk)) [26,27,28,29,30,31,32,33,11] Yu rfl rfl (by decide) rfl hE (fun u=>M.qE (M.q0 hM.drew u) emO) (qsP (v:=(Value.agg (enc p0).toArray)) ?_ (qsP (v:=(Value.agg (enc r9.2).toArray)) ?_ (qsP (v:=(Value.agg (enc r16).toArray)) ?_ (qsP (fun z=>Zq z.E Za ld rfl (As) (kr0 rfl)) (qsP (v:=(vI p0.Rounds)) ?_ (qsP (fun z=>Yk z.E Za ld rfl (cbm Tryz.func207) (TZ _ p0 r9.2 r16 p0.Rounds r29 e30) (kc rfl)) (qsP (v:=(Value.agg (enc r16).toArray)) ?_ (qsP (fun z=>Yk z.E Za ld rfl BO (VX _ r29 r16 r31 e32) (kc rfl)) (qsM (pr:=fun v=>True) ?_ qs0))))))))) ?_
  ·intro a w ux28 D z
   have hE:=z.E
   have hM:=z.M
   exact Zr hE rfl Up rfl hM.rawAt7 cq fun a hE=>⟨Kept.refl _ _,_,rfl,hE⟩
  ·intro a w ux28 D z
   have hE:=z.E
   have hM:=z.M
   exact Zr hE rfl ZJ rfl hM.rawAt2 (Flat.len _) fun a hE=>⟨Kept.refl _ _,_,rfl,hE⟩
  ·intro a w ux28 D z
   have hE:=z.E
   have hM:=z.M
   exact Zr hE rfl ZJ rfl hM.rawAt1 (Flat.len _) fun a hE=>⟨Kept.refl _ _,_,rfl,hE⟩
  ·intro a w ux28 D z
   have hE:=z.E
   have hM:=z.M
   exact ZB (v:=(vI p0.Rounds)) hE rfl ty2 rfl (At.cat (pre:=[[vI p0.Field],enc p0.Box,enc p0.Mix,enc p0.Places]) hM.rawAt7 ck) fun a hE=>⟨Kept.refl _ _,_,rfl,hE⟩
  ·intro a w ux28 D z
   have hE:=z.E
   have hM:=z.M
   exact Zr hE rfl ZJ rfl hM.rawAt1 (Flat.len _) fun a hE=>⟨Kept.refl _ _,_,rfl,hE⟩
  ·intro a w ux28 D z
   have hE:=z.E
   have hD : D 8 = false:=z.F
   have hM:=z.M
   refine Zz hE hM ZJ ?_; intro b33 w a hM hE
   have hM:=hM.pack1 (it:=VZ _ (enc (Vector.replicate 16 (0 : UInt8)))) (fun w w' fp ⟨b',e,k⟩ hb=>⟨b',e,YW w w' fp k hb⟩) (fun fp k=>⟨_,rfl,k⟩)
   exact ⟨_,_,rfl,hE,M.qFill (mk1:=[]) (mk2:=[]) (f:=fun v=>VZ v (enc (Vector.replicate 16 (0 : UInt8)))) hM rfl hD,trivial⟩
  ·intro a w ux28 D hE hM hG hall
   have d8:=hall 8 (by decide)
   have hM:=(hM.sure (pre:=[_,_,_,_,_,_,_,_]) d8).pull
   obtain ⟨_,⟨b35,f36,_⟩,_⟩:=hM.head
   have hM:=hM.pack1 YW (it:=raw b35 (enc (Vector.replicate 16 (0 : UInt8)))) (fun fp ⟨b2,e2,k2⟩=>by rw [f36] at e2; simp [ptr] at e2; subst e2; exact k2)
   have hE:=hE.setq (t:=11) rfl f36
   refine Zm (seg:=enc r31) (cs':=enc r31) hE hM Za rfl rfl rfl ZJ (Flat.len _) (zle flq) (Flat.cell _) (Zh flq) fun w a hM hE=>Zg (Zp (wp_seq ?_))
   obtain ⟨r38,e39,hF⟩:=bind_some hF
   obtain ⟨r40,e41,hF⟩:=bind_some hF
   refine Yz (its:=[raw b35 (enc r31),raw b26 (enc r18),raw b24 (enc r16),raw b13 (enc r9.2),raw b11 (enc r9.1),raw b7 (enc (Vector.replicate 32 (0 : UInt8))),raw b5 (enc p2),raw b3 (enc p1),raw b1 (cat [[vI p0.Field],enc p0.Box,enc p0.Mix,enc p0.Places,[vI p0.Rounds]])]) (mk:=([mkO 8 (fun v=>VZ v (enc (Vector.replicate 16 (0 : UInt8))))] : Mk)) [34,35,36,37,38,39,40,41,12] Yu rfl rfl (by decide) rfl hE (fun u=>M.qE (M.q0 hM.drew u) emO) (qsP (v:=(Value.agg (enc p0).toArray)) ?_ (qsP (v:=(Value.agg (enc r31).toArray)) ?_ (qsP (v:=(Value.agg (enc r18).toArray)) ?_ (qsP (fun z=>Zq z.E Za ld rfl (As) (kr0 rfl)) (qsP (v:=(vI p0.Rounds)) ?_ (qsP (fun z=>Yk z.E Za ld rfl (cbm Tryz.func207) (TZ _ p0 r31 r18 p0.Rounds r38 e39) (kc rfl)) (qsP (v:=(Value.agg (enc r18).toArray)) ?_ (qsP (fun z=>Yk z.E Za ld rfl BO (VX _ r38 r18 r40 e41) (kc rfl)) (qsM (pr:=fun v=>True) ?_ qs0))))))))) ?_
   ·intro a w ux37 D z
    have hE:=z.E
    have hM:=z.M
    exact Zr hE rfl Up rfl hM.rawAt8 cq fun a hE=>⟨Kept.refl _ _,_,rfl,hE⟩
   ·intro a w ux37 D z
    have hE:=z.E
    have hM:=z.M
    exact Zr hE rfl ZJ rfl hM.rawAt0 (Flat.len _) fun a hE=>⟨Kept.refl _ _,_,rfl,hE⟩
   ·intro a w ux37 D z
    have hE:=z.E
    have hM:=z.M
    exact Zr hE rfl ZJ rfl hM.rawAt1 (Flat.len _) fun a hE=>⟨Kept.refl _ _,_,rfl,hE⟩
   ·intro a w ux37 D z
    have hE:=z.E
    have hM:=z.M
    exact ZB (v:=(vI p0.Rounds)) hE rfl ty2 rfl (At.cat (pre:=[[vI p0.Field],enc p0.Box,enc p0.Mix,enc p0.Places]) hM.rawAt8 ck) fun a hE=>⟨Kept.refl _ _,_,rfl,hE⟩
   ·intro a w ux37 D z
    have hE:=z.E
    have hM:=z.M
    exact Zr hE rfl ZJ rfl hM.rawAt1 (Flat.len _) fun a hE=>⟨Kept.refl _ _,_,rfl,hE⟩
   ·intro a w ux37 D z
    have hE:=z.E
    have hD : D 8 = false:=z.F
    have hM:=z.M
    refine Zz hE hM ZJ ?_; intro b42 w a hM hE
    have hM:=hM.pack1 (it:=VZ _ (enc (Vector.replicate 16 (0 : UInt8)))) (fun w w' fp ⟨b',e,k⟩ hb=>⟨b',e,YW w w' fp k hb⟩) (fun fp k=>⟨_,rfl,k⟩)
    exact ⟨_,_,rfl,hE,M.qFill (mk1:=[]) (mk2:=[]) (f:=fun v=>VZ v (enc (Vector.replicate 16 (0 : UInt8)))) hM rfl hD,trivial⟩
   ·intro a w ux37 D hE hM hG hall
    have d8:=hall 8 (by decide)
    have hM:=(hM.sure (pre:=[_,_,_,_,_,_,_,_,_]) d8).pull
    obtain ⟨_,⟨b44,f45,_⟩,_⟩:=hM.head
    have hM:=hM.pack1 YW (it:=raw b44 (enc (Vector.replicate 16 (0 : UInt8)))) (fun fp ⟨b2,e2,k2⟩=>by rw [f45] at e2; simp [ptr] at e2; subst e2; exact k2)
    have hE:=hE.setq (t:=12) rfl f45
    refine Zm (seg:=enc r40) (cs':=enc r40) hE hM Za rfl rfl rfl ZJ (Flat.len _) (zle flq) (Flat.cell _) (Zh flq) fun w a hM hE=>Zg (Zp (Zb (YB (parts:=[]) (vs:=[]) (cs:=enc (Vector.replicate 32 (0 : UInt8))) hE Za ld rfl rfl ZL rfl ty5 Yp fun a hE=>Zz hE hM ZL fun b46 w a hM hE=>Zm (seg:=enc (Vector.replicate 32 (0 : UInt8))) (cs':=enc (Vector.replicate 32 (0 : UInt8))) hE hM Za rfl rfl rfl ZL (Flat.len _) (zle flq) (Flat.cell _) (Zh flq) fun w a hM hE=>Ze (wp_seq (Zb (Zc hE rfl fun a hE=>Ze ?_))))))
    obtain ⟨j48,hl49,hF50⟩:=bind_some hF
    refine ZO (fun a w=>Env 59 a [(6,(ptr b7 0)),(13,(ptr b46 0))] ∧ M (Old w0) w0 w [raw b46 (enc j48),raw b7 (enc (Vector.replicate 32 (0 : UInt8)))]) ?_ ?_
    ·skip
     refine wp_block ?_
     have hM:=M.fst (l:=[_,_,_,_]) hM.pull7.pull3.pull3.pull3
     refine ZE (fun (s51 : (Vector UInt8 32) × Int) a w=>Env 59 a [(6,(ptr b7 0)),(11,(ptr b35 0)),(12,(ptr b44 0)),(13,(ptr b46 0)),(14,vI s51.2)] ∧ M (Old w0) w0 w [raw b46 (enc s51.1),raw b44 (enc r40),raw b35 (enc r31),raw b7 (enc (Vector.replicate 32 (0 : UInt8)))]) hl49 ⟨hE.sub ⟨rfl,rfl,rfl,rfl,rfl,trivial⟩,hM⟩ ?_
     rintro s51 a w ⟨hE,hM⟩ o54 hs52 hx53
     unfold X8 at hs52
     refine wp_seq (Zb (Zd hE rfl fun a hE=>Zi hE rfl rfl rfl fun a hE=>Ze ?_))
     refine Zo hE rfl ?_ ?_
     ·intro hb55
      have hs52:=Zt hs52 hb55
      refine wp_skip (Zp (wp_seq (wp_block (Zb (Zd hE rfl fun a hE=>Zd hE rfl ?_))))); intro a hE
      obtain ⟨x57,hi56,hs52⟩:=bvx hs52
      refine ZF hE rfl rfl Tryz.underlying68 ty5 hi56.1 fun a hE=>ZB (v:=(vB x57)) hE rfl ty5 rfl (At.vec hM.rawAt2 hi56.2) ?_; intro a hE
      obtain ⟨x60,hi59,hs52⟩:=bvx hs52
      refine ZF hE rfl rfl Tryz.underlying35 ty5 hi59.1 fun a hE=>Zm (seg:=[vB x57]) (cs':=enc (s51.1.setIfInBounds (s51.2).toNat x57)) hE hM Za rfl rfl rfl ty5 rfl (ZS (v:=s51.1) (x:=x57) hi59.1) (Flat.cell (x57 : UInt8)) (ZD (v:=s51.1) (x:=x57) hi59.1) fun w a hM hE=>Ze (wp_region_lit (Zd hE rfl fun a hE=>Zi hE rfl rfl rfl fun a hE=>Zd hE rfl ?_)); intro a hE
      obtain ⟨x63,hi62,hs52⟩:=bvx hs52
      refine ZF hE rfl rfl Tryz.underlying68 ty5 hi62.1 fun a hE=>ZB (v:=(vB x63)) hE rfl ty5 rfl (At.vec hM.rawAt1 hi62.2) ?_; intro a hE
      obtain ⟨x66,hi65,hs52⟩:=bvx hs52
      refine ZF hE rfl rfl Tryz.underlying35 ty5 hi65.1 fun a hE=>Zm (seg:=[vB x63]) (cs':=enc ((s51.1.setIfInBounds (s51.2).toNat x57).setIfInBounds ((wr (16 + s51.2))).toNat x63)) hE hM Za rfl rfl rfl ty5 rfl (ZS (v:=(s51.1.setIfInBounds (s51.2).toNat x57)) (x:=x63) hi65.1) (Flat.cell (x63 : UInt8)) (ZD (v:=(s51.1.setIfInBounds (s51.2).toNat x57)) (x:=x63) hi65.1) fun w a hM hE=>Zg (Yb (Zp (wp_region_lit (Zd hE rfl fun a hE=>Zi hE rfl rfl rfl fun a hE=>Zc hE rfl fun a hE=>Zg (Zk ?_)))))
      exact ⟨_,(ois hs52),hE.sub ⟨rfl,rfl,rfl,rfl,rfl,trivial⟩,hM⟩
     ·intro hb55
      have hs52:=Zs hs52 hb55
      refine wp_exit (Zn (Zn (Ye ?_)))
      obtain rfl:=hx53 _ (ois hs52)
      refine Zk ?_
      have hM:=M.fst (l:=[_,_]) hM.pull3.pull1
      exact ⟨hE.sub ⟨rfl,rfl,trivial⟩,hM⟩
    ·skip
     rintro a w ⟨hE,hM⟩
     refine Zp (Zb (Zr hE rfl ZL rfl hM.rawAt0 (Flat.len _) ?_)); intro a hE
     have hM:=hM.pull1
     refine Zm (seg:=enc j48) (cs':=enc j48) hE hM Za rfl rfl rfl ZL (Flat.len _) (zle flq) (Flat.cell _) (Zh flq) fun w a hM hE=>Ze ?_
     obtain rfl:=Option.some.inj hF50
     have hq69 : Z6 Tryz.prog _ _ (.cell 6 35) _:=ZK hE rfl ZL rfl hM.rawAt0 (Flat.len _) rfl
     exact wp_ret (ZP hE rfl hq69 ⟨_,rfl,rfl,hM.kept⟩)
def VV (p0 : GCipher) (r8 : (List (Vector UInt8 16))) (s18 : (Vector UInt8 32) × Int) : Option (Fl ((Vector UInt8 32) × Int) (Vector UInt8 32)) :=
 if (decide (s18.2 < (r8.length : Int))) = true then ((idx r8 s18.2).bind fun x24=>(WB p0 s18.1 x24).bind fun r27=>some (Fl.nx (r27,wr (s18.2 + 1)))) else (some (Fl.ex s18.1))
def Th (p0 : GCipher) (p1 : (List UInt8)) : Option ((Vector UInt8 32)) :=
 (UL p1).bind fun r5=>(Vl r5).bind fun r8=>(VP).bind fun r11=>(ZA (VV p0 r8) (r11,0)).bind fun j15=>some j15
theorem Az (w0 : World) (p0 : GCipher) (p1 : (List UInt8)) (v1_1 : Value) (hv1_1 : Ro w0 p1 [v1_1]) (r : (Vector UInt8 32)) (hF : Th p0 p1 = some r) :
  Calls Tryz.prog 124 [(Value.agg (enc p0).toArray),v1_1].toArray w0 (Rt w0 (Value.agg (enc r).toArray)):=by
 refine ce Tryz.func124 ?_
 intro a hE
 have hM:=M.start w0
 unfold Th at hF
 refine Zb (Ya (cs:=cat [[vI p0.Field],enc p0.Box,enc p0.Mix,enc p0.Places,[vI p0.Rounds]]) hE hM Za ld rfl rfl fun b1 w a hM hE=>Zz hE hM ZL fun b3 w a hM hE=>Ze (Zb (Zd hE rfl ?_))); intro a hE
 obtain ⟨r5,e6,hF⟩:=bind_some hF
 refine Zx hE rfl (cbm Tryz.func172) (By _ p1 v1_1 (hM.rdo hv1_1) r5 e6) ?_
 rintro u7 w a ⟨_,rfl,hFr,hK⟩ hE
 have hM:=hM.add hK hFr
 obtain ⟨r8,e9,hF⟩:=bind_some hF
 refine Zx hE rfl (cbm Tryz.func171) (Jk _ r5 u7 (hM.sl (pre:=[]) noB) r8 e9) ?_
 rintro u10 w a ⟨_,rfl,hFr,hK⟩ hE
 have hM:=hM.add hK hFr
 obtain ⟨r11,e12,hF⟩:=bind_some hF
 refine Zx hE rfl (cbm Tryz.func173) (Hh _  r11 e12) ?_
 rintro v w a ⟨rfl,hK⟩ hE
 have hM:=hM.keep hK
 refine Zz hE hM ZL fun b13 w a hM hE=>Zc hE rfl fun a hE=>Zm (seg:=enc r11) (cs':=enc r11) hE hM Za rfl rfl rfl ZL (Flat.len _) (zle flq) (Flat.cell _) (Zh flq) fun w a hM hE=>Ze (wp_seq (Zb (Zc hE rfl fun a hE=>Ze ?_)))
 obtain ⟨j15,hl16,hF17⟩:=bind_some hF
 refine ZO (fun a w=>Env 26 a [(4,(ptr b3 0)),(6,(ptr b13 0))] ∧ M (Old w0) w0 w [raw b13 (enc j15),raw b3 (enc (Vector.replicate 32 (0 : UInt8)))]) ?_ ?_
 ·skip
  refine wp_block ?_
  have hM:=M.fst (l:=[_,_,_,_]) hM.pull4.pull4.pull3.pull3
  refine ZE (fun (s18 : (Vector UInt8 32) × Int) a w=>Env 26 a [(2,(ptr b1 0)),(4,(ptr b3 0)),(5,u10),(6,(ptr b13 0)),(7,vI s18.2)] ∧ M (Old w0) w0 w [raw b13 (enc s18.1),osl NoB (r8 : List (Vector UInt8 16)) u10,raw b3 (enc (Vector.replicate 32 (0 : UInt8))),raw b1 (cat [[vI p0.Field],enc p0.Box,enc p0.Mix,enc p0.Places,[vI p0.Rounds]])]) hl16 ⟨hE.sub ⟨rfl,rfl,rfl,rfl,rfl,trivial⟩,hM⟩ ?_
  rintro s18 a w ⟨hE,hM⟩ o21 hs19 hx20
  unfold VV at hs19
  refine wp_seq (Zb (Zd hE rfl fun a hE=>Zd hE rfl fun a hE=>Z5 hE rfl Tryz.underlying54 (hM.sl (pre:=[_]) noB) fun a hE=>Zi hE rfl rfl rfl fun a hE=>Ze ?_))
  refine Zo hE rfl ?_ ?_
  ·intro hb22
   have hs19:=Zt hs19 hb22
   refine wp_skip (Zp (wp_seq (wp_block ?_)))
   obtain ⟨x24,hi26,hs19⟩:=bix hs19
   obtain ⟨r27,e28,hs19⟩:=bind_some hs19
   refine ZX [18,19,20,21,22,23,24] Yu rfl rfl (by decide) rfl hE hM (qsP (fun z=>ZW z.E Za ld rfl Up rfl (z.M.rawAt3) cq (kr0 rfl)) (qsP (fun z=>ZW z.E Za ld rfl ZL rfl (z.M.rawAt0) (Flat.len _) (kr0 rfl)) (qsP (fun z=>Zj z.E Za ld rfl (kr0 rfl)) (qsP (fun z=>Zj z.E Za ld rfl (kr0 rfl)) (qsP (fun z=>ZZ z.E Za ld rfl rfl Tryz.underlying54 ZJ (z.M.sl (pre:=[_]) noB) hi26.1 (kr0 rfl)) (qsP (fun z=>ZW z.E Za ld rfl ZJ rfl (Yt (z.M.sl (pre:=[_]) noB) hi26.2) (Flat.len _) (kr0 rfl)) (qsP (fun z=>Yk z.E Za ld rfl (cbm Tryz.func174) (JO _ p0 s18.1 x24 r27 e28) (kc rfl)) qs0))))))) ?_
   ·intro a w u hE hM
    refine Zm (seg:=enc r27) (cs':=enc r27) hE hM Za rfl rfl rfl ZL (Flat.len _) (zle flq) (Flat.cell _) (Zh flq) fun w a hM hE=>Zg (Yb (Zp (wp_region_lit (Zd hE rfl fun a hE=>Zi hE rfl rfl rfl fun a hE=>Zc hE rfl fun a hE=>Zg (Zk ?_)))))
    exact ⟨_,(ois hs19),hE.sub ⟨rfl,rfl,rfl,rfl,rfl,trivial⟩,hM⟩
  ·intro hb22
   have hs19:=Zs hs19 hb22
   refine wp_exit (Zn (Zn (Ye ?_)))
   obtain rfl:=hx20 _ (ois hs19)
   refine Zk ?_
   have hM:=M.fst (l:=[_,_]) hM.pull2.pull1
   exact ⟨hE.sub ⟨rfl,rfl,trivial⟩,hM⟩
 ·skip
  rintro a w ⟨hE,hM⟩
  refine Zp (Zb (Zr hE rfl ZL rfl hM.rawAt0 (Flat.len _) ?_)); intro a hE
  have hM:=hM.pull1
  refine Zm (seg:=enc j15) (cs':=enc j15) hE hM Za rfl rfl rfl ZL (Flat.len _) (zle flq) (Flat.cell _) (Zh flq) fun w a hM hE=>Ze ?_
  obtain rfl:=Option.some.inj hF17
  have hq30 : Z6 Tryz.prog _ _ (.cell 4 35) _:=ZK hE rfl ZL rfl hM.rawAt0 (Flat.len _) rfl
  exact wp_ret (ZP hE rfl hq30 ⟨_,rfl,rfl,hM.kept⟩)
def Ww (p0 : (List UInt8)) : Option ((Vector UInt8 32)) :=
 (VN 8).bind fun r3=>(Th r3 p0).bind fun r5=>some r5
theorem Qm (w0 : World) (p0 : (List UInt8)) (v0_1 : Value) (hv0_1 : Ro w0 p0 [v0_1]) (r : (Vector UInt8 32)) (hF : Ww p0 = some r) :
  Calls Tryz.prog 63 [v0_1].toArray w0 (Rt w0 (Value.agg (enc r).toArray)):=by
 refine ce Tryz.func63 ?_
 intro a hE
 have hM:=M.start w0
 unfold Ww at hF
 refine Zb (Zz hE hM ZL fun b1 w a hM hE=>Ze (Zb ?_))
 obtain ⟨r3,e4,hF⟩:=bind_some hF
 refine Zx hE rfl (cbm Tryz.func125) (Hl _ 8 r3 e4) ?_
 rintro v w a ⟨rfl,hK⟩ hE
 have hM:=hM.keep hK
 refine Zd hE rfl ?_; intro a hE
 obtain ⟨r5,e6,hF⟩:=bind_some hF
 refine Zx hE rfl (cbm Tryz.func124) (Az _ r3 p0 v0_1 (hM.rdo hv0_1) r5 e6) ?_
 rintro v w a ⟨rfl,hK⟩ hE
 have hM:=hM.keep hK
 refine Zm (seg:=enc r5) (cs':=enc r5) hE hM Za rfl rfl rfl ZL (Flat.len _) (zle flq) (Flat.cell _) (Zh flq) fun w a hM hE=>Ze ?_
 obtain rfl:=Option.some.inj hF
 have hq7 : Z6 Tryz.prog _ _ (.cell 2 35) _:=ZK hE rfl ZL rfl hM.rawAt0 (Flat.len _) rfl
 exact wp_ret (ZP hE rfl hq7 ⟨_,rfl,rfl,hM.kept⟩)
def VY (p0 : GBlobs) (s20 : Int) : Option (Fl Int (Fl Unit Bool)) :=
 if (decide (s20 < (p0.Keys.length : Int))) = true then (((idx p0.Data s20).bind fun x29=>if (decide ((x29.length : Int) > 2000)) = true then (some true) else ((idx p0.Counts s20).bind fun x39=>if (decide (x39 < 1)) = true then (some true) else ((idx p0.Counts s20).bind fun x44=>if (decide (x44 > 1000000)) = true then (some true) else ((idx p0.Data s20).bind fun x49=>(Ww x49).bind fun r57=>(idx p0.Keys s20).bind fun x59=>some (!decide (r57 = x59))))) : Option (Bool)).bind fun j25=>if j25 = true then (some (Fl.ex (Fl.ex false))) else (some (Fl.nx (wr (s20 + 1))))) else (some (Fl.ex (Fl.nx ())))
def Tn (p0 : GBlobs) : Option (Bool) :=
 (if (decide ((p0.Keys.length : Int) > 32)) = true then (some true) else (if ((p0.Data.length : Int) != (p0.Keys.length : Int)) = true then (some true) else (if ((p0.Counts.length : Int) != (p0.Keys.length : Int)) = true then (some true) else ((Wi p0.Keys).bind fun r12=>some (!r12)))) : Option (Bool)).bind fun j3=>if j3 = true then (some false) else ((ZA (VY p0) 0).bind fun j16=>j16.el (fun s19=>some true) (fun r=>some r))
theorem AT (w0 : World) (p0 : GBlobs) (v0_1 : Value) (hv0_1 : Ro w0 p0.Keys [v0_1]) (v0_2 : Value) (hv0_2 : Ro w0 p0.Data [v0_2]) (v0_3 : Value) (hv0_3 : Ro w0 p0.Counts [v0_3]) (r : Bool) (hF : Tn p0 = some r) :
  Calls Tryz.prog 43 [(Value.agg (cat [[v0_1],[v0_2],[v0_3]]).toArray)].toArray w0 (Rt w0 (vT r)):=by
 refine ce Tryz.func43 ?_
 intro a hE
 have hM:=M.start w0
 unfold Tn at hF
 refine Zb (Ya (cs:=cat [[v0_1],[v0_2],[v0_3]]) hE hM Za ld rfl rfl fun b1 w a hM hE=>Zc hE rfl fun a hE=>Ze (Zb (Zy hE rfl (XL) fun a hE=>ZB (v:=v0_1) hE rfl To rfl (At.cat (pre:=[]) hM.rawAt0 cl0) fun a hE=>Z5 hE rfl Tryz.underlying29 (hM.rd hv0_1) fun a hE=>Zc hE rfl fun a hE=>Ze (wp_seq ?_))))
 obtain ⟨j3,hl4,hF5⟩:=bind_some hF
 refine ZN (fun a w=>Env 72 a [(1,(ptr b1 0)),(3,(vI (p0.Keys.length : Int))),(29,vT j3)] ∧ M (Old w0) w0 w [raw b1 (cat [[v0_1],[v0_2],[v0_3]])]) ?_ ?_
 ·skip
  refine wp_region_lit (Zd hE rfl fun a hE=>Zi hE rfl rfl rfl fun a hE=>Zd hE rfl ?_); intro a hE
  refine Wc (decide ((p0.Keys.length : Int) > 32)) (fun hb6=>?_) (fun hb6=>?_)
  ·have hl4:=Zt hl4 hb6
   refine Zl hE rfl (lkb rfl hb6) rfl (by decide) fun a hE=>Zl hE rfl (lkb rfl hb6) rfl (by decide) fun a hE=>Zl hE rfl (lkb rfl hb6) rfl (by decide) fun a hE=>Zl hE rfl (lkb rfl hb6) rfl (by decide) fun a hE=>Zl hE rfl (lkb rfl hb6) rfl (by decide) fun a hE=>Yx hE (lkb rfl hb6) rfl fun a hE=>Zd hE rfl fun a hE=>Zl hE rfl rfl rfl (by decide) fun a hE=>Zl hE rfl rfl rfl (by decide) fun a hE=>Zl hE rfl rfl rfl (by decide) fun a hE=>Zl hE rfl rfl rfl (by decide) fun a hE=>Zl hE rfl rfl rfl (by decide) ?_; intro a hE
   refine Yx hE rfl rfl fun a hE=>Zd hE rfl fun a hE=>Zl hE rfl rfl rfl (by decide) fun a hE=>Zl hE rfl rfl rfl (by decide) fun a hE=>Zl hE rfl rfl rfl (by decide) fun a hE=>Zl hE rfl rfl rfl (by decide) fun a hE=>Yx hE rfl rfl fun a hE=>Zg ?_
   obtain rfl:=Option.some.inj hl4
   refine Zk ?_
   exact ⟨hE.sub ⟨rfl,rfl,rfl,trivial⟩,hM⟩
  ·have hl4:=Zs hl4 hb6
   refine Zq hE (Zf hE rfl (lkb rfl hb6)) (by decide) rfl (We) fun a hE=>ZM (v:=v0_2) hE (Zf hE rfl (lkb rfl hb6)) (by decide) rfl U8 rfl (At.cat (pre:=[[v0_1]]) hM.rawAt0 ck) fun a hE=>T3 hE (Zf hE rfl (lkb rfl hb6)) (by decide) rfl Tryz.underlying23 (hM.rd hv0_2) fun a hE=>Zj hE (Zf hE rfl (lkb rfl hb6)) (by decide) rfl fun a hE=>Z9 hE (Zf hE rfl (lkb rfl hb6)) (by decide) rfl rfl rfl fun a hE=>X9 hE (lkb rfl hb6) rfl fun a hE=>Zd hE rfl ?_; intro a hE
   refine Wc ((p0.Data.length : Int) != (p0.Keys.length : Int)) (fun hb8=>?_) (fun hb8=>?_)
   ·have hl4:=Zt hl4 hb8
    refine Zl hE rfl (lkb rfl hb8) rfl (by decide) fun a hE=>Zl hE rfl (lkb rfl hb8) rfl (by decide) fun a hE=>Zl hE rfl (lkb rfl hb8) rfl (by decide) fun a hE=>Zl hE rfl (lkb rfl hb8) rfl (by decide) fun a hE=>Zl hE rfl (lkb rfl hb8) rfl (by decide) fun a hE=>Yx hE (lkb rfl hb8) rfl fun a hE=>Zd hE rfl fun a hE=>Zl hE rfl rfl rfl (by decide) fun a hE=>Zl hE rfl rfl rfl (by decide) fun a hE=>Zl hE rfl rfl rfl (by decide) fun a hE=>Zl hE rfl rfl rfl (by decide) fun a hE=>Yx hE rfl rfl ?_; intro a hE
    refine Zg ?_
    obtain rfl:=Option.some.inj hl4
    refine Zk ?_
    exact ⟨hE.sub ⟨rfl,rfl,rfl,trivial⟩,hM⟩
   ·have hl4:=Zs hl4 hb8
    refine Zq hE (Zf hE rfl (lkb rfl hb8)) (by decide) rfl (Wb) fun a hE=>ZM (v:=v0_3) hE (Zf hE rfl (lkb rfl hb8)) (by decide) rfl U7 rfl (At.cat (pre:=[[v0_1],[v0_2]]) hM.rawAt0 ck) fun a hE=>T3 hE (Zf hE rfl (lkb rfl hb8)) (by decide) rfl Tryz.underlying24 (hM.rd hv0_3) fun a hE=>Zj hE (Zf hE rfl (lkb rfl hb8)) (by decide) rfl fun a hE=>Z9 hE (Zf hE rfl (lkb rfl hb8)) (by decide) rfl rfl rfl fun a hE=>X9 hE (lkb rfl hb8) rfl fun a hE=>Zd hE rfl ?_; intro a hE
    refine Wc ((p0.Counts.length : Int) != (p0.Keys.length : Int)) (fun hb10=>?_) (fun hb10=>?_)
    ·have hl4:=Zt hl4 hb10
     refine Zl hE rfl (lkb rfl hb10) rfl (by decide) fun a hE=>Zl hE rfl (lkb rfl hb10) rfl (by decide) fun a hE=>Zl hE rfl (lkb rfl hb10) rfl (by decide) fun a hE=>Zl hE rfl (lkb rfl hb10) rfl (by decide) fun a hE=>Yx hE (lkb rfl hb10) rfl fun a hE=>Zg ?_
     obtain rfl:=Option.some.inj hl4
     refine Zk ?_
     exact ⟨hE.sub ⟨rfl,rfl,rfl,trivial⟩,hM⟩
    ·have hl4:=Zs hl4 hb10
     refine Zq hE (Zf hE rfl (lkb rfl hb10)) (by decide) rfl (XL) fun a hE=>ZM (v:=v0_1) hE (Zf hE rfl (lkb rfl hb10)) (by decide) rfl To rfl (At.cat (pre:=[]) hM.rawAt0 cl0) ?_; intro a hE
     obtain ⟨r12,e13,hl4⟩:=bind_some hl4
     refine Yk hE (Zf hE rfl (lkb rfl hb10)) (by decide) rfl (cbm Tryz.func118) (Ki _ p0.Keys v0_1 (hM.rdo hv0_1) r12 e13) ?_
     rintro v w a ⟨rfl,hK⟩ hE
     have hM:=hM.keep hK
     refine TF hE (Zf hE rfl (lkb rfl hb10)) (by decide) rfl fun a hE=>X9 hE (lkb rfl hb10) rfl fun a hE=>Zg ?_
     obtain rfl:=Option.some.inj hl4
     refine Zk ?_
     exact ⟨hE.sub ⟨rfl,rfl,rfl,trivial⟩,hM⟩
 ·skip
  rintro a w ⟨hE,hM⟩
  refine Zo hE rfl ?_ ?_
  ·intro hb15
   have hF5:=Zt hF5 hb15
   refine Zb (Zc hE rfl fun a hE=>Ze ?_)
   obtain rfl:=Option.some.inj hF5
   exact wp_ret (Zv (kr1 hE rfl rfl hM.kept))
  ·intro hb15
   have hF5:=Zs hF5 hb15
   refine wp_skip (Zp (wp_seq (Zb (Zc hE rfl fun a hE=>Ze ?_))))
   obtain ⟨j16,hl17,hF18⟩:=bind_some hF5
   refine ZO (fun a w=>∃ s19 : Unit,j16 = Fl.nx s19 ∧ Env 72 a [] ∧ M (Old w0) w0 w []) ?_ ?_
   ·skip
    refine wp_block ?_
    refine ZE (fun (s20 : Int) a w=>Env 72 a [(1,(ptr b1 0)),(3,(vI (p0.Keys.length : Int))),(4,vI s20)] ∧ M (Old w0) w0 w [raw b1 (cat [[v0_1],[v0_2],[v0_3]])]) hl17 ⟨hE.sub ⟨rfl,rfl,rfl,trivial⟩,hM⟩ ?_
    rintro s20 a w ⟨hE,hM⟩ o23 hs21 hx22
    unfold VY at hs21
    refine wp_seq (Zb (Zd hE rfl fun a hE=>Zd hE rfl fun a hE=>Zi hE rfl rfl rfl fun a hE=>Ze ?_))
    refine Zo hE rfl ?_ ?_
    ·intro hb24
     have hs21:=Zt hs21 hb24
     refine wp_skip (Zp (wp_seq (wp_block ?_)))
     obtain ⟨j25,hl26,hF27⟩:=bind_some hs21
     refine ZN (fun a w=>Env 72 a [(1,(ptr b1 0)),(3,(vI (p0.Keys.length : Int))),(4,vI s20),(71,vT j25)] ∧ M (Old w0) w0 w [raw b1 (cat [[v0_1],[v0_2],[v0_3]])]) ?_ ?_
     ·skip
      obtain ⟨x29,hi31,hl26⟩:=bix hl26
      obtain ⟨cs32,hs33,hA34⟩:=US hv0_2 hi31.2 -- ^
      obtain ⟨u35,rfl⟩:=VE hs33 -- ^
      have h36:=hs33 -- ^
      refine Wc (decide ((x29.length : Int) > 2000)) (fun hb37=>?_) (fun hb37=>?_)
      ·have hl26:=Zt hl26 hb37
       refine ZX [35,36,37,38,39,40,41,42,43,44,45,46,47,48,49,50,51,52,53,54,55,56,57,58,59,60,61,62,63,64,65,66,67,68,69,70,71] Yu rfl rfl (by decide) rfl hE hM (qsP (fun z=>Zq z.E Za ld rfl (We) (kr0 rfl)) (qsP (fun z=>ZM (v:=v0_2) z.E Za ld rfl U8 rfl (At.cat (pre:=[[v0_1]]) (z.M.rawAt0) ck) (kr0 rfl)) (qsP (fun z=>Zj z.E Za ld rfl (kr0 rfl)) (qsP (fun z=>ZZ z.E Za ld rfl rfl Tryz.underlying23 YU (z.M.rd hv0_2) hi31.1 (kr0 rfl)) (qsP (fun z=>ZM (v:=u35) z.E Za ld rfl YU rfl (z.M.atk hA34 (UY hv0_2 hi31.2)) (kr0 rfl)) (qsP (fun z=>T3 z.E Za ld rfl Tryz.underlying40 (z.M.rd h36) (kr0 rfl)) (qsP (fun z=>Z9 z.E Za ld rfl rfl rfl (kr0 rfl)) (qsP (fun z=>Zj z.E Za ld rfl (kr0 rfl)) (qsP (fun z=>Zl z.E rfl (lkb rfl hb37) rfl (by decide) (kr0 rfl)) (qsP (fun z=>Zl z.E rfl (lkb rfl hb37) rfl (by decide) (kr0 rfl)) (qsP (fun z=>Zl z.E rfl (lkb rfl hb37) rfl (by decide) (kr0 rfl)) (qsP (fun z=>Zl z.E rfl (lkb rfl hb37) rfl (by decide) (kr0 rfl)) (qsP (fun z=>Zl z.E rfl (lkb rfl hb37) rfl (by decide) (kr0 rfl)) (qsP (fun z=>Zl z.E rfl (lkb rfl hb37) rfl (by decide) (kr0 rfl)) (qsP (fun z=>Td z.E Za ld (lkb rfl hb37) rfl (kr0 rfl)) (qsP (fun z=>Zj z.E Za ld rfl (kr0 rfl)) (qsP (fun z=>Zl z.E rfl rfl rfl (by decide) (kr0 rfl)) (qsP (fun z=>Zl z.E rfl rfl rfl (by decide) (kr0 rfl)) (qsP (fun z=>Zl z.E rfl rfl rfl (by decide) (kr0 rfl)) (qsP (fun z=>Zl z.E rfl rfl rfl (by decide) (kr0 rfl)) (qsP (fun z=>Zl z.E rfl rfl rfl (by decide) (kr0 rfl)) (qsP (fun z=>Zl z.E rfl rfl rfl (by decide) (kr0 rfl)) (qsP (fun z=>Td z.E Za ld rfl rfl (kr0 rfl)) (qsP (fun z=>Zj z.E Za ld rfl (kr0 rfl)) (qsP (fun z=>Zl z.E rfl rfl rfl (by decide) (kr0 rfl)) (qsP (fun z=>Zl z.E rfl rfl rfl (by decide) (kr0 rfl)) (qsP (fun z=>Zl z.E rfl rfl rfl (by decide) (kr0 rfl)) (qsP (fun z=>Zl z.E rfl rfl rfl (by decide) (kr0 rfl)) (qsP (fun z=>Zl z.E rfl rfl rfl (by decide) (kr0 rfl)) (qsP (fun z=>Zl z.E rfl rfl rfl (by decide) (kr0 rfl)) (qsP (fun z=>Zl z.E rfl rfl rfl (by decide) (kr0 rfl)) (qsP (fun z=>Zl z.E rfl rfl rfl (by decide) (kr0 rfl)) (qsP (fun z=>Zl z.E rfl rfl rfl (by decide) (kr0 rfl)) (qsP (fun z=>Zl z.E rfl rfl rfl (by decide) (kr0 rfl)) (qsP (fun z=>Zl z.E rfl rfl rfl (by decide) (kr0 rfl)) (qsP (fun z=>Zl z.E rfl rfl rfl (by decide) (kr0 rfl)) (qsP (fun z=>Td z.E Za ld rfl rfl (kr0 rfl)) qs0))))))))))))))))))))))))))))))))))))) ?_
       ·intro a w u hE hM
        refine Zg ?_
        obtain rfl:=Option.some.inj hl26
        refine Zk ?_
        exact ⟨hE.sub ⟨rfl,rfl,rfl,rfl,trivial⟩,hM⟩
      ·have hl26:=Zs hl26 hb37
       obtain ⟨x39,hi41,hl26⟩:=bix hl26
       refine Wc (decide (x39 < 1)) (fun hb42=>?_) (fun hb42=>?_)
       ·have hl26:=Zt hl26 hb42
        refine ZX [35,36,37,38,39,40,41,42,43,44,45,46,47,48,49,50,51,52,53,54,55,56,57,58,59,60,61,62,63,64,65,66,67,68,69,70,71] Yu rfl rfl (by decide) rfl hE hM (qsP (fun z=>Zq z.E Za ld rfl (We) (kr0 rfl)) (qsP (fun z=>ZM (v:=v0_2) z.E Za ld rfl U8 rfl (At.cat (pre:=[[v0_1]]) (z.M.rawAt0) ck) (kr0 rfl)) (qsP (fun z=>Zj z.E Za ld rfl (kr0 rfl)) (qsP (fun z=>ZZ z.E Za ld rfl rfl Tryz.underlying23 YU (z.M.rd hv0_2) hi31.1 (kr0 rfl)) (qsP (fun z=>ZM (v:=u35) z.E Za ld rfl YU rfl (z.M.atk hA34 (UY hv0_2 hi31.2)) (kr0 rfl)) (qsP (fun z=>T3 z.E Za ld rfl Tryz.underlying40 (z.M.rd h36) (kr0 rfl)) (qsP (fun z=>Z9 z.E Za ld rfl rfl rfl (kr0 rfl)) (qsP (fun z=>Zj z.E Za ld rfl (kr0 rfl)) (qsP (fun z=>Zq z.E (Zf z.E rfl (lkb rfl hb37)) (by decide) rfl (Wb) (kr0 rfl)) (qsP (fun z=>ZM (v:=v0_3) z.E (Zf z.E rfl (lkb rfl hb37)) (by decide) rfl U7 rfl (At.cat (pre:=[[v0_1],[v0_2]]) (z.M.rawAt0) ck) (kr0 rfl)) (qsP (fun z=>Zj z.E (Zf z.E rfl (lkb rfl hb37)) (by decide) rfl (kr0 rfl)) (qsP (fun z=>ZZ z.E (Zf z.E rfl (lkb rfl hb37)) (by decide) rfl rfl Tryz.underlying24 ty2 (z.M.rd hv0_3) hi41.1 (kr0 rfl)) (qsP (fun z=>ZM (v:=(vI x39)) z.E (Zf z.E rfl (lkb rfl hb37)) (by decide) rfl ty2 rfl (Yt (z.M.rd hv0_3) hi41.2) (kr0 rfl)) (qsP (fun z=>Z9 z.E (Zf z.E rfl (lkb rfl hb37)) (by decide) rfl rfl rfl (kr0 rfl)) (qsP (fun z=>UW z.E Za ld (lkb rfl hb37) rfl (kr0 rfl)) (qsP (fun z=>Zj z.E Za ld rfl (kr0 rfl)) (qsP (fun z=>Zl z.E rfl (lkb rfl hb42) rfl (by decide) (kr0 rfl)) (qsP (fun z=>Zl z.E rfl (lkb rfl hb42) rfl (by decide) (kr0 rfl)) (qsP (fun z=>Zl z.E rfl (lkb rfl hb42) rfl (by decide) (kr0 rfl)) (qsP (fun z=>Zl z.E rfl (lkb rfl hb42) rfl (by decide) (kr0 rfl)) (qsP (fun z=>Zl z.E rfl (lkb rfl hb42) rfl (by decide) (kr0 rfl)) (qsP (fun z=>Zl z.E rfl (lkb rfl hb42) rfl (by decide) (kr0 rfl)) (qsP (fun z=>Td z.E Za ld (lkb rfl hb42) rfl (kr0 rfl)) (qsP (fun z=>Zj z.E Za ld rfl (kr0 rfl)) (qsP (fun z=>Zl z.E rfl rfl rfl (by decide) (kr0 rfl)) (qsP (fun z=>Zl z.E rfl rfl rfl (by decide) (kr0 rfl)) (qsP (fun z=>Zl z.E rfl rfl rfl (by decide) (kr0 rfl)) (qsP (fun z=>Zl z.E rfl rfl rfl (by decide) (kr0 rfl)) (qsP (fun z=>Zl z.E rfl rfl rfl (by decide) (kr0 rfl)) (qsP (fun z=>Zl z.E rfl rfl rfl (by decide) (kr0 rfl)) (qsP (fun z=>Zl z.E rfl rfl rfl (by decide) (kr0 rfl)) (qsP (fun z=>Zl z.E rfl rfl rfl (by decide) (kr0 rfl)) (qsP (fun z=>Zl z.E rfl rfl rfl (by decide) (kr0 rfl)) (qsP (fun z=>Zl z.E rfl rfl rfl (by decide) (kr0 rfl)) (qsP (fun z=>Zl z.E rfl rfl rfl (by decide) (kr0 rfl)) (qsP (fun z=>Zl z.E rfl rfl rfl (by decide) (kr0 rfl)) (qsP (fun z=>Td z.E Za ld rfl rfl (kr0 rfl)) qs0))))))))))))))))))))))))))))))))))))) ?_
        ·intro a w u hE hM
         refine Zg ?_
         obtain rfl:=Option.some.inj hl26
         refine Zk ?_
         exact ⟨hE.sub ⟨rfl,rfl,rfl,rfl,trivial⟩,hM⟩
       ·have hl26:=Zs hl26 hb42
        obtain ⟨x44,hi46,hl26⟩:=bix hl26
        refine Wc (decide (x44 > 1000000)) (fun hb47=>?_) (fun hb47=>?_)
        ·have hl26:=Zt hl26 hb47
         refine ZX [35,36,37,38,39,40,41,42,43,44,45,46,47,48,49,50,51,52,53,54,55,56,57,58,59,60,61,62,63,64,65,66,67,68,69,70,71] Yu rfl rfl (by decide) rfl hE hM (qsP (fun z=>Zq z.E Za ld rfl (We) (kr0 rfl)) (qsP (fun z=>ZM (v:=v0_2) z.E Za ld rfl U8 rfl (At.cat (pre:=[[v0_1]]) (z.M.rawAt0) ck) (kr0 rfl)) (qsP (fun z=>Zj z.E Za ld rfl (kr0 rfl)) (qsP (fun z=>ZZ z.E Za ld rfl rfl Tryz.underlying23 YU (z.M.rd hv0_2) hi31.1 (kr0 rfl)) (qsP (fun z=>ZM (v:=u35) z.E Za ld rfl YU rfl (z.M.atk hA34 (UY hv0_2 hi31.2)) (kr0 rfl)) (qsP (fun z=>T3 z.E Za ld rfl Tryz.underlying40 (z.M.rd h36) (kr0 rfl)) (qsP (fun z=>Z9 z.E Za ld rfl rfl rfl (kr0 rfl)) (qsP (fun z=>Zj z.E Za ld rfl (kr0 rfl)) (qsP (fun z=>Zq z.E (Zf z.E rfl (lkb rfl hb37)) (by decide) rfl (Wb) (kr0 rfl)) (qsP (fun z=>ZM (v:=v0_3) z.E (Zf z.E rfl (lkb rfl hb37)) (by decide) rfl U7 rfl (At.cat (pre:=[[v0_1],[v0_2]]) (z.M.rawAt0) ck) (kr0 rfl)) (qsP (fun z=>Zj z.E (Zf z.E rfl (lkb rfl hb37)) (by decide) rfl (kr0 rfl)) (qsP (fun z=>ZZ z.E (Zf z.E rfl (lkb rfl hb37)) (by decide) rfl rfl Tryz.underlying24 ty2 (z.M.rd hv0_3) hi41.1 (kr0 rfl)) (qsP (fun z=>ZM (v:=(vI x39)) z.E (Zf z.E rfl (lkb rfl hb37)) (by decide) rfl ty2 rfl (Yt (z.M.rd hv0_3) hi41.2) (kr0 rfl)) (qsP (fun z=>Z9 z.E (Zf z.E rfl (lkb rfl hb37)) (by decide) rfl rfl rfl (kr0 rfl)) (qsP (fun z=>UW z.E Za ld (lkb rfl hb37) rfl (kr0 rfl)) (qsP (fun z=>Zj z.E Za ld rfl (kr0 rfl)) (qsP (fun z=>Zq z.E (Zf z.E rfl (lkb rfl hb42)) (by decide) rfl (Wb) (kr0 rfl)) (qsP (fun z=>ZM (v:=v0_3) z.E (Zf z.E rfl (lkb rfl hb42)) (by decide) rfl U7 rfl (At.cat (pre:=[[v0_1],[v0_2]]) (z.M.rawAt0) ck) (kr0 rfl)) (qsP (fun z=>Zj z.E (Zf z.E rfl (lkb rfl hb42)) (by decide) rfl (kr0 rfl)) (qsP (fun z=>ZZ z.E (Zf z.E rfl (lkb rfl hb42)) (by decide) rfl rfl Tryz.underlying24 ty2 (z.M.rd hv0_3) hi46.1 (kr0 rfl)) (qsP (fun z=>ZM (v:=(vI x44)) z.E (Zf z.E rfl (lkb rfl hb42)) (by decide) rfl ty2 rfl (Yt (z.M.rd hv0_3) hi46.2) (kr0 rfl)) (qsP (fun z=>Z9 z.E (Zf z.E rfl (lkb rfl hb42)) (by decide) rfl rfl rfl (kr0 rfl)) (qsP (fun z=>UW z.E Za ld (lkb rfl hb42) rfl (kr0 rfl)) (qsP (fun z=>Zj z.E Za ld rfl (kr0 rfl)) (qsP (fun z=>Zl z.E rfl (lkb rfl hb47) rfl (by decide) (kr0 rfl)) (qsP (fun z=>Zl z.E rfl (lkb rfl hb47) rfl (by decide) (kr0 rfl)) (qsP (fun z=>Zl z.E rfl (lkb rfl hb47) rfl (by decide) (kr0 rfl)) (qsP (fun z=>Zl z.E rfl (lkb rfl hb47) rfl (by decide) (kr0 rfl)) (qsP (fun z=>Zl z.E rfl (lkb rfl hb47) rfl (by decide) (kr0 rfl)) (qsP (fun z=>Zl z.E rfl (lkb rfl hb47) rfl (by decide) (kr0 rfl)) (qsP (fun z=>Zl z.E rfl (lkb rfl hb47) rfl (by decide) (kr0 rfl)) (qsP (fun z=>Zl z.E rfl (lkb rfl hb47) rfl (by decide) (kr0 rfl)) (qsP (fun z=>Zl z.E rfl (lkb rfl hb47) rfl (by decide) (kr0 rfl)) (qsP (fun z=>Zl z.E rfl (lkb rfl hb47) rfl (by decide) (kr0 rfl)) (qsP (fun z=>Zl z.E rfl (lkb rfl hb47) rfl (by decide) (kr0 rfl)) (qsP (fun z=>Zl z.E rfl (lkb rfl hb47) rfl (by decide) (kr0 rfl)) (qsP (fun z=>Td z.E Za ld (lkb rfl hb47) rfl (kr0 rfl)) qs0))))))))))))))))))))))))))))))))))))) ?_
         ·intro a w u hE hM
          refine Zg ?_
          obtain rfl:=Option.some.inj hl26
          refine Zk ?_
          exact ⟨hE.sub ⟨rfl,rfl,rfl,rfl,trivial⟩,hM⟩
        ·have hl26:=Zs hl26 hb47
         obtain ⟨x49,hi51,hl26⟩:=bix hl26
         obtain ⟨cs52,hs53,hA54⟩:=US hv0_2 hi51.2 -- ^
         obtain ⟨u55,rfl⟩:=VE hs53 -- ^
         have h56:=hs53 -- ^
         obtain ⟨r57,e58,hl26⟩:=bind_some hl26
         obtain ⟨x59,hi61,hl26⟩:=bix hl26
         refine ZX [35,36,37,38,39,40,41,42,43,44,45,46,47,48,49,50,51,52,53,54,55,56,57,58,59,60,61,62,63,64,65,66,67,68,69,70,71] Yu rfl rfl (by decide) rfl hE hM (qsP (fun z=>Zq z.E Za ld rfl (We) (kr0 rfl)) (qsP (fun z=>ZM (v:=v0_2) z.E Za ld rfl U8 rfl (At.cat (pre:=[[v0_1]]) (z.M.rawAt0) ck) (kr0 rfl)) (qsP (fun z=>Zj z.E Za ld rfl (kr0 rfl)) (qsP (fun z=>ZZ z.E Za ld rfl rfl Tryz.underlying23 YU (z.M.rd hv0_2) hi31.1 (kr0 rfl)) (qsP (fun z=>ZM (v:=u35) z.E Za ld rfl YU rfl (z.M.atk hA34 (UY hv0_2 hi31.2)) (kr0 rfl)) (qsP (fun z=>T3 z.E Za ld rfl Tryz.underlying40 (z.M.rd h36) (kr0 rfl)) (qsP (fun z=>Z9 z.E Za ld rfl rfl rfl (kr0 rfl)) (qsP (fun z=>Zj z.E Za ld rfl (kr0 rfl)) (qsP (fun z=>Zq z.E (Zf z.E rfl (lkb rfl hb37)) (by decide) rfl (Wb) (kr0 rfl)) (qsP (fun z=>ZM (v:=v0_3) z.E (Zf z.E rfl (lkb rfl hb37)) (by decide) rfl U7 rfl (At.cat (pre:=[[v0_1],[v0_2]]) (z.M.rawAt0) ck) (kr0 rfl)) (qsP (fun z=>Zj z.E (Zf z.E rfl (lkb rfl hb37)) (by decide) rfl (kr0 rfl)) (qsP (fun z=>ZZ z.E (Zf z.E rfl (lkb rfl hb37)) (by decide) rfl rfl Tryz.underlying24 ty2 (z.M.rd hv0_3) hi41.1 (kr0 rfl)) (qsP (fun z=>ZM (v:=(vI x39)) z.E (Zf z.E rfl (lkb rfl hb37)) (by decide) rfl ty2 rfl (Yt (z.M.rd hv0_3) hi41.2) (kr0 rfl)) (qsP (fun z=>Z9 z.E (Zf z.E rfl (lkb rfl hb37)) (by decide) rfl rfl rfl (kr0 rfl)) (qsP (fun z=>UW z.E Za ld (lkb rfl hb37) rfl (kr0 rfl)) (qsP (fun z=>Zj z.E Za ld rfl (kr0 rfl)) (qsP (fun z=>Zq z.E (Zf z.E rfl (lkb rfl hb42)) (by decide) rfl (Wb) (kr0 rfl)) (qsP (fun z=>ZM (v:=v0_3) z.E (Zf z.E rfl (lkb rfl hb42)) (by decide) rfl U7 rfl (At.cat (pre:=[[v0_1],[v0_2]]) (z.M.rawAt0) ck) (kr0 rfl)) (qsP (fun z=>Zj z.E (Zf z.E rfl (lkb rfl hb42)) (by decide) rfl (kr0 rfl)) (qsP (fun z=>ZZ z.E (Zf z.E rfl (lkb rfl hb42)) (by decide) rfl rfl Tryz.underlying24 ty2 (z.M.rd hv0_3) hi46.1 (kr0 rfl)) (qsP (fun z=>ZM (v:=(vI x44)) z.E (Zf z.E rfl (lkb rfl hb42)) (by decide) rfl ty2 rfl (Yt (z.M.rd hv0_3) hi46.2) (kr0 rfl)) (qsP (fun z=>Z9 z.E (Zf z.E rfl (lkb rfl hb42)) (by decide) rfl rfl rfl (kr0 rfl)) (qsP (fun z=>UW z.E Za ld (lkb rfl hb42) rfl (kr0 rfl)) (qsP (fun z=>Zj z.E Za ld rfl (kr0 rfl)) (qsP (fun z=>Zq z.E (Zf z.E rfl (lkb rfl hb47)) (by decide) rfl (We) (kr0 rfl)) (qsP (fun z=>ZM (v:=v0_2) z.E (Zf z.E rfl (lkb rfl hb47)) (by decide) rfl U8 rfl (At.cat (pre:=[[v0_1]]) (z.M.rawAt0) ck) (kr0 rfl)) (qsP (fun z=>Zj z.E (Zf z.E rfl (lkb rfl hb47)) (by decide) rfl (kr0 rfl)) (qsP (fun z=>ZZ z.E (Zf z.E rfl (lkb rfl hb47)) (by decide) rfl rfl Tryz.underlying23 YU (z.M.rd hv0_2) hi51.1 (kr0 rfl)) (qsP (fun z=>ZM (v:=u55) z.E (Zf z.E rfl (lkb rfl hb47)) (by decide) rfl YU rfl (z.M.atk hA54 (UY hv0_2 hi51.2)) (kr0 rfl)) (qsP (fun z=>Yk z.E (Zf z.E rfl (lkb rfl hb47)) (by decide) rfl (cbm Tryz.func63) (Qm _ x49 u55 (z.M.rdo h56) r57 e58) (kc rfl)) (qsP (fun z=>Zq z.E (Zf z.E rfl (lkb rfl hb47)) (by decide) rfl (XL) (kr0 rfl)) (qsP (fun z=>ZM (v:=v0_1) z.E (Zf z.E rfl (lkb rfl hb47)) (by decide) rfl To rfl (At.cat (pre:=[]) (z.M.rawAt0) cl0) (kr0 rfl)) (qsP (fun z=>Zj z.E (Zf z.E rfl (lkb rfl hb47)) (by decide) rfl (kr0 rfl)) (qsP (fun z=>ZZ z.E (Zf z.E rfl (lkb rfl hb47)) (by decide) rfl rfl Tryz.underlying29 ZL (z.M.rd hv0_1) hi61.1 (kr0 rfl)) (qsP (fun z=>ZW z.E (Zf z.E rfl (lkb rfl hb47)) (by decide) rfl ZL rfl (Yt (z.M.rd hv0_1) hi61.2) (Flat.len _) (kr0 rfl)) (qsP (fun z=>s_neA z.E (Zf z.E rfl (lkb rfl hb47)) (by decide) rfl rfl (Bw Tryz.underlying35 ty5 rfl false rfl (by decide) (Jx Tryz.underlying5)) (by decide) (by kernel_rfl) (kr0 rfl)) (qsP (fun z=>UW z.E Za ld (lkb rfl hb47) rfl (kr0 rfl)) qs0))))))))))))))))))))))))))))))))))))) ?_
         ·intro a w u hE hM
          refine Zg ?_
          obtain rfl:=Option.some.inj hl26
          refine Zk ?_
          exact ⟨hE.sub ⟨rfl,rfl,rfl,rfl,trivial⟩,hM⟩
     ·skip
      rintro a w ⟨hE,hM⟩
      refine Zo hE rfl ?_ ?_
      ·intro hb63
       have hF27:=Zt hF27 hb63
       refine Zb (Zc hE rfl fun a hE=>Ze ?_)
       obtain rfl:=hx22 _ (ois hF27)
       obtain rfl:=Option.some.inj hF18
       exact wp_ret (Xk (Zv (Zv (Xk (Zv (Zv (kr1 hE rfl rfl hM.kept)))))))
      ·intro hb63
       have hF27:=Zs hF27 hb63
       refine wp_skip (Yb (Zp (wp_region_lit (Zd hE rfl fun a hE=>Zi hE rfl rfl rfl fun a hE=>Zc hE rfl fun a hE=>Zg (Zk ?_)))))
       exact ⟨_,(ois hF27),hE.sub ⟨rfl,rfl,rfl,trivial⟩,hM⟩
    ·intro hb24
     have hs21:=Zs hs21 hb24
     refine wp_exit (Zn (Zn (Ye ?_)))
     obtain rfl:=hx22 _ (ois hs21)
     refine Zk ?_
     have hM:=M.fst (l:=[]) hM
     exact ⟨(),rfl,hE.sub trivial,hM⟩
   ·skip
    rintro a w ⟨s19,ht,hE,hM⟩
    subst ht
    have hF18:=Ta hF18
    refine Zp (Zb (Zc hE rfl fun a hE=>Ze ?_))
    obtain rfl:=Option.some.inj hF18
    exact wp_ret (kr1 hE rfl rfl hM.kept)
def WE (p0 : (List (Vector UInt8 32))) (p1 : (Vector UInt8 32)) (s6 : Int × Int) : Option (Fl (Int × Int) Int) :=
 if (decide (s6.2 < (p0.length : Int))) = true then ((((idx p0 s6.2).bind fun x18=>(WI x18 p1).bind fun r21=>some r21 : Option (Bool)).bind fun j14=>(if j14 = true then (some (wr (s6.1 + 1))) else (some s6.1) : Option (Int)).bind fun j24=>some j24 : Option (Int)).bind fun j11=>some (Fl.nx (j11,wr (s6.2 + 1)))) else (some (Fl.ex s6.1))
def VK (p0 : (List (Vector UInt8 32))) (p1 : (Vector UInt8 32)) : Option (Int) :=
 (ZA (WE p0 p1) (0,0)).bind fun j3=>some j3
theorem He (w0 : World) (p0 : (List (Vector UInt8 32))) (v0_1 : Value) (hv0_1 : Ro w0 p0 [v0_1]) (p1 : (Vector UInt8 32)) (r : Int) (hF : VK p0 p1 = some r) :
  Calls Tryz.prog 64 [v0_1,(Value.agg (enc p1).toArray)].toArray w0 (Rt w0 (vI r)):=by
 refine ce Tryz.func64 ?_
 intro a hE
 have hM:=M.start w0
 unfold VK at hF
 refine Zb (Ya (cs:=enc p1) hE hM Za ld rfl rfl fun b1 w a hM hE=>Zc hE rfl fun a hE=>Ze (Zb (Zc hE rfl fun a hE=>Ze (wp_seq (Zb (Zc hE rfl fun a hE=>Ze ?_))))))
 obtain ⟨j3,hl4,hF5⟩:=bind_some hF
 refine ZO (fun a w=>Env 22 a [(5,vI j3)] ∧ M (Old w0) w0 w []) ?_ ?_
 ·skip
  refine wp_block ?_
  refine ZE (fun (s6 : Int × Int) a w=>Env 22 a [(0,v0_1),(3,(ptr b1 0)),(5,vI s6.1),(6,vI s6.2)] ∧ M (Old w0) w0 w [raw b1 (enc p1)]) hl4 ⟨hE.sub ⟨rfl,rfl,rfl,rfl,trivial⟩,hM⟩ ?_
  rintro s6 a w ⟨hE,hM⟩ o9 hs7 hx8
  unfold WE at hs7
  refine wp_seq (Zb (Zd hE rfl fun a hE=>Zd hE rfl fun a hE=>Z5 hE rfl Tryz.underlying29 (hM.rd hv0_1) fun a hE=>Zi hE rfl rfl rfl fun a hE=>Ze ?_))
  refine Zo hE rfl ?_ ?_
  ·intro hb10
   have hs7:=Zt hs7 hb10
   refine wp_skip (Zp ?_)
   obtain ⟨j11,hl12,hF13⟩:=bind_some hs7
   refine ZN (fun a w=>Env 22 a [(0,v0_1),(3,(ptr b1 0)),(5,vI j11),(6,vI s6.2)] ∧ M (Old w0) w0 w [raw b1 (enc p1)]) ?_ ?_
   ·skip
    refine wp_block ?_
    obtain ⟨j14,hl15,hF16⟩:=bind_some hl12
    refine ZN (fun a w=>Env 22 a [(0,v0_1),(3,(ptr b1 0)),(5,vI s6.1),(6,vI s6.2),(18,vT j14)] ∧ M (Old w0) w0 w [raw b1 (enc p1)]) ?_ ?_
    ·skip
     obtain ⟨x18,hi20,hl15⟩:=bix hl15
     obtain ⟨r21,e22,hl15⟩:=bind_some hl15
     refine ZX [13,14,15,16,17,18] Yu rfl rfl (by decide) rfl hE hM (qsP (fun z=>Zj z.E Za ld rfl (kr0 rfl)) (qsP (fun z=>Zj z.E Za ld rfl (kr0 rfl)) (qsP (fun z=>ZZ z.E Za ld rfl rfl Tryz.underlying29 ZL (z.M.rd hv0_1) hi20.1 (kr0 rfl)) (qsP (fun z=>ZW z.E Za ld rfl ZL rfl (Yt (z.M.rd hv0_1) hi20.2) (Flat.len _) (kr0 rfl)) (qsP (fun z=>ZW z.E Za ld rfl ZL rfl (z.M.rawAt0) (Flat.len _) (kr0 rfl)) (qsP (fun z=>Yk z.E Za ld rfl (cbm Tryz.func126) (Q1 _ x18 p1 r21 e22) (kc rfl)) qs0)))))) ?_
     ·intro a w u hE hM
      refine Zg ?_
      obtain rfl:=Option.some.inj hl15
      refine Zk ?_
      exact ⟨hE.sub ⟨rfl,rfl,rfl,rfl,rfl,trivial⟩,hM⟩
    ·skip
     rintro a w ⟨hE,hM⟩
     obtain ⟨j24,hl25,hF26⟩:=bind_some hF16
     refine ZO (fun a w=>Env 22 a [(0,v0_1),(3,(ptr b1 0)),(5,vI j24),(6,vI s6.2)] ∧ M (Old w0) w0 w [raw b1 (enc p1)]) ?_ ?_
     ·skip
      refine Zo hE rfl ?_ ?_
      ·intro hb27
       have hl25:=Zt hl25 hb27
       refine wp_region_lit (Zd hE rfl fun a hE=>Zi hE rfl rfl rfl fun a hE=>Zc hE rfl fun a hE=>Zg ?_)
       obtain rfl:=Option.some.inj hl25
       refine Zk ?_
       exact ⟨hE.sub ⟨rfl,rfl,rfl,rfl,trivial⟩,hM⟩
      ·intro hb27
       have hl25:=Zs hl25 hb27
       refine wp_skip ?_
       obtain rfl:=Option.some.inj hl25
       refine Zk ?_
       exact ⟨hE.sub ⟨rfl,rfl,rfl,rfl,trivial⟩,hM⟩
     ·skip
      rintro a w ⟨hE,hM⟩
      refine Yb ?_
      obtain rfl:=Option.some.inj hF26
      refine Zk ?_
      exact ⟨hE.sub ⟨rfl,rfl,rfl,rfl,trivial⟩,hM⟩
   ·skip
    rintro a w ⟨hE,hM⟩
    refine wp_region_lit (Zd hE rfl fun a hE=>Zi hE rfl rfl rfl fun a hE=>Zc hE rfl fun a hE=>Zg (Zk ?_))
    exact ⟨_,(ois hF13),hE.sub ⟨rfl,rfl,rfl,rfl,trivial⟩,hM⟩
  ·intro hb10
   have hs7:=Zs hs7 hb10
   refine wp_exit (Zn (Zn (Ye ?_)))
   obtain rfl:=hx8 _ (ois hs7)
   refine Zk ?_
   have hM:=M.fst (l:=[]) hM
   exact ⟨hE.sub ⟨rfl,trivial⟩,hM⟩
 ·skip
  rintro a w ⟨hE,hM⟩
  refine Zp (Zb (Zd hE rfl fun a hE=>Zc hE rfl fun a hE=>Ze ?_))
  obtain rfl:=Option.some.inj hF5
  exact wp_ret (kr1 hE rfl rfl hM.kept)
def Tx (p0 : (List Int)) : Option ((List Int)) :=
 (app 8 ([] : List Int) p0).bind fun l3=>some (([] : List Int) ++ p0)
theorem BH (w0 : World) (p0 : (List Int)) (v0_1 : Value) (hv0_1 : Ro w0 p0 [v0_1]) (r : (List Int)) (hF : Tx p0 = some r) :
  Calls Tryz.prog 119 [v0_1].toArray w0 (fun en w'=>∃ v,en = .returned v ∧ (∃ (y1 : Value),v = y1 ∧ Fr w0 w' [osl NoB (r : List Int) y1] ∧ Kept (Old w0) w0 w')):=by
 refine ce Tryz.func119 ?_
 intro a hE
 have hM:=M.start w0
 unfold Tx at hF
 refine Zb (Zc hE rfl fun a hE=>Ze (Zb (Yr (xs:=[]) (l:=([] : List Int)) (vs:=[]) hE hM Za ld rfl rfl Tryz.underlying24 ty2 rfl (by decide) rfl fun u1 w a hM hE=>Zd hE rfl ?_))); intro a hE
 obtain ⟨l3,e4,hF⟩:=bind_some hF
 have e7:=(Yj e4).1
 refine Z2 hE hM Za ld rfl rfl (hM.rd hv0_1) Tryz.underlying24 ty2 rfl (by decide) e7 fun u5 w a hM hE=>Zc hE rfl fun a hE=>Ze ?_
 obtain rfl:=Option.some.inj hF
 exact wp_ret (ZP hE rfl (ZU hE rfl) ⟨_,rfl,u5,rfl,hM.outF (Yf Xi),hM.kept⟩)
def Ui (p0 : GBlobs) (s25 : (List (List UInt8)) × Int) : Option (Fl ((List (List UInt8)) × Int) (List (List UInt8))) :=
 if (decide (s25.2 < (p0.Data.length : Int))) = true then ((idx p0.Data s25.2).bind fun x34=>(WL x34).bind fun r42=>(app 24 s25.1 ([r42] : List (List UInt8))).bind fun l48=>some (Fl.nx ((s25.1 ++ ([r42] : List (List UInt8))),wr (s25.2 + 1)))) else (some (Fl.ex s25.1))
def UP (p0 : GBlobs) : Option (GBlobs) :=
 (app 32 ([] : List (Vector UInt8 32)) p0.Keys).bind fun l8=>(Tx p0.Counts).bind fun r13=>(ZA (Ui p0) ([],0)).bind fun j20=>some (⟨(([] : List (Vector UInt8 32)) ++ p0.Keys),j20,r13⟩ : GBlobs)
theorem BE (w0 : World) (p0 : GBlobs) (v0_1 : Value) (hv0_1 : Ro w0 p0.Keys [v0_1]) (v0_2 : Value) (hv0_2 : Ro w0 p0.Data [v0_2]) (v0_3 : Value) (hv0_3 : Ro w0 p0.Counts [v0_3]) (r : GBlobs) (hF : UP p0 = some r) :
  Calls Tryz.prog 45 [(Value.agg (cat [[v0_1],[v0_2],[v0_3]]).toArray)].toArray w0 (fun en w'=>∃ v,en = .returned v ∧ (∃ (y1 : Value) (y2 : Value) (y3 : Value),v = (Value.agg (cat [[y1],[y2],[y3]]).toArray) ∧ Fr w0 w' [osl NoB (r.Keys : List (Vector UInt8 32)) y1,osl NoB (r.Data : List (List UInt8)) y2,osl NoB (r.Counts : List Int) y3] ∧ Kept (Old w0) w0 w')):=by
 refine ce Tryz.func45 ?_
 intro a hE
 have hM:=M.start w0
 unfold UP at hF
 refine Zb (Ya (cs:=cat [[v0_1],[v0_2],[v0_3]]) hE hM Za ld rfl rfl fun b1 w a hM hE=>Zz hE hM Yv fun b3 w a hM hE=>Ze (wp_seq ?_))
 obtain ⟨l8,e9,hF⟩:=bind_some hF
 obtain ⟨r13,e14,hF⟩:=bind_some hF
 refine Yz (its:=[raw b3 (cat [[(Value.slice none 0 0)],[(Value.slice none 0 0)],[(Value.slice none 0 0)]]),raw b1 (cat [[v0_1],[v0_2],[v0_3]])]) (mk:=([mkN [(3,fun v=>osl NoB ((([] : List (Vector UInt8 32)) ++ p0.Keys) : List (Vector UInt8 32)) v),(0,fun v=>osl NoB (([] : List (Vector UInt8 32)) : List (Vector UInt8 32)) v)],mkO 6 (fun v=>osl NoB (r13 : List Int) v),mkO 8 (fun v=>VZ v (cat [[(Value.slice none 0 0)],[(Value.slice none 0 0)],[(Value.slice none 0 0)]]))] : Mk)) [5,6,7,8,9,10,11,12,3] Yu rfl rfl (by decide) rfl hE (fun u=>M.qE (M.qE (M.qE (M.q0 hM.drew u) emO) emO) emN) (qsM (pr:=fun v=>True) ?_ (qsP (fun z=>Zq z.E Za ld rfl (XL) (kr0 rfl)) (qsP (v:=v0_1) ?_ (qsM (pr:=fun v=>True) ?_ (qsP (fun z=>Zq z.E Za ld rfl (Wb) (kr0 rfl)) (qsP (v:=v0_3) ?_ (qsM (pr:=fun v=>True) ?_ (qsD (ds:=[3,6]) (f:=fun us=>(Value.agg (cat [[(us.getD 0 undef)],[(Value.slice none 0 0)],[(us.getD 1 undef)]]).toArray)) ?_ (qsM (pr:=fun v=>True) ?_ qs0))))))))) ?_
 ·intro a w ux5 D z
  have hE:=z.E
  have hD : D 0 = false:=z.F
  have hM:=z.M
  refine Yr (xs:=[]) (l:=([] : List (Vector UInt8 32))) (vs:=[]) hE hM Za ld rfl rfl Tryz.underlying29 ZL rfl (by decide) rfl ?_; intro u6 w a hM hE
  have hq3 : D 3 = false:=Qg (j:=3) (k:=0) z.c rfl rfl rfl hD
  exact ⟨_,_,rfl,hE,M.qPut (p:=mkN [(3,fun v=>osl NoB ((([] : List (Vector UInt8 32)) ++ p0.Keys) : List (Vector UInt8 32)) v),(0,fun v=>osl NoB (([] : List (Vector UInt8 32)) : List (Vector UInt8 32)) v)]) (its:=[raw b3 (cat [[(Value.slice none 0 0)],[(Value.slice none 0 0)],[(Value.slice none 0 0)]]),raw b1 (cat [[v0_1],[v0_2],[v0_3]])]) (mk1:=[]) (mk2:=[_,_]) hM rfl (Qc (U6 hq3 (U6 hD TC))) (V1 (l:=[_]) (U6 hq3 TC)),trivial⟩
 ·intro a w ux5 D z
  have hE:=z.E
  have hM:=z.M
  exact ZB (v:=v0_1) hE rfl To rfl (At.cat (pre:=[]) hM.rawAt1 cl0) fun a hE=>⟨Kept.refl _ _,_,rfl,hE⟩
 ·intro a w ux5 D z
  have hE:=z.E
  have hD : D 3 = false:=z.F
  have d0 : D 0 = true:=z.p 0 _ rfl rfl
  have hM:=(z.M.chnF (pre:=[_,_]) hD).chnT (pre:=[_,_]) d0
  obtain ⟨e12,rfl⟩:=Yj e9
  have hM:=hM.pull2
  exact Z2 hE hM Za ld rfl rfl (hM.rd hv0_1) Tryz.underlying29 ZL rfl (by decide) e12 fun u10 w a hM hE=>⟨_,_,rfl,hE,M.qTogS (p:=mkN [(3,fun v=>osl NoB ((([] : List (Vector UInt8 32)) ++ p0.Keys) : List (Vector UInt8 32)) v),(0,fun v=>osl NoB (([] : List (Vector UInt8 32)) : List (Vector UInt8 32)) v)]) (its:=[raw b3 (cat [[(Value.slice none 0 0)],[(Value.slice none 0 0)],[(Value.slice none 0 0)]]),raw b1 (cat [[v0_1],[v0_2],[v0_3]])]) (mk1:=[]) (mk2:=[_,_]) hM rfl (V1 (l:=[]) TC),trivial⟩
 ·intro a w ux5 D z
  have hE:=z.E
  have hM:=z.M
  exact ZB (v:=v0_3) hE rfl U7 rfl (At.cat (pre:=[[v0_1],[v0_2]]) hM.rawAt1 ck) fun a hE=>⟨Kept.refl _ _,_,rfl,hE⟩
 ·intro a w ux5 D z
  have hE:=z.E
  have hD : D 6 = false:=z.F
  have hM0:=z.M
  have hM:=z.M
  refine Zx hE rfl (cbm Tryz.func119) (BH _ p0.Counts v0_3 (hM.rdo hv0_3) r13 e14) ?_
  rintro _ w a ⟨_,rfl,hFr,hK⟩ hE
  have hM:=hM0.add hK hFr
  exact ⟨_,_,rfl,hE,M.qFill (mk1:=[_]) (mk2:=[_]) (f:=(fun v=>osl NoB (r13 : List Int) v)) hM rfl hD,trivial⟩
 ·intro a w ux5 D z
  have hE:=z.E
  have d3 : D 3 = true:=z.p 0 _ rfl rfl
  have d6 : D 6 = true:=z.p 1 _ rfl rfl
  have hM:=(z.M.chnT (pre:=[_,_]) d3).sure (pre:=[_,_,_]) d6
  exact XM (parts:=[(0,.tmp 8),(2,.tmp 11)]) (vs:=[(0,(ux5 3)),(2,(ux5 6))]) (cs:=cat [[(ux5 3)],[(Value.slice none 0 0)],[(ux5 6)]]) hE Za ld rfl rfl Yv AH (Xx (pre:=[]) (seg:=[(Value.slice none 0 0)]) (seg':=[(ux5 3)]) (post:=[[(Value.slice none 0 0)],[(Value.slice none 0 0)]]) rfl cl0 rfl rfl (YC (hM.sl (pre:=[_,_]) noB)) (Xx (pre:=[[(ux5 3)],[(Value.slice none 0 0)]]) (seg:=[(Value.slice none 0 0)]) (seg':=[(ux5 6)]) (post:=[]) rfl ck rfl rfl (YC (hM.sl (pre:=[_,_,_]) noB)) Vv)) fun a hE=>⟨Kept.refl _ _,(allC d3 (allC d6 allN)),_,rfl,hE⟩
 ·intro a w ux5 D z
  have hE:=z.E
  have hD : D 8 = false:=z.F
  have hM:=z.M
  refine Zz hE hM Yv ?_; intro b16 w a hM hE
  have hM:=hM.pack1 (it:=VZ _ (cat [[(Value.slice none 0 0)],[(Value.slice none 0 0)],[(Value.slice none 0 0)]])) (fun w w' fp ⟨b',e,k⟩ hb=>⟨b',e,YW w w' fp k hb⟩) (fun fp k=>⟨_,rfl,k⟩)
  exact ⟨_,_,rfl,hE,M.qFill (mk1:=[_,_]) (mk2:=[]) (f:=fun v=>VZ v (cat [[(Value.slice none 0 0)],[(Value.slice none 0 0)],[(Value.slice none 0 0)]])) hM rfl hD,trivial⟩
 ·intro a w ux5 D hE hM hG hall
  have d3:=hall 3 (by decide)
  have d6:=hall 6 (by decide)
  have d8:=hall 8 (by decide)
  have hM:=(((hM.chnT (pre:=[_,_]) d3).sure (pre:=[_,_,_]) d6).sure (pre:=[_,_,_,_]) d8).pull
  obtain ⟨_,⟨b18,f19,_⟩,_⟩:=hM.head
  have hM:=hM.pack1 YW (it:=raw b18 (cat [[(Value.slice none 0 0)],[(Value.slice none 0 0)],[(Value.slice none 0 0)]])) (fun fp ⟨b2,e2,k2⟩=>by rw [f19] at e2; simp [ptr] at e2; subst e2; exact k2)
  have hE:=hE.setq (t:=3) rfl f19
  refine Zm (seg:=cat [[(ux5 3)],[(Value.slice none 0 0)],[(ux5 6)]]) (cs':=cat [[(ux5 3)],[(Value.slice none 0 0)],[(ux5 6)]]) hE hM Za rfl rfl rfl Yv cq (Nat.le_of_eq ((Nat.zero_add _).trans (Eq.trans cq (Eq.symm cq)))) (Yq (cc1 (Rep.cell (hM.sl (pre:=[_,_,_]) noB)) (cc1 Xp (cc1 (Rep.cell (hM.sl (pre:=[_,_,_,_]) noB)) cc0)))) (Zh (Eq.trans cq (Eq.symm cq))) fun w a hM hE=>Zg (Zp (wp_seq (Zb (Zc hE rfl fun a hE=>Ze ?_))))
  obtain ⟨j20,hl21,hF22⟩:=bind_some hF
  refine ZO (fun a w=>∃ (u23 : Value),Env 32 a [(2,(ptr b3 0)),(3,(ptr b18 0))] ∧ M (Old w0) w0 w [raw b18 (cat [[(ux5 3)],[u23],[(ux5 6)]]),raw b3 (cat [[(Value.slice none 0 0)],[(Value.slice none 0 0)],[(Value.slice none 0 0)]]),osl NoB ((([] : List (Vector UInt8 32)) ++ p0.Keys) : List (Vector UInt8 32)) (ux5 3),osl NoB (r13 : List Int) (ux5 6),osl NoB (j20 : List (List UInt8)) u23]) ?_ ?_
  ·skip
   refine wp_block ?_
   have hM:=(((((M.nilS (α:=(List UInt8)) NoB noB hM).pull5).pull5).pull5).pull5).pull5
   refine ZE (fun (s25 : (List (List UInt8)) × Int) a w=>∃ (u26 : Value),Env 32 a [(1,(ptr b1 0)),(2,(ptr b3 0)),(3,(ptr b18 0)),(4,vI s25.2)] ∧ M (Old w0) w0 w [raw b18 (cat [[(ux5 3)],[u26],[(ux5 6)]]),raw b3 (cat [[(Value.slice none 0 0)],[(Value.slice none 0 0)],[(Value.slice none 0 0)]]),raw b1 (cat [[v0_1],[v0_2],[v0_3]]),osl NoB ((([] : List (Vector UInt8 32)) ++ p0.Keys) : List (Vector UInt8 32)) (ux5 3),osl NoB (r13 : List Int) (ux5 6),osl NoB (s25.1 : List (List UInt8)) u26]) hl21 ⟨(Value.slice none 0 0),hE.sub ⟨rfl,rfl,rfl,rfl,trivial⟩,hM⟩ ?_
   rintro s25 a w ⟨u26,hE,hM⟩ o30 hs28 hx29
   unfold Ui at hs28
   refine wp_seq (Zb (Zd hE rfl fun a hE=>Zy hE rfl (We) fun a hE=>ZB (v:=v0_2) hE rfl U8 rfl (At.cat (pre:=[[v0_1]]) hM.rawAt2 ck) fun a hE=>Z5 hE rfl Tryz.underlying23 (hM.rd hv0_2) fun a hE=>Zi hE rfl rfl rfl fun a hE=>Ze ?_))
   refine Zo hE rfl ?_ ?_
   ·intro hb32
    have hs28:=Zt hs28 hb32
    refine wp_skip (Zp (wp_seq (wp_block ?_)))
    obtain ⟨x34,hi36,hs28⟩:=bix hs28
    obtain ⟨cs37,hs38,hA39⟩:=US hv0_2 hi36.2 -- ^
    obtain ⟨u40,rfl⟩:=VE hs38 -- ^
    have h41:=hs38 -- ^
    obtain ⟨r42,e43,hs28⟩:=bind_some hs28
    refine Yz (its:=[raw b18 (cat [[(ux5 3)],[u26],[(ux5 6)]]),raw b3 (cat [[(Value.slice none 0 0)],[(Value.slice none 0 0)],[(Value.slice none 0 0)]]),raw b1 (cat [[v0_1],[v0_2],[v0_3]]),osl NoB ((([] : List (Vector UInt8 32)) ++ p0.Keys) : List (Vector UInt8 32)) (ux5 3),osl NoB (r13 : List Int) (ux5 6),osl NoB (s25.1 : List (List UInt8)) u26]) (mk:=([mkN [(8,fun v=>osl NoB (([r42] : List (List UInt8)) : List (List UInt8)) v),(7,fun v=>osl NoB (r42 : List UInt8) v)]] : Mk)) [20,21,22,23,24,25,26,27,28] Yu rfl rfl (by decide) rfl hE (fun u=>M.qE (M.q0 hM.drew u) emN) (qsP (fun z=>Zq z.E Za ld rfl (We) (kr0 rfl)) (qsP (v:=u26) ?_ (qsP (fun z=>Zq z.E Za ld rfl (We) (kr0 rfl)) (qsP (v:=v0_2) ?_ (qsP (fun z=>Zj z.E Za ld rfl (kr0 rfl)) (qsP (v:=(ptr (sb v0_2) (so v0_2 + (s25.2).toNat * 1))) ?_ (qsP (v:=u40) ?_ (qsM (pr:=fun v=>True) ?_ (qsM (pr:=fun v=>True) ?_ qs0))))))))) ?_
    ·intro a w ux33 D z
     have hE:=z.E
     have hM:=z.M
     exact ZB (v:=u26) hE rfl U8 rfl (At.cat (pre:=[[(ux5 3)]]) hM.rawAt0 ck) fun a hE=>⟨Kept.refl _ _,_,rfl,hE⟩
    ·intro a w ux33 D z
     have hE:=z.E
     have hM:=z.M
     exact ZB (v:=v0_2) hE rfl U8 rfl (At.cat (pre:=[[v0_1]]) hM.rawAt2 ck) fun a hE=>⟨Kept.refl _ _,_,rfl,hE⟩
    ·intro a w ux33 D z
     have hE:=z.E
     have hM:=z.M
     exact Yd hE rfl rfl Tryz.underlying23 YU (hM.rd hv0_2) hi36.1 fun a hE=>⟨Kept.refl _ _,_,rfl,hE⟩
    ·intro a w ux33 D z
     have hE:=z.E
     have hM:=z.M
     exact ZB (v:=u40) hE rfl YU rfl (hM.atk hA39 (UY hv0_2 hi36.2)) fun a hE=>⟨Kept.refl _ _,_,rfl,hE⟩
    ·intro a w ux33 D z
     have hE:=z.E
     have hD : D 7 = false:=z.F
     have hM0:=z.M
     have hM:=z.M
     refine Zx hE rfl cb65 (TY _ x34 u40 (hM.rdo h41) r42 e43) ?_
     rintro _ w a ⟨_,rfl,hFr,hK⟩ hE
     have hM:=hM0.add hK hFr
     have hq8 : D 8 = false:=Qg (j:=8) (k:=0) z.c rfl rfl rfl hD
     exact ⟨_,_,rfl,hE,M.qPut (p:=mkN [(8,fun v=>osl NoB (([r42] : List (List UInt8)) : List (List UInt8)) v),(7,fun v=>osl NoB (r42 : List UInt8) v)]) (its:=[raw b18 (cat [[(ux5 3)],[u26],[(ux5 6)]]),raw b3 (cat [[(Value.slice none 0 0)],[(Value.slice none 0 0)],[(Value.slice none 0 0)]]),raw b1 (cat [[v0_1],[v0_2],[v0_3]]),osl NoB ((([] : List (Vector UInt8 32)) ++ p0.Keys) : List (Vector UInt8 32)) (ux5 3),osl NoB (r13 : List Int) (ux5 6),osl NoB (s25.1 : List (List UInt8)) u26]) (mk1:=[]) (mk2:=[]) hM rfl (Qc (U6 hq8 (U6 hD TC))) (V1 (l:=[_]) (U6 hq8 TC)),trivial⟩
    ·intro a w ux33 D z
     have hE:=z.E
     have hD : D 8 = false:=z.F
     have d7 : D 7 = true:=z.p 0 _ rfl rfl
     have hM:=(z.M.chnF (pre:=[_,_,_,_,_,_]) hD).chnT (pre:=[_,_,_,_,_,_]) d7
     have hc47:=YC (hM.sl (pre:=[_,_,_,_,_,_]) noB)
     have hM:=hM.pull6
     have hM:=hM.pack1 (it:=own NoB r42 ([(ux33 7)])) (V5 noB) (fun f0 q0=>(XV.sat q0))
     exact zE (xs:=[.tmp 27]) (seg:=[(ux33 7)]) hE hM noB Za ld rfl hc47 Tryz.underlying23 YU rfl (by decide) fun u45 w a hM hE=>⟨_,_,rfl,hE,M.qTogS (p:=mkN [(8,fun v=>osl NoB (([r42] : List (List UInt8)) : List (List UInt8)) v),(7,fun v=>osl NoB (r42 : List UInt8) v)]) (its:=[raw b18 (cat [[(ux5 3)],[u26],[(ux5 6)]]),raw b3 (cat [[(Value.slice none 0 0)],[(Value.slice none 0 0)],[(Value.slice none 0 0)]]),raw b1 (cat [[v0_1],[v0_2],[v0_3]]),osl NoB ((([] : List (Vector UInt8 32)) ++ p0.Keys) : List (Vector UInt8 32)) (ux5 3),osl NoB (r13 : List Int) (ux5 6),osl NoB (s25.1 : List (List UInt8)) u26]) (mk1:=[]) (mk2:=[]) hM rfl (V1 (l:=[]) TC),trivial⟩
    ·intro a w ux33 D hE hM hG hall
     have d8:=hall 8 (by decide)
     have hM:=hM.chnT (pre:=[_,_,_,_,_,_]) d8
     obtain ⟨l48,e49,hs28⟩:=bind_some hs28
     obtain ⟨e52,rfl⟩:=Yj e49
     have hM:=hM.pull6.pull6
     refine BT hE hM noB Za ld rfl rfl Tryz.underlying23 YU rfl (by decide) e52 fun u50 w a hM hE=>Zy hE rfl (We) ?_; intro a hE
     have hM:=hM.pull1
     refine Zm (seg:=[u50]) hE hM Za rfl rfl (YC (hM.sl (pre:=[_]) noB)) U8 rfl (Us (pre:=[[(ux5 3)]]) ck rfl) (Rep.cell (hM.sl (pre:=[_]) noB)) (XO (pre:=[[(ux5 3)]]) ck rfl) fun w a hM hE=>Zg (Yb (Zp (wp_region_lit (Zd hE rfl fun a hE=>Zi hE rfl rfl rfl fun a hE=>Zc hE rfl fun a hE=>Zg (Zk ?_)))))
     have hM:=hM.pull1.pull5.pull5.pull5.pull5.pull5
     exact ⟨_,(ois hs28),u50,hE.sub ⟨rfl,rfl,rfl,rfl,trivial⟩,hM⟩
   ·intro hb32
    have hs28:=Zs hs28 hb32
    refine wp_exit (Zn (Zn (Ye ?_)))
    obtain rfl:=hx29 _ (ois hs28)
    refine Zk ?_
    have hM:=M.fst (l:=[_,_,_,_,_]) hM.pull5.pull5.pull5.pull4.pull4
    exact ⟨u26,hE.sub ⟨rfl,rfl,trivial⟩,hM⟩
  ·skip
   rintro a w ⟨u23,hE,hM⟩
   refine Zp (Zb (Zr hE rfl Yv rfl hM.rawAt0 cq ?_)); intro a hE
   have hM:=hM.pull1
   refine Zm (seg:=cat [[(ux5 3)],[u23],[(ux5 6)]]) (cs':=cat [[(ux5 3)],[u23],[(ux5 6)]]) hE hM Za rfl rfl rfl Yv cq (Nat.le_of_eq ((Nat.zero_add _).trans (Eq.trans cq (Eq.symm cq)))) (Yq (cc1 (Rep.cell (hM.sl (pre:=[_,_]) noB)) (cc1 (Rep.cell (hM.sl (pre:=[_,_,_,_]) noB)) (cc1 (Rep.cell (hM.sl (pre:=[_,_,_]) noB)) cc0)))) (Zh (Eq.trans cq (Eq.symm cq))) fun w a hM hE=>Ze ?_
   obtain rfl:=Option.some.inj hF22
   have hq54 : Z6 Tryz.prog _ _ (.cell 2 31) _:=ZK hE rfl Yv rfl hM.rawAt0 cq rfl
   have hM:=M.fst (l:=[_,_,_]) hM.pull3.pull4.pull4
   exact wp_ret (ZP hE rfl hq54 ⟨_,rfl,(ux5 3),u23,(ux5 6),rfl,hM.outF (Yf (Yf (Yf Xi))),hM.kept⟩)
def Un (p0 : GBlobs) (p1 : (List UInt8)) : Option (GBlobs × (Vector UInt8 32) × Int) :=
 (Tn p0).bind fun r7=>if (!r7) = true then (some ((⟨[],[],[]⟩ : GBlobs),(Vector.replicate 32 (0 : UInt8)),1)) else (if (decide ((p1.length : Int) > 2000)) = true then (some ((⟨[],[],[]⟩ : GBlobs),(Vector.replicate 32 (0 : UInt8)),2)) else ((Ww p1).bind fun r21=>(VK p0.Keys r21).bind fun r26=>(UP p0).bind fun r28=>(if (decide (r26 < (p0.Keys.length : Int))) = true then ((idx p0.Keys r26).bind fun x46=>some (decide (x46 = r21))) else (some false) : Option (Bool)).bind fun j41=>if j41 = true then ((idx r28.Counts r26).bind fun x52=>if (x52 == 1000000) = true then (some ((⟨[],[],[]⟩ : GBlobs),(Vector.replicate 32 (0 : UInt8)),3)) else ((idx r28.Counts r26).bind fun x61=>(idx r28.Counts r26).bind fun x64=>(some (r28.Keys,r28.Data,(r28.Counts.set (r26).toNat (wr (x61 + 1))),r21,0) : Option ((List (Vector UInt8 32)) × (List (List UInt8)) × (List Int) × (Vector UInt8 32) × Int)).bind fun j67=>some ((⟨j67.1,j67.2.1,j67.2.2.1⟩ : GBlobs),j67.2.2.2.1,j67.2.2.2.2))) else (if ((p0.Keys.length : Int) == 32) = true then (some ((⟨[],[],[]⟩ : GBlobs),(Vector.replicate 32 (0 : UInt8)),3)) else (((slc p0.Keys (0 : Int) r26).bind fun l94=>(app 32 ([] : List (Vector UInt8 32)) l94).bind fun l97=>(app 32 (([] : List (Vector UInt8 32)) ++ l94) ([r21] : List (Vector UInt8 32))).bind fun l104=>(slc p0.Keys r26 (p0.Keys.length : Int)).bind fun l109=>(app 32 ((([] : List (Vector UInt8 32)) ++ l94) ++ ([r21] : List (Vector UInt8 32))) l109).bind fun l112=>some (((([] : List (Vector UInt8 32)) ++ l94) ++ ([r21] : List (Vector UInt8 32))) ++ l109) : Option ((List (Vector UInt8 32)))).bind fun j86=>((slc p0.Counts (0 : Int) r26).bind fun l126=>(app 8 ([] : List Int) l126).bind fun l129=>(app 8 (([] : List Int) ++ l126) ([1] : List Int)).bind fun l136=>(slc p0.Counts r26 (p0.Counts.length : Int)).bind fun l141=>(app 8 ((([] : List Int) ++ l126) ++ ([1] : List Int)) l141).bind fun l144=>some (((([] : List Int) ++ l126) ++ ([1] : List Int)) ++ l141) : Option ((List Int))).bind fun j118=>(slc r28.Data (0 : Int) r26).bind fun l155=>(app 24 ([] : List (List UInt8)) l155).bind fun l157=>(WL p1).bind fun r162=>(app 24 (([] : List (List UInt8)) ++ l155) ([r162] : List (List UInt8))).bind fun l171=>(slc r28.Data r26 (r28.Data.length : Int)).bind fun l176=>(app 24 ((([] : List (List UInt8)) ++ l155) ++ ([r162] : List (List UInt8))) l176).bind fun l178=>(some (j86,(((([] : List (List UInt8)) ++ l155) ++ ([r162] : List (List UInt8))) ++ l176),j118,r21,0) : Option ((List (Vector UInt8 32)) × (List (List UInt8)) × (List Int) × (Vector UInt8 32) × Int)).bind fun j183=>some ((⟨j183.1,j183.2.1,j183.2.2.1⟩ : GBlobs),j183.2.2.2.1,j183.2.2.2.2)))))
theorem H2 (w0 : World) (p0 : GBlobs) (v0_1 : Value) (hv0_1 : Ro w0 p0.Keys [v0_1]) (v0_2 : Value) (hv0_2 : Ro w0 p0.Data [v0_2]) (v0_3 : Value) (hv0_3 : Ro w0 p0.Counts [v0_3]) (p1 : (List UInt8)) (v1_1 : Value) (hv1_1 : Ro w0 p1 [v1_1]) (r : GBlobs × (Vector UInt8 32) × Int) (hF : Un p0 p1 = some r) :
  Calls Tryz.prog 17 [(Value.agg (cat [[v0_1],[v0_2],[v0_3]]).toArray),v1_1].toArray w0 (fun en w'=>∃ v,en = .returned v ∧ (∃ (y1 : Value) (y2 : Value) (y3 : Value),v = (Value.tuple [(Value.agg (cat [[y1],[y2],[y3]]).toArray),(Value.agg (enc r.2.1).toArray),vI r.2.2].toArray) ∧ Fr w0 w' [osl NoB (r.1.Keys : List (Vector UInt8 32)) y1,osl NoB (r.1.Data : List (List UInt8)) y2,osl NoB (r.1.Counts : List Int) y3] ∧ Kept (Old w0) w0 w')):=by
 refine ce Tryz.func17 ?_
 intro a hE
 have hM:=M.start w0
 unfold Un at hF
 refine Zb (Ya (cs:=cat [[v0_1],[v0_2],[v0_3]]) hE hM Za ld rfl rfl fun b1 w a hM hE=>Zz hE hM Yv fun b3 w a hM hE=>Zz hE hM ZL fun b5 w a hM hE=>Zc hE rfl fun a hE=>Ze (wp_seq (wp_block (Zb (Zr hE rfl Yv rfl hM.rawAt2 cq ?_))))); intro a hE
 obtain ⟨r7,e8,hF⟩:=bind_some hF
 refine Zx hE rfl (cbm Tryz.func43) (AT _ p0 v0_1 (hM.rdo hv0_1) v0_2 (hM.rdo hv0_2) v0_3 (hM.rdo hv0_3) r7 e8) ?_
 rintro v w a ⟨rfl,hK⟩ hE
 have hM:=hM.keep hK
 refine Qk hE rfl fun a hE=>Zc hE rfl fun a hE=>Ze ?_
 refine Zo hE rfl ?_ ?_
 ·intro hb9
  have hF:=Zt hF hb9
  refine Zb (XM (parts:=[]) (vs:=[]) (cs:=cat [[(Value.slice none 0 0)],[(Value.slice none 0 0)],[(Value.slice none 0 0)]]) hE Za ld rfl rfl Yv AH Vv fun a hE=>YB (parts:=[]) (vs:=[]) (cs:=enc (Vector.replicate 32 (0 : UInt8))) hE Za ld rfl rfl ZL rfl ty5 Yp ?_); intro a hE
  have hM:=hM.pull1
  refine Zm (seg:=cat [[(Value.slice none 0 0)],[(Value.slice none 0 0)],[(Value.slice none 0 0)]]) (cs':=cat [[(Value.slice none 0 0)],[(Value.slice none 0 0)],[(Value.slice none 0 0)]]) hE hM Za rfl rfl rfl Yv cq (Nat.le_of_eq ((Nat.zero_add _).trans (Eq.trans cq (Eq.symm cq)))) (Yq (cc1 Xp (cc1 Xp (cc1 Xp cc0)))) (Zh (Eq.trans cq (Eq.symm cq))) ?_; intro w a hM hE
  have hM:=hM.pull1
  refine Zm (seg:=enc (Vector.replicate 32 (0 : UInt8))) (cs':=enc (Vector.replicate 32 (0 : UInt8))) hE hM Za rfl rfl rfl ZL (Flat.len _) (zle flq) (Flat.cell _) (Zh flq) fun w a hM hE=>Zc hE rfl fun a hE=>Ze ?_
  have hM:=M.nilS (α:=Int) NoB noB (M.nilS (α:=(List UInt8)) NoB noB (M.nilS (α:=(Vector UInt8 32)) NoB noB hM))
  obtain rfl:=Option.some.inj hF
  have hq13 : Z6 Tryz.prog _ _ (.cell 4 31) _:=ZK hE rfl Yv rfl hM.rawAt4 cq rfl
  have hq14 : Z6 Tryz.prog _ _ (.cell 5 35) _:=ZK hE rfl ZL rfl hM.rawAt3 (Flat.len _) rfl
  have hM:=M.fst (l:=[_,_,_]) hM.pull1.pull2
  exact wp_ret (Xk (Zv (Qf hE rfl hq13 hq14 (ZU hE rfl) ⟨_,rfl,(Value.slice none 0 0),(Value.slice none 0 0),(Value.slice none 0 0),rfl,hM.outF (Yf (Yf (Yf Xi))),hM.kept⟩)))
 ·intro hb9
  have hF:=Zs hF hb9
  refine Zb (Zd hE rfl fun a hE=>Z5 hE rfl Tryz.underlying40 (hM.rd hv1_1) fun a hE=>Zi hE rfl rfl rfl fun a hE=>Zc hE rfl fun a hE=>Ze ?_)
  refine Zo hE rfl ?_ ?_
  ·intro hb15
   have hF:=Zt hF hb15
   refine Zb (XM (parts:=[]) (vs:=[]) (cs:=cat [[(Value.slice none 0 0)],[(Value.slice none 0 0)],[(Value.slice none 0 0)]]) hE Za ld rfl rfl Yv AH Vv fun a hE=>YB (parts:=[]) (vs:=[]) (cs:=enc (Vector.replicate 32 (0 : UInt8))) hE Za ld rfl rfl ZL rfl ty5 Yp ?_); intro a hE
   have hM:=hM.pull1
   refine Zm (seg:=cat [[(Value.slice none 0 0)],[(Value.slice none 0 0)],[(Value.slice none 0 0)]]) (cs':=cat [[(Value.slice none 0 0)],[(Value.slice none 0 0)],[(Value.slice none 0 0)]]) hE hM Za rfl rfl rfl Yv cq (Nat.le_of_eq ((Nat.zero_add _).trans (Eq.trans cq (Eq.symm cq)))) (Yq (cc1 Xp (cc1 Xp (cc1 Xp cc0)))) (Zh (Eq.trans cq (Eq.symm cq))) ?_; intro w a hM hE
   have hM:=hM.pull1
   refine Zm (seg:=enc (Vector.replicate 32 (0 : UInt8))) (cs':=enc (Vector.replicate 32 (0 : UInt8))) hE hM Za rfl rfl rfl ZL (Flat.len _) (zle flq) (Flat.cell _) (Zh flq) fun w a hM hE=>Zc hE rfl fun a hE=>Ze ?_
   have hM:=M.nilS (α:=Int) NoB noB (M.nilS (α:=(List UInt8)) NoB noB (M.nilS (α:=(Vector UInt8 32)) NoB noB hM))
   obtain rfl:=Option.some.inj hF
   have hq19 : Z6 Tryz.prog _ _ (.cell 4 31) _:=ZK hE rfl Yv rfl hM.rawAt4 cq rfl
   have hq20 : Z6 Tryz.prog _ _ (.cell 5 35) _:=ZK hE rfl ZL rfl hM.rawAt3 (Flat.len _) rfl
   have hM:=M.fst (l:=[_,_,_]) hM.pull1.pull2
   exact wp_ret (Xk (Zv (Qf hE rfl hq19 hq20 (ZU hE rfl) ⟨_,rfl,(Value.slice none 0 0),(Value.slice none 0 0),(Value.slice none 0 0),rfl,hM.outF (Yf (Yf (Yf Xi))),hM.kept⟩)))
  ·intro hb15
   have hF:=Zs hF hb15
   refine wp_skip (Yb (Zp (Zb (Zd hE rfl ?_)))); intro a hE
   obtain ⟨r21,e22,hF⟩:=bind_some hF
   refine Zx hE rfl (cbm Tryz.func63) (Qm _ p1 v1_1 (hM.rdo hv1_1) r21 e22) ?_
   rintro v w a ⟨rfl,hK⟩ hE
   have hM:=hM.keep hK
   refine Zz hE hM ZL fun b23 w a hM hE=>Zm (seg:=enc r21) (cs':=enc r21) hE hM Za rfl rfl rfl ZL (Flat.len _) (zle flq) (Flat.cell _) (Zh flq) fun w a hM hE=>Ze (wp_seq ?_)
   obtain ⟨r26,e27,hF⟩:=bind_some hF
   obtain ⟨r28,e29,hF⟩:=bind_some hF
   refine Yz (its:=[raw b23 (enc r21),raw b5 (enc (Vector.replicate 32 (0 : UInt8))),raw b3 (cat [[(Value.slice none 0 0)],[(Value.slice none 0 0)],[(Value.slice none 0 0)]]),raw b1 (cat [[v0_1],[v0_2],[v0_3]])]) (mk:=([mkO 5 (fun v=>own NoB r28 (Value.cells v).toList),mkO 6 (fun v=>VZ v (cat [[(Value.slice none 0 0)],[(Value.slice none 0 0)],[(Value.slice none 0 0)]]))] : Mk)) [25,26,27,28,29,30,9] Yu rfl rfl (by decide) rfl hE (fun u=>M.qE (M.qE (M.q0 hM.drew u) emO) emO) (qsP (fun z=>Zq z.E Za ld rfl (XL) (kr0 rfl)) (qsP (v:=v0_1) ?_ (qsP (v:=(Value.agg (enc r21).toArray)) ?_ (qsP (v:=(vI r26)) ?_ (qsP (v:=(Value.agg (cat [[v0_1],[v0_2],[v0_3]]).toArray)) ?_ (qsM (pr:=fun v=>∃ cs,v = .agg cs) ?_ (qsM (pr:=fun v=>True) ?_ qs0))))))) ?_
   ·intro a w ux25 D z
    have hE:=z.E
    have hM:=z.M
    exact ZB (v:=v0_1) hE rfl To rfl (At.cat (pre:=[]) hM.rawAt3 cl0) fun a hE=>⟨Kept.refl _ _,_,rfl,hE⟩
   ·intro a w ux25 D z
    have hE:=z.E
    have hM:=z.M
    exact Zr hE rfl ZL rfl hM.rawAt0 (Flat.len _) fun a hE=>⟨Kept.refl _ _,_,rfl,hE⟩
   ·intro a w ux25 D z
    have hE:=z.E
    have hM:=z.M
    refine Zx hE rfl (cbm Tryz.func64) (He _ p0.Keys v0_1 (hM.rdo hv0_1) r21 r26 e27) ?_
    rintro v w a ⟨rfl,hK⟩ hE
    exact ⟨hK,_,rfl,hE⟩
   ·intro a w ux25 D z
    have hE:=z.E
    have hM:=z.M
    exact Zr hE rfl Yv rfl hM.rawAt3 cq fun a hE=>⟨Kept.refl _ _,_,rfl,hE⟩
   ·intro a w ux25 D z
    have hE:=z.E
    have hD : D 5 = false:=z.F
    have hM0:=z.M
    have hM:=z.M
    refine Zx hE rfl (cbm Tryz.func45) (BE _ p0 v0_1 (hM.rdo hv0_1) v0_2 (hM.rdo hv0_2) v0_3 (hM.rdo hv0_3) r28 e29) ?_
    rintro _ w a ⟨u30,u31,u32,rfl,hFr,hK⟩ hE
    have hM:=JC (x:=r28) (hM0.add hK hFr) sio sio sio
    exact ⟨_,_,rfl,hE,M.qFill (mk1:=[]) (mk2:=[_]) (f:=(fun v=>own NoB r28 (Value.cells v).toList)) hM rfl hD,⟨_,rfl⟩⟩
   ·intro a w ux25 D z
    have hE:=z.E
    have hD : D 6 = false:=z.F
    have hM:=z.M
    refine Zz hE hM Yv ?_; intro b34 w a hM hE
    have hM:=hM.pack1 (it:=VZ _ (cat [[(Value.slice none 0 0)],[(Value.slice none 0 0)],[(Value.slice none 0 0)]])) (fun w w' fp ⟨b',e,k⟩ hb=>⟨b',e,YW w w' fp k hb⟩) (fun fp k=>⟨_,rfl,k⟩)
    exact ⟨_,_,rfl,hE,M.qFill (mk1:=[_]) (mk2:=[]) (f:=fun v=>VZ v (cat [[(Value.slice none 0 0)],[(Value.slice none 0 0)],[(Value.slice none 0 0)]])) hM rfl hD,trivial⟩
   ·intro a w ux25 D hE hM hG hall
    have d5:=hall 5 (by decide)
    have d6:=hall 6 (by decide)
    have hM:=((hM.sure (pre:=[_,_,_,_]) d5).sure (pre:=[_,_,_,_,_]) d6).pull
    obtain ⟨_,⟨b36,f37,_⟩,_⟩:=hM.head
    have hM:=hM.pack1 YW (it:=raw b36 (cat [[(Value.slice none 0 0)],[(Value.slice none 0 0)],[(Value.slice none 0 0)]])) (fun fp ⟨b2,e2,k2⟩=>by rw [f37] at e2; simp [ptr] at e2; subst e2; exact k2)
    obtain ⟨q25_5_0_1,q25_5_0_2,q25_5_0_3,hcz,_,_,_⟩:=Kh (hM.ro (pre:=[_,_,_,_,_]) noB)
    have qK33 : (ux25 5) = (Value.agg (cat [[q25_5_0_1],[q25_5_0_2],[q25_5_0_3]]).toArray):=aggQ hcz (hG 5 d5 _ rfl).2
    have hM:=hM.pull5
    have hM:=JB (hM.recown (congrArg (fun v=>(Value.cells v).toList) qK33))
    have hE:=hE.setq (t:=30) rfl qK33
    have hE:=hE.setq (t:=9) rfl f37
    refine Zc hE rfl ?_; intro a hE
    have hM:=hM.pull3
    refine Zm (seg:=cat [[q25_5_0_1],[q25_5_0_2],[q25_5_0_3]]) (cs':=cat [[q25_5_0_1],[q25_5_0_2],[q25_5_0_3]]) hE hM Za rfl rfl rfl Yv cq (Nat.le_of_eq ((Nat.zero_add _).trans (Eq.trans cq (Eq.symm cq)))) (Yq (cc1 (Rep.cell (hM.ro (pre:=[_]) noB)) (cc1 (Rep.cell (hM.ro (pre:=[_,_]) noB)) (cc1 (Rep.cell (hM.ro (pre:=[_,_,_]) noB)) cc0)))) (Zh (Eq.trans cq (Eq.symm cq))) fun w a hM hE=>Zg (Zp (wp_seq ?_))
    obtain ⟨j41,hl42,hF43⟩:=bind_some hF
    refine ZN (fun a w=>Env 116 a [(1,v1_1),(2,(ptr b1 0)),(4,(ptr b3 0)),(5,(ptr b5 0)),(7,(ptr b23 0)),(8,vI r26),(9,(ptr b36 0)),(44,vT j41)] ∧ M (Old w0) w0 w [raw b36 (cat [[q25_5_0_1],[q25_5_0_2],[q25_5_0_3]]),own NoB (r28.Keys : (List (Vector UInt8 32))) [q25_5_0_1],own NoB (r28.Data : (List (List UInt8))) [q25_5_0_2],own NoB (r28.Counts : (List Int)) [q25_5_0_3],raw b23 (enc r21),raw b5 (enc (Vector.replicate 32 (0 : UInt8))),raw b3 (cat [[(Value.slice none 0 0)],[(Value.slice none 0 0)],[(Value.slice none 0 0)]]),raw b1 (cat [[v0_1],[v0_2],[v0_3]])]) ?_ ?_
    ·skip
     refine Wc (decide (r26 < (p0.Keys.length : Int))) (fun hb45=>?_) (fun hb45=>?_)
     ·have hl42:=Zt hl42 hb45
      obtain ⟨x46,hi48,hl42⟩:=bix hl42
      refine ZX [31,32,33,34,35,36,37,38,39,40,41,42,43,44] Yu rfl rfl (by decide) rfl hE hM (qsP (fun z=>Zj z.E Za ld rfl (kr0 rfl)) (qsP (fun z=>Zq z.E Za ld rfl (XL) (kr0 rfl)) (qsP (fun z=>ZM (v:=v0_1) z.E Za ld rfl To rfl (At.cat (pre:=[]) (z.M.rawAt7) cl0) (kr0 rfl)) (qsP (fun z=>T3 z.E Za ld rfl Tryz.underlying29 (z.M.rd hv0_1) (kr0 rfl)) (qsP (fun z=>Z9 z.E Za ld rfl rfl rfl (kr0 rfl)) (qsP (fun z=>Zj z.E Za ld rfl (kr0 rfl)) (qsP (fun z=>Zq z.E (Zf z.E rfl (lkb rfl hb45)) (by decide) rfl (XL) (kr0 rfl)) (qsP (fun z=>ZM (v:=v0_1) z.E (Zf z.E rfl (lkb rfl hb45)) (by decide) rfl To rfl (At.cat (pre:=[]) (z.M.rawAt7) cl0) (kr0 rfl)) (qsP (fun z=>Zj z.E (Zf z.E rfl (lkb rfl hb45)) (by decide) rfl (kr0 rfl)) (qsP (fun z=>ZZ z.E (Zf z.E rfl (lkb rfl hb45)) (by decide) rfl rfl Tryz.underlying29 ZL (z.M.rd hv0_1) hi48.1 (kr0 rfl)) (qsP (fun z=>ZW z.E (Zf z.E rfl (lkb rfl hb45)) (by decide) rfl ZL rfl (Yt (z.M.rd hv0_1) hi48.2) (Flat.len _) (kr0 rfl)) (qsP (fun z=>ZW z.E (Zf z.E rfl (lkb rfl hb45)) (by decide) rfl ZL rfl (z.M.rawAt4) (Flat.len _) (kr0 rfl)) (qsP (fun z=>s_eqA z.E (Zf z.E rfl (lkb rfl hb45)) (by decide) rfl rfl (Bw Tryz.underlying35 ty5 rfl false rfl (by decide) (Jx Tryz.underlying5)) (by decide) (by kernel_rfl) (kr0 rfl)) (qsP (fun z=>Td z.E Za ld (lkb rfl hb45) rfl (kr0 rfl)) qs0)))))))))))))) ?_
      ·intro a w u hE hM
       refine Zg ?_
       obtain rfl:=Option.some.inj hl42
       refine Zk ?_
       exact ⟨hE.sub ⟨rfl,rfl,rfl,rfl,rfl,rfl,rfl,rfl,trivial⟩,hM⟩
     ·have hl42:=Zs hl42 hb45
      refine ZX [31,32,33,34,35,36,37,38,39,40,41,42,43,44] Yu rfl rfl (by decide) rfl hE hM (qsP (fun z=>Zj z.E Za ld rfl (kr0 rfl)) (qsP (fun z=>Zq z.E Za ld rfl (XL) (kr0 rfl)) (qsP (fun z=>ZM (v:=v0_1) z.E Za ld rfl To rfl (At.cat (pre:=[]) (z.M.rawAt7) cl0) (kr0 rfl)) (qsP (fun z=>T3 z.E Za ld rfl Tryz.underlying29 (z.M.rd hv0_1) (kr0 rfl)) (qsP (fun z=>Z9 z.E Za ld rfl rfl rfl (kr0 rfl)) (qsP (fun z=>Zj z.E Za ld rfl (kr0 rfl)) (qsP (fun z=>Zl z.E rfl (lkb rfl hb45) rfl (by decide) (kr0 rfl)) (qsP (fun z=>Zl z.E rfl (lkb rfl hb45) rfl (by decide) (kr0 rfl)) (qsP (fun z=>Zl z.E rfl (lkb rfl hb45) rfl (by decide) (kr0 rfl)) (qsP (fun z=>Zl z.E rfl (lkb rfl hb45) rfl (by decide) (kr0 rfl)) (qsP (fun z=>Zl z.E rfl (lkb rfl hb45) rfl (by decide) (kr0 rfl)) (qsP (fun z=>Zl z.E rfl (lkb rfl hb45) rfl (by decide) (kr0 rfl)) (qsP (fun z=>Zl z.E rfl (lkb rfl hb45) rfl (by decide) (kr0 rfl)) (qsP (fun z=>UW z.E Za ld (lkb rfl hb45) rfl (kr0 rfl)) qs0)))))))))))))) ?_
      ·intro a w u hE hM
       refine Zg ?_
       obtain rfl:=Option.some.inj hl42
       refine Zk ?_
       exact ⟨hE.sub ⟨rfl,rfl,rfl,rfl,rfl,rfl,rfl,rfl,trivial⟩,hM⟩
    ·skip
     rintro a w ⟨hE,hM⟩
     refine Zo hE rfl ?_ ?_
     ·intro hb51
      have hF43:=Zt hF43 hb51
      refine wp_seq (Zb (Zy hE rfl (Wb) fun a hE=>ZB (v:=q25_5_0_3) hE rfl U7 rfl (At.cat (pre:=[[q25_5_0_1],[q25_5_0_2]]) hM.rawAt0 ck) fun a hE=>Zd hE rfl ?_)); intro a hE
      obtain ⟨x52,hi54,hF43⟩:=bix hF43
      refine Yd hE rfl rfl Tryz.underlying24 ty2 (hM.ro (pre:=[_,_,_]) noB) hi54.1 fun a hE=>ZB (v:=(vI x52)) hE rfl ty2 rfl (Yt (hM.ro (pre:=[_,_,_]) noB) hi54.2) fun a hE=>Zi hE rfl rfl rfl fun a hE=>Ze ?_
      refine Zo hE rfl ?_ ?_
      ·intro hb55
       have hF43:=Zt hF43 hb55
       refine Zb (XM (parts:=[]) (vs:=[]) (cs:=cat [[(Value.slice none 0 0)],[(Value.slice none 0 0)],[(Value.slice none 0 0)]]) hE Za ld rfl rfl Yv AH Vv fun a hE=>YB (parts:=[]) (vs:=[]) (cs:=enc (Vector.replicate 32 (0 : UInt8))) hE Za ld rfl rfl ZL rfl ty5 Yp ?_); intro a hE
       have hM:=hM.pull6
       refine Zm (seg:=cat [[(Value.slice none 0 0)],[(Value.slice none 0 0)],[(Value.slice none 0 0)]]) (cs':=cat [[(Value.slice none 0 0)],[(Value.slice none 0 0)],[(Value.slice none 0 0)]]) hE hM Za rfl rfl rfl Yv cq (Nat.le_of_eq ((Nat.zero_add _).trans (Eq.trans cq (Eq.symm cq)))) (Yq (cc1 Xp (cc1 Xp (cc1 Xp cc0)))) (Zh (Eq.trans cq (Eq.symm cq))) ?_; intro w a hM hE
       have hM:=hM.pull6
       refine Zm (seg:=enc (Vector.replicate 32 (0 : UInt8))) (cs':=enc (Vector.replicate 32 (0 : UInt8))) hE hM Za rfl rfl rfl ZL (Flat.len _) (zle flq) (Flat.cell _) (Zh flq) fun w a hM hE=>Zc hE rfl fun a hE=>Ze ?_
       have hM:=M.nilS (α:=Int) NoB noB (M.nilS (α:=(List UInt8)) NoB noB (M.nilS (α:=(Vector UInt8 32)) NoB noB hM))
       obtain rfl:=Option.some.inj hF43
       have hq59 : Z6 Tryz.prog _ _ (.cell 4 31) _:=ZK hE rfl Yv rfl hM.rawAt4 cq rfl
       have hq60 : Z6 Tryz.prog _ _ (.cell 5 35) _:=ZK hE rfl ZL rfl hM.rawAt3 (Flat.len _) rfl
       have hM:=M.fst (l:=[_,_,_]) hM.pull1.pull2
       exact wp_ret (Zv (Zv (Qf hE rfl hq59 hq60 (ZU hE rfl) ⟨_,rfl,(Value.slice none 0 0),(Value.slice none 0 0),(Value.slice none 0 0),rfl,hM.outF (Yf (Yf (Yf Xi))),hM.kept⟩)))
      ·intro hb55
       have hF43:=Zs hF43 hb55
       refine wp_skip (Zp (Zb (Zy hE rfl (Wb) fun a hE=>ZB (v:=q25_5_0_3) hE rfl U7 rfl (At.cat (pre:=[[q25_5_0_1],[q25_5_0_2]]) hM.rawAt0 ck) fun a hE=>Zd hE rfl ?_))); intro a hE
       obtain ⟨x61,hi63,hF43⟩:=bix hF43
       refine Yd hE rfl rfl Tryz.underlying24 ty2 (hM.ro (pre:=[_,_,_]) noB) hi63.1 fun a hE=>ZB (v:=(vI x61)) hE rfl ty2 rfl (Yt (hM.ro (pre:=[_,_,_]) noB) hi63.2) fun a hE=>Zi hE rfl rfl rfl ?_; intro a hE
       obtain ⟨x64,hi66,hF43⟩:=bix hF43
       refine Yd hE rfl rfl Tryz.underlying24 ty2 (hM.ro (pre:=[_,_,_]) noB) hi66.1 ?_; intro a hE
       have hM:=hM.pull3.toOsl (List.getElem?_eq_some_iff.1 hi66.2).1
       refine TA (i:=(r26).toNat) (k0:=0) (seg:=[(vI (wr (x61 + 1)))]) (xo:=x64) (xn:=wr (x61 + 1)) hE hM Za rfl rfl rfl ty2 rfl (Flat.cell (wr (x61 + 1) : Int)) hi66.2 (QD (m:=1) rfl (by decide)) (Zh rfl) ?_; intro w a hM hE
       have hM:=hM.toOwn noB
       refine Ze ?_
       obtain ⟨j67,hl68,hF69⟩:=bind_some hF43
       refine ZN (fun a w=>∃ (u70 : Value) (u72 : Value) (u74 : Value),Env 116 a [(4,(ptr b3 0)),(5,(ptr b5 0)),(6,vI j67.2.2.2.2)] ∧ M (Old w0) w0 w [raw b5 (enc j67.2.2.2.1),raw b3 (cat [[u70],[u72],[u74]]),osl NoB (j67.1 : List (Vector UInt8 32)) u70,osl NoB (j67.2.1 : List (List UInt8)) u72,osl NoB (j67.2.2.1 : List Int) u74]) ?_ ?_
       ·skip
        have hM:=hM.pull6
        refine Yz (its:=[own NoB ((r28.Counts.set (r26).toNat (wr (x61 + 1))) : (List Int)) [q25_5_0_3],raw b36 (cat [[q25_5_0_1],[q25_5_0_2],[q25_5_0_3]]),own NoB (r28.Keys : (List (Vector UInt8 32))) [q25_5_0_1],own NoB (r28.Data : (List (List UInt8))) [q25_5_0_2],raw b23 (enc r21),raw b5 (enc (Vector.replicate 32 (0 : UInt8))),raw b1 (cat [[v0_1],[v0_2],[v0_3]])]) (mk:=([mkT 2 (raw b3 (cat [[(Value.slice none 0 0)],[(Value.slice none 0 0)],[(Value.slice none 0 0)]])) (raw b3 (cat [[q25_5_0_1],[q25_5_0_2],[q25_5_0_3]]))] : Mk)) [60,61,118] Yu rfl rfl (by decide) rfl hE (fun u=>M.qT (M.q0 hM.drew u)) (qsP (v:=(Value.agg (cat [[q25_5_0_1],[q25_5_0_2],[q25_5_0_3]]).toArray)) ?_ (qsP (v:=(Value.agg (enc r21).toArray)) ?_ (qsM (pr:=fun v=>True) ?_ qs0))) ?_
        ·intro a w ux76 D z
         have hE:=z.E
         have hD : D 0 = false:=z.F
         have hM:=z.M.togA (pre:=[_,_,_,_,_,_,_]) (Qg (j:=2) (k:=0) z.c rfl rfl rfl hD)
         exact Zr hE rfl Yv rfl hM.rawAt1 cq fun a hE=>⟨Kept.refl _ _,_,rfl,hE⟩
        ·intro a w ux76 D z
         have hE:=z.E
         have hM:=z.M
         exact Zr hE rfl ZL rfl hM.rawAt4 (Flat.len _) fun a hE=>⟨Kept.refl _ _,_,rfl,hE⟩
        ·intro a w ux76 D z
         have hE:=z.E
         have hD : D 2 = false:=z.F
         have hM:=(z.M.togA (pre:=[_,_,_,_,_,_,_]) hD).pull7
         exact Zm (seg:=cat [[q25_5_0_1],[q25_5_0_2],[q25_5_0_3]]) (cs':=cat [[q25_5_0_1],[q25_5_0_2],[q25_5_0_3]]) hE hM Za rfl rfl rfl Yv cq (Nat.le_of_eq ((Nat.zero_add _).trans (Eq.trans cq (Eq.symm cq)))) (Yq (cc1 (Rep.cell (hM.ro (pre:=[_,_,_]) noB)) (cc1 (Rep.cell (hM.ro (pre:=[_,_,_,_]) noB)) (cc1 (Rep.cell (hM.ro (pre:=[_]) noB)) cc0)))) (Zh (Eq.trans cq (Eq.symm cq))) fun w a hM hE=>⟨undef,_,rfl,Env.dummy hE (by decide),M.qTog (mk1:=[]) (mk2:=[]) hM rfl,trivial⟩
        ·intro a w ux76 D hE hM hG hall
         have d2:=hall 2 (by decide)
         have hM:=(hM.togB (pre:=[_,_,_,_,_,_,_]) d2).pull5
         refine Zm (seg:=enc r21) (cs':=enc r21) hE hM Za rfl rfl rfl ZL (Flat.len _) (zle flq) (Flat.cell _) (Zh flq) fun w a hM hE=>Zc hE rfl fun a hE=>Zg ?_
         obtain rfl:=Option.some.inj hl68
         refine Zk ?_
         have hM:=M.fst (l:=[_,_,_,_,_]) hM.pull3.toOsl0.pull4.toOsl0.pull3.toOsl0.pull1.pull2.pull7.pull4
         exact ⟨q25_5_0_1,q25_5_0_2,q25_5_0_3,hE.sub ⟨rfl,rfl,rfl,trivial⟩,hM⟩
       ·skip
        rintro a w ⟨u70,u72,u74,hE,hM⟩
        obtain rfl:=Option.some.inj hF69
        have hq78 : Z6 Tryz.prog _ _ (.cell 4 31) _:=ZK hE rfl Yv rfl hM.rawAt1 cq rfl
        have hq79 : Z6 Tryz.prog _ _ (.cell 5 35) _:=ZK hE rfl ZL rfl hM.rawAt0 (Flat.len _) rfl
        have hM:=M.fst (l:=[_,_,_]) hM.pull4.pull4.pull4
        exact wp_ret (Zv (Qf hE rfl hq78 hq79 (ZU hE rfl) ⟨_,rfl,u70,u72,u74,rfl,hM.outF (Yf (Yf (Yf Xi))),hM.kept⟩))
     ·intro hb51
      have hF43:=Zs hF43 hb51
      refine wp_skip (Zp (wp_seq (Zb (Zy hE rfl (XL) fun a hE=>ZB (v:=v0_1) hE rfl To rfl (At.cat (pre:=[]) hM.rawAt7 cl0) fun a hE=>Z5 hE rfl Tryz.underlying29 (hM.rd hv0_1) fun a hE=>Zi hE rfl rfl rfl fun a hE=>Ze ?_))))
      refine Zo hE rfl ?_ ?_
      ·intro hb80
       have hF43:=Zt hF43 hb80
       refine Zb (XM (parts:=[]) (vs:=[]) (cs:=cat [[(Value.slice none 0 0)],[(Value.slice none 0 0)],[(Value.slice none 0 0)]]) hE Za ld rfl rfl Yv AH Vv fun a hE=>YB (parts:=[]) (vs:=[]) (cs:=enc (Vector.replicate 32 (0 : UInt8))) hE Za ld rfl rfl ZL rfl ty5 Yp ?_); intro a hE
       have hM:=hM.pull6
       refine Zm (seg:=cat [[(Value.slice none 0 0)],[(Value.slice none 0 0)],[(Value.slice none 0 0)]]) (cs':=cat [[(Value.slice none 0 0)],[(Value.slice none 0 0)],[(Value.slice none 0 0)]]) hE hM Za rfl rfl rfl Yv cq (Nat.le_of_eq ((Nat.zero_add _).trans (Eq.trans cq (Eq.symm cq)))) (Yq (cc1 Xp (cc1 Xp (cc1 Xp cc0)))) (Zh (Eq.trans cq (Eq.symm cq))) ?_; intro w a hM hE
       have hM:=hM.pull6
       refine Zm (seg:=enc (Vector.replicate 32 (0 : UInt8))) (cs':=enc (Vector.replicate 32 (0 : UInt8))) hE hM Za rfl rfl rfl ZL (Flat.len _) (zle flq) (Flat.cell _) (Zh flq) fun w a hM hE=>Zc hE rfl fun a hE=>Ze ?_
       have hM:=M.nilS (α:=Int) NoB noB (M.nilS (α:=(List UInt8)) NoB noB (M.nilS (α:=(Vector UInt8 32)) NoB noB hM))
       obtain rfl:=Option.some.inj hF43
       have hq84 : Z6 Tryz.prog _ _ (.cell 4 31) _:=ZK hE rfl Yv rfl hM.rawAt4 cq rfl
       have hq85 : Z6 Tryz.prog _ _ (.cell 5 35) _:=ZK hE rfl ZL rfl hM.rawAt3 (Flat.len _) rfl
       have hM:=M.fst (l:=[_,_,_]) hM.pull1.pull2
       exact wp_ret (Zv (Qf hE rfl hq84 hq85 (ZU hE rfl) ⟨_,rfl,(Value.slice none 0 0),(Value.slice none 0 0),(Value.slice none 0 0),rfl,hM.outF (Yf (Yf (Yf Xi))),hM.kept⟩))
      ·intro hb80
       have hF43:=Zs hF43 hb80
       refine wp_skip (Zp ?_)
       obtain ⟨j86,hl87,hF88⟩:=bind_some hF43
       refine ZN (fun a w=>∃ (u89 : Value),Env 116 a [(1,v1_1),(2,(ptr b1 0)),(4,(ptr b3 0)),(5,(ptr b5 0)),(7,(ptr b23 0)),(8,vI r26),(9,(ptr b36 0))] ∧ M (Old w0) w0 w [raw b36 (cat [[u89],[q25_5_0_2],[q25_5_0_3]]),own NoB (r28.Data : (List (List UInt8))) [q25_5_0_2],own NoB (r28.Counts : (List Int)) [q25_5_0_3],raw b23 (enc r21),raw b5 (enc (Vector.replicate 32 (0 : UInt8))),raw b3 (cat [[(Value.slice none 0 0)],[(Value.slice none 0 0)],[(Value.slice none 0 0)]]),raw b1 (cat [[v0_1],[v0_2],[v0_3]]),osl NoB (j86 : List (Vector UInt8 32)) u89]) ?_ ?_
       ·skip
        obtain ⟨l94,e95,hl87⟩:=bind_some hl87
        have h96 : Rep.sat (Old w0) w0 l94 [(Y0 v0_1 ((0 : Int)).toNat (r26).toNat 32)] []:=Xa hv0_1 e95 -- ^
        obtain ⟨l97,e98,hl87⟩:=bind_some hl87
        obtain ⟨l104,e105,hl87⟩:=bind_some hl87
        obtain ⟨l109,e110,hl87⟩:=bind_some hl87
        have h111 : Rep.sat (Old w0) w0 l109 [(Y0 v0_1 (r26).toNat ((p0.Keys.length : Int)).toNat 32)] []:=Xa hv0_1 e110 -- ^
        refine Yz (its:=[raw b36 (cat [[q25_5_0_1],[q25_5_0_2],[q25_5_0_3]]),own NoB (r28.Keys : (List (Vector UInt8 32))) [q25_5_0_1],own NoB (r28.Data : (List (List UInt8))) [q25_5_0_2],own NoB (r28.Counts : (List Int)) [q25_5_0_3],raw b23 (enc r21),raw b5 (enc (Vector.replicate 32 (0 : UInt8))),raw b3 (cat [[(Value.slice none 0 0)],[(Value.slice none 0 0)],[(Value.slice none 0 0)]]),raw b1 (cat [[v0_1],[v0_2],[v0_3]])]) (mk:=([mkN [(8,fun v=>osl NoB (((([] : List (Vector UInt8 32)) ++ l94) ++ ([r21] : List (Vector UInt8 32))) : List (Vector UInt8 32)) v),(5,fun v=>osl NoB ((([] : List (Vector UInt8 32)) ++ l94) : List (Vector UInt8 32)) v),(0,fun v=>osl NoB (([] : List (Vector UInt8 32)) : List (Vector UInt8 32)) v)],mkO 7 (fun v=>osl NoB (([r21] : List (Vector UInt8 32)) : List (Vector UInt8 32)) v)] : Mk)) [68,69,70,71,72,73,74,75,76,77,78,79,80] Yu rfl rfl (by decide) rfl hE (fun u=>M.qE (M.qE (M.q0 hM.drew u) emO) emN) (qsM (pr:=fun v=>True) ?_ (qsP (fun z=>Zq z.E Za ld rfl (XL) (kr0 rfl)) (qsP (v:=v0_1) ?_ (qsP (fun z=>Zj z.E Za ld rfl (kr0 rfl)) (qsP (v:=(Y0 v0_1 ((0 : Int)).toNat (r26).toNat 32)) ?_ (qsM (pr:=fun v=>True) ?_ (qsP (v:=(Value.agg (enc r21).toArray)) ?_ (qsM (pr:=fun v=>True) ?_ (qsM (pr:=fun v=>True) ?_ (qsP (fun z=>Zq z.E Za ld rfl (XL) (kr0 rfl)) (qsP (v:=v0_1) ?_ (qsP (fun z=>Zj z.E Za ld rfl (kr0 rfl)) (qsP (v:=(Y0 v0_1 (r26).toNat ((p0.Keys.length : Int)).toNat 32)) ?_ qs0))))))))))))) ?_
        ·intro a w ux91 D z
         have hE:=z.E
         have hD : D 0 = false:=z.F
         have hM:=z.M
         refine Yr (xs:=[]) (l:=([] : List (Vector UInt8 32))) (vs:=[]) hE hM Za ld rfl rfl Tryz.underlying29 ZL rfl (by decide) rfl ?_; intro u92 w a hM hE
         have hq5 : D 5 = false:=Qg (j:=5) (k:=0) z.c rfl rfl rfl hD
         have hq8 : D 8 = false:=Qg (j:=8) (k:=0) z.c rfl rfl rfl hq5
         exact ⟨_,_,rfl,hE,M.qPut (p:=mkN [(8,fun v=>osl NoB (((([] : List (Vector UInt8 32)) ++ l94) ++ ([r21] : List (Vector UInt8 32))) : List (Vector UInt8 32)) v),(5,fun v=>osl NoB ((([] : List (Vector UInt8 32)) ++ l94) : List (Vector UInt8 32)) v),(0,fun v=>osl NoB (([] : List (Vector UInt8 32)) : List (Vector UInt8 32)) v)]) (its:=[raw b36 (cat [[q25_5_0_1],[q25_5_0_2],[q25_5_0_3]]),own NoB (r28.Keys : (List (Vector UInt8 32))) [q25_5_0_1],own NoB (r28.Data : (List (List UInt8))) [q25_5_0_2],own NoB (r28.Counts : (List Int)) [q25_5_0_3],raw b23 (enc r21),raw b5 (enc (Vector.replicate 32 (0 : UInt8))),raw b3 (cat [[(Value.slice none 0 0)],[(Value.slice none 0 0)],[(Value.slice none 0 0)]]),raw b1 (cat [[v0_1],[v0_2],[v0_3]])]) (mk1:=[]) (mk2:=[_]) hM rfl (Qc (U6 hq8 (U6 hq5 (U6 hD TC)))) (V1 (l:=[_,_]) (U6 hq8 (U6 hq5 TC))),trivial⟩
        ·intro a w ux91 D z
         have hE:=z.E
         have hM:=z.M
         exact ZB (v:=v0_1) hE rfl To rfl (At.cat (pre:=[]) hM.rawAt7 cl0) fun a hE=>⟨Kept.refl _ _,_,rfl,hE⟩
        ·intro a w ux91 D z
         have hE:=z.E
         have hM:=z.M
         exact Xf hE Za ld rfl rfl (Qs rfl) rfl rfl Tryz.underlying29 ZL (hM.rd hv0_1) e95 fun a hE=>⟨Kept.refl _ _,_,rfl,hE⟩
        ·intro a w ux91 D z
         have hE:=z.E
         have hD : D 5 = false:=z.F
         have d0 : D 0 = true:=z.p 0 _ rfl rfl
         have hM:=z.M
         have hq8 : D 8 = false:=Qg (j:=8) (k:=0) z.c rfl rfl rfl hD
         have hM:=((hM.chnF (pre:=[_,_,_,_,_,_,_,_]) hq8).chnF (pre:=[_,_,_,_,_,_,_,_]) hD).chnT (pre:=[_,_,_,_,_,_,_,_]) d0
         have e101:=(Yj e98).1
         have hM:=hM.pull8
         exact Z2 hE hM Za ld rfl rfl (hM.rd h96) Tryz.underlying29 ZL rfl (by decide) e101 fun u99 w a hM hE=>⟨_,_,rfl,hE,M.qTogS (p:=mkN [(8,fun v=>osl NoB (((([] : List (Vector UInt8 32)) ++ l94) ++ ([r21] : List (Vector UInt8 32))) : List (Vector UInt8 32)) v),(5,fun v=>osl NoB ((([] : List (Vector UInt8 32)) ++ l94) : List (Vector UInt8 32)) v),(0,fun v=>osl NoB (([] : List (Vector UInt8 32)) : List (Vector UInt8 32)) v)]) (its:=[raw b36 (cat [[q25_5_0_1],[q25_5_0_2],[q25_5_0_3]]),own NoB (r28.Keys : (List (Vector UInt8 32))) [q25_5_0_1],own NoB (r28.Data : (List (List UInt8))) [q25_5_0_2],own NoB (r28.Counts : (List Int)) [q25_5_0_3],raw b23 (enc r21),raw b5 (enc (Vector.replicate 32 (0 : UInt8))),raw b3 (cat [[(Value.slice none 0 0)],[(Value.slice none 0 0)],[(Value.slice none 0 0)]]),raw b1 (cat [[v0_1],[v0_2],[v0_3]])]) (mk1:=[]) (mk2:=[_]) hM rfl (V1 (l:=[_]) (U6 hq8 TC)),trivial⟩
        ·intro a w ux91 D z
         have hE:=z.E
         have hM:=z.M
         exact Zr hE rfl ZL rfl hM.rawAt4 (Flat.len _) fun a hE=>⟨Kept.refl _ _,_,rfl,hE⟩
        ·intro a w ux91 D z
         have hE:=z.E
         have hD : D 7 = false:=z.F
         have hM:=z.M
         exact Yr (xs:=[.tmp 74]) (l:=([r21] : List (Vector UInt8 32))) (vs:=[(Value.agg (enc r21).toArray)]) hE hM Za ld rfl rfl Tryz.underlying29 ZL rfl (by decide) rfl fun u102 w a hM hE=>⟨_,_,rfl,hE,M.qFill (mk1:=[_]) (mk2:=[]) (f:=(fun v=>osl NoB (([r21] : List (Vector UInt8 32)) : List (Vector UInt8 32)) v)) hM rfl hD,trivial⟩
        ·intro a w ux91 D z
         have hE:=z.E
         have hD : D 8 = false:=z.F
         have d5 : D 5 = true:=z.p 0 _ rfl rfl
         have d7 : D 7 = true:=z.p 1 _ rfl rfl
         have hM:=((z.M.chnF (pre:=[_,_,_,_,_,_,_,_]) hD).chnT (pre:=[_,_,_,_,_,_,_,_]) d5).sure (pre:=[_,_,_,_,_,_,_,_,_]) d7
         obtain ⟨e108,rfl⟩:=Yj e105
         have hM:=hM.pull8
         refine Z2 hE hM Za ld rfl rfl (hM.sl (pre:=[_,_,_,_,_,_,_,_,_]) noB) Tryz.underlying29 ZL rfl (by decide) e108 ?_; intro u106 w a hM hE
         have hM:=hM.unsure (pre:=[_,_,_,_,_,_,_,_,_]) d7
         exact ⟨_,_,rfl,hE,M.qTogS (p:=mkN [(8,fun v=>osl NoB (((([] : List (Vector UInt8 32)) ++ l94) ++ ([r21] : List (Vector UInt8 32))) : List (Vector UInt8 32)) v),(5,fun v=>osl NoB ((([] : List (Vector UInt8 32)) ++ l94) : List (Vector UInt8 32)) v),(0,fun v=>osl NoB (([] : List (Vector UInt8 32)) : List (Vector UInt8 32)) v)]) (its:=[raw b36 (cat [[q25_5_0_1],[q25_5_0_2],[q25_5_0_3]]),own NoB (r28.Keys : (List (Vector UInt8 32))) [q25_5_0_1],own NoB (r28.Data : (List (List UInt8))) [q25_5_0_2],own NoB (r28.Counts : (List Int)) [q25_5_0_3],raw b23 (enc r21),raw b5 (enc (Vector.replicate 32 (0 : UInt8))),raw b3 (cat [[(Value.slice none 0 0)],[(Value.slice none 0 0)],[(Value.slice none 0 0)]]),raw b1 (cat [[v0_1],[v0_2],[v0_3]])]) (mk1:=[]) (mk2:=[_]) hM rfl (V1 (l:=[]) TC),trivial⟩
        ·intro a w ux91 D z
         have hE:=z.E
         have hM:=z.M
         exact ZB (v:=v0_1) hE rfl To rfl (At.cat (pre:=[]) hM.rawAt7 cl0) fun a hE=>⟨Kept.refl _ _,_,rfl,hE⟩
        ·intro a w ux91 D z
         have hE:=z.E
         have hM:=z.M
         exact Xf hE Za ld rfl (Qs rfl) rfl rfl rfl Tryz.underlying29 ZL (hM.rd hv0_1) e110 fun a hE=>⟨Kept.refl _ _,_,rfl,hE⟩
        ·intro a w ux91 D hE hM hG hall
         have d7:=hall 7 (by decide)
         have d8:=hall 8 (by decide)
         have hM:=(hM.chnT (pre:=[_,_,_,_,_,_,_,_]) d8).sure (pre:=[_,_,_,_,_,_,_,_,_]) d7
         obtain ⟨l112,e113,hl87⟩:=bind_some hl87
         obtain ⟨e116,rfl⟩:=Yj e113
         have hM:=hM.pull8
         refine Z2 hE hM Za ld rfl rfl (hM.rd h111) Tryz.underlying29 ZL rfl (by decide) e116 fun u114 w a hM hE=>Zy hE rfl (XL) ?_; intro a hE
         have hM:=hM.pull1
         refine Zm (seg:=[u114]) hE hM Za rfl rfl (YC (hM.sl (pre:=[_]) noB)) To rfl (Us (pre:=[]) cl0 rfl) (Rep.cell (hM.sl (pre:=[_]) noB)) (XO (pre:=[]) cl0 rfl) fun w a hM hE=>Zg ?_
         obtain rfl:=Option.some.inj hl87
         refine Zk ?_
         have hM:=M.fst (l:=[_,_,_,_,_,_,_,_]) hM.pull1.pull8.pull8.pull8.pull8.pull8.pull8.pull7
         exact ⟨u114,hE.sub ⟨rfl,rfl,rfl,rfl,rfl,rfl,rfl,trivial⟩,hM⟩
       ·skip
        rintro a w ⟨u89,hE,hM⟩
        obtain ⟨j118,hl119,hF120⟩:=bind_some hF88
        refine ZN (fun a w=>∃ (u121 : Value),Env 116 a [(1,v1_1),(4,(ptr b3 0)),(5,(ptr b5 0)),(7,(ptr b23 0)),(8,vI r26),(9,(ptr b36 0))] ∧ M (Old w0) w0 w [raw b36 (cat [[u89],[q25_5_0_2],[u121]]),own NoB (r28.Data : (List (List UInt8))) [q25_5_0_2],raw b23 (enc r21),raw b5 (enc (Vector.replicate 32 (0 : UInt8))),raw b3 (cat [[(Value.slice none 0 0)],[(Value.slice none 0 0)],[(Value.slice none 0 0)]]),osl NoB (j86 : List (Vector UInt8 32)) u89,osl NoB (j118 : List Int) u121]) ?_ ?_
        ·skip
         obtain ⟨l126,e127,hl119⟩:=bind_some hl119
         have h128 : Rep.sat (Old w0) w0 l126 [(Y0 v0_3 ((0 : Int)).toNat (r26).toNat 1)] []:=Xa hv0_3 e127 -- ^
         obtain ⟨l129,e130,hl119⟩:=bind_some hl119
         obtain ⟨l136,e137,hl119⟩:=bind_some hl119
         obtain ⟨l141,e142,hl119⟩:=bind_some hl119
         have h143 : Rep.sat (Old w0) w0 l141 [(Y0 v0_3 (r26).toNat ((p0.Counts.length : Int)).toNat 1)] []:=Xa hv0_3 e142 -- ^
         refine Yz (its:=[raw b36 (cat [[u89],[q25_5_0_2],[q25_5_0_3]]),own NoB (r28.Data : (List (List UInt8))) [q25_5_0_2],own NoB (r28.Counts : (List Int)) [q25_5_0_3],raw b23 (enc r21),raw b5 (enc (Vector.replicate 32 (0 : UInt8))),raw b3 (cat [[(Value.slice none 0 0)],[(Value.slice none 0 0)],[(Value.slice none 0 0)]]),raw b1 (cat [[v0_1],[v0_2],[v0_3]]),osl NoB (j86 : List (Vector UInt8 32)) u89]) (mk:=([mkN [(7,fun v=>osl NoB (((([] : List Int) ++ l126) ++ ([1] : List Int)) : List Int) v),(5,fun v=>osl NoB ((([] : List Int) ++ l126) : List Int) v),(0,fun v=>osl NoB (([] : List Int) : List Int) v)],mkO 6 (fun v=>osl NoB (([1] : List Int) : List Int) v)] : Mk)) [83,84,85,86,87,88,89,90,91,92,93,94] Yu rfl rfl (by decide) rfl hE (fun u=>M.qE (M.qE (M.q0 hM.drew u) emO) emN) (qsM (pr:=fun v=>True) ?_ (qsP (fun z=>Zq z.E Za ld rfl (Wb) (kr0 rfl)) (qsP (v:=v0_3) ?_ (qsP (fun z=>Zj z.E Za ld rfl (kr0 rfl)) (qsP (v:=(Y0 v0_3 ((0 : Int)).toNat (r26).toNat 1)) ?_ (qsM (pr:=fun v=>True) ?_ (qsM (pr:=fun v=>True) ?_ (qsM (pr:=fun v=>True) ?_ (qsP (fun z=>Zq z.E Za ld rfl (Wb) (kr0 rfl)) (qsP (v:=v0_3) ?_ (qsP (fun z=>Zj z.E Za ld rfl (kr0 rfl)) (qsP (v:=(Y0 v0_3 (r26).toNat ((p0.Counts.length : Int)).toNat 1)) ?_ qs0)))))))))))) ?_
         ·intro a w ux123 D z
          have hE:=z.E
          have hD : D 0 = false:=z.F
          have hM:=z.M
          refine Yr (xs:=[]) (l:=([] : List Int)) (vs:=[]) hE hM Za ld rfl rfl Tryz.underlying24 ty2 rfl (by decide) rfl ?_; intro u124 w a hM hE
          have hq5 : D 5 = false:=Qg (j:=5) (k:=0) z.c rfl rfl rfl hD
          have hq7 : D 7 = false:=Qg (j:=7) (k:=0) z.c rfl rfl rfl hq5
          exact ⟨_,_,rfl,hE,M.qPut (p:=mkN [(7,fun v=>osl NoB (((([] : List Int) ++ l126) ++ ([1] : List Int)) : List Int) v),(5,fun v=>osl NoB ((([] : List Int) ++ l126) : List Int) v),(0,fun v=>osl NoB (([] : List Int) : List Int) v)]) (its:=[raw b36 (cat [[u89],[q25_5_0_2],[q25_5_0_3]]),own NoB (r28.Data : (List (List UInt8))) [q25_5_0_2],own NoB (r28.Counts : (List Int)) [q25_5_0_3],raw b23 (enc r21),raw b5 (enc (Vector.replicate 32 (0 : UInt8))),raw b3 (cat [[(Value.slice none 0 0)],[(Value.slice none 0 0)],[(Value.slice none 0 0)]]),raw b1 (cat [[v0_1],[v0_2],[v0_3]]),osl NoB (j86 : List (Vector UInt8 32)) u89]) (mk1:=[]) (mk2:=[_]) hM rfl (Qc (U6 hq7 (U6 hq5 (U6 hD TC)))) (V1 (l:=[_,_]) (U6 hq7 (U6 hq5 TC))),trivial⟩
         ·intro a w ux123 D z
          have hE:=z.E
          have hM:=z.M
          exact ZB (v:=v0_3) hE rfl U7 rfl (At.cat (pre:=[[v0_1],[v0_2]]) hM.rawAt6 ck) fun a hE=>⟨Kept.refl _ _,_,rfl,hE⟩
         ·intro a w ux123 D z
          have hE:=z.E
          have hM:=z.M
          exact Xf hE Za ld rfl rfl (Qs rfl) rfl rfl Tryz.underlying24 ty2 (hM.rd hv0_3) e127 fun a hE=>⟨Kept.refl _ _,_,rfl,hE⟩
         ·intro a w ux123 D z
          have hE:=z.E
          have hD : D 5 = false:=z.F
          have d0 : D 0 = true:=z.p 0 _ rfl rfl
          have hM:=z.M
          have hq7 : D 7 = false:=Qg (j:=7) (k:=0) z.c rfl rfl rfl hD
          have hM:=((hM.chnF (pre:=[_,_,_,_,_,_,_,_]) hq7).chnF (pre:=[_,_,_,_,_,_,_,_]) hD).chnT (pre:=[_,_,_,_,_,_,_,_]) d0
          have e133:=(Yj e130).1
          have hM:=hM.pull8
          exact Z2 hE hM Za ld rfl rfl (hM.rd h128) Tryz.underlying24 ty2 rfl (by decide) e133 fun u131 w a hM hE=>⟨_,_,rfl,hE,M.qTogS (p:=mkN [(7,fun v=>osl NoB (((([] : List Int) ++ l126) ++ ([1] : List Int)) : List Int) v),(5,fun v=>osl NoB ((([] : List Int) ++ l126) : List Int) v),(0,fun v=>osl NoB (([] : List Int) : List Int) v)]) (its:=[raw b36 (cat [[u89],[q25_5_0_2],[q25_5_0_3]]),own NoB (r28.Data : (List (List UInt8))) [q25_5_0_2],own NoB (r28.Counts : (List Int)) [q25_5_0_3],raw b23 (enc r21),raw b5 (enc (Vector.replicate 32 (0 : UInt8))),raw b3 (cat [[(Value.slice none 0 0)],[(Value.slice none 0 0)],[(Value.slice none 0 0)]]),raw b1 (cat [[v0_1],[v0_2],[v0_3]]),osl NoB (j86 : List (Vector UInt8 32)) u89]) (mk1:=[]) (mk2:=[_]) hM rfl (V1 (l:=[_]) (U6 hq7 TC)),trivial⟩
         ·intro a w ux123 D z
          have hE:=z.E
          have hD : D 6 = false:=z.F
          have hM:=z.M
          exact Yr (xs:=[.const (vI 1)]) (l:=([1] : List Int)) (vs:=[vI 1]) hE hM Za ld rfl rfl Tryz.underlying24 ty2 rfl (by decide) rfl fun u134 w a hM hE=>⟨_,_,rfl,hE,M.qFill (mk1:=[_]) (mk2:=[]) (f:=(fun v=>osl NoB (([1] : List Int) : List Int) v)) hM rfl hD,trivial⟩
         ·intro a w ux123 D z
          have hE:=z.E
          have hD : D 7 = false:=z.F
          have d5 : D 5 = true:=z.p 0 _ rfl rfl
          have d6 : D 6 = true:=z.p 1 _ rfl rfl
          have hM:=((z.M.chnF (pre:=[_,_,_,_,_,_,_,_]) hD).chnT (pre:=[_,_,_,_,_,_,_,_]) d5).sure (pre:=[_,_,_,_,_,_,_,_,_]) d6
          obtain ⟨e140,rfl⟩:=Yj e137
          have hM:=hM.pull8
          refine Z2 hE hM Za ld rfl rfl (hM.sl (pre:=[_,_,_,_,_,_,_,_,_]) noB) Tryz.underlying24 ty2 rfl (by decide) e140 ?_; intro u138 w a hM hE
          have hM:=hM.unsure (pre:=[_,_,_,_,_,_,_,_,_]) d6
          exact ⟨_,_,rfl,hE,M.qTogS (p:=mkN [(7,fun v=>osl NoB (((([] : List Int) ++ l126) ++ ([1] : List Int)) : List Int) v),(5,fun v=>osl NoB ((([] : List Int) ++ l126) : List Int) v),(0,fun v=>osl NoB (([] : List Int) : List Int) v)]) (its:=[raw b36 (cat [[u89],[q25_5_0_2],[q25_5_0_3]]),own NoB (r28.Data : (List (List UInt8))) [q25_5_0_2],own NoB (r28.Counts : (List Int)) [q25_5_0_3],raw b23 (enc r21),raw b5 (enc (Vector.replicate 32 (0 : UInt8))),raw b3 (cat [[(Value.slice none 0 0)],[(Value.slice none 0 0)],[(Value.slice none 0 0)]]),raw b1 (cat [[v0_1],[v0_2],[v0_3]]),osl NoB (j86 : List (Vector UInt8 32)) u89]) (mk1:=[]) (mk2:=[_]) hM rfl (V1 (l:=[]) TC),trivial⟩
         ·intro a w ux123 D z
          have hE:=z.E
          have hM:=z.M
          exact ZB (v:=v0_3) hE rfl U7 rfl (At.cat (pre:=[[v0_1],[v0_2]]) hM.rawAt6 ck) fun a hE=>⟨Kept.refl _ _,_,rfl,hE⟩
         ·intro a w ux123 D z
          have hE:=z.E
          have hM:=z.M
          exact Xf hE Za ld rfl (Qs rfl) rfl rfl rfl Tryz.underlying24 ty2 (hM.rd hv0_3) e142 fun a hE=>⟨Kept.refl _ _,_,rfl,hE⟩
         ·intro a w ux123 D hE hM hG hall
          have d6:=hall 6 (by decide)
          have d7:=hall 7 (by decide)
          have hM:=(hM.chnT (pre:=[_,_,_,_,_,_,_,_]) d7).sure (pre:=[_,_,_,_,_,_,_,_,_]) d6
          obtain ⟨l144,e145,hl119⟩:=bind_some hl119
          obtain ⟨e148,rfl⟩:=Yj e145
          have hM:=hM.pull8
          refine Z2 hE hM Za ld rfl rfl (hM.rd h143) Tryz.underlying24 ty2 rfl (by decide) e148 fun u146 w a hM hE=>Zy hE rfl (Wb) ?_; intro a hE
          have hM:=hM.pull1
          refine Zm (seg:=[u146]) hE hM Za rfl rfl (YC (hM.sl (pre:=[_]) noB)) U7 rfl (Us (pre:=[[u89],[q25_5_0_2]]) ck rfl) (Rep.cell (hM.sl (pre:=[_]) noB)) (XO (pre:=[[u89],[q25_5_0_2]]) ck rfl) fun w a hM hE=>Zg ?_
          obtain rfl:=Option.some.inj hl119
          refine Zk ?_
          have hM:=M.fst (l:=[_,_,_,_,_,_,_]) hM.pull1.pull8.pull7.pull7.pull7.pull6.pull6
          exact ⟨u146,hE.sub ⟨rfl,rfl,rfl,rfl,rfl,rfl,trivial⟩,hM⟩
        ·skip
         rintro a w ⟨u121,hE,hM⟩
         have hM:=hM.pull1.toOsl0
         obtain ⟨hs150,hl151,hM⟩:=hM.toHdr noB
         refine Zb (Yr (xs:=[]) (l:=([] : List (Opq 1))) (vs:=[]) hE hM Za ld rfl rfl Tryz.underlying23 YU rfl (by decide) rfl fun u153 w a hM hE=>Zy hE rfl (We) fun a hE=>ZB (v:=q25_5_0_2) hE rfl U8 rfl (At.cat (pre:=[[u89]]) hM.rawAt3 ck) fun a hE=>Zd hE rfl ?_); intro a hE
         obtain ⟨l155,d_l155,hF120⟩:=bind_some hF120
         obtain ⟨h_l155,e156,q_l155⟩:=zu d_l155 hl151
         refine Xf hE Za ld rfl rfl rfl rfl rfl Tryz.underlying23 YU (hM.sl (pre:=[_]) noB) e156 ?_; intro a hE
         obtain ⟨l157,e158,hF120⟩:=bind_some hF120
         have e161:=(Yj e158).1
         have e161 : (([] : List (Opq 1)).length + h_l155.length) * 24 ≤ 140737488355328:=by simpa [q_l155] using e161
         refine Z2 hE hM Za ld rfl rfl (Xa (hM.sl (pre:=[_]) noB) e156) Tryz.underlying23 YU rfl (by decide) e161 fun u159 w a hM hE=>Zd hE rfl ?_; intro a hE
         obtain ⟨r162,e163,hF120⟩:=bind_some hF120
         refine Zx hE rfl cb65 (TY _ p1 v1_1 (hM.rdo hv1_1) r162 e163) ?_
         rintro u164 w a ⟨_,rfl,hFr,hK⟩ hE
         have hM:=hM.add hK hFr
         have hc167:=YC (hM.sl (pre:=[]) noB)
         obtain ⟨o165,ho166⟩ : ∃ o : Opq 1,o.cs = [u164]:=⟨⟨[u164],rfl,Rep.cell (hM.sl (pre:=[]) noB)⟩,rfl⟩
         refine Yr (xs:=[.tmp 104]) (l:=([o165] : List (Opq 1))) (vs:=[u164]) hE hM Za ld rfl rfl Tryz.underlying23 YU rfl (by decide) (congrArg (fun z=>[z]) (hc167.trans ho166.symm)) ?_; intro u168 w a hM hE
         have hM:=M.elsOne (o:=o165) hM.pull1 ho166
         obtain ⟨l171,e172,hF120⟩:=bind_some hF120
         have e175:=(Yj e172).1
         have e175 : ((([] : List (Opq 1)) ++ h_l155).length + ([o165] : List (Opq 1)).length) * 24 ≤ 140737488355328:=by simpa [q_l155] using e175
         have hM:=hM.pull2
         refine Z2 hE hM Za ld rfl rfl (hM.sl (pre:=[_,_]) noB) Tryz.underlying23 YU rfl (by decide) e175 fun u173 w a hM hE=>Zc hE rfl fun a hE=>Ze (Zb (Zd hE rfl fun a hE=>Zy hE rfl (We) fun a hE=>ZB (v:=q25_5_0_2) hE rfl U8 rfl (At.cat (pre:=[[u89]]) hM.rawAt5 ck) fun a hE=>Zd hE rfl ?_)); intro a hE
         obtain ⟨l176,d_l176,hF120⟩:=bind_some hF120
         obtain ⟨h_l176,e177,q_l176⟩:=jX d_l176 hl151
         refine Xf hE Za ld rfl rfl rfl rfl rfl Tryz.underlying23 YU (hM.sl (pre:=[_,_,_]) noB) e177 ?_; intro a hE
         obtain ⟨l178,e179,hF120⟩:=bind_some hF120
         have e182:=(Yj e179).1
         have e182 : (((([] : List (Opq 1)) ++ h_l155) ++ ([o165] : List (Opq 1))).length + h_l176.length) * 24 ≤ 140737488355328:=by simpa [q_l155,q_l176] using e182
         refine Z2 hE hM Za ld rfl rfl (Xa (hM.sl (pre:=[_,_,_]) noB) e177) Tryz.underlying23 YU rfl (by decide) e182 fun u180 w a hM hE=>Zy hE rfl (We) ?_; intro a hE
         have hM:=hM.pull5
         refine Zm (seg:=[u180]) hE hM Za rfl rfl (YC (hM.sl (pre:=[_]) noB)) U8 rfl (Us (pre:=[[u89]]) ck rfl) (Rep.cell (hM.sl (pre:=[_]) noB)) (XO (pre:=[[u89]]) ck rfl) ?_; intro w a hM hE
         have hM:=((((M.ofHdr (α:=(List UInt8)) ((hM.pull5.pull3.insEls2 noB d_l155 d_l176 e156 e177).pull2) noB).pull2).drop).pull2).drop
         refine Ze ?_
         obtain ⟨j183,hl184,hF185⟩:=bind_some hF120
         refine ZN (fun a w=>∃ (u186 : Value) (u188 : Value) (u190 : Value),Env 116 a [(4,(ptr b3 0)),(5,(ptr b5 0)),(6,vI j183.2.2.2.2)] ∧ M (Old w0) w0 w [raw b5 (enc j183.2.2.2.1),raw b3 (cat [[u186],[u188],[u190]]),osl NoB (j183.1 : List (Vector UInt8 32)) u186,osl NoB (j183.2.1 : List (List UInt8)) u188,osl NoB (j183.2.2.1 : List Int) u190]) ?_ ?_
         ·skip
          have hM:=hM.pull4
          refine Yz (its:=[osl NoB ((((([] : List (List UInt8)) ++ l155) ++ ([r162] : List (List UInt8))) ++ l176) : List (List UInt8)) u180,raw b36 (cat [[u89],[u180],[u121]]),raw b23 (enc r21),raw b5 (enc (Vector.replicate 32 (0 : UInt8))),osl NoB (j86 : List (Vector UInt8 32)) u89,osl NoB (j118 : List Int) u121]) (mk:=([mkT 2 (raw b3 (cat [[(Value.slice none 0 0)],[(Value.slice none 0 0)],[(Value.slice none 0 0)]])) (raw b3 (cat [[u89],[u180],[u121]]))] : Mk)) [114,115,118] Yu rfl rfl (by decide) rfl hE (fun u=>M.qT (M.q0 hM.drew u)) (qsP (v:=(Value.agg (cat [[u89],[u180],[u121]]).toArray)) ?_ (qsP (v:=(Value.agg (enc r21).toArray)) ?_ (qsM (pr:=fun v=>True) ?_ qs0))) ?_
          ·intro a w ux192 D z
           have hE:=z.E
           have hD : D 0 = false:=z.F
           have hM:=z.M.togA (pre:=[_,_,_,_,_,_]) (Qg (j:=2) (k:=0) z.c rfl rfl rfl hD)
           exact Zr hE rfl Yv rfl hM.rawAt1 cq fun a hE=>⟨Kept.refl _ _,_,rfl,hE⟩
          ·intro a w ux192 D z
           have hE:=z.E
           have hM:=z.M
           exact Zr hE rfl ZL rfl hM.rawAt2 (Flat.len _) fun a hE=>⟨Kept.refl _ _,_,rfl,hE⟩
          ·intro a w ux192 D z
           have hE:=z.E
           have hD : D 2 = false:=z.F
           have hM:=(z.M.togA (pre:=[_,_,_,_,_,_]) hD).pull6
           exact Zm (seg:=cat [[u89],[u180],[u121]]) (cs':=cat [[u89],[u180],[u121]]) hE hM Za rfl rfl rfl Yv cq (Nat.le_of_eq ((Nat.zero_add _).trans (Eq.trans cq (Eq.symm cq)))) (Yq (cc1 (Rep.cell (hM.sl (pre:=[_,_,_,_,_]) noB)) (cc1 (Rep.cell (hM.sl (pre:=[_]) noB)) (cc1 (Rep.cell (hM.sl (pre:=[_,_,_,_,_,_]) noB)) cc0)))) (Zh (Eq.trans cq (Eq.symm cq))) fun w a hM hE=>⟨undef,_,rfl,Env.dummy hE (by decide),M.qTog (mk1:=[]) (mk2:=[]) hM rfl,trivial⟩
          ·intro a w ux192 D hE hM hG hall
           have d2:=hall 2 (by decide)
           have hM:=(hM.togB (pre:=[_,_,_,_,_,_]) d2).pull3
           refine Zm (seg:=enc r21) (cs':=enc r21) hE hM Za rfl rfl rfl ZL (Flat.len _) (zle flq) (Flat.cell _) (Zh flq) fun w a hM hE=>Zc hE rfl fun a hE=>Zg ?_
           obtain rfl:=Option.some.inj hl184
           refine Zk ?_
           have hM:=M.fst (l:=[_,_,_,_,_]) hM.pull5.pull2.pull5.pull6.pull4
           exact ⟨u89,u180,u121,hE.sub ⟨rfl,rfl,rfl,trivial⟩,hM⟩
         ·skip
          rintro a w ⟨u186,u188,u190,hE,hM⟩
          obtain rfl:=Option.some.inj hF185
          have hq194 : Z6 Tryz.prog _ _ (.cell 4 31) _:=ZK hE rfl Yv rfl hM.rawAt1 cq rfl
          have hq195 : Z6 Tryz.prog _ _ (.cell 5 35) _:=ZK hE rfl ZL rfl hM.rawAt0 (Flat.len _) rfl
          have hM:=M.fst (l:=[_,_,_]) hM.pull4.pull4.pull4
          exact wp_ret (Qf hE rfl hq194 hq195 (ZU hE rfl) ⟨_,rfl,u186,u188,u190,rfl,hM.outF (Yf (Yf (Yf Xi))),hM.kept⟩)
def Uw (p1 : Int) (p2 : Int) (s4 : Int × Int) : Option (Fl (Int × Int) Int) :=
 if (decide (s4.2 ≥ p2)) = true then (((XW s4.2).bind fun _=>(if ((Hj (TJ s4.1 s4.2) 1) == 1) = true then ((XW (wr (s4.2 - p2))).bind fun _=>some (JD s4.1 (BD p1 (wr (s4.2 - p2))))) else (some s4.1) : Option (Int)).bind fun j13=>some j13 : Option (Int)).bind fun j9=>some (Fl.nx (j9,wr (s4.2 - 1)))) else (some (Fl.ex s4.1))
def U4 (p0 : Int) (p1 : Int) (p2 : Int) : Option (Int) :=
 (ZA (Uw p1 p2) (p0,15)).bind fun j1=>some j1
theorem A4 (w0 : World) (p0 : Int) (p1 : Int) (p2 : Int) (r : Int) (hF : U4 p0 p1 p2 = some r) :
  Calls Tryz.prog 240 [vI p0,vI p1,vI p2].toArray w0 (Rt w0 (vI r)):=by
 refine ce Tryz.func240 ?_
 intro a hE
 have hM:=M.start w0
 unfold U4 at hF
 refine Zb (Zc hE rfl fun a hE=>Ze (wp_seq (Zb (Zc hE rfl fun a hE=>Ze ?_))))
 obtain ⟨j1,hl2,hF3⟩:=bind_some hF
 refine ZO (fun a w=>Env 26 a [(0,vI j1)] ∧ M (Old w0) w0 w []) ?_ ?_
 ·skip
  refine wp_block ?_
  refine ZE (fun (s4 : Int × Int) a w=>Env 26 a [(0,vI s4.1),(1,vI p1),(2,vI p2),(7,vI s4.2)] ∧ M (Old w0) w0 w []) hl2 ⟨hE.sub ⟨rfl,rfl,rfl,rfl,trivial⟩,hM⟩ ?_
  rintro s4 a w ⟨hE,hM⟩ o7 hs5 hx6
  unfold Uw at hs5
  refine wp_seq (Zb (Zd hE rfl fun a hE=>Zd hE rfl fun a hE=>Zi hE rfl rfl rfl fun a hE=>Ze ?_))
  refine Zo hE rfl ?_ ?_
  ·intro hb8
   have hs5:=Zt hs5 hb8
   refine wp_skip (Zp ?_)
   obtain ⟨j9,hl10,hF11⟩:=bind_some hs5
   refine ZN (fun a w=>Env 26 a [(0,vI j9),(1,vI p1),(2,vI p2),(7,vI s4.2)] ∧ M (Old w0) w0 w []) ?_ ?_
   ·skip
    refine wp_block (Zb (Zd hE rfl fun a hE=>Zd hE rfl ?_)); intro a hE
    obtain ⟨_,e12,hl10⟩:=bind_some hl10
    have e12:=W9 e12
    refine Br hE Za ld rfl rfl (AO _ _ e12) fun a hE=>Zi hE rfl rfl rfl fun a hE=>Zi hE rfl rfl rfl fun a hE=>Ze ?_
    obtain ⟨j13,hl14,hF15⟩:=bind_some hl10
    refine ZO (fun a w=>Env 26 a [(0,vI j13),(1,vI p1),(2,vI p2),(7,vI s4.2)] ∧ M (Old w0) w0 w []) ?_ ?_
    ·skip
     refine Zo hE rfl ?_ ?_
     ·intro hb16
      have hl14:=Zt hl14 hb16
      refine wp_region_lit (Zd hE rfl fun a hE=>Zd hE rfl fun a hE=>Zd hE rfl fun a hE=>Zd hE rfl fun a hE=>Zi hE rfl rfl rfl ?_); intro a hE
      obtain ⟨_,e17,hl14⟩:=bind_some hl14
      have e17:=W9 e17
      refine Br hE Za ld rfl rfl (yz _ _ e17) fun a hE=>Zi hE rfl rfl rfl fun a hE=>Zc hE rfl fun a hE=>Zg ?_
      obtain rfl:=Option.some.inj hl14
      refine Zk ?_
      exact ⟨hE.sub ⟨rfl,rfl,rfl,rfl,trivial⟩,hM⟩
     ·intro hb16
      have hl14:=Zs hl14 hb16
      refine wp_skip ?_
      obtain rfl:=Option.some.inj hl14
      refine Zk ?_
      exact ⟨hE.sub ⟨rfl,rfl,rfl,rfl,trivial⟩,hM⟩
    ·skip
     rintro a w ⟨hE,hM⟩
     refine Yb ?_
     obtain rfl:=Option.some.inj hF15
     refine Zk ?_
     exact ⟨hE.sub ⟨rfl,rfl,rfl,rfl,trivial⟩,hM⟩
   ·skip
    rintro a w ⟨hE,hM⟩
    refine wp_region_lit (Zd hE rfl fun a hE=>Zi hE rfl rfl rfl fun a hE=>Zc hE rfl fun a hE=>Zg (Zk ?_))
    exact ⟨_,(ois hF11),hE.sub ⟨rfl,rfl,rfl,rfl,trivial⟩,hM⟩
  ·intro hb8
   have hs5:=Zs hs5 hb8
   refine wp_exit (Zn (Zn (Ye ?_)))
   obtain rfl:=hx6 _ (ois hs5)
   refine Zk ?_
   exact ⟨hE.sub ⟨rfl,trivial⟩,hM⟩
 ·skip
  rintro a w ⟨hE,hM⟩
  refine Zp (Zb (Zd hE rfl fun a hE=>Zc hE rfl fun a hE=>Ze ?_))
  obtain rfl:=Option.some.inj hF3
  exact wp_ret (kr1 hE rfl rfl hM.kept)
def Xw (p1 : UInt8) (p2 : UInt8) (s4 : Int × Int) : Option (Fl (Int × Int) Int) :=
 if (decide (s4.2 < 8)) = true then (((XW s4.2).bind fun _=>(if (((HR p2 s4.2) &&& 1) == 1) = true then ((XW s4.2).bind fun _=>some (JD s4.1 (BD (bI p1) s4.2))) else (some s4.1) : Option (Int)).bind fun j13=>some j13 : Option (Int)).bind fun j9=>some (Fl.nx (j9,wr (s4.2 + 1)))) else (some (Fl.ex s4.1))
def Z3 (p0 : Int) (p1 : UInt8) (p2 : UInt8) : Option (UInt8) :=
 (ZA (Xw p1 p2) (0,0)).bind fun j1=>(U4 j1 p0 8).bind fun r22=>some (ZG r22)
end

end Go.Proofs.YtpibglnacohdkaaGreat
