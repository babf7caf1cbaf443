/- The walk of what the law reaches: contracts of functions. -/
import Derived.Test.YtpjogonponkbmaaK2
import Derived.Test.YtpjogonponkbmaaProg
set_option linter.unusedVariables false
set_option linter.unusedSimpArgs false
set_option maxRecDepth 20000
set_option maxHeartbeats 400000
namespace Go.Proofs.Ytpjogonponkbmaa
open Go
open Flat (enc)
noncomputable section
structure GCipher where
 Field : Int
 Box : (Vector UInt8 256)
 Mix : (Vector (Vector UInt8 4) 4)
 Places : (Vector UInt8 16)
 Rounds : Int
 deriving DecidableEq,Inhabited
instance : Dat GCipher:=⟨fun x=>Dat.bd (α:=Int × (Vector UInt8 256) × (Vector (Vector UInt8 4) 4) × (Vector UInt8 16) × Int) (x.Field,x.Box,x.Mix,x.Places,x.Rounds),fun x=>Dat.sz (α:=Int × (Vector UInt8 256) × (Vector (Vector UInt8 4) 4) × (Vector UInt8 16) × Int) (x.Field,x.Box,x.Mix,x.Places,x.Rounds) + 1⟩
instance : Flat GCipher where
 n:=290
 enc x:=cat [enc x.Field,enc x.Box,enc x.Mix,enc x.Places,enc x.Rounds]
 len x:=Y8 (cl1 (Flat.len _) (cl1 (Flat.len _) (cl1 (Flat.len _) (cl1 (Flat.len _) (cl1 (Flat.len _) cl0)))))
 cell x:=Kz (cc1 (Flat.cell _) (cc1 (Flat.cell _) (cc1 (Flat.cell _) (cc1 (Flat.cell _) (cc1 (Flat.cell _) cc0)))))
structure GMeeting where
 First : Int
 Second : Int
 deriving DecidableEq,Inhabited
instance : Dat GMeeting:=⟨fun x=>Dat.bd (α:=Int × Int) (x.First,x.Second),fun x=>Dat.sz (α:=Int × Int) (x.First,x.Second) + 1⟩
instance : Flat GMeeting where
 n:=2
 enc x:=cat [enc x.First,enc x.Second]
 len x:=Y8 (cl1 (Flat.len _) (cl1 (Flat.len _) cl0))
 cell x:=Kz (cc1 (Flat.cell _) (cc1 (Flat.cell _) cc0))
structure Gengine where
 box : (Vector UInt8 256)
 backBox : (Vector UInt8 256)
 places : (Vector UInt8 16)
 backPlaces : (Vector UInt8 16)
 mixer : (Ref (Vector (Vector (Vector UInt8 256) 4) 4))
 backMixer : (Ref (Vector (Vector (Vector UInt8 256) 4) 4))
 rounds : Int
 deriving DecidableEq,Inhabited
instance : Dat Gengine:=⟨fun x=>Dat.bd (α:=(Vector UInt8 256) × (Vector UInt8 256) × (Vector UInt8 16) × (Vector UInt8 16) × (Ref (Vector (Vector (Vector UInt8 256) 4) 4)) × (Ref (Vector (Vector (Vector UInt8 256) 4) 4)) × Int) (x.box,x.backBox,x.places,x.backPlaces,x.mixer,x.backMixer,x.rounds),fun x=>Dat.sz (α:=(Vector UInt8 256) × (Vector UInt8 256) × (Vector UInt8 16) × (Vector UInt8 16) × (Ref (Vector (Vector (Vector UInt8 256) 4) 4)) × (Ref (Vector (Vector (Vector UInt8 256) 4) 4)) × Int) (x.box,x.backBox,x.places,x.backPlaces,x.mixer,x.backMixer,x.rounds) + 1⟩
instance : Rep Gengine:=repIso (α:=(Vector UInt8 256) × (Vector UInt8 256) × (Vector UInt8 16) × (Vector UInt8 16) × (Ref (Vector (Vector (Vector UInt8 256) 4) 4)) × (Ref (Vector (Vector (Vector UInt8 256) 4) 4)) × Int) (fun x=>(x.box,x.backBox,x.places,x.backPlaces,x.mixer,x.backMixer,x.rounds))
theorem Hg {S : Nat → Prop} {w : World} {x : Gengine} {cs : List Value} {fp : List Nat} (h : Rep.sat S w x cs fp) : ∃ (u1 : Value) (u2 : Value),∃ (g1 : List Nat) (g2 : List Nat),cs = cat [enc x.box,enc x.backBox,enc x.places,enc x.backPlaces,[u1],[u2],enc x.rounds] ∧ fp = (g1 ++ g2) ∧ Rep.sat S w x.mixer [u1] g1 ∧ Rep.sat S w x.backMixer [u2] g2:=by
 obtain ⟨c0,d0,f0,q0,rfl,rfl,h0,hr0⟩:=h
 obtain ⟨rfl,rfl⟩:=h0
 obtain ⟨c1,d1,f1,q1,rfl,rfl,h1,hr1⟩:=hr0
 obtain ⟨rfl,rfl⟩:=h1
 obtain ⟨c2,d2,f2,q2,rfl,rfl,h2,hr2⟩:=hr1
 obtain ⟨rfl,rfl⟩:=h2
 obtain ⟨c3,d3,f3,q3,rfl,rfl,h3,hr3⟩:=hr2
 obtain ⟨rfl,rfl⟩:=h3
 obtain ⟨c4,d4,f4,q4,rfl,rfl,h4,hr4⟩:=hr3
 obtain ⟨u1,rfl⟩:=Ko h4
 obtain ⟨c5,d5,f5,q5,rfl,rfl,h5,hr5⟩:=hr4
 obtain ⟨u2,rfl⟩:=Ko h5
 obtain ⟨rfl,rfl⟩:=hr5
 exact ⟨u1,u2,_,_,rfl,by simp,h4,h5⟩
theorem Aq {S : Nat → Prop} {w : World} {x : Gengine} {u1 u2 : Value} {fp : List Nat} (h : Rep.sat S w x (cat [enc x.box,enc x.backBox,enc x.places,enc x.backPlaces,[u1],[u2],enc x.rounds]) fp) : ∃ (g1 : List Nat) (g2 : List Nat),fp = (g1 ++ g2) ∧ Rep.sat S w x.mixer [u1] g1 ∧ Rep.sat S w x.backMixer [u2] g2:=by
 obtain ⟨w1,w2,g1,g2,hc,hf,s1,s2⟩:=Hg h
 obtain ⟨e1,k1⟩:=Tv hc rfl
 obtain ⟨e2,k2⟩:=Tv k1 rfl
 obtain ⟨e3,k3⟩:=Tv k2 rfl
 obtain ⟨e4,k4⟩:=Tv k3 rfl
 obtain ⟨e5,k5⟩:=Tv k4 rfl
 obtain ⟨e6,k6⟩:=Tv k5 rfl
 obtain rfl:=(List.cons.inj e5).1
 obtain rfl:=(List.cons.inj e6).1
 exact ⟨g1,g2,hf,s1,s2⟩
theorem Wr {S : Nat → Prop} {w : World} {x : Gengine} {cs : List Value} (h : Rep.sat S w x cs []) : ∃ u1 u2,cs = cat [enc x.box,enc x.backBox,enc x.places,enc x.backPlaces,[u1],[u2],enc x.rounds] ∧ Rep.sat S w x.mixer [u1] [] ∧ Rep.sat S w x.backMixer [u2] []:=by
 obtain ⟨c0,d0,f0,g0,rfl,hf0,h0,hr0⟩:=h
 obtain ⟨rfl,rfl⟩:=List.append_eq_nil_iff.1 hf0.symm
 obtain ⟨rfl,_⟩:=h0
 obtain ⟨c1,d1,f1,g1,rfl,hf1,h1,hr1⟩:=hr0
 obtain ⟨rfl,rfl⟩:=List.append_eq_nil_iff.1 hf1.symm
 obtain ⟨rfl,_⟩:=h1
 obtain ⟨c2,d2,f2,g2,rfl,hf2,h2,hr2⟩:=hr1
 obtain ⟨rfl,rfl⟩:=List.append_eq_nil_iff.1 hf2.symm
 obtain ⟨rfl,_⟩:=h2
 obtain ⟨c3,d3,f3,g3,rfl,hf3,h3,hr3⟩:=hr2
 obtain ⟨rfl,rfl⟩:=List.append_eq_nil_iff.1 hf3.symm
 obtain ⟨rfl,_⟩:=h3
 obtain ⟨c4,d4,f4,g4,rfl,hf4,h4,hr4⟩:=hr3
 obtain ⟨rfl,rfl⟩:=List.append_eq_nil_iff.1 hf4.symm
 obtain ⟨u1,rfl⟩:=Ko h4
 obtain ⟨c5,d5,f5,g5,rfl,hf5,h5,hr5⟩:=hr4
 obtain ⟨rfl,rfl⟩:=List.append_eq_nil_iff.1 hf5.symm
 obtain ⟨u2,rfl⟩:=Ko h5
 obtain ⟨rfl,_⟩:=hr5
 exact ⟨u1,u2,rfl,h4,h5⟩
theorem Hz {S : Nat → Prop} {w : World} {x : Gengine} {u1 u2 : Value} {g1 g2 fp : List Nat} (h1 : Rep.sat S w x.mixer [u1] g1) (h2 : Rep.sat S w x.backMixer [u2] g2) (hfp : fp = (g1 ++ g2)) : Rep.sat S w x (cat [enc x.box,enc x.backBox,enc x.places,enc x.backPlaces,[u1],[u2],enc x.rounds]) fp:=by
 rw [hfp]
 refine ⟨_,_,[],(g1 ++ g2),rfl,(by simp),⟨rfl,rfl⟩,?_⟩
 refine ⟨_,_,[],(g1 ++ g2),rfl,(by simp),⟨rfl,rfl⟩,?_⟩
 refine ⟨_,_,[],(g1 ++ g2),rfl,(by simp),⟨rfl,rfl⟩,?_⟩
 refine ⟨_,_,[],(g1 ++ g2),rfl,(by simp),⟨rfl,rfl⟩,?_⟩
 refine ⟨_,_,g1,g2,rfl,(by simp),h1,?_⟩
 refine ⟨_,_,g2,[],rfl,(by simp),h2,?_⟩
 exact ⟨rfl,rfl⟩
theorem ty2 : Ty Try.prog 2 (.int .i64) 1 8 (enc (0 : Int)):=⟨Try.underlying2,by kernel_rfl⟩
theorem ty4 : Ty Try.prog 4 .bool 1 1 (enc false):=⟨Try.underlying4,by kernel_rfl⟩
theorem ty5 : Ty Try.prog 5 (.int .u8) 1 1 (enc (0 : UInt8)):=⟨Try.underlying5,by kernel_rfl⟩
theorem JY : Ty Try.prog 41 (.array 256 5) 256 256 (enc (Vector.replicate 256 (0 : UInt8))):=⟨Try.underlying41,by kernel_rfl⟩
theorem Z4 : Ty Try.prog 42 (.array 4 5) 4 4 (enc (Vector.replicate 4 (0 : UInt8))):=⟨Try.underlying42,by kernel_rfl⟩
theorem ty43 : Ty Try.prog 43 (.array 4 42) 16 16 (enc (Vector.replicate 4 (Vector.replicate 4 (0 : UInt8)))):=⟨Try.underlying43,by kernel_rfl⟩
theorem Hm : Ty Try.prog 44 (.array 16 5) 16 16 (enc (Vector.replicate 16 (0 : UInt8))):=⟨Try.underlying44,by kernel_rfl⟩
theorem J9 : Ty Try.prog 46 (.struct [{ name := "Field", type := 2, offset := 0, embedded := false, tag := "", pkgPath := "", byteOffset := 0 }, { name := "Box", type := 41, offset := 1, embedded := false, tag := "", pkgPath := "", byteOffset := 8 }, { name := "Mix", type := 43, offset := 257, embedded := false, tag := "", pkgPath := "", byteOffset := 264 }, { name := "Places", type := 44, offset := 273, embedded := false, tag := "", pkgPath := "", byteOffset := 280 }, { name := "Rounds", type := 2, offset := 289, embedded := false, tag := "", pkgPath := "", byteOffset := 296 }].toArray) 290 304 (enc (⟨(0 : Int), (Vector.replicate 256 (0 : UInt8)), (Vector.replicate 4 (Vector.replicate 4 (0 : UInt8))), (Vector.replicate 16 (0 : UInt8)), (0 : Int)⟩ : GCipher)) := ⟨Try.underlying46, by kernel_rfl⟩
theorem WO : Ty Try.prog 49 (.array 256 5) 256 256 (enc (Vector.replicate 256 (0 : UInt8))):=⟨Try.underlying49,by kernel_rfl⟩
theorem Yw : Ty Try.prog 50 (.array 4 42) 16 16 (enc (Vector.replicate 4 (Vector.replicate 4 (0 : UInt8)))):=⟨Try.underlying50,by kernel_rfl⟩
theorem WZ : Ty Try.prog 51 (.array 16 5) 16 16 (enc (Vector.replicate 16 (0 : UInt8))):=⟨Try.underlying51,by kernel_rfl⟩
theorem U3 : Ty Try.prog 53 (.struct [{ name := "Field", type := 2, offset := 0, embedded := false, tag := "", pkgPath := "", byteOffset := 0 }, { name := "Box", type := 49, offset := 1, embedded := false, tag := "", pkgPath := "", byteOffset := 8 }, { name := "Mix", type := 50, offset := 257, embedded := false, tag := "", pkgPath := "", byteOffset := 264 }, { name := "Places", type := 51, offset := 273, embedded := false, tag := "", pkgPath := "", byteOffset := 280 }, { name := "Rounds", type := 2, offset := 289, embedded := false, tag := "", pkgPath := "", byteOffset := 296 }].toArray) 290 304 (enc (⟨(0 : Int), (Vector.replicate 256 (0 : UInt8)), (Vector.replicate 4 (Vector.replicate 4 (0 : UInt8))), (Vector.replicate 16 (0 : UInt8)), (0 : Int)⟩ : GCipher)) := ⟨Try.underlying53, by kernel_rfl⟩
theorem ZG : Ty Try.prog 55 (.array 16 5) 16 16 (enc (Vector.replicate 16 (0 : UInt8))):=⟨Try.underlying55,by kernel_rfl⟩
theorem VE : Ty Try.prog 108 (.struct [{ name := "First", type := 2, offset := 0, embedded := false, tag := "", pkgPath := "", byteOffset := 0 }, { name := "Second", type := 2, offset := 1, embedded := false, tag := "", pkgPath := "", byteOffset := 8 }].toArray) 2 16 (enc (⟨(0 : Int), (0 : Int)⟩ : GMeeting)) := ⟨Try.underlying108, by kernel_rfl⟩
theorem Jo : Ty Try.prog 117 (.array 256 4) 256 256 (enc (Vector.replicate 256 false)):=⟨Try.underlying117,by kernel_rfl⟩
theorem H2 : Ty Try.prog 154 (.pointer 180) 1 8 [.pointer none]:=⟨Try.underlying154,by kernel_rfl⟩
theorem Q3 : Ty Try.prog 157 (.struct [{ name := "box", type := 49, offset := 0, embedded := false, tag := "", pkgPath := "loop.example/g01182/impl", byteOffset := 0 }, { name := "backBox", type := 49, offset := 256, embedded := false, tag := "", pkgPath := "loop.example/g01182/impl", byteOffset := 256 }, { name := "places", type := 51, offset := 512, embedded := false, tag := "", pkgPath := "loop.example/g01182/impl", byteOffset := 512 }, { name := "backPlaces", type := 51, offset := 528, embedded := false, tag := "", pkgPath := "loop.example/g01182/impl", byteOffset := 528 }, { name := "mixer", type := 154, offset := 544, embedded := false, tag := "", pkgPath := "loop.example/g01182/impl", byteOffset := 544 }, { name := "backMixer", type := 154, offset := 545, embedded := false, tag := "", pkgPath := "loop.example/g01182/impl", byteOffset := 552 }, { name := "rounds", type := 2, offset := 546, embedded := false, tag := "", pkgPath := "loop.example/g01182/impl", byteOffset := 560 }].toArray) 547 568 (cat [(enc (Vector.replicate 256 (0 : UInt8))), (enc (Vector.replicate 256 (0 : UInt8))), (enc (Vector.replicate 16 (0 : UInt8))), (enc (Vector.replicate 16 (0 : UInt8))), [.pointer none], [.pointer none], (enc (0 : Int))]) := ⟨Try.underlying157, by kernel_rfl⟩
theorem BC : Ty Try.prog 170 (.array 16 4) 16 16 (enc (Vector.replicate 16 false)):=⟨Try.underlying170,by kernel_rfl⟩
theorem KA : Ty Try.prog 178 (.array 4 41) 1024 1024 (enc (Vector.replicate 4 (Vector.replicate 256 (0 : UInt8)))):=⟨Try.underlying178,by kernel_rfl⟩
theorem ty180 : Ty Try.prog 180 (.array 4 178) 4096 4096 (enc (Vector.replicate 4 (Vector.replicate 4 (Vector.replicate 256 (0 : UInt8))))):=⟨Try.underlying180,by kernel_rfl⟩
theorem fd46_0 : Fd Try.prog 46 0 0:=Vy J9.und rfl rfl ty2 (by decide)
theorem fd46_1 : Fd Try.prog 46 1 1:=Vy J9.und rfl rfl JY (by decide)
theorem fd46_2 : Fd Try.prog 46 2 257:=Vy J9.und rfl rfl ty43 (by decide)
theorem fd46_3 : Fd Try.prog 46 3 273:=Vy J9.und rfl rfl Hm (by decide)
theorem fd46_4 : Fd Try.prog 46 4 289:=Vy J9.und rfl rfl ty2 (by decide)
theorem Ud : Fd Try.prog 53 0 0:=Vy U3.und rfl rfl ty2 (by decide)
theorem Ti : Fd Try.prog 53 1 1:=Vy U3.und rfl rfl WO (by decide)
theorem TV : Fd Try.prog 53 2 257:=Vy U3.und rfl rfl Yw (by decide)
theorem TK : Fd Try.prog 53 3 273:=Vy U3.und rfl rfl WZ (by decide)
theorem TJ : Fd Try.prog 53 4 289:=Vy U3.und rfl rfl ty2 (by decide)
theorem Kj : Fd Try.prog 108 0 0:=Vy VE.und rfl rfl ty2 (by decide)
theorem Kn : Fd Try.prog 108 1 1:=Vy VE.und rfl rfl ty2 (by decide)
theorem Jy : Fd Try.prog 157 0 0:=Vy Q3.und rfl rfl WO (by decide)
theorem B4 : Fd Try.prog 157 1 256:=Vy Q3.und rfl rfl WO (by decide)
theorem Af : Fd Try.prog 157 2 512:=Vy Q3.und rfl rfl WZ (by decide)
theorem B0 : Fd Try.prog 157 3 528:=Vy Q3.und rfl rfl WZ (by decide)
theorem B2 : Fd Try.prog 157 4 544:=Vy Q3.und rfl rfl H2 (by decide)
theorem BZ : Fd Try.prog 157 5 545:=Vy Q3.und rfl rfl H2 (by decide)
theorem B3 : Fd Try.prog 157 6 546:=Vy Q3.und rfl rfl ty2 (by decide)
theorem pl108 : Places Try.prog [{ name := "First", type := 2, offset := 0, embedded := false, tag := "", pkgPath := "", byteOffset := 0 }, { name := "Second", type := 2, offset := 1, embedded := false, tag := "", pkgPath := "", byteOffset := 8 }] [(0, 1), (1, 1)] := by show _ = _; kernel_rfl
theorem pl157 : Places Try.prog [{ name := "box", type := 49, offset := 0, embedded := false, tag := "", pkgPath := "loop.example/g01182/impl", byteOffset := 0 }, { name := "backBox", type := 49, offset := 256, embedded := false, tag := "", pkgPath := "loop.example/g01182/impl", byteOffset := 256 }, { name := "places", type := 51, offset := 512, embedded := false, tag := "", pkgPath := "loop.example/g01182/impl", byteOffset := 512 }, { name := "backPlaces", type := 51, offset := 528, embedded := false, tag := "", pkgPath := "loop.example/g01182/impl", byteOffset := 528 }, { name := "mixer", type := 154, offset := 544, embedded := false, tag := "", pkgPath := "loop.example/g01182/impl", byteOffset := 544 }, { name := "backMixer", type := 154, offset := 545, embedded := false, tag := "", pkgPath := "loop.example/g01182/impl", byteOffset := 552 }, { name := "rounds", type := 2, offset := 546, embedded := false, tag := "", pkgPath := "loop.example/g01182/impl", byteOffset := 560 }] [(0, 256), (256, 256), (512, 16), (528, 16), (544, 1), (545, 1), (546, 1)] := by show _ = _; kernel_rfl
theorem YR : Try.prog.follows .mixedOrders = true:=by kernel_rfl
theorem cb25 : Callable Try.prog 25:=⟨_,_,Try.func25,by decide,rfl⟩
theorem cb26 : Callable Try.prog 26:=⟨_,_,Try.func26,by decide,rfl⟩
theorem cb28 : Callable Try.prog 28:=⟨_,_,Try.func28,by decide,rfl⟩
theorem cb29 : Callable Try.prog 29:=⟨_,_,Try.func29,by decide,rfl⟩
theorem cb30 : Callable Try.prog 30:=⟨_,_,Try.func30,by decide,rfl⟩
theorem cb31 : Callable Try.prog 31:=⟨_,_,Try.func31,by decide,rfl⟩
theorem cb32 : Callable Try.prog 32:=⟨_,_,Try.func32,by decide,rfl⟩
theorem cb43 : Callable Try.prog 43:=⟨_,_,Try.func43,by decide,rfl⟩
theorem cb47 : Callable Try.prog 47:=⟨_,_,Try.func47,by decide,rfl⟩
theorem cb49 : Callable Try.prog 49:=⟨_,_,Try.func49,by decide,rfl⟩
theorem cb65 : Callable Try.prog 65:=⟨_,_,Try.func65,by decide,rfl⟩
theorem cb66 : Callable Try.prog 66:=⟨_,_,Try.func66,by decide,rfl⟩
theorem cb67 : Callable Try.prog 67:=⟨_,_,Try.func67,by decide,rfl⟩
theorem cb71 : Callable Try.prog 71:=⟨_,_,Try.func71,by decide,rfl⟩
theorem cb72 : Callable Try.prog 72:=⟨_,_,Try.func72,by decide,rfl⟩
theorem cb73 : Callable Try.prog 73:=⟨_,_,Try.func73,by decide,rfl⟩
theorem cb74 : Callable Try.prog 74:=⟨_,_,Try.func74,by decide,rfl⟩
theorem cb75 : Callable Try.prog 75:=⟨_,_,Try.func75,by decide,rfl⟩
theorem cb76 : Callable Try.prog 76:=⟨_,_,Try.func76,by decide,rfl⟩
theorem cb77 : Callable Try.prog 77:=⟨_,_,Try.func77,by decide,rfl⟩
theorem cb78 : Callable Try.prog 78:=⟨_,_,Try.func78,by decide,rfl⟩
theorem cb79 : Callable Try.prog 79:=⟨_,_,Try.func79,by decide,rfl⟩
theorem cb80 : Callable Try.prog 80:=⟨_,_,Try.func80,by decide,rfl⟩
theorem cb82 : Callable Try.prog 82:=⟨_,_,Try.func82,by decide,rfl⟩
theorem cb95 : Callable Try.prog 95:=⟨_,_,Try.func95,by decide,rfl⟩
theorem cb98 : Callable Try.prog 98:=⟨_,_,Try.func98,by decide,rfl⟩
theorem cb101 : Callable Try.prog 101:=⟨_,_,Try.func101,by decide,rfl⟩
theorem cb102 : Callable Try.prog 102:=⟨_,_,Try.func102,by decide,rfl⟩
theorem cb111 : Callable Try.prog 111:=⟨_,_,Try.func111,by decide,rfl⟩
theorem cb113 : Callable Try.prog 113:=⟨_,_,Try.func113,by decide,rfl⟩
theorem cb114 : Callable Try.prog 114:=⟨_,_,Try.func114,by decide,rfl⟩
theorem cb115 : Callable Try.prog 115:=⟨_,_,Try.func115,by decide,rfl⟩
theorem cb116 : Callable Try.prog 116:=⟨_,_,Try.func116,by decide,rfl⟩
theorem cb117 : Callable Try.prog 117:=⟨_,_,Try.func117,by decide,rfl⟩
theorem HY : Callable Try.prog 118:=⟨_,_,Try.func118,by decide,rfl⟩
theorem cb119 : Callable Try.prog 119:=⟨_,_,Try.func119,by decide,rfl⟩
theorem cb120 : Callable Try.prog 120:=⟨_,_,Try.func120,by decide,rfl⟩
theorem cb121 : Callable Try.prog 121:=⟨_,_,Try.func121,by decide,rfl⟩
theorem cb122 : Callable Try.prog 122:=⟨_,_,Try.func122,by decide,rfl⟩
theorem cb123 : Callable Try.prog 123:=⟨_,_,Try.func123,by decide,rfl⟩
theorem cb124 : Callable Try.prog 124:=⟨_,_,Try.func124,by decide,rfl⟩
theorem cb125 : Callable Try.prog 125:=⟨_,_,Try.func125,by decide,rfl⟩
theorem cb126 : Callable Try.prog 126:=⟨_,_,Try.func126,by decide,rfl⟩
theorem cb127 : Callable Try.prog 127:=⟨_,_,Try.func127,by decide,rfl⟩
theorem cb128 : Callable Try.prog 128:=⟨_,_,Try.func128,by decide,rfl⟩
theorem cb129 : Callable Try.prog 129:=⟨_,_,Try.func129,by decide,rfl⟩
theorem H4 : Callable Try.prog 130:=⟨_,_,Try.func130,by decide,rfl⟩
theorem cb131 : Callable Try.prog 131:=⟨_,_,Try.func131,by decide,rfl⟩
theorem cb132 : Callable Try.prog 132:=⟨_,_,Try.func132,by decide,rfl⟩
theorem cb133 : Callable Try.prog 133:=⟨_,_,Try.func133,by decide,rfl⟩
theorem cb134 : Callable Try.prog 134:=⟨_,_,Try.func134,by decide,rfl⟩
theorem BO : Callable Try.prog 139:=⟨_,_,Try.func139,by decide,rfl⟩
theorem QV : Callable Try.prog 140:=⟨_,_,Try.func140,by decide,rfl⟩
theorem QU : Callable Try.prog 144:=⟨_,_,Try.func144,by decide,rfl⟩
theorem cb149 : Callable Try.prog 149:=⟨_,_,Try.func149,by decide,rfl⟩
theorem cb150 : Callable Try.prog 150:=⟨_,_,Try.func150,by decide,rfl⟩
theorem cb151 : Callable Try.prog 151:=⟨_,_,Try.func151,by decide,rfl⟩
theorem cb152 : Callable Try.prog 152:=⟨_,_,Try.func152,by decide,rfl⟩
theorem cb153 : Callable Try.prog 153:=⟨_,_,Try.func153,by decide,rfl⟩
theorem cb154 : Callable Try.prog 154:=⟨_,_,Try.func154,by decide,rfl⟩
theorem cb156 : Callable Try.prog 156:=⟨_,_,Try.func156,by decide,rfl⟩
theorem cb157 : Callable Try.prog 157:=⟨_,_,Try.func157,by decide,rfl⟩
theorem cb158 : Callable Try.prog 158:=⟨_,_,Try.func158,by decide,rfl⟩
theorem cb159 : Callable Try.prog 159:=⟨_,_,Try.func159,by decide,rfl⟩
theorem cb160 : Callable Try.prog 160:=⟨_,_,Try.func160,by decide,rfl⟩
def VO (p0 : (Vector UInt8 256)) (s10 : (Vector UInt8 256) × Int) : Option (Fl ((Vector UInt8 256) × Int) (Vector UInt8 256)) :=
 if (decide (s10.2 < 256)) = true then ((Zs p0 s10.2).bind fun x16=>(Zs s10.1 s10.2).bind fun x19=>some (Fl.nx ((s10.1.setIfInBounds (s10.2).toNat x16),wr (s10.2 + 1)))) else (some (Fl.ex s10.1))
def VB (p0 : (Vector UInt8 256)) : Option ((Vector UInt8 256)) :=
 (ZB (VO p0) ((Vector.replicate 256 (0 : UInt8)),0)).bind fun j7=>some j7
theorem Jz (w0 : World) (p0 : (Vector UInt8 256)) (r : (Vector UInt8 256)) (hF : VB p0 = some r) :
  Calls Try.prog 65 [(Value.agg (enc p0).toArray)].toArray w0 (fun en w'=>∃ v,en = .returned v ∧ (v = (Value.agg (enc r).toArray) ∧ Kept (Old w0) w0 w')):=by
 refine ZC (n:=15) Try.func65 rfl rfl (nbl rfl) rfl ?_
 intro a hE
 have hM:=M.start w0
 unfold VB at hF
 refine Zc (ZX (cs:=enc p0) hE hM Za ld rfl rfl fun b1 w a hM hE=>ZF hE hM Za ld WO fun b3 w a hM hE=>Zf (Zc (ZF hE hM Za ld WO fun b5 w a hM hE=>Zf (wp_seq (Zc (Ze hE Za ld rfl fun a hE=>Zf ?_))))))
 obtain ⟨j7,hl8,hF9⟩:=bind_some hF
 refine ZP (fun a w=>Env 15 a [(2,(ptr b3 0)),(3,(ptr b5 0))] ∧ M (Old w0) w0 w [raw b5 (enc j7),raw b3 (enc (Vector.replicate 256 (0 : UInt8)))]) ?_ ?_
 ·skip
  refine wp_block ?_
  refine ZJ (fun (s10 : (Vector UInt8 256) × Int) a w=>Env 15 a [(1,(ptr b1 0)),(2,(ptr b3 0)),(3,(ptr b5 0)),(4,vI s10.2)] ∧ M (Old w0) w0 w [raw b5 (enc s10.1),raw b3 (enc (Vector.replicate 256 (0 : UInt8))),raw b1 (enc p0)]) hl8 ⟨hE.sub ⟨rfl,rfl,rfl,rfl,trivial⟩,hM⟩ ?_
  rintro s10 a w ⟨hE,hM⟩ o13 hs11 hx12
  unfold VO at hs11
  refine wp_seq (Zc (Zd hE Za ld rfl fun a hE=>Zk hE Za ld rfl rfl rfl fun a hE=>Zf ?_))
  refine Zr hE rfl ?_ ?_
  ·intro hb14
   have hs11:=Zw hs11 hb14
   refine wp_skip (Zt (wp_seq (wp_block (wp_region_lit (Zd hE Za ld rfl fun a hE=>Zd hE Za ld rfl ?_))))); intro a hE
   obtain ⟨x16,hi15,hs11⟩:=bvx hs11
   refine Zg hE Za ld rfl rfl Try.underlying41 ty5 hi15.1 fun a hE=>Zv (v:=(vB x16)) hE Za ld rfl ty5 rfl (At.vec (hM.rawAt (pre:=[_,_])) hi15.2) ?_; intro a hE
   obtain ⟨x19,hi18,hs11⟩:=bvx hs11
   refine Zg hE Za ld rfl rfl Try.underlying49 ty5 hi18.1 fun a hE=>Zm (seg:=[vB x16]) (cs':=enc (s10.1.setIfInBounds (s10.2).toNat x16)) hE hM Za rfl rfl rfl ty5 rfl (ZI (v:=s10.1) (x:=x16) hi18.1) (Flat.cell (x16 : UInt8)) (Zu (v:=s10.1) (x:=x16) hi18.1) fun w a hM hE=>Zi (Yi (Zt (wp_region_lit (Zd hE Za ld rfl fun a hE=>Zk hE Za ld rfl rfl rfl fun a hE=>Ze hE Za ld rfl fun a hE=>Zi (Zj ?_)))))
   exact ⟨_,(ois hs11),hE.sub ⟨rfl,rfl,rfl,rfl,trivial⟩,hM⟩
  ·intro hb14
   have hs11:=Zx hs11 hb14
   refine wp_exit (Zp (Zp (Yj ?_)))
   have ht21:=hx12 _ (ois hs11)
   subst ht21
   refine Zj ?_
   have hM:=M.fst (l:=[_,_]) ((hM.pull (pre:=[_])).pull (pre:=[_]))
   exact ⟨hE.sub ⟨rfl,rfl,trivial⟩,hM⟩
 ·skip
  rintro a w ⟨hE,hM⟩
  refine Zt (Zc (Zl (cs:=enc j7) hE Za ld rfl WO rfl (hM.rawAt (pre:=[])) (Flat.len _) ?_)); intro a hE
  have hM:=hM.pull (pre:=[_])
  refine Zm (seg:=enc j7) (cs':=enc j7) hE hM Za rfl rfl rfl WO (Flat.len _) (zle flq) (Flat.cell _) (Zn flq) fun w a hM hE=>Zf ?_
  have hr:=Option.some.inj hF9
  subst hr
  have hq22 : YD Try.prog _ _ (.cell 2 49) _:=ZW hE rfl WO rfl (hM.rawAt (pre:=[])) (Flat.len _) rfl
  have hM:=M.fst (l:=[]) hM
  exact wp_ret (ZD hE rfl hq22 ⟨_,rfl,rfl,hM.kept⟩)
def W6 (p0 : (Vector UInt8 4)) (s10 : (Vector UInt8 4) × Int) : Option (Fl ((Vector UInt8 4) × Int) (Vector UInt8 4)) :=
 if (decide (s10.2 < 4)) = true then ((Zs p0 s10.2).bind fun x16=>(Zs s10.1 s10.2).bind fun x19=>some (Fl.nx ((s10.1.setIfInBounds (s10.2).toNat x16),wr (s10.2 + 1)))) else (some (Fl.ex s10.1))
def Wx (p0 : (Vector UInt8 4)) : Option ((Vector UInt8 4)) :=
 (ZB (W6 p0) ((Vector.replicate 4 (0 : UInt8)),0)).bind fun j7=>some j7
theorem Kf (w0 : World) (p0 : (Vector UInt8 4)) (r : (Vector UInt8 4)) (hF : Wx p0 = some r) :
  Calls Try.prog 111 [(Value.agg (enc p0).toArray)].toArray w0 (fun en w'=>∃ v,en = .returned v ∧ (v = (Value.agg (enc r).toArray) ∧ Kept (Old w0) w0 w')):=by
 refine ZC (n:=15) Try.func111 rfl rfl (nbl rfl) rfl ?_
 intro a hE
 have hM:=M.start w0
 unfold Wx at hF
 refine Zc (ZX (cs:=enc p0) hE hM Za ld rfl rfl fun b1 w a hM hE=>ZF hE hM Za ld Z4 fun b3 w a hM hE=>Zf (Zc (ZF hE hM Za ld Z4 fun b5 w a hM hE=>Zf (wp_seq (Zc (Ze hE Za ld rfl fun a hE=>Zf ?_))))))
 obtain ⟨j7,hl8,hF9⟩:=bind_some hF
 refine ZP (fun a w=>Env 15 a [(2,(ptr b3 0)),(3,(ptr b5 0))] ∧ M (Old w0) w0 w [raw b5 (enc j7),raw b3 (enc (Vector.replicate 4 (0 : UInt8)))]) ?_ ?_
 ·skip
  refine wp_block ?_
  refine ZJ (fun (s10 : (Vector UInt8 4) × Int) a w=>Env 15 a [(1,(ptr b1 0)),(2,(ptr b3 0)),(3,(ptr b5 0)),(4,vI s10.2)] ∧ M (Old w0) w0 w [raw b5 (enc s10.1),raw b3 (enc (Vector.replicate 4 (0 : UInt8))),raw b1 (enc p0)]) hl8 ⟨hE.sub ⟨rfl,rfl,rfl,rfl,trivial⟩,hM⟩ ?_
  rintro s10 a w ⟨hE,hM⟩ o13 hs11 hx12
  unfold W6 at hs11
  refine wp_seq (Zc (Zd hE Za ld rfl fun a hE=>Zk hE Za ld rfl rfl rfl fun a hE=>Zf ?_))
  refine Zr hE rfl ?_ ?_
  ·intro hb14
   have hs11:=Zw hs11 hb14
   refine wp_skip (Zt (wp_seq (wp_block (wp_region_lit (Zd hE Za ld rfl fun a hE=>Zd hE Za ld rfl ?_))))); intro a hE
   obtain ⟨x16,hi15,hs11⟩:=bvx hs11
   refine Zg hE Za ld rfl rfl Try.underlying42 ty5 hi15.1 fun a hE=>Zv (v:=(vB x16)) hE Za ld rfl ty5 rfl (At.vec (hM.rawAt (pre:=[_,_])) hi15.2) ?_; intro a hE
   obtain ⟨x19,hi18,hs11⟩:=bvx hs11
   refine Zg hE Za ld rfl rfl Try.underlying42 ty5 hi18.1 fun a hE=>Zm (seg:=[vB x16]) (cs':=enc (s10.1.setIfInBounds (s10.2).toNat x16)) hE hM Za rfl rfl rfl ty5 rfl (ZI (v:=s10.1) (x:=x16) hi18.1) (Flat.cell (x16 : UInt8)) (Zu (v:=s10.1) (x:=x16) hi18.1) fun w a hM hE=>Zi (Yi (Zt (wp_region_lit (Zd hE Za ld rfl fun a hE=>Zk hE Za ld rfl rfl rfl fun a hE=>Ze hE Za ld rfl fun a hE=>Zi (Zj ?_)))))
   exact ⟨_,(ois hs11),hE.sub ⟨rfl,rfl,rfl,rfl,trivial⟩,hM⟩
  ·intro hb14
   have hs11:=Zx hs11 hb14
   refine wp_exit (Zp (Zp (Yj ?_)))
   have ht21:=hx12 _ (ois hs11)
   subst ht21
   refine Zj ?_
   have hM:=M.fst (l:=[_,_]) ((hM.pull (pre:=[_])).pull (pre:=[_]))
   exact ⟨hE.sub ⟨rfl,rfl,trivial⟩,hM⟩
 ·skip
  rintro a w ⟨hE,hM⟩
  refine Zt (Zc (Zl (cs:=enc j7) hE Za ld rfl Z4 rfl (hM.rawAt (pre:=[])) (Flat.len _) ?_)); intro a hE
  have hM:=hM.pull (pre:=[_])
  refine Zm (seg:=enc j7) (cs':=enc j7) hE hM Za rfl rfl rfl Z4 (Flat.len _) (zle flq) (Flat.cell _) (Zn flq) fun w a hM hE=>Zf ?_
  have hr:=Option.some.inj hF9
  subst hr
  have hq22 : YD Try.prog _ _ (.cell 2 42) _:=ZW hE rfl Z4 rfl (hM.rawAt (pre:=[])) (Flat.len _) rfl
  have hM:=M.fst (l:=[]) hM
  exact wp_ret (ZD hE rfl hq22 ⟨_,rfl,rfl,hM.kept⟩)
def XG (p0 : (Vector (Vector UInt8 4) 4)) (s10 : (Vector (Vector UInt8 4) 4) × Int) : Option (Fl ((Vector (Vector UInt8 4) 4) × Int) (Vector (Vector UInt8 4) 4)) :=
 if (decide (s10.2 < 4)) = true then ((Zs p0 s10.2).bind fun x16=>(Wx x16).bind fun r18=>(Zs s10.1 s10.2).bind fun x21=>some (Fl.nx ((s10.1.setIfInBounds (s10.2).toNat r18),wr (s10.2 + 1)))) else (some (Fl.ex s10.1))
def Wy (p0 : (Vector (Vector UInt8 4) 4)) : Option ((Vector (Vector UInt8 4) 4)) :=
 (ZB (XG p0) ((Vector.replicate 4 (Vector.replicate 4 (0 : UInt8))),0)).bind fun j7=>some j7
theorem Kb (w0 : World) (p0 : (Vector (Vector UInt8 4) 4)) (r : (Vector (Vector UInt8 4) 4)) (hF : Wy p0 = some r) :
  Calls Try.prog 66 [(Value.agg (enc p0).toArray)].toArray w0 (fun en w'=>∃ v,en = .returned v ∧ (v = (Value.agg (enc r).toArray) ∧ Kept (Old w0) w0 w')):=by
 refine ZC (n:=16) Try.func66 rfl rfl (nbl rfl) rfl ?_
 intro a hE
 have hM:=M.start w0
 unfold Wy at hF
 refine Zc (ZX (cs:=enc p0) hE hM Za ld rfl rfl fun b1 w a hM hE=>ZF hE hM Za ld Yw fun b3 w a hM hE=>Zf (Zc (ZF hE hM Za ld Yw fun b5 w a hM hE=>Zf (wp_seq (Zc (Ze hE Za ld rfl fun a hE=>Zf ?_))))))
 obtain ⟨j7,hl8,hF9⟩:=bind_some hF
 refine ZP (fun a w=>Env 16 a [(2,(ptr b3 0)),(3,(ptr b5 0))] ∧ M (Old w0) w0 w [raw b5 (enc j7),raw b3 (enc (Vector.replicate 4 (Vector.replicate 4 (0 : UInt8))))]) ?_ ?_
 ·skip
  refine wp_block ?_
  refine ZJ (fun (s10 : (Vector (Vector UInt8 4) 4) × Int) a w=>Env 16 a [(1,(ptr b1 0)),(2,(ptr b3 0)),(3,(ptr b5 0)),(4,vI s10.2)] ∧ M (Old w0) w0 w [raw b5 (enc s10.1),raw b3 (enc (Vector.replicate 4 (Vector.replicate 4 (0 : UInt8)))),raw b1 (enc p0)]) hl8 ⟨hE.sub ⟨rfl,rfl,rfl,rfl,trivial⟩,hM⟩ ?_
  rintro s10 a w ⟨hE,hM⟩ o13 hs11 hx12
  unfold XG at hs11
  refine wp_seq (Zc (Zd hE Za ld rfl fun a hE=>Zk hE Za ld rfl rfl rfl fun a hE=>Zf ?_))
  refine Zr hE rfl ?_ ?_
  ·intro hb14
   have hs11:=Zw hs11 hb14
   refine wp_skip (Zt (wp_seq (wp_block (wp_region_lit (Zd hE Za ld rfl fun a hE=>Zd hE Za ld rfl ?_))))); intro a hE
   obtain ⟨x16,hi15,hs11⟩:=bvx hs11
   refine Zg hE Za ld rfl rfl Try.underlying43 Z4 hi15.1 fun a hE=>Zl (cs:=enc x16) hE Za ld rfl Z4 rfl (At.vec (hM.rawAt (pre:=[_,_])) hi15.2) (Flat.len _) ?_; intro a hE
   obtain ⟨r18,e19,hs11⟩:=bind_some hs11
   refine Zq hE Za ld rfl cb111 (Kf _ x16 r18 e19) ?_
   rintro v w a ⟨rfl,hK⟩ hE
   have hM:=hM.keep hK
   obtain ⟨x21,hi20,hs11⟩:=bvx hs11
   refine Zg hE Za ld rfl rfl Try.underlying50 Z4 hi20.1 fun a hE=>Zm (seg:=enc r18) (cs':=enc (s10.1.setIfInBounds (s10.2).toNat r18)) hE hM Za rfl rfl rfl Z4 (Flat.len _) (ZI (v:=s10.1) (x:=r18) hi20.1) (Flat.cell _) (Zu (v:=s10.1) (x:=r18) hi20.1) fun w a hM hE=>Zi (Yi (Zt (wp_region_lit (Zd hE Za ld rfl fun a hE=>Zk hE Za ld rfl rfl rfl fun a hE=>Ze hE Za ld rfl fun a hE=>Zi (Zj ?_)))))
   exact ⟨_,(ois hs11),hE.sub ⟨rfl,rfl,rfl,rfl,trivial⟩,hM⟩
  ·intro hb14
   have hs11:=Zx hs11 hb14
   refine wp_exit (Zp (Zp (Yj ?_)))
   have ht23:=hx12 _ (ois hs11)
   subst ht23
   refine Zj ?_
   have hM:=M.fst (l:=[_,_]) ((hM.pull (pre:=[_])).pull (pre:=[_]))
   exact ⟨hE.sub ⟨rfl,rfl,trivial⟩,hM⟩
 ·skip
  rintro a w ⟨hE,hM⟩
  refine Zt (Zc (Zl (cs:=enc j7) hE Za ld rfl Yw rfl (hM.rawAt (pre:=[])) (Flat.len _) ?_)); intro a hE
  have hM:=hM.pull (pre:=[_])
  refine Zm (seg:=enc j7) (cs':=enc j7) hE hM Za rfl rfl rfl Yw (Flat.len _) (zle flq) (Flat.cell _) (Zn flq) fun w a hM hE=>Zf ?_
  have hr:=Option.some.inj hF9
  subst hr
  have hq24 : YD Try.prog _ _ (.cell 2 50) _:=ZW hE rfl Yw rfl (hM.rawAt (pre:=[])) (Flat.len _) rfl
  have hM:=M.fst (l:=[]) hM
  exact wp_ret (ZD hE rfl hq24 ⟨_,rfl,rfl,hM.kept⟩)
def W7 (p0 : (Vector UInt8 16)) (s10 : (Vector UInt8 16) × Int) : Option (Fl ((Vector UInt8 16) × Int) (Vector UInt8 16)) :=
 if (decide (s10.2 < 16)) = true then ((Zs p0 s10.2).bind fun x16=>(Zs s10.1 s10.2).bind fun x19=>some (Fl.nx ((s10.1.setIfInBounds (s10.2).toNat x16),wr (s10.2 + 1)))) else (some (Fl.ex s10.1))
def Wz (p0 : (Vector UInt8 16)) : Option ((Vector UInt8 16)) :=
 (ZB (W7 p0) ((Vector.replicate 16 (0 : UInt8)),0)).bind fun j7=>some j7
theorem Q7 (w0 : World) (p0 : (Vector UInt8 16)) (r : (Vector UInt8 16)) (hF : Wz p0 = some r) :
  Calls Try.prog 67 [(Value.agg (enc p0).toArray)].toArray w0 (fun en w'=>∃ v,en = .returned v ∧ (v = (Value.agg (enc r).toArray) ∧ Kept (Old w0) w0 w')):=by
 refine ZC (n:=15) Try.func67 rfl rfl (nbl rfl) rfl ?_
 intro a hE
 have hM:=M.start w0
 unfold Wz at hF
 refine Zc (ZX (cs:=enc p0) hE hM Za ld rfl rfl fun b1 w a hM hE=>ZF hE hM Za ld WZ fun b3 w a hM hE=>Zf (Zc (ZF hE hM Za ld WZ fun b5 w a hM hE=>Zf (wp_seq (Zc (Ze hE Za ld rfl fun a hE=>Zf ?_))))))
 obtain ⟨j7,hl8,hF9⟩:=bind_some hF
 refine ZP (fun a w=>Env 15 a [(2,(ptr b3 0)),(3,(ptr b5 0))] ∧ M (Old w0) w0 w [raw b5 (enc j7),raw b3 (enc (Vector.replicate 16 (0 : UInt8)))]) ?_ ?_
 ·skip
  refine wp_block ?_
  refine ZJ (fun (s10 : (Vector UInt8 16) × Int) a w=>Env 15 a [(1,(ptr b1 0)),(2,(ptr b3 0)),(3,(ptr b5 0)),(4,vI s10.2)] ∧ M (Old w0) w0 w [raw b5 (enc s10.1),raw b3 (enc (Vector.replicate 16 (0 : UInt8))),raw b1 (enc p0)]) hl8 ⟨hE.sub ⟨rfl,rfl,rfl,rfl,trivial⟩,hM⟩ ?_
  rintro s10 a w ⟨hE,hM⟩ o13 hs11 hx12
  unfold W7 at hs11
  refine wp_seq (Zc (Zd hE Za ld rfl fun a hE=>Zk hE Za ld rfl rfl rfl fun a hE=>Zf ?_))
  refine Zr hE rfl ?_ ?_
  ·intro hb14
   have hs11:=Zw hs11 hb14
   refine wp_skip (Zt (wp_seq (wp_block (wp_region_lit (Zd hE Za ld rfl fun a hE=>Zd hE Za ld rfl ?_))))); intro a hE
   obtain ⟨x16,hi15,hs11⟩:=bvx hs11
   refine Zg hE Za ld rfl rfl Try.underlying44 ty5 hi15.1 fun a hE=>Zv (v:=(vB x16)) hE Za ld rfl ty5 rfl (At.vec (hM.rawAt (pre:=[_,_])) hi15.2) ?_; intro a hE
   obtain ⟨x19,hi18,hs11⟩:=bvx hs11
   refine Zg hE Za ld rfl rfl Try.underlying51 ty5 hi18.1 fun a hE=>Zm (seg:=[vB x16]) (cs':=enc (s10.1.setIfInBounds (s10.2).toNat x16)) hE hM Za rfl rfl rfl ty5 rfl (ZI (v:=s10.1) (x:=x16) hi18.1) (Flat.cell (x16 : UInt8)) (Zu (v:=s10.1) (x:=x16) hi18.1) fun w a hM hE=>Zi (Yi (Zt (wp_region_lit (Zd hE Za ld rfl fun a hE=>Zk hE Za ld rfl rfl rfl fun a hE=>Ze hE Za ld rfl fun a hE=>Zi (Zj ?_)))))
   exact ⟨_,(ois hs11),hE.sub ⟨rfl,rfl,rfl,rfl,trivial⟩,hM⟩
  ·intro hb14
   have hs11:=Zx hs11 hb14
   refine wp_exit (Zp (Zp (Yj ?_)))
   have ht21:=hx12 _ (ois hs11)
   subst ht21
   refine Zj ?_
   have hM:=M.fst (l:=[_,_]) ((hM.pull (pre:=[_])).pull (pre:=[_]))
   exact ⟨hE.sub ⟨rfl,rfl,trivial⟩,hM⟩
 ·skip
  rintro a w ⟨hE,hM⟩
  refine Zt (Zc (Zl (cs:=enc j7) hE Za ld rfl WZ rfl (hM.rawAt (pre:=[])) (Flat.len _) ?_)); intro a hE
  have hM:=hM.pull (pre:=[_])
  refine Zm (seg:=enc j7) (cs':=enc j7) hE hM Za rfl rfl rfl WZ (Flat.len _) (zle flq) (Flat.cell _) (Zn flq) fun w a hM hE=>Zf ?_
  have hr:=Option.some.inj hF9
  subst hr
  have hq22 : YD Try.prog _ _ (.cell 2 51) _:=ZW hE rfl WZ rfl (hM.rawAt (pre:=[])) (Flat.len _) rfl
  have hM:=M.fst (l:=[]) hM
  exact wp_ret (ZD hE rfl hq22 ⟨_,rfl,rfl,hM.kept⟩)
def Xr (p0 : GCipher) : Option (GCipher) :=
 (VB p0.Box).bind fun r7=>(Wy p0.Mix).bind fun r9=>(Wz p0.Places).bind fun r11=>some (⟨p0.Field,r7,r9,r11,p0.Rounds⟩ : GCipher)
theorem VW (w0 : World) (p0 : GCipher) (r : GCipher) (hF : Xr p0 = some r) :
  Calls Try.prog 25 [(Value.agg (enc p0).toArray)].toArray w0 (fun en w'=>∃ v,en = .returned v ∧ (v = (Value.agg (enc r).toArray) ∧ Kept (Old w0) w0 w')):=by
 refine ZC (n:=23) Try.func25 rfl rfl (nbl rfl) rfl ?_
 intro a hE
 have hM:=M.start w0
 unfold Xr at hF
 refine Zc (ZX (cs:=cat [[vI p0.Field],enc p0.Box,enc p0.Mix,enc p0.Places,[vI p0.Rounds]]) hE hM Za ld rfl rfl fun b1 w a hM hE=>ZF hE hM Za ld U3 fun b3 w a hM hE=>Zf (Zc (ZF hE hM Za ld U3 fun b5 w a hM hE=>Zf (Zc (Zo hE Za ld rfl (fd46_0) fun a hE=>Zv (v:=(vI p0.Field)) hE Za ld rfl ty2 rfl (At.cat (pre:=[]) (hM.rawAt (pre:=[_,_])) cl0) fun a hE=>Zo hE Za ld rfl (Ud) fun a hE=>Zm (seg:=[vI p0.Field]) hE hM Za rfl rfl rfl ty2 rfl (Tm (pre:=[]) cl0 rfl) (Flat.cell (p0.Field : Int)) (W0 (pre:=[]) cl0 rfl) fun w a hM hE=>Zf (Zc (Zo hE Za ld rfl (fd46_1) fun a hE=>Zl (cs:=enc p0.Box) hE Za ld rfl JY rfl (At.cat (pre:=[[vI p0.Field]]) (hM.rawAt (pre:=[_,_])) (cl1 (n:=1) (m:=0) rfl cl0)) (Flat.len _) ?_))))))); intro a hE
 obtain ⟨r7,e8,hF⟩:=bind_some hF
 refine Zq hE Za ld rfl cb65 (Jz _ p0.Box r7 e8) ?_
 rintro v w a ⟨rfl,hK⟩ hE
 have hM:=hM.keep hK
 refine Zo hE Za ld rfl (Ti) fun a hE=>Zm (seg:=enc r7) hE hM Za rfl rfl rfl WO (Flat.len _) (Tm (pre:=[[vI p0.Field]]) (cl1 (n:=1) (m:=0) rfl cl0) flq) (Flat.cell _) (W0 (pre:=[[vI p0.Field]]) (cl1 (n:=1) (m:=0) rfl cl0) flq) fun w a hM hE=>Zf (Zc (Zo hE Za ld rfl (fd46_2) fun a hE=>Zl (cs:=enc p0.Mix) hE Za ld rfl ty43 rfl (At.cat (pre:=[[vI p0.Field],enc p0.Box]) (hM.rawAt (pre:=[_,_])) (cl1 (n:=1) (m:=256) rfl (cl1 (n:=256) (m:=0) (Flat.len _) cl0))) (Flat.len _) ?_)); intro a hE
 obtain ⟨r9,e10,hF⟩:=bind_some hF
 refine Zq hE Za ld rfl cb66 (Kb _ p0.Mix r9 e10) ?_
 rintro v w a ⟨rfl,hK⟩ hE
 have hM:=hM.keep hK
 refine Zo hE Za ld rfl (TV) fun a hE=>Zm (seg:=enc r9) hE hM Za rfl rfl rfl Yw (Flat.len _) (Tm (pre:=[[vI p0.Field],enc r7]) (cl1 (n:=1) (m:=256) rfl (cl1 (n:=256) (m:=0) (Flat.len _) cl0)) flq) (Flat.cell _) (W0 (pre:=[[vI p0.Field],enc r7]) (cl1 (n:=1) (m:=256) rfl (cl1 (n:=256) (m:=0) (Flat.len _) cl0)) flq) fun w a hM hE=>Zf (Zc (Zo hE Za ld rfl (fd46_3) fun a hE=>Zl (cs:=enc p0.Places) hE Za ld rfl Hm rfl (At.cat (pre:=[[vI p0.Field],enc p0.Box,enc p0.Mix]) (hM.rawAt (pre:=[_,_])) (cl1 (n:=1) (m:=272) rfl (cl1 (n:=256) (m:=16) (Flat.len _) (cl1 (n:=16) (m:=0) (Flat.len _) cl0)))) (Flat.len _) ?_)); intro a hE
 obtain ⟨r11,e12,hF⟩:=bind_some hF
 refine Zq hE Za ld rfl cb67 (Q7 _ p0.Places r11 e12) ?_
 rintro v w a ⟨rfl,hK⟩ hE
 have hM:=hM.keep hK
 refine Zo hE Za ld rfl (TK) fun a hE=>Zm (seg:=enc r11) hE hM Za rfl rfl rfl WZ (Flat.len _) (Tm (pre:=[[vI p0.Field],enc r7,enc r9]) (cl1 (n:=1) (m:=272) rfl (cl1 (n:=256) (m:=16) (Flat.len _) (cl1 (n:=16) (m:=0) (Flat.len _) cl0))) flq) (Flat.cell _) (W0 (pre:=[[vI p0.Field],enc r7,enc r9]) (cl1 (n:=1) (m:=272) rfl (cl1 (n:=256) (m:=16) (Flat.len _) (cl1 (n:=16) (m:=0) (Flat.len _) cl0))) flq) fun w a hM hE=>Zf (Zc (Zo hE Za ld rfl (fd46_4) fun a hE=>Zv (v:=(vI p0.Rounds)) hE Za ld rfl ty2 rfl (At.cat (pre:=[[vI p0.Field],enc p0.Box,enc p0.Mix,enc p0.Places]) (hM.rawAt (pre:=[_,_])) (cl1 (n:=1) (m:=288) rfl (cl1 (n:=256) (m:=32) (Flat.len _) (cl1 (n:=16) (m:=16) (Flat.len _) (cl1 (n:=16) (m:=0) (Flat.len _) cl0))))) fun a hE=>Zo hE Za ld rfl (TJ) fun a hE=>Zm (seg:=[vI p0.Rounds]) hE hM Za rfl rfl rfl ty2 rfl (Tm (pre:=[[vI p0.Field],enc r7,enc r9,enc r11]) (cl1 (n:=1) (m:=288) rfl (cl1 (n:=256) (m:=32) (Flat.len _) (cl1 (n:=16) (m:=16) (Flat.len _) (cl1 (n:=16) (m:=0) (Flat.len _) cl0)))) rfl) (Flat.cell (p0.Rounds : Int)) (W0 (pre:=[[vI p0.Field],enc r7,enc r9,enc r11]) (cl1 (n:=1) (m:=288) rfl (cl1 (n:=256) (m:=32) (Flat.len _) (cl1 (n:=16) (m:=16) (Flat.len _) (cl1 (n:=16) (m:=0) (Flat.len _) cl0)))) rfl) fun w a hM hE=>Zf (Zc (Zl (cs:=enc (⟨p0.Field,r7,r9,r11,p0.Rounds⟩ : GCipher)) hE Za ld rfl U3 rfl (hM.rawAt (pre:=[])) (Y8 (cl1 (n:=1) (m:=289) rfl (cl1 (n:=256) (m:=33) (Flat.len _) (cl1 (n:=16) (m:=17) (Flat.len _) (cl1 (n:=16) (m:=1) (Flat.len _) (cl1 (n:=1) (m:=0) rfl cl0)))))) ?_)))); intro a hE
 have hM:=hM.pull (pre:=[_])
 refine Zm (seg:=cat [[(vI ((⟨p0.Field,r7,r9,r11,p0.Rounds⟩ : GCipher).Field))],enc ((⟨p0.Field,r7,r9,r11,p0.Rounds⟩ : GCipher).Box),enc ((⟨p0.Field,r7,r9,r11,p0.Rounds⟩ : GCipher).Mix),enc ((⟨p0.Field,r7,r9,r11,p0.Rounds⟩ : GCipher).Places),[(vI ((⟨p0.Field,r7,r9,r11,p0.Rounds⟩ : GCipher).Rounds))]]) (cs':=cat [[(vI ((⟨p0.Field,r7,r9,r11,p0.Rounds⟩ : GCipher).Field))],enc ((⟨p0.Field,r7,r9,r11,p0.Rounds⟩ : GCipher).Box),enc ((⟨p0.Field,r7,r9,r11,p0.Rounds⟩ : GCipher).Mix),enc ((⟨p0.Field,r7,r9,r11,p0.Rounds⟩ : GCipher).Places),[(vI ((⟨p0.Field,r7,r9,r11,p0.Rounds⟩ : GCipher).Rounds))]]) hE hM Za rfl rfl rfl U3 (Y8 (cl1 (n:=1) (m:=289) rfl (cl1 (n:=256) (m:=33) (Flat.len _) (cl1 (n:=16) (m:=17) (Flat.len _) (cl1 (n:=16) (m:=1) (Flat.len _) (cl1 (n:=1) (m:=0) rfl cl0)))))) (Nat.le_of_eq ((Nat.zero_add _).trans (Eq.trans (Y8 (cl1 (n:=1) (m:=289) rfl (cl1 (n:=256) (m:=33) (Flat.len _) (cl1 (n:=16) (m:=17) (Flat.len _) (cl1 (n:=16) (m:=1) (Flat.len _) (cl1 (n:=1) (m:=0) rfl cl0)))))) (Eq.symm (Y8 (cl1 (n:=1) (m:=289) rfl (cl1 (n:=256) (m:=33) (Flat.len _) (cl1 (n:=16) (m:=17) (Flat.len _) (cl1 (n:=16) (m:=1) (Flat.len _) (cl1 (n:=1) (m:=0) rfl cl0)))))))))) (Kz (cc1 (Flat.cell ((⟨p0.Field,r7,r9,r11,p0.Rounds⟩ : GCipher).Field : Int)) (cc1 (Flat.cell _) (cc1 (Flat.cell _) (cc1 (Flat.cell _) (cc1 (Flat.cell ((⟨p0.Field,r7,r9,r11,p0.Rounds⟩ : GCipher).Rounds : Int)) cc0)))))) (Zn (Eq.trans (Y8 (cl1 (n:=1) (m:=289) rfl (cl1 (n:=256) (m:=33) (Flat.len _) (cl1 (n:=16) (m:=17) (Flat.len _) (cl1 (n:=16) (m:=1) (Flat.len _) (cl1 (n:=1) (m:=0) rfl cl0)))))) (Eq.symm (Y8 (cl1 (n:=1) (m:=289) rfl (cl1 (n:=256) (m:=33) (Flat.len _) (cl1 (n:=16) (m:=17) (Flat.len _) (cl1 (n:=16) (m:=1) (Flat.len _) (cl1 (n:=1) (m:=0) rfl cl0))))))))) fun w a hM hE=>Zf ?_
 have hr:=Option.some.inj hF
 subst hr
 have hq13 : YD Try.prog _ _ (.cell 2 53) _:=ZW hE rfl U3 rfl (hM.rawAt (pre:=[])) (Y8 (cl1 (n:=1) (m:=289) rfl (cl1 (n:=256) (m:=33) (Flat.len _) (cl1 (n:=16) (m:=17) (Flat.len _) (cl1 (n:=16) (m:=1) (Flat.len _) (cl1 (n:=1) (m:=0) rfl cl0)))))) rfl
 have hM:=M.fst (l:=[]) hM
 exact wp_ret (ZD hE rfl hq13 ⟨_,rfl,rfl,hM.kept⟩)
def Vh (p0 : (Vector UInt8 16)) (s10 : (Vector UInt8 16) × Int) : Option (Fl ((Vector UInt8 16) × Int) (Vector UInt8 16)) :=
 if (decide (s10.2 < 16)) = true then ((Zs p0 s10.2).bind fun x16=>(Zs s10.1 s10.2).bind fun x19=>some (Fl.nx ((s10.1.setIfInBounds (s10.2).toNat x16),wr (s10.2 + 1)))) else (some (Fl.ex s10.1))
def Yu (p0 : (Vector UInt8 16)) : Option ((Vector UInt8 16)) :=
 (ZB (Vh p0) ((Vector.replicate 16 (0 : UInt8)),0)).bind fun j7=>some j7
theorem Wj (w0 : World) (p0 : (Vector UInt8 16)) (r : (Vector UInt8 16)) (hF : Yu p0 = some r) :
  Calls Try.prog 26 [(Value.agg (enc p0).toArray)].toArray w0 (fun en w'=>∃ v,en = .returned v ∧ (v = (Value.agg (enc r).toArray) ∧ Kept (Old w0) w0 w')):=by
 refine ZC (n:=15) Try.func26 rfl rfl (nbl rfl) rfl ?_
 intro a hE
 have hM:=M.start w0
 unfold Yu at hF
 refine Zc (ZX (cs:=enc p0) hE hM Za ld rfl rfl fun b1 w a hM hE=>ZF hE hM Za ld ZG fun b3 w a hM hE=>Zf (Zc (ZF hE hM Za ld ZG fun b5 w a hM hE=>Zf (wp_seq (Zc (Ze hE Za ld rfl fun a hE=>Zf ?_))))))
 obtain ⟨j7,hl8,hF9⟩:=bind_some hF
 refine ZP (fun a w=>Env 15 a [(2,(ptr b3 0)),(3,(ptr b5 0))] ∧ M (Old w0) w0 w [raw b5 (enc j7),raw b3 (enc (Vector.replicate 16 (0 : UInt8)))]) ?_ ?_
 ·skip
  refine wp_block ?_
  refine ZJ (fun (s10 : (Vector UInt8 16) × Int) a w=>Env 15 a [(1,(ptr b1 0)),(2,(ptr b3 0)),(3,(ptr b5 0)),(4,vI s10.2)] ∧ M (Old w0) w0 w [raw b5 (enc s10.1),raw b3 (enc (Vector.replicate 16 (0 : UInt8))),raw b1 (enc p0)]) hl8 ⟨hE.sub ⟨rfl,rfl,rfl,rfl,trivial⟩,hM⟩ ?_
  rintro s10 a w ⟨hE,hM⟩ o13 hs11 hx12
  unfold Vh at hs11
  refine wp_seq (Zc (Zd hE Za ld rfl fun a hE=>Zk hE Za ld rfl rfl rfl fun a hE=>Zf ?_))
  refine Zr hE rfl ?_ ?_
  ·intro hb14
   have hs11:=Zw hs11 hb14
   refine wp_skip (Zt (wp_seq (wp_block (wp_region_lit (Zd hE Za ld rfl fun a hE=>Zd hE Za ld rfl ?_))))); intro a hE
   obtain ⟨x16,hi15,hs11⟩:=bvx hs11
   refine Zg hE Za ld rfl rfl Try.underlying44 ty5 hi15.1 fun a hE=>Zv (v:=(vB x16)) hE Za ld rfl ty5 rfl (At.vec (hM.rawAt (pre:=[_,_])) hi15.2) ?_; intro a hE
   obtain ⟨x19,hi18,hs11⟩:=bvx hs11
   refine Zg hE Za ld rfl rfl Try.underlying55 ty5 hi18.1 fun a hE=>Zm (seg:=[vB x16]) (cs':=enc (s10.1.setIfInBounds (s10.2).toNat x16)) hE hM Za rfl rfl rfl ty5 rfl (ZI (v:=s10.1) (x:=x16) hi18.1) (Flat.cell (x16 : UInt8)) (Zu (v:=s10.1) (x:=x16) hi18.1) fun w a hM hE=>Zi (Yi (Zt (wp_region_lit (Zd hE Za ld rfl fun a hE=>Zk hE Za ld rfl rfl rfl fun a hE=>Ze hE Za ld rfl fun a hE=>Zi (Zj ?_)))))
   exact ⟨_,(ois hs11),hE.sub ⟨rfl,rfl,rfl,rfl,trivial⟩,hM⟩
  ·intro hb14
   have hs11:=Zx hs11 hb14
   refine wp_exit (Zp (Zp (Yj ?_)))
   have ht21:=hx12 _ (ois hs11)
   subst ht21
   refine Zj ?_
   have hM:=M.fst (l:=[_,_]) ((hM.pull (pre:=[_])).pull (pre:=[_]))
   exact ⟨hE.sub ⟨rfl,rfl,trivial⟩,hM⟩
 ·skip
  rintro a w ⟨hE,hM⟩
  refine Zt (Zc (Zl (cs:=enc j7) hE Za ld rfl ZG rfl (hM.rawAt (pre:=[])) (Flat.len _) ?_)); intro a hE
  have hM:=hM.pull (pre:=[_])
  refine Zm (seg:=enc j7) (cs':=enc j7) hE hM Za rfl rfl rfl ZG (Flat.len _) (zle flq) (Flat.cell _) (Zn flq) fun w a hM hE=>Zf ?_
  have hr:=Option.some.inj hF9
  subst hr
  have hq22 : YD Try.prog _ _ (.cell 2 55) _:=ZW hE rfl ZG rfl (hM.rawAt (pre:=[])) (Flat.len _) rfl
  have hM:=M.fst (l:=[]) hM
  exact wp_ret (ZD hE rfl hq22 ⟨_,rfl,rfl,hM.kept⟩)
def W5 (p0 : Int) (p1 : Int) (p2 : Int) : Option (Bool) :=
 (if (decide (p0 ≥ p1)) = true then (some (decide (p0 ≤ p2))) else (some false) : Option (Bool)).bind fun j1=>some j1
theorem T5 (w0 : World) (p0 : Int) (p1 : Int) (p2 : Int) (r : Bool) (hF : W5 p0 p1 p2 = some r) :
  Calls Try.prog 82 [vI p0,vI p1,vI p2].toArray w0 (fun en w'=>∃ v,en = .returned v ∧ (v = (vT r) ∧ Kept (Old w0) w0 w')):=by
 refine ZC (n:=15) Try.func82 rfl rfl (nbl rfl) rfl ?_
 intro a hE
 have hM:=M.start w0
 unfold W5 at hF
 refine Zc (Ze hE Za ld rfl fun a hE=>Zf ?_)
 obtain ⟨j1,hl2,hF3⟩:=bind_some hF
 refine ZL (fun a w=>Env 15 a [(6,vT j1)] ∧ M (Old w0) w0 w []) ?_ ?_
 ·skip
  refine wp_region_lit (Zd hE Za ld rfl fun a hE=>Zd hE Za ld rfl fun a hE=>Zk hE Za ld rfl rfl rfl fun a hE=>Zd hE Za ld rfl ?_); intro a hE
  refine Va (decide (p0 ≥ p1)) (fun hb4=>?_) (fun hb4=>?_)
  ·have hl2:=Zw hl2 hb4
   refine Zd hE (Zz hE rfl (lkb rfl hb4)) (by decide) rfl fun a hE=>Zd hE (Zz hE rfl (lkb rfl hb4)) (by decide) rfl fun a hE=>Zk hE (Zz hE rfl (lkb rfl hb4)) (by decide) rfl rfl rfl fun a hE=>Xx hE Za ld (lkb rfl hb4) rfl fun a hE=>Ze hE Za ld rfl fun a hE=>Zi ?_
   have ht5:=Option.some.inj hl2
   subst ht5
   refine Zj ?_
   exact ⟨hE.sub ⟨rfl,trivial⟩,hM⟩
  ·have hl2:=Zx hl2 hb4
   refine Zy hE rfl (lkb rfl hb4) rfl (by decide) fun a hE=>Zy hE rfl (lkb rfl hb4) rfl (by decide) fun a hE=>Zy hE rfl (lkb rfl hb4) rfl (by decide) fun a hE=>YO hE Za ld (lkb rfl hb4) rfl fun a hE=>Ze hE Za ld rfl fun a hE=>Zi ?_
   have ht6:=Option.some.inj hl2
   subst ht6
   refine Zj ?_
   exact ⟨hE.sub ⟨rfl,trivial⟩,hM⟩
 ·skip
  rintro a w ⟨hE,hM⟩
  have hr:=Option.some.inj hF3
  subst hr
  exact wp_ret (ZD hE rfl (ZA hE rfl) ⟨_,rfl,rfl,hM.kept⟩)
def Yq (s4 : Int × Int) : Option (Fl (Int × Int) Int) :=
 if (decide (s4.1 > 0)) = true then (some (Fl.nx (wr (Int.tdiv s4.1 2),wr (s4.2 + 1)))) else (some (Fl.ex s4.2))
def Y1 (p0 : Int) : Option (Int) :=
 (ZB (Yq) (p0,0)).bind fun j1=>some j1
theorem VF (w0 : World) (p0 : Int) (r : Int) (hF : Y1 p0 = some r) :
  Calls Try.prog 139 [vI p0].toArray w0 (fun en w'=>∃ v,en = .returned v ∧ (v = (vI r) ∧ Kept (Old w0) w0 w')):=by
 refine ZC (n:=11) Try.func139 rfl rfl (nbl rfl) rfl ?_
 intro a hE
 have hM:=M.start w0
 unfold Y1 at hF
 refine Zc (Ze hE Za ld rfl fun a hE=>Zf (Zc (Ze hE Za ld rfl fun a hE=>Zf ?_)))
 obtain ⟨j1,hl2,hF3⟩:=bind_some hF
 refine ZL (fun a w=>Env 11 a [(3,vI j1)] ∧ M (Old w0) w0 w []) ?_ ?_
 ·skip
  refine wp_block ?_
  refine ZJ (fun (s4 : Int × Int) a w=>Env 11 a [(0,vI s4.1),(3,vI s4.2)] ∧ M (Old w0) w0 w []) hl2 ⟨hE.sub ⟨rfl,rfl,trivial⟩,hM⟩ ?_
  rintro s4 a w ⟨hE,hM⟩ o7 hs5 hx6
  unfold Yq at hs5
  refine wp_seq (Zc (Zd hE Za ld rfl fun a hE=>Zk hE Za ld rfl rfl rfl fun a hE=>Zf ?_))
  refine Zr hE rfl ?_ ?_
  ·intro hb8
   have hs5:=Zw hs5 hb8
   refine wp_skip (Zt (wp_seq (wp_block (wp_region_lit (Zd hE Za ld rfl fun a hE=>Zk hE Za ld rfl rfl rfl fun a hE=>Ze hE Za ld rfl fun a hE=>Zi (Yi (Zt (wp_region_lit (Zd hE Za ld rfl fun a hE=>Zk hE Za ld rfl rfl (JJ _ _ (by decide)) fun a hE=>Ze hE Za ld rfl fun a hE=>Zi (Zj ?_))))))))))
   exact ⟨_,(ois hs5),hE.sub ⟨rfl,rfl,trivial⟩,hM⟩
  ·intro hb8
   have hs5:=Zx hs5 hb8
   refine wp_exit (Zp (Zp (Yj ?_)))
   have ht9:=hx6 _ (ois hs5)
   subst ht9
   refine Zj ?_
   exact ⟨hE.sub ⟨rfl,trivial⟩,hM⟩
 ·skip
  rintro a w ⟨hE,hM⟩
  refine Zc (Zd hE Za ld rfl fun a hE=>Ze hE Za ld rfl fun a hE=>Zf ?_)
  have hr:=Option.some.inj hF3
  subst hr
  exact wp_ret (ZD hE rfl (ZA hE rfl) ⟨_,rfl,rfl,hM.kept⟩)
def XQ (p1 : Int) (r1 : Int) (s8 : Int × Int) : Option (Fl (Int × Int) Int) :=
 if (decide (s8.2 ≥ r1)) = true then ((X6 (IntKind.u64.wrap (wr (s8.2 - r1)))).bind fun _=>(Y1 (JN s8.1 (QO p1 (IntKind.u64.wrap (wr (s8.2 - r1)))))).bind fun r14=>some (Fl.nx (JN s8.1 (QO p1 (IntKind.u64.wrap (wr (s8.2 - r1)))),r14))) else (some (Fl.ex s8.1))
def WM (p0 : Int) (p1 : Int) : Option (Int) :=
 (Y1 p1).bind fun r1=>(Y1 p0).bind fun r3=>(ZB (XQ p1 r1) (p0,r3)).bind fun j5=>some j5
theorem KE (w0 : World) (p0 : Int) (p1 : Int) (r : Int) (hF : WM p0 p1 = some r) :
  Calls Try.prog 95 [vI p0,vI p1].toArray w0 (fun en w'=>∃ v,en = .returned v ∧ (v = (vI r) ∧ Kept (Old w0) w0 w')):=by
 refine ZC (n:=25) Try.func95 rfl rfl (nbl rfl) rfl ?_
 intro a hE
 have hM:=M.start w0
 unfold WM at hF
 refine Zc (Ze hE Za ld rfl fun a hE=>Zf (Zc (Zd hE Za ld rfl ?_))); intro a hE
 obtain ⟨r1,e2,hF⟩:=bind_some hF
 refine Zq hE Za ld rfl BO (VF _ p1 r1 e2) ?_
 rintro v w a ⟨rfl,hK⟩ hE
 have hM:=hM.keep hK
 refine Ze hE Za ld rfl fun a hE=>Zf (wp_seq (Zc (Zd hE Za ld rfl ?_))); intro a hE
 obtain ⟨r3,e4,hF⟩:=bind_some hF
 refine Zq hE Za ld rfl BO (VF _ p0 r3 e4) ?_
 rintro v w a ⟨rfl,hK⟩ hE
 have hM:=hM.keep hK
 refine Ze hE Za ld rfl fun a hE=>Zf ?_
 obtain ⟨j5,hl6,hF7⟩:=bind_some hF
 refine ZP (fun a w=>Env 25 a [(0,vI j5)] ∧ M (Old w0) w0 w []) ?_ ?_
 ·skip
  refine wp_block ?_
  refine ZJ (fun (s8 : Int × Int) a w=>Env 25 a [(0,vI s8.1),(1,vI p1),(5,vI r1),(6,vI s8.2)] ∧ M (Old w0) w0 w []) hl6 ⟨hE.sub ⟨rfl,rfl,rfl,rfl,trivial⟩,hM⟩ ?_
  rintro s8 a w ⟨hE,hM⟩ o11 hs9 hx10
  unfold XQ at hs9
  refine wp_seq (Zc (Zd hE Za ld rfl fun a hE=>Zd hE Za ld rfl fun a hE=>Zk hE Za ld rfl rfl rfl fun a hE=>Zf ?_))
  refine Zr hE rfl ?_ ?_
  ·intro hb12
   have hs9:=Zw hs9 hb12
   refine wp_skip (Zt (wp_seq (wp_block (wp_region_lit (Zd hE Za ld rfl fun a hE=>Zd hE Za ld rfl fun a hE=>Zd hE Za ld rfl fun a hE=>Zd hE Za ld rfl fun a hE=>Zk hE Za ld rfl rfl rfl fun a hE=>Ve hE Za ld rfl Try.underlying2 Try.underlying162 ?_))))); intro a hE
   obtain ⟨_,e13,hs9⟩:=bind_some hs9
   have e13:=WN e13
   refine HD hE Za ld rfl rfl (KB _ _ e13) fun a hE=>Zk hE Za ld rfl rfl rfl fun a hE=>Ze hE Za ld rfl fun a hE=>Zi (Yi (Zt (wp_region_lit (Zd hE Za ld rfl ?_)))); intro a hE
   obtain ⟨r14,e15,hs9⟩:=bind_some hs9
   refine Zq hE Za ld rfl BO (VF _ (JN s8.1 (QO p1 (IntKind.u64.wrap (wr (s8.2 - r1))))) r14 e15) ?_
   rintro v w a ⟨rfl,hK⟩ hE
   have hM:=hM.keep hK
   refine Ze hE Za ld rfl fun a hE=>Zi (Zj ?_)
   exact ⟨_,(ois hs9),hE.sub ⟨rfl,rfl,rfl,rfl,trivial⟩,hM⟩
  ·intro hb12
   have hs9:=Zx hs9 hb12
   refine wp_exit (Zp (Zp (Yj ?_)))
   have ht16:=hx10 _ (ois hs9)
   subst ht16
   refine Zj ?_
   exact ⟨hE.sub ⟨rfl,trivial⟩,hM⟩
 ·skip
  rintro a w ⟨hE,hM⟩
  refine Zt (Zc (Zd hE Za ld rfl fun a hE=>Ze hE Za ld rfl fun a hE=>Zf ?_))
  have hr:=Option.some.inj hF7
  subst hr
  exact wp_ret (ZD hE rfl (ZA hE rfl) ⟨_,rfl,rfl,hM.kept⟩)
def XC (p0 : Int) (s8 : Int) : Option (Fl Int (Fl Unit Bool)) :=
 if (decide (s8 < 32)) = true then ((WM p0 s8).bind fun r13=>if (r13 == 0) = true then (some (Fl.ex (Fl.ex false))) else (some (Fl.nx (wr (s8 + 1))))) else (some (Fl.ex (Fl.nx ())))
def Ww (p0 : Int) : Option (Bool) :=
 (W5 p0 256 511).bind fun r1=>if (!r1) = true then (some false) else ((ZB (XC p0) 2).bind fun j4=>j4.el (fun s7=>some true) (fun r=>some r))
theorem Kd (w0 : World) (p0 : Int) (r : Bool) (hF : Ww p0 = some r) :
  Calls Try.prog 43 [vI p0].toArray w0 (fun en w'=>∃ v,en = .returned v ∧ (v = (vT r) ∧ Kept (Old w0) w0 w')):=by
 refine ZC (n:=15) Try.func43 rfl rfl (nbl rfl) rfl ?_
 intro a hE
 have hM:=M.start w0
 unfold Ww at hF
 refine Zc (Ze hE Za ld rfl fun a hE=>Zf (wp_seq (Zc (Zd hE Za ld rfl ?_)))); intro a hE
 obtain ⟨r1,e2,hF⟩:=bind_some hF
 refine Zq hE Za ld rfl cb82 (T5 _ p0 256 511 r1 e2) ?_
 rintro v w a ⟨rfl,hK⟩ hE
 have hM:=hM.keep hK
 refine UV hE Za ld rfl fun a hE=>Zf ?_
 refine Zr hE rfl ?_ ?_
 ·intro hb3
  have hF:=Zw hF hb3
  refine Zc (Ze hE Za ld rfl fun a hE=>Zf ?_)
  have hr:=Option.some.inj hF
  subst hr
  exact wp_ret (ZH (ZD hE rfl (ZA hE rfl) ⟨_,rfl,rfl,hM.kept⟩))
 ·intro hb3
  have hF:=Zx hF hb3
  refine wp_skip (Zt (wp_seq (Zc (Ze hE Za ld rfl fun a hE=>Zf ?_))))
  obtain ⟨j4,hl5,hF6⟩:=bind_some hF
  refine ZP (fun a w=>∃ s7 : Unit,j4 = Fl.nx s7 ∧ Env 15 a [] ∧ M (Old w0) w0 w []) ?_ ?_
  ·skip
   refine wp_block ?_
   refine ZJ (fun (s8 : Int) a w=>Env 15 a [(0,vI p0),(3,vI s8)] ∧ M (Old w0) w0 w []) hl5 ⟨hE.sub ⟨rfl,rfl,trivial⟩,hM⟩ ?_
   rintro s8 a w ⟨hE,hM⟩ o11 hs9 hx10
   unfold XC at hs9
   refine wp_seq (Zc (Zd hE Za ld rfl fun a hE=>Zk hE Za ld rfl rfl rfl fun a hE=>Zf ?_))
   refine Zr hE rfl ?_ ?_
   ·intro hb12
    have hs9:=Zw hs9 hb12
    refine wp_skip (Zt (wp_seq (wp_block (Zc (Zd hE Za ld rfl fun a hE=>Zd hE Za ld rfl ?_))))); intro a hE
    obtain ⟨r13,e14,hs9⟩:=bind_some hs9
    refine Zq hE Za ld rfl cb95 (KE _ p0 s8 r13 e14) ?_
    rintro v w a ⟨rfl,hK⟩ hE
    have hM:=hM.keep hK
    refine Zk hE Za ld rfl rfl rfl fun a hE=>Zf ?_
    refine Zr hE rfl ?_ ?_
    ·intro hb15
     have hs9:=Zw hs9 hb15
     refine Zc (Ze hE Za ld rfl fun a hE=>Zf ?_)
     have ht16:=hx10 _ (ois hs9)
     subst ht16
     have hr:=Option.some.inj hF6
     subst hr
     exact wp_ret (Wq (ZH (ZH (Wq (ZH (ZH (ZD hE rfl (ZA hE rfl) ⟨_,rfl,rfl,hM.kept⟩)))))))
    ·intro hb15
     have hs9:=Zx hs9 hb15
     refine wp_skip (Yi (Zt (wp_region_lit (Zd hE Za ld rfl fun a hE=>Zk hE Za ld rfl rfl rfl fun a hE=>Ze hE Za ld rfl fun a hE=>Zi (Zj ?_)))))
     exact ⟨_,(ois hs9),hE.sub ⟨rfl,rfl,trivial⟩,hM⟩
   ·intro hb12
    have hs9:=Zx hs9 hb12
    refine wp_exit (Zp (Zp (Yj ?_)))
    have ht17:=hx10 _ (ois hs9)
    subst ht17
    refine Zj ?_
    exact ⟨(),rfl,hE.sub trivial,hM⟩
  ·skip
   rintro a w ⟨s7,ht,hE,hM⟩
   subst ht
   have hF6:=UU hF6
   refine Zt (Zc (Ze hE Za ld rfl fun a hE=>Zf ?_))
   have hr:=Option.some.inj hF6
   subst hr
   exact wp_ret (ZD hE rfl (ZA hE rfl) ⟨_,rfl,rfl,hM.kept⟩)
def WB (p0 : (Vector UInt8 256)) (s9 : (Vector Bool 256) × Int) : Option (Fl ((Vector Bool 256) × Int) (Fl Unit Bool)) :=
 if (decide (s9.2 < 256)) = true then ((Zs p0 s9.2).bind fun x15=>(Zs s9.1 (bI x15)).bind fun x18=>if x18 = true then (some (Fl.ex (Fl.ex false))) else ((Zs p0 s9.2).bind fun x23=>(Zs s9.1 (bI x23)).bind fun x26=>some (Fl.nx ((s9.1.setIfInBounds ((bI x23)).toNat true),wr (s9.2 + 1))))) else (some (Fl.ex (Fl.nx ())))
def VC (p0 : (Vector UInt8 256)) : Option (Bool) :=
 (ZB (WB p0) ((Vector.replicate 256 false),0)).bind fun j5=>j5.el (fun s8=>some true) (fun r=>some r)
theorem JC (w0 : World) (p0 : (Vector UInt8 256)) (r : Bool) (hF : VC p0 = some r) :
  Calls Try.prog 113 [(Value.agg (enc p0).toArray)].toArray w0 (fun en w'=>∃ v,en = .returned v ∧ (v = (vT r) ∧ Kept (Old w0) w0 w')):=by
 refine ZC (n:=19) Try.func113 rfl rfl (nbl rfl) rfl ?_
 intro a hE
 have hM:=M.start w0
 unfold VC at hF
 refine Zc (ZX (cs:=enc p0) hE hM Za ld rfl rfl fun b1 w a hM hE=>Ze hE Za ld rfl fun a hE=>Zf (Zc (YP (parts:=[]) (vs:=[]) (cs:=enc (Vector.replicate 256 false)) hE Za ld rfl rfl Jo rfl ty4 Yr fun a hE=>ZF hE hM Za ld Jo fun b3 w a hM hE=>Zm (seg:=enc (Vector.replicate 256 false)) (cs':=enc (Vector.replicate 256 false)) hE hM Za rfl rfl rfl Jo (Flat.len _) (zle flq) (Flat.cell _) (Zn flq) fun w a hM hE=>Zf (wp_seq (Zc (Ze hE Za ld rfl fun a hE=>Zf ?_))))))
 obtain ⟨j5,hl6,hF7⟩:=bind_some hF
 refine ZP (fun a w=>∃ s8 : Unit,j5 = Fl.nx s8 ∧ Env 19 a [] ∧ M (Old w0) w0 w []) ?_ ?_
 ·skip
  refine wp_block ?_
  refine ZJ (fun (s9 : (Vector Bool 256) × Int) a w=>Env 19 a [(1,(ptr b1 0)),(3,(ptr b3 0)),(4,vI s9.2)] ∧ M (Old w0) w0 w [raw b3 (enc s9.1),raw b1 (enc p0)]) hl6 ⟨hE.sub ⟨rfl,rfl,rfl,trivial⟩,hM⟩ ?_
  rintro s9 a w ⟨hE,hM⟩ o12 hs10 hx11
  unfold WB at hs10
  refine wp_seq (Zc (Zd hE Za ld rfl fun a hE=>Zk hE Za ld rfl rfl rfl fun a hE=>Zf ?_))
  refine Zr hE rfl ?_ ?_
  ·intro hb13
   have hs10:=Zw hs10 hb13
   refine wp_skip (Zt (wp_seq (wp_block (wp_seq (Zc (Zd hE Za ld rfl ?_)))))); intro a hE
   obtain ⟨x15,hi14,hs10⟩:=bvx hs10
   refine Zg hE Za ld rfl rfl Try.underlying49 ty5 hi14.1 fun a hE=>Zv (v:=(vB x15)) hE Za ld rfl ty5 rfl (At.vec (hM.rawAt (pre:=[_])) hi14.2) ?_; intro a hE
   obtain ⟨x18,hi17,hs10⟩:=bvx hs10
   refine Zg hE Za ld rfl rfl Try.underlying117 ty4 hi17.1 fun a hE=>Zv (v:=(vT x18)) hE Za ld rfl ty4 rfl (At.vec (hM.rawAt (pre:=[])) hi17.2) fun a hE=>Zf ?_
   refine Zr hE rfl ?_ ?_
   ·intro hb20
    have hs10:=Zw hs10 hb20
    refine Zc (Ze hE Za ld rfl fun a hE=>Zf ?_)
    have ht21:=hx11 _ (ois hs10)
    subst ht21
    have hr:=Option.some.inj hF7
    subst hr
    have hM:=M.fst (l:=[]) hM
    exact wp_ret (ZH (Wq (ZH (ZH (Wq (ZH (ZH (ZD hE rfl (ZA hE rfl) ⟨_,rfl,rfl,hM.kept⟩))))))))
   ·intro hb20
    have hs10:=Zx hs10 hb20
    refine wp_skip (Zt (wp_region_lit (Zd hE Za ld rfl ?_))); intro a hE
    obtain ⟨x23,hi22,hs10⟩:=bvx hs10
    refine Zg hE Za ld rfl rfl Try.underlying49 ty5 hi22.1 fun a hE=>Zv (v:=(vB x23)) hE Za ld rfl ty5 rfl (At.vec (hM.rawAt (pre:=[_])) hi22.2) ?_; intro a hE
    obtain ⟨x26,hi25,hs10⟩:=bvx hs10
    refine Zg hE Za ld rfl rfl Try.underlying117 ty4 hi25.1 fun a hE=>Zm (seg:=[vT true]) (cs':=enc (s9.1.setIfInBounds ((bI x23)).toNat true)) hE hM Za rfl rfl rfl ty4 rfl (ZI (v:=s9.1) (x:=true) hi25.1) (Flat.cell (true : Bool)) (Zu (v:=s9.1) (x:=true) hi25.1) fun w a hM hE=>Zi (Yi (Zt (wp_region_lit (Zd hE Za ld rfl fun a hE=>Zk hE Za ld rfl rfl rfl fun a hE=>Ze hE Za ld rfl fun a hE=>Zi (Zj ?_)))))
    exact ⟨_,(ois hs10),hE.sub ⟨rfl,rfl,rfl,trivial⟩,hM⟩
  ·intro hb13
   have hs10:=Zx hs10 hb13
   refine wp_exit (Zp (Zp (Yj ?_)))
   have ht28:=hx11 _ (ois hs10)
   subst ht28
   refine Zj ?_
   have hM:=M.fst (l:=[]) hM
   exact ⟨(),rfl,hE.sub trivial,hM⟩
 ·skip
  rintro a w ⟨s8,ht,hE,hM⟩
  subst ht
  have hF7:=UU hF7
  refine Zt (Zc (Ze hE Za ld rfl fun a hE=>Zf ?_))
  have hr:=Option.some.inj hF7
  subst hr
  exact wp_ret (ZD hE rfl (ZA hE rfl) ⟨_,rfl,rfl,hM.kept⟩)
def XU (p0 : (Vector UInt8 16)) (s9 : (Vector Bool 16) × Int) : Option (Fl ((Vector Bool 16) × Int) (Fl Unit Bool)) :=
 if (decide (s9.2 < 16)) = true then (((Zs p0 s9.2).bind fun x18=>if (decide (x18 ≥ 16)) = true then (some true) else ((Zs p0 s9.2).bind fun x23=>(Zs s9.1 (bI x23)).bind fun x26=>some x26) : Option (Bool)).bind fun j14=>if j14 = true then (some (Fl.ex (Fl.ex false))) else ((Zs p0 s9.2).bind fun x32=>(Zs s9.1 (bI x32)).bind fun x35=>some (Fl.nx ((s9.1.setIfInBounds ((bI x32)).toNat true),wr (s9.2 + 1))))) else (some (Fl.ex (Fl.nx ())))
def WX (p0 : (Vector UInt8 16)) : Option (Bool) :=
 (ZB (XU p0) ((Vector.replicate 16 false),0)).bind fun j5=>j5.el (fun s8=>some true) (fun r=>some r)
theorem KZ (w0 : World) (p0 : (Vector UInt8 16)) (r : Bool) (hF : WX p0 = some r) :
  Calls Try.prog 114 [(Value.agg (enc p0).toArray)].toArray w0 (fun en w'=>∃ v,en = .returned v ∧ (v = (vT r) ∧ Kept (Old w0) w0 w')):=by
 refine ZC (n:=25) Try.func114 rfl rfl (nbl rfl) rfl ?_
 intro a hE
 have hM:=M.start w0
 unfold WX at hF
 refine Zc (ZX (cs:=enc p0) hE hM Za ld rfl rfl fun b1 w a hM hE=>Ze hE Za ld rfl fun a hE=>Zf (Zc (YP (parts:=[]) (vs:=[]) (cs:=enc (Vector.replicate 16 false)) hE Za ld rfl rfl BC rfl ty4 Yr fun a hE=>ZF hE hM Za ld BC fun b3 w a hM hE=>Zm (seg:=enc (Vector.replicate 16 false)) (cs':=enc (Vector.replicate 16 false)) hE hM Za rfl rfl rfl BC (Flat.len _) (zle flq) (Flat.cell _) (Zn flq) fun w a hM hE=>Zf (wp_seq (Zc (Ze hE Za ld rfl fun a hE=>Zf ?_))))))
 obtain ⟨j5,hl6,hF7⟩:=bind_some hF
 refine ZP (fun a w=>∃ s8 : Unit,j5 = Fl.nx s8 ∧ Env 25 a [] ∧ M (Old w0) w0 w []) ?_ ?_
 ·skip
  refine wp_block ?_
  refine ZJ (fun (s9 : (Vector Bool 16) × Int) a w=>Env 25 a [(1,(ptr b1 0)),(3,(ptr b3 0)),(4,vI s9.2)] ∧ M (Old w0) w0 w [raw b3 (enc s9.1),raw b1 (enc p0)]) hl6 ⟨hE.sub ⟨rfl,rfl,rfl,trivial⟩,hM⟩ ?_
  rintro s9 a w ⟨hE,hM⟩ o12 hs10 hx11
  unfold XU at hs10
  refine wp_seq (Zc (Zd hE Za ld rfl fun a hE=>Zk hE Za ld rfl rfl rfl fun a hE=>Zf ?_))
  refine Zr hE rfl ?_ ?_
  ·intro hb13
   have hs10:=Zw hs10 hb13
   refine wp_skip (Zt (wp_seq (wp_block (wp_seq ?_))))
   obtain ⟨j14,hl15,hF16⟩:=bind_some hs10
   refine ZL (fun a w=>Env 25 a [(1,(ptr b1 0)),(3,(ptr b3 0)),(4,vI s9.2),(20,vT j14)] ∧ M (Old w0) w0 w [raw b3 (enc s9.1),raw b1 (enc p0)]) ?_ ?_
   ·skip
    refine wp_region_lit (Zd hE Za ld rfl ?_); intro a hE
    obtain ⟨x18,hi17,hl15⟩:=bvx hl15
    refine Zg hE Za ld rfl rfl Try.underlying51 ty5 hi17.1 fun a hE=>Zv (v:=(vB x18)) hE Za ld rfl ty5 rfl (At.vec (hM.rawAt (pre:=[_])) hi17.2) fun a hE=>Zk hE Za ld rfl rfl (bB_geq x18 16) fun a hE=>Zd hE Za ld rfl ?_; intro a hE
    refine Va (decide (x18 ≥ 16)) (fun hb20=>?_) (fun hb20=>?_)
    ·have hl15:=Zw hl15 hb20
     refine Zy hE rfl (lkb rfl hb20) rfl (by decide) fun a hE=>Zy hE rfl (lkb rfl hb20) rfl (by decide) fun a hE=>Zy hE rfl (lkb rfl hb20) rfl (by decide) fun a hE=>Zy hE rfl (lkb rfl hb20) rfl (by decide) fun a hE=>Zy hE rfl (lkb rfl hb20) rfl (by decide) fun a hE=>Xx hE Za ld (lkb rfl hb20) rfl fun a hE=>Zi ?_
     have ht21:=Option.some.inj hl15
     subst ht21
     refine Zj ?_
     exact ⟨hE.sub ⟨rfl,rfl,rfl,rfl,trivial⟩,hM⟩
    ·have hl15:=Zx hl15 hb20
     refine Zd hE (Zz hE rfl (lkb rfl hb20)) (by decide) rfl ?_; intro a hE
     obtain ⟨x23,hi22,hl15⟩:=bvx hl15
     refine Zg hE (Zz hE rfl (lkb rfl hb20)) (by decide) rfl rfl Try.underlying51 ty5 hi22.1 fun a hE=>Zv (v:=(vB x23)) hE (Zz hE rfl (lkb rfl hb20)) (by decide) rfl ty5 rfl (At.vec (hM.rawAt (pre:=[_])) hi22.2) ?_; intro a hE
     obtain ⟨x26,hi25,hl15⟩:=bvx hl15
     refine Zg hE (Zz hE rfl (lkb rfl hb20)) (by decide) rfl rfl Try.underlying170 ty4 hi25.1 fun a hE=>Zv (v:=(vT x26)) hE (Zz hE rfl (lkb rfl hb20)) (by decide) rfl ty4 rfl (At.vec (hM.rawAt (pre:=[])) hi25.2) fun a hE=>YO hE Za ld (lkb rfl hb20) rfl fun a hE=>Zi ?_
     have ht28:=Option.some.inj hl15
     subst ht28
     refine Zj ?_
     exact ⟨hE.sub ⟨rfl,rfl,rfl,rfl,trivial⟩,hM⟩
   ·skip
    rintro a w ⟨hE,hM⟩
    refine Zr hE rfl ?_ ?_
    ·intro hb29
     have hF16:=Zw hF16 hb29
     refine Zc (Ze hE Za ld rfl fun a hE=>Zf ?_)
     have ht30:=hx11 _ (ois hF16)
     subst ht30
     have hr:=Option.some.inj hF7
     subst hr
     have hM:=M.fst (l:=[]) hM
     exact wp_ret (ZH (Wq (ZH (ZH (Wq (ZH (ZH (ZD hE rfl (ZA hE rfl) ⟨_,rfl,rfl,hM.kept⟩))))))))
    ·intro hb29
     have hF16:=Zx hF16 hb29
     refine wp_skip (Zt (wp_region_lit (Zd hE Za ld rfl ?_))); intro a hE
     obtain ⟨x32,hi31,hF16⟩:=bvx hF16
     refine Zg hE Za ld rfl rfl Try.underlying51 ty5 hi31.1 fun a hE=>Zv (v:=(vB x32)) hE Za ld rfl ty5 rfl (At.vec (hM.rawAt (pre:=[_])) hi31.2) ?_; intro a hE
     obtain ⟨x35,hi34,hF16⟩:=bvx hF16
     refine Zg hE Za ld rfl rfl Try.underlying170 ty4 hi34.1 fun a hE=>Zm (seg:=[vT true]) (cs':=enc (s9.1.setIfInBounds ((bI x32)).toNat true)) hE hM Za rfl rfl rfl ty4 rfl (ZI (v:=s9.1) (x:=true) hi34.1) (Flat.cell (true : Bool)) (Zu (v:=s9.1) (x:=true) hi34.1) fun w a hM hE=>Zi (Yi (Zt (wp_region_lit (Zd hE Za ld rfl fun a hE=>Zk hE Za ld rfl rfl rfl fun a hE=>Ze hE Za ld rfl fun a hE=>Zi (Zj ?_)))))
     exact ⟨_,(ois hF16),hE.sub ⟨rfl,rfl,rfl,trivial⟩,hM⟩
  ·intro hb13
   have hs10:=Zx hs10 hb13
   refine wp_exit (Zp (Zp (Yj ?_)))
   have ht37:=hx11 _ (ois hs10)
   subst ht37
   refine Zj ?_
   have hM:=M.fst (l:=[]) hM
   exact ⟨(),rfl,hE.sub trivial,hM⟩
 ·skip
  rintro a w ⟨s8,ht,hE,hM⟩
  subst ht
  have hF7:=UU hF7
  refine Zt (Zc (Ze hE Za ld rfl fun a hE=>Zf ?_))
  have hr:=Option.some.inj hF7
  subst hr
  exact wp_ret (ZD hE rfl (ZA hE rfl) ⟨_,rfl,rfl,hM.kept⟩)
def Vj (s8 : (Vector (Vector UInt8 4) 4) × Int) : Option (Fl ((Vector (Vector UInt8 4) 4) × Int) (Vector (Vector UInt8 4) 4)) :=
 if (decide (s8.2 < 4)) = true then ((Zs s8.1 s8.2).bind fun x14=>(Zs x14 s8.2).bind fun x17=>some (Fl.nx ((s8.1.setIfInBounds (s8.2).toNat (x14.setIfInBounds (s8.2).toNat 1)),wr (s8.2 + 1)))) else (some (Fl.ex s8.1))
def X5 : Option ((Vector (Vector UInt8 4) 4)) :=
 (ZB (Vj) ((Vector.replicate 4 (Vector.replicate 4 (0 : UInt8))),0)).bind fun j5=>some j5
theorem T1 (w0 : World)  (r : (Vector (Vector UInt8 4) 4)) (hF : X5  = some r) :
  Calls Try.prog 156 [].toArray w0 (fun en w'=>∃ v,en = .returned v ∧ (v = (Value.agg (enc r).toArray) ∧ Kept (Old w0) w0 w')):=by
 refine ZC (n:=13) Try.func156 rfl rfl (nbl rfl) rfl ?_
 intro a hE
 have hM:=M.start w0
 unfold X5 at hF
 refine Zc (ZF hE hM Za ld Yw fun b1 w a hM hE=>Zf (Zc (YP (parts:=[]) (vs:=[]) (cs:=enc (Vector.replicate 4 (Vector.replicate 4 (0 : UInt8)))) hE Za ld rfl rfl Yw rfl Z4 Yr fun a hE=>ZF hE hM Za ld Yw fun b3 w a hM hE=>Zm (seg:=enc (Vector.replicate 4 (Vector.replicate 4 (0 : UInt8)))) (cs':=enc (Vector.replicate 4 (Vector.replicate 4 (0 : UInt8)))) hE hM Za rfl rfl rfl Yw (Flat.len _) (zle flq) (Flat.cell _) (Zn flq) fun w a hM hE=>Zf (wp_seq (Zc (Ze hE Za ld rfl fun a hE=>Zf ?_))))))
 obtain ⟨j5,hl6,hF7⟩:=bind_some hF
 refine ZP (fun a w=>Env 13 a [(0,(ptr b1 0)),(1,(ptr b3 0))] ∧ M (Old w0) w0 w [raw b3 (enc j5),raw b1 (enc (Vector.replicate 4 (Vector.replicate 4 (0 : UInt8))))]) ?_ ?_
 ·skip
  refine wp_block ?_
  refine ZJ (fun (s8 : (Vector (Vector UInt8 4) 4) × Int) a w=>Env 13 a [(0,(ptr b1 0)),(1,(ptr b3 0)),(2,vI s8.2)] ∧ M (Old w0) w0 w [raw b3 (enc s8.1),raw b1 (enc (Vector.replicate 4 (Vector.replicate 4 (0 : UInt8))))]) hl6 ⟨hE.sub ⟨rfl,rfl,rfl,trivial⟩,hM⟩ ?_
  rintro s8 a w ⟨hE,hM⟩ o11 hs9 hx10
  unfold Vj at hs9
  refine wp_seq (Zc (Zd hE Za ld rfl fun a hE=>Zk hE Za ld rfl rfl rfl fun a hE=>Zf ?_))
  refine Zr hE rfl ?_ ?_
  ·intro hb12
   have hs9:=Zw hs9 hb12
   refine wp_skip (Zt (wp_seq (wp_block (wp_region_lit (Zd hE Za ld rfl fun a hE=>Zd hE Za ld rfl ?_))))); intro a hE
   obtain ⟨x14,hi13,hs9⟩:=bvx hs9
   refine Zg hE Za ld rfl rfl Try.underlying50 Z4 hi13.1 ?_; intro a hE
   obtain ⟨x17,hi16,hs9⟩:=bvx hs9
   refine Zg hE Za ld rfl rfl Try.underlying42 ty5 hi16.1 fun a hE=>Zm (seg:=[vB 1]) (cs':=enc (s8.1.setIfInBounds (s8.2).toNat (x14.setIfInBounds (s8.2).toNat 1))) hE hM Za rfl rfl rfl ty5 rfl (Wk (o':=0 + (s8.2).toNat * 1) hi13 (ZI (v:=x14) (x:=1) hi16.1) (by first | omega | (simp only [Flat.n] <;> omega))) (Flat.cell (1 : UInt8)) (YM (o':=0 + (s8.2).toNat * 1) hi13 (ZI (v:=x14) (x:=1) hi16.1) (Zu (v:=x14) (x:=1) hi16.1) (by first | omega | (simp only [Flat.n] <;> omega))) fun w a hM hE=>Zi (Yi (Zt (wp_region_lit (Zd hE Za ld rfl fun a hE=>Zk hE Za ld rfl rfl rfl fun a hE=>Ze hE Za ld rfl fun a hE=>Zi (Zj ?_)))))
   exact ⟨_,(ois hs9),hE.sub ⟨rfl,rfl,rfl,trivial⟩,hM⟩
  ·intro hb12
   have hs9:=Zx hs9 hb12
   refine wp_exit (Zp (Zp (Yj ?_)))
   have ht19:=hx10 _ (ois hs9)
   subst ht19
   refine Zj ?_
   exact ⟨hE.sub ⟨rfl,rfl,trivial⟩,hM⟩
 ·skip
  rintro a w ⟨hE,hM⟩
  refine Zt (Zc (Zl (cs:=enc j5) hE Za ld rfl Yw rfl (hM.rawAt (pre:=[])) (Flat.len _) ?_)); intro a hE
  have hM:=hM.pull (pre:=[_])
  refine Zm (seg:=enc j5) (cs':=enc j5) hE hM Za rfl rfl rfl Yw (Flat.len _) (zle flq) (Flat.cell _) (Zn flq) fun w a hM hE=>Zf ?_
  have hr:=Option.some.inj hF7
  subst hr
  have hq20 : YD Try.prog _ _ (.cell 0 50) _:=ZW hE rfl Yw rfl (hM.rawAt (pre:=[])) (Flat.len _) rfl
  have hM:=M.fst (l:=[]) hM
  exact wp_ret (ZD hE rfl hq20 ⟨_,rfl,rfl,hM.kept⟩)
def Yz (p0 : Int) (s4 : Int × Int × Int) : Option (Fl (Int × Int × Int) Int) :=
 if (decide (s4.2.2 > 0)) = true then (((if ((Int.tmod s4.2.2 2) == 1) = true then (some (JN s4.1 s4.2.1)) else (some s4.1) : Option (Int)).bind fun j12=>(if (decide ((wr (s4.2.1 * 2)) ≥ 256)) = true then (some (JN (wr (s4.2.1 * 2)) p0)) else (some (wr (s4.2.1 * 2))) : Option (Int)).bind fun j18=>some (j12,j18) : Option (Int × Int)).bind fun j9=>some (Fl.nx (j9.1,j9.2,wr (Int.tdiv s4.2.2 2)))) else (some (Fl.ex s4.1))
def Z5 (p0 : Int) (p1 : UInt8) (p2 : UInt8) : Option (UInt8) :=
 (ZB (Yz p0) (0,bI p1,bI p2)).bind fun j1=>some (ZO j1)
theorem YL (w0 : World) (p0 : Int) (p1 : UInt8) (p2 : UInt8) (r : UInt8) (hF : Z5 p0 p1 p2 = some r) :
  Calls Try.prog 140 [vI p0,vB p1,vB p2].toArray w0 (fun en w'=>∃ v,en = .returned v ∧ (v = (vB r) ∧ Kept (Old w0) w0 w')):=by
 refine ZC (n:=33) Try.func140 rfl rfl (nbl rfl) rfl ?_
 intro a hE
 have hM:=M.start w0
 unfold Z5 at hF
 refine Zc (Ze hE Za ld rfl fun a hE=>Zf (Zc (Zd hE Za ld rfl fun a hE=>Ve hE Za ld rfl Try.underlying5 Try.underlying2 ?_))); intro a hE
 rw [QR] at hE
 refine Ze hE Za ld rfl fun a hE=>Ze hE Za ld rfl fun a hE=>Zf (wp_seq (Zc (Zd hE Za ld rfl fun a hE=>Ve hE Za ld rfl Try.underlying5 Try.underlying2 ?_))); intro a hE
 rw [QR] at hE
 refine Ze hE Za ld rfl fun a hE=>Zf ?_
 obtain ⟨j1,hl2,hF3⟩:=bind_some hF
 refine ZP (fun a w=>Env 33 a [(7,vI j1)] ∧ M (Old w0) w0 w []) ?_ ?_
 ·skip
  refine wp_block ?_
  refine ZJ (fun (s4 : Int × Int × Int) a w=>Env 33 a [(0,vI p0),(7,vI s4.1),(8,vI s4.2.1),(9,vI s4.2.2)] ∧ M (Old w0) w0 w []) hl2 ⟨hE.sub ⟨rfl,rfl,rfl,rfl,trivial⟩,hM⟩ ?_
  rintro s4 a w ⟨hE,hM⟩ o7 hs5 hx6
  unfold Yz at hs5
  refine wp_seq (Zc (Zd hE Za ld rfl fun a hE=>Zk hE Za ld rfl rfl rfl fun a hE=>Zf ?_))
  refine Zr hE rfl ?_ ?_
  ·intro hb8
   have hs5:=Zw hs5 hb8
   refine wp_skip (Zt ?_)
   obtain ⟨j9,hl10,hF11⟩:=bind_some hs5
   refine ZL (fun a w=>Env 33 a [(0,vI p0),(7,vI j9.1),(8,vI j9.2),(9,vI s4.2.2)] ∧ M (Old w0) w0 w []) ?_ ?_
   ·skip
    refine wp_block ?_
    obtain ⟨j12,hl13,hF14⟩:=bind_some hl10
    refine ZL (fun a w=>Env 33 a [(0,vI p0),(7,vI j12),(8,vI s4.2.1),(9,vI s4.2.2)] ∧ M (Old w0) w0 w []) ?_ ?_
    ·skip
     refine Zc (Zd hE Za ld rfl fun a hE=>Zk hE Za ld rfl rfl (JP _ _ (by decide)) fun a hE=>Zk hE Za ld rfl rfl rfl fun a hE=>Zf ?_)
     refine Zr hE rfl ?_ ?_
     ·intro hb15
      have hl13:=Zw hl13 hb15
      refine wp_region_lit (Zd hE Za ld rfl fun a hE=>Zd hE Za ld rfl fun a hE=>Zk hE Za ld rfl rfl rfl fun a hE=>Ze hE Za ld rfl fun a hE=>Zi ?_)
      have ht16:=Option.some.inj hl13
      subst ht16
      refine Zj ?_
      exact ⟨hE.sub ⟨rfl,rfl,rfl,rfl,trivial⟩,hM⟩
     ·intro hb15
      have hl13:=Zx hl13 hb15
      refine wp_skip ?_
      have ht17:=Option.some.inj hl13
      subst ht17
      refine Zj ?_
      exact ⟨hE.sub ⟨rfl,rfl,rfl,rfl,trivial⟩,hM⟩
    ·skip
     rintro a w ⟨hE,hM⟩
     refine Zc (Zd hE Za ld rfl fun a hE=>Zk hE Za ld rfl rfl rfl fun a hE=>Ze hE Za ld rfl fun a hE=>Zf (Zc (Zd hE Za ld rfl fun a hE=>Zk hE Za ld rfl rfl rfl fun a hE=>Zf ?_)))
     obtain ⟨j18,hl19,hF20⟩:=bind_some hF14
     refine ZP (fun a w=>Env 33 a [(0,vI p0),(7,vI j12),(8,vI j18),(9,vI s4.2.2)] ∧ M (Old w0) w0 w []) ?_ ?_
     ·skip
      refine Zr hE rfl ?_ ?_
      ·intro hb21
       have hl19:=Zw hl19 hb21
       refine wp_region_lit (Zd hE Za ld rfl fun a hE=>Zd hE Za ld rfl fun a hE=>Zk hE Za ld rfl rfl rfl fun a hE=>Ze hE Za ld rfl fun a hE=>Zi ?_)
       have ht22:=Option.some.inj hl19
       subst ht22
       refine Zj ?_
       exact ⟨hE.sub ⟨rfl,rfl,rfl,rfl,trivial⟩,hM⟩
      ·intro hb21
       have hl19:=Zx hl19 hb21
       refine wp_skip ?_
       have ht23:=Option.some.inj hl19
       subst ht23
       refine Zj ?_
       exact ⟨hE.sub ⟨rfl,rfl,rfl,rfl,trivial⟩,hM⟩
     ·skip
      rintro a w ⟨hE,hM⟩
      refine Yi ?_
      have ht24:=Option.some.inj hF20
      subst ht24
      refine Zj ?_
      exact ⟨hE.sub ⟨rfl,rfl,rfl,rfl,trivial⟩,hM⟩
   ·skip
    rintro a w ⟨hE,hM⟩
    refine wp_region_lit (Zd hE Za ld rfl fun a hE=>Zk hE Za ld rfl rfl (JJ _ _ (by decide)) fun a hE=>Ze hE Za ld rfl fun a hE=>Zi (Zj ?_))
    exact ⟨_,(ois hF11),hE.sub ⟨rfl,rfl,rfl,rfl,trivial⟩,hM⟩
  ·intro hb8
   have hs5:=Zx hs5 hb8
   refine wp_exit (Zp (Zp (Yj ?_)))
   have ht25:=hx6 _ (ois hs5)
   subst ht25
   refine Zj ?_
   exact ⟨hE.sub ⟨rfl,trivial⟩,hM⟩
 ·skip
  rintro a w ⟨hE,hM⟩
  refine Zt (Zc (Zd hE Za ld rfl fun a hE=>Ve hE Za ld rfl Try.underlying2 Try.underlying5 ?_)); intro a hE
  rw [XH] at hE
  refine Ze hE Za ld rfl fun a hE=>Zf ?_
  have hr:=Option.some.inj hF3
  subst hr
  exact wp_ret (ZD hE rfl (ZA hE rfl) ⟨_,rfl,rfl,hM.kept⟩)
def W2 (p0 : Int) (s4 : UInt8 × Int × UInt8) : Option (Fl (UInt8 × Int × UInt8) UInt8) :=
 if (decide (s4.2.1 > 0)) = true then (((if ((Int.tmod s4.2.1 2) == 1) = true then ((Z5 p0 s4.2.2 s4.1).bind fun r16=>some r16) else (some s4.2.2) : Option (UInt8)).bind fun j12=>(Z5 p0 s4.1 s4.1).bind fun r20=>some (r20,j12) : Option (UInt8 × UInt8)).bind fun j9=>some (Fl.nx (j9.1,wr (Int.tdiv s4.2.1 2),j9.2))) else (some (Fl.ex s4.2.2))
def XR (p0 : Int) (p1 : UInt8) (p2 : Int) : Option (UInt8) :=
 (ZB (W2 p0) (p1,p2,1)).bind fun j1=>some j1
theorem Q9 (w0 : World) (p0 : Int) (p1 : UInt8) (p2 : Int) (r : UInt8) (hF : XR p0 p1 p2 = some r) :
  Calls Try.prog 160 [vI p0,vB p1,vI p2].toArray w0 (fun en w'=>∃ v,en = .returned v ∧ (v = (vB r) ∧ Kept (Old w0) w0 w')):=by
 refine ZC (n:=24) Try.func160 rfl rfl (nbl rfl) rfl ?_
 intro a hE
 have hM:=M.start w0
 unfold XR at hF
 refine Zc (Ze hE Za ld rfl fun a hE=>Zf (Zc (Ze hE Za ld rfl fun a hE=>Zf ?_)))
 obtain ⟨j1,hl2,hF3⟩:=bind_some hF
 refine ZL (fun a w=>Env 24 a [(7,vB j1)] ∧ M (Old w0) w0 w []) ?_ ?_
 ·skip
  refine wp_block ?_
  refine ZJ (fun (s4 : UInt8 × Int × UInt8) a w=>Env 24 a [(0,vI p0),(1,vB s4.1),(2,vI s4.2.1),(7,vB s4.2.2)] ∧ M (Old w0) w0 w []) hl2 ⟨hE.sub ⟨rfl,rfl,rfl,rfl,trivial⟩,hM⟩ ?_
  rintro s4 a w ⟨hE,hM⟩ o7 hs5 hx6
  unfold W2 at hs5
  refine wp_seq (Zc (Zd hE Za ld rfl fun a hE=>Zk hE Za ld rfl rfl rfl fun a hE=>Zf ?_))
  refine Zr hE rfl ?_ ?_
  ·intro hb8
   have hs5:=Zw hs5 hb8
   refine wp_skip (Zt ?_)
   obtain ⟨j9,hl10,hF11⟩:=bind_some hs5
   refine ZL (fun a w=>Env 24 a [(0,vI p0),(1,vB j9.1),(2,vI s4.2.1),(7,vB j9.2)] ∧ M (Old w0) w0 w []) ?_ ?_
   ·skip
    refine wp_block ?_
    obtain ⟨j12,hl13,hF14⟩:=bind_some hl10
    refine ZL (fun a w=>Env 24 a [(0,vI p0),(1,vB s4.1),(2,vI s4.2.1),(7,vB j12)] ∧ M (Old w0) w0 w []) ?_ ?_
    ·skip
     refine Zc (Zd hE Za ld rfl fun a hE=>Zk hE Za ld rfl rfl (JP _ _ (by decide)) fun a hE=>Zk hE Za ld rfl rfl rfl fun a hE=>Zf ?_)
     refine Zr hE rfl ?_ ?_
     ·intro hb15
      have hl13:=Zw hl13 hb15
      refine wp_region_lit (Zd hE Za ld rfl fun a hE=>Zd hE Za ld rfl fun a hE=>Zd hE Za ld rfl ?_); intro a hE
      obtain ⟨r16,e17,hl13⟩:=bind_some hl13
      refine Zq hE Za ld rfl QV (YL _ p0 s4.2.2 s4.1 r16 e17) ?_
      rintro v w a ⟨rfl,hK⟩ hE
      have hM:=hM.keep hK
      refine Ze hE Za ld rfl fun a hE=>Zi ?_
      have ht18:=Option.some.inj hl13
      subst ht18
      refine Zj ?_
      exact ⟨hE.sub ⟨rfl,rfl,rfl,rfl,trivial⟩,hM⟩
     ·intro hb15
      have hl13:=Zx hl13 hb15
      refine wp_skip ?_
      have ht19:=Option.some.inj hl13
      subst ht19
      refine Zj ?_
      exact ⟨hE.sub ⟨rfl,rfl,rfl,rfl,trivial⟩,hM⟩
    ·skip
     rintro a w ⟨hE,hM⟩
     refine wp_region_lit (Zd hE Za ld rfl fun a hE=>Zd hE Za ld rfl fun a hE=>Zd hE Za ld rfl ?_); intro a hE
     obtain ⟨r20,e21,hF14⟩:=bind_some hF14
     refine Zq hE Za ld rfl QV (YL _ p0 s4.1 s4.1 r20 e21) ?_
     rintro v w a ⟨rfl,hK⟩ hE
     have hM:=hM.keep hK
     refine Ze hE Za ld rfl fun a hE=>Zi (Yi ?_)
     have ht22:=Option.some.inj hF14
     subst ht22
     refine Zj ?_
     exact ⟨hE.sub ⟨rfl,rfl,rfl,rfl,trivial⟩,hM⟩
   ·skip
    rintro a w ⟨hE,hM⟩
    refine wp_region_lit (Zd hE Za ld rfl fun a hE=>Zk hE Za ld rfl rfl (JJ _ _ (by decide)) fun a hE=>Ze hE Za ld rfl fun a hE=>Zi (Zj ?_))
    exact ⟨_,(ois hF11),hE.sub ⟨rfl,rfl,rfl,rfl,trivial⟩,hM⟩
  ·intro hb8
   have hs5:=Zx hs5 hb8
   refine wp_exit (Zp (Zp (Yj ?_)))
   have ht23:=hx6 _ (ois hs5)
   subst ht23
   refine Zj ?_
   exact ⟨hE.sub ⟨rfl,trivial⟩,hM⟩
 ·skip
  rintro a w ⟨hE,hM⟩
  refine Zc (Zd hE Za ld rfl fun a hE=>Ze hE Za ld rfl fun a hE=>Zf ?_)
  have hr:=Option.some.inj hF3
  subst hr
  exact wp_ret (ZD hE rfl (ZA hE rfl) ⟨_,rfl,rfl,hM.kept⟩)
def Vg (p0 : Int) (p1 : UInt8) : Option (UInt8) :=
 (XR p0 p1 254).bind fun r1=>some r1
theorem K9 (w0 : World) (p0 : Int) (p1 : UInt8) (r : UInt8) (hF : Vg p0 p1 = some r) :
  Calls Try.prog 157 [vI p0,vB p1].toArray w0 (fun en w'=>∃ v,en = .returned v ∧ (v = (vB r) ∧ Kept (Old w0) w0 w')):=by
 refine ZC (n:=8) Try.func157 rfl rfl (nbl rfl) rfl ?_
 intro a hE
 have hM:=M.start w0
 unfold Vg at hF
 refine Zc (Ze hE Za ld rfl fun a hE=>Zf (Zc (Zd hE Za ld rfl fun a hE=>Zd hE Za ld rfl ?_))); intro a hE
 obtain ⟨r1,e2,hF⟩:=bind_some hF
 refine Zq hE Za ld rfl cb160 (Q9 _ p0 p1 254 r1 e2) ?_
 rintro v w a ⟨rfl,hK⟩ hE
 have hM:=hM.keep hK
 refine Ze hE Za ld rfl fun a hE=>Zf ?_
 have hr:=Option.some.inj hF
 subst hr
 exact wp_ret (ZD hE rfl (ZA hE rfl) ⟨_,rfl,rfl,hM.kept⟩)
def Vq (s13 : (Vector (Vector UInt8 4) 4) × (Vector (Vector UInt8 4) 4) × UInt8 × Int) (s21 : Int) : Option (Fl Int Int) :=
 (if (decide (s21 < 4)) = true then ((Zs s13.1 s21).bind fun x30=>(Zs x30 s13.2.2.2).bind fun x33=>some (x33 == 0)) else (some false) : Option (Bool)).bind fun j25=>if j25 = true then (some (Fl.nx (wr (s21 + 1)))) else (some (Fl.ex s21))
def X3 (p0 : Int) (s13 : (Vector (Vector UInt8 4) 4) × (Vector (Vector UInt8 4) 4) × UInt8 × Int) (r91 : UInt8) (s96 : (Vector (Vector UInt8 4) 4) × (Vector (Vector UInt8 4) 4) × Int) : Option (Fl ((Vector (Vector UInt8 4) 4) × (Vector (Vector UInt8 4) 4) × Int) ((Vector (Vector UInt8 4) 4) × (Vector (Vector UInt8 4) 4))) :=
 if (decide (s96.2.2 < 4)) = true then (((Zs s96.1 s13.2.2.2).bind fun x106=>(Zs x106 s96.2.2).bind fun x109=>(Z5 p0 x109 r91).bind fun r111=>(Zs s96.1 s13.2.2.2).bind fun x114=>(Zs x114 s96.2.2).bind fun x117=>some (s96.1.setIfInBounds (s13.2.2.2).toNat (x114.setIfInBounds (s96.2.2).toNat r111)) : Option ((Vector (Vector UInt8 4) 4))).bind fun j101=>(Zs s96.2.1 s13.2.2.2).bind fun x122=>(Zs x122 s96.2.2).bind fun x125=>(Z5 p0 x125 r91).bind fun r127=>(Zs s96.2.1 s13.2.2.2).bind fun x130=>(Zs x130 s96.2.2).bind fun x133=>some (Fl.nx (j101,(s96.2.1.setIfInBounds (s13.2.2.2).toNat (x130.setIfInBounds (s96.2.2).toNat r127)),wr (s96.2.2 + 1)))) else (some (Fl.ex (s96.1,s96.2.1)))
def YC (p0 : Int) (s13 : (Vector (Vector UInt8 4) 4) × (Vector (Vector UInt8 4) 4) × UInt8 × Int) (s139 : (Vector (Vector UInt8 4) 4) × (Vector (Vector UInt8 4) 4) × Int) (x148 : UInt8) (s153 : (Vector (Vector UInt8 4) 4) × (Vector (Vector UInt8 4) 4) × Int) : Option (Fl ((Vector (Vector UInt8 4) 4) × (Vector (Vector UInt8 4) 4) × Int) ((Vector (Vector UInt8 4) 4) × (Vector (Vector UInt8 4) 4))) :=
 (if (decide (s153.2.2 < 4)) = true then (some (s139.2.2 != s13.2.2.2)) else (some false) : Option (Bool)).bind fun j157=>if j157 = true then (((Zs s153.1 s139.2.2).bind fun x169=>(Zs x169 s153.2.2).bind fun x172=>(Zs s153.1 s13.2.2.2).bind fun x175=>(Zs x175 s153.2.2).bind fun x178=>(Z5 p0 x148 x178).bind fun r180=>(Zs s153.1 s139.2.2).bind fun x183=>(Zs x183 s153.2.2).bind fun x186=>some (s153.1.setIfInBounds (s139.2.2).toNat (x183.setIfInBounds (s153.2.2).toNat (x172 ^^^ r180))) : Option ((Vector (Vector UInt8 4) 4))).bind fun j164=>(Zs s153.2.1 s139.2.2).bind fun x191=>(Zs x191 s153.2.2).bind fun x194=>(Zs s153.2.1 s13.2.2.2).bind fun x197=>(Zs x197 s153.2.2).bind fun x200=>(Z5 p0 x148 x200).bind fun r202=>(Zs s153.2.1 s139.2.2).bind fun x205=>(Zs x205 s153.2.2).bind fun x208=>some (Fl.nx (j164,(s153.2.1.setIfInBounds (s139.2.2).toNat (x205.setIfInBounds (s153.2.2).toNat (x194 ^^^ r202))),wr (s153.2.2 + 1)))) else (some (Fl.ex (s153.1,s153.2.1)))
def X0 (p0 : Int) (s13 : (Vector (Vector UInt8 4) 4) × (Vector (Vector UInt8 4) 4) × UInt8 × Int) (s139 : (Vector (Vector UInt8 4) 4) × (Vector (Vector UInt8 4) 4) × Int) : Option (Fl ((Vector (Vector UInt8 4) 4) × (Vector (Vector UInt8 4) 4) × Int) ((Vector (Vector UInt8 4) 4) × (Vector (Vector UInt8 4) 4))) :=
 if (decide (s139.2.2 < 4)) = true then ((Zs s139.1 s139.2.2).bind fun x145=>(Zs x145 s13.2.2.2).bind fun x148=>(ZB (YC p0 s13 s139 x148) (s139.1,s139.2.1,0)).bind fun j150=>some (Fl.nx (j150.1,j150.2,wr (s139.2.2 + 1)))) else (some (Fl.ex (s139.1,s139.2.1)))
def YE (p0 : Int) (s13 : (Vector (Vector UInt8 4) 4) × (Vector (Vector UInt8 4) 4) × UInt8 × Int) : Option (Fl ((Vector (Vector UInt8 4) 4) × (Vector (Vector UInt8 4) 4) × UInt8 × Int) (Fl ((Vector (Vector UInt8 4) 4) × UInt8) (UInt8 × (Vector (Vector UInt8 4) 4)))) :=
 if (decide (s13.2.2.2 < 4)) = true then ((ZB (Vq s13) s13.2.2.2).bind fun j18=>if (j18 == 4) = true then (some (Fl.ex (Fl.ex (0,(Vector.replicate 4 (Vector.replicate 4 (0 : UInt8))))))) else ((Zs s13.1 j18).bind fun x44=>(Zs s13.2.1 j18).bind fun x47=>(Zs s13.1 s13.2.2.2).bind fun x60=>(Zs s13.1 j18).bind fun x63=>(Zs (s13.1.setIfInBounds (j18).toNat x60) s13.2.2.2).bind fun x66=>(Zs s13.2.1 s13.2.2.2).bind fun x69=>(Zs s13.2.1 j18).bind fun x72=>(Zs (s13.2.1.setIfInBounds (j18).toNat x69) s13.2.2.2).bind fun x75=>(Zs ((s13.1.setIfInBounds (j18).toNat x60).setIfInBounds (s13.2.2.2).toNat x44) s13.2.2.2).bind fun x78=>(Zs x78 s13.2.2.2).bind fun x81=>(Z5 p0 s13.2.2.1 x81).bind fun r83=>(Zs ((s13.1.setIfInBounds (j18).toNat x60).setIfInBounds (s13.2.2.2).toNat x44) s13.2.2.2).bind fun x86=>(Zs x86 s13.2.2.2).bind fun x89=>(Vg p0 x89).bind fun r91=>(ZB (X3 p0 s13 r91) (((s13.1.setIfInBounds (j18).toNat x60).setIfInBounds (s13.2.2.2).toNat x44),((s13.2.1.setIfInBounds (j18).toNat x69).setIfInBounds (s13.2.2.2).toNat x47),0)).bind fun j93=>(ZB (X0 p0 s13) (j93.1,j93.2,0)).bind fun j136=>some (Fl.nx (j136.1,j136.2,r83,wr (s13.2.2.2 + 1))))) else (some (Fl.ex (Fl.nx (s13.2.1,s13.2.2.1))))
def Wf (p0 : Int) (p1 : (Vector (Vector UInt8 4) 4)) : Option (UInt8 × (Vector (Vector UInt8 4) 4)) :=
 (X5).bind fun r5=>(ZB (YE p0) (p1,r5,1,0)).bind fun j9=>j9.el (fun s12=>(some (s12.1,s12.2) : Option ((Vector (Vector UInt8 4) 4) × UInt8)).bind fun j213=>some (j213.2,j213.1)) (fun r=>some r)
theorem QB (w0 : World) (p0 : Int) (p1 : (Vector (Vector UInt8 4) 4)) (r : UInt8 × (Vector (Vector UInt8 4) 4)) (hF : Wf p0 p1 = some r) :
  Calls Try.prog 149 [vI p0,(Value.agg (enc p1).toArray)].toArray w0 (fun en w'=>∃ v,en = .returned v ∧ (v = (Value.tuple [vB r.1,(Value.agg (enc r.2).toArray)].toArray) ∧ Kept (Old w0) w0 w')):=by
 refine ZC (n:=159) Try.func149 rfl rfl (nbl rfl) rfl ?_
 intro a hE
 have hM:=M.start w0
 unfold Wf at hF
 refine Zc (ZX (cs:=enc p1) hE hM Za ld rfl rfl fun b1 w a hM hE=>Ze hE Za ld rfl fun a hE=>ZF hE hM Za ld Yw fun b3 w a hM hE=>Zf (Zc ?_))
 obtain ⟨r5,e6,hF⟩:=bind_some hF
 refine Zq hE Za ld rfl cb156 (T1 _  r5 e6) ?_
 rintro v w a ⟨rfl,hK⟩ hE
 have hM:=hM.keep hK
 refine ZF hE hM Za ld Yw fun b7 w a hM hE=>Zm (seg:=enc r5) (cs':=enc r5) hE hM Za rfl rfl rfl Yw (Flat.len _) (zle flq) (Flat.cell _) (Zn flq) fun w a hM hE=>Ze hE Za ld rfl fun a hE=>Zf (wp_seq (Zc (Ze hE Za ld rfl fun a hE=>Zf ?_)))
 obtain ⟨j9,hl10,hF11⟩:=bind_some hF
 refine ZP (fun a w=>∃ s12 : (Vector (Vector UInt8 4) 4) × UInt8,j9 = Fl.nx s12 ∧ Env 159 a [(5,(ptr b3 0)),(6,(ptr b7 0)),(7,vB s12.2)] ∧ M (Old w0) w0 w [raw b7 (enc s12.1),raw b3 (enc (Vector.replicate 4 (Vector.replicate 4 (0 : UInt8))))]) ?_ ?_
 ·skip
  refine wp_block ?_
  refine ZJ (fun (s13 : (Vector (Vector UInt8 4) 4) × (Vector (Vector UInt8 4) 4) × UInt8 × Int) a w=>Env 159 a [(0,vI p0),(3,(ptr b1 0)),(5,(ptr b3 0)),(6,(ptr b7 0)),(7,vB s13.2.2.1),(8,vI s13.2.2.2)] ∧ M (Old w0) w0 w [raw b7 (enc s13.2.1),raw b3 (enc (Vector.replicate 4 (Vector.replicate 4 (0 : UInt8)))),raw b1 (enc s13.1)]) hl10 ⟨hE.sub ⟨rfl,rfl,rfl,rfl,rfl,rfl,trivial⟩,hM⟩ ?_
  rintro s13 a w ⟨hE,hM⟩ o16 hs14 hx15
  unfold YE at hs14
  refine wp_seq (Zc (Zd hE Za ld rfl fun a hE=>Zk hE Za ld rfl rfl rfl fun a hE=>Zf ?_))
  refine Zr hE rfl ?_ ?_
  ·intro hb17
   have hs14:=Zw hs14 hb17
   refine wp_skip (Zt (wp_seq (wp_block (Zc (Zd hE Za ld rfl fun a hE=>Ze hE Za ld rfl fun a hE=>Zf ?_)))))
   obtain ⟨j18,hl19,hF20⟩:=bind_some hs14
   refine ZL (fun a w=>Env 159 a [(0,vI p0),(3,(ptr b1 0)),(5,(ptr b3 0)),(6,(ptr b7 0)),(7,vB s13.2.2.1),(8,vI s13.2.2.2),(9,vI j18)] ∧ M (Old w0) w0 w [raw b7 (enc s13.2.1),raw b3 (enc (Vector.replicate 4 (Vector.replicate 4 (0 : UInt8)))),raw b1 (enc s13.1)]) ?_ ?_
   ·skip
    refine wp_block ?_
    refine ZJ (fun (s21 : Int) a w=>Env 159 a [(0,vI p0),(3,(ptr b1 0)),(5,(ptr b3 0)),(6,(ptr b7 0)),(7,vB s13.2.2.1),(8,vI s13.2.2.2),(9,vI s21)] ∧ M (Old w0) w0 w [raw b7 (enc s13.2.1),raw b3 (enc (Vector.replicate 4 (Vector.replicate 4 (0 : UInt8)))),raw b1 (enc s13.1)]) hl19 ⟨hE.sub ⟨rfl,rfl,rfl,rfl,rfl,rfl,rfl,trivial⟩,hM⟩ ?_
    rintro s21 a w ⟨hE,hM⟩ o24 hs22 hx23
    unfold Vq at hs22
    refine wp_seq ?_
    obtain ⟨j25,hl26,hF27⟩:=bind_some hs22
    refine ZL (fun a w=>Env 159 a [(0,vI p0),(3,(ptr b1 0)),(5,(ptr b3 0)),(6,(ptr b7 0)),(7,vB s13.2.2.1),(8,vI s13.2.2.2),(9,vI s21),(32,vT j25)] ∧ M (Old w0) w0 w [raw b7 (enc s13.2.1),raw b3 (enc (Vector.replicate 4 (Vector.replicate 4 (0 : UInt8)))),raw b1 (enc s13.1)]) ?_ ?_
    ·skip
     refine wp_region_lit (Zd hE Za ld rfl fun a hE=>Zk hE Za ld rfl rfl rfl fun a hE=>Zd hE Za ld rfl ?_); intro a hE
     refine Va (decide (s21 < 4)) (fun hb28=>?_) (fun hb28=>?_)
     ·have hl26:=Zw hl26 hb28
      refine Zd hE (Zz hE rfl (lkb rfl hb28)) (by decide) rfl fun a hE=>Zd hE (Zz hE rfl (lkb rfl hb28)) (by decide) rfl ?_; intro a hE
      obtain ⟨x30,hi29,hl26⟩:=bvx hl26
      refine Zg hE (Zz hE rfl (lkb rfl hb28)) (by decide) rfl rfl Try.underlying50 Z4 hi29.1 ?_; intro a hE
      obtain ⟨x33,hi32,hl26⟩:=bvx hl26
      refine Zg hE (Zz hE rfl (lkb rfl hb28)) (by decide) rfl rfl Try.underlying42 ty5 hi32.1 fun a hE=>Zv (v:=(vB x33)) hE (Zz hE rfl (lkb rfl hb28)) (by decide) rfl ty5 rfl (At.vec (At.vec (hM.rawAt (pre:=[_,_])) hi29.2) hi32.2) fun a hE=>Zk hE (Zz hE rfl (lkb rfl hb28)) (by decide) rfl rfl (HM x33 0) fun a hE=>Xx hE Za ld (lkb rfl hb28) rfl fun a hE=>Zi ?_
      have ht35:=Option.some.inj hl26
      subst ht35
      refine Zj ?_
      exact ⟨hE.sub ⟨rfl,rfl,rfl,rfl,rfl,rfl,rfl,rfl,trivial⟩,hM⟩
     ·have hl26:=Zx hl26 hb28
      refine Zy hE rfl (lkb rfl hb28) rfl (by decide) fun a hE=>Zy hE rfl (lkb rfl hb28) rfl (by decide) fun a hE=>Zy hE rfl (lkb rfl hb28) rfl (by decide) fun a hE=>Zy hE rfl (lkb rfl hb28) rfl (by decide) fun a hE=>Zy hE rfl (lkb rfl hb28) rfl (by decide) fun a hE=>Zy hE rfl (lkb rfl hb28) rfl (by decide) fun a hE=>YO hE Za ld (lkb rfl hb28) rfl fun a hE=>Zi ?_
      have ht36:=Option.some.inj hl26
      subst ht36
      refine Zj ?_
      exact ⟨hE.sub ⟨rfl,rfl,rfl,rfl,rfl,rfl,rfl,rfl,trivial⟩,hM⟩
    ·skip
     rintro a w ⟨hE,hM⟩
     refine Zr hE rfl ?_ ?_
     ·intro hb37
      have hF27:=Zw hF27 hb37
      refine wp_skip (Zt (wp_block (wp_region_lit (Zd hE Za ld rfl fun a hE=>Zk hE Za ld rfl rfl rfl fun a hE=>Ze hE Za ld rfl fun a hE=>Zi (Yi (Zj ?_))))))
      exact ⟨_,(ois hF27),hE.sub ⟨rfl,rfl,rfl,rfl,rfl,rfl,rfl,trivial⟩,hM⟩
     ·intro hb37
      have hF27:=Zx hF27 hb37
      refine wp_exit (Zp (Zp (Yj ?_)))
      have ht38:=hx23 _ (ois hF27)
      subst ht38
      refine Zj ?_
      exact ⟨hE.sub ⟨rfl,rfl,rfl,rfl,rfl,rfl,rfl,trivial⟩,hM⟩
   ·skip
    rintro a w ⟨hE,hM⟩
    refine wp_seq (Zc (Zd hE Za ld rfl fun a hE=>Zk hE Za ld rfl rfl rfl fun a hE=>Zf ?_))
    refine Zr hE rfl ?_ ?_
    ·intro hb39
     have hF20:=Zw hF20 hb39
     refine Zc (YP (parts:=[]) (vs:=[]) (cs:=enc (Vector.replicate 4 (Vector.replicate 4 (0 : UInt8)))) hE Za ld rfl rfl Yw rfl Z4 Yr fun a hE=>Ze hE Za ld rfl ?_); intro a hE
     have hM:=hM.pull (pre:=[_])
     refine Zm (seg:=enc (Vector.replicate 4 (Vector.replicate 4 (0 : UInt8)))) (cs':=enc (Vector.replicate 4 (Vector.replicate 4 (0 : UInt8)))) hE hM Za rfl rfl rfl Yw (Flat.len _) (zle flq) (Flat.cell _) (Zn flq) fun w a hM hE=>Zf ?_
     have ht40:=hx15 _ (ois hF20)
     subst ht40
     have hr:=Option.some.inj hF11
     subst hr
     have hq41 : YD Try.prog _ _ (.cell 5 50) _:=ZW hE rfl Yw rfl (hM.rawAt (pre:=[])) (Flat.len _) rfl
     have hM:=M.fst (l:=[]) hM
     exact wp_ret (ZH (Wq (ZH (ZH (Wq (ZH (ZH (UM hE rfl (ZA hE rfl) hq41 ⟨_,rfl,rfl,hM.kept⟩))))))))
    ·intro hb39
     have hF20:=Zx hF20 hb39
     refine wp_skip (Zt (wp_seq ?_))
     obtain ⟨x44,hi43,hF20⟩:=bvx hF20
     obtain ⟨x47,hi46,hF20⟩:=bvx hF20
     refine V3 (n:=159) (hd:=[_,_,_,_,_,_,_,_,_]) (tl:=[_]) YR rfl rfl [38,39,40,41,42,43,10,11,167] (by decide) (fun D u w=>M (Old w0) w0 w ([raw b7 (enc s13.2.1),raw b3 (enc (Vector.replicate 4 (Vector.replicate 4 (0 : UInt8)))),raw b1 (enc s13.1)] ++ qL ([mkC 6 8 (enc (Vector.replicate 4 (0 : UInt8))) (enc x44),mkO 7 (fun v=>UA v (enc (Vector.replicate 4 (0 : UInt8))))] : Mk) D u) ∧ GOk ([([],fun us v=>v = (vI j18)),([],fun us v=>v = (ptr b1 (0 + (j18).toNat * 4))),([],fun us v=>v = (Value.agg (enc x44).toArray)),([],fun us v=>v = (vI j18)),([],fun us v=>v = (ptr b7 (0 + (j18).toNat * 4))),([],fun us v=>v = (Value.agg (enc x47).toArray)),([],fun us v=>True),([],fun us v=>True),([],fun us v=>True)] : Gs) D u) hE (fun u=>⟨M.qE (M.qE (M.q0 hM.drew u) emO) emC,JH⟩) (ZK (Zb ?_ (Zb ?_ (Zb ?_ (Zb ?_ (Zb ?_ (Zb ?_ (Zb ?_ (Zb ?_ (Zb ?_ ZE)))))))))) ?_
     ·intro a w ux42 D hE hI hD hdc hp
      have hM0:=hI.1
      exact Zd hE Za ld rfl fun a hE=>⟨_,_,rfl,hE,M.qKeep hM0 rfl,hI.2.put hD rfl ZQ rfl⟩
     ·intro a w ux42 D hE hI hD hdc hp
      have d0 : D 0 = true:=hp 0 _ rfl rfl
      have g0:=hI.2 0 d0 _ rfl
      have f0 : ux42 0 = (vI j18):=g0.2
      have hM0:=hI.1
      exact Zg hE Za ld rfl (lk rfl f0) Try.underlying50 Z4 hi43.1 fun a hE=>⟨_,_,rfl,hE,M.qKeep hM0 rfl,hI.2.put hD rfl ZQ rfl⟩
     ·intro a w ux42 D hE hI hD hdc hp
      have d1 : D 1 = true:=hp 0 _ rfl rfl
      have g1:=hI.2 1 d1 _ rfl
      have f1 : ux42 1 = (ptr b1 (0 + (j18).toNat * 4)):=g1.2
      have hM0:=hI.1
      have hM:=hI.1
      exact Zl (cs:=enc x44) hE Za ld (lk rfl f1) Z4 rfl (At.vec (hM.rawAt (pre:=[_,_])) hi43.2) (Flat.len _) fun a hE=>⟨_,_,rfl,hE,M.qKeep hM0 rfl,hI.2.put hD rfl ZQ rfl⟩
     ·intro a w ux42 D hE hI hD hdc hp
      have hM0:=hI.1
      exact Zd hE Za ld rfl fun a hE=>⟨_,_,rfl,hE,M.qKeep hM0 rfl,hI.2.put hD rfl ZQ rfl⟩
     ·intro a w ux42 D hE hI hD hdc hp
      have d3 : D 3 = true:=hp 0 _ rfl rfl
      have g3:=hI.2 3 d3 _ rfl
      have f3 : ux42 3 = (vI j18):=g3.2
      have hM0:=hI.1
      exact Zg hE Za ld rfl (lk rfl f3) Try.underlying50 Z4 hi46.1 fun a hE=>⟨_,_,rfl,hE,M.qKeep hM0 rfl,hI.2.put hD rfl ZQ rfl⟩
     ·intro a w ux42 D hE hI hD hdc hp
      have d4 : D 4 = true:=hp 0 _ rfl rfl
      have g4:=hI.2 4 d4 _ rfl
      have f4 : ux42 4 = (ptr b7 (0 + (j18).toNat * 4)):=g4.2
      have hM0:=hI.1
      have hM:=hI.1
      exact Zl (cs:=enc x47) hE Za ld (lk rfl f4) Z4 rfl (At.vec (hM.rawAt (pre:=[])) hi46.2) (Flat.len _) fun a hE=>⟨_,_,rfl,hE,M.qKeep hM0 rfl,hI.2.put hD rfl ZQ rfl⟩
     ·intro a w ux42 D hE hI hD hdc hp
      have hM0:=hI.1
      have hM:=hI.1
      refine ZF hE hM Za ld Z4 ?_; intro b49 w a hM hE
      have hs : D 8 = false:=Bool.eq_false_iff.2 fun hx=>Bool.noConfusion (hD.symm.trans (hdc 8 _ _ rfl (List.mem_of_getElem? (i:=0) rfl) rfl hx))
      exact ⟨_,_,rfl,hE,M.qAlloc (mk1:=[]) (mk2:=[_]) hM rfl hD hs (by decide),hI.2.put hD rfl ZQ trivial⟩
     ·intro a w ux42 D hE hI hD hdc hp
      have hM0:=hI.1
      have hM:=hI.1
      refine ZF hE hM Za ld Z4 ?_; intro b51 w a hM hE
      have hM:=hM.pack1 (it:=UA _ (enc (Vector.replicate 4 (0 : UInt8)))) (fun w w' fp ⟨b',e,k⟩ hb=>⟨b',e,Vx w w' fp k hb⟩) (fun fp k=>⟨_,rfl,k⟩)
      exact ⟨_,_,rfl,hE,M.qFill (mk1:=[_]) (mk2:=[]) (f:=fun v=>UA v (enc (Vector.replicate 4 (0 : UInt8)))) hM rfl hD,hI.2.put hD rfl ZQ trivial⟩
     ·intro a w ux42 D hE hI hD hdc hp
      have d6 : D 6 = true:=hp 0 _ rfl rfl
      have d2 : D 2 = true:=hp 1 _ rfl rfl
      have g2:=hI.2 2 d2 _ rfl
      have f2 : ux42 2 = (Value.agg (enc x44).toArray):=g2.2
      have hM0:=hI.1
      have hM : M (Old w0) w0 w [raw b7 (enc s13.2.1),raw b3 (enc (Vector.replicate 4 (Vector.replicate 4 (0 : UInt8)))),raw b1 (enc s13.1),T6 (D 6) (D 8) (ux42 6) (enc (Vector.replicate 4 (0 : UInt8))) (enc x44),opt (D 7) (UA (ux42 7) (enc (Vector.replicate 4 (0 : UInt8))))]:=hI.1
      obtain ⟨b53,hb54,hM⟩:=M.openCell (pre:=[_,_,_]) hM d6
      rw [hD,if_neg (by decide)] at hM
      exact Zm (seg:=enc x44) (cs':=enc x44) hE hM Za (lk rfl hb54) (lk rfl f2) rfl Z4 (Flat.len _) (zle flq) (Flat.cell _) (Zn flq) fun w a hM hE=>⟨undef,_,rfl,Env.dummy hE (by decide),M.qStore (i:=6) (mk1:=[]) (mk2:=[_]) hM rfl d6 hb54 (by decide),hI.2.put hD rfl ZQ trivial⟩
     ·intro a w ux42 D hE hI hall
      have hM : M (Old w0) w0 w [raw b7 (enc s13.2.1),raw b3 (enc (Vector.replicate 4 (Vector.replicate 4 (0 : UInt8)))),raw b1 (enc s13.1),T6 (D 6) (D 8) (ux42 6) (enc (Vector.replicate 4 (0 : UInt8))) (enc x44),opt (D 7) (UA (ux42 7) (enc (Vector.replicate 4 (0 : UInt8))))]:=hI.1
      have d0 : D 0 = true:=hall 0 (by decide)
      have d1 : D 1 = true:=hall 1 (by decide)
      have d2 : D 2 = true:=hall 2 (by decide)
      have d3 : D 3 = true:=hall 3 (by decide)
      have d4 : D 4 = true:=hall 4 (by decide)
      have d5 : D 5 = true:=hall 5 (by decide)
      have d6 : D 6 = true:=hall 6 (by decide)
      have d7 : D 7 = true:=hall 7 (by decide)
      have d8 : D 8 = true:=hall 8 (by decide)
      have f0 : ux42 0 = (vI j18):=(hI.2 0 d0 _ rfl).2
      have f1 : ux42 1 = (ptr b1 (0 + (j18).toNat * 4)):=(hI.2 1 d1 _ rfl).2
      have f2 : ux42 2 = (Value.agg (enc x44).toArray):=(hI.2 2 d2 _ rfl).2
      have f3 : ux42 3 = (vI j18):=(hI.2 3 d3 _ rfl).2
      have f4 : ux42 4 = (ptr b7 (0 + (j18).toNat * 4)):=(hI.2 4 d4 _ rfl).2
      have f5 : ux42 5 = (Value.agg (enc x47).toArray):=(hI.2 5 d5 _ rfl).2
      obtain ⟨b55,f56,hM⟩:=M.openCell (pre:=[_,_,_]) hM d6
      rw [if_pos d8] at hM
      have hM:=(hM.sure (pre:=[_,_,_,_]) d7).pull
      obtain ⟨_,⟨b57,f58,_⟩,_⟩:=hM.head
      have hM:=hM.pack1 Vx (it:=raw b57 (enc (Vector.replicate 4 (0 : UInt8)))) (fun fp ⟨b2,e2,k2⟩=>by rw [f58] at e2; simp [ptr] at e2; subst e2; exact k2)
      have hE:=hE.sub (e':=[(43,(Value.agg (enc x47).toArray)),(10,(ptr b55 0)),(11,(ptr b57 0)),(0,vI p0),(3,(ptr b1 0)),(5,(ptr b3 0)),(6,(ptr b7 0)),(7,vB s13.2.2.1),(8,vI s13.2.2.2),(9,vI j18),(35,vI j18),(36,(vT (j18 == 4)))]) ⟨lk rfl f5,lk rfl f56,lk rfl f58,rfl,rfl,rfl,rfl,rfl,rfl,rfl,rfl,rfl,trivial⟩
      refine Zm (seg:=enc x47) (cs':=enc x47) hE hM Za rfl rfl rfl Z4 (Flat.len _) (zle flq) (Flat.cell _) (Zn flq) fun w a hM hE=>Zi (Zt (Zc (Zd hE Za ld rfl fun a hE=>Zd hE Za ld rfl ?_))); intro a hE
      obtain ⟨x60,hi59,hF20⟩:=bvx hF20
      refine Zg hE Za ld rfl rfl Try.underlying50 Z4 hi59.1 fun a hE=>Zl (cs:=enc x60) hE Za ld rfl Z4 rfl (At.vec (hM.rawAt (pre:=[_,_,_,_])) hi59.2) (Flat.len _) ?_; intro a hE
      obtain ⟨x63,hi62,hF20⟩:=bvx hF20
      refine Zg hE Za ld rfl rfl Try.underlying50 Z4 hi62.1 ?_; intro a hE
      have hM:=hM.pull (pre:=[_,_,_,_])
      refine Zm (seg:=enc x60) (cs':=enc (s13.1.setIfInBounds (j18).toNat x60)) hE hM Za rfl rfl rfl Z4 (Flat.len _) (ZI (v:=s13.1) (x:=x60) hi62.1) (Flat.cell _) (Zu (v:=s13.1) (x:=x60) hi62.1) fun w a hM hE=>Zf (Zc (Zd hE Za ld rfl fun a hE=>Zl (cs:=enc x44) hE Za ld rfl Z4 rfl (hM.rawAt (pre:=[_,_])) (Flat.len _) ?_)); intro a hE
      obtain ⟨x66,hi65,hF20⟩:=bvx hF20
      refine Zg hE Za ld rfl rfl Try.underlying50 Z4 hi65.1 fun a hE=>Zm (seg:=enc x44) (cs':=enc ((s13.1.setIfInBounds (j18).toNat x60).setIfInBounds (s13.2.2.2).toNat x44)) hE hM Za rfl rfl rfl Z4 (Flat.len _) (ZI (v:=(s13.1.setIfInBounds (j18).toNat x60)) (x:=x44) hi65.1) (Flat.cell _) (Zu (v:=(s13.1.setIfInBounds (j18).toNat x60)) (x:=x44) hi65.1) fun w a hM hE=>Zf (Zc (Zd hE Za ld rfl fun a hE=>Zd hE Za ld rfl ?_)); intro a hE
      obtain ⟨x69,hi68,hF20⟩:=bvx hF20
      refine Zg hE Za ld rfl rfl Try.underlying50 Z4 hi68.1 fun a hE=>Zl (cs:=enc x69) hE Za ld rfl Z4 rfl (At.vec (hM.rawAt (pre:=[_,_,_])) hi68.2) (Flat.len _) ?_; intro a hE
      obtain ⟨x72,hi71,hF20⟩:=bvx hF20
      refine Zg hE Za ld rfl rfl Try.underlying50 Z4 hi71.1 ?_; intro a hE
      have hM:=hM.pull (pre:=[_,_,_])
      refine Zm (seg:=enc x69) (cs':=enc (s13.2.1.setIfInBounds (j18).toNat x69)) hE hM Za rfl rfl rfl Z4 (Flat.len _) (ZI (v:=s13.2.1) (x:=x69) hi71.1) (Flat.cell _) (Zu (v:=s13.2.1) (x:=x69) hi71.1) fun w a hM hE=>Zf (Zc (Zd hE Za ld rfl fun a hE=>Zl (cs:=enc x47) hE Za ld rfl Z4 rfl (hM.rawAt (pre:=[_,_])) (Flat.len _) ?_)); intro a hE
      obtain ⟨x75,hi74,hF20⟩:=bvx hF20
      refine Zg hE Za ld rfl rfl Try.underlying50 Z4 hi74.1 fun a hE=>Zm (seg:=enc x47) (cs':=enc ((s13.2.1.setIfInBounds (j18).toNat x69).setIfInBounds (s13.2.2.2).toNat x47)) hE hM Za rfl rfl rfl Z4 (Flat.len _) (ZI (v:=(s13.2.1.setIfInBounds (j18).toNat x69)) (x:=x47) hi74.1) (Flat.cell _) (Zu (v:=(s13.2.1.setIfInBounds (j18).toNat x69)) (x:=x47) hi74.1) fun w a hM hE=>Zf (Zc (Zd hE Za ld rfl fun a hE=>Zd hE Za ld rfl fun a hE=>Zd hE Za ld rfl fun a hE=>Zd hE Za ld rfl ?_)); intro a hE
      obtain ⟨x78,hi77,hF20⟩:=bvx hF20
      refine Zg hE Za ld rfl rfl Try.underlying50 Z4 hi77.1 ?_; intro a hE
      obtain ⟨x81,hi80,hF20⟩:=bvx hF20
      refine Zg hE Za ld rfl rfl Try.underlying42 ty5 hi80.1 fun a hE=>Zv (v:=(vB x81)) hE Za ld rfl ty5 rfl (At.vec (At.vec (hM.rawAt (pre:=[_])) hi77.2) hi80.2) ?_; intro a hE
      obtain ⟨r83,e84,hF20⟩:=bind_some hF20
      refine Zq hE Za ld rfl QV (YL _ p0 s13.2.2.1 x81 r83 e84) ?_
      rintro v w a ⟨rfl,hK⟩ hE
      have hM:=hM.keep hK
      refine Ze hE Za ld rfl fun a hE=>Zf (Zc (Zd hE Za ld rfl fun a hE=>Zd hE Za ld rfl fun a hE=>Zd hE Za ld rfl ?_)); intro a hE
      obtain ⟨x86,hi85,hF20⟩:=bvx hF20
      refine Zg hE Za ld rfl rfl Try.underlying50 Z4 hi85.1 ?_; intro a hE
      obtain ⟨x89,hi88,hF20⟩:=bvx hF20
      refine Zg hE Za ld rfl rfl Try.underlying42 ty5 hi88.1 fun a hE=>Zv (v:=(vB x89)) hE Za ld rfl ty5 rfl (At.vec (At.vec (hM.rawAt (pre:=[_])) hi85.2) hi88.2) ?_; intro a hE
      obtain ⟨r91,e92,hF20⟩:=bind_some hF20
      refine Zq hE Za ld rfl cb157 (K9 _ p0 x89 r91 e92) ?_
      rintro v w a ⟨rfl,hK⟩ hE
      have hM:=hM.keep hK
      refine Ze hE Za ld rfl fun a hE=>Zf (wp_seq (Zc (Ze hE Za ld rfl fun a hE=>Zf ?_)))
      obtain ⟨j93,hl94,hF95⟩:=bind_some hF20
      refine ZP (fun a w=>Env 159 a [(0,vI p0),(3,(ptr b1 0)),(5,(ptr b3 0)),(6,(ptr b7 0)),(7,vB r83),(8,vI s13.2.2.2)] ∧ M (Old w0) w0 w [raw b7 (enc j93.2),raw b1 (enc j93.1),raw b3 (enc (Vector.replicate 4 (Vector.replicate 4 (0 : UInt8))))]) ?_ ?_
      ·skip
       refine wp_block ?_
       have hM:=M.fst (l:=[_,_,_]) (((hM.pull (pre:=[_,_,_,_])).pull (pre:=[_,_])).pull (pre:=[_,_]))
       refine ZJ (fun (s96 : (Vector (Vector UInt8 4) 4) × (Vector (Vector UInt8 4) 4) × Int) a w=>Env 159 a [(0,vI p0),(3,(ptr b1 0)),(5,(ptr b3 0)),(6,(ptr b7 0)),(7,vB r83),(8,vI s13.2.2.2),(12,vB r91),(13,vI s96.2.2)] ∧ M (Old w0) w0 w [raw b7 (enc s96.2.1),raw b1 (enc s96.1),raw b3 (enc (Vector.replicate 4 (Vector.replicate 4 (0 : UInt8))))]) hl94 ⟨hE.sub ⟨rfl,rfl,rfl,rfl,rfl,rfl,rfl,rfl,trivial⟩,hM⟩ ?_
       rintro s96 a w ⟨hE,hM⟩ o99 hs97 hx98
       unfold X3 at hs97
       refine wp_seq (Zc (Zd hE Za ld rfl fun a hE=>Zk hE Za ld rfl rfl rfl fun a hE=>Zf ?_))
       refine Zr hE rfl ?_ ?_
       ·intro hb100
        have hs97:=Zw hs97 hb100
        refine wp_skip (Zt (wp_seq (wp_block ?_)))
        obtain ⟨j101,hl102,hF103⟩:=bind_some hs97
        refine ZL (fun a w=>Env 159 a [(0,vI p0),(3,(ptr b1 0)),(5,(ptr b3 0)),(6,(ptr b7 0)),(7,vB r83),(8,vI s13.2.2.2),(12,vB r91),(13,vI s96.2.2)] ∧ M (Old w0) w0 w [raw b7 (enc s96.2.1),raw b1 (enc j101),raw b3 (enc (Vector.replicate 4 (Vector.replicate 4 (0 : UInt8))))]) ?_ ?_
        ·skip
         obtain ⟨x106,hi105,hl102⟩:=bvx hl102
         obtain ⟨x109,hi108,hl102⟩:=bvx hl102
         obtain ⟨r111,e112,hl102⟩:=bind_some hl102
         obtain ⟨x114,hi113,hl102⟩:=bvx hl102
         obtain ⟨x117,hi116,hl102⟩:=bvx hl102
         refine Yd (n:=159) (hd:=[_,_,_,_,_,_,_,_,_,_,_,_]) (tl:=[_]) YR rfl rfl [79,80,81,82,83,84,85,86,87,88,89,90] (by decide) (fun w=>M (Old w0) w0 w [raw b7 (enc s96.2.1),raw b1 (enc s96.1),raw b3 (enc (Vector.replicate 4 (Vector.replicate 4 (0 : UInt8))))]) (fun j=>([fun v _=>v = (vI s13.2.2.2),fun v _=>v = (vI s96.2.2),fun v _=>v = (vI p0),fun v _=>v = (vI s13.2.2.2),fun v _=>v = (vI s96.2.2),fun v _=>v = (ptr b1 (0 + (s13.2.2.2).toNat * 4)),fun v _=>v = (ptr b1 (0 + (s13.2.2.2).toNat * 4 + (s96.2.2).toNat * 1)),fun v _=>v = (vB x109),fun v _=>v = (vB r91),fun v _=>v = (vB r111),fun v _=>v = (ptr b1 (0 + (s13.2.2.2).toNat * 4)),fun v _=>v = (ptr b1 (0 + (s13.2.2.2).toNat * 4 + (s96.2.2).toNat * 1))] : List (Value → World → Prop)).getD j (fun _ _=>True)) (fun _ _ h hk=>h.keep hk) (gup (Zh (Zh (Zh (Zh (Zh (Zh (Zh (Zh (Zh (Zh (Zh (Zh WV))))))))))))) hE hM.drew (ZK (Zb ?_ (Zb ?_ (Zb ?_ (Zb ?_ (Zb ?_ (Zb ?_ (Zb ?_ (Zb ?_ (Zb ?_ (Zb ?_ (Zb ?_ (Zb ?_ ZE))))))))))))) ?_
         ·exact fun a w ux104 hE hM hp=>Zd hE Za ld rfl fun a hE=>⟨Kept.refl _ _,_,_,rfl,hE,rfl⟩
         ·exact fun a w ux104 hE hM hp=>Zd hE Za ld rfl fun a hE=>⟨Kept.refl _ _,_,_,rfl,hE,rfl⟩
         ·exact fun a w ux104 hE hM hp=>Zd hE Za ld rfl fun a hE=>⟨Kept.refl _ _,_,_,rfl,hE,rfl⟩
         ·exact fun a w ux104 hE hM hp=>Zd hE Za ld rfl fun a hE=>⟨Kept.refl _ _,_,_,rfl,hE,rfl⟩
         ·exact fun a w ux104 hE hM hp=>Zd hE Za ld rfl fun a hE=>⟨Kept.refl _ _,_,_,rfl,hE,rfl⟩
         ·intro a w ux104 hE hM hp
          have f3 : ux104 3 = (vI s13.2.2.2):=hp 0 _ rfl rfl
          exact Zg hE Za ld rfl (lk rfl f3) Try.underlying50 Z4 hi105.1 fun a hE=>⟨Kept.refl _ _,_,_,rfl,hE,rfl⟩
         ·intro a w ux104 hE hM hp
          have f4 : ux104 4 = (vI s96.2.2):=hp 1 _ rfl rfl
          have f5 : ux104 5 = (ptr b1 (0 + (s13.2.2.2).toNat * 4)):=hp 0 _ rfl rfl
          exact Zg hE Za ld (lk rfl f5) (lk rfl f4) Try.underlying42 ty5 hi108.1 fun a hE=>⟨Kept.refl _ _,_,_,rfl,hE,rfl⟩
         ·intro a w ux104 hE hM hp
          have f6 : ux104 6 = (ptr b1 (0 + (s13.2.2.2).toNat * 4 + (s96.2.2).toNat * 1)):=hp 0 _ rfl rfl
          exact Zv (v:=(vB x109)) hE Za ld (lk rfl f6) ty5 rfl (At.vec (At.vec (hM.rawAt (pre:=[_])) hi105.2) hi108.2) fun a hE=>⟨Kept.refl _ _,_,_,rfl,hE,rfl⟩
         ·exact fun a w ux104 hE hM hp=>Zd hE Za ld rfl fun a hE=>⟨Kept.refl _ _,_,_,rfl,hE,rfl⟩
         ·intro a w ux104 hE hM hp
          have f2 : ux104 2 = (vI p0):=hp 0 _ rfl rfl
          have f7 : ux104 7 = (vB x109):=hp 1 _ rfl rfl
          have f8 : ux104 8 = (vB r91):=hp 2 _ rfl rfl
          refine Zq hE Za ld (ZV (ZT (lk rfl f2) (ZT (lk rfl f7) (ZT (lk rfl f8) Xw)))) QV (YL _ p0 x109 r91 r111 e112) ?_
          rintro v w a ⟨rfl,hK⟩ hE
          exact ⟨hK,_,_,rfl,hE,rfl⟩
         ·intro a w ux104 hE hM hp
          have f0 : ux104 0 = (vI s13.2.2.2):=hp 0 _ rfl rfl
          exact Zg hE Za ld rfl (lk rfl f0) Try.underlying50 Z4 hi113.1 fun a hE=>⟨Kept.refl _ _,_,_,rfl,hE,rfl⟩
         ·intro a w ux104 hE hM hp
          have f1 : ux104 1 = (vI s96.2.2):=hp 1 _ rfl rfl
          have f10 : ux104 10 = (ptr b1 (0 + (s13.2.2.2).toNat * 4)):=hp 0 _ rfl rfl
          exact Zg hE Za ld (lk rfl f10) (lk rfl f1) Try.underlying42 ty5 hi116.1 fun a hE=>⟨Kept.refl _ _,_,_,rfl,hE,rfl⟩
         ·intro a w ux104 hE hM hg
          have hE:=hE.sub (e':=[(88,vB r111),(90,(ptr b1 (0 + (s13.2.2.2).toNat * 4 + (s96.2.2).toNat * 1))),(0,vI p0),(3,(ptr b1 0)),(5,(ptr b3 0)),(6,(ptr b7 0)),(7,vB r83),(8,vI s13.2.2.2),(12,vB r91),(13,vI s96.2.2),(75,vI s96.2.2),(76,(vT (decide (s96.2.2 < 4))))]) ⟨lk rfl (hg 9 (by decide)),lk rfl (hg 11 (by decide)),rfl,rfl,rfl,rfl,rfl,rfl,rfl,rfl,rfl,rfl,trivial⟩
          have hM:=hM.pull (pre:=[_])
          refine Zm (seg:=[vB r111]) (cs':=enc (s96.1.setIfInBounds (s13.2.2.2).toNat (x114.setIfInBounds (s96.2.2).toNat r111))) hE hM Za rfl rfl rfl ty5 rfl (Wk (o':=0 + (s96.2.2).toNat * 1) hi113 (ZI (v:=x114) (x:=r111) hi116.1) (by first | omega | (simp only [Flat.n] <;> omega))) (Flat.cell (r111 : UInt8)) (YM (o':=0 + (s96.2.2).toNat * 1) hi113 (ZI (v:=x114) (x:=r111) hi116.1) (Zu (v:=x114) (x:=r111) hi116.1) (by first | omega | (simp only [Flat.n] <;> omega))) fun w a hM hE=>Zi ?_
          have ht119:=Option.some.inj hl102
          subst ht119
          refine Zj ?_
          have hM:=((hM.pull (pre:=[_,_])).pull (pre:=[_])).pull (pre:=[_,_])
          exact ⟨hE.sub ⟨rfl,rfl,rfl,rfl,rfl,rfl,rfl,rfl,trivial⟩,hM⟩
        ·skip
         rintro a w ⟨hE,hM⟩
         obtain ⟨x122,hi121,hF103⟩:=bvx hF103
         obtain ⟨x125,hi124,hF103⟩:=bvx hF103
         obtain ⟨r127,e128,hF103⟩:=bind_some hF103
         obtain ⟨x130,hi129,hF103⟩:=bvx hF103
         obtain ⟨x133,hi132,hF103⟩:=bvx hF103
         refine Yd (n:=159) (hd:=[_,_,_,_,_,_,_,_,_,_,_,_]) (tl:=[_]) YR rfl rfl [91,92,93,94,95,96,97,98,99,100,101,102] (by decide) (fun w=>M (Old w0) w0 w [raw b7 (enc s96.2.1),raw b1 (enc j101),raw b3 (enc (Vector.replicate 4 (Vector.replicate 4 (0 : UInt8))))]) (fun j=>([fun v _=>v = (vI s13.2.2.2),fun v _=>v = (vI s96.2.2),fun v _=>v = (vI p0),fun v _=>v = (vI s13.2.2.2),fun v _=>v = (vI s96.2.2),fun v _=>v = (ptr b7 (0 + (s13.2.2.2).toNat * 4)),fun v _=>v = (ptr b7 (0 + (s13.2.2.2).toNat * 4 + (s96.2.2).toNat * 1)),fun v _=>v = (vB x125),fun v _=>v = (vB r91),fun v _=>v = (vB r127),fun v _=>v = (ptr b7 (0 + (s13.2.2.2).toNat * 4)),fun v _=>v = (ptr b7 (0 + (s13.2.2.2).toNat * 4 + (s96.2.2).toNat * 1))] : List (Value → World → Prop)).getD j (fun _ _=>True)) (fun _ _ h hk=>h.keep hk) (gup (Zh (Zh (Zh (Zh (Zh (Zh (Zh (Zh (Zh (Zh (Zh (Zh WV))))))))))))) hE hM.drew (ZK (Zb ?_ (Zb ?_ (Zb ?_ (Zb ?_ (Zb ?_ (Zb ?_ (Zb ?_ (Zb ?_ (Zb ?_ (Zb ?_ (Zb ?_ (Zb ?_ ZE))))))))))))) ?_
         ·exact fun a w ux120 hE hM hp=>Zd hE Za ld rfl fun a hE=>⟨Kept.refl _ _,_,_,rfl,hE,rfl⟩
         ·exact fun a w ux120 hE hM hp=>Zd hE Za ld rfl fun a hE=>⟨Kept.refl _ _,_,_,rfl,hE,rfl⟩
         ·exact fun a w ux120 hE hM hp=>Zd hE Za ld rfl fun a hE=>⟨Kept.refl _ _,_,_,rfl,hE,rfl⟩
         ·exact fun a w ux120 hE hM hp=>Zd hE Za ld rfl fun a hE=>⟨Kept.refl _ _,_,_,rfl,hE,rfl⟩
         ·exact fun a w ux120 hE hM hp=>Zd hE Za ld rfl fun a hE=>⟨Kept.refl _ _,_,_,rfl,hE,rfl⟩
         ·intro a w ux120 hE hM hp
          have f3 : ux120 3 = (vI s13.2.2.2):=hp 0 _ rfl rfl
          exact Zg hE Za ld rfl (lk rfl f3) Try.underlying50 Z4 hi121.1 fun a hE=>⟨Kept.refl _ _,_,_,rfl,hE,rfl⟩
         ·intro a w ux120 hE hM hp
          have f4 : ux120 4 = (vI s96.2.2):=hp 1 _ rfl rfl
          have f5 : ux120 5 = (ptr b7 (0 + (s13.2.2.2).toNat * 4)):=hp 0 _ rfl rfl
          exact Zg hE Za ld (lk rfl f5) (lk rfl f4) Try.underlying42 ty5 hi124.1 fun a hE=>⟨Kept.refl _ _,_,_,rfl,hE,rfl⟩
         ·intro a w ux120 hE hM hp
          have f6 : ux120 6 = (ptr b7 (0 + (s13.2.2.2).toNat * 4 + (s96.2.2).toNat * 1)):=hp 0 _ rfl rfl
          exact Zv (v:=(vB x125)) hE Za ld (lk rfl f6) ty5 rfl (At.vec (At.vec (hM.rawAt (pre:=[])) hi121.2) hi124.2) fun a hE=>⟨Kept.refl _ _,_,_,rfl,hE,rfl⟩
         ·exact fun a w ux120 hE hM hp=>Zd hE Za ld rfl fun a hE=>⟨Kept.refl _ _,_,_,rfl,hE,rfl⟩
         ·intro a w ux120 hE hM hp
          have f2 : ux120 2 = (vI p0):=hp 0 _ rfl rfl
          have f7 : ux120 7 = (vB x125):=hp 1 _ rfl rfl
          have f8 : ux120 8 = (vB r91):=hp 2 _ rfl rfl
          refine Zq hE Za ld (ZV (ZT (lk rfl f2) (ZT (lk rfl f7) (ZT (lk rfl f8) Xw)))) QV (YL _ p0 x125 r91 r127 e128) ?_
          rintro v w a ⟨rfl,hK⟩ hE
          exact ⟨hK,_,_,rfl,hE,rfl⟩
         ·intro a w ux120 hE hM hp
          have f0 : ux120 0 = (vI s13.2.2.2):=hp 0 _ rfl rfl
          exact Zg hE Za ld rfl (lk rfl f0) Try.underlying50 Z4 hi129.1 fun a hE=>⟨Kept.refl _ _,_,_,rfl,hE,rfl⟩
         ·intro a w ux120 hE hM hp
          have f1 : ux120 1 = (vI s96.2.2):=hp 1 _ rfl rfl
          have f10 : ux120 10 = (ptr b7 (0 + (s13.2.2.2).toNat * 4)):=hp 0 _ rfl rfl
          exact Zg hE Za ld (lk rfl f10) (lk rfl f1) Try.underlying42 ty5 hi132.1 fun a hE=>⟨Kept.refl _ _,_,_,rfl,hE,rfl⟩
         ·intro a w ux120 hE hM hg
          have hE:=hE.sub (e':=[(100,vB r127),(102,(ptr b7 (0 + (s13.2.2.2).toNat * 4 + (s96.2.2).toNat * 1))),(0,vI p0),(3,(ptr b1 0)),(5,(ptr b3 0)),(6,(ptr b7 0)),(7,vB r83),(8,vI s13.2.2.2),(12,vB r91),(13,vI s96.2.2)]) ⟨lk rfl (hg 9 (by decide)),lk rfl (hg 11 (by decide)),rfl,rfl,rfl,rfl,rfl,rfl,rfl,rfl,trivial⟩
          refine Zm (seg:=[vB r127]) (cs':=enc (s96.2.1.setIfInBounds (s13.2.2.2).toNat (x130.setIfInBounds (s96.2.2).toNat r127))) hE hM Za rfl rfl rfl ty5 rfl (Wk (o':=0 + (s96.2.2).toNat * 1) hi129 (ZI (v:=x130) (x:=r127) hi132.1) (by first | omega | (simp only [Flat.n] <;> omega))) (Flat.cell (r127 : UInt8)) (YM (o':=0 + (s96.2.2).toNat * 1) hi129 (ZI (v:=x130) (x:=r127) hi132.1) (Zu (v:=x130) (x:=r127) hi132.1) (by first | omega | (simp only [Flat.n] <;> omega))) fun w a hM hE=>Zi (Yi (Zt (wp_region_lit (Zd hE Za ld rfl fun a hE=>Zk hE Za ld rfl rfl rfl fun a hE=>Ze hE Za ld rfl fun a hE=>Zi (Zj ?_)))))
          exact ⟨_,(ois hF103),hE.sub ⟨rfl,rfl,rfl,rfl,rfl,rfl,rfl,rfl,trivial⟩,hM⟩
       ·intro hb100
        have hs97:=Zx hs97 hb100
        refine wp_exit (Zp (Zp (Yj ?_)))
        have ht135:=hx98 _ (ois hs97)
        subst ht135
        refine Zj ?_
        exact ⟨hE.sub ⟨rfl,rfl,rfl,rfl,rfl,rfl,trivial⟩,hM⟩
      ·skip
       rintro a w ⟨hE,hM⟩
       refine Zt (Zc (Ze hE Za ld rfl fun a hE=>Zf ?_))
       obtain ⟨j136,hl137,hF138⟩:=bind_some hF95
       refine ZP (fun a w=>Env 159 a [(0,vI p0),(3,(ptr b1 0)),(5,(ptr b3 0)),(6,(ptr b7 0)),(7,vB r83),(8,vI s13.2.2.2)] ∧ M (Old w0) w0 w [raw b7 (enc j136.2),raw b1 (enc j136.1),raw b3 (enc (Vector.replicate 4 (Vector.replicate 4 (0 : UInt8))))]) ?_ ?_
       ·skip
        refine wp_block ?_
        refine ZJ (fun (s139 : (Vector (Vector UInt8 4) 4) × (Vector (Vector UInt8 4) 4) × Int) a w=>Env 159 a [(0,vI p0),(3,(ptr b1 0)),(5,(ptr b3 0)),(6,(ptr b7 0)),(7,vB r83),(8,vI s13.2.2.2),(14,vI s139.2.2)] ∧ M (Old w0) w0 w [raw b7 (enc s139.2.1),raw b1 (enc s139.1),raw b3 (enc (Vector.replicate 4 (Vector.replicate 4 (0 : UInt8))))]) hl137 ⟨hE.sub ⟨rfl,rfl,rfl,rfl,rfl,rfl,rfl,trivial⟩,hM⟩ ?_
        rintro s139 a w ⟨hE,hM⟩ o142 hs140 hx141
        unfold X0 at hs140
        refine wp_seq (Zc (Zd hE Za ld rfl fun a hE=>Zk hE Za ld rfl rfl rfl fun a hE=>Zf ?_))
        refine Zr hE rfl ?_ ?_
        ·intro hb143
         have hs140:=Zw hs140 hb143
         refine wp_skip (Zt (wp_seq (wp_block (Zc (Zd hE Za ld rfl fun a hE=>Zd hE Za ld rfl ?_))))); intro a hE
         obtain ⟨x145,hi144,hs140⟩:=bvx hs140
         refine Zg hE Za ld rfl rfl Try.underlying50 Z4 hi144.1 ?_; intro a hE
         obtain ⟨x148,hi147,hs140⟩:=bvx hs140
         refine Zg hE Za ld rfl rfl Try.underlying42 ty5 hi147.1 fun a hE=>Zv (v:=(vB x148)) hE Za ld rfl ty5 rfl (At.vec (At.vec (hM.rawAt (pre:=[_])) hi144.2) hi147.2) fun a hE=>Ze hE Za ld rfl fun a hE=>Zf (Zc (Ze hE Za ld rfl fun a hE=>Zf ?_))
         obtain ⟨j150,hl151,hF152⟩:=bind_some hs140
         refine ZP (fun a w=>Env 159 a [(0,vI p0),(3,(ptr b1 0)),(5,(ptr b3 0)),(6,(ptr b7 0)),(7,vB r83),(8,vI s13.2.2.2),(14,vI s139.2.2)] ∧ M (Old w0) w0 w [raw b7 (enc j150.2),raw b1 (enc j150.1),raw b3 (enc (Vector.replicate 4 (Vector.replicate 4 (0 : UInt8))))]) ?_ ?_
         ·skip
          refine wp_block ?_
          refine ZJ (fun (s153 : (Vector (Vector UInt8 4) 4) × (Vector (Vector UInt8 4) 4) × Int) a w=>Env 159 a [(0,vI p0),(3,(ptr b1 0)),(5,(ptr b3 0)),(6,(ptr b7 0)),(7,vB r83),(8,vI s13.2.2.2),(14,vI s139.2.2),(15,vB x148),(16,vI s153.2.2)] ∧ M (Old w0) w0 w [raw b7 (enc s153.2.1),raw b1 (enc s153.1),raw b3 (enc (Vector.replicate 4 (Vector.replicate 4 (0 : UInt8))))]) hl151 ⟨hE.sub ⟨rfl,rfl,rfl,rfl,rfl,rfl,rfl,rfl,rfl,trivial⟩,hM⟩ ?_
          rintro s153 a w ⟨hE,hM⟩ o156 hs154 hx155
          unfold YC at hs154
          refine wp_seq ?_
          obtain ⟨j157,hl158,hF159⟩:=bind_some hs154
          refine ZL (fun a w=>Env 159 a [(0,vI p0),(3,(ptr b1 0)),(5,(ptr b3 0)),(6,(ptr b7 0)),(7,vB r83),(8,vI s13.2.2.2),(14,vI s139.2.2),(15,vB x148),(16,vI s153.2.2),(118,vT j157)] ∧ M (Old w0) w0 w [raw b7 (enc s153.2.1),raw b1 (enc s153.1),raw b3 (enc (Vector.replicate 4 (Vector.replicate 4 (0 : UInt8))))]) ?_ ?_
          ·skip
           refine wp_region_lit (Zd hE Za ld rfl fun a hE=>Zk hE Za ld rfl rfl rfl fun a hE=>Zd hE Za ld rfl ?_); intro a hE
           refine Va (decide (s153.2.2 < 4)) (fun hb160=>?_) (fun hb160=>?_)
           ·have hl158:=Zw hl158 hb160
            refine Zd hE (Zz hE rfl (lkb rfl hb160)) (by decide) rfl fun a hE=>Zd hE (Zz hE rfl (lkb rfl hb160)) (by decide) rfl fun a hE=>Zk hE (Zz hE rfl (lkb rfl hb160)) (by decide) rfl rfl rfl fun a hE=>Xx hE Za ld (lkb rfl hb160) rfl fun a hE=>Zi ?_
            have ht161:=Option.some.inj hl158
            subst ht161
            refine Zj ?_
            exact ⟨hE.sub ⟨rfl,rfl,rfl,rfl,rfl,rfl,rfl,rfl,rfl,rfl,trivial⟩,hM⟩
           ·have hl158:=Zx hl158 hb160
            refine Zy hE rfl (lkb rfl hb160) rfl (by decide) fun a hE=>Zy hE rfl (lkb rfl hb160) rfl (by decide) fun a hE=>Zy hE rfl (lkb rfl hb160) rfl (by decide) fun a hE=>YO hE Za ld (lkb rfl hb160) rfl fun a hE=>Zi ?_
            have ht162:=Option.some.inj hl158
            subst ht162
            refine Zj ?_
            exact ⟨hE.sub ⟨rfl,rfl,rfl,rfl,rfl,rfl,rfl,rfl,rfl,rfl,trivial⟩,hM⟩
          ·skip
           rintro a w ⟨hE,hM⟩
           refine Zr hE rfl ?_ ?_
           ·intro hb163
            have hF159:=Zw hF159 hb163
            refine wp_skip (Zt (wp_seq (wp_block ?_)))
            obtain ⟨j164,hl165,hF166⟩:=bind_some hF159
            refine ZL (fun a w=>Env 159 a [(0,vI p0),(3,(ptr b1 0)),(5,(ptr b3 0)),(6,(ptr b7 0)),(7,vB r83),(8,vI s13.2.2.2),(14,vI s139.2.2),(15,vB x148),(16,vI s153.2.2)] ∧ M (Old w0) w0 w [raw b7 (enc s153.2.1),raw b1 (enc j164),raw b3 (enc (Vector.replicate 4 (Vector.replicate 4 (0 : UInt8))))]) ?_ ?_
            ·skip
             obtain ⟨x169,hi168,hl165⟩:=bvx hl165
             obtain ⟨x172,hi171,hl165⟩:=bvx hl165
             obtain ⟨x175,hi174,hl165⟩:=bvx hl165
             obtain ⟨x178,hi177,hl165⟩:=bvx hl165
             obtain ⟨r180,e181,hl165⟩:=bind_some hl165
             obtain ⟨x183,hi182,hl165⟩:=bvx hl165
             obtain ⟨x186,hi185,hl165⟩:=bvx hl165
             refine Yd (n:=159) (hd:=[_,_,_,_,_,_,_,_,_,_,_,_,_,_,_,_,_,_]) (tl:=[_]) YR rfl rfl [121,122,123,124,125,126,127,128,129,130,131,132,133,134,135,136,137,138] (by decide) (fun w=>M (Old w0) w0 w [raw b7 (enc s153.2.1),raw b1 (enc s153.1),raw b3 (enc (Vector.replicate 4 (Vector.replicate 4 (0 : UInt8))))]) (fun j=>([fun v _=>v = (vI s139.2.2),fun v _=>v = (vI s153.2.2),fun v _=>v = (vI s139.2.2),fun v _=>v = (vI s153.2.2),fun v _=>v = (ptr b1 (0 + (s139.2.2).toNat * 4)),fun v _=>v = (ptr b1 (0 + (s139.2.2).toNat * 4 + (s153.2.2).toNat * 1)),fun v _=>v = (vB x172),fun v _=>v = (vI p0),fun v _=>v = (vB x148),fun v _=>v = (vI s13.2.2.2),fun v _=>v = (vI s153.2.2),fun v _=>v = (ptr b1 (0 + (s13.2.2.2).toNat * 4)),fun v _=>v = (ptr b1 (0 + (s13.2.2.2).toNat * 4 + (s153.2.2).toNat * 1)),fun v _=>v = (vB x178),fun v _=>v = (vB r180),fun v _=>v = (vB (x172 ^^^ r180)),fun v _=>v = (ptr b1 (0 + (s139.2.2).toNat * 4)),fun v _=>v = (ptr b1 (0 + (s139.2.2).toNat * 4 + (s153.2.2).toNat * 1))] : List (Value → World → Prop)).getD j (fun _ _=>True)) (fun _ _ h hk=>h.keep hk) (gup (Zh (Zh (Zh (Zh (Zh (Zh (Zh (Zh (Zh (Zh (Zh (Zh (Zh (Zh (Zh (Zh (Zh (Zh WV))))))))))))))))))) hE hM.drew (ZK (Zb ?_ (Zb ?_ (Zb ?_ (Zb ?_ (Zb ?_ (Zb ?_ (Zb ?_ (Zb ?_ (Zb ?_ (Zb ?_ (Zb ?_ (Zb ?_ (Zb ?_ (Zb ?_ (Zb ?_ (Zb ?_ (Zb ?_ (Zb ?_ ZE))))))))))))))))))) ?_
             ·exact fun a w ux167 hE hM hp=>Zd hE Za ld rfl fun a hE=>⟨Kept.refl _ _,_,_,rfl,hE,rfl⟩
             ·exact fun a w ux167 hE hM hp=>Zd hE Za ld rfl fun a hE=>⟨Kept.refl _ _,_,_,rfl,hE,rfl⟩
             ·exact fun a w ux167 hE hM hp=>Zd hE Za ld rfl fun a hE=>⟨Kept.refl _ _,_,_,rfl,hE,rfl⟩
             ·exact fun a w ux167 hE hM hp=>Zd hE Za ld rfl fun a hE=>⟨Kept.refl _ _,_,_,rfl,hE,rfl⟩
             ·intro a w ux167 hE hM hp
              have f2 : ux167 2 = (vI s139.2.2):=hp 0 _ rfl rfl
              exact Zg hE Za ld rfl (lk rfl f2) Try.underlying50 Z4 hi168.1 fun a hE=>⟨Kept.refl _ _,_,_,rfl,hE,rfl⟩
             ·intro a w ux167 hE hM hp
              have f3 : ux167 3 = (vI s153.2.2):=hp 1 _ rfl rfl
              have f4 : ux167 4 = (ptr b1 (0 + (s139.2.2).toNat * 4)):=hp 0 _ rfl rfl
              exact Zg hE Za ld (lk rfl f4) (lk rfl f3) Try.underlying42 ty5 hi171.1 fun a hE=>⟨Kept.refl _ _,_,_,rfl,hE,rfl⟩
             ·intro a w ux167 hE hM hp
              have f5 : ux167 5 = (ptr b1 (0 + (s139.2.2).toNat * 4 + (s153.2.2).toNat * 1)):=hp 0 _ rfl rfl
              exact Zv (v:=(vB x172)) hE Za ld (lk rfl f5) ty5 rfl (At.vec (At.vec (hM.rawAt (pre:=[_])) hi168.2) hi171.2) fun a hE=>⟨Kept.refl _ _,_,_,rfl,hE,rfl⟩
             ·exact fun a w ux167 hE hM hp=>Zd hE Za ld rfl fun a hE=>⟨Kept.refl _ _,_,_,rfl,hE,rfl⟩
             ·exact fun a w ux167 hE hM hp=>Zd hE Za ld rfl fun a hE=>⟨Kept.refl _ _,_,_,rfl,hE,rfl⟩
             ·exact fun a w ux167 hE hM hp=>Zd hE Za ld rfl fun a hE=>⟨Kept.refl _ _,_,_,rfl,hE,rfl⟩
             ·exact fun a w ux167 hE hM hp=>Zd hE Za ld rfl fun a hE=>⟨Kept.refl _ _,_,_,rfl,hE,rfl⟩
             ·intro a w ux167 hE hM hp
              have f9 : ux167 9 = (vI s13.2.2.2):=hp 0 _ rfl rfl
              exact Zg hE Za ld rfl (lk rfl f9) Try.underlying50 Z4 hi174.1 fun a hE=>⟨Kept.refl _ _,_,_,rfl,hE,rfl⟩
             ·intro a w ux167 hE hM hp
              have f10 : ux167 10 = (vI s153.2.2):=hp 1 _ rfl rfl
              have f11 : ux167 11 = (ptr b1 (0 + (s13.2.2.2).toNat * 4)):=hp 0 _ rfl rfl
              exact Zg hE Za ld (lk rfl f11) (lk rfl f10) Try.underlying42 ty5 hi177.1 fun a hE=>⟨Kept.refl _ _,_,_,rfl,hE,rfl⟩
             ·intro a w ux167 hE hM hp
              have f12 : ux167 12 = (ptr b1 (0 + (s13.2.2.2).toNat * 4 + (s153.2.2).toNat * 1)):=hp 0 _ rfl rfl
              exact Zv (v:=(vB x178)) hE Za ld (lk rfl f12) ty5 rfl (At.vec (At.vec (hM.rawAt (pre:=[_])) hi174.2) hi177.2) fun a hE=>⟨Kept.refl _ _,_,_,rfl,hE,rfl⟩
             ·intro a w ux167 hE hM hp
              have f7 : ux167 7 = (vI p0):=hp 0 _ rfl rfl
              have f8 : ux167 8 = (vB x148):=hp 1 _ rfl rfl
              have f13 : ux167 13 = (vB x178):=hp 2 _ rfl rfl
              refine Zq hE Za ld (ZV (ZT (lk rfl f7) (ZT (lk rfl f8) (ZT (lk rfl f13) Xw)))) QV (YL _ p0 x148 x178 r180 e181) ?_
              rintro v w a ⟨rfl,hK⟩ hE
              exact ⟨hK,_,_,rfl,hE,rfl⟩
             ·intro a w ux167 hE hM hp
              have f6 : ux167 6 = (vB x172):=hp 0 _ rfl rfl
              have f14 : ux167 14 = (vB r180):=hp 1 _ rfl rfl
              exact Zk hE Za ld (lk rfl f6) (lk rfl f14) (Vc x172 r180) fun a hE=>⟨Kept.refl _ _,_,_,rfl,hE,rfl⟩
             ·intro a w ux167 hE hM hp
              have f0 : ux167 0 = (vI s139.2.2):=hp 0 _ rfl rfl
              exact Zg hE Za ld rfl (lk rfl f0) Try.underlying50 Z4 hi182.1 fun a hE=>⟨Kept.refl _ _,_,_,rfl,hE,rfl⟩
             ·intro a w ux167 hE hM hp
              have f1 : ux167 1 = (vI s153.2.2):=hp 1 _ rfl rfl
              have f16 : ux167 16 = (ptr b1 (0 + (s139.2.2).toNat * 4)):=hp 0 _ rfl rfl
              exact Zg hE Za ld (lk rfl f16) (lk rfl f1) Try.underlying42 ty5 hi185.1 fun a hE=>⟨Kept.refl _ _,_,_,rfl,hE,rfl⟩
             ·intro a w ux167 hE hM hg
              have hE:=hE.sub (e':=[(136,(vB (x172 ^^^ r180))),(138,(ptr b1 (0 + (s139.2.2).toNat * 4 + (s153.2.2).toNat * 1))),(0,vI p0),(3,(ptr b1 0)),(5,(ptr b3 0)),(6,(ptr b7 0)),(7,vB r83),(8,vI s13.2.2.2),(14,vI s139.2.2),(15,vB x148),(16,vI s153.2.2),(118,vT j157)]) ⟨lk rfl (hg 15 (by decide)),lk rfl (hg 17 (by decide)),rfl,rfl,rfl,rfl,rfl,rfl,rfl,rfl,rfl,rfl,trivial⟩
              have hM:=hM.pull (pre:=[_])
              refine Zm (seg:=[(vB (x172 ^^^ r180))]) (cs':=enc (s153.1.setIfInBounds (s139.2.2).toNat (x183.setIfInBounds (s153.2.2).toNat (x172 ^^^ r180)))) hE hM Za rfl rfl rfl ty5 rfl (Wk (o':=0 + (s153.2.2).toNat * 1) hi182 (ZI (v:=x183) (x:=x172 ^^^ r180) hi185.1) (by first | omega | (simp only [Flat.n] <;> omega))) (Flat.cell (x172 ^^^ r180 : UInt8)) (YM (o':=0 + (s153.2.2).toNat * 1) hi182 (ZI (v:=x183) (x:=x172 ^^^ r180) hi185.1) (Zu (v:=x183) (x:=x172 ^^^ r180) hi185.1) (by first | omega | (simp only [Flat.n] <;> omega))) fun w a hM hE=>Zi ?_
              have ht188:=Option.some.inj hl165
              subst ht188
              refine Zj ?_
              have hM:=((hM.pull (pre:=[_,_])).pull (pre:=[_])).pull (pre:=[_,_])
              exact ⟨hE.sub ⟨rfl,rfl,rfl,rfl,rfl,rfl,rfl,rfl,rfl,trivial⟩,hM⟩
            ·skip
             rintro a w ⟨hE,hM⟩
             obtain ⟨x191,hi190,hF166⟩:=bvx hF166
             obtain ⟨x194,hi193,hF166⟩:=bvx hF166
             obtain ⟨x197,hi196,hF166⟩:=bvx hF166
             obtain ⟨x200,hi199,hF166⟩:=bvx hF166
             obtain ⟨r202,e203,hF166⟩:=bind_some hF166
             obtain ⟨x205,hi204,hF166⟩:=bvx hF166
             obtain ⟨x208,hi207,hF166⟩:=bvx hF166
             refine Yd (n:=159) (hd:=[_,_,_,_,_,_,_,_,_,_,_,_,_,_,_,_,_,_]) (tl:=[_]) YR rfl rfl [139,140,141,142,143,144,145,146,147,148,149,150,151,152,153,154,155,156] (by decide) (fun w=>M (Old w0) w0 w [raw b7 (enc s153.2.1),raw b1 (enc j164),raw b3 (enc (Vector.replicate 4 (Vector.replicate 4 (0 : UInt8))))]) (fun j=>([fun v _=>v = (vI s139.2.2),fun v _=>v = (vI s153.2.2),fun v _=>v = (vI s139.2.2),fun v _=>v = (vI s153.2.2),fun v _=>v = (ptr b7 (0 + (s139.2.2).toNat * 4)),fun v _=>v = (ptr b7 (0 + (s139.2.2).toNat * 4 + (s153.2.2).toNat * 1)),fun v _=>v = (vB x194),fun v _=>v = (vI p0),fun v _=>v = (vB x148),fun v _=>v = (vI s13.2.2.2),fun v _=>v = (vI s153.2.2),fun v _=>v = (ptr b7 (0 + (s13.2.2.2).toNat * 4)),fun v _=>v = (ptr b7 (0 + (s13.2.2.2).toNat * 4 + (s153.2.2).toNat * 1)),fun v _=>v = (vB x200),fun v _=>v = (vB r202),fun v _=>v = (vB (x194 ^^^ r202)),fun v _=>v = (ptr b7 (0 + (s139.2.2).toNat * 4)),fun v _=>v = (ptr b7 (0 + (s139.2.2).toNat * 4 + (s153.2.2).toNat * 1))] : List (Value → World → Prop)).getD j (fun _ _=>True)) (fun _ _ h hk=>h.keep hk) (gup (Zh (Zh (Zh (Zh (Zh (Zh (Zh (Zh (Zh (Zh (Zh (Zh (Zh (Zh (Zh (Zh (Zh (Zh WV))))))))))))))))))) hE hM.drew (ZK (Zb ?_ (Zb ?_ (Zb ?_ (Zb ?_ (Zb ?_ (Zb ?_ (Zb ?_ (Zb ?_ (Zb ?_ (Zb ?_ (Zb ?_ (Zb ?_ (Zb ?_ (Zb ?_ (Zb ?_ (Zb ?_ (Zb ?_ (Zb ?_ ZE))))))))))))))))))) ?_
             ·exact fun a w ux189 hE hM hp=>Zd hE Za ld rfl fun a hE=>⟨Kept.refl _ _,_,_,rfl,hE,rfl⟩
             ·exact fun a w ux189 hE hM hp=>Zd hE Za ld rfl fun a hE=>⟨Kept.refl _ _,_,_,rfl,hE,rfl⟩
             ·exact fun a w ux189 hE hM hp=>Zd hE Za ld rfl fun a hE=>⟨Kept.refl _ _,_,_,rfl,hE,rfl⟩
             ·exact fun a w ux189 hE hM hp=>Zd hE Za ld rfl fun a hE=>⟨Kept.refl _ _,_,_,rfl,hE,rfl⟩
             ·intro a w ux189 hE hM hp
              have f2 : ux189 2 = (vI s139.2.2):=hp 0 _ rfl rfl
              exact Zg hE Za ld rfl (lk rfl f2) Try.underlying50 Z4 hi190.1 fun a hE=>⟨Kept.refl _ _,_,_,rfl,hE,rfl⟩
             ·intro a w ux189 hE hM hp
              have f3 : ux189 3 = (vI s153.2.2):=hp 1 _ rfl rfl
              have f4 : ux189 4 = (ptr b7 (0 + (s139.2.2).toNat * 4)):=hp 0 _ rfl rfl
              exact Zg hE Za ld (lk rfl f4) (lk rfl f3) Try.underlying42 ty5 hi193.1 fun a hE=>⟨Kept.refl _ _,_,_,rfl,hE,rfl⟩
             ·intro a w ux189 hE hM hp
              have f5 : ux189 5 = (ptr b7 (0 + (s139.2.2).toNat * 4 + (s153.2.2).toNat * 1)):=hp 0 _ rfl rfl
              exact Zv (v:=(vB x194)) hE Za ld (lk rfl f5) ty5 rfl (At.vec (At.vec (hM.rawAt (pre:=[])) hi190.2) hi193.2) fun a hE=>⟨Kept.refl _ _,_,_,rfl,hE,rfl⟩
             ·exact fun a w ux189 hE hM hp=>Zd hE Za ld rfl fun a hE=>⟨Kept.refl _ _,_,_,rfl,hE,rfl⟩
             ·exact fun a w ux189 hE hM hp=>Zd hE Za ld rfl fun a hE=>⟨Kept.refl _ _,_,_,rfl,hE,rfl⟩
             ·exact fun a w ux189 hE hM hp=>Zd hE Za ld rfl fun a hE=>⟨Kept.refl _ _,_,_,rfl,hE,rfl⟩
             ·exact fun a w ux189 hE hM hp=>Zd hE Za ld rfl fun a hE=>⟨Kept.refl _ _,_,_,rfl,hE,rfl⟩
             ·intro a w ux189 hE hM hp
              have f9 : ux189 9 = (vI s13.2.2.2):=hp 0 _ rfl rfl
              exact Zg hE Za ld rfl (lk rfl f9) Try.underlying50 Z4 hi196.1 fun a hE=>⟨Kept.refl _ _,_,_,rfl,hE,rfl⟩
             ·intro a w ux189 hE hM hp
              have f10 : ux189 10 = (vI s153.2.2):=hp 1 _ rfl rfl
              have f11 : ux189 11 = (ptr b7 (0 + (s13.2.2.2).toNat * 4)):=hp 0 _ rfl rfl
              exact Zg hE Za ld (lk rfl f11) (lk rfl f10) Try.underlying42 ty5 hi199.1 fun a hE=>⟨Kept.refl _ _,_,_,rfl,hE,rfl⟩
             ·intro a w ux189 hE hM hp
              have f12 : ux189 12 = (ptr b7 (0 + (s13.2.2.2).toNat * 4 + (s153.2.2).toNat * 1)):=hp 0 _ rfl rfl
              exact Zv (v:=(vB x200)) hE Za ld (lk rfl f12) ty5 rfl (At.vec (At.vec (hM.rawAt (pre:=[])) hi196.2) hi199.2) fun a hE=>⟨Kept.refl _ _,_,_,rfl,hE,rfl⟩
             ·intro a w ux189 hE hM hp
              have f7 : ux189 7 = (vI p0):=hp 0 _ rfl rfl
              have f8 : ux189 8 = (vB x148):=hp 1 _ rfl rfl
              have f13 : ux189 13 = (vB x200):=hp 2 _ rfl rfl
              refine Zq hE Za ld (ZV (ZT (lk rfl f7) (ZT (lk rfl f8) (ZT (lk rfl f13) Xw)))) QV (YL _ p0 x148 x200 r202 e203) ?_
              rintro v w a ⟨rfl,hK⟩ hE
              exact ⟨hK,_,_,rfl,hE,rfl⟩
             ·intro a w ux189 hE hM hp
              have f6 : ux189 6 = (vB x194):=hp 0 _ rfl rfl
              have f14 : ux189 14 = (vB r202):=hp 1 _ rfl rfl
              exact Zk hE Za ld (lk rfl f6) (lk rfl f14) (Vc x194 r202) fun a hE=>⟨Kept.refl _ _,_,_,rfl,hE,rfl⟩
             ·intro a w ux189 hE hM hp
              have f0 : ux189 0 = (vI s139.2.2):=hp 0 _ rfl rfl
              exact Zg hE Za ld rfl (lk rfl f0) Try.underlying50 Z4 hi204.1 fun a hE=>⟨Kept.refl _ _,_,_,rfl,hE,rfl⟩
             ·intro a w ux189 hE hM hp
              have f1 : ux189 1 = (vI s153.2.2):=hp 1 _ rfl rfl
              have f16 : ux189 16 = (ptr b7 (0 + (s139.2.2).toNat * 4)):=hp 0 _ rfl rfl
              exact Zg hE Za ld (lk rfl f16) (lk rfl f1) Try.underlying42 ty5 hi207.1 fun a hE=>⟨Kept.refl _ _,_,_,rfl,hE,rfl⟩
             ·intro a w ux189 hE hM hg
              have hE:=hE.sub (e':=[(154,(vB (x194 ^^^ r202))),(156,(ptr b7 (0 + (s139.2.2).toNat * 4 + (s153.2.2).toNat * 1))),(0,vI p0),(3,(ptr b1 0)),(5,(ptr b3 0)),(6,(ptr b7 0)),(7,vB r83),(8,vI s13.2.2.2),(14,vI s139.2.2),(15,vB x148),(16,vI s153.2.2)]) ⟨lk rfl (hg 15 (by decide)),lk rfl (hg 17 (by decide)),rfl,rfl,rfl,rfl,rfl,rfl,rfl,rfl,rfl,trivial⟩
              refine Zm (seg:=[(vB (x194 ^^^ r202))]) (cs':=enc (s153.2.1.setIfInBounds (s139.2.2).toNat (x205.setIfInBounds (s153.2.2).toNat (x194 ^^^ r202)))) hE hM Za rfl rfl rfl ty5 rfl (Wk (o':=0 + (s153.2.2).toNat * 1) hi204 (ZI (v:=x205) (x:=x194 ^^^ r202) hi207.1) (by first | omega | (simp only [Flat.n] <;> omega))) (Flat.cell (x194 ^^^ r202 : UInt8)) (YM (o':=0 + (s153.2.2).toNat * 1) hi204 (ZI (v:=x205) (x:=x194 ^^^ r202) hi207.1) (Zu (v:=x205) (x:=x194 ^^^ r202) hi207.1) (by first | omega | (simp only [Flat.n] <;> omega))) fun w a hM hE=>Zi (Yi (Zt (wp_region_lit (Zd hE Za ld rfl fun a hE=>Zk hE Za ld rfl rfl rfl fun a hE=>Ze hE Za ld rfl fun a hE=>Zi (Zj ?_)))))
              exact ⟨_,(ois hF166),hE.sub ⟨rfl,rfl,rfl,rfl,rfl,rfl,rfl,rfl,rfl,trivial⟩,hM⟩
           ·intro hb163
            have hF159:=Zx hF159 hb163
            refine wp_exit (Zp (Zp (Yj ?_)))
            have ht210:=hx155 _ (ois hF159)
            subst ht210
            refine Zj ?_
            exact ⟨hE.sub ⟨rfl,rfl,rfl,rfl,rfl,rfl,rfl,trivial⟩,hM⟩
         ·skip
          rintro a w ⟨hE,hM⟩
          refine Yi (Zt (wp_region_lit (Zd hE Za ld rfl fun a hE=>Zk hE Za ld rfl rfl rfl fun a hE=>Ze hE Za ld rfl fun a hE=>Zi (Zj ?_))))
          exact ⟨_,(ois hF152),hE.sub ⟨rfl,rfl,rfl,rfl,rfl,rfl,rfl,trivial⟩,hM⟩
        ·intro hb143
         have hs140:=Zx hs140 hb143
         refine wp_exit (Zp (Zp (Yj ?_)))
         have ht211:=hx141 _ (ois hs140)
         subst ht211
         refine Zj ?_
         exact ⟨hE.sub ⟨rfl,rfl,rfl,rfl,rfl,rfl,trivial⟩,hM⟩
       ·skip
        rintro a w ⟨hE,hM⟩
        refine Yi (Zt (wp_region_lit (Zd hE Za ld rfl fun a hE=>Zk hE Za ld rfl rfl rfl fun a hE=>Ze hE Za ld rfl fun a hE=>Zi (Zj ?_))))
        have hM:=((hM.pull (pre:=[_])).pull (pre:=[_,_])).pull (pre:=[_,_])
        exact ⟨_,(ois hF138),hE.sub ⟨rfl,rfl,rfl,rfl,rfl,rfl,trivial⟩,hM⟩
  ·intro hb17
   have hs14:=Zx hs14 hb17
   refine wp_exit (Zp (Zp (Yj ?_)))
   have ht212:=hx15 _ (ois hs14)
   subst ht212
   refine Zj ?_
   have hM:=M.fst (l:=[_,_]) ((hM.pull (pre:=[_])).pull (pre:=[_]))
   exact ⟨(s13.2.1,s13.2.2.1),rfl,hE.sub ⟨rfl,rfl,rfl,trivial⟩,hM⟩
 ·skip
  rintro a w ⟨s12,ht,hE,hM⟩
  subst ht
  have hF11:=UU hF11
  refine Zt ?_
  obtain ⟨j213,hl214,hF215⟩:=bind_some hF11
  refine ZL (fun a w=>Env 159 a [(4,vB j213.2),(5,(ptr b3 0))] ∧ M (Old w0) w0 w [raw b3 (enc j213.1)]) ?_ ?_
  ·skip
   refine Yd (n:=159) (hd:=[_,_,_]) (tl:=[_]) YR rfl rfl [157,158,4] (by decide) (fun w=>M (Old w0) w0 w [raw b7 (enc s12.1),raw b3 (enc (Vector.replicate 4 (Vector.replicate 4 (0 : UInt8))))]) (fun j=>([fun v _=>v = (vB s12.2),fun v _=>v = (Value.agg (enc s12.1).toArray),fun v _=>v = (vB s12.2)] : List (Value → World → Prop)).getD j (fun _ _=>True)) (fun _ _ h hk=>h.keep hk) (gup (Zh (Zh (Zh WV)))) hE hM.drew (ZK (Zb ?_ (Zb ?_ (Zb ?_ ZE)))) ?_
   ·exact fun a w ux216 hE hM hp=>Zd hE Za ld rfl fun a hE=>⟨Kept.refl _ _,_,_,rfl,hE,rfl⟩
   ·exact fun a w ux216 hE hM hp=>Zl (cs:=enc s12.1) hE Za ld rfl Yw rfl (hM.rawAt (pre:=[])) (Flat.len _) fun a hE=>⟨Kept.refl _ _,_,_,rfl,hE,rfl⟩
   ·intro a w ux216 hE hM hp
    have f0 : ux216 0 = (vB s12.2):=hp 0 _ rfl rfl
    exact Ze hE Za ld (lk rfl f0) fun a hE=>⟨Kept.refl _ _,_,_,rfl,hE,rfl⟩
   ·intro a w ux216 hE hM hg
    have hE:=hE.sub (e':=[(158,(Value.agg (enc s12.1).toArray)),(4,vB s12.2),(5,(ptr b3 0))]) ⟨lk rfl (hg 1 (by decide)),lk rfl (hg 2 (by decide)),rfl,trivial⟩
    have hM:=hM.pull (pre:=[_])
    refine Zm (seg:=enc s12.1) (cs':=enc s12.1) hE hM Za rfl rfl rfl Yw (Flat.len _) (zle flq) (Flat.cell _) (Zn flq) fun w a hM hE=>Zi ?_
    have ht217:=Option.some.inj hl214
    subst ht217
    refine Zj ?_
    have hM:=M.fst (l:=[_]) hM
    exact ⟨hE.sub ⟨rfl,rfl,trivial⟩,hM⟩
  ·skip
   rintro a w ⟨hE,hM⟩
   have hr:=Option.some.inj hF215
   subst hr
   have hq218 : YD Try.prog _ _ (.cell 5 50) _:=ZW hE rfl Yw rfl (hM.rawAt (pre:=[])) (Flat.len _) rfl
   have hM:=M.fst (l:=[]) hM
   exact wp_ret (UM hE rfl (ZA hE rfl) hq218 ⟨_,rfl,rfl,hM.kept⟩)
def Xo (p0 : Int) (p1 : (Vector (Vector UInt8 4) 4)) : Option ((Vector (Vector UInt8 4) 4) × Bool) :=
 (Wf p0 p1).bind fun r5=>some (r5.2,r5.1 != 0)
theorem Un (w0 : World) (p0 : Int) (p1 : (Vector (Vector UInt8 4) 4)) (r : (Vector (Vector UInt8 4) 4) × Bool) (hF : Xo p0 p1 = some r) :
  Calls Try.prog 115 [vI p0,(Value.agg (enc p1).toArray)].toArray w0 (fun en w'=>∃ v,en = .returned v ∧ (v = (Value.tuple [(Value.agg (enc r.1).toArray),vT r.2].toArray) ∧ Kept (Old w0) w0 w')):=by
 refine ZC (n:=17) Try.func115 rfl rfl (nbl rfl) rfl ?_
 intro a hE
 have hM:=M.start w0
 unfold Xo at hF
 refine Zc (ZX (cs:=enc p1) hE hM Za ld rfl rfl fun b1 w a hM hE=>ZF hE hM Za ld Yw fun b3 w a hM hE=>Ze hE Za ld rfl fun a hE=>Zf (Zc (Zd hE Za ld rfl fun a hE=>Zl (cs:=enc p1) hE Za ld rfl Yw rfl (hM.rawAt (pre:=[_])) (Flat.len _) ?_))); intro a hE
 obtain ⟨r5,e6,hF⟩:=bind_some hF
 refine Zq hE Za ld rfl cb149 (QB _ p0 p1 r5 e6) ?_
 rintro v w a ⟨rfl,hK⟩ hE
 have hM:=hM.keep hK
 refine Zd hE Za ld rfl fun a hE=>Yt hE Za ld rfl rfl fun a hE=>Yt hE Za ld rfl rfl fun a hE=>ZF hE hM Za ld Yw fun b7 w a hM hE=>Ze hE Za ld rfl fun a hE=>Zm (seg:=enc r5.2) (cs':=enc r5.2) hE hM Za rfl rfl rfl Yw (Flat.len _) (zle flq) (Flat.cell _) (Zn flq) fun w a hM hE=>Zf (Zc (Zl (cs:=enc r5.2) hE Za ld rfl Yw rfl (hM.rawAt (pre:=[])) (Flat.len _) fun a hE=>Zd hE Za ld rfl fun a hE=>Zk hE Za ld rfl rfl (Hp r5.1 0) ?_)); intro a hE
 have hM:=hM.pull (pre:=[_])
 refine Zm (seg:=enc r5.2) (cs':=enc r5.2) hE hM Za rfl rfl rfl Yw (Flat.len _) (zle flq) (Flat.cell _) (Zn flq) fun w a hM hE=>Ze hE Za ld rfl fun a hE=>Zf ?_
 have hr:=Option.some.inj hF
 subst hr
 have hq9 : YD Try.prog _ _ (.cell 4 50) _:=ZW hE rfl Yw rfl (hM.rawAt (pre:=[])) (Flat.len _) rfl
 have hM:=M.fst (l:=[]) hM
 exact wp_ret (UM hE rfl hq9 (ZA hE rfl) ⟨_,rfl,rfl,hM.kept⟩)
def VA (p0 : GCipher) : Option (Bool) :=
 ((Ww p0.Field).bind fun r6=>if (!r6) = true then (some true) else ((VC p0.Box).bind fun r10=>if (!r10) = true then (some true) else ((WX p0.Places).bind fun r14=>if (!r14) = true then (some true) else ((W5 p0.Rounds 1 20).bind fun r18=>some (!r18)))) : Option (Bool)).bind fun j3=>if j3 = true then (some false) else ((Xo p0.Field p0.Mix).bind fun r22=>some r22.2)
theorem Jt (w0 : World) (p0 : GCipher) (r : Bool) (hF : VA p0 = some r) :
  Calls Try.prog 71 [(Value.agg (enc p0).toArray)].toArray w0 (fun en w'=>∃ v,en = .returned v ∧ (v = (vT r) ∧ Kept (Old w0) w0 w')):=by
 refine ZC (n:=36) Try.func71 rfl rfl (nbl rfl) rfl ?_
 intro a hE
 have hM:=M.start w0
 unfold VA at hF
 refine Zc (ZX (cs:=cat [[vI p0.Field],enc p0.Box,enc p0.Mix,enc p0.Places,[vI p0.Rounds]]) hE hM Za ld rfl rfl fun b1 w a hM hE=>Ze hE Za ld rfl fun a hE=>Zf (wp_seq ?_))
 obtain ⟨j3,hl4,hF5⟩:=bind_some hF
 refine ZL (fun a w=>Env 36 a [(1,(ptr b1 0)),(26,vT j3)] ∧ M (Old w0) w0 w [raw b1 (cat [[vI p0.Field],enc p0.Box,enc p0.Mix,enc p0.Places,[vI p0.Rounds]])]) ?_ ?_
 ·skip
  refine wp_region_lit (Zo hE Za ld rfl (Ud) fun a hE=>Zv (v:=(vI p0.Field)) hE Za ld rfl ty2 rfl (At.cat (pre:=[]) (hM.rawAt (pre:=[])) cl0) ?_); intro a hE
  obtain ⟨r6,e7,hl4⟩:=bind_some hl4
  refine Zq hE Za ld rfl cb43 (Kd _ p0.Field r6 e7) ?_
  rintro v w a ⟨rfl,hK⟩ hE
  have hM:=hM.keep hK
  refine UV hE Za ld rfl fun a hE=>Zd hE Za ld rfl ?_; intro a hE
  refine Va (!r6) (fun hb8=>?_) (fun hb8=>?_)
  ·have hl4:=Zw hl4 hb8
   refine Zy hE rfl (lkb rfl hb8) rfl (by decide) fun a hE=>Zy hE rfl (lkb rfl hb8) rfl (by decide) fun a hE=>Zy hE rfl (lkb rfl hb8) rfl (by decide) fun a hE=>Zy hE rfl (lkb rfl hb8) rfl (by decide) fun a hE=>Xx hE Za ld (lkb rfl hb8) rfl fun a hE=>Zd hE Za ld rfl fun a hE=>Zy hE rfl rfl rfl (by decide) fun a hE=>Zy hE rfl rfl rfl (by decide) fun a hE=>Zy hE rfl rfl rfl (by decide) fun a hE=>Zy hE rfl rfl rfl (by decide) fun a hE=>Xx hE Za ld rfl rfl fun a hE=>Zd hE Za ld rfl ?_; intro a hE
   refine Zy hE rfl rfl rfl (by decide) fun a hE=>Zy hE rfl rfl rfl (by decide) fun a hE=>Zy hE rfl rfl rfl (by decide) fun a hE=>Zy hE rfl rfl rfl (by decide) fun a hE=>Xx hE Za ld rfl rfl fun a hE=>Zi ?_
   have ht9:=Option.some.inj hl4
   subst ht9
   refine Zj ?_
   exact ⟨hE.sub ⟨rfl,rfl,trivial⟩,hM⟩
  ·have hl4:=Zx hl4 hb8
   refine Zo hE (Zz hE rfl (lkb rfl hb8)) (by decide) rfl (Ti) fun a hE=>Zl (cs:=enc p0.Box) hE (Zz hE rfl (lkb rfl hb8)) (by decide) rfl WO rfl (At.cat (pre:=[[vI p0.Field]]) (hM.rawAt (pre:=[])) (cl1 (n:=1) (m:=0) rfl cl0)) (Flat.len _) ?_; intro a hE
   obtain ⟨r10,e11,hl4⟩:=bind_some hl4
   refine Zq hE (Zz hE rfl (lkb rfl hb8)) (by decide) rfl cb113 (JC _ p0.Box r10 e11) ?_
   rintro v w a ⟨rfl,hK⟩ hE
   have hM:=hM.keep hK
   refine UV hE (Zz hE rfl (lkb rfl hb8)) (by decide) rfl fun a hE=>YO hE Za ld (lkb rfl hb8) rfl fun a hE=>Zd hE Za ld rfl ?_; intro a hE
   refine Va (!r10) (fun hb12=>?_) (fun hb12=>?_)
   ·have hl4:=Zw hl4 hb12
    refine Zy hE rfl (lkb rfl hb12) rfl (by decide) fun a hE=>Zy hE rfl (lkb rfl hb12) rfl (by decide) fun a hE=>Zy hE rfl (lkb rfl hb12) rfl (by decide) fun a hE=>Zy hE rfl (lkb rfl hb12) rfl (by decide) fun a hE=>Xx hE Za ld (lkb rfl hb12) rfl fun a hE=>Zd hE Za ld rfl fun a hE=>Zy hE rfl rfl rfl (by decide) fun a hE=>Zy hE rfl rfl rfl (by decide) fun a hE=>Zy hE rfl rfl rfl (by decide) fun a hE=>Zy hE rfl rfl rfl (by decide) fun a hE=>Xx hE Za ld rfl rfl fun a hE=>Zi ?_
    have ht13:=Option.some.inj hl4
    subst ht13
    refine Zj ?_
    exact ⟨hE.sub ⟨rfl,rfl,trivial⟩,hM⟩
   ·have hl4:=Zx hl4 hb12
    refine Zo hE (Zz hE rfl (lkb rfl hb12)) (by decide) rfl (TK) fun a hE=>Zl (cs:=enc p0.Places) hE (Zz hE rfl (lkb rfl hb12)) (by decide) rfl WZ rfl (At.cat (pre:=[[vI p0.Field],enc p0.Box,enc p0.Mix]) (hM.rawAt (pre:=[])) (cl1 (n:=1) (m:=272) rfl (cl1 (n:=256) (m:=16) (Flat.len _) (cl1 (n:=16) (m:=0) (Flat.len _) cl0)))) (Flat.len _) ?_; intro a hE
    obtain ⟨r14,e15,hl4⟩:=bind_some hl4
    refine Zq hE (Zz hE rfl (lkb rfl hb12)) (by decide) rfl cb114 (KZ _ p0.Places r14 e15) ?_
    rintro v w a ⟨rfl,hK⟩ hE
    have hM:=hM.keep hK
    refine UV hE (Zz hE rfl (lkb rfl hb12)) (by decide) rfl fun a hE=>YO hE Za ld (lkb rfl hb12) rfl fun a hE=>Zd hE Za ld rfl ?_; intro a hE
    refine Va (!r14) (fun hb16=>?_) (fun hb16=>?_)
    ·have hl4:=Zw hl4 hb16
     refine Zy hE rfl (lkb rfl hb16) rfl (by decide) fun a hE=>Zy hE rfl (lkb rfl hb16) rfl (by decide) fun a hE=>Zy hE rfl (lkb rfl hb16) rfl (by decide) fun a hE=>Zy hE rfl (lkb rfl hb16) rfl (by decide) fun a hE=>Xx hE Za ld (lkb rfl hb16) rfl fun a hE=>Zi ?_
     have ht17:=Option.some.inj hl4
     subst ht17
     refine Zj ?_
     exact ⟨hE.sub ⟨rfl,rfl,trivial⟩,hM⟩
    ·have hl4:=Zx hl4 hb16
     refine Zo hE (Zz hE rfl (lkb rfl hb16)) (by decide) rfl (TJ) fun a hE=>Zv (v:=(vI p0.Rounds)) hE (Zz hE rfl (lkb rfl hb16)) (by decide) rfl ty2 rfl (At.cat (pre:=[[vI p0.Field],enc p0.Box,enc p0.Mix,enc p0.Places]) (hM.rawAt (pre:=[])) (cl1 (n:=1) (m:=288) rfl (cl1 (n:=256) (m:=32) (Flat.len _) (cl1 (n:=16) (m:=16) (Flat.len _) (cl1 (n:=16) (m:=0) (Flat.len _) cl0))))) ?_; intro a hE
     obtain ⟨r18,e19,hl4⟩:=bind_some hl4
     refine Zq hE (Zz hE rfl (lkb rfl hb16)) (by decide) rfl cb82 (T5 _ p0.Rounds 1 20 r18 e19) ?_
     rintro v w a ⟨rfl,hK⟩ hE
     have hM:=hM.keep hK
     refine UV hE (Zz hE rfl (lkb rfl hb16)) (by decide) rfl fun a hE=>YO hE Za ld (lkb rfl hb16) rfl fun a hE=>Zi ?_
     have ht20:=Option.some.inj hl4
     subst ht20
     refine Zj ?_
     exact ⟨hE.sub ⟨rfl,rfl,trivial⟩,hM⟩
 ·skip
  rintro a w ⟨hE,hM⟩
  refine Zr hE rfl ?_ ?_
  ·intro hb21
   have hF5:=Zw hF5 hb21
   refine Zc (Ze hE Za ld rfl fun a hE=>Zf ?_)
   have hr:=Option.some.inj hF5
   subst hr
   have hM:=M.fst (l:=[]) hM
   exact wp_ret (ZH (ZD hE rfl (ZA hE rfl) ⟨_,rfl,rfl,hM.kept⟩))
  ·intro hb21
   have hF5:=Zx hF5 hb21
   refine wp_skip (Zt (Zc (Zo hE Za ld rfl (Ud) fun a hE=>Zv (v:=(vI p0.Field)) hE Za ld rfl ty2 rfl (At.cat (pre:=[]) (hM.rawAt (pre:=[])) cl0) fun a hE=>Zo hE Za ld rfl (TV) fun a hE=>Zl (cs:=enc p0.Mix) hE Za ld rfl Yw rfl (At.cat (pre:=[[vI p0.Field],enc p0.Box]) (hM.rawAt (pre:=[])) (cl1 (n:=1) (m:=256) rfl (cl1 (n:=256) (m:=0) (Flat.len _) cl0))) (Flat.len _) ?_))); intro a hE
   obtain ⟨r22,e23,hF5⟩:=bind_some hF5
   refine Zq hE Za ld rfl cb115 (Un _ p0.Field p0.Mix r22 e23) ?_
   rintro v w a ⟨rfl,hK⟩ hE
   have hM:=hM.keep hK
   refine Zd hE Za ld rfl fun a hE=>Yt hE Za ld rfl rfl fun a hE=>Yt hE Za ld rfl rfl fun a hE=>ZF hE hM Za ld Yw fun b24 w a hM hE=>Zm (seg:=enc r22.1) (cs':=enc r22.1) hE hM Za rfl rfl rfl Yw (Flat.len _) (zle flq) (Flat.cell _) (Zn flq) fun w a hM hE=>Ze hE Za ld rfl fun a hE=>Zf (Zc (Zd hE Za ld rfl fun a hE=>Ze hE Za ld rfl fun a hE=>Zf ?_))
   have hr:=Option.some.inj hF5
   subst hr
   have hM:=M.fst (l:=[]) hM
   exact wp_ret (ZD hE rfl (ZA hE rfl) ⟨_,rfl,rfl,hM.kept⟩)
def XO (p0 : (Vector UInt8 256)) (p2 : Int) (s10 : (Vector UInt8 16) × Int) : Option (Fl ((Vector UInt8 16) × Int) (Vector UInt8 16)) :=
 if (decide (s10.2 < 16)) = true then (((Zs s10.1 (Int.tmod (wr (s10.2 + 15)) 16)).bind fun x19=>(if (s10.2 == 0) = true then (some (x19 ^^^ (ZO p2))) else (some x19) : Option (UInt8)).bind fun j21=>(Zs s10.1 s10.2).bind fun x29=>(Zs p0 (bI j21)).bind fun x32=>(Zs s10.1 s10.2).bind fun x35=>some (s10.1.setIfInBounds (s10.2).toNat (x29 ^^^ x32)) : Option ((Vector UInt8 16))).bind fun j15=>some (Fl.nx (j15,wr (s10.2 + 1)))) else (some (Fl.ex s10.1))
def WL (p0 : (Vector UInt8 256)) (p1 : (Vector UInt8 16)) (p2 : Int) : Option ((Vector UInt8 16)) :=
 (ZB (XO p0 p2) (p1,0)).bind fun j7=>some j7
theorem KQ (w0 : World) (p0 : (Vector UInt8 256)) (p1 : (Vector UInt8 16)) (p2 : Int) (r : (Vector UInt8 16)) (hF : WL p0 p1 p2 = some r) :
  Calls Try.prog 150 [(Value.agg (enc p0).toArray),(Value.agg (enc p1).toArray),vI p2].toArray w0 (fun en w'=>∃ v,en = .returned v ∧ (v = (Value.agg (enc r).toArray) ∧ Kept (Old w0) w0 w')):=by
 refine ZC (n:=34) Try.func150 rfl rfl (nbl rfl) rfl ?_
 intro a hE
 have hM:=M.start w0
 unfold WL at hF
 refine Zc (ZX (cs:=enc p0) hE hM Za ld rfl rfl fun b1 w a hM hE=>ZX (cs:=enc p1) hE hM Za ld rfl rfl fun b3 w a hM hE=>ZF hE hM Za ld ZG fun b5 w a hM hE=>Zf (wp_seq (Zc (Ze hE Za ld rfl fun a hE=>Zf ?_))))
 obtain ⟨j7,hl8,hF9⟩:=bind_some hF
 refine ZP (fun a w=>Env 34 a [(4,(ptr b3 0)),(6,(ptr b5 0))] ∧ M (Old w0) w0 w [raw b5 (enc (Vector.replicate 16 (0 : UInt8))),raw b3 (enc j7)]) ?_ ?_
 ·skip
  refine wp_block ?_
  refine ZJ (fun (s10 : (Vector UInt8 16) × Int) a w=>Env 34 a [(2,vI p2),(3,(ptr b1 0)),(4,(ptr b3 0)),(6,(ptr b5 0)),(7,vI s10.2)] ∧ M (Old w0) w0 w [raw b5 (enc (Vector.replicate 16 (0 : UInt8))),raw b3 (enc s10.1),raw b1 (enc p0)]) hl8 ⟨hE.sub ⟨rfl,rfl,rfl,rfl,rfl,trivial⟩,hM⟩ ?_
  rintro s10 a w ⟨hE,hM⟩ o13 hs11 hx12
  unfold XO at hs11
  refine wp_seq (Zc (Zd hE Za ld rfl fun a hE=>Zk hE Za ld rfl rfl rfl fun a hE=>Zf ?_))
  refine Zr hE rfl ?_ ?_
  ·intro hb14
   have hs11:=Zw hs11 hb14
   refine wp_skip (Zt ?_)
   obtain ⟨j15,hl16,hF17⟩:=bind_some hs11
   refine ZL (fun a w=>Env 34 a [(2,vI p2),(3,(ptr b1 0)),(4,(ptr b3 0)),(6,(ptr b5 0)),(7,vI s10.2)] ∧ M (Old w0) w0 w [raw b5 (enc (Vector.replicate 16 (0 : UInt8))),raw b3 (enc j15),raw b1 (enc p0)]) ?_ ?_
   ·skip
    refine wp_block (Zc (Zd hE Za ld rfl fun a hE=>Zk hE Za ld rfl rfl rfl fun a hE=>Zk hE Za ld rfl rfl (JP _ _ (by decide)) ?_)); intro a hE
    obtain ⟨x19,hi18,hl16⟩:=bvx hl16
    refine Zg hE Za ld rfl rfl Try.underlying55 ty5 hi18.1 fun a hE=>Zv (v:=(vB x19)) hE Za ld rfl ty5 rfl (At.vec (hM.rawAt (pre:=[_])) hi18.2) fun a hE=>Ze hE Za ld rfl fun a hE=>Zf ?_
    obtain ⟨j21,hl22,hF23⟩:=bind_some hl16
    refine ZL (fun a w=>Env 34 a [(2,vI p2),(3,(ptr b1 0)),(4,(ptr b3 0)),(6,(ptr b5 0)),(7,vI s10.2),(8,vB j21)] ∧ M (Old w0) w0 w [raw b5 (enc (Vector.replicate 16 (0 : UInt8))),raw b3 (enc s10.1),raw b1 (enc p0)]) ?_ ?_
    ·skip
     refine Zc (Zd hE Za ld rfl fun a hE=>Zk hE Za ld rfl rfl rfl fun a hE=>Zf ?_)
     refine Zr hE rfl ?_ ?_
     ·intro hb24
      have hl22:=Zw hl22 hb24
      refine wp_region_lit (Zd hE Za ld rfl fun a hE=>Zd hE Za ld rfl fun a hE=>Ve hE Za ld rfl Try.underlying2 Try.underlying5 ?_); intro a hE
      rw [XH] at hE
      refine Zk hE Za ld rfl rfl (Vc x19 (ZO p2)) fun a hE=>Ze hE Za ld rfl fun a hE=>Zi ?_
      have ht25:=Option.some.inj hl22
      subst ht25
      refine Zj ?_
      exact ⟨hE.sub ⟨rfl,rfl,rfl,rfl,rfl,rfl,trivial⟩,hM⟩
     ·intro hb24
      have hl22:=Zx hl22 hb24
      refine wp_skip ?_
      have ht26:=Option.some.inj hl22
      subst ht26
      refine Zj ?_
      exact ⟨hE.sub ⟨rfl,rfl,rfl,rfl,rfl,rfl,trivial⟩,hM⟩
    ·skip
     rintro a w ⟨hE,hM⟩
     obtain ⟨x29,hi28,hF23⟩:=bvx hF23
     obtain ⟨x32,hi31,hF23⟩:=bvx hF23
     obtain ⟨x35,hi34,hF23⟩:=bvx hF23
     refine Yd (n:=34) (hd:=[_,_,_,_,_,_,_,_,_]) (tl:=[_]) YR rfl rfl [24,25,26,27,28,29,30,31,32] (by decide) (fun w=>M (Old w0) w0 w [raw b5 (enc (Vector.replicate 16 (0 : UInt8))),raw b3 (enc s10.1),raw b1 (enc p0)]) (fun j=>([fun v _=>v = (vI s10.2),fun v _=>v = (vI s10.2),fun v _=>v = (ptr b3 (0 + (s10.2).toNat * 1)),fun v _=>v = (vB x29),fun v _=>v = (vB j21),fun v _=>v = (ptr b1 (0 + ((bI j21)).toNat * 1)),fun v _=>v = (vB x32),fun v _=>v = (vB (x29 ^^^ x32)),fun v _=>v = (ptr b3 (0 + (s10.2).toNat * 1))] : List (Value → World → Prop)).getD j (fun _ _=>True)) (fun _ _ h hk=>h.keep hk) (gup (Zh (Zh (Zh (Zh (Zh (Zh (Zh (Zh (Zh WV)))))))))) hE hM.drew (ZK (Zb ?_ (Zb ?_ (Zb ?_ (Zb ?_ (Zb ?_ (Zb ?_ (Zb ?_ (Zb ?_ (Zb ?_ ZE)))))))))) ?_
     ·exact fun a w ux27 hE hM hp=>Zd hE Za ld rfl fun a hE=>⟨Kept.refl _ _,_,_,rfl,hE,rfl⟩
     ·exact fun a w ux27 hE hM hp=>Zd hE Za ld rfl fun a hE=>⟨Kept.refl _ _,_,_,rfl,hE,rfl⟩
     ·intro a w ux27 hE hM hp
      have f1 : ux27 1 = (vI s10.2):=hp 0 _ rfl rfl
      exact Zg hE Za ld rfl (lk rfl f1) Try.underlying55 ty5 hi28.1 fun a hE=>⟨Kept.refl _ _,_,_,rfl,hE,rfl⟩
     ·intro a w ux27 hE hM hp
      have f2 : ux27 2 = (ptr b3 (0 + (s10.2).toNat * 1)):=hp 0 _ rfl rfl
      exact Zv (v:=(vB x29)) hE Za ld (lk rfl f2) ty5 rfl (At.vec (hM.rawAt (pre:=[_])) hi28.2) fun a hE=>⟨Kept.refl _ _,_,_,rfl,hE,rfl⟩
     ·exact fun a w ux27 hE hM hp=>Zd hE Za ld rfl fun a hE=>⟨Kept.refl _ _,_,_,rfl,hE,rfl⟩
     ·intro a w ux27 hE hM hp
      have f4 : ux27 4 = (vB j21):=hp 0 _ rfl rfl
      exact Zg hE Za ld rfl (lk rfl f4) Try.underlying49 ty5 hi31.1 fun a hE=>⟨Kept.refl _ _,_,_,rfl,hE,rfl⟩
     ·intro a w ux27 hE hM hp
      have f5 : ux27 5 = (ptr b1 (0 + ((bI j21)).toNat * 1)):=hp 0 _ rfl rfl
      exact Zv (v:=(vB x32)) hE Za ld (lk rfl f5) ty5 rfl (At.vec (hM.rawAt (pre:=[_,_])) hi31.2) fun a hE=>⟨Kept.refl _ _,_,_,rfl,hE,rfl⟩
     ·intro a w ux27 hE hM hp
      have f3 : ux27 3 = (vB x29):=hp 0 _ rfl rfl
      have f6 : ux27 6 = (vB x32):=hp 1 _ rfl rfl
      exact Zk hE Za ld (lk rfl f3) (lk rfl f6) (Vc x29 x32) fun a hE=>⟨Kept.refl _ _,_,_,rfl,hE,rfl⟩
     ·intro a w ux27 hE hM hp
      have f0 : ux27 0 = (vI s10.2):=hp 0 _ rfl rfl
      exact Zg hE Za ld rfl (lk rfl f0) Try.underlying55 ty5 hi34.1 fun a hE=>⟨Kept.refl _ _,_,_,rfl,hE,rfl⟩
     ·intro a w ux27 hE hM hg
      have hE:=hE.sub (e':=[(31,(vB (x29 ^^^ x32))),(32,(ptr b3 (0 + (s10.2).toNat * 1))),(2,vI p2),(3,(ptr b1 0)),(4,(ptr b3 0)),(6,(ptr b5 0)),(7,vI s10.2),(8,vB j21)]) ⟨lk rfl (hg 7 (by decide)),lk rfl (hg 8 (by decide)),rfl,rfl,rfl,rfl,rfl,rfl,trivial⟩
      have hM:=hM.pull (pre:=[_])
      refine Zm (seg:=[(vB (x29 ^^^ x32))]) (cs':=enc (s10.1.setIfInBounds (s10.2).toNat (x29 ^^^ x32))) hE hM Za rfl rfl rfl ty5 rfl (ZI (v:=s10.1) (x:=x29 ^^^ x32) hi34.1) (Flat.cell (x29 ^^^ x32 : UInt8)) (Zu (v:=s10.1) (x:=x29 ^^^ x32) hi34.1) fun w a hM hE=>Zi (Yi ?_)
      have ht37:=Option.some.inj hF23
      subst ht37
      refine Zj ?_
      have hM:=((hM.pull (pre:=[_,_])).pull (pre:=[_])).pull (pre:=[_,_])
      exact ⟨hE.sub ⟨rfl,rfl,rfl,rfl,rfl,trivial⟩,hM⟩
   ·skip
    rintro a w ⟨hE,hM⟩
    refine wp_region_lit (Zd hE Za ld rfl fun a hE=>Zk hE Za ld rfl rfl rfl fun a hE=>Ze hE Za ld rfl fun a hE=>Zi (Zj ?_))
    exact ⟨_,(ois hF17),hE.sub ⟨rfl,rfl,rfl,rfl,rfl,trivial⟩,hM⟩
  ·intro hb14
   have hs11:=Zx hs11 hb14
   refine wp_exit (Zp (Zp (Yj ?_)))
   have ht38:=hx12 _ (ois hs11)
   subst ht38
   refine Zj ?_
   have hM:=M.fst (l:=[_,_]) ((hM.pull (pre:=[_])).pull (pre:=[_]))
   exact ⟨hE.sub ⟨rfl,rfl,trivial⟩,hM⟩
 ·skip
  rintro a w ⟨hE,hM⟩
  refine Zt (Zc (Zl (cs:=enc j7) hE Za ld rfl ZG rfl (hM.rawAt (pre:=[_])) (Flat.len _) fun a hE=>Zm (seg:=enc j7) (cs':=enc j7) hE hM Za rfl rfl rfl ZG (Flat.len _) (zle flq) (Flat.cell _) (Zn flq) fun w a hM hE=>Zf ?_))
  have hr:=Option.some.inj hF9
  subst hr
  have hq39 : YD Try.prog _ _ (.cell 6 55) _:=ZW hE rfl ZG rfl (hM.rawAt (pre:=[])) (Flat.len _) rfl
  have hM:=M.fst (l:=[]) hM
  exact wp_ret (ZD hE rfl hq39 ⟨_,rfl,rfl,hM.kept⟩)
def XW (p0 : GCipher) (p2 : Int) (s12 : (Vector UInt8 16) × (List (Vector UInt8 16)) × Int) : Option (Fl ((Vector UInt8 16) × (List (Vector UInt8 16)) × Int) (List (Vector UInt8 16))) :=
 if (decide (s12.2.2 ≤ p2)) = true then ((WL p0.Box s12.1 s12.2.2).bind fun r19=>(app 16 s12.2.1 ([r19] : List (Vector UInt8 16))).bind fun l23=>some (Fl.nx (r19,(s12.2.1 ++ ([r19] : List (Vector UInt8 16))),wr (s12.2.2 + 1)))) else (some (Fl.ex s12.2.1))
def Wb (p0 : GCipher) (p1 : (Vector UInt8 16)) (p2 : Int) : Option ((List (Vector UInt8 16))) :=
 (ZB (XW p0 p2) (p1,([p1] : List (Vector UInt8 16)),1)).bind fun j7=>some j7
theorem Tb (w0 : World) (p0 : GCipher) (p1 : (Vector UInt8 16)) (p2 : Int) (r : (List (Vector UInt8 16))) (hF : Wb p0 p1 p2 = some r) :
  Calls Try.prog 116 [(Value.agg (enc p0).toArray),(Value.agg (enc p1).toArray),vI p2].toArray w0 (fun en w'=>∃ v,en = .returned v ∧ (∃ (y1 : Value),v = y1 ∧ Fr w0 w' [osl NoB (r : List (Vector UInt8 16)) y1] ∧ Kept (Old w0) w0 w')):=by
 refine ZC (n:=26) Try.func116 rfl rfl (nbl rfl) rfl ?_
 intro a hE
 have hM:=M.start w0
 unfold Wb at hF
 refine Zc (ZX (cs:=cat [[vI p0.Field],enc p0.Box,enc p0.Mix,enc p0.Places,[vI p0.Rounds]]) hE hM Za ld rfl rfl fun b1 w a hM hE=>ZX (cs:=enc p1) hE hM Za ld rfl rfl fun b3 w a hM hE=>Ze hE Za ld rfl fun a hE=>Zf (Zc (Zl (cs:=enc p1) hE Za ld rfl ZG rfl (hM.rawAt (pre:=[])) (Flat.len _) fun a hE=>WS (xs:=[.tmp 9]) (l:=([p1] : List (Vector UInt8 16))) (vs:=[(Value.agg (enc p1).toArray)]) hE hM Za ld rfl rfl Try.underlying69 ZG rfl (by decide) rfl fun u5 w a hM hE=>Ze hE Za ld rfl fun a hE=>Zf (wp_seq (Zc (Ze hE Za ld rfl fun a hE=>Zf ?_))))))
 obtain ⟨j7,hl8,hF9⟩:=bind_some hF
 refine ZP (fun a w=>∃ (u10 : Value),Env 26 a [(7,u10)] ∧ M (Old w0) w0 w [osl NoB (j7 : List (Vector UInt8 16)) u10]) ?_ ?_
 ·skip
  refine wp_block ?_
  have hM:=(hM.pull (pre:=[_,_])).pull (pre:=[_,_])
  refine ZJ (fun (s12 : (Vector UInt8 16) × (List (Vector UInt8 16)) × Int) a w=>∃ (u13 : Value),Env 26 a [(2,vI p2),(3,(ptr b1 0)),(4,(ptr b3 0)),(7,u13),(8,vI s12.2.2)] ∧ M (Old w0) w0 w [raw b3 (enc s12.1),raw b1 (cat [[vI p0.Field],enc p0.Box,enc p0.Mix,enc p0.Places,[vI p0.Rounds]]),osl NoB (s12.2.1 : List (Vector UInt8 16)) u13]) hl8 ⟨u5,hE.sub ⟨rfl,rfl,rfl,rfl,rfl,trivial⟩,hM⟩ ?_
  rintro s12 a w ⟨u13,hE,hM⟩ o17 hs15 hx16
  unfold XW at hs15
  refine wp_seq (Zc (Zd hE Za ld rfl fun a hE=>Zd hE Za ld rfl fun a hE=>Zk hE Za ld rfl rfl rfl fun a hE=>Zf ?_))
  refine Zr hE rfl ?_ ?_
  ·intro hb18
   have hs15:=Zw hs15 hb18
   refine wp_skip (Zt (wp_seq (wp_block (Zc (Zo hE Za ld rfl (Ti) fun a hE=>Zl (cs:=enc p0.Box) hE Za ld rfl WO rfl (At.cat (pre:=[[vI p0.Field]]) (hM.rawAt (pre:=[_])) (cl1 (n:=1) (m:=0) rfl cl0)) (Flat.len _) fun a hE=>Zl (cs:=enc s12.1) hE Za ld rfl ZG rfl (hM.rawAt (pre:=[])) (Flat.len _) fun a hE=>Zd hE Za ld rfl ?_))))); intro a hE
   obtain ⟨r19,e20,hs15⟩:=bind_some hs15
   refine Zq hE Za ld rfl cb150 (KQ _ p0.Box s12.1 s12.2.2 r19 e20) ?_
   rintro v w a ⟨rfl,hK⟩ hE
   have hM:=hM.keep hK
   refine Zm (seg:=enc r19) (cs':=enc r19) hE hM Za rfl rfl rfl ZG (Flat.len _) (zle flq) (Flat.cell _) (Zn flq) fun w a hM hE=>Zf (wp_region_lit (Zd hE Za ld rfl fun a hE=>Zl (cs:=enc r19) hE Za ld rfl ZG rfl (hM.rawAt (pre:=[])) (Flat.len _) fun a hE=>WS (xs:=[.tmp 22]) (l:=([r19] : List (Vector UInt8 16))) (vs:=[(Value.agg (enc r19).toArray)]) hE hM Za ld rfl rfl Try.underlying69 ZG rfl (by decide) rfl ?_)); intro u21 w a hM hE
   obtain ⟨l23,e24,hs15⟩:=bind_some hs15
   obtain ⟨e27,rfl⟩:=UD e24
   have hM:=hM.pull (pre:=[_,_,_])
   refine V9 hE hM Za ld rfl rfl (hM.sl (pre:=[_]) noB) Try.underlying69 ZG rfl (by decide) e27 fun u25 w a hM hE=>Ze hE Za ld rfl fun a hE=>Zi (Yi (Zt (wp_region_lit (Zd hE Za ld rfl fun a hE=>Zk hE Za ld rfl rfl rfl fun a hE=>Ze hE Za ld rfl fun a hE=>Zi (Zj ?_)))))
   have hM:=M.fst (l:=[_,_,_]) ((hM.pull (pre:=[_,_,_])).pull (pre:=[_,_,_]))
   exact ⟨_,(ois hs15),u25,hE.sub ⟨rfl,rfl,rfl,rfl,rfl,trivial⟩,hM⟩
  ·intro hb18
   have hs15:=Zx hs15 hb18
   refine wp_exit (Zp (Zp (Yj ?_)))
   have ht28:=hx16 _ (ois hs15)
   subst ht28
   refine Zj ?_
   have hM:=M.fst (l:=[_]) (hM.pull (pre:=[_,_]))
   exact ⟨u13,hE.sub ⟨rfl,trivial⟩,hM⟩
 ·skip
  rintro a w ⟨u10,hE,hM⟩
  refine Zt (Zc (Zd hE Za ld rfl fun a hE=>Ze hE Za ld rfl fun a hE=>Zf ?_))
  have hr:=Option.some.inj hF9
  subst hr
  exact wp_ret (ZD hE rfl (ZA hE rfl) ⟨_,rfl,u10,rfl,hM.outF (Jf QZ),hM.kept⟩)
def YW (p0 : (Vector UInt8 256)) (s10 : (Vector UInt8 256) × Int) : Option (Fl ((Vector UInt8 256) × Int) (Vector UInt8 256)) :=
 if (decide (s10.2 < 256)) = true then ((Zs p0 s10.2).bind fun x16=>(Zs s10.1 (bI x16)).bind fun x19=>some (Fl.nx ((s10.1.setIfInBounds ((bI x16)).toNat (ZO s10.2)),wr (s10.2 + 1)))) else (some (Fl.ex s10.1))
def XZ (p0 : (Vector UInt8 256)) : Option ((Vector UInt8 256)) :=
 (ZB (YW p0) ((Vector.replicate 256 (0 : UInt8)),0)).bind fun j7=>some j7
theorem Qd (w0 : World) (p0 : (Vector UInt8 256)) (r : (Vector UInt8 256)) (hF : XZ p0 = some r) :
  Calls Try.prog 117 [(Value.agg (enc p0).toArray)].toArray w0 (fun en w'=>∃ v,en = .returned v ∧ (v = (Value.agg (enc r).toArray) ∧ Kept (Old w0) w0 w')):=by
 refine ZC (n:=17) Try.func117 rfl rfl (nbl rfl) rfl ?_
 intro a hE
 have hM:=M.start w0
 unfold XZ at hF
 refine Zc (ZX (cs:=enc p0) hE hM Za ld rfl rfl fun b1 w a hM hE=>ZF hE hM Za ld WO fun b3 w a hM hE=>Zf (Zc (YP (parts:=[]) (vs:=[]) (cs:=enc (Vector.replicate 256 (0 : UInt8))) hE Za ld rfl rfl WO rfl ty5 Yr fun a hE=>ZF hE hM Za ld WO fun b5 w a hM hE=>Zm (seg:=enc (Vector.replicate 256 (0 : UInt8))) (cs':=enc (Vector.replicate 256 (0 : UInt8))) hE hM Za rfl rfl rfl WO (Flat.len _) (zle flq) (Flat.cell _) (Zn flq) fun w a hM hE=>Zf (wp_seq (Zc (Ze hE Za ld rfl fun a hE=>Zf ?_))))))
 obtain ⟨j7,hl8,hF9⟩:=bind_some hF
 refine ZP (fun a w=>Env 17 a [(2,(ptr b3 0)),(3,(ptr b5 0))] ∧ M (Old w0) w0 w [raw b5 (enc j7),raw b3 (enc (Vector.replicate 256 (0 : UInt8)))]) ?_ ?_
 ·skip
  refine wp_block ?_
  refine ZJ (fun (s10 : (Vector UInt8 256) × Int) a w=>Env 17 a [(1,(ptr b1 0)),(2,(ptr b3 0)),(3,(ptr b5 0)),(4,vI s10.2)] ∧ M (Old w0) w0 w [raw b5 (enc s10.1),raw b3 (enc (Vector.replicate 256 (0 : UInt8))),raw b1 (enc p0)]) hl8 ⟨hE.sub ⟨rfl,rfl,rfl,rfl,trivial⟩,hM⟩ ?_
  rintro s10 a w ⟨hE,hM⟩ o13 hs11 hx12
  unfold YW at hs11
  refine wp_seq (Zc (Zd hE Za ld rfl fun a hE=>Zk hE Za ld rfl rfl rfl fun a hE=>Zf ?_))
  refine Zr hE rfl ?_ ?_
  ·intro hb14
   have hs11:=Zw hs11 hb14
   refine wp_skip (Zt (wp_seq (wp_block (wp_region_lit (Zd hE Za ld rfl ?_))))); intro a hE
   obtain ⟨x16,hi15,hs11⟩:=bvx hs11
   refine Zg hE Za ld rfl rfl Try.underlying49 ty5 hi15.1 fun a hE=>Zv (v:=(vB x16)) hE Za ld rfl ty5 rfl (At.vec (hM.rawAt (pre:=[_,_])) hi15.2) fun a hE=>Zd hE Za ld rfl fun a hE=>Ve hE Za ld rfl Try.underlying3 Try.underlying5 ?_; intro a hE
   rw [XH] at hE
   obtain ⟨x19,hi18,hs11⟩:=bvx hs11
   refine Zg hE Za ld rfl rfl Try.underlying49 ty5 hi18.1 fun a hE=>Zm (seg:=[(vB (ZO s10.2))]) (cs':=enc (s10.1.setIfInBounds ((bI x16)).toNat (ZO s10.2))) hE hM Za rfl rfl rfl ty5 rfl (ZI (v:=s10.1) (x:=ZO s10.2) hi18.1) (Flat.cell (ZO s10.2 : UInt8)) (Zu (v:=s10.1) (x:=ZO s10.2) hi18.1) fun w a hM hE=>Zi (Yi (Zt (wp_region_lit (Zd hE Za ld rfl fun a hE=>Zk hE Za ld rfl rfl rfl fun a hE=>Ze hE Za ld rfl fun a hE=>Zi (Zj ?_)))))
   exact ⟨_,(ois hs11),hE.sub ⟨rfl,rfl,rfl,rfl,trivial⟩,hM⟩
  ·intro hb14
   have hs11:=Zx hs11 hb14
   refine wp_exit (Zp (Zp (Yj ?_)))
   have ht21:=hx12 _ (ois hs11)
   subst ht21
   refine Zj ?_
   have hM:=M.fst (l:=[_,_]) ((hM.pull (pre:=[_])).pull (pre:=[_]))
   exact ⟨hE.sub ⟨rfl,rfl,trivial⟩,hM⟩
 ·skip
  rintro a w ⟨hE,hM⟩
  refine Zt (Zc (Zl (cs:=enc j7) hE Za ld rfl WO rfl (hM.rawAt (pre:=[])) (Flat.len _) ?_)); intro a hE
  have hM:=hM.pull (pre:=[_])
  refine Zm (seg:=enc j7) (cs':=enc j7) hE hM Za rfl rfl rfl WO (Flat.len _) (zle flq) (Flat.cell _) (Zn flq) fun w a hM hE=>Zf ?_
  have hr:=Option.some.inj hF9
  subst hr
  have hq22 : YD Try.prog _ _ (.cell 2 49) _:=ZW hE rfl WO rfl (hM.rawAt (pre:=[])) (Flat.len _) rfl
  have hM:=M.fst (l:=[]) hM
  exact wp_ret (ZD hE rfl hq22 ⟨_,rfl,rfl,hM.kept⟩)
def Wl (p1 : (Vector UInt8 16)) (s10 : (Vector UInt8 16) × Int) : Option (Fl ((Vector UInt8 16) × Int) (Vector UInt8 16)) :=
 if (decide (s10.2 < 16)) = true then ((Zs s10.1 s10.2).bind fun x17=>(Zs p1 s10.2).bind fun x20=>(Zs s10.1 s10.2).bind fun x23=>some (Fl.nx ((s10.1.setIfInBounds (s10.2).toNat (x17 ^^^ x20)),wr (s10.2 + 1)))) else (some (Fl.ex s10.1))
def XA (p0 : (Vector UInt8 16)) (p1 : (Vector UInt8 16)) : Option ((Vector UInt8 16)) :=
 (ZB (Wl p1) (p0,0)).bind fun j7=>some j7
theorem VM (w0 : World) (p0 : (Vector UInt8 16)) (p1 : (Vector UInt8 16)) (r : (Vector UInt8 16)) (hF : XA p0 p1 = some r) :
  Calls Try.prog 118 [(Value.agg (enc p0).toArray),(Value.agg (enc p1).toArray)].toArray w0 (fun en w'=>∃ v,en = .returned v ∧ (v = (Value.agg (enc r).toArray) ∧ Kept (Old w0) w0 w')):=by
 refine ZC (n:=20) Try.func118 rfl rfl (nbl rfl) rfl ?_
 intro a hE
 have hM:=M.start w0
 unfold XA at hF
 refine Zc (ZX (cs:=enc p0) hE hM Za ld rfl rfl fun b1 w a hM hE=>ZX (cs:=enc p1) hE hM Za ld rfl rfl fun b3 w a hM hE=>ZF hE hM Za ld ZG fun b5 w a hM hE=>Zf (wp_seq (Zc (Ze hE Za ld rfl fun a hE=>Zf ?_))))
 obtain ⟨j7,hl8,hF9⟩:=bind_some hF
 refine ZP (fun a w=>Env 20 a [(2,(ptr b1 0)),(4,(ptr b5 0))] ∧ M (Old w0) w0 w [raw b5 (enc (Vector.replicate 16 (0 : UInt8))),raw b1 (enc j7)]) ?_ ?_
 ·skip
  refine wp_block ?_
  refine ZJ (fun (s10 : (Vector UInt8 16) × Int) a w=>Env 20 a [(2,(ptr b1 0)),(3,(ptr b3 0)),(4,(ptr b5 0)),(5,vI s10.2)] ∧ M (Old w0) w0 w [raw b5 (enc (Vector.replicate 16 (0 : UInt8))),raw b3 (enc p1),raw b1 (enc s10.1)]) hl8 ⟨hE.sub ⟨rfl,rfl,rfl,rfl,trivial⟩,hM⟩ ?_
  rintro s10 a w ⟨hE,hM⟩ o13 hs11 hx12
  unfold Wl at hs11
  refine wp_seq (Zc (Zd hE Za ld rfl fun a hE=>Zk hE Za ld rfl rfl rfl fun a hE=>Zf ?_))
  refine Zr hE rfl ?_ ?_
  ·intro hb14
   have hs11:=Zw hs11 hb14
   refine wp_skip (Zt (wp_seq (wp_block ?_)))
   obtain ⟨x17,hi16,hs11⟩:=bvx hs11
   obtain ⟨x20,hi19,hs11⟩:=bvx hs11
   obtain ⟨x23,hi22,hs11⟩:=bvx hs11
   refine Yd (n:=20) (hd:=[_,_,_,_,_,_,_,_,_]) (tl:=[_]) YR rfl rfl [10,11,12,13,14,15,16,17,18] (by decide) (fun w=>M (Old w0) w0 w [raw b5 (enc (Vector.replicate 16 (0 : UInt8))),raw b3 (enc p1),raw b1 (enc s10.1)]) (fun j=>([fun v _=>v = (vI s10.2),fun v _=>v = (vI s10.2),fun v _=>v = (ptr b1 (0 + (s10.2).toNat * 1)),fun v _=>v = (vB x17),fun v _=>v = (vI s10.2),fun v _=>v = (ptr b3 (0 + (s10.2).toNat * 1)),fun v _=>v = (vB x20),fun v _=>v = (vB (x17 ^^^ x20)),fun v _=>v = (ptr b1 (0 + (s10.2).toNat * 1))] : List (Value → World → Prop)).getD j (fun _ _=>True)) (fun _ _ h hk=>h.keep hk) (gup (Zh (Zh (Zh (Zh (Zh (Zh (Zh (Zh (Zh WV)))))))))) hE hM.drew (ZK (Zb ?_ (Zb ?_ (Zb ?_ (Zb ?_ (Zb ?_ (Zb ?_ (Zb ?_ (Zb ?_ (Zb ?_ ZE)))))))))) ?_
   ·exact fun a w ux15 hE hM hp=>Zd hE Za ld rfl fun a hE=>⟨Kept.refl _ _,_,_,rfl,hE,rfl⟩
   ·exact fun a w ux15 hE hM hp=>Zd hE Za ld rfl fun a hE=>⟨Kept.refl _ _,_,_,rfl,hE,rfl⟩
   ·intro a w ux15 hE hM hp
    have f1 : ux15 1 = (vI s10.2):=hp 0 _ rfl rfl
    exact Zg hE Za ld rfl (lk rfl f1) Try.underlying55 ty5 hi16.1 fun a hE=>⟨Kept.refl _ _,_,_,rfl,hE,rfl⟩
   ·intro a w ux15 hE hM hp
    have f2 : ux15 2 = (ptr b1 (0 + (s10.2).toNat * 1)):=hp 0 _ rfl rfl
    exact Zv (v:=(vB x17)) hE Za ld (lk rfl f2) ty5 rfl (At.vec (hM.rawAt (pre:=[_,_])) hi16.2) fun a hE=>⟨Kept.refl _ _,_,_,rfl,hE,rfl⟩
   ·exact fun a w ux15 hE hM hp=>Zd hE Za ld rfl fun a hE=>⟨Kept.refl _ _,_,_,rfl,hE,rfl⟩
   ·intro a w ux15 hE hM hp
    have f4 : ux15 4 = (vI s10.2):=hp 0 _ rfl rfl
    exact Zg hE Za ld rfl (lk rfl f4) Try.underlying55 ty5 hi19.1 fun a hE=>⟨Kept.refl _ _,_,_,rfl,hE,rfl⟩
   ·intro a w ux15 hE hM hp
    have f5 : ux15 5 = (ptr b3 (0 + (s10.2).toNat * 1)):=hp 0 _ rfl rfl
    exact Zv (v:=(vB x20)) hE Za ld (lk rfl f5) ty5 rfl (At.vec (hM.rawAt (pre:=[_])) hi19.2) fun a hE=>⟨Kept.refl _ _,_,_,rfl,hE,rfl⟩
   ·intro a w ux15 hE hM hp
    have f3 : ux15 3 = (vB x17):=hp 0 _ rfl rfl
    have f6 : ux15 6 = (vB x20):=hp 1 _ rfl rfl
    exact Zk hE Za ld (lk rfl f3) (lk rfl f6) (Vc x17 x20) fun a hE=>⟨Kept.refl _ _,_,_,rfl,hE,rfl⟩
   ·intro a w ux15 hE hM hp
    have f0 : ux15 0 = (vI s10.2):=hp 0 _ rfl rfl
    exact Zg hE Za ld rfl (lk rfl f0) Try.underlying55 ty5 hi22.1 fun a hE=>⟨Kept.refl _ _,_,_,rfl,hE,rfl⟩
   ·intro a w ux15 hE hM hg
    have hE:=hE.sub (e':=[(17,(vB (x17 ^^^ x20))),(18,(ptr b1 (0 + (s10.2).toNat * 1))),(2,(ptr b1 0)),(3,(ptr b3 0)),(4,(ptr b5 0)),(5,vI s10.2),(6,vI s10.2),(7,(vT (decide (s10.2 < 16))))]) ⟨lk rfl (hg 7 (by decide)),lk rfl (hg 8 (by decide)),rfl,rfl,rfl,rfl,rfl,rfl,trivial⟩
    have hM:=hM.pull (pre:=[_,_])
    refine Zm (seg:=[(vB (x17 ^^^ x20))]) (cs':=enc (s10.1.setIfInBounds (s10.2).toNat (x17 ^^^ x20))) hE hM Za rfl rfl rfl ty5 rfl (ZI (v:=s10.1) (x:=x17 ^^^ x20) hi22.1) (Flat.cell (x17 ^^^ x20 : UInt8)) (Zu (v:=s10.1) (x:=x17 ^^^ x20) hi22.1) fun w a hM hE=>Zi (Yi (Zt (wp_region_lit (Zd hE Za ld rfl fun a hE=>Zk hE Za ld rfl rfl rfl fun a hE=>Ze hE Za ld rfl fun a hE=>Zi (Zj ?_)))))
    have hM:=(hM.pull (pre:=[_,_])).pull (pre:=[_,_])
    exact ⟨_,(ois hs11),hE.sub ⟨rfl,rfl,rfl,rfl,trivial⟩,hM⟩
  ·intro hb14
   have hs11:=Zx hs11 hb14
   refine wp_exit (Zp (Zp (Yj ?_)))
   have ht25:=hx12 _ (ois hs11)
   subst ht25
   refine Zj ?_
   have hM:=M.fst (l:=[_,_]) ((hM.pull (pre:=[_,_])).pull (pre:=[_]))
   exact ⟨hE.sub ⟨rfl,rfl,trivial⟩,hM⟩
 ·skip
  rintro a w ⟨hE,hM⟩
  refine Zt (Zc (Zl (cs:=enc j7) hE Za ld rfl ZG rfl (hM.rawAt (pre:=[_])) (Flat.len _) fun a hE=>Zm (seg:=enc j7) (cs':=enc j7) hE hM Za rfl rfl rfl ZG (Flat.len _) (zle flq) (Flat.cell _) (Zn flq) fun w a hM hE=>Zf ?_))
  have hr:=Option.some.inj hF9
  subst hr
  have hq26 : YD Try.prog _ _ (.cell 4 55) _:=ZW hE rfl ZG rfl (hM.rawAt (pre:=[])) (Flat.len _) rfl
  have hM:=M.fst (l:=[]) hM
  exact wp_ret (ZD hE rfl hq26 ⟨_,rfl,rfl,hM.kept⟩)
def Xd (p0 : Int) (p1 : (Vector (Vector UInt8 4) 4)) (p2 : (Vector UInt8 16)) (s12 : (Vector UInt8 16) × Int) (s20 : (Vector UInt8 16) × Int) (s28 : (Vector UInt8 16) × Int) : Option (Fl ((Vector UInt8 16) × Int) (Vector UInt8 16)) :=
 if (decide (s28.2 < 4)) = true then ((Zs s28.1 (wr ((wr (4 * s12.2)) + s20.2))).bind fun x35=>(Zs p1 s20.2).bind fun x38=>(Zs x38 s28.2).bind fun x41=>(Zs p2 (wr ((wr (4 * s12.2)) + s28.2))).bind fun x44=>(Z5 p0 x41 x44).bind fun r46=>(Zs s28.1 (wr ((wr (4 * s12.2)) + s20.2))).bind fun x49=>some (Fl.nx ((s28.1.setIfInBounds ((wr ((wr (4 * s12.2)) + s20.2))).toNat (x35 ^^^ r46)),wr (s28.2 + 1)))) else (some (Fl.ex s28.1))
def We (p0 : Int) (p1 : (Vector (Vector UInt8 4) 4)) (p2 : (Vector UInt8 16)) (s12 : (Vector UInt8 16) × Int) (s20 : (Vector UInt8 16) × Int) : Option (Fl ((Vector UInt8 16) × Int) (Vector UInt8 16)) :=
 if (decide (s20.2 < 4)) = true then ((ZB (Xd p0 p1 p2 s12 s20) (s20.1,0)).bind fun j25=>some (Fl.nx (j25,wr (s20.2 + 1)))) else (some (Fl.ex s20.1))
def Wd (p0 : Int) (p1 : (Vector (Vector UInt8 4) 4)) (p2 : (Vector UInt8 16)) (s12 : (Vector UInt8 16) × Int) : Option (Fl ((Vector UInt8 16) × Int) (Vector UInt8 16)) :=
 if (decide (s12.2 < 4)) = true then ((ZB (We p0 p1 p2 s12) (s12.1,0)).bind fun j17=>some (Fl.nx (j17,wr (s12.2 + 1)))) else (some (Fl.ex s12.1))
def WE (p0 : Int) (p1 : (Vector (Vector UInt8 4) 4)) (p2 : (Vector UInt8 16)) : Option ((Vector UInt8 16)) :=
 (ZB (Wd p0 p1 p2) ((Vector.replicate 16 (0 : UInt8)),0)).bind fun j9=>some j9
theorem TD (w0 : World) (p0 : Int) (p1 : (Vector (Vector UInt8 4) 4)) (p2 : (Vector UInt8 16)) (r : (Vector UInt8 16)) (hF : WE p0 p1 p2 = some r) :
  Calls Try.prog 119 [vI p0,(Value.agg (enc p1).toArray),(Value.agg (enc p2).toArray)].toArray w0 (fun en w'=>∃ v,en = .returned v ∧ (v = (Value.agg (enc r).toArray) ∧ Kept (Old w0) w0 w')):=by
 refine ZC (n:=50) Try.func119 rfl rfl (nbl rfl) rfl ?_
 intro a hE
 have hM:=M.start w0
 unfold WE at hF
 refine Zc (ZX (cs:=enc p1) hE hM Za ld rfl rfl fun b1 w a hM hE=>ZX (cs:=enc p2) hE hM Za ld rfl rfl fun b3 w a hM hE=>ZF hE hM Za ld ZG fun b5 w a hM hE=>Zf (Zc (YP (parts:=[]) (vs:=[]) (cs:=enc (Vector.replicate 16 (0 : UInt8))) hE Za ld rfl rfl ZG rfl ty5 Yr fun a hE=>ZF hE hM Za ld ZG fun b7 w a hM hE=>Zm (seg:=enc (Vector.replicate 16 (0 : UInt8))) (cs':=enc (Vector.replicate 16 (0 : UInt8))) hE hM Za rfl rfl rfl ZG (Flat.len _) (zle flq) (Flat.cell _) (Zn flq) fun w a hM hE=>Zf (wp_seq (Zc (Ze hE Za ld rfl fun a hE=>Zf ?_))))))
 obtain ⟨j9,hl10,hF11⟩:=bind_some hF
 refine ZP (fun a w=>Env 50 a [(6,(ptr b5 0)),(7,(ptr b7 0))] ∧ M (Old w0) w0 w [raw b7 (enc j9),raw b5 (enc (Vector.replicate 16 (0 : UInt8)))]) ?_ ?_
 ·skip
  refine wp_block ?_
  refine ZJ (fun (s12 : (Vector UInt8 16) × Int) a w=>Env 50 a [(0,vI p0),(4,(ptr b1 0)),(5,(ptr b3 0)),(6,(ptr b5 0)),(7,(ptr b7 0)),(8,vI s12.2)] ∧ M (Old w0) w0 w [raw b7 (enc s12.1),raw b5 (enc (Vector.replicate 16 (0 : UInt8))),raw b3 (enc p2),raw b1 (enc p1)]) hl10 ⟨hE.sub ⟨rfl,rfl,rfl,rfl,rfl,rfl,trivial⟩,hM⟩ ?_
  rintro s12 a w ⟨hE,hM⟩ o15 hs13 hx14
  unfold Wd at hs13
  refine wp_seq (Zc (Zd hE Za ld rfl fun a hE=>Zk hE Za ld rfl rfl rfl fun a hE=>Zf ?_))
  refine Zr hE rfl ?_ ?_
  ·intro hb16
   have hs13:=Zw hs13 hb16
   refine wp_skip (Zt (wp_seq (wp_block (Zc (Ze hE Za ld rfl fun a hE=>Zf ?_)))))
   obtain ⟨j17,hl18,hF19⟩:=bind_some hs13
   refine ZP (fun a w=>Env 50 a [(0,vI p0),(4,(ptr b1 0)),(5,(ptr b3 0)),(6,(ptr b5 0)),(7,(ptr b7 0)),(8,vI s12.2)] ∧ M (Old w0) w0 w [raw b7 (enc j17),raw b5 (enc (Vector.replicate 16 (0 : UInt8))),raw b3 (enc p2),raw b1 (enc p1)]) ?_ ?_
   ·skip
    refine wp_block ?_
    refine ZJ (fun (s20 : (Vector UInt8 16) × Int) a w=>Env 50 a [(0,vI p0),(4,(ptr b1 0)),(5,(ptr b3 0)),(6,(ptr b5 0)),(7,(ptr b7 0)),(8,vI s12.2),(9,vI s20.2)] ∧ M (Old w0) w0 w [raw b7 (enc s20.1),raw b5 (enc (Vector.replicate 16 (0 : UInt8))),raw b3 (enc p2),raw b1 (enc p1)]) hl18 ⟨hE.sub ⟨rfl,rfl,rfl,rfl,rfl,rfl,rfl,trivial⟩,hM⟩ ?_
    rintro s20 a w ⟨hE,hM⟩ o23 hs21 hx22
    unfold We at hs21
    refine wp_seq (Zc (Zd hE Za ld rfl fun a hE=>Zk hE Za ld rfl rfl rfl fun a hE=>Zf ?_))
    refine Zr hE rfl ?_ ?_
    ·intro hb24
     have hs21:=Zw hs21 hb24
     refine wp_skip (Zt (wp_seq (wp_block (Zc (Ze hE Za ld rfl fun a hE=>Zf ?_)))))
     obtain ⟨j25,hl26,hF27⟩:=bind_some hs21
     refine ZP (fun a w=>Env 50 a [(0,vI p0),(4,(ptr b1 0)),(5,(ptr b3 0)),(6,(ptr b5 0)),(7,(ptr b7 0)),(8,vI s12.2),(9,vI s20.2)] ∧ M (Old w0) w0 w [raw b7 (enc j25),raw b5 (enc (Vector.replicate 16 (0 : UInt8))),raw b3 (enc p2),raw b1 (enc p1)]) ?_ ?_
     ·skip
      refine wp_block ?_
      refine ZJ (fun (s28 : (Vector UInt8 16) × Int) a w=>Env 50 a [(0,vI p0),(4,(ptr b1 0)),(5,(ptr b3 0)),(6,(ptr b5 0)),(7,(ptr b7 0)),(8,vI s12.2),(9,vI s20.2),(10,vI s28.2)] ∧ M (Old w0) w0 w [raw b7 (enc s28.1),raw b5 (enc (Vector.replicate 16 (0 : UInt8))),raw b3 (enc p2),raw b1 (enc p1)]) hl26 ⟨hE.sub ⟨rfl,rfl,rfl,rfl,rfl,rfl,rfl,rfl,trivial⟩,hM⟩ ?_
      rintro s28 a w ⟨hE,hM⟩ o31 hs29 hx30
      unfold Xd at hs29
      refine wp_seq (Zc (Zd hE Za ld rfl fun a hE=>Zk hE Za ld rfl rfl rfl fun a hE=>Zf ?_))
      refine Zr hE rfl ?_ ?_
      ·intro hb32
       have hs29:=Zw hs29 hb32
       refine wp_skip (Zt (wp_seq (wp_block ?_)))
       obtain ⟨x35,hi34,hs29⟩:=bvx hs29
       obtain ⟨x38,hi37,hs29⟩:=bvx hs29
       obtain ⟨x41,hi40,hs29⟩:=bvx hs29
       obtain ⟨x44,hi43,hs29⟩:=bvx hs29
       obtain ⟨r46,e47,hs29⟩:=bind_some hs29
       obtain ⟨x49,hi48,hs29⟩:=bvx hs29
       refine Yd (n:=50) (hd:=[_,_,_,_,_,_,_,_,_,_,_,_,_,_,_,_,_,_,_,_,_,_,_,_,_]) (tl:=[_]) YR rfl rfl [24,25,26,27,28,29,30,31,32,33,34,35,36,37,38,39,40,41,42,43,44,45,46,47,48] (by decide) (fun w=>M (Old w0) w0 w [raw b7 (enc s28.1),raw b5 (enc (Vector.replicate 16 (0 : UInt8))),raw b3 (enc p2),raw b1 (enc p1)]) (fun j=>([fun v _=>v = (vI s12.2),fun v _=>v = (vI (wr (4 * s12.2))),fun v _=>v = (vI s20.2),fun v _=>v = (vI (wr ((wr (4 * s12.2)) + s20.2))),fun v _=>v = (vI s12.2),fun v _=>v = (vI (wr (4 * s12.2))),fun v _=>v = (vI s20.2),fun v _=>v = (vI (wr ((wr (4 * s12.2)) + s20.2))),fun v _=>v = (ptr b7 (0 + ((wr ((wr (4 * s12.2)) + s20.2))).toNat * 1)),fun v _=>v = (vB x35),fun v _=>v = (vI p0),fun v _=>v = (vI s20.2),fun v _=>v = (vI s28.2),fun v _=>v = (ptr b1 (0 + (s20.2).toNat * 4)),fun v _=>v = (ptr b1 (0 + (s20.2).toNat * 4 + (s28.2).toNat * 1)),fun v _=>v = (vB x41),fun v _=>v = (vI s12.2),fun v _=>v = (vI (wr (4 * s12.2))),fun v _=>v = (vI s28.2),fun v _=>v = (vI (wr ((wr (4 * s12.2)) + s28.2))),fun v _=>v = (ptr b3 (0 + ((wr ((wr (4 * s12.2)) + s28.2))).toNat * 1)),fun v _=>v = (vB x44),fun v _=>v = (vB r46),fun v _=>v = (vB (x35 ^^^ r46)),fun v _=>v = (ptr b7 (0 + ((wr ((wr (4 * s12.2)) + s20.2))).toNat * 1))] : List (Value → World → Prop)).getD j (fun _ _=>True)) (fun _ _ h hk=>h.keep hk) (gup (Zh (Zh (Zh (Zh (Zh (Zh (Zh (Zh (Zh (Zh (Zh (Zh (Zh (Zh (Zh (Zh (Zh (Zh (Zh (Zh (Zh (Zh (Zh (Zh (Zh WV)))))))))))))))))))))))))) hE hM.drew (ZK (Zb ?_ (Zb ?_ (Zb ?_ (Zb ?_ (Zb ?_ (Zb ?_ (Zb ?_ (Zb ?_ (Zb ?_ (Zb ?_ (Zb ?_ (Zb ?_ (Zb ?_ (Zb ?_ (Zb ?_ (Zb ?_ (Zb ?_ (Zb ?_ (Zb ?_ (Zb ?_ (Zb ?_ (Zb ?_ (Zb ?_ (Zb ?_ (Zb ?_ ZE)))))))))))))))))))))))))) ?_
       ·exact fun a w ux33 hE hM hp=>Zd hE Za ld rfl fun a hE=>⟨Kept.refl _ _,_,_,rfl,hE,rfl⟩
       ·intro a w ux33 hE hM hp
        have f0 : ux33 0 = (vI s12.2):=hp 0 _ rfl rfl
        exact Zk hE Za ld rfl (lk rfl f0) rfl fun a hE=>⟨Kept.refl _ _,_,_,rfl,hE,rfl⟩
       ·exact fun a w ux33 hE hM hp=>Zd hE Za ld rfl fun a hE=>⟨Kept.refl _ _,_,_,rfl,hE,rfl⟩
       ·intro a w ux33 hE hM hp
        have f1 : ux33 1 = (vI (wr (4 * s12.2))):=hp 0 _ rfl rfl
        have f2 : ux33 2 = (vI s20.2):=hp 1 _ rfl rfl
        exact Zk hE Za ld (lk rfl f1) (lk rfl f2) rfl fun a hE=>⟨Kept.refl _ _,_,_,rfl,hE,rfl⟩
       ·exact fun a w ux33 hE hM hp=>Zd hE Za ld rfl fun a hE=>⟨Kept.refl _ _,_,_,rfl,hE,rfl⟩
       ·intro a w ux33 hE hM hp
        have f4 : ux33 4 = (vI s12.2):=hp 0 _ rfl rfl
        exact Zk hE Za ld rfl (lk rfl f4) rfl fun a hE=>⟨Kept.refl _ _,_,_,rfl,hE,rfl⟩
       ·exact fun a w ux33 hE hM hp=>Zd hE Za ld rfl fun a hE=>⟨Kept.refl _ _,_,_,rfl,hE,rfl⟩
       ·intro a w ux33 hE hM hp
        have f5 : ux33 5 = (vI (wr (4 * s12.2))):=hp 0 _ rfl rfl
        have f6 : ux33 6 = (vI s20.2):=hp 1 _ rfl rfl
        exact Zk hE Za ld (lk rfl f5) (lk rfl f6) rfl fun a hE=>⟨Kept.refl _ _,_,_,rfl,hE,rfl⟩
       ·intro a w ux33 hE hM hp
        have f7 : ux33 7 = (vI (wr ((wr (4 * s12.2)) + s20.2))):=hp 0 _ rfl rfl
        exact Zg hE Za ld rfl (lk rfl f7) Try.underlying55 ty5 hi34.1 fun a hE=>⟨Kept.refl _ _,_,_,rfl,hE,rfl⟩
       ·intro a w ux33 hE hM hp
        have f8 : ux33 8 = (ptr b7 (0 + ((wr ((wr (4 * s12.2)) + s20.2))).toNat * 1)):=hp 0 _ rfl rfl
        exact Zv (v:=(vB x35)) hE Za ld (lk rfl f8) ty5 rfl (At.vec (hM.rawAt (pre:=[])) hi34.2) fun a hE=>⟨Kept.refl _ _,_,_,rfl,hE,rfl⟩
       ·exact fun a w ux33 hE hM hp=>Zd hE Za ld rfl fun a hE=>⟨Kept.refl _ _,_,_,rfl,hE,rfl⟩
       ·exact fun a w ux33 hE hM hp=>Zd hE Za ld rfl fun a hE=>⟨Kept.refl _ _,_,_,rfl,hE,rfl⟩
       ·exact fun a w ux33 hE hM hp=>Zd hE Za ld rfl fun a hE=>⟨Kept.refl _ _,_,_,rfl,hE,rfl⟩
       ·intro a w ux33 hE hM hp
        have f11 : ux33 11 = (vI s20.2):=hp 0 _ rfl rfl
        exact Zg hE Za ld rfl (lk rfl f11) Try.underlying50 Z4 hi37.1 fun a hE=>⟨Kept.refl _ _,_,_,rfl,hE,rfl⟩
       ·intro a w ux33 hE hM hp
        have f12 : ux33 12 = (vI s28.2):=hp 1 _ rfl rfl
        have f13 : ux33 13 = (ptr b1 (0 + (s20.2).toNat * 4)):=hp 0 _ rfl rfl
        exact Zg hE Za ld (lk rfl f13) (lk rfl f12) Try.underlying42 ty5 hi40.1 fun a hE=>⟨Kept.refl _ _,_,_,rfl,hE,rfl⟩
       ·intro a w ux33 hE hM hp
        have f14 : ux33 14 = (ptr b1 (0 + (s20.2).toNat * 4 + (s28.2).toNat * 1)):=hp 0 _ rfl rfl
        exact Zv (v:=(vB x41)) hE Za ld (lk rfl f14) ty5 rfl (At.vec (At.vec (hM.rawAt (pre:=[_,_,_])) hi37.2) hi40.2) fun a hE=>⟨Kept.refl _ _,_,_,rfl,hE,rfl⟩
       ·exact fun a w ux33 hE hM hp=>Zd hE Za ld rfl fun a hE=>⟨Kept.refl _ _,_,_,rfl,hE,rfl⟩
       ·intro a w ux33 hE hM hp
        have f16 : ux33 16 = (vI s12.2):=hp 0 _ rfl rfl
        exact Zk hE Za ld rfl (lk rfl f16) rfl fun a hE=>⟨Kept.refl _ _,_,_,rfl,hE,rfl⟩
       ·exact fun a w ux33 hE hM hp=>Zd hE Za ld rfl fun a hE=>⟨Kept.refl _ _,_,_,rfl,hE,rfl⟩
       ·intro a w ux33 hE hM hp
        have f17 : ux33 17 = (vI (wr (4 * s12.2))):=hp 0 _ rfl rfl
        have f18 : ux33 18 = (vI s28.2):=hp 1 _ rfl rfl
        exact Zk hE Za ld (lk rfl f17) (lk rfl f18) rfl fun a hE=>⟨Kept.refl _ _,_,_,rfl,hE,rfl⟩
       ·intro a w ux33 hE hM hp
        have f19 : ux33 19 = (vI (wr ((wr (4 * s12.2)) + s28.2))):=hp 0 _ rfl rfl
        exact Zg hE Za ld rfl (lk rfl f19) Try.underlying55 ty5 hi43.1 fun a hE=>⟨Kept.refl _ _,_,_,rfl,hE,rfl⟩
       ·intro a w ux33 hE hM hp
        have f20 : ux33 20 = (ptr b3 (0 + ((wr ((wr (4 * s12.2)) + s28.2))).toNat * 1)):=hp 0 _ rfl rfl
        exact Zv (v:=(vB x44)) hE Za ld (lk rfl f20) ty5 rfl (At.vec (hM.rawAt (pre:=[_,_])) hi43.2) fun a hE=>⟨Kept.refl _ _,_,_,rfl,hE,rfl⟩
       ·intro a w ux33 hE hM hp
        have f10 : ux33 10 = (vI p0):=hp 0 _ rfl rfl
        have f15 : ux33 15 = (vB x41):=hp 1 _ rfl rfl
        have f21 : ux33 21 = (vB x44):=hp 2 _ rfl rfl
        refine Zq hE Za ld (ZV (ZT (lk rfl f10) (ZT (lk rfl f15) (ZT (lk rfl f21) Xw)))) QV (YL _ p0 x41 x44 r46 e47) ?_
        rintro v w a ⟨rfl,hK⟩ hE
        exact ⟨hK,_,_,rfl,hE,rfl⟩
       ·intro a w ux33 hE hM hp
        have f9 : ux33 9 = (vB x35):=hp 0 _ rfl rfl
        have f22 : ux33 22 = (vB r46):=hp 1 _ rfl rfl
        exact Zk hE Za ld (lk rfl f9) (lk rfl f22) (Vc x35 r46) fun a hE=>⟨Kept.refl _ _,_,_,rfl,hE,rfl⟩
       ·intro a w ux33 hE hM hp
        have f3 : ux33 3 = (vI (wr ((wr (4 * s12.2)) + s20.2))):=hp 0 _ rfl rfl
        exact Zg hE Za ld rfl (lk rfl f3) Try.underlying55 ty5 hi48.1 fun a hE=>⟨Kept.refl _ _,_,_,rfl,hE,rfl⟩
       ·intro a w ux33 hE hM hg
        have hE:=hE.sub (e':=[(47,(vB (x35 ^^^ r46))),(48,(ptr b7 (0 + ((wr ((wr (4 * s12.2)) + s20.2))).toNat * 1))),(0,vI p0),(4,(ptr b1 0)),(5,(ptr b3 0)),(6,(ptr b5 0)),(7,(ptr b7 0)),(8,vI s12.2),(9,vI s20.2),(10,vI s28.2),(20,vI s28.2),(21,(vT (decide (s28.2 < 4))))]) ⟨lk rfl (hg 23 (by decide)),lk rfl (hg 24 (by decide)),rfl,rfl,rfl,rfl,rfl,rfl,rfl,rfl,rfl,rfl,trivial⟩
        refine Zm (seg:=[(vB (x35 ^^^ r46))]) (cs':=enc (s28.1.setIfInBounds ((wr ((wr (4 * s12.2)) + s20.2))).toNat (x35 ^^^ r46))) hE hM Za rfl rfl rfl ty5 rfl (ZI (v:=s28.1) (x:=x35 ^^^ r46) hi48.1) (Flat.cell (x35 ^^^ r46 : UInt8)) (Zu (v:=s28.1) (x:=x35 ^^^ r46) hi48.1) fun w a hM hE=>Zi (Yi (Zt (wp_region_lit (Zd hE Za ld rfl fun a hE=>Zk hE Za ld rfl rfl rfl fun a hE=>Ze hE Za ld rfl fun a hE=>Zi (Zj ?_)))))
        exact ⟨_,(ois hs29),hE.sub ⟨rfl,rfl,rfl,rfl,rfl,rfl,rfl,rfl,trivial⟩,hM⟩
      ·intro hb32
       have hs29:=Zx hs29 hb32
       refine wp_exit (Zp (Zp (Yj ?_)))
       have ht51:=hx30 _ (ois hs29)
       subst ht51
       refine Zj ?_
       exact ⟨hE.sub ⟨rfl,rfl,rfl,rfl,rfl,rfl,rfl,trivial⟩,hM⟩
     ·skip
      rintro a w ⟨hE,hM⟩
      refine Yi (Zt (wp_region_lit (Zd hE Za ld rfl fun a hE=>Zk hE Za ld rfl rfl rfl fun a hE=>Ze hE Za ld rfl fun a hE=>Zi (Zj ?_))))
      exact ⟨_,(ois hF27),hE.sub ⟨rfl,rfl,rfl,rfl,rfl,rfl,rfl,trivial⟩,hM⟩
    ·intro hb24
     have hs21:=Zx hs21 hb24
     refine wp_exit (Zp (Zp (Yj ?_)))
     have ht52:=hx22 _ (ois hs21)
     subst ht52
     refine Zj ?_
     exact ⟨hE.sub ⟨rfl,rfl,rfl,rfl,rfl,rfl,trivial⟩,hM⟩
   ·skip
    rintro a w ⟨hE,hM⟩
    refine Yi (Zt (wp_region_lit (Zd hE Za ld rfl fun a hE=>Zk hE Za ld rfl rfl rfl fun a hE=>Ze hE Za ld rfl fun a hE=>Zi (Zj ?_))))
    exact ⟨_,(ois hF19),hE.sub ⟨rfl,rfl,rfl,rfl,rfl,rfl,trivial⟩,hM⟩
  ·intro hb16
   have hs13:=Zx hs13 hb16
   refine wp_exit (Zp (Zp (Yj ?_)))
   have ht53:=hx14 _ (ois hs13)
   subst ht53
   refine Zj ?_
   have hM:=M.fst (l:=[_,_]) ((hM.pull (pre:=[_])).pull (pre:=[_]))
   exact ⟨hE.sub ⟨rfl,rfl,trivial⟩,hM⟩
 ·skip
  rintro a w ⟨hE,hM⟩
  refine Zt (Zc (Zl (cs:=enc j9) hE Za ld rfl ZG rfl (hM.rawAt (pre:=[])) (Flat.len _) ?_)); intro a hE
  have hM:=hM.pull (pre:=[_])
  refine Zm (seg:=enc j9) (cs':=enc j9) hE hM Za rfl rfl rfl ZG (Flat.len _) (zle flq) (Flat.cell _) (Zn flq) fun w a hM hE=>Zf ?_
  have hr:=Option.some.inj hF11
  subst hr
  have hq54 : YD Try.prog _ _ (.cell 6 55) _:=ZW hE rfl ZG rfl (hM.rawAt (pre:=[])) (Flat.len _) rfl
  have hM:=M.fst (l:=[]) hM
  exact wp_ret (ZD hE rfl hq54 ⟨_,rfl,rfl,hM.kept⟩)
def XX (p0 : (Vector UInt8 16)) (s10 : (Vector UInt8 16) × Int) : Option (Fl ((Vector UInt8 16) × Int) (Vector UInt8 16)) :=
 if (decide (s10.2 < 16)) = true then ((Zs p0 s10.2).bind fun x16=>(Zs s10.1 (bI x16)).bind fun x19=>some (Fl.nx ((s10.1.setIfInBounds ((bI x16)).toNat (ZO s10.2)),wr (s10.2 + 1)))) else (some (Fl.ex s10.1))
def WK (p0 : (Vector UInt8 16)) : Option ((Vector UInt8 16)) :=
 (ZB (XX p0) ((Vector.replicate 16 (0 : UInt8)),0)).bind fun j7=>some j7
theorem KU (w0 : World) (p0 : (Vector UInt8 16)) (r : (Vector UInt8 16)) (hF : WK p0 = some r) :
  Calls Try.prog 151 [(Value.agg (enc p0).toArray)].toArray w0 (fun en w'=>∃ v,en = .returned v ∧ (v = (Value.agg (enc r).toArray) ∧ Kept (Old w0) w0 w')):=by
 refine ZC (n:=17) Try.func151 rfl rfl (nbl rfl) rfl ?_
 intro a hE
 have hM:=M.start w0
 unfold WK at hF
 refine Zc (ZX (cs:=enc p0) hE hM Za ld rfl rfl fun b1 w a hM hE=>ZF hE hM Za ld WZ fun b3 w a hM hE=>Zf (Zc (YP (parts:=[]) (vs:=[]) (cs:=enc (Vector.replicate 16 (0 : UInt8))) hE Za ld rfl rfl WZ rfl ty5 Yr fun a hE=>ZF hE hM Za ld WZ fun b5 w a hM hE=>Zm (seg:=enc (Vector.replicate 16 (0 : UInt8))) (cs':=enc (Vector.replicate 16 (0 : UInt8))) hE hM Za rfl rfl rfl WZ (Flat.len _) (zle flq) (Flat.cell _) (Zn flq) fun w a hM hE=>Zf (wp_seq (Zc (Ze hE Za ld rfl fun a hE=>Zf ?_))))))
 obtain ⟨j7,hl8,hF9⟩:=bind_some hF
 refine ZP (fun a w=>Env 17 a [(2,(ptr b3 0)),(3,(ptr b5 0))] ∧ M (Old w0) w0 w [raw b5 (enc j7),raw b3 (enc (Vector.replicate 16 (0 : UInt8)))]) ?_ ?_
 ·skip
  refine wp_block ?_
  refine ZJ (fun (s10 : (Vector UInt8 16) × Int) a w=>Env 17 a [(1,(ptr b1 0)),(2,(ptr b3 0)),(3,(ptr b5 0)),(4,vI s10.2)] ∧ M (Old w0) w0 w [raw b5 (enc s10.1),raw b3 (enc (Vector.replicate 16 (0 : UInt8))),raw b1 (enc p0)]) hl8 ⟨hE.sub ⟨rfl,rfl,rfl,rfl,trivial⟩,hM⟩ ?_
  rintro s10 a w ⟨hE,hM⟩ o13 hs11 hx12
  unfold XX at hs11
  refine wp_seq (Zc (Zd hE Za ld rfl fun a hE=>Zk hE Za ld rfl rfl rfl fun a hE=>Zf ?_))
  refine Zr hE rfl ?_ ?_
  ·intro hb14
   have hs11:=Zw hs11 hb14
   refine wp_skip (Zt (wp_seq (wp_block (wp_region_lit (Zd hE Za ld rfl ?_))))); intro a hE
   obtain ⟨x16,hi15,hs11⟩:=bvx hs11
   refine Zg hE Za ld rfl rfl Try.underlying51 ty5 hi15.1 fun a hE=>Zv (v:=(vB x16)) hE Za ld rfl ty5 rfl (At.vec (hM.rawAt (pre:=[_,_])) hi15.2) fun a hE=>Zd hE Za ld rfl fun a hE=>Ve hE Za ld rfl Try.underlying3 Try.underlying5 ?_; intro a hE
   rw [XH] at hE
   obtain ⟨x19,hi18,hs11⟩:=bvx hs11
   refine Zg hE Za ld rfl rfl Try.underlying51 ty5 hi18.1 fun a hE=>Zm (seg:=[(vB (ZO s10.2))]) (cs':=enc (s10.1.setIfInBounds ((bI x16)).toNat (ZO s10.2))) hE hM Za rfl rfl rfl ty5 rfl (ZI (v:=s10.1) (x:=ZO s10.2) hi18.1) (Flat.cell (ZO s10.2 : UInt8)) (Zu (v:=s10.1) (x:=ZO s10.2) hi18.1) fun w a hM hE=>Zi (Yi (Zt (wp_region_lit (Zd hE Za ld rfl fun a hE=>Zk hE Za ld rfl rfl rfl fun a hE=>Ze hE Za ld rfl fun a hE=>Zi (Zj ?_)))))
   exact ⟨_,(ois hs11),hE.sub ⟨rfl,rfl,rfl,rfl,trivial⟩,hM⟩
  ·intro hb14
   have hs11:=Zx hs11 hb14
   refine wp_exit (Zp (Zp (Yj ?_)))
   have ht21:=hx12 _ (ois hs11)
   subst ht21
   refine Zj ?_
   have hM:=M.fst (l:=[_,_]) ((hM.pull (pre:=[_])).pull (pre:=[_]))
   exact ⟨hE.sub ⟨rfl,rfl,trivial⟩,hM⟩
 ·skip
  rintro a w ⟨hE,hM⟩
  refine Zt (Zc (Zl (cs:=enc j7) hE Za ld rfl WZ rfl (hM.rawAt (pre:=[])) (Flat.len _) ?_)); intro a hE
  have hM:=hM.pull (pre:=[_])
  refine Zm (seg:=enc j7) (cs':=enc j7) hE hM Za rfl rfl rfl WZ (Flat.len _) (zle flq) (Flat.cell _) (Zn flq) fun w a hM hE=>Zf ?_
  have hr:=Option.some.inj hF9
  subst hr
  have hq22 : YD Try.prog _ _ (.cell 2 51) _:=ZW hE rfl WZ rfl (hM.rawAt (pre:=[])) (Flat.len _) rfl
  have hM:=M.fst (l:=[]) hM
  exact wp_ret (ZD hE rfl hq22 ⟨_,rfl,rfl,hM.kept⟩)
def Yh (p0 : (Vector UInt8 16)) (p1 : (Vector UInt8 16)) (s12 : (Vector UInt8 16) × Int) : Option (Fl ((Vector UInt8 16) × Int) (Vector UInt8 16)) :=
 if (decide (s12.2 < 16)) = true then ((Zs p0 s12.2).bind fun x18=>(Zs p1 (bI x18)).bind fun x21=>(Zs s12.1 s12.2).bind fun x24=>some (Fl.nx ((s12.1.setIfInBounds (s12.2).toNat x21),wr (s12.2 + 1)))) else (some (Fl.ex s12.1))
def Xc (p0 : (Vector UInt8 16)) (p1 : (Vector UInt8 16)) : Option ((Vector UInt8 16)) :=
 (ZB (Yh p0 p1) ((Vector.replicate 16 (0 : UInt8)),0)).bind fun j9=>some j9
theorem Te (w0 : World) (p0 : (Vector UInt8 16)) (p1 : (Vector UInt8 16)) (r : (Vector UInt8 16)) (hF : Xc p0 p1 = some r) :
  Calls Try.prog 122 [(Value.agg (enc p0).toArray),(Value.agg (enc p1).toArray)].toArray w0 (fun en w'=>∃ v,en = .returned v ∧ (v = (Value.agg (enc r).toArray) ∧ Kept (Old w0) w0 w')):=by
 refine ZC (n:=20) Try.func122 rfl rfl (nbl rfl) rfl ?_
 intro a hE
 have hM:=M.start w0
 unfold Xc at hF
 refine Zc (ZX (cs:=enc p0) hE hM Za ld rfl rfl fun b1 w a hM hE=>ZX (cs:=enc p1) hE hM Za ld rfl rfl fun b3 w a hM hE=>ZF hE hM Za ld ZG fun b5 w a hM hE=>Zf (Zc (YP (parts:=[]) (vs:=[]) (cs:=enc (Vector.replicate 16 (0 : UInt8))) hE Za ld rfl rfl ZG rfl ty5 Yr fun a hE=>ZF hE hM Za ld ZG fun b7 w a hM hE=>Zm (seg:=enc (Vector.replicate 16 (0 : UInt8))) (cs':=enc (Vector.replicate 16 (0 : UInt8))) hE hM Za rfl rfl rfl ZG (Flat.len _) (zle flq) (Flat.cell _) (Zn flq) fun w a hM hE=>Zf (wp_seq (Zc (Ze hE Za ld rfl fun a hE=>Zf ?_))))))
 obtain ⟨j9,hl10,hF11⟩:=bind_some hF
 refine ZP (fun a w=>Env 20 a [(4,(ptr b5 0)),(5,(ptr b7 0))] ∧ M (Old w0) w0 w [raw b7 (enc j9),raw b5 (enc (Vector.replicate 16 (0 : UInt8)))]) ?_ ?_
 ·skip
  refine wp_block ?_
  refine ZJ (fun (s12 : (Vector UInt8 16) × Int) a w=>Env 20 a [(2,(ptr b1 0)),(3,(ptr b3 0)),(4,(ptr b5 0)),(5,(ptr b7 0)),(6,vI s12.2)] ∧ M (Old w0) w0 w [raw b7 (enc s12.1),raw b5 (enc (Vector.replicate 16 (0 : UInt8))),raw b3 (enc p1),raw b1 (enc p0)]) hl10 ⟨hE.sub ⟨rfl,rfl,rfl,rfl,rfl,trivial⟩,hM⟩ ?_
  rintro s12 a w ⟨hE,hM⟩ o15 hs13 hx14
  unfold Yh at hs13
  refine wp_seq (Zc (Zd hE Za ld rfl fun a hE=>Zk hE Za ld rfl rfl rfl fun a hE=>Zf ?_))
  refine Zr hE rfl ?_ ?_
  ·intro hb16
   have hs13:=Zw hs13 hb16
   refine wp_skip (Zt (wp_seq (wp_block (wp_region_lit (Zd hE Za ld rfl fun a hE=>Zd hE Za ld rfl ?_))))); intro a hE
   obtain ⟨x18,hi17,hs13⟩:=bvx hs13
   refine Zg hE Za ld rfl rfl Try.underlying51 ty5 hi17.1 fun a hE=>Zv (v:=(vB x18)) hE Za ld rfl ty5 rfl (At.vec (hM.rawAt (pre:=[_,_,_])) hi17.2) ?_; intro a hE
   obtain ⟨x21,hi20,hs13⟩:=bvx hs13
   refine Zg hE Za ld rfl rfl Try.underlying55 ty5 hi20.1 fun a hE=>Zv (v:=(vB x21)) hE Za ld rfl ty5 rfl (At.vec (hM.rawAt (pre:=[_,_])) hi20.2) ?_; intro a hE
   obtain ⟨x24,hi23,hs13⟩:=bvx hs13
   refine Zg hE Za ld rfl rfl Try.underlying55 ty5 hi23.1 fun a hE=>Zm (seg:=[vB x21]) (cs':=enc (s12.1.setIfInBounds (s12.2).toNat x21)) hE hM Za rfl rfl rfl ty5 rfl (ZI (v:=s12.1) (x:=x21) hi23.1) (Flat.cell (x21 : UInt8)) (Zu (v:=s12.1) (x:=x21) hi23.1) fun w a hM hE=>Zi (Yi (Zt (wp_region_lit (Zd hE Za ld rfl fun a hE=>Zk hE Za ld rfl rfl rfl fun a hE=>Ze hE Za ld rfl fun a hE=>Zi (Zj ?_)))))
   exact ⟨_,(ois hs13),hE.sub ⟨rfl,rfl,rfl,rfl,rfl,trivial⟩,hM⟩
  ·intro hb16
   have hs13:=Zx hs13 hb16
   refine wp_exit (Zp (Zp (Yj ?_)))
   have ht26:=hx14 _ (ois hs13)
   subst ht26
   refine Zj ?_
   have hM:=M.fst (l:=[_,_]) ((hM.pull (pre:=[_])).pull (pre:=[_]))
   exact ⟨hE.sub ⟨rfl,rfl,trivial⟩,hM⟩
 ·skip
  rintro a w ⟨hE,hM⟩
  refine Zt (Zc (Zl (cs:=enc j9) hE Za ld rfl ZG rfl (hM.rawAt (pre:=[])) (Flat.len _) ?_)); intro a hE
  have hM:=hM.pull (pre:=[_])
  refine Zm (seg:=enc j9) (cs':=enc j9) hE hM Za rfl rfl rfl ZG (Flat.len _) (zle flq) (Flat.cell _) (Zn flq) fun w a hM hE=>Zf ?_
  have hr:=Option.some.inj hF11
  subst hr
  have hq27 : YD Try.prog _ _ (.cell 4 55) _:=ZW hE rfl ZG rfl (hM.rawAt (pre:=[])) (Flat.len _) rfl
  have hM:=M.fst (l:=[]) hM
  exact wp_ret (ZD hE rfl hq27 ⟨_,rfl,rfl,hM.kept⟩)
def WP (p0 : (Vector UInt8 16)) (p1 : (Vector UInt8 16)) : Option ((Vector UInt8 16)) :=
 ((WK p0).bind fun r11=>(Xc r11 p1).bind fun r13=>some r13 : Option ((Vector UInt8 16))).bind fun j7=>some j7
theorem KF (w0 : World) (p0 : (Vector UInt8 16)) (p1 : (Vector UInt8 16)) (r : (Vector UInt8 16)) (hF : WP p0 p1 = some r) :
  Calls Try.prog 121 [(Value.agg (enc p0).toArray),(Value.agg (enc p1).toArray)].toArray w0 (fun en w'=>∃ v,en = .returned v ∧ (v = (Value.agg (enc r).toArray) ∧ Kept (Old w0) w0 w')):=by
 refine ZC (n:=9) Try.func121 rfl rfl (nbl rfl) rfl ?_
 intro a hE
 have hM:=M.start w0
 unfold WP at hF
 refine Zc (ZX (cs:=enc p0) hE hM Za ld rfl rfl fun b1 w a hM hE=>ZX (cs:=enc p1) hE hM Za ld rfl rfl fun b3 w a hM hE=>ZF hE hM Za ld ZG fun b5 w a hM hE=>Zf ?_)
 obtain ⟨j7,hl8,hF9⟩:=bind_some hF
 refine ZL (fun a w=>Env 9 a [(4,(ptr b5 0))] ∧ M (Old w0) w0 w [raw b5 (enc j7)]) ?_ ?_
 ·skip
  obtain ⟨r11,e12,hl8⟩:=bind_some hl8
  obtain ⟨r13,e14,hl8⟩:=bind_some hl8
  refine Yd (n:=9) (hd:=[_,_,_,_]) (tl:=[_]) YR rfl rfl [5,6,7,8] (by decide) (fun w=>M (Old w0) w0 w [raw b5 (enc (Vector.replicate 16 (0 : UInt8))),raw b3 (enc p1),raw b1 (enc p0)]) (fun j=>([fun v _=>v = (Value.agg (enc p0).toArray),fun v _=>v = (Value.agg (enc r11).toArray),fun v _=>v = (Value.agg (enc p1).toArray),fun v _=>v = (Value.agg (enc r13).toArray)] : List (Value → World → Prop)).getD j (fun _ _=>True)) (fun _ _ h hk=>h.keep hk) (gup (Zh (Zh (Zh (Zh WV))))) hE hM.drew (ZK (Zb ?_ (Zb ?_ (Zb ?_ (Zb ?_ ZE))))) ?_
  ·exact fun a w ux10 hE hM hp=>Zl (cs:=enc p0) hE Za ld rfl WZ rfl (hM.rawAt (pre:=[_,_])) (Flat.len _) fun a hE=>⟨Kept.refl _ _,_,_,rfl,hE,rfl⟩
  ·intro a w ux10 hE hM hp
   have f0 : ux10 0 = (Value.agg (enc p0).toArray):=hp 0 _ rfl rfl
   refine Zq hE Za ld (ZV (ZT (lk rfl f0) Xw)) cb151 (KU _ p0 r11 e12) ?_
   rintro v w a ⟨rfl,hK⟩ hE
   exact ⟨hK,_,_,rfl,hE,rfl⟩
  ·exact fun a w ux10 hE hM hp=>Zl (cs:=enc p1) hE Za ld rfl ZG rfl (hM.rawAt (pre:=[_])) (Flat.len _) fun a hE=>⟨Kept.refl _ _,_,_,rfl,hE,rfl⟩
  ·intro a w ux10 hE hM hp
   have f1 : ux10 1 = (Value.agg (enc r11).toArray):=hp 0 _ rfl rfl
   have f2 : ux10 2 = (Value.agg (enc p1).toArray):=hp 1 _ rfl rfl
   refine Zq hE Za ld (ZV (ZT (lk rfl f1) (ZT (lk rfl f2) Xw))) cb122 (Te _ r11 p1 r13 e14) ?_
   rintro v w a ⟨rfl,hK⟩ hE
   exact ⟨hK,_,_,rfl,hE,rfl⟩
  ·intro a w ux10 hE hM hg
   have hE:=hE.sub (e':=[(8,(Value.agg (enc r13).toArray)),(4,(ptr b5 0))]) ⟨lk rfl (hg 3 (by decide)),rfl,trivial⟩
   refine Zm (seg:=enc r13) (cs':=enc r13) hE hM Za rfl rfl rfl ZG (Flat.len _) (zle flq) (Flat.cell _) (Zn flq) fun w a hM hE=>Zi ?_
   have ht15:=Option.some.inj hl8
   subst ht15
   refine Zj ?_
   have hM:=M.fst (l:=[_]) hM
   exact ⟨hE.sub ⟨rfl,trivial⟩,hM⟩
 ·skip
  rintro a w ⟨hE,hM⟩
  have hr:=Option.some.inj hF9
  subst hr
  have hq16 : YD Try.prog _ _ (.cell 4 55) _:=ZW hE rfl ZG rfl (hM.rawAt (pre:=[])) (Flat.len _) rfl
  have hM:=M.fst (l:=[]) hM
  exact wp_ret (ZD hE rfl hq16 ⟨_,rfl,rfl,hM.kept⟩)
def XI (p0 : (Vector UInt8 256)) (s10 : (Vector UInt8 16) × Int) : Option (Fl ((Vector UInt8 16) × Int) (Vector UInt8 16)) :=
 if (decide (s10.2 < 16)) = true then ((Zs s10.1 s10.2).bind fun x16=>(Zs p0 (bI x16)).bind fun x19=>(Zs s10.1 s10.2).bind fun x22=>some (Fl.nx ((s10.1.setIfInBounds (s10.2).toNat x19),wr (s10.2 + 1)))) else (some (Fl.ex s10.1))
def XV (p0 : (Vector UInt8 256)) (p1 : (Vector UInt8 16)) : Option ((Vector UInt8 16)) :=
 (ZB (XI p0) (p1,0)).bind fun j7=>some j7
theorem UX (w0 : World) (p0 : (Vector UInt8 256)) (p1 : (Vector UInt8 16)) (r : (Vector UInt8 16)) (hF : XV p0 p1 = some r) :
  Calls Try.prog 120 [(Value.agg (enc p0).toArray),(Value.agg (enc p1).toArray)].toArray w0 (fun en w'=>∃ v,en = .returned v ∧ (v = (Value.agg (enc r).toArray) ∧ Kept (Old w0) w0 w')):=by
 refine ZC (n:=18) Try.func120 rfl rfl (nbl rfl) rfl ?_
 intro a hE
 have hM:=M.start w0
 unfold XV at hF
 refine Zc (ZX (cs:=enc p0) hE hM Za ld rfl rfl fun b1 w a hM hE=>ZX (cs:=enc p1) hE hM Za ld rfl rfl fun b3 w a hM hE=>ZF hE hM Za ld ZG fun b5 w a hM hE=>Zf (wp_seq (Zc (Ze hE Za ld rfl fun a hE=>Zf ?_))))
 obtain ⟨j7,hl8,hF9⟩:=bind_some hF
 refine ZP (fun a w=>Env 18 a [(3,(ptr b3 0)),(4,(ptr b5 0))] ∧ M (Old w0) w0 w [raw b5 (enc (Vector.replicate 16 (0 : UInt8))),raw b3 (enc j7)]) ?_ ?_
 ·skip
  refine wp_block ?_
  refine ZJ (fun (s10 : (Vector UInt8 16) × Int) a w=>Env 18 a [(2,(ptr b1 0)),(3,(ptr b3 0)),(4,(ptr b5 0)),(5,vI s10.2)] ∧ M (Old w0) w0 w [raw b5 (enc (Vector.replicate 16 (0 : UInt8))),raw b3 (enc s10.1),raw b1 (enc p0)]) hl8 ⟨hE.sub ⟨rfl,rfl,rfl,rfl,trivial⟩,hM⟩ ?_
  rintro s10 a w ⟨hE,hM⟩ o13 hs11 hx12
  unfold XI at hs11
  refine wp_seq (Zc (Zd hE Za ld rfl fun a hE=>Zk hE Za ld rfl rfl rfl fun a hE=>Zf ?_))
  refine Zr hE rfl ?_ ?_
  ·intro hb14
   have hs11:=Zw hs11 hb14
   refine wp_skip (Zt (wp_seq (wp_block (wp_region_lit (Zd hE Za ld rfl fun a hE=>Zd hE Za ld rfl ?_))))); intro a hE
   obtain ⟨x16,hi15,hs11⟩:=bvx hs11
   refine Zg hE Za ld rfl rfl Try.underlying55 ty5 hi15.1 fun a hE=>Zv (v:=(vB x16)) hE Za ld rfl ty5 rfl (At.vec (hM.rawAt (pre:=[_])) hi15.2) ?_; intro a hE
   obtain ⟨x19,hi18,hs11⟩:=bvx hs11
   refine Zg hE Za ld rfl rfl Try.underlying49 ty5 hi18.1 fun a hE=>Zv (v:=(vB x19)) hE Za ld rfl ty5 rfl (At.vec (hM.rawAt (pre:=[_,_])) hi18.2) ?_; intro a hE
   obtain ⟨x22,hi21,hs11⟩:=bvx hs11
   refine Zg hE Za ld rfl rfl Try.underlying55 ty5 hi21.1 ?_; intro a hE
   have hM:=hM.pull (pre:=[_])
   refine Zm (seg:=[vB x19]) (cs':=enc (s10.1.setIfInBounds (s10.2).toNat x19)) hE hM Za rfl rfl rfl ty5 rfl (ZI (v:=s10.1) (x:=x19) hi21.1) (Flat.cell (x19 : UInt8)) (Zu (v:=s10.1) (x:=x19) hi21.1) fun w a hM hE=>Zi (Yi (Zt (wp_region_lit (Zd hE Za ld rfl fun a hE=>Zk hE Za ld rfl rfl rfl fun a hE=>Ze hE Za ld rfl fun a hE=>Zi (Zj ?_)))))
   have hM:=((hM.pull (pre:=[_,_])).pull (pre:=[_])).pull (pre:=[_,_])
   exact ⟨_,(ois hs11),hE.sub ⟨rfl,rfl,rfl,rfl,trivial⟩,hM⟩
  ·intro hb14
   have hs11:=Zx hs11 hb14
   refine wp_exit (Zp (Zp (Yj ?_)))
   have ht24:=hx12 _ (ois hs11)
   subst ht24
   refine Zj ?_
   have hM:=M.fst (l:=[_,_]) ((hM.pull (pre:=[_])).pull (pre:=[_]))
   exact ⟨hE.sub ⟨rfl,rfl,trivial⟩,hM⟩
 ·skip
  rintro a w ⟨hE,hM⟩
  refine Zt (Zc (Zl (cs:=enc j7) hE Za ld rfl ZG rfl (hM.rawAt (pre:=[_])) (Flat.len _) fun a hE=>Zm (seg:=enc j7) (cs':=enc j7) hE hM Za rfl rfl rfl ZG (Flat.len _) (zle flq) (Flat.cell _) (Zn flq) fun w a hM hE=>Zf ?_))
  have hr:=Option.some.inj hF9
  subst hr
  have hq25 : YD Try.prog _ _ (.cell 4 55) _:=ZW hE rfl ZG rfl (hM.rawAt (pre:=[])) (Flat.len _) rfl
  have hM:=M.fst (l:=[]) hM
  exact wp_ret (ZD hE rfl hq25 ⟨_,rfl,rfl,hM.kept⟩)
def YI (p0 : GCipher) (p3 : Int) (r10 : (List (Vector UInt8 16))) (r13 : (Vector UInt8 256)) (r19 : (Vector (Vector UInt8 4) 4) × Bool) (s26 : (Vector UInt8 16) × Int) : Option (Fl ((Vector UInt8 16) × Int) (Vector UInt8 16)) :=
 if (decide (s26.2 ≥ 1)) = true then ((((idx r10 s26.2).bind fun x38=>(XA s26.1 x38).bind fun r41=>some r41 : Option ((Vector UInt8 16))).bind fun j34=>(if (decide (s26.2 < p3)) = true then ((WE p0.Field r19.1 j34).bind fun r48=>some r48) else (some j34) : Option ((Vector UInt8 16))).bind fun j44=>(WP p0.Places j44).bind fun r53=>(XV r13 r53).bind fun r55=>some r55 : Option ((Vector UInt8 16))).bind fun j31=>some (Fl.nx (j31,wr (s26.2 - 1)))) else (some (Fl.ex s26.1))
def Y2 (p0 : GCipher) (p1 : (Vector UInt8 16)) (p2 : (Vector UInt8 16)) (p3 : Int) : Option ((Vector UInt8 16)) :=
 (Wb p0 p1 p3).bind fun r10=>(XZ p0.Box).bind fun r13=>(Xo p0.Field p0.Mix).bind fun r19=>(ZB (YI p0 p3 r10 r13 r19) (p2,p3)).bind fun j23=>((idx r10 (0 : Int)).bind fun x63=>(XA j23 x63).bind fun r66=>some r66 : Option ((Vector UInt8 16))).bind fun j59=>some j59
theorem TN (w0 : World) (p0 : GCipher) (p1 : (Vector UInt8 16)) (p2 : (Vector UInt8 16)) (p3 : Int) (r : (Vector UInt8 16)) (hF : Y2 p0 p1 p2 p3 = some r) :
  Calls Try.prog 72 [(Value.agg (enc p0).toArray),(Value.agg (enc p1).toArray),(Value.agg (enc p2).toArray),vI p3].toArray w0 (fun en w'=>∃ v,en = .returned v ∧ (v = (Value.agg (enc r).toArray) ∧ Kept (Old w0) w0 w')):=by
 refine ZC (n:=59) Try.func72 rfl rfl (nbl rfl) rfl ?_
 intro a hE
 have hM:=M.start w0
 unfold Y2 at hF
 refine Zc (ZX (cs:=cat [[vI p0.Field],enc p0.Box,enc p0.Mix,enc p0.Places,[vI p0.Rounds]]) hE hM Za ld rfl rfl fun b1 w a hM hE=>ZX (cs:=enc p1) hE hM Za ld rfl rfl fun b3 w a hM hE=>ZX (cs:=enc p2) hE hM Za ld rfl rfl fun b5 w a hM hE=>ZF hE hM Za ld ZG fun b7 w a hM hE=>Zf (wp_seq ?_))
 obtain ⟨r10,e11,hF⟩:=bind_some hF
 obtain ⟨r13,e14,hF⟩:=bind_some hF
 refine V3 (n:=59) (hd:=[_,_,_,_,_,_,_,_]) (tl:=[_,_]) YR rfl rfl [14,15,16,17,18,19,20,10] (by decide) (fun D u w=>M (Old w0) w0 w ([raw b7 (enc (Vector.replicate 16 (0 : UInt8))),raw b5 (enc p2),raw b3 (enc p1),raw b1 (cat [[vI p0.Field],enc p0.Box,enc p0.Mix,enc p0.Places,[vI p0.Rounds]])] ++ qL ([mkO 3 (fun v=>osl NoB (r10 : List (Vector UInt8 16)) v),mkO 7 (fun v=>UA v (enc (Vector.replicate 256 (0 : UInt8))))] : Mk) D u) ∧ GOk ([([],fun us v=>v = (Value.agg (enc p0).toArray)),([],fun us v=>v = (Value.agg (enc p1).toArray)),([],fun us v=>v = (vI p3)),([],fun us v=>True),([],fun us v=>v = (ptr b1 (0 + 1))),([],fun us v=>v = (Value.agg (enc p0.Box).toArray)),([],fun us v=>v = (Value.agg (enc r13).toArray)),([],fun us v=>True)] : Gs) D u) hE (fun u=>⟨M.qE (M.qE (M.q0 hM.drew u) emO) emO,JH⟩) (ZK (Zb ?_ (Zb ?_ (Zb ?_ (Zb ?_ (Zb ?_ (Zb ?_ (Zb ?_ (Zb ?_ ZE))))))))) ?_
 ·intro a w ux9 D hE hI hD hdc hp
  have hM0:=hI.1
  have hM:=hI.1
  exact Zl (cs:=enc p0) hE Za ld rfl U3 rfl (hM.rawAt (pre:=[_,_,_])) (Y8 (cl1 (n:=1) (m:=289) rfl (cl1 (n:=256) (m:=33) (Flat.len _) (cl1 (n:=16) (m:=17) (Flat.len _) (cl1 (n:=16) (m:=1) (Flat.len _) (cl1 (n:=1) (m:=0) rfl cl0)))))) fun a hE=>⟨_,_,rfl,hE,M.qKeep hM0 rfl,hI.2.put hD rfl ZQ rfl⟩
 ·intro a w ux9 D hE hI hD hdc hp
  have hM0:=hI.1
  have hM:=hI.1
  exact Zl (cs:=enc p1) hE Za ld rfl ZG rfl (hM.rawAt (pre:=[_,_])) (Flat.len _) fun a hE=>⟨_,_,rfl,hE,M.qKeep hM0 rfl,hI.2.put hD rfl ZQ rfl⟩
 ·intro a w ux9 D hE hI hD hdc hp
  have hM0:=hI.1
  exact Zd hE Za ld rfl fun a hE=>⟨_,_,rfl,hE,M.qKeep hM0 rfl,hI.2.put hD rfl ZQ rfl⟩
 ·intro a w ux9 D hE hI hD hdc hp
  have d0 : D 0 = true:=hp 0 _ rfl rfl
  have g0:=hI.2 0 d0 _ rfl
  have f0 : ux9 0 = (Value.agg (enc p0).toArray):=g0.2
  have d1 : D 1 = true:=hp 1 _ rfl rfl
  have g1:=hI.2 1 d1 _ rfl
  have f1 : ux9 1 = (Value.agg (enc p1).toArray):=g1.2
  have d2 : D 2 = true:=hp 2 _ rfl rfl
  have g2:=hI.2 2 d2 _ rfl
  have f2 : ux9 2 = (vI p3):=g2.2
  have hM0:=hI.1
  have hM:=hI.1
  refine Zq hE Za ld (ZV (ZT (lk rfl f0) (ZT (lk rfl f1) (ZT (lk rfl f2) Xw)))) cb116 (Tb _ p0 p1 p3 r10 e11) ?_
  rintro _ w a ⟨_,rfl,hFr,hK⟩ hE
  have hM:=hM0.add hK hFr
  exact ⟨_,_,rfl,hE,M.qFill (mk1:=[]) (mk2:=[_]) (f:=(fun v=>osl NoB (r10 : List (Vector UInt8 16)) v)) hM rfl hD,hI.2.put hD rfl ZQ trivial⟩
 ·intro a w ux9 D hE hI hD hdc hp
  have hM0:=hI.1
  exact Zo hE Za ld rfl (Ti) fun a hE=>⟨_,_,rfl,hE,M.qKeep hM0 rfl,hI.2.put hD rfl ZQ rfl⟩
 ·intro a w ux9 D hE hI hD hdc hp
  have d4 : D 4 = true:=hp 0 _ rfl rfl
  have g4:=hI.2 4 d4 _ rfl
  have f4 : ux9 4 = (ptr b1 (0 + 1)):=g4.2
  have hM0:=hI.1
  have hM:=hI.1
  exact Zl (cs:=enc p0.Box) hE Za ld (lk rfl f4) WO rfl (At.cat (pre:=[[vI p0.Field]]) (hM.rawAt (pre:=[_,_,_])) (cl1 (n:=1) (m:=0) rfl cl0)) (Flat.len _) fun a hE=>⟨_,_,rfl,hE,M.qKeep hM0 rfl,hI.2.put hD rfl ZQ rfl⟩
 ·intro a w ux9 D hE hI hD hdc hp
  have d5 : D 5 = true:=hp 0 _ rfl rfl
  have g5:=hI.2 5 d5 _ rfl
  have f5 : ux9 5 = (Value.agg (enc p0.Box).toArray):=g5.2
  have hM0:=hI.1
  refine Zq hE Za ld (ZV (ZT (lk rfl f5) Xw)) cb117 (Qd _ p0.Box r13 e14) ?_
  rintro v w a ⟨rfl,hK⟩ hE
  exact ⟨_,_,rfl,hE,M.qKeep (hM0.keep hK) rfl,hI.2.put hD rfl ZQ rfl⟩
 ·intro a w ux9 D hE hI hD hdc hp
  have hM0:=hI.1
  have hM:=hI.1
  refine ZF hE hM Za ld WO ?_; intro b15 w a hM hE
  have hM:=hM.pack1 (it:=UA _ (enc (Vector.replicate 256 (0 : UInt8)))) (fun w w' fp ⟨b',e,k⟩ hb=>⟨b',e,Vx w w' fp k hb⟩) (fun fp k=>⟨_,rfl,k⟩)
  exact ⟨_,_,rfl,hE,M.qFill (mk1:=[_]) (mk2:=[]) (f:=fun v=>UA v (enc (Vector.replicate 256 (0 : UInt8)))) hM rfl hD,hI.2.put hD rfl ZQ trivial⟩
 ·intro a w ux9 D hE hI hall
  have hM : M (Old w0) w0 w [raw b7 (enc (Vector.replicate 16 (0 : UInt8))),raw b5 (enc p2),raw b3 (enc p1),raw b1 (cat [[vI p0.Field],enc p0.Box,enc p0.Mix,enc p0.Places,[vI p0.Rounds]]),opt (D 3) (osl NoB (r10 : List (Vector UInt8 16)) (ux9 3)),opt (D 7) (UA (ux9 7) (enc (Vector.replicate 256 (0 : UInt8))))]:=hI.1
  have d0 : D 0 = true:=hall 0 (by decide)
  have d1 : D 1 = true:=hall 1 (by decide)
  have d2 : D 2 = true:=hall 2 (by decide)
  have d3 : D 3 = true:=hall 3 (by decide)
  have d4 : D 4 = true:=hall 4 (by decide)
  have d5 : D 5 = true:=hall 5 (by decide)
  have d6 : D 6 = true:=hall 6 (by decide)
  have d7 : D 7 = true:=hall 7 (by decide)
  have f0 : ux9 0 = (Value.agg (enc p0).toArray):=(hI.2 0 d0 _ rfl).2
  have f1 : ux9 1 = (Value.agg (enc p1).toArray):=(hI.2 1 d1 _ rfl).2
  have f2 : ux9 2 = (vI p3):=(hI.2 2 d2 _ rfl).2
  have f4 : ux9 4 = (ptr b1 (0 + 1)):=(hI.2 4 d4 _ rfl).2
  have f5 : ux9 5 = (Value.agg (enc p0.Box).toArray):=(hI.2 5 d5 _ rfl).2
  have f6 : ux9 6 = (Value.agg (enc r13).toArray):=(hI.2 6 d6 _ rfl).2
  have hM:=((hM.sure (pre:=[_,_,_,_]) d3).sure (pre:=[_,_,_,_,_]) d7).pull
  obtain ⟨_,⟨b17,f18,_⟩,_⟩:=hM.head
  have hM:=hM.pack1 Vx (it:=raw b17 (enc (Vector.replicate 256 (0 : UInt8)))) (fun fp ⟨b2,e2,k2⟩=>by rw [f18] at e2; simp [ptr] at e2; subst e2; exact k2)
  have hE:=hE.sub (e':=[(17,(ux9 3)),(20,(Value.agg (enc r13).toArray)),(10,(ptr b17 0)),(3,vI p3),(4,(ptr b1 0)),(6,(ptr b5 0)),(8,(ptr b7 0))]) ⟨rfl,lk rfl f6,lk rfl f18,rfl,rfl,rfl,rfl,trivial⟩
  refine Ze hE Za ld rfl fun a hE=>Zm (seg:=enc r13) (cs':=enc r13) hE hM Za rfl rfl rfl WO (Flat.len _) (zle flq) (Flat.cell _) (Zn flq) fun w a hM hE=>Zi (Zt (Zc (Zo hE Za ld rfl (Ud) fun a hE=>Zv (v:=(vI p0.Field)) hE Za ld rfl ty2 rfl (At.cat (pre:=[]) (hM.rawAt (pre:=[_,_,_,_])) cl0) fun a hE=>Zo hE Za ld rfl (TV) fun a hE=>Zl (cs:=enc p0.Mix) hE Za ld rfl Yw rfl (At.cat (pre:=[[vI p0.Field],enc p0.Box]) (hM.rawAt (pre:=[_,_,_,_])) (cl1 (n:=1) (m:=256) rfl (cl1 (n:=256) (m:=0) (Flat.len _) cl0))) (Flat.len _) ?_))); intro a hE
  obtain ⟨r19,e20,hF⟩:=bind_some hF
  refine Zq hE Za ld rfl cb115 (Un _ p0.Field p0.Mix r19 e20) ?_
  rintro v w a ⟨rfl,hK⟩ hE
  have hM:=hM.keep hK
  refine Zd hE Za ld rfl fun a hE=>Yt hE Za ld rfl rfl fun a hE=>Yt hE Za ld rfl rfl fun a hE=>ZF hE hM Za ld Yw fun b21 w a hM hE=>Zm (seg:=enc r19.1) (cs':=enc r19.1) hE hM Za rfl rfl rfl Yw (Flat.len _) (zle flq) (Flat.cell _) (Zn flq) fun w a hM hE=>Ze hE Za ld rfl fun a hE=>Zf (wp_seq (Zc (Zd hE Za ld rfl fun a hE=>Ze hE Za ld rfl fun a hE=>Zf ?_)))
  obtain ⟨j23,hl24,hF25⟩:=bind_some hF
  refine ZP (fun a w=>Env 59 a [(6,(ptr b5 0)),(8,(ptr b7 0)),(9,(ux9 3))] ∧ M (Old w0) w0 w [raw b7 (enc (Vector.replicate 16 (0 : UInt8))),raw b5 (enc j23),osl NoB (r10 : List (Vector UInt8 16)) (ux9 3)]) ?_ ?_
  ·skip
   refine wp_block ?_
   have hM:=M.fst (l:=[_,_,_,_,_,_]) ((((((hM.pull (pre:=[_,_,_,_,_,_])).pull (pre:=[_,_,_,_,_,_])).pull (pre:=[_,_,_,_,_])).pull (pre:=[_,_,_,_,_])).pull (pre:=[_,_,_,_,_])).pull (pre:=[_,_,_,_,_]))
   refine ZJ (fun (s26 : (Vector UInt8 16) × Int) a w=>Env 59 a [(3,vI p3),(4,(ptr b1 0)),(6,(ptr b5 0)),(8,(ptr b7 0)),(9,(ux9 3)),(10,(ptr b17 0)),(11,(ptr b21 0)),(13,vI s26.2)] ∧ M (Old w0) w0 w [raw b21 (enc r19.1),raw b17 (enc r13),raw b7 (enc (Vector.replicate 16 (0 : UInt8))),raw b5 (enc s26.1),raw b1 (cat [[vI p0.Field],enc p0.Box,enc p0.Mix,enc p0.Places,[vI p0.Rounds]]),osl NoB (r10 : List (Vector UInt8 16)) (ux9 3)]) hl24 ⟨hE.sub ⟨rfl,rfl,rfl,rfl,rfl,rfl,rfl,rfl,trivial⟩,hM⟩ ?_
   rintro s26 a w ⟨hE,hM⟩ o29 hs27 hx28
   unfold YI at hs27
   refine wp_seq (Zc (Zd hE Za ld rfl fun a hE=>Zk hE Za ld rfl rfl rfl fun a hE=>Zf ?_))
   refine Zr hE rfl ?_ ?_
   ·intro hb30
    have hs27:=Zw hs27 hb30
    refine wp_skip (Zt ?_)
    obtain ⟨j31,hl32,hF33⟩:=bind_some hs27
    refine ZL (fun a w=>Env 59 a [(3,vI p3),(4,(ptr b1 0)),(6,(ptr b5 0)),(8,(ptr b7 0)),(9,(ux9 3)),(10,(ptr b17 0)),(11,(ptr b21 0)),(13,vI s26.2)] ∧ M (Old w0) w0 w [raw b21 (enc r19.1),raw b17 (enc r13),raw b7 (enc (Vector.replicate 16 (0 : UInt8))),raw b5 (enc j31),raw b1 (cat [[vI p0.Field],enc p0.Box,enc p0.Mix,enc p0.Places,[vI p0.Rounds]]),osl NoB (r10 : List (Vector UInt8 16)) (ux9 3)]) ?_ ?_
    ·skip
     refine wp_block ?_
     obtain ⟨j34,hl35,hF36⟩:=bind_some hl32
     refine ZL (fun a w=>Env 59 a [(3,vI p3),(4,(ptr b1 0)),(6,(ptr b5 0)),(8,(ptr b7 0)),(9,(ux9 3)),(10,(ptr b17 0)),(11,(ptr b21 0)),(13,vI s26.2)] ∧ M (Old w0) w0 w [raw b21 (enc r19.1),raw b17 (enc r13),raw b7 (enc (Vector.replicate 16 (0 : UInt8))),raw b5 (enc j34),raw b1 (cat [[vI p0.Field],enc p0.Box,enc p0.Mix,enc p0.Places,[vI p0.Rounds]]),osl NoB (r10 : List (Vector UInt8 16)) (ux9 3)]) ?_ ?_
     ·skip
      obtain ⟨x38,hi40,hl35⟩:=bix hl35
      obtain ⟨r41,e42,hl35⟩:=bind_some hl35
      refine Yd (n:=59) (hd:=[_,_,_,_,_,_]) (tl:=[_]) YR rfl rfl [34,35,36,37,38,39] (by decide) (fun w=>M (Old w0) w0 w [raw b21 (enc r19.1),raw b17 (enc r13),raw b7 (enc (Vector.replicate 16 (0 : UInt8))),raw b5 (enc s26.1),raw b1 (cat [[vI p0.Field],enc p0.Box,enc p0.Mix,enc p0.Places,[vI p0.Rounds]]),osl NoB (r10 : List (Vector UInt8 16)) (ux9 3)]) (fun j=>([fun v _=>v = (Value.agg (enc s26.1).toArray),fun v _=>v = (ux9 3),fun v _=>v = (vI s26.2),fun v _=>v = (ptr (sb (ux9 3)) (so (ux9 3) + (s26.2).toNat * 16)),fun v _=>v = (Value.agg (enc x38).toArray),fun v _=>v = (Value.agg (enc r41).toArray)] : List (Value → World → Prop)).getD j (fun _ _=>True)) (fun _ _ h hk=>h.keep hk) (gup (Zh (Zh (Zh (Zh (Zh (Zh WV))))))) hE hM.drew (ZK (Zb ?_ (Zb ?_ (Zb ?_ (Zb ?_ (Zb ?_ (Zb ?_ ZE))))))) ?_
      ·exact fun a w ux37 hE hM hp=>Zl (cs:=enc s26.1) hE Za ld rfl ZG rfl (hM.rawAt (pre:=[_,_,_])) (Flat.len _) fun a hE=>⟨Kept.refl _ _,_,_,rfl,hE,rfl⟩
      ·exact fun a w ux37 hE hM hp=>Zd hE Za ld rfl fun a hE=>⟨Kept.refl _ _,_,_,rfl,hE,rfl⟩
      ·exact fun a w ux37 hE hM hp=>Zd hE Za ld rfl fun a hE=>⟨Kept.refl _ _,_,_,rfl,hE,rfl⟩
      ·intro a w ux37 hE hM hp
       have f1 : ux37 1 = (ux9 3):=hp 0 _ rfl rfl
       have f2 : ux37 2 = (vI s26.2):=hp 1 _ rfl rfl
       exact YT hE Za ld (lk rfl f1) (lk rfl f2) Try.underlying69 ZG (hM.sl (pre:=[_,_,_,_,_]) noB) hi40.1 fun a hE=>⟨Kept.refl _ _,_,_,rfl,hE,rfl⟩
      ·intro a w ux37 hE hM hp
       have f3 : ux37 3 = (ptr (sb (ux9 3)) (so (ux9 3) + (s26.2).toNat * 16)):=hp 0 _ rfl rfl
       exact Zl (cs:=enc x38) hE Za ld (lk rfl f3) ZG rfl (Vb (hM.sl (pre:=[_,_,_,_,_]) noB) hi40.2) (Flat.len _) fun a hE=>⟨Kept.refl _ _,_,_,rfl,hE,rfl⟩
      ·intro a w ux37 hE hM hp
       have f0 : ux37 0 = (Value.agg (enc s26.1).toArray):=hp 0 _ rfl rfl
       have f4 : ux37 4 = (Value.agg (enc x38).toArray):=hp 1 _ rfl rfl
       refine Zq hE Za ld (ZV (ZT (lk rfl f0) (ZT (lk rfl f4) Xw))) HY (VM _ s26.1 x38 r41 e42) ?_
       rintro v w a ⟨rfl,hK⟩ hE
       exact ⟨hK,_,_,rfl,hE,rfl⟩
      ·intro a w ux37 hE hM hg
       have hE:=hE.sub (e':=[(39,(Value.agg (enc r41).toArray)),(3,vI p3),(4,(ptr b1 0)),(6,(ptr b5 0)),(8,(ptr b7 0)),(9,(ux9 3)),(10,(ptr b17 0)),(11,(ptr b21 0)),(13,vI s26.2),(30,vI s26.2),(31,(vT (decide (s26.2 ≥ 1))))]) ⟨lk rfl (hg 5 (by decide)),rfl,rfl,rfl,rfl,rfl,rfl,rfl,rfl,rfl,rfl,trivial⟩
       have hM:=hM.pull (pre:=[_,_,_])
       refine Zm (seg:=enc r41) (cs':=enc r41) hE hM Za rfl rfl rfl ZG (Flat.len _) (zle flq) (Flat.cell _) (Zn flq) fun w a hM hE=>Zi ?_
       have ht43:=Option.some.inj hl35
       subst ht43
       refine Zj ?_
       have hM:=(((((hM.pull (pre:=[_,_,_,_,_])).pull (pre:=[_,_,_,_,_])).pull (pre:=[_,_])).pull (pre:=[_,_,_,_,_])).pull (pre:=[_,_,_,_,_])).pull (pre:=[_,_,_,_,_])
       exact ⟨hE.sub ⟨rfl,rfl,rfl,rfl,rfl,rfl,rfl,rfl,trivial⟩,hM⟩
     ·skip
      rintro a w ⟨hE,hM⟩
      obtain ⟨j44,hl45,hF46⟩:=bind_some hF36
      refine ZL (fun a w=>Env 59 a [(3,vI p3),(4,(ptr b1 0)),(6,(ptr b5 0)),(8,(ptr b7 0)),(9,(ux9 3)),(10,(ptr b17 0)),(11,(ptr b21 0)),(13,vI s26.2)] ∧ M (Old w0) w0 w [raw b21 (enc r19.1),raw b17 (enc r13),raw b7 (enc (Vector.replicate 16 (0 : UInt8))),raw b5 (enc j44),raw b1 (cat [[vI p0.Field],enc p0.Box,enc p0.Mix,enc p0.Places,[vI p0.Rounds]]),osl NoB (r10 : List (Vector UInt8 16)) (ux9 3)]) ?_ ?_
      ·skip
       refine Zc (Zd hE Za ld rfl fun a hE=>Zd hE Za ld rfl fun a hE=>Zk hE Za ld rfl rfl rfl fun a hE=>Zf ?_)
       refine Zr hE rfl ?_ ?_
       ·intro hb47
        have hl45:=Zw hl45 hb47
        refine wp_region_lit (Zo hE Za ld rfl (Ud) fun a hE=>Zv (v:=(vI p0.Field)) hE Za ld rfl ty2 rfl (At.cat (pre:=[]) (hM.rawAt (pre:=[_,_,_,_])) cl0) fun a hE=>Zl (cs:=enc r19.1) hE Za ld rfl Yw rfl (hM.rawAt (pre:=[])) (Flat.len _) fun a hE=>Zl (cs:=enc j34) hE Za ld rfl ZG rfl (hM.rawAt (pre:=[_,_,_])) (Flat.len _) ?_); intro a hE
        obtain ⟨r48,e49,hl45⟩:=bind_some hl45
        refine Zq hE Za ld rfl cb119 (TD _ p0.Field r19.1 j34 r48 e49) ?_
        rintro v w a ⟨rfl,hK⟩ hE
        have hM:=(hM.keep hK).pull (pre:=[_,_,_])
        refine Zm (seg:=enc r48) (cs':=enc r48) hE hM Za rfl rfl rfl ZG (Flat.len _) (zle flq) (Flat.cell _) (Zn flq) fun w a hM hE=>Zi ?_
        have ht50:=Option.some.inj hl45
        subst ht50
        refine Zj ?_
        have hM:=(((((hM.pull (pre:=[_,_,_,_,_])).pull (pre:=[_,_,_,_,_])).pull (pre:=[_,_])).pull (pre:=[_,_,_,_,_])).pull (pre:=[_,_,_,_,_])).pull (pre:=[_,_,_,_,_])
        exact ⟨hE.sub ⟨rfl,rfl,rfl,rfl,rfl,rfl,rfl,rfl,trivial⟩,hM⟩
       ·intro hb47
        have hl45:=Zx hl45 hb47
        refine wp_skip ?_
        have ht51:=Option.some.inj hl45
        subst ht51
        refine Zj ?_
        exact ⟨hE.sub ⟨rfl,rfl,rfl,rfl,rfl,rfl,rfl,rfl,trivial⟩,hM⟩
      ·skip
       rintro a w ⟨hE,hM⟩
       obtain ⟨r53,e54,hF46⟩:=bind_some hF46
       obtain ⟨r55,e56,hF46⟩:=bind_some hF46
       refine Yd (n:=59) (hd:=[_,_,_,_,_,_]) (tl:=[_]) YR rfl rfl [48,49,50,51,52,53] (by decide) (fun w=>M (Old w0) w0 w [raw b21 (enc r19.1),raw b17 (enc r13),raw b7 (enc (Vector.replicate 16 (0 : UInt8))),raw b5 (enc j44),raw b1 (cat [[vI p0.Field],enc p0.Box,enc p0.Mix,enc p0.Places,[vI p0.Rounds]]),osl NoB (r10 : List (Vector UInt8 16)) (ux9 3)]) (fun j=>([fun v _=>v = (Value.agg (enc r13).toArray),fun v _=>v = (ptr b1 (0 + 273)),fun v _=>v = (Value.agg (enc p0.Places).toArray),fun v _=>v = (Value.agg (enc j44).toArray),fun v _=>v = (Value.agg (enc r53).toArray),fun v _=>v = (Value.agg (enc r55).toArray)] : List (Value → World → Prop)).getD j (fun _ _=>True)) (fun _ _ h hk=>h.keep hk) (gup (Zh (Zh (Zh (Zh (Zh (Zh WV))))))) hE hM.drew (ZK (Zb ?_ (Zb ?_ (Zb ?_ (Zb ?_ (Zb ?_ (Zb ?_ ZE))))))) ?_
       ·exact fun a w ux52 hE hM hp=>Zl (cs:=enc r13) hE Za ld rfl WO rfl (hM.rawAt (pre:=[_])) (Flat.len _) fun a hE=>⟨Kept.refl _ _,_,_,rfl,hE,rfl⟩
       ·exact fun a w ux52 hE hM hp=>Zo hE Za ld rfl (TK) fun a hE=>⟨Kept.refl _ _,_,_,rfl,hE,rfl⟩
       ·intro a w ux52 hE hM hp
        have f1 : ux52 1 = (ptr b1 (0 + 273)):=hp 0 _ rfl rfl
        exact Zl (cs:=enc p0.Places) hE Za ld (lk rfl f1) WZ rfl (At.cat (pre:=[[vI p0.Field],enc p0.Box,enc p0.Mix]) (hM.rawAt (pre:=[_,_,_,_])) (cl1 (n:=1) (m:=272) rfl (cl1 (n:=256) (m:=16) (Flat.len _) (cl1 (n:=16) (m:=0) (Flat.len _) cl0)))) (Flat.len _) fun a hE=>⟨Kept.refl _ _,_,_,rfl,hE,rfl⟩
       ·exact fun a w ux52 hE hM hp=>Zl (cs:=enc j44) hE Za ld rfl ZG rfl (hM.rawAt (pre:=[_,_,_])) (Flat.len _) fun a hE=>⟨Kept.refl _ _,_,_,rfl,hE,rfl⟩
       ·intro a w ux52 hE hM hp
        have f2 : ux52 2 = (Value.agg (enc p0.Places).toArray):=hp 0 _ rfl rfl
        have f3 : ux52 3 = (Value.agg (enc j44).toArray):=hp 1 _ rfl rfl
        refine Zq hE Za ld (ZV (ZT (lk rfl f2) (ZT (lk rfl f3) Xw))) cb121 (KF _ p0.Places j44 r53 e54) ?_
        rintro v w a ⟨rfl,hK⟩ hE
        exact ⟨hK,_,_,rfl,hE,rfl⟩
       ·intro a w ux52 hE hM hp
        have f0 : ux52 0 = (Value.agg (enc r13).toArray):=hp 0 _ rfl rfl
        have f4 : ux52 4 = (Value.agg (enc r53).toArray):=hp 1 _ rfl rfl
        refine Zq hE Za ld (ZV (ZT (lk rfl f0) (ZT (lk rfl f4) Xw))) cb120 (UX _ r13 r53 r55 e56) ?_
        rintro v w a ⟨rfl,hK⟩ hE
        exact ⟨hK,_,_,rfl,hE,rfl⟩
       ·intro a w ux52 hE hM hg
        have hE:=hE.sub (e':=[(53,(Value.agg (enc r55).toArray)),(3,vI p3),(4,(ptr b1 0)),(6,(ptr b5 0)),(8,(ptr b7 0)),(9,(ux9 3)),(10,(ptr b17 0)),(11,(ptr b21 0)),(13,vI s26.2)]) ⟨lk rfl (hg 5 (by decide)),rfl,rfl,rfl,rfl,rfl,rfl,rfl,rfl,trivial⟩
        have hM:=hM.pull (pre:=[_,_,_])
        refine Zm (seg:=enc r55) (cs':=enc r55) hE hM Za rfl rfl rfl ZG (Flat.len _) (zle flq) (Flat.cell _) (Zn flq) fun w a hM hE=>Zi (Yi ?_)
        have ht57:=Option.some.inj hF46
        subst ht57
        refine Zj ?_
        have hM:=(((((hM.pull (pre:=[_,_,_,_,_])).pull (pre:=[_,_,_,_,_])).pull (pre:=[_,_])).pull (pre:=[_,_,_,_,_])).pull (pre:=[_,_,_,_,_])).pull (pre:=[_,_,_,_,_])
        exact ⟨hE.sub ⟨rfl,rfl,rfl,rfl,rfl,rfl,rfl,rfl,trivial⟩,hM⟩
    ·skip
     rintro a w ⟨hE,hM⟩
     refine wp_region_lit (Zd hE Za ld rfl fun a hE=>Zk hE Za ld rfl rfl rfl fun a hE=>Ze hE Za ld rfl fun a hE=>Zi (Zj ?_))
     exact ⟨_,(ois hF33),hE.sub ⟨rfl,rfl,rfl,rfl,rfl,rfl,rfl,rfl,trivial⟩,hM⟩
   ·intro hb30
    have hs27:=Zx hs27 hb30
    refine wp_exit (Zp (Zp (Yj ?_)))
    have ht58:=hx28 _ (ois hs27)
    subst ht58
    refine Zj ?_
    have hM:=M.fst (l:=[_,_,_]) (((hM.pull (pre:=[_,_,_,_,_])).pull (pre:=[_,_,_,_])).pull (pre:=[_,_,_,_]))
    exact ⟨hE.sub ⟨rfl,rfl,rfl,trivial⟩,hM⟩
  ·skip
   rintro a w ⟨hE,hM⟩
   refine Zt ?_
   obtain ⟨j59,hl60,hF61⟩:=bind_some hF25
   refine ZL (fun a w=>Env 59 a [(8,(ptr b7 0))] ∧ M (Old w0) w0 w [raw b7 (enc j59)]) ?_ ?_
   ·skip
    obtain ⟨x63,hi65,hl60⟩:=bix hl60
    obtain ⟨r66,e67,hl60⟩:=bind_some hl60
    refine Yd (n:=59) (hd:=[_,_,_,_,_]) (tl:=[_]) YR rfl rfl [54,55,56,57,58] (by decide) (fun w=>M (Old w0) w0 w [raw b7 (enc (Vector.replicate 16 (0 : UInt8))),raw b5 (enc j23),osl NoB (r10 : List (Vector UInt8 16)) (ux9 3)]) (fun j=>([fun v _=>v = (Value.agg (enc j23).toArray),fun v _=>v = (ux9 3),fun v _=>v = (ptr (sb (ux9 3)) (so (ux9 3) + ((0 : Int)).toNat * 16)),fun v _=>v = (Value.agg (enc x63).toArray),fun v _=>v = (Value.agg (enc r66).toArray)] : List (Value → World → Prop)).getD j (fun _ _=>True)) (fun _ _ h hk=>h.keep hk) (gup (Zh (Zh (Zh (Zh (Zh WV)))))) hE hM.drew (ZK (Zb ?_ (Zb ?_ (Zb ?_ (Zb ?_ (Zb ?_ ZE)))))) ?_
    ·exact fun a w ux62 hE hM hp=>Zl (cs:=enc j23) hE Za ld rfl ZG rfl (hM.rawAt (pre:=[_])) (Flat.len _) fun a hE=>⟨Kept.refl _ _,_,_,rfl,hE,rfl⟩
    ·exact fun a w ux62 hE hM hp=>Zd hE Za ld rfl fun a hE=>⟨Kept.refl _ _,_,_,rfl,hE,rfl⟩
    ·intro a w ux62 hE hM hp
     have f1 : ux62 1 = (ux9 3):=hp 0 _ rfl rfl
     exact YT hE Za ld (lk rfl f1) rfl Try.underlying69 ZG (hM.sl (pre:=[_,_]) noB) hi65.1 fun a hE=>⟨Kept.refl _ _,_,_,rfl,hE,rfl⟩
    ·intro a w ux62 hE hM hp
     have f2 : ux62 2 = (ptr (sb (ux9 3)) (so (ux9 3) + ((0 : Int)).toNat * 16)):=hp 0 _ rfl rfl
     exact Zl (cs:=enc x63) hE Za ld (lk rfl f2) ZG rfl (Vb (hM.sl (pre:=[_,_]) noB) hi65.2) (Flat.len _) fun a hE=>⟨Kept.refl _ _,_,_,rfl,hE,rfl⟩
    ·intro a w ux62 hE hM hp
     have f0 : ux62 0 = (Value.agg (enc j23).toArray):=hp 0 _ rfl rfl
     have f3 : ux62 3 = (Value.agg (enc x63).toArray):=hp 1 _ rfl rfl
     refine Zq hE Za ld (ZV (ZT (lk rfl f0) (ZT (lk rfl f3) Xw))) HY (VM _ j23 x63 r66 e67) ?_
     rintro v w a ⟨rfl,hK⟩ hE
     exact ⟨hK,_,_,rfl,hE,rfl⟩
    ·intro a w ux62 hE hM hg
     have hE:=hE.sub (e':=[(58,(Value.agg (enc r66).toArray)),(8,(ptr b7 0))]) ⟨lk rfl (hg 4 (by decide)),rfl,trivial⟩
     refine Zm (seg:=enc r66) (cs':=enc r66) hE hM Za rfl rfl rfl ZG (Flat.len _) (zle flq) (Flat.cell _) (Zn flq) fun w a hM hE=>Zi ?_
     have ht68:=Option.some.inj hl60
     subst ht68
     refine Zj ?_
     have hM:=M.fst (l:=[_]) hM
     exact ⟨hE.sub ⟨rfl,trivial⟩,hM⟩
   ·skip
    rintro a w ⟨hE,hM⟩
    have hr:=Option.some.inj hF61
    subst hr
    have hq69 : YD Try.prog _ _ (.cell 8 55) _:=ZW hE rfl ZG rfl (hM.rawAt (pre:=[])) (Flat.len _) rfl
    have hM:=M.fst (l:=[]) hM
    exact wp_ret (ZD hE rfl hq69 ⟨_,rfl,rfl,hM.kept⟩)
def YJ (p0 : GCipher) (p3 : Int) (r9 : (List (Vector UInt8 16))) (s25 : (Vector UInt8 16) × Int) : Option (Fl ((Vector UInt8 16) × Int) (Vector UInt8 16)) :=
 if (decide (s25.2 ≤ p3)) = true then ((((XV p0.Box s25.1).bind fun r37=>(Xc p0.Places r37).bind fun r39=>some r39 : Option ((Vector UInt8 16))).bind fun j33=>(if (decide (s25.2 < p3)) = true then ((WE p0.Field p0.Mix j33).bind fun r46=>some r46) else (some j33) : Option ((Vector UInt8 16))).bind fun j42=>(idx r9 s25.2).bind fun x51=>(XA j42 x51).bind fun r54=>some r54 : Option ((Vector UInt8 16))).bind fun j30=>some (Fl.nx (j30,wr (s25.2 + 1)))) else (some (Fl.ex s25.1))
def Yv (p0 : GCipher) (p1 : (Vector UInt8 16)) (p2 : (Vector UInt8 16)) (p3 : Int) : Option ((Vector UInt8 16)) :=
 (Wb p0 p1 p3).bind fun r9=>((idx r9 (0 : Int)).bind fun x16=>(XA p2 x16).bind fun r19=>some r19 : Option ((Vector UInt8 16))).bind fun j12=>(ZB (YJ p0 p3 r9) (j12,1)).bind fun j22=>some j22
theorem TS (w0 : World) (p0 : GCipher) (p1 : (Vector UInt8 16)) (p2 : (Vector UInt8 16)) (p3 : Int) (r : (Vector UInt8 16)) (hF : Yv p0 p1 p2 p3 = some r) :
  Calls Try.prog 73 [(Value.agg (enc p0).toArray),(Value.agg (enc p1).toArray),(Value.agg (enc p2).toArray),vI p3].toArray w0 (fun en w'=>∃ v,en = .returned v ∧ (v = (Value.agg (enc r).toArray) ∧ Kept (Old w0) w0 w')):=by
 refine ZC (n:=48) Try.func73 rfl rfl (nbl rfl) rfl ?_
 intro a hE
 have hM:=M.start w0
 unfold Yv at hF
 refine Zc (ZX (cs:=cat [[vI p0.Field],enc p0.Box,enc p0.Mix,enc p0.Places,[vI p0.Rounds]]) hE hM Za ld rfl rfl fun b1 w a hM hE=>ZX (cs:=enc p1) hE hM Za ld rfl rfl fun b3 w a hM hE=>ZX (cs:=enc p2) hE hM Za ld rfl rfl fun b5 w a hM hE=>ZF hE hM Za ld ZG fun b7 w a hM hE=>Zf (Zc (Zl (cs:=enc p0) hE Za ld rfl U3 rfl (hM.rawAt (pre:=[_,_,_])) (Y8 (cl1 (n:=1) (m:=289) rfl (cl1 (n:=256) (m:=33) (Flat.len _) (cl1 (n:=16) (m:=17) (Flat.len _) (cl1 (n:=16) (m:=1) (Flat.len _) (cl1 (n:=1) (m:=0) rfl cl0)))))) fun a hE=>Zl (cs:=enc p1) hE Za ld rfl ZG rfl (hM.rawAt (pre:=[_,_])) (Flat.len _) fun a hE=>Zd hE Za ld rfl ?_))); intro a hE
 obtain ⟨r9,e10,hF⟩:=bind_some hF
 refine Zq hE Za ld rfl cb116 (Tb _ p0 p1 p3 r9 e10) ?_
 rintro u11 w a ⟨_,rfl,hFr,hK⟩ hE
 have hM:=hM.add hK hFr
 refine Ze hE Za ld rfl fun a hE=>Zf ?_
 obtain ⟨j12,hl13,hF14⟩:=bind_some hF
 refine ZL (fun a w=>Env 48 a [(3,vI p3),(4,(ptr b1 0)),(6,(ptr b5 0)),(8,(ptr b7 0)),(9,u11)] ∧ M (Old w0) w0 w [osl NoB (r9 : List (Vector UInt8 16)) u11,raw b7 (enc (Vector.replicate 16 (0 : UInt8))),raw b5 (enc j12),raw b1 (cat [[vI p0.Field],enc p0.Box,enc p0.Mix,enc p0.Places,[vI p0.Rounds]])]) ?_ ?_
 ·skip
  obtain ⟨x16,hi18,hl13⟩:=bix hl13
  obtain ⟨r19,e20,hl13⟩:=bind_some hl13
  refine Yd (n:=48) (hd:=[_,_,_,_,_]) (tl:=[_]) YR rfl rfl [15,16,17,18,19] (by decide) (fun w=>M (Old w0) w0 w [osl NoB (r9 : List (Vector UInt8 16)) u11,raw b7 (enc (Vector.replicate 16 (0 : UInt8))),raw b5 (enc p2),raw b3 (enc p1),raw b1 (cat [[vI p0.Field],enc p0.Box,enc p0.Mix,enc p0.Places,[vI p0.Rounds]])]) (fun j=>([fun v _=>v = (Value.agg (enc p2).toArray),fun v _=>v = u11,fun v _=>v = (ptr (sb u11) (so u11 + ((0 : Int)).toNat * 16)),fun v _=>v = (Value.agg (enc x16).toArray),fun v _=>v = (Value.agg (enc r19).toArray)] : List (Value → World → Prop)).getD j (fun _ _=>True)) (fun _ _ h hk=>h.keep hk) (gup (Zh (Zh (Zh (Zh (Zh WV)))))) hE hM.drew (ZK (Zb ?_ (Zb ?_ (Zb ?_ (Zb ?_ (Zb ?_ ZE)))))) ?_
  ·exact fun a w ux15 hE hM hp=>Zl (cs:=enc p2) hE Za ld rfl ZG rfl (hM.rawAt (pre:=[_,_])) (Flat.len _) fun a hE=>⟨Kept.refl _ _,_,_,rfl,hE,rfl⟩
  ·exact fun a w ux15 hE hM hp=>Zd hE Za ld rfl fun a hE=>⟨Kept.refl _ _,_,_,rfl,hE,rfl⟩
  ·intro a w ux15 hE hM hp
   have f1 : ux15 1 = u11:=hp 0 _ rfl rfl
   exact YT hE Za ld (lk rfl f1) rfl Try.underlying69 ZG (hM.sl (pre:=[]) noB) hi18.1 fun a hE=>⟨Kept.refl _ _,_,_,rfl,hE,rfl⟩
  ·intro a w ux15 hE hM hp
   have f2 : ux15 2 = (ptr (sb u11) (so u11 + ((0 : Int)).toNat * 16)):=hp 0 _ rfl rfl
   exact Zl (cs:=enc x16) hE Za ld (lk rfl f2) ZG rfl (Vb (hM.sl (pre:=[]) noB) hi18.2) (Flat.len _) fun a hE=>⟨Kept.refl _ _,_,_,rfl,hE,rfl⟩
  ·intro a w ux15 hE hM hp
   have f0 : ux15 0 = (Value.agg (enc p2).toArray):=hp 0 _ rfl rfl
   have f3 : ux15 3 = (Value.agg (enc x16).toArray):=hp 1 _ rfl rfl
   refine Zq hE Za ld (ZV (ZT (lk rfl f0) (ZT (lk rfl f3) Xw))) HY (VM _ p2 x16 r19 e20) ?_
   rintro v w a ⟨rfl,hK⟩ hE
   exact ⟨hK,_,_,rfl,hE,rfl⟩
  ·intro a w ux15 hE hM hg
   have hE:=hE.sub (e':=[(19,(Value.agg (enc r19).toArray)),(3,vI p3),(4,(ptr b1 0)),(6,(ptr b5 0)),(8,(ptr b7 0)),(9,u11)]) ⟨lk rfl (hg 4 (by decide)),rfl,rfl,rfl,rfl,rfl,trivial⟩
   have hM:=hM.pull (pre:=[_,_])
   refine Zm (seg:=enc r19) (cs':=enc r19) hE hM Za rfl rfl rfl ZG (Flat.len _) (zle flq) (Flat.cell _) (Zn flq) fun w a hM hE=>Zi ?_
   have ht21:=Option.some.inj hl13
   subst ht21
   refine Zj ?_
   have hM:=M.fst (l:=[_,_,_,_]) ((((hM.pull (pre:=[_,_,_,_])).pull (pre:=[_])).pull (pre:=[_,_,_])).pull (pre:=[_,_,_]))
   exact ⟨hE.sub ⟨rfl,rfl,rfl,rfl,rfl,trivial⟩,hM⟩
 ·skip
  rintro a w ⟨hE,hM⟩
  refine wp_seq (Zc (Ze hE Za ld rfl fun a hE=>Zf ?_))
  obtain ⟨j22,hl23,hF24⟩:=bind_some hF14
  refine ZP (fun a w=>Env 48 a [(6,(ptr b5 0)),(8,(ptr b7 0))] ∧ M (Old w0) w0 w [raw b7 (enc (Vector.replicate 16 (0 : UInt8))),raw b5 (enc j22)]) ?_ ?_
  ·skip
   refine wp_block ?_
   refine ZJ (fun (s25 : (Vector UInt8 16) × Int) a w=>Env 48 a [(3,vI p3),(4,(ptr b1 0)),(6,(ptr b5 0)),(8,(ptr b7 0)),(9,u11),(10,vI s25.2)] ∧ M (Old w0) w0 w [osl NoB (r9 : List (Vector UInt8 16)) u11,raw b7 (enc (Vector.replicate 16 (0 : UInt8))),raw b5 (enc s25.1),raw b1 (cat [[vI p0.Field],enc p0.Box,enc p0.Mix,enc p0.Places,[vI p0.Rounds]])]) hl23 ⟨hE.sub ⟨rfl,rfl,rfl,rfl,rfl,rfl,trivial⟩,hM⟩ ?_
   rintro s25 a w ⟨hE,hM⟩ o28 hs26 hx27
   unfold YJ at hs26
   refine wp_seq (Zc (Zd hE Za ld rfl fun a hE=>Zd hE Za ld rfl fun a hE=>Zk hE Za ld rfl rfl rfl fun a hE=>Zf ?_))
   refine Zr hE rfl ?_ ?_
   ·intro hb29
    have hs26:=Zw hs26 hb29
    refine wp_skip (Zt ?_)
    obtain ⟨j30,hl31,hF32⟩:=bind_some hs26
    refine ZL (fun a w=>Env 48 a [(3,vI p3),(4,(ptr b1 0)),(6,(ptr b5 0)),(8,(ptr b7 0)),(9,u11),(10,vI s25.2)] ∧ M (Old w0) w0 w [osl NoB (r9 : List (Vector UInt8 16)) u11,raw b7 (enc (Vector.replicate 16 (0 : UInt8))),raw b5 (enc j30),raw b1 (cat [[vI p0.Field],enc p0.Box,enc p0.Mix,enc p0.Places,[vI p0.Rounds]])]) ?_ ?_
    ·skip
     refine wp_block ?_
     obtain ⟨j33,hl34,hF35⟩:=bind_some hl31
     refine ZL (fun a w=>Env 48 a [(3,vI p3),(4,(ptr b1 0)),(6,(ptr b5 0)),(8,(ptr b7 0)),(9,u11),(10,vI s25.2)] ∧ M (Old w0) w0 w [osl NoB (r9 : List (Vector UInt8 16)) u11,raw b7 (enc (Vector.replicate 16 (0 : UInt8))),raw b5 (enc j33),raw b1 (cat [[vI p0.Field],enc p0.Box,enc p0.Mix,enc p0.Places,[vI p0.Rounds]])]) ?_ ?_
     ·skip
      obtain ⟨r37,e38,hl34⟩:=bind_some hl34
      obtain ⟨r39,e40,hl34⟩:=bind_some hl34
      refine Yd (n:=48) (hd:=[_,_,_,_,_,_,_]) (tl:=[_]) YR rfl rfl [25,26,27,28,29,30,31] (by decide) (fun w=>M (Old w0) w0 w [osl NoB (r9 : List (Vector UInt8 16)) u11,raw b7 (enc (Vector.replicate 16 (0 : UInt8))),raw b5 (enc s25.1),raw b1 (cat [[vI p0.Field],enc p0.Box,enc p0.Mix,enc p0.Places,[vI p0.Rounds]])]) (fun j=>([fun v _=>v = (ptr b1 (0 + 273)),fun v _=>v = (Value.agg (enc p0.Places).toArray),fun v _=>v = (ptr b1 (0 + 1)),fun v _=>v = (Value.agg (enc p0.Box).toArray),fun v _=>v = (Value.agg (enc s25.1).toArray),fun v _=>v = (Value.agg (enc r37).toArray),fun v _=>v = (Value.agg (enc r39).toArray)] : List (Value → World → Prop)).getD j (fun _ _=>True)) (fun _ _ h hk=>h.keep hk) (gup (Zh (Zh (Zh (Zh (Zh (Zh (Zh WV)))))))) hE hM.drew (ZK (Zb ?_ (Zb ?_ (Zb ?_ (Zb ?_ (Zb ?_ (Zb ?_ (Zb ?_ ZE)))))))) ?_
      ·exact fun a w ux36 hE hM hp=>Zo hE Za ld rfl (TK) fun a hE=>⟨Kept.refl _ _,_,_,rfl,hE,rfl⟩
      ·intro a w ux36 hE hM hp
       have f0 : ux36 0 = (ptr b1 (0 + 273)):=hp 0 _ rfl rfl
       exact Zl (cs:=enc p0.Places) hE Za ld (lk rfl f0) WZ rfl (At.cat (pre:=[[vI p0.Field],enc p0.Box,enc p0.Mix]) (hM.rawAt (pre:=[_,_,_])) (cl1 (n:=1) (m:=272) rfl (cl1 (n:=256) (m:=16) (Flat.len _) (cl1 (n:=16) (m:=0) (Flat.len _) cl0)))) (Flat.len _) fun a hE=>⟨Kept.refl _ _,_,_,rfl,hE,rfl⟩
      ·exact fun a w ux36 hE hM hp=>Zo hE Za ld rfl (Ti) fun a hE=>⟨Kept.refl _ _,_,_,rfl,hE,rfl⟩
      ·intro a w ux36 hE hM hp
       have f2 : ux36 2 = (ptr b1 (0 + 1)):=hp 0 _ rfl rfl
       exact Zl (cs:=enc p0.Box) hE Za ld (lk rfl f2) WO rfl (At.cat (pre:=[[vI p0.Field]]) (hM.rawAt (pre:=[_,_,_])) (cl1 (n:=1) (m:=0) rfl cl0)) (Flat.len _) fun a hE=>⟨Kept.refl _ _,_,_,rfl,hE,rfl⟩
      ·exact fun a w ux36 hE hM hp=>Zl (cs:=enc s25.1) hE Za ld rfl ZG rfl (hM.rawAt (pre:=[_,_])) (Flat.len _) fun a hE=>⟨Kept.refl _ _,_,_,rfl,hE,rfl⟩
      ·intro a w ux36 hE hM hp
       have f3 : ux36 3 = (Value.agg (enc p0.Box).toArray):=hp 0 _ rfl rfl
       have f4 : ux36 4 = (Value.agg (enc s25.1).toArray):=hp 1 _ rfl rfl
       refine Zq hE Za ld (ZV (ZT (lk rfl f3) (ZT (lk rfl f4) Xw))) cb120 (UX _ p0.Box s25.1 r37 e38) ?_
       rintro v w a ⟨rfl,hK⟩ hE
       exact ⟨hK,_,_,rfl,hE,rfl⟩
      ·intro a w ux36 hE hM hp
       have f1 : ux36 1 = (Value.agg (enc p0.Places).toArray):=hp 0 _ rfl rfl
       have f5 : ux36 5 = (Value.agg (enc r37).toArray):=hp 1 _ rfl rfl
       refine Zq hE Za ld (ZV (ZT (lk rfl f1) (ZT (lk rfl f5) Xw))) cb122 (Te _ p0.Places r37 r39 e40) ?_
       rintro v w a ⟨rfl,hK⟩ hE
       exact ⟨hK,_,_,rfl,hE,rfl⟩
      ·intro a w ux36 hE hM hg
       have hE:=hE.sub (e':=[(31,(Value.agg (enc r39).toArray)),(3,vI p3),(4,(ptr b1 0)),(6,(ptr b5 0)),(8,(ptr b7 0)),(9,u11),(10,vI s25.2),(20,vI s25.2),(21,vI p3),(22,(vT (decide (s25.2 ≤ p3))))]) ⟨lk rfl (hg 6 (by decide)),rfl,rfl,rfl,rfl,rfl,rfl,rfl,rfl,rfl,trivial⟩
       have hM:=hM.pull (pre:=[_,_])
       refine Zm (seg:=enc r39) (cs':=enc r39) hE hM Za rfl rfl rfl ZG (Flat.len _) (zle flq) (Flat.cell _) (Zn flq) fun w a hM hE=>Zi ?_
       have ht41:=Option.some.inj hl34
       subst ht41
       refine Zj ?_
       have hM:=(((hM.pull (pre:=[_,_,_])).pull (pre:=[_])).pull (pre:=[_,_,_])).pull (pre:=[_,_,_])
       exact ⟨hE.sub ⟨rfl,rfl,rfl,rfl,rfl,rfl,trivial⟩,hM⟩
     ·skip
      rintro a w ⟨hE,hM⟩
      obtain ⟨j42,hl43,hF44⟩:=bind_some hF35
      refine ZL (fun a w=>Env 48 a [(3,vI p3),(4,(ptr b1 0)),(6,(ptr b5 0)),(8,(ptr b7 0)),(9,u11),(10,vI s25.2)] ∧ M (Old w0) w0 w [osl NoB (r9 : List (Vector UInt8 16)) u11,raw b7 (enc (Vector.replicate 16 (0 : UInt8))),raw b5 (enc j42),raw b1 (cat [[vI p0.Field],enc p0.Box,enc p0.Mix,enc p0.Places,[vI p0.Rounds]])]) ?_ ?_
      ·skip
       refine Zc (Zd hE Za ld rfl fun a hE=>Zd hE Za ld rfl fun a hE=>Zk hE Za ld rfl rfl rfl fun a hE=>Zf ?_)
       refine Zr hE rfl ?_ ?_
       ·intro hb45
        have hl43:=Zw hl43 hb45
        refine wp_region_lit (Zo hE Za ld rfl (Ud) fun a hE=>Zv (v:=(vI p0.Field)) hE Za ld rfl ty2 rfl (At.cat (pre:=[]) (hM.rawAt (pre:=[_,_,_])) cl0) fun a hE=>Zo hE Za ld rfl (TV) fun a hE=>Zl (cs:=enc p0.Mix) hE Za ld rfl Yw rfl (At.cat (pre:=[[vI p0.Field],enc p0.Box]) (hM.rawAt (pre:=[_,_,_])) (cl1 (n:=1) (m:=256) rfl (cl1 (n:=256) (m:=0) (Flat.len _) cl0))) (Flat.len _) fun a hE=>Zl (cs:=enc j33) hE Za ld rfl ZG rfl (hM.rawAt (pre:=[_,_])) (Flat.len _) ?_); intro a hE
        obtain ⟨r46,e47,hl43⟩:=bind_some hl43
        refine Zq hE Za ld rfl cb119 (TD _ p0.Field p0.Mix j33 r46 e47) ?_
        rintro v w a ⟨rfl,hK⟩ hE
        have hM:=(hM.keep hK).pull (pre:=[_,_])
        refine Zm (seg:=enc r46) (cs':=enc r46) hE hM Za rfl rfl rfl ZG (Flat.len _) (zle flq) (Flat.cell _) (Zn flq) fun w a hM hE=>Zi ?_
        have ht48:=Option.some.inj hl43
        subst ht48
        refine Zj ?_
        have hM:=(((hM.pull (pre:=[_,_,_])).pull (pre:=[_])).pull (pre:=[_,_,_])).pull (pre:=[_,_,_])
        exact ⟨hE.sub ⟨rfl,rfl,rfl,rfl,rfl,rfl,trivial⟩,hM⟩
       ·intro hb45
        have hl43:=Zx hl43 hb45
        refine wp_skip ?_
        have ht49:=Option.some.inj hl43
        subst ht49
        refine Zj ?_
        exact ⟨hE.sub ⟨rfl,rfl,rfl,rfl,rfl,rfl,trivial⟩,hM⟩
      ·skip
       rintro a w ⟨hE,hM⟩
       obtain ⟨x51,hi53,hF44⟩:=bix hF44
       obtain ⟨r54,e55,hF44⟩:=bind_some hF44
       refine Yd (n:=48) (hd:=[_,_,_,_,_,_]) (tl:=[_]) YR rfl rfl [41,42,43,44,45,46] (by decide) (fun w=>M (Old w0) w0 w [osl NoB (r9 : List (Vector UInt8 16)) u11,raw b7 (enc (Vector.replicate 16 (0 : UInt8))),raw b5 (enc j42),raw b1 (cat [[vI p0.Field],enc p0.Box,enc p0.Mix,enc p0.Places,[vI p0.Rounds]])]) (fun j=>([fun v _=>v = (Value.agg (enc j42).toArray),fun v _=>v = u11,fun v _=>v = (vI s25.2),fun v _=>v = (ptr (sb u11) (so u11 + (s25.2).toNat * 16)),fun v _=>v = (Value.agg (enc x51).toArray),fun v _=>v = (Value.agg (enc r54).toArray)] : List (Value → World → Prop)).getD j (fun _ _=>True)) (fun _ _ h hk=>h.keep hk) (gup (Zh (Zh (Zh (Zh (Zh (Zh WV))))))) hE hM.drew (ZK (Zb ?_ (Zb ?_ (Zb ?_ (Zb ?_ (Zb ?_ (Zb ?_ ZE))))))) ?_
       ·exact fun a w ux50 hE hM hp=>Zl (cs:=enc j42) hE Za ld rfl ZG rfl (hM.rawAt (pre:=[_,_])) (Flat.len _) fun a hE=>⟨Kept.refl _ _,_,_,rfl,hE,rfl⟩
       ·exact fun a w ux50 hE hM hp=>Zd hE Za ld rfl fun a hE=>⟨Kept.refl _ _,_,_,rfl,hE,rfl⟩
       ·exact fun a w ux50 hE hM hp=>Zd hE Za ld rfl fun a hE=>⟨Kept.refl _ _,_,_,rfl,hE,rfl⟩
       ·intro a w ux50 hE hM hp
        have f1 : ux50 1 = u11:=hp 0 _ rfl rfl
        have f2 : ux50 2 = (vI s25.2):=hp 1 _ rfl rfl
        exact YT hE Za ld (lk rfl f1) (lk rfl f2) Try.underlying69 ZG (hM.sl (pre:=[]) noB) hi53.1 fun a hE=>⟨Kept.refl _ _,_,_,rfl,hE,rfl⟩
       ·intro a w ux50 hE hM hp
        have f3 : ux50 3 = (ptr (sb u11) (so u11 + (s25.2).toNat * 16)):=hp 0 _ rfl rfl
        exact Zl (cs:=enc x51) hE Za ld (lk rfl f3) ZG rfl (Vb (hM.sl (pre:=[]) noB) hi53.2) (Flat.len _) fun a hE=>⟨Kept.refl _ _,_,_,rfl,hE,rfl⟩
       ·intro a w ux50 hE hM hp
        have f0 : ux50 0 = (Value.agg (enc j42).toArray):=hp 0 _ rfl rfl
        have f4 : ux50 4 = (Value.agg (enc x51).toArray):=hp 1 _ rfl rfl
        refine Zq hE Za ld (ZV (ZT (lk rfl f0) (ZT (lk rfl f4) Xw))) HY (VM _ j42 x51 r54 e55) ?_
        rintro v w a ⟨rfl,hK⟩ hE
        exact ⟨hK,_,_,rfl,hE,rfl⟩
       ·intro a w ux50 hE hM hg
        have hE:=hE.sub (e':=[(46,(Value.agg (enc r54).toArray)),(3,vI p3),(4,(ptr b1 0)),(6,(ptr b5 0)),(8,(ptr b7 0)),(9,u11),(10,vI s25.2)]) ⟨lk rfl (hg 5 (by decide)),rfl,rfl,rfl,rfl,rfl,rfl,trivial⟩
        have hM:=hM.pull (pre:=[_,_])
        refine Zm (seg:=enc r54) (cs':=enc r54) hE hM Za rfl rfl rfl ZG (Flat.len _) (zle flq) (Flat.cell _) (Zn flq) fun w a hM hE=>Zi (Yi ?_)
        have ht56:=Option.some.inj hF44
        subst ht56
        refine Zj ?_
        have hM:=(((hM.pull (pre:=[_,_,_])).pull (pre:=[_])).pull (pre:=[_,_,_])).pull (pre:=[_,_,_])
        exact ⟨hE.sub ⟨rfl,rfl,rfl,rfl,rfl,rfl,trivial⟩,hM⟩
    ·skip
     rintro a w ⟨hE,hM⟩
     refine wp_region_lit (Zd hE Za ld rfl fun a hE=>Zk hE Za ld rfl rfl rfl fun a hE=>Ze hE Za ld rfl fun a hE=>Zi (Zj ?_))
     exact ⟨_,(ois hF32),hE.sub ⟨rfl,rfl,rfl,rfl,rfl,rfl,trivial⟩,hM⟩
   ·intro hb29
    have hs26:=Zx hs26 hb29
    refine wp_exit (Zp (Zp (Yj ?_)))
    have ht57:=hx27 _ (ois hs26)
    subst ht57
    refine Zj ?_
    have hM:=M.fst (l:=[_,_]) ((hM.pull (pre:=[_,_])).pull (pre:=[_,_]))
    exact ⟨hE.sub ⟨rfl,rfl,trivial⟩,hM⟩
  ·skip
   rintro a w ⟨hE,hM⟩
   refine Zt (Zc (Zl (cs:=enc j22) hE Za ld rfl ZG rfl (hM.rawAt (pre:=[_])) (Flat.len _) fun a hE=>Zm (seg:=enc j22) (cs':=enc j22) hE hM Za rfl rfl rfl ZG (Flat.len _) (zle flq) (Flat.cell _) (Zn flq) fun w a hM hE=>Zf ?_))
   have hr:=Option.some.inj hF24
   subst hr
   have hq58 : YD Try.prog _ _ (.cell 8 55) _:=ZW hE rfl ZG rfl (hM.rawAt (pre:=[])) (Flat.len _) rfl
   have hM:=M.fst (l:=[]) hM
   exact wp_ret (ZD hE rfl hq58 ⟨_,rfl,rfl,hM.kept⟩)
def Y5 (p0 : GCipher) (p2 : (Vector UInt8 16)) (s20 : Int × (List (Vector UInt8 16))) : Option (Fl (Int × (List (Vector UInt8 16))) (List (Vector UInt8 16))) :=
 if (decide (s20.1 < 256)) = true then ((Y2 p0 ((Vector.replicate 16 (0 : UInt8)).setIfInBounds 0 (ZO s20.1)) p2 p0.Rounds).bind fun r27=>(app 16 s20.2 ([r27] : List (Vector UInt8 16))).bind fun l31=>some (Fl.nx (wr (s20.1 + 1),(s20.2 ++ ([r27] : List (Vector UInt8 16)))))) else (some (Fl.ex s20.2))
def YZ (j15 : (List (Vector UInt8 16))) (s42 : Int × (List GMeeting)) (r49 : (Vector UInt8 16)) (s58 : Int × (List GMeeting)) : Option (Fl (Int × (List GMeeting)) (List GMeeting)) :=
 if (decide (s58.1 < 256)) = true then ((((idx j15 s58.1).bind fun x74=>some (decide (x74 = r49)) : Option (Bool)).bind fun j70=>(if j70 = true then ((app 16 s58.2 ([(⟨s42.1,s58.1⟩ : GMeeting)] : List GMeeting)).bind fun l86=>some (s58.2 ++ ([(⟨s42.1,s58.1⟩ : GMeeting)] : List GMeeting))) else (some s58.2) : Option ((List GMeeting))).bind fun j78=>some j78 : Option ((List GMeeting))).bind fun j65=>some (Fl.nx (wr (s58.1 + 1),j65))) else (some (Fl.ex s58.2))
def YY (p0 : GCipher) (p1 : (Vector UInt8 16)) (j15 : (List (Vector UInt8 16))) (s42 : Int × (List GMeeting)) : Option (Fl (Int × (List GMeeting)) (List GMeeting)) :=
 if (decide (s42.1 < 256)) = true then ((Yv p0 ((Vector.replicate 16 (0 : UInt8)).setIfInBounds 0 (ZO s42.1)) p1 p0.Rounds).bind fun r49=>(ZB (YZ j15 s42 r49) (0,s42.2)).bind fun j53=>some (Fl.nx (wr (s42.1 + 1),j53))) else (some (Fl.ex s42.2))
def X1 (p0 : GCipher) (p1 : (Vector UInt8 16)) (p2 : (Vector UInt8 16)) : Option ((List GMeeting) × Int) :=
 (VA p0).bind fun r7=>if (!r7) = true then (some ([],1)) else ((ZB (Y5 p0 p2) (0,([] : List (Vector UInt8 16)))).bind fun j15=>(ZB (YY p0 p1 j15) (0,([] : List GMeeting))).bind fun j37=>some (j37,0))
theorem T3 (w0 : World) (p0 : GCipher) (p1 : (Vector UInt8 16)) (p2 : (Vector UInt8 16)) (r : (List GMeeting) × Int) (hF : X1 p0 p1 p2 = some r) :
  Calls Try.prog 28 [(Value.agg (enc p0).toArray),(Value.agg (enc p1).toArray),(Value.agg (enc p2).toArray)].toArray w0 (fun en w'=>∃ v,en = .returned v ∧ (∃ (y1 : Value),v = (Value.tuple [y1,vI r.2].toArray) ∧ Fr w0 w' [osl NoB (r.1 : List GMeeting) y1] ∧ Kept (Old w0) w0 w')):=by
 refine ZC (n:=63) Try.func28 rfl rfl (nbl rfl) rfl ?_
 intro a hE
 have hM:=M.start w0
 unfold X1 at hF
 refine Zc (ZX (cs:=cat [[vI p0.Field],enc p0.Box,enc p0.Mix,enc p0.Places,[vI p0.Rounds]]) hE hM Za ld rfl rfl fun b1 w a hM hE=>ZX (cs:=enc p1) hE hM Za ld rfl rfl fun b3 w a hM hE=>ZX (cs:=enc p2) hE hM Za ld rfl rfl fun b5 w a hM hE=>Ze hE Za ld rfl fun a hE=>Ze hE Za ld rfl fun a hE=>Zf (wp_seq (Zc (Zl (cs:=enc p0) hE Za ld rfl U3 rfl (hM.rawAt (pre:=[_,_])) (Y8 (cl1 (n:=1) (m:=289) rfl (cl1 (n:=256) (m:=33) (Flat.len _) (cl1 (n:=16) (m:=17) (Flat.len _) (cl1 (n:=16) (m:=1) (Flat.len _) (cl1 (n:=1) (m:=0) rfl cl0)))))) ?_)))); intro a hE
 obtain ⟨r7,e8,hF⟩:=bind_some hF
 refine Zq hE Za ld rfl cb71 (Jt _ p0 r7 e8) ?_
 rintro v w a ⟨rfl,hK⟩ hE
 have hM:=hM.keep hK
 refine UV hE Za ld rfl fun a hE=>Zf ?_
 refine Zr hE rfl ?_ ?_
 ·intro hb9
  have hF:=Zw hF hb9
  refine Zc (Ze hE Za ld rfl fun a hE=>Ze hE Za ld rfl fun a hE=>Zf ?_)
  have hM:=M.nilS (α:=GMeeting) NoB noB hM
  have hr:=Option.some.inj hF
  subst hr
  have hM:=M.fst (l:=[_]) hM
  exact wp_ret (ZH (UM hE rfl (ZA hE rfl) (ZA hE rfl) ⟨_,rfl,(Value.slice none 0 0),rfl,hM.outF (Jf QZ),hM.kept⟩))
 ·intro hb9
  have hF:=Zx hF hb9
  refine wp_skip (Zt (Zc (WS (xs:=[]) (l:=([] : List (Vector UInt8 16))) (vs:=[]) hE hM Za ld rfl rfl Try.underlying69 ZG rfl (by decide) rfl fun u11 w a hM hE=>WS (xs:=[]) (l:=([] : List GMeeting)) (vs:=[]) hE hM Za ld rfl rfl Try.underlying58 VE rfl (by decide) rfl fun u13 w a hM hE=>Ze hE Za ld rfl fun a hE=>Ze hE Za ld rfl fun a hE=>Zf (wp_seq (Zc (Ze hE Za ld rfl fun a hE=>Zf ?_))))))
  obtain ⟨j15,hl16,hF17⟩:=bind_some hF
  refine ZP (fun a w=>∃ (u18 : Value),Env 63 a [(3,(ptr b1 0)),(4,(ptr b3 0)),(8,u18),(9,u13)] ∧ M (Old w0) w0 w [osl NoB (([] : List GMeeting) : List GMeeting) u13,raw b3 (enc p1),raw b1 (cat [[vI p0.Field],enc p0.Box,enc p0.Mix,enc p0.Places,[vI p0.Rounds]]),osl NoB (j15 : List (Vector UInt8 16)) u18]) ?_ ?_
  ·skip
   refine wp_block ?_
   have hM:=((((hM.pull (pre:=[_])).pull (pre:=[_,_,_,_])).pull (pre:=[_,_,_,_])).pull (pre:=[_,_,_,_])).pull (pre:=[_,_,_,_])
   refine ZJ (fun (s20 : Int × (List (Vector UInt8 16))) a w=>∃ (u21 : Value),Env 63 a [(3,(ptr b1 0)),(4,(ptr b3 0)),(5,(ptr b5 0)),(8,u21),(9,u13),(10,vI s20.1)] ∧ M (Old w0) w0 w [osl NoB (([] : List GMeeting) : List GMeeting) u13,raw b5 (enc p2),raw b3 (enc p1),raw b1 (cat [[vI p0.Field],enc p0.Box,enc p0.Mix,enc p0.Places,[vI p0.Rounds]]),osl NoB (s20.2 : List (Vector UInt8 16)) u21]) hl16 ⟨u11,hE.sub ⟨rfl,rfl,rfl,rfl,rfl,rfl,trivial⟩,hM⟩ ?_
   rintro s20 a w ⟨u21,hE,hM⟩ o25 hs23 hx24
   unfold Y5 at hs23
   refine wp_seq (Zc (Zd hE Za ld rfl fun a hE=>Zk hE Za ld rfl rfl rfl fun a hE=>Zf ?_))
   refine Zr hE rfl ?_ ?_
   ·intro hb26
    have hs23:=Zw hs23 hb26
    refine wp_skip (Zt (wp_seq (wp_block (wp_region_lit (Zd hE Za ld rfl fun a hE=>Zl (cs:=enc p0) hE Za ld rfl U3 rfl (hM.rawAt (pre:=[_,_,_])) (Y8 (cl1 (n:=1) (m:=289) rfl (cl1 (n:=256) (m:=33) (Flat.len _) (cl1 (n:=16) (m:=17) (Flat.len _) (cl1 (n:=16) (m:=1) (Flat.len _) (cl1 (n:=1) (m:=0) rfl cl0)))))) fun a hE=>Zd hE Za ld rfl fun a hE=>Ve hE Za ld rfl Try.underlying3 Try.underlying5 ?_))))); intro a hE
    rw [XH] at hE
    refine YP (parts:=[(0,.tmp 26)]) (vs:=[(0,(vB (ZO s20.1)))]) (cs:=enc ((Vector.replicate 16 (0 : UInt8)).setIfInBounds 0 (ZO s20.1))) hE Za ld rfl rfl ZG rfl ty5 (TU (v:=(Vector.replicate 16 (0 : UInt8))) (x:=ZO s20.1) rfl (by decide) rfl Yr) fun a hE=>Zl (cs:=enc p2) hE Za ld rfl ZG rfl (hM.rawAt (pre:=[_])) (Flat.len _) fun a hE=>Zo hE Za ld rfl (TJ) fun a hE=>Zv (v:=(vI p0.Rounds)) hE Za ld rfl ty2 rfl (At.cat (pre:=[[vI p0.Field],enc p0.Box,enc p0.Mix,enc p0.Places]) (hM.rawAt (pre:=[_,_,_])) (cl1 (n:=1) (m:=288) rfl (cl1 (n:=256) (m:=32) (Flat.len _) (cl1 (n:=16) (m:=16) (Flat.len _) (cl1 (n:=16) (m:=0) (Flat.len _) cl0))))) ?_; intro a hE
    obtain ⟨r27,e28,hs23⟩:=bind_some hs23
    refine Zq hE Za ld rfl cb72 (TN _ p0 ((Vector.replicate 16 (0 : UInt8)).setIfInBounds 0 (ZO s20.1)) p2 p0.Rounds r27 e28) ?_
    rintro v w a ⟨rfl,hK⟩ hE
    have hM:=hM.keep hK
    refine WS (xs:=[.tmp 31]) (l:=([r27] : List (Vector UInt8 16))) (vs:=[(Value.agg (enc r27).toArray)]) hE hM Za ld rfl rfl Try.underlying69 ZG rfl (by decide) rfl ?_; intro u29 w a hM hE
    obtain ⟨l31,e32,hs23⟩:=bind_some hs23
    obtain ⟨e35,rfl⟩:=UD e32
    have hM:=hM.pull (pre:=[_,_,_,_,_])
    refine V9 hE hM Za ld rfl rfl (hM.sl (pre:=[_]) noB) Try.underlying69 ZG rfl (by decide) e35 fun u33 w a hM hE=>Ze hE Za ld rfl fun a hE=>Zi (Yi (Zt (wp_region_lit (Zd hE Za ld rfl fun a hE=>Zk hE Za ld rfl rfl rfl fun a hE=>Ze hE Za ld rfl fun a hE=>Zi (Zj ?_)))))
    have hM:=M.fst (l:=[_,_,_,_,_]) ((((hM.pull (pre:=[_,_,_,_,_])).pull (pre:=[_,_,_,_,_])).pull (pre:=[_,_,_,_,_])).pull (pre:=[_,_,_,_,_]))
    exact ⟨_,(ois hs23),u33,hE.sub ⟨rfl,rfl,rfl,rfl,rfl,rfl,trivial⟩,hM⟩
   ·intro hb26
    have hs23:=Zx hs23 hb26
    refine wp_exit (Zp (Zp (Yj ?_)))
    have ht36:=hx24 _ (ois hs23)
    subst ht36
    refine Zj ?_
    have hM:=M.fst (l:=[_,_,_,_]) ((((hM.pull (pre:=[_,_,_,_])).pull (pre:=[_,_,_,_])).pull (pre:=[_,_,_,_])).pull (pre:=[_,_,_]))
    exact ⟨u21,hE.sub ⟨rfl,rfl,rfl,rfl,trivial⟩,hM⟩
  ·skip
   rintro a w ⟨u18,hE,hM⟩
   refine Zt (wp_seq (Zc (Ze hE Za ld rfl fun a hE=>Zf ?_)))
   obtain ⟨j37,hl38,hF39⟩:=bind_some hF17
   refine ZP (fun a w=>∃ (u40 : Value),Env 63 a [(9,u40)] ∧ M (Old w0) w0 w [osl NoB (j37 : List GMeeting) u40]) ?_ ?_
   ·skip
    refine wp_block ?_
    have hM:=((hM.pull (pre:=[_,_,_])).pull (pre:=[_,_,_])).pull (pre:=[_,_,_])
    refine ZJ (fun (s42 : Int × (List GMeeting)) a w=>∃ (u43 : Value),Env 63 a [(3,(ptr b1 0)),(4,(ptr b3 0)),(8,u18),(9,u43),(11,vI s42.1)] ∧ M (Old w0) w0 w [raw b3 (enc p1),raw b1 (cat [[vI p0.Field],enc p0.Box,enc p0.Mix,enc p0.Places,[vI p0.Rounds]]),osl NoB (j15 : List (Vector UInt8 16)) u18,osl NoB (s42.2 : List GMeeting) u43]) hl38 ⟨u13,hE.sub ⟨rfl,rfl,rfl,rfl,rfl,trivial⟩,hM⟩ ?_
    rintro s42 a w ⟨u43,hE,hM⟩ o47 hs45 hx46
    unfold YY at hs45
    refine wp_seq (Zc (Zd hE Za ld rfl fun a hE=>Zk hE Za ld rfl rfl rfl fun a hE=>Zf ?_))
    refine Zr hE rfl ?_ ?_
    ·intro hb48
     have hs45:=Zw hs45 hb48
     refine wp_skip (Zt (wp_seq (wp_block (Zc (Zl (cs:=enc p0) hE Za ld rfl U3 rfl (hM.rawAt (pre:=[_])) (Y8 (cl1 (n:=1) (m:=289) rfl (cl1 (n:=256) (m:=33) (Flat.len _) (cl1 (n:=16) (m:=17) (Flat.len _) (cl1 (n:=16) (m:=1) (Flat.len _) (cl1 (n:=1) (m:=0) rfl cl0)))))) fun a hE=>Zd hE Za ld rfl fun a hE=>Ve hE Za ld rfl Try.underlying2 Try.underlying5 ?_))))); intro a hE
     rw [XH] at hE
     refine YP (parts:=[(0,.tmp 40)]) (vs:=[(0,(vB (ZO s42.1)))]) (cs:=enc ((Vector.replicate 16 (0 : UInt8)).setIfInBounds 0 (ZO s42.1))) hE Za ld rfl rfl ZG rfl ty5 (TU (v:=(Vector.replicate 16 (0 : UInt8))) (x:=ZO s42.1) rfl (by decide) rfl Yr) fun a hE=>Zl (cs:=enc p1) hE Za ld rfl ZG rfl (hM.rawAt (pre:=[])) (Flat.len _) fun a hE=>Zo hE Za ld rfl (TJ) fun a hE=>Zv (v:=(vI p0.Rounds)) hE Za ld rfl ty2 rfl (At.cat (pre:=[[vI p0.Field],enc p0.Box,enc p0.Mix,enc p0.Places]) (hM.rawAt (pre:=[_])) (cl1 (n:=1) (m:=288) rfl (cl1 (n:=256) (m:=32) (Flat.len _) (cl1 (n:=16) (m:=16) (Flat.len _) (cl1 (n:=16) (m:=0) (Flat.len _) cl0))))) ?_; intro a hE
     obtain ⟨r49,e50,hs45⟩:=bind_some hs45
     refine Zq hE Za ld rfl cb73 (TS _ p0 ((Vector.replicate 16 (0 : UInt8)).setIfInBounds 0 (ZO s42.1)) p1 p0.Rounds r49 e50) ?_
     rintro v w a ⟨rfl,hK⟩ hE
     have hM:=hM.keep hK
     refine ZF hE hM Za ld ZG fun b51 w a hM hE=>Zm (seg:=enc r49) (cs':=enc r49) hE hM Za rfl rfl rfl ZG (Flat.len _) (zle flq) (Flat.cell _) (Zn flq) fun w a hM hE=>Zf (Zc (Ze hE Za ld rfl fun a hE=>Zf ?_))
     obtain ⟨j53,hl54,hF55⟩:=bind_some hs45
     refine ZP (fun a w=>∃ (u56 : Value),Env 63 a [(3,(ptr b1 0)),(4,(ptr b3 0)),(8,u18),(9,u56),(11,vI s42.1)] ∧ M (Old w0) w0 w [raw b3 (enc p1),raw b1 (cat [[vI p0.Field],enc p0.Box,enc p0.Mix,enc p0.Places,[vI p0.Rounds]]),osl NoB (j15 : List (Vector UInt8 16)) u18,osl NoB (j53 : List GMeeting) u56]) ?_ ?_
     ·skip
      refine wp_block ?_
      refine ZJ (fun (s58 : Int × (List GMeeting)) a w=>∃ (u59 : Value),Env 63 a [(3,(ptr b1 0)),(4,(ptr b3 0)),(8,u18),(9,u59),(11,vI s42.1),(12,(ptr b51 0)),(13,vI s58.1)] ∧ M (Old w0) w0 w [raw b51 (enc r49),raw b3 (enc p1),raw b1 (cat [[vI p0.Field],enc p0.Box,enc p0.Mix,enc p0.Places,[vI p0.Rounds]]),osl NoB (j15 : List (Vector UInt8 16)) u18,osl NoB (s58.2 : List GMeeting) u59]) hl54 ⟨u43,hE.sub ⟨rfl,rfl,rfl,rfl,rfl,rfl,rfl,trivial⟩,hM⟩ ?_
      rintro s58 a w ⟨u59,hE,hM⟩ o63 hs61 hx62
      unfold YZ at hs61
      refine wp_seq (Zc (Zd hE Za ld rfl fun a hE=>Zk hE Za ld rfl rfl rfl fun a hE=>Zf ?_))
      refine Zr hE rfl ?_ ?_
      ·intro hb64
       have hs61:=Zw hs61 hb64
       refine wp_skip (Zt ?_)
       obtain ⟨j65,hl66,hF67⟩:=bind_some hs61
       refine ZL (fun a w=>∃ (u68 : Value),Env 63 a [(3,(ptr b1 0)),(4,(ptr b3 0)),(8,u18),(9,u68),(11,vI s42.1),(12,(ptr b51 0)),(13,vI s58.1)] ∧ M (Old w0) w0 w [raw b51 (enc r49),raw b3 (enc p1),raw b1 (cat [[vI p0.Field],enc p0.Box,enc p0.Mix,enc p0.Places,[vI p0.Rounds]]),osl NoB (j15 : List (Vector UInt8 16)) u18,osl NoB (j65 : List GMeeting) u68]) ?_ ?_
       ·skip
        refine wp_block ?_
        obtain ⟨j70,hl71,hF72⟩:=bind_some hl66
        refine ZL (fun a w=>Env 63 a [(3,(ptr b1 0)),(4,(ptr b3 0)),(8,u18),(9,u59),(11,vI s42.1),(12,(ptr b51 0)),(13,vI s58.1),(55,vT j70)] ∧ M (Old w0) w0 w [raw b51 (enc r49),raw b3 (enc p1),raw b1 (cat [[vI p0.Field],enc p0.Box,enc p0.Mix,enc p0.Places,[vI p0.Rounds]]),osl NoB (j15 : List (Vector UInt8 16)) u18,osl NoB (s58.2 : List GMeeting) u59]) ?_ ?_
        ·skip
         obtain ⟨x74,hi76,hl71⟩:=bix hl71
         refine Yd (n:=63) (hd:=[_,_,_,_,_,_]) (tl:=[]) YR rfl rfl [50,51,52,53,54,55] (by decide) (fun w=>M (Old w0) w0 w [raw b51 (enc r49),raw b3 (enc p1),raw b1 (cat [[vI p0.Field],enc p0.Box,enc p0.Mix,enc p0.Places,[vI p0.Rounds]]),osl NoB (j15 : List (Vector UInt8 16)) u18,osl NoB (s58.2 : List GMeeting) u59]) (fun j=>([fun v _=>v = u18,fun v _=>v = (vI s58.1),fun v _=>v = (ptr (sb u18) (so u18 + (s58.1).toNat * 16)),fun v _=>v = (Value.agg (enc x74).toArray),fun v _=>v = (Value.agg (enc r49).toArray),fun v _=>v = (vT (decide (x74 = r49)))] : List (Value → World → Prop)).getD j (fun _ _=>True)) (fun _ _ h hk=>h.keep hk) (gup (Zh (Zh (Zh (Zh (Zh (Zh WV))))))) hE hM.drew (ZK (Zb ?_ (Zb ?_ (Zb ?_ (Zb ?_ (Zb ?_ (Zb ?_ ZE))))))) ?_
         ·exact fun a w ux73 hE hM hp=>Zd hE Za ld rfl fun a hE=>⟨Kept.refl _ _,_,_,rfl,hE,rfl⟩
         ·exact fun a w ux73 hE hM hp=>Zd hE Za ld rfl fun a hE=>⟨Kept.refl _ _,_,_,rfl,hE,rfl⟩
         ·intro a w ux73 hE hM hp
          have f0 : ux73 0 = u18:=hp 0 _ rfl rfl
          have f1 : ux73 1 = (vI s58.1):=hp 1 _ rfl rfl
          exact YT hE Za ld (lk rfl f0) (lk rfl f1) Try.underlying69 ZG (hM.sl (pre:=[_,_,_]) noB) hi76.1 fun a hE=>⟨Kept.refl _ _,_,_,rfl,hE,rfl⟩
         ·intro a w ux73 hE hM hp
          have f2 : ux73 2 = (ptr (sb u18) (so u18 + (s58.1).toNat * 16)):=hp 0 _ rfl rfl
          exact Zl (cs:=enc x74) hE Za ld (lk rfl f2) ZG rfl (Vb (hM.sl (pre:=[_,_,_]) noB) hi76.2) (Flat.len _) fun a hE=>⟨Kept.refl _ _,_,_,rfl,hE,rfl⟩
         ·exact fun a w ux73 hE hM hp=>Zl (cs:=enc r49) hE Za ld rfl ZG rfl (hM.rawAt (pre:=[])) (Flat.len _) fun a hE=>⟨Kept.refl _ _,_,_,rfl,hE,rfl⟩
         ·intro a w ux73 hE hM hp
          have f3 : ux73 3 = (Value.agg (enc x74).toArray):=hp 0 _ rfl rfl
          have f4 : ux73 4 = (Value.agg (enc r49).toArray):=hp 1 _ rfl rfl
          exact s_eqA hE Za ld (lk rfl f3) (lk rfl f4) (KH Try.underlying55 ty5 rfl false rfl (by decide) (QM Try.underlying5)) (by decide) (by kernel_rfl) fun a hE=>⟨Kept.refl _ _,_,_,rfl,hE,rfl⟩
         ·intro a w ux73 hE hM hg
          have hE:=hE.sub (e':=[(55,(vT (decide (x74 = r49)))),(3,(ptr b1 0)),(4,(ptr b3 0)),(8,u18),(9,u59),(11,vI s42.1),(12,(ptr b51 0)),(13,vI s58.1),(46,vI s58.1),(47,(vT (decide (s58.1 < 256))))]) ⟨lk rfl (hg 5 (by decide)),rfl,rfl,rfl,rfl,rfl,rfl,rfl,rfl,rfl,trivial⟩
          refine Zi ?_
          have ht77:=Option.some.inj hl71
          subst ht77
          refine Zj ?_
          exact ⟨hE.sub ⟨rfl,rfl,rfl,rfl,rfl,rfl,rfl,rfl,trivial⟩,hM⟩
        ·skip
         rintro a w ⟨hE,hM⟩
         obtain ⟨j78,hl79,hF80⟩:=bind_some hF72
         refine ZP (fun a w=>∃ (u81 : Value),Env 63 a [(3,(ptr b1 0)),(4,(ptr b3 0)),(8,u18),(9,u81),(11,vI s42.1),(12,(ptr b51 0)),(13,vI s58.1)] ∧ M (Old w0) w0 w [raw b51 (enc r49),raw b3 (enc p1),raw b1 (cat [[vI p0.Field],enc p0.Box,enc p0.Mix,enc p0.Places,[vI p0.Rounds]]),osl NoB (j15 : List (Vector UInt8 16)) u18,osl NoB (j78 : List GMeeting) u81]) ?_ ?_
         ·skip
          refine Zr hE rfl ?_ ?_
          ·intro hb83
           have hl79:=Zw hl79 hb83
           refine wp_region_lit (Zd hE Za ld rfl fun a hE=>Zd hE Za ld rfl fun a hE=>Zd hE Za ld rfl fun a hE=>TP (parts:=[(0,.tmp 57),(1,.tmp 58)]) (vs:=[(0,vI s42.1),(1,vI s58.1)]) (cs:=cat [[vI s42.1],[vI s58.1]]) hE Za ld rfl rfl VE pl108 (Wo (pre:=[]) (seg:=[vI 0]) (seg':=[vI s42.1]) (post:=[[vI 0]]) rfl cl0 rfl rfl rfl (Wo (pre:=[[vI s42.1]]) (seg:=[vI 0]) (seg':=[vI s58.1]) (post:=[]) rfl (cl1 (n:=1) (m:=0) rfl cl0) rfl rfl rfl KJ)) fun a hE=>WS (xs:=[.tmp 59]) (l:=([(⟨s42.1,s58.1⟩ : GMeeting)] : List GMeeting)) (vs:=[(Value.agg (enc (⟨s42.1,s58.1⟩ : GMeeting)).toArray)]) hE hM Za ld rfl rfl Try.underlying58 VE rfl (by decide) rfl ?_); intro u84 w a hM hE
           obtain ⟨l86,e87,hl79⟩:=bind_some hl79
           obtain ⟨e90,rfl⟩:=UD e87
           have hM:=hM.pull (pre:=[_,_,_,_,_])
           refine V9 hE hM Za ld rfl rfl (hM.sl (pre:=[_]) noB) Try.underlying58 VE rfl (by decide) e90 fun u88 w a hM hE=>Ze hE Za ld rfl fun a hE=>Zi ?_
           have ht91:=Option.some.inj hl79
           subst ht91
           refine Zj ?_
           have hM:=M.fst (l:=[_,_,_,_,_]) ((((hM.pull (pre:=[_,_,_,_,_])).pull (pre:=[_,_,_,_,_])).pull (pre:=[_,_,_,_,_])).pull (pre:=[_,_,_,_,_]))
           exact ⟨u88,hE.sub ⟨rfl,rfl,rfl,rfl,rfl,rfl,rfl,trivial⟩,hM⟩
          ·intro hb83
           have hl79:=Zx hl79 hb83
           refine wp_skip ?_
           have ht92:=Option.some.inj hl79
           subst ht92
           refine Zj ?_
           exact ⟨u59,hE.sub ⟨rfl,rfl,rfl,rfl,rfl,rfl,rfl,trivial⟩,hM⟩
         ·skip
          rintro a w ⟨u81,hE,hM⟩
          refine Yi ?_
          have ht93:=Option.some.inj hF80
          subst ht93
          refine Zj ?_
          exact ⟨u81,hE.sub ⟨rfl,rfl,rfl,rfl,rfl,rfl,rfl,trivial⟩,hM⟩
       ·skip
        rintro a w ⟨u68,hE,hM⟩
        refine wp_region_lit (Zd hE Za ld rfl fun a hE=>Zk hE Za ld rfl rfl rfl fun a hE=>Ze hE Za ld rfl fun a hE=>Zi (Zj ?_))
        exact ⟨_,(ois hF67),u68,hE.sub ⟨rfl,rfl,rfl,rfl,rfl,rfl,rfl,trivial⟩,hM⟩
      ·intro hb64
       have hs61:=Zx hs61 hb64
       refine wp_exit (Zp (Zp (Yj ?_)))
       have ht94:=hx62 _ (ois hs61)
       subst ht94
       refine Zj ?_
       have hM:=M.fst (l:=[_,_,_,_]) ((((hM.pull (pre:=[_,_,_,_])).pull (pre:=[_,_,_,_])).pull (pre:=[_,_,_,_])).pull (pre:=[_,_,_,_]))
       exact ⟨u59,hE.sub ⟨rfl,rfl,rfl,rfl,rfl,trivial⟩,hM⟩
     ·skip
      rintro a w ⟨u56,hE,hM⟩
      refine Yi (Zt (wp_region_lit (Zd hE Za ld rfl fun a hE=>Zk hE Za ld rfl rfl rfl fun a hE=>Ze hE Za ld rfl fun a hE=>Zi (Zj ?_))))
      exact ⟨_,(ois hF55),u56,hE.sub ⟨rfl,rfl,rfl,rfl,rfl,trivial⟩,hM⟩
    ·intro hb48
     have hs45:=Zx hs45 hb48
     refine wp_exit (Zp (Zp (Yj ?_)))
     have ht95:=hx46 _ (ois hs45)
     subst ht95
     refine Zj ?_
     have hM:=M.fst (l:=[_]) (hM.pull (pre:=[_,_,_]))
     exact ⟨u43,hE.sub ⟨rfl,trivial⟩,hM⟩
   ·skip
    rintro a w ⟨u40,hE,hM⟩
    refine Zt (Zc (Zd hE Za ld rfl fun a hE=>Ze hE Za ld rfl fun a hE=>Ze hE Za ld rfl fun a hE=>Zf ?_))
    have hr:=Option.some.inj hF39
    subst hr
    exact wp_ret (UM hE rfl (ZA hE rfl) (ZA hE rfl) ⟨_,rfl,u40,rfl,hM.outF (Jf QZ),hM.kept⟩)
def Wi (p0 : Int) (p1 : Int) (p2 : Int) : Option (Bool) :=
 (if (decide (p1 ≤ p0)) = true then (some (decide (p0 ≤ p2))) else (some false) : Option (Bool)).bind fun j1=>some j1
theorem Ta (w0 : World) (p0 : Int) (p1 : Int) (p2 : Int) (r : Bool) (hF : Wi p0 p1 p2 = some r) :
  Calls Try.prog 49 [vI p0,vI p1,vI p2].toArray w0 (fun en w'=>∃ v,en = .returned v ∧ (v = (vT r) ∧ Kept (Old w0) w0 w')):=by
 refine ZC (n:=15) Try.func49 rfl rfl (nbl rfl) rfl ?_
 intro a hE
 have hM:=M.start w0
 unfold Wi at hF
 refine Zc (Ze hE Za ld rfl fun a hE=>Zf ?_)
 obtain ⟨j1,hl2,hF3⟩:=bind_some hF
 refine ZL (fun a w=>Env 15 a [(6,vT j1)] ∧ M (Old w0) w0 w []) ?_ ?_
 ·skip
  refine wp_region_lit (Zd hE Za ld rfl fun a hE=>Zd hE Za ld rfl fun a hE=>Zk hE Za ld rfl rfl rfl fun a hE=>Zd hE Za ld rfl ?_); intro a hE
  refine Va (decide (p1 ≤ p0)) (fun hb4=>?_) (fun hb4=>?_)
  ·have hl2:=Zw hl2 hb4
   refine Zd hE (Zz hE rfl (lkb rfl hb4)) (by decide) rfl fun a hE=>Zd hE (Zz hE rfl (lkb rfl hb4)) (by decide) rfl fun a hE=>Zk hE (Zz hE rfl (lkb rfl hb4)) (by decide) rfl rfl rfl fun a hE=>Xx hE Za ld (lkb rfl hb4) rfl fun a hE=>Ze hE Za ld rfl fun a hE=>Zi ?_
   have ht5:=Option.some.inj hl2
   subst ht5
   refine Zj ?_
   exact ⟨hE.sub ⟨rfl,trivial⟩,hM⟩
  ·have hl2:=Zx hl2 hb4
   refine Zy hE rfl (lkb rfl hb4) rfl (by decide) fun a hE=>Zy hE rfl (lkb rfl hb4) rfl (by decide) fun a hE=>Zy hE rfl (lkb rfl hb4) rfl (by decide) fun a hE=>YO hE Za ld (lkb rfl hb4) rfl fun a hE=>Ze hE Za ld rfl fun a hE=>Zi ?_
   have ht6:=Option.some.inj hl2
   subst ht6
   refine Zj ?_
   exact ⟨hE.sub ⟨rfl,trivial⟩,hM⟩
 ·skip
  rintro a w ⟨hE,hM⟩
  have hr:=Option.some.inj hF3
  subst hr
  exact wp_ret (ZD hE rfl (ZA hE rfl) ⟨_,rfl,rfl,hM.kept⟩)
def W3 (p1 : Int) (p2 : Int) (s4 : Int × Int) : Option (Fl (Int × Int) Int) :=
 if (decide (s4.2 ≥ p2)) = true then (((X6 s4.2).bind fun _=>(if ((andI (shrI s4.1 s4.2) 1) == 1) = true then ((X6 (wr (s4.2 - p2))).bind fun _=>some (JN s4.1 (QO p1 (wr (s4.2 - p2))))) else (some s4.1) : Option (Int)).bind fun j13=>some j13 : Option (Int)).bind fun j9=>some (Fl.nx (j9,wr (s4.2 - 1)))) else (some (Fl.ex s4.1))
def WT (p0 : Int) (p1 : Int) (p2 : Int) : Option (Int) :=
 (ZB (W3 p1 p2) (p0,15)).bind fun j1=>some j1
theorem QW (w0 : World) (p0 : Int) (p1 : Int) (p2 : Int) (r : Int) (hF : WT p0 p1 p2 = some r) :
  Calls Try.prog 98 [vI p0,vI p1,vI p2].toArray w0 (fun en w'=>∃ v,en = .returned v ∧ (v = (vI r) ∧ Kept (Old w0) w0 w')):=by
 refine ZC (n:=26) Try.func98 rfl rfl (nbl rfl) rfl ?_
 intro a hE
 have hM:=M.start w0
 unfold WT at hF
 refine Zc (Ze hE Za ld rfl fun a hE=>Zf (wp_seq (Zc (Ze hE Za ld rfl fun a hE=>Zf ?_))))
 obtain ⟨j1,hl2,hF3⟩:=bind_some hF
 refine ZP (fun a w=>Env 26 a [(0,vI j1)] ∧ M (Old w0) w0 w []) ?_ ?_
 ·skip
  refine wp_block ?_
  refine ZJ (fun (s4 : Int × Int) a w=>Env 26 a [(0,vI s4.1),(1,vI p1),(2,vI p2),(7,vI s4.2)] ∧ M (Old w0) w0 w []) hl2 ⟨hE.sub ⟨rfl,rfl,rfl,rfl,trivial⟩,hM⟩ ?_
  rintro s4 a w ⟨hE,hM⟩ o7 hs5 hx6
  unfold W3 at hs5
  refine wp_seq (Zc (Zd hE Za ld rfl fun a hE=>Zd hE Za ld rfl fun a hE=>Zk hE Za ld rfl rfl rfl fun a hE=>Zf ?_))
  refine Zr hE rfl ?_ ?_
  ·intro hb8
   have hs5:=Zw hs5 hb8
   refine wp_skip (Zt ?_)
   obtain ⟨j9,hl10,hF11⟩:=bind_some hs5
   refine ZL (fun a w=>Env 26 a [(0,vI j9),(1,vI p1),(2,vI p2),(7,vI s4.2)] ∧ M (Old w0) w0 w []) ?_ ?_
   ·skip
    refine wp_block (Zc (Zd hE Za ld rfl fun a hE=>Zd hE Za ld rfl ?_)); intro a hE
    obtain ⟨_,e12,hl10⟩:=bind_some hl10
    have e12:=WN e12
    refine HD hE Za ld rfl rfl (bI_shr _ _ e12) fun a hE=>Zk hE Za ld rfl rfl rfl fun a hE=>Zk hE Za ld rfl rfl rfl fun a hE=>Zf ?_
    obtain ⟨j13,hl14,hF15⟩:=bind_some hl10
    refine ZP (fun a w=>Env 26 a [(0,vI j13),(1,vI p1),(2,vI p2),(7,vI s4.2)] ∧ M (Old w0) w0 w []) ?_ ?_
    ·skip
     refine Zr hE rfl ?_ ?_
     ·intro hb16
      have hl14:=Zw hl14 hb16
      refine wp_region_lit (Zd hE Za ld rfl fun a hE=>Zd hE Za ld rfl fun a hE=>Zd hE Za ld rfl fun a hE=>Zd hE Za ld rfl fun a hE=>Zk hE Za ld rfl rfl rfl ?_); intro a hE
      obtain ⟨_,e17,hl14⟩:=bind_some hl14
      have e17:=WN e17
      refine HD hE Za ld rfl rfl (KB _ _ e17) fun a hE=>Zk hE Za ld rfl rfl rfl fun a hE=>Ze hE Za ld rfl fun a hE=>Zi ?_
      have ht18:=Option.some.inj hl14
      subst ht18
      refine Zj ?_
      exact ⟨hE.sub ⟨rfl,rfl,rfl,rfl,trivial⟩,hM⟩
     ·intro hb16
      have hl14:=Zx hl14 hb16
      refine wp_skip ?_
      have ht19:=Option.some.inj hl14
      subst ht19
      refine Zj ?_
      exact ⟨hE.sub ⟨rfl,rfl,rfl,rfl,trivial⟩,hM⟩
    ·skip
     rintro a w ⟨hE,hM⟩
     refine Yi ?_
     have ht20:=Option.some.inj hF15
     subst ht20
     refine Zj ?_
     exact ⟨hE.sub ⟨rfl,rfl,rfl,rfl,trivial⟩,hM⟩
   ·skip
    rintro a w ⟨hE,hM⟩
    refine wp_region_lit (Zd hE Za ld rfl fun a hE=>Zk hE Za ld rfl rfl rfl fun a hE=>Ze hE Za ld rfl fun a hE=>Zi (Zj ?_))
    exact ⟨_,(ois hF11),hE.sub ⟨rfl,rfl,rfl,rfl,trivial⟩,hM⟩
  ·intro hb8
   have hs5:=Zx hs5 hb8
   refine wp_exit (Zp (Zp (Yj ?_)))
   have ht21:=hx6 _ (ois hs5)
   subst ht21
   refine Zj ?_
   exact ⟨hE.sub ⟨rfl,trivial⟩,hM⟩
 ·skip
  rintro a w ⟨hE,hM⟩
  refine Zt (Zc (Zd hE Za ld rfl fun a hE=>Ze hE Za ld rfl fun a hE=>Zf ?_))
  have hr:=Option.some.inj hF3
  subst hr
  exact wp_ret (ZD hE rfl (ZA hE rfl) ⟨_,rfl,rfl,hM.kept⟩)
def XT (p0 : Int) (s8 : Int) (s18 : Int) : Option (Fl Int (Fl Unit Bool)) :=
 (X6 s8).bind fun _=>if (decide (s18 < (QO 2 s8))) = true then ((WT p0 s18 s8).bind fun r24=>if (r24 == 0) = true then (some (Fl.ex (Fl.ex false))) else (some (Fl.nx (wr (s18 + 1))))) else (some (Fl.ex (Fl.nx ())))
def XS (p0 : Int) (s8 : Int) : Option (Fl Int (Fl Unit Bool)) :=
 if (decide (s8 ≤ 4)) = true then ((X6 s8).bind fun _=>(ZB (XT p0 s8) (QO 1 s8)).bind fun j14=>j14.el (fun s17=>some (Fl.nx (wr (s8 + 1)))) (fun r=>some (Fl.ex (Fl.ex r)))) else (some (Fl.ex (Fl.nx ())))
def WY (p0 : Int) : Option (Bool) :=
 (Wi p0 256 511).bind fun r1=>if (!r1) = true then (some false) else ((ZB (XS p0) 1).bind fun j4=>j4.el (fun s7=>some true) (fun r=>some r))
theorem KO (w0 : World) (p0 : Int) (r : Bool) (hF : WY p0 = some r) :
  Calls Try.prog 47 [vI p0].toArray w0 (fun en w'=>∃ v,en = .returned v ∧ (v = (vT r) ∧ Kept (Old w0) w0 w')):=by
 refine ZC (n:=25) Try.func47 rfl rfl (nbl rfl) rfl ?_
 intro a hE
 have hM:=M.start w0
 unfold WY at hF
 refine Zc (Ze hE Za ld rfl fun a hE=>Zf (wp_seq (Zc (Zd hE Za ld rfl ?_)))); intro a hE
 obtain ⟨r1,e2,hF⟩:=bind_some hF
 refine Zq hE Za ld rfl cb49 (Ta _ p0 256 511 r1 e2) ?_
 rintro v w a ⟨rfl,hK⟩ hE
 have hM:=hM.keep hK
 refine UV hE Za ld rfl fun a hE=>Zf ?_
 refine Zr hE rfl ?_ ?_
 ·intro hb3
  have hF:=Zw hF hb3
  refine Zc (Ze hE Za ld rfl fun a hE=>Zf ?_)
  have hr:=Option.some.inj hF
  subst hr
  exact wp_ret (ZH (ZD hE rfl (ZA hE rfl) ⟨_,rfl,rfl,hM.kept⟩))
 ·intro hb3
  have hF:=Zx hF hb3
  refine wp_skip (Zt (wp_seq (Zc (Ze hE Za ld rfl fun a hE=>Zf ?_))))
  obtain ⟨j4,hl5,hF6⟩:=bind_some hF
  refine ZP (fun a w=>∃ s7 : Unit,j4 = Fl.nx s7 ∧ Env 25 a [] ∧ M (Old w0) w0 w []) ?_ ?_
  ·skip
   refine wp_block ?_
   refine ZJ (fun (s8 : Int) a w=>Env 25 a [(0,vI p0),(3,vI s8)] ∧ M (Old w0) w0 w []) hl5 ⟨hE.sub ⟨rfl,rfl,trivial⟩,hM⟩ ?_
   rintro s8 a w ⟨hE,hM⟩ o11 hs9 hx10
   unfold XS at hs9
   refine wp_seq (Zc (Zd hE Za ld rfl fun a hE=>Zk hE Za ld rfl rfl rfl fun a hE=>Zf ?_))
   refine Zr hE rfl ?_ ?_
   ·intro hb12
    have hs9:=Zw hs9 hb12
    refine wp_skip (Zt (wp_seq (wp_block (Zc (Zd hE Za ld rfl ?_))))); intro a hE
    obtain ⟨_,e13,hs9⟩:=bind_some hs9
    have e13:=WN e13
    refine HD hE Za ld rfl rfl (KB _ _ e13) fun a hE=>Ze hE Za ld rfl fun a hE=>Zf ?_
    obtain ⟨j14,hl15,hF16⟩:=bind_some hs9
    refine ZP (fun a w=>∃ s17 : Unit,j14 = Fl.nx s17 ∧ Env 25 a [(0,vI p0),(3,vI s8)] ∧ M (Old w0) w0 w []) ?_ ?_
    ·skip
     refine wp_block ?_
     refine ZJ (fun (s18 : Int) a w=>Env 25 a [(0,vI p0),(3,vI s8),(4,vI s18)] ∧ M (Old w0) w0 w []) hl15 ⟨hE.sub ⟨rfl,rfl,rfl,trivial⟩,hM⟩ ?_
     rintro s18 a w ⟨hE,hM⟩ o21 hs19 hx20
     unfold XT at hs19
     refine wp_seq (Zc (Zd hE Za ld rfl fun a hE=>Zd hE Za ld rfl ?_)); intro a hE
     obtain ⟨_,e22,hs19⟩:=bind_some hs19
     have e22:=WN e22
     refine HD hE Za ld rfl rfl (KB _ _ e22) fun a hE=>Zk hE Za ld rfl rfl rfl fun a hE=>Zf ?_
     refine Zr hE rfl ?_ ?_
     ·intro hb23
      have hs19:=Zw hs19 hb23
      refine wp_skip (Zt (wp_seq (wp_block (Zc (Zd hE Za ld rfl fun a hE=>Zd hE Za ld rfl fun a hE=>Zd hE Za ld rfl ?_))))); intro a hE
      obtain ⟨r24,e25,hs19⟩:=bind_some hs19
      refine Zq hE Za ld rfl cb98 (QW _ p0 s18 s8 r24 e25) ?_
      rintro v w a ⟨rfl,hK⟩ hE
      have hM:=hM.keep hK
      refine Zk hE Za ld rfl rfl rfl fun a hE=>Zf ?_
      refine Zr hE rfl ?_ ?_
      ·intro hb26
       have hs19:=Zw hs19 hb26
       refine Zc (Ze hE Za ld rfl fun a hE=>Zf ?_)
       have ht27:=hx20 _ (ois hs19)
       subst ht27
       have ht28:=hx10 _ (ois hF16)
       subst ht28
       have hr:=Option.some.inj hF6
       subst hr
       exact wp_ret (Wq (ZH (ZH (Wq (ZH (Wq (ZH (ZH (Wq (ZH (ZH (ZD hE rfl (ZA hE rfl) ⟨_,rfl,rfl,hM.kept⟩))))))))))))
      ·intro hb26
       have hs19:=Zx hs19 hb26
       refine wp_skip (Yi (Zt (wp_region_lit (Zd hE Za ld rfl fun a hE=>Zk hE Za ld rfl rfl rfl fun a hE=>Ze hE Za ld rfl fun a hE=>Zi (Zj ?_)))))
       exact ⟨_,(ois hs19),hE.sub ⟨rfl,rfl,rfl,trivial⟩,hM⟩
     ·intro hb23
      have hs19:=Zx hs19 hb23
      refine wp_exit (Zp (Zp (Yj ?_)))
      have ht29:=hx20 _ (ois hs19)
      subst ht29
      refine Zj ?_
      exact ⟨(),rfl,hE.sub ⟨rfl,rfl,trivial⟩,hM⟩
    ·skip
     rintro a w ⟨s17,ht,hE,hM⟩
     subst ht
     have hF16:=UU hF16
     refine Yi (Zt (wp_region_lit (Zd hE Za ld rfl fun a hE=>Zk hE Za ld rfl rfl rfl fun a hE=>Ze hE Za ld rfl fun a hE=>Zi (Zj ?_))))
     exact ⟨_,(ois hF16),hE.sub ⟨rfl,rfl,trivial⟩,hM⟩
   ·intro hb12
    have hs9:=Zx hs9 hb12
    refine wp_exit (Zp (Zp (Yj ?_)))
    have ht30:=hx10 _ (ois hs9)
    subst ht30
    refine Zj ?_
    exact ⟨(),rfl,hE.sub trivial,hM⟩
  ·skip
   rintro a w ⟨s7,ht,hE,hM⟩
   subst ht
   have hF6:=UU hF6
   refine Zt (Zc (Ze hE Za ld rfl fun a hE=>Zf ?_))
   have hr:=Option.some.inj hF6
   subst hr
   exact wp_ret (ZD hE rfl (ZA hE rfl) ⟨_,rfl,rfl,hM.kept⟩)
def Z8 (p0 : (List Bool)) (p1 : Bool) (s5 : Int) : Option (Fl Int (Fl Unit Int)) :=
 if (decide (s5 < (p0.length : Int))) = true then ((idx p0 s5).bind fun x10=>if (p1 == x10) = true then (some (Fl.ex (Fl.ex s5))) else (some (Fl.nx (wr (s5 + 1))))) else (some (Fl.ex (Fl.nx ())))
def Y9 (p0 : (List Bool)) (p1 : Bool) : Option (Int) :=
 (ZB (Z8 p0 p1) 0).bind fun j1=>j1.el (fun s4=>some (-1)) (fun r=>some r)
theorem Ut (w0 : World) (p0 : (List Bool)) (v0_1 : Value) (hv0_1 : Ro w0 p0 [v0_1]) (p1 : Bool) (r : Int) (hF : Y9 p0 p1 = some r) :
  Calls Try.prog 158 [v0_1,vT p1].toArray w0 (fun en w'=>∃ v,en = .returned v ∧ (v = (vI r) ∧ Kept (Old w0) w0 w')):=by
 refine ZC (n:=19) Try.func158 rfl rfl (nbl rfl) rfl ?_
 intro a hE
 have hM:=M.start w0
 unfold Y9 at hF
 refine Zc (Ze hE Za ld rfl fun a hE=>Zf (wp_seq (Zc (Zd hE Za ld rfl fun a hE=>UC hE Za ld rfl Try.underlying175 (hM.rd hv0_1) fun a hE=>Zd hE Za ld rfl fun a hE=>Zf ?_))))
 obtain ⟨j1,hl2,hF3⟩:=bind_some hF
 refine ZP (fun a w=>∃ s4 : Unit,j1 = Fl.nx s4 ∧ Env 19 a [] ∧ M (Old w0) w0 w []) ?_ ?_
 ·skip
  refine wp_block ?_
  refine ZJ (fun (s5 : Int) a w=>Env 19 a [(0,v0_1),(1,vT p1),(7,(vI (p0.length : Int))),(8,vI s5)] ∧ M (Old w0) w0 w []) hl2 ⟨hE.sub ⟨rfl,rfl,rfl,rfl,trivial⟩,hM⟩ ?_
  rintro s5 a w ⟨hE,hM⟩ o8 hs6 hx7
  unfold Z8 at hs6
  refine Zc (Zk hE Za ld rfl rfl rfl fun a hE=>Zf (wp_seq ?_))
  refine Zr hE rfl ?_ ?_
  ·intro hb9
   have hs6:=Zw hs6 hb9
   refine wp_skip (Zt (wp_seq (wp_block (Zc (Zd hE Za ld rfl fun a hE=>Ze hE Za ld rfl fun a hE=>Zf (Zc (Zd hE Za ld rfl fun a hE=>Zd hE Za ld rfl fun a hE=>Zd hE Za ld rfl ?_))))))); intro a hE
   obtain ⟨x10,hi12,hs6⟩:=bix hs6
   refine YT hE Za ld rfl rfl Try.underlying175 ty4 (hM.rd hv0_1) hi12.1 fun a hE=>Zv (v:=(vT x10)) hE Za ld rfl ty4 rfl (Vb (hM.rd hv0_1) hi12.2) fun a hE=>s_eqT hE Za ld rfl rfl Try.underlying4 fun a hE=>Zf ?_
   refine Zr hE rfl ?_ ?_
   ·intro hb13
    have hs6:=Zw hs6 hb13
    refine Zc (Zd hE Za ld rfl fun a hE=>Ze hE Za ld rfl fun a hE=>Zf ?_)
    have ht14:=hx7 _ (ois hs6)
    subst ht14
    have hr:=Option.some.inj hF3
    subst hr
    exact wp_ret (Wq (ZH (ZH (Wq (ZH (ZH (ZD hE rfl (ZA hE rfl) ⟨_,rfl,rfl,hM.kept⟩)))))))
   ·intro hb13
    have hs6:=Zx hs6 hb13
    refine wp_skip (Yi (Zt (wp_region_lit (Zk hE Za ld rfl rfl rfl fun a hE=>Zd hE Za ld rfl fun a hE=>Zi (Zj ?_)))))
    exact ⟨_,(ois hs6),hE.sub ⟨rfl,rfl,rfl,rfl,trivial⟩,hM⟩
  ·intro hb9
   have hs6:=Zx hs6 hb9
   refine wp_exit (Zp (Zp (Yj ?_)))
   have ht15:=hx7 _ (ois hs6)
   subst ht15
   refine Zj ?_
   exact ⟨(),rfl,hE.sub trivial,hM⟩
 ·skip
  rintro a w ⟨s4,ht,hE,hM⟩
  subst ht
  have hF3:=UU hF3
  refine Zt (Zc (Ze hE Za ld rfl fun a hE=>Zf ?_))
  have hr:=Option.some.inj hF3
  subst hr
  exact wp_ret (ZD hE rfl (ZA hE rfl) ⟨_,rfl,rfl,hM.kept⟩)
def Yb (p0 : (List Bool)) (p1 : Bool) : Option (Bool) :=
 (Y9 p0 p1).bind fun r1=>some (decide (r1 ≥ 0))
theorem V1 (w0 : World) (p0 : (List Bool)) (v0_1 : Value) (hv0_1 : Ro w0 p0 [v0_1]) (p1 : Bool) (r : Bool) (hF : Yb p0 p1 = some r) :
  Calls Try.prog 152 [v0_1,vT p1].toArray w0 (fun en w'=>∃ v,en = .returned v ∧ (v = (vT r) ∧ Kept (Old w0) w0 w')):=by
 refine ZC (n:=9) Try.func152 rfl rfl (nbl rfl) rfl ?_
 intro a hE
 have hM:=M.start w0
 unfold Yb at hF
 refine Zc (Ze hE Za ld rfl fun a hE=>Zf (Zc (Zd hE Za ld rfl fun a hE=>Zd hE Za ld rfl ?_))); intro a hE
 obtain ⟨r1,e2,hF⟩:=bind_some hF
 refine Zq hE Za ld rfl cb158 (Ut _ p0 v0_1 (hM.rdo hv0_1) p1 r1 e2) ?_
 rintro v w a ⟨rfl,hK⟩ hE
 have hM:=hM.keep hK
 refine Zk hE Za ld rfl rfl rfl fun a hE=>Ze hE Za ld rfl fun a hE=>Zf ?_
 have hr:=Option.some.inj hF
 subst hr
 exact wp_ret (ZD hE rfl (ZA hE rfl) ⟨_,rfl,rfl,hM.kept⟩)
def Ys (p0 : (Vector UInt8 256)) (s8 : (Vector Bool 256) × Int) : Option (Fl ((Vector Bool 256) × Int) (Vector Bool 256)) :=
 if (decide (s8.2 < 256)) = true then ((Zs p0 s8.2).bind fun x13=>(Zs s8.1 (bI x13)).bind fun x17=>some (Fl.nx ((s8.1.setIfInBounds ((bI x13)).toNat true),wr (s8.2 + 1)))) else (some (Fl.ex s8.1))
def Xi (p0 : (Vector UInt8 256)) : Option (Bool) :=
 (ZB (Ys p0) ((Vector.replicate 256 false),0)).bind fun j5=>(slc j5.toList (0 : Int) (256 : Int)).bind fun l20=>(Yb l20 false).bind fun r23=>some (!r23)
theorem Tg (w0 : World) (p0 : (Vector UInt8 256)) (r : Bool) (hF : Xi p0 = some r) :
  Calls Try.prog 123 [(Value.agg (enc p0).toArray)].toArray w0 (fun en w'=>∃ v,en = .returned v ∧ (v = (vT r) ∧ Kept (Old w0) w0 w')):=by
 refine ZC (n:=17) Try.func123 rfl rfl (nbl rfl) rfl ?_
 intro a hE
 have hM:=M.start w0
 unfold Xi at hF
 refine Zc (ZX (cs:=enc p0) hE hM Za ld rfl rfl fun b1 w a hM hE=>Ze hE Za ld rfl fun a hE=>Zf (Zc (YP (parts:=[]) (vs:=[]) (cs:=enc (Vector.replicate 256 false)) hE Za ld rfl rfl Jo rfl ty4 Yr fun a hE=>ZF hE hM Za ld Jo fun b3 w a hM hE=>Zm (seg:=enc (Vector.replicate 256 false)) (cs':=enc (Vector.replicate 256 false)) hE hM Za rfl rfl rfl Jo (Flat.len _) (zle flq) (Flat.cell _) (Zn flq) fun w a hM hE=>Zf (wp_seq (Zc (Zl (cs:=enc p0) hE Za ld rfl WO rfl (hM.rawAt (pre:=[_])) (Flat.len _) fun a hE=>Zd hE Za ld rfl fun a hE=>Zf ?_))))))
 obtain ⟨j5,hl6,hF7⟩:=bind_some hF
 refine ZP (fun a w=>Env 17 a [(3,(ptr b3 0))] ∧ M (Old w0) w0 w [raw b3 (enc j5)]) ?_ ?_
 ·skip
  refine wp_block ?_
  have hM:=M.fst (l:=[_]) hM
  refine ZJ (fun (s8 : (Vector Bool 256) × Int) a w=>Env 17 a [(3,(ptr b3 0)),(7,(Value.agg (enc p0).toArray)),(8,vI s8.2)] ∧ M (Old w0) w0 w [raw b3 (enc s8.1)]) hl6 ⟨hE.sub ⟨rfl,rfl,rfl,trivial⟩,hM⟩ ?_
  rintro s8 a w ⟨hE,hM⟩ o11 hs9 hx10
  unfold Ys at hs9
  refine Zc (Zk hE Za ld rfl rfl rfl fun a hE=>Zf (wp_seq ?_))
  refine Zr hE rfl ?_ ?_
  ·intro hb12
   have hs9:=Zw hs9 hb12
   refine wp_skip (Zt (wp_seq (wp_block (Zc ?_))))
   obtain ⟨x13,hi15,hs9⟩:=bvx hs9
   refine VT hE Za ld rfl rfl Try.underlying49 ty5 rfl rfl hi15 rfl fun a hE=>Ze hE Za ld rfl fun a hE=>Zf (wp_region_lit (Zd hE Za ld rfl ?_)); intro a hE
   obtain ⟨x17,hi16,hs9⟩:=bvx hs9
   refine Zg hE Za ld rfl rfl Try.underlying117 ty4 hi16.1 fun a hE=>Zm (seg:=[vT true]) (cs':=enc (s8.1.setIfInBounds ((bI x13)).toNat true)) hE hM Za rfl rfl rfl ty4 rfl (ZI (v:=s8.1) (x:=true) hi16.1) (Flat.cell (true : Bool)) (Zu (v:=s8.1) (x:=true) hi16.1) fun w a hM hE=>Zi (Yi (Zt (wp_region_lit (Zk hE Za ld rfl rfl rfl fun a hE=>Zd hE Za ld rfl fun a hE=>Zi (Zj ?_)))))
   exact ⟨_,(ois hs9),hE.sub ⟨rfl,rfl,rfl,trivial⟩,hM⟩
  ·intro hb12
   have hs9:=Zx hs9 hb12
   refine wp_exit (Zp (Zp (Yj ?_)))
   have ht19:=hx10 _ (ois hs9)
   subst ht19
   refine Zj ?_
   exact ⟨hE.sub ⟨rfl,trivial⟩,hM⟩
 ·skip
  rintro a w ⟨hE,hM⟩
  refine Zt (Zc ?_)
  obtain ⟨l20,e21,hF7⟩:=bind_some hF7
  have hb22:=Km e21 -- ^
  refine UE (N:=256) hE Za ld rfl rfl rfl rfl rfl Try.underlying117 ty4 hb22 ?_; intro a hE
  obtain ⟨r23,e24,hF7⟩:=bind_some hF7
  refine Zq hE Za ld rfl cb152 (V1 _ l20 (Ws (.slice (some ⟨b3,0,none⟩) 256 256) ((0 : Int)).toNat ((256 : Int)).toNat 1) (KG (At.sat (hM.rawAt (pre:=[])) (by simp) (by decide)) e21) false r23 e24) ?_
  rintro v w a ⟨rfl,hK⟩ hE
  have hM:=hM.keep hK
  refine UV hE Za ld rfl fun a hE=>Ze hE Za ld rfl fun a hE=>Zf ?_
  have hr:=Option.some.inj hF7
  subst hr
  have hM:=M.fst (l:=[]) hM
  exact wp_ret (ZD hE rfl (ZA hE rfl) ⟨_,rfl,rfl,hM.kept⟩)
def Vl (s8 : (Vector (Vector UInt8 4) 4) × Int) : Option (Fl ((Vector (Vector UInt8 4) 4) × Int) (Vector (Vector UInt8 4) 4)) :=
 if (decide (s8.2 < 4)) = true then ((Zs s8.1 s8.2).bind fun x14=>(Zs x14 s8.2).bind fun x17=>some (Fl.nx ((s8.1.setIfInBounds (s8.2).toNat (x14.setIfInBounds (s8.2).toNat 1)),wr (s8.2 + 1)))) else (some (Fl.ex s8.1))
def X2 : Option ((Vector (Vector UInt8 4) 4)) :=
 (ZB (Vl) ((Vector.replicate 4 (Vector.replicate 4 (0 : UInt8))),0)).bind fun j5=>some j5
theorem Qr (w0 : World)  (r : (Vector (Vector UInt8 4) 4)) (hF : X2  = some r) :
  Calls Try.prog 153 [].toArray w0 (fun en w'=>∃ v,en = .returned v ∧ (v = (Value.agg (enc r).toArray) ∧ Kept (Old w0) w0 w')):=by
 refine ZC (n:=13) Try.func153 rfl rfl (nbl rfl) rfl ?_
 intro a hE
 have hM:=M.start w0
 unfold X2 at hF
 refine Zc (ZF hE hM Za ld Yw fun b1 w a hM hE=>Zf (Zc (YP (parts:=[]) (vs:=[]) (cs:=enc (Vector.replicate 4 (Vector.replicate 4 (0 : UInt8)))) hE Za ld rfl rfl Yw rfl Z4 Yr fun a hE=>ZF hE hM Za ld Yw fun b3 w a hM hE=>Zm (seg:=enc (Vector.replicate 4 (Vector.replicate 4 (0 : UInt8)))) (cs':=enc (Vector.replicate 4 (Vector.replicate 4 (0 : UInt8)))) hE hM Za rfl rfl rfl Yw (Flat.len _) (zle flq) (Flat.cell _) (Zn flq) fun w a hM hE=>Zf (wp_seq (Zc (Zd hE Za ld rfl fun a hE=>Zf ?_))))))
 obtain ⟨j5,hl6,hF7⟩:=bind_some hF
 refine ZP (fun a w=>Env 13 a [(0,(ptr b1 0)),(1,(ptr b3 0))] ∧ M (Old w0) w0 w [raw b3 (enc j5),raw b1 (enc (Vector.replicate 4 (Vector.replicate 4 (0 : UInt8))))]) ?_ ?_
 ·skip
  refine wp_block ?_
  refine ZJ (fun (s8 : (Vector (Vector UInt8 4) 4) × Int) a w=>Env 13 a [(0,(ptr b1 0)),(1,(ptr b3 0)),(4,vI s8.2)] ∧ M (Old w0) w0 w [raw b3 (enc s8.1),raw b1 (enc (Vector.replicate 4 (Vector.replicate 4 (0 : UInt8))))]) hl6 ⟨hE.sub ⟨rfl,rfl,rfl,trivial⟩,hM⟩ ?_
  rintro s8 a w ⟨hE,hM⟩ o11 hs9 hx10
  unfold Vl at hs9
  refine Zc (Zk hE Za ld rfl rfl rfl fun a hE=>Zf (wp_seq ?_))
  refine Zr hE rfl ?_ ?_
  ·intro hb12
   have hs9:=Zw hs9 hb12
   refine wp_skip (Zt (wp_seq (wp_block (Zc (Zd hE Za ld rfl fun a hE=>Ze hE Za ld rfl fun a hE=>Zf (wp_region_lit (Zd hE Za ld rfl fun a hE=>Zd hE Za ld rfl ?_))))))); intro a hE
   obtain ⟨x14,hi13,hs9⟩:=bvx hs9
   refine Zg hE Za ld rfl rfl Try.underlying50 Z4 hi13.1 ?_; intro a hE
   obtain ⟨x17,hi16,hs9⟩:=bvx hs9
   refine Zg hE Za ld rfl rfl Try.underlying42 ty5 hi16.1 fun a hE=>Zm (seg:=[vB 1]) (cs':=enc (s8.1.setIfInBounds (s8.2).toNat (x14.setIfInBounds (s8.2).toNat 1))) hE hM Za rfl rfl rfl ty5 rfl (Wk (o':=0 + (s8.2).toNat * 1) hi13 (ZI (v:=x14) (x:=1) hi16.1) (by first | omega | (simp only [Flat.n] <;> omega))) (Flat.cell (1 : UInt8)) (YM (o':=0 + (s8.2).toNat * 1) hi13 (ZI (v:=x14) (x:=1) hi16.1) (Zu (v:=x14) (x:=1) hi16.1) (by first | omega | (simp only [Flat.n] <;> omega))) fun w a hM hE=>Zi (Yi (Zt (wp_region_lit (Zk hE Za ld rfl rfl rfl fun a hE=>Zd hE Za ld rfl fun a hE=>Zi (Zj ?_)))))
   exact ⟨_,(ois hs9),hE.sub ⟨rfl,rfl,rfl,trivial⟩,hM⟩
  ·intro hb12
   have hs9:=Zx hs9 hb12
   refine wp_exit (Zp (Zp (Yj ?_)))
   have ht19:=hx10 _ (ois hs9)
   subst ht19
   refine Zj ?_
   exact ⟨hE.sub ⟨rfl,rfl,trivial⟩,hM⟩
 ·skip
  rintro a w ⟨hE,hM⟩
  refine Zt (Zc (Zl (cs:=enc j5) hE Za ld rfl Yw rfl (hM.rawAt (pre:=[])) (Flat.len _) ?_)); intro a hE
  have hM:=hM.pull (pre:=[_])
  refine Zm (seg:=enc j5) (cs':=enc j5) hE hM Za rfl rfl rfl Yw (Flat.len _) (zle flq) (Flat.cell _) (Zn flq) fun w a hM hE=>Zf ?_
  have hr:=Option.some.inj hF7
  subst hr
  have hq20 : YD Try.prog _ _ (.cell 0 50) _:=ZW hE rfl Yw rfl (hM.rawAt (pre:=[])) (Flat.len _) rfl
  have hM:=M.fst (l:=[]) hM
  exact wp_ret (ZD hE rfl hq20 ⟨_,rfl,rfl,hM.kept⟩)
def YK (p1 : UInt8) (p2 : UInt8) (s4 : Int × Int) : Option (Fl (Int × Int) Int) :=
 if (decide (s4.2 < 8)) = true then (((X6 s4.2).bind fun _=>(if (((JR p2 s4.2) &&& 1) == 1) = true then ((X6 s4.2).bind fun _=>some (JN s4.1 (QO (bI p1) s4.2))) else (some s4.1) : Option (Int)).bind fun j13=>some j13 : Option (Int)).bind fun j9=>some (Fl.nx (j9,wr (s4.2 + 1)))) else (some (Fl.ex s4.1))
def ZR (p0 : Int) (p1 : UInt8) (p2 : UInt8) : Option (UInt8) :=
 (ZB (YK p1 p2) (0,0)).bind fun j1=>(WT j1 p0 8).bind fun r22=>some (ZO r22)
end

end Go.Proofs.Ytpjogonponkbmaa
