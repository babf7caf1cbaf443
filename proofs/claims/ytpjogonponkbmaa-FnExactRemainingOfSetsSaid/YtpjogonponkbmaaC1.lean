/- The walk of what the law reaches: contracts of functions. -/
import Derived.Test.YtpjogonponkbmaaK2
import Derived.Test.YtpjogonponkbmaaProg
set_option linter.unusedVariables false
set_option linter.unusedSimpArgs false
set_option maxRecDepth 20000
set_option maxHeartbeats 400000
namespace Go.Proofs.Ytpjogonponkbmaa
open Go
open Flat (enc)
noncomputable section
structure GCipher where
 Field : Int
 Box : (Vector UInt8 256)
 Mix : (Vector (Vector UInt8 4) 4)
 Places : (Vector UInt8 16)
 Rounds : Int
 deriving DecidableEq,Inhabited
instance : Dat GCipher:=⟨fun x=>Dat.bd (α:=Int × (Vector UInt8 256) × (Vector (Vector UInt8 4) 4) × (Vector UInt8 16) × Int) (x.Field,x.Box,x.Mix,x.Places,x.Rounds),fun x=>Dat.sz (α:=Int × (Vector UInt8 256) × (Vector (Vector UInt8 4) 4) × (Vector UInt8 16) × Int) (x.Field,x.Box,x.Mix,x.Places,x.Rounds) + 1⟩
instance : Flat GCipher where
 n:=290
 enc x:=cat [enc x.Field,enc x.Box,enc x.Mix,enc x.Places,enc x.Rounds]
 len x:=YF (cl1 (Flat.len _) (cl1 (Flat.len _) (cl1 (Flat.len _) (cl1 (Flat.len _) (cl1 (Flat.len _) cl0)))))
 cell x:=Hp (cc1 (Flat.cell _) (cc1 (Flat.cell _) (cc1 (Flat.cell _) (cc1 (Flat.cell _) (cc1 (Flat.cell _) cc0)))))
structure Gengine where
 box : (Vector UInt8 256)
 backBox : (Vector UInt8 256)
 places : (Vector UInt8 16)
 backPlaces : (Vector UInt8 16)
 mixer : (Ref (Vector (Vector (Vector UInt8 256) 4) 4))
 backMixer : (Ref (Vector (Vector (Vector UInt8 256) 4) 4))
 rounds : Int
 deriving DecidableEq,Inhabited
instance : Dat Gengine:=⟨fun x=>Dat.bd (α:=(Vector UInt8 256) × (Vector UInt8 256) × (Vector UInt8 16) × (Vector UInt8 16) × (Ref (Vector (Vector (Vector UInt8 256) 4) 4)) × (Ref (Vector (Vector (Vector UInt8 256) 4) 4)) × Int) (x.box,x.backBox,x.places,x.backPlaces,x.mixer,x.backMixer,x.rounds),fun x=>Dat.sz (α:=(Vector UInt8 256) × (Vector UInt8 256) × (Vector UInt8 16) × (Vector UInt8 16) × (Ref (Vector (Vector (Vector UInt8 256) 4) 4)) × (Ref (Vector (Vector (Vector UInt8 256) 4) 4)) × Int) (x.box,x.backBox,x.places,x.backPlaces,x.mixer,x.backMixer,x.rounds) + 1⟩
instance : Rep Gengine:=repIso (α:=(Vector UInt8 256) × (Vector UInt8 256) × (Vector UInt8 16) × (Vector UInt8 16) × (Ref (Vector (Vector (Vector UInt8 256) 4) 4)) × (Ref (Vector (Vector (Vector UInt8 256) 4) 4)) × Int) (fun x=>(x.box,x.backBox,x.places,x.backPlaces,x.mixer,x.backMixer,x.rounds))
theorem HE {S : Nat → Prop} {w : World} {x : Gengine} {cs : List Value} {fp : List Nat} (h : Rep.sat S w x cs fp) : ∃ (u1 : Value) (u2 : Value),∃ (g1 : List Nat) (g2 : List Nat),cs = cat [enc x.box,enc x.backBox,enc x.places,enc x.backPlaces,[u1],[u2],enc x.rounds] ∧ fp = (g1 ++ g2) ∧ Rep.sat S w x.mixer [u1] g1 ∧ Rep.sat S w x.backMixer [u2] g2:=by
 obtain ⟨c0,d0,f0,q0,rfl,rfl,h0,hr0⟩:=h
 obtain ⟨rfl,rfl⟩:=h0
 obtain ⟨c1,d1,f1,q1,rfl,rfl,h1,hr1⟩:=hr0
 obtain ⟨rfl,rfl⟩:=h1
 obtain ⟨c2,d2,f2,q2,rfl,rfl,h2,hr2⟩:=hr1
 obtain ⟨rfl,rfl⟩:=h2
 obtain ⟨c3,d3,f3,q3,rfl,rfl,h3,hr3⟩:=hr2
 obtain ⟨rfl,rfl⟩:=h3
 obtain ⟨c4,d4,f4,q4,rfl,rfl,h4,hr4⟩:=hr3
 obtain ⟨u1,rfl⟩:=Kw h4
 obtain ⟨c5,d5,f5,q5,rfl,rfl,h5,hr5⟩:=hr4
 obtain ⟨u2,rfl⟩:=Kw h5
 obtain ⟨rfl,rfl⟩:=hr5
 exact ⟨u1,u2,_,_,rfl,by simp,h4,h5⟩
theorem zo {S : Nat → Prop} {w : World} {x : Gengine} {u1 u2 : Value} {fp : List Nat} (h : Rep.sat S w x (cat [enc x.box,enc x.backBox,enc x.places,enc x.backPlaces,[u1],[u2],enc x.rounds]) fp) : ∃ (g1 : List Nat) (g2 : List Nat),fp = (g1 ++ g2) ∧ Rep.sat S w x.mixer [u1] g1 ∧ Rep.sat S w x.backMixer [u2] g2:=by
 obtain ⟨w1,w2,g1,g2,hc,hf,s1,s2⟩:=HE h
 obtain ⟨e1,k1⟩:=TJ hc rfl
 obtain ⟨e2,k2⟩:=TJ k1 rfl
 obtain ⟨e3,k3⟩:=TJ k2 rfl
 obtain ⟨e4,k4⟩:=TJ k3 rfl
 obtain ⟨e5,k5⟩:=TJ k4 rfl
 obtain ⟨e6,k6⟩:=TJ k5 rfl
 obtain rfl:=(List.cons.inj e5).1
 obtain rfl:=(List.cons.inj e6).1
 exact ⟨g1,g2,hf,s1,s2⟩
theorem V9 {S : Nat → Prop} {w : World} {x : Gengine} {cs : List Value} (h : Rep.sat S w x cs []) : ∃ u1 u2,cs = cat [enc x.box,enc x.backBox,enc x.places,enc x.backPlaces,[u1],[u2],enc x.rounds] ∧ Rep.sat S w x.mixer [u1] [] ∧ Rep.sat S w x.backMixer [u2] []:=by
 obtain ⟨c0,d0,f0,g0,rfl,hf0,h0,hr0⟩:=h
 obtain ⟨rfl,rfl⟩:=List.append_eq_nil_iff.1 hf0.symm
 obtain ⟨rfl,_⟩:=h0
 obtain ⟨c1,d1,f1,g1,rfl,hf1,h1,hr1⟩:=hr0
 obtain ⟨rfl,rfl⟩:=List.append_eq_nil_iff.1 hf1.symm
 obtain ⟨rfl,_⟩:=h1
 obtain ⟨c2,d2,f2,g2,rfl,hf2,h2,hr2⟩:=hr1
 obtain ⟨rfl,rfl⟩:=List.append_eq_nil_iff.1 hf2.symm
 obtain ⟨rfl,_⟩:=h2
 obtain ⟨c3,d3,f3,g3,rfl,hf3,h3,hr3⟩:=hr2
 obtain ⟨rfl,rfl⟩:=List.append_eq_nil_iff.1 hf3.symm
 obtain ⟨rfl,_⟩:=h3
 obtain ⟨c4,d4,f4,g4,rfl,hf4,h4,hr4⟩:=hr3
 obtain ⟨rfl,rfl⟩:=List.append_eq_nil_iff.1 hf4.symm
 obtain ⟨u1,rfl⟩:=Kw h4
 obtain ⟨c5,d5,f5,g5,rfl,hf5,h5,hr5⟩:=hr4
 obtain ⟨rfl,rfl⟩:=List.append_eq_nil_iff.1 hf5.symm
 obtain ⟨u2,rfl⟩:=Kw h5
 obtain ⟨rfl,_⟩:=hr5
 exact ⟨u1,u2,rfl,h4,h5⟩
theorem Bt {S : Nat → Prop} {w : World} {x : Gengine} {u1 u2 : Value} {g1 g2 fp : List Nat} (h1 : Rep.sat S w x.mixer [u1] g1) (h2 : Rep.sat S w x.backMixer [u2] g2) (hfp : fp = (g1 ++ g2)) : Rep.sat S w x (cat [enc x.box,enc x.backBox,enc x.places,enc x.backPlaces,[u1],[u2],enc x.rounds]) fp:=by
 rw [hfp]
 refine ⟨_,_,[],(g1 ++ g2),rfl,(by simp),⟨rfl,rfl⟩,?_⟩
 refine ⟨_,_,[],(g1 ++ g2),rfl,(by simp),⟨rfl,rfl⟩,?_⟩
 refine ⟨_,_,[],(g1 ++ g2),rfl,(by simp),⟨rfl,rfl⟩,?_⟩
 refine ⟨_,_,[],(g1 ++ g2),rfl,(by simp),⟨rfl,rfl⟩,?_⟩
 refine ⟨_,_,g1,g2,rfl,(by simp),h1,?_⟩
 refine ⟨_,_,g2,[],rfl,(by simp),h2,?_⟩
 exact ⟨rfl,rfl⟩
theorem ty2 : Ty Try.prog 2 (.int .i64) 1 8 (enc (0 : Int)):=⟨Try.underlying2,by kernel_rfl⟩
theorem ty4 : Ty Try.prog 4 .bool 1 1 (enc false):=⟨Try.underlying4,by kernel_rfl⟩
theorem ty5 : Ty Try.prog 5 (.int .u8) 1 1 (enc (0 : UInt8)):=⟨Try.underlying5,by kernel_rfl⟩
theorem HK : Ty Try.prog 41 (.array 256 5) 256 256 (enc (Vector.replicate 256 (0 : UInt8))):=⟨Try.underlying41,by kernel_rfl⟩
theorem Z7 : Ty Try.prog 42 (.array 4 5) 4 4 (enc (Vector.replicate 4 (0 : UInt8))):=⟨Try.underlying42,by kernel_rfl⟩
theorem ty43 : Ty Try.prog 43 (.array 4 42) 16 16 (enc (Vector.replicate 4 (Vector.replicate 4 (0 : UInt8)))):=⟨Try.underlying43,by kernel_rfl⟩
theorem H2 : Ty Try.prog 44 (.array 16 5) 16 16 (enc (Vector.replicate 16 (0 : UInt8))):=⟨Try.underlying44,by kernel_rfl⟩
theorem HL : Ty Try.prog 46 (.struct [{ name := "Field", type := 2, offset := 0, embedded := false, tag := "", pkgPath := "", byteOffset := 0 }, { name := "Box", type := 41, offset := 1, embedded := false, tag := "", pkgPath := "", byteOffset := 8 }, { name := "Mix", type := 43, offset := 257, embedded := false, tag := "", pkgPath := "", byteOffset := 264 }, { name := "Places", type := 44, offset := 273, embedded := false, tag := "", pkgPath := "", byteOffset := 280 }, { name := "Rounds", type := 2, offset := 289, embedded := false, tag := "", pkgPath := "", byteOffset := 296 }].toArray) 290 304 (enc (⟨(0 : Int), (Vector.replicate 256 (0 : UInt8)), (Vector.replicate 4 (Vector.replicate 4 (0 : UInt8))), (Vector.replicate 16 (0 : UInt8)), (0 : Int)⟩ : GCipher)) := ⟨Try.underlying46, by kernel_rfl⟩
theorem Vq : Ty Try.prog 49 (.array 256 5) 256 256 (enc (Vector.replicate 256 (0 : UInt8))):=⟨Try.underlying49,by kernel_rfl⟩
theorem YM : Ty Try.prog 50 (.array 4 42) 16 16 (enc (Vector.replicate 4 (Vector.replicate 4 (0 : UInt8)))):=⟨Try.underlying50,by kernel_rfl⟩
theorem Ul : Ty Try.prog 51 (.array 16 5) 16 16 (enc (Vector.replicate 16 (0 : UInt8))):=⟨Try.underlying51,by kernel_rfl⟩
theorem Uz : Ty Try.prog 53 (.struct [{ name := "Field", type := 2, offset := 0, embedded := false, tag := "", pkgPath := "", byteOffset := 0 }, { name := "Box", type := 49, offset := 1, embedded := false, tag := "", pkgPath := "", byteOffset := 8 }, { name := "Mix", type := 50, offset := 257, embedded := false, tag := "", pkgPath := "", byteOffset := 264 }, { name := "Places", type := 51, offset := 273, embedded := false, tag := "", pkgPath := "", byteOffset := 280 }, { name := "Rounds", type := 2, offset := 289, embedded := false, tag := "", pkgPath := "", byteOffset := 296 }].toArray) 290 304 (enc (⟨(0 : Int), (Vector.replicate 256 (0 : UInt8)), (Vector.replicate 4 (Vector.replicate 4 (0 : UInt8))), (Vector.replicate 16 (0 : UInt8)), (0 : Int)⟩ : GCipher)) := ⟨Try.underlying53, by kernel_rfl⟩
theorem ZK : Ty Try.prog 55 (.array 16 5) 16 16 (enc (Vector.replicate 16 (0 : UInt8))):=⟨Try.underlying55,by kernel_rfl⟩
theorem ty66 : Ty Try.prog 66 (.slice 2) 1 24 [.slice none 0 0]:=⟨Try.underlying66,by kernel_rfl⟩
theorem V4 : Ty Try.prog 117 (.array 256 4) 256 256 (enc (Vector.replicate 256 false)):=⟨Try.underlying117,by kernel_rfl⟩
theorem AP : Ty Try.prog 154 (.pointer 180) 1 8 [.pointer none]:=⟨Try.underlying154,by kernel_rfl⟩
theorem Q6 : Ty Try.prog 157 (.struct [{ name := "box", type := 49, offset := 0, embedded := false, tag := "", pkgPath := "loop.example/g01182/impl", byteOffset := 0 }, { name := "backBox", type := 49, offset := 256, embedded := false, tag := "", pkgPath := "loop.example/g01182/impl", byteOffset := 256 }, { name := "places", type := 51, offset := 512, embedded := false, tag := "", pkgPath := "loop.example/g01182/impl", byteOffset := 512 }, { name := "backPlaces", type := 51, offset := 528, embedded := false, tag := "", pkgPath := "loop.example/g01182/impl", byteOffset := 528 }, { name := "mixer", type := 154, offset := 544, embedded := false, tag := "", pkgPath := "loop.example/g01182/impl", byteOffset := 544 }, { name := "backMixer", type := 154, offset := 545, embedded := false, tag := "", pkgPath := "loop.example/g01182/impl", byteOffset := 552 }, { name := "rounds", type := 2, offset := 546, embedded := false, tag := "", pkgPath := "loop.example/g01182/impl", byteOffset := 560 }].toArray) 547 568 (cat [(enc (Vector.replicate 256 (0 : UInt8))), (enc (Vector.replicate 256 (0 : UInt8))), (enc (Vector.replicate 16 (0 : UInt8))), (enc (Vector.replicate 16 (0 : UInt8))), [.pointer none], [.pointer none], (enc (0 : Int))]) := ⟨Try.underlying157, by kernel_rfl⟩
theorem Ap : Ty Try.prog 170 (.array 16 4) 16 16 (enc (Vector.replicate 16 false)):=⟨Try.underlying170,by kernel_rfl⟩
theorem KF : Ty Try.prog 178 (.array 4 41) 1024 1024 (enc (Vector.replicate 4 (Vector.replicate 256 (0 : UInt8)))):=⟨Try.underlying178,by kernel_rfl⟩
theorem ty180 : Ty Try.prog 180 (.array 4 178) 4096 4096 (enc (Vector.replicate 4 (Vector.replicate 4 (Vector.replicate 256 (0 : UInt8))))):=⟨Try.underlying180,by kernel_rfl⟩
theorem fd46_0 : Fd Try.prog 46 0 0:=Uk HL.und rfl rfl ty2 (by decide)
theorem fd46_1 : Fd Try.prog 46 1 1:=Uk HL.und rfl rfl HK (by decide)
theorem fd46_2 : Fd Try.prog 46 2 257:=Uk HL.und rfl rfl ty43 (by decide)
theorem fd46_3 : Fd Try.prog 46 3 273:=Uk HL.und rfl rfl H2 (by decide)
theorem fd46_4 : Fd Try.prog 46 4 289:=Uk HL.und rfl rfl ty2 (by decide)
theorem Th : Fd Try.prog 53 0 0:=Uk Uz.und rfl rfl ty2 (by decide)
theorem Tz : Fd Try.prog 53 1 1:=Uk Uz.und rfl rfl Vq (by decide)
theorem QP : Fd Try.prog 53 2 257:=Uk Uz.und rfl rfl YM (by decide)
theorem QC : Fd Try.prog 53 3 273:=Uk Uz.und rfl rfl Ul (by decide)
theorem Q1 : Fd Try.prog 53 4 289:=Uk Uz.und rfl rfl ty2 (by decide)
theorem JD : Fd Try.prog 157 0 0:=Uk Q6.und rfl rfl Vq (by decide)
theorem A3 : Fd Try.prog 157 1 256:=Uk Q6.und rfl rfl Vq (by decide)
theorem zd : Fd Try.prog 157 2 512:=Uk Q6.und rfl rfl Ul (by decide)
theorem fd157_3 : Fd Try.prog 157 3 528:=Uk Q6.und rfl rfl Ul (by decide)
theorem AV : Fd Try.prog 157 4 544:=Uk Q6.und rfl rfl AP (by decide)
theorem fd157_5 : Fd Try.prog 157 5 545:=Uk Q6.und rfl rfl AP (by decide)
theorem fd157_6 : Fd Try.prog 157 6 546:=Uk Q6.und rfl rfl ty2 (by decide)
theorem pl157 : Places Try.prog [{ name := "box", type := 49, offset := 0, embedded := false, tag := "", pkgPath := "loop.example/g01182/impl", byteOffset := 0 }, { name := "backBox", type := 49, offset := 256, embedded := false, tag := "", pkgPath := "loop.example/g01182/impl", byteOffset := 256 }, { name := "places", type := 51, offset := 512, embedded := false, tag := "", pkgPath := "loop.example/g01182/impl", byteOffset := 512 }, { name := "backPlaces", type := 51, offset := 528, embedded := false, tag := "", pkgPath := "loop.example/g01182/impl", byteOffset := 528 }, { name := "mixer", type := 154, offset := 544, embedded := false, tag := "", pkgPath := "loop.example/g01182/impl", byteOffset := 544 }, { name := "backMixer", type := 154, offset := 545, embedded := false, tag := "", pkgPath := "loop.example/g01182/impl", byteOffset := 552 }, { name := "rounds", type := 2, offset := 546, embedded := false, tag := "", pkgPath := "loop.example/g01182/impl", byteOffset := 560 }] [(0, 256), (256, 256), (512, 16), (528, 16), (544, 1), (545, 1), (546, 1)] := by show _ = _; kernel_rfl
theorem Wl : Try.prog.follows .mixedOrders = true:=by kernel_rfl
theorem cb25 : Callable Try.prog 25:=⟨_,_,Try.func25,by decide,rfl⟩
theorem cb26 : Callable Try.prog 26:=⟨_,_,Try.func26,by decide,rfl⟩
theorem cb33 : Callable Try.prog 33:=⟨_,_,Try.func33,by decide,rfl⟩
theorem cb34 : Callable Try.prog 34:=⟨_,_,Try.func34,by decide,rfl⟩
theorem cb35 : Callable Try.prog 35:=⟨_,_,Try.func35,by decide,rfl⟩
theorem cb36 : Callable Try.prog 36:=⟨_,_,Try.func36,by decide,rfl⟩
theorem cb37 : Callable Try.prog 37:=⟨_,_,Try.func37,by decide,rfl⟩
theorem cb38 : Callable Try.prog 38:=⟨_,_,Try.func38,by decide,rfl⟩
theorem cb39 : Callable Try.prog 39:=⟨_,_,Try.func39,by decide,rfl⟩
theorem cb40 : Callable Try.prog 40:=⟨_,_,Try.func40,by decide,rfl⟩
theorem cb41 : Callable Try.prog 41:=⟨_,_,Try.func41,by decide,rfl⟩
theorem cb43 : Callable Try.prog 43:=⟨_,_,Try.func43,by decide,rfl⟩
theorem cb47 : Callable Try.prog 47:=⟨_,_,Try.func47,by decide,rfl⟩
theorem cb49 : Callable Try.prog 49:=⟨_,_,Try.func49,by decide,rfl⟩
theorem cb65 : Callable Try.prog 65:=⟨_,_,Try.func65,by decide,rfl⟩
theorem cb66 : Callable Try.prog 66:=⟨_,_,Try.func66,by decide,rfl⟩
theorem cb67 : Callable Try.prog 67:=⟨_,_,Try.func67,by decide,rfl⟩
theorem cb71 : Callable Try.prog 71:=⟨_,_,Try.func71,by decide,rfl⟩
theorem cb73 : Callable Try.prog 73:=⟨_,_,Try.func73,by decide,rfl⟩
theorem cb74 : Callable Try.prog 74:=⟨_,_,Try.func74,by decide,rfl⟩
theorem cb75 : Callable Try.prog 75:=⟨_,_,Try.func75,by decide,rfl⟩
theorem cb77 : Callable Try.prog 77:=⟨_,_,Try.func77,by decide,rfl⟩
theorem cb81 : Callable Try.prog 81:=⟨_,_,Try.func81,by decide,rfl⟩
theorem cb82 : Callable Try.prog 82:=⟨_,_,Try.func82,by decide,rfl⟩
theorem cb83 : Callable Try.prog 83:=⟨_,_,Try.func83,by decide,rfl⟩
theorem cb84 : Callable Try.prog 84:=⟨_,_,Try.func84,by decide,rfl⟩
theorem cb85 : Callable Try.prog 85:=⟨_,_,Try.func85,by decide,rfl⟩
theorem cb86 : Callable Try.prog 86:=⟨_,_,Try.func86,by decide,rfl⟩
theorem cb87 : Callable Try.prog 87:=⟨_,_,Try.func87,by decide,rfl⟩
theorem cb88 : Callable Try.prog 88:=⟨_,_,Try.func88,by decide,rfl⟩
theorem cb89 : Callable Try.prog 89:=⟨_,_,Try.func89,by decide,rfl⟩
theorem cb90 : Callable Try.prog 90:=⟨_,_,Try.func90,by decide,rfl⟩
theorem cb91 : Callable Try.prog 91:=⟨_,_,Try.func91,by decide,rfl⟩
theorem cb92 : Callable Try.prog 92:=⟨_,_,Try.func92,by decide,rfl⟩
theorem cb93 : Callable Try.prog 93:=⟨_,_,Try.func93,by decide,rfl⟩
theorem cb94 : Callable Try.prog 94:=⟨_,_,Try.func94,by decide,rfl⟩
theorem cb95 : Callable Try.prog 95:=⟨_,_,Try.func95,by decide,rfl⟩
theorem cb98 : Callable Try.prog 98:=⟨_,_,Try.func98,by decide,rfl⟩
theorem cb101 : Callable Try.prog 101:=⟨_,_,Try.func101,by decide,rfl⟩
theorem cb102 : Callable Try.prog 102:=⟨_,_,Try.func102,by decide,rfl⟩
theorem cb111 : Callable Try.prog 111:=⟨_,_,Try.func111,by decide,rfl⟩
theorem cb113 : Callable Try.prog 113:=⟨_,_,Try.func113,by decide,rfl⟩
theorem cb114 : Callable Try.prog 114:=⟨_,_,Try.func114,by decide,rfl⟩
theorem cb115 : Callable Try.prog 115:=⟨_,_,Try.func115,by decide,rfl⟩
theorem cb116 : Callable Try.prog 116:=⟨_,_,Try.func116,by decide,rfl⟩
theorem cb117 : Callable Try.prog 117:=⟨_,_,Try.func117,by decide,rfl⟩
theorem cb118 : Callable Try.prog 118:=⟨_,_,Try.func118,by decide,rfl⟩
theorem cb119 : Callable Try.prog 119:=⟨_,_,Try.func119,by decide,rfl⟩
theorem cb120 : Callable Try.prog 120:=⟨_,_,Try.func120,by decide,rfl⟩
theorem cb122 : Callable Try.prog 122:=⟨_,_,Try.func122,by decide,rfl⟩
theorem cb123 : Callable Try.prog 123:=⟨_,_,Try.func123,by decide,rfl⟩
theorem cb124 : Callable Try.prog 124:=⟨_,_,Try.func124,by decide,rfl⟩
theorem cb125 : Callable Try.prog 125:=⟨_,_,Try.func125,by decide,rfl⟩
theorem cb126 : Callable Try.prog 126:=⟨_,_,Try.func126,by decide,rfl⟩
theorem cb127 : Callable Try.prog 127:=⟨_,_,Try.func127,by decide,rfl⟩
theorem cb128 : Callable Try.prog 128:=⟨_,_,Try.func128,by decide,rfl⟩
theorem cb129 : Callable Try.prog 129:=⟨_,_,Try.func129,by decide,rfl⟩
theorem cb130 : Callable Try.prog 130:=⟨_,_,Try.func130,by decide,rfl⟩
theorem cb131 : Callable Try.prog 131:=⟨_,_,Try.func131,by decide,rfl⟩
theorem cb132 : Callable Try.prog 132:=⟨_,_,Try.func132,by decide,rfl⟩
theorem cb133 : Callable Try.prog 133:=⟨_,_,Try.func133,by decide,rfl⟩
theorem cb134 : Callable Try.prog 134:=⟨_,_,Try.func134,by decide,rfl⟩
theorem cb135 : Callable Try.prog 135:=⟨_,_,Try.func135,by decide,rfl⟩
theorem cb136 : Callable Try.prog 136:=⟨_,_,Try.func136,by decide,rfl⟩
theorem cb137 : Callable Try.prog 137:=⟨_,_,Try.func137,by decide,rfl⟩
theorem cb138 : Callable Try.prog 138:=⟨_,_,Try.func138,by decide,rfl⟩
theorem Ao : Callable Try.prog 139:=⟨_,_,Try.func139,by decide,rfl⟩
theorem Q7 : Callable Try.prog 140:=⟨_,_,Try.func140,by decide,rfl⟩
theorem Q2 : Callable Try.prog 144:=⟨_,_,Try.func144,by decide,rfl⟩
theorem cb149 : Callable Try.prog 149:=⟨_,_,Try.func149,by decide,rfl⟩
theorem cb150 : Callable Try.prog 150:=⟨_,_,Try.func150,by decide,rfl⟩
theorem cb152 : Callable Try.prog 152:=⟨_,_,Try.func152,by decide,rfl⟩
theorem cb153 : Callable Try.prog 153:=⟨_,_,Try.func153,by decide,rfl⟩
theorem cb154 : Callable Try.prog 154:=⟨_,_,Try.func154,by decide,rfl⟩
theorem cb156 : Callable Try.prog 156:=⟨_,_,Try.func156,by decide,rfl⟩
theorem cb157 : Callable Try.prog 157:=⟨_,_,Try.func157,by decide,rfl⟩
theorem cb158 : Callable Try.prog 158:=⟨_,_,Try.func158,by decide,rfl⟩
theorem cb159 : Callable Try.prog 159:=⟨_,_,Try.func159,by decide,rfl⟩
theorem cb160 : Callable Try.prog 160:=⟨_,_,Try.func160,by decide,rfl⟩
def X7 (p0 : (List (Vector UInt8 16))) (p1 : Int) : Option (Int) :=
 if (decide ((wr (p1 - (p0.length : Int))) < 0)) = true then (some (-1)) else (some (wr (p1 - (p0.length : Int))))
theorem Kq (w0 : World) (p0 : (List (Vector UInt8 16))) (v0_1 : Value) (hv0_1 : Ro w0 p0 [v0_1]) (p1 : Int) (r : Int) (hF : X7 p0 p1 = some r) :
  Calls Try.prog 33 [v0_1,vI p1].toArray w0 (fun en w'=>∃ v,en = .returned v ∧ (v = (vI r) ∧ Kept (Old w0) w0 w')):=by
 refine ZB (n:=12) Try.func33 rfl rfl (nbl rfl) rfl ?_
 intro a hE
 have hM:=M.start w0
 unfold X7 at hF
 refine Zc (Ze hE Za ld rfl fun a hE=>Zf (Zc (Zd hE Za ld rfl fun a hE=>Zd hE Za ld rfl fun a hE=>Ws hE Za ld rfl Try.underlying64 (hM.rd hv0_1) fun a hE=>Zi hE Za ld rfl rfl rfl fun a hE=>Ze hE Za ld rfl fun a hE=>Zf (wp_seq (Zc (Zd hE Za ld rfl fun a hE=>Zi hE Za ld rfl rfl rfl fun a hE=>Zf ?_))))))
 refine Zq hE rfl ?_ ?_
 ·intro hb1
  have hF:=Zu hF hb1
  refine Zc (Ze hE Za ld rfl fun a hE=>Zf ?_)
  have hr:=Option.some.inj hF
  subst hr
  exact wp_ret (ZD (Zx hE rfl (Zs hE rfl) ⟨_,rfl,rfl,hM.kept⟩))
 ·intro hb1
  have hF:=Zv hF hb1
  refine wp_skip (Zw (Zc (Zd hE Za ld rfl fun a hE=>Ze hE Za ld rfl fun a hE=>Zf ?_)))
  have hr:=Option.some.inj hF
  subst hr
  exact wp_ret (Zx hE rfl (Zs hE rfl) ⟨_,rfl,rfl,hM.kept⟩)
def Ud (p0 : (Vector UInt8 256)) (s10 : (Vector UInt8 256) × Int) : Option (Fl ((Vector UInt8 256) × Int) (Vector UInt8 256)) :=
 if (decide (s10.2 < 256)) = true then ((Zy p0 s10.2).bind fun x16=>(Zy s10.1 s10.2).bind fun x19=>some (Fl.nx ((s10.1.setIfInBounds (s10.2).toNat x16),wr (s10.2 + 1)))) else (some (Fl.ex s10.1))
def VS (p0 : (Vector UInt8 256)) : Option ((Vector UInt8 256)) :=
 (ZE (Ud p0) ((Vector.replicate 256 (0 : UInt8)),0)).bind fun j7=>some j7
theorem JG (w0 : World) (p0 : (Vector UInt8 256)) (r : (Vector UInt8 256)) (hF : VS p0 = some r) :
  Calls Try.prog 65 [(Value.agg (enc p0).toArray)].toArray w0 (fun en w'=>∃ v,en = .returned v ∧ (v = (Value.agg (enc r).toArray) ∧ Kept (Old w0) w0 w')):=by
 refine ZB (n:=15) Try.func65 rfl rfl (nbl rfl) rfl ?_
 intro a hE
 have hM:=M.start w0
 unfold VS at hF
 refine Zc (ZZ (cs:=enc p0) hE hM Za ld rfl rfl fun b1 w a hM hE=>ZH hE hM Za ld Vq fun b3 w a hM hE=>Zf (Zc (ZH hE hM Za ld Vq fun b5 w a hM hE=>Zf (wp_seq (Zc (Ze hE Za ld rfl fun a hE=>Zf ?_))))))
 obtain ⟨j7,hl8,hF9⟩:=bind_some hF
 refine ZL (fun a w=>Env 15 a [(2,(ptr b3 0)),(3,(ptr b5 0))] ∧ M (Old w0) w0 w [raw b5 (enc j7),raw b3 (enc (Vector.replicate 256 (0 : UInt8)))]) ?_ ?_
 ·skip
  refine wp_block ?_
  refine ZF (fun (s10 : (Vector UInt8 256) × Int) a w=>Env 15 a [(1,(ptr b1 0)),(2,(ptr b3 0)),(3,(ptr b5 0)),(4,vI s10.2)] ∧ M (Old w0) w0 w [raw b5 (enc s10.1),raw b3 (enc (Vector.replicate 256 (0 : UInt8))),raw b1 (enc p0)]) hl8 ⟨hE.sub ⟨rfl,rfl,rfl,rfl,trivial⟩,hM⟩ ?_
  rintro s10 a w ⟨hE,hM⟩ o13 hs11 hx12
  unfold Ud at hs11
  refine wp_seq (Zc (Zd hE Za ld rfl fun a hE=>Zi hE Za ld rfl rfl rfl fun a hE=>Zf ?_))
  refine Zq hE rfl ?_ ?_
  ·intro hb14
   have hs11:=Zu hs11 hb14
   refine wp_skip (Zw (wp_seq (wp_block (wp_region_lit (Zd hE Za ld rfl fun a hE=>Zd hE Za ld rfl ?_))))); intro a hE
   obtain ⟨x16,hi15,hs11⟩:=bvx hs11
   refine Zg hE Za ld rfl rfl Try.underlying41 ty5 hi15.1 fun a hE=>ZC (v:=(vB x16)) hE Za ld rfl ty5 rfl (At.vec (hM.rawAt (pre:=[_,_])) hi15.2) ?_; intro a hE
   obtain ⟨x19,hi18,hs11⟩:=bvx hs11
   refine Zg hE Za ld rfl rfl Try.underlying49 ty5 hi18.1 fun a hE=>Zo (seg:=[vB x16]) (cs':=enc (s10.1.setIfInBounds (s10.2).toNat x16)) hE hM Za rfl rfl rfl ty5 rfl (ZG (v:=s10.1) (x:=x16) hi18.1) (Flat.cell (x16 : UInt8)) (Zz (v:=s10.1) (x:=x16) hi18.1) fun w a hM hE=>Zh (Z9 (Zw (wp_region_lit (Zd hE Za ld rfl fun a hE=>Zi hE Za ld rfl rfl rfl fun a hE=>Ze hE Za ld rfl fun a hE=>Zh (Zj ?_)))))
   exact ⟨_,(ois hs11),hE.sub ⟨rfl,rfl,rfl,rfl,trivial⟩,hM⟩
  ·intro hb14
   have hs11:=Zv hs11 hb14
   refine wp_exit (Zm (Zm (Yf ?_)))
   have ht21:=hx12 _ (ois hs11)
   subst ht21
   refine Zj ?_
   have hM:=M.fst (l:=[_,_]) ((hM.pull (pre:=[_])).pull (pre:=[_]))
   exact ⟨hE.sub ⟨rfl,rfl,trivial⟩,hM⟩
 ·skip
  rintro a w ⟨hE,hM⟩
  refine Zw (Zc (Zn (cs:=enc j7) hE Za ld rfl Vq rfl (hM.rawAt (pre:=[])) (Flat.len _) ?_)); intro a hE
  have hM:=hM.pull (pre:=[_])
  refine Zo (seg:=enc j7) (cs':=enc j7) hE hM Za rfl rfl rfl Vq (Flat.len _) (zle flq) (Flat.cell _) (Zr flq) fun w a hM hE=>Zf ?_
  have hr:=Option.some.inj hF9
  subst hr
  have hq22 : Xp Try.prog _ _ (.cell 2 49) _:=Ya hE rfl Vq rfl (hM.rawAt (pre:=[])) (Flat.len _) rfl
  have hM:=M.fst (l:=[]) hM
  exact wp_ret (Zx hE rfl hq22 ⟨_,rfl,rfl,hM.kept⟩)
def Vo (p0 : (Vector UInt8 4)) (s10 : (Vector UInt8 4) × Int) : Option (Fl ((Vector UInt8 4) × Int) (Vector UInt8 4)) :=
 if (decide (s10.2 < 4)) = true then ((Zy p0 s10.2).bind fun x16=>(Zy s10.1 s10.2).bind fun x19=>some (Fl.nx ((s10.1.setIfInBounds (s10.2).toNat x16),wr (s10.2 + 1)))) else (some (Fl.ex s10.1))
def WR (p0 : (Vector UInt8 4)) : Option ((Vector UInt8 4)) :=
 (ZE (Vo p0) ((Vector.replicate 4 (0 : UInt8)),0)).bind fun j7=>some j7
theorem Kg (w0 : World) (p0 : (Vector UInt8 4)) (r : (Vector UInt8 4)) (hF : WR p0 = some r) :
  Calls Try.prog 111 [(Value.agg (enc p0).toArray)].toArray w0 (fun en w'=>∃ v,en = .returned v ∧ (v = (Value.agg (enc r).toArray) ∧ Kept (Old w0) w0 w')):=by
 refine ZB (n:=15) Try.func111 rfl rfl (nbl rfl) rfl ?_
 intro a hE
 have hM:=M.start w0
 unfold WR at hF
 refine Zc (ZZ (cs:=enc p0) hE hM Za ld rfl rfl fun b1 w a hM hE=>ZH hE hM Za ld Z7 fun b3 w a hM hE=>Zf (Zc (ZH hE hM Za ld Z7 fun b5 w a hM hE=>Zf (wp_seq (Zc (Ze hE Za ld rfl fun a hE=>Zf ?_))))))
 obtain ⟨j7,hl8,hF9⟩:=bind_some hF
 refine ZL (fun a w=>Env 15 a [(2,(ptr b3 0)),(3,(ptr b5 0))] ∧ M (Old w0) w0 w [raw b5 (enc j7),raw b3 (enc (Vector.replicate 4 (0 : UInt8)))]) ?_ ?_
 ·skip
  refine wp_block ?_
  refine ZF (fun (s10 : (Vector UInt8 4) × Int) a w=>Env 15 a [(1,(ptr b1 0)),(2,(ptr b3 0)),(3,(ptr b5 0)),(4,vI s10.2)] ∧ M (Old w0) w0 w [raw b5 (enc s10.1),raw b3 (enc (Vector.replicate 4 (0 : UInt8))),raw b1 (enc p0)]) hl8 ⟨hE.sub ⟨rfl,rfl,rfl,rfl,trivial⟩,hM⟩ ?_
  rintro s10 a w ⟨hE,hM⟩ o13 hs11 hx12
  unfold Vo at hs11
  refine wp_seq (Zc (Zd hE Za ld rfl fun a hE=>Zi hE Za ld rfl rfl rfl fun a hE=>Zf ?_))
  refine Zq hE rfl ?_ ?_
  ·intro hb14
   have hs11:=Zu hs11 hb14
   refine wp_skip (Zw (wp_seq (wp_block (wp_region_lit (Zd hE Za ld rfl fun a hE=>Zd hE Za ld rfl ?_))))); intro a hE
   obtain ⟨x16,hi15,hs11⟩:=bvx hs11
   refine Zg hE Za ld rfl rfl Try.underlying42 ty5 hi15.1 fun a hE=>ZC (v:=(vB x16)) hE Za ld rfl ty5 rfl (At.vec (hM.rawAt (pre:=[_,_])) hi15.2) ?_; intro a hE
   obtain ⟨x19,hi18,hs11⟩:=bvx hs11
   refine Zg hE Za ld rfl rfl Try.underlying42 ty5 hi18.1 fun a hE=>Zo (seg:=[vB x16]) (cs':=enc (s10.1.setIfInBounds (s10.2).toNat x16)) hE hM Za rfl rfl rfl ty5 rfl (ZG (v:=s10.1) (x:=x16) hi18.1) (Flat.cell (x16 : UInt8)) (Zz (v:=s10.1) (x:=x16) hi18.1) fun w a hM hE=>Zh (Z9 (Zw (wp_region_lit (Zd hE Za ld rfl fun a hE=>Zi hE Za ld rfl rfl rfl fun a hE=>Ze hE Za ld rfl fun a hE=>Zh (Zj ?_)))))
   exact ⟨_,(ois hs11),hE.sub ⟨rfl,rfl,rfl,rfl,trivial⟩,hM⟩
  ·intro hb14
   have hs11:=Zv hs11 hb14
   refine wp_exit (Zm (Zm (Yf ?_)))
   have ht21:=hx12 _ (ois hs11)
   subst ht21
   refine Zj ?_
   have hM:=M.fst (l:=[_,_]) ((hM.pull (pre:=[_])).pull (pre:=[_]))
   exact ⟨hE.sub ⟨rfl,rfl,trivial⟩,hM⟩
 ·skip
  rintro a w ⟨hE,hM⟩
  refine Zw (Zc (Zn (cs:=enc j7) hE Za ld rfl Z7 rfl (hM.rawAt (pre:=[])) (Flat.len _) ?_)); intro a hE
  have hM:=hM.pull (pre:=[_])
  refine Zo (seg:=enc j7) (cs':=enc j7) hE hM Za rfl rfl rfl Z7 (Flat.len _) (zle flq) (Flat.cell _) (Zr flq) fun w a hM hE=>Zf ?_
  have hr:=Option.some.inj hF9
  subst hr
  have hq22 : Xp Try.prog _ _ (.cell 2 42) _:=Ya hE rfl Z7 rfl (hM.rawAt (pre:=[])) (Flat.len _) rfl
  have hM:=M.fst (l:=[]) hM
  exact wp_ret (Zx hE rfl hq22 ⟨_,rfl,rfl,hM.kept⟩)
def XG (p0 : (Vector (Vector UInt8 4) 4)) (s10 : (Vector (Vector UInt8 4) 4) × Int) : Option (Fl ((Vector (Vector UInt8 4) 4) × Int) (Vector (Vector UInt8 4) 4)) :=
 if (decide (s10.2 < 4)) = true then ((Zy p0 s10.2).bind fun x16=>(WR x16).bind fun r18=>(Zy s10.1 s10.2).bind fun x21=>some (Fl.nx ((s10.1.setIfInBounds (s10.2).toNat r18),wr (s10.2 + 1)))) else (some (Fl.ex s10.1))
def WV (p0 : (Vector (Vector UInt8 4) 4)) : Option ((Vector (Vector UInt8 4) 4)) :=
 (ZE (XG p0) ((Vector.replicate 4 (Vector.replicate 4 (0 : UInt8))),0)).bind fun j7=>some j7
theorem Kb (w0 : World) (p0 : (Vector (Vector UInt8 4) 4)) (r : (Vector (Vector UInt8 4) 4)) (hF : WV p0 = some r) :
  Calls Try.prog 66 [(Value.agg (enc p0).toArray)].toArray w0 (fun en w'=>∃ v,en = .returned v ∧ (v = (Value.agg (enc r).toArray) ∧ Kept (Old w0) w0 w')):=by
 refine ZB (n:=16) Try.func66 rfl rfl (nbl rfl) rfl ?_
 intro a hE
 have hM:=M.start w0
 unfold WV at hF
 refine Zc (ZZ (cs:=enc p0) hE hM Za ld rfl rfl fun b1 w a hM hE=>ZH hE hM Za ld YM fun b3 w a hM hE=>Zf (Zc (ZH hE hM Za ld YM fun b5 w a hM hE=>Zf (wp_seq (Zc (Ze hE Za ld rfl fun a hE=>Zf ?_))))))
 obtain ⟨j7,hl8,hF9⟩:=bind_some hF
 refine ZL (fun a w=>Env 16 a [(2,(ptr b3 0)),(3,(ptr b5 0))] ∧ M (Old w0) w0 w [raw b5 (enc j7),raw b3 (enc (Vector.replicate 4 (Vector.replicate 4 (0 : UInt8))))]) ?_ ?_
 ·skip
  refine wp_block ?_
  refine ZF (fun (s10 : (Vector (Vector UInt8 4) 4) × Int) a w=>Env 16 a [(1,(ptr b1 0)),(2,(ptr b3 0)),(3,(ptr b5 0)),(4,vI s10.2)] ∧ M (Old w0) w0 w [raw b5 (enc s10.1),raw b3 (enc (Vector.replicate 4 (Vector.replicate 4 (0 : UInt8)))),raw b1 (enc p0)]) hl8 ⟨hE.sub ⟨rfl,rfl,rfl,rfl,trivial⟩,hM⟩ ?_
  rintro s10 a w ⟨hE,hM⟩ o13 hs11 hx12
  unfold XG at hs11
  refine wp_seq (Zc (Zd hE Za ld rfl fun a hE=>Zi hE Za ld rfl rfl rfl fun a hE=>Zf ?_))
  refine Zq hE rfl ?_ ?_
  ·intro hb14
   have hs11:=Zu hs11 hb14
   refine wp_skip (Zw (wp_seq (wp_block (wp_region_lit (Zd hE Za ld rfl fun a hE=>Zd hE Za ld rfl ?_))))); intro a hE
   obtain ⟨x16,hi15,hs11⟩:=bvx hs11
   refine Zg hE Za ld rfl rfl Try.underlying43 Z7 hi15.1 fun a hE=>Zn (cs:=enc x16) hE Za ld rfl Z7 rfl (At.vec (hM.rawAt (pre:=[_,_])) hi15.2) (Flat.len _) ?_; intro a hE
   obtain ⟨r18,e19,hs11⟩:=bind_some hs11
   refine Zt hE Za ld rfl cb111 (Kg _ x16 r18 e19) ?_
   rintro v w a ⟨rfl,hK⟩ hE
   have hM:=hM.keep hK
   obtain ⟨x21,hi20,hs11⟩:=bvx hs11
   refine Zg hE Za ld rfl rfl Try.underlying50 Z7 hi20.1 fun a hE=>Zo (seg:=enc r18) (cs':=enc (s10.1.setIfInBounds (s10.2).toNat r18)) hE hM Za rfl rfl rfl Z7 (Flat.len _) (ZG (v:=s10.1) (x:=r18) hi20.1) (Flat.cell _) (Zz (v:=s10.1) (x:=r18) hi20.1) fun w a hM hE=>Zh (Z9 (Zw (wp_region_lit (Zd hE Za ld rfl fun a hE=>Zi hE Za ld rfl rfl rfl fun a hE=>Ze hE Za ld rfl fun a hE=>Zh (Zj ?_)))))
   exact ⟨_,(ois hs11),hE.sub ⟨rfl,rfl,rfl,rfl,trivial⟩,hM⟩
  ·intro hb14
   have hs11:=Zv hs11 hb14
   refine wp_exit (Zm (Zm (Yf ?_)))
   have ht23:=hx12 _ (ois hs11)
   subst ht23
   refine Zj ?_
   have hM:=M.fst (l:=[_,_]) ((hM.pull (pre:=[_])).pull (pre:=[_]))
   exact ⟨hE.sub ⟨rfl,rfl,trivial⟩,hM⟩
 ·skip
  rintro a w ⟨hE,hM⟩
  refine Zw (Zc (Zn (cs:=enc j7) hE Za ld rfl YM rfl (hM.rawAt (pre:=[])) (Flat.len _) ?_)); intro a hE
  have hM:=hM.pull (pre:=[_])
  refine Zo (seg:=enc j7) (cs':=enc j7) hE hM Za rfl rfl rfl YM (Flat.len _) (zle flq) (Flat.cell _) (Zr flq) fun w a hM hE=>Zf ?_
  have hr:=Option.some.inj hF9
  subst hr
  have hq24 : Xp Try.prog _ _ (.cell 2 50) _:=Ya hE rfl YM rfl (hM.rawAt (pre:=[])) (Flat.len _) rfl
  have hM:=M.fst (l:=[]) hM
  exact wp_ret (Zx hE rfl hq24 ⟨_,rfl,rfl,hM.kept⟩)
def Vv (p0 : (Vector UInt8 16)) (s10 : (Vector UInt8 16) × Int) : Option (Fl ((Vector UInt8 16) × Int) (Vector UInt8 16)) :=
 if (decide (s10.2 < 16)) = true then ((Zy p0 s10.2).bind fun x16=>(Zy s10.1 s10.2).bind fun x19=>some (Fl.nx ((s10.1.setIfInBounds (s10.2).toNat x16),wr (s10.2 + 1)))) else (some (Fl.ex s10.1))
def WN (p0 : (Vector UInt8 16)) : Option ((Vector UInt8 16)) :=
 (ZE (Vv p0) ((Vector.replicate 16 (0 : UInt8)),0)).bind fun j7=>some j7
theorem Kf (w0 : World) (p0 : (Vector UInt8 16)) (r : (Vector UInt8 16)) (hF : WN p0 = some r) :
  Calls Try.prog 67 [(Value.agg (enc p0).toArray)].toArray w0 (fun en w'=>∃ v,en = .returned v ∧ (v = (Value.agg (enc r).toArray) ∧ Kept (Old w0) w0 w')):=by
 refine ZB (n:=15) Try.func67 rfl rfl (nbl rfl) rfl ?_
 intro a hE
 have hM:=M.start w0
 unfold WN at hF
 refine Zc (ZZ (cs:=enc p0) hE hM Za ld rfl rfl fun b1 w a hM hE=>ZH hE hM Za ld Ul fun b3 w a hM hE=>Zf (Zc (ZH hE hM Za ld Ul fun b5 w a hM hE=>Zf (wp_seq (Zc (Ze hE Za ld rfl fun a hE=>Zf ?_))))))
 obtain ⟨j7,hl8,hF9⟩:=bind_some hF
 refine ZL (fun a w=>Env 15 a [(2,(ptr b3 0)),(3,(ptr b5 0))] ∧ M (Old w0) w0 w [raw b5 (enc j7),raw b3 (enc (Vector.replicate 16 (0 : UInt8)))]) ?_ ?_
 ·skip
  refine wp_block ?_
  refine ZF (fun (s10 : (Vector UInt8 16) × Int) a w=>Env 15 a [(1,(ptr b1 0)),(2,(ptr b3 0)),(3,(ptr b5 0)),(4,vI s10.2)] ∧ M (Old w0) w0 w [raw b5 (enc s10.1),raw b3 (enc (Vector.replicate 16 (0 : UInt8))),raw b1 (enc p0)]) hl8 ⟨hE.sub ⟨rfl,rfl,rfl,rfl,trivial⟩,hM⟩ ?_
  rintro s10 a w ⟨hE,hM⟩ o13 hs11 hx12
  unfold Vv at hs11
  refine wp_seq (Zc (Zd hE Za ld rfl fun a hE=>Zi hE Za ld rfl rfl rfl fun a hE=>Zf ?_))
  refine Zq hE rfl ?_ ?_
  ·intro hb14
   have hs11:=Zu hs11 hb14
   refine wp_skip (Zw (wp_seq (wp_block (wp_region_lit (Zd hE Za ld rfl fun a hE=>Zd hE Za ld rfl ?_))))); intro a hE
   obtain ⟨x16,hi15,hs11⟩:=bvx hs11
   refine Zg hE Za ld rfl rfl Try.underlying44 ty5 hi15.1 fun a hE=>ZC (v:=(vB x16)) hE Za ld rfl ty5 rfl (At.vec (hM.rawAt (pre:=[_,_])) hi15.2) ?_; intro a hE
   obtain ⟨x19,hi18,hs11⟩:=bvx hs11
   refine Zg hE Za ld rfl rfl Try.underlying51 ty5 hi18.1 fun a hE=>Zo (seg:=[vB x16]) (cs':=enc (s10.1.setIfInBounds (s10.2).toNat x16)) hE hM Za rfl rfl rfl ty5 rfl (ZG (v:=s10.1) (x:=x16) hi18.1) (Flat.cell (x16 : UInt8)) (Zz (v:=s10.1) (x:=x16) hi18.1) fun w a hM hE=>Zh (Z9 (Zw (wp_region_lit (Zd hE Za ld rfl fun a hE=>Zi hE Za ld rfl rfl rfl fun a hE=>Ze hE Za ld rfl fun a hE=>Zh (Zj ?_)))))
   exact ⟨_,(ois hs11),hE.sub ⟨rfl,rfl,rfl,rfl,trivial⟩,hM⟩
  ·intro hb14
   have hs11:=Zv hs11 hb14
   refine wp_exit (Zm (Zm (Yf ?_)))
   have ht21:=hx12 _ (ois hs11)
   subst ht21
   refine Zj ?_
   have hM:=M.fst (l:=[_,_]) ((hM.pull (pre:=[_])).pull (pre:=[_]))
   exact ⟨hE.sub ⟨rfl,rfl,trivial⟩,hM⟩
 ·skip
  rintro a w ⟨hE,hM⟩
  refine Zw (Zc (Zn (cs:=enc j7) hE Za ld rfl Ul rfl (hM.rawAt (pre:=[])) (Flat.len _) ?_)); intro a hE
  have hM:=hM.pull (pre:=[_])
  refine Zo (seg:=enc j7) (cs':=enc j7) hE hM Za rfl rfl rfl Ul (Flat.len _) (zle flq) (Flat.cell _) (Zr flq) fun w a hM hE=>Zf ?_
  have hr:=Option.some.inj hF9
  subst hr
  have hq22 : Xp Try.prog _ _ (.cell 2 51) _:=Ya hE rfl Ul rfl (hM.rawAt (pre:=[])) (Flat.len _) rfl
  have hM:=M.fst (l:=[]) hM
  exact wp_ret (Zx hE rfl hq22 ⟨_,rfl,rfl,hM.kept⟩)
def XA (p0 : GCipher) : Option (GCipher) :=
 (VS p0.Box).bind fun r7=>(WV p0.Mix).bind fun r9=>(WN p0.Places).bind fun r11=>some (⟨p0.Field,r7,r9,r11,p0.Rounds⟩ : GCipher)
theorem Un (w0 : World) (p0 : GCipher) (r : GCipher) (hF : XA p0 = some r) :
  Calls Try.prog 25 [(Value.agg (enc p0).toArray)].toArray w0 (fun en w'=>∃ v,en = .returned v ∧ (v = (Value.agg (enc r).toArray) ∧ Kept (Old w0) w0 w')):=by
 refine ZB (n:=23) Try.func25 rfl rfl (nbl rfl) rfl ?_
 intro a hE
 have hM:=M.start w0
 unfold XA at hF
 refine Zc (ZZ (cs:=cat [[vI p0.Field],enc p0.Box,enc p0.Mix,enc p0.Places,[vI p0.Rounds]]) hE hM Za ld rfl rfl fun b1 w a hM hE=>ZH hE hM Za ld Uz fun b3 w a hM hE=>Zf (Zc (ZH hE hM Za ld Uz fun b5 w a hM hE=>Zf (Zc (ZA hE Za ld rfl (fd46_0) fun a hE=>ZC (v:=(vI p0.Field)) hE Za ld rfl ty2 rfl (At.cat (pre:=[]) (hM.rawAt (pre:=[_,_])) cl0) fun a hE=>ZA hE Za ld rfl (Th) fun a hE=>Zo (seg:=[vI p0.Field]) hE hM Za rfl rfl rfl ty2 rfl (TI (pre:=[]) cl0 rfl) (Flat.cell (p0.Field : Int)) (V8 (pre:=[]) cl0 rfl) fun w a hM hE=>Zf (Zc (ZA hE Za ld rfl (fd46_1) fun a hE=>Zn (cs:=enc p0.Box) hE Za ld rfl HK rfl (At.cat (pre:=[[vI p0.Field]]) (hM.rawAt (pre:=[_,_])) (cl1 (n:=1) (m:=0) rfl cl0)) (Flat.len _) ?_))))))); intro a hE
 obtain ⟨r7,e8,hF⟩:=bind_some hF
 refine Zt hE Za ld rfl cb65 (JG _ p0.Box r7 e8) ?_
 rintro v w a ⟨rfl,hK⟩ hE
 have hM:=hM.keep hK
 refine ZA hE Za ld rfl (Tz) fun a hE=>Zo (seg:=enc r7) hE hM Za rfl rfl rfl Vq (Flat.len _) (TI (pre:=[[vI p0.Field]]) (cl1 (n:=1) (m:=0) rfl cl0) flq) (Flat.cell _) (V8 (pre:=[[vI p0.Field]]) (cl1 (n:=1) (m:=0) rfl cl0) flq) fun w a hM hE=>Zf (Zc (ZA hE Za ld rfl (fd46_2) fun a hE=>Zn (cs:=enc p0.Mix) hE Za ld rfl ty43 rfl (At.cat (pre:=[[vI p0.Field],enc p0.Box]) (hM.rawAt (pre:=[_,_])) (cl1 (n:=1) (m:=256) rfl (cl1 (n:=256) (m:=0) (Flat.len _) cl0))) (Flat.len _) ?_)); intro a hE
 obtain ⟨r9,e10,hF⟩:=bind_some hF
 refine Zt hE Za ld rfl cb66 (Kb _ p0.Mix r9 e10) ?_
 rintro v w a ⟨rfl,hK⟩ hE
 have hM:=hM.keep hK
 refine ZA hE Za ld rfl (QP) fun a hE=>Zo (seg:=enc r9) hE hM Za rfl rfl rfl YM (Flat.len _) (TI (pre:=[[vI p0.Field],enc r7]) (cl1 (n:=1) (m:=256) rfl (cl1 (n:=256) (m:=0) (Flat.len _) cl0)) flq) (Flat.cell _) (V8 (pre:=[[vI p0.Field],enc r7]) (cl1 (n:=1) (m:=256) rfl (cl1 (n:=256) (m:=0) (Flat.len _) cl0)) flq) fun w a hM hE=>Zf (Zc (ZA hE Za ld rfl (fd46_3) fun a hE=>Zn (cs:=enc p0.Places) hE Za ld rfl H2 rfl (At.cat (pre:=[[vI p0.Field],enc p0.Box,enc p0.Mix]) (hM.rawAt (pre:=[_,_])) (cl1 (n:=1) (m:=272) rfl (cl1 (n:=256) (m:=16) (Flat.len _) (cl1 (n:=16) (m:=0) (Flat.len _) cl0)))) (Flat.len _) ?_)); intro a hE
 obtain ⟨r11,e12,hF⟩:=bind_some hF
 refine Zt hE Za ld rfl cb67 (Kf _ p0.Places r11 e12) ?_
 rintro v w a ⟨rfl,hK⟩ hE
 have hM:=hM.keep hK
 refine ZA hE Za ld rfl (QC) fun a hE=>Zo (seg:=enc r11) hE hM Za rfl rfl rfl Ul (Flat.len _) (TI (pre:=[[vI p0.Field],enc r7,enc r9]) (cl1 (n:=1) (m:=272) rfl (cl1 (n:=256) (m:=16) (Flat.len _) (cl1 (n:=16) (m:=0) (Flat.len _) cl0))) flq) (Flat.cell _) (V8 (pre:=[[vI p0.Field],enc r7,enc r9]) (cl1 (n:=1) (m:=272) rfl (cl1 (n:=256) (m:=16) (Flat.len _) (cl1 (n:=16) (m:=0) (Flat.len _) cl0))) flq) fun w a hM hE=>Zf (Zc (ZA hE Za ld rfl (fd46_4) fun a hE=>ZC (v:=(vI p0.Rounds)) hE Za ld rfl ty2 rfl (At.cat (pre:=[[vI p0.Field],enc p0.Box,enc p0.Mix,enc p0.Places]) (hM.rawAt (pre:=[_,_])) (cl1 (n:=1) (m:=288) rfl (cl1 (n:=256) (m:=32) (Flat.len _) (cl1 (n:=16) (m:=16) (Flat.len _) (cl1 (n:=16) (m:=0) (Flat.len _) cl0))))) fun a hE=>ZA hE Za ld rfl (Q1) fun a hE=>Zo (seg:=[vI p0.Rounds]) hE hM Za rfl rfl rfl ty2 rfl (TI (pre:=[[vI p0.Field],enc r7,enc r9,enc r11]) (cl1 (n:=1) (m:=288) rfl (cl1 (n:=256) (m:=32) (Flat.len _) (cl1 (n:=16) (m:=16) (Flat.len _) (cl1 (n:=16) (m:=0) (Flat.len _) cl0)))) rfl) (Flat.cell (p0.Rounds : Int)) (V8 (pre:=[[vI p0.Field],enc r7,enc r9,enc r11]) (cl1 (n:=1) (m:=288) rfl (cl1 (n:=256) (m:=32) (Flat.len _) (cl1 (n:=16) (m:=16) (Flat.len _) (cl1 (n:=16) (m:=0) (Flat.len _) cl0)))) rfl) fun w a hM hE=>Zf (Zc (Zn (cs:=enc (⟨p0.Field,r7,r9,r11,p0.Rounds⟩ : GCipher)) hE Za ld rfl Uz rfl (hM.rawAt (pre:=[])) (YF (cl1 (n:=1) (m:=289) rfl (cl1 (n:=256) (m:=33) (Flat.len _) (cl1 (n:=16) (m:=17) (Flat.len _) (cl1 (n:=16) (m:=1) (Flat.len _) (cl1 (n:=1) (m:=0) rfl cl0)))))) ?_)))); intro a hE
 have hM:=hM.pull (pre:=[_])
 refine Zo (seg:=cat [[(vI ((⟨p0.Field,r7,r9,r11,p0.Rounds⟩ : GCipher).Field))],enc ((⟨p0.Field,r7,r9,r11,p0.Rounds⟩ : GCipher).Box),enc ((⟨p0.Field,r7,r9,r11,p0.Rounds⟩ : GCipher).Mix),enc ((⟨p0.Field,r7,r9,r11,p0.Rounds⟩ : GCipher).Places),[(vI ((⟨p0.Field,r7,r9,r11,p0.Rounds⟩ : GCipher).Rounds))]]) (cs':=cat [[(vI ((⟨p0.Field,r7,r9,r11,p0.Rounds⟩ : GCipher).Field))],enc ((⟨p0.Field,r7,r9,r11,p0.Rounds⟩ : GCipher).Box),enc ((⟨p0.Field,r7,r9,r11,p0.Rounds⟩ : GCipher).Mix),enc ((⟨p0.Field,r7,r9,r11,p0.Rounds⟩ : GCipher).Places),[(vI ((⟨p0.Field,r7,r9,r11,p0.Rounds⟩ : GCipher).Rounds))]]) hE hM Za rfl rfl rfl Uz (YF (cl1 (n:=1) (m:=289) rfl (cl1 (n:=256) (m:=33) (Flat.len _) (cl1 (n:=16) (m:=17) (Flat.len _) (cl1 (n:=16) (m:=1) (Flat.len _) (cl1 (n:=1) (m:=0) rfl cl0)))))) (Nat.le_of_eq ((Nat.zero_add _).trans (Eq.trans (YF (cl1 (n:=1) (m:=289) rfl (cl1 (n:=256) (m:=33) (Flat.len _) (cl1 (n:=16) (m:=17) (Flat.len _) (cl1 (n:=16) (m:=1) (Flat.len _) (cl1 (n:=1) (m:=0) rfl cl0)))))) (Eq.symm (YF (cl1 (n:=1) (m:=289) rfl (cl1 (n:=256) (m:=33) (Flat.len _) (cl1 (n:=16) (m:=17) (Flat.len _) (cl1 (n:=16) (m:=1) (Flat.len _) (cl1 (n:=1) (m:=0) rfl cl0)))))))))) (Hp (cc1 (Flat.cell ((⟨p0.Field,r7,r9,r11,p0.Rounds⟩ : GCipher).Field : Int)) (cc1 (Flat.cell _) (cc1 (Flat.cell _) (cc1 (Flat.cell _) (cc1 (Flat.cell ((⟨p0.Field,r7,r9,r11,p0.Rounds⟩ : GCipher).Rounds : Int)) cc0)))))) (Zr (Eq.trans (YF (cl1 (n:=1) (m:=289) rfl (cl1 (n:=256) (m:=33) (Flat.len _) (cl1 (n:=16) (m:=17) (Flat.len _) (cl1 (n:=16) (m:=1) (Flat.len _) (cl1 (n:=1) (m:=0) rfl cl0)))))) (Eq.symm (YF (cl1 (n:=1) (m:=289) rfl (cl1 (n:=256) (m:=33) (Flat.len _) (cl1 (n:=16) (m:=17) (Flat.len _) (cl1 (n:=16) (m:=1) (Flat.len _) (cl1 (n:=1) (m:=0) rfl cl0))))))))) fun w a hM hE=>Zf ?_
 have hr:=Option.some.inj hF
 subst hr
 have hq13 : Xp Try.prog _ _ (.cell 2 53) _:=Ya hE rfl Uz rfl (hM.rawAt (pre:=[])) (YF (cl1 (n:=1) (m:=289) rfl (cl1 (n:=256) (m:=33) (Flat.len _) (cl1 (n:=16) (m:=17) (Flat.len _) (cl1 (n:=16) (m:=1) (Flat.len _) (cl1 (n:=1) (m:=0) rfl cl0)))))) rfl
 have hM:=M.fst (l:=[]) hM
 exact wp_ret (Zx hE rfl hq13 ⟨_,rfl,rfl,hM.kept⟩)
def VF (p0 : (Vector UInt8 16)) (s10 : (Vector UInt8 16) × Int) : Option (Fl ((Vector UInt8 16) × Int) (Vector UInt8 16)) :=
 if (decide (s10.2 < 16)) = true then ((Zy p0 s10.2).bind fun x16=>(Zy s10.1 s10.2).bind fun x19=>some (Fl.nx ((s10.1.setIfInBounds (s10.2).toNat x16),wr (s10.2 + 1)))) else (some (Fl.ex s10.1))
def YJ (p0 : (Vector UInt8 16)) : Option ((Vector UInt8 16)) :=
 (ZE (VF p0) ((Vector.replicate 16 (0 : UInt8)),0)).bind fun j7=>some j7
theorem VQ (w0 : World) (p0 : (Vector UInt8 16)) (r : (Vector UInt8 16)) (hF : YJ p0 = some r) :
  Calls Try.prog 26 [(Value.agg (enc p0).toArray)].toArray w0 (fun en w'=>∃ v,en = .returned v ∧ (v = (Value.agg (enc r).toArray) ∧ Kept (Old w0) w0 w')):=by
 refine ZB (n:=15) Try.func26 rfl rfl (nbl rfl) rfl ?_
 intro a hE
 have hM:=M.start w0
 unfold YJ at hF
 refine Zc (ZZ (cs:=enc p0) hE hM Za ld rfl rfl fun b1 w a hM hE=>ZH hE hM Za ld ZK fun b3 w a hM hE=>Zf (Zc (ZH hE hM Za ld ZK fun b5 w a hM hE=>Zf (wp_seq (Zc (Ze hE Za ld rfl fun a hE=>Zf ?_))))))
 obtain ⟨j7,hl8,hF9⟩:=bind_some hF
 refine ZL (fun a w=>Env 15 a [(2,(ptr b3 0)),(3,(ptr b5 0))] ∧ M (Old w0) w0 w [raw b5 (enc j7),raw b3 (enc (Vector.replicate 16 (0 : UInt8)))]) ?_ ?_
 ·skip
  refine wp_block ?_
  refine ZF (fun (s10 : (Vector UInt8 16) × Int) a w=>Env 15 a [(1,(ptr b1 0)),(2,(ptr b3 0)),(3,(ptr b5 0)),(4,vI s10.2)] ∧ M (Old w0) w0 w [raw b5 (enc s10.1),raw b3 (enc (Vector.replicate 16 (0 : UInt8))),raw b1 (enc p0)]) hl8 ⟨hE.sub ⟨rfl,rfl,rfl,rfl,trivial⟩,hM⟩ ?_
  rintro s10 a w ⟨hE,hM⟩ o13 hs11 hx12
  unfold VF at hs11
  refine wp_seq (Zc (Zd hE Za ld rfl fun a hE=>Zi hE Za ld rfl rfl rfl fun a hE=>Zf ?_))
  refine Zq hE rfl ?_ ?_
  ·intro hb14
   have hs11:=Zu hs11 hb14
   refine wp_skip (Zw (wp_seq (wp_block (wp_region_lit (Zd hE Za ld rfl fun a hE=>Zd hE Za ld rfl ?_))))); intro a hE
   obtain ⟨x16,hi15,hs11⟩:=bvx hs11
   refine Zg hE Za ld rfl rfl Try.underlying44 ty5 hi15.1 fun a hE=>ZC (v:=(vB x16)) hE Za ld rfl ty5 rfl (At.vec (hM.rawAt (pre:=[_,_])) hi15.2) ?_; intro a hE
   obtain ⟨x19,hi18,hs11⟩:=bvx hs11
   refine Zg hE Za ld rfl rfl Try.underlying55 ty5 hi18.1 fun a hE=>Zo (seg:=[vB x16]) (cs':=enc (s10.1.setIfInBounds (s10.2).toNat x16)) hE hM Za rfl rfl rfl ty5 rfl (ZG (v:=s10.1) (x:=x16) hi18.1) (Flat.cell (x16 : UInt8)) (Zz (v:=s10.1) (x:=x16) hi18.1) fun w a hM hE=>Zh (Z9 (Zw (wp_region_lit (Zd hE Za ld rfl fun a hE=>Zi hE Za ld rfl rfl rfl fun a hE=>Ze hE Za ld rfl fun a hE=>Zh (Zj ?_)))))
   exact ⟨_,(ois hs11),hE.sub ⟨rfl,rfl,rfl,rfl,trivial⟩,hM⟩
  ·intro hb14
   have hs11:=Zv hs11 hb14
   refine wp_exit (Zm (Zm (Yf ?_)))
   have ht21:=hx12 _ (ois hs11)
   subst ht21
   refine Zj ?_
   have hM:=M.fst (l:=[_,_]) ((hM.pull (pre:=[_])).pull (pre:=[_]))
   exact ⟨hE.sub ⟨rfl,rfl,trivial⟩,hM⟩
 ·skip
  rintro a w ⟨hE,hM⟩
  refine Zw (Zc (Zn (cs:=enc j7) hE Za ld rfl ZK rfl (hM.rawAt (pre:=[])) (Flat.len _) ?_)); intro a hE
  have hM:=hM.pull (pre:=[_])
  refine Zo (seg:=enc j7) (cs':=enc j7) hE hM Za rfl rfl rfl ZK (Flat.len _) (zle flq) (Flat.cell _) (Zr flq) fun w a hM hE=>Zf ?_
  have hr:=Option.some.inj hF9
  subst hr
  have hq22 : Xp Try.prog _ _ (.cell 2 55) _:=Ya hE rfl ZK rfl (hM.rawAt (pre:=[])) (Flat.len _) rfl
  have hM:=M.fst (l:=[]) hM
  exact wp_ret (Zx hE rfl hq22 ⟨_,rfl,rfl,hM.kept⟩)
def Vr (p0 : (List (Vector UInt8 16))) (s10 : (List (Vector UInt8 16)) × Int) : Option (Fl ((List (Vector UInt8 16)) × Int) (List (Vector UInt8 16))) :=
 if (decide (s10.2 < (p0.length : Int))) = true then ((idx p0 s10.2).bind fun x17=>(YJ x17).bind fun r20=>(idx s10.1 s10.2).bind fun x22=>some (Fl.nx ((s10.1.set (s10.2).toNat r20),wr (s10.2 + 1)))) else (some (Fl.ex s10.1))
def YX (p0 : (List (Vector UInt8 16))) : Option ((List (Vector UInt8 16))) :=
 (mkS 16 (Vector.replicate 16 (0 : UInt8)) (p0.length : Int)).bind fun l1=>(ZE (Vr p0) (l1,0)).bind fun j5=>some j5
theorem VE (w0 : World) (p0 : (List (Vector UInt8 16))) (v0_1 : Value) (hv0_1 : Ro w0 p0 [v0_1]) (r : (List (Vector UInt8 16))) (hF : YX p0 = some r) :
  Calls Try.prog 35 [v0_1].toArray w0 (fun en w'=>∃ v,en = .returned v ∧ (∃ (y1 : Value),v = y1 ∧ Fr w0 w' [osl NoB (r : List (Vector UInt8 16)) y1] ∧ Kept (Old w0) w0 w')):=by
 refine ZB (n:=23) Try.func35 rfl rfl (nbl rfl) rfl ?_
 intro a hE
 have hM:=M.start w0
 unfold YX at hF
 refine Zc (Ze hE Za ld rfl fun a hE=>Zf (Zc (Zd hE Za ld rfl fun a hE=>Ws hE Za ld rfl Try.underlying64 (hM.rd hv0_1) ?_))); intro a hE
 obtain ⟨l1,e2,hF⟩:=bind_some hF
 refine s_make hE hM Za ld rfl rfl Try.underlying69 ZK rfl (by decide) (fun _=>TE.2 ⟨rfl,rfl⟩) e2 fun u3 w a hM hE=>Ze hE Za ld rfl fun a hE=>Zf (wp_seq (Zc (Ze hE Za ld rfl fun a hE=>Zf ?_)))
 obtain ⟨j5,hl6,hF7⟩:=bind_some hF
 refine ZL (fun a w=>∃ (u8 : Value),Env 23 a [(3,u8)] ∧ M (Old w0) w0 w [osl NoB (j5 : List (Vector UInt8 16)) u8]) ?_ ?_
 ·skip
  refine wp_block ?_
  refine ZF (fun (s10 : (List (Vector UInt8 16)) × Int) a w=>∃ (u11 : Value),Env 23 a [(0,v0_1),(3,u11),(4,vI s10.2)] ∧ M (Old w0) w0 w [osl NoB (s10.1 : List (Vector UInt8 16)) u11]) hl6 ⟨u3,hE.sub ⟨rfl,rfl,rfl,trivial⟩,hM⟩ ?_
  rintro s10 a w ⟨u11,hE,hM⟩ o15 hs13 hx14
  unfold Vr at hs13
  refine wp_seq (Zc (Zd hE Za ld rfl fun a hE=>Zd hE Za ld rfl fun a hE=>Ws hE Za ld rfl Try.underlying64 (hM.rd hv0_1) fun a hE=>Zi hE Za ld rfl rfl rfl fun a hE=>Zf ?_))
  refine Zq hE rfl ?_ ?_
  ·intro hb16
   have hs13:=Zu hs13 hb16
   refine wp_skip (Zw (wp_seq (wp_block (wp_region_lit (Zd hE Za ld rfl fun a hE=>Zd hE Za ld rfl fun a hE=>Zd hE Za ld rfl fun a hE=>Zd hE Za ld rfl ?_))))); intro a hE
   obtain ⟨x17,hi19,hs13⟩:=bix hs13
   refine Yk hE Za ld rfl rfl Try.underlying64 H2 (hM.rd hv0_1) hi19.1 fun a hE=>Zn (cs:=enc x17) hE Za ld rfl H2 rfl (WD (hM.rd hv0_1) hi19.2) (Flat.len _) ?_; intro a hE
   obtain ⟨r20,e21,hs13⟩:=bind_some hs13
   refine Zt hE Za ld rfl cb26 (VQ _ x17 r20 e21) ?_
   rintro v w a ⟨rfl,hK⟩ hE
   have hM:=hM.keep hK
   obtain ⟨x22,hi24,hs13⟩:=bix hs13
   refine Yk hE Za ld rfl rfl Try.underlying69 ZK (hM.sl (pre:=[]) noB) hi24.1 fun a hE=>Qo (i:=(s10.2).toNat) (k0:=0) (seg:=enc r20) (xo:=x22) (xn:=r20) hE hM Za rfl rfl rfl ZK (Flat.len _) (Flat.cell _) hi24.2 (JY (m:=16) (Flat.len _) (by decide)) (Zr flq) fun w a hM hE=>Zh (Z9 (Zw (wp_region_lit (Zd hE Za ld rfl fun a hE=>Zi hE Za ld rfl rfl rfl fun a hE=>Ze hE Za ld rfl fun a hE=>Zh (Zj ?_)))))
   exact ⟨_,(ois hs13),u11,hE.sub ⟨rfl,rfl,rfl,trivial⟩,hM⟩
  ·intro hb16
   have hs13:=Zv hs13 hb16
   refine wp_exit (Zm (Zm (Yf ?_)))
   have ht25:=hx14 _ (ois hs13)
   subst ht25
   refine Zj ?_
   exact ⟨u11,hE.sub ⟨rfl,trivial⟩,hM⟩
 ·skip
  rintro a w ⟨u8,hE,hM⟩
  refine Zw (Zc (Zd hE Za ld rfl fun a hE=>Ze hE Za ld rfl fun a hE=>Zf ?_))
  have hr:=Option.some.inj hF7
  subst hr
  exact wp_ret (Zx hE rfl (Zs hE rfl) ⟨_,rfl,u8,rfl,hM.outF (Tn UM),hM.kept⟩)
def Xe (p0 : Int) (p1 : Int) (p2 : Int) : Option (Bool) :=
 (if (decide (p0 ≥ p1)) = true then (some (decide (p0 ≤ p2))) else (some false) : Option (Bool)).bind fun j1=>some j1
theorem VL (w0 : World) (p0 : Int) (p1 : Int) (p2 : Int) (r : Bool) (hF : Xe p0 p1 p2 = some r) :
  Calls Try.prog 82 [vI p0,vI p1,vI p2].toArray w0 (fun en w'=>∃ v,en = .returned v ∧ (v = (vT r) ∧ Kept (Old w0) w0 w')):=by
 refine ZB (n:=15) Try.func82 rfl rfl (nbl rfl) rfl ?_
 intro a hE
 have hM:=M.start w0
 unfold Xe at hF
 refine Zc (Ze hE Za ld rfl fun a hE=>Zf ?_)
 obtain ⟨j1,hl2,hF3⟩:=bind_some hF
 refine ZM (fun a w=>Env 15 a [(6,vT j1)] ∧ M (Old w0) w0 w []) ?_ ?_
 ·skip
  refine wp_region_lit (Zd hE Za ld rfl fun a hE=>Zd hE Za ld rfl fun a hE=>Zi hE Za ld rfl rfl rfl fun a hE=>Zd hE Za ld rfl ?_); intro a hE
  refine Xh (decide (p0 ≥ p1)) (fun hb4=>?_) (fun hb4=>?_)
  ·have hl2:=Zu hl2 hb4
   refine Zd hE (Zl hE rfl (lkb rfl hb4)) (by decide) rfl fun a hE=>Zd hE (Zl hE rfl (lkb rfl hb4)) (by decide) rfl fun a hE=>Zi hE (Zl hE rfl (lkb rfl hb4)) (by decide) rfl rfl rfl fun a hE=>Z0 hE Za ld (lkb rfl hb4) rfl fun a hE=>Ze hE Za ld rfl fun a hE=>Zh ?_
   have ht5:=Option.some.inj hl2
   subst ht5
   refine Zj ?_
   exact ⟨hE.sub ⟨rfl,trivial⟩,hM⟩
  ·have hl2:=Zv hl2 hb4
   refine Zp hE rfl (lkb rfl hb4) rfl (by decide) fun a hE=>Zp hE rfl (lkb rfl hb4) rfl (by decide) fun a hE=>Zp hE rfl (lkb rfl hb4) rfl (by decide) fun a hE=>Yb hE Za ld (lkb rfl hb4) rfl fun a hE=>Ze hE Za ld rfl fun a hE=>Zh ?_
   have ht6:=Option.some.inj hl2
   subst ht6
   refine Zj ?_
   exact ⟨hE.sub ⟨rfl,trivial⟩,hM⟩
 ·skip
  rintro a w ⟨hE,hM⟩
  have hr:=Option.some.inj hF3
  subst hr
  exact wp_ret (Zx hE rfl (Zs hE rfl) ⟨_,rfl,rfl,hM.kept⟩)
def Yy (s4 : Int × Int) : Option (Fl (Int × Int) Int) :=
 if (decide (s4.1 > 0)) = true then (some (Fl.nx (wr (Int.tdiv s4.1 2),wr (s4.2 + 1)))) else (some (Fl.ex s4.2))
def Y9 (p0 : Int) : Option (Int) :=
 (ZE (Yy) (p0,0)).bind fun j1=>some j1
theorem V6 (w0 : World) (p0 : Int) (r : Int) (hF : Y9 p0 = some r) :
  Calls Try.prog 139 [vI p0].toArray w0 (fun en w'=>∃ v,en = .returned v ∧ (v = (vI r) ∧ Kept (Old w0) w0 w')):=by
 refine ZB (n:=11) Try.func139 rfl rfl (nbl rfl) rfl ?_
 intro a hE
 have hM:=M.start w0
 unfold Y9 at hF
 refine Zc (Ze hE Za ld rfl fun a hE=>Zf (Zc (Ze hE Za ld rfl fun a hE=>Zf ?_)))
 obtain ⟨j1,hl2,hF3⟩:=bind_some hF
 refine ZM (fun a w=>Env 11 a [(3,vI j1)] ∧ M (Old w0) w0 w []) ?_ ?_
 ·skip
  refine wp_block ?_
  refine ZF (fun (s4 : Int × Int) a w=>Env 11 a [(0,vI s4.1),(3,vI s4.2)] ∧ M (Old w0) w0 w []) hl2 ⟨hE.sub ⟨rfl,rfl,trivial⟩,hM⟩ ?_
  rintro s4 a w ⟨hE,hM⟩ o7 hs5 hx6
  unfold Yy at hs5
  refine wp_seq (Zc (Zd hE Za ld rfl fun a hE=>Zi hE Za ld rfl rfl rfl fun a hE=>Zf ?_))
  refine Zq hE rfl ?_ ?_
  ·intro hb8
   have hs5:=Zu hs5 hb8
   refine wp_skip (Zw (wp_seq (wp_block (wp_region_lit (Zd hE Za ld rfl fun a hE=>Zi hE Za ld rfl rfl rfl fun a hE=>Ze hE Za ld rfl fun a hE=>Zh (Z9 (Zw (wp_region_lit (Zd hE Za ld rfl fun a hE=>Zi hE Za ld rfl rfl (JF _ _ (by decide)) fun a hE=>Ze hE Za ld rfl fun a hE=>Zh (Zj ?_))))))))))
   exact ⟨_,(ois hs5),hE.sub ⟨rfl,rfl,trivial⟩,hM⟩
  ·intro hb8
   have hs5:=Zv hs5 hb8
   refine wp_exit (Zm (Zm (Yf ?_)))
   have ht9:=hx6 _ (ois hs5)
   subst ht9
   refine Zj ?_
   exact ⟨hE.sub ⟨rfl,trivial⟩,hM⟩
 ·skip
  rintro a w ⟨hE,hM⟩
  refine Zc (Zd hE Za ld rfl fun a hE=>Ze hE Za ld rfl fun a hE=>Zf ?_)
  have hr:=Option.some.inj hF3
  subst hr
  exact wp_ret (Zx hE rfl (Zs hE rfl) ⟨_,rfl,rfl,hM.kept⟩)
def X8 (p1 : Int) (r1 : Int) (s8 : Int × Int) : Option (Fl (Int × Int) Int) :=
 if (decide (s8.2 ≥ r1)) = true then ((Wm (IntKind.u64.wrap (wr (s8.2 - r1)))).bind fun _=>(Y9 (JS s8.1 (QM p1 (IntKind.u64.wrap (wr (s8.2 - r1)))))).bind fun r14=>some (Fl.nx (JS s8.1 (QM p1 (IntKind.u64.wrap (wr (s8.2 - r1)))),r14))) else (some (Fl.ex s8.1))
def Vh (p0 : Int) (p1 : Int) : Option (Int) :=
 (Y9 p1).bind fun r1=>(Y9 p0).bind fun r3=>(ZE (X8 p1 r1) (p0,r3)).bind fun j5=>some j5
theorem K1 (w0 : World) (p0 : Int) (p1 : Int) (r : Int) (hF : Vh p0 p1 = some r) :
  Calls Try.prog 95 [vI p0,vI p1].toArray w0 (fun en w'=>∃ v,en = .returned v ∧ (v = (vI r) ∧ Kept (Old w0) w0 w')):=by
 refine ZB (n:=25) Try.func95 rfl rfl (nbl rfl) rfl ?_
 intro a hE
 have hM:=M.start w0
 unfold Vh at hF
 refine Zc (Ze hE Za ld rfl fun a hE=>Zf (Zc (Zd hE Za ld rfl ?_))); intro a hE
 obtain ⟨r1,e2,hF⟩:=bind_some hF
 refine Zt hE Za ld rfl Ao (V6 _ p1 r1 e2) ?_
 rintro v w a ⟨rfl,hK⟩ hE
 have hM:=hM.keep hK
 refine Ze hE Za ld rfl fun a hE=>Zf (wp_seq (Zc (Zd hE Za ld rfl ?_))); intro a hE
 obtain ⟨r3,e4,hF⟩:=bind_some hF
 refine Zt hE Za ld rfl Ao (V6 _ p0 r3 e4) ?_
 rintro v w a ⟨rfl,hK⟩ hE
 have hM:=hM.keep hK
 refine Ze hE Za ld rfl fun a hE=>Zf ?_
 obtain ⟨j5,hl6,hF7⟩:=bind_some hF
 refine ZL (fun a w=>Env 25 a [(0,vI j5)] ∧ M (Old w0) w0 w []) ?_ ?_
 ·skip
  refine wp_block ?_
  refine ZF (fun (s8 : Int × Int) a w=>Env 25 a [(0,vI s8.1),(1,vI p1),(5,vI r1),(6,vI s8.2)] ∧ M (Old w0) w0 w []) hl6 ⟨hE.sub ⟨rfl,rfl,rfl,rfl,trivial⟩,hM⟩ ?_
  rintro s8 a w ⟨hE,hM⟩ o11 hs9 hx10
  unfold X8 at hs9
  refine wp_seq (Zc (Zd hE Za ld rfl fun a hE=>Zd hE Za ld rfl fun a hE=>Zi hE Za ld rfl rfl rfl fun a hE=>Zf ?_))
  refine Zq hE rfl ?_ ?_
  ·intro hb12
   have hs9:=Zu hs9 hb12
   refine wp_skip (Zw (wp_seq (wp_block (wp_region_lit (Zd hE Za ld rfl fun a hE=>Zd hE Za ld rfl fun a hE=>Zd hE Za ld rfl fun a hE=>Zd hE Za ld rfl fun a hE=>Zi hE Za ld rfl rfl rfl fun a hE=>Vc hE Za ld rfl Try.underlying2 Try.underlying162 ?_))))); intro a hE
   obtain ⟨_,e13,hs9⟩:=bind_some hs9
   have e13:=Vl e13
   refine H8 hE Za ld rfl rfl (Ky _ _ e13) fun a hE=>Zi hE Za ld rfl rfl rfl fun a hE=>Ze hE Za ld rfl fun a hE=>Zh (Z9 (Zw (wp_region_lit (Zd hE Za ld rfl ?_)))); intro a hE
   obtain ⟨r14,e15,hs9⟩:=bind_some hs9
   refine Zt hE Za ld rfl Ao (V6 _ (JS s8.1 (QM p1 (IntKind.u64.wrap (wr (s8.2 - r1))))) r14 e15) ?_
   rintro v w a ⟨rfl,hK⟩ hE
   have hM:=hM.keep hK
   refine Ze hE Za ld rfl fun a hE=>Zh (Zj ?_)
   exact ⟨_,(ois hs9),hE.sub ⟨rfl,rfl,rfl,rfl,trivial⟩,hM⟩
  ·intro hb12
   have hs9:=Zv hs9 hb12
   refine wp_exit (Zm (Zm (Yf ?_)))
   have ht16:=hx10 _ (ois hs9)
   subst ht16
   refine Zj ?_
   exact ⟨hE.sub ⟨rfl,trivial⟩,hM⟩
 ·skip
  rintro a w ⟨hE,hM⟩
  refine Zw (Zc (Zd hE Za ld rfl fun a hE=>Ze hE Za ld rfl fun a hE=>Zf ?_))
  have hr:=Option.some.inj hF7
  subst hr
  exact wp_ret (Zx hE rfl (Zs hE rfl) ⟨_,rfl,rfl,hM.kept⟩)
def XL (p0 : Int) (s8 : Int) : Option (Fl Int (Fl Unit Bool)) :=
 if (decide (s8 < 32)) = true then ((Vh p0 s8).bind fun r13=>if (r13 == 0) = true then (some (Fl.ex (Fl.ex false))) else (some (Fl.nx (wr (s8 + 1))))) else (some (Fl.ex (Fl.nx ())))
def WU (p0 : Int) : Option (Bool) :=
 (Xe p0 256 511).bind fun r1=>if (!r1) = true then (some false) else ((ZE (XL p0) 2).bind fun j4=>j4.el (fun s7=>some true) (fun r=>some r))
theorem Ko (w0 : World) (p0 : Int) (r : Bool) (hF : WU p0 = some r) :
  Calls Try.prog 43 [vI p0].toArray w0 (fun en w'=>∃ v,en = .returned v ∧ (v = (vT r) ∧ Kept (Old w0) w0 w')):=by
 refine ZB (n:=15) Try.func43 rfl rfl (nbl rfl) rfl ?_
 intro a hE
 have hM:=M.start w0
 unfold WU at hF
 refine Zc (Ze hE Za ld rfl fun a hE=>Zf (wp_seq (Zc (Zd hE Za ld rfl ?_)))); intro a hE
 obtain ⟨r1,e2,hF⟩:=bind_some hF
 refine Zt hE Za ld rfl cb82 (VL _ p0 256 511 r1 e2) ?_
 rintro v w a ⟨rfl,hK⟩ hE
 have hM:=hM.keep hK
 refine Vf hE Za ld rfl fun a hE=>Zf ?_
 refine Zq hE rfl ?_ ?_
 ·intro hb3
  have hF:=Zu hF hb3
  refine Zc (Ze hE Za ld rfl fun a hE=>Zf ?_)
  have hr:=Option.some.inj hF
  subst hr
  exact wp_ret (ZD (Zx hE rfl (Zs hE rfl) ⟨_,rfl,rfl,hM.kept⟩))
 ·intro hb3
  have hF:=Zv hF hb3
  refine wp_skip (Zw (wp_seq (Zc (Ze hE Za ld rfl fun a hE=>Zf ?_))))
  obtain ⟨j4,hl5,hF6⟩:=bind_some hF
  refine ZL (fun a w=>∃ s7 : Unit,j4 = Fl.nx s7 ∧ Env 15 a [] ∧ M (Old w0) w0 w []) ?_ ?_
  ·skip
   refine wp_block ?_
   refine ZF (fun (s8 : Int) a w=>Env 15 a [(0,vI p0),(3,vI s8)] ∧ M (Old w0) w0 w []) hl5 ⟨hE.sub ⟨rfl,rfl,trivial⟩,hM⟩ ?_
   rintro s8 a w ⟨hE,hM⟩ o11 hs9 hx10
   unfold XL at hs9
   refine wp_seq (Zc (Zd hE Za ld rfl fun a hE=>Zi hE Za ld rfl rfl rfl fun a hE=>Zf ?_))
   refine Zq hE rfl ?_ ?_
   ·intro hb12
    have hs9:=Zu hs9 hb12
    refine wp_skip (Zw (wp_seq (wp_block (Zc (Zd hE Za ld rfl fun a hE=>Zd hE Za ld rfl ?_))))); intro a hE
    obtain ⟨r13,e14,hs9⟩:=bind_some hs9
    refine Zt hE Za ld rfl cb95 (K1 _ p0 s8 r13 e14) ?_
    rintro v w a ⟨rfl,hK⟩ hE
    have hM:=hM.keep hK
    refine Zi hE Za ld rfl rfl rfl fun a hE=>Zf ?_
    refine Zq hE rfl ?_ ?_
    ·intro hb15
     have hs9:=Zu hs9 hb15
     refine Zc (Ze hE Za ld rfl fun a hE=>Zf ?_)
     have ht16:=hx10 _ (ois hs9)
     subst ht16
     have hr:=Option.some.inj hF6
     subst hr
     exact wp_ret (YG (ZD (ZD (YG (ZD (ZD (Zx hE rfl (Zs hE rfl) ⟨_,rfl,rfl,hM.kept⟩)))))))
    ·intro hb15
     have hs9:=Zv hs9 hb15
     refine wp_skip (Z9 (Zw (wp_region_lit (Zd hE Za ld rfl fun a hE=>Zi hE Za ld rfl rfl rfl fun a hE=>Ze hE Za ld rfl fun a hE=>Zh (Zj ?_)))))
     exact ⟨_,(ois hs9),hE.sub ⟨rfl,rfl,trivial⟩,hM⟩
   ·intro hb12
    have hs9:=Zv hs9 hb12
    refine wp_exit (Zm (Zm (Yf ?_)))
    have ht17:=hx10 _ (ois hs9)
    subst ht17
    refine Zj ?_
    exact ⟨(),rfl,hE.sub trivial,hM⟩
  ·skip
   rintro a w ⟨s7,ht,hE,hM⟩
   subst ht
   have hF6:=Ur hF6
   refine Zw (Zc (Ze hE Za ld rfl fun a hE=>Zf ?_))
   have hr:=Option.some.inj hF6
   subst hr
   exact wp_ret (Zx hE rfl (Zs hE rfl) ⟨_,rfl,rfl,hM.kept⟩)
def WW (p0 : (Vector UInt8 256)) (s9 : (Vector Bool 256) × Int) : Option (Fl ((Vector Bool 256) × Int) (Fl Unit Bool)) :=
 if (decide (s9.2 < 256)) = true then ((Zy p0 s9.2).bind fun x15=>(Zy s9.1 (bI x15)).bind fun x18=>if x18 = true then (some (Fl.ex (Fl.ex false))) else ((Zy p0 s9.2).bind fun x23=>(Zy s9.1 (bI x23)).bind fun x26=>some (Fl.nx ((s9.1.setIfInBounds ((bI x23)).toNat true),wr (s9.2 + 1))))) else (some (Fl.ex (Fl.nx ())))
def VY (p0 : (Vector UInt8 256)) : Option (Bool) :=
 (ZE (WW p0) ((Vector.replicate 256 false),0)).bind fun j5=>j5.el (fun s8=>some true) (fun r=>some r)
theorem JP (w0 : World) (p0 : (Vector UInt8 256)) (r : Bool) (hF : VY p0 = some r) :
  Calls Try.prog 113 [(Value.agg (enc p0).toArray)].toArray w0 (fun en w'=>∃ v,en = .returned v ∧ (v = (vT r) ∧ Kept (Old w0) w0 w')):=by
 refine ZB (n:=19) Try.func113 rfl rfl (nbl rfl) rfl ?_
 intro a hE
 have hM:=M.start w0
 unfold VY at hF
 refine Zc (ZZ (cs:=enc p0) hE hM Za ld rfl rfl fun b1 w a hM hE=>Ze hE Za ld rfl fun a hE=>Zf (Zc (XV (parts:=[]) (vs:=[]) (cs:=enc (Vector.replicate 256 false)) hE Za ld rfl rfl V4 rfl ty4 Y7 fun a hE=>ZH hE hM Za ld V4 fun b3 w a hM hE=>Zo (seg:=enc (Vector.replicate 256 false)) (cs':=enc (Vector.replicate 256 false)) hE hM Za rfl rfl rfl V4 (Flat.len _) (zle flq) (Flat.cell _) (Zr flq) fun w a hM hE=>Zf (wp_seq (Zc (Ze hE Za ld rfl fun a hE=>Zf ?_))))))
 obtain ⟨j5,hl6,hF7⟩:=bind_some hF
 refine ZL (fun a w=>∃ s8 : Unit,j5 = Fl.nx s8 ∧ Env 19 a [] ∧ M (Old w0) w0 w []) ?_ ?_
 ·skip
  refine wp_block ?_
  refine ZF (fun (s9 : (Vector Bool 256) × Int) a w=>Env 19 a [(1,(ptr b1 0)),(3,(ptr b3 0)),(4,vI s9.2)] ∧ M (Old w0) w0 w [raw b3 (enc s9.1),raw b1 (enc p0)]) hl6 ⟨hE.sub ⟨rfl,rfl,rfl,trivial⟩,hM⟩ ?_
  rintro s9 a w ⟨hE,hM⟩ o12 hs10 hx11
  unfold WW at hs10
  refine wp_seq (Zc (Zd hE Za ld rfl fun a hE=>Zi hE Za ld rfl rfl rfl fun a hE=>Zf ?_))
  refine Zq hE rfl ?_ ?_
  ·intro hb13
   have hs10:=Zu hs10 hb13
   refine wp_skip (Zw (wp_seq (wp_block (wp_seq (Zc (Zd hE Za ld rfl ?_)))))); intro a hE
   obtain ⟨x15,hi14,hs10⟩:=bvx hs10
   refine Zg hE Za ld rfl rfl Try.underlying49 ty5 hi14.1 fun a hE=>ZC (v:=(vB x15)) hE Za ld rfl ty5 rfl (At.vec (hM.rawAt (pre:=[_])) hi14.2) ?_; intro a hE
   obtain ⟨x18,hi17,hs10⟩:=bvx hs10
   refine Zg hE Za ld rfl rfl Try.underlying117 ty4 hi17.1 fun a hE=>ZC (v:=(vT x18)) hE Za ld rfl ty4 rfl (At.vec (hM.rawAt (pre:=[])) hi17.2) fun a hE=>Zf ?_
   refine Zq hE rfl ?_ ?_
   ·intro hb20
    have hs10:=Zu hs10 hb20
    refine Zc (Ze hE Za ld rfl fun a hE=>Zf ?_)
    have ht21:=hx11 _ (ois hs10)
    subst ht21
    have hr:=Option.some.inj hF7
    subst hr
    have hM:=M.fst (l:=[]) hM
    exact wp_ret (ZD (YG (ZD (ZD (YG (ZD (ZD (Zx hE rfl (Zs hE rfl) ⟨_,rfl,rfl,hM.kept⟩))))))))
   ·intro hb20
    have hs10:=Zv hs10 hb20
    refine wp_skip (Zw (wp_region_lit (Zd hE Za ld rfl ?_))); intro a hE
    obtain ⟨x23,hi22,hs10⟩:=bvx hs10
    refine Zg hE Za ld rfl rfl Try.underlying49 ty5 hi22.1 fun a hE=>ZC (v:=(vB x23)) hE Za ld rfl ty5 rfl (At.vec (hM.rawAt (pre:=[_])) hi22.2) ?_; intro a hE
    obtain ⟨x26,hi25,hs10⟩:=bvx hs10
    refine Zg hE Za ld rfl rfl Try.underlying117 ty4 hi25.1 fun a hE=>Zo (seg:=[vT true]) (cs':=enc (s9.1.setIfInBounds ((bI x23)).toNat true)) hE hM Za rfl rfl rfl ty4 rfl (ZG (v:=s9.1) (x:=true) hi25.1) (Flat.cell (true : Bool)) (Zz (v:=s9.1) (x:=true) hi25.1) fun w a hM hE=>Zh (Z9 (Zw (wp_region_lit (Zd hE Za ld rfl fun a hE=>Zi hE Za ld rfl rfl rfl fun a hE=>Ze hE Za ld rfl fun a hE=>Zh (Zj ?_)))))
    exact ⟨_,(ois hs10),hE.sub ⟨rfl,rfl,rfl,trivial⟩,hM⟩
  ·intro hb13
   have hs10:=Zv hs10 hb13
   refine wp_exit (Zm (Zm (Yf ?_)))
   have ht28:=hx11 _ (ois hs10)
   subst ht28
   refine Zj ?_
   have hM:=M.fst (l:=[]) hM
   exact ⟨(),rfl,hE.sub trivial,hM⟩
 ·skip
  rintro a w ⟨s8,ht,hE,hM⟩
  subst ht
  have hF7:=Ur hF7
  refine Zw (Zc (Ze hE Za ld rfl fun a hE=>Zf ?_))
  have hr:=Option.some.inj hF7
  subst hr
  exact wp_ret (Zx hE rfl (Zs hE rfl) ⟨_,rfl,rfl,hM.kept⟩)
def XZ (p0 : (Vector UInt8 16)) (s9 : (Vector Bool 16) × Int) : Option (Fl ((Vector Bool 16) × Int) (Fl Unit Bool)) :=
 if (decide (s9.2 < 16)) = true then (((Zy p0 s9.2).bind fun x18=>if (decide (x18 ≥ 16)) = true then (some true) else ((Zy p0 s9.2).bind fun x23=>(Zy s9.1 (bI x23)).bind fun x26=>some x26) : Option (Bool)).bind fun j14=>if j14 = true then (some (Fl.ex (Fl.ex false))) else ((Zy p0 s9.2).bind fun x32=>(Zy s9.1 (bI x32)).bind fun x35=>some (Fl.nx ((s9.1.setIfInBounds ((bI x32)).toNat true),wr (s9.2 + 1))))) else (some (Fl.ex (Fl.nx ())))
def W6 (p0 : (Vector UInt8 16)) : Option (Bool) :=
 (ZE (XZ p0) ((Vector.replicate 16 false),0)).bind fun j5=>j5.el (fun s8=>some true) (fun r=>some r)
theorem KV (w0 : World) (p0 : (Vector UInt8 16)) (r : Bool) (hF : W6 p0 = some r) :
  Calls Try.prog 114 [(Value.agg (enc p0).toArray)].toArray w0 (fun en w'=>∃ v,en = .returned v ∧ (v = (vT r) ∧ Kept (Old w0) w0 w')):=by
 refine ZB (n:=25) Try.func114 rfl rfl (nbl rfl) rfl ?_
 intro a hE
 have hM:=M.start w0
 unfold W6 at hF
 refine Zc (ZZ (cs:=enc p0) hE hM Za ld rfl rfl fun b1 w a hM hE=>Ze hE Za ld rfl fun a hE=>Zf (Zc (XV (parts:=[]) (vs:=[]) (cs:=enc (Vector.replicate 16 false)) hE Za ld rfl rfl Ap rfl ty4 Y7 fun a hE=>ZH hE hM Za ld Ap fun b3 w a hM hE=>Zo (seg:=enc (Vector.replicate 16 false)) (cs':=enc (Vector.replicate 16 false)) hE hM Za rfl rfl rfl Ap (Flat.len _) (zle flq) (Flat.cell _) (Zr flq) fun w a hM hE=>Zf (wp_seq (Zc (Ze hE Za ld rfl fun a hE=>Zf ?_))))))
 obtain ⟨j5,hl6,hF7⟩:=bind_some hF
 refine ZL (fun a w=>∃ s8 : Unit,j5 = Fl.nx s8 ∧ Env 25 a [] ∧ M (Old w0) w0 w []) ?_ ?_
 ·skip
  refine wp_block ?_
  refine ZF (fun (s9 : (Vector Bool 16) × Int) a w=>Env 25 a [(1,(ptr b1 0)),(3,(ptr b3 0)),(4,vI s9.2)] ∧ M (Old w0) w0 w [raw b3 (enc s9.1),raw b1 (enc p0)]) hl6 ⟨hE.sub ⟨rfl,rfl,rfl,trivial⟩,hM⟩ ?_
  rintro s9 a w ⟨hE,hM⟩ o12 hs10 hx11
  unfold XZ at hs10
  refine wp_seq (Zc (Zd hE Za ld rfl fun a hE=>Zi hE Za ld rfl rfl rfl fun a hE=>Zf ?_))
  refine Zq hE rfl ?_ ?_
  ·intro hb13
   have hs10:=Zu hs10 hb13
   refine wp_skip (Zw (wp_seq (wp_block (wp_seq ?_))))
   obtain ⟨j14,hl15,hF16⟩:=bind_some hs10
   refine ZM (fun a w=>Env 25 a [(1,(ptr b1 0)),(3,(ptr b3 0)),(4,vI s9.2),(20,vT j14)] ∧ M (Old w0) w0 w [raw b3 (enc s9.1),raw b1 (enc p0)]) ?_ ?_
   ·skip
    refine wp_region_lit (Zd hE Za ld rfl ?_); intro a hE
    obtain ⟨x18,hi17,hl15⟩:=bvx hl15
    refine Zg hE Za ld rfl rfl Try.underlying51 ty5 hi17.1 fun a hE=>ZC (v:=(vB x18)) hE Za ld rfl ty5 rfl (At.vec (hM.rawAt (pre:=[_])) hi17.2) fun a hE=>Zi hE Za ld rfl rfl (bB_geq x18 16) fun a hE=>Zd hE Za ld rfl ?_; intro a hE
    refine Xh (decide (x18 ≥ 16)) (fun hb20=>?_) (fun hb20=>?_)
    ·have hl15:=Zu hl15 hb20
     refine Zp hE rfl (lkb rfl hb20) rfl (by decide) fun a hE=>Zp hE rfl (lkb rfl hb20) rfl (by decide) fun a hE=>Zp hE rfl (lkb rfl hb20) rfl (by decide) fun a hE=>Zp hE rfl (lkb rfl hb20) rfl (by decide) fun a hE=>Zp hE rfl (lkb rfl hb20) rfl (by decide) fun a hE=>Z0 hE Za ld (lkb rfl hb20) rfl fun a hE=>Zh ?_
     have ht21:=Option.some.inj hl15
     subst ht21
     refine Zj ?_
     exact ⟨hE.sub ⟨rfl,rfl,rfl,rfl,trivial⟩,hM⟩
    ·have hl15:=Zv hl15 hb20
     refine Zd hE (Zl hE rfl (lkb rfl hb20)) (by decide) rfl ?_; intro a hE
     obtain ⟨x23,hi22,hl15⟩:=bvx hl15
     refine Zg hE (Zl hE rfl (lkb rfl hb20)) (by decide) rfl rfl Try.underlying51 ty5 hi22.1 fun a hE=>ZC (v:=(vB x23)) hE (Zl hE rfl (lkb rfl hb20)) (by decide) rfl ty5 rfl (At.vec (hM.rawAt (pre:=[_])) hi22.2) ?_; intro a hE
     obtain ⟨x26,hi25,hl15⟩:=bvx hl15
     refine Zg hE (Zl hE rfl (lkb rfl hb20)) (by decide) rfl rfl Try.underlying170 ty4 hi25.1 fun a hE=>ZC (v:=(vT x26)) hE (Zl hE rfl (lkb rfl hb20)) (by decide) rfl ty4 rfl (At.vec (hM.rawAt (pre:=[])) hi25.2) fun a hE=>Yb hE Za ld (lkb rfl hb20) rfl fun a hE=>Zh ?_
     have ht28:=Option.some.inj hl15
     subst ht28
     refine Zj ?_
     exact ⟨hE.sub ⟨rfl,rfl,rfl,rfl,trivial⟩,hM⟩
   ·skip
    rintro a w ⟨hE,hM⟩
    refine Zq hE rfl ?_ ?_
    ·intro hb29
     have hF16:=Zu hF16 hb29
     refine Zc (Ze hE Za ld rfl fun a hE=>Zf ?_)
     have ht30:=hx11 _ (ois hF16)
     subst ht30
     have hr:=Option.some.inj hF7
     subst hr
     have hM:=M.fst (l:=[]) hM
     exact wp_ret (ZD (YG (ZD (ZD (YG (ZD (ZD (Zx hE rfl (Zs hE rfl) ⟨_,rfl,rfl,hM.kept⟩))))))))
    ·intro hb29
     have hF16:=Zv hF16 hb29
     refine wp_skip (Zw (wp_region_lit (Zd hE Za ld rfl ?_))); intro a hE
     obtain ⟨x32,hi31,hF16⟩:=bvx hF16
     refine Zg hE Za ld rfl rfl Try.underlying51 ty5 hi31.1 fun a hE=>ZC (v:=(vB x32)) hE Za ld rfl ty5 rfl (At.vec (hM.rawAt (pre:=[_])) hi31.2) ?_; intro a hE
     obtain ⟨x35,hi34,hF16⟩:=bvx hF16
     refine Zg hE Za ld rfl rfl Try.underlying170 ty4 hi34.1 fun a hE=>Zo (seg:=[vT true]) (cs':=enc (s9.1.setIfInBounds ((bI x32)).toNat true)) hE hM Za rfl rfl rfl ty4 rfl (ZG (v:=s9.1) (x:=true) hi34.1) (Flat.cell (true : Bool)) (Zz (v:=s9.1) (x:=true) hi34.1) fun w a hM hE=>Zh (Z9 (Zw (wp_region_lit (Zd hE Za ld rfl fun a hE=>Zi hE Za ld rfl rfl rfl fun a hE=>Ze hE Za ld rfl fun a hE=>Zh (Zj ?_)))))
     exact ⟨_,(ois hF16),hE.sub ⟨rfl,rfl,rfl,trivial⟩,hM⟩
  ·intro hb13
   have hs10:=Zv hs10 hb13
   refine wp_exit (Zm (Zm (Yf ?_)))
   have ht37:=hx11 _ (ois hs10)
   subst ht37
   refine Zj ?_
   have hM:=M.fst (l:=[]) hM
   exact ⟨(),rfl,hE.sub trivial,hM⟩
 ·skip
  rintro a w ⟨s8,ht,hE,hM⟩
  subst ht
  have hF7:=Ur hF7
  refine Zw (Zc (Ze hE Za ld rfl fun a hE=>Zf ?_))
  have hr:=Option.some.inj hF7
  subst hr
  exact wp_ret (Zx hE rfl (Zs hE rfl) ⟨_,rfl,rfl,hM.kept⟩)
def VH (s8 : (Vector (Vector UInt8 4) 4) × Int) : Option (Fl ((Vector (Vector UInt8 4) 4) × Int) (Vector (Vector UInt8 4) 4)) :=
 if (decide (s8.2 < 4)) = true then ((Zy s8.1 s8.2).bind fun x14=>(Zy x14 s8.2).bind fun x17=>some (Fl.nx ((s8.1.setIfInBounds (s8.2).toNat (x14.setIfInBounds (s8.2).toNat 1)),wr (s8.2 + 1)))) else (some (Fl.ex s8.1))
def Wa : Option ((Vector (Vector UInt8 4) 4)) :=
 (ZE (VH) ((Vector.replicate 4 (Vector.replicate 4 (0 : UInt8))),0)).bind fun j5=>some j5
theorem Qb (w0 : World)  (r : (Vector (Vector UInt8 4) 4)) (hF : Wa  = some r) :
  Calls Try.prog 156 [].toArray w0 (fun en w'=>∃ v,en = .returned v ∧ (v = (Value.agg (enc r).toArray) ∧ Kept (Old w0) w0 w')):=by
 refine ZB (n:=13) Try.func156 rfl rfl (nbl rfl) rfl ?_
 intro a hE
 have hM:=M.start w0
 unfold Wa at hF
 refine Zc (ZH hE hM Za ld YM fun b1 w a hM hE=>Zf (Zc (XV (parts:=[]) (vs:=[]) (cs:=enc (Vector.replicate 4 (Vector.replicate 4 (0 : UInt8)))) hE Za ld rfl rfl YM rfl Z7 Y7 fun a hE=>ZH hE hM Za ld YM fun b3 w a hM hE=>Zo (seg:=enc (Vector.replicate 4 (Vector.replicate 4 (0 : UInt8)))) (cs':=enc (Vector.replicate 4 (Vector.replicate 4 (0 : UInt8)))) hE hM Za rfl rfl rfl YM (Flat.len _) (zle flq) (Flat.cell _) (Zr flq) fun w a hM hE=>Zf (wp_seq (Zc (Ze hE Za ld rfl fun a hE=>Zf ?_))))))
 obtain ⟨j5,hl6,hF7⟩:=bind_some hF
 refine ZL (fun a w=>Env 13 a [(0,(ptr b1 0)),(1,(ptr b3 0))] ∧ M (Old w0) w0 w [raw b3 (enc j5),raw b1 (enc (Vector.replicate 4 (Vector.replicate 4 (0 : UInt8))))]) ?_ ?_
 ·skip
  refine wp_block ?_
  refine ZF (fun (s8 : (Vector (Vector UInt8 4) 4) × Int) a w=>Env 13 a [(0,(ptr b1 0)),(1,(ptr b3 0)),(2,vI s8.2)] ∧ M (Old w0) w0 w [raw b3 (enc s8.1),raw b1 (enc (Vector.replicate 4 (Vector.replicate 4 (0 : UInt8))))]) hl6 ⟨hE.sub ⟨rfl,rfl,rfl,trivial⟩,hM⟩ ?_
  rintro s8 a w ⟨hE,hM⟩ o11 hs9 hx10
  unfold VH at hs9
  refine wp_seq (Zc (Zd hE Za ld rfl fun a hE=>Zi hE Za ld rfl rfl rfl fun a hE=>Zf ?_))
  refine Zq hE rfl ?_ ?_
  ·intro hb12
   have hs9:=Zu hs9 hb12
   refine wp_skip (Zw (wp_seq (wp_block (wp_region_lit (Zd hE Za ld rfl fun a hE=>Zd hE Za ld rfl ?_))))); intro a hE
   obtain ⟨x14,hi13,hs9⟩:=bvx hs9
   refine Zg hE Za ld rfl rfl Try.underlying50 Z7 hi13.1 ?_; intro a hE
   obtain ⟨x17,hi16,hs9⟩:=bvx hs9
   refine Zg hE Za ld rfl rfl Try.underlying42 ty5 hi16.1 fun a hE=>Zo (seg:=[vB 1]) (cs':=enc (s8.1.setIfInBounds (s8.2).toNat (x14.setIfInBounds (s8.2).toNat 1))) hE hM Za rfl rfl rfl ty5 rfl (Wu (o':=0 + (s8.2).toNat * 1) hi13 (ZG (v:=x14) (x:=1) hi16.1) (by first | omega | (simp only [Flat.n] <;> omega))) (Flat.cell (1 : UInt8)) (YW (o':=0 + (s8.2).toNat * 1) hi13 (ZG (v:=x14) (x:=1) hi16.1) (Zz (v:=x14) (x:=1) hi16.1) (by first | omega | (simp only [Flat.n] <;> omega))) fun w a hM hE=>Zh (Z9 (Zw (wp_region_lit (Zd hE Za ld rfl fun a hE=>Zi hE Za ld rfl rfl rfl fun a hE=>Ze hE Za ld rfl fun a hE=>Zh (Zj ?_)))))
   exact ⟨_,(ois hs9),hE.sub ⟨rfl,rfl,rfl,trivial⟩,hM⟩
  ·intro hb12
   have hs9:=Zv hs9 hb12
   refine wp_exit (Zm (Zm (Yf ?_)))
   have ht19:=hx10 _ (ois hs9)
   subst ht19
   refine Zj ?_
   exact ⟨hE.sub ⟨rfl,rfl,trivial⟩,hM⟩
 ·skip
  rintro a w ⟨hE,hM⟩
  refine Zw (Zc (Zn (cs:=enc j5) hE Za ld rfl YM rfl (hM.rawAt (pre:=[])) (Flat.len _) ?_)); intro a hE
  have hM:=hM.pull (pre:=[_])
  refine Zo (seg:=enc j5) (cs':=enc j5) hE hM Za rfl rfl rfl YM (Flat.len _) (zle flq) (Flat.cell _) (Zr flq) fun w a hM hE=>Zf ?_
  have hr:=Option.some.inj hF7
  subst hr
  have hq20 : Xp Try.prog _ _ (.cell 0 50) _:=Ya hE rfl YM rfl (hM.rawAt (pre:=[])) (Flat.len _) rfl
  have hM:=M.fst (l:=[]) hM
  exact wp_ret (Zx hE rfl hq20 ⟨_,rfl,rfl,hM.kept⟩)
def YD (p0 : Int) (s4 : Int × Int × Int) : Option (Fl (Int × Int × Int) Int) :=
 if (decide (s4.2.2 > 0)) = true then (((if ((Int.tmod s4.2.2 2) == 1) = true then (some (JS s4.1 s4.2.1)) else (some s4.1) : Option (Int)).bind fun j12=>(if (decide ((wr (s4.2.1 * 2)) ≥ 256)) = true then (some (JS (wr (s4.2.1 * 2)) p0)) else (some (wr (s4.2.1 * 2))) : Option (Int)).bind fun j18=>some (j12,j18) : Option (Int × Int)).bind fun j9=>some (Fl.nx (j9.1,j9.2,wr (Int.tdiv s4.2.2 2)))) else (some (Fl.ex s4.1))
def Z8 (p0 : Int) (p1 : UInt8) (p2 : UInt8) : Option (UInt8) :=
 (ZE (YD p0) (0,bI p1,bI p2)).bind fun j1=>some (ZI j1)
theorem YV (w0 : World) (p0 : Int) (p1 : UInt8) (p2 : UInt8) (r : UInt8) (hF : Z8 p0 p1 p2 = some r) :
  Calls Try.prog 140 [vI p0,vB p1,vB p2].toArray w0 (fun en w'=>∃ v,en = .returned v ∧ (v = (vB r) ∧ Kept (Old w0) w0 w')):=by
 refine ZB (n:=33) Try.func140 rfl rfl (nbl rfl) rfl ?_
 intro a hE
 have hM:=M.start w0
 unfold Z8 at hF
 refine Zc (Ze hE Za ld rfl fun a hE=>Zf (Zc (Zd hE Za ld rfl fun a hE=>Vc hE Za ld rfl Try.underlying5 Try.underlying2 ?_))); intro a hE
 rw [QZ] at hE
 refine Ze hE Za ld rfl fun a hE=>Ze hE Za ld rfl fun a hE=>Zf (wp_seq (Zc (Zd hE Za ld rfl fun a hE=>Vc hE Za ld rfl Try.underlying5 Try.underlying2 ?_))); intro a hE
 rw [QZ] at hE
 refine Ze hE Za ld rfl fun a hE=>Zf ?_
 obtain ⟨j1,hl2,hF3⟩:=bind_some hF
 refine ZL (fun a w=>Env 33 a [(7,vI j1)] ∧ M (Old w0) w0 w []) ?_ ?_
 ·skip
  refine wp_block ?_
  refine ZF (fun (s4 : Int × Int × Int) a w=>Env 33 a [(0,vI p0),(7,vI s4.1),(8,vI s4.2.1),(9,vI s4.2.2)] ∧ M (Old w0) w0 w []) hl2 ⟨hE.sub ⟨rfl,rfl,rfl,rfl,trivial⟩,hM⟩ ?_
  rintro s4 a w ⟨hE,hM⟩ o7 hs5 hx6
  unfold YD at hs5
  refine wp_seq (Zc (Zd hE Za ld rfl fun a hE=>Zi hE Za ld rfl rfl rfl fun a hE=>Zf ?_))
  refine Zq hE rfl ?_ ?_
  ·intro hb8
   have hs5:=Zu hs5 hb8
   refine wp_skip (Zw ?_)
   obtain ⟨j9,hl10,hF11⟩:=bind_some hs5
   refine ZM (fun a w=>Env 33 a [(0,vI p0),(7,vI j9.1),(8,vI j9.2),(9,vI s4.2.2)] ∧ M (Old w0) w0 w []) ?_ ?_
   ·skip
    refine wp_block ?_
    obtain ⟨j12,hl13,hF14⟩:=bind_some hl10
    refine ZM (fun a w=>Env 33 a [(0,vI p0),(7,vI j12),(8,vI s4.2.1),(9,vI s4.2.2)] ∧ M (Old w0) w0 w []) ?_ ?_
    ·skip
     refine Zc (Zd hE Za ld rfl fun a hE=>Zi hE Za ld rfl rfl (JX _ _ (by decide)) fun a hE=>Zi hE Za ld rfl rfl rfl fun a hE=>Zf ?_)
     refine Zq hE rfl ?_ ?_
     ·intro hb15
      have hl13:=Zu hl13 hb15
      refine wp_region_lit (Zd hE Za ld rfl fun a hE=>Zd hE Za ld rfl fun a hE=>Zi hE Za ld rfl rfl rfl fun a hE=>Ze hE Za ld rfl fun a hE=>Zh ?_)
      have ht16:=Option.some.inj hl13
      subst ht16
      refine Zj ?_
      exact ⟨hE.sub ⟨rfl,rfl,rfl,rfl,trivial⟩,hM⟩
     ·intro hb15
      have hl13:=Zv hl13 hb15
      refine wp_skip ?_
      have ht17:=Option.some.inj hl13
      subst ht17
      refine Zj ?_
      exact ⟨hE.sub ⟨rfl,rfl,rfl,rfl,trivial⟩,hM⟩
    ·skip
     rintro a w ⟨hE,hM⟩
     refine Zc (Zd hE Za ld rfl fun a hE=>Zi hE Za ld rfl rfl rfl fun a hE=>Ze hE Za ld rfl fun a hE=>Zf (Zc (Zd hE Za ld rfl fun a hE=>Zi hE Za ld rfl rfl rfl fun a hE=>Zf ?_)))
     obtain ⟨j18,hl19,hF20⟩:=bind_some hF14
     refine ZL (fun a w=>Env 33 a [(0,vI p0),(7,vI j12),(8,vI j18),(9,vI s4.2.2)] ∧ M (Old w0) w0 w []) ?_ ?_
     ·skip
      refine Zq hE rfl ?_ ?_
      ·intro hb21
       have hl19:=Zu hl19 hb21
       refine wp_region_lit (Zd hE Za ld rfl fun a hE=>Zd hE Za ld rfl fun a hE=>Zi hE Za ld rfl rfl rfl fun a hE=>Ze hE Za ld rfl fun a hE=>Zh ?_)
       have ht22:=Option.some.inj hl19
       subst ht22
       refine Zj ?_
       exact ⟨hE.sub ⟨rfl,rfl,rfl,rfl,trivial⟩,hM⟩
      ·intro hb21
       have hl19:=Zv hl19 hb21
       refine wp_skip ?_
       have ht23:=Option.some.inj hl19
       subst ht23
       refine Zj ?_
       exact ⟨hE.sub ⟨rfl,rfl,rfl,rfl,trivial⟩,hM⟩
     ·skip
      rintro a w ⟨hE,hM⟩
      refine Z9 ?_
      have ht24:=Option.some.inj hF20
      subst ht24
      refine Zj ?_
      exact ⟨hE.sub ⟨rfl,rfl,rfl,rfl,trivial⟩,hM⟩
   ·skip
    rintro a w ⟨hE,hM⟩
    refine wp_region_lit (Zd hE Za ld rfl fun a hE=>Zi hE Za ld rfl rfl (JF _ _ (by decide)) fun a hE=>Ze hE Za ld rfl fun a hE=>Zh (Zj ?_))
    exact ⟨_,(ois hF11),hE.sub ⟨rfl,rfl,rfl,rfl,trivial⟩,hM⟩
  ·intro hb8
   have hs5:=Zv hs5 hb8
   refine wp_exit (Zm (Zm (Yf ?_)))
   have ht25:=hx6 _ (ois hs5)
   subst ht25
   refine Zj ?_
   exact ⟨hE.sub ⟨rfl,trivial⟩,hM⟩
 ·skip
  rintro a w ⟨hE,hM⟩
  refine Zw (Zc (Zd hE Za ld rfl fun a hE=>Vc hE Za ld rfl Try.underlying2 Try.underlying5 ?_)); intro a hE
  rw [Xs] at hE
  refine Ze hE Za ld rfl fun a hE=>Zf ?_
  have hr:=Option.some.inj hF3
  subst hr
  exact wp_ret (Zx hE rfl (Zs hE rfl) ⟨_,rfl,rfl,hM.kept⟩)
def Vs (p0 : Int) (s4 : UInt8 × Int × UInt8) : Option (Fl (UInt8 × Int × UInt8) UInt8) :=
 if (decide (s4.2.1 > 0)) = true then (((if ((Int.tmod s4.2.1 2) == 1) = true then ((Z8 p0 s4.2.2 s4.1).bind fun r16=>some r16) else (some s4.2.2) : Option (UInt8)).bind fun j12=>(Z8 p0 s4.1 s4.1).bind fun r20=>some (r20,j12) : Option (UInt8 × UInt8)).bind fun j9=>some (Fl.nx (j9.1,wr (Int.tdiv s4.2.1 2),j9.2))) else (some (Fl.ex s4.2.2))
def X6 (p0 : Int) (p1 : UInt8) (p2 : Int) : Option (UInt8) :=
 (ZE (Vs p0) (p1,p2,1)).bind fun j1=>some j1
theorem Kp (w0 : World) (p0 : Int) (p1 : UInt8) (p2 : Int) (r : UInt8) (hF : X6 p0 p1 p2 = some r) :
  Calls Try.prog 160 [vI p0,vB p1,vI p2].toArray w0 (fun en w'=>∃ v,en = .returned v ∧ (v = (vB r) ∧ Kept (Old w0) w0 w')):=by
 refine ZB (n:=24) Try.func160 rfl rfl (nbl rfl) rfl ?_
 intro a hE
 have hM:=M.start w0
 unfold X6 at hF
 refine Zc (Ze hE Za ld rfl fun a hE=>Zf (Zc (Ze hE Za ld rfl fun a hE=>Zf ?_)))
 obtain ⟨j1,hl2,hF3⟩:=bind_some hF
 refine ZM (fun a w=>Env 24 a [(7,vB j1)] ∧ M (Old w0) w0 w []) ?_ ?_
 ·skip
  refine wp_block ?_
  refine ZF (fun (s4 : UInt8 × Int × UInt8) a w=>Env 24 a [(0,vI p0),(1,vB s4.1),(2,vI s4.2.1),(7,vB s4.2.2)] ∧ M (Old w0) w0 w []) hl2 ⟨hE.sub ⟨rfl,rfl,rfl,rfl,trivial⟩,hM⟩ ?_
  rintro s4 a w ⟨hE,hM⟩ o7 hs5 hx6
  unfold Vs at hs5
  refine wp_seq (Zc (Zd hE Za ld rfl fun a hE=>Zi hE Za ld rfl rfl rfl fun a hE=>Zf ?_))
  refine Zq hE rfl ?_ ?_
  ·intro hb8
   have hs5:=Zu hs5 hb8
   refine wp_skip (Zw ?_)
   obtain ⟨j9,hl10,hF11⟩:=bind_some hs5
   refine ZM (fun a w=>Env 24 a [(0,vI p0),(1,vB j9.1),(2,vI s4.2.1),(7,vB j9.2)] ∧ M (Old w0) w0 w []) ?_ ?_
   ·skip
    refine wp_block ?_
    obtain ⟨j12,hl13,hF14⟩:=bind_some hl10
    refine ZM (fun a w=>Env 24 a [(0,vI p0),(1,vB s4.1),(2,vI s4.2.1),(7,vB j12)] ∧ M (Old w0) w0 w []) ?_ ?_
    ·skip
     refine Zc (Zd hE Za ld rfl fun a hE=>Zi hE Za ld rfl rfl (JX _ _ (by decide)) fun a hE=>Zi hE Za ld rfl rfl rfl fun a hE=>Zf ?_)
     refine Zq hE rfl ?_ ?_
     ·intro hb15
      have hl13:=Zu hl13 hb15
      refine wp_region_lit (Zd hE Za ld rfl fun a hE=>Zd hE Za ld rfl fun a hE=>Zd hE Za ld rfl ?_); intro a hE
      obtain ⟨r16,e17,hl13⟩:=bind_some hl13
      refine Zt hE Za ld rfl Q7 (YV _ p0 s4.2.2 s4.1 r16 e17) ?_
      rintro v w a ⟨rfl,hK⟩ hE
      have hM:=hM.keep hK
      refine Ze hE Za ld rfl fun a hE=>Zh ?_
      have ht18:=Option.some.inj hl13
      subst ht18
      refine Zj ?_
      exact ⟨hE.sub ⟨rfl,rfl,rfl,rfl,trivial⟩,hM⟩
     ·intro hb15
      have hl13:=Zv hl13 hb15
      refine wp_skip ?_
      have ht19:=Option.some.inj hl13
      subst ht19
      refine Zj ?_
      exact ⟨hE.sub ⟨rfl,rfl,rfl,rfl,trivial⟩,hM⟩
    ·skip
     rintro a w ⟨hE,hM⟩
     refine wp_region_lit (Zd hE Za ld rfl fun a hE=>Zd hE Za ld rfl fun a hE=>Zd hE Za ld rfl ?_); intro a hE
     obtain ⟨r20,e21,hF14⟩:=bind_some hF14
     refine Zt hE Za ld rfl Q7 (YV _ p0 s4.1 s4.1 r20 e21) ?_
     rintro v w a ⟨rfl,hK⟩ hE
     have hM:=hM.keep hK
     refine Ze hE Za ld rfl fun a hE=>Zh (Z9 ?_)
     have ht22:=Option.some.inj hF14
     subst ht22
     refine Zj ?_
     exact ⟨hE.sub ⟨rfl,rfl,rfl,rfl,trivial⟩,hM⟩
   ·skip
    rintro a w ⟨hE,hM⟩
    refine wp_region_lit (Zd hE Za ld rfl fun a hE=>Zi hE Za ld rfl rfl (JF _ _ (by decide)) fun a hE=>Ze hE Za ld rfl fun a hE=>Zh (Zj ?_))
    exact ⟨_,(ois hF11),hE.sub ⟨rfl,rfl,rfl,rfl,trivial⟩,hM⟩
  ·intro hb8
   have hs5:=Zv hs5 hb8
   refine wp_exit (Zm (Zm (Yf ?_)))
   have ht23:=hx6 _ (ois hs5)
   subst ht23
   refine Zj ?_
   exact ⟨hE.sub ⟨rfl,trivial⟩,hM⟩
 ·skip
  rintro a w ⟨hE,hM⟩
  refine Zc (Zd hE Za ld rfl fun a hE=>Ze hE Za ld rfl fun a hE=>Zf ?_)
  have hr:=Option.some.inj hF3
  subst hr
  exact wp_ret (Zx hE rfl (Zs hE rfl) ⟨_,rfl,rfl,hM.kept⟩)
def VD (p0 : Int) (p1 : UInt8) : Option (UInt8) :=
 (X6 p0 p1 254).bind fun r1=>some r1
theorem Jb (w0 : World) (p0 : Int) (p1 : UInt8) (r : UInt8) (hF : VD p0 p1 = some r) :
  Calls Try.prog 157 [vI p0,vB p1].toArray w0 (fun en w'=>∃ v,en = .returned v ∧ (v = (vB r) ∧ Kept (Old w0) w0 w')):=by
 refine ZB (n:=8) Try.func157 rfl rfl (nbl rfl) rfl ?_
 intro a hE
 have hM:=M.start w0
 unfold VD at hF
 refine Zc (Ze hE Za ld rfl fun a hE=>Zf (Zc (Zd hE Za ld rfl fun a hE=>Zd hE Za ld rfl ?_))); intro a hE
 obtain ⟨r1,e2,hF⟩:=bind_some hF
 refine Zt hE Za ld rfl cb160 (Kp _ p0 p1 254 r1 e2) ?_
 rintro v w a ⟨rfl,hK⟩ hE
 have hM:=hM.keep hK
 refine Ze hE Za ld rfl fun a hE=>Zf ?_
 have hr:=Option.some.inj hF
 subst hr
 exact wp_ret (Zx hE rfl (Zs hE rfl) ⟨_,rfl,rfl,hM.kept⟩)
def VU (s13 : (Vector (Vector UInt8 4) 4) × (Vector (Vector UInt8 4) 4) × UInt8 × Int) (s21 : Int) : Option (Fl Int Int) :=
 (if (decide (s21 < 4)) = true then ((Zy s13.1 s21).bind fun x30=>(Zy x30 s13.2.2.2).bind fun x33=>some (x33 == 0)) else (some false) : Option (Bool)).bind fun j25=>if j25 = true then (some (Fl.nx (wr (s21 + 1)))) else (some (Fl.ex s21))
def Wf (p0 : Int) (s13 : (Vector (Vector UInt8 4) 4) × (Vector (Vector UInt8 4) 4) × UInt8 × Int) (r91 : UInt8) (s96 : (Vector (Vector UInt8 4) 4) × (Vector (Vector UInt8 4) 4) × Int) : Option (Fl ((Vector (Vector UInt8 4) 4) × (Vector (Vector UInt8 4) 4) × Int) ((Vector (Vector UInt8 4) 4) × (Vector (Vector UInt8 4) 4))) :=
 if (decide (s96.2.2 < 4)) = true then (((Zy s96.1 s13.2.2.2).bind fun x106=>(Zy x106 s96.2.2).bind fun x109=>(Z8 p0 x109 r91).bind fun r111=>(Zy s96.1 s13.2.2.2).bind fun x114=>(Zy x114 s96.2.2).bind fun x117=>some (s96.1.setIfInBounds (s13.2.2.2).toNat (x114.setIfInBounds (s96.2.2).toNat r111)) : Option ((Vector (Vector UInt8 4) 4))).bind fun j101=>(Zy s96.2.1 s13.2.2.2).bind fun x122=>(Zy x122 s96.2.2).bind fun x125=>(Z8 p0 x125 r91).bind fun r127=>(Zy s96.2.1 s13.2.2.2).bind fun x130=>(Zy x130 s96.2.2).bind fun x133=>some (Fl.nx (j101,(s96.2.1.setIfInBounds (s13.2.2.2).toNat (x130.setIfInBounds (s96.2.2).toNat r127)),wr (s96.2.2 + 1)))) else (some (Fl.ex (s96.1,s96.2.1)))
def YK (p0 : Int) (s13 : (Vector (Vector UInt8 4) 4) × (Vector (Vector UInt8 4) 4) × UInt8 × Int) (s139 : (Vector (Vector UInt8 4) 4) × (Vector (Vector UInt8 4) 4) × Int) (x148 : UInt8) (s153 : (Vector (Vector UInt8 4) 4) × (Vector (Vector UInt8 4) 4) × Int) : Option (Fl ((Vector (Vector UInt8 4) 4) × (Vector (Vector UInt8 4) 4) × Int) ((Vector (Vector UInt8 4) 4) × (Vector (Vector UInt8 4) 4))) :=
 (if (decide (s153.2.2 < 4)) = true then (some (s139.2.2 != s13.2.2.2)) else (some false) : Option (Bool)).bind fun j157=>if j157 = true then (((Zy s153.1 s139.2.2).bind fun x169=>(Zy x169 s153.2.2).bind fun x172=>(Zy s153.1 s13.2.2.2).bind fun x175=>(Zy x175 s153.2.2).bind fun x178=>(Z8 p0 x148 x178).bind fun r180=>(Zy s153.1 s139.2.2).bind fun x183=>(Zy x183 s153.2.2).bind fun x186=>some (s153.1.setIfInBounds (s139.2.2).toNat (x183.setIfInBounds (s153.2.2).toNat (x172 ^^^ r180))) : Option ((Vector (Vector UInt8 4) 4))).bind fun j164=>(Zy s153.2.1 s139.2.2).bind fun x191=>(Zy x191 s153.2.2).bind fun x194=>(Zy s153.2.1 s13.2.2.2).bind fun x197=>(Zy x197 s153.2.2).bind fun x200=>(Z8 p0 x148 x200).bind fun r202=>(Zy s153.2.1 s139.2.2).bind fun x205=>(Zy x205 s153.2.2).bind fun x208=>some (Fl.nx (j164,(s153.2.1.setIfInBounds (s139.2.2).toNat (x205.setIfInBounds (s153.2.2).toNat (x194 ^^^ r202))),wr (s153.2.2 + 1)))) else (some (Fl.ex (s153.1,s153.2.1)))
def Wc (p0 : Int) (s13 : (Vector (Vector UInt8 4) 4) × (Vector (Vector UInt8 4) 4) × UInt8 × Int) (s139 : (Vector (Vector UInt8 4) 4) × (Vector (Vector UInt8 4) 4) × Int) : Option (Fl ((Vector (Vector UInt8 4) 4) × (Vector (Vector UInt8 4) 4) × Int) ((Vector (Vector UInt8 4) 4) × (Vector (Vector UInt8 4) 4))) :=
 if (decide (s139.2.2 < 4)) = true then ((Zy s139.1 s139.2.2).bind fun x145=>(Zy x145 s13.2.2.2).bind fun x148=>(ZE (YK p0 s13 s139 x148) (s139.1,s139.2.1,0)).bind fun j150=>some (Fl.nx (j150.1,j150.2,wr (s139.2.2 + 1)))) else (some (Fl.ex (s139.1,s139.2.1)))
def YL (p0 : Int) (s13 : (Vector (Vector UInt8 4) 4) × (Vector (Vector UInt8 4) 4) × UInt8 × Int) : Option (Fl ((Vector (Vector UInt8 4) 4) × (Vector (Vector UInt8 4) 4) × UInt8 × Int) (Fl ((Vector (Vector UInt8 4) 4) × UInt8) (UInt8 × (Vector (Vector UInt8 4) 4)))) :=
 if (decide (s13.2.2.2 < 4)) = true then ((ZE (VU s13) s13.2.2.2).bind fun j18=>if (j18 == 4) = true then (some (Fl.ex (Fl.ex (0,(Vector.replicate 4 (Vector.replicate 4 (0 : UInt8))))))) else ((Zy s13.1 j18).bind fun x44=>(Zy s13.2.1 j18).bind fun x47=>(Zy s13.1 s13.2.2.2).bind fun x60=>(Zy s13.1 j18).bind fun x63=>(Zy (s13.1.setIfInBounds (j18).toNat x60) s13.2.2.2).bind fun x66=>(Zy s13.2.1 s13.2.2.2).bind fun x69=>(Zy s13.2.1 j18).bind fun x72=>(Zy (s13.2.1.setIfInBounds (j18).toNat x69) s13.2.2.2).bind fun x75=>(Zy ((s13.1.setIfInBounds (j18).toNat x60).setIfInBounds (s13.2.2.2).toNat x44) s13.2.2.2).bind fun x78=>(Zy x78 s13.2.2.2).bind fun x81=>(Z8 p0 s13.2.2.1 x81).bind fun r83=>(Zy ((s13.1.setIfInBounds (j18).toNat x60).setIfInBounds (s13.2.2.2).toNat x44) s13.2.2.2).bind fun x86=>(Zy x86 s13.2.2.2).bind fun x89=>(VD p0 x89).bind fun r91=>(ZE (Wf p0 s13 r91) (((s13.1.setIfInBounds (j18).toNat x60).setIfInBounds (s13.2.2.2).toNat x44),((s13.2.1.setIfInBounds (j18).toNat x69).setIfInBounds (s13.2.2.2).toNat x47),0)).bind fun j93=>(ZE (Wc p0 s13) (j93.1,j93.2,0)).bind fun j136=>some (Fl.nx (j136.1,j136.2,r83,wr (s13.2.2.2 + 1))))) else (some (Fl.ex (Fl.nx (s13.2.1,s13.2.2.1))))
def WH (p0 : Int) (p1 : (Vector (Vector UInt8 4) 4)) : Option (UInt8 × (Vector (Vector UInt8 4) 4)) :=
 (Wa).bind fun r5=>(ZE (YL p0) (p1,r5,1,0)).bind fun j9=>j9.el (fun s12=>(some (s12.1,s12.2) : Option ((Vector (Vector UInt8 4) 4) × UInt8)).bind fun j213=>some (j213.2,j213.1)) (fun r=>some r)
theorem QF (w0 : World) (p0 : Int) (p1 : (Vector (Vector UInt8 4) 4)) (r : UInt8 × (Vector (Vector UInt8 4) 4)) (hF : WH p0 p1 = some r) :
  Calls Try.prog 149 [vI p0,(Value.agg (enc p1).toArray)].toArray w0 (fun en w'=>∃ v,en = .returned v ∧ (v = (Value.tuple [vB r.1,(Value.agg (enc r.2).toArray)].toArray) ∧ Kept (Old w0) w0 w')):=by
 refine ZB (n:=159) Try.func149 rfl rfl (nbl rfl) rfl ?_
 intro a hE
 have hM:=M.start w0
 unfold WH at hF
 refine Zc (ZZ (cs:=enc p1) hE hM Za ld rfl rfl fun b1 w a hM hE=>Ze hE Za ld rfl fun a hE=>ZH hE hM Za ld YM fun b3 w a hM hE=>Zf (Zc ?_))
 obtain ⟨r5,e6,hF⟩:=bind_some hF
 refine Zt hE Za ld rfl cb156 (Qb _  r5 e6) ?_
 rintro v w a ⟨rfl,hK⟩ hE
 have hM:=hM.keep hK
 refine ZH hE hM Za ld YM fun b7 w a hM hE=>Zo (seg:=enc r5) (cs':=enc r5) hE hM Za rfl rfl rfl YM (Flat.len _) (zle flq) (Flat.cell _) (Zr flq) fun w a hM hE=>Ze hE Za ld rfl fun a hE=>Zf (wp_seq (Zc (Ze hE Za ld rfl fun a hE=>Zf ?_)))
 obtain ⟨j9,hl10,hF11⟩:=bind_some hF
 refine ZL (fun a w=>∃ s12 : (Vector (Vector UInt8 4) 4) × UInt8,j9 = Fl.nx s12 ∧ Env 159 a [(5,(ptr b3 0)),(6,(ptr b7 0)),(7,vB s12.2)] ∧ M (Old w0) w0 w [raw b7 (enc s12.1),raw b3 (enc (Vector.replicate 4 (Vector.replicate 4 (0 : UInt8))))]) ?_ ?_
 ·skip
  refine wp_block ?_
  refine ZF (fun (s13 : (Vector (Vector UInt8 4) 4) × (Vector (Vector UInt8 4) 4) × UInt8 × Int) a w=>Env 159 a [(0,vI p0),(3,(ptr b1 0)),(5,(ptr b3 0)),(6,(ptr b7 0)),(7,vB s13.2.2.1),(8,vI s13.2.2.2)] ∧ M (Old w0) w0 w [raw b7 (enc s13.2.1),raw b3 (enc (Vector.replicate 4 (Vector.replicate 4 (0 : UInt8)))),raw b1 (enc s13.1)]) hl10 ⟨hE.sub ⟨rfl,rfl,rfl,rfl,rfl,rfl,trivial⟩,hM⟩ ?_
  rintro s13 a w ⟨hE,hM⟩ o16 hs14 hx15
  unfold YL at hs14
  refine wp_seq (Zc (Zd hE Za ld rfl fun a hE=>Zi hE Za ld rfl rfl rfl fun a hE=>Zf ?_))
  refine Zq hE rfl ?_ ?_
  ·intro hb17
   have hs14:=Zu hs14 hb17
   refine wp_skip (Zw (wp_seq (wp_block (Zc (Zd hE Za ld rfl fun a hE=>Ze hE Za ld rfl fun a hE=>Zf ?_)))))
   obtain ⟨j18,hl19,hF20⟩:=bind_some hs14
   refine ZM (fun a w=>Env 159 a [(0,vI p0),(3,(ptr b1 0)),(5,(ptr b3 0)),(6,(ptr b7 0)),(7,vB s13.2.2.1),(8,vI s13.2.2.2),(9,vI j18)] ∧ M (Old w0) w0 w [raw b7 (enc s13.2.1),raw b3 (enc (Vector.replicate 4 (Vector.replicate 4 (0 : UInt8)))),raw b1 (enc s13.1)]) ?_ ?_
   ·skip
    refine wp_block ?_
    refine ZF (fun (s21 : Int) a w=>Env 159 a [(0,vI p0),(3,(ptr b1 0)),(5,(ptr b3 0)),(6,(ptr b7 0)),(7,vB s13.2.2.1),(8,vI s13.2.2.2),(9,vI s21)] ∧ M (Old w0) w0 w [raw b7 (enc s13.2.1),raw b3 (enc (Vector.replicate 4 (Vector.replicate 4 (0 : UInt8)))),raw b1 (enc s13.1)]) hl19 ⟨hE.sub ⟨rfl,rfl,rfl,rfl,rfl,rfl,rfl,trivial⟩,hM⟩ ?_
    rintro s21 a w ⟨hE,hM⟩ o24 hs22 hx23
    unfold VU at hs22
    refine wp_seq ?_
    obtain ⟨j25,hl26,hF27⟩:=bind_some hs22
    refine ZM (fun a w=>Env 159 a [(0,vI p0),(3,(ptr b1 0)),(5,(ptr b3 0)),(6,(ptr b7 0)),(7,vB s13.2.2.1),(8,vI s13.2.2.2),(9,vI s21),(32,vT j25)] ∧ M (Old w0) w0 w [raw b7 (enc s13.2.1),raw b3 (enc (Vector.replicate 4 (Vector.replicate 4 (0 : UInt8)))),raw b1 (enc s13.1)]) ?_ ?_
    ·skip
     refine wp_region_lit (Zd hE Za ld rfl fun a hE=>Zi hE Za ld rfl rfl rfl fun a hE=>Zd hE Za ld rfl ?_); intro a hE
     refine Xh (decide (s21 < 4)) (fun hb28=>?_) (fun hb28=>?_)
     ·have hl26:=Zu hl26 hb28
      refine Zd hE (Zl hE rfl (lkb rfl hb28)) (by decide) rfl fun a hE=>Zd hE (Zl hE rfl (lkb rfl hb28)) (by decide) rfl ?_; intro a hE
      obtain ⟨x30,hi29,hl26⟩:=bvx hl26
      refine Zg hE (Zl hE rfl (lkb rfl hb28)) (by decide) rfl rfl Try.underlying50 Z7 hi29.1 ?_; intro a hE
      obtain ⟨x33,hi32,hl26⟩:=bvx hl26
      refine Zg hE (Zl hE rfl (lkb rfl hb28)) (by decide) rfl rfl Try.underlying42 ty5 hi32.1 fun a hE=>ZC (v:=(vB x33)) hE (Zl hE rfl (lkb rfl hb28)) (by decide) rfl ty5 rfl (At.vec (At.vec (hM.rawAt (pre:=[_,_])) hi29.2) hi32.2) fun a hE=>Zi hE (Zl hE rfl (lkb rfl hb28)) (by decide) rfl rfl (KQ x33 0) fun a hE=>Z0 hE Za ld (lkb rfl hb28) rfl fun a hE=>Zh ?_
      have ht35:=Option.some.inj hl26
      subst ht35
      refine Zj ?_
      exact ⟨hE.sub ⟨rfl,rfl,rfl,rfl,rfl,rfl,rfl,rfl,trivial⟩,hM⟩
     ·have hl26:=Zv hl26 hb28
      refine Zp hE rfl (lkb rfl hb28) rfl (by decide) fun a hE=>Zp hE rfl (lkb rfl hb28) rfl (by decide) fun a hE=>Zp hE rfl (lkb rfl hb28) rfl (by decide) fun a hE=>Zp hE rfl (lkb rfl hb28) rfl (by decide) fun a hE=>Zp hE rfl (lkb rfl hb28) rfl (by decide) fun a hE=>Zp hE rfl (lkb rfl hb28) rfl (by decide) fun a hE=>Yb hE Za ld (lkb rfl hb28) rfl fun a hE=>Zh ?_
      have ht36:=Option.some.inj hl26
      subst ht36
      refine Zj ?_
      exact ⟨hE.sub ⟨rfl,rfl,rfl,rfl,rfl,rfl,rfl,rfl,trivial⟩,hM⟩
    ·skip
     rintro a w ⟨hE,hM⟩
     refine Zq hE rfl ?_ ?_
     ·intro hb37
      have hF27:=Zu hF27 hb37
      refine wp_skip (Zw (wp_block (wp_region_lit (Zd hE Za ld rfl fun a hE=>Zi hE Za ld rfl rfl rfl fun a hE=>Ze hE Za ld rfl fun a hE=>Zh (Z9 (Zj ?_))))))
      exact ⟨_,(ois hF27),hE.sub ⟨rfl,rfl,rfl,rfl,rfl,rfl,rfl,trivial⟩,hM⟩
     ·intro hb37
      have hF27:=Zv hF27 hb37
      refine wp_exit (Zm (Zm (Yf ?_)))
      have ht38:=hx23 _ (ois hF27)
      subst ht38
      refine Zj ?_
      exact ⟨hE.sub ⟨rfl,rfl,rfl,rfl,rfl,rfl,rfl,trivial⟩,hM⟩
   ·skip
    rintro a w ⟨hE,hM⟩
    refine wp_seq (Zc (Zd hE Za ld rfl fun a hE=>Zi hE Za ld rfl rfl rfl fun a hE=>Zf ?_))
    refine Zq hE rfl ?_ ?_
    ·intro hb39
     have hF20:=Zu hF20 hb39
     refine Zc (XV (parts:=[]) (vs:=[]) (cs:=enc (Vector.replicate 4 (Vector.replicate 4 (0 : UInt8)))) hE Za ld rfl rfl YM rfl Z7 Y7 fun a hE=>Ze hE Za ld rfl ?_); intro a hE
     have hM:=hM.pull (pre:=[_])
     refine Zo (seg:=enc (Vector.replicate 4 (Vector.replicate 4 (0 : UInt8)))) (cs':=enc (Vector.replicate 4 (Vector.replicate 4 (0 : UInt8)))) hE hM Za rfl rfl rfl YM (Flat.len _) (zle flq) (Flat.cell _) (Zr flq) fun w a hM hE=>Zf ?_
     have ht40:=hx15 _ (ois hF20)
     subst ht40
     have hr:=Option.some.inj hF11
     subst hr
     have hq41 : Xp Try.prog _ _ (.cell 5 50) _:=Ya hE rfl YM rfl (hM.rawAt (pre:=[])) (Flat.len _) rfl
     have hM:=M.fst (l:=[]) hM
     exact wp_ret (ZD (YG (ZD (ZD (YG (ZD (ZD (UP hE rfl (Zs hE rfl) hq41 ⟨_,rfl,rfl,hM.kept⟩))))))))
    ·intro hb39
     have hF20:=Zv hF20 hb39
     refine wp_skip (Zw (wp_seq ?_))
     obtain ⟨x44,hi43,hF20⟩:=bvx hF20
     obtain ⟨x47,hi46,hF20⟩:=bvx hF20
     refine Ut (n:=159) (hd:=[_,_,_,_,_,_,_,_,_]) (tl:=[_]) Wl rfl rfl [38,39,40,41,42,43,10,11,167] (by decide) (fun D u w=>M (Old w0) w0 w ([raw b7 (enc s13.2.1),raw b3 (enc (Vector.replicate 4 (Vector.replicate 4 (0 : UInt8)))),raw b1 (enc s13.1)] ++ qL ([mkC 6 8 (enc (Vector.replicate 4 (0 : UInt8))) (enc x44),mkO 7 (fun v=>UX v (enc (Vector.replicate 4 (0 : UInt8))))] : Mk) D u) ∧ GOk ([([],fun us v=>v = (vI j18)),([],fun us v=>v = (ptr b1 (0 + (j18).toNat * 4))),([],fun us v=>v = (Value.agg (enc x44).toArray)),([],fun us v=>v = (vI j18)),([],fun us v=>v = (ptr b7 (0 + (j18).toNat * 4))),([],fun us v=>v = (Value.agg (enc x47).toArray)),([],fun us v=>True),([],fun us v=>True),([],fun us v=>True)] : Gs) D u) hE (fun u=>⟨M.qE (M.qE (M.q0 hM.drew u) emO) emC,Hb⟩) (ZQ (Zb ?_ (Zb ?_ (Zb ?_ (Zb ?_ (Zb ?_ (Zb ?_ (Zb ?_ (Zb ?_ (Zb ?_ ZJ)))))))))) ?_
     ·intro a w ux42 D hE hI hD hdc hp
      have hM0:=hI.1
      exact Zd hE Za ld rfl fun a hE=>⟨_,_,rfl,hE,M.qKeep hM0 rfl,hI.2.put hD rfl ZO rfl⟩
     ·intro a w ux42 D hE hI hD hdc hp
      have d0 : D 0 = true:=hp 0 _ rfl rfl
      have g0:=hI.2 0 d0 _ rfl
      have f0 : ux42 0 = (vI j18):=g0.2
      have hM0:=hI.1
      exact Zg hE Za ld rfl (lk rfl f0) Try.underlying50 Z7 hi43.1 fun a hE=>⟨_,_,rfl,hE,M.qKeep hM0 rfl,hI.2.put hD rfl ZO rfl⟩
     ·intro a w ux42 D hE hI hD hdc hp
      have d1 : D 1 = true:=hp 0 _ rfl rfl
      have g1:=hI.2 1 d1 _ rfl
      have f1 : ux42 1 = (ptr b1 (0 + (j18).toNat * 4)):=g1.2
      have hM0:=hI.1
      have hM:=hI.1
      exact Zn (cs:=enc x44) hE Za ld (lk rfl f1) Z7 rfl (At.vec (hM.rawAt (pre:=[_,_])) hi43.2) (Flat.len _) fun a hE=>⟨_,_,rfl,hE,M.qKeep hM0 rfl,hI.2.put hD rfl ZO rfl⟩
     ·intro a w ux42 D hE hI hD hdc hp
      have hM0:=hI.1
      exact Zd hE Za ld rfl fun a hE=>⟨_,_,rfl,hE,M.qKeep hM0 rfl,hI.2.put hD rfl ZO rfl⟩
     ·intro a w ux42 D hE hI hD hdc hp
      have d3 : D 3 = true:=hp 0 _ rfl rfl
      have g3:=hI.2 3 d3 _ rfl
      have f3 : ux42 3 = (vI j18):=g3.2
      have hM0:=hI.1
      exact Zg hE Za ld rfl (lk rfl f3) Try.underlying50 Z7 hi46.1 fun a hE=>⟨_,_,rfl,hE,M.qKeep hM0 rfl,hI.2.put hD rfl ZO rfl⟩
     ·intro a w ux42 D hE hI hD hdc hp
      have d4 : D 4 = true:=hp 0 _ rfl rfl
      have g4:=hI.2 4 d4 _ rfl
      have f4 : ux42 4 = (ptr b7 (0 + (j18).toNat * 4)):=g4.2
      have hM0:=hI.1
      have hM:=hI.1
      exact Zn (cs:=enc x47) hE Za ld (lk rfl f4) Z7 rfl (At.vec (hM.rawAt (pre:=[])) hi46.2) (Flat.len _) fun a hE=>⟨_,_,rfl,hE,M.qKeep hM0 rfl,hI.2.put hD rfl ZO rfl⟩
     ·intro a w ux42 D hE hI hD hdc hp
      have hM0:=hI.1
      have hM:=hI.1
      refine ZH hE hM Za ld Z7 ?_; intro b49 w a hM hE
      have hs : D 8 = false:=Bool.eq_false_iff.2 fun hx=>Bool.noConfusion (hD.symm.trans (hdc 8 _ _ rfl (List.mem_of_getElem? (i:=0) rfl) rfl hx))
      exact ⟨_,_,rfl,hE,M.qAlloc (mk1:=[]) (mk2:=[_]) hM rfl hD hs (by decide),hI.2.put hD rfl ZO trivial⟩
     ·intro a w ux42 D hE hI hD hdc hp
      have hM0:=hI.1
      have hM:=hI.1
      refine ZH hE hM Za ld Z7 ?_; intro b51 w a hM hE
      have hM:=hM.pack1 (it:=UX _ (enc (Vector.replicate 4 (0 : UInt8)))) (fun w w' fp ⟨b',e,k⟩ hb=>⟨b',e,VZ w w' fp k hb⟩) (fun fp k=>⟨_,rfl,k⟩)
      exact ⟨_,_,rfl,hE,M.qFill (mk1:=[_]) (mk2:=[]) (f:=fun v=>UX v (enc (Vector.replicate 4 (0 : UInt8)))) hM rfl hD,hI.2.put hD rfl ZO trivial⟩
     ·intro a w ux42 D hE hI hD hdc hp
      have d6 : D 6 = true:=hp 0 _ rfl rfl
      have d2 : D 2 = true:=hp 1 _ rfl rfl
      have g2:=hI.2 2 d2 _ rfl
      have f2 : ux42 2 = (Value.agg (enc x44).toArray):=g2.2
      have hM0:=hI.1
      have hM : M (Old w0) w0 w [raw b7 (enc s13.2.1),raw b3 (enc (Vector.replicate 4 (Vector.replicate 4 (0 : UInt8)))),raw b1 (enc s13.1),Qn (D 6) (D 8) (ux42 6) (enc (Vector.replicate 4 (0 : UInt8))) (enc x44),opt (D 7) (UX (ux42 7) (enc (Vector.replicate 4 (0 : UInt8))))]:=hI.1
      obtain ⟨b53,hb54,hM⟩:=M.openCell (pre:=[_,_,_]) hM d6
      rw [hD,if_neg (by decide)] at hM
      exact Zo (seg:=enc x44) (cs':=enc x44) hE hM Za (lk rfl hb54) (lk rfl f2) rfl Z7 (Flat.len _) (zle flq) (Flat.cell _) (Zr flq) fun w a hM hE=>⟨undef,_,rfl,Env.dummy hE (by decide),M.qStore (i:=6) (mk1:=[]) (mk2:=[_]) hM rfl d6 hb54 (by decide),hI.2.put hD rfl ZO trivial⟩
     ·intro a w ux42 D hE hI hall
      have hM : M (Old w0) w0 w [raw b7 (enc s13.2.1),raw b3 (enc (Vector.replicate 4 (Vector.replicate 4 (0 : UInt8)))),raw b1 (enc s13.1),Qn (D 6) (D 8) (ux42 6) (enc (Vector.replicate 4 (0 : UInt8))) (enc x44),opt (D 7) (UX (ux42 7) (enc (Vector.replicate 4 (0 : UInt8))))]:=hI.1
      have d0 : D 0 = true:=hall 0 (by decide)
      have d1 : D 1 = true:=hall 1 (by decide)
      have d2 : D 2 = true:=hall 2 (by decide)
      have d3 : D 3 = true:=hall 3 (by decide)
      have d4 : D 4 = true:=hall 4 (by decide)
      have d5 : D 5 = true:=hall 5 (by decide)
      have d6 : D 6 = true:=hall 6 (by decide)
      have d7 : D 7 = true:=hall 7 (by decide)
      have d8 : D 8 = true:=hall 8 (by decide)
      have f0 : ux42 0 = (vI j18):=(hI.2 0 d0 _ rfl).2
      have f1 : ux42 1 = (ptr b1 (0 + (j18).toNat * 4)):=(hI.2 1 d1 _ rfl).2
      have f2 : ux42 2 = (Value.agg (enc x44).toArray):=(hI.2 2 d2 _ rfl).2
      have f3 : ux42 3 = (vI j18):=(hI.2 3 d3 _ rfl).2
      have f4 : ux42 4 = (ptr b7 (0 + (j18).toNat * 4)):=(hI.2 4 d4 _ rfl).2
      have f5 : ux42 5 = (Value.agg (enc x47).toArray):=(hI.2 5 d5 _ rfl).2
      obtain ⟨b55,f56,hM⟩:=M.openCell (pre:=[_,_,_]) hM d6
      rw [if_pos d8] at hM
      have hM:=(hM.sure (pre:=[_,_,_,_]) d7).pull
      obtain ⟨_,⟨b57,f58,_⟩,_⟩:=hM.head
      have hM:=hM.pack1 VZ (it:=raw b57 (enc (Vector.replicate 4 (0 : UInt8)))) (fun fp ⟨b2,e2,k2⟩=>by rw [f58] at e2; simp [ptr] at e2; subst e2; exact k2)
      have hE:=hE.sub (e':=[(43,(Value.agg (enc x47).toArray)),(10,(ptr b55 0)),(11,(ptr b57 0)),(0,vI p0),(3,(ptr b1 0)),(5,(ptr b3 0)),(6,(ptr b7 0)),(7,vB s13.2.2.1),(8,vI s13.2.2.2),(9,vI j18),(35,vI j18),(36,(vT (j18 == 4)))]) ⟨lk rfl f5,lk rfl f56,lk rfl f58,rfl,rfl,rfl,rfl,rfl,rfl,rfl,rfl,rfl,trivial⟩
      refine Zo (seg:=enc x47) (cs':=enc x47) hE hM Za rfl rfl rfl Z7 (Flat.len _) (zle flq) (Flat.cell _) (Zr flq) fun w a hM hE=>Zh (Zw (Zc (Zd hE Za ld rfl fun a hE=>Zd hE Za ld rfl ?_))); intro a hE
      obtain ⟨x60,hi59,hF20⟩:=bvx hF20
      refine Zg hE Za ld rfl rfl Try.underlying50 Z7 hi59.1 fun a hE=>Zn (cs:=enc x60) hE Za ld rfl Z7 rfl (At.vec (hM.rawAt (pre:=[_,_,_,_])) hi59.2) (Flat.len _) ?_; intro a hE
      obtain ⟨x63,hi62,hF20⟩:=bvx hF20
      refine Zg hE Za ld rfl rfl Try.underlying50 Z7 hi62.1 ?_; intro a hE
      have hM:=hM.pull (pre:=[_,_,_,_])
      refine Zo (seg:=enc x60) (cs':=enc (s13.1.setIfInBounds (j18).toNat x60)) hE hM Za rfl rfl rfl Z7 (Flat.len _) (ZG (v:=s13.1) (x:=x60) hi62.1) (Flat.cell _) (Zz (v:=s13.1) (x:=x60) hi62.1) fun w a hM hE=>Zf (Zc (Zd hE Za ld rfl fun a hE=>Zn (cs:=enc x44) hE Za ld rfl Z7 rfl (hM.rawAt (pre:=[_,_])) (Flat.len _) ?_)); intro a hE
      obtain ⟨x66,hi65,hF20⟩:=bvx hF20
      refine Zg hE Za ld rfl rfl Try.underlying50 Z7 hi65.1 fun a hE=>Zo (seg:=enc x44) (cs':=enc ((s13.1.setIfInBounds (j18).toNat x60).setIfInBounds (s13.2.2.2).toNat x44)) hE hM Za rfl rfl rfl Z7 (Flat.len _) (ZG (v:=(s13.1.setIfInBounds (j18).toNat x60)) (x:=x44) hi65.1) (Flat.cell _) (Zz (v:=(s13.1.setIfInBounds (j18).toNat x60)) (x:=x44) hi65.1) fun w a hM hE=>Zf (Zc (Zd hE Za ld rfl fun a hE=>Zd hE Za ld rfl ?_)); intro a hE
      obtain ⟨x69,hi68,hF20⟩:=bvx hF20
      refine Zg hE Za ld rfl rfl Try.underlying50 Z7 hi68.1 fun a hE=>Zn (cs:=enc x69) hE Za ld rfl Z7 rfl (At.vec (hM.rawAt (pre:=[_,_,_])) hi68.2) (Flat.len _) ?_; intro a hE
      obtain ⟨x72,hi71,hF20⟩:=bvx hF20
      refine Zg hE Za ld rfl rfl Try.underlying50 Z7 hi71.1 ?_; intro a hE
      have hM:=hM.pull (pre:=[_,_,_])
      refine Zo (seg:=enc x69) (cs':=enc (s13.2.1.setIfInBounds (j18).toNat x69)) hE hM Za rfl rfl rfl Z7 (Flat.len _) (ZG (v:=s13.2.1) (x:=x69) hi71.1) (Flat.cell _) (Zz (v:=s13.2.1) (x:=x69) hi71.1) fun w a hM hE=>Zf (Zc (Zd hE Za ld rfl fun a hE=>Zn (cs:=enc x47) hE Za ld rfl Z7 rfl (hM.rawAt (pre:=[_,_])) (Flat.len _) ?_)); intro a hE
      obtain ⟨x75,hi74,hF20⟩:=bvx hF20
      refine Zg hE Za ld rfl rfl Try.underlying50 Z7 hi74.1 fun a hE=>Zo (seg:=enc x47) (cs':=enc ((s13.2.1.setIfInBounds (j18).toNat x69).setIfInBounds (s13.2.2.2).toNat x47)) hE hM Za rfl rfl rfl Z7 (Flat.len _) (ZG (v:=(s13.2.1.setIfInBounds (j18).toNat x69)) (x:=x47) hi74.1) (Flat.cell _) (Zz (v:=(s13.2.1.setIfInBounds (j18).toNat x69)) (x:=x47) hi74.1) fun w a hM hE=>Zf (Zc (Zd hE Za ld rfl fun a hE=>Zd hE Za ld rfl fun a hE=>Zd hE Za ld rfl fun a hE=>Zd hE Za ld rfl ?_)); intro a hE
      obtain ⟨x78,hi77,hF20⟩:=bvx hF20
      refine Zg hE Za ld rfl rfl Try.underlying50 Z7 hi77.1 ?_; intro a hE
      obtain ⟨x81,hi80,hF20⟩:=bvx hF20
      refine Zg hE Za ld rfl rfl Try.underlying42 ty5 hi80.1 fun a hE=>ZC (v:=(vB x81)) hE Za ld rfl ty5 rfl (At.vec (At.vec (hM.rawAt (pre:=[_])) hi77.2) hi80.2) ?_; intro a hE
      obtain ⟨r83,e84,hF20⟩:=bind_some hF20
      refine Zt hE Za ld rfl Q7 (YV _ p0 s13.2.2.1 x81 r83 e84) ?_
      rintro v w a ⟨rfl,hK⟩ hE
      have hM:=hM.keep hK
      refine Ze hE Za ld rfl fun a hE=>Zf (Zc (Zd hE Za ld rfl fun a hE=>Zd hE Za ld rfl fun a hE=>Zd hE Za ld rfl ?_)); intro a hE
      obtain ⟨x86,hi85,hF20⟩:=bvx hF20
      refine Zg hE Za ld rfl rfl Try.underlying50 Z7 hi85.1 ?_; intro a hE
      obtain ⟨x89,hi88,hF20⟩:=bvx hF20
      refine Zg hE Za ld rfl rfl Try.underlying42 ty5 hi88.1 fun a hE=>ZC (v:=(vB x89)) hE Za ld rfl ty5 rfl (At.vec (At.vec (hM.rawAt (pre:=[_])) hi85.2) hi88.2) ?_; intro a hE
      obtain ⟨r91,e92,hF20⟩:=bind_some hF20
      refine Zt hE Za ld rfl cb157 (Jb _ p0 x89 r91 e92) ?_
      rintro v w a ⟨rfl,hK⟩ hE
      have hM:=hM.keep hK
      refine Ze hE Za ld rfl fun a hE=>Zf (wp_seq (Zc (Ze hE Za ld rfl fun a hE=>Zf ?_)))
      obtain ⟨j93,hl94,hF95⟩:=bind_some hF20
      refine ZL (fun a w=>Env 159 a [(0,vI p0),(3,(ptr b1 0)),(5,(ptr b3 0)),(6,(ptr b7 0)),(7,vB r83),(8,vI s13.2.2.2)] ∧ M (Old w0) w0 w [raw b7 (enc j93.2),raw b1 (enc j93.1),raw b3 (enc (Vector.replicate 4 (Vector.replicate 4 (0 : UInt8))))]) ?_ ?_
      ·skip
       refine wp_block ?_
       have hM:=M.fst (l:=[_,_,_]) (((hM.pull (pre:=[_,_,_,_])).pull (pre:=[_,_])).pull (pre:=[_,_]))
       refine ZF (fun (s96 : (Vector (Vector UInt8 4) 4) × (Vector (Vector UInt8 4) 4) × Int) a w=>Env 159 a [(0,vI p0),(3,(ptr b1 0)),(5,(ptr b3 0)),(6,(ptr b7 0)),(7,vB r83),(8,vI s13.2.2.2),(12,vB r91),(13,vI s96.2.2)] ∧ M (Old w0) w0 w [raw b7 (enc s96.2.1),raw b1 (enc s96.1),raw b3 (enc (Vector.replicate 4 (Vector.replicate 4 (0 : UInt8))))]) hl94 ⟨hE.sub ⟨rfl,rfl,rfl,rfl,rfl,rfl,rfl,rfl,trivial⟩,hM⟩ ?_
       rintro s96 a w ⟨hE,hM⟩ o99 hs97 hx98
       unfold Wf at hs97
       refine wp_seq (Zc (Zd hE Za ld rfl fun a hE=>Zi hE Za ld rfl rfl rfl fun a hE=>Zf ?_))
       refine Zq hE rfl ?_ ?_
       ·intro hb100
        have hs97:=Zu hs97 hb100
        refine wp_skip (Zw (wp_seq (wp_block ?_)))
        obtain ⟨j101,hl102,hF103⟩:=bind_some hs97
        refine ZM (fun a w=>Env 159 a [(0,vI p0),(3,(ptr b1 0)),(5,(ptr b3 0)),(6,(ptr b7 0)),(7,vB r83),(8,vI s13.2.2.2),(12,vB r91),(13,vI s96.2.2)] ∧ M (Old w0) w0 w [raw b7 (enc s96.2.1),raw b1 (enc j101),raw b3 (enc (Vector.replicate 4 (Vector.replicate 4 (0 : UInt8))))]) ?_ ?_
        ·skip
         obtain ⟨x106,hi105,hl102⟩:=bvx hl102
         obtain ⟨x109,hi108,hl102⟩:=bvx hl102
         obtain ⟨r111,e112,hl102⟩:=bind_some hl102
         obtain ⟨x114,hi113,hl102⟩:=bvx hl102
         obtain ⟨x117,hi116,hl102⟩:=bvx hl102
         refine YZ (n:=159) (hd:=[_,_,_,_,_,_,_,_,_,_,_,_]) (tl:=[_]) Wl rfl rfl [79,80,81,82,83,84,85,86,87,88,89,90] (by decide) (fun w=>M (Old w0) w0 w [raw b7 (enc s96.2.1),raw b1 (enc s96.1),raw b3 (enc (Vector.replicate 4 (Vector.replicate 4 (0 : UInt8))))]) (fun j=>([fun v _=>v = (vI s13.2.2.2),fun v _=>v = (vI s96.2.2),fun v _=>v = (vI p0),fun v _=>v = (vI s13.2.2.2),fun v _=>v = (vI s96.2.2),fun v _=>v = (ptr b1 (0 + (s13.2.2.2).toNat * 4)),fun v _=>v = (ptr b1 (0 + (s13.2.2.2).toNat * 4 + (s96.2.2).toNat * 1)),fun v _=>v = (vB x109),fun v _=>v = (vB r91),fun v _=>v = (vB r111),fun v _=>v = (ptr b1 (0 + (s13.2.2.2).toNat * 4)),fun v _=>v = (ptr b1 (0 + (s13.2.2.2).toNat * 4 + (s96.2.2).toNat * 1))] : List (Value → World → Prop)).getD j (fun _ _=>True)) (fun _ _ h hk=>h.keep hk) (gup (Zk (Zk (Zk (Zk (Zk (Zk (Zk (Zk (Zk (Zk (Zk (Zk V3))))))))))))) hE hM.drew (ZQ (Zb ?_ (Zb ?_ (Zb ?_ (Zb ?_ (Zb ?_ (Zb ?_ (Zb ?_ (Zb ?_ (Zb ?_ (Zb ?_ (Zb ?_ (Zb ?_ ZJ))))))))))))) ?_
         ·exact fun a w ux104 hE hM hp=>Zd hE Za ld rfl fun a hE=>⟨Kept.refl _ _,_,_,rfl,hE,rfl⟩
         ·exact fun a w ux104 hE hM hp=>Zd hE Za ld rfl fun a hE=>⟨Kept.refl _ _,_,_,rfl,hE,rfl⟩
         ·exact fun a w ux104 hE hM hp=>Zd hE Za ld rfl fun a hE=>⟨Kept.refl _ _,_,_,rfl,hE,rfl⟩
         ·exact fun a w ux104 hE hM hp=>Zd hE Za ld rfl fun a hE=>⟨Kept.refl _ _,_,_,rfl,hE,rfl⟩
         ·exact fun a w ux104 hE hM hp=>Zd hE Za ld rfl fun a hE=>⟨Kept.refl _ _,_,_,rfl,hE,rfl⟩
         ·intro a w ux104 hE hM hp
          have f3 : ux104 3 = (vI s13.2.2.2):=hp 0 _ rfl rfl
          exact Zg hE Za ld rfl (lk rfl f3) Try.underlying50 Z7 hi105.1 fun a hE=>⟨Kept.refl _ _,_,_,rfl,hE,rfl⟩
         ·intro a w ux104 hE hM hp
          have f4 : ux104 4 = (vI s96.2.2):=hp 1 _ rfl rfl
          have f5 : ux104 5 = (ptr b1 (0 + (s13.2.2.2).toNat * 4)):=hp 0 _ rfl rfl
          exact Zg hE Za ld (lk rfl f5) (lk rfl f4) Try.underlying42 ty5 hi108.1 fun a hE=>⟨Kept.refl _ _,_,_,rfl,hE,rfl⟩
         ·intro a w ux104 hE hM hp
          have f6 : ux104 6 = (ptr b1 (0 + (s13.2.2.2).toNat * 4 + (s96.2.2).toNat * 1)):=hp 0 _ rfl rfl
          exact ZC (v:=(vB x109)) hE Za ld (lk rfl f6) ty5 rfl (At.vec (At.vec (hM.rawAt (pre:=[_])) hi105.2) hi108.2) fun a hE=>⟨Kept.refl _ _,_,_,rfl,hE,rfl⟩
         ·exact fun a w ux104 hE hM hp=>Zd hE Za ld rfl fun a hE=>⟨Kept.refl _ _,_,_,rfl,hE,rfl⟩
         ·intro a w ux104 hE hM hp
          have f2 : ux104 2 = (vI p0):=hp 0 _ rfl rfl
          have f7 : ux104 7 = (vB x109):=hp 1 _ rfl rfl
          have f8 : ux104 8 = (vB r91):=hp 2 _ rfl rfl
          refine Zt hE Za ld (Yl (Z1 (lk rfl f2) (Z1 (lk rfl f7) (Z1 (lk rfl f8) W3)))) Q7 (YV _ p0 x109 r91 r111 e112) ?_
          rintro v w a ⟨rfl,hK⟩ hE
          exact ⟨hK,_,_,rfl,hE,rfl⟩
         ·intro a w ux104 hE hM hp
          have f0 : ux104 0 = (vI s13.2.2.2):=hp 0 _ rfl rfl
          exact Zg hE Za ld rfl (lk rfl f0) Try.underlying50 Z7 hi113.1 fun a hE=>⟨Kept.refl _ _,_,_,rfl,hE,rfl⟩
         ·intro a w ux104 hE hM hp
          have f1 : ux104 1 = (vI s96.2.2):=hp 1 _ rfl rfl
          have f10 : ux104 10 = (ptr b1 (0 + (s13.2.2.2).toNat * 4)):=hp 0 _ rfl rfl
          exact Zg hE Za ld (lk rfl f10) (lk rfl f1) Try.underlying42 ty5 hi116.1 fun a hE=>⟨Kept.refl _ _,_,_,rfl,hE,rfl⟩
         ·intro a w ux104 hE hM hg
          have hE:=hE.sub (e':=[(88,vB r111),(90,(ptr b1 (0 + (s13.2.2.2).toNat * 4 + (s96.2.2).toNat * 1))),(0,vI p0),(3,(ptr b1 0)),(5,(ptr b3 0)),(6,(ptr b7 0)),(7,vB r83),(8,vI s13.2.2.2),(12,vB r91),(13,vI s96.2.2),(75,vI s96.2.2),(76,(vT (decide (s96.2.2 < 4))))]) ⟨lk rfl (hg 9 (by decide)),lk rfl (hg 11 (by decide)),rfl,rfl,rfl,rfl,rfl,rfl,rfl,rfl,rfl,rfl,trivial⟩
          have hM:=hM.pull (pre:=[_])
          refine Zo (seg:=[vB r111]) (cs':=enc (s96.1.setIfInBounds (s13.2.2.2).toNat (x114.setIfInBounds (s96.2.2).toNat r111))) hE hM Za rfl rfl rfl ty5 rfl (Wu (o':=0 + (s96.2.2).toNat * 1) hi113 (ZG (v:=x114) (x:=r111) hi116.1) (by first | omega | (simp only [Flat.n] <;> omega))) (Flat.cell (r111 : UInt8)) (YW (o':=0 + (s96.2.2).toNat * 1) hi113 (ZG (v:=x114) (x:=r111) hi116.1) (Zz (v:=x114) (x:=r111) hi116.1) (by first | omega | (simp only [Flat.n] <;> omega))) fun w a hM hE=>Zh ?_
          have ht119:=Option.some.inj hl102
          subst ht119
          refine Zj ?_
          have hM:=((hM.pull (pre:=[_,_])).pull (pre:=[_])).pull (pre:=[_,_])
          exact ⟨hE.sub ⟨rfl,rfl,rfl,rfl,rfl,rfl,rfl,rfl,trivial⟩,hM⟩
        ·skip
         rintro a w ⟨hE,hM⟩
         obtain ⟨x122,hi121,hF103⟩:=bvx hF103
         obtain ⟨x125,hi124,hF103⟩:=bvx hF103
         obtain ⟨r127,e128,hF103⟩:=bind_some hF103
         obtain ⟨x130,hi129,hF103⟩:=bvx hF103
         obtain ⟨x133,hi132,hF103⟩:=bvx hF103
         refine YZ (n:=159) (hd:=[_,_,_,_,_,_,_,_,_,_,_,_]) (tl:=[_]) Wl rfl rfl [91,92,93,94,95,96,97,98,99,100,101,102] (by decide) (fun w=>M (Old w0) w0 w [raw b7 (enc s96.2.1),raw b1 (enc j101),raw b3 (enc (Vector.replicate 4 (Vector.replicate 4 (0 : UInt8))))]) (fun j=>([fun v _=>v = (vI s13.2.2.2),fun v _=>v = (vI s96.2.2),fun v _=>v = (vI p0),fun v _=>v = (vI s13.2.2.2),fun v _=>v = (vI s96.2.2),fun v _=>v = (ptr b7 (0 + (s13.2.2.2).toNat * 4)),fun v _=>v = (ptr b7 (0 + (s13.2.2.2).toNat * 4 + (s96.2.2).toNat * 1)),fun v _=>v = (vB x125),fun v _=>v = (vB r91),fun v _=>v = (vB r127),fun v _=>v = (ptr b7 (0 + (s13.2.2.2).toNat * 4)),fun v _=>v = (ptr b7 (0 + (s13.2.2.2).toNat * 4 + (s96.2.2).toNat * 1))] : List (Value → World → Prop)).getD j (fun _ _=>True)) (fun _ _ h hk=>h.keep hk) (gup (Zk (Zk (Zk (Zk (Zk (Zk (Zk (Zk (Zk (Zk (Zk (Zk V3))))))))))))) hE hM.drew (ZQ (Zb ?_ (Zb ?_ (Zb ?_ (Zb ?_ (Zb ?_ (Zb ?_ (Zb ?_ (Zb ?_ (Zb ?_ (Zb ?_ (Zb ?_ (Zb ?_ ZJ))))))))))))) ?_
         ·exact fun a w ux120 hE hM hp=>Zd hE Za ld rfl fun a hE=>⟨Kept.refl _ _,_,_,rfl,hE,rfl⟩
         ·exact fun a w ux120 hE hM hp=>Zd hE Za ld rfl fun a hE=>⟨Kept.refl _ _,_,_,rfl,hE,rfl⟩
         ·exact fun a w ux120 hE hM hp=>Zd hE Za ld rfl fun a hE=>⟨Kept.refl _ _,_,_,rfl,hE,rfl⟩
         ·exact fun a w ux120 hE hM hp=>Zd hE Za ld rfl fun a hE=>⟨Kept.refl _ _,_,_,rfl,hE,rfl⟩
         ·exact fun a w ux120 hE hM hp=>Zd hE Za ld rfl fun a hE=>⟨Kept.refl _ _,_,_,rfl,hE,rfl⟩
         ·intro a w ux120 hE hM hp
          have f3 : ux120 3 = (vI s13.2.2.2):=hp 0 _ rfl rfl
          exact Zg hE Za ld rfl (lk rfl f3) Try.underlying50 Z7 hi121.1 fun a hE=>⟨Kept.refl _ _,_,_,rfl,hE,rfl⟩
         ·intro a w ux120 hE hM hp
          have f4 : ux120 4 = (vI s96.2.2):=hp 1 _ rfl rfl
          have f5 : ux120 5 = (ptr b7 (0 + (s13.2.2.2).toNat * 4)):=hp 0 _ rfl rfl
          exact Zg hE Za ld (lk rfl f5) (lk rfl f4) Try.underlying42 ty5 hi124.1 fun a hE=>⟨Kept.refl _ _,_,_,rfl,hE,rfl⟩
         ·intro a w ux120 hE hM hp
          have f6 : ux120 6 = (ptr b7 (0 + (s13.2.2.2).toNat * 4 + (s96.2.2).toNat * 1)):=hp 0 _ rfl rfl
          exact ZC (v:=(vB x125)) hE Za ld (lk rfl f6) ty5 rfl (At.vec (At.vec (hM.rawAt (pre:=[])) hi121.2) hi124.2) fun a hE=>⟨Kept.refl _ _,_,_,rfl,hE,rfl⟩
         ·exact fun a w ux120 hE hM hp=>Zd hE Za ld rfl fun a hE=>⟨Kept.refl _ _,_,_,rfl,hE,rfl⟩
         ·intro a w ux120 hE hM hp
          have f2 : ux120 2 = (vI p0):=hp 0 _ rfl rfl
          have f7 : ux120 7 = (vB x125):=hp 1 _ rfl rfl
          have f8 : ux120 8 = (vB r91):=hp 2 _ rfl rfl
          refine Zt hE Za ld (Yl (Z1 (lk rfl f2) (Z1 (lk rfl f7) (Z1 (lk rfl f8) W3)))) Q7 (YV _ p0 x125 r91 r127 e128) ?_
          rintro v w a ⟨rfl,hK⟩ hE
          exact ⟨hK,_,_,rfl,hE,rfl⟩
         ·intro a w ux120 hE hM hp
          have f0 : ux120 0 = (vI s13.2.2.2):=hp 0 _ rfl rfl
          exact Zg hE Za ld rfl (lk rfl f0) Try.underlying50 Z7 hi129.1 fun a hE=>⟨Kept.refl _ _,_,_,rfl,hE,rfl⟩
         ·intro a w ux120 hE hM hp
          have f1 : ux120 1 = (vI s96.2.2):=hp 1 _ rfl rfl
          have f10 : ux120 10 = (ptr b7 (0 + (s13.2.2.2).toNat * 4)):=hp 0 _ rfl rfl
          exact Zg hE Za ld (lk rfl f10) (lk rfl f1) Try.underlying42 ty5 hi132.1 fun a hE=>⟨Kept.refl _ _,_,_,rfl,hE,rfl⟩
         ·intro a w ux120 hE hM hg
          have hE:=hE.sub (e':=[(100,vB r127),(102,(ptr b7 (0 + (s13.2.2.2).toNat * 4 + (s96.2.2).toNat * 1))),(0,vI p0),(3,(ptr b1 0)),(5,(ptr b3 0)),(6,(ptr b7 0)),(7,vB r83),(8,vI s13.2.2.2),(12,vB r91),(13,vI s96.2.2)]) ⟨lk rfl (hg 9 (by decide)),lk rfl (hg 11 (by decide)),rfl,rfl,rfl,rfl,rfl,rfl,rfl,rfl,trivial⟩
          refine Zo (seg:=[vB r127]) (cs':=enc (s96.2.1.setIfInBounds (s13.2.2.2).toNat (x130.setIfInBounds (s96.2.2).toNat r127))) hE hM Za rfl rfl rfl ty5 rfl (Wu (o':=0 + (s96.2.2).toNat * 1) hi129 (ZG (v:=x130) (x:=r127) hi132.1) (by first | omega | (simp only [Flat.n] <;> omega))) (Flat.cell (r127 : UInt8)) (YW (o':=0 + (s96.2.2).toNat * 1) hi129 (ZG (v:=x130) (x:=r127) hi132.1) (Zz (v:=x130) (x:=r127) hi132.1) (by first | omega | (simp only [Flat.n] <;> omega))) fun w a hM hE=>Zh (Z9 (Zw (wp_region_lit (Zd hE Za ld rfl fun a hE=>Zi hE Za ld rfl rfl rfl fun a hE=>Ze hE Za ld rfl fun a hE=>Zh (Zj ?_)))))
          exact ⟨_,(ois hF103),hE.sub ⟨rfl,rfl,rfl,rfl,rfl,rfl,rfl,rfl,trivial⟩,hM⟩
       ·intro hb100
        have hs97:=Zv hs97 hb100
        refine wp_exit (Zm (Zm (Yf ?_)))
        have ht135:=hx98 _ (ois hs97)
        subst ht135
        refine Zj ?_
        exact ⟨hE.sub ⟨rfl,rfl,rfl,rfl,rfl,rfl,trivial⟩,hM⟩
      ·skip
       rintro a w ⟨hE,hM⟩
       refine Zw (Zc (Ze hE Za ld rfl fun a hE=>Zf ?_))
       obtain ⟨j136,hl137,hF138⟩:=bind_some hF95
       refine ZL (fun a w=>Env 159 a [(0,vI p0),(3,(ptr b1 0)),(5,(ptr b3 0)),(6,(ptr b7 0)),(7,vB r83),(8,vI s13.2.2.2)] ∧ M (Old w0) w0 w [raw b7 (enc j136.2),raw b1 (enc j136.1),raw b3 (enc (Vector.replicate 4 (Vector.replicate 4 (0 : UInt8))))]) ?_ ?_
       ·skip
        refine wp_block ?_
        refine ZF (fun (s139 : (Vector (Vector UInt8 4) 4) × (Vector (Vector UInt8 4) 4) × Int) a w=>Env 159 a [(0,vI p0),(3,(ptr b1 0)),(5,(ptr b3 0)),(6,(ptr b7 0)),(7,vB r83),(8,vI s13.2.2.2),(14,vI s139.2.2)] ∧ M (Old w0) w0 w [raw b7 (enc s139.2.1),raw b1 (enc s139.1),raw b3 (enc (Vector.replicate 4 (Vector.replicate 4 (0 : UInt8))))]) hl137 ⟨hE.sub ⟨rfl,rfl,rfl,rfl,rfl,rfl,rfl,trivial⟩,hM⟩ ?_
        rintro s139 a w ⟨hE,hM⟩ o142 hs140 hx141
        unfold Wc at hs140
        refine wp_seq (Zc (Zd hE Za ld rfl fun a hE=>Zi hE Za ld rfl rfl rfl fun a hE=>Zf ?_))
        refine Zq hE rfl ?_ ?_
        ·intro hb143
         have hs140:=Zu hs140 hb143
         refine wp_skip (Zw (wp_seq (wp_block (Zc (Zd hE Za ld rfl fun a hE=>Zd hE Za ld rfl ?_))))); intro a hE
         obtain ⟨x145,hi144,hs140⟩:=bvx hs140
         refine Zg hE Za ld rfl rfl Try.underlying50 Z7 hi144.1 ?_; intro a hE
         obtain ⟨x148,hi147,hs140⟩:=bvx hs140
         refine Zg hE Za ld rfl rfl Try.underlying42 ty5 hi147.1 fun a hE=>ZC (v:=(vB x148)) hE Za ld rfl ty5 rfl (At.vec (At.vec (hM.rawAt (pre:=[_])) hi144.2) hi147.2) fun a hE=>Ze hE Za ld rfl fun a hE=>Zf (Zc (Ze hE Za ld rfl fun a hE=>Zf ?_))
         obtain ⟨j150,hl151,hF152⟩:=bind_some hs140
         refine ZL (fun a w=>Env 159 a [(0,vI p0),(3,(ptr b1 0)),(5,(ptr b3 0)),(6,(ptr b7 0)),(7,vB r83),(8,vI s13.2.2.2),(14,vI s139.2.2)] ∧ M (Old w0) w0 w [raw b7 (enc j150.2),raw b1 (enc j150.1),raw b3 (enc (Vector.replicate 4 (Vector.replicate 4 (0 : UInt8))))]) ?_ ?_
         ·skip
          refine wp_block ?_
          refine ZF (fun (s153 : (Vector (Vector UInt8 4) 4) × (Vector (Vector UInt8 4) 4) × Int) a w=>Env 159 a [(0,vI p0),(3,(ptr b1 0)),(5,(ptr b3 0)),(6,(ptr b7 0)),(7,vB r83),(8,vI s13.2.2.2),(14,vI s139.2.2),(15,vB x148),(16,vI s153.2.2)] ∧ M (Old w0) w0 w [raw b7 (enc s153.2.1),raw b1 (enc s153.1),raw b3 (enc (Vector.replicate 4 (Vector.replicate 4 (0 : UInt8))))]) hl151 ⟨hE.sub ⟨rfl,rfl,rfl,rfl,rfl,rfl,rfl,rfl,rfl,trivial⟩,hM⟩ ?_
          rintro s153 a w ⟨hE,hM⟩ o156 hs154 hx155
          unfold YK at hs154
          refine wp_seq ?_
          obtain ⟨j157,hl158,hF159⟩:=bind_some hs154
          refine ZM (fun a w=>Env 159 a [(0,vI p0),(3,(ptr b1 0)),(5,(ptr b3 0)),(6,(ptr b7 0)),(7,vB r83),(8,vI s13.2.2.2),(14,vI s139.2.2),(15,vB x148),(16,vI s153.2.2),(118,vT j157)] ∧ M (Old w0) w0 w [raw b7 (enc s153.2.1),raw b1 (enc s153.1),raw b3 (enc (Vector.replicate 4 (Vector.replicate 4 (0 : UInt8))))]) ?_ ?_
          ·skip
           refine wp_region_lit (Zd hE Za ld rfl fun a hE=>Zi hE Za ld rfl rfl rfl fun a hE=>Zd hE Za ld rfl ?_); intro a hE
           refine Xh (decide (s153.2.2 < 4)) (fun hb160=>?_) (fun hb160=>?_)
           ·have hl158:=Zu hl158 hb160
            refine Zd hE (Zl hE rfl (lkb rfl hb160)) (by decide) rfl fun a hE=>Zd hE (Zl hE rfl (lkb rfl hb160)) (by decide) rfl fun a hE=>Zi hE (Zl hE rfl (lkb rfl hb160)) (by decide) rfl rfl rfl fun a hE=>Z0 hE Za ld (lkb rfl hb160) rfl fun a hE=>Zh ?_
            have ht161:=Option.some.inj hl158
            subst ht161
            refine Zj ?_
            exact ⟨hE.sub ⟨rfl,rfl,rfl,rfl,rfl,rfl,rfl,rfl,rfl,rfl,trivial⟩,hM⟩
           ·have hl158:=Zv hl158 hb160
            refine Zp hE rfl (lkb rfl hb160) rfl (by decide) fun a hE=>Zp hE rfl (lkb rfl hb160) rfl (by decide) fun a hE=>Zp hE rfl (lkb rfl hb160) rfl (by decide) fun a hE=>Yb hE Za ld (lkb rfl hb160) rfl fun a hE=>Zh ?_
            have ht162:=Option.some.inj hl158
            subst ht162
            refine Zj ?_
            exact ⟨hE.sub ⟨rfl,rfl,rfl,rfl,rfl,rfl,rfl,rfl,rfl,rfl,trivial⟩,hM⟩
          ·skip
           rintro a w ⟨hE,hM⟩
           refine Zq hE rfl ?_ ?_
           ·intro hb163
            have hF159:=Zu hF159 hb163
            refine wp_skip (Zw (wp_seq (wp_block ?_)))
            obtain ⟨j164,hl165,hF166⟩:=bind_some hF159
            refine ZM (fun a w=>Env 159 a [(0,vI p0),(3,(ptr b1 0)),(5,(ptr b3 0)),(6,(ptr b7 0)),(7,vB r83),(8,vI s13.2.2.2),(14,vI s139.2.2),(15,vB x148),(16,vI s153.2.2)] ∧ M (Old w0) w0 w [raw b7 (enc s153.2.1),raw b1 (enc j164),raw b3 (enc (Vector.replicate 4 (Vector.replicate 4 (0 : UInt8))))]) ?_ ?_
            ·skip
             obtain ⟨x169,hi168,hl165⟩:=bvx hl165
             obtain ⟨x172,hi171,hl165⟩:=bvx hl165
             obtain ⟨x175,hi174,hl165⟩:=bvx hl165
             obtain ⟨x178,hi177,hl165⟩:=bvx hl165
             obtain ⟨r180,e181,hl165⟩:=bind_some hl165
             obtain ⟨x183,hi182,hl165⟩:=bvx hl165
             obtain ⟨x186,hi185,hl165⟩:=bvx hl165
             refine YZ (n:=159) (hd:=[_,_,_,_,_,_,_,_,_,_,_,_,_,_,_,_,_,_]) (tl:=[_]) Wl rfl rfl [121,122,123,124,125,126,127,128,129,130,131,132,133,134,135,136,137,138] (by decide) (fun w=>M (Old w0) w0 w [raw b7 (enc s153.2.1),raw b1 (enc s153.1),raw b3 (enc (Vector.replicate 4 (Vector.replicate 4 (0 : UInt8))))]) (fun j=>([fun v _=>v = (vI s139.2.2),fun v _=>v = (vI s153.2.2),fun v _=>v = (vI s139.2.2),fun v _=>v = (vI s153.2.2),fun v _=>v = (ptr b1 (0 + (s139.2.2).toNat * 4)),fun v _=>v = (ptr b1 (0 + (s139.2.2).toNat * 4 + (s153.2.2).toNat * 1)),fun v _=>v = (vB x172),fun v _=>v = (vI p0),fun v _=>v = (vB x148),fun v _=>v = (vI s13.2.2.2),fun v _=>v = (vI s153.2.2),fun v _=>v = (ptr b1 (0 + (s13.2.2.2).toNat * 4)),fun v _=>v = (ptr b1 (0 + (s13.2.2.2).toNat * 4 + (s153.2.2).toNat * 1)),fun v _=>v = (vB x178),fun v _=>v = (vB r180),fun v _=>v = (vB (x172 ^^^ r180)),fun v _=>v = (ptr b1 (0 + (s139.2.2).toNat * 4)),fun v _=>v = (ptr b1 (0 + (s139.2.2).toNat * 4 + (s153.2.2).toNat * 1))] : List (Value → World → Prop)).getD j (fun _ _=>True)) (fun _ _ h hk=>h.keep hk) (gup (Zk (Zk (Zk (Zk (Zk (Zk (Zk (Zk (Zk (Zk (Zk (Zk (Zk (Zk (Zk (Zk (Zk (Zk V3))))))))))))))))))) hE hM.drew (ZQ (Zb ?_ (Zb ?_ (Zb ?_ (Zb ?_ (Zb ?_ (Zb ?_ (Zb ?_ (Zb ?_ (Zb ?_ (Zb ?_ (Zb ?_ (Zb ?_ (Zb ?_ (Zb ?_ (Zb ?_ (Zb ?_ (Zb ?_ (Zb ?_ ZJ))))))))))))))))))) ?_
             ·exact fun a w ux167 hE hM hp=>Zd hE Za ld rfl fun a hE=>⟨Kept.refl _ _,_,_,rfl,hE,rfl⟩
             ·exact fun a w ux167 hE hM hp=>Zd hE Za ld rfl fun a hE=>⟨Kept.refl _ _,_,_,rfl,hE,rfl⟩
             ·exact fun a w ux167 hE hM hp=>Zd hE Za ld rfl fun a hE=>⟨Kept.refl _ _,_,_,rfl,hE,rfl⟩
             ·exact fun a w ux167 hE hM hp=>Zd hE Za ld rfl fun a hE=>⟨Kept.refl _ _,_,_,rfl,hE,rfl⟩
             ·intro a w ux167 hE hM hp
              have f2 : ux167 2 = (vI s139.2.2):=hp 0 _ rfl rfl
              exact Zg hE Za ld rfl (lk rfl f2) Try.underlying50 Z7 hi168.1 fun a hE=>⟨Kept.refl _ _,_,_,rfl,hE,rfl⟩
             ·intro a w ux167 hE hM hp
              have f3 : ux167 3 = (vI s153.2.2):=hp 1 _ rfl rfl
              have f4 : ux167 4 = (ptr b1 (0 + (s139.2.2).toNat * 4)):=hp 0 _ rfl rfl
              exact Zg hE Za ld (lk rfl f4) (lk rfl f3) Try.underlying42 ty5 hi171.1 fun a hE=>⟨Kept.refl _ _,_,_,rfl,hE,rfl⟩
             ·intro a w ux167 hE hM hp
              have f5 : ux167 5 = (ptr b1 (0 + (s139.2.2).toNat * 4 + (s153.2.2).toNat * 1)):=hp 0 _ rfl rfl
              exact ZC (v:=(vB x172)) hE Za ld (lk rfl f5) ty5 rfl (At.vec (At.vec (hM.rawAt (pre:=[_])) hi168.2) hi171.2) fun a hE=>⟨Kept.refl _ _,_,_,rfl,hE,rfl⟩
             ·exact fun a w ux167 hE hM hp=>Zd hE Za ld rfl fun a hE=>⟨Kept.refl _ _,_,_,rfl,hE,rfl⟩
             ·exact fun a w ux167 hE hM hp=>Zd hE Za ld rfl fun a hE=>⟨Kept.refl _ _,_,_,rfl,hE,rfl⟩
             ·exact fun a w ux167 hE hM hp=>Zd hE Za ld rfl fun a hE=>⟨Kept.refl _ _,_,_,rfl,hE,rfl⟩
             ·exact fun a w ux167 hE hM hp=>Zd hE Za ld rfl fun a hE=>⟨Kept.refl _ _,_,_,rfl,hE,rfl⟩
             ·intro a w ux167 hE hM hp
              have f9 : ux167 9 = (vI s13.2.2.2):=hp 0 _ rfl rfl
              exact Zg hE Za ld rfl (lk rfl f9) Try.underlying50 Z7 hi174.1 fun a hE=>⟨Kept.refl _ _,_,_,rfl,hE,rfl⟩
             ·intro a w ux167 hE hM hp
              have f10 : ux167 10 = (vI s153.2.2):=hp 1 _ rfl rfl
              have f11 : ux167 11 = (ptr b1 (0 + (s13.2.2.2).toNat * 4)):=hp 0 _ rfl rfl
              exact Zg hE Za ld (lk rfl f11) (lk rfl f10) Try.underlying42 ty5 hi177.1 fun a hE=>⟨Kept.refl _ _,_,_,rfl,hE,rfl⟩
             ·intro a w ux167 hE hM hp
              have f12 : ux167 12 = (ptr b1 (0 + (s13.2.2.2).toNat * 4 + (s153.2.2).toNat * 1)):=hp 0 _ rfl rfl
              exact ZC (v:=(vB x178)) hE Za ld (lk rfl f12) ty5 rfl (At.vec (At.vec (hM.rawAt (pre:=[_])) hi174.2) hi177.2) fun a hE=>⟨Kept.refl _ _,_,_,rfl,hE,rfl⟩
             ·intro a w ux167 hE hM hp
              have f7 : ux167 7 = (vI p0):=hp 0 _ rfl rfl
              have f8 : ux167 8 = (vB x148):=hp 1 _ rfl rfl
              have f13 : ux167 13 = (vB x178):=hp 2 _ rfl rfl
              refine Zt hE Za ld (Yl (Z1 (lk rfl f7) (Z1 (lk rfl f8) (Z1 (lk rfl f13) W3)))) Q7 (YV _ p0 x148 x178 r180 e181) ?_
              rintro v w a ⟨rfl,hK⟩ hE
              exact ⟨hK,_,_,rfl,hE,rfl⟩
             ·intro a w ux167 hE hM hp
              have f6 : ux167 6 = (vB x172):=hp 0 _ rfl rfl
              have f14 : ux167 14 = (vB r180):=hp 1 _ rfl rfl
              exact Zi hE Za ld (lk rfl f6) (lk rfl f14) (WJ x172 r180) fun a hE=>⟨Kept.refl _ _,_,_,rfl,hE,rfl⟩
             ·intro a w ux167 hE hM hp
              have f0 : ux167 0 = (vI s139.2.2):=hp 0 _ rfl rfl
              exact Zg hE Za ld rfl (lk rfl f0) Try.underlying50 Z7 hi182.1 fun a hE=>⟨Kept.refl _ _,_,_,rfl,hE,rfl⟩
             ·intro a w ux167 hE hM hp
              have f1 : ux167 1 = (vI s153.2.2):=hp 1 _ rfl rfl
              have f16 : ux167 16 = (ptr b1 (0 + (s139.2.2).toNat * 4)):=hp 0 _ rfl rfl
              exact Zg hE Za ld (lk rfl f16) (lk rfl f1) Try.underlying42 ty5 hi185.1 fun a hE=>⟨Kept.refl _ _,_,_,rfl,hE,rfl⟩
             ·intro a w ux167 hE hM hg
              have hE:=hE.sub (e':=[(136,(vB (x172 ^^^ r180))),(138,(ptr b1 (0 + (s139.2.2).toNat * 4 + (s153.2.2).toNat * 1))),(0,vI p0),(3,(ptr b1 0)),(5,(ptr b3 0)),(6,(ptr b7 0)),(7,vB r83),(8,vI s13.2.2.2),(14,vI s139.2.2),(15,vB x148),(16,vI s153.2.2),(118,vT j157)]) ⟨lk rfl (hg 15 (by decide)),lk rfl (hg 17 (by decide)),rfl,rfl,rfl,rfl,rfl,rfl,rfl,rfl,rfl,rfl,trivial⟩
              have hM:=hM.pull (pre:=[_])
              refine Zo (seg:=[(vB (x172 ^^^ r180))]) (cs':=enc (s153.1.setIfInBounds (s139.2.2).toNat (x183.setIfInBounds (s153.2.2).toNat (x172 ^^^ r180)))) hE hM Za rfl rfl rfl ty5 rfl (Wu (o':=0 + (s153.2.2).toNat * 1) hi182 (ZG (v:=x183) (x:=x172 ^^^ r180) hi185.1) (by first | omega | (simp only [Flat.n] <;> omega))) (Flat.cell (x172 ^^^ r180 : UInt8)) (YW (o':=0 + (s153.2.2).toNat * 1) hi182 (ZG (v:=x183) (x:=x172 ^^^ r180) hi185.1) (Zz (v:=x183) (x:=x172 ^^^ r180) hi185.1) (by first | omega | (simp only [Flat.n] <;> omega))) fun w a hM hE=>Zh ?_
              have ht188:=Option.some.inj hl165
              subst ht188
              refine Zj ?_
              have hM:=((hM.pull (pre:=[_,_])).pull (pre:=[_])).pull (pre:=[_,_])
              exact ⟨hE.sub ⟨rfl,rfl,rfl,rfl,rfl,rfl,rfl,rfl,rfl,trivial⟩,hM⟩
            ·skip
             rintro a w ⟨hE,hM⟩
             obtain ⟨x191,hi190,hF166⟩:=bvx hF166
             obtain ⟨x194,hi193,hF166⟩:=bvx hF166
             obtain ⟨x197,hi196,hF166⟩:=bvx hF166
             obtain ⟨x200,hi199,hF166⟩:=bvx hF166
             obtain ⟨r202,e203,hF166⟩:=bind_some hF166
             obtain ⟨x205,hi204,hF166⟩:=bvx hF166
             obtain ⟨x208,hi207,hF166⟩:=bvx hF166
             refine YZ (n:=159) (hd:=[_,_,_,_,_,_,_,_,_,_,_,_,_,_,_,_,_,_]) (tl:=[_]) Wl rfl rfl [139,140,141,142,143,144,145,146,147,148,149,150,151,152,153,154,155,156] (by decide) (fun w=>M (Old w0) w0 w [raw b7 (enc s153.2.1),raw b1 (enc j164),raw b3 (enc (Vector.replicate 4 (Vector.replicate 4 (0 : UInt8))))]) (fun j=>([fun v _=>v = (vI s139.2.2),fun v _=>v = (vI s153.2.2),fun v _=>v = (vI s139.2.2),fun v _=>v = (vI s153.2.2),fun v _=>v = (ptr b7 (0 + (s139.2.2).toNat * 4)),fun v _=>v = (ptr b7 (0 + (s139.2.2).toNat * 4 + (s153.2.2).toNat * 1)),fun v _=>v = (vB x194),fun v _=>v = (vI p0),fun v _=>v = (vB x148),fun v _=>v = (vI s13.2.2.2),fun v _=>v = (vI s153.2.2),fun v _=>v = (ptr b7 (0 + (s13.2.2.2).toNat * 4)),fun v _=>v = (ptr b7 (0 + (s13.2.2.2).toNat * 4 + (s153.2.2).toNat * 1)),fun v _=>v = (vB x200),fun v _=>v = (vB r202),fun v _=>v = (vB (x194 ^^^ r202)),fun v _=>v = (ptr b7 (0 + (s139.2.2).toNat * 4)),fun v _=>v = (ptr b7 (0 + (s139.2.2).toNat * 4 + (s153.2.2).toNat * 1))] : List (Value → World → Prop)).getD j (fun _ _=>True)) (fun _ _ h hk=>h.keep hk) (gup (Zk (Zk (Zk (Zk (Zk (Zk (Zk (Zk (Zk (Zk (Zk (Zk (Zk (Zk (Zk (Zk (Zk (Zk V3))))))))))))))))))) hE hM.drew (ZQ (Zb ?_ (Zb ?_ (Zb ?_ (Zb ?_ (Zb ?_ (Zb ?_ (Zb ?_ (Zb ?_ (Zb ?_ (Zb ?_ (Zb ?_ (Zb ?_ (Zb ?_ (Zb ?_ (Zb ?_ (Zb ?_ (Zb ?_ (Zb ?_ ZJ))))))))))))))))))) ?_
             ·exact fun a w ux189 hE hM hp=>Zd hE Za ld rfl fun a hE=>⟨Kept.refl _ _,_,_,rfl,hE,rfl⟩
             ·exact fun a w ux189 hE hM hp=>Zd hE Za ld rfl fun a hE=>⟨Kept.refl _ _,_,_,rfl,hE,rfl⟩
             ·exact fun a w ux189 hE hM hp=>Zd hE Za ld rfl fun a hE=>⟨Kept.refl _ _,_,_,rfl,hE,rfl⟩
             ·exact fun a w ux189 hE hM hp=>Zd hE Za ld rfl fun a hE=>⟨Kept.refl _ _,_,_,rfl,hE,rfl⟩
             ·intro a w ux189 hE hM hp
              have f2 : ux189 2 = (vI s139.2.2):=hp 0 _ rfl rfl
              exact Zg hE Za ld rfl (lk rfl f2) Try.underlying50 Z7 hi190.1 fun a hE=>⟨Kept.refl _ _,_,_,rfl,hE,rfl⟩
             ·intro a w ux189 hE hM hp
              have f3 : ux189 3 = (vI s153.2.2):=hp 1 _ rfl rfl
              have f4 : ux189 4 = (ptr b7 (0 + (s139.2.2).toNat * 4)):=hp 0 _ rfl rfl
              exact Zg hE Za ld (lk rfl f4) (lk rfl f3) Try.underlying42 ty5 hi193.1 fun a hE=>⟨Kept.refl _ _,_,_,rfl,hE,rfl⟩
             ·intro a w ux189 hE hM hp
              have f5 : ux189 5 = (ptr b7 (0 + (s139.2.2).toNat * 4 + (s153.2.2).toNat * 1)):=hp 0 _ rfl rfl
              exact ZC (v:=(vB x194)) hE Za ld (lk rfl f5) ty5 rfl (At.vec (At.vec (hM.rawAt (pre:=[])) hi190.2) hi193.2) fun a hE=>⟨Kept.refl _ _,_,_,rfl,hE,rfl⟩
             ·exact fun a w ux189 hE hM hp=>Zd hE Za ld rfl fun a hE=>⟨Kept.refl _ _,_,_,rfl,hE,rfl⟩
             ·exact fun a w ux189 hE hM hp=>Zd hE Za ld rfl fun a hE=>⟨Kept.refl _ _,_,_,rfl,hE,rfl⟩
             ·exact fun a w ux189 hE hM hp=>Zd hE Za ld rfl fun a hE=>⟨Kept.refl _ _,_,_,rfl,hE,rfl⟩
             ·exact fun a w ux189 hE hM hp=>Zd hE Za ld rfl fun a hE=>⟨Kept.refl _ _,_,_,rfl,hE,rfl⟩
             ·intro a w ux189 hE hM hp
              have f9 : ux189 9 = (vI s13.2.2.2):=hp 0 _ rfl rfl
              exact Zg hE Za ld rfl (lk rfl f9) Try.underlying50 Z7 hi196.1 fun a hE=>⟨Kept.refl _ _,_,_,rfl,hE,rfl⟩
             ·intro a w ux189 hE hM hp
              have f10 : ux189 10 = (vI s153.2.2):=hp 1 _ rfl rfl
              have f11 : ux189 11 = (ptr b7 (0 + (s13.2.2.2).toNat * 4)):=hp 0 _ rfl rfl
              exact Zg hE Za ld (lk rfl f11) (lk rfl f10) Try.underlying42 ty5 hi199.1 fun a hE=>⟨Kept.refl _ _,_,_,rfl,hE,rfl⟩
             ·intro a w ux189 hE hM hp
              have f12 : ux189 12 = (ptr b7 (0 + (s13.2.2.2).toNat * 4 + (s153.2.2).toNat * 1)):=hp 0 _ rfl rfl
              exact ZC (v:=(vB x200)) hE Za ld (lk rfl f12) ty5 rfl (At.vec (At.vec (hM.rawAt (pre:=[])) hi196.2) hi199.2) fun a hE=>⟨Kept.refl _ _,_,_,rfl,hE,rfl⟩
             ·intro a w ux189 hE hM hp
              have f7 : ux189 7 = (vI p0):=hp 0 _ rfl rfl
              have f8 : ux189 8 = (vB x148):=hp 1 _ rfl rfl
              have f13 : ux189 13 = (vB x200):=hp 2 _ rfl rfl
              refine Zt hE Za ld (Yl (Z1 (lk rfl f7) (Z1 (lk rfl f8) (Z1 (lk rfl f13) W3)))) Q7 (YV _ p0 x148 x200 r202 e203) ?_
              rintro v w a ⟨rfl,hK⟩ hE
              exact ⟨hK,_,_,rfl,hE,rfl⟩
             ·intro a w ux189 hE hM hp
              have f6 : ux189 6 = (vB x194):=hp 0 _ rfl rfl
              have f14 : ux189 14 = (vB r202):=hp 1 _ rfl rfl
              exact Zi hE Za ld (lk rfl f6) (lk rfl f14) (WJ x194 r202) fun a hE=>⟨Kept.refl _ _,_,_,rfl,hE,rfl⟩
             ·intro a w ux189 hE hM hp
              have f0 : ux189 0 = (vI s139.2.2):=hp 0 _ rfl rfl
              exact Zg hE Za ld rfl (lk rfl f0) Try.underlying50 Z7 hi204.1 fun a hE=>⟨Kept.refl _ _,_,_,rfl,hE,rfl⟩
             ·intro a w ux189 hE hM hp
              have f1 : ux189 1 = (vI s153.2.2):=hp 1 _ rfl rfl
              have f16 : ux189 16 = (ptr b7 (0 + (s139.2.2).toNat * 4)):=hp 0 _ rfl rfl
              exact Zg hE Za ld (lk rfl f16) (lk rfl f1) Try.underlying42 ty5 hi207.1 fun a hE=>⟨Kept.refl _ _,_,_,rfl,hE,rfl⟩
             ·intro a w ux189 hE hM hg
              have hE:=hE.sub (e':=[(154,(vB (x194 ^^^ r202))),(156,(ptr b7 (0 + (s139.2.2).toNat * 4 + (s153.2.2).toNat * 1))),(0,vI p0),(3,(ptr b1 0)),(5,(ptr b3 0)),(6,(ptr b7 0)),(7,vB r83),(8,vI s13.2.2.2),(14,vI s139.2.2),(15,vB x148),(16,vI s153.2.2)]) ⟨lk rfl (hg 15 (by decide)),lk rfl (hg 17 (by decide)),rfl,rfl,rfl,rfl,rfl,rfl,rfl,rfl,rfl,trivial⟩
              refine Zo (seg:=[(vB (x194 ^^^ r202))]) (cs':=enc (s153.2.1.setIfInBounds (s139.2.2).toNat (x205.setIfInBounds (s153.2.2).toNat (x194 ^^^ r202)))) hE hM Za rfl rfl rfl ty5 rfl (Wu (o':=0 + (s153.2.2).toNat * 1) hi204 (ZG (v:=x205) (x:=x194 ^^^ r202) hi207.1) (by first | omega | (simp only [Flat.n] <;> omega))) (Flat.cell (x194 ^^^ r202 : UInt8)) (YW (o':=0 + (s153.2.2).toNat * 1) hi204 (ZG (v:=x205) (x:=x194 ^^^ r202) hi207.1) (Zz (v:=x205) (x:=x194 ^^^ r202) hi207.1) (by first | omega | (simp only [Flat.n] <;> omega))) fun w a hM hE=>Zh (Z9 (Zw (wp_region_lit (Zd hE Za ld rfl fun a hE=>Zi hE Za ld rfl rfl rfl fun a hE=>Ze hE Za ld rfl fun a hE=>Zh (Zj ?_)))))
              exact ⟨_,(ois hF166),hE.sub ⟨rfl,rfl,rfl,rfl,rfl,rfl,rfl,rfl,rfl,trivial⟩,hM⟩
           ·intro hb163
            have hF159:=Zv hF159 hb163
            refine wp_exit (Zm (Zm (Yf ?_)))
            have ht210:=hx155 _ (ois hF159)
            subst ht210
            refine Zj ?_
            exact ⟨hE.sub ⟨rfl,rfl,rfl,rfl,rfl,rfl,rfl,trivial⟩,hM⟩
         ·skip
          rintro a w ⟨hE,hM⟩
          refine Z9 (Zw (wp_region_lit (Zd hE Za ld rfl fun a hE=>Zi hE Za ld rfl rfl rfl fun a hE=>Ze hE Za ld rfl fun a hE=>Zh (Zj ?_))))
          exact ⟨_,(ois hF152),hE.sub ⟨rfl,rfl,rfl,rfl,rfl,rfl,rfl,trivial⟩,hM⟩
        ·intro hb143
         have hs140:=Zv hs140 hb143
         refine wp_exit (Zm (Zm (Yf ?_)))
         have ht211:=hx141 _ (ois hs140)
         subst ht211
         refine Zj ?_
         exact ⟨hE.sub ⟨rfl,rfl,rfl,rfl,rfl,rfl,trivial⟩,hM⟩
       ·skip
        rintro a w ⟨hE,hM⟩
        refine Z9 (Zw (wp_region_lit (Zd hE Za ld rfl fun a hE=>Zi hE Za ld rfl rfl rfl fun a hE=>Ze hE Za ld rfl fun a hE=>Zh (Zj ?_))))
        have hM:=((hM.pull (pre:=[_])).pull (pre:=[_,_])).pull (pre:=[_,_])
        exact ⟨_,(ois hF138),hE.sub ⟨rfl,rfl,rfl,rfl,rfl,rfl,trivial⟩,hM⟩
  ·intro hb17
   have hs14:=Zv hs14 hb17
   refine wp_exit (Zm (Zm (Yf ?_)))
   have ht212:=hx15 _ (ois hs14)
   subst ht212
   refine Zj ?_
   have hM:=M.fst (l:=[_,_]) ((hM.pull (pre:=[_])).pull (pre:=[_]))
   exact ⟨(s13.2.1,s13.2.2.1),rfl,hE.sub ⟨rfl,rfl,rfl,trivial⟩,hM⟩
 ·skip
  rintro a w ⟨s12,ht,hE,hM⟩
  subst ht
  have hF11:=Ur hF11
  refine Zw ?_
  obtain ⟨j213,hl214,hF215⟩:=bind_some hF11
  refine ZM (fun a w=>Env 159 a [(4,vB j213.2),(5,(ptr b3 0))] ∧ M (Old w0) w0 w [raw b3 (enc j213.1)]) ?_ ?_
  ·skip
   refine YZ (n:=159) (hd:=[_,_,_]) (tl:=[_]) Wl rfl rfl [157,158,4] (by decide) (fun w=>M (Old w0) w0 w [raw b7 (enc s12.1),raw b3 (enc (Vector.replicate 4 (Vector.replicate 4 (0 : UInt8))))]) (fun j=>([fun v _=>v = (vB s12.2),fun v _=>v = (Value.agg (enc s12.1).toArray),fun v _=>v = (vB s12.2)] : List (Value → World → Prop)).getD j (fun _ _=>True)) (fun _ _ h hk=>h.keep hk) (gup (Zk (Zk (Zk V3)))) hE hM.drew (ZQ (Zb ?_ (Zb ?_ (Zb ?_ ZJ)))) ?_
   ·exact fun a w ux216 hE hM hp=>Zd hE Za ld rfl fun a hE=>⟨Kept.refl _ _,_,_,rfl,hE,rfl⟩
   ·exact fun a w ux216 hE hM hp=>Zn (cs:=enc s12.1) hE Za ld rfl YM rfl (hM.rawAt (pre:=[])) (Flat.len _) fun a hE=>⟨Kept.refl _ _,_,_,rfl,hE,rfl⟩
   ·intro a w ux216 hE hM hp
    have f0 : ux216 0 = (vB s12.2):=hp 0 _ rfl rfl
    exact Ze hE Za ld (lk rfl f0) fun a hE=>⟨Kept.refl _ _,_,_,rfl,hE,rfl⟩
   ·intro a w ux216 hE hM hg
    have hE:=hE.sub (e':=[(158,(Value.agg (enc s12.1).toArray)),(4,vB s12.2),(5,(ptr b3 0))]) ⟨lk rfl (hg 1 (by decide)),lk rfl (hg 2 (by decide)),rfl,trivial⟩
    have hM:=hM.pull (pre:=[_])
    refine Zo (seg:=enc s12.1) (cs':=enc s12.1) hE hM Za rfl rfl rfl YM (Flat.len _) (zle flq) (Flat.cell _) (Zr flq) fun w a hM hE=>Zh ?_
    have ht217:=Option.some.inj hl214
    subst ht217
    refine Zj ?_
    have hM:=M.fst (l:=[_]) hM
    exact ⟨hE.sub ⟨rfl,rfl,trivial⟩,hM⟩
  ·skip
   rintro a w ⟨hE,hM⟩
   have hr:=Option.some.inj hF215
   subst hr
   have hq218 : Xp Try.prog _ _ (.cell 5 50) _:=Ya hE rfl YM rfl (hM.rawAt (pre:=[])) (Flat.len _) rfl
   have hM:=M.fst (l:=[]) hM
   exact wp_ret (UP hE rfl (Zs hE rfl) hq218 ⟨_,rfl,rfl,hM.kept⟩)
def Wk (p0 : Int) (p1 : (Vector (Vector UInt8 4) 4)) : Option ((Vector (Vector UInt8 4) 4) × Bool) :=
 (WH p0 p1).bind fun r5=>some (r5.2,r5.1 != 0)
theorem Qt (w0 : World) (p0 : Int) (p1 : (Vector (Vector UInt8 4) 4)) (r : (Vector (Vector UInt8 4) 4) × Bool) (hF : Wk p0 p1 = some r) :
  Calls Try.prog 115 [vI p0,(Value.agg (enc p1).toArray)].toArray w0 (fun en w'=>∃ v,en = .returned v ∧ (v = (Value.tuple [(Value.agg (enc r.1).toArray),vT r.2].toArray) ∧ Kept (Old w0) w0 w')):=by
 refine ZB (n:=17) Try.func115 rfl rfl (nbl rfl) rfl ?_
 intro a hE
 have hM:=M.start w0
 unfold Wk at hF
 refine Zc (ZZ (cs:=enc p1) hE hM Za ld rfl rfl fun b1 w a hM hE=>ZH hE hM Za ld YM fun b3 w a hM hE=>Ze hE Za ld rfl fun a hE=>Zf (Zc (Zd hE Za ld rfl fun a hE=>Zn (cs:=enc p1) hE Za ld rfl YM rfl (hM.rawAt (pre:=[_])) (Flat.len _) ?_))); intro a hE
 obtain ⟨r5,e6,hF⟩:=bind_some hF
 refine Zt hE Za ld rfl cb149 (QF _ p0 p1 r5 e6) ?_
 rintro v w a ⟨rfl,hK⟩ hE
 have hM:=hM.keep hK
 refine Zd hE Za ld rfl fun a hE=>Xo hE Za ld rfl rfl fun a hE=>Xo hE Za ld rfl rfl fun a hE=>ZH hE hM Za ld YM fun b7 w a hM hE=>Ze hE Za ld rfl fun a hE=>Zo (seg:=enc r5.2) (cs':=enc r5.2) hE hM Za rfl rfl rfl YM (Flat.len _) (zle flq) (Flat.cell _) (Zr flq) fun w a hM hE=>Zf (Zc (Zn (cs:=enc r5.2) hE Za ld rfl YM rfl (hM.rawAt (pre:=[])) (Flat.len _) fun a hE=>Zd hE Za ld rfl fun a hE=>Zi hE Za ld rfl rfl (Ha r5.1 0) ?_)); intro a hE
 have hM:=hM.pull (pre:=[_])
 refine Zo (seg:=enc r5.2) (cs':=enc r5.2) hE hM Za rfl rfl rfl YM (Flat.len _) (zle flq) (Flat.cell _) (Zr flq) fun w a hM hE=>Ze hE Za ld rfl fun a hE=>Zf ?_
 have hr:=Option.some.inj hF
 subst hr
 have hq9 : Xp Try.prog _ _ (.cell 4 50) _:=Ya hE rfl YM rfl (hM.rawAt (pre:=[])) (Flat.len _) rfl
 have hM:=M.fst (l:=[]) hM
 exact wp_ret (UP hE rfl hq9 (Zs hE rfl) ⟨_,rfl,rfl,hM.kept⟩)
def VN (p0 : GCipher) : Option (Bool) :=
 ((WU p0.Field).bind fun r6=>if (!r6) = true then (some true) else ((VY p0.Box).bind fun r10=>if (!r10) = true then (some true) else ((W6 p0.Places).bind fun r14=>if (!r14) = true then (some true) else ((Xe p0.Rounds 1 20).bind fun r18=>some (!r18)))) : Option (Bool)).bind fun j3=>if j3 = true then (some false) else ((Wk p0.Field p0.Mix).bind fun r22=>some r22.2)
theorem JM (w0 : World) (p0 : GCipher) (r : Bool) (hF : VN p0 = some r) :
  Calls Try.prog 71 [(Value.agg (enc p0).toArray)].toArray w0 (fun en w'=>∃ v,en = .returned v ∧ (v = (vT r) ∧ Kept (Old w0) w0 w')):=by
 refine ZB (n:=36) Try.func71 rfl rfl (nbl rfl) rfl ?_
 intro a hE
 have hM:=M.start w0
 unfold VN at hF
 refine Zc (ZZ (cs:=cat [[vI p0.Field],enc p0.Box,enc p0.Mix,enc p0.Places,[vI p0.Rounds]]) hE hM Za ld rfl rfl fun b1 w a hM hE=>Ze hE Za ld rfl fun a hE=>Zf (wp_seq ?_))
 obtain ⟨j3,hl4,hF5⟩:=bind_some hF
 refine ZM (fun a w=>Env 36 a [(1,(ptr b1 0)),(26,vT j3)] ∧ M (Old w0) w0 w [raw b1 (cat [[vI p0.Field],enc p0.Box,enc p0.Mix,enc p0.Places,[vI p0.Rounds]])]) ?_ ?_
 ·skip
  refine wp_region_lit (ZA hE Za ld rfl (Th) fun a hE=>ZC (v:=(vI p0.Field)) hE Za ld rfl ty2 rfl (At.cat (pre:=[]) (hM.rawAt (pre:=[])) cl0) ?_); intro a hE
  obtain ⟨r6,e7,hl4⟩:=bind_some hl4
  refine Zt hE Za ld rfl cb43 (Ko _ p0.Field r6 e7) ?_
  rintro v w a ⟨rfl,hK⟩ hE
  have hM:=hM.keep hK
  refine Vf hE Za ld rfl fun a hE=>Zd hE Za ld rfl ?_; intro a hE
  refine Xh (!r6) (fun hb8=>?_) (fun hb8=>?_)
  ·have hl4:=Zu hl4 hb8
   refine Zp hE rfl (lkb rfl hb8) rfl (by decide) fun a hE=>Zp hE rfl (lkb rfl hb8) rfl (by decide) fun a hE=>Zp hE rfl (lkb rfl hb8) rfl (by decide) fun a hE=>Zp hE rfl (lkb rfl hb8) rfl (by decide) fun a hE=>Z0 hE Za ld (lkb rfl hb8) rfl fun a hE=>Zd hE Za ld rfl fun a hE=>Zp hE rfl rfl rfl (by decide) fun a hE=>Zp hE rfl rfl rfl (by decide) fun a hE=>Zp hE rfl rfl rfl (by decide) fun a hE=>Zp hE rfl rfl rfl (by decide) fun a hE=>Z0 hE Za ld rfl rfl fun a hE=>Zd hE Za ld rfl ?_; intro a hE
   refine Zp hE rfl rfl rfl (by decide) fun a hE=>Zp hE rfl rfl rfl (by decide) fun a hE=>Zp hE rfl rfl rfl (by decide) fun a hE=>Zp hE rfl rfl rfl (by decide) fun a hE=>Z0 hE Za ld rfl rfl fun a hE=>Zh ?_
   have ht9:=Option.some.inj hl4
   subst ht9
   refine Zj ?_
   exact ⟨hE.sub ⟨rfl,rfl,trivial⟩,hM⟩
  ·have hl4:=Zv hl4 hb8
   refine ZA hE (Zl hE rfl (lkb rfl hb8)) (by decide) rfl (Tz) fun a hE=>Zn (cs:=enc p0.Box) hE (Zl hE rfl (lkb rfl hb8)) (by decide) rfl Vq rfl (At.cat (pre:=[[vI p0.Field]]) (hM.rawAt (pre:=[])) (cl1 (n:=1) (m:=0) rfl cl0)) (Flat.len _) ?_; intro a hE
   obtain ⟨r10,e11,hl4⟩:=bind_some hl4
   refine Zt hE (Zl hE rfl (lkb rfl hb8)) (by decide) rfl cb113 (JP _ p0.Box r10 e11) ?_
   rintro v w a ⟨rfl,hK⟩ hE
   have hM:=hM.keep hK
   refine Vf hE (Zl hE rfl (lkb rfl hb8)) (by decide) rfl fun a hE=>Yb hE Za ld (lkb rfl hb8) rfl fun a hE=>Zd hE Za ld rfl ?_; intro a hE
   refine Xh (!r10) (fun hb12=>?_) (fun hb12=>?_)
   ·have hl4:=Zu hl4 hb12
    refine Zp hE rfl (lkb rfl hb12) rfl (by decide) fun a hE=>Zp hE rfl (lkb rfl hb12) rfl (by decide) fun a hE=>Zp hE rfl (lkb rfl hb12) rfl (by decide) fun a hE=>Zp hE rfl (lkb rfl hb12) rfl (by decide) fun a hE=>Z0 hE Za ld (lkb rfl hb12) rfl fun a hE=>Zd hE Za ld rfl fun a hE=>Zp hE rfl rfl rfl (by decide) fun a hE=>Zp hE rfl rfl rfl (by decide) fun a hE=>Zp hE rfl rfl rfl (by decide) fun a hE=>Zp hE rfl rfl rfl (by decide) fun a hE=>Z0 hE Za ld rfl rfl fun a hE=>Zh ?_
    have ht13:=Option.some.inj hl4
    subst ht13
    refine Zj ?_
    exact ⟨hE.sub ⟨rfl,rfl,trivial⟩,hM⟩
   ·have hl4:=Zv hl4 hb12
    refine ZA hE (Zl hE rfl (lkb rfl hb12)) (by decide) rfl (QC) fun a hE=>Zn (cs:=enc p0.Places) hE (Zl hE rfl (lkb rfl hb12)) (by decide) rfl Ul rfl (At.cat (pre:=[[vI p0.Field],enc p0.Box,enc p0.Mix]) (hM.rawAt (pre:=[])) (cl1 (n:=1) (m:=272) rfl (cl1 (n:=256) (m:=16) (Flat.len _) (cl1 (n:=16) (m:=0) (Flat.len _) cl0)))) (Flat.len _) ?_; intro a hE
    obtain ⟨r14,e15,hl4⟩:=bind_some hl4
    refine Zt hE (Zl hE rfl (lkb rfl hb12)) (by decide) rfl cb114 (KV _ p0.Places r14 e15) ?_
    rintro v w a ⟨rfl,hK⟩ hE
    have hM:=hM.keep hK
    refine Vf hE (Zl hE rfl (lkb rfl hb12)) (by decide) rfl fun a hE=>Yb hE Za ld (lkb rfl hb12) rfl fun a hE=>Zd hE Za ld rfl ?_; intro a hE
    refine Xh (!r14) (fun hb16=>?_) (fun hb16=>?_)
    ·have hl4:=Zu hl4 hb16
     refine Zp hE rfl (lkb rfl hb16) rfl (by decide) fun a hE=>Zp hE rfl (lkb rfl hb16) rfl (by decide) fun a hE=>Zp hE rfl (lkb rfl hb16) rfl (by decide) fun a hE=>Zp hE rfl (lkb rfl hb16) rfl (by decide) fun a hE=>Z0 hE Za ld (lkb rfl hb16) rfl fun a hE=>Zh ?_
     have ht17:=Option.some.inj hl4
     subst ht17
     refine Zj ?_
     exact ⟨hE.sub ⟨rfl,rfl,trivial⟩,hM⟩
    ·have hl4:=Zv hl4 hb16
     refine ZA hE (Zl hE rfl (lkb rfl hb16)) (by decide) rfl (Q1) fun a hE=>ZC (v:=(vI p0.Rounds)) hE (Zl hE rfl (lkb rfl hb16)) (by decide) rfl ty2 rfl (At.cat (pre:=[[vI p0.Field],enc p0.Box,enc p0.Mix,enc p0.Places]) (hM.rawAt (pre:=[])) (cl1 (n:=1) (m:=288) rfl (cl1 (n:=256) (m:=32) (Flat.len _) (cl1 (n:=16) (m:=16) (Flat.len _) (cl1 (n:=16) (m:=0) (Flat.len _) cl0))))) ?_; intro a hE
     obtain ⟨r18,e19,hl4⟩:=bind_some hl4
     refine Zt hE (Zl hE rfl (lkb rfl hb16)) (by decide) rfl cb82 (VL _ p0.Rounds 1 20 r18 e19) ?_
     rintro v w a ⟨rfl,hK⟩ hE
     have hM:=hM.keep hK
     refine Vf hE (Zl hE rfl (lkb rfl hb16)) (by decide) rfl fun a hE=>Yb hE Za ld (lkb rfl hb16) rfl fun a hE=>Zh ?_
     have ht20:=Option.some.inj hl4
     subst ht20
     refine Zj ?_
     exact ⟨hE.sub ⟨rfl,rfl,trivial⟩,hM⟩
 ·skip
  rintro a w ⟨hE,hM⟩
  refine Zq hE rfl ?_ ?_
  ·intro hb21
   have hF5:=Zu hF5 hb21
   refine Zc (Ze hE Za ld rfl fun a hE=>Zf ?_)
   have hr:=Option.some.inj hF5
   subst hr
   have hM:=M.fst (l:=[]) hM
   exact wp_ret (ZD (Zx hE rfl (Zs hE rfl) ⟨_,rfl,rfl,hM.kept⟩))
  ·intro hb21
   have hF5:=Zv hF5 hb21
   refine wp_skip (Zw (Zc (ZA hE Za ld rfl (Th) fun a hE=>ZC (v:=(vI p0.Field)) hE Za ld rfl ty2 rfl (At.cat (pre:=[]) (hM.rawAt (pre:=[])) cl0) fun a hE=>ZA hE Za ld rfl (QP) fun a hE=>Zn (cs:=enc p0.Mix) hE Za ld rfl YM rfl (At.cat (pre:=[[vI p0.Field],enc p0.Box]) (hM.rawAt (pre:=[])) (cl1 (n:=1) (m:=256) rfl (cl1 (n:=256) (m:=0) (Flat.len _) cl0))) (Flat.len _) ?_))); intro a hE
   obtain ⟨r22,e23,hF5⟩:=bind_some hF5
   refine Zt hE Za ld rfl cb115 (Qt _ p0.Field p0.Mix r22 e23) ?_
   rintro v w a ⟨rfl,hK⟩ hE
   have hM:=hM.keep hK
   refine Zd hE Za ld rfl fun a hE=>Xo hE Za ld rfl rfl fun a hE=>Xo hE Za ld rfl rfl fun a hE=>ZH hE hM Za ld YM fun b24 w a hM hE=>Zo (seg:=enc r22.1) (cs':=enc r22.1) hE hM Za rfl rfl rfl YM (Flat.len _) (zle flq) (Flat.cell _) (Zr flq) fun w a hM hE=>Ze hE Za ld rfl fun a hE=>Zf (Zc (Zd hE Za ld rfl fun a hE=>Ze hE Za ld rfl fun a hE=>Zf ?_))
   have hr:=Option.some.inj hF5
   subst hr
   have hM:=M.fst (l:=[]) hM
   exact wp_ret (Zx hE rfl (Zs hE rfl) ⟨_,rfl,rfl,hM.kept⟩)
def V1 (p0 : GCipher) (p1 : Int) : Option (Int) :=
 (VN p0).bind fun r3=>if (!r3) = true then (some 1) else ((Xe p1 0 p0.Rounds).bind fun r6=>if (!r6) = true then (some 2) else (some 0))
theorem KL (w0 : World) (p0 : GCipher) (p1 : Int) (r : Int) (hF : V1 p0 p1 = some r) :
  Calls Try.prog 135 [(Value.agg (enc p0).toArray),vI p1].toArray w0 (fun en w'=>∃ v,en = .returned v ∧ (v = (vI r) ∧ Kept (Old w0) w0 w')):=by
 refine ZB (n:=15) Try.func135 rfl rfl (nbl rfl) rfl ?_
 intro a hE
 have hM:=M.start w0
 unfold V1 at hF
 refine Zc (ZZ (cs:=cat [[vI p0.Field],enc p0.Box,enc p0.Mix,enc p0.Places,[vI p0.Rounds]]) hE hM Za ld rfl rfl fun b1 w a hM hE=>Ze hE Za ld rfl fun a hE=>Zf (wp_seq (wp_block (Zc (Zn (cs:=enc p0) hE Za ld rfl Uz rfl (hM.rawAt (pre:=[])) (YF (cl1 (n:=1) (m:=289) rfl (cl1 (n:=256) (m:=33) (Flat.len _) (cl1 (n:=16) (m:=17) (Flat.len _) (cl1 (n:=16) (m:=1) (Flat.len _) (cl1 (n:=1) (m:=0) rfl cl0)))))) ?_))))); intro a hE
 obtain ⟨r3,e4,hF⟩:=bind_some hF
 refine Zt hE Za ld rfl cb71 (JM _ p0 r3 e4) ?_
 rintro v w a ⟨rfl,hK⟩ hE
 have hM:=hM.keep hK
 refine Vf hE Za ld rfl fun a hE=>Ze hE Za ld rfl fun a hE=>Zf ?_
 refine Zq hE rfl ?_ ?_
 ·intro hb5
  have hF:=Zu hF hb5
  refine Zc (Ze hE Za ld rfl fun a hE=>Zf ?_)
  have hr:=Option.some.inj hF
  subst hr
  have hM:=M.fst (l:=[]) hM
  exact wp_ret (YG (ZD (Zx hE rfl (Zs hE rfl) ⟨_,rfl,rfl,hM.kept⟩)))
 ·intro hb5
  have hF:=Zv hF hb5
  refine Zc (Zd hE Za ld rfl fun a hE=>ZA hE Za ld rfl (Q1) fun a hE=>ZC (v:=(vI p0.Rounds)) hE Za ld rfl ty2 rfl (At.cat (pre:=[[vI p0.Field],enc p0.Box,enc p0.Mix,enc p0.Places]) (hM.rawAt (pre:=[])) (cl1 (n:=1) (m:=288) rfl (cl1 (n:=256) (m:=32) (Flat.len _) (cl1 (n:=16) (m:=16) (Flat.len _) (cl1 (n:=16) (m:=0) (Flat.len _) cl0))))) ?_); intro a hE
  obtain ⟨r6,e7,hF⟩:=bind_some hF
  refine Zt hE Za ld rfl cb82 (VL _ p1 0 p0.Rounds r6 e7) ?_
  rintro v w a ⟨rfl,hK⟩ hE
  have hM:=hM.keep hK
  refine Vf hE Za ld rfl fun a hE=>Ze hE Za ld rfl fun a hE=>Zf ?_
  refine Zq hE rfl ?_ ?_
  ·intro hb8
   have hF:=Zu hF hb8
   refine Zc (Ze hE Za ld rfl fun a hE=>Zf ?_)
   have hr:=Option.some.inj hF
   subst hr
   have hM:=M.fst (l:=[]) hM
   exact wp_ret (YG (ZD (Zx hE rfl (Zs hE rfl) ⟨_,rfl,rfl,hM.kept⟩)))
  ·intro hb8
   have hF:=Zv hF hb8
   refine wp_skip (Z9 (Zw (Zc (Ze hE Za ld rfl fun a hE=>Zf ?_))))
   have hr:=Option.some.inj hF
   subst hr
   have hM:=M.fst (l:=[]) hM
   exact wp_ret (Zx hE rfl (Zs hE rfl) ⟨_,rfl,rfl,hM.kept⟩)
def Vg (p0 : GCipher) (p1 : Int) (p2 : Int) : Option (Int) :=
 (V1 p0 p2).bind fun r3=>((if (r3 != 1) = true then ((Xe p1 0 15).bind fun r12=>some (!r12)) else (some false) : Option (Bool)).bind fun j8=>if j8 = true then (some 2) else (some r3) : Option (Int)).bind fun j5=>some j5
theorem Kz (w0 : World) (p0 : GCipher) (p1 : Int) (p2 : Int) (r : Int) (hF : Vg p0 p1 p2 = some r) :
  Calls Try.prog 81 [(Value.agg (enc p0).toArray),vI p1,vI p2].toArray w0 (fun en w'=>∃ v,en = .returned v ∧ (v = (vI r) ∧ Kept (Old w0) w0 w')):=by
 refine ZB (n:=19) Try.func81 rfl rfl (nbl rfl) rfl ?_
 intro a hE
 have hM:=M.start w0
 unfold Vg at hF
 refine Zc (ZZ (cs:=cat [[vI p0.Field],enc p0.Box,enc p0.Mix,enc p0.Places,[vI p0.Rounds]]) hE hM Za ld rfl rfl fun b1 w a hM hE=>Ze hE Za ld rfl fun a hE=>Zf (Zc (Zn (cs:=enc p0) hE Za ld rfl Uz rfl (hM.rawAt (pre:=[])) (YF (cl1 (n:=1) (m:=289) rfl (cl1 (n:=256) (m:=33) (Flat.len _) (cl1 (n:=16) (m:=17) (Flat.len _) (cl1 (n:=16) (m:=1) (Flat.len _) (cl1 (n:=1) (m:=0) rfl cl0)))))) fun a hE=>Zd hE Za ld rfl ?_))); intro a hE
 obtain ⟨r3,e4,hF⟩:=bind_some hF
 refine Zt hE Za ld rfl cb135 (KL _ p0 p2 r3 e4) ?_
 rintro v w a ⟨rfl,hK⟩ hE
 have hM:=hM.keep hK
 refine Ze hE Za ld rfl fun a hE=>Zf ?_
 obtain ⟨j5,hl6,hF7⟩:=bind_some hF
 refine ZM (fun a w=>Env 19 a [(7,vI j5)] ∧ M (Old w0) w0 w []) ?_ ?_
 ·skip
  obtain ⟨j8,hl9,hF10⟩:=bind_some hl6
  refine ZM (fun a w=>Env 19 a [(7,vI r3),(17,vT j8)] ∧ M (Old w0) w0 w []) ?_ ?_
  ·skip
   refine wp_region_lit (Zd hE Za ld rfl fun a hE=>Zi hE Za ld rfl rfl rfl fun a hE=>Zd hE Za ld rfl ?_); intro a hE
   refine Xh (r3 != 1) (fun hb11=>?_) (fun hb11=>?_)
   ·have hl9:=Zu hl9 hb11
    refine Zd hE (Zl hE rfl (lkb rfl hb11)) (by decide) rfl ?_; intro a hE
    obtain ⟨r12,e13,hl9⟩:=bind_some hl9
    refine Zt hE (Zl hE rfl (lkb rfl hb11)) (by decide) rfl cb82 (VL _ p1 0 15 r12 e13) ?_
    rintro v w a ⟨rfl,hK⟩ hE
    have hM:=hM.keep hK
    refine Vf hE (Zl hE rfl (lkb rfl hb11)) (by decide) rfl fun a hE=>Z0 hE Za ld (lkb rfl hb11) rfl fun a hE=>Zh ?_
    have ht14:=Option.some.inj hl9
    subst ht14
    refine Zj ?_
    have hM:=M.fst (l:=[]) hM
    exact ⟨hE.sub ⟨rfl,rfl,trivial⟩,hM⟩
   ·have hl9:=Zv hl9 hb11
    refine Zp hE rfl (lkb rfl hb11) rfl (by decide) fun a hE=>Zp hE rfl (lkb rfl hb11) rfl (by decide) fun a hE=>Zp hE rfl (lkb rfl hb11) rfl (by decide) fun a hE=>Yb hE Za ld (lkb rfl hb11) rfl fun a hE=>Zh ?_
    have ht15:=Option.some.inj hl9
    subst ht15
    refine Zj ?_
    have hM:=M.fst (l:=[]) hM
    exact ⟨hE.sub ⟨rfl,rfl,trivial⟩,hM⟩
  ·skip
   rintro a w ⟨hE,hM⟩
   refine Zq hE rfl ?_ ?_
   ·intro hb16
    have hF10:=Zu hF10 hb16
    refine wp_region_lit (Ze hE Za ld rfl fun a hE=>Zh ?_)
    have ht17:=Option.some.inj hF10
    subst ht17
    refine Zj ?_
    exact ⟨hE.sub ⟨rfl,trivial⟩,hM⟩
   ·intro hb16
    have hF10:=Zv hF10 hb16
    refine wp_skip ?_
    have ht18:=Option.some.inj hF10
    subst ht18
    refine Zj ?_
    exact ⟨hE.sub ⟨rfl,trivial⟩,hM⟩
 ·skip
  rintro a w ⟨hE,hM⟩
  refine Zc (Zd hE Za ld rfl fun a hE=>Ze hE Za ld rfl fun a hE=>Zf ?_)
  have hr:=Option.some.inj hF7
  subst hr
  exact wp_ret (Zx hE rfl (Zs hE rfl) ⟨_,rfl,rfl,hM.kept⟩)
def X2 (p0 : (Vector UInt8 256)) (p2 : Int) (s10 : (Vector UInt8 16) × Int) : Option (Fl ((Vector UInt8 16) × Int) (Vector UInt8 16)) :=
 if (decide (s10.2 < 16)) = true then (((Zy s10.1 (Int.tmod (wr (s10.2 + 15)) 16)).bind fun x19=>(if (s10.2 == 0) = true then (some (x19 ^^^ (ZI p2))) else (some x19) : Option (UInt8)).bind fun j21=>(Zy s10.1 s10.2).bind fun x29=>(Zy p0 (bI j21)).bind fun x32=>(Zy s10.1 s10.2).bind fun x35=>some (s10.1.setIfInBounds (s10.2).toNat (x29 ^^^ x32)) : Option ((Vector UInt8 16))).bind fun j15=>some (Fl.nx (j15,wr (s10.2 + 1)))) else (some (Fl.ex s10.1))
def W5 (p0 : (Vector UInt8 256)) (p1 : (Vector UInt8 16)) (p2 : Int) : Option ((Vector UInt8 16)) :=
 (ZE (X2 p0 p2) (p1,0)).bind fun j7=>some j7
theorem KM (w0 : World) (p0 : (Vector UInt8 256)) (p1 : (Vector UInt8 16)) (p2 : Int) (r : (Vector UInt8 16)) (hF : W5 p0 p1 p2 = some r) :
  Calls Try.prog 150 [(Value.agg (enc p0).toArray),(Value.agg (enc p1).toArray),vI p2].toArray w0 (fun en w'=>∃ v,en = .returned v ∧ (v = (Value.agg (enc r).toArray) ∧ Kept (Old w0) w0 w')):=by
 refine ZB (n:=34) Try.func150 rfl rfl (nbl rfl) rfl ?_
 intro a hE
 have hM:=M.start w0
 unfold W5 at hF
 refine Zc (ZZ (cs:=enc p0) hE hM Za ld rfl rfl fun b1 w a hM hE=>ZZ (cs:=enc p1) hE hM Za ld rfl rfl fun b3 w a hM hE=>ZH hE hM Za ld ZK fun b5 w a hM hE=>Zf (wp_seq (Zc (Ze hE Za ld rfl fun a hE=>Zf ?_))))
 obtain ⟨j7,hl8,hF9⟩:=bind_some hF
 refine ZL (fun a w=>Env 34 a [(4,(ptr b3 0)),(6,(ptr b5 0))] ∧ M (Old w0) w0 w [raw b5 (enc (Vector.replicate 16 (0 : UInt8))),raw b3 (enc j7)]) ?_ ?_
 ·skip
  refine wp_block ?_
  refine ZF (fun (s10 : (Vector UInt8 16) × Int) a w=>Env 34 a [(2,vI p2),(3,(ptr b1 0)),(4,(ptr b3 0)),(6,(ptr b5 0)),(7,vI s10.2)] ∧ M (Old w0) w0 w [raw b5 (enc (Vector.replicate 16 (0 : UInt8))),raw b3 (enc s10.1),raw b1 (enc p0)]) hl8 ⟨hE.sub ⟨rfl,rfl,rfl,rfl,rfl,trivial⟩,hM⟩ ?_
  rintro s10 a w ⟨hE,hM⟩ o13 hs11 hx12
  unfold X2 at hs11
  refine wp_seq (Zc (Zd hE Za ld rfl fun a hE=>Zi hE Za ld rfl rfl rfl fun a hE=>Zf ?_))
  refine Zq hE rfl ?_ ?_
  ·intro hb14
   have hs11:=Zu hs11 hb14
   refine wp_skip (Zw ?_)
   obtain ⟨j15,hl16,hF17⟩:=bind_some hs11
   refine ZM (fun a w=>Env 34 a [(2,vI p2),(3,(ptr b1 0)),(4,(ptr b3 0)),(6,(ptr b5 0)),(7,vI s10.2)] ∧ M (Old w0) w0 w [raw b5 (enc (Vector.replicate 16 (0 : UInt8))),raw b3 (enc j15),raw b1 (enc p0)]) ?_ ?_
   ·skip
    refine wp_block (Zc (Zd hE Za ld rfl fun a hE=>Zi hE Za ld rfl rfl rfl fun a hE=>Zi hE Za ld rfl rfl (JX _ _ (by decide)) ?_)); intro a hE
    obtain ⟨x19,hi18,hl16⟩:=bvx hl16
    refine Zg hE Za ld rfl rfl Try.underlying55 ty5 hi18.1 fun a hE=>ZC (v:=(vB x19)) hE Za ld rfl ty5 rfl (At.vec (hM.rawAt (pre:=[_])) hi18.2) fun a hE=>Ze hE Za ld rfl fun a hE=>Zf ?_
    obtain ⟨j21,hl22,hF23⟩:=bind_some hl16
    refine ZM (fun a w=>Env 34 a [(2,vI p2),(3,(ptr b1 0)),(4,(ptr b3 0)),(6,(ptr b5 0)),(7,vI s10.2),(8,vB j21)] ∧ M (Old w0) w0 w [raw b5 (enc (Vector.replicate 16 (0 : UInt8))),raw b3 (enc s10.1),raw b1 (enc p0)]) ?_ ?_
    ·skip
     refine Zc (Zd hE Za ld rfl fun a hE=>Zi hE Za ld rfl rfl rfl fun a hE=>Zf ?_)
     refine Zq hE rfl ?_ ?_
     ·intro hb24
      have hl22:=Zu hl22 hb24
      refine wp_region_lit (Zd hE Za ld rfl fun a hE=>Zd hE Za ld rfl fun a hE=>Vc hE Za ld rfl Try.underlying2 Try.underlying5 ?_); intro a hE
      rw [Xs] at hE
      refine Zi hE Za ld rfl rfl (WJ x19 (ZI p2)) fun a hE=>Ze hE Za ld rfl fun a hE=>Zh ?_
      have ht25:=Option.some.inj hl22
      subst ht25
      refine Zj ?_
      exact ⟨hE.sub ⟨rfl,rfl,rfl,rfl,rfl,rfl,trivial⟩,hM⟩
     ·intro hb24
      have hl22:=Zv hl22 hb24
      refine wp_skip ?_
      have ht26:=Option.some.inj hl22
      subst ht26
      refine Zj ?_
      exact ⟨hE.sub ⟨rfl,rfl,rfl,rfl,rfl,rfl,trivial⟩,hM⟩
    ·skip
     rintro a w ⟨hE,hM⟩
     obtain ⟨x29,hi28,hF23⟩:=bvx hF23
     obtain ⟨x32,hi31,hF23⟩:=bvx hF23
     obtain ⟨x35,hi34,hF23⟩:=bvx hF23
     refine YZ (n:=34) (hd:=[_,_,_,_,_,_,_,_,_]) (tl:=[_]) Wl rfl rfl [24,25,26,27,28,29,30,31,32] (by decide) (fun w=>M (Old w0) w0 w [raw b5 (enc (Vector.replicate 16 (0 : UInt8))),raw b3 (enc s10.1),raw b1 (enc p0)]) (fun j=>([fun v _=>v = (vI s10.2),fun v _=>v = (vI s10.2),fun v _=>v = (ptr b3 (0 + (s10.2).toNat * 1)),fun v _=>v = (vB x29),fun v _=>v = (vB j21),fun v _=>v = (ptr b1 (0 + ((bI j21)).toNat * 1)),fun v _=>v = (vB x32),fun v _=>v = (vB (x29 ^^^ x32)),fun v _=>v = (ptr b3 (0 + (s10.2).toNat * 1))] : List (Value → World → Prop)).getD j (fun _ _=>True)) (fun _ _ h hk=>h.keep hk) (gup (Zk (Zk (Zk (Zk (Zk (Zk (Zk (Zk (Zk V3)))))))))) hE hM.drew (ZQ (Zb ?_ (Zb ?_ (Zb ?_ (Zb ?_ (Zb ?_ (Zb ?_ (Zb ?_ (Zb ?_ (Zb ?_ ZJ)))))))))) ?_
     ·exact fun a w ux27 hE hM hp=>Zd hE Za ld rfl fun a hE=>⟨Kept.refl _ _,_,_,rfl,hE,rfl⟩
     ·exact fun a w ux27 hE hM hp=>Zd hE Za ld rfl fun a hE=>⟨Kept.refl _ _,_,_,rfl,hE,rfl⟩
     ·intro a w ux27 hE hM hp
      have f1 : ux27 1 = (vI s10.2):=hp 0 _ rfl rfl
      exact Zg hE Za ld rfl (lk rfl f1) Try.underlying55 ty5 hi28.1 fun a hE=>⟨Kept.refl _ _,_,_,rfl,hE,rfl⟩
     ·intro a w ux27 hE hM hp
      have f2 : ux27 2 = (ptr b3 (0 + (s10.2).toNat * 1)):=hp 0 _ rfl rfl
      exact ZC (v:=(vB x29)) hE Za ld (lk rfl f2) ty5 rfl (At.vec (hM.rawAt (pre:=[_])) hi28.2) fun a hE=>⟨Kept.refl _ _,_,_,rfl,hE,rfl⟩
     ·exact fun a w ux27 hE hM hp=>Zd hE Za ld rfl fun a hE=>⟨Kept.refl _ _,_,_,rfl,hE,rfl⟩
     ·intro a w ux27 hE hM hp
      have f4 : ux27 4 = (vB j21):=hp 0 _ rfl rfl
      exact Zg hE Za ld rfl (lk rfl f4) Try.underlying49 ty5 hi31.1 fun a hE=>⟨Kept.refl _ _,_,_,rfl,hE,rfl⟩
     ·intro a w ux27 hE hM hp
      have f5 : ux27 5 = (ptr b1 (0 + ((bI j21)).toNat * 1)):=hp 0 _ rfl rfl
      exact ZC (v:=(vB x32)) hE Za ld (lk rfl f5) ty5 rfl (At.vec (hM.rawAt (pre:=[_,_])) hi31.2) fun a hE=>⟨Kept.refl _ _,_,_,rfl,hE,rfl⟩
     ·intro a w ux27 hE hM hp
      have f3 : ux27 3 = (vB x29):=hp 0 _ rfl rfl
      have f6 : ux27 6 = (vB x32):=hp 1 _ rfl rfl
      exact Zi hE Za ld (lk rfl f3) (lk rfl f6) (WJ x29 x32) fun a hE=>⟨Kept.refl _ _,_,_,rfl,hE,rfl⟩
     ·intro a w ux27 hE hM hp
      have f0 : ux27 0 = (vI s10.2):=hp 0 _ rfl rfl
      exact Zg hE Za ld rfl (lk rfl f0) Try.underlying55 ty5 hi34.1 fun a hE=>⟨Kept.refl _ _,_,_,rfl,hE,rfl⟩
     ·intro a w ux27 hE hM hg
      have hE:=hE.sub (e':=[(31,(vB (x29 ^^^ x32))),(32,(ptr b3 (0 + (s10.2).toNat * 1))),(2,vI p2),(3,(ptr b1 0)),(4,(ptr b3 0)),(6,(ptr b5 0)),(7,vI s10.2),(8,vB j21)]) ⟨lk rfl (hg 7 (by decide)),lk rfl (hg 8 (by decide)),rfl,rfl,rfl,rfl,rfl,rfl,trivial⟩
      have hM:=hM.pull (pre:=[_])
      refine Zo (seg:=[(vB (x29 ^^^ x32))]) (cs':=enc (s10.1.setIfInBounds (s10.2).toNat (x29 ^^^ x32))) hE hM Za rfl rfl rfl ty5 rfl (ZG (v:=s10.1) (x:=x29 ^^^ x32) hi34.1) (Flat.cell (x29 ^^^ x32 : UInt8)) (Zz (v:=s10.1) (x:=x29 ^^^ x32) hi34.1) fun w a hM hE=>Zh (Z9 ?_)
      have ht37:=Option.some.inj hF23
      subst ht37
      refine Zj ?_
      have hM:=((hM.pull (pre:=[_,_])).pull (pre:=[_])).pull (pre:=[_,_])
      exact ⟨hE.sub ⟨rfl,rfl,rfl,rfl,rfl,trivial⟩,hM⟩
   ·skip
    rintro a w ⟨hE,hM⟩
    refine wp_region_lit (Zd hE Za ld rfl fun a hE=>Zi hE Za ld rfl rfl rfl fun a hE=>Ze hE Za ld rfl fun a hE=>Zh (Zj ?_))
    exact ⟨_,(ois hF17),hE.sub ⟨rfl,rfl,rfl,rfl,rfl,trivial⟩,hM⟩
  ·intro hb14
   have hs11:=Zv hs11 hb14
   refine wp_exit (Zm (Zm (Yf ?_)))
   have ht38:=hx12 _ (ois hs11)
   subst ht38
   refine Zj ?_
   have hM:=M.fst (l:=[_,_]) ((hM.pull (pre:=[_])).pull (pre:=[_]))
   exact ⟨hE.sub ⟨rfl,rfl,trivial⟩,hM⟩
 ·skip
  rintro a w ⟨hE,hM⟩
  refine Zw (Zc (Zn (cs:=enc j7) hE Za ld rfl ZK rfl (hM.rawAt (pre:=[_])) (Flat.len _) fun a hE=>Zo (seg:=enc j7) (cs':=enc j7) hE hM Za rfl rfl rfl ZK (Flat.len _) (zle flq) (Flat.cell _) (Zr flq) fun w a hM hE=>Zf ?_))
  have hr:=Option.some.inj hF9
  subst hr
  have hq39 : Xp Try.prog _ _ (.cell 6 55) _:=Ya hE rfl ZK rfl (hM.rawAt (pre:=[])) (Flat.len _) rfl
  have hM:=M.fst (l:=[]) hM
  exact wp_ret (Zx hE rfl hq39 ⟨_,rfl,rfl,hM.kept⟩)
def X4 (p0 : GCipher) (p2 : Int) (s12 : (Vector UInt8 16) × (List (Vector UInt8 16)) × Int) : Option (Fl ((Vector UInt8 16) × (List (Vector UInt8 16)) × Int) (List (Vector UInt8 16))) :=
 if (decide (s12.2.2 ≤ p2)) = true then ((W5 p0.Box s12.1 s12.2.2).bind fun r19=>(app 16 s12.2.1 ([r19] : List (Vector UInt8 16))).bind fun l23=>some (Fl.nx (r19,(s12.2.1 ++ ([r19] : List (Vector UInt8 16))),wr (s12.2.2 + 1)))) else (some (Fl.ex s12.2.1))
def Vj (p0 : GCipher) (p1 : (Vector UInt8 16)) (p2 : Int) : Option ((List (Vector UInt8 16))) :=
 (ZE (X4 p0 p2) (p1,([p1] : List (Vector UInt8 16)),1)).bind fun j7=>some j7
theorem KP (w0 : World) (p0 : GCipher) (p1 : (Vector UInt8 16)) (p2 : Int) (r : (List (Vector UInt8 16))) (hF : Vj p0 p1 p2 = some r) :
  Calls Try.prog 116 [(Value.agg (enc p0).toArray),(Value.agg (enc p1).toArray),vI p2].toArray w0 (fun en w'=>∃ v,en = .returned v ∧ (∃ (y1 : Value),v = y1 ∧ Fr w0 w' [osl NoB (r : List (Vector UInt8 16)) y1] ∧ Kept (Old w0) w0 w')):=by
 refine ZB (n:=26) Try.func116 rfl rfl (nbl rfl) rfl ?_
 intro a hE
 have hM:=M.start w0
 unfold Vj at hF
 refine Zc (ZZ (cs:=cat [[vI p0.Field],enc p0.Box,enc p0.Mix,enc p0.Places,[vI p0.Rounds]]) hE hM Za ld rfl rfl fun b1 w a hM hE=>ZZ (cs:=enc p1) hE hM Za ld rfl rfl fun b3 w a hM hE=>Ze hE Za ld rfl fun a hE=>Zf (Zc (Zn (cs:=enc p1) hE Za ld rfl ZK rfl (hM.rawAt (pre:=[])) (Flat.len _) fun a hE=>WG (xs:=[.tmp 9]) (l:=([p1] : List (Vector UInt8 16))) (vs:=[(Value.agg (enc p1).toArray)]) hE hM Za ld rfl rfl Try.underlying69 ZK rfl (by decide) rfl fun u5 w a hM hE=>Ze hE Za ld rfl fun a hE=>Zf (wp_seq (Zc (Ze hE Za ld rfl fun a hE=>Zf ?_))))))
 obtain ⟨j7,hl8,hF9⟩:=bind_some hF
 refine ZL (fun a w=>∃ (u10 : Value),Env 26 a [(7,u10)] ∧ M (Old w0) w0 w [osl NoB (j7 : List (Vector UInt8 16)) u10]) ?_ ?_
 ·skip
  refine wp_block ?_
  have hM:=(hM.pull (pre:=[_,_])).pull (pre:=[_,_])
  refine ZF (fun (s12 : (Vector UInt8 16) × (List (Vector UInt8 16)) × Int) a w=>∃ (u13 : Value),Env 26 a [(2,vI p2),(3,(ptr b1 0)),(4,(ptr b3 0)),(7,u13),(8,vI s12.2.2)] ∧ M (Old w0) w0 w [raw b3 (enc s12.1),raw b1 (cat [[vI p0.Field],enc p0.Box,enc p0.Mix,enc p0.Places,[vI p0.Rounds]]),osl NoB (s12.2.1 : List (Vector UInt8 16)) u13]) hl8 ⟨u5,hE.sub ⟨rfl,rfl,rfl,rfl,rfl,trivial⟩,hM⟩ ?_
  rintro s12 a w ⟨u13,hE,hM⟩ o17 hs15 hx16
  unfold X4 at hs15
  refine wp_seq (Zc (Zd hE Za ld rfl fun a hE=>Zd hE Za ld rfl fun a hE=>Zi hE Za ld rfl rfl rfl fun a hE=>Zf ?_))
  refine Zq hE rfl ?_ ?_
  ·intro hb18
   have hs15:=Zu hs15 hb18
   refine wp_skip (Zw (wp_seq (wp_block (Zc (ZA hE Za ld rfl (Tz) fun a hE=>Zn (cs:=enc p0.Box) hE Za ld rfl Vq rfl (At.cat (pre:=[[vI p0.Field]]) (hM.rawAt (pre:=[_])) (cl1 (n:=1) (m:=0) rfl cl0)) (Flat.len _) fun a hE=>Zn (cs:=enc s12.1) hE Za ld rfl ZK rfl (hM.rawAt (pre:=[])) (Flat.len _) fun a hE=>Zd hE Za ld rfl ?_))))); intro a hE
   obtain ⟨r19,e20,hs15⟩:=bind_some hs15
   refine Zt hE Za ld rfl cb150 (KM _ p0.Box s12.1 s12.2.2 r19 e20) ?_
   rintro v w a ⟨rfl,hK⟩ hE
   have hM:=hM.keep hK
   refine Zo (seg:=enc r19) (cs':=enc r19) hE hM Za rfl rfl rfl ZK (Flat.len _) (zle flq) (Flat.cell _) (Zr flq) fun w a hM hE=>Zf (wp_region_lit (Zd hE Za ld rfl fun a hE=>Zn (cs:=enc r19) hE Za ld rfl ZK rfl (hM.rawAt (pre:=[])) (Flat.len _) fun a hE=>WG (xs:=[.tmp 22]) (l:=([r19] : List (Vector UInt8 16))) (vs:=[(Value.agg (enc r19).toArray)]) hE hM Za ld rfl rfl Try.underlying69 ZK rfl (by decide) rfl ?_)); intro u21 w a hM hE
   obtain ⟨l23,e24,hs15⟩:=bind_some hs15
   obtain ⟨e27,rfl⟩:=UV e24
   have hM:=hM.pull (pre:=[_,_,_])
   refine Uv hE hM Za ld rfl rfl (hM.sl (pre:=[_]) noB) Try.underlying69 ZK rfl (by decide) e27 fun u25 w a hM hE=>Ze hE Za ld rfl fun a hE=>Zh (Z9 (Zw (wp_region_lit (Zd hE Za ld rfl fun a hE=>Zi hE Za ld rfl rfl rfl fun a hE=>Ze hE Za ld rfl fun a hE=>Zh (Zj ?_)))))
   have hM:=M.fst (l:=[_,_,_]) ((hM.pull (pre:=[_,_,_])).pull (pre:=[_,_,_]))
   exact ⟨_,(ois hs15),u25,hE.sub ⟨rfl,rfl,rfl,rfl,rfl,trivial⟩,hM⟩
  ·intro hb18
   have hs15:=Zv hs15 hb18
   refine wp_exit (Zm (Zm (Yf ?_)))
   have ht28:=hx16 _ (ois hs15)
   subst ht28
   refine Zj ?_
   have hM:=M.fst (l:=[_]) (hM.pull (pre:=[_,_]))
   exact ⟨u13,hE.sub ⟨rfl,trivial⟩,hM⟩
 ·skip
  rintro a w ⟨u10,hE,hM⟩
  refine Zw (Zc (Zd hE Za ld rfl fun a hE=>Ze hE Za ld rfl fun a hE=>Zf ?_))
  have hr:=Option.some.inj hF9
  subst hr
  exact wp_ret (Zx hE rfl (Zs hE rfl) ⟨_,rfl,u10,rfl,hM.outF (Tn UM),hM.kept⟩)
def WK (p1 : (Vector UInt8 16)) (s10 : (Vector UInt8 16) × Int) : Option (Fl ((Vector UInt8 16) × Int) (Vector UInt8 16)) :=
 if (decide (s10.2 < 16)) = true then ((Zy s10.1 s10.2).bind fun x17=>(Zy p1 s10.2).bind fun x20=>(Zy s10.1 s10.2).bind fun x23=>some (Fl.nx ((s10.1.setIfInBounds (s10.2).toNat (x17 ^^^ x20)),wr (s10.2 + 1)))) else (some (Fl.ex s10.1))
def WY (p0 : (Vector UInt8 16)) (p1 : (Vector UInt8 16)) : Option ((Vector UInt8 16)) :=
 (ZE (WK p1) (p0,0)).bind fun j7=>some j7
theorem TT (w0 : World) (p0 : (Vector UInt8 16)) (p1 : (Vector UInt8 16)) (r : (Vector UInt8 16)) (hF : WY p0 p1 = some r) :
  Calls Try.prog 118 [(Value.agg (enc p0).toArray),(Value.agg (enc p1).toArray)].toArray w0 (fun en w'=>∃ v,en = .returned v ∧ (v = (Value.agg (enc r).toArray) ∧ Kept (Old w0) w0 w')):=by
 refine ZB (n:=20) Try.func118 rfl rfl (nbl rfl) rfl ?_
 intro a hE
 have hM:=M.start w0
 unfold WY at hF
 refine Zc (ZZ (cs:=enc p0) hE hM Za ld rfl rfl fun b1 w a hM hE=>ZZ (cs:=enc p1) hE hM Za ld rfl rfl fun b3 w a hM hE=>ZH hE hM Za ld ZK fun b5 w a hM hE=>Zf (wp_seq (Zc (Ze hE Za ld rfl fun a hE=>Zf ?_))))
 obtain ⟨j7,hl8,hF9⟩:=bind_some hF
 refine ZL (fun a w=>Env 20 a [(2,(ptr b1 0)),(4,(ptr b5 0))] ∧ M (Old w0) w0 w [raw b5 (enc (Vector.replicate 16 (0 : UInt8))),raw b1 (enc j7)]) ?_ ?_
 ·skip
  refine wp_block ?_
  refine ZF (fun (s10 : (Vector UInt8 16) × Int) a w=>Env 20 a [(2,(ptr b1 0)),(3,(ptr b3 0)),(4,(ptr b5 0)),(5,vI s10.2)] ∧ M (Old w0) w0 w [raw b5 (enc (Vector.replicate 16 (0 : UInt8))),raw b3 (enc p1),raw b1 (enc s10.1)]) hl8 ⟨hE.sub ⟨rfl,rfl,rfl,rfl,trivial⟩,hM⟩ ?_
  rintro s10 a w ⟨hE,hM⟩ o13 hs11 hx12
  unfold WK at hs11
  refine wp_seq (Zc (Zd hE Za ld rfl fun a hE=>Zi hE Za ld rfl rfl rfl fun a hE=>Zf ?_))
  refine Zq hE rfl ?_ ?_
  ·intro hb14
   have hs11:=Zu hs11 hb14
   refine wp_skip (Zw (wp_seq (wp_block ?_)))
   obtain ⟨x17,hi16,hs11⟩:=bvx hs11
   obtain ⟨x20,hi19,hs11⟩:=bvx hs11
   obtain ⟨x23,hi22,hs11⟩:=bvx hs11
   refine YZ (n:=20) (hd:=[_,_,_,_,_,_,_,_,_]) (tl:=[_]) Wl rfl rfl [10,11,12,13,14,15,16,17,18] (by decide) (fun w=>M (Old w0) w0 w [raw b5 (enc (Vector.replicate 16 (0 : UInt8))),raw b3 (enc p1),raw b1 (enc s10.1)]) (fun j=>([fun v _=>v = (vI s10.2),fun v _=>v = (vI s10.2),fun v _=>v = (ptr b1 (0 + (s10.2).toNat * 1)),fun v _=>v = (vB x17),fun v _=>v = (vI s10.2),fun v _=>v = (ptr b3 (0 + (s10.2).toNat * 1)),fun v _=>v = (vB x20),fun v _=>v = (vB (x17 ^^^ x20)),fun v _=>v = (ptr b1 (0 + (s10.2).toNat * 1))] : List (Value → World → Prop)).getD j (fun _ _=>True)) (fun _ _ h hk=>h.keep hk) (gup (Zk (Zk (Zk (Zk (Zk (Zk (Zk (Zk (Zk V3)))))))))) hE hM.drew (ZQ (Zb ?_ (Zb ?_ (Zb ?_ (Zb ?_ (Zb ?_ (Zb ?_ (Zb ?_ (Zb ?_ (Zb ?_ ZJ)))))))))) ?_
   ·exact fun a w ux15 hE hM hp=>Zd hE Za ld rfl fun a hE=>⟨Kept.refl _ _,_,_,rfl,hE,rfl⟩
   ·exact fun a w ux15 hE hM hp=>Zd hE Za ld rfl fun a hE=>⟨Kept.refl _ _,_,_,rfl,hE,rfl⟩
   ·intro a w ux15 hE hM hp
    have f1 : ux15 1 = (vI s10.2):=hp 0 _ rfl rfl
    exact Zg hE Za ld rfl (lk rfl f1) Try.underlying55 ty5 hi16.1 fun a hE=>⟨Kept.refl _ _,_,_,rfl,hE,rfl⟩
   ·intro a w ux15 hE hM hp
    have f2 : ux15 2 = (ptr b1 (0 + (s10.2).toNat * 1)):=hp 0 _ rfl rfl
    exact ZC (v:=(vB x17)) hE Za ld (lk rfl f2) ty5 rfl (At.vec (hM.rawAt (pre:=[_,_])) hi16.2) fun a hE=>⟨Kept.refl _ _,_,_,rfl,hE,rfl⟩
   ·exact fun a w ux15 hE hM hp=>Zd hE Za ld rfl fun a hE=>⟨Kept.refl _ _,_,_,rfl,hE,rfl⟩
   ·intro a w ux15 hE hM hp
    have f4 : ux15 4 = (vI s10.2):=hp 0 _ rfl rfl
    exact Zg hE Za ld rfl (lk rfl f4) Try.underlying55 ty5 hi19.1 fun a hE=>⟨Kept.refl _ _,_,_,rfl,hE,rfl⟩
   ·intro a w ux15 hE hM hp
    have f5 : ux15 5 = (ptr b3 (0 + (s10.2).toNat * 1)):=hp 0 _ rfl rfl
    exact ZC (v:=(vB x20)) hE Za ld (lk rfl f5) ty5 rfl (At.vec (hM.rawAt (pre:=[_])) hi19.2) fun a hE=>⟨Kept.refl _ _,_,_,rfl,hE,rfl⟩
   ·intro a w ux15 hE hM hp
    have f3 : ux15 3 = (vB x17):=hp 0 _ rfl rfl
    have f6 : ux15 6 = (vB x20):=hp 1 _ rfl rfl
    exact Zi hE Za ld (lk rfl f3) (lk rfl f6) (WJ x17 x20) fun a hE=>⟨Kept.refl _ _,_,_,rfl,hE,rfl⟩
   ·intro a w ux15 hE hM hp
    have f0 : ux15 0 = (vI s10.2):=hp 0 _ rfl rfl
    exact Zg hE Za ld rfl (lk rfl f0) Try.underlying55 ty5 hi22.1 fun a hE=>⟨Kept.refl _ _,_,_,rfl,hE,rfl⟩
   ·intro a w ux15 hE hM hg
    have hE:=hE.sub (e':=[(17,(vB (x17 ^^^ x20))),(18,(ptr b1 (0 + (s10.2).toNat * 1))),(2,(ptr b1 0)),(3,(ptr b3 0)),(4,(ptr b5 0)),(5,vI s10.2),(6,vI s10.2),(7,(vT (decide (s10.2 < 16))))]) ⟨lk rfl (hg 7 (by decide)),lk rfl (hg 8 (by decide)),rfl,rfl,rfl,rfl,rfl,rfl,trivial⟩
    have hM:=hM.pull (pre:=[_,_])
    refine Zo (seg:=[(vB (x17 ^^^ x20))]) (cs':=enc (s10.1.setIfInBounds (s10.2).toNat (x17 ^^^ x20))) hE hM Za rfl rfl rfl ty5 rfl (ZG (v:=s10.1) (x:=x17 ^^^ x20) hi22.1) (Flat.cell (x17 ^^^ x20 : UInt8)) (Zz (v:=s10.1) (x:=x17 ^^^ x20) hi22.1) fun w a hM hE=>Zh (Z9 (Zw (wp_region_lit (Zd hE Za ld rfl fun a hE=>Zi hE Za ld rfl rfl rfl fun a hE=>Ze hE Za ld rfl fun a hE=>Zh (Zj ?_)))))
    have hM:=(hM.pull (pre:=[_,_])).pull (pre:=[_,_])
    exact ⟨_,(ois hs11),hE.sub ⟨rfl,rfl,rfl,rfl,trivial⟩,hM⟩
  ·intro hb14
   have hs11:=Zv hs11 hb14
   refine wp_exit (Zm (Zm (Yf ?_)))
   have ht25:=hx12 _ (ois hs11)
   subst ht25
   refine Zj ?_
   have hM:=M.fst (l:=[_,_]) ((hM.pull (pre:=[_,_])).pull (pre:=[_]))
   exact ⟨hE.sub ⟨rfl,rfl,trivial⟩,hM⟩
 ·skip
  rintro a w ⟨hE,hM⟩
  refine Zw (Zc (Zn (cs:=enc j7) hE Za ld rfl ZK rfl (hM.rawAt (pre:=[_])) (Flat.len _) fun a hE=>Zo (seg:=enc j7) (cs':=enc j7) hE hM Za rfl rfl rfl ZK (Flat.len _) (zle flq) (Flat.cell _) (Zr flq) fun w a hM hE=>Zf ?_))
  have hr:=Option.some.inj hF9
  subst hr
  have hq26 : Xp Try.prog _ _ (.cell 4 55) _:=Ya hE rfl ZK rfl (hM.rawAt (pre:=[])) (Flat.len _) rfl
  have hM:=M.fst (l:=[]) hM
  exact wp_ret (Zx hE rfl hq26 ⟨_,rfl,rfl,hM.kept⟩)
def XK (p0 : (Vector UInt8 256)) (s10 : (Vector UInt8 16) × Int) : Option (Fl ((Vector UInt8 16) × Int) (Vector UInt8 16)) :=
 if (decide (s10.2 < 16)) = true then ((Zy s10.1 s10.2).bind fun x16=>(Zy p0 (bI x16)).bind fun x19=>(Zy s10.1 s10.2).bind fun x22=>some (Fl.nx ((s10.1.setIfInBounds (s10.2).toNat x19),wr (s10.2 + 1)))) else (some (Fl.ex s10.1))
def WT (p0 : (Vector UInt8 256)) (p1 : (Vector UInt8 16)) : Option ((Vector UInt8 16)) :=
 (ZE (XK p0) (p1,0)).bind fun j7=>some j7
theorem Kj (w0 : World) (p0 : (Vector UInt8 256)) (p1 : (Vector UInt8 16)) (r : (Vector UInt8 16)) (hF : WT p0 p1 = some r) :
  Calls Try.prog 120 [(Value.agg (enc p0).toArray),(Value.agg (enc p1).toArray)].toArray w0 (fun en w'=>∃ v,en = .returned v ∧ (v = (Value.agg (enc r).toArray) ∧ Kept (Old w0) w0 w')):=by
 refine ZB (n:=18) Try.func120 rfl rfl (nbl rfl) rfl ?_
 intro a hE
 have hM:=M.start w0
 unfold WT at hF
 refine Zc (ZZ (cs:=enc p0) hE hM Za ld rfl rfl fun b1 w a hM hE=>ZZ (cs:=enc p1) hE hM Za ld rfl rfl fun b3 w a hM hE=>ZH hE hM Za ld ZK fun b5 w a hM hE=>Zf (wp_seq (Zc (Ze hE Za ld rfl fun a hE=>Zf ?_))))
 obtain ⟨j7,hl8,hF9⟩:=bind_some hF
 refine ZL (fun a w=>Env 18 a [(3,(ptr b3 0)),(4,(ptr b5 0))] ∧ M (Old w0) w0 w [raw b5 (enc (Vector.replicate 16 (0 : UInt8))),raw b3 (enc j7)]) ?_ ?_
 ·skip
  refine wp_block ?_
  refine ZF (fun (s10 : (Vector UInt8 16) × Int) a w=>Env 18 a [(2,(ptr b1 0)),(3,(ptr b3 0)),(4,(ptr b5 0)),(5,vI s10.2)] ∧ M (Old w0) w0 w [raw b5 (enc (Vector.replicate 16 (0 : UInt8))),raw b3 (enc s10.1),raw b1 (enc p0)]) hl8 ⟨hE.sub ⟨rfl,rfl,rfl,rfl,trivial⟩,hM⟩ ?_
  rintro s10 a w ⟨hE,hM⟩ o13 hs11 hx12
  unfold XK at hs11
  refine wp_seq (Zc (Zd hE Za ld rfl fun a hE=>Zi hE Za ld rfl rfl rfl fun a hE=>Zf ?_))
  refine Zq hE rfl ?_ ?_
  ·intro hb14
   have hs11:=Zu hs11 hb14
   refine wp_skip (Zw (wp_seq (wp_block (wp_region_lit (Zd hE Za ld rfl fun a hE=>Zd hE Za ld rfl ?_))))); intro a hE
   obtain ⟨x16,hi15,hs11⟩:=bvx hs11
   refine Zg hE Za ld rfl rfl Try.underlying55 ty5 hi15.1 fun a hE=>ZC (v:=(vB x16)) hE Za ld rfl ty5 rfl (At.vec (hM.rawAt (pre:=[_])) hi15.2) ?_; intro a hE
   obtain ⟨x19,hi18,hs11⟩:=bvx hs11
   refine Zg hE Za ld rfl rfl Try.underlying49 ty5 hi18.1 fun a hE=>ZC (v:=(vB x19)) hE Za ld rfl ty5 rfl (At.vec (hM.rawAt (pre:=[_,_])) hi18.2) ?_; intro a hE
   obtain ⟨x22,hi21,hs11⟩:=bvx hs11
   refine Zg hE Za ld rfl rfl Try.underlying55 ty5 hi21.1 ?_; intro a hE
   have hM:=hM.pull (pre:=[_])
   refine Zo (seg:=[vB x19]) (cs':=enc (s10.1.setIfInBounds (s10.2).toNat x19)) hE hM Za rfl rfl rfl ty5 rfl (ZG (v:=s10.1) (x:=x19) hi21.1) (Flat.cell (x19 : UInt8)) (Zz (v:=s10.1) (x:=x19) hi21.1) fun w a hM hE=>Zh (Z9 (Zw (wp_region_lit (Zd hE Za ld rfl fun a hE=>Zi hE Za ld rfl rfl rfl fun a hE=>Ze hE Za ld rfl fun a hE=>Zh (Zj ?_)))))
   have hM:=((hM.pull (pre:=[_,_])).pull (pre:=[_])).pull (pre:=[_,_])
   exact ⟨_,(ois hs11),hE.sub ⟨rfl,rfl,rfl,rfl,trivial⟩,hM⟩
  ·intro hb14
   have hs11:=Zv hs11 hb14
   refine wp_exit (Zm (Zm (Yf ?_)))
   have ht24:=hx12 _ (ois hs11)
   subst ht24
   refine Zj ?_
   have hM:=M.fst (l:=[_,_]) ((hM.pull (pre:=[_])).pull (pre:=[_]))
   exact ⟨hE.sub ⟨rfl,rfl,trivial⟩,hM⟩
 ·skip
  rintro a w ⟨hE,hM⟩
  refine Zw (Zc (Zn (cs:=enc j7) hE Za ld rfl ZK rfl (hM.rawAt (pre:=[_])) (Flat.len _) fun a hE=>Zo (seg:=enc j7) (cs':=enc j7) hE hM Za rfl rfl rfl ZK (Flat.len _) (zle flq) (Flat.cell _) (Zr flq) fun w a hM hE=>Zf ?_))
  have hr:=Option.some.inj hF9
  subst hr
  have hq25 : Xp Try.prog _ _ (.cell 4 55) _:=Ya hE rfl ZK rfl (hM.rawAt (pre:=[])) (Flat.len _) rfl
  have hM:=M.fst (l:=[]) hM
  exact wp_ret (Zx hE rfl hq25 ⟨_,rfl,rfl,hM.kept⟩)
def X0 (p0 : (Vector UInt8 16)) (p1 : (Vector UInt8 16)) (s12 : (Vector UInt8 16) × Int) : Option (Fl ((Vector UInt8 16) × Int) (Vector UInt8 16)) :=
 if (decide (s12.2 < 16)) = true then ((Zy p0 s12.2).bind fun x18=>(Zy p1 (bI x18)).bind fun x21=>(Zy s12.1 s12.2).bind fun x24=>some (Fl.nx ((s12.1.setIfInBounds (s12.2).toNat x21),wr (s12.2 + 1)))) else (some (Fl.ex s12.1))
def Vk (p0 : (Vector UInt8 16)) (p1 : (Vector UInt8 16)) : Option ((Vector UInt8 16)) :=
 (ZE (X0 p0 p1) ((Vector.replicate 16 (0 : UInt8)),0)).bind fun j9=>some j9
theorem KE (w0 : World) (p0 : (Vector UInt8 16)) (p1 : (Vector UInt8 16)) (r : (Vector UInt8 16)) (hF : Vk p0 p1 = some r) :
  Calls Try.prog 122 [(Value.agg (enc p0).toArray),(Value.agg (enc p1).toArray)].toArray w0 (fun en w'=>∃ v,en = .returned v ∧ (v = (Value.agg (enc r).toArray) ∧ Kept (Old w0) w0 w')):=by
 refine ZB (n:=20) Try.func122 rfl rfl (nbl rfl) rfl ?_
 intro a hE
 have hM:=M.start w0
 unfold Vk at hF
 refine Zc (ZZ (cs:=enc p0) hE hM Za ld rfl rfl fun b1 w a hM hE=>ZZ (cs:=enc p1) hE hM Za ld rfl rfl fun b3 w a hM hE=>ZH hE hM Za ld ZK fun b5 w a hM hE=>Zf (Zc (XV (parts:=[]) (vs:=[]) (cs:=enc (Vector.replicate 16 (0 : UInt8))) hE Za ld rfl rfl ZK rfl ty5 Y7 fun a hE=>ZH hE hM Za ld ZK fun b7 w a hM hE=>Zo (seg:=enc (Vector.replicate 16 (0 : UInt8))) (cs':=enc (Vector.replicate 16 (0 : UInt8))) hE hM Za rfl rfl rfl ZK (Flat.len _) (zle flq) (Flat.cell _) (Zr flq) fun w a hM hE=>Zf (wp_seq (Zc (Ze hE Za ld rfl fun a hE=>Zf ?_))))))
 obtain ⟨j9,hl10,hF11⟩:=bind_some hF
 refine ZL (fun a w=>Env 20 a [(4,(ptr b5 0)),(5,(ptr b7 0))] ∧ M (Old w0) w0 w [raw b7 (enc j9),raw b5 (enc (Vector.replicate 16 (0 : UInt8)))]) ?_ ?_
 ·skip
  refine wp_block ?_
  refine ZF (fun (s12 : (Vector UInt8 16) × Int) a w=>Env 20 a [(2,(ptr b1 0)),(3,(ptr b3 0)),(4,(ptr b5 0)),(5,(ptr b7 0)),(6,vI s12.2)] ∧ M (Old w0) w0 w [raw b7 (enc s12.1),raw b5 (enc (Vector.replicate 16 (0 : UInt8))),raw b3 (enc p1),raw b1 (enc p0)]) hl10 ⟨hE.sub ⟨rfl,rfl,rfl,rfl,rfl,trivial⟩,hM⟩ ?_
  rintro s12 a w ⟨hE,hM⟩ o15 hs13 hx14
  unfold X0 at hs13
  refine wp_seq (Zc (Zd hE Za ld rfl fun a hE=>Zi hE Za ld rfl rfl rfl fun a hE=>Zf ?_))
  refine Zq hE rfl ?_ ?_
  ·intro hb16
   have hs13:=Zu hs13 hb16
   refine wp_skip (Zw (wp_seq (wp_block (wp_region_lit (Zd hE Za ld rfl fun a hE=>Zd hE Za ld rfl ?_))))); intro a hE
   obtain ⟨x18,hi17,hs13⟩:=bvx hs13
   refine Zg hE Za ld rfl rfl Try.underlying51 ty5 hi17.1 fun a hE=>ZC (v:=(vB x18)) hE Za ld rfl ty5 rfl (At.vec (hM.rawAt (pre:=[_,_,_])) hi17.2) ?_; intro a hE
   obtain ⟨x21,hi20,hs13⟩:=bvx hs13
   refine Zg hE Za ld rfl rfl Try.underlying55 ty5 hi20.1 fun a hE=>ZC (v:=(vB x21)) hE Za ld rfl ty5 rfl (At.vec (hM.rawAt (pre:=[_,_])) hi20.2) ?_; intro a hE
   obtain ⟨x24,hi23,hs13⟩:=bvx hs13
   refine Zg hE Za ld rfl rfl Try.underlying55 ty5 hi23.1 fun a hE=>Zo (seg:=[vB x21]) (cs':=enc (s12.1.setIfInBounds (s12.2).toNat x21)) hE hM Za rfl rfl rfl ty5 rfl (ZG (v:=s12.1) (x:=x21) hi23.1) (Flat.cell (x21 : UInt8)) (Zz (v:=s12.1) (x:=x21) hi23.1) fun w a hM hE=>Zh (Z9 (Zw (wp_region_lit (Zd hE Za ld rfl fun a hE=>Zi hE Za ld rfl rfl rfl fun a hE=>Ze hE Za ld rfl fun a hE=>Zh (Zj ?_)))))
   exact ⟨_,(ois hs13),hE.sub ⟨rfl,rfl,rfl,rfl,rfl,trivial⟩,hM⟩
  ·intro hb16
   have hs13:=Zv hs13 hb16
   refine wp_exit (Zm (Zm (Yf ?_)))
   have ht26:=hx14 _ (ois hs13)
   subst ht26
   refine Zj ?_
   have hM:=M.fst (l:=[_,_]) ((hM.pull (pre:=[_])).pull (pre:=[_]))
   exact ⟨hE.sub ⟨rfl,rfl,trivial⟩,hM⟩
 ·skip
  rintro a w ⟨hE,hM⟩
  refine Zw (Zc (Zn (cs:=enc j9) hE Za ld rfl ZK rfl (hM.rawAt (pre:=[])) (Flat.len _) ?_)); intro a hE
  have hM:=hM.pull (pre:=[_])
  refine Zo (seg:=enc j9) (cs':=enc j9) hE hM Za rfl rfl rfl ZK (Flat.len _) (zle flq) (Flat.cell _) (Zr flq) fun w a hM hE=>Zf ?_
  have hr:=Option.some.inj hF11
  subst hr
  have hq27 : Xp Try.prog _ _ (.cell 4 55) _:=Ya hE rfl ZK rfl (hM.rawAt (pre:=[])) (Flat.len _) rfl
  have hM:=M.fst (l:=[]) hM
  exact wp_ret (Zx hE rfl hq27 ⟨_,rfl,rfl,hM.kept⟩)
def Xg (p0 : Int) (p1 : (Vector (Vector UInt8 4) 4)) (p2 : (Vector UInt8 16)) (s12 : (Vector UInt8 16) × Int) (s20 : (Vector UInt8 16) × Int) (s28 : (Vector UInt8 16) × Int) : Option (Fl ((Vector UInt8 16) × Int) (Vector UInt8 16)) :=
 if (decide (s28.2 < 4)) = true then ((Zy s28.1 (wr ((wr (4 * s12.2)) + s20.2))).bind fun x35=>(Zy p1 s20.2).bind fun x38=>(Zy x38 s28.2).bind fun x41=>(Zy p2 (wr ((wr (4 * s12.2)) + s28.2))).bind fun x44=>(Z8 p0 x41 x44).bind fun r46=>(Zy s28.1 (wr ((wr (4 * s12.2)) + s20.2))).bind fun x49=>some (Fl.nx ((s28.1.setIfInBounds ((wr ((wr (4 * s12.2)) + s20.2))).toNat (x35 ^^^ r46)),wr (s28.2 + 1)))) else (some (Fl.ex s28.1))
def WA (p0 : Int) (p1 : (Vector (Vector UInt8 4) 4)) (p2 : (Vector UInt8 16)) (s12 : (Vector UInt8 16) × Int) (s20 : (Vector UInt8 16) × Int) : Option (Fl ((Vector UInt8 16) × Int) (Vector UInt8 16)) :=
 if (decide (s20.2 < 4)) = true then ((ZE (Xg p0 p1 p2 s12 s20) (s20.1,0)).bind fun j25=>some (Fl.nx (j25,wr (s20.2 + 1)))) else (some (Fl.ex s20.1))
def Ww (p0 : Int) (p1 : (Vector (Vector UInt8 4) 4)) (p2 : (Vector UInt8 16)) (s12 : (Vector UInt8 16) × Int) : Option (Fl ((Vector UInt8 16) × Int) (Vector UInt8 16)) :=
 if (decide (s12.2 < 4)) = true then ((ZE (WA p0 p1 p2 s12) (s12.1,0)).bind fun j17=>some (Fl.nx (j17,wr (s12.2 + 1)))) else (some (Fl.ex s12.1))
def Vx (p0 : Int) (p1 : (Vector (Vector UInt8 4) 4)) (p2 : (Vector UInt8 16)) : Option ((Vector UInt8 16)) :=
 (ZE (Ww p0 p1 p2) ((Vector.replicate 16 (0 : UInt8)),0)).bind fun j9=>some j9
theorem Je (w0 : World) (p0 : Int) (p1 : (Vector (Vector UInt8 4) 4)) (p2 : (Vector UInt8 16)) (r : (Vector UInt8 16)) (hF : Vx p0 p1 p2 = some r) :
  Calls Try.prog 119 [vI p0,(Value.agg (enc p1).toArray),(Value.agg (enc p2).toArray)].toArray w0 (fun en w'=>∃ v,en = .returned v ∧ (v = (Value.agg (enc r).toArray) ∧ Kept (Old w0) w0 w')):=by
 refine ZB (n:=50) Try.func119 rfl rfl (nbl rfl) rfl ?_
 intro a hE
 have hM:=M.start w0
 unfold Vx at hF
 refine Zc (ZZ (cs:=enc p1) hE hM Za ld rfl rfl fun b1 w a hM hE=>ZZ (cs:=enc p2) hE hM Za ld rfl rfl fun b3 w a hM hE=>ZH hE hM Za ld ZK fun b5 w a hM hE=>Zf (Zc (XV (parts:=[]) (vs:=[]) (cs:=enc (Vector.replicate 16 (0 : UInt8))) hE Za ld rfl rfl ZK rfl ty5 Y7 fun a hE=>ZH hE hM Za ld ZK fun b7 w a hM hE=>Zo (seg:=enc (Vector.replicate 16 (0 : UInt8))) (cs':=enc (Vector.replicate 16 (0 : UInt8))) hE hM Za rfl rfl rfl ZK (Flat.len _) (zle flq) (Flat.cell _) (Zr flq) fun w a hM hE=>Zf (wp_seq (Zc (Ze hE Za ld rfl fun a hE=>Zf ?_))))))
 obtain ⟨j9,hl10,hF11⟩:=bind_some hF
 refine ZL (fun a w=>Env 50 a [(6,(ptr b5 0)),(7,(ptr b7 0))] ∧ M (Old w0) w0 w [raw b7 (enc j9),raw b5 (enc (Vector.replicate 16 (0 : UInt8)))]) ?_ ?_
 ·skip
  refine wp_block ?_
  refine ZF (fun (s12 : (Vector UInt8 16) × Int) a w=>Env 50 a [(0,vI p0),(4,(ptr b1 0)),(5,(ptr b3 0)),(6,(ptr b5 0)),(7,(ptr b7 0)),(8,vI s12.2)] ∧ M (Old w0) w0 w [raw b7 (enc s12.1),raw b5 (enc (Vector.replicate 16 (0 : UInt8))),raw b3 (enc p2),raw b1 (enc p1)]) hl10 ⟨hE.sub ⟨rfl,rfl,rfl,rfl,rfl,rfl,trivial⟩,hM⟩ ?_
  rintro s12 a w ⟨hE,hM⟩ o15 hs13 hx14
  unfold Ww at hs13
  refine wp_seq (Zc (Zd hE Za ld rfl fun a hE=>Zi hE Za ld rfl rfl rfl fun a hE=>Zf ?_))
  refine Zq hE rfl ?_ ?_
  ·intro hb16
   have hs13:=Zu hs13 hb16
   refine wp_skip (Zw (wp_seq (wp_block (Zc (Ze hE Za ld rfl fun a hE=>Zf ?_)))))
   obtain ⟨j17,hl18,hF19⟩:=bind_some hs13
   refine ZL (fun a w=>Env 50 a [(0,vI p0),(4,(ptr b1 0)),(5,(ptr b3 0)),(6,(ptr b5 0)),(7,(ptr b7 0)),(8,vI s12.2)] ∧ M (Old w0) w0 w [raw b7 (enc j17),raw b5 (enc (Vector.replicate 16 (0 : UInt8))),raw b3 (enc p2),raw b1 (enc p1)]) ?_ ?_
   ·skip
    refine wp_block ?_
    refine ZF (fun (s20 : (Vector UInt8 16) × Int) a w=>Env 50 a [(0,vI p0),(4,(ptr b1 0)),(5,(ptr b3 0)),(6,(ptr b5 0)),(7,(ptr b7 0)),(8,vI s12.2),(9,vI s20.2)] ∧ M (Old w0) w0 w [raw b7 (enc s20.1),raw b5 (enc (Vector.replicate 16 (0 : UInt8))),raw b3 (enc p2),raw b1 (enc p1)]) hl18 ⟨hE.sub ⟨rfl,rfl,rfl,rfl,rfl,rfl,rfl,trivial⟩,hM⟩ ?_
    rintro s20 a w ⟨hE,hM⟩ o23 hs21 hx22
    unfold WA at hs21
    refine wp_seq (Zc (Zd hE Za ld rfl fun a hE=>Zi hE Za ld rfl rfl rfl fun a hE=>Zf ?_))
    refine Zq hE rfl ?_ ?_
    ·intro hb24
     have hs21:=Zu hs21 hb24
     refine wp_skip (Zw (wp_seq (wp_block (Zc (Ze hE Za ld rfl fun a hE=>Zf ?_)))))
     obtain ⟨j25,hl26,hF27⟩:=bind_some hs21
     refine ZL (fun a w=>Env 50 a [(0,vI p0),(4,(ptr b1 0)),(5,(ptr b3 0)),(6,(ptr b5 0)),(7,(ptr b7 0)),(8,vI s12.2),(9,vI s20.2)] ∧ M (Old w0) w0 w [raw b7 (enc j25),raw b5 (enc (Vector.replicate 16 (0 : UInt8))),raw b3 (enc p2),raw b1 (enc p1)]) ?_ ?_
     ·skip
      refine wp_block ?_
      refine ZF (fun (s28 : (Vector UInt8 16) × Int) a w=>Env 50 a [(0,vI p0),(4,(ptr b1 0)),(5,(ptr b3 0)),(6,(ptr b5 0)),(7,(ptr b7 0)),(8,vI s12.2),(9,vI s20.2),(10,vI s28.2)] ∧ M (Old w0) w0 w [raw b7 (enc s28.1),raw b5 (enc (Vector.replicate 16 (0 : UInt8))),raw b3 (enc p2),raw b1 (enc p1)]) hl26 ⟨hE.sub ⟨rfl,rfl,rfl,rfl,rfl,rfl,rfl,rfl,trivial⟩,hM⟩ ?_
      rintro s28 a w ⟨hE,hM⟩ o31 hs29 hx30
      unfold Xg at hs29
      refine wp_seq (Zc (Zd hE Za ld rfl fun a hE=>Zi hE Za ld rfl rfl rfl fun a hE=>Zf ?_))
      refine Zq hE rfl ?_ ?_
      ·intro hb32
       have hs29:=Zu hs29 hb32
       refine wp_skip (Zw (wp_seq (wp_block ?_)))
       obtain ⟨x35,hi34,hs29⟩:=bvx hs29
       obtain ⟨x38,hi37,hs29⟩:=bvx hs29
       obtain ⟨x41,hi40,hs29⟩:=bvx hs29
       obtain ⟨x44,hi43,hs29⟩:=bvx hs29
       obtain ⟨r46,e47,hs29⟩:=bind_some hs29
       obtain ⟨x49,hi48,hs29⟩:=bvx hs29
       refine YZ (n:=50) (hd:=[_,_,_,_,_,_,_,_,_,_,_,_,_,_,_,_,_,_,_,_,_,_,_,_,_]) (tl:=[_]) Wl rfl rfl [24,25,26,27,28,29,30,31,32,33,34,35,36,37,38,39,40,41,42,43,44,45,46,47,48] (by decide) (fun w=>M (Old w0) w0 w [raw b7 (enc s28.1),raw b5 (enc (Vector.replicate 16 (0 : UInt8))),raw b3 (enc p2),raw b1 (enc p1)]) (fun j=>([fun v _=>v = (vI s12.2),fun v _=>v = (vI (wr (4 * s12.2))),fun v _=>v = (vI s20.2),fun v _=>v = (vI (wr ((wr (4 * s12.2)) + s20.2))),fun v _=>v = (vI s12.2),fun v _=>v = (vI (wr (4 * s12.2))),fun v _=>v = (vI s20.2),fun v _=>v = (vI (wr ((wr (4 * s12.2)) + s20.2))),fun v _=>v = (ptr b7 (0 + ((wr ((wr (4 * s12.2)) + s20.2))).toNat * 1)),fun v _=>v = (vB x35),fun v _=>v = (vI p0),fun v _=>v = (vI s20.2),fun v _=>v = (vI s28.2),fun v _=>v = (ptr b1 (0 + (s20.2).toNat * 4)),fun v _=>v = (ptr b1 (0 + (s20.2).toNat * 4 + (s28.2).toNat * 1)),fun v _=>v = (vB x41),fun v _=>v = (vI s12.2),fun v _=>v = (vI (wr (4 * s12.2))),fun v _=>v = (vI s28.2),fun v _=>v = (vI (wr ((wr (4 * s12.2)) + s28.2))),fun v _=>v = (ptr b3 (0 + ((wr ((wr (4 * s12.2)) + s28.2))).toNat * 1)),fun v _=>v = (vB x44),fun v _=>v = (vB r46),fun v _=>v = (vB (x35 ^^^ r46)),fun v _=>v = (ptr b7 (0 + ((wr ((wr (4 * s12.2)) + s20.2))).toNat * 1))] : List (Value → World → Prop)).getD j (fun _ _=>True)) (fun _ _ h hk=>h.keep hk) (gup (Zk (Zk (Zk (Zk (Zk (Zk (Zk (Zk (Zk (Zk (Zk (Zk (Zk (Zk (Zk (Zk (Zk (Zk (Zk (Zk (Zk (Zk (Zk (Zk (Zk V3)))))))))))))))))))))))))) hE hM.drew (ZQ (Zb ?_ (Zb ?_ (Zb ?_ (Zb ?_ (Zb ?_ (Zb ?_ (Zb ?_ (Zb ?_ (Zb ?_ (Zb ?_ (Zb ?_ (Zb ?_ (Zb ?_ (Zb ?_ (Zb ?_ (Zb ?_ (Zb ?_ (Zb ?_ (Zb ?_ (Zb ?_ (Zb ?_ (Zb ?_ (Zb ?_ (Zb ?_ (Zb ?_ ZJ)))))))))))))))))))))))))) ?_
       ·exact fun a w ux33 hE hM hp=>Zd hE Za ld rfl fun a hE=>⟨Kept.refl _ _,_,_,rfl,hE,rfl⟩
       ·intro a w ux33 hE hM hp
        have f0 : ux33 0 = (vI s12.2):=hp 0 _ rfl rfl
        exact Zi hE Za ld rfl (lk rfl f0) rfl fun a hE=>⟨Kept.refl _ _,_,_,rfl,hE,rfl⟩
       ·exact fun a w ux33 hE hM hp=>Zd hE Za ld rfl fun a hE=>⟨Kept.refl _ _,_,_,rfl,hE,rfl⟩
       ·intro a w ux33 hE hM hp
        have f1 : ux33 1 = (vI (wr (4 * s12.2))):=hp 0 _ rfl rfl
        have f2 : ux33 2 = (vI s20.2):=hp 1 _ rfl rfl
        exact Zi hE Za ld (lk rfl f1) (lk rfl f2) rfl fun a hE=>⟨Kept.refl _ _,_,_,rfl,hE,rfl⟩
       ·exact fun a w ux33 hE hM hp=>Zd hE Za ld rfl fun a hE=>⟨Kept.refl _ _,_,_,rfl,hE,rfl⟩
       ·intro a w ux33 hE hM hp
        have f4 : ux33 4 = (vI s12.2):=hp 0 _ rfl rfl
        exact Zi hE Za ld rfl (lk rfl f4) rfl fun a hE=>⟨Kept.refl _ _,_,_,rfl,hE,rfl⟩
       ·exact fun a w ux33 hE hM hp=>Zd hE Za ld rfl fun a hE=>⟨Kept.refl _ _,_,_,rfl,hE,rfl⟩
       ·intro a w ux33 hE hM hp
        have f5 : ux33 5 = (vI (wr (4 * s12.2))):=hp 0 _ rfl rfl
        have f6 : ux33 6 = (vI s20.2):=hp 1 _ rfl rfl
        exact Zi hE Za ld (lk rfl f5) (lk rfl f6) rfl fun a hE=>⟨Kept.refl _ _,_,_,rfl,hE,rfl⟩
       ·intro a w ux33 hE hM hp
        have f7 : ux33 7 = (vI (wr ((wr (4 * s12.2)) + s20.2))):=hp 0 _ rfl rfl
        exact Zg hE Za ld rfl (lk rfl f7) Try.underlying55 ty5 hi34.1 fun a hE=>⟨Kept.refl _ _,_,_,rfl,hE,rfl⟩
       ·intro a w ux33 hE hM hp
        have f8 : ux33 8 = (ptr b7 (0 + ((wr ((wr (4 * s12.2)) + s20.2))).toNat * 1)):=hp 0 _ rfl rfl
        exact ZC (v:=(vB x35)) hE Za ld (lk rfl f8) ty5 rfl (At.vec (hM.rawAt (pre:=[])) hi34.2) fun a hE=>⟨Kept.refl _ _,_,_,rfl,hE,rfl⟩
       ·exact fun a w ux33 hE hM hp=>Zd hE Za ld rfl fun a hE=>⟨Kept.refl _ _,_,_,rfl,hE,rfl⟩
       ·exact fun a w ux33 hE hM hp=>Zd hE Za ld rfl fun a hE=>⟨Kept.refl _ _,_,_,rfl,hE,rfl⟩
       ·exact fun a w ux33 hE hM hp=>Zd hE Za ld rfl fun a hE=>⟨Kept.refl _ _,_,_,rfl,hE,rfl⟩
       ·intro a w ux33 hE hM hp
        have f11 : ux33 11 = (vI s20.2):=hp 0 _ rfl rfl
        exact Zg hE Za ld rfl (lk rfl f11) Try.underlying50 Z7 hi37.1 fun a hE=>⟨Kept.refl _ _,_,_,rfl,hE,rfl⟩
       ·intro a w ux33 hE hM hp
        have f12 : ux33 12 = (vI s28.2):=hp 1 _ rfl rfl
        have f13 : ux33 13 = (ptr b1 (0 + (s20.2).toNat * 4)):=hp 0 _ rfl rfl
        exact Zg hE Za ld (lk rfl f13) (lk rfl f12) Try.underlying42 ty5 hi40.1 fun a hE=>⟨Kept.refl _ _,_,_,rfl,hE,rfl⟩
       ·intro a w ux33 hE hM hp
        have f14 : ux33 14 = (ptr b1 (0 + (s20.2).toNat * 4 + (s28.2).toNat * 1)):=hp 0 _ rfl rfl
        exact ZC (v:=(vB x41)) hE Za ld (lk rfl f14) ty5 rfl (At.vec (At.vec (hM.rawAt (pre:=[_,_,_])) hi37.2) hi40.2) fun a hE=>⟨Kept.refl _ _,_,_,rfl,hE,rfl⟩
       ·exact fun a w ux33 hE hM hp=>Zd hE Za ld rfl fun a hE=>⟨Kept.refl _ _,_,_,rfl,hE,rfl⟩
       ·intro a w ux33 hE hM hp
        have f16 : ux33 16 = (vI s12.2):=hp 0 _ rfl rfl
        exact Zi hE Za ld rfl (lk rfl f16) rfl fun a hE=>⟨Kept.refl _ _,_,_,rfl,hE,rfl⟩
       ·exact fun a w ux33 hE hM hp=>Zd hE Za ld rfl fun a hE=>⟨Kept.refl _ _,_,_,rfl,hE,rfl⟩
       ·intro a w ux33 hE hM hp
        have f17 : ux33 17 = (vI (wr (4 * s12.2))):=hp 0 _ rfl rfl
        have f18 : ux33 18 = (vI s28.2):=hp 1 _ rfl rfl
        exact Zi hE Za ld (lk rfl f17) (lk rfl f18) rfl fun a hE=>⟨Kept.refl _ _,_,_,rfl,hE,rfl⟩
       ·intro a w ux33 hE hM hp
        have f19 : ux33 19 = (vI (wr ((wr (4 * s12.2)) + s28.2))):=hp 0 _ rfl rfl
        exact Zg hE Za ld rfl (lk rfl f19) Try.underlying55 ty5 hi43.1 fun a hE=>⟨Kept.refl _ _,_,_,rfl,hE,rfl⟩
       ·intro a w ux33 hE hM hp
        have f20 : ux33 20 = (ptr b3 (0 + ((wr ((wr (4 * s12.2)) + s28.2))).toNat * 1)):=hp 0 _ rfl rfl
        exact ZC (v:=(vB x44)) hE Za ld (lk rfl f20) ty5 rfl (At.vec (hM.rawAt (pre:=[_,_])) hi43.2) fun a hE=>⟨Kept.refl _ _,_,_,rfl,hE,rfl⟩
       ·intro a w ux33 hE hM hp
        have f10 : ux33 10 = (vI p0):=hp 0 _ rfl rfl
        have f15 : ux33 15 = (vB x41):=hp 1 _ rfl rfl
        have f21 : ux33 21 = (vB x44):=hp 2 _ rfl rfl
        refine Zt hE Za ld (Yl (Z1 (lk rfl f10) (Z1 (lk rfl f15) (Z1 (lk rfl f21) W3)))) Q7 (YV _ p0 x41 x44 r46 e47) ?_
        rintro v w a ⟨rfl,hK⟩ hE
        exact ⟨hK,_,_,rfl,hE,rfl⟩
       ·intro a w ux33 hE hM hp
        have f9 : ux33 9 = (vB x35):=hp 0 _ rfl rfl
        have f22 : ux33 22 = (vB r46):=hp 1 _ rfl rfl
        exact Zi hE Za ld (lk rfl f9) (lk rfl f22) (WJ x35 r46) fun a hE=>⟨Kept.refl _ _,_,_,rfl,hE,rfl⟩
       ·intro a w ux33 hE hM hp
        have f3 : ux33 3 = (vI (wr ((wr (4 * s12.2)) + s20.2))):=hp 0 _ rfl rfl
        exact Zg hE Za ld rfl (lk rfl f3) Try.underlying55 ty5 hi48.1 fun a hE=>⟨Kept.refl _ _,_,_,rfl,hE,rfl⟩
       ·intro a w ux33 hE hM hg
        have hE:=hE.sub (e':=[(47,(vB (x35 ^^^ r46))),(48,(ptr b7 (0 + ((wr ((wr (4 * s12.2)) + s20.2))).toNat * 1))),(0,vI p0),(4,(ptr b1 0)),(5,(ptr b3 0)),(6,(ptr b5 0)),(7,(ptr b7 0)),(8,vI s12.2),(9,vI s20.2),(10,vI s28.2),(20,vI s28.2),(21,(vT (decide (s28.2 < 4))))]) ⟨lk rfl (hg 23 (by decide)),lk rfl (hg 24 (by decide)),rfl,rfl,rfl,rfl,rfl,rfl,rfl,rfl,rfl,rfl,trivial⟩
        refine Zo (seg:=[(vB (x35 ^^^ r46))]) (cs':=enc (s28.1.setIfInBounds ((wr ((wr (4 * s12.2)) + s20.2))).toNat (x35 ^^^ r46))) hE hM Za rfl rfl rfl ty5 rfl (ZG (v:=s28.1) (x:=x35 ^^^ r46) hi48.1) (Flat.cell (x35 ^^^ r46 : UInt8)) (Zz (v:=s28.1) (x:=x35 ^^^ r46) hi48.1) fun w a hM hE=>Zh (Z9 (Zw (wp_region_lit (Zd hE Za ld rfl fun a hE=>Zi hE Za ld rfl rfl rfl fun a hE=>Ze hE Za ld rfl fun a hE=>Zh (Zj ?_)))))
        exact ⟨_,(ois hs29),hE.sub ⟨rfl,rfl,rfl,rfl,rfl,rfl,rfl,rfl,trivial⟩,hM⟩
      ·intro hb32
       have hs29:=Zv hs29 hb32
       refine wp_exit (Zm (Zm (Yf ?_)))
       have ht51:=hx30 _ (ois hs29)
       subst ht51
       refine Zj ?_
       exact ⟨hE.sub ⟨rfl,rfl,rfl,rfl,rfl,rfl,rfl,trivial⟩,hM⟩
     ·skip
      rintro a w ⟨hE,hM⟩
      refine Z9 (Zw (wp_region_lit (Zd hE Za ld rfl fun a hE=>Zi hE Za ld rfl rfl rfl fun a hE=>Ze hE Za ld rfl fun a hE=>Zh (Zj ?_))))
      exact ⟨_,(ois hF27),hE.sub ⟨rfl,rfl,rfl,rfl,rfl,rfl,rfl,trivial⟩,hM⟩
    ·intro hb24
     have hs21:=Zv hs21 hb24
     refine wp_exit (Zm (Zm (Yf ?_)))
     have ht52:=hx22 _ (ois hs21)
     subst ht52
     refine Zj ?_
     exact ⟨hE.sub ⟨rfl,rfl,rfl,rfl,rfl,rfl,trivial⟩,hM⟩
   ·skip
    rintro a w ⟨hE,hM⟩
    refine Z9 (Zw (wp_region_lit (Zd hE Za ld rfl fun a hE=>Zi hE Za ld rfl rfl rfl fun a hE=>Ze hE Za ld rfl fun a hE=>Zh (Zj ?_))))
    exact ⟨_,(ois hF19),hE.sub ⟨rfl,rfl,rfl,rfl,rfl,rfl,trivial⟩,hM⟩
  ·intro hb16
   have hs13:=Zv hs13 hb16
   refine wp_exit (Zm (Zm (Yf ?_)))
   have ht53:=hx14 _ (ois hs13)
   subst ht53
   refine Zj ?_
   have hM:=M.fst (l:=[_,_]) ((hM.pull (pre:=[_])).pull (pre:=[_]))
   exact ⟨hE.sub ⟨rfl,rfl,trivial⟩,hM⟩
 ·skip
  rintro a w ⟨hE,hM⟩
  refine Zw (Zc (Zn (cs:=enc j9) hE Za ld rfl ZK rfl (hM.rawAt (pre:=[])) (Flat.len _) ?_)); intro a hE
  have hM:=hM.pull (pre:=[_])
  refine Zo (seg:=enc j9) (cs':=enc j9) hE hM Za rfl rfl rfl ZK (Flat.len _) (zle flq) (Flat.cell _) (Zr flq) fun w a hM hE=>Zf ?_
  have hr:=Option.some.inj hF11
  subst hr
  have hq54 : Xp Try.prog _ _ (.cell 6 55) _:=Ya hE rfl ZK rfl (hM.rawAt (pre:=[])) (Flat.len _) rfl
  have hM:=M.fst (l:=[]) hM
  exact wp_ret (Zx hE rfl hq54 ⟨_,rfl,rfl,hM.kept⟩)
def YT (p0 : GCipher) (p3 : Int) (r9 : (List (Vector UInt8 16))) (s25 : (Vector UInt8 16) × Int) : Option (Fl ((Vector UInt8 16) × Int) (Vector UInt8 16)) :=
 if (decide (s25.2 ≤ p3)) = true then ((((WT p0.Box s25.1).bind fun r37=>(Vk p0.Places r37).bind fun r39=>some r39 : Option ((Vector UInt8 16))).bind fun j33=>(if (decide (s25.2 < p3)) = true then ((Vx p0.Field p0.Mix j33).bind fun r46=>some r46) else (some j33) : Option ((Vector UInt8 16))).bind fun j42=>(idx r9 s25.2).bind fun x51=>(WY j42 x51).bind fun r54=>some r54 : Option ((Vector UInt8 16))).bind fun j30=>some (Fl.nx (j30,wr (s25.2 + 1)))) else (some (Fl.ex s25.1))
def XP (p0 : GCipher) (p1 : (Vector UInt8 16)) (p2 : (Vector UInt8 16)) (p3 : Int) : Option ((Vector UInt8 16)) :=
 (Vj p0 p1 p3).bind fun r9=>((idx r9 (0 : Int)).bind fun x16=>(WY p2 x16).bind fun r19=>some r19 : Option ((Vector UInt8 16))).bind fun j12=>(ZE (YT p0 p3 r9) (j12,1)).bind fun j22=>some j22
theorem T0 (w0 : World) (p0 : GCipher) (p1 : (Vector UInt8 16)) (p2 : (Vector UInt8 16)) (p3 : Int) (r : (Vector UInt8 16)) (hF : XP p0 p1 p2 p3 = some r) :
  Calls Try.prog 73 [(Value.agg (enc p0).toArray),(Value.agg (enc p1).toArray),(Value.agg (enc p2).toArray),vI p3].toArray w0 (fun en w'=>∃ v,en = .returned v ∧ (v = (Value.agg (enc r).toArray) ∧ Kept (Old w0) w0 w')):=by
 refine ZB (n:=48) Try.func73 rfl rfl (nbl rfl) rfl ?_
 intro a hE
 have hM:=M.start w0
 unfold XP at hF
 refine Zc (ZZ (cs:=cat [[vI p0.Field],enc p0.Box,enc p0.Mix,enc p0.Places,[vI p0.Rounds]]) hE hM Za ld rfl rfl fun b1 w a hM hE=>ZZ (cs:=enc p1) hE hM Za ld rfl rfl fun b3 w a hM hE=>ZZ (cs:=enc p2) hE hM Za ld rfl rfl fun b5 w a hM hE=>ZH hE hM Za ld ZK fun b7 w a hM hE=>Zf (Zc (Zn (cs:=enc p0) hE Za ld rfl Uz rfl (hM.rawAt (pre:=[_,_,_])) (YF (cl1 (n:=1) (m:=289) rfl (cl1 (n:=256) (m:=33) (Flat.len _) (cl1 (n:=16) (m:=17) (Flat.len _) (cl1 (n:=16) (m:=1) (Flat.len _) (cl1 (n:=1) (m:=0) rfl cl0)))))) fun a hE=>Zn (cs:=enc p1) hE Za ld rfl ZK rfl (hM.rawAt (pre:=[_,_])) (Flat.len _) fun a hE=>Zd hE Za ld rfl ?_))); intro a hE
 obtain ⟨r9,e10,hF⟩:=bind_some hF
 refine Zt hE Za ld rfl cb116 (KP _ p0 p1 p3 r9 e10) ?_
 rintro u11 w a ⟨_,rfl,hFr,hK⟩ hE
 have hM:=hM.add hK hFr
 refine Ze hE Za ld rfl fun a hE=>Zf ?_
 obtain ⟨j12,hl13,hF14⟩:=bind_some hF
 refine ZM (fun a w=>Env 48 a [(3,vI p3),(4,(ptr b1 0)),(6,(ptr b5 0)),(8,(ptr b7 0)),(9,u11)] ∧ M (Old w0) w0 w [osl NoB (r9 : List (Vector UInt8 16)) u11,raw b7 (enc (Vector.replicate 16 (0 : UInt8))),raw b5 (enc j12),raw b1 (cat [[vI p0.Field],enc p0.Box,enc p0.Mix,enc p0.Places,[vI p0.Rounds]])]) ?_ ?_
 ·skip
  obtain ⟨x16,hi18,hl13⟩:=bix hl13
  obtain ⟨r19,e20,hl13⟩:=bind_some hl13
  refine YZ (n:=48) (hd:=[_,_,_,_,_]) (tl:=[_]) Wl rfl rfl [15,16,17,18,19] (by decide) (fun w=>M (Old w0) w0 w [osl NoB (r9 : List (Vector UInt8 16)) u11,raw b7 (enc (Vector.replicate 16 (0 : UInt8))),raw b5 (enc p2),raw b3 (enc p1),raw b1 (cat [[vI p0.Field],enc p0.Box,enc p0.Mix,enc p0.Places,[vI p0.Rounds]])]) (fun j=>([fun v _=>v = (Value.agg (enc p2).toArray),fun v _=>v = u11,fun v _=>v = (ptr (sb u11) (so u11 + ((0 : Int)).toNat * 16)),fun v _=>v = (Value.agg (enc x16).toArray),fun v _=>v = (Value.agg (enc r19).toArray)] : List (Value → World → Prop)).getD j (fun _ _=>True)) (fun _ _ h hk=>h.keep hk) (gup (Zk (Zk (Zk (Zk (Zk V3)))))) hE hM.drew (ZQ (Zb ?_ (Zb ?_ (Zb ?_ (Zb ?_ (Zb ?_ ZJ)))))) ?_
  ·exact fun a w ux15 hE hM hp=>Zn (cs:=enc p2) hE Za ld rfl ZK rfl (hM.rawAt (pre:=[_,_])) (Flat.len _) fun a hE=>⟨Kept.refl _ _,_,_,rfl,hE,rfl⟩
  ·exact fun a w ux15 hE hM hp=>Zd hE Za ld rfl fun a hE=>⟨Kept.refl _ _,_,_,rfl,hE,rfl⟩
  ·intro a w ux15 hE hM hp
   have f1 : ux15 1 = u11:=hp 0 _ rfl rfl
   exact Yk hE Za ld (lk rfl f1) rfl Try.underlying69 ZK (hM.sl (pre:=[]) noB) hi18.1 fun a hE=>⟨Kept.refl _ _,_,_,rfl,hE,rfl⟩
  ·intro a w ux15 hE hM hp
   have f2 : ux15 2 = (ptr (sb u11) (so u11 + ((0 : Int)).toNat * 16)):=hp 0 _ rfl rfl
   exact Zn (cs:=enc x16) hE Za ld (lk rfl f2) ZK rfl (WD (hM.sl (pre:=[]) noB) hi18.2) (Flat.len _) fun a hE=>⟨Kept.refl _ _,_,_,rfl,hE,rfl⟩
  ·intro a w ux15 hE hM hp
   have f0 : ux15 0 = (Value.agg (enc p2).toArray):=hp 0 _ rfl rfl
   have f3 : ux15 3 = (Value.agg (enc x16).toArray):=hp 1 _ rfl rfl
   refine Zt hE Za ld (Yl (Z1 (lk rfl f0) (Z1 (lk rfl f3) W3))) cb118 (TT _ p2 x16 r19 e20) ?_
   rintro v w a ⟨rfl,hK⟩ hE
   exact ⟨hK,_,_,rfl,hE,rfl⟩
  ·intro a w ux15 hE hM hg
   have hE:=hE.sub (e':=[(19,(Value.agg (enc r19).toArray)),(3,vI p3),(4,(ptr b1 0)),(6,(ptr b5 0)),(8,(ptr b7 0)),(9,u11)]) ⟨lk rfl (hg 4 (by decide)),rfl,rfl,rfl,rfl,rfl,trivial⟩
   have hM:=hM.pull (pre:=[_,_])
   refine Zo (seg:=enc r19) (cs':=enc r19) hE hM Za rfl rfl rfl ZK (Flat.len _) (zle flq) (Flat.cell _) (Zr flq) fun w a hM hE=>Zh ?_
   have ht21:=Option.some.inj hl13
   subst ht21
   refine Zj ?_
   have hM:=M.fst (l:=[_,_,_,_]) ((((hM.pull (pre:=[_,_,_,_])).pull (pre:=[_])).pull (pre:=[_,_,_])).pull (pre:=[_,_,_]))
   exact ⟨hE.sub ⟨rfl,rfl,rfl,rfl,rfl,trivial⟩,hM⟩
 ·skip
  rintro a w ⟨hE,hM⟩
  refine wp_seq (Zc (Ze hE Za ld rfl fun a hE=>Zf ?_))
  obtain ⟨j22,hl23,hF24⟩:=bind_some hF14
  refine ZL (fun a w=>Env 48 a [(6,(ptr b5 0)),(8,(ptr b7 0))] ∧ M (Old w0) w0 w [raw b7 (enc (Vector.replicate 16 (0 : UInt8))),raw b5 (enc j22)]) ?_ ?_
  ·skip
   refine wp_block ?_
   refine ZF (fun (s25 : (Vector UInt8 16) × Int) a w=>Env 48 a [(3,vI p3),(4,(ptr b1 0)),(6,(ptr b5 0)),(8,(ptr b7 0)),(9,u11),(10,vI s25.2)] ∧ M (Old w0) w0 w [osl NoB (r9 : List (Vector UInt8 16)) u11,raw b7 (enc (Vector.replicate 16 (0 : UInt8))),raw b5 (enc s25.1),raw b1 (cat [[vI p0.Field],enc p0.Box,enc p0.Mix,enc p0.Places,[vI p0.Rounds]])]) hl23 ⟨hE.sub ⟨rfl,rfl,rfl,rfl,rfl,rfl,trivial⟩,hM⟩ ?_
   rintro s25 a w ⟨hE,hM⟩ o28 hs26 hx27
   unfold YT at hs26
   refine wp_seq (Zc (Zd hE Za ld rfl fun a hE=>Zd hE Za ld rfl fun a hE=>Zi hE Za ld rfl rfl rfl fun a hE=>Zf ?_))
   refine Zq hE rfl ?_ ?_
   ·intro hb29
    have hs26:=Zu hs26 hb29
    refine wp_skip (Zw ?_)
    obtain ⟨j30,hl31,hF32⟩:=bind_some hs26
    refine ZM (fun a w=>Env 48 a [(3,vI p3),(4,(ptr b1 0)),(6,(ptr b5 0)),(8,(ptr b7 0)),(9,u11),(10,vI s25.2)] ∧ M (Old w0) w0 w [osl NoB (r9 : List (Vector UInt8 16)) u11,raw b7 (enc (Vector.replicate 16 (0 : UInt8))),raw b5 (enc j30),raw b1 (cat [[vI p0.Field],enc p0.Box,enc p0.Mix,enc p0.Places,[vI p0.Rounds]])]) ?_ ?_
    ·skip
     refine wp_block ?_
     obtain ⟨j33,hl34,hF35⟩:=bind_some hl31
     refine ZM (fun a w=>Env 48 a [(3,vI p3),(4,(ptr b1 0)),(6,(ptr b5 0)),(8,(ptr b7 0)),(9,u11),(10,vI s25.2)] ∧ M (Old w0) w0 w [osl NoB (r9 : List (Vector UInt8 16)) u11,raw b7 (enc (Vector.replicate 16 (0 : UInt8))),raw b5 (enc j33),raw b1 (cat [[vI p0.Field],enc p0.Box,enc p0.Mix,enc p0.Places,[vI p0.Rounds]])]) ?_ ?_
     ·skip
      obtain ⟨r37,e38,hl34⟩:=bind_some hl34
      obtain ⟨r39,e40,hl34⟩:=bind_some hl34
      refine YZ (n:=48) (hd:=[_,_,_,_,_,_,_]) (tl:=[_]) Wl rfl rfl [25,26,27,28,29,30,31] (by decide) (fun w=>M (Old w0) w0 w [osl NoB (r9 : List (Vector UInt8 16)) u11,raw b7 (enc (Vector.replicate 16 (0 : UInt8))),raw b5 (enc s25.1),raw b1 (cat [[vI p0.Field],enc p0.Box,enc p0.Mix,enc p0.Places,[vI p0.Rounds]])]) (fun j=>([fun v _=>v = (ptr b1 (0 + 273)),fun v _=>v = (Value.agg (enc p0.Places).toArray),fun v _=>v = (ptr b1 (0 + 1)),fun v _=>v = (Value.agg (enc p0.Box).toArray),fun v _=>v = (Value.agg (enc s25.1).toArray),fun v _=>v = (Value.agg (enc r37).toArray),fun v _=>v = (Value.agg (enc r39).toArray)] : List (Value → World → Prop)).getD j (fun _ _=>True)) (fun _ _ h hk=>h.keep hk) (gup (Zk (Zk (Zk (Zk (Zk (Zk (Zk V3)))))))) hE hM.drew (ZQ (Zb ?_ (Zb ?_ (Zb ?_ (Zb ?_ (Zb ?_ (Zb ?_ (Zb ?_ ZJ)))))))) ?_
      ·exact fun a w ux36 hE hM hp=>ZA hE Za ld rfl (QC) fun a hE=>⟨Kept.refl _ _,_,_,rfl,hE,rfl⟩
      ·intro a w ux36 hE hM hp
       have f0 : ux36 0 = (ptr b1 (0 + 273)):=hp 0 _ rfl rfl
       exact Zn (cs:=enc p0.Places) hE Za ld (lk rfl f0) Ul rfl (At.cat (pre:=[[vI p0.Field],enc p0.Box,enc p0.Mix]) (hM.rawAt (pre:=[_,_,_])) (cl1 (n:=1) (m:=272) rfl (cl1 (n:=256) (m:=16) (Flat.len _) (cl1 (n:=16) (m:=0) (Flat.len _) cl0)))) (Flat.len _) fun a hE=>⟨Kept.refl _ _,_,_,rfl,hE,rfl⟩
      ·exact fun a w ux36 hE hM hp=>ZA hE Za ld rfl (Tz) fun a hE=>⟨Kept.refl _ _,_,_,rfl,hE,rfl⟩
      ·intro a w ux36 hE hM hp
       have f2 : ux36 2 = (ptr b1 (0 + 1)):=hp 0 _ rfl rfl
       exact Zn (cs:=enc p0.Box) hE Za ld (lk rfl f2) Vq rfl (At.cat (pre:=[[vI p0.Field]]) (hM.rawAt (pre:=[_,_,_])) (cl1 (n:=1) (m:=0) rfl cl0)) (Flat.len _) fun a hE=>⟨Kept.refl _ _,_,_,rfl,hE,rfl⟩
      ·exact fun a w ux36 hE hM hp=>Zn (cs:=enc s25.1) hE Za ld rfl ZK rfl (hM.rawAt (pre:=[_,_])) (Flat.len _) fun a hE=>⟨Kept.refl _ _,_,_,rfl,hE,rfl⟩
      ·intro a w ux36 hE hM hp
       have f3 : ux36 3 = (Value.agg (enc p0.Box).toArray):=hp 0 _ rfl rfl
       have f4 : ux36 4 = (Value.agg (enc s25.1).toArray):=hp 1 _ rfl rfl
       refine Zt hE Za ld (Yl (Z1 (lk rfl f3) (Z1 (lk rfl f4) W3))) cb120 (Kj _ p0.Box s25.1 r37 e38) ?_
       rintro v w a ⟨rfl,hK⟩ hE
       exact ⟨hK,_,_,rfl,hE,rfl⟩
      ·intro a w ux36 hE hM hp
       have f1 : ux36 1 = (Value.agg (enc p0.Places).toArray):=hp 0 _ rfl rfl
       have f5 : ux36 5 = (Value.agg (enc r37).toArray):=hp 1 _ rfl rfl
       refine Zt hE Za ld (Yl (Z1 (lk rfl f1) (Z1 (lk rfl f5) W3))) cb122 (KE _ p0.Places r37 r39 e40) ?_
       rintro v w a ⟨rfl,hK⟩ hE
       exact ⟨hK,_,_,rfl,hE,rfl⟩
      ·intro a w ux36 hE hM hg
       have hE:=hE.sub (e':=[(31,(Value.agg (enc r39).toArray)),(3,vI p3),(4,(ptr b1 0)),(6,(ptr b5 0)),(8,(ptr b7 0)),(9,u11),(10,vI s25.2),(20,vI s25.2),(21,vI p3),(22,(vT (decide (s25.2 ≤ p3))))]) ⟨lk rfl (hg 6 (by decide)),rfl,rfl,rfl,rfl,rfl,rfl,rfl,rfl,rfl,trivial⟩
       have hM:=hM.pull (pre:=[_,_])
       refine Zo (seg:=enc r39) (cs':=enc r39) hE hM Za rfl rfl rfl ZK (Flat.len _) (zle flq) (Flat.cell _) (Zr flq) fun w a hM hE=>Zh ?_
       have ht41:=Option.some.inj hl34
       subst ht41
       refine Zj ?_
       have hM:=(((hM.pull (pre:=[_,_,_])).pull (pre:=[_])).pull (pre:=[_,_,_])).pull (pre:=[_,_,_])
       exact ⟨hE.sub ⟨rfl,rfl,rfl,rfl,rfl,rfl,trivial⟩,hM⟩
     ·skip
      rintro a w ⟨hE,hM⟩
      obtain ⟨j42,hl43,hF44⟩:=bind_some hF35
      refine ZM (fun a w=>Env 48 a [(3,vI p3),(4,(ptr b1 0)),(6,(ptr b5 0)),(8,(ptr b7 0)),(9,u11),(10,vI s25.2)] ∧ M (Old w0) w0 w [osl NoB (r9 : List (Vector UInt8 16)) u11,raw b7 (enc (Vector.replicate 16 (0 : UInt8))),raw b5 (enc j42),raw b1 (cat [[vI p0.Field],enc p0.Box,enc p0.Mix,enc p0.Places,[vI p0.Rounds]])]) ?_ ?_
      ·skip
       refine Zc (Zd hE Za ld rfl fun a hE=>Zd hE Za ld rfl fun a hE=>Zi hE Za ld rfl rfl rfl fun a hE=>Zf ?_)
       refine Zq hE rfl ?_ ?_
       ·intro hb45
        have hl43:=Zu hl43 hb45
        refine wp_region_lit (ZA hE Za ld rfl (Th) fun a hE=>ZC (v:=(vI p0.Field)) hE Za ld rfl ty2 rfl (At.cat (pre:=[]) (hM.rawAt (pre:=[_,_,_])) cl0) fun a hE=>ZA hE Za ld rfl (QP) fun a hE=>Zn (cs:=enc p0.Mix) hE Za ld rfl YM rfl (At.cat (pre:=[[vI p0.Field],enc p0.Box]) (hM.rawAt (pre:=[_,_,_])) (cl1 (n:=1) (m:=256) rfl (cl1 (n:=256) (m:=0) (Flat.len _) cl0))) (Flat.len _) fun a hE=>Zn (cs:=enc j33) hE Za ld rfl ZK rfl (hM.rawAt (pre:=[_,_])) (Flat.len _) ?_); intro a hE
        obtain ⟨r46,e47,hl43⟩:=bind_some hl43
        refine Zt hE Za ld rfl cb119 (Je _ p0.Field p0.Mix j33 r46 e47) ?_
        rintro v w a ⟨rfl,hK⟩ hE
        have hM:=(hM.keep hK).pull (pre:=[_,_])
        refine Zo (seg:=enc r46) (cs':=enc r46) hE hM Za rfl rfl rfl ZK (Flat.len _) (zle flq) (Flat.cell _) (Zr flq) fun w a hM hE=>Zh ?_
        have ht48:=Option.some.inj hl43
        subst ht48
        refine Zj ?_
        have hM:=(((hM.pull (pre:=[_,_,_])).pull (pre:=[_])).pull (pre:=[_,_,_])).pull (pre:=[_,_,_])
        exact ⟨hE.sub ⟨rfl,rfl,rfl,rfl,rfl,rfl,trivial⟩,hM⟩
       ·intro hb45
        have hl43:=Zv hl43 hb45
        refine wp_skip ?_
        have ht49:=Option.some.inj hl43
        subst ht49
        refine Zj ?_
        exact ⟨hE.sub ⟨rfl,rfl,rfl,rfl,rfl,rfl,trivial⟩,hM⟩
      ·skip
       rintro a w ⟨hE,hM⟩
       obtain ⟨x51,hi53,hF44⟩:=bix hF44
       obtain ⟨r54,e55,hF44⟩:=bind_some hF44
       refine YZ (n:=48) (hd:=[_,_,_,_,_,_]) (tl:=[_]) Wl rfl rfl [41,42,43,44,45,46] (by decide) (fun w=>M (Old w0) w0 w [osl NoB (r9 : List (Vector UInt8 16)) u11,raw b7 (enc (Vector.replicate 16 (0 : UInt8))),raw b5 (enc j42),raw b1 (cat [[vI p0.Field],enc p0.Box,enc p0.Mix,enc p0.Places,[vI p0.Rounds]])]) (fun j=>([fun v _=>v = (Value.agg (enc j42).toArray),fun v _=>v = u11,fun v _=>v = (vI s25.2),fun v _=>v = (ptr (sb u11) (so u11 + (s25.2).toNat * 16)),fun v _=>v = (Value.agg (enc x51).toArray),fun v _=>v = (Value.agg (enc r54).toArray)] : List (Value → World → Prop)).getD j (fun _ _=>True)) (fun _ _ h hk=>h.keep hk) (gup (Zk (Zk (Zk (Zk (Zk (Zk V3))))))) hE hM.drew (ZQ (Zb ?_ (Zb ?_ (Zb ?_ (Zb ?_ (Zb ?_ (Zb ?_ ZJ))))))) ?_
       ·exact fun a w ux50 hE hM hp=>Zn (cs:=enc j42) hE Za ld rfl ZK rfl (hM.rawAt (pre:=[_,_])) (Flat.len _) fun a hE=>⟨Kept.refl _ _,_,_,rfl,hE,rfl⟩
       ·exact fun a w ux50 hE hM hp=>Zd hE Za ld rfl fun a hE=>⟨Kept.refl _ _,_,_,rfl,hE,rfl⟩
       ·exact fun a w ux50 hE hM hp=>Zd hE Za ld rfl fun a hE=>⟨Kept.refl _ _,_,_,rfl,hE,rfl⟩
       ·intro a w ux50 hE hM hp
        have f1 : ux50 1 = u11:=hp 0 _ rfl rfl
        have f2 : ux50 2 = (vI s25.2):=hp 1 _ rfl rfl
        exact Yk hE Za ld (lk rfl f1) (lk rfl f2) Try.underlying69 ZK (hM.sl (pre:=[]) noB) hi53.1 fun a hE=>⟨Kept.refl _ _,_,_,rfl,hE,rfl⟩
       ·intro a w ux50 hE hM hp
        have f3 : ux50 3 = (ptr (sb u11) (so u11 + (s25.2).toNat * 16)):=hp 0 _ rfl rfl
        exact Zn (cs:=enc x51) hE Za ld (lk rfl f3) ZK rfl (WD (hM.sl (pre:=[]) noB) hi53.2) (Flat.len _) fun a hE=>⟨Kept.refl _ _,_,_,rfl,hE,rfl⟩
       ·intro a w ux50 hE hM hp
        have f0 : ux50 0 = (Value.agg (enc j42).toArray):=hp 0 _ rfl rfl
        have f4 : ux50 4 = (Value.agg (enc x51).toArray):=hp 1 _ rfl rfl
        refine Zt hE Za ld (Yl (Z1 (lk rfl f0) (Z1 (lk rfl f4) W3))) cb118 (TT _ j42 x51 r54 e55) ?_
        rintro v w a ⟨rfl,hK⟩ hE
        exact ⟨hK,_,_,rfl,hE,rfl⟩
       ·intro a w ux50 hE hM hg
        have hE:=hE.sub (e':=[(46,(Value.agg (enc r54).toArray)),(3,vI p3),(4,(ptr b1 0)),(6,(ptr b5 0)),(8,(ptr b7 0)),(9,u11),(10,vI s25.2)]) ⟨lk rfl (hg 5 (by decide)),rfl,rfl,rfl,rfl,rfl,rfl,trivial⟩
        have hM:=hM.pull (pre:=[_,_])
        refine Zo (seg:=enc r54) (cs':=enc r54) hE hM Za rfl rfl rfl ZK (Flat.len _) (zle flq) (Flat.cell _) (Zr flq) fun w a hM hE=>Zh (Z9 ?_)
        have ht56:=Option.some.inj hF44
        subst ht56
        refine Zj ?_
        have hM:=(((hM.pull (pre:=[_,_,_])).pull (pre:=[_])).pull (pre:=[_,_,_])).pull (pre:=[_,_,_])
        exact ⟨hE.sub ⟨rfl,rfl,rfl,rfl,rfl,rfl,trivial⟩,hM⟩
    ·skip
     rintro a w ⟨hE,hM⟩
     refine wp_region_lit (Zd hE Za ld rfl fun a hE=>Zi hE Za ld rfl rfl rfl fun a hE=>Ze hE Za ld rfl fun a hE=>Zh (Zj ?_))
     exact ⟨_,(ois hF32),hE.sub ⟨rfl,rfl,rfl,rfl,rfl,rfl,trivial⟩,hM⟩
   ·intro hb29
    have hs26:=Zv hs26 hb29
    refine wp_exit (Zm (Zm (Yf ?_)))
    have ht57:=hx27 _ (ois hs26)
    subst ht57
    refine Zj ?_
    have hM:=M.fst (l:=[_,_]) ((hM.pull (pre:=[_,_])).pull (pre:=[_,_]))
    exact ⟨hE.sub ⟨rfl,rfl,trivial⟩,hM⟩
  ·skip
   rintro a w ⟨hE,hM⟩
   refine Zw (Zc (Zn (cs:=enc j22) hE Za ld rfl ZK rfl (hM.rawAt (pre:=[_])) (Flat.len _) fun a hE=>Zo (seg:=enc j22) (cs':=enc j22) hE hM Za rfl rfl rfl ZK (Flat.len _) (zle flq) (Flat.cell _) (Zr flq) fun w a hM hE=>Zf ?_))
   have hr:=Option.some.inj hF24
   subst hr
   have hq58 : Xp Try.prog _ _ (.cell 8 55) _:=Ya hE rfl ZK rfl (hM.rawAt (pre:=[])) (Flat.len _) rfl
   have hM:=M.fst (l:=[]) hM
   exact wp_ret (Zx hE rfl hq58 ⟨_,rfl,rfl,hM.kept⟩)
def Wx (p0 : GCipher) (p1 : (Vector UInt8 16)) (p3 : Int) (p4 : Int) (s14 : (Vector UInt8 16) × (List (Vector UInt8 16)) × Int) : Option (Fl ((Vector UInt8 16) × (List (Vector UInt8 16)) × Int) (List (Vector UInt8 16))) :=
 if (decide (s14.2.2 < 256)) = true then ((Zy s14.1 p3).bind fun x22=>(XP p0 p1 (s14.1.setIfInBounds (p3).toNat (ZI s14.2.2)) p4).bind fun r24=>(app 16 s14.2.1 ([r24] : List (Vector UInt8 16))).bind fun l28=>some (Fl.nx ((s14.1.setIfInBounds (p3).toNat (ZI s14.2.2)),(s14.2.1 ++ ([r24] : List (Vector UInt8 16))),wr (s14.2.2 + 1)))) else (some (Fl.ex s14.2.1))
def Wn (p0 : GCipher) (p1 : (Vector UInt8 16)) (p2 : (Vector UInt8 16)) (p3 : Int) (p4 : Int) : Option ((List (Vector UInt8 16))) :=
 (ZE (Wx p0 p1 p3 p4) (p2,([] : List (Vector UInt8 16)),0)).bind fun j9=>some j9
theorem TQ (w0 : World) (p0 : GCipher) (p1 : (Vector UInt8 16)) (p2 : (Vector UInt8 16)) (p3 : Int) (p4 : Int) (r : (List (Vector UInt8 16))) (hF : Wn p0 p1 p2 p3 p4 = some r) :
  Calls Try.prog 84 [(Value.agg (enc p0).toArray),(Value.agg (enc p1).toArray),(Value.agg (enc p2).toArray),vI p3,vI p4].toArray w0 (fun en w'=>∃ v,en = .returned v ∧ (∃ (y1 : Value),v = y1 ∧ Fr w0 w' [osl NoB (r : List (Vector UInt8 16)) y1] ∧ Kept (Old w0) w0 w')):=by
 refine ZB (n:=31) Try.func84 rfl rfl (nbl rfl) rfl ?_
 intro a hE
 have hM:=M.start w0
 unfold Wn at hF
 refine Zc (ZZ (cs:=cat [[vI p0.Field],enc p0.Box,enc p0.Mix,enc p0.Places,[vI p0.Rounds]]) hE hM Za ld rfl rfl fun b1 w a hM hE=>ZZ (cs:=enc p1) hE hM Za ld rfl rfl fun b3 w a hM hE=>ZZ (cs:=enc p2) hE hM Za ld rfl rfl fun b5 w a hM hE=>Ze hE Za ld rfl fun a hE=>Zf (Zc (WG (xs:=[]) (l:=([] : List (Vector UInt8 16))) (vs:=[]) hE hM Za ld rfl rfl Try.underlying69 ZK rfl (by decide) rfl fun u7 w a hM hE=>Ze hE Za ld rfl fun a hE=>Zf (wp_seq (Zc (Ze hE Za ld rfl fun a hE=>Zf ?_))))))
 obtain ⟨j9,hl10,hF11⟩:=bind_some hF
 refine ZL (fun a w=>∃ (u12 : Value),Env 31 a [(11,u12)] ∧ M (Old w0) w0 w [osl NoB (j9 : List (Vector UInt8 16)) u12]) ?_ ?_
 ·skip
  refine wp_block ?_
  have hM:=((hM.pull (pre:=[_,_,_])).pull (pre:=[_,_,_])).pull (pre:=[_,_,_])
  refine ZF (fun (s14 : (Vector UInt8 16) × (List (Vector UInt8 16)) × Int) a w=>∃ (u15 : Value),Env 31 a [(3,vI p3),(4,vI p4),(5,(ptr b1 0)),(6,(ptr b3 0)),(7,(ptr b5 0)),(11,u15),(12,vI s14.2.2)] ∧ M (Old w0) w0 w [raw b5 (enc s14.1),raw b3 (enc p1),raw b1 (cat [[vI p0.Field],enc p0.Box,enc p0.Mix,enc p0.Places,[vI p0.Rounds]]),osl NoB (s14.2.1 : List (Vector UInt8 16)) u15]) hl10 ⟨u7,hE.sub ⟨rfl,rfl,rfl,rfl,rfl,rfl,rfl,trivial⟩,hM⟩ ?_
  rintro s14 a w ⟨u15,hE,hM⟩ o19 hs17 hx18
  unfold Wx at hs17
  refine wp_seq (Zc (Zd hE Za ld rfl fun a hE=>Zi hE Za ld rfl rfl rfl fun a hE=>Zf ?_))
  refine Zq hE rfl ?_ ?_
  ·intro hb20
   have hs17:=Zu hs17 hb20
   refine wp_skip (Zw (wp_seq (wp_block (Zc (Zd hE Za ld rfl fun a hE=>Zd hE Za ld rfl fun a hE=>Vc hE Za ld rfl Try.underlying3 Try.underlying5 ?_))))); intro a hE
   rw [Xs] at hE
   obtain ⟨x22,hi21,hs17⟩:=bvx hs17
   refine Zg hE Za ld rfl rfl Try.underlying55 ty5 hi21.1 fun a hE=>Zo (seg:=[(vB (ZI s14.2.2))]) (cs':=enc (s14.1.setIfInBounds (p3).toNat (ZI s14.2.2))) hE hM Za rfl rfl rfl ty5 rfl (ZG (v:=s14.1) (x:=ZI s14.2.2) hi21.1) (Flat.cell (ZI s14.2.2 : UInt8)) (Zz (v:=s14.1) (x:=ZI s14.2.2) hi21.1) fun w a hM hE=>Zf (wp_region_lit (Zd hE Za ld rfl fun a hE=>Zn (cs:=enc p0) hE Za ld rfl Uz rfl (hM.rawAt (pre:=[_,_])) (YF (cl1 (n:=1) (m:=289) rfl (cl1 (n:=256) (m:=33) (Flat.len _) (cl1 (n:=16) (m:=17) (Flat.len _) (cl1 (n:=16) (m:=1) (Flat.len _) (cl1 (n:=1) (m:=0) rfl cl0)))))) fun a hE=>Zn (cs:=enc p1) hE Za ld rfl ZK rfl (hM.rawAt (pre:=[_])) (Flat.len _) fun a hE=>Zn (cs:=enc (s14.1.setIfInBounds (p3).toNat (ZI s14.2.2))) hE Za ld rfl ZK rfl (hM.rawAt (pre:=[])) (Flat.len _) fun a hE=>Zd hE Za ld rfl ?_)); intro a hE
   obtain ⟨r24,e25,hs17⟩:=bind_some hs17
   refine Zt hE Za ld rfl cb73 (T0 _ p0 p1 (s14.1.setIfInBounds (p3).toNat (ZI s14.2.2)) p4 r24 e25) ?_
   rintro v w a ⟨rfl,hK⟩ hE
   have hM:=hM.keep hK
   refine WG (xs:=[.tmp 27]) (l:=([r24] : List (Vector UInt8 16))) (vs:=[(Value.agg (enc r24).toArray)]) hE hM Za ld rfl rfl Try.underlying69 ZK rfl (by decide) rfl ?_; intro u26 w a hM hE
   obtain ⟨l28,e29,hs17⟩:=bind_some hs17
   obtain ⟨e32,rfl⟩:=UV e29
   have hM:=hM.pull (pre:=[_,_,_,_])
   refine Uv hE hM Za ld rfl rfl (hM.sl (pre:=[_]) noB) Try.underlying69 ZK rfl (by decide) e32 fun u30 w a hM hE=>Ze hE Za ld rfl fun a hE=>Zh (Z9 (Zw (wp_region_lit (Zd hE Za ld rfl fun a hE=>Zi hE Za ld rfl rfl rfl fun a hE=>Ze hE Za ld rfl fun a hE=>Zh (Zj ?_)))))
   have hM:=M.fst (l:=[_,_,_,_]) (((hM.pull (pre:=[_,_,_,_])).pull (pre:=[_,_,_,_])).pull (pre:=[_,_,_,_]))
   exact ⟨_,(ois hs17),u30,hE.sub ⟨rfl,rfl,rfl,rfl,rfl,rfl,rfl,trivial⟩,hM⟩
  ·intro hb20
   have hs17:=Zv hs17 hb20
   refine wp_exit (Zm (Zm (Yf ?_)))
   have ht33:=hx18 _ (ois hs17)
   subst ht33
   refine Zj ?_
   have hM:=M.fst (l:=[_]) (hM.pull (pre:=[_,_,_]))
   exact ⟨u15,hE.sub ⟨rfl,trivial⟩,hM⟩
 ·skip
  rintro a w ⟨u12,hE,hM⟩
  refine Zw (Zc (Zd hE Za ld rfl fun a hE=>Ze hE Za ld rfl fun a hE=>Zf ?_))
  have hr:=Option.some.inj hF11
  subst hr
  exact wp_ret (Zx hE rfl (Zs hE rfl) ⟨_,rfl,u12,rfl,hM.outF (Tn UM),hM.kept⟩)
def Y8 (p0 : (Vector UInt8 256)) (s10 : (Vector UInt8 256) × Int) : Option (Fl ((Vector UInt8 256) × Int) (Vector UInt8 256)) :=
 if (decide (s10.2 < 256)) = true then ((Zy p0 s10.2).bind fun x16=>(Zy s10.1 (bI x16)).bind fun x19=>some (Fl.nx ((s10.1.setIfInBounds ((bI x16)).toNat (ZI s10.2)),wr (s10.2 + 1)))) else (some (Fl.ex s10.1))
def Wd (p0 : (Vector UInt8 256)) : Option ((Vector UInt8 256)) :=
 (ZE (Y8 p0) ((Vector.replicate 256 (0 : UInt8)),0)).bind fun j7=>some j7
theorem Ql (w0 : World) (p0 : (Vector UInt8 256)) (r : (Vector UInt8 256)) (hF : Wd p0 = some r) :
  Calls Try.prog 117 [(Value.agg (enc p0).toArray)].toArray w0 (fun en w'=>∃ v,en = .returned v ∧ (v = (Value.agg (enc r).toArray) ∧ Kept (Old w0) w0 w')):=by
 refine ZB (n:=17) Try.func117 rfl rfl (nbl rfl) rfl ?_
 intro a hE
 have hM:=M.start w0
 unfold Wd at hF
 refine Zc (ZZ (cs:=enc p0) hE hM Za ld rfl rfl fun b1 w a hM hE=>ZH hE hM Za ld Vq fun b3 w a hM hE=>Zf (Zc (XV (parts:=[]) (vs:=[]) (cs:=enc (Vector.replicate 256 (0 : UInt8))) hE Za ld rfl rfl Vq rfl ty5 Y7 fun a hE=>ZH hE hM Za ld Vq fun b5 w a hM hE=>Zo (seg:=enc (Vector.replicate 256 (0 : UInt8))) (cs':=enc (Vector.replicate 256 (0 : UInt8))) hE hM Za rfl rfl rfl Vq (Flat.len _) (zle flq) (Flat.cell _) (Zr flq) fun w a hM hE=>Zf (wp_seq (Zc (Ze hE Za ld rfl fun a hE=>Zf ?_))))))
 obtain ⟨j7,hl8,hF9⟩:=bind_some hF
 refine ZL (fun a w=>Env 17 a [(2,(ptr b3 0)),(3,(ptr b5 0))] ∧ M (Old w0) w0 w [raw b5 (enc j7),raw b3 (enc (Vector.replicate 256 (0 : UInt8)))]) ?_ ?_
 ·skip
  refine wp_block ?_
  refine ZF (fun (s10 : (Vector UInt8 256) × Int) a w=>Env 17 a [(1,(ptr b1 0)),(2,(ptr b3 0)),(3,(ptr b5 0)),(4,vI s10.2)] ∧ M (Old w0) w0 w [raw b5 (enc s10.1),raw b3 (enc (Vector.replicate 256 (0 : UInt8))),raw b1 (enc p0)]) hl8 ⟨hE.sub ⟨rfl,rfl,rfl,rfl,trivial⟩,hM⟩ ?_
  rintro s10 a w ⟨hE,hM⟩ o13 hs11 hx12
  unfold Y8 at hs11
  refine wp_seq (Zc (Zd hE Za ld rfl fun a hE=>Zi hE Za ld rfl rfl rfl fun a hE=>Zf ?_))
  refine Zq hE rfl ?_ ?_
  ·intro hb14
   have hs11:=Zu hs11 hb14
   refine wp_skip (Zw (wp_seq (wp_block (wp_region_lit (Zd hE Za ld rfl ?_))))); intro a hE
   obtain ⟨x16,hi15,hs11⟩:=bvx hs11
   refine Zg hE Za ld rfl rfl Try.underlying49 ty5 hi15.1 fun a hE=>ZC (v:=(vB x16)) hE Za ld rfl ty5 rfl (At.vec (hM.rawAt (pre:=[_,_])) hi15.2) fun a hE=>Zd hE Za ld rfl fun a hE=>Vc hE Za ld rfl Try.underlying3 Try.underlying5 ?_; intro a hE
   rw [Xs] at hE
   obtain ⟨x19,hi18,hs11⟩:=bvx hs11
   refine Zg hE Za ld rfl rfl Try.underlying49 ty5 hi18.1 fun a hE=>Zo (seg:=[(vB (ZI s10.2))]) (cs':=enc (s10.1.setIfInBounds ((bI x16)).toNat (ZI s10.2))) hE hM Za rfl rfl rfl ty5 rfl (ZG (v:=s10.1) (x:=ZI s10.2) hi18.1) (Flat.cell (ZI s10.2 : UInt8)) (Zz (v:=s10.1) (x:=ZI s10.2) hi18.1) fun w a hM hE=>Zh (Z9 (Zw (wp_region_lit (Zd hE Za ld rfl fun a hE=>Zi hE Za ld rfl rfl rfl fun a hE=>Ze hE Za ld rfl fun a hE=>Zh (Zj ?_)))))
   exact ⟨_,(ois hs11),hE.sub ⟨rfl,rfl,rfl,rfl,trivial⟩,hM⟩
  ·intro hb14
   have hs11:=Zv hs11 hb14
   refine wp_exit (Zm (Zm (Yf ?_)))
   have ht21:=hx12 _ (ois hs11)
   subst ht21
   refine Zj ?_
   have hM:=M.fst (l:=[_,_]) ((hM.pull (pre:=[_])).pull (pre:=[_]))
   exact ⟨hE.sub ⟨rfl,rfl,trivial⟩,hM⟩
 ·skip
  rintro a w ⟨hE,hM⟩
  refine Zw (Zc (Zn (cs:=enc j7) hE Za ld rfl Vq rfl (hM.rawAt (pre:=[])) (Flat.len _) ?_)); intro a hE
  have hM:=hM.pull (pre:=[_])
  refine Zo (seg:=enc j7) (cs':=enc j7) hE hM Za rfl rfl rfl Vq (Flat.len _) (zle flq) (Flat.cell _) (Zr flq) fun w a hM hE=>Zf ?_
  have hr:=Option.some.inj hF9
  subst hr
  have hq22 : Xp Try.prog _ _ (.cell 2 49) _:=Ya hE rfl Vq rfl (hM.rawAt (pre:=[])) (Flat.len _) rfl
  have hM:=M.fst (l:=[]) hM
  exact wp_ret (Zx hE rfl hq22 ⟨_,rfl,rfl,hM.kept⟩)
def Wj (p1 : (List (Vector UInt8 16))) (p2 : Int) (r5 : (Vector UInt8 256)) (s14 : (Vector Bool 256) × Int) (s22 : UInt8 × Int) : Option (Fl (UInt8 × Int) UInt8) :=
 if (decide (s22.2 < (p1.length : Int))) = true then ((idx p1 s22.2).bind fun x27=>(Zy x27 p2).bind fun x31=>(Zy r5 (bI (x31 ^^^ (ZI s14.2)))).bind fun x34=>some (Fl.nx (s22.1 ^^^ x34,wr (s22.2 + 1)))) else (some (Fl.ex s22.1))
def Xu (p1 : (List (Vector UInt8 16))) (p2 : Int) (r5 : (Vector UInt8 256)) (s14 : (Vector Bool 256) × Int) : Option (Fl ((Vector Bool 256) × Int) (Vector Bool 256)) :=
 if (decide (s14.2 < 256)) = true then ((ZE (Wj p1 p2 r5 s14) (0,0)).bind fun j19=>(Zy s14.1 s14.2).bind fun x38=>some (Fl.nx ((s14.1.setIfInBounds (s14.2).toNat (j19 == 0)),wr (s14.2 + 1)))) else (some (Fl.ex s14.1))
def Xa (p0 : GCipher) (p1 : (List (Vector UInt8 16))) (p2 : Int) : Option ((Vector Bool 256)) :=
 (Wd p0.Box).bind fun r5=>(ZE (Xu p1 p2 r5) ((Vector.replicate 256 false),0)).bind fun j11=>some j11
theorem UZ (w0 : World) (p0 : GCipher) (p1 : (List (Vector UInt8 16))) (v1_1 : Value) (hv1_1 : Ro w0 p1 [v1_1]) (p2 : Int) (r : (Vector Bool 256)) (hF : Xa p0 p1 p2 = some r) :
  Calls Try.prog 83 [(Value.agg (enc p0).toArray),v1_1,vI p2].toArray w0 (fun en w'=>∃ v,en = .returned v ∧ (v = (Value.agg (enc r).toArray) ∧ Kept (Old w0) w0 w')):=by
 refine ZB (n:=44) Try.func83 rfl rfl (nbl rfl) rfl ?_
 intro a hE
 have hM:=M.start w0
 unfold Xa at hF
 refine Zc (ZZ (cs:=cat [[vI p0.Field],enc p0.Box,enc p0.Mix,enc p0.Places,[vI p0.Rounds]]) hE hM Za ld rfl rfl fun b1 w a hM hE=>ZH hE hM Za ld V4 fun b3 w a hM hE=>Zf (Zc (ZA hE Za ld rfl (Tz) fun a hE=>Zn (cs:=enc p0.Box) hE Za ld rfl Vq rfl (At.cat (pre:=[[vI p0.Field]]) (hM.rawAt (pre:=[_])) (cl1 (n:=1) (m:=0) rfl cl0)) (Flat.len _) ?_))); intro a hE
 obtain ⟨r5,e6,hF⟩:=bind_some hF
 refine Zt hE Za ld rfl cb117 (Ql _ p0.Box r5 e6) ?_
 rintro v w a ⟨rfl,hK⟩ hE
 have hM:=hM.keep hK
 refine XV (parts:=[]) (vs:=[]) (cs:=enc (Vector.replicate 256 false)) hE Za ld rfl rfl V4 rfl ty4 Y7 fun a hE=>ZH hE hM Za ld Vq fun b7 w a hM hE=>ZH hE hM Za ld V4 ?_; intro b9 w a hM hE
 have hM:=hM.pull (pre:=[_])
 refine Zo (seg:=enc r5) (cs':=enc r5) hE hM Za rfl rfl rfl Vq (Flat.len _) (zle flq) (Flat.cell _) (Zr flq) ?_; intro w a hM hE
 have hM:=hM.pull (pre:=[_])
 refine Zo (seg:=enc (Vector.replicate 256 false)) (cs':=enc (Vector.replicate 256 false)) hE hM Za rfl rfl rfl V4 (Flat.len _) (zle flq) (Flat.cell _) (Zr flq) fun w a hM hE=>Zf (wp_seq (Zc (Ze hE Za ld rfl fun a hE=>Zf ?_)))
 obtain ⟨j11,hl12,hF13⟩:=bind_some hF
 refine ZL (fun a w=>Env 44 a [(6,(ptr b3 0)),(8,(ptr b9 0))] ∧ M (Old w0) w0 w [raw b9 (enc j11),raw b3 (enc (Vector.replicate 256 false))]) ?_ ?_
 ·skip
  refine wp_block ?_
  have hM:=M.fst (l:=[_,_,_]) (((hM.pull (pre:=[_,_])).pull (pre:=[_,_])).pull (pre:=[_,_]))
  refine ZF (fun (s14 : (Vector Bool 256) × Int) a w=>Env 44 a [(1,v1_1),(2,vI p2),(6,(ptr b3 0)),(7,(ptr b7 0)),(8,(ptr b9 0)),(9,vI s14.2)] ∧ M (Old w0) w0 w [raw b9 (enc s14.1),raw b7 (enc r5),raw b3 (enc (Vector.replicate 256 false))]) hl12 ⟨hE.sub ⟨rfl,rfl,rfl,rfl,rfl,rfl,trivial⟩,hM⟩ ?_
  rintro s14 a w ⟨hE,hM⟩ o17 hs15 hx16
  unfold Xu at hs15
  refine wp_seq (Zc (Zd hE Za ld rfl fun a hE=>Zi hE Za ld rfl rfl rfl fun a hE=>Zf ?_))
  refine Zq hE rfl ?_ ?_
  ·intro hb18
   have hs15:=Zu hs15 hb18
   refine wp_skip (Zw (wp_seq (wp_block (Zc (Ze hE Za ld rfl fun a hE=>Zf (wp_seq (Zc (Ze hE Za ld rfl fun a hE=>Zf ?_))))))))
   obtain ⟨j19,hl20,hF21⟩:=bind_some hs15
   refine ZL (fun a w=>Env 44 a [(1,v1_1),(2,vI p2),(6,(ptr b3 0)),(7,(ptr b7 0)),(8,(ptr b9 0)),(9,vI s14.2),(10,vB j19)] ∧ M (Old w0) w0 w [raw b9 (enc s14.1),raw b7 (enc r5),raw b3 (enc (Vector.replicate 256 false))]) ?_ ?_
   ·skip
    refine wp_block ?_
    refine ZF (fun (s22 : UInt8 × Int) a w=>Env 44 a [(1,v1_1),(2,vI p2),(6,(ptr b3 0)),(7,(ptr b7 0)),(8,(ptr b9 0)),(9,vI s14.2),(10,vB s22.1),(11,vI s22.2)] ∧ M (Old w0) w0 w [raw b9 (enc s14.1),raw b7 (enc r5),raw b3 (enc (Vector.replicate 256 false))]) hl20 ⟨hE.sub ⟨rfl,rfl,rfl,rfl,rfl,rfl,rfl,rfl,trivial⟩,hM⟩ ?_
    rintro s22 a w ⟨hE,hM⟩ o25 hs23 hx24
    unfold Wj at hs23
    refine wp_seq (Zc (Zd hE Za ld rfl fun a hE=>Zd hE Za ld rfl fun a hE=>Ws hE Za ld rfl Try.underlying69 (hM.rd hv1_1) fun a hE=>Zi hE Za ld rfl rfl rfl fun a hE=>Zf ?_))
    refine Zq hE rfl ?_ ?_
    ·intro hb26
     have hs23:=Zu hs23 hb26
     refine wp_skip (Zw (wp_seq (wp_block (wp_region_lit (Zd hE Za ld rfl fun a hE=>Zd hE Za ld rfl fun a hE=>Zd hE Za ld rfl fun a hE=>Zd hE Za ld rfl ?_))))); intro a hE
     obtain ⟨x27,hi29,hs23⟩:=bix hs23
     refine Yk hE Za ld rfl rfl Try.underlying69 ZK (hM.rd hv1_1) hi29.1 ?_; intro a hE
     obtain ⟨x31,hi30,hs23⟩:=bvx hs23
     refine Zg hE Za ld rfl rfl Try.underlying55 ty5 hi30.1 fun a hE=>ZC (v:=(vB x31)) hE Za ld rfl ty5 rfl (At.vec (WD (hM.rd hv1_1) hi29.2) hi30.2) fun a hE=>Zd hE Za ld rfl fun a hE=>Vc hE Za ld rfl Try.underlying3 Try.underlying5 ?_; intro a hE
     rw [Xs] at hE
     refine Zi hE Za ld rfl rfl (WJ x31 (ZI s14.2)) ?_; intro a hE
     obtain ⟨x34,hi33,hs23⟩:=bvx hs23
     refine Zg hE Za ld rfl rfl Try.underlying49 ty5 hi33.1 fun a hE=>ZC (v:=(vB x34)) hE Za ld rfl ty5 rfl (At.vec (hM.rawAt (pre:=[_])) hi33.2) fun a hE=>Zi hE Za ld rfl rfl (WJ s22.1 x34) fun a hE=>Ze hE Za ld rfl fun a hE=>Zh (Z9 (Zw (wp_region_lit (Zd hE Za ld rfl fun a hE=>Zi hE Za ld rfl rfl rfl fun a hE=>Ze hE Za ld rfl fun a hE=>Zh (Zj ?_)))))
     exact ⟨_,(ois hs23),hE.sub ⟨rfl,rfl,rfl,rfl,rfl,rfl,rfl,rfl,trivial⟩,hM⟩
    ·intro hb26
     have hs23:=Zv hs23 hb26
     refine wp_exit (Zm (Zm (Yf ?_)))
     have ht36:=hx24 _ (ois hs23)
     subst ht36
     refine Zj ?_
     exact ⟨hE.sub ⟨rfl,rfl,rfl,rfl,rfl,rfl,rfl,trivial⟩,hM⟩
   ·skip
    rintro a w ⟨hE,hM⟩
    refine Zw (wp_region_lit (Zd hE Za ld rfl fun a hE=>Zd hE Za ld rfl fun a hE=>Zi hE Za ld rfl rfl (KQ j19 0) ?_)); intro a hE
    obtain ⟨x38,hi37,hF21⟩:=bvx hF21
    refine Zg hE Za ld rfl rfl Try.underlying117 ty4 hi37.1 fun a hE=>Zo (seg:=[(vT (j19 == 0))]) (cs':=enc (s14.1.setIfInBounds (s14.2).toNat (j19 == 0))) hE hM Za rfl rfl rfl ty4 rfl (ZG (v:=s14.1) (x:=j19 == 0) hi37.1) (Flat.cell (j19 == 0 : Bool)) (Zz (v:=s14.1) (x:=j19 == 0) hi37.1) fun w a hM hE=>Zh (Z9 (Zw (wp_region_lit (Zd hE Za ld rfl fun a hE=>Zi hE Za ld rfl rfl rfl fun a hE=>Ze hE Za ld rfl fun a hE=>Zh (Zj ?_)))))
    exact ⟨_,(ois hF21),hE.sub ⟨rfl,rfl,rfl,rfl,rfl,rfl,trivial⟩,hM⟩
  ·intro hb18
   have hs15:=Zv hs15 hb18
   refine wp_exit (Zm (Zm (Yf ?_)))
   have ht40:=hx16 _ (ois hs15)
   subst ht40
   refine Zj ?_
   have hM:=M.fst (l:=[_,_]) ((hM.pull (pre:=[_,_])).pull (pre:=[_]))
   exact ⟨hE.sub ⟨rfl,rfl,trivial⟩,hM⟩
 ·skip
  rintro a w ⟨hE,hM⟩
  refine Zw (Zc (Zn (cs:=enc j11) hE Za ld rfl V4 rfl (hM.rawAt (pre:=[])) (Flat.len _) ?_)); intro a hE
  have hM:=hM.pull (pre:=[_])
  refine Zo (seg:=enc j11) (cs':=enc j11) hE hM Za rfl rfl rfl V4 (Flat.len _) (zle flq) (Flat.cell _) (Zr flq) fun w a hM hE=>Zf ?_
  have hr:=Option.some.inj hF13
  subst hr
  have hq41 : Xp Try.prog _ _ (.cell 6 117) _:=Ya hE rfl V4 rfl (hM.rawAt (pre:=[])) (Flat.len _) rfl
  have hM:=M.fst (l:=[]) hM
  exact wp_ret (Zx hE rfl hq41 ⟨_,rfl,rfl,hM.kept⟩)
def XH (p0 : (Vector Bool 256)) (s10 : (List Int) × Int) : Option (Fl ((List Int) × Int) (List Int)) :=
 if (decide (s10.2 < 256)) = true then (((Zy p0 s10.2).bind fun x23=>(if x23 = true then ((app 8 s10.1 ([s10.2] : List Int)).bind fun l33=>some (s10.1 ++ ([s10.2] : List Int))) else (some s10.1) : Option ((List Int))).bind fun j25=>some j25 : Option ((List Int))).bind fun j17=>some (Fl.nx (j17,wr (s10.2 + 1)))) else (some (Fl.ex s10.1))
def WO (p0 : (Vector Bool 256)) : Option ((List Int)) :=
 (ZE (XH p0) (([] : List Int),0)).bind fun j5=>some j5
theorem Kn (w0 : World) (p0 : (Vector Bool 256)) (r : (List Int)) (hF : WO p0 = some r) :
  Calls Try.prog 85 [(Value.agg (enc p0).toArray)].toArray w0 (fun en w'=>∃ v,en = .returned v ∧ (∃ (y1 : Value),v = y1 ∧ Fr w0 w' [osl NoB (r : List Int) y1] ∧ Kept (Old w0) w0 w')):=by
 refine ZB (n:=18) Try.func85 rfl rfl (nbl rfl) rfl ?_
 intro a hE
 have hM:=M.start w0
 unfold WO at hF
 refine Zc (ZZ (cs:=enc p0) hE hM Za ld rfl rfl fun b1 w a hM hE=>Ze hE Za ld rfl fun a hE=>Zf (Zc (WG (xs:=[]) (l:=([] : List Int)) (vs:=[]) hE hM Za ld rfl rfl Try.underlying66 ty2 rfl (by decide) rfl fun u3 w a hM hE=>Ze hE Za ld rfl fun a hE=>Zf (wp_seq (Zc (Ze hE Za ld rfl fun a hE=>Zf ?_))))))
 obtain ⟨j5,hl6,hF7⟩:=bind_some hF
 refine ZL (fun a w=>∃ (u8 : Value),Env 18 a [(3,u8)] ∧ M (Old w0) w0 w [osl NoB (j5 : List Int) u8]) ?_ ?_
 ·skip
  refine wp_block ?_
  have hM:=hM.pull (pre:=[_])
  refine ZF (fun (s10 : (List Int) × Int) a w=>∃ (u11 : Value),Env 18 a [(1,(ptr b1 0)),(3,u11),(4,vI s10.2)] ∧ M (Old w0) w0 w [raw b1 (enc p0),osl NoB (s10.1 : List Int) u11]) hl6 ⟨u3,hE.sub ⟨rfl,rfl,rfl,trivial⟩,hM⟩ ?_
  rintro s10 a w ⟨u11,hE,hM⟩ o15 hs13 hx14
  unfold XH at hs13
  refine wp_seq (Zc (Zd hE Za ld rfl fun a hE=>Zi hE Za ld rfl rfl rfl fun a hE=>Zf ?_))
  refine Zq hE rfl ?_ ?_
  ·intro hb16
   have hs13:=Zu hs13 hb16
   refine wp_skip (Zw ?_)
   obtain ⟨j17,hl18,hF19⟩:=bind_some hs13
   refine ZM (fun a w=>∃ (u20 : Value),Env 18 a [(1,(ptr b1 0)),(3,u20),(4,vI s10.2)] ∧ M (Old w0) w0 w [raw b1 (enc p0),osl NoB (j17 : List Int) u20]) ?_ ?_
   ·skip
    refine wp_block (Zc (Zd hE Za ld rfl ?_)); intro a hE
    obtain ⟨x23,hi22,hl18⟩:=bvx hl18
    refine Zg hE Za ld rfl rfl Try.underlying117 ty4 hi22.1 fun a hE=>ZC (v:=(vT x23)) hE Za ld rfl ty4 rfl (At.vec (hM.rawAt (pre:=[])) hi22.2) fun a hE=>Zf ?_
    obtain ⟨j25,hl26,hF27⟩:=bind_some hl18
    refine ZL (fun a w=>∃ (u28 : Value),Env 18 a [(1,(ptr b1 0)),(3,u28),(4,vI s10.2)] ∧ M (Old w0) w0 w [raw b1 (enc p0),osl NoB (j25 : List Int) u28]) ?_ ?_
    ·skip
     refine Zq hE rfl ?_ ?_
     ·intro hb30
      have hl26:=Zu hl26 hb30
      refine wp_region_lit (Zd hE Za ld rfl fun a hE=>Zd hE Za ld rfl fun a hE=>WG (xs:=[.tmp 14]) (l:=([s10.2] : List Int)) (vs:=[vI s10.2]) hE hM Za ld rfl rfl Try.underlying66 ty2 rfl (by decide) rfl ?_); intro u31 w a hM hE
      obtain ⟨l33,e34,hl26⟩:=bind_some hl26
      obtain ⟨e37,rfl⟩:=UV e34
      have hM:=hM.pull (pre:=[_,_])
      refine Uv hE hM Za ld rfl rfl (hM.sl (pre:=[_]) noB) Try.underlying66 ty2 rfl (by decide) e37 fun u35 w a hM hE=>Ze hE Za ld rfl fun a hE=>Zh ?_
      have ht38:=Option.some.inj hl26
      subst ht38
      refine Zj ?_
      have hM:=M.fst (l:=[_,_]) (hM.pull (pre:=[_,_]))
      exact ⟨u35,hE.sub ⟨rfl,rfl,rfl,trivial⟩,hM⟩
     ·intro hb30
      have hl26:=Zv hl26 hb30
      refine wp_skip ?_
      have ht39:=Option.some.inj hl26
      subst ht39
      refine Zj ?_
      exact ⟨u11,hE.sub ⟨rfl,rfl,rfl,trivial⟩,hM⟩
    ·skip
     rintro a w ⟨u28,hE,hM⟩
     refine Z9 ?_
     have ht40:=Option.some.inj hF27
     subst ht40
     refine Zj ?_
     exact ⟨u28,hE.sub ⟨rfl,rfl,rfl,trivial⟩,hM⟩
   ·skip
    rintro a w ⟨u20,hE,hM⟩
    refine wp_region_lit (Zd hE Za ld rfl fun a hE=>Zi hE Za ld rfl rfl rfl fun a hE=>Ze hE Za ld rfl fun a hE=>Zh (Zj ?_))
    exact ⟨_,(ois hF19),u20,hE.sub ⟨rfl,rfl,rfl,trivial⟩,hM⟩
  ·intro hb16
   have hs13:=Zv hs13 hb16
   refine wp_exit (Zm (Zm (Yf ?_)))
   have ht41:=hx14 _ (ois hs13)
   subst ht41
   refine Zj ?_
   have hM:=M.fst (l:=[_]) (hM.pull (pre:=[_]))
   exact ⟨u11,hE.sub ⟨rfl,trivial⟩,hM⟩
 ·skip
  rintro a w ⟨u8,hE,hM⟩
  refine Zw (Zc (Zd hE Za ld rfl fun a hE=>Ze hE Za ld rfl fun a hE=>Zf ?_))
  have hr:=Option.some.inj hF7
  subst hr
  exact wp_ret (Zx hE rfl (Zs hE rfl) ⟨_,rfl,u8,rfl,hM.outF (Tn UM),hM.kept⟩)
def Yp (r57 : (Vector Bool 256)) (s66 : (Vector Bool 256) × Int) : Option (Fl ((Vector Bool 256) × Int) (Vector Bool 256)) :=
 if (decide (s66.2 < 256)) = true then (((Zy s66.1 s66.2).bind fun x75=>if x75 = true then ((Zy r57 s66.2).bind fun x79=>(Zy s66.1 s66.2).bind fun x82=>some (s66.1.setIfInBounds (s66.2).toNat x79)) else ((Zy s66.1 s66.2).bind fun x86=>some (s66.1.setIfInBounds (s66.2).toNat false)) : Option ((Vector Bool 256))).bind fun j71=>some (Fl.nx (j71,wr (s66.2 + 1)))) else (some (Fl.ex s66.1))
def Yn (p0 : GCipher) (p1 : (Vector UInt8 16)) (p2 : (List (Vector UInt8 16))) (p3 : Int) (p4 : Int) (p5 : Int) (s45 : (Vector Bool 256) × Int) : Option (Fl ((Vector Bool 256) × Int) (Vector Bool 256)) :=
 if (decide (s45.2 < (p2.length : Int))) = true then ((idx p2 s45.2).bind fun x51=>(Wn p0 p1 x51 p3 p5).bind fun r54=>(Xa p0 r54 p4).bind fun r57=>(ZE (Yp r57) (s45.1,0)).bind fun j63=>some (Fl.nx (j63,wr (s45.2 + 1)))) else (some (Fl.ex s45.1))
def YP (p0 : GCipher) (p1 : (Vector UInt8 16)) (p2 : (List (Vector UInt8 16))) (p3 : Int) (p4 : Int) (p5 : Int) : Option ((List Int) × Int) :=
 (Vg p0 p3 p5).bind fun r5=>((if (r5 != 1) = true then (if (decide ((p2.length : Int) < 1)) = true then (some true) else (if (decide ((p2.length : Int) > 8)) = true then (some true) else ((Xe p4 0 15).bind fun r18=>if (!r18) = true then (some true) else (some (decide (p5 < 1)))))) else (some false) : Option (Bool)).bind fun j10=>if j10 = true then (some 2) else (some r5) : Option (Int)).bind fun j7=>if (j7 != 0) = true then (some ([],j7)) else ((idx p2 (0 : Int)).bind fun x30=>(Wn p0 p1 x30 p3 p5).bind fun r33=>(Xa p0 r33 p4).bind fun r36=>(ZE (Yn p0 p1 p2 p3 p4 p5) (r36,1)).bind fun j42=>(WO j42).bind fun r91=>some (r91,0))
theorem U6 (w0 : World) (p0 : GCipher) (p1 : (Vector UInt8 16)) (p2 : (List (Vector UInt8 16))) (v2_1 : Value) (hv2_1 : Ro w0 p2 [v2_1]) (p3 : Int) (p4 : Int) (p5 : Int) (r : (List Int) × Int) (hF : YP p0 p1 p2 p3 p4 p5 = some r) :
  Calls Try.prog 34 [(Value.agg (enc p0).toArray),(Value.agg (enc p1).toArray),v2_1,vI p3,vI p4,vI p5].toArray w0 (fun en w'=>∃ v,en = .returned v ∧ (∃ (y1 : Value),v = (Value.tuple [y1,vI r.2].toArray) ∧ Fr w0 w' [osl NoB (r.1 : List Int) y1] ∧ Kept (Old w0) w0 w')):=by
 refine ZB (n:=92) Try.func34 rfl rfl (nbl rfl) rfl ?_
 intro a hE
 have hM:=M.start w0
 unfold YP at hF
 refine Zc (ZZ (cs:=cat [[vI p0.Field],enc p0.Box,enc p0.Mix,enc p0.Places,[vI p0.Rounds]]) hE hM Za ld rfl rfl fun b1 w a hM hE=>ZZ (cs:=enc p1) hE hM Za ld rfl rfl fun b3 w a hM hE=>Ze hE Za ld rfl fun a hE=>Ze hE Za ld rfl fun a hE=>Zf (Zc (Zn (cs:=enc p0) hE Za ld rfl Uz rfl (hM.rawAt (pre:=[_])) (YF (cl1 (n:=1) (m:=289) rfl (cl1 (n:=256) (m:=33) (Flat.len _) (cl1 (n:=16) (m:=17) (Flat.len _) (cl1 (n:=16) (m:=1) (Flat.len _) (cl1 (n:=1) (m:=0) rfl cl0)))))) fun a hE=>Zd hE Za ld rfl fun a hE=>Zd hE Za ld rfl ?_))); intro a hE
 obtain ⟨r5,e6,hF⟩:=bind_some hF
 refine Zt hE Za ld rfl cb81 (Kz _ p0 p3 p5 r5 e6) ?_
 rintro v w a ⟨rfl,hK⟩ hE
 have hM:=hM.keep hK
 refine Ze hE Za ld rfl fun a hE=>Zf ?_
 obtain ⟨j7,hl8,hF9⟩:=bind_some hF
 refine ZM (fun a w=>Env 92 a [(2,v2_1),(3,vI p3),(4,vI p4),(5,vI p5),(6,(ptr b1 0)),(7,(ptr b3 0)),(14,vI j7)] ∧ M (Old w0) w0 w [raw b3 (enc p1),raw b1 (cat [[vI p0.Field],enc p0.Box,enc p0.Mix,enc p0.Places,[vI p0.Rounds]])]) ?_ ?_
 ·skip
  obtain ⟨j10,hl11,hF12⟩:=bind_some hl8
  refine ZM (fun a w=>Env 92 a [(2,v2_1),(3,vI p3),(4,vI p4),(5,vI p5),(6,(ptr b1 0)),(7,(ptr b3 0)),(14,vI r5),(43,vT j10)] ∧ M (Old w0) w0 w [raw b3 (enc p1),raw b1 (cat [[vI p0.Field],enc p0.Box,enc p0.Mix,enc p0.Places,[vI p0.Rounds]])]) ?_ ?_
  ·skip
   refine wp_region_lit (Zd hE Za ld rfl fun a hE=>Zi hE Za ld rfl rfl rfl fun a hE=>Zd hE Za ld rfl ?_); intro a hE
   refine Xh (r5 != 1) (fun hb13=>?_) (fun hb13=>?_)
   ·have hl11:=Zu hl11 hb13
    refine Zd hE (Zl hE rfl (lkb rfl hb13)) (by decide) rfl fun a hE=>Ws hE (Zl hE rfl (lkb rfl hb13)) (by decide) rfl Try.underlying69 (hM.rd hv2_1) fun a hE=>Zi hE (Zl hE rfl (lkb rfl hb13)) (by decide) rfl rfl rfl fun a hE=>Zd hE (Zl hE rfl (lkb rfl hb13)) (by decide) rfl ?_; intro a hE
    refine Xh (decide ((p2.length : Int) < 1)) (fun hb14=>?_) (fun hb14=>?_)
    ·have hl11:=Zu hl11 hb14
     refine Zp hE rfl (lkb rfl hb14) rfl (by decide) fun a hE=>Zp hE rfl (lkb rfl hb14) rfl (by decide) fun a hE=>Zp hE rfl (lkb rfl hb14) rfl (by decide) fun a hE=>Z0 hE (Zl hE rfl (lkb rfl hb13)) (by decide) (lkb rfl hb14) rfl fun a hE=>Zd hE (Zl hE rfl (lkb rfl hb13)) (by decide) rfl fun a hE=>Zp hE rfl rfl rfl (by decide) fun a hE=>Zp hE rfl rfl rfl (by decide) fun a hE=>Zp hE rfl rfl rfl (by decide) fun a hE=>Z0 hE (Zl hE rfl (lkb rfl hb13)) (by decide) rfl rfl fun a hE=>Zd hE (Zl hE rfl (lkb rfl hb13)) (by decide) rfl fun a hE=>Zp hE rfl rfl rfl (by decide) fun a hE=>Zp hE rfl rfl rfl (by decide) ?_; intro a hE
     refine Z0 hE (Zl hE rfl (lkb rfl hb13)) (by decide) rfl rfl fun a hE=>Z0 hE Za ld (lkb rfl hb13) rfl fun a hE=>Zh ?_
     have ht15:=Option.some.inj hl11
     subst ht15
     refine Zj ?_
     exact ⟨hE.sub ⟨rfl,rfl,rfl,rfl,rfl,rfl,rfl,rfl,trivial⟩,hM⟩
    ·have hl11:=Zv hl11 hb14
     refine Zd hE (Zl hE rfl (lkb rfl hb14)) (by decide) rfl fun a hE=>Ws hE (Zl hE rfl (lkb rfl hb14)) (by decide) rfl Try.underlying69 (hM.rd hv2_1) fun a hE=>Zi hE (Zl hE rfl (lkb rfl hb14)) (by decide) rfl rfl rfl fun a hE=>Yb hE (Zl hE rfl (lkb rfl hb13)) (by decide) (lkb rfl hb14) rfl fun a hE=>Zd hE (Zl hE rfl (lkb rfl hb13)) (by decide) rfl ?_; intro a hE
     refine Xh (decide ((p2.length : Int) > 8)) (fun hb16=>?_) (fun hb16=>?_)
     ·have hl11:=Zu hl11 hb16
      refine Zp hE rfl (lkb rfl hb16) rfl (by decide) fun a hE=>Zp hE rfl (lkb rfl hb16) rfl (by decide) fun a hE=>Zp hE rfl (lkb rfl hb16) rfl (by decide) fun a hE=>Z0 hE (Zl hE rfl (lkb rfl hb13)) (by decide) (lkb rfl hb16) rfl fun a hE=>Zd hE (Zl hE rfl (lkb rfl hb13)) (by decide) rfl fun a hE=>Zp hE rfl rfl rfl (by decide) fun a hE=>Zp hE rfl rfl rfl (by decide) fun a hE=>Z0 hE (Zl hE rfl (lkb rfl hb13)) (by decide) rfl rfl fun a hE=>Z0 hE Za ld (lkb rfl hb13) rfl fun a hE=>Zh ?_
      have ht17:=Option.some.inj hl11
      subst ht17
      refine Zj ?_
      exact ⟨hE.sub ⟨rfl,rfl,rfl,rfl,rfl,rfl,rfl,rfl,trivial⟩,hM⟩
     ·have hl11:=Zv hl11 hb16
      refine Zd hE (Zl hE rfl (lkb rfl hb16)) (by decide) rfl ?_; intro a hE
      obtain ⟨r18,e19,hl11⟩:=bind_some hl11
      refine Zt hE (Zl hE rfl (lkb rfl hb16)) (by decide) rfl cb82 (VL _ p4 0 15 r18 e19) ?_
      rintro v w a ⟨rfl,hK⟩ hE
      have hM:=hM.keep hK
      refine Vf hE (Zl hE rfl (lkb rfl hb16)) (by decide) rfl fun a hE=>Yb hE (Zl hE rfl (lkb rfl hb13)) (by decide) (lkb rfl hb16) rfl fun a hE=>Zd hE (Zl hE rfl (lkb rfl hb13)) (by decide) rfl ?_; intro a hE
      refine Xh (!r18) (fun hb20=>?_) (fun hb20=>?_)
      ·have hl11:=Zu hl11 hb20
       refine Zp hE rfl (lkb rfl hb20) rfl (by decide) fun a hE=>Zp hE rfl (lkb rfl hb20) rfl (by decide) fun a hE=>Z0 hE (Zl hE rfl (lkb rfl hb13)) (by decide) (lkb rfl hb20) rfl fun a hE=>Z0 hE Za ld (lkb rfl hb13) rfl fun a hE=>Zh ?_
       have ht21:=Option.some.inj hl11
       subst ht21
       refine Zj ?_
       exact ⟨hE.sub ⟨rfl,rfl,rfl,rfl,rfl,rfl,rfl,rfl,trivial⟩,hM⟩
      ·have hl11:=Zv hl11 hb20
       refine Zd hE (Zl hE rfl (lkb rfl hb20)) (by decide) rfl fun a hE=>Zi hE (Zl hE rfl (lkb rfl hb20)) (by decide) rfl rfl rfl fun a hE=>Yb hE (Zl hE rfl (lkb rfl hb13)) (by decide) (lkb rfl hb20) rfl fun a hE=>Z0 hE Za ld (lkb rfl hb13) rfl fun a hE=>Zh ?_
       have ht22:=Option.some.inj hl11
       subst ht22
       refine Zj ?_
       exact ⟨hE.sub ⟨rfl,rfl,rfl,rfl,rfl,rfl,rfl,rfl,trivial⟩,hM⟩
   ·have hl11:=Zv hl11 hb13
    refine Zp hE rfl (lkb rfl hb13) rfl (by decide) fun a hE=>Zp hE rfl (lkb rfl hb13) rfl (by decide) fun a hE=>Zp hE rfl (lkb rfl hb13) rfl (by decide) fun a hE=>Zp hE rfl (lkb rfl hb13) rfl (by decide) fun a hE=>UJ hE rfl rfl (by decide) fun a hE=>UJ hE rfl rfl (by decide) fun a hE=>UJ hE rfl rfl (by decide) fun a hE=>Zp hE rfl (lkb rfl hb13) rfl (by decide) fun a hE=>Zp hE rfl (lkb rfl hb13) rfl (by decide) fun a hE=>UJ hE rfl rfl (by decide) fun a hE=>UJ hE rfl rfl (by decide) fun a hE=>UJ hE rfl rfl (by decide) ?_; intro a hE
    refine Zp hE rfl (lkb rfl hb13) rfl (by decide) fun a hE=>Zp hE rfl (lkb rfl hb13) rfl (by decide) fun a hE=>UJ hE rfl rfl (by decide) fun a hE=>UJ hE rfl rfl (by decide) fun a hE=>Zp hE rfl (lkb rfl hb13) rfl (by decide) fun a hE=>Yb hE Za ld (lkb rfl hb13) rfl fun a hE=>Zh ?_
    have ht23:=Option.some.inj hl11
    subst ht23
    refine Zj ?_
    exact ⟨hE.sub ⟨rfl,rfl,rfl,rfl,rfl,rfl,rfl,rfl,trivial⟩,hM⟩
  ·skip
   rintro a w ⟨hE,hM⟩
   refine Zq hE rfl ?_ ?_
   ·intro hb24
    have hF12:=Zu hF12 hb24
    refine wp_region_lit (Ze hE Za ld rfl fun a hE=>Zh ?_)
    have ht25:=Option.some.inj hF12
    subst ht25
    refine Zj ?_
    exact ⟨hE.sub ⟨rfl,rfl,rfl,rfl,rfl,rfl,rfl,trivial⟩,hM⟩
   ·intro hb24
    have hF12:=Zv hF12 hb24
    refine wp_skip ?_
    have ht26:=Option.some.inj hF12
    subst ht26
    refine Zj ?_
    exact ⟨hE.sub ⟨rfl,rfl,rfl,rfl,rfl,rfl,rfl,trivial⟩,hM⟩
 ·skip
  rintro a w ⟨hE,hM⟩
  refine wp_seq (Zc (Zd hE Za ld rfl fun a hE=>Zi hE Za ld rfl rfl rfl fun a hE=>Zf ?_))
  refine Zq hE rfl ?_ ?_
  ·intro hb27
   have hF9:=Zu hF9 hb27
   refine Zc (Zd hE Za ld rfl fun a hE=>Ze hE Za ld rfl fun a hE=>Ze hE Za ld rfl fun a hE=>Zf ?_)
   have hM:=M.nilS (α:=Int) NoB noB hM
   have hr:=Option.some.inj hF9
   subst hr
   have hM:=M.fst (l:=[_]) hM
   exact wp_ret (ZD (UP hE rfl (Zs hE rfl) (Zs hE rfl) ⟨_,rfl,(Value.slice none 0 0),rfl,hM.outF (Tn UM),hM.kept⟩))
  ·intro hb27
   have hF9:=Zv hF9 hb27
   refine wp_skip (Zw (wp_seq ?_))
   obtain ⟨x30,hi32,hF9⟩:=bix hF9
   obtain ⟨r33,e34,hF9⟩:=bind_some hF9
   obtain ⟨r36,e37,hF9⟩:=bind_some hF9
   refine Ut (n:=92) (hd:=[_,_,_,_,_,_,_,_,_,_,_,_]) (tl:=[_]) Wl rfl rfl [47,48,49,50,51,52,53,54,55,56,57,15] (by decide) (fun D u w=>M (Old w0) w0 w ([raw b3 (enc p1),raw b1 (cat [[vI p0.Field],enc p0.Box,enc p0.Mix,enc p0.Places,[vI p0.Rounds]])] ++ qL ([mkO 8 (fun v=>osl NoB (r33 : List (Vector UInt8 16)) v),mkO 11 (fun v=>UX v (enc (Vector.replicate 256 false)))] : Mk) D u) ∧ GOk ([([],fun us v=>v = (Value.agg (enc p0).toArray)),([],fun us v=>v = (Value.agg (enc p0).toArray)),([],fun us v=>v = (Value.agg (enc p1).toArray)),([],fun us v=>v = v2_1),([],fun us v=>v = (ptr (sb v2_1) (so v2_1 + ((0 : Int)).toNat * 16))),([],fun us v=>v = (Value.agg (enc x30).toArray)),([],fun us v=>v = (vI p3)),([],fun us v=>v = (vI p5)),([],fun us v=>True),([],fun us v=>v = (vI p4)),([],fun us v=>v = (Value.agg (enc r36).toArray)),([],fun us v=>True)] : Gs) D u) hE (fun u=>⟨M.qE (M.qE (M.q0 hM.drew u) emO) emO,Hb⟩) (ZQ (Zb ?_ (Zb ?_ (Zb ?_ (Zb ?_ (Zb ?_ (Zb ?_ (Zb ?_ (Zb ?_ (Zb ?_ (Zb ?_ (Zb ?_ (Zb ?_ ZJ))))))))))))) ?_
   ·intro a w ux29 D hE hI hD hdc hp
    have hM0:=hI.1
    have hM:=hI.1
    exact Zn (cs:=enc p0) hE Za ld rfl Uz rfl (hM.rawAt (pre:=[_])) (YF (cl1 (n:=1) (m:=289) rfl (cl1 (n:=256) (m:=33) (Flat.len _) (cl1 (n:=16) (m:=17) (Flat.len _) (cl1 (n:=16) (m:=1) (Flat.len _) (cl1 (n:=1) (m:=0) rfl cl0)))))) fun a hE=>⟨_,_,rfl,hE,M.qKeep hM0 rfl,hI.2.put hD rfl ZO rfl⟩
   ·intro a w ux29 D hE hI hD hdc hp
    have hM0:=hI.1
    have hM:=hI.1
    exact Zn (cs:=enc p0) hE Za ld rfl Uz rfl (hM.rawAt (pre:=[_])) (YF (cl1 (n:=1) (m:=289) rfl (cl1 (n:=256) (m:=33) (Flat.len _) (cl1 (n:=16) (m:=17) (Flat.len _) (cl1 (n:=16) (m:=1) (Flat.len _) (cl1 (n:=1) (m:=0) rfl cl0)))))) fun a hE=>⟨_,_,rfl,hE,M.qKeep hM0 rfl,hI.2.put hD rfl ZO rfl⟩
   ·intro a w ux29 D hE hI hD hdc hp
    have hM0:=hI.1
    have hM:=hI.1
    exact Zn (cs:=enc p1) hE Za ld rfl ZK rfl (hM.rawAt (pre:=[])) (Flat.len _) fun a hE=>⟨_,_,rfl,hE,M.qKeep hM0 rfl,hI.2.put hD rfl ZO rfl⟩
   ·intro a w ux29 D hE hI hD hdc hp
    have hM0:=hI.1
    exact Zd hE Za ld rfl fun a hE=>⟨_,_,rfl,hE,M.qKeep hM0 rfl,hI.2.put hD rfl ZO rfl⟩
   ·intro a w ux29 D hE hI hD hdc hp
    have d3 : D 3 = true:=hp 0 _ rfl rfl
    have g3:=hI.2 3 d3 _ rfl
    have f3 : ux29 3 = v2_1:=g3.2
    have hM0:=hI.1
    have hM:=hI.1
    exact Yk hE Za ld (lk rfl f3) rfl Try.underlying69 ZK (hM.rd hv2_1) hi32.1 fun a hE=>⟨_,_,rfl,hE,M.qKeep hM0 rfl,hI.2.put hD rfl ZO rfl⟩
   ·intro a w ux29 D hE hI hD hdc hp
    have d4 : D 4 = true:=hp 0 _ rfl rfl
    have g4:=hI.2 4 d4 _ rfl
    have f4 : ux29 4 = (ptr (sb v2_1) (so v2_1 + ((0 : Int)).toNat * 16)):=g4.2
    have hM0:=hI.1
    have hM:=hI.1
    exact Zn (cs:=enc x30) hE Za ld (lk rfl f4) ZK rfl (WD (hM.rd hv2_1) hi32.2) (Flat.len _) fun a hE=>⟨_,_,rfl,hE,M.qKeep hM0 rfl,hI.2.put hD rfl ZO rfl⟩
   ·intro a w ux29 D hE hI hD hdc hp
    have hM0:=hI.1
    exact Zd hE Za ld rfl fun a hE=>⟨_,_,rfl,hE,M.qKeep hM0 rfl,hI.2.put hD rfl ZO rfl⟩
   ·intro a w ux29 D hE hI hD hdc hp
    have hM0:=hI.1
    exact Zd hE Za ld rfl fun a hE=>⟨_,_,rfl,hE,M.qKeep hM0 rfl,hI.2.put hD rfl ZO rfl⟩
   ·intro a w ux29 D hE hI hD hdc hp
    have d1 : D 1 = true:=hp 0 _ rfl rfl
    have g1:=hI.2 1 d1 _ rfl
    have f1 : ux29 1 = (Value.agg (enc p0).toArray):=g1.2
    have d2 : D 2 = true:=hp 1 _ rfl rfl
    have g2:=hI.2 2 d2 _ rfl
    have f2 : ux29 2 = (Value.agg (enc p1).toArray):=g2.2
    have d5 : D 5 = true:=hp 2 _ rfl rfl
    have g5:=hI.2 5 d5 _ rfl
    have f5 : ux29 5 = (Value.agg (enc x30).toArray):=g5.2
    have d6 : D 6 = true:=hp 3 _ rfl rfl
    have g6:=hI.2 6 d6 _ rfl
    have f6 : ux29 6 = (vI p3):=g6.2
    have d7 : D 7 = true:=hp 4 _ rfl rfl
    have g7:=hI.2 7 d7 _ rfl
    have f7 : ux29 7 = (vI p5):=g7.2
    have hM0:=hI.1
    have hM:=hI.1
    refine Zt hE Za ld (Yl (Z1 (lk rfl f1) (Z1 (lk rfl f2) (Z1 (lk rfl f5) (Z1 (lk rfl f6) (Z1 (lk rfl f7) W3)))))) cb84 (TQ _ p0 p1 x30 p3 p5 r33 e34) ?_
    rintro _ w a ⟨_,rfl,hFr,hK⟩ hE
    have hM:=hM0.add hK hFr
    exact ⟨_,_,rfl,hE,M.qFill (mk1:=[]) (mk2:=[_]) (f:=(fun v=>osl NoB (r33 : List (Vector UInt8 16)) v)) hM rfl hD,hI.2.put hD rfl ZO trivial⟩
   ·intro a w ux29 D hE hI hD hdc hp
    have hM0:=hI.1
    exact Zd hE Za ld rfl fun a hE=>⟨_,_,rfl,hE,M.qKeep hM0 rfl,hI.2.put hD rfl ZO rfl⟩
   ·intro a w ux29 D hE hI hD hdc hp
    have d0 : D 0 = true:=hp 0 _ rfl rfl
    have g0:=hI.2 0 d0 _ rfl
    have f0 : ux29 0 = (Value.agg (enc p0).toArray):=g0.2
    have d8 : D 8 = true:=hp 1 _ rfl rfl
    have g8:=hI.2 8 d8 _ rfl
    have d9 : D 9 = true:=hp 2 _ rfl rfl
    have g9:=hI.2 9 d9 _ rfl
    have f9 : ux29 9 = (vI p4):=g9.2
    have hM0:=hI.1
    have hM:=hI.1.sure (pre:=[_,_]) d8
    refine Zt hE Za ld (Yl (Z1 (lk rfl f0) (Z1 rfl (Z1 (lk rfl f9) W3)))) cb83 (UZ _ p0 r33 (ux29 8) (hM.sl (pre:=[_,_]) noB) p4 r36 e37) ?_
    rintro v w a ⟨rfl,hK⟩ hE
    exact ⟨_,_,rfl,hE,M.qKeep (hM0.keep hK) rfl,hI.2.put hD rfl ZO rfl⟩
   ·intro a w ux29 D hE hI hD hdc hp
    have hM0:=hI.1
    have hM:=hI.1
    refine ZH hE hM Za ld V4 ?_; intro b38 w a hM hE
    have hM:=hM.pack1 (it:=UX _ (enc (Vector.replicate 256 false))) (fun w w' fp ⟨b',e,k⟩ hb=>⟨b',e,VZ w w' fp k hb⟩) (fun fp k=>⟨_,rfl,k⟩)
    exact ⟨_,_,rfl,hE,M.qFill (mk1:=[_]) (mk2:=[]) (f:=fun v=>UX v (enc (Vector.replicate 256 false))) hM rfl hD,hI.2.put hD rfl ZO trivial⟩
   ·intro a w ux29 D hE hI hall
    have hM : M (Old w0) w0 w [raw b3 (enc p1),raw b1 (cat [[vI p0.Field],enc p0.Box,enc p0.Mix,enc p0.Places,[vI p0.Rounds]]),opt (D 8) (osl NoB (r33 : List (Vector UInt8 16)) (ux29 8)),opt (D 11) (UX (ux29 11) (enc (Vector.replicate 256 false)))]:=hI.1
    have d0 : D 0 = true:=hall 0 (by decide)
    have d1 : D 1 = true:=hall 1 (by decide)
    have d2 : D 2 = true:=hall 2 (by decide)
    have d3 : D 3 = true:=hall 3 (by decide)
    have d4 : D 4 = true:=hall 4 (by decide)
    have d5 : D 5 = true:=hall 5 (by decide)
    have d6 : D 6 = true:=hall 6 (by decide)
    have d7 : D 7 = true:=hall 7 (by decide)
    have d8 : D 8 = true:=hall 8 (by decide)
    have d9 : D 9 = true:=hall 9 (by decide)
    have d10 : D 10 = true:=hall 10 (by decide)
    have d11 : D 11 = true:=hall 11 (by decide)
    have f0 : ux29 0 = (Value.agg (enc p0).toArray):=(hI.2 0 d0 _ rfl).2
    have f1 : ux29 1 = (Value.agg (enc p0).toArray):=(hI.2 1 d1 _ rfl).2
    have f2 : ux29 2 = (Value.agg (enc p1).toArray):=(hI.2 2 d2 _ rfl).2
    have f3 : ux29 3 = v2_1:=(hI.2 3 d3 _ rfl).2
    have f4 : ux29 4 = (ptr (sb v2_1) (so v2_1 + ((0 : Int)).toNat * 16)):=(hI.2 4 d4 _ rfl).2
    have f5 : ux29 5 = (Value.agg (enc x30).toArray):=(hI.2 5 d5 _ rfl).2
    have f6 : ux29 6 = (vI p3):=(hI.2 6 d6 _ rfl).2
    have f7 : ux29 7 = (vI p5):=(hI.2 7 d7 _ rfl).2
    have f9 : ux29 9 = (vI p4):=(hI.2 9 d9 _ rfl).2
    have f10 : ux29 10 = (Value.agg (enc r36).toArray):=(hI.2 10 d10 _ rfl).2
    have hM:=((hM.sure (pre:=[_,_]) d8).sure (pre:=[_,_,_]) d11).pull
    obtain ⟨_,⟨b40,f41,_⟩,_⟩:=hM.head
    have hM:=hM.pack1 VZ (it:=raw b40 (enc (Vector.replicate 256 false))) (fun fp ⟨b2,e2,k2⟩=>by rw [f41] at e2; simp [ptr] at e2; subst e2; exact k2)
    have hE:=hE.sub (e':=[(55,(ux29 8)),(57,(Value.agg (enc r36).toArray)),(15,(ptr b40 0)),(2,v2_1),(3,vI p3),(4,vI p4),(5,vI p5),(6,(ptr b1 0)),(7,(ptr b3 0))]) ⟨rfl,lk rfl f10,lk rfl f41,rfl,rfl,rfl,rfl,rfl,rfl,trivial⟩
    refine Zo (seg:=enc r36) (cs':=enc r36) hE hM Za rfl rfl rfl V4 (Flat.len _) (zle flq) (Flat.cell _) (Zr flq) fun w a hM hE=>Zh (Zw (wp_seq (Zc (Ze hE Za ld rfl fun a hE=>Zf ?_))))
    obtain ⟨j42,hl43,hF44⟩:=bind_some hF9
    refine ZL (fun a w=>Env 92 a [(15,(ptr b40 0))] ∧ M (Old w0) w0 w [raw b40 (enc j42)]) ?_ ?_
    ·skip
     refine wp_block ?_
     have hM:=M.fst (l:=[_,_,_]) (((hM.pull (pre:=[_,_])).pull (pre:=[_,_])).pull (pre:=[_,_]))
     refine ZF (fun (s45 : (Vector Bool 256) × Int) a w=>Env 92 a [(2,v2_1),(3,vI p3),(4,vI p4),(5,vI p5),(6,(ptr b1 0)),(7,(ptr b3 0)),(15,(ptr b40 0)),(16,vI s45.2)] ∧ M (Old w0) w0 w [raw b40 (enc s45.1),raw b3 (enc p1),raw b1 (cat [[vI p0.Field],enc p0.Box,enc p0.Mix,enc p0.Places,[vI p0.Rounds]])]) hl43 ⟨hE.sub ⟨rfl,rfl,rfl,rfl,rfl,rfl,rfl,rfl,trivial⟩,hM⟩ ?_
     rintro s45 a w ⟨hE,hM⟩ o48 hs46 hx47
     unfold Yn at hs46
     refine wp_seq (Zc (Zd hE Za ld rfl fun a hE=>Zd hE Za ld rfl fun a hE=>Ws hE Za ld rfl Try.underlying69 (hM.rd hv2_1) fun a hE=>Zi hE Za ld rfl rfl rfl fun a hE=>Zf ?_))
     refine Zq hE rfl ?_ ?_
     ·intro hb49
      have hs46:=Zu hs46 hb49
      refine wp_skip (Zw (wp_seq (wp_block (wp_seq ?_))))
      obtain ⟨x51,hi53,hs46⟩:=bix hs46
      obtain ⟨r54,e55,hs46⟩:=bind_some hs46
      obtain ⟨r57,e58,hs46⟩:=bind_some hs46
      refine Ut (n:=92) (hd:=[_,_,_,_,_,_,_,_,_,_,_,_,_]) (tl:=[_]) Wl rfl rfl [64,65,66,67,68,69,70,71,72,73,74,75,17] (by decide) (fun D u w=>M (Old w0) w0 w ([raw b40 (enc s45.1),raw b3 (enc p1),raw b1 (cat [[vI p0.Field],enc p0.Box,enc p0.Mix,enc p0.Places,[vI p0.Rounds]])] ++ qL ([mkO 9 (fun v=>osl NoB (r54 : List (Vector UInt8 16)) v),mkO 12 (fun v=>UX v (enc (Vector.replicate 256 false)))] : Mk) D u) ∧ GOk ([([],fun us v=>v = (Value.agg (enc p0).toArray)),([],fun us v=>v = (Value.agg (enc p0).toArray)),([],fun us v=>v = (Value.agg (enc p1).toArray)),([],fun us v=>v = v2_1),([],fun us v=>v = (vI s45.2)),([],fun us v=>v = (ptr (sb v2_1) (so v2_1 + (s45.2).toNat * 16))),([],fun us v=>v = (Value.agg (enc x51).toArray)),([],fun us v=>v = (vI p3)),([],fun us v=>v = (vI p5)),([],fun us v=>True),([],fun us v=>v = (vI p4)),([],fun us v=>v = (Value.agg (enc r57).toArray)),([],fun us v=>True)] : Gs) D u) hE (fun u=>⟨M.qE (M.qE (M.q0 hM.drew u) emO) emO,Hb⟩) (ZQ (Zb ?_ (Zb ?_ (Zb ?_ (Zb ?_ (Zb ?_ (Zb ?_ (Zb ?_ (Zb ?_ (Zb ?_ (Zb ?_ (Zb ?_ (Zb ?_ (Zb ?_ ZJ)))))))))))))) ?_
      ·intro a w ux50 D hE hI hD hdc hp
       have hM0:=hI.1
       have hM:=hI.1
       exact Zn (cs:=enc p0) hE Za ld rfl Uz rfl (hM.rawAt (pre:=[_,_])) (YF (cl1 (n:=1) (m:=289) rfl (cl1 (n:=256) (m:=33) (Flat.len _) (cl1 (n:=16) (m:=17) (Flat.len _) (cl1 (n:=16) (m:=1) (Flat.len _) (cl1 (n:=1) (m:=0) rfl cl0)))))) fun a hE=>⟨_,_,rfl,hE,M.qKeep hM0 rfl,hI.2.put hD rfl ZO rfl⟩
      ·intro a w ux50 D hE hI hD hdc hp
       have hM0:=hI.1
       have hM:=hI.1
       exact Zn (cs:=enc p0) hE Za ld rfl Uz rfl (hM.rawAt (pre:=[_,_])) (YF (cl1 (n:=1) (m:=289) rfl (cl1 (n:=256) (m:=33) (Flat.len _) (cl1 (n:=16) (m:=17) (Flat.len _) (cl1 (n:=16) (m:=1) (Flat.len _) (cl1 (n:=1) (m:=0) rfl cl0)))))) fun a hE=>⟨_,_,rfl,hE,M.qKeep hM0 rfl,hI.2.put hD rfl ZO rfl⟩
      ·intro a w ux50 D hE hI hD hdc hp
       have hM0:=hI.1
       have hM:=hI.1
       exact Zn (cs:=enc p1) hE Za ld rfl ZK rfl (hM.rawAt (pre:=[_])) (Flat.len _) fun a hE=>⟨_,_,rfl,hE,M.qKeep hM0 rfl,hI.2.put hD rfl ZO rfl⟩
      ·intro a w ux50 D hE hI hD hdc hp
       have hM0:=hI.1
       exact Zd hE Za ld rfl fun a hE=>⟨_,_,rfl,hE,M.qKeep hM0 rfl,hI.2.put hD rfl ZO rfl⟩
      ·intro a w ux50 D hE hI hD hdc hp
       have hM0:=hI.1
       exact Zd hE Za ld rfl fun a hE=>⟨_,_,rfl,hE,M.qKeep hM0 rfl,hI.2.put hD rfl ZO rfl⟩
      ·intro a w ux50 D hE hI hD hdc hp
       have d3 : D 3 = true:=hp 0 _ rfl rfl
       have g3:=hI.2 3 d3 _ rfl
       have f3 : ux50 3 = v2_1:=g3.2
       have d4 : D 4 = true:=hp 1 _ rfl rfl
       have g4:=hI.2 4 d4 _ rfl
       have f4 : ux50 4 = (vI s45.2):=g4.2
       have hM0:=hI.1
       have hM:=hI.1
       exact Yk hE Za ld (lk rfl f3) (lk rfl f4) Try.underlying69 ZK (hM.rd hv2_1) hi53.1 fun a hE=>⟨_,_,rfl,hE,M.qKeep hM0 rfl,hI.2.put hD rfl ZO rfl⟩
      ·intro a w ux50 D hE hI hD hdc hp
       have d5 : D 5 = true:=hp 0 _ rfl rfl
       have g5:=hI.2 5 d5 _ rfl
       have f5 : ux50 5 = (ptr (sb v2_1) (so v2_1 + (s45.2).toNat * 16)):=g5.2
       have hM0:=hI.1
       have hM:=hI.1
       exact Zn (cs:=enc x51) hE Za ld (lk rfl f5) ZK rfl (WD (hM.rd hv2_1) hi53.2) (Flat.len _) fun a hE=>⟨_,_,rfl,hE,M.qKeep hM0 rfl,hI.2.put hD rfl ZO rfl⟩
      ·intro a w ux50 D hE hI hD hdc hp
       have hM0:=hI.1
       exact Zd hE Za ld rfl fun a hE=>⟨_,_,rfl,hE,M.qKeep hM0 rfl,hI.2.put hD rfl ZO rfl⟩
      ·intro a w ux50 D hE hI hD hdc hp
       have hM0:=hI.1
       exact Zd hE Za ld rfl fun a hE=>⟨_,_,rfl,hE,M.qKeep hM0 rfl,hI.2.put hD rfl ZO rfl⟩
      ·intro a w ux50 D hE hI hD hdc hp
       have d1 : D 1 = true:=hp 0 _ rfl rfl
       have g1:=hI.2 1 d1 _ rfl
       have f1 : ux50 1 = (Value.agg (enc p0).toArray):=g1.2
       have d2 : D 2 = true:=hp 1 _ rfl rfl
       have g2:=hI.2 2 d2 _ rfl
       have f2 : ux50 2 = (Value.agg (enc p1).toArray):=g2.2
       have d6 : D 6 = true:=hp 2 _ rfl rfl
       have g6:=hI.2 6 d6 _ rfl
       have f6 : ux50 6 = (Value.agg (enc x51).toArray):=g6.2
       have d7 : D 7 = true:=hp 3 _ rfl rfl
       have g7:=hI.2 7 d7 _ rfl
       have f7 : ux50 7 = (vI p3):=g7.2
       have d8 : D 8 = true:=hp 4 _ rfl rfl
       have g8:=hI.2 8 d8 _ rfl
       have f8 : ux50 8 = (vI p5):=g8.2
       have hM0:=hI.1
       have hM:=hI.1
       refine Zt hE Za ld (Yl (Z1 (lk rfl f1) (Z1 (lk rfl f2) (Z1 (lk rfl f6) (Z1 (lk rfl f7) (Z1 (lk rfl f8) W3)))))) cb84 (TQ _ p0 p1 x51 p3 p5 r54 e55) ?_
       rintro _ w a ⟨_,rfl,hFr,hK⟩ hE
       have hM:=hM0.add hK hFr
       exact ⟨_,_,rfl,hE,M.qFill (mk1:=[]) (mk2:=[_]) (f:=(fun v=>osl NoB (r54 : List (Vector UInt8 16)) v)) hM rfl hD,hI.2.put hD rfl ZO trivial⟩
      ·intro a w ux50 D hE hI hD hdc hp
       have hM0:=hI.1
       exact Zd hE Za ld rfl fun a hE=>⟨_,_,rfl,hE,M.qKeep hM0 rfl,hI.2.put hD rfl ZO rfl⟩
      ·intro a w ux50 D hE hI hD hdc hp
       have d0 : D 0 = true:=hp 0 _ rfl rfl
       have g0:=hI.2 0 d0 _ rfl
       have f0 : ux50 0 = (Value.agg (enc p0).toArray):=g0.2
       have d9 : D 9 = true:=hp 1 _ rfl rfl
       have g9:=hI.2 9 d9 _ rfl
       have d10 : D 10 = true:=hp 2 _ rfl rfl
       have g10:=hI.2 10 d10 _ rfl
       have f10 : ux50 10 = (vI p4):=g10.2
       have hM0:=hI.1
       have hM:=hI.1.sure (pre:=[_,_,_]) d9
       refine Zt hE Za ld (Yl (Z1 (lk rfl f0) (Z1 rfl (Z1 (lk rfl f10) W3)))) cb83 (UZ _ p0 r54 (ux50 9) (hM.sl (pre:=[_,_,_]) noB) p4 r57 e58) ?_
       rintro v w a ⟨rfl,hK⟩ hE
       exact ⟨_,_,rfl,hE,M.qKeep (hM0.keep hK) rfl,hI.2.put hD rfl ZO rfl⟩
      ·intro a w ux50 D hE hI hD hdc hp
       have hM0:=hI.1
       have hM:=hI.1
       refine ZH hE hM Za ld V4 ?_; intro b59 w a hM hE
       have hM:=hM.pack1 (it:=UX _ (enc (Vector.replicate 256 false))) (fun w w' fp ⟨b',e,k⟩ hb=>⟨b',e,VZ w w' fp k hb⟩) (fun fp k=>⟨_,rfl,k⟩)
       exact ⟨_,_,rfl,hE,M.qFill (mk1:=[_]) (mk2:=[]) (f:=fun v=>UX v (enc (Vector.replicate 256 false))) hM rfl hD,hI.2.put hD rfl ZO trivial⟩
      ·intro a w ux50 D hE hI hall
       have hM : M (Old w0) w0 w [raw b40 (enc s45.1),raw b3 (enc p1),raw b1 (cat [[vI p0.Field],enc p0.Box,enc p0.Mix,enc p0.Places,[vI p0.Rounds]]),opt (D 9) (osl NoB (r54 : List (Vector UInt8 16)) (ux50 9)),opt (D 12) (UX (ux50 12) (enc (Vector.replicate 256 false)))]:=hI.1
       have d0 : D 0 = true:=hall 0 (by decide)
       have d1 : D 1 = true:=hall 1 (by decide)
       have d2 : D 2 = true:=hall 2 (by decide)
       have d3 : D 3 = true:=hall 3 (by decide)
       have d4 : D 4 = true:=hall 4 (by decide)
       have d5 : D 5 = true:=hall 5 (by decide)
       have d6 : D 6 = true:=hall 6 (by decide)
       have d7 : D 7 = true:=hall 7 (by decide)
       have d8 : D 8 = true:=hall 8 (by decide)
       have d9 : D 9 = true:=hall 9 (by decide)
       have d10 : D 10 = true:=hall 10 (by decide)
       have d11 : D 11 = true:=hall 11 (by decide)
       have d12 : D 12 = true:=hall 12 (by decide)
       have f0 : ux50 0 = (Value.agg (enc p0).toArray):=(hI.2 0 d0 _ rfl).2
       have f1 : ux50 1 = (Value.agg (enc p0).toArray):=(hI.2 1 d1 _ rfl).2
       have f2 : ux50 2 = (Value.agg (enc p1).toArray):=(hI.2 2 d2 _ rfl).2
       have f3 : ux50 3 = v2_1:=(hI.2 3 d3 _ rfl).2
       have f4 : ux50 4 = (vI s45.2):=(hI.2 4 d4 _ rfl).2
       have f5 : ux50 5 = (ptr (sb v2_1) (so v2_1 + (s45.2).toNat * 16)):=(hI.2 5 d5 _ rfl).2
       have f6 : ux50 6 = (Value.agg (enc x51).toArray):=(hI.2 6 d6 _ rfl).2
       have f7 : ux50 7 = (vI p3):=(hI.2 7 d7 _ rfl).2
       have f8 : ux50 8 = (vI p5):=(hI.2 8 d8 _ rfl).2
       have f10 : ux50 10 = (vI p4):=(hI.2 10 d10 _ rfl).2
       have f11 : ux50 11 = (Value.agg (enc r57).toArray):=(hI.2 11 d11 _ rfl).2
       have hM:=((hM.sure (pre:=[_,_,_]) d9).sure (pre:=[_,_,_,_]) d12).pull
       obtain ⟨_,⟨b61,f62,_⟩,_⟩:=hM.head
       have hM:=hM.pack1 VZ (it:=raw b61 (enc (Vector.replicate 256 false))) (fun fp ⟨b2,e2,k2⟩=>by rw [f62] at e2; simp [ptr] at e2; subst e2; exact k2)
       have hE:=hE.sub (e':=[(73,(ux50 9)),(75,(Value.agg (enc r57).toArray)),(17,(ptr b61 0)),(2,v2_1),(3,vI p3),(4,vI p4),(5,vI p5),(6,(ptr b1 0)),(7,(ptr b3 0)),(15,(ptr b40 0)),(16,vI s45.2),(58,vI s45.2),(59,v2_1),(60,(vI (p2.length : Int))),(61,(vT (decide (s45.2 < (p2.length : Int)))))]) ⟨rfl,lk rfl f11,lk rfl f62,rfl,rfl,rfl,rfl,rfl,rfl,rfl,rfl,rfl,rfl,rfl,rfl,trivial⟩
       refine Zo (seg:=enc r57) (cs':=enc r57) hE hM Za rfl rfl rfl V4 (Flat.len _) (zle flq) (Flat.cell _) (Zr flq) fun w a hM hE=>Zh (Zw (Zc (Ze hE Za ld rfl fun a hE=>Zf ?_)))
       obtain ⟨j63,hl64,hF65⟩:=bind_some hs46
       refine ZL (fun a w=>Env 92 a [(2,v2_1),(3,vI p3),(4,vI p4),(5,vI p5),(6,(ptr b1 0)),(7,(ptr b3 0)),(15,(ptr b40 0)),(16,vI s45.2)] ∧ M (Old w0) w0 w [raw b40 (enc j63),raw b3 (enc p1),raw b1 (cat [[vI p0.Field],enc p0.Box,enc p0.Mix,enc p0.Places,[vI p0.Rounds]])]) ?_ ?_
       ·skip
        refine wp_block ?_
        have hM:=M.fst (l:=[_,_,_,_]) ((((hM.pull (pre:=[_,_,_])).pull (pre:=[_,_,_])).pull (pre:=[_,_,_])).pull (pre:=[_,_,_]))
        refine ZF (fun (s66 : (Vector Bool 256) × Int) a w=>Env 92 a [(2,v2_1),(3,vI p3),(4,vI p4),(5,vI p5),(6,(ptr b1 0)),(7,(ptr b3 0)),(15,(ptr b40 0)),(16,vI s45.2),(17,(ptr b61 0)),(18,vI s66.2)] ∧ M (Old w0) w0 w [raw b61 (enc r57),raw b40 (enc s66.1),raw b3 (enc p1),raw b1 (cat [[vI p0.Field],enc p0.Box,enc p0.Mix,enc p0.Places,[vI p0.Rounds]])]) hl64 ⟨hE.sub ⟨rfl,rfl,rfl,rfl,rfl,rfl,rfl,rfl,rfl,rfl,trivial⟩,hM⟩ ?_
        rintro s66 a w ⟨hE,hM⟩ o69 hs67 hx68
        unfold Yp at hs67
        refine wp_seq (Zc (Zd hE Za ld rfl fun a hE=>Zi hE Za ld rfl rfl rfl fun a hE=>Zf ?_))
        refine Zq hE rfl ?_ ?_
        ·intro hb70
         have hs67:=Zu hs67 hb70
         refine wp_skip (Zw (wp_seq (wp_block ?_)))
         obtain ⟨j71,hl72,hF73⟩:=bind_some hs67
         refine ZL (fun a w=>Env 92 a [(2,v2_1),(3,vI p3),(4,vI p4),(5,vI p5),(6,(ptr b1 0)),(7,(ptr b3 0)),(15,(ptr b40 0)),(16,vI s45.2),(17,(ptr b61 0)),(18,vI s66.2)] ∧ M (Old w0) w0 w [raw b61 (enc r57),raw b40 (enc j71),raw b3 (enc p1),raw b1 (cat [[vI p0.Field],enc p0.Box,enc p0.Mix,enc p0.Places,[vI p0.Rounds]])]) ?_ ?_
         ·skip
          refine wp_region_lit (Zd hE Za ld rfl fun a hE=>Zd hE Za ld rfl ?_); intro a hE
          obtain ⟨x75,hi74,hl72⟩:=bvx hl72
          refine Zg hE Za ld rfl rfl Try.underlying117 ty4 hi74.1 fun a hE=>ZC (v:=(vT x75)) hE Za ld rfl ty4 rfl (At.vec (hM.rawAt (pre:=[_])) hi74.2) fun a hE=>Zd hE Za ld rfl ?_; intro a hE
          refine Xh x75 (fun hb77=>?_) (fun hb77=>?_)
          ·have hl72:=Zu hl72 hb77
           refine Zd hE (Zl hE rfl (lkb rfl hb77)) (by decide) rfl ?_; intro a hE
           obtain ⟨x79,hi78,hl72⟩:=bvx hl72
           refine Zg hE (Zl hE rfl (lkb rfl hb77)) (by decide) rfl rfl Try.underlying117 ty4 hi78.1 fun a hE=>ZC (v:=(vT x79)) hE (Zl hE rfl (lkb rfl hb77)) (by decide) rfl ty4 rfl (At.vec (hM.rawAt (pre:=[])) hi78.2) fun a hE=>Z0 hE Za ld (lkb rfl hb77) rfl ?_; intro a hE
           obtain ⟨x82,hi81,hl72⟩:=bvx hl72
           refine Zg hE Za ld rfl rfl Try.underlying117 ty4 hi81.1 ?_; intro a hE
           have hM:=hM.pull (pre:=[_])
           refine Zo (seg:=[vT x79]) (cs':=enc (s66.1.setIfInBounds (s66.2).toNat x79)) hE hM Za rfl rfl rfl ty4 rfl (ZG (v:=s66.1) (x:=x79) hi81.1) (Flat.cell (x79 : Bool)) (Zz (v:=s66.1) (x:=x79) hi81.1) fun w a hM hE=>Zh ?_
           have ht84:=Option.some.inj hl72
           subst ht84
           refine Zj ?_
           have hM:=(((hM.pull (pre:=[_,_,_])).pull (pre:=[_,_,_])).pull (pre:=[_,_])).pull (pre:=[_,_,_])
           exact ⟨hE.sub ⟨rfl,rfl,rfl,rfl,rfl,rfl,rfl,rfl,rfl,rfl,trivial⟩,hM⟩
          ·have hl72:=Zv hl72 hb77
           refine Zp hE rfl (lkb rfl hb77) rfl (by decide) fun a hE=>Zp hE rfl (lkb rfl hb77) rfl (by decide) fun a hE=>Zp hE rfl (lkb rfl hb77) rfl (by decide) fun a hE=>Yb hE Za ld (lkb rfl hb77) rfl ?_; intro a hE
           obtain ⟨x86,hi85,hl72⟩:=bvx hl72
           refine Zg hE Za ld rfl rfl Try.underlying117 ty4 hi85.1 ?_; intro a hE
           have hM:=hM.pull (pre:=[_])
           refine Zo (seg:=[vT false]) (cs':=enc (s66.1.setIfInBounds (s66.2).toNat false)) hE hM Za rfl rfl rfl ty4 rfl (ZG (v:=s66.1) (x:=false) hi85.1) (Flat.cell (false : Bool)) (Zz (v:=s66.1) (x:=false) hi85.1) fun w a hM hE=>Zh ?_
           have ht88:=Option.some.inj hl72
           subst ht88
           refine Zj ?_
           have hM:=(((hM.pull (pre:=[_,_,_])).pull (pre:=[_,_,_])).pull (pre:=[_,_])).pull (pre:=[_,_,_])
           exact ⟨hE.sub ⟨rfl,rfl,rfl,rfl,rfl,rfl,rfl,rfl,rfl,rfl,trivial⟩,hM⟩
         ·skip
          rintro a w ⟨hE,hM⟩
          refine Z9 (Zw (wp_region_lit (Zd hE Za ld rfl fun a hE=>Zi hE Za ld rfl rfl rfl fun a hE=>Ze hE Za ld rfl fun a hE=>Zh (Zj ?_))))
          exact ⟨_,(ois hF73),hE.sub ⟨rfl,rfl,rfl,rfl,rfl,rfl,rfl,rfl,rfl,rfl,trivial⟩,hM⟩
        ·intro hb70
         have hs67:=Zv hs67 hb70
         refine wp_exit (Zm (Zm (Yf ?_)))
         have ht89:=hx68 _ (ois hs67)
         subst ht89
         refine Zj ?_
         have hM:=M.fst (l:=[_,_,_]) (((hM.pull (pre:=[_,_,_])).pull (pre:=[_,_,_])).pull (pre:=[_,_,_]))
         exact ⟨hE.sub ⟨rfl,rfl,rfl,rfl,rfl,rfl,rfl,rfl,trivial⟩,hM⟩
       ·skip
        rintro a w ⟨hE,hM⟩
        refine Z9 (Zw (wp_region_lit (Zd hE Za ld rfl fun a hE=>Zi hE Za ld rfl rfl rfl fun a hE=>Ze hE Za ld rfl fun a hE=>Zh (Zj ?_))))
        exact ⟨_,(ois hF65),hE.sub ⟨rfl,rfl,rfl,rfl,rfl,rfl,rfl,rfl,trivial⟩,hM⟩
     ·intro hb49
      have hs46:=Zv hs46 hb49
      refine wp_exit (Zm (Zm (Yf ?_)))
      have ht90:=hx47 _ (ois hs46)
      subst ht90
      refine Zj ?_
      have hM:=M.fst (l:=[_]) hM
      exact ⟨hE.sub ⟨rfl,trivial⟩,hM⟩
    ·skip
     rintro a w ⟨hE,hM⟩
     refine Zw (Zc (Zn (cs:=enc j42) hE Za ld rfl V4 rfl (hM.rawAt (pre:=[])) (Flat.len _) ?_)); intro a hE
     obtain ⟨r91,e92,hF44⟩:=bind_some hF44
     refine Zt hE Za ld rfl cb85 (Kn _ j42 r91 e92) ?_
     rintro u93 w a ⟨_,rfl,hFr,hK⟩ hE
     have hM:=hM.add hK hFr
     refine Ze hE Za ld rfl fun a hE=>Ze hE Za ld rfl fun a hE=>Zf ?_
     have hr:=Option.some.inj hF44
     subst hr
     have hM:=M.fst (l:=[_]) hM
     exact wp_ret (UP hE rfl (Zs hE rfl) (Zs hE rfl) ⟨_,rfl,u93,rfl,hM.outF (Tn UM),hM.kept⟩)
def YO (p0 : Int) (p1 : Int) (p2 : Int) : Option (Bool) :=
 (if (decide (p1 ≤ p0)) = true then (some (decide (p0 ≤ p2))) else (some false) : Option (Bool)).bind fun j1=>some j1
theorem W9 (w0 : World) (p0 : Int) (p1 : Int) (p2 : Int) (r : Bool) (hF : YO p0 p1 p2 = some r) :
  Calls Try.prog 49 [vI p0,vI p1,vI p2].toArray w0 (fun en w'=>∃ v,en = .returned v ∧ (v = (vT r) ∧ Kept (Old w0) w0 w')):=by
 refine ZB (n:=15) Try.func49 rfl rfl (nbl rfl) rfl ?_
 intro a hE
 have hM:=M.start w0
 unfold YO at hF
 refine Zc (Ze hE Za ld rfl fun a hE=>Zf ?_)
 obtain ⟨j1,hl2,hF3⟩:=bind_some hF
 refine ZM (fun a w=>Env 15 a [(6,vT j1)] ∧ M (Old w0) w0 w []) ?_ ?_
 ·skip
  refine wp_region_lit (Zd hE Za ld rfl fun a hE=>Zd hE Za ld rfl fun a hE=>Zi hE Za ld rfl rfl rfl fun a hE=>Zd hE Za ld rfl ?_); intro a hE
  refine Xh (decide (p1 ≤ p0)) (fun hb4=>?_) (fun hb4=>?_)
  ·have hl2:=Zu hl2 hb4
   refine Zd hE (Zl hE rfl (lkb rfl hb4)) (by decide) rfl fun a hE=>Zd hE (Zl hE rfl (lkb rfl hb4)) (by decide) rfl fun a hE=>Zi hE (Zl hE rfl (lkb rfl hb4)) (by decide) rfl rfl rfl fun a hE=>Z0 hE Za ld (lkb rfl hb4) rfl fun a hE=>Ze hE Za ld rfl fun a hE=>Zh ?_
   have ht5:=Option.some.inj hl2
   subst ht5
   refine Zj ?_
   exact ⟨hE.sub ⟨rfl,trivial⟩,hM⟩
  ·have hl2:=Zv hl2 hb4
   refine Zp hE rfl (lkb rfl hb4) rfl (by decide) fun a hE=>Zp hE rfl (lkb rfl hb4) rfl (by decide) fun a hE=>Zp hE rfl (lkb rfl hb4) rfl (by decide) fun a hE=>Yb hE Za ld (lkb rfl hb4) rfl fun a hE=>Ze hE Za ld rfl fun a hE=>Zh ?_
   have ht6:=Option.some.inj hl2
   subst ht6
   refine Zj ?_
   exact ⟨hE.sub ⟨rfl,trivial⟩,hM⟩
 ·skip
  rintro a w ⟨hE,hM⟩
  have hr:=Option.some.inj hF3
  subst hr
  exact wp_ret (Zx hE rfl (Zs hE rfl) ⟨_,rfl,rfl,hM.kept⟩)
def Vu (p1 : Int) (p2 : Int) (s4 : Int × Int) : Option (Fl (Int × Int) Int) :=
 if (decide (s4.2 ≥ p2)) = true then (((Wm s4.2).bind fun _=>(if ((andI (shrI s4.1 s4.2) 1) == 1) = true then ((Wm (wr (s4.2 - p2))).bind fun _=>some (JS s4.1 (QM p1 (wr (s4.2 - p2))))) else (some s4.1) : Option (Int)).bind fun j13=>some j13 : Option (Int)).bind fun j9=>some (Fl.nx (j9,wr (s4.2 - 1)))) else (some (Fl.ex s4.1))
def W8 (p0 : Int) (p1 : Int) (p2 : Int) : Option (Int) :=
 (ZE (Vu p1 p2) (p0,15)).bind fun j1=>some j1
theorem Q9 (w0 : World) (p0 : Int) (p1 : Int) (p2 : Int) (r : Int) (hF : W8 p0 p1 p2 = some r) :
  Calls Try.prog 98 [vI p0,vI p1,vI p2].toArray w0 (fun en w'=>∃ v,en = .returned v ∧ (v = (vI r) ∧ Kept (Old w0) w0 w')):=by
 refine ZB (n:=26) Try.func98 rfl rfl (nbl rfl) rfl ?_
 intro a hE
 have hM:=M.start w0
 unfold W8 at hF
 refine Zc (Ze hE Za ld rfl fun a hE=>Zf (wp_seq (Zc (Ze hE Za ld rfl fun a hE=>Zf ?_))))
 obtain ⟨j1,hl2,hF3⟩:=bind_some hF
 refine ZL (fun a w=>Env 26 a [(0,vI j1)] ∧ M (Old w0) w0 w []) ?_ ?_
 ·skip
  refine wp_block ?_
  refine ZF (fun (s4 : Int × Int) a w=>Env 26 a [(0,vI s4.1),(1,vI p1),(2,vI p2),(7,vI s4.2)] ∧ M (Old w0) w0 w []) hl2 ⟨hE.sub ⟨rfl,rfl,rfl,rfl,trivial⟩,hM⟩ ?_
  rintro s4 a w ⟨hE,hM⟩ o7 hs5 hx6
  unfold Vu at hs5
  refine wp_seq (Zc (Zd hE Za ld rfl fun a hE=>Zd hE Za ld rfl fun a hE=>Zi hE Za ld rfl rfl rfl fun a hE=>Zf ?_))
  refine Zq hE rfl ?_ ?_
  ·intro hb8
   have hs5:=Zu hs5 hb8
   refine wp_skip (Zw ?_)
   obtain ⟨j9,hl10,hF11⟩:=bind_some hs5
   refine ZM (fun a w=>Env 26 a [(0,vI j9),(1,vI p1),(2,vI p2),(7,vI s4.2)] ∧ M (Old w0) w0 w []) ?_ ?_
   ·skip
    refine wp_block (Zc (Zd hE Za ld rfl fun a hE=>Zd hE Za ld rfl ?_)); intro a hE
    obtain ⟨_,e12,hl10⟩:=bind_some hl10
    have e12:=Vl e12
    refine H8 hE Za ld rfl rfl (bI_shr _ _ e12) fun a hE=>Zi hE Za ld rfl rfl rfl fun a hE=>Zi hE Za ld rfl rfl rfl fun a hE=>Zf ?_
    obtain ⟨j13,hl14,hF15⟩:=bind_some hl10
    refine ZL (fun a w=>Env 26 a [(0,vI j13),(1,vI p1),(2,vI p2),(7,vI s4.2)] ∧ M (Old w0) w0 w []) ?_ ?_
    ·skip
     refine Zq hE rfl ?_ ?_
     ·intro hb16
      have hl14:=Zu hl14 hb16
      refine wp_region_lit (Zd hE Za ld rfl fun a hE=>Zd hE Za ld rfl fun a hE=>Zd hE Za ld rfl fun a hE=>Zd hE Za ld rfl fun a hE=>Zi hE Za ld rfl rfl rfl ?_); intro a hE
      obtain ⟨_,e17,hl14⟩:=bind_some hl14
      have e17:=Vl e17
      refine H8 hE Za ld rfl rfl (Ky _ _ e17) fun a hE=>Zi hE Za ld rfl rfl rfl fun a hE=>Ze hE Za ld rfl fun a hE=>Zh ?_
      have ht18:=Option.some.inj hl14
      subst ht18
      refine Zj ?_
      exact ⟨hE.sub ⟨rfl,rfl,rfl,rfl,trivial⟩,hM⟩
     ·intro hb16
      have hl14:=Zv hl14 hb16
      refine wp_skip ?_
      have ht19:=Option.some.inj hl14
      subst ht19
      refine Zj ?_
      exact ⟨hE.sub ⟨rfl,rfl,rfl,rfl,trivial⟩,hM⟩
    ·skip
     rintro a w ⟨hE,hM⟩
     refine Z9 ?_
     have ht20:=Option.some.inj hF15
     subst ht20
     refine Zj ?_
     exact ⟨hE.sub ⟨rfl,rfl,rfl,rfl,trivial⟩,hM⟩
   ·skip
    rintro a w ⟨hE,hM⟩
    refine wp_region_lit (Zd hE Za ld rfl fun a hE=>Zi hE Za ld rfl rfl rfl fun a hE=>Ze hE Za ld rfl fun a hE=>Zh (Zj ?_))
    exact ⟨_,(ois hF11),hE.sub ⟨rfl,rfl,rfl,rfl,trivial⟩,hM⟩
  ·intro hb8
   have hs5:=Zv hs5 hb8
   refine wp_exit (Zm (Zm (Yf ?_)))
   have ht21:=hx6 _ (ois hs5)
   subst ht21
   refine Zj ?_
   exact ⟨hE.sub ⟨rfl,trivial⟩,hM⟩
 ·skip
  rintro a w ⟨hE,hM⟩
  refine Zw (Zc (Zd hE Za ld rfl fun a hE=>Ze hE Za ld rfl fun a hE=>Zf ?_))
  have hr:=Option.some.inj hF3
  subst hr
  exact wp_ret (Zx hE rfl (Zs hE rfl) ⟨_,rfl,rfl,hM.kept⟩)
def X1 (p0 : Int) (s8 : Int) (s18 : Int) : Option (Fl Int (Fl Unit Bool)) :=
 (Wm s8).bind fun _=>if (decide (s18 < (QM 2 s8))) = true then ((W8 p0 s18 s8).bind fun r24=>if (r24 == 0) = true then (some (Fl.ex (Fl.ex false))) else (some (Fl.nx (wr (s18 + 1))))) else (some (Fl.ex (Fl.nx ())))
def X5 (p0 : Int) (s8 : Int) : Option (Fl Int (Fl Unit Bool)) :=
 if (decide (s8 ≤ 4)) = true then ((Wm s8).bind fun _=>(ZE (X1 p0 s8) (QM 1 s8)).bind fun j14=>j14.el (fun s17=>some (Fl.nx (wr (s8 + 1)))) (fun r=>some (Fl.ex (Fl.ex r)))) else (some (Fl.ex (Fl.nx ())))
def Vm (p0 : Int) : Option (Bool) :=
 (YO p0 256 511).bind fun r1=>if (!r1) = true then (some false) else ((ZE (X5 p0) 1).bind fun j4=>j4.el (fun s7=>some true) (fun r=>some r))
end

end Go.Proofs.Ytpjogonponkbmaa
