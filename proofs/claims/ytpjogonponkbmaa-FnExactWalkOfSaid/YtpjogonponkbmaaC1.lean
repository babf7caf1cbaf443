/- The walk of what the law reaches: contracts of functions. -/
import Derived.Test.YtpjogonponkbmaaK2
import Derived.Test.YtpjogonponkbmaaProg
set_option linter.unusedVariables false
set_option linter.unusedSimpArgs false
set_option maxRecDepth 20000
set_option maxHeartbeats 400000
namespace Go.Proofs.Ytpjogonponkbmaa
open Go
open Flat (enc)
noncomputable section
structure GCipher where
 Field : Int
 Box : (Vector UInt8 256)
 Mix : (Vector (Vector UInt8 4) 4)
 Places : (Vector UInt8 16)
 Rounds : Int
 deriving DecidableEq,Inhabited
instance : Dat GCipher:=⟨fun x=>Dat.bd (α:=Int × (Vector UInt8 256) × (Vector (Vector UInt8 4) 4) × (Vector UInt8 16) × Int) (x.Field,x.Box,x.Mix,x.Places,x.Rounds),fun x=>Dat.sz (α:=Int × (Vector UInt8 256) × (Vector (Vector UInt8 4) 4) × (Vector UInt8 16) × Int) (x.Field,x.Box,x.Mix,x.Places,x.Rounds) + 1⟩
instance : Flat GCipher where
 n:=290
 enc x:=cat [enc x.Field,enc x.Box,enc x.Mix,enc x.Places,enc x.Rounds]
 len x:=ZZ (cl1 (Flat.len _) (cl1 (Flat.len _) (cl1 (Flat.len _) (cl1 (Flat.len _) (cl1 (Flat.len _) cl0)))))
 cell x:=Ta (cc1 (Flat.cell _) (cc1 (Flat.cell _) (cc1 (Flat.cell _) (cc1 (Flat.cell _) (cc1 (Flat.cell _) cc0)))))
structure Gengine where
 box : (Vector UInt8 256)
 backBox : (Vector UInt8 256)
 places : (Vector UInt8 16)
 backPlaces : (Vector UInt8 16)
 mixer : (Ref (Vector (Vector (Vector UInt8 256) 4) 4))
 backMixer : (Ref (Vector (Vector (Vector UInt8 256) 4) 4))
 rounds : Int
 deriving DecidableEq,Inhabited
instance : Dat Gengine:=⟨fun x=>Dat.bd (α:=(Vector UInt8 256) × (Vector UInt8 256) × (Vector UInt8 16) × (Vector UInt8 16) × (Ref (Vector (Vector (Vector UInt8 256) 4) 4)) × (Ref (Vector (Vector (Vector UInt8 256) 4) 4)) × Int) (x.box,x.backBox,x.places,x.backPlaces,x.mixer,x.backMixer,x.rounds),fun x=>Dat.sz (α:=(Vector UInt8 256) × (Vector UInt8 256) × (Vector UInt8 16) × (Vector UInt8 16) × (Ref (Vector (Vector (Vector UInt8 256) 4) 4)) × (Ref (Vector (Vector (Vector UInt8 256) 4) 4)) × Int) (x.box,x.backBox,x.places,x.backPlaces,x.mixer,x.backMixer,x.rounds) + 1⟩
instance : Rep Gengine:=repIso (α:=(Vector UInt8 256) × (Vector UInt8 256) × (Vector UInt8 16) × (Vector UInt8 16) × (Ref (Vector (Vector (Vector UInt8 256) 4) 4)) × (Ref (Vector (Vector (Vector UInt8 256) 4) 4)) × Int) (fun x=>(x.box,x.backBox,x.places,x.backPlaces,x.mixer,x.backMixer,x.rounds))
theorem Jn {S : Nat → Prop} {w : World} {x : Gengine} {cs : List Value} {fp : List Nat} (h : Rep.sat S w x cs fp) : ∃ (u1 : Value) (u2 : Value),∃ (g1 : List Nat) (g2 : List Nat),cs = cat [enc x.box,enc x.backBox,enc x.places,enc x.backPlaces,[u1],[u2],enc x.rounds] ∧ fp = (g1 ++ g2) ∧ Rep.sat S w x.mixer [u1] g1 ∧ Rep.sat S w x.backMixer [u2] g2:=by
 obtain ⟨c0,d0,f0,q0,rfl,rfl,h0,hr0⟩:=h
 obtain ⟨rfl,rfl⟩:=h0
 obtain ⟨c1,d1,f1,q1,rfl,rfl,h1,hr1⟩:=hr0
 obtain ⟨rfl,rfl⟩:=h1
 obtain ⟨c2,d2,f2,q2,rfl,rfl,h2,hr2⟩:=hr1
 obtain ⟨rfl,rfl⟩:=h2
 obtain ⟨c3,d3,f3,q3,rfl,rfl,h3,hr3⟩:=hr2
 obtain ⟨rfl,rfl⟩:=h3
 obtain ⟨c4,d4,f4,q4,rfl,rfl,h4,hr4⟩:=hr3
 obtain ⟨u1,rfl⟩:=Uy h4
 obtain ⟨c5,d5,f5,q5,rfl,rfl,h5,hr5⟩:=hr4
 obtain ⟨u2,rfl⟩:=Uy h5
 obtain ⟨rfl,rfl⟩:=hr5
 exact ⟨u1,u2,_,_,rfl,by simp,h4,h5⟩
theorem Bw {S : Nat → Prop} {w : World} {x : Gengine} {u1 u2 : Value} {fp : List Nat} (h : Rep.sat S w x (cat [enc x.box,enc x.backBox,enc x.places,enc x.backPlaces,[u1],[u2],enc x.rounds]) fp) : ∃ (g1 : List Nat) (g2 : List Nat),fp = (g1 ++ g2) ∧ Rep.sat S w x.mixer [u1] g1 ∧ Rep.sat S w x.backMixer [u2] g2:=by
 obtain ⟨w1,w2,g1,g2,hc,hf,s1,s2⟩:=Jn h
 obtain ⟨e1,k1⟩:=V6 hc rfl
 obtain ⟨e2,k2⟩:=V6 k1 rfl
 obtain ⟨e3,k3⟩:=V6 k2 rfl
 obtain ⟨e4,k4⟩:=V6 k3 rfl
 obtain ⟨e5,k5⟩:=V6 k4 rfl
 obtain ⟨e6,k6⟩:=V6 k5 rfl
 obtain rfl:=(List.cons.inj e5).1
 obtain rfl:=(List.cons.inj e6).1
 exact ⟨g1,g2,hf,s1,s2⟩
theorem Vx {S : Nat → Prop} {w : World} {x : Gengine} {cs : List Value} (h : Rep.sat S w x cs []) : ∃ u1 u2,cs = cat [enc x.box,enc x.backBox,enc x.places,enc x.backPlaces,[u1],[u2],enc x.rounds] ∧ Rep.sat S w x.mixer [u1] [] ∧ Rep.sat S w x.backMixer [u2] []:=by
 obtain ⟨c0,d0,f0,g0,rfl,hf0,h0,hr0⟩:=h
 obtain ⟨rfl,rfl⟩:=List.append_eq_nil_iff.1 hf0.symm
 obtain ⟨rfl,_⟩:=h0
 obtain ⟨c1,d1,f1,g1,rfl,hf1,h1,hr1⟩:=hr0
 obtain ⟨rfl,rfl⟩:=List.append_eq_nil_iff.1 hf1.symm
 obtain ⟨rfl,_⟩:=h1
 obtain ⟨c2,d2,f2,g2,rfl,hf2,h2,hr2⟩:=hr1
 obtain ⟨rfl,rfl⟩:=List.append_eq_nil_iff.1 hf2.symm
 obtain ⟨rfl,_⟩:=h2
 obtain ⟨c3,d3,f3,g3,rfl,hf3,h3,hr3⟩:=hr2
 obtain ⟨rfl,rfl⟩:=List.append_eq_nil_iff.1 hf3.symm
 obtain ⟨rfl,_⟩:=h3
 obtain ⟨c4,d4,f4,g4,rfl,hf4,h4,hr4⟩:=hr3
 obtain ⟨rfl,rfl⟩:=List.append_eq_nil_iff.1 hf4.symm
 obtain ⟨u1,rfl⟩:=Uy h4
 obtain ⟨c5,d5,f5,g5,rfl,hf5,h5,hr5⟩:=hr4
 obtain ⟨rfl,rfl⟩:=List.append_eq_nil_iff.1 hf5.symm
 obtain ⟨u2,rfl⟩:=Uy h5
 obtain ⟨rfl,_⟩:=hr5
 exact ⟨u1,u2,rfl,h4,h5⟩
theorem Jt {S : Nat → Prop} {w : World} {x : Gengine} {u1 u2 : Value} {g1 g2 fp : List Nat} (h1 : Rep.sat S w x.mixer [u1] g1) (h2 : Rep.sat S w x.backMixer [u2] g2) (hfp : fp = (g1 ++ g2)) : Rep.sat S w x (cat [enc x.box,enc x.backBox,enc x.places,enc x.backPlaces,[u1],[u2],enc x.rounds]) fp:=by
 rw [hfp]
 refine ⟨_,_,[],(g1 ++ g2),rfl,(by simp),⟨rfl,rfl⟩,?_⟩
 refine ⟨_,_,[],(g1 ++ g2),rfl,(by simp),⟨rfl,rfl⟩,?_⟩
 refine ⟨_,_,[],(g1 ++ g2),rfl,(by simp),⟨rfl,rfl⟩,?_⟩
 refine ⟨_,_,[],(g1 ++ g2),rfl,(by simp),⟨rfl,rfl⟩,?_⟩
 refine ⟨_,_,g1,g2,rfl,(by simp),h1,?_⟩
 refine ⟨_,_,g2,[],rfl,(by simp),h2,?_⟩
 exact ⟨rfl,rfl⟩
structure Gkeyed where
 engine : (Ref Gengine)
 keys : (List (Vector UInt8 16))
 deriving DecidableEq,Inhabited
instance : Dat Gkeyed:=⟨fun x=>Dat.bd (α:=(Ref Gengine) × (List (Vector UInt8 16))) (x.engine,x.keys),fun x=>Dat.sz (α:=(Ref Gengine) × (List (Vector UInt8 16))) (x.engine,x.keys) + 1⟩
instance : Rep Gkeyed:=repIso (α:=(Ref Gengine) × (List (Vector UInt8 16))) (fun x=>(x.engine,x.keys))
theorem JP {S : Nat → Prop} {w : World} {x : Gkeyed} {cs : List Value} {fp : List Nat} (h : Rep.sat S w x cs fp) : ∃ (u1 : Value) (u2 : Value),∃ (g1 : List Nat) (g2 : List Nat),cs = cat [[u1],[u2]] ∧ fp = (g1 ++ g2) ∧ Rep.sat S w x.engine [u1] g1 ∧ Rep.sat S w x.keys [u2] g2:=by
 obtain ⟨c0,d0,f0,q0,rfl,rfl,h0,hr0⟩:=h
 obtain ⟨u1,rfl⟩:=Uy h0
 obtain ⟨u2,rfl⟩:=HC hr0
 exact ⟨u1,u2,_,_,rfl,by simp,h0,hr0⟩
theorem unc_Gkeyed {S : Nat → Prop} {w : World} {x : Gkeyed} {u1 u2 : Value} {fp : List Nat} (h : Rep.sat S w x (cat [[u1],[u2]]) fp) : ∃ (g1 : List Nat) (g2 : List Nat),fp = (g1 ++ g2) ∧ Rep.sat S w x.engine [u1] g1 ∧ Rep.sat S w x.keys [u2] g2:=by
 obtain ⟨w1,w2,g1,g2,hc,hf,s1,s2⟩:=JP h
 obtain ⟨e1,k1⟩:=V6 hc rfl
 obtain rfl:=(List.cons.inj e1).1
 obtain rfl:=(List.cons.inj k1).1
 exact ⟨g1,g2,hf,s1,s2⟩
theorem un_Gkeyed {S : Nat → Prop} {w : World} {x : Gkeyed} {cs : List Value} (h : Rep.sat S w x cs []) : ∃ u1 u2,cs = cat [[u1],[u2]] ∧ Rep.sat S w x.engine [u1] [] ∧ Rep.sat S w x.keys [u2] []:=by
 obtain ⟨c0,d0,f0,g0,rfl,hf0,h0,hr0⟩:=h
 obtain ⟨rfl,rfl⟩:=List.append_eq_nil_iff.1 hf0.symm
 obtain ⟨u1,rfl⟩:=Uy h0
 obtain ⟨u2,rfl⟩:=HC hr0
 exact ⟨u1,u2,rfl,h0,hr0⟩
theorem pk_Gkeyed {S : Nat → Prop} {w : World} {x : Gkeyed} {u1 u2 : Value} {g1 g2 fp : List Nat} (h1 : Rep.sat S w x.engine [u1] g1) (h2 : Rep.sat S w x.keys [u2] g2) (hfp : fp = (g1 ++ g2)) : Rep.sat S w x (cat [[u1],[u2]]) fp:=by
 rw [hfp]
 refine ⟨_,_,g1,g2,rfl,(by simp),h1,?_⟩
 exact h2
theorem ty2 : Ty Try.prog 2 (.int .i64) 1 8 (enc (0 : Int)):=⟨Try.underlying2,by kernel_rfl⟩
theorem ty4 : Ty Try.prog 4 .bool 1 1 (enc false):=⟨Try.underlying4,by kernel_rfl⟩
theorem ty5 : Ty Try.prog 5 (.int .u8) 1 1 (enc (0 : UInt8)):=⟨Try.underlying5,by kernel_rfl⟩
theorem K2 : Ty Try.prog 41 (.array 256 5) 256 256 (enc (Vector.replicate 256 (0 : UInt8))):=⟨Try.underlying41,by kernel_rfl⟩
theorem ZV : Ty Try.prog 42 (.array 4 5) 4 4 (enc (Vector.replicate 4 (0 : UInt8))):=⟨Try.underlying42,by kernel_rfl⟩
theorem ty43 : Ty Try.prog 43 (.array 4 42) 16 16 (enc (Vector.replicate 4 (Vector.replicate 4 (0 : UInt8)))):=⟨Try.underlying43,by kernel_rfl⟩
theorem ty44 : Ty Try.prog 44 (.array 16 5) 16 16 (enc (Vector.replicate 16 (0 : UInt8))):=⟨Try.underlying44,by kernel_rfl⟩
theorem Jw : Ty Try.prog 46 (.struct [{ name := "Field", type := 2, offset := 0, embedded := false, tag := "", pkgPath := "", byteOffset := 0 }, { name := "Box", type := 41, offset := 1, embedded := false, tag := "", pkgPath := "", byteOffset := 8 }, { name := "Mix", type := 43, offset := 257, embedded := false, tag := "", pkgPath := "", byteOffset := 264 }, { name := "Places", type := 44, offset := 273, embedded := false, tag := "", pkgPath := "", byteOffset := 280 }, { name := "Rounds", type := 2, offset := 289, embedded := false, tag := "", pkgPath := "", byteOffset := 296 }].toArray) 290 304 (enc (⟨(0 : Int), (Vector.replicate 256 (0 : UInt8)), (Vector.replicate 4 (Vector.replicate 4 (0 : UInt8))), (Vector.replicate 16 (0 : UInt8)), (0 : Int)⟩ : GCipher)) := ⟨Try.underlying46, by kernel_rfl⟩
theorem Vl : Ty Try.prog 49 (.array 256 5) 256 256 (enc (Vector.replicate 256 (0 : UInt8))):=⟨Try.underlying49,by kernel_rfl⟩
theorem Yi : Ty Try.prog 50 (.array 4 42) 16 16 (enc (Vector.replicate 4 (Vector.replicate 4 (0 : UInt8)))):=⟨Try.underlying50,by kernel_rfl⟩
theorem Vg : Ty Try.prog 51 (.array 16 5) 16 16 (enc (Vector.replicate 16 (0 : UInt8))):=⟨Try.underlying51,by kernel_rfl⟩
theorem VQ : Ty Try.prog 53 (.struct [{ name := "Field", type := 2, offset := 0, embedded := false, tag := "", pkgPath := "", byteOffset := 0 }, { name := "Box", type := 49, offset := 1, embedded := false, tag := "", pkgPath := "", byteOffset := 8 }, { name := "Mix", type := 50, offset := 257, embedded := false, tag := "", pkgPath := "", byteOffset := 264 }, { name := "Places", type := 51, offset := 273, embedded := false, tag := "", pkgPath := "", byteOffset := 280 }, { name := "Rounds", type := 2, offset := 289, embedded := false, tag := "", pkgPath := "", byteOffset := 296 }].toArray) 290 304 (enc (⟨(0 : Int), (Vector.replicate 256 (0 : UInt8)), (Vector.replicate 4 (Vector.replicate 4 (0 : UInt8))), (Vector.replicate 16 (0 : UInt8)), (0 : Int)⟩ : GCipher)) := ⟨Try.underlying53, by kernel_rfl⟩
theorem ZL : Ty Try.prog 55 (.array 16 5) 16 16 (enc (Vector.replicate 16 (0 : UInt8))):=⟨Try.underlying55,by kernel_rfl⟩
theorem ty69 : Ty Try.prog 69 (.slice 55) 1 24 [.slice none 0 0]:=⟨Try.underlying69,by kernel_rfl⟩
theorem ty98 : Ty Try.prog 98 (.pointer 157) 1 8 [.pointer none]:=⟨Try.underlying98,by kernel_rfl⟩
theorem UM : Ty Try.prog 100 (.struct [{ name := "engine", type := 98, offset := 0, embedded := false, tag := "", pkgPath := "loop.example/g01182/impl", byteOffset := 0 }, { name := "keys", type := 69, offset := 1, embedded := false, tag := "", pkgPath := "loop.example/g01182/impl", byteOffset := 8 }].toArray) 2 32 (cat [[.pointer none], [.slice none 0 0]]) := ⟨Try.underlying100, by kernel_rfl⟩
theorem Kp : Ty Try.prog 117 (.array 256 4) 256 256 (enc (Vector.replicate 256 false)):=⟨Try.underlying117,by kernel_rfl⟩
theorem HY : Ty Try.prog 154 (.pointer 180) 1 8 [.pointer none]:=⟨Try.underlying154,by kernel_rfl⟩
theorem T1 : Ty Try.prog 157 (.struct [{ name := "box", type := 49, offset := 0, embedded := false, tag := "", pkgPath := "loop.example/g01182/impl", byteOffset := 0 }, { name := "backBox", type := 49, offset := 256, embedded := false, tag := "", pkgPath := "loop.example/g01182/impl", byteOffset := 256 }, { name := "places", type := 51, offset := 512, embedded := false, tag := "", pkgPath := "loop.example/g01182/impl", byteOffset := 512 }, { name := "backPlaces", type := 51, offset := 528, embedded := false, tag := "", pkgPath := "loop.example/g01182/impl", byteOffset := 528 }, { name := "mixer", type := 154, offset := 544, embedded := false, tag := "", pkgPath := "loop.example/g01182/impl", byteOffset := 544 }, { name := "backMixer", type := 154, offset := 545, embedded := false, tag := "", pkgPath := "loop.example/g01182/impl", byteOffset := 552 }, { name := "rounds", type := 2, offset := 546, embedded := false, tag := "", pkgPath := "loop.example/g01182/impl", byteOffset := 560 }].toArray) 547 568 (cat [(enc (Vector.replicate 256 (0 : UInt8))), (enc (Vector.replicate 256 (0 : UInt8))), (enc (Vector.replicate 16 (0 : UInt8))), (enc (Vector.replicate 16 (0 : UInt8))), [.pointer none], [.pointer none], (enc (0 : Int))]) := ⟨Try.underlying157, by kernel_rfl⟩
theorem HI : Ty Try.prog 170 (.array 16 4) 16 16 (enc (Vector.replicate 16 false)):=⟨Try.underlying170,by kernel_rfl⟩
theorem Qt : Ty Try.prog 178 (.array 4 41) 1024 1024 (enc (Vector.replicate 4 (Vector.replicate 256 (0 : UInt8)))):=⟨Try.underlying178,by kernel_rfl⟩
theorem ty180 : Ty Try.prog 180 (.array 4 178) 4096 4096 (enc (Vector.replicate 4 (Vector.replicate 4 (Vector.replicate 256 (0 : UInt8))))):=⟨Try.underlying180,by kernel_rfl⟩
theorem fd46_0 : Fd Try.prog 46 0 0:=W0 Jw.und rfl rfl ty2 (by decide)
theorem fd46_1 : Fd Try.prog 46 1 1:=W0 Jw.und rfl rfl K2 (by decide)
theorem fd46_2 : Fd Try.prog 46 2 257:=W0 Jw.und rfl rfl ty43 (by decide)
theorem fd46_3 : Fd Try.prog 46 3 273:=W0 Jw.und rfl rfl ty44 (by decide)
theorem fd46_4 : Fd Try.prog 46 4 289:=W0 Jw.und rfl rfl ty2 (by decide)
theorem V3 : Fd Try.prog 53 0 0:=W0 VQ.und rfl rfl ty2 (by decide)
theorem U1 : Fd Try.prog 53 1 1:=W0 VQ.und rfl rfl Vl (by decide)
theorem Tx : Fd Try.prog 53 2 257:=W0 VQ.und rfl rfl Yi (by decide)
theorem TU : Fd Try.prog 53 3 273:=W0 VQ.und rfl rfl Vg (by decide)
theorem TR : Fd Try.prog 53 4 289:=W0 VQ.und rfl rfl ty2 (by decide)
theorem Bt : Fd Try.prog 100 0 0:=W0 UM.und rfl rfl ty98 (by decide)
theorem Bf : Fd Try.prog 100 1 1:=W0 UM.und rfl rfl ty69 (by decide)
theorem Kq : Fd Try.prog 157 0 0:=W0 T1.und rfl rfl Vl (by decide)
theorem fd157_1 : Fd Try.prog 157 1 256:=W0 T1.und rfl rfl Vl (by decide)
theorem Be : Fd Try.prog 157 2 512:=W0 T1.und rfl rfl Vg (by decide)
theorem fd157_3 : Fd Try.prog 157 3 528:=W0 T1.und rfl rfl Vg (by decide)
theorem Bu : Fd Try.prog 157 4 544:=W0 T1.und rfl rfl HY (by decide)
theorem fd157_5 : Fd Try.prog 157 5 545:=W0 T1.und rfl rfl HY (by decide)
theorem fd157_6 : Fd Try.prog 157 6 546:=W0 T1.und rfl rfl ty2 (by decide)
theorem pl100 : Places Try.prog [{ name := "engine", type := 98, offset := 0, embedded := false, tag := "", pkgPath := "loop.example/g01182/impl", byteOffset := 0 }, { name := "keys", type := 69, offset := 1, embedded := false, tag := "", pkgPath := "loop.example/g01182/impl", byteOffset := 8 }] [(0, 1), (1, 1)] := by show _ = _; kernel_rfl
theorem pl157 : Places Try.prog [{ name := "box", type := 49, offset := 0, embedded := false, tag := "", pkgPath := "loop.example/g01182/impl", byteOffset := 0 }, { name := "backBox", type := 49, offset := 256, embedded := false, tag := "", pkgPath := "loop.example/g01182/impl", byteOffset := 256 }, { name := "places", type := 51, offset := 512, embedded := false, tag := "", pkgPath := "loop.example/g01182/impl", byteOffset := 512 }, { name := "backPlaces", type := 51, offset := 528, embedded := false, tag := "", pkgPath := "loop.example/g01182/impl", byteOffset := 528 }, { name := "mixer", type := 154, offset := 544, embedded := false, tag := "", pkgPath := "loop.example/g01182/impl", byteOffset := 544 }, { name := "backMixer", type := 154, offset := 545, embedded := false, tag := "", pkgPath := "loop.example/g01182/impl", byteOffset := 552 }, { name := "rounds", type := 2, offset := 546, embedded := false, tag := "", pkgPath := "loop.example/g01182/impl", byteOffset := 560 }] [(0, 256), (256, 256), (512, 16), (528, 16), (544, 1), (545, 1), (546, 1)] := by show _ = _; kernel_rfl
theorem Wa : Try.prog.follows .mixedOrders = true:=by kernel_rfl
theorem cb24 : Callable Try.prog 24:=⟨_,_,Try.func24,by decide,rfl⟩
theorem cb25 : Callable Try.prog 25:=⟨_,_,Try.func25,by decide,rfl⟩
theorem cb26 : Callable Try.prog 26:=⟨_,_,Try.func26,by decide,rfl⟩
theorem cb27 : Callable Try.prog 27:=⟨_,_,Try.func27,by decide,rfl⟩
theorem cb43 : Callable Try.prog 43:=⟨_,_,Try.func43,by decide,rfl⟩
theorem cb47 : Callable Try.prog 47:=⟨_,_,Try.func47,by decide,rfl⟩
theorem cb49 : Callable Try.prog 49:=⟨_,_,Try.func49,by decide,rfl⟩
theorem cb63 : Callable Try.prog 63:=⟨_,_,Try.func63,by decide,rfl⟩
theorem cb64 : Callable Try.prog 64:=⟨_,_,Try.func64,by decide,rfl⟩
theorem cb65 : Callable Try.prog 65:=⟨_,_,Try.func65,by decide,rfl⟩
theorem cb66 : Callable Try.prog 66:=⟨_,_,Try.func66,by decide,rfl⟩
theorem cb67 : Callable Try.prog 67:=⟨_,_,Try.func67,by decide,rfl⟩
theorem cb68 : Callable Try.prog 68:=⟨_,_,Try.func68,by decide,rfl⟩
theorem cb69 : Callable Try.prog 69:=⟨_,_,Try.func69,by decide,rfl⟩
theorem cb70 : Callable Try.prog 70:=⟨_,_,Try.func70,by decide,rfl⟩
theorem cb71 : Callable Try.prog 71:=⟨_,_,Try.func71,by decide,rfl⟩
theorem cb73 : Callable Try.prog 73:=⟨_,_,Try.func73,by decide,rfl⟩
theorem cb74 : Callable Try.prog 74:=⟨_,_,Try.func74,by decide,rfl⟩
theorem cb75 : Callable Try.prog 75:=⟨_,_,Try.func75,by decide,rfl⟩
theorem cb77 : Callable Try.prog 77:=⟨_,_,Try.func77,by decide,rfl⟩
theorem cb82 : Callable Try.prog 82:=⟨_,_,Try.func82,by decide,rfl⟩
theorem cb95 : Callable Try.prog 95:=⟨_,_,Try.func95,by decide,rfl⟩
theorem cb98 : Callable Try.prog 98:=⟨_,_,Try.func98,by decide,rfl⟩
theorem cb101 : Callable Try.prog 101:=⟨_,_,Try.func101,by decide,rfl⟩
theorem cb102 : Callable Try.prog 102:=⟨_,_,Try.func102,by decide,rfl⟩
theorem cb111 : Callable Try.prog 111:=⟨_,_,Try.func111,by decide,rfl⟩
theorem cb112 : Callable Try.prog 112:=⟨_,_,Try.func112,by decide,rfl⟩
theorem cb113 : Callable Try.prog 113:=⟨_,_,Try.func113,by decide,rfl⟩
theorem cb114 : Callable Try.prog 114:=⟨_,_,Try.func114,by decide,rfl⟩
theorem cb115 : Callable Try.prog 115:=⟨_,_,Try.func115,by decide,rfl⟩
theorem cb116 : Callable Try.prog 116:=⟨_,_,Try.func116,by decide,rfl⟩
theorem cb118 : Callable Try.prog 118:=⟨_,_,Try.func118,by decide,rfl⟩
theorem cb119 : Callable Try.prog 119:=⟨_,_,Try.func119,by decide,rfl⟩
theorem cb120 : Callable Try.prog 120:=⟨_,_,Try.func120,by decide,rfl⟩
theorem cb122 : Callable Try.prog 122:=⟨_,_,Try.func122,by decide,rfl⟩
theorem cb123 : Callable Try.prog 123:=⟨_,_,Try.func123,by decide,rfl⟩
theorem cb124 : Callable Try.prog 124:=⟨_,_,Try.func124,by decide,rfl⟩
theorem cb125 : Callable Try.prog 125:=⟨_,_,Try.func125,by decide,rfl⟩
theorem cb126 : Callable Try.prog 126:=⟨_,_,Try.func126,by decide,rfl⟩
theorem cb127 : Callable Try.prog 127:=⟨_,_,Try.func127,by decide,rfl⟩
theorem cb128 : Callable Try.prog 128:=⟨_,_,Try.func128,by decide,rfl⟩
theorem cb129 : Callable Try.prog 129:=⟨_,_,Try.func129,by decide,rfl⟩
theorem cb130 : Callable Try.prog 130:=⟨_,_,Try.func130,by decide,rfl⟩
theorem cb131 : Callable Try.prog 131:=⟨_,_,Try.func131,by decide,rfl⟩
theorem cb132 : Callable Try.prog 132:=⟨_,_,Try.func132,by decide,rfl⟩
theorem cb133 : Callable Try.prog 133:=⟨_,_,Try.func133,by decide,rfl⟩
theorem cb134 : Callable Try.prog 134:=⟨_,_,Try.func134,by decide,rfl⟩
theorem HK : Callable Try.prog 139:=⟨_,_,Try.func139,by decide,rfl⟩
theorem TZ : Callable Try.prog 140:=⟨_,_,Try.func140,by decide,rfl⟩
theorem TX : Callable Try.prog 144:=⟨_,_,Try.func144,by decide,rfl⟩
theorem cb149 : Callable Try.prog 149:=⟨_,_,Try.func149,by decide,rfl⟩
theorem cb150 : Callable Try.prog 150:=⟨_,_,Try.func150,by decide,rfl⟩
theorem cb152 : Callable Try.prog 152:=⟨_,_,Try.func152,by decide,rfl⟩
theorem cb153 : Callable Try.prog 153:=⟨_,_,Try.func153,by decide,rfl⟩
theorem cb154 : Callable Try.prog 154:=⟨_,_,Try.func154,by decide,rfl⟩
theorem cb156 : Callable Try.prog 156:=⟨_,_,Try.func156,by decide,rfl⟩
theorem cb157 : Callable Try.prog 157:=⟨_,_,Try.func157,by decide,rfl⟩
theorem cb158 : Callable Try.prog 158:=⟨_,_,Try.func158,by decide,rfl⟩
theorem cb159 : Callable Try.prog 159:=⟨_,_,Try.func159,by decide,rfl⟩
theorem cb160 : Callable Try.prog 160:=⟨_,_,Try.func160,by decide,rfl⟩
def Va (p0 : (Vector UInt8 256)) (s10 : (Vector UInt8 256) × Int) : Option (Fl ((Vector UInt8 256) × Int) (Vector UInt8 256)) :=
 if (decide (s10.2 < 256)) = true then ((Zq p0 s10.2).bind fun x16=>(Zq s10.1 s10.2).bind fun x19=>some (Fl.nx ((s10.1.setIfInBounds (s10.2).toNat x16),wr (s10.2 + 1)))) else (some (Fl.ex s10.1))
def WV (p0 : (Vector UInt8 256)) : Option ((Vector UInt8 256)) :=
 (ZD (Va p0) ((Vector.replicate 256 (0 : UInt8)),0)).bind fun j7=>some j7
theorem KH (w0 : World) (p0 : (Vector UInt8 256)) (r : (Vector UInt8 256)) (hF : WV p0 = some r) :
  Calls Try.prog 65 [(Value.agg (enc p0).toArray)].toArray w0 (fun en w'=>∃ v,en = .returned v ∧ (v = (Value.agg (enc r).toArray) ∧ Kept (Old w0) w0 w')):=by
 refine ZB (n:=15) Try.func65 rfl rfl (nbl rfl) rfl ?_
 intro a hE
 have hM:=M.start w0
 unfold WV at hF
 refine Zc (ZR (cs:=enc p0) hE hM Za ld rfl rfl fun b1 w a hM hE=>ZF hE hM Za ld Vl fun b3 w a hM hE=>Zf (Zc (ZF hE hM Za ld Vl fun b5 w a hM hE=>Zf (wp_seq (Zc (Ze hE Za ld rfl fun a hE=>Zf ?_))))))
 obtain ⟨j7,hl8,hF9⟩:=bind_some hF
 refine ZU (fun a w=>Env 15 a [(2,(ptr b3 0)),(3,(ptr b5 0))] ∧ M (Old w0) w0 w [raw b5 (enc j7),raw b3 (enc (Vector.replicate 256 (0 : UInt8)))]) ?_ ?_
 ·skip
  refine wp_block ?_
  refine ZG (fun (s10 : (Vector UInt8 256) × Int) a w=>Env 15 a [(1,(ptr b1 0)),(2,(ptr b3 0)),(3,(ptr b5 0)),(4,vI s10.2)] ∧ M (Old w0) w0 w [raw b5 (enc s10.1),raw b3 (enc (Vector.replicate 256 (0 : UInt8))),raw b1 (enc p0)]) hl8 ⟨hE.sub ⟨rfl,rfl,rfl,rfl,trivial⟩,hM⟩ ?_
  rintro s10 a w ⟨hE,hM⟩ o13 hs11 hx12
  unfold Va at hs11
  refine wp_seq (Zc (Zd hE Za ld rfl fun a hE=>Zi hE Za ld rfl rfl rfl fun a hE=>Zf ?_))
  refine Zw hE rfl ?_ ?_
  ·intro hb14
   have hs11:=Zz hs11 hb14
   refine wp_skip (Zy (wp_seq (wp_block (wp_region_lit (Zd hE Za ld rfl fun a hE=>Zd hE Za ld rfl ?_))))); intro a hE
   obtain ⟨x16,hi15,hs11⟩:=bvx hs11
   refine Zg hE Za ld rfl rfl Try.underlying41 ty5 hi15.1 fun a hE=>Zu (v:=(vB x16)) hE Za ld rfl ty5 rfl (At.vec (hM.rawAt (pre:=[_,_])) hi15.2) ?_; intro a hE
   obtain ⟨x19,hi18,hs11⟩:=bvx hs11
   refine Zg hE Za ld rfl rfl Try.underlying49 ty5 hi18.1 fun a hE=>Zm (seg:=[vB x16]) (cs':=enc (s10.1.setIfInBounds (s10.2).toNat x16)) hE hM Za rfl rfl rfl ty5 rfl (ZE (v:=s10.1) (x:=x16) hi18.1) (Flat.cell (x16 : UInt8)) (Zs (v:=s10.1) (x:=x16) hi18.1) fun w a hM hE=>Zj (Yg (Zy (wp_region_lit (Zd hE Za ld rfl fun a hE=>Zi hE Za ld rfl rfl rfl fun a hE=>Ze hE Za ld rfl fun a hE=>Zj (Zk ?_)))))
   exact ⟨_,(ois hs11),hE.sub ⟨rfl,rfl,rfl,rfl,trivial⟩,hM⟩
  ·intro hb14
   have hs11:=ZA hs11 hb14
   refine wp_exit (Zo (Zo (Yt ?_)))
   have ht21:=hx12 _ (ois hs11)
   subst ht21
   refine Zk ?_
   have hM:=M.fst (l:=[_,_]) ((hM.pull (pre:=[_])).pull (pre:=[_]))
   exact ⟨hE.sub ⟨rfl,rfl,trivial⟩,hM⟩
 ·skip
  rintro a w ⟨hE,hM⟩
  refine Zy (Zc (Zl (cs:=enc j7) hE Za ld rfl Vl rfl (hM.rawAt (pre:=[])) (Flat.len _) ?_)); intro a hE
  have hM:=hM.pull (pre:=[_])
  refine Zm (seg:=enc j7) (cs':=enc j7) hE hM Za rfl rfl rfl Vl (Flat.len _) (zle flq) (Flat.cell _) (Zn flq) fun w a hM hE=>Zf ?_
  have hr:=Option.some.inj hF9
  subst hr
  have hq22 : Yy Try.prog _ _ (.cell 2 49) _:=ZX hE rfl Vl rfl (hM.rawAt (pre:=[])) (Flat.len _) rfl
  have hM:=M.fst (l:=[]) hM
  exact wp_ret (ZC hE rfl hq22 ⟨_,rfl,rfl,hM.kept⟩)
def Wx (p0 : (Vector UInt8 4)) (s10 : (Vector UInt8 4) × Int) : Option (Fl ((Vector UInt8 4) × Int) (Vector UInt8 4)) :=
 if (decide (s10.2 < 4)) = true then ((Zq p0 s10.2).bind fun x16=>(Zq s10.1 s10.2).bind fun x19=>some (Fl.nx ((s10.1.setIfInBounds (s10.2).toNat x16),wr (s10.2 + 1)))) else (some (Fl.ex s10.1))
def XZ (p0 : (Vector UInt8 4)) : Option ((Vector UInt8 4)) :=
 (ZD (Wx p0) ((Vector.replicate 4 (0 : UInt8)),0)).bind fun j7=>some j7
theorem Qi (w0 : World) (p0 : (Vector UInt8 4)) (r : (Vector UInt8 4)) (hF : XZ p0 = some r) :
  Calls Try.prog 111 [(Value.agg (enc p0).toArray)].toArray w0 (fun en w'=>∃ v,en = .returned v ∧ (v = (Value.agg (enc r).toArray) ∧ Kept (Old w0) w0 w')):=by
 refine ZB (n:=15) Try.func111 rfl rfl (nbl rfl) rfl ?_
 intro a hE
 have hM:=M.start w0
 unfold XZ at hF
 refine Zc (ZR (cs:=enc p0) hE hM Za ld rfl rfl fun b1 w a hM hE=>ZF hE hM Za ld ZV fun b3 w a hM hE=>Zf (Zc (ZF hE hM Za ld ZV fun b5 w a hM hE=>Zf (wp_seq (Zc (Ze hE Za ld rfl fun a hE=>Zf ?_))))))
 obtain ⟨j7,hl8,hF9⟩:=bind_some hF
 refine ZU (fun a w=>Env 15 a [(2,(ptr b3 0)),(3,(ptr b5 0))] ∧ M (Old w0) w0 w [raw b5 (enc j7),raw b3 (enc (Vector.replicate 4 (0 : UInt8)))]) ?_ ?_
 ·skip
  refine wp_block ?_
  refine ZG (fun (s10 : (Vector UInt8 4) × Int) a w=>Env 15 a [(1,(ptr b1 0)),(2,(ptr b3 0)),(3,(ptr b5 0)),(4,vI s10.2)] ∧ M (Old w0) w0 w [raw b5 (enc s10.1),raw b3 (enc (Vector.replicate 4 (0 : UInt8))),raw b1 (enc p0)]) hl8 ⟨hE.sub ⟨rfl,rfl,rfl,rfl,trivial⟩,hM⟩ ?_
  rintro s10 a w ⟨hE,hM⟩ o13 hs11 hx12
  unfold Wx at hs11
  refine wp_seq (Zc (Zd hE Za ld rfl fun a hE=>Zi hE Za ld rfl rfl rfl fun a hE=>Zf ?_))
  refine Zw hE rfl ?_ ?_
  ·intro hb14
   have hs11:=Zz hs11 hb14
   refine wp_skip (Zy (wp_seq (wp_block (wp_region_lit (Zd hE Za ld rfl fun a hE=>Zd hE Za ld rfl ?_))))); intro a hE
   obtain ⟨x16,hi15,hs11⟩:=bvx hs11
   refine Zg hE Za ld rfl rfl Try.underlying42 ty5 hi15.1 fun a hE=>Zu (v:=(vB x16)) hE Za ld rfl ty5 rfl (At.vec (hM.rawAt (pre:=[_,_])) hi15.2) ?_; intro a hE
   obtain ⟨x19,hi18,hs11⟩:=bvx hs11
   refine Zg hE Za ld rfl rfl Try.underlying42 ty5 hi18.1 fun a hE=>Zm (seg:=[vB x16]) (cs':=enc (s10.1.setIfInBounds (s10.2).toNat x16)) hE hM Za rfl rfl rfl ty5 rfl (ZE (v:=s10.1) (x:=x16) hi18.1) (Flat.cell (x16 : UInt8)) (Zs (v:=s10.1) (x:=x16) hi18.1) fun w a hM hE=>Zj (Yg (Zy (wp_region_lit (Zd hE Za ld rfl fun a hE=>Zi hE Za ld rfl rfl rfl fun a hE=>Ze hE Za ld rfl fun a hE=>Zj (Zk ?_)))))
   exact ⟨_,(ois hs11),hE.sub ⟨rfl,rfl,rfl,rfl,trivial⟩,hM⟩
  ·intro hb14
   have hs11:=ZA hs11 hb14
   refine wp_exit (Zo (Zo (Yt ?_)))
   have ht21:=hx12 _ (ois hs11)
   subst ht21
   refine Zk ?_
   have hM:=M.fst (l:=[_,_]) ((hM.pull (pre:=[_])).pull (pre:=[_]))
   exact ⟨hE.sub ⟨rfl,rfl,trivial⟩,hM⟩
 ·skip
  rintro a w ⟨hE,hM⟩
  refine Zy (Zc (Zl (cs:=enc j7) hE Za ld rfl ZV rfl (hM.rawAt (pre:=[])) (Flat.len _) ?_)); intro a hE
  have hM:=hM.pull (pre:=[_])
  refine Zm (seg:=enc j7) (cs':=enc j7) hE hM Za rfl rfl rfl ZV (Flat.len _) (zle flq) (Flat.cell _) (Zn flq) fun w a hM hE=>Zf ?_
  have hr:=Option.some.inj hF9
  subst hr
  have hq22 : Yy Try.prog _ _ (.cell 2 42) _:=ZX hE rfl ZV rfl (hM.rawAt (pre:=[])) (Flat.len _) rfl
  have hM:=M.fst (l:=[]) hM
  exact wp_ret (ZC hE rfl hq22 ⟨_,rfl,rfl,hM.kept⟩)
def Y6 (p0 : (Vector (Vector UInt8 4) 4)) (s10 : (Vector (Vector UInt8 4) 4) × Int) : Option (Fl ((Vector (Vector UInt8 4) 4) × Int) (Vector (Vector UInt8 4) 4)) :=
 if (decide (s10.2 < 4)) = true then ((Zq p0 s10.2).bind fun x16=>(XZ x16).bind fun r18=>(Zq s10.1 s10.2).bind fun x21=>some (Fl.nx ((s10.1.setIfInBounds (s10.2).toNat r18),wr (s10.2 + 1)))) else (some (Fl.ex s10.1))
def XX (p0 : (Vector (Vector UInt8 4) 4)) : Option ((Vector (Vector UInt8 4) 4)) :=
 (ZD (Y6 p0) ((Vector.replicate 4 (Vector.replicate 4 (0 : UInt8))),0)).bind fun j7=>some j7
theorem Qd (w0 : World) (p0 : (Vector (Vector UInt8 4) 4)) (r : (Vector (Vector UInt8 4) 4)) (hF : XX p0 = some r) :
  Calls Try.prog 66 [(Value.agg (enc p0).toArray)].toArray w0 (fun en w'=>∃ v,en = .returned v ∧ (v = (Value.agg (enc r).toArray) ∧ Kept (Old w0) w0 w')):=by
 refine ZB (n:=16) Try.func66 rfl rfl (nbl rfl) rfl ?_
 intro a hE
 have hM:=M.start w0
 unfold XX at hF
 refine Zc (ZR (cs:=enc p0) hE hM Za ld rfl rfl fun b1 w a hM hE=>ZF hE hM Za ld Yi fun b3 w a hM hE=>Zf (Zc (ZF hE hM Za ld Yi fun b5 w a hM hE=>Zf (wp_seq (Zc (Ze hE Za ld rfl fun a hE=>Zf ?_))))))
 obtain ⟨j7,hl8,hF9⟩:=bind_some hF
 refine ZU (fun a w=>Env 16 a [(2,(ptr b3 0)),(3,(ptr b5 0))] ∧ M (Old w0) w0 w [raw b5 (enc j7),raw b3 (enc (Vector.replicate 4 (Vector.replicate 4 (0 : UInt8))))]) ?_ ?_
 ·skip
  refine wp_block ?_
  refine ZG (fun (s10 : (Vector (Vector UInt8 4) 4) × Int) a w=>Env 16 a [(1,(ptr b1 0)),(2,(ptr b3 0)),(3,(ptr b5 0)),(4,vI s10.2)] ∧ M (Old w0) w0 w [raw b5 (enc s10.1),raw b3 (enc (Vector.replicate 4 (Vector.replicate 4 (0 : UInt8)))),raw b1 (enc p0)]) hl8 ⟨hE.sub ⟨rfl,rfl,rfl,rfl,trivial⟩,hM⟩ ?_
  rintro s10 a w ⟨hE,hM⟩ o13 hs11 hx12
  unfold Y6 at hs11
  refine wp_seq (Zc (Zd hE Za ld rfl fun a hE=>Zi hE Za ld rfl rfl rfl fun a hE=>Zf ?_))
  refine Zw hE rfl ?_ ?_
  ·intro hb14
   have hs11:=Zz hs11 hb14
   refine wp_skip (Zy (wp_seq (wp_block (wp_region_lit (Zd hE Za ld rfl fun a hE=>Zd hE Za ld rfl ?_))))); intro a hE
   obtain ⟨x16,hi15,hs11⟩:=bvx hs11
   refine Zg hE Za ld rfl rfl Try.underlying43 ZV hi15.1 fun a hE=>Zl (cs:=enc x16) hE Za ld rfl ZV rfl (At.vec (hM.rawAt (pre:=[_,_])) hi15.2) (Flat.len _) ?_; intro a hE
   obtain ⟨r18,e19,hs11⟩:=bind_some hs11
   refine Zv hE Za ld rfl cb111 (Qi _ x16 r18 e19) ?_
   rintro v w a ⟨rfl,hK⟩ hE
   have hM:=hM.keep hK
   obtain ⟨x21,hi20,hs11⟩:=bvx hs11
   refine Zg hE Za ld rfl rfl Try.underlying50 ZV hi20.1 fun a hE=>Zm (seg:=enc r18) (cs':=enc (s10.1.setIfInBounds (s10.2).toNat r18)) hE hM Za rfl rfl rfl ZV (Flat.len _) (ZE (v:=s10.1) (x:=r18) hi20.1) (Flat.cell _) (Zs (v:=s10.1) (x:=r18) hi20.1) fun w a hM hE=>Zj (Yg (Zy (wp_region_lit (Zd hE Za ld rfl fun a hE=>Zi hE Za ld rfl rfl rfl fun a hE=>Ze hE Za ld rfl fun a hE=>Zj (Zk ?_)))))
   exact ⟨_,(ois hs11),hE.sub ⟨rfl,rfl,rfl,rfl,trivial⟩,hM⟩
  ·intro hb14
   have hs11:=ZA hs11 hb14
   refine wp_exit (Zo (Zo (Yt ?_)))
   have ht23:=hx12 _ (ois hs11)
   subst ht23
   refine Zk ?_
   have hM:=M.fst (l:=[_,_]) ((hM.pull (pre:=[_])).pull (pre:=[_]))
   exact ⟨hE.sub ⟨rfl,rfl,trivial⟩,hM⟩
 ·skip
  rintro a w ⟨hE,hM⟩
  refine Zy (Zc (Zl (cs:=enc j7) hE Za ld rfl Yi rfl (hM.rawAt (pre:=[])) (Flat.len _) ?_)); intro a hE
  have hM:=hM.pull (pre:=[_])
  refine Zm (seg:=enc j7) (cs':=enc j7) hE hM Za rfl rfl rfl Yi (Flat.len _) (zle flq) (Flat.cell _) (Zn flq) fun w a hM hE=>Zf ?_
  have hr:=Option.some.inj hF9
  subst hr
  have hq24 : Yy Try.prog _ _ (.cell 2 50) _:=ZX hE rfl Yi rfl (hM.rawAt (pre:=[])) (Flat.len _) rfl
  have hM:=M.fst (l:=[]) hM
  exact wp_ret (ZC hE rfl hq24 ⟨_,rfl,rfl,hM.kept⟩)
def Wz (p0 : (Vector UInt8 16)) (s10 : (Vector UInt8 16) × Int) : Option (Fl ((Vector UInt8 16) × Int) (Vector UInt8 16)) :=
 if (decide (s10.2 < 16)) = true then ((Zq p0 s10.2).bind fun x16=>(Zq s10.1 s10.2).bind fun x19=>some (Fl.nx ((s10.1.setIfInBounds (s10.2).toNat x16),wr (s10.2 + 1)))) else (some (Fl.ex s10.1))
def X3 (p0 : (Vector UInt8 16)) : Option ((Vector UInt8 16)) :=
 (ZD (Wz p0) ((Vector.replicate 16 (0 : UInt8)),0)).bind fun j7=>some j7
theorem Qf (w0 : World) (p0 : (Vector UInt8 16)) (r : (Vector UInt8 16)) (hF : X3 p0 = some r) :
  Calls Try.prog 67 [(Value.agg (enc p0).toArray)].toArray w0 (fun en w'=>∃ v,en = .returned v ∧ (v = (Value.agg (enc r).toArray) ∧ Kept (Old w0) w0 w')):=by
 refine ZB (n:=15) Try.func67 rfl rfl (nbl rfl) rfl ?_
 intro a hE
 have hM:=M.start w0
 unfold X3 at hF
 refine Zc (ZR (cs:=enc p0) hE hM Za ld rfl rfl fun b1 w a hM hE=>ZF hE hM Za ld Vg fun b3 w a hM hE=>Zf (Zc (ZF hE hM Za ld Vg fun b5 w a hM hE=>Zf (wp_seq (Zc (Ze hE Za ld rfl fun a hE=>Zf ?_))))))
 obtain ⟨j7,hl8,hF9⟩:=bind_some hF
 refine ZU (fun a w=>Env 15 a [(2,(ptr b3 0)),(3,(ptr b5 0))] ∧ M (Old w0) w0 w [raw b5 (enc j7),raw b3 (enc (Vector.replicate 16 (0 : UInt8)))]) ?_ ?_
 ·skip
  refine wp_block ?_
  refine ZG (fun (s10 : (Vector UInt8 16) × Int) a w=>Env 15 a [(1,(ptr b1 0)),(2,(ptr b3 0)),(3,(ptr b5 0)),(4,vI s10.2)] ∧ M (Old w0) w0 w [raw b5 (enc s10.1),raw b3 (enc (Vector.replicate 16 (0 : UInt8))),raw b1 (enc p0)]) hl8 ⟨hE.sub ⟨rfl,rfl,rfl,rfl,trivial⟩,hM⟩ ?_
  rintro s10 a w ⟨hE,hM⟩ o13 hs11 hx12
  unfold Wz at hs11
  refine wp_seq (Zc (Zd hE Za ld rfl fun a hE=>Zi hE Za ld rfl rfl rfl fun a hE=>Zf ?_))
  refine Zw hE rfl ?_ ?_
  ·intro hb14
   have hs11:=Zz hs11 hb14
   refine wp_skip (Zy (wp_seq (wp_block (wp_region_lit (Zd hE Za ld rfl fun a hE=>Zd hE Za ld rfl ?_))))); intro a hE
   obtain ⟨x16,hi15,hs11⟩:=bvx hs11
   refine Zg hE Za ld rfl rfl Try.underlying44 ty5 hi15.1 fun a hE=>Zu (v:=(vB x16)) hE Za ld rfl ty5 rfl (At.vec (hM.rawAt (pre:=[_,_])) hi15.2) ?_; intro a hE
   obtain ⟨x19,hi18,hs11⟩:=bvx hs11
   refine Zg hE Za ld rfl rfl Try.underlying51 ty5 hi18.1 fun a hE=>Zm (seg:=[vB x16]) (cs':=enc (s10.1.setIfInBounds (s10.2).toNat x16)) hE hM Za rfl rfl rfl ty5 rfl (ZE (v:=s10.1) (x:=x16) hi18.1) (Flat.cell (x16 : UInt8)) (Zs (v:=s10.1) (x:=x16) hi18.1) fun w a hM hE=>Zj (Yg (Zy (wp_region_lit (Zd hE Za ld rfl fun a hE=>Zi hE Za ld rfl rfl rfl fun a hE=>Ze hE Za ld rfl fun a hE=>Zj (Zk ?_)))))
   exact ⟨_,(ois hs11),hE.sub ⟨rfl,rfl,rfl,rfl,trivial⟩,hM⟩
  ·intro hb14
   have hs11:=ZA hs11 hb14
   refine wp_exit (Zo (Zo (Yt ?_)))
   have ht21:=hx12 _ (ois hs11)
   subst ht21
   refine Zk ?_
   have hM:=M.fst (l:=[_,_]) ((hM.pull (pre:=[_])).pull (pre:=[_]))
   exact ⟨hE.sub ⟨rfl,rfl,trivial⟩,hM⟩
 ·skip
  rintro a w ⟨hE,hM⟩
  refine Zy (Zc (Zl (cs:=enc j7) hE Za ld rfl Vg rfl (hM.rawAt (pre:=[])) (Flat.len _) ?_)); intro a hE
  have hM:=hM.pull (pre:=[_])
  refine Zm (seg:=enc j7) (cs':=enc j7) hE hM Za rfl rfl rfl Vg (Flat.len _) (zle flq) (Flat.cell _) (Zn flq) fun w a hM hE=>Zf ?_
  have hr:=Option.some.inj hF9
  subst hr
  have hq22 : Yy Try.prog _ _ (.cell 2 51) _:=ZX hE rfl Vg rfl (hM.rawAt (pre:=[])) (Flat.len _) rfl
  have hM:=M.fst (l:=[]) hM
  exact wp_ret (ZC hE rfl hq22 ⟨_,rfl,rfl,hM.kept⟩)
def Xr (p0 : GCipher) : Option (GCipher) :=
 (WV p0.Box).bind fun r7=>(XX p0.Mix).bind fun r9=>(X3 p0.Places).bind fun r11=>some (⟨p0.Field,r7,r9,r11,p0.Rounds⟩ : GCipher)
theorem Ub (w0 : World) (p0 : GCipher) (r : GCipher) (hF : Xr p0 = some r) :
  Calls Try.prog 25 [(Value.agg (enc p0).toArray)].toArray w0 (fun en w'=>∃ v,en = .returned v ∧ (v = (Value.agg (enc r).toArray) ∧ Kept (Old w0) w0 w')):=by
 refine ZB (n:=23) Try.func25 rfl rfl (nbl rfl) rfl ?_
 intro a hE
 have hM:=M.start w0
 unfold Xr at hF
 refine Zc (ZR (cs:=cat [[vI p0.Field],enc p0.Box,enc p0.Mix,enc p0.Places,[vI p0.Rounds]]) hE hM Za ld rfl rfl fun b1 w a hM hE=>ZF hE hM Za ld VQ fun b3 w a hM hE=>Zf (Zc (ZF hE hM Za ld VQ fun b5 w a hM hE=>Zf (Zc (Zp hE Za ld rfl (fd46_0) fun a hE=>Zu (v:=(vI p0.Field)) hE Za ld rfl ty2 rfl (At.cat (pre:=[]) (hM.rawAt (pre:=[_,_])) cl0) fun a hE=>Zp hE Za ld rfl (V3) fun a hE=>Zm (seg:=[vI p0.Field]) hE hM Za rfl rfl rfl ty2 rfl (UA (pre:=[]) cl0 rfl) (Flat.cell (p0.Field : Int)) (W7 (pre:=[]) cl0 rfl) fun w a hM hE=>Zf (Zc (Zp hE Za ld rfl (fd46_1) fun a hE=>Zl (cs:=enc p0.Box) hE Za ld rfl K2 rfl (At.cat (pre:=[[vI p0.Field]]) (hM.rawAt (pre:=[_,_])) (cl1 (n:=1) (m:=0) rfl cl0)) (Flat.len _) ?_))))))); intro a hE
 obtain ⟨r7,e8,hF⟩:=bind_some hF
 refine Zv hE Za ld rfl cb65 (KH _ p0.Box r7 e8) ?_
 rintro v w a ⟨rfl,hK⟩ hE
 have hM:=hM.keep hK
 refine Zp hE Za ld rfl (U1) fun a hE=>Zm (seg:=enc r7) hE hM Za rfl rfl rfl Vl (Flat.len _) (UA (pre:=[[vI p0.Field]]) (cl1 (n:=1) (m:=0) rfl cl0) flq) (Flat.cell _) (W7 (pre:=[[vI p0.Field]]) (cl1 (n:=1) (m:=0) rfl cl0) flq) fun w a hM hE=>Zf (Zc (Zp hE Za ld rfl (fd46_2) fun a hE=>Zl (cs:=enc p0.Mix) hE Za ld rfl ty43 rfl (At.cat (pre:=[[vI p0.Field],enc p0.Box]) (hM.rawAt (pre:=[_,_])) (cl1 (n:=1) (m:=256) rfl (cl1 (n:=256) (m:=0) (Flat.len _) cl0))) (Flat.len _) ?_)); intro a hE
 obtain ⟨r9,e10,hF⟩:=bind_some hF
 refine Zv hE Za ld rfl cb66 (Qd _ p0.Mix r9 e10) ?_
 rintro v w a ⟨rfl,hK⟩ hE
 have hM:=hM.keep hK
 refine Zp hE Za ld rfl (Tx) fun a hE=>Zm (seg:=enc r9) hE hM Za rfl rfl rfl Yi (Flat.len _) (UA (pre:=[[vI p0.Field],enc r7]) (cl1 (n:=1) (m:=256) rfl (cl1 (n:=256) (m:=0) (Flat.len _) cl0)) flq) (Flat.cell _) (W7 (pre:=[[vI p0.Field],enc r7]) (cl1 (n:=1) (m:=256) rfl (cl1 (n:=256) (m:=0) (Flat.len _) cl0)) flq) fun w a hM hE=>Zf (Zc (Zp hE Za ld rfl (fd46_3) fun a hE=>Zl (cs:=enc p0.Places) hE Za ld rfl ty44 rfl (At.cat (pre:=[[vI p0.Field],enc p0.Box,enc p0.Mix]) (hM.rawAt (pre:=[_,_])) (cl1 (n:=1) (m:=272) rfl (cl1 (n:=256) (m:=16) (Flat.len _) (cl1 (n:=16) (m:=0) (Flat.len _) cl0)))) (Flat.len _) ?_)); intro a hE
 obtain ⟨r11,e12,hF⟩:=bind_some hF
 refine Zv hE Za ld rfl cb67 (Qf _ p0.Places r11 e12) ?_
 rintro v w a ⟨rfl,hK⟩ hE
 have hM:=hM.keep hK
 refine Zp hE Za ld rfl (TU) fun a hE=>Zm (seg:=enc r11) hE hM Za rfl rfl rfl Vg (Flat.len _) (UA (pre:=[[vI p0.Field],enc r7,enc r9]) (cl1 (n:=1) (m:=272) rfl (cl1 (n:=256) (m:=16) (Flat.len _) (cl1 (n:=16) (m:=0) (Flat.len _) cl0))) flq) (Flat.cell _) (W7 (pre:=[[vI p0.Field],enc r7,enc r9]) (cl1 (n:=1) (m:=272) rfl (cl1 (n:=256) (m:=16) (Flat.len _) (cl1 (n:=16) (m:=0) (Flat.len _) cl0))) flq) fun w a hM hE=>Zf (Zc (Zp hE Za ld rfl (fd46_4) fun a hE=>Zu (v:=(vI p0.Rounds)) hE Za ld rfl ty2 rfl (At.cat (pre:=[[vI p0.Field],enc p0.Box,enc p0.Mix,enc p0.Places]) (hM.rawAt (pre:=[_,_])) (cl1 (n:=1) (m:=288) rfl (cl1 (n:=256) (m:=32) (Flat.len _) (cl1 (n:=16) (m:=16) (Flat.len _) (cl1 (n:=16) (m:=0) (Flat.len _) cl0))))) fun a hE=>Zp hE Za ld rfl (TR) fun a hE=>Zm (seg:=[vI p0.Rounds]) hE hM Za rfl rfl rfl ty2 rfl (UA (pre:=[[vI p0.Field],enc r7,enc r9,enc r11]) (cl1 (n:=1) (m:=288) rfl (cl1 (n:=256) (m:=32) (Flat.len _) (cl1 (n:=16) (m:=16) (Flat.len _) (cl1 (n:=16) (m:=0) (Flat.len _) cl0)))) rfl) (Flat.cell (p0.Rounds : Int)) (W7 (pre:=[[vI p0.Field],enc r7,enc r9,enc r11]) (cl1 (n:=1) (m:=288) rfl (cl1 (n:=256) (m:=32) (Flat.len _) (cl1 (n:=16) (m:=16) (Flat.len _) (cl1 (n:=16) (m:=0) (Flat.len _) cl0)))) rfl) fun w a hM hE=>Zf (Zc (Zl (cs:=enc (⟨p0.Field,r7,r9,r11,p0.Rounds⟩ : GCipher)) hE Za ld rfl VQ rfl (hM.rawAt (pre:=[])) (ZZ (cl1 (n:=1) (m:=289) rfl (cl1 (n:=256) (m:=33) (Flat.len _) (cl1 (n:=16) (m:=17) (Flat.len _) (cl1 (n:=16) (m:=1) (Flat.len _) (cl1 (n:=1) (m:=0) rfl cl0)))))) ?_)))); intro a hE
 have hM:=hM.pull (pre:=[_])
 refine Zm (seg:=cat [[(vI ((⟨p0.Field,r7,r9,r11,p0.Rounds⟩ : GCipher).Field))],enc ((⟨p0.Field,r7,r9,r11,p0.Rounds⟩ : GCipher).Box),enc ((⟨p0.Field,r7,r9,r11,p0.Rounds⟩ : GCipher).Mix),enc ((⟨p0.Field,r7,r9,r11,p0.Rounds⟩ : GCipher).Places),[(vI ((⟨p0.Field,r7,r9,r11,p0.Rounds⟩ : GCipher).Rounds))]]) (cs':=cat [[(vI ((⟨p0.Field,r7,r9,r11,p0.Rounds⟩ : GCipher).Field))],enc ((⟨p0.Field,r7,r9,r11,p0.Rounds⟩ : GCipher).Box),enc ((⟨p0.Field,r7,r9,r11,p0.Rounds⟩ : GCipher).Mix),enc ((⟨p0.Field,r7,r9,r11,p0.Rounds⟩ : GCipher).Places),[(vI ((⟨p0.Field,r7,r9,r11,p0.Rounds⟩ : GCipher).Rounds))]]) hE hM Za rfl rfl rfl VQ (ZZ (cl1 (n:=1) (m:=289) rfl (cl1 (n:=256) (m:=33) (Flat.len _) (cl1 (n:=16) (m:=17) (Flat.len _) (cl1 (n:=16) (m:=1) (Flat.len _) (cl1 (n:=1) (m:=0) rfl cl0)))))) (Nat.le_of_eq ((Nat.zero_add _).trans (Eq.trans (ZZ (cl1 (n:=1) (m:=289) rfl (cl1 (n:=256) (m:=33) (Flat.len _) (cl1 (n:=16) (m:=17) (Flat.len _) (cl1 (n:=16) (m:=1) (Flat.len _) (cl1 (n:=1) (m:=0) rfl cl0)))))) (Eq.symm (ZZ (cl1 (n:=1) (m:=289) rfl (cl1 (n:=256) (m:=33) (Flat.len _) (cl1 (n:=16) (m:=17) (Flat.len _) (cl1 (n:=16) (m:=1) (Flat.len _) (cl1 (n:=1) (m:=0) rfl cl0)))))))))) (Ta (cc1 (Flat.cell ((⟨p0.Field,r7,r9,r11,p0.Rounds⟩ : GCipher).Field : Int)) (cc1 (Flat.cell _) (cc1 (Flat.cell _) (cc1 (Flat.cell _) (cc1 (Flat.cell ((⟨p0.Field,r7,r9,r11,p0.Rounds⟩ : GCipher).Rounds : Int)) cc0)))))) (Zn (Eq.trans (ZZ (cl1 (n:=1) (m:=289) rfl (cl1 (n:=256) (m:=33) (Flat.len _) (cl1 (n:=16) (m:=17) (Flat.len _) (cl1 (n:=16) (m:=1) (Flat.len _) (cl1 (n:=1) (m:=0) rfl cl0)))))) (Eq.symm (ZZ (cl1 (n:=1) (m:=289) rfl (cl1 (n:=256) (m:=33) (Flat.len _) (cl1 (n:=16) (m:=17) (Flat.len _) (cl1 (n:=16) (m:=1) (Flat.len _) (cl1 (n:=1) (m:=0) rfl cl0))))))))) fun w a hM hE=>Zf ?_
 have hr:=Option.some.inj hF
 subst hr
 have hq13 : Yy Try.prog _ _ (.cell 2 53) _:=ZX hE rfl VQ rfl (hM.rawAt (pre:=[])) (ZZ (cl1 (n:=1) (m:=289) rfl (cl1 (n:=256) (m:=33) (Flat.len _) (cl1 (n:=16) (m:=17) (Flat.len _) (cl1 (n:=16) (m:=1) (Flat.len _) (cl1 (n:=1) (m:=0) rfl cl0)))))) rfl
 have hM:=M.fst (l:=[]) hM
 exact wp_ret (ZC hE rfl hq13 ⟨_,rfl,rfl,hM.kept⟩)
def WN (p0 : (Vector UInt8 16)) (s10 : (Vector UInt8 16) × Int) : Option (Fl ((Vector UInt8 16) × Int) (Vector UInt8 16)) :=
 if (decide (s10.2 < 16)) = true then ((Zq p0 s10.2).bind fun x16=>(Zq s10.1 s10.2).bind fun x19=>some (Fl.nx ((s10.1.setIfInBounds (s10.2).toNat x16),wr (s10.2 + 1)))) else (some (Fl.ex s10.1))
def XP (p0 : (Vector UInt8 16)) : Option ((Vector UInt8 16)) :=
 (ZD (WN p0) ((Vector.replicate 16 (0 : UInt8)),0)).bind fun j7=>some j7
theorem Ut (w0 : World) (p0 : (Vector UInt8 16)) (r : (Vector UInt8 16)) (hF : XP p0 = some r) :
  Calls Try.prog 26 [(Value.agg (enc p0).toArray)].toArray w0 (fun en w'=>∃ v,en = .returned v ∧ (v = (Value.agg (enc r).toArray) ∧ Kept (Old w0) w0 w')):=by
 refine ZB (n:=15) Try.func26 rfl rfl (nbl rfl) rfl ?_
 intro a hE
 have hM:=M.start w0
 unfold XP at hF
 refine Zc (ZR (cs:=enc p0) hE hM Za ld rfl rfl fun b1 w a hM hE=>ZF hE hM Za ld ZL fun b3 w a hM hE=>Zf (Zc (ZF hE hM Za ld ZL fun b5 w a hM hE=>Zf (wp_seq (Zc (Ze hE Za ld rfl fun a hE=>Zf ?_))))))
 obtain ⟨j7,hl8,hF9⟩:=bind_some hF
 refine ZU (fun a w=>Env 15 a [(2,(ptr b3 0)),(3,(ptr b5 0))] ∧ M (Old w0) w0 w [raw b5 (enc j7),raw b3 (enc (Vector.replicate 16 (0 : UInt8)))]) ?_ ?_
 ·skip
  refine wp_block ?_
  refine ZG (fun (s10 : (Vector UInt8 16) × Int) a w=>Env 15 a [(1,(ptr b1 0)),(2,(ptr b3 0)),(3,(ptr b5 0)),(4,vI s10.2)] ∧ M (Old w0) w0 w [raw b5 (enc s10.1),raw b3 (enc (Vector.replicate 16 (0 : UInt8))),raw b1 (enc p0)]) hl8 ⟨hE.sub ⟨rfl,rfl,rfl,rfl,trivial⟩,hM⟩ ?_
  rintro s10 a w ⟨hE,hM⟩ o13 hs11 hx12
  unfold WN at hs11
  refine wp_seq (Zc (Zd hE Za ld rfl fun a hE=>Zi hE Za ld rfl rfl rfl fun a hE=>Zf ?_))
  refine Zw hE rfl ?_ ?_
  ·intro hb14
   have hs11:=Zz hs11 hb14
   refine wp_skip (Zy (wp_seq (wp_block (wp_region_lit (Zd hE Za ld rfl fun a hE=>Zd hE Za ld rfl ?_))))); intro a hE
   obtain ⟨x16,hi15,hs11⟩:=bvx hs11
   refine Zg hE Za ld rfl rfl Try.underlying44 ty5 hi15.1 fun a hE=>Zu (v:=(vB x16)) hE Za ld rfl ty5 rfl (At.vec (hM.rawAt (pre:=[_,_])) hi15.2) ?_; intro a hE
   obtain ⟨x19,hi18,hs11⟩:=bvx hs11
   refine Zg hE Za ld rfl rfl Try.underlying55 ty5 hi18.1 fun a hE=>Zm (seg:=[vB x16]) (cs':=enc (s10.1.setIfInBounds (s10.2).toNat x16)) hE hM Za rfl rfl rfl ty5 rfl (ZE (v:=s10.1) (x:=x16) hi18.1) (Flat.cell (x16 : UInt8)) (Zs (v:=s10.1) (x:=x16) hi18.1) fun w a hM hE=>Zj (Yg (Zy (wp_region_lit (Zd hE Za ld rfl fun a hE=>Zi hE Za ld rfl rfl rfl fun a hE=>Ze hE Za ld rfl fun a hE=>Zj (Zk ?_)))))
   exact ⟨_,(ois hs11),hE.sub ⟨rfl,rfl,rfl,rfl,trivial⟩,hM⟩
  ·intro hb14
   have hs11:=ZA hs11 hb14
   refine wp_exit (Zo (Zo (Yt ?_)))
   have ht21:=hx12 _ (ois hs11)
   subst ht21
   refine Zk ?_
   have hM:=M.fst (l:=[_,_]) ((hM.pull (pre:=[_])).pull (pre:=[_]))
   exact ⟨hE.sub ⟨rfl,rfl,trivial⟩,hM⟩
 ·skip
  rintro a w ⟨hE,hM⟩
  refine Zy (Zc (Zl (cs:=enc j7) hE Za ld rfl ZL rfl (hM.rawAt (pre:=[])) (Flat.len _) ?_)); intro a hE
  have hM:=hM.pull (pre:=[_])
  refine Zm (seg:=enc j7) (cs':=enc j7) hE hM Za rfl rfl rfl ZL (Flat.len _) (zle flq) (Flat.cell _) (Zn flq) fun w a hM hE=>Zf ?_
  have hr:=Option.some.inj hF9
  subst hr
  have hq22 : Yy Try.prog _ _ (.cell 2 55) _:=ZX hE rfl ZL rfl (hM.rawAt (pre:=[])) (Flat.len _) rfl
  have hM:=M.fst (l:=[]) hM
  exact wp_ret (ZC hE rfl hq22 ⟨_,rfl,rfl,hM.kept⟩)
def XV (p0 : Int) (p1 : Int) (p2 : Int) : Option (Bool) :=
 (if (decide (p0 ≥ p1)) = true then (some (decide (p0 ≤ p2))) else (some false) : Option (Bool)).bind fun j1=>some j1
theorem VT (w0 : World) (p0 : Int) (p1 : Int) (p2 : Int) (r : Bool) (hF : XV p0 p1 p2 = some r) :
  Calls Try.prog 82 [vI p0,vI p1,vI p2].toArray w0 (fun en w'=>∃ v,en = .returned v ∧ (v = (vT r) ∧ Kept (Old w0) w0 w')):=by
 refine ZB (n:=15) Try.func82 rfl rfl (nbl rfl) rfl ?_
 intro a hE
 have hM:=M.start w0
 unfold XV at hF
 refine Zc (Ze hE Za ld rfl fun a hE=>Zf ?_)
 obtain ⟨j1,hl2,hF3⟩:=bind_some hF
 refine ZQ (fun a w=>Env 15 a [(6,vT j1)] ∧ M (Old w0) w0 w []) ?_ ?_
 ·skip
  refine wp_region_lit (Zd hE Za ld rfl fun a hE=>Zd hE Za ld rfl fun a hE=>Zi hE Za ld rfl rfl rfl fun a hE=>Zd hE Za ld rfl ?_); intro a hE
  refine WF (decide (p0 ≥ p1)) (fun hb4=>?_) (fun hb4=>?_)
  ·have hl2:=Zz hl2 hb4
   refine Zd hE (Zt hE rfl (lkb rfl hb4)) (by decide) rfl fun a hE=>Zd hE (Zt hE rfl (lkb rfl hb4)) (by decide) rfl fun a hE=>Zi hE (Zt hE rfl (lkb rfl hb4)) (by decide) rfl rfl rfl fun a hE=>YO hE Za ld (lkb rfl hb4) rfl fun a hE=>Ze hE Za ld rfl fun a hE=>Zj ?_
   have ht5:=Option.some.inj hl2
   subst ht5
   refine Zk ?_
   exact ⟨hE.sub ⟨rfl,trivial⟩,hM⟩
  ·have hl2:=ZA hl2 hb4
   refine Zr hE rfl (lkb rfl hb4) rfl (by decide) fun a hE=>Zr hE rfl (lkb rfl hb4) rfl (by decide) fun a hE=>Zr hE rfl (lkb rfl hb4) rfl (by decide) fun a hE=>Yu hE Za ld (lkb rfl hb4) rfl fun a hE=>Ze hE Za ld rfl fun a hE=>Zj ?_
   have ht6:=Option.some.inj hl2
   subst ht6
   refine Zk ?_
   exact ⟨hE.sub ⟨rfl,trivial⟩,hM⟩
 ·skip
  rintro a w ⟨hE,hM⟩
  have hr:=Option.some.inj hF3
  subst hr
  exact wp_ret (ZC hE rfl (Zx hE rfl) ⟨_,rfl,rfl,hM.kept⟩)
def Yc (s4 : Int × Int) : Option (Fl (Int × Int) Int) :=
 if (decide (s4.1 > 0)) = true then (some (Fl.nx (wr (Int.tdiv s4.1 2),wr (s4.2 + 1)))) else (some (Fl.ex s4.2))
def YC (p0 : Int) : Option (Int) :=
 (ZD (Yc) (p0,0)).bind fun j1=>some j1
theorem W6 (w0 : World) (p0 : Int) (r : Int) (hF : YC p0 = some r) :
  Calls Try.prog 139 [vI p0].toArray w0 (fun en w'=>∃ v,en = .returned v ∧ (v = (vI r) ∧ Kept (Old w0) w0 w')):=by
 refine ZB (n:=11) Try.func139 rfl rfl (nbl rfl) rfl ?_
 intro a hE
 have hM:=M.start w0
 unfold YC at hF
 refine Zc (Ze hE Za ld rfl fun a hE=>Zf (Zc (Ze hE Za ld rfl fun a hE=>Zf ?_)))
 obtain ⟨j1,hl2,hF3⟩:=bind_some hF
 refine ZQ (fun a w=>Env 11 a [(3,vI j1)] ∧ M (Old w0) w0 w []) ?_ ?_
 ·skip
  refine wp_block ?_
  refine ZG (fun (s4 : Int × Int) a w=>Env 11 a [(0,vI s4.1),(3,vI s4.2)] ∧ M (Old w0) w0 w []) hl2 ⟨hE.sub ⟨rfl,rfl,trivial⟩,hM⟩ ?_
  rintro s4 a w ⟨hE,hM⟩ o7 hs5 hx6
  unfold Yc at hs5
  refine wp_seq (Zc (Zd hE Za ld rfl fun a hE=>Zi hE Za ld rfl rfl rfl fun a hE=>Zf ?_))
  refine Zw hE rfl ?_ ?_
  ·intro hb8
   have hs5:=Zz hs5 hb8
   refine wp_skip (Zy (wp_seq (wp_block (wp_region_lit (Zd hE Za ld rfl fun a hE=>Zi hE Za ld rfl rfl rfl fun a hE=>Ze hE Za ld rfl fun a hE=>Zj (Yg (Zy (wp_region_lit (Zd hE Za ld rfl fun a hE=>Zi hE Za ld rfl rfl (Qz _ _ (by decide)) fun a hE=>Ze hE Za ld rfl fun a hE=>Zj (Zk ?_))))))))))
   exact ⟨_,(ois hs5),hE.sub ⟨rfl,rfl,trivial⟩,hM⟩
  ·intro hb8
   have hs5:=ZA hs5 hb8
   refine wp_exit (Zo (Zo (Yt ?_)))
   have ht9:=hx6 _ (ois hs5)
   subst ht9
   refine Zk ?_
   exact ⟨hE.sub ⟨rfl,trivial⟩,hM⟩
 ·skip
  rintro a w ⟨hE,hM⟩
  refine Zc (Zd hE Za ld rfl fun a hE=>Ze hE Za ld rfl fun a hE=>Zf ?_)
  have hr:=Option.some.inj hF3
  subst hr
  exact wp_ret (ZC hE rfl (Zx hE rfl) ⟨_,rfl,rfl,hM.kept⟩)
def Xp (p1 : Int) (r1 : Int) (s8 : Int × Int) : Option (Fl (Int × Int) Int) :=
 if (decide (s8.2 ≥ r1)) = true then ((XC (IntKind.u64.wrap (wr (s8.2 - r1)))).bind fun _=>(YC (KO s8.1 (TN p1 (IntKind.u64.wrap (wr (s8.2 - r1)))))).bind fun r14=>some (Fl.nx (KO s8.1 (TN p1 (IntKind.u64.wrap (wr (s8.2 - r1)))),r14))) else (some (Fl.ex s8.1))
def Wv (p0 : Int) (p1 : Int) : Option (Int) :=
 (YC p1).bind fun r1=>(YC p0).bind fun r3=>(ZD (Xp p1 r1) (p0,r3)).bind fun j5=>some j5
theorem QQ (w0 : World) (p0 : Int) (p1 : Int) (r : Int) (hF : Wv p0 p1 = some r) :
  Calls Try.prog 95 [vI p0,vI p1].toArray w0 (fun en w'=>∃ v,en = .returned v ∧ (v = (vI r) ∧ Kept (Old w0) w0 w')):=by
 refine ZB (n:=25) Try.func95 rfl rfl (nbl rfl) rfl ?_
 intro a hE
 have hM:=M.start w0
 unfold Wv at hF
 refine Zc (Ze hE Za ld rfl fun a hE=>Zf (Zc (Zd hE Za ld rfl ?_))); intro a hE
 obtain ⟨r1,e2,hF⟩:=bind_some hF
 refine Zv hE Za ld rfl HK (W6 _ p1 r1 e2) ?_
 rintro v w a ⟨rfl,hK⟩ hE
 have hM:=hM.keep hK
 refine Ze hE Za ld rfl fun a hE=>Zf (wp_seq (Zc (Zd hE Za ld rfl ?_))); intro a hE
 obtain ⟨r3,e4,hF⟩:=bind_some hF
 refine Zv hE Za ld rfl HK (W6 _ p0 r3 e4) ?_
 rintro v w a ⟨rfl,hK⟩ hE
 have hM:=hM.keep hK
 refine Ze hE Za ld rfl fun a hE=>Zf ?_
 obtain ⟨j5,hl6,hF7⟩:=bind_some hF
 refine ZU (fun a w=>Env 25 a [(0,vI j5)] ∧ M (Old w0) w0 w []) ?_ ?_
 ·skip
  refine wp_block ?_
  refine ZG (fun (s8 : Int × Int) a w=>Env 25 a [(0,vI s8.1),(1,vI p1),(5,vI r1),(6,vI s8.2)] ∧ M (Old w0) w0 w []) hl6 ⟨hE.sub ⟨rfl,rfl,rfl,rfl,trivial⟩,hM⟩ ?_
  rintro s8 a w ⟨hE,hM⟩ o11 hs9 hx10
  unfold Xp at hs9
  refine wp_seq (Zc (Zd hE Za ld rfl fun a hE=>Zd hE Za ld rfl fun a hE=>Zi hE Za ld rfl rfl rfl fun a hE=>Zf ?_))
  refine Zw hE rfl ?_ ?_
  ·intro hb12
   have hs9:=Zz hs9 hb12
   refine wp_skip (Zy (wp_seq (wp_block (wp_region_lit (Zd hE Za ld rfl fun a hE=>Zd hE Za ld rfl fun a hE=>Zd hE Za ld rfl fun a hE=>Zd hE Za ld rfl fun a hE=>Zi hE Za ld rfl rfl rfl fun a hE=>XW hE Za ld rfl Try.underlying2 Try.underlying162 ?_))))); intro a hE
   obtain ⟨_,e13,hs9⟩:=bind_some hs9
   have e13:=Wl e13
   refine Ji hE Za ld rfl rfl (QX _ _ e13) fun a hE=>Zi hE Za ld rfl rfl rfl fun a hE=>Ze hE Za ld rfl fun a hE=>Zj (Yg (Zy (wp_region_lit (Zd hE Za ld rfl ?_)))); intro a hE
   obtain ⟨r14,e15,hs9⟩:=bind_some hs9
   refine Zv hE Za ld rfl HK (W6 _ (KO s8.1 (TN p1 (IntKind.u64.wrap (wr (s8.2 - r1))))) r14 e15) ?_
   rintro v w a ⟨rfl,hK⟩ hE
   have hM:=hM.keep hK
   refine Ze hE Za ld rfl fun a hE=>Zj (Zk ?_)
   exact ⟨_,(ois hs9),hE.sub ⟨rfl,rfl,rfl,rfl,trivial⟩,hM⟩
  ·intro hb12
   have hs9:=ZA hs9 hb12
   refine wp_exit (Zo (Zo (Yt ?_)))
   have ht16:=hx10 _ (ois hs9)
   subst ht16
   refine Zk ?_
   exact ⟨hE.sub ⟨rfl,trivial⟩,hM⟩
 ·skip
  rintro a w ⟨hE,hM⟩
  refine Zy (Zc (Zd hE Za ld rfl fun a hE=>Ze hE Za ld rfl fun a hE=>Zf ?_))
  have hr:=Option.some.inj hF7
  subst hr
  exact wp_ret (ZC hE rfl (Zx hE rfl) ⟨_,rfl,rfl,hM.kept⟩)
def Y7 (p0 : Int) (s8 : Int) : Option (Fl Int (Fl Unit Bool)) :=
 if (decide (s8 < 32)) = true then ((Wv p0 s8).bind fun r13=>if (r13 == 0) = true then (some (Fl.ex (Fl.ex false))) else (some (Fl.nx (wr (s8 + 1))))) else (some (Fl.ex (Fl.nx ())))
def X5 (p0 : Int) : Option (Bool) :=
 (XV p0 256 511).bind fun r1=>if (!r1) = true then (some false) else ((ZD (Y7 p0) 2).bind fun j4=>j4.el (fun s7=>some true) (fun r=>some r))
theorem T5 (w0 : World) (p0 : Int) (r : Bool) (hF : X5 p0 = some r) :
  Calls Try.prog 43 [vI p0].toArray w0 (fun en w'=>∃ v,en = .returned v ∧ (v = (vT r) ∧ Kept (Old w0) w0 w')):=by
 refine ZB (n:=15) Try.func43 rfl rfl (nbl rfl) rfl ?_
 intro a hE
 have hM:=M.start w0
 unfold X5 at hF
 refine Zc (Ze hE Za ld rfl fun a hE=>Zf (wp_seq (Zc (Zd hE Za ld rfl ?_)))); intro a hE
 obtain ⟨r1,e2,hF⟩:=bind_some hF
 refine Zv hE Za ld rfl cb82 (VT _ p0 256 511 r1 e2) ?_
 rintro v w a ⟨rfl,hK⟩ hE
 have hM:=hM.keep hK
 refine Ux hE Za ld rfl fun a hE=>Zf ?_
 refine Zw hE rfl ?_ ?_
 ·intro hb3
  have hF:=Zz hF hb3
  refine Zc (Ze hE Za ld rfl fun a hE=>Zf ?_)
  have hr:=Option.some.inj hF
  subst hr
  exact wp_ret (ZI (ZC hE rfl (Zx hE rfl) ⟨_,rfl,rfl,hM.kept⟩))
 ·intro hb3
  have hF:=ZA hF hb3
  refine wp_skip (Zy (wp_seq (Zc (Ze hE Za ld rfl fun a hE=>Zf ?_))))
  obtain ⟨j4,hl5,hF6⟩:=bind_some hF
  refine ZU (fun a w=>∃ s7 : Unit,j4 = Fl.nx s7 ∧ Env 15 a [] ∧ M (Old w0) w0 w []) ?_ ?_
  ·skip
   refine wp_block ?_
   refine ZG (fun (s8 : Int) a w=>Env 15 a [(0,vI p0),(3,vI s8)] ∧ M (Old w0) w0 w []) hl5 ⟨hE.sub ⟨rfl,rfl,trivial⟩,hM⟩ ?_
   rintro s8 a w ⟨hE,hM⟩ o11 hs9 hx10
   unfold Y7 at hs9
   refine wp_seq (Zc (Zd hE Za ld rfl fun a hE=>Zi hE Za ld rfl rfl rfl fun a hE=>Zf ?_))
   refine Zw hE rfl ?_ ?_
   ·intro hb12
    have hs9:=Zz hs9 hb12
    refine wp_skip (Zy (wp_seq (wp_block (Zc (Zd hE Za ld rfl fun a hE=>Zd hE Za ld rfl ?_))))); intro a hE
    obtain ⟨r13,e14,hs9⟩:=bind_some hs9
    refine Zv hE Za ld rfl cb95 (QQ _ p0 s8 r13 e14) ?_
    rintro v w a ⟨rfl,hK⟩ hE
    have hM:=hM.keep hK
    refine Zi hE Za ld rfl rfl rfl fun a hE=>Zf ?_
    refine Zw hE rfl ?_ ?_
    ·intro hb15
     have hs9:=Zz hs9 hb15
     refine Zc (Ze hE Za ld rfl fun a hE=>Zf ?_)
     have ht16:=hx10 _ (ois hs9)
     subst ht16
     have hr:=Option.some.inj hF6
     subst hr
     exact wp_ret (XT (ZI (ZI (XT (ZI (ZI (ZC hE rfl (Zx hE rfl) ⟨_,rfl,rfl,hM.kept⟩)))))))
    ·intro hb15
     have hs9:=ZA hs9 hb15
     refine wp_skip (Yg (Zy (wp_region_lit (Zd hE Za ld rfl fun a hE=>Zi hE Za ld rfl rfl rfl fun a hE=>Ze hE Za ld rfl fun a hE=>Zj (Zk ?_)))))
     exact ⟨_,(ois hs9),hE.sub ⟨rfl,rfl,trivial⟩,hM⟩
   ·intro hb12
    have hs9:=ZA hs9 hb12
    refine wp_exit (Zo (Zo (Yt ?_)))
    have ht17:=hx10 _ (ois hs9)
    subst ht17
    refine Zk ?_
    exact ⟨(),rfl,hE.sub trivial,hM⟩
  ·skip
   rintro a w ⟨s7,ht,hE,hM⟩
   subst ht
   have hF6:=UK hF6
   refine Zy (Zc (Ze hE Za ld rfl fun a hE=>Zf ?_))
   have hr:=Option.some.inj hF6
   subst hr
   exact wp_ret (ZC hE rfl (Zx hE rfl) ⟨_,rfl,rfl,hM.kept⟩)
def X6 (p0 : (Vector UInt8 256)) (s9 : (Vector Bool 256) × Int) : Option (Fl ((Vector Bool 256) × Int) (Fl Unit Bool)) :=
 if (decide (s9.2 < 256)) = true then ((Zq p0 s9.2).bind fun x15=>(Zq s9.1 (bI x15)).bind fun x18=>if x18 = true then (some (Fl.ex (Fl.ex false))) else ((Zq p0 s9.2).bind fun x23=>(Zq s9.1 (bI x23)).bind fun x26=>some (Fl.nx ((s9.1.setIfInBounds ((bI x23)).toNat true),wr (s9.2 + 1))))) else (some (Fl.ex (Fl.nx ())))
def W2 (p0 : (Vector UInt8 256)) : Option (Bool) :=
 (ZD (X6 p0) ((Vector.replicate 256 false),0)).bind fun j5=>j5.el (fun s8=>some true) (fun r=>some r)
theorem KL (w0 : World) (p0 : (Vector UInt8 256)) (r : Bool) (hF : W2 p0 = some r) :
  Calls Try.prog 113 [(Value.agg (enc p0).toArray)].toArray w0 (fun en w'=>∃ v,en = .returned v ∧ (v = (vT r) ∧ Kept (Old w0) w0 w')):=by
 refine ZB (n:=19) Try.func113 rfl rfl (nbl rfl) rfl ?_
 intro a hE
 have hM:=M.start w0
 unfold W2 at hF
 refine Zc (ZR (cs:=enc p0) hE hM Za ld rfl rfl fun b1 w a hM hE=>Ze hE Za ld rfl fun a hE=>Zf (Zc (Y8 (parts:=[]) (vs:=[]) (cs:=enc (Vector.replicate 256 false)) hE Za ld rfl rfl Kp rfl ty4 YB fun a hE=>ZF hE hM Za ld Kp fun b3 w a hM hE=>Zm (seg:=enc (Vector.replicate 256 false)) (cs':=enc (Vector.replicate 256 false)) hE hM Za rfl rfl rfl Kp (Flat.len _) (zle flq) (Flat.cell _) (Zn flq) fun w a hM hE=>Zf (wp_seq (Zc (Ze hE Za ld rfl fun a hE=>Zf ?_))))))
 obtain ⟨j5,hl6,hF7⟩:=bind_some hF
 refine ZU (fun a w=>∃ s8 : Unit,j5 = Fl.nx s8 ∧ Env 19 a [] ∧ M (Old w0) w0 w []) ?_ ?_
 ·skip
  refine wp_block ?_
  refine ZG (fun (s9 : (Vector Bool 256) × Int) a w=>Env 19 a [(1,(ptr b1 0)),(3,(ptr b3 0)),(4,vI s9.2)] ∧ M (Old w0) w0 w [raw b3 (enc s9.1),raw b1 (enc p0)]) hl6 ⟨hE.sub ⟨rfl,rfl,rfl,trivial⟩,hM⟩ ?_
  rintro s9 a w ⟨hE,hM⟩ o12 hs10 hx11
  unfold X6 at hs10
  refine wp_seq (Zc (Zd hE Za ld rfl fun a hE=>Zi hE Za ld rfl rfl rfl fun a hE=>Zf ?_))
  refine Zw hE rfl ?_ ?_
  ·intro hb13
   have hs10:=Zz hs10 hb13
   refine wp_skip (Zy (wp_seq (wp_block (wp_seq (Zc (Zd hE Za ld rfl ?_)))))); intro a hE
   obtain ⟨x15,hi14,hs10⟩:=bvx hs10
   refine Zg hE Za ld rfl rfl Try.underlying49 ty5 hi14.1 fun a hE=>Zu (v:=(vB x15)) hE Za ld rfl ty5 rfl (At.vec (hM.rawAt (pre:=[_])) hi14.2) ?_; intro a hE
   obtain ⟨x18,hi17,hs10⟩:=bvx hs10
   refine Zg hE Za ld rfl rfl Try.underlying117 ty4 hi17.1 fun a hE=>Zu (v:=(vT x18)) hE Za ld rfl ty4 rfl (At.vec (hM.rawAt (pre:=[])) hi17.2) fun a hE=>Zf ?_
   refine Zw hE rfl ?_ ?_
   ·intro hb20
    have hs10:=Zz hs10 hb20
    refine Zc (Ze hE Za ld rfl fun a hE=>Zf ?_)
    have ht21:=hx11 _ (ois hs10)
    subst ht21
    have hr:=Option.some.inj hF7
    subst hr
    have hM:=M.fst (l:=[]) hM
    exact wp_ret (ZI (XT (ZI (ZI (XT (ZI (ZI (ZC hE rfl (Zx hE rfl) ⟨_,rfl,rfl,hM.kept⟩))))))))
   ·intro hb20
    have hs10:=ZA hs10 hb20
    refine wp_skip (Zy (wp_region_lit (Zd hE Za ld rfl ?_))); intro a hE
    obtain ⟨x23,hi22,hs10⟩:=bvx hs10
    refine Zg hE Za ld rfl rfl Try.underlying49 ty5 hi22.1 fun a hE=>Zu (v:=(vB x23)) hE Za ld rfl ty5 rfl (At.vec (hM.rawAt (pre:=[_])) hi22.2) ?_; intro a hE
    obtain ⟨x26,hi25,hs10⟩:=bvx hs10
    refine Zg hE Za ld rfl rfl Try.underlying117 ty4 hi25.1 fun a hE=>Zm (seg:=[vT true]) (cs':=enc (s9.1.setIfInBounds ((bI x23)).toNat true)) hE hM Za rfl rfl rfl ty4 rfl (ZE (v:=s9.1) (x:=true) hi25.1) (Flat.cell (true : Bool)) (Zs (v:=s9.1) (x:=true) hi25.1) fun w a hM hE=>Zj (Yg (Zy (wp_region_lit (Zd hE Za ld rfl fun a hE=>Zi hE Za ld rfl rfl rfl fun a hE=>Ze hE Za ld rfl fun a hE=>Zj (Zk ?_)))))
    exact ⟨_,(ois hs10),hE.sub ⟨rfl,rfl,rfl,trivial⟩,hM⟩
  ·intro hb13
   have hs10:=ZA hs10 hb13
   refine wp_exit (Zo (Zo (Yt ?_)))
   have ht28:=hx11 _ (ois hs10)
   subst ht28
   refine Zk ?_
   have hM:=M.fst (l:=[]) hM
   exact ⟨(),rfl,hE.sub trivial,hM⟩
 ·skip
  rintro a w ⟨s8,ht,hE,hM⟩
  subst ht
  have hF7:=UK hF7
  refine Zy (Zc (Ze hE Za ld rfl fun a hE=>Zf ?_))
  have hr:=Option.some.inj hF7
  subst hr
  exact wp_ret (ZC hE rfl (Zx hE rfl) ⟨_,rfl,rfl,hM.kept⟩)
def Xv (p0 : (Vector UInt8 16)) (s9 : (Vector Bool 16) × Int) : Option (Fl ((Vector Bool 16) × Int) (Fl Unit Bool)) :=
 if (decide (s9.2 < 16)) = true then (((Zq p0 s9.2).bind fun x18=>if (decide (x18 ≥ 16)) = true then (some true) else ((Zq p0 s9.2).bind fun x23=>(Zq s9.1 (bI x23)).bind fun x26=>some x26) : Option (Bool)).bind fun j14=>if j14 = true then (some (Fl.ex (Fl.ex false))) else ((Zq p0 s9.2).bind fun x32=>(Zq s9.1 (bI x32)).bind fun x35=>some (Fl.nx ((s9.1.setIfInBounds ((bI x32)).toNat true),wr (s9.2 + 1))))) else (some (Fl.ex (Fl.nx ())))
def Wi (p0 : (Vector UInt8 16)) : Option (Bool) :=
 (ZD (Xv p0) ((Vector.replicate 16 false),0)).bind fun j5=>j5.el (fun s8=>some true) (fun r=>some r)
theorem QT (w0 : World) (p0 : (Vector UInt8 16)) (r : Bool) (hF : Wi p0 = some r) :
  Calls Try.prog 114 [(Value.agg (enc p0).toArray)].toArray w0 (fun en w'=>∃ v,en = .returned v ∧ (v = (vT r) ∧ Kept (Old w0) w0 w')):=by
 refine ZB (n:=25) Try.func114 rfl rfl (nbl rfl) rfl ?_
 intro a hE
 have hM:=M.start w0
 unfold Wi at hF
 refine Zc (ZR (cs:=enc p0) hE hM Za ld rfl rfl fun b1 w a hM hE=>Ze hE Za ld rfl fun a hE=>Zf (Zc (Y8 (parts:=[]) (vs:=[]) (cs:=enc (Vector.replicate 16 false)) hE Za ld rfl rfl HI rfl ty4 YB fun a hE=>ZF hE hM Za ld HI fun b3 w a hM hE=>Zm (seg:=enc (Vector.replicate 16 false)) (cs':=enc (Vector.replicate 16 false)) hE hM Za rfl rfl rfl HI (Flat.len _) (zle flq) (Flat.cell _) (Zn flq) fun w a hM hE=>Zf (wp_seq (Zc (Ze hE Za ld rfl fun a hE=>Zf ?_))))))
 obtain ⟨j5,hl6,hF7⟩:=bind_some hF
 refine ZU (fun a w=>∃ s8 : Unit,j5 = Fl.nx s8 ∧ Env 25 a [] ∧ M (Old w0) w0 w []) ?_ ?_
 ·skip
  refine wp_block ?_
  refine ZG (fun (s9 : (Vector Bool 16) × Int) a w=>Env 25 a [(1,(ptr b1 0)),(3,(ptr b3 0)),(4,vI s9.2)] ∧ M (Old w0) w0 w [raw b3 (enc s9.1),raw b1 (enc p0)]) hl6 ⟨hE.sub ⟨rfl,rfl,rfl,trivial⟩,hM⟩ ?_
  rintro s9 a w ⟨hE,hM⟩ o12 hs10 hx11
  unfold Xv at hs10
  refine wp_seq (Zc (Zd hE Za ld rfl fun a hE=>Zi hE Za ld rfl rfl rfl fun a hE=>Zf ?_))
  refine Zw hE rfl ?_ ?_
  ·intro hb13
   have hs10:=Zz hs10 hb13
   refine wp_skip (Zy (wp_seq (wp_block (wp_seq ?_))))
   obtain ⟨j14,hl15,hF16⟩:=bind_some hs10
   refine ZQ (fun a w=>Env 25 a [(1,(ptr b1 0)),(3,(ptr b3 0)),(4,vI s9.2),(20,vT j14)] ∧ M (Old w0) w0 w [raw b3 (enc s9.1),raw b1 (enc p0)]) ?_ ?_
   ·skip
    refine wp_region_lit (Zd hE Za ld rfl ?_); intro a hE
    obtain ⟨x18,hi17,hl15⟩:=bvx hl15
    refine Zg hE Za ld rfl rfl Try.underlying51 ty5 hi17.1 fun a hE=>Zu (v:=(vB x18)) hE Za ld rfl ty5 rfl (At.vec (hM.rawAt (pre:=[_])) hi17.2) fun a hE=>Zi hE Za ld rfl rfl (bB_geq x18 16) fun a hE=>Zd hE Za ld rfl ?_; intro a hE
    refine WF (decide (x18 ≥ 16)) (fun hb20=>?_) (fun hb20=>?_)
    ·have hl15:=Zz hl15 hb20
     refine Zr hE rfl (lkb rfl hb20) rfl (by decide) fun a hE=>Zr hE rfl (lkb rfl hb20) rfl (by decide) fun a hE=>Zr hE rfl (lkb rfl hb20) rfl (by decide) fun a hE=>Zr hE rfl (lkb rfl hb20) rfl (by decide) fun a hE=>Zr hE rfl (lkb rfl hb20) rfl (by decide) fun a hE=>YO hE Za ld (lkb rfl hb20) rfl fun a hE=>Zj ?_
     have ht21:=Option.some.inj hl15
     subst ht21
     refine Zk ?_
     exact ⟨hE.sub ⟨rfl,rfl,rfl,rfl,trivial⟩,hM⟩
    ·have hl15:=ZA hl15 hb20
     refine Zd hE (Zt hE rfl (lkb rfl hb20)) (by decide) rfl ?_; intro a hE
     obtain ⟨x23,hi22,hl15⟩:=bvx hl15
     refine Zg hE (Zt hE rfl (lkb rfl hb20)) (by decide) rfl rfl Try.underlying51 ty5 hi22.1 fun a hE=>Zu (v:=(vB x23)) hE (Zt hE rfl (lkb rfl hb20)) (by decide) rfl ty5 rfl (At.vec (hM.rawAt (pre:=[_])) hi22.2) ?_; intro a hE
     obtain ⟨x26,hi25,hl15⟩:=bvx hl15
     refine Zg hE (Zt hE rfl (lkb rfl hb20)) (by decide) rfl rfl Try.underlying170 ty4 hi25.1 fun a hE=>Zu (v:=(vT x26)) hE (Zt hE rfl (lkb rfl hb20)) (by decide) rfl ty4 rfl (At.vec (hM.rawAt (pre:=[])) hi25.2) fun a hE=>Yu hE Za ld (lkb rfl hb20) rfl fun a hE=>Zj ?_
     have ht28:=Option.some.inj hl15
     subst ht28
     refine Zk ?_
     exact ⟨hE.sub ⟨rfl,rfl,rfl,rfl,trivial⟩,hM⟩
   ·skip
    rintro a w ⟨hE,hM⟩
    refine Zw hE rfl ?_ ?_
    ·intro hb29
     have hF16:=Zz hF16 hb29
     refine Zc (Ze hE Za ld rfl fun a hE=>Zf ?_)
     have ht30:=hx11 _ (ois hF16)
     subst ht30
     have hr:=Option.some.inj hF7
     subst hr
     have hM:=M.fst (l:=[]) hM
     exact wp_ret (ZI (XT (ZI (ZI (XT (ZI (ZI (ZC hE rfl (Zx hE rfl) ⟨_,rfl,rfl,hM.kept⟩))))))))
    ·intro hb29
     have hF16:=ZA hF16 hb29
     refine wp_skip (Zy (wp_region_lit (Zd hE Za ld rfl ?_))); intro a hE
     obtain ⟨x32,hi31,hF16⟩:=bvx hF16
     refine Zg hE Za ld rfl rfl Try.underlying51 ty5 hi31.1 fun a hE=>Zu (v:=(vB x32)) hE Za ld rfl ty5 rfl (At.vec (hM.rawAt (pre:=[_])) hi31.2) ?_; intro a hE
     obtain ⟨x35,hi34,hF16⟩:=bvx hF16
     refine Zg hE Za ld rfl rfl Try.underlying170 ty4 hi34.1 fun a hE=>Zm (seg:=[vT true]) (cs':=enc (s9.1.setIfInBounds ((bI x32)).toNat true)) hE hM Za rfl rfl rfl ty4 rfl (ZE (v:=s9.1) (x:=true) hi34.1) (Flat.cell (true : Bool)) (Zs (v:=s9.1) (x:=true) hi34.1) fun w a hM hE=>Zj (Yg (Zy (wp_region_lit (Zd hE Za ld rfl fun a hE=>Zi hE Za ld rfl rfl rfl fun a hE=>Ze hE Za ld rfl fun a hE=>Zj (Zk ?_)))))
     exact ⟨_,(ois hF16),hE.sub ⟨rfl,rfl,rfl,trivial⟩,hM⟩
  ·intro hb13
   have hs10:=ZA hs10 hb13
   refine wp_exit (Zo (Zo (Yt ?_)))
   have ht37:=hx11 _ (ois hs10)
   subst ht37
   refine Zk ?_
   have hM:=M.fst (l:=[]) hM
   exact ⟨(),rfl,hE.sub trivial,hM⟩
 ·skip
  rintro a w ⟨s8,ht,hE,hM⟩
  subst ht
  have hF7:=UK hF7
  refine Zy (Zc (Ze hE Za ld rfl fun a hE=>Zf ?_))
  have hr:=Option.some.inj hF7
  subst hr
  exact wp_ret (ZC hE rfl (Zx hE rfl) ⟨_,rfl,rfl,hM.kept⟩)
def WO (s8 : (Vector (Vector UInt8 4) 4) × Int) : Option (Fl ((Vector (Vector UInt8 4) 4) × Int) (Vector (Vector UInt8 4) 4)) :=
 if (decide (s8.2 < 4)) = true then ((Zq s8.1 s8.2).bind fun x14=>(Zq x14 s8.2).bind fun x17=>some (Fl.nx ((s8.1.setIfInBounds (s8.2).toNat (x14.setIfInBounds (s8.2).toNat 1)),wr (s8.2 + 1)))) else (some (Fl.ex s8.1))
def Xw : Option ((Vector (Vector UInt8 4) 4)) :=
 (ZD (WO) ((Vector.replicate 4 (Vector.replicate 4 (0 : UInt8))),0)).bind fun j5=>some j5
theorem Tg (w0 : World)  (r : (Vector (Vector UInt8 4) 4)) (hF : Xw  = some r) :
  Calls Try.prog 156 [].toArray w0 (fun en w'=>∃ v,en = .returned v ∧ (v = (Value.agg (enc r).toArray) ∧ Kept (Old w0) w0 w')):=by
 refine ZB (n:=13) Try.func156 rfl rfl (nbl rfl) rfl ?_
 intro a hE
 have hM:=M.start w0
 unfold Xw at hF
 refine Zc (ZF hE hM Za ld Yi fun b1 w a hM hE=>Zf (Zc (Y8 (parts:=[]) (vs:=[]) (cs:=enc (Vector.replicate 4 (Vector.replicate 4 (0 : UInt8)))) hE Za ld rfl rfl Yi rfl ZV YB fun a hE=>ZF hE hM Za ld Yi fun b3 w a hM hE=>Zm (seg:=enc (Vector.replicate 4 (Vector.replicate 4 (0 : UInt8)))) (cs':=enc (Vector.replicate 4 (Vector.replicate 4 (0 : UInt8)))) hE hM Za rfl rfl rfl Yi (Flat.len _) (zle flq) (Flat.cell _) (Zn flq) fun w a hM hE=>Zf (wp_seq (Zc (Ze hE Za ld rfl fun a hE=>Zf ?_))))))
 obtain ⟨j5,hl6,hF7⟩:=bind_some hF
 refine ZU (fun a w=>Env 13 a [(0,(ptr b1 0)),(1,(ptr b3 0))] ∧ M (Old w0) w0 w [raw b3 (enc j5),raw b1 (enc (Vector.replicate 4 (Vector.replicate 4 (0 : UInt8))))]) ?_ ?_
 ·skip
  refine wp_block ?_
  refine ZG (fun (s8 : (Vector (Vector UInt8 4) 4) × Int) a w=>Env 13 a [(0,(ptr b1 0)),(1,(ptr b3 0)),(2,vI s8.2)] ∧ M (Old w0) w0 w [raw b3 (enc s8.1),raw b1 (enc (Vector.replicate 4 (Vector.replicate 4 (0 : UInt8))))]) hl6 ⟨hE.sub ⟨rfl,rfl,rfl,trivial⟩,hM⟩ ?_
  rintro s8 a w ⟨hE,hM⟩ o11 hs9 hx10
  unfold WO at hs9
  refine wp_seq (Zc (Zd hE Za ld rfl fun a hE=>Zi hE Za ld rfl rfl rfl fun a hE=>Zf ?_))
  refine Zw hE rfl ?_ ?_
  ·intro hb12
   have hs9:=Zz hs9 hb12
   refine wp_skip (Zy (wp_seq (wp_block (wp_region_lit (Zd hE Za ld rfl fun a hE=>Zd hE Za ld rfl ?_))))); intro a hE
   obtain ⟨x14,hi13,hs9⟩:=bvx hs9
   refine Zg hE Za ld rfl rfl Try.underlying50 ZV hi13.1 ?_; intro a hE
   obtain ⟨x17,hi16,hs9⟩:=bvx hs9
   refine Zg hE Za ld rfl rfl Try.underlying42 ty5 hi16.1 fun a hE=>Zm (seg:=[vB 1]) (cs':=enc (s8.1.setIfInBounds (s8.2).toNat (x14.setIfInBounds (s8.2).toNat 1))) hE hM Za rfl rfl rfl ty5 rfl (XM (o':=0 + (s8.2).toNat * 1) hi13 (ZE (v:=x14) (x:=1) hi16.1) (by first | omega | (simp only [Flat.n] <;> omega))) (Flat.cell (1 : UInt8)) (Yr (o':=0 + (s8.2).toNat * 1) hi13 (ZE (v:=x14) (x:=1) hi16.1) (Zs (v:=x14) (x:=1) hi16.1) (by first | omega | (simp only [Flat.n] <;> omega))) fun w a hM hE=>Zj (Yg (Zy (wp_region_lit (Zd hE Za ld rfl fun a hE=>Zi hE Za ld rfl rfl rfl fun a hE=>Ze hE Za ld rfl fun a hE=>Zj (Zk ?_)))))
   exact ⟨_,(ois hs9),hE.sub ⟨rfl,rfl,rfl,trivial⟩,hM⟩
  ·intro hb12
   have hs9:=ZA hs9 hb12
   refine wp_exit (Zo (Zo (Yt ?_)))
   have ht19:=hx10 _ (ois hs9)
   subst ht19
   refine Zk ?_
   exact ⟨hE.sub ⟨rfl,rfl,trivial⟩,hM⟩
 ·skip
  rintro a w ⟨hE,hM⟩
  refine Zy (Zc (Zl (cs:=enc j5) hE Za ld rfl Yi rfl (hM.rawAt (pre:=[])) (Flat.len _) ?_)); intro a hE
  have hM:=hM.pull (pre:=[_])
  refine Zm (seg:=enc j5) (cs':=enc j5) hE hM Za rfl rfl rfl Yi (Flat.len _) (zle flq) (Flat.cell _) (Zn flq) fun w a hM hE=>Zf ?_
  have hr:=Option.some.inj hF7
  subst hr
  have hq20 : Yy Try.prog _ _ (.cell 0 50) _:=ZX hE rfl Yi rfl (hM.rawAt (pre:=[])) (Flat.len _) rfl
  have hM:=M.fst (l:=[]) hM
  exact wp_ret (ZC hE rfl hq20 ⟨_,rfl,rfl,hM.kept⟩)
def Ye (p0 : Int) (s4 : Int × Int × Int) : Option (Fl (Int × Int × Int) Int) :=
 if (decide (s4.2.2 > 0)) = true then (((if ((Int.tmod s4.2.2 2) == 1) = true then (some (KO s4.1 s4.2.1)) else (some s4.1) : Option (Int)).bind fun j12=>(if (decide ((wr (s4.2.1 * 2)) ≥ 256)) = true then (some (KO (wr (s4.2.1 * 2)) p0)) else (some (wr (s4.2.1 * 2))) : Option (Int)).bind fun j18=>some (j12,j18) : Option (Int × Int)).bind fun j9=>some (Fl.nx (j9.1,j9.2,wr (Int.tdiv s4.2.2 2)))) else (some (Fl.ex s4.1))
def ZW (p0 : Int) (p1 : UInt8) (p2 : UInt8) : Option (UInt8) :=
 (ZD (Ye p0) (0,bI p1,bI p2)).bind fun j1=>some (ZO j1)
theorem Yq (w0 : World) (p0 : Int) (p1 : UInt8) (p2 : UInt8) (r : UInt8) (hF : ZW p0 p1 p2 = some r) :
  Calls Try.prog 140 [vI p0,vB p1,vB p2].toArray w0 (fun en w'=>∃ v,en = .returned v ∧ (v = (vB r) ∧ Kept (Old w0) w0 w')):=by
 refine ZB (n:=33) Try.func140 rfl rfl (nbl rfl) rfl ?_
 intro a hE
 have hM:=M.start w0
 unfold ZW at hF
 refine Zc (Ze hE Za ld rfl fun a hE=>Zf (Zc (Zd hE Za ld rfl fun a hE=>XW hE Za ld rfl Try.underlying5 Try.underlying2 ?_))); intro a hE
 rw [W8] at hE
 refine Ze hE Za ld rfl fun a hE=>Ze hE Za ld rfl fun a hE=>Zf (wp_seq (Zc (Zd hE Za ld rfl fun a hE=>XW hE Za ld rfl Try.underlying5 Try.underlying2 ?_))); intro a hE
 rw [W8] at hE
 refine Ze hE Za ld rfl fun a hE=>Zf ?_
 obtain ⟨j1,hl2,hF3⟩:=bind_some hF
 refine ZU (fun a w=>Env 33 a [(7,vI j1)] ∧ M (Old w0) w0 w []) ?_ ?_
 ·skip
  refine wp_block ?_
  refine ZG (fun (s4 : Int × Int × Int) a w=>Env 33 a [(0,vI p0),(7,vI s4.1),(8,vI s4.2.1),(9,vI s4.2.2)] ∧ M (Old w0) w0 w []) hl2 ⟨hE.sub ⟨rfl,rfl,rfl,rfl,trivial⟩,hM⟩ ?_
  rintro s4 a w ⟨hE,hM⟩ o7 hs5 hx6
  unfold Ye at hs5
  refine wp_seq (Zc (Zd hE Za ld rfl fun a hE=>Zi hE Za ld rfl rfl rfl fun a hE=>Zf ?_))
  refine Zw hE rfl ?_ ?_
  ·intro hb8
   have hs5:=Zz hs5 hb8
   refine wp_skip (Zy ?_)
   obtain ⟨j9,hl10,hF11⟩:=bind_some hs5
   refine ZQ (fun a w=>Env 33 a [(0,vI p0),(7,vI j9.1),(8,vI j9.2),(9,vI s4.2.2)] ∧ M (Old w0) w0 w []) ?_ ?_
   ·skip
    refine wp_block ?_
    obtain ⟨j12,hl13,hF14⟩:=bind_some hl10
    refine ZQ (fun a w=>Env 33 a [(0,vI p0),(7,vI j12),(8,vI s4.2.1),(9,vI s4.2.2)] ∧ M (Old w0) w0 w []) ?_ ?_
    ·skip
     refine Zc (Zd hE Za ld rfl fun a hE=>Zi hE Za ld rfl rfl (QD _ _ (by decide)) fun a hE=>Zi hE Za ld rfl rfl rfl fun a hE=>Zf ?_)
     refine Zw hE rfl ?_ ?_
     ·intro hb15
      have hl13:=Zz hl13 hb15
      refine wp_region_lit (Zd hE Za ld rfl fun a hE=>Zd hE Za ld rfl fun a hE=>Zi hE Za ld rfl rfl rfl fun a hE=>Ze hE Za ld rfl fun a hE=>Zj ?_)
      have ht16:=Option.some.inj hl13
      subst ht16
      refine Zk ?_
      exact ⟨hE.sub ⟨rfl,rfl,rfl,rfl,trivial⟩,hM⟩
     ·intro hb15
      have hl13:=ZA hl13 hb15
      refine wp_skip ?_
      have ht17:=Option.some.inj hl13
      subst ht17
      refine Zk ?_
      exact ⟨hE.sub ⟨rfl,rfl,rfl,rfl,trivial⟩,hM⟩
    ·skip
     rintro a w ⟨hE,hM⟩
     refine Zc (Zd hE Za ld rfl fun a hE=>Zi hE Za ld rfl rfl rfl fun a hE=>Ze hE Za ld rfl fun a hE=>Zf (Zc (Zd hE Za ld rfl fun a hE=>Zi hE Za ld rfl rfl rfl fun a hE=>Zf ?_)))
     obtain ⟨j18,hl19,hF20⟩:=bind_some hF14
     refine ZU (fun a w=>Env 33 a [(0,vI p0),(7,vI j12),(8,vI j18),(9,vI s4.2.2)] ∧ M (Old w0) w0 w []) ?_ ?_
     ·skip
      refine Zw hE rfl ?_ ?_
      ·intro hb21
       have hl19:=Zz hl19 hb21
       refine wp_region_lit (Zd hE Za ld rfl fun a hE=>Zd hE Za ld rfl fun a hE=>Zi hE Za ld rfl rfl rfl fun a hE=>Ze hE Za ld rfl fun a hE=>Zj ?_)
       have ht22:=Option.some.inj hl19
       subst ht22
       refine Zk ?_
       exact ⟨hE.sub ⟨rfl,rfl,rfl,rfl,trivial⟩,hM⟩
      ·intro hb21
       have hl19:=ZA hl19 hb21
       refine wp_skip ?_
       have ht23:=Option.some.inj hl19
       subst ht23
       refine Zk ?_
       exact ⟨hE.sub ⟨rfl,rfl,rfl,rfl,trivial⟩,hM⟩
     ·skip
      rintro a w ⟨hE,hM⟩
      refine Yg ?_
      have ht24:=Option.some.inj hF20
      subst ht24
      refine Zk ?_
      exact ⟨hE.sub ⟨rfl,rfl,rfl,rfl,trivial⟩,hM⟩
   ·skip
    rintro a w ⟨hE,hM⟩
    refine wp_region_lit (Zd hE Za ld rfl fun a hE=>Zi hE Za ld rfl rfl (Qz _ _ (by decide)) fun a hE=>Ze hE Za ld rfl fun a hE=>Zj (Zk ?_))
    exact ⟨_,(ois hF11),hE.sub ⟨rfl,rfl,rfl,rfl,trivial⟩,hM⟩
  ·intro hb8
   have hs5:=ZA hs5 hb8
   refine wp_exit (Zo (Zo (Yt ?_)))
   have ht25:=hx6 _ (ois hs5)
   subst ht25
   refine Zk ?_
   exact ⟨hE.sub ⟨rfl,trivial⟩,hM⟩
 ·skip
  rintro a w ⟨hE,hM⟩
  refine Zy (Zc (Zd hE Za ld rfl fun a hE=>XW hE Za ld rfl Try.underlying2 Try.underlying5 ?_)); intro a hE
  rw [Xq] at hE
  refine Ze hE Za ld rfl fun a hE=>Zf ?_
  have hr:=Option.some.inj hF3
  subst hr
  exact wp_ret (ZC hE rfl (Zx hE rfl) ⟨_,rfl,rfl,hM.kept⟩)
def Ww (p0 : Int) (s4 : UInt8 × Int × UInt8) : Option (Fl (UInt8 × Int × UInt8) UInt8) :=
 if (decide (s4.2.1 > 0)) = true then (((if ((Int.tmod s4.2.1 2) == 1) = true then ((ZW p0 s4.2.2 s4.1).bind fun r16=>some r16) else (some s4.2.2) : Option (UInt8)).bind fun j12=>(ZW p0 s4.1 s4.1).bind fun r20=>some (r20,j12) : Option (UInt8 × UInt8)).bind fun j9=>some (Fl.nx (j9.1,wr (Int.tdiv s4.2.1 2),j9.2))) else (some (Fl.ex s4.2.2))
def Xo (p0 : Int) (p1 : UInt8) (p2 : Int) : Option (UInt8) :=
 (ZD (Ww p0) (p1,p2,1)).bind fun j1=>some j1
theorem Qk (w0 : World) (p0 : Int) (p1 : UInt8) (p2 : Int) (r : UInt8) (hF : Xo p0 p1 p2 = some r) :
  Calls Try.prog 160 [vI p0,vB p1,vI p2].toArray w0 (fun en w'=>∃ v,en = .returned v ∧ (v = (vB r) ∧ Kept (Old w0) w0 w')):=by
 refine ZB (n:=24) Try.func160 rfl rfl (nbl rfl) rfl ?_
 intro a hE
 have hM:=M.start w0
 unfold Xo at hF
 refine Zc (Ze hE Za ld rfl fun a hE=>Zf (Zc (Ze hE Za ld rfl fun a hE=>Zf ?_)))
 obtain ⟨j1,hl2,hF3⟩:=bind_some hF
 refine ZQ (fun a w=>Env 24 a [(7,vB j1)] ∧ M (Old w0) w0 w []) ?_ ?_
 ·skip
  refine wp_block ?_
  refine ZG (fun (s4 : UInt8 × Int × UInt8) a w=>Env 24 a [(0,vI p0),(1,vB s4.1),(2,vI s4.2.1),(7,vB s4.2.2)] ∧ M (Old w0) w0 w []) hl2 ⟨hE.sub ⟨rfl,rfl,rfl,rfl,trivial⟩,hM⟩ ?_
  rintro s4 a w ⟨hE,hM⟩ o7 hs5 hx6
  unfold Ww at hs5
  refine wp_seq (Zc (Zd hE Za ld rfl fun a hE=>Zi hE Za ld rfl rfl rfl fun a hE=>Zf ?_))
  refine Zw hE rfl ?_ ?_
  ·intro hb8
   have hs5:=Zz hs5 hb8
   refine wp_skip (Zy ?_)
   obtain ⟨j9,hl10,hF11⟩:=bind_some hs5
   refine ZQ (fun a w=>Env 24 a [(0,vI p0),(1,vB j9.1),(2,vI s4.2.1),(7,vB j9.2)] ∧ M (Old w0) w0 w []) ?_ ?_
   ·skip
    refine wp_block ?_
    obtain ⟨j12,hl13,hF14⟩:=bind_some hl10
    refine ZQ (fun a w=>Env 24 a [(0,vI p0),(1,vB s4.1),(2,vI s4.2.1),(7,vB j12)] ∧ M (Old w0) w0 w []) ?_ ?_
    ·skip
     refine Zc (Zd hE Za ld rfl fun a hE=>Zi hE Za ld rfl rfl (QD _ _ (by decide)) fun a hE=>Zi hE Za ld rfl rfl rfl fun a hE=>Zf ?_)
     refine Zw hE rfl ?_ ?_
     ·intro hb15
      have hl13:=Zz hl13 hb15
      refine wp_region_lit (Zd hE Za ld rfl fun a hE=>Zd hE Za ld rfl fun a hE=>Zd hE Za ld rfl ?_); intro a hE
      obtain ⟨r16,e17,hl13⟩:=bind_some hl13
      refine Zv hE Za ld rfl TZ (Yq _ p0 s4.2.2 s4.1 r16 e17) ?_
      rintro v w a ⟨rfl,hK⟩ hE
      have hM:=hM.keep hK
      refine Ze hE Za ld rfl fun a hE=>Zj ?_
      have ht18:=Option.some.inj hl13
      subst ht18
      refine Zk ?_
      exact ⟨hE.sub ⟨rfl,rfl,rfl,rfl,trivial⟩,hM⟩
     ·intro hb15
      have hl13:=ZA hl13 hb15
      refine wp_skip ?_
      have ht19:=Option.some.inj hl13
      subst ht19
      refine Zk ?_
      exact ⟨hE.sub ⟨rfl,rfl,rfl,rfl,trivial⟩,hM⟩
    ·skip
     rintro a w ⟨hE,hM⟩
     refine wp_region_lit (Zd hE Za ld rfl fun a hE=>Zd hE Za ld rfl fun a hE=>Zd hE Za ld rfl ?_); intro a hE
     obtain ⟨r20,e21,hF14⟩:=bind_some hF14
     refine Zv hE Za ld rfl TZ (Yq _ p0 s4.1 s4.1 r20 e21) ?_
     rintro v w a ⟨rfl,hK⟩ hE
     have hM:=hM.keep hK
     refine Ze hE Za ld rfl fun a hE=>Zj (Yg ?_)
     have ht22:=Option.some.inj hF14
     subst ht22
     refine Zk ?_
     exact ⟨hE.sub ⟨rfl,rfl,rfl,rfl,trivial⟩,hM⟩
   ·skip
    rintro a w ⟨hE,hM⟩
    refine wp_region_lit (Zd hE Za ld rfl fun a hE=>Zi hE Za ld rfl rfl (Qz _ _ (by decide)) fun a hE=>Ze hE Za ld rfl fun a hE=>Zj (Zk ?_))
    exact ⟨_,(ois hF11),hE.sub ⟨rfl,rfl,rfl,rfl,trivial⟩,hM⟩
  ·intro hb8
   have hs5:=ZA hs5 hb8
   refine wp_exit (Zo (Zo (Yt ?_)))
   have ht23:=hx6 _ (ois hs5)
   subst ht23
   refine Zk ?_
   exact ⟨hE.sub ⟨rfl,trivial⟩,hM⟩
 ·skip
  rintro a w ⟨hE,hM⟩
  refine Zc (Zd hE Za ld rfl fun a hE=>Ze hE Za ld rfl fun a hE=>Zf ?_)
  have hr:=Option.some.inj hF3
  subst hr
  exact wp_ret (ZC hE rfl (Zx hE rfl) ⟨_,rfl,rfl,hM.kept⟩)
def WL (p0 : Int) (p1 : UInt8) : Option (UInt8) :=
 (Xo p0 p1 254).bind fun r1=>some r1
theorem Q3 (w0 : World) (p0 : Int) (p1 : UInt8) (r : UInt8) (hF : WL p0 p1 = some r) :
  Calls Try.prog 157 [vI p0,vB p1].toArray w0 (fun en w'=>∃ v,en = .returned v ∧ (v = (vB r) ∧ Kept (Old w0) w0 w')):=by
 refine ZB (n:=8) Try.func157 rfl rfl (nbl rfl) rfl ?_
 intro a hE
 have hM:=M.start w0
 unfold WL at hF
 refine Zc (Ze hE Za ld rfl fun a hE=>Zf (Zc (Zd hE Za ld rfl fun a hE=>Zd hE Za ld rfl ?_))); intro a hE
 obtain ⟨r1,e2,hF⟩:=bind_some hF
 refine Zv hE Za ld rfl cb160 (Qk _ p0 p1 254 r1 e2) ?_
 rintro v w a ⟨rfl,hK⟩ hE
 have hM:=hM.keep hK
 refine Ze hE Za ld rfl fun a hE=>Zf ?_
 have hr:=Option.some.inj hF
 subst hr
 exact wp_ret (ZC hE rfl (Zx hE rfl) ⟨_,rfl,rfl,hM.kept⟩)
def WT (s13 : (Vector (Vector UInt8 4) 4) × (Vector (Vector UInt8 4) 4) × UInt8 × Int) (s21 : Int) : Option (Fl Int Int) :=
 (if (decide (s21 < 4)) = true then ((Zq s13.1 s21).bind fun x30=>(Zq x30 s13.2.2.2).bind fun x33=>some (x33 == 0)) else (some false) : Option (Bool)).bind fun j25=>if j25 = true then (some (Fl.nx (wr (s21 + 1)))) else (some (Fl.ex s21))
def Xx (p0 : Int) (s13 : (Vector (Vector UInt8 4) 4) × (Vector (Vector UInt8 4) 4) × UInt8 × Int) (r91 : UInt8) (s96 : (Vector (Vector UInt8 4) 4) × (Vector (Vector UInt8 4) 4) × Int) : Option (Fl ((Vector (Vector UInt8 4) 4) × (Vector (Vector UInt8 4) 4) × Int) ((Vector (Vector UInt8 4) 4) × (Vector (Vector UInt8 4) 4))) :=
 if (decide (s96.2.2 < 4)) = true then (((Zq s96.1 s13.2.2.2).bind fun x106=>(Zq x106 s96.2.2).bind fun x109=>(ZW p0 x109 r91).bind fun r111=>(Zq s96.1 s13.2.2.2).bind fun x114=>(Zq x114 s96.2.2).bind fun x117=>some (s96.1.setIfInBounds (s13.2.2.2).toNat (x114.setIfInBounds (s96.2.2).toNat r111)) : Option ((Vector (Vector UInt8 4) 4))).bind fun j101=>(Zq s96.2.1 s13.2.2.2).bind fun x122=>(Zq x122 s96.2.2).bind fun x125=>(ZW p0 x125 r91).bind fun r127=>(Zq s96.2.1 s13.2.2.2).bind fun x130=>(Zq x130 s96.2.2).bind fun x133=>some (Fl.nx (j101,(s96.2.1.setIfInBounds (s13.2.2.2).toNat (x130.setIfInBounds (s96.2.2).toNat r127)),wr (s96.2.2 + 1)))) else (some (Fl.ex (s96.1,s96.2.1)))
def Yh (p0 : Int) (s13 : (Vector (Vector UInt8 4) 4) × (Vector (Vector UInt8 4) 4) × UInt8 × Int) (s139 : (Vector (Vector UInt8 4) 4) × (Vector (Vector UInt8 4) 4) × Int) (x148 : UInt8) (s153 : (Vector (Vector UInt8 4) 4) × (Vector (Vector UInt8 4) 4) × Int) : Option (Fl ((Vector (Vector UInt8 4) 4) × (Vector (Vector UInt8 4) 4) × Int) ((Vector (Vector UInt8 4) 4) × (Vector (Vector UInt8 4) 4))) :=
 (if (decide (s153.2.2 < 4)) = true then (some (s139.2.2 != s13.2.2.2)) else (some false) : Option (Bool)).bind fun j157=>if j157 = true then (((Zq s153.1 s139.2.2).bind fun x169=>(Zq x169 s153.2.2).bind fun x172=>(Zq s153.1 s13.2.2.2).bind fun x175=>(Zq x175 s153.2.2).bind fun x178=>(ZW p0 x148 x178).bind fun r180=>(Zq s153.1 s139.2.2).bind fun x183=>(Zq x183 s153.2.2).bind fun x186=>some (s153.1.setIfInBounds (s139.2.2).toNat (x183.setIfInBounds (s153.2.2).toNat (x172 ^^^ r180))) : Option ((Vector (Vector UInt8 4) 4))).bind fun j164=>(Zq s153.2.1 s139.2.2).bind fun x191=>(Zq x191 s153.2.2).bind fun x194=>(Zq s153.2.1 s13.2.2.2).bind fun x197=>(Zq x197 s153.2.2).bind fun x200=>(ZW p0 x148 x200).bind fun r202=>(Zq s153.2.1 s139.2.2).bind fun x205=>(Zq x205 s153.2.2).bind fun x208=>some (Fl.nx (j164,(s153.2.1.setIfInBounds (s139.2.2).toNat (x205.setIfInBounds (s153.2.2).toNat (x194 ^^^ r202))),wr (s153.2.2 + 1)))) else (some (Fl.ex (s153.1,s153.2.1)))
def XB (p0 : Int) (s13 : (Vector (Vector UInt8 4) 4) × (Vector (Vector UInt8 4) 4) × UInt8 × Int) (s139 : (Vector (Vector UInt8 4) 4) × (Vector (Vector UInt8 4) 4) × Int) : Option (Fl ((Vector (Vector UInt8 4) 4) × (Vector (Vector UInt8 4) 4) × Int) ((Vector (Vector UInt8 4) 4) × (Vector (Vector UInt8 4) 4))) :=
 if (decide (s139.2.2 < 4)) = true then ((Zq s139.1 s139.2.2).bind fun x145=>(Zq x145 s13.2.2.2).bind fun x148=>(ZD (Yh p0 s13 s139 x148) (s139.1,s139.2.1,0)).bind fun j150=>some (Fl.nx (j150.1,j150.2,wr (s139.2.2 + 1)))) else (some (Fl.ex (s139.1,s139.2.1)))
def Yj (p0 : Int) (s13 : (Vector (Vector UInt8 4) 4) × (Vector (Vector UInt8 4) 4) × UInt8 × Int) : Option (Fl ((Vector (Vector UInt8 4) 4) × (Vector (Vector UInt8 4) 4) × UInt8 × Int) (Fl ((Vector (Vector UInt8 4) 4) × UInt8) (UInt8 × (Vector (Vector UInt8 4) 4)))) :=
 if (decide (s13.2.2.2 < 4)) = true then ((ZD (WT s13) s13.2.2.2).bind fun j18=>if (j18 == 4) = true then (some (Fl.ex (Fl.ex (0,(Vector.replicate 4 (Vector.replicate 4 (0 : UInt8))))))) else ((Zq s13.1 j18).bind fun x44=>(Zq s13.2.1 j18).bind fun x47=>(Zq s13.1 s13.2.2.2).bind fun x60=>(Zq s13.1 j18).bind fun x63=>(Zq (s13.1.setIfInBounds (j18).toNat x60) s13.2.2.2).bind fun x66=>(Zq s13.2.1 s13.2.2.2).bind fun x69=>(Zq s13.2.1 j18).bind fun x72=>(Zq (s13.2.1.setIfInBounds (j18).toNat x69) s13.2.2.2).bind fun x75=>(Zq ((s13.1.setIfInBounds (j18).toNat x60).setIfInBounds (s13.2.2.2).toNat x44) s13.2.2.2).bind fun x78=>(Zq x78 s13.2.2.2).bind fun x81=>(ZW p0 s13.2.2.1 x81).bind fun r83=>(Zq ((s13.1.setIfInBounds (j18).toNat x60).setIfInBounds (s13.2.2.2).toNat x44) s13.2.2.2).bind fun x86=>(Zq x86 s13.2.2.2).bind fun x89=>(WL p0 x89).bind fun r91=>(ZD (Xx p0 s13 r91) (((s13.1.setIfInBounds (j18).toNat x60).setIfInBounds (s13.2.2.2).toNat x44),((s13.2.1.setIfInBounds (j18).toNat x69).setIfInBounds (s13.2.2.2).toNat x47),0)).bind fun j93=>(ZD (XB p0 s13) (j93.1,j93.2,0)).bind fun j136=>some (Fl.nx (j136.1,j136.2,r83,wr (s13.2.2.2 + 1))))) else (some (Fl.ex (Fl.nx (s13.2.1,s13.2.2.1))))
def XJ (p0 : Int) (p1 : (Vector (Vector UInt8 4) 4)) : Option (UInt8 × (Vector (Vector UInt8 4) 4)) :=
 (Xw).bind fun r5=>(ZD (Yj p0) (p1,r5,1,0)).bind fun j9=>j9.el (fun s12=>(some (s12.1,s12.2) : Option ((Vector (Vector UInt8 4) 4) × UInt8)).bind fun j213=>some (j213.2,j213.1)) (fun r=>some r)
theorem TW (w0 : World) (p0 : Int) (p1 : (Vector (Vector UInt8 4) 4)) (r : UInt8 × (Vector (Vector UInt8 4) 4)) (hF : XJ p0 p1 = some r) :
  Calls Try.prog 149 [vI p0,(Value.agg (enc p1).toArray)].toArray w0 (fun en w'=>∃ v,en = .returned v ∧ (v = (Value.tuple [vB r.1,(Value.agg (enc r.2).toArray)].toArray) ∧ Kept (Old w0) w0 w')):=by
 refine ZB (n:=159) Try.func149 rfl rfl (nbl rfl) rfl ?_
 intro a hE
 have hM:=M.start w0
 unfold XJ at hF
 refine Zc (ZR (cs:=enc p1) hE hM Za ld rfl rfl fun b1 w a hM hE=>Ze hE Za ld rfl fun a hE=>ZF hE hM Za ld Yi fun b3 w a hM hE=>Zf (Zc ?_))
 obtain ⟨r5,e6,hF⟩:=bind_some hF
 refine Zv hE Za ld rfl cb156 (Tg _  r5 e6) ?_
 rintro v w a ⟨rfl,hK⟩ hE
 have hM:=hM.keep hK
 refine ZF hE hM Za ld Yi fun b7 w a hM hE=>Zm (seg:=enc r5) (cs':=enc r5) hE hM Za rfl rfl rfl Yi (Flat.len _) (zle flq) (Flat.cell _) (Zn flq) fun w a hM hE=>Ze hE Za ld rfl fun a hE=>Zf (wp_seq (Zc (Ze hE Za ld rfl fun a hE=>Zf ?_)))
 obtain ⟨j9,hl10,hF11⟩:=bind_some hF
 refine ZU (fun a w=>∃ s12 : (Vector (Vector UInt8 4) 4) × UInt8,j9 = Fl.nx s12 ∧ Env 159 a [(5,(ptr b3 0)),(6,(ptr b7 0)),(7,vB s12.2)] ∧ M (Old w0) w0 w [raw b7 (enc s12.1),raw b3 (enc (Vector.replicate 4 (Vector.replicate 4 (0 : UInt8))))]) ?_ ?_
 ·skip
  refine wp_block ?_
  refine ZG (fun (s13 : (Vector (Vector UInt8 4) 4) × (Vector (Vector UInt8 4) 4) × UInt8 × Int) a w=>Env 159 a [(0,vI p0),(3,(ptr b1 0)),(5,(ptr b3 0)),(6,(ptr b7 0)),(7,vB s13.2.2.1),(8,vI s13.2.2.2)] ∧ M (Old w0) w0 w [raw b7 (enc s13.2.1),raw b3 (enc (Vector.replicate 4 (Vector.replicate 4 (0 : UInt8)))),raw b1 (enc s13.1)]) hl10 ⟨hE.sub ⟨rfl,rfl,rfl,rfl,rfl,rfl,trivial⟩,hM⟩ ?_
  rintro s13 a w ⟨hE,hM⟩ o16 hs14 hx15
  unfold Yj at hs14
  refine wp_seq (Zc (Zd hE Za ld rfl fun a hE=>Zi hE Za ld rfl rfl rfl fun a hE=>Zf ?_))
  refine Zw hE rfl ?_ ?_
  ·intro hb17
   have hs14:=Zz hs14 hb17
   refine wp_skip (Zy (wp_seq (wp_block (Zc (Zd hE Za ld rfl fun a hE=>Ze hE Za ld rfl fun a hE=>Zf ?_)))))
   obtain ⟨j18,hl19,hF20⟩:=bind_some hs14
   refine ZQ (fun a w=>Env 159 a [(0,vI p0),(3,(ptr b1 0)),(5,(ptr b3 0)),(6,(ptr b7 0)),(7,vB s13.2.2.1),(8,vI s13.2.2.2),(9,vI j18)] ∧ M (Old w0) w0 w [raw b7 (enc s13.2.1),raw b3 (enc (Vector.replicate 4 (Vector.replicate 4 (0 : UInt8)))),raw b1 (enc s13.1)]) ?_ ?_
   ·skip
    refine wp_block ?_
    refine ZG (fun (s21 : Int) a w=>Env 159 a [(0,vI p0),(3,(ptr b1 0)),(5,(ptr b3 0)),(6,(ptr b7 0)),(7,vB s13.2.2.1),(8,vI s13.2.2.2),(9,vI s21)] ∧ M (Old w0) w0 w [raw b7 (enc s13.2.1),raw b3 (enc (Vector.replicate 4 (Vector.replicate 4 (0 : UInt8)))),raw b1 (enc s13.1)]) hl19 ⟨hE.sub ⟨rfl,rfl,rfl,rfl,rfl,rfl,rfl,trivial⟩,hM⟩ ?_
    rintro s21 a w ⟨hE,hM⟩ o24 hs22 hx23
    unfold WT at hs22
    refine wp_seq ?_
    obtain ⟨j25,hl26,hF27⟩:=bind_some hs22
    refine ZQ (fun a w=>Env 159 a [(0,vI p0),(3,(ptr b1 0)),(5,(ptr b3 0)),(6,(ptr b7 0)),(7,vB s13.2.2.1),(8,vI s13.2.2.2),(9,vI s21),(32,vT j25)] ∧ M (Old w0) w0 w [raw b7 (enc s13.2.1),raw b3 (enc (Vector.replicate 4 (Vector.replicate 4 (0 : UInt8)))),raw b1 (enc s13.1)]) ?_ ?_
    ·skip
     refine wp_region_lit (Zd hE Za ld rfl fun a hE=>Zi hE Za ld rfl rfl rfl fun a hE=>Zd hE Za ld rfl ?_); intro a hE
     refine WF (decide (s21 < 4)) (fun hb28=>?_) (fun hb28=>?_)
     ·have hl26:=Zz hl26 hb28
      refine Zd hE (Zt hE rfl (lkb rfl hb28)) (by decide) rfl fun a hE=>Zd hE (Zt hE rfl (lkb rfl hb28)) (by decide) rfl ?_; intro a hE
      obtain ⟨x30,hi29,hl26⟩:=bvx hl26
      refine Zg hE (Zt hE rfl (lkb rfl hb28)) (by decide) rfl rfl Try.underlying50 ZV hi29.1 ?_; intro a hE
      obtain ⟨x33,hi32,hl26⟩:=bvx hl26
      refine Zg hE (Zt hE rfl (lkb rfl hb28)) (by decide) rfl rfl Try.underlying42 ty5 hi32.1 fun a hE=>Zu (v:=(vB x33)) hE (Zt hE rfl (lkb rfl hb28)) (by decide) rfl ty5 rfl (At.vec (At.vec (hM.rawAt (pre:=[_,_])) hi29.2) hi32.2) fun a hE=>Zi hE (Zt hE rfl (lkb rfl hb28)) (by decide) rfl rfl (Jr x33 0) fun a hE=>YO hE Za ld (lkb rfl hb28) rfl fun a hE=>Zj ?_
      have ht35:=Option.some.inj hl26
      subst ht35
      refine Zk ?_
      exact ⟨hE.sub ⟨rfl,rfl,rfl,rfl,rfl,rfl,rfl,rfl,trivial⟩,hM⟩
     ·have hl26:=ZA hl26 hb28
      refine Zr hE rfl (lkb rfl hb28) rfl (by decide) fun a hE=>Zr hE rfl (lkb rfl hb28) rfl (by decide) fun a hE=>Zr hE rfl (lkb rfl hb28) rfl (by decide) fun a hE=>Zr hE rfl (lkb rfl hb28) rfl (by decide) fun a hE=>Zr hE rfl (lkb rfl hb28) rfl (by decide) fun a hE=>Zr hE rfl (lkb rfl hb28) rfl (by decide) fun a hE=>Yu hE Za ld (lkb rfl hb28) rfl fun a hE=>Zj ?_
      have ht36:=Option.some.inj hl26
      subst ht36
      refine Zk ?_
      exact ⟨hE.sub ⟨rfl,rfl,rfl,rfl,rfl,rfl,rfl,rfl,trivial⟩,hM⟩
    ·skip
     rintro a w ⟨hE,hM⟩
     refine Zw hE rfl ?_ ?_
     ·intro hb37
      have hF27:=Zz hF27 hb37
      refine wp_skip (Zy (wp_block (wp_region_lit (Zd hE Za ld rfl fun a hE=>Zi hE Za ld rfl rfl rfl fun a hE=>Ze hE Za ld rfl fun a hE=>Zj (Yg (Zk ?_))))))
      exact ⟨_,(ois hF27),hE.sub ⟨rfl,rfl,rfl,rfl,rfl,rfl,rfl,trivial⟩,hM⟩
     ·intro hb37
      have hF27:=ZA hF27 hb37
      refine wp_exit (Zo (Zo (Yt ?_)))
      have ht38:=hx23 _ (ois hF27)
      subst ht38
      refine Zk ?_
      exact ⟨hE.sub ⟨rfl,rfl,rfl,rfl,rfl,rfl,rfl,trivial⟩,hM⟩
   ·skip
    rintro a w ⟨hE,hM⟩
    refine wp_seq (Zc (Zd hE Za ld rfl fun a hE=>Zi hE Za ld rfl rfl rfl fun a hE=>Zf ?_))
    refine Zw hE rfl ?_ ?_
    ·intro hb39
     have hF20:=Zz hF20 hb39
     refine Zc (Y8 (parts:=[]) (vs:=[]) (cs:=enc (Vector.replicate 4 (Vector.replicate 4 (0 : UInt8)))) hE Za ld rfl rfl Yi rfl ZV YB fun a hE=>Ze hE Za ld rfl ?_); intro a hE
     have hM:=hM.pull (pre:=[_])
     refine Zm (seg:=enc (Vector.replicate 4 (Vector.replicate 4 (0 : UInt8)))) (cs':=enc (Vector.replicate 4 (Vector.replicate 4 (0 : UInt8)))) hE hM Za rfl rfl rfl Yi (Flat.len _) (zle flq) (Flat.cell _) (Zn flq) fun w a hM hE=>Zf ?_
     have ht40:=hx15 _ (ois hF20)
     subst ht40
     have hr:=Option.some.inj hF11
     subst hr
     have hq41 : Yy Try.prog _ _ (.cell 5 50) _:=ZX hE rfl Yi rfl (hM.rawAt (pre:=[])) (Flat.len _) rfl
     have hM:=M.fst (l:=[]) hM
     exact wp_ret (ZI (XT (ZI (ZI (XT (ZI (ZI (QL hE rfl (Zx hE rfl) hq41 ⟨_,rfl,rfl,hM.kept⟩))))))))
    ·intro hb39
     have hF20:=ZA hF20 hb39
     refine wp_skip (Zy (wp_seq ?_))
     obtain ⟨x44,hi43,hF20⟩:=bvx hF20
     obtain ⟨x47,hi46,hF20⟩:=bvx hF20
     refine Qp (n:=159) (hd:=[_,_,_,_,_,_,_,_,_]) (tl:=[_]) Wa rfl rfl [38,39,40,41,42,43,10,11,167] (by decide) (fun D u w=>M (Old w0) w0 w ([raw b7 (enc s13.2.1),raw b3 (enc (Vector.replicate 4 (Vector.replicate 4 (0 : UInt8)))),raw b1 (enc s13.1)] ++ qL ([mkC 6 8 (enc (Vector.replicate 4 (0 : UInt8))) (enc x44),mkO 7 (fun v=>T9 v (enc (Vector.replicate 4 (0 : UInt8))))] : Mk) D u) ∧ GOk ([([],fun us v=>v = (vI j18)),([],fun us v=>v = (ptr b1 (0 + (j18).toNat * 4))),([],fun us v=>v = (Value.agg (enc x44).toArray)),([],fun us v=>v = (vI j18)),([],fun us v=>v = (ptr b7 (0 + (j18).toNat * 4))),([],fun us v=>v = (Value.agg (enc x47).toArray)),([],fun us v=>True),([],fun us v=>True),([],fun us v=>True)] : Gs) D u) hE (fun u=>⟨M.qE (M.qE (M.q0 hM.drew u) emO) emC,gok0⟩) (ZP (Zb ?_ (Zb ?_ (Zb ?_ (Zb ?_ (Zb ?_ (Zb ?_ (Zb ?_ (Zb ?_ (Zb ?_ ZK)))))))))) ?_
     ·intro a w ux42 D hE hI hD hdc hp
      have hM0:=hI.1
      exact Zd hE Za ld rfl fun a hE=>⟨_,_,rfl,hE,M.qKeep hM0 rfl,hI.2.put hD rfl YK rfl⟩
     ·intro a w ux42 D hE hI hD hdc hp
      have d0 : D 0 = true:=hp 0 _ rfl rfl
      have g0:=hI.2 0 d0 _ rfl
      have f0 : ux42 0 = (vI j18):=g0.2
      have hM0:=hI.1
      exact Zg hE Za ld rfl (lk rfl f0) Try.underlying50 ZV hi43.1 fun a hE=>⟨_,_,rfl,hE,M.qKeep hM0 rfl,hI.2.put hD rfl YK rfl⟩
     ·intro a w ux42 D hE hI hD hdc hp
      have d1 : D 1 = true:=hp 0 _ rfl rfl
      have g1:=hI.2 1 d1 _ rfl
      have f1 : ux42 1 = (ptr b1 (0 + (j18).toNat * 4)):=g1.2
      have hM0:=hI.1
      have hM:=hI.1
      exact Zl (cs:=enc x44) hE Za ld (lk rfl f1) ZV rfl (At.vec (hM.rawAt (pre:=[_,_])) hi43.2) (Flat.len _) fun a hE=>⟨_,_,rfl,hE,M.qKeep hM0 rfl,hI.2.put hD rfl YK rfl⟩
     ·intro a w ux42 D hE hI hD hdc hp
      have hM0:=hI.1
      exact Zd hE Za ld rfl fun a hE=>⟨_,_,rfl,hE,M.qKeep hM0 rfl,hI.2.put hD rfl YK rfl⟩
     ·intro a w ux42 D hE hI hD hdc hp
      have d3 : D 3 = true:=hp 0 _ rfl rfl
      have g3:=hI.2 3 d3 _ rfl
      have f3 : ux42 3 = (vI j18):=g3.2
      have hM0:=hI.1
      exact Zg hE Za ld rfl (lk rfl f3) Try.underlying50 ZV hi46.1 fun a hE=>⟨_,_,rfl,hE,M.qKeep hM0 rfl,hI.2.put hD rfl YK rfl⟩
     ·intro a w ux42 D hE hI hD hdc hp
      have d4 : D 4 = true:=hp 0 _ rfl rfl
      have g4:=hI.2 4 d4 _ rfl
      have f4 : ux42 4 = (ptr b7 (0 + (j18).toNat * 4)):=g4.2
      have hM0:=hI.1
      have hM:=hI.1
      exact Zl (cs:=enc x47) hE Za ld (lk rfl f4) ZV rfl (At.vec (hM.rawAt (pre:=[])) hi46.2) (Flat.len _) fun a hE=>⟨_,_,rfl,hE,M.qKeep hM0 rfl,hI.2.put hD rfl YK rfl⟩
     ·intro a w ux42 D hE hI hD hdc hp
      have hM0:=hI.1
      have hM:=hI.1
      refine ZF hE hM Za ld ZV ?_; intro b49 w a hM hE
      have hs : D 8 = false:=Bool.eq_false_iff.2 fun hx=>Bool.noConfusion (hD.symm.trans (hdc 8 _ _ rfl (List.mem_of_getElem? (i:=0) rfl) rfl hx))
      exact ⟨_,_,rfl,hE,M.qAlloc (mk1:=[]) (mk2:=[_]) hM rfl hD hs (by decide),hI.2.put hD rfl YK trivial⟩
     ·intro a w ux42 D hE hI hD hdc hp
      have hM0:=hI.1
      have hM:=hI.1
      refine ZF hE hM Za ld ZV ?_; intro b51 w a hM hE
      have hM:=hM.pack1 (it:=T9 _ (enc (Vector.replicate 4 (0 : UInt8)))) (fun w w' fp ⟨b',e,k⟩ hb=>⟨b',e,V5 w w' fp k hb⟩) (fun fp k=>⟨_,rfl,k⟩)
      exact ⟨_,_,rfl,hE,M.qFill (mk1:=[_]) (mk2:=[]) (f:=fun v=>T9 v (enc (Vector.replicate 4 (0 : UInt8)))) hM rfl hD,hI.2.put hD rfl YK trivial⟩
     ·intro a w ux42 D hE hI hD hdc hp
      have d6 : D 6 = true:=hp 0 _ rfl rfl
      have d2 : D 2 = true:=hp 1 _ rfl rfl
      have g2:=hI.2 2 d2 _ rfl
      have f2 : ux42 2 = (Value.agg (enc x44).toArray):=g2.2
      have hM0:=hI.1
      have hM : M (Old w0) w0 w [raw b7 (enc s13.2.1),raw b3 (enc (Vector.replicate 4 (Vector.replicate 4 (0 : UInt8)))),raw b1 (enc s13.1),U3 (D 6) (D 8) (ux42 6) (enc (Vector.replicate 4 (0 : UInt8))) (enc x44),opt (D 7) (T9 (ux42 7) (enc (Vector.replicate 4 (0 : UInt8))))]:=hI.1
      obtain ⟨b53,hb54,hM⟩:=M.openCell (pre:=[_,_,_]) hM d6
      rw [hD,if_neg (by decide)] at hM
      exact Zm (seg:=enc x44) (cs':=enc x44) hE hM Za (lk rfl hb54) (lk rfl f2) rfl ZV (Flat.len _) (zle flq) (Flat.cell _) (Zn flq) fun w a hM hE=>⟨undef,_,rfl,Env.dummy hE (by decide),M.qStore (i:=6) (mk1:=[]) (mk2:=[_]) hM rfl d6 hb54 (by decide),hI.2.put hD rfl YK trivial⟩
     ·intro a w ux42 D hE hI hall
      have hM : M (Old w0) w0 w [raw b7 (enc s13.2.1),raw b3 (enc (Vector.replicate 4 (Vector.replicate 4 (0 : UInt8)))),raw b1 (enc s13.1),U3 (D 6) (D 8) (ux42 6) (enc (Vector.replicate 4 (0 : UInt8))) (enc x44),opt (D 7) (T9 (ux42 7) (enc (Vector.replicate 4 (0 : UInt8))))]:=hI.1
      have d0 : D 0 = true:=hall 0 (by decide)
      have d1 : D 1 = true:=hall 1 (by decide)
      have d2 : D 2 = true:=hall 2 (by decide)
      have d3 : D 3 = true:=hall 3 (by decide)
      have d4 : D 4 = true:=hall 4 (by decide)
      have d5 : D 5 = true:=hall 5 (by decide)
      have d6 : D 6 = true:=hall 6 (by decide)
      have d7 : D 7 = true:=hall 7 (by decide)
      have d8 : D 8 = true:=hall 8 (by decide)
      have f0 : ux42 0 = (vI j18):=(hI.2 0 d0 _ rfl).2
      have f1 : ux42 1 = (ptr b1 (0 + (j18).toNat * 4)):=(hI.2 1 d1 _ rfl).2
      have f2 : ux42 2 = (Value.agg (enc x44).toArray):=(hI.2 2 d2 _ rfl).2
      have f3 : ux42 3 = (vI j18):=(hI.2 3 d3 _ rfl).2
      have f4 : ux42 4 = (ptr b7 (0 + (j18).toNat * 4)):=(hI.2 4 d4 _ rfl).2
      have f5 : ux42 5 = (Value.agg (enc x47).toArray):=(hI.2 5 d5 _ rfl).2
      obtain ⟨b55,f56,hM⟩:=M.openCell (pre:=[_,_,_]) hM d6
      rw [if_pos d8] at hM
      have hM:=(hM.sure (pre:=[_,_,_,_]) d7).pull
      obtain ⟨_,⟨b57,f58,_⟩,_⟩:=hM.head
      have hM:=hM.pack1 V5 (it:=raw b57 (enc (Vector.replicate 4 (0 : UInt8)))) (fun fp ⟨b2,e2,k2⟩=>by rw [f58] at e2; simp [ptr] at e2; subst e2; exact k2)
      have hE:=hE.sub (e':=[(43,(Value.agg (enc x47).toArray)),(10,(ptr b55 0)),(11,(ptr b57 0)),(0,vI p0),(3,(ptr b1 0)),(5,(ptr b3 0)),(6,(ptr b7 0)),(7,vB s13.2.2.1),(8,vI s13.2.2.2),(9,vI j18),(35,vI j18),(36,(vT (j18 == 4)))]) ⟨lk rfl f5,lk rfl f56,lk rfl f58,rfl,rfl,rfl,rfl,rfl,rfl,rfl,rfl,rfl,trivial⟩
      refine Zm (seg:=enc x47) (cs':=enc x47) hE hM Za rfl rfl rfl ZV (Flat.len _) (zle flq) (Flat.cell _) (Zn flq) fun w a hM hE=>Zj (Zy (Zc (Zd hE Za ld rfl fun a hE=>Zd hE Za ld rfl ?_))); intro a hE
      obtain ⟨x60,hi59,hF20⟩:=bvx hF20
      refine Zg hE Za ld rfl rfl Try.underlying50 ZV hi59.1 fun a hE=>Zl (cs:=enc x60) hE Za ld rfl ZV rfl (At.vec (hM.rawAt (pre:=[_,_,_,_])) hi59.2) (Flat.len _) ?_; intro a hE
      obtain ⟨x63,hi62,hF20⟩:=bvx hF20
      refine Zg hE Za ld rfl rfl Try.underlying50 ZV hi62.1 ?_; intro a hE
      have hM:=hM.pull (pre:=[_,_,_,_])
      refine Zm (seg:=enc x60) (cs':=enc (s13.1.setIfInBounds (j18).toNat x60)) hE hM Za rfl rfl rfl ZV (Flat.len _) (ZE (v:=s13.1) (x:=x60) hi62.1) (Flat.cell _) (Zs (v:=s13.1) (x:=x60) hi62.1) fun w a hM hE=>Zf (Zc (Zd hE Za ld rfl fun a hE=>Zl (cs:=enc x44) hE Za ld rfl ZV rfl (hM.rawAt (pre:=[_,_])) (Flat.len _) ?_)); intro a hE
      obtain ⟨x66,hi65,hF20⟩:=bvx hF20
      refine Zg hE Za ld rfl rfl Try.underlying50 ZV hi65.1 fun a hE=>Zm (seg:=enc x44) (cs':=enc ((s13.1.setIfInBounds (j18).toNat x60).setIfInBounds (s13.2.2.2).toNat x44)) hE hM Za rfl rfl rfl ZV (Flat.len _) (ZE (v:=(s13.1.setIfInBounds (j18).toNat x60)) (x:=x44) hi65.1) (Flat.cell _) (Zs (v:=(s13.1.setIfInBounds (j18).toNat x60)) (x:=x44) hi65.1) fun w a hM hE=>Zf (Zc (Zd hE Za ld rfl fun a hE=>Zd hE Za ld rfl ?_)); intro a hE
      obtain ⟨x69,hi68,hF20⟩:=bvx hF20
      refine Zg hE Za ld rfl rfl Try.underlying50 ZV hi68.1 fun a hE=>Zl (cs:=enc x69) hE Za ld rfl ZV rfl (At.vec (hM.rawAt (pre:=[_,_,_])) hi68.2) (Flat.len _) ?_; intro a hE
      obtain ⟨x72,hi71,hF20⟩:=bvx hF20
      refine Zg hE Za ld rfl rfl Try.underlying50 ZV hi71.1 ?_; intro a hE
      have hM:=hM.pull (pre:=[_,_,_])
      refine Zm (seg:=enc x69) (cs':=enc (s13.2.1.setIfInBounds (j18).toNat x69)) hE hM Za rfl rfl rfl ZV (Flat.len _) (ZE (v:=s13.2.1) (x:=x69) hi71.1) (Flat.cell _) (Zs (v:=s13.2.1) (x:=x69) hi71.1) fun w a hM hE=>Zf (Zc (Zd hE Za ld rfl fun a hE=>Zl (cs:=enc x47) hE Za ld rfl ZV rfl (hM.rawAt (pre:=[_,_])) (Flat.len _) ?_)); intro a hE
      obtain ⟨x75,hi74,hF20⟩:=bvx hF20
      refine Zg hE Za ld rfl rfl Try.underlying50 ZV hi74.1 fun a hE=>Zm (seg:=enc x47) (cs':=enc ((s13.2.1.setIfInBounds (j18).toNat x69).setIfInBounds (s13.2.2.2).toNat x47)) hE hM Za rfl rfl rfl ZV (Flat.len _) (ZE (v:=(s13.2.1.setIfInBounds (j18).toNat x69)) (x:=x47) hi74.1) (Flat.cell _) (Zs (v:=(s13.2.1.setIfInBounds (j18).toNat x69)) (x:=x47) hi74.1) fun w a hM hE=>Zf (Zc (Zd hE Za ld rfl fun a hE=>Zd hE Za ld rfl fun a hE=>Zd hE Za ld rfl fun a hE=>Zd hE Za ld rfl ?_)); intro a hE
      obtain ⟨x78,hi77,hF20⟩:=bvx hF20
      refine Zg hE Za ld rfl rfl Try.underlying50 ZV hi77.1 ?_; intro a hE
      obtain ⟨x81,hi80,hF20⟩:=bvx hF20
      refine Zg hE Za ld rfl rfl Try.underlying42 ty5 hi80.1 fun a hE=>Zu (v:=(vB x81)) hE Za ld rfl ty5 rfl (At.vec (At.vec (hM.rawAt (pre:=[_])) hi77.2) hi80.2) ?_; intro a hE
      obtain ⟨r83,e84,hF20⟩:=bind_some hF20
      refine Zv hE Za ld rfl TZ (Yq _ p0 s13.2.2.1 x81 r83 e84) ?_
      rintro v w a ⟨rfl,hK⟩ hE
      have hM:=hM.keep hK
      refine Ze hE Za ld rfl fun a hE=>Zf (Zc (Zd hE Za ld rfl fun a hE=>Zd hE Za ld rfl fun a hE=>Zd hE Za ld rfl ?_)); intro a hE
      obtain ⟨x86,hi85,hF20⟩:=bvx hF20
      refine Zg hE Za ld rfl rfl Try.underlying50 ZV hi85.1 ?_; intro a hE
      obtain ⟨x89,hi88,hF20⟩:=bvx hF20
      refine Zg hE Za ld rfl rfl Try.underlying42 ty5 hi88.1 fun a hE=>Zu (v:=(vB x89)) hE Za ld rfl ty5 rfl (At.vec (At.vec (hM.rawAt (pre:=[_])) hi85.2) hi88.2) ?_; intro a hE
      obtain ⟨r91,e92,hF20⟩:=bind_some hF20
      refine Zv hE Za ld rfl cb157 (Q3 _ p0 x89 r91 e92) ?_
      rintro v w a ⟨rfl,hK⟩ hE
      have hM:=hM.keep hK
      refine Ze hE Za ld rfl fun a hE=>Zf (wp_seq (Zc (Ze hE Za ld rfl fun a hE=>Zf ?_)))
      obtain ⟨j93,hl94,hF95⟩:=bind_some hF20
      refine ZU (fun a w=>Env 159 a [(0,vI p0),(3,(ptr b1 0)),(5,(ptr b3 0)),(6,(ptr b7 0)),(7,vB r83),(8,vI s13.2.2.2)] ∧ M (Old w0) w0 w [raw b7 (enc j93.2),raw b1 (enc j93.1),raw b3 (enc (Vector.replicate 4 (Vector.replicate 4 (0 : UInt8))))]) ?_ ?_
      ·skip
       refine wp_block ?_
       have hM:=M.fst (l:=[_,_,_]) (((hM.pull (pre:=[_,_,_,_])).pull (pre:=[_,_])).pull (pre:=[_,_]))
       refine ZG (fun (s96 : (Vector (Vector UInt8 4) 4) × (Vector (Vector UInt8 4) 4) × Int) a w=>Env 159 a [(0,vI p0),(3,(ptr b1 0)),(5,(ptr b3 0)),(6,(ptr b7 0)),(7,vB r83),(8,vI s13.2.2.2),(12,vB r91),(13,vI s96.2.2)] ∧ M (Old w0) w0 w [raw b7 (enc s96.2.1),raw b1 (enc s96.1),raw b3 (enc (Vector.replicate 4 (Vector.replicate 4 (0 : UInt8))))]) hl94 ⟨hE.sub ⟨rfl,rfl,rfl,rfl,rfl,rfl,rfl,rfl,trivial⟩,hM⟩ ?_
       rintro s96 a w ⟨hE,hM⟩ o99 hs97 hx98
       unfold Xx at hs97
       refine wp_seq (Zc (Zd hE Za ld rfl fun a hE=>Zi hE Za ld rfl rfl rfl fun a hE=>Zf ?_))
       refine Zw hE rfl ?_ ?_
       ·intro hb100
        have hs97:=Zz hs97 hb100
        refine wp_skip (Zy (wp_seq (wp_block ?_)))
        obtain ⟨j101,hl102,hF103⟩:=bind_some hs97
        refine ZQ (fun a w=>Env 159 a [(0,vI p0),(3,(ptr b1 0)),(5,(ptr b3 0)),(6,(ptr b7 0)),(7,vB r83),(8,vI s13.2.2.2),(12,vB r91),(13,vI s96.2.2)] ∧ M (Old w0) w0 w [raw b7 (enc s96.2.1),raw b1 (enc j101),raw b3 (enc (Vector.replicate 4 (Vector.replicate 4 (0 : UInt8))))]) ?_ ?_
        ·skip
         obtain ⟨x106,hi105,hl102⟩:=bvx hl102
         obtain ⟨x109,hi108,hl102⟩:=bvx hl102
         obtain ⟨r111,e112,hl102⟩:=bind_some hl102
         obtain ⟨x114,hi113,hl102⟩:=bvx hl102
         obtain ⟨x117,hi116,hl102⟩:=bvx hl102
         refine YA (n:=159) (hd:=[_,_,_,_,_,_,_,_,_,_,_,_]) (tl:=[_]) Wa rfl rfl [79,80,81,82,83,84,85,86,87,88,89,90] (by decide) (fun w=>M (Old w0) w0 w [raw b7 (enc s96.2.1),raw b1 (enc s96.1),raw b3 (enc (Vector.replicate 4 (Vector.replicate 4 (0 : UInt8))))]) (fun j=>([fun v _=>v = (vI s13.2.2.2),fun v _=>v = (vI s96.2.2),fun v _=>v = (vI p0),fun v _=>v = (vI s13.2.2.2),fun v _=>v = (vI s96.2.2),fun v _=>v = (ptr b1 (0 + (s13.2.2.2).toNat * 4)),fun v _=>v = (ptr b1 (0 + (s13.2.2.2).toNat * 4 + (s96.2.2).toNat * 1)),fun v _=>v = (vB x109),fun v _=>v = (vB r91),fun v _=>v = (vB r111),fun v _=>v = (ptr b1 (0 + (s13.2.2.2).toNat * 4)),fun v _=>v = (ptr b1 (0 + (s13.2.2.2).toNat * 4 + (s96.2.2).toNat * 1))] : List (Value → World → Prop)).getD j (fun _ _=>True)) (fun _ _ h hk=>h.keep hk) (gup (Zh (Zh (Zh (Zh (Zh (Zh (Zh (Zh (Zh (Zh (Zh (Zh W9))))))))))))) hE hM.drew (ZP (Zb ?_ (Zb ?_ (Zb ?_ (Zb ?_ (Zb ?_ (Zb ?_ (Zb ?_ (Zb ?_ (Zb ?_ (Zb ?_ (Zb ?_ (Zb ?_ ZK))))))))))))) ?_
         ·exact fun a w ux104 hE hM hp=>Zd hE Za ld rfl fun a hE=>⟨Kept.refl _ _,_,_,rfl,hE,rfl⟩
         ·exact fun a w ux104 hE hM hp=>Zd hE Za ld rfl fun a hE=>⟨Kept.refl _ _,_,_,rfl,hE,rfl⟩
         ·exact fun a w ux104 hE hM hp=>Zd hE Za ld rfl fun a hE=>⟨Kept.refl _ _,_,_,rfl,hE,rfl⟩
         ·exact fun a w ux104 hE hM hp=>Zd hE Za ld rfl fun a hE=>⟨Kept.refl _ _,_,_,rfl,hE,rfl⟩
         ·exact fun a w ux104 hE hM hp=>Zd hE Za ld rfl fun a hE=>⟨Kept.refl _ _,_,_,rfl,hE,rfl⟩
         ·intro a w ux104 hE hM hp
          have f3 : ux104 3 = (vI s13.2.2.2):=hp 0 _ rfl rfl
          exact Zg hE Za ld rfl (lk rfl f3) Try.underlying50 ZV hi105.1 fun a hE=>⟨Kept.refl _ _,_,_,rfl,hE,rfl⟩
         ·intro a w ux104 hE hM hp
          have f4 : ux104 4 = (vI s96.2.2):=hp 1 _ rfl rfl
          have f5 : ux104 5 = (ptr b1 (0 + (s13.2.2.2).toNat * 4)):=hp 0 _ rfl rfl
          exact Zg hE Za ld (lk rfl f5) (lk rfl f4) Try.underlying42 ty5 hi108.1 fun a hE=>⟨Kept.refl _ _,_,_,rfl,hE,rfl⟩
         ·intro a w ux104 hE hM hp
          have f6 : ux104 6 = (ptr b1 (0 + (s13.2.2.2).toNat * 4 + (s96.2.2).toNat * 1)):=hp 0 _ rfl rfl
          exact Zu (v:=(vB x109)) hE Za ld (lk rfl f6) ty5 rfl (At.vec (At.vec (hM.rawAt (pre:=[_])) hi105.2) hi108.2) fun a hE=>⟨Kept.refl _ _,_,_,rfl,hE,rfl⟩
         ·exact fun a w ux104 hE hM hp=>Zd hE Za ld rfl fun a hE=>⟨Kept.refl _ _,_,_,rfl,hE,rfl⟩
         ·intro a w ux104 hE hM hp
          have f2 : ux104 2 = (vI p0):=hp 0 _ rfl rfl
          have f7 : ux104 7 = (vB x109):=hp 1 _ rfl rfl
          have f8 : ux104 8 = (vB r91):=hp 2 _ rfl rfl
          refine Zv hE Za ld (YL (Ys (lk rfl f2) (Ys (lk rfl f7) (Ys (lk rfl f8) Ve)))) TZ (Yq _ p0 x109 r91 r111 e112) ?_
          rintro v w a ⟨rfl,hK⟩ hE
          exact ⟨hK,_,_,rfl,hE,rfl⟩
         ·intro a w ux104 hE hM hp
          have f0 : ux104 0 = (vI s13.2.2.2):=hp 0 _ rfl rfl
          exact Zg hE Za ld rfl (lk rfl f0) Try.underlying50 ZV hi113.1 fun a hE=>⟨Kept.refl _ _,_,_,rfl,hE,rfl⟩
         ·intro a w ux104 hE hM hp
          have f1 : ux104 1 = (vI s96.2.2):=hp 1 _ rfl rfl
          have f10 : ux104 10 = (ptr b1 (0 + (s13.2.2.2).toNat * 4)):=hp 0 _ rfl rfl
          exact Zg hE Za ld (lk rfl f10) (lk rfl f1) Try.underlying42 ty5 hi116.1 fun a hE=>⟨Kept.refl _ _,_,_,rfl,hE,rfl⟩
         ·intro a w ux104 hE hM hg
          have hE:=hE.sub (e':=[(88,vB r111),(90,(ptr b1 (0 + (s13.2.2.2).toNat * 4 + (s96.2.2).toNat * 1))),(0,vI p0),(3,(ptr b1 0)),(5,(ptr b3 0)),(6,(ptr b7 0)),(7,vB r83),(8,vI s13.2.2.2),(12,vB r91),(13,vI s96.2.2),(75,vI s96.2.2),(76,(vT (decide (s96.2.2 < 4))))]) ⟨lk rfl (hg 9 (by decide)),lk rfl (hg 11 (by decide)),rfl,rfl,rfl,rfl,rfl,rfl,rfl,rfl,rfl,rfl,trivial⟩
          have hM:=hM.pull (pre:=[_])
          refine Zm (seg:=[vB r111]) (cs':=enc (s96.1.setIfInBounds (s13.2.2.2).toNat (x114.setIfInBounds (s96.2.2).toNat r111))) hE hM Za rfl rfl rfl ty5 rfl (XM (o':=0 + (s96.2.2).toNat * 1) hi113 (ZE (v:=x114) (x:=r111) hi116.1) (by first | omega | (simp only [Flat.n] <;> omega))) (Flat.cell (r111 : UInt8)) (Yr (o':=0 + (s96.2.2).toNat * 1) hi113 (ZE (v:=x114) (x:=r111) hi116.1) (Zs (v:=x114) (x:=r111) hi116.1) (by first | omega | (simp only [Flat.n] <;> omega))) fun w a hM hE=>Zj ?_
          have ht119:=Option.some.inj hl102
          subst ht119
          refine Zk ?_
          have hM:=((hM.pull (pre:=[_,_])).pull (pre:=[_])).pull (pre:=[_,_])
          exact ⟨hE.sub ⟨rfl,rfl,rfl,rfl,rfl,rfl,rfl,rfl,trivial⟩,hM⟩
        ·skip
         rintro a w ⟨hE,hM⟩
         obtain ⟨x122,hi121,hF103⟩:=bvx hF103
         obtain ⟨x125,hi124,hF103⟩:=bvx hF103
         obtain ⟨r127,e128,hF103⟩:=bind_some hF103
         obtain ⟨x130,hi129,hF103⟩:=bvx hF103
         obtain ⟨x133,hi132,hF103⟩:=bvx hF103
         refine YA (n:=159) (hd:=[_,_,_,_,_,_,_,_,_,_,_,_]) (tl:=[_]) Wa rfl rfl [91,92,93,94,95,96,97,98,99,100,101,102] (by decide) (fun w=>M (Old w0) w0 w [raw b7 (enc s96.2.1),raw b1 (enc j101),raw b3 (enc (Vector.replicate 4 (Vector.replicate 4 (0 : UInt8))))]) (fun j=>([fun v _=>v = (vI s13.2.2.2),fun v _=>v = (vI s96.2.2),fun v _=>v = (vI p0),fun v _=>v = (vI s13.2.2.2),fun v _=>v = (vI s96.2.2),fun v _=>v = (ptr b7 (0 + (s13.2.2.2).toNat * 4)),fun v _=>v = (ptr b7 (0 + (s13.2.2.2).toNat * 4 + (s96.2.2).toNat * 1)),fun v _=>v = (vB x125),fun v _=>v = (vB r91),fun v _=>v = (vB r127),fun v _=>v = (ptr b7 (0 + (s13.2.2.2).toNat * 4)),fun v _=>v = (ptr b7 (0 + (s13.2.2.2).toNat * 4 + (s96.2.2).toNat * 1))] : List (Value → World → Prop)).getD j (fun _ _=>True)) (fun _ _ h hk=>h.keep hk) (gup (Zh (Zh (Zh (Zh (Zh (Zh (Zh (Zh (Zh (Zh (Zh (Zh W9))))))))))))) hE hM.drew (ZP (Zb ?_ (Zb ?_ (Zb ?_ (Zb ?_ (Zb ?_ (Zb ?_ (Zb ?_ (Zb ?_ (Zb ?_ (Zb ?_ (Zb ?_ (Zb ?_ ZK))))))))))))) ?_
         ·exact fun a w ux120 hE hM hp=>Zd hE Za ld rfl fun a hE=>⟨Kept.refl _ _,_,_,rfl,hE,rfl⟩
         ·exact fun a w ux120 hE hM hp=>Zd hE Za ld rfl fun a hE=>⟨Kept.refl _ _,_,_,rfl,hE,rfl⟩
         ·exact fun a w ux120 hE hM hp=>Zd hE Za ld rfl fun a hE=>⟨Kept.refl _ _,_,_,rfl,hE,rfl⟩
         ·exact fun a w ux120 hE hM hp=>Zd hE Za ld rfl fun a hE=>⟨Kept.refl _ _,_,_,rfl,hE,rfl⟩
         ·exact fun a w ux120 hE hM hp=>Zd hE Za ld rfl fun a hE=>⟨Kept.refl _ _,_,_,rfl,hE,rfl⟩
         ·intro a w ux120 hE hM hp
          have f3 : ux120 3 = (vI s13.2.2.2):=hp 0 _ rfl rfl
          exact Zg hE Za ld rfl (lk rfl f3) Try.underlying50 ZV hi121.1 fun a hE=>⟨Kept.refl _ _,_,_,rfl,hE,rfl⟩
         ·intro a w ux120 hE hM hp
          have f4 : ux120 4 = (vI s96.2.2):=hp 1 _ rfl rfl
          have f5 : ux120 5 = (ptr b7 (0 + (s13.2.2.2).toNat * 4)):=hp 0 _ rfl rfl
          exact Zg hE Za ld (lk rfl f5) (lk rfl f4) Try.underlying42 ty5 hi124.1 fun a hE=>⟨Kept.refl _ _,_,_,rfl,hE,rfl⟩
         ·intro a w ux120 hE hM hp
          have f6 : ux120 6 = (ptr b7 (0 + (s13.2.2.2).toNat * 4 + (s96.2.2).toNat * 1)):=hp 0 _ rfl rfl
          exact Zu (v:=(vB x125)) hE Za ld (lk rfl f6) ty5 rfl (At.vec (At.vec (hM.rawAt (pre:=[])) hi121.2) hi124.2) fun a hE=>⟨Kept.refl _ _,_,_,rfl,hE,rfl⟩
         ·exact fun a w ux120 hE hM hp=>Zd hE Za ld rfl fun a hE=>⟨Kept.refl _ _,_,_,rfl,hE,rfl⟩
         ·intro a w ux120 hE hM hp
          have f2 : ux120 2 = (vI p0):=hp 0 _ rfl rfl
          have f7 : ux120 7 = (vB x125):=hp 1 _ rfl rfl
          have f8 : ux120 8 = (vB r91):=hp 2 _ rfl rfl
          refine Zv hE Za ld (YL (Ys (lk rfl f2) (Ys (lk rfl f7) (Ys (lk rfl f8) Ve)))) TZ (Yq _ p0 x125 r91 r127 e128) ?_
          rintro v w a ⟨rfl,hK⟩ hE
          exact ⟨hK,_,_,rfl,hE,rfl⟩
         ·intro a w ux120 hE hM hp
          have f0 : ux120 0 = (vI s13.2.2.2):=hp 0 _ rfl rfl
          exact Zg hE Za ld rfl (lk rfl f0) Try.underlying50 ZV hi129.1 fun a hE=>⟨Kept.refl _ _,_,_,rfl,hE,rfl⟩
         ·intro a w ux120 hE hM hp
          have f1 : ux120 1 = (vI s96.2.2):=hp 1 _ rfl rfl
          have f10 : ux120 10 = (ptr b7 (0 + (s13.2.2.2).toNat * 4)):=hp 0 _ rfl rfl
          exact Zg hE Za ld (lk rfl f10) (lk rfl f1) Try.underlying42 ty5 hi132.1 fun a hE=>⟨Kept.refl _ _,_,_,rfl,hE,rfl⟩
         ·intro a w ux120 hE hM hg
          have hE:=hE.sub (e':=[(100,vB r127),(102,(ptr b7 (0 + (s13.2.2.2).toNat * 4 + (s96.2.2).toNat * 1))),(0,vI p0),(3,(ptr b1 0)),(5,(ptr b3 0)),(6,(ptr b7 0)),(7,vB r83),(8,vI s13.2.2.2),(12,vB r91),(13,vI s96.2.2)]) ⟨lk rfl (hg 9 (by decide)),lk rfl (hg 11 (by decide)),rfl,rfl,rfl,rfl,rfl,rfl,rfl,rfl,trivial⟩
          refine Zm (seg:=[vB r127]) (cs':=enc (s96.2.1.setIfInBounds (s13.2.2.2).toNat (x130.setIfInBounds (s96.2.2).toNat r127))) hE hM Za rfl rfl rfl ty5 rfl (XM (o':=0 + (s96.2.2).toNat * 1) hi129 (ZE (v:=x130) (x:=r127) hi132.1) (by first | omega | (simp only [Flat.n] <;> omega))) (Flat.cell (r127 : UInt8)) (Yr (o':=0 + (s96.2.2).toNat * 1) hi129 (ZE (v:=x130) (x:=r127) hi132.1) (Zs (v:=x130) (x:=r127) hi132.1) (by first | omega | (simp only [Flat.n] <;> omega))) fun w a hM hE=>Zj (Yg (Zy (wp_region_lit (Zd hE Za ld rfl fun a hE=>Zi hE Za ld rfl rfl rfl fun a hE=>Ze hE Za ld rfl fun a hE=>Zj (Zk ?_)))))
          exact ⟨_,(ois hF103),hE.sub ⟨rfl,rfl,rfl,rfl,rfl,rfl,rfl,rfl,trivial⟩,hM⟩
       ·intro hb100
        have hs97:=ZA hs97 hb100
        refine wp_exit (Zo (Zo (Yt ?_)))
        have ht135:=hx98 _ (ois hs97)
        subst ht135
        refine Zk ?_
        exact ⟨hE.sub ⟨rfl,rfl,rfl,rfl,rfl,rfl,trivial⟩,hM⟩
      ·skip
       rintro a w ⟨hE,hM⟩
       refine Zy (Zc (Ze hE Za ld rfl fun a hE=>Zf ?_))
       obtain ⟨j136,hl137,hF138⟩:=bind_some hF95
       refine ZU (fun a w=>Env 159 a [(0,vI p0),(3,(ptr b1 0)),(5,(ptr b3 0)),(6,(ptr b7 0)),(7,vB r83),(8,vI s13.2.2.2)] ∧ M (Old w0) w0 w [raw b7 (enc j136.2),raw b1 (enc j136.1),raw b3 (enc (Vector.replicate 4 (Vector.replicate 4 (0 : UInt8))))]) ?_ ?_
       ·skip
        refine wp_block ?_
        refine ZG (fun (s139 : (Vector (Vector UInt8 4) 4) × (Vector (Vector UInt8 4) 4) × Int) a w=>Env 159 a [(0,vI p0),(3,(ptr b1 0)),(5,(ptr b3 0)),(6,(ptr b7 0)),(7,vB r83),(8,vI s13.2.2.2),(14,vI s139.2.2)] ∧ M (Old w0) w0 w [raw b7 (enc s139.2.1),raw b1 (enc s139.1),raw b3 (enc (Vector.replicate 4 (Vector.replicate 4 (0 : UInt8))))]) hl137 ⟨hE.sub ⟨rfl,rfl,rfl,rfl,rfl,rfl,rfl,trivial⟩,hM⟩ ?_
        rintro s139 a w ⟨hE,hM⟩ o142 hs140 hx141
        unfold XB at hs140
        refine wp_seq (Zc (Zd hE Za ld rfl fun a hE=>Zi hE Za ld rfl rfl rfl fun a hE=>Zf ?_))
        refine Zw hE rfl ?_ ?_
        ·intro hb143
         have hs140:=Zz hs140 hb143
         refine wp_skip (Zy (wp_seq (wp_block (Zc (Zd hE Za ld rfl fun a hE=>Zd hE Za ld rfl ?_))))); intro a hE
         obtain ⟨x145,hi144,hs140⟩:=bvx hs140
         refine Zg hE Za ld rfl rfl Try.underlying50 ZV hi144.1 ?_; intro a hE
         obtain ⟨x148,hi147,hs140⟩:=bvx hs140
         refine Zg hE Za ld rfl rfl Try.underlying42 ty5 hi147.1 fun a hE=>Zu (v:=(vB x148)) hE Za ld rfl ty5 rfl (At.vec (At.vec (hM.rawAt (pre:=[_])) hi144.2) hi147.2) fun a hE=>Ze hE Za ld rfl fun a hE=>Zf (Zc (Ze hE Za ld rfl fun a hE=>Zf ?_))
         obtain ⟨j150,hl151,hF152⟩:=bind_some hs140
         refine ZU (fun a w=>Env 159 a [(0,vI p0),(3,(ptr b1 0)),(5,(ptr b3 0)),(6,(ptr b7 0)),(7,vB r83),(8,vI s13.2.2.2),(14,vI s139.2.2)] ∧ M (Old w0) w0 w [raw b7 (enc j150.2),raw b1 (enc j150.1),raw b3 (enc (Vector.replicate 4 (Vector.replicate 4 (0 : UInt8))))]) ?_ ?_
         ·skip
          refine wp_block ?_
          refine ZG (fun (s153 : (Vector (Vector UInt8 4) 4) × (Vector (Vector UInt8 4) 4) × Int) a w=>Env 159 a [(0,vI p0),(3,(ptr b1 0)),(5,(ptr b3 0)),(6,(ptr b7 0)),(7,vB r83),(8,vI s13.2.2.2),(14,vI s139.2.2),(15,vB x148),(16,vI s153.2.2)] ∧ M (Old w0) w0 w [raw b7 (enc s153.2.1),raw b1 (enc s153.1),raw b3 (enc (Vector.replicate 4 (Vector.replicate 4 (0 : UInt8))))]) hl151 ⟨hE.sub ⟨rfl,rfl,rfl,rfl,rfl,rfl,rfl,rfl,rfl,trivial⟩,hM⟩ ?_
          rintro s153 a w ⟨hE,hM⟩ o156 hs154 hx155
          unfold Yh at hs154
          refine wp_seq ?_
          obtain ⟨j157,hl158,hF159⟩:=bind_some hs154
          refine ZQ (fun a w=>Env 159 a [(0,vI p0),(3,(ptr b1 0)),(5,(ptr b3 0)),(6,(ptr b7 0)),(7,vB r83),(8,vI s13.2.2.2),(14,vI s139.2.2),(15,vB x148),(16,vI s153.2.2),(118,vT j157)] ∧ M (Old w0) w0 w [raw b7 (enc s153.2.1),raw b1 (enc s153.1),raw b3 (enc (Vector.replicate 4 (Vector.replicate 4 (0 : UInt8))))]) ?_ ?_
          ·skip
           refine wp_region_lit (Zd hE Za ld rfl fun a hE=>Zi hE Za ld rfl rfl rfl fun a hE=>Zd hE Za ld rfl ?_); intro a hE
           refine WF (decide (s153.2.2 < 4)) (fun hb160=>?_) (fun hb160=>?_)
           ·have hl158:=Zz hl158 hb160
            refine Zd hE (Zt hE rfl (lkb rfl hb160)) (by decide) rfl fun a hE=>Zd hE (Zt hE rfl (lkb rfl hb160)) (by decide) rfl fun a hE=>Zi hE (Zt hE rfl (lkb rfl hb160)) (by decide) rfl rfl rfl fun a hE=>YO hE Za ld (lkb rfl hb160) rfl fun a hE=>Zj ?_
            have ht161:=Option.some.inj hl158
            subst ht161
            refine Zk ?_
            exact ⟨hE.sub ⟨rfl,rfl,rfl,rfl,rfl,rfl,rfl,rfl,rfl,rfl,trivial⟩,hM⟩
           ·have hl158:=ZA hl158 hb160
            refine Zr hE rfl (lkb rfl hb160) rfl (by decide) fun a hE=>Zr hE rfl (lkb rfl hb160) rfl (by decide) fun a hE=>Zr hE rfl (lkb rfl hb160) rfl (by decide) fun a hE=>Yu hE Za ld (lkb rfl hb160) rfl fun a hE=>Zj ?_
            have ht162:=Option.some.inj hl158
            subst ht162
            refine Zk ?_
            exact ⟨hE.sub ⟨rfl,rfl,rfl,rfl,rfl,rfl,rfl,rfl,rfl,rfl,trivial⟩,hM⟩
          ·skip
           rintro a w ⟨hE,hM⟩
           refine Zw hE rfl ?_ ?_
           ·intro hb163
            have hF159:=Zz hF159 hb163
            refine wp_skip (Zy (wp_seq (wp_block ?_)))
            obtain ⟨j164,hl165,hF166⟩:=bind_some hF159
            refine ZQ (fun a w=>Env 159 a [(0,vI p0),(3,(ptr b1 0)),(5,(ptr b3 0)),(6,(ptr b7 0)),(7,vB r83),(8,vI s13.2.2.2),(14,vI s139.2.2),(15,vB x148),(16,vI s153.2.2)] ∧ M (Old w0) w0 w [raw b7 (enc s153.2.1),raw b1 (enc j164),raw b3 (enc (Vector.replicate 4 (Vector.replicate 4 (0 : UInt8))))]) ?_ ?_
            ·skip
             obtain ⟨x169,hi168,hl165⟩:=bvx hl165
             obtain ⟨x172,hi171,hl165⟩:=bvx hl165
             obtain ⟨x175,hi174,hl165⟩:=bvx hl165
             obtain ⟨x178,hi177,hl165⟩:=bvx hl165
             obtain ⟨r180,e181,hl165⟩:=bind_some hl165
             obtain ⟨x183,hi182,hl165⟩:=bvx hl165
             obtain ⟨x186,hi185,hl165⟩:=bvx hl165
             refine YA (n:=159) (hd:=[_,_,_,_,_,_,_,_,_,_,_,_,_,_,_,_,_,_]) (tl:=[_]) Wa rfl rfl [121,122,123,124,125,126,127,128,129,130,131,132,133,134,135,136,137,138] (by decide) (fun w=>M (Old w0) w0 w [raw b7 (enc s153.2.1),raw b1 (enc s153.1),raw b3 (enc (Vector.replicate 4 (Vector.replicate 4 (0 : UInt8))))]) (fun j=>([fun v _=>v = (vI s139.2.2),fun v _=>v = (vI s153.2.2),fun v _=>v = (vI s139.2.2),fun v _=>v = (vI s153.2.2),fun v _=>v = (ptr b1 (0 + (s139.2.2).toNat * 4)),fun v _=>v = (ptr b1 (0 + (s139.2.2).toNat * 4 + (s153.2.2).toNat * 1)),fun v _=>v = (vB x172),fun v _=>v = (vI p0),fun v _=>v = (vB x148),fun v _=>v = (vI s13.2.2.2),fun v _=>v = (vI s153.2.2),fun v _=>v = (ptr b1 (0 + (s13.2.2.2).toNat * 4)),fun v _=>v = (ptr b1 (0 + (s13.2.2.2).toNat * 4 + (s153.2.2).toNat * 1)),fun v _=>v = (vB x178),fun v _=>v = (vB r180),fun v _=>v = (vB (x172 ^^^ r180)),fun v _=>v = (ptr b1 (0 + (s139.2.2).toNat * 4)),fun v _=>v = (ptr b1 (0 + (s139.2.2).toNat * 4 + (s153.2.2).toNat * 1))] : List (Value → World → Prop)).getD j (fun _ _=>True)) (fun _ _ h hk=>h.keep hk) (gup (Zh (Zh (Zh (Zh (Zh (Zh (Zh (Zh (Zh (Zh (Zh (Zh (Zh (Zh (Zh (Zh (Zh (Zh W9))))))))))))))))))) hE hM.drew (ZP (Zb ?_ (Zb ?_ (Zb ?_ (Zb ?_ (Zb ?_ (Zb ?_ (Zb ?_ (Zb ?_ (Zb ?_ (Zb ?_ (Zb ?_ (Zb ?_ (Zb ?_ (Zb ?_ (Zb ?_ (Zb ?_ (Zb ?_ (Zb ?_ ZK))))))))))))))))))) ?_
             ·exact fun a w ux167 hE hM hp=>Zd hE Za ld rfl fun a hE=>⟨Kept.refl _ _,_,_,rfl,hE,rfl⟩
             ·exact fun a w ux167 hE hM hp=>Zd hE Za ld rfl fun a hE=>⟨Kept.refl _ _,_,_,rfl,hE,rfl⟩
             ·exact fun a w ux167 hE hM hp=>Zd hE Za ld rfl fun a hE=>⟨Kept.refl _ _,_,_,rfl,hE,rfl⟩
             ·exact fun a w ux167 hE hM hp=>Zd hE Za ld rfl fun a hE=>⟨Kept.refl _ _,_,_,rfl,hE,rfl⟩
             ·intro a w ux167 hE hM hp
              have f2 : ux167 2 = (vI s139.2.2):=hp 0 _ rfl rfl
              exact Zg hE Za ld rfl (lk rfl f2) Try.underlying50 ZV hi168.1 fun a hE=>⟨Kept.refl _ _,_,_,rfl,hE,rfl⟩
             ·intro a w ux167 hE hM hp
              have f3 : ux167 3 = (vI s153.2.2):=hp 1 _ rfl rfl
              have f4 : ux167 4 = (ptr b1 (0 + (s139.2.2).toNat * 4)):=hp 0 _ rfl rfl
              exact Zg hE Za ld (lk rfl f4) (lk rfl f3) Try.underlying42 ty5 hi171.1 fun a hE=>⟨Kept.refl _ _,_,_,rfl,hE,rfl⟩
             ·intro a w ux167 hE hM hp
              have f5 : ux167 5 = (ptr b1 (0 + (s139.2.2).toNat * 4 + (s153.2.2).toNat * 1)):=hp 0 _ rfl rfl
              exact Zu (v:=(vB x172)) hE Za ld (lk rfl f5) ty5 rfl (At.vec (At.vec (hM.rawAt (pre:=[_])) hi168.2) hi171.2) fun a hE=>⟨Kept.refl _ _,_,_,rfl,hE,rfl⟩
             ·exact fun a w ux167 hE hM hp=>Zd hE Za ld rfl fun a hE=>⟨Kept.refl _ _,_,_,rfl,hE,rfl⟩
             ·exact fun a w ux167 hE hM hp=>Zd hE Za ld rfl fun a hE=>⟨Kept.refl _ _,_,_,rfl,hE,rfl⟩
             ·exact fun a w ux167 hE hM hp=>Zd hE Za ld rfl fun a hE=>⟨Kept.refl _ _,_,_,rfl,hE,rfl⟩
             ·exact fun a w ux167 hE hM hp=>Zd hE Za ld rfl fun a hE=>⟨Kept.refl _ _,_,_,rfl,hE,rfl⟩
             ·intro a w ux167 hE hM hp
              have f9 : ux167 9 = (vI s13.2.2.2):=hp 0 _ rfl rfl
              exact Zg hE Za ld rfl (lk rfl f9) Try.underlying50 ZV hi174.1 fun a hE=>⟨Kept.refl _ _,_,_,rfl,hE,rfl⟩
             ·intro a w ux167 hE hM hp
              have f10 : ux167 10 = (vI s153.2.2):=hp 1 _ rfl rfl
              have f11 : ux167 11 = (ptr b1 (0 + (s13.2.2.2).toNat * 4)):=hp 0 _ rfl rfl
              exact Zg hE Za ld (lk rfl f11) (lk rfl f10) Try.underlying42 ty5 hi177.1 fun a hE=>⟨Kept.refl _ _,_,_,rfl,hE,rfl⟩
             ·intro a w ux167 hE hM hp
              have f12 : ux167 12 = (ptr b1 (0 + (s13.2.2.2).toNat * 4 + (s153.2.2).toNat * 1)):=hp 0 _ rfl rfl
              exact Zu (v:=(vB x178)) hE Za ld (lk rfl f12) ty5 rfl (At.vec (At.vec (hM.rawAt (pre:=[_])) hi174.2) hi177.2) fun a hE=>⟨Kept.refl _ _,_,_,rfl,hE,rfl⟩
             ·intro a w ux167 hE hM hp
              have f7 : ux167 7 = (vI p0):=hp 0 _ rfl rfl
              have f8 : ux167 8 = (vB x148):=hp 1 _ rfl rfl
              have f13 : ux167 13 = (vB x178):=hp 2 _ rfl rfl
              refine Zv hE Za ld (YL (Ys (lk rfl f7) (Ys (lk rfl f8) (Ys (lk rfl f13) Ve)))) TZ (Yq _ p0 x148 x178 r180 e181) ?_
              rintro v w a ⟨rfl,hK⟩ hE
              exact ⟨hK,_,_,rfl,hE,rfl⟩
             ·intro a w ux167 hE hM hp
              have f6 : ux167 6 = (vB x172):=hp 0 _ rfl rfl
              have f14 : ux167 14 = (vB r180):=hp 1 _ rfl rfl
              exact Zi hE Za ld (lk rfl f6) (lk rfl f14) (WE x172 r180) fun a hE=>⟨Kept.refl _ _,_,_,rfl,hE,rfl⟩
             ·intro a w ux167 hE hM hp
              have f0 : ux167 0 = (vI s139.2.2):=hp 0 _ rfl rfl
              exact Zg hE Za ld rfl (lk rfl f0) Try.underlying50 ZV hi182.1 fun a hE=>⟨Kept.refl _ _,_,_,rfl,hE,rfl⟩
             ·intro a w ux167 hE hM hp
              have f1 : ux167 1 = (vI s153.2.2):=hp 1 _ rfl rfl
              have f16 : ux167 16 = (ptr b1 (0 + (s139.2.2).toNat * 4)):=hp 0 _ rfl rfl
              exact Zg hE Za ld (lk rfl f16) (lk rfl f1) Try.underlying42 ty5 hi185.1 fun a hE=>⟨Kept.refl _ _,_,_,rfl,hE,rfl⟩
             ·intro a w ux167 hE hM hg
              have hE:=hE.sub (e':=[(136,(vB (x172 ^^^ r180))),(138,(ptr b1 (0 + (s139.2.2).toNat * 4 + (s153.2.2).toNat * 1))),(0,vI p0),(3,(ptr b1 0)),(5,(ptr b3 0)),(6,(ptr b7 0)),(7,vB r83),(8,vI s13.2.2.2),(14,vI s139.2.2),(15,vB x148),(16,vI s153.2.2),(118,vT j157)]) ⟨lk rfl (hg 15 (by decide)),lk rfl (hg 17 (by decide)),rfl,rfl,rfl,rfl,rfl,rfl,rfl,rfl,rfl,rfl,trivial⟩
              have hM:=hM.pull (pre:=[_])
              refine Zm (seg:=[(vB (x172 ^^^ r180))]) (cs':=enc (s153.1.setIfInBounds (s139.2.2).toNat (x183.setIfInBounds (s153.2.2).toNat (x172 ^^^ r180)))) hE hM Za rfl rfl rfl ty5 rfl (XM (o':=0 + (s153.2.2).toNat * 1) hi182 (ZE (v:=x183) (x:=x172 ^^^ r180) hi185.1) (by first | omega | (simp only [Flat.n] <;> omega))) (Flat.cell (x172 ^^^ r180 : UInt8)) (Yr (o':=0 + (s153.2.2).toNat * 1) hi182 (ZE (v:=x183) (x:=x172 ^^^ r180) hi185.1) (Zs (v:=x183) (x:=x172 ^^^ r180) hi185.1) (by first | omega | (simp only [Flat.n] <;> omega))) fun w a hM hE=>Zj ?_
              have ht188:=Option.some.inj hl165
              subst ht188
              refine Zk ?_
              have hM:=((hM.pull (pre:=[_,_])).pull (pre:=[_])).pull (pre:=[_,_])
              exact ⟨hE.sub ⟨rfl,rfl,rfl,rfl,rfl,rfl,rfl,rfl,rfl,trivial⟩,hM⟩
            ·skip
             rintro a w ⟨hE,hM⟩
             obtain ⟨x191,hi190,hF166⟩:=bvx hF166
             obtain ⟨x194,hi193,hF166⟩:=bvx hF166
             obtain ⟨x197,hi196,hF166⟩:=bvx hF166
             obtain ⟨x200,hi199,hF166⟩:=bvx hF166
             obtain ⟨r202,e203,hF166⟩:=bind_some hF166
             obtain ⟨x205,hi204,hF166⟩:=bvx hF166
             obtain ⟨x208,hi207,hF166⟩:=bvx hF166
             refine YA (n:=159) (hd:=[_,_,_,_,_,_,_,_,_,_,_,_,_,_,_,_,_,_]) (tl:=[_]) Wa rfl rfl [139,140,141,142,143,144,145,146,147,148,149,150,151,152,153,154,155,156] (by decide) (fun w=>M (Old w0) w0 w [raw b7 (enc s153.2.1),raw b1 (enc j164),raw b3 (enc (Vector.replicate 4 (Vector.replicate 4 (0 : UInt8))))]) (fun j=>([fun v _=>v = (vI s139.2.2),fun v _=>v = (vI s153.2.2),fun v _=>v = (vI s139.2.2),fun v _=>v = (vI s153.2.2),fun v _=>v = (ptr b7 (0 + (s139.2.2).toNat * 4)),fun v _=>v = (ptr b7 (0 + (s139.2.2).toNat * 4 + (s153.2.2).toNat * 1)),fun v _=>v = (vB x194),fun v _=>v = (vI p0),fun v _=>v = (vB x148),fun v _=>v = (vI s13.2.2.2),fun v _=>v = (vI s153.2.2),fun v _=>v = (ptr b7 (0 + (s13.2.2.2).toNat * 4)),fun v _=>v = (ptr b7 (0 + (s13.2.2.2).toNat * 4 + (s153.2.2).toNat * 1)),fun v _=>v = (vB x200),fun v _=>v = (vB r202),fun v _=>v = (vB (x194 ^^^ r202)),fun v _=>v = (ptr b7 (0 + (s139.2.2).toNat * 4)),fun v _=>v = (ptr b7 (0 + (s139.2.2).toNat * 4 + (s153.2.2).toNat * 1))] : List (Value → World → Prop)).getD j (fun _ _=>True)) (fun _ _ h hk=>h.keep hk) (gup (Zh (Zh (Zh (Zh (Zh (Zh (Zh (Zh (Zh (Zh (Zh (Zh (Zh (Zh (Zh (Zh (Zh (Zh W9))))))))))))))))))) hE hM.drew (ZP (Zb ?_ (Zb ?_ (Zb ?_ (Zb ?_ (Zb ?_ (Zb ?_ (Zb ?_ (Zb ?_ (Zb ?_ (Zb ?_ (Zb ?_ (Zb ?_ (Zb ?_ (Zb ?_ (Zb ?_ (Zb ?_ (Zb ?_ (Zb ?_ ZK))))))))))))))))))) ?_
             ·exact fun a w ux189 hE hM hp=>Zd hE Za ld rfl fun a hE=>⟨Kept.refl _ _,_,_,rfl,hE,rfl⟩
             ·exact fun a w ux189 hE hM hp=>Zd hE Za ld rfl fun a hE=>⟨Kept.refl _ _,_,_,rfl,hE,rfl⟩
             ·exact fun a w ux189 hE hM hp=>Zd hE Za ld rfl fun a hE=>⟨Kept.refl _ _,_,_,rfl,hE,rfl⟩
             ·exact fun a w ux189 hE hM hp=>Zd hE Za ld rfl fun a hE=>⟨Kept.refl _ _,_,_,rfl,hE,rfl⟩
             ·intro a w ux189 hE hM hp
              have f2 : ux189 2 = (vI s139.2.2):=hp 0 _ rfl rfl
              exact Zg hE Za ld rfl (lk rfl f2) Try.underlying50 ZV hi190.1 fun a hE=>⟨Kept.refl _ _,_,_,rfl,hE,rfl⟩
             ·intro a w ux189 hE hM hp
              have f3 : ux189 3 = (vI s153.2.2):=hp 1 _ rfl rfl
              have f4 : ux189 4 = (ptr b7 (0 + (s139.2.2).toNat * 4)):=hp 0 _ rfl rfl
              exact Zg hE Za ld (lk rfl f4) (lk rfl f3) Try.underlying42 ty5 hi193.1 fun a hE=>⟨Kept.refl _ _,_,_,rfl,hE,rfl⟩
             ·intro a w ux189 hE hM hp
              have f5 : ux189 5 = (ptr b7 (0 + (s139.2.2).toNat * 4 + (s153.2.2).toNat * 1)):=hp 0 _ rfl rfl
              exact Zu (v:=(vB x194)) hE Za ld (lk rfl f5) ty5 rfl (At.vec (At.vec (hM.rawAt (pre:=[])) hi190.2) hi193.2) fun a hE=>⟨Kept.refl _ _,_,_,rfl,hE,rfl⟩
             ·exact fun a w ux189 hE hM hp=>Zd hE Za ld rfl fun a hE=>⟨Kept.refl _ _,_,_,rfl,hE,rfl⟩
             ·exact fun a w ux189 hE hM hp=>Zd hE Za ld rfl fun a hE=>⟨Kept.refl _ _,_,_,rfl,hE,rfl⟩
             ·exact fun a w ux189 hE hM hp=>Zd hE Za ld rfl fun a hE=>⟨Kept.refl _ _,_,_,rfl,hE,rfl⟩
             ·exact fun a w ux189 hE hM hp=>Zd hE Za ld rfl fun a hE=>⟨Kept.refl _ _,_,_,rfl,hE,rfl⟩
             ·intro a w ux189 hE hM hp
              have f9 : ux189 9 = (vI s13.2.2.2):=hp 0 _ rfl rfl
              exact Zg hE Za ld rfl (lk rfl f9) Try.underlying50 ZV hi196.1 fun a hE=>⟨Kept.refl _ _,_,_,rfl,hE,rfl⟩
             ·intro a w ux189 hE hM hp
              have f10 : ux189 10 = (vI s153.2.2):=hp 1 _ rfl rfl
              have f11 : ux189 11 = (ptr b7 (0 + (s13.2.2.2).toNat * 4)):=hp 0 _ rfl rfl
              exact Zg hE Za ld (lk rfl f11) (lk rfl f10) Try.underlying42 ty5 hi199.1 fun a hE=>⟨Kept.refl _ _,_,_,rfl,hE,rfl⟩
             ·intro a w ux189 hE hM hp
              have f12 : ux189 12 = (ptr b7 (0 + (s13.2.2.2).toNat * 4 + (s153.2.2).toNat * 1)):=hp 0 _ rfl rfl
              exact Zu (v:=(vB x200)) hE Za ld (lk rfl f12) ty5 rfl (At.vec (At.vec (hM.rawAt (pre:=[])) hi196.2) hi199.2) fun a hE=>⟨Kept.refl _ _,_,_,rfl,hE,rfl⟩
             ·intro a w ux189 hE hM hp
              have f7 : ux189 7 = (vI p0):=hp 0 _ rfl rfl
              have f8 : ux189 8 = (vB x148):=hp 1 _ rfl rfl
              have f13 : ux189 13 = (vB x200):=hp 2 _ rfl rfl
              refine Zv hE Za ld (YL (Ys (lk rfl f7) (Ys (lk rfl f8) (Ys (lk rfl f13) Ve)))) TZ (Yq _ p0 x148 x200 r202 e203) ?_
              rintro v w a ⟨rfl,hK⟩ hE
              exact ⟨hK,_,_,rfl,hE,rfl⟩
             ·intro a w ux189 hE hM hp
              have f6 : ux189 6 = (vB x194):=hp 0 _ rfl rfl
              have f14 : ux189 14 = (vB r202):=hp 1 _ rfl rfl
              exact Zi hE Za ld (lk rfl f6) (lk rfl f14) (WE x194 r202) fun a hE=>⟨Kept.refl _ _,_,_,rfl,hE,rfl⟩
             ·intro a w ux189 hE hM hp
              have f0 : ux189 0 = (vI s139.2.2):=hp 0 _ rfl rfl
              exact Zg hE Za ld rfl (lk rfl f0) Try.underlying50 ZV hi204.1 fun a hE=>⟨Kept.refl _ _,_,_,rfl,hE,rfl⟩
             ·intro a w ux189 hE hM hp
              have f1 : ux189 1 = (vI s153.2.2):=hp 1 _ rfl rfl
              have f16 : ux189 16 = (ptr b7 (0 + (s139.2.2).toNat * 4)):=hp 0 _ rfl rfl
              exact Zg hE Za ld (lk rfl f16) (lk rfl f1) Try.underlying42 ty5 hi207.1 fun a hE=>⟨Kept.refl _ _,_,_,rfl,hE,rfl⟩
             ·intro a w ux189 hE hM hg
              have hE:=hE.sub (e':=[(154,(vB (x194 ^^^ r202))),(156,(ptr b7 (0 + (s139.2.2).toNat * 4 + (s153.2.2).toNat * 1))),(0,vI p0),(3,(ptr b1 0)),(5,(ptr b3 0)),(6,(ptr b7 0)),(7,vB r83),(8,vI s13.2.2.2),(14,vI s139.2.2),(15,vB x148),(16,vI s153.2.2)]) ⟨lk rfl (hg 15 (by decide)),lk rfl (hg 17 (by decide)),rfl,rfl,rfl,rfl,rfl,rfl,rfl,rfl,rfl,trivial⟩
              refine Zm (seg:=[(vB (x194 ^^^ r202))]) (cs':=enc (s153.2.1.setIfInBounds (s139.2.2).toNat (x205.setIfInBounds (s153.2.2).toNat (x194 ^^^ r202)))) hE hM Za rfl rfl rfl ty5 rfl (XM (o':=0 + (s153.2.2).toNat * 1) hi204 (ZE (v:=x205) (x:=x194 ^^^ r202) hi207.1) (by first | omega | (simp only [Flat.n] <;> omega))) (Flat.cell (x194 ^^^ r202 : UInt8)) (Yr (o':=0 + (s153.2.2).toNat * 1) hi204 (ZE (v:=x205) (x:=x194 ^^^ r202) hi207.1) (Zs (v:=x205) (x:=x194 ^^^ r202) hi207.1) (by first | omega | (simp only [Flat.n] <;> omega))) fun w a hM hE=>Zj (Yg (Zy (wp_region_lit (Zd hE Za ld rfl fun a hE=>Zi hE Za ld rfl rfl rfl fun a hE=>Ze hE Za ld rfl fun a hE=>Zj (Zk ?_)))))
              exact ⟨_,(ois hF166),hE.sub ⟨rfl,rfl,rfl,rfl,rfl,rfl,rfl,rfl,rfl,trivial⟩,hM⟩
           ·intro hb163
            have hF159:=ZA hF159 hb163
            refine wp_exit (Zo (Zo (Yt ?_)))
            have ht210:=hx155 _ (ois hF159)
            subst ht210
            refine Zk ?_
            exact ⟨hE.sub ⟨rfl,rfl,rfl,rfl,rfl,rfl,rfl,trivial⟩,hM⟩
         ·skip
          rintro a w ⟨hE,hM⟩
          refine Yg (Zy (wp_region_lit (Zd hE Za ld rfl fun a hE=>Zi hE Za ld rfl rfl rfl fun a hE=>Ze hE Za ld rfl fun a hE=>Zj (Zk ?_))))
          exact ⟨_,(ois hF152),hE.sub ⟨rfl,rfl,rfl,rfl,rfl,rfl,rfl,trivial⟩,hM⟩
        ·intro hb143
         have hs140:=ZA hs140 hb143
         refine wp_exit (Zo (Zo (Yt ?_)))
         have ht211:=hx141 _ (ois hs140)
         subst ht211
         refine Zk ?_
         exact ⟨hE.sub ⟨rfl,rfl,rfl,rfl,rfl,rfl,trivial⟩,hM⟩
       ·skip
        rintro a w ⟨hE,hM⟩
        refine Yg (Zy (wp_region_lit (Zd hE Za ld rfl fun a hE=>Zi hE Za ld rfl rfl rfl fun a hE=>Ze hE Za ld rfl fun a hE=>Zj (Zk ?_))))
        have hM:=((hM.pull (pre:=[_])).pull (pre:=[_,_])).pull (pre:=[_,_])
        exact ⟨_,(ois hF138),hE.sub ⟨rfl,rfl,rfl,rfl,rfl,rfl,trivial⟩,hM⟩
  ·intro hb17
   have hs14:=ZA hs14 hb17
   refine wp_exit (Zo (Zo (Yt ?_)))
   have ht212:=hx15 _ (ois hs14)
   subst ht212
   refine Zk ?_
   have hM:=M.fst (l:=[_,_]) ((hM.pull (pre:=[_])).pull (pre:=[_]))
   exact ⟨(s13.2.1,s13.2.2.1),rfl,hE.sub ⟨rfl,rfl,rfl,trivial⟩,hM⟩
 ·skip
  rintro a w ⟨s12,ht,hE,hM⟩
  subst ht
  have hF11:=UK hF11
  refine Zy ?_
  obtain ⟨j213,hl214,hF215⟩:=bind_some hF11
  refine ZQ (fun a w=>Env 159 a [(4,vB j213.2),(5,(ptr b3 0))] ∧ M (Old w0) w0 w [raw b3 (enc j213.1)]) ?_ ?_
  ·skip
   refine YA (n:=159) (hd:=[_,_,_]) (tl:=[_]) Wa rfl rfl [157,158,4] (by decide) (fun w=>M (Old w0) w0 w [raw b7 (enc s12.1),raw b3 (enc (Vector.replicate 4 (Vector.replicate 4 (0 : UInt8))))]) (fun j=>([fun v _=>v = (vB s12.2),fun v _=>v = (Value.agg (enc s12.1).toArray),fun v _=>v = (vB s12.2)] : List (Value → World → Prop)).getD j (fun _ _=>True)) (fun _ _ h hk=>h.keep hk) (gup (Zh (Zh (Zh W9)))) hE hM.drew (ZP (Zb ?_ (Zb ?_ (Zb ?_ ZK)))) ?_
   ·exact fun a w ux216 hE hM hp=>Zd hE Za ld rfl fun a hE=>⟨Kept.refl _ _,_,_,rfl,hE,rfl⟩
   ·exact fun a w ux216 hE hM hp=>Zl (cs:=enc s12.1) hE Za ld rfl Yi rfl (hM.rawAt (pre:=[])) (Flat.len _) fun a hE=>⟨Kept.refl _ _,_,_,rfl,hE,rfl⟩
   ·intro a w ux216 hE hM hp
    have f0 : ux216 0 = (vB s12.2):=hp 0 _ rfl rfl
    exact Ze hE Za ld (lk rfl f0) fun a hE=>⟨Kept.refl _ _,_,_,rfl,hE,rfl⟩
   ·intro a w ux216 hE hM hg
    have hE:=hE.sub (e':=[(158,(Value.agg (enc s12.1).toArray)),(4,vB s12.2),(5,(ptr b3 0))]) ⟨lk rfl (hg 1 (by decide)),lk rfl (hg 2 (by decide)),rfl,trivial⟩
    have hM:=hM.pull (pre:=[_])
    refine Zm (seg:=enc s12.1) (cs':=enc s12.1) hE hM Za rfl rfl rfl Yi (Flat.len _) (zle flq) (Flat.cell _) (Zn flq) fun w a hM hE=>Zj ?_
    have ht217:=Option.some.inj hl214
    subst ht217
    refine Zk ?_
    have hM:=M.fst (l:=[_]) hM
    exact ⟨hE.sub ⟨rfl,rfl,trivial⟩,hM⟩
  ·skip
   rintro a w ⟨hE,hM⟩
   have hr:=Option.some.inj hF215
   subst hr
   have hq218 : Yy Try.prog _ _ (.cell 5 50) _:=ZX hE rfl Yi rfl (hM.rawAt (pre:=[])) (Flat.len _) rfl
   have hM:=M.fst (l:=[]) hM
   exact wp_ret (QL hE rfl (Zx hE rfl) hq218 ⟨_,rfl,rfl,hM.kept⟩)
def Xy (p0 : Int) (p1 : (Vector (Vector UInt8 4) 4)) : Option ((Vector (Vector UInt8 4) 4) × Bool) :=
 (XJ p0 p1).bind fun r5=>some (r5.2,r5.1 != 0)
theorem Tj (w0 : World) (p0 : Int) (p1 : (Vector (Vector UInt8 4) 4)) (r : (Vector (Vector UInt8 4) 4) × Bool) (hF : Xy p0 p1 = some r) :
  Calls Try.prog 115 [vI p0,(Value.agg (enc p1).toArray)].toArray w0 (fun en w'=>∃ v,en = .returned v ∧ (v = (Value.tuple [(Value.agg (enc r.1).toArray),vT r.2].toArray) ∧ Kept (Old w0) w0 w')):=by
 refine ZB (n:=17) Try.func115 rfl rfl (nbl rfl) rfl ?_
 intro a hE
 have hM:=M.start w0
 unfold Xy at hF
 refine Zc (ZR (cs:=enc p1) hE hM Za ld rfl rfl fun b1 w a hM hE=>ZF hE hM Za ld Yi fun b3 w a hM hE=>Ze hE Za ld rfl fun a hE=>Zf (Zc (Zd hE Za ld rfl fun a hE=>Zl (cs:=enc p1) hE Za ld rfl Yi rfl (hM.rawAt (pre:=[_])) (Flat.len _) ?_))); intro a hE
 obtain ⟨r5,e6,hF⟩:=bind_some hF
 refine Zv hE Za ld rfl cb149 (TW _ p0 p1 r5 e6) ?_
 rintro v w a ⟨rfl,hK⟩ hE
 have hM:=hM.keep hK
 refine Zd hE Za ld rfl fun a hE=>Yk hE Za ld rfl rfl fun a hE=>Yk hE Za ld rfl rfl fun a hE=>ZF hE hM Za ld Yi fun b7 w a hM hE=>Ze hE Za ld rfl fun a hE=>Zm (seg:=enc r5.2) (cs':=enc r5.2) hE hM Za rfl rfl rfl Yi (Flat.len _) (zle flq) (Flat.cell _) (Zn flq) fun w a hM hE=>Zf (Zc (Zl (cs:=enc r5.2) hE Za ld rfl Yi rfl (hM.rawAt (pre:=[])) (Flat.len _) fun a hE=>Zd hE Za ld rfl fun a hE=>Zi hE Za ld rfl rfl (JG r5.1 0) ?_)); intro a hE
 have hM:=hM.pull (pre:=[_])
 refine Zm (seg:=enc r5.2) (cs':=enc r5.2) hE hM Za rfl rfl rfl Yi (Flat.len _) (zle flq) (Flat.cell _) (Zn flq) fun w a hM hE=>Ze hE Za ld rfl fun a hE=>Zf ?_
 have hr:=Option.some.inj hF
 subst hr
 have hq9 : Yy Try.prog _ _ (.cell 4 50) _:=ZX hE rfl Yi rfl (hM.rawAt (pre:=[])) (Flat.len _) rfl
 have hM:=M.fst (l:=[]) hM
 exact wp_ret (QL hE rfl hq9 (Zx hE rfl) ⟨_,rfl,rfl,hM.kept⟩)
def WS (p0 : GCipher) : Option (Bool) :=
 ((X5 p0.Field).bind fun r6=>if (!r6) = true then (some true) else ((W2 p0.Box).bind fun r10=>if (!r10) = true then (some true) else ((Wi p0.Places).bind fun r14=>if (!r14) = true then (some true) else ((XV p0.Rounds 1 20).bind fun r18=>some (!r18)))) : Option (Bool)).bind fun j3=>if j3 = true then (some false) else ((Xy p0.Field p0.Mix).bind fun r22=>some r22.2)
theorem KE (w0 : World) (p0 : GCipher) (r : Bool) (hF : WS p0 = some r) :
  Calls Try.prog 71 [(Value.agg (enc p0).toArray)].toArray w0 (fun en w'=>∃ v,en = .returned v ∧ (v = (vT r) ∧ Kept (Old w0) w0 w')):=by
 refine ZB (n:=36) Try.func71 rfl rfl (nbl rfl) rfl ?_
 intro a hE
 have hM:=M.start w0
 unfold WS at hF
 refine Zc (ZR (cs:=cat [[vI p0.Field],enc p0.Box,enc p0.Mix,enc p0.Places,[vI p0.Rounds]]) hE hM Za ld rfl rfl fun b1 w a hM hE=>Ze hE Za ld rfl fun a hE=>Zf (wp_seq ?_))
 obtain ⟨j3,hl4,hF5⟩:=bind_some hF
 refine ZQ (fun a w=>Env 36 a [(1,(ptr b1 0)),(26,vT j3)] ∧ M (Old w0) w0 w [raw b1 (cat [[vI p0.Field],enc p0.Box,enc p0.Mix,enc p0.Places,[vI p0.Rounds]])]) ?_ ?_
 ·skip
  refine wp_region_lit (Zp hE Za ld rfl (V3) fun a hE=>Zu (v:=(vI p0.Field)) hE Za ld rfl ty2 rfl (At.cat (pre:=[]) (hM.rawAt (pre:=[])) cl0) ?_); intro a hE
  obtain ⟨r6,e7,hl4⟩:=bind_some hl4
  refine Zv hE Za ld rfl cb43 (T5 _ p0.Field r6 e7) ?_
  rintro v w a ⟨rfl,hK⟩ hE
  have hM:=hM.keep hK
  refine Ux hE Za ld rfl fun a hE=>Zd hE Za ld rfl ?_; intro a hE
  refine WF (!r6) (fun hb8=>?_) (fun hb8=>?_)
  ·have hl4:=Zz hl4 hb8
   refine Zr hE rfl (lkb rfl hb8) rfl (by decide) fun a hE=>Zr hE rfl (lkb rfl hb8) rfl (by decide) fun a hE=>Zr hE rfl (lkb rfl hb8) rfl (by decide) fun a hE=>Zr hE rfl (lkb rfl hb8) rfl (by decide) fun a hE=>YO hE Za ld (lkb rfl hb8) rfl fun a hE=>Zd hE Za ld rfl fun a hE=>Zr hE rfl rfl rfl (by decide) fun a hE=>Zr hE rfl rfl rfl (by decide) fun a hE=>Zr hE rfl rfl rfl (by decide) fun a hE=>Zr hE rfl rfl rfl (by decide) fun a hE=>YO hE Za ld rfl rfl fun a hE=>Zd hE Za ld rfl ?_; intro a hE
   refine Zr hE rfl rfl rfl (by decide) fun a hE=>Zr hE rfl rfl rfl (by decide) fun a hE=>Zr hE rfl rfl rfl (by decide) fun a hE=>Zr hE rfl rfl rfl (by decide) fun a hE=>YO hE Za ld rfl rfl fun a hE=>Zj ?_
   have ht9:=Option.some.inj hl4
   subst ht9
   refine Zk ?_
   exact ⟨hE.sub ⟨rfl,rfl,trivial⟩,hM⟩
  ·have hl4:=ZA hl4 hb8
   refine Zp hE (Zt hE rfl (lkb rfl hb8)) (by decide) rfl (U1) fun a hE=>Zl (cs:=enc p0.Box) hE (Zt hE rfl (lkb rfl hb8)) (by decide) rfl Vl rfl (At.cat (pre:=[[vI p0.Field]]) (hM.rawAt (pre:=[])) (cl1 (n:=1) (m:=0) rfl cl0)) (Flat.len _) ?_; intro a hE
   obtain ⟨r10,e11,hl4⟩:=bind_some hl4
   refine Zv hE (Zt hE rfl (lkb rfl hb8)) (by decide) rfl cb113 (KL _ p0.Box r10 e11) ?_
   rintro v w a ⟨rfl,hK⟩ hE
   have hM:=hM.keep hK
   refine Ux hE (Zt hE rfl (lkb rfl hb8)) (by decide) rfl fun a hE=>Yu hE Za ld (lkb rfl hb8) rfl fun a hE=>Zd hE Za ld rfl ?_; intro a hE
   refine WF (!r10) (fun hb12=>?_) (fun hb12=>?_)
   ·have hl4:=Zz hl4 hb12
    refine Zr hE rfl (lkb rfl hb12) rfl (by decide) fun a hE=>Zr hE rfl (lkb rfl hb12) rfl (by decide) fun a hE=>Zr hE rfl (lkb rfl hb12) rfl (by decide) fun a hE=>Zr hE rfl (lkb rfl hb12) rfl (by decide) fun a hE=>YO hE Za ld (lkb rfl hb12) rfl fun a hE=>Zd hE Za ld rfl fun a hE=>Zr hE rfl rfl rfl (by decide) fun a hE=>Zr hE rfl rfl rfl (by decide) fun a hE=>Zr hE rfl rfl rfl (by decide) fun a hE=>Zr hE rfl rfl rfl (by decide) fun a hE=>YO hE Za ld rfl rfl fun a hE=>Zj ?_
    have ht13:=Option.some.inj hl4
    subst ht13
    refine Zk ?_
    exact ⟨hE.sub ⟨rfl,rfl,trivial⟩,hM⟩
   ·have hl4:=ZA hl4 hb12
    refine Zp hE (Zt hE rfl (lkb rfl hb12)) (by decide) rfl (TU) fun a hE=>Zl (cs:=enc p0.Places) hE (Zt hE rfl (lkb rfl hb12)) (by decide) rfl Vg rfl (At.cat (pre:=[[vI p0.Field],enc p0.Box,enc p0.Mix]) (hM.rawAt (pre:=[])) (cl1 (n:=1) (m:=272) rfl (cl1 (n:=256) (m:=16) (Flat.len _) (cl1 (n:=16) (m:=0) (Flat.len _) cl0)))) (Flat.len _) ?_; intro a hE
    obtain ⟨r14,e15,hl4⟩:=bind_some hl4
    refine Zv hE (Zt hE rfl (lkb rfl hb12)) (by decide) rfl cb114 (QT _ p0.Places r14 e15) ?_
    rintro v w a ⟨rfl,hK⟩ hE
    have hM:=hM.keep hK
    refine Ux hE (Zt hE rfl (lkb rfl hb12)) (by decide) rfl fun a hE=>Yu hE Za ld (lkb rfl hb12) rfl fun a hE=>Zd hE Za ld rfl ?_; intro a hE
    refine WF (!r14) (fun hb16=>?_) (fun hb16=>?_)
    ·have hl4:=Zz hl4 hb16
     refine Zr hE rfl (lkb rfl hb16) rfl (by decide) fun a hE=>Zr hE rfl (lkb rfl hb16) rfl (by decide) fun a hE=>Zr hE rfl (lkb rfl hb16) rfl (by decide) fun a hE=>Zr hE rfl (lkb rfl hb16) rfl (by decide) fun a hE=>YO hE Za ld (lkb rfl hb16) rfl fun a hE=>Zj ?_
     have ht17:=Option.some.inj hl4
     subst ht17
     refine Zk ?_
     exact ⟨hE.sub ⟨rfl,rfl,trivial⟩,hM⟩
    ·have hl4:=ZA hl4 hb16
     refine Zp hE (Zt hE rfl (lkb rfl hb16)) (by decide) rfl (TR) fun a hE=>Zu (v:=(vI p0.Rounds)) hE (Zt hE rfl (lkb rfl hb16)) (by decide) rfl ty2 rfl (At.cat (pre:=[[vI p0.Field],enc p0.Box,enc p0.Mix,enc p0.Places]) (hM.rawAt (pre:=[])) (cl1 (n:=1) (m:=288) rfl (cl1 (n:=256) (m:=32) (Flat.len _) (cl1 (n:=16) (m:=16) (Flat.len _) (cl1 (n:=16) (m:=0) (Flat.len _) cl0))))) ?_; intro a hE
     obtain ⟨r18,e19,hl4⟩:=bind_some hl4
     refine Zv hE (Zt hE rfl (lkb rfl hb16)) (by decide) rfl cb82 (VT _ p0.Rounds 1 20 r18 e19) ?_
     rintro v w a ⟨rfl,hK⟩ hE
     have hM:=hM.keep hK
     refine Ux hE (Zt hE rfl (lkb rfl hb16)) (by decide) rfl fun a hE=>Yu hE Za ld (lkb rfl hb16) rfl fun a hE=>Zj ?_
     have ht20:=Option.some.inj hl4
     subst ht20
     refine Zk ?_
     exact ⟨hE.sub ⟨rfl,rfl,trivial⟩,hM⟩
 ·skip
  rintro a w ⟨hE,hM⟩
  refine Zw hE rfl ?_ ?_
  ·intro hb21
   have hF5:=Zz hF5 hb21
   refine Zc (Ze hE Za ld rfl fun a hE=>Zf ?_)
   have hr:=Option.some.inj hF5
   subst hr
   have hM:=M.fst (l:=[]) hM
   exact wp_ret (ZI (ZC hE rfl (Zx hE rfl) ⟨_,rfl,rfl,hM.kept⟩))
  ·intro hb21
   have hF5:=ZA hF5 hb21
   refine wp_skip (Zy (Zc (Zp hE Za ld rfl (V3) fun a hE=>Zu (v:=(vI p0.Field)) hE Za ld rfl ty2 rfl (At.cat (pre:=[]) (hM.rawAt (pre:=[])) cl0) fun a hE=>Zp hE Za ld rfl (Tx) fun a hE=>Zl (cs:=enc p0.Mix) hE Za ld rfl Yi rfl (At.cat (pre:=[[vI p0.Field],enc p0.Box]) (hM.rawAt (pre:=[])) (cl1 (n:=1) (m:=256) rfl (cl1 (n:=256) (m:=0) (Flat.len _) cl0))) (Flat.len _) ?_))); intro a hE
   obtain ⟨r22,e23,hF5⟩:=bind_some hF5
   refine Zv hE Za ld rfl cb115 (Tj _ p0.Field p0.Mix r22 e23) ?_
   rintro v w a ⟨rfl,hK⟩ hE
   have hM:=hM.keep hK
   refine Zd hE Za ld rfl fun a hE=>Yk hE Za ld rfl rfl fun a hE=>Yk hE Za ld rfl rfl fun a hE=>ZF hE hM Za ld Yi fun b24 w a hM hE=>Zm (seg:=enc r22.1) (cs':=enc r22.1) hE hM Za rfl rfl rfl Yi (Flat.len _) (zle flq) (Flat.cell _) (Zn flq) fun w a hM hE=>Ze hE Za ld rfl fun a hE=>Zf (Zc (Zd hE Za ld rfl fun a hE=>Ze hE Za ld rfl fun a hE=>Zf ?_))
   have hr:=Option.some.inj hF5
   subst hr
   have hM:=M.fst (l:=[]) hM
   exact wp_ret (ZC hE rfl (Zx hE rfl) ⟨_,rfl,rfl,hM.kept⟩)
def Wk (p0 : GCipher) (p1 : Int) : Option (Int) :=
 (WS p0).bind fun r3=>if (!r3) = true then (some 1) else ((XV p1 0 65535).bind fun r6=>if (!r6) = true then (some 2) else (some 0))
theorem QF (w0 : World) (p0 : GCipher) (p1 : Int) (r : Int) (hF : Wk p0 p1 = some r) :
  Calls Try.prog 63 [(Value.agg (enc p0).toArray),vI p1].toArray w0 (fun en w'=>∃ v,en = .returned v ∧ (v = (vI r) ∧ Kept (Old w0) w0 w')):=by
 refine ZB (n:=13) Try.func63 rfl rfl (nbl rfl) rfl ?_
 intro a hE
 have hM:=M.start w0
 unfold Wk at hF
 refine Zc (ZR (cs:=cat [[vI p0.Field],enc p0.Box,enc p0.Mix,enc p0.Places,[vI p0.Rounds]]) hE hM Za ld rfl rfl fun b1 w a hM hE=>Ze hE Za ld rfl fun a hE=>Zf (wp_seq (wp_block (Zc (Zl (cs:=enc p0) hE Za ld rfl VQ rfl (hM.rawAt (pre:=[])) (ZZ (cl1 (n:=1) (m:=289) rfl (cl1 (n:=256) (m:=33) (Flat.len _) (cl1 (n:=16) (m:=17) (Flat.len _) (cl1 (n:=16) (m:=1) (Flat.len _) (cl1 (n:=1) (m:=0) rfl cl0)))))) ?_))))); intro a hE
 obtain ⟨r3,e4,hF⟩:=bind_some hF
 refine Zv hE Za ld rfl cb71 (KE _ p0 r3 e4) ?_
 rintro v w a ⟨rfl,hK⟩ hE
 have hM:=hM.keep hK
 refine Ux hE Za ld rfl fun a hE=>Ze hE Za ld rfl fun a hE=>Zf ?_
 refine Zw hE rfl ?_ ?_
 ·intro hb5
  have hF:=Zz hF hb5
  refine Zc (Ze hE Za ld rfl fun a hE=>Zf ?_)
  have hr:=Option.some.inj hF
  subst hr
  have hM:=M.fst (l:=[]) hM
  exact wp_ret (XT (ZI (ZC hE rfl (Zx hE rfl) ⟨_,rfl,rfl,hM.kept⟩)))
 ·intro hb5
  have hF:=ZA hF hb5
  refine Zc (Zd hE Za ld rfl ?_); intro a hE
  obtain ⟨r6,e7,hF⟩:=bind_some hF
  refine Zv hE Za ld rfl cb82 (VT _ p1 0 65535 r6 e7) ?_
  rintro v w a ⟨rfl,hK⟩ hE
  have hM:=hM.keep hK
  refine Ux hE Za ld rfl fun a hE=>Ze hE Za ld rfl fun a hE=>Zf ?_
  refine Zw hE rfl ?_ ?_
  ·intro hb8
   have hF:=Zz hF hb8
   refine Zc (Ze hE Za ld rfl fun a hE=>Zf ?_)
   have hr:=Option.some.inj hF
   subst hr
   have hM:=M.fst (l:=[]) hM
   exact wp_ret (XT (ZI (ZC hE rfl (Zx hE rfl) ⟨_,rfl,rfl,hM.kept⟩)))
  ·intro hb8
   have hF:=ZA hF hb8
   refine wp_skip (Yg (Zy (Zc (Ze hE Za ld rfl fun a hE=>Zf ?_))))
   have hr:=Option.some.inj hF
   subst hr
   have hM:=M.fst (l:=[]) hM
   exact wp_ret (ZC hE rfl (Zx hE rfl) ⟨_,rfl,rfl,hM.kept⟩)
def Xn (p0 : (Vector UInt8 256)) (p2 : Int) (s10 : (Vector UInt8 16) × Int) : Option (Fl ((Vector UInt8 16) × Int) (Vector UInt8 16)) :=
 if (decide (s10.2 < 16)) = true then (((Zq s10.1 (Int.tmod (wr (s10.2 + 15)) 16)).bind fun x19=>(if (s10.2 == 0) = true then (some (x19 ^^^ (ZO p2))) else (some x19) : Option (UInt8)).bind fun j21=>(Zq s10.1 s10.2).bind fun x29=>(Zq p0 (bI j21)).bind fun x32=>(Zq s10.1 s10.2).bind fun x35=>some (s10.1.setIfInBounds (s10.2).toNat (x29 ^^^ x32)) : Option ((Vector UInt8 16))).bind fun j15=>some (Fl.nx (j15,wr (s10.2 + 1)))) else (some (Fl.ex s10.1))
def Wp (p0 : (Vector UInt8 256)) (p1 : (Vector UInt8 16)) (p2 : Int) : Option ((Vector UInt8 16)) :=
 (ZD (Xn p0 p2) (p1,0)).bind fun j7=>some j7
theorem Qu (w0 : World) (p0 : (Vector UInt8 256)) (p1 : (Vector UInt8 16)) (p2 : Int) (r : (Vector UInt8 16)) (hF : Wp p0 p1 p2 = some r) :
  Calls Try.prog 150 [(Value.agg (enc p0).toArray),(Value.agg (enc p1).toArray),vI p2].toArray w0 (fun en w'=>∃ v,en = .returned v ∧ (v = (Value.agg (enc r).toArray) ∧ Kept (Old w0) w0 w')):=by
 refine ZB (n:=34) Try.func150 rfl rfl (nbl rfl) rfl ?_
 intro a hE
 have hM:=M.start w0
 unfold Wp at hF
 refine Zc (ZR (cs:=enc p0) hE hM Za ld rfl rfl fun b1 w a hM hE=>ZR (cs:=enc p1) hE hM Za ld rfl rfl fun b3 w a hM hE=>ZF hE hM Za ld ZL fun b5 w a hM hE=>Zf (wp_seq (Zc (Ze hE Za ld rfl fun a hE=>Zf ?_))))
 obtain ⟨j7,hl8,hF9⟩:=bind_some hF
 refine ZU (fun a w=>Env 34 a [(4,(ptr b3 0)),(6,(ptr b5 0))] ∧ M (Old w0) w0 w [raw b5 (enc (Vector.replicate 16 (0 : UInt8))),raw b3 (enc j7)]) ?_ ?_
 ·skip
  refine wp_block ?_
  refine ZG (fun (s10 : (Vector UInt8 16) × Int) a w=>Env 34 a [(2,vI p2),(3,(ptr b1 0)),(4,(ptr b3 0)),(6,(ptr b5 0)),(7,vI s10.2)] ∧ M (Old w0) w0 w [raw b5 (enc (Vector.replicate 16 (0 : UInt8))),raw b3 (enc s10.1),raw b1 (enc p0)]) hl8 ⟨hE.sub ⟨rfl,rfl,rfl,rfl,rfl,trivial⟩,hM⟩ ?_
  rintro s10 a w ⟨hE,hM⟩ o13 hs11 hx12
  unfold Xn at hs11
  refine wp_seq (Zc (Zd hE Za ld rfl fun a hE=>Zi hE Za ld rfl rfl rfl fun a hE=>Zf ?_))
  refine Zw hE rfl ?_ ?_
  ·intro hb14
   have hs11:=Zz hs11 hb14
   refine wp_skip (Zy ?_)
   obtain ⟨j15,hl16,hF17⟩:=bind_some hs11
   refine ZQ (fun a w=>Env 34 a [(2,vI p2),(3,(ptr b1 0)),(4,(ptr b3 0)),(6,(ptr b5 0)),(7,vI s10.2)] ∧ M (Old w0) w0 w [raw b5 (enc (Vector.replicate 16 (0 : UInt8))),raw b3 (enc j15),raw b1 (enc p0)]) ?_ ?_
   ·skip
    refine wp_block (Zc (Zd hE Za ld rfl fun a hE=>Zi hE Za ld rfl rfl rfl fun a hE=>Zi hE Za ld rfl rfl (QD _ _ (by decide)) ?_)); intro a hE
    obtain ⟨x19,hi18,hl16⟩:=bvx hl16
    refine Zg hE Za ld rfl rfl Try.underlying55 ty5 hi18.1 fun a hE=>Zu (v:=(vB x19)) hE Za ld rfl ty5 rfl (At.vec (hM.rawAt (pre:=[_])) hi18.2) fun a hE=>Ze hE Za ld rfl fun a hE=>Zf ?_
    obtain ⟨j21,hl22,hF23⟩:=bind_some hl16
    refine ZQ (fun a w=>Env 34 a [(2,vI p2),(3,(ptr b1 0)),(4,(ptr b3 0)),(6,(ptr b5 0)),(7,vI s10.2),(8,vB j21)] ∧ M (Old w0) w0 w [raw b5 (enc (Vector.replicate 16 (0 : UInt8))),raw b3 (enc s10.1),raw b1 (enc p0)]) ?_ ?_
    ·skip
     refine Zc (Zd hE Za ld rfl fun a hE=>Zi hE Za ld rfl rfl rfl fun a hE=>Zf ?_)
     refine Zw hE rfl ?_ ?_
     ·intro hb24
      have hl22:=Zz hl22 hb24
      refine wp_region_lit (Zd hE Za ld rfl fun a hE=>Zd hE Za ld rfl fun a hE=>XW hE Za ld rfl Try.underlying2 Try.underlying5 ?_); intro a hE
      rw [Xq] at hE
      refine Zi hE Za ld rfl rfl (WE x19 (ZO p2)) fun a hE=>Ze hE Za ld rfl fun a hE=>Zj ?_
      have ht25:=Option.some.inj hl22
      subst ht25
      refine Zk ?_
      exact ⟨hE.sub ⟨rfl,rfl,rfl,rfl,rfl,rfl,trivial⟩,hM⟩
     ·intro hb24
      have hl22:=ZA hl22 hb24
      refine wp_skip ?_
      have ht26:=Option.some.inj hl22
      subst ht26
      refine Zk ?_
      exact ⟨hE.sub ⟨rfl,rfl,rfl,rfl,rfl,rfl,trivial⟩,hM⟩
    ·skip
     rintro a w ⟨hE,hM⟩
     obtain ⟨x29,hi28,hF23⟩:=bvx hF23
     obtain ⟨x32,hi31,hF23⟩:=bvx hF23
     obtain ⟨x35,hi34,hF23⟩:=bvx hF23
     refine YA (n:=34) (hd:=[_,_,_,_,_,_,_,_,_]) (tl:=[_]) Wa rfl rfl [24,25,26,27,28,29,30,31,32] (by decide) (fun w=>M (Old w0) w0 w [raw b5 (enc (Vector.replicate 16 (0 : UInt8))),raw b3 (enc s10.1),raw b1 (enc p0)]) (fun j=>([fun v _=>v = (vI s10.2),fun v _=>v = (vI s10.2),fun v _=>v = (ptr b3 (0 + (s10.2).toNat * 1)),fun v _=>v = (vB x29),fun v _=>v = (vB j21),fun v _=>v = (ptr b1 (0 + ((bI j21)).toNat * 1)),fun v _=>v = (vB x32),fun v _=>v = (vB (x29 ^^^ x32)),fun v _=>v = (ptr b3 (0 + (s10.2).toNat * 1))] : List (Value → World → Prop)).getD j (fun _ _=>True)) (fun _ _ h hk=>h.keep hk) (gup (Zh (Zh (Zh (Zh (Zh (Zh (Zh (Zh (Zh W9)))))))))) hE hM.drew (ZP (Zb ?_ (Zb ?_ (Zb ?_ (Zb ?_ (Zb ?_ (Zb ?_ (Zb ?_ (Zb ?_ (Zb ?_ ZK)))))))))) ?_
     ·exact fun a w ux27 hE hM hp=>Zd hE Za ld rfl fun a hE=>⟨Kept.refl _ _,_,_,rfl,hE,rfl⟩
     ·exact fun a w ux27 hE hM hp=>Zd hE Za ld rfl fun a hE=>⟨Kept.refl _ _,_,_,rfl,hE,rfl⟩
     ·intro a w ux27 hE hM hp
      have f1 : ux27 1 = (vI s10.2):=hp 0 _ rfl rfl
      exact Zg hE Za ld rfl (lk rfl f1) Try.underlying55 ty5 hi28.1 fun a hE=>⟨Kept.refl _ _,_,_,rfl,hE,rfl⟩
     ·intro a w ux27 hE hM hp
      have f2 : ux27 2 = (ptr b3 (0 + (s10.2).toNat * 1)):=hp 0 _ rfl rfl
      exact Zu (v:=(vB x29)) hE Za ld (lk rfl f2) ty5 rfl (At.vec (hM.rawAt (pre:=[_])) hi28.2) fun a hE=>⟨Kept.refl _ _,_,_,rfl,hE,rfl⟩
     ·exact fun a w ux27 hE hM hp=>Zd hE Za ld rfl fun a hE=>⟨Kept.refl _ _,_,_,rfl,hE,rfl⟩
     ·intro a w ux27 hE hM hp
      have f4 : ux27 4 = (vB j21):=hp 0 _ rfl rfl
      exact Zg hE Za ld rfl (lk rfl f4) Try.underlying49 ty5 hi31.1 fun a hE=>⟨Kept.refl _ _,_,_,rfl,hE,rfl⟩
     ·intro a w ux27 hE hM hp
      have f5 : ux27 5 = (ptr b1 (0 + ((bI j21)).toNat * 1)):=hp 0 _ rfl rfl
      exact Zu (v:=(vB x32)) hE Za ld (lk rfl f5) ty5 rfl (At.vec (hM.rawAt (pre:=[_,_])) hi31.2) fun a hE=>⟨Kept.refl _ _,_,_,rfl,hE,rfl⟩
     ·intro a w ux27 hE hM hp
      have f3 : ux27 3 = (vB x29):=hp 0 _ rfl rfl
      have f6 : ux27 6 = (vB x32):=hp 1 _ rfl rfl
      exact Zi hE Za ld (lk rfl f3) (lk rfl f6) (WE x29 x32) fun a hE=>⟨Kept.refl _ _,_,_,rfl,hE,rfl⟩
     ·intro a w ux27 hE hM hp
      have f0 : ux27 0 = (vI s10.2):=hp 0 _ rfl rfl
      exact Zg hE Za ld rfl (lk rfl f0) Try.underlying55 ty5 hi34.1 fun a hE=>⟨Kept.refl _ _,_,_,rfl,hE,rfl⟩
     ·intro a w ux27 hE hM hg
      have hE:=hE.sub (e':=[(31,(vB (x29 ^^^ x32))),(32,(ptr b3 (0 + (s10.2).toNat * 1))),(2,vI p2),(3,(ptr b1 0)),(4,(ptr b3 0)),(6,(ptr b5 0)),(7,vI s10.2),(8,vB j21)]) ⟨lk rfl (hg 7 (by decide)),lk rfl (hg 8 (by decide)),rfl,rfl,rfl,rfl,rfl,rfl,trivial⟩
      have hM:=hM.pull (pre:=[_])
      refine Zm (seg:=[(vB (x29 ^^^ x32))]) (cs':=enc (s10.1.setIfInBounds (s10.2).toNat (x29 ^^^ x32))) hE hM Za rfl rfl rfl ty5 rfl (ZE (v:=s10.1) (x:=x29 ^^^ x32) hi34.1) (Flat.cell (x29 ^^^ x32 : UInt8)) (Zs (v:=s10.1) (x:=x29 ^^^ x32) hi34.1) fun w a hM hE=>Zj (Yg ?_)
      have ht37:=Option.some.inj hF23
      subst ht37
      refine Zk ?_
      have hM:=((hM.pull (pre:=[_,_])).pull (pre:=[_])).pull (pre:=[_,_])
      exact ⟨hE.sub ⟨rfl,rfl,rfl,rfl,rfl,trivial⟩,hM⟩
   ·skip
    rintro a w ⟨hE,hM⟩
    refine wp_region_lit (Zd hE Za ld rfl fun a hE=>Zi hE Za ld rfl rfl rfl fun a hE=>Ze hE Za ld rfl fun a hE=>Zj (Zk ?_))
    exact ⟨_,(ois hF17),hE.sub ⟨rfl,rfl,rfl,rfl,rfl,trivial⟩,hM⟩
  ·intro hb14
   have hs11:=ZA hs11 hb14
   refine wp_exit (Zo (Zo (Yt ?_)))
   have ht38:=hx12 _ (ois hs11)
   subst ht38
   refine Zk ?_
   have hM:=M.fst (l:=[_,_]) ((hM.pull (pre:=[_])).pull (pre:=[_]))
   exact ⟨hE.sub ⟨rfl,rfl,trivial⟩,hM⟩
 ·skip
  rintro a w ⟨hE,hM⟩
  refine Zy (Zc (Zl (cs:=enc j7) hE Za ld rfl ZL rfl (hM.rawAt (pre:=[_])) (Flat.len _) fun a hE=>Zm (seg:=enc j7) (cs':=enc j7) hE hM Za rfl rfl rfl ZL (Flat.len _) (zle flq) (Flat.cell _) (Zn flq) fun w a hM hE=>Zf ?_))
  have hr:=Option.some.inj hF9
  subst hr
  have hq39 : Yy Try.prog _ _ (.cell 6 55) _:=ZX hE rfl ZL rfl (hM.rawAt (pre:=[])) (Flat.len _) rfl
  have hM:=M.fst (l:=[]) hM
  exact wp_ret (ZC hE rfl hq39 ⟨_,rfl,rfl,hM.kept⟩)
def Xl (p0 : GCipher) (p2 : Int) (s12 : (Vector UInt8 16) × (List (Vector UInt8 16)) × Int) : Option (Fl ((Vector UInt8 16) × (List (Vector UInt8 16)) × Int) (List (Vector UInt8 16))) :=
 if (decide (s12.2.2 ≤ p2)) = true then ((Wp p0.Box s12.1 s12.2.2).bind fun r19=>(app 16 s12.2.1 ([r19] : List (Vector UInt8 16))).bind fun l23=>some (Fl.nx (r19,(s12.2.1 ++ ([r19] : List (Vector UInt8 16))),wr (s12.2.2 + 1)))) else (some (Fl.ex s12.2.1))
def Wu (p0 : GCipher) (p1 : (Vector UInt8 16)) (p2 : Int) : Option ((List (Vector UInt8 16))) :=
 (ZD (Xl p0 p2) (p1,([p1] : List (Vector UInt8 16)),1)).bind fun j7=>some j7
theorem QB (w0 : World) (p0 : GCipher) (p1 : (Vector UInt8 16)) (p2 : Int) (r : (List (Vector UInt8 16))) (hF : Wu p0 p1 p2 = some r) :
  Calls Try.prog 116 [(Value.agg (enc p0).toArray),(Value.agg (enc p1).toArray),vI p2].toArray w0 (fun en w'=>∃ v,en = .returned v ∧ (∃ (y1 : Value),v = y1 ∧ Fr w0 w' [osl NoB (r : List (Vector UInt8 16)) y1] ∧ Kept (Old w0) w0 w')):=by
 refine ZB (n:=26) Try.func116 rfl rfl (nbl rfl) rfl ?_
 intro a hE
 have hM:=M.start w0
 unfold Wu at hF
 refine Zc (ZR (cs:=cat [[vI p0.Field],enc p0.Box,enc p0.Mix,enc p0.Places,[vI p0.Rounds]]) hE hM Za ld rfl rfl fun b1 w a hM hE=>ZR (cs:=enc p1) hE hM Za ld rfl rfl fun b3 w a hM hE=>Ze hE Za ld rfl fun a hE=>Zf (Zc (Zl (cs:=enc p1) hE Za ld rfl ZL rfl (hM.rawAt (pre:=[])) (Flat.len _) fun a hE=>Ti (xs:=[.tmp 9]) (l:=([p1] : List (Vector UInt8 16))) (vs:=[(Value.agg (enc p1).toArray)]) hE hM Za ld rfl rfl Try.underlying69 ZL rfl (by decide) rfl fun u5 w a hM hE=>Ze hE Za ld rfl fun a hE=>Zf (wp_seq (Zc (Ze hE Za ld rfl fun a hE=>Zf ?_))))))
 obtain ⟨j7,hl8,hF9⟩:=bind_some hF
 refine ZU (fun a w=>∃ (u10 : Value),Env 26 a [(7,u10)] ∧ M (Old w0) w0 w [osl NoB (j7 : List (Vector UInt8 16)) u10]) ?_ ?_
 ·skip
  refine wp_block ?_
  have hM:=(hM.pull (pre:=[_,_])).pull (pre:=[_,_])
  refine ZG (fun (s12 : (Vector UInt8 16) × (List (Vector UInt8 16)) × Int) a w=>∃ (u13 : Value),Env 26 a [(2,vI p2),(3,(ptr b1 0)),(4,(ptr b3 0)),(7,u13),(8,vI s12.2.2)] ∧ M (Old w0) w0 w [raw b3 (enc s12.1),raw b1 (cat [[vI p0.Field],enc p0.Box,enc p0.Mix,enc p0.Places,[vI p0.Rounds]]),osl NoB (s12.2.1 : List (Vector UInt8 16)) u13]) hl8 ⟨u5,hE.sub ⟨rfl,rfl,rfl,rfl,rfl,trivial⟩,hM⟩ ?_
  rintro s12 a w ⟨u13,hE,hM⟩ o17 hs15 hx16
  unfold Xl at hs15
  refine wp_seq (Zc (Zd hE Za ld rfl fun a hE=>Zd hE Za ld rfl fun a hE=>Zi hE Za ld rfl rfl rfl fun a hE=>Zf ?_))
  refine Zw hE rfl ?_ ?_
  ·intro hb18
   have hs15:=Zz hs15 hb18
   refine wp_skip (Zy (wp_seq (wp_block (Zc (Zp hE Za ld rfl (U1) fun a hE=>Zl (cs:=enc p0.Box) hE Za ld rfl Vl rfl (At.cat (pre:=[[vI p0.Field]]) (hM.rawAt (pre:=[_])) (cl1 (n:=1) (m:=0) rfl cl0)) (Flat.len _) fun a hE=>Zl (cs:=enc s12.1) hE Za ld rfl ZL rfl (hM.rawAt (pre:=[])) (Flat.len _) fun a hE=>Zd hE Za ld rfl ?_))))); intro a hE
   obtain ⟨r19,e20,hs15⟩:=bind_some hs15
   refine Zv hE Za ld rfl cb150 (Qu _ p0.Box s12.1 s12.2.2 r19 e20) ?_
   rintro v w a ⟨rfl,hK⟩ hE
   have hM:=hM.keep hK
   refine Zm (seg:=enc r19) (cs':=enc r19) hE hM Za rfl rfl rfl ZL (Flat.len _) (zle flq) (Flat.cell _) (Zn flq) fun w a hM hE=>Zf (wp_region_lit (Zd hE Za ld rfl fun a hE=>Zl (cs:=enc r19) hE Za ld rfl ZL rfl (hM.rawAt (pre:=[])) (Flat.len _) fun a hE=>Ti (xs:=[.tmp 22]) (l:=([r19] : List (Vector UInt8 16))) (vs:=[(Value.agg (enc r19).toArray)]) hE hM Za ld rfl rfl Try.underlying69 ZL rfl (by decide) rfl ?_)); intro u21 w a hM hE
   obtain ⟨l23,e24,hs15⟩:=bind_some hs15
   obtain ⟨e27,rfl⟩:=K8 e24
   have hM:=hM.pull (pre:=[_,_,_])
   refine Ko hE hM Za ld rfl rfl (hM.sl (pre:=[_]) noB) Try.underlying69 ZL rfl (by decide) e27 fun u25 w a hM hE=>Ze hE Za ld rfl fun a hE=>Zj (Yg (Zy (wp_region_lit (Zd hE Za ld rfl fun a hE=>Zi hE Za ld rfl rfl rfl fun a hE=>Ze hE Za ld rfl fun a hE=>Zj (Zk ?_)))))
   have hM:=M.fst (l:=[_,_,_]) ((hM.pull (pre:=[_,_,_])).pull (pre:=[_,_,_]))
   exact ⟨_,(ois hs15),u25,hE.sub ⟨rfl,rfl,rfl,rfl,rfl,trivial⟩,hM⟩
  ·intro hb18
   have hs15:=ZA hs15 hb18
   refine wp_exit (Zo (Zo (Yt ?_)))
   have ht28:=hx16 _ (ois hs15)
   subst ht28
   refine Zk ?_
   have hM:=M.fst (l:=[_]) (hM.pull (pre:=[_,_]))
   exact ⟨u13,hE.sub ⟨rfl,trivial⟩,hM⟩
 ·skip
  rintro a w ⟨u10,hE,hM⟩
  refine Zy (Zc (Zd hE Za ld rfl fun a hE=>Ze hE Za ld rfl fun a hE=>Zf ?_))
  have hr:=Option.some.inj hF9
  subst hr
  exact wp_ret (ZC hE rfl (Zx hE rfl) ⟨_,rfl,u10,rfl,hM.outF (HU KX),hM.kept⟩)
def XK (p1 : (Vector UInt8 16)) (s10 : (Vector UInt8 16) × Int) : Option (Fl ((Vector UInt8 16) × Int) (Vector UInt8 16)) :=
 if (decide (s10.2 < 16)) = true then ((Zq s10.1 s10.2).bind fun x17=>(Zq p1 s10.2).bind fun x20=>(Zq s10.1 s10.2).bind fun x23=>some (Fl.nx ((s10.1.setIfInBounds (s10.2).toNat (x17 ^^^ x20)),wr (s10.2 + 1)))) else (some (Fl.ex s10.1))
def X8 (p0 : (Vector UInt8 16)) (p1 : (Vector UInt8 16)) : Option ((Vector UInt8 16)) :=
 (ZD (XK p1) (p0,0)).bind fun j7=>some j7
theorem UI (w0 : World) (p0 : (Vector UInt8 16)) (p1 : (Vector UInt8 16)) (r : (Vector UInt8 16)) (hF : X8 p0 p1 = some r) :
  Calls Try.prog 118 [(Value.agg (enc p0).toArray),(Value.agg (enc p1).toArray)].toArray w0 (fun en w'=>∃ v,en = .returned v ∧ (v = (Value.agg (enc r).toArray) ∧ Kept (Old w0) w0 w')):=by
 refine ZB (n:=20) Try.func118 rfl rfl (nbl rfl) rfl ?_
 intro a hE
 have hM:=M.start w0
 unfold X8 at hF
 refine Zc (ZR (cs:=enc p0) hE hM Za ld rfl rfl fun b1 w a hM hE=>ZR (cs:=enc p1) hE hM Za ld rfl rfl fun b3 w a hM hE=>ZF hE hM Za ld ZL fun b5 w a hM hE=>Zf (wp_seq (Zc (Ze hE Za ld rfl fun a hE=>Zf ?_))))
 obtain ⟨j7,hl8,hF9⟩:=bind_some hF
 refine ZU (fun a w=>Env 20 a [(2,(ptr b1 0)),(4,(ptr b5 0))] ∧ M (Old w0) w0 w [raw b5 (enc (Vector.replicate 16 (0 : UInt8))),raw b1 (enc j7)]) ?_ ?_
 ·skip
  refine wp_block ?_
  refine ZG (fun (s10 : (Vector UInt8 16) × Int) a w=>Env 20 a [(2,(ptr b1 0)),(3,(ptr b3 0)),(4,(ptr b5 0)),(5,vI s10.2)] ∧ M (Old w0) w0 w [raw b5 (enc (Vector.replicate 16 (0 : UInt8))),raw b3 (enc p1),raw b1 (enc s10.1)]) hl8 ⟨hE.sub ⟨rfl,rfl,rfl,rfl,trivial⟩,hM⟩ ?_
  rintro s10 a w ⟨hE,hM⟩ o13 hs11 hx12
  unfold XK at hs11
  refine wp_seq (Zc (Zd hE Za ld rfl fun a hE=>Zi hE Za ld rfl rfl rfl fun a hE=>Zf ?_))
  refine Zw hE rfl ?_ ?_
  ·intro hb14
   have hs11:=Zz hs11 hb14
   refine wp_skip (Zy (wp_seq (wp_block ?_)))
   obtain ⟨x17,hi16,hs11⟩:=bvx hs11
   obtain ⟨x20,hi19,hs11⟩:=bvx hs11
   obtain ⟨x23,hi22,hs11⟩:=bvx hs11
   refine YA (n:=20) (hd:=[_,_,_,_,_,_,_,_,_]) (tl:=[_]) Wa rfl rfl [10,11,12,13,14,15,16,17,18] (by decide) (fun w=>M (Old w0) w0 w [raw b5 (enc (Vector.replicate 16 (0 : UInt8))),raw b3 (enc p1),raw b1 (enc s10.1)]) (fun j=>([fun v _=>v = (vI s10.2),fun v _=>v = (vI s10.2),fun v _=>v = (ptr b1 (0 + (s10.2).toNat * 1)),fun v _=>v = (vB x17),fun v _=>v = (vI s10.2),fun v _=>v = (ptr b3 (0 + (s10.2).toNat * 1)),fun v _=>v = (vB x20),fun v _=>v = (vB (x17 ^^^ x20)),fun v _=>v = (ptr b1 (0 + (s10.2).toNat * 1))] : List (Value → World → Prop)).getD j (fun _ _=>True)) (fun _ _ h hk=>h.keep hk) (gup (Zh (Zh (Zh (Zh (Zh (Zh (Zh (Zh (Zh W9)))))))))) hE hM.drew (ZP (Zb ?_ (Zb ?_ (Zb ?_ (Zb ?_ (Zb ?_ (Zb ?_ (Zb ?_ (Zb ?_ (Zb ?_ ZK)))))))))) ?_
   ·exact fun a w ux15 hE hM hp=>Zd hE Za ld rfl fun a hE=>⟨Kept.refl _ _,_,_,rfl,hE,rfl⟩
   ·exact fun a w ux15 hE hM hp=>Zd hE Za ld rfl fun a hE=>⟨Kept.refl _ _,_,_,rfl,hE,rfl⟩
   ·intro a w ux15 hE hM hp
    have f1 : ux15 1 = (vI s10.2):=hp 0 _ rfl rfl
    exact Zg hE Za ld rfl (lk rfl f1) Try.underlying55 ty5 hi16.1 fun a hE=>⟨Kept.refl _ _,_,_,rfl,hE,rfl⟩
   ·intro a w ux15 hE hM hp
    have f2 : ux15 2 = (ptr b1 (0 + (s10.2).toNat * 1)):=hp 0 _ rfl rfl
    exact Zu (v:=(vB x17)) hE Za ld (lk rfl f2) ty5 rfl (At.vec (hM.rawAt (pre:=[_,_])) hi16.2) fun a hE=>⟨Kept.refl _ _,_,_,rfl,hE,rfl⟩
   ·exact fun a w ux15 hE hM hp=>Zd hE Za ld rfl fun a hE=>⟨Kept.refl _ _,_,_,rfl,hE,rfl⟩
   ·intro a w ux15 hE hM hp
    have f4 : ux15 4 = (vI s10.2):=hp 0 _ rfl rfl
    exact Zg hE Za ld rfl (lk rfl f4) Try.underlying55 ty5 hi19.1 fun a hE=>⟨Kept.refl _ _,_,_,rfl,hE,rfl⟩
   ·intro a w ux15 hE hM hp
    have f5 : ux15 5 = (ptr b3 (0 + (s10.2).toNat * 1)):=hp 0 _ rfl rfl
    exact Zu (v:=(vB x20)) hE Za ld (lk rfl f5) ty5 rfl (At.vec (hM.rawAt (pre:=[_])) hi19.2) fun a hE=>⟨Kept.refl _ _,_,_,rfl,hE,rfl⟩
   ·intro a w ux15 hE hM hp
    have f3 : ux15 3 = (vB x17):=hp 0 _ rfl rfl
    have f6 : ux15 6 = (vB x20):=hp 1 _ rfl rfl
    exact Zi hE Za ld (lk rfl f3) (lk rfl f6) (WE x17 x20) fun a hE=>⟨Kept.refl _ _,_,_,rfl,hE,rfl⟩
   ·intro a w ux15 hE hM hp
    have f0 : ux15 0 = (vI s10.2):=hp 0 _ rfl rfl
    exact Zg hE Za ld rfl (lk rfl f0) Try.underlying55 ty5 hi22.1 fun a hE=>⟨Kept.refl _ _,_,_,rfl,hE,rfl⟩
   ·intro a w ux15 hE hM hg
    have hE:=hE.sub (e':=[(17,(vB (x17 ^^^ x20))),(18,(ptr b1 (0 + (s10.2).toNat * 1))),(2,(ptr b1 0)),(3,(ptr b3 0)),(4,(ptr b5 0)),(5,vI s10.2),(6,vI s10.2),(7,(vT (decide (s10.2 < 16))))]) ⟨lk rfl (hg 7 (by decide)),lk rfl (hg 8 (by decide)),rfl,rfl,rfl,rfl,rfl,rfl,trivial⟩
    have hM:=hM.pull (pre:=[_,_])
    refine Zm (seg:=[(vB (x17 ^^^ x20))]) (cs':=enc (s10.1.setIfInBounds (s10.2).toNat (x17 ^^^ x20))) hE hM Za rfl rfl rfl ty5 rfl (ZE (v:=s10.1) (x:=x17 ^^^ x20) hi22.1) (Flat.cell (x17 ^^^ x20 : UInt8)) (Zs (v:=s10.1) (x:=x17 ^^^ x20) hi22.1) fun w a hM hE=>Zj (Yg (Zy (wp_region_lit (Zd hE Za ld rfl fun a hE=>Zi hE Za ld rfl rfl rfl fun a hE=>Ze hE Za ld rfl fun a hE=>Zj (Zk ?_)))))
    have hM:=(hM.pull (pre:=[_,_])).pull (pre:=[_,_])
    exact ⟨_,(ois hs11),hE.sub ⟨rfl,rfl,rfl,rfl,trivial⟩,hM⟩
  ·intro hb14
   have hs11:=ZA hs11 hb14
   refine wp_exit (Zo (Zo (Yt ?_)))
   have ht25:=hx12 _ (ois hs11)
   subst ht25
   refine Zk ?_
   have hM:=M.fst (l:=[_,_]) ((hM.pull (pre:=[_,_])).pull (pre:=[_]))
   exact ⟨hE.sub ⟨rfl,rfl,trivial⟩,hM⟩
 ·skip
  rintro a w ⟨hE,hM⟩
  refine Zy (Zc (Zl (cs:=enc j7) hE Za ld rfl ZL rfl (hM.rawAt (pre:=[_])) (Flat.len _) fun a hE=>Zm (seg:=enc j7) (cs':=enc j7) hE hM Za rfl rfl rfl ZL (Flat.len _) (zle flq) (Flat.cell _) (Zn flq) fun w a hM hE=>Zf ?_))
  have hr:=Option.some.inj hF9
  subst hr
  have hq26 : Yy Try.prog _ _ (.cell 4 55) _:=ZX hE rfl ZL rfl (hM.rawAt (pre:=[])) (Flat.len _) rfl
  have hM:=M.fst (l:=[]) hM
  exact wp_ret (ZC hE rfl hq26 ⟨_,rfl,rfl,hM.kept⟩)
def Y5 (p0 : (Vector UInt8 256)) (s10 : (Vector UInt8 16) × Int) : Option (Fl ((Vector UInt8 16) × Int) (Vector UInt8 16)) :=
 if (decide (s10.2 < 16)) = true then ((Zq s10.1 s10.2).bind fun x16=>(Zq p0 (bI x16)).bind fun x19=>(Zq s10.1 s10.2).bind fun x22=>some (Fl.nx ((s10.1.setIfInBounds (s10.2).toNat x19),wr (s10.2 + 1)))) else (some (Fl.ex s10.1))
def X4 (p0 : (Vector UInt8 256)) (p1 : (Vector UInt8 16)) : Option ((Vector UInt8 16)) :=
 (ZD (Y5 p0) (p1,0)).bind fun j7=>some j7
theorem Qb (w0 : World) (p0 : (Vector UInt8 256)) (p1 : (Vector UInt8 16)) (r : (Vector UInt8 16)) (hF : X4 p0 p1 = some r) :
  Calls Try.prog 120 [(Value.agg (enc p0).toArray),(Value.agg (enc p1).toArray)].toArray w0 (fun en w'=>∃ v,en = .returned v ∧ (v = (Value.agg (enc r).toArray) ∧ Kept (Old w0) w0 w')):=by
 refine ZB (n:=18) Try.func120 rfl rfl (nbl rfl) rfl ?_
 intro a hE
 have hM:=M.start w0
 unfold X4 at hF
 refine Zc (ZR (cs:=enc p0) hE hM Za ld rfl rfl fun b1 w a hM hE=>ZR (cs:=enc p1) hE hM Za ld rfl rfl fun b3 w a hM hE=>ZF hE hM Za ld ZL fun b5 w a hM hE=>Zf (wp_seq (Zc (Ze hE Za ld rfl fun a hE=>Zf ?_))))
 obtain ⟨j7,hl8,hF9⟩:=bind_some hF
 refine ZU (fun a w=>Env 18 a [(3,(ptr b3 0)),(4,(ptr b5 0))] ∧ M (Old w0) w0 w [raw b5 (enc (Vector.replicate 16 (0 : UInt8))),raw b3 (enc j7)]) ?_ ?_
 ·skip
  refine wp_block ?_
  refine ZG (fun (s10 : (Vector UInt8 16) × Int) a w=>Env 18 a [(2,(ptr b1 0)),(3,(ptr b3 0)),(4,(ptr b5 0)),(5,vI s10.2)] ∧ M (Old w0) w0 w [raw b5 (enc (Vector.replicate 16 (0 : UInt8))),raw b3 (enc s10.1),raw b1 (enc p0)]) hl8 ⟨hE.sub ⟨rfl,rfl,rfl,rfl,trivial⟩,hM⟩ ?_
  rintro s10 a w ⟨hE,hM⟩ o13 hs11 hx12
  unfold Y5 at hs11
  refine wp_seq (Zc (Zd hE Za ld rfl fun a hE=>Zi hE Za ld rfl rfl rfl fun a hE=>Zf ?_))
  refine Zw hE rfl ?_ ?_
  ·intro hb14
   have hs11:=Zz hs11 hb14
   refine wp_skip (Zy (wp_seq (wp_block (wp_region_lit (Zd hE Za ld rfl fun a hE=>Zd hE Za ld rfl ?_))))); intro a hE
   obtain ⟨x16,hi15,hs11⟩:=bvx hs11
   refine Zg hE Za ld rfl rfl Try.underlying55 ty5 hi15.1 fun a hE=>Zu (v:=(vB x16)) hE Za ld rfl ty5 rfl (At.vec (hM.rawAt (pre:=[_])) hi15.2) ?_; intro a hE
   obtain ⟨x19,hi18,hs11⟩:=bvx hs11
   refine Zg hE Za ld rfl rfl Try.underlying49 ty5 hi18.1 fun a hE=>Zu (v:=(vB x19)) hE Za ld rfl ty5 rfl (At.vec (hM.rawAt (pre:=[_,_])) hi18.2) ?_; intro a hE
   obtain ⟨x22,hi21,hs11⟩:=bvx hs11
   refine Zg hE Za ld rfl rfl Try.underlying55 ty5 hi21.1 ?_; intro a hE
   have hM:=hM.pull (pre:=[_])
   refine Zm (seg:=[vB x19]) (cs':=enc (s10.1.setIfInBounds (s10.2).toNat x19)) hE hM Za rfl rfl rfl ty5 rfl (ZE (v:=s10.1) (x:=x19) hi21.1) (Flat.cell (x19 : UInt8)) (Zs (v:=s10.1) (x:=x19) hi21.1) fun w a hM hE=>Zj (Yg (Zy (wp_region_lit (Zd hE Za ld rfl fun a hE=>Zi hE Za ld rfl rfl rfl fun a hE=>Ze hE Za ld rfl fun a hE=>Zj (Zk ?_)))))
   have hM:=((hM.pull (pre:=[_,_])).pull (pre:=[_])).pull (pre:=[_,_])
   exact ⟨_,(ois hs11),hE.sub ⟨rfl,rfl,rfl,rfl,trivial⟩,hM⟩
  ·intro hb14
   have hs11:=ZA hs11 hb14
   refine wp_exit (Zo (Zo (Yt ?_)))
   have ht24:=hx12 _ (ois hs11)
   subst ht24
   refine Zk ?_
   have hM:=M.fst (l:=[_,_]) ((hM.pull (pre:=[_])).pull (pre:=[_]))
   exact ⟨hE.sub ⟨rfl,rfl,trivial⟩,hM⟩
 ·skip
  rintro a w ⟨hE,hM⟩
  refine Zy (Zc (Zl (cs:=enc j7) hE Za ld rfl ZL rfl (hM.rawAt (pre:=[_])) (Flat.len _) fun a hE=>Zm (seg:=enc j7) (cs':=enc j7) hE hM Za rfl rfl rfl ZL (Flat.len _) (zle flq) (Flat.cell _) (Zn flq) fun w a hM hE=>Zf ?_))
  have hr:=Option.some.inj hF9
  subst hr
  have hq25 : Yy Try.prog _ _ (.cell 4 55) _:=ZX hE rfl ZL rfl (hM.rawAt (pre:=[])) (Flat.len _) rfl
  have hM:=M.fst (l:=[]) hM
  exact wp_ret (ZC hE rfl hq25 ⟨_,rfl,rfl,hM.kept⟩)
def Xm (p0 : (Vector UInt8 16)) (p1 : (Vector UInt8 16)) (s12 : (Vector UInt8 16) × Int) : Option (Fl ((Vector UInt8 16) × Int) (Vector UInt8 16)) :=
 if (decide (s12.2 < 16)) = true then ((Zq p0 s12.2).bind fun x18=>(Zq p1 (bI x18)).bind fun x21=>(Zq s12.1 s12.2).bind fun x24=>some (Fl.nx ((s12.1.setIfInBounds (s12.2).toNat x21),wr (s12.2 + 1)))) else (some (Fl.ex s12.1))
def Wo (p0 : (Vector UInt8 16)) (p1 : (Vector UInt8 16)) : Option ((Vector UInt8 16)) :=
 (ZD (Xm p0 p1) ((Vector.replicate 16 (0 : UInt8)),0)).bind fun j9=>some j9
theorem QU (w0 : World) (p0 : (Vector UInt8 16)) (p1 : (Vector UInt8 16)) (r : (Vector UInt8 16)) (hF : Wo p0 p1 = some r) :
  Calls Try.prog 122 [(Value.agg (enc p0).toArray),(Value.agg (enc p1).toArray)].toArray w0 (fun en w'=>∃ v,en = .returned v ∧ (v = (Value.agg (enc r).toArray) ∧ Kept (Old w0) w0 w')):=by
 refine ZB (n:=20) Try.func122 rfl rfl (nbl rfl) rfl ?_
 intro a hE
 have hM:=M.start w0
 unfold Wo at hF
 refine Zc (ZR (cs:=enc p0) hE hM Za ld rfl rfl fun b1 w a hM hE=>ZR (cs:=enc p1) hE hM Za ld rfl rfl fun b3 w a hM hE=>ZF hE hM Za ld ZL fun b5 w a hM hE=>Zf (Zc (Y8 (parts:=[]) (vs:=[]) (cs:=enc (Vector.replicate 16 (0 : UInt8))) hE Za ld rfl rfl ZL rfl ty5 YB fun a hE=>ZF hE hM Za ld ZL fun b7 w a hM hE=>Zm (seg:=enc (Vector.replicate 16 (0 : UInt8))) (cs':=enc (Vector.replicate 16 (0 : UInt8))) hE hM Za rfl rfl rfl ZL (Flat.len _) (zle flq) (Flat.cell _) (Zn flq) fun w a hM hE=>Zf (wp_seq (Zc (Ze hE Za ld rfl fun a hE=>Zf ?_))))))
 obtain ⟨j9,hl10,hF11⟩:=bind_some hF
 refine ZU (fun a w=>Env 20 a [(4,(ptr b5 0)),(5,(ptr b7 0))] ∧ M (Old w0) w0 w [raw b7 (enc j9),raw b5 (enc (Vector.replicate 16 (0 : UInt8)))]) ?_ ?_
 ·skip
  refine wp_block ?_
  refine ZG (fun (s12 : (Vector UInt8 16) × Int) a w=>Env 20 a [(2,(ptr b1 0)),(3,(ptr b3 0)),(4,(ptr b5 0)),(5,(ptr b7 0)),(6,vI s12.2)] ∧ M (Old w0) w0 w [raw b7 (enc s12.1),raw b5 (enc (Vector.replicate 16 (0 : UInt8))),raw b3 (enc p1),raw b1 (enc p0)]) hl10 ⟨hE.sub ⟨rfl,rfl,rfl,rfl,rfl,trivial⟩,hM⟩ ?_
  rintro s12 a w ⟨hE,hM⟩ o15 hs13 hx14
  unfold Xm at hs13
  refine wp_seq (Zc (Zd hE Za ld rfl fun a hE=>Zi hE Za ld rfl rfl rfl fun a hE=>Zf ?_))
  refine Zw hE rfl ?_ ?_
  ·intro hb16
   have hs13:=Zz hs13 hb16
   refine wp_skip (Zy (wp_seq (wp_block (wp_region_lit (Zd hE Za ld rfl fun a hE=>Zd hE Za ld rfl ?_))))); intro a hE
   obtain ⟨x18,hi17,hs13⟩:=bvx hs13
   refine Zg hE Za ld rfl rfl Try.underlying51 ty5 hi17.1 fun a hE=>Zu (v:=(vB x18)) hE Za ld rfl ty5 rfl (At.vec (hM.rawAt (pre:=[_,_,_])) hi17.2) ?_; intro a hE
   obtain ⟨x21,hi20,hs13⟩:=bvx hs13
   refine Zg hE Za ld rfl rfl Try.underlying55 ty5 hi20.1 fun a hE=>Zu (v:=(vB x21)) hE Za ld rfl ty5 rfl (At.vec (hM.rawAt (pre:=[_,_])) hi20.2) ?_; intro a hE
   obtain ⟨x24,hi23,hs13⟩:=bvx hs13
   refine Zg hE Za ld rfl rfl Try.underlying55 ty5 hi23.1 fun a hE=>Zm (seg:=[vB x21]) (cs':=enc (s12.1.setIfInBounds (s12.2).toNat x21)) hE hM Za rfl rfl rfl ty5 rfl (ZE (v:=s12.1) (x:=x21) hi23.1) (Flat.cell (x21 : UInt8)) (Zs (v:=s12.1) (x:=x21) hi23.1) fun w a hM hE=>Zj (Yg (Zy (wp_region_lit (Zd hE Za ld rfl fun a hE=>Zi hE Za ld rfl rfl rfl fun a hE=>Ze hE Za ld rfl fun a hE=>Zj (Zk ?_)))))
   exact ⟨_,(ois hs13),hE.sub ⟨rfl,rfl,rfl,rfl,rfl,trivial⟩,hM⟩
  ·intro hb16
   have hs13:=ZA hs13 hb16
   refine wp_exit (Zo (Zo (Yt ?_)))
   have ht26:=hx14 _ (ois hs13)
   subst ht26
   refine Zk ?_
   have hM:=M.fst (l:=[_,_]) ((hM.pull (pre:=[_])).pull (pre:=[_]))
   exact ⟨hE.sub ⟨rfl,rfl,trivial⟩,hM⟩
 ·skip
  rintro a w ⟨hE,hM⟩
  refine Zy (Zc (Zl (cs:=enc j9) hE Za ld rfl ZL rfl (hM.rawAt (pre:=[])) (Flat.len _) ?_)); intro a hE
  have hM:=hM.pull (pre:=[_])
  refine Zm (seg:=enc j9) (cs':=enc j9) hE hM Za rfl rfl rfl ZL (Flat.len _) (zle flq) (Flat.cell _) (Zn flq) fun w a hM hE=>Zf ?_
  have hr:=Option.some.inj hF11
  subst hr
  have hq27 : Yy Try.prog _ _ (.cell 4 55) _:=ZX hE rfl ZL rfl (hM.rawAt (pre:=[])) (Flat.len _) rfl
  have hM:=M.fst (l:=[]) hM
  exact wp_ret (ZC hE rfl hq27 ⟨_,rfl,rfl,hM.kept⟩)
def YJ (p0 : Int) (p1 : (Vector (Vector UInt8 4) 4)) (p2 : (Vector UInt8 16)) (s12 : (Vector UInt8 16) × Int) (s20 : (Vector UInt8 16) × Int) (s28 : (Vector UInt8 16) × Int) : Option (Fl ((Vector UInt8 16) × Int) (Vector UInt8 16)) :=
 if (decide (s28.2 < 4)) = true then ((Zq s28.1 (wr ((wr (4 * s12.2)) + s20.2))).bind fun x35=>(Zq p1 s20.2).bind fun x38=>(Zq x38 s28.2).bind fun x41=>(Zq p2 (wr ((wr (4 * s12.2)) + s28.2))).bind fun x44=>(ZW p0 x41 x44).bind fun r46=>(Zq s28.1 (wr ((wr (4 * s12.2)) + s20.2))).bind fun x49=>some (Fl.nx ((s28.1.setIfInBounds ((wr ((wr (4 * s12.2)) + s20.2))).toNat (x35 ^^^ r46)),wr (s28.2 + 1)))) else (some (Fl.ex s28.1))
def XR (p0 : Int) (p1 : (Vector (Vector UInt8 4) 4)) (p2 : (Vector UInt8 16)) (s12 : (Vector UInt8 16) × Int) (s20 : (Vector UInt8 16) × Int) : Option (Fl ((Vector UInt8 16) × Int) (Vector UInt8 16)) :=
 if (decide (s20.2 < 4)) = true then ((ZD (YJ p0 p1 p2 s12 s20) (s20.1,0)).bind fun j25=>some (Fl.nx (j25,wr (s20.2 + 1)))) else (some (Fl.ex s20.1))
def XN (p0 : Int) (p1 : (Vector (Vector UInt8 4) 4)) (p2 : (Vector UInt8 16)) (s12 : (Vector UInt8 16) × Int) : Option (Fl ((Vector UInt8 16) × Int) (Vector UInt8 16)) :=
 if (decide (s12.2 < 4)) = true then ((ZD (XR p0 p1 p2 s12) (s12.1,0)).bind fun j17=>some (Fl.nx (j17,wr (s12.2 + 1)))) else (some (Fl.ex s12.1))
def WG (p0 : Int) (p1 : (Vector (Vector UInt8 4) 4)) (p2 : (Vector UInt8 16)) : Option ((Vector UInt8 16)) :=
 (ZD (XN p0 p1 p2) ((Vector.replicate 16 (0 : UInt8)),0)).bind fun j9=>some j9
theorem Ka (w0 : World) (p0 : Int) (p1 : (Vector (Vector UInt8 4) 4)) (p2 : (Vector UInt8 16)) (r : (Vector UInt8 16)) (hF : WG p0 p1 p2 = some r) :
  Calls Try.prog 119 [vI p0,(Value.agg (enc p1).toArray),(Value.agg (enc p2).toArray)].toArray w0 (fun en w'=>∃ v,en = .returned v ∧ (v = (Value.agg (enc r).toArray) ∧ Kept (Old w0) w0 w')):=by
 refine ZB (n:=50) Try.func119 rfl rfl (nbl rfl) rfl ?_
 intro a hE
 have hM:=M.start w0
 unfold WG at hF
 refine Zc (ZR (cs:=enc p1) hE hM Za ld rfl rfl fun b1 w a hM hE=>ZR (cs:=enc p2) hE hM Za ld rfl rfl fun b3 w a hM hE=>ZF hE hM Za ld ZL fun b5 w a hM hE=>Zf (Zc (Y8 (parts:=[]) (vs:=[]) (cs:=enc (Vector.replicate 16 (0 : UInt8))) hE Za ld rfl rfl ZL rfl ty5 YB fun a hE=>ZF hE hM Za ld ZL fun b7 w a hM hE=>Zm (seg:=enc (Vector.replicate 16 (0 : UInt8))) (cs':=enc (Vector.replicate 16 (0 : UInt8))) hE hM Za rfl rfl rfl ZL (Flat.len _) (zle flq) (Flat.cell _) (Zn flq) fun w a hM hE=>Zf (wp_seq (Zc (Ze hE Za ld rfl fun a hE=>Zf ?_))))))
 obtain ⟨j9,hl10,hF11⟩:=bind_some hF
 refine ZU (fun a w=>Env 50 a [(6,(ptr b5 0)),(7,(ptr b7 0))] ∧ M (Old w0) w0 w [raw b7 (enc j9),raw b5 (enc (Vector.replicate 16 (0 : UInt8)))]) ?_ ?_
 ·skip
  refine wp_block ?_
  refine ZG (fun (s12 : (Vector UInt8 16) × Int) a w=>Env 50 a [(0,vI p0),(4,(ptr b1 0)),(5,(ptr b3 0)),(6,(ptr b5 0)),(7,(ptr b7 0)),(8,vI s12.2)] ∧ M (Old w0) w0 w [raw b7 (enc s12.1),raw b5 (enc (Vector.replicate 16 (0 : UInt8))),raw b3 (enc p2),raw b1 (enc p1)]) hl10 ⟨hE.sub ⟨rfl,rfl,rfl,rfl,rfl,rfl,trivial⟩,hM⟩ ?_
  rintro s12 a w ⟨hE,hM⟩ o15 hs13 hx14
  unfold XN at hs13
  refine wp_seq (Zc (Zd hE Za ld rfl fun a hE=>Zi hE Za ld rfl rfl rfl fun a hE=>Zf ?_))
  refine Zw hE rfl ?_ ?_
  ·intro hb16
   have hs13:=Zz hs13 hb16
   refine wp_skip (Zy (wp_seq (wp_block (Zc (Ze hE Za ld rfl fun a hE=>Zf ?_)))))
   obtain ⟨j17,hl18,hF19⟩:=bind_some hs13
   refine ZU (fun a w=>Env 50 a [(0,vI p0),(4,(ptr b1 0)),(5,(ptr b3 0)),(6,(ptr b5 0)),(7,(ptr b7 0)),(8,vI s12.2)] ∧ M (Old w0) w0 w [raw b7 (enc j17),raw b5 (enc (Vector.replicate 16 (0 : UInt8))),raw b3 (enc p2),raw b1 (enc p1)]) ?_ ?_
   ·skip
    refine wp_block ?_
    refine ZG (fun (s20 : (Vector UInt8 16) × Int) a w=>Env 50 a [(0,vI p0),(4,(ptr b1 0)),(5,(ptr b3 0)),(6,(ptr b5 0)),(7,(ptr b7 0)),(8,vI s12.2),(9,vI s20.2)] ∧ M (Old w0) w0 w [raw b7 (enc s20.1),raw b5 (enc (Vector.replicate 16 (0 : UInt8))),raw b3 (enc p2),raw b1 (enc p1)]) hl18 ⟨hE.sub ⟨rfl,rfl,rfl,rfl,rfl,rfl,rfl,trivial⟩,hM⟩ ?_
    rintro s20 a w ⟨hE,hM⟩ o23 hs21 hx22
    unfold XR at hs21
    refine wp_seq (Zc (Zd hE Za ld rfl fun a hE=>Zi hE Za ld rfl rfl rfl fun a hE=>Zf ?_))
    refine Zw hE rfl ?_ ?_
    ·intro hb24
     have hs21:=Zz hs21 hb24
     refine wp_skip (Zy (wp_seq (wp_block (Zc (Ze hE Za ld rfl fun a hE=>Zf ?_)))))
     obtain ⟨j25,hl26,hF27⟩:=bind_some hs21
     refine ZU (fun a w=>Env 50 a [(0,vI p0),(4,(ptr b1 0)),(5,(ptr b3 0)),(6,(ptr b5 0)),(7,(ptr b7 0)),(8,vI s12.2),(9,vI s20.2)] ∧ M (Old w0) w0 w [raw b7 (enc j25),raw b5 (enc (Vector.replicate 16 (0 : UInt8))),raw b3 (enc p2),raw b1 (enc p1)]) ?_ ?_
     ·skip
      refine wp_block ?_
      refine ZG (fun (s28 : (Vector UInt8 16) × Int) a w=>Env 50 a [(0,vI p0),(4,(ptr b1 0)),(5,(ptr b3 0)),(6,(ptr b5 0)),(7,(ptr b7 0)),(8,vI s12.2),(9,vI s20.2),(10,vI s28.2)] ∧ M (Old w0) w0 w [raw b7 (enc s28.1),raw b5 (enc (Vector.replicate 16 (0 : UInt8))),raw b3 (enc p2),raw b1 (enc p1)]) hl26 ⟨hE.sub ⟨rfl,rfl,rfl,rfl,rfl,rfl,rfl,rfl,trivial⟩,hM⟩ ?_
      rintro s28 a w ⟨hE,hM⟩ o31 hs29 hx30
      unfold YJ at hs29
      refine wp_seq (Zc (Zd hE Za ld rfl fun a hE=>Zi hE Za ld rfl rfl rfl fun a hE=>Zf ?_))
      refine Zw hE rfl ?_ ?_
      ·intro hb32
       have hs29:=Zz hs29 hb32
       refine wp_skip (Zy (wp_seq (wp_block ?_)))
       obtain ⟨x35,hi34,hs29⟩:=bvx hs29
       obtain ⟨x38,hi37,hs29⟩:=bvx hs29
       obtain ⟨x41,hi40,hs29⟩:=bvx hs29
       obtain ⟨x44,hi43,hs29⟩:=bvx hs29
       obtain ⟨r46,e47,hs29⟩:=bind_some hs29
       obtain ⟨x49,hi48,hs29⟩:=bvx hs29
       refine YA (n:=50) (hd:=[_,_,_,_,_,_,_,_,_,_,_,_,_,_,_,_,_,_,_,_,_,_,_,_,_]) (tl:=[_]) Wa rfl rfl [24,25,26,27,28,29,30,31,32,33,34,35,36,37,38,39,40,41,42,43,44,45,46,47,48] (by decide) (fun w=>M (Old w0) w0 w [raw b7 (enc s28.1),raw b5 (enc (Vector.replicate 16 (0 : UInt8))),raw b3 (enc p2),raw b1 (enc p1)]) (fun j=>([fun v _=>v = (vI s12.2),fun v _=>v = (vI (wr (4 * s12.2))),fun v _=>v = (vI s20.2),fun v _=>v = (vI (wr ((wr (4 * s12.2)) + s20.2))),fun v _=>v = (vI s12.2),fun v _=>v = (vI (wr (4 * s12.2))),fun v _=>v = (vI s20.2),fun v _=>v = (vI (wr ((wr (4 * s12.2)) + s20.2))),fun v _=>v = (ptr b7 (0 + ((wr ((wr (4 * s12.2)) + s20.2))).toNat * 1)),fun v _=>v = (vB x35),fun v _=>v = (vI p0),fun v _=>v = (vI s20.2),fun v _=>v = (vI s28.2),fun v _=>v = (ptr b1 (0 + (s20.2).toNat * 4)),fun v _=>v = (ptr b1 (0 + (s20.2).toNat * 4 + (s28.2).toNat * 1)),fun v _=>v = (vB x41),fun v _=>v = (vI s12.2),fun v _=>v = (vI (wr (4 * s12.2))),fun v _=>v = (vI s28.2),fun v _=>v = (vI (wr ((wr (4 * s12.2)) + s28.2))),fun v _=>v = (ptr b3 (0 + ((wr ((wr (4 * s12.2)) + s28.2))).toNat * 1)),fun v _=>v = (vB x44),fun v _=>v = (vB r46),fun v _=>v = (vB (x35 ^^^ r46)),fun v _=>v = (ptr b7 (0 + ((wr ((wr (4 * s12.2)) + s20.2))).toNat * 1))] : List (Value → World → Prop)).getD j (fun _ _=>True)) (fun _ _ h hk=>h.keep hk) (gup (Zh (Zh (Zh (Zh (Zh (Zh (Zh (Zh (Zh (Zh (Zh (Zh (Zh (Zh (Zh (Zh (Zh (Zh (Zh (Zh (Zh (Zh (Zh (Zh (Zh W9)))))))))))))))))))))))))) hE hM.drew (ZP (Zb ?_ (Zb ?_ (Zb ?_ (Zb ?_ (Zb ?_ (Zb ?_ (Zb ?_ (Zb ?_ (Zb ?_ (Zb ?_ (Zb ?_ (Zb ?_ (Zb ?_ (Zb ?_ (Zb ?_ (Zb ?_ (Zb ?_ (Zb ?_ (Zb ?_ (Zb ?_ (Zb ?_ (Zb ?_ (Zb ?_ (Zb ?_ (Zb ?_ ZK)))))))))))))))))))))))))) ?_
       ·exact fun a w ux33 hE hM hp=>Zd hE Za ld rfl fun a hE=>⟨Kept.refl _ _,_,_,rfl,hE,rfl⟩
       ·intro a w ux33 hE hM hp
        have f0 : ux33 0 = (vI s12.2):=hp 0 _ rfl rfl
        exact Zi hE Za ld rfl (lk rfl f0) rfl fun a hE=>⟨Kept.refl _ _,_,_,rfl,hE,rfl⟩
       ·exact fun a w ux33 hE hM hp=>Zd hE Za ld rfl fun a hE=>⟨Kept.refl _ _,_,_,rfl,hE,rfl⟩
       ·intro a w ux33 hE hM hp
        have f1 : ux33 1 = (vI (wr (4 * s12.2))):=hp 0 _ rfl rfl
        have f2 : ux33 2 = (vI s20.2):=hp 1 _ rfl rfl
        exact Zi hE Za ld (lk rfl f1) (lk rfl f2) rfl fun a hE=>⟨Kept.refl _ _,_,_,rfl,hE,rfl⟩
       ·exact fun a w ux33 hE hM hp=>Zd hE Za ld rfl fun a hE=>⟨Kept.refl _ _,_,_,rfl,hE,rfl⟩
       ·intro a w ux33 hE hM hp
        have f4 : ux33 4 = (vI s12.2):=hp 0 _ rfl rfl
        exact Zi hE Za ld rfl (lk rfl f4) rfl fun a hE=>⟨Kept.refl _ _,_,_,rfl,hE,rfl⟩
       ·exact fun a w ux33 hE hM hp=>Zd hE Za ld rfl fun a hE=>⟨Kept.refl _ _,_,_,rfl,hE,rfl⟩
       ·intro a w ux33 hE hM hp
        have f5 : ux33 5 = (vI (wr (4 * s12.2))):=hp 0 _ rfl rfl
        have f6 : ux33 6 = (vI s20.2):=hp 1 _ rfl rfl
        exact Zi hE Za ld (lk rfl f5) (lk rfl f6) rfl fun a hE=>⟨Kept.refl _ _,_,_,rfl,hE,rfl⟩
       ·intro a w ux33 hE hM hp
        have f7 : ux33 7 = (vI (wr ((wr (4 * s12.2)) + s20.2))):=hp 0 _ rfl rfl
        exact Zg hE Za ld rfl (lk rfl f7) Try.underlying55 ty5 hi34.1 fun a hE=>⟨Kept.refl _ _,_,_,rfl,hE,rfl⟩
       ·intro a w ux33 hE hM hp
        have f8 : ux33 8 = (ptr b7 (0 + ((wr ((wr (4 * s12.2)) + s20.2))).toNat * 1)):=hp 0 _ rfl rfl
        exact Zu (v:=(vB x35)) hE Za ld (lk rfl f8) ty5 rfl (At.vec (hM.rawAt (pre:=[])) hi34.2) fun a hE=>⟨Kept.refl _ _,_,_,rfl,hE,rfl⟩
       ·exact fun a w ux33 hE hM hp=>Zd hE Za ld rfl fun a hE=>⟨Kept.refl _ _,_,_,rfl,hE,rfl⟩
       ·exact fun a w ux33 hE hM hp=>Zd hE Za ld rfl fun a hE=>⟨Kept.refl _ _,_,_,rfl,hE,rfl⟩
       ·exact fun a w ux33 hE hM hp=>Zd hE Za ld rfl fun a hE=>⟨Kept.refl _ _,_,_,rfl,hE,rfl⟩
       ·intro a w ux33 hE hM hp
        have f11 : ux33 11 = (vI s20.2):=hp 0 _ rfl rfl
        exact Zg hE Za ld rfl (lk rfl f11) Try.underlying50 ZV hi37.1 fun a hE=>⟨Kept.refl _ _,_,_,rfl,hE,rfl⟩
       ·intro a w ux33 hE hM hp
        have f12 : ux33 12 = (vI s28.2):=hp 1 _ rfl rfl
        have f13 : ux33 13 = (ptr b1 (0 + (s20.2).toNat * 4)):=hp 0 _ rfl rfl
        exact Zg hE Za ld (lk rfl f13) (lk rfl f12) Try.underlying42 ty5 hi40.1 fun a hE=>⟨Kept.refl _ _,_,_,rfl,hE,rfl⟩
       ·intro a w ux33 hE hM hp
        have f14 : ux33 14 = (ptr b1 (0 + (s20.2).toNat * 4 + (s28.2).toNat * 1)):=hp 0 _ rfl rfl
        exact Zu (v:=(vB x41)) hE Za ld (lk rfl f14) ty5 rfl (At.vec (At.vec (hM.rawAt (pre:=[_,_,_])) hi37.2) hi40.2) fun a hE=>⟨Kept.refl _ _,_,_,rfl,hE,rfl⟩
       ·exact fun a w ux33 hE hM hp=>Zd hE Za ld rfl fun a hE=>⟨Kept.refl _ _,_,_,rfl,hE,rfl⟩
       ·intro a w ux33 hE hM hp
        have f16 : ux33 16 = (vI s12.2):=hp 0 _ rfl rfl
        exact Zi hE Za ld rfl (lk rfl f16) rfl fun a hE=>⟨Kept.refl _ _,_,_,rfl,hE,rfl⟩
       ·exact fun a w ux33 hE hM hp=>Zd hE Za ld rfl fun a hE=>⟨Kept.refl _ _,_,_,rfl,hE,rfl⟩
       ·intro a w ux33 hE hM hp
        have f17 : ux33 17 = (vI (wr (4 * s12.2))):=hp 0 _ rfl rfl
        have f18 : ux33 18 = (vI s28.2):=hp 1 _ rfl rfl
        exact Zi hE Za ld (lk rfl f17) (lk rfl f18) rfl fun a hE=>⟨Kept.refl _ _,_,_,rfl,hE,rfl⟩
       ·intro a w ux33 hE hM hp
        have f19 : ux33 19 = (vI (wr ((wr (4 * s12.2)) + s28.2))):=hp 0 _ rfl rfl
        exact Zg hE Za ld rfl (lk rfl f19) Try.underlying55 ty5 hi43.1 fun a hE=>⟨Kept.refl _ _,_,_,rfl,hE,rfl⟩
       ·intro a w ux33 hE hM hp
        have f20 : ux33 20 = (ptr b3 (0 + ((wr ((wr (4 * s12.2)) + s28.2))).toNat * 1)):=hp 0 _ rfl rfl
        exact Zu (v:=(vB x44)) hE Za ld (lk rfl f20) ty5 rfl (At.vec (hM.rawAt (pre:=[_,_])) hi43.2) fun a hE=>⟨Kept.refl _ _,_,_,rfl,hE,rfl⟩
       ·intro a w ux33 hE hM hp
        have f10 : ux33 10 = (vI p0):=hp 0 _ rfl rfl
        have f15 : ux33 15 = (vB x41):=hp 1 _ rfl rfl
        have f21 : ux33 21 = (vB x44):=hp 2 _ rfl rfl
        refine Zv hE Za ld (YL (Ys (lk rfl f10) (Ys (lk rfl f15) (Ys (lk rfl f21) Ve)))) TZ (Yq _ p0 x41 x44 r46 e47) ?_
        rintro v w a ⟨rfl,hK⟩ hE
        exact ⟨hK,_,_,rfl,hE,rfl⟩
       ·intro a w ux33 hE hM hp
        have f9 : ux33 9 = (vB x35):=hp 0 _ rfl rfl
        have f22 : ux33 22 = (vB r46):=hp 1 _ rfl rfl
        exact Zi hE Za ld (lk rfl f9) (lk rfl f22) (WE x35 r46) fun a hE=>⟨Kept.refl _ _,_,_,rfl,hE,rfl⟩
       ·intro a w ux33 hE hM hp
        have f3 : ux33 3 = (vI (wr ((wr (4 * s12.2)) + s20.2))):=hp 0 _ rfl rfl
        exact Zg hE Za ld rfl (lk rfl f3) Try.underlying55 ty5 hi48.1 fun a hE=>⟨Kept.refl _ _,_,_,rfl,hE,rfl⟩
       ·intro a w ux33 hE hM hg
        have hE:=hE.sub (e':=[(47,(vB (x35 ^^^ r46))),(48,(ptr b7 (0 + ((wr ((wr (4 * s12.2)) + s20.2))).toNat * 1))),(0,vI p0),(4,(ptr b1 0)),(5,(ptr b3 0)),(6,(ptr b5 0)),(7,(ptr b7 0)),(8,vI s12.2),(9,vI s20.2),(10,vI s28.2),(20,vI s28.2),(21,(vT (decide (s28.2 < 4))))]) ⟨lk rfl (hg 23 (by decide)),lk rfl (hg 24 (by decide)),rfl,rfl,rfl,rfl,rfl,rfl,rfl,rfl,rfl,rfl,trivial⟩
        refine Zm (seg:=[(vB (x35 ^^^ r46))]) (cs':=enc (s28.1.setIfInBounds ((wr ((wr (4 * s12.2)) + s20.2))).toNat (x35 ^^^ r46))) hE hM Za rfl rfl rfl ty5 rfl (ZE (v:=s28.1) (x:=x35 ^^^ r46) hi48.1) (Flat.cell (x35 ^^^ r46 : UInt8)) (Zs (v:=s28.1) (x:=x35 ^^^ r46) hi48.1) fun w a hM hE=>Zj (Yg (Zy (wp_region_lit (Zd hE Za ld rfl fun a hE=>Zi hE Za ld rfl rfl rfl fun a hE=>Ze hE Za ld rfl fun a hE=>Zj (Zk ?_)))))
        exact ⟨_,(ois hs29),hE.sub ⟨rfl,rfl,rfl,rfl,rfl,rfl,rfl,rfl,trivial⟩,hM⟩
      ·intro hb32
       have hs29:=ZA hs29 hb32
       refine wp_exit (Zo (Zo (Yt ?_)))
       have ht51:=hx30 _ (ois hs29)
       subst ht51
       refine Zk ?_
       exact ⟨hE.sub ⟨rfl,rfl,rfl,rfl,rfl,rfl,rfl,trivial⟩,hM⟩
     ·skip
      rintro a w ⟨hE,hM⟩
      refine Yg (Zy (wp_region_lit (Zd hE Za ld rfl fun a hE=>Zi hE Za ld rfl rfl rfl fun a hE=>Ze hE Za ld rfl fun a hE=>Zj (Zk ?_))))
      exact ⟨_,(ois hF27),hE.sub ⟨rfl,rfl,rfl,rfl,rfl,rfl,rfl,trivial⟩,hM⟩
    ·intro hb24
     have hs21:=ZA hs21 hb24
     refine wp_exit (Zo (Zo (Yt ?_)))
     have ht52:=hx22 _ (ois hs21)
     subst ht52
     refine Zk ?_
     exact ⟨hE.sub ⟨rfl,rfl,rfl,rfl,rfl,rfl,trivial⟩,hM⟩
   ·skip
    rintro a w ⟨hE,hM⟩
    refine Yg (Zy (wp_region_lit (Zd hE Za ld rfl fun a hE=>Zi hE Za ld rfl rfl rfl fun a hE=>Ze hE Za ld rfl fun a hE=>Zj (Zk ?_))))
    exact ⟨_,(ois hF19),hE.sub ⟨rfl,rfl,rfl,rfl,rfl,rfl,trivial⟩,hM⟩
  ·intro hb16
   have hs13:=ZA hs13 hb16
   refine wp_exit (Zo (Zo (Yt ?_)))
   have ht53:=hx14 _ (ois hs13)
   subst ht53
   refine Zk ?_
   have hM:=M.fst (l:=[_,_]) ((hM.pull (pre:=[_])).pull (pre:=[_]))
   exact ⟨hE.sub ⟨rfl,rfl,trivial⟩,hM⟩
 ·skip
  rintro a w ⟨hE,hM⟩
  refine Zy (Zc (Zl (cs:=enc j9) hE Za ld rfl ZL rfl (hM.rawAt (pre:=[])) (Flat.len _) ?_)); intro a hE
  have hM:=hM.pull (pre:=[_])
  refine Zm (seg:=enc j9) (cs':=enc j9) hE hM Za rfl rfl rfl ZL (Flat.len _) (zle flq) (Flat.cell _) (Zn flq) fun w a hM hE=>Zf ?_
  have hr:=Option.some.inj hF11
  subst hr
  have hq54 : Yy Try.prog _ _ (.cell 6 55) _:=ZX hE rfl ZL rfl (hM.rawAt (pre:=[])) (Flat.len _) rfl
  have hM:=M.fst (l:=[]) hM
  exact wp_ret (ZC hE rfl hq54 ⟨_,rfl,rfl,hM.kept⟩)
def Yl (p0 : GCipher) (p3 : Int) (r9 : (List (Vector UInt8 16))) (s25 : (Vector UInt8 16) × Int) : Option (Fl ((Vector UInt8 16) × Int) (Vector UInt8 16)) :=
 if (decide (s25.2 ≤ p3)) = true then ((((X4 p0.Box s25.1).bind fun r37=>(Wo p0.Places r37).bind fun r39=>some r39 : Option ((Vector UInt8 16))).bind fun j33=>(if (decide (s25.2 < p3)) = true then ((WG p0.Field p0.Mix j33).bind fun r46=>some r46) else (some j33) : Option ((Vector UInt8 16))).bind fun j42=>(idx r9 s25.2).bind fun x51=>(X8 j42 x51).bind fun r54=>some r54 : Option ((Vector UInt8 16))).bind fun j30=>some (Fl.nx (j30,wr (s25.2 + 1)))) else (some (Fl.ex s25.1))
def Yz (p0 : GCipher) (p1 : (Vector UInt8 16)) (p2 : (Vector UInt8 16)) (p3 : Int) : Option ((Vector UInt8 16)) :=
 (Wu p0 p1 p3).bind fun r9=>((idx r9 (0 : Int)).bind fun x16=>(X8 p2 x16).bind fun r19=>some r19 : Option ((Vector UInt8 16))).bind fun j12=>(ZD (Yl p0 p3 r9) (j12,1)).bind fun j22=>some j22
theorem UN (w0 : World) (p0 : GCipher) (p1 : (Vector UInt8 16)) (p2 : (Vector UInt8 16)) (p3 : Int) (r : (Vector UInt8 16)) (hF : Yz p0 p1 p2 p3 = some r) :
  Calls Try.prog 73 [(Value.agg (enc p0).toArray),(Value.agg (enc p1).toArray),(Value.agg (enc p2).toArray),vI p3].toArray w0 (fun en w'=>∃ v,en = .returned v ∧ (v = (Value.agg (enc r).toArray) ∧ Kept (Old w0) w0 w')):=by
 refine ZB (n:=48) Try.func73 rfl rfl (nbl rfl) rfl ?_
 intro a hE
 have hM:=M.start w0
 unfold Yz at hF
 refine Zc (ZR (cs:=cat [[vI p0.Field],enc p0.Box,enc p0.Mix,enc p0.Places,[vI p0.Rounds]]) hE hM Za ld rfl rfl fun b1 w a hM hE=>ZR (cs:=enc p1) hE hM Za ld rfl rfl fun b3 w a hM hE=>ZR (cs:=enc p2) hE hM Za ld rfl rfl fun b5 w a hM hE=>ZF hE hM Za ld ZL fun b7 w a hM hE=>Zf (Zc (Zl (cs:=enc p0) hE Za ld rfl VQ rfl (hM.rawAt (pre:=[_,_,_])) (ZZ (cl1 (n:=1) (m:=289) rfl (cl1 (n:=256) (m:=33) (Flat.len _) (cl1 (n:=16) (m:=17) (Flat.len _) (cl1 (n:=16) (m:=1) (Flat.len _) (cl1 (n:=1) (m:=0) rfl cl0)))))) fun a hE=>Zl (cs:=enc p1) hE Za ld rfl ZL rfl (hM.rawAt (pre:=[_,_])) (Flat.len _) fun a hE=>Zd hE Za ld rfl ?_))); intro a hE
 obtain ⟨r9,e10,hF⟩:=bind_some hF
 refine Zv hE Za ld rfl cb116 (QB _ p0 p1 p3 r9 e10) ?_
 rintro u11 w a ⟨_,rfl,hFr,hK⟩ hE
 have hM:=hM.add hK hFr
 refine Ze hE Za ld rfl fun a hE=>Zf ?_
 obtain ⟨j12,hl13,hF14⟩:=bind_some hF
 refine ZQ (fun a w=>Env 48 a [(3,vI p3),(4,(ptr b1 0)),(6,(ptr b5 0)),(8,(ptr b7 0)),(9,u11)] ∧ M (Old w0) w0 w [osl NoB (r9 : List (Vector UInt8 16)) u11,raw b7 (enc (Vector.replicate 16 (0 : UInt8))),raw b5 (enc j12),raw b1 (cat [[vI p0.Field],enc p0.Box,enc p0.Mix,enc p0.Places,[vI p0.Rounds]])]) ?_ ?_
 ·skip
  obtain ⟨x16,hi18,hl13⟩:=bix hl13
  obtain ⟨r19,e20,hl13⟩:=bind_some hl13
  refine YA (n:=48) (hd:=[_,_,_,_,_]) (tl:=[_]) Wa rfl rfl [15,16,17,18,19] (by decide) (fun w=>M (Old w0) w0 w [osl NoB (r9 : List (Vector UInt8 16)) u11,raw b7 (enc (Vector.replicate 16 (0 : UInt8))),raw b5 (enc p2),raw b3 (enc p1),raw b1 (cat [[vI p0.Field],enc p0.Box,enc p0.Mix,enc p0.Places,[vI p0.Rounds]])]) (fun j=>([fun v _=>v = (Value.agg (enc p2).toArray),fun v _=>v = u11,fun v _=>v = (ptr (sb u11) (so u11 + ((0 : Int)).toNat * 16)),fun v _=>v = (Value.agg (enc x16).toArray),fun v _=>v = (Value.agg (enc r19).toArray)] : List (Value → World → Prop)).getD j (fun _ _=>True)) (fun _ _ h hk=>h.keep hk) (gup (Zh (Zh (Zh (Zh (Zh W9)))))) hE hM.drew (ZP (Zb ?_ (Zb ?_ (Zb ?_ (Zb ?_ (Zb ?_ ZK)))))) ?_
  ·exact fun a w ux15 hE hM hp=>Zl (cs:=enc p2) hE Za ld rfl ZL rfl (hM.rawAt (pre:=[_,_])) (Flat.len _) fun a hE=>⟨Kept.refl _ _,_,_,rfl,hE,rfl⟩
  ·exact fun a w ux15 hE hM hp=>Zd hE Za ld rfl fun a hE=>⟨Kept.refl _ _,_,_,rfl,hE,rfl⟩
  ·intro a w ux15 hE hM hp
   have f1 : ux15 1 = u11:=hp 0 _ rfl rfl
   exact WI hE Za ld (lk rfl f1) rfl Try.underlying69 ZL (hM.sl (pre:=[]) noB) hi18.1 fun a hE=>⟨Kept.refl _ _,_,_,rfl,hE,rfl⟩
  ·intro a w ux15 hE hM hp
   have f2 : ux15 2 = (ptr (sb u11) (so u11 + ((0 : Int)).toNat * 16)):=hp 0 _ rfl rfl
   exact Zl (cs:=enc x16) hE Za ld (lk rfl f2) ZL rfl (VP (hM.sl (pre:=[]) noB) hi18.2) (Flat.len _) fun a hE=>⟨Kept.refl _ _,_,_,rfl,hE,rfl⟩
  ·intro a w ux15 hE hM hp
   have f0 : ux15 0 = (Value.agg (enc p2).toArray):=hp 0 _ rfl rfl
   have f3 : ux15 3 = (Value.agg (enc x16).toArray):=hp 1 _ rfl rfl
   refine Zv hE Za ld (YL (Ys (lk rfl f0) (Ys (lk rfl f3) Ve))) cb118 (UI _ p2 x16 r19 e20) ?_
   rintro v w a ⟨rfl,hK⟩ hE
   exact ⟨hK,_,_,rfl,hE,rfl⟩
  ·intro a w ux15 hE hM hg
   have hE:=hE.sub (e':=[(19,(Value.agg (enc r19).toArray)),(3,vI p3),(4,(ptr b1 0)),(6,(ptr b5 0)),(8,(ptr b7 0)),(9,u11)]) ⟨lk rfl (hg 4 (by decide)),rfl,rfl,rfl,rfl,rfl,trivial⟩
   have hM:=hM.pull (pre:=[_,_])
   refine Zm (seg:=enc r19) (cs':=enc r19) hE hM Za rfl rfl rfl ZL (Flat.len _) (zle flq) (Flat.cell _) (Zn flq) fun w a hM hE=>Zj ?_
   have ht21:=Option.some.inj hl13
   subst ht21
   refine Zk ?_
   have hM:=M.fst (l:=[_,_,_,_]) ((((hM.pull (pre:=[_,_,_,_])).pull (pre:=[_])).pull (pre:=[_,_,_])).pull (pre:=[_,_,_]))
   exact ⟨hE.sub ⟨rfl,rfl,rfl,rfl,rfl,trivial⟩,hM⟩
 ·skip
  rintro a w ⟨hE,hM⟩
  refine wp_seq (Zc (Ze hE Za ld rfl fun a hE=>Zf ?_))
  obtain ⟨j22,hl23,hF24⟩:=bind_some hF14
  refine ZU (fun a w=>Env 48 a [(6,(ptr b5 0)),(8,(ptr b7 0))] ∧ M (Old w0) w0 w [raw b7 (enc (Vector.replicate 16 (0 : UInt8))),raw b5 (enc j22)]) ?_ ?_
  ·skip
   refine wp_block ?_
   refine ZG (fun (s25 : (Vector UInt8 16) × Int) a w=>Env 48 a [(3,vI p3),(4,(ptr b1 0)),(6,(ptr b5 0)),(8,(ptr b7 0)),(9,u11),(10,vI s25.2)] ∧ M (Old w0) w0 w [osl NoB (r9 : List (Vector UInt8 16)) u11,raw b7 (enc (Vector.replicate 16 (0 : UInt8))),raw b5 (enc s25.1),raw b1 (cat [[vI p0.Field],enc p0.Box,enc p0.Mix,enc p0.Places,[vI p0.Rounds]])]) hl23 ⟨hE.sub ⟨rfl,rfl,rfl,rfl,rfl,rfl,trivial⟩,hM⟩ ?_
   rintro s25 a w ⟨hE,hM⟩ o28 hs26 hx27
   unfold Yl at hs26
   refine wp_seq (Zc (Zd hE Za ld rfl fun a hE=>Zd hE Za ld rfl fun a hE=>Zi hE Za ld rfl rfl rfl fun a hE=>Zf ?_))
   refine Zw hE rfl ?_ ?_
   ·intro hb29
    have hs26:=Zz hs26 hb29
    refine wp_skip (Zy ?_)
    obtain ⟨j30,hl31,hF32⟩:=bind_some hs26
    refine ZQ (fun a w=>Env 48 a [(3,vI p3),(4,(ptr b1 0)),(6,(ptr b5 0)),(8,(ptr b7 0)),(9,u11),(10,vI s25.2)] ∧ M (Old w0) w0 w [osl NoB (r9 : List (Vector UInt8 16)) u11,raw b7 (enc (Vector.replicate 16 (0 : UInt8))),raw b5 (enc j30),raw b1 (cat [[vI p0.Field],enc p0.Box,enc p0.Mix,enc p0.Places,[vI p0.Rounds]])]) ?_ ?_
    ·skip
     refine wp_block ?_
     obtain ⟨j33,hl34,hF35⟩:=bind_some hl31
     refine ZQ (fun a w=>Env 48 a [(3,vI p3),(4,(ptr b1 0)),(6,(ptr b5 0)),(8,(ptr b7 0)),(9,u11),(10,vI s25.2)] ∧ M (Old w0) w0 w [osl NoB (r9 : List (Vector UInt8 16)) u11,raw b7 (enc (Vector.replicate 16 (0 : UInt8))),raw b5 (enc j33),raw b1 (cat [[vI p0.Field],enc p0.Box,enc p0.Mix,enc p0.Places,[vI p0.Rounds]])]) ?_ ?_
     ·skip
      obtain ⟨r37,e38,hl34⟩:=bind_some hl34
      obtain ⟨r39,e40,hl34⟩:=bind_some hl34
      refine YA (n:=48) (hd:=[_,_,_,_,_,_,_]) (tl:=[_]) Wa rfl rfl [25,26,27,28,29,30,31] (by decide) (fun w=>M (Old w0) w0 w [osl NoB (r9 : List (Vector UInt8 16)) u11,raw b7 (enc (Vector.replicate 16 (0 : UInt8))),raw b5 (enc s25.1),raw b1 (cat [[vI p0.Field],enc p0.Box,enc p0.Mix,enc p0.Places,[vI p0.Rounds]])]) (fun j=>([fun v _=>v = (ptr b1 (0 + 273)),fun v _=>v = (Value.agg (enc p0.Places).toArray),fun v _=>v = (ptr b1 (0 + 1)),fun v _=>v = (Value.agg (enc p0.Box).toArray),fun v _=>v = (Value.agg (enc s25.1).toArray),fun v _=>v = (Value.agg (enc r37).toArray),fun v _=>v = (Value.agg (enc r39).toArray)] : List (Value → World → Prop)).getD j (fun _ _=>True)) (fun _ _ h hk=>h.keep hk) (gup (Zh (Zh (Zh (Zh (Zh (Zh (Zh W9)))))))) hE hM.drew (ZP (Zb ?_ (Zb ?_ (Zb ?_ (Zb ?_ (Zb ?_ (Zb ?_ (Zb ?_ ZK)))))))) ?_
      ·exact fun a w ux36 hE hM hp=>Zp hE Za ld rfl (TU) fun a hE=>⟨Kept.refl _ _,_,_,rfl,hE,rfl⟩
      ·intro a w ux36 hE hM hp
       have f0 : ux36 0 = (ptr b1 (0 + 273)):=hp 0 _ rfl rfl
       exact Zl (cs:=enc p0.Places) hE Za ld (lk rfl f0) Vg rfl (At.cat (pre:=[[vI p0.Field],enc p0.Box,enc p0.Mix]) (hM.rawAt (pre:=[_,_,_])) (cl1 (n:=1) (m:=272) rfl (cl1 (n:=256) (m:=16) (Flat.len _) (cl1 (n:=16) (m:=0) (Flat.len _) cl0)))) (Flat.len _) fun a hE=>⟨Kept.refl _ _,_,_,rfl,hE,rfl⟩
      ·exact fun a w ux36 hE hM hp=>Zp hE Za ld rfl (U1) fun a hE=>⟨Kept.refl _ _,_,_,rfl,hE,rfl⟩
      ·intro a w ux36 hE hM hp
       have f2 : ux36 2 = (ptr b1 (0 + 1)):=hp 0 _ rfl rfl
       exact Zl (cs:=enc p0.Box) hE Za ld (lk rfl f2) Vl rfl (At.cat (pre:=[[vI p0.Field]]) (hM.rawAt (pre:=[_,_,_])) (cl1 (n:=1) (m:=0) rfl cl0)) (Flat.len _) fun a hE=>⟨Kept.refl _ _,_,_,rfl,hE,rfl⟩
      ·exact fun a w ux36 hE hM hp=>Zl (cs:=enc s25.1) hE Za ld rfl ZL rfl (hM.rawAt (pre:=[_,_])) (Flat.len _) fun a hE=>⟨Kept.refl _ _,_,_,rfl,hE,rfl⟩
      ·intro a w ux36 hE hM hp
       have f3 : ux36 3 = (Value.agg (enc p0.Box).toArray):=hp 0 _ rfl rfl
       have f4 : ux36 4 = (Value.agg (enc s25.1).toArray):=hp 1 _ rfl rfl
       refine Zv hE Za ld (YL (Ys (lk rfl f3) (Ys (lk rfl f4) Ve))) cb120 (Qb _ p0.Box s25.1 r37 e38) ?_
       rintro v w a ⟨rfl,hK⟩ hE
       exact ⟨hK,_,_,rfl,hE,rfl⟩
      ·intro a w ux36 hE hM hp
       have f1 : ux36 1 = (Value.agg (enc p0.Places).toArray):=hp 0 _ rfl rfl
       have f5 : ux36 5 = (Value.agg (enc r37).toArray):=hp 1 _ rfl rfl
       refine Zv hE Za ld (YL (Ys (lk rfl f1) (Ys (lk rfl f5) Ve))) cb122 (QU _ p0.Places r37 r39 e40) ?_
       rintro v w a ⟨rfl,hK⟩ hE
       exact ⟨hK,_,_,rfl,hE,rfl⟩
      ·intro a w ux36 hE hM hg
       have hE:=hE.sub (e':=[(31,(Value.agg (enc r39).toArray)),(3,vI p3),(4,(ptr b1 0)),(6,(ptr b5 0)),(8,(ptr b7 0)),(9,u11),(10,vI s25.2),(20,vI s25.2),(21,vI p3),(22,(vT (decide (s25.2 ≤ p3))))]) ⟨lk rfl (hg 6 (by decide)),rfl,rfl,rfl,rfl,rfl,rfl,rfl,rfl,rfl,trivial⟩
       have hM:=hM.pull (pre:=[_,_])
       refine Zm (seg:=enc r39) (cs':=enc r39) hE hM Za rfl rfl rfl ZL (Flat.len _) (zle flq) (Flat.cell _) (Zn flq) fun w a hM hE=>Zj ?_
       have ht41:=Option.some.inj hl34
       subst ht41
       refine Zk ?_
       have hM:=(((hM.pull (pre:=[_,_,_])).pull (pre:=[_])).pull (pre:=[_,_,_])).pull (pre:=[_,_,_])
       exact ⟨hE.sub ⟨rfl,rfl,rfl,rfl,rfl,rfl,trivial⟩,hM⟩
     ·skip
      rintro a w ⟨hE,hM⟩
      obtain ⟨j42,hl43,hF44⟩:=bind_some hF35
      refine ZQ (fun a w=>Env 48 a [(3,vI p3),(4,(ptr b1 0)),(6,(ptr b5 0)),(8,(ptr b7 0)),(9,u11),(10,vI s25.2)] ∧ M (Old w0) w0 w [osl NoB (r9 : List (Vector UInt8 16)) u11,raw b7 (enc (Vector.replicate 16 (0 : UInt8))),raw b5 (enc j42),raw b1 (cat [[vI p0.Field],enc p0.Box,enc p0.Mix,enc p0.Places,[vI p0.Rounds]])]) ?_ ?_
      ·skip
       refine Zc (Zd hE Za ld rfl fun a hE=>Zd hE Za ld rfl fun a hE=>Zi hE Za ld rfl rfl rfl fun a hE=>Zf ?_)
       refine Zw hE rfl ?_ ?_
       ·intro hb45
        have hl43:=Zz hl43 hb45
        refine wp_region_lit (Zp hE Za ld rfl (V3) fun a hE=>Zu (v:=(vI p0.Field)) hE Za ld rfl ty2 rfl (At.cat (pre:=[]) (hM.rawAt (pre:=[_,_,_])) cl0) fun a hE=>Zp hE Za ld rfl (Tx) fun a hE=>Zl (cs:=enc p0.Mix) hE Za ld rfl Yi rfl (At.cat (pre:=[[vI p0.Field],enc p0.Box]) (hM.rawAt (pre:=[_,_,_])) (cl1 (n:=1) (m:=256) rfl (cl1 (n:=256) (m:=0) (Flat.len _) cl0))) (Flat.len _) fun a hE=>Zl (cs:=enc j33) hE Za ld rfl ZL rfl (hM.rawAt (pre:=[_,_])) (Flat.len _) ?_); intro a hE
        obtain ⟨r46,e47,hl43⟩:=bind_some hl43
        refine Zv hE Za ld rfl cb119 (Ka _ p0.Field p0.Mix j33 r46 e47) ?_
        rintro v w a ⟨rfl,hK⟩ hE
        have hM:=(hM.keep hK).pull (pre:=[_,_])
        refine Zm (seg:=enc r46) (cs':=enc r46) hE hM Za rfl rfl rfl ZL (Flat.len _) (zle flq) (Flat.cell _) (Zn flq) fun w a hM hE=>Zj ?_
        have ht48:=Option.some.inj hl43
        subst ht48
        refine Zk ?_
        have hM:=(((hM.pull (pre:=[_,_,_])).pull (pre:=[_])).pull (pre:=[_,_,_])).pull (pre:=[_,_,_])
        exact ⟨hE.sub ⟨rfl,rfl,rfl,rfl,rfl,rfl,trivial⟩,hM⟩
       ·intro hb45
        have hl43:=ZA hl43 hb45
        refine wp_skip ?_
        have ht49:=Option.some.inj hl43
        subst ht49
        refine Zk ?_
        exact ⟨hE.sub ⟨rfl,rfl,rfl,rfl,rfl,rfl,trivial⟩,hM⟩
      ·skip
       rintro a w ⟨hE,hM⟩
       obtain ⟨x51,hi53,hF44⟩:=bix hF44
       obtain ⟨r54,e55,hF44⟩:=bind_some hF44
       refine YA (n:=48) (hd:=[_,_,_,_,_,_]) (tl:=[_]) Wa rfl rfl [41,42,43,44,45,46] (by decide) (fun w=>M (Old w0) w0 w [osl NoB (r9 : List (Vector UInt8 16)) u11,raw b7 (enc (Vector.replicate 16 (0 : UInt8))),raw b5 (enc j42),raw b1 (cat [[vI p0.Field],enc p0.Box,enc p0.Mix,enc p0.Places,[vI p0.Rounds]])]) (fun j=>([fun v _=>v = (Value.agg (enc j42).toArray),fun v _=>v = u11,fun v _=>v = (vI s25.2),fun v _=>v = (ptr (sb u11) (so u11 + (s25.2).toNat * 16)),fun v _=>v = (Value.agg (enc x51).toArray),fun v _=>v = (Value.agg (enc r54).toArray)] : List (Value → World → Prop)).getD j (fun _ _=>True)) (fun _ _ h hk=>h.keep hk) (gup (Zh (Zh (Zh (Zh (Zh (Zh W9))))))) hE hM.drew (ZP (Zb ?_ (Zb ?_ (Zb ?_ (Zb ?_ (Zb ?_ (Zb ?_ ZK))))))) ?_
       ·exact fun a w ux50 hE hM hp=>Zl (cs:=enc j42) hE Za ld rfl ZL rfl (hM.rawAt (pre:=[_,_])) (Flat.len _) fun a hE=>⟨Kept.refl _ _,_,_,rfl,hE,rfl⟩
       ·exact fun a w ux50 hE hM hp=>Zd hE Za ld rfl fun a hE=>⟨Kept.refl _ _,_,_,rfl,hE,rfl⟩
       ·exact fun a w ux50 hE hM hp=>Zd hE Za ld rfl fun a hE=>⟨Kept.refl _ _,_,_,rfl,hE,rfl⟩
       ·intro a w ux50 hE hM hp
        have f1 : ux50 1 = u11:=hp 0 _ rfl rfl
        have f2 : ux50 2 = (vI s25.2):=hp 1 _ rfl rfl
        exact WI hE Za ld (lk rfl f1) (lk rfl f2) Try.underlying69 ZL (hM.sl (pre:=[]) noB) hi53.1 fun a hE=>⟨Kept.refl _ _,_,_,rfl,hE,rfl⟩
       ·intro a w ux50 hE hM hp
        have f3 : ux50 3 = (ptr (sb u11) (so u11 + (s25.2).toNat * 16)):=hp 0 _ rfl rfl
        exact Zl (cs:=enc x51) hE Za ld (lk rfl f3) ZL rfl (VP (hM.sl (pre:=[]) noB) hi53.2) (Flat.len _) fun a hE=>⟨Kept.refl _ _,_,_,rfl,hE,rfl⟩
       ·intro a w ux50 hE hM hp
        have f0 : ux50 0 = (Value.agg (enc j42).toArray):=hp 0 _ rfl rfl
        have f4 : ux50 4 = (Value.agg (enc x51).toArray):=hp 1 _ rfl rfl
        refine Zv hE Za ld (YL (Ys (lk rfl f0) (Ys (lk rfl f4) Ve))) cb118 (UI _ j42 x51 r54 e55) ?_
        rintro v w a ⟨rfl,hK⟩ hE
        exact ⟨hK,_,_,rfl,hE,rfl⟩
       ·intro a w ux50 hE hM hg
        have hE:=hE.sub (e':=[(46,(Value.agg (enc r54).toArray)),(3,vI p3),(4,(ptr b1 0)),(6,(ptr b5 0)),(8,(ptr b7 0)),(9,u11),(10,vI s25.2)]) ⟨lk rfl (hg 5 (by decide)),rfl,rfl,rfl,rfl,rfl,rfl,trivial⟩
        have hM:=hM.pull (pre:=[_,_])
        refine Zm (seg:=enc r54) (cs':=enc r54) hE hM Za rfl rfl rfl ZL (Flat.len _) (zle flq) (Flat.cell _) (Zn flq) fun w a hM hE=>Zj (Yg ?_)
        have ht56:=Option.some.inj hF44
        subst ht56
        refine Zk ?_
        have hM:=(((hM.pull (pre:=[_,_,_])).pull (pre:=[_])).pull (pre:=[_,_,_])).pull (pre:=[_,_,_])
        exact ⟨hE.sub ⟨rfl,rfl,rfl,rfl,rfl,rfl,trivial⟩,hM⟩
    ·skip
     rintro a w ⟨hE,hM⟩
     refine wp_region_lit (Zd hE Za ld rfl fun a hE=>Zi hE Za ld rfl rfl rfl fun a hE=>Ze hE Za ld rfl fun a hE=>Zj (Zk ?_))
     exact ⟨_,(ois hF32),hE.sub ⟨rfl,rfl,rfl,rfl,rfl,rfl,trivial⟩,hM⟩
   ·intro hb29
    have hs26:=ZA hs26 hb29
    refine wp_exit (Zo (Zo (Yt ?_)))
    have ht57:=hx27 _ (ois hs26)
    subst ht57
    refine Zk ?_
    have hM:=M.fst (l:=[_,_]) ((hM.pull (pre:=[_,_])).pull (pre:=[_,_]))
    exact ⟨hE.sub ⟨rfl,rfl,trivial⟩,hM⟩
  ·skip
   rintro a w ⟨hE,hM⟩
   refine Zy (Zc (Zl (cs:=enc j22) hE Za ld rfl ZL rfl (hM.rawAt (pre:=[_])) (Flat.len _) fun a hE=>Zm (seg:=enc j22) (cs':=enc j22) hE hM Za rfl rfl rfl ZL (Flat.len _) (zle flq) (Flat.cell _) (Zn flq) fun w a hM hE=>Zf ?_))
   have hr:=Option.some.inj hF24
   subst hr
   have hq58 : Yy Try.prog _ _ (.cell 8 55) _:=ZX hE rfl ZL rfl (hM.rawAt (pre:=[])) (Flat.len _) rfl
   have hM:=M.fst (l:=[]) hM
   exact wp_ret (ZC hE rfl hq58 ⟨_,rfl,rfl,hM.kept⟩)
def X2 (p0 : GCipher) (p1 : (Vector UInt8 16)) (p2 : Int) : Option (Int) :=
 (Yz p0 p1 (((Vector.replicate 16 (0 : UInt8)).setIfInBounds 0 (ZO (Int.tmod p2 256))).setIfInBounds 1 (ZO (wr (Int.tdiv p2 256)))) p0.Rounds).bind fun r5=>(Zq r5 (0 : Int)).bind fun x10=>(Zq r5 (1 : Int)).bind fun x13=>some (wr ((bI x10) + (wr (256 * (bI x13)))))
theorem Qc (w0 : World) (p0 : GCipher) (p1 : (Vector UInt8 16)) (p2 : Int) (r : Int) (hF : X2 p0 p1 p2 = some r) :
  Calls Try.prog 64 [(Value.agg (enc p0).toArray),(Value.agg (enc p1).toArray),vI p2].toArray w0 (fun en w'=>∃ v,en = .returned v ∧ (v = (vI r) ∧ Kept (Old w0) w0 w')):=by
 refine ZB (n:=28) Try.func64 rfl rfl (nbl rfl) rfl ?_
 intro a hE
 have hM:=M.start w0
 unfold X2 at hF
 refine Zc (ZR (cs:=cat [[vI p0.Field],enc p0.Box,enc p0.Mix,enc p0.Places,[vI p0.Rounds]]) hE hM Za ld rfl rfl fun b1 w a hM hE=>ZR (cs:=enc p1) hE hM Za ld rfl rfl fun b3 w a hM hE=>Ze hE Za ld rfl fun a hE=>Zf (Zc (Zl (cs:=enc p0) hE Za ld rfl VQ rfl (hM.rawAt (pre:=[_])) (ZZ (cl1 (n:=1) (m:=289) rfl (cl1 (n:=256) (m:=33) (Flat.len _) (cl1 (n:=16) (m:=17) (Flat.len _) (cl1 (n:=16) (m:=1) (Flat.len _) (cl1 (n:=1) (m:=0) rfl cl0)))))) fun a hE=>Zl (cs:=enc p1) hE Za ld rfl ZL rfl (hM.rawAt (pre:=[])) (Flat.len _) fun a hE=>Zd hE Za ld rfl fun a hE=>Zi hE Za ld rfl rfl (QD _ _ (by decide)) fun a hE=>XW hE Za ld rfl Try.underlying2 Try.underlying5 ?_))); intro a hE
 rw [Xq] at hE
 refine Zd hE Za ld rfl fun a hE=>Zi hE Za ld rfl rfl (Qz _ _ (by decide)) fun a hE=>XW hE Za ld rfl Try.underlying2 Try.underlying5 ?_; intro a hE
 rw [Xq] at hE
 refine Y8 (parts:=[(0,.tmp 12),(1,.tmp 15)]) (vs:=[(0,(vB (ZO (Int.tmod p2 256)))),(1,(vB (ZO (wr (Int.tdiv p2 256)))))]) (cs:=enc (((Vector.replicate 16 (0 : UInt8)).setIfInBounds 0 (ZO (Int.tmod p2 256))).setIfInBounds 1 (ZO (wr (Int.tdiv p2 256))))) hE Za ld rfl rfl ZL rfl ty5 (VY (v:=(Vector.replicate 16 (0 : UInt8))) (x:=ZO (Int.tmod p2 256)) rfl (by decide) rfl (VY (v:=((Vector.replicate 16 (0 : UInt8)).setIfInBounds 0 (ZO (Int.tmod p2 256)))) (x:=ZO (wr (Int.tdiv p2 256))) rfl (by decide) rfl YB)) fun a hE=>Zp hE Za ld rfl (TR) fun a hE=>Zu (v:=(vI p0.Rounds)) hE Za ld rfl ty2 rfl (At.cat (pre:=[[vI p0.Field],enc p0.Box,enc p0.Mix,enc p0.Places]) (hM.rawAt (pre:=[_])) (cl1 (n:=1) (m:=288) rfl (cl1 (n:=256) (m:=32) (Flat.len _) (cl1 (n:=16) (m:=16) (Flat.len _) (cl1 (n:=16) (m:=0) (Flat.len _) cl0))))) ?_; intro a hE
 obtain ⟨r5,e6,hF⟩:=bind_some hF
 refine Zv hE Za ld rfl cb73 (UN _ p0 p1 (((Vector.replicate 16 (0 : UInt8)).setIfInBounds 0 (ZO (Int.tmod p2 256))).setIfInBounds 1 (ZO (wr (Int.tdiv p2 256)))) p0.Rounds r5 e6) ?_
 rintro v w a ⟨rfl,hK⟩ hE
 have hM:=hM.keep hK
 refine ZF hE hM Za ld ZL fun b7 w a hM hE=>Zm (seg:=enc r5) (cs':=enc r5) hE hM Za rfl rfl rfl ZL (Flat.len _) (zle flq) (Flat.cell _) (Zn flq) fun w a hM hE=>Zf (Zc ?_)
 obtain ⟨x10,hi9,hF⟩:=bvx hF
 refine Zg hE Za ld rfl rfl Try.underlying55 ty5 hi9.1 fun a hE=>Zu (v:=(vB x10)) hE Za ld rfl ty5 rfl (At.vec (hM.rawAt (pre:=[])) hi9.2) fun a hE=>XW hE Za ld rfl Try.underlying5 Try.underlying2 ?_; intro a hE
 rw [W8] at hE
 obtain ⟨x13,hi12,hF⟩:=bvx hF
 refine Zg hE Za ld rfl rfl Try.underlying55 ty5 hi12.1 fun a hE=>Zu (v:=(vB x13)) hE Za ld rfl ty5 rfl (At.vec (hM.rawAt (pre:=[])) hi12.2) fun a hE=>XW hE Za ld rfl Try.underlying5 Try.underlying2 ?_; intro a hE
 rw [W8] at hE
 refine Zi hE Za ld rfl rfl rfl fun a hE=>Zi hE Za ld rfl rfl rfl fun a hE=>Ze hE Za ld rfl fun a hE=>Zf ?_
 have hr:=Option.some.inj hF
 subst hr
 have hM:=M.fst (l:=[]) hM
 exact wp_ret (ZC hE rfl (Zx hE rfl) ⟨_,rfl,rfl,hM.kept⟩)
def Xh (p0 : GCipher) (p1 : (Vector UInt8 16)) (s17 : (List Int) × Int × Int) : Option (Fl ((List Int) × Int × Int) ((List Int) × Int × Int)) :=
 (idx s17.1 s17.2.2).bind fun x23=>if (x23 == 0) = true then ((idx s17.1 s17.2.2).bind fun x27=>(X2 p0 p1 s17.2.2).bind fun r30=>some (Fl.nx ((s17.1.set (s17.2.2).toNat s17.2.1),wr (s17.2.1 + 1),r30))) else (some (Fl.ex (s17.1,s17.2.1,s17.2.2)))
def WH (p0 : GCipher) (p1 : (Vector UInt8 16)) (p2 : Int) : Option (Int × Int × Int) :=
 (Wk p0 p2).bind fun r5=>if (r5 != 0) = true then (some (0,0,r5)) else ((mkS 8 (0 : Int) 65536).bind fun l8=>(ZD (Xh p0 p1) (l8,1,p2)).bind fun j12=>((idx j12.1 j12.2.2).bind fun x37=>(idx j12.1 j12.2.2).bind fun x40=>some (wr (x37 - 1),wr (j12.2.1 - x40),0) : Option (Int × Int × Int)).bind fun j33=>some (j33.1,j33.2.1,j33.2.2))
theorem Q6 (w0 : World) (p0 : GCipher) (p1 : (Vector UInt8 16)) (p2 : Int) (r : Int × Int × Int) (hF : WH p0 p1 p2 = some r) :
  Calls Try.prog 24 [(Value.agg (enc p0).toArray),(Value.agg (enc p1).toArray),vI p2].toArray w0 (fun en w'=>∃ v,en = .returned v ∧ (v = (Value.tuple [vI r.1,vI r.2.1,vI r.2.2].toArray) ∧ Kept (Old w0) w0 w')):=by
 refine ZB (n:=45) Try.func24 rfl rfl (nbl rfl) rfl ?_
 intro a hE
 have hM:=M.start w0
 unfold WH at hF
 refine Zc (ZR (cs:=cat [[vI p0.Field],enc p0.Box,enc p0.Mix,enc p0.Places,[vI p0.Rounds]]) hE hM Za ld rfl rfl fun b1 w a hM hE=>ZR (cs:=enc p1) hE hM Za ld rfl rfl fun b3 w a hM hE=>Ze hE Za ld rfl fun a hE=>Ze hE Za ld rfl fun a hE=>Ze hE Za ld rfl fun a hE=>Zf (wp_seq (Zc (Zl (cs:=enc p0) hE Za ld rfl VQ rfl (hM.rawAt (pre:=[_])) (ZZ (cl1 (n:=1) (m:=289) rfl (cl1 (n:=256) (m:=33) (Flat.len _) (cl1 (n:=16) (m:=17) (Flat.len _) (cl1 (n:=16) (m:=1) (Flat.len _) (cl1 (n:=1) (m:=0) rfl cl0)))))) fun a hE=>Zd hE Za ld rfl ?_)))); intro a hE
 obtain ⟨r5,e6,hF⟩:=bind_some hF
 refine Zv hE Za ld rfl cb63 (QF _ p0 p2 r5 e6) ?_
 rintro v w a ⟨rfl,hK⟩ hE
 have hM:=hM.keep hK
 refine Ze hE Za ld rfl fun a hE=>Zf (Zc (Zd hE Za ld rfl fun a hE=>Zi hE Za ld rfl rfl rfl fun a hE=>Zf ?_))
 refine Zw hE rfl ?_ ?_
 ·intro hb7
  have hF:=Zz hF hb7
  refine Zc (Zd hE Za ld rfl fun a hE=>Ze hE Za ld rfl fun a hE=>Ze hE Za ld rfl fun a hE=>Ze hE Za ld rfl fun a hE=>Zf ?_)
  have hr:=Option.some.inj hF
  subst hr
  have hM:=M.fst (l:=[]) hM
  exact wp_ret (ZI (KJ hE rfl (Zx hE rfl) (Zx hE rfl) (Zx hE rfl) ⟨_,rfl,rfl,hM.kept⟩))
 ·intro hb7
  have hF:=ZA hF hb7
  refine wp_skip (Zy (Zc ?_))
  obtain ⟨l8,e9,hF⟩:=bind_some hF
  refine s_make hE hM Za ld rfl rfl Try.underlying66 ty2 rfl (by decide) (fun _=>VC.2 ⟨rfl,rfl⟩) e9 fun u10 w a hM hE=>Ze hE Za ld rfl fun a hE=>Zf (Zc (Ze hE Za ld rfl fun a hE=>Zf ?_))
  obtain ⟨j12,hl13,hF14⟩:=bind_some hF
  refine ZQ (fun a w=>∃ (u15 : Value),Env 45 a [(2,vI j12.2.2),(10,u15),(11,vI j12.2.1)] ∧ M (Old w0) w0 w [osl NoB (j12.1 : List Int) u15]) ?_ ?_
  ·skip
   refine wp_block ?_
   have hM:=(hM.pull (pre:=[_,_])).pull (pre:=[_,_])
   refine ZG (fun (s17 : (List Int) × Int × Int) a w=>∃ (u18 : Value),Env 45 a [(2,vI s17.2.2),(3,(ptr b1 0)),(4,(ptr b3 0)),(10,u18),(11,vI s17.2.1)] ∧ M (Old w0) w0 w [raw b3 (enc p1),raw b1 (cat [[vI p0.Field],enc p0.Box,enc p0.Mix,enc p0.Places,[vI p0.Rounds]]),osl NoB (s17.1 : List Int) u18]) hl13 ⟨u10,hE.sub ⟨rfl,rfl,rfl,rfl,rfl,trivial⟩,hM⟩ ?_
   rintro s17 a w ⟨u18,hE,hM⟩ o22 hs20 hx21
   unfold Xh at hs20
   refine wp_seq (Zc (Zd hE Za ld rfl fun a hE=>Zd hE Za ld rfl ?_)); intro a hE
   obtain ⟨x23,hi25,hs20⟩:=bix hs20
   refine WI hE Za ld rfl rfl Try.underlying66 ty2 (hM.sl (pre:=[_,_]) noB) hi25.1 fun a hE=>Zu (v:=(vI x23)) hE Za ld rfl ty2 rfl (VP (hM.sl (pre:=[_,_]) noB) hi25.2) fun a hE=>Zi hE Za ld rfl rfl rfl fun a hE=>Zf ?_
   refine Zw hE rfl ?_ ?_
   ·intro hb26
    have hs20:=Zz hs20 hb26
    refine wp_skip (Zy (wp_block (Zc (Zd hE Za ld rfl fun a hE=>Zd hE Za ld rfl fun a hE=>Zd hE Za ld rfl ?_)))); intro a hE
    obtain ⟨x27,hi29,hs20⟩:=bix hs20
    refine WI hE Za ld rfl rfl Try.underlying66 ty2 (hM.sl (pre:=[_,_]) noB) hi29.1 ?_; intro a hE
    have hM:=hM.pull (pre:=[_,_])
    refine HL (i:=(s17.2.2).toNat) (k0:=0) (seg:=[vI s17.2.1]) (xo:=x27) (xn:=s17.2.1) hE hM Za rfl rfl rfl ty2 rfl (Flat.cell (s17.2.1 : Int)) hi29.2 (H4 (m:=1) rfl (by decide)) (Zn rfl) fun w a hM hE=>Zf (Zc (Zl (cs:=enc p0) hE Za ld rfl VQ rfl (hM.rawAt (pre:=[_,_])) (ZZ (cl1 (n:=1) (m:=289) rfl (cl1 (n:=256) (m:=33) (Flat.len _) (cl1 (n:=16) (m:=17) (Flat.len _) (cl1 (n:=16) (m:=1) (Flat.len _) (cl1 (n:=1) (m:=0) rfl cl0)))))) fun a hE=>Zl (cs:=enc p1) hE Za ld rfl ZL rfl (hM.rawAt (pre:=[_])) (Flat.len _) fun a hE=>Zd hE Za ld rfl ?_)); intro a hE
    obtain ⟨r30,e31,hs20⟩:=bind_some hs20
    refine Zv hE Za ld rfl cb64 (Qc _ p0 p1 s17.2.2 r30 e31) ?_
    rintro v w a ⟨rfl,hK⟩ hE
    have hM:=hM.keep hK
    refine Ze hE Za ld rfl fun a hE=>Zf (wp_region_lit (Zd hE Za ld rfl fun a hE=>Zi hE Za ld rfl rfl rfl fun a hE=>Ze hE Za ld rfl fun a hE=>Zj (Yg (Zk ?_))))
    have hM:=(hM.pull (pre:=[_,_])).pull (pre:=[_,_])
    exact ⟨_,(ois hs20),u18,hE.sub ⟨rfl,rfl,rfl,rfl,rfl,trivial⟩,hM⟩
   ·intro hb26
    have hs20:=ZA hs20 hb26
    refine wp_exit (Zo (Zo (Yt ?_)))
    have ht32:=hx21 _ (ois hs20)
    subst ht32
    refine Zk ?_
    have hM:=M.fst (l:=[_]) (hM.pull (pre:=[_,_]))
    exact ⟨u18,hE.sub ⟨rfl,rfl,rfl,trivial⟩,hM⟩
  ·skip
   rintro a w ⟨u15,hE,hM⟩
   obtain ⟨j33,hl34,hF35⟩:=bind_some hF14
   refine ZQ (fun a w=>Env 45 a [(6,vI j33.1),(7,vI j33.2.1),(8,vI j33.2.2)] ∧ M (Old w0) w0 w []) ?_ ?_
   ·skip
    obtain ⟨x37,hi39,hl34⟩:=bix hl34
    obtain ⟨x40,hi42,hl34⟩:=bix hl34
    refine YA (n:=45) (hd:=[_,_,_,_,_,_,_,_,_,_,_,_,_,_]) (tl:=[]) Wa rfl rfl [34,35,36,37,38,39,40,41,42,43,44,6,7,8] (by decide) (fun w=>M (Old w0) w0 w [osl NoB (j12.1 : List Int) u15]) (fun j=>([fun v _=>v = u15,fun v _=>v = (vI j12.2.2),fun v _=>v = (ptr (sb u15) (so u15 + (j12.2.2).toNat * 1)),fun v _=>v = (vI x37),fun v _=>v = (vI (wr (x37 - 1))),fun v _=>v = (vI j12.2.1),fun v _=>v = u15,fun v _=>v = (vI j12.2.2),fun v _=>v = (ptr (sb u15) (so u15 + (j12.2.2).toNat * 1)),fun v _=>v = (vI x40),fun v _=>v = (vI (wr (j12.2.1 - x40))),fun v _=>v = (vI (wr (x37 - 1))),fun v _=>v = (vI (wr (j12.2.1 - x40))),fun v _=>v = (vI 0)] : List (Value → World → Prop)).getD j (fun _ _=>True)) (fun _ _ h hk=>h.keep hk) (gup (Zh (Zh (Zh (Zh (Zh (Zh (Zh (Zh (Zh (Zh (Zh (Zh (Zh (Zh W9))))))))))))))) hE hM.drew (ZP (Zb ?_ (Zb ?_ (Zb ?_ (Zb ?_ (Zb ?_ (Zb ?_ (Zb ?_ (Zb ?_ (Zb ?_ (Zb ?_ (Zb ?_ (Zb ?_ (Zb ?_ (Zb ?_ ZK))))))))))))))) ?_
    ·exact fun a w ux36 hE hM hp=>Zd hE Za ld rfl fun a hE=>⟨Kept.refl _ _,_,_,rfl,hE,rfl⟩
    ·exact fun a w ux36 hE hM hp=>Zd hE Za ld rfl fun a hE=>⟨Kept.refl _ _,_,_,rfl,hE,rfl⟩
    ·intro a w ux36 hE hM hp
     have f0 : ux36 0 = u15:=hp 0 _ rfl rfl
     have f1 : ux36 1 = (vI j12.2.2):=hp 1 _ rfl rfl
     exact WI hE Za ld (lk rfl f0) (lk rfl f1) Try.underlying66 ty2 (hM.sl (pre:=[]) noB) hi39.1 fun a hE=>⟨Kept.refl _ _,_,_,rfl,hE,rfl⟩
    ·intro a w ux36 hE hM hp
     have f2 : ux36 2 = (ptr (sb u15) (so u15 + (j12.2.2).toNat * 1)):=hp 0 _ rfl rfl
     exact Zu (v:=(vI x37)) hE Za ld (lk rfl f2) ty2 rfl (VP (hM.sl (pre:=[]) noB) hi39.2) fun a hE=>⟨Kept.refl _ _,_,_,rfl,hE,rfl⟩
    ·intro a w ux36 hE hM hp
     have f3 : ux36 3 = (vI x37):=hp 0 _ rfl rfl
     exact Zi hE Za ld (lk rfl f3) rfl rfl fun a hE=>⟨Kept.refl _ _,_,_,rfl,hE,rfl⟩
    ·exact fun a w ux36 hE hM hp=>Zd hE Za ld rfl fun a hE=>⟨Kept.refl _ _,_,_,rfl,hE,rfl⟩
    ·exact fun a w ux36 hE hM hp=>Zd hE Za ld rfl fun a hE=>⟨Kept.refl _ _,_,_,rfl,hE,rfl⟩
    ·exact fun a w ux36 hE hM hp=>Zd hE Za ld rfl fun a hE=>⟨Kept.refl _ _,_,_,rfl,hE,rfl⟩
    ·intro a w ux36 hE hM hp
     have f6 : ux36 6 = u15:=hp 0 _ rfl rfl
     have f7 : ux36 7 = (vI j12.2.2):=hp 1 _ rfl rfl
     exact WI hE Za ld (lk rfl f6) (lk rfl f7) Try.underlying66 ty2 (hM.sl (pre:=[]) noB) hi42.1 fun a hE=>⟨Kept.refl _ _,_,_,rfl,hE,rfl⟩
    ·intro a w ux36 hE hM hp
     have f8 : ux36 8 = (ptr (sb u15) (so u15 + (j12.2.2).toNat * 1)):=hp 0 _ rfl rfl
     exact Zu (v:=(vI x40)) hE Za ld (lk rfl f8) ty2 rfl (VP (hM.sl (pre:=[]) noB) hi42.2) fun a hE=>⟨Kept.refl _ _,_,_,rfl,hE,rfl⟩
    ·intro a w ux36 hE hM hp
     have f5 : ux36 5 = (vI j12.2.1):=hp 0 _ rfl rfl
     have f9 : ux36 9 = (vI x40):=hp 1 _ rfl rfl
     exact Zi hE Za ld (lk rfl f5) (lk rfl f9) rfl fun a hE=>⟨Kept.refl _ _,_,_,rfl,hE,rfl⟩
    ·intro a w ux36 hE hM hp
     have f4 : ux36 4 = (vI (wr (x37 - 1))):=hp 0 _ rfl rfl
     exact Ze hE Za ld (lk rfl f4) fun a hE=>⟨Kept.refl _ _,_,_,rfl,hE,rfl⟩
    ·intro a w ux36 hE hM hp
     have f10 : ux36 10 = (vI (wr (j12.2.1 - x40))):=hp 0 _ rfl rfl
     exact Ze hE Za ld (lk rfl f10) fun a hE=>⟨Kept.refl _ _,_,_,rfl,hE,rfl⟩
    ·exact fun a w ux36 hE hM hp=>Ze hE Za ld rfl fun a hE=>⟨Kept.refl _ _,_,_,rfl,hE,rfl⟩
    ·intro a w ux36 hE hM hg
     have hE:=hE.sub (e':=[(6,(vI (wr (x37 - 1)))),(7,(vI (wr (j12.2.1 - x40)))),(8,vI 0)]) ⟨lk rfl (hg 11 (by decide)),lk rfl (hg 12 (by decide)),lk rfl (hg 13 (by decide)),trivial⟩
     refine Zj ?_
     have ht43:=Option.some.inj hl34
     subst ht43
     refine Zk ?_
     have hM:=M.fst (l:=[]) hM
     exact ⟨hE.sub ⟨rfl,rfl,rfl,trivial⟩,hM⟩
   ·skip
    rintro a w ⟨hE,hM⟩
    have hr:=Option.some.inj hF35
    subst hr
    exact wp_ret (KJ hE rfl (Zx hE rfl) (Zx hE rfl) (Zx hE rfl) ⟨_,rfl,rfl,hM.kept⟩)
def Xb (p0 : Int) (p1 : Int) (p2 : Int) : Option (Bool) :=
 (if (decide (p1 ≤ p0)) = true then (some (decide (p0 ≤ p2))) else (some false) : Option (Bool)).bind fun j1=>some j1
theorem Vv (w0 : World) (p0 : Int) (p1 : Int) (p2 : Int) (r : Bool) (hF : Xb p0 p1 p2 = some r) :
  Calls Try.prog 49 [vI p0,vI p1,vI p2].toArray w0 (fun en w'=>∃ v,en = .returned v ∧ (v = (vT r) ∧ Kept (Old w0) w0 w')):=by
 refine ZB (n:=15) Try.func49 rfl rfl (nbl rfl) rfl ?_
 intro a hE
 have hM:=M.start w0
 unfold Xb at hF
 refine Zc (Ze hE Za ld rfl fun a hE=>Zf ?_)
 obtain ⟨j1,hl2,hF3⟩:=bind_some hF
 refine ZQ (fun a w=>Env 15 a [(6,vT j1)] ∧ M (Old w0) w0 w []) ?_ ?_
 ·skip
  refine wp_region_lit (Zd hE Za ld rfl fun a hE=>Zd hE Za ld rfl fun a hE=>Zi hE Za ld rfl rfl rfl fun a hE=>Zd hE Za ld rfl ?_); intro a hE
  refine WF (decide (p1 ≤ p0)) (fun hb4=>?_) (fun hb4=>?_)
  ·have hl2:=Zz hl2 hb4
   refine Zd hE (Zt hE rfl (lkb rfl hb4)) (by decide) rfl fun a hE=>Zd hE (Zt hE rfl (lkb rfl hb4)) (by decide) rfl fun a hE=>Zi hE (Zt hE rfl (lkb rfl hb4)) (by decide) rfl rfl rfl fun a hE=>YO hE Za ld (lkb rfl hb4) rfl fun a hE=>Ze hE Za ld rfl fun a hE=>Zj ?_
   have ht5:=Option.some.inj hl2
   subst ht5
   refine Zk ?_
   exact ⟨hE.sub ⟨rfl,trivial⟩,hM⟩
  ·have hl2:=ZA hl2 hb4
   refine Zr hE rfl (lkb rfl hb4) rfl (by decide) fun a hE=>Zr hE rfl (lkb rfl hb4) rfl (by decide) fun a hE=>Zr hE rfl (lkb rfl hb4) rfl (by decide) fun a hE=>Yu hE Za ld (lkb rfl hb4) rfl fun a hE=>Ze hE Za ld rfl fun a hE=>Zj ?_
   have ht6:=Option.some.inj hl2
   subst ht6
   refine Zk ?_
   exact ⟨hE.sub ⟨rfl,trivial⟩,hM⟩
 ·skip
  rintro a w ⟨hE,hM⟩
  have hr:=Option.some.inj hF3
  subst hr
  exact wp_ret (ZC hE rfl (Zx hE rfl) ⟨_,rfl,rfl,hM.kept⟩)
def WA (p1 : Int) (p2 : Int) (s4 : Int × Int) : Option (Fl (Int × Int) Int) :=
 if (decide (s4.2 ≥ p2)) = true then (((XC s4.2).bind fun _=>(if ((andI (TL s4.1 s4.2) 1) == 1) = true then ((XC (wr (s4.2 - p2))).bind fun _=>some (KO s4.1 (TN p1 (wr (s4.2 - p2))))) else (some s4.1) : Option (Int)).bind fun j13=>some j13 : Option (Int)).bind fun j9=>some (Fl.nx (j9,wr (s4.2 - 1)))) else (some (Fl.ex s4.1))
def Wg (p0 : Int) (p1 : Int) (p2 : Int) : Option (Int) :=
 (ZD (WA p1 p2) (p0,15)).bind fun j1=>some j1
theorem T0 (w0 : World) (p0 : Int) (p1 : Int) (p2 : Int) (r : Int) (hF : Wg p0 p1 p2 = some r) :
  Calls Try.prog 98 [vI p0,vI p1,vI p2].toArray w0 (fun en w'=>∃ v,en = .returned v ∧ (v = (vI r) ∧ Kept (Old w0) w0 w')):=by
 refine ZB (n:=26) Try.func98 rfl rfl (nbl rfl) rfl ?_
 intro a hE
 have hM:=M.start w0
 unfold Wg at hF
 refine Zc (Ze hE Za ld rfl fun a hE=>Zf (wp_seq (Zc (Ze hE Za ld rfl fun a hE=>Zf ?_))))
 obtain ⟨j1,hl2,hF3⟩:=bind_some hF
 refine ZU (fun a w=>Env 26 a [(0,vI j1)] ∧ M (Old w0) w0 w []) ?_ ?_
 ·skip
  refine wp_block ?_
  refine ZG (fun (s4 : Int × Int) a w=>Env 26 a [(0,vI s4.1),(1,vI p1),(2,vI p2),(7,vI s4.2)] ∧ M (Old w0) w0 w []) hl2 ⟨hE.sub ⟨rfl,rfl,rfl,rfl,trivial⟩,hM⟩ ?_
  rintro s4 a w ⟨hE,hM⟩ o7 hs5 hx6
  unfold WA at hs5
  refine wp_seq (Zc (Zd hE Za ld rfl fun a hE=>Zd hE Za ld rfl fun a hE=>Zi hE Za ld rfl rfl rfl fun a hE=>Zf ?_))
  refine Zw hE rfl ?_ ?_
  ·intro hb8
   have hs5:=Zz hs5 hb8
   refine wp_skip (Zy ?_)
   obtain ⟨j9,hl10,hF11⟩:=bind_some hs5
   refine ZQ (fun a w=>Env 26 a [(0,vI j9),(1,vI p1),(2,vI p2),(7,vI s4.2)] ∧ M (Old w0) w0 w []) ?_ ?_
   ·skip
    refine wp_block (Zc (Zd hE Za ld rfl fun a hE=>Zd hE Za ld rfl ?_)); intro a hE
    obtain ⟨_,e12,hl10⟩:=bind_some hl10
    have e12:=Wl e12
    refine Ji hE Za ld rfl rfl (HN _ _ e12) fun a hE=>Zi hE Za ld rfl rfl rfl fun a hE=>Zi hE Za ld rfl rfl rfl fun a hE=>Zf ?_
    obtain ⟨j13,hl14,hF15⟩:=bind_some hl10
    refine ZU (fun a w=>Env 26 a [(0,vI j13),(1,vI p1),(2,vI p2),(7,vI s4.2)] ∧ M (Old w0) w0 w []) ?_ ?_
    ·skip
     refine Zw hE rfl ?_ ?_
     ·intro hb16
      have hl14:=Zz hl14 hb16
      refine wp_region_lit (Zd hE Za ld rfl fun a hE=>Zd hE Za ld rfl fun a hE=>Zd hE Za ld rfl fun a hE=>Zd hE Za ld rfl fun a hE=>Zi hE Za ld rfl rfl rfl ?_); intro a hE
      obtain ⟨_,e17,hl14⟩:=bind_some hl14
      have e17:=Wl e17
      refine Ji hE Za ld rfl rfl (QX _ _ e17) fun a hE=>Zi hE Za ld rfl rfl rfl fun a hE=>Ze hE Za ld rfl fun a hE=>Zj ?_
      have ht18:=Option.some.inj hl14
      subst ht18
      refine Zk ?_
      exact ⟨hE.sub ⟨rfl,rfl,rfl,rfl,trivial⟩,hM⟩
     ·intro hb16
      have hl14:=ZA hl14 hb16
      refine wp_skip ?_
      have ht19:=Option.some.inj hl14
      subst ht19
      refine Zk ?_
      exact ⟨hE.sub ⟨rfl,rfl,rfl,rfl,trivial⟩,hM⟩
    ·skip
     rintro a w ⟨hE,hM⟩
     refine Yg ?_
     have ht20:=Option.some.inj hF15
     subst ht20
     refine Zk ?_
     exact ⟨hE.sub ⟨rfl,rfl,rfl,rfl,trivial⟩,hM⟩
   ·skip
    rintro a w ⟨hE,hM⟩
    refine wp_region_lit (Zd hE Za ld rfl fun a hE=>Zi hE Za ld rfl rfl rfl fun a hE=>Ze hE Za ld rfl fun a hE=>Zj (Zk ?_))
    exact ⟨_,(ois hF11),hE.sub ⟨rfl,rfl,rfl,rfl,trivial⟩,hM⟩
  ·intro hb8
   have hs5:=ZA hs5 hb8
   refine wp_exit (Zo (Zo (Yt ?_)))
   have ht21:=hx6 _ (ois hs5)
   subst ht21
   refine Zk ?_
   exact ⟨hE.sub ⟨rfl,trivial⟩,hM⟩
 ·skip
  rintro a w ⟨hE,hM⟩
  refine Zy (Zc (Zd hE Za ld rfl fun a hE=>Ze hE Za ld rfl fun a hE=>Zf ?_))
  have hr:=Option.some.inj hF3
  subst hr
  exact wp_ret (ZC hE rfl (Zx hE rfl) ⟨_,rfl,rfl,hM.kept⟩)
def Xu (p0 : Int) (s8 : Int) (s18 : Int) : Option (Fl Int (Fl Unit Bool)) :=
 (XC s8).bind fun _=>if (decide (s18 < (TN 2 s8))) = true then ((Wg p0 s18 s8).bind fun r24=>if (r24 == 0) = true then (some (Fl.ex (Fl.ex false))) else (some (Fl.nx (wr (s18 + 1))))) else (some (Fl.ex (Fl.nx ())))
def Xs (p0 : Int) (s8 : Int) : Option (Fl Int (Fl Unit Bool)) :=
 if (decide (s8 ≤ 4)) = true then ((XC s8).bind fun _=>(ZD (Xu p0 s8) (TN 1 s8)).bind fun j14=>j14.el (fun s17=>some (Fl.nx (wr (s8 + 1)))) (fun r=>some (Fl.ex (Fl.ex r)))) else (some (Fl.ex (Fl.nx ())))
def Wj (p0 : Int) : Option (Bool) :=
 (Xb p0 256 511).bind fun r1=>if (!r1) = true then (some false) else ((ZD (Xs p0) 1).bind fun j4=>j4.el (fun s7=>some true) (fun r=>some r))
theorem QJ (w0 : World) (p0 : Int) (r : Bool) (hF : Wj p0 = some r) :
  Calls Try.prog 47 [vI p0].toArray w0 (fun en w'=>∃ v,en = .returned v ∧ (v = (vT r) ∧ Kept (Old w0) w0 w')):=by
 refine ZB (n:=25) Try.func47 rfl rfl (nbl rfl) rfl ?_
 intro a hE
 have hM:=M.start w0
 unfold Wj at hF
 refine Zc (Ze hE Za ld rfl fun a hE=>Zf (wp_seq (Zc (Zd hE Za ld rfl ?_)))); intro a hE
 obtain ⟨r1,e2,hF⟩:=bind_some hF
 refine Zv hE Za ld rfl cb49 (Vv _ p0 256 511 r1 e2) ?_
 rintro v w a ⟨rfl,hK⟩ hE
 have hM:=hM.keep hK
 refine Ux hE Za ld rfl fun a hE=>Zf ?_
 refine Zw hE rfl ?_ ?_
 ·intro hb3
  have hF:=Zz hF hb3
  refine Zc (Ze hE Za ld rfl fun a hE=>Zf ?_)
  have hr:=Option.some.inj hF
  subst hr
  exact wp_ret (ZI (ZC hE rfl (Zx hE rfl) ⟨_,rfl,rfl,hM.kept⟩))
 ·intro hb3
  have hF:=ZA hF hb3
  refine wp_skip (Zy (wp_seq (Zc (Ze hE Za ld rfl fun a hE=>Zf ?_))))
  obtain ⟨j4,hl5,hF6⟩:=bind_some hF
  refine ZU (fun a w=>∃ s7 : Unit,j4 = Fl.nx s7 ∧ Env 25 a [] ∧ M (Old w0) w0 w []) ?_ ?_
  ·skip
   refine wp_block ?_
   refine ZG (fun (s8 : Int) a w=>Env 25 a [(0,vI p0),(3,vI s8)] ∧ M (Old w0) w0 w []) hl5 ⟨hE.sub ⟨rfl,rfl,trivial⟩,hM⟩ ?_
   rintro s8 a w ⟨hE,hM⟩ o11 hs9 hx10
   unfold Xs at hs9
   refine wp_seq (Zc (Zd hE Za ld rfl fun a hE=>Zi hE Za ld rfl rfl rfl fun a hE=>Zf ?_))
   refine Zw hE rfl ?_ ?_
   ·intro hb12
    have hs9:=Zz hs9 hb12
    refine wp_skip (Zy (wp_seq (wp_block (Zc (Zd hE Za ld rfl ?_))))); intro a hE
    obtain ⟨_,e13,hs9⟩:=bind_some hs9
    have e13:=Wl e13
    refine Ji hE Za ld rfl rfl (QX _ _ e13) fun a hE=>Ze hE Za ld rfl fun a hE=>Zf ?_
    obtain ⟨j14,hl15,hF16⟩:=bind_some hs9
    refine ZU (fun a w=>∃ s17 : Unit,j14 = Fl.nx s17 ∧ Env 25 a [(0,vI p0),(3,vI s8)] ∧ M (Old w0) w0 w []) ?_ ?_
    ·skip
     refine wp_block ?_
     refine ZG (fun (s18 : Int) a w=>Env 25 a [(0,vI p0),(3,vI s8),(4,vI s18)] ∧ M (Old w0) w0 w []) hl15 ⟨hE.sub ⟨rfl,rfl,rfl,trivial⟩,hM⟩ ?_
     rintro s18 a w ⟨hE,hM⟩ o21 hs19 hx20
     unfold Xu at hs19
     refine wp_seq (Zc (Zd hE Za ld rfl fun a hE=>Zd hE Za ld rfl ?_)); intro a hE
     obtain ⟨_,e22,hs19⟩:=bind_some hs19
     have e22:=Wl e22
     refine Ji hE Za ld rfl rfl (QX _ _ e22) fun a hE=>Zi hE Za ld rfl rfl rfl fun a hE=>Zf ?_
     refine Zw hE rfl ?_ ?_
     ·intro hb23
      have hs19:=Zz hs19 hb23
      refine wp_skip (Zy (wp_seq (wp_block (Zc (Zd hE Za ld rfl fun a hE=>Zd hE Za ld rfl fun a hE=>Zd hE Za ld rfl ?_))))); intro a hE
      obtain ⟨r24,e25,hs19⟩:=bind_some hs19
      refine Zv hE Za ld rfl cb98 (T0 _ p0 s18 s8 r24 e25) ?_
      rintro v w a ⟨rfl,hK⟩ hE
      have hM:=hM.keep hK
      refine Zi hE Za ld rfl rfl rfl fun a hE=>Zf ?_
      refine Zw hE rfl ?_ ?_
      ·intro hb26
       have hs19:=Zz hs19 hb26
       refine Zc (Ze hE Za ld rfl fun a hE=>Zf ?_)
       have ht27:=hx20 _ (ois hs19)
       subst ht27
       have ht28:=hx10 _ (ois hF16)
       subst ht28
       have hr:=Option.some.inj hF6
       subst hr
       exact wp_ret (XT (ZI (ZI (XT (ZI (XT (ZI (ZI (XT (ZI (ZI (ZC hE rfl (Zx hE rfl) ⟨_,rfl,rfl,hM.kept⟩))))))))))))
      ·intro hb26
       have hs19:=ZA hs19 hb26
       refine wp_skip (Yg (Zy (wp_region_lit (Zd hE Za ld rfl fun a hE=>Zi hE Za ld rfl rfl rfl fun a hE=>Ze hE Za ld rfl fun a hE=>Zj (Zk ?_)))))
       exact ⟨_,(ois hs19),hE.sub ⟨rfl,rfl,rfl,trivial⟩,hM⟩
     ·intro hb23
      have hs19:=ZA hs19 hb23
      refine wp_exit (Zo (Zo (Yt ?_)))
      have ht29:=hx20 _ (ois hs19)
      subst ht29
      refine Zk ?_
      exact ⟨(),rfl,hE.sub ⟨rfl,rfl,trivial⟩,hM⟩
    ·skip
     rintro a w ⟨s17,ht,hE,hM⟩
     subst ht
     have hF16:=UK hF16
     refine Yg (Zy (wp_region_lit (Zd hE Za ld rfl fun a hE=>Zi hE Za ld rfl rfl rfl fun a hE=>Ze hE Za ld rfl fun a hE=>Zj (Zk ?_))))
     exact ⟨_,(ois hF16),hE.sub ⟨rfl,rfl,trivial⟩,hM⟩
   ·intro hb12
    have hs9:=ZA hs9 hb12
    refine wp_exit (Zo (Zo (Yt ?_)))
    have ht30:=hx10 _ (ois hs9)
    subst ht30
    refine Zk ?_
    exact ⟨(),rfl,hE.sub trivial,hM⟩
  ·skip
   rintro a w ⟨s7,ht,hE,hM⟩
   subst ht
   have hF6:=UK hF6
   refine Zy (Zc (Ze hE Za ld rfl fun a hE=>Zf ?_))
   have hr:=Option.some.inj hF6
   subst hr
   exact wp_ret (ZC hE rfl (Zx hE rfl) ⟨_,rfl,rfl,hM.kept⟩)
def Z1 (p0 : (List Bool)) (p1 : Bool) (s5 : Int) : Option (Fl Int (Fl Unit Int)) :=
 if (decide (s5 < (p0.length : Int))) = true then ((idx p0 s5).bind fun x10=>if (p1 == x10) = true then (some (Fl.ex (Fl.ex s5))) else (some (Fl.nx (wr (s5 + 1))))) else (some (Fl.ex (Fl.nx ())))
def YF (p0 : (List Bool)) (p1 : Bool) : Option (Int) :=
 (ZD (Z1 p0 p1) 0).bind fun j1=>j1.el (fun s4=>some (-1)) (fun r=>some r)
theorem VJ (w0 : World) (p0 : (List Bool)) (v0_1 : Value) (hv0_1 : Ro w0 p0 [v0_1]) (p1 : Bool) (r : Int) (hF : YF p0 p1 = some r) :
  Calls Try.prog 158 [v0_1,vT p1].toArray w0 (fun en w'=>∃ v,en = .returned v ∧ (v = (vI r) ∧ Kept (Old w0) w0 w')):=by
 refine ZB (n:=19) Try.func158 rfl rfl (nbl rfl) rfl ?_
 intro a hE
 have hM:=M.start w0
 unfold YF at hF
 refine Zc (Ze hE Za ld rfl fun a hE=>Zf (wp_seq (Zc (Zd hE Za ld rfl fun a hE=>K6 hE Za ld rfl Try.underlying175 (hM.rd hv0_1) fun a hE=>Zd hE Za ld rfl fun a hE=>Zf ?_))))
 obtain ⟨j1,hl2,hF3⟩:=bind_some hF
 refine ZU (fun a w=>∃ s4 : Unit,j1 = Fl.nx s4 ∧ Env 19 a [] ∧ M (Old w0) w0 w []) ?_ ?_
 ·skip
  refine wp_block ?_
  refine ZG (fun (s5 : Int) a w=>Env 19 a [(0,v0_1),(1,vT p1),(7,(vI (p0.length : Int))),(8,vI s5)] ∧ M (Old w0) w0 w []) hl2 ⟨hE.sub ⟨rfl,rfl,rfl,rfl,trivial⟩,hM⟩ ?_
  rintro s5 a w ⟨hE,hM⟩ o8 hs6 hx7
  unfold Z1 at hs6
  refine Zc (Zi hE Za ld rfl rfl rfl fun a hE=>Zf (wp_seq ?_))
  refine Zw hE rfl ?_ ?_
  ·intro hb9
   have hs6:=Zz hs6 hb9
   refine wp_skip (Zy (wp_seq (wp_block (Zc (Zd hE Za ld rfl fun a hE=>Ze hE Za ld rfl fun a hE=>Zf (Zc (Zd hE Za ld rfl fun a hE=>Zd hE Za ld rfl fun a hE=>Zd hE Za ld rfl ?_))))))); intro a hE
   obtain ⟨x10,hi12,hs6⟩:=bix hs6
   refine WI hE Za ld rfl rfl Try.underlying175 ty4 (hM.rd hv0_1) hi12.1 fun a hE=>Zu (v:=(vT x10)) hE Za ld rfl ty4 rfl (VP (hM.rd hv0_1) hi12.2) fun a hE=>s_eqT hE Za ld rfl rfl Try.underlying4 fun a hE=>Zf ?_
   refine Zw hE rfl ?_ ?_
   ·intro hb13
    have hs6:=Zz hs6 hb13
    refine Zc (Zd hE Za ld rfl fun a hE=>Ze hE Za ld rfl fun a hE=>Zf ?_)
    have ht14:=hx7 _ (ois hs6)
    subst ht14
    have hr:=Option.some.inj hF3
    subst hr
    exact wp_ret (XT (ZI (ZI (XT (ZI (ZI (ZC hE rfl (Zx hE rfl) ⟨_,rfl,rfl,hM.kept⟩)))))))
   ·intro hb13
    have hs6:=ZA hs6 hb13
    refine wp_skip (Yg (Zy (wp_region_lit (Zi hE Za ld rfl rfl rfl fun a hE=>Zd hE Za ld rfl fun a hE=>Zj (Zk ?_)))))
    exact ⟨_,(ois hs6),hE.sub ⟨rfl,rfl,rfl,rfl,trivial⟩,hM⟩
  ·intro hb9
   have hs6:=ZA hs6 hb9
   refine wp_exit (Zo (Zo (Yt ?_)))
   have ht15:=hx7 _ (ois hs6)
   subst ht15
   refine Zk ?_
   exact ⟨(),rfl,hE.sub trivial,hM⟩
 ·skip
  rintro a w ⟨s4,ht,hE,hM⟩
  subst ht
  have hF3:=UK hF3
  refine Zy (Zc (Ze hE Za ld rfl fun a hE=>Zf ?_))
  have hr:=Option.some.inj hF3
  subst hr
  exact wp_ret (ZC hE rfl (Zx hE rfl) ⟨_,rfl,rfl,hM.kept⟩)
def Z4 (p0 : (List Bool)) (p1 : Bool) : Option (Bool) :=
 (YF p0 p1).bind fun r1=>some (decide (r1 ≥ 0))
theorem Vm (w0 : World) (p0 : (List Bool)) (v0_1 : Value) (hv0_1 : Ro w0 p0 [v0_1]) (p1 : Bool) (r : Bool) (hF : Z4 p0 p1 = some r) :
  Calls Try.prog 152 [v0_1,vT p1].toArray w0 (fun en w'=>∃ v,en = .returned v ∧ (v = (vT r) ∧ Kept (Old w0) w0 w')):=by
 refine ZB (n:=9) Try.func152 rfl rfl (nbl rfl) rfl ?_
 intro a hE
 have hM:=M.start w0
 unfold Z4 at hF
 refine Zc (Ze hE Za ld rfl fun a hE=>Zf (Zc (Zd hE Za ld rfl fun a hE=>Zd hE Za ld rfl ?_))); intro a hE
 obtain ⟨r1,e2,hF⟩:=bind_some hF
 refine Zv hE Za ld rfl cb158 (VJ _ p0 v0_1 (hM.rdo hv0_1) p1 r1 e2) ?_
 rintro v w a ⟨rfl,hK⟩ hE
 have hM:=hM.keep hK
 refine Zi hE Za ld rfl rfl rfl fun a hE=>Ze hE Za ld rfl fun a hE=>Zf ?_
 have hr:=Option.some.inj hF
 subst hr
 exact wp_ret (ZC hE rfl (Zx hE rfl) ⟨_,rfl,rfl,hM.kept⟩)
def Yd (p0 : (Vector UInt8 256)) (s8 : (Vector Bool 256) × Int) : Option (Fl ((Vector Bool 256) × Int) (Vector Bool 256)) :=
 if (decide (s8.2 < 256)) = true then ((Zq p0 s8.2).bind fun x13=>(Zq s8.1 (bI x13)).bind fun x17=>some (Fl.nx ((s8.1.setIfInBounds ((bI x13)).toNat true),wr (s8.2 + 1)))) else (some (Fl.ex s8.1))
def YI (p0 : (Vector UInt8 256)) : Option (Bool) :=
 (ZD (Yd p0) ((Vector.replicate 256 false),0)).bind fun j5=>(slc j5.toList (0 : Int) (256 : Int)).bind fun l20=>(Z4 l20 false).bind fun r23=>some (!r23)
theorem Ur (w0 : World) (p0 : (Vector UInt8 256)) (r : Bool) (hF : YI p0 = some r) :
  Calls Try.prog 123 [(Value.agg (enc p0).toArray)].toArray w0 (fun en w'=>∃ v,en = .returned v ∧ (v = (vT r) ∧ Kept (Old w0) w0 w')):=by
 refine ZB (n:=17) Try.func123 rfl rfl (nbl rfl) rfl ?_
 intro a hE
 have hM:=M.start w0
 unfold YI at hF
 refine Zc (ZR (cs:=enc p0) hE hM Za ld rfl rfl fun b1 w a hM hE=>Ze hE Za ld rfl fun a hE=>Zf (Zc (Y8 (parts:=[]) (vs:=[]) (cs:=enc (Vector.replicate 256 false)) hE Za ld rfl rfl Kp rfl ty4 YB fun a hE=>ZF hE hM Za ld Kp fun b3 w a hM hE=>Zm (seg:=enc (Vector.replicate 256 false)) (cs':=enc (Vector.replicate 256 false)) hE hM Za rfl rfl rfl Kp (Flat.len _) (zle flq) (Flat.cell _) (Zn flq) fun w a hM hE=>Zf (wp_seq (Zc (Zl (cs:=enc p0) hE Za ld rfl Vl rfl (hM.rawAt (pre:=[_])) (Flat.len _) fun a hE=>Zd hE Za ld rfl fun a hE=>Zf ?_))))))
 obtain ⟨j5,hl6,hF7⟩:=bind_some hF
 refine ZU (fun a w=>Env 17 a [(3,(ptr b3 0))] ∧ M (Old w0) w0 w [raw b3 (enc j5)]) ?_ ?_
 ·skip
  refine wp_block ?_
  have hM:=M.fst (l:=[_]) hM
  refine ZG (fun (s8 : (Vector Bool 256) × Int) a w=>Env 17 a [(3,(ptr b3 0)),(7,(Value.agg (enc p0).toArray)),(8,vI s8.2)] ∧ M (Old w0) w0 w [raw b3 (enc s8.1)]) hl6 ⟨hE.sub ⟨rfl,rfl,rfl,trivial⟩,hM⟩ ?_
  rintro s8 a w ⟨hE,hM⟩ o11 hs9 hx10
  unfold Yd at hs9
  refine Zc (Zi hE Za ld rfl rfl rfl fun a hE=>Zf (wp_seq ?_))
  refine Zw hE rfl ?_ ?_
  ·intro hb12
   have hs9:=Zz hs9 hb12
   refine wp_skip (Zy (wp_seq (wp_block (Zc ?_))))
   obtain ⟨x13,hi15,hs9⟩:=bvx hs9
   refine Vy hE Za ld rfl rfl Try.underlying49 ty5 rfl rfl hi15 rfl fun a hE=>Ze hE Za ld rfl fun a hE=>Zf (wp_region_lit (Zd hE Za ld rfl ?_)); intro a hE
   obtain ⟨x17,hi16,hs9⟩:=bvx hs9
   refine Zg hE Za ld rfl rfl Try.underlying117 ty4 hi16.1 fun a hE=>Zm (seg:=[vT true]) (cs':=enc (s8.1.setIfInBounds ((bI x13)).toNat true)) hE hM Za rfl rfl rfl ty4 rfl (ZE (v:=s8.1) (x:=true) hi16.1) (Flat.cell (true : Bool)) (Zs (v:=s8.1) (x:=true) hi16.1) fun w a hM hE=>Zj (Yg (Zy (wp_region_lit (Zi hE Za ld rfl rfl rfl fun a hE=>Zd hE Za ld rfl fun a hE=>Zj (Zk ?_)))))
   exact ⟨_,(ois hs9),hE.sub ⟨rfl,rfl,rfl,trivial⟩,hM⟩
  ·intro hb12
   have hs9:=ZA hs9 hb12
   refine wp_exit (Zo (Zo (Yt ?_)))
   have ht19:=hx10 _ (ois hs9)
   subst ht19
   refine Zk ?_
   exact ⟨hE.sub ⟨rfl,trivial⟩,hM⟩
 ·skip
  rintro a w ⟨hE,hM⟩
  refine Zy (Zc ?_)
  obtain ⟨l20,e21,hF7⟩:=bind_some hF7
  have hb22:=KB e21 -- ^
  refine UQ (N:=256) hE Za ld rfl rfl rfl rfl rfl Try.underlying117 ty4 hb22 ?_; intro a hE
  obtain ⟨r23,e24,hF7⟩:=bind_some hF7
  refine Zv hE Za ld rfl cb152 (Vm _ l20 (Wf (.slice (some ⟨b3,0,none⟩) 256 256) ((0 : Int)).toNat ((256 : Int)).toNat 1) (QK (At.sat (hM.rawAt (pre:=[])) (by simp) (by decide)) e21) false r23 e24) ?_
  rintro v w a ⟨rfl,hK⟩ hE
  have hM:=hM.keep hK
  refine Ux hE Za ld rfl fun a hE=>Ze hE Za ld rfl fun a hE=>Zf ?_
  have hr:=Option.some.inj hF7
  subst hr
  have hM:=M.fst (l:=[]) hM
  exact wp_ret (ZC hE rfl (Zx hE rfl) ⟨_,rfl,rfl,hM.kept⟩)
def WP (s8 : (Vector (Vector UInt8 4) 4) × Int) : Option (Fl ((Vector (Vector UInt8 4) 4) × Int) (Vector (Vector UInt8 4) 4)) :=
 if (decide (s8.2 < 4)) = true then ((Zq s8.1 s8.2).bind fun x14=>(Zq x14 s8.2).bind fun x17=>some (Fl.nx ((s8.1.setIfInBounds (s8.2).toNat (x14.setIfInBounds (s8.2).toNat 1)),wr (s8.2 + 1)))) else (some (Fl.ex s8.1))
def Xz : Option ((Vector (Vector UInt8 4) 4)) :=
 (ZD (WP) ((Vector.replicate 4 (Vector.replicate 4 (0 : UInt8))),0)).bind fun j5=>some j5
theorem Tr (w0 : World)  (r : (Vector (Vector UInt8 4) 4)) (hF : Xz  = some r) :
  Calls Try.prog 153 [].toArray w0 (fun en w'=>∃ v,en = .returned v ∧ (v = (Value.agg (enc r).toArray) ∧ Kept (Old w0) w0 w')):=by
 refine ZB (n:=13) Try.func153 rfl rfl (nbl rfl) rfl ?_
 intro a hE
 have hM:=M.start w0
 unfold Xz at hF
 refine Zc (ZF hE hM Za ld Yi fun b1 w a hM hE=>Zf (Zc (Y8 (parts:=[]) (vs:=[]) (cs:=enc (Vector.replicate 4 (Vector.replicate 4 (0 : UInt8)))) hE Za ld rfl rfl Yi rfl ZV YB fun a hE=>ZF hE hM Za ld Yi fun b3 w a hM hE=>Zm (seg:=enc (Vector.replicate 4 (Vector.replicate 4 (0 : UInt8)))) (cs':=enc (Vector.replicate 4 (Vector.replicate 4 (0 : UInt8)))) hE hM Za rfl rfl rfl Yi (Flat.len _) (zle flq) (Flat.cell _) (Zn flq) fun w a hM hE=>Zf (wp_seq (Zc (Zd hE Za ld rfl fun a hE=>Zf ?_))))))
 obtain ⟨j5,hl6,hF7⟩:=bind_some hF
 refine ZU (fun a w=>Env 13 a [(0,(ptr b1 0)),(1,(ptr b3 0))] ∧ M (Old w0) w0 w [raw b3 (enc j5),raw b1 (enc (Vector.replicate 4 (Vector.replicate 4 (0 : UInt8))))]) ?_ ?_
 ·skip
  refine wp_block ?_
  refine ZG (fun (s8 : (Vector (Vector UInt8 4) 4) × Int) a w=>Env 13 a [(0,(ptr b1 0)),(1,(ptr b3 0)),(4,vI s8.2)] ∧ M (Old w0) w0 w [raw b3 (enc s8.1),raw b1 (enc (Vector.replicate 4 (Vector.replicate 4 (0 : UInt8))))]) hl6 ⟨hE.sub ⟨rfl,rfl,rfl,trivial⟩,hM⟩ ?_
  rintro s8 a w ⟨hE,hM⟩ o11 hs9 hx10
  unfold WP at hs9
  refine Zc (Zi hE Za ld rfl rfl rfl fun a hE=>Zf (wp_seq ?_))
  refine Zw hE rfl ?_ ?_
  ·intro hb12
   have hs9:=Zz hs9 hb12
   refine wp_skip (Zy (wp_seq (wp_block (Zc (Zd hE Za ld rfl fun a hE=>Ze hE Za ld rfl fun a hE=>Zf (wp_region_lit (Zd hE Za ld rfl fun a hE=>Zd hE Za ld rfl ?_))))))); intro a hE
   obtain ⟨x14,hi13,hs9⟩:=bvx hs9
   refine Zg hE Za ld rfl rfl Try.underlying50 ZV hi13.1 ?_; intro a hE
   obtain ⟨x17,hi16,hs9⟩:=bvx hs9
   refine Zg hE Za ld rfl rfl Try.underlying42 ty5 hi16.1 fun a hE=>Zm (seg:=[vB 1]) (cs':=enc (s8.1.setIfInBounds (s8.2).toNat (x14.setIfInBounds (s8.2).toNat 1))) hE hM Za rfl rfl rfl ty5 rfl (XM (o':=0 + (s8.2).toNat * 1) hi13 (ZE (v:=x14) (x:=1) hi16.1) (by first | omega | (simp only [Flat.n] <;> omega))) (Flat.cell (1 : UInt8)) (Yr (o':=0 + (s8.2).toNat * 1) hi13 (ZE (v:=x14) (x:=1) hi16.1) (Zs (v:=x14) (x:=1) hi16.1) (by first | omega | (simp only [Flat.n] <;> omega))) fun w a hM hE=>Zj (Yg (Zy (wp_region_lit (Zi hE Za ld rfl rfl rfl fun a hE=>Zd hE Za ld rfl fun a hE=>Zj (Zk ?_)))))
   exact ⟨_,(ois hs9),hE.sub ⟨rfl,rfl,rfl,trivial⟩,hM⟩
  ·intro hb12
   have hs9:=ZA hs9 hb12
   refine wp_exit (Zo (Zo (Yt ?_)))
   have ht19:=hx10 _ (ois hs9)
   subst ht19
   refine Zk ?_
   exact ⟨hE.sub ⟨rfl,rfl,trivial⟩,hM⟩
 ·skip
  rintro a w ⟨hE,hM⟩
  refine Zy (Zc (Zl (cs:=enc j5) hE Za ld rfl Yi rfl (hM.rawAt (pre:=[])) (Flat.len _) ?_)); intro a hE
  have hM:=hM.pull (pre:=[_])
  refine Zm (seg:=enc j5) (cs':=enc j5) hE hM Za rfl rfl rfl Yi (Flat.len _) (zle flq) (Flat.cell _) (Zn flq) fun w a hM hE=>Zf ?_
  have hr:=Option.some.inj hF7
  subst hr
  have hq20 : Yy Try.prog _ _ (.cell 0 50) _:=ZX hE rfl Yi rfl (hM.rawAt (pre:=[])) (Flat.len _) rfl
  have hM:=M.fst (l:=[]) hM
  exact wp_ret (ZC hE rfl hq20 ⟨_,rfl,rfl,hM.kept⟩)
def Ym (p1 : UInt8) (p2 : UInt8) (s4 : Int × Int) : Option (Fl (Int × Int) Int) :=
 if (decide (s4.2 < 8)) = true then (((XC s4.2).bind fun _=>(if (((K4 p2 s4.2) &&& 1) == 1) = true then ((XC s4.2).bind fun _=>some (KO s4.1 (TN (bI p1) s4.2))) else (some s4.1) : Option (Int)).bind fun j13=>some j13 : Option (Int)).bind fun j9=>some (Fl.nx (j9,wr (s4.2 + 1)))) else (some (Fl.ex s4.1))
def ZN (p0 : Int) (p1 : UInt8) (p2 : UInt8) : Option (UInt8) :=
 (ZD (Ym p1 p2) (0,0)).bind fun j1=>(Wg j1 p0 8).bind fun r22=>some (ZO r22)
theorem Z5 (w0 : World) (p0 : Int) (p1 : UInt8) (p2 : UInt8) (r : UInt8) (hF : ZN p0 p1 p2 = some r) :
  Calls Try.prog 144 [vI p0,vB p1,vB p2].toArray w0 (fun en w'=>∃ v,en = .returned v ∧ (v = (vB r) ∧ Kept (Old w0) w0 w')):=by
 refine ZB (n:=28) Try.func144 rfl rfl (nbl rfl) rfl ?_
 intro a hE
 have hM:=M.start w0
 unfold ZN at hF
 refine Zc (Ze hE Za ld rfl fun a hE=>Zf (Zc (Ze hE Za ld rfl fun a hE=>Zf (wp_seq (Zc (Zd hE Za ld rfl fun a hE=>Zf ?_))))))
 obtain ⟨j1,hl2,hF3⟩:=bind_some hF
 refine ZU (fun a w=>Env 28 a [(0,vI p0),(7,vI j1)] ∧ M (Old w0) w0 w []) ?_ ?_
 ·skip
  refine wp_block ?_
  refine ZG (fun (s4 : Int × Int) a w=>Env 28 a [(0,vI p0),(1,vB p1),(2,vB p2),(7,vI s4.1),(9,vI s4.2)] ∧ M (Old w0) w0 w []) hl2 ⟨hE.sub ⟨rfl,rfl,rfl,rfl,rfl,trivial⟩,hM⟩ ?_
  rintro s4 a w ⟨hE,hM⟩ o7 hs5 hx6
  unfold Ym at hs5
  refine Zc (Zi hE Za ld rfl rfl rfl fun a hE=>Zf (wp_seq ?_))
  refine Zw hE rfl ?_ ?_
  ·intro hb8
   have hs5:=Zz hs5 hb8
   refine wp_skip (Zy ?_)
   obtain ⟨j9,hl10,hF11⟩:=bind_some hs5
   refine ZQ (fun a w=>Env 28 a [(0,vI p0),(1,vB p1),(2,vB p2),(7,vI j9),(9,vI s4.2)] ∧ M (Old w0) w0 w []) ?_ ?_
   ·skip
    refine wp_block (Zc (Zd hE Za ld rfl fun a hE=>Ze hE Za ld rfl fun a hE=>Zf (Zc (Zd hE Za ld rfl fun a hE=>Zd hE Za ld rfl ?_)))); intro a hE
    obtain ⟨_,e12,hl10⟩:=bind_some hl10
    have e12:=Wl e12
    refine Ji hE Za ld rfl rfl (bB_shr _ _ e12) fun a hE=>Zi hE Za ld rfl rfl (bB_and (K4 p2 s4.2) 1) fun a hE=>Zi hE Za ld rfl rfl (Jr ((K4 p2 s4.2) &&& 1) 1) fun a hE=>Zf ?_
    obtain ⟨j13,hl14,hF15⟩:=bind_some hl10
    refine ZU (fun a w=>Env 28 a [(0,vI p0),(1,vB p1),(2,vB p2),(7,vI j13),(9,vI s4.2)] ∧ M (Old w0) w0 w []) ?_ ?_
    ·skip
     refine Zw hE rfl ?_ ?_
     ·intro hb16
      have hl14:=Zz hl14 hb16
      refine wp_region_lit (Zd hE Za ld rfl fun a hE=>Zd hE Za ld rfl fun a hE=>XW hE Za ld rfl Try.underlying5 Try.underlying2 ?_); intro a hE
      rw [W8] at hE
      refine Zd hE Za ld rfl ?_; intro a hE
      obtain ⟨_,e17,hl14⟩:=bind_some hl14
      have e17:=Wl e17
      refine Ji hE Za ld rfl rfl (QX _ _ e17) fun a hE=>Zi hE Za ld rfl rfl rfl fun a hE=>Ze hE Za ld rfl fun a hE=>Zj ?_
      have ht18:=Option.some.inj hl14
      subst ht18
      refine Zk ?_
      exact ⟨hE.sub ⟨rfl,rfl,rfl,rfl,rfl,trivial⟩,hM⟩
     ·intro hb16
      have hl14:=ZA hl14 hb16
      refine wp_skip ?_
      have ht19:=Option.some.inj hl14
      subst ht19
      refine Zk ?_
      exact ⟨hE.sub ⟨rfl,rfl,rfl,rfl,rfl,trivial⟩,hM⟩
    ·skip
     rintro a w ⟨hE,hM⟩
     refine Yg ?_
     have ht20:=Option.some.inj hF15
     subst ht20
     refine Zk ?_
     exact ⟨hE.sub ⟨rfl,rfl,rfl,rfl,rfl,trivial⟩,hM⟩
   ·skip
    rintro a w ⟨hE,hM⟩
    refine wp_region_lit (Zi hE Za ld rfl rfl rfl fun a hE=>Zd hE Za ld rfl fun a hE=>Zj (Zk ?_))
    exact ⟨_,(ois hF11),hE.sub ⟨rfl,rfl,rfl,rfl,rfl,trivial⟩,hM⟩
  ·intro hb8
   have hs5:=ZA hs5 hb8
   refine wp_exit (Zo (Zo (Yt ?_)))
   have ht21:=hx6 _ (ois hs5)
   subst ht21
   refine Zk ?_
   exact ⟨hE.sub ⟨rfl,rfl,trivial⟩,hM⟩
 ·skip
  rintro a w ⟨hE,hM⟩
  refine Zy (Zc (Zd hE Za ld rfl fun a hE=>Zd hE Za ld rfl ?_)); intro a hE
  obtain ⟨r22,e23,hF3⟩:=bind_some hF3
  refine Zv hE Za ld rfl cb98 (T0 _ j1 p0 8 r22 e23) ?_
  rintro v w a ⟨rfl,hK⟩ hE
  have hM:=hM.keep hK
  refine XW hE Za ld rfl Try.underlying2 Try.underlying5 ?_; intro a hE
  rw [Xq] at hE
  refine Ze hE Za ld rfl fun a hE=>Zf ?_
  have hr:=Option.some.inj hF3
  subst hr
  exact wp_ret (ZC hE rfl (Zx hE rfl) ⟨_,rfl,rfl,hM.kept⟩)
def XG (p0 : Int) (s4 : UInt8 × Int × UInt8) : Option (Fl (UInt8 × Int × UInt8) UInt8) :=
 if (decide (s4.2.1 > 0)) = true then (((if ((Int.tmod s4.2.1 2) == 1) = true then ((ZN p0 s4.2.2 s4.1).bind fun r16=>some r16) else (some s4.2.2) : Option (UInt8)).bind fun j12=>(ZN p0 s4.1 s4.1).bind fun r20=>some (r20,j12) : Option (UInt8 × UInt8)).bind fun j9=>some (Fl.nx (j9.1,wr (Int.tdiv s4.2.1 2),j9.2))) else (some (Fl.ex s4.2.2))
def YD (p0 : Int) (p1 : UInt8) (p2 : Int) : Option (UInt8) :=
 (ZD (XG p0) (p1,p2,1)).bind fun j1=>some j1
theorem UZ (w0 : World) (p0 : Int) (p1 : UInt8) (p2 : Int) (r : UInt8) (hF : YD p0 p1 p2 = some r) :
  Calls Try.prog 159 [vI p0,vB p1,vI p2].toArray w0 (fun en w'=>∃ v,en = .returned v ∧ (v = (vB r) ∧ Kept (Old w0) w0 w')):=by
 refine ZB (n:=24) Try.func159 rfl rfl (nbl rfl) rfl ?_
 intro a hE
 have hM:=M.start w0
 unfold YD at hF
 refine Zc (Ze hE Za ld rfl fun a hE=>Zf (Zc (Ze hE Za ld rfl fun a hE=>Zf ?_)))
 obtain ⟨j1,hl2,hF3⟩:=bind_some hF
 refine ZQ (fun a w=>Env 24 a [(7,vB j1)] ∧ M (Old w0) w0 w []) ?_ ?_
 ·skip
  refine wp_block ?_
  refine ZG (fun (s4 : UInt8 × Int × UInt8) a w=>Env 24 a [(0,vI p0),(1,vB s4.1),(2,vI s4.2.1),(7,vB s4.2.2)] ∧ M (Old w0) w0 w []) hl2 ⟨hE.sub ⟨rfl,rfl,rfl,rfl,trivial⟩,hM⟩ ?_
  rintro s4 a w ⟨hE,hM⟩ o7 hs5 hx6
  unfold XG at hs5
  refine wp_seq (Zc (Zd hE Za ld rfl fun a hE=>Zi hE Za ld rfl rfl rfl fun a hE=>Zf ?_))
  refine Zw hE rfl ?_ ?_
  ·intro hb8
   have hs5:=Zz hs5 hb8
   refine wp_skip (Zy ?_)
   obtain ⟨j9,hl10,hF11⟩:=bind_some hs5
   refine ZQ (fun a w=>Env 24 a [(0,vI p0),(1,vB j9.1),(2,vI s4.2.1),(7,vB j9.2)] ∧ M (Old w0) w0 w []) ?_ ?_
   ·skip
    refine wp_block ?_
    obtain ⟨j12,hl13,hF14⟩:=bind_some hl10
    refine ZQ (fun a w=>Env 24 a [(0,vI p0),(1,vB s4.1),(2,vI s4.2.1),(7,vB j12)] ∧ M (Old w0) w0 w []) ?_ ?_
    ·skip
     refine Zc (Zd hE Za ld rfl fun a hE=>Zi hE Za ld rfl rfl (QD _ _ (by decide)) fun a hE=>Zi hE Za ld rfl rfl rfl fun a hE=>Zf ?_)
     refine Zw hE rfl ?_ ?_
     ·intro hb15
      have hl13:=Zz hl13 hb15
      refine wp_region_lit (Zd hE Za ld rfl fun a hE=>Zd hE Za ld rfl fun a hE=>Zd hE Za ld rfl ?_); intro a hE
      obtain ⟨r16,e17,hl13⟩:=bind_some hl13
      refine Zv hE Za ld rfl TX (Z5 _ p0 s4.2.2 s4.1 r16 e17) ?_
      rintro v w a ⟨rfl,hK⟩ hE
      have hM:=hM.keep hK
      refine Ze hE Za ld rfl fun a hE=>Zj ?_
      have ht18:=Option.some.inj hl13
      subst ht18
      refine Zk ?_
      exact ⟨hE.sub ⟨rfl,rfl,rfl,rfl,trivial⟩,hM⟩
     ·intro hb15
      have hl13:=ZA hl13 hb15
      refine wp_skip ?_
      have ht19:=Option.some.inj hl13
      subst ht19
      refine Zk ?_
      exact ⟨hE.sub ⟨rfl,rfl,rfl,rfl,trivial⟩,hM⟩
    ·skip
     rintro a w ⟨hE,hM⟩
     refine wp_region_lit (Zd hE Za ld rfl fun a hE=>Zd hE Za ld rfl fun a hE=>Zd hE Za ld rfl ?_); intro a hE
     obtain ⟨r20,e21,hF14⟩:=bind_some hF14
     refine Zv hE Za ld rfl TX (Z5 _ p0 s4.1 s4.1 r20 e21) ?_
     rintro v w a ⟨rfl,hK⟩ hE
     have hM:=hM.keep hK
     refine Ze hE Za ld rfl fun a hE=>Zj (Yg ?_)
     have ht22:=Option.some.inj hF14
     subst ht22
     refine Zk ?_
     exact ⟨hE.sub ⟨rfl,rfl,rfl,rfl,trivial⟩,hM⟩
   ·skip
    rintro a w ⟨hE,hM⟩
    refine wp_region_lit (Zd hE Za ld rfl fun a hE=>Zi hE Za ld rfl rfl (Qz _ _ (by decide)) fun a hE=>Ze hE Za ld rfl fun a hE=>Zj (Zk ?_))
    exact ⟨_,(ois hF11),hE.sub ⟨rfl,rfl,rfl,rfl,trivial⟩,hM⟩
  ·intro hb8
   have hs5:=ZA hs5 hb8
   refine wp_exit (Zo (Zo (Yt ?_)))
   have ht23:=hx6 _ (ois hs5)
   subst ht23
   refine Zk ?_
   exact ⟨hE.sub ⟨rfl,trivial⟩,hM⟩
 ·skip
  rintro a w ⟨hE,hM⟩
  refine Zc (Zd hE Za ld rfl fun a hE=>Ze hE Za ld rfl fun a hE=>Zf ?_)
  have hr:=Option.some.inj hF3
  subst hr
  exact wp_ret (ZC hE rfl (Zx hE rfl) ⟨_,rfl,rfl,hM.kept⟩)
def YN (p0 : Int) (p1 : UInt8) : Option (UInt8) :=
 (YD p0 p1 254).bind fun r1=>some r1
theorem Uh (w0 : World) (p0 : Int) (p1 : UInt8) (r : UInt8) (hF : YN p0 p1 = some r) :
  Calls Try.prog 154 [vI p0,vB p1].toArray w0 (fun en w'=>∃ v,en = .returned v ∧ (v = (vB r) ∧ Kept (Old w0) w0 w')):=by
 refine ZB (n:=8) Try.func154 rfl rfl (nbl rfl) rfl ?_
 intro a hE
 have hM:=M.start w0
 unfold YN at hF
 refine Zc (Ze hE Za ld rfl fun a hE=>Zf (Zc (Zd hE Za ld rfl fun a hE=>Zd hE Za ld rfl ?_))); intro a hE
 obtain ⟨r1,e2,hF⟩:=bind_some hF
 refine Zv hE Za ld rfl cb159 (UZ _ p0 p1 254 r1 e2) ?_
 rintro v w a ⟨rfl,hK⟩ hE
 have hM:=hM.keep hK
 refine Ze hE Za ld rfl fun a hE=>Zf ?_
 have hr:=Option.some.inj hF
 subst hr
 exact wp_ret (ZC hE rfl (Zx hE rfl) ⟨_,rfl,rfl,hM.kept⟩)
def Wm (s13 : (Vector (Vector UInt8 4) 4) × (Vector (Vector UInt8 4) 4) × Int × UInt8) (s21 : Int) : Option (Fl Int Int) :=
 (if (decide (s21 < 4)) = true then ((Zq s13.1 s21).bind fun x30=>(Zq x30 s13.2.2.1).bind fun x33=>some (x33 == 0)) else (some false) : Option (Bool)).bind fun j25=>if j25 = true then (some (Fl.nx (wr (s21 + 1)))) else (some (Fl.ex s21))
def YH (p0 : Int) (s13 : (Vector (Vector UInt8 4) 4) × (Vector (Vector UInt8 4) 4) × Int × UInt8) (r90 : UInt8) (s95 : (Vector (Vector UInt8 4) 4) × (Vector (Vector UInt8 4) 4) × Int) : Option (Fl ((Vector (Vector UInt8 4) 4) × (Vector (Vector UInt8 4) 4) × Int) ((Vector (Vector UInt8 4) 4) × (Vector (Vector UInt8 4) 4))) :=
 if (decide (s95.2.2 < 4)) = true then ((Zq s95.1 s13.2.2.1).bind fun x102=>(Zq x102 s95.2.2).bind fun x105=>(ZN p0 x105 r90).bind fun r107=>(Zq s95.2.1 s13.2.2.1).bind fun x110=>(Zq x110 s95.2.2).bind fun x113=>(ZN p0 x113 r90).bind fun r115=>(Zq s95.1 s13.2.2.1).bind fun x118=>(Zq x118 s95.2.2).bind fun x121=>(Zq s95.2.1 s13.2.2.1).bind fun x124=>(Zq x124 s95.2.2).bind fun x127=>some (Fl.nx ((s95.1.setIfInBounds (s13.2.2.1).toNat (x118.setIfInBounds (s95.2.2).toNat r107)),(s95.2.1.setIfInBounds (s13.2.2.1).toNat (x124.setIfInBounds (s95.2.2).toNat r115)),wr (s95.2.2 + 1)))) else (some (Fl.ex (s95.1,s95.2.1)))
def YG (p0 : Int) (s13 : (Vector (Vector UInt8 4) 4) × (Vector (Vector UInt8 4) 4) × Int × UInt8) (s133 : (Vector (Vector UInt8 4) 4) × (Vector (Vector UInt8 4) 4) × Int) (x145 : UInt8) (s160 : (Vector (Vector UInt8 4) 4) × (Vector (Vector UInt8 4) 4) × Int) : Option (Fl ((Vector (Vector UInt8 4) 4) × (Vector (Vector UInt8 4) 4) × Int) ((Vector (Vector UInt8 4) 4) × (Vector (Vector UInt8 4) 4))) :=
 if (decide (s160.2.2 < 4)) = true then (((Zq s160.1 s133.2.2).bind fun x170=>(Zq x170 s160.2.2).bind fun x173=>(Zq s160.1 s13.2.2.1).bind fun x176=>(Zq x176 s160.2.2).bind fun x179=>(ZN p0 x145 x179).bind fun r181=>(Zq s160.1 s133.2.2).bind fun x184=>(Zq x184 s160.2.2).bind fun x187=>some (s160.1.setIfInBounds (s133.2.2).toNat (x184.setIfInBounds (s160.2.2).toNat (x173 ^^^ r181))) : Option ((Vector (Vector UInt8 4) 4))).bind fun j165=>(Zq s160.2.1 s133.2.2).bind fun x192=>(Zq x192 s160.2.2).bind fun x195=>(Zq s160.2.1 s13.2.2.1).bind fun x198=>(Zq x198 s160.2.2).bind fun x201=>(ZN p0 x145 x201).bind fun r203=>(Zq s160.2.1 s133.2.2).bind fun x206=>(Zq x206 s160.2.2).bind fun x209=>some (Fl.nx (j165,(s160.2.1.setIfInBounds (s133.2.2).toNat (x206.setIfInBounds (s160.2.2).toNat (x195 ^^^ r203))),wr (s160.2.2 + 1)))) else (some (Fl.ex (s160.1,s160.2.1)))
def YM (p0 : Int) (s13 : (Vector (Vector UInt8 4) 4) × (Vector (Vector UInt8 4) 4) × Int × UInt8) (s133 : (Vector (Vector UInt8 4) 4) × (Vector (Vector UInt8 4) 4) × Int) : Option (Fl ((Vector (Vector UInt8 4) 4) × (Vector (Vector UInt8 4) 4) × Int) ((Vector (Vector UInt8 4) 4) × (Vector (Vector UInt8 4) 4))) :=
 if (decide (s133.2.2 < 4)) = true then (((Zq s133.1 s133.2.2).bind fun x142=>(Zq x142 s13.2.2.1).bind fun x145=>(if (s133.2.2 != s13.2.2.1) = true then (some (x145 != 0)) else (some false) : Option (Bool)).bind fun j147=>(if j147 = true then ((ZD (YG p0 s13 s133 x145) (s133.1,s133.2.1,0)).bind fun j157=>some (j157.1,j157.2)) else (some (s133.1,s133.2.1)) : Option ((Vector (Vector UInt8 4) 4) × (Vector (Vector UInt8 4) 4))).bind fun j153=>some (j153.1,j153.2) : Option ((Vector (Vector UInt8 4) 4) × (Vector (Vector UInt8 4) 4))).bind fun j138=>some (Fl.nx (j138.1,j138.2,wr (s133.2.2 + 1)))) else (some (Fl.ex (s133.1,s133.2.1)))
def Z7 (p0 : Int) (s13 : (Vector (Vector UInt8 4) 4) × (Vector (Vector UInt8 4) 4) × Int × UInt8) : Option (Fl ((Vector (Vector UInt8 4) 4) × (Vector (Vector UInt8 4) 4) × Int × UInt8) (Fl ((Vector (Vector UInt8 4) 4) × UInt8) (UInt8 × (Vector (Vector UInt8 4) 4)))) :=
 if (decide (s13.2.2.1 < 4)) = true then ((ZD (Wm s13) s13.2.2.1).bind fun j18=>if (j18 == 4) = true then (some (Fl.ex (Fl.ex (0,(Vector.replicate 4 (Vector.replicate 4 (0 : UInt8))))))) else (((Zq s13.1 s13.2.2.1).bind fun x47=>(Zq s13.1 j18).bind fun x50=>(Zq s13.1 j18).bind fun x53=>(Zq (s13.1.setIfInBounds (j18).toNat x47) s13.2.2.1).bind fun x56=>some ((s13.1.setIfInBounds (j18).toNat x47).setIfInBounds (s13.2.2.1).toNat x50) : Option ((Vector (Vector UInt8 4) 4))).bind fun j42=>((Zq s13.2.1 s13.2.2.1).bind fun x64=>(Zq s13.2.1 j18).bind fun x67=>(Zq s13.2.1 j18).bind fun x70=>(Zq (s13.2.1.setIfInBounds (j18).toNat x64) s13.2.2.1).bind fun x73=>some ((s13.2.1.setIfInBounds (j18).toNat x64).setIfInBounds (s13.2.2.1).toNat x67) : Option ((Vector (Vector UInt8 4) 4))).bind fun j59=>(Zq j42 s13.2.2.1).bind fun x77=>(Zq x77 s13.2.2.1).bind fun x80=>(ZN p0 s13.2.2.2 x80).bind fun r82=>(Zq j42 s13.2.2.1).bind fun x85=>(Zq x85 s13.2.2.1).bind fun x88=>(YN p0 x88).bind fun r90=>(ZD (YH p0 s13 r90) (j42,j59,0)).bind fun j92=>(ZD (YM p0 s13) (j92.1,j92.2,0)).bind fun j130=>some (Fl.nx (j130.1,j130.2,wr (s13.2.2.1 + 1),r82)))) else (some (Fl.ex (Fl.nx (s13.2.1,s13.2.2.2))))
def Yb (p0 : Int) (p1 : (Vector (Vector UInt8 4) 4)) : Option (UInt8 × (Vector (Vector UInt8 4) 4)) :=
 (Xz).bind fun r5=>(ZD (Z7 p0) (p1,r5,0,1)).bind fun j9=>j9.el (fun s12=>(some (s12.1,s12.2) : Option ((Vector (Vector UInt8 4) 4) × UInt8)).bind fun j217=>some (j217.2,j217.1)) (fun r=>some r)
end

end Go.Proofs.Ytpjogonponkbmaa
