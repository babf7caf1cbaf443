/- The walk of what the law reaches: contracts of functions. -/
import Derived.Test.YtifdeoikcebbjaaK2
import Derived.Test.YtifdeoikcebbjaaProg
set_option linter.unusedVariables false
set_option linter.unusedSimpArgs false
set_option maxRecDepth 20000
set_option maxHeartbeats 400000
namespace Go.Proofs.Ytifdeoikcebbjaa
open Go
structure GBlobs where
 Keys : (List (Vector UInt8 32))
 Data : (List (List UInt8))
 Counts : (List Int)
 deriving DecidableEq, Inhabited
instance : Dat GBlobs := ⟨fun x => Dat.bd (α := (List (Vector UInt8 32)) × (List (List UInt8)) × (List Int)) (x.Keys, x.Data, x.Counts), fun x => Dat.sz (α := (List (Vector UInt8 32)) × (List (List UInt8)) × (List Int)) (x.Keys, x.Data, x.Counts) + 1⟩
instance : Rep GBlobs := repIso (α := (List (Vector UInt8 32)) × (List (List UInt8)) × (List Int)) (fun x => (x.Keys, x.Data, x.Counts))
theorem unf_GBlobs {S : Nat → Prop} {w : World} {x : GBlobs} {cs : List Value} {fp : List Nat} (h : Rep.sat S w x cs fp) : ∃ (u1 : Value) (u2 : Value) (u3 : Value), ∃ (g1 : List Nat) (g2 : List Nat) (g3 : List Nat), cs = cat [[u1], [u2], [u3]] ∧ fp = (g1 ++ (g2 ++ g3)) ∧ Rep.sat S w x.Keys [u1] g1 ∧ Rep.sat S w x.Data [u2] g2 ∧ Rep.sat S w x.Counts [u3] g3 := by
 obtain ⟨c0, d0, f0, q0, rfl, rfl, h0, hr0⟩ := h
 obtain ⟨u1, rfl⟩ := Vp h0
 obtain ⟨c1, d1, f1, q1, rfl, rfl, h1, hr1⟩ := hr0
 obtain ⟨u2, rfl⟩ := Vp h1
 obtain ⟨u3, rfl⟩ := Vp hr1
 exact ⟨u1, u2, u3, _, _, _, rfl, by simp, h0, h1, hr1⟩
theorem unc_GBlobs {S : Nat → Prop} {w : World} {x : GBlobs} {u1 u2 u3 : Value} {fp : List Nat} (h : Rep.sat S w x (cat [[u1], [u2], [u3]]) fp) : ∃ (g1 : List Nat) (g2 : List Nat) (g3 : List Nat), fp = (g1 ++ (g2 ++ g3)) ∧ Rep.sat S w x.Keys [u1] g1 ∧ Rep.sat S w x.Data [u2] g2 ∧ Rep.sat S w x.Counts [u3] g3 := by
 obtain ⟨w1, w2, w3, g1, g2, g3, hc, hf, s1, s2, s3⟩ := unf_GBlobs h
 obtain ⟨e1, k1⟩ := cat_inj hc rfl
 obtain ⟨e2, k2⟩ := cat_inj k1 rfl
 obtain rfl := (List.cons.inj e1).1
 obtain rfl := (List.cons.inj e2).1
 obtain rfl := (List.cons.inj k2).1
 exact ⟨g1, g2, g3, hf, s1, s2, s3⟩
theorem un_GBlobs {S : Nat → Prop} {w : World} {x : GBlobs} {cs : List Value} (h : Rep.sat S w x cs []) : ∃ u1 u2 u3, cs = cat [[u1], [u2], [u3]] ∧ Rep.sat S w x.Keys [u1] [] ∧ Rep.sat S w x.Data [u2] [] ∧ Rep.sat S w x.Counts [u3] [] := by
 obtain ⟨c0, d0, f0, g0, rfl, hf0, h0, hr0⟩ := h
 obtain ⟨rfl, rfl⟩ := List.append_eq_nil_iff.1 hf0.symm
 obtain ⟨u1, rfl⟩ := Vp h0
 obtain ⟨c1, d1, f1, g1, rfl, hf1, h1, hr1⟩ := hr0
 obtain ⟨rfl, rfl⟩ := List.append_eq_nil_iff.1 hf1.symm
 obtain ⟨u2, rfl⟩ := Vp h1
 obtain ⟨u3, rfl⟩ := Vp hr1
 exact ⟨u1, u2, u3, rfl, h0, h1, hr1⟩
theorem pk_GBlobs {S : Nat → Prop} {w : World} {x : GBlobs} {u1 u2 u3 : Value} {g1 g2 g3 fp : List Nat} (h1 : Rep.sat S w x.Keys [u1] g1) (h2 : Rep.sat S w x.Data [u2] g2) (h3 : Rep.sat S w x.Counts [u3] g3) (hfp : fp = (g1 ++ (g2 ++ g3))) : Rep.sat S w x (cat [[u1], [u2], [u3]]) fp := by
 rw [hfp]
 refine ⟨_, _, g1, (g2 ++ g3), rfl, (by simp), h1, ?_⟩
 refine ⟨_, _, g2, g3, rfl, (by simp), h2, ?_⟩
 exact h3
theorem zsat_GBlobs (w : World) : Rep.sat NoB w (⟨([] : (List (Vector UInt8 32))), ([] : (List (List UInt8))), ([] : (List Int))⟩ : GBlobs) (cat [[.slice none 0 0], [.slice none 0 0], [.slice none 0 0]]) [] := pk_GBlobs zsat_nil zsat_nil zsat_nil rfl
structure GCipher where
 Field : Int
 Box : (Vector UInt8 256)
 Mix : (Vector (Vector UInt8 4) 4)
 Places : (Vector UInt8 16)
 Rounds : Int
 deriving DecidableEq, Inhabited
instance : Dat GCipher := ⟨fun x => Dat.bd (α := Int × (Vector UInt8 256) × (Vector (Vector UInt8 4) 4) × (Vector UInt8 16) × Int) (x.Field, x.Box, x.Mix, x.Places, x.Rounds), fun x => Dat.sz (α := Int × (Vector UInt8 256) × (Vector (Vector UInt8 4) 4) × (Vector UInt8 16) × Int) (x.Field, x.Box, x.Mix, x.Places, x.Rounds) + 1⟩
instance : Flat GCipher where
 n := 290
 enc x := cat [Flat.enc x.Field, Flat.enc x.Box, Flat.enc x.Mix, Flat.enc x.Places, Flat.enc x.Rounds]
 len x := ZR (cl1 (Flat.len _) (cl1 (Flat.len _) (cl1 (Flat.len _) (cl1 (Flat.len _) (cl1 (Flat.len _) cl0)))))
 cell x := cat_cell (cc1 (Flat.cell _) (cc1 (Flat.cell _) (cc1 (Flat.cell _) (cc1 (Flat.cell _) (cc1 (Flat.cell _) cc0)))))
structure Gengine where
 box : (Vector UInt8 256)
 backBox : (Vector UInt8 256)
 places : (Vector UInt8 16)
 backPlaces : (Vector UInt8 16)
 mixer : (Ref (Vector (Vector (Vector UInt8 256) 4) 4))
 backMixer : (Ref (Vector (Vector (Vector UInt8 256) 4) 4))
 rounds : Int
 deriving DecidableEq, Inhabited
instance : Dat Gengine := ⟨fun x => Dat.bd (α := (Vector UInt8 256) × (Vector UInt8 256) × (Vector UInt8 16) × (Vector UInt8 16) × (Ref (Vector (Vector (Vector UInt8 256) 4) 4)) × (Ref (Vector (Vector (Vector UInt8 256) 4) 4)) × Int) (x.box, x.backBox, x.places, x.backPlaces, x.mixer, x.backMixer, x.rounds), fun x => Dat.sz (α := (Vector UInt8 256) × (Vector UInt8 256) × (Vector UInt8 16) × (Vector UInt8 16) × (Ref (Vector (Vector (Vector UInt8 256) 4) 4)) × (Ref (Vector (Vector (Vector UInt8 256) 4) 4)) × Int) (x.box, x.backBox, x.places, x.backPlaces, x.mixer, x.backMixer, x.rounds) + 1⟩
instance : Rep Gengine := repIso (α := (Vector UInt8 256) × (Vector UInt8 256) × (Vector UInt8 16) × (Vector UInt8 16) × (Ref (Vector (Vector (Vector UInt8 256) 4) 4)) × (Ref (Vector (Vector (Vector UInt8 256) 4) 4)) × Int) (fun x => (x.box, x.backBox, x.places, x.backPlaces, x.mixer, x.backMixer, x.rounds))
theorem unf_Gengine {S : Nat → Prop} {w : World} {x : Gengine} {cs : List Value} {fp : List Nat} (h : Rep.sat S w x cs fp) : ∃ (u1 : Value) (u2 : Value), ∃ (g1 : List Nat) (g2 : List Nat), cs = cat [Flat.enc x.box, Flat.enc x.backBox, Flat.enc x.places, Flat.enc x.backPlaces, [u1], [u2], Flat.enc x.rounds] ∧ fp = (g1 ++ g2) ∧ Rep.sat S w x.mixer [u1] g1 ∧ Rep.sat S w x.backMixer [u2] g2 := by
 obtain ⟨c0, d0, f0, q0, rfl, rfl, h0, hr0⟩ := h
 obtain ⟨rfl, rfl⟩ := h0
 obtain ⟨c1, d1, f1, q1, rfl, rfl, h1, hr1⟩ := hr0
 obtain ⟨rfl, rfl⟩ := h1
 obtain ⟨c2, d2, f2, q2, rfl, rfl, h2, hr2⟩ := hr1
 obtain ⟨rfl, rfl⟩ := h2
 obtain ⟨c3, d3, f3, q3, rfl, rfl, h3, hr3⟩ := hr2
 obtain ⟨rfl, rfl⟩ := h3
 obtain ⟨c4, d4, f4, q4, rfl, rfl, h4, hr4⟩ := hr3
 obtain ⟨u1, rfl⟩ := ref_one h4
 obtain ⟨c5, d5, f5, q5, rfl, rfl, h5, hr5⟩ := hr4
 obtain ⟨u2, rfl⟩ := ref_one h5
 obtain ⟨rfl, rfl⟩ := hr5
 exact ⟨u1, u2, _, _, rfl, by simp, h4, h5⟩
theorem unc_Gengine {S : Nat → Prop} {w : World} {x : Gengine} {u1 u2 : Value} {fp : List Nat} (h : Rep.sat S w x (cat [Flat.enc x.box, Flat.enc x.backBox, Flat.enc x.places, Flat.enc x.backPlaces, [u1], [u2], Flat.enc x.rounds]) fp) : ∃ (g1 : List Nat) (g2 : List Nat), fp = (g1 ++ g2) ∧ Rep.sat S w x.mixer [u1] g1 ∧ Rep.sat S w x.backMixer [u2] g2 := by
 obtain ⟨w1, w2, g1, g2, hc, hf, s1, s2⟩ := unf_Gengine h
 obtain ⟨e1, k1⟩ := cat_inj hc rfl
 obtain ⟨e2, k2⟩ := cat_inj k1 rfl
 obtain ⟨e3, k3⟩ := cat_inj k2 rfl
 obtain ⟨e4, k4⟩ := cat_inj k3 rfl
 obtain ⟨e5, k5⟩ := cat_inj k4 rfl
 obtain ⟨e6, k6⟩ := cat_inj k5 rfl
 obtain rfl := (List.cons.inj e5).1
 obtain rfl := (List.cons.inj e6).1
 exact ⟨g1, g2, hf, s1, s2⟩
theorem un_Gengine {S : Nat → Prop} {w : World} {x : Gengine} {cs : List Value} (h : Rep.sat S w x cs []) : ∃ u1 u2, cs = cat [Flat.enc x.box, Flat.enc x.backBox, Flat.enc x.places, Flat.enc x.backPlaces, [u1], [u2], Flat.enc x.rounds] ∧ Rep.sat S w x.mixer [u1] [] ∧ Rep.sat S w x.backMixer [u2] [] := by
 obtain ⟨c0, d0, f0, g0, rfl, hf0, h0, hr0⟩ := h
 obtain ⟨rfl, rfl⟩ := List.append_eq_nil_iff.1 hf0.symm
 obtain ⟨rfl, _⟩ := h0
 obtain ⟨c1, d1, f1, g1, rfl, hf1, h1, hr1⟩ := hr0
 obtain ⟨rfl, rfl⟩ := List.append_eq_nil_iff.1 hf1.symm
 obtain ⟨rfl, _⟩ := h1
 obtain ⟨c2, d2, f2, g2, rfl, hf2, h2, hr2⟩ := hr1
 obtain ⟨rfl, rfl⟩ := List.append_eq_nil_iff.1 hf2.symm
 obtain ⟨rfl, _⟩ := h2
 obtain ⟨c3, d3, f3, g3, rfl, hf3, h3, hr3⟩ := hr2
 obtain ⟨rfl, rfl⟩ := List.append_eq_nil_iff.1 hf3.symm
 obtain ⟨rfl, _⟩ := h3
 obtain ⟨c4, d4, f4, g4, rfl, hf4, h4, hr4⟩ := hr3
 obtain ⟨rfl, rfl⟩ := List.append_eq_nil_iff.1 hf4.symm
 obtain ⟨u1, rfl⟩ := ref_one h4
 obtain ⟨c5, d5, f5, g5, rfl, hf5, h5, hr5⟩ := hr4
 obtain ⟨rfl, rfl⟩ := List.append_eq_nil_iff.1 hf5.symm
 obtain ⟨u2, rfl⟩ := ref_one h5
 obtain ⟨rfl, _⟩ := hr5
 exact ⟨u1, u2, rfl, h4, h5⟩
theorem pk_Gengine {S : Nat → Prop} {w : World} {x : Gengine} {u1 u2 : Value} {g1 g2 fp : List Nat} (h1 : Rep.sat S w x.mixer [u1] g1) (h2 : Rep.sat S w x.backMixer [u2] g2) (hfp : fp = (g1 ++ g2)) : Rep.sat S w x (cat [Flat.enc x.box, Flat.enc x.backBox, Flat.enc x.places, Flat.enc x.backPlaces, [u1], [u2], Flat.enc x.rounds]) fp := by
 rw [hfp]
 refine ⟨_, _, [], (g1 ++ g2), rfl, (by simp), ⟨rfl, rfl⟩, ?_⟩
 refine ⟨_, _, [], (g1 ++ g2), rfl, (by simp), ⟨rfl, rfl⟩, ?_⟩
 refine ⟨_, _, [], (g1 ++ g2), rfl, (by simp), ⟨rfl, rfl⟩, ?_⟩
 refine ⟨_, _, [], (g1 ++ g2), rfl, (by simp), ⟨rfl, rfl⟩, ?_⟩
 refine ⟨_, _, g1, g2, rfl, (by simp), h1, ?_⟩
 refine ⟨_, _, g2, [], rfl, (by simp), h2, ?_⟩
 exact ⟨rfl, rfl⟩
structure Ghasher where
 engine : (Ref Gengine)
 deriving DecidableEq, Inhabited
instance : Dat Ghasher := ⟨fun x => Dat.bd (α := (Ref Gengine)) (x.engine), fun x => Dat.sz (α := (Ref Gengine)) (x.engine) + 1⟩
instance : Rep Ghasher := repIso (α := (Ref Gengine)) (fun x => (x.engine))
theorem unf_Ghasher {S : Nat → Prop} {w : World} {x : Ghasher} {cs : List Value} {fp : List Nat} (h : Rep.sat S w x cs fp) : ∃ (u1 : Value), ∃ (g1 : List Nat), cs = cat [[u1]] ∧ fp = g1 ∧ Rep.sat S w x.engine [u1] g1 := by
 obtain ⟨u1, rfl⟩ := ref_one h
 exact ⟨u1, _, rfl, by simp, h⟩
theorem unc_Ghasher {S : Nat → Prop} {w : World} {x : Ghasher} {u1 : Value} {fp : List Nat} (h : Rep.sat S w x (cat [[u1]]) fp) : ∃ (g1 : List Nat), fp = g1 ∧ Rep.sat S w x.engine [u1] g1 := by
 obtain ⟨w1, g1, hc, hf, s1⟩ := unf_Ghasher h
 obtain rfl := (List.cons.inj hc).1
 exact ⟨g1, hf, s1⟩
theorem un_Ghasher {S : Nat → Prop} {w : World} {x : Ghasher} {cs : List Value} (h : Rep.sat S w x cs []) : ∃ u1, cs = cat [[u1]] ∧ Rep.sat S w x.engine [u1] [] := by
 obtain ⟨u1, rfl⟩ := ref_one h
 exact ⟨u1, rfl, h⟩
theorem pk_Ghasher {S : Nat → Prop} {w : World} {x : Ghasher} {u1 : Value} {g1 fp : List Nat} (h1 : Rep.sat S w x.engine [u1] g1) (hfp : fp = g1) : Rep.sat S w x (cat [[u1]]) fp := by
 rw [hfp]
 exact h1
theorem ty2 : Ty Try.prog 2 (.int .i64) 1 8 (Flat.enc (0 : Int)) := ⟨Try.underlying2, by kernel_rfl⟩
theorem ty5 : Ty Try.prog 5 (.int .u8) 1 1 (Flat.enc (0 : UInt8)) := ⟨Try.underlying5, by kernel_rfl⟩
theorem ty24 : Ty Try.prog 24 (.array 32 5) 32 32 (Flat.enc (Vector.replicate 32 (0 : UInt8))) := ⟨Try.underlying24, by kernel_rfl⟩
theorem Yi : Ty Try.prog 25 (.array 32 5) 32 32 (Flat.enc (Vector.replicate 32 (0 : UInt8))) := ⟨Try.underlying25, by kernel_rfl⟩
theorem ZP : Ty Try.prog 39 (.array 16 5) 16 16 (Flat.enc (Vector.replicate 16 (0 : UInt8))) := ⟨Try.underlying39, by kernel_rfl⟩
theorem ty44 : Ty Try.prog 44 (.slice 24) 1 24 [.slice none 0 0] := ⟨Try.underlying44, by kernel_rfl⟩
theorem ty45 : Ty Try.prog 45 (.slice 50) 1 24 [.slice none 0 0] := ⟨Try.underlying45, by kernel_rfl⟩
theorem ty46 : Ty Try.prog 46 (.slice 2) 1 24 [.slice none 0 0] := ⟨Try.underlying46, by kernel_rfl⟩
theorem ty48 : Ty Try.prog 48 (.struct [{ name := "Keys", type := 44, offset := 0, embedded := false, tag := "", pkgPath := "", byteOffset := 0 }, { name := "Data", type := 45, offset := 1, embedded := false, tag := "", pkgPath := "", byteOffset := 24 }, { name := "Counts", type := 46, offset := 2, embedded := false, tag := "", pkgPath := "", byteOffset := 48 }].toArray) 3 72 (cat [[.slice none 0 0], [.slice none 0 0], [.slice none 0 0]]) := ⟨Try.underlying48, by kernel_rfl⟩
theorem VD : Ty Try.prog 50 (.slice 5) 1 24 [.slice none 0 0] := ⟨Try.underlying50, by kernel_rfl⟩
theorem ty53 : Ty Try.prog 53 (.slice 25) 1 24 [.slice none 0 0] := ⟨Try.underlying53, by kernel_rfl⟩
theorem ty55 : Ty Try.prog 55 (.struct [{ name := "Keys", type := 53, offset := 0, embedded := false, tag := "", pkgPath := "", byteOffset := 0 }, { name := "Data", type := 45, offset := 1, embedded := false, tag := "", pkgPath := "", byteOffset := 24 }, { name := "Counts", type := 46, offset := 2, embedded := false, tag := "", pkgPath := "", byteOffset := 48 }].toArray) 3 72 (cat [[.slice none 0 0], [.slice none 0 0], [.slice none 0 0]]) := ⟨Try.underlying55, by kernel_rfl⟩
theorem ty71 : Ty Try.prog 71 (.pointer 152) 1 8 [.pointer none] := ⟨Try.underlying71, by kernel_rfl⟩
theorem ty96 : Ty Try.prog 96 (.array 256 5) 256 256 (Flat.enc (Vector.replicate 256 (0 : UInt8))) := ⟨Try.underlying96, by kernel_rfl⟩
theorem Vn : Ty Try.prog 97 (.array 256 5) 256 256 (Flat.enc (Vector.replicate 256 (0 : UInt8))) := ⟨Try.underlying97, by kernel_rfl⟩
theorem Va : Ty Try.prog 98 (.array 4 5) 4 4 (Flat.enc (Vector.replicate 4 (0 : UInt8))) := ⟨Try.underlying98, by kernel_rfl⟩
theorem VM : Ty Try.prog 100 (.array 4 98) 16 16 (Flat.enc (Vector.replicate 4 (Vector.replicate 4 (0 : UInt8)))) := ⟨Try.underlying100, by kernel_rfl⟩
theorem ty101 : Ty Try.prog 101 (.array 16 5) 16 16 (Flat.enc (Vector.replicate 16 (0 : UInt8))) := ⟨Try.underlying101, by kernel_rfl⟩
theorem VP : Ty Try.prog 103 (.struct [{ name := "Field", type := 2, offset := 0, embedded := false, tag := "", pkgPath := "", byteOffset := 0 }, { name := "Box", type := 97, offset := 1, embedded := false, tag := "", pkgPath := "", byteOffset := 8 }, { name := "Mix", type := 100, offset := 257, embedded := false, tag := "", pkgPath := "", byteOffset := 264 }, { name := "Places", type := 101, offset := 273, embedded := false, tag := "", pkgPath := "", byteOffset := 280 }, { name := "Rounds", type := 2, offset := 289, embedded := false, tag := "", pkgPath := "", byteOffset := 296 }].toArray) 290 304 (Flat.enc (⟨(0 : Int), (Vector.replicate 256 (0 : UInt8)), (Vector.replicate 4 (Vector.replicate 4 (0 : UInt8))), (Vector.replicate 16 (0 : UInt8)), (0 : Int)⟩ : GCipher)) := ⟨Try.underlying103, by kernel_rfl⟩
theorem ty132 : Ty Try.prog 132 (.struct [{ name := "engine", type := 71, offset := 0, embedded := false, tag := "", pkgPath := "loop.example/g01182/impl", byteOffset := 0 }].toArray) 1 8 (cat [[.pointer none]]) := ⟨Try.underlying132, by kernel_rfl⟩
theorem ty149 : Ty Try.prog 149 (.pointer 168) 1 8 [.pointer none] := ⟨Try.underlying149, by kernel_rfl⟩
theorem ty152 : Ty Try.prog 152 (.struct [{ name := "box", type := 97, offset := 0, embedded := false, tag := "", pkgPath := "loop.example/g01182/impl", byteOffset := 0 }, { name := "backBox", type := 97, offset := 256, embedded := false, tag := "", pkgPath := "loop.example/g01182/impl", byteOffset := 256 }, { name := "places", type := 101, offset := 512, embedded := false, tag := "", pkgPath := "loop.example/g01182/impl", byteOffset := 512 }, { name := "backPlaces", type := 101, offset := 528, embedded := false, tag := "", pkgPath := "loop.example/g01182/impl", byteOffset := 528 }, { name := "mixer", type := 149, offset := 544, embedded := false, tag := "", pkgPath := "loop.example/g01182/impl", byteOffset := 544 }, { name := "backMixer", type := 149, offset := 545, embedded := false, tag := "", pkgPath := "loop.example/g01182/impl", byteOffset := 552 }, { name := "rounds", type := 2, offset := 546, embedded := false, tag := "", pkgPath := "loop.example/g01182/impl", byteOffset := 560 }].toArray) 547 568 (cat [(Flat.enc (Vector.replicate 256 (0 : UInt8))), (Flat.enc (Vector.replicate 256 (0 : UInt8))), (Flat.enc (Vector.replicate 16 (0 : UInt8))), (Flat.enc (Vector.replicate 16 (0 : UInt8))), [.pointer none], [.pointer none], (Flat.enc (0 : Int))]) := ⟨Try.underlying152, by kernel_rfl⟩
theorem ty166 : Ty Try.prog 166 (.array 4 96) 1024 1024 (Flat.enc (Vector.replicate 4 (Vector.replicate 256 (0 : UInt8)))) := ⟨Try.underlying166, by kernel_rfl⟩
theorem ty168 : Ty Try.prog 168 (.array 4 166) 4096 4096 (Flat.enc (Vector.replicate 4 (Vector.replicate 4 (Vector.replicate 256 (0 : UInt8))))) := ⟨Try.underlying168, by kernel_rfl⟩
theorem fd48_0 : Fd Try.prog 48 0 0 := UB ty48.und rfl rfl ty44 (by decide)
theorem fd48_1 : Fd Try.prog 48 1 1 := UB ty48.und rfl rfl ty45 (by decide)
theorem fd48_2 : Fd Try.prog 48 2 2 := UB ty48.und rfl rfl ty46 (by decide)
theorem Vz : Fd Try.prog 55 0 0 := UB ty55.und rfl rfl ty53 (by decide)
theorem UE : Fd Try.prog 55 1 1 := UB ty55.und rfl rfl ty45 (by decide)
theorem fd55_2 : Fd Try.prog 55 2 2 := UB ty55.und rfl rfl ty46 (by decide)
theorem fd103_0 : Fd Try.prog 103 0 0 := UB VP.und rfl rfl ty2 (by decide)
theorem fd103_1 : Fd Try.prog 103 1 1 := UB VP.und rfl rfl Vn (by decide)
theorem fd103_2 : Fd Try.prog 103 2 257 := UB VP.und rfl rfl VM (by decide)
theorem fd103_3 : Fd Try.prog 103 3 273 := UB VP.und rfl rfl ty101 (by decide)
theorem fd103_4 : Fd Try.prog 103 4 289 := UB VP.und rfl rfl ty2 (by decide)
theorem fd132_0 : Fd Try.prog 132 0 0 := UB ty132.und rfl rfl ty71 (by decide)
theorem fd152_0 : Fd Try.prog 152 0 0 := UB ty152.und rfl rfl Vn (by decide)
theorem fd152_1 : Fd Try.prog 152 1 256 := UB ty152.und rfl rfl Vn (by decide)
theorem fd152_2 : Fd Try.prog 152 2 512 := UB ty152.und rfl rfl ty101 (by decide)
theorem fd152_3 : Fd Try.prog 152 3 528 := UB ty152.und rfl rfl ty101 (by decide)
theorem fd152_4 : Fd Try.prog 152 4 544 := UB ty152.und rfl rfl ty149 (by decide)
theorem fd152_5 : Fd Try.prog 152 5 545 := UB ty152.und rfl rfl ty149 (by decide)
theorem fd152_6 : Fd Try.prog 152 6 546 := UB ty152.und rfl rfl ty2 (by decide)
theorem pl103 : Places Try.prog [{ name := "Field", type := 2, offset := 0, embedded := false, tag := "", pkgPath := "", byteOffset := 0 }, { name := "Box", type := 97, offset := 1, embedded := false, tag := "", pkgPath := "", byteOffset := 8 }, { name := "Mix", type := 100, offset := 257, embedded := false, tag := "", pkgPath := "", byteOffset := 264 }, { name := "Places", type := 101, offset := 273, embedded := false, tag := "", pkgPath := "", byteOffset := 280 }, { name := "Rounds", type := 2, offset := 289, embedded := false, tag := "", pkgPath := "", byteOffset := 296 }] [(0, 1), (1, 256), (257, 16), (273, 16), (289, 1)] := by show _ = _; kernel_rfl
theorem pl132 : Places Try.prog [{ name := "engine", type := 71, offset := 0, embedded := false, tag := "", pkgPath := "loop.example/g01182/impl", byteOffset := 0 }] [(0, 1)] := by show _ = _; kernel_rfl
theorem pl152 : Places Try.prog [{ name := "box", type := 97, offset := 0, embedded := false, tag := "", pkgPath := "loop.example/g01182/impl", byteOffset := 0 }, { name := "backBox", type := 97, offset := 256, embedded := false, tag := "", pkgPath := "loop.example/g01182/impl", byteOffset := 256 }, { name := "places", type := 101, offset := 512, embedded := false, tag := "", pkgPath := "loop.example/g01182/impl", byteOffset := 512 }, { name := "backPlaces", type := 101, offset := 528, embedded := false, tag := "", pkgPath := "loop.example/g01182/impl", byteOffset := 528 }, { name := "mixer", type := 149, offset := 544, embedded := false, tag := "", pkgPath := "loop.example/g01182/impl", byteOffset := 544 }, { name := "backMixer", type := 149, offset := 545, embedded := false, tag := "", pkgPath := "loop.example/g01182/impl", byteOffset := 552 }, { name := "rounds", type := 2, offset := 546, embedded := false, tag := "", pkgPath := "loop.example/g01182/impl", byteOffset := 560 }] [(0, 256), (256, 256), (512, 16), (528, 16), (544, 1), (545, 1), (546, 1)] := by show _ = _; kernel_rfl
theorem YB : Try.prog.follows .mixedOrders = true := by kernel_rfl
theorem cb10 : Callable Try.prog 10 := ⟨_, _, Try.func10, by decide, rfl⟩
theorem cb18 : Callable Try.prog 18 := ⟨_, _, Try.func18, by decide, rfl⟩
theorem cb19 : Callable Try.prog 19 := ⟨_, _, Try.func19, by decide, rfl⟩
theorem cb20 : Callable Try.prog 20 := ⟨_, _, Try.func20, by decide, rfl⟩
theorem cb21 : Callable Try.prog 21 := ⟨_, _, Try.func21, by decide, rfl⟩
theorem cb22 : Callable Try.prog 22 := ⟨_, _, Try.func22, by decide, rfl⟩
theorem cb23 : Callable Try.prog 23 := ⟨_, _, Try.func23, by decide, rfl⟩
theorem cb24 : Callable Try.prog 24 := ⟨_, _, Try.func24, by decide, rfl⟩
theorem cb25 : Callable Try.prog 25 := ⟨_, _, Try.func25, by decide, rfl⟩
theorem cb26 : Callable Try.prog 26 := ⟨_, _, Try.func26, by decide, rfl⟩
theorem cb27 : Callable Try.prog 27 := ⟨_, _, Try.func27, by decide, rfl⟩
theorem cb45 : Callable Try.prog 45 := ⟨_, _, Try.func45, by decide, rfl⟩
theorem cb46 : Callable Try.prog 46 := ⟨_, _, Try.func46, by decide, rfl⟩
theorem cb47 : Callable Try.prog 47 := ⟨_, _, Try.func47, by decide, rfl⟩
theorem cb48 : Callable Try.prog 48 := ⟨_, _, Try.func48, by decide, rfl⟩
theorem cb49 : Callable Try.prog 49 := ⟨_, _, Try.func49, by decide, rfl⟩
theorem cb50 : Callable Try.prog 50 := ⟨_, _, Try.func50, by decide, rfl⟩
theorem cb51 : Callable Try.prog 51 := ⟨_, _, Try.func51, by decide, rfl⟩
theorem cb52 : Callable Try.prog 52 := ⟨_, _, Try.func52, by decide, rfl⟩
theorem cb53 : Callable Try.prog 53 := ⟨_, _, Try.func53, by decide, rfl⟩
theorem cb54 : Callable Try.prog 54 := ⟨_, _, Try.func54, by decide, rfl⟩
theorem cb55 : Callable Try.prog 55 := ⟨_, _, Try.func55, by decide, rfl⟩
theorem cb56 : Callable Try.prog 56 := ⟨_, _, Try.func56, by decide, rfl⟩
theorem cb57 : Callable Try.prog 57 := ⟨_, _, Try.func57, by decide, rfl⟩
theorem cb58 : Callable Try.prog 58 := ⟨_, _, Try.func58, by decide, rfl⟩
theorem cb59 : Callable Try.prog 59 := ⟨_, _, Try.func59, by decide, rfl⟩
theorem cb60 : Callable Try.prog 60 := ⟨_, _, Try.func60, by decide, rfl⟩
theorem cb61 : Callable Try.prog 61 := ⟨_, _, Try.func61, by decide, rfl⟩
theorem cb63 : Callable Try.prog 63 := ⟨_, _, Try.func63, by decide, rfl⟩
theorem cb67 : Callable Try.prog 67 := ⟨_, _, Try.func67, by decide, rfl⟩
theorem cb69 : Callable Try.prog 69 := ⟨_, _, Try.func69, by decide, rfl⟩
theorem cb70 : Callable Try.prog 70 := ⟨_, _, Try.func70, by decide, rfl⟩
theorem cb71 : Callable Try.prog 71 := ⟨_, _, Try.func71, by decide, rfl⟩
theorem cb74 : Callable Try.prog 74 := ⟨_, _, Try.func74, by decide, rfl⟩
theorem cb75 : Callable Try.prog 75 := ⟨_, _, Try.func75, by decide, rfl⟩
theorem cb76 : Callable Try.prog 76 := ⟨_, _, Try.func76, by decide, rfl⟩
theorem cb77 : Callable Try.prog 77 := ⟨_, _, Try.func77, by decide, rfl⟩
theorem cb78 : Callable Try.prog 78 := ⟨_, _, Try.func78, by decide, rfl⟩
theorem cb79 : Callable Try.prog 79 := ⟨_, _, Try.func79, by decide, rfl⟩
theorem cb80 : Callable Try.prog 80 := ⟨_, _, Try.func80, by decide, rfl⟩
theorem cb81 : Callable Try.prog 81 := ⟨_, _, Try.func81, by decide, rfl⟩
theorem cb82 : Callable Try.prog 82 := ⟨_, _, Try.func82, by decide, rfl⟩
theorem cb83 : Callable Try.prog 83 := ⟨_, _, Try.func83, by decide, rfl⟩
theorem cb84 : Callable Try.prog 84 := ⟨_, _, Try.func84, by decide, rfl⟩
theorem cb85 : Callable Try.prog 85 := ⟨_, _, Try.func85, by decide, rfl⟩
theorem cb86 : Callable Try.prog 86 := ⟨_, _, Try.func86, by decide, rfl⟩
theorem cb89 : Callable Try.prog 89 := ⟨_, _, Try.func89, by decide, rfl⟩
theorem cb90 : Callable Try.prog 90 := ⟨_, _, Try.func90, by decide, rfl⟩
theorem cb91 : Callable Try.prog 91 := ⟨_, _, Try.func91, by decide, rfl⟩
theorem cb92 : Callable Try.prog 92 := ⟨_, _, Try.func92, by decide, rfl⟩
theorem cb93 : Callable Try.prog 93 := ⟨_, _, Try.func93, by decide, rfl⟩
theorem cb94 : Callable Try.prog 94 := ⟨_, _, Try.func94, by decide, rfl⟩
theorem cb95 : Callable Try.prog 95 := ⟨_, _, Try.func95, by decide, rfl⟩
theorem cb96 : Callable Try.prog 96 := ⟨_, _, Try.func96, by decide, rfl⟩
theorem cb97 : Callable Try.prog 97 := ⟨_, _, Try.func97, by decide, rfl⟩
theorem cb98 : Callable Try.prog 98 := ⟨_, _, Try.func98, by decide, rfl⟩
theorem cb99 : Callable Try.prog 99 := ⟨_, _, Try.func99, by decide, rfl⟩
theorem cb100 : Callable Try.prog 100 := ⟨_, _, Try.func100, by decide, rfl⟩
theorem cb101 : Callable Try.prog 101 := ⟨_, _, Try.func101, by decide, rfl⟩
theorem cb102 : Callable Try.prog 102 := ⟨_, _, Try.func102, by decide, rfl⟩
theorem cb103 : Callable Try.prog 103 := ⟨_, _, Try.func103, by decide, rfl⟩
theorem cb104 : Callable Try.prog 104 := ⟨_, _, Try.func104, by decide, rfl⟩
theorem cb105 : Callable Try.prog 105 := ⟨_, _, Try.func105, by decide, rfl⟩
theorem cb106 : Callable Try.prog 106 := ⟨_, _, Try.func106, by decide, rfl⟩
theorem cb107 : Callable Try.prog 107 := ⟨_, _, Try.func107, by decide, rfl⟩
theorem cb108 : Callable Try.prog 108 := ⟨_, _, Try.func108, by decide, rfl⟩
theorem cb109 : Callable Try.prog 109 := ⟨_, _, Try.func109, by decide, rfl⟩
theorem cb110 : Callable Try.prog 110 := ⟨_, _, Try.func110, by decide, rfl⟩
theorem cb111 : Callable Try.prog 111 := ⟨_, _, Try.func111, by decide, rfl⟩
theorem cb112 : Callable Try.prog 112 := ⟨_, _, Try.func112, by decide, rfl⟩
theorem cb113 : Callable Try.prog 113 := ⟨_, _, Try.func113, by decide, rfl⟩
theorem cb114 : Callable Try.prog 114 := ⟨_, _, Try.func114, by decide, rfl⟩
theorem cb115 : Callable Try.prog 115 := ⟨_, _, Try.func115, by decide, rfl⟩
theorem cb116 : Callable Try.prog 116 := ⟨_, _, Try.func116, by decide, rfl⟩
theorem cb117 : Callable Try.prog 117 := ⟨_, _, Try.func117, by decide, rfl⟩
theorem cb119 : Callable Try.prog 119 := ⟨_, _, Try.func119, by decide, rfl⟩
theorem cb120 : Callable Try.prog 120 := ⟨_, _, Try.func120, by decide, rfl⟩
theorem cb121 : Callable Try.prog 121 := ⟨_, _, Try.func121, by decide, rfl⟩
theorem cb122 : Callable Try.prog 122 := ⟨_, _, Try.func122, by decide, rfl⟩
theorem cb123 : Callable Try.prog 123 := ⟨_, _, Try.func123, by decide, rfl⟩
theorem cb124 : Callable Try.prog 124 := ⟨_, _, Try.func124, by decide, rfl⟩
theorem cb125 : Callable Try.prog 125 := ⟨_, _, Try.func125, by decide, rfl⟩
theorem cb126 : Callable Try.prog 126 := ⟨_, _, Try.func126, by decide, rfl⟩
theorem cb127 : Callable Try.prog 127 := ⟨_, _, Try.func127, by decide, rfl⟩
theorem cb128 : Callable Try.prog 128 := ⟨_, _, Try.func128, by decide, rfl⟩
theorem cb129 : Callable Try.prog 129 := ⟨_, _, Try.func129, by decide, rfl⟩
theorem cb130 : Callable Try.prog 130 := ⟨_, _, Try.func130, by decide, rfl⟩
theorem cb131 : Callable Try.prog 131 := ⟨_, _, Try.func131, by decide, rfl⟩
theorem cb132 : Callable Try.prog 132 := ⟨_, _, Try.func132, by decide, rfl⟩
theorem cb133 : Callable Try.prog 133 := ⟨_, _, Try.func133, by decide, rfl⟩
theorem cb134 : Callable Try.prog 134 := ⟨_, _, Try.func134, by decide, rfl⟩
theorem cb135 : Callable Try.prog 135 := ⟨_, _, Try.func135, by decide, rfl⟩
noncomputable def XY (p0 : (List (Vector UInt8 32))) (p1 : Int) : Option (Int) :=
 if (decide ((wr (p1 - (p0.length : Int))) < 0)) = true then (some (-1)) else (some (wr (p1 - (p0.length : Int))))
theorem c_laws_szDigestS (w0 : World) (p0 : (List (Vector UInt8 32))) (v0_1 : Value) (hv0_1 : Ro w0 p0 [v0_1]) (p1 : Int) (r : Int) (hF : XY p0 p1 = some r) :
  Calls Try.prog 45 [v0_1, (vI p1)].toArray w0 (fun en w' => ∃ v, en = .returned v ∧ (v = (vI r) ∧ Kept (Old w0) w0 w')) := by
 refine ZC (n := 12) Try.func45 rfl rfl (Nat.le_of_ble_eq_true rfl) rfl ?_
 intro a hE
 have hM := M.start w0
 unfold XY at hF
 refine Zc (Ze hE Za (dl rfl) rfl ?_); intro a hE
 refine Zf (Zc (Zd hE Za (dl rfl) rfl ?_)); intro a hE
 refine Zd hE Za (dl rfl) rfl ?_; intro a hE
 refine Z7 hE Za (dl rfl) rfl Try.underlying44 (hM.rd hv0_1) ?_; intro a hE
 refine Zh hE Za (dl rfl) rfl rfl rfl ?_; intro a hE
 refine Ze hE Za (dl rfl) rfl ?_; intro a hE
 refine Zf (wp_seq (Zc (Zd hE Za (dl rfl) rfl ?_))); intro a hE
 refine Zh hE Za (dl rfl) rfl rfl rfl ?_; intro a hE
 refine Zf ?_
 refine Zt hE rfl ?_ ?_
 ·intro hb1
  have hF := ZA hF hb1
  refine Zc (Ze hE Za (dl rfl) rfl ?_); intro a hE
  refine Zf ?_
  have hr := Option.some.inj hF
  subst hr
  exact wp_ret (ZL (Zy hE rfl (Zu hE rfl) ⟨_, rfl, rfl, hM.kept⟩))
 ·intro hb1
  have hF := Zz hF hb1
  refine wp_skip (Zx (Zc (Zd hE Za (dl rfl) rfl ?_))); intro a hE
  refine Ze hE Za (dl rfl) rfl ?_; intro a hE
  refine Zf ?_
  have hr := Option.some.inj hF
  subst hr
  exact wp_ret (Zy hE rfl (Zu hE rfl) ⟨_, rfl, rfl, hM.kept⟩)
noncomputable def X7 (p0 : (List UInt8)) (p1 : Int) : Option (Int) :=
 if (decide ((wr (p1 - (p0.length : Int))) < 0)) = true then (some (-1)) else (some (wr (p1 - (p0.length : Int))))
theorem c_laws_szByteS (w0 : World) (p0 : (List UInt8)) (v0_1 : Value) (hv0_1 : Ro w0 p0 [v0_1]) (p1 : Int) (r : Int) (hF : X7 p0 p1 = some r) :
  Calls Try.prog 74 [v0_1, (vI p1)].toArray w0 (fun en w' => ∃ v, en = .returned v ∧ (v = (vI r) ∧ Kept (Old w0) w0 w')) := by
 refine ZC (n := 12) Try.func74 rfl rfl (Nat.le_of_ble_eq_true rfl) rfl ?_
 intro a hE
 have hM := M.start w0
 unfold X7 at hF
 refine Zc (Ze hE Za (dl rfl) rfl ?_); intro a hE
 refine Zf (Zc (Zd hE Za (dl rfl) rfl ?_)); intro a hE
 refine Zd hE Za (dl rfl) rfl ?_; intro a hE
 refine Z7 hE Za (dl rfl) rfl Try.underlying50 (hM.rd hv0_1) ?_; intro a hE
 refine Zh hE Za (dl rfl) rfl rfl rfl ?_; intro a hE
 refine Ze hE Za (dl rfl) rfl ?_; intro a hE
 refine Zf (wp_seq (Zc (Zd hE Za (dl rfl) rfl ?_))); intro a hE
 refine Zh hE Za (dl rfl) rfl rfl rfl ?_; intro a hE
 refine Zf ?_
 refine Zt hE rfl ?_ ?_
 ·intro hb1
  have hF := ZA hF hb1
  refine Zc (Ze hE Za (dl rfl) rfl ?_); intro a hE
  refine Zf ?_
  have hr := Option.some.inj hF
  subst hr
  exact wp_ret (ZL (Zy hE rfl (Zu hE rfl) ⟨_, rfl, rfl, hM.kept⟩))
 ·intro hb1
  have hF := Zz hF hb1
  refine wp_skip (Zx (Zc (Zd hE Za (dl rfl) rfl ?_))); intro a hE
  refine Ze hE Za (dl rfl) rfl ?_; intro a hE
  refine Zf ?_
  have hr := Option.some.inj hF
  subst hr
  exact wp_ret (Zy hE rfl (Zu hE rfl) ⟨_, rfl, rfl, hM.kept⟩)
noncomputable def VX (p0 : (List (List UInt8))) (s6 : Int × Int) : Option (Fl (Int × Int) (Fl Int Int)) :=
 if (decide (s6.2 < (p0.length : Int))) = true then ((idx p0 s6.2).bind fun x11 => (X7 x11 s6.1).bind fun r19 => if (decide (r19 < 0)) = true then (some (Fl.ex (Fl.ex (-1)))) else (some (Fl.nx (r19, wr (s6.2 + 1))))) else (some (Fl.ex (Fl.nx s6.1)))
noncomputable def XE (p0 : (List (List UInt8))) (p1 : Int) : Option (Int) :=
 if (decide ((wr (p1 - (p0.length : Int))) < 0)) = true then (some (-1)) else ((ZF (VX p0) (wr (p1 - (p0.length : Int)), 0) : Option (Fl Int Int)).bind fun j2 => j2.el (fun s5 => some s5) (fun r => some r))
theorem c_laws_szByteSS (w0 : World) (p0 : (List (List UInt8))) (v0_1 : Value) (hv0_1 : Ro w0 p0 [v0_1]) (p1 : Int) (r : Int) (hF : XE p0 p1 = some r) :
  Calls Try.prog 46 [v0_1, (vI p1)].toArray w0 (fun en w' => ∃ v, en = .returned v ∧ (v = (vI r) ∧ Kept (Old w0) w0 w')) := by
 refine ZC (n := 27) Try.func46 rfl rfl (Nat.le_of_ble_eq_true rfl) rfl ?_
 intro a hE
 have hM := M.start w0
 unfold XE at hF
 refine Zc (Ze hE Za (dl rfl) rfl ?_); intro a hE
 refine Zf (Zc (Zd hE Za (dl rfl) rfl ?_)); intro a hE
 refine Zd hE Za (dl rfl) rfl ?_; intro a hE
 refine Z7 hE Za (dl rfl) rfl Try.underlying45 (hM.rd hv0_1) ?_; intro a hE
 refine Zh hE Za (dl rfl) rfl rfl rfl ?_; intro a hE
 refine Ze hE Za (dl rfl) rfl ?_; intro a hE
 refine Zf (wp_seq (Zc (Zd hE Za (dl rfl) rfl ?_))); intro a hE
 refine Zh hE Za (dl rfl) rfl rfl rfl ?_; intro a hE
 refine Zf ?_
 refine Zt hE rfl ?_ ?_
 ·intro hb1
  have hF := ZA hF hb1
  refine Zc (Ze hE Za (dl rfl) rfl ?_); intro a hE
  refine Zf ?_
  have hr := Option.some.inj hF
  subst hr
  exact wp_ret (ZL (Zy hE rfl (Zu hE rfl) ⟨_, rfl, rfl, hM.kept⟩))
 ·intro hb1
  have hF := Zz hF hb1
  refine wp_skip (Zx (wp_seq (Zc (Ze hE Za (dl rfl) rfl ?_)))); intro a hE
  refine Zf ?_
  obtain ⟨j2, hl3, hF4⟩ := bind_some hF
  refine ZV (fun a w => ∃ s5 : Int, j2 = Fl.nx s5 ∧ Env 27 a [(1, (vI s5))] ∧ M (Old w0) w0 w []) ?_ ?_
  ·skip
   refine wp_block ?_
   refine ZN (fun (s6 : Int × Int) a w => Env 27 a [(0, v0_1), (1, (vI s6.1)), (5, (vI s6.2))] ∧ M (Old w0) w0 w []) hl3 ⟨hE.sub ⟨rfl, rfl, rfl, trivial⟩, hM⟩ ?_
   rintro s6 a w ⟨hE, hM⟩ o9 hs7 hx8
   unfold VX at hs7
   refine wp_seq (Zc (Zd hE Za (dl rfl) rfl ?_)); intro a hE
   refine Zd hE Za (dl rfl) rfl ?_; intro a hE
   refine Z7 hE Za (dl rfl) rfl Try.underlying45 (hM.rd hv0_1) ?_; intro a hE
   refine Zh hE Za (dl rfl) rfl rfl rfl ?_; intro a hE
   refine Zf ?_
   refine Zt hE rfl ?_ ?_
   ·intro hb10
    have hs7 := ZA hs7 hb10
    refine wp_skip (Zx (wp_seq (wp_block (Zc (Zd hE Za (dl rfl) rfl ?_))))); intro a hE
    refine Zd hE Za (dl rfl) rfl ?_; intro a hE
    obtain ⟨x11, e12, hs7⟩ := bind_some hs7
    have hi13 := ZQ e12
    refine ZK hE Za (dl rfl) rfl rfl Try.underlying45 VD (hM.rd hv0_1) hi13.1 ?_; intro a hE
    obtain ⟨cs14, hs15, hA16⟩ := Us hv0_1 hi13.2 -- ^
    obtain ⟨u17, rfl⟩ := Vp hs15 -- ^
    have h18 := hs15 -- ^
    refine Zv (v := u17) hE Za (dl rfl) rfl VD rfl (hM.atk hA16 (Uv hv0_1 hi13.2)) ?_; intro a hE
    refine Zd hE Za (dl rfl) rfl ?_; intro a hE
    obtain ⟨r19, e20, hs7⟩ := bind_some hs7
    refine Zw (vs := [u17, (vI s6.1)]) hE Za (dl rfl) rfl cb74 (c_laws_szByteS _ x11 u17 (hM.rdo h18) s6.1 r19 e20) ?_
    rintro v w a ⟨rfl, hK⟩ hE
    have hM := hM.keep hK
    refine Ze hE Za (dl rfl) rfl ?_; intro a hE
    refine Zf (Zc (Zd hE Za (dl rfl) rfl ?_)); intro a hE
    refine Zh hE Za (dl rfl) rfl rfl rfl ?_; intro a hE
    refine Zf ?_
    refine Zt hE rfl ?_ ?_
    ·intro hb21
     have hs7 := ZA hs7 hb21
     refine Zc (Ze hE Za (dl rfl) rfl ?_); intro a hE
     refine Zf ?_
     have ht22 := hx8 _ (Option.some.inj hs7).symm
     subst ht22
     have hr := Option.some.inj hF4
     subst hr
     exact wp_ret (W0 (ZL (ZL (W0 (ZL (ZL (Zy hE rfl (Zu hE rfl) ⟨_, rfl, rfl, hM.kept⟩)))))))
    ·intro hb21
     have hs7 := Zz hs7 hb21
     refine wp_skip (Yk (Zx (wp_region_lit (Zd hE Za (dl rfl) rfl ?_)))); intro a hE
     refine Zh hE Za (dl rfl) rfl rfl rfl ?_; intro a hE
     refine Ze hE Za (dl rfl) rfl ?_; intro a hE
     refine Zj (Zl ?_)
     exact ⟨_, (Option.some.inj hs7).symm, hE.sub ⟨rfl, rfl, rfl, trivial⟩, hM⟩
   ·intro hb10
    have hs7 := Zz hs7 hb10
    refine wp_exit (Zr (Zr (Yj ?_)))
    have ht23 := hx8 _ (Option.some.inj hs7).symm
    subst ht23
    refine Zl ?_
    exact ⟨s6.1, rfl, hE.sub ⟨rfl, trivial⟩, hM⟩
  ·skip
   rintro a w ⟨s5, ht, hE, hM⟩
   subst ht
   have hF4 := el_nx hF4
   refine Zx (Zc (Zd hE Za (dl rfl) rfl ?_)); intro a hE
   refine Ze hE Za (dl rfl) rfl ?_; intro a hE
   refine Zf ?_
   have hr := Option.some.inj hF4
   subst hr
   exact wp_ret (Zy hE rfl (Zu hE rfl) ⟨_, rfl, rfl, hM.kept⟩)
noncomputable def Y6 (p0 : (List Int)) (p1 : Int) : Option (Int) :=
 if (decide ((wr (p1 - (p0.length : Int))) < 0)) = true then (some (-1)) else (some (wr (p1 - (p0.length : Int))))
theorem c_laws_szInt64S (w0 : World) (p0 : (List Int)) (v0_1 : Value) (hv0_1 : Ro w0 p0 [v0_1]) (p1 : Int) (r : Int) (hF : Y6 p0 p1 = some r) :
  Calls Try.prog 47 [v0_1, (vI p1)].toArray w0 (fun en w' => ∃ v, en = .returned v ∧ (v = (vI r) ∧ Kept (Old w0) w0 w')) := by
 refine ZC (n := 12) Try.func47 rfl rfl (Nat.le_of_ble_eq_true rfl) rfl ?_
 intro a hE
 have hM := M.start w0
 unfold Y6 at hF
 refine Zc (Ze hE Za (dl rfl) rfl ?_); intro a hE
 refine Zf (Zc (Zd hE Za (dl rfl) rfl ?_)); intro a hE
 refine Zd hE Za (dl rfl) rfl ?_; intro a hE
 refine Z7 hE Za (dl rfl) rfl Try.underlying46 (hM.rd hv0_1) ?_; intro a hE
 refine Zh hE Za (dl rfl) rfl rfl rfl ?_; intro a hE
 refine Ze hE Za (dl rfl) rfl ?_; intro a hE
 refine Zf (wp_seq (Zc (Zd hE Za (dl rfl) rfl ?_))); intro a hE
 refine Zh hE Za (dl rfl) rfl rfl rfl ?_; intro a hE
 refine Zf ?_
 refine Zt hE rfl ?_ ?_
 ·intro hb1
  have hF := ZA hF hb1
  refine Zc (Ze hE Za (dl rfl) rfl ?_); intro a hE
  refine Zf ?_
  have hr := Option.some.inj hF
  subst hr
  exact wp_ret (ZL (Zy hE rfl (Zu hE rfl) ⟨_, rfl, rfl, hM.kept⟩))
 ·intro hb1
  have hF := Zz hF hb1
  refine wp_skip (Zx (Zc (Zd hE Za (dl rfl) rfl ?_))); intro a hE
  refine Ze hE Za (dl rfl) rfl ?_; intro a hE
  refine Zf ?_
  have hr := Option.some.inj hF
  subst hr
  exact wp_ret (Zy hE rfl (Zu hE rfl) ⟨_, rfl, rfl, hM.kept⟩)
noncomputable def UD (p0 : GBlobs) (p1 : Int) : Option (Int) :=
 (XY p0.Keys p1).bind fun r3 => if (decide (r3 < 0)) = true then (some (-1)) else ((XE p0.Data r3).bind fun r6 => if (decide (r6 < 0)) = true then (some (-1)) else ((Y6 p0.Counts r6).bind fun r9 => if (decide (r9 < 0)) = true then (some (-1)) else (some r9)))
theorem c_laws_szBlobs (w0 : World) (p0 : GBlobs) (v0_1 : Value) (hv0_1 : Ro w0 p0.Keys [v0_1]) (v0_2 : Value) (hv0_2 : Ro w0 p0.Data [v0_2]) (v0_3 : Value) (hv0_3 : Ro w0 p0.Counts [v0_3]) (p1 : Int) (r : Int) (hF : UD p0 p1 = some r) :
  Calls Try.prog 18 [(Value.agg (cat [[v0_1], [v0_2], [v0_3]]).toArray), (vI p1)].toArray w0 (fun en w' => ∃ v, en = .returned v ∧ (v = (vI r) ∧ Kept (Old w0) w0 w')) := by
 refine ZC (n := 24) Try.func18 rfl rfl (Nat.le_of_ble_eq_true rfl) rfl ?_
 intro a hE
 have hM := M.start w0
 unfold UD at hF
 refine Zc (Z4 (cs := cat [[v0_1], [v0_2], [v0_3]]) hE hM Za (dl rfl) rfl rfl ?_); intro b1 w a hM hE
 refine Ze hE Za (dl rfl) rfl ?_; intro a hE
 refine Zf (Zc (Zo hE Za (dl rfl) rfl (fd48_0) ?_)); intro a hE
 refine Zv (v := v0_1) hE Za (dl rfl) rfl ty44 rfl (At.cat (pre := []) (hM.rawAt (pre := [])) cl0) ?_; intro a hE
 refine Zd hE Za (dl rfl) rfl ?_; intro a hE
 obtain ⟨r3, e4, hF⟩ := bind_some hF
 refine Zw (vs := [v0_1, (vI p1)]) hE Za (dl rfl) rfl cb45 (c_laws_szDigestS _ p0.Keys v0_1 (hM.rdo hv0_1) p1 r3 e4) ?_
 rintro v w a ⟨rfl, hK⟩ hE
 have hM := hM.keep hK
 refine Ze hE Za (dl rfl) rfl ?_; intro a hE
 refine Zf (wp_seq (Zc (Zd hE Za (dl rfl) rfl ?_))); intro a hE
 refine Zh hE Za (dl rfl) rfl rfl rfl ?_; intro a hE
 refine Zf ?_
 refine Zt hE rfl ?_ ?_
 ·intro hb5
  have hF := ZA hF hb5
  refine Zc (Ze hE Za (dl rfl) rfl ?_); intro a hE
  refine Zf ?_
  have hr := Option.some.inj hF
  subst hr
  have hM := M.fst (l := []) hM
  exact wp_ret (ZL (Zy hE rfl (Zu hE rfl) ⟨_, rfl, rfl, hM.kept⟩))
 ·intro hb5
  have hF := Zz hF hb5
  refine wp_skip (Zx (Zc (Zo hE Za (dl rfl) rfl (fd48_1) ?_))); intro a hE
  refine Zv (v := v0_2) hE Za (dl rfl) rfl ty45 rfl (At.cat (pre := [[v0_1]]) (hM.rawAt (pre := [])) (cl1 (n := 1) (m := 0) rfl cl0)) ?_; intro a hE
  refine Zd hE Za (dl rfl) rfl ?_; intro a hE
  obtain ⟨r6, e7, hF⟩ := bind_some hF
  refine Zw (vs := [v0_2, (vI r3)]) hE Za (dl rfl) rfl cb46 (c_laws_szByteSS _ p0.Data v0_2 (hM.rdo hv0_2) r3 r6 e7) ?_
  rintro v w a ⟨rfl, hK⟩ hE
  have hM := hM.keep hK
  refine Ze hE Za (dl rfl) rfl ?_; intro a hE
  refine Zf (wp_seq (Zc (Zd hE Za (dl rfl) rfl ?_))); intro a hE
  refine Zh hE Za (dl rfl) rfl rfl rfl ?_; intro a hE
  refine Zf ?_
  refine Zt hE rfl ?_ ?_
  ·intro hb8
   have hF := ZA hF hb8
   refine Zc (Ze hE Za (dl rfl) rfl ?_); intro a hE
   refine Zf ?_
   have hr := Option.some.inj hF
   subst hr
   have hM := M.fst (l := []) hM
   exact wp_ret (ZL (Zy hE rfl (Zu hE rfl) ⟨_, rfl, rfl, hM.kept⟩))
  ·intro hb8
   have hF := Zz hF hb8
   refine wp_skip (Zx (Zc (Zo hE Za (dl rfl) rfl (fd48_2) ?_))); intro a hE
   refine Zv (v := v0_3) hE Za (dl rfl) rfl ty46 rfl (At.cat (pre := [[v0_1], [v0_2]]) (hM.rawAt (pre := [])) (cl1 (n := 1) (m := 1) rfl (cl1 (n := 1) (m := 0) rfl cl0))) ?_; intro a hE
   refine Zd hE Za (dl rfl) rfl ?_; intro a hE
   obtain ⟨r9, e10, hF⟩ := bind_some hF
   refine Zw (vs := [v0_3, (vI r6)]) hE Za (dl rfl) rfl cb47 (c_laws_szInt64S _ p0.Counts v0_3 (hM.rdo hv0_3) r6 r9 e10) ?_
   rintro v w a ⟨rfl, hK⟩ hE
   have hM := hM.keep hK
   refine Ze hE Za (dl rfl) rfl ?_; intro a hE
   refine Zf (wp_seq (Zc (Zd hE Za (dl rfl) rfl ?_))); intro a hE
   refine Zh hE Za (dl rfl) rfl rfl rfl ?_; intro a hE
   refine Zf ?_
   refine Zt hE rfl ?_ ?_
   ·intro hb11
    have hF := ZA hF hb11
    refine Zc (Ze hE Za (dl rfl) rfl ?_); intro a hE
    refine Zf ?_
    have hr := Option.some.inj hF
    subst hr
    have hM := M.fst (l := []) hM
    exact wp_ret (ZL (Zy hE rfl (Zu hE rfl) ⟨_, rfl, rfl, hM.kept⟩))
   ·intro hb11
    have hF := Zz hF hb11
    refine wp_skip (Zx (Zc (Zd hE Za (dl rfl) rfl ?_))); intro a hE
    refine Ze hE Za (dl rfl) rfl ?_; intro a hE
    refine Zf ?_
    have hr := Option.some.inj hF
    subst hr
    have hM := M.fst (l := []) hM
    exact wp_ret (Zy hE rfl (Zu hE rfl) ⟨_, rfl, rfl, hM.kept⟩)
noncomputable def V3 (p0 : (Vector UInt8 32)) (s10 : (Vector UInt8 32) × Int) : Option (Fl ((Vector UInt8 32) × Int) (Vector UInt8 32)) :=
 if (decide (s10.2 < 32)) = true then ((ZM p0 s10.2).bind fun x16 => (ZM s10.1 s10.2).bind fun x19 => some (Fl.nx ((s10.1.setIfInBounds (s10.2).toNat x16), wr (s10.2 + 1)))) else (some (Fl.ex s10.1))
noncomputable def YH (p0 : (Vector UInt8 32)) : Option ((Vector UInt8 32)) :=
 (ZF (V3 p0) ((Vector.replicate 32 (0 : UInt8)), 0) : Option ((Vector UInt8 32))).bind fun j7 => some j7
theorem Uf (w0 : World) (p0 : (Vector UInt8 32)) (r : (Vector UInt8 32)) (hF : YH p0 = some r) :
  Calls Try.prog 21 [(Value.agg (Flat.enc p0).toArray)].toArray w0 (fun en w' => ∃ v, en = .returned v ∧ (v = (Value.agg (Flat.enc r).toArray) ∧ Kept (Old w0) w0 w')) := by
 refine ZC (n := 15) Try.func21 rfl rfl (Nat.le_of_ble_eq_true rfl) rfl ?_
 intro a hE
 have hM := M.start w0
 unfold YH at hF
 refine Zc (Z4 (cs := Flat.enc p0) hE hM Za (dl rfl) rfl rfl ?_); intro b1 w a hM hE
 refine ZO hE hM Za (dl rfl) Yi ?_; intro b3 w a hM hE
 refine Zf (Zc (ZO hE hM Za (dl rfl) Yi ?_)); intro b5 w a hM hE
 refine Zf (wp_seq (Zc (Ze hE Za (dl rfl) rfl ?_))); intro a hE
 refine Zf ?_
 obtain ⟨j7, hl8, hF9⟩ := bind_some hF
 refine ZV (fun a w => Env 15 a [(2, (ptr b3 0)), (3, (ptr b5 0))] ∧ M (Old w0) w0 w [raw b5 (Flat.enc j7), raw b3 (Flat.enc (Vector.replicate 32 (0 : UInt8)))]) ?_ ?_
 ·skip
  refine wp_block ?_
  refine ZN (fun (s10 : (Vector UInt8 32) × Int) a w => Env 15 a [(1, (ptr b1 0)), (2, (ptr b3 0)), (3, (ptr b5 0)), (4, (vI s10.2))] ∧ M (Old w0) w0 w [raw b5 (Flat.enc s10.1), raw b3 (Flat.enc (Vector.replicate 32 (0 : UInt8))), raw b1 (Flat.enc p0)]) hl8 ⟨hE.sub ⟨rfl, rfl, rfl, rfl, trivial⟩, hM⟩ ?_
  rintro s10 a w ⟨hE, hM⟩ o13 hs11 hx12
  unfold V3 at hs11
  refine wp_seq (Zc (Zd hE Za (dl rfl) rfl ?_)); intro a hE
  refine Zh hE Za (dl rfl) rfl rfl rfl ?_; intro a hE
  refine Zf ?_
  refine Zt hE rfl ?_ ?_
  ·intro hb14
   have hs11 := ZA hs11 hb14
   refine wp_skip (Zx (wp_seq (wp_block (wp_region_lit (Zd hE Za (dl rfl) rfl ?_))))); intro a hE
   refine Zd hE Za (dl rfl) rfl ?_; intro a hE
   obtain ⟨x16, e17, hs11⟩ := bind_some hs11
   have hi15 := Zi e17
   refine Zm hE Za (dl rfl) rfl rfl Try.underlying24 ty5 hi15.1 ?_; intro a hE
   refine Zv (v := (vB x16)) hE Za (dl rfl) rfl ty5 rfl (At.vec (hM.rawAt (pre := [_, _])) hi15.2) ?_; intro a hE
   obtain ⟨x19, e20, hs11⟩ := bind_some hs11
   have hi18 := Zi e20
   refine Zm hE Za (dl rfl) rfl rfl Try.underlying25 ty5 hi18.1 ?_; intro a hE
   refine Zs (seg := [(vB x16)]) (cs' := Flat.enc (s10.1.setIfInBounds (s10.2).toNat x16)) hE hM Za rfl rfl rfl ty5 rfl (ZT (v := s10.1) (x := x16) hi18.1) (Flat.cell (x16 : UInt8)) (ZI (v := s10.1) (x := x16) hi18.1) ?_; intro w a hM hE
   refine Zj (Yk (Zx (wp_region_lit (Zd hE Za (dl rfl) rfl ?_)))); intro a hE
   refine Zh hE Za (dl rfl) rfl rfl rfl ?_; intro a hE
   refine Ze hE Za (dl rfl) rfl ?_; intro a hE
   refine Zj (Zl ?_)
   exact ⟨_, (Option.some.inj hs11).symm, hE.sub ⟨rfl, rfl, rfl, rfl, trivial⟩, hM⟩
  ·intro hb14
   have hs11 := Zz hs11 hb14
   refine wp_exit (Zr (Zr (Yj ?_)))
   have ht21 := hx12 _ (Option.some.inj hs11).symm
   subst ht21
   refine Zl ?_
   have hM := hM.pull (pre := [_])
   have hM := hM.pull (pre := [_])
   have hM := M.fst (l := [_, _]) hM
   exact ⟨hE.sub ⟨rfl, rfl, trivial⟩, hM⟩
 ·skip
  rintro a w ⟨hE, hM⟩
  refine Zx (Zc (Zp (cs := Flat.enc j7) hE Za (dl rfl) rfl Yi rfl (hM.rawAt (pre := [])) (Flat.len _) ?_)); intro a hE
  have hM := hM.pull (pre := [_])
  refine Zs (seg := Flat.enc j7) (cs' := Flat.enc j7) hE hM Za rfl rfl rfl Yi (Flat.len _) (zle flq) (Flat.cell _) (Zq flq) ?_; intro w a hM hE
  refine Zf ?_
  have hr := Option.some.inj hF9
  subst hr
  have hq22 : YR Try.prog _ _ (.cell 2 25) _ := Z6 hE rfl Yi rfl (hM.rawAt (pre := [])) (Flat.len _) rfl
  have hM := M.fst (l := []) hM
  exact wp_ret (Zy hE rfl hq22 ⟨_, rfl, rfl, hM.kept⟩)
noncomputable def Vs (p0 : (List (Vector UInt8 32))) (s10 : (List (Vector UInt8 32)) × Int) : Option (Fl ((List (Vector UInt8 32)) × Int) (List (Vector UInt8 32))) :=
 if (decide (s10.2 < (p0.length : Int))) = true then ((idx p0 s10.2).bind fun x17 => (YH x17).bind fun r20 => (idx s10.1 s10.2).bind fun x22 => some (Fl.nx ((s10.1.set (s10.2).toNat r20), wr (s10.2 + 1)))) else (some (Fl.ex s10.1))
noncomputable def WQ (p0 : (List (Vector UInt8 32))) : Option ((List (Vector UInt8 32))) :=
 (mkS 32 (Vector.replicate 32 (0 : UInt8)) (p0.length : Int)).bind fun l1 => (ZF (Vs p0) (l1, 0) : Option ((List (Vector UInt8 32)))).bind fun j5 => some j5
theorem c_laws_toDigestS (w0 : World) (p0 : (List (Vector UInt8 32))) (v0_1 : Value) (hv0_1 : Ro w0 p0 [v0_1]) (r : (List (Vector UInt8 32))) (hF : WQ p0 = some r) :
  Calls Try.prog 51 [v0_1].toArray w0 (fun en w' => ∃ v, en = .returned v ∧ (∃ (y1 : Value), v = y1 ∧ Fr w0 w' [osl NoB (r : List (Vector UInt8 32)) y1] ∧ Kept (Old w0) w0 w')) := by
 refine ZC (n := 23) Try.func51 rfl rfl (Nat.le_of_ble_eq_true rfl) rfl ?_
 intro a hE
 have hM := M.start w0
 unfold WQ at hF
 refine Zc (Ze hE Za (dl rfl) rfl ?_); intro a hE
 refine Zf (Zc (Zd hE Za (dl rfl) rfl ?_)); intro a hE
 refine Z7 hE Za (dl rfl) rfl Try.underlying44 (hM.rd hv0_1) ?_; intro a hE
 obtain ⟨l1, e2, hF⟩ := bind_some hF
 refine s_make hE hM Za (dl rfl) rfl rfl Try.underlying53 Yi rfl (by decide) (fun _ => sat_flat.2 ⟨rfl, rfl⟩) e2 ?_; intro u3 w a hM hE
 refine Ze hE Za (dl rfl) rfl ?_; intro a hE
 refine Zf (wp_seq (Zc (Ze hE Za (dl rfl) rfl ?_))); intro a hE
 refine Zf ?_
 obtain ⟨j5, hl6, hF7⟩ := bind_some hF
 refine ZV (fun a w => ∃ (u8 : Value), Env 23 a [(3, u8)] ∧ M (Old w0) w0 w [osl NoB (j5 : List (Vector UInt8 32)) u8]) ?_ ?_
 ·skip
  refine wp_block ?_
  refine ZN (fun (s10 : (List (Vector UInt8 32)) × Int) a w => ∃ (u11 : Value), Env 23 a [(0, v0_1), (3, u11), (4, (vI s10.2))] ∧ M (Old w0) w0 w [osl NoB (s10.1 : List (Vector UInt8 32)) u11]) hl6 ⟨u3, hE.sub ⟨rfl, rfl, rfl, trivial⟩, hM⟩ ?_
  rintro s10 a w ⟨u11, hE, hM⟩ o15 hs13 hx14
  unfold Vs at hs13
  refine wp_seq (Zc (Zd hE Za (dl rfl) rfl ?_)); intro a hE
  refine Zd hE Za (dl rfl) rfl ?_; intro a hE
  refine Z7 hE Za (dl rfl) rfl Try.underlying44 (hM.rd hv0_1) ?_; intro a hE
  refine Zh hE Za (dl rfl) rfl rfl rfl ?_; intro a hE
  refine Zf ?_
  refine Zt hE rfl ?_ ?_
  ·intro hb16
   have hs13 := ZA hs13 hb16
   refine wp_skip (Zx (wp_seq (wp_block (wp_region_lit (Zd hE Za (dl rfl) rfl ?_))))); intro a hE
   refine Zd hE Za (dl rfl) rfl ?_; intro a hE
   refine Zd hE Za (dl rfl) rfl ?_; intro a hE
   refine Zd hE Za (dl rfl) rfl ?_; intro a hE
   obtain ⟨x17, e18, hs13⟩ := bind_some hs13
   have hi19 := ZQ e18
   refine ZK hE Za (dl rfl) rfl rfl Try.underlying44 ty24 (hM.rd hv0_1) hi19.1 ?_; intro a hE
   refine Zp (cs := Flat.enc x17) hE Za (dl rfl) rfl ty24 rfl (Yt (hM.rd hv0_1) hi19.2) (Flat.len _) ?_; intro a hE
   obtain ⟨r20, e21, hs13⟩ := bind_some hs13
   refine Zw (vs := [(Value.agg (Flat.enc x17).toArray)]) hE Za (dl rfl) rfl cb21 (Uf _ x17 r20 e21) ?_
   rintro v w a ⟨rfl, hK⟩ hE
   have hM := hM.keep hK
   obtain ⟨x22, e23, hs13⟩ := bind_some hs13
   have hi24 := ZQ e23
   refine ZK hE Za (dl rfl) rfl rfl Try.underlying53 Yi (hM.sl (pre := []) noB) hi24.1 ?_; intro a hE
   refine s_storeS (i := (s10.2).toNat) (k0 := 0) (seg := Flat.enc r20) (xo := x22) (xn := r20) hE hM Za rfl rfl rfl Yi (Flat.len _) (Flat.cell _) hi24.2 (fit_num (m := 32) (Flat.len _) (by decide)) (Zq flq) ?_; intro w a hM hE
   refine Zj (Yk (Zx (wp_region_lit (Zd hE Za (dl rfl) rfl ?_)))); intro a hE
   refine Zh hE Za (dl rfl) rfl rfl rfl ?_; intro a hE
   refine Ze hE Za (dl rfl) rfl ?_; intro a hE
   refine Zj (Zl ?_)
   exact ⟨_, (Option.some.inj hs13).symm, u11, hE.sub ⟨rfl, rfl, rfl, trivial⟩, hM⟩
  ·intro hb16
   have hs13 := Zz hs13 hb16
   refine wp_exit (Zr (Zr (Yj ?_)))
   have ht25 := hx14 _ (Option.some.inj hs13).symm
   subst ht25
   refine Zl ?_
   exact ⟨u11, hE.sub ⟨rfl, trivial⟩, hM⟩
 ·skip
  rintro a w ⟨u8, hE, hM⟩
  refine Zx (Zc (Zd hE Za (dl rfl) rfl ?_)); intro a hE
  refine Ze hE Za (dl rfl) rfl ?_; intro a hE
  refine Zf ?_
  have hr := Option.some.inj hF7
  subst hr
  exact wp_ret (Zy hE rfl (Zu hE rfl) ⟨_, rfl, u8, rfl, hM.outF (Vq WY), hM.kept⟩)
noncomputable def Uj (p0 : (List UInt8)) (s10 : (List UInt8) × Int) : Option (Fl ((List UInt8) × Int) (List UInt8)) :=
 if (decide (s10.2 < (p0.length : Int))) = true then ((idx p0 s10.2).bind fun x17 => (idx s10.1 s10.2).bind fun x20 => some (Fl.nx ((s10.1.set (s10.2).toNat x17), wr (s10.2 + 1)))) else (some (Fl.ex s10.1))
noncomputable def WK (p0 : (List UInt8)) : Option ((List UInt8)) :=
 (mkS 1 (0 : UInt8) (p0.length : Int)).bind fun l1 => (ZF (Uj p0) (l1, 0) : Option ((List UInt8))).bind fun j5 => some j5
theorem c_laws_toByteS (w0 : World) (p0 : (List UInt8)) (v0_1 : Value) (hv0_1 : Ro w0 p0 [v0_1]) (r : (List UInt8)) (hF : WK p0 = some r) :
  Calls Try.prog 78 [v0_1].toArray w0 (fun en w' => ∃ v, en = .returned v ∧ (∃ (y1 : Value), v = y1 ∧ Fr w0 w' [osl NoB (r : List UInt8) y1] ∧ Kept (Old w0) w0 w')) := by
 refine ZC (n := 22) Try.func78 rfl rfl (Nat.le_of_ble_eq_true rfl) rfl ?_
 intro a hE
 have hM := M.start w0
 unfold WK at hF
 refine Zc (Ze hE Za (dl rfl) rfl ?_); intro a hE
 refine Zf (Zc (Zd hE Za (dl rfl) rfl ?_)); intro a hE
 refine Z7 hE Za (dl rfl) rfl Try.underlying50 (hM.rd hv0_1) ?_; intro a hE
 obtain ⟨l1, e2, hF⟩ := bind_some hF
 refine s_make hE hM Za (dl rfl) rfl rfl Try.underlying50 ty5 rfl (by decide) (fun _ => sat_flat.2 ⟨rfl, rfl⟩) e2 ?_; intro u3 w a hM hE
 refine Ze hE Za (dl rfl) rfl ?_; intro a hE
 refine Zf (wp_seq (Zc (Ze hE Za (dl rfl) rfl ?_))); intro a hE
 refine Zf ?_
 obtain ⟨j5, hl6, hF7⟩ := bind_some hF
 refine ZV (fun a w => ∃ (u8 : Value), Env 22 a [(3, u8)] ∧ M (Old w0) w0 w [osl NoB (j5 : List UInt8) u8]) ?_ ?_
 ·skip
  refine wp_block ?_
  refine ZN (fun (s10 : (List UInt8) × Int) a w => ∃ (u11 : Value), Env 22 a [(0, v0_1), (3, u11), (4, (vI s10.2))] ∧ M (Old w0) w0 w [osl NoB (s10.1 : List UInt8) u11]) hl6 ⟨u3, hE.sub ⟨rfl, rfl, rfl, trivial⟩, hM⟩ ?_
  rintro s10 a w ⟨u11, hE, hM⟩ o15 hs13 hx14
  unfold Uj at hs13
  refine wp_seq (Zc (Zd hE Za (dl rfl) rfl ?_)); intro a hE
  refine Zd hE Za (dl rfl) rfl ?_; intro a hE
  refine Z7 hE Za (dl rfl) rfl Try.underlying50 (hM.rd hv0_1) ?_; intro a hE
  refine Zh hE Za (dl rfl) rfl rfl rfl ?_; intro a hE
  refine Zf ?_
  refine Zt hE rfl ?_ ?_
  ·intro hb16
   have hs13 := ZA hs13 hb16
   refine wp_skip (Zx (wp_seq (wp_block (wp_region_lit (Zd hE Za (dl rfl) rfl ?_))))); intro a hE
   refine Zd hE Za (dl rfl) rfl ?_; intro a hE
   refine Zd hE Za (dl rfl) rfl ?_; intro a hE
   refine Zd hE Za (dl rfl) rfl ?_; intro a hE
   obtain ⟨x17, e18, hs13⟩ := bind_some hs13
   have hi19 := ZQ e18
   refine ZK hE Za (dl rfl) rfl rfl Try.underlying50 ty5 (hM.rd hv0_1) hi19.1 ?_; intro a hE
   refine Zv (v := (vB x17)) hE Za (dl rfl) rfl ty5 rfl (Yt (hM.rd hv0_1) hi19.2) ?_; intro a hE
   obtain ⟨x20, e21, hs13⟩ := bind_some hs13
   have hi22 := ZQ e21
   refine ZK hE Za (dl rfl) rfl rfl Try.underlying50 ty5 (hM.sl (pre := []) noB) hi22.1 ?_; intro a hE
   refine s_storeS (i := (s10.2).toNat) (k0 := 0) (seg := [(vB x17)]) (xo := x20) (xn := x17) hE hM Za rfl rfl rfl ty5 rfl (Flat.cell (x17 : UInt8)) hi22.2 (fit_num (m := 1) rfl (by decide)) (Zq rfl) ?_; intro w a hM hE
   refine Zj (Yk (Zx (wp_region_lit (Zd hE Za (dl rfl) rfl ?_)))); intro a hE
   refine Zh hE Za (dl rfl) rfl rfl rfl ?_; intro a hE
   refine Ze hE Za (dl rfl) rfl ?_; intro a hE
   refine Zj (Zl ?_)
   exact ⟨_, (Option.some.inj hs13).symm, u11, hE.sub ⟨rfl, rfl, rfl, trivial⟩, hM⟩
  ·intro hb16
   have hs13 := Zz hs13 hb16
   refine wp_exit (Zr (Zr (Yj ?_)))
   have ht23 := hx14 _ (Option.some.inj hs13).symm
   subst ht23
   refine Zl ?_
   exact ⟨u11, hE.sub ⟨rfl, trivial⟩, hM⟩
 ·skip
  rintro a w ⟨u8, hE, hM⟩
  refine Zx (Zc (Zd hE Za (dl rfl) rfl ?_)); intro a hE
  refine Ze hE Za (dl rfl) rfl ?_; intro a hE
  refine Zf ?_
  have hr := Option.some.inj hF7
  subst hr
  exact wp_ret (Zy hE rfl (Zu hE rfl) ⟨_, rfl, u8, rfl, hM.outF (Vq WY), hM.kept⟩)
noncomputable def V0 (p0 : (List (List UInt8))) (s10 : (List (List UInt8)) × Int) : Option (Fl ((List (List UInt8)) × Int) (List (List UInt8))) :=
 if (decide (s10.2 < (p0.length : Int))) = true then ((idx p0 s10.2).bind fun x17 => (WK x17).bind fun r25 => (idx s10.1 s10.2).bind fun x28 => some (Fl.nx ((s10.1.set (s10.2).toNat r25), wr (s10.2 + 1)))) else (some (Fl.ex s10.1))
noncomputable def Vg (p0 : (List (List UInt8))) : Option ((List (List UInt8))) :=
 (mkS 24 ([] : (List UInt8)) (p0.length : Int)).bind fun l1 => (ZF (V0 p0) (l1, 0) : Option ((List (List UInt8)))).bind fun j5 => some j5
theorem c_laws_toByteSS (w0 : World) (p0 : (List (List UInt8))) (v0_1 : Value) (hv0_1 : Ro w0 p0 [v0_1]) (r : (List (List UInt8))) (hF : Vg p0 = some r) :
  Calls Try.prog 52 [v0_1].toArray w0 (fun en w' => ∃ v, en = .returned v ∧ (∃ (y1 : Value), v = y1 ∧ Fr w0 w' [osl NoB (r : List (List UInt8)) y1] ∧ Kept (Old w0) w0 w')) := by
 refine ZC (n := 23) Try.func52 rfl rfl (Nat.le_of_ble_eq_true rfl) rfl ?_
 intro a hE
 have hM := M.start w0
 unfold Vg at hF
 refine Zc (Ze hE Za (dl rfl) rfl ?_); intro a hE
 refine Zf (Zc (Zd hE Za (dl rfl) rfl ?_)); intro a hE
 refine Z7 hE Za (dl rfl) rfl Try.underlying45 (hM.rd hv0_1) ?_; intro a hE
 obtain ⟨l1, e2, hF⟩ := bind_some hF
 refine s_make hE hM Za (dl rfl) rfl rfl Try.underlying45 VD rfl (by decide) (fun _ => zsat_nil) e2 ?_; intro u3 w a hM hE
 refine Ze hE Za (dl rfl) rfl ?_; intro a hE
 refine Zf (wp_seq (Zc (Ze hE Za (dl rfl) rfl ?_))); intro a hE
 refine Zf ?_
 obtain ⟨j5, hl6, hF7⟩ := bind_some hF
 refine ZV (fun a w => ∃ (u8 : Value), Env 23 a [(3, u8)] ∧ M (Old w0) w0 w [osl NoB (j5 : List (List UInt8)) u8]) ?_ ?_
 ·skip
  refine wp_block ?_
  refine ZN (fun (s10 : (List (List UInt8)) × Int) a w => ∃ (u11 : Value), Env 23 a [(0, v0_1), (3, u11), (4, (vI s10.2))] ∧ M (Old w0) w0 w [osl NoB (s10.1 : List (List UInt8)) u11]) hl6 ⟨u3, hE.sub ⟨rfl, rfl, rfl, trivial⟩, hM⟩ ?_
  rintro s10 a w ⟨u11, hE, hM⟩ o15 hs13 hx14
  unfold V0 at hs13
  refine wp_seq (Zc (Zd hE Za (dl rfl) rfl ?_)); intro a hE
  refine Zd hE Za (dl rfl) rfl ?_; intro a hE
  refine Z7 hE Za (dl rfl) rfl Try.underlying45 (hM.rd hv0_1) ?_; intro a hE
  refine Zh hE Za (dl rfl) rfl rfl rfl ?_; intro a hE
  refine Zf ?_
  refine Zt hE rfl ?_ ?_
  ·intro hb16
   have hs13 := ZA hs13 hb16
   refine wp_skip (Zx (wp_seq (wp_block (wp_region_lit (Zd hE Za (dl rfl) rfl ?_))))); intro a hE
   refine Zd hE Za (dl rfl) rfl ?_; intro a hE
   refine Zd hE Za (dl rfl) rfl ?_; intro a hE
   refine Zd hE Za (dl rfl) rfl ?_; intro a hE
   obtain ⟨x17, e18, hs13⟩ := bind_some hs13
   have hi19 := ZQ e18
   refine ZK hE Za (dl rfl) rfl rfl Try.underlying45 VD (hM.rd hv0_1) hi19.1 ?_; intro a hE
   obtain ⟨cs20, hs21, hA22⟩ := Us hv0_1 hi19.2 -- ^
   obtain ⟨u23, rfl⟩ := Vp hs21 -- ^
   have h24 := hs21 -- ^
   refine Zv (v := u23) hE Za (dl rfl) rfl VD rfl (hM.atk hA22 (Uv hv0_1 hi19.2)) ?_; intro a hE
   obtain ⟨r25, e26, hs13⟩ := bind_some hs13
   refine Zw (vs := [u23]) hE Za (dl rfl) rfl cb78 (c_laws_toByteS _ x17 u23 (hM.rdo h24) r25 e26) ?_
   rintro u27 w a ⟨_, rfl, hFr, hK⟩ hE
   have hM := hM.add hK hFr
   obtain ⟨x28, e29, hs13⟩ := bind_some hs13
   have hi30 := ZQ e29
   refine ZK hE Za (dl rfl) rfl rfl Try.underlying45 VD (hM.sl (pre := [_]) noB) hi30.1 ?_; intro a hE
   have hc31 := sl_cells (hM.sl (pre := []) noB)
   have hM := hM.pack1 (it := own NoB r25 ([u27])) (Xg noB) (fun f0 q0 => (XL.sat q0))
   have hM := hM.pull (pre := [_])
   have hM := hM.pull (pre := [_])
   refine s_storeR (i := (s10.2).toNat) (seg := [u27]) hE hM noB Za rfl rfl hc31 VD (by omega) ?_; intro w a hM hE
   refine Zj (Yk (Zx (wp_region_lit (Zd hE Za (dl rfl) rfl ?_)))); intro a hE
   refine Zh hE Za (dl rfl) rfl rfl rfl ?_; intro a hE
   refine Ze hE Za (dl rfl) rfl ?_; intro a hE
   refine Zj (Zl ?_)
   exact ⟨_, (Option.some.inj hs13).symm, u11, hE.sub ⟨rfl, rfl, rfl, trivial⟩, hM⟩
  ·intro hb16
   have hs13 := Zz hs13 hb16
   refine wp_exit (Zr (Zr (Yj ?_)))
   have ht32 := hx14 _ (Option.some.inj hs13).symm
   subst ht32
   refine Zl ?_
   exact ⟨u11, hE.sub ⟨rfl, trivial⟩, hM⟩
 ·skip
  rintro a w ⟨u8, hE, hM⟩
  refine Zx (Zc (Zd hE Za (dl rfl) rfl ?_)); intro a hE
  refine Ze hE Za (dl rfl) rfl ?_; intro a hE
  refine Zf ?_
  have hr := Option.some.inj hF7
  subst hr
  exact wp_ret (Zy hE rfl (Zu hE rfl) ⟨_, rfl, u8, rfl, hM.outF (Vq WY), hM.kept⟩)
noncomputable def V1 (p0 : (List Int)) (s10 : (List Int) × Int) : Option (Fl ((List Int) × Int) (List Int)) :=
 if (decide (s10.2 < (p0.length : Int))) = true then ((idx p0 s10.2).bind fun x17 => (idx s10.1 s10.2).bind fun x20 => some (Fl.nx ((s10.1.set (s10.2).toNat x17), wr (s10.2 + 1)))) else (some (Fl.ex s10.1))
noncomputable def Vi (p0 : (List Int)) : Option ((List Int)) :=
 (mkS 8 (0 : Int) (p0.length : Int)).bind fun l1 => (ZF (V1 p0) (l1, 0) : Option ((List Int))).bind fun j5 => some j5
theorem c_laws_toInt64S (w0 : World) (p0 : (List Int)) (v0_1 : Value) (hv0_1 : Ro w0 p0 [v0_1]) (r : (List Int)) (hF : Vi p0 = some r) :
  Calls Try.prog 53 [v0_1].toArray w0 (fun en w' => ∃ v, en = .returned v ∧ (∃ (y1 : Value), v = y1 ∧ Fr w0 w' [osl NoB (r : List Int) y1] ∧ Kept (Old w0) w0 w')) := by
 refine ZC (n := 22) Try.func53 rfl rfl (Nat.le_of_ble_eq_true rfl) rfl ?_
 intro a hE
 have hM := M.start w0
 unfold Vi at hF
 refine Zc (Ze hE Za (dl rfl) rfl ?_); intro a hE
 refine Zf (Zc (Zd hE Za (dl rfl) rfl ?_)); intro a hE
 refine Z7 hE Za (dl rfl) rfl Try.underlying46 (hM.rd hv0_1) ?_; intro a hE
 obtain ⟨l1, e2, hF⟩ := bind_some hF
 refine s_make hE hM Za (dl rfl) rfl rfl Try.underlying46 ty2 rfl (by decide) (fun _ => sat_flat.2 ⟨rfl, rfl⟩) e2 ?_; intro u3 w a hM hE
 refine Ze hE Za (dl rfl) rfl ?_; intro a hE
 refine Zf (wp_seq (Zc (Ze hE Za (dl rfl) rfl ?_))); intro a hE
 refine Zf ?_
 obtain ⟨j5, hl6, hF7⟩ := bind_some hF
 refine ZV (fun a w => ∃ (u8 : Value), Env 22 a [(3, u8)] ∧ M (Old w0) w0 w [osl NoB (j5 : List Int) u8]) ?_ ?_
 ·skip
  refine wp_block ?_
  refine ZN (fun (s10 : (List Int) × Int) a w => ∃ (u11 : Value), Env 22 a [(0, v0_1), (3, u11), (4, (vI s10.2))] ∧ M (Old w0) w0 w [osl NoB (s10.1 : List Int) u11]) hl6 ⟨u3, hE.sub ⟨rfl, rfl, rfl, trivial⟩, hM⟩ ?_
  rintro s10 a w ⟨u11, hE, hM⟩ o15 hs13 hx14
  unfold V1 at hs13
  refine wp_seq (Zc (Zd hE Za (dl rfl) rfl ?_)); intro a hE
  refine Zd hE Za (dl rfl) rfl ?_; intro a hE
  refine Z7 hE Za (dl rfl) rfl Try.underlying46 (hM.rd hv0_1) ?_; intro a hE
  refine Zh hE Za (dl rfl) rfl rfl rfl ?_; intro a hE
  refine Zf ?_
  refine Zt hE rfl ?_ ?_
  ·intro hb16
   have hs13 := ZA hs13 hb16
   refine wp_skip (Zx (wp_seq (wp_block (wp_region_lit (Zd hE Za (dl rfl) rfl ?_))))); intro a hE
   refine Zd hE Za (dl rfl) rfl ?_; intro a hE
   refine Zd hE Za (dl rfl) rfl ?_; intro a hE
   refine Zd hE Za (dl rfl) rfl ?_; intro a hE
   obtain ⟨x17, e18, hs13⟩ := bind_some hs13
   have hi19 := ZQ e18
   refine ZK hE Za (dl rfl) rfl rfl Try.underlying46 ty2 (hM.rd hv0_1) hi19.1 ?_; intro a hE
   refine Zv (v := (vI x17)) hE Za (dl rfl) rfl ty2 rfl (Yt (hM.rd hv0_1) hi19.2) ?_; intro a hE
   obtain ⟨x20, e21, hs13⟩ := bind_some hs13
   have hi22 := ZQ e21
   refine ZK hE Za (dl rfl) rfl rfl Try.underlying46 ty2 (hM.sl (pre := []) noB) hi22.1 ?_; intro a hE
   refine s_storeS (i := (s10.2).toNat) (k0 := 0) (seg := [(vI x17)]) (xo := x20) (xn := x17) hE hM Za rfl rfl rfl ty2 rfl (Flat.cell (x17 : Int)) hi22.2 (fit_num (m := 1) rfl (by decide)) (Zq rfl) ?_; intro w a hM hE
   refine Zj (Yk (Zx (wp_region_lit (Zd hE Za (dl rfl) rfl ?_)))); intro a hE
   refine Zh hE Za (dl rfl) rfl rfl rfl ?_; intro a hE
   refine Ze hE Za (dl rfl) rfl ?_; intro a hE
   refine Zj (Zl ?_)
   exact ⟨_, (Option.some.inj hs13).symm, u11, hE.sub ⟨rfl, rfl, rfl, trivial⟩, hM⟩
  ·intro hb16
   have hs13 := Zz hs13 hb16
   refine wp_exit (Zr (Zr (Yj ?_)))
   have ht23 := hx14 _ (Option.some.inj hs13).symm
   subst ht23
   refine Zl ?_
   exact ⟨u11, hE.sub ⟨rfl, trivial⟩, hM⟩
 ·skip
  rintro a w ⟨u8, hE, hM⟩
  refine Zx (Zc (Zd hE Za (dl rfl) rfl ?_)); intro a hE
  refine Ze hE Za (dl rfl) rfl ?_; intro a hE
  refine Zf ?_
  have hr := Option.some.inj hF7
  subst hr
  exact wp_ret (Zy hE rfl (Zu hE rfl) ⟨_, rfl, u8, rfl, hM.outF (Vq WY), hM.kept⟩)
noncomputable def Xm (p0 : GBlobs) : Option (GBlobs) :=
 (WQ p0.Keys).bind fun r7 => (Vg p0.Data).bind fun r10 => (Vi p0.Counts).bind fun r13 => some (⟨r7, r10, r13⟩ : GBlobs)
theorem Uu (w0 : World) (p0 : GBlobs) (v0_1 : Value) (hv0_1 : Ro w0 p0.Keys [v0_1]) (v0_2 : Value) (hv0_2 : Ro w0 p0.Data [v0_2]) (v0_3 : Value) (hv0_3 : Ro w0 p0.Counts [v0_3]) (r : GBlobs) (hF : Xm p0 = some r) :
  Calls Try.prog 20 [(Value.agg (cat [[v0_1], [v0_2], [v0_3]]).toArray)].toArray w0 (fun en w' => ∃ v, en = .returned v ∧ (∃ (y1 : Value) (y2 : Value) (y3 : Value), v = (Value.agg (cat [[y1], [y2], [y3]]).toArray) ∧ Fr w0 w' [osl NoB (r.Keys : List (Vector UInt8 32)) y1, osl NoB (r.Data : List (List UInt8)) y2, osl NoB (r.Counts : List Int) y3] ∧ Kept (Old w0) w0 w')) := by
 refine ZC (n := 17) Try.func20 rfl rfl (Nat.le_of_ble_eq_true rfl) rfl ?_
 intro a hE
 have hM := M.start w0
 unfold Xm at hF
 refine Zc (Z4 (cs := cat [[v0_1], [v0_2], [v0_3]]) hE hM Za (dl rfl) rfl rfl ?_); intro b1 w a hM hE
 refine ZO hE hM Za (dl rfl) ty55 ?_; intro b3 w a hM hE
 refine Zf (Zc (ZO hE hM Za (dl rfl) ty55 ?_)); intro b5 w a hM hE
 refine Zf (Zc (Zo hE Za (dl rfl) rfl (fd48_0) ?_)); intro a hE
 refine Zv (v := v0_1) hE Za (dl rfl) rfl ty44 rfl (At.cat (pre := []) (hM.rawAt (pre := [_, _])) cl0) ?_; intro a hE
 obtain ⟨r7, e8, hF⟩ := bind_some hF
 refine Zw (vs := [v0_1]) hE Za (dl rfl) rfl cb51 (c_laws_toDigestS _ p0.Keys v0_1 (hM.rdo hv0_1) r7 e8) ?_
 rintro u9 w a ⟨_, rfl, hFr, hK⟩ hE
 have hM := hM.add hK hFr
 refine Zo hE Za (dl rfl) rfl (Vz) ?_; intro a hE
 have hM := hM.pull (pre := [_])
 refine Zs (seg := [u9]) (cs' := cat [[u9], [(Value.slice none 0 0)], [(Value.slice none 0 0)]]) hE hM Za rfl rfl (sl_cells (hM.sl (pre := [_]) noB)) ty53 rfl (fit_cat (pre := []) cl0 rfl) (Rep.cell (hM.sl (pre := [_]) noB)) (splice_cat (pre := []) cl0 rfl) ?_; intro w a hM hE
 refine Zf (Zc (Zo hE Za (dl rfl) rfl (fd48_1) ?_)); intro a hE
 refine Zv (v := v0_2) hE Za (dl rfl) rfl ty45 rfl (At.cat (pre := [[v0_1]]) (hM.rawAt (pre := [_, _, _])) (cl1 (n := 1) (m := 0) rfl cl0)) ?_; intro a hE
 obtain ⟨r10, e11, hF⟩ := bind_some hF
 refine Zw (vs := [v0_2]) hE Za (dl rfl) rfl cb52 (c_laws_toByteSS _ p0.Data v0_2 (hM.rdo hv0_2) r10 e11) ?_
 rintro u12 w a ⟨_, rfl, hFr, hK⟩ hE
 have hM := hM.add hK hFr
 refine Zo hE Za (dl rfl) rfl (UE) ?_; intro a hE
 have hM := hM.pull (pre := [_])
 refine Zs (seg := [u12]) (cs' := cat [[u9], [u12], [(Value.slice none 0 0)]]) hE hM Za rfl rfl (sl_cells (hM.sl (pre := [_]) noB)) ty45 rfl (fit_cat (pre := [[u9]]) (cl1 (n := 1) (m := 0) rfl cl0) rfl) (Rep.cell (hM.sl (pre := [_]) noB)) (splice_cat (pre := [[u9]]) (cl1 (n := 1) (m := 0) rfl cl0) rfl) ?_; intro w a hM hE
 refine Zf (Zc (Zo hE Za (dl rfl) rfl (fd48_2) ?_)); intro a hE
 refine Zv (v := v0_3) hE Za (dl rfl) rfl ty46 rfl (At.cat (pre := [[v0_1], [v0_2]]) (hM.rawAt (pre := [_, _, _, _])) (cl1 (n := 1) (m := 1) rfl (cl1 (n := 1) (m := 0) rfl cl0))) ?_; intro a hE
 obtain ⟨r13, e14, hF⟩ := bind_some hF
 refine Zw (vs := [v0_3]) hE Za (dl rfl) rfl cb53 (c_laws_toInt64S _ p0.Counts v0_3 (hM.rdo hv0_3) r13 e14) ?_
 rintro u15 w a ⟨_, rfl, hFr, hK⟩ hE
 have hM := hM.add hK hFr
 refine Zo hE Za (dl rfl) rfl (fd55_2) ?_; intro a hE
 have hM := hM.pull (pre := [_])
 refine Zs (seg := [u15]) (cs' := cat [[u9], [u12], [u15]]) hE hM Za rfl rfl (sl_cells (hM.sl (pre := [_]) noB)) ty46 rfl (fit_cat (pre := [[u9], [u12]]) (cl1 (n := 1) (m := 1) rfl (cl1 (n := 1) (m := 0) rfl cl0)) rfl) (Rep.cell (hM.sl (pre := [_]) noB)) (splice_cat (pre := [[u9], [u12]]) (cl1 (n := 1) (m := 1) rfl (cl1 (n := 1) (m := 0) rfl cl0)) rfl) ?_; intro w a hM hE
 refine Zf (Zc (Zp (cs := cat [[u9], [u12], [u15]]) hE Za (dl rfl) rfl ty55 rfl (hM.rawAt (pre := [])) (ZR (cl1 (n := 1) (m := 2) rfl (cl1 (n := 1) (m := 1) rfl (cl1 (n := 1) (m := 0) rfl cl0)))) ?_)); intro a hE
 have hM := hM.pull (pre := [_, _, _, _])
 refine Zs (seg := cat [[u9], [u12], [u15]]) (cs' := cat [[u9], [u12], [u15]]) hE hM Za rfl rfl rfl ty55 (ZR (cl1 (n := 1) (m := 2) rfl (cl1 (n := 1) (m := 1) rfl (cl1 (n := 1) (m := 0) rfl cl0)))) (Nat.le_of_eq ((Nat.zero_add _).trans (Eq.trans (ZR (cl1 (n := 1) (m := 2) rfl (cl1 (n := 1) (m := 1) rfl (cl1 (n := 1) (m := 0) rfl cl0)))) (Eq.symm (ZR (cl1 (n := 1) (m := 2) rfl (cl1 (n := 1) (m := 1) rfl (cl1 (n := 1) (m := 0) rfl cl0)))))))) (cat_cell (cc1 (Rep.cell (hM.sl (pre := [_, _, _, _]) noB)) (cc1 (Rep.cell (hM.sl (pre := [_, _, _]) noB)) (cc1 (Rep.cell (hM.sl (pre := [_, _]) noB)) cc0)))) (Zq (Eq.trans (ZR (cl1 (n := 1) (m := 2) rfl (cl1 (n := 1) (m := 1) rfl (cl1 (n := 1) (m := 0) rfl cl0)))) (Eq.symm (ZR (cl1 (n := 1) (m := 2) rfl (cl1 (n := 1) (m := 1) rfl (cl1 (n := 1) (m := 0) rfl cl0))))))) ?_; intro w a hM hE
 refine Zf ?_
 have hr := Option.some.inj hF
 subst hr
 have hq16 : YR Try.prog _ _ (.cell 2 55) _ := Z6 hE rfl ty55 rfl (hM.rawAt (pre := [])) (ZR (cl1 (n := 1) (m := 2) rfl (cl1 (n := 1) (m := 1) rfl (cl1 (n := 1) (m := 0) rfl cl0)))) rfl
 have hM := hM.pull (pre := [_, _])
 have hM := hM.pull (pre := [_, _, _])
 have hM := hM.pull (pre := [_, _, _, _])
 have hM := M.fst (l := [_, _, _]) hM
 exact wp_ret (Zy hE rfl hq16 ⟨_, rfl, u9, u12, u15, rfl, hM.outF (Vq (Vq (Vq WY))), hM.kept⟩)
noncomputable def XF (p0 : (Vector UInt8 32)) (p1 : (Vector UInt8 32)) (s9 : Int) : Option (Fl Int (Fl Unit Bool)) :=
 if (decide (s9 < 32)) = true then (((ZM p0 s9).bind fun x19 => (ZM p1 s9).bind fun x22 => some (x19 != x22) : Option (Bool)).bind fun j14 => if j14 = true then (((ZM p0 s9).bind fun x31 => (ZM p1 s9).bind fun x34 => some (decide (x31 < x34)) : Option (Bool)).bind fun j26 => some (Fl.ex (Fl.ex j26))) else (some (Fl.nx (wr (s9 + 1))))) else (some (Fl.ex (Fl.nx ())))
noncomputable def X1 (p0 : (Vector UInt8 32)) (p1 : (Vector UInt8 32)) : Option (Bool) :=
 (ZF (XF p0 p1) 0 : Option (Fl Unit Bool)).bind fun j5 => j5.el (fun s8 => some false) (fun r => some r)
theorem c_spec_l09Less (w0 : World) (p0 : (Vector UInt8 32)) (p1 : (Vector UInt8 32)) (r : Bool) (hF : X1 p0 p1 = some r) :
  Calls Try.prog 96 [(Value.agg (Flat.enc p0).toArray), (Value.agg (Flat.enc p1).toArray)].toArray w0 (fun en w' => ∃ v, en = .returned v ∧ (v = (vT r) ∧ Kept (Old w0) w0 w')) := by
 refine ZC (n := 24) Try.func96 rfl rfl (Nat.le_of_ble_eq_true rfl) rfl ?_
 intro a hE
 have hM := M.start w0
 unfold X1 at hF
 refine Zc (Z4 (cs := Flat.enc p0) hE hM Za (dl rfl) rfl rfl ?_); intro b1 w a hM hE
 refine Z4 (cs := Flat.enc p1) hE hM Za (dl rfl) rfl rfl ?_; intro b3 w a hM hE
 refine Ze hE Za (dl rfl) rfl ?_; intro a hE
 refine Zf (wp_seq (Zc (Ze hE Za (dl rfl) rfl ?_))); intro a hE
 refine Zf ?_
 obtain ⟨j5, hl6, hF7⟩ := bind_some hF
 refine ZV (fun a w => ∃ s8 : Unit, j5 = Fl.nx s8 ∧ Env 24 a [] ∧ M (Old w0) w0 w []) ?_ ?_
 ·skip
  refine wp_block ?_
  refine ZN (fun (s9 : Int) a w => Env 24 a [(2, (ptr b1 0)), (3, (ptr b3 0)), (5, (vI s9))] ∧ M (Old w0) w0 w [raw b3 (Flat.enc p1), raw b1 (Flat.enc p0)]) hl6 ⟨hE.sub ⟨rfl, rfl, rfl, trivial⟩, hM⟩ ?_
  rintro s9 a w ⟨hE, hM⟩ o12 hs10 hx11
  unfold XF at hs10
  refine wp_seq (Zc (Zd hE Za (dl rfl) rfl ?_)); intro a hE
  refine Zh hE Za (dl rfl) rfl rfl rfl ?_; intro a hE
  refine Zf ?_
  refine Zt hE rfl ?_ ?_
  ·intro hb13
   have hs10 := ZA hs10 hb13
   refine wp_skip (Zx (wp_seq (wp_block ?_)))
   obtain ⟨j14, hl15, hF16⟩ := bind_some hs10
   refine ZS (fun a w => Env 24 a [(2, (ptr b1 0)), (3, (ptr b3 0)), (5, (vI s9)), (16, (vT j14))] ∧ M (Old w0) w0 w [raw b3 (Flat.enc p1), raw b1 (Flat.enc p0)]) ?_ ?_
   ·skip
    obtain ⟨x19, e20, hl15⟩ := bind_some hl15
    have hi18 := Zi e20
    obtain ⟨x22, e23, hl15⟩ := bind_some hl15
    have hi21 := Zi e23
    refine Yd (n := 24) (hd := [_, _, _, _, _, _, _]) (tl := []) YB rfl rfl [10, 11, 12, 13, 14, 15, 16] (by decide) (fun w => M (Old w0) w0 w [raw b3 (Flat.enc p1), raw b1 (Flat.enc p0)]) (fun j => ([fun v _ => v = (vI s9), fun v _ => v = (ptr b1 (0 + (s9).toNat * 1)), fun v _ => v = (vB x19), fun v _ => v = (vI s9), fun v _ => v = (ptr b3 (0 + (s9).toNat * 1)), fun v _ => v = (vB x22), fun v _ => v = (vT (x19 != x22))] : List (Value → World → Prop)).getD j (fun _ _ => True)) (fun _ _ h hk => h.keep hk) (gup (Zg (Zg (Zg (Zg (Zg (Zg (Zg Wu)))))))) hE hM.drew (ZH (Zb ?_ (Zb ?_ (Zb ?_ (Zb ?_ (Zb ?_ (Zb ?_ (Zb ?_ ZD)))))))) ?_
    ·exact fun a w ux17 hE hM hp => Zd hE Za (dl rfl) rfl fun a hE => ⟨Kept.refl _ _, _, _, rfl, hE, rfl⟩
    ·intro a w ux17 hE hM hp
     have f0 : ux17 0 = (vI s9) := hp 0 _ rfl rfl
     exact Zm hE Za (dl rfl) rfl (lk rfl f0) Try.underlying25 ty5 hi18.1 fun a hE => ⟨Kept.refl _ _, _, _, rfl, hE, rfl⟩
    ·intro a w ux17 hE hM hp
     have f1 : ux17 1 = (ptr b1 (0 + (s9).toNat * 1)) := hp 0 _ rfl rfl
     exact Zv (v := (vB x19)) hE Za (dl rfl) (lk rfl f1) ty5 rfl (At.vec (hM.rawAt (pre := [_])) hi18.2) fun a hE => ⟨Kept.refl _ _, _, _, rfl, hE, rfl⟩
    ·exact fun a w ux17 hE hM hp => Zd hE Za (dl rfl) rfl fun a hE => ⟨Kept.refl _ _, _, _, rfl, hE, rfl⟩
    ·intro a w ux17 hE hM hp
     have f3 : ux17 3 = (vI s9) := hp 0 _ rfl rfl
     exact Zm hE Za (dl rfl) rfl (lk rfl f3) Try.underlying25 ty5 hi21.1 fun a hE => ⟨Kept.refl _ _, _, _, rfl, hE, rfl⟩
    ·intro a w ux17 hE hM hp
     have f4 : ux17 4 = (ptr b3 (0 + (s9).toNat * 1)) := hp 0 _ rfl rfl
     exact Zv (v := (vB x22)) hE Za (dl rfl) (lk rfl f4) ty5 rfl (At.vec (hM.rawAt (pre := [])) hi21.2) fun a hE => ⟨Kept.refl _ _, _, _, rfl, hE, rfl⟩
    ·intro a w ux17 hE hM hp
     have f2 : ux17 2 = (vB x19) := hp 0 _ rfl rfl
     have f5 : ux17 5 = (vB x22) := hp 1 _ rfl rfl
     exact Zh hE Za (dl rfl) (lk rfl f2) (lk rfl f5) (bB_neq x19 x22) fun a hE => ⟨Kept.refl _ _, _, _, rfl, hE, rfl⟩
    ·intro a w ux17 hE hM hg
     have hE := hE.sub (e' := [(16, (vT (x19 != x22))), (2, (ptr b1 0)), (3, (ptr b3 0)), (5, (vI s9)), (6, (vI s9)), (7, (vT (decide (s9 < 32))))]) ⟨lk rfl (hg 6 (by decide)), rfl, rfl, rfl, rfl, rfl, trivial⟩
     refine Zj ?_
     have ht24 := Option.some.inj hl15
     subst ht24
     refine Zl ?_
     exact ⟨hE.sub ⟨rfl, rfl, rfl, rfl, trivial⟩, hM⟩
   ·skip
    rintro a w ⟨hE, hM⟩
    refine Zt hE rfl ?_ ?_
    ·intro hb25
     have hF16 := ZA hF16 hb25
     obtain ⟨j26, hl27, hF28⟩ := bind_some hF16
     refine ZS (fun a w => Env 24 a [(4, (vT j26))] ∧ M (Old w0) w0 w []) ?_ ?_
     ·skip
      obtain ⟨x31, e32, hl27⟩ := bind_some hl27
      have hi30 := Zi e32
      obtain ⟨x34, e35, hl27⟩ := bind_some hl27
      have hi33 := Zi e35
      refine Yd (n := 24) (hd := [_, _, _, _, _, _, _, _]) (tl := []) YB rfl rfl [17, 18, 19, 20, 21, 22, 23, 4] (by decide) (fun w => M (Old w0) w0 w [raw b3 (Flat.enc p1), raw b1 (Flat.enc p0)]) (fun j => ([fun v _ => v = (vI s9), fun v _ => v = (ptr b1 (0 + (s9).toNat * 1)), fun v _ => v = (vB x31), fun v _ => v = (vI s9), fun v _ => v = (ptr b3 (0 + (s9).toNat * 1)), fun v _ => v = (vB x34), fun v _ => v = (vT (decide (x31 < x34))), fun v _ => v = (vT (decide (x31 < x34)))] : List (Value → World → Prop)).getD j (fun _ _ => True)) (fun _ _ h hk => h.keep hk) (gup (Zg (Zg (Zg (Zg (Zg (Zg (Zg (Zg Wu))))))))) hE hM.drew (ZH (Zb ?_ (Zb ?_ (Zb ?_ (Zb ?_ (Zb ?_ (Zb ?_ (Zb ?_ (Zb ?_ ZD))))))))) ?_
      ·exact fun a w ux29 hE hM hp => Zd hE Za (dl rfl) rfl fun a hE => ⟨Kept.refl _ _, _, _, rfl, hE, rfl⟩
      ·intro a w ux29 hE hM hp
       have f0 : ux29 0 = (vI s9) := hp 0 _ rfl rfl
       exact Zm hE Za (dl rfl) rfl (lk rfl f0) Try.underlying25 ty5 hi30.1 fun a hE => ⟨Kept.refl _ _, _, _, rfl, hE, rfl⟩
      ·intro a w ux29 hE hM hp
       have f1 : ux29 1 = (ptr b1 (0 + (s9).toNat * 1)) := hp 0 _ rfl rfl
       exact Zv (v := (vB x31)) hE Za (dl rfl) (lk rfl f1) ty5 rfl (At.vec (hM.rawAt (pre := [_])) hi30.2) fun a hE => ⟨Kept.refl _ _, _, _, rfl, hE, rfl⟩
      ·exact fun a w ux29 hE hM hp => Zd hE Za (dl rfl) rfl fun a hE => ⟨Kept.refl _ _, _, _, rfl, hE, rfl⟩
      ·intro a w ux29 hE hM hp
       have f3 : ux29 3 = (vI s9) := hp 0 _ rfl rfl
       exact Zm hE Za (dl rfl) rfl (lk rfl f3) Try.underlying25 ty5 hi33.1 fun a hE => ⟨Kept.refl _ _, _, _, rfl, hE, rfl⟩
      ·intro a w ux29 hE hM hp
       have f4 : ux29 4 = (ptr b3 (0 + (s9).toNat * 1)) := hp 0 _ rfl rfl
       exact Zv (v := (vB x34)) hE Za (dl rfl) (lk rfl f4) ty5 rfl (At.vec (hM.rawAt (pre := [])) hi33.2) fun a hE => ⟨Kept.refl _ _, _, _, rfl, hE, rfl⟩
      ·intro a w ux29 hE hM hp
       have f2 : ux29 2 = (vB x31) := hp 0 _ rfl rfl
       have f5 : ux29 5 = (vB x34) := hp 1 _ rfl rfl
       exact Zh hE Za (dl rfl) (lk rfl f2) (lk rfl f5) (bB_lss x31 x34) fun a hE => ⟨Kept.refl _ _, _, _, rfl, hE, rfl⟩
      ·intro a w ux29 hE hM hp
       have f6 : ux29 6 = (vT (decide (x31 < x34))) := hp 0 _ rfl rfl
       exact Ze hE Za (dl rfl) (lk rfl f6) fun a hE => ⟨Kept.refl _ _, _, _, rfl, hE, rfl⟩
      ·intro a w ux29 hE hM hg
       have hE := hE.sub (e' := [(4, (vT (decide (x31 < x34)))), (2, (ptr b1 0)), (3, (ptr b3 0)), (5, (vI s9)), (16, (vT j14))]) ⟨lk rfl (hg 7 (by decide)), rfl, rfl, rfl, rfl, trivial⟩
       refine Zj ?_
       have ht36 := Option.some.inj hl27
       subst ht36
       refine Zl ?_
       have hM := M.fst (l := []) hM
       exact ⟨hE.sub ⟨rfl, trivial⟩, hM⟩
     ·skip
      rintro a w ⟨hE, hM⟩
      have ht37 := hx11 _ (Option.some.inj hF28).symm
      subst ht37
      have hr := Option.some.inj hF7
      subst hr
      exact wp_ret (W0 (ZL (ZL (W0 (ZL (ZL (Zy hE rfl (Zu hE rfl) ⟨_, rfl, rfl, hM.kept⟩)))))))
    ·intro hb25
     have hF16 := Zz hF16 hb25
     refine wp_skip (Yk (Zx (wp_region_lit (Zd hE Za (dl rfl) rfl ?_)))); intro a hE
     refine Zh hE Za (dl rfl) rfl rfl rfl ?_; intro a hE
     refine Ze hE Za (dl rfl) rfl ?_; intro a hE
     refine Zj (Zl ?_)
     exact ⟨_, (Option.some.inj hF16).symm, hE.sub ⟨rfl, rfl, rfl, trivial⟩, hM⟩
  ·intro hb13
   have hs10 := Zz hs10 hb13
   refine wp_exit (Zr (Zr (Yj ?_)))
   have ht38 := hx11 _ (Option.some.inj hs10).symm
   subst ht38
   refine Zl ?_
   have hM := M.fst (l := []) hM
   exact ⟨(), rfl, hE.sub trivial, hM⟩
 ·skip
  rintro a w ⟨s8, ht, hE, hM⟩
  subst ht
  have hF7 := el_nx hF7
  refine Zx (Zc (Ze hE Za (dl rfl) rfl ?_)); intro a hE
  refine Zf ?_
  have hr := Option.some.inj hF7
  subst hr
  exact wp_ret (Zy hE rfl (Zu hE rfl) ⟨_, rfl, rfl, hM.kept⟩)
noncomputable def VO (p0 : (List (Vector UInt8 32))) (s5 : Int) : Option (Fl Int (Fl Unit Bool)) :=
 if (decide (s5 < (p0.length : Int))) = true then (((idx p0 (wr (s5 - 1))).bind fun x14 => (idx p0 s5).bind fun x17 => (X1 x14 x17).bind fun r20 => some (!r20) : Option (Bool)).bind fun j10 => if j10 = true then (some (Fl.ex (Fl.ex false))) else (some (Fl.nx (wr (s5 + 1))))) else (some (Fl.ex (Fl.nx ())))
noncomputable def XK (p0 : (List (Vector UInt8 32))) : Option (Bool) :=
 (ZF (VO p0) 1 : Option (Fl Unit Bool)).bind fun j1 => j1.el (fun s4 => some true) (fun r => some r)
theorem c_spec_l09Ascending (w0 : World) (p0 : (List (Vector UInt8 32))) (v0_1 : Value) (hv0_1 : Ro w0 p0 [v0_1]) (r : Bool) (hF : XK p0 = some r) :
  Calls Try.prog 75 [v0_1].toArray w0 (fun en w' => ∃ v, en = .returned v ∧ (v = (vT r) ∧ Kept (Old w0) w0 w')) := by
 refine ZC (n := 21) Try.func75 rfl rfl (Nat.le_of_ble_eq_true rfl) rfl ?_
 intro a hE
 have hM := M.start w0
 unfold XK at hF
 refine Zc (Ze hE Za (dl rfl) rfl ?_); intro a hE
 refine Zf (wp_seq (Zc (Ze hE Za (dl rfl) rfl ?_))); intro a hE
 refine Zf ?_
 obtain ⟨j1, hl2, hF3⟩ := bind_some hF
 refine ZV (fun a w => ∃ s4 : Unit, j1 = Fl.nx s4 ∧ Env 21 a [] ∧ M (Old w0) w0 w []) ?_ ?_
 ·skip
  refine wp_block ?_
  refine ZN (fun (s5 : Int) a w => Env 21 a [(0, v0_1), (3, (vI s5))] ∧ M (Old w0) w0 w []) hl2 ⟨hE.sub ⟨rfl, rfl, trivial⟩, hM⟩ ?_
  rintro s5 a w ⟨hE, hM⟩ o8 hs6 hx7
  unfold VO at hs6
  refine wp_seq (Zc (Zd hE Za (dl rfl) rfl ?_)); intro a hE
  refine Zd hE Za (dl rfl) rfl ?_; intro a hE
  refine Z7 hE Za (dl rfl) rfl Try.underlying53 (hM.rd hv0_1) ?_; intro a hE
  refine Zh hE Za (dl rfl) rfl rfl rfl ?_; intro a hE
  refine Zf ?_
  refine Zt hE rfl ?_ ?_
  ·intro hb9
   have hs6 := ZA hs6 hb9
   refine wp_skip (Zx (wp_seq (wp_block ?_)))
   obtain ⟨j10, hl11, hF12⟩ := bind_some hs6
   refine ZS (fun a w => Env 21 a [(0, v0_1), (3, (vI s5)), (20, (vT j10))] ∧ M (Old w0) w0 w []) ?_ ?_
   ·skip
    obtain ⟨x14, e15, hl11⟩ := bind_some hl11
    have hi16 := ZQ e15
    obtain ⟨x17, e18, hl11⟩ := bind_some hl11
    have hi19 := ZQ e18
    obtain ⟨r20, e21, hl11⟩ := bind_some hl11
    refine Yd (n := 21) (hd := [_, _, _, _, _, _, _, _, _, _, _]) (tl := []) YB rfl rfl [10, 11, 12, 13, 14, 15, 16, 17, 18, 19, 20] (by decide) (fun w => M (Old w0) w0 w []) (fun j => ([fun v _ => v = v0_1, fun v _ => v = (vI s5), fun v _ => v = (vI (wr (s5 - 1))), fun v _ => v = (ptr (sb v0_1) (so v0_1 + ((wr (s5 - 1))).toNat * 32)), fun v _ => v = (Value.agg (Flat.enc x14).toArray), fun v _ => v = v0_1, fun v _ => v = (vI s5), fun v _ => v = (ptr (sb v0_1) (so v0_1 + (s5).toNat * 32)), fun v _ => v = (Value.agg (Flat.enc x17).toArray), fun v _ => v = (vT r20), fun v _ => v = (vT (!r20))] : List (Value → World → Prop)).getD j (fun _ _ => True)) (fun _ _ h hk => h.keep hk) (gup (Zg (Zg (Zg (Zg (Zg (Zg (Zg (Zg (Zg (Zg (Zg Wu)))))))))))) hE hM.drew (ZH (Zb ?_ (Zb ?_ (Zb ?_ (Zb ?_ (Zb ?_ (Zb ?_ (Zb ?_ (Zb ?_ (Zb ?_ (Zb ?_ (Zb ?_ ZD)))))))))))) ?_
    ·exact fun a w ux13 hE hM hp => Zd hE Za (dl rfl) rfl fun a hE => ⟨Kept.refl _ _, _, _, rfl, hE, rfl⟩
    ·exact fun a w ux13 hE hM hp => Zd hE Za (dl rfl) rfl fun a hE => ⟨Kept.refl _ _, _, _, rfl, hE, rfl⟩
    ·intro a w ux13 hE hM hp
     have f1 : ux13 1 = (vI s5) := hp 0 _ rfl rfl
     exact Zh hE Za (dl rfl) (lk rfl f1) rfl rfl fun a hE => ⟨Kept.refl _ _, _, _, rfl, hE, rfl⟩
    ·intro a w ux13 hE hM hp
     have f0 : ux13 0 = v0_1 := hp 0 _ rfl rfl
     have f2 : ux13 2 = (vI (wr (s5 - 1))) := hp 1 _ rfl rfl
     exact ZK hE Za (dl rfl) (lk rfl f0) (lk rfl f2) Try.underlying53 Yi (hM.rd hv0_1) hi16.1 fun a hE => ⟨Kept.refl _ _, _, _, rfl, hE, rfl⟩
    ·intro a w ux13 hE hM hp
     have f3 : ux13 3 = (ptr (sb v0_1) (so v0_1 + ((wr (s5 - 1))).toNat * 32)) := hp 0 _ rfl rfl
     exact Zp (cs := Flat.enc x14) hE Za (dl rfl) (lk rfl f3) Yi rfl (Yt (hM.rd hv0_1) hi16.2) (Flat.len _) fun a hE => ⟨Kept.refl _ _, _, _, rfl, hE, rfl⟩
    ·exact fun a w ux13 hE hM hp => Zd hE Za (dl rfl) rfl fun a hE => ⟨Kept.refl _ _, _, _, rfl, hE, rfl⟩
    ·exact fun a w ux13 hE hM hp => Zd hE Za (dl rfl) rfl fun a hE => ⟨Kept.refl _ _, _, _, rfl, hE, rfl⟩
    ·intro a w ux13 hE hM hp
     have f5 : ux13 5 = v0_1 := hp 0 _ rfl rfl
     have f6 : ux13 6 = (vI s5) := hp 1 _ rfl rfl
     exact ZK hE Za (dl rfl) (lk rfl f5) (lk rfl f6) Try.underlying53 Yi (hM.rd hv0_1) hi19.1 fun a hE => ⟨Kept.refl _ _, _, _, rfl, hE, rfl⟩
    ·intro a w ux13 hE hM hp
     have f7 : ux13 7 = (ptr (sb v0_1) (so v0_1 + (s5).toNat * 32)) := hp 0 _ rfl rfl
     exact Zp (cs := Flat.enc x17) hE Za (dl rfl) (lk rfl f7) Yi rfl (Yt (hM.rd hv0_1) hi19.2) (Flat.len _) fun a hE => ⟨Kept.refl _ _, _, _, rfl, hE, rfl⟩
    ·intro a w ux13 hE hM hp
     have f4 : ux13 4 = (Value.agg (Flat.enc x14).toArray) := hp 0 _ rfl rfl
     have f8 : ux13 8 = (Value.agg (Flat.enc x17).toArray) := hp 1 _ rfl rfl
     refine Zw (vs := [(Value.agg (Flat.enc x14).toArray), (Value.agg (Flat.enc x17).toArray)]) hE Za (dl rfl) (Z0 (ZY (lk rfl f4) (ZY (lk rfl f8) Xf))) cb96 (c_spec_l09Less _ x14 x17 r20 e21) ?_
     rintro v w a ⟨rfl, hK⟩ hE
     exact ⟨hK, _, _, rfl, hE, rfl⟩
    ·intro a w ux13 hE hM hp
     have f9 : ux13 9 = (vT r20) := hp 0 _ rfl rfl
     exact Uo hE Za (dl rfl) (lk rfl f9) fun a hE => ⟨Kept.refl _ _, _, _, rfl, hE, rfl⟩
    ·intro a w ux13 hE hM hg
     have hE := hE.sub (e' := [(20, (vT (!r20))), (0, v0_1), (3, (vI s5)), (4, (vI s5)), (5, v0_1), (6, (vI (p0.length : Int))), (7, (vT (decide (s5 < (p0.length : Int)))))]) ⟨lk rfl (hg 10 (by decide)), rfl, rfl, rfl, rfl, rfl, rfl, trivial⟩
     refine Zj ?_
     have ht22 := Option.some.inj hl11
     subst ht22
     refine Zl ?_
     exact ⟨hE.sub ⟨rfl, rfl, rfl, trivial⟩, hM⟩
   ·skip
    rintro a w ⟨hE, hM⟩
    refine Zt hE rfl ?_ ?_
    ·intro hb23
     have hF12 := ZA hF12 hb23
     refine Zc (Ze hE Za (dl rfl) rfl ?_); intro a hE
     refine Zf ?_
     have ht24 := hx7 _ (Option.some.inj hF12).symm
     subst ht24
     have hr := Option.some.inj hF3
     subst hr
     exact wp_ret (W0 (ZL (ZL (W0 (ZL (ZL (Zy hE rfl (Zu hE rfl) ⟨_, rfl, rfl, hM.kept⟩)))))))
    ·intro hb23
     have hF12 := Zz hF12 hb23
     refine wp_skip (Yk (Zx (wp_region_lit (Zd hE Za (dl rfl) rfl ?_)))); intro a hE
     refine Zh hE Za (dl rfl) rfl rfl rfl ?_; intro a hE
     refine Ze hE Za (dl rfl) rfl ?_; intro a hE
     refine Zj (Zl ?_)
     exact ⟨_, (Option.some.inj hF12).symm, hE.sub ⟨rfl, rfl, trivial⟩, hM⟩
  ·intro hb9
   have hs6 := Zz hs6 hb9
   refine wp_exit (Zr (Zr (Yj ?_)))
   have ht25 := hx7 _ (Option.some.inj hs6).symm
   subst ht25
   refine Zl ?_
   exact ⟨(), rfl, hE.sub trivial, hM⟩
 ·skip
  rintro a w ⟨s4, ht, hE, hM⟩
  subst ht
  have hF3 := el_nx hF3
  refine Zx (Zc (Ze hE Za (dl rfl) rfl ?_)); intro a hE
  refine Zf ?_
  have hr := Option.some.inj hF3
  subst hr
  exact wp_ret (Zy hE rfl (Zu hE rfl) ⟨_, rfl, rfl, hM.kept⟩)
noncomputable def YL (p0 : Int) (s4 : Int × Int × Int) : Option (Fl (Int × Int × Int) Int) :=
 if (decide (s4.2.2 > 0)) = true then (((if ((Int.tmod s4.2.2 2) == 1) = true then (some (xorI s4.1 s4.2.1)) else (some s4.1) : Option (Int)).bind fun j12 => (if (decide ((wr (s4.2.1 * 2)) ≥ 256)) = true then (some (xorI (wr (s4.2.1 * 2)) p0)) else (some (wr (s4.2.1 * 2))) : Option (Int)).bind fun j18 => some (j12, j18) : Option (Int × Int)).bind fun j9 => some (Fl.nx (j9.1, j9.2, wr (Int.tdiv s4.2.2 2)))) else (some (Fl.ex s4.1))
noncomputable def Yv (p0 : Int) (p1 : UInt8) (p2 : UInt8) : Option (UInt8) :=
 (ZF (YL p0) (0, bI p1, bI p2) : Option (Int)).bind fun j1 => some (ZG j1)
theorem Vd (w0 : World) (p0 : Int) (p1 : UInt8) (p2 : UInt8) (r : UInt8) (hF : Yv p0 p1 p2 = some r) :
  Calls Try.prog 123 [(vI p0), (vB p1), (vB p2)].toArray w0 (fun en w' => ∃ v, en = .returned v ∧ (v = (vB r) ∧ Kept (Old w0) w0 w')) := by
 refine ZC (n := 33) Try.func123 rfl rfl (Nat.le_of_ble_eq_true rfl) rfl ?_
 intro a hE
 have hM := M.start w0
 unfold Yv at hF
 refine Zc (Ze hE Za (dl rfl) rfl ?_); intro a hE
 refine Zf (Zc (Zd hE Za (dl rfl) rfl ?_)); intro a hE
 refine YK hE Za (dl rfl) rfl Try.underlying5 Try.underlying2 ?_; intro a hE
 rw [byte_wide] at hE
 refine Ze hE Za (dl rfl) rfl ?_; intro a hE
 refine Ze hE Za (dl rfl) rfl ?_; intro a hE
 refine Zf (wp_seq (Zc (Zd hE Za (dl rfl) rfl ?_))); intro a hE
 refine YK hE Za (dl rfl) rfl Try.underlying5 Try.underlying2 ?_; intro a hE
 rw [byte_wide] at hE
 refine Ze hE Za (dl rfl) rfl ?_; intro a hE
 refine Zf ?_
 obtain ⟨j1, hl2, hF3⟩ := bind_some hF
 refine ZV (fun a w => Env 33 a [(7, (vI j1))] ∧ M (Old w0) w0 w []) ?_ ?_
 ·skip
  refine wp_block ?_
  refine ZN (fun (s4 : Int × Int × Int) a w => Env 33 a [(0, (vI p0)), (7, (vI s4.1)), (8, (vI s4.2.1)), (9, (vI s4.2.2))] ∧ M (Old w0) w0 w []) hl2 ⟨hE.sub ⟨rfl, rfl, rfl, rfl, trivial⟩, hM⟩ ?_
  rintro s4 a w ⟨hE, hM⟩ o7 hs5 hx6
  unfold YL at hs5
  refine wp_seq (Zc (Zd hE Za (dl rfl) rfl ?_)); intro a hE
  refine Zh hE Za (dl rfl) rfl rfl rfl ?_; intro a hE
  refine Zf ?_
  refine Zt hE rfl ?_ ?_
  ·intro hb8
   have hs5 := ZA hs5 hb8
   refine wp_skip (Zx ?_)
   obtain ⟨j9, hl10, hF11⟩ := bind_some hs5
   refine ZS (fun a w => Env 33 a [(0, (vI p0)), (7, (vI j9.1)), (8, (vI j9.2)), (9, (vI s4.2.2))] ∧ M (Old w0) w0 w []) ?_ ?_
   ·skip
    refine wp_block ?_
    obtain ⟨j12, hl13, hF14⟩ := bind_some hl10
    refine ZS (fun a w => Env 33 a [(0, (vI p0)), (7, (vI j12)), (8, (vI s4.2.1)), (9, (vI s4.2.2))] ∧ M (Old w0) w0 w []) ?_ ?_
    ·skip
     refine Zc (Zd hE Za (dl rfl) rfl ?_); intro a hE
     refine Zh hE Za (dl rfl) rfl rfl (bI_rem _ _ (by decide)) ?_; intro a hE
     refine Zh hE Za (dl rfl) rfl rfl rfl ?_; intro a hE
     refine Zf ?_
     refine Zt hE rfl ?_ ?_
     ·intro hb15
      have hl13 := ZA hl13 hb15
      refine wp_region_lit (Zd hE Za (dl rfl) rfl ?_); intro a hE
      refine Zd hE Za (dl rfl) rfl ?_; intro a hE
      refine Zh hE Za (dl rfl) rfl rfl rfl ?_; intro a hE
      refine Ze hE Za (dl rfl) rfl ?_; intro a hE
      refine Zj ?_
      have ht16 := Option.some.inj hl13
      subst ht16
      refine Zl ?_
      exact ⟨hE.sub ⟨rfl, rfl, rfl, rfl, trivial⟩, hM⟩
     ·intro hb15
      have hl13 := Zz hl13 hb15
      refine wp_skip ?_
      have ht17 := Option.some.inj hl13
      subst ht17
      refine Zl ?_
      exact ⟨hE.sub ⟨rfl, rfl, rfl, rfl, trivial⟩, hM⟩
    ·skip
     rintro a w ⟨hE, hM⟩
     refine Zc (Zd hE Za (dl rfl) rfl ?_); intro a hE
     refine Zh hE Za (dl rfl) rfl rfl rfl ?_; intro a hE
     refine Ze hE Za (dl rfl) rfl ?_; intro a hE
     refine Zf (Zc (Zd hE Za (dl rfl) rfl ?_)); intro a hE
     refine Zh hE Za (dl rfl) rfl rfl rfl ?_; intro a hE
     refine Zf ?_
     obtain ⟨j18, hl19, hF20⟩ := bind_some hF14
     refine ZV (fun a w => Env 33 a [(0, (vI p0)), (7, (vI j12)), (8, (vI j18)), (9, (vI s4.2.2))] ∧ M (Old w0) w0 w []) ?_ ?_
     ·skip
      refine Zt hE rfl ?_ ?_
      ·intro hb21
       have hl19 := ZA hl19 hb21
       refine wp_region_lit (Zd hE Za (dl rfl) rfl ?_); intro a hE
       refine Zd hE Za (dl rfl) rfl ?_; intro a hE
       refine Zh hE Za (dl rfl) rfl rfl rfl ?_; intro a hE
       refine Ze hE Za (dl rfl) rfl ?_; intro a hE
       refine Zj ?_
       have ht22 := Option.some.inj hl19
       subst ht22
       refine Zl ?_
       exact ⟨hE.sub ⟨rfl, rfl, rfl, rfl, trivial⟩, hM⟩
      ·intro hb21
       have hl19 := Zz hl19 hb21
       refine wp_skip ?_
       have ht23 := Option.some.inj hl19
       subst ht23
       refine Zl ?_
       exact ⟨hE.sub ⟨rfl, rfl, rfl, rfl, trivial⟩, hM⟩
     ·skip
      rintro a w ⟨hE, hM⟩
      refine Yk ?_
      have ht24 := Option.some.inj hF20
      subst ht24
      refine Zl ?_
      exact ⟨hE.sub ⟨rfl, rfl, rfl, rfl, trivial⟩, hM⟩
   ·skip
    rintro a w ⟨hE, hM⟩
    refine wp_region_lit (Zd hE Za (dl rfl) rfl ?_); intro a hE
    refine Zh hE Za (dl rfl) rfl rfl (bI_quo _ _ (by decide)) ?_; intro a hE
    refine Ze hE Za (dl rfl) rfl ?_; intro a hE
    refine Zj (Zl ?_)
    exact ⟨_, (Option.some.inj hF11).symm, hE.sub ⟨rfl, rfl, rfl, rfl, trivial⟩, hM⟩
  ·intro hb8
   have hs5 := Zz hs5 hb8
   refine wp_exit (Zr (Zr (Yj ?_)))
   have ht25 := hx6 _ (Option.some.inj hs5).symm
   subst ht25
   refine Zl ?_
   exact ⟨hE.sub ⟨rfl, trivial⟩, hM⟩
 ·skip
  rintro a w ⟨hE, hM⟩
  refine Zx (Zc (Zd hE Za (dl rfl) rfl ?_)); intro a hE
  refine YK hE Za (dl rfl) rfl Try.underlying2 Try.underlying5 ?_; intro a hE
  rw [Yf] at hE
  refine Ze hE Za (dl rfl) rfl ?_; intro a hE
  refine Zf ?_
  have hr := Option.some.inj hF3
  subst hr
  exact wp_ret (Zy hE rfl (Zu hE rfl) ⟨_, rfl, rfl, hM.kept⟩)
noncomputable def WJ (p0 : Int) (s16 : UInt8 × UInt8 × Int) : Option (Fl (UInt8 × UInt8 × Int) UInt8) :=
 if (decide (s16.2.2 > 0)) = true then (((if ((Int.tmod s16.2.2 2) == 1) = true then ((Yv p0 s16.1 s16.2.1).bind fun r28 => some r28) else (some s16.1) : Option (UInt8)).bind fun j24 => (Yv p0 s16.2.1 s16.2.1).bind fun r32 => some (j24, r32) : Option (UInt8 × UInt8)).bind fun j21 => some (Fl.nx (j21.1, j21.2, wr (Int.tdiv s16.2.2 2)))) else (some (Fl.ex s16.1))
noncomputable def WF (p0 : Int) (p1 : Int) (s8 : (Vector UInt8 256) × Int) : Option (Fl ((Vector UInt8 256) × Int) (Vector UInt8 256)) :=
 if (decide (s8.2 < 256)) = true then ((ZF (WJ p0) (1, ZG s8.2, p1) : Option (UInt8)).bind fun j13 => (ZM s8.1 s8.2).bind fun x37 => some (Fl.nx ((s8.1.setIfInBounds (s8.2).toNat j13), wr (s8.2 + 1)))) else (some (Fl.ex s8.1))
noncomputable def W7 (p0 : Int) (p1 : Int) : Option ((Vector UInt8 256)) :=
 (ZF (WF p0 p1) ((Vector.replicate 256 (0 : UInt8)), 0) : Option ((Vector UInt8 256))).bind fun j5 => some j5
theorem c_spec_l02Power (w0 : World) (p0 : Int) (p1 : Int) (r : (Vector UInt8 256)) (hF : W7 p0 p1 = some r) :
  Calls Try.prog 104 [(vI p0), (vI p1)].toArray w0 (fun en w' => ∃ v, en = .returned v ∧ (v = (Value.agg (Flat.enc r).toArray) ∧ Kept (Old w0) w0 w')) := by
 refine ZC (n := 37) Try.func104 rfl rfl (Nat.le_of_ble_eq_true rfl) rfl ?_
 intro a hE
 have hM := M.start w0
 unfold W7 at hF
 refine Zc (ZO hE hM Za (dl rfl) Vn ?_); intro b1 w a hM hE
 refine Zf (Zc (Xq (parts := []) (vs := []) (cs := Flat.enc (Vector.replicate 256 (0 : UInt8))) hE Za (dl rfl) rfl rfl Vn rfl ty5 YM ?_)); intro a hE
 refine ZO hE hM Za (dl rfl) Vn ?_; intro b3 w a hM hE
 refine Zs (seg := Flat.enc (Vector.replicate 256 (0 : UInt8))) (cs' := Flat.enc (Vector.replicate 256 (0 : UInt8))) hE hM Za rfl rfl rfl Vn (Flat.len _) (zle flq) (Flat.cell _) (Zq flq) ?_; intro w a hM hE
 refine Zf (wp_seq (Zc (Ze hE Za (dl rfl) rfl ?_))); intro a hE
 refine Zf ?_
 obtain ⟨j5, hl6, hF7⟩ := bind_some hF
 refine ZV (fun a w => Env 37 a [(4, (ptr b1 0)), (5, (ptr b3 0))] ∧ M (Old w0) w0 w [raw b3 (Flat.enc j5), raw b1 (Flat.enc (Vector.replicate 256 (0 : UInt8)))]) ?_ ?_
 ·skip
  refine wp_block ?_
  refine ZN (fun (s8 : (Vector UInt8 256) × Int) a w => Env 37 a [(0, (vI p0)), (1, (vI p1)), (4, (ptr b1 0)), (5, (ptr b3 0)), (6, (vI s8.2))] ∧ M (Old w0) w0 w [raw b3 (Flat.enc s8.1), raw b1 (Flat.enc (Vector.replicate 256 (0 : UInt8)))]) hl6 ⟨hE.sub ⟨rfl, rfl, rfl, rfl, rfl, trivial⟩, hM⟩ ?_
  rintro s8 a w ⟨hE, hM⟩ o11 hs9 hx10
  unfold WF at hs9
  refine wp_seq (Zc (Zd hE Za (dl rfl) rfl ?_)); intro a hE
  refine Zh hE Za (dl rfl) rfl rfl rfl ?_; intro a hE
  refine Zf ?_
  refine Zt hE rfl ?_ ?_
  ·intro hb12
   have hs9 := ZA hs9 hb12
   refine wp_skip (Zx (wp_seq (wp_block (Zc (Zd hE Za (dl rfl) rfl ?_))))); intro a hE
   refine YK hE Za (dl rfl) rfl Try.underlying3 Try.underlying5 ?_; intro a hE
   rw [Yf] at hE
   refine Ze hE Za (dl rfl) rfl ?_; intro a hE
   refine Ze hE Za (dl rfl) rfl ?_; intro a hE
   refine Zf (wp_seq (Zc (Zd hE Za (dl rfl) rfl ?_))); intro a hE
   refine Ze hE Za (dl rfl) rfl ?_; intro a hE
   refine Zf ?_
   obtain ⟨j13, hl14, hF15⟩ := bind_some hs9
   refine ZV (fun a w => Env 37 a [(0, (vI p0)), (1, (vI p1)), (4, (ptr b1 0)), (5, (ptr b3 0)), (6, (vI s8.2)), (7, (vB j13))] ∧ M (Old w0) w0 w [raw b3 (Flat.enc s8.1), raw b1 (Flat.enc (Vector.replicate 256 (0 : UInt8)))]) ?_ ?_
   ·skip
    refine wp_block ?_
    refine ZN (fun (s16 : UInt8 × UInt8 × Int) a w => Env 37 a [(0, (vI p0)), (1, (vI p1)), (4, (ptr b1 0)), (5, (ptr b3 0)), (6, (vI s8.2)), (7, (vB s16.1)), (8, (vB s16.2.1)), (9, (vI s16.2.2))] ∧ M (Old w0) w0 w [raw b3 (Flat.enc s8.1), raw b1 (Flat.enc (Vector.replicate 256 (0 : UInt8)))]) hl14 ⟨hE.sub ⟨rfl, rfl, rfl, rfl, rfl, rfl, rfl, rfl, trivial⟩, hM⟩ ?_
    rintro s16 a w ⟨hE, hM⟩ o19 hs17 hx18
    unfold WJ at hs17
    refine wp_seq (Zc (Zd hE Za (dl rfl) rfl ?_)); intro a hE
    refine Zh hE Za (dl rfl) rfl rfl rfl ?_; intro a hE
    refine Zf ?_
    refine Zt hE rfl ?_ ?_
    ·intro hb20
     have hs17 := ZA hs17 hb20
     refine wp_skip (Zx ?_)
     obtain ⟨j21, hl22, hF23⟩ := bind_some hs17
     refine ZS (fun a w => Env 37 a [(0, (vI p0)), (1, (vI p1)), (4, (ptr b1 0)), (5, (ptr b3 0)), (6, (vI s8.2)), (7, (vB j21.1)), (8, (vB j21.2)), (9, (vI s16.2.2))] ∧ M (Old w0) w0 w [raw b3 (Flat.enc s8.1), raw b1 (Flat.enc (Vector.replicate 256 (0 : UInt8)))]) ?_ ?_
     ·skip
      refine wp_block ?_
      obtain ⟨j24, hl25, hF26⟩ := bind_some hl22
      refine ZS (fun a w => Env 37 a [(0, (vI p0)), (1, (vI p1)), (4, (ptr b1 0)), (5, (ptr b3 0)), (6, (vI s8.2)), (7, (vB j24)), (8, (vB s16.2.1)), (9, (vI s16.2.2))] ∧ M (Old w0) w0 w [raw b3 (Flat.enc s8.1), raw b1 (Flat.enc (Vector.replicate 256 (0 : UInt8)))]) ?_ ?_
      ·skip
       refine Zc (Zd hE Za (dl rfl) rfl ?_); intro a hE
       refine Zh hE Za (dl rfl) rfl rfl (bI_rem _ _ (by decide)) ?_; intro a hE
       refine Zh hE Za (dl rfl) rfl rfl rfl ?_; intro a hE
       refine Zf ?_
       refine Zt hE rfl ?_ ?_
       ·intro hb27
        have hl25 := ZA hl25 hb27
        refine wp_region_lit (Zd hE Za (dl rfl) rfl ?_); intro a hE
        refine Zd hE Za (dl rfl) rfl ?_; intro a hE
        refine Zd hE Za (dl rfl) rfl ?_; intro a hE
        obtain ⟨r28, e29, hl25⟩ := bind_some hl25
        refine Zw (vs := [(vI p0), (vB s16.1), (vB s16.2.1)]) hE Za (dl rfl) rfl cb123 (Vd _ p0 s16.1 s16.2.1 r28 e29) ?_
        rintro v w a ⟨rfl, hK⟩ hE
        have hM := hM.keep hK
        refine Ze hE Za (dl rfl) rfl ?_; intro a hE
        refine Zj ?_
        have ht30 := Option.some.inj hl25
        subst ht30
        refine Zl ?_
        exact ⟨hE.sub ⟨rfl, rfl, rfl, rfl, rfl, rfl, rfl, rfl, trivial⟩, hM⟩
       ·intro hb27
        have hl25 := Zz hl25 hb27
        refine wp_skip ?_
        have ht31 := Option.some.inj hl25
        subst ht31
        refine Zl ?_
        exact ⟨hE.sub ⟨rfl, rfl, rfl, rfl, rfl, rfl, rfl, rfl, trivial⟩, hM⟩
      ·skip
       rintro a w ⟨hE, hM⟩
       refine wp_region_lit (Zd hE Za (dl rfl) rfl ?_); intro a hE
       refine Zd hE Za (dl rfl) rfl ?_; intro a hE
       refine Zd hE Za (dl rfl) rfl ?_; intro a hE
       obtain ⟨r32, e33, hF26⟩ := bind_some hF26
       refine Zw (vs := [(vI p0), (vB s16.2.1), (vB s16.2.1)]) hE Za (dl rfl) rfl cb123 (Vd _ p0 s16.2.1 s16.2.1 r32 e33) ?_
       rintro v w a ⟨rfl, hK⟩ hE
       have hM := hM.keep hK
       refine Ze hE Za (dl rfl) rfl ?_; intro a hE
       refine Zj (Yk ?_)
       have ht34 := Option.some.inj hF26
       subst ht34
       refine Zl ?_
       exact ⟨hE.sub ⟨rfl, rfl, rfl, rfl, rfl, rfl, rfl, rfl, trivial⟩, hM⟩
     ·skip
      rintro a w ⟨hE, hM⟩
      refine wp_region_lit (Zd hE Za (dl rfl) rfl ?_); intro a hE
      refine Zh hE Za (dl rfl) rfl rfl (bI_quo _ _ (by decide)) ?_; intro a hE
      refine Ze hE Za (dl rfl) rfl ?_; intro a hE
      refine Zj (Zl ?_)
      exact ⟨_, (Option.some.inj hF23).symm, hE.sub ⟨rfl, rfl, rfl, rfl, rfl, rfl, rfl, rfl, trivial⟩, hM⟩
    ·intro hb20
     have hs17 := Zz hs17 hb20
     refine wp_exit (Zr (Zr (Yj ?_)))
     have ht35 := hx18 _ (Option.some.inj hs17).symm
     subst ht35
     refine Zl ?_
     exact ⟨hE.sub ⟨rfl, rfl, rfl, rfl, rfl, rfl, trivial⟩, hM⟩
   ·skip
    rintro a w ⟨hE, hM⟩
    refine Zx (wp_region_lit (Zd hE Za (dl rfl) rfl ?_)); intro a hE
    refine Zd hE Za (dl rfl) rfl ?_; intro a hE
    obtain ⟨x37, e38, hF15⟩ := bind_some hF15
    have hi36 := Zi e38
    refine Zm hE Za (dl rfl) rfl rfl Try.underlying97 ty5 hi36.1 ?_; intro a hE
    refine Zs (seg := [(vB j13)]) (cs' := Flat.enc (s8.1.setIfInBounds (s8.2).toNat j13)) hE hM Za rfl rfl rfl ty5 rfl (ZT (v := s8.1) (x := j13) hi36.1) (Flat.cell (j13 : UInt8)) (ZI (v := s8.1) (x := j13) hi36.1) ?_; intro w a hM hE
    refine Zj (Yk (Zx (wp_region_lit (Zd hE Za (dl rfl) rfl ?_)))); intro a hE
    refine Zh hE Za (dl rfl) rfl rfl rfl ?_; intro a hE
    refine Ze hE Za (dl rfl) rfl ?_; intro a hE
    refine Zj (Zl ?_)
    exact ⟨_, (Option.some.inj hF15).symm, hE.sub ⟨rfl, rfl, rfl, rfl, rfl, trivial⟩, hM⟩
  ·intro hb12
   have hs9 := Zz hs9 hb12
   refine wp_exit (Zr (Zr (Yj ?_)))
   have ht39 := hx10 _ (Option.some.inj hs9).symm
   subst ht39
   refine Zl ?_
   exact ⟨hE.sub ⟨rfl, rfl, trivial⟩, hM⟩
 ·skip
  rintro a w ⟨hE, hM⟩
  refine Zx (Zc (Zp (cs := Flat.enc j5) hE Za (dl rfl) rfl Vn rfl (hM.rawAt (pre := [])) (Flat.len _) ?_)); intro a hE
  have hM := hM.pull (pre := [_])
  refine Zs (seg := Flat.enc j5) (cs' := Flat.enc j5) hE hM Za rfl rfl rfl Vn (Flat.len _) (zle flq) (Flat.cell _) (Zq flq) ?_; intro w a hM hE
  refine Zf ?_
  have hr := Option.some.inj hF7
  subst hr
  have hq40 : YR Try.prog _ _ (.cell 4 97) _ := Z6 hE rfl Vn rfl (hM.rawAt (pre := [])) (Flat.len _) rfl
  have hM := M.fst (l := []) hM
  exact wp_ret (Zy hE rfl hq40 ⟨_, rfl, rfl, hM.kept⟩)
noncomputable def Xl (p0 : UInt8) (p1 : Int) : Option (UInt8) :=
 (Xk (IntKind.u64.wrap p1)).bind fun _ => some (ZG (andI (orI (shlI (bI p0) (IntKind.u64.wrap p1)) (V9 (shlI (bI p0) (IntKind.u64.wrap p1)) 8)) 255))
theorem c_spec_l02Turn (w0 : World) (p0 : UInt8) (p1 : Int) (r : UInt8) (hF : Xl p0 p1 = some r) :
  Calls Try.prog 124 [(vB p0), (vI p1)].toArray w0 (fun en w' => ∃ v, en = .returned v ∧ (v = (vB r) ∧ Kept (Old w0) w0 w')) := by
 refine ZC (n := 17) Try.func124 rfl rfl (Nat.le_of_ble_eq_true rfl) rfl ?_
 intro a hE
 have hM := M.start w0
 unfold Xl at hF
 refine Zc (Ze hE Za (dl rfl) rfl ?_); intro a hE
 refine Zf (Zc (Zd hE Za (dl rfl) rfl ?_)); intro a hE
 refine YK hE Za (dl rfl) rfl Try.underlying5 Try.underlying2 ?_; intro a hE
 rw [byte_wide] at hE
 refine Zd hE Za (dl rfl) rfl ?_; intro a hE
 refine YK hE Za (dl rfl) rfl Try.underlying2 Try.underlying172 ?_; intro a hE
 obtain ⟨_, e1, hF⟩ := bind_some hF
 have e1 := Wk e1
 refine s_sh hE Za (dl rfl) rfl rfl (bI_shl _ _ e1) ?_; intro a hE
 refine Ze hE Za (dl rfl) rfl ?_; intro a hE
 refine Zf (Zc (Zd hE Za (dl rfl) rfl ?_)); intro a hE
 refine Zd hE Za (dl rfl) rfl ?_; intro a hE
 refine s_sh hE Za (dl rfl) rfl rfl (bI_shr _ _ (by decide)) ?_; intro a hE
 refine Zh hE Za (dl rfl) rfl rfl rfl ?_; intro a hE
 refine Zh hE Za (dl rfl) rfl rfl rfl ?_; intro a hE
 refine YK hE Za (dl rfl) rfl Try.underlying2 Try.underlying5 ?_; intro a hE
 rw [Yf] at hE
 refine Ze hE Za (dl rfl) rfl ?_; intro a hE
 refine Zf ?_
 have hr := Option.some.inj hF
 subst hr
 exact wp_ret (Zy hE rfl (Zu hE rfl) ⟨_, rfl, rfl, hM.kept⟩)
noncomputable def Z8 (p0 : (List Int)) (s8 : (Vector UInt8 256) × Int) (s16 : UInt8 × Int) : Option (Fl (UInt8 × Int) UInt8) :=
 if (decide (s16.2 < (p0.length : Int))) = true then ((idx p0 s16.2).bind fun x21 => (Xl (ZG s8.2) x21).bind fun r24 => some (Fl.nx (s16.1 ^^^ r24, wr (s16.2 + 1)))) else (some (Fl.ex s16.1))
noncomputable def Xn (p0 : (List Int)) (p1 : UInt8) (s8 : (Vector UInt8 256) × Int) : Option (Fl ((Vector UInt8 256) × Int) (Vector UInt8 256)) :=
 if (decide (s8.2 < 256)) = true then ((ZF (Z8 p0 s8) (p1, 0) : Option (UInt8)).bind fun j13 => (ZM s8.1 s8.2).bind fun x28 => some (Fl.nx ((s8.1.setIfInBounds (s8.2).toNat j13), wr (s8.2 + 1)))) else (some (Fl.ex s8.1))
noncomputable def XJ (p0 : (List Int)) (p1 : UInt8) : Option ((Vector UInt8 256)) :=
 (ZF (Xn p0 p1) ((Vector.replicate 256 (0 : UInt8)), 0) : Option ((Vector UInt8 256))).bind fun j5 => some j5
theorem c_spec_l02Rotations (w0 : World) (p0 : (List Int)) (v0_1 : Value) (hv0_1 : Ro w0 p0 [v0_1]) (p1 : UInt8) (r : (Vector UInt8 256)) (hF : XJ p0 p1 = some r) :
  Calls Try.prog 105 [v0_1, (vB p1)].toArray w0 (fun en w' => ∃ v, en = .returned v ∧ (v = (Value.agg (Flat.enc r).toArray) ∧ Kept (Old w0) w0 w')) := by
 refine ZC (n := 34) Try.func105 rfl rfl (Nat.le_of_ble_eq_true rfl) rfl ?_
 intro a hE
 have hM := M.start w0
 unfold XJ at hF
 refine Zc (ZO hE hM Za (dl rfl) Vn ?_); intro b1 w a hM hE
 refine Zf (Zc (Xq (parts := []) (vs := []) (cs := Flat.enc (Vector.replicate 256 (0 : UInt8))) hE Za (dl rfl) rfl rfl Vn rfl ty5 YM ?_)); intro a hE
 refine ZO hE hM Za (dl rfl) Vn ?_; intro b3 w a hM hE
 refine Zs (seg := Flat.enc (Vector.replicate 256 (0 : UInt8))) (cs' := Flat.enc (Vector.replicate 256 (0 : UInt8))) hE hM Za rfl rfl rfl Vn (Flat.len _) (zle flq) (Flat.cell _) (Zq flq) ?_; intro w a hM hE
 refine Zf (wp_seq (Zc (Ze hE Za (dl rfl) rfl ?_))); intro a hE
 refine Zf ?_
 obtain ⟨j5, hl6, hF7⟩ := bind_some hF
 refine ZV (fun a w => Env 34 a [(4, (ptr b1 0)), (5, (ptr b3 0))] ∧ M (Old w0) w0 w [raw b3 (Flat.enc j5), raw b1 (Flat.enc (Vector.replicate 256 (0 : UInt8)))]) ?_ ?_
 ·skip
  refine wp_block ?_
  refine ZN (fun (s8 : (Vector UInt8 256) × Int) a w => Env 34 a [(0, v0_1), (1, (vB p1)), (4, (ptr b1 0)), (5, (ptr b3 0)), (6, (vI s8.2))] ∧ M (Old w0) w0 w [raw b3 (Flat.enc s8.1), raw b1 (Flat.enc (Vector.replicate 256 (0 : UInt8)))]) hl6 ⟨hE.sub ⟨rfl, rfl, rfl, rfl, rfl, trivial⟩, hM⟩ ?_
  rintro s8 a w ⟨hE, hM⟩ o11 hs9 hx10
  unfold Xn at hs9
  refine wp_seq (Zc (Zd hE Za (dl rfl) rfl ?_)); intro a hE
  refine Zh hE Za (dl rfl) rfl rfl rfl ?_; intro a hE
  refine Zf ?_
  refine Zt hE rfl ?_ ?_
  ·intro hb12
   have hs9 := ZA hs9 hb12
   refine wp_skip (Zx (wp_seq (wp_block (Zc (Zd hE Za (dl rfl) rfl ?_))))); intro a hE
   refine Ze hE Za (dl rfl) rfl ?_; intro a hE
   refine Zf (wp_seq (Zc (Ze hE Za (dl rfl) rfl ?_))); intro a hE
   refine Zf ?_
   obtain ⟨j13, hl14, hF15⟩ := bind_some hs9
   refine ZV (fun a w => Env 34 a [(0, v0_1), (1, (vB p1)), (4, (ptr b1 0)), (5, (ptr b3 0)), (6, (vI s8.2)), (7, (vB j13))] ∧ M (Old w0) w0 w [raw b3 (Flat.enc s8.1), raw b1 (Flat.enc (Vector.replicate 256 (0 : UInt8)))]) ?_ ?_
   ·skip
    refine wp_block ?_
    refine ZN (fun (s16 : UInt8 × Int) a w => Env 34 a [(0, v0_1), (1, (vB p1)), (4, (ptr b1 0)), (5, (ptr b3 0)), (6, (vI s8.2)), (7, (vB s16.1)), (8, (vI s16.2))] ∧ M (Old w0) w0 w [raw b3 (Flat.enc s8.1), raw b1 (Flat.enc (Vector.replicate 256 (0 : UInt8)))]) hl14 ⟨hE.sub ⟨rfl, rfl, rfl, rfl, rfl, rfl, rfl, trivial⟩, hM⟩ ?_
    rintro s16 a w ⟨hE, hM⟩ o19 hs17 hx18
    unfold Z8 at hs17
    refine wp_seq (Zc (Zd hE Za (dl rfl) rfl ?_)); intro a hE
    refine Zd hE Za (dl rfl) rfl ?_; intro a hE
    refine Z7 hE Za (dl rfl) rfl Try.underlying46 (hM.rd hv0_1) ?_; intro a hE
    refine Zh hE Za (dl rfl) rfl rfl rfl ?_; intro a hE
    refine Zf ?_
    refine Zt hE rfl ?_ ?_
    ·intro hb20
     have hs17 := ZA hs17 hb20
     refine wp_skip (Zx (wp_seq (wp_block (wp_region_lit (Zd hE Za (dl rfl) rfl ?_))))); intro a hE
     refine Zd hE Za (dl rfl) rfl ?_; intro a hE
     refine YK hE Za (dl rfl) rfl Try.underlying3 Try.underlying5 ?_; intro a hE
     rw [Yf] at hE
     refine Zd hE Za (dl rfl) rfl ?_; intro a hE
     refine Zd hE Za (dl rfl) rfl ?_; intro a hE
     obtain ⟨x21, e22, hs17⟩ := bind_some hs17
     have hi23 := ZQ e22
     refine ZK hE Za (dl rfl) rfl rfl Try.underlying46 ty2 (hM.rd hv0_1) hi23.1 ?_; intro a hE
     refine Zv (v := (vI x21)) hE Za (dl rfl) rfl ty2 rfl (Yt (hM.rd hv0_1) hi23.2) ?_; intro a hE
     obtain ⟨r24, e25, hs17⟩ := bind_some hs17
     refine Zw (vs := [(vB (ZG s8.2)), (vI x21)]) hE Za (dl rfl) rfl cb124 (c_spec_l02Turn _ (ZG s8.2) x21 r24 e25) ?_
     rintro v w a ⟨rfl, hK⟩ hE
     have hM := hM.keep hK
     refine Zh hE Za (dl rfl) rfl rfl (Vo s16.1 r24) ?_; intro a hE
     refine Ze hE Za (dl rfl) rfl ?_; intro a hE
     refine Zj (Yk (Zx (wp_region_lit (Zd hE Za (dl rfl) rfl ?_)))); intro a hE
     refine Zh hE Za (dl rfl) rfl rfl rfl ?_; intro a hE
     refine Ze hE Za (dl rfl) rfl ?_; intro a hE
     refine Zj (Zl ?_)
     exact ⟨_, (Option.some.inj hs17).symm, hE.sub ⟨rfl, rfl, rfl, rfl, rfl, rfl, rfl, trivial⟩, hM⟩
    ·intro hb20
     have hs17 := Zz hs17 hb20
     refine wp_exit (Zr (Zr (Yj ?_)))
     have ht26 := hx18 _ (Option.some.inj hs17).symm
     subst ht26
     refine Zl ?_
     exact ⟨hE.sub ⟨rfl, rfl, rfl, rfl, rfl, rfl, trivial⟩, hM⟩
   ·skip
    rintro a w ⟨hE, hM⟩
    refine Zx (wp_region_lit (Zd hE Za (dl rfl) rfl ?_)); intro a hE
    refine Zd hE Za (dl rfl) rfl ?_; intro a hE
    obtain ⟨x28, e29, hF15⟩ := bind_some hF15
    have hi27 := Zi e29
    refine Zm hE Za (dl rfl) rfl rfl Try.underlying97 ty5 hi27.1 ?_; intro a hE
    refine Zs (seg := [(vB j13)]) (cs' := Flat.enc (s8.1.setIfInBounds (s8.2).toNat j13)) hE hM Za rfl rfl rfl ty5 rfl (ZT (v := s8.1) (x := j13) hi27.1) (Flat.cell (j13 : UInt8)) (ZI (v := s8.1) (x := j13) hi27.1) ?_; intro w a hM hE
    refine Zj (Yk (Zx (wp_region_lit (Zd hE Za (dl rfl) rfl ?_)))); intro a hE
    refine Zh hE Za (dl rfl) rfl rfl rfl ?_; intro a hE
    refine Ze hE Za (dl rfl) rfl ?_; intro a hE
    refine Zj (Zl ?_)
    exact ⟨_, (Option.some.inj hF15).symm, hE.sub ⟨rfl, rfl, rfl, rfl, rfl, trivial⟩, hM⟩
  ·intro hb12
   have hs9 := Zz hs9 hb12
   refine wp_exit (Zr (Zr (Yj ?_)))
   have ht30 := hx10 _ (Option.some.inj hs9).symm
   subst ht30
   refine Zl ?_
   exact ⟨hE.sub ⟨rfl, rfl, trivial⟩, hM⟩
 ·skip
  rintro a w ⟨hE, hM⟩
  refine Zx (Zc (Zp (cs := Flat.enc j5) hE Za (dl rfl) rfl Vn rfl (hM.rawAt (pre := [])) (Flat.len _) ?_)); intro a hE
  have hM := hM.pull (pre := [_])
  refine Zs (seg := Flat.enc j5) (cs' := Flat.enc j5) hE hM Za rfl rfl rfl Vn (Flat.len _) (zle flq) (Flat.cell _) (Zq flq) ?_; intro w a hM hE
  refine Zf ?_
  have hr := Option.some.inj hF7
  subst hr
  have hq31 : YR Try.prog _ _ (.cell 4 97) _ := Z6 hE rfl Vn rfl (hM.rawAt (pre := [])) (Flat.len _) rfl
  have hM := M.fst (l := []) hM
  exact wp_ret (Zy hE rfl hq31 ⟨_, rfl, rfl, hM.kept⟩)
noncomputable def W4 (p0 : (Vector UInt8 256)) (p1 : (Vector UInt8 256)) (s12 : (Vector UInt8 256) × Int) : Option (Fl ((Vector UInt8 256) × Int) (Vector UInt8 256)) :=
 if (decide (s12.2 < 256)) = true then ((ZM p0 s12.2).bind fun x18 => (ZM p1 (bI x18)).bind fun x21 => (ZM s12.1 s12.2).bind fun x24 => some (Fl.nx ((s12.1.setIfInBounds (s12.2).toNat x21), wr (s12.2 + 1)))) else (some (Fl.ex s12.1))
noncomputable def Vw (p0 : (Vector UInt8 256)) (p1 : (Vector UInt8 256)) : Option ((Vector UInt8 256)) :=
 (ZF (W4 p0 p1) ((Vector.replicate 256 (0 : UInt8)), 0) : Option ((Vector UInt8 256))).bind fun j9 => some j9
theorem c_spec_l02Then (w0 : World) (p0 : (Vector UInt8 256)) (p1 : (Vector UInt8 256)) (r : (Vector UInt8 256)) (hF : Vw p0 p1 = some r) :
  Calls Try.prog 103 [(Value.agg (Flat.enc p0).toArray), (Value.agg (Flat.enc p1).toArray)].toArray w0 (fun en w' => ∃ v, en = .returned v ∧ (v = (Value.agg (Flat.enc r).toArray) ∧ Kept (Old w0) w0 w')) := by
 refine ZC (n := 20) Try.func103 rfl rfl (Nat.le_of_ble_eq_true rfl) rfl ?_
 intro a hE
 have hM := M.start w0
 unfold Vw at hF
 refine Zc (Z4 (cs := Flat.enc p0) hE hM Za (dl rfl) rfl rfl ?_); intro b1 w a hM hE
 refine Z4 (cs := Flat.enc p1) hE hM Za (dl rfl) rfl rfl ?_; intro b3 w a hM hE
 refine ZO hE hM Za (dl rfl) Vn ?_; intro b5 w a hM hE
 refine Zf (Zc (Xq (parts := []) (vs := []) (cs := Flat.enc (Vector.replicate 256 (0 : UInt8))) hE Za (dl rfl) rfl rfl Vn rfl ty5 YM ?_)); intro a hE
 refine ZO hE hM Za (dl rfl) Vn ?_; intro b7 w a hM hE
 refine Zs (seg := Flat.enc (Vector.replicate 256 (0 : UInt8))) (cs' := Flat.enc (Vector.replicate 256 (0 : UInt8))) hE hM Za rfl rfl rfl Vn (Flat.len _) (zle flq) (Flat.cell _) (Zq flq) ?_; intro w a hM hE
 refine Zf (wp_seq (Zc (Ze hE Za (dl rfl) rfl ?_))); intro a hE
 refine Zf ?_
 obtain ⟨j9, hl10, hF11⟩ := bind_some hF
 refine ZV (fun a w => Env 20 a [(4, (ptr b5 0)), (5, (ptr b7 0))] ∧ M (Old w0) w0 w [raw b7 (Flat.enc j9), raw b5 (Flat.enc (Vector.replicate 256 (0 : UInt8)))]) ?_ ?_
 ·skip
  refine wp_block ?_
  refine ZN (fun (s12 : (Vector UInt8 256) × Int) a w => Env 20 a [(2, (ptr b1 0)), (3, (ptr b3 0)), (4, (ptr b5 0)), (5, (ptr b7 0)), (6, (vI s12.2))] ∧ M (Old w0) w0 w [raw b7 (Flat.enc s12.1), raw b5 (Flat.enc (Vector.replicate 256 (0 : UInt8))), raw b3 (Flat.enc p1), raw b1 (Flat.enc p0)]) hl10 ⟨hE.sub ⟨rfl, rfl, rfl, rfl, rfl, trivial⟩, hM⟩ ?_
  rintro s12 a w ⟨hE, hM⟩ o15 hs13 hx14
  unfold W4 at hs13
  refine wp_seq (Zc (Zd hE Za (dl rfl) rfl ?_)); intro a hE
  refine Zh hE Za (dl rfl) rfl rfl rfl ?_; intro a hE
  refine Zf ?_
  refine Zt hE rfl ?_ ?_
  ·intro hb16
   have hs13 := ZA hs13 hb16
   refine wp_skip (Zx (wp_seq (wp_block (wp_region_lit (Zd hE Za (dl rfl) rfl ?_))))); intro a hE
   refine Zd hE Za (dl rfl) rfl ?_; intro a hE
   obtain ⟨x18, e19, hs13⟩ := bind_some hs13
   have hi17 := Zi e19
   refine Zm hE Za (dl rfl) rfl rfl Try.underlying97 ty5 hi17.1 ?_; intro a hE
   refine Zv (v := (vB x18)) hE Za (dl rfl) rfl ty5 rfl (At.vec (hM.rawAt (pre := [_, _, _])) hi17.2) ?_; intro a hE
   obtain ⟨x21, e22, hs13⟩ := bind_some hs13
   have hi20 := Zi e22
   refine Zm hE Za (dl rfl) rfl rfl Try.underlying97 ty5 hi20.1 ?_; intro a hE
   refine Zv (v := (vB x21)) hE Za (dl rfl) rfl ty5 rfl (At.vec (hM.rawAt (pre := [_, _])) hi20.2) ?_; intro a hE
   obtain ⟨x24, e25, hs13⟩ := bind_some hs13
   have hi23 := Zi e25
   refine Zm hE Za (dl rfl) rfl rfl Try.underlying97 ty5 hi23.1 ?_; intro a hE
   refine Zs (seg := [(vB x21)]) (cs' := Flat.enc (s12.1.setIfInBounds (s12.2).toNat x21)) hE hM Za rfl rfl rfl ty5 rfl (ZT (v := s12.1) (x := x21) hi23.1) (Flat.cell (x21 : UInt8)) (ZI (v := s12.1) (x := x21) hi23.1) ?_; intro w a hM hE
   refine Zj (Yk (Zx (wp_region_lit (Zd hE Za (dl rfl) rfl ?_)))); intro a hE
   refine Zh hE Za (dl rfl) rfl rfl rfl ?_; intro a hE
   refine Ze hE Za (dl rfl) rfl ?_; intro a hE
   refine Zj (Zl ?_)
   exact ⟨_, (Option.some.inj hs13).symm, hE.sub ⟨rfl, rfl, rfl, rfl, rfl, trivial⟩, hM⟩
  ·intro hb16
   have hs13 := Zz hs13 hb16
   refine wp_exit (Zr (Zr (Yj ?_)))
   have ht26 := hx14 _ (Option.some.inj hs13).symm
   subst ht26
   refine Zl ?_
   have hM := hM.pull (pre := [_])
   have hM := hM.pull (pre := [_])
   have hM := M.fst (l := [_, _]) hM
   exact ⟨hE.sub ⟨rfl, rfl, trivial⟩, hM⟩
 ·skip
  rintro a w ⟨hE, hM⟩
  refine Zx (Zc (Zp (cs := Flat.enc j9) hE Za (dl rfl) rfl Vn rfl (hM.rawAt (pre := [])) (Flat.len _) ?_)); intro a hE
  have hM := hM.pull (pre := [_])
  refine Zs (seg := Flat.enc j9) (cs' := Flat.enc j9) hE hM Za rfl rfl rfl Vn (Flat.len _) (zle flq) (Flat.cell _) (Zq flq) ?_; intro w a hM hE
  refine Zf ?_
  have hr := Option.some.inj hF11
  subst hr
  have hq27 : YR Try.prog _ _ (.cell 4 97) _ := Z6 hE rfl Vn rfl (hM.rawAt (pre := [])) (Flat.len _) rfl
  have hM := M.fst (l := []) hM
  exact wp_ret (Zy hE rfl hq27 ⟨_, rfl, rfl, hM.kept⟩)
noncomputable def VR (p0 : Int) (s4 : UInt8 × Int × UInt8) : Option (Fl (UInt8 × Int × UInt8) UInt8) :=
 if (decide (s4.2.1 > 0)) = true then (((if ((Int.tmod s4.2.1 2) == 1) = true then ((Yv p0 s4.2.2 s4.1).bind fun r16 => some r16) else (some s4.2.2) : Option (UInt8)).bind fun j12 => (Yv p0 s4.1 s4.1).bind fun r20 => some (r20, j12) : Option (UInt8 × UInt8)).bind fun j9 => some (Fl.nx (j9.1, wr (Int.tdiv s4.2.1 2), j9.2))) else (some (Fl.ex s4.2.2))
noncomputable def Wc (p0 : Int) (p1 : UInt8) (p2 : Int) : Option (UInt8) :=
 (ZF (VR p0) (p1, p2, 1) : Option (UInt8)).bind fun j1 => some j1
theorem c_spec_l01Power (w0 : World) (p0 : Int) (p1 : UInt8) (p2 : Int) (r : UInt8) (hF : Wc p0 p1 p2 = some r) :
  Calls Try.prog 125 [(vI p0), (vB p1), (vI p2)].toArray w0 (fun en w' => ∃ v, en = .returned v ∧ (v = (vB r) ∧ Kept (Old w0) w0 w')) := by
 refine ZC (n := 24) Try.func125 rfl rfl (Nat.le_of_ble_eq_true rfl) rfl ?_
 intro a hE
 have hM := M.start w0
 unfold Wc at hF
 refine Zc (Ze hE Za (dl rfl) rfl ?_); intro a hE
 refine Zf (Zc (Ze hE Za (dl rfl) rfl ?_)); intro a hE
 refine Zf ?_
 obtain ⟨j1, hl2, hF3⟩ := bind_some hF
 refine ZS (fun a w => Env 24 a [(7, (vB j1))] ∧ M (Old w0) w0 w []) ?_ ?_
 ·skip
  refine wp_block ?_
  refine ZN (fun (s4 : UInt8 × Int × UInt8) a w => Env 24 a [(0, (vI p0)), (1, (vB s4.1)), (2, (vI s4.2.1)), (7, (vB s4.2.2))] ∧ M (Old w0) w0 w []) hl2 ⟨hE.sub ⟨rfl, rfl, rfl, rfl, trivial⟩, hM⟩ ?_
  rintro s4 a w ⟨hE, hM⟩ o7 hs5 hx6
  unfold VR at hs5
  refine wp_seq (Zc (Zd hE Za (dl rfl) rfl ?_)); intro a hE
  refine Zh hE Za (dl rfl) rfl rfl rfl ?_; intro a hE
  refine Zf ?_
  refine Zt hE rfl ?_ ?_
  ·intro hb8
   have hs5 := ZA hs5 hb8
   refine wp_skip (Zx ?_)
   obtain ⟨j9, hl10, hF11⟩ := bind_some hs5
   refine ZS (fun a w => Env 24 a [(0, (vI p0)), (1, (vB j9.1)), (2, (vI s4.2.1)), (7, (vB j9.2))] ∧ M (Old w0) w0 w []) ?_ ?_
   ·skip
    refine wp_block ?_
    obtain ⟨j12, hl13, hF14⟩ := bind_some hl10
    refine ZS (fun a w => Env 24 a [(0, (vI p0)), (1, (vB s4.1)), (2, (vI s4.2.1)), (7, (vB j12))] ∧ M (Old w0) w0 w []) ?_ ?_
    ·skip
     refine Zc (Zd hE Za (dl rfl) rfl ?_); intro a hE
     refine Zh hE Za (dl rfl) rfl rfl (bI_rem _ _ (by decide)) ?_; intro a hE
     refine Zh hE Za (dl rfl) rfl rfl rfl ?_; intro a hE
     refine Zf ?_
     refine Zt hE rfl ?_ ?_
     ·intro hb15
      have hl13 := ZA hl13 hb15
      refine wp_region_lit (Zd hE Za (dl rfl) rfl ?_); intro a hE
      refine Zd hE Za (dl rfl) rfl ?_; intro a hE
      refine Zd hE Za (dl rfl) rfl ?_; intro a hE
      obtain ⟨r16, e17, hl13⟩ := bind_some hl13
      refine Zw (vs := [(vI p0), (vB s4.2.2), (vB s4.1)]) hE Za (dl rfl) rfl cb123 (Vd _ p0 s4.2.2 s4.1 r16 e17) ?_
      rintro v w a ⟨rfl, hK⟩ hE
      have hM := hM.keep hK
      refine Ze hE Za (dl rfl) rfl ?_; intro a hE
      refine Zj ?_
      have ht18 := Option.some.inj hl13
      subst ht18
      refine Zl ?_
      exact ⟨hE.sub ⟨rfl, rfl, rfl, rfl, trivial⟩, hM⟩
     ·intro hb15
      have hl13 := Zz hl13 hb15
      refine wp_skip ?_
      have ht19 := Option.some.inj hl13
      subst ht19
      refine Zl ?_
      exact ⟨hE.sub ⟨rfl, rfl, rfl, rfl, trivial⟩, hM⟩
    ·skip
     rintro a w ⟨hE, hM⟩
     refine wp_region_lit (Zd hE Za (dl rfl) rfl ?_); intro a hE
     refine Zd hE Za (dl rfl) rfl ?_; intro a hE
     refine Zd hE Za (dl rfl) rfl ?_; intro a hE
     obtain ⟨r20, e21, hF14⟩ := bind_some hF14
     refine Zw (vs := [(vI p0), (vB s4.1), (vB s4.1)]) hE Za (dl rfl) rfl cb123 (Vd _ p0 s4.1 s4.1 r20 e21) ?_
     rintro v w a ⟨rfl, hK⟩ hE
     have hM := hM.keep hK
     refine Ze hE Za (dl rfl) rfl ?_; intro a hE
     refine Zj (Yk ?_)
     have ht22 := Option.some.inj hF14
     subst ht22
     refine Zl ?_
     exact ⟨hE.sub ⟨rfl, rfl, rfl, rfl, trivial⟩, hM⟩
   ·skip
    rintro a w ⟨hE, hM⟩
    refine wp_region_lit (Zd hE Za (dl rfl) rfl ?_); intro a hE
    refine Zh hE Za (dl rfl) rfl rfl (bI_quo _ _ (by decide)) ?_; intro a hE
    refine Ze hE Za (dl rfl) rfl ?_; intro a hE
    refine Zj (Zl ?_)
    exact ⟨_, (Option.some.inj hF11).symm, hE.sub ⟨rfl, rfl, rfl, rfl, trivial⟩, hM⟩
  ·intro hb8
   have hs5 := Zz hs5 hb8
   refine wp_exit (Zr (Zr (Yj ?_)))
   have ht23 := hx6 _ (Option.some.inj hs5).symm
   subst ht23
   refine Zl ?_
   exact ⟨hE.sub ⟨rfl, trivial⟩, hM⟩
 ·skip
  rintro a w ⟨hE, hM⟩
  refine Zc (Zd hE Za (dl rfl) rfl ?_); intro a hE
  refine Ze hE Za (dl rfl) rfl ?_; intro a hE
  refine Zf ?_
  have hr := Option.some.inj hF3
  subst hr
  exact wp_ret (Zy hE rfl (Zu hE rfl) ⟨_, rfl, rfl, hM.kept⟩)
noncomputable def Ww (p0 : Int) (p1 : UInt8) : Option (UInt8) :=
 (Wc p0 p1 254).bind fun r1 => some r1
theorem c_spec_l01Inv (w0 : World) (p0 : Int) (p1 : UInt8) (r : UInt8) (hF : Ww p0 p1 = some r) :
  Calls Try.prog 106 [(vI p0), (vB p1)].toArray w0 (fun en w' => ∃ v, en = .returned v ∧ (v = (vB r) ∧ Kept (Old w0) w0 w')) := by
 refine ZC (n := 8) Try.func106 rfl rfl (Nat.le_of_ble_eq_true rfl) rfl ?_
 intro a hE
 have hM := M.start w0
 unfold Ww at hF
 refine Zc (Ze hE Za (dl rfl) rfl ?_); intro a hE
 refine Zf (Zc (Zd hE Za (dl rfl) rfl ?_)); intro a hE
 refine Zd hE Za (dl rfl) rfl ?_; intro a hE
 obtain ⟨r1, e2, hF⟩ := bind_some hF
 refine Zw (vs := [(vI p0), (vB p1), (vI 254)]) hE Za (dl rfl) rfl cb125 (c_spec_l01Power _ p0 p1 254 r1 e2) ?_
 rintro v w a ⟨rfl, hK⟩ hE
 have hM := hM.keep hK
 refine Ze hE Za (dl rfl) rfl ?_; intro a hE
 refine Zf ?_
 have hr := Option.some.inj hF
 subst hr
 exact wp_ret (Zy hE rfl (Zu hE rfl) ⟨_, rfl, rfl, hM.kept⟩)
noncomputable def VS (s16 : (Vector (Vector UInt8 4) 4) × Int) (s24 : (Vector (Vector UInt8 4) 4) × Int) : Option (Fl ((Vector (Vector UInt8 4) 4) × Int) (Vector (Vector UInt8 4) 4)) :=
 if (decide (s24.2 < 4)) = true then ((Ww 285 (ZG (xorI s16.2 (wr (4 + s24.2))))).bind fun r30 => (ZM s24.1 s16.2).bind fun x33 => (ZM x33 s24.2).bind fun x36 => some (Fl.nx ((s24.1.setIfInBounds (s16.2).toNat (x33.setIfInBounds (s24.2).toNat r30)), wr (s24.2 + 1)))) else (some (Fl.ex s24.1))
noncomputable def VW (s16 : (Vector (Vector UInt8 4) 4) × Int) : Option (Fl ((Vector (Vector UInt8 4) 4) × Int) (Vector (Vector UInt8 4) 4)) :=
 if (decide (s16.2 < 4)) = true then ((ZF (VS s16) (s16.1, 0) : Option ((Vector (Vector UInt8 4) 4))).bind fun j21 => some (Fl.nx (j21, wr (s16.2 + 1)))) else (some (Fl.ex s16.1))
noncomputable def VV (s43 : (Vector UInt8 16) × Int) : Option (Fl ((Vector UInt8 16) × Int) (Vector UInt8 16)) :=
 if (decide (s43.2 < 16)) = true then ((ZM s43.1 s43.2).bind fun x49 => some (Fl.nx ((s43.1.setIfInBounds (s43.2).toNat (ZG (Int.tmod (wr ((wr (13 * s43.2)) + 4)) 16))), wr (s43.2 + 1)))) else (some (Fl.ex s43.1))
noncomputable def Vb (p0 : Int) : Option (GCipher) :=
 (W7 285 254).bind fun r5 => (XJ ([0, 1, 4] : List Int) 90).bind fun r9 => (Vw r5 r9).bind fun r11 => (ZF (VW) ((Vector.replicate 4 (Vector.replicate 4 (0 : UInt8))), 0) : Option ((Vector (Vector UInt8 4) 4))).bind fun j13 => (ZF (VV) ((Vector.replicate 16 (0 : UInt8)), 0) : Option ((Vector UInt8 16))).bind fun j40 => some (⟨285, r11, j13, j40, p0⟩ : GCipher)
theorem c_spec_l04House (w0 : World) (p0 : Int) (r : GCipher) (hF : Vb p0 = some r) :
  Calls Try.prog 86 [(vI p0)].toArray w0 (fun en w' => ∃ v, en = .returned v ∧ (v = (Value.agg (Flat.enc r).toArray) ∧ Kept (Old w0) w0 w')) := by
 refine ZC (n := 46) Try.func86 rfl rfl (Nat.le_of_ble_eq_true rfl) rfl ?_
 intro a hE
 have hM := M.start w0
 unfold Vb at hF
 refine Zc (ZO hE hM Za (dl rfl) VP ?_); intro b1 w a hM hE
 refine Zf (Zc (Zd hE Za (dl rfl) rfl ?_)); intro a hE
 refine s_buildStr (parts := [(0, .const (vI 285)), (4, .tmp 7)]) (vs := [(0, (vI 285)), (4, (vI p0))]) (cs := cat [[(vI 285)], Flat.enc (Vector.replicate 256 (0 : UInt8)), Flat.enc (Vector.replicate 4 (Vector.replicate 4 (0 : UInt8))), Flat.enc (Vector.replicate 16 (0 : UInt8)), [(vI p0)]]) hE Za (dl rfl) rfl rfl VP pl103 (Wh (pre := []) (seg := [(vI 0)]) (seg' := [(vI 285)]) (post := [Flat.enc (Vector.replicate 256 (0 : UInt8)), Flat.enc (Vector.replicate 4 (Vector.replicate 4 (0 : UInt8))), Flat.enc (Vector.replicate 16 (0 : UInt8)), [(vI 0)]]) rfl cl0 rfl rfl rfl (Wh (pre := [[(vI 285)], Flat.enc (Vector.replicate 256 (0 : UInt8)), Flat.enc (Vector.replicate 4 (Vector.replicate 4 (0 : UInt8))), Flat.enc (Vector.replicate 16 (0 : UInt8))]) (seg := [(vI 0)]) (seg' := [(vI p0)]) (post := []) rfl (cl1 (n := 1) (m := 288) rfl (cl1 (n := 256) (m := 32) (Flat.len _) (cl1 (n := 16) (m := 16) (Flat.len _) (cl1 (n := 16) (m := 0) (Flat.len _) cl0)))) rfl rfl rfl fill_nil)) ?_; intro a hE
 refine ZO hE hM Za (dl rfl) VP ?_; intro b3 w a hM hE
 refine Zs (seg := cat [[(vI 285)], Flat.enc (Vector.replicate 256 (0 : UInt8)), Flat.enc (Vector.replicate 4 (Vector.replicate 4 (0 : UInt8))), Flat.enc (Vector.replicate 16 (0 : UInt8)), [(vI p0)]]) (cs' := cat [[(vI 285)], Flat.enc (Vector.replicate 256 (0 : UInt8)), Flat.enc (Vector.replicate 4 (Vector.replicate 4 (0 : UInt8))), Flat.enc (Vector.replicate 16 (0 : UInt8)), [(vI p0)]]) hE hM Za rfl rfl rfl VP (ZR (cl1 (n := 1) (m := 289) rfl (cl1 (n := 256) (m := 33) (Flat.len _) (cl1 (n := 16) (m := 17) (Flat.len _) (cl1 (n := 16) (m := 1) (Flat.len _) (cl1 (n := 1) (m := 0) rfl cl0)))))) (Nat.le_of_eq ((Nat.zero_add _).trans (Eq.trans (ZR (cl1 (n := 1) (m := 289) rfl (cl1 (n := 256) (m := 33) (Flat.len _) (cl1 (n := 16) (m := 17) (Flat.len _) (cl1 (n := 16) (m := 1) (Flat.len _) (cl1 (n := 1) (m := 0) rfl cl0)))))) (Eq.symm (ZR (cl1 (n := 1) (m := 289) rfl (cl1 (n := 256) (m := 33) (Flat.len _) (cl1 (n := 16) (m := 17) (Flat.len _) (cl1 (n := 16) (m := 1) (Flat.len _) (cl1 (n := 1) (m := 0) rfl cl0)))))))))) (cat_cell (cc1 (Flat.cell (285 : Int)) (cc1 (Flat.cell _) (cc1 (Flat.cell _) (cc1 (Flat.cell _) (cc1 (Flat.cell (p0 : Int)) cc0)))))) (Zq (Eq.trans (ZR (cl1 (n := 1) (m := 289) rfl (cl1 (n := 256) (m := 33) (Flat.len _) (cl1 (n := 16) (m := 17) (Flat.len _) (cl1 (n := 16) (m := 1) (Flat.len _) (cl1 (n := 1) (m := 0) rfl cl0)))))) (Eq.symm (ZR (cl1 (n := 1) (m := 289) rfl (cl1 (n := 256) (m := 33) (Flat.len _) (cl1 (n := 16) (m := 17) (Flat.len _) (cl1 (n := 16) (m := 1) (Flat.len _) (cl1 (n := 1) (m := 0) rfl cl0))))))))) ?_; intro w a hM hE
 refine Zf (Zc ?_)
 obtain ⟨r5, e6, hF⟩ := bind_some hF
 refine Zw (vs := [(vI 285), (vI 254)]) hE Za (dl rfl) rfl cb104 (c_spec_l02Power _ 285 254 r5 e6) ?_
 rintro v w a ⟨rfl, hK⟩ hE
 have hM := hM.keep hK
 refine Y7 (xs := [.const (vI 0), .const (vI 1), .const (vI 4)]) (l := ([0, 1, 4] : List Int)) (vs := [(vI 0), (vI 1), (vI 4)]) hE hM Za (dl rfl) rfl rfl Try.underlying46 ty2 rfl (by decide) rfl ?_; intro u7 w a hM hE
 obtain ⟨r9, e10, hF⟩ := bind_some hF
 refine Zw (vs := [u7, (vB 90)]) hE Za (dl rfl) rfl cb105 (c_spec_l02Rotations _ ([0, 1, 4] : List Int) u7 (hM.sl (pre := []) noB) 90 r9 e10) ?_
 rintro v w a ⟨rfl, hK⟩ hE
 have hM := hM.keep hK
 obtain ⟨r11, e12, hF⟩ := bind_some hF
 refine Zw (vs := [(Value.agg (Flat.enc r5).toArray), (Value.agg (Flat.enc r9).toArray)]) hE Za (dl rfl) rfl cb103 (c_spec_l02Then _ r5 r9 r11 e12) ?_
 rintro v w a ⟨rfl, hK⟩ hE
 have hM := hM.keep hK
 refine Zo hE Za (dl rfl) rfl (fd103_1) ?_; intro a hE
 have hM := hM.pull (pre := [_])
 refine Zs (seg := Flat.enc r11) (cs' := cat [[(vI 285)], Flat.enc r11, Flat.enc (Vector.replicate 4 (Vector.replicate 4 (0 : UInt8))), Flat.enc (Vector.replicate 16 (0 : UInt8)), [(vI p0)]]) hE hM Za rfl rfl rfl Vn (Flat.len _) (fit_cat (pre := [[(vI 285)]]) (cl1 (n := 1) (m := 0) rfl cl0) flq) (Flat.cell _) (splice_cat (pre := [[(vI 285)]]) (cl1 (n := 1) (m := 0) rfl cl0) flq) ?_; intro w a hM hE
 refine Zf (wp_seq (Zc (Ze hE Za (dl rfl) rfl ?_))); intro a hE
 refine Zf ?_
 obtain ⟨j13, hl14, hF15⟩ := bind_some hF
 refine ZV (fun a w => Env 46 a [(2, (ptr b1 0)), (3, (ptr b3 0))] ∧ M (Old w0) w0 w [raw b3 (cat [[(vI 285)], Flat.enc r11, Flat.enc j13, Flat.enc (Vector.replicate 16 (0 : UInt8)), [(vI p0)]]), raw b1 (cat [[(vI 0)], Flat.enc (Vector.replicate 256 (0 : UInt8)), Flat.enc (Vector.replicate 4 (Vector.replicate 4 (0 : UInt8))), Flat.enc (Vector.replicate 16 (0 : UInt8)), [(vI 0)]])]) ?_ ?_
 ·skip
  refine wp_block ?_
  have hM := hM.pull (pre := [_, _])
  have hM := hM.pull (pre := [_])
  have hM := M.fst (l := [_, _]) hM
  refine ZN (fun (s16 : (Vector (Vector UInt8 4) 4) × Int) a w => Env 46 a [(2, (ptr b1 0)), (3, (ptr b3 0)), (4, (vI s16.2))] ∧ M (Old w0) w0 w [raw b3 (cat [[(vI 285)], Flat.enc r11, Flat.enc s16.1, Flat.enc (Vector.replicate 16 (0 : UInt8)), [(vI p0)]]), raw b1 (cat [[(vI 0)], Flat.enc (Vector.replicate 256 (0 : UInt8)), Flat.enc (Vector.replicate 4 (Vector.replicate 4 (0 : UInt8))), Flat.enc (Vector.replicate 16 (0 : UInt8)), [(vI 0)]])]) hl14 ⟨hE.sub ⟨rfl, rfl, rfl, trivial⟩, hM⟩ ?_
  rintro s16 a w ⟨hE, hM⟩ o19 hs17 hx18
  unfold VW at hs17
  refine wp_seq (Zc (Zd hE Za (dl rfl) rfl ?_)); intro a hE
  refine Zh hE Za (dl rfl) rfl rfl rfl ?_; intro a hE
  refine Zf ?_
  refine Zt hE rfl ?_ ?_
  ·intro hb20
   have hs17 := ZA hs17 hb20
   refine wp_skip (Zx (wp_seq (wp_block (Zc (Ze hE Za (dl rfl) rfl ?_))))); intro a hE
   refine Zf ?_
   obtain ⟨j21, hl22, hF23⟩ := bind_some hs17
   refine ZV (fun a w => Env 46 a [(2, (ptr b1 0)), (3, (ptr b3 0)), (4, (vI s16.2))] ∧ M (Old w0) w0 w [raw b3 (cat [[(vI 285)], Flat.enc r11, Flat.enc j21, Flat.enc (Vector.replicate 16 (0 : UInt8)), [(vI p0)]]), raw b1 (cat [[(vI 0)], Flat.enc (Vector.replicate 256 (0 : UInt8)), Flat.enc (Vector.replicate 4 (Vector.replicate 4 (0 : UInt8))), Flat.enc (Vector.replicate 16 (0 : UInt8)), [(vI 0)]])]) ?_ ?_
   ·skip
    refine wp_block ?_
    refine ZN (fun (s24 : (Vector (Vector UInt8 4) 4) × Int) a w => Env 46 a [(2, (ptr b1 0)), (3, (ptr b3 0)), (4, (vI s16.2)), (5, (vI s24.2))] ∧ M (Old w0) w0 w [raw b3 (cat [[(vI 285)], Flat.enc r11, Flat.enc s24.1, Flat.enc (Vector.replicate 16 (0 : UInt8)), [(vI p0)]]), raw b1 (cat [[(vI 0)], Flat.enc (Vector.replicate 256 (0 : UInt8)), Flat.enc (Vector.replicate 4 (Vector.replicate 4 (0 : UInt8))), Flat.enc (Vector.replicate 16 (0 : UInt8)), [(vI 0)]])]) hl22 ⟨hE.sub ⟨rfl, rfl, rfl, rfl, trivial⟩, hM⟩ ?_
    rintro s24 a w ⟨hE, hM⟩ o27 hs25 hx26
    unfold VS at hs25
    refine wp_seq (Zc (Zd hE Za (dl rfl) rfl ?_)); intro a hE
    refine Zh hE Za (dl rfl) rfl rfl rfl ?_; intro a hE
    refine Zf ?_
    refine Zt hE rfl ?_ ?_
    ·intro hb28
     have hs25 := ZA hs25 hb28
     refine wp_skip (Zx (wp_seq (wp_block ?_)))
     obtain ⟨r30, e31, hs25⟩ := bind_some hs25
     obtain ⟨x33, e34, hs25⟩ := bind_some hs25
     have hi32 := Zi e34
     obtain ⟨x36, e37, hs25⟩ := bind_some hs25
     have hi35 := Zi e37
     refine Yd (n := 46) (hd := [_, _, _, _, _, _, _, _, _, _, _]) (tl := [_]) YB rfl rfl [22, 23, 24, 25, 26, 27, 28, 29, 30, 31, 32] (by decide) (fun w => M (Old w0) w0 w [raw b3 (cat [[(vI 285)], Flat.enc r11, Flat.enc s24.1, Flat.enc (Vector.replicate 16 (0 : UInt8)), [(vI p0)]]), raw b1 (cat [[(vI 0)], Flat.enc (Vector.replicate 256 (0 : UInt8)), Flat.enc (Vector.replicate 4 (Vector.replicate 4 (0 : UInt8))), Flat.enc (Vector.replicate 16 (0 : UInt8)), [(vI 0)]])]) (fun j => ([fun v _ => v = (vI s16.2), fun v _ => v = (vI s24.2), fun v _ => v = (vI s16.2), fun v _ => v = (vI s24.2), fun v _ => v = (vI (wr (4 + s24.2))), fun v _ => v = (vI (xorI s16.2 (wr (4 + s24.2)))), fun v _ => v = (vB (ZG (xorI s16.2 (wr (4 + s24.2))))), fun v _ => v = (vB r30), fun v _ => v = (ptr b3 (0 + 257)), fun v _ => v = (ptr b3 (0 + 257 + (s16.2).toNat * 4)), fun v _ => v = (ptr b3 (0 + 257 + (s16.2).toNat * 4 + (s24.2).toNat * 1))] : List (Value → World → Prop)).getD j (fun _ _ => True)) (fun _ _ h hk => h.keep hk) (gup (Zg (Zg (Zg (Zg (Zg (Zg (Zg (Zg (Zg (Zg (Zg Wu)))))))))))) hE hM.drew (ZH (Zb ?_ (Zb ?_ (Zb ?_ (Zb ?_ (Zb ?_ (Zb ?_ (Zb ?_ (Zb ?_ (Zb ?_ (Zb ?_ (Zb ?_ ZD)))))))))))) ?_
     ·exact fun a w ux29 hE hM hp => Zd hE Za (dl rfl) rfl fun a hE => ⟨Kept.refl _ _, _, _, rfl, hE, rfl⟩
     ·exact fun a w ux29 hE hM hp => Zd hE Za (dl rfl) rfl fun a hE => ⟨Kept.refl _ _, _, _, rfl, hE, rfl⟩
     ·exact fun a w ux29 hE hM hp => Zd hE Za (dl rfl) rfl fun a hE => ⟨Kept.refl _ _, _, _, rfl, hE, rfl⟩
     ·exact fun a w ux29 hE hM hp => Zd hE Za (dl rfl) rfl fun a hE => ⟨Kept.refl _ _, _, _, rfl, hE, rfl⟩
     ·intro a w ux29 hE hM hp
      have f3 : ux29 3 = (vI s24.2) := hp 0 _ rfl rfl
      exact Zh hE Za (dl rfl) rfl (lk rfl f3) rfl fun a hE => ⟨Kept.refl _ _, _, _, rfl, hE, rfl⟩
     ·intro a w ux29 hE hM hp
      have f2 : ux29 2 = (vI s16.2) := hp 0 _ rfl rfl
      have f4 : ux29 4 = (vI (wr (4 + s24.2))) := hp 1 _ rfl rfl
      exact Zh hE Za (dl rfl) (lk rfl f2) (lk rfl f4) rfl fun a hE => ⟨Kept.refl _ _, _, _, rfl, hE, rfl⟩
     ·intro a w ux29 hE hM hp
      have f5 : ux29 5 = (vI (xorI s16.2 (wr (4 + s24.2)))) := hp 0 _ rfl rfl
      refine YK hE Za (dl rfl) (lk rfl f5) Try.underlying3 Try.underlying5 ?_; intro a hE
      rw [Yf] at hE
      exact ⟨Kept.refl _ _, _, _, rfl, hE, rfl⟩
     ·intro a w ux29 hE hM hp
      have f6 : ux29 6 = (vB (ZG (xorI s16.2 (wr (4 + s24.2))))) := hp 0 _ rfl rfl
      refine Zw (vs := [(vI 285), (vB (ZG (xorI s16.2 (wr (4 + s24.2)))))]) hE Za (dl rfl) (Z0 (ZY rfl (ZY (lk rfl f6) Xf))) cb106 (c_spec_l01Inv _ 285 (ZG (xorI s16.2 (wr (4 + s24.2)))) r30 e31) ?_
      rintro v w a ⟨rfl, hK⟩ hE
      exact ⟨hK, _, _, rfl, hE, rfl⟩
     ·exact fun a w ux29 hE hM hp => Zo hE Za (dl rfl) rfl (fd103_2) fun a hE => ⟨Kept.refl _ _, _, _, rfl, hE, rfl⟩
     ·intro a w ux29 hE hM hp
      have f0 : ux29 0 = (vI s16.2) := hp 1 _ rfl rfl
      have f8 : ux29 8 = (ptr b3 (0 + 257)) := hp 0 _ rfl rfl
      exact Zm hE Za (dl rfl) (lk rfl f8) (lk rfl f0) Try.underlying100 Va hi32.1 fun a hE => ⟨Kept.refl _ _, _, _, rfl, hE, rfl⟩
     ·intro a w ux29 hE hM hp
      have f1 : ux29 1 = (vI s24.2) := hp 1 _ rfl rfl
      have f9 : ux29 9 = (ptr b3 (0 + 257 + (s16.2).toNat * 4)) := hp 0 _ rfl rfl
      exact Zm hE Za (dl rfl) (lk rfl f9) (lk rfl f1) Try.underlying98 ty5 hi35.1 fun a hE => ⟨Kept.refl _ _, _, _, rfl, hE, rfl⟩
     ·intro a w ux29 hE hM hg
      have hE := hE.sub (e' := [(29, (vB r30)), (32, (ptr b3 (0 + 257 + (s16.2).toNat * 4 + (s24.2).toNat * 1))), (2, (ptr b1 0)), (3, (ptr b3 0)), (4, (vI s16.2)), (5, (vI s24.2)), (18, (vI s24.2)), (19, (vT (decide (s24.2 < 4))))]) ⟨lk rfl (hg 7 (by decide)), lk rfl (hg 10 (by decide)), rfl, rfl, rfl, rfl, rfl, rfl, trivial⟩
      refine Zs (seg := [(vB r30)]) (cs' := cat [[(vI 285)], Flat.enc r11, Flat.enc (s24.1.setIfInBounds (s16.2).toNat (x33.setIfInBounds (s24.2).toNat r30)), Flat.enc (Vector.replicate 16 (0 : UInt8)), [(vI p0)]]) hE hM Za rfl rfl rfl ty5 rfl (fit_catI (o' := (s16.2).toNat * 4 + (0 + (s24.2).toNat * 1)) (pre := [[(vI 285)], Flat.enc r11]) (seg := Flat.enc s24.1) (post := [Flat.enc (Vector.replicate 16 (0 : UInt8)), [(vI p0)]]) (cl1 (n := 1) (m := 256) rfl (cl1 (n := 256) (m := 0) (Flat.len _) cl0)) (Vh (o' := 0 + (s24.2).toNat * 1) hi32 (ZT (v := x33) (x := r30) hi35.1) (by first | omega | (simp only [Flat.n] <;> omega))) (by first | omega | (simp only [Flat.n] <;> omega))) (Flat.cell (r30 : UInt8)) (splice_catI (o' := (s16.2).toNat * 4 + (0 + (s24.2).toNat * 1)) (pre := [[(vI 285)], Flat.enc r11]) (seg := Flat.enc s24.1) (post := [Flat.enc (Vector.replicate 16 (0 : UInt8)), [(vI p0)]]) (cl1 (n := 1) (m := 256) rfl (cl1 (n := 256) (m := 0) (Flat.len _) cl0)) (Vh (o' := 0 + (s24.2).toNat * 1) hi32 (ZT (v := x33) (x := r30) hi35.1) (by first | omega | (simp only [Flat.n] <;> omega))) (Wm (o' := 0 + (s24.2).toNat * 1) hi32 (ZT (v := x33) (x := r30) hi35.1) (ZI (v := x33) (x := r30) hi35.1) (by first | omega | (simp only [Flat.n] <;> omega))) (by first | omega | (simp only [Flat.n] <;> omega))) ?_; intro w a hM hE
      refine Zj (Yk (Zx (wp_region_lit (Zd hE Za (dl rfl) rfl ?_)))); intro a hE
      refine Zh hE Za (dl rfl) rfl rfl rfl ?_; intro a hE
      refine Ze hE Za (dl rfl) rfl ?_; intro a hE
      refine Zj (Zl ?_)
      exact ⟨_, (Option.some.inj hs25).symm, hE.sub ⟨rfl, rfl, rfl, rfl, trivial⟩, hM⟩
    ·intro hb28
     have hs25 := Zz hs25 hb28
     refine wp_exit (Zr (Zr (Yj ?_)))
     have ht38 := hx26 _ (Option.some.inj hs25).symm
     subst ht38
     refine Zl ?_
     exact ⟨hE.sub ⟨rfl, rfl, rfl, trivial⟩, hM⟩
   ·skip
    rintro a w ⟨hE, hM⟩
    refine Yk (Zx (wp_region_lit (Zd hE Za (dl rfl) rfl ?_))); intro a hE
    refine Zh hE Za (dl rfl) rfl rfl rfl ?_; intro a hE
    refine Ze hE Za (dl rfl) rfl ?_; intro a hE
    refine Zj (Zl ?_)
    exact ⟨_, (Option.some.inj hF23).symm, hE.sub ⟨rfl, rfl, rfl, trivial⟩, hM⟩
  ·intro hb20
   have hs17 := Zz hs17 hb20
   refine wp_exit (Zr (Zr (Yj ?_)))
   have ht39 := hx18 _ (Option.some.inj hs17).symm
   subst ht39
   refine Zl ?_
   exact ⟨hE.sub ⟨rfl, rfl, trivial⟩, hM⟩
 ·skip
  rintro a w ⟨hE, hM⟩
  refine Zx (wp_seq (Zc (Ze hE Za (dl rfl) rfl ?_))); intro a hE
  refine Zf ?_
  obtain ⟨j40, hl41, hF42⟩ := bind_some hF15
  refine ZV (fun a w => Env 46 a [(2, (ptr b1 0)), (3, (ptr b3 0))] ∧ M (Old w0) w0 w [raw b3 (cat [[(vI 285)], Flat.enc r11, Flat.enc j13, Flat.enc j40, [(vI p0)]]), raw b1 (cat [[(vI 0)], Flat.enc (Vector.replicate 256 (0 : UInt8)), Flat.enc (Vector.replicate 4 (Vector.replicate 4 (0 : UInt8))), Flat.enc (Vector.replicate 16 (0 : UInt8)), [(vI 0)]])]) ?_ ?_
  ·skip
   refine wp_block ?_
   refine ZN (fun (s43 : (Vector UInt8 16) × Int) a w => Env 46 a [(2, (ptr b1 0)), (3, (ptr b3 0)), (6, (vI s43.2))] ∧ M (Old w0) w0 w [raw b3 (cat [[(vI 285)], Flat.enc r11, Flat.enc j13, Flat.enc s43.1, [(vI p0)]]), raw b1 (cat [[(vI 0)], Flat.enc (Vector.replicate 256 (0 : UInt8)), Flat.enc (Vector.replicate 4 (Vector.replicate 4 (0 : UInt8))), Flat.enc (Vector.replicate 16 (0 : UInt8)), [(vI 0)]])]) hl41 ⟨hE.sub ⟨rfl, rfl, rfl, trivial⟩, hM⟩ ?_
   rintro s43 a w ⟨hE, hM⟩ o46 hs44 hx45
   unfold VV at hs44
   refine wp_seq (Zc (Zd hE Za (dl rfl) rfl ?_)); intro a hE
   refine Zh hE Za (dl rfl) rfl rfl rfl ?_; intro a hE
   refine Zf ?_
   refine Zt hE rfl ?_ ?_
   ·intro hb47
    have hs44 := ZA hs44 hb47
    refine wp_skip (Zx (wp_seq (wp_block (wp_region_lit (Zd hE Za (dl rfl) rfl ?_))))); intro a hE
    refine Zd hE Za (dl rfl) rfl ?_; intro a hE
    refine Zh hE Za (dl rfl) rfl rfl rfl ?_; intro a hE
    refine Zh hE Za (dl rfl) rfl rfl rfl ?_; intro a hE
    refine Zh hE Za (dl rfl) rfl rfl (bI_rem _ _ (by decide)) ?_; intro a hE
    refine YK hE Za (dl rfl) rfl Try.underlying3 Try.underlying5 ?_; intro a hE
    rw [Yf] at hE
    refine Zo hE Za (dl rfl) rfl (fd103_3) ?_; intro a hE
    obtain ⟨x49, e50, hs44⟩ := bind_some hs44
    have hi48 := Zi e50
    refine Zm hE Za (dl rfl) rfl rfl Try.underlying101 ty5 hi48.1 ?_; intro a hE
    refine Zs (seg := [(vB (ZG (Int.tmod (wr ((wr (13 * s43.2)) + 4)) 16)))]) (cs' := cat [[(vI 285)], Flat.enc r11, Flat.enc j13, Flat.enc (s43.1.setIfInBounds (s43.2).toNat (ZG (Int.tmod (wr ((wr (13 * s43.2)) + 4)) 16))), [(vI p0)]]) hE hM Za rfl rfl rfl ty5 rfl (fit_catI (o' := 0 + (s43.2).toNat * 1) (pre := [[(vI 285)], Flat.enc r11, Flat.enc j13]) (seg := Flat.enc s43.1) (post := [[(vI p0)]]) (cl1 (n := 1) (m := 272) rfl (cl1 (n := 256) (m := 16) (Flat.len _) (cl1 (n := 16) (m := 0) (Flat.len _) cl0))) (ZT (v := s43.1) (x := ZG (Int.tmod (wr ((wr (13 * s43.2)) + 4)) 16)) hi48.1) (by first | omega | (simp only [Flat.n] <;> omega))) (Flat.cell (ZG (Int.tmod (wr ((wr (13 * s43.2)) + 4)) 16) : UInt8)) (splice_catI (o' := 0 + (s43.2).toNat * 1) (pre := [[(vI 285)], Flat.enc r11, Flat.enc j13]) (seg := Flat.enc s43.1) (post := [[(vI p0)]]) (cl1 (n := 1) (m := 272) rfl (cl1 (n := 256) (m := 16) (Flat.len _) (cl1 (n := 16) (m := 0) (Flat.len _) cl0))) (ZT (v := s43.1) (x := ZG (Int.tmod (wr ((wr (13 * s43.2)) + 4)) 16)) hi48.1) (ZI (v := s43.1) (x := ZG (Int.tmod (wr ((wr (13 * s43.2)) + 4)) 16)) hi48.1) (by first | omega | (simp only [Flat.n] <;> omega))) ?_; intro w a hM hE
    refine Zj (Yk (Zx (wp_region_lit (Zd hE Za (dl rfl) rfl ?_)))); intro a hE
    refine Zh hE Za (dl rfl) rfl rfl rfl ?_; intro a hE
    refine Ze hE Za (dl rfl) rfl ?_; intro a hE
    refine Zj (Zl ?_)
    exact ⟨_, (Option.some.inj hs44).symm, hE.sub ⟨rfl, rfl, rfl, trivial⟩, hM⟩
   ·intro hb47
    have hs44 := Zz hs44 hb47
    refine wp_exit (Zr (Zr (Yj ?_)))
    have ht51 := hx45 _ (Option.some.inj hs44).symm
    subst ht51
    refine Zl ?_
    exact ⟨hE.sub ⟨rfl, rfl, trivial⟩, hM⟩
  ·skip
   rintro a w ⟨hE, hM⟩
   refine Zx (Zc (Zp (cs := Flat.enc (⟨285, r11, j13, j40, p0⟩ : GCipher)) hE Za (dl rfl) rfl VP rfl (hM.rawAt (pre := [])) (ZR (cl1 (n := 1) (m := 289) rfl (cl1 (n := 256) (m := 33) (Flat.len _) (cl1 (n := 16) (m := 17) (Flat.len _) (cl1 (n := 16) (m := 1) (Flat.len _) (cl1 (n := 1) (m := 0) rfl cl0)))))) ?_)); intro a hE
   have hM := hM.pull (pre := [_])
   refine Zs (seg := cat [[(vI ((⟨285, r11, j13, j40, p0⟩ : GCipher).Field))], Flat.enc ((⟨285, r11, j13, j40, p0⟩ : GCipher).Box), Flat.enc ((⟨285, r11, j13, j40, p0⟩ : GCipher).Mix), Flat.enc ((⟨285, r11, j13, j40, p0⟩ : GCipher).Places), [(vI ((⟨285, r11, j13, j40, p0⟩ : GCipher).Rounds))]]) (cs' := cat [[(vI ((⟨285, r11, j13, j40, p0⟩ : GCipher).Field))], Flat.enc ((⟨285, r11, j13, j40, p0⟩ : GCipher).Box), Flat.enc ((⟨285, r11, j13, j40, p0⟩ : GCipher).Mix), Flat.enc ((⟨285, r11, j13, j40, p0⟩ : GCipher).Places), [(vI ((⟨285, r11, j13, j40, p0⟩ : GCipher).Rounds))]]) hE hM Za rfl rfl rfl VP (ZR (cl1 (n := 1) (m := 289) rfl (cl1 (n := 256) (m := 33) (Flat.len _) (cl1 (n := 16) (m := 17) (Flat.len _) (cl1 (n := 16) (m := 1) (Flat.len _) (cl1 (n := 1) (m := 0) rfl cl0)))))) (Nat.le_of_eq ((Nat.zero_add _).trans (Eq.trans (ZR (cl1 (n := 1) (m := 289) rfl (cl1 (n := 256) (m := 33) (Flat.len _) (cl1 (n := 16) (m := 17) (Flat.len _) (cl1 (n := 16) (m := 1) (Flat.len _) (cl1 (n := 1) (m := 0) rfl cl0)))))) (Eq.symm (ZR (cl1 (n := 1) (m := 289) rfl (cl1 (n := 256) (m := 33) (Flat.len _) (cl1 (n := 16) (m := 17) (Flat.len _) (cl1 (n := 16) (m := 1) (Flat.len _) (cl1 (n := 1) (m := 0) rfl cl0)))))))))) (cat_cell (cc1 (Flat.cell ((⟨285, r11, j13, j40, p0⟩ : GCipher).Field : Int)) (cc1 (Flat.cell _) (cc1 (Flat.cell _) (cc1 (Flat.cell _) (cc1 (Flat.cell ((⟨285, r11, j13, j40, p0⟩ : GCipher).Rounds : Int)) cc0)))))) (Zq (Eq.trans (ZR (cl1 (n := 1) (m := 289) rfl (cl1 (n := 256) (m := 33) (Flat.len _) (cl1 (n := 16) (m := 17) (Flat.len _) (cl1 (n := 16) (m := 1) (Flat.len _) (cl1 (n := 1) (m := 0) rfl cl0)))))) (Eq.symm (ZR (cl1 (n := 1) (m := 289) rfl (cl1 (n := 256) (m := 33) (Flat.len _) (cl1 (n := 16) (m := 17) (Flat.len _) (cl1 (n := 16) (m := 1) (Flat.len _) (cl1 (n := 1) (m := 0) rfl cl0))))))))) ?_; intro w a hM hE
   refine Zf ?_
   have hr := Option.some.inj hF42
   subst hr
   have hq52 : YR Try.prog _ _ (.cell 2 103) _ := Z6 hE rfl VP rfl (hM.rawAt (pre := [])) (ZR (cl1 (n := 1) (m := 289) rfl (cl1 (n := 256) (m := 33) (Flat.len _) (cl1 (n := 16) (m := 17) (Flat.len _) (cl1 (n := 16) (m := 1) (Flat.len _) (cl1 (n := 1) (m := 0) rfl cl0)))))) rfl
   have hM := M.fst (l := []) hM
   exact wp_ret (Zy hE rfl hq52 ⟨_, rfl, rfl, hM.kept⟩)
noncomputable def WW (p0 : (List UInt8)) : Option ((List UInt8)) :=
 (app 1 ([] : List UInt8) p0).bind fun l3 => some (([] : List UInt8) ++ p0)
theorem c_spec_l01Copy (w0 : World) (p0 : (List UInt8)) (v0_1 : Value) (hv0_1 : Ro w0 p0 [v0_1]) (r : (List UInt8)) (hF : WW p0 = some r) :
  Calls Try.prog 50 [v0_1].toArray w0 (fun en w' => ∃ v, en = .returned v ∧ (∃ (y1 : Value), v = y1 ∧ Fr w0 w' [osl NoB (r : List UInt8) y1] ∧ Kept (Old w0) w0 w')) := by
 refine ZC (n := 6) Try.func50 rfl rfl (Nat.le_of_ble_eq_true rfl) rfl ?_
 intro a hE
 have hM := M.start w0
 unfold WW at hF
 refine Zc (Ze hE Za (dl rfl) rfl ?_); intro a hE
 refine Zf (Zc (Y7 (xs := []) (l := ([] : List UInt8)) (vs := []) hE hM Za (dl rfl) rfl rfl Try.underlying50 ty5 rfl (by decide) rfl ?_)); intro u1 w a hM hE
 refine Zd hE Za (dl rfl) rfl ?_; intro a hE
 obtain ⟨l3, e4, hF⟩ := bind_some hF
 obtain ⟨e7, rfl⟩ := Wq e4
 refine XA hE hM Za (dl rfl) rfl rfl (hM.rd hv0_1) Try.underlying50 ty5 rfl (by decide) e7 ?_; intro u5 w a hM hE
 refine Ze hE Za (dl rfl) rfl ?_; intro a hE
 refine Zf ?_
 have hr := Option.some.inj hF
 subst hr
 exact wp_ret (Zy hE rfl (Zu hE rfl) ⟨_, rfl, u5, rfl, hM.outF (Vq WY), hM.kept⟩)
noncomputable def Uw (s16 : (List UInt8)) : Option (Fl (List UInt8) (List UInt8)) :=
 if ((Int.tmod (s16.length : Int) 16) != 8) = true then ((app 1 s16 ([0] : List UInt8)).bind fun l25 => some (Fl.nx (s16 ++ ([0] : List UInt8)))) else (some (Fl.ex s16))
noncomputable def WU (p0 : (List UInt8)) (s36 : (List UInt8) × Int) : Option (Fl ((List UInt8) × Int) (List UInt8)) :=
 if (decide (s36.2 ≥ 0)) = true then ((Xk (IntKind.u64.wrap (wr (8 * s36.2)))).bind fun _ => (app 1 s36.1 ([ZG (andI (V9 (p0.length : Int) (IntKind.u64.wrap (wr (8 * s36.2)))) 255)] : List UInt8)).bind fun l46 => some (Fl.nx ((s36.1 ++ ([ZG (andI (V9 (p0.length : Int) (IntKind.u64.wrap (wr (8 * s36.2)))) 255)] : List UInt8)), wr (s36.2 - 1)))) else (some (Fl.ex s36.1))
noncomputable def Ud (p0 : (List UInt8)) : Option ((List UInt8)) :=
 (WW p0).bind fun r1 => (app 1 r1 ([128] : List UInt8)).bind fun l6 => (ZF (Uw) (r1 ++ ([128] : List UInt8)) : Option ((List UInt8))).bind fun j11 => (ZF (WU p0) (j11, 7) : Option ((List UInt8))).bind fun j31 => some j31
theorem c_spec_l08Pad (w0 : World) (p0 : (List UInt8)) (v0_1 : Value) (hv0_1 : Ro w0 p0 [v0_1]) (r : (List UInt8)) (hF : Ud p0 = some r) :
  Calls Try.prog 83 [v0_1].toArray w0 (fun en w' => ∃ v, en = .returned v ∧ (∃ (y1 : Value), v = y1 ∧ Fr w0 w' [osl NoB (r : List UInt8) y1] ∧ Kept (Old w0) w0 w')) := by
 refine ZC (n := 32) Try.func83 rfl rfl (Nat.le_of_ble_eq_true rfl) rfl ?_
 intro a hE
 have hM := M.start w0
 unfold Ud at hF
 refine Zc (Ze hE Za (dl rfl) rfl ?_); intro a hE
 refine Zf (Zc (Zd hE Za (dl rfl) rfl ?_)); intro a hE
 obtain ⟨r1, e2, hF⟩ := bind_some hF
 refine Zw (vs := [v0_1]) hE Za (dl rfl) rfl cb50 (c_spec_l01Copy _ p0 v0_1 (hM.rdo hv0_1) r1 e2) ?_
 rintro u3 w a ⟨_, rfl, hFr, hK⟩ hE
 have hM := hM.add hK hFr
 refine Y7 (xs := [.const (vB 128)]) (l := ([128] : List UInt8)) (vs := [(vB 128)]) hE hM Za (dl rfl) rfl rfl Try.underlying50 ty5 rfl (by decide) rfl ?_; intro u4 w a hM hE
 obtain ⟨l6, e7, hF⟩ := bind_some hF
 obtain ⟨e10, rfl⟩ := Wq e7
 have hM := hM.pull (pre := [_])
 refine XA hE hM Za (dl rfl) rfl rfl (hM.sl (pre := [_]) noB) Try.underlying50 ty5 rfl (by decide) e10 ?_; intro u8 w a hM hE
 refine Ze hE Za (dl rfl) rfl ?_; intro a hE
 refine Zf ?_
 obtain ⟨j11, hl12, hF13⟩ := bind_some hF
 refine ZS (fun a w => ∃ (u14 : Value), Env 32 a [(0, v0_1), (3, u14)] ∧ M (Old w0) w0 w [osl NoB (j11 : List UInt8) u14]) ?_ ?_
 ·skip
  refine wp_block ?_
  have hM := M.fst (l := [_]) hM
  refine ZN (fun (s16 : (List UInt8)) a w => ∃ (u17 : Value), Env 32 a [(0, v0_1), (3, u17)] ∧ M (Old w0) w0 w [osl NoB (s16 : List UInt8) u17]) hl12 ⟨u8, hE.sub ⟨rfl, rfl, trivial⟩, hM⟩ ?_
  rintro s16 a w ⟨u17, hE, hM⟩ o21 hs19 hx20
  unfold Uw at hs19
  refine wp_seq (Zc (Zd hE Za (dl rfl) rfl ?_)); intro a hE
  refine Z7 hE Za (dl rfl) rfl Try.underlying50 (hM.sl (pre := []) noB) ?_; intro a hE
  refine Zh hE Za (dl rfl) rfl rfl (bI_rem _ _ (by decide)) ?_; intro a hE
  refine Zh hE Za (dl rfl) rfl rfl rfl ?_; intro a hE
  refine Zf ?_
  refine Zt hE rfl ?_ ?_
  ·intro hb22
   have hs19 := ZA hs19 hb22
   refine wp_skip (Zx (wp_block (wp_region_lit (Zd hE Za (dl rfl) rfl ?_)))); intro a hE
   refine Y7 (xs := [.const (vB 0)]) (l := ([0] : List UInt8)) (vs := [(vB 0)]) hE hM Za (dl rfl) rfl rfl Try.underlying50 ty5 rfl (by decide) rfl ?_; intro u23 w a hM hE
   obtain ⟨l25, e26, hs19⟩ := bind_some hs19
   obtain ⟨e29, rfl⟩ := Wq e26
   have hM := hM.pull (pre := [_])
   refine XA hE hM Za (dl rfl) rfl rfl (hM.sl (pre := [_]) noB) Try.underlying50 ty5 rfl (by decide) e29 ?_; intro u27 w a hM hE
   refine Ze hE Za (dl rfl) rfl ?_; intro a hE
   refine Zj (Yk (Zl ?_))
   have hM := M.fst (l := [_]) hM
   exact ⟨_, (Option.some.inj hs19).symm, u27, hE.sub ⟨rfl, rfl, trivial⟩, hM⟩
  ·intro hb22
   have hs19 := Zz hs19 hb22
   refine wp_exit (Zr (Zr (Yj ?_)))
   have ht30 := hx20 _ (Option.some.inj hs19).symm
   subst ht30
   refine Zl ?_
   exact ⟨u17, hE.sub ⟨rfl, rfl, trivial⟩, hM⟩
 ·skip
  rintro a w ⟨u14, hE, hM⟩
  refine wp_seq (Zc (Ze hE Za (dl rfl) rfl ?_)); intro a hE
  refine Zf ?_
  obtain ⟨j31, hl32, hF33⟩ := bind_some hF13
  refine ZV (fun a w => ∃ (u34 : Value), Env 32 a [(3, u34)] ∧ M (Old w0) w0 w [osl NoB (j31 : List UInt8) u34]) ?_ ?_
  ·skip
   refine wp_block ?_
   refine ZN (fun (s36 : (List UInt8) × Int) a w => ∃ (u37 : Value), Env 32 a [(0, v0_1), (3, u37), (4, (vI s36.2))] ∧ M (Old w0) w0 w [osl NoB (s36.1 : List UInt8) u37]) hl32 ⟨u14, hE.sub ⟨rfl, rfl, rfl, trivial⟩, hM⟩ ?_
   rintro s36 a w ⟨u37, hE, hM⟩ o41 hs39 hx40
   unfold WU at hs39
   refine wp_seq (Zc (Zd hE Za (dl rfl) rfl ?_)); intro a hE
   refine Zh hE Za (dl rfl) rfl rfl rfl ?_; intro a hE
   refine Zf ?_
   refine Zt hE rfl ?_ ?_
   ·intro hb42
    have hs39 := ZA hs39 hb42
    refine wp_skip (Zx (wp_seq (wp_block (wp_region_lit (Zd hE Za (dl rfl) rfl ?_))))); intro a hE
    refine Zd hE Za (dl rfl) rfl ?_; intro a hE
    refine Z7 hE Za (dl rfl) rfl Try.underlying50 (hM.rd hv0_1) ?_; intro a hE
    refine Zd hE Za (dl rfl) rfl ?_; intro a hE
    refine Zh hE Za (dl rfl) rfl rfl rfl ?_; intro a hE
    refine YK hE Za (dl rfl) rfl Try.underlying3 Try.underlying134 ?_; intro a hE
    obtain ⟨_, e43, hs39⟩ := bind_some hs39
    have e43 := Wk e43
    refine s_sh hE Za (dl rfl) rfl rfl (bI_shr _ _ e43) ?_; intro a hE
    refine Zh hE Za (dl rfl) rfl rfl rfl ?_; intro a hE
    refine YK hE Za (dl rfl) rfl Try.underlying3 Try.underlying5 ?_; intro a hE
    rw [Yf] at hE
    refine Y7 (xs := [.tmp 28]) (l := ([ZG (andI (V9 (p0.length : Int) (IntKind.u64.wrap (wr (8 * s36.2)))) 255)] : List UInt8)) (vs := [(vB (ZG (andI (V9 (p0.length : Int) (IntKind.u64.wrap (wr (8 * s36.2)))) 255)))]) hE hM Za (dl rfl) rfl rfl Try.underlying50 ty5 rfl (by decide) rfl ?_; intro u44 w a hM hE
    obtain ⟨l46, e47, hs39⟩ := bind_some hs39
    obtain ⟨e50, rfl⟩ := Wq e47
    have hM := hM.pull (pre := [_])
    refine XA hE hM Za (dl rfl) rfl rfl (hM.sl (pre := [_]) noB) Try.underlying50 ty5 rfl (by decide) e50 ?_; intro u48 w a hM hE
    refine Ze hE Za (dl rfl) rfl ?_; intro a hE
    refine Zj (Yk (Zx (wp_region_lit (Zd hE Za (dl rfl) rfl ?_)))); intro a hE
    refine Zh hE Za (dl rfl) rfl rfl rfl ?_; intro a hE
    refine Ze hE Za (dl rfl) rfl ?_; intro a hE
    refine Zj (Zl ?_)
    have hM := M.fst (l := [_]) hM
    exact ⟨_, (Option.some.inj hs39).symm, u48, hE.sub ⟨rfl, rfl, rfl, trivial⟩, hM⟩
   ·intro hb42
    have hs39 := Zz hs39 hb42
    refine wp_exit (Zr (Zr (Yj ?_)))
    have ht51 := hx40 _ (Option.some.inj hs39).symm
    subst ht51
    refine Zl ?_
    exact ⟨u37, hE.sub ⟨rfl, trivial⟩, hM⟩
  ·skip
   rintro a w ⟨u34, hE, hM⟩
   refine Zx (Zc (Zd hE Za (dl rfl) rfl ?_)); intro a hE
   refine Ze hE Za (dl rfl) rfl ?_; intro a hE
   refine Zf ?_
   have hr := Option.some.inj hF33
   subst hr
   exact wp_ret (Zy hE rfl (Zu hE rfl) ⟨_, rfl, u34, rfl, hM.outF (Vq WY), hM.kept⟩)
noncomputable def Xv (p0 : (List UInt8)) (s8 : (List (Vector UInt8 16)) × Int) (s20 : (Vector UInt8 16) × Int) : Option (Fl ((Vector UInt8 16) × Int) (Vector UInt8 16)) :=
 if (decide (s20.2 < 16)) = true then ((idx p0 (wr (s8.2 + s20.2))).bind fun x25 => (ZM s20.1 s20.2).bind fun x29 => some (Fl.nx ((s20.1.setIfInBounds (s20.2).toNat x25), wr (s20.2 + 1)))) else (some (Fl.ex s20.1))
noncomputable def XB (p0 : (List UInt8)) (s8 : (List (Vector UInt8 16)) × Int) : Option (Fl ((List (Vector UInt8 16)) × Int) (List (Vector UInt8 16))) :=
 if (decide ((wr (s8.2 + 16)) ≤ (p0.length : Int))) = true then ((ZF (Xv p0 s8) ((Vector.replicate 16 (0 : UInt8)), 0) : Option ((Vector UInt8 16))).bind fun j17 => (app 16 s8.1 ([j17] : List (Vector UInt8 16))).bind fun l34 => some (Fl.nx ((s8.1 ++ ([j17] : List (Vector UInt8 16))), wr (s8.2 + 16)))) else (some (Fl.ex s8.1))
noncomputable def WS (p0 : (List UInt8)) : Option ((List (Vector UInt8 16))) :=
 (ZF (XB p0) (([] : List (Vector UInt8 16)), 0) : Option ((List (Vector UInt8 16)))).bind fun j3 => some j3
theorem c_spec_l01Blocks (w0 : World) (p0 : (List UInt8)) (v0_1 : Value) (hv0_1 : Ro w0 p0 [v0_1]) (r : (List (Vector UInt8 16))) (hF : WS p0 = some r) :
  Calls Try.prog 82 [v0_1].toArray w0 (fun en w' => ∃ v, en = .returned v ∧ (∃ (y1 : Value), v = y1 ∧ Fr w0 w' [osl NoB (r : List (Vector UInt8 16)) y1] ∧ Kept (Old w0) w0 w')) := by
 refine ZC (n := 33) Try.func82 rfl rfl (Nat.le_of_ble_eq_true rfl) rfl ?_
 intro a hE
 have hM := M.start w0
 unfold WS at hF
 refine Zc (Ze hE Za (dl rfl) rfl ?_); intro a hE
 refine Zf (Zc (Y7 (xs := []) (l := ([] : List (Vector UInt8 16))) (vs := []) hE hM Za (dl rfl) rfl rfl Try.underlying34 ZP rfl (by decide) rfl ?_)); intro u1 w a hM hE
 refine Ze hE Za (dl rfl) rfl ?_; intro a hE
 refine Zf (wp_seq (Zc (Ze hE Za (dl rfl) rfl ?_))); intro a hE
 refine Zf ?_
 obtain ⟨j3, hl4, hF5⟩ := bind_some hF
 refine ZV (fun a w => ∃ (u6 : Value), Env 33 a [(3, u6)] ∧ M (Old w0) w0 w [osl NoB (j3 : List (Vector UInt8 16)) u6]) ?_ ?_
 ·skip
  refine wp_block ?_
  refine ZN (fun (s8 : (List (Vector UInt8 16)) × Int) a w => ∃ (u9 : Value), Env 33 a [(0, v0_1), (3, u9), (4, (vI s8.2))] ∧ M (Old w0) w0 w [osl NoB (s8.1 : List (Vector UInt8 16)) u9]) hl4 ⟨u1, hE.sub ⟨rfl, rfl, rfl, trivial⟩, hM⟩ ?_
  rintro s8 a w ⟨u9, hE, hM⟩ o13 hs11 hx12
  unfold XB at hs11
  refine wp_seq (Zc (Zd hE Za (dl rfl) rfl ?_)); intro a hE
  refine Zh hE Za (dl rfl) rfl rfl rfl ?_; intro a hE
  refine Zd hE Za (dl rfl) rfl ?_; intro a hE
  refine Z7 hE Za (dl rfl) rfl Try.underlying50 (hM.rd hv0_1) ?_; intro a hE
  refine Zh hE Za (dl rfl) rfl rfl rfl ?_; intro a hE
  refine Zf ?_
  refine Zt hE rfl ?_ ?_
  ·intro hb14
   have hs11 := ZA hs11 hb14
   refine wp_skip (Zx (wp_seq (wp_block (Zc (Xq (parts := []) (vs := []) (cs := Flat.enc (Vector.replicate 16 (0 : UInt8))) hE Za (dl rfl) rfl rfl ZP rfl ty5 YM ?_))))); intro a hE
   refine ZO hE hM Za (dl rfl) ZP ?_; intro b15 w a hM hE
   refine Zs (seg := Flat.enc (Vector.replicate 16 (0 : UInt8))) (cs' := Flat.enc (Vector.replicate 16 (0 : UInt8))) hE hM Za rfl rfl rfl ZP (Flat.len _) (zle flq) (Flat.cell _) (Zq flq) ?_; intro w a hM hE
   refine Zf (wp_seq (Zc (Ze hE Za (dl rfl) rfl ?_))); intro a hE
   refine Zf ?_
   obtain ⟨j17, hl18, hF19⟩ := bind_some hs11
   refine ZV (fun a w => Env 33 a [(0, v0_1), (3, u9), (4, (vI s8.2)), (5, (ptr b15 0))] ∧ M (Old w0) w0 w [raw b15 (Flat.enc j17), osl NoB (s8.1 : List (Vector UInt8 16)) u9]) ?_ ?_
   ·skip
    refine wp_block ?_
    refine ZN (fun (s20 : (Vector UInt8 16) × Int) a w => Env 33 a [(0, v0_1), (3, u9), (4, (vI s8.2)), (5, (ptr b15 0)), (6, (vI s20.2))] ∧ M (Old w0) w0 w [raw b15 (Flat.enc s20.1), osl NoB (s8.1 : List (Vector UInt8 16)) u9]) hl18 ⟨hE.sub ⟨rfl, rfl, rfl, rfl, rfl, trivial⟩, hM⟩ ?_
    rintro s20 a w ⟨hE, hM⟩ o23 hs21 hx22
    unfold Xv at hs21
    refine wp_seq (Zc (Zd hE Za (dl rfl) rfl ?_)); intro a hE
    refine Zh hE Za (dl rfl) rfl rfl rfl ?_; intro a hE
    refine Zf ?_
    refine Zt hE rfl ?_ ?_
    ·intro hb24
     have hs21 := ZA hs21 hb24
     refine wp_skip (Zx (wp_seq (wp_block (wp_region_lit (Zd hE Za (dl rfl) rfl ?_))))); intro a hE
     refine Zd hE Za (dl rfl) rfl ?_; intro a hE
     refine Zd hE Za (dl rfl) rfl ?_; intro a hE
     refine Zd hE Za (dl rfl) rfl ?_; intro a hE
     refine Zh hE Za (dl rfl) rfl rfl rfl ?_; intro a hE
     obtain ⟨x25, e26, hs21⟩ := bind_some hs21
     have hi27 := ZQ e26
     refine ZK hE Za (dl rfl) rfl rfl Try.underlying50 ty5 (hM.rd hv0_1) hi27.1 ?_; intro a hE
     refine Zv (v := (vB x25)) hE Za (dl rfl) rfl ty5 rfl (Yt (hM.rd hv0_1) hi27.2) ?_; intro a hE
     obtain ⟨x29, e30, hs21⟩ := bind_some hs21
     have hi28 := Zi e30
     refine Zm hE Za (dl rfl) rfl rfl Try.underlying39 ty5 hi28.1 ?_; intro a hE
     refine Zs (seg := [(vB x25)]) (cs' := Flat.enc (s20.1.setIfInBounds (s20.2).toNat x25)) hE hM Za rfl rfl rfl ty5 rfl (ZT (v := s20.1) (x := x25) hi28.1) (Flat.cell (x25 : UInt8)) (ZI (v := s20.1) (x := x25) hi28.1) ?_; intro w a hM hE
     refine Zj (Yk (Zx (wp_region_lit (Zd hE Za (dl rfl) rfl ?_)))); intro a hE
     refine Zh hE Za (dl rfl) rfl rfl rfl ?_; intro a hE
     refine Ze hE Za (dl rfl) rfl ?_; intro a hE
     refine Zj (Zl ?_)
     exact ⟨_, (Option.some.inj hs21).symm, hE.sub ⟨rfl, rfl, rfl, rfl, rfl, trivial⟩, hM⟩
    ·intro hb24
     have hs21 := Zz hs21 hb24
     refine wp_exit (Zr (Zr (Yj ?_)))
     have ht31 := hx22 _ (Option.some.inj hs21).symm
     subst ht31
     refine Zl ?_
     exact ⟨hE.sub ⟨rfl, rfl, rfl, rfl, trivial⟩, hM⟩
   ·skip
    rintro a w ⟨hE, hM⟩
    refine Zx (wp_region_lit (Zd hE Za (dl rfl) rfl ?_)); intro a hE
    refine Zp (cs := Flat.enc j17) hE Za (dl rfl) rfl ZP rfl (hM.rawAt (pre := [])) (Flat.len _) ?_; intro a hE
    refine Y7 (xs := [.tmp 29]) (l := ([j17] : List (Vector UInt8 16))) (vs := [(Value.agg (Flat.enc j17).toArray)]) hE hM Za (dl rfl) rfl rfl Try.underlying34 ZP rfl (by decide) rfl ?_; intro u32 w a hM hE
    obtain ⟨l34, e35, hF19⟩ := bind_some hF19
    obtain ⟨e38, rfl⟩ := Wq e35
    have hM := hM.pull (pre := [_, _])
    refine XA hE hM Za (dl rfl) rfl rfl (hM.sl (pre := [_]) noB) Try.underlying34 ZP rfl (by decide) e38 ?_; intro u36 w a hM hE
    refine Ze hE Za (dl rfl) rfl ?_; intro a hE
    refine Zj (Yk (Zx (wp_region_lit (Zd hE Za (dl rfl) rfl ?_)))); intro a hE
    refine Zh hE Za (dl rfl) rfl rfl rfl ?_; intro a hE
    refine Ze hE Za (dl rfl) rfl ?_; intro a hE
    refine Zj (Zl ?_)
    have hM := M.fst (l := [_]) hM
    exact ⟨_, (Option.some.inj hF19).symm, u36, hE.sub ⟨rfl, rfl, rfl, trivial⟩, hM⟩
  ·intro hb14
   have hs11 := Zz hs11 hb14
   refine wp_exit (Zr (Zr (Yj ?_)))
   have ht39 := hx12 _ (Option.some.inj hs11).symm
   subst ht39
   refine Zl ?_
   exact ⟨u9, hE.sub ⟨rfl, trivial⟩, hM⟩
 ·skip
  rintro a w ⟨u6, hE, hM⟩
  refine Zx (Zc (Zd hE Za (dl rfl) rfl ?_)); intro a hE
  refine Ze hE Za (dl rfl) rfl ?_; intro a hE
  refine Zf ?_
  have hr := Option.some.inj hF5
  subst hr
  exact wp_ret (Zy hE rfl (Zu hE rfl) ⟨_, rfl, u6, rfl, hM.outF (Vq WY), hM.kept⟩)
noncomputable def XW (s8 : (Vector UInt8 32) × Int) : Option (Fl ((Vector UInt8 32) × Int) (Vector UInt8 32)) :=
 if (decide (s8.2 < 32)) = true then ((ZM s8.1 s8.2).bind fun x14 => some (Fl.nx ((s8.1.setIfInBounds (s8.2).toNat (ZG (Int.tmod (wr (17 * s8.2)) 256))), wr (s8.2 + 1)))) else (some (Fl.ex s8.1))
noncomputable def Vf : Option ((Vector UInt8 32)) :=
 (ZF (XW) ((Vector.replicate 32 (0 : UInt8)), 0) : Option ((Vector UInt8 32))).bind fun j5 => some j5
theorem c_spec_l08Start (w0 : World)  (r : (Vector UInt8 32)) (hF : Vf  = some r) :
  Calls Try.prog 84 [].toArray w0 (fun en w' => ∃ v, en = .returned v ∧ (v = (Value.agg (Flat.enc r).toArray) ∧ Kept (Old w0) w0 w')) := by
 refine ZC (n := 15) Try.func84 rfl rfl (Nat.le_of_ble_eq_true rfl) rfl ?_
 intro a hE
 have hM := M.start w0
 unfold Vf at hF
 refine Zc (ZO hE hM Za (dl rfl) Yi ?_); intro b1 w a hM hE
 refine Zf (Zc (Xq (parts := []) (vs := []) (cs := Flat.enc (Vector.replicate 32 (0 : UInt8))) hE Za (dl rfl) rfl rfl Yi rfl ty5 YM ?_)); intro a hE
 refine ZO hE hM Za (dl rfl) Yi ?_; intro b3 w a hM hE
 refine Zs (seg := Flat.enc (Vector.replicate 32 (0 : UInt8))) (cs' := Flat.enc (Vector.replicate 32 (0 : UInt8))) hE hM Za rfl rfl rfl Yi (Flat.len _) (zle flq) (Flat.cell _) (Zq flq) ?_; intro w a hM hE
 refine Zf (wp_seq (Zc (Ze hE Za (dl rfl) rfl ?_))); intro a hE
 refine Zf ?_
 obtain ⟨j5, hl6, hF7⟩ := bind_some hF
 refine ZV (fun a w => Env 15 a [(0, (ptr b1 0)), (1, (ptr b3 0))] ∧ M (Old w0) w0 w [raw b3 (Flat.enc j5), raw b1 (Flat.enc (Vector.replicate 32 (0 : UInt8)))]) ?_ ?_
 ·skip
  refine wp_block ?_
  refine ZN (fun (s8 : (Vector UInt8 32) × Int) a w => Env 15 a [(0, (ptr b1 0)), (1, (ptr b3 0)), (2, (vI s8.2))] ∧ M (Old w0) w0 w [raw b3 (Flat.enc s8.1), raw b1 (Flat.enc (Vector.replicate 32 (0 : UInt8)))]) hl6 ⟨hE.sub ⟨rfl, rfl, rfl, trivial⟩, hM⟩ ?_
  rintro s8 a w ⟨hE, hM⟩ o11 hs9 hx10
  unfold XW at hs9
  refine wp_seq (Zc (Zd hE Za (dl rfl) rfl ?_)); intro a hE
  refine Zh hE Za (dl rfl) rfl rfl rfl ?_; intro a hE
  refine Zf ?_
  refine Zt hE rfl ?_ ?_
  ·intro hb12
   have hs9 := ZA hs9 hb12
   refine wp_skip (Zx (wp_seq (wp_block (wp_region_lit (Zd hE Za (dl rfl) rfl ?_))))); intro a hE
   refine Zd hE Za (dl rfl) rfl ?_; intro a hE
   refine Zh hE Za (dl rfl) rfl rfl rfl ?_; intro a hE
   refine Zh hE Za (dl rfl) rfl rfl (bI_rem _ _ (by decide)) ?_; intro a hE
   refine YK hE Za (dl rfl) rfl Try.underlying3 Try.underlying5 ?_; intro a hE
   rw [Yf] at hE
   obtain ⟨x14, e15, hs9⟩ := bind_some hs9
   have hi13 := Zi e15
   refine Zm hE Za (dl rfl) rfl rfl Try.underlying25 ty5 hi13.1 ?_; intro a hE
   refine Zs (seg := [(vB (ZG (Int.tmod (wr (17 * s8.2)) 256)))]) (cs' := Flat.enc (s8.1.setIfInBounds (s8.2).toNat (ZG (Int.tmod (wr (17 * s8.2)) 256)))) hE hM Za rfl rfl rfl ty5 rfl (ZT (v := s8.1) (x := ZG (Int.tmod (wr (17 * s8.2)) 256)) hi13.1) (Flat.cell (ZG (Int.tmod (wr (17 * s8.2)) 256) : UInt8)) (ZI (v := s8.1) (x := ZG (Int.tmod (wr (17 * s8.2)) 256)) hi13.1) ?_; intro w a hM hE
   refine Zj (Yk (Zx (wp_region_lit (Zd hE Za (dl rfl) rfl ?_)))); intro a hE
   refine Zh hE Za (dl rfl) rfl rfl rfl ?_; intro a hE
   refine Ze hE Za (dl rfl) rfl ?_; intro a hE
   refine Zj (Zl ?_)
   exact ⟨_, (Option.some.inj hs9).symm, hE.sub ⟨rfl, rfl, rfl, trivial⟩, hM⟩
  ·intro hb12
   have hs9 := Zz hs9 hb12
   refine wp_exit (Zr (Zr (Yj ?_)))
   have ht16 := hx10 _ (Option.some.inj hs9).symm
   subst ht16
   refine Zl ?_
   exact ⟨hE.sub ⟨rfl, rfl, trivial⟩, hM⟩
 ·skip
  rintro a w ⟨hE, hM⟩
  refine Zx (Zc (Zp (cs := Flat.enc j5) hE Za (dl rfl) rfl Yi rfl (hM.rawAt (pre := [])) (Flat.len _) ?_)); intro a hE
  have hM := hM.pull (pre := [_])
  refine Zs (seg := Flat.enc j5) (cs' := Flat.enc j5) hE hM Za rfl rfl rfl Yi (Flat.len _) (zle flq) (Flat.cell _) (Zq flq) ?_; intro w a hM hE
  refine Zf ?_
  have hr := Option.some.inj hF7
  subst hr
  have hq17 : YR Try.prog _ _ (.cell 0 25) _ := Z6 hE rfl Yi rfl (hM.rawAt (pre := [])) (Flat.len _) rfl
  have hM := M.fst (l := []) hM
  exact wp_ret (Zy hE rfl hq17 ⟨_, rfl, rfl, hM.kept⟩)
noncomputable def Xu (p0 : (Vector UInt8 32)) (s14 : (Vector UInt8 16) × (Vector UInt8 16) × Int) : Option (Fl ((Vector UInt8 16) × (Vector UInt8 16) × Int) ((Vector UInt8 16) × (Vector UInt8 16))) :=
 if (decide (s14.2.2 < 16)) = true then ((ZM p0 s14.2.2).bind fun x20 => (ZM s14.2.1 s14.2.2).bind fun x23 => (ZM p0 (wr (16 + s14.2.2))).bind fun x26 => (ZM s14.1 s14.2.2).bind fun x29 => some (Fl.nx ((s14.1.setIfInBounds (s14.2.2).toNat x26), (s14.2.1.setIfInBounds (s14.2.2).toNat x20), wr (s14.2.2 + 1)))) else (some (Fl.ex (s14.1, s14.2.1)))
noncomputable def WP (p0 : (Vector UInt8 32)) : Option ((Vector UInt8 16) × (Vector UInt8 16)) :=
 (ZF (Xu p0) ((Vector.replicate 16 (0 : UInt8)), (Vector.replicate 16 (0 : UInt8)), 0) : Option ((Vector UInt8 16) × (Vector UInt8 16))).bind fun j11 => (some (j11.2, j11.1) : Option ((Vector UInt8 16) × (Vector UInt8 16))).bind fun j32 => some (j32.1, j32.2)
theorem c_spec_l08Halves (w0 : World) (p0 : (Vector UInt8 32)) (r : (Vector UInt8 16) × (Vector UInt8 16)) (hF : WP p0 = some r) :
  Calls Try.prog 100 [(Value.agg (Flat.enc p0).toArray)].toArray w0 (fun en w' => ∃ v, en = .returned v ∧ (v = (Value.tuple [(Value.agg (Flat.enc r.1).toArray), (Value.agg (Flat.enc r.2).toArray)].toArray) ∧ Kept (Old w0) w0 w')) := by
 refine ZC (n := 26) Try.func100 rfl rfl (Nat.le_of_ble_eq_true rfl) rfl ?_
 intro a hE
 have hM := M.start w0
 unfold WP at hF
 refine Zc (Z4 (cs := Flat.enc p0) hE hM Za (dl rfl) rfl rfl ?_); intro b1 w a hM hE
 refine ZO hE hM Za (dl rfl) ZP ?_; intro b3 w a hM hE
 refine ZO hE hM Za (dl rfl) ZP ?_; intro b5 w a hM hE
 refine Zf (Zc (Xq (parts := []) (vs := []) (cs := Flat.enc (Vector.replicate 16 (0 : UInt8))) hE Za (dl rfl) rfl rfl ZP rfl ty5 YM ?_)); intro a hE
 refine Xq (parts := []) (vs := []) (cs := Flat.enc (Vector.replicate 16 (0 : UInt8))) hE Za (dl rfl) rfl rfl ZP rfl ty5 YM ?_; intro a hE
 refine ZO hE hM Za (dl rfl) ZP ?_; intro b7 w a hM hE
 refine ZO hE hM Za (dl rfl) ZP ?_; intro b9 w a hM hE
 have hM := hM.pull (pre := [_])
 refine Zs (seg := Flat.enc (Vector.replicate 16 (0 : UInt8))) (cs' := Flat.enc (Vector.replicate 16 (0 : UInt8))) hE hM Za rfl rfl rfl ZP (Flat.len _) (zle flq) (Flat.cell _) (Zq flq) ?_; intro w a hM hE
 have hM := hM.pull (pre := [_])
 refine Zs (seg := Flat.enc (Vector.replicate 16 (0 : UInt8))) (cs' := Flat.enc (Vector.replicate 16 (0 : UInt8))) hE hM Za rfl rfl rfl ZP (Flat.len _) (zle flq) (Flat.cell _) (Zq flq) ?_; intro w a hM hE
 refine Zf (wp_seq (Zc (Ze hE Za (dl rfl) rfl ?_))); intro a hE
 refine Zf ?_
 obtain ⟨j11, hl12, hF13⟩ := bind_some hF
 refine ZV (fun a w => Env 26 a [(2, (ptr b3 0)), (3, (ptr b5 0)), (4, (ptr b7 0)), (5, (ptr b9 0))] ∧ M (Old w0) w0 w [raw b9 (Flat.enc j11.1), raw b7 (Flat.enc j11.2), raw b5 (Flat.enc (Vector.replicate 16 (0 : UInt8))), raw b3 (Flat.enc (Vector.replicate 16 (0 : UInt8)))]) ?_ ?_
 ·skip
  refine wp_block ?_
  refine ZN (fun (s14 : (Vector UInt8 16) × (Vector UInt8 16) × Int) a w => Env 26 a [(1, (ptr b1 0)), (2, (ptr b3 0)), (3, (ptr b5 0)), (4, (ptr b7 0)), (5, (ptr b9 0)), (6, (vI s14.2.2))] ∧ M (Old w0) w0 w [raw b9 (Flat.enc s14.1), raw b7 (Flat.enc s14.2.1), raw b5 (Flat.enc (Vector.replicate 16 (0 : UInt8))), raw b3 (Flat.enc (Vector.replicate 16 (0 : UInt8))), raw b1 (Flat.enc p0)]) hl12 ⟨hE.sub ⟨rfl, rfl, rfl, rfl, rfl, rfl, trivial⟩, hM⟩ ?_
  rintro s14 a w ⟨hE, hM⟩ o17 hs15 hx16
  unfold Xu at hs15
  refine wp_seq (Zc (Zd hE Za (dl rfl) rfl ?_)); intro a hE
  refine Zh hE Za (dl rfl) rfl rfl rfl ?_; intro a hE
  refine Zf ?_
  refine Zt hE rfl ?_ ?_
  ·intro hb18
   have hs15 := ZA hs15 hb18
   refine wp_skip (Zx (wp_seq (wp_block (Zc (Zd hE Za (dl rfl) rfl ?_))))); intro a hE
   refine Zd hE Za (dl rfl) rfl ?_; intro a hE
   obtain ⟨x20, e21, hs15⟩ := bind_some hs15
   have hi19 := Zi e21
   refine Zm hE Za (dl rfl) rfl rfl Try.underlying25 ty5 hi19.1 ?_; intro a hE
   refine Zv (v := (vB x20)) hE Za (dl rfl) rfl ty5 rfl (At.vec (hM.rawAt (pre := [_, _, _, _])) hi19.2) ?_; intro a hE
   obtain ⟨x23, e24, hs15⟩ := bind_some hs15
   have hi22 := Zi e24
   refine Zm hE Za (dl rfl) rfl rfl Try.underlying39 ty5 hi22.1 ?_; intro a hE
   have hM := hM.pull (pre := [_])
   refine Zs (seg := [(vB x20)]) (cs' := Flat.enc (s14.2.1.setIfInBounds (s14.2.2).toNat x20)) hE hM Za rfl rfl rfl ty5 rfl (ZT (v := s14.2.1) (x := x20) hi22.1) (Flat.cell (x20 : UInt8)) (ZI (v := s14.2.1) (x := x20) hi22.1) ?_; intro w a hM hE
   refine Zf (wp_region_lit (Zd hE Za (dl rfl) rfl ?_)); intro a hE
   refine Zd hE Za (dl rfl) rfl ?_; intro a hE
   refine Zh hE Za (dl rfl) rfl rfl rfl ?_; intro a hE
   obtain ⟨x26, e27, hs15⟩ := bind_some hs15
   have hi25 := Zi e27
   refine Zm hE Za (dl rfl) rfl rfl Try.underlying25 ty5 hi25.1 ?_; intro a hE
   refine Zv (v := (vB x26)) hE Za (dl rfl) rfl ty5 rfl (At.vec (hM.rawAt (pre := [_, _, _, _])) hi25.2) ?_; intro a hE
   obtain ⟨x29, e30, hs15⟩ := bind_some hs15
   have hi28 := Zi e30
   refine Zm hE Za (dl rfl) rfl rfl Try.underlying39 ty5 hi28.1 ?_; intro a hE
   have hM := hM.pull (pre := [_])
   refine Zs (seg := [(vB x26)]) (cs' := Flat.enc (s14.1.setIfInBounds (s14.2.2).toNat x26)) hE hM Za rfl rfl rfl ty5 rfl (ZT (v := s14.1) (x := x26) hi28.1) (Flat.cell (x26 : UInt8)) (ZI (v := s14.1) (x := x26) hi28.1) ?_; intro w a hM hE
   refine Zj (Yk (Zx (wp_region_lit (Zd hE Za (dl rfl) rfl ?_)))); intro a hE
   refine Zh hE Za (dl rfl) rfl rfl rfl ?_; intro a hE
   refine Ze hE Za (dl rfl) rfl ?_; intro a hE
   refine Zj (Zl ?_)
   exact ⟨_, (Option.some.inj hs15).symm, hE.sub ⟨rfl, rfl, rfl, rfl, rfl, rfl, trivial⟩, hM⟩
  ·intro hb18
   have hs15 := Zz hs15 hb18
   refine wp_exit (Zr (Zr (Yj ?_)))
   have ht31 := hx16 _ (Option.some.inj hs15).symm
   subst ht31
   refine Zl ?_
   have hM := hM.pull (pre := [_, _, _])
   have hM := hM.pull (pre := [_, _, _])
   have hM := hM.pull (pre := [_, _, _])
   have hM := hM.pull (pre := [_, _, _])
   have hM := M.fst (l := [_, _, _, _]) hM
   exact ⟨hE.sub ⟨rfl, rfl, rfl, rfl, trivial⟩, hM⟩
 ·skip
  rintro a w ⟨hE, hM⟩
  refine Zx ?_
  obtain ⟨j32, hl33, hF34⟩ := bind_some hF13
  refine ZS (fun a w => Env 26 a [(2, (ptr b3 0)), (3, (ptr b5 0))] ∧ M (Old w0) w0 w [raw b5 (Flat.enc j32.2), raw b3 (Flat.enc j32.1)]) ?_ ?_
  ·skip
   have hM := hM.pull (pre := [_, _, _])
   refine WA (n := 26) (hd := [_, _, _]) (tl := [_]) YB rfl rfl [24, 25, 28] (by decide) (fun D u w => M (Old w0) w0 w ([raw b9 (Flat.enc j11.1), raw b7 (Flat.enc j11.2), raw b5 (Flat.enc (Vector.replicate 16 (0 : UInt8)))] ++ qL ([mkT 2 (raw b3 (Flat.enc (Vector.replicate 16 (0 : UInt8)))) (raw b3 (Flat.enc j11.2))] : Mk) D u) ∧ GOk ([([], fun us v => v = (Value.agg (Flat.enc j11.2).toArray)), ([], fun us v => v = (Value.agg (Flat.enc j11.1).toArray)), ([], fun us v => True)] : Gs) D u) hE (fun u => ⟨M.qT (M.q0 hM.drew u), gok0⟩) (ZH (Zb ?_ (Zb ?_ (Zb ?_ ZD)))) ?_
   ·intro a w ux35 D hE hI hD hdc hp
    have hM0 := hI.1
    have hM := hI.1
    have hM := hM.togA (pre := [_, _, _]) (Bool.eq_false_iff.2 fun hx => Bool.noConfusion (hD.symm.trans (hdc 2 _ _ rfl (List.mem_of_getElem? (i := 0) rfl) rfl hx)))
    exact Zp (cs := Flat.enc j11.2) hE Za (dl rfl) rfl ZP rfl (hM.rawAt (pre := [_])) (Flat.len _) fun a hE => ⟨_, _, rfl, hE, M.qKeep hM0 rfl, hI.2.put hD rfl ZE rfl⟩
   ·intro a w ux35 D hE hI hD hdc hp
    have hM0 := hI.1
    have hM := hI.1
    exact Zp (cs := Flat.enc j11.1) hE Za (dl rfl) rfl ZP rfl (hM.rawAt (pre := [])) (Flat.len _) fun a hE => ⟨_, _, rfl, hE, M.qKeep hM0 rfl, hI.2.put hD rfl ZE rfl⟩
   ·intro a w ux35 D hE hI hD hdc hp
    have d0 : D 0 = true := hp 0 _ rfl rfl
    have g0 := hI.2 0 d0 _ rfl
    have f0 : ux35 0 = (Value.agg (Flat.enc j11.2).toArray) := g0.2
    have hM0 := hI.1
    have hM := hI.1
    have hM := hM.togA (pre := [_, _, _]) hD
    have hM := hM.pull (pre := [_, _, _])
    refine Zs (seg := Flat.enc j11.2) (cs' := Flat.enc j11.2) hE hM Za rfl (lk rfl f0) rfl ZP (Flat.len _) (zle flq) (Flat.cell _) (Zq flq) ?_; intro w a hM hE
    exact ⟨undef, _, rfl, Env.dummy hE (by decide), M.qTog (mk1 := []) (mk2 := []) hM rfl, hI.2.put hD rfl ZE trivial⟩
   ·intro a w ux35 D hE hI hall
    have hM := hI.1
    have d0 : D 0 = true := hall 0 (by decide)
    have d1 : D 1 = true := hall 1 (by decide)
    have d2 : D 2 = true := hall 2 (by decide)
    have f0 : ux35 0 = (Value.agg (Flat.enc j11.2).toArray) := (hI.2 0 d0 _ rfl).2
    have f1 : ux35 1 = (Value.agg (Flat.enc j11.1).toArray) := (hI.2 1 d1 _ rfl).2
    have hM := hM.togB (pre := [_, _, _]) d2
    have hE := hE.sub (e' := [(25, (Value.agg (Flat.enc j11.1).toArray)), (2, (ptr b3 0)), (3, (ptr b5 0)), (4, (ptr b7 0)), (5, (ptr b9 0))]) ⟨lk rfl f1, rfl, rfl, rfl, rfl, trivial⟩
    have hM := hM.pull (pre := [_, _])
    refine Zs (seg := Flat.enc j11.1) (cs' := Flat.enc j11.1) hE hM Za rfl rfl rfl ZP (Flat.len _) (zle flq) (Flat.cell _) (Zq flq) ?_; intro w a hM hE
    refine Zj ?_
    have ht36 := Option.some.inj hl33
    subst ht36
    refine Zl ?_
    have hM := hM.pull (pre := [_, _, _])
    have hM := hM.pull (pre := [_])
    have hM := M.fst (l := [_, _]) hM
    exact ⟨hE.sub ⟨rfl, rfl, trivial⟩, hM⟩
  ·skip
   rintro a w ⟨hE, hM⟩
   have hr := Option.some.inj hF34
   subst hr
   have hq37 : YR Try.prog _ _ (.cell 2 39) _ := Z6 hE rfl ZP rfl (hM.rawAt (pre := [_])) (Flat.len _) rfl
   have hq38 : YR Try.prog _ _ (.cell 3 39) _ := Z6 hE rfl ZP rfl (hM.rawAt (pre := [])) (Flat.len _) rfl
   have hM := M.fst (l := []) hM
   exact wp_ret (k_ret2 hE rfl hq37 hq38 ⟨_, rfl, rfl, hM.kept⟩)
noncomputable def WL (p1 : (Vector UInt8 16)) (s10 : (Vector UInt8 16) × Int) : Option (Fl ((Vector UInt8 16) × Int) (Vector UInt8 16)) :=
 if (decide (s10.2 < 16)) = true then ((ZM s10.1 s10.2).bind fun x17 => (ZM p1 s10.2).bind fun x20 => (ZM s10.1 s10.2).bind fun x23 => some (Fl.nx ((s10.1.setIfInBounds (s10.2).toNat (x17 ^^^ x20)), wr (s10.2 + 1)))) else (some (Fl.ex s10.1))
noncomputable def YS (p0 : (Vector UInt8 16)) (p1 : (Vector UInt8 16)) : Option ((Vector UInt8 16)) :=
 (ZF (WL p1) (p0, 0) : Option ((Vector UInt8 16))).bind fun j7 => some j7
theorem Vm (w0 : World) (p0 : (Vector UInt8 16)) (p1 : (Vector UInt8 16)) (r : (Vector UInt8 16)) (hF : YS p0 p1 = some r) :
  Calls Try.prog 101 [(Value.agg (Flat.enc p0).toArray), (Value.agg (Flat.enc p1).toArray)].toArray w0 (fun en w' => ∃ v, en = .returned v ∧ (v = (Value.agg (Flat.enc r).toArray) ∧ Kept (Old w0) w0 w')) := by
 refine ZC (n := 20) Try.func101 rfl rfl (Nat.le_of_ble_eq_true rfl) rfl ?_
 intro a hE
 have hM := M.start w0
 unfold YS at hF
 refine Zc (Z4 (cs := Flat.enc p0) hE hM Za (dl rfl) rfl rfl ?_); intro b1 w a hM hE
 refine Z4 (cs := Flat.enc p1) hE hM Za (dl rfl) rfl rfl ?_; intro b3 w a hM hE
 refine ZO hE hM Za (dl rfl) ZP ?_; intro b5 w a hM hE
 refine Zf (wp_seq (Zc (Ze hE Za (dl rfl) rfl ?_))); intro a hE
 refine Zf ?_
 obtain ⟨j7, hl8, hF9⟩ := bind_some hF
 refine ZV (fun a w => Env 20 a [(2, (ptr b1 0)), (4, (ptr b5 0))] ∧ M (Old w0) w0 w [raw b5 (Flat.enc (Vector.replicate 16 (0 : UInt8))), raw b1 (Flat.enc j7)]) ?_ ?_
 ·skip
  refine wp_block ?_
  refine ZN (fun (s10 : (Vector UInt8 16) × Int) a w => Env 20 a [(2, (ptr b1 0)), (3, (ptr b3 0)), (4, (ptr b5 0)), (5, (vI s10.2))] ∧ M (Old w0) w0 w [raw b5 (Flat.enc (Vector.replicate 16 (0 : UInt8))), raw b3 (Flat.enc p1), raw b1 (Flat.enc s10.1)]) hl8 ⟨hE.sub ⟨rfl, rfl, rfl, rfl, trivial⟩, hM⟩ ?_
  rintro s10 a w ⟨hE, hM⟩ o13 hs11 hx12
  unfold WL at hs11
  refine wp_seq (Zc (Zd hE Za (dl rfl) rfl ?_)); intro a hE
  refine Zh hE Za (dl rfl) rfl rfl rfl ?_; intro a hE
  refine Zf ?_
  refine Zt hE rfl ?_ ?_
  ·intro hb14
   have hs11 := ZA hs11 hb14
   refine wp_skip (Zx (wp_seq (wp_block ?_)))
   obtain ⟨x17, e18, hs11⟩ := bind_some hs11
   have hi16 := Zi e18
   obtain ⟨x20, e21, hs11⟩ := bind_some hs11
   have hi19 := Zi e21
   obtain ⟨x23, e24, hs11⟩ := bind_some hs11
   have hi22 := Zi e24
   refine Yd (n := 20) (hd := [_, _, _, _, _, _, _, _, _]) (tl := [_]) YB rfl rfl [10, 11, 12, 13, 14, 15, 16, 17, 18] (by decide) (fun w => M (Old w0) w0 w [raw b5 (Flat.enc (Vector.replicate 16 (0 : UInt8))), raw b3 (Flat.enc p1), raw b1 (Flat.enc s10.1)]) (fun j => ([fun v _ => v = (vI s10.2), fun v _ => v = (vI s10.2), fun v _ => v = (ptr b1 (0 + (s10.2).toNat * 1)), fun v _ => v = (vB x17), fun v _ => v = (vI s10.2), fun v _ => v = (ptr b3 (0 + (s10.2).toNat * 1)), fun v _ => v = (vB x20), fun v _ => v = (vB (x17 ^^^ x20)), fun v _ => v = (ptr b1 (0 + (s10.2).toNat * 1))] : List (Value → World → Prop)).getD j (fun _ _ => True)) (fun _ _ h hk => h.keep hk) (gup (Zg (Zg (Zg (Zg (Zg (Zg (Zg (Zg (Zg Wu)))))))))) hE hM.drew (ZH (Zb ?_ (Zb ?_ (Zb ?_ (Zb ?_ (Zb ?_ (Zb ?_ (Zb ?_ (Zb ?_ (Zb ?_ ZD)))))))))) ?_
   ·exact fun a w ux15 hE hM hp => Zd hE Za (dl rfl) rfl fun a hE => ⟨Kept.refl _ _, _, _, rfl, hE, rfl⟩
   ·exact fun a w ux15 hE hM hp => Zd hE Za (dl rfl) rfl fun a hE => ⟨Kept.refl _ _, _, _, rfl, hE, rfl⟩
   ·intro a w ux15 hE hM hp
    have f1 : ux15 1 = (vI s10.2) := hp 0 _ rfl rfl
    exact Zm hE Za (dl rfl) rfl (lk rfl f1) Try.underlying39 ty5 hi16.1 fun a hE => ⟨Kept.refl _ _, _, _, rfl, hE, rfl⟩
   ·intro a w ux15 hE hM hp
    have f2 : ux15 2 = (ptr b1 (0 + (s10.2).toNat * 1)) := hp 0 _ rfl rfl
    exact Zv (v := (vB x17)) hE Za (dl rfl) (lk rfl f2) ty5 rfl (At.vec (hM.rawAt (pre := [_, _])) hi16.2) fun a hE => ⟨Kept.refl _ _, _, _, rfl, hE, rfl⟩
   ·exact fun a w ux15 hE hM hp => Zd hE Za (dl rfl) rfl fun a hE => ⟨Kept.refl _ _, _, _, rfl, hE, rfl⟩
   ·intro a w ux15 hE hM hp
    have f4 : ux15 4 = (vI s10.2) := hp 0 _ rfl rfl
    exact Zm hE Za (dl rfl) rfl (lk rfl f4) Try.underlying39 ty5 hi19.1 fun a hE => ⟨Kept.refl _ _, _, _, rfl, hE, rfl⟩
   ·intro a w ux15 hE hM hp
    have f5 : ux15 5 = (ptr b3 (0 + (s10.2).toNat * 1)) := hp 0 _ rfl rfl
    exact Zv (v := (vB x20)) hE Za (dl rfl) (lk rfl f5) ty5 rfl (At.vec (hM.rawAt (pre := [_])) hi19.2) fun a hE => ⟨Kept.refl _ _, _, _, rfl, hE, rfl⟩
   ·intro a w ux15 hE hM hp
    have f3 : ux15 3 = (vB x17) := hp 0 _ rfl rfl
    have f6 : ux15 6 = (vB x20) := hp 1 _ rfl rfl
    exact Zh hE Za (dl rfl) (lk rfl f3) (lk rfl f6) (Vo x17 x20) fun a hE => ⟨Kept.refl _ _, _, _, rfl, hE, rfl⟩
   ·intro a w ux15 hE hM hp
    have f0 : ux15 0 = (vI s10.2) := hp 0 _ rfl rfl
    exact Zm hE Za (dl rfl) rfl (lk rfl f0) Try.underlying39 ty5 hi22.1 fun a hE => ⟨Kept.refl _ _, _, _, rfl, hE, rfl⟩
   ·intro a w ux15 hE hM hg
    have hE := hE.sub (e' := [(17, (vB (x17 ^^^ x20))), (18, (ptr b1 (0 + (s10.2).toNat * 1))), (2, (ptr b1 0)), (3, (ptr b3 0)), (4, (ptr b5 0)), (5, (vI s10.2)), (6, (vI s10.2)), (7, (vT (decide (s10.2 < 16))))]) ⟨lk rfl (hg 7 (by decide)), lk rfl (hg 8 (by decide)), rfl, rfl, rfl, rfl, rfl, rfl, trivial⟩
    have hM := hM.pull (pre := [_, _])
    refine Zs (seg := [(vB (x17 ^^^ x20))]) (cs' := Flat.enc (s10.1.setIfInBounds (s10.2).toNat (x17 ^^^ x20))) hE hM Za rfl rfl rfl ty5 rfl (ZT (v := s10.1) (x := x17 ^^^ x20) hi22.1) (Flat.cell (x17 ^^^ x20 : UInt8)) (ZI (v := s10.1) (x := x17 ^^^ x20) hi22.1) ?_; intro w a hM hE
    refine Zj (Yk (Zx (wp_region_lit (Zd hE Za (dl rfl) rfl ?_)))); intro a hE
    refine Zh hE Za (dl rfl) rfl rfl rfl ?_; intro a hE
    refine Ze hE Za (dl rfl) rfl ?_; intro a hE
    refine Zj (Zl ?_)
    have hM := hM.pull (pre := [_, _])
    have hM := hM.pull (pre := [_, _])
    exact ⟨_, (Option.some.inj hs11).symm, hE.sub ⟨rfl, rfl, rfl, rfl, trivial⟩, hM⟩
  ·intro hb14
   have hs11 := Zz hs11 hb14
   refine wp_exit (Zr (Zr (Yj ?_)))
   have ht25 := hx12 _ (Option.some.inj hs11).symm
   subst ht25
   refine Zl ?_
   have hM := hM.pull (pre := [_, _])
   have hM := hM.pull (pre := [_])
   have hM := M.fst (l := [_, _]) hM
   exact ⟨hE.sub ⟨rfl, rfl, trivial⟩, hM⟩
 ·skip
  rintro a w ⟨hE, hM⟩
  refine Zx (Zc (Zp (cs := Flat.enc j7) hE Za (dl rfl) rfl ZP rfl (hM.rawAt (pre := [_])) (Flat.len _) ?_)); intro a hE
  refine Zs (seg := Flat.enc j7) (cs' := Flat.enc j7) hE hM Za rfl rfl rfl ZP (Flat.len _) (zle flq) (Flat.cell _) (Zq flq) ?_; intro w a hM hE
  refine Zf ?_
  have hr := Option.some.inj hF9
  subst hr
  have hq26 : YR Try.prog _ _ (.cell 4 39) _ := Z6 hE rfl ZP rfl (hM.rawAt (pre := [])) (Flat.len _) rfl
  have hM := M.fst (l := []) hM
  exact wp_ret (Zy hE rfl hq26 ⟨_, rfl, rfl, hM.kept⟩)
noncomputable def Wg (p0 : (Vector UInt8 256)) (p2 : Int) (s10 : (Vector UInt8 16) × Int) : Option (Fl ((Vector UInt8 16) × Int) (Vector UInt8 16)) :=
 if (decide (s10.2 < 16)) = true then (((ZM s10.1 (Int.tmod (wr (s10.2 + 15)) 16)).bind fun x19 => (if (s10.2 == 0) = true then (some (x19 ^^^ (ZG p2))) else (some x19) : Option (UInt8)).bind fun j21 => (ZM s10.1 s10.2).bind fun x29 => (ZM p0 (bI j21)).bind fun x32 => (ZM s10.1 s10.2).bind fun x35 => some (s10.1.setIfInBounds (s10.2).toNat (x29 ^^^ x32)) : Option ((Vector UInt8 16))).bind fun j15 => some (Fl.nx (j15, wr (s10.2 + 1)))) else (some (Fl.ex s10.1))
noncomputable def VA (p0 : (Vector UInt8 256)) (p1 : (Vector UInt8 16)) (p2 : Int) : Option ((Vector UInt8 16)) :=
 (ZF (Wg p0 p2) (p1, 0) : Option ((Vector UInt8 16))).bind fun j7 => some j7
theorem c_spec_l04Next (w0 : World) (p0 : (Vector UInt8 256)) (p1 : (Vector UInt8 16)) (p2 : Int) (r : (Vector UInt8 16)) (hF : VA p0 p1 p2 = some r) :
  Calls Try.prog 131 [(Value.agg (Flat.enc p0).toArray), (Value.agg (Flat.enc p1).toArray), (vI p2)].toArray w0 (fun en w' => ∃ v, en = .returned v ∧ (v = (Value.agg (Flat.enc r).toArray) ∧ Kept (Old w0) w0 w')) := by
 refine ZC (n := 34) Try.func131 rfl rfl (Nat.le_of_ble_eq_true rfl) rfl ?_
 intro a hE
 have hM := M.start w0
 unfold VA at hF
 refine Zc (Z4 (cs := Flat.enc p0) hE hM Za (dl rfl) rfl rfl ?_); intro b1 w a hM hE
 refine Z4 (cs := Flat.enc p1) hE hM Za (dl rfl) rfl rfl ?_; intro b3 w a hM hE
 refine ZO hE hM Za (dl rfl) ZP ?_; intro b5 w a hM hE
 refine Zf (wp_seq (Zc (Ze hE Za (dl rfl) rfl ?_))); intro a hE
 refine Zf ?_
 obtain ⟨j7, hl8, hF9⟩ := bind_some hF
 refine ZV (fun a w => Env 34 a [(4, (ptr b3 0)), (6, (ptr b5 0))] ∧ M (Old w0) w0 w [raw b5 (Flat.enc (Vector.replicate 16 (0 : UInt8))), raw b3 (Flat.enc j7)]) ?_ ?_
 ·skip
  refine wp_block ?_
  refine ZN (fun (s10 : (Vector UInt8 16) × Int) a w => Env 34 a [(2, (vI p2)), (3, (ptr b1 0)), (4, (ptr b3 0)), (6, (ptr b5 0)), (7, (vI s10.2))] ∧ M (Old w0) w0 w [raw b5 (Flat.enc (Vector.replicate 16 (0 : UInt8))), raw b3 (Flat.enc s10.1), raw b1 (Flat.enc p0)]) hl8 ⟨hE.sub ⟨rfl, rfl, rfl, rfl, rfl, trivial⟩, hM⟩ ?_
  rintro s10 a w ⟨hE, hM⟩ o13 hs11 hx12
  unfold Wg at hs11
  refine wp_seq (Zc (Zd hE Za (dl rfl) rfl ?_)); intro a hE
  refine Zh hE Za (dl rfl) rfl rfl rfl ?_; intro a hE
  refine Zf ?_
  refine Zt hE rfl ?_ ?_
  ·intro hb14
   have hs11 := ZA hs11 hb14
   refine wp_skip (Zx ?_)
   obtain ⟨j15, hl16, hF17⟩ := bind_some hs11
   refine ZS (fun a w => Env 34 a [(2, (vI p2)), (3, (ptr b1 0)), (4, (ptr b3 0)), (6, (ptr b5 0)), (7, (vI s10.2))] ∧ M (Old w0) w0 w [raw b5 (Flat.enc (Vector.replicate 16 (0 : UInt8))), raw b3 (Flat.enc j15), raw b1 (Flat.enc p0)]) ?_ ?_
   ·skip
    refine wp_block (Zc (Zd hE Za (dl rfl) rfl ?_)); intro a hE
    refine Zh hE Za (dl rfl) rfl rfl rfl ?_; intro a hE
    refine Zh hE Za (dl rfl) rfl rfl (bI_rem _ _ (by decide)) ?_; intro a hE
    obtain ⟨x19, e20, hl16⟩ := bind_some hl16
    have hi18 := Zi e20
    refine Zm hE Za (dl rfl) rfl rfl Try.underlying39 ty5 hi18.1 ?_; intro a hE
    refine Zv (v := (vB x19)) hE Za (dl rfl) rfl ty5 rfl (At.vec (hM.rawAt (pre := [_])) hi18.2) ?_; intro a hE
    refine Ze hE Za (dl rfl) rfl ?_; intro a hE
    refine Zf ?_
    obtain ⟨j21, hl22, hF23⟩ := bind_some hl16
    refine ZS (fun a w => Env 34 a [(2, (vI p2)), (3, (ptr b1 0)), (4, (ptr b3 0)), (6, (ptr b5 0)), (7, (vI s10.2)), (8, (vB j21))] ∧ M (Old w0) w0 w [raw b5 (Flat.enc (Vector.replicate 16 (0 : UInt8))), raw b3 (Flat.enc s10.1), raw b1 (Flat.enc p0)]) ?_ ?_
    ·skip
     refine Zc (Zd hE Za (dl rfl) rfl ?_); intro a hE
     refine Zh hE Za (dl rfl) rfl rfl rfl ?_; intro a hE
     refine Zf ?_
     refine Zt hE rfl ?_ ?_
     ·intro hb24
      have hl22 := ZA hl22 hb24
      refine wp_region_lit (Zd hE Za (dl rfl) rfl ?_); intro a hE
      refine Zd hE Za (dl rfl) rfl ?_; intro a hE
      refine YK hE Za (dl rfl) rfl Try.underlying2 Try.underlying5 ?_; intro a hE
      rw [Yf] at hE
      refine Zh hE Za (dl rfl) rfl rfl (Vo x19 (ZG p2)) ?_; intro a hE
      refine Ze hE Za (dl rfl) rfl ?_; intro a hE
      refine Zj ?_
      have ht25 := Option.some.inj hl22
      subst ht25
      refine Zl ?_
      exact ⟨hE.sub ⟨rfl, rfl, rfl, rfl, rfl, rfl, trivial⟩, hM⟩
     ·intro hb24
      have hl22 := Zz hl22 hb24
      refine wp_skip ?_
      have ht26 := Option.some.inj hl22
      subst ht26
      refine Zl ?_
      exact ⟨hE.sub ⟨rfl, rfl, rfl, rfl, rfl, rfl, trivial⟩, hM⟩
    ·skip
     rintro a w ⟨hE, hM⟩
     obtain ⟨x29, e30, hF23⟩ := bind_some hF23
     have hi28 := Zi e30
     obtain ⟨x32, e33, hF23⟩ := bind_some hF23
     have hi31 := Zi e33
     obtain ⟨x35, e36, hF23⟩ := bind_some hF23
     have hi34 := Zi e36
     refine Yd (n := 34) (hd := [_, _, _, _, _, _, _, _, _]) (tl := [_]) YB rfl rfl [24, 25, 26, 27, 28, 29, 30, 31, 32] (by decide) (fun w => M (Old w0) w0 w [raw b5 (Flat.enc (Vector.replicate 16 (0 : UInt8))), raw b3 (Flat.enc s10.1), raw b1 (Flat.enc p0)]) (fun j => ([fun v _ => v = (vI s10.2), fun v _ => v = (vI s10.2), fun v _ => v = (ptr b3 (0 + (s10.2).toNat * 1)), fun v _ => v = (vB x29), fun v _ => v = (vB j21), fun v _ => v = (ptr b1 (0 + ((bI j21)).toNat * 1)), fun v _ => v = (vB x32), fun v _ => v = (vB (x29 ^^^ x32)), fun v _ => v = (ptr b3 (0 + (s10.2).toNat * 1))] : List (Value → World → Prop)).getD j (fun _ _ => True)) (fun _ _ h hk => h.keep hk) (gup (Zg (Zg (Zg (Zg (Zg (Zg (Zg (Zg (Zg Wu)))))))))) hE hM.drew (ZH (Zb ?_ (Zb ?_ (Zb ?_ (Zb ?_ (Zb ?_ (Zb ?_ (Zb ?_ (Zb ?_ (Zb ?_ ZD)))))))))) ?_
     ·exact fun a w ux27 hE hM hp => Zd hE Za (dl rfl) rfl fun a hE => ⟨Kept.refl _ _, _, _, rfl, hE, rfl⟩
     ·exact fun a w ux27 hE hM hp => Zd hE Za (dl rfl) rfl fun a hE => ⟨Kept.refl _ _, _, _, rfl, hE, rfl⟩
     ·intro a w ux27 hE hM hp
      have f1 : ux27 1 = (vI s10.2) := hp 0 _ rfl rfl
      exact Zm hE Za (dl rfl) rfl (lk rfl f1) Try.underlying39 ty5 hi28.1 fun a hE => ⟨Kept.refl _ _, _, _, rfl, hE, rfl⟩
     ·intro a w ux27 hE hM hp
      have f2 : ux27 2 = (ptr b3 (0 + (s10.2).toNat * 1)) := hp 0 _ rfl rfl
      exact Zv (v := (vB x29)) hE Za (dl rfl) (lk rfl f2) ty5 rfl (At.vec (hM.rawAt (pre := [_])) hi28.2) fun a hE => ⟨Kept.refl _ _, _, _, rfl, hE, rfl⟩
     ·exact fun a w ux27 hE hM hp => Zd hE Za (dl rfl) rfl fun a hE => ⟨Kept.refl _ _, _, _, rfl, hE, rfl⟩
     ·intro a w ux27 hE hM hp
      have f4 : ux27 4 = (vB j21) := hp 0 _ rfl rfl
      exact Zm hE Za (dl rfl) rfl (lk rfl f4) Try.underlying97 ty5 hi31.1 fun a hE => ⟨Kept.refl _ _, _, _, rfl, hE, rfl⟩
     ·intro a w ux27 hE hM hp
      have f5 : ux27 5 = (ptr b1 (0 + ((bI j21)).toNat * 1)) := hp 0 _ rfl rfl
      exact Zv (v := (vB x32)) hE Za (dl rfl) (lk rfl f5) ty5 rfl (At.vec (hM.rawAt (pre := [_, _])) hi31.2) fun a hE => ⟨Kept.refl _ _, _, _, rfl, hE, rfl⟩
     ·intro a w ux27 hE hM hp
      have f3 : ux27 3 = (vB x29) := hp 0 _ rfl rfl
      have f6 : ux27 6 = (vB x32) := hp 1 _ rfl rfl
      exact Zh hE Za (dl rfl) (lk rfl f3) (lk rfl f6) (Vo x29 x32) fun a hE => ⟨Kept.refl _ _, _, _, rfl, hE, rfl⟩
     ·intro a w ux27 hE hM hp
      have f0 : ux27 0 = (vI s10.2) := hp 0 _ rfl rfl
      exact Zm hE Za (dl rfl) rfl (lk rfl f0) Try.underlying39 ty5 hi34.1 fun a hE => ⟨Kept.refl _ _, _, _, rfl, hE, rfl⟩
     ·intro a w ux27 hE hM hg
      have hE := hE.sub (e' := [(31, (vB (x29 ^^^ x32))), (32, (ptr b3 (0 + (s10.2).toNat * 1))), (2, (vI p2)), (3, (ptr b1 0)), (4, (ptr b3 0)), (6, (ptr b5 0)), (7, (vI s10.2)), (8, (vB j21))]) ⟨lk rfl (hg 7 (by decide)), lk rfl (hg 8 (by decide)), rfl, rfl, rfl, rfl, rfl, rfl, trivial⟩
      have hM := hM.pull (pre := [_])
      refine Zs (seg := [(vB (x29 ^^^ x32))]) (cs' := Flat.enc (s10.1.setIfInBounds (s10.2).toNat (x29 ^^^ x32))) hE hM Za rfl rfl rfl ty5 rfl (ZT (v := s10.1) (x := x29 ^^^ x32) hi34.1) (Flat.cell (x29 ^^^ x32 : UInt8)) (ZI (v := s10.1) (x := x29 ^^^ x32) hi34.1) ?_; intro w a hM hE
      refine Zj (Yk ?_)
      have ht37 := Option.some.inj hF23
      subst ht37
      refine Zl ?_
      have hM := hM.pull (pre := [_, _])
      have hM := hM.pull (pre := [_])
      have hM := hM.pull (pre := [_, _])
      exact ⟨hE.sub ⟨rfl, rfl, rfl, rfl, rfl, trivial⟩, hM⟩
   ·skip
    rintro a w ⟨hE, hM⟩
    refine wp_region_lit (Zd hE Za (dl rfl) rfl ?_); intro a hE
    refine Zh hE Za (dl rfl) rfl rfl rfl ?_; intro a hE
    refine Ze hE Za (dl rfl) rfl ?_; intro a hE
    refine Zj (Zl ?_)
    exact ⟨_, (Option.some.inj hF17).symm, hE.sub ⟨rfl, rfl, rfl, rfl, rfl, trivial⟩, hM⟩
  ·intro hb14
   have hs11 := Zz hs11 hb14
   refine wp_exit (Zr (Zr (Yj ?_)))
   have ht38 := hx12 _ (Option.some.inj hs11).symm
   subst ht38
   refine Zl ?_
   have hM := hM.pull (pre := [_])
   have hM := hM.pull (pre := [_])
   have hM := M.fst (l := [_, _]) hM
   exact ⟨hE.sub ⟨rfl, rfl, trivial⟩, hM⟩
 ·skip
  rintro a w ⟨hE, hM⟩
  refine Zx (Zc (Zp (cs := Flat.enc j7) hE Za (dl rfl) rfl ZP rfl (hM.rawAt (pre := [_])) (Flat.len _) ?_)); intro a hE
  refine Zs (seg := Flat.enc j7) (cs' := Flat.enc j7) hE hM Za rfl rfl rfl ZP (Flat.len _) (zle flq) (Flat.cell _) (Zq flq) ?_; intro w a hM hE
  refine Zf ?_
  have hr := Option.some.inj hF9
  subst hr
  have hq39 : YR Try.prog _ _ (.cell 6 39) _ := Z6 hE rfl ZP rfl (hM.rawAt (pre := [])) (Flat.len _) rfl
  have hM := M.fst (l := []) hM
  exact wp_ret (Zy hE rfl hq39 ⟨_, rfl, rfl, hM.kept⟩)
noncomputable def Wf (p0 : GCipher) (p2 : Int) (s12 : (Vector UInt8 16) × (List (Vector UInt8 16)) × Int) : Option (Fl ((Vector UInt8 16) × (List (Vector UInt8 16)) × Int) (List (Vector UInt8 16))) :=
 if (decide (s12.2.2 ≤ p2)) = true then ((VA p0.Box s12.1 s12.2.2).bind fun r19 => (app 16 s12.2.1 ([r19] : List (Vector UInt8 16))).bind fun l23 => some (Fl.nx (r19, (s12.2.1 ++ ([r19] : List (Vector UInt8 16))), wr (s12.2.2 + 1)))) else (some (Fl.ex s12.2.1))
noncomputable def VC (p0 : GCipher) (p1 : (Vector UInt8 16)) (p2 : Int) : Option ((List (Vector UInt8 16))) :=
 (ZF (Wf p0 p2) (p1, ([p1] : List (Vector UInt8 16)), 1) : Option ((List (Vector UInt8 16)))).bind fun j7 => some j7
theorem c_spec_l04Keys (w0 : World) (p0 : GCipher) (p1 : (Vector UInt8 16)) (p2 : Int) (r : (List (Vector UInt8 16))) (hF : VC p0 p1 p2 = some r) :
  Calls Try.prog 119 [(Value.agg (Flat.enc p0).toArray), (Value.agg (Flat.enc p1).toArray), (vI p2)].toArray w0 (fun en w' => ∃ v, en = .returned v ∧ (∃ (y1 : Value), v = y1 ∧ Fr w0 w' [osl NoB (r : List (Vector UInt8 16)) y1] ∧ Kept (Old w0) w0 w')) := by
 refine ZC (n := 26) Try.func119 rfl rfl (Nat.le_of_ble_eq_true rfl) rfl ?_
 intro a hE
 have hM := M.start w0
 unfold VC at hF
 refine Zc (Z4 (cs := cat [[(vI p0.Field)], Flat.enc p0.Box, Flat.enc p0.Mix, Flat.enc p0.Places, [(vI p0.Rounds)]]) hE hM Za (dl rfl) rfl rfl ?_); intro b1 w a hM hE
 refine Z4 (cs := Flat.enc p1) hE hM Za (dl rfl) rfl rfl ?_; intro b3 w a hM hE
 refine Ze hE Za (dl rfl) rfl ?_; intro a hE
 refine Zf (Zc (Zp (cs := Flat.enc p1) hE Za (dl rfl) rfl ZP rfl (hM.rawAt (pre := [])) (Flat.len _) ?_)); intro a hE
 refine Y7 (xs := [.tmp 9]) (l := ([p1] : List (Vector UInt8 16))) (vs := [(Value.agg (Flat.enc p1).toArray)]) hE hM Za (dl rfl) rfl rfl Try.underlying34 ZP rfl (by decide) rfl ?_; intro u5 w a hM hE
 refine Ze hE Za (dl rfl) rfl ?_; intro a hE
 refine Zf (wp_seq (Zc (Ze hE Za (dl rfl) rfl ?_))); intro a hE
 refine Zf ?_
 obtain ⟨j7, hl8, hF9⟩ := bind_some hF
 refine ZV (fun a w => ∃ (u10 : Value), Env 26 a [(7, u10)] ∧ M (Old w0) w0 w [osl NoB (j7 : List (Vector UInt8 16)) u10]) ?_ ?_
 ·skip
  refine wp_block ?_
  have hM := hM.pull (pre := [_, _])
  have hM := hM.pull (pre := [_, _])
  refine ZN (fun (s12 : (Vector UInt8 16) × (List (Vector UInt8 16)) × Int) a w => ∃ (u13 : Value), Env 26 a [(2, (vI p2)), (3, (ptr b1 0)), (4, (ptr b3 0)), (7, u13), (8, (vI s12.2.2))] ∧ M (Old w0) w0 w [raw b3 (Flat.enc s12.1), raw b1 (cat [[(vI p0.Field)], Flat.enc p0.Box, Flat.enc p0.Mix, Flat.enc p0.Places, [(vI p0.Rounds)]]), osl NoB (s12.2.1 : List (Vector UInt8 16)) u13]) hl8 ⟨u5, hE.sub ⟨rfl, rfl, rfl, rfl, rfl, trivial⟩, hM⟩ ?_
  rintro s12 a w ⟨u13, hE, hM⟩ o17 hs15 hx16
  unfold Wf at hs15
  refine wp_seq (Zc (Zd hE Za (dl rfl) rfl ?_)); intro a hE
  refine Zd hE Za (dl rfl) rfl ?_; intro a hE
  refine Zh hE Za (dl rfl) rfl rfl rfl ?_; intro a hE
  refine Zf ?_
  refine Zt hE rfl ?_ ?_
  ·intro hb18
   have hs15 := ZA hs15 hb18
   refine wp_skip (Zx (wp_seq (wp_block (Zc (Zo hE Za (dl rfl) rfl (fd103_1) ?_))))); intro a hE
   refine Zp (cs := Flat.enc p0.Box) hE Za (dl rfl) rfl Vn rfl (At.cat (pre := [[(vI p0.Field)]]) (hM.rawAt (pre := [_])) (cl1 (n := 1) (m := 0) rfl cl0)) (Flat.len _) ?_; intro a hE
   refine Zp (cs := Flat.enc s12.1) hE Za (dl rfl) rfl ZP rfl (hM.rawAt (pre := [])) (Flat.len _) ?_; intro a hE
   refine Zd hE Za (dl rfl) rfl ?_; intro a hE
   obtain ⟨r19, e20, hs15⟩ := bind_some hs15
   refine Zw (vs := [(Value.agg (Flat.enc p0.Box).toArray), (Value.agg (Flat.enc s12.1).toArray), (vI s12.2.2)]) hE Za (dl rfl) rfl cb131 (c_spec_l04Next _ p0.Box s12.1 s12.2.2 r19 e20) ?_
   rintro v w a ⟨rfl, hK⟩ hE
   have hM := hM.keep hK
   refine Zs (seg := Flat.enc r19) (cs' := Flat.enc r19) hE hM Za rfl rfl rfl ZP (Flat.len _) (zle flq) (Flat.cell _) (Zq flq) ?_; intro w a hM hE
   refine Zf (wp_region_lit (Zd hE Za (dl rfl) rfl ?_)); intro a hE
   refine Zp (cs := Flat.enc r19) hE Za (dl rfl) rfl ZP rfl (hM.rawAt (pre := [])) (Flat.len _) ?_; intro a hE
   refine Y7 (xs := [.tmp 22]) (l := ([r19] : List (Vector UInt8 16))) (vs := [(Value.agg (Flat.enc r19).toArray)]) hE hM Za (dl rfl) rfl rfl Try.underlying34 ZP rfl (by decide) rfl ?_; intro u21 w a hM hE
   obtain ⟨l23, e24, hs15⟩ := bind_some hs15
   obtain ⟨e27, rfl⟩ := Wq e24
   have hM := hM.pull (pre := [_, _, _])
   refine XA hE hM Za (dl rfl) rfl rfl (hM.sl (pre := [_]) noB) Try.underlying34 ZP rfl (by decide) e27 ?_; intro u25 w a hM hE
   refine Ze hE Za (dl rfl) rfl ?_; intro a hE
   refine Zj (Yk (Zx (wp_region_lit (Zd hE Za (dl rfl) rfl ?_)))); intro a hE
   refine Zh hE Za (dl rfl) rfl rfl rfl ?_; intro a hE
   refine Ze hE Za (dl rfl) rfl ?_; intro a hE
   refine Zj (Zl ?_)
   have hM := hM.pull (pre := [_, _, _])
   have hM := hM.pull (pre := [_, _, _])
   have hM := M.fst (l := [_, _, _]) hM
   exact ⟨_, (Option.some.inj hs15).symm, u25, hE.sub ⟨rfl, rfl, rfl, rfl, rfl, trivial⟩, hM⟩
  ·intro hb18
   have hs15 := Zz hs15 hb18
   refine wp_exit (Zr (Zr (Yj ?_)))
   have ht28 := hx16 _ (Option.some.inj hs15).symm
   subst ht28
   refine Zl ?_
   have hM := hM.pull (pre := [_, _])
   have hM := M.fst (l := [_]) hM
   exact ⟨u13, hE.sub ⟨rfl, trivial⟩, hM⟩
 ·skip
  rintro a w ⟨u10, hE, hM⟩
  refine Zx (Zc (Zd hE Za (dl rfl) rfl ?_)); intro a hE
  refine Ze hE Za (dl rfl) rfl ?_; intro a hE
  refine Zf ?_
  have hr := Option.some.inj hF9
  subst hr
  exact wp_ret (Zy hE rfl (Zu hE rfl) ⟨_, rfl, u10, rfl, hM.outF (Vq WY), hM.kept⟩)
noncomputable def XZ (p0 : (Vector UInt8 256)) (s10 : (Vector UInt8 16) × Int) : Option (Fl ((Vector UInt8 16) × Int) (Vector UInt8 16)) :=
 if (decide (s10.2 < 16)) = true then ((ZM s10.1 s10.2).bind fun x16 => (ZM p0 (bI x16)).bind fun x19 => (ZM s10.1 s10.2).bind fun x22 => some (Fl.nx ((s10.1.setIfInBounds (s10.2).toNat x19), wr (s10.2 + 1)))) else (some (Fl.ex s10.1))
noncomputable def W8 (p0 : (Vector UInt8 256)) (p1 : (Vector UInt8 16)) : Option ((Vector UInt8 16)) :=
 (ZF (XZ p0) (p1, 0) : Option ((Vector UInt8 16))).bind fun j7 => some j7
theorem c_spec_l04Boxes (w0 : World) (p0 : (Vector UInt8 256)) (p1 : (Vector UInt8 16)) (r : (Vector UInt8 16)) (hF : W8 p0 p1 = some r) :
  Calls Try.prog 121 [(Value.agg (Flat.enc p0).toArray), (Value.agg (Flat.enc p1).toArray)].toArray w0 (fun en w' => ∃ v, en = .returned v ∧ (v = (Value.agg (Flat.enc r).toArray) ∧ Kept (Old w0) w0 w')) := by
 refine ZC (n := 18) Try.func121 rfl rfl (Nat.le_of_ble_eq_true rfl) rfl ?_
 intro a hE
 have hM := M.start w0
 unfold W8 at hF
 refine Zc (Z4 (cs := Flat.enc p0) hE hM Za (dl rfl) rfl rfl ?_); intro b1 w a hM hE
 refine Z4 (cs := Flat.enc p1) hE hM Za (dl rfl) rfl rfl ?_; intro b3 w a hM hE
 refine ZO hE hM Za (dl rfl) ZP ?_; intro b5 w a hM hE
 refine Zf (wp_seq (Zc (Ze hE Za (dl rfl) rfl ?_))); intro a hE
 refine Zf ?_
 obtain ⟨j7, hl8, hF9⟩ := bind_some hF
 refine ZV (fun a w => Env 18 a [(3, (ptr b3 0)), (4, (ptr b5 0))] ∧ M (Old w0) w0 w [raw b5 (Flat.enc (Vector.replicate 16 (0 : UInt8))), raw b3 (Flat.enc j7)]) ?_ ?_
 ·skip
  refine wp_block ?_
  refine ZN (fun (s10 : (Vector UInt8 16) × Int) a w => Env 18 a [(2, (ptr b1 0)), (3, (ptr b3 0)), (4, (ptr b5 0)), (5, (vI s10.2))] ∧ M (Old w0) w0 w [raw b5 (Flat.enc (Vector.replicate 16 (0 : UInt8))), raw b3 (Flat.enc s10.1), raw b1 (Flat.enc p0)]) hl8 ⟨hE.sub ⟨rfl, rfl, rfl, rfl, trivial⟩, hM⟩ ?_
  rintro s10 a w ⟨hE, hM⟩ o13 hs11 hx12
  unfold XZ at hs11
  refine wp_seq (Zc (Zd hE Za (dl rfl) rfl ?_)); intro a hE
  refine Zh hE Za (dl rfl) rfl rfl rfl ?_; intro a hE
  refine Zf ?_
  refine Zt hE rfl ?_ ?_
  ·intro hb14
   have hs11 := ZA hs11 hb14
   refine wp_skip (Zx (wp_seq (wp_block (wp_region_lit (Zd hE Za (dl rfl) rfl ?_))))); intro a hE
   refine Zd hE Za (dl rfl) rfl ?_; intro a hE
   obtain ⟨x16, e17, hs11⟩ := bind_some hs11
   have hi15 := Zi e17
   refine Zm hE Za (dl rfl) rfl rfl Try.underlying39 ty5 hi15.1 ?_; intro a hE
   refine Zv (v := (vB x16)) hE Za (dl rfl) rfl ty5 rfl (At.vec (hM.rawAt (pre := [_])) hi15.2) ?_; intro a hE
   obtain ⟨x19, e20, hs11⟩ := bind_some hs11
   have hi18 := Zi e20
   refine Zm hE Za (dl rfl) rfl rfl Try.underlying97 ty5 hi18.1 ?_; intro a hE
   refine Zv (v := (vB x19)) hE Za (dl rfl) rfl ty5 rfl (At.vec (hM.rawAt (pre := [_, _])) hi18.2) ?_; intro a hE
   obtain ⟨x22, e23, hs11⟩ := bind_some hs11
   have hi21 := Zi e23
   refine Zm hE Za (dl rfl) rfl rfl Try.underlying39 ty5 hi21.1 ?_; intro a hE
   have hM := hM.pull (pre := [_])
   refine Zs (seg := [(vB x19)]) (cs' := Flat.enc (s10.1.setIfInBounds (s10.2).toNat x19)) hE hM Za rfl rfl rfl ty5 rfl (ZT (v := s10.1) (x := x19) hi21.1) (Flat.cell (x19 : UInt8)) (ZI (v := s10.1) (x := x19) hi21.1) ?_; intro w a hM hE
   refine Zj (Yk (Zx (wp_region_lit (Zd hE Za (dl rfl) rfl ?_)))); intro a hE
   refine Zh hE Za (dl rfl) rfl rfl rfl ?_; intro a hE
   refine Ze hE Za (dl rfl) rfl ?_; intro a hE
   refine Zj (Zl ?_)
   have hM := hM.pull (pre := [_, _])
   have hM := hM.pull (pre := [_])
   have hM := hM.pull (pre := [_, _])
   exact ⟨_, (Option.some.inj hs11).symm, hE.sub ⟨rfl, rfl, rfl, rfl, trivial⟩, hM⟩
  ·intro hb14
   have hs11 := Zz hs11 hb14
   refine wp_exit (Zr (Zr (Yj ?_)))
   have ht24 := hx12 _ (Option.some.inj hs11).symm
   subst ht24
   refine Zl ?_
   have hM := hM.pull (pre := [_])
   have hM := hM.pull (pre := [_])
   have hM := M.fst (l := [_, _]) hM
   exact ⟨hE.sub ⟨rfl, rfl, trivial⟩, hM⟩
 ·skip
  rintro a w ⟨hE, hM⟩
  refine Zx (Zc (Zp (cs := Flat.enc j7) hE Za (dl rfl) rfl ZP rfl (hM.rawAt (pre := [_])) (Flat.len _) ?_)); intro a hE
  refine Zs (seg := Flat.enc j7) (cs' := Flat.enc j7) hE hM Za rfl rfl rfl ZP (Flat.len _) (zle flq) (Flat.cell _) (Zq flq) ?_; intro w a hM hE
  refine Zf ?_
  have hr := Option.some.inj hF9
  subst hr
  have hq25 : YR Try.prog _ _ (.cell 4 39) _ := Z6 hE rfl ZP rfl (hM.rawAt (pre := [])) (Flat.len _) rfl
  have hM := M.fst (l := []) hM
  exact wp_ret (Zy hE rfl hq25 ⟨_, rfl, rfl, hM.kept⟩)
noncomputable def Wj (p0 : (Vector UInt8 16)) (p1 : (Vector UInt8 16)) (s12 : (Vector UInt8 16) × Int) : Option (Fl ((Vector UInt8 16) × Int) (Vector UInt8 16)) :=
 if (decide (s12.2 < 16)) = true then ((ZM p0 s12.2).bind fun x18 => (ZM p1 (bI x18)).bind fun x21 => (ZM s12.1 s12.2).bind fun x24 => some (Fl.nx ((s12.1.setIfInBounds (s12.2).toNat x21), wr (s12.2 + 1)))) else (some (Fl.ex s12.1))
noncomputable def VH (p0 : (Vector UInt8 16)) (p1 : (Vector UInt8 16)) : Option ((Vector UInt8 16)) :=
 (ZF (Wj p0 p1) ((Vector.replicate 16 (0 : UInt8)), 0) : Option ((Vector UInt8 16))).bind fun j9 => some j9
theorem c_spec_l03Move (w0 : World) (p0 : (Vector UInt8 16)) (p1 : (Vector UInt8 16)) (r : (Vector UInt8 16)) (hF : VH p0 p1 = some r) :
  Calls Try.prog 120 [(Value.agg (Flat.enc p0).toArray), (Value.agg (Flat.enc p1).toArray)].toArray w0 (fun en w' => ∃ v, en = .returned v ∧ (v = (Value.agg (Flat.enc r).toArray) ∧ Kept (Old w0) w0 w')) := by
 refine ZC (n := 20) Try.func120 rfl rfl (Nat.le_of_ble_eq_true rfl) rfl ?_
 intro a hE
 have hM := M.start w0
 unfold VH at hF
 refine Zc (Z4 (cs := Flat.enc p0) hE hM Za (dl rfl) rfl rfl ?_); intro b1 w a hM hE
 refine Z4 (cs := Flat.enc p1) hE hM Za (dl rfl) rfl rfl ?_; intro b3 w a hM hE
 refine ZO hE hM Za (dl rfl) ZP ?_; intro b5 w a hM hE
 refine Zf (Zc (Xq (parts := []) (vs := []) (cs := Flat.enc (Vector.replicate 16 (0 : UInt8))) hE Za (dl rfl) rfl rfl ZP rfl ty5 YM ?_)); intro a hE
 refine ZO hE hM Za (dl rfl) ZP ?_; intro b7 w a hM hE
 refine Zs (seg := Flat.enc (Vector.replicate 16 (0 : UInt8))) (cs' := Flat.enc (Vector.replicate 16 (0 : UInt8))) hE hM Za rfl rfl rfl ZP (Flat.len _) (zle flq) (Flat.cell _) (Zq flq) ?_; intro w a hM hE
 refine Zf (wp_seq (Zc (Ze hE Za (dl rfl) rfl ?_))); intro a hE
 refine Zf ?_
 obtain ⟨j9, hl10, hF11⟩ := bind_some hF
 refine ZV (fun a w => Env 20 a [(4, (ptr b5 0)), (5, (ptr b7 0))] ∧ M (Old w0) w0 w [raw b7 (Flat.enc j9), raw b5 (Flat.enc (Vector.replicate 16 (0 : UInt8)))]) ?_ ?_
 ·skip
  refine wp_block ?_
  refine ZN (fun (s12 : (Vector UInt8 16) × Int) a w => Env 20 a [(2, (ptr b1 0)), (3, (ptr b3 0)), (4, (ptr b5 0)), (5, (ptr b7 0)), (6, (vI s12.2))] ∧ M (Old w0) w0 w [raw b7 (Flat.enc s12.1), raw b5 (Flat.enc (Vector.replicate 16 (0 : UInt8))), raw b3 (Flat.enc p1), raw b1 (Flat.enc p0)]) hl10 ⟨hE.sub ⟨rfl, rfl, rfl, rfl, rfl, trivial⟩, hM⟩ ?_
  rintro s12 a w ⟨hE, hM⟩ o15 hs13 hx14
  unfold Wj at hs13
  refine wp_seq (Zc (Zd hE Za (dl rfl) rfl ?_)); intro a hE
  refine Zh hE Za (dl rfl) rfl rfl rfl ?_; intro a hE
  refine Zf ?_
  refine Zt hE rfl ?_ ?_
  ·intro hb16
   have hs13 := ZA hs13 hb16
   refine wp_skip (Zx (wp_seq (wp_block (wp_region_lit (Zd hE Za (dl rfl) rfl ?_))))); intro a hE
   refine Zd hE Za (dl rfl) rfl ?_; intro a hE
   obtain ⟨x18, e19, hs13⟩ := bind_some hs13
   have hi17 := Zi e19
   refine Zm hE Za (dl rfl) rfl rfl Try.underlying101 ty5 hi17.1 ?_; intro a hE
   refine Zv (v := (vB x18)) hE Za (dl rfl) rfl ty5 rfl (At.vec (hM.rawAt (pre := [_, _, _])) hi17.2) ?_; intro a hE
   obtain ⟨x21, e22, hs13⟩ := bind_some hs13
   have hi20 := Zi e22
   refine Zm hE Za (dl rfl) rfl rfl Try.underlying39 ty5 hi20.1 ?_; intro a hE
   refine Zv (v := (vB x21)) hE Za (dl rfl) rfl ty5 rfl (At.vec (hM.rawAt (pre := [_, _])) hi20.2) ?_; intro a hE
   obtain ⟨x24, e25, hs13⟩ := bind_some hs13
   have hi23 := Zi e25
   refine Zm hE Za (dl rfl) rfl rfl Try.underlying39 ty5 hi23.1 ?_; intro a hE
   refine Zs (seg := [(vB x21)]) (cs' := Flat.enc (s12.1.setIfInBounds (s12.2).toNat x21)) hE hM Za rfl rfl rfl ty5 rfl (ZT (v := s12.1) (x := x21) hi23.1) (Flat.cell (x21 : UInt8)) (ZI (v := s12.1) (x := x21) hi23.1) ?_; intro w a hM hE
   refine Zj (Yk (Zx (wp_region_lit (Zd hE Za (dl rfl) rfl ?_)))); intro a hE
   refine Zh hE Za (dl rfl) rfl rfl rfl ?_; intro a hE
   refine Ze hE Za (dl rfl) rfl ?_; intro a hE
   refine Zj (Zl ?_)
   exact ⟨_, (Option.some.inj hs13).symm, hE.sub ⟨rfl, rfl, rfl, rfl, rfl, trivial⟩, hM⟩
  ·intro hb16
   have hs13 := Zz hs13 hb16
   refine wp_exit (Zr (Zr (Yj ?_)))
   have ht26 := hx14 _ (Option.some.inj hs13).symm
   subst ht26
   refine Zl ?_
   have hM := hM.pull (pre := [_])
   have hM := hM.pull (pre := [_])
   have hM := M.fst (l := [_, _]) hM
   exact ⟨hE.sub ⟨rfl, rfl, trivial⟩, hM⟩
 ·skip
  rintro a w ⟨hE, hM⟩
  refine Zx (Zc (Zp (cs := Flat.enc j9) hE Za (dl rfl) rfl ZP rfl (hM.rawAt (pre := [])) (Flat.len _) ?_)); intro a hE
  have hM := hM.pull (pre := [_])
  refine Zs (seg := Flat.enc j9) (cs' := Flat.enc j9) hE hM Za rfl rfl rfl ZP (Flat.len _) (zle flq) (Flat.cell _) (Zq flq) ?_; intro w a hM hE
  refine Zf ?_
  have hr := Option.some.inj hF11
  subst hr
  have hq27 : YR Try.prog _ _ (.cell 4 39) _ := Z6 hE rfl ZP rfl (hM.rawAt (pre := [])) (Flat.len _) rfl
  have hM := M.fst (l := []) hM
  exact wp_ret (Zy hE rfl hq27 ⟨_, rfl, rfl, hM.kept⟩)
noncomputable def Xt (p0 : Int) (p1 : (Vector (Vector UInt8 4) 4)) (p2 : (Vector UInt8 16)) (s12 : (Vector UInt8 16) × Int) (s20 : (Vector UInt8 16) × Int) (s28 : (Vector UInt8 16) × Int) : Option (Fl ((Vector UInt8 16) × Int) (Vector UInt8 16)) :=
 if (decide (s28.2 < 4)) = true then ((ZM s28.1 (wr ((wr (4 * s12.2)) + s20.2))).bind fun x35 => (ZM p1 s20.2).bind fun x38 => (ZM x38 s28.2).bind fun x41 => (ZM p2 (wr ((wr (4 * s12.2)) + s28.2))).bind fun x44 => (Yv p0 x41 x44).bind fun r46 => (ZM s28.1 (wr ((wr (4 * s12.2)) + s20.2))).bind fun x49 => some (Fl.nx ((s28.1.setIfInBounds ((wr ((wr (4 * s12.2)) + s20.2))).toNat (x35 ^^^ r46)), wr (s28.2 + 1)))) else (some (Fl.ex s28.1))
noncomputable def WV (p0 : Int) (p1 : (Vector (Vector UInt8 4) 4)) (p2 : (Vector UInt8 16)) (s12 : (Vector UInt8 16) × Int) (s20 : (Vector UInt8 16) × Int) : Option (Fl ((Vector UInt8 16) × Int) (Vector UInt8 16)) :=
 if (decide (s20.2 < 4)) = true then ((ZF (Xt p0 p1 p2 s12 s20) (s20.1, 0) : Option ((Vector UInt8 16))).bind fun j25 => some (Fl.nx (j25, wr (s20.2 + 1)))) else (some (Fl.ex s20.1))
noncomputable def WI (p0 : Int) (p1 : (Vector (Vector UInt8 4) 4)) (p2 : (Vector UInt8 16)) (s12 : (Vector UInt8 16) × Int) : Option (Fl ((Vector UInt8 16) × Int) (Vector UInt8 16)) :=
 if (decide (s12.2 < 4)) = true then ((ZF (WV p0 p1 p2 s12) (s12.1, 0) : Option ((Vector UInt8 16))).bind fun j17 => some (Fl.nx (j17, wr (s12.2 + 1)))) else (some (Fl.ex s12.1))
noncomputable def Ub (p0 : Int) (p1 : (Vector (Vector UInt8 4) 4)) (p2 : (Vector UInt8 16)) : Option ((Vector UInt8 16)) :=
 (ZF (WI p0 p1 p2) ((Vector.replicate 16 (0 : UInt8)), 0) : Option ((Vector UInt8 16))).bind fun j9 => some j9
theorem c_spec_l03Mix (w0 : World) (p0 : Int) (p1 : (Vector (Vector UInt8 4) 4)) (p2 : (Vector UInt8 16)) (r : (Vector UInt8 16)) (hF : Ub p0 p1 p2 = some r) :
  Calls Try.prog 122 [(vI p0), (Value.agg (Flat.enc p1).toArray), (Value.agg (Flat.enc p2).toArray)].toArray w0 (fun en w' => ∃ v, en = .returned v ∧ (v = (Value.agg (Flat.enc r).toArray) ∧ Kept (Old w0) w0 w')) := by
 refine ZC (n := 50) Try.func122 rfl rfl (Nat.le_of_ble_eq_true rfl) rfl ?_
 intro a hE
 have hM := M.start w0
 unfold Ub at hF
 refine Zc (Z4 (cs := Flat.enc p1) hE hM Za (dl rfl) rfl rfl ?_); intro b1 w a hM hE
 refine Z4 (cs := Flat.enc p2) hE hM Za (dl rfl) rfl rfl ?_; intro b3 w a hM hE
 refine ZO hE hM Za (dl rfl) ZP ?_; intro b5 w a hM hE
 refine Zf (Zc (Xq (parts := []) (vs := []) (cs := Flat.enc (Vector.replicate 16 (0 : UInt8))) hE Za (dl rfl) rfl rfl ZP rfl ty5 YM ?_)); intro a hE
 refine ZO hE hM Za (dl rfl) ZP ?_; intro b7 w a hM hE
 refine Zs (seg := Flat.enc (Vector.replicate 16 (0 : UInt8))) (cs' := Flat.enc (Vector.replicate 16 (0 : UInt8))) hE hM Za rfl rfl rfl ZP (Flat.len _) (zle flq) (Flat.cell _) (Zq flq) ?_; intro w a hM hE
 refine Zf (wp_seq (Zc (Ze hE Za (dl rfl) rfl ?_))); intro a hE
 refine Zf ?_
 obtain ⟨j9, hl10, hF11⟩ := bind_some hF
 refine ZV (fun a w => Env 50 a [(6, (ptr b5 0)), (7, (ptr b7 0))] ∧ M (Old w0) w0 w [raw b7 (Flat.enc j9), raw b5 (Flat.enc (Vector.replicate 16 (0 : UInt8)))]) ?_ ?_
 ·skip
  refine wp_block ?_
  refine ZN (fun (s12 : (Vector UInt8 16) × Int) a w => Env 50 a [(0, (vI p0)), (4, (ptr b1 0)), (5, (ptr b3 0)), (6, (ptr b5 0)), (7, (ptr b7 0)), (8, (vI s12.2))] ∧ M (Old w0) w0 w [raw b7 (Flat.enc s12.1), raw b5 (Flat.enc (Vector.replicate 16 (0 : UInt8))), raw b3 (Flat.enc p2), raw b1 (Flat.enc p1)]) hl10 ⟨hE.sub ⟨rfl, rfl, rfl, rfl, rfl, rfl, trivial⟩, hM⟩ ?_
  rintro s12 a w ⟨hE, hM⟩ o15 hs13 hx14
  unfold WI at hs13
  refine wp_seq (Zc (Zd hE Za (dl rfl) rfl ?_)); intro a hE
  refine Zh hE Za (dl rfl) rfl rfl rfl ?_; intro a hE
  refine Zf ?_
  refine Zt hE rfl ?_ ?_
  ·intro hb16
   have hs13 := ZA hs13 hb16
   refine wp_skip (Zx (wp_seq (wp_block (Zc (Ze hE Za (dl rfl) rfl ?_))))); intro a hE
   refine Zf ?_
   obtain ⟨j17, hl18, hF19⟩ := bind_some hs13
   refine ZV (fun a w => Env 50 a [(0, (vI p0)), (4, (ptr b1 0)), (5, (ptr b3 0)), (6, (ptr b5 0)), (7, (ptr b7 0)), (8, (vI s12.2))] ∧ M (Old w0) w0 w [raw b7 (Flat.enc j17), raw b5 (Flat.enc (Vector.replicate 16 (0 : UInt8))), raw b3 (Flat.enc p2), raw b1 (Flat.enc p1)]) ?_ ?_
   ·skip
    refine wp_block ?_
    refine ZN (fun (s20 : (Vector UInt8 16) × Int) a w => Env 50 a [(0, (vI p0)), (4, (ptr b1 0)), (5, (ptr b3 0)), (6, (ptr b5 0)), (7, (ptr b7 0)), (8, (vI s12.2)), (9, (vI s20.2))] ∧ M (Old w0) w0 w [raw b7 (Flat.enc s20.1), raw b5 (Flat.enc (Vector.replicate 16 (0 : UInt8))), raw b3 (Flat.enc p2), raw b1 (Flat.enc p1)]) hl18 ⟨hE.sub ⟨rfl, rfl, rfl, rfl, rfl, rfl, rfl, trivial⟩, hM⟩ ?_
    rintro s20 a w ⟨hE, hM⟩ o23 hs21 hx22
    unfold WV at hs21
    refine wp_seq (Zc (Zd hE Za (dl rfl) rfl ?_)); intro a hE
    refine Zh hE Za (dl rfl) rfl rfl rfl ?_; intro a hE
    refine Zf ?_
    refine Zt hE rfl ?_ ?_
    ·intro hb24
     have hs21 := ZA hs21 hb24
     refine wp_skip (Zx (wp_seq (wp_block (Zc (Ze hE Za (dl rfl) rfl ?_))))); intro a hE
     refine Zf ?_
     obtain ⟨j25, hl26, hF27⟩ := bind_some hs21
     refine ZV (fun a w => Env 50 a [(0, (vI p0)), (4, (ptr b1 0)), (5, (ptr b3 0)), (6, (ptr b5 0)), (7, (ptr b7 0)), (8, (vI s12.2)), (9, (vI s20.2))] ∧ M (Old w0) w0 w [raw b7 (Flat.enc j25), raw b5 (Flat.enc (Vector.replicate 16 (0 : UInt8))), raw b3 (Flat.enc p2), raw b1 (Flat.enc p1)]) ?_ ?_
     ·skip
      refine wp_block ?_
      refine ZN (fun (s28 : (Vector UInt8 16) × Int) a w => Env 50 a [(0, (vI p0)), (4, (ptr b1 0)), (5, (ptr b3 0)), (6, (ptr b5 0)), (7, (ptr b7 0)), (8, (vI s12.2)), (9, (vI s20.2)), (10, (vI s28.2))] ∧ M (Old w0) w0 w [raw b7 (Flat.enc s28.1), raw b5 (Flat.enc (Vector.replicate 16 (0 : UInt8))), raw b3 (Flat.enc p2), raw b1 (Flat.enc p1)]) hl26 ⟨hE.sub ⟨rfl, rfl, rfl, rfl, rfl, rfl, rfl, rfl, trivial⟩, hM⟩ ?_
      rintro s28 a w ⟨hE, hM⟩ o31 hs29 hx30
      unfold Xt at hs29
      refine wp_seq (Zc (Zd hE Za (dl rfl) rfl ?_)); intro a hE
      refine Zh hE Za (dl rfl) rfl rfl rfl ?_; intro a hE
      refine Zf ?_
      refine Zt hE rfl ?_ ?_
      ·intro hb32
       have hs29 := ZA hs29 hb32
       refine wp_skip (Zx (wp_seq (wp_block ?_)))
       obtain ⟨x35, e36, hs29⟩ := bind_some hs29
       have hi34 := Zi e36
       obtain ⟨x38, e39, hs29⟩ := bind_some hs29
       have hi37 := Zi e39
       obtain ⟨x41, e42, hs29⟩ := bind_some hs29
       have hi40 := Zi e42
       obtain ⟨x44, e45, hs29⟩ := bind_some hs29
       have hi43 := Zi e45
       obtain ⟨r46, e47, hs29⟩ := bind_some hs29
       obtain ⟨x49, e50, hs29⟩ := bind_some hs29
       have hi48 := Zi e50
       refine Yd (n := 50) (hd := [_, _, _, _, _, _, _, _, _, _, _, _, _, _, _, _, _, _, _, _, _, _, _, _, _]) (tl := [_]) YB rfl rfl [24, 25, 26, 27, 28, 29, 30, 31, 32, 33, 34, 35, 36, 37, 38, 39, 40, 41, 42, 43, 44, 45, 46, 47, 48] (by decide) (fun w => M (Old w0) w0 w [raw b7 (Flat.enc s28.1), raw b5 (Flat.enc (Vector.replicate 16 (0 : UInt8))), raw b3 (Flat.enc p2), raw b1 (Flat.enc p1)]) (fun j => ([fun v _ => v = (vI s12.2), fun v _ => v = (vI (wr (4 * s12.2))), fun v _ => v = (vI s20.2), fun v _ => v = (vI (wr ((wr (4 * s12.2)) + s20.2))), fun v _ => v = (vI s12.2), fun v _ => v = (vI (wr (4 * s12.2))), fun v _ => v = (vI s20.2), fun v _ => v = (vI (wr ((wr (4 * s12.2)) + s20.2))), fun v _ => v = (ptr b7 (0 + ((wr ((wr (4 * s12.2)) + s20.2))).toNat * 1)), fun v _ => v = (vB x35), fun v _ => v = (vI p0), fun v _ => v = (vI s20.2), fun v _ => v = (vI s28.2), fun v _ => v = (ptr b1 (0 + (s20.2).toNat * 4)), fun v _ => v = (ptr b1 (0 + (s20.2).toNat * 4 + (s28.2).toNat * 1)), fun v _ => v = (vB x41), fun v _ => v = (vI s12.2), fun v _ => v = (vI (wr (4 * s12.2))), fun v _ => v = (vI s28.2), fun v _ => v = (vI (wr ((wr (4 * s12.2)) + s28.2))), fun v _ => v = (ptr b3 (0 + ((wr ((wr (4 * s12.2)) + s28.2))).toNat * 1)), fun v _ => v = (vB x44), fun v _ => v = (vB r46), fun v _ => v = (vB (x35 ^^^ r46)), fun v _ => v = (ptr b7 (0 + ((wr ((wr (4 * s12.2)) + s20.2))).toNat * 1))] : List (Value → World → Prop)).getD j (fun _ _ => True)) (fun _ _ h hk => h.keep hk) (gup (Zg (Zg (Zg (Zg (Zg (Zg (Zg (Zg (Zg (Zg (Zg (Zg (Zg (Zg (Zg (Zg (Zg (Zg (Zg (Zg (Zg (Zg (Zg (Zg (Zg Wu)))))))))))))))))))))))))) hE hM.drew (ZH (Zb ?_ (Zb ?_ (Zb ?_ (Zb ?_ (Zb ?_ (Zb ?_ (Zb ?_ (Zb ?_ (Zb ?_ (Zb ?_ (Zb ?_ (Zb ?_ (Zb ?_ (Zb ?_ (Zb ?_ (Zb ?_ (Zb ?_ (Zb ?_ (Zb ?_ (Zb ?_ (Zb ?_ (Zb ?_ (Zb ?_ (Zb ?_ (Zb ?_ ZD)))))))))))))))))))))))))) ?_
       ·exact fun a w ux33 hE hM hp => Zd hE Za (dl rfl) rfl fun a hE => ⟨Kept.refl _ _, _, _, rfl, hE, rfl⟩
       ·intro a w ux33 hE hM hp
        have f0 : ux33 0 = (vI s12.2) := hp 0 _ rfl rfl
        exact Zh hE Za (dl rfl) rfl (lk rfl f0) rfl fun a hE => ⟨Kept.refl _ _, _, _, rfl, hE, rfl⟩
       ·exact fun a w ux33 hE hM hp => Zd hE Za (dl rfl) rfl fun a hE => ⟨Kept.refl _ _, _, _, rfl, hE, rfl⟩
       ·intro a w ux33 hE hM hp
        have f1 : ux33 1 = (vI (wr (4 * s12.2))) := hp 0 _ rfl rfl
        have f2 : ux33 2 = (vI s20.2) := hp 1 _ rfl rfl
        exact Zh hE Za (dl rfl) (lk rfl f1) (lk rfl f2) rfl fun a hE => ⟨Kept.refl _ _, _, _, rfl, hE, rfl⟩
       ·exact fun a w ux33 hE hM hp => Zd hE Za (dl rfl) rfl fun a hE => ⟨Kept.refl _ _, _, _, rfl, hE, rfl⟩
       ·intro a w ux33 hE hM hp
        have f4 : ux33 4 = (vI s12.2) := hp 0 _ rfl rfl
        exact Zh hE Za (dl rfl) rfl (lk rfl f4) rfl fun a hE => ⟨Kept.refl _ _, _, _, rfl, hE, rfl⟩
       ·exact fun a w ux33 hE hM hp => Zd hE Za (dl rfl) rfl fun a hE => ⟨Kept.refl _ _, _, _, rfl, hE, rfl⟩
       ·intro a w ux33 hE hM hp
        have f5 : ux33 5 = (vI (wr (4 * s12.2))) := hp 0 _ rfl rfl
        have f6 : ux33 6 = (vI s20.2) := hp 1 _ rfl rfl
        exact Zh hE Za (dl rfl) (lk rfl f5) (lk rfl f6) rfl fun a hE => ⟨Kept.refl _ _, _, _, rfl, hE, rfl⟩
       ·intro a w ux33 hE hM hp
        have f7 : ux33 7 = (vI (wr ((wr (4 * s12.2)) + s20.2))) := hp 0 _ rfl rfl
        exact Zm hE Za (dl rfl) rfl (lk rfl f7) Try.underlying39 ty5 hi34.1 fun a hE => ⟨Kept.refl _ _, _, _, rfl, hE, rfl⟩
       ·intro a w ux33 hE hM hp
        have f8 : ux33 8 = (ptr b7 (0 + ((wr ((wr (4 * s12.2)) + s20.2))).toNat * 1)) := hp 0 _ rfl rfl
        exact Zv (v := (vB x35)) hE Za (dl rfl) (lk rfl f8) ty5 rfl (At.vec (hM.rawAt (pre := [])) hi34.2) fun a hE => ⟨Kept.refl _ _, _, _, rfl, hE, rfl⟩
       ·exact fun a w ux33 hE hM hp => Zd hE Za (dl rfl) rfl fun a hE => ⟨Kept.refl _ _, _, _, rfl, hE, rfl⟩
       ·exact fun a w ux33 hE hM hp => Zd hE Za (dl rfl) rfl fun a hE => ⟨Kept.refl _ _, _, _, rfl, hE, rfl⟩
       ·exact fun a w ux33 hE hM hp => Zd hE Za (dl rfl) rfl fun a hE => ⟨Kept.refl _ _, _, _, rfl, hE, rfl⟩
       ·intro a w ux33 hE hM hp
        have f11 : ux33 11 = (vI s20.2) := hp 0 _ rfl rfl
        exact Zm hE Za (dl rfl) rfl (lk rfl f11) Try.underlying100 Va hi37.1 fun a hE => ⟨Kept.refl _ _, _, _, rfl, hE, rfl⟩
       ·intro a w ux33 hE hM hp
        have f12 : ux33 12 = (vI s28.2) := hp 1 _ rfl rfl
        have f13 : ux33 13 = (ptr b1 (0 + (s20.2).toNat * 4)) := hp 0 _ rfl rfl
        exact Zm hE Za (dl rfl) (lk rfl f13) (lk rfl f12) Try.underlying98 ty5 hi40.1 fun a hE => ⟨Kept.refl _ _, _, _, rfl, hE, rfl⟩
       ·intro a w ux33 hE hM hp
        have f14 : ux33 14 = (ptr b1 (0 + (s20.2).toNat * 4 + (s28.2).toNat * 1)) := hp 0 _ rfl rfl
        exact Zv (v := (vB x41)) hE Za (dl rfl) (lk rfl f14) ty5 rfl (At.vec (At.vec (hM.rawAt (pre := [_, _, _])) hi37.2) hi40.2) fun a hE => ⟨Kept.refl _ _, _, _, rfl, hE, rfl⟩
       ·exact fun a w ux33 hE hM hp => Zd hE Za (dl rfl) rfl fun a hE => ⟨Kept.refl _ _, _, _, rfl, hE, rfl⟩
       ·intro a w ux33 hE hM hp
        have f16 : ux33 16 = (vI s12.2) := hp 0 _ rfl rfl
        exact Zh hE Za (dl rfl) rfl (lk rfl f16) rfl fun a hE => ⟨Kept.refl _ _, _, _, rfl, hE, rfl⟩
       ·exact fun a w ux33 hE hM hp => Zd hE Za (dl rfl) rfl fun a hE => ⟨Kept.refl _ _, _, _, rfl, hE, rfl⟩
       ·intro a w ux33 hE hM hp
        have f17 : ux33 17 = (vI (wr (4 * s12.2))) := hp 0 _ rfl rfl
        have f18 : ux33 18 = (vI s28.2) := hp 1 _ rfl rfl
        exact Zh hE Za (dl rfl) (lk rfl f17) (lk rfl f18) rfl fun a hE => ⟨Kept.refl _ _, _, _, rfl, hE, rfl⟩
       ·intro a w ux33 hE hM hp
        have f19 : ux33 19 = (vI (wr ((wr (4 * s12.2)) + s28.2))) := hp 0 _ rfl rfl
        exact Zm hE Za (dl rfl) rfl (lk rfl f19) Try.underlying39 ty5 hi43.1 fun a hE => ⟨Kept.refl _ _, _, _, rfl, hE, rfl⟩
       ·intro a w ux33 hE hM hp
        have f20 : ux33 20 = (ptr b3 (0 + ((wr ((wr (4 * s12.2)) + s28.2))).toNat * 1)) := hp 0 _ rfl rfl
        exact Zv (v := (vB x44)) hE Za (dl rfl) (lk rfl f20) ty5 rfl (At.vec (hM.rawAt (pre := [_, _])) hi43.2) fun a hE => ⟨Kept.refl _ _, _, _, rfl, hE, rfl⟩
       ·intro a w ux33 hE hM hp
        have f10 : ux33 10 = (vI p0) := hp 0 _ rfl rfl
        have f15 : ux33 15 = (vB x41) := hp 1 _ rfl rfl
        have f21 : ux33 21 = (vB x44) := hp 2 _ rfl rfl
        refine Zw (vs := [(vI p0), (vB x41), (vB x44)]) hE Za (dl rfl) (Z0 (ZY (lk rfl f10) (ZY (lk rfl f15) (ZY (lk rfl f21) Xf)))) cb123 (Vd _ p0 x41 x44 r46 e47) ?_
        rintro v w a ⟨rfl, hK⟩ hE
        exact ⟨hK, _, _, rfl, hE, rfl⟩
       ·intro a w ux33 hE hM hp
        have f9 : ux33 9 = (vB x35) := hp 0 _ rfl rfl
        have f22 : ux33 22 = (vB r46) := hp 1 _ rfl rfl
        exact Zh hE Za (dl rfl) (lk rfl f9) (lk rfl f22) (Vo x35 r46) fun a hE => ⟨Kept.refl _ _, _, _, rfl, hE, rfl⟩
       ·intro a w ux33 hE hM hp
        have f3 : ux33 3 = (vI (wr ((wr (4 * s12.2)) + s20.2))) := hp 0 _ rfl rfl
        exact Zm hE Za (dl rfl) rfl (lk rfl f3) Try.underlying39 ty5 hi48.1 fun a hE => ⟨Kept.refl _ _, _, _, rfl, hE, rfl⟩
       ·intro a w ux33 hE hM hg
        have hE := hE.sub (e' := [(47, (vB (x35 ^^^ r46))), (48, (ptr b7 (0 + ((wr ((wr (4 * s12.2)) + s20.2))).toNat * 1))), (0, (vI p0)), (4, (ptr b1 0)), (5, (ptr b3 0)), (6, (ptr b5 0)), (7, (ptr b7 0)), (8, (vI s12.2)), (9, (vI s20.2)), (10, (vI s28.2)), (20, (vI s28.2)), (21, (vT (decide (s28.2 < 4))))]) ⟨lk rfl (hg 23 (by decide)), lk rfl (hg 24 (by decide)), rfl, rfl, rfl, rfl, rfl, rfl, rfl, rfl, rfl, rfl, trivial⟩
        refine Zs (seg := [(vB (x35 ^^^ r46))]) (cs' := Flat.enc (s28.1.setIfInBounds ((wr ((wr (4 * s12.2)) + s20.2))).toNat (x35 ^^^ r46))) hE hM Za rfl rfl rfl ty5 rfl (ZT (v := s28.1) (x := x35 ^^^ r46) hi48.1) (Flat.cell (x35 ^^^ r46 : UInt8)) (ZI (v := s28.1) (x := x35 ^^^ r46) hi48.1) ?_; intro w a hM hE
        refine Zj (Yk (Zx (wp_region_lit (Zd hE Za (dl rfl) rfl ?_)))); intro a hE
        refine Zh hE Za (dl rfl) rfl rfl rfl ?_; intro a hE
        refine Ze hE Za (dl rfl) rfl ?_; intro a hE
        refine Zj (Zl ?_)
        exact ⟨_, (Option.some.inj hs29).symm, hE.sub ⟨rfl, rfl, rfl, rfl, rfl, rfl, rfl, rfl, trivial⟩, hM⟩
      ·intro hb32
       have hs29 := Zz hs29 hb32
       refine wp_exit (Zr (Zr (Yj ?_)))
       have ht51 := hx30 _ (Option.some.inj hs29).symm
       subst ht51
       refine Zl ?_
       exact ⟨hE.sub ⟨rfl, rfl, rfl, rfl, rfl, rfl, rfl, trivial⟩, hM⟩
     ·skip
      rintro a w ⟨hE, hM⟩
      refine Yk (Zx (wp_region_lit (Zd hE Za (dl rfl) rfl ?_))); intro a hE
      refine Zh hE Za (dl rfl) rfl rfl rfl ?_; intro a hE
      refine Ze hE Za (dl rfl) rfl ?_; intro a hE
      refine Zj (Zl ?_)
      exact ⟨_, (Option.some.inj hF27).symm, hE.sub ⟨rfl, rfl, rfl, rfl, rfl, rfl, rfl, trivial⟩, hM⟩
    ·intro hb24
     have hs21 := Zz hs21 hb24
     refine wp_exit (Zr (Zr (Yj ?_)))
     have ht52 := hx22 _ (Option.some.inj hs21).symm
     subst ht52
     refine Zl ?_
     exact ⟨hE.sub ⟨rfl, rfl, rfl, rfl, rfl, rfl, trivial⟩, hM⟩
   ·skip
    rintro a w ⟨hE, hM⟩
    refine Yk (Zx (wp_region_lit (Zd hE Za (dl rfl) rfl ?_))); intro a hE
    refine Zh hE Za (dl rfl) rfl rfl rfl ?_; intro a hE
    refine Ze hE Za (dl rfl) rfl ?_; intro a hE
    refine Zj (Zl ?_)
    exact ⟨_, (Option.some.inj hF19).symm, hE.sub ⟨rfl, rfl, rfl, rfl, rfl, rfl, trivial⟩, hM⟩
  ·intro hb16
   have hs13 := Zz hs13 hb16
   refine wp_exit (Zr (Zr (Yj ?_)))
   have ht53 := hx14 _ (Option.some.inj hs13).symm
   subst ht53
   refine Zl ?_
   have hM := hM.pull (pre := [_])
   have hM := hM.pull (pre := [_])
   have hM := M.fst (l := [_, _]) hM
   exact ⟨hE.sub ⟨rfl, rfl, trivial⟩, hM⟩
 ·skip
  rintro a w ⟨hE, hM⟩
  refine Zx (Zc (Zp (cs := Flat.enc j9) hE Za (dl rfl) rfl ZP rfl (hM.rawAt (pre := [])) (Flat.len _) ?_)); intro a hE
  have hM := hM.pull (pre := [_])
  refine Zs (seg := Flat.enc j9) (cs' := Flat.enc j9) hE hM Za rfl rfl rfl ZP (Flat.len _) (zle flq) (Flat.cell _) (Zq flq) ?_; intro w a hM hE
  refine Zf ?_
  have hr := Option.some.inj hF11
  subst hr
  have hq54 : YR Try.prog _ _ (.cell 6 39) _ := Z6 hE rfl ZP rfl (hM.rawAt (pre := [])) (Flat.len _) rfl
  have hM := M.fst (l := []) hM
  exact wp_ret (Zy hE rfl hq54 ⟨_, rfl, rfl, hM.kept⟩)
noncomputable def Y1 (p0 : GCipher) (p3 : Int) (r9 : (List (Vector UInt8 16))) (s25 : (Vector UInt8 16) × Int) : Option (Fl ((Vector UInt8 16) × Int) (Vector UInt8 16)) :=
 if (decide (s25.2 ≤ p3)) = true then ((((W8 p0.Box s25.1).bind fun r37 => (VH p0.Places r37).bind fun r39 => some r39 : Option ((Vector UInt8 16))).bind fun j33 => (if (decide (s25.2 < p3)) = true then ((Ub p0.Field p0.Mix j33).bind fun r46 => some r46) else (some j33) : Option ((Vector UInt8 16))).bind fun j42 => (idx r9 s25.2).bind fun x51 => (YS j42 x51).bind fun r54 => some r54 : Option ((Vector UInt8 16))).bind fun j30 => some (Fl.nx (j30, wr (s25.2 + 1)))) else (some (Fl.ex s25.1))
noncomputable def YI (p0 : GCipher) (p1 : (Vector UInt8 16)) (p2 : (Vector UInt8 16)) (p3 : Int) : Option ((Vector UInt8 16)) :=
 (VC p0 p1 p3).bind fun r9 => ((idx r9 (0 : Int)).bind fun x16 => (YS p2 x16).bind fun r19 => some r19 : Option ((Vector UInt8 16))).bind fun j12 => (ZF (Y1 p0 p3 r9) (j12, 1) : Option ((Vector UInt8 16))).bind fun j22 => some j22
theorem c_spec_l04Encipher (w0 : World) (p0 : GCipher) (p1 : (Vector UInt8 16)) (p2 : (Vector UInt8 16)) (p3 : Int) (r : (Vector UInt8 16)) (hF : YI p0 p1 p2 p3 = some r) :
  Calls Try.prog 102 [(Value.agg (Flat.enc p0).toArray), (Value.agg (Flat.enc p1).toArray), (Value.agg (Flat.enc p2).toArray), (vI p3)].toArray w0 (fun en w' => ∃ v, en = .returned v ∧ (v = (Value.agg (Flat.enc r).toArray) ∧ Kept (Old w0) w0 w')) := by
 refine ZC (n := 48) Try.func102 rfl rfl (Nat.le_of_ble_eq_true rfl) rfl ?_
 intro a hE
 have hM := M.start w0
 unfold YI at hF
 refine Zc (Z4 (cs := cat [[(vI p0.Field)], Flat.enc p0.Box, Flat.enc p0.Mix, Flat.enc p0.Places, [(vI p0.Rounds)]]) hE hM Za (dl rfl) rfl rfl ?_); intro b1 w a hM hE
 refine Z4 (cs := Flat.enc p1) hE hM Za (dl rfl) rfl rfl ?_; intro b3 w a hM hE
 refine Z4 (cs := Flat.enc p2) hE hM Za (dl rfl) rfl rfl ?_; intro b5 w a hM hE
 refine ZO hE hM Za (dl rfl) ZP ?_; intro b7 w a hM hE
 refine Zf (Zc (Zp (cs := Flat.enc p0) hE Za (dl rfl) rfl VP rfl (hM.rawAt (pre := [_, _, _])) (ZR (cl1 (n := 1) (m := 289) rfl (cl1 (n := 256) (m := 33) (Flat.len _) (cl1 (n := 16) (m := 17) (Flat.len _) (cl1 (n := 16) (m := 1) (Flat.len _) (cl1 (n := 1) (m := 0) rfl cl0)))))) ?_)); intro a hE
 refine Zp (cs := Flat.enc p1) hE Za (dl rfl) rfl ZP rfl (hM.rawAt (pre := [_, _])) (Flat.len _) ?_; intro a hE
 refine Zd hE Za (dl rfl) rfl ?_; intro a hE
 obtain ⟨r9, e10, hF⟩ := bind_some hF
 refine Zw (vs := [(Value.agg (Flat.enc p0).toArray), (Value.agg (Flat.enc p1).toArray), (vI p3)]) hE Za (dl rfl) rfl cb119 (c_spec_l04Keys _ p0 p1 p3 r9 e10) ?_
 rintro u11 w a ⟨_, rfl, hFr, hK⟩ hE
 have hM := hM.add hK hFr
 refine Ze hE Za (dl rfl) rfl ?_; intro a hE
 refine Zf ?_
 obtain ⟨j12, hl13, hF14⟩ := bind_some hF
 refine ZS (fun a w => Env 48 a [(3, (vI p3)), (4, (ptr b1 0)), (6, (ptr b5 0)), (8, (ptr b7 0)), (9, u11)] ∧ M (Old w0) w0 w [osl NoB (r9 : List (Vector UInt8 16)) u11, raw b7 (Flat.enc (Vector.replicate 16 (0 : UInt8))), raw b5 (Flat.enc j12), raw b1 (cat [[(vI p0.Field)], Flat.enc p0.Box, Flat.enc p0.Mix, Flat.enc p0.Places, [(vI p0.Rounds)]])]) ?_ ?_
 ·skip
  obtain ⟨x16, e17, hl13⟩ := bind_some hl13
  have hi18 := ZQ e17
  obtain ⟨r19, e20, hl13⟩ := bind_some hl13
  refine Yd (n := 48) (hd := [_, _, _, _, _]) (tl := [_]) YB rfl rfl [15, 16, 17, 18, 19] (by decide) (fun w => M (Old w0) w0 w [osl NoB (r9 : List (Vector UInt8 16)) u11, raw b7 (Flat.enc (Vector.replicate 16 (0 : UInt8))), raw b5 (Flat.enc p2), raw b3 (Flat.enc p1), raw b1 (cat [[(vI p0.Field)], Flat.enc p0.Box, Flat.enc p0.Mix, Flat.enc p0.Places, [(vI p0.Rounds)]])]) (fun j => ([fun v _ => v = (Value.agg (Flat.enc p2).toArray), fun v _ => v = u11, fun v _ => v = (ptr (sb u11) (so u11 + ((0 : Int)).toNat * 16)), fun v _ => v = (Value.agg (Flat.enc x16).toArray), fun v _ => v = (Value.agg (Flat.enc r19).toArray)] : List (Value → World → Prop)).getD j (fun _ _ => True)) (fun _ _ h hk => h.keep hk) (gup (Zg (Zg (Zg (Zg (Zg Wu)))))) hE hM.drew (ZH (Zb ?_ (Zb ?_ (Zb ?_ (Zb ?_ (Zb ?_ ZD)))))) ?_
  ·exact fun a w ux15 hE hM hp => Zp (cs := Flat.enc p2) hE Za (dl rfl) rfl ZP rfl (hM.rawAt (pre := [_, _])) (Flat.len _) fun a hE => ⟨Kept.refl _ _, _, _, rfl, hE, rfl⟩
  ·exact fun a w ux15 hE hM hp => Zd hE Za (dl rfl) rfl fun a hE => ⟨Kept.refl _ _, _, _, rfl, hE, rfl⟩
  ·intro a w ux15 hE hM hp
   have f1 : ux15 1 = u11 := hp 0 _ rfl rfl
   exact ZK hE Za (dl rfl) (lk rfl f1) rfl Try.underlying34 ZP (hM.sl (pre := []) noB) hi18.1 fun a hE => ⟨Kept.refl _ _, _, _, rfl, hE, rfl⟩
  ·intro a w ux15 hE hM hp
   have f2 : ux15 2 = (ptr (sb u11) (so u11 + ((0 : Int)).toNat * 16)) := hp 0 _ rfl rfl
   exact Zp (cs := Flat.enc x16) hE Za (dl rfl) (lk rfl f2) ZP rfl (Yt (hM.sl (pre := []) noB) hi18.2) (Flat.len _) fun a hE => ⟨Kept.refl _ _, _, _, rfl, hE, rfl⟩
  ·intro a w ux15 hE hM hp
   have f0 : ux15 0 = (Value.agg (Flat.enc p2).toArray) := hp 0 _ rfl rfl
   have f3 : ux15 3 = (Value.agg (Flat.enc x16).toArray) := hp 1 _ rfl rfl
   refine Zw (vs := [(Value.agg (Flat.enc p2).toArray), (Value.agg (Flat.enc x16).toArray)]) hE Za (dl rfl) (Z0 (ZY (lk rfl f0) (ZY (lk rfl f3) Xf))) cb101 (Vm _ p2 x16 r19 e20) ?_
   rintro v w a ⟨rfl, hK⟩ hE
   exact ⟨hK, _, _, rfl, hE, rfl⟩
  ·intro a w ux15 hE hM hg
   have hE := hE.sub (e' := [(19, (Value.agg (Flat.enc r19).toArray)), (0, (Value.agg (Flat.enc p0).toArray)), (1, (Value.agg (Flat.enc p1).toArray)), (2, (Value.agg (Flat.enc p2).toArray)), (3, (vI p3)), (4, (ptr b1 0)), (5, (ptr b3 0)), (6, (ptr b5 0)), (8, (ptr b7 0)), (9, u11), (11, (Value.agg (Flat.enc p0).toArray)), (12, (Value.agg (Flat.enc p1).toArray)), (13, (vI p3)), (14, u11)]) ⟨lk rfl (hg 4 (by decide)), rfl, rfl, rfl, rfl, rfl, rfl, rfl, rfl, rfl, rfl, rfl, rfl, rfl, trivial⟩
   have hM := hM.pull (pre := [_, _])
   refine Zs (seg := Flat.enc r19) (cs' := Flat.enc r19) hE hM Za rfl rfl rfl ZP (Flat.len _) (zle flq) (Flat.cell _) (Zq flq) ?_; intro w a hM hE
   refine Zj ?_
   have ht21 := Option.some.inj hl13
   subst ht21
   refine Zl ?_
   have hM := hM.pull (pre := [_, _, _, _])
   have hM := hM.pull (pre := [_])
   have hM := hM.pull (pre := [_, _, _])
   have hM := hM.pull (pre := [_, _, _])
   have hM := M.fst (l := [_, _, _, _]) hM
   exact ⟨hE.sub ⟨rfl, rfl, rfl, rfl, rfl, trivial⟩, hM⟩
 ·skip
  rintro a w ⟨hE, hM⟩
  refine wp_seq (Zc (Ze hE Za (dl rfl) rfl ?_)); intro a hE
  refine Zf ?_
  obtain ⟨j22, hl23, hF24⟩ := bind_some hF14
  refine ZV (fun a w => Env 48 a [(6, (ptr b5 0)), (8, (ptr b7 0))] ∧ M (Old w0) w0 w [raw b7 (Flat.enc (Vector.replicate 16 (0 : UInt8))), raw b5 (Flat.enc j22)]) ?_ ?_
  ·skip
   refine wp_block ?_
   refine ZN (fun (s25 : (Vector UInt8 16) × Int) a w => Env 48 a [(3, (vI p3)), (4, (ptr b1 0)), (6, (ptr b5 0)), (8, (ptr b7 0)), (9, u11), (10, (vI s25.2))] ∧ M (Old w0) w0 w [osl NoB (r9 : List (Vector UInt8 16)) u11, raw b7 (Flat.enc (Vector.replicate 16 (0 : UInt8))), raw b5 (Flat.enc s25.1), raw b1 (cat [[(vI p0.Field)], Flat.enc p0.Box, Flat.enc p0.Mix, Flat.enc p0.Places, [(vI p0.Rounds)]])]) hl23 ⟨hE.sub ⟨rfl, rfl, rfl, rfl, rfl, rfl, trivial⟩, hM⟩ ?_
   rintro s25 a w ⟨hE, hM⟩ o28 hs26 hx27
   unfold Y1 at hs26
   refine wp_seq (Zc (Zd hE Za (dl rfl) rfl ?_)); intro a hE
   refine Zd hE Za (dl rfl) rfl ?_; intro a hE
   refine Zh hE Za (dl rfl) rfl rfl rfl ?_; intro a hE
   refine Zf ?_
   refine Zt hE rfl ?_ ?_
   ·intro hb29
    have hs26 := ZA hs26 hb29
    refine wp_skip (Zx ?_)
    obtain ⟨j30, hl31, hF32⟩ := bind_some hs26
    refine ZS (fun a w => Env 48 a [(3, (vI p3)), (4, (ptr b1 0)), (6, (ptr b5 0)), (8, (ptr b7 0)), (9, u11), (10, (vI s25.2))] ∧ M (Old w0) w0 w [osl NoB (r9 : List (Vector UInt8 16)) u11, raw b7 (Flat.enc (Vector.replicate 16 (0 : UInt8))), raw b5 (Flat.enc j30), raw b1 (cat [[(vI p0.Field)], Flat.enc p0.Box, Flat.enc p0.Mix, Flat.enc p0.Places, [(vI p0.Rounds)]])]) ?_ ?_
    ·skip
     refine wp_block ?_
     obtain ⟨j33, hl34, hF35⟩ := bind_some hl31
     refine ZS (fun a w => Env 48 a [(3, (vI p3)), (4, (ptr b1 0)), (6, (ptr b5 0)), (8, (ptr b7 0)), (9, u11), (10, (vI s25.2))] ∧ M (Old w0) w0 w [osl NoB (r9 : List (Vector UInt8 16)) u11, raw b7 (Flat.enc (Vector.replicate 16 (0 : UInt8))), raw b5 (Flat.enc j33), raw b1 (cat [[(vI p0.Field)], Flat.enc p0.Box, Flat.enc p0.Mix, Flat.enc p0.Places, [(vI p0.Rounds)]])]) ?_ ?_
     ·skip
      obtain ⟨r37, e38, hl34⟩ := bind_some hl34
      obtain ⟨r39, e40, hl34⟩ := bind_some hl34
      refine Yd (n := 48) (hd := [_, _, _, _, _, _, _]) (tl := [_]) YB rfl rfl [25, 26, 27, 28, 29, 30, 31] (by decide) (fun w => M (Old w0) w0 w [osl NoB (r9 : List (Vector UInt8 16)) u11, raw b7 (Flat.enc (Vector.replicate 16 (0 : UInt8))), raw b5 (Flat.enc s25.1), raw b1 (cat [[(vI p0.Field)], Flat.enc p0.Box, Flat.enc p0.Mix, Flat.enc p0.Places, [(vI p0.Rounds)]])]) (fun j => ([fun v _ => v = (ptr b1 (0 + 273)), fun v _ => v = (Value.agg (Flat.enc p0.Places).toArray), fun v _ => v = (ptr b1 (0 + 1)), fun v _ => v = (Value.agg (Flat.enc p0.Box).toArray), fun v _ => v = (Value.agg (Flat.enc s25.1).toArray), fun v _ => v = (Value.agg (Flat.enc r37).toArray), fun v _ => v = (Value.agg (Flat.enc r39).toArray)] : List (Value → World → Prop)).getD j (fun _ _ => True)) (fun _ _ h hk => h.keep hk) (gup (Zg (Zg (Zg (Zg (Zg (Zg (Zg Wu)))))))) hE hM.drew (ZH (Zb ?_ (Zb ?_ (Zb ?_ (Zb ?_ (Zb ?_ (Zb ?_ (Zb ?_ ZD)))))))) ?_
      ·exact fun a w ux36 hE hM hp => Zo hE Za (dl rfl) rfl (fd103_3) fun a hE => ⟨Kept.refl _ _, _, _, rfl, hE, rfl⟩
      ·intro a w ux36 hE hM hp
       have f0 : ux36 0 = (ptr b1 (0 + 273)) := hp 0 _ rfl rfl
       exact Zp (cs := Flat.enc p0.Places) hE Za (dl rfl) (lk rfl f0) ty101 rfl (At.cat (pre := [[(vI p0.Field)], Flat.enc p0.Box, Flat.enc p0.Mix]) (hM.rawAt (pre := [_, _, _])) (cl1 (n := 1) (m := 272) rfl (cl1 (n := 256) (m := 16) (Flat.len _) (cl1 (n := 16) (m := 0) (Flat.len _) cl0)))) (Flat.len _) fun a hE => ⟨Kept.refl _ _, _, _, rfl, hE, rfl⟩
      ·exact fun a w ux36 hE hM hp => Zo hE Za (dl rfl) rfl (fd103_1) fun a hE => ⟨Kept.refl _ _, _, _, rfl, hE, rfl⟩
      ·intro a w ux36 hE hM hp
       have f2 : ux36 2 = (ptr b1 (0 + 1)) := hp 0 _ rfl rfl
       exact Zp (cs := Flat.enc p0.Box) hE Za (dl rfl) (lk rfl f2) Vn rfl (At.cat (pre := [[(vI p0.Field)]]) (hM.rawAt (pre := [_, _, _])) (cl1 (n := 1) (m := 0) rfl cl0)) (Flat.len _) fun a hE => ⟨Kept.refl _ _, _, _, rfl, hE, rfl⟩
      ·exact fun a w ux36 hE hM hp => Zp (cs := Flat.enc s25.1) hE Za (dl rfl) rfl ZP rfl (hM.rawAt (pre := [_, _])) (Flat.len _) fun a hE => ⟨Kept.refl _ _, _, _, rfl, hE, rfl⟩
      ·intro a w ux36 hE hM hp
       have f3 : ux36 3 = (Value.agg (Flat.enc p0.Box).toArray) := hp 0 _ rfl rfl
       have f4 : ux36 4 = (Value.agg (Flat.enc s25.1).toArray) := hp 1 _ rfl rfl
       refine Zw (vs := [(Value.agg (Flat.enc p0.Box).toArray), (Value.agg (Flat.enc s25.1).toArray)]) hE Za (dl rfl) (Z0 (ZY (lk rfl f3) (ZY (lk rfl f4) Xf))) cb121 (c_spec_l04Boxes _ p0.Box s25.1 r37 e38) ?_
       rintro v w a ⟨rfl, hK⟩ hE
       exact ⟨hK, _, _, rfl, hE, rfl⟩
      ·intro a w ux36 hE hM hp
       have f1 : ux36 1 = (Value.agg (Flat.enc p0.Places).toArray) := hp 0 _ rfl rfl
       have f5 : ux36 5 = (Value.agg (Flat.enc r37).toArray) := hp 1 _ rfl rfl
       refine Zw (vs := [(Value.agg (Flat.enc p0.Places).toArray), (Value.agg (Flat.enc r37).toArray)]) hE Za (dl rfl) (Z0 (ZY (lk rfl f1) (ZY (lk rfl f5) Xf))) cb120 (c_spec_l03Move _ p0.Places r37 r39 e40) ?_
       rintro v w a ⟨rfl, hK⟩ hE
       exact ⟨hK, _, _, rfl, hE, rfl⟩
      ·intro a w ux36 hE hM hg
       have hE := hE.sub (e' := [(31, (Value.agg (Flat.enc r39).toArray)), (3, (vI p3)), (4, (ptr b1 0)), (6, (ptr b5 0)), (8, (ptr b7 0)), (9, u11), (10, (vI s25.2)), (20, (vI s25.2)), (21, (vI p3)), (22, (vT (decide (s25.2 ≤ p3))))]) ⟨lk rfl (hg 6 (by decide)), rfl, rfl, rfl, rfl, rfl, rfl, rfl, rfl, rfl, trivial⟩
       have hM := hM.pull (pre := [_, _])
       refine Zs (seg := Flat.enc r39) (cs' := Flat.enc r39) hE hM Za rfl rfl rfl ZP (Flat.len _) (zle flq) (Flat.cell _) (Zq flq) ?_; intro w a hM hE
       refine Zj ?_
       have ht41 := Option.some.inj hl34
       subst ht41
       refine Zl ?_
       have hM := hM.pull (pre := [_, _, _])
       have hM := hM.pull (pre := [_])
       have hM := hM.pull (pre := [_, _, _])
       have hM := hM.pull (pre := [_, _, _])
       exact ⟨hE.sub ⟨rfl, rfl, rfl, rfl, rfl, rfl, trivial⟩, hM⟩
     ·skip
      rintro a w ⟨hE, hM⟩
      obtain ⟨j42, hl43, hF44⟩ := bind_some hF35
      refine ZS (fun a w => Env 48 a [(3, (vI p3)), (4, (ptr b1 0)), (6, (ptr b5 0)), (8, (ptr b7 0)), (9, u11), (10, (vI s25.2))] ∧ M (Old w0) w0 w [osl NoB (r9 : List (Vector UInt8 16)) u11, raw b7 (Flat.enc (Vector.replicate 16 (0 : UInt8))), raw b5 (Flat.enc j42), raw b1 (cat [[(vI p0.Field)], Flat.enc p0.Box, Flat.enc p0.Mix, Flat.enc p0.Places, [(vI p0.Rounds)]])]) ?_ ?_
      ·skip
       refine Zc (Zd hE Za (dl rfl) rfl ?_); intro a hE
       refine Zd hE Za (dl rfl) rfl ?_; intro a hE
       refine Zh hE Za (dl rfl) rfl rfl rfl ?_; intro a hE
       refine Zf ?_
       refine Zt hE rfl ?_ ?_
       ·intro hb45
        have hl43 := ZA hl43 hb45
        refine wp_region_lit (Zo hE Za (dl rfl) rfl (fd103_0) ?_); intro a hE
        refine Zv (v := (vI p0.Field)) hE Za (dl rfl) rfl ty2 rfl (At.cat (pre := []) (hM.rawAt (pre := [_, _, _])) cl0) ?_; intro a hE
        refine Zo hE Za (dl rfl) rfl (fd103_2) ?_; intro a hE
        refine Zp (cs := Flat.enc p0.Mix) hE Za (dl rfl) rfl VM rfl (At.cat (pre := [[(vI p0.Field)], Flat.enc p0.Box]) (hM.rawAt (pre := [_, _, _])) (cl1 (n := 1) (m := 256) rfl (cl1 (n := 256) (m := 0) (Flat.len _) cl0))) (Flat.len _) ?_; intro a hE
        refine Zp (cs := Flat.enc j33) hE Za (dl rfl) rfl ZP rfl (hM.rawAt (pre := [_, _])) (Flat.len _) ?_; intro a hE
        obtain ⟨r46, e47, hl43⟩ := bind_some hl43
        refine Zw (vs := [(vI p0.Field), (Value.agg (Flat.enc p0.Mix).toArray), (Value.agg (Flat.enc j33).toArray)]) hE Za (dl rfl) rfl cb122 (c_spec_l03Mix _ p0.Field p0.Mix j33 r46 e47) ?_
        rintro v w a ⟨rfl, hK⟩ hE
        have hM := hM.keep hK
        have hM := hM.pull (pre := [_, _])
        refine Zs (seg := Flat.enc r46) (cs' := Flat.enc r46) hE hM Za rfl rfl rfl ZP (Flat.len _) (zle flq) (Flat.cell _) (Zq flq) ?_; intro w a hM hE
        refine Zj ?_
        have ht48 := Option.some.inj hl43
        subst ht48
        refine Zl ?_
        have hM := hM.pull (pre := [_, _, _])
        have hM := hM.pull (pre := [_])
        have hM := hM.pull (pre := [_, _, _])
        have hM := hM.pull (pre := [_, _, _])
        exact ⟨hE.sub ⟨rfl, rfl, rfl, rfl, rfl, rfl, trivial⟩, hM⟩
       ·intro hb45
        have hl43 := Zz hl43 hb45
        refine wp_skip ?_
        have ht49 := Option.some.inj hl43
        subst ht49
        refine Zl ?_
        exact ⟨hE.sub ⟨rfl, rfl, rfl, rfl, rfl, rfl, trivial⟩, hM⟩
      ·skip
       rintro a w ⟨hE, hM⟩
       obtain ⟨x51, e52, hF44⟩ := bind_some hF44
       have hi53 := ZQ e52
       obtain ⟨r54, e55, hF44⟩ := bind_some hF44
       refine Yd (n := 48) (hd := [_, _, _, _, _, _]) (tl := [_]) YB rfl rfl [41, 42, 43, 44, 45, 46] (by decide) (fun w => M (Old w0) w0 w [osl NoB (r9 : List (Vector UInt8 16)) u11, raw b7 (Flat.enc (Vector.replicate 16 (0 : UInt8))), raw b5 (Flat.enc j42), raw b1 (cat [[(vI p0.Field)], Flat.enc p0.Box, Flat.enc p0.Mix, Flat.enc p0.Places, [(vI p0.Rounds)]])]) (fun j => ([fun v _ => v = (Value.agg (Flat.enc j42).toArray), fun v _ => v = u11, fun v _ => v = (vI s25.2), fun v _ => v = (ptr (sb u11) (so u11 + (s25.2).toNat * 16)), fun v _ => v = (Value.agg (Flat.enc x51).toArray), fun v _ => v = (Value.agg (Flat.enc r54).toArray)] : List (Value → World → Prop)).getD j (fun _ _ => True)) (fun _ _ h hk => h.keep hk) (gup (Zg (Zg (Zg (Zg (Zg (Zg Wu))))))) hE hM.drew (ZH (Zb ?_ (Zb ?_ (Zb ?_ (Zb ?_ (Zb ?_ (Zb ?_ ZD))))))) ?_
       ·exact fun a w ux50 hE hM hp => Zp (cs := Flat.enc j42) hE Za (dl rfl) rfl ZP rfl (hM.rawAt (pre := [_, _])) (Flat.len _) fun a hE => ⟨Kept.refl _ _, _, _, rfl, hE, rfl⟩
       ·exact fun a w ux50 hE hM hp => Zd hE Za (dl rfl) rfl fun a hE => ⟨Kept.refl _ _, _, _, rfl, hE, rfl⟩
       ·exact fun a w ux50 hE hM hp => Zd hE Za (dl rfl) rfl fun a hE => ⟨Kept.refl _ _, _, _, rfl, hE, rfl⟩
       ·intro a w ux50 hE hM hp
        have f1 : ux50 1 = u11 := hp 0 _ rfl rfl
        have f2 : ux50 2 = (vI s25.2) := hp 1 _ rfl rfl
        exact ZK hE Za (dl rfl) (lk rfl f1) (lk rfl f2) Try.underlying34 ZP (hM.sl (pre := []) noB) hi53.1 fun a hE => ⟨Kept.refl _ _, _, _, rfl, hE, rfl⟩
       ·intro a w ux50 hE hM hp
        have f3 : ux50 3 = (ptr (sb u11) (so u11 + (s25.2).toNat * 16)) := hp 0 _ rfl rfl
        exact Zp (cs := Flat.enc x51) hE Za (dl rfl) (lk rfl f3) ZP rfl (Yt (hM.sl (pre := []) noB) hi53.2) (Flat.len _) fun a hE => ⟨Kept.refl _ _, _, _, rfl, hE, rfl⟩
       ·intro a w ux50 hE hM hp
        have f0 : ux50 0 = (Value.agg (Flat.enc j42).toArray) := hp 0 _ rfl rfl
        have f4 : ux50 4 = (Value.agg (Flat.enc x51).toArray) := hp 1 _ rfl rfl
        refine Zw (vs := [(Value.agg (Flat.enc j42).toArray), (Value.agg (Flat.enc x51).toArray)]) hE Za (dl rfl) (Z0 (ZY (lk rfl f0) (ZY (lk rfl f4) Xf))) cb101 (Vm _ j42 x51 r54 e55) ?_
        rintro v w a ⟨rfl, hK⟩ hE
        exact ⟨hK, _, _, rfl, hE, rfl⟩
       ·intro a w ux50 hE hM hg
        have hE := hE.sub (e' := [(46, (Value.agg (Flat.enc r54).toArray)), (3, (vI p3)), (4, (ptr b1 0)), (6, (ptr b5 0)), (8, (ptr b7 0)), (9, u11), (10, (vI s25.2))]) ⟨lk rfl (hg 5 (by decide)), rfl, rfl, rfl, rfl, rfl, rfl, trivial⟩
        have hM := hM.pull (pre := [_, _])
        refine Zs (seg := Flat.enc r54) (cs' := Flat.enc r54) hE hM Za rfl rfl rfl ZP (Flat.len _) (zle flq) (Flat.cell _) (Zq flq) ?_; intro w a hM hE
        refine Zj (Yk ?_)
        have ht56 := Option.some.inj hF44
        subst ht56
        refine Zl ?_
        have hM := hM.pull (pre := [_, _, _])
        have hM := hM.pull (pre := [_])
        have hM := hM.pull (pre := [_, _, _])
        have hM := hM.pull (pre := [_, _, _])
        exact ⟨hE.sub ⟨rfl, rfl, rfl, rfl, rfl, rfl, trivial⟩, hM⟩
    ·skip
     rintro a w ⟨hE, hM⟩
     refine wp_region_lit (Zd hE Za (dl rfl) rfl ?_); intro a hE
     refine Zh hE Za (dl rfl) rfl rfl rfl ?_; intro a hE
     refine Ze hE Za (dl rfl) rfl ?_; intro a hE
     refine Zj (Zl ?_)
     exact ⟨_, (Option.some.inj hF32).symm, hE.sub ⟨rfl, rfl, rfl, rfl, rfl, rfl, trivial⟩, hM⟩
   ·intro hb29
    have hs26 := Zz hs26 hb29
    refine wp_exit (Zr (Zr (Yj ?_)))
    have ht57 := hx27 _ (Option.some.inj hs26).symm
    subst ht57
    refine Zl ?_
    have hM := hM.pull (pre := [_, _])
    have hM := hM.pull (pre := [_, _])
    have hM := M.fst (l := [_, _]) hM
    exact ⟨hE.sub ⟨rfl, rfl, trivial⟩, hM⟩
  ·skip
   rintro a w ⟨hE, hM⟩
   refine Zx (Zc (Zp (cs := Flat.enc j22) hE Za (dl rfl) rfl ZP rfl (hM.rawAt (pre := [_])) (Flat.len _) ?_)); intro a hE
   refine Zs (seg := Flat.enc j22) (cs' := Flat.enc j22) hE hM Za rfl rfl rfl ZP (Flat.len _) (zle flq) (Flat.cell _) (Zq flq) ?_; intro w a hM hE
   refine Zf ?_
   have hr := Option.some.inj hF24
   subst hr
   have hq58 : YR Try.prog _ _ (.cell 8 39) _ := Z6 hE rfl ZP rfl (hM.rawAt (pre := [])) (Flat.len _) rfl
   have hM := M.fst (l := []) hM
   exact wp_ret (Zy hE rfl hq58 ⟨_, rfl, rfl, hM.kept⟩)
noncomputable def Xz (r31 : (Vector UInt8 16)) (r40 : (Vector UInt8 16)) (s51 : (Vector UInt8 32) × Int) : Option (Fl ((Vector UInt8 32) × Int) (Vector UInt8 32)) :=
 if (decide (s51.2 < 16)) = true then ((ZM r31 s51.2).bind fun x57 => (ZM s51.1 s51.2).bind fun x60 => (ZM r40 s51.2).bind fun x63 => (ZM (s51.1.setIfInBounds (s51.2).toNat x57) (wr (16 + s51.2))).bind fun x66 => some (Fl.nx (((s51.1.setIfInBounds (s51.2).toNat x57).setIfInBounds ((wr (16 + s51.2))).toNat x63), wr (s51.2 + 1)))) else (some (Fl.ex s51.1))
noncomputable def XU (p0 : GCipher) (p1 : (Vector UInt8 32)) (p2 : (Vector UInt8 16)) : Option ((Vector UInt8 32)) :=
 (WP p1).bind fun r9 => (YS r9.1 p2).bind fun r16 => (YS r9.2 p2).bind fun r18 => (YI p0 r9.2 r16 p0.Rounds).bind fun r29 => (YS r29 r16).bind fun r31 => (YI p0 r31 r18 p0.Rounds).bind fun r38 => (YS r38 r18).bind fun r40 => (ZF (Xz r31 r40) ((Vector.replicate 32 (0 : UInt8)), 0) : Option ((Vector UInt8 32))).bind fun j48 => some j48
theorem c_spec_l08Absorb (w0 : World) (p0 : GCipher) (p1 : (Vector UInt8 32)) (p2 : (Vector UInt8 16)) (r : (Vector UInt8 32)) (hF : XU p0 p1 p2 = some r) :
  Calls Try.prog 85 [(Value.agg (Flat.enc p0).toArray), (Value.agg (Flat.enc p1).toArray), (Value.agg (Flat.enc p2).toArray)].toArray w0 (fun en w' => ∃ v, en = .returned v ∧ (v = (Value.agg (Flat.enc r).toArray) ∧ Kept (Old w0) w0 w')) := by
 refine ZC (n := 59) Try.func85 rfl rfl (Nat.le_of_ble_eq_true rfl) rfl ?_
 intro a hE
 have hM := M.start w0
 unfold XU at hF
 refine Zc (Z4 (cs := cat [[(vI p0.Field)], Flat.enc p0.Box, Flat.enc p0.Mix, Flat.enc p0.Places, [(vI p0.Rounds)]]) hE hM Za (dl rfl) rfl rfl ?_); intro b1 w a hM hE
 refine Z4 (cs := Flat.enc p1) hE hM Za (dl rfl) rfl rfl ?_; intro b3 w a hM hE
 refine Z4 (cs := Flat.enc p2) hE hM Za (dl rfl) rfl rfl ?_; intro b5 w a hM hE
 refine ZO hE hM Za (dl rfl) Yi ?_; intro b7 w a hM hE
 refine Zf (Zc (Zp (cs := Flat.enc p1) hE Za (dl rfl) rfl Yi rfl (hM.rawAt (pre := [_, _])) (Flat.len _) ?_)); intro a hE
 obtain ⟨r9, e10, hF⟩ := bind_some hF
 refine Zw (vs := [(Value.agg (Flat.enc p1).toArray)]) hE Za (dl rfl) rfl cb100 (c_spec_l08Halves _ p1 r9 e10) ?_
 rintro v w a ⟨rfl, hK⟩ hE
 have hM := hM.keep hK
 refine Zd hE Za (dl rfl) rfl ?_; intro a hE
 refine Xy hE Za (dl rfl) rfl rfl ?_; intro a hE
 refine Xy hE Za (dl rfl) rfl rfl ?_; intro a hE
 refine ZO hE hM Za (dl rfl) ZP ?_; intro b11 w a hM hE
 refine ZO hE hM Za (dl rfl) ZP ?_; intro b13 w a hM hE
 have hM := hM.pull (pre := [_])
 refine Zs (seg := Flat.enc r9.1) (cs' := Flat.enc r9.1) hE hM Za rfl rfl rfl ZP (Flat.len _) (zle flq) (Flat.cell _) (Zq flq) ?_; intro w a hM hE
 have hM := hM.pull (pre := [_])
 refine Zs (seg := Flat.enc r9.2) (cs' := Flat.enc r9.2) hE hM Za rfl rfl rfl ZP (Flat.len _) (zle flq) (Flat.cell _) (Zq flq) ?_; intro w a hM hE
 refine Zf (wp_seq ?_)
 obtain ⟨r16, e17, hF⟩ := bind_some hF
 obtain ⟨r18, e19, hF⟩ := bind_some hF
 refine WA (n := 59) (hd := [_, _, _, _, _, _, _, _]) (tl := [_, _]) YB rfl rfl [20, 21, 22, 23, 24, 25, 9, 10] (by decide) (fun D u w => M (Old w0) w0 w ([raw b13 (Flat.enc r9.2), raw b11 (Flat.enc r9.1), raw b7 (Flat.enc (Vector.replicate 32 (0 : UInt8))), raw b5 (Flat.enc p2), raw b3 (Flat.enc p1), raw b1 (cat [[(vI p0.Field)], Flat.enc p0.Box, Flat.enc p0.Mix, Flat.enc p0.Places, [(vI p0.Rounds)]])] ++ qL ([mkO 6 (fun v => rawP v (Flat.enc (Vector.replicate 16 (0 : UInt8)))), mkO 7 (fun v => rawP v (Flat.enc (Vector.replicate 16 (0 : UInt8))))] : Mk) D u) ∧ GOk ([([], fun us v => v = (Value.agg (Flat.enc r9.1).toArray)), ([], fun us v => v = (Value.agg (Flat.enc p2).toArray)), ([], fun us v => v = (Value.agg (Flat.enc r16).toArray)), ([], fun us v => v = (Value.agg (Flat.enc r9.2).toArray)), ([], fun us v => v = (Value.agg (Flat.enc p2).toArray)), ([], fun us v => v = (Value.agg (Flat.enc r18).toArray)), ([], fun us v => True), ([], fun us v => True)] : Gs) D u) hE (fun u => ⟨M.qE (M.qE (M.q0 hM.drew u) emO) emO, gok0⟩) (ZH (Zb ?_ (Zb ?_ (Zb ?_ (Zb ?_ (Zb ?_ (Zb ?_ (Zb ?_ (Zb ?_ ZD))))))))) ?_
 ·intro a w ux15 D hE hI hD hdc hp
  have hM0 := hI.1
  have hM := hI.1
  exact Zp (cs := Flat.enc r9.1) hE Za (dl rfl) rfl ZP rfl (hM.rawAt (pre := [_])) (Flat.len _) fun a hE => ⟨_, _, rfl, hE, M.qKeep hM0 rfl, hI.2.put hD rfl ZE rfl⟩
 ·intro a w ux15 D hE hI hD hdc hp
  have hM0 := hI.1
  have hM := hI.1
  exact Zp (cs := Flat.enc p2) hE Za (dl rfl) rfl ZP rfl (hM.rawAt (pre := [_, _, _])) (Flat.len _) fun a hE => ⟨_, _, rfl, hE, M.qKeep hM0 rfl, hI.2.put hD rfl ZE rfl⟩
 ·intro a w ux15 D hE hI hD hdc hp
  have d0 : D 0 = true := hp 0 _ rfl rfl
  have g0 := hI.2 0 d0 _ rfl
  have f0 : ux15 0 = (Value.agg (Flat.enc r9.1).toArray) := g0.2
  have d1 : D 1 = true := hp 1 _ rfl rfl
  have g1 := hI.2 1 d1 _ rfl
  have f1 : ux15 1 = (Value.agg (Flat.enc p2).toArray) := g1.2
  have hM0 := hI.1
  refine Zw (vs := [(Value.agg (Flat.enc r9.1).toArray), (Value.agg (Flat.enc p2).toArray)]) hE Za (dl rfl) (Z0 (ZY (lk rfl f0) (ZY (lk rfl f1) Xf))) cb101 (Vm _ r9.1 p2 r16 e17) ?_
  rintro v w a ⟨rfl, hK⟩ hE
  exact ⟨_, _, rfl, hE, M.qKeep (hM0.keep hK) rfl, hI.2.put hD rfl ZE rfl⟩
 ·intro a w ux15 D hE hI hD hdc hp
  have hM0 := hI.1
  have hM := hI.1
  exact Zp (cs := Flat.enc r9.2) hE Za (dl rfl) rfl ZP rfl (hM.rawAt (pre := [])) (Flat.len _) fun a hE => ⟨_, _, rfl, hE, M.qKeep hM0 rfl, hI.2.put hD rfl ZE rfl⟩
 ·intro a w ux15 D hE hI hD hdc hp
  have hM0 := hI.1
  have hM := hI.1
  exact Zp (cs := Flat.enc p2) hE Za (dl rfl) rfl ZP rfl (hM.rawAt (pre := [_, _, _])) (Flat.len _) fun a hE => ⟨_, _, rfl, hE, M.qKeep hM0 rfl, hI.2.put hD rfl ZE rfl⟩
 ·intro a w ux15 D hE hI hD hdc hp
  have d3 : D 3 = true := hp 0 _ rfl rfl
  have g3 := hI.2 3 d3 _ rfl
  have f3 : ux15 3 = (Value.agg (Flat.enc r9.2).toArray) := g3.2
  have d4 : D 4 = true := hp 1 _ rfl rfl
  have g4 := hI.2 4 d4 _ rfl
  have f4 : ux15 4 = (Value.agg (Flat.enc p2).toArray) := g4.2
  have hM0 := hI.1
  refine Zw (vs := [(Value.agg (Flat.enc r9.2).toArray), (Value.agg (Flat.enc p2).toArray)]) hE Za (dl rfl) (Z0 (ZY (lk rfl f3) (ZY (lk rfl f4) Xf))) cb101 (Vm _ r9.2 p2 r18 e19) ?_
  rintro v w a ⟨rfl, hK⟩ hE
  exact ⟨_, _, rfl, hE, M.qKeep (hM0.keep hK) rfl, hI.2.put hD rfl ZE rfl⟩
 ·intro a w ux15 D hE hI hD hdc hp
  have hM0 := hI.1
  have hM := hI.1
  refine ZO hE hM Za (dl rfl) ZP ?_; intro b20 w a hM hE
  have hM := hM.pack1 (it := rawP _ (Flat.enc (Vector.replicate 16 (0 : UInt8)))) (fun w w' fp ⟨b', e, k⟩ hb => ⟨b', e, Wz w w' fp k hb⟩) (fun fp k => ⟨_, rfl, k⟩)
  exact ⟨_, _, rfl, hE, M.qFill (mk1 := []) (mk2 := [_]) (f := fun v => rawP v (Flat.enc (Vector.replicate 16 (0 : UInt8)))) hM rfl hD, hI.2.put hD rfl ZE trivial⟩
 ·intro a w ux15 D hE hI hD hdc hp
  have hM0 := hI.1
  have hM := hI.1
  refine ZO hE hM Za (dl rfl) ZP ?_; intro b22 w a hM hE
  have hM := hM.pack1 (it := rawP _ (Flat.enc (Vector.replicate 16 (0 : UInt8)))) (fun w w' fp ⟨b', e, k⟩ hb => ⟨b', e, Wz w w' fp k hb⟩) (fun fp k => ⟨_, rfl, k⟩)
  exact ⟨_, _, rfl, hE, M.qFill (mk1 := [_]) (mk2 := []) (f := fun v => rawP v (Flat.enc (Vector.replicate 16 (0 : UInt8)))) hM rfl hD, hI.2.put hD rfl ZE trivial⟩
 ·intro a w ux15 D hE hI hall
  have hM : M (Old w0) w0 w [raw b13 (Flat.enc r9.2), raw b11 (Flat.enc r9.1), raw b7 (Flat.enc (Vector.replicate 32 (0 : UInt8))), raw b5 (Flat.enc p2), raw b3 (Flat.enc p1), raw b1 (cat [[(vI p0.Field)], Flat.enc p0.Box, Flat.enc p0.Mix, Flat.enc p0.Places, [(vI p0.Rounds)]]), opt (D 6) (rawP (ux15 6) (Flat.enc (Vector.replicate 16 (0 : UInt8)))), opt (D 7) (rawP (ux15 7) (Flat.enc (Vector.replicate 16 (0 : UInt8))))] := hI.1
  have d0 : D 0 = true := hall 0 (by decide)
  have d1 : D 1 = true := hall 1 (by decide)
  have d2 : D 2 = true := hall 2 (by decide)
  have d3 : D 3 = true := hall 3 (by decide)
  have d4 : D 4 = true := hall 4 (by decide)
  have d5 : D 5 = true := hall 5 (by decide)
  have d6 : D 6 = true := hall 6 (by decide)
  have d7 : D 7 = true := hall 7 (by decide)
  have f0 : ux15 0 = (Value.agg (Flat.enc r9.1).toArray) := (hI.2 0 d0 _ rfl).2
  have f1 : ux15 1 = (Value.agg (Flat.enc p2).toArray) := (hI.2 1 d1 _ rfl).2
  have f2 : ux15 2 = (Value.agg (Flat.enc r16).toArray) := (hI.2 2 d2 _ rfl).2
  have f3 : ux15 3 = (Value.agg (Flat.enc r9.2).toArray) := (hI.2 3 d3 _ rfl).2
  have f4 : ux15 4 = (Value.agg (Flat.enc p2).toArray) := (hI.2 4 d4 _ rfl).2
  have f5 : ux15 5 = (Value.agg (Flat.enc r18).toArray) := (hI.2 5 d5 _ rfl).2
  have hM := (hM.sure (pre := [_, _, _, _, _, _]) d6).pull
  obtain ⟨_, ⟨b24, f25, _⟩, _⟩ := hM.head
  have hM := hM.pack1 Wz (it := raw b24 (Flat.enc (Vector.replicate 16 (0 : UInt8)))) (fun fp ⟨b2, e2, k2⟩ => by rw [f25] at e2; simp [ptr] at e2; subst e2; exact k2)
  have hM := (hM.sure (pre := [_, _, _, _, _, _, _]) d7).pull
  obtain ⟨_, ⟨b26, f27, _⟩, _⟩ := hM.head
  have hM := hM.pack1 Wz (it := raw b26 (Flat.enc (Vector.replicate 16 (0 : UInt8)))) (fun fp ⟨b2, e2, k2⟩ => by rw [f27] at e2; simp [ptr] at e2; subst e2; exact k2)
  have hE := hE.sub (e' := [(22, (Value.agg (Flat.enc r16).toArray)), (25, (Value.agg (Flat.enc r18).toArray)), (9, (ptr b24 0)), (10, (ptr b26 0)), (0, (Value.agg (Flat.enc p0).toArray)), (1, (Value.agg (Flat.enc p1).toArray)), (2, (Value.agg (Flat.enc p2).toArray)), (3, (ptr b1 0)), (4, (ptr b3 0)), (5, (ptr b5 0)), (6, (ptr b7 0)), (7, (ptr b11 0)), (8, (ptr b13 0)), (15, (Value.tuple [(Value.agg (Flat.enc r9.1).toArray), (Value.agg (Flat.enc r9.2).toArray)].toArray)), (16, (Value.agg (Flat.enc p1).toArray)), (17, (Value.tuple [(Value.agg (Flat.enc r9.1).toArray), (Value.agg (Flat.enc r9.2).toArray)].toArray)), (18, (Value.agg (Flat.enc r9.1).toArray)), (19, (Value.agg (Flat.enc r9.2).toArray))]) ⟨lk rfl f2, lk rfl f5, lk rfl f25, lk rfl f27, rfl, rfl, rfl, rfl, rfl, rfl, rfl, rfl, rfl, rfl, rfl, rfl, rfl, rfl, trivial⟩
  have hM := hM.pull (pre := [_])
  refine Zs (seg := Flat.enc r16) (cs' := Flat.enc r16) hE hM Za rfl rfl rfl ZP (Flat.len _) (zle flq) (Flat.cell _) (Zq flq) ?_; intro w a hM hE
  have hM := hM.pull (pre := [_])
  refine Zs (seg := Flat.enc r18) (cs' := Flat.enc r18) hE hM Za rfl rfl rfl ZP (Flat.len _) (zle flq) (Flat.cell _) (Zq flq) ?_; intro w a hM hE
  refine Zj (Zx (wp_seq ?_))
  obtain ⟨r29, e30, hF⟩ := bind_some hF
  obtain ⟨r31, e32, hF⟩ := bind_some hF
  refine WA (n := 59) (hd := [_, _, _, _, _, _, _, _, _]) (tl := [_]) YB rfl rfl [26, 27, 28, 29, 30, 31, 32, 33, 11] (by decide) (fun D u w => M (Old w0) w0 w ([raw b26 (Flat.enc r18), raw b24 (Flat.enc r16), raw b13 (Flat.enc r9.2), raw b11 (Flat.enc r9.1), raw b7 (Flat.enc (Vector.replicate 32 (0 : UInt8))), raw b5 (Flat.enc p2), raw b3 (Flat.enc p1), raw b1 (cat [[(vI p0.Field)], Flat.enc p0.Box, Flat.enc p0.Mix, Flat.enc p0.Places, [(vI p0.Rounds)]])] ++ qL ([mkO 8 (fun v => rawP v (Flat.enc (Vector.replicate 16 (0 : UInt8))))] : Mk) D u) ∧ GOk ([([], fun us v => v = (Value.agg (Flat.enc p0).toArray)), ([], fun us v => v = (Value.agg (Flat.enc r9.2).toArray)), ([], fun us v => v = (Value.agg (Flat.enc r16).toArray)), ([], fun us v => v = (ptr b1 (0 + 289))), ([], fun us v => v = (vI p0.Rounds)), ([], fun us v => v = (Value.agg (Flat.enc r29).toArray)), ([], fun us v => v = (Value.agg (Flat.enc r16).toArray)), ([], fun us v => v = (Value.agg (Flat.enc r31).toArray)), ([], fun us v => True)] : Gs) D u) hE (fun u => ⟨M.qE (M.q0 hM.drew u) emO, gok0⟩) (ZH (Zb ?_ (Zb ?_ (Zb ?_ (Zb ?_ (Zb ?_ (Zb ?_ (Zb ?_ (Zb ?_ (Zb ?_ ZD)))))))))) ?_
  ·intro a w ux28 D hE hI hD hdc hp
   have hM0 := hI.1
   have hM := hI.1
   exact Zp (cs := Flat.enc p0) hE Za (dl rfl) rfl VP rfl (hM.rawAt (pre := [_, _, _, _, _, _, _])) (ZR (cl1 (n := 1) (m := 289) rfl (cl1 (n := 256) (m := 33) (Flat.len _) (cl1 (n := 16) (m := 17) (Flat.len _) (cl1 (n := 16) (m := 1) (Flat.len _) (cl1 (n := 1) (m := 0) rfl cl0)))))) fun a hE => ⟨_, _, rfl, hE, M.qKeep hM0 rfl, hI.2.put hD rfl ZE rfl⟩
  ·intro a w ux28 D hE hI hD hdc hp
   have hM0 := hI.1
   have hM := hI.1
   exact Zp (cs := Flat.enc r9.2) hE Za (dl rfl) rfl ZP rfl (hM.rawAt (pre := [_, _])) (Flat.len _) fun a hE => ⟨_, _, rfl, hE, M.qKeep hM0 rfl, hI.2.put hD rfl ZE rfl⟩
  ·intro a w ux28 D hE hI hD hdc hp
   have hM0 := hI.1
   have hM := hI.1
   exact Zp (cs := Flat.enc r16) hE Za (dl rfl) rfl ZP rfl (hM.rawAt (pre := [_])) (Flat.len _) fun a hE => ⟨_, _, rfl, hE, M.qKeep hM0 rfl, hI.2.put hD rfl ZE rfl⟩
  ·intro a w ux28 D hE hI hD hdc hp
   have hM0 := hI.1
   exact Zo hE Za (dl rfl) rfl (fd103_4) fun a hE => ⟨_, _, rfl, hE, M.qKeep hM0 rfl, hI.2.put hD rfl ZE rfl⟩
  ·intro a w ux28 D hE hI hD hdc hp
   have d3 : D 3 = true := hp 0 _ rfl rfl
   have g3 := hI.2 3 d3 _ rfl
   have f3 : ux28 3 = (ptr b1 (0 + 289)) := g3.2
   have hM0 := hI.1
   have hM := hI.1
   exact Zv (v := (vI p0.Rounds)) hE Za (dl rfl) (lk rfl f3) ty2 rfl (At.cat (pre := [[(vI p0.Field)], Flat.enc p0.Box, Flat.enc p0.Mix, Flat.enc p0.Places]) (hM.rawAt (pre := [_, _, _, _, _, _, _])) (cl1 (n := 1) (m := 288) rfl (cl1 (n := 256) (m := 32) (Flat.len _) (cl1 (n := 16) (m := 16) (Flat.len _) (cl1 (n := 16) (m := 0) (Flat.len _) cl0))))) fun a hE => ⟨_, _, rfl, hE, M.qKeep hM0 rfl, hI.2.put hD rfl ZE rfl⟩
  ·intro a w ux28 D hE hI hD hdc hp
   have d0 : D 0 = true := hp 0 _ rfl rfl
   have g0 := hI.2 0 d0 _ rfl
   have f0 : ux28 0 = (Value.agg (Flat.enc p0).toArray) := g0.2
   have d1 : D 1 = true := hp 1 _ rfl rfl
   have g1 := hI.2 1 d1 _ rfl
   have f1 : ux28 1 = (Value.agg (Flat.enc r9.2).toArray) := g1.2
   have d2 : D 2 = true := hp 2 _ rfl rfl
   have g2 := hI.2 2 d2 _ rfl
   have f2 : ux28 2 = (Value.agg (Flat.enc r16).toArray) := g2.2
   have d4 : D 4 = true := hp 3 _ rfl rfl
   have g4 := hI.2 4 d4 _ rfl
   have f4 : ux28 4 = (vI p0.Rounds) := g4.2
   have hM0 := hI.1
   refine Zw (vs := [(Value.agg (Flat.enc p0).toArray), (Value.agg (Flat.enc r9.2).toArray), (Value.agg (Flat.enc r16).toArray), (vI p0.Rounds)]) hE Za (dl rfl) (Z0 (ZY (lk rfl f0) (ZY (lk rfl f1) (ZY (lk rfl f2) (ZY (lk rfl f4) Xf))))) cb102 (c_spec_l04Encipher _ p0 r9.2 r16 p0.Rounds r29 e30) ?_
   rintro v w a ⟨rfl, hK⟩ hE
   exact ⟨_, _, rfl, hE, M.qKeep (hM0.keep hK) rfl, hI.2.put hD rfl ZE rfl⟩
  ·intro a w ux28 D hE hI hD hdc hp
   have hM0 := hI.1
   have hM := hI.1
   exact Zp (cs := Flat.enc r16) hE Za (dl rfl) rfl ZP rfl (hM.rawAt (pre := [_])) (Flat.len _) fun a hE => ⟨_, _, rfl, hE, M.qKeep hM0 rfl, hI.2.put hD rfl ZE rfl⟩
  ·intro a w ux28 D hE hI hD hdc hp
   have d5 : D 5 = true := hp 0 _ rfl rfl
   have g5 := hI.2 5 d5 _ rfl
   have f5 : ux28 5 = (Value.agg (Flat.enc r29).toArray) := g5.2
   have d6 : D 6 = true := hp 1 _ rfl rfl
   have g6 := hI.2 6 d6 _ rfl
   have f6 : ux28 6 = (Value.agg (Flat.enc r16).toArray) := g6.2
   have hM0 := hI.1
   refine Zw (vs := [(Value.agg (Flat.enc r29).toArray), (Value.agg (Flat.enc r16).toArray)]) hE Za (dl rfl) (Z0 (ZY (lk rfl f5) (ZY (lk rfl f6) Xf))) cb101 (Vm _ r29 r16 r31 e32) ?_
   rintro v w a ⟨rfl, hK⟩ hE
   exact ⟨_, _, rfl, hE, M.qKeep (hM0.keep hK) rfl, hI.2.put hD rfl ZE rfl⟩
  ·intro a w ux28 D hE hI hD hdc hp
   have hM0 := hI.1
   have hM := hI.1
   refine ZO hE hM Za (dl rfl) ZP ?_; intro b33 w a hM hE
   have hM := hM.pack1 (it := rawP _ (Flat.enc (Vector.replicate 16 (0 : UInt8)))) (fun w w' fp ⟨b', e, k⟩ hb => ⟨b', e, Wz w w' fp k hb⟩) (fun fp k => ⟨_, rfl, k⟩)
   exact ⟨_, _, rfl, hE, M.qFill (mk1 := []) (mk2 := []) (f := fun v => rawP v (Flat.enc (Vector.replicate 16 (0 : UInt8)))) hM rfl hD, hI.2.put hD rfl ZE trivial⟩
  ·intro a w ux28 D hE hI hall
   have hM : M (Old w0) w0 w [raw b26 (Flat.enc r18), raw b24 (Flat.enc r16), raw b13 (Flat.enc r9.2), raw b11 (Flat.enc r9.1), raw b7 (Flat.enc (Vector.replicate 32 (0 : UInt8))), raw b5 (Flat.enc p2), raw b3 (Flat.enc p1), raw b1 (cat [[(vI p0.Field)], Flat.enc p0.Box, Flat.enc p0.Mix, Flat.enc p0.Places, [(vI p0.Rounds)]]), opt (D 8) (rawP (ux28 8) (Flat.enc (Vector.replicate 16 (0 : UInt8))))] := hI.1
   have d0 : D 0 = true := hall 0 (by decide)
   have d1 : D 1 = true := hall 1 (by decide)
   have d2 : D 2 = true := hall 2 (by decide)
   have d3 : D 3 = true := hall 3 (by decide)
   have d4 : D 4 = true := hall 4 (by decide)
   have d5 : D 5 = true := hall 5 (by decide)
   have d6 : D 6 = true := hall 6 (by decide)
   have d7 : D 7 = true := hall 7 (by decide)
   have d8 : D 8 = true := hall 8 (by decide)
   have f0 : ux28 0 = (Value.agg (Flat.enc p0).toArray) := (hI.2 0 d0 _ rfl).2
   have f1 : ux28 1 = (Value.agg (Flat.enc r9.2).toArray) := (hI.2 1 d1 _ rfl).2
   have f2 : ux28 2 = (Value.agg (Flat.enc r16).toArray) := (hI.2 2 d2 _ rfl).2
   have f3 : ux28 3 = (ptr b1 (0 + 289)) := (hI.2 3 d3 _ rfl).2
   have f4 : ux28 4 = (vI p0.Rounds) := (hI.2 4 d4 _ rfl).2
   have f5 : ux28 5 = (Value.agg (Flat.enc r29).toArray) := (hI.2 5 d5 _ rfl).2
   have f6 : ux28 6 = (Value.agg (Flat.enc r16).toArray) := (hI.2 6 d6 _ rfl).2
   have f7 : ux28 7 = (Value.agg (Flat.enc r31).toArray) := (hI.2 7 d7 _ rfl).2
   have hM := (hM.sure (pre := [_, _, _, _, _, _, _, _]) d8).pull
   obtain ⟨_, ⟨b35, f36, _⟩, _⟩ := hM.head
   have hM := hM.pack1 Wz (it := raw b35 (Flat.enc (Vector.replicate 16 (0 : UInt8)))) (fun fp ⟨b2, e2, k2⟩ => by rw [f36] at e2; simp [ptr] at e2; subst e2; exact k2)
   have hE := hE.sub (e' := [(33, (Value.agg (Flat.enc r31).toArray)), (11, (ptr b35 0)), (0, (Value.agg (Flat.enc p0).toArray)), (1, (Value.agg (Flat.enc p1).toArray)), (2, (Value.agg (Flat.enc p2).toArray)), (3, (ptr b1 0)), (4, (ptr b3 0)), (5, (ptr b5 0)), (6, (ptr b7 0)), (7, (ptr b11 0)), (8, (ptr b13 0)), (9, (ptr b24 0)), (10, (ptr b26 0)), (15, (Value.tuple [(Value.agg (Flat.enc r9.1).toArray), (Value.agg (Flat.enc r9.2).toArray)].toArray)), (16, (Value.agg (Flat.enc p1).toArray)), (17, (Value.tuple [(Value.agg (Flat.enc r9.1).toArray), (Value.agg (Flat.enc r9.2).toArray)].toArray)), (18, (Value.agg (Flat.enc r9.1).toArray)), (19, (Value.agg (Flat.enc r9.2).toArray)), (22, (Value.agg (Flat.enc r16).toArray)), (25, (Value.agg (Flat.enc r18).toArray))]) ⟨lk rfl f7, lk rfl f36, rfl, rfl, rfl, rfl, rfl, rfl, rfl, rfl, rfl, rfl, rfl, rfl, rfl, rfl, rfl, rfl, rfl, rfl, trivial⟩
   refine Zs (seg := Flat.enc r31) (cs' := Flat.enc r31) hE hM Za rfl rfl rfl ZP (Flat.len _) (zle flq) (Flat.cell _) (Zq flq) ?_; intro w a hM hE
   refine Zj (Zx (wp_seq ?_))
   obtain ⟨r38, e39, hF⟩ := bind_some hF
   obtain ⟨r40, e41, hF⟩ := bind_some hF
   refine WA (n := 59) (hd := [_, _, _, _, _, _, _, _, _]) (tl := [_]) YB rfl rfl [34, 35, 36, 37, 38, 39, 40, 41, 12] (by decide) (fun D u w => M (Old w0) w0 w ([raw b35 (Flat.enc r31), raw b26 (Flat.enc r18), raw b24 (Flat.enc r16), raw b13 (Flat.enc r9.2), raw b11 (Flat.enc r9.1), raw b7 (Flat.enc (Vector.replicate 32 (0 : UInt8))), raw b5 (Flat.enc p2), raw b3 (Flat.enc p1), raw b1 (cat [[(vI p0.Field)], Flat.enc p0.Box, Flat.enc p0.Mix, Flat.enc p0.Places, [(vI p0.Rounds)]])] ++ qL ([mkO 8 (fun v => rawP v (Flat.enc (Vector.replicate 16 (0 : UInt8))))] : Mk) D u) ∧ GOk ([([], fun us v => v = (Value.agg (Flat.enc p0).toArray)), ([], fun us v => v = (Value.agg (Flat.enc r31).toArray)), ([], fun us v => v = (Value.agg (Flat.enc r18).toArray)), ([], fun us v => v = (ptr b1 (0 + 289))), ([], fun us v => v = (vI p0.Rounds)), ([], fun us v => v = (Value.agg (Flat.enc r38).toArray)), ([], fun us v => v = (Value.agg (Flat.enc r18).toArray)), ([], fun us v => v = (Value.agg (Flat.enc r40).toArray)), ([], fun us v => True)] : Gs) D u) hE (fun u => ⟨M.qE (M.q0 hM.drew u) emO, gok0⟩) (ZH (Zb ?_ (Zb ?_ (Zb ?_ (Zb ?_ (Zb ?_ (Zb ?_ (Zb ?_ (Zb ?_ (Zb ?_ ZD)))))))))) ?_
   ·intro a w ux37 D hE hI hD hdc hp
    have hM0 := hI.1
    have hM := hI.1
    exact Zp (cs := Flat.enc p0) hE Za (dl rfl) rfl VP rfl (hM.rawAt (pre := [_, _, _, _, _, _, _, _])) (ZR (cl1 (n := 1) (m := 289) rfl (cl1 (n := 256) (m := 33) (Flat.len _) (cl1 (n := 16) (m := 17) (Flat.len _) (cl1 (n := 16) (m := 1) (Flat.len _) (cl1 (n := 1) (m := 0) rfl cl0)))))) fun a hE => ⟨_, _, rfl, hE, M.qKeep hM0 rfl, hI.2.put hD rfl ZE rfl⟩
   ·intro a w ux37 D hE hI hD hdc hp
    have hM0 := hI.1
    have hM := hI.1
    exact Zp (cs := Flat.enc r31) hE Za (dl rfl) rfl ZP rfl (hM.rawAt (pre := [])) (Flat.len _) fun a hE => ⟨_, _, rfl, hE, M.qKeep hM0 rfl, hI.2.put hD rfl ZE rfl⟩
   ·intro a w ux37 D hE hI hD hdc hp
    have hM0 := hI.1
    have hM := hI.1
    exact Zp (cs := Flat.enc r18) hE Za (dl rfl) rfl ZP rfl (hM.rawAt (pre := [_])) (Flat.len _) fun a hE => ⟨_, _, rfl, hE, M.qKeep hM0 rfl, hI.2.put hD rfl ZE rfl⟩
   ·intro a w ux37 D hE hI hD hdc hp
    have hM0 := hI.1
    exact Zo hE Za (dl rfl) rfl (fd103_4) fun a hE => ⟨_, _, rfl, hE, M.qKeep hM0 rfl, hI.2.put hD rfl ZE rfl⟩
   ·intro a w ux37 D hE hI hD hdc hp
    have d3 : D 3 = true := hp 0 _ rfl rfl
    have g3 := hI.2 3 d3 _ rfl
    have f3 : ux37 3 = (ptr b1 (0 + 289)) := g3.2
    have hM0 := hI.1
    have hM := hI.1
    exact Zv (v := (vI p0.Rounds)) hE Za (dl rfl) (lk rfl f3) ty2 rfl (At.cat (pre := [[(vI p0.Field)], Flat.enc p0.Box, Flat.enc p0.Mix, Flat.enc p0.Places]) (hM.rawAt (pre := [_, _, _, _, _, _, _, _])) (cl1 (n := 1) (m := 288) rfl (cl1 (n := 256) (m := 32) (Flat.len _) (cl1 (n := 16) (m := 16) (Flat.len _) (cl1 (n := 16) (m := 0) (Flat.len _) cl0))))) fun a hE => ⟨_, _, rfl, hE, M.qKeep hM0 rfl, hI.2.put hD rfl ZE rfl⟩
   ·intro a w ux37 D hE hI hD hdc hp
    have d0 : D 0 = true := hp 0 _ rfl rfl
    have g0 := hI.2 0 d0 _ rfl
    have f0 : ux37 0 = (Value.agg (Flat.enc p0).toArray) := g0.2
    have d1 : D 1 = true := hp 1 _ rfl rfl
    have g1 := hI.2 1 d1 _ rfl
    have f1 : ux37 1 = (Value.agg (Flat.enc r31).toArray) := g1.2
    have d2 : D 2 = true := hp 2 _ rfl rfl
    have g2 := hI.2 2 d2 _ rfl
    have f2 : ux37 2 = (Value.agg (Flat.enc r18).toArray) := g2.2
    have d4 : D 4 = true := hp 3 _ rfl rfl
    have g4 := hI.2 4 d4 _ rfl
    have f4 : ux37 4 = (vI p0.Rounds) := g4.2
    have hM0 := hI.1
    refine Zw (vs := [(Value.agg (Flat.enc p0).toArray), (Value.agg (Flat.enc r31).toArray), (Value.agg (Flat.enc r18).toArray), (vI p0.Rounds)]) hE Za (dl rfl) (Z0 (ZY (lk rfl f0) (ZY (lk rfl f1) (ZY (lk rfl f2) (ZY (lk rfl f4) Xf))))) cb102 (c_spec_l04Encipher _ p0 r31 r18 p0.Rounds r38 e39) ?_
    rintro v w a ⟨rfl, hK⟩ hE
    exact ⟨_, _, rfl, hE, M.qKeep (hM0.keep hK) rfl, hI.2.put hD rfl ZE rfl⟩
   ·intro a w ux37 D hE hI hD hdc hp
    have hM0 := hI.1
    have hM := hI.1
    exact Zp (cs := Flat.enc r18) hE Za (dl rfl) rfl ZP rfl (hM.rawAt (pre := [_])) (Flat.len _) fun a hE => ⟨_, _, rfl, hE, M.qKeep hM0 rfl, hI.2.put hD rfl ZE rfl⟩
   ·intro a w ux37 D hE hI hD hdc hp
    have d5 : D 5 = true := hp 0 _ rfl rfl
    have g5 := hI.2 5 d5 _ rfl
    have f5 : ux37 5 = (Value.agg (Flat.enc r38).toArray) := g5.2
    have d6 : D 6 = true := hp 1 _ rfl rfl
    have g6 := hI.2 6 d6 _ rfl
    have f6 : ux37 6 = (Value.agg (Flat.enc r18).toArray) := g6.2
    have hM0 := hI.1
    refine Zw (vs := [(Value.agg (Flat.enc r38).toArray), (Value.agg (Flat.enc r18).toArray)]) hE Za (dl rfl) (Z0 (ZY (lk rfl f5) (ZY (lk rfl f6) Xf))) cb101 (Vm _ r38 r18 r40 e41) ?_
    rintro v w a ⟨rfl, hK⟩ hE
    exact ⟨_, _, rfl, hE, M.qKeep (hM0.keep hK) rfl, hI.2.put hD rfl ZE rfl⟩
   ·intro a w ux37 D hE hI hD hdc hp
    have hM0 := hI.1
    have hM := hI.1
    refine ZO hE hM Za (dl rfl) ZP ?_; intro b42 w a hM hE
    have hM := hM.pack1 (it := rawP _ (Flat.enc (Vector.replicate 16 (0 : UInt8)))) (fun w w' fp ⟨b', e, k⟩ hb => ⟨b', e, Wz w w' fp k hb⟩) (fun fp k => ⟨_, rfl, k⟩)
    exact ⟨_, _, rfl, hE, M.qFill (mk1 := []) (mk2 := []) (f := fun v => rawP v (Flat.enc (Vector.replicate 16 (0 : UInt8)))) hM rfl hD, hI.2.put hD rfl ZE trivial⟩
   ·intro a w ux37 D hE hI hall
    have hM : M (Old w0) w0 w [raw b35 (Flat.enc r31), raw b26 (Flat.enc r18), raw b24 (Flat.enc r16), raw b13 (Flat.enc r9.2), raw b11 (Flat.enc r9.1), raw b7 (Flat.enc (Vector.replicate 32 (0 : UInt8))), raw b5 (Flat.enc p2), raw b3 (Flat.enc p1), raw b1 (cat [[(vI p0.Field)], Flat.enc p0.Box, Flat.enc p0.Mix, Flat.enc p0.Places, [(vI p0.Rounds)]]), opt (D 8) (rawP (ux37 8) (Flat.enc (Vector.replicate 16 (0 : UInt8))))] := hI.1
    have d0 : D 0 = true := hall 0 (by decide)
    have d1 : D 1 = true := hall 1 (by decide)
    have d2 : D 2 = true := hall 2 (by decide)
    have d3 : D 3 = true := hall 3 (by decide)
    have d4 : D 4 = true := hall 4 (by decide)
    have d5 : D 5 = true := hall 5 (by decide)
    have d6 : D 6 = true := hall 6 (by decide)
    have d7 : D 7 = true := hall 7 (by decide)
    have d8 : D 8 = true := hall 8 (by decide)
    have f0 : ux37 0 = (Value.agg (Flat.enc p0).toArray) := (hI.2 0 d0 _ rfl).2
    have f1 : ux37 1 = (Value.agg (Flat.enc r31).toArray) := (hI.2 1 d1 _ rfl).2
    have f2 : ux37 2 = (Value.agg (Flat.enc r18).toArray) := (hI.2 2 d2 _ rfl).2
    have f3 : ux37 3 = (ptr b1 (0 + 289)) := (hI.2 3 d3 _ rfl).2
    have f4 : ux37 4 = (vI p0.Rounds) := (hI.2 4 d4 _ rfl).2
    have f5 : ux37 5 = (Value.agg (Flat.enc r38).toArray) := (hI.2 5 d5 _ rfl).2
    have f6 : ux37 6 = (Value.agg (Flat.enc r18).toArray) := (hI.2 6 d6 _ rfl).2
    have f7 : ux37 7 = (Value.agg (Flat.enc r40).toArray) := (hI.2 7 d7 _ rfl).2
    have hM := (hM.sure (pre := [_, _, _, _, _, _, _, _, _]) d8).pull
    obtain ⟨_, ⟨b44, f45, _⟩, _⟩ := hM.head
    have hM := hM.pack1 Wz (it := raw b44 (Flat.enc (Vector.replicate 16 (0 : UInt8)))) (fun fp ⟨b2, e2, k2⟩ => by rw [f45] at e2; simp [ptr] at e2; subst e2; exact k2)
    have hE := hE.sub (e' := [(41, (Value.agg (Flat.enc r40).toArray)), (12, (ptr b44 0)), (0, (Value.agg (Flat.enc p0).toArray)), (1, (Value.agg (Flat.enc p1).toArray)), (2, (Value.agg (Flat.enc p2).toArray)), (3, (ptr b1 0)), (4, (ptr b3 0)), (5, (ptr b5 0)), (6, (ptr b7 0)), (7, (ptr b11 0)), (8, (ptr b13 0)), (9, (ptr b24 0)), (10, (ptr b26 0)), (11, (ptr b35 0)), (15, (Value.tuple [(Value.agg (Flat.enc r9.1).toArray), (Value.agg (Flat.enc r9.2).toArray)].toArray)), (16, (Value.agg (Flat.enc p1).toArray)), (17, (Value.tuple [(Value.agg (Flat.enc r9.1).toArray), (Value.agg (Flat.enc r9.2).toArray)].toArray)), (18, (Value.agg (Flat.enc r9.1).toArray)), (19, (Value.agg (Flat.enc r9.2).toArray)), (22, (Value.agg (Flat.enc r16).toArray)), (25, (Value.agg (Flat.enc r18).toArray)), (33, (Value.agg (Flat.enc r31).toArray))]) ⟨lk rfl f7, lk rfl f45, rfl, rfl, rfl, rfl, rfl, rfl, rfl, rfl, rfl, rfl, rfl, rfl, rfl, rfl, rfl, rfl, rfl, rfl, rfl, rfl, trivial⟩
    refine Zs (seg := Flat.enc r40) (cs' := Flat.enc r40) hE hM Za rfl rfl rfl ZP (Flat.len _) (zle flq) (Flat.cell _) (Zq flq) ?_; intro w a hM hE
    refine Zj (Zx (Zc (Xq (parts := []) (vs := []) (cs := Flat.enc (Vector.replicate 32 (0 : UInt8))) hE Za (dl rfl) rfl rfl Yi rfl ty5 YM ?_))); intro a hE
    refine ZO hE hM Za (dl rfl) Yi ?_; intro b46 w a hM hE
    refine Zs (seg := Flat.enc (Vector.replicate 32 (0 : UInt8))) (cs' := Flat.enc (Vector.replicate 32 (0 : UInt8))) hE hM Za rfl rfl rfl Yi (Flat.len _) (zle flq) (Flat.cell _) (Zq flq) ?_; intro w a hM hE
    refine Zf (wp_seq (Zc (Ze hE Za (dl rfl) rfl ?_))); intro a hE
    refine Zf ?_
    obtain ⟨j48, hl49, hF50⟩ := bind_some hF
    refine ZV (fun a w => Env 59 a [(6, (ptr b7 0)), (13, (ptr b46 0))] ∧ M (Old w0) w0 w [raw b46 (Flat.enc j48), raw b7 (Flat.enc (Vector.replicate 32 (0 : UInt8)))]) ?_ ?_
    ·skip
     refine wp_block ?_
     have hM := hM.pull (pre := [_, _, _, _, _, _, _])
     have hM := hM.pull (pre := [_, _, _])
     have hM := hM.pull (pre := [_, _, _])
     have hM := hM.pull (pre := [_, _, _])
     have hM := M.fst (l := [_, _, _, _]) hM
     refine ZN (fun (s51 : (Vector UInt8 32) × Int) a w => Env 59 a [(6, (ptr b7 0)), (11, (ptr b35 0)), (12, (ptr b44 0)), (13, (ptr b46 0)), (14, (vI s51.2))] ∧ M (Old w0) w0 w [raw b46 (Flat.enc s51.1), raw b44 (Flat.enc r40), raw b35 (Flat.enc r31), raw b7 (Flat.enc (Vector.replicate 32 (0 : UInt8)))]) hl49 ⟨hE.sub ⟨rfl, rfl, rfl, rfl, rfl, trivial⟩, hM⟩ ?_
     rintro s51 a w ⟨hE, hM⟩ o54 hs52 hx53
     unfold Xz at hs52
     refine wp_seq (Zc (Zd hE Za (dl rfl) rfl ?_)); intro a hE
     refine Zh hE Za (dl rfl) rfl rfl rfl ?_; intro a hE
     refine Zf ?_
     refine Zt hE rfl ?_ ?_
     ·intro hb55
      have hs52 := ZA hs52 hb55
      refine wp_skip (Zx (wp_seq (wp_block (Zc (Zd hE Za (dl rfl) rfl ?_))))); intro a hE
      refine Zd hE Za (dl rfl) rfl ?_; intro a hE
      obtain ⟨x57, e58, hs52⟩ := bind_some hs52
      have hi56 := Zi e58
      refine Zm hE Za (dl rfl) rfl rfl Try.underlying39 ty5 hi56.1 ?_; intro a hE
      refine Zv (v := (vB x57)) hE Za (dl rfl) rfl ty5 rfl (At.vec (hM.rawAt (pre := [_, _])) hi56.2) ?_; intro a hE
      obtain ⟨x60, e61, hs52⟩ := bind_some hs52
      have hi59 := Zi e61
      refine Zm hE Za (dl rfl) rfl rfl Try.underlying25 ty5 hi59.1 ?_; intro a hE
      refine Zs (seg := [(vB x57)]) (cs' := Flat.enc (s51.1.setIfInBounds (s51.2).toNat x57)) hE hM Za rfl rfl rfl ty5 rfl (ZT (v := s51.1) (x := x57) hi59.1) (Flat.cell (x57 : UInt8)) (ZI (v := s51.1) (x := x57) hi59.1) ?_; intro w a hM hE
      refine Zf (wp_region_lit (Zd hE Za (dl rfl) rfl ?_)); intro a hE
      refine Zh hE Za (dl rfl) rfl rfl rfl ?_; intro a hE
      refine Zd hE Za (dl rfl) rfl ?_; intro a hE
      obtain ⟨x63, e64, hs52⟩ := bind_some hs52
      have hi62 := Zi e64
      refine Zm hE Za (dl rfl) rfl rfl Try.underlying39 ty5 hi62.1 ?_; intro a hE
      refine Zv (v := (vB x63)) hE Za (dl rfl) rfl ty5 rfl (At.vec (hM.rawAt (pre := [_])) hi62.2) ?_; intro a hE
      obtain ⟨x66, e67, hs52⟩ := bind_some hs52
      have hi65 := Zi e67
      refine Zm hE Za (dl rfl) rfl rfl Try.underlying25 ty5 hi65.1 ?_; intro a hE
      refine Zs (seg := [(vB x63)]) (cs' := Flat.enc ((s51.1.setIfInBounds (s51.2).toNat x57).setIfInBounds ((wr (16 + s51.2))).toNat x63)) hE hM Za rfl rfl rfl ty5 rfl (ZT (v := (s51.1.setIfInBounds (s51.2).toNat x57)) (x := x63) hi65.1) (Flat.cell (x63 : UInt8)) (ZI (v := (s51.1.setIfInBounds (s51.2).toNat x57)) (x := x63) hi65.1) ?_; intro w a hM hE
      refine Zj (Yk (Zx (wp_region_lit (Zd hE Za (dl rfl) rfl ?_)))); intro a hE
      refine Zh hE Za (dl rfl) rfl rfl rfl ?_; intro a hE
      refine Ze hE Za (dl rfl) rfl ?_; intro a hE
      refine Zj (Zl ?_)
      exact ⟨_, (Option.some.inj hs52).symm, hE.sub ⟨rfl, rfl, rfl, rfl, rfl, trivial⟩, hM⟩
     ·intro hb55
      have hs52 := Zz hs52 hb55
      refine wp_exit (Zr (Zr (Yj ?_)))
      have ht68 := hx53 _ (Option.some.inj hs52).symm
      subst ht68
      refine Zl ?_
      have hM := hM.pull (pre := [_, _, _])
      have hM := hM.pull (pre := [_])
      have hM := M.fst (l := [_, _]) hM
      exact ⟨hE.sub ⟨rfl, rfl, trivial⟩, hM⟩
    ·skip
     rintro a w ⟨hE, hM⟩
     refine Zx (Zc (Zp (cs := Flat.enc j48) hE Za (dl rfl) rfl Yi rfl (hM.rawAt (pre := [])) (Flat.len _) ?_)); intro a hE
     have hM := hM.pull (pre := [_])
     refine Zs (seg := Flat.enc j48) (cs' := Flat.enc j48) hE hM Za rfl rfl rfl Yi (Flat.len _) (zle flq) (Flat.cell _) (Zq flq) ?_; intro w a hM hE
     refine Zf ?_
     have hr := Option.some.inj hF50
     subst hr
     have hq69 : YR Try.prog _ _ (.cell 6 25) _ := Z6 hE rfl Yi rfl (hM.rawAt (pre := [])) (Flat.len _) rfl
     have hM := M.fst (l := []) hM
     exact wp_ret (Zy hE rfl hq69 ⟨_, rfl, rfl, hM.kept⟩)
noncomputable def Vk (p0 : GCipher) (r8 : (List (Vector UInt8 16))) (s18 : (Vector UInt8 32) × Int) : Option (Fl ((Vector UInt8 32) × Int) (Vector UInt8 32)) :=
 if (decide (s18.2 < (r8.length : Int))) = true then ((idx r8 s18.2).bind fun x24 => (XU p0 s18.1 x24).bind fun r27 => some (Fl.nx (r27, wr (s18.2 + 1)))) else (some (Fl.ex s18.1))
noncomputable def UI (p0 : GCipher) (p1 : (List UInt8)) : Option ((Vector UInt8 32)) :=
 (Ud p1).bind fun r5 => (WS r5).bind fun r8 => (Vf).bind fun r11 => (ZF (Vk p0 r8) (r11, 0) : Option ((Vector UInt8 32))).bind fun j15 => some j15
end Go.Proofs.Ytifdeoikcebbjaa
