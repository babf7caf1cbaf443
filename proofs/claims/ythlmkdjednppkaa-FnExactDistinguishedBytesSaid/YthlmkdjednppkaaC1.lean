/- The walk of what the law reaches: contracts of functions. -/
import Derived.Test.YthlmkdjednppkaaLibO
import Derived.Test.YthlmkdjednppkaaProg
set_option linter.unusedVariables false
set_option linter.unusedSimpArgs false
namespace Go.Proofs.Ythlmkdjednppkaa
open Go
structure GCipher where
  Field : Int
  Box : (Vector UInt8 256)
  Mix : (Vector (Vector UInt8 4) 4)
  Places : (Vector UInt8 16)
  Rounds : Int
  deriving DecidableEq, Inhabited
instance : Dat GCipher := ⟨fun x => Dat.bd (α := Int × (Vector UInt8 256) × (Vector (Vector UInt8 4) 4) × (Vector UInt8 16) × Int) (x.Field, x.Box, x.Mix, x.Places, x.Rounds), fun x => Dat.sz (α := Int × (Vector UInt8 256) × (Vector (Vector UInt8 4) 4) × (Vector UInt8 16) × Int) (x.Field, x.Box, x.Mix, x.Places, x.Rounds) + 1⟩
instance : Flat GCipher where
  n := 290
  enc x := cat [Flat.enc x.Field, Flat.enc x.Box, Flat.enc x.Mix, Flat.enc x.Places, Flat.enc x.Rounds]
  len x := cat_len (cl1 (Flat.len _) (cl1 (Flat.len _) (cl1 (Flat.len _) (cl1 (Flat.len _) (cl1 (Flat.len _) cl0)))))
  cell x := cat_cell (cc1 (Flat.cell _) (cc1 (Flat.cell _) (cc1 (Flat.cell _) (cc1 (Flat.cell _) (cc1 (Flat.cell _) cc0)))))
structure Gengine where
  box : (Vector UInt8 256)
  backBox : (Vector UInt8 256)
  places : (Vector UInt8 16)
  backPlaces : (Vector UInt8 16)
  mixer : (Ref (Vector (Vector (Vector UInt8 256) 4) 4))
  backMixer : (Ref (Vector (Vector (Vector UInt8 256) 4) 4))
  rounds : Int
  deriving DecidableEq, Inhabited
instance : Dat Gengine := ⟨fun x => Dat.bd (α := (Vector UInt8 256) × (Vector UInt8 256) × (Vector UInt8 16) × (Vector UInt8 16) × (Ref (Vector (Vector (Vector UInt8 256) 4) 4)) × (Ref (Vector (Vector (Vector UInt8 256) 4) 4)) × Int) (x.box, x.backBox, x.places, x.backPlaces, x.mixer, x.backMixer, x.rounds), fun x => Dat.sz (α := (Vector UInt8 256) × (Vector UInt8 256) × (Vector UInt8 16) × (Vector UInt8 16) × (Ref (Vector (Vector (Vector UInt8 256) 4) 4)) × (Ref (Vector (Vector (Vector UInt8 256) 4) 4)) × Int) (x.box, x.backBox, x.places, x.backPlaces, x.mixer, x.backMixer, x.rounds) + 1⟩
instance : Rep Gengine := repIso (α := (Vector UInt8 256) × (Vector UInt8 256) × (Vector UInt8 16) × (Vector UInt8 16) × (Ref (Vector (Vector (Vector UInt8 256) 4) 4)) × (Ref (Vector (Vector (Vector UInt8 256) 4) 4)) × Int) (fun x => (x.box, x.backBox, x.places, x.backPlaces, x.mixer, x.backMixer, x.rounds))
theorem unf_Gengine {S : Nat → Prop} {w : World} {x : Gengine} {cs : List Value} {fp : List Nat} (h : Rep.sat S w x cs fp) : ∃ (u1 : Value) (u2 : Value), ∃ (g1 : List Nat) (g2 : List Nat), cs = cat [Flat.enc x.box, Flat.enc x.backBox, Flat.enc x.places, Flat.enc x.backPlaces, [u1], [u2], Flat.enc x.rounds] ∧ fp = (g1 ++ g2) ∧ Rep.sat S w x.mixer [u1] g1 ∧ Rep.sat S w x.backMixer [u2] g2 := by
  obtain ⟨c0, d0, f0, q0, rfl, rfl, h0, hr0⟩ := h
  obtain ⟨rfl, rfl⟩ := h0
  obtain ⟨c1, d1, f1, q1, rfl, rfl, h1, hr1⟩ := hr0
  obtain ⟨rfl, rfl⟩ := h1
  obtain ⟨c2, d2, f2, q2, rfl, rfl, h2, hr2⟩ := hr1
  obtain ⟨rfl, rfl⟩ := h2
  obtain ⟨c3, d3, f3, q3, rfl, rfl, h3, hr3⟩ := hr2
  obtain ⟨rfl, rfl⟩ := h3
  obtain ⟨c4, d4, f4, q4, rfl, rfl, h4, hr4⟩ := hr3
  obtain ⟨u1, rfl⟩ := ref_one h4
  obtain ⟨c5, d5, f5, q5, rfl, rfl, h5, hr5⟩ := hr4
  obtain ⟨u2, rfl⟩ := ref_one h5
  obtain ⟨rfl, rfl⟩ := hr5
  exact ⟨u1, u2, _, _, rfl, by simp, h4, h5⟩
theorem unc_Gengine {S : Nat → Prop} {w : World} {x : Gengine} {u1 u2 : Value} {fp : List Nat} (h : Rep.sat S w x (cat [Flat.enc x.box, Flat.enc x.backBox, Flat.enc x.places, Flat.enc x.backPlaces, [u1], [u2], Flat.enc x.rounds]) fp) : ∃ (g1 : List Nat) (g2 : List Nat), fp = (g1 ++ g2) ∧ Rep.sat S w x.mixer [u1] g1 ∧ Rep.sat S w x.backMixer [u2] g2 := by
  obtain ⟨w1, w2, g1, g2, hc, hf, s1, s2⟩ := unf_Gengine h
  obtain ⟨e1, k1⟩ := cat_inj hc rfl
  obtain ⟨e2, k2⟩ := cat_inj k1 rfl
  obtain ⟨e3, k3⟩ := cat_inj k2 rfl
  obtain ⟨e4, k4⟩ := cat_inj k3 rfl
  obtain ⟨e5, k5⟩ := cat_inj k4 rfl
  obtain ⟨e6, k6⟩ := cat_inj k5 rfl
  obtain rfl := (List.cons.inj e5).1
  obtain rfl := (List.cons.inj e6).1
  exact ⟨g1, g2, hf, s1, s2⟩
theorem un_Gengine {S : Nat → Prop} {w : World} {x : Gengine} {cs : List Value} (h : Rep.sat S w x cs []) : ∃ u1 u2, cs = cat [Flat.enc x.box, Flat.enc x.backBox, Flat.enc x.places, Flat.enc x.backPlaces, [u1], [u2], Flat.enc x.rounds] ∧ Rep.sat S w x.mixer [u1] [] ∧ Rep.sat S w x.backMixer [u2] [] := by
  obtain ⟨c0, d0, f0, g0, rfl, hf0, h0, hr0⟩ := h
  obtain ⟨rfl, rfl⟩ := List.append_eq_nil_iff.1 hf0.symm
  obtain ⟨rfl, _⟩ := h0
  obtain ⟨c1, d1, f1, g1, rfl, hf1, h1, hr1⟩ := hr0
  obtain ⟨rfl, rfl⟩ := List.append_eq_nil_iff.1 hf1.symm
  obtain ⟨rfl, _⟩ := h1
  obtain ⟨c2, d2, f2, g2, rfl, hf2, h2, hr2⟩ := hr1
  obtain ⟨rfl, rfl⟩ := List.append_eq_nil_iff.1 hf2.symm
  obtain ⟨rfl, _⟩ := h2
  obtain ⟨c3, d3, f3, g3, rfl, hf3, h3, hr3⟩ := hr2
  obtain ⟨rfl, rfl⟩ := List.append_eq_nil_iff.1 hf3.symm
  obtain ⟨rfl, _⟩ := h3
  obtain ⟨c4, d4, f4, g4, rfl, hf4, h4, hr4⟩ := hr3
  obtain ⟨rfl, rfl⟩ := List.append_eq_nil_iff.1 hf4.symm
  obtain ⟨u1, rfl⟩ := ref_one h4
  obtain ⟨c5, d5, f5, g5, rfl, hf5, h5, hr5⟩ := hr4
  obtain ⟨rfl, rfl⟩ := List.append_eq_nil_iff.1 hf5.symm
  obtain ⟨u2, rfl⟩ := ref_one h5
  obtain ⟨rfl, _⟩ := hr5
  exact ⟨u1, u2, rfl, h4, h5⟩
theorem pk_Gengine {S : Nat → Prop} {w : World} {x : Gengine} {u1 u2 : Value} {g1 g2 fp : List Nat} (h1 : Rep.sat S w x.mixer [u1] g1) (h2 : Rep.sat S w x.backMixer [u2] g2) (hfp : fp = (g1 ++ g2)) : Rep.sat S w x (cat [Flat.enc x.box, Flat.enc x.backBox, Flat.enc x.places, Flat.enc x.backPlaces, [u1], [u2], Flat.enc x.rounds]) fp := by
  rw [hfp]
  refine ⟨_, _, [], (g1 ++ g2), rfl, (by simp), ⟨rfl, rfl⟩, ?_⟩
  refine ⟨_, _, [], (g1 ++ g2), rfl, (by simp), ⟨rfl, rfl⟩, ?_⟩
  refine ⟨_, _, [], (g1 ++ g2), rfl, (by simp), ⟨rfl, rfl⟩, ?_⟩
  refine ⟨_, _, [], (g1 ++ g2), rfl, (by simp), ⟨rfl, rfl⟩, ?_⟩
  refine ⟨_, _, g1, g2, rfl, (by simp), h1, ?_⟩
  refine ⟨_, _, g2, [], rfl, (by simp), h2, ?_⟩
  exact ⟨rfl, rfl⟩
theorem ty2 : Ty Try.prog 2 (.int .i64) 1 8 (Flat.enc (0 : Int)) := ⟨Try.underlying2, by kernel_rfl⟩
theorem ty4 : Ty Try.prog 4 .bool 1 1 (Flat.enc false) := ⟨Try.underlying4, by kernel_rfl⟩
theorem ty5 : Ty Try.prog 5 (.int .u8) 1 1 (Flat.enc (0 : UInt8)) := ⟨Try.underlying5, by kernel_rfl⟩
theorem ty43 : Ty Try.prog 43 (.array 256 5) 256 256 (Flat.enc (Vector.replicate 256 (0 : UInt8))) := ⟨Try.underlying43, by kernel_rfl⟩
theorem ty44 : Ty Try.prog 44 (.array 4 5) 4 4 (Flat.enc (Vector.replicate 4 (0 : UInt8))) := ⟨Try.underlying44, by kernel_rfl⟩
theorem ty45 : Ty Try.prog 45 (.array 4 44) 16 16 (Flat.enc (Vector.replicate 4 (Vector.replicate 4 (0 : UInt8)))) := ⟨Try.underlying45, by kernel_rfl⟩
theorem ty46 : Ty Try.prog 46 (.array 16 5) 16 16 (Flat.enc (Vector.replicate 16 (0 : UInt8))) := ⟨Try.underlying46, by kernel_rfl⟩
theorem ty48 : Ty Try.prog 48 (.struct [{ name := "Field", type := 2, offset := 0, embedded := false, tag := "", pkgPath := "", byteOffset := 0 }, { name := "Box", type := 43, offset := 1, embedded := false, tag := "", pkgPath := "", byteOffset := 8 }, { name := "Mix", type := 45, offset := 257, embedded := false, tag := "", pkgPath := "", byteOffset := 264 }, { name := "Places", type := 46, offset := 273, embedded := false, tag := "", pkgPath := "", byteOffset := 280 }, { name := "Rounds", type := 2, offset := 289, embedded := false, tag := "", pkgPath := "", byteOffset := 296 }].toArray) 290 304 (Flat.enc (⟨(0 : Int), (Vector.replicate 256 (0 : UInt8)), (Vector.replicate 4 (Vector.replicate 4 (0 : UInt8))), (Vector.replicate 16 (0 : UInt8)), (0 : Int)⟩ : GCipher)) := ⟨Try.underlying48, by kernel_rfl⟩
theorem ty54 : Ty Try.prog 54 (.array 256 5) 256 256 (Flat.enc (Vector.replicate 256 (0 : UInt8))) := ⟨Try.underlying54, by kernel_rfl⟩
theorem ty55 : Ty Try.prog 55 (.array 4 44) 16 16 (Flat.enc (Vector.replicate 4 (Vector.replicate 4 (0 : UInt8)))) := ⟨Try.underlying55, by kernel_rfl⟩
theorem ty56 : Ty Try.prog 56 (.array 16 5) 16 16 (Flat.enc (Vector.replicate 16 (0 : UInt8))) := ⟨Try.underlying56, by kernel_rfl⟩
theorem ty58 : Ty Try.prog 58 (.struct [{ name := "Field", type := 2, offset := 0, embedded := false, tag := "", pkgPath := "", byteOffset := 0 }, { name := "Box", type := 54, offset := 1, embedded := false, tag := "", pkgPath := "", byteOffset := 8 }, { name := "Mix", type := 55, offset := 257, embedded := false, tag := "", pkgPath := "", byteOffset := 264 }, { name := "Places", type := 56, offset := 273, embedded := false, tag := "", pkgPath := "", byteOffset := 280 }, { name := "Rounds", type := 2, offset := 289, embedded := false, tag := "", pkgPath := "", byteOffset := 296 }].toArray) 290 304 (Flat.enc (⟨(0 : Int), (Vector.replicate 256 (0 : UInt8)), (Vector.replicate 4 (Vector.replicate 4 (0 : UInt8))), (Vector.replicate 16 (0 : UInt8)), (0 : Int)⟩ : GCipher)) := ⟨Try.underlying58, by kernel_rfl⟩
theorem ty67 : Ty Try.prog 67 (.array 16 5) 16 16 (Flat.enc (Vector.replicate 16 (0 : UInt8))) := ⟨Try.underlying67, by kernel_rfl⟩
theorem ty112 : Ty Try.prog 112 (.array 256 4) 256 256 (Flat.enc (Vector.replicate 256 false)) := ⟨Try.underlying112, by kernel_rfl⟩
theorem ty177 : Ty Try.prog 177 (.pointer 217) 1 8 [.pointer none] := ⟨Try.underlying177, by kernel_rfl⟩
theorem ty180 : Ty Try.prog 180 (.struct [{ name := "box", type := 54, offset := 0, embedded := false, tag := "", pkgPath := "loop.example/g01182/impl", byteOffset := 0 }, { name := "backBox", type := 54, offset := 256, embedded := false, tag := "", pkgPath := "loop.example/g01182/impl", byteOffset := 256 }, { name := "places", type := 56, offset := 512, embedded := false, tag := "", pkgPath := "loop.example/g01182/impl", byteOffset := 512 }, { name := "backPlaces", type := 56, offset := 528, embedded := false, tag := "", pkgPath := "loop.example/g01182/impl", byteOffset := 528 }, { name := "mixer", type := 177, offset := 544, embedded := false, tag := "", pkgPath := "loop.example/g01182/impl", byteOffset := 544 }, { name := "backMixer", type := 177, offset := 545, embedded := false, tag := "", pkgPath := "loop.example/g01182/impl", byteOffset := 552 }, { name := "rounds", type := 2, offset := 546, embedded := false, tag := "", pkgPath := "loop.example/g01182/impl", byteOffset := 560 }].toArray) 547 568 (cat [(Flat.enc (Vector.replicate 256 (0 : UInt8))), (Flat.enc (Vector.replicate 256 (0 : UInt8))), (Flat.enc (Vector.replicate 16 (0 : UInt8))), (Flat.enc (Vector.replicate 16 (0 : UInt8))), [.pointer none], [.pointer none], (Flat.enc (0 : Int))]) := ⟨Try.underlying180, by kernel_rfl⟩
theorem ty212 : Ty Try.prog 212 (.array 16 4) 16 16 (Flat.enc (Vector.replicate 16 false)) := ⟨Try.underlying212, by kernel_rfl⟩
theorem ty215 : Ty Try.prog 215 (.array 4 43) 1024 1024 (Flat.enc (Vector.replicate 4 (Vector.replicate 256 (0 : UInt8)))) := ⟨Try.underlying215, by kernel_rfl⟩
theorem ty217 : Ty Try.prog 217 (.array 4 215) 4096 4096 (Flat.enc (Vector.replicate 4 (Vector.replicate 4 (Vector.replicate 256 (0 : UInt8))))) := ⟨Try.underlying217, by kernel_rfl⟩
theorem fd48_0 : Fd Try.prog 48 0 0 := fd_mk ty48.und rfl rfl ty2 (by decide)
theorem fd48_1 : Fd Try.prog 48 1 1 := fd_mk ty48.und rfl rfl ty43 (by decide)
theorem fd48_2 : Fd Try.prog 48 2 257 := fd_mk ty48.und rfl rfl ty45 (by decide)
theorem fd48_3 : Fd Try.prog 48 3 273 := fd_mk ty48.und rfl rfl ty46 (by decide)
theorem fd48_4 : Fd Try.prog 48 4 289 := fd_mk ty48.und rfl rfl ty2 (by decide)
theorem fd58_0 : Fd Try.prog 58 0 0 := fd_mk ty58.und rfl rfl ty2 (by decide)
theorem fd58_1 : Fd Try.prog 58 1 1 := fd_mk ty58.und rfl rfl ty54 (by decide)
theorem fd58_2 : Fd Try.prog 58 2 257 := fd_mk ty58.und rfl rfl ty55 (by decide)
theorem fd58_3 : Fd Try.prog 58 3 273 := fd_mk ty58.und rfl rfl ty56 (by decide)
theorem fd58_4 : Fd Try.prog 58 4 289 := fd_mk ty58.und rfl rfl ty2 (by decide)
theorem fd180_0 : Fd Try.prog 180 0 0 := fd_mk ty180.und rfl rfl ty54 (by decide)
theorem fd180_1 : Fd Try.prog 180 1 256 := fd_mk ty180.und rfl rfl ty54 (by decide)
theorem fd180_2 : Fd Try.prog 180 2 512 := fd_mk ty180.und rfl rfl ty56 (by decide)
theorem fd180_3 : Fd Try.prog 180 3 528 := fd_mk ty180.und rfl rfl ty56 (by decide)
theorem fd180_4 : Fd Try.prog 180 4 544 := fd_mk ty180.und rfl rfl ty177 (by decide)
theorem fd180_5 : Fd Try.prog 180 5 545 := fd_mk ty180.und rfl rfl ty177 (by decide)
theorem fd180_6 : Fd Try.prog 180 6 546 := fd_mk ty180.und rfl rfl ty2 (by decide)
theorem pl180 : Places Try.prog [{ name := "box", type := 54, offset := 0, embedded := false, tag := "", pkgPath := "loop.example/g01182/impl", byteOffset := 0 }, { name := "backBox", type := 54, offset := 256, embedded := false, tag := "", pkgPath := "loop.example/g01182/impl", byteOffset := 256 }, { name := "places", type := 56, offset := 512, embedded := false, tag := "", pkgPath := "loop.example/g01182/impl", byteOffset := 512 }, { name := "backPlaces", type := 56, offset := 528, embedded := false, tag := "", pkgPath := "loop.example/g01182/impl", byteOffset := 528 }, { name := "mixer", type := 177, offset := 544, embedded := false, tag := "", pkgPath := "loop.example/g01182/impl", byteOffset := 544 }, { name := "backMixer", type := 177, offset := 545, embedded := false, tag := "", pkgPath := "loop.example/g01182/impl", byteOffset := 552 }, { name := "rounds", type := 2, offset := 546, embedded := false, tag := "", pkgPath := "loop.example/g01182/impl", byteOffset := 560 }] [(0, 256), (256, 256), (512, 16), (528, 16), (544, 1), (545, 1), (546, 1)] := by show _ = _; kernel_rfl
theorem hmix : Try.prog.follows .mixedOrders = true := by kernel_rfl
theorem cb33 : Callable Try.prog 33 := ⟨_, _, Try.func33, by decide, rfl⟩
theorem cb36 : Callable Try.prog 36 := ⟨_, _, Try.func36, by decide, rfl⟩
theorem cb39 : Callable Try.prog 39 := ⟨_, _, Try.func39, by decide, rfl⟩
theorem cb40 : Callable Try.prog 40 := ⟨_, _, Try.func40, by decide, rfl⟩
theorem cb42 : Callable Try.prog 42 := ⟨_, _, Try.func42, by decide, rfl⟩
theorem cb54 : Callable Try.prog 54 := ⟨_, _, Try.func54, by decide, rfl⟩
theorem cb55 : Callable Try.prog 55 := ⟨_, _, Try.func55, by decide, rfl⟩
theorem cb85 : Callable Try.prog 85 := ⟨_, _, Try.func85, by decide, rfl⟩
theorem cb86 : Callable Try.prog 86 := ⟨_, _, Try.func86, by decide, rfl⟩
theorem cb89 : Callable Try.prog 89 := ⟨_, _, Try.func89, by decide, rfl⟩
theorem cb90 : Callable Try.prog 90 := ⟨_, _, Try.func90, by decide, rfl⟩
theorem cb91 : Callable Try.prog 91 := ⟨_, _, Try.func91, by decide, rfl⟩
theorem cb92 : Callable Try.prog 92 := ⟨_, _, Try.func92, by decide, rfl⟩
theorem cb93 : Callable Try.prog 93 := ⟨_, _, Try.func93, by decide, rfl⟩
theorem cb95 : Callable Try.prog 95 := ⟨_, _, Try.func95, by decide, rfl⟩
theorem cb96 : Callable Try.prog 96 := ⟨_, _, Try.func96, by decide, rfl⟩
theorem cb98 : Callable Try.prog 98 := ⟨_, _, Try.func98, by decide, rfl⟩
theorem cb106 : Callable Try.prog 106 := ⟨_, _, Try.func106, by decide, rfl⟩
theorem cb107 : Callable Try.prog 107 := ⟨_, _, Try.func107, by decide, rfl⟩
theorem cb108 : Callable Try.prog 108 := ⟨_, _, Try.func108, by decide, rfl⟩
theorem cb109 : Callable Try.prog 109 := ⟨_, _, Try.func109, by decide, rfl⟩
theorem cb110 : Callable Try.prog 110 := ⟨_, _, Try.func110, by decide, rfl⟩
theorem cb111 : Callable Try.prog 111 := ⟨_, _, Try.func111, by decide, rfl⟩
theorem cb112 : Callable Try.prog 112 := ⟨_, _, Try.func112, by decide, rfl⟩
theorem cb115 : Callable Try.prog 115 := ⟨_, _, Try.func115, by decide, rfl⟩
theorem cb123 : Callable Try.prog 123 := ⟨_, _, Try.func123, by decide, rfl⟩
theorem cb127 : Callable Try.prog 127 := ⟨_, _, Try.func127, by decide, rfl⟩
theorem cb132 : Callable Try.prog 132 := ⟨_, _, Try.func132, by decide, rfl⟩
theorem cb136 : Callable Try.prog 136 := ⟨_, _, Try.func136, by decide, rfl⟩
theorem cb144 : Callable Try.prog 144 := ⟨_, _, Try.func144, by decide, rfl⟩
theorem cb145 : Callable Try.prog 145 := ⟨_, _, Try.func145, by decide, rfl⟩
theorem cb146 : Callable Try.prog 146 := ⟨_, _, Try.func146, by decide, rfl⟩
theorem cb148 : Callable Try.prog 148 := ⟨_, _, Try.func148, by decide, rfl⟩
theorem cb149 : Callable Try.prog 149 := ⟨_, _, Try.func149, by decide, rfl⟩
theorem cb150 : Callable Try.prog 150 := ⟨_, _, Try.func150, by decide, rfl⟩
theorem cb151 : Callable Try.prog 151 := ⟨_, _, Try.func151, by decide, rfl⟩
theorem cb152 : Callable Try.prog 152 := ⟨_, _, Try.func152, by decide, rfl⟩
theorem cb153 : Callable Try.prog 153 := ⟨_, _, Try.func153, by decide, rfl⟩
theorem cb154 : Callable Try.prog 154 := ⟨_, _, Try.func154, by decide, rfl⟩
theorem cb155 : Callable Try.prog 155 := ⟨_, _, Try.func155, by decide, rfl⟩
theorem cb156 : Callable Try.prog 156 := ⟨_, _, Try.func156, by decide, rfl⟩
theorem cb157 : Callable Try.prog 157 := ⟨_, _, Try.func157, by decide, rfl⟩
theorem cb158 : Callable Try.prog 158 := ⟨_, _, Try.func158, by decide, rfl⟩
theorem cb159 : Callable Try.prog 159 := ⟨_, _, Try.func159, by decide, rfl⟩
theorem cb160 : Callable Try.prog 160 := ⟨_, _, Try.func160, by decide, rfl⟩
theorem cb162 : Callable Try.prog 162 := ⟨_, _, Try.func162, by decide, rfl⟩
theorem cb163 : Callable Try.prog 163 := ⟨_, _, Try.func163, by decide, rfl⟩
theorem cb164 : Callable Try.prog 164 := ⟨_, _, Try.func164, by decide, rfl⟩
theorem cb166 : Callable Try.prog 166 := ⟨_, _, Try.func166, by decide, rfl⟩
theorem cb167 : Callable Try.prog 167 := ⟨_, _, Try.func167, by decide, rfl⟩
theorem cb168 : Callable Try.prog 168 := ⟨_, _, Try.func168, by decide, rfl⟩
theorem cb179 : Callable Try.prog 179 := ⟨_, _, Try.func179, by decide, rfl⟩
theorem cb183 : Callable Try.prog 183 := ⟨_, _, Try.func183, by decide, rfl⟩
theorem cb184 : Callable Try.prog 184 := ⟨_, _, Try.func184, by decide, rfl⟩
theorem cb185 : Callable Try.prog 185 := ⟨_, _, Try.func185, by decide, rfl⟩
theorem cb187 : Callable Try.prog 187 := ⟨_, _, Try.func187, by decide, rfl⟩
theorem cb189 : Callable Try.prog 189 := ⟨_, _, Try.func189, by decide, rfl⟩
theorem cb190 : Callable Try.prog 190 := ⟨_, _, Try.func190, by decide, rfl⟩
theorem cb193 : Callable Try.prog 193 := ⟨_, _, Try.func193, by decide, rfl⟩
theorem cb194 : Callable Try.prog 194 := ⟨_, _, Try.func194, by decide, rfl⟩
theorem cb195 : Callable Try.prog 195 := ⟨_, _, Try.func195, by decide, rfl⟩
theorem cb198 : Callable Try.prog 198 := ⟨_, _, Try.func198, by decide, rfl⟩
theorem cb200 : Callable Try.prog 200 := ⟨_, _, Try.func200, by decide, rfl⟩
theorem cb202 : Callable Try.prog 202 := ⟨_, _, Try.func202, by decide, rfl⟩
theorem cb204 : Callable Try.prog 204 := ⟨_, _, Try.func204, by decide, rfl⟩
noncomputable def L0_laws_toBox (p0 : (Vector UInt8 256)) (s10 : (Vector UInt8 256) × Int) : Option (Fl ((Vector UInt8 256) × Int) (Vector UInt8 256)) :=
  if (decide (s10.2 < 256)) = true then ((vidx p0 s10.2).bind fun (x16 : UInt8) => (vidx s10.1 s10.2).bind fun (x19 : UInt8) => some (Fl.nx ((s10.1.setIfInBounds (s10.2).toNat x16), wr (s10.2 + 1)))) else (some (Fl.ex s10.1))
noncomputable def F_laws_toBox (p0 : (Vector UInt8 256)) : Option ((Vector UInt8 256)) :=
  (iter (L0_laws_toBox p0) ((Vector.replicate 256 (0 : UInt8)), 0) : Option ((Vector UInt8 256))).bind fun (j7 : (Vector UInt8 256)) => some j7
set_option maxRecDepth 20000 in
set_option maxHeartbeats 400000 in
theorem c_laws_toBox (w0 : World) (p0 : (Vector UInt8 256)) (r : (Vector UInt8 256)) (hF : F_laws_toBox p0 = some r) :
    Calls Try.prog 89 [(Value.agg (Flat.enc p0).toArray)].toArray w0 (fun en w' => ∃ v, en = .returned v ∧ (v = (Value.agg (Flat.enc r).toArray) ∧ Kept (Old w0) w0 w')) := by
  refine c_enter (n := 15) Try.func89 rfl rfl (Nat.le_of_ble_eq_true rfl) rfl ?_
  intro a hE
  have hM := M.start w0
  unfold F_laws_toBox at hF
  refine c_region ?_
  refine s_box (cs := Flat.enc p0) hE hM goes_none (by decide) rfl rfl ?_; intro b1 w a hM hE
  refine s_alloc hE hM goes_none (by decide) ty54 ?_; intro b3 w a hM hE
  refine c_fin ?_
  refine c_region ?_
  refine s_alloc hE hM goes_none (by decide) ty54 ?_; intro b5 w a hM hE
  refine c_fin ?_
  refine wp_seq ?_
  refine c_region ?_
  refine s_assign hE goes_none (by decide) rfl ?_; intro a hE
  refine c_fin ?_
  obtain ⟨j7, hl8, hF9⟩ := bind_some hF
  refine c_cut (fun a w => Env 15 a [(2, (ptr b3 0)), (3, (ptr b5 0))] ∧ M (Old w0) w0 w [raw b5 (Flat.enc j7), raw b3 (Flat.enc (Vector.replicate 256 (0 : UInt8)))]) ?_ ?_
  · skip
    refine wp_block ?_
    refine c_loop (fun (s10 : (Vector UInt8 256) × Int) a w => Env 15 a [(1, (ptr b1 0)), (2, (ptr b3 0)), (3, (ptr b5 0)), (4, (vI s10.2))] ∧ M (Old w0) w0 w [raw b5 (Flat.enc s10.1), raw b3 (Flat.enc (Vector.replicate 256 (0 : UInt8))), raw b1 (Flat.enc p0)]) hl8 ⟨hE.sub ⟨rfl, rfl, rfl, rfl, trivial⟩, hM⟩ ?_
    rintro s10 a w ⟨hE, hM⟩ o13 hs11 hx12
    unfold L0_laws_toBox at hs11
    refine wp_seq ?_
    refine c_region ?_
    refine s_move hE goes_none (by decide) rfl ?_; intro a hE
    refine s_int hE goes_none (by decide) rfl rfl rfl ?_; intro a hE
    refine c_fin ?_
    refine c_cond hE rfl ?_ ?_
    · intro hb14
      have hs11 := ite_t hs11 hb14
      refine wp_skip ?_
      refine c_nx ?_
      refine wp_seq ?_
      refine wp_block ?_
      refine wp_region_lit ?_
      refine s_move hE goes_none (by decide) rfl ?_; intro a hE
      refine s_move hE goes_none (by decide) rfl ?_; intro a hE
      obtain ⟨x16, e17, hs11⟩ := bind_some hs11
      have hi15 := vidx_some e17
      refine s_indexA hE goes_none (by decide) rfl rfl Try.underlying43 ty5 hi15.1 ?_; intro a hE
      refine s_load (v := (vB x16)) hE goes_none (by decide) rfl ty5 rfl (At.vec (hM.rawAt (pre := [_, _])) hi15.2) ?_; intro a hE
      obtain ⟨x19, e20, hs11⟩ := bind_some hs11
      have hi18 := vidx_some e20
      refine s_indexA hE goes_none (by decide) rfl rfl Try.underlying54 ty5 hi18.1 ?_; intro a hE
      refine s_store (seg := [(vB x16)]) (cs' := Flat.enc (s10.1.setIfInBounds (s10.2).toNat x16)) hE hM goes_none rfl rfl rfl ty5 rfl (fit_vec (v := s10.1) (x := x16) hi18.1) (Flat.cell (x16 : UInt8)) (splice_vec0 (v := s10.1) (x := x16) hi18.1) ?_; intro w a hM hE
      refine c_fin0 ?_
      refine c_nb ?_
      refine c_nx ?_
      refine wp_region_lit ?_
      refine s_move hE goes_none (by decide) rfl ?_; intro a hE
      refine s_int hE goes_none (by decide) rfl rfl rfl ?_; intro a hE
      refine s_assign hE goes_none (by decide) rfl ?_; intro a hE
      refine c_fin0 ?_
      refine c_mid ?_
      exact ⟨_, (Option.some.inj hs11).symm, hE.sub ⟨rfl, rfl, rfl, rfl, trivial⟩, hM⟩
    · intro hb14
      have hs11 := ite_f hs11 hb14
      refine wp_exit (e_then (e_then (e_eq ?_)))
      have ht21 := hx12 _ (Option.some.inj hs11).symm
      subst ht21
      refine c_mid ?_
      have hM := hM.pull (pre := [_])
      have hM := hM.pull (pre := [_])
      have hM := M.fst (l := [_, _]) hM
      exact ⟨hE.sub ⟨rfl, rfl, trivial⟩, hM⟩
  · skip
    rintro a w ⟨hE, hM⟩
    refine c_nx ?_
    refine c_region ?_
    refine s_loadA (cs := Flat.enc j7) hE goes_none (by decide) rfl ty54 rfl (hM.rawAt (pre := [])) (Flat.len _) ?_; intro a hE
    have hM := hM.pull (pre := [_])
    refine s_store (seg := Flat.enc j7) (cs' := Flat.enc j7) hE hM goes_none rfl rfl rfl ty54 (Flat.len _) (Nat.le_of_eq ((Nat.zero_add _).trans (Eq.trans (Flat.len _) (Eq.symm (Flat.len _))))) (Flat.cell _) (splice_all (Eq.trans (Flat.len _) (Eq.symm (Flat.len _)))) ?_; intro w a hM hE
    refine c_fin ?_
    have hr := Option.some.inj hF9
    subst hr
    have hq22 : ResIs Try.prog _ _ (.cell 2 54) _ := res_cell hE rfl ty54 rfl (hM.rawAt (pre := [])) (Flat.len _) rfl
    have hM := M.fst (l := []) hM
    exact wp_ret (k_ret1 hE rfl hq22 ⟨_, rfl, rfl, hM.kept⟩)
noncomputable def L0_laws_toByteA4 (p0 : (Vector UInt8 4)) (s10 : (Vector UInt8 4) × Int) : Option (Fl ((Vector UInt8 4) × Int) (Vector UInt8 4)) :=
  if (decide (s10.2 < 4)) = true then ((vidx p0 s10.2).bind fun (x16 : UInt8) => (vidx s10.1 s10.2).bind fun (x19 : UInt8) => some (Fl.nx ((s10.1.setIfInBounds (s10.2).toNat x16), wr (s10.2 + 1)))) else (some (Fl.ex s10.1))
noncomputable def F_laws_toByteA4 (p0 : (Vector UInt8 4)) : Option ((Vector UInt8 4)) :=
  (iter (L0_laws_toByteA4 p0) ((Vector.replicate 4 (0 : UInt8)), 0) : Option ((Vector UInt8 4))).bind fun (j7 : (Vector UInt8 4)) => some j7
set_option maxRecDepth 20000 in
set_option maxHeartbeats 400000 in
theorem c_laws_toByteA4 (w0 : World) (p0 : (Vector UInt8 4)) (r : (Vector UInt8 4)) (hF : F_laws_toByteA4 p0 = some r) :
    Calls Try.prog 148 [(Value.agg (Flat.enc p0).toArray)].toArray w0 (fun en w' => ∃ v, en = .returned v ∧ (v = (Value.agg (Flat.enc r).toArray) ∧ Kept (Old w0) w0 w')) := by
  refine c_enter (n := 15) Try.func148 rfl rfl (Nat.le_of_ble_eq_true rfl) rfl ?_
  intro a hE
  have hM := M.start w0
  unfold F_laws_toByteA4 at hF
  refine c_region ?_
  refine s_box (cs := Flat.enc p0) hE hM goes_none (by decide) rfl rfl ?_; intro b1 w a hM hE
  refine s_alloc hE hM goes_none (by decide) ty44 ?_; intro b3 w a hM hE
  refine c_fin ?_
  refine c_region ?_
  refine s_alloc hE hM goes_none (by decide) ty44 ?_; intro b5 w a hM hE
  refine c_fin ?_
  refine wp_seq ?_
  refine c_region ?_
  refine s_assign hE goes_none (by decide) rfl ?_; intro a hE
  refine c_fin ?_
  obtain ⟨j7, hl8, hF9⟩ := bind_some hF
  refine c_cut (fun a w => Env 15 a [(2, (ptr b3 0)), (3, (ptr b5 0))] ∧ M (Old w0) w0 w [raw b5 (Flat.enc j7), raw b3 (Flat.enc (Vector.replicate 4 (0 : UInt8)))]) ?_ ?_
  · skip
    refine wp_block ?_
    refine c_loop (fun (s10 : (Vector UInt8 4) × Int) a w => Env 15 a [(1, (ptr b1 0)), (2, (ptr b3 0)), (3, (ptr b5 0)), (4, (vI s10.2))] ∧ M (Old w0) w0 w [raw b5 (Flat.enc s10.1), raw b3 (Flat.enc (Vector.replicate 4 (0 : UInt8))), raw b1 (Flat.enc p0)]) hl8 ⟨hE.sub ⟨rfl, rfl, rfl, rfl, trivial⟩, hM⟩ ?_
    rintro s10 a w ⟨hE, hM⟩ o13 hs11 hx12
    unfold L0_laws_toByteA4 at hs11
    refine wp_seq ?_
    refine c_region ?_
    refine s_move hE goes_none (by decide) rfl ?_; intro a hE
    refine s_int hE goes_none (by decide) rfl rfl rfl ?_; intro a hE
    refine c_fin ?_
    refine c_cond hE rfl ?_ ?_
    · intro hb14
      have hs11 := ite_t hs11 hb14
      refine wp_skip ?_
      refine c_nx ?_
      refine wp_seq ?_
      refine wp_block ?_
      refine wp_region_lit ?_
      refine s_move hE goes_none (by decide) rfl ?_; intro a hE
      refine s_move hE goes_none (by decide) rfl ?_; intro a hE
      obtain ⟨x16, e17, hs11⟩ := bind_some hs11
      have hi15 := vidx_some e17
      refine s_indexA hE goes_none (by decide) rfl rfl Try.underlying44 ty5 hi15.1 ?_; intro a hE
      refine s_load (v := (vB x16)) hE goes_none (by decide) rfl ty5 rfl (At.vec (hM.rawAt (pre := [_, _])) hi15.2) ?_; intro a hE
      obtain ⟨x19, e20, hs11⟩ := bind_some hs11
      have hi18 := vidx_some e20
      refine s_indexA hE goes_none (by decide) rfl rfl Try.underlying44 ty5 hi18.1 ?_; intro a hE
      refine s_store (seg := [(vB x16)]) (cs' := Flat.enc (s10.1.setIfInBounds (s10.2).toNat x16)) hE hM goes_none rfl rfl rfl ty5 rfl (fit_vec (v := s10.1) (x := x16) hi18.1) (Flat.cell (x16 : UInt8)) (splice_vec0 (v := s10.1) (x := x16) hi18.1) ?_; intro w a hM hE
      refine c_fin0 ?_
      refine c_nb ?_
      refine c_nx ?_
      refine wp_region_lit ?_
      refine s_move hE goes_none (by decide) rfl ?_; intro a hE
      refine s_int hE goes_none (by decide) rfl rfl rfl ?_; intro a hE
      refine s_assign hE goes_none (by decide) rfl ?_; intro a hE
      refine c_fin0 ?_
      refine c_mid ?_
      exact ⟨_, (Option.some.inj hs11).symm, hE.sub ⟨rfl, rfl, rfl, rfl, trivial⟩, hM⟩
    · intro hb14
      have hs11 := ite_f hs11 hb14
      refine wp_exit (e_then (e_then (e_eq ?_)))
      have ht21 := hx12 _ (Option.some.inj hs11).symm
      subst ht21
      refine c_mid ?_
      have hM := hM.pull (pre := [_])
      have hM := hM.pull (pre := [_])
      have hM := M.fst (l := [_, _]) hM
      exact ⟨hE.sub ⟨rfl, rfl, trivial⟩, hM⟩
  · skip
    rintro a w ⟨hE, hM⟩
    refine c_nx ?_
    refine c_region ?_
    refine s_loadA (cs := Flat.enc j7) hE goes_none (by decide) rfl ty44 rfl (hM.rawAt (pre := [])) (Flat.len _) ?_; intro a hE
    have hM := hM.pull (pre := [_])
    refine s_store (seg := Flat.enc j7) (cs' := Flat.enc j7) hE hM goes_none rfl rfl rfl ty44 (Flat.len _) (Nat.le_of_eq ((Nat.zero_add _).trans (Eq.trans (Flat.len _) (Eq.symm (Flat.len _))))) (Flat.cell _) (splice_all (Eq.trans (Flat.len _) (Eq.symm (Flat.len _)))) ?_; intro w a hM hE
    refine c_fin ?_
    have hr := Option.some.inj hF9
    subst hr
    have hq22 : ResIs Try.prog _ _ (.cell 2 44) _ := res_cell hE rfl ty44 rfl (hM.rawAt (pre := [])) (Flat.len _) rfl
    have hM := M.fst (l := []) hM
    exact wp_ret (k_ret1 hE rfl hq22 ⟨_, rfl, rfl, hM.kept⟩)
noncomputable def L0_laws_toMatrix (p0 : (Vector (Vector UInt8 4) 4)) (s10 : (Vector (Vector UInt8 4) 4) × Int) : Option (Fl ((Vector (Vector UInt8 4) 4) × Int) (Vector (Vector UInt8 4) 4)) :=
  if (decide (s10.2 < 4)) = true then ((vidx p0 s10.2).bind fun (x16 : (Vector UInt8 4)) => (F_laws_toByteA4 x16).bind fun (r18 : (Vector UInt8 4)) => (vidx s10.1 s10.2).bind fun (x21 : (Vector UInt8 4)) => some (Fl.nx ((s10.1.setIfInBounds (s10.2).toNat r18), wr (s10.2 + 1)))) else (some (Fl.ex s10.1))
noncomputable def F_laws_toMatrix (p0 : (Vector (Vector UInt8 4) 4)) : Option ((Vector (Vector UInt8 4) 4)) :=
  (iter (L0_laws_toMatrix p0) ((Vector.replicate 4 (Vector.replicate 4 (0 : UInt8))), 0) : Option ((Vector (Vector UInt8 4) 4))).bind fun (j7 : (Vector (Vector UInt8 4) 4)) => some j7
set_option maxRecDepth 20000 in
set_option maxHeartbeats 400000 in
theorem c_laws_toMatrix (w0 : World) (p0 : (Vector (Vector UInt8 4) 4)) (r : (Vector (Vector UInt8 4) 4)) (hF : F_laws_toMatrix p0 = some r) :
    Calls Try.prog 90 [(Value.agg (Flat.enc p0).toArray)].toArray w0 (fun en w' => ∃ v, en = .returned v ∧ (v = (Value.agg (Flat.enc r).toArray) ∧ Kept (Old w0) w0 w')) := by
  refine c_enter (n := 16) Try.func90 rfl rfl (Nat.le_of_ble_eq_true rfl) rfl ?_
  intro a hE
  have hM := M.start w0
  unfold F_laws_toMatrix at hF
  refine c_region ?_
  refine s_box (cs := Flat.enc p0) hE hM goes_none (by decide) rfl rfl ?_; intro b1 w a hM hE
  refine s_alloc hE hM goes_none (by decide) ty55 ?_; intro b3 w a hM hE
  refine c_fin ?_
  refine c_region ?_
  refine s_alloc hE hM goes_none (by decide) ty55 ?_; intro b5 w a hM hE
  refine c_fin ?_
  refine wp_seq ?_
  refine c_region ?_
  refine s_assign hE goes_none (by decide) rfl ?_; intro a hE
  refine c_fin ?_
  obtain ⟨j7, hl8, hF9⟩ := bind_some hF
  refine c_cut (fun a w => Env 16 a [(2, (ptr b3 0)), (3, (ptr b5 0))] ∧ M (Old w0) w0 w [raw b5 (Flat.enc j7), raw b3 (Flat.enc (Vector.replicate 4 (Vector.replicate 4 (0 : UInt8))))]) ?_ ?_
  · skip
    refine wp_block ?_
    refine c_loop (fun (s10 : (Vector (Vector UInt8 4) 4) × Int) a w => Env 16 a [(1, (ptr b1 0)), (2, (ptr b3 0)), (3, (ptr b5 0)), (4, (vI s10.2))] ∧ M (Old w0) w0 w [raw b5 (Flat.enc s10.1), raw b3 (Flat.enc (Vector.replicate 4 (Vector.replicate 4 (0 : UInt8)))), raw b1 (Flat.enc p0)]) hl8 ⟨hE.sub ⟨rfl, rfl, rfl, rfl, trivial⟩, hM⟩ ?_
    rintro s10 a w ⟨hE, hM⟩ o13 hs11 hx12
    unfold L0_laws_toMatrix at hs11
    refine wp_seq ?_
    refine c_region ?_
    refine s_move hE goes_none (by decide) rfl ?_; intro a hE
    refine s_int hE goes_none (by decide) rfl rfl rfl ?_; intro a hE
    refine c_fin ?_
    refine c_cond hE rfl ?_ ?_
    · intro hb14
      have hs11 := ite_t hs11 hb14
      refine wp_skip ?_
      refine c_nx ?_
      refine wp_seq ?_
      refine wp_block ?_
      refine wp_region_lit ?_
      refine s_move hE goes_none (by decide) rfl ?_; intro a hE
      refine s_move hE goes_none (by decide) rfl ?_; intro a hE
      obtain ⟨x16, e17, hs11⟩ := bind_some hs11
      have hi15 := vidx_some e17
      refine s_indexA hE goes_none (by decide) rfl rfl Try.underlying45 ty44 hi15.1 ?_; intro a hE
      refine s_loadA (cs := Flat.enc x16) hE goes_none (by decide) rfl ty44 rfl (At.vec (hM.rawAt (pre := [_, _])) hi15.2) (Flat.len _) ?_; intro a hE
      obtain ⟨r18, e19, hs11⟩ := bind_some hs11
      refine s_call (vs := [(Value.agg (Flat.enc x16).toArray)]) hE goes_none (by decide) rfl cb148 (c_laws_toByteA4 _ x16 r18 e19) ?_
      rintro v w a ⟨rfl, hK⟩ hE
      have hM := hM.keep hK
      obtain ⟨x21, e22, hs11⟩ := bind_some hs11
      have hi20 := vidx_some e22
      refine s_indexA hE goes_none (by decide) rfl rfl Try.underlying55 ty44 hi20.1 ?_; intro a hE
      refine s_store (seg := Flat.enc r18) (cs' := Flat.enc (s10.1.setIfInBounds (s10.2).toNat r18)) hE hM goes_none rfl rfl rfl ty44 (Flat.len _) (fit_vec (v := s10.1) (x := r18) hi20.1) (Flat.cell _) (splice_vec0 (v := s10.1) (x := r18) hi20.1) ?_; intro w a hM hE
      refine c_fin0 ?_
      refine c_nb ?_
      refine c_nx ?_
      refine wp_region_lit ?_
      refine s_move hE goes_none (by decide) rfl ?_; intro a hE
      refine s_int hE goes_none (by decide) rfl rfl rfl ?_; intro a hE
      refine s_assign hE goes_none (by decide) rfl ?_; intro a hE
      refine c_fin0 ?_
      refine c_mid ?_
      exact ⟨_, (Option.some.inj hs11).symm, hE.sub ⟨rfl, rfl, rfl, rfl, trivial⟩, hM⟩
    · intro hb14
      have hs11 := ite_f hs11 hb14
      refine wp_exit (e_then (e_then (e_eq ?_)))
      have ht23 := hx12 _ (Option.some.inj hs11).symm
      subst ht23
      refine c_mid ?_
      have hM := hM.pull (pre := [_])
      have hM := hM.pull (pre := [_])
      have hM := M.fst (l := [_, _]) hM
      exact ⟨hE.sub ⟨rfl, rfl, trivial⟩, hM⟩
  · skip
    rintro a w ⟨hE, hM⟩
    refine c_nx ?_
    refine c_region ?_
    refine s_loadA (cs := Flat.enc j7) hE goes_none (by decide) rfl ty55 rfl (hM.rawAt (pre := [])) (Flat.len _) ?_; intro a hE
    have hM := hM.pull (pre := [_])
    refine s_store (seg := Flat.enc j7) (cs' := Flat.enc j7) hE hM goes_none rfl rfl rfl ty55 (Flat.len _) (Nat.le_of_eq ((Nat.zero_add _).trans (Eq.trans (Flat.len _) (Eq.symm (Flat.len _))))) (Flat.cell _) (splice_all (Eq.trans (Flat.len _) (Eq.symm (Flat.len _)))) ?_; intro w a hM hE
    refine c_fin ?_
    have hr := Option.some.inj hF9
    subst hr
    have hq24 : ResIs Try.prog _ _ (.cell 2 55) _ := res_cell hE rfl ty55 rfl (hM.rawAt (pre := [])) (Flat.len _) rfl
    have hM := M.fst (l := []) hM
    exact wp_ret (k_ret1 hE rfl hq24 ⟨_, rfl, rfl, hM.kept⟩)
noncomputable def L0_laws_toPlaces (p0 : (Vector UInt8 16)) (s10 : (Vector UInt8 16) × Int) : Option (Fl ((Vector UInt8 16) × Int) (Vector UInt8 16)) :=
  if (decide (s10.2 < 16)) = true then ((vidx p0 s10.2).bind fun (x16 : UInt8) => (vidx s10.1 s10.2).bind fun (x19 : UInt8) => some (Fl.nx ((s10.1.setIfInBounds (s10.2).toNat x16), wr (s10.2 + 1)))) else (some (Fl.ex s10.1))
noncomputable def F_laws_toPlaces (p0 : (Vector UInt8 16)) : Option ((Vector UInt8 16)) :=
  (iter (L0_laws_toPlaces p0) ((Vector.replicate 16 (0 : UInt8)), 0) : Option ((Vector UInt8 16))).bind fun (j7 : (Vector UInt8 16)) => some j7
set_option maxRecDepth 20000 in
set_option maxHeartbeats 400000 in
theorem c_laws_toPlaces (w0 : World) (p0 : (Vector UInt8 16)) (r : (Vector UInt8 16)) (hF : F_laws_toPlaces p0 = some r) :
    Calls Try.prog 91 [(Value.agg (Flat.enc p0).toArray)].toArray w0 (fun en w' => ∃ v, en = .returned v ∧ (v = (Value.agg (Flat.enc r).toArray) ∧ Kept (Old w0) w0 w')) := by
  refine c_enter (n := 15) Try.func91 rfl rfl (Nat.le_of_ble_eq_true rfl) rfl ?_
  intro a hE
  have hM := M.start w0
  unfold F_laws_toPlaces at hF
  refine c_region ?_
  refine s_box (cs := Flat.enc p0) hE hM goes_none (by decide) rfl rfl ?_; intro b1 w a hM hE
  refine s_alloc hE hM goes_none (by decide) ty56 ?_; intro b3 w a hM hE
  refine c_fin ?_
  refine c_region ?_
  refine s_alloc hE hM goes_none (by decide) ty56 ?_; intro b5 w a hM hE
  refine c_fin ?_
  refine wp_seq ?_
  refine c_region ?_
  refine s_assign hE goes_none (by decide) rfl ?_; intro a hE
  refine c_fin ?_
  obtain ⟨j7, hl8, hF9⟩ := bind_some hF
  refine c_cut (fun a w => Env 15 a [(2, (ptr b3 0)), (3, (ptr b5 0))] ∧ M (Old w0) w0 w [raw b5 (Flat.enc j7), raw b3 (Flat.enc (Vector.replicate 16 (0 : UInt8)))]) ?_ ?_
  · skip
    refine wp_block ?_
    refine c_loop (fun (s10 : (Vector UInt8 16) × Int) a w => Env 15 a [(1, (ptr b1 0)), (2, (ptr b3 0)), (3, (ptr b5 0)), (4, (vI s10.2))] ∧ M (Old w0) w0 w [raw b5 (Flat.enc s10.1), raw b3 (Flat.enc (Vector.replicate 16 (0 : UInt8))), raw b1 (Flat.enc p0)]) hl8 ⟨hE.sub ⟨rfl, rfl, rfl, rfl, trivial⟩, hM⟩ ?_
    rintro s10 a w ⟨hE, hM⟩ o13 hs11 hx12
    unfold L0_laws_toPlaces at hs11
    refine wp_seq ?_
    refine c_region ?_
    refine s_move hE goes_none (by decide) rfl ?_; intro a hE
    refine s_int hE goes_none (by decide) rfl rfl rfl ?_; intro a hE
    refine c_fin ?_
    refine c_cond hE rfl ?_ ?_
    · intro hb14
      have hs11 := ite_t hs11 hb14
      refine wp_skip ?_
      refine c_nx ?_
      refine wp_seq ?_
      refine wp_block ?_
      refine wp_region_lit ?_
      refine s_move hE goes_none (by decide) rfl ?_; intro a hE
      refine s_move hE goes_none (by decide) rfl ?_; intro a hE
      obtain ⟨x16, e17, hs11⟩ := bind_some hs11
      have hi15 := vidx_some e17
      refine s_indexA hE goes_none (by decide) rfl rfl Try.underlying46 ty5 hi15.1 ?_; intro a hE
      refine s_load (v := (vB x16)) hE goes_none (by decide) rfl ty5 rfl (At.vec (hM.rawAt (pre := [_, _])) hi15.2) ?_; intro a hE
      obtain ⟨x19, e20, hs11⟩ := bind_some hs11
      have hi18 := vidx_some e20
      refine s_indexA hE goes_none (by decide) rfl rfl Try.underlying56 ty5 hi18.1 ?_; intro a hE
      refine s_store (seg := [(vB x16)]) (cs' := Flat.enc (s10.1.setIfInBounds (s10.2).toNat x16)) hE hM goes_none rfl rfl rfl ty5 rfl (fit_vec (v := s10.1) (x := x16) hi18.1) (Flat.cell (x16 : UInt8)) (splice_vec0 (v := s10.1) (x := x16) hi18.1) ?_; intro w a hM hE
      refine c_fin0 ?_
      refine c_nb ?_
      refine c_nx ?_
      refine wp_region_lit ?_
      refine s_move hE goes_none (by decide) rfl ?_; intro a hE
      refine s_int hE goes_none (by decide) rfl rfl rfl ?_; intro a hE
      refine s_assign hE goes_none (by decide) rfl ?_; intro a hE
      refine c_fin0 ?_
      refine c_mid ?_
      exact ⟨_, (Option.some.inj hs11).symm, hE.sub ⟨rfl, rfl, rfl, rfl, trivial⟩, hM⟩
    · intro hb14
      have hs11 := ite_f hs11 hb14
      refine wp_exit (e_then (e_then (e_eq ?_)))
      have ht21 := hx12 _ (Option.some.inj hs11).symm
      subst ht21
      refine c_mid ?_
      have hM := hM.pull (pre := [_])
      have hM := hM.pull (pre := [_])
      have hM := M.fst (l := [_, _]) hM
      exact ⟨hE.sub ⟨rfl, rfl, trivial⟩, hM⟩
  · skip
    rintro a w ⟨hE, hM⟩
    refine c_nx ?_
    refine c_region ?_
    refine s_loadA (cs := Flat.enc j7) hE goes_none (by decide) rfl ty56 rfl (hM.rawAt (pre := [])) (Flat.len _) ?_; intro a hE
    have hM := hM.pull (pre := [_])
    refine s_store (seg := Flat.enc j7) (cs' := Flat.enc j7) hE hM goes_none rfl rfl rfl ty56 (Flat.len _) (Nat.le_of_eq ((Nat.zero_add _).trans (Eq.trans (Flat.len _) (Eq.symm (Flat.len _))))) (Flat.cell _) (splice_all (Eq.trans (Flat.len _) (Eq.symm (Flat.len _)))) ?_; intro w a hM hE
    refine c_fin ?_
    have hr := Option.some.inj hF9
    subst hr
    have hq22 : ResIs Try.prog _ _ (.cell 2 56) _ := res_cell hE rfl ty56 rfl (hM.rawAt (pre := [])) (Flat.len _) rfl
    have hM := M.fst (l := []) hM
    exact wp_ret (k_ret1 hE rfl hq22 ⟨_, rfl, rfl, hM.kept⟩)
noncomputable def F_laws_toCipher (p0 : GCipher) : Option (GCipher) :=
  (F_laws_toBox p0.Box).bind fun (r7 : (Vector UInt8 256)) => (F_laws_toMatrix p0.Mix).bind fun (r9 : (Vector (Vector UInt8 4) 4)) => (F_laws_toPlaces p0.Places).bind fun (r11 : (Vector UInt8 16)) => some (⟨p0.Field, r7, r9, r11, p0.Rounds⟩ : GCipher)
set_option maxRecDepth 20000 in
set_option maxHeartbeats 400000 in
theorem c_laws_toCipher (w0 : World) (p0 : GCipher) (r : GCipher) (hF : F_laws_toCipher p0 = some r) :
    Calls Try.prog 33 [(Value.agg (Flat.enc p0).toArray)].toArray w0 (fun en w' => ∃ v, en = .returned v ∧ (v = (Value.agg (Flat.enc r).toArray) ∧ Kept (Old w0) w0 w')) := by
  refine c_enter (n := 23) Try.func33 rfl rfl (Nat.le_of_ble_eq_true rfl) rfl ?_
  intro a hE
  have hM := M.start w0
  unfold F_laws_toCipher at hF
  refine c_region ?_
  refine s_box (cs := cat [[(vI p0.Field)], Flat.enc p0.Box, Flat.enc p0.Mix, Flat.enc p0.Places, [(vI p0.Rounds)]]) hE hM goes_none (by decide) rfl rfl ?_; intro b1 w a hM hE
  refine s_alloc hE hM goes_none (by decide) ty58 ?_; intro b3 w a hM hE
  refine c_fin ?_
  refine c_region ?_
  refine s_alloc hE hM goes_none (by decide) ty58 ?_; intro b5 w a hM hE
  refine c_fin ?_
  refine c_region ?_
  refine s_fieldAddr hE goes_none (by decide) rfl (fd48_0) ?_; intro a hE
  refine s_load (v := (vI p0.Field)) hE goes_none (by decide) rfl ty2 rfl (At.cat (pre := []) (seg := [(vI p0.Field)]) (post := [Flat.enc p0.Box, Flat.enc p0.Mix, Flat.enc p0.Places, [(vI p0.Rounds)]]) (hM.rawAt (pre := [_, _])) cl0) ?_; intro a hE
  refine s_fieldAddr hE goes_none (by decide) rfl (fd58_0) ?_; intro a hE
  refine s_store (seg := [(vI p0.Field)]) (cs' := cat [[(vI p0.Field)], Flat.enc (Vector.replicate 256 (0 : UInt8)), Flat.enc (Vector.replicate 4 (Vector.replicate 4 (0 : UInt8))), Flat.enc (Vector.replicate 16 (0 : UInt8)), [(vI 0)]]) hE hM goes_none rfl rfl rfl ty2 rfl (fit_cat (pre := []) (seg := [(vI 0)]) (post := [Flat.enc (Vector.replicate 256 (0 : UInt8)), Flat.enc (Vector.replicate 4 (Vector.replicate 4 (0 : UInt8))), Flat.enc (Vector.replicate 16 (0 : UInt8)), [(vI 0)]]) cl0 (Eq.trans rfl (Eq.symm rfl))) (Flat.cell (p0.Field : Int)) (splice_cat (pre := []) (seg := [(vI 0)]) (post := [Flat.enc (Vector.replicate 256 (0 : UInt8)), Flat.enc (Vector.replicate 4 (Vector.replicate 4 (0 : UInt8))), Flat.enc (Vector.replicate 16 (0 : UInt8)), [(vI 0)]]) cl0 (Eq.trans rfl (Eq.symm rfl))) ?_; intro w a hM hE
  refine c_fin ?_
  refine c_region ?_
  refine s_fieldAddr hE goes_none (by decide) rfl (fd48_1) ?_; intro a hE
  refine s_loadA (cs := Flat.enc p0.Box) hE goes_none (by decide) rfl ty43 rfl (At.cat (pre := [[(vI p0.Field)]]) (seg := Flat.enc p0.Box) (post := [Flat.enc p0.Mix, Flat.enc p0.Places, [(vI p0.Rounds)]]) (hM.rawAt (pre := [_, _])) (cl1 (n := 1) (m := 0) rfl cl0)) (Flat.len _) ?_; intro a hE
  obtain ⟨r7, e8, hF⟩ := bind_some hF
  refine s_call (vs := [(Value.agg (Flat.enc p0.Box).toArray)]) hE goes_none (by decide) rfl cb89 (c_laws_toBox _ p0.Box r7 e8) ?_
  rintro v w a ⟨rfl, hK⟩ hE
  have hM := hM.keep hK
  refine s_fieldAddr hE goes_none (by decide) rfl (fd58_1) ?_; intro a hE
  refine s_store (seg := Flat.enc r7) (cs' := cat [[(vI p0.Field)], Flat.enc r7, Flat.enc (Vector.replicate 4 (Vector.replicate 4 (0 : UInt8))), Flat.enc (Vector.replicate 16 (0 : UInt8)), [(vI 0)]]) hE hM goes_none rfl rfl rfl ty54 (Flat.len _) (fit_cat (pre := [[(vI p0.Field)]]) (seg := Flat.enc (Vector.replicate 256 (0 : UInt8))) (post := [Flat.enc (Vector.replicate 4 (Vector.replicate 4 (0 : UInt8))), Flat.enc (Vector.replicate 16 (0 : UInt8)), [(vI 0)]]) (cl1 (n := 1) (m := 0) rfl cl0) (Eq.trans (Flat.len _) (Eq.symm (Flat.len _)))) (Flat.cell _) (splice_cat (pre := [[(vI p0.Field)]]) (seg := Flat.enc (Vector.replicate 256 (0 : UInt8))) (post := [Flat.enc (Vector.replicate 4 (Vector.replicate 4 (0 : UInt8))), Flat.enc (Vector.replicate 16 (0 : UInt8)), [(vI 0)]]) (cl1 (n := 1) (m := 0) rfl cl0) (Eq.trans (Flat.len _) (Eq.symm (Flat.len _)))) ?_; intro w a hM hE
  refine c_fin ?_
  refine c_region ?_
  refine s_fieldAddr hE goes_none (by decide) rfl (fd48_2) ?_; intro a hE
  refine s_loadA (cs := Flat.enc p0.Mix) hE goes_none (by decide) rfl ty45 rfl (At.cat (pre := [[(vI p0.Field)], Flat.enc p0.Box]) (seg := Flat.enc p0.Mix) (post := [Flat.enc p0.Places, [(vI p0.Rounds)]]) (hM.rawAt (pre := [_, _])) (cl1 (n := 1) (m := 256) rfl (cl1 (n := 256) (m := 0) (Flat.len _) cl0))) (Flat.len _) ?_; intro a hE
  obtain ⟨r9, e10, hF⟩ := bind_some hF
  refine s_call (vs := [(Value.agg (Flat.enc p0.Mix).toArray)]) hE goes_none (by decide) rfl cb90 (c_laws_toMatrix _ p0.Mix r9 e10) ?_
  rintro v w a ⟨rfl, hK⟩ hE
  have hM := hM.keep hK
  refine s_fieldAddr hE goes_none (by decide) rfl (fd58_2) ?_; intro a hE
  refine s_store (seg := Flat.enc r9) (cs' := cat [[(vI p0.Field)], Flat.enc r7, Flat.enc r9, Flat.enc (Vector.replicate 16 (0 : UInt8)), [(vI 0)]]) hE hM goes_none rfl rfl rfl ty55 (Flat.len _) (fit_cat (pre := [[(vI p0.Field)], Flat.enc r7]) (seg := Flat.enc (Vector.replicate 4 (Vector.replicate 4 (0 : UInt8)))) (post := [Flat.enc (Vector.replicate 16 (0 : UInt8)), [(vI 0)]]) (cl1 (n := 1) (m := 256) rfl (cl1 (n := 256) (m := 0) (Flat.len _) cl0)) (Eq.trans (Flat.len _) (Eq.symm (Flat.len _)))) (Flat.cell _) (splice_cat (pre := [[(vI p0.Field)], Flat.enc r7]) (seg := Flat.enc (Vector.replicate 4 (Vector.replicate 4 (0 : UInt8)))) (post := [Flat.enc (Vector.replicate 16 (0 : UInt8)), [(vI 0)]]) (cl1 (n := 1) (m := 256) rfl (cl1 (n := 256) (m := 0) (Flat.len _) cl0)) (Eq.trans (Flat.len _) (Eq.symm (Flat.len _)))) ?_; intro w a hM hE
  refine c_fin ?_
  refine c_region ?_
  refine s_fieldAddr hE goes_none (by decide) rfl (fd48_3) ?_; intro a hE
  refine s_loadA (cs := Flat.enc p0.Places) hE goes_none (by decide) rfl ty46 rfl (At.cat (pre := [[(vI p0.Field)], Flat.enc p0.Box, Flat.enc p0.Mix]) (seg := Flat.enc p0.Places) (post := [[(vI p0.Rounds)]]) (hM.rawAt (pre := [_, _])) (cl1 (n := 1) (m := 272) rfl (cl1 (n := 256) (m := 16) (Flat.len _) (cl1 (n := 16) (m := 0) (Flat.len _) cl0)))) (Flat.len _) ?_; intro a hE
  obtain ⟨r11, e12, hF⟩ := bind_some hF
  refine s_call (vs := [(Value.agg (Flat.enc p0.Places).toArray)]) hE goes_none (by decide) rfl cb91 (c_laws_toPlaces _ p0.Places r11 e12) ?_
  rintro v w a ⟨rfl, hK⟩ hE
  have hM := hM.keep hK
  refine s_fieldAddr hE goes_none (by decide) rfl (fd58_3) ?_; intro a hE
  refine s_store (seg := Flat.enc r11) (cs' := cat [[(vI p0.Field)], Flat.enc r7, Flat.enc r9, Flat.enc r11, [(vI 0)]]) hE hM goes_none rfl rfl rfl ty56 (Flat.len _) (fit_cat (pre := [[(vI p0.Field)], Flat.enc r7, Flat.enc r9]) (seg := Flat.enc (Vector.replicate 16 (0 : UInt8))) (post := [[(vI 0)]]) (cl1 (n := 1) (m := 272) rfl (cl1 (n := 256) (m := 16) (Flat.len _) (cl1 (n := 16) (m := 0) (Flat.len _) cl0))) (Eq.trans (Flat.len _) (Eq.symm (Flat.len _)))) (Flat.cell _) (splice_cat (pre := [[(vI p0.Field)], Flat.enc r7, Flat.enc r9]) (seg := Flat.enc (Vector.replicate 16 (0 : UInt8))) (post := [[(vI 0)]]) (cl1 (n := 1) (m := 272) rfl (cl1 (n := 256) (m := 16) (Flat.len _) (cl1 (n := 16) (m := 0) (Flat.len _) cl0))) (Eq.trans (Flat.len _) (Eq.symm (Flat.len _)))) ?_; intro w a hM hE
  refine c_fin ?_
  refine c_region ?_
  refine s_fieldAddr hE goes_none (by decide) rfl (fd48_4) ?_; intro a hE
  refine s_load (v := (vI p0.Rounds)) hE goes_none (by decide) rfl ty2 rfl (At.cat (pre := [[(vI p0.Field)], Flat.enc p0.Box, Flat.enc p0.Mix, Flat.enc p0.Places]) (seg := [(vI p0.Rounds)]) (post := []) (hM.rawAt (pre := [_, _])) (cl1 (n := 1) (m := 288) rfl (cl1 (n := 256) (m := 32) (Flat.len _) (cl1 (n := 16) (m := 16) (Flat.len _) (cl1 (n := 16) (m := 0) (Flat.len _) cl0))))) ?_; intro a hE
  refine s_fieldAddr hE goes_none (by decide) rfl (fd58_4) ?_; intro a hE
  refine s_store (seg := [(vI p0.Rounds)]) (cs' := cat [[(vI p0.Field)], Flat.enc r7, Flat.enc r9, Flat.enc r11, [(vI p0.Rounds)]]) hE hM goes_none rfl rfl rfl ty2 rfl (fit_cat (pre := [[(vI p0.Field)], Flat.enc r7, Flat.enc r9, Flat.enc r11]) (seg := [(vI 0)]) (post := []) (cl1 (n := 1) (m := 288) rfl (cl1 (n := 256) (m := 32) (Flat.len _) (cl1 (n := 16) (m := 16) (Flat.len _) (cl1 (n := 16) (m := 0) (Flat.len _) cl0)))) (Eq.trans rfl (Eq.symm rfl))) (Flat.cell (p0.Rounds : Int)) (splice_cat (pre := [[(vI p0.Field)], Flat.enc r7, Flat.enc r9, Flat.enc r11]) (seg := [(vI 0)]) (post := []) (cl1 (n := 1) (m := 288) rfl (cl1 (n := 256) (m := 32) (Flat.len _) (cl1 (n := 16) (m := 16) (Flat.len _) (cl1 (n := 16) (m := 0) (Flat.len _) cl0)))) (Eq.trans rfl (Eq.symm rfl))) ?_; intro w a hM hE
  refine c_fin ?_
  refine c_region ?_
  refine s_loadA (cs := Flat.enc (⟨p0.Field, r7, r9, r11, p0.Rounds⟩ : GCipher)) hE goes_none (by decide) rfl ty58 rfl (hM.rawAt (pre := [])) (cat_len (cl1 (n := 1) (m := 289) rfl (cl1 (n := 256) (m := 33) (Flat.len _) (cl1 (n := 16) (m := 17) (Flat.len _) (cl1 (n := 16) (m := 1) (Flat.len _) (cl1 (n := 1) (m := 0) rfl cl0)))))) ?_; intro a hE
  have hM := hM.pull (pre := [_])
  refine s_store (seg := cat [[(vI ((⟨p0.Field, r7, r9, r11, p0.Rounds⟩ : GCipher).Field))], Flat.enc ((⟨p0.Field, r7, r9, r11, p0.Rounds⟩ : GCipher).Box), Flat.enc ((⟨p0.Field, r7, r9, r11, p0.Rounds⟩ : GCipher).Mix), Flat.enc ((⟨p0.Field, r7, r9, r11, p0.Rounds⟩ : GCipher).Places), [(vI ((⟨p0.Field, r7, r9, r11, p0.Rounds⟩ : GCipher).Rounds))]]) (cs' := cat [[(vI ((⟨p0.Field, r7, r9, r11, p0.Rounds⟩ : GCipher).Field))], Flat.enc ((⟨p0.Field, r7, r9, r11, p0.Rounds⟩ : GCipher).Box), Flat.enc ((⟨p0.Field, r7, r9, r11, p0.Rounds⟩ : GCipher).Mix), Flat.enc ((⟨p0.Field, r7, r9, r11, p0.Rounds⟩ : GCipher).Places), [(vI ((⟨p0.Field, r7, r9, r11, p0.Rounds⟩ : GCipher).Rounds))]]) hE hM goes_none rfl rfl rfl ty58 (cat_len (cl1 (n := 1) (m := 289) rfl (cl1 (n := 256) (m := 33) (Flat.len _) (cl1 (n := 16) (m := 17) (Flat.len _) (cl1 (n := 16) (m := 1) (Flat.len _) (cl1 (n := 1) (m := 0) rfl cl0)))))) (Nat.le_of_eq ((Nat.zero_add _).trans (Eq.trans (cat_len (cl1 (n := 1) (m := 289) rfl (cl1 (n := 256) (m := 33) (Flat.len _) (cl1 (n := 16) (m := 17) (Flat.len _) (cl1 (n := 16) (m := 1) (Flat.len _) (cl1 (n := 1) (m := 0) rfl cl0)))))) (Eq.symm (cat_len (cl1 (n := 1) (m := 289) rfl (cl1 (n := 256) (m := 33) (Flat.len _) (cl1 (n := 16) (m := 17) (Flat.len _) (cl1 (n := 16) (m := 1) (Flat.len _) (cl1 (n := 1) (m := 0) rfl cl0)))))))))) (cat_cell (cc1 (Flat.cell ((⟨p0.Field, r7, r9, r11, p0.Rounds⟩ : GCipher).Field : Int)) (cc1 (Flat.cell _) (cc1 (Flat.cell _) (cc1 (Flat.cell _) (cc1 (Flat.cell ((⟨p0.Field, r7, r9, r11, p0.Rounds⟩ : GCipher).Rounds : Int)) cc0)))))) (splice_all (Eq.trans (cat_len (cl1 (n := 1) (m := 289) rfl (cl1 (n := 256) (m := 33) (Flat.len _) (cl1 (n := 16) (m := 17) (Flat.len _) (cl1 (n := 16) (m := 1) (Flat.len _) (cl1 (n := 1) (m := 0) rfl cl0)))))) (Eq.symm (cat_len (cl1 (n := 1) (m := 289) rfl (cl1 (n := 256) (m := 33) (Flat.len _) (cl1 (n := 16) (m := 17) (Flat.len _) (cl1 (n := 16) (m := 1) (Flat.len _) (cl1 (n := 1) (m := 0) rfl cl0))))))))) ?_; intro w a hM hE
  refine c_fin ?_
  have hr := Option.some.inj hF
  subst hr
  have hq13 : ResIs Try.prog _ _ (.cell 2 58) _ := res_cell hE rfl ty58 rfl (hM.rawAt (pre := [])) (cat_len (cl1 (n := 1) (m := 289) rfl (cl1 (n := 256) (m := 33) (Flat.len _) (cl1 (n := 16) (m := 17) (Flat.len _) (cl1 (n := 16) (m := 1) (Flat.len _) (cl1 (n := 1) (m := 0) rfl cl0)))))) rfl
  have hM := M.fst (l := []) hM
  exact wp_ret (k_ret1 hE rfl hq13 ⟨_, rfl, rfl, hM.kept⟩)
noncomputable def L0_laws_toBlock (p0 : (Vector UInt8 16)) (s10 : (Vector UInt8 16) × Int) : Option (Fl ((Vector UInt8 16) × Int) (Vector UInt8 16)) :=
  if (decide (s10.2 < 16)) = true then ((vidx p0 s10.2).bind fun (x16 : UInt8) => (vidx s10.1 s10.2).bind fun (x19 : UInt8) => some (Fl.nx ((s10.1.setIfInBounds (s10.2).toNat x16), wr (s10.2 + 1)))) else (some (Fl.ex s10.1))
noncomputable def F_laws_toBlock (p0 : (Vector UInt8 16)) : Option ((Vector UInt8 16)) :=
  (iter (L0_laws_toBlock p0) ((Vector.replicate 16 (0 : UInt8)), 0) : Option ((Vector UInt8 16))).bind fun (j7 : (Vector UInt8 16)) => some j7
set_option maxRecDepth 20000 in
set_option maxHeartbeats 400000 in
theorem c_laws_toBlock (w0 : World) (p0 : (Vector UInt8 16)) (r : (Vector UInt8 16)) (hF : F_laws_toBlock p0 = some r) :
    Calls Try.prog 42 [(Value.agg (Flat.enc p0).toArray)].toArray w0 (fun en w' => ∃ v, en = .returned v ∧ (v = (Value.agg (Flat.enc r).toArray) ∧ Kept (Old w0) w0 w')) := by
  refine c_enter (n := 15) Try.func42 rfl rfl (Nat.le_of_ble_eq_true rfl) rfl ?_
  intro a hE
  have hM := M.start w0
  unfold F_laws_toBlock at hF
  refine c_region ?_
  refine s_box (cs := Flat.enc p0) hE hM goes_none (by decide) rfl rfl ?_; intro b1 w a hM hE
  refine s_alloc hE hM goes_none (by decide) ty67 ?_; intro b3 w a hM hE
  refine c_fin ?_
  refine c_region ?_
  refine s_alloc hE hM goes_none (by decide) ty67 ?_; intro b5 w a hM hE
  refine c_fin ?_
  refine wp_seq ?_
  refine c_region ?_
  refine s_assign hE goes_none (by decide) rfl ?_; intro a hE
  refine c_fin ?_
  obtain ⟨j7, hl8, hF9⟩ := bind_some hF
  refine c_cut (fun a w => Env 15 a [(2, (ptr b3 0)), (3, (ptr b5 0))] ∧ M (Old w0) w0 w [raw b5 (Flat.enc j7), raw b3 (Flat.enc (Vector.replicate 16 (0 : UInt8)))]) ?_ ?_
  · skip
    refine wp_block ?_
    refine c_loop (fun (s10 : (Vector UInt8 16) × Int) a w => Env 15 a [(1, (ptr b1 0)), (2, (ptr b3 0)), (3, (ptr b5 0)), (4, (vI s10.2))] ∧ M (Old w0) w0 w [raw b5 (Flat.enc s10.1), raw b3 (Flat.enc (Vector.replicate 16 (0 : UInt8))), raw b1 (Flat.enc p0)]) hl8 ⟨hE.sub ⟨rfl, rfl, rfl, rfl, trivial⟩, hM⟩ ?_
    rintro s10 a w ⟨hE, hM⟩ o13 hs11 hx12
    unfold L0_laws_toBlock at hs11
    refine wp_seq ?_
    refine c_region ?_
    refine s_move hE goes_none (by decide) rfl ?_; intro a hE
    refine s_int hE goes_none (by decide) rfl rfl rfl ?_; intro a hE
    refine c_fin ?_
    refine c_cond hE rfl ?_ ?_
    · intro hb14
      have hs11 := ite_t hs11 hb14
      refine wp_skip ?_
      refine c_nx ?_
      refine wp_seq ?_
      refine wp_block ?_
      refine wp_region_lit ?_
      refine s_move hE goes_none (by decide) rfl ?_; intro a hE
      refine s_move hE goes_none (by decide) rfl ?_; intro a hE
      obtain ⟨x16, e17, hs11⟩ := bind_some hs11
      have hi15 := vidx_some e17
      refine s_indexA hE goes_none (by decide) rfl rfl Try.underlying46 ty5 hi15.1 ?_; intro a hE
      refine s_load (v := (vB x16)) hE goes_none (by decide) rfl ty5 rfl (At.vec (hM.rawAt (pre := [_, _])) hi15.2) ?_; intro a hE
      obtain ⟨x19, e20, hs11⟩ := bind_some hs11
      have hi18 := vidx_some e20
      refine s_indexA hE goes_none (by decide) rfl rfl Try.underlying67 ty5 hi18.1 ?_; intro a hE
      refine s_store (seg := [(vB x16)]) (cs' := Flat.enc (s10.1.setIfInBounds (s10.2).toNat x16)) hE hM goes_none rfl rfl rfl ty5 rfl (fit_vec (v := s10.1) (x := x16) hi18.1) (Flat.cell (x16 : UInt8)) (splice_vec0 (v := s10.1) (x := x16) hi18.1) ?_; intro w a hM hE
      refine c_fin0 ?_
      refine c_nb ?_
      refine c_nx ?_
      refine wp_region_lit ?_
      refine s_move hE goes_none (by decide) rfl ?_; intro a hE
      refine s_int hE goes_none (by decide) rfl rfl rfl ?_; intro a hE
      refine s_assign hE goes_none (by decide) rfl ?_; intro a hE
      refine c_fin0 ?_
      refine c_mid ?_
      exact ⟨_, (Option.some.inj hs11).symm, hE.sub ⟨rfl, rfl, rfl, rfl, trivial⟩, hM⟩
    · intro hb14
      have hs11 := ite_f hs11 hb14
      refine wp_exit (e_then (e_then (e_eq ?_)))
      have ht21 := hx12 _ (Option.some.inj hs11).symm
      subst ht21
      refine c_mid ?_
      have hM := hM.pull (pre := [_])
      have hM := hM.pull (pre := [_])
      have hM := M.fst (l := [_, _]) hM
      exact ⟨hE.sub ⟨rfl, rfl, trivial⟩, hM⟩
  · skip
    rintro a w ⟨hE, hM⟩
    refine c_nx ?_
    refine c_region ?_
    refine s_loadA (cs := Flat.enc j7) hE goes_none (by decide) rfl ty67 rfl (hM.rawAt (pre := [])) (Flat.len _) ?_; intro a hE
    have hM := hM.pull (pre := [_])
    refine s_store (seg := Flat.enc j7) (cs' := Flat.enc j7) hE hM goes_none rfl rfl rfl ty67 (Flat.len _) (Nat.le_of_eq ((Nat.zero_add _).trans (Eq.trans (Flat.len _) (Eq.symm (Flat.len _))))) (Flat.cell _) (splice_all (Eq.trans (Flat.len _) (Eq.symm (Flat.len _)))) ?_; intro w a hM hE
    refine c_fin ?_
    have hr := Option.some.inj hF9
    subst hr
    have hq22 : ResIs Try.prog _ _ (.cell 2 67) _ := res_cell hE rfl ty67 rfl (hM.rawAt (pre := [])) (Flat.len _) rfl
    have hM := M.fst (l := []) hM
    exact wp_ret (k_ret1 hE rfl hq22 ⟨_, rfl, rfl, hM.kept⟩)
noncomputable def F_spec_l01In (p0 : Int) (p1 : Int) (p2 : Int) : Option (Bool) :=
  (if (decide (p0 ≥ p1)) = true then (some (decide (p0 ≤ p2))) else (some false) : Option (Bool)).bind fun (j1 : Bool) => some j1
set_option maxRecDepth 20000 in
set_option maxHeartbeats 400000 in
theorem c_spec_l01In (w0 : World) (p0 : Int) (p1 : Int) (p2 : Int) (r : Bool) (hF : F_spec_l01In p0 p1 p2 = some r) :
    Calls Try.prog 86 [(vI p0), (vI p1), (vI p2)].toArray w0 (fun en w' => ∃ v, en = .returned v ∧ (v = (vT r) ∧ Kept (Old w0) w0 w')) := by
  refine c_enter (n := 15) Try.func86 rfl rfl (Nat.le_of_ble_eq_true rfl) rfl ?_
  intro a hE
  have hM := M.start w0
  unfold F_spec_l01In at hF
  refine c_region ?_
  refine s_assign hE goes_none (by decide) rfl ?_; intro a hE
  refine c_fin ?_
  obtain ⟨j1, hl2, hF3⟩ := bind_some hF
  refine c_join (fun a w => Env 15 a [(6, (vT j1))] ∧ M (Old w0) w0 w []) ?_ ?_
  · skip
    refine wp_region_lit ?_
    refine s_move hE goes_none (by decide) rfl ?_; intro a hE
    refine s_move hE goes_none (by decide) rfl ?_; intro a hE
    refine s_int hE goes_none (by decide) rfl rfl rfl ?_; intro a hE
    refine s_move hE goes_none (by decide) rfl ?_; intro a hE
    refine splitB (decide (p0 ≥ p1)) (fun hb4 => ?_) (fun hb4 => ?_)
    · have hl2 := ite_t hl2 hb4
      refine s_move hE (goes_yes hE rfl (lkb rfl hb4)) (by decide) rfl ?_; intro a hE
      refine s_move hE (goes_yes hE rfl (lkb rfl hb4)) (by decide) rfl ?_; intro a hE
      refine s_int hE (goes_yes hE rfl (lkb rfl hb4)) (by decide) rfl rfl rfl ?_; intro a hE
      refine s_pickT hE goes_none (by decide) (lkb rfl hb4) rfl ?_; intro a hE
      refine s_assign hE goes_none (by decide) rfl ?_; intro a hE
      refine c_fin0 ?_
      have ht5 := Option.some.inj hl2
      subst ht5
      refine c_mid ?_
      exact ⟨hE.sub ⟨rfl, trivial⟩, hM⟩
    · have hl2 := ite_f hl2 hb4
      refine s_skip hE rfl (lkb rfl hb4) rfl (by decide) ?_; intro a hE
      refine s_skip hE rfl (lkb rfl hb4) rfl (by decide) ?_; intro a hE
      refine s_skip hE rfl (lkb rfl hb4) rfl (by decide) ?_; intro a hE
      refine s_pickF hE goes_none (by decide) (lkb rfl hb4) rfl ?_; intro a hE
      refine s_assign hE goes_none (by decide) rfl ?_; intro a hE
      refine c_fin0 ?_
      have ht6 := Option.some.inj hl2
      subst ht6
      refine c_mid ?_
      exact ⟨hE.sub ⟨rfl, trivial⟩, hM⟩
  · skip
    rintro a w ⟨hE, hM⟩
    have hr := Option.some.inj hF3
    subst hr
    exact wp_ret (k_ret1 hE rfl (res_tmp hE rfl) ⟨_, rfl, rfl, hM.kept⟩)
noncomputable def L0_spec_l01Length (s4 : Int × Int) : Option (Fl (Int × Int) Int) :=
  if (decide (s4.1 > 0)) = true then (some (Fl.nx (wr (Int.tdiv s4.1 2), wr (s4.2 + 1)))) else (some (Fl.ex s4.2))
noncomputable def F_spec_l01Length (p0 : Int) : Option (Int) :=
  (iter (L0_spec_l01Length) (p0, 0) : Option (Int)).bind fun (j1 : Int) => some j1
set_option maxRecDepth 20000 in
set_option maxHeartbeats 400000 in
theorem c_spec_l01Length (w0 : World) (p0 : Int) (r : Int) (hF : F_spec_l01Length p0 = some r) :
    Calls Try.prog 198 [(vI p0)].toArray w0 (fun en w' => ∃ v, en = .returned v ∧ (v = (vI r) ∧ Kept (Old w0) w0 w')) := by
  refine c_enter (n := 11) Try.func198 rfl rfl (Nat.le_of_ble_eq_true rfl) rfl ?_
  intro a hE
  have hM := M.start w0
  unfold F_spec_l01Length at hF
  refine c_region ?_
  refine s_assign hE goes_none (by decide) rfl ?_; intro a hE
  refine c_fin ?_
  refine c_region ?_
  refine s_assign hE goes_none (by decide) rfl ?_; intro a hE
  refine c_fin ?_
  obtain ⟨j1, hl2, hF3⟩ := bind_some hF
  refine c_join (fun a w => Env 11 a [(3, (vI j1))] ∧ M (Old w0) w0 w []) ?_ ?_
  · skip
    refine wp_block ?_
    refine c_loop (fun (s4 : Int × Int) a w => Env 11 a [(0, (vI s4.1)), (3, (vI s4.2))] ∧ M (Old w0) w0 w []) hl2 ⟨hE.sub ⟨rfl, rfl, trivial⟩, hM⟩ ?_
    rintro s4 a w ⟨hE, hM⟩ o7 hs5 hx6
    unfold L0_spec_l01Length at hs5
    refine wp_seq ?_
    refine c_region ?_
    refine s_move hE goes_none (by decide) rfl ?_; intro a hE
    refine s_int hE goes_none (by decide) rfl rfl rfl ?_; intro a hE
    refine c_fin ?_
    refine c_cond hE rfl ?_ ?_
    · intro hb8
      have hs5 := ite_t hs5 hb8
      refine wp_skip ?_
      refine c_nx ?_
      refine wp_seq ?_
      refine wp_block ?_
      refine wp_region_lit ?_
      refine s_move hE goes_none (by decide) rfl ?_; intro a hE
      refine s_int hE goes_none (by decide) rfl rfl rfl ?_; intro a hE
      refine s_assign hE goes_none (by decide) rfl ?_; intro a hE
      refine c_fin0 ?_
      refine c_nb ?_
      refine c_nx ?_
      refine wp_region_lit ?_
      refine s_move hE goes_none (by decide) rfl ?_; intro a hE
      refine s_int hE goes_none (by decide) rfl rfl (bI_quo _ _ (by decide)) ?_; intro a hE
      refine s_assign hE goes_none (by decide) rfl ?_; intro a hE
      refine c_fin0 ?_
      refine c_mid ?_
      exact ⟨_, (Option.some.inj hs5).symm, hE.sub ⟨rfl, rfl, trivial⟩, hM⟩
    · intro hb8
      have hs5 := ite_f hs5 hb8
      refine wp_exit (e_then (e_then (e_eq ?_)))
      have ht9 := hx6 _ (Option.some.inj hs5).symm
      subst ht9
      refine c_mid ?_
      exact ⟨hE.sub ⟨rfl, trivial⟩, hM⟩
  · skip
    rintro a w ⟨hE, hM⟩
    refine c_region ?_
    refine s_move hE goes_none (by decide) rfl ?_; intro a hE
    refine s_assign hE goes_none (by decide) rfl ?_; intro a hE
    refine c_fin ?_
    have hr := Option.some.inj hF3
    subst hr
    exact wp_ret (k_ret1 hE rfl (res_tmp hE rfl) ⟨_, rfl, rfl, hM.kept⟩)
noncomputable def L0_spec_l01Rest (p1 : Int) (r1 : Int) (s8 : Int × Int) : Option (Fl (Int × Int) Int) :=
  if (decide (s8.2 ≥ r1)) = true then ((nonneg (IntKind.u64.wrap (wr (s8.2 - r1)))).bind fun _ => (F_spec_l01Length (xorI s8.1 (shlI p1 (IntKind.u64.wrap (wr (s8.2 - r1)))))).bind fun (r14 : Int) => some (Fl.nx (xorI s8.1 (shlI p1 (IntKind.u64.wrap (wr (s8.2 - r1)))), r14))) else (some (Fl.ex s8.1))
noncomputable def F_spec_l01Rest (p0 : Int) (p1 : Int) : Option (Int) :=
  (F_spec_l01Length p1).bind fun (r1 : Int) => (F_spec_l01Length p0).bind fun (r3 : Int) => (iter (L0_spec_l01Rest p1 r1) (p0, r3) : Option (Int)).bind fun (j5 : Int) => some j5
set_option maxRecDepth 20000 in
set_option maxHeartbeats 400000 in
theorem c_spec_l01Rest (w0 : World) (p0 : Int) (p1 : Int) (r : Int) (hF : F_spec_l01Rest p0 p1 = some r) :
    Calls Try.prog 179 [(vI p0), (vI p1)].toArray w0 (fun en w' => ∃ v, en = .returned v ∧ (v = (vI r) ∧ Kept (Old w0) w0 w')) := by
  refine c_enter (n := 25) Try.func179 rfl rfl (Nat.le_of_ble_eq_true rfl) rfl ?_
  intro a hE
  have hM := M.start w0
  unfold F_spec_l01Rest at hF
  refine c_region ?_
  refine s_assign hE goes_none (by decide) rfl ?_; intro a hE
  refine c_fin ?_
  refine c_region ?_
  refine s_move hE goes_none (by decide) rfl ?_; intro a hE
  obtain ⟨r1, e2, hF⟩ := bind_some hF
  refine s_call (vs := [(vI p1)]) hE goes_none (by decide) rfl cb198 (c_spec_l01Length _ p1 r1 e2) ?_
  rintro v w a ⟨rfl, hK⟩ hE
  have hM := hM.keep hK
  refine s_assign hE goes_none (by decide) rfl ?_; intro a hE
  refine c_fin ?_
  refine wp_seq ?_
  refine c_region ?_
  refine s_move hE goes_none (by decide) rfl ?_; intro a hE
  obtain ⟨r3, e4, hF⟩ := bind_some hF
  refine s_call (vs := [(vI p0)]) hE goes_none (by decide) rfl cb198 (c_spec_l01Length _ p0 r3 e4) ?_
  rintro v w a ⟨rfl, hK⟩ hE
  have hM := hM.keep hK
  refine s_assign hE goes_none (by decide) rfl ?_; intro a hE
  refine c_fin ?_
  obtain ⟨j5, hl6, hF7⟩ := bind_some hF
  refine c_cut (fun a w => Env 25 a [(0, (vI j5))] ∧ M (Old w0) w0 w []) ?_ ?_
  · skip
    refine wp_block ?_
    refine c_loop (fun (s8 : Int × Int) a w => Env 25 a [(0, (vI s8.1)), (1, (vI p1)), (5, (vI r1)), (6, (vI s8.2))] ∧ M (Old w0) w0 w []) hl6 ⟨hE.sub ⟨rfl, rfl, rfl, rfl, trivial⟩, hM⟩ ?_
    rintro s8 a w ⟨hE, hM⟩ o11 hs9 hx10
    unfold L0_spec_l01Rest at hs9
    refine wp_seq ?_
    refine c_region ?_
    refine s_move hE goes_none (by decide) rfl ?_; intro a hE
    refine s_move hE goes_none (by decide) rfl ?_; intro a hE
    refine s_int hE goes_none (by decide) rfl rfl rfl ?_; intro a hE
    refine c_fin ?_
    refine c_cond hE rfl ?_ ?_
    · intro hb12
      have hs9 := ite_t hs9 hb12
      refine wp_skip ?_
      refine c_nx ?_
      refine wp_seq ?_
      refine wp_block ?_
      refine wp_region_lit ?_
      refine s_move hE goes_none (by decide) rfl ?_; intro a hE
      refine s_move hE goes_none (by decide) rfl ?_; intro a hE
      refine s_move hE goes_none (by decide) rfl ?_; intro a hE
      refine s_move hE goes_none (by decide) rfl ?_; intro a hE
      refine s_int hE goes_none (by decide) rfl rfl rfl ?_; intro a hE
      refine s_conv hE goes_none (by decide) rfl Try.underlying2 Try.underlying189 ?_; intro a hE
      obtain ⟨_, e13, hs9⟩ := bind_some hs9
      have e13 := nonneg_some e13
      refine s_sh hE goes_none (by decide) rfl rfl (bI_shl _ _ e13) ?_; intro a hE
      refine s_int hE goes_none (by decide) rfl rfl rfl ?_; intro a hE
      refine s_assign hE goes_none (by decide) rfl ?_; intro a hE
      refine c_fin0 ?_
      refine c_nb ?_
      refine c_nx ?_
      refine wp_region_lit ?_
      refine s_move hE goes_none (by decide) rfl ?_; intro a hE
      obtain ⟨r14, e15, hs9⟩ := bind_some hs9
      refine s_call (vs := [(vI (xorI s8.1 (shlI p1 (IntKind.u64.wrap (wr (s8.2 - r1))))))]) hE goes_none (by decide) rfl cb198 (c_spec_l01Length _ (xorI s8.1 (shlI p1 (IntKind.u64.wrap (wr (s8.2 - r1))))) r14 e15) ?_
      rintro v w a ⟨rfl, hK⟩ hE
      have hM := hM.keep hK
      refine s_assign hE goes_none (by decide) rfl ?_; intro a hE
      refine c_fin0 ?_
      refine c_mid ?_
      exact ⟨_, (Option.some.inj hs9).symm, hE.sub ⟨rfl, rfl, rfl, rfl, trivial⟩, hM⟩
    · intro hb12
      have hs9 := ite_f hs9 hb12
      refine wp_exit (e_then (e_then (e_eq ?_)))
      have ht16 := hx10 _ (Option.some.inj hs9).symm
      subst ht16
      refine c_mid ?_
      exact ⟨hE.sub ⟨rfl, trivial⟩, hM⟩
  · skip
    rintro a w ⟨hE, hM⟩
    refine c_nx ?_
    refine c_region ?_
    refine s_move hE goes_none (by decide) rfl ?_; intro a hE
    refine s_assign hE goes_none (by decide) rfl ?_; intro a hE
    refine c_fin ?_
    have hr := Option.some.inj hF7
    subst hr
    exact wp_ret (k_ret1 hE rfl (res_tmp hE rfl) ⟨_, rfl, rfl, hM.kept⟩)
noncomputable def L0_spec_l01Field (p0 : Int) (s8 : Int) : Option (Fl Int (Fl Unit Bool)) :=
  if (decide (s8 < 32)) = true then ((F_spec_l01Rest p0 s8).bind fun (r13 : Int) => if (r13 == 0) = true then (some (Fl.ex (Fl.ex false))) else (some (Fl.nx (wr (s8 + 1))))) else (some (Fl.ex (Fl.nx ())))
noncomputable def F_spec_l01Field (p0 : Int) : Option (Bool) :=
  (F_spec_l01In p0 256 511).bind fun (r1 : Bool) => if (!r1) = true then (some false) else ((iter (L0_spec_l01Field p0) 2 : Option (Fl Unit Bool)).bind fun (j4 : Fl Unit Bool) => j4.el (fun (s7 : Unit) => some true) (fun r => some r))
set_option maxRecDepth 20000 in
set_option maxHeartbeats 400000 in
theorem c_spec_l01Field (w0 : World) (p0 : Int) (r : Bool) (hF : F_spec_l01Field p0 = some r) :
    Calls Try.prog 127 [(vI p0)].toArray w0 (fun en w' => ∃ v, en = .returned v ∧ (v = (vT r) ∧ Kept (Old w0) w0 w')) := by
  refine c_enter (n := 15) Try.func127 rfl rfl (Nat.le_of_ble_eq_true rfl) rfl ?_
  intro a hE
  have hM := M.start w0
  unfold F_spec_l01Field at hF
  refine c_region ?_
  refine s_assign hE goes_none (by decide) rfl ?_; intro a hE
  refine c_fin ?_
  refine wp_seq ?_
  refine c_region ?_
  refine s_move hE goes_none (by decide) rfl ?_; intro a hE
  obtain ⟨r1, e2, hF⟩ := bind_some hF
  refine s_call (vs := [(vI p0), (vI 256), (vI 511)]) hE goes_none (by decide) rfl cb86 (c_spec_l01In _ p0 256 511 r1 e2) ?_
  rintro v w a ⟨rfl, hK⟩ hE
  have hM := hM.keep hK
  refine s_not hE goes_none (by decide) rfl ?_; intro a hE
  refine c_fin ?_
  refine c_cond hE rfl ?_ ?_
  · intro hb3
    have hF := ite_t hF hb3
    refine c_region ?_
    refine s_assign hE goes_none (by decide) rfl ?_; intro a hE
    refine c_fin ?_
    have hr := Option.some.inj hF
    subst hr
    exact wp_ret (r_then (k_ret1 hE rfl (res_tmp hE rfl) ⟨_, rfl, rfl, hM.kept⟩))
  · intro hb3
    have hF := ite_f hF hb3
    refine wp_skip ?_
    refine c_nx ?_
    refine wp_seq ?_
    refine c_region ?_
    refine s_assign hE goes_none (by decide) rfl ?_; intro a hE
    refine c_fin ?_
    obtain ⟨j4, hl5, hF6⟩ := bind_some hF
    refine c_cut (fun a w => ∃ s7 : Unit, j4 = Fl.nx s7 ∧ Env 15 a [] ∧ M (Old w0) w0 w []) ?_ ?_
    · skip
      refine wp_block ?_
      refine c_loop (fun (s8 : Int) a w => Env 15 a [(0, (vI p0)), (3, (vI s8))] ∧ M (Old w0) w0 w []) hl5 ⟨hE.sub ⟨rfl, rfl, trivial⟩, hM⟩ ?_
      rintro s8 a w ⟨hE, hM⟩ o11 hs9 hx10
      unfold L0_spec_l01Field at hs9
      refine wp_seq ?_
      refine c_region ?_
      refine s_move hE goes_none (by decide) rfl ?_; intro a hE
      refine s_int hE goes_none (by decide) rfl rfl rfl ?_; intro a hE
      refine c_fin ?_
      refine c_cond hE rfl ?_ ?_
      · intro hb12
        have hs9 := ite_t hs9 hb12
        refine wp_skip ?_
        refine c_nx ?_
        refine wp_seq ?_
        refine wp_block ?_
        refine c_region ?_
        refine s_move hE goes_none (by decide) rfl ?_; intro a hE
        refine s_move hE goes_none (by decide) rfl ?_; intro a hE
        obtain ⟨r13, e14, hs9⟩ := bind_some hs9
        refine s_call (vs := [(vI p0), (vI s8)]) hE goes_none (by decide) rfl cb179 (c_spec_l01Rest _ p0 s8 r13 e14) ?_
        rintro v w a ⟨rfl, hK⟩ hE
        have hM := hM.keep hK
        refine s_int hE goes_none (by decide) rfl rfl rfl ?_; intro a hE
        refine c_fin ?_
        refine c_cond hE rfl ?_ ?_
        · intro hb15
          have hs9 := ite_t hs9 hb15
          refine c_region ?_
          refine s_assign hE goes_none (by decide) rfl ?_; intro a hE
          refine c_fin ?_
          have ht16 := hx10 _ (Option.some.inj hs9).symm
          subst ht16
          have hr := Option.some.inj hF6
          subst hr
          exact wp_ret (r_inb (r_then (r_then (r_inb (r_then (r_then (k_ret1 hE rfl (res_tmp hE rfl) ⟨_, rfl, rfl, hM.kept⟩)))))))
        · intro hb15
          have hs9 := ite_f hs9 hb15
          refine wp_skip ?_
          refine c_nb ?_
          refine c_nx ?_
          refine wp_region_lit ?_
          refine s_move hE goes_none (by decide) rfl ?_; intro a hE
          refine s_int hE goes_none (by decide) rfl rfl rfl ?_; intro a hE
          refine s_assign hE goes_none (by decide) rfl ?_; intro a hE
          refine c_fin0 ?_
          refine c_mid ?_
          exact ⟨_, (Option.some.inj hs9).symm, hE.sub ⟨rfl, rfl, trivial⟩, hM⟩
      · intro hb12
        have hs9 := ite_f hs9 hb12
        refine wp_exit (e_then (e_then (e_eq ?_)))
        have ht17 := hx10 _ (Option.some.inj hs9).symm
        subst ht17
        refine c_mid ?_
        exact ⟨(), rfl, hE.sub trivial, hM⟩
    · skip
      rintro a w ⟨s7, ht, hE, hM⟩
      subst ht
      have hF6 := el_nx hF6
      refine c_nx ?_
      refine c_region ?_
      refine s_assign hE goes_none (by decide) rfl ?_; intro a hE
      refine c_fin ?_
      have hr := Option.some.inj hF6
      subst hr
      exact wp_ret (k_ret1 hE rfl (res_tmp hE rfl) ⟨_, rfl, rfl, hM.kept⟩)
noncomputable def L0_spec_l02Is (p0 : (Vector UInt8 256)) (s9 : (Vector Bool 256) × Int) : Option (Fl ((Vector Bool 256) × Int) (Fl Unit Bool)) :=
  if (decide (s9.2 < 256)) = true then ((vidx p0 s9.2).bind fun (x15 : UInt8) => (vidx s9.1 (bI x15)).bind fun (x18 : Bool) => if x18 = true then (some (Fl.ex (Fl.ex false))) else ((vidx p0 s9.2).bind fun (x23 : UInt8) => (vidx s9.1 (bI x23)).bind fun (x26 : Bool) => some (Fl.nx ((s9.1.setIfInBounds ((bI x23)).toNat true), wr (s9.2 + 1))))) else (some (Fl.ex (Fl.nx ())))
noncomputable def F_spec_l02Is (p0 : (Vector UInt8 256)) : Option (Bool) :=
  (iter (L0_spec_l02Is p0) ((Vector.replicate 256 false), 0) : Option (Fl Unit Bool)).bind fun (j5 : Fl Unit Bool) => j5.el (fun (s8 : Unit) => some true) (fun r => some r)
set_option maxRecDepth 20000 in
set_option maxHeartbeats 400000 in
theorem c_spec_l02Is (w0 : World) (p0 : (Vector UInt8 256)) (r : Bool) (hF : F_spec_l02Is p0 = some r) :
    Calls Try.prog 144 [(Value.agg (Flat.enc p0).toArray)].toArray w0 (fun en w' => ∃ v, en = .returned v ∧ (v = (vT r) ∧ Kept (Old w0) w0 w')) := by
  refine c_enter (n := 19) Try.func144 rfl rfl (Nat.le_of_ble_eq_true rfl) rfl ?_
  intro a hE
  have hM := M.start w0
  unfold F_spec_l02Is at hF
  refine c_region ?_
  refine s_box (cs := Flat.enc p0) hE hM goes_none (by decide) rfl rfl ?_; intro b1 w a hM hE
  refine s_assign hE goes_none (by decide) rfl ?_; intro a hE
  refine c_fin ?_
  refine c_region ?_
  refine s_buildA (parts := []) (vs := []) (cs := Flat.enc (Vector.replicate 256 false)) hE goes_none (by decide) rfl rfl ty112 rfl ty4 filla_nil ?_; intro a hE
  refine s_alloc hE hM goes_none (by decide) ty112 ?_; intro b3 w a hM hE
  refine s_store (seg := Flat.enc (Vector.replicate 256 false)) (cs' := Flat.enc (Vector.replicate 256 false)) hE hM goes_none rfl rfl rfl ty112 (Flat.len _) (Nat.le_of_eq ((Nat.zero_add _).trans (Eq.trans (Flat.len _) (Eq.symm (Flat.len _))))) (Flat.cell _) (splice_all (Eq.trans (Flat.len _) (Eq.symm (Flat.len _)))) ?_; intro w a hM hE
  refine c_fin ?_
  refine wp_seq ?_
  refine c_region ?_
  refine s_assign hE goes_none (by decide) rfl ?_; intro a hE
  refine c_fin ?_
  obtain ⟨j5, hl6, hF7⟩ := bind_some hF
  refine c_cut (fun a w => ∃ s8 : Unit, j5 = Fl.nx s8 ∧ Env 19 a [] ∧ M (Old w0) w0 w []) ?_ ?_
  · skip
    refine wp_block ?_
    refine c_loop (fun (s9 : (Vector Bool 256) × Int) a w => Env 19 a [(1, (ptr b1 0)), (3, (ptr b3 0)), (4, (vI s9.2))] ∧ M (Old w0) w0 w [raw b3 (Flat.enc s9.1), raw b1 (Flat.enc p0)]) hl6 ⟨hE.sub ⟨rfl, rfl, rfl, trivial⟩, hM⟩ ?_
    rintro s9 a w ⟨hE, hM⟩ o12 hs10 hx11
    unfold L0_spec_l02Is at hs10
    refine wp_seq ?_
    refine c_region ?_
    refine s_move hE goes_none (by decide) rfl ?_; intro a hE
    refine s_int hE goes_none (by decide) rfl rfl rfl ?_; intro a hE
    refine c_fin ?_
    refine c_cond hE rfl ?_ ?_
    · intro hb13
      have hs10 := ite_t hs10 hb13
      refine wp_skip ?_
      refine c_nx ?_
      refine wp_seq ?_
      refine wp_block ?_
      refine wp_seq ?_
      refine c_region ?_
      refine s_move hE goes_none (by decide) rfl ?_; intro a hE
      obtain ⟨x15, e16, hs10⟩ := bind_some hs10
      have hi14 := vidx_some e16
      refine s_indexA hE goes_none (by decide) rfl rfl Try.underlying54 ty5 hi14.1 ?_; intro a hE
      refine s_load (v := (vB x15)) hE goes_none (by decide) rfl ty5 rfl (At.vec (hM.rawAt (pre := [_])) hi14.2) ?_; intro a hE
      obtain ⟨x18, e19, hs10⟩ := bind_some hs10
      have hi17 := vidx_some e19
      refine s_indexA hE goes_none (by decide) rfl rfl Try.underlying112 ty4 hi17.1 ?_; intro a hE
      refine s_load (v := (vT x18)) hE goes_none (by decide) rfl ty4 rfl (At.vec (hM.rawAt (pre := [])) hi17.2) ?_; intro a hE
      refine c_fin ?_
      refine c_cond hE rfl ?_ ?_
      · intro hb20
        have hs10 := ite_t hs10 hb20
        refine c_region ?_
        refine s_assign hE goes_none (by decide) rfl ?_; intro a hE
        refine c_fin ?_
        have ht21 := hx11 _ (Option.some.inj hs10).symm
        subst ht21
        have hr := Option.some.inj hF7
        subst hr
        have hM := M.fst (l := []) hM
        exact wp_ret (r_then (r_inb (r_then (r_then (r_inb (r_then (r_then (k_ret1 hE rfl (res_tmp hE rfl) ⟨_, rfl, rfl, hM.kept⟩))))))))
      · intro hb20
        have hs10 := ite_f hs10 hb20
        refine wp_skip ?_
        refine c_nx ?_
        refine wp_region_lit ?_
        refine s_move hE goes_none (by decide) rfl ?_; intro a hE
        obtain ⟨x23, e24, hs10⟩ := bind_some hs10
        have hi22 := vidx_some e24
        refine s_indexA hE goes_none (by decide) rfl rfl Try.underlying54 ty5 hi22.1 ?_; intro a hE
        refine s_load (v := (vB x23)) hE goes_none (by decide) rfl ty5 rfl (At.vec (hM.rawAt (pre := [_])) hi22.2) ?_; intro a hE
        obtain ⟨x26, e27, hs10⟩ := bind_some hs10
        have hi25 := vidx_some e27
        refine s_indexA hE goes_none (by decide) rfl rfl Try.underlying112 ty4 hi25.1 ?_; intro a hE
        refine s_store (seg := [(vT true)]) (cs' := Flat.enc (s9.1.setIfInBounds ((bI x23)).toNat true)) hE hM goes_none rfl rfl rfl ty4 rfl (fit_vec (v := s9.1) (x := true) hi25.1) (Flat.cell (true : Bool)) (splice_vec0 (v := s9.1) (x := true) hi25.1) ?_; intro w a hM hE
        refine c_fin0 ?_
        refine c_nb ?_
        refine c_nx ?_
        refine wp_region_lit ?_
        refine s_move hE goes_none (by decide) rfl ?_; intro a hE
        refine s_int hE goes_none (by decide) rfl rfl rfl ?_; intro a hE
        refine s_assign hE goes_none (by decide) rfl ?_; intro a hE
        refine c_fin0 ?_
        refine c_mid ?_
        exact ⟨_, (Option.some.inj hs10).symm, hE.sub ⟨rfl, rfl, rfl, trivial⟩, hM⟩
    · intro hb13
      have hs10 := ite_f hs10 hb13
      refine wp_exit (e_then (e_then (e_eq ?_)))
      have ht28 := hx11 _ (Option.some.inj hs10).symm
      subst ht28
      refine c_mid ?_
      have hM := M.fst (l := []) hM
      exact ⟨(), rfl, hE.sub trivial, hM⟩
  · skip
    rintro a w ⟨s8, ht, hE, hM⟩
    subst ht
    have hF7 := el_nx hF7
    refine c_nx ?_
    refine c_region ?_
    refine s_assign hE goes_none (by decide) rfl ?_; intro a hE
    refine c_fin ?_
    have hr := Option.some.inj hF7
    subst hr
    exact wp_ret (k_ret1 hE rfl (res_tmp hE rfl) ⟨_, rfl, rfl, hM.kept⟩)
noncomputable def L0_spec_l03Perm (p0 : (Vector UInt8 16)) (s9 : (Vector Bool 16) × Int) : Option (Fl ((Vector Bool 16) × Int) (Fl Unit Bool)) :=
  if (decide (s9.2 < 16)) = true then (((vidx p0 s9.2).bind fun (x18 : UInt8) => if (decide (x18 ≥ 16)) = true then (some true) else ((vidx p0 s9.2).bind fun (x23 : UInt8) => (vidx s9.1 (bI x23)).bind fun (x26 : Bool) => some x26) : Option (Bool)).bind fun (j14 : Bool) => if j14 = true then (some (Fl.ex (Fl.ex false))) else ((vidx p0 s9.2).bind fun (x32 : UInt8) => (vidx s9.1 (bI x32)).bind fun (x35 : Bool) => some (Fl.nx ((s9.1.setIfInBounds ((bI x32)).toNat true), wr (s9.2 + 1))))) else (some (Fl.ex (Fl.nx ())))
noncomputable def F_spec_l03Perm (p0 : (Vector UInt8 16)) : Option (Bool) :=
  (iter (L0_spec_l03Perm p0) ((Vector.replicate 16 false), 0) : Option (Fl Unit Bool)).bind fun (j5 : Fl Unit Bool) => j5.el (fun (s8 : Unit) => some true) (fun r => some r)
set_option maxRecDepth 20000 in
set_option maxHeartbeats 400000 in
theorem c_spec_l03Perm (w0 : World) (p0 : (Vector UInt8 16)) (r : Bool) (hF : F_spec_l03Perm p0 = some r) :
    Calls Try.prog 145 [(Value.agg (Flat.enc p0).toArray)].toArray w0 (fun en w' => ∃ v, en = .returned v ∧ (v = (vT r) ∧ Kept (Old w0) w0 w')) := by
  refine c_enter (n := 25) Try.func145 rfl rfl (Nat.le_of_ble_eq_true rfl) rfl ?_
  intro a hE
  have hM := M.start w0
  unfold F_spec_l03Perm at hF
  refine c_region ?_
  refine s_box (cs := Flat.enc p0) hE hM goes_none (by decide) rfl rfl ?_; intro b1 w a hM hE
  refine s_assign hE goes_none (by decide) rfl ?_; intro a hE
  refine c_fin ?_
  refine c_region ?_
  refine s_buildA (parts := []) (vs := []) (cs := Flat.enc (Vector.replicate 16 false)) hE goes_none (by decide) rfl rfl ty212 rfl ty4 filla_nil ?_; intro a hE
  refine s_alloc hE hM goes_none (by decide) ty212 ?_; intro b3 w a hM hE
  refine s_store (seg := Flat.enc (Vector.replicate 16 false)) (cs' := Flat.enc (Vector.replicate 16 false)) hE hM goes_none rfl rfl rfl ty212 (Flat.len _) (Nat.le_of_eq ((Nat.zero_add _).trans (Eq.trans (Flat.len _) (Eq.symm (Flat.len _))))) (Flat.cell _) (splice_all (Eq.trans (Flat.len _) (Eq.symm (Flat.len _)))) ?_; intro w a hM hE
  refine c_fin ?_
  refine wp_seq ?_
  refine c_region ?_
  refine s_assign hE goes_none (by decide) rfl ?_; intro a hE
  refine c_fin ?_
  obtain ⟨j5, hl6, hF7⟩ := bind_some hF
  refine c_cut (fun a w => ∃ s8 : Unit, j5 = Fl.nx s8 ∧ Env 25 a [] ∧ M (Old w0) w0 w []) ?_ ?_
  · skip
    refine wp_block ?_
    refine c_loop (fun (s9 : (Vector Bool 16) × Int) a w => Env 25 a [(1, (ptr b1 0)), (3, (ptr b3 0)), (4, (vI s9.2))] ∧ M (Old w0) w0 w [raw b3 (Flat.enc s9.1), raw b1 (Flat.enc p0)]) hl6 ⟨hE.sub ⟨rfl, rfl, rfl, trivial⟩, hM⟩ ?_
    rintro s9 a w ⟨hE, hM⟩ o12 hs10 hx11
    unfold L0_spec_l03Perm at hs10
    refine wp_seq ?_
    refine c_region ?_
    refine s_move hE goes_none (by decide) rfl ?_; intro a hE
    refine s_int hE goes_none (by decide) rfl rfl rfl ?_; intro a hE
    refine c_fin ?_
    refine c_cond hE rfl ?_ ?_
    · intro hb13
      have hs10 := ite_t hs10 hb13
      refine wp_skip ?_
      refine c_nx ?_
      refine wp_seq ?_
      refine wp_block ?_
      refine wp_seq ?_
      obtain ⟨j14, hl15, hF16⟩ := bind_some hs10
      refine c_join (fun a w => Env 25 a [(1, (ptr b1 0)), (3, (ptr b3 0)), (4, (vI s9.2)), (20, (vT j14))] ∧ M (Old w0) w0 w [raw b3 (Flat.enc s9.1), raw b1 (Flat.enc p0)]) ?_ ?_
      · skip
        refine wp_region_lit ?_
        refine s_move hE goes_none (by decide) rfl ?_; intro a hE
        obtain ⟨x18, e19, hl15⟩ := bind_some hl15
        have hi17 := vidx_some e19
        refine s_indexA hE goes_none (by decide) rfl rfl Try.underlying56 ty5 hi17.1 ?_; intro a hE
        refine s_load (v := (vB x18)) hE goes_none (by decide) rfl ty5 rfl (At.vec (hM.rawAt (pre := [_])) hi17.2) ?_; intro a hE
        refine s_int hE goes_none (by decide) rfl rfl (bB_geq x18 16) ?_; intro a hE
        refine s_move hE goes_none (by decide) rfl ?_; intro a hE
        refine splitB (decide (x18 ≥ 16)) (fun hb20 => ?_) (fun hb20 => ?_)
        · have hl15 := ite_t hl15 hb20
          refine s_skip hE rfl (lkb rfl hb20) rfl (by decide) ?_; intro a hE
          refine s_skip hE rfl (lkb rfl hb20) rfl (by decide) ?_; intro a hE
          refine s_skip hE rfl (lkb rfl hb20) rfl (by decide) ?_; intro a hE
          refine s_skip hE rfl (lkb rfl hb20) rfl (by decide) ?_; intro a hE
          refine s_skip hE rfl (lkb rfl hb20) rfl (by decide) ?_; intro a hE
          refine s_pickT hE goes_none (by decide) (lkb rfl hb20) rfl ?_; intro a hE
          refine c_fin0 ?_
          have ht21 := Option.some.inj hl15
          subst ht21
          refine c_mid ?_
          exact ⟨hE.sub ⟨rfl, rfl, rfl, rfl, trivial⟩, hM⟩
        · have hl15 := ite_f hl15 hb20
          refine s_move hE (goes_yes hE rfl (lkb rfl hb20)) (by decide) rfl ?_; intro a hE
          obtain ⟨x23, e24, hl15⟩ := bind_some hl15
          have hi22 := vidx_some e24
          refine s_indexA hE (goes_yes hE rfl (lkb rfl hb20)) (by decide) rfl rfl Try.underlying56 ty5 hi22.1 ?_; intro a hE
          refine s_load (v := (vB x23)) hE (goes_yes hE rfl (lkb rfl hb20)) (by decide) rfl ty5 rfl (At.vec (hM.rawAt (pre := [_])) hi22.2) ?_; intro a hE
          obtain ⟨x26, e27, hl15⟩ := bind_some hl15
          have hi25 := vidx_some e27
          refine s_indexA hE (goes_yes hE rfl (lkb rfl hb20)) (by decide) rfl rfl Try.underlying212 ty4 hi25.1 ?_; intro a hE
          refine s_load (v := (vT x26)) hE (goes_yes hE rfl (lkb rfl hb20)) (by decide) rfl ty4 rfl (At.vec (hM.rawAt (pre := [])) hi25.2) ?_; intro a hE
          refine s_pickF hE goes_none (by decide) (lkb rfl hb20) rfl ?_; intro a hE
          refine c_fin0 ?_
          have ht28 := Option.some.inj hl15
          subst ht28
          refine c_mid ?_
          exact ⟨hE.sub ⟨rfl, rfl, rfl, rfl, trivial⟩, hM⟩
      · skip
        rintro a w ⟨hE, hM⟩
        refine c_cond hE rfl ?_ ?_
        · intro hb29
          have hF16 := ite_t hF16 hb29
          refine c_region ?_
          refine s_assign hE goes_none (by decide) rfl ?_; intro a hE
          refine c_fin ?_
          have ht30 := hx11 _ (Option.some.inj hF16).symm
          subst ht30
          have hr := Option.some.inj hF7
          subst hr
          have hM := M.fst (l := []) hM
          exact wp_ret (r_then (r_inb (r_then (r_then (r_inb (r_then (r_then (k_ret1 hE rfl (res_tmp hE rfl) ⟨_, rfl, rfl, hM.kept⟩))))))))
        · intro hb29
          have hF16 := ite_f hF16 hb29
          refine wp_skip ?_
          refine c_nx ?_
          refine wp_region_lit ?_
          refine s_move hE goes_none (by decide) rfl ?_; intro a hE
          obtain ⟨x32, e33, hF16⟩ := bind_some hF16
          have hi31 := vidx_some e33
          refine s_indexA hE goes_none (by decide) rfl rfl Try.underlying56 ty5 hi31.1 ?_; intro a hE
          refine s_load (v := (vB x32)) hE goes_none (by decide) rfl ty5 rfl (At.vec (hM.rawAt (pre := [_])) hi31.2) ?_; intro a hE
          obtain ⟨x35, e36, hF16⟩ := bind_some hF16
          have hi34 := vidx_some e36
          refine s_indexA hE goes_none (by decide) rfl rfl Try.underlying212 ty4 hi34.1 ?_; intro a hE
          refine s_store (seg := [(vT true)]) (cs' := Flat.enc (s9.1.setIfInBounds ((bI x32)).toNat true)) hE hM goes_none rfl rfl rfl ty4 rfl (fit_vec (v := s9.1) (x := true) hi34.1) (Flat.cell (true : Bool)) (splice_vec0 (v := s9.1) (x := true) hi34.1) ?_; intro w a hM hE
          refine c_fin0 ?_
          refine c_nb ?_
          refine c_nx ?_
          refine wp_region_lit ?_
          refine s_move hE goes_none (by decide) rfl ?_; intro a hE
          refine s_int hE goes_none (by decide) rfl rfl rfl ?_; intro a hE
          refine s_assign hE goes_none (by decide) rfl ?_; intro a hE
          refine c_fin0 ?_
          refine c_mid ?_
          exact ⟨_, (Option.some.inj hF16).symm, hE.sub ⟨rfl, rfl, rfl, trivial⟩, hM⟩
    · intro hb13
      have hs10 := ite_f hs10 hb13
      refine wp_exit (e_then (e_then (e_eq ?_)))
      have ht37 := hx11 _ (Option.some.inj hs10).symm
      subst ht37
      refine c_mid ?_
      have hM := M.fst (l := []) hM
      exact ⟨(), rfl, hE.sub trivial, hM⟩
  · skip
    rintro a w ⟨s8, ht, hE, hM⟩
    subst ht
    have hF7 := el_nx hF7
    refine c_nx ?_
    refine c_region ?_
    refine s_assign hE goes_none (by decide) rfl ?_; intro a hE
    refine c_fin ?_
    have hr := Option.some.inj hF7
    subst hr
    exact wp_ret (k_ret1 hE rfl (res_tmp hE rfl) ⟨_, rfl, rfl, hM.kept⟩)
noncomputable def L0_spec_UnitMatrix (s8 : (Vector (Vector UInt8 4) 4) × Int) : Option (Fl ((Vector (Vector UInt8 4) 4) × Int) (Vector (Vector UInt8 4) 4)) :=
  if (decide (s8.2 < 4)) = true then ((vidx s8.1 s8.2).bind fun (x14 : (Vector UInt8 4)) => (vidx x14 s8.2).bind fun (x17 : UInt8) => some (Fl.nx ((s8.1.setIfInBounds (s8.2).toNat (x14.setIfInBounds (s8.2).toNat 1)), wr (s8.2 + 1)))) else (some (Fl.ex s8.1))
noncomputable def F_spec_UnitMatrix : Option ((Vector (Vector UInt8 4) 4)) :=
  (iter (L0_spec_UnitMatrix) ((Vector.replicate 4 (Vector.replicate 4 (0 : UInt8))), 0) : Option ((Vector (Vector UInt8 4) 4))).bind fun (j5 : (Vector (Vector UInt8 4) 4)) => some j5
set_option maxRecDepth 20000 in
set_option maxHeartbeats 400000 in
theorem c_spec_UnitMatrix (w0 : World)  (r : (Vector (Vector UInt8 4) 4)) (hF : F_spec_UnitMatrix  = some r) :
    Calls Try.prog 204 [].toArray w0 (fun en w' => ∃ v, en = .returned v ∧ (v = (Value.agg (Flat.enc r).toArray) ∧ Kept (Old w0) w0 w')) := by
  refine c_enter (n := 13) Try.func204 rfl rfl (Nat.le_of_ble_eq_true rfl) rfl ?_
  intro a hE
  have hM := M.start w0
  unfold F_spec_UnitMatrix at hF
  refine c_region ?_
  refine s_alloc hE hM goes_none (by decide) ty55 ?_; intro b1 w a hM hE
  refine c_fin ?_
  refine c_region ?_
  refine s_buildA (parts := []) (vs := []) (cs := Flat.enc (Vector.replicate 4 (Vector.replicate 4 (0 : UInt8)))) hE goes_none (by decide) rfl rfl ty55 rfl ty44 filla_nil ?_; intro a hE
  refine s_alloc hE hM goes_none (by decide) ty55 ?_; intro b3 w a hM hE
  refine s_store (seg := Flat.enc (Vector.replicate 4 (Vector.replicate 4 (0 : UInt8)))) (cs' := Flat.enc (Vector.replicate 4 (Vector.replicate 4 (0 : UInt8)))) hE hM goes_none rfl rfl rfl ty55 (Flat.len _) (Nat.le_of_eq ((Nat.zero_add _).trans (Eq.trans (Flat.len _) (Eq.symm (Flat.len _))))) (Flat.cell _) (splice_all (Eq.trans (Flat.len _) (Eq.symm (Flat.len _)))) ?_; intro w a hM hE
  refine c_fin ?_
  refine wp_seq ?_
  refine c_region ?_
  refine s_assign hE goes_none (by decide) rfl ?_; intro a hE
  refine c_fin ?_
  obtain ⟨j5, hl6, hF7⟩ := bind_some hF
  refine c_cut (fun a w => Env 13 a [(0, (ptr b1 0)), (1, (ptr b3 0))] ∧ M (Old w0) w0 w [raw b3 (Flat.enc j5), raw b1 (Flat.enc (Vector.replicate 4 (Vector.replicate 4 (0 : UInt8))))]) ?_ ?_
  · skip
    refine wp_block ?_
    refine c_loop (fun (s8 : (Vector (Vector UInt8 4) 4) × Int) a w => Env 13 a [(0, (ptr b1 0)), (1, (ptr b3 0)), (2, (vI s8.2))] ∧ M (Old w0) w0 w [raw b3 (Flat.enc s8.1), raw b1 (Flat.enc (Vector.replicate 4 (Vector.replicate 4 (0 : UInt8))))]) hl6 ⟨hE.sub ⟨rfl, rfl, rfl, trivial⟩, hM⟩ ?_
    rintro s8 a w ⟨hE, hM⟩ o11 hs9 hx10
    unfold L0_spec_UnitMatrix at hs9
    refine wp_seq ?_
    refine c_region ?_
    refine s_move hE goes_none (by decide) rfl ?_; intro a hE
    refine s_int hE goes_none (by decide) rfl rfl rfl ?_; intro a hE
    refine c_fin ?_
    refine c_cond hE rfl ?_ ?_
    · intro hb12
      have hs9 := ite_t hs9 hb12
      refine wp_skip ?_
      refine c_nx ?_
      refine wp_seq ?_
      refine wp_block ?_
      refine wp_region_lit ?_
      refine s_move hE goes_none (by decide) rfl ?_; intro a hE
      refine s_move hE goes_none (by decide) rfl ?_; intro a hE
      obtain ⟨x14, e15, hs9⟩ := bind_some hs9
      have hi13 := vidx_some e15
      refine s_indexA hE goes_none (by decide) rfl rfl Try.underlying55 ty44 hi13.1 ?_; intro a hE
      obtain ⟨x17, e18, hs9⟩ := bind_some hs9
      have hi16 := vidx_some e18
      refine s_indexA hE goes_none (by decide) rfl rfl Try.underlying44 ty5 hi16.1 ?_; intro a hE
      refine s_store (seg := [(vB 1)]) (cs' := Flat.enc (s8.1.setIfInBounds (s8.2).toNat (x14.setIfInBounds (s8.2).toNat 1))) hE hM goes_none rfl rfl rfl ty5 rfl (fit_vecI (o' := 0 + (s8.2).toNat * 1) hi13 (fit_vec (v := x14) (x := 1) hi16.1) (by first | omega | (simp only [Flat.n] <;> omega))) (Flat.cell (1 : UInt8)) (splice_vecI (o' := 0 + (s8.2).toNat * 1) hi13 (fit_vec (v := x14) (x := 1) hi16.1) (splice_vec0 (v := x14) (x := 1) hi16.1) (by first | omega | (simp only [Flat.n] <;> omega))) ?_; intro w a hM hE
      refine c_fin0 ?_
      refine c_nb ?_
      refine c_nx ?_
      refine wp_region_lit ?_
      refine s_move hE goes_none (by decide) rfl ?_; intro a hE
      refine s_int hE goes_none (by decide) rfl rfl rfl ?_; intro a hE
      refine s_assign hE goes_none (by decide) rfl ?_; intro a hE
      refine c_fin0 ?_
      refine c_mid ?_
      exact ⟨_, (Option.some.inj hs9).symm, hE.sub ⟨rfl, rfl, rfl, trivial⟩, hM⟩
    · intro hb12
      have hs9 := ite_f hs9 hb12
      refine wp_exit (e_then (e_then (e_eq ?_)))
      have ht19 := hx10 _ (Option.some.inj hs9).symm
      subst ht19
      refine c_mid ?_
      exact ⟨hE.sub ⟨rfl, rfl, trivial⟩, hM⟩
  · skip
    rintro a w ⟨hE, hM⟩
    refine c_nx ?_
    refine c_region ?_
    refine s_loadA (cs := Flat.enc j5) hE goes_none (by decide) rfl ty55 rfl (hM.rawAt (pre := [])) (Flat.len _) ?_; intro a hE
    have hM := hM.pull (pre := [_])
    refine s_store (seg := Flat.enc j5) (cs' := Flat.enc j5) hE hM goes_none rfl rfl rfl ty55 (Flat.len _) (Nat.le_of_eq ((Nat.zero_add _).trans (Eq.trans (Flat.len _) (Eq.symm (Flat.len _))))) (Flat.cell _) (splice_all (Eq.trans (Flat.len _) (Eq.symm (Flat.len _)))) ?_; intro w a hM hE
    refine c_fin ?_
    have hr := Option.some.inj hF7
    subst hr
    have hq20 : ResIs Try.prog _ _ (.cell 0 55) _ := res_cell hE rfl ty55 rfl (hM.rawAt (pre := [])) (Flat.len _) rfl
    have hM := M.fst (l := []) hM
    exact wp_ret (k_ret1 hE rfl hq20 ⟨_, rfl, rfl, hM.kept⟩)
noncomputable def L0_spec_l01Times (p0 : Int) (s4 : Int × Int × Int) : Option (Fl (Int × Int × Int) Int) :=
  if (decide (s4.2.2 > 0)) = true then (((if ((Int.tmod s4.2.2 2) == 1) = true then (some (xorI s4.1 s4.2.1)) else (some s4.1) : Option (Int)).bind fun (j12 : Int) => (if (decide ((wr (s4.2.1 * 2)) ≥ 256)) = true then (some (xorI (wr (s4.2.1 * 2)) p0)) else (some (wr (s4.2.1 * 2))) : Option (Int)).bind fun (j18 : Int) => some (j12, j18) : Option (Int × Int)).bind fun (j9 : Int × Int) => some (Fl.nx (j9.1, j9.2, wr (Int.tdiv s4.2.2 2)))) else (some (Fl.ex s4.1))
noncomputable def F_spec_l01Times (p0 : Int) (p1 : UInt8) (p2 : UInt8) : Option (UInt8) :=
  (iter (L0_spec_l01Times p0) (0, bI p1, bI p2) : Option (Int)).bind fun (j1 : Int) => some (byteI j1)
set_option maxRecDepth 20000 in
set_option maxHeartbeats 400000 in
theorem c_spec_l01Times (w0 : World) (p0 : Int) (p1 : UInt8) (p2 : UInt8) (r : UInt8) (hF : F_spec_l01Times p0 p1 p2 = some r) :
    Calls Try.prog 183 [(vI p0), (vB p1), (vB p2)].toArray w0 (fun en w' => ∃ v, en = .returned v ∧ (v = (vB r) ∧ Kept (Old w0) w0 w')) := by
  refine c_enter (n := 33) Try.func183 rfl rfl (Nat.le_of_ble_eq_true rfl) rfl ?_
  intro a hE
  have hM := M.start w0
  unfold F_spec_l01Times at hF
  refine c_region ?_
  refine s_assign hE goes_none (by decide) rfl ?_; intro a hE
  refine c_fin ?_
  refine c_region ?_
  refine s_move hE goes_none (by decide) rfl ?_; intro a hE
  refine s_conv hE goes_none (by decide) rfl Try.underlying5 Try.underlying2 ?_; intro a hE
  rw [byte_wide] at hE
  refine s_assign hE goes_none (by decide) rfl ?_; intro a hE
  refine s_assign hE goes_none (by decide) rfl ?_; intro a hE
  refine c_fin ?_
  refine wp_seq ?_
  refine c_region ?_
  refine s_move hE goes_none (by decide) rfl ?_; intro a hE
  refine s_conv hE goes_none (by decide) rfl Try.underlying5 Try.underlying2 ?_; intro a hE
  rw [byte_wide] at hE
  refine s_assign hE goes_none (by decide) rfl ?_; intro a hE
  refine c_fin ?_
  obtain ⟨j1, hl2, hF3⟩ := bind_some hF
  refine c_cut (fun a w => Env 33 a [(7, (vI j1))] ∧ M (Old w0) w0 w []) ?_ ?_
  · skip
    refine wp_block ?_
    refine c_loop (fun (s4 : Int × Int × Int) a w => Env 33 a [(0, (vI p0)), (7, (vI s4.1)), (8, (vI s4.2.1)), (9, (vI s4.2.2))] ∧ M (Old w0) w0 w []) hl2 ⟨hE.sub ⟨rfl, rfl, rfl, rfl, trivial⟩, hM⟩ ?_
    rintro s4 a w ⟨hE, hM⟩ o7 hs5 hx6
    unfold L0_spec_l01Times at hs5
    refine wp_seq ?_
    refine c_region ?_
    refine s_move hE goes_none (by decide) rfl ?_; intro a hE
    refine s_int hE goes_none (by decide) rfl rfl rfl ?_; intro a hE
    refine c_fin ?_
    refine c_cond hE rfl ?_ ?_
    · intro hb8
      have hs5 := ite_t hs5 hb8
      refine wp_skip ?_
      refine c_nx ?_
      obtain ⟨j9, hl10, hF11⟩ := bind_some hs5
      refine c_join (fun a w => Env 33 a [(0, (vI p0)), (7, (vI j9.1)), (8, (vI j9.2)), (9, (vI s4.2.2))] ∧ M (Old w0) w0 w []) ?_ ?_
      · skip
        refine wp_block ?_
        obtain ⟨j12, hl13, hF14⟩ := bind_some hl10
        refine c_join (fun a w => Env 33 a [(0, (vI p0)), (7, (vI j12)), (8, (vI s4.2.1)), (9, (vI s4.2.2))] ∧ M (Old w0) w0 w []) ?_ ?_
        · skip
          refine c_region ?_
          refine s_move hE goes_none (by decide) rfl ?_; intro a hE
          refine s_int hE goes_none (by decide) rfl rfl (bI_rem _ _ (by decide)) ?_; intro a hE
          refine s_int hE goes_none (by decide) rfl rfl rfl ?_; intro a hE
          refine c_fin ?_
          refine c_cond hE rfl ?_ ?_
          · intro hb15
            have hl13 := ite_t hl13 hb15
            refine wp_region_lit ?_
            refine s_move hE goes_none (by decide) rfl ?_; intro a hE
            refine s_move hE goes_none (by decide) rfl ?_; intro a hE
            refine s_int hE goes_none (by decide) rfl rfl rfl ?_; intro a hE
            refine s_assign hE goes_none (by decide) rfl ?_; intro a hE
            refine c_fin0 ?_
            have ht16 := Option.some.inj hl13
            subst ht16
            refine c_mid ?_
            exact ⟨hE.sub ⟨rfl, rfl, rfl, rfl, trivial⟩, hM⟩
          · intro hb15
            have hl13 := ite_f hl13 hb15
            refine wp_skip ?_
            have ht17 := Option.some.inj hl13
            subst ht17
            refine c_mid ?_
            exact ⟨hE.sub ⟨rfl, rfl, rfl, rfl, trivial⟩, hM⟩
        · skip
          rintro a w ⟨hE, hM⟩
          refine c_region ?_
          refine s_move hE goes_none (by decide) rfl ?_; intro a hE
          refine s_int hE goes_none (by decide) rfl rfl rfl ?_; intro a hE
          refine s_assign hE goes_none (by decide) rfl ?_; intro a hE
          refine c_fin ?_
          refine c_region ?_
          refine s_move hE goes_none (by decide) rfl ?_; intro a hE
          refine s_int hE goes_none (by decide) rfl rfl rfl ?_; intro a hE
          refine c_fin ?_
          obtain ⟨j18, hl19, hF20⟩ := bind_some hF14
          refine c_cut (fun a w => Env 33 a [(0, (vI p0)), (7, (vI j12)), (8, (vI j18)), (9, (vI s4.2.2))] ∧ M (Old w0) w0 w []) ?_ ?_
          · skip
            refine c_cond hE rfl ?_ ?_
            · intro hb21
              have hl19 := ite_t hl19 hb21
              refine wp_region_lit ?_
              refine s_move hE goes_none (by decide) rfl ?_; intro a hE
              refine s_move hE goes_none (by decide) rfl ?_; intro a hE
              refine s_int hE goes_none (by decide) rfl rfl rfl ?_; intro a hE
              refine s_assign hE goes_none (by decide) rfl ?_; intro a hE
              refine c_fin0 ?_
              have ht22 := Option.some.inj hl19
              subst ht22
              refine c_mid ?_
              exact ⟨hE.sub ⟨rfl, rfl, rfl, rfl, trivial⟩, hM⟩
            · intro hb21
              have hl19 := ite_f hl19 hb21
              refine wp_skip ?_
              have ht23 := Option.some.inj hl19
              subst ht23
              refine c_mid ?_
              exact ⟨hE.sub ⟨rfl, rfl, rfl, rfl, trivial⟩, hM⟩
          · skip
            rintro a w ⟨hE, hM⟩
            refine c_nb ?_
            have ht24 := Option.some.inj hF20
            subst ht24
            refine c_mid ?_
            exact ⟨hE.sub ⟨rfl, rfl, rfl, rfl, trivial⟩, hM⟩
      · skip
        rintro a w ⟨hE, hM⟩
        refine wp_region_lit ?_
        refine s_move hE goes_none (by decide) rfl ?_; intro a hE
        refine s_int hE goes_none (by decide) rfl rfl (bI_quo _ _ (by decide)) ?_; intro a hE
        refine s_assign hE goes_none (by decide) rfl ?_; intro a hE
        refine c_fin0 ?_
        refine c_mid ?_
        exact ⟨_, (Option.some.inj hF11).symm, hE.sub ⟨rfl, rfl, rfl, rfl, trivial⟩, hM⟩
    · intro hb8
      have hs5 := ite_f hs5 hb8
      refine wp_exit (e_then (e_then (e_eq ?_)))
      have ht25 := hx6 _ (Option.some.inj hs5).symm
      subst ht25
      refine c_mid ?_
      exact ⟨hE.sub ⟨rfl, trivial⟩, hM⟩
  · skip
    rintro a w ⟨hE, hM⟩
    refine c_nx ?_
    refine c_region ?_
    refine s_move hE goes_none (by decide) rfl ?_; intro a hE
    refine s_conv hE goes_none (by decide) rfl Try.underlying2 Try.underlying5 ?_; intro a hE
    rw [byteI_val] at hE
    refine s_assign hE goes_none (by decide) rfl ?_; intro a hE
    refine c_fin ?_
    have hr := Option.some.inj hF3
    subst hr
    exact wp_ret (k_ret1 hE rfl (res_tmp hE rfl) ⟨_, rfl, rfl, hM.kept⟩)
noncomputable def L0_spec_l01Power (p0 : Int) (s4 : UInt8 × Int × UInt8) : Option (Fl (UInt8 × Int × UInt8) UInt8) :=
  if (decide (s4.2.1 > 0)) = true then (((if ((Int.tmod s4.2.1 2) == 1) = true then ((F_spec_l01Times p0 s4.2.2 s4.1).bind fun (r16 : UInt8) => some r16) else (some s4.2.2) : Option (UInt8)).bind fun (j12 : UInt8) => (F_spec_l01Times p0 s4.1 s4.1).bind fun (r20 : UInt8) => some (r20, j12) : Option (UInt8 × UInt8)).bind fun (j9 : UInt8 × UInt8) => some (Fl.nx (j9.1, wr (Int.tdiv s4.2.1 2), j9.2))) else (some (Fl.ex s4.2.2))
noncomputable def F_spec_l01Power (p0 : Int) (p1 : UInt8) (p2 : Int) : Option (UInt8) :=
  (iter (L0_spec_l01Power p0) (p1, p2, 1) : Option (UInt8)).bind fun (j1 : UInt8) => some j1
set_option maxRecDepth 20000 in
set_option maxHeartbeats 400000 in
theorem c_spec_l01Power (w0 : World) (p0 : Int) (p1 : UInt8) (p2 : Int) (r : UInt8) (hF : F_spec_l01Power p0 p1 p2 = some r) :
    Calls Try.prog 200 [(vI p0), (vB p1), (vI p2)].toArray w0 (fun en w' => ∃ v, en = .returned v ∧ (v = (vB r) ∧ Kept (Old w0) w0 w')) := by
  refine c_enter (n := 24) Try.func200 rfl rfl (Nat.le_of_ble_eq_true rfl) rfl ?_
  intro a hE
  have hM := M.start w0
  unfold F_spec_l01Power at hF
  refine c_region ?_
  refine s_assign hE goes_none (by decide) rfl ?_; intro a hE
  refine c_fin ?_
  refine c_region ?_
  refine s_assign hE goes_none (by decide) rfl ?_; intro a hE
  refine c_fin ?_
  obtain ⟨j1, hl2, hF3⟩ := bind_some hF
  refine c_join (fun a w => Env 24 a [(7, (vB j1))] ∧ M (Old w0) w0 w []) ?_ ?_
  · skip
    refine wp_block ?_
    refine c_loop (fun (s4 : UInt8 × Int × UInt8) a w => Env 24 a [(0, (vI p0)), (1, (vB s4.1)), (2, (vI s4.2.1)), (7, (vB s4.2.2))] ∧ M (Old w0) w0 w []) hl2 ⟨hE.sub ⟨rfl, rfl, rfl, rfl, trivial⟩, hM⟩ ?_
    rintro s4 a w ⟨hE, hM⟩ o7 hs5 hx6
    unfold L0_spec_l01Power at hs5
    refine wp_seq ?_
    refine c_region ?_
    refine s_move hE goes_none (by decide) rfl ?_; intro a hE
    refine s_int hE goes_none (by decide) rfl rfl rfl ?_; intro a hE
    refine c_fin ?_
    refine c_cond hE rfl ?_ ?_
    · intro hb8
      have hs5 := ite_t hs5 hb8
      refine wp_skip ?_
      refine c_nx ?_
      obtain ⟨j9, hl10, hF11⟩ := bind_some hs5
      refine c_join (fun a w => Env 24 a [(0, (vI p0)), (1, (vB j9.1)), (2, (vI s4.2.1)), (7, (vB j9.2))] ∧ M (Old w0) w0 w []) ?_ ?_
      · skip
        refine wp_block ?_
        obtain ⟨j12, hl13, hF14⟩ := bind_some hl10
        refine c_join (fun a w => Env 24 a [(0, (vI p0)), (1, (vB s4.1)), (2, (vI s4.2.1)), (7, (vB j12))] ∧ M (Old w0) w0 w []) ?_ ?_
        · skip
          refine c_region ?_
          refine s_move hE goes_none (by decide) rfl ?_; intro a hE
          refine s_int hE goes_none (by decide) rfl rfl (bI_rem _ _ (by decide)) ?_; intro a hE
          refine s_int hE goes_none (by decide) rfl rfl rfl ?_; intro a hE
          refine c_fin ?_
          refine c_cond hE rfl ?_ ?_
          · intro hb15
            have hl13 := ite_t hl13 hb15
            refine wp_region_lit ?_
            refine s_move hE goes_none (by decide) rfl ?_; intro a hE
            refine s_move hE goes_none (by decide) rfl ?_; intro a hE
            refine s_move hE goes_none (by decide) rfl ?_; intro a hE
            obtain ⟨r16, e17, hl13⟩ := bind_some hl13
            refine s_call (vs := [(vI p0), (vB s4.2.2), (vB s4.1)]) hE goes_none (by decide) rfl cb183 (c_spec_l01Times _ p0 s4.2.2 s4.1 r16 e17) ?_
            rintro v w a ⟨rfl, hK⟩ hE
            have hM := hM.keep hK
            refine s_assign hE goes_none (by decide) rfl ?_; intro a hE
            refine c_fin0 ?_
            have ht18 := Option.some.inj hl13
            subst ht18
            refine c_mid ?_
            exact ⟨hE.sub ⟨rfl, rfl, rfl, rfl, trivial⟩, hM⟩
          · intro hb15
            have hl13 := ite_f hl13 hb15
            refine wp_skip ?_
            have ht19 := Option.some.inj hl13
            subst ht19
            refine c_mid ?_
            exact ⟨hE.sub ⟨rfl, rfl, rfl, rfl, trivial⟩, hM⟩
        · skip
          rintro a w ⟨hE, hM⟩
          refine wp_region_lit ?_
          refine s_move hE goes_none (by decide) rfl ?_; intro a hE
          refine s_move hE goes_none (by decide) rfl ?_; intro a hE
          refine s_move hE goes_none (by decide) rfl ?_; intro a hE
          obtain ⟨r20, e21, hF14⟩ := bind_some hF14
          refine s_call (vs := [(vI p0), (vB s4.1), (vB s4.1)]) hE goes_none (by decide) rfl cb183 (c_spec_l01Times _ p0 s4.1 s4.1 r20 e21) ?_
          rintro v w a ⟨rfl, hK⟩ hE
          have hM := hM.keep hK
          refine s_assign hE goes_none (by decide) rfl ?_; intro a hE
          refine c_fin0 ?_
          refine c_nb ?_
          have ht22 := Option.some.inj hF14
          subst ht22
          refine c_mid ?_
          exact ⟨hE.sub ⟨rfl, rfl, rfl, rfl, trivial⟩, hM⟩
      · skip
        rintro a w ⟨hE, hM⟩
        refine wp_region_lit ?_
        refine s_move hE goes_none (by decide) rfl ?_; intro a hE
        refine s_int hE goes_none (by decide) rfl rfl (bI_quo _ _ (by decide)) ?_; intro a hE
        refine s_assign hE goes_none (by decide) rfl ?_; intro a hE
        refine c_fin0 ?_
        refine c_mid ?_
        exact ⟨_, (Option.some.inj hF11).symm, hE.sub ⟨rfl, rfl, rfl, rfl, trivial⟩, hM⟩
    · intro hb8
      have hs5 := ite_f hs5 hb8
      refine wp_exit (e_then (e_then (e_eq ?_)))
      have ht23 := hx6 _ (Option.some.inj hs5).symm
      subst ht23
      refine c_mid ?_
      exact ⟨hE.sub ⟨rfl, trivial⟩, hM⟩
  · skip
    rintro a w ⟨hE, hM⟩
    refine c_region ?_
    refine s_move hE goes_none (by decide) rfl ?_; intro a hE
    refine s_assign hE goes_none (by decide) rfl ?_; intro a hE
    refine c_fin ?_
    have hr := Option.some.inj hF3
    subst hr
    exact wp_ret (k_ret1 hE rfl (res_tmp hE rfl) ⟨_, rfl, rfl, hM.kept⟩)
noncomputable def F_spec_l01Inv (p0 : Int) (p1 : UInt8) : Option (UInt8) :=
  (F_spec_l01Power p0 p1 254).bind fun (r1 : UInt8) => some r1
set_option maxRecDepth 20000 in
set_option maxHeartbeats 400000 in
theorem c_spec_l01Inv (w0 : World) (p0 : Int) (p1 : UInt8) (r : UInt8) (hF : F_spec_l01Inv p0 p1 = some r) :
    Calls Try.prog 184 [(vI p0), (vB p1)].toArray w0 (fun en w' => ∃ v, en = .returned v ∧ (v = (vB r) ∧ Kept (Old w0) w0 w')) := by
  refine c_enter (n := 8) Try.func184 rfl rfl (Nat.le_of_ble_eq_true rfl) rfl ?_
  intro a hE
  have hM := M.start w0
  unfold F_spec_l01Inv at hF
  refine c_region ?_
  refine s_assign hE goes_none (by decide) rfl ?_; intro a hE
  refine c_fin ?_
  refine c_region ?_
  refine s_move hE goes_none (by decide) rfl ?_; intro a hE
  refine s_move hE goes_none (by decide) rfl ?_; intro a hE
  obtain ⟨r1, e2, hF⟩ := bind_some hF
  refine s_call (vs := [(vI p0), (vB p1), (vI 254)]) hE goes_none (by decide) rfl cb200 (c_spec_l01Power _ p0 p1 254 r1 e2) ?_
  rintro v w a ⟨rfl, hK⟩ hE
  have hM := hM.keep hK
  refine s_assign hE goes_none (by decide) rfl ?_; intro a hE
  refine c_fin ?_
  have hr := Option.some.inj hF
  subst hr
  exact wp_ret (k_ret1 hE rfl (res_tmp hE rfl) ⟨_, rfl, rfl, hM.kept⟩)
noncomputable def L1_spec_l03Reduce (s13 : (Vector (Vector UInt8 4) 4) × (Vector (Vector UInt8 4) 4) × UInt8 × Int) (s21 : Int) : Option (Fl Int Int) :=
  (if (decide (s21 < 4)) = true then ((vidx s13.1 s21).bind fun (x30 : (Vector UInt8 4)) => (vidx x30 s13.2.2.2).bind fun (x33 : UInt8) => some (x33 == 0)) else (some false) : Option (Bool)).bind fun (j25 : Bool) => if j25 = true then (some (Fl.nx (wr (s21 + 1)))) else (some (Fl.ex s21))
noncomputable def L2_spec_l03Reduce (p0 : Int) (s13 : (Vector (Vector UInt8 4) 4) × (Vector (Vector UInt8 4) 4) × UInt8 × Int) (r91 : UInt8) (s96 : (Vector (Vector UInt8 4) 4) × (Vector (Vector UInt8 4) 4) × Int) : Option (Fl ((Vector (Vector UInt8 4) 4) × (Vector (Vector UInt8 4) 4) × Int) ((Vector (Vector UInt8 4) 4) × (Vector (Vector UInt8 4) 4))) :=
  if (decide (s96.2.2 < 4)) = true then (((vidx s96.1 s13.2.2.2).bind fun (x106 : (Vector UInt8 4)) => (vidx x106 s96.2.2).bind fun (x109 : UInt8) => (F_spec_l01Times p0 x109 r91).bind fun (r111 : UInt8) => (vidx s96.1 s13.2.2.2).bind fun (x114 : (Vector UInt8 4)) => (vidx x114 s96.2.2).bind fun (x117 : UInt8) => some (s96.1.setIfInBounds (s13.2.2.2).toNat (x114.setIfInBounds (s96.2.2).toNat r111)) : Option ((Vector (Vector UInt8 4) 4))).bind fun (j101 : (Vector (Vector UInt8 4) 4)) => (vidx s96.2.1 s13.2.2.2).bind fun (x122 : (Vector UInt8 4)) => (vidx x122 s96.2.2).bind fun (x125 : UInt8) => (F_spec_l01Times p0 x125 r91).bind fun (r127 : UInt8) => (vidx s96.2.1 s13.2.2.2).bind fun (x130 : (Vector UInt8 4)) => (vidx x130 s96.2.2).bind fun (x133 : UInt8) => some (Fl.nx (j101, (s96.2.1.setIfInBounds (s13.2.2.2).toNat (x130.setIfInBounds (s96.2.2).toNat r127)), wr (s96.2.2 + 1)))) else (some (Fl.ex (s96.1, s96.2.1)))
noncomputable def L4_spec_l03Reduce (p0 : Int) (s13 : (Vector (Vector UInt8 4) 4) × (Vector (Vector UInt8 4) 4) × UInt8 × Int) (s139 : (Vector (Vector UInt8 4) 4) × (Vector (Vector UInt8 4) 4) × Int) (x148 : UInt8) (s153 : (Vector (Vector UInt8 4) 4) × (Vector (Vector UInt8 4) 4) × Int) : Option (Fl ((Vector (Vector UInt8 4) 4) × (Vector (Vector UInt8 4) 4) × Int) ((Vector (Vector UInt8 4) 4) × (Vector (Vector UInt8 4) 4))) :=
  (if (decide (s153.2.2 < 4)) = true then (some (s139.2.2 != s13.2.2.2)) else (some false) : Option (Bool)).bind fun (j157 : Bool) => if j157 = true then (((vidx s153.1 s139.2.2).bind fun (x169 : (Vector UInt8 4)) => (vidx x169 s153.2.2).bind fun (x172 : UInt8) => (vidx s153.1 s13.2.2.2).bind fun (x175 : (Vector UInt8 4)) => (vidx x175 s153.2.2).bind fun (x178 : UInt8) => (F_spec_l01Times p0 x148 x178).bind fun (r180 : UInt8) => (vidx s153.1 s139.2.2).bind fun (x183 : (Vector UInt8 4)) => (vidx x183 s153.2.2).bind fun (x186 : UInt8) => some (s153.1.setIfInBounds (s139.2.2).toNat (x183.setIfInBounds (s153.2.2).toNat (x172 ^^^ r180))) : Option ((Vector (Vector UInt8 4) 4))).bind fun (j164 : (Vector (Vector UInt8 4) 4)) => (vidx s153.2.1 s139.2.2).bind fun (x191 : (Vector UInt8 4)) => (vidx x191 s153.2.2).bind fun (x194 : UInt8) => (vidx s153.2.1 s13.2.2.2).bind fun (x197 : (Vector UInt8 4)) => (vidx x197 s153.2.2).bind fun (x200 : UInt8) => (F_spec_l01Times p0 x148 x200).bind fun (r202 : UInt8) => (vidx s153.2.1 s139.2.2).bind fun (x205 : (Vector UInt8 4)) => (vidx x205 s153.2.2).bind fun (x208 : UInt8) => some (Fl.nx (j164, (s153.2.1.setIfInBounds (s139.2.2).toNat (x205.setIfInBounds (s153.2.2).toNat (x194 ^^^ r202))), wr (s153.2.2 + 1)))) else (some (Fl.ex (s153.1, s153.2.1)))
noncomputable def L3_spec_l03Reduce (p0 : Int) (s13 : (Vector (Vector UInt8 4) 4) × (Vector (Vector UInt8 4) 4) × UInt8 × Int) (s139 : (Vector (Vector UInt8 4) 4) × (Vector (Vector UInt8 4) 4) × Int) : Option (Fl ((Vector (Vector UInt8 4) 4) × (Vector (Vector UInt8 4) 4) × Int) ((Vector (Vector UInt8 4) 4) × (Vector (Vector UInt8 4) 4))) :=
  if (decide (s139.2.2 < 4)) = true then ((vidx s139.1 s139.2.2).bind fun (x145 : (Vector UInt8 4)) => (vidx x145 s13.2.2.2).bind fun (x148 : UInt8) => (iter (L4_spec_l03Reduce p0 s13 s139 x148) (s139.1, s139.2.1, 0) : Option ((Vector (Vector UInt8 4) 4) × (Vector (Vector UInt8 4) 4))).bind fun (j150 : (Vector (Vector UInt8 4) 4) × (Vector (Vector UInt8 4) 4)) => some (Fl.nx (j150.1, j150.2, wr (s139.2.2 + 1)))) else (some (Fl.ex (s139.1, s139.2.1)))
noncomputable def L0_spec_l03Reduce (p0 : Int) (s13 : (Vector (Vector UInt8 4) 4) × (Vector (Vector UInt8 4) 4) × UInt8 × Int) : Option (Fl ((Vector (Vector UInt8 4) 4) × (Vector (Vector UInt8 4) 4) × UInt8 × Int) (Fl ((Vector (Vector UInt8 4) 4) × UInt8) (UInt8 × (Vector (Vector UInt8 4) 4)))) :=
  if (decide (s13.2.2.2 < 4)) = true then ((iter (L1_spec_l03Reduce s13) s13.2.2.2 : Option (Int)).bind fun (j18 : Int) => if (j18 == 4) = true then (some (Fl.ex (Fl.ex (0, (Vector.replicate 4 (Vector.replicate 4 (0 : UInt8))))))) else ((vidx s13.1 j18).bind fun (x44 : (Vector UInt8 4)) => (vidx s13.2.1 j18).bind fun (x47 : (Vector UInt8 4)) => (vidx s13.1 s13.2.2.2).bind fun (x60 : (Vector UInt8 4)) => (vidx s13.1 j18).bind fun (x63 : (Vector UInt8 4)) => (vidx (s13.1.setIfInBounds (j18).toNat x60) s13.2.2.2).bind fun (x66 : (Vector UInt8 4)) => (vidx s13.2.1 s13.2.2.2).bind fun (x69 : (Vector UInt8 4)) => (vidx s13.2.1 j18).bind fun (x72 : (Vector UInt8 4)) => (vidx (s13.2.1.setIfInBounds (j18).toNat x69) s13.2.2.2).bind fun (x75 : (Vector UInt8 4)) => (vidx ((s13.1.setIfInBounds (j18).toNat x60).setIfInBounds (s13.2.2.2).toNat x44) s13.2.2.2).bind fun (x78 : (Vector UInt8 4)) => (vidx x78 s13.2.2.2).bind fun (x81 : UInt8) => (F_spec_l01Times p0 s13.2.2.1 x81).bind fun (r83 : UInt8) => (vidx ((s13.1.setIfInBounds (j18).toNat x60).setIfInBounds (s13.2.2.2).toNat x44) s13.2.2.2).bind fun (x86 : (Vector UInt8 4)) => (vidx x86 s13.2.2.2).bind fun (x89 : UInt8) => (F_spec_l01Inv p0 x89).bind fun (r91 : UInt8) => (iter (L2_spec_l03Reduce p0 s13 r91) (((s13.1.setIfInBounds (j18).toNat x60).setIfInBounds (s13.2.2.2).toNat x44), ((s13.2.1.setIfInBounds (j18).toNat x69).setIfInBounds (s13.2.2.2).toNat x47), 0) : Option ((Vector (Vector UInt8 4) 4) × (Vector (Vector UInt8 4) 4))).bind fun (j93 : (Vector (Vector UInt8 4) 4) × (Vector (Vector UInt8 4) 4)) => (iter (L3_spec_l03Reduce p0 s13) (j93.1, j93.2, 0) : Option ((Vector (Vector UInt8 4) 4) × (Vector (Vector UInt8 4) 4))).bind fun (j136 : (Vector (Vector UInt8 4) 4) × (Vector (Vector UInt8 4) 4)) => some (Fl.nx (j136.1, j136.2, r83, wr (s13.2.2.2 + 1))))) else (some (Fl.ex (Fl.nx (s13.2.1, s13.2.2.1))))
noncomputable def F_spec_l03Reduce (p0 : Int) (p1 : (Vector (Vector UInt8 4) 4)) : Option (UInt8 × (Vector (Vector UInt8 4) 4)) :=
  (F_spec_UnitMatrix).bind fun (r5 : (Vector (Vector UInt8 4) 4)) => (iter (L0_spec_l03Reduce p0) (p1, r5, 1, 0) : Option (Fl ((Vector (Vector UInt8 4) 4) × UInt8) (UInt8 × (Vector (Vector UInt8 4) 4)))).bind fun (j9 : Fl ((Vector (Vector UInt8 4) 4) × UInt8) (UInt8 × (Vector (Vector UInt8 4) 4))) => j9.el (fun (s12 : (Vector (Vector UInt8 4) 4) × UInt8) => (some (s12.1, s12.2) : Option ((Vector (Vector UInt8 4) 4) × UInt8)).bind fun (j213 : (Vector (Vector UInt8 4) 4) × UInt8) => some (j213.2, j213.1)) (fun r => some r)
set_option maxRecDepth 20000 in
set_option maxHeartbeats 400000 in
theorem c_spec_l03Reduce (w0 : World) (p0 : Int) (p1 : (Vector (Vector UInt8 4) 4)) (r : UInt8 × (Vector (Vector UInt8 4) 4)) (hF : F_spec_l03Reduce p0 p1 = some r) :
    Calls Try.prog 193 [(vI p0), (Value.agg (Flat.enc p1).toArray)].toArray w0 (fun en w' => ∃ v, en = .returned v ∧ (v = (Value.tuple [(vB r.1), (Value.agg (Flat.enc r.2).toArray)].toArray) ∧ Kept (Old w0) w0 w')) := by
  refine c_enter (n := 159) Try.func193 rfl rfl (Nat.le_of_ble_eq_true rfl) rfl ?_
  intro a hE
  have hM := M.start w0
  unfold F_spec_l03Reduce at hF
  refine c_region ?_
  refine s_box (cs := Flat.enc p1) hE hM goes_none (by decide) rfl rfl ?_; intro b1 w a hM hE
  refine s_assign hE goes_none (by decide) rfl ?_; intro a hE
  refine s_alloc hE hM goes_none (by decide) ty55 ?_; intro b3 w a hM hE
  refine c_fin ?_
  refine c_region ?_
  obtain ⟨r5, e6, hF⟩ := bind_some hF
  refine s_call (vs := []) hE goes_none (by decide) rfl cb204 (c_spec_UnitMatrix _  r5 e6) ?_
  rintro v w a ⟨rfl, hK⟩ hE
  have hM := hM.keep hK
  refine s_alloc hE hM goes_none (by decide) ty55 ?_; intro b7 w a hM hE
  refine s_store (seg := Flat.enc r5) (cs' := Flat.enc r5) hE hM goes_none rfl rfl rfl ty55 (Flat.len _) (Nat.le_of_eq ((Nat.zero_add _).trans (Eq.trans (Flat.len _) (Eq.symm (Flat.len _))))) (Flat.cell _) (splice_all (Eq.trans (Flat.len _) (Eq.symm (Flat.len _)))) ?_; intro w a hM hE
  refine s_assign hE goes_none (by decide) rfl ?_; intro a hE
  refine c_fin ?_
  refine wp_seq ?_
  refine c_region ?_
  refine s_assign hE goes_none (by decide) rfl ?_; intro a hE
  refine c_fin ?_
  obtain ⟨j9, hl10, hF11⟩ := bind_some hF
  refine c_cut (fun a w => ∃ s12 : (Vector (Vector UInt8 4) 4) × UInt8, j9 = Fl.nx s12 ∧ Env 159 a [(5, (ptr b3 0)), (6, (ptr b7 0)), (7, (vB s12.2))] ∧ M (Old w0) w0 w [raw b7 (Flat.enc s12.1), raw b3 (Flat.enc (Vector.replicate 4 (Vector.replicate 4 (0 : UInt8))))]) ?_ ?_
  · skip
    refine wp_block ?_
    refine c_loop (fun (s13 : (Vector (Vector UInt8 4) 4) × (Vector (Vector UInt8 4) 4) × UInt8 × Int) a w => Env 159 a [(0, (vI p0)), (3, (ptr b1 0)), (5, (ptr b3 0)), (6, (ptr b7 0)), (7, (vB s13.2.2.1)), (8, (vI s13.2.2.2))] ∧ M (Old w0) w0 w [raw b7 (Flat.enc s13.2.1), raw b3 (Flat.enc (Vector.replicate 4 (Vector.replicate 4 (0 : UInt8)))), raw b1 (Flat.enc s13.1)]) hl10 ⟨hE.sub ⟨rfl, rfl, rfl, rfl, rfl, rfl, trivial⟩, hM⟩ ?_
    rintro s13 a w ⟨hE, hM⟩ o16 hs14 hx15
    unfold L0_spec_l03Reduce at hs14
    refine wp_seq ?_
    refine c_region ?_
    refine s_move hE goes_none (by decide) rfl ?_; intro a hE
    refine s_int hE goes_none (by decide) rfl rfl rfl ?_; intro a hE
    refine c_fin ?_
    refine c_cond hE rfl ?_ ?_
    · intro hb17
      have hs14 := ite_t hs14 hb17
      refine wp_skip ?_
      refine c_nx ?_
      refine wp_seq ?_
      refine wp_block ?_
      refine c_region ?_
      refine s_move hE goes_none (by decide) rfl ?_; intro a hE
      refine s_assign hE goes_none (by decide) rfl ?_; intro a hE
      refine c_fin ?_
      obtain ⟨j18, hl19, hF20⟩ := bind_some hs14
      refine c_join (fun a w => Env 159 a [(0, (vI p0)), (3, (ptr b1 0)), (5, (ptr b3 0)), (6, (ptr b7 0)), (7, (vB s13.2.2.1)), (8, (vI s13.2.2.2)), (9, (vI j18))] ∧ M (Old w0) w0 w [raw b7 (Flat.enc s13.2.1), raw b3 (Flat.enc (Vector.replicate 4 (Vector.replicate 4 (0 : UInt8)))), raw b1 (Flat.enc s13.1)]) ?_ ?_
      · skip
        refine wp_block ?_
        refine c_loop (fun (s21 : Int) a w => Env 159 a [(0, (vI p0)), (3, (ptr b1 0)), (5, (ptr b3 0)), (6, (ptr b7 0)), (7, (vB s13.2.2.1)), (8, (vI s13.2.2.2)), (9, (vI s21))] ∧ M (Old w0) w0 w [raw b7 (Flat.enc s13.2.1), raw b3 (Flat.enc (Vector.replicate 4 (Vector.replicate 4 (0 : UInt8)))), raw b1 (Flat.enc s13.1)]) hl19 ⟨hE.sub ⟨rfl, rfl, rfl, rfl, rfl, rfl, rfl, trivial⟩, hM⟩ ?_
        rintro s21 a w ⟨hE, hM⟩ o24 hs22 hx23
        unfold L1_spec_l03Reduce at hs22
        refine wp_seq ?_
        obtain ⟨j25, hl26, hF27⟩ := bind_some hs22
        refine c_join (fun a w => Env 159 a [(0, (vI p0)), (3, (ptr b1 0)), (5, (ptr b3 0)), (6, (ptr b7 0)), (7, (vB s13.2.2.1)), (8, (vI s13.2.2.2)), (9, (vI s21)), (32, (vT j25))] ∧ M (Old w0) w0 w [raw b7 (Flat.enc s13.2.1), raw b3 (Flat.enc (Vector.replicate 4 (Vector.replicate 4 (0 : UInt8)))), raw b1 (Flat.enc s13.1)]) ?_ ?_
        · skip
          refine wp_region_lit ?_
          refine s_move hE goes_none (by decide) rfl ?_; intro a hE
          refine s_int hE goes_none (by decide) rfl rfl rfl ?_; intro a hE
          refine s_move hE goes_none (by decide) rfl ?_; intro a hE
          refine splitB (decide (s21 < 4)) (fun hb28 => ?_) (fun hb28 => ?_)
          · have hl26 := ite_t hl26 hb28
            refine s_move hE (goes_yes hE rfl (lkb rfl hb28)) (by decide) rfl ?_; intro a hE
            refine s_move hE (goes_yes hE rfl (lkb rfl hb28)) (by decide) rfl ?_; intro a hE
            obtain ⟨x30, e31, hl26⟩ := bind_some hl26
            have hi29 := vidx_some e31
            refine s_indexA hE (goes_yes hE rfl (lkb rfl hb28)) (by decide) rfl rfl Try.underlying55 ty44 hi29.1 ?_; intro a hE
            obtain ⟨x33, e34, hl26⟩ := bind_some hl26
            have hi32 := vidx_some e34
            refine s_indexA hE (goes_yes hE rfl (lkb rfl hb28)) (by decide) rfl rfl Try.underlying44 ty5 hi32.1 ?_; intro a hE
            refine s_load (v := (vB x33)) hE (goes_yes hE rfl (lkb rfl hb28)) (by decide) rfl ty5 rfl (At.vec (At.vec (hM.rawAt (pre := [_, _])) hi29.2) hi32.2) ?_; intro a hE
            refine s_int hE (goes_yes hE rfl (lkb rfl hb28)) (by decide) rfl rfl (bB_eql x33 0) ?_; intro a hE
            refine s_pickT hE goes_none (by decide) (lkb rfl hb28) rfl ?_; intro a hE
            refine c_fin0 ?_
            have ht35 := Option.some.inj hl26
            subst ht35
            refine c_mid ?_
            exact ⟨hE.sub ⟨rfl, rfl, rfl, rfl, rfl, rfl, rfl, rfl, trivial⟩, hM⟩
          · have hl26 := ite_f hl26 hb28
            refine s_skip hE rfl (lkb rfl hb28) rfl (by decide) ?_; intro a hE
            refine s_skip hE rfl (lkb rfl hb28) rfl (by decide) ?_; intro a hE
            refine s_skip hE rfl (lkb rfl hb28) rfl (by decide) ?_; intro a hE
            refine s_skip hE rfl (lkb rfl hb28) rfl (by decide) ?_; intro a hE
            refine s_skip hE rfl (lkb rfl hb28) rfl (by decide) ?_; intro a hE
            refine s_skip hE rfl (lkb rfl hb28) rfl (by decide) ?_; intro a hE
            refine s_pickF hE goes_none (by decide) (lkb rfl hb28) rfl ?_; intro a hE
            refine c_fin0 ?_
            have ht36 := Option.some.inj hl26
            subst ht36
            refine c_mid ?_
            exact ⟨hE.sub ⟨rfl, rfl, rfl, rfl, rfl, rfl, rfl, rfl, trivial⟩, hM⟩
        · skip
          rintro a w ⟨hE, hM⟩
          refine c_cond hE rfl ?_ ?_
          · intro hb37
            have hF27 := ite_t hF27 hb37
            refine wp_skip ?_
            refine c_nx ?_
            refine wp_block ?_
            refine wp_region_lit ?_
            refine s_move hE goes_none (by decide) rfl ?_; intro a hE
            refine s_int hE goes_none (by decide) rfl rfl rfl ?_; intro a hE
            refine s_assign hE goes_none (by decide) rfl ?_; intro a hE
            refine c_fin0 ?_
            refine c_nb ?_
            refine c_mid ?_
            exact ⟨_, (Option.some.inj hF27).symm, hE.sub ⟨rfl, rfl, rfl, rfl, rfl, rfl, rfl, trivial⟩, hM⟩
          · intro hb37
            have hF27 := ite_f hF27 hb37
            refine wp_exit (e_then (e_then (e_eq ?_)))
            have ht38 := hx23 _ (Option.some.inj hF27).symm
            subst ht38
            refine c_mid ?_
            exact ⟨hE.sub ⟨rfl, rfl, rfl, rfl, rfl, rfl, rfl, trivial⟩, hM⟩
      · skip
        rintro a w ⟨hE, hM⟩
        refine wp_seq ?_
        refine c_region ?_
        refine s_move hE goes_none (by decide) rfl ?_; intro a hE
        refine s_int hE goes_none (by decide) rfl rfl rfl ?_; intro a hE
        refine c_fin ?_
        refine c_cond hE rfl ?_ ?_
        · intro hb39
          have hF20 := ite_t hF20 hb39
          refine c_region ?_
          refine s_buildA (parts := []) (vs := []) (cs := Flat.enc (Vector.replicate 4 (Vector.replicate 4 (0 : UInt8)))) hE goes_none (by decide) rfl rfl ty55 rfl ty44 filla_nil ?_; intro a hE
          refine s_assign hE goes_none (by decide) rfl ?_; intro a hE
          have hM := hM.pull (pre := [_])
          refine s_store (seg := Flat.enc (Vector.replicate 4 (Vector.replicate 4 (0 : UInt8)))) (cs' := Flat.enc (Vector.replicate 4 (Vector.replicate 4 (0 : UInt8)))) hE hM goes_none rfl rfl rfl ty55 (Flat.len _) (Nat.le_of_eq ((Nat.zero_add _).trans (Eq.trans (Flat.len _) (Eq.symm (Flat.len _))))) (Flat.cell _) (splice_all (Eq.trans (Flat.len _) (Eq.symm (Flat.len _)))) ?_; intro w a hM hE
          refine c_fin ?_
          have ht40 := hx15 _ (Option.some.inj hF20).symm
          subst ht40
          have hr := Option.some.inj hF11
          subst hr
          have hq41 : ResIs Try.prog _ _ (.cell 5 55) _ := res_cell hE rfl ty55 rfl (hM.rawAt (pre := [])) (Flat.len _) rfl
          have hM := M.fst (l := []) hM
          exact wp_ret (r_then (r_inb (r_then (r_then (r_inb (r_then (r_then (k_ret2 hE rfl (res_tmp hE rfl) hq41 ⟨_, rfl, rfl, hM.kept⟩))))))))
        · intro hb39
          have hF20 := ite_f hF20 hb39
          refine wp_skip ?_
          refine c_nx ?_
          refine wp_seq ?_
          obtain ⟨x44, e45, hF20⟩ := bind_some hF20
          have hi43 := vidx_some e45
          obtain ⟨x47, e48, hF20⟩ := bind_some hF20
          have hi46 := vidx_some e48
          refine c_draw3 (n := 159) (hd := [_, _, _, _, _, _, _, _, _]) (tl := [_]) hmix rfl rfl [38, 39, 40, 41, 42, 43, 10, 11, 167] (by decide) (fun D u w => M (Old w0) w0 w ([raw b7 (Flat.enc s13.2.1), raw b3 (Flat.enc (Vector.replicate 4 (Vector.replicate 4 (0 : UInt8)))), raw b1 (Flat.enc s13.1)] ++ qL ([mkC 6 8 (Flat.enc (Vector.replicate 4 (0 : UInt8))) (Flat.enc x44), mkO 7 (fun v => rawP v (Flat.enc (Vector.replicate 4 (0 : UInt8))))] : Mk) D u) ∧ GOk ([([], fun us v => v = (vI j18)), ([], fun us v => v = (ptr b1 (0 + (j18).toNat * 4))), ([], fun us v => v = (Value.agg (Flat.enc x44).toArray)), ([], fun us v => v = (vI j18)), ([], fun us v => v = (ptr b7 (0 + (j18).toNat * 4))), ([], fun us v => v = (Value.agg (Flat.enc x47).toArray)), ([], fun us v => True), ([], fun us v => True), ([], fun us v => True)] : Gs) D u) hE (fun u => ⟨M.qE (M.qE (M.q0 hM.drew u) emO) emC, gok0⟩) (steps_of (steps_cons ?_ (steps_cons ?_ (steps_cons ?_ (steps_cons ?_ (steps_cons ?_ (steps_cons ?_ (steps_cons ?_ (steps_cons ?_ (steps_cons ?_ steps_nil)))))))))) ?_
          · intro a w ux42 D hE hI hD hdc hp
            have hM0 := hI.1
            have hM : M (Old w0) w0 w [raw b7 (Flat.enc s13.2.1), raw b3 (Flat.enc (Vector.replicate 4 (Vector.replicate 4 (0 : UInt8)))), raw b1 (Flat.enc s13.1), cellI (D 6) (D 8) (ux42 6) (Flat.enc (Vector.replicate 4 (0 : UInt8))) (Flat.enc x44), opt (D 7) (rawP (ux42 7) (Flat.enc (Vector.replicate 4 (0 : UInt8))))] := hI.1
            refine s_move hE goes_none (by decide) rfl ?_; intro a hE
            exact ⟨_, _, rfl, hE, M.qKeep hM0 rfl, hI.2.put hD rfl allN rfl⟩
          · intro a w ux42 D hE hI hD hdc hp
            have d0 : D 0 = true := hp 0 _ rfl rfl
            have g0 := hI.2 0 d0 _ rfl
            have f0 : ux42 0 = (vI j18) := g0.2
            have hM0 := hI.1
            have hM : M (Old w0) w0 w [raw b7 (Flat.enc s13.2.1), raw b3 (Flat.enc (Vector.replicate 4 (Vector.replicate 4 (0 : UInt8)))), raw b1 (Flat.enc s13.1), cellI (D 6) (D 8) (ux42 6) (Flat.enc (Vector.replicate 4 (0 : UInt8))) (Flat.enc x44), opt (D 7) (rawP (ux42 7) (Flat.enc (Vector.replicate 4 (0 : UInt8))))] := hI.1
            refine s_indexA hE goes_none (by decide) rfl (lk rfl f0) Try.underlying55 ty44 hi43.1 ?_; intro a hE
            exact ⟨_, _, rfl, hE, M.qKeep hM0 rfl, hI.2.put hD rfl allN rfl⟩
          · intro a w ux42 D hE hI hD hdc hp
            have d1 : D 1 = true := hp 0 _ rfl rfl
            have g1 := hI.2 1 d1 _ rfl
            have f1 : ux42 1 = (ptr b1 (0 + (j18).toNat * 4)) := g1.2
            have hM0 := hI.1
            have hM : M (Old w0) w0 w [raw b7 (Flat.enc s13.2.1), raw b3 (Flat.enc (Vector.replicate 4 (Vector.replicate 4 (0 : UInt8)))), raw b1 (Flat.enc s13.1), cellI (D 6) (D 8) (ux42 6) (Flat.enc (Vector.replicate 4 (0 : UInt8))) (Flat.enc x44), opt (D 7) (rawP (ux42 7) (Flat.enc (Vector.replicate 4 (0 : UInt8))))] := hI.1
            refine s_loadA (cs := Flat.enc x44) hE goes_none (by decide) (lk rfl f1) ty44 rfl (At.vec (hM.rawAt (pre := [_, _])) hi43.2) (Flat.len _) ?_; intro a hE
            exact ⟨_, _, rfl, hE, M.qKeep hM0 rfl, hI.2.put hD rfl allN rfl⟩
          · intro a w ux42 D hE hI hD hdc hp
            have hM0 := hI.1
            have hM : M (Old w0) w0 w [raw b7 (Flat.enc s13.2.1), raw b3 (Flat.enc (Vector.replicate 4 (Vector.replicate 4 (0 : UInt8)))), raw b1 (Flat.enc s13.1), cellI (D 6) (D 8) (ux42 6) (Flat.enc (Vector.replicate 4 (0 : UInt8))) (Flat.enc x44), opt (D 7) (rawP (ux42 7) (Flat.enc (Vector.replicate 4 (0 : UInt8))))] := hI.1
            refine s_move hE goes_none (by decide) rfl ?_; intro a hE
            exact ⟨_, _, rfl, hE, M.qKeep hM0 rfl, hI.2.put hD rfl allN rfl⟩
          · intro a w ux42 D hE hI hD hdc hp
            have d3 : D 3 = true := hp 0 _ rfl rfl
            have g3 := hI.2 3 d3 _ rfl
            have f3 : ux42 3 = (vI j18) := g3.2
            have hM0 := hI.1
            have hM : M (Old w0) w0 w [raw b7 (Flat.enc s13.2.1), raw b3 (Flat.enc (Vector.replicate 4 (Vector.replicate 4 (0 : UInt8)))), raw b1 (Flat.enc s13.1), cellI (D 6) (D 8) (ux42 6) (Flat.enc (Vector.replicate 4 (0 : UInt8))) (Flat.enc x44), opt (D 7) (rawP (ux42 7) (Flat.enc (Vector.replicate 4 (0 : UInt8))))] := hI.1
            refine s_indexA hE goes_none (by decide) rfl (lk rfl f3) Try.underlying55 ty44 hi46.1 ?_; intro a hE
            exact ⟨_, _, rfl, hE, M.qKeep hM0 rfl, hI.2.put hD rfl allN rfl⟩
          · intro a w ux42 D hE hI hD hdc hp
            have d4 : D 4 = true := hp 0 _ rfl rfl
            have g4 := hI.2 4 d4 _ rfl
            have f4 : ux42 4 = (ptr b7 (0 + (j18).toNat * 4)) := g4.2
            have hM0 := hI.1
            have hM : M (Old w0) w0 w [raw b7 (Flat.enc s13.2.1), raw b3 (Flat.enc (Vector.replicate 4 (Vector.replicate 4 (0 : UInt8)))), raw b1 (Flat.enc s13.1), cellI (D 6) (D 8) (ux42 6) (Flat.enc (Vector.replicate 4 (0 : UInt8))) (Flat.enc x44), opt (D 7) (rawP (ux42 7) (Flat.enc (Vector.replicate 4 (0 : UInt8))))] := hI.1
            refine s_loadA (cs := Flat.enc x47) hE goes_none (by decide) (lk rfl f4) ty44 rfl (At.vec (hM.rawAt (pre := [])) hi46.2) (Flat.len _) ?_; intro a hE
            exact ⟨_, _, rfl, hE, M.qKeep hM0 rfl, hI.2.put hD rfl allN rfl⟩
          · intro a w ux42 D hE hI hD hdc hp
            have hM0 := hI.1
            have hM : M (Old w0) w0 w [raw b7 (Flat.enc s13.2.1), raw b3 (Flat.enc (Vector.replicate 4 (Vector.replicate 4 (0 : UInt8)))), raw b1 (Flat.enc s13.1), cellI (D 6) (D 8) (ux42 6) (Flat.enc (Vector.replicate 4 (0 : UInt8))) (Flat.enc x44), opt (D 7) (rawP (ux42 7) (Flat.enc (Vector.replicate 4 (0 : UInt8))))] := hI.1
            refine s_alloc hE hM goes_none (by decide) ty44 ?_; intro b49 w a hM hE
            have hs : D 8 = false := Bool.eq_false_iff.2 fun hx => Bool.noConfusion (hD.symm.trans (hdc 8 _ _ rfl (List.mem_of_getElem? (i := 0) rfl) rfl hx))
            exact ⟨_, _, rfl, hE, M.qAlloc (mk1 := []) (mk2 := [_]) hM rfl hD hs (by decide), hI.2.put hD rfl allN trivial⟩
          · intro a w ux42 D hE hI hD hdc hp
            have hM0 := hI.1
            have hM : M (Old w0) w0 w [raw b7 (Flat.enc s13.2.1), raw b3 (Flat.enc (Vector.replicate 4 (Vector.replicate 4 (0 : UInt8)))), raw b1 (Flat.enc s13.1), cellI (D 6) (D 8) (ux42 6) (Flat.enc (Vector.replicate 4 (0 : UInt8))) (Flat.enc x44), opt (D 7) (rawP (ux42 7) (Flat.enc (Vector.replicate 4 (0 : UInt8))))] := hI.1
            refine s_alloc hE hM goes_none (by decide) ty44 ?_; intro b51 w a hM hE
            have hM := hM.pack1 (it := rawP _ (Flat.enc (Vector.replicate 4 (0 : UInt8)))) (fun w w' fp ⟨b', e, k⟩ hb => ⟨b', e, raw_loc w w' fp k hb⟩) (fun fp k => ⟨_, rfl, k⟩)
            exact ⟨_, _, rfl, hE, M.qFill (mk1 := [_]) (mk2 := []) (f := fun v => rawP v (Flat.enc (Vector.replicate 4 (0 : UInt8)))) hM rfl hD, hI.2.put hD rfl allN trivial⟩
          · intro a w ux42 D hE hI hD hdc hp
            have d6 : D 6 = true := hp 0 _ rfl rfl
            have d2 : D 2 = true := hp 1 _ rfl rfl
            have g2 := hI.2 2 d2 _ rfl
            have f2 : ux42 2 = (Value.agg (Flat.enc x44).toArray) := g2.2
            have hM0 := hI.1
            have hM : M (Old w0) w0 w [raw b7 (Flat.enc s13.2.1), raw b3 (Flat.enc (Vector.replicate 4 (Vector.replicate 4 (0 : UInt8)))), raw b1 (Flat.enc s13.1), cellI (D 6) (D 8) (ux42 6) (Flat.enc (Vector.replicate 4 (0 : UInt8))) (Flat.enc x44), opt (D 7) (rawP (ux42 7) (Flat.enc (Vector.replicate 4 (0 : UInt8))))] := hI.1
            obtain ⟨b53, hb54, hM⟩ := M.openCell (pre := [_, _, _]) hM d6
            rw [hD, if_neg (by decide)] at hM
            refine s_store (seg := Flat.enc x44) (cs' := Flat.enc x44) hE hM goes_none (lk rfl hb54) (lk rfl f2) rfl ty44 (Flat.len _) (Nat.le_of_eq ((Nat.zero_add _).trans (Eq.trans (Flat.len _) (Eq.symm (Flat.len _))))) (Flat.cell _) (splice_all (Eq.trans (Flat.len _) (Eq.symm (Flat.len _)))) ?_; intro w a hM hE
            exact ⟨undef, _, rfl, Env.dummy hE (by decide), M.qStore (i := 6) (mk1 := []) (mk2 := [_]) hM rfl d6 hb54 (by decide), hI.2.put hD rfl allN trivial⟩
          · intro a w ux42 D hE hI hall
            have hM : M (Old w0) w0 w [raw b7 (Flat.enc s13.2.1), raw b3 (Flat.enc (Vector.replicate 4 (Vector.replicate 4 (0 : UInt8)))), raw b1 (Flat.enc s13.1), cellI (D 6) (D 8) (ux42 6) (Flat.enc (Vector.replicate 4 (0 : UInt8))) (Flat.enc x44), opt (D 7) (rawP (ux42 7) (Flat.enc (Vector.replicate 4 (0 : UInt8))))] := hI.1
            have d0 : D 0 = true := hall 0 (by decide)
            have d1 : D 1 = true := hall 1 (by decide)
            have d2 : D 2 = true := hall 2 (by decide)
            have d3 : D 3 = true := hall 3 (by decide)
            have d4 : D 4 = true := hall 4 (by decide)
            have d5 : D 5 = true := hall 5 (by decide)
            have d6 : D 6 = true := hall 6 (by decide)
            have d7 : D 7 = true := hall 7 (by decide)
            have d8 : D 8 = true := hall 8 (by decide)
            have f0 : ux42 0 = (vI j18) := (hI.2 0 d0 _ rfl).2
            have f1 : ux42 1 = (ptr b1 (0 + (j18).toNat * 4)) := (hI.2 1 d1 _ rfl).2
            have f2 : ux42 2 = (Value.agg (Flat.enc x44).toArray) := (hI.2 2 d2 _ rfl).2
            have f3 : ux42 3 = (vI j18) := (hI.2 3 d3 _ rfl).2
            have f4 : ux42 4 = (ptr b7 (0 + (j18).toNat * 4)) := (hI.2 4 d4 _ rfl).2
            have f5 : ux42 5 = (Value.agg (Flat.enc x47).toArray) := (hI.2 5 d5 _ rfl).2
            obtain ⟨b55, f56, hM⟩ := M.openCell (pre := [_, _, _]) hM d6
            rw [if_pos d8] at hM
            have hM := (hM.sure (pre := [_, _, _, _]) d7).pull
            obtain ⟨_, ⟨b57, f58, _⟩, _⟩ := hM.head
            have hM := hM.pack1 raw_loc (it := raw b57 (Flat.enc (Vector.replicate 4 (0 : UInt8)))) (fun fp ⟨b2, e2, k2⟩ => by rw [f58] at e2; simp [ptr] at e2; subst e2; exact k2)
            have hE := hE.sub (e' := [(38, (vI j18)), (39, (ptr b1 (0 + (j18).toNat * 4))), (40, (Value.agg (Flat.enc x44).toArray)), (41, (vI j18)), (42, (ptr b7 (0 + (j18).toNat * 4))), (43, (Value.agg (Flat.enc x47).toArray)), (10, (ptr b55 0)), (11, (ptr b57 0)), (0, (vI p0)), (3, (ptr b1 0)), (5, (ptr b3 0)), (6, (ptr b7 0)), (7, (vB s13.2.2.1)), (8, (vI s13.2.2.2)), (9, (vI j18)), (35, (vI j18)), (36, (vT (j18 == 4)))]) ⟨lk rfl f0, lk rfl f1, lk rfl f2, lk rfl f3, lk rfl f4, lk rfl f5, lk rfl f56, lk rfl f58, rfl, rfl, rfl, rfl, rfl, rfl, rfl, rfl, rfl, trivial⟩
            refine s_store (seg := Flat.enc x47) (cs' := Flat.enc x47) hE hM goes_none rfl rfl rfl ty44 (Flat.len _) (Nat.le_of_eq ((Nat.zero_add _).trans (Eq.trans (Flat.len _) (Eq.symm (Flat.len _))))) (Flat.cell _) (splice_all (Eq.trans (Flat.len _) (Eq.symm (Flat.len _)))) ?_; intro w a hM hE
            refine c_fin0 ?_
            refine c_nx ?_
            refine c_region ?_
            refine s_move hE goes_none (by decide) rfl ?_; intro a hE
            refine s_move hE goes_none (by decide) rfl ?_; intro a hE
            obtain ⟨x60, e61, hF20⟩ := bind_some hF20
            have hi59 := vidx_some e61
            refine s_indexA hE goes_none (by decide) rfl rfl Try.underlying55 ty44 hi59.1 ?_; intro a hE
            refine s_loadA (cs := Flat.enc x60) hE goes_none (by decide) rfl ty44 rfl (At.vec (hM.rawAt (pre := [_, _, _, _])) hi59.2) (Flat.len _) ?_; intro a hE
            obtain ⟨x63, e64, hF20⟩ := bind_some hF20
            have hi62 := vidx_some e64
            refine s_indexA hE goes_none (by decide) rfl rfl Try.underlying55 ty44 hi62.1 ?_; intro a hE
            have hM := hM.pull (pre := [_, _, _, _])
            refine s_store (seg := Flat.enc x60) (cs' := Flat.enc (s13.1.setIfInBounds (j18).toNat x60)) hE hM goes_none rfl rfl rfl ty44 (Flat.len _) (fit_vec (v := s13.1) (x := x60) hi62.1) (Flat.cell _) (splice_vec0 (v := s13.1) (x := x60) hi62.1) ?_; intro w a hM hE
            refine c_fin ?_
            refine c_region ?_
            refine s_move hE goes_none (by decide) rfl ?_; intro a hE
            refine s_loadA (cs := Flat.enc x44) hE goes_none (by decide) rfl ty44 rfl (hM.rawAt (pre := [_, _])) (Flat.len _) ?_; intro a hE
            obtain ⟨x66, e67, hF20⟩ := bind_some hF20
            have hi65 := vidx_some e67
            refine s_indexA hE goes_none (by decide) rfl rfl Try.underlying55 ty44 hi65.1 ?_; intro a hE
            refine s_store (seg := Flat.enc x44) (cs' := Flat.enc ((s13.1.setIfInBounds (j18).toNat x60).setIfInBounds (s13.2.2.2).toNat x44)) hE hM goes_none rfl rfl rfl ty44 (Flat.len _) (fit_vec (v := (s13.1.setIfInBounds (j18).toNat x60)) (x := x44) hi65.1) (Flat.cell _) (splice_vec0 (v := (s13.1.setIfInBounds (j18).toNat x60)) (x := x44) hi65.1) ?_; intro w a hM hE
            refine c_fin ?_
            refine c_region ?_
            refine s_move hE goes_none (by decide) rfl ?_; intro a hE
            refine s_move hE goes_none (by decide) rfl ?_; intro a hE
            obtain ⟨x69, e70, hF20⟩ := bind_some hF20
            have hi68 := vidx_some e70
            refine s_indexA hE goes_none (by decide) rfl rfl Try.underlying55 ty44 hi68.1 ?_; intro a hE
            refine s_loadA (cs := Flat.enc x69) hE goes_none (by decide) rfl ty44 rfl (At.vec (hM.rawAt (pre := [_, _, _])) hi68.2) (Flat.len _) ?_; intro a hE
            obtain ⟨x72, e73, hF20⟩ := bind_some hF20
            have hi71 := vidx_some e73
            refine s_indexA hE goes_none (by decide) rfl rfl Try.underlying55 ty44 hi71.1 ?_; intro a hE
            have hM := hM.pull (pre := [_, _, _])
            refine s_store (seg := Flat.enc x69) (cs' := Flat.enc (s13.2.1.setIfInBounds (j18).toNat x69)) hE hM goes_none rfl rfl rfl ty44 (Flat.len _) (fit_vec (v := s13.2.1) (x := x69) hi71.1) (Flat.cell _) (splice_vec0 (v := s13.2.1) (x := x69) hi71.1) ?_; intro w a hM hE
            refine c_fin ?_
            refine c_region ?_
            refine s_move hE goes_none (by decide) rfl ?_; intro a hE
            refine s_loadA (cs := Flat.enc x47) hE goes_none (by decide) rfl ty44 rfl (hM.rawAt (pre := [_, _])) (Flat.len _) ?_; intro a hE
            obtain ⟨x75, e76, hF20⟩ := bind_some hF20
            have hi74 := vidx_some e76
            refine s_indexA hE goes_none (by decide) rfl rfl Try.underlying55 ty44 hi74.1 ?_; intro a hE
            refine s_store (seg := Flat.enc x47) (cs' := Flat.enc ((s13.2.1.setIfInBounds (j18).toNat x69).setIfInBounds (s13.2.2.2).toNat x47)) hE hM goes_none rfl rfl rfl ty44 (Flat.len _) (fit_vec (v := (s13.2.1.setIfInBounds (j18).toNat x69)) (x := x47) hi74.1) (Flat.cell _) (splice_vec0 (v := (s13.2.1.setIfInBounds (j18).toNat x69)) (x := x47) hi74.1) ?_; intro w a hM hE
            refine c_fin ?_
            refine c_region ?_
            refine s_move hE goes_none (by decide) rfl ?_; intro a hE
            refine s_move hE goes_none (by decide) rfl ?_; intro a hE
            refine s_move hE goes_none (by decide) rfl ?_; intro a hE
            refine s_move hE goes_none (by decide) rfl ?_; intro a hE
            obtain ⟨x78, e79, hF20⟩ := bind_some hF20
            have hi77 := vidx_some e79
            refine s_indexA hE goes_none (by decide) rfl rfl Try.underlying55 ty44 hi77.1 ?_; intro a hE
            obtain ⟨x81, e82, hF20⟩ := bind_some hF20
            have hi80 := vidx_some e82
            refine s_indexA hE goes_none (by decide) rfl rfl Try.underlying44 ty5 hi80.1 ?_; intro a hE
            refine s_load (v := (vB x81)) hE goes_none (by decide) rfl ty5 rfl (At.vec (At.vec (hM.rawAt (pre := [_])) hi77.2) hi80.2) ?_; intro a hE
            obtain ⟨r83, e84, hF20⟩ := bind_some hF20
            refine s_call (vs := [(vI p0), (vB s13.2.2.1), (vB x81)]) hE goes_none (by decide) rfl cb183 (c_spec_l01Times _ p0 s13.2.2.1 x81 r83 e84) ?_
            rintro v w a ⟨rfl, hK⟩ hE
            have hM := hM.keep hK
            refine s_assign hE goes_none (by decide) rfl ?_; intro a hE
            refine c_fin ?_
            refine c_region ?_
            refine s_move hE goes_none (by decide) rfl ?_; intro a hE
            refine s_move hE goes_none (by decide) rfl ?_; intro a hE
            refine s_move hE goes_none (by decide) rfl ?_; intro a hE
            obtain ⟨x86, e87, hF20⟩ := bind_some hF20
            have hi85 := vidx_some e87
            refine s_indexA hE goes_none (by decide) rfl rfl Try.underlying55 ty44 hi85.1 ?_; intro a hE
            obtain ⟨x89, e90, hF20⟩ := bind_some hF20
            have hi88 := vidx_some e90
            refine s_indexA hE goes_none (by decide) rfl rfl Try.underlying44 ty5 hi88.1 ?_; intro a hE
            refine s_load (v := (vB x89)) hE goes_none (by decide) rfl ty5 rfl (At.vec (At.vec (hM.rawAt (pre := [_])) hi85.2) hi88.2) ?_; intro a hE
            obtain ⟨r91, e92, hF20⟩ := bind_some hF20
            refine s_call (vs := [(vI p0), (vB x89)]) hE goes_none (by decide) rfl cb184 (c_spec_l01Inv _ p0 x89 r91 e92) ?_
            rintro v w a ⟨rfl, hK⟩ hE
            have hM := hM.keep hK
            refine s_assign hE goes_none (by decide) rfl ?_; intro a hE
            refine c_fin ?_
            refine wp_seq ?_
            refine c_region ?_
            refine s_assign hE goes_none (by decide) rfl ?_; intro a hE
            refine c_fin ?_
            obtain ⟨j93, hl94, hF95⟩ := bind_some hF20
            refine c_cut (fun a w => Env 159 a [(0, (vI p0)), (3, (ptr b1 0)), (5, (ptr b3 0)), (6, (ptr b7 0)), (7, (vB r83)), (8, (vI s13.2.2.2))] ∧ M (Old w0) w0 w [raw b7 (Flat.enc j93.2), raw b1 (Flat.enc j93.1), raw b3 (Flat.enc (Vector.replicate 4 (Vector.replicate 4 (0 : UInt8))))]) ?_ ?_
            · skip
              refine wp_block ?_
              have hM := hM.pull (pre := [_, _, _, _])
              have hM := hM.pull (pre := [_, _])
              have hM := hM.pull (pre := [_, _])
              have hM := M.fst (l := [_, _, _]) hM
              refine c_loop (fun (s96 : (Vector (Vector UInt8 4) 4) × (Vector (Vector UInt8 4) 4) × Int) a w => Env 159 a [(0, (vI p0)), (3, (ptr b1 0)), (5, (ptr b3 0)), (6, (ptr b7 0)), (7, (vB r83)), (8, (vI s13.2.2.2)), (12, (vB r91)), (13, (vI s96.2.2))] ∧ M (Old w0) w0 w [raw b7 (Flat.enc s96.2.1), raw b1 (Flat.enc s96.1), raw b3 (Flat.enc (Vector.replicate 4 (Vector.replicate 4 (0 : UInt8))))]) hl94 ⟨hE.sub ⟨rfl, rfl, rfl, rfl, rfl, rfl, rfl, rfl, trivial⟩, hM⟩ ?_
              rintro s96 a w ⟨hE, hM⟩ o99 hs97 hx98
              unfold L2_spec_l03Reduce at hs97
              refine wp_seq ?_
              refine c_region ?_
              refine s_move hE goes_none (by decide) rfl ?_; intro a hE
              refine s_int hE goes_none (by decide) rfl rfl rfl ?_; intro a hE
              refine c_fin ?_
              refine c_cond hE rfl ?_ ?_
              · intro hb100
                have hs97 := ite_t hs97 hb100
                refine wp_skip ?_
                refine c_nx ?_
                refine wp_seq ?_
                refine wp_block ?_
                obtain ⟨j101, hl102, hF103⟩ := bind_some hs97
                refine c_join (fun a w => Env 159 a [(0, (vI p0)), (3, (ptr b1 0)), (5, (ptr b3 0)), (6, (ptr b7 0)), (7, (vB r83)), (8, (vI s13.2.2.2)), (12, (vB r91)), (13, (vI s96.2.2))] ∧ M (Old w0) w0 w [raw b7 (Flat.enc s96.2.1), raw b1 (Flat.enc j101), raw b3 (Flat.enc (Vector.replicate 4 (Vector.replicate 4 (0 : UInt8))))]) ?_ ?_
                · skip
                  obtain ⟨x106, e107, hl102⟩ := bind_some hl102
                  have hi105 := vidx_some e107
                  obtain ⟨x109, e110, hl102⟩ := bind_some hl102
                  have hi108 := vidx_some e110
                  obtain ⟨r111, e112, hl102⟩ := bind_some hl102
                  obtain ⟨x114, e115, hl102⟩ := bind_some hl102
                  have hi113 := vidx_some e115
                  obtain ⟨x117, e118, hl102⟩ := bind_some hl102
                  have hi116 := vidx_some e118
                  refine c_draw (n := 159) (hd := [_, _, _, _, _, _, _, _, _, _, _, _]) (tl := [_]) hmix rfl rfl [79, 80, 81, 82, 83, 84, 85, 86, 87, 88, 89, 90] (by decide) (fun w => M (Old w0) w0 w [raw b7 (Flat.enc s96.2.1), raw b1 (Flat.enc s96.1), raw b3 (Flat.enc (Vector.replicate 4 (Vector.replicate 4 (0 : UInt8))))]) (fun j => ([fun v _ => v = (vI s13.2.2.2), fun v _ => v = (vI s96.2.2), fun v _ => v = (vI p0), fun v _ => v = (vI s13.2.2.2), fun v _ => v = (vI s96.2.2), fun v _ => v = (ptr b1 (0 + (s13.2.2.2).toNat * 4)), fun v _ => v = (ptr b1 (0 + (s13.2.2.2).toNat * 4 + (s96.2.2).toNat * 1)), fun v _ => v = (vB x109), fun v _ => v = (vB r91), fun v _ => v = (vB r111), fun v _ => v = (ptr b1 (0 + (s13.2.2.2).toNat * 4)), fun v _ => v = (ptr b1 (0 + (s13.2.2.2).toNat * 4 + (s96.2.2).toNat * 1))] : List (Value → World → Prop)).getD j (fun _ _ => True)) (fun _ _ h hk => h.keep hk) (gup (gupE (gupE (gupE (gupE (gupE (gupE (gupE (gupE (gupE (gupE (gupE (gupE gupN))))))))))))) hE hM.drew (steps_of (steps_cons ?_ (steps_cons ?_ (steps_cons ?_ (steps_cons ?_ (steps_cons ?_ (steps_cons ?_ (steps_cons ?_ (steps_cons ?_ (steps_cons ?_ (steps_cons ?_ (steps_cons ?_ (steps_cons ?_ steps_nil))))))))))))) ?_
                  · intro a w ux104 hE hM hp
                    refine s_move hE goes_none (by decide) rfl ?_; intro a hE
                    exact ⟨Kept.refl _ _, _, _, rfl, hE, rfl⟩
                  · intro a w ux104 hE hM hp
                    refine s_move hE goes_none (by decide) rfl ?_; intro a hE
                    exact ⟨Kept.refl _ _, _, _, rfl, hE, rfl⟩
                  · intro a w ux104 hE hM hp
                    refine s_move hE goes_none (by decide) rfl ?_; intro a hE
                    exact ⟨Kept.refl _ _, _, _, rfl, hE, rfl⟩
                  · intro a w ux104 hE hM hp
                    refine s_move hE goes_none (by decide) rfl ?_; intro a hE
                    exact ⟨Kept.refl _ _, _, _, rfl, hE, rfl⟩
                  · intro a w ux104 hE hM hp
                    refine s_move hE goes_none (by decide) rfl ?_; intro a hE
                    exact ⟨Kept.refl _ _, _, _, rfl, hE, rfl⟩
                  · intro a w ux104 hE hM hp
                    have f3 : ux104 3 = (vI s13.2.2.2) := hp 0 _ rfl rfl
                    refine s_indexA hE goes_none (by decide) rfl (lk rfl f3) Try.underlying55 ty44 hi105.1 ?_; intro a hE
                    exact ⟨Kept.refl _ _, _, _, rfl, hE, rfl⟩
                  · intro a w ux104 hE hM hp
                    have f4 : ux104 4 = (vI s96.2.2) := hp 1 _ rfl rfl
                    have f5 : ux104 5 = (ptr b1 (0 + (s13.2.2.2).toNat * 4)) := hp 0 _ rfl rfl
                    refine s_indexA hE goes_none (by decide) (lk rfl f5) (lk rfl f4) Try.underlying44 ty5 hi108.1 ?_; intro a hE
                    exact ⟨Kept.refl _ _, _, _, rfl, hE, rfl⟩
                  · intro a w ux104 hE hM hp
                    have f6 : ux104 6 = (ptr b1 (0 + (s13.2.2.2).toNat * 4 + (s96.2.2).toNat * 1)) := hp 0 _ rfl rfl
                    refine s_load (v := (vB x109)) hE goes_none (by decide) (lk rfl f6) ty5 rfl (At.vec (At.vec (hM.rawAt (pre := [_])) hi105.2) hi108.2) ?_; intro a hE
                    exact ⟨Kept.refl _ _, _, _, rfl, hE, rfl⟩
                  · intro a w ux104 hE hM hp
                    refine s_move hE goes_none (by decide) rfl ?_; intro a hE
                    exact ⟨Kept.refl _ _, _, _, rfl, hE, rfl⟩
                  · intro a w ux104 hE hM hp
                    have f2 : ux104 2 = (vI p0) := hp 0 _ rfl rfl
                    have f7 : ux104 7 = (vB x109) := hp 1 _ rfl rfl
                    have f8 : ux104 8 = (vB r91) := hp 2 _ rfl rfl
                    refine s_call (vs := [(vI p0), (vB x109), (vB r91)]) hE goes_none (by decide) (evs_of (evsC (lk rfl f2) (evsC (lk rfl f7) (evsC (lk rfl f8) evsN)))) cb183 (c_spec_l01Times _ p0 x109 r91 r111 e112) ?_
                    rintro v w a ⟨rfl, hK⟩ hE
                    exact ⟨hK, _, _, rfl, hE, rfl⟩
                  · intro a w ux104 hE hM hp
                    have f0 : ux104 0 = (vI s13.2.2.2) := hp 0 _ rfl rfl
                    refine s_indexA hE goes_none (by decide) rfl (lk rfl f0) Try.underlying55 ty44 hi113.1 ?_; intro a hE
                    exact ⟨Kept.refl _ _, _, _, rfl, hE, rfl⟩
                  · intro a w ux104 hE hM hp
                    have f1 : ux104 1 = (vI s96.2.2) := hp 1 _ rfl rfl
                    have f10 : ux104 10 = (ptr b1 (0 + (s13.2.2.2).toNat * 4)) := hp 0 _ rfl rfl
                    refine s_indexA hE goes_none (by decide) (lk rfl f10) (lk rfl f1) Try.underlying44 ty5 hi116.1 ?_; intro a hE
                    exact ⟨Kept.refl _ _, _, _, rfl, hE, rfl⟩
                  · intro a w ux104 hE hM hg
                    have f0 : ux104 0 = (vI s13.2.2.2) := hg 0 (by decide)
                    have f1 : ux104 1 = (vI s96.2.2) := hg 1 (by decide)
                    have f2 : ux104 2 = (vI p0) := hg 2 (by decide)
                    have f3 : ux104 3 = (vI s13.2.2.2) := hg 3 (by decide)
                    have f4 : ux104 4 = (vI s96.2.2) := hg 4 (by decide)
                    have f5 : ux104 5 = (ptr b1 (0 + (s13.2.2.2).toNat * 4)) := hg 5 (by decide)
                    have f6 : ux104 6 = (ptr b1 (0 + (s13.2.2.2).toNat * 4 + (s96.2.2).toNat * 1)) := hg 6 (by decide)
                    have f7 : ux104 7 = (vB x109) := hg 7 (by decide)
                    have f8 : ux104 8 = (vB r91) := hg 8 (by decide)
                    have f9 : ux104 9 = (vB r111) := hg 9 (by decide)
                    have f10 : ux104 10 = (ptr b1 (0 + (s13.2.2.2).toNat * 4)) := hg 10 (by decide)
                    have f11 : ux104 11 = (ptr b1 (0 + (s13.2.2.2).toNat * 4 + (s96.2.2).toNat * 1)) := hg 11 (by decide)
                    have hE := hE.sub (e' := [(79, (vI s13.2.2.2)), (80, (vI s96.2.2)), (81, (vI p0)), (82, (vI s13.2.2.2)), (83, (vI s96.2.2)), (84, (ptr b1 (0 + (s13.2.2.2).toNat * 4))), (85, (ptr b1 (0 + (s13.2.2.2).toNat * 4 + (s96.2.2).toNat * 1))), (86, (vB x109)), (87, (vB r91)), (88, (vB r111)), (89, (ptr b1 (0 + (s13.2.2.2).toNat * 4))), (90, (ptr b1 (0 + (s13.2.2.2).toNat * 4 + (s96.2.2).toNat * 1))), (0, (vI p0)), (3, (ptr b1 0)), (5, (ptr b3 0)), (6, (ptr b7 0)), (7, (vB r83)), (8, (vI s13.2.2.2)), (12, (vB r91)), (13, (vI s96.2.2)), (75, (vI s96.2.2)), (76, (vT (decide (s96.2.2 < 4))))]) ⟨lk rfl f0, lk rfl f1, lk rfl f2, lk rfl f3, lk rfl f4, lk rfl f5, lk rfl f6, lk rfl f7, lk rfl f8, lk rfl f9, lk rfl f10, lk rfl f11, rfl, rfl, rfl, rfl, rfl, rfl, rfl, rfl, rfl, rfl, trivial⟩
                    have hM := hM.pull (pre := [_])
                    refine s_store (seg := [(vB r111)]) (cs' := Flat.enc (s96.1.setIfInBounds (s13.2.2.2).toNat (x114.setIfInBounds (s96.2.2).toNat r111))) hE hM goes_none rfl rfl rfl ty5 rfl (fit_vecI (o' := 0 + (s96.2.2).toNat * 1) hi113 (fit_vec (v := x114) (x := r111) hi116.1) (by first | omega | (simp only [Flat.n] <;> omega))) (Flat.cell (r111 : UInt8)) (splice_vecI (o' := 0 + (s96.2.2).toNat * 1) hi113 (fit_vec (v := x114) (x := r111) hi116.1) (splice_vec0 (v := x114) (x := r111) hi116.1) (by first | omega | (simp only [Flat.n] <;> omega))) ?_; intro w a hM hE
                    refine c_fin0 ?_
                    have ht119 := Option.some.inj hl102
                    subst ht119
                    refine c_mid ?_
                    have hM := hM.pull (pre := [_, _])
                    have hM := hM.pull (pre := [_])
                    have hM := hM.pull (pre := [_, _])
                    exact ⟨hE.sub ⟨rfl, rfl, rfl, rfl, rfl, rfl, rfl, rfl, trivial⟩, hM⟩
                · skip
                  rintro a w ⟨hE, hM⟩
                  obtain ⟨x122, e123, hF103⟩ := bind_some hF103
                  have hi121 := vidx_some e123
                  obtain ⟨x125, e126, hF103⟩ := bind_some hF103
                  have hi124 := vidx_some e126
                  obtain ⟨r127, e128, hF103⟩ := bind_some hF103
                  obtain ⟨x130, e131, hF103⟩ := bind_some hF103
                  have hi129 := vidx_some e131
                  obtain ⟨x133, e134, hF103⟩ := bind_some hF103
                  have hi132 := vidx_some e134
                  refine c_draw (n := 159) (hd := [_, _, _, _, _, _, _, _, _, _, _, _]) (tl := [_]) hmix rfl rfl [91, 92, 93, 94, 95, 96, 97, 98, 99, 100, 101, 102] (by decide) (fun w => M (Old w0) w0 w [raw b7 (Flat.enc s96.2.1), raw b1 (Flat.enc j101), raw b3 (Flat.enc (Vector.replicate 4 (Vector.replicate 4 (0 : UInt8))))]) (fun j => ([fun v _ => v = (vI s13.2.2.2), fun v _ => v = (vI s96.2.2), fun v _ => v = (vI p0), fun v _ => v = (vI s13.2.2.2), fun v _ => v = (vI s96.2.2), fun v _ => v = (ptr b7 (0 + (s13.2.2.2).toNat * 4)), fun v _ => v = (ptr b7 (0 + (s13.2.2.2).toNat * 4 + (s96.2.2).toNat * 1)), fun v _ => v = (vB x125), fun v _ => v = (vB r91), fun v _ => v = (vB r127), fun v _ => v = (ptr b7 (0 + (s13.2.2.2).toNat * 4)), fun v _ => v = (ptr b7 (0 + (s13.2.2.2).toNat * 4 + (s96.2.2).toNat * 1))] : List (Value → World → Prop)).getD j (fun _ _ => True)) (fun _ _ h hk => h.keep hk) (gup (gupE (gupE (gupE (gupE (gupE (gupE (gupE (gupE (gupE (gupE (gupE (gupE gupN))))))))))))) hE hM.drew (steps_of (steps_cons ?_ (steps_cons ?_ (steps_cons ?_ (steps_cons ?_ (steps_cons ?_ (steps_cons ?_ (steps_cons ?_ (steps_cons ?_ (steps_cons ?_ (steps_cons ?_ (steps_cons ?_ (steps_cons ?_ steps_nil))))))))))))) ?_
                  · intro a w ux120 hE hM hp
                    refine s_move hE goes_none (by decide) rfl ?_; intro a hE
                    exact ⟨Kept.refl _ _, _, _, rfl, hE, rfl⟩
                  · intro a w ux120 hE hM hp
                    refine s_move hE goes_none (by decide) rfl ?_; intro a hE
                    exact ⟨Kept.refl _ _, _, _, rfl, hE, rfl⟩
                  · intro a w ux120 hE hM hp
                    refine s_move hE goes_none (by decide) rfl ?_; intro a hE
                    exact ⟨Kept.refl _ _, _, _, rfl, hE, rfl⟩
                  · intro a w ux120 hE hM hp
                    refine s_move hE goes_none (by decide) rfl ?_; intro a hE
                    exact ⟨Kept.refl _ _, _, _, rfl, hE, rfl⟩
                  · intro a w ux120 hE hM hp
                    refine s_move hE goes_none (by decide) rfl ?_; intro a hE
                    exact ⟨Kept.refl _ _, _, _, rfl, hE, rfl⟩
                  · intro a w ux120 hE hM hp
                    have f3 : ux120 3 = (vI s13.2.2.2) := hp 0 _ rfl rfl
                    refine s_indexA hE goes_none (by decide) rfl (lk rfl f3) Try.underlying55 ty44 hi121.1 ?_; intro a hE
                    exact ⟨Kept.refl _ _, _, _, rfl, hE, rfl⟩
                  · intro a w ux120 hE hM hp
                    have f4 : ux120 4 = (vI s96.2.2) := hp 1 _ rfl rfl
                    have f5 : ux120 5 = (ptr b7 (0 + (s13.2.2.2).toNat * 4)) := hp 0 _ rfl rfl
                    refine s_indexA hE goes_none (by decide) (lk rfl f5) (lk rfl f4) Try.underlying44 ty5 hi124.1 ?_; intro a hE
                    exact ⟨Kept.refl _ _, _, _, rfl, hE, rfl⟩
                  · intro a w ux120 hE hM hp
                    have f6 : ux120 6 = (ptr b7 (0 + (s13.2.2.2).toNat * 4 + (s96.2.2).toNat * 1)) := hp 0 _ rfl rfl
                    refine s_load (v := (vB x125)) hE goes_none (by decide) (lk rfl f6) ty5 rfl (At.vec (At.vec (hM.rawAt (pre := [])) hi121.2) hi124.2) ?_; intro a hE
                    exact ⟨Kept.refl _ _, _, _, rfl, hE, rfl⟩
                  · intro a w ux120 hE hM hp
                    refine s_move hE goes_none (by decide) rfl ?_; intro a hE
                    exact ⟨Kept.refl _ _, _, _, rfl, hE, rfl⟩
                  · intro a w ux120 hE hM hp
                    have f2 : ux120 2 = (vI p0) := hp 0 _ rfl rfl
                    have f7 : ux120 7 = (vB x125) := hp 1 _ rfl rfl
                    have f8 : ux120 8 = (vB r91) := hp 2 _ rfl rfl
                    refine s_call (vs := [(vI p0), (vB x125), (vB r91)]) hE goes_none (by decide) (evs_of (evsC (lk rfl f2) (evsC (lk rfl f7) (evsC (lk rfl f8) evsN)))) cb183 (c_spec_l01Times _ p0 x125 r91 r127 e128) ?_
                    rintro v w a ⟨rfl, hK⟩ hE
                    exact ⟨hK, _, _, rfl, hE, rfl⟩
                  · intro a w ux120 hE hM hp
                    have f0 : ux120 0 = (vI s13.2.2.2) := hp 0 _ rfl rfl
                    refine s_indexA hE goes_none (by decide) rfl (lk rfl f0) Try.underlying55 ty44 hi129.1 ?_; intro a hE
                    exact ⟨Kept.refl _ _, _, _, rfl, hE, rfl⟩
                  · intro a w ux120 hE hM hp
                    have f1 : ux120 1 = (vI s96.2.2) := hp 1 _ rfl rfl
                    have f10 : ux120 10 = (ptr b7 (0 + (s13.2.2.2).toNat * 4)) := hp 0 _ rfl rfl
                    refine s_indexA hE goes_none (by decide) (lk rfl f10) (lk rfl f1) Try.underlying44 ty5 hi132.1 ?_; intro a hE
                    exact ⟨Kept.refl _ _, _, _, rfl, hE, rfl⟩
                  · intro a w ux120 hE hM hg
                    have f0 : ux120 0 = (vI s13.2.2.2) := hg 0 (by decide)
                    have f1 : ux120 1 = (vI s96.2.2) := hg 1 (by decide)
                    have f2 : ux120 2 = (vI p0) := hg 2 (by decide)
                    have f3 : ux120 3 = (vI s13.2.2.2) := hg 3 (by decide)
                    have f4 : ux120 4 = (vI s96.2.2) := hg 4 (by decide)
                    have f5 : ux120 5 = (ptr b7 (0 + (s13.2.2.2).toNat * 4)) := hg 5 (by decide)
                    have f6 : ux120 6 = (ptr b7 (0 + (s13.2.2.2).toNat * 4 + (s96.2.2).toNat * 1)) := hg 6 (by decide)
                    have f7 : ux120 7 = (vB x125) := hg 7 (by decide)
                    have f8 : ux120 8 = (vB r91) := hg 8 (by decide)
                    have f9 : ux120 9 = (vB r127) := hg 9 (by decide)
                    have f10 : ux120 10 = (ptr b7 (0 + (s13.2.2.2).toNat * 4)) := hg 10 (by decide)
                    have f11 : ux120 11 = (ptr b7 (0 + (s13.2.2.2).toNat * 4 + (s96.2.2).toNat * 1)) := hg 11 (by decide)
                    have hE := hE.sub (e' := [(91, (vI s13.2.2.2)), (92, (vI s96.2.2)), (93, (vI p0)), (94, (vI s13.2.2.2)), (95, (vI s96.2.2)), (96, (ptr b7 (0 + (s13.2.2.2).toNat * 4))), (97, (ptr b7 (0 + (s13.2.2.2).toNat * 4 + (s96.2.2).toNat * 1))), (98, (vB x125)), (99, (vB r91)), (100, (vB r127)), (101, (ptr b7 (0 + (s13.2.2.2).toNat * 4))), (102, (ptr b7 (0 + (s13.2.2.2).toNat * 4 + (s96.2.2).toNat * 1))), (0, (vI p0)), (3, (ptr b1 0)), (5, (ptr b3 0)), (6, (ptr b7 0)), (7, (vB r83)), (8, (vI s13.2.2.2)), (12, (vB r91)), (13, (vI s96.2.2))]) ⟨lk rfl f0, lk rfl f1, lk rfl f2, lk rfl f3, lk rfl f4, lk rfl f5, lk rfl f6, lk rfl f7, lk rfl f8, lk rfl f9, lk rfl f10, lk rfl f11, rfl, rfl, rfl, rfl, rfl, rfl, rfl, rfl, trivial⟩
                    refine s_store (seg := [(vB r127)]) (cs' := Flat.enc (s96.2.1.setIfInBounds (s13.2.2.2).toNat (x130.setIfInBounds (s96.2.2).toNat r127))) hE hM goes_none rfl rfl rfl ty5 rfl (fit_vecI (o' := 0 + (s96.2.2).toNat * 1) hi129 (fit_vec (v := x130) (x := r127) hi132.1) (by first | omega | (simp only [Flat.n] <;> omega))) (Flat.cell (r127 : UInt8)) (splice_vecI (o' := 0 + (s96.2.2).toNat * 1) hi129 (fit_vec (v := x130) (x := r127) hi132.1) (splice_vec0 (v := x130) (x := r127) hi132.1) (by first | omega | (simp only [Flat.n] <;> omega))) ?_; intro w a hM hE
                    refine c_fin0 ?_
                    refine c_nb ?_
                    refine c_nx ?_
                    refine wp_region_lit ?_
                    refine s_move hE goes_none (by decide) rfl ?_; intro a hE
                    refine s_int hE goes_none (by decide) rfl rfl rfl ?_; intro a hE
                    refine s_assign hE goes_none (by decide) rfl ?_; intro a hE
                    refine c_fin0 ?_
                    refine c_mid ?_
                    exact ⟨_, (Option.some.inj hF103).symm, hE.sub ⟨rfl, rfl, rfl, rfl, rfl, rfl, rfl, rfl, trivial⟩, hM⟩
              · intro hb100
                have hs97 := ite_f hs97 hb100
                refine wp_exit (e_then (e_then (e_eq ?_)))
                have ht135 := hx98 _ (Option.some.inj hs97).symm
                subst ht135
                refine c_mid ?_
                exact ⟨hE.sub ⟨rfl, rfl, rfl, rfl, rfl, rfl, trivial⟩, hM⟩
            · skip
              rintro a w ⟨hE, hM⟩
              refine c_nx ?_
              refine c_region ?_
              refine s_assign hE goes_none (by decide) rfl ?_; intro a hE
              refine c_fin ?_
              obtain ⟨j136, hl137, hF138⟩ := bind_some hF95
              refine c_cut (fun a w => Env 159 a [(0, (vI p0)), (3, (ptr b1 0)), (5, (ptr b3 0)), (6, (ptr b7 0)), (7, (vB r83)), (8, (vI s13.2.2.2))] ∧ M (Old w0) w0 w [raw b7 (Flat.enc j136.2), raw b1 (Flat.enc j136.1), raw b3 (Flat.enc (Vector.replicate 4 (Vector.replicate 4 (0 : UInt8))))]) ?_ ?_
              · skip
                refine wp_block ?_
                refine c_loop (fun (s139 : (Vector (Vector UInt8 4) 4) × (Vector (Vector UInt8 4) 4) × Int) a w => Env 159 a [(0, (vI p0)), (3, (ptr b1 0)), (5, (ptr b3 0)), (6, (ptr b7 0)), (7, (vB r83)), (8, (vI s13.2.2.2)), (14, (vI s139.2.2))] ∧ M (Old w0) w0 w [raw b7 (Flat.enc s139.2.1), raw b1 (Flat.enc s139.1), raw b3 (Flat.enc (Vector.replicate 4 (Vector.replicate 4 (0 : UInt8))))]) hl137 ⟨hE.sub ⟨rfl, rfl, rfl, rfl, rfl, rfl, rfl, trivial⟩, hM⟩ ?_
                rintro s139 a w ⟨hE, hM⟩ o142 hs140 hx141
                unfold L3_spec_l03Reduce at hs140
                refine wp_seq ?_
                refine c_region ?_
                refine s_move hE goes_none (by decide) rfl ?_; intro a hE
                refine s_int hE goes_none (by decide) rfl rfl rfl ?_; intro a hE
                refine c_fin ?_
                refine c_cond hE rfl ?_ ?_
                · intro hb143
                  have hs140 := ite_t hs140 hb143
                  refine wp_skip ?_
                  refine c_nx ?_
                  refine wp_seq ?_
                  refine wp_block ?_
                  refine c_region ?_
                  refine s_move hE goes_none (by decide) rfl ?_; intro a hE
                  refine s_move hE goes_none (by decide) rfl ?_; intro a hE
                  obtain ⟨x145, e146, hs140⟩ := bind_some hs140
                  have hi144 := vidx_some e146
                  refine s_indexA hE goes_none (by decide) rfl rfl Try.underlying55 ty44 hi144.1 ?_; intro a hE
                  obtain ⟨x148, e149, hs140⟩ := bind_some hs140
                  have hi147 := vidx_some e149
                  refine s_indexA hE goes_none (by decide) rfl rfl Try.underlying44 ty5 hi147.1 ?_; intro a hE
                  refine s_load (v := (vB x148)) hE goes_none (by decide) rfl ty5 rfl (At.vec (At.vec (hM.rawAt (pre := [_])) hi144.2) hi147.2) ?_; intro a hE
                  refine s_assign hE goes_none (by decide) rfl ?_; intro a hE
                  refine c_fin ?_
                  refine c_region ?_
                  refine s_assign hE goes_none (by decide) rfl ?_; intro a hE
                  refine c_fin ?_
                  obtain ⟨j150, hl151, hF152⟩ := bind_some hs140
                  refine c_cut (fun a w => Env 159 a [(0, (vI p0)), (3, (ptr b1 0)), (5, (ptr b3 0)), (6, (ptr b7 0)), (7, (vB r83)), (8, (vI s13.2.2.2)), (14, (vI s139.2.2))] ∧ M (Old w0) w0 w [raw b7 (Flat.enc j150.2), raw b1 (Flat.enc j150.1), raw b3 (Flat.enc (Vector.replicate 4 (Vector.replicate 4 (0 : UInt8))))]) ?_ ?_
                  · skip
                    refine wp_block ?_
                    refine c_loop (fun (s153 : (Vector (Vector UInt8 4) 4) × (Vector (Vector UInt8 4) 4) × Int) a w => Env 159 a [(0, (vI p0)), (3, (ptr b1 0)), (5, (ptr b3 0)), (6, (ptr b7 0)), (7, (vB r83)), (8, (vI s13.2.2.2)), (14, (vI s139.2.2)), (15, (vB x148)), (16, (vI s153.2.2))] ∧ M (Old w0) w0 w [raw b7 (Flat.enc s153.2.1), raw b1 (Flat.enc s153.1), raw b3 (Flat.enc (Vector.replicate 4 (Vector.replicate 4 (0 : UInt8))))]) hl151 ⟨hE.sub ⟨rfl, rfl, rfl, rfl, rfl, rfl, rfl, rfl, rfl, trivial⟩, hM⟩ ?_
                    rintro s153 a w ⟨hE, hM⟩ o156 hs154 hx155
                    unfold L4_spec_l03Reduce at hs154
                    refine wp_seq ?_
                    obtain ⟨j157, hl158, hF159⟩ := bind_some hs154
                    refine c_join (fun a w => Env 159 a [(0, (vI p0)), (3, (ptr b1 0)), (5, (ptr b3 0)), (6, (ptr b7 0)), (7, (vB r83)), (8, (vI s13.2.2.2)), (14, (vI s139.2.2)), (15, (vB x148)), (16, (vI s153.2.2)), (118, (vT j157))] ∧ M (Old w0) w0 w [raw b7 (Flat.enc s153.2.1), raw b1 (Flat.enc s153.1), raw b3 (Flat.enc (Vector.replicate 4 (Vector.replicate 4 (0 : UInt8))))]) ?_ ?_
                    · skip
                      refine wp_region_lit ?_
                      refine s_move hE goes_none (by decide) rfl ?_; intro a hE
                      refine s_int hE goes_none (by decide) rfl rfl rfl ?_; intro a hE
                      refine s_move hE goes_none (by decide) rfl ?_; intro a hE
                      refine splitB (decide (s153.2.2 < 4)) (fun hb160 => ?_) (fun hb160 => ?_)
                      · have hl158 := ite_t hl158 hb160
                        refine s_move hE (goes_yes hE rfl (lkb rfl hb160)) (by decide) rfl ?_; intro a hE
                        refine s_move hE (goes_yes hE rfl (lkb rfl hb160)) (by decide) rfl ?_; intro a hE
                        refine s_int hE (goes_yes hE rfl (lkb rfl hb160)) (by decide) rfl rfl rfl ?_; intro a hE
                        refine s_pickT hE goes_none (by decide) (lkb rfl hb160) rfl ?_; intro a hE
                        refine c_fin0 ?_
                        have ht161 := Option.some.inj hl158
                        subst ht161
                        refine c_mid ?_
                        exact ⟨hE.sub ⟨rfl, rfl, rfl, rfl, rfl, rfl, rfl, rfl, rfl, rfl, trivial⟩, hM⟩
                      · have hl158 := ite_f hl158 hb160
                        refine s_skip hE rfl (lkb rfl hb160) rfl (by decide) ?_; intro a hE
                        refine s_skip hE rfl (lkb rfl hb160) rfl (by decide) ?_; intro a hE
                        refine s_skip hE rfl (lkb rfl hb160) rfl (by decide) ?_; intro a hE
                        refine s_pickF hE goes_none (by decide) (lkb rfl hb160) rfl ?_; intro a hE
                        refine c_fin0 ?_
                        have ht162 := Option.some.inj hl158
                        subst ht162
                        refine c_mid ?_
                        exact ⟨hE.sub ⟨rfl, rfl, rfl, rfl, rfl, rfl, rfl, rfl, rfl, rfl, trivial⟩, hM⟩
                    · skip
                      rintro a w ⟨hE, hM⟩
                      refine c_cond hE rfl ?_ ?_
                      · intro hb163
                        have hF159 := ite_t hF159 hb163
                        refine wp_skip ?_
                        refine c_nx ?_
                        refine wp_seq ?_
                        refine wp_block ?_
                        obtain ⟨j164, hl165, hF166⟩ := bind_some hF159
                        refine c_join (fun a w => Env 159 a [(0, (vI p0)), (3, (ptr b1 0)), (5, (ptr b3 0)), (6, (ptr b7 0)), (7, (vB r83)), (8, (vI s13.2.2.2)), (14, (vI s139.2.2)), (15, (vB x148)), (16, (vI s153.2.2))] ∧ M (Old w0) w0 w [raw b7 (Flat.enc s153.2.1), raw b1 (Flat.enc j164), raw b3 (Flat.enc (Vector.replicate 4 (Vector.replicate 4 (0 : UInt8))))]) ?_ ?_
                        · skip
                          obtain ⟨x169, e170, hl165⟩ := bind_some hl165
                          have hi168 := vidx_some e170
                          obtain ⟨x172, e173, hl165⟩ := bind_some hl165
                          have hi171 := vidx_some e173
                          obtain ⟨x175, e176, hl165⟩ := bind_some hl165
                          have hi174 := vidx_some e176
                          obtain ⟨x178, e179, hl165⟩ := bind_some hl165
                          have hi177 := vidx_some e179
                          obtain ⟨r180, e181, hl165⟩ := bind_some hl165
                          obtain ⟨x183, e184, hl165⟩ := bind_some hl165
                          have hi182 := vidx_some e184
                          obtain ⟨x186, e187, hl165⟩ := bind_some hl165
                          have hi185 := vidx_some e187
                          refine c_draw (n := 159) (hd := [_, _, _, _, _, _, _, _, _, _, _, _, _, _, _, _, _, _]) (tl := [_]) hmix rfl rfl [121, 122, 123, 124, 125, 126, 127, 128, 129, 130, 131, 132, 133, 134, 135, 136, 137, 138] (by decide) (fun w => M (Old w0) w0 w [raw b7 (Flat.enc s153.2.1), raw b1 (Flat.enc s153.1), raw b3 (Flat.enc (Vector.replicate 4 (Vector.replicate 4 (0 : UInt8))))]) (fun j => ([fun v _ => v = (vI s139.2.2), fun v _ => v = (vI s153.2.2), fun v _ => v = (vI s139.2.2), fun v _ => v = (vI s153.2.2), fun v _ => v = (ptr b1 (0 + (s139.2.2).toNat * 4)), fun v _ => v = (ptr b1 (0 + (s139.2.2).toNat * 4 + (s153.2.2).toNat * 1)), fun v _ => v = (vB x172), fun v _ => v = (vI p0), fun v _ => v = (vB x148), fun v _ => v = (vI s13.2.2.2), fun v _ => v = (vI s153.2.2), fun v _ => v = (ptr b1 (0 + (s13.2.2.2).toNat * 4)), fun v _ => v = (ptr b1 (0 + (s13.2.2.2).toNat * 4 + (s153.2.2).toNat * 1)), fun v _ => v = (vB x178), fun v _ => v = (vB r180), fun v _ => v = (vB (x172 ^^^ r180)), fun v _ => v = (ptr b1 (0 + (s139.2.2).toNat * 4)), fun v _ => v = (ptr b1 (0 + (s139.2.2).toNat * 4 + (s153.2.2).toNat * 1))] : List (Value → World → Prop)).getD j (fun _ _ => True)) (fun _ _ h hk => h.keep hk) (gup (gupE (gupE (gupE (gupE (gupE (gupE (gupE (gupE (gupE (gupE (gupE (gupE (gupE (gupE (gupE (gupE (gupE (gupE gupN))))))))))))))))))) hE hM.drew (steps_of (steps_cons ?_ (steps_cons ?_ (steps_cons ?_ (steps_cons ?_ (steps_cons ?_ (steps_cons ?_ (steps_cons ?_ (steps_cons ?_ (steps_cons ?_ (steps_cons ?_ (steps_cons ?_ (steps_cons ?_ (steps_cons ?_ (steps_cons ?_ (steps_cons ?_ (steps_cons ?_ (steps_cons ?_ (steps_cons ?_ steps_nil))))))))))))))))))) ?_
                          · intro a w ux167 hE hM hp
                            refine s_move hE goes_none (by decide) rfl ?_; intro a hE
                            exact ⟨Kept.refl _ _, _, _, rfl, hE, rfl⟩
                          · intro a w ux167 hE hM hp
                            refine s_move hE goes_none (by decide) rfl ?_; intro a hE
                            exact ⟨Kept.refl _ _, _, _, rfl, hE, rfl⟩
                          · intro a w ux167 hE hM hp
                            refine s_move hE goes_none (by decide) rfl ?_; intro a hE
                            exact ⟨Kept.refl _ _, _, _, rfl, hE, rfl⟩
                          · intro a w ux167 hE hM hp
                            refine s_move hE goes_none (by decide) rfl ?_; intro a hE
                            exact ⟨Kept.refl _ _, _, _, rfl, hE, rfl⟩
                          · intro a w ux167 hE hM hp
                            have f2 : ux167 2 = (vI s139.2.2) := hp 0 _ rfl rfl
                            refine s_indexA hE goes_none (by decide) rfl (lk rfl f2) Try.underlying55 ty44 hi168.1 ?_; intro a hE
                            exact ⟨Kept.refl _ _, _, _, rfl, hE, rfl⟩
                          · intro a w ux167 hE hM hp
                            have f3 : ux167 3 = (vI s153.2.2) := hp 1 _ rfl rfl
                            have f4 : ux167 4 = (ptr b1 (0 + (s139.2.2).toNat * 4)) := hp 0 _ rfl rfl
                            refine s_indexA hE goes_none (by decide) (lk rfl f4) (lk rfl f3) Try.underlying44 ty5 hi171.1 ?_; intro a hE
                            exact ⟨Kept.refl _ _, _, _, rfl, hE, rfl⟩
                          · intro a w ux167 hE hM hp
                            have f5 : ux167 5 = (ptr b1 (0 + (s139.2.2).toNat * 4 + (s153.2.2).toNat * 1)) := hp 0 _ rfl rfl
                            refine s_load (v := (vB x172)) hE goes_none (by decide) (lk rfl f5) ty5 rfl (At.vec (At.vec (hM.rawAt (pre := [_])) hi168.2) hi171.2) ?_; intro a hE
                            exact ⟨Kept.refl _ _, _, _, rfl, hE, rfl⟩
                          · intro a w ux167 hE hM hp
                            refine s_move hE goes_none (by decide) rfl ?_; intro a hE
                            exact ⟨Kept.refl _ _, _, _, rfl, hE, rfl⟩
                          · intro a w ux167 hE hM hp
                            refine s_move hE goes_none (by decide) rfl ?_; intro a hE
                            exact ⟨Kept.refl _ _, _, _, rfl, hE, rfl⟩
                          · intro a w ux167 hE hM hp
                            refine s_move hE goes_none (by decide) rfl ?_; intro a hE
                            exact ⟨Kept.refl _ _, _, _, rfl, hE, rfl⟩
                          · intro a w ux167 hE hM hp
                            refine s_move hE goes_none (by decide) rfl ?_; intro a hE
                            exact ⟨Kept.refl _ _, _, _, rfl, hE, rfl⟩
                          · intro a w ux167 hE hM hp
                            have f9 : ux167 9 = (vI s13.2.2.2) := hp 0 _ rfl rfl
                            refine s_indexA hE goes_none (by decide) rfl (lk rfl f9) Try.underlying55 ty44 hi174.1 ?_; intro a hE
                            exact ⟨Kept.refl _ _, _, _, rfl, hE, rfl⟩
                          · intro a w ux167 hE hM hp
                            have f10 : ux167 10 = (vI s153.2.2) := hp 1 _ rfl rfl
                            have f11 : ux167 11 = (ptr b1 (0 + (s13.2.2.2).toNat * 4)) := hp 0 _ rfl rfl
                            refine s_indexA hE goes_none (by decide) (lk rfl f11) (lk rfl f10) Try.underlying44 ty5 hi177.1 ?_; intro a hE
                            exact ⟨Kept.refl _ _, _, _, rfl, hE, rfl⟩
                          · intro a w ux167 hE hM hp
                            have f12 : ux167 12 = (ptr b1 (0 + (s13.2.2.2).toNat * 4 + (s153.2.2).toNat * 1)) := hp 0 _ rfl rfl
                            refine s_load (v := (vB x178)) hE goes_none (by decide) (lk rfl f12) ty5 rfl (At.vec (At.vec (hM.rawAt (pre := [_])) hi174.2) hi177.2) ?_; intro a hE
                            exact ⟨Kept.refl _ _, _, _, rfl, hE, rfl⟩
                          · intro a w ux167 hE hM hp
                            have f7 : ux167 7 = (vI p0) := hp 0 _ rfl rfl
                            have f8 : ux167 8 = (vB x148) := hp 1 _ rfl rfl
                            have f13 : ux167 13 = (vB x178) := hp 2 _ rfl rfl
                            refine s_call (vs := [(vI p0), (vB x148), (vB x178)]) hE goes_none (by decide) (evs_of (evsC (lk rfl f7) (evsC (lk rfl f8) (evsC (lk rfl f13) evsN)))) cb183 (c_spec_l01Times _ p0 x148 x178 r180 e181) ?_
                            rintro v w a ⟨rfl, hK⟩ hE
                            exact ⟨hK, _, _, rfl, hE, rfl⟩
                          · intro a w ux167 hE hM hp
                            have f6 : ux167 6 = (vB x172) := hp 0 _ rfl rfl
                            have f14 : ux167 14 = (vB r180) := hp 1 _ rfl rfl
                            refine s_int hE goes_none (by decide) (lk rfl f6) (lk rfl f14) (bB_xor x172 r180) ?_; intro a hE
                            exact ⟨Kept.refl _ _, _, _, rfl, hE, rfl⟩
                          · intro a w ux167 hE hM hp
                            have f0 : ux167 0 = (vI s139.2.2) := hp 0 _ rfl rfl
                            refine s_indexA hE goes_none (by decide) rfl (lk rfl f0) Try.underlying55 ty44 hi182.1 ?_; intro a hE
                            exact ⟨Kept.refl _ _, _, _, rfl, hE, rfl⟩
                          · intro a w ux167 hE hM hp
                            have f1 : ux167 1 = (vI s153.2.2) := hp 1 _ rfl rfl
                            have f16 : ux167 16 = (ptr b1 (0 + (s139.2.2).toNat * 4)) := hp 0 _ rfl rfl
                            refine s_indexA hE goes_none (by decide) (lk rfl f16) (lk rfl f1) Try.underlying44 ty5 hi185.1 ?_; intro a hE
                            exact ⟨Kept.refl _ _, _, _, rfl, hE, rfl⟩
                          · intro a w ux167 hE hM hg
                            have f0 : ux167 0 = (vI s139.2.2) := hg 0 (by decide)
                            have f1 : ux167 1 = (vI s153.2.2) := hg 1 (by decide)
                            have f2 : ux167 2 = (vI s139.2.2) := hg 2 (by decide)
                            have f3 : ux167 3 = (vI s153.2.2) := hg 3 (by decide)
                            have f4 : ux167 4 = (ptr b1 (0 + (s139.2.2).toNat * 4)) := hg 4 (by decide)
                            have f5 : ux167 5 = (ptr b1 (0 + (s139.2.2).toNat * 4 + (s153.2.2).toNat * 1)) := hg 5 (by decide)
                            have f6 : ux167 6 = (vB x172) := hg 6 (by decide)
                            have f7 : ux167 7 = (vI p0) := hg 7 (by decide)
                            have f8 : ux167 8 = (vB x148) := hg 8 (by decide)
                            have f9 : ux167 9 = (vI s13.2.2.2) := hg 9 (by decide)
                            have f10 : ux167 10 = (vI s153.2.2) := hg 10 (by decide)
                            have f11 : ux167 11 = (ptr b1 (0 + (s13.2.2.2).toNat * 4)) := hg 11 (by decide)
                            have f12 : ux167 12 = (ptr b1 (0 + (s13.2.2.2).toNat * 4 + (s153.2.2).toNat * 1)) := hg 12 (by decide)
                            have f13 : ux167 13 = (vB x178) := hg 13 (by decide)
                            have f14 : ux167 14 = (vB r180) := hg 14 (by decide)
                            have f15 : ux167 15 = (vB (x172 ^^^ r180)) := hg 15 (by decide)
                            have f16 : ux167 16 = (ptr b1 (0 + (s139.2.2).toNat * 4)) := hg 16 (by decide)
                            have f17 : ux167 17 = (ptr b1 (0 + (s139.2.2).toNat * 4 + (s153.2.2).toNat * 1)) := hg 17 (by decide)
                            have hE := hE.sub (e' := [(121, (vI s139.2.2)), (122, (vI s153.2.2)), (123, (vI s139.2.2)), (124, (vI s153.2.2)), (125, (ptr b1 (0 + (s139.2.2).toNat * 4))), (126, (ptr b1 (0 + (s139.2.2).toNat * 4 + (s153.2.2).toNat * 1))), (127, (vB x172)), (128, (vI p0)), (129, (vB x148)), (130, (vI s13.2.2.2)), (131, (vI s153.2.2)), (132, (ptr b1 (0 + (s13.2.2.2).toNat * 4))), (133, (ptr b1 (0 + (s13.2.2.2).toNat * 4 + (s153.2.2).toNat * 1))), (134, (vB x178)), (135, (vB r180)), (136, (vB (x172 ^^^ r180))), (137, (ptr b1 (0 + (s139.2.2).toNat * 4))), (138, (ptr b1 (0 + (s139.2.2).toNat * 4 + (s153.2.2).toNat * 1))), (0, (vI p0)), (3, (ptr b1 0)), (5, (ptr b3 0)), (6, (ptr b7 0)), (7, (vB r83)), (8, (vI s13.2.2.2)), (14, (vI s139.2.2)), (15, (vB x148)), (16, (vI s153.2.2)), (118, (vT j157))]) ⟨lk rfl f0, lk rfl f1, lk rfl f2, lk rfl f3, lk rfl f4, lk rfl f5, lk rfl f6, lk rfl f7, lk rfl f8, lk rfl f9, lk rfl f10, lk rfl f11, lk rfl f12, lk rfl f13, lk rfl f14, lk rfl f15, lk rfl f16, lk rfl f17, rfl, rfl, rfl, rfl, rfl, rfl, rfl, rfl, rfl, rfl, trivial⟩
                            have hM := hM.pull (pre := [_])
                            refine s_store (seg := [(vB (x172 ^^^ r180))]) (cs' := Flat.enc (s153.1.setIfInBounds (s139.2.2).toNat (x183.setIfInBounds (s153.2.2).toNat (x172 ^^^ r180)))) hE hM goes_none rfl rfl rfl ty5 rfl (fit_vecI (o' := 0 + (s153.2.2).toNat * 1) hi182 (fit_vec (v := x183) (x := x172 ^^^ r180) hi185.1) (by first | omega | (simp only [Flat.n] <;> omega))) (Flat.cell (x172 ^^^ r180 : UInt8)) (splice_vecI (o' := 0 + (s153.2.2).toNat * 1) hi182 (fit_vec (v := x183) (x := x172 ^^^ r180) hi185.1) (splice_vec0 (v := x183) (x := x172 ^^^ r180) hi185.1) (by first | omega | (simp only [Flat.n] <;> omega))) ?_; intro w a hM hE
                            refine c_fin0 ?_
                            have ht188 := Option.some.inj hl165
                            subst ht188
                            refine c_mid ?_
                            have hM := hM.pull (pre := [_, _])
                            have hM := hM.pull (pre := [_])
                            have hM := hM.pull (pre := [_, _])
                            exact ⟨hE.sub ⟨rfl, rfl, rfl, rfl, rfl, rfl, rfl, rfl, rfl, trivial⟩, hM⟩
                        · skip
                          rintro a w ⟨hE, hM⟩
                          obtain ⟨x191, e192, hF166⟩ := bind_some hF166
                          have hi190 := vidx_some e192
                          obtain ⟨x194, e195, hF166⟩ := bind_some hF166
                          have hi193 := vidx_some e195
                          obtain ⟨x197, e198, hF166⟩ := bind_some hF166
                          have hi196 := vidx_some e198
                          obtain ⟨x200, e201, hF166⟩ := bind_some hF166
                          have hi199 := vidx_some e201
                          obtain ⟨r202, e203, hF166⟩ := bind_some hF166
                          obtain ⟨x205, e206, hF166⟩ := bind_some hF166
                          have hi204 := vidx_some e206
                          obtain ⟨x208, e209, hF166⟩ := bind_some hF166
                          have hi207 := vidx_some e209
                          refine c_draw (n := 159) (hd := [_, _, _, _, _, _, _, _, _, _, _, _, _, _, _, _, _, _]) (tl := [_]) hmix rfl rfl [139, 140, 141, 142, 143, 144, 145, 146, 147, 148, 149, 150, 151, 152, 153, 154, 155, 156] (by decide) (fun w => M (Old w0) w0 w [raw b7 (Flat.enc s153.2.1), raw b1 (Flat.enc j164), raw b3 (Flat.enc (Vector.replicate 4 (Vector.replicate 4 (0 : UInt8))))]) (fun j => ([fun v _ => v = (vI s139.2.2), fun v _ => v = (vI s153.2.2), fun v _ => v = (vI s139.2.2), fun v _ => v = (vI s153.2.2), fun v _ => v = (ptr b7 (0 + (s139.2.2).toNat * 4)), fun v _ => v = (ptr b7 (0 + (s139.2.2).toNat * 4 + (s153.2.2).toNat * 1)), fun v _ => v = (vB x194), fun v _ => v = (vI p0), fun v _ => v = (vB x148), fun v _ => v = (vI s13.2.2.2), fun v _ => v = (vI s153.2.2), fun v _ => v = (ptr b7 (0 + (s13.2.2.2).toNat * 4)), fun v _ => v = (ptr b7 (0 + (s13.2.2.2).toNat * 4 + (s153.2.2).toNat * 1)), fun v _ => v = (vB x200), fun v _ => v = (vB r202), fun v _ => v = (vB (x194 ^^^ r202)), fun v _ => v = (ptr b7 (0 + (s139.2.2).toNat * 4)), fun v _ => v = (ptr b7 (0 + (s139.2.2).toNat * 4 + (s153.2.2).toNat * 1))] : List (Value → World → Prop)).getD j (fun _ _ => True)) (fun _ _ h hk => h.keep hk) (gup (gupE (gupE (gupE (gupE (gupE (gupE (gupE (gupE (gupE (gupE (gupE (gupE (gupE (gupE (gupE (gupE (gupE (gupE gupN))))))))))))))))))) hE hM.drew (steps_of (steps_cons ?_ (steps_cons ?_ (steps_cons ?_ (steps_cons ?_ (steps_cons ?_ (steps_cons ?_ (steps_cons ?_ (steps_cons ?_ (steps_cons ?_ (steps_cons ?_ (steps_cons ?_ (steps_cons ?_ (steps_cons ?_ (steps_cons ?_ (steps_cons ?_ (steps_cons ?_ (steps_cons ?_ (steps_cons ?_ steps_nil))))))))))))))))))) ?_
                          · intro a w ux189 hE hM hp
                            refine s_move hE goes_none (by decide) rfl ?_; intro a hE
                            exact ⟨Kept.refl _ _, _, _, rfl, hE, rfl⟩
                          · intro a w ux189 hE hM hp
                            refine s_move hE goes_none (by decide) rfl ?_; intro a hE
                            exact ⟨Kept.refl _ _, _, _, rfl, hE, rfl⟩
                          · intro a w ux189 hE hM hp
                            refine s_move hE goes_none (by decide) rfl ?_; intro a hE
                            exact ⟨Kept.refl _ _, _, _, rfl, hE, rfl⟩
                          · intro a w ux189 hE hM hp
                            refine s_move hE goes_none (by decide) rfl ?_; intro a hE
                            exact ⟨Kept.refl _ _, _, _, rfl, hE, rfl⟩
                          · intro a w ux189 hE hM hp
                            have f2 : ux189 2 = (vI s139.2.2) := hp 0 _ rfl rfl
                            refine s_indexA hE goes_none (by decide) rfl (lk rfl f2) Try.underlying55 ty44 hi190.1 ?_; intro a hE
                            exact ⟨Kept.refl _ _, _, _, rfl, hE, rfl⟩
                          · intro a w ux189 hE hM hp
                            have f3 : ux189 3 = (vI s153.2.2) := hp 1 _ rfl rfl
                            have f4 : ux189 4 = (ptr b7 (0 + (s139.2.2).toNat * 4)) := hp 0 _ rfl rfl
                            refine s_indexA hE goes_none (by decide) (lk rfl f4) (lk rfl f3) Try.underlying44 ty5 hi193.1 ?_; intro a hE
                            exact ⟨Kept.refl _ _, _, _, rfl, hE, rfl⟩
                          · intro a w ux189 hE hM hp
                            have f5 : ux189 5 = (ptr b7 (0 + (s139.2.2).toNat * 4 + (s153.2.2).toNat * 1)) := hp 0 _ rfl rfl
                            refine s_load (v := (vB x194)) hE goes_none (by decide) (lk rfl f5) ty5 rfl (At.vec (At.vec (hM.rawAt (pre := [])) hi190.2) hi193.2) ?_; intro a hE
                            exact ⟨Kept.refl _ _, _, _, rfl, hE, rfl⟩
                          · intro a w ux189 hE hM hp
                            refine s_move hE goes_none (by decide) rfl ?_; intro a hE
                            exact ⟨Kept.refl _ _, _, _, rfl, hE, rfl⟩
                          · intro a w ux189 hE hM hp
                            refine s_move hE goes_none (by decide) rfl ?_; intro a hE
                            exact ⟨Kept.refl _ _, _, _, rfl, hE, rfl⟩
                          · intro a w ux189 hE hM hp
                            refine s_move hE goes_none (by decide) rfl ?_; intro a hE
                            exact ⟨Kept.refl _ _, _, _, rfl, hE, rfl⟩
                          · intro a w ux189 hE hM hp
                            refine s_move hE goes_none (by decide) rfl ?_; intro a hE
                            exact ⟨Kept.refl _ _, _, _, rfl, hE, rfl⟩
                          · intro a w ux189 hE hM hp
                            have f9 : ux189 9 = (vI s13.2.2.2) := hp 0 _ rfl rfl
                            refine s_indexA hE goes_none (by decide) rfl (lk rfl f9) Try.underlying55 ty44 hi196.1 ?_; intro a hE
                            exact ⟨Kept.refl _ _, _, _, rfl, hE, rfl⟩
                          · intro a w ux189 hE hM hp
                            have f10 : ux189 10 = (vI s153.2.2) := hp 1 _ rfl rfl
                            have f11 : ux189 11 = (ptr b7 (0 + (s13.2.2.2).toNat * 4)) := hp 0 _ rfl rfl
                            refine s_indexA hE goes_none (by decide) (lk rfl f11) (lk rfl f10) Try.underlying44 ty5 hi199.1 ?_; intro a hE
                            exact ⟨Kept.refl _ _, _, _, rfl, hE, rfl⟩
                          · intro a w ux189 hE hM hp
                            have f12 : ux189 12 = (ptr b7 (0 + (s13.2.2.2).toNat * 4 + (s153.2.2).toNat * 1)) := hp 0 _ rfl rfl
                            refine s_load (v := (vB x200)) hE goes_none (by decide) (lk rfl f12) ty5 rfl (At.vec (At.vec (hM.rawAt (pre := [])) hi196.2) hi199.2) ?_; intro a hE
                            exact ⟨Kept.refl _ _, _, _, rfl, hE, rfl⟩
                          · intro a w ux189 hE hM hp
                            have f7 : ux189 7 = (vI p0) := hp 0 _ rfl rfl
                            have f8 : ux189 8 = (vB x148) := hp 1 _ rfl rfl
                            have f13 : ux189 13 = (vB x200) := hp 2 _ rfl rfl
                            refine s_call (vs := [(vI p0), (vB x148), (vB x200)]) hE goes_none (by decide) (evs_of (evsC (lk rfl f7) (evsC (lk rfl f8) (evsC (lk rfl f13) evsN)))) cb183 (c_spec_l01Times _ p0 x148 x200 r202 e203) ?_
                            rintro v w a ⟨rfl, hK⟩ hE
                            exact ⟨hK, _, _, rfl, hE, rfl⟩
                          · intro a w ux189 hE hM hp
                            have f6 : ux189 6 = (vB x194) := hp 0 _ rfl rfl
                            have f14 : ux189 14 = (vB r202) := hp 1 _ rfl rfl
                            refine s_int hE goes_none (by decide) (lk rfl f6) (lk rfl f14) (bB_xor x194 r202) ?_; intro a hE
                            exact ⟨Kept.refl _ _, _, _, rfl, hE, rfl⟩
                          · intro a w ux189 hE hM hp
                            have f0 : ux189 0 = (vI s139.2.2) := hp 0 _ rfl rfl
                            refine s_indexA hE goes_none (by decide) rfl (lk rfl f0) Try.underlying55 ty44 hi204.1 ?_; intro a hE
                            exact ⟨Kept.refl _ _, _, _, rfl, hE, rfl⟩
                          · intro a w ux189 hE hM hp
                            have f1 : ux189 1 = (vI s153.2.2) := hp 1 _ rfl rfl
                            have f16 : ux189 16 = (ptr b7 (0 + (s139.2.2).toNat * 4)) := hp 0 _ rfl rfl
                            refine s_indexA hE goes_none (by decide) (lk rfl f16) (lk rfl f1) Try.underlying44 ty5 hi207.1 ?_; intro a hE
                            exact ⟨Kept.refl _ _, _, _, rfl, hE, rfl⟩
                          · intro a w ux189 hE hM hg
                            have f0 : ux189 0 = (vI s139.2.2) := hg 0 (by decide)
                            have f1 : ux189 1 = (vI s153.2.2) := hg 1 (by decide)
                            have f2 : ux189 2 = (vI s139.2.2) := hg 2 (by decide)
                            have f3 : ux189 3 = (vI s153.2.2) := hg 3 (by decide)
                            have f4 : ux189 4 = (ptr b7 (0 + (s139.2.2).toNat * 4)) := hg 4 (by decide)
                            have f5 : ux189 5 = (ptr b7 (0 + (s139.2.2).toNat * 4 + (s153.2.2).toNat * 1)) := hg 5 (by decide)
                            have f6 : ux189 6 = (vB x194) := hg 6 (by decide)
                            have f7 : ux189 7 = (vI p0) := hg 7 (by decide)
                            have f8 : ux189 8 = (vB x148) := hg 8 (by decide)
                            have f9 : ux189 9 = (vI s13.2.2.2) := hg 9 (by decide)
                            have f10 : ux189 10 = (vI s153.2.2) := hg 10 (by decide)
                            have f11 : ux189 11 = (ptr b7 (0 + (s13.2.2.2).toNat * 4)) := hg 11 (by decide)
                            have f12 : ux189 12 = (ptr b7 (0 + (s13.2.2.2).toNat * 4 + (s153.2.2).toNat * 1)) := hg 12 (by decide)
                            have f13 : ux189 13 = (vB x200) := hg 13 (by decide)
                            have f14 : ux189 14 = (vB r202) := hg 14 (by decide)
                            have f15 : ux189 15 = (vB (x194 ^^^ r202)) := hg 15 (by decide)
                            have f16 : ux189 16 = (ptr b7 (0 + (s139.2.2).toNat * 4)) := hg 16 (by decide)
                            have f17 : ux189 17 = (ptr b7 (0 + (s139.2.2).toNat * 4 + (s153.2.2).toNat * 1)) := hg 17 (by decide)
                            have hE := hE.sub (e' := [(139, (vI s139.2.2)), (140, (vI s153.2.2)), (141, (vI s139.2.2)), (142, (vI s153.2.2)), (143, (ptr b7 (0 + (s139.2.2).toNat * 4))), (144, (ptr b7 (0 + (s139.2.2).toNat * 4 + (s153.2.2).toNat * 1))), (145, (vB x194)), (146, (vI p0)), (147, (vB x148)), (148, (vI s13.2.2.2)), (149, (vI s153.2.2)), (150, (ptr b7 (0 + (s13.2.2.2).toNat * 4))), (151, (ptr b7 (0 + (s13.2.2.2).toNat * 4 + (s153.2.2).toNat * 1))), (152, (vB x200)), (153, (vB r202)), (154, (vB (x194 ^^^ r202))), (155, (ptr b7 (0 + (s139.2.2).toNat * 4))), (156, (ptr b7 (0 + (s139.2.2).toNat * 4 + (s153.2.2).toNat * 1))), (0, (vI p0)), (3, (ptr b1 0)), (5, (ptr b3 0)), (6, (ptr b7 0)), (7, (vB r83)), (8, (vI s13.2.2.2)), (14, (vI s139.2.2)), (15, (vB x148)), (16, (vI s153.2.2))]) ⟨lk rfl f0, lk rfl f1, lk rfl f2, lk rfl f3, lk rfl f4, lk rfl f5, lk rfl f6, lk rfl f7, lk rfl f8, lk rfl f9, lk rfl f10, lk rfl f11, lk rfl f12, lk rfl f13, lk rfl f14, lk rfl f15, lk rfl f16, lk rfl f17, rfl, rfl, rfl, rfl, rfl, rfl, rfl, rfl, rfl, trivial⟩
                            refine s_store (seg := [(vB (x194 ^^^ r202))]) (cs' := Flat.enc (s153.2.1.setIfInBounds (s139.2.2).toNat (x205.setIfInBounds (s153.2.2).toNat (x194 ^^^ r202)))) hE hM goes_none rfl rfl rfl ty5 rfl (fit_vecI (o' := 0 + (s153.2.2).toNat * 1) hi204 (fit_vec (v := x205) (x := x194 ^^^ r202) hi207.1) (by first | omega | (simp only [Flat.n] <;> omega))) (Flat.cell (x194 ^^^ r202 : UInt8)) (splice_vecI (o' := 0 + (s153.2.2).toNat * 1) hi204 (fit_vec (v := x205) (x := x194 ^^^ r202) hi207.1) (splice_vec0 (v := x205) (x := x194 ^^^ r202) hi207.1) (by first | omega | (simp only [Flat.n] <;> omega))) ?_; intro w a hM hE
                            refine c_fin0 ?_
                            refine c_nb ?_
                            refine c_nx ?_
                            refine wp_region_lit ?_
                            refine s_move hE goes_none (by decide) rfl ?_; intro a hE
                            refine s_int hE goes_none (by decide) rfl rfl rfl ?_; intro a hE
                            refine s_assign hE goes_none (by decide) rfl ?_; intro a hE
                            refine c_fin0 ?_
                            refine c_mid ?_
                            exact ⟨_, (Option.some.inj hF166).symm, hE.sub ⟨rfl, rfl, rfl, rfl, rfl, rfl, rfl, rfl, rfl, trivial⟩, hM⟩
                      · intro hb163
                        have hF159 := ite_f hF159 hb163
                        refine wp_exit (e_then (e_then (e_eq ?_)))
                        have ht210 := hx155 _ (Option.some.inj hF159).symm
                        subst ht210
                        refine c_mid ?_
                        exact ⟨hE.sub ⟨rfl, rfl, rfl, rfl, rfl, rfl, rfl, trivial⟩, hM⟩
                  · skip
                    rintro a w ⟨hE, hM⟩
                    refine c_nb ?_
                    refine c_nx ?_
                    refine wp_region_lit ?_
                    refine s_move hE goes_none (by decide) rfl ?_; intro a hE
                    refine s_int hE goes_none (by decide) rfl rfl rfl ?_; intro a hE
                    refine s_assign hE goes_none (by decide) rfl ?_; intro a hE
                    refine c_fin0 ?_
                    refine c_mid ?_
                    exact ⟨_, (Option.some.inj hF152).symm, hE.sub ⟨rfl, rfl, rfl, rfl, rfl, rfl, rfl, trivial⟩, hM⟩
                · intro hb143
                  have hs140 := ite_f hs140 hb143
                  refine wp_exit (e_then (e_then (e_eq ?_)))
                  have ht211 := hx141 _ (Option.some.inj hs140).symm
                  subst ht211
                  refine c_mid ?_
                  exact ⟨hE.sub ⟨rfl, rfl, rfl, rfl, rfl, rfl, trivial⟩, hM⟩
              · skip
                rintro a w ⟨hE, hM⟩
                refine c_nb ?_
                refine c_nx ?_
                refine wp_region_lit ?_
                refine s_move hE goes_none (by decide) rfl ?_; intro a hE
                refine s_int hE goes_none (by decide) rfl rfl rfl ?_; intro a hE
                refine s_assign hE goes_none (by decide) rfl ?_; intro a hE
                refine c_fin0 ?_
                refine c_mid ?_
                have hM := hM.pull (pre := [_])
                have hM := hM.pull (pre := [_, _])
                have hM := hM.pull (pre := [_, _])
                exact ⟨_, (Option.some.inj hF138).symm, hE.sub ⟨rfl, rfl, rfl, rfl, rfl, rfl, trivial⟩, hM⟩
    · intro hb17
      have hs14 := ite_f hs14 hb17
      refine wp_exit (e_then (e_then (e_eq ?_)))
      have ht212 := hx15 _ (Option.some.inj hs14).symm
      subst ht212
      refine c_mid ?_
      have hM := hM.pull (pre := [_])
      have hM := hM.pull (pre := [_])
      have hM := M.fst (l := [_, _]) hM
      exact ⟨(s13.2.1, s13.2.2.1), rfl, hE.sub ⟨rfl, rfl, rfl, trivial⟩, hM⟩
  · skip
    rintro a w ⟨s12, ht, hE, hM⟩
    subst ht
    have hF11 := el_nx hF11
    refine c_nx ?_
    obtain ⟨j213, hl214, hF215⟩ := bind_some hF11
    refine c_join (fun a w => Env 159 a [(4, (vB j213.2)), (5, (ptr b3 0))] ∧ M (Old w0) w0 w [raw b3 (Flat.enc j213.1)]) ?_ ?_
    · skip
      refine c_draw (n := 159) (hd := [_, _, _]) (tl := [_]) hmix rfl rfl [157, 158, 4] (by decide) (fun w => M (Old w0) w0 w [raw b7 (Flat.enc s12.1), raw b3 (Flat.enc (Vector.replicate 4 (Vector.replicate 4 (0 : UInt8))))]) (fun j => ([fun v _ => v = (vB s12.2), fun v _ => v = (Value.agg (Flat.enc s12.1).toArray), fun v _ => v = (vB s12.2)] : List (Value → World → Prop)).getD j (fun _ _ => True)) (fun _ _ h hk => h.keep hk) (gup (gupE (gupE (gupE gupN)))) hE hM.drew (steps_of (steps_cons ?_ (steps_cons ?_ (steps_cons ?_ steps_nil)))) ?_
      · intro a w ux216 hE hM hp
        refine s_move hE goes_none (by decide) rfl ?_; intro a hE
        exact ⟨Kept.refl _ _, _, _, rfl, hE, rfl⟩
      · intro a w ux216 hE hM hp
        refine s_loadA (cs := Flat.enc s12.1) hE goes_none (by decide) rfl ty55 rfl (hM.rawAt (pre := [])) (Flat.len _) ?_; intro a hE
        exact ⟨Kept.refl _ _, _, _, rfl, hE, rfl⟩
      · intro a w ux216 hE hM hp
        have f0 : ux216 0 = (vB s12.2) := hp 0 _ rfl rfl
        refine s_assign hE goes_none (by decide) (lk rfl f0) ?_; intro a hE
        exact ⟨Kept.refl _ _, _, _, rfl, hE, rfl⟩
      · intro a w ux216 hE hM hg
        have f0 : ux216 0 = (vB s12.2) := hg 0 (by decide)
        have f1 : ux216 1 = (Value.agg (Flat.enc s12.1).toArray) := hg 1 (by decide)
        have f2 : ux216 2 = (vB s12.2) := hg 2 (by decide)
        have hE := hE.sub (e' := [(157, (vB s12.2)), (158, (Value.agg (Flat.enc s12.1).toArray)), (4, (vB s12.2)), (5, (ptr b3 0)), (6, (ptr b7 0)), (7, (vB s12.2))]) ⟨lk rfl f0, lk rfl f1, lk rfl f2, rfl, rfl, rfl, trivial⟩
        have hM := hM.pull (pre := [_])
        refine s_store (seg := Flat.enc s12.1) (cs' := Flat.enc s12.1) hE hM goes_none rfl rfl rfl ty55 (Flat.len _) (Nat.le_of_eq ((Nat.zero_add _).trans (Eq.trans (Flat.len _) (Eq.symm (Flat.len _))))) (Flat.cell _) (splice_all (Eq.trans (Flat.len _) (Eq.symm (Flat.len _)))) ?_; intro w a hM hE
        refine c_fin0 ?_
        have ht217 := Option.some.inj hl214
        subst ht217
        refine c_mid ?_
        have hM := M.fst (l := [_]) hM
        exact ⟨hE.sub ⟨rfl, rfl, trivial⟩, hM⟩
    · skip
      rintro a w ⟨hE, hM⟩
      have hr := Option.some.inj hF215
      subst hr
      have hq218 : ResIs Try.prog _ _ (.cell 5 55) _ := res_cell hE rfl ty55 rfl (hM.rawAt (pre := [])) (Flat.len _) rfl
      have hM := M.fst (l := []) hM
      exact wp_ret (k_ret2 hE rfl (res_tmp hE rfl) hq218 ⟨_, rfl, rfl, hM.kept⟩)
noncomputable def F_spec_l03Inverse (p0 : Int) (p1 : (Vector (Vector UInt8 4) 4)) : Option ((Vector (Vector UInt8 4) 4) × Bool) :=
  (F_spec_l03Reduce p0 p1).bind fun (r5 : UInt8 × (Vector (Vector UInt8 4) 4)) => some (r5.2, r5.1 != 0)
set_option maxRecDepth 20000 in
set_option maxHeartbeats 400000 in
theorem c_spec_l03Inverse (w0 : World) (p0 : Int) (p1 : (Vector (Vector UInt8 4) 4)) (r : (Vector (Vector UInt8 4) 4) × Bool) (hF : F_spec_l03Inverse p0 p1 = some r) :
    Calls Try.prog 146 [(vI p0), (Value.agg (Flat.enc p1).toArray)].toArray w0 (fun en w' => ∃ v, en = .returned v ∧ (v = (Value.tuple [(Value.agg (Flat.enc r.1).toArray), (vT r.2)].toArray) ∧ Kept (Old w0) w0 w')) := by
  refine c_enter (n := 17) Try.func146 rfl rfl (Nat.le_of_ble_eq_true rfl) rfl ?_
  intro a hE
  have hM := M.start w0
  unfold F_spec_l03Inverse at hF
  refine c_region ?_
  refine s_box (cs := Flat.enc p1) hE hM goes_none (by decide) rfl rfl ?_; intro b1 w a hM hE
  refine s_alloc hE hM goes_none (by decide) ty55 ?_; intro b3 w a hM hE
  refine s_assign hE goes_none (by decide) rfl ?_; intro a hE
  refine c_fin ?_
  refine c_region ?_
  refine s_move hE goes_none (by decide) rfl ?_; intro a hE
  refine s_loadA (cs := Flat.enc p1) hE goes_none (by decide) rfl ty55 rfl (hM.rawAt (pre := [_])) (Flat.len _) ?_; intro a hE
  obtain ⟨r5, e6, hF⟩ := bind_some hF
  refine s_call (vs := [(vI p0), (Value.agg (Flat.enc p1).toArray)]) hE goes_none (by decide) rfl cb193 (c_spec_l03Reduce _ p0 p1 r5 e6) ?_
  rintro v w a ⟨rfl, hK⟩ hE
  have hM := hM.keep hK
  refine s_move hE goes_none (by decide) rfl ?_; intro a hE
  refine s_extract hE goes_none (by decide) rfl rfl ?_; intro a hE
  refine s_extract hE goes_none (by decide) rfl rfl ?_; intro a hE
  refine s_alloc hE hM goes_none (by decide) ty55 ?_; intro b7 w a hM hE
  refine s_assign hE goes_none (by decide) rfl ?_; intro a hE
  refine s_store (seg := Flat.enc r5.2) (cs' := Flat.enc r5.2) hE hM goes_none rfl rfl rfl ty55 (Flat.len _) (Nat.le_of_eq ((Nat.zero_add _).trans (Eq.trans (Flat.len _) (Eq.symm (Flat.len _))))) (Flat.cell _) (splice_all (Eq.trans (Flat.len _) (Eq.symm (Flat.len _)))) ?_; intro w a hM hE
  refine c_fin ?_
  refine c_region ?_
  refine s_loadA (cs := Flat.enc r5.2) hE goes_none (by decide) rfl ty55 rfl (hM.rawAt (pre := [])) (Flat.len _) ?_; intro a hE
  refine s_move hE goes_none (by decide) rfl ?_; intro a hE
  refine s_int hE goes_none (by decide) rfl rfl (bB_neq r5.1 0) ?_; intro a hE
  have hM := hM.pull (pre := [_])
  refine s_store (seg := Flat.enc r5.2) (cs' := Flat.enc r5.2) hE hM goes_none rfl rfl rfl ty55 (Flat.len _) (Nat.le_of_eq ((Nat.zero_add _).trans (Eq.trans (Flat.len _) (Eq.symm (Flat.len _))))) (Flat.cell _) (splice_all (Eq.trans (Flat.len _) (Eq.symm (Flat.len _)))) ?_; intro w a hM hE
  refine s_assign hE goes_none (by decide) rfl ?_; intro a hE
  refine c_fin ?_
  have hr := Option.some.inj hF
  subst hr
  have hq9 : ResIs Try.prog _ _ (.cell 4 55) _ := res_cell hE rfl ty55 rfl (hM.rawAt (pre := [])) (Flat.len _) rfl
  have hM := M.fst (l := []) hM
  exact wp_ret (k_ret2 hE rfl hq9 (res_tmp hE rfl) ⟨_, rfl, rfl, hM.kept⟩)
noncomputable def F_spec_l04Is (p0 : GCipher) : Option (Bool) :=
  ((F_spec_l01Field p0.Field).bind fun (r6 : Bool) => if (!r6) = true then (some true) else ((F_spec_l02Is p0.Box).bind fun (r10 : Bool) => if (!r10) = true then (some true) else ((F_spec_l03Perm p0.Places).bind fun (r14 : Bool) => if (!r14) = true then (some true) else ((F_spec_l01In p0.Rounds 1 20).bind fun (r18 : Bool) => some (!r18)))) : Option (Bool)).bind fun (j3 : Bool) => if j3 = true then (some false) else ((F_spec_l03Inverse p0.Field p0.Mix).bind fun (r22 : (Vector (Vector UInt8 4) 4) × Bool) => some r22.2)
set_option maxRecDepth 20000 in
set_option maxHeartbeats 400000 in
theorem c_spec_l04Is (w0 : World) (p0 : GCipher) (r : Bool) (hF : F_spec_l04Is p0 = some r) :
    Calls Try.prog 85 [(Value.agg (Flat.enc p0).toArray)].toArray w0 (fun en w' => ∃ v, en = .returned v ∧ (v = (vT r) ∧ Kept (Old w0) w0 w')) := by
  refine c_enter (n := 36) Try.func85 rfl rfl (Nat.le_of_ble_eq_true rfl) rfl ?_
  intro a hE
  have hM := M.start w0
  unfold F_spec_l04Is at hF
  refine c_region ?_
  refine s_box (cs := cat [[(vI p0.Field)], Flat.enc p0.Box, Flat.enc p0.Mix, Flat.enc p0.Places, [(vI p0.Rounds)]]) hE hM goes_none (by decide) rfl rfl ?_; intro b1 w a hM hE
  refine s_assign hE goes_none (by decide) rfl ?_; intro a hE
  refine c_fin ?_
  refine wp_seq ?_
  obtain ⟨j3, hl4, hF5⟩ := bind_some hF
  refine c_join (fun a w => Env 36 a [(1, (ptr b1 0)), (26, (vT j3))] ∧ M (Old w0) w0 w [raw b1 (cat [[(vI p0.Field)], Flat.enc p0.Box, Flat.enc p0.Mix, Flat.enc p0.Places, [(vI p0.Rounds)]])]) ?_ ?_
  · skip
    refine wp_region_lit ?_
    refine s_fieldAddr hE goes_none (by decide) rfl (fd58_0) ?_; intro a hE
    refine s_load (v := (vI p0.Field)) hE goes_none (by decide) rfl ty2 rfl (At.cat (pre := []) (seg := [(vI p0.Field)]) (post := [Flat.enc p0.Box, Flat.enc p0.Mix, Flat.enc p0.Places, [(vI p0.Rounds)]]) (hM.rawAt (pre := [])) cl0) ?_; intro a hE
    obtain ⟨r6, e7, hl4⟩ := bind_some hl4
    refine s_call (vs := [(vI p0.Field)]) hE goes_none (by decide) rfl cb127 (c_spec_l01Field _ p0.Field r6 e7) ?_
    rintro v w a ⟨rfl, hK⟩ hE
    have hM := hM.keep hK
    refine s_not hE goes_none (by decide) rfl ?_; intro a hE
    refine s_move hE goes_none (by decide) rfl ?_; intro a hE
    refine splitB (!r6) (fun hb8 => ?_) (fun hb8 => ?_)
    · have hl4 := ite_t hl4 hb8
      refine s_skip hE rfl (lkb rfl hb8) rfl (by decide) ?_; intro a hE
      refine s_skip hE rfl (lkb rfl hb8) rfl (by decide) ?_; intro a hE
      refine s_skip hE rfl (lkb rfl hb8) rfl (by decide) ?_; intro a hE
      refine s_skip hE rfl (lkb rfl hb8) rfl (by decide) ?_; intro a hE
      refine s_pickT hE goes_none (by decide) (lkb rfl hb8) rfl ?_; intro a hE
      refine s_move hE goes_none (by decide) rfl ?_; intro a hE
      refine s_skip hE rfl rfl rfl (by decide) ?_; intro a hE
      refine s_skip hE rfl rfl rfl (by decide) ?_; intro a hE
      refine s_skip hE rfl rfl rfl (by decide) ?_; intro a hE
      refine s_skip hE rfl rfl rfl (by decide) ?_; intro a hE
      refine s_pickT hE goes_none (by decide) rfl rfl ?_; intro a hE
      refine s_move hE goes_none (by decide) rfl ?_; intro a hE
      refine s_skip hE rfl rfl rfl (by decide) ?_; intro a hE
      refine s_skip hE rfl rfl rfl (by decide) ?_; intro a hE
      refine s_skip hE rfl rfl rfl (by decide) ?_; intro a hE
      refine s_skip hE rfl rfl rfl (by decide) ?_; intro a hE
      refine s_pickT hE goes_none (by decide) rfl rfl ?_; intro a hE
      refine c_fin0 ?_
      have ht9 := Option.some.inj hl4
      subst ht9
      refine c_mid ?_
      exact ⟨hE.sub ⟨rfl, rfl, trivial⟩, hM⟩
    · have hl4 := ite_f hl4 hb8
      refine s_fieldAddr hE (goes_yes hE rfl (lkb rfl hb8)) (by decide) rfl (fd58_1) ?_; intro a hE
      refine s_loadA (cs := Flat.enc p0.Box) hE (goes_yes hE rfl (lkb rfl hb8)) (by decide) rfl ty54 rfl (At.cat (pre := [[(vI p0.Field)]]) (seg := Flat.enc p0.Box) (post := [Flat.enc p0.Mix, Flat.enc p0.Places, [(vI p0.Rounds)]]) (hM.rawAt (pre := [])) (cl1 (n := 1) (m := 0) rfl cl0)) (Flat.len _) ?_; intro a hE
      obtain ⟨r10, e11, hl4⟩ := bind_some hl4
      refine s_call (vs := [(Value.agg (Flat.enc p0.Box).toArray)]) hE (goes_yes hE rfl (lkb rfl hb8)) (by decide) rfl cb144 (c_spec_l02Is _ p0.Box r10 e11) ?_
      rintro v w a ⟨rfl, hK⟩ hE
      have hM := hM.keep hK
      refine s_not hE (goes_yes hE rfl (lkb rfl hb8)) (by decide) rfl ?_; intro a hE
      refine s_pickF hE goes_none (by decide) (lkb rfl hb8) rfl ?_; intro a hE
      refine s_move hE goes_none (by decide) rfl ?_; intro a hE
      refine splitB (!r10) (fun hb12 => ?_) (fun hb12 => ?_)
      · have hl4 := ite_t hl4 hb12
        refine s_skip hE rfl (lkb rfl hb12) rfl (by decide) ?_; intro a hE
        refine s_skip hE rfl (lkb rfl hb12) rfl (by decide) ?_; intro a hE
        refine s_skip hE rfl (lkb rfl hb12) rfl (by decide) ?_; intro a hE
        refine s_skip hE rfl (lkb rfl hb12) rfl (by decide) ?_; intro a hE
        refine s_pickT hE goes_none (by decide) (lkb rfl hb12) rfl ?_; intro a hE
        refine s_move hE goes_none (by decide) rfl ?_; intro a hE
        refine s_skip hE rfl rfl rfl (by decide) ?_; intro a hE
        refine s_skip hE rfl rfl rfl (by decide) ?_; intro a hE
        refine s_skip hE rfl rfl rfl (by decide) ?_; intro a hE
        refine s_skip hE rfl rfl rfl (by decide) ?_; intro a hE
        refine s_pickT hE goes_none (by decide) rfl rfl ?_; intro a hE
        refine c_fin0 ?_
        have ht13 := Option.some.inj hl4
        subst ht13
        refine c_mid ?_
        exact ⟨hE.sub ⟨rfl, rfl, trivial⟩, hM⟩
      · have hl4 := ite_f hl4 hb12
        refine s_fieldAddr hE (goes_yes hE rfl (lkb rfl hb12)) (by decide) rfl (fd58_3) ?_; intro a hE
        refine s_loadA (cs := Flat.enc p0.Places) hE (goes_yes hE rfl (lkb rfl hb12)) (by decide) rfl ty56 rfl (At.cat (pre := [[(vI p0.Field)], Flat.enc p0.Box, Flat.enc p0.Mix]) (seg := Flat.enc p0.Places) (post := [[(vI p0.Rounds)]]) (hM.rawAt (pre := [])) (cl1 (n := 1) (m := 272) rfl (cl1 (n := 256) (m := 16) (Flat.len _) (cl1 (n := 16) (m := 0) (Flat.len _) cl0)))) (Flat.len _) ?_; intro a hE
        obtain ⟨r14, e15, hl4⟩ := bind_some hl4
        refine s_call (vs := [(Value.agg (Flat.enc p0.Places).toArray)]) hE (goes_yes hE rfl (lkb rfl hb12)) (by decide) rfl cb145 (c_spec_l03Perm _ p0.Places r14 e15) ?_
        rintro v w a ⟨rfl, hK⟩ hE
        have hM := hM.keep hK
        refine s_not hE (goes_yes hE rfl (lkb rfl hb12)) (by decide) rfl ?_; intro a hE
        refine s_pickF hE goes_none (by decide) (lkb rfl hb12) rfl ?_; intro a hE
        refine s_move hE goes_none (by decide) rfl ?_; intro a hE
        refine splitB (!r14) (fun hb16 => ?_) (fun hb16 => ?_)
        · have hl4 := ite_t hl4 hb16
          refine s_skip hE rfl (lkb rfl hb16) rfl (by decide) ?_; intro a hE
          refine s_skip hE rfl (lkb rfl hb16) rfl (by decide) ?_; intro a hE
          refine s_skip hE rfl (lkb rfl hb16) rfl (by decide) ?_; intro a hE
          refine s_skip hE rfl (lkb rfl hb16) rfl (by decide) ?_; intro a hE
          refine s_pickT hE goes_none (by decide) (lkb rfl hb16) rfl ?_; intro a hE
          refine c_fin0 ?_
          have ht17 := Option.some.inj hl4
          subst ht17
          refine c_mid ?_
          exact ⟨hE.sub ⟨rfl, rfl, trivial⟩, hM⟩
        · have hl4 := ite_f hl4 hb16
          refine s_fieldAddr hE (goes_yes hE rfl (lkb rfl hb16)) (by decide) rfl (fd58_4) ?_; intro a hE
          refine s_load (v := (vI p0.Rounds)) hE (goes_yes hE rfl (lkb rfl hb16)) (by decide) rfl ty2 rfl (At.cat (pre := [[(vI p0.Field)], Flat.enc p0.Box, Flat.enc p0.Mix, Flat.enc p0.Places]) (seg := [(vI p0.Rounds)]) (post := []) (hM.rawAt (pre := [])) (cl1 (n := 1) (m := 288) rfl (cl1 (n := 256) (m := 32) (Flat.len _) (cl1 (n := 16) (m := 16) (Flat.len _) (cl1 (n := 16) (m := 0) (Flat.len _) cl0))))) ?_; intro a hE
          obtain ⟨r18, e19, hl4⟩ := bind_some hl4
          refine s_call (vs := [(vI p0.Rounds), (vI 1), (vI 20)]) hE (goes_yes hE rfl (lkb rfl hb16)) (by decide) rfl cb86 (c_spec_l01In _ p0.Rounds 1 20 r18 e19) ?_
          rintro v w a ⟨rfl, hK⟩ hE
          have hM := hM.keep hK
          refine s_not hE (goes_yes hE rfl (lkb rfl hb16)) (by decide) rfl ?_; intro a hE
          refine s_pickF hE goes_none (by decide) (lkb rfl hb16) rfl ?_; intro a hE
          refine c_fin0 ?_
          have ht20 := Option.some.inj hl4
          subst ht20
          refine c_mid ?_
          exact ⟨hE.sub ⟨rfl, rfl, trivial⟩, hM⟩
  · skip
    rintro a w ⟨hE, hM⟩
    refine c_cond hE rfl ?_ ?_
    · intro hb21
      have hF5 := ite_t hF5 hb21
      refine c_region ?_
      refine s_assign hE goes_none (by decide) rfl ?_; intro a hE
      refine c_fin ?_
      have hr := Option.some.inj hF5
      subst hr
      have hM := M.fst (l := []) hM
      exact wp_ret (r_then (k_ret1 hE rfl (res_tmp hE rfl) ⟨_, rfl, rfl, hM.kept⟩))
    · intro hb21
      have hF5 := ite_f hF5 hb21
      refine wp_skip ?_
      refine c_nx ?_
      refine c_region ?_
      refine s_fieldAddr hE goes_none (by decide) rfl (fd58_0) ?_; intro a hE
      refine s_load (v := (vI p0.Field)) hE goes_none (by decide) rfl ty2 rfl (At.cat (pre := []) (seg := [(vI p0.Field)]) (post := [Flat.enc p0.Box, Flat.enc p0.Mix, Flat.enc p0.Places, [(vI p0.Rounds)]]) (hM.rawAt (pre := [])) cl0) ?_; intro a hE
      refine s_fieldAddr hE goes_none (by decide) rfl (fd58_2) ?_; intro a hE
      refine s_loadA (cs := Flat.enc p0.Mix) hE goes_none (by decide) rfl ty55 rfl (At.cat (pre := [[(vI p0.Field)], Flat.enc p0.Box]) (seg := Flat.enc p0.Mix) (post := [Flat.enc p0.Places, [(vI p0.Rounds)]]) (hM.rawAt (pre := [])) (cl1 (n := 1) (m := 256) rfl (cl1 (n := 256) (m := 0) (Flat.len _) cl0))) (Flat.len _) ?_; intro a hE
      obtain ⟨r22, e23, hF5⟩ := bind_some hF5
      refine s_call (vs := [(vI p0.Field), (Value.agg (Flat.enc p0.Mix).toArray)]) hE goes_none (by decide) rfl cb146 (c_spec_l03Inverse _ p0.Field p0.Mix r22 e23) ?_
      rintro v w a ⟨rfl, hK⟩ hE
      have hM := hM.keep hK
      refine s_move hE goes_none (by decide) rfl ?_; intro a hE
      refine s_extract hE goes_none (by decide) rfl rfl ?_; intro a hE
      refine s_extract hE goes_none (by decide) rfl rfl ?_; intro a hE
      refine s_alloc hE hM goes_none (by decide) ty55 ?_; intro b24 w a hM hE
      refine s_store (seg := Flat.enc r22.1) (cs' := Flat.enc r22.1) hE hM goes_none rfl rfl rfl ty55 (Flat.len _) (Nat.le_of_eq ((Nat.zero_add _).trans (Eq.trans (Flat.len _) (Eq.symm (Flat.len _))))) (Flat.cell _) (splice_all (Eq.trans (Flat.len _) (Eq.symm (Flat.len _)))) ?_; intro w a hM hE
      refine s_assign hE goes_none (by decide) rfl ?_; intro a hE
      refine c_fin ?_
      refine c_region ?_
      refine s_move hE goes_none (by decide) rfl ?_; intro a hE
      refine s_assign hE goes_none (by decide) rfl ?_; intro a hE
      refine c_fin ?_
      have hr := Option.some.inj hF5
      subst hr
      have hM := M.fst (l := []) hM
      exact wp_ret (k_ret1 hE rfl (res_tmp hE rfl) ⟨_, rfl, rfl, hM.kept⟩)
noncomputable def F_spec_l04Code (p0 : GCipher) (p1 : Int) : Option (Int) :=
  (F_spec_l04Is p0).bind fun (r3 : Bool) => if (!r3) = true then (some 1) else ((F_spec_l01In p1 0 p0.Rounds).bind fun (r6 : Bool) => if (!r6) = true then (some 2) else (some 0))
set_option maxRecDepth 20000 in
set_option maxHeartbeats 400000 in
theorem c_spec_l04Code (w0 : World) (p0 : GCipher) (p1 : Int) (r : Int) (hF : F_spec_l04Code p0 p1 = some r) :
    Calls Try.prog 162 [(Value.agg (Flat.enc p0).toArray), (vI p1)].toArray w0 (fun en w' => ∃ v, en = .returned v ∧ (v = (vI r) ∧ Kept (Old w0) w0 w')) := by
  refine c_enter (n := 15) Try.func162 rfl rfl (Nat.le_of_ble_eq_true rfl) rfl ?_
  intro a hE
  have hM := M.start w0
  unfold F_spec_l04Code at hF
  refine c_region ?_
  refine s_box (cs := cat [[(vI p0.Field)], Flat.enc p0.Box, Flat.enc p0.Mix, Flat.enc p0.Places, [(vI p0.Rounds)]]) hE hM goes_none (by decide) rfl rfl ?_; intro b1 w a hM hE
  refine s_assign hE goes_none (by decide) rfl ?_; intro a hE
  refine c_fin ?_
  refine wp_seq ?_
  refine wp_block ?_
  refine c_region ?_
  refine s_loadA (cs := Flat.enc p0) hE goes_none (by decide) rfl ty58 rfl (hM.rawAt (pre := [])) (cat_len (cl1 (n := 1) (m := 289) rfl (cl1 (n := 256) (m := 33) (Flat.len _) (cl1 (n := 16) (m := 17) (Flat.len _) (cl1 (n := 16) (m := 1) (Flat.len _) (cl1 (n := 1) (m := 0) rfl cl0)))))) ?_; intro a hE
  obtain ⟨r3, e4, hF⟩ := bind_some hF
  refine s_call (vs := [(Value.agg (Flat.enc p0).toArray)]) hE goes_none (by decide) rfl cb85 (c_spec_l04Is _ p0 r3 e4) ?_
  rintro v w a ⟨rfl, hK⟩ hE
  have hM := hM.keep hK
  refine s_not hE goes_none (by decide) rfl ?_; intro a hE
  refine s_assign hE goes_none (by decide) rfl ?_; intro a hE
  refine c_fin ?_
  refine c_cond hE rfl ?_ ?_
  · intro hb5
    have hF := ite_t hF hb5
    refine c_region ?_
    refine s_assign hE goes_none (by decide) rfl ?_; intro a hE
    refine c_fin ?_
    have hr := Option.some.inj hF
    subst hr
    have hM := M.fst (l := []) hM
    exact wp_ret (r_inb (r_then (k_ret1 hE rfl (res_tmp hE rfl) ⟨_, rfl, rfl, hM.kept⟩)))
  · intro hb5
    have hF := ite_f hF hb5
    refine c_region ?_
    refine s_move hE goes_none (by decide) rfl ?_; intro a hE
    refine s_fieldAddr hE goes_none (by decide) rfl (fd58_4) ?_; intro a hE
    refine s_load (v := (vI p0.Rounds)) hE goes_none (by decide) rfl ty2 rfl (At.cat (pre := [[(vI p0.Field)], Flat.enc p0.Box, Flat.enc p0.Mix, Flat.enc p0.Places]) (seg := [(vI p0.Rounds)]) (post := []) (hM.rawAt (pre := [])) (cl1 (n := 1) (m := 288) rfl (cl1 (n := 256) (m := 32) (Flat.len _) (cl1 (n := 16) (m := 16) (Flat.len _) (cl1 (n := 16) (m := 0) (Flat.len _) cl0))))) ?_; intro a hE
    obtain ⟨r6, e7, hF⟩ := bind_some hF
    refine s_call (vs := [(vI p1), (vI 0), (vI p0.Rounds)]) hE goes_none (by decide) rfl cb86 (c_spec_l01In _ p1 0 p0.Rounds r6 e7) ?_
    rintro v w a ⟨rfl, hK⟩ hE
    have hM := hM.keep hK
    refine s_not hE goes_none (by decide) rfl ?_; intro a hE
    refine s_assign hE goes_none (by decide) rfl ?_; intro a hE
    refine c_fin ?_
    refine c_cond hE rfl ?_ ?_
    · intro hb8
      have hF := ite_t hF hb8
      refine c_region ?_
      refine s_assign hE goes_none (by decide) rfl ?_; intro a hE
      refine c_fin ?_
      have hr := Option.some.inj hF
      subst hr
      have hM := M.fst (l := []) hM
      exact wp_ret (r_inb (r_then (k_ret1 hE rfl (res_tmp hE rfl) ⟨_, rfl, rfl, hM.kept⟩)))
    · intro hb8
      have hF := ite_f hF hb8
      refine wp_skip ?_
      refine c_nb ?_
      refine c_nx ?_
      refine c_region ?_
      refine s_assign hE goes_none (by decide) rfl ?_; intro a hE
      refine c_fin ?_
      have hr := Option.some.inj hF
      subst hr
      have hM := M.fst (l := []) hM
      exact wp_ret (k_ret1 hE rfl (res_tmp hE rfl) ⟨_, rfl, rfl, hM.kept⟩)
noncomputable def F_spec_l11Code (p0 : GCipher) (p1 : Int) (p2 : Int) : Option (Int) :=
  (F_spec_l04Code p0 p2).bind fun (r3 : Int) => ((if (r3 != 1) = true then ((F_spec_l01In p1 0 15).bind fun (r12 : Bool) => some (!r12)) else (some false) : Option (Bool)).bind fun (j8 : Bool) => if j8 = true then (some 2) else (some r3) : Option (Int)).bind fun (j5 : Int) => some j5
set_option maxRecDepth 20000 in
set_option maxHeartbeats 400000 in
theorem c_spec_l11Code (w0 : World) (p0 : GCipher) (p1 : Int) (p2 : Int) (r : Int) (hF : F_spec_l11Code p0 p1 p2 = some r) :
    Calls Try.prog 106 [(Value.agg (Flat.enc p0).toArray), (vI p1), (vI p2)].toArray w0 (fun en w' => ∃ v, en = .returned v ∧ (v = (vI r) ∧ Kept (Old w0) w0 w')) := by
  refine c_enter (n := 19) Try.func106 rfl rfl (Nat.le_of_ble_eq_true rfl) rfl ?_
  intro a hE
  have hM := M.start w0
  unfold F_spec_l11Code at hF
  refine c_region ?_
  refine s_box (cs := cat [[(vI p0.Field)], Flat.enc p0.Box, Flat.enc p0.Mix, Flat.enc p0.Places, [(vI p0.Rounds)]]) hE hM goes_none (by decide) rfl rfl ?_; intro b1 w a hM hE
  refine s_assign hE goes_none (by decide) rfl ?_; intro a hE
  refine c_fin ?_
  refine c_region ?_
  refine s_loadA (cs := Flat.enc p0) hE goes_none (by decide) rfl ty58 rfl (hM.rawAt (pre := [])) (cat_len (cl1 (n := 1) (m := 289) rfl (cl1 (n := 256) (m := 33) (Flat.len _) (cl1 (n := 16) (m := 17) (Flat.len _) (cl1 (n := 16) (m := 1) (Flat.len _) (cl1 (n := 1) (m := 0) rfl cl0)))))) ?_; intro a hE
  refine s_move hE goes_none (by decide) rfl ?_; intro a hE
  obtain ⟨r3, e4, hF⟩ := bind_some hF
  refine s_call (vs := [(Value.agg (Flat.enc p0).toArray), (vI p2)]) hE goes_none (by decide) rfl cb162 (c_spec_l04Code _ p0 p2 r3 e4) ?_
  rintro v w a ⟨rfl, hK⟩ hE
  have hM := hM.keep hK
  refine s_assign hE goes_none (by decide) rfl ?_; intro a hE
  refine c_fin ?_
  obtain ⟨j5, hl6, hF7⟩ := bind_some hF
  refine c_join (fun a w => Env 19 a [(7, (vI j5))] ∧ M (Old w0) w0 w []) ?_ ?_
  · skip
    obtain ⟨j8, hl9, hF10⟩ := bind_some hl6
    refine c_join (fun a w => Env 19 a [(7, (vI r3)), (17, (vT j8))] ∧ M (Old w0) w0 w []) ?_ ?_
    · skip
      refine wp_region_lit ?_
      refine s_move hE goes_none (by decide) rfl ?_; intro a hE
      refine s_int hE goes_none (by decide) rfl rfl rfl ?_; intro a hE
      refine s_move hE goes_none (by decide) rfl ?_; intro a hE
      refine splitB (r3 != 1) (fun hb11 => ?_) (fun hb11 => ?_)
      · have hl9 := ite_t hl9 hb11
        refine s_move hE (goes_yes hE rfl (lkb rfl hb11)) (by decide) rfl ?_; intro a hE
        obtain ⟨r12, e13, hl9⟩ := bind_some hl9
        refine s_call (vs := [(vI p1), (vI 0), (vI 15)]) hE (goes_yes hE rfl (lkb rfl hb11)) (by decide) rfl cb86 (c_spec_l01In _ p1 0 15 r12 e13) ?_
        rintro v w a ⟨rfl, hK⟩ hE
        have hM := hM.keep hK
        refine s_not hE (goes_yes hE rfl (lkb rfl hb11)) (by decide) rfl ?_; intro a hE
        refine s_pickT hE goes_none (by decide) (lkb rfl hb11) rfl ?_; intro a hE
        refine c_fin0 ?_
        have ht14 := Option.some.inj hl9
        subst ht14
        refine c_mid ?_
        have hM := M.fst (l := []) hM
        exact ⟨hE.sub ⟨rfl, rfl, trivial⟩, hM⟩
      · have hl9 := ite_f hl9 hb11
        refine s_skip hE rfl (lkb rfl hb11) rfl (by decide) ?_; intro a hE
        refine s_skip hE rfl (lkb rfl hb11) rfl (by decide) ?_; intro a hE
        refine s_skip hE rfl (lkb rfl hb11) rfl (by decide) ?_; intro a hE
        refine s_pickF hE goes_none (by decide) (lkb rfl hb11) rfl ?_; intro a hE
        refine c_fin0 ?_
        have ht15 := Option.some.inj hl9
        subst ht15
        refine c_mid ?_
        have hM := M.fst (l := []) hM
        exact ⟨hE.sub ⟨rfl, rfl, trivial⟩, hM⟩
    · skip
      rintro a w ⟨hE, hM⟩
      refine c_cond hE rfl ?_ ?_
      · intro hb16
        have hF10 := ite_t hF10 hb16
        refine wp_region_lit ?_
        refine s_assign hE goes_none (by decide) rfl ?_; intro a hE
        refine c_fin0 ?_
        have ht17 := Option.some.inj hF10
        subst ht17
        refine c_mid ?_
        exact ⟨hE.sub ⟨rfl, trivial⟩, hM⟩
      · intro hb16
        have hF10 := ite_f hF10 hb16
        refine wp_skip ?_
        have ht18 := Option.some.inj hF10
        subst ht18
        refine c_mid ?_
        exact ⟨hE.sub ⟨rfl, trivial⟩, hM⟩
  · skip
    rintro a w ⟨hE, hM⟩
    refine c_region ?_
    refine s_move hE goes_none (by decide) rfl ?_; intro a hE
    refine s_assign hE goes_none (by decide) rfl ?_; intro a hE
    refine c_fin ?_
    have hr := Option.some.inj hF7
    subst hr
    exact wp_ret (k_ret1 hE rfl (res_tmp hE rfl) ⟨_, rfl, rfl, hM.kept⟩)
noncomputable def L0_spec_l04Next (p0 : (Vector UInt8 256)) (p2 : Int) (s10 : (Vector UInt8 16) × Int) : Option (Fl ((Vector UInt8 16) × Int) (Vector UInt8 16)) :=
  if (decide (s10.2 < 16)) = true then (((vidx s10.1 (Int.tmod (wr (s10.2 + 15)) 16)).bind fun (x19 : UInt8) => (if (s10.2 == 0) = true then (some (x19 ^^^ (byteI p2))) else (some x19) : Option (UInt8)).bind fun (j21 : UInt8) => (vidx s10.1 s10.2).bind fun (x29 : UInt8) => (vidx p0 (bI j21)).bind fun (x32 : UInt8) => (vidx s10.1 s10.2).bind fun (x35 : UInt8) => some (s10.1.setIfInBounds (s10.2).toNat (x29 ^^^ x32)) : Option ((Vector UInt8 16))).bind fun (j15 : (Vector UInt8 16)) => some (Fl.nx (j15, wr (s10.2 + 1)))) else (some (Fl.ex s10.1))
noncomputable def F_spec_l04Next (p0 : (Vector UInt8 256)) (p1 : (Vector UInt8 16)) (p2 : Int) : Option ((Vector UInt8 16)) :=
  (iter (L0_spec_l04Next p0 p2) (p1, 0) : Option ((Vector UInt8 16))).bind fun (j7 : (Vector UInt8 16)) => some j7
set_option maxRecDepth 20000 in
set_option maxHeartbeats 400000 in
theorem c_spec_l04Next (w0 : World) (p0 : (Vector UInt8 256)) (p1 : (Vector UInt8 16)) (p2 : Int) (r : (Vector UInt8 16)) (hF : F_spec_l04Next p0 p1 p2 = some r) :
    Calls Try.prog 195 [(Value.agg (Flat.enc p0).toArray), (Value.agg (Flat.enc p1).toArray), (vI p2)].toArray w0 (fun en w' => ∃ v, en = .returned v ∧ (v = (Value.agg (Flat.enc r).toArray) ∧ Kept (Old w0) w0 w')) := by
  refine c_enter (n := 34) Try.func195 rfl rfl (Nat.le_of_ble_eq_true rfl) rfl ?_
  intro a hE
  have hM := M.start w0
  unfold F_spec_l04Next at hF
  refine c_region ?_
  refine s_box (cs := Flat.enc p0) hE hM goes_none (by decide) rfl rfl ?_; intro b1 w a hM hE
  refine s_box (cs := Flat.enc p1) hE hM goes_none (by decide) rfl rfl ?_; intro b3 w a hM hE
  refine s_alloc hE hM goes_none (by decide) ty67 ?_; intro b5 w a hM hE
  refine c_fin ?_
  refine wp_seq ?_
  refine c_region ?_
  refine s_assign hE goes_none (by decide) rfl ?_; intro a hE
  refine c_fin ?_
  obtain ⟨j7, hl8, hF9⟩ := bind_some hF
  refine c_cut (fun a w => Env 34 a [(4, (ptr b3 0)), (6, (ptr b5 0))] ∧ M (Old w0) w0 w [raw b5 (Flat.enc (Vector.replicate 16 (0 : UInt8))), raw b3 (Flat.enc j7)]) ?_ ?_
  · skip
    refine wp_block ?_
    refine c_loop (fun (s10 : (Vector UInt8 16) × Int) a w => Env 34 a [(2, (vI p2)), (3, (ptr b1 0)), (4, (ptr b3 0)), (6, (ptr b5 0)), (7, (vI s10.2))] ∧ M (Old w0) w0 w [raw b5 (Flat.enc (Vector.replicate 16 (0 : UInt8))), raw b3 (Flat.enc s10.1), raw b1 (Flat.enc p0)]) hl8 ⟨hE.sub ⟨rfl, rfl, rfl, rfl, rfl, trivial⟩, hM⟩ ?_
    rintro s10 a w ⟨hE, hM⟩ o13 hs11 hx12
    unfold L0_spec_l04Next at hs11
    refine wp_seq ?_
    refine c_region ?_
    refine s_move hE goes_none (by decide) rfl ?_; intro a hE
    refine s_int hE goes_none (by decide) rfl rfl rfl ?_; intro a hE
    refine c_fin ?_
    refine c_cond hE rfl ?_ ?_
    · intro hb14
      have hs11 := ite_t hs11 hb14
      refine wp_skip ?_
      refine c_nx ?_
      obtain ⟨j15, hl16, hF17⟩ := bind_some hs11
      refine c_join (fun a w => Env 34 a [(2, (vI p2)), (3, (ptr b1 0)), (4, (ptr b3 0)), (6, (ptr b5 0)), (7, (vI s10.2))] ∧ M (Old w0) w0 w [raw b5 (Flat.enc (Vector.replicate 16 (0 : UInt8))), raw b3 (Flat.enc j15), raw b1 (Flat.enc p0)]) ?_ ?_
      · skip
        refine wp_block ?_
        refine c_region ?_
        refine s_move hE goes_none (by decide) rfl ?_; intro a hE
        refine s_int hE goes_none (by decide) rfl rfl rfl ?_; intro a hE
        refine s_int hE goes_none (by decide) rfl rfl (bI_rem _ _ (by decide)) ?_; intro a hE
        obtain ⟨x19, e20, hl16⟩ := bind_some hl16
        have hi18 := vidx_some e20
        refine s_indexA hE goes_none (by decide) rfl rfl Try.underlying67 ty5 hi18.1 ?_; intro a hE
        refine s_load (v := (vB x19)) hE goes_none (by decide) rfl ty5 rfl (At.vec (hM.rawAt (pre := [_])) hi18.2) ?_; intro a hE
        refine s_assign hE goes_none (by decide) rfl ?_; intro a hE
        refine c_fin ?_
        obtain ⟨j21, hl22, hF23⟩ := bind_some hl16
        refine c_join (fun a w => Env 34 a [(2, (vI p2)), (3, (ptr b1 0)), (4, (ptr b3 0)), (6, (ptr b5 0)), (7, (vI s10.2)), (8, (vB j21))] ∧ M (Old w0) w0 w [raw b5 (Flat.enc (Vector.replicate 16 (0 : UInt8))), raw b3 (Flat.enc s10.1), raw b1 (Flat.enc p0)]) ?_ ?_
        · skip
          refine c_region ?_
          refine s_move hE goes_none (by decide) rfl ?_; intro a hE
          refine s_int hE goes_none (by decide) rfl rfl rfl ?_; intro a hE
          refine c_fin ?_
          refine c_cond hE rfl ?_ ?_
          · intro hb24
            have hl22 := ite_t hl22 hb24
            refine wp_region_lit ?_
            refine s_move hE goes_none (by decide) rfl ?_; intro a hE
            refine s_move hE goes_none (by decide) rfl ?_; intro a hE
            refine s_conv hE goes_none (by decide) rfl Try.underlying2 Try.underlying5 ?_; intro a hE
            rw [byteI_val] at hE
            refine s_int hE goes_none (by decide) rfl rfl (bB_xor x19 (byteI p2)) ?_; intro a hE
            refine s_assign hE goes_none (by decide) rfl ?_; intro a hE
            refine c_fin0 ?_
            have ht25 := Option.some.inj hl22
            subst ht25
            refine c_mid ?_
            exact ⟨hE.sub ⟨rfl, rfl, rfl, rfl, rfl, rfl, trivial⟩, hM⟩
          · intro hb24
            have hl22 := ite_f hl22 hb24
            refine wp_skip ?_
            have ht26 := Option.some.inj hl22
            subst ht26
            refine c_mid ?_
            exact ⟨hE.sub ⟨rfl, rfl, rfl, rfl, rfl, rfl, trivial⟩, hM⟩
        · skip
          rintro a w ⟨hE, hM⟩
          obtain ⟨x29, e30, hF23⟩ := bind_some hF23
          have hi28 := vidx_some e30
          obtain ⟨x32, e33, hF23⟩ := bind_some hF23
          have hi31 := vidx_some e33
          obtain ⟨x35, e36, hF23⟩ := bind_some hF23
          have hi34 := vidx_some e36
          refine c_draw (n := 34) (hd := [_, _, _, _, _, _, _, _, _]) (tl := [_]) hmix rfl rfl [24, 25, 26, 27, 28, 29, 30, 31, 32] (by decide) (fun w => M (Old w0) w0 w [raw b5 (Flat.enc (Vector.replicate 16 (0 : UInt8))), raw b3 (Flat.enc s10.1), raw b1 (Flat.enc p0)]) (fun j => ([fun v _ => v = (vI s10.2), fun v _ => v = (vI s10.2), fun v _ => v = (ptr b3 (0 + (s10.2).toNat * 1)), fun v _ => v = (vB x29), fun v _ => v = (vB j21), fun v _ => v = (ptr b1 (0 + ((bI j21)).toNat * 1)), fun v _ => v = (vB x32), fun v _ => v = (vB (x29 ^^^ x32)), fun v _ => v = (ptr b3 (0 + (s10.2).toNat * 1))] : List (Value → World → Prop)).getD j (fun _ _ => True)) (fun _ _ h hk => h.keep hk) (gup (gupE (gupE (gupE (gupE (gupE (gupE (gupE (gupE (gupE gupN)))))))))) hE hM.drew (steps_of (steps_cons ?_ (steps_cons ?_ (steps_cons ?_ (steps_cons ?_ (steps_cons ?_ (steps_cons ?_ (steps_cons ?_ (steps_cons ?_ (steps_cons ?_ steps_nil)))))))))) ?_
          · intro a w ux27 hE hM hp
            refine s_move hE goes_none (by decide) rfl ?_; intro a hE
            exact ⟨Kept.refl _ _, _, _, rfl, hE, rfl⟩
          · intro a w ux27 hE hM hp
            refine s_move hE goes_none (by decide) rfl ?_; intro a hE
            exact ⟨Kept.refl _ _, _, _, rfl, hE, rfl⟩
          · intro a w ux27 hE hM hp
            have f1 : ux27 1 = (vI s10.2) := hp 0 _ rfl rfl
            refine s_indexA hE goes_none (by decide) rfl (lk rfl f1) Try.underlying67 ty5 hi28.1 ?_; intro a hE
            exact ⟨Kept.refl _ _, _, _, rfl, hE, rfl⟩
          · intro a w ux27 hE hM hp
            have f2 : ux27 2 = (ptr b3 (0 + (s10.2).toNat * 1)) := hp 0 _ rfl rfl
            refine s_load (v := (vB x29)) hE goes_none (by decide) (lk rfl f2) ty5 rfl (At.vec (hM.rawAt (pre := [_])) hi28.2) ?_; intro a hE
            exact ⟨Kept.refl _ _, _, _, rfl, hE, rfl⟩
          · intro a w ux27 hE hM hp
            refine s_move hE goes_none (by decide) rfl ?_; intro a hE
            exact ⟨Kept.refl _ _, _, _, rfl, hE, rfl⟩
          · intro a w ux27 hE hM hp
            have f4 : ux27 4 = (vB j21) := hp 0 _ rfl rfl
            refine s_indexA hE goes_none (by decide) rfl (lk rfl f4) Try.underlying54 ty5 hi31.1 ?_; intro a hE
            exact ⟨Kept.refl _ _, _, _, rfl, hE, rfl⟩
          · intro a w ux27 hE hM hp
            have f5 : ux27 5 = (ptr b1 (0 + ((bI j21)).toNat * 1)) := hp 0 _ rfl rfl
            refine s_load (v := (vB x32)) hE goes_none (by decide) (lk rfl f5) ty5 rfl (At.vec (hM.rawAt (pre := [_, _])) hi31.2) ?_; intro a hE
            exact ⟨Kept.refl _ _, _, _, rfl, hE, rfl⟩
          · intro a w ux27 hE hM hp
            have f3 : ux27 3 = (vB x29) := hp 0 _ rfl rfl
            have f6 : ux27 6 = (vB x32) := hp 1 _ rfl rfl
            refine s_int hE goes_none (by decide) (lk rfl f3) (lk rfl f6) (bB_xor x29 x32) ?_; intro a hE
            exact ⟨Kept.refl _ _, _, _, rfl, hE, rfl⟩
          · intro a w ux27 hE hM hp
            have f0 : ux27 0 = (vI s10.2) := hp 0 _ rfl rfl
            refine s_indexA hE goes_none (by decide) rfl (lk rfl f0) Try.underlying67 ty5 hi34.1 ?_; intro a hE
            exact ⟨Kept.refl _ _, _, _, rfl, hE, rfl⟩
          · intro a w ux27 hE hM hg
            have f0 : ux27 0 = (vI s10.2) := hg 0 (by decide)
            have f1 : ux27 1 = (vI s10.2) := hg 1 (by decide)
            have f2 : ux27 2 = (ptr b3 (0 + (s10.2).toNat * 1)) := hg 2 (by decide)
            have f3 : ux27 3 = (vB x29) := hg 3 (by decide)
            have f4 : ux27 4 = (vB j21) := hg 4 (by decide)
            have f5 : ux27 5 = (ptr b1 (0 + ((bI j21)).toNat * 1)) := hg 5 (by decide)
            have f6 : ux27 6 = (vB x32) := hg 6 (by decide)
            have f7 : ux27 7 = (vB (x29 ^^^ x32)) := hg 7 (by decide)
            have f8 : ux27 8 = (ptr b3 (0 + (s10.2).toNat * 1)) := hg 8 (by decide)
            have hE := hE.sub (e' := [(24, (vI s10.2)), (25, (vI s10.2)), (26, (ptr b3 (0 + (s10.2).toNat * 1))), (27, (vB x29)), (28, (vB j21)), (29, (ptr b1 (0 + ((bI j21)).toNat * 1))), (30, (vB x32)), (31, (vB (x29 ^^^ x32))), (32, (ptr b3 (0 + (s10.2).toNat * 1))), (2, (vI p2)), (3, (ptr b1 0)), (4, (ptr b3 0)), (6, (ptr b5 0)), (7, (vI s10.2)), (8, (vB j21))]) ⟨lk rfl f0, lk rfl f1, lk rfl f2, lk rfl f3, lk rfl f4, lk rfl f5, lk rfl f6, lk rfl f7, lk rfl f8, rfl, rfl, rfl, rfl, rfl, rfl, trivial⟩
            have hM := hM.pull (pre := [_])
            refine s_store (seg := [(vB (x29 ^^^ x32))]) (cs' := Flat.enc (s10.1.setIfInBounds (s10.2).toNat (x29 ^^^ x32))) hE hM goes_none rfl rfl rfl ty5 rfl (fit_vec (v := s10.1) (x := x29 ^^^ x32) hi34.1) (Flat.cell (x29 ^^^ x32 : UInt8)) (splice_vec0 (v := s10.1) (x := x29 ^^^ x32) hi34.1) ?_; intro w a hM hE
            refine c_fin0 ?_
            refine c_nb ?_
            have ht37 := Option.some.inj hF23
            subst ht37
            refine c_mid ?_
            have hM := hM.pull (pre := [_, _])
            have hM := hM.pull (pre := [_])
            have hM := hM.pull (pre := [_, _])
            exact ⟨hE.sub ⟨rfl, rfl, rfl, rfl, rfl, trivial⟩, hM⟩
      · skip
        rintro a w ⟨hE, hM⟩
        refine wp_region_lit ?_
        refine s_move hE goes_none (by decide) rfl ?_; intro a hE
        refine s_int hE goes_none (by decide) rfl rfl rfl ?_; intro a hE
        refine s_assign hE goes_none (by decide) rfl ?_; intro a hE
        refine c_fin0 ?_
        refine c_mid ?_
        exact ⟨_, (Option.some.inj hF17).symm, hE.sub ⟨rfl, rfl, rfl, rfl, rfl, trivial⟩, hM⟩
    · intro hb14
      have hs11 := ite_f hs11 hb14
      refine wp_exit (e_then (e_then (e_eq ?_)))
      have ht38 := hx12 _ (Option.some.inj hs11).symm
      subst ht38
      refine c_mid ?_
      have hM := hM.pull (pre := [_])
      have hM := hM.pull (pre := [_])
      have hM := M.fst (l := [_, _]) hM
      exact ⟨hE.sub ⟨rfl, rfl, trivial⟩, hM⟩
  · skip
    rintro a w ⟨hE, hM⟩
    refine c_nx ?_
    refine c_region ?_
    refine s_loadA (cs := Flat.enc j7) hE goes_none (by decide) rfl ty67 rfl (hM.rawAt (pre := [_])) (Flat.len _) ?_; intro a hE
    refine s_store (seg := Flat.enc j7) (cs' := Flat.enc j7) hE hM goes_none rfl rfl rfl ty67 (Flat.len _) (Nat.le_of_eq ((Nat.zero_add _).trans (Eq.trans (Flat.len _) (Eq.symm (Flat.len _))))) (Flat.cell _) (splice_all (Eq.trans (Flat.len _) (Eq.symm (Flat.len _)))) ?_; intro w a hM hE
    refine c_fin ?_
    have hr := Option.some.inj hF9
    subst hr
    have hq39 : ResIs Try.prog _ _ (.cell 6 67) _ := res_cell hE rfl ty67 rfl (hM.rawAt (pre := [])) (Flat.len _) rfl
    have hM := M.fst (l := []) hM
    exact wp_ret (k_ret1 hE rfl hq39 ⟨_, rfl, rfl, hM.kept⟩)
noncomputable def L0_spec_l04Keys (p0 : GCipher) (p2 : Int) (s12 : (Vector UInt8 16) × (List (Vector UInt8 16)) × Int) : Option (Fl ((Vector UInt8 16) × (List (Vector UInt8 16)) × Int) (List (Vector UInt8 16))) :=
  if (decide (s12.2.2 ≤ p2)) = true then ((F_spec_l04Next p0.Box s12.1 s12.2.2).bind fun (r19 : (Vector UInt8 16)) => (app 16 s12.2.1 ([r19] : List (Vector UInt8 16))).bind fun (l23 : (List (Vector UInt8 16))) => some (Fl.nx (r19, (s12.2.1 ++ ([r19] : List (Vector UInt8 16))), wr (s12.2.2 + 1)))) else (some (Fl.ex s12.2.1))
noncomputable def F_spec_l04Keys (p0 : GCipher) (p1 : (Vector UInt8 16)) (p2 : Int) : Option ((List (Vector UInt8 16))) :=
  (iter (L0_spec_l04Keys p0 p2) (p1, ([p1] : List (Vector UInt8 16)), 1) : Option ((List (Vector UInt8 16)))).bind fun (j7 : (List (Vector UInt8 16))) => some j7
set_option maxRecDepth 20000 in
set_option maxHeartbeats 400000 in
theorem c_spec_l04Keys (w0 : World) (p0 : GCipher) (p1 : (Vector UInt8 16)) (p2 : Int) (r : (List (Vector UInt8 16))) (hF : F_spec_l04Keys p0 p1 p2 = some r) :
    Calls Try.prog 156 [(Value.agg (Flat.enc p0).toArray), (Value.agg (Flat.enc p1).toArray), (vI p2)].toArray w0 (fun en w' => ∃ v, en = .returned v ∧ (∃ (y1 : Value), v = y1 ∧ Fr w0 w' [osl NoB (r : List (Vector UInt8 16)) y1] ∧ Kept (Old w0) w0 w')) := by
  refine c_enter (n := 26) Try.func156 rfl rfl (Nat.le_of_ble_eq_true rfl) rfl ?_
  intro a hE
  have hM := M.start w0
  unfold F_spec_l04Keys at hF
  refine c_region ?_
  refine s_box (cs := cat [[(vI p0.Field)], Flat.enc p0.Box, Flat.enc p0.Mix, Flat.enc p0.Places, [(vI p0.Rounds)]]) hE hM goes_none (by decide) rfl rfl ?_; intro b1 w a hM hE
  refine s_box (cs := Flat.enc p1) hE hM goes_none (by decide) rfl rfl ?_; intro b3 w a hM hE
  refine s_assign hE goes_none (by decide) rfl ?_; intro a hE
  refine c_fin ?_
  refine c_region ?_
  refine s_loadA (cs := Flat.enc p1) hE goes_none (by decide) rfl ty67 rfl (hM.rawAt (pre := [])) (Flat.len _) ?_; intro a hE
  refine s_buildF (xs := [.tmp 9]) (l := ([p1] : List (Vector UInt8 16))) (vs := [(Value.agg (Flat.enc p1).toArray)]) hE hM goes_none (by decide) rfl rfl Try.underlying60 ty67 rfl (by decide) rfl ?_; intro u5 w a hM hE
  refine s_assign hE goes_none (by decide) rfl ?_; intro a hE
  refine c_fin ?_
  refine wp_seq ?_
  refine c_region ?_
  refine s_assign hE goes_none (by decide) rfl ?_; intro a hE
  refine c_fin ?_
  obtain ⟨j7, hl8, hF9⟩ := bind_some hF
  refine c_cut (fun a w => ∃ (u10 : Value), Env 26 a [(7, u10)] ∧ M (Old w0) w0 w [osl NoB (j7 : List (Vector UInt8 16)) u10]) ?_ ?_
  · skip
    refine wp_block ?_
    have hM := hM.pull (pre := [_, _])
    have hM := hM.pull (pre := [_, _])
    refine c_loop (fun (s12 : (Vector UInt8 16) × (List (Vector UInt8 16)) × Int) a w => ∃ (u13 : Value), Env 26 a [(2, (vI p2)), (3, (ptr b1 0)), (4, (ptr b3 0)), (7, u13), (8, (vI s12.2.2))] ∧ M (Old w0) w0 w [raw b3 (Flat.enc s12.1), raw b1 (cat [[(vI p0.Field)], Flat.enc p0.Box, Flat.enc p0.Mix, Flat.enc p0.Places, [(vI p0.Rounds)]]), osl NoB (s12.2.1 : List (Vector UInt8 16)) u13]) hl8 ⟨u5, hE.sub ⟨rfl, rfl, rfl, rfl, rfl, trivial⟩, hM⟩ ?_
    rintro s12 a w ⟨u13, hE, hM⟩ o17 hs15 hx16
    unfold L0_spec_l04Keys at hs15
    refine wp_seq ?_
    refine c_region ?_
    refine s_move hE goes_none (by decide) rfl ?_; intro a hE
    refine s_move hE goes_none (by decide) rfl ?_; intro a hE
    refine s_int hE goes_none (by decide) rfl rfl rfl ?_; intro a hE
    refine c_fin ?_
    refine c_cond hE rfl ?_ ?_
    · intro hb18
      have hs15 := ite_t hs15 hb18
      refine wp_skip ?_
      refine c_nx ?_
      refine wp_seq ?_
      refine wp_block ?_
      refine c_region ?_
      refine s_fieldAddr hE goes_none (by decide) rfl (fd58_1) ?_; intro a hE
      refine s_loadA (cs := Flat.enc p0.Box) hE goes_none (by decide) rfl ty54 rfl (At.cat (pre := [[(vI p0.Field)]]) (seg := Flat.enc p0.Box) (post := [Flat.enc p0.Mix, Flat.enc p0.Places, [(vI p0.Rounds)]]) (hM.rawAt (pre := [_])) (cl1 (n := 1) (m := 0) rfl cl0)) (Flat.len _) ?_; intro a hE
      refine s_loadA (cs := Flat.enc s12.1) hE goes_none (by decide) rfl ty67 rfl (hM.rawAt (pre := [])) (Flat.len _) ?_; intro a hE
      refine s_move hE goes_none (by decide) rfl ?_; intro a hE
      obtain ⟨r19, e20, hs15⟩ := bind_some hs15
      refine s_call (vs := [(Value.agg (Flat.enc p0.Box).toArray), (Value.agg (Flat.enc s12.1).toArray), (vI s12.2.2)]) hE goes_none (by decide) rfl cb195 (c_spec_l04Next _ p0.Box s12.1 s12.2.2 r19 e20) ?_
      rintro v w a ⟨rfl, hK⟩ hE
      have hM := hM.keep hK
      refine s_store (seg := Flat.enc r19) (cs' := Flat.enc r19) hE hM goes_none rfl rfl rfl ty67 (Flat.len _) (Nat.le_of_eq ((Nat.zero_add _).trans (Eq.trans (Flat.len _) (Eq.symm (Flat.len _))))) (Flat.cell _) (splice_all (Eq.trans (Flat.len _) (Eq.symm (Flat.len _)))) ?_; intro w a hM hE
      refine c_fin ?_
      refine wp_region_lit ?_
      refine s_move hE goes_none (by decide) rfl ?_; intro a hE
      refine s_loadA (cs := Flat.enc r19) hE goes_none (by decide) rfl ty67 rfl (hM.rawAt (pre := [])) (Flat.len _) ?_; intro a hE
      refine s_buildF (xs := [.tmp 22]) (l := ([r19] : List (Vector UInt8 16))) (vs := [(Value.agg (Flat.enc r19).toArray)]) hE hM goes_none (by decide) rfl rfl Try.underlying60 ty67 rfl (by decide) rfl ?_; intro u21 w a hM hE
      obtain ⟨l23, e24, hs15⟩ := bind_some hs15
      obtain ⟨e27, rfl⟩ := app_some e24
      have hM := hM.pull (pre := [_, _, _])
      refine s_appendF hE hM goes_none (by decide) rfl rfl (hM.sl (pre := [_]) noB) Try.underlying60 ty67 rfl (by decide) e27 ?_; intro u25 w a hM hE
      refine s_assign hE goes_none (by decide) rfl ?_; intro a hE
      refine c_fin0 ?_
      refine c_nb ?_
      refine c_nx ?_
      refine wp_region_lit ?_
      refine s_move hE goes_none (by decide) rfl ?_; intro a hE
      refine s_int hE goes_none (by decide) rfl rfl rfl ?_; intro a hE
      refine s_assign hE goes_none (by decide) rfl ?_; intro a hE
      refine c_fin0 ?_
      refine c_mid ?_
      have hM := hM.pull (pre := [_, _, _])
      have hM := hM.pull (pre := [_, _, _])
      have hM := M.fst (l := [_, _, _]) hM
      exact ⟨_, (Option.some.inj hs15).symm, u25, hE.sub ⟨rfl, rfl, rfl, rfl, rfl, trivial⟩, hM⟩
    · intro hb18
      have hs15 := ite_f hs15 hb18
      refine wp_exit (e_then (e_then (e_eq ?_)))
      have ht28 := hx16 _ (Option.some.inj hs15).symm
      subst ht28
      refine c_mid ?_
      have hM := hM.pull (pre := [_, _])
      have hM := M.fst (l := [_]) hM
      exact ⟨u13, hE.sub ⟨rfl, trivial⟩, hM⟩
  · skip
    rintro a w ⟨u10, hE, hM⟩
    refine c_nx ?_
    refine c_region ?_
    refine s_move hE goes_none (by decide) rfl ?_; intro a hE
    refine s_assign hE goes_none (by decide) rfl ?_; intro a hE
    refine c_fin ?_
    have hr := Option.some.inj hF9
    subst hr
    exact wp_ret (k_ret1 hE rfl (res_tmp hE rfl) ⟨_, rfl, u10, rfl, hM.outF (locN1 locN0), hM.kept⟩)
noncomputable def L0_spec_l01Xor (p1 : (Vector UInt8 16)) (s10 : (Vector UInt8 16) × Int) : Option (Fl ((Vector UInt8 16) × Int) (Vector UInt8 16)) :=
  if (decide (s10.2 < 16)) = true then ((vidx s10.1 s10.2).bind fun (x17 : UInt8) => (vidx p1 s10.2).bind fun (x20 : UInt8) => (vidx s10.1 s10.2).bind fun (x23 : UInt8) => some (Fl.nx ((s10.1.setIfInBounds (s10.2).toNat (x17 ^^^ x20)), wr (s10.2 + 1)))) else (some (Fl.ex s10.1))
noncomputable def F_spec_l01Xor (p0 : (Vector UInt8 16)) (p1 : (Vector UInt8 16)) : Option ((Vector UInt8 16)) :=
  (iter (L0_spec_l01Xor p1) (p0, 0) : Option ((Vector UInt8 16))).bind fun (j7 : (Vector UInt8 16)) => some j7
set_option maxRecDepth 20000 in
set_option maxHeartbeats 400000 in
theorem c_spec_l01Xor (w0 : World) (p0 : (Vector UInt8 16)) (p1 : (Vector UInt8 16)) (r : (Vector UInt8 16)) (hF : F_spec_l01Xor p0 p1 = some r) :
    Calls Try.prog 108 [(Value.agg (Flat.enc p0).toArray), (Value.agg (Flat.enc p1).toArray)].toArray w0 (fun en w' => ∃ v, en = .returned v ∧ (v = (Value.agg (Flat.enc r).toArray) ∧ Kept (Old w0) w0 w')) := by
  refine c_enter (n := 20) Try.func108 rfl rfl (Nat.le_of_ble_eq_true rfl) rfl ?_
  intro a hE
  have hM := M.start w0
  unfold F_spec_l01Xor at hF
  refine c_region ?_
  refine s_box (cs := Flat.enc p0) hE hM goes_none (by decide) rfl rfl ?_; intro b1 w a hM hE
  refine s_box (cs := Flat.enc p1) hE hM goes_none (by decide) rfl rfl ?_; intro b3 w a hM hE
  refine s_alloc hE hM goes_none (by decide) ty67 ?_; intro b5 w a hM hE
  refine c_fin ?_
  refine wp_seq ?_
  refine c_region ?_
  refine s_assign hE goes_none (by decide) rfl ?_; intro a hE
  refine c_fin ?_
  obtain ⟨j7, hl8, hF9⟩ := bind_some hF
  refine c_cut (fun a w => Env 20 a [(2, (ptr b1 0)), (4, (ptr b5 0))] ∧ M (Old w0) w0 w [raw b5 (Flat.enc (Vector.replicate 16 (0 : UInt8))), raw b1 (Flat.enc j7)]) ?_ ?_
  · skip
    refine wp_block ?_
    refine c_loop (fun (s10 : (Vector UInt8 16) × Int) a w => Env 20 a [(2, (ptr b1 0)), (3, (ptr b3 0)), (4, (ptr b5 0)), (5, (vI s10.2))] ∧ M (Old w0) w0 w [raw b5 (Flat.enc (Vector.replicate 16 (0 : UInt8))), raw b3 (Flat.enc p1), raw b1 (Flat.enc s10.1)]) hl8 ⟨hE.sub ⟨rfl, rfl, rfl, rfl, trivial⟩, hM⟩ ?_
    rintro s10 a w ⟨hE, hM⟩ o13 hs11 hx12
    unfold L0_spec_l01Xor at hs11
    refine wp_seq ?_
    refine c_region ?_
    refine s_move hE goes_none (by decide) rfl ?_; intro a hE
    refine s_int hE goes_none (by decide) rfl rfl rfl ?_; intro a hE
    refine c_fin ?_
    refine c_cond hE rfl ?_ ?_
    · intro hb14
      have hs11 := ite_t hs11 hb14
      refine wp_skip ?_
      refine c_nx ?_
      refine wp_seq ?_
      refine wp_block ?_
      obtain ⟨x17, e18, hs11⟩ := bind_some hs11
      have hi16 := vidx_some e18
      obtain ⟨x20, e21, hs11⟩ := bind_some hs11
      have hi19 := vidx_some e21
      obtain ⟨x23, e24, hs11⟩ := bind_some hs11
      have hi22 := vidx_some e24
      refine c_draw (n := 20) (hd := [_, _, _, _, _, _, _, _, _]) (tl := [_]) hmix rfl rfl [10, 11, 12, 13, 14, 15, 16, 17, 18] (by decide) (fun w => M (Old w0) w0 w [raw b5 (Flat.enc (Vector.replicate 16 (0 : UInt8))), raw b3 (Flat.enc p1), raw b1 (Flat.enc s10.1)]) (fun j => ([fun v _ => v = (vI s10.2), fun v _ => v = (vI s10.2), fun v _ => v = (ptr b1 (0 + (s10.2).toNat * 1)), fun v _ => v = (vB x17), fun v _ => v = (vI s10.2), fun v _ => v = (ptr b3 (0 + (s10.2).toNat * 1)), fun v _ => v = (vB x20), fun v _ => v = (vB (x17 ^^^ x20)), fun v _ => v = (ptr b1 (0 + (s10.2).toNat * 1))] : List (Value → World → Prop)).getD j (fun _ _ => True)) (fun _ _ h hk => h.keep hk) (gup (gupE (gupE (gupE (gupE (gupE (gupE (gupE (gupE (gupE gupN)))))))))) hE hM.drew (steps_of (steps_cons ?_ (steps_cons ?_ (steps_cons ?_ (steps_cons ?_ (steps_cons ?_ (steps_cons ?_ (steps_cons ?_ (steps_cons ?_ (steps_cons ?_ steps_nil)))))))))) ?_
      · intro a w ux15 hE hM hp
        refine s_move hE goes_none (by decide) rfl ?_; intro a hE
        exact ⟨Kept.refl _ _, _, _, rfl, hE, rfl⟩
      · intro a w ux15 hE hM hp
        refine s_move hE goes_none (by decide) rfl ?_; intro a hE
        exact ⟨Kept.refl _ _, _, _, rfl, hE, rfl⟩
      · intro a w ux15 hE hM hp
        have f1 : ux15 1 = (vI s10.2) := hp 0 _ rfl rfl
        refine s_indexA hE goes_none (by decide) rfl (lk rfl f1) Try.underlying67 ty5 hi16.1 ?_; intro a hE
        exact ⟨Kept.refl _ _, _, _, rfl, hE, rfl⟩
      · intro a w ux15 hE hM hp
        have f2 : ux15 2 = (ptr b1 (0 + (s10.2).toNat * 1)) := hp 0 _ rfl rfl
        refine s_load (v := (vB x17)) hE goes_none (by decide) (lk rfl f2) ty5 rfl (At.vec (hM.rawAt (pre := [_, _])) hi16.2) ?_; intro a hE
        exact ⟨Kept.refl _ _, _, _, rfl, hE, rfl⟩
      · intro a w ux15 hE hM hp
        refine s_move hE goes_none (by decide) rfl ?_; intro a hE
        exact ⟨Kept.refl _ _, _, _, rfl, hE, rfl⟩
      · intro a w ux15 hE hM hp
        have f4 : ux15 4 = (vI s10.2) := hp 0 _ rfl rfl
        refine s_indexA hE goes_none (by decide) rfl (lk rfl f4) Try.underlying67 ty5 hi19.1 ?_; intro a hE
        exact ⟨Kept.refl _ _, _, _, rfl, hE, rfl⟩
      · intro a w ux15 hE hM hp
        have f5 : ux15 5 = (ptr b3 (0 + (s10.2).toNat * 1)) := hp 0 _ rfl rfl
        refine s_load (v := (vB x20)) hE goes_none (by decide) (lk rfl f5) ty5 rfl (At.vec (hM.rawAt (pre := [_])) hi19.2) ?_; intro a hE
        exact ⟨Kept.refl _ _, _, _, rfl, hE, rfl⟩
      · intro a w ux15 hE hM hp
        have f3 : ux15 3 = (vB x17) := hp 0 _ rfl rfl
        have f6 : ux15 6 = (vB x20) := hp 1 _ rfl rfl
        refine s_int hE goes_none (by decide) (lk rfl f3) (lk rfl f6) (bB_xor x17 x20) ?_; intro a hE
        exact ⟨Kept.refl _ _, _, _, rfl, hE, rfl⟩
      · intro a w ux15 hE hM hp
        have f0 : ux15 0 = (vI s10.2) := hp 0 _ rfl rfl
        refine s_indexA hE goes_none (by decide) rfl (lk rfl f0) Try.underlying67 ty5 hi22.1 ?_; intro a hE
        exact ⟨Kept.refl _ _, _, _, rfl, hE, rfl⟩
      · intro a w ux15 hE hM hg
        have f0 : ux15 0 = (vI s10.2) := hg 0 (by decide)
        have f1 : ux15 1 = (vI s10.2) := hg 1 (by decide)
        have f2 : ux15 2 = (ptr b1 (0 + (s10.2).toNat * 1)) := hg 2 (by decide)
        have f3 : ux15 3 = (vB x17) := hg 3 (by decide)
        have f4 : ux15 4 = (vI s10.2) := hg 4 (by decide)
        have f5 : ux15 5 = (ptr b3 (0 + (s10.2).toNat * 1)) := hg 5 (by decide)
        have f6 : ux15 6 = (vB x20) := hg 6 (by decide)
        have f7 : ux15 7 = (vB (x17 ^^^ x20)) := hg 7 (by decide)
        have f8 : ux15 8 = (ptr b1 (0 + (s10.2).toNat * 1)) := hg 8 (by decide)
        have hE := hE.sub (e' := [(10, (vI s10.2)), (11, (vI s10.2)), (12, (ptr b1 (0 + (s10.2).toNat * 1))), (13, (vB x17)), (14, (vI s10.2)), (15, (ptr b3 (0 + (s10.2).toNat * 1))), (16, (vB x20)), (17, (vB (x17 ^^^ x20))), (18, (ptr b1 (0 + (s10.2).toNat * 1))), (2, (ptr b1 0)), (3, (ptr b3 0)), (4, (ptr b5 0)), (5, (vI s10.2)), (6, (vI s10.2)), (7, (vT (decide (s10.2 < 16))))]) ⟨lk rfl f0, lk rfl f1, lk rfl f2, lk rfl f3, lk rfl f4, lk rfl f5, lk rfl f6, lk rfl f7, lk rfl f8, rfl, rfl, rfl, rfl, rfl, rfl, trivial⟩
        have hM := hM.pull (pre := [_, _])
        refine s_store (seg := [(vB (x17 ^^^ x20))]) (cs' := Flat.enc (s10.1.setIfInBounds (s10.2).toNat (x17 ^^^ x20))) hE hM goes_none rfl rfl rfl ty5 rfl (fit_vec (v := s10.1) (x := x17 ^^^ x20) hi22.1) (Flat.cell (x17 ^^^ x20 : UInt8)) (splice_vec0 (v := s10.1) (x := x17 ^^^ x20) hi22.1) ?_; intro w a hM hE
        refine c_fin0 ?_
        refine c_nb ?_
        refine c_nx ?_
        refine wp_region_lit ?_
        refine s_move hE goes_none (by decide) rfl ?_; intro a hE
        refine s_int hE goes_none (by decide) rfl rfl rfl ?_; intro a hE
        refine s_assign hE goes_none (by decide) rfl ?_; intro a hE
        refine c_fin0 ?_
        refine c_mid ?_
        have hM := hM.pull (pre := [_, _])
        have hM := hM.pull (pre := [_, _])
        exact ⟨_, (Option.some.inj hs11).symm, hE.sub ⟨rfl, rfl, rfl, rfl, trivial⟩, hM⟩
    · intro hb14
      have hs11 := ite_f hs11 hb14
      refine wp_exit (e_then (e_then (e_eq ?_)))
      have ht25 := hx12 _ (Option.some.inj hs11).symm
      subst ht25
      refine c_mid ?_
      have hM := hM.pull (pre := [_, _])
      have hM := hM.pull (pre := [_])
      have hM := M.fst (l := [_, _]) hM
      exact ⟨hE.sub ⟨rfl, rfl, trivial⟩, hM⟩
  · skip
    rintro a w ⟨hE, hM⟩
    refine c_nx ?_
    refine c_region ?_
    refine s_loadA (cs := Flat.enc j7) hE goes_none (by decide) rfl ty67 rfl (hM.rawAt (pre := [_])) (Flat.len _) ?_; intro a hE
    refine s_store (seg := Flat.enc j7) (cs' := Flat.enc j7) hE hM goes_none rfl rfl rfl ty67 (Flat.len _) (Nat.le_of_eq ((Nat.zero_add _).trans (Eq.trans (Flat.len _) (Eq.symm (Flat.len _))))) (Flat.cell _) (splice_all (Eq.trans (Flat.len _) (Eq.symm (Flat.len _)))) ?_; intro w a hM hE
    refine c_fin ?_
    have hr := Option.some.inj hF9
    subst hr
    have hq26 : ResIs Try.prog _ _ (.cell 4 67) _ := res_cell hE rfl ty67 rfl (hM.rawAt (pre := [])) (Flat.len _) rfl
    have hM := M.fst (l := []) hM
    exact wp_ret (k_ret1 hE rfl hq26 ⟨_, rfl, rfl, hM.kept⟩)
noncomputable def L0_spec_l04Boxes (p0 : (Vector UInt8 256)) (s10 : (Vector UInt8 16) × Int) : Option (Fl ((Vector UInt8 16) × Int) (Vector UInt8 16)) :=
  if (decide (s10.2 < 16)) = true then ((vidx s10.1 s10.2).bind fun (x16 : UInt8) => (vidx p0 (bI x16)).bind fun (x19 : UInt8) => (vidx s10.1 s10.2).bind fun (x22 : UInt8) => some (Fl.nx ((s10.1.setIfInBounds (s10.2).toNat x19), wr (s10.2 + 1)))) else (some (Fl.ex s10.1))
noncomputable def F_spec_l04Boxes (p0 : (Vector UInt8 256)) (p1 : (Vector UInt8 16)) : Option ((Vector UInt8 16)) :=
  (iter (L0_spec_l04Boxes p0) (p1, 0) : Option ((Vector UInt8 16))).bind fun (j7 : (Vector UInt8 16)) => some j7
set_option maxRecDepth 20000 in
set_option maxHeartbeats 400000 in
theorem c_spec_l04Boxes (w0 : World) (p0 : (Vector UInt8 256)) (p1 : (Vector UInt8 16)) (r : (Vector UInt8 16)) (hF : F_spec_l04Boxes p0 p1 = some r) :
    Calls Try.prog 158 [(Value.agg (Flat.enc p0).toArray), (Value.agg (Flat.enc p1).toArray)].toArray w0 (fun en w' => ∃ v, en = .returned v ∧ (v = (Value.agg (Flat.enc r).toArray) ∧ Kept (Old w0) w0 w')) := by
  refine c_enter (n := 18) Try.func158 rfl rfl (Nat.le_of_ble_eq_true rfl) rfl ?_
  intro a hE
  have hM := M.start w0
  unfold F_spec_l04Boxes at hF
  refine c_region ?_
  refine s_box (cs := Flat.enc p0) hE hM goes_none (by decide) rfl rfl ?_; intro b1 w a hM hE
  refine s_box (cs := Flat.enc p1) hE hM goes_none (by decide) rfl rfl ?_; intro b3 w a hM hE
  refine s_alloc hE hM goes_none (by decide) ty67 ?_; intro b5 w a hM hE
  refine c_fin ?_
  refine wp_seq ?_
  refine c_region ?_
  refine s_assign hE goes_none (by decide) rfl ?_; intro a hE
  refine c_fin ?_
  obtain ⟨j7, hl8, hF9⟩ := bind_some hF
  refine c_cut (fun a w => Env 18 a [(3, (ptr b3 0)), (4, (ptr b5 0))] ∧ M (Old w0) w0 w [raw b5 (Flat.enc (Vector.replicate 16 (0 : UInt8))), raw b3 (Flat.enc j7)]) ?_ ?_
  · skip
    refine wp_block ?_
    refine c_loop (fun (s10 : (Vector UInt8 16) × Int) a w => Env 18 a [(2, (ptr b1 0)), (3, (ptr b3 0)), (4, (ptr b5 0)), (5, (vI s10.2))] ∧ M (Old w0) w0 w [raw b5 (Flat.enc (Vector.replicate 16 (0 : UInt8))), raw b3 (Flat.enc s10.1), raw b1 (Flat.enc p0)]) hl8 ⟨hE.sub ⟨rfl, rfl, rfl, rfl, trivial⟩, hM⟩ ?_
    rintro s10 a w ⟨hE, hM⟩ o13 hs11 hx12
    unfold L0_spec_l04Boxes at hs11
    refine wp_seq ?_
    refine c_region ?_
    refine s_move hE goes_none (by decide) rfl ?_; intro a hE
    refine s_int hE goes_none (by decide) rfl rfl rfl ?_; intro a hE
    refine c_fin ?_
    refine c_cond hE rfl ?_ ?_
    · intro hb14
      have hs11 := ite_t hs11 hb14
      refine wp_skip ?_
      refine c_nx ?_
      refine wp_seq ?_
      refine wp_block ?_
      refine wp_region_lit ?_
      refine s_move hE goes_none (by decide) rfl ?_; intro a hE
      refine s_move hE goes_none (by decide) rfl ?_; intro a hE
      obtain ⟨x16, e17, hs11⟩ := bind_some hs11
      have hi15 := vidx_some e17
      refine s_indexA hE goes_none (by decide) rfl rfl Try.underlying67 ty5 hi15.1 ?_; intro a hE
      refine s_load (v := (vB x16)) hE goes_none (by decide) rfl ty5 rfl (At.vec (hM.rawAt (pre := [_])) hi15.2) ?_; intro a hE
      obtain ⟨x19, e20, hs11⟩ := bind_some hs11
      have hi18 := vidx_some e20
      refine s_indexA hE goes_none (by decide) rfl rfl Try.underlying54 ty5 hi18.1 ?_; intro a hE
      refine s_load (v := (vB x19)) hE goes_none (by decide) rfl ty5 rfl (At.vec (hM.rawAt (pre := [_, _])) hi18.2) ?_; intro a hE
      obtain ⟨x22, e23, hs11⟩ := bind_some hs11
      have hi21 := vidx_some e23
      refine s_indexA hE goes_none (by decide) rfl rfl Try.underlying67 ty5 hi21.1 ?_; intro a hE
      have hM := hM.pull (pre := [_])
      refine s_store (seg := [(vB x19)]) (cs' := Flat.enc (s10.1.setIfInBounds (s10.2).toNat x19)) hE hM goes_none rfl rfl rfl ty5 rfl (fit_vec (v := s10.1) (x := x19) hi21.1) (Flat.cell (x19 : UInt8)) (splice_vec0 (v := s10.1) (x := x19) hi21.1) ?_; intro w a hM hE
      refine c_fin0 ?_
      refine c_nb ?_
      refine c_nx ?_
      refine wp_region_lit ?_
      refine s_move hE goes_none (by decide) rfl ?_; intro a hE
      refine s_int hE goes_none (by decide) rfl rfl rfl ?_; intro a hE
      refine s_assign hE goes_none (by decide) rfl ?_; intro a hE
      refine c_fin0 ?_
      refine c_mid ?_
      have hM := hM.pull (pre := [_, _])
      have hM := hM.pull (pre := [_])
      have hM := hM.pull (pre := [_, _])
      exact ⟨_, (Option.some.inj hs11).symm, hE.sub ⟨rfl, rfl, rfl, rfl, trivial⟩, hM⟩
    · intro hb14
      have hs11 := ite_f hs11 hb14
      refine wp_exit (e_then (e_then (e_eq ?_)))
      have ht24 := hx12 _ (Option.some.inj hs11).symm
      subst ht24
      refine c_mid ?_
      have hM := hM.pull (pre := [_])
      have hM := hM.pull (pre := [_])
      have hM := M.fst (l := [_, _]) hM
      exact ⟨hE.sub ⟨rfl, rfl, trivial⟩, hM⟩
  · skip
    rintro a w ⟨hE, hM⟩
    refine c_nx ?_
    refine c_region ?_
    refine s_loadA (cs := Flat.enc j7) hE goes_none (by decide) rfl ty67 rfl (hM.rawAt (pre := [_])) (Flat.len _) ?_; intro a hE
    refine s_store (seg := Flat.enc j7) (cs' := Flat.enc j7) hE hM goes_none rfl rfl rfl ty67 (Flat.len _) (Nat.le_of_eq ((Nat.zero_add _).trans (Eq.trans (Flat.len _) (Eq.symm (Flat.len _))))) (Flat.cell _) (splice_all (Eq.trans (Flat.len _) (Eq.symm (Flat.len _)))) ?_; intro w a hM hE
    refine c_fin ?_
    have hr := Option.some.inj hF9
    subst hr
    have hq25 : ResIs Try.prog _ _ (.cell 4 67) _ := res_cell hE rfl ty67 rfl (hM.rawAt (pre := [])) (Flat.len _) rfl
    have hM := M.fst (l := []) hM
    exact wp_ret (k_ret1 hE rfl hq25 ⟨_, rfl, rfl, hM.kept⟩)
noncomputable def L0_spec_l03Move (p0 : (Vector UInt8 16)) (p1 : (Vector UInt8 16)) (s12 : (Vector UInt8 16) × Int) : Option (Fl ((Vector UInt8 16) × Int) (Vector UInt8 16)) :=
  if (decide (s12.2 < 16)) = true then ((vidx p0 s12.2).bind fun (x18 : UInt8) => (vidx p1 (bI x18)).bind fun (x21 : UInt8) => (vidx s12.1 s12.2).bind fun (x24 : UInt8) => some (Fl.nx ((s12.1.setIfInBounds (s12.2).toNat x21), wr (s12.2 + 1)))) else (some (Fl.ex s12.1))
noncomputable def F_spec_l03Move (p0 : (Vector UInt8 16)) (p1 : (Vector UInt8 16)) : Option ((Vector UInt8 16)) :=
  (iter (L0_spec_l03Move p0 p1) ((Vector.replicate 16 (0 : UInt8)), 0) : Option ((Vector UInt8 16))).bind fun (j9 : (Vector UInt8 16)) => some j9
set_option maxRecDepth 20000 in
set_option maxHeartbeats 400000 in
theorem c_spec_l03Move (w0 : World) (p0 : (Vector UInt8 16)) (p1 : (Vector UInt8 16)) (r : (Vector UInt8 16)) (hF : F_spec_l03Move p0 p1 = some r) :
    Calls Try.prog 157 [(Value.agg (Flat.enc p0).toArray), (Value.agg (Flat.enc p1).toArray)].toArray w0 (fun en w' => ∃ v, en = .returned v ∧ (v = (Value.agg (Flat.enc r).toArray) ∧ Kept (Old w0) w0 w')) := by
  refine c_enter (n := 20) Try.func157 rfl rfl (Nat.le_of_ble_eq_true rfl) rfl ?_
  intro a hE
  have hM := M.start w0
  unfold F_spec_l03Move at hF
  refine c_region ?_
  refine s_box (cs := Flat.enc p0) hE hM goes_none (by decide) rfl rfl ?_; intro b1 w a hM hE
  refine s_box (cs := Flat.enc p1) hE hM goes_none (by decide) rfl rfl ?_; intro b3 w a hM hE
  refine s_alloc hE hM goes_none (by decide) ty67 ?_; intro b5 w a hM hE
  refine c_fin ?_
  refine c_region ?_
  refine s_buildA (parts := []) (vs := []) (cs := Flat.enc (Vector.replicate 16 (0 : UInt8))) hE goes_none (by decide) rfl rfl ty67 rfl ty5 filla_nil ?_; intro a hE
  refine s_alloc hE hM goes_none (by decide) ty67 ?_; intro b7 w a hM hE
  refine s_store (seg := Flat.enc (Vector.replicate 16 (0 : UInt8))) (cs' := Flat.enc (Vector.replicate 16 (0 : UInt8))) hE hM goes_none rfl rfl rfl ty67 (Flat.len _) (Nat.le_of_eq ((Nat.zero_add _).trans (Eq.trans (Flat.len _) (Eq.symm (Flat.len _))))) (Flat.cell _) (splice_all (Eq.trans (Flat.len _) (Eq.symm (Flat.len _)))) ?_; intro w a hM hE
  refine c_fin ?_
  refine wp_seq ?_
  refine c_region ?_
  refine s_assign hE goes_none (by decide) rfl ?_; intro a hE
  refine c_fin ?_
  obtain ⟨j9, hl10, hF11⟩ := bind_some hF
  refine c_cut (fun a w => Env 20 a [(4, (ptr b5 0)), (5, (ptr b7 0))] ∧ M (Old w0) w0 w [raw b7 (Flat.enc j9), raw b5 (Flat.enc (Vector.replicate 16 (0 : UInt8)))]) ?_ ?_
  · skip
    refine wp_block ?_
    refine c_loop (fun (s12 : (Vector UInt8 16) × Int) a w => Env 20 a [(2, (ptr b1 0)), (3, (ptr b3 0)), (4, (ptr b5 0)), (5, (ptr b7 0)), (6, (vI s12.2))] ∧ M (Old w0) w0 w [raw b7 (Flat.enc s12.1), raw b5 (Flat.enc (Vector.replicate 16 (0 : UInt8))), raw b3 (Flat.enc p1), raw b1 (Flat.enc p0)]) hl10 ⟨hE.sub ⟨rfl, rfl, rfl, rfl, rfl, trivial⟩, hM⟩ ?_
    rintro s12 a w ⟨hE, hM⟩ o15 hs13 hx14
    unfold L0_spec_l03Move at hs13
    refine wp_seq ?_
    refine c_region ?_
    refine s_move hE goes_none (by decide) rfl ?_; intro a hE
    refine s_int hE goes_none (by decide) rfl rfl rfl ?_; intro a hE
    refine c_fin ?_
    refine c_cond hE rfl ?_ ?_
    · intro hb16
      have hs13 := ite_t hs13 hb16
      refine wp_skip ?_
      refine c_nx ?_
      refine wp_seq ?_
      refine wp_block ?_
      refine wp_region_lit ?_
      refine s_move hE goes_none (by decide) rfl ?_; intro a hE
      refine s_move hE goes_none (by decide) rfl ?_; intro a hE
      obtain ⟨x18, e19, hs13⟩ := bind_some hs13
      have hi17 := vidx_some e19
      refine s_indexA hE goes_none (by decide) rfl rfl Try.underlying56 ty5 hi17.1 ?_; intro a hE
      refine s_load (v := (vB x18)) hE goes_none (by decide) rfl ty5 rfl (At.vec (hM.rawAt (pre := [_, _, _])) hi17.2) ?_; intro a hE
      obtain ⟨x21, e22, hs13⟩ := bind_some hs13
      have hi20 := vidx_some e22
      refine s_indexA hE goes_none (by decide) rfl rfl Try.underlying67 ty5 hi20.1 ?_; intro a hE
      refine s_load (v := (vB x21)) hE goes_none (by decide) rfl ty5 rfl (At.vec (hM.rawAt (pre := [_, _])) hi20.2) ?_; intro a hE
      obtain ⟨x24, e25, hs13⟩ := bind_some hs13
      have hi23 := vidx_some e25
      refine s_indexA hE goes_none (by decide) rfl rfl Try.underlying67 ty5 hi23.1 ?_; intro a hE
      refine s_store (seg := [(vB x21)]) (cs' := Flat.enc (s12.1.setIfInBounds (s12.2).toNat x21)) hE hM goes_none rfl rfl rfl ty5 rfl (fit_vec (v := s12.1) (x := x21) hi23.1) (Flat.cell (x21 : UInt8)) (splice_vec0 (v := s12.1) (x := x21) hi23.1) ?_; intro w a hM hE
      refine c_fin0 ?_
      refine c_nb ?_
      refine c_nx ?_
      refine wp_region_lit ?_
      refine s_move hE goes_none (by decide) rfl ?_; intro a hE
      refine s_int hE goes_none (by decide) rfl rfl rfl ?_; intro a hE
      refine s_assign hE goes_none (by decide) rfl ?_; intro a hE
      refine c_fin0 ?_
      refine c_mid ?_
      exact ⟨_, (Option.some.inj hs13).symm, hE.sub ⟨rfl, rfl, rfl, rfl, rfl, trivial⟩, hM⟩
    · intro hb16
      have hs13 := ite_f hs13 hb16
      refine wp_exit (e_then (e_then (e_eq ?_)))
      have ht26 := hx14 _ (Option.some.inj hs13).symm
      subst ht26
      refine c_mid ?_
      have hM := hM.pull (pre := [_])
      have hM := hM.pull (pre := [_])
      have hM := M.fst (l := [_, _]) hM
      exact ⟨hE.sub ⟨rfl, rfl, trivial⟩, hM⟩
  · skip
    rintro a w ⟨hE, hM⟩
    refine c_nx ?_
    refine c_region ?_
    refine s_loadA (cs := Flat.enc j9) hE goes_none (by decide) rfl ty67 rfl (hM.rawAt (pre := [])) (Flat.len _) ?_; intro a hE
    have hM := hM.pull (pre := [_])
    refine s_store (seg := Flat.enc j9) (cs' := Flat.enc j9) hE hM goes_none rfl rfl rfl ty67 (Flat.len _) (Nat.le_of_eq ((Nat.zero_add _).trans (Eq.trans (Flat.len _) (Eq.symm (Flat.len _))))) (Flat.cell _) (splice_all (Eq.trans (Flat.len _) (Eq.symm (Flat.len _)))) ?_; intro w a hM hE
    refine c_fin ?_
    have hr := Option.some.inj hF11
    subst hr
    have hq27 : ResIs Try.prog _ _ (.cell 4 67) _ := res_cell hE rfl ty67 rfl (hM.rawAt (pre := [])) (Flat.len _) rfl
    have hM := M.fst (l := []) hM
    exact wp_ret (k_ret1 hE rfl hq27 ⟨_, rfl, rfl, hM.kept⟩)
noncomputable def L2_spec_l03Mix (p0 : Int) (p1 : (Vector (Vector UInt8 4) 4)) (p2 : (Vector UInt8 16)) (s12 : (Vector UInt8 16) × Int) (s20 : (Vector UInt8 16) × Int) (s28 : (Vector UInt8 16) × Int) : Option (Fl ((Vector UInt8 16) × Int) (Vector UInt8 16)) :=
  if (decide (s28.2 < 4)) = true then ((vidx s28.1 (wr ((wr (4 * s12.2)) + s20.2))).bind fun (x35 : UInt8) => (vidx p1 s20.2).bind fun (x38 : (Vector UInt8 4)) => (vidx x38 s28.2).bind fun (x41 : UInt8) => (vidx p2 (wr ((wr (4 * s12.2)) + s28.2))).bind fun (x44 : UInt8) => (F_spec_l01Times p0 x41 x44).bind fun (r46 : UInt8) => (vidx s28.1 (wr ((wr (4 * s12.2)) + s20.2))).bind fun (x49 : UInt8) => some (Fl.nx ((s28.1.setIfInBounds ((wr ((wr (4 * s12.2)) + s20.2))).toNat (x35 ^^^ r46)), wr (s28.2 + 1)))) else (some (Fl.ex s28.1))
noncomputable def L1_spec_l03Mix (p0 : Int) (p1 : (Vector (Vector UInt8 4) 4)) (p2 : (Vector UInt8 16)) (s12 : (Vector UInt8 16) × Int) (s20 : (Vector UInt8 16) × Int) : Option (Fl ((Vector UInt8 16) × Int) (Vector UInt8 16)) :=
  if (decide (s20.2 < 4)) = true then ((iter (L2_spec_l03Mix p0 p1 p2 s12 s20) (s20.1, 0) : Option ((Vector UInt8 16))).bind fun (j25 : (Vector UInt8 16)) => some (Fl.nx (j25, wr (s20.2 + 1)))) else (some (Fl.ex s20.1))
noncomputable def L0_spec_l03Mix (p0 : Int) (p1 : (Vector (Vector UInt8 4) 4)) (p2 : (Vector UInt8 16)) (s12 : (Vector UInt8 16) × Int) : Option (Fl ((Vector UInt8 16) × Int) (Vector UInt8 16)) :=
  if (decide (s12.2 < 4)) = true then ((iter (L1_spec_l03Mix p0 p1 p2 s12) (s12.1, 0) : Option ((Vector UInt8 16))).bind fun (j17 : (Vector UInt8 16)) => some (Fl.nx (j17, wr (s12.2 + 1)))) else (some (Fl.ex s12.1))
noncomputable def F_spec_l03Mix (p0 : Int) (p1 : (Vector (Vector UInt8 4) 4)) (p2 : (Vector UInt8 16)) : Option ((Vector UInt8 16)) :=
  (iter (L0_spec_l03Mix p0 p1 p2) ((Vector.replicate 16 (0 : UInt8)), 0) : Option ((Vector UInt8 16))).bind fun (j9 : (Vector UInt8 16)) => some j9
end Go.Proofs.Ythlmkdjednppkaa
