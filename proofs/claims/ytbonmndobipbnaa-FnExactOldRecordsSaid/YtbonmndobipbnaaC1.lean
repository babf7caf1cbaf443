/- The walk of what the law reaches: contracts of functions. -/
import Derived.Test.YtbonmndobipbnaaLibM
import Derived.Test.YtbonmndobipbnaaProg
set_option linter.unusedVariables false
set_option linter.unusedSimpArgs false
namespace Go.Proofs.Ytbonmndobipbnaa
open Go
structure GRecord where
  Number : Int
  Version : Int
  Nonce : (Vector UInt8 16)
  Label : (List UInt8)
  Body : (List UInt8)
  Tag : (Vector UInt8 32)
  deriving DecidableEq, Inhabited
instance : Dat GRecord := ⟨fun x => Dat.bd (α := Int × Int × (Vector UInt8 16) × (List UInt8) × (List UInt8) × (Vector UInt8 32)) (x.Number, x.Version, x.Nonce, x.Label, x.Body, x.Tag), fun x => Dat.sz (α := Int × Int × (Vector UInt8 16) × (List UInt8) × (List UInt8) × (Vector UInt8 32)) (x.Number, x.Version, x.Nonce, x.Label, x.Body, x.Tag) + 1⟩
instance : Rep GRecord := repIso (α := Int × Int × (Vector UInt8 16) × (List UInt8) × (List UInt8) × (Vector UInt8 32)) (fun x => (x.Number, x.Version, x.Nonce, x.Label, x.Body, x.Tag))
theorem unf_GRecord {S : Nat → Prop} {w : World} {x : GRecord} {cs : List Value} {fp : List Nat} (h : Rep.sat S w x cs fp) : ∃ (u1 : Value) (u2 : Value), ∃ (g1 : List Nat) (g2 : List Nat), cs = cat [Flat.enc x.Number, Flat.enc x.Version, Flat.enc x.Nonce, [u1], [u2], Flat.enc x.Tag] ∧ fp = (g1 ++ g2) ∧ Rep.sat S w x.Label [u1] g1 ∧ Rep.sat S w x.Body [u2] g2 := by
  obtain ⟨c0, d0, f0, q0, rfl, rfl, h0, hr0⟩ := h
  obtain ⟨rfl, rfl⟩ := h0
  obtain ⟨c1, d1, f1, q1, rfl, rfl, h1, hr1⟩ := hr0
  obtain ⟨rfl, rfl⟩ := h1
  obtain ⟨c2, d2, f2, q2, rfl, rfl, h2, hr2⟩ := hr1
  obtain ⟨rfl, rfl⟩ := h2
  obtain ⟨c3, d3, f3, q3, rfl, rfl, h3, hr3⟩ := hr2
  obtain ⟨u1, rfl⟩ := sl_one h3
  obtain ⟨c4, d4, f4, q4, rfl, rfl, h4, hr4⟩ := hr3
  obtain ⟨u2, rfl⟩ := sl_one h4
  obtain ⟨rfl, rfl⟩ := hr4
  exact ⟨u1, u2, _, _, rfl, by simp, h3, h4⟩
theorem unc_GRecord {S : Nat → Prop} {w : World} {x : GRecord} {u1 u2 : Value} {fp : List Nat} (h : Rep.sat S w x (cat [Flat.enc x.Number, Flat.enc x.Version, Flat.enc x.Nonce, [u1], [u2], Flat.enc x.Tag]) fp) : ∃ (g1 : List Nat) (g2 : List Nat), fp = (g1 ++ g2) ∧ Rep.sat S w x.Label [u1] g1 ∧ Rep.sat S w x.Body [u2] g2 := by
  obtain ⟨w1, w2, g1, g2, hc, hf, s1, s2⟩ := unf_GRecord h
  obtain ⟨e1, k1⟩ := cat_inj hc rfl
  obtain ⟨e2, k2⟩ := cat_inj k1 rfl
  obtain ⟨e3, k3⟩ := cat_inj k2 rfl
  obtain ⟨e4, k4⟩ := cat_inj k3 rfl
  obtain ⟨e5, k5⟩ := cat_inj k4 rfl
  obtain rfl := (List.cons.inj e4).1
  obtain rfl := (List.cons.inj e5).1
  exact ⟨g1, g2, hf, s1, s2⟩
theorem un_GRecord {S : Nat → Prop} {w : World} {x : GRecord} {cs : List Value} (h : Rep.sat S w x cs []) : ∃ u1 u2, cs = cat [Flat.enc x.Number, Flat.enc x.Version, Flat.enc x.Nonce, [u1], [u2], Flat.enc x.Tag] ∧ Rep.sat S w x.Label [u1] [] ∧ Rep.sat S w x.Body [u2] [] := by
  obtain ⟨c0, d0, f0, g0, rfl, hf0, h0, hr0⟩ := h
  obtain ⟨rfl, rfl⟩ := List.append_eq_nil_iff.1 hf0.symm
  obtain ⟨rfl, _⟩ := h0
  obtain ⟨c1, d1, f1, g1, rfl, hf1, h1, hr1⟩ := hr0
  obtain ⟨rfl, rfl⟩ := List.append_eq_nil_iff.1 hf1.symm
  obtain ⟨rfl, _⟩ := h1
  obtain ⟨c2, d2, f2, g2, rfl, hf2, h2, hr2⟩ := hr1
  obtain ⟨rfl, rfl⟩ := List.append_eq_nil_iff.1 hf2.symm
  obtain ⟨rfl, _⟩ := h2
  obtain ⟨c3, d3, f3, g3, rfl, hf3, h3, hr3⟩ := hr2
  obtain ⟨rfl, rfl⟩ := List.append_eq_nil_iff.1 hf3.symm
  obtain ⟨u1, rfl⟩ := sl_one h3
  obtain ⟨c4, d4, f4, g4, rfl, hf4, h4, hr4⟩ := hr3
  obtain ⟨rfl, rfl⟩ := List.append_eq_nil_iff.1 hf4.symm
  obtain ⟨u2, rfl⟩ := sl_one h4
  obtain ⟨rfl, _⟩ := hr4
  exact ⟨u1, u2, rfl, h3, h4⟩
theorem pk_GRecord {S : Nat → Prop} {w : World} {x : GRecord} {u1 u2 : Value} {g1 g2 fp : List Nat} (h1 : Rep.sat S w x.Label [u1] g1) (h2 : Rep.sat S w x.Body [u2] g2) (hfp : fp = (g1 ++ g2)) : Rep.sat S w x (cat [Flat.enc x.Number, Flat.enc x.Version, Flat.enc x.Nonce, [u1], [u2], Flat.enc x.Tag]) fp := by
  rw [hfp]
  refine ⟨_, _, [], (g1 ++ g2), rfl, (by simp), ⟨rfl, rfl⟩, ?_⟩
  refine ⟨_, _, [], (g1 ++ g2), rfl, (by simp), ⟨rfl, rfl⟩, ?_⟩
  refine ⟨_, _, [], (g1 ++ g2), rfl, (by simp), ⟨rfl, rfl⟩, ?_⟩
  refine ⟨_, _, g1, g2, rfl, (by simp), h1, ?_⟩
  refine ⟨_, _, g2, [], rfl, (by simp), h2, ?_⟩
  exact ⟨rfl, rfl⟩
theorem zsat_GRecord (w : World) : Rep.sat NoB w (⟨(0 : Int), (0 : Int), (Vector.replicate 16 (0 : UInt8)), ([] : (List UInt8)), ([] : (List UInt8)), (Vector.replicate 32 (0 : UInt8))⟩ : GRecord) (cat [(Flat.enc (0 : Int)), (Flat.enc (0 : Int)), (Flat.enc (Vector.replicate 16 (0 : UInt8))), [.slice none 0 0], [.slice none 0 0], (Flat.enc (Vector.replicate 32 (0 : UInt8)))]) [] := pk_GRecord zsat_nil zsat_nil rfl
structure GEvent where
  Kind : Int
  Number : Int
  Tag : (Vector UInt8 32)
  deriving DecidableEq, Inhabited
instance : Dat GEvent := ⟨fun x => Dat.bd (α := Int × Int × (Vector UInt8 32)) (x.Kind, x.Number, x.Tag), fun x => Dat.sz (α := Int × Int × (Vector UInt8 32)) (x.Kind, x.Number, x.Tag) + 1⟩
instance : Flat GEvent where
  n := 34
  enc x := cat [Flat.enc x.Kind, Flat.enc x.Number, Flat.enc x.Tag]
  len x := cat_len (cl1 (Flat.len _) (cl1 (Flat.len _) (cl1 (Flat.len _) cl0)))
  cell x := cat_cell (cc1 (Flat.cell _) (cc1 (Flat.cell _) (cc1 (Flat.cell _) cc0)))
structure GVault where
  Keys : (List (Vector UInt8 16))
  Next : Int
  Records : (List GRecord)
  Events : (List GEvent)
  Head : (Vector UInt8 32)
  deriving DecidableEq, Inhabited
instance : Dat GVault := ⟨fun x => Dat.bd (α := (List (Vector UInt8 16)) × Int × (List GRecord) × (List GEvent) × (Vector UInt8 32)) (x.Keys, x.Next, x.Records, x.Events, x.Head), fun x => Dat.sz (α := (List (Vector UInt8 16)) × Int × (List GRecord) × (List GEvent) × (Vector UInt8 32)) (x.Keys, x.Next, x.Records, x.Events, x.Head) + 1⟩
instance : Rep GVault := repIso (α := (List (Vector UInt8 16)) × Int × (List GRecord) × (List GEvent) × (Vector UInt8 32)) (fun x => (x.Keys, x.Next, x.Records, x.Events, x.Head))
theorem unf_GVault {S : Nat → Prop} {w : World} {x : GVault} {cs : List Value} {fp : List Nat} (h : Rep.sat S w x cs fp) : ∃ (u1 : Value) (u2 : Value) (u3 : Value), ∃ (g1 : List Nat) (g2 : List Nat) (g3 : List Nat), cs = cat [[u1], Flat.enc x.Next, [u2], [u3], Flat.enc x.Head] ∧ fp = (g1 ++ (g2 ++ g3)) ∧ Rep.sat S w x.Keys [u1] g1 ∧ Rep.sat S w x.Records [u2] g2 ∧ Rep.sat S w x.Events [u3] g3 := by
  obtain ⟨c0, d0, f0, q0, rfl, rfl, h0, hr0⟩ := h
  obtain ⟨u1, rfl⟩ := sl_one h0
  obtain ⟨c1, d1, f1, q1, rfl, rfl, h1, hr1⟩ := hr0
  obtain ⟨rfl, rfl⟩ := h1
  obtain ⟨c2, d2, f2, q2, rfl, rfl, h2, hr2⟩ := hr1
  obtain ⟨u2, rfl⟩ := sl_one h2
  obtain ⟨c3, d3, f3, q3, rfl, rfl, h3, hr3⟩ := hr2
  obtain ⟨u3, rfl⟩ := sl_one h3
  obtain ⟨rfl, rfl⟩ := hr3
  exact ⟨u1, u2, u3, _, _, _, rfl, by simp, h0, h2, h3⟩
theorem unc_GVault {S : Nat → Prop} {w : World} {x : GVault} {u1 u2 u3 : Value} {fp : List Nat} (h : Rep.sat S w x (cat [[u1], Flat.enc x.Next, [u2], [u3], Flat.enc x.Head]) fp) : ∃ (g1 : List Nat) (g2 : List Nat) (g3 : List Nat), fp = (g1 ++ (g2 ++ g3)) ∧ Rep.sat S w x.Keys [u1] g1 ∧ Rep.sat S w x.Records [u2] g2 ∧ Rep.sat S w x.Events [u3] g3 := by
  obtain ⟨w1, w2, w3, g1, g2, g3, hc, hf, s1, s2, s3⟩ := unf_GVault h
  obtain ⟨e1, k1⟩ := cat_inj hc rfl
  obtain ⟨e2, k2⟩ := cat_inj k1 rfl
  obtain ⟨e3, k3⟩ := cat_inj k2 rfl
  obtain ⟨e4, k4⟩ := cat_inj k3 rfl
  obtain rfl := (List.cons.inj e1).1
  obtain rfl := (List.cons.inj e3).1
  obtain rfl := (List.cons.inj e4).1
  exact ⟨g1, g2, g3, hf, s1, s2, s3⟩
theorem un_GVault {S : Nat → Prop} {w : World} {x : GVault} {cs : List Value} (h : Rep.sat S w x cs []) : ∃ u1 u2 u3, cs = cat [[u1], Flat.enc x.Next, [u2], [u3], Flat.enc x.Head] ∧ Rep.sat S w x.Keys [u1] [] ∧ Rep.sat S w x.Records [u2] [] ∧ Rep.sat S w x.Events [u3] [] := by
  obtain ⟨c0, d0, f0, g0, rfl, hf0, h0, hr0⟩ := h
  obtain ⟨rfl, rfl⟩ := List.append_eq_nil_iff.1 hf0.symm
  obtain ⟨u1, rfl⟩ := sl_one h0
  obtain ⟨c1, d1, f1, g1, rfl, hf1, h1, hr1⟩ := hr0
  obtain ⟨rfl, rfl⟩ := List.append_eq_nil_iff.1 hf1.symm
  obtain ⟨rfl, _⟩ := h1
  obtain ⟨c2, d2, f2, g2, rfl, hf2, h2, hr2⟩ := hr1
  obtain ⟨rfl, rfl⟩ := List.append_eq_nil_iff.1 hf2.symm
  obtain ⟨u2, rfl⟩ := sl_one h2
  obtain ⟨c3, d3, f3, g3, rfl, hf3, h3, hr3⟩ := hr2
  obtain ⟨rfl, rfl⟩ := List.append_eq_nil_iff.1 hf3.symm
  obtain ⟨u3, rfl⟩ := sl_one h3
  obtain ⟨rfl, _⟩ := hr3
  exact ⟨u1, u2, u3, rfl, h0, h2, h3⟩
theorem pk_GVault {S : Nat → Prop} {w : World} {x : GVault} {u1 u2 u3 : Value} {g1 g2 g3 fp : List Nat} (h1 : Rep.sat S w x.Keys [u1] g1) (h2 : Rep.sat S w x.Records [u2] g2) (h3 : Rep.sat S w x.Events [u3] g3) (hfp : fp = (g1 ++ (g2 ++ g3))) : Rep.sat S w x (cat [[u1], Flat.enc x.Next, [u2], [u3], Flat.enc x.Head]) fp := by
  rw [hfp]
  refine ⟨_, _, g1, (g2 ++ g3), rfl, (by simp), h1, ?_⟩
  refine ⟨_, _, [], (g2 ++ g3), rfl, (by simp), ⟨rfl, rfl⟩, ?_⟩
  refine ⟨_, _, g2, g3, rfl, (by simp), h2, ?_⟩
  refine ⟨_, _, g3, [], rfl, (by simp), h3, ?_⟩
  exact ⟨rfl, rfl⟩
theorem zsat_GVault (w : World) : Rep.sat NoB w (⟨([] : (List (Vector UInt8 16))), (0 : Int), ([] : (List GRecord)), ([] : (List GEvent)), (Vector.replicate 32 (0 : UInt8))⟩ : GVault) (cat [[.slice none 0 0], (Flat.enc (0 : Int)), [.slice none 0 0], [.slice none 0 0], (Flat.enc (Vector.replicate 32 (0 : UInt8)))]) [] := pk_GVault zsat_nil zsat_nil zsat_nil rfl
theorem ty2 : Ty Try.prog 2 (.int .i64) 1 8 (Flat.enc (0 : Int)) := ⟨Try.underlying2, by kernel_rfl⟩
theorem ty5 : Ty Try.prog 5 (.int .u8) 1 1 (Flat.enc (0 : UInt8)) := ⟨Try.underlying5, by kernel_rfl⟩
theorem ty29 : Ty Try.prog 29 (.slice 5) 1 24 [.slice none 0 0] := ⟨Try.underlying29, by kernel_rfl⟩
theorem ty36 : Ty Try.prog 36 (.slice 103) 1 24 [.slice none 0 0] := ⟨Try.underlying36, by kernel_rfl⟩
theorem ty37 : Ty Try.prog 37 (.slice 140) 1 24 [.slice none 0 0] := ⟨Try.underlying37, by kernel_rfl⟩
theorem ty38 : Ty Try.prog 38 (.slice 145) 1 24 [.slice none 0 0] := ⟨Try.underlying38, by kernel_rfl⟩
theorem ty39 : Ty Try.prog 39 (.array 32 5) 32 32 (Flat.enc (Vector.replicate 32 (0 : UInt8))) := ⟨Try.underlying39, by kernel_rfl⟩
theorem ty41 : Ty Try.prog 41 (.struct [{ name := "Keys", type := 36, offset := 0, embedded := false, tag := "", pkgPath := "", byteOffset := 0 }, { name := "Next", type := 2, offset := 1, embedded := false, tag := "", pkgPath := "", byteOffset := 24 }, { name := "Records", type := 37, offset := 2, embedded := false, tag := "", pkgPath := "", byteOffset := 32 }, { name := "Events", type := 38, offset := 3, embedded := false, tag := "", pkgPath := "", byteOffset := 56 }, { name := "Head", type := 39, offset := 4, embedded := false, tag := "", pkgPath := "", byteOffset := 80 }].toArray) 36 112 (cat [[.slice none 0 0], (Flat.enc (0 : Int)), [.slice none 0 0], [.slice none 0 0], (Flat.enc (Vector.replicate 32 (0 : UInt8)))]) := ⟨Try.underlying41, by kernel_rfl⟩
theorem ty44 : Ty Try.prog 44 (.slice 104) 1 24 [.slice none 0 0] := ⟨Try.underlying44, by kernel_rfl⟩
theorem ty45 : Ty Try.prog 45 (.slice 106) 1 24 [.slice none 0 0] := ⟨Try.underlying45, by kernel_rfl⟩
theorem ty46 : Ty Try.prog 46 (.slice 109) 1 24 [.slice none 0 0] := ⟨Try.underlying46, by kernel_rfl⟩
theorem ty47 : Ty Try.prog 47 (.array 32 5) 32 32 (Flat.enc (Vector.replicate 32 (0 : UInt8))) := ⟨Try.underlying47, by kernel_rfl⟩
theorem ty49 : Ty Try.prog 49 (.struct [{ name := "Keys", type := 44, offset := 0, embedded := false, tag := "", pkgPath := "", byteOffset := 0 }, { name := "Next", type := 2, offset := 1, embedded := false, tag := "", pkgPath := "", byteOffset := 24 }, { name := "Records", type := 45, offset := 2, embedded := false, tag := "", pkgPath := "", byteOffset := 32 }, { name := "Events", type := 46, offset := 3, embedded := false, tag := "", pkgPath := "", byteOffset := 56 }, { name := "Head", type := 47, offset := 4, embedded := false, tag := "", pkgPath := "", byteOffset := 80 }].toArray) 36 112 (cat [[.slice none 0 0], (Flat.enc (0 : Int)), [.slice none 0 0], [.slice none 0 0], (Flat.enc (Vector.replicate 32 (0 : UInt8)))]) := ⟨Try.underlying49, by kernel_rfl⟩
theorem ty103 : Ty Try.prog 103 (.array 16 5) 16 16 (Flat.enc (Vector.replicate 16 (0 : UInt8))) := ⟨Try.underlying103, by kernel_rfl⟩
theorem ty104 : Ty Try.prog 104 (.array 16 5) 16 16 (Flat.enc (Vector.replicate 16 (0 : UInt8))) := ⟨Try.underlying104, by kernel_rfl⟩
theorem ty106 : Ty Try.prog 106 (.struct [{ name := "Number", type := 2, offset := 0, embedded := false, tag := "", pkgPath := "", byteOffset := 0 }, { name := "Version", type := 2, offset := 1, embedded := false, tag := "", pkgPath := "", byteOffset := 8 }, { name := "Nonce", type := 104, offset := 2, embedded := false, tag := "", pkgPath := "", byteOffset := 16 }, { name := "Label", type := 29, offset := 18, embedded := false, tag := "", pkgPath := "", byteOffset := 32 }, { name := "Body", type := 29, offset := 19, embedded := false, tag := "", pkgPath := "", byteOffset := 56 }, { name := "Tag", type := 47, offset := 20, embedded := false, tag := "", pkgPath := "", byteOffset := 80 }].toArray) 52 112 (cat [(Flat.enc (0 : Int)), (Flat.enc (0 : Int)), (Flat.enc (Vector.replicate 16 (0 : UInt8))), [.slice none 0 0], [.slice none 0 0], (Flat.enc (Vector.replicate 32 (0 : UInt8)))]) := ⟨Try.underlying106, by kernel_rfl⟩
theorem ty109 : Ty Try.prog 109 (.struct [{ name := "Kind", type := 2, offset := 0, embedded := false, tag := "", pkgPath := "", byteOffset := 0 }, { name := "Number", type := 2, offset := 1, embedded := false, tag := "", pkgPath := "", byteOffset := 8 }, { name := "Tag", type := 47, offset := 2, embedded := false, tag := "", pkgPath := "", byteOffset := 16 }].toArray) 34 48 (Flat.enc (⟨(0 : Int), (0 : Int), (Vector.replicate 32 (0 : UInt8))⟩ : GEvent)) := ⟨Try.underlying109, by kernel_rfl⟩
theorem ty140 : Ty Try.prog 140 (.struct [{ name := "Number", type := 2, offset := 0, embedded := false, tag := "", pkgPath := "", byteOffset := 0 }, { name := "Version", type := 2, offset := 1, embedded := false, tag := "", pkgPath := "", byteOffset := 8 }, { name := "Nonce", type := 103, offset := 2, embedded := false, tag := "", pkgPath := "", byteOffset := 16 }, { name := "Label", type := 29, offset := 18, embedded := false, tag := "", pkgPath := "", byteOffset := 32 }, { name := "Body", type := 29, offset := 19, embedded := false, tag := "", pkgPath := "", byteOffset := 56 }, { name := "Tag", type := 39, offset := 20, embedded := false, tag := "", pkgPath := "", byteOffset := 80 }].toArray) 52 112 (cat [(Flat.enc (0 : Int)), (Flat.enc (0 : Int)), (Flat.enc (Vector.replicate 16 (0 : UInt8))), [.slice none 0 0], [.slice none 0 0], (Flat.enc (Vector.replicate 32 (0 : UInt8)))]) := ⟨Try.underlying140, by kernel_rfl⟩
theorem ty145 : Ty Try.prog 145 (.struct [{ name := "Kind", type := 2, offset := 0, embedded := false, tag := "", pkgPath := "", byteOffset := 0 }, { name := "Number", type := 2, offset := 1, embedded := false, tag := "", pkgPath := "", byteOffset := 8 }, { name := "Tag", type := 39, offset := 2, embedded := false, tag := "", pkgPath := "", byteOffset := 16 }].toArray) 34 48 (Flat.enc (⟨(0 : Int), (0 : Int), (Vector.replicate 32 (0 : UInt8))⟩ : GEvent)) := ⟨Try.underlying145, by kernel_rfl⟩
theorem fd41_0 : Fd Try.prog 41 0 0 := fd_mk ty41.und rfl rfl ty36 (by decide)
theorem fd41_1 : Fd Try.prog 41 1 1 := fd_mk ty41.und rfl rfl ty2 (by decide)
theorem fd41_2 : Fd Try.prog 41 2 2 := fd_mk ty41.und rfl rfl ty37 (by decide)
theorem fd41_3 : Fd Try.prog 41 3 3 := fd_mk ty41.und rfl rfl ty38 (by decide)
theorem fd41_4 : Fd Try.prog 41 4 4 := fd_mk ty41.und rfl rfl ty39 (by decide)
theorem fd49_0 : Fd Try.prog 49 0 0 := fd_mk ty49.und rfl rfl ty44 (by decide)
theorem fd49_1 : Fd Try.prog 49 1 1 := fd_mk ty49.und rfl rfl ty2 (by decide)
theorem fd49_2 : Fd Try.prog 49 2 2 := fd_mk ty49.und rfl rfl ty45 (by decide)
theorem fd49_3 : Fd Try.prog 49 3 3 := fd_mk ty49.und rfl rfl ty46 (by decide)
theorem fd49_4 : Fd Try.prog 49 4 4 := fd_mk ty49.und rfl rfl ty47 (by decide)
theorem fd106_0 : Fd Try.prog 106 0 0 := fd_mk ty106.und rfl rfl ty2 (by decide)
theorem fd106_1 : Fd Try.prog 106 1 1 := fd_mk ty106.und rfl rfl ty2 (by decide)
theorem fd106_2 : Fd Try.prog 106 2 2 := fd_mk ty106.und rfl rfl ty104 (by decide)
theorem fd106_3 : Fd Try.prog 106 3 18 := fd_mk ty106.und rfl rfl ty29 (by decide)
theorem fd106_4 : Fd Try.prog 106 4 19 := fd_mk ty106.und rfl rfl ty29 (by decide)
theorem fd106_5 : Fd Try.prog 106 5 20 := fd_mk ty106.und rfl rfl ty47 (by decide)
theorem fd109_0 : Fd Try.prog 109 0 0 := fd_mk ty109.und rfl rfl ty2 (by decide)
theorem fd109_1 : Fd Try.prog 109 1 1 := fd_mk ty109.und rfl rfl ty2 (by decide)
theorem fd109_2 : Fd Try.prog 109 2 2 := fd_mk ty109.und rfl rfl ty47 (by decide)
theorem fd140_0 : Fd Try.prog 140 0 0 := fd_mk ty140.und rfl rfl ty2 (by decide)
theorem fd140_1 : Fd Try.prog 140 1 1 := fd_mk ty140.und rfl rfl ty2 (by decide)
theorem fd140_2 : Fd Try.prog 140 2 2 := fd_mk ty140.und rfl rfl ty103 (by decide)
theorem fd140_3 : Fd Try.prog 140 3 18 := fd_mk ty140.und rfl rfl ty29 (by decide)
theorem fd140_4 : Fd Try.prog 140 4 19 := fd_mk ty140.und rfl rfl ty29 (by decide)
theorem fd140_5 : Fd Try.prog 140 5 20 := fd_mk ty140.und rfl rfl ty39 (by decide)
theorem fd145_0 : Fd Try.prog 145 0 0 := fd_mk ty145.und rfl rfl ty2 (by decide)
theorem fd145_1 : Fd Try.prog 145 1 1 := fd_mk ty145.und rfl rfl ty2 (by decide)
theorem fd145_2 : Fd Try.prog 145 2 2 := fd_mk ty145.und rfl rfl ty39 (by decide)
theorem hmix : Try.prog.follows .mixedOrders = true := by kernel_rfl
theorem cb19 : Callable Try.prog 19 := ⟨_, _, Try.func19, by decide, rfl⟩
theorem cb21 : Callable Try.prog 21 := ⟨_, _, Try.func21, by decide, rfl⟩
theorem cb22 : Callable Try.prog 22 := ⟨_, _, Try.func22, by decide, rfl⟩
theorem cb24 : Callable Try.prog 24 := ⟨_, _, Try.func24, by decide, rfl⟩
theorem cb26 : Callable Try.prog 26 := ⟨_, _, Try.func26, by decide, rfl⟩
theorem cb27 : Callable Try.prog 27 := ⟨_, _, Try.func27, by decide, rfl⟩
theorem cb28 : Callable Try.prog 28 := ⟨_, _, Try.func28, by decide, rfl⟩
theorem cb41 : Callable Try.prog 41 := ⟨_, _, Try.func41, by decide, rfl⟩
theorem cb42 : Callable Try.prog 42 := ⟨_, _, Try.func42, by decide, rfl⟩
theorem cb43 : Callable Try.prog 43 := ⟨_, _, Try.func43, by decide, rfl⟩
theorem cb44 : Callable Try.prog 44 := ⟨_, _, Try.func44, by decide, rfl⟩
theorem cb45 : Callable Try.prog 45 := ⟨_, _, Try.func45, by decide, rfl⟩
theorem cb46 : Callable Try.prog 46 := ⟨_, _, Try.func46, by decide, rfl⟩
theorem cb56 : Callable Try.prog 56 := ⟨_, _, Try.func56, by decide, rfl⟩
theorem cb73 : Callable Try.prog 73 := ⟨_, _, Try.func73, by decide, rfl⟩
theorem cb74 : Callable Try.prog 74 := ⟨_, _, Try.func74, by decide, rfl⟩
theorem cb75 : Callable Try.prog 75 := ⟨_, _, Try.func75, by decide, rfl⟩
theorem cb76 : Callable Try.prog 76 := ⟨_, _, Try.func76, by decide, rfl⟩
theorem cb77 : Callable Try.prog 77 := ⟨_, _, Try.func77, by decide, rfl⟩
theorem cb78 : Callable Try.prog 78 := ⟨_, _, Try.func78, by decide, rfl⟩
theorem cb79 : Callable Try.prog 79 := ⟨_, _, Try.func79, by decide, rfl⟩
theorem cb80 : Callable Try.prog 80 := ⟨_, _, Try.func80, by decide, rfl⟩
theorem cb81 : Callable Try.prog 81 := ⟨_, _, Try.func81, by decide, rfl⟩
theorem cb82 : Callable Try.prog 82 := ⟨_, _, Try.func82, by decide, rfl⟩
theorem cb83 : Callable Try.prog 83 := ⟨_, _, Try.func83, by decide, rfl⟩
theorem cb84 : Callable Try.prog 84 := ⟨_, _, Try.func84, by decide, rfl⟩
theorem cb85 : Callable Try.prog 85 := ⟨_, _, Try.func85, by decide, rfl⟩
theorem cb86 : Callable Try.prog 86 := ⟨_, _, Try.func86, by decide, rfl⟩
theorem cb87 : Callable Try.prog 87 := ⟨_, _, Try.func87, by decide, rfl⟩
theorem cb88 : Callable Try.prog 88 := ⟨_, _, Try.func88, by decide, rfl⟩
theorem cb89 : Callable Try.prog 89 := ⟨_, _, Try.func89, by decide, rfl⟩
theorem cb103 : Callable Try.prog 103 := ⟨_, _, Try.func103, by decide, rfl⟩
theorem cb104 : Callable Try.prog 104 := ⟨_, _, Try.func104, by decide, rfl⟩
theorem cb105 : Callable Try.prog 105 := ⟨_, _, Try.func105, by decide, rfl⟩
theorem cb106 : Callable Try.prog 106 := ⟨_, _, Try.func106, by decide, rfl⟩
theorem cb107 : Callable Try.prog 107 := ⟨_, _, Try.func107, by decide, rfl⟩
theorem cb118 : Callable Try.prog 118 := ⟨_, _, Try.func118, by decide, rfl⟩
theorem cb125 : Callable Try.prog 125 := ⟨_, _, Try.func125, by decide, rfl⟩
theorem cb126 : Callable Try.prog 126 := ⟨_, _, Try.func126, by decide, rfl⟩
theorem cb127 : Callable Try.prog 127 := ⟨_, _, Try.func127, by decide, rfl⟩
theorem cb128 : Callable Try.prog 128 := ⟨_, _, Try.func128, by decide, rfl⟩
theorem cb129 : Callable Try.prog 129 := ⟨_, _, Try.func129, by decide, rfl⟩
theorem cb130 : Callable Try.prog 130 := ⟨_, _, Try.func130, by decide, rfl⟩
theorem cb131 : Callable Try.prog 131 := ⟨_, _, Try.func131, by decide, rfl⟩
theorem cb132 : Callable Try.prog 132 := ⟨_, _, Try.func132, by decide, rfl⟩
theorem cb133 : Callable Try.prog 133 := ⟨_, _, Try.func133, by decide, rfl⟩
theorem cb134 : Callable Try.prog 134 := ⟨_, _, Try.func134, by decide, rfl⟩
noncomputable def F_laws_szBlockS (p0 : (List (Vector UInt8 16))) (p1 : Int) : Option (Int) :=
  if (decide ((wr (p1 - (p0.length : Int))) < 0)) = true then (some (-1)) else (some (wr (p1 - (p0.length : Int))))
set_option maxRecDepth 20000 in
set_option maxHeartbeats 400000 in
theorem c_laws_szBlockS (w0 : World) (p0 : (List (Vector UInt8 16))) (v0_1 : Value) (hv0_1 : Ro w0 p0 [v0_1]) (p1 : Int) (r : Int) (hF : F_laws_szBlockS p0 p1 = some r) :
    Calls Try.prog 73 [v0_1, (vI p1)].toArray w0 (fun en w' => ∃ v, en = .returned v ∧ (v = (vI r) ∧ Kept (Old w0) w0 w')) := by
  refine c_enter (n := 12) Try.func73 rfl rfl (Nat.le_of_ble_eq_true rfl) rfl ?_
  intro a hE
  have hM := M.start w0
  unfold F_laws_szBlockS at hF
  refine c_region ?_
  refine s_assign hE goes_none (by decide) rfl ?_; intro a hE
  refine c_fin ?_
  refine c_region ?_
  refine s_move hE goes_none (by decide) rfl ?_; intro a hE
  refine s_move hE goes_none (by decide) rfl ?_; intro a hE
  refine s_len hE goes_none (by decide) rfl Try.underlying36 (hM.rd hv0_1) ?_; intro a hE
  refine s_int hE goes_none (by decide) rfl rfl rfl ?_; intro a hE
  refine s_assign hE goes_none (by decide) rfl ?_; intro a hE
  refine c_fin ?_
  refine wp_seq ?_
  refine c_region ?_
  refine s_move hE goes_none (by decide) rfl ?_; intro a hE
  refine s_int hE goes_none (by decide) rfl rfl rfl ?_; intro a hE
  refine c_fin ?_
  refine c_cond hE rfl ?_ ?_
  · intro hb1
    have hF := ite_t hF hb1
    refine c_region ?_
    refine s_assign hE goes_none (by decide) rfl ?_; intro a hE
    refine c_fin ?_
    have hr := Option.some.inj hF
    subst hr
    exact wp_ret (r_then (k_ret1 hE rfl (res_tmp hE rfl) ⟨_, rfl, rfl, hM.kept⟩))
  · intro hb1
    have hF := ite_f hF hb1
    refine wp_skip ?_
    refine c_nx ?_
    refine c_region ?_
    refine s_move hE goes_none (by decide) rfl ?_; intro a hE
    refine s_assign hE goes_none (by decide) rfl ?_; intro a hE
    refine c_fin ?_
    have hr := Option.some.inj hF
    subst hr
    exact wp_ret (k_ret1 hE rfl (res_tmp hE rfl) ⟨_, rfl, rfl, hM.kept⟩)
noncomputable def F_laws_szByteS (p0 : (List UInt8)) (p1 : Int) : Option (Int) :=
  if (decide ((wr (p1 - (p0.length : Int))) < 0)) = true then (some (-1)) else (some (wr (p1 - (p0.length : Int))))
set_option maxRecDepth 20000 in
set_option maxHeartbeats 400000 in
theorem c_laws_szByteS (w0 : World) (p0 : (List UInt8)) (v0_1 : Value) (hv0_1 : Ro w0 p0 [v0_1]) (p1 : Int) (r : Int) (hF : F_laws_szByteS p0 p1 = some r) :
    Calls Try.prog 89 [v0_1, (vI p1)].toArray w0 (fun en w' => ∃ v, en = .returned v ∧ (v = (vI r) ∧ Kept (Old w0) w0 w')) := by
  refine c_enter (n := 12) Try.func89 rfl rfl (Nat.le_of_ble_eq_true rfl) rfl ?_
  intro a hE
  have hM := M.start w0
  unfold F_laws_szByteS at hF
  refine c_region ?_
  refine s_assign hE goes_none (by decide) rfl ?_; intro a hE
  refine c_fin ?_
  refine c_region ?_
  refine s_move hE goes_none (by decide) rfl ?_; intro a hE
  refine s_move hE goes_none (by decide) rfl ?_; intro a hE
  refine s_len hE goes_none (by decide) rfl Try.underlying29 (hM.rd hv0_1) ?_; intro a hE
  refine s_int hE goes_none (by decide) rfl rfl rfl ?_; intro a hE
  refine s_assign hE goes_none (by decide) rfl ?_; intro a hE
  refine c_fin ?_
  refine wp_seq ?_
  refine c_region ?_
  refine s_move hE goes_none (by decide) rfl ?_; intro a hE
  refine s_int hE goes_none (by decide) rfl rfl rfl ?_; intro a hE
  refine c_fin ?_
  refine c_cond hE rfl ?_ ?_
  · intro hb1
    have hF := ite_t hF hb1
    refine c_region ?_
    refine s_assign hE goes_none (by decide) rfl ?_; intro a hE
    refine c_fin ?_
    have hr := Option.some.inj hF
    subst hr
    exact wp_ret (r_then (k_ret1 hE rfl (res_tmp hE rfl) ⟨_, rfl, rfl, hM.kept⟩))
  · intro hb1
    have hF := ite_f hF hb1
    refine wp_skip ?_
    refine c_nx ?_
    refine c_region ?_
    refine s_move hE goes_none (by decide) rfl ?_; intro a hE
    refine s_assign hE goes_none (by decide) rfl ?_; intro a hE
    refine c_fin ?_
    have hr := Option.some.inj hF
    subst hr
    exact wp_ret (k_ret1 hE rfl (res_tmp hE rfl) ⟨_, rfl, rfl, hM.kept⟩)
noncomputable def F_laws_szRecord (p0 : GRecord) (p1 : Int) : Option (Int) :=
  (F_laws_szByteS p0.Label p1).bind fun (r3 : Int) => if (decide (r3 < 0)) = true then (some (-1)) else ((F_laws_szByteS p0.Body r3).bind fun (r6 : Int) => if (decide (r6 < 0)) = true then (some (-1)) else (some r6))
set_option maxRecDepth 20000 in
set_option maxHeartbeats 400000 in
theorem c_laws_szRecord (w0 : World) (p0 : GRecord) (v0_1 : Value) (hv0_1 : Ro w0 p0.Label [v0_1]) (v0_2 : Value) (hv0_2 : Ro w0 p0.Body [v0_2]) (p1 : Int) (r : Int) (hF : F_laws_szRecord p0 p1 = some r) :
    Calls Try.prog 125 [(Value.agg (cat [[(vI p0.Number)], [(vI p0.Version)], Flat.enc p0.Nonce, [v0_1], [v0_2], Flat.enc p0.Tag]).toArray), (vI p1)].toArray w0 (fun en w' => ∃ v, en = .returned v ∧ (v = (vI r) ∧ Kept (Old w0) w0 w')) := by
  refine c_enter (n := 18) Try.func125 rfl rfl (Nat.le_of_ble_eq_true rfl) rfl ?_
  intro a hE
  have hM := M.start w0
  unfold F_laws_szRecord at hF
  refine c_region ?_
  refine s_box (cs := cat [[(vI p0.Number)], [(vI p0.Version)], Flat.enc p0.Nonce, [v0_1], [v0_2], Flat.enc p0.Tag]) hE hM goes_none (by decide) rfl rfl ?_; intro b1 w a hM hE
  refine s_assign hE goes_none (by decide) rfl ?_; intro a hE
  refine c_fin ?_
  refine c_region ?_
  refine s_fieldAddr hE goes_none (by decide) rfl (fd140_3) ?_; intro a hE
  refine s_load (v := v0_1) hE goes_none (by decide) rfl ty29 rfl (At.cat (pre := [[(vI p0.Number)], [(vI p0.Version)], Flat.enc p0.Nonce]) (seg := [v0_1]) (post := [[v0_2], Flat.enc p0.Tag]) (hM.rawAt (pre := [])) (cl1 (n := 1) (m := 17) rfl (cl1 (n := 1) (m := 16) rfl (cl1 (n := 16) (m := 0) (Flat.len _) cl0)))) ?_; intro a hE
  refine s_move hE goes_none (by decide) rfl ?_; intro a hE
  obtain ⟨r3, e4, hF⟩ := bind_some hF
  refine s_call (vs := [v0_1, (vI p1)]) hE goes_none (by decide) rfl cb89 (c_laws_szByteS _ p0.Label v0_1 (hM.rdo hv0_1) p1 r3 e4) ?_
  rintro v w a ⟨rfl, hK⟩ hE
  have hM := hM.keep hK
  refine s_assign hE goes_none (by decide) rfl ?_; intro a hE
  refine c_fin ?_
  refine wp_seq ?_
  refine c_region ?_
  refine s_move hE goes_none (by decide) rfl ?_; intro a hE
  refine s_int hE goes_none (by decide) rfl rfl rfl ?_; intro a hE
  refine c_fin ?_
  refine c_cond hE rfl ?_ ?_
  · intro hb5
    have hF := ite_t hF hb5
    refine c_region ?_
    refine s_assign hE goes_none (by decide) rfl ?_; intro a hE
    refine c_fin ?_
    have hr := Option.some.inj hF
    subst hr
    have hM := M.fst (l := []) hM
    exact wp_ret (r_then (k_ret1 hE rfl (res_tmp hE rfl) ⟨_, rfl, rfl, hM.kept⟩))
  · intro hb5
    have hF := ite_f hF hb5
    refine wp_skip ?_
    refine c_nx ?_
    refine c_region ?_
    refine s_fieldAddr hE goes_none (by decide) rfl (fd140_4) ?_; intro a hE
    refine s_load (v := v0_2) hE goes_none (by decide) rfl ty29 rfl (At.cat (pre := [[(vI p0.Number)], [(vI p0.Version)], Flat.enc p0.Nonce, [v0_1]]) (seg := [v0_2]) (post := [Flat.enc p0.Tag]) (hM.rawAt (pre := [])) (cl1 (n := 1) (m := 18) rfl (cl1 (n := 1) (m := 17) rfl (cl1 (n := 16) (m := 1) (Flat.len _) (cl1 (n := 1) (m := 0) rfl cl0))))) ?_; intro a hE
    refine s_move hE goes_none (by decide) rfl ?_; intro a hE
    obtain ⟨r6, e7, hF⟩ := bind_some hF
    refine s_call (vs := [v0_2, (vI r3)]) hE goes_none (by decide) rfl cb89 (c_laws_szByteS _ p0.Body v0_2 (hM.rdo hv0_2) r3 r6 e7) ?_
    rintro v w a ⟨rfl, hK⟩ hE
    have hM := hM.keep hK
    refine s_assign hE goes_none (by decide) rfl ?_; intro a hE
    refine c_fin ?_
    refine wp_seq ?_
    refine c_region ?_
    refine s_move hE goes_none (by decide) rfl ?_; intro a hE
    refine s_int hE goes_none (by decide) rfl rfl rfl ?_; intro a hE
    refine c_fin ?_
    refine c_cond hE rfl ?_ ?_
    · intro hb8
      have hF := ite_t hF hb8
      refine c_region ?_
      refine s_assign hE goes_none (by decide) rfl ?_; intro a hE
      refine c_fin ?_
      have hr := Option.some.inj hF
      subst hr
      have hM := M.fst (l := []) hM
      exact wp_ret (r_then (k_ret1 hE rfl (res_tmp hE rfl) ⟨_, rfl, rfl, hM.kept⟩))
    · intro hb8
      have hF := ite_f hF hb8
      refine wp_skip ?_
      refine c_nx ?_
      refine c_region ?_
      refine s_move hE goes_none (by decide) rfl ?_; intro a hE
      refine s_assign hE goes_none (by decide) rfl ?_; intro a hE
      refine c_fin ?_
      have hr := Option.some.inj hF
      subst hr
      have hM := M.fst (l := []) hM
      exact wp_ret (k_ret1 hE rfl (res_tmp hE rfl) ⟨_, rfl, rfl, hM.kept⟩)
noncomputable def L0_laws_szRecordS (p0 : (List GRecord)) (s6 : Int × Int) : Option (Fl (Int × Int) (Fl Int Int)) :=
  if (decide (s6.2 < (p0.length : Int))) = true then ((idx p0 s6.2).bind fun (x11 : GRecord) => (F_laws_szRecord x11 s6.1).bind fun (r21 : Int) => if (decide (r21 < 0)) = true then (some (Fl.ex (Fl.ex (-1)))) else (some (Fl.nx (r21, wr (s6.2 + 1))))) else (some (Fl.ex (Fl.nx s6.1)))
noncomputable def F_laws_szRecordS (p0 : (List GRecord)) (p1 : Int) : Option (Int) :=
  if (decide ((wr (p1 - (p0.length : Int))) < 0)) = true then (some (-1)) else ((iter (L0_laws_szRecordS p0) (wr (p1 - (p0.length : Int)), 0) : Option (Fl Int Int)).bind fun (j2 : Fl Int Int) => j2.el (fun (s5 : Int) => some s5) (fun r => some r))
set_option maxRecDepth 20000 in
set_option maxHeartbeats 400000 in
theorem c_laws_szRecordS (w0 : World) (p0 : (List GRecord)) (v0_1 : Value) (hv0_1 : Ro w0 p0 [v0_1]) (p1 : Int) (r : Int) (hF : F_laws_szRecordS p0 p1 = some r) :
    Calls Try.prog 74 [v0_1, (vI p1)].toArray w0 (fun en w' => ∃ v, en = .returned v ∧ (v = (vI r) ∧ Kept (Old w0) w0 w')) := by
  refine c_enter (n := 27) Try.func74 rfl rfl (Nat.le_of_ble_eq_true rfl) rfl ?_
  intro a hE
  have hM := M.start w0
  unfold F_laws_szRecordS at hF
  refine c_region ?_
  refine s_assign hE goes_none (by decide) rfl ?_; intro a hE
  refine c_fin ?_
  refine c_region ?_
  refine s_move hE goes_none (by decide) rfl ?_; intro a hE
  refine s_move hE goes_none (by decide) rfl ?_; intro a hE
  refine s_len hE goes_none (by decide) rfl Try.underlying37 (hM.rd hv0_1) ?_; intro a hE
  refine s_int hE goes_none (by decide) rfl rfl rfl ?_; intro a hE
  refine s_assign hE goes_none (by decide) rfl ?_; intro a hE
  refine c_fin ?_
  refine wp_seq ?_
  refine c_region ?_
  refine s_move hE goes_none (by decide) rfl ?_; intro a hE
  refine s_int hE goes_none (by decide) rfl rfl rfl ?_; intro a hE
  refine c_fin ?_
  refine c_cond hE rfl ?_ ?_
  · intro hb1
    have hF := ite_t hF hb1
    refine c_region ?_
    refine s_assign hE goes_none (by decide) rfl ?_; intro a hE
    refine c_fin ?_
    have hr := Option.some.inj hF
    subst hr
    exact wp_ret (r_then (k_ret1 hE rfl (res_tmp hE rfl) ⟨_, rfl, rfl, hM.kept⟩))
  · intro hb1
    have hF := ite_f hF hb1
    refine wp_skip ?_
    refine c_nx ?_
    refine wp_seq ?_
    refine c_region ?_
    refine s_assign hE goes_none (by decide) rfl ?_; intro a hE
    refine c_fin ?_
    obtain ⟨j2, hl3, hF4⟩ := bind_some hF
    refine c_cut (fun a w => ∃ s5 : Int, j2 = Fl.nx s5 ∧ Env 27 a [(1, (vI s5))] ∧ M (Old w0) w0 w []) ?_ ?_
    · skip
      refine wp_block ?_
      refine c_loop (fun (s6 : Int × Int) a w => Env 27 a [(0, v0_1), (1, (vI s6.1)), (5, (vI s6.2))] ∧ M (Old w0) w0 w []) hl3 ⟨hE.sub ⟨rfl, rfl, rfl, trivial⟩, hM⟩ ?_
      rintro s6 a w ⟨hE, hM⟩ o9 hs7 hx8
      unfold L0_laws_szRecordS at hs7
      refine wp_seq ?_
      refine c_region ?_
      refine s_move hE goes_none (by decide) rfl ?_; intro a hE
      refine s_move hE goes_none (by decide) rfl ?_; intro a hE
      refine s_len hE goes_none (by decide) rfl Try.underlying37 (hM.rd hv0_1) ?_; intro a hE
      refine s_int hE goes_none (by decide) rfl rfl rfl ?_; intro a hE
      refine c_fin ?_
      refine c_cond hE rfl ?_ ?_
      · intro hb10
        have hs7 := ite_t hs7 hb10
        refine wp_skip ?_
        refine c_nx ?_
        refine wp_seq ?_
        refine wp_block ?_
        refine c_region ?_
        refine s_move hE goes_none (by decide) rfl ?_; intro a hE
        refine s_move hE goes_none (by decide) rfl ?_; intro a hE
        obtain ⟨x11, e12, hs7⟩ := bind_some hs7
        have hi13 := idx_some e12
        refine s_indexS hE goes_none (by decide) rfl rfl Try.underlying37 ty140 (hM.rd hv0_1) hi13.1 ?_; intro a hE
        obtain ⟨cs14, hs15, hA16⟩ := sl_atRo hv0_1 hi13.2 -- ^
        obtain ⟨u17, u19, rfl, h18, h20⟩ := un_GRecord hs15 -- ^
        refine s_loadA (cs := cat [[(vI x11.Number)], [(vI x11.Version)], Flat.enc x11.Nonce, [u17], [u19], Flat.enc x11.Tag]) hE goes_none (by decide) rfl ty140 rfl (hM.atk hA16 (sl_blk hv0_1 hi13.2)) (cat_len (cl1 (n := 1) (m := 51) rfl (cl1 (n := 1) (m := 50) rfl (cl1 (n := 16) (m := 34) (Flat.len _) (cl1 (n := 1) (m := 33) rfl (cl1 (n := 1) (m := 32) rfl (cl1 (n := 32) (m := 0) (Flat.len _) cl0))))))) ?_; intro a hE
        refine s_move hE goes_none (by decide) rfl ?_; intro a hE
        obtain ⟨r21, e22, hs7⟩ := bind_some hs7
        refine s_call (vs := [(Value.agg (cat [[(vI x11.Number)], [(vI x11.Version)], Flat.enc x11.Nonce, [u17], [u19], Flat.enc x11.Tag]).toArray), (vI s6.1)]) hE goes_none (by decide) rfl cb125 (c_laws_szRecord _ x11 u17 (hM.rdo h18) u19 (hM.rdo h20) s6.1 r21 e22) ?_
        rintro v w a ⟨rfl, hK⟩ hE
        have hM := hM.keep hK
        refine s_assign hE goes_none (by decide) rfl ?_; intro a hE
        refine c_fin ?_
        refine c_region ?_
        refine s_move hE goes_none (by decide) rfl ?_; intro a hE
        refine s_int hE goes_none (by decide) rfl rfl rfl ?_; intro a hE
        refine c_fin ?_
        refine c_cond hE rfl ?_ ?_
        · intro hb23
          have hs7 := ite_t hs7 hb23
          refine c_region ?_
          refine s_assign hE goes_none (by decide) rfl ?_; intro a hE
          refine c_fin ?_
          have ht24 := hx8 _ (Option.some.inj hs7).symm
          subst ht24
          have hr := Option.some.inj hF4
          subst hr
          exact wp_ret (r_inb (r_then (r_then (r_inb (r_then (r_then (k_ret1 hE rfl (res_tmp hE rfl) ⟨_, rfl, rfl, hM.kept⟩)))))))
        · intro hb23
          have hs7 := ite_f hs7 hb23
          refine wp_skip ?_
          refine c_nb ?_
          refine c_nx ?_
          refine wp_region_lit ?_
          refine s_move hE goes_none (by decide) rfl ?_; intro a hE
          refine s_int hE goes_none (by decide) rfl rfl rfl ?_; intro a hE
          refine s_assign hE goes_none (by decide) rfl ?_; intro a hE
          refine c_fin0 ?_
          refine c_mid ?_
          exact ⟨_, (Option.some.inj hs7).symm, hE.sub ⟨rfl, rfl, rfl, trivial⟩, hM⟩
      · intro hb10
        have hs7 := ite_f hs7 hb10
        refine wp_exit (e_then (e_then (e_eq ?_)))
        have ht25 := hx8 _ (Option.some.inj hs7).symm
        subst ht25
        refine c_mid ?_
        exact ⟨s6.1, rfl, hE.sub ⟨rfl, trivial⟩, hM⟩
    · skip
      rintro a w ⟨s5, ht, hE, hM⟩
      subst ht
      refine c_nx ?_
      refine c_region ?_
      refine s_move hE goes_none (by decide) rfl ?_; intro a hE
      refine s_assign hE goes_none (by decide) rfl ?_; intro a hE
      refine c_fin ?_
      have hr := Option.some.inj hF4
      subst hr
      exact wp_ret (k_ret1 hE rfl (res_tmp hE rfl) ⟨_, rfl, rfl, hM.kept⟩)
noncomputable def F_laws_szEventS (p0 : (List GEvent)) (p1 : Int) : Option (Int) :=
  if (decide ((wr (p1 - (p0.length : Int))) < 0)) = true then (some (-1)) else (some (wr (p1 - (p0.length : Int))))
set_option maxRecDepth 20000 in
set_option maxHeartbeats 400000 in
theorem c_laws_szEventS (w0 : World) (p0 : (List GEvent)) (v0_1 : Value) (hv0_1 : Ro w0 p0 [v0_1]) (p1 : Int) (r : Int) (hF : F_laws_szEventS p0 p1 = some r) :
    Calls Try.prog 75 [v0_1, (vI p1)].toArray w0 (fun en w' => ∃ v, en = .returned v ∧ (v = (vI r) ∧ Kept (Old w0) w0 w')) := by
  refine c_enter (n := 12) Try.func75 rfl rfl (Nat.le_of_ble_eq_true rfl) rfl ?_
  intro a hE
  have hM := M.start w0
  unfold F_laws_szEventS at hF
  refine c_region ?_
  refine s_assign hE goes_none (by decide) rfl ?_; intro a hE
  refine c_fin ?_
  refine c_region ?_
  refine s_move hE goes_none (by decide) rfl ?_; intro a hE
  refine s_move hE goes_none (by decide) rfl ?_; intro a hE
  refine s_len hE goes_none (by decide) rfl Try.underlying38 (hM.rd hv0_1) ?_; intro a hE
  refine s_int hE goes_none (by decide) rfl rfl rfl ?_; intro a hE
  refine s_assign hE goes_none (by decide) rfl ?_; intro a hE
  refine c_fin ?_
  refine wp_seq ?_
  refine c_region ?_
  refine s_move hE goes_none (by decide) rfl ?_; intro a hE
  refine s_int hE goes_none (by decide) rfl rfl rfl ?_; intro a hE
  refine c_fin ?_
  refine c_cond hE rfl ?_ ?_
  · intro hb1
    have hF := ite_t hF hb1
    refine c_region ?_
    refine s_assign hE goes_none (by decide) rfl ?_; intro a hE
    refine c_fin ?_
    have hr := Option.some.inj hF
    subst hr
    exact wp_ret (r_then (k_ret1 hE rfl (res_tmp hE rfl) ⟨_, rfl, rfl, hM.kept⟩))
  · intro hb1
    have hF := ite_f hF hb1
    refine wp_skip ?_
    refine c_nx ?_
    refine c_region ?_
    refine s_move hE goes_none (by decide) rfl ?_; intro a hE
    refine s_assign hE goes_none (by decide) rfl ?_; intro a hE
    refine c_fin ?_
    have hr := Option.some.inj hF
    subst hr
    exact wp_ret (k_ret1 hE rfl (res_tmp hE rfl) ⟨_, rfl, rfl, hM.kept⟩)
noncomputable def F_laws_szVault (p0 : GVault) (p1 : Int) : Option (Int) :=
  (F_laws_szBlockS p0.Keys p1).bind fun (r3 : Int) => if (decide (r3 < 0)) = true then (some (-1)) else ((F_laws_szRecordS p0.Records r3).bind fun (r6 : Int) => if (decide (r6 < 0)) = true then (some (-1)) else ((F_laws_szEventS p0.Events r6).bind fun (r9 : Int) => if (decide (r9 < 0)) = true then (some (-1)) else (some r9)))
set_option maxRecDepth 20000 in
set_option maxHeartbeats 400000 in
theorem c_laws_szVault (w0 : World) (p0 : GVault) (v0_1 : Value) (hv0_1 : Ro w0 p0.Keys [v0_1]) (v0_2 : Value) (hv0_2 : Ro w0 p0.Records [v0_2]) (v0_3 : Value) (hv0_3 : Ro w0 p0.Events [v0_3]) (p1 : Int) (r : Int) (hF : F_laws_szVault p0 p1 = some r) :
    Calls Try.prog 24 [(Value.agg (cat [[v0_1], [(vI p0.Next)], [v0_2], [v0_3], Flat.enc p0.Head]).toArray), (vI p1)].toArray w0 (fun en w' => ∃ v, en = .returned v ∧ (v = (vI r) ∧ Kept (Old w0) w0 w')) := by
  refine c_enter (n := 24) Try.func24 rfl rfl (Nat.le_of_ble_eq_true rfl) rfl ?_
  intro a hE
  have hM := M.start w0
  unfold F_laws_szVault at hF
  refine c_region ?_
  refine s_box (cs := cat [[v0_1], [(vI p0.Next)], [v0_2], [v0_3], Flat.enc p0.Head]) hE hM goes_none (by decide) rfl rfl ?_; intro b1 w a hM hE
  refine s_assign hE goes_none (by decide) rfl ?_; intro a hE
  refine c_fin ?_
  refine c_region ?_
  refine s_fieldAddr hE goes_none (by decide) rfl (fd41_0) ?_; intro a hE
  refine s_load (v := v0_1) hE goes_none (by decide) rfl ty36 rfl (At.cat (pre := []) (seg := [v0_1]) (post := [[(vI p0.Next)], [v0_2], [v0_3], Flat.enc p0.Head]) (hM.rawAt (pre := [])) cl0) ?_; intro a hE
  refine s_move hE goes_none (by decide) rfl ?_; intro a hE
  obtain ⟨r3, e4, hF⟩ := bind_some hF
  refine s_call (vs := [v0_1, (vI p1)]) hE goes_none (by decide) rfl cb73 (c_laws_szBlockS _ p0.Keys v0_1 (hM.rdo hv0_1) p1 r3 e4) ?_
  rintro v w a ⟨rfl, hK⟩ hE
  have hM := hM.keep hK
  refine s_assign hE goes_none (by decide) rfl ?_; intro a hE
  refine c_fin ?_
  refine wp_seq ?_
  refine c_region ?_
  refine s_move hE goes_none (by decide) rfl ?_; intro a hE
  refine s_int hE goes_none (by decide) rfl rfl rfl ?_; intro a hE
  refine c_fin ?_
  refine c_cond hE rfl ?_ ?_
  · intro hb5
    have hF := ite_t hF hb5
    refine c_region ?_
    refine s_assign hE goes_none (by decide) rfl ?_; intro a hE
    refine c_fin ?_
    have hr := Option.some.inj hF
    subst hr
    have hM := M.fst (l := []) hM
    exact wp_ret (r_then (k_ret1 hE rfl (res_tmp hE rfl) ⟨_, rfl, rfl, hM.kept⟩))
  · intro hb5
    have hF := ite_f hF hb5
    refine wp_skip ?_
    refine c_nx ?_
    refine c_region ?_
    refine s_fieldAddr hE goes_none (by decide) rfl (fd41_2) ?_; intro a hE
    refine s_load (v := v0_2) hE goes_none (by decide) rfl ty37 rfl (At.cat (pre := [[v0_1], [(vI p0.Next)]]) (seg := [v0_2]) (post := [[v0_3], Flat.enc p0.Head]) (hM.rawAt (pre := [])) (cl1 (n := 1) (m := 1) rfl (cl1 (n := 1) (m := 0) rfl cl0))) ?_; intro a hE
    refine s_move hE goes_none (by decide) rfl ?_; intro a hE
    obtain ⟨r6, e7, hF⟩ := bind_some hF
    refine s_call (vs := [v0_2, (vI r3)]) hE goes_none (by decide) rfl cb74 (c_laws_szRecordS _ p0.Records v0_2 (hM.rdo hv0_2) r3 r6 e7) ?_
    rintro v w a ⟨rfl, hK⟩ hE
    have hM := hM.keep hK
    refine s_assign hE goes_none (by decide) rfl ?_; intro a hE
    refine c_fin ?_
    refine wp_seq ?_
    refine c_region ?_
    refine s_move hE goes_none (by decide) rfl ?_; intro a hE
    refine s_int hE goes_none (by decide) rfl rfl rfl ?_; intro a hE
    refine c_fin ?_
    refine c_cond hE rfl ?_ ?_
    · intro hb8
      have hF := ite_t hF hb8
      refine c_region ?_
      refine s_assign hE goes_none (by decide) rfl ?_; intro a hE
      refine c_fin ?_
      have hr := Option.some.inj hF
      subst hr
      have hM := M.fst (l := []) hM
      exact wp_ret (r_then (k_ret1 hE rfl (res_tmp hE rfl) ⟨_, rfl, rfl, hM.kept⟩))
    · intro hb8
      have hF := ite_f hF hb8
      refine wp_skip ?_
      refine c_nx ?_
      refine c_region ?_
      refine s_fieldAddr hE goes_none (by decide) rfl (fd41_3) ?_; intro a hE
      refine s_load (v := v0_3) hE goes_none (by decide) rfl ty38 rfl (At.cat (pre := [[v0_1], [(vI p0.Next)], [v0_2]]) (seg := [v0_3]) (post := [Flat.enc p0.Head]) (hM.rawAt (pre := [])) (cl1 (n := 1) (m := 2) rfl (cl1 (n := 1) (m := 1) rfl (cl1 (n := 1) (m := 0) rfl cl0)))) ?_; intro a hE
      refine s_move hE goes_none (by decide) rfl ?_; intro a hE
      obtain ⟨r9, e10, hF⟩ := bind_some hF
      refine s_call (vs := [v0_3, (vI r6)]) hE goes_none (by decide) rfl cb75 (c_laws_szEventS _ p0.Events v0_3 (hM.rdo hv0_3) r6 r9 e10) ?_
      rintro v w a ⟨rfl, hK⟩ hE
      have hM := hM.keep hK
      refine s_assign hE goes_none (by decide) rfl ?_; intro a hE
      refine c_fin ?_
      refine wp_seq ?_
      refine c_region ?_
      refine s_move hE goes_none (by decide) rfl ?_; intro a hE
      refine s_int hE goes_none (by decide) rfl rfl rfl ?_; intro a hE
      refine c_fin ?_
      refine c_cond hE rfl ?_ ?_
      · intro hb11
        have hF := ite_t hF hb11
        refine c_region ?_
        refine s_assign hE goes_none (by decide) rfl ?_; intro a hE
        refine c_fin ?_
        have hr := Option.some.inj hF
        subst hr
        have hM := M.fst (l := []) hM
        exact wp_ret (r_then (k_ret1 hE rfl (res_tmp hE rfl) ⟨_, rfl, rfl, hM.kept⟩))
      · intro hb11
        have hF := ite_f hF hb11
        refine wp_skip ?_
        refine c_nx ?_
        refine c_region ?_
        refine s_move hE goes_none (by decide) rfl ?_; intro a hE
        refine s_assign hE goes_none (by decide) rfl ?_; intro a hE
        refine c_fin ?_
        have hr := Option.some.inj hF
        subst hr
        have hM := M.fst (l := []) hM
        exact wp_ret (k_ret1 hE rfl (res_tmp hE rfl) ⟨_, rfl, rfl, hM.kept⟩)
noncomputable def L0_laws_toBlock (p0 : (Vector UInt8 16)) (s10 : (Vector UInt8 16) × Int) : Option (Fl ((Vector UInt8 16) × Int) (Vector UInt8 16)) :=
  if (decide (s10.2 < 16)) = true then ((vidx p0 s10.2).bind fun (x16 : UInt8) => (vidx s10.1 s10.2).bind fun (x19 : UInt8) => some (Fl.nx ((s10.1.setIfInBounds (s10.2).toNat x16), wr (s10.2 + 1)))) else (some (Fl.ex s10.1))
noncomputable def F_laws_toBlock (p0 : (Vector UInt8 16)) : Option ((Vector UInt8 16)) :=
  (iter (L0_laws_toBlock p0) ((Vector.replicate 16 (0 : UInt8)), 0) : Option ((Vector UInt8 16))).bind fun (j7 : (Vector UInt8 16)) => some j7
set_option maxRecDepth 20000 in
set_option maxHeartbeats 400000 in
theorem c_laws_toBlock (w0 : World) (p0 : (Vector UInt8 16)) (r : (Vector UInt8 16)) (hF : F_laws_toBlock p0 = some r) :
    Calls Try.prog 127 [(Value.agg (Flat.enc p0).toArray)].toArray w0 (fun en w' => ∃ v, en = .returned v ∧ (v = (Value.agg (Flat.enc r).toArray) ∧ Kept (Old w0) w0 w')) := by
  refine c_enter (n := 15) Try.func127 rfl rfl (Nat.le_of_ble_eq_true rfl) rfl ?_
  intro a hE
  have hM := M.start w0
  unfold F_laws_toBlock at hF
  refine c_region ?_
  refine s_box (cs := Flat.enc p0) hE hM goes_none (by decide) rfl rfl ?_; intro b1 w a hM hE
  refine s_alloc hE hM goes_none (by decide) ty104 ?_; intro b3 w a hM hE
  refine c_fin ?_
  refine c_region ?_
  refine s_alloc hE hM goes_none (by decide) ty104 ?_; intro b5 w a hM hE
  refine c_fin ?_
  refine wp_seq ?_
  refine c_region ?_
  refine s_assign hE goes_none (by decide) rfl ?_; intro a hE
  refine c_fin ?_
  obtain ⟨j7, hl8, hF9⟩ := bind_some hF
  refine c_cut (fun a w => Env 15 a [(2, (ptr b3 0)), (3, (ptr b5 0))] ∧ M (Old w0) w0 w [raw b5 (Flat.enc j7), raw b3 (Flat.enc (Vector.replicate 16 (0 : UInt8)))]) ?_ ?_
  · skip
    refine wp_block ?_
    refine c_loop (fun (s10 : (Vector UInt8 16) × Int) a w => Env 15 a [(1, (ptr b1 0)), (2, (ptr b3 0)), (3, (ptr b5 0)), (4, (vI s10.2))] ∧ M (Old w0) w0 w [raw b5 (Flat.enc s10.1), raw b3 (Flat.enc (Vector.replicate 16 (0 : UInt8))), raw b1 (Flat.enc p0)]) hl8 ⟨hE.sub ⟨rfl, rfl, rfl, rfl, trivial⟩, hM⟩ ?_
    rintro s10 a w ⟨hE, hM⟩ o13 hs11 hx12
    unfold L0_laws_toBlock at hs11
    refine wp_seq ?_
    refine c_region ?_
    refine s_move hE goes_none (by decide) rfl ?_; intro a hE
    refine s_int hE goes_none (by decide) rfl rfl rfl ?_; intro a hE
    refine c_fin ?_
    refine c_cond hE rfl ?_ ?_
    · intro hb14
      have hs11 := ite_t hs11 hb14
      refine wp_skip ?_
      refine c_nx ?_
      refine wp_seq ?_
      refine wp_block ?_
      refine wp_region_lit ?_
      refine s_move hE goes_none (by decide) rfl ?_; intro a hE
      refine s_move hE goes_none (by decide) rfl ?_; intro a hE
      obtain ⟨x16, e17, hs11⟩ := bind_some hs11
      have hi15 := vidx_some e17
      refine s_indexA hE goes_none (by decide) rfl rfl Try.underlying103 ty5 hi15.1 ?_; intro a hE
      refine s_load (v := (vB x16)) hE goes_none (by decide) rfl ty5 rfl (At.vec (hM.rawAt (pre := [_, _])) hi15.2) ?_; intro a hE
      obtain ⟨x19, e20, hs11⟩ := bind_some hs11
      have hi18 := vidx_some e20
      refine s_indexA hE goes_none (by decide) rfl rfl Try.underlying104 ty5 hi18.1 ?_; intro a hE
      refine s_store (seg := [(vB x16)]) (cs' := Flat.enc (s10.1.setIfInBounds (s10.2).toNat x16)) hE hM goes_none rfl rfl rfl ty5 rfl (fit_vec (v := s10.1) (x := x16) hi18.1) (Flat.cell x16) (splice_vec0 (v := s10.1) (x := x16) hi18.1) ?_; intro w a hM hE
      refine c_fin0 ?_
      refine c_nb ?_
      refine c_nx ?_
      refine wp_region_lit ?_
      refine s_move hE goes_none (by decide) rfl ?_; intro a hE
      refine s_int hE goes_none (by decide) rfl rfl rfl ?_; intro a hE
      refine s_assign hE goes_none (by decide) rfl ?_; intro a hE
      refine c_fin0 ?_
      refine c_mid ?_
      exact ⟨_, (Option.some.inj hs11).symm, hE.sub ⟨rfl, rfl, rfl, rfl, trivial⟩, hM⟩
    · intro hb14
      have hs11 := ite_f hs11 hb14
      refine wp_exit (e_then (e_then (e_eq ?_)))
      have ht21 := hx12 _ (Option.some.inj hs11).symm
      subst ht21
      refine c_mid ?_
      have hM := hM.pull (pre := [_])
      have hM := hM.pull (pre := [_])
      have hM := M.fst (l := [_, _]) hM
      exact ⟨hE.sub ⟨rfl, rfl, trivial⟩, hM⟩
  · skip
    rintro a w ⟨hE, hM⟩
    refine c_nx ?_
    refine c_region ?_
    refine s_loadA (cs := Flat.enc j7) hE goes_none (by decide) rfl ty104 rfl (hM.rawAt (pre := [])) (Flat.len _) ?_; intro a hE
    have hM := hM.pull (pre := [_])
    refine s_store (seg := Flat.enc j7) (cs' := Flat.enc j7) hE hM goes_none rfl rfl rfl ty104 (Flat.len _) (Nat.le_of_eq (by rw [Nat.zero_add]; exact (Eq.trans (Flat.len _) (Eq.symm (Flat.len _))))) (Flat.cell _) (splice_all (Eq.trans (Flat.len _) (Eq.symm (Flat.len _)))) ?_; intro w a hM hE
    refine c_fin ?_
    have hr := Option.some.inj hF9
    subst hr
    have hq22 : ResIs Try.prog _ _ (.cell 2 104) _ := res_cell hE rfl ty104 rfl (hM.rawAt (pre := [])) (Flat.len _) rfl
    have hM := M.fst (l := []) hM
    exact wp_ret (k_ret1 hE rfl hq22 ⟨_, rfl, rfl, hM.kept⟩)
noncomputable def L0_laws_toBlockS (p0 : (List (Vector UInt8 16))) (s10 : (List (Vector UInt8 16)) × Int) : Option (Fl ((List (Vector UInt8 16)) × Int) (List (Vector UInt8 16))) :=
  if (decide (s10.2 < (p0.length : Int))) = true then ((idx p0 s10.2).bind fun (x17 : (Vector UInt8 16)) => (F_laws_toBlock x17).bind fun (r20 : (Vector UInt8 16)) => (idx s10.1 s10.2).bind fun (x22 : (Vector UInt8 16)) => some (Fl.nx ((s10.1.set (s10.2).toNat r20), wr (s10.2 + 1)))) else (some (Fl.ex s10.1))
noncomputable def F_laws_toBlockS (p0 : (List (Vector UInt8 16))) : Option ((List (Vector UInt8 16))) :=
  (mkS 16 (Vector.replicate 16 (0 : UInt8)) (p0.length : Int)).bind fun (l1 : (List (Vector UInt8 16))) => (iter (L0_laws_toBlockS p0) (l1, 0) : Option ((List (Vector UInt8 16)))).bind fun (j5 : (List (Vector UInt8 16))) => some j5
set_option maxRecDepth 20000 in
set_option maxHeartbeats 400000 in
theorem c_laws_toBlockS (w0 : World) (p0 : (List (Vector UInt8 16))) (v0_1 : Value) (hv0_1 : Ro w0 p0 [v0_1]) (r : (List (Vector UInt8 16))) (hF : F_laws_toBlockS p0 = some r) :
    Calls Try.prog 77 [v0_1].toArray w0 (fun en w' => ∃ v, en = .returned v ∧ (∃ (y1 : Value), v = y1 ∧ Fr w0 w' [osl NoB (r : List (Vector UInt8 16)) y1] ∧ Kept (Old w0) w0 w')) := by
  refine c_enter (n := 23) Try.func77 rfl rfl (Nat.le_of_ble_eq_true rfl) rfl ?_
  intro a hE
  have hM := M.start w0
  unfold F_laws_toBlockS at hF
  refine c_region ?_
  refine s_assign hE goes_none (by decide) rfl ?_; intro a hE
  refine c_fin ?_
  refine c_region ?_
  refine s_move hE goes_none (by decide) rfl ?_; intro a hE
  refine s_len hE goes_none (by decide) rfl Try.underlying36 (hM.rd hv0_1) ?_; intro a hE
  obtain ⟨l1, e2, hF⟩ := bind_some hF
  refine s_make hE hM goes_none (by decide) rfl rfl Try.underlying44 ty104 rfl (by decide) (fun _ => sat_flat.2 ⟨rfl, rfl⟩) e2 ?_; intro u3 w a hM hE
  refine s_assign hE goes_none (by decide) rfl ?_; intro a hE
  refine c_fin ?_
  refine wp_seq ?_
  refine c_region ?_
  refine s_assign hE goes_none (by decide) rfl ?_; intro a hE
  refine c_fin ?_
  obtain ⟨j5, hl6, hF7⟩ := bind_some hF
  refine c_cut (fun a w => ∃ (u8 : Value), Env 23 a [(3, u8)] ∧ M (Old w0) w0 w [osl NoB (j5 : List (Vector UInt8 16)) u8]) ?_ ?_
  · skip
    refine wp_block ?_
    refine c_loop (fun (s10 : (List (Vector UInt8 16)) × Int) a w => ∃ (u11 : Value), Env 23 a [(0, v0_1), (3, u11), (4, (vI s10.2))] ∧ M (Old w0) w0 w [osl NoB (s10.1 : List (Vector UInt8 16)) u11]) hl6 ⟨u3, hE.sub ⟨rfl, rfl, rfl, trivial⟩, hM⟩ ?_
    rintro s10 a w ⟨u11, hE, hM⟩ o15 hs13 hx14
    unfold L0_laws_toBlockS at hs13
    refine wp_seq ?_
    refine c_region ?_
    refine s_move hE goes_none (by decide) rfl ?_; intro a hE
    refine s_move hE goes_none (by decide) rfl ?_; intro a hE
    refine s_len hE goes_none (by decide) rfl Try.underlying36 (hM.rd hv0_1) ?_; intro a hE
    refine s_int hE goes_none (by decide) rfl rfl rfl ?_; intro a hE
    refine c_fin ?_
    refine c_cond hE rfl ?_ ?_
    · intro hb16
      have hs13 := ite_t hs13 hb16
      refine wp_skip ?_
      refine c_nx ?_
      refine wp_seq ?_
      refine wp_block ?_
      refine wp_region_lit ?_
      refine s_move hE goes_none (by decide) rfl ?_; intro a hE
      refine s_move hE goes_none (by decide) rfl ?_; intro a hE
      refine s_move hE goes_none (by decide) rfl ?_; intro a hE
      refine s_move hE goes_none (by decide) rfl ?_; intro a hE
      obtain ⟨x17, e18, hs13⟩ := bind_some hs13
      have hi19 := idx_some e18
      refine s_indexS hE goes_none (by decide) rfl rfl Try.underlying36 ty103 (hM.rd hv0_1) hi19.1 ?_; intro a hE
      refine s_loadA (cs := Flat.enc x17) hE goes_none (by decide) rfl ty103 rfl (sl_atF (hM.rd hv0_1) hi19.2) (Flat.len _) ?_; intro a hE
      obtain ⟨r20, e21, hs13⟩ := bind_some hs13
      refine s_call (vs := [(Value.agg (Flat.enc x17).toArray)]) hE goes_none (by decide) rfl cb127 (c_laws_toBlock _ x17 r20 e21) ?_
      rintro v w a ⟨rfl, hK⟩ hE
      have hM := hM.keep hK
      obtain ⟨x22, e23, hs13⟩ := bind_some hs13
      have hi24 := idx_some e23
      refine s_indexS hE goes_none (by decide) rfl rfl Try.underlying44 ty104 (hM.sl (pre := []) noB) hi24.1 ?_; intro a hE
      refine s_storeS (i := (s10.2).toNat) (k0 := 0) (seg := Flat.enc r20) (xo := x22) (xn := r20) hE hM goes_none rfl rfl rfl ty104 (Flat.len _) (Flat.cell _) hi24.2 (fit_num (m := 16) (Flat.len _) (by decide)) (splice_all (Eq.trans (Flat.len _) (Eq.symm (Flat.len _)))) ?_; intro w a hM hE
      refine c_fin0 ?_
      refine c_nb ?_
      refine c_nx ?_
      refine wp_region_lit ?_
      refine s_move hE goes_none (by decide) rfl ?_; intro a hE
      refine s_int hE goes_none (by decide) rfl rfl rfl ?_; intro a hE
      refine s_assign hE goes_none (by decide) rfl ?_; intro a hE
      refine c_fin0 ?_
      refine c_mid ?_
      exact ⟨_, (Option.some.inj hs13).symm, u11, hE.sub ⟨rfl, rfl, rfl, trivial⟩, hM⟩
    · intro hb16
      have hs13 := ite_f hs13 hb16
      refine wp_exit (e_then (e_then (e_eq ?_)))
      have ht25 := hx14 _ (Option.some.inj hs13).symm
      subst ht25
      refine c_mid ?_
      exact ⟨u11, hE.sub ⟨rfl, trivial⟩, hM⟩
  · skip
    rintro a w ⟨u8, hE, hM⟩
    refine c_nx ?_
    refine c_region ?_
    refine s_move hE goes_none (by decide) rfl ?_; intro a hE
    refine s_assign hE goes_none (by decide) rfl ?_; intro a hE
    refine c_fin ?_
    have hr := Option.some.inj hF7
    subst hr
    exact wp_ret (k_ret1 hE rfl (res_tmp hE rfl) ⟨_, rfl, u8, rfl, hM.outF (locN1 locN0), hM.kept⟩)
noncomputable def L0_laws_toByteS (p0 : (List UInt8)) (s10 : (List UInt8) × Int) : Option (Fl ((List UInt8) × Int) (List UInt8)) :=
  if (decide (s10.2 < (p0.length : Int))) = true then ((idx p0 s10.2).bind fun (x17 : UInt8) => (idx s10.1 s10.2).bind fun (x20 : UInt8) => some (Fl.nx ((s10.1.set (s10.2).toNat x17), wr (s10.2 + 1)))) else (some (Fl.ex s10.1))
noncomputable def F_laws_toByteS (p0 : (List UInt8)) : Option ((List UInt8)) :=
  (mkS 1 (0 : UInt8) (p0.length : Int)).bind fun (l1 : (List UInt8)) => (iter (L0_laws_toByteS p0) (l1, 0) : Option ((List UInt8))).bind fun (j5 : (List UInt8)) => some j5
set_option maxRecDepth 20000 in
set_option maxHeartbeats 400000 in
theorem c_laws_toByteS (w0 : World) (p0 : (List UInt8)) (v0_1 : Value) (hv0_1 : Ro w0 p0 [v0_1]) (r : (List UInt8)) (hF : F_laws_toByteS p0 = some r) :
    Calls Try.prog 19 [v0_1].toArray w0 (fun en w' => ∃ v, en = .returned v ∧ (∃ (y1 : Value), v = y1 ∧ Fr w0 w' [osl NoB (r : List UInt8) y1] ∧ Kept (Old w0) w0 w')) := by
  refine c_enter (n := 22) Try.func19 rfl rfl (Nat.le_of_ble_eq_true rfl) rfl ?_
  intro a hE
  have hM := M.start w0
  unfold F_laws_toByteS at hF
  refine c_region ?_
  refine s_assign hE goes_none (by decide) rfl ?_; intro a hE
  refine c_fin ?_
  refine c_region ?_
  refine s_move hE goes_none (by decide) rfl ?_; intro a hE
  refine s_len hE goes_none (by decide) rfl Try.underlying29 (hM.rd hv0_1) ?_; intro a hE
  obtain ⟨l1, e2, hF⟩ := bind_some hF
  refine s_make hE hM goes_none (by decide) rfl rfl Try.underlying29 ty5 rfl (by decide) (fun _ => sat_flat.2 ⟨rfl, rfl⟩) e2 ?_; intro u3 w a hM hE
  refine s_assign hE goes_none (by decide) rfl ?_; intro a hE
  refine c_fin ?_
  refine wp_seq ?_
  refine c_region ?_
  refine s_assign hE goes_none (by decide) rfl ?_; intro a hE
  refine c_fin ?_
  obtain ⟨j5, hl6, hF7⟩ := bind_some hF
  refine c_cut (fun a w => ∃ (u8 : Value), Env 22 a [(3, u8)] ∧ M (Old w0) w0 w [osl NoB (j5 : List UInt8) u8]) ?_ ?_
  · skip
    refine wp_block ?_
    refine c_loop (fun (s10 : (List UInt8) × Int) a w => ∃ (u11 : Value), Env 22 a [(0, v0_1), (3, u11), (4, (vI s10.2))] ∧ M (Old w0) w0 w [osl NoB (s10.1 : List UInt8) u11]) hl6 ⟨u3, hE.sub ⟨rfl, rfl, rfl, trivial⟩, hM⟩ ?_
    rintro s10 a w ⟨u11, hE, hM⟩ o15 hs13 hx14
    unfold L0_laws_toByteS at hs13
    refine wp_seq ?_
    refine c_region ?_
    refine s_move hE goes_none (by decide) rfl ?_; intro a hE
    refine s_move hE goes_none (by decide) rfl ?_; intro a hE
    refine s_len hE goes_none (by decide) rfl Try.underlying29 (hM.rd hv0_1) ?_; intro a hE
    refine s_int hE goes_none (by decide) rfl rfl rfl ?_; intro a hE
    refine c_fin ?_
    refine c_cond hE rfl ?_ ?_
    · intro hb16
      have hs13 := ite_t hs13 hb16
      refine wp_skip ?_
      refine c_nx ?_
      refine wp_seq ?_
      refine wp_block ?_
      refine wp_region_lit ?_
      refine s_move hE goes_none (by decide) rfl ?_; intro a hE
      refine s_move hE goes_none (by decide) rfl ?_; intro a hE
      refine s_move hE goes_none (by decide) rfl ?_; intro a hE
      refine s_move hE goes_none (by decide) rfl ?_; intro a hE
      obtain ⟨x17, e18, hs13⟩ := bind_some hs13
      have hi19 := idx_some e18
      refine s_indexS hE goes_none (by decide) rfl rfl Try.underlying29 ty5 (hM.rd hv0_1) hi19.1 ?_; intro a hE
      refine s_load (v := (vB x17)) hE goes_none (by decide) rfl ty5 rfl (sl_atF (hM.rd hv0_1) hi19.2) ?_; intro a hE
      obtain ⟨x20, e21, hs13⟩ := bind_some hs13
      have hi22 := idx_some e21
      refine s_indexS hE goes_none (by decide) rfl rfl Try.underlying29 ty5 (hM.sl (pre := []) noB) hi22.1 ?_; intro a hE
      refine s_storeS (i := (s10.2).toNat) (k0 := 0) (seg := [(vB x17)]) (xo := x20) (xn := x17) hE hM goes_none rfl rfl rfl ty5 rfl (Flat.cell x17) hi22.2 (fit_num (m := 1) rfl (by decide)) (splice_all (Eq.trans rfl (Eq.symm rfl))) ?_; intro w a hM hE
      refine c_fin0 ?_
      refine c_nb ?_
      refine c_nx ?_
      refine wp_region_lit ?_
      refine s_move hE goes_none (by decide) rfl ?_; intro a hE
      refine s_int hE goes_none (by decide) rfl rfl rfl ?_; intro a hE
      refine s_assign hE goes_none (by decide) rfl ?_; intro a hE
      refine c_fin0 ?_
      refine c_mid ?_
      exact ⟨_, (Option.some.inj hs13).symm, u11, hE.sub ⟨rfl, rfl, rfl, trivial⟩, hM⟩
    · intro hb16
      have hs13 := ite_f hs13 hb16
      refine wp_exit (e_then (e_then (e_eq ?_)))
      have ht23 := hx14 _ (Option.some.inj hs13).symm
      subst ht23
      refine c_mid ?_
      exact ⟨u11, hE.sub ⟨rfl, trivial⟩, hM⟩
  · skip
    rintro a w ⟨u8, hE, hM⟩
    refine c_nx ?_
    refine c_region ?_
    refine s_move hE goes_none (by decide) rfl ?_; intro a hE
    refine s_assign hE goes_none (by decide) rfl ?_; intro a hE
    refine c_fin ?_
    have hr := Option.some.inj hF7
    subst hr
    exact wp_ret (k_ret1 hE rfl (res_tmp hE rfl) ⟨_, rfl, u8, rfl, hM.outF (locN1 locN0), hM.kept⟩)
noncomputable def L0_laws_toDigest (p0 : (Vector UInt8 32)) (s10 : (Vector UInt8 32) × Int) : Option (Fl ((Vector UInt8 32) × Int) (Vector UInt8 32)) :=
  if (decide (s10.2 < 32)) = true then ((vidx p0 s10.2).bind fun (x16 : UInt8) => (vidx s10.1 s10.2).bind fun (x19 : UInt8) => some (Fl.nx ((s10.1.setIfInBounds (s10.2).toNat x16), wr (s10.2 + 1)))) else (some (Fl.ex s10.1))
noncomputable def F_laws_toDigest (p0 : (Vector UInt8 32)) : Option ((Vector UInt8 32)) :=
  (iter (L0_laws_toDigest p0) ((Vector.replicate 32 (0 : UInt8)), 0) : Option ((Vector UInt8 32))).bind fun (j7 : (Vector UInt8 32)) => some j7
set_option maxRecDepth 20000 in
set_option maxHeartbeats 400000 in
theorem c_laws_toDigest (w0 : World) (p0 : (Vector UInt8 32)) (r : (Vector UInt8 32)) (hF : F_laws_toDigest p0 = some r) :
    Calls Try.prog 80 [(Value.agg (Flat.enc p0).toArray)].toArray w0 (fun en w' => ∃ v, en = .returned v ∧ (v = (Value.agg (Flat.enc r).toArray) ∧ Kept (Old w0) w0 w')) := by
  refine c_enter (n := 15) Try.func80 rfl rfl (Nat.le_of_ble_eq_true rfl) rfl ?_
  intro a hE
  have hM := M.start w0
  unfold F_laws_toDigest at hF
  refine c_region ?_
  refine s_box (cs := Flat.enc p0) hE hM goes_none (by decide) rfl rfl ?_; intro b1 w a hM hE
  refine s_alloc hE hM goes_none (by decide) ty47 ?_; intro b3 w a hM hE
  refine c_fin ?_
  refine c_region ?_
  refine s_alloc hE hM goes_none (by decide) ty47 ?_; intro b5 w a hM hE
  refine c_fin ?_
  refine wp_seq ?_
  refine c_region ?_
  refine s_assign hE goes_none (by decide) rfl ?_; intro a hE
  refine c_fin ?_
  obtain ⟨j7, hl8, hF9⟩ := bind_some hF
  refine c_cut (fun a w => Env 15 a [(2, (ptr b3 0)), (3, (ptr b5 0))] ∧ M (Old w0) w0 w [raw b5 (Flat.enc j7), raw b3 (Flat.enc (Vector.replicate 32 (0 : UInt8)))]) ?_ ?_
  · skip
    refine wp_block ?_
    refine c_loop (fun (s10 : (Vector UInt8 32) × Int) a w => Env 15 a [(1, (ptr b1 0)), (2, (ptr b3 0)), (3, (ptr b5 0)), (4, (vI s10.2))] ∧ M (Old w0) w0 w [raw b5 (Flat.enc s10.1), raw b3 (Flat.enc (Vector.replicate 32 (0 : UInt8))), raw b1 (Flat.enc p0)]) hl8 ⟨hE.sub ⟨rfl, rfl, rfl, rfl, trivial⟩, hM⟩ ?_
    rintro s10 a w ⟨hE, hM⟩ o13 hs11 hx12
    unfold L0_laws_toDigest at hs11
    refine wp_seq ?_
    refine c_region ?_
    refine s_move hE goes_none (by decide) rfl ?_; intro a hE
    refine s_int hE goes_none (by decide) rfl rfl rfl ?_; intro a hE
    refine c_fin ?_
    refine c_cond hE rfl ?_ ?_
    · intro hb14
      have hs11 := ite_t hs11 hb14
      refine wp_skip ?_
      refine c_nx ?_
      refine wp_seq ?_
      refine wp_block ?_
      refine wp_region_lit ?_
      refine s_move hE goes_none (by decide) rfl ?_; intro a hE
      refine s_move hE goes_none (by decide) rfl ?_; intro a hE
      obtain ⟨x16, e17, hs11⟩ := bind_some hs11
      have hi15 := vidx_some e17
      refine s_indexA hE goes_none (by decide) rfl rfl Try.underlying39 ty5 hi15.1 ?_; intro a hE
      refine s_load (v := (vB x16)) hE goes_none (by decide) rfl ty5 rfl (At.vec (hM.rawAt (pre := [_, _])) hi15.2) ?_; intro a hE
      obtain ⟨x19, e20, hs11⟩ := bind_some hs11
      have hi18 := vidx_some e20
      refine s_indexA hE goes_none (by decide) rfl rfl Try.underlying47 ty5 hi18.1 ?_; intro a hE
      refine s_store (seg := [(vB x16)]) (cs' := Flat.enc (s10.1.setIfInBounds (s10.2).toNat x16)) hE hM goes_none rfl rfl rfl ty5 rfl (fit_vec (v := s10.1) (x := x16) hi18.1) (Flat.cell x16) (splice_vec0 (v := s10.1) (x := x16) hi18.1) ?_; intro w a hM hE
      refine c_fin0 ?_
      refine c_nb ?_
      refine c_nx ?_
      refine wp_region_lit ?_
      refine s_move hE goes_none (by decide) rfl ?_; intro a hE
      refine s_int hE goes_none (by decide) rfl rfl rfl ?_; intro a hE
      refine s_assign hE goes_none (by decide) rfl ?_; intro a hE
      refine c_fin0 ?_
      refine c_mid ?_
      exact ⟨_, (Option.some.inj hs11).symm, hE.sub ⟨rfl, rfl, rfl, rfl, trivial⟩, hM⟩
    · intro hb14
      have hs11 := ite_f hs11 hb14
      refine wp_exit (e_then (e_then (e_eq ?_)))
      have ht21 := hx12 _ (Option.some.inj hs11).symm
      subst ht21
      refine c_mid ?_
      have hM := hM.pull (pre := [_])
      have hM := hM.pull (pre := [_])
      have hM := M.fst (l := [_, _]) hM
      exact ⟨hE.sub ⟨rfl, rfl, trivial⟩, hM⟩
  · skip
    rintro a w ⟨hE, hM⟩
    refine c_nx ?_
    refine c_region ?_
    refine s_loadA (cs := Flat.enc j7) hE goes_none (by decide) rfl ty47 rfl (hM.rawAt (pre := [])) (Flat.len _) ?_; intro a hE
    have hM := hM.pull (pre := [_])
    refine s_store (seg := Flat.enc j7) (cs' := Flat.enc j7) hE hM goes_none rfl rfl rfl ty47 (Flat.len _) (Nat.le_of_eq (by rw [Nat.zero_add]; exact (Eq.trans (Flat.len _) (Eq.symm (Flat.len _))))) (Flat.cell _) (splice_all (Eq.trans (Flat.len _) (Eq.symm (Flat.len _)))) ?_; intro w a hM hE
    refine c_fin ?_
    have hr := Option.some.inj hF9
    subst hr
    have hq22 : ResIs Try.prog _ _ (.cell 2 47) _ := res_cell hE rfl ty47 rfl (hM.rawAt (pre := [])) (Flat.len _) rfl
    have hM := M.fst (l := []) hM
    exact wp_ret (k_ret1 hE rfl hq22 ⟨_, rfl, rfl, hM.kept⟩)
noncomputable def F_laws_toRecord (p0 : GRecord) : Option (GRecord) :=
  (F_laws_toBlock p0.Nonce).bind fun (r7 : (Vector UInt8 16)) => (F_laws_toByteS p0.Label).bind fun (r9 : (List UInt8)) => (F_laws_toByteS p0.Body).bind fun (r12 : (List UInt8)) => (F_laws_toDigest p0.Tag).bind fun (r15 : (Vector UInt8 32)) => some (⟨p0.Number, p0.Version, r7, r9, r12, r15⟩ : GRecord)
set_option maxRecDepth 20000 in
set_option maxHeartbeats 400000 in
theorem c_laws_toRecord (w0 : World) (p0 : GRecord) (v0_1 : Value) (hv0_1 : Ro w0 p0.Label [v0_1]) (v0_2 : Value) (hv0_2 : Ro w0 p0.Body [v0_2]) (r : GRecord) (hF : F_laws_toRecord p0 = some r) :
    Calls Try.prog 128 [(Value.agg (cat [[(vI p0.Number)], [(vI p0.Version)], Flat.enc p0.Nonce, [v0_1], [v0_2], Flat.enc p0.Tag]).toArray)].toArray w0 (fun en w' => ∃ v, en = .returned v ∧ (∃ (y1 : Value) (y2 : Value), v = (Value.agg (cat [[(vI r.Number)], [(vI r.Version)], Flat.enc r.Nonce, [y1], [y2], Flat.enc r.Tag]).toArray) ∧ Fr w0 w' [osl NoB (r.Label : List UInt8) y1, osl NoB (r.Body : List UInt8) y2] ∧ Kept (Old w0) w0 w')) := by
  refine c_enter (n := 27) Try.func128 rfl rfl (Nat.le_of_ble_eq_true rfl) rfl ?_
  intro a hE
  have hM := M.start w0
  unfold F_laws_toRecord at hF
  refine c_region ?_
  refine s_box (cs := cat [[(vI p0.Number)], [(vI p0.Version)], Flat.enc p0.Nonce, [v0_1], [v0_2], Flat.enc p0.Tag]) hE hM goes_none (by decide) rfl rfl ?_; intro b1 w a hM hE
  refine s_alloc hE hM goes_none (by decide) ty106 ?_; intro b3 w a hM hE
  refine c_fin ?_
  refine c_region ?_
  refine s_alloc hE hM goes_none (by decide) ty106 ?_; intro b5 w a hM hE
  refine c_fin ?_
  refine c_region ?_
  refine s_fieldAddr hE goes_none (by decide) rfl (fd140_0) ?_; intro a hE
  refine s_load (v := (vI p0.Number)) hE goes_none (by decide) rfl ty2 rfl (At.cat (pre := []) (seg := [(vI p0.Number)]) (post := [[(vI p0.Version)], Flat.enc p0.Nonce, [v0_1], [v0_2], Flat.enc p0.Tag]) (hM.rawAt (pre := [_, _])) cl0) ?_; intro a hE
  refine s_fieldAddr hE goes_none (by decide) rfl (fd106_0) ?_; intro a hE
  refine s_store (seg := [(vI p0.Number)]) (cs' := cat [[(vI p0.Number)], [(vI 0)], Flat.enc (Vector.replicate 16 (0 : UInt8)), [(Value.slice none 0 0)], [(Value.slice none 0 0)], Flat.enc (Vector.replicate 32 (0 : UInt8))]) hE hM goes_none rfl rfl rfl ty2 rfl (fit_cat (pre := []) (seg := [(vI 0)]) (post := [[(vI 0)], Flat.enc (Vector.replicate 16 (0 : UInt8)), [(Value.slice none 0 0)], [(Value.slice none 0 0)], Flat.enc (Vector.replicate 32 (0 : UInt8))]) cl0 (Eq.trans rfl (Eq.symm rfl))) (Flat.cell p0.Number) (splice_cat (pre := []) (seg := [(vI 0)]) (post := [[(vI 0)], Flat.enc (Vector.replicate 16 (0 : UInt8)), [(Value.slice none 0 0)], [(Value.slice none 0 0)], Flat.enc (Vector.replicate 32 (0 : UInt8))]) cl0 (Eq.trans rfl (Eq.symm rfl))) ?_; intro w a hM hE
  refine c_fin ?_
  refine c_region ?_
  refine s_fieldAddr hE goes_none (by decide) rfl (fd140_1) ?_; intro a hE
  refine s_load (v := (vI p0.Version)) hE goes_none (by decide) rfl ty2 rfl (At.cat (pre := [[(vI p0.Number)]]) (seg := [(vI p0.Version)]) (post := [Flat.enc p0.Nonce, [v0_1], [v0_2], Flat.enc p0.Tag]) (hM.rawAt (pre := [_, _])) (cl1 (n := 1) (m := 0) rfl cl0)) ?_; intro a hE
  refine s_fieldAddr hE goes_none (by decide) rfl (fd106_1) ?_; intro a hE
  refine s_store (seg := [(vI p0.Version)]) (cs' := cat [[(vI p0.Number)], [(vI p0.Version)], Flat.enc (Vector.replicate 16 (0 : UInt8)), [(Value.slice none 0 0)], [(Value.slice none 0 0)], Flat.enc (Vector.replicate 32 (0 : UInt8))]) hE hM goes_none rfl rfl rfl ty2 rfl (fit_cat (pre := [[(vI p0.Number)]]) (seg := [(vI 0)]) (post := [Flat.enc (Vector.replicate 16 (0 : UInt8)), [(Value.slice none 0 0)], [(Value.slice none 0 0)], Flat.enc (Vector.replicate 32 (0 : UInt8))]) (cl1 (n := 1) (m := 0) rfl cl0) (Eq.trans rfl (Eq.symm rfl))) (Flat.cell p0.Version) (splice_cat (pre := [[(vI p0.Number)]]) (seg := [(vI 0)]) (post := [Flat.enc (Vector.replicate 16 (0 : UInt8)), [(Value.slice none 0 0)], [(Value.slice none 0 0)], Flat.enc (Vector.replicate 32 (0 : UInt8))]) (cl1 (n := 1) (m := 0) rfl cl0) (Eq.trans rfl (Eq.symm rfl))) ?_; intro w a hM hE
  refine c_fin ?_
  refine c_region ?_
  refine s_fieldAddr hE goes_none (by decide) rfl (fd140_2) ?_; intro a hE
  refine s_loadA (cs := Flat.enc p0.Nonce) hE goes_none (by decide) rfl ty103 rfl (At.cat (pre := [[(vI p0.Number)], [(vI p0.Version)]]) (seg := Flat.enc p0.Nonce) (post := [[v0_1], [v0_2], Flat.enc p0.Tag]) (hM.rawAt (pre := [_, _])) (cl1 (n := 1) (m := 1) rfl (cl1 (n := 1) (m := 0) rfl cl0))) (Flat.len _) ?_; intro a hE
  obtain ⟨r7, e8, hF⟩ := bind_some hF
  refine s_call (vs := [(Value.agg (Flat.enc p0.Nonce).toArray)]) hE goes_none (by decide) rfl cb127 (c_laws_toBlock _ p0.Nonce r7 e8) ?_
  rintro v w a ⟨rfl, hK⟩ hE
  have hM := hM.keep hK
  refine s_fieldAddr hE goes_none (by decide) rfl (fd106_2) ?_; intro a hE
  refine s_store (seg := Flat.enc r7) (cs' := cat [[(vI p0.Number)], [(vI p0.Version)], Flat.enc r7, [(Value.slice none 0 0)], [(Value.slice none 0 0)], Flat.enc (Vector.replicate 32 (0 : UInt8))]) hE hM goes_none rfl rfl rfl ty104 (Flat.len _) (fit_cat (pre := [[(vI p0.Number)], [(vI p0.Version)]]) (seg := Flat.enc (Vector.replicate 16 (0 : UInt8))) (post := [[(Value.slice none 0 0)], [(Value.slice none 0 0)], Flat.enc (Vector.replicate 32 (0 : UInt8))]) (cl1 (n := 1) (m := 1) rfl (cl1 (n := 1) (m := 0) rfl cl0)) (Eq.trans (Flat.len _) (Eq.symm (Flat.len _)))) (Flat.cell _) (splice_cat (pre := [[(vI p0.Number)], [(vI p0.Version)]]) (seg := Flat.enc (Vector.replicate 16 (0 : UInt8))) (post := [[(Value.slice none 0 0)], [(Value.slice none 0 0)], Flat.enc (Vector.replicate 32 (0 : UInt8))]) (cl1 (n := 1) (m := 1) rfl (cl1 (n := 1) (m := 0) rfl cl0)) (Eq.trans (Flat.len _) (Eq.symm (Flat.len _)))) ?_; intro w a hM hE
  refine c_fin ?_
  refine c_region ?_
  refine s_fieldAddr hE goes_none (by decide) rfl (fd140_3) ?_; intro a hE
  refine s_load (v := v0_1) hE goes_none (by decide) rfl ty29 rfl (At.cat (pre := [[(vI p0.Number)], [(vI p0.Version)], Flat.enc p0.Nonce]) (seg := [v0_1]) (post := [[v0_2], Flat.enc p0.Tag]) (hM.rawAt (pre := [_, _])) (cl1 (n := 1) (m := 17) rfl (cl1 (n := 1) (m := 16) rfl (cl1 (n := 16) (m := 0) (Flat.len _) cl0)))) ?_; intro a hE
  obtain ⟨r9, e10, hF⟩ := bind_some hF
  refine s_call (vs := [v0_1]) hE goes_none (by decide) rfl cb19 (c_laws_toByteS _ p0.Label v0_1 (hM.rdo hv0_1) r9 e10) ?_
  rintro u11 w a ⟨_, rfl, hFr, hK⟩ hE
  have hM := hM.add hK hFr
  refine s_fieldAddr hE goes_none (by decide) rfl (fd106_3) ?_; intro a hE
  have hM := hM.pull (pre := [_])
  refine s_store (seg := [u11]) (cs' := cat [[(vI p0.Number)], [(vI p0.Version)], Flat.enc r7, [u11], [(Value.slice none 0 0)], Flat.enc (Vector.replicate 32 (0 : UInt8))]) hE hM goes_none rfl rfl (sl_cells (hM.sl (pre := [_]) noB)) ty29 rfl (fit_cat (pre := [[(vI p0.Number)], [(vI p0.Version)], Flat.enc r7]) (seg := [(Value.slice none 0 0)]) (post := [[(Value.slice none 0 0)], Flat.enc (Vector.replicate 32 (0 : UInt8))]) (cl1 (n := 1) (m := 17) rfl (cl1 (n := 1) (m := 16) rfl (cl1 (n := 16) (m := 0) (Flat.len _) cl0))) (Eq.trans rfl (Eq.symm rfl))) (Rep.cell (hM.sl (pre := [_]) noB)) (splice_cat (pre := [[(vI p0.Number)], [(vI p0.Version)], Flat.enc r7]) (seg := [(Value.slice none 0 0)]) (post := [[(Value.slice none 0 0)], Flat.enc (Vector.replicate 32 (0 : UInt8))]) (cl1 (n := 1) (m := 17) rfl (cl1 (n := 1) (m := 16) rfl (cl1 (n := 16) (m := 0) (Flat.len _) cl0))) (Eq.trans rfl (Eq.symm rfl))) ?_; intro w a hM hE
  refine c_fin ?_
  refine c_region ?_
  refine s_fieldAddr hE goes_none (by decide) rfl (fd140_4) ?_; intro a hE
  refine s_load (v := v0_2) hE goes_none (by decide) rfl ty29 rfl (At.cat (pre := [[(vI p0.Number)], [(vI p0.Version)], Flat.enc p0.Nonce, [v0_1]]) (seg := [v0_2]) (post := [Flat.enc p0.Tag]) (hM.rawAt (pre := [_, _, _])) (cl1 (n := 1) (m := 18) rfl (cl1 (n := 1) (m := 17) rfl (cl1 (n := 16) (m := 1) (Flat.len _) (cl1 (n := 1) (m := 0) rfl cl0))))) ?_; intro a hE
  obtain ⟨r12, e13, hF⟩ := bind_some hF
  refine s_call (vs := [v0_2]) hE goes_none (by decide) rfl cb19 (c_laws_toByteS _ p0.Body v0_2 (hM.rdo hv0_2) r12 e13) ?_
  rintro u14 w a ⟨_, rfl, hFr, hK⟩ hE
  have hM := hM.add hK hFr
  refine s_fieldAddr hE goes_none (by decide) rfl (fd106_4) ?_; intro a hE
  have hM := hM.pull (pre := [_])
  refine s_store (seg := [u14]) (cs' := cat [[(vI p0.Number)], [(vI p0.Version)], Flat.enc r7, [u11], [u14], Flat.enc (Vector.replicate 32 (0 : UInt8))]) hE hM goes_none rfl rfl (sl_cells (hM.sl (pre := [_]) noB)) ty29 rfl (fit_cat (pre := [[(vI p0.Number)], [(vI p0.Version)], Flat.enc r7, [u11]]) (seg := [(Value.slice none 0 0)]) (post := [Flat.enc (Vector.replicate 32 (0 : UInt8))]) (cl1 (n := 1) (m := 18) rfl (cl1 (n := 1) (m := 17) rfl (cl1 (n := 16) (m := 1) (Flat.len _) (cl1 (n := 1) (m := 0) rfl cl0)))) (Eq.trans rfl (Eq.symm rfl))) (Rep.cell (hM.sl (pre := [_]) noB)) (splice_cat (pre := [[(vI p0.Number)], [(vI p0.Version)], Flat.enc r7, [u11]]) (seg := [(Value.slice none 0 0)]) (post := [Flat.enc (Vector.replicate 32 (0 : UInt8))]) (cl1 (n := 1) (m := 18) rfl (cl1 (n := 1) (m := 17) rfl (cl1 (n := 16) (m := 1) (Flat.len _) (cl1 (n := 1) (m := 0) rfl cl0)))) (Eq.trans rfl (Eq.symm rfl))) ?_; intro w a hM hE
  refine c_fin ?_
  refine c_region ?_
  refine s_fieldAddr hE goes_none (by decide) rfl (fd140_5) ?_; intro a hE
  refine s_loadA (cs := Flat.enc p0.Tag) hE goes_none (by decide) rfl ty39 rfl (At.cat (pre := [[(vI p0.Number)], [(vI p0.Version)], Flat.enc p0.Nonce, [v0_1], [v0_2]]) (seg := Flat.enc p0.Tag) (post := []) (hM.rawAt (pre := [_, _, _, _])) (cl1 (n := 1) (m := 19) rfl (cl1 (n := 1) (m := 18) rfl (cl1 (n := 16) (m := 2) (Flat.len _) (cl1 (n := 1) (m := 1) rfl (cl1 (n := 1) (m := 0) rfl cl0)))))) (Flat.len _) ?_; intro a hE
  obtain ⟨r15, e16, hF⟩ := bind_some hF
  refine s_call (vs := [(Value.agg (Flat.enc p0.Tag).toArray)]) hE goes_none (by decide) rfl cb80 (c_laws_toDigest _ p0.Tag r15 e16) ?_
  rintro v w a ⟨rfl, hK⟩ hE
  have hM := hM.keep hK
  refine s_fieldAddr hE goes_none (by decide) rfl (fd106_5) ?_; intro a hE
  refine s_store (seg := Flat.enc r15) (cs' := cat [[(vI p0.Number)], [(vI p0.Version)], Flat.enc r7, [u11], [u14], Flat.enc r15]) hE hM goes_none rfl rfl rfl ty47 (Flat.len _) (fit_cat (pre := [[(vI p0.Number)], [(vI p0.Version)], Flat.enc r7, [u11], [u14]]) (seg := Flat.enc (Vector.replicate 32 (0 : UInt8))) (post := []) (cl1 (n := 1) (m := 19) rfl (cl1 (n := 1) (m := 18) rfl (cl1 (n := 16) (m := 2) (Flat.len _) (cl1 (n := 1) (m := 1) rfl (cl1 (n := 1) (m := 0) rfl cl0))))) (Eq.trans (Flat.len _) (Eq.symm (Flat.len _)))) (Flat.cell _) (splice_cat (pre := [[(vI p0.Number)], [(vI p0.Version)], Flat.enc r7, [u11], [u14]]) (seg := Flat.enc (Vector.replicate 32 (0 : UInt8))) (post := []) (cl1 (n := 1) (m := 19) rfl (cl1 (n := 1) (m := 18) rfl (cl1 (n := 16) (m := 2) (Flat.len _) (cl1 (n := 1) (m := 1) rfl (cl1 (n := 1) (m := 0) rfl cl0))))) (Eq.trans (Flat.len _) (Eq.symm (Flat.len _)))) ?_; intro w a hM hE
  refine c_fin ?_
  refine c_region ?_
  refine s_loadA (cs := cat [[(vI p0.Number)], [(vI p0.Version)], Flat.enc r7, [u11], [u14], Flat.enc r15]) hE goes_none (by decide) rfl ty106 rfl (hM.rawAt (pre := [])) (cat_len (cl1 (n := 1) (m := 51) rfl (cl1 (n := 1) (m := 50) rfl (cl1 (n := 16) (m := 34) (Flat.len _) (cl1 (n := 1) (m := 33) rfl (cl1 (n := 1) (m := 32) rfl (cl1 (n := 32) (m := 0) (Flat.len _) cl0))))))) ?_; intro a hE
  have hM := hM.pull (pre := [_, _, _])
  refine s_store (seg := cat [[(vI p0.Number)], [(vI p0.Version)], Flat.enc r7, [u11], [u14], Flat.enc r15]) (cs' := cat [[(vI p0.Number)], [(vI p0.Version)], Flat.enc r7, [u11], [u14], Flat.enc r15]) hE hM goes_none rfl rfl rfl ty106 (cat_len (cl1 (n := 1) (m := 51) rfl (cl1 (n := 1) (m := 50) rfl (cl1 (n := 16) (m := 34) (Flat.len _) (cl1 (n := 1) (m := 33) rfl (cl1 (n := 1) (m := 32) rfl (cl1 (n := 32) (m := 0) (Flat.len _) cl0))))))) (Nat.le_of_eq (by rw [Nat.zero_add]; exact (Eq.trans (cat_len (cl1 (n := 1) (m := 51) rfl (cl1 (n := 1) (m := 50) rfl (cl1 (n := 16) (m := 34) (Flat.len _) (cl1 (n := 1) (m := 33) rfl (cl1 (n := 1) (m := 32) rfl (cl1 (n := 32) (m := 0) (Flat.len _) cl0))))))) (Eq.symm (cat_len (cl1 (n := 1) (m := 51) rfl (cl1 (n := 1) (m := 50) rfl (cl1 (n := 16) (m := 34) (Flat.len _) (cl1 (n := 1) (m := 33) rfl (cl1 (n := 1) (m := 32) rfl (cl1 (n := 32) (m := 0) (Flat.len _) cl0))))))))))) (cat_cell (cc1 (Flat.cell p0.Number) (cc1 (Flat.cell p0.Version) (cc1 (Flat.cell _) (cc1 (Rep.cell (hM.sl (pre := [_, _, _]) noB)) (cc1 (Rep.cell (hM.sl (pre := [_, _]) noB)) (cc1 (Flat.cell _) cc0))))))) (splice_all (Eq.trans (cat_len (cl1 (n := 1) (m := 51) rfl (cl1 (n := 1) (m := 50) rfl (cl1 (n := 16) (m := 34) (Flat.len _) (cl1 (n := 1) (m := 33) rfl (cl1 (n := 1) (m := 32) rfl (cl1 (n := 32) (m := 0) (Flat.len _) cl0))))))) (Eq.symm (cat_len (cl1 (n := 1) (m := 51) rfl (cl1 (n := 1) (m := 50) rfl (cl1 (n := 16) (m := 34) (Flat.len _) (cl1 (n := 1) (m := 33) rfl (cl1 (n := 1) (m := 32) rfl (cl1 (n := 32) (m := 0) (Flat.len _) cl0)))))))))) ?_; intro w a hM hE
  refine c_fin ?_
  have hr := Option.some.inj hF
  subst hr
  have hq17 : ResIs Try.prog _ _ (.cell 2 106) _ := res_cell hE rfl ty106 rfl (hM.rawAt (pre := [])) (cat_len (cl1 (n := 1) (m := 51) rfl (cl1 (n := 1) (m := 50) rfl (cl1 (n := 16) (m := 34) (Flat.len _) (cl1 (n := 1) (m := 33) rfl (cl1 (n := 1) (m := 32) rfl (cl1 (n := 32) (m := 0) (Flat.len _) cl0))))))) rfl
  have hM := hM.pull (pre := [_, _])
  have hM := hM.pull (pre := [_, _, _])
  have hM := M.fst (l := [_, _]) hM
  exact wp_ret (k_ret1 hE rfl hq17 ⟨_, rfl, u11, u14, rfl, hM.outF (locN1 (locN1 locN0)), hM.kept⟩)
noncomputable def L0_laws_toRecordS (p0 : (List GRecord)) (s10 : (List GRecord) × Int) : Option (Fl ((List GRecord) × Int) (List GRecord)) :=
  if (decide (s10.2 < (p0.length : Int))) = true then ((idx p0 s10.2).bind fun (x17 : GRecord) => (F_laws_toRecord x17).bind fun (r27 : GRecord) => (idx s10.1 s10.2).bind fun (x31 : GRecord) => some (Fl.nx ((s10.1.set (s10.2).toNat r27), wr (s10.2 + 1)))) else (some (Fl.ex s10.1))
noncomputable def F_laws_toRecordS (p0 : (List GRecord)) : Option ((List GRecord)) :=
  (mkS 112 (⟨(0 : Int), (0 : Int), (Vector.replicate 16 (0 : UInt8)), ([] : (List UInt8)), ([] : (List UInt8)), (Vector.replicate 32 (0 : UInt8))⟩ : GRecord) (p0.length : Int)).bind fun (l1 : (List GRecord)) => (iter (L0_laws_toRecordS p0) (l1, 0) : Option ((List GRecord))).bind fun (j5 : (List GRecord)) => some j5
set_option maxRecDepth 20000 in
set_option maxHeartbeats 400000 in
theorem c_laws_toRecordS (w0 : World) (p0 : (List GRecord)) (v0_1 : Value) (hv0_1 : Ro w0 p0 [v0_1]) (r : (List GRecord)) (hF : F_laws_toRecordS p0 = some r) :
    Calls Try.prog 78 [v0_1].toArray w0 (fun en w' => ∃ v, en = .returned v ∧ (∃ (y1 : Value), v = y1 ∧ Fr w0 w' [osl NoB (r : List GRecord) y1] ∧ Kept (Old w0) w0 w')) := by
  refine c_enter (n := 23) Try.func78 rfl rfl (Nat.le_of_ble_eq_true rfl) rfl ?_
  intro a hE
  have hM := M.start w0
  unfold F_laws_toRecordS at hF
  refine c_region ?_
  refine s_assign hE goes_none (by decide) rfl ?_; intro a hE
  refine c_fin ?_
  refine c_region ?_
  refine s_move hE goes_none (by decide) rfl ?_; intro a hE
  refine s_len hE goes_none (by decide) rfl Try.underlying37 (hM.rd hv0_1) ?_; intro a hE
  obtain ⟨l1, e2, hF⟩ := bind_some hF
  refine s_make hE hM goes_none (by decide) rfl rfl Try.underlying45 ty106 rfl (by decide) zsat_GRecord e2 ?_; intro u3 w a hM hE
  refine s_assign hE goes_none (by decide) rfl ?_; intro a hE
  refine c_fin ?_
  refine wp_seq ?_
  refine c_region ?_
  refine s_assign hE goes_none (by decide) rfl ?_; intro a hE
  refine c_fin ?_
  obtain ⟨j5, hl6, hF7⟩ := bind_some hF
  refine c_cut (fun a w => ∃ (u8 : Value), Env 23 a [(3, u8)] ∧ M (Old w0) w0 w [osl NoB (j5 : List GRecord) u8]) ?_ ?_
  · skip
    refine wp_block ?_
    refine c_loop (fun (s10 : (List GRecord) × Int) a w => ∃ (u11 : Value), Env 23 a [(0, v0_1), (3, u11), (4, (vI s10.2))] ∧ M (Old w0) w0 w [osl NoB (s10.1 : List GRecord) u11]) hl6 ⟨u3, hE.sub ⟨rfl, rfl, rfl, trivial⟩, hM⟩ ?_
    rintro s10 a w ⟨u11, hE, hM⟩ o15 hs13 hx14
    unfold L0_laws_toRecordS at hs13
    refine wp_seq ?_
    refine c_region ?_
    refine s_move hE goes_none (by decide) rfl ?_; intro a hE
    refine s_move hE goes_none (by decide) rfl ?_; intro a hE
    refine s_len hE goes_none (by decide) rfl Try.underlying37 (hM.rd hv0_1) ?_; intro a hE
    refine s_int hE goes_none (by decide) rfl rfl rfl ?_; intro a hE
    refine c_fin ?_
    refine c_cond hE rfl ?_ ?_
    · intro hb16
      have hs13 := ite_t hs13 hb16
      refine wp_skip ?_
      refine c_nx ?_
      refine wp_seq ?_
      refine wp_block ?_
      refine wp_region_lit ?_
      refine s_move hE goes_none (by decide) rfl ?_; intro a hE
      refine s_move hE goes_none (by decide) rfl ?_; intro a hE
      refine s_move hE goes_none (by decide) rfl ?_; intro a hE
      refine s_move hE goes_none (by decide) rfl ?_; intro a hE
      obtain ⟨x17, e18, hs13⟩ := bind_some hs13
      have hi19 := idx_some e18
      refine s_indexS hE goes_none (by decide) rfl rfl Try.underlying37 ty140 (hM.rd hv0_1) hi19.1 ?_; intro a hE
      obtain ⟨cs20, hs21, hA22⟩ := sl_atRo hv0_1 hi19.2 -- ^
      obtain ⟨u23, u25, rfl, h24, h26⟩ := un_GRecord hs21 -- ^
      refine s_loadA (cs := cat [[(vI x17.Number)], [(vI x17.Version)], Flat.enc x17.Nonce, [u23], [u25], Flat.enc x17.Tag]) hE goes_none (by decide) rfl ty140 rfl (hM.atk hA22 (sl_blk hv0_1 hi19.2)) (cat_len (cl1 (n := 1) (m := 51) rfl (cl1 (n := 1) (m := 50) rfl (cl1 (n := 16) (m := 34) (Flat.len _) (cl1 (n := 1) (m := 33) rfl (cl1 (n := 1) (m := 32) rfl (cl1 (n := 32) (m := 0) (Flat.len _) cl0))))))) ?_; intro a hE
      obtain ⟨r27, e28, hs13⟩ := bind_some hs13
      refine s_call (vs := [(Value.agg (cat [[(vI x17.Number)], [(vI x17.Version)], Flat.enc x17.Nonce, [u23], [u25], Flat.enc x17.Tag]).toArray)]) hE goes_none (by decide) rfl cb128 (c_laws_toRecord _ x17 u23 (hM.rdo h24) u25 (hM.rdo h26) r27 e28) ?_
      rintro v w a ⟨u29, u30, rfl, hFr, hK⟩ hE
      have hM := hM.add hK hFr
      obtain ⟨x31, e32, hs13⟩ := bind_some hs13
      have hi33 := idx_some e32
      refine s_indexS hE goes_none (by decide) rfl rfl Try.underlying45 ty106 (hM.sl (pre := [_, _]) noB) hi33.1 ?_; intro a hE
      have hM := hM.pull (pre := [_])
      have hM := hM.pull (pre := [_])
      have hM := hM.pack2 (it := own NoB r27 (cat [[(vI r27.Number)], [(vI r27.Version)], Flat.enc r27.Nonce, [u29], [u30], Flat.enc r27.Tag])) (own_loc noB) (fun f0 f1 q0 q1 => (pk_GRecord (OwnSl.sat q0) (OwnSl.sat q1) (by simp)))
      have hM := hM.pull (pre := [_])
      have hM := hM.pull (pre := [_])
      refine s_storeR (i := (s10.2).toNat) (seg := cat [[(vI r27.Number)], [(vI r27.Version)], Flat.enc r27.Nonce, [u29], [u30], Flat.enc r27.Tag]) hE hM noB goes_none rfl rfl rfl ty106 (by omega) ?_; intro w a hM hE
      refine c_fin0 ?_
      refine c_nb ?_
      refine c_nx ?_
      refine wp_region_lit ?_
      refine s_move hE goes_none (by decide) rfl ?_; intro a hE
      refine s_int hE goes_none (by decide) rfl rfl rfl ?_; intro a hE
      refine s_assign hE goes_none (by decide) rfl ?_; intro a hE
      refine c_fin0 ?_
      refine c_mid ?_
      exact ⟨_, (Option.some.inj hs13).symm, u11, hE.sub ⟨rfl, rfl, rfl, trivial⟩, hM⟩
    · intro hb16
      have hs13 := ite_f hs13 hb16
      refine wp_exit (e_then (e_then (e_eq ?_)))
      have ht34 := hx14 _ (Option.some.inj hs13).symm
      subst ht34
      refine c_mid ?_
      exact ⟨u11, hE.sub ⟨rfl, trivial⟩, hM⟩
  · skip
    rintro a w ⟨u8, hE, hM⟩
    refine c_nx ?_
    refine c_region ?_
    refine s_move hE goes_none (by decide) rfl ?_; intro a hE
    refine s_assign hE goes_none (by decide) rfl ?_; intro a hE
    refine c_fin ?_
    have hr := Option.some.inj hF7
    subst hr
    exact wp_ret (k_ret1 hE rfl (res_tmp hE rfl) ⟨_, rfl, u8, rfl, hM.outF (locN1 locN0), hM.kept⟩)
noncomputable def F_laws_toEvent (p0 : GEvent) : Option (GEvent) :=
  (F_laws_toDigest p0.Tag).bind fun (r7 : (Vector UInt8 32)) => some (⟨p0.Kind, p0.Number, r7⟩ : GEvent)
set_option maxRecDepth 20000 in
set_option maxHeartbeats 400000 in
theorem c_laws_toEvent (w0 : World) (p0 : GEvent) (r : GEvent) (hF : F_laws_toEvent p0 = some r) :
    Calls Try.prog 129 [(Value.agg (Flat.enc p0).toArray)].toArray w0 (fun en w' => ∃ v, en = .returned v ∧ (v = (Value.agg (Flat.enc r).toArray) ∧ Kept (Old w0) w0 w')) := by
  refine c_enter (n := 15) Try.func129 rfl rfl (Nat.le_of_ble_eq_true rfl) rfl ?_
  intro a hE
  have hM := M.start w0
  unfold F_laws_toEvent at hF
  refine c_region ?_
  refine s_box (cs := cat [[(vI p0.Kind)], [(vI p0.Number)], Flat.enc p0.Tag]) hE hM goes_none (by decide) rfl rfl ?_; intro b1 w a hM hE
  refine s_alloc hE hM goes_none (by decide) ty109 ?_; intro b3 w a hM hE
  refine c_fin ?_
  refine c_region ?_
  refine s_alloc hE hM goes_none (by decide) ty109 ?_; intro b5 w a hM hE
  refine c_fin ?_
  refine c_region ?_
  refine s_fieldAddr hE goes_none (by decide) rfl (fd145_0) ?_; intro a hE
  refine s_load (v := (vI p0.Kind)) hE goes_none (by decide) rfl ty2 rfl (At.cat (pre := []) (seg := [(vI p0.Kind)]) (post := [[(vI p0.Number)], Flat.enc p0.Tag]) (hM.rawAt (pre := [_, _])) cl0) ?_; intro a hE
  refine s_fieldAddr hE goes_none (by decide) rfl (fd109_0) ?_; intro a hE
  refine s_store (seg := [(vI p0.Kind)]) (cs' := cat [[(vI p0.Kind)], [(vI 0)], Flat.enc (Vector.replicate 32 (0 : UInt8))]) hE hM goes_none rfl rfl rfl ty2 rfl (fit_cat (pre := []) (seg := [(vI 0)]) (post := [[(vI 0)], Flat.enc (Vector.replicate 32 (0 : UInt8))]) cl0 (Eq.trans rfl (Eq.symm rfl))) (Flat.cell p0.Kind) (splice_cat (pre := []) (seg := [(vI 0)]) (post := [[(vI 0)], Flat.enc (Vector.replicate 32 (0 : UInt8))]) cl0 (Eq.trans rfl (Eq.symm rfl))) ?_; intro w a hM hE
  refine c_fin ?_
  refine c_region ?_
  refine s_fieldAddr hE goes_none (by decide) rfl (fd145_1) ?_; intro a hE
  refine s_load (v := (vI p0.Number)) hE goes_none (by decide) rfl ty2 rfl (At.cat (pre := [[(vI p0.Kind)]]) (seg := [(vI p0.Number)]) (post := [Flat.enc p0.Tag]) (hM.rawAt (pre := [_, _])) (cl1 (n := 1) (m := 0) rfl cl0)) ?_; intro a hE
  refine s_fieldAddr hE goes_none (by decide) rfl (fd109_1) ?_; intro a hE
  refine s_store (seg := [(vI p0.Number)]) (cs' := cat [[(vI p0.Kind)], [(vI p0.Number)], Flat.enc (Vector.replicate 32 (0 : UInt8))]) hE hM goes_none rfl rfl rfl ty2 rfl (fit_cat (pre := [[(vI p0.Kind)]]) (seg := [(vI 0)]) (post := [Flat.enc (Vector.replicate 32 (0 : UInt8))]) (cl1 (n := 1) (m := 0) rfl cl0) (Eq.trans rfl (Eq.symm rfl))) (Flat.cell p0.Number) (splice_cat (pre := [[(vI p0.Kind)]]) (seg := [(vI 0)]) (post := [Flat.enc (Vector.replicate 32 (0 : UInt8))]) (cl1 (n := 1) (m := 0) rfl cl0) (Eq.trans rfl (Eq.symm rfl))) ?_; intro w a hM hE
  refine c_fin ?_
  refine c_region ?_
  refine s_fieldAddr hE goes_none (by decide) rfl (fd145_2) ?_; intro a hE
  refine s_loadA (cs := Flat.enc p0.Tag) hE goes_none (by decide) rfl ty39 rfl (At.cat (pre := [[(vI p0.Kind)], [(vI p0.Number)]]) (seg := Flat.enc p0.Tag) (post := []) (hM.rawAt (pre := [_, _])) (cl1 (n := 1) (m := 1) rfl (cl1 (n := 1) (m := 0) rfl cl0))) (Flat.len _) ?_; intro a hE
  obtain ⟨r7, e8, hF⟩ := bind_some hF
  refine s_call (vs := [(Value.agg (Flat.enc p0.Tag).toArray)]) hE goes_none (by decide) rfl cb80 (c_laws_toDigest _ p0.Tag r7 e8) ?_
  rintro v w a ⟨rfl, hK⟩ hE
  have hM := hM.keep hK
  refine s_fieldAddr hE goes_none (by decide) rfl (fd109_2) ?_; intro a hE
  refine s_store (seg := Flat.enc r7) (cs' := cat [[(vI p0.Kind)], [(vI p0.Number)], Flat.enc r7]) hE hM goes_none rfl rfl rfl ty47 (Flat.len _) (fit_cat (pre := [[(vI p0.Kind)], [(vI p0.Number)]]) (seg := Flat.enc (Vector.replicate 32 (0 : UInt8))) (post := []) (cl1 (n := 1) (m := 1) rfl (cl1 (n := 1) (m := 0) rfl cl0)) (Eq.trans (Flat.len _) (Eq.symm (Flat.len _)))) (Flat.cell _) (splice_cat (pre := [[(vI p0.Kind)], [(vI p0.Number)]]) (seg := Flat.enc (Vector.replicate 32 (0 : UInt8))) (post := []) (cl1 (n := 1) (m := 1) rfl (cl1 (n := 1) (m := 0) rfl cl0)) (Eq.trans (Flat.len _) (Eq.symm (Flat.len _)))) ?_; intro w a hM hE
  refine c_fin ?_
  refine c_region ?_
  refine s_loadA (cs := Flat.enc (⟨p0.Kind, p0.Number, r7⟩ : GEvent)) hE goes_none (by decide) rfl ty109 rfl (hM.rawAt (pre := [])) (cat_len (cl1 (n := 1) (m := 33) rfl (cl1 (n := 1) (m := 32) rfl (cl1 (n := 32) (m := 0) (Flat.len _) cl0)))) ?_; intro a hE
  have hM := hM.pull (pre := [_])
  refine s_store (seg := cat [[(vI ((⟨p0.Kind, p0.Number, r7⟩ : GEvent).Kind))], [(vI ((⟨p0.Kind, p0.Number, r7⟩ : GEvent).Number))], Flat.enc ((⟨p0.Kind, p0.Number, r7⟩ : GEvent).Tag)]) (cs' := cat [[(vI ((⟨p0.Kind, p0.Number, r7⟩ : GEvent).Kind))], [(vI ((⟨p0.Kind, p0.Number, r7⟩ : GEvent).Number))], Flat.enc ((⟨p0.Kind, p0.Number, r7⟩ : GEvent).Tag)]) hE hM goes_none rfl rfl rfl ty109 (cat_len (cl1 (n := 1) (m := 33) rfl (cl1 (n := 1) (m := 32) rfl (cl1 (n := 32) (m := 0) (Flat.len _) cl0)))) (Nat.le_of_eq (by rw [Nat.zero_add]; exact (Eq.trans (cat_len (cl1 (n := 1) (m := 33) rfl (cl1 (n := 1) (m := 32) rfl (cl1 (n := 32) (m := 0) (Flat.len _) cl0)))) (Eq.symm (cat_len (cl1 (n := 1) (m := 33) rfl (cl1 (n := 1) (m := 32) rfl (cl1 (n := 32) (m := 0) (Flat.len _) cl0)))))))) (cat_cell (cc1 (Flat.cell ((⟨p0.Kind, p0.Number, r7⟩ : GEvent).Kind)) (cc1 (Flat.cell ((⟨p0.Kind, p0.Number, r7⟩ : GEvent).Number)) (cc1 (Flat.cell _) cc0)))) (splice_all (Eq.trans (cat_len (cl1 (n := 1) (m := 33) rfl (cl1 (n := 1) (m := 32) rfl (cl1 (n := 32) (m := 0) (Flat.len _) cl0)))) (Eq.symm (cat_len (cl1 (n := 1) (m := 33) rfl (cl1 (n := 1) (m := 32) rfl (cl1 (n := 32) (m := 0) (Flat.len _) cl0))))))) ?_; intro w a hM hE
  refine c_fin ?_
  have hr := Option.some.inj hF
  subst hr
  have hq9 : ResIs Try.prog _ _ (.cell 2 109) _ := res_cell hE rfl ty109 rfl (hM.rawAt (pre := [])) (cat_len (cl1 (n := 1) (m := 33) rfl (cl1 (n := 1) (m := 32) rfl (cl1 (n := 32) (m := 0) (Flat.len _) cl0)))) rfl
  have hM := M.fst (l := []) hM
  exact wp_ret (k_ret1 hE rfl hq9 ⟨_, rfl, rfl, hM.kept⟩)
noncomputable def L0_laws_toEventS (p0 : (List GEvent)) (s10 : (List GEvent) × Int) : Option (Fl ((List GEvent) × Int) (List GEvent)) :=
  if (decide (s10.2 < (p0.length : Int))) = true then ((idx p0 s10.2).bind fun (x17 : GEvent) => (F_laws_toEvent x17).bind fun (r20 : GEvent) => (idx s10.1 s10.2).bind fun (x22 : GEvent) => some (Fl.nx ((s10.1.set (s10.2).toNat r20), wr (s10.2 + 1)))) else (some (Fl.ex s10.1))
noncomputable def F_laws_toEventS (p0 : (List GEvent)) : Option ((List GEvent)) :=
  (mkS 48 (⟨(0 : Int), (0 : Int), (Vector.replicate 32 (0 : UInt8))⟩ : GEvent) (p0.length : Int)).bind fun (l1 : (List GEvent)) => (iter (L0_laws_toEventS p0) (l1, 0) : Option ((List GEvent))).bind fun (j5 : (List GEvent)) => some j5
set_option maxRecDepth 20000 in
set_option maxHeartbeats 400000 in
theorem c_laws_toEventS (w0 : World) (p0 : (List GEvent)) (v0_1 : Value) (hv0_1 : Ro w0 p0 [v0_1]) (r : (List GEvent)) (hF : F_laws_toEventS p0 = some r) :
    Calls Try.prog 79 [v0_1].toArray w0 (fun en w' => ∃ v, en = .returned v ∧ (∃ (y1 : Value), v = y1 ∧ Fr w0 w' [osl NoB (r : List GEvent) y1] ∧ Kept (Old w0) w0 w')) := by
  refine c_enter (n := 23) Try.func79 rfl rfl (Nat.le_of_ble_eq_true rfl) rfl ?_
  intro a hE
  have hM := M.start w0
  unfold F_laws_toEventS at hF
  refine c_region ?_
  refine s_assign hE goes_none (by decide) rfl ?_; intro a hE
  refine c_fin ?_
  refine c_region ?_
  refine s_move hE goes_none (by decide) rfl ?_; intro a hE
  refine s_len hE goes_none (by decide) rfl Try.underlying38 (hM.rd hv0_1) ?_; intro a hE
  obtain ⟨l1, e2, hF⟩ := bind_some hF
  refine s_make hE hM goes_none (by decide) rfl rfl Try.underlying46 ty109 rfl (by decide) (fun _ => sat_flat.2 ⟨rfl, rfl⟩) e2 ?_; intro u3 w a hM hE
  refine s_assign hE goes_none (by decide) rfl ?_; intro a hE
  refine c_fin ?_
  refine wp_seq ?_
  refine c_region ?_
  refine s_assign hE goes_none (by decide) rfl ?_; intro a hE
  refine c_fin ?_
  obtain ⟨j5, hl6, hF7⟩ := bind_some hF
  refine c_cut (fun a w => ∃ (u8 : Value), Env 23 a [(3, u8)] ∧ M (Old w0) w0 w [osl NoB (j5 : List GEvent) u8]) ?_ ?_
  · skip
    refine wp_block ?_
    refine c_loop (fun (s10 : (List GEvent) × Int) a w => ∃ (u11 : Value), Env 23 a [(0, v0_1), (3, u11), (4, (vI s10.2))] ∧ M (Old w0) w0 w [osl NoB (s10.1 : List GEvent) u11]) hl6 ⟨u3, hE.sub ⟨rfl, rfl, rfl, trivial⟩, hM⟩ ?_
    rintro s10 a w ⟨u11, hE, hM⟩ o15 hs13 hx14
    unfold L0_laws_toEventS at hs13
    refine wp_seq ?_
    refine c_region ?_
    refine s_move hE goes_none (by decide) rfl ?_; intro a hE
    refine s_move hE goes_none (by decide) rfl ?_; intro a hE
    refine s_len hE goes_none (by decide) rfl Try.underlying38 (hM.rd hv0_1) ?_; intro a hE
    refine s_int hE goes_none (by decide) rfl rfl rfl ?_; intro a hE
    refine c_fin ?_
    refine c_cond hE rfl ?_ ?_
    · intro hb16
      have hs13 := ite_t hs13 hb16
      refine wp_skip ?_
      refine c_nx ?_
      refine wp_seq ?_
      refine wp_block ?_
      refine wp_region_lit ?_
      refine s_move hE goes_none (by decide) rfl ?_; intro a hE
      refine s_move hE goes_none (by decide) rfl ?_; intro a hE
      refine s_move hE goes_none (by decide) rfl ?_; intro a hE
      refine s_move hE goes_none (by decide) rfl ?_; intro a hE
      obtain ⟨x17, e18, hs13⟩ := bind_some hs13
      have hi19 := idx_some e18
      refine s_indexS hE goes_none (by decide) rfl rfl Try.underlying38 ty145 (hM.rd hv0_1) hi19.1 ?_; intro a hE
      refine s_loadA (cs := Flat.enc x17) hE goes_none (by decide) rfl ty145 rfl (sl_atF (hM.rd hv0_1) hi19.2) (cat_len (cl1 (n := 1) (m := 33) rfl (cl1 (n := 1) (m := 32) rfl (cl1 (n := 32) (m := 0) (Flat.len _) cl0)))) ?_; intro a hE
      obtain ⟨r20, e21, hs13⟩ := bind_some hs13
      refine s_call (vs := [(Value.agg (Flat.enc x17).toArray)]) hE goes_none (by decide) rfl cb129 (c_laws_toEvent _ x17 r20 e21) ?_
      rintro v w a ⟨rfl, hK⟩ hE
      have hM := hM.keep hK
      obtain ⟨x22, e23, hs13⟩ := bind_some hs13
      have hi24 := idx_some e23
      refine s_indexS hE goes_none (by decide) rfl rfl Try.underlying46 ty109 (hM.sl (pre := []) noB) hi24.1 ?_; intro a hE
      refine s_storeS (i := (s10.2).toNat) (k0 := 0) (seg := cat [[(vI r20.Kind)], [(vI r20.Number)], Flat.enc r20.Tag]) (xo := x22) (xn := r20) hE hM goes_none rfl rfl rfl ty109 (cat_len (cl1 (n := 1) (m := 33) rfl (cl1 (n := 1) (m := 32) rfl (cl1 (n := 32) (m := 0) (Flat.len _) cl0)))) (cat_cell (cc1 (Flat.cell r20.Kind) (cc1 (Flat.cell r20.Number) (cc1 (Flat.cell _) cc0)))) hi24.2 (fit_num (m := 34) (cat_len (cl1 (n := 1) (m := 33) rfl (cl1 (n := 1) (m := 32) rfl (cl1 (n := 32) (m := 0) (Flat.len _) cl0)))) (by decide)) (splice_all (Eq.trans (cat_len (cl1 (n := 1) (m := 33) rfl (cl1 (n := 1) (m := 32) rfl (cl1 (n := 32) (m := 0) (Flat.len _) cl0)))) (Eq.symm (cat_len (cl1 (n := 1) (m := 33) rfl (cl1 (n := 1) (m := 32) rfl (cl1 (n := 32) (m := 0) (Flat.len _) cl0))))))) ?_; intro w a hM hE
      refine c_fin0 ?_
      refine c_nb ?_
      refine c_nx ?_
      refine wp_region_lit ?_
      refine s_move hE goes_none (by decide) rfl ?_; intro a hE
      refine s_int hE goes_none (by decide) rfl rfl rfl ?_; intro a hE
      refine s_assign hE goes_none (by decide) rfl ?_; intro a hE
      refine c_fin0 ?_
      refine c_mid ?_
      exact ⟨_, (Option.some.inj hs13).symm, u11, hE.sub ⟨rfl, rfl, rfl, trivial⟩, hM⟩
    · intro hb16
      have hs13 := ite_f hs13 hb16
      refine wp_exit (e_then (e_then (e_eq ?_)))
      have ht25 := hx14 _ (Option.some.inj hs13).symm
      subst ht25
      refine c_mid ?_
      exact ⟨u11, hE.sub ⟨rfl, trivial⟩, hM⟩
  · skip
    rintro a w ⟨u8, hE, hM⟩
    refine c_nx ?_
    refine c_region ?_
    refine s_move hE goes_none (by decide) rfl ?_; intro a hE
    refine s_assign hE goes_none (by decide) rfl ?_; intro a hE
    refine c_fin ?_
    have hr := Option.some.inj hF7
    subst hr
    exact wp_ret (k_ret1 hE rfl (res_tmp hE rfl) ⟨_, rfl, u8, rfl, hM.outF (locN1 locN0), hM.kept⟩)
noncomputable def F_laws_toVault (p0 : GVault) : Option (GVault) :=
  (F_laws_toBlockS p0.Keys).bind fun (r7 : (List (Vector UInt8 16))) => (F_laws_toRecordS p0.Records).bind fun (r10 : (List GRecord)) => (F_laws_toEventS p0.Events).bind fun (r13 : (List GEvent)) => (F_laws_toDigest p0.Head).bind fun (r16 : (Vector UInt8 32)) => some (⟨r7, p0.Next, r10, r13, r16⟩ : GVault)
set_option maxRecDepth 20000 in
set_option maxHeartbeats 400000 in
theorem c_laws_toVault (w0 : World) (p0 : GVault) (v0_1 : Value) (hv0_1 : Ro w0 p0.Keys [v0_1]) (v0_2 : Value) (hv0_2 : Ro w0 p0.Records [v0_2]) (v0_3 : Value) (hv0_3 : Ro w0 p0.Events [v0_3]) (r : GVault) (hF : F_laws_toVault p0 = some r) :
    Calls Try.prog 26 [(Value.agg (cat [[v0_1], [(vI p0.Next)], [v0_2], [v0_3], Flat.enc p0.Head]).toArray)].toArray w0 (fun en w' => ∃ v, en = .returned v ∧ (∃ (y1 : Value) (y2 : Value) (y3 : Value), v = (Value.agg (cat [[y1], [(vI r.Next)], [y2], [y3], Flat.enc r.Head]).toArray) ∧ Fr w0 w' [osl NoB (r.Keys : List (Vector UInt8 16)) y1, osl NoB (r.Records : List GRecord) y2, osl NoB (r.Events : List GEvent) y3] ∧ Kept (Old w0) w0 w')) := by
  refine c_enter (n := 24) Try.func26 rfl rfl (Nat.le_of_ble_eq_true rfl) rfl ?_
  intro a hE
  have hM := M.start w0
  unfold F_laws_toVault at hF
  refine c_region ?_
  refine s_box (cs := cat [[v0_1], [(vI p0.Next)], [v0_2], [v0_3], Flat.enc p0.Head]) hE hM goes_none (by decide) rfl rfl ?_; intro b1 w a hM hE
  refine s_alloc hE hM goes_none (by decide) ty49 ?_; intro b3 w a hM hE
  refine c_fin ?_
  refine c_region ?_
  refine s_alloc hE hM goes_none (by decide) ty49 ?_; intro b5 w a hM hE
  refine c_fin ?_
  refine c_region ?_
  refine s_fieldAddr hE goes_none (by decide) rfl (fd41_0) ?_; intro a hE
  refine s_load (v := v0_1) hE goes_none (by decide) rfl ty36 rfl (At.cat (pre := []) (seg := [v0_1]) (post := [[(vI p0.Next)], [v0_2], [v0_3], Flat.enc p0.Head]) (hM.rawAt (pre := [_, _])) cl0) ?_; intro a hE
  obtain ⟨r7, e8, hF⟩ := bind_some hF
  refine s_call (vs := [v0_1]) hE goes_none (by decide) rfl cb77 (c_laws_toBlockS _ p0.Keys v0_1 (hM.rdo hv0_1) r7 e8) ?_
  rintro u9 w a ⟨_, rfl, hFr, hK⟩ hE
  have hM := hM.add hK hFr
  refine s_fieldAddr hE goes_none (by decide) rfl (fd49_0) ?_; intro a hE
  have hM := hM.pull (pre := [_])
  refine s_store (seg := [u9]) (cs' := cat [[u9], [(vI 0)], [(Value.slice none 0 0)], [(Value.slice none 0 0)], Flat.enc (Vector.replicate 32 (0 : UInt8))]) hE hM goes_none rfl rfl (sl_cells (hM.sl (pre := [_]) noB)) ty44 rfl (fit_cat (pre := []) (seg := [(Value.slice none 0 0)]) (post := [[(vI 0)], [(Value.slice none 0 0)], [(Value.slice none 0 0)], Flat.enc (Vector.replicate 32 (0 : UInt8))]) cl0 (Eq.trans rfl (Eq.symm rfl))) (Rep.cell (hM.sl (pre := [_]) noB)) (splice_cat (pre := []) (seg := [(Value.slice none 0 0)]) (post := [[(vI 0)], [(Value.slice none 0 0)], [(Value.slice none 0 0)], Flat.enc (Vector.replicate 32 (0 : UInt8))]) cl0 (Eq.trans rfl (Eq.symm rfl))) ?_; intro w a hM hE
  refine c_fin ?_
  refine c_region ?_
  refine s_fieldAddr hE goes_none (by decide) rfl (fd41_1) ?_; intro a hE
  refine s_load (v := (vI p0.Next)) hE goes_none (by decide) rfl ty2 rfl (At.cat (pre := [[v0_1]]) (seg := [(vI p0.Next)]) (post := [[v0_2], [v0_3], Flat.enc p0.Head]) (hM.rawAt (pre := [_, _, _])) (cl1 (n := 1) (m := 0) rfl cl0)) ?_; intro a hE
  refine s_fieldAddr hE goes_none (by decide) rfl (fd49_1) ?_; intro a hE
  refine s_store (seg := [(vI p0.Next)]) (cs' := cat [[u9], [(vI p0.Next)], [(Value.slice none 0 0)], [(Value.slice none 0 0)], Flat.enc (Vector.replicate 32 (0 : UInt8))]) hE hM goes_none rfl rfl rfl ty2 rfl (fit_cat (pre := [[u9]]) (seg := [(vI 0)]) (post := [[(Value.slice none 0 0)], [(Value.slice none 0 0)], Flat.enc (Vector.replicate 32 (0 : UInt8))]) (cl1 (n := 1) (m := 0) rfl cl0) (Eq.trans rfl (Eq.symm rfl))) (Flat.cell p0.Next) (splice_cat (pre := [[u9]]) (seg := [(vI 0)]) (post := [[(Value.slice none 0 0)], [(Value.slice none 0 0)], Flat.enc (Vector.replicate 32 (0 : UInt8))]) (cl1 (n := 1) (m := 0) rfl cl0) (Eq.trans rfl (Eq.symm rfl))) ?_; intro w a hM hE
  refine c_fin ?_
  refine c_region ?_
  refine s_fieldAddr hE goes_none (by decide) rfl (fd41_2) ?_; intro a hE
  refine s_load (v := v0_2) hE goes_none (by decide) rfl ty37 rfl (At.cat (pre := [[v0_1], [(vI p0.Next)]]) (seg := [v0_2]) (post := [[v0_3], Flat.enc p0.Head]) (hM.rawAt (pre := [_, _, _])) (cl1 (n := 1) (m := 1) rfl (cl1 (n := 1) (m := 0) rfl cl0))) ?_; intro a hE
  obtain ⟨r10, e11, hF⟩ := bind_some hF
  refine s_call (vs := [v0_2]) hE goes_none (by decide) rfl cb78 (c_laws_toRecordS _ p0.Records v0_2 (hM.rdo hv0_2) r10 e11) ?_
  rintro u12 w a ⟨_, rfl, hFr, hK⟩ hE
  have hM := hM.add hK hFr
  refine s_fieldAddr hE goes_none (by decide) rfl (fd49_2) ?_; intro a hE
  have hM := hM.pull (pre := [_])
  refine s_store (seg := [u12]) (cs' := cat [[u9], [(vI p0.Next)], [u12], [(Value.slice none 0 0)], Flat.enc (Vector.replicate 32 (0 : UInt8))]) hE hM goes_none rfl rfl (sl_cells (hM.sl (pre := [_]) noB)) ty45 rfl (fit_cat (pre := [[u9], [(vI p0.Next)]]) (seg := [(Value.slice none 0 0)]) (post := [[(Value.slice none 0 0)], Flat.enc (Vector.replicate 32 (0 : UInt8))]) (cl1 (n := 1) (m := 1) rfl (cl1 (n := 1) (m := 0) rfl cl0)) (Eq.trans rfl (Eq.symm rfl))) (Rep.cell (hM.sl (pre := [_]) noB)) (splice_cat (pre := [[u9], [(vI p0.Next)]]) (seg := [(Value.slice none 0 0)]) (post := [[(Value.slice none 0 0)], Flat.enc (Vector.replicate 32 (0 : UInt8))]) (cl1 (n := 1) (m := 1) rfl (cl1 (n := 1) (m := 0) rfl cl0)) (Eq.trans rfl (Eq.symm rfl))) ?_; intro w a hM hE
  refine c_fin ?_
  refine c_region ?_
  refine s_fieldAddr hE goes_none (by decide) rfl (fd41_3) ?_; intro a hE
  refine s_load (v := v0_3) hE goes_none (by decide) rfl ty38 rfl (At.cat (pre := [[v0_1], [(vI p0.Next)], [v0_2]]) (seg := [v0_3]) (post := [Flat.enc p0.Head]) (hM.rawAt (pre := [_, _, _, _])) (cl1 (n := 1) (m := 2) rfl (cl1 (n := 1) (m := 1) rfl (cl1 (n := 1) (m := 0) rfl cl0)))) ?_; intro a hE
  obtain ⟨r13, e14, hF⟩ := bind_some hF
  refine s_call (vs := [v0_3]) hE goes_none (by decide) rfl cb79 (c_laws_toEventS _ p0.Events v0_3 (hM.rdo hv0_3) r13 e14) ?_
  rintro u15 w a ⟨_, rfl, hFr, hK⟩ hE
  have hM := hM.add hK hFr
  refine s_fieldAddr hE goes_none (by decide) rfl (fd49_3) ?_; intro a hE
  have hM := hM.pull (pre := [_])
  refine s_store (seg := [u15]) (cs' := cat [[u9], [(vI p0.Next)], [u12], [u15], Flat.enc (Vector.replicate 32 (0 : UInt8))]) hE hM goes_none rfl rfl (sl_cells (hM.sl (pre := [_]) noB)) ty46 rfl (fit_cat (pre := [[u9], [(vI p0.Next)], [u12]]) (seg := [(Value.slice none 0 0)]) (post := [Flat.enc (Vector.replicate 32 (0 : UInt8))]) (cl1 (n := 1) (m := 2) rfl (cl1 (n := 1) (m := 1) rfl (cl1 (n := 1) (m := 0) rfl cl0))) (Eq.trans rfl (Eq.symm rfl))) (Rep.cell (hM.sl (pre := [_]) noB)) (splice_cat (pre := [[u9], [(vI p0.Next)], [u12]]) (seg := [(Value.slice none 0 0)]) (post := [Flat.enc (Vector.replicate 32 (0 : UInt8))]) (cl1 (n := 1) (m := 2) rfl (cl1 (n := 1) (m := 1) rfl (cl1 (n := 1) (m := 0) rfl cl0))) (Eq.trans rfl (Eq.symm rfl))) ?_; intro w a hM hE
  refine c_fin ?_
  refine c_region ?_
  refine s_fieldAddr hE goes_none (by decide) rfl (fd41_4) ?_; intro a hE
  refine s_loadA (cs := Flat.enc p0.Head) hE goes_none (by decide) rfl ty39 rfl (At.cat (pre := [[v0_1], [(vI p0.Next)], [v0_2], [v0_3]]) (seg := Flat.enc p0.Head) (post := []) (hM.rawAt (pre := [_, _, _, _, _])) (cl1 (n := 1) (m := 3) rfl (cl1 (n := 1) (m := 2) rfl (cl1 (n := 1) (m := 1) rfl (cl1 (n := 1) (m := 0) rfl cl0))))) (Flat.len _) ?_; intro a hE
  obtain ⟨r16, e17, hF⟩ := bind_some hF
  refine s_call (vs := [(Value.agg (Flat.enc p0.Head).toArray)]) hE goes_none (by decide) rfl cb80 (c_laws_toDigest _ p0.Head r16 e17) ?_
  rintro v w a ⟨rfl, hK⟩ hE
  have hM := hM.keep hK
  refine s_fieldAddr hE goes_none (by decide) rfl (fd49_4) ?_; intro a hE
  refine s_store (seg := Flat.enc r16) (cs' := cat [[u9], [(vI p0.Next)], [u12], [u15], Flat.enc r16]) hE hM goes_none rfl rfl rfl ty47 (Flat.len _) (fit_cat (pre := [[u9], [(vI p0.Next)], [u12], [u15]]) (seg := Flat.enc (Vector.replicate 32 (0 : UInt8))) (post := []) (cl1 (n := 1) (m := 3) rfl (cl1 (n := 1) (m := 2) rfl (cl1 (n := 1) (m := 1) rfl (cl1 (n := 1) (m := 0) rfl cl0)))) (Eq.trans (Flat.len _) (Eq.symm (Flat.len _)))) (Flat.cell _) (splice_cat (pre := [[u9], [(vI p0.Next)], [u12], [u15]]) (seg := Flat.enc (Vector.replicate 32 (0 : UInt8))) (post := []) (cl1 (n := 1) (m := 3) rfl (cl1 (n := 1) (m := 2) rfl (cl1 (n := 1) (m := 1) rfl (cl1 (n := 1) (m := 0) rfl cl0)))) (Eq.trans (Flat.len _) (Eq.symm (Flat.len _)))) ?_; intro w a hM hE
  refine c_fin ?_
  refine c_region ?_
  refine s_loadA (cs := cat [[u9], [(vI p0.Next)], [u12], [u15], Flat.enc r16]) hE goes_none (by decide) rfl ty49 rfl (hM.rawAt (pre := [])) (cat_len (cl1 (n := 1) (m := 35) rfl (cl1 (n := 1) (m := 34) rfl (cl1 (n := 1) (m := 33) rfl (cl1 (n := 1) (m := 32) rfl (cl1 (n := 32) (m := 0) (Flat.len _) cl0)))))) ?_; intro a hE
  have hM := hM.pull (pre := [_, _, _, _])
  refine s_store (seg := cat [[u9], [(vI p0.Next)], [u12], [u15], Flat.enc r16]) (cs' := cat [[u9], [(vI p0.Next)], [u12], [u15], Flat.enc r16]) hE hM goes_none rfl rfl rfl ty49 (cat_len (cl1 (n := 1) (m := 35) rfl (cl1 (n := 1) (m := 34) rfl (cl1 (n := 1) (m := 33) rfl (cl1 (n := 1) (m := 32) rfl (cl1 (n := 32) (m := 0) (Flat.len _) cl0)))))) (Nat.le_of_eq (by rw [Nat.zero_add]; exact (Eq.trans (cat_len (cl1 (n := 1) (m := 35) rfl (cl1 (n := 1) (m := 34) rfl (cl1 (n := 1) (m := 33) rfl (cl1 (n := 1) (m := 32) rfl (cl1 (n := 32) (m := 0) (Flat.len _) cl0)))))) (Eq.symm (cat_len (cl1 (n := 1) (m := 35) rfl (cl1 (n := 1) (m := 34) rfl (cl1 (n := 1) (m := 33) rfl (cl1 (n := 1) (m := 32) rfl (cl1 (n := 32) (m := 0) (Flat.len _) cl0)))))))))) (cat_cell (cc1 (Rep.cell (hM.sl (pre := [_, _, _, _]) noB)) (cc1 (Flat.cell p0.Next) (cc1 (Rep.cell (hM.sl (pre := [_, _, _]) noB)) (cc1 (Rep.cell (hM.sl (pre := [_, _]) noB)) (cc1 (Flat.cell _) cc0)))))) (splice_all (Eq.trans (cat_len (cl1 (n := 1) (m := 35) rfl (cl1 (n := 1) (m := 34) rfl (cl1 (n := 1) (m := 33) rfl (cl1 (n := 1) (m := 32) rfl (cl1 (n := 32) (m := 0) (Flat.len _) cl0)))))) (Eq.symm (cat_len (cl1 (n := 1) (m := 35) rfl (cl1 (n := 1) (m := 34) rfl (cl1 (n := 1) (m := 33) rfl (cl1 (n := 1) (m := 32) rfl (cl1 (n := 32) (m := 0) (Flat.len _) cl0))))))))) ?_; intro w a hM hE
  refine c_fin ?_
  have hr := Option.some.inj hF
  subst hr
  have hq18 : ResIs Try.prog _ _ (.cell 2 49) _ := res_cell hE rfl ty49 rfl (hM.rawAt (pre := [])) (cat_len (cl1 (n := 1) (m := 35) rfl (cl1 (n := 1) (m := 34) rfl (cl1 (n := 1) (m := 33) rfl (cl1 (n := 1) (m := 32) rfl (cl1 (n := 32) (m := 0) (Flat.len _) cl0)))))) rfl
  have hM := hM.pull (pre := [_, _])
  have hM := hM.pull (pre := [_, _, _])
  have hM := hM.pull (pre := [_, _, _, _])
  have hM := M.fst (l := [_, _, _]) hM
  exact wp_ret (k_ret1 hE rfl hq18 ⟨_, rfl, u9, u12, u15, rfl, hM.outF (locN1 (locN1 (locN1 locN0))), hM.kept⟩)
noncomputable def F_spec_l01In (p0 : Int) (p1 : Int) (p2 : Int) : Option (Bool) :=
  (if (decide (p0 ≥ p1)) = true then (some (decide (p0 ≤ p2))) else (some false) : Option (Bool)).bind fun (j1 : Bool) => some j1
set_option maxRecDepth 20000 in
set_option maxHeartbeats 400000 in
theorem c_spec_l01In (w0 : World) (p0 : Int) (p1 : Int) (p2 : Int) (r : Bool) (hF : F_spec_l01In p0 p1 p2 = some r) :
    Calls Try.prog 118 [(vI p0), (vI p1), (vI p2)].toArray w0 (fun en w' => ∃ v, en = .returned v ∧ (v = (vT r) ∧ Kept (Old w0) w0 w')) := by
  refine c_enter (n := 15) Try.func118 rfl rfl (Nat.le_of_ble_eq_true rfl) rfl ?_
  intro a hE
  have hM := M.start w0
  unfold F_spec_l01In at hF
  refine c_region ?_
  refine s_assign hE goes_none (by decide) rfl ?_; intro a hE
  refine c_fin ?_
  obtain ⟨j1, hl2, hF3⟩ := bind_some hF
  refine c_join (fun a w => Env 15 a [(6, (vT j1))] ∧ M (Old w0) w0 w []) ?_ ?_
  · skip
    refine wp_region_lit ?_
    refine s_move hE goes_none (by decide) rfl ?_; intro a hE
    refine s_move hE goes_none (by decide) rfl ?_; intro a hE
    refine s_int hE goes_none (by decide) rfl rfl rfl ?_; intro a hE
    refine s_move hE goes_none (by decide) rfl ?_; intro a hE
    refine splitB (decide (p0 ≥ p1)) (fun hb4 => ?_) (fun hb4 => ?_)
    · have hl2 := ite_t hl2 hb4
      refine s_move hE (goes_yes hE rfl (lkb rfl hb4)) (by decide) rfl ?_; intro a hE
      refine s_move hE (goes_yes hE rfl (lkb rfl hb4)) (by decide) rfl ?_; intro a hE
      refine s_int hE (goes_yes hE rfl (lkb rfl hb4)) (by decide) rfl rfl rfl ?_; intro a hE
      refine s_pickT hE goes_none (by decide) (lkb rfl hb4) rfl ?_; intro a hE
      refine s_assign hE goes_none (by decide) rfl ?_; intro a hE
      refine c_fin0 ?_
      have ht5 := Option.some.inj hl2
      subst ht5
      refine c_mid ?_
      exact ⟨hE.sub ⟨rfl, trivial⟩, hM⟩
    · have hl2 := ite_f hl2 hb4
      refine s_skip hE rfl (lkb rfl hb4) rfl (by decide) ?_; intro a hE
      refine s_skip hE rfl (lkb rfl hb4) rfl (by decide) ?_; intro a hE
      refine s_skip hE rfl (lkb rfl hb4) rfl (by decide) ?_; intro a hE
      refine s_pickF hE goes_none (by decide) (lkb rfl hb4) rfl ?_; intro a hE
      refine s_assign hE goes_none (by decide) rfl ?_; intro a hE
      refine c_fin0 ?_
      have ht6 := Option.some.inj hl2
      subst ht6
      refine c_mid ?_
      exact ⟨hE.sub ⟨rfl, trivial⟩, hM⟩
  · skip
    rintro a w ⟨hE, hM⟩
    have hr := Option.some.inj hF3
    subst hr
    exact wp_ret (k_ret1 hE rfl (res_tmp hE rfl) ⟨_, rfl, rfl, hM.kept⟩)
noncomputable def F_spec_l12Event (p0 : GEvent) : Option (Bool) :=
  ((F_spec_l01In p0.Kind 1 4).bind fun (r6 : Bool) => if r6 = true then ((F_spec_l01In p0.Number 0 1000000).bind fun (r9 : Bool) => some r9) else (some false) : Option (Bool)).bind fun (j3 : Bool) => some j3
set_option maxRecDepth 20000 in
set_option maxHeartbeats 400000 in
theorem c_spec_l12Event (w0 : World) (p0 : GEvent) (r : Bool) (hF : F_spec_l12Event p0 = some r) :
    Calls Try.prog 126 [(Value.agg (Flat.enc p0).toArray)].toArray w0 (fun en w' => ∃ v, en = .returned v ∧ (v = (vT r) ∧ Kept (Old w0) w0 w')) := by
  refine c_enter (n := 11) Try.func126 rfl rfl (Nat.le_of_ble_eq_true rfl) rfl ?_
  intro a hE
  have hM := M.start w0
  unfold F_spec_l12Event at hF
  refine c_region ?_
  refine s_box (cs := cat [[(vI p0.Kind)], [(vI p0.Number)], Flat.enc p0.Tag]) hE hM goes_none (by decide) rfl rfl ?_; intro b1 w a hM hE
  refine s_assign hE goes_none (by decide) rfl ?_; intro a hE
  refine c_fin ?_
  obtain ⟨j3, hl4, hF5⟩ := bind_some hF
  refine c_join (fun a w => Env 11 a [(2, (vT j3))] ∧ M (Old w0) w0 w []) ?_ ?_
  · skip
    refine wp_region_lit ?_
    refine s_fieldAddr hE goes_none (by decide) rfl (fd109_0) ?_; intro a hE
    refine s_load (v := (vI p0.Kind)) hE goes_none (by decide) rfl ty2 rfl (At.cat (pre := []) (seg := [(vI p0.Kind)]) (post := [[(vI p0.Number)], Flat.enc p0.Tag]) (hM.rawAt (pre := [])) cl0) ?_; intro a hE
    obtain ⟨r6, e7, hl4⟩ := bind_some hl4
    refine s_call (vs := [(vI p0.Kind), (vI 1), (vI 4)]) hE goes_none (by decide) rfl cb118 (c_spec_l01In _ p0.Kind 1 4 r6 e7) ?_
    rintro v w a ⟨rfl, hK⟩ hE
    have hM := hM.keep hK
    refine s_move hE goes_none (by decide) rfl ?_; intro a hE
    refine splitB r6 (fun hb8 => ?_) (fun hb8 => ?_)
    · have hl4 := ite_t hl4 hb8
      refine s_fieldAddr hE (goes_yes hE rfl (lkb rfl hb8)) (by decide) rfl (fd109_1) ?_; intro a hE
      refine s_load (v := (vI p0.Number)) hE (goes_yes hE rfl (lkb rfl hb8)) (by decide) rfl ty2 rfl (At.cat (pre := [[(vI p0.Kind)]]) (seg := [(vI p0.Number)]) (post := [Flat.enc p0.Tag]) (hM.rawAt (pre := [])) (cl1 (n := 1) (m := 0) rfl cl0)) ?_; intro a hE
      obtain ⟨r9, e10, hl4⟩ := bind_some hl4
      refine s_call (vs := [(vI p0.Number), (vI 0), (vI 1000000)]) hE (goes_yes hE rfl (lkb rfl hb8)) (by decide) rfl cb118 (c_spec_l01In _ p0.Number 0 1000000 r9 e10) ?_
      rintro v w a ⟨rfl, hK⟩ hE
      have hM := hM.keep hK
      refine s_pickT hE goes_none (by decide) (lkb rfl hb8) rfl ?_; intro a hE
      refine s_assign hE goes_none (by decide) rfl ?_; intro a hE
      refine c_fin0 ?_
      have ht11 := Option.some.inj hl4
      subst ht11
      refine c_mid ?_
      have hM := M.fst (l := []) hM
      exact ⟨hE.sub ⟨rfl, trivial⟩, hM⟩
    · have hl4 := ite_f hl4 hb8
      refine s_skip hE rfl (lkb rfl hb8) rfl (by decide) ?_; intro a hE
      refine s_skip hE rfl (lkb rfl hb8) rfl (by decide) ?_; intro a hE
      refine s_skip hE rfl (lkb rfl hb8) rfl (by decide) ?_; intro a hE
      refine s_pickF hE goes_none (by decide) (lkb rfl hb8) rfl ?_; intro a hE
      refine s_assign hE goes_none (by decide) rfl ?_; intro a hE
      refine c_fin0 ?_
      have ht12 := Option.some.inj hl4
      subst ht12
      refine c_mid ?_
      have hM := M.fst (l := []) hM
      exact ⟨hE.sub ⟨rfl, trivial⟩, hM⟩
  · skip
    rintro a w ⟨hE, hM⟩
    have hr := Option.some.inj hF5
    subst hr
    exact wp_ret (k_ret1 hE rfl (res_tmp hE rfl) ⟨_, rfl, rfl, hM.kept⟩)
noncomputable def L0_spec_l12Is (p0 : GVault) (s22 : Int × Int) : Option (Fl (Int × Int) (Fl Unit Bool)) :=
  if (decide (s22.2 < (p0.Records.length : Int))) = true then ((idx p0.Records s22.2).bind fun (x27 : GRecord) => (if (decide (x27.Number ≤ s22.1)) = true then (some true) else (if (decide (x27.Number ≥ p0.Next)) = true then (some true) else ((F_spec_l01In x27.Version 0 (wr ((p0.Keys.length : Int) - 1))).bind fun (r46 : Bool) => if (!r46) = true then (some true) else (if (decide ((x27.Label.length : Int) > 32)) = true then (some true) else (some (decide ((x27.Body.length : Int) > 200)))))) : Option (Bool)).bind fun (j39 : Bool) => if j39 = true then (some (Fl.ex (Fl.ex false))) else (some (Fl.nx (x27.Number, wr (s22.2 + 1))))) else (some (Fl.ex (Fl.nx ())))
noncomputable def L1_spec_l12Is (p0 : GVault) (s60 : Int) : Option (Fl Int (Fl Unit Bool)) :=
  if (decide (s60 < (p0.Events.length : Int))) = true then ((idx p0.Events s60).bind fun (x65 : GEvent) => (F_spec_l12Event x65).bind fun (r68 : Bool) => if (!r68) = true then (some (Fl.ex (Fl.ex false))) else (some (Fl.nx (wr (s60 + 1))))) else (some (Fl.ex (Fl.nx ())))
noncomputable def F_spec_l12Is (p0 : GVault) : Option (Bool) :=
  (if (decide ((p0.Keys.length : Int) < 1)) = true then (some true) else (if (decide ((p0.Keys.length : Int) > 8)) = true then (some true) else ((F_spec_l01In p0.Next 1 1000000).bind fun (r10 : Bool) => if (!r10) = true then (some true) else (if (decide ((p0.Records.length : Int) > 12)) = true then (some true) else (some (decide ((p0.Events.length : Int) > 60)))))) : Option (Bool)).bind fun (j3 : Bool) => if j3 = true then (some false) else ((iter (L0_spec_l12Is p0) (0, 0) : Option (Fl Unit Bool)).bind fun (j18 : Fl Unit Bool) => j18.el (fun (s21 : Unit) => (iter (L1_spec_l12Is p0) 0 : Option (Fl Unit Bool)).bind fun (j56 : Fl Unit Bool) => j56.el (fun (s59 : Unit) => some true) (fun r => some r)) (fun r => some r))
set_option maxRecDepth 20000 in
set_option maxHeartbeats 400000 in
theorem c_spec_l12Is (w0 : World) (p0 : GVault) (v0_1 : Value) (hv0_1 : Ro w0 p0.Keys [v0_1]) (v0_2 : Value) (hv0_2 : Ro w0 p0.Records [v0_2]) (v0_3 : Value) (hv0_3 : Ro w0 p0.Events [v0_3]) (r : Bool) (hF : F_spec_l12Is p0 = some r) :
    Calls Try.prog 76 [(Value.agg (cat [[v0_1], [(vI p0.Next)], [v0_2], [v0_3], Flat.enc p0.Head]).toArray)].toArray w0 (fun en w' => ∃ v, en = .returned v ∧ (v = (vT r) ∧ Kept (Old w0) w0 w')) := by
  refine c_enter (n := 96) Try.func76 rfl rfl (Nat.le_of_ble_eq_true rfl) rfl ?_
  intro a hE
  have hM := M.start w0
  unfold F_spec_l12Is at hF
  refine c_region ?_
  refine s_box (cs := cat [[v0_1], [(vI p0.Next)], [v0_2], [v0_3], Flat.enc p0.Head]) hE hM goes_none (by decide) rfl rfl ?_; intro b1 w a hM hE
  refine s_assign hE goes_none (by decide) rfl ?_; intro a hE
  refine c_fin ?_
  refine wp_seq ?_
  obtain ⟨j3, hl4, hF5⟩ := bind_some hF
  refine c_join (fun a w => Env 96 a [(1, (ptr b1 0)), (34, (vT j3))] ∧ M (Old w0) w0 w [raw b1 (cat [[v0_1], [(vI p0.Next)], [v0_2], [v0_3], Flat.enc p0.Head])]) ?_ ?_
  · skip
    refine wp_region_lit ?_
    refine s_fieldAddr hE goes_none (by decide) rfl (fd49_0) ?_; intro a hE
    refine s_load (v := v0_1) hE goes_none (by decide) rfl ty44 rfl (At.cat (pre := []) (seg := [v0_1]) (post := [[(vI p0.Next)], [v0_2], [v0_3], Flat.enc p0.Head]) (hM.rawAt (pre := [])) cl0) ?_; intro a hE
    refine s_len hE goes_none (by decide) rfl Try.underlying44 (hM.rd hv0_1) ?_; intro a hE
    refine s_int hE goes_none (by decide) rfl rfl rfl ?_; intro a hE
    refine s_move hE goes_none (by decide) rfl ?_; intro a hE
    refine splitB (decide ((p0.Keys.length : Int) < 1)) (fun hb6 => ?_) (fun hb6 => ?_)
    · have hl4 := ite_t hl4 hb6
      refine s_skip hE rfl (lkb rfl hb6) rfl (by decide) ?_; intro a hE
      refine s_skip hE rfl (lkb rfl hb6) rfl (by decide) ?_; intro a hE
      refine s_skip hE rfl (lkb rfl hb6) rfl (by decide) ?_; intro a hE
      refine s_skip hE rfl (lkb rfl hb6) rfl (by decide) ?_; intro a hE
      refine s_pickT hE goes_none (by decide) (lkb rfl hb6) rfl ?_; intro a hE
      refine s_move hE goes_none (by decide) rfl ?_; intro a hE
      refine s_skip hE rfl rfl rfl (by decide) ?_; intro a hE
      refine s_skip hE rfl rfl rfl (by decide) ?_; intro a hE
      refine s_skip hE rfl rfl rfl (by decide) ?_; intro a hE
      refine s_skip hE rfl rfl rfl (by decide) ?_; intro a hE
      refine s_pickT hE goes_none (by decide) rfl rfl ?_; intro a hE
      refine s_move hE goes_none (by decide) rfl ?_; intro a hE
      refine s_skip hE rfl rfl rfl (by decide) ?_; intro a hE
      refine s_skip hE rfl rfl rfl (by decide) ?_; intro a hE
      refine s_skip hE rfl rfl rfl (by decide) ?_; intro a hE
      refine s_skip hE rfl rfl rfl (by decide) ?_; intro a hE
      refine s_pickT hE goes_none (by decide) rfl rfl ?_; intro a hE
      refine s_move hE goes_none (by decide) rfl ?_; intro a hE
      refine s_skip hE rfl rfl rfl (by decide) ?_; intro a hE
      refine s_skip hE rfl rfl rfl (by decide) ?_; intro a hE
      refine s_skip hE rfl rfl rfl (by decide) ?_; intro a hE
      refine s_skip hE rfl rfl rfl (by decide) ?_; intro a hE
      refine s_pickT hE goes_none (by decide) rfl rfl ?_; intro a hE
      refine c_fin0 ?_
      have ht7 := Option.some.inj hl4
      subst ht7
      refine c_mid ?_
      exact ⟨hE.sub ⟨rfl, rfl, trivial⟩, hM⟩
    · have hl4 := ite_f hl4 hb6
      refine s_fieldAddr hE (goes_yes hE rfl (lkb rfl hb6)) (by decide) rfl (fd49_0) ?_; intro a hE
      refine s_load (v := v0_1) hE (goes_yes hE rfl (lkb rfl hb6)) (by decide) rfl ty44 rfl (At.cat (pre := []) (seg := [v0_1]) (post := [[(vI p0.Next)], [v0_2], [v0_3], Flat.enc p0.Head]) (hM.rawAt (pre := [])) cl0) ?_; intro a hE
      refine s_len hE (goes_yes hE rfl (lkb rfl hb6)) (by decide) rfl Try.underlying44 (hM.rd hv0_1) ?_; intro a hE
      refine s_int hE (goes_yes hE rfl (lkb rfl hb6)) (by decide) rfl rfl rfl ?_; intro a hE
      refine s_pickF hE goes_none (by decide) (lkb rfl hb6) rfl ?_; intro a hE
      refine s_move hE goes_none (by decide) rfl ?_; intro a hE
      refine splitB (decide ((p0.Keys.length : Int) > 8)) (fun hb8 => ?_) (fun hb8 => ?_)
      · have hl4 := ite_t hl4 hb8
        refine s_skip hE rfl (lkb rfl hb8) rfl (by decide) ?_; intro a hE
        refine s_skip hE rfl (lkb rfl hb8) rfl (by decide) ?_; intro a hE
        refine s_skip hE rfl (lkb rfl hb8) rfl (by decide) ?_; intro a hE
        refine s_skip hE rfl (lkb rfl hb8) rfl (by decide) ?_; intro a hE
        refine s_pickT hE goes_none (by decide) (lkb rfl hb8) rfl ?_; intro a hE
        refine s_move hE goes_none (by decide) rfl ?_; intro a hE
        refine s_skip hE rfl rfl rfl (by decide) ?_; intro a hE
        refine s_skip hE rfl rfl rfl (by decide) ?_; intro a hE
        refine s_skip hE rfl rfl rfl (by decide) ?_; intro a hE
        refine s_skip hE rfl rfl rfl (by decide) ?_; intro a hE
        refine s_pickT hE goes_none (by decide) rfl rfl ?_; intro a hE
        refine s_move hE goes_none (by decide) rfl ?_; intro a hE
        refine s_skip hE rfl rfl rfl (by decide) ?_; intro a hE
        refine s_skip hE rfl rfl rfl (by decide) ?_; intro a hE
        refine s_skip hE rfl rfl rfl (by decide) ?_; intro a hE
        refine s_skip hE rfl rfl rfl (by decide) ?_; intro a hE
        refine s_pickT hE goes_none (by decide) rfl rfl ?_; intro a hE
        refine c_fin0 ?_
        have ht9 := Option.some.inj hl4
        subst ht9
        refine c_mid ?_
        exact ⟨hE.sub ⟨rfl, rfl, trivial⟩, hM⟩
      · have hl4 := ite_f hl4 hb8
        refine s_fieldAddr hE (goes_yes hE rfl (lkb rfl hb8)) (by decide) rfl (fd49_1) ?_; intro a hE
        refine s_load (v := (vI p0.Next)) hE (goes_yes hE rfl (lkb rfl hb8)) (by decide) rfl ty2 rfl (At.cat (pre := [[v0_1]]) (seg := [(vI p0.Next)]) (post := [[v0_2], [v0_3], Flat.enc p0.Head]) (hM.rawAt (pre := [])) (cl1 (n := 1) (m := 0) rfl cl0)) ?_; intro a hE
        obtain ⟨r10, e11, hl4⟩ := bind_some hl4
        refine s_call (vs := [(vI p0.Next), (vI 1), (vI 1000000)]) hE (goes_yes hE rfl (lkb rfl hb8)) (by decide) rfl cb118 (c_spec_l01In _ p0.Next 1 1000000 r10 e11) ?_
        rintro v w a ⟨rfl, hK⟩ hE
        have hM := hM.keep hK
        refine s_not hE (goes_yes hE rfl (lkb rfl hb8)) (by decide) rfl ?_; intro a hE
        refine s_pickF hE goes_none (by decide) (lkb rfl hb8) rfl ?_; intro a hE
        refine s_move hE goes_none (by decide) rfl ?_; intro a hE
        refine splitB (!r10) (fun hb12 => ?_) (fun hb12 => ?_)
        · have hl4 := ite_t hl4 hb12
          refine s_skip hE rfl (lkb rfl hb12) rfl (by decide) ?_; intro a hE
          refine s_skip hE rfl (lkb rfl hb12) rfl (by decide) ?_; intro a hE
          refine s_skip hE rfl (lkb rfl hb12) rfl (by decide) ?_; intro a hE
          refine s_skip hE rfl (lkb rfl hb12) rfl (by decide) ?_; intro a hE
          refine s_pickT hE goes_none (by decide) (lkb rfl hb12) rfl ?_; intro a hE
          refine s_move hE goes_none (by decide) rfl ?_; intro a hE
          refine s_skip hE rfl rfl rfl (by decide) ?_; intro a hE
          refine s_skip hE rfl rfl rfl (by decide) ?_; intro a hE
          refine s_skip hE rfl rfl rfl (by decide) ?_; intro a hE
          refine s_skip hE rfl rfl rfl (by decide) ?_; intro a hE
          refine s_pickT hE goes_none (by decide) rfl rfl ?_; intro a hE
          refine c_fin0 ?_
          have ht13 := Option.some.inj hl4
          subst ht13
          refine c_mid ?_
          exact ⟨hE.sub ⟨rfl, rfl, trivial⟩, hM⟩
        · have hl4 := ite_f hl4 hb12
          refine s_fieldAddr hE (goes_yes hE rfl (lkb rfl hb12)) (by decide) rfl (fd49_2) ?_; intro a hE
          refine s_load (v := v0_2) hE (goes_yes hE rfl (lkb rfl hb12)) (by decide) rfl ty45 rfl (At.cat (pre := [[v0_1], [(vI p0.Next)]]) (seg := [v0_2]) (post := [[v0_3], Flat.enc p0.Head]) (hM.rawAt (pre := [])) (cl1 (n := 1) (m := 1) rfl (cl1 (n := 1) (m := 0) rfl cl0))) ?_; intro a hE
          refine s_len hE (goes_yes hE rfl (lkb rfl hb12)) (by decide) rfl Try.underlying45 (hM.rd hv0_2) ?_; intro a hE
          refine s_int hE (goes_yes hE rfl (lkb rfl hb12)) (by decide) rfl rfl rfl ?_; intro a hE
          refine s_pickF hE goes_none (by decide) (lkb rfl hb12) rfl ?_; intro a hE
          refine s_move hE goes_none (by decide) rfl ?_; intro a hE
          refine splitB (decide ((p0.Records.length : Int) > 12)) (fun hb14 => ?_) (fun hb14 => ?_)
          · have hl4 := ite_t hl4 hb14
            refine s_skip hE rfl (lkb rfl hb14) rfl (by decide) ?_; intro a hE
            refine s_skip hE rfl (lkb rfl hb14) rfl (by decide) ?_; intro a hE
            refine s_skip hE rfl (lkb rfl hb14) rfl (by decide) ?_; intro a hE
            refine s_skip hE rfl (lkb rfl hb14) rfl (by decide) ?_; intro a hE
            refine s_pickT hE goes_none (by decide) (lkb rfl hb14) rfl ?_; intro a hE
            refine c_fin0 ?_
            have ht15 := Option.some.inj hl4
            subst ht15
            refine c_mid ?_
            exact ⟨hE.sub ⟨rfl, rfl, trivial⟩, hM⟩
          · have hl4 := ite_f hl4 hb14
            refine s_fieldAddr hE (goes_yes hE rfl (lkb rfl hb14)) (by decide) rfl (fd49_3) ?_; intro a hE
            refine s_load (v := v0_3) hE (goes_yes hE rfl (lkb rfl hb14)) (by decide) rfl ty46 rfl (At.cat (pre := [[v0_1], [(vI p0.Next)], [v0_2]]) (seg := [v0_3]) (post := [Flat.enc p0.Head]) (hM.rawAt (pre := [])) (cl1 (n := 1) (m := 2) rfl (cl1 (n := 1) (m := 1) rfl (cl1 (n := 1) (m := 0) rfl cl0)))) ?_; intro a hE
            refine s_len hE (goes_yes hE rfl (lkb rfl hb14)) (by decide) rfl Try.underlying46 (hM.rd hv0_3) ?_; intro a hE
            refine s_int hE (goes_yes hE rfl (lkb rfl hb14)) (by decide) rfl rfl rfl ?_; intro a hE
            refine s_pickF hE goes_none (by decide) (lkb rfl hb14) rfl ?_; intro a hE
            refine c_fin0 ?_
            have ht16 := Option.some.inj hl4
            subst ht16
            refine c_mid ?_
            exact ⟨hE.sub ⟨rfl, rfl, trivial⟩, hM⟩
  · skip
    rintro a w ⟨hE, hM⟩
    refine c_cond hE rfl ?_ ?_
    · intro hb17
      have hF5 := ite_t hF5 hb17
      refine c_region ?_
      refine s_assign hE goes_none (by decide) rfl ?_; intro a hE
      refine c_fin ?_
      have hr := Option.some.inj hF5
      subst hr
      have hM := M.fst (l := []) hM
      exact wp_ret (r_then (k_ret1 hE rfl (res_tmp hE rfl) ⟨_, rfl, rfl, hM.kept⟩))
    · intro hb17
      have hF5 := ite_f hF5 hb17
      refine wp_skip ?_
      refine c_nx ?_
      refine c_region ?_
      refine s_assign hE goes_none (by decide) rfl ?_; intro a hE
      refine c_fin ?_
      refine wp_seq ?_
      refine c_region ?_
      refine s_assign hE goes_none (by decide) rfl ?_; intro a hE
      refine c_fin ?_
      obtain ⟨j18, hl19, hF20⟩ := bind_some hF5
      refine c_cut (fun a w => ∃ s21 : Unit, j18 = Fl.nx s21 ∧ Env 96 a [(1, (ptr b1 0))] ∧ M (Old w0) w0 w [raw b1 (cat [[v0_1], [(vI p0.Next)], [v0_2], [v0_3], Flat.enc p0.Head])]) ?_ ?_
      · skip
        refine wp_block ?_
        refine c_loop (fun (s22 : Int × Int) a w => Env 96 a [(1, (ptr b1 0)), (3, (vI s22.1)), (4, (vI s22.2))] ∧ M (Old w0) w0 w [raw b1 (cat [[v0_1], [(vI p0.Next)], [v0_2], [v0_3], Flat.enc p0.Head])]) hl19 ⟨hE.sub ⟨rfl, rfl, rfl, trivial⟩, hM⟩ ?_
        rintro s22 a w ⟨hE, hM⟩ o25 hs23 hx24
        unfold L0_spec_l12Is at hs23
        refine wp_seq ?_
        refine c_region ?_
        refine s_move hE goes_none (by decide) rfl ?_; intro a hE
        refine s_fieldAddr hE goes_none (by decide) rfl (fd49_2) ?_; intro a hE
        refine s_load (v := v0_2) hE goes_none (by decide) rfl ty45 rfl (At.cat (pre := [[v0_1], [(vI p0.Next)]]) (seg := [v0_2]) (post := [[v0_3], Flat.enc p0.Head]) (hM.rawAt (pre := [])) (cl1 (n := 1) (m := 1) rfl (cl1 (n := 1) (m := 0) rfl cl0))) ?_; intro a hE
        refine s_len hE goes_none (by decide) rfl Try.underlying45 (hM.rd hv0_2) ?_; intro a hE
        refine s_int hE goes_none (by decide) rfl rfl rfl ?_; intro a hE
        refine c_fin ?_
        refine c_cond hE rfl ?_ ?_
        · intro hb26
          have hs23 := ite_t hs23 hb26
          refine wp_skip ?_
          refine c_nx ?_
          refine wp_seq ?_
          refine wp_block ?_
          refine c_region ?_
          refine s_fieldAddr hE goes_none (by decide) rfl (fd49_2) ?_; intro a hE
          refine s_load (v := v0_2) hE goes_none (by decide) rfl ty45 rfl (At.cat (pre := [[v0_1], [(vI p0.Next)]]) (seg := [v0_2]) (post := [[v0_3], Flat.enc p0.Head]) (hM.rawAt (pre := [])) (cl1 (n := 1) (m := 1) rfl (cl1 (n := 1) (m := 0) rfl cl0))) ?_; intro a hE
          refine s_move hE goes_none (by decide) rfl ?_; intro a hE
          obtain ⟨x27, e28, hs23⟩ := bind_some hs23
          have hi29 := idx_some e28
          refine s_indexS hE goes_none (by decide) rfl rfl Try.underlying45 ty106 (hM.rd hv0_2) hi29.1 ?_; intro a hE
          obtain ⟨cs30, hs31, hA32⟩ := sl_atRo hv0_2 hi29.2 -- ^
          obtain ⟨u33, u35, rfl, h34, h36⟩ := un_GRecord hs31 -- ^
          refine s_loadA (cs := cat [[(vI x27.Number)], [(vI x27.Version)], Flat.enc x27.Nonce, [u33], [u35], Flat.enc x27.Tag]) hE goes_none (by decide) rfl ty106 rfl (hM.atk hA32 (sl_blk hv0_2 hi29.2)) (cat_len (cl1 (n := 1) (m := 51) rfl (cl1 (n := 1) (m := 50) rfl (cl1 (n := 16) (m := 34) (Flat.len _) (cl1 (n := 1) (m := 33) rfl (cl1 (n := 1) (m := 32) rfl (cl1 (n := 32) (m := 0) (Flat.len _) cl0))))))) ?_; intro a hE
          refine s_alloc hE hM goes_none (by decide) ty106 ?_; intro b37 w a hM hE
          refine s_store (seg := cat [[(vI x27.Number)], [(vI x27.Version)], Flat.enc x27.Nonce, [u33], [u35], Flat.enc x27.Tag]) (cs' := cat [[(vI x27.Number)], [(vI x27.Version)], Flat.enc x27.Nonce, [u33], [u35], Flat.enc x27.Tag]) hE hM goes_none rfl rfl rfl ty106 (cat_len (cl1 (n := 1) (m := 51) rfl (cl1 (n := 1) (m := 50) rfl (cl1 (n := 16) (m := 34) (Flat.len _) (cl1 (n := 1) (m := 33) rfl (cl1 (n := 1) (m := 32) rfl (cl1 (n := 32) (m := 0) (Flat.len _) cl0))))))) (Nat.le_of_eq (by rw [Nat.zero_add]; exact (Eq.trans (cat_len (cl1 (n := 1) (m := 51) rfl (cl1 (n := 1) (m := 50) rfl (cl1 (n := 16) (m := 34) (Flat.len _) (cl1 (n := 1) (m := 33) rfl (cl1 (n := 1) (m := 32) rfl (cl1 (n := 32) (m := 0) (Flat.len _) cl0))))))) (Eq.symm (cat_len (cl1 (n := 1) (m := 51) rfl (cl1 (n := 1) (m := 50) rfl (cl1 (n := 16) (m := 34) (Flat.len _) (cl1 (n := 1) (m := 33) rfl (cl1 (n := 1) (m := 32) rfl (cl1 (n := 32) (m := 0) (Flat.len _) cl0))))))))))) (cat_cell (cc1 (Flat.cell x27.Number) (cc1 (Flat.cell x27.Version) (cc1 (Flat.cell _) (cc1 (Rep.cell (hM.rd h34)) (cc1 (Rep.cell (hM.rd h36)) (cc1 (Flat.cell _) cc0))))))) (splice_all (Eq.trans (cat_len (cl1 (n := 1) (m := 51) rfl (cl1 (n := 1) (m := 50) rfl (cl1 (n := 16) (m := 34) (Flat.len _) (cl1 (n := 1) (m := 33) rfl (cl1 (n := 1) (m := 32) rfl (cl1 (n := 32) (m := 0) (Flat.len _) cl0))))))) (Eq.symm (cat_len (cl1 (n := 1) (m := 51) rfl (cl1 (n := 1) (m := 50) rfl (cl1 (n := 16) (m := 34) (Flat.len _) (cl1 (n := 1) (m := 33) rfl (cl1 (n := 1) (m := 32) rfl (cl1 (n := 32) (m := 0) (Flat.len _) cl0)))))))))) ?_; intro w a hM hE
          refine c_fin ?_
          refine wp_seq ?_
          obtain ⟨j39, hl40, hF41⟩ := bind_some hs23
          refine c_join (fun a w => Env 96 a [(1, (ptr b1 0)), (4, (vI s22.2)), (5, (ptr b37 0)), (79, (vT j39))] ∧ M (Old w0) w0 w [raw b37 (cat [[(vI x27.Number)], [(vI x27.Version)], Flat.enc x27.Nonce, [u33], [u35], Flat.enc x27.Tag]), raw b1 (cat [[v0_1], [(vI p0.Next)], [v0_2], [v0_3], Flat.enc p0.Head])]) ?_ ?_
          · skip
            refine wp_region_lit ?_
            refine s_fieldAddr hE goes_none (by decide) rfl (fd106_0) ?_; intro a hE
            refine s_load (v := (vI x27.Number)) hE goes_none (by decide) rfl ty2 rfl (At.cat (pre := []) (seg := [(vI x27.Number)]) (post := [[(vI x27.Version)], Flat.enc x27.Nonce, [u33], [u35], Flat.enc x27.Tag]) (hM.rawAt (pre := [])) cl0) ?_; intro a hE
            refine s_move hE goes_none (by decide) rfl ?_; intro a hE
            refine s_int hE goes_none (by decide) rfl rfl rfl ?_; intro a hE
            refine s_move hE goes_none (by decide) rfl ?_; intro a hE
            refine splitB (decide (x27.Number ≤ s22.1)) (fun hb42 => ?_) (fun hb42 => ?_)
            · have hl40 := ite_t hl40 hb42
              refine s_skip hE rfl (lkb rfl hb42) rfl (by decide) ?_; intro a hE
              refine s_skip hE rfl (lkb rfl hb42) rfl (by decide) ?_; intro a hE
              refine s_skip hE rfl (lkb rfl hb42) rfl (by decide) ?_; intro a hE
              refine s_skip hE rfl (lkb rfl hb42) rfl (by decide) ?_; intro a hE
              refine s_skip hE rfl (lkb rfl hb42) rfl (by decide) ?_; intro a hE
              refine s_pickT hE goes_none (by decide) (lkb rfl hb42) rfl ?_; intro a hE
              refine s_move hE goes_none (by decide) rfl ?_; intro a hE
              refine s_skip hE rfl rfl rfl (by decide) ?_; intro a hE
              refine s_skip hE rfl rfl rfl (by decide) ?_; intro a hE
              refine s_skip hE rfl rfl rfl (by decide) ?_; intro a hE
              refine s_skip hE rfl rfl rfl (by decide) ?_; intro a hE
              refine s_skip hE rfl rfl rfl (by decide) ?_; intro a hE
              refine s_skip hE rfl rfl rfl (by decide) ?_; intro a hE
              refine s_skip hE rfl rfl rfl (by decide) ?_; intro a hE
              refine s_skip hE rfl rfl rfl (by decide) ?_; intro a hE
              refine s_pickT hE goes_none (by decide) rfl rfl ?_; intro a hE
              refine s_move hE goes_none (by decide) rfl ?_; intro a hE
              refine s_skip hE rfl rfl rfl (by decide) ?_; intro a hE
              refine s_skip hE rfl rfl rfl (by decide) ?_; intro a hE
              refine s_skip hE rfl rfl rfl (by decide) ?_; intro a hE
              refine s_skip hE rfl rfl rfl (by decide) ?_; intro a hE
              refine s_pickT hE goes_none (by decide) rfl rfl ?_; intro a hE
              refine s_move hE goes_none (by decide) rfl ?_; intro a hE
              refine s_skip hE rfl rfl rfl (by decide) ?_; intro a hE
              refine s_skip hE rfl rfl rfl (by decide) ?_; intro a hE
              refine s_skip hE rfl rfl rfl (by decide) ?_; intro a hE
              refine s_skip hE rfl rfl rfl (by decide) ?_; intro a hE
              refine s_pickT hE goes_none (by decide) rfl rfl ?_; intro a hE
              refine c_fin0 ?_
              have ht43 := Option.some.inj hl40
              subst ht43
              refine c_mid ?_
              exact ⟨hE.sub ⟨rfl, rfl, rfl, rfl, trivial⟩, hM⟩
            · have hl40 := ite_f hl40 hb42
              refine s_fieldAddr hE (goes_yes hE rfl (lkb rfl hb42)) (by decide) rfl (fd106_0) ?_; intro a hE
              refine s_load (v := (vI x27.Number)) hE (goes_yes hE rfl (lkb rfl hb42)) (by decide) rfl ty2 rfl (At.cat (pre := []) (seg := [(vI x27.Number)]) (post := [[(vI x27.Version)], Flat.enc x27.Nonce, [u33], [u35], Flat.enc x27.Tag]) (hM.rawAt (pre := [])) cl0) ?_; intro a hE
              refine s_fieldAddr hE (goes_yes hE rfl (lkb rfl hb42)) (by decide) rfl (fd49_1) ?_; intro a hE
              refine s_load (v := (vI p0.Next)) hE (goes_yes hE rfl (lkb rfl hb42)) (by decide) rfl ty2 rfl (At.cat (pre := [[v0_1]]) (seg := [(vI p0.Next)]) (post := [[v0_2], [v0_3], Flat.enc p0.Head]) (hM.rawAt (pre := [_])) (cl1 (n := 1) (m := 0) rfl cl0)) ?_; intro a hE
              refine s_int hE (goes_yes hE rfl (lkb rfl hb42)) (by decide) rfl rfl rfl ?_; intro a hE
              refine s_pickF hE goes_none (by decide) (lkb rfl hb42) rfl ?_; intro a hE
              refine s_move hE goes_none (by decide) rfl ?_; intro a hE
              refine splitB (decide (x27.Number ≥ p0.Next)) (fun hb44 => ?_) (fun hb44 => ?_)
              · have hl40 := ite_t hl40 hb44
                refine s_skip hE rfl (lkb rfl hb44) rfl (by decide) ?_; intro a hE
                refine s_skip hE rfl (lkb rfl hb44) rfl (by decide) ?_; intro a hE
                refine s_skip hE rfl (lkb rfl hb44) rfl (by decide) ?_; intro a hE
                refine s_skip hE rfl (lkb rfl hb44) rfl (by decide) ?_; intro a hE
                refine s_skip hE rfl (lkb rfl hb44) rfl (by decide) ?_; intro a hE
                refine s_skip hE rfl (lkb rfl hb44) rfl (by decide) ?_; intro a hE
                refine s_skip hE rfl (lkb rfl hb44) rfl (by decide) ?_; intro a hE
                refine s_skip hE rfl (lkb rfl hb44) rfl (by decide) ?_; intro a hE
                refine s_pickT hE goes_none (by decide) (lkb rfl hb44) rfl ?_; intro a hE
                refine s_move hE goes_none (by decide) rfl ?_; intro a hE
                refine s_skip hE rfl rfl rfl (by decide) ?_; intro a hE
                refine s_skip hE rfl rfl rfl (by decide) ?_; intro a hE
                refine s_skip hE rfl rfl rfl (by decide) ?_; intro a hE
                refine s_skip hE rfl rfl rfl (by decide) ?_; intro a hE
                refine s_pickT hE goes_none (by decide) rfl rfl ?_; intro a hE
                refine s_move hE goes_none (by decide) rfl ?_; intro a hE
                refine s_skip hE rfl rfl rfl (by decide) ?_; intro a hE
                refine s_skip hE rfl rfl rfl (by decide) ?_; intro a hE
                refine s_skip hE rfl rfl rfl (by decide) ?_; intro a hE
                refine s_skip hE rfl rfl rfl (by decide) ?_; intro a hE
                refine s_pickT hE goes_none (by decide) rfl rfl ?_; intro a hE
                refine c_fin0 ?_
                have ht45 := Option.some.inj hl40
                subst ht45
                refine c_mid ?_
                exact ⟨hE.sub ⟨rfl, rfl, rfl, rfl, trivial⟩, hM⟩
              · have hl40 := ite_f hl40 hb44
                refine s_fieldAddr hE (goes_yes hE rfl (lkb rfl hb44)) (by decide) rfl (fd106_1) ?_; intro a hE
                refine s_load (v := (vI x27.Version)) hE (goes_yes hE rfl (lkb rfl hb44)) (by decide) rfl ty2 rfl (At.cat (pre := [[(vI x27.Number)]]) (seg := [(vI x27.Version)]) (post := [Flat.enc x27.Nonce, [u33], [u35], Flat.enc x27.Tag]) (hM.rawAt (pre := [])) (cl1 (n := 1) (m := 0) rfl cl0)) ?_; intro a hE
                refine s_fieldAddr hE (goes_yes hE rfl (lkb rfl hb44)) (by decide) rfl (fd49_0) ?_; intro a hE
                refine s_load (v := v0_1) hE (goes_yes hE rfl (lkb rfl hb44)) (by decide) rfl ty44 rfl (At.cat (pre := []) (seg := [v0_1]) (post := [[(vI p0.Next)], [v0_2], [v0_3], Flat.enc p0.Head]) (hM.rawAt (pre := [_])) cl0) ?_; intro a hE
                refine s_len hE (goes_yes hE rfl (lkb rfl hb44)) (by decide) rfl Try.underlying44 (hM.rd hv0_1) ?_; intro a hE
                refine s_int hE (goes_yes hE rfl (lkb rfl hb44)) (by decide) rfl rfl rfl ?_; intro a hE
                obtain ⟨r46, e47, hl40⟩ := bind_some hl40
                refine s_call (vs := [(vI x27.Version), (vI 0), (vI (wr ((p0.Keys.length : Int) - 1)))]) hE (goes_yes hE rfl (lkb rfl hb44)) (by decide) rfl cb118 (c_spec_l01In _ x27.Version 0 (wr ((p0.Keys.length : Int) - 1)) r46 e47) ?_
                rintro v w a ⟨rfl, hK⟩ hE
                have hM := hM.keep hK
                refine s_not hE (goes_yes hE rfl (lkb rfl hb44)) (by decide) rfl ?_; intro a hE
                refine s_pickF hE goes_none (by decide) (lkb rfl hb44) rfl ?_; intro a hE
                refine s_move hE goes_none (by decide) rfl ?_; intro a hE
                refine splitB (!r46) (fun hb48 => ?_) (fun hb48 => ?_)
                · have hl40 := ite_t hl40 hb48
                  refine s_skip hE rfl (lkb rfl hb48) rfl (by decide) ?_; intro a hE
                  refine s_skip hE rfl (lkb rfl hb48) rfl (by decide) ?_; intro a hE
                  refine s_skip hE rfl (lkb rfl hb48) rfl (by decide) ?_; intro a hE
                  refine s_skip hE rfl (lkb rfl hb48) rfl (by decide) ?_; intro a hE
                  refine s_pickT hE goes_none (by decide) (lkb rfl hb48) rfl ?_; intro a hE
                  refine s_move hE goes_none (by decide) rfl ?_; intro a hE
                  refine s_skip hE rfl rfl rfl (by decide) ?_; intro a hE
                  refine s_skip hE rfl rfl rfl (by decide) ?_; intro a hE
                  refine s_skip hE rfl rfl rfl (by decide) ?_; intro a hE
                  refine s_skip hE rfl rfl rfl (by decide) ?_; intro a hE
                  refine s_pickT hE goes_none (by decide) rfl rfl ?_; intro a hE
                  refine c_fin0 ?_
                  have ht49 := Option.some.inj hl40
                  subst ht49
                  refine c_mid ?_
                  exact ⟨hE.sub ⟨rfl, rfl, rfl, rfl, trivial⟩, hM⟩
                · have hl40 := ite_f hl40 hb48
                  refine s_fieldAddr hE (goes_yes hE rfl (lkb rfl hb48)) (by decide) rfl (fd106_3) ?_; intro a hE
                  refine s_load (v := u33) hE (goes_yes hE rfl (lkb rfl hb48)) (by decide) rfl ty29 rfl (At.cat (pre := [[(vI x27.Number)], [(vI x27.Version)], Flat.enc x27.Nonce]) (seg := [u33]) (post := [[u35], Flat.enc x27.Tag]) (hM.rawAt (pre := [])) (cl1 (n := 1) (m := 17) rfl (cl1 (n := 1) (m := 16) rfl (cl1 (n := 16) (m := 0) (Flat.len _) cl0)))) ?_; intro a hE
                  refine s_len hE (goes_yes hE rfl (lkb rfl hb48)) (by decide) rfl Try.underlying29 (hM.rd h34) ?_; intro a hE
                  refine s_int hE (goes_yes hE rfl (lkb rfl hb48)) (by decide) rfl rfl rfl ?_; intro a hE
                  refine s_pickF hE goes_none (by decide) (lkb rfl hb48) rfl ?_; intro a hE
                  refine s_move hE goes_none (by decide) rfl ?_; intro a hE
                  refine splitB (decide ((x27.Label.length : Int) > 32)) (fun hb50 => ?_) (fun hb50 => ?_)
                  · have hl40 := ite_t hl40 hb50
                    refine s_skip hE rfl (lkb rfl hb50) rfl (by decide) ?_; intro a hE
                    refine s_skip hE rfl (lkb rfl hb50) rfl (by decide) ?_; intro a hE
                    refine s_skip hE rfl (lkb rfl hb50) rfl (by decide) ?_; intro a hE
                    refine s_skip hE rfl (lkb rfl hb50) rfl (by decide) ?_; intro a hE
                    refine s_pickT hE goes_none (by decide) (lkb rfl hb50) rfl ?_; intro a hE
                    refine c_fin0 ?_
                    have ht51 := Option.some.inj hl40
                    subst ht51
                    refine c_mid ?_
                    exact ⟨hE.sub ⟨rfl, rfl, rfl, rfl, trivial⟩, hM⟩
                  · have hl40 := ite_f hl40 hb50
                    refine s_fieldAddr hE (goes_yes hE rfl (lkb rfl hb50)) (by decide) rfl (fd106_4) ?_; intro a hE
                    refine s_load (v := u35) hE (goes_yes hE rfl (lkb rfl hb50)) (by decide) rfl ty29 rfl (At.cat (pre := [[(vI x27.Number)], [(vI x27.Version)], Flat.enc x27.Nonce, [u33]]) (seg := [u35]) (post := [Flat.enc x27.Tag]) (hM.rawAt (pre := [])) (cl1 (n := 1) (m := 18) rfl (cl1 (n := 1) (m := 17) rfl (cl1 (n := 16) (m := 1) (Flat.len _) (cl1 (n := 1) (m := 0) rfl cl0))))) ?_; intro a hE
                    refine s_len hE (goes_yes hE rfl (lkb rfl hb50)) (by decide) rfl Try.underlying29 (hM.rd h36) ?_; intro a hE
                    refine s_int hE (goes_yes hE rfl (lkb rfl hb50)) (by decide) rfl rfl rfl ?_; intro a hE
                    refine s_pickF hE goes_none (by decide) (lkb rfl hb50) rfl ?_; intro a hE
                    refine c_fin0 ?_
                    have ht52 := Option.some.inj hl40
                    subst ht52
                    refine c_mid ?_
                    exact ⟨hE.sub ⟨rfl, rfl, rfl, rfl, trivial⟩, hM⟩
          · skip
            rintro a w ⟨hE, hM⟩
            refine c_cond hE rfl ?_ ?_
            · intro hb53
              have hF41 := ite_t hF41 hb53
              refine c_region ?_
              refine s_assign hE goes_none (by decide) rfl ?_; intro a hE
              refine c_fin ?_
              have ht54 := hx24 _ (Option.some.inj hF41).symm
              subst ht54
              have hr := Option.some.inj hF20
              subst hr
              have hM := M.fst (l := []) hM
              exact wp_ret (r_then (r_inb (r_then (r_then (r_inb (r_then (r_then (k_ret1 hE rfl (res_tmp hE rfl) ⟨_, rfl, rfl, hM.kept⟩))))))))
            · intro hb53
              have hF41 := ite_f hF41 hb53
              refine wp_skip ?_
              refine c_nx ?_
              refine wp_region_lit ?_
              refine s_fieldAddr hE goes_none (by decide) rfl (fd106_0) ?_; intro a hE
              refine s_load (v := (vI x27.Number)) hE goes_none (by decide) rfl ty2 rfl (At.cat (pre := []) (seg := [(vI x27.Number)]) (post := [[(vI x27.Version)], Flat.enc x27.Nonce, [u33], [u35], Flat.enc x27.Tag]) (hM.rawAt (pre := [])) cl0) ?_; intro a hE
              refine s_assign hE goes_none (by decide) rfl ?_; intro a hE
              refine c_fin0 ?_
              refine c_nb ?_
              refine c_nx ?_
              refine wp_region_lit ?_
              refine s_move hE goes_none (by decide) rfl ?_; intro a hE
              refine s_int hE goes_none (by decide) rfl rfl rfl ?_; intro a hE
              refine s_assign hE goes_none (by decide) rfl ?_; intro a hE
              refine c_fin0 ?_
              refine c_mid ?_
              have hM := hM.pull (pre := [_])
              have hM := M.fst (l := [_]) hM
              exact ⟨_, (Option.some.inj hF41).symm, hE.sub ⟨rfl, rfl, rfl, trivial⟩, hM⟩
        · intro hb26
          have hs23 := ite_f hs23 hb26
          refine wp_exit (e_then (e_then (e_eq ?_)))
          have ht55 := hx24 _ (Option.some.inj hs23).symm
          subst ht55
          refine c_mid ?_
          exact ⟨(), rfl, hE.sub ⟨rfl, trivial⟩, hM⟩
      · skip
        rintro a w ⟨s21, ht, hE, hM⟩
        subst ht
        refine c_nx ?_
        refine wp_seq ?_
        refine c_region ?_
        refine s_assign hE goes_none (by decide) rfl ?_; intro a hE
        refine c_fin ?_
        obtain ⟨j56, hl57, hF58⟩ := bind_some hF20
        refine c_cut (fun a w => ∃ s59 : Unit, j56 = Fl.nx s59 ∧ Env 96 a [] ∧ M (Old w0) w0 w []) ?_ ?_
        · skip
          refine wp_block ?_
          refine c_loop (fun (s60 : Int) a w => Env 96 a [(1, (ptr b1 0)), (6, (vI s60))] ∧ M (Old w0) w0 w [raw b1 (cat [[v0_1], [(vI p0.Next)], [v0_2], [v0_3], Flat.enc p0.Head])]) hl57 ⟨hE.sub ⟨rfl, rfl, trivial⟩, hM⟩ ?_
          rintro s60 a w ⟨hE, hM⟩ o63 hs61 hx62
          unfold L1_spec_l12Is at hs61
          refine wp_seq ?_
          refine c_region ?_
          refine s_move hE goes_none (by decide) rfl ?_; intro a hE
          refine s_fieldAddr hE goes_none (by decide) rfl (fd49_3) ?_; intro a hE
          refine s_load (v := v0_3) hE goes_none (by decide) rfl ty46 rfl (At.cat (pre := [[v0_1], [(vI p0.Next)], [v0_2]]) (seg := [v0_3]) (post := [Flat.enc p0.Head]) (hM.rawAt (pre := [])) (cl1 (n := 1) (m := 2) rfl (cl1 (n := 1) (m := 1) rfl (cl1 (n := 1) (m := 0) rfl cl0)))) ?_; intro a hE
          refine s_len hE goes_none (by decide) rfl Try.underlying46 (hM.rd hv0_3) ?_; intro a hE
          refine s_int hE goes_none (by decide) rfl rfl rfl ?_; intro a hE
          refine c_fin ?_
          refine c_cond hE rfl ?_ ?_
          · intro hb64
            have hs61 := ite_t hs61 hb64
            refine wp_skip ?_
            refine c_nx ?_
            refine wp_seq ?_
            refine wp_block ?_
            refine c_region ?_
            refine s_fieldAddr hE goes_none (by decide) rfl (fd49_3) ?_; intro a hE
            refine s_load (v := v0_3) hE goes_none (by decide) rfl ty46 rfl (At.cat (pre := [[v0_1], [(vI p0.Next)], [v0_2]]) (seg := [v0_3]) (post := [Flat.enc p0.Head]) (hM.rawAt (pre := [])) (cl1 (n := 1) (m := 2) rfl (cl1 (n := 1) (m := 1) rfl (cl1 (n := 1) (m := 0) rfl cl0)))) ?_; intro a hE
            refine s_move hE goes_none (by decide) rfl ?_; intro a hE
            obtain ⟨x65, e66, hs61⟩ := bind_some hs61
            have hi67 := idx_some e66
            refine s_indexS hE goes_none (by decide) rfl rfl Try.underlying46 ty109 (hM.rd hv0_3) hi67.1 ?_; intro a hE
            refine s_loadA (cs := Flat.enc x65) hE goes_none (by decide) rfl ty109 rfl (sl_atF (hM.rd hv0_3) hi67.2) (cat_len (cl1 (n := 1) (m := 33) rfl (cl1 (n := 1) (m := 32) rfl (cl1 (n := 32) (m := 0) (Flat.len _) cl0)))) ?_; intro a hE
            obtain ⟨r68, e69, hs61⟩ := bind_some hs61
            refine s_call (vs := [(Value.agg (Flat.enc x65).toArray)]) hE goes_none (by decide) rfl cb126 (c_spec_l12Event _ x65 r68 e69) ?_
            rintro v w a ⟨rfl, hK⟩ hE
            have hM := hM.keep hK
            refine s_not hE goes_none (by decide) rfl ?_; intro a hE
            refine c_fin ?_
            refine c_cond hE rfl ?_ ?_
            · intro hb70
              have hs61 := ite_t hs61 hb70
              refine c_region ?_
              refine s_assign hE goes_none (by decide) rfl ?_; intro a hE
              refine c_fin ?_
              have ht71 := hx62 _ (Option.some.inj hs61).symm
              subst ht71
              have hr := Option.some.inj hF58
              subst hr
              have hM := M.fst (l := []) hM
              exact wp_ret (r_inb (r_then (r_then (r_inb (r_then (r_then (k_ret1 hE rfl (res_tmp hE rfl) ⟨_, rfl, rfl, hM.kept⟩)))))))
            · intro hb70
              have hs61 := ite_f hs61 hb70
              refine wp_skip ?_
              refine c_nb ?_
              refine c_nx ?_
              refine wp_region_lit ?_
              refine s_move hE goes_none (by decide) rfl ?_; intro a hE
              refine s_int hE goes_none (by decide) rfl rfl rfl ?_; intro a hE
              refine s_assign hE goes_none (by decide) rfl ?_; intro a hE
              refine c_fin0 ?_
              refine c_mid ?_
              exact ⟨_, (Option.some.inj hs61).symm, hE.sub ⟨rfl, rfl, trivial⟩, hM⟩
          · intro hb64
            have hs61 := ite_f hs61 hb64
            refine wp_exit (e_then (e_then (e_eq ?_)))
            have ht72 := hx62 _ (Option.some.inj hs61).symm
            subst ht72
            refine c_mid ?_
            have hM := M.fst (l := []) hM
            exact ⟨(), rfl, hE.sub trivial, hM⟩
        · skip
          rintro a w ⟨s59, ht, hE, hM⟩
          subst ht
          refine c_nx ?_
          refine c_region ?_
          refine s_assign hE goes_none (by decide) rfl ?_; intro a hE
          refine c_fin ?_
          have hr := Option.some.inj hF58
          subst hr
          exact wp_ret (k_ret1 hE rfl (res_tmp hE rfl) ⟨_, rfl, rfl, hM.kept⟩)
noncomputable def L0_spec_OldRecords (p0 : GVault) (s14 : (List Int) × Int) : Option (Fl ((List Int) × Int) (List Int)) :=
  if (decide (s14.2 < (p0.Records.length : Int))) = true then ((((idx p0.Records s14.2).bind fun (x30 : GRecord) => some (x30.Version != (wr ((p0.Keys.length : Int) - 1))) : Option (Bool)).bind fun (j26 : Bool) => (if j26 = true then ((idx p0.Records s14.2).bind fun (x47 : GRecord) => (app 8 s14.1 ([x47.Number] : List Int)).bind fun (l59 : (List Int)) => some (s14.1 ++ ([x47.Number] : List Int))) else (some s14.1) : Option ((List Int))).bind fun (j41 : (List Int)) => some j41 : Option ((List Int))).bind fun (j21 : (List Int)) => some (Fl.nx (j21, wr (s14.2 + 1)))) else (some (Fl.ex s14.1))
noncomputable def F_spec_OldRecords (p0 : GVault) : Option ((List Int) × Int) :=
  (F_spec_l12Is p0).bind fun (r3 : Bool) => if (!r3) = true then (some ([], 1)) else ((iter (L0_spec_OldRecords p0) (([] : List Int), 0) : Option ((List Int))).bind fun (j9 : (List Int)) => some (j9, 0))
set_option maxRecDepth 20000 in
set_option maxHeartbeats 400000 in
theorem c_spec_OldRecords (w0 : World) (p0 : GVault) (v0_1 : Value) (hv0_1 : Ro w0 p0.Keys [v0_1]) (v0_2 : Value) (hv0_2 : Ro w0 p0.Records [v0_2]) (v0_3 : Value) (hv0_3 : Ro w0 p0.Events [v0_3]) (r : (List Int) × Int) (hF : F_spec_OldRecords p0 = some r) :
    Calls Try.prog 41 [(Value.agg (cat [[v0_1], [(vI p0.Next)], [v0_2], [v0_3], Flat.enc p0.Head]).toArray)].toArray w0 (fun en w' => ∃ v, en = .returned v ∧ (∃ (y1 : Value), v = (Value.tuple [y1, (vI r.2)].toArray) ∧ Fr w0 w' [osl NoB (r.1 : List Int) y1] ∧ Kept (Old w0) w0 w')) := by
  refine c_enter (n := 38) Try.func41 rfl rfl (Nat.le_of_ble_eq_true rfl) rfl ?_
  intro a hE
  have hM := M.start w0
  unfold F_spec_OldRecords at hF
  refine c_region ?_
  refine s_box (cs := cat [[v0_1], [(vI p0.Next)], [v0_2], [v0_3], Flat.enc p0.Head]) hE hM goes_none (by decide) rfl rfl ?_; intro b1 w a hM hE
  refine s_assign hE goes_none (by decide) rfl ?_; intro a hE
  refine s_assign hE goes_none (by decide) rfl ?_; intro a hE
  refine c_fin ?_
  refine wp_seq ?_
  refine c_region ?_
  refine s_loadA (cs := cat [[v0_1], [(vI p0.Next)], [v0_2], [v0_3], Flat.enc p0.Head]) hE goes_none (by decide) rfl ty49 rfl (hM.rawAt (pre := [])) (cat_len (cl1 (n := 1) (m := 35) rfl (cl1 (n := 1) (m := 34) rfl (cl1 (n := 1) (m := 33) rfl (cl1 (n := 1) (m := 32) rfl (cl1 (n := 32) (m := 0) (Flat.len _) cl0)))))) ?_; intro a hE
  obtain ⟨r3, e4, hF⟩ := bind_some hF
  refine s_call (vs := [(Value.agg (cat [[v0_1], [(vI p0.Next)], [v0_2], [v0_3], Flat.enc p0.Head]).toArray)]) hE goes_none (by decide) rfl cb76 (c_spec_l12Is _ p0 v0_1 (hM.rdo hv0_1) v0_2 (hM.rdo hv0_2) v0_3 (hM.rdo hv0_3) r3 e4) ?_
  rintro v w a ⟨rfl, hK⟩ hE
  have hM := hM.keep hK
  refine s_not hE goes_none (by decide) rfl ?_; intro a hE
  refine c_fin ?_
  refine c_cond hE rfl ?_ ?_
  · intro hb5
    have hF := ite_t hF hb5
    refine c_region ?_
    refine s_assign hE goes_none (by decide) rfl ?_; intro a hE
    refine s_assign hE goes_none (by decide) rfl ?_; intro a hE
    refine c_fin ?_
    have hM := M.nilS (α := Int) NoB noB hM
    have hr := Option.some.inj hF
    subst hr
    have hM := M.fst (l := [_]) hM
    exact wp_ret (r_then (k_ret2 hE rfl (res_tmp hE rfl) (res_tmp hE rfl) ⟨_, rfl, (Value.slice none 0 0), rfl, hM.outF (locN1 locN0), hM.kept⟩))
  · intro hb5
    have hF := ite_f hF hb5
    refine wp_skip ?_
    refine c_nx ?_
    refine c_region ?_
    refine s_buildF (xs := []) (l := ([] : List Int)) (vs := []) hE hM goes_none (by decide) rfl rfl Try.underlying66 ty2 rfl (by decide) rfl ?_; intro u7 w a hM hE
    refine s_assign hE goes_none (by decide) rfl ?_; intro a hE
    refine c_fin ?_
    refine wp_seq ?_
    refine c_region ?_
    refine s_assign hE goes_none (by decide) rfl ?_; intro a hE
    refine c_fin ?_
    obtain ⟨j9, hl10, hF11⟩ := bind_some hF
    refine c_cut (fun a w => ∃ (u12 : Value), Env 38 a [(4, u12)] ∧ M (Old w0) w0 w [osl NoB (j9 : List Int) u12]) ?_ ?_
    · skip
      refine wp_block ?_
      have hM := hM.pull (pre := [_])
      refine c_loop (fun (s14 : (List Int) × Int) a w => ∃ (u15 : Value), Env 38 a [(1, (ptr b1 0)), (4, u15), (5, (vI s14.2))] ∧ M (Old w0) w0 w [raw b1 (cat [[v0_1], [(vI p0.Next)], [v0_2], [v0_3], Flat.enc p0.Head]), osl NoB (s14.1 : List Int) u15]) hl10 ⟨u7, hE.sub ⟨rfl, rfl, rfl, trivial⟩, hM⟩ ?_
      rintro s14 a w ⟨u15, hE, hM⟩ o19 hs17 hx18
      unfold L0_spec_OldRecords at hs17
      refine wp_seq ?_
      refine c_region ?_
      refine s_move hE goes_none (by decide) rfl ?_; intro a hE
      refine s_fieldAddr hE goes_none (by decide) rfl (fd49_2) ?_; intro a hE
      refine s_load (v := v0_2) hE goes_none (by decide) rfl ty45 rfl (At.cat (pre := [[v0_1], [(vI p0.Next)]]) (seg := [v0_2]) (post := [[v0_3], Flat.enc p0.Head]) (hM.rawAt (pre := [])) (cl1 (n := 1) (m := 1) rfl (cl1 (n := 1) (m := 0) rfl cl0))) ?_; intro a hE
      refine s_len hE goes_none (by decide) rfl Try.underlying45 (hM.rd hv0_2) ?_; intro a hE
      refine s_int hE goes_none (by decide) rfl rfl rfl ?_; intro a hE
      refine c_fin ?_
      refine c_cond hE rfl ?_ ?_
      · intro hb20
        have hs17 := ite_t hs17 hb20
        refine wp_skip ?_
        refine c_nx ?_
        obtain ⟨j21, hl22, hF23⟩ := bind_some hs17
        refine c_join (fun a w => ∃ (u24 : Value), Env 38 a [(1, (ptr b1 0)), (4, u24), (5, (vI s14.2))] ∧ M (Old w0) w0 w [raw b1 (cat [[v0_1], [(vI p0.Next)], [v0_2], [v0_3], Flat.enc p0.Head]), osl NoB (j21 : List Int) u24]) ?_ ?_
        · skip
          refine wp_block ?_
          obtain ⟨j26, hl27, hF28⟩ := bind_some hl22
          refine c_join (fun a w => Env 38 a [(1, (ptr b1 0)), (4, u15), (5, (vI s14.2)), (27, (vT j26))] ∧ M (Old w0) w0 w [raw b1 (cat [[v0_1], [(vI p0.Next)], [v0_2], [v0_3], Flat.enc p0.Head]), osl NoB (s14.1 : List Int) u15]) ?_ ?_
          · skip
            obtain ⟨x30, e31, hl27⟩ := bind_some hl27
            have hi32 := idx_some e31
            obtain ⟨cs33, hs34, hA35⟩ := sl_atRo hv0_2 hi32.2 -- ^
            obtain ⟨u36, u38, rfl, h37, h39⟩ := un_GRecord hs34 -- ^
            refine c_draw (n := 38) (hd := [_, _, _, _, _, _, _, _, _, _, _]) (tl := []) hmix rfl rfl [17, 18, 19, 20, 21, 22, 23, 24, 25, 26, 27] (by decide) (fun w => M (Old w0) w0 w [raw b1 (cat [[v0_1], [(vI p0.Next)], [v0_2], [v0_3], Flat.enc p0.Head]), osl NoB (s14.1 : List Int) u15]) (fun j => ([fun v _ => v = (ptr b1 (0 + 2)), fun v _ => v = v0_2, fun v _ => v = (vI s14.2), fun v _ => v = (ptr (sb v0_2) (so v0_2 + (s14.2).toNat * 52)), fun v _ => v = (ptr (sb v0_2) (so v0_2 + (s14.2).toNat * 52 + 1)), fun v _ => v = (vI x30.Version), fun v _ => v = (ptr b1 (0 + 0)), fun v _ => v = v0_1, fun v _ => v = (vI (p0.Keys.length : Int)), fun v _ => v = (vI (wr ((p0.Keys.length : Int) - 1))), fun v _ => v = (vT (x30.Version != (wr ((p0.Keys.length : Int) - 1))))] : List (Value → World → Prop)).getD j (fun _ _ => True)) (fun _ _ h hk => h.keep hk) (gup (gupE (gupE (gupE (gupE (gupE (gupE (gupE (gupE (gupE (gupE (gupE gupN)))))))))))) hE hM.drew (steps_of (steps_cons ?_ (steps_cons ?_ (steps_cons ?_ (steps_cons ?_ (steps_cons ?_ (steps_cons ?_ (steps_cons ?_ (steps_cons ?_ (steps_cons ?_ (steps_cons ?_ (steps_cons ?_ steps_nil)))))))))))) ?_
            · intro a w ux29 hE hM hp
              refine s_fieldAddr hE goes_none (by decide) rfl (fd49_2) ?_; intro a hE
              exact ⟨Kept.refl _ _, _, _, rfl, hE, rfl⟩
            · intro a w ux29 hE hM hp
              have f0 : ux29 0 = (ptr b1 (0 + 2)) := hp 0 _ rfl rfl
              refine s_load (v := v0_2) hE goes_none (by decide) (lk rfl f0) ty45 rfl (At.cat (pre := [[v0_1], [(vI p0.Next)]]) (seg := [v0_2]) (post := [[v0_3], Flat.enc p0.Head]) (hM.rawAt (pre := [])) (cl1 (n := 1) (m := 1) rfl (cl1 (n := 1) (m := 0) rfl cl0))) ?_; intro a hE
              exact ⟨Kept.refl _ _, _, _, rfl, hE, rfl⟩
            · intro a w ux29 hE hM hp
              refine s_move hE goes_none (by decide) rfl ?_; intro a hE
              exact ⟨Kept.refl _ _, _, _, rfl, hE, rfl⟩
            · intro a w ux29 hE hM hp
              have f1 : ux29 1 = v0_2 := hp 0 _ rfl rfl
              have f2 : ux29 2 = (vI s14.2) := hp 1 _ rfl rfl
              refine s_indexS hE goes_none (by decide) (lk rfl f1) (lk rfl f2) Try.underlying45 ty106 (hM.rd hv0_2) hi32.1 ?_; intro a hE
              exact ⟨Kept.refl _ _, _, _, rfl, hE, rfl⟩
            · intro a w ux29 hE hM hp
              have f3 : ux29 3 = (ptr (sb v0_2) (so v0_2 + (s14.2).toNat * 52)) := hp 0 _ rfl rfl
              refine s_fieldAddr hE goes_none (by decide) (lk rfl f3) (fd106_1) ?_; intro a hE
              exact ⟨Kept.refl _ _, _, _, rfl, hE, rfl⟩
            · intro a w ux29 hE hM hp
              have f4 : ux29 4 = (ptr (sb v0_2) (so v0_2 + (s14.2).toNat * 52 + 1)) := hp 0 _ rfl rfl
              refine s_load (v := (vI x30.Version)) hE goes_none (by decide) (lk rfl f4) ty2 rfl (At.cat (pre := [[(vI x30.Number)]]) (seg := [(vI x30.Version)]) (post := [Flat.enc x30.Nonce, [u36], [u38], Flat.enc x30.Tag]) (hM.atk hA35 (sl_blk hv0_2 hi32.2)) (cl1 (n := 1) (m := 0) rfl cl0)) ?_; intro a hE
              exact ⟨Kept.refl _ _, _, _, rfl, hE, rfl⟩
            · intro a w ux29 hE hM hp
              refine s_fieldAddr hE goes_none (by decide) rfl (fd49_0) ?_; intro a hE
              exact ⟨Kept.refl _ _, _, _, rfl, hE, rfl⟩
            · intro a w ux29 hE hM hp
              have f6 : ux29 6 = (ptr b1 (0 + 0)) := hp 0 _ rfl rfl
              refine s_load (v := v0_1) hE goes_none (by decide) (lk rfl f6) ty44 rfl (At.cat (pre := []) (seg := [v0_1]) (post := [[(vI p0.Next)], [v0_2], [v0_3], Flat.enc p0.Head]) (hM.rawAt (pre := [])) cl0) ?_; intro a hE
              exact ⟨Kept.refl _ _, _, _, rfl, hE, rfl⟩
            · intro a w ux29 hE hM hp
              have f7 : ux29 7 = v0_1 := hp 0 _ rfl rfl
              refine s_len hE goes_none (by decide) (lk rfl f7) Try.underlying44 (hM.rd hv0_1) ?_; intro a hE
              exact ⟨Kept.refl _ _, _, _, rfl, hE, rfl⟩
            · intro a w ux29 hE hM hp
              have f8 : ux29 8 = (vI (p0.Keys.length : Int)) := hp 0 _ rfl rfl
              refine s_int hE goes_none (by decide) (lk rfl f8) rfl rfl ?_; intro a hE
              exact ⟨Kept.refl _ _, _, _, rfl, hE, rfl⟩
            · intro a w ux29 hE hM hp
              have f5 : ux29 5 = (vI x30.Version) := hp 0 _ rfl rfl
              have f9 : ux29 9 = (vI (wr ((p0.Keys.length : Int) - 1))) := hp 1 _ rfl rfl
              refine s_int hE goes_none (by decide) (lk rfl f5) (lk rfl f9) rfl ?_; intro a hE
              exact ⟨Kept.refl _ _, _, _, rfl, hE, rfl⟩
            · intro a w ux29 hE hM hg
              have f0 : ux29 0 = (ptr b1 (0 + 2)) := hg 0 (by decide)
              have f1 : ux29 1 = v0_2 := hg 1 (by decide)
              have f2 : ux29 2 = (vI s14.2) := hg 2 (by decide)
              have f3 : ux29 3 = (ptr (sb v0_2) (so v0_2 + (s14.2).toNat * 52)) := hg 3 (by decide)
              have f4 : ux29 4 = (ptr (sb v0_2) (so v0_2 + (s14.2).toNat * 52 + 1)) := hg 4 (by decide)
              have f5 : ux29 5 = (vI x30.Version) := hg 5 (by decide)
              have f6 : ux29 6 = (ptr b1 (0 + 0)) := hg 6 (by decide)
              have f7 : ux29 7 = v0_1 := hg 7 (by decide)
              have f8 : ux29 8 = (vI (p0.Keys.length : Int)) := hg 8 (by decide)
              have f9 : ux29 9 = (vI (wr ((p0.Keys.length : Int) - 1))) := hg 9 (by decide)
              have f10 : ux29 10 = (vT (x30.Version != (wr ((p0.Keys.length : Int) - 1)))) := hg 10 (by decide)
              have hE := hE.sub (e' := [(17, (ptr b1 (0 + 2))), (18, v0_2), (19, (vI s14.2)), (20, (ptr (sb v0_2) (so v0_2 + (s14.2).toNat * 52))), (21, (ptr (sb v0_2) (so v0_2 + (s14.2).toNat * 52 + 1))), (22, (vI x30.Version)), (23, (ptr b1 (0 + 0))), (24, v0_1), (25, (vI (p0.Keys.length : Int))), (26, (vI (wr ((p0.Keys.length : Int) - 1)))), (27, (vT (x30.Version != (wr ((p0.Keys.length : Int) - 1))))), (1, (ptr b1 0)), (4, u15), (5, (vI s14.2)), (10, (vI s14.2)), (11, (ptr b1 (0 + 2))), (12, v0_2), (13, (vI (p0.Records.length : Int))), (14, (vT (decide (s14.2 < (p0.Records.length : Int)))))]) ⟨lk rfl f0, lk rfl f1, lk rfl f2, lk rfl f3, lk rfl f4, lk rfl f5, lk rfl f6, lk rfl f7, lk rfl f8, lk rfl f9, lk rfl f10, rfl, rfl, rfl, rfl, rfl, rfl, rfl, rfl, trivial⟩
              refine c_fin0 ?_
              have ht40 := Option.some.inj hl27
              subst ht40
              refine c_mid ?_
              exact ⟨hE.sub ⟨rfl, rfl, rfl, rfl, trivial⟩, hM⟩
          · skip
            rintro a w ⟨hE, hM⟩
            obtain ⟨j41, hl42, hF43⟩ := bind_some hF28
            refine c_cut (fun a w => ∃ (u44 : Value), Env 38 a [(1, (ptr b1 0)), (4, u44), (5, (vI s14.2))] ∧ M (Old w0) w0 w [raw b1 (cat [[v0_1], [(vI p0.Next)], [v0_2], [v0_3], Flat.enc p0.Head]), osl NoB (j41 : List Int) u44]) ?_ ?_
            · skip
              refine c_cond hE rfl ?_ ?_
              · intro hb46
                have hl42 := ite_t hl42 hb46
                refine wp_region_lit ?_
                refine s_move hE goes_none (by decide) rfl ?_; intro a hE
                refine s_fieldAddr hE goes_none (by decide) rfl (fd49_2) ?_; intro a hE
                refine s_load (v := v0_2) hE goes_none (by decide) rfl ty45 rfl (At.cat (pre := [[v0_1], [(vI p0.Next)]]) (seg := [v0_2]) (post := [[v0_3], Flat.enc p0.Head]) (hM.rawAt (pre := [])) (cl1 (n := 1) (m := 1) rfl (cl1 (n := 1) (m := 0) rfl cl0))) ?_; intro a hE
                refine s_move hE goes_none (by decide) rfl ?_; intro a hE
                obtain ⟨x47, e48, hl42⟩ := bind_some hl42
                have hi49 := idx_some e48
                refine s_indexS hE goes_none (by decide) rfl rfl Try.underlying45 ty106 (hM.rd hv0_2) hi49.1 ?_; intro a hE
                refine s_fieldAddr hE goes_none (by decide) rfl (fd106_0) ?_; intro a hE
                obtain ⟨cs50, hs51, hA52⟩ := sl_atRo hv0_2 hi49.2 -- ^
                obtain ⟨u53, u55, rfl, h54, h56⟩ := un_GRecord hs51 -- ^
                refine s_load (v := (vI x47.Number)) hE goes_none (by decide) rfl ty2 rfl (At.cat (pre := []) (seg := [(vI x47.Number)]) (post := [[(vI x47.Version)], Flat.enc x47.Nonce, [u53], [u55], Flat.enc x47.Tag]) (hM.atk hA52 (sl_blk hv0_2 hi49.2)) cl0) ?_; intro a hE
                refine s_buildF (xs := [.tmp 34]) (l := ([x47.Number] : List Int)) (vs := [(vI x47.Number)]) hE hM goes_none (by decide) rfl rfl Try.underlying66 ty2 rfl (by decide) rfl ?_; intro u57 w a hM hE
                obtain ⟨l59, e60, hl42⟩ := bind_some hl42
                obtain ⟨e63, rfl⟩ := app_some e60
                have hM := hM.pull (pre := [_, _])
                refine s_appendF hE hM goes_none (by decide) rfl rfl (hM.sl (pre := [_]) noB) Try.underlying66 ty2 rfl (by decide) e63 ?_; intro u61 w a hM hE
                refine s_assign hE goes_none (by decide) rfl ?_; intro a hE
                refine c_fin0 ?_
                have ht64 := Option.some.inj hl42
                subst ht64
                refine c_mid ?_
                have hM := hM.pull (pre := [_, _])
                have hM := M.fst (l := [_, _]) hM
                exact ⟨u61, hE.sub ⟨rfl, rfl, rfl, trivial⟩, hM⟩
              · intro hb46
                have hl42 := ite_f hl42 hb46
                refine wp_skip ?_
                have ht65 := Option.some.inj hl42
                subst ht65
                refine c_mid ?_
                exact ⟨u15, hE.sub ⟨rfl, rfl, rfl, trivial⟩, hM⟩
            · skip
              rintro a w ⟨u44, hE, hM⟩
              refine c_nb ?_
              have ht66 := Option.some.inj hF43
              subst ht66
              refine c_mid ?_
              exact ⟨u44, hE.sub ⟨rfl, rfl, rfl, trivial⟩, hM⟩
        · skip
          rintro a w ⟨u24, hE, hM⟩
          refine wp_region_lit ?_
          refine s_move hE goes_none (by decide) rfl ?_; intro a hE
          refine s_int hE goes_none (by decide) rfl rfl rfl ?_; intro a hE
          refine s_assign hE goes_none (by decide) rfl ?_; intro a hE
          refine c_fin0 ?_
          refine c_mid ?_
          exact ⟨_, (Option.some.inj hF23).symm, u24, hE.sub ⟨rfl, rfl, rfl, trivial⟩, hM⟩
      · intro hb20
        have hs17 := ite_f hs17 hb20
        refine wp_exit (e_then (e_then (e_eq ?_)))
        have ht67 := hx18 _ (Option.some.inj hs17).symm
        subst ht67
        refine c_mid ?_
        have hM := hM.pull (pre := [_])
        have hM := M.fst (l := [_]) hM
        exact ⟨u15, hE.sub ⟨rfl, trivial⟩, hM⟩
    · skip
      rintro a w ⟨u12, hE, hM⟩
      refine c_nx ?_
      refine c_region ?_
      refine s_move hE goes_none (by decide) rfl ?_; intro a hE
      refine s_assign hE goes_none (by decide) rfl ?_; intro a hE
      refine s_assign hE goes_none (by decide) rfl ?_; intro a hE
      refine c_fin ?_
      have hr := Option.some.inj hF11
      subst hr
      exact wp_ret (k_ret2 hE rfl (res_tmp hE rfl) (res_tmp hE rfl) ⟨_, rfl, u12, rfl, hM.outF (locN1 locN0), hM.kept⟩)
noncomputable def F_impl_length_impl_Block (p0 : (List (Vector UInt8 16))) : Option (Int) :=
  some (p0.length : Int)
set_option maxRecDepth 20000 in
set_option maxHeartbeats 400000 in
theorem c_impl_length_impl_Block (w0 : World) (p0 : (List (Vector UInt8 16))) (v0_1 : Value) (hv0_1 : Ro w0 p0 [v0_1]) (r : Int) (hF : F_impl_length_impl_Block p0 = some r) :
    Calls Try.prog 81 [v0_1].toArray w0 (fun en w' => ∃ v, en = .returned v ∧ (v = (vI r) ∧ Kept (Old w0) w0 w')) := by
  refine c_enter (n := 5) Try.func81 rfl rfl (Nat.le_of_ble_eq_true rfl) rfl ?_
  intro a hE
  have hM := M.start w0
  unfold F_impl_length_impl_Block at hF
  refine c_region ?_
  refine s_assign hE goes_none (by decide) rfl ?_; intro a hE
  refine c_fin ?_
  refine c_region ?_
  refine s_move hE goes_none (by decide) rfl ?_; intro a hE
  refine s_len hE goes_none (by decide) rfl Try.underlying44 (hM.rd hv0_1) ?_; intro a hE
  refine s_assign hE goes_none (by decide) rfl ?_; intro a hE
  refine c_fin ?_
  have hr := Option.some.inj hF
  subst hr
  exact wp_ret (k_ret1 hE rfl (res_tmp hE rfl) ⟨_, rfl, rfl, hM.kept⟩)
noncomputable def F_impl_inRange (p0 : Int) (p1 : Int) (p2 : Int) : Option (Bool) :=
  (if (decide (p1 ≤ p0)) = true then (some (decide (p0 ≤ p2))) else (some false) : Option (Bool)).bind fun (j1 : Bool) => some j1
set_option maxRecDepth 20000 in
set_option maxHeartbeats 400000 in
theorem c_impl_inRange (w0 : World) (p0 : Int) (p1 : Int) (p2 : Int) (r : Bool) (hF : F_impl_inRange p0 p1 p2 = some r) :
    Calls Try.prog 56 [(vI p0), (vI p1), (vI p2)].toArray w0 (fun en w' => ∃ v, en = .returned v ∧ (v = (vT r) ∧ Kept (Old w0) w0 w')) := by
  refine c_enter (n := 15) Try.func56 rfl rfl (Nat.le_of_ble_eq_true rfl) rfl ?_
  intro a hE
  have hM := M.start w0
  unfold F_impl_inRange at hF
  refine c_region ?_
  refine s_assign hE goes_none (by decide) rfl ?_; intro a hE
  refine c_fin ?_
  obtain ⟨j1, hl2, hF3⟩ := bind_some hF
  refine c_join (fun a w => Env 15 a [(6, (vT j1))] ∧ M (Old w0) w0 w []) ?_ ?_
  · skip
    refine wp_region_lit ?_
    refine s_move hE goes_none (by decide) rfl ?_; intro a hE
    refine s_move hE goes_none (by decide) rfl ?_; intro a hE
    refine s_int hE goes_none (by decide) rfl rfl rfl ?_; intro a hE
    refine s_move hE goes_none (by decide) rfl ?_; intro a hE
    refine splitB (decide (p1 ≤ p0)) (fun hb4 => ?_) (fun hb4 => ?_)
    · have hl2 := ite_t hl2 hb4
      refine s_move hE (goes_yes hE rfl (lkb rfl hb4)) (by decide) rfl ?_; intro a hE
      refine s_move hE (goes_yes hE rfl (lkb rfl hb4)) (by decide) rfl ?_; intro a hE
      refine s_int hE (goes_yes hE rfl (lkb rfl hb4)) (by decide) rfl rfl rfl ?_; intro a hE
      refine s_pickT hE goes_none (by decide) (lkb rfl hb4) rfl ?_; intro a hE
      refine s_assign hE goes_none (by decide) rfl ?_; intro a hE
      refine c_fin0 ?_
      have ht5 := Option.some.inj hl2
      subst ht5
      refine c_mid ?_
      exact ⟨hE.sub ⟨rfl, trivial⟩, hM⟩
    · have hl2 := ite_f hl2 hb4
      refine s_skip hE rfl (lkb rfl hb4) rfl (by decide) ?_; intro a hE
      refine s_skip hE rfl (lkb rfl hb4) rfl (by decide) ?_; intro a hE
      refine s_skip hE rfl (lkb rfl hb4) rfl (by decide) ?_; intro a hE
      refine s_pickF hE goes_none (by decide) (lkb rfl hb4) rfl ?_; intro a hE
      refine s_assign hE goes_none (by decide) rfl ?_; intro a hE
      refine c_fin0 ?_
      have ht6 := Option.some.inj hl2
      subst ht6
      refine c_mid ?_
      exact ⟨hE.sub ⟨rfl, trivial⟩, hM⟩
  · skip
    rintro a w ⟨hE, hM⟩
    have hr := Option.some.inj hF3
    subst hr
    exact wp_ret (k_ret1 hE rfl (res_tmp hE rfl) ⟨_, rfl, rfl, hM.kept⟩)
noncomputable def L0_slices_IndexFunc_impl_Event_impl_Event (p0 : (List GEvent)) (p1 : GEvent → Option (Bool)) (s5 : Int) : Option (Fl Int (Fl Unit Int)) :=
  if (decide (s5 < (p0.length : Int))) = true then ((idx p0 s5).bind fun (x10 : GEvent) => ((p1 x10)).bind fun (r13 : Bool) => if r13 = true then (some (Fl.ex (Fl.ex s5))) else (some (Fl.nx (wr (s5 + 1))))) else (some (Fl.ex (Fl.nx ())))
noncomputable def F_slices_IndexFunc_impl_Event_impl_Event (p0 : (List GEvent)) (p1 : GEvent → Option (Bool)) : Option (Int) :=
  (iter (L0_slices_IndexFunc_impl_Event_impl_Event p0 p1) 0 : Option (Fl Unit Int)).bind fun (j1 : Fl Unit Int) => j1.el (fun (s4 : Unit) => some (-1)) (fun r => some r)
set_option maxRecDepth 20000 in
set_option maxHeartbeats 400000 in
theorem c_slices_IndexFunc_impl_Event_impl_Event (w0 : World) (p0 : (List GEvent)) (v0_1 : Value) (hv0_1 : Ro w0 p0 [v0_1]) (p1 : GEvent → Option (Bool)) (k1 : Nat) (q1 : List Value) (hcb1 : Callable Try.prog k1) (hg1 : ∀ (w2 : World), Kept (Old w0) w0 w2 → ∀ (z0 : GEvent) (zr : Bool), p1 z0 = some zr → Calls Try.prog k1 ([(Value.agg (Flat.enc z0).toArray)] ++ q1).toArray w2 (fun en w3 => ∃ v, en = .returned v ∧ (v = (vT zr) ∧ Kept (Old w2) w2 w3))) (r : Int) (hF : F_slices_IndexFunc_impl_Event_impl_Event p0 p1 = some r) :
    Calls Try.prog 130 [v0_1, (Value.func (.func k1) #[] q1.toArray)].toArray w0 (fun en w' => ∃ v, en = .returned v ∧ (v = (vI r) ∧ Kept (Old w0) w0 w')) := by
  refine c_enter (n := 19) Try.func130 rfl rfl (Nat.le_of_ble_eq_true rfl) rfl ?_
  intro a hE
  have hM := M.start w0
  unfold F_slices_IndexFunc_impl_Event_impl_Event at hF
  refine c_region ?_
  refine s_assign hE goes_none (by decide) rfl ?_; intro a hE
  refine c_fin ?_
  refine wp_seq ?_
  refine c_region ?_
  refine s_move hE goes_none (by decide) rfl ?_; intro a hE
  refine s_len hE goes_none (by decide) rfl Try.underlying46 (hM.rd hv0_1) ?_; intro a hE
  refine s_move hE goes_none (by decide) rfl ?_; intro a hE
  refine c_fin ?_
  obtain ⟨j1, hl2, hF3⟩ := bind_some hF
  refine c_cut (fun a w => ∃ s4 : Unit, j1 = Fl.nx s4 ∧ Env 19 a [] ∧ M (Old w0) w0 w []) ?_ ?_
  · skip
    refine wp_block ?_
    refine c_loop (fun (s5 : Int) a w => Env 19 a [(0, v0_1), (1, (Value.func (.func k1) #[] q1.toArray)), (7, (vI (p0.length : Int))), (8, (vI s5))] ∧ M (Old w0) w0 w []) hl2 ⟨hE.sub ⟨rfl, rfl, rfl, rfl, trivial⟩, hM⟩ ?_
    rintro s5 a w ⟨hE, hM⟩ o8 hs6 hx7
    unfold L0_slices_IndexFunc_impl_Event_impl_Event at hs6
    refine c_region ?_
    refine s_int hE goes_none (by decide) rfl rfl rfl ?_; intro a hE
    refine c_fin ?_
    refine wp_seq ?_
    refine c_cond hE rfl ?_ ?_
    · intro hb9
      have hs6 := ite_t hs6 hb9
      refine wp_skip ?_
      refine c_nx ?_
      refine wp_seq ?_
      refine wp_block ?_
      refine c_region ?_
      refine s_move hE goes_none (by decide) rfl ?_; intro a hE
      refine s_assign hE goes_none (by decide) rfl ?_; intro a hE
      refine c_fin ?_
      refine c_region ?_
      refine s_move hE goes_none (by decide) rfl ?_; intro a hE
      refine s_move hE goes_none (by decide) rfl ?_; intro a hE
      refine s_move hE goes_none (by decide) rfl ?_; intro a hE
      obtain ⟨x10, e11, hs6⟩ := bind_some hs6
      have hi12 := idx_some e11
      refine s_indexS hE goes_none (by decide) rfl rfl Try.underlying46 ty109 (hM.rd hv0_1) hi12.1 ?_; intro a hE
      refine s_loadA (cs := Flat.enc x10) hE goes_none (by decide) rfl ty109 rfl (sl_atF (hM.rd hv0_1) hi12.2) (cat_len (cl1 (n := 1) (m := 33) rfl (cl1 (n := 1) (m := 32) rfl (cl1 (n := 32) (m := 0) (Flat.len _) cl0)))) ?_; intro a hE
      obtain ⟨r13, e14, hs6⟩ := bind_some hs6
      refine s_callv2 (vs := [(Value.agg (Flat.enc x10).toArray)]) hE goes_none (by decide) rfl rfl hcb1 (hg1 _ hM.kept x10 r13 e14) ?_
      rintro v w a ⟨rfl, hK⟩ hE
      have hM := hM.keep hK
      refine c_fin ?_
      refine c_cond hE rfl ?_ ?_
      · intro hb15
        have hs6 := ite_t hs6 hb15
        refine c_region ?_
        refine s_move hE goes_none (by decide) rfl ?_; intro a hE
        refine s_assign hE goes_none (by decide) rfl ?_; intro a hE
        refine c_fin ?_
        have ht16 := hx7 _ (Option.some.inj hs6).symm
        subst ht16
        have hr := Option.some.inj hF3
        subst hr
        exact wp_ret (r_inb (r_then (r_then (r_inb (r_then (r_then (k_ret1 hE rfl (res_tmp hE rfl) ⟨_, rfl, rfl, hM.kept⟩)))))))
      · intro hb15
        have hs6 := ite_f hs6 hb15
        refine wp_skip ?_
        refine c_nb ?_
        refine c_nx ?_
        refine wp_region_lit ?_
        refine s_int hE goes_none (by decide) rfl rfl rfl ?_; intro a hE
        refine s_move hE goes_none (by decide) rfl ?_; intro a hE
        refine c_fin0 ?_
        refine c_mid ?_
        exact ⟨_, (Option.some.inj hs6).symm, hE.sub ⟨rfl, rfl, rfl, rfl, trivial⟩, hM⟩
    · intro hb9
      have hs6 := ite_f hs6 hb9
      refine wp_exit (e_then (e_then (e_eq ?_)))
      have ht17 := hx7 _ (Option.some.inj hs6).symm
      subst ht17
      refine c_mid ?_
      exact ⟨(), rfl, hE.sub trivial, hM⟩
  · skip
    rintro a w ⟨s4, ht, hE, hM⟩
    subst ht
    refine c_nx ?_
    refine c_region ?_
    refine s_assign hE goes_none (by decide) rfl ?_; intro a hE
    refine c_fin ?_
    have hr := Option.some.inj hF3
    subst hr
    exact wp_ret (k_ret1 hE rfl (res_tmp hE rfl) ⟨_, rfl, rfl, hM.kept⟩)
noncomputable def F_slices_ContainsFunc_impl_Event_impl_Event (p0 : (List GEvent)) (p1 : GEvent → Option (Bool)) : Option (Bool) :=
  (F_slices_IndexFunc_impl_Event_impl_Event p0 p1).bind fun (r1 : Int) => some (decide (r1 ≥ 0))
set_option maxRecDepth 20000 in
set_option maxHeartbeats 400000 in
theorem c_slices_ContainsFunc_impl_Event_impl_Event (w0 : World) (p0 : (List GEvent)) (v0_1 : Value) (hv0_1 : Ro w0 p0 [v0_1]) (p1 : GEvent → Option (Bool)) (k1 : Nat) (q1 : List Value) (hcb1 : Callable Try.prog k1) (hg1 : ∀ (w2 : World), Kept (Old w0) w0 w2 → ∀ (z0 : GEvent) (zr : Bool), p1 z0 = some zr → Calls Try.prog k1 ([(Value.agg (Flat.enc z0).toArray)] ++ q1).toArray w2 (fun en w3 => ∃ v, en = .returned v ∧ (v = (vT zr) ∧ Kept (Old w2) w2 w3))) (r : Bool) (hF : F_slices_ContainsFunc_impl_Event_impl_Event p0 p1 = some r) :
    Calls Try.prog 82 [v0_1, (Value.func (.func k1) #[] q1.toArray)].toArray w0 (fun en w' => ∃ v, en = .returned v ∧ (v = (vT r) ∧ Kept (Old w0) w0 w')) := by
  refine c_enter (n := 9) Try.func82 rfl rfl (Nat.le_of_ble_eq_true rfl) rfl ?_
  intro a hE
  have hM := M.start w0
  unfold F_slices_ContainsFunc_impl_Event_impl_Event at hF
  refine c_region ?_
  refine s_assign hE goes_none (by decide) rfl ?_; intro a hE
  refine c_fin ?_
  refine c_region ?_
  refine s_move hE goes_none (by decide) rfl ?_; intro a hE
  refine s_move hE goes_none (by decide) rfl ?_; intro a hE
  obtain ⟨r1, e2, hF⟩ := bind_some hF
  refine s_call (vs := [v0_1, (Value.func (.func k1) #[] q1.toArray)]) hE goes_none (by decide) rfl cb130 (c_slices_IndexFunc_impl_Event_impl_Event _ p0 v0_1 (hM.rdo hv0_1) p1 k1 q1 hcb1 (fun w2 hk2 => hg1 w2 (hM.kept.trans hk2)) r1 e2) ?_
  rintro v w a ⟨rfl, hK⟩ hE
  have hM := hM.keep hK
  refine s_int hE goes_none (by decide) rfl rfl rfl ?_; intro a hE
  refine s_assign hE goes_none (by decide) rfl ?_; intro a hE
  refine c_fin ?_
  have hr := Option.some.inj hF
  subst hr
  exact wp_ret (k_ret1 hE rfl (res_tmp hE rfl) ⟨_, rfl, rfl, hM.kept⟩)
noncomputable def F_impl_isNumber (p0 : Int) : Option (Bool) :=
  (F_impl_inRange p0 0 1000000).bind fun (r1 : Bool) => some r1
set_option maxRecDepth 20000 in
set_option maxHeartbeats 400000 in
theorem c_impl_isNumber (w0 : World) (p0 : Int) (r : Bool) (hF : F_impl_isNumber p0 = some r) :
    Calls Try.prog 131 [(vI p0)].toArray w0 (fun en w' => ∃ v, en = .returned v ∧ (v = (vT r) ∧ Kept (Old w0) w0 w')) := by
  refine c_enter (n := 5) Try.func131 rfl rfl (Nat.le_of_ble_eq_true rfl) rfl ?_
  intro a hE
  have hM := M.start w0
  unfold F_impl_isNumber at hF
  refine c_region ?_
  refine s_assign hE goes_none (by decide) rfl ?_; intro a hE
  refine c_fin ?_
  refine c_region ?_
  refine s_move hE goes_none (by decide) rfl ?_; intro a hE
  obtain ⟨r1, e2, hF⟩ := bind_some hF
  refine s_call (vs := [(vI p0), (vI 0), (vI 1000000)]) hE goes_none (by decide) rfl cb56 (c_impl_inRange _ p0 0 1000000 r1 e2) ?_
  rintro v w a ⟨rfl, hK⟩ hE
  have hM := hM.keep hK
  refine s_assign hE goes_none (by decide) rfl ?_; intro a hE
  refine c_fin ?_
  have hr := Option.some.inj hF
  subst hr
  exact wp_ret (k_ret1 hE rfl (res_tmp hE rfl) ⟨_, rfl, rfl, hM.kept⟩)
noncomputable def F_impl_isEvent (p0 : GEvent) : Option (Bool) :=
  ((F_impl_inRange p0.Kind 1 4).bind fun (r6 : Bool) => if r6 = true then ((F_impl_isNumber p0.Number).bind fun (r9 : Bool) => some r9) else (some false) : Option (Bool)).bind fun (j3 : Bool) => some j3
set_option maxRecDepth 20000 in
set_option maxHeartbeats 400000 in
theorem c_impl_isEvent (w0 : World) (p0 : GEvent) (r : Bool) (hF : F_impl_isEvent p0 = some r) :
    Calls Try.prog 84 [(Value.agg (Flat.enc p0).toArray)].toArray w0 (fun en w' => ∃ v, en = .returned v ∧ (v = (vT r) ∧ Kept (Old w0) w0 w')) := by
  refine c_enter (n := 11) Try.func84 rfl rfl (Nat.le_of_ble_eq_true rfl) rfl ?_
  intro a hE
  have hM := M.start w0
  unfold F_impl_isEvent at hF
  refine c_region ?_
  refine s_box (cs := cat [[(vI p0.Kind)], [(vI p0.Number)], Flat.enc p0.Tag]) hE hM goes_none (by decide) rfl rfl ?_; intro b1 w a hM hE
  refine s_assign hE goes_none (by decide) rfl ?_; intro a hE
  refine c_fin ?_
  obtain ⟨j3, hl4, hF5⟩ := bind_some hF
  refine c_join (fun a w => Env 11 a [(2, (vT j3))] ∧ M (Old w0) w0 w []) ?_ ?_
  · skip
    refine wp_region_lit ?_
    refine s_fieldAddr hE goes_none (by decide) rfl (fd109_0) ?_; intro a hE
    refine s_load (v := (vI p0.Kind)) hE goes_none (by decide) rfl ty2 rfl (At.cat (pre := []) (seg := [(vI p0.Kind)]) (post := [[(vI p0.Number)], Flat.enc p0.Tag]) (hM.rawAt (pre := [])) cl0) ?_; intro a hE
    obtain ⟨r6, e7, hl4⟩ := bind_some hl4
    refine s_call (vs := [(vI p0.Kind), (vI 1), (vI 4)]) hE goes_none (by decide) rfl cb56 (c_impl_inRange _ p0.Kind 1 4 r6 e7) ?_
    rintro v w a ⟨rfl, hK⟩ hE
    have hM := hM.keep hK
    refine s_move hE goes_none (by decide) rfl ?_; intro a hE
    refine splitB r6 (fun hb8 => ?_) (fun hb8 => ?_)
    · have hl4 := ite_t hl4 hb8
      refine s_fieldAddr hE (goes_yes hE rfl (lkb rfl hb8)) (by decide) rfl (fd109_1) ?_; intro a hE
      refine s_load (v := (vI p0.Number)) hE (goes_yes hE rfl (lkb rfl hb8)) (by decide) rfl ty2 rfl (At.cat (pre := [[(vI p0.Kind)]]) (seg := [(vI p0.Number)]) (post := [Flat.enc p0.Tag]) (hM.rawAt (pre := [])) (cl1 (n := 1) (m := 0) rfl cl0)) ?_; intro a hE
      obtain ⟨r9, e10, hl4⟩ := bind_some hl4
      refine s_call (vs := [(vI p0.Number)]) hE (goes_yes hE rfl (lkb rfl hb8)) (by decide) rfl cb131 (c_impl_isNumber _ p0.Number r9 e10) ?_
      rintro v w a ⟨rfl, hK⟩ hE
      have hM := hM.keep hK
      refine s_pickT hE goes_none (by decide) (lkb rfl hb8) rfl ?_; intro a hE
      refine s_assign hE goes_none (by decide) rfl ?_; intro a hE
      refine c_fin0 ?_
      have ht11 := Option.some.inj hl4
      subst ht11
      refine c_mid ?_
      have hM := M.fst (l := []) hM
      exact ⟨hE.sub ⟨rfl, trivial⟩, hM⟩
    · have hl4 := ite_f hl4 hb8
      refine s_skip hE rfl (lkb rfl hb8) rfl (by decide) ?_; intro a hE
      refine s_skip hE rfl (lkb rfl hb8) rfl (by decide) ?_; intro a hE
      refine s_skip hE rfl (lkb rfl hb8) rfl (by decide) ?_; intro a hE
      refine s_pickF hE goes_none (by decide) (lkb rfl hb8) rfl ?_; intro a hE
      refine s_assign hE goes_none (by decide) rfl ?_; intro a hE
      refine c_fin0 ?_
      have ht12 := Option.some.inj hl4
      subst ht12
      refine c_mid ?_
      have hM := M.fst (l := []) hM
      exact ⟨hE.sub ⟨rfl, trivial⟩, hM⟩
  · skip
    rintro a w ⟨hE, hM⟩
    have hr := Option.some.inj hF5
    subst hr
    exact wp_ret (k_ret1 hE rfl (res_tmp hE rfl) ⟨_, rfl, rfl, hM.kept⟩)
noncomputable def F_impl_IsVault_1 (p0 : GEvent) : Option (Bool) :=
  (F_impl_isEvent p0).bind fun (r3 : Bool) => some (!r3)
set_option maxRecDepth 20000 in
set_option maxHeartbeats 400000 in
theorem c_impl_IsVault_1 (w0 : World) (p0 : GEvent) (r : Bool) (hF : F_impl_IsVault_1 p0 = some r) :
    Calls Try.prog 83 [(Value.agg (Flat.enc p0).toArray)].toArray w0 (fun en w' => ∃ v, en = .returned v ∧ (v = (vT r) ∧ Kept (Old w0) w0 w')) := by
  refine c_enter (n := 6) Try.func83 rfl rfl (Nat.le_of_ble_eq_true rfl) rfl ?_
  intro a hE
  have hM := M.start w0
  unfold F_impl_IsVault_1 at hF
  refine c_region ?_
  refine s_box (cs := cat [[(vI p0.Kind)], [(vI p0.Number)], Flat.enc p0.Tag]) hE hM goes_none (by decide) rfl rfl ?_; intro b1 w a hM hE
  refine s_assign hE goes_none (by decide) rfl ?_; intro a hE
  refine c_fin ?_
  refine c_region ?_
  refine s_loadA (cs := Flat.enc p0) hE goes_none (by decide) rfl ty109 rfl (hM.rawAt (pre := [])) (cat_len (cl1 (n := 1) (m := 33) rfl (cl1 (n := 1) (m := 32) rfl (cl1 (n := 32) (m := 0) (Flat.len _) cl0)))) ?_; intro a hE
  obtain ⟨r3, e4, hF⟩ := bind_some hF
  refine s_call (vs := [(Value.agg (Flat.enc p0).toArray)]) hE goes_none (by decide) rfl cb84 (c_impl_isEvent _ p0 r3 e4) ?_
  rintro v w a ⟨rfl, hK⟩ hE
  have hM := hM.keep hK
  refine s_not hE goes_none (by decide) rfl ?_; intro a hE
  refine s_assign hE goes_none (by decide) rfl ?_; intro a hE
  refine c_fin ?_
  have hr := Option.some.inj hF
  subst hr
  have hM := M.fst (l := []) hM
  exact wp_ret (k_ret1 hE rfl (res_tmp hE rfl) ⟨_, rfl, rfl, hM.kept⟩)
noncomputable def L0_impl_IsVault (p0 : GVault) (s24 : Int) : Option (Fl Int (Fl Unit Bool)) :=
  if (decide (s24 < (p0.Records.length : Int))) = true then ((idx p0.Records s24).bind fun (x29 : GRecord) => ((F_impl_inRange x29.Number 1 (wr (p0.Next - 1))).bind fun (r45 : Bool) => if (!r45) = true then (some true) else (if (decide (s24 > 0)) = true then ((idx p0.Records (wr (s24 - 1))).bind fun (x50 : GRecord) => some (decide (x50.Number ≥ x29.Number))) else (some false)) : Option (Bool)).bind fun (j41 : Bool) => if j41 = true then (some (Fl.ex (Fl.ex false))) else (((F_impl_length_impl_Block p0.Keys).bind fun (r68 : Int) => (F_impl_inRange x29.Version 0 (wr (r68 - 1))).bind fun (r70 : Bool) => if (!r70) = true then (some true) else (if (decide ((x29.Label.length : Int) > 32)) = true then (some true) else (some (decide ((x29.Body.length : Int) > 200)))) : Option (Bool)).bind fun (j64 : Bool) => if j64 = true then (some (Fl.ex (Fl.ex false))) else (some (Fl.nx (wr (s24 + 1)))))) else (some (Fl.ex (Fl.nx ())))
noncomputable def F_impl_IsVault (p0 : GVault) : Option (Bool) :=
  ((F_impl_length_impl_Block p0.Keys).bind fun (r6 : Int) => (F_impl_inRange r6 1 8).bind fun (r8 : Bool) => if (!r8) = true then (some true) else ((F_impl_inRange p0.Next 1 1000000).bind fun (r12 : Bool) => if (!r12) = true then (some true) else (if (decide ((p0.Records.length : Int) > 12)) = true then (some true) else (some (decide ((p0.Events.length : Int) > 60))))) : Option (Bool)).bind fun (j3 : Bool) => if j3 = true then (some false) else ((iter (L0_impl_IsVault p0) 0 : Option (Fl Unit Bool)).bind fun (j20 : Fl Unit Bool) => j20.el (fun (s23 : Unit) => (F_slices_ContainsFunc_impl_Event_impl_Event p0.Events (fun z0 => F_impl_IsVault_1 z0)).bind fun (r80 : Bool) => some (!r80)) (fun r => some r))
end Go.Proofs.Ytbonmndobipbnaa
