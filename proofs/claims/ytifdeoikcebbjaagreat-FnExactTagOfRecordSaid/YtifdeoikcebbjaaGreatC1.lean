/- The walk of what the law reaches: contracts of functions. -/
import Derived.Test.YtifdeoikcebbjaaGreatK2
import Derived.Test.YtifdeoikcebbjaaGreatProg
set_option linter.unusedVariables false
set_option linter.unusedSimpArgs false
set_option maxRecDepth 20000
set_option maxHeartbeats 400000
namespace Go.Proofs.YtifdeoikcebbjaaGreat
open Go
structure GRecord where
 Number : Int
 Version : Int
 Nonce : (Vector UInt8 16)
 Label : (List UInt8)
 Body : (List UInt8)
 Tag : (Vector UInt8 32)
 deriving DecidableEq, Inhabited
instance : Dat GRecord := ⟨fun x => Dat.bd (α := Int × Int × (Vector UInt8 16) × (List UInt8) × (List UInt8) × (Vector UInt8 32)) (x.Number, x.Version, x.Nonce, x.Label, x.Body, x.Tag), fun x => Dat.sz (α := Int × Int × (Vector UInt8 16) × (List UInt8) × (List UInt8) × (Vector UInt8 32)) (x.Number, x.Version, x.Nonce, x.Label, x.Body, x.Tag) + 1⟩
instance : Rep GRecord := repIso (α := Int × Int × (Vector UInt8 16) × (List UInt8) × (List UInt8) × (Vector UInt8 32)) (fun x => (x.Number, x.Version, x.Nonce, x.Label, x.Body, x.Tag))
theorem unf_GRecord {S : Nat → Prop} {w : World} {x : GRecord} {cs : List Value} {fp : List Nat} (h : Rep.sat S w x cs fp) : ∃ (u1 : Value) (u2 : Value), ∃ (g1 : List Nat) (g2 : List Nat), cs = cat [Flat.enc x.Number, Flat.enc x.Version, Flat.enc x.Nonce, [u1], [u2], Flat.enc x.Tag] ∧ fp = (g1 ++ g2) ∧ Rep.sat S w x.Label [u1] g1 ∧ Rep.sat S w x.Body [u2] g2 := by
 obtain ⟨c0, d0, f0, q0, rfl, rfl, h0, hr0⟩ := h
 obtain ⟨rfl, rfl⟩ := h0
 obtain ⟨c1, d1, f1, q1, rfl, rfl, h1, hr1⟩ := hr0
 obtain ⟨rfl, rfl⟩ := h1
 obtain ⟨c2, d2, f2, q2, rfl, rfl, h2, hr2⟩ := hr1
 obtain ⟨rfl, rfl⟩ := h2
 obtain ⟨c3, d3, f3, q3, rfl, rfl, h3, hr3⟩ := hr2
 obtain ⟨u1, rfl⟩ := sl_one h3
 obtain ⟨c4, d4, f4, q4, rfl, rfl, h4, hr4⟩ := hr3
 obtain ⟨u2, rfl⟩ := sl_one h4
 obtain ⟨rfl, rfl⟩ := hr4
 exact ⟨u1, u2, _, _, rfl, by simp, h3, h4⟩
theorem unc_GRecord {S : Nat → Prop} {w : World} {x : GRecord} {u1 u2 : Value} {fp : List Nat} (h : Rep.sat S w x (cat [Flat.enc x.Number, Flat.enc x.Version, Flat.enc x.Nonce, [u1], [u2], Flat.enc x.Tag]) fp) : ∃ (g1 : List Nat) (g2 : List Nat), fp = (g1 ++ g2) ∧ Rep.sat S w x.Label [u1] g1 ∧ Rep.sat S w x.Body [u2] g2 := by
 obtain ⟨w1, w2, g1, g2, hc, hf, s1, s2⟩ := unf_GRecord h
 obtain ⟨e1, k1⟩ := Vn hc rfl
 obtain ⟨e2, k2⟩ := Vn k1 rfl
 obtain ⟨e3, k3⟩ := Vn k2 rfl
 obtain ⟨e4, k4⟩ := Vn k3 rfl
 obtain ⟨e5, k5⟩ := Vn k4 rfl
 obtain rfl := (List.cons.inj e4).1
 obtain rfl := (List.cons.inj e5).1
 exact ⟨g1, g2, hf, s1, s2⟩
theorem X2 {S : Nat → Prop} {w : World} {x : GRecord} {cs : List Value} (h : Rep.sat S w x cs []) : ∃ u1 u2, cs = cat [Flat.enc x.Number, Flat.enc x.Version, Flat.enc x.Nonce, [u1], [u2], Flat.enc x.Tag] ∧ Rep.sat S w x.Label [u1] [] ∧ Rep.sat S w x.Body [u2] [] := by
 obtain ⟨c0, d0, f0, g0, rfl, hf0, h0, hr0⟩ := h
 obtain ⟨rfl, rfl⟩ := List.append_eq_nil_iff.1 hf0.symm
 obtain ⟨rfl, _⟩ := h0
 obtain ⟨c1, d1, f1, g1, rfl, hf1, h1, hr1⟩ := hr0
 obtain ⟨rfl, rfl⟩ := List.append_eq_nil_iff.1 hf1.symm
 obtain ⟨rfl, _⟩ := h1
 obtain ⟨c2, d2, f2, g2, rfl, hf2, h2, hr2⟩ := hr1
 obtain ⟨rfl, rfl⟩ := List.append_eq_nil_iff.1 hf2.symm
 obtain ⟨rfl, _⟩ := h2
 obtain ⟨c3, d3, f3, g3, rfl, hf3, h3, hr3⟩ := hr2
 obtain ⟨rfl, rfl⟩ := List.append_eq_nil_iff.1 hf3.symm
 obtain ⟨u1, rfl⟩ := sl_one h3
 obtain ⟨c4, d4, f4, g4, rfl, hf4, h4, hr4⟩ := hr3
 obtain ⟨rfl, rfl⟩ := List.append_eq_nil_iff.1 hf4.symm
 obtain ⟨u2, rfl⟩ := sl_one h4
 obtain ⟨rfl, _⟩ := hr4
 exact ⟨u1, u2, rfl, h3, h4⟩
theorem pk_GRecord {S : Nat → Prop} {w : World} {x : GRecord} {u1 u2 : Value} {g1 g2 fp : List Nat} (h1 : Rep.sat S w x.Label [u1] g1) (h2 : Rep.sat S w x.Body [u2] g2) (hfp : fp = (g1 ++ g2)) : Rep.sat S w x (cat [Flat.enc x.Number, Flat.enc x.Version, Flat.enc x.Nonce, [u1], [u2], Flat.enc x.Tag]) fp := by
 rw [hfp]
 refine ⟨_, _, [], (g1 ++ g2), rfl, (by simp), ⟨rfl, rfl⟩, ?_⟩
 refine ⟨_, _, [], (g1 ++ g2), rfl, (by simp), ⟨rfl, rfl⟩, ?_⟩
 refine ⟨_, _, [], (g1 ++ g2), rfl, (by simp), ⟨rfl, rfl⟩, ?_⟩
 refine ⟨_, _, g1, g2, rfl, (by simp), h1, ?_⟩
 refine ⟨_, _, g2, [], rfl, (by simp), h2, ?_⟩
 exact ⟨rfl, rfl⟩
theorem zsat_GRecord (w : World) : Rep.sat NoB w (⟨(0 : Int), (0 : Int), (Vector.replicate 16 (0 : UInt8)), ([] : (List UInt8)), ([] : (List UInt8)), (Vector.replicate 32 (0 : UInt8))⟩ : GRecord) (cat [(Flat.enc (0 : Int)), (Flat.enc (0 : Int)), (Flat.enc (Vector.replicate 16 (0 : UInt8))), [.slice none 0 0], [.slice none 0 0], (Flat.enc (Vector.replicate 32 (0 : UInt8)))]) [] := pk_GRecord zsat_nil zsat_nil rfl
structure GEvent where
 Kind : Int
 Number : Int
 Tag : (Vector UInt8 32)
 deriving DecidableEq, Inhabited
instance : Dat GEvent := ⟨fun x => Dat.bd (α := Int × Int × (Vector UInt8 32)) (x.Kind, x.Number, x.Tag), fun x => Dat.sz (α := Int × Int × (Vector UInt8 32)) (x.Kind, x.Number, x.Tag) + 1⟩
instance : Flat GEvent where
 n := 34
 enc x := cat [Flat.enc x.Kind, Flat.enc x.Number, Flat.enc x.Tag]
 len x := ZB (cl1 (Flat.len _) (cl1 (Flat.len _) (cl1 (Flat.len _) cl0)))
 cell x := WH (cc1 (Flat.cell _) (cc1 (Flat.cell _) (cc1 (Flat.cell _) cc0)))
structure GVault where
 Keys : (List (Vector UInt8 16))
 Next : Int
 Records : (List GRecord)
 Events : (List GEvent)
 Head : (Vector UInt8 32)
 deriving DecidableEq, Inhabited
instance : Dat GVault := ⟨fun x => Dat.bd (α := (List (Vector UInt8 16)) × Int × (List GRecord) × (List GEvent) × (Vector UInt8 32)) (x.Keys, x.Next, x.Records, x.Events, x.Head), fun x => Dat.sz (α := (List (Vector UInt8 16)) × Int × (List GRecord) × (List GEvent) × (Vector UInt8 32)) (x.Keys, x.Next, x.Records, x.Events, x.Head) + 1⟩
instance : Rep GVault := repIso (α := (List (Vector UInt8 16)) × Int × (List GRecord) × (List GEvent) × (Vector UInt8 32)) (fun x => (x.Keys, x.Next, x.Records, x.Events, x.Head))
theorem unf_GVault {S : Nat → Prop} {w : World} {x : GVault} {cs : List Value} {fp : List Nat} (h : Rep.sat S w x cs fp) : ∃ (u1 : Value) (u2 : Value) (u3 : Value), ∃ (g1 : List Nat) (g2 : List Nat) (g3 : List Nat), cs = cat [[u1], Flat.enc x.Next, [u2], [u3], Flat.enc x.Head] ∧ fp = (g1 ++ (g2 ++ g3)) ∧ Rep.sat S w x.Keys [u1] g1 ∧ Rep.sat S w x.Records [u2] g2 ∧ Rep.sat S w x.Events [u3] g3 := by
 obtain ⟨c0, d0, f0, q0, rfl, rfl, h0, hr0⟩ := h
 obtain ⟨u1, rfl⟩ := sl_one h0
 obtain ⟨c1, d1, f1, q1, rfl, rfl, h1, hr1⟩ := hr0
 obtain ⟨rfl, rfl⟩ := h1
 obtain ⟨c2, d2, f2, q2, rfl, rfl, h2, hr2⟩ := hr1
 obtain ⟨u2, rfl⟩ := sl_one h2
 obtain ⟨c3, d3, f3, q3, rfl, rfl, h3, hr3⟩ := hr2
 obtain ⟨u3, rfl⟩ := sl_one h3
 obtain ⟨rfl, rfl⟩ := hr3
 exact ⟨u1, u2, u3, _, _, _, rfl, by simp, h0, h2, h3⟩
theorem unc_GVault {S : Nat → Prop} {w : World} {x : GVault} {u1 u2 u3 : Value} {fp : List Nat} (h : Rep.sat S w x (cat [[u1], Flat.enc x.Next, [u2], [u3], Flat.enc x.Head]) fp) : ∃ (g1 : List Nat) (g2 : List Nat) (g3 : List Nat), fp = (g1 ++ (g2 ++ g3)) ∧ Rep.sat S w x.Keys [u1] g1 ∧ Rep.sat S w x.Records [u2] g2 ∧ Rep.sat S w x.Events [u3] g3 := by
 obtain ⟨w1, w2, w3, g1, g2, g3, hc, hf, s1, s2, s3⟩ := unf_GVault h
 obtain ⟨e1, k1⟩ := Vn hc rfl
 obtain ⟨e2, k2⟩ := Vn k1 rfl
 obtain ⟨e3, k3⟩ := Vn k2 rfl
 obtain ⟨e4, k4⟩ := Vn k3 rfl
 obtain rfl := (List.cons.inj e1).1
 obtain rfl := (List.cons.inj e3).1
 obtain rfl := (List.cons.inj e4).1
 exact ⟨g1, g2, g3, hf, s1, s2, s3⟩
theorem un_GVault {S : Nat → Prop} {w : World} {x : GVault} {cs : List Value} (h : Rep.sat S w x cs []) : ∃ u1 u2 u3, cs = cat [[u1], Flat.enc x.Next, [u2], [u3], Flat.enc x.Head] ∧ Rep.sat S w x.Keys [u1] [] ∧ Rep.sat S w x.Records [u2] [] ∧ Rep.sat S w x.Events [u3] [] := by
 obtain ⟨c0, d0, f0, g0, rfl, hf0, h0, hr0⟩ := h
 obtain ⟨rfl, rfl⟩ := List.append_eq_nil_iff.1 hf0.symm
 obtain ⟨u1, rfl⟩ := sl_one h0
 obtain ⟨c1, d1, f1, g1, rfl, hf1, h1, hr1⟩ := hr0
 obtain ⟨rfl, rfl⟩ := List.append_eq_nil_iff.1 hf1.symm
 obtain ⟨rfl, _⟩ := h1
 obtain ⟨c2, d2, f2, g2, rfl, hf2, h2, hr2⟩ := hr1
 obtain ⟨rfl, rfl⟩ := List.append_eq_nil_iff.1 hf2.symm
 obtain ⟨u2, rfl⟩ := sl_one h2
 obtain ⟨c3, d3, f3, g3, rfl, hf3, h3, hr3⟩ := hr2
 obtain ⟨rfl, rfl⟩ := List.append_eq_nil_iff.1 hf3.symm
 obtain ⟨u3, rfl⟩ := sl_one h3
 obtain ⟨rfl, _⟩ := hr3
 exact ⟨u1, u2, u3, rfl, h0, h2, h3⟩
theorem pk_GVault {S : Nat → Prop} {w : World} {x : GVault} {u1 u2 u3 : Value} {g1 g2 g3 fp : List Nat} (h1 : Rep.sat S w x.Keys [u1] g1) (h2 : Rep.sat S w x.Records [u2] g2) (h3 : Rep.sat S w x.Events [u3] g3) (hfp : fp = (g1 ++ (g2 ++ g3))) : Rep.sat S w x (cat [[u1], Flat.enc x.Next, [u2], [u3], Flat.enc x.Head]) fp := by
 rw [hfp]
 refine ⟨_, _, g1, (g2 ++ g3), rfl, (by simp), h1, ?_⟩
 refine ⟨_, _, [], (g2 ++ g3), rfl, (by simp), ⟨rfl, rfl⟩, ?_⟩
 refine ⟨_, _, g2, g3, rfl, (by simp), h2, ?_⟩
 refine ⟨_, _, g3, [], rfl, (by simp), h3, ?_⟩
 exact ⟨rfl, rfl⟩
theorem zsat_GVault (w : World) : Rep.sat NoB w (⟨([] : (List (Vector UInt8 16))), (0 : Int), ([] : (List GRecord)), ([] : (List GEvent)), (Vector.replicate 32 (0 : UInt8))⟩ : GVault) (cat [[.slice none 0 0], (Flat.enc (0 : Int)), [.slice none 0 0], [.slice none 0 0], (Flat.enc (Vector.replicate 32 (0 : UInt8)))]) [] := pk_GVault zsat_nil zsat_nil zsat_nil rfl
structure GCipher where
 Field : Int
 Box : (Vector UInt8 256)
 Mix : (Vector (Vector UInt8 4) 4)
 Places : (Vector UInt8 16)
 Rounds : Int
 deriving DecidableEq, Inhabited
instance : Dat GCipher := ⟨fun x => Dat.bd (α := Int × (Vector UInt8 256) × (Vector (Vector UInt8 4) 4) × (Vector UInt8 16) × Int) (x.Field, x.Box, x.Mix, x.Places, x.Rounds), fun x => Dat.sz (α := Int × (Vector UInt8 256) × (Vector (Vector UInt8 4) 4) × (Vector UInt8 16) × Int) (x.Field, x.Box, x.Mix, x.Places, x.Rounds) + 1⟩
instance : Flat GCipher where
 n := 290
 enc x := cat [Flat.enc x.Field, Flat.enc x.Box, Flat.enc x.Mix, Flat.enc x.Places, Flat.enc x.Rounds]
 len x := ZB (cl1 (Flat.len _) (cl1 (Flat.len _) (cl1 (Flat.len _) (cl1 (Flat.len _) (cl1 (Flat.len _) cl0)))))
 cell x := WH (cc1 (Flat.cell _) (cc1 (Flat.cell _) (cc1 (Flat.cell _) (cc1 (Flat.cell _) (cc1 (Flat.cell _) cc0)))))
structure Gengine where
 box : (Vector UInt8 256)
 backBox : (Vector UInt8 256)
 places : (Vector UInt8 16)
 backPlaces : (Vector UInt8 16)
 mixer : (Ref (Vector (Vector (Vector UInt8 256) 4) 4))
 backMixer : (Ref (Vector (Vector (Vector UInt8 256) 4) 4))
 rounds : Int
 deriving DecidableEq, Inhabited
instance : Dat Gengine := ⟨fun x => Dat.bd (α := (Vector UInt8 256) × (Vector UInt8 256) × (Vector UInt8 16) × (Vector UInt8 16) × (Ref (Vector (Vector (Vector UInt8 256) 4) 4)) × (Ref (Vector (Vector (Vector UInt8 256) 4) 4)) × Int) (x.box, x.backBox, x.places, x.backPlaces, x.mixer, x.backMixer, x.rounds), fun x => Dat.sz (α := (Vector UInt8 256) × (Vector UInt8 256) × (Vector UInt8 16) × (Vector UInt8 16) × (Ref (Vector (Vector (Vector UInt8 256) 4) 4)) × (Ref (Vector (Vector (Vector UInt8 256) 4) 4)) × Int) (x.box, x.backBox, x.places, x.backPlaces, x.mixer, x.backMixer, x.rounds) + 1⟩
instance : Rep Gengine := repIso (α := (Vector UInt8 256) × (Vector UInt8 256) × (Vector UInt8 16) × (Vector UInt8 16) × (Ref (Vector (Vector (Vector UInt8 256) 4) 4)) × (Ref (Vector (Vector (Vector UInt8 256) 4) 4)) × Int) (fun x => (x.box, x.backBox, x.places, x.backPlaces, x.mixer, x.backMixer, x.rounds))
theorem unf_Gengine {S : Nat → Prop} {w : World} {x : Gengine} {cs : List Value} {fp : List Nat} (h : Rep.sat S w x cs fp) : ∃ (u1 : Value) (u2 : Value), ∃ (g1 : List Nat) (g2 : List Nat), cs = cat [Flat.enc x.box, Flat.enc x.backBox, Flat.enc x.places, Flat.enc x.backPlaces, [u1], [u2], Flat.enc x.rounds] ∧ fp = (g1 ++ g2) ∧ Rep.sat S w x.mixer [u1] g1 ∧ Rep.sat S w x.backMixer [u2] g2 := by
 obtain ⟨c0, d0, f0, q0, rfl, rfl, h0, hr0⟩ := h
 obtain ⟨rfl, rfl⟩ := h0
 obtain ⟨c1, d1, f1, q1, rfl, rfl, h1, hr1⟩ := hr0
 obtain ⟨rfl, rfl⟩ := h1
 obtain ⟨c2, d2, f2, q2, rfl, rfl, h2, hr2⟩ := hr1
 obtain ⟨rfl, rfl⟩ := h2
 obtain ⟨c3, d3, f3, q3, rfl, rfl, h3, hr3⟩ := hr2
 obtain ⟨rfl, rfl⟩ := h3
 obtain ⟨c4, d4, f4, q4, rfl, rfl, h4, hr4⟩ := hr3
 obtain ⟨u1, rfl⟩ := ref_one h4
 obtain ⟨c5, d5, f5, q5, rfl, rfl, h5, hr5⟩ := hr4
 obtain ⟨u2, rfl⟩ := ref_one h5
 obtain ⟨rfl, rfl⟩ := hr5
 exact ⟨u1, u2, _, _, rfl, by simp, h4, h5⟩
theorem unc_Gengine {S : Nat → Prop} {w : World} {x : Gengine} {u1 u2 : Value} {fp : List Nat} (h : Rep.sat S w x (cat [Flat.enc x.box, Flat.enc x.backBox, Flat.enc x.places, Flat.enc x.backPlaces, [u1], [u2], Flat.enc x.rounds]) fp) : ∃ (g1 : List Nat) (g2 : List Nat), fp = (g1 ++ g2) ∧ Rep.sat S w x.mixer [u1] g1 ∧ Rep.sat S w x.backMixer [u2] g2 := by
 obtain ⟨w1, w2, g1, g2, hc, hf, s1, s2⟩ := unf_Gengine h
 obtain ⟨e1, k1⟩ := Vn hc rfl
 obtain ⟨e2, k2⟩ := Vn k1 rfl
 obtain ⟨e3, k3⟩ := Vn k2 rfl
 obtain ⟨e4, k4⟩ := Vn k3 rfl
 obtain ⟨e5, k5⟩ := Vn k4 rfl
 obtain ⟨e6, k6⟩ := Vn k5 rfl
 obtain rfl := (List.cons.inj e5).1
 obtain rfl := (List.cons.inj e6).1
 exact ⟨g1, g2, hf, s1, s2⟩
theorem un_Gengine {S : Nat → Prop} {w : World} {x : Gengine} {cs : List Value} (h : Rep.sat S w x cs []) : ∃ u1 u2, cs = cat [Flat.enc x.box, Flat.enc x.backBox, Flat.enc x.places, Flat.enc x.backPlaces, [u1], [u2], Flat.enc x.rounds] ∧ Rep.sat S w x.mixer [u1] [] ∧ Rep.sat S w x.backMixer [u2] [] := by
 obtain ⟨c0, d0, f0, g0, rfl, hf0, h0, hr0⟩ := h
 obtain ⟨rfl, rfl⟩ := List.append_eq_nil_iff.1 hf0.symm
 obtain ⟨rfl, _⟩ := h0
 obtain ⟨c1, d1, f1, g1, rfl, hf1, h1, hr1⟩ := hr0
 obtain ⟨rfl, rfl⟩ := List.append_eq_nil_iff.1 hf1.symm
 obtain ⟨rfl, _⟩ := h1
 obtain ⟨c2, d2, f2, g2, rfl, hf2, h2, hr2⟩ := hr1
 obtain ⟨rfl, rfl⟩ := List.append_eq_nil_iff.1 hf2.symm
 obtain ⟨rfl, _⟩ := h2
 obtain ⟨c3, d3, f3, g3, rfl, hf3, h3, hr3⟩ := hr2
 obtain ⟨rfl, rfl⟩ := List.append_eq_nil_iff.1 hf3.symm
 obtain ⟨rfl, _⟩ := h3
 obtain ⟨c4, d4, f4, g4, rfl, hf4, h4, hr4⟩ := hr3
 obtain ⟨rfl, rfl⟩ := List.append_eq_nil_iff.1 hf4.symm
 obtain ⟨u1, rfl⟩ := ref_one h4
 obtain ⟨c5, d5, f5, g5, rfl, hf5, h5, hr5⟩ := hr4
 obtain ⟨rfl, rfl⟩ := List.append_eq_nil_iff.1 hf5.symm
 obtain ⟨u2, rfl⟩ := ref_one h5
 obtain ⟨rfl, _⟩ := hr5
 exact ⟨u1, u2, rfl, h4, h5⟩
theorem pk_Gengine {S : Nat → Prop} {w : World} {x : Gengine} {u1 u2 : Value} {g1 g2 fp : List Nat} (h1 : Rep.sat S w x.mixer [u1] g1) (h2 : Rep.sat S w x.backMixer [u2] g2) (hfp : fp = (g1 ++ g2)) : Rep.sat S w x (cat [Flat.enc x.box, Flat.enc x.backBox, Flat.enc x.places, Flat.enc x.backPlaces, [u1], [u2], Flat.enc x.rounds]) fp := by
 rw [hfp]
 refine ⟨_, _, [], (g1 ++ g2), rfl, (by simp), ⟨rfl, rfl⟩, ?_⟩
 refine ⟨_, _, [], (g1 ++ g2), rfl, (by simp), ⟨rfl, rfl⟩, ?_⟩
 refine ⟨_, _, [], (g1 ++ g2), rfl, (by simp), ⟨rfl, rfl⟩, ?_⟩
 refine ⟨_, _, [], (g1 ++ g2), rfl, (by simp), ⟨rfl, rfl⟩, ?_⟩
 refine ⟨_, _, g1, g2, rfl, (by simp), h1, ?_⟩
 refine ⟨_, _, g2, [], rfl, (by simp), h2, ?_⟩
 exact ⟨rfl, rfl⟩
theorem ty2 : Ty Tryz.prog 2 (.int .i64) 1 8 (Flat.enc (0 : Int)) := ⟨Tryz.underlying2, by kernel_rfl⟩
theorem ty5 : Ty Tryz.prog 5 (.int .u8) 1 1 (Flat.enc (0 : UInt8)) := ⟨Tryz.underlying5, by kernel_rfl⟩
theorem ty22 : Ty Tryz.prog 22 (.slice 67) 1 24 [.slice none 0 0] := ⟨Tryz.underlying22, by kernel_rfl⟩
theorem ty23 : Ty Tryz.prog 23 (.slice 160) 1 24 [.slice none 0 0] := ⟨Tryz.underlying23, by kernel_rfl⟩
theorem ty24 : Ty Tryz.prog 24 (.slice 179) 1 24 [.slice none 0 0] := ⟨Tryz.underlying24, by kernel_rfl⟩
theorem ty25 : Ty Tryz.prog 25 (.array 32 5) 32 32 (Flat.enc (Vector.replicate 32 (0 : UInt8))) := ⟨Tryz.underlying25, by kernel_rfl⟩
theorem ty27 : Ty Tryz.prog 27 (.struct [{ name := "Keys", type := 22, offset := 0, embedded := false, tag := "", pkgPath := "", byteOffset := 0 }, { name := "Next", type := 2, offset := 1, embedded := false, tag := "", pkgPath := "", byteOffset := 24 }, { name := "Records", type := 23, offset := 2, embedded := false, tag := "", pkgPath := "", byteOffset := 32 }, { name := "Events", type := 24, offset := 3, embedded := false, tag := "", pkgPath := "", byteOffset := 56 }, { name := "Head", type := 25, offset := 4, embedded := false, tag := "", pkgPath := "", byteOffset := 80 }].toArray) 36 112 (cat [[.slice none 0 0], (Flat.enc (0 : Int)), [.slice none 0 0], [.slice none 0 0], (Flat.enc (Vector.replicate 32 (0 : UInt8)))]) := ⟨Tryz.underlying27, by kernel_rfl⟩
theorem Z9 : Ty Tryz.prog 29 (.array 32 5) 32 32 (Flat.enc (Vector.replicate 32 (0 : UInt8))) := ⟨Tryz.underlying29, by kernel_rfl⟩
theorem ty32 : Ty Tryz.prog 32 (.slice 70) 1 24 [.slice none 0 0] := ⟨Tryz.underlying32, by kernel_rfl⟩
theorem ty33 : Ty Tryz.prog 33 (.slice 92) 1 24 [.slice none 0 0] := ⟨Tryz.underlying33, by kernel_rfl⟩
theorem ty34 : Ty Tryz.prog 34 (.slice 146) 1 24 [.slice none 0 0] := ⟨Tryz.underlying34, by kernel_rfl⟩
theorem ty36 : Ty Tryz.prog 36 (.struct [{ name := "Keys", type := 32, offset := 0, embedded := false, tag := "", pkgPath := "", byteOffset := 0 }, { name := "Next", type := 2, offset := 1, embedded := false, tag := "", pkgPath := "", byteOffset := 24 }, { name := "Records", type := 33, offset := 2, embedded := false, tag := "", pkgPath := "", byteOffset := 32 }, { name := "Events", type := 34, offset := 3, embedded := false, tag := "", pkgPath := "", byteOffset := 56 }, { name := "Head", type := 29, offset := 4, embedded := false, tag := "", pkgPath := "", byteOffset := 80 }].toArray) 36 112 (cat [[.slice none 0 0], (Flat.enc (0 : Int)), [.slice none 0 0], [.slice none 0 0], (Flat.enc (Vector.replicate 32 (0 : UInt8)))]) := ⟨Tryz.underlying36, by kernel_rfl⟩
theorem Uw : Ty Tryz.prog 57 (.slice 5) 1 24 [.slice none 0 0] := ⟨Tryz.underlying57, by kernel_rfl⟩
theorem ty67 : Ty Tryz.prog 67 (.array 16 5) 16 16 (Flat.enc (Vector.replicate 16 (0 : UInt8))) := ⟨Tryz.underlying67, by kernel_rfl⟩
theorem ZF : Ty Tryz.prog 70 (.array 16 5) 16 16 (Flat.enc (Vector.replicate 16 (0 : UInt8))) := ⟨Tryz.underlying70, by kernel_rfl⟩
theorem Ug : Ty Tryz.prog 92 (.struct [{ name := "Number", type := 2, offset := 0, embedded := false, tag := "", pkgPath := "", byteOffset := 0 }, { name := "Version", type := 2, offset := 1, embedded := false, tag := "", pkgPath := "", byteOffset := 8 }, { name := "Nonce", type := 70, offset := 2, embedded := false, tag := "", pkgPath := "", byteOffset := 16 }, { name := "Label", type := 57, offset := 18, embedded := false, tag := "", pkgPath := "", byteOffset := 32 }, { name := "Body", type := 57, offset := 19, embedded := false, tag := "", pkgPath := "", byteOffset := 56 }, { name := "Tag", type := 29, offset := 20, embedded := false, tag := "", pkgPath := "", byteOffset := 80 }].toArray) 52 112 (cat [(Flat.enc (0 : Int)), (Flat.enc (0 : Int)), (Flat.enc (Vector.replicate 16 (0 : UInt8))), [.slice none 0 0], [.slice none 0 0], (Flat.enc (Vector.replicate 32 (0 : UInt8)))]) := ⟨Tryz.underlying92, by kernel_rfl⟩
theorem UY : Ty Tryz.prog 146 (.struct [{ name := "Kind", type := 2, offset := 0, embedded := false, tag := "", pkgPath := "", byteOffset := 0 }, { name := "Number", type := 2, offset := 1, embedded := false, tag := "", pkgPath := "", byteOffset := 8 }, { name := "Tag", type := 29, offset := 2, embedded := false, tag := "", pkgPath := "", byteOffset := 16 }].toArray) 34 48 (Flat.enc (⟨(0 : Int), (0 : Int), (Vector.replicate 32 (0 : UInt8))⟩ : GEvent)) := ⟨Tryz.underlying146, by kernel_rfl⟩
theorem ty160 : Ty Tryz.prog 160 (.struct [{ name := "Number", type := 2, offset := 0, embedded := false, tag := "", pkgPath := "", byteOffset := 0 }, { name := "Version", type := 2, offset := 1, embedded := false, tag := "", pkgPath := "", byteOffset := 8 }, { name := "Nonce", type := 67, offset := 2, embedded := false, tag := "", pkgPath := "", byteOffset := 16 }, { name := "Label", type := 57, offset := 18, embedded := false, tag := "", pkgPath := "", byteOffset := 32 }, { name := "Body", type := 57, offset := 19, embedded := false, tag := "", pkgPath := "", byteOffset := 56 }, { name := "Tag", type := 25, offset := 20, embedded := false, tag := "", pkgPath := "", byteOffset := 80 }].toArray) 52 112 (cat [(Flat.enc (0 : Int)), (Flat.enc (0 : Int)), (Flat.enc (Vector.replicate 16 (0 : UInt8))), [.slice none 0 0], [.slice none 0 0], (Flat.enc (Vector.replicate 32 (0 : UInt8)))]) := ⟨Tryz.underlying160, by kernel_rfl⟩
theorem ty166 : Ty Tryz.prog 166 (.array 256 5) 256 256 (Flat.enc (Vector.replicate 256 (0 : UInt8))) := ⟨Tryz.underlying166, by kernel_rfl⟩
theorem Xd : Ty Tryz.prog 167 (.array 256 5) 256 256 (Flat.enc (Vector.replicate 256 (0 : UInt8))) := ⟨Tryz.underlying167, by kernel_rfl⟩
theorem Y8 : Ty Tryz.prog 168 (.array 4 5) 4 4 (Flat.enc (Vector.replicate 4 (0 : UInt8))) := ⟨Tryz.underlying168, by kernel_rfl⟩
theorem Uc : Ty Tryz.prog 170 (.array 4 168) 16 16 (Flat.enc (Vector.replicate 4 (Vector.replicate 4 (0 : UInt8)))) := ⟨Tryz.underlying170, by kernel_rfl⟩
theorem ty171 : Ty Tryz.prog 171 (.array 16 5) 16 16 (Flat.enc (Vector.replicate 16 (0 : UInt8))) := ⟨Tryz.underlying171, by kernel_rfl⟩
theorem WL : Ty Tryz.prog 173 (.struct [{ name := "Field", type := 2, offset := 0, embedded := false, tag := "", pkgPath := "", byteOffset := 0 }, { name := "Box", type := 167, offset := 1, embedded := false, tag := "", pkgPath := "", byteOffset := 8 }, { name := "Mix", type := 170, offset := 257, embedded := false, tag := "", pkgPath := "", byteOffset := 264 }, { name := "Places", type := 171, offset := 273, embedded := false, tag := "", pkgPath := "", byteOffset := 280 }, { name := "Rounds", type := 2, offset := 289, embedded := false, tag := "", pkgPath := "", byteOffset := 296 }].toArray) 290 304 (Flat.enc (⟨(0 : Int), (Vector.replicate 256 (0 : UInt8)), (Vector.replicate 4 (Vector.replicate 4 (0 : UInt8))), (Vector.replicate 16 (0 : UInt8)), (0 : Int)⟩ : GCipher)) := ⟨Tryz.underlying173, by kernel_rfl⟩
theorem ty179 : Ty Tryz.prog 179 (.struct [{ name := "Kind", type := 2, offset := 0, embedded := false, tag := "", pkgPath := "", byteOffset := 0 }, { name := "Number", type := 2, offset := 1, embedded := false, tag := "", pkgPath := "", byteOffset := 8 }, { name := "Tag", type := 25, offset := 2, embedded := false, tag := "", pkgPath := "", byteOffset := 16 }].toArray) 34 48 (Flat.enc (⟨(0 : Int), (0 : Int), (Vector.replicate 32 (0 : UInt8))⟩ : GEvent)) := ⟨Tryz.underlying179, by kernel_rfl⟩
theorem ty241 : Ty Tryz.prog 241 (.pointer 267) 1 8 [.pointer none] := ⟨Tryz.underlying241, by kernel_rfl⟩
theorem ty244 : Ty Tryz.prog 244 (.struct [{ name := "box", type := 167, offset := 0, embedded := false, tag := "", pkgPath := "loop.example/g01182/impl", byteOffset := 0 }, { name := "backBox", type := 167, offset := 256, embedded := false, tag := "", pkgPath := "loop.example/g01182/impl", byteOffset := 256 }, { name := "places", type := 171, offset := 512, embedded := false, tag := "", pkgPath := "loop.example/g01182/impl", byteOffset := 512 }, { name := "backPlaces", type := 171, offset := 528, embedded := false, tag := "", pkgPath := "loop.example/g01182/impl", byteOffset := 528 }, { name := "mixer", type := 241, offset := 544, embedded := false, tag := "", pkgPath := "loop.example/g01182/impl", byteOffset := 544 }, { name := "backMixer", type := 241, offset := 545, embedded := false, tag := "", pkgPath := "loop.example/g01182/impl", byteOffset := 552 }, { name := "rounds", type := 2, offset := 546, embedded := false, tag := "", pkgPath := "loop.example/g01182/impl", byteOffset := 560 }].toArray) 547 568 (cat [(Flat.enc (Vector.replicate 256 (0 : UInt8))), (Flat.enc (Vector.replicate 256 (0 : UInt8))), (Flat.enc (Vector.replicate 16 (0 : UInt8))), (Flat.enc (Vector.replicate 16 (0 : UInt8))), [.pointer none], [.pointer none], (Flat.enc (0 : Int))]) := ⟨Tryz.underlying244, by kernel_rfl⟩
theorem ty265 : Ty Tryz.prog 265 (.array 4 166) 1024 1024 (Flat.enc (Vector.replicate 4 (Vector.replicate 256 (0 : UInt8)))) := ⟨Tryz.underlying265, by kernel_rfl⟩
theorem ty267 : Ty Tryz.prog 267 (.array 4 265) 4096 4096 (Flat.enc (Vector.replicate 4 (Vector.replicate 4 (Vector.replicate 256 (0 : UInt8))))) := ⟨Tryz.underlying267, by kernel_rfl⟩
theorem fd27_0 : Fd Tryz.prog 27 0 0 := YV ty27.und rfl rfl ty22 (by decide)
theorem fd27_1 : Fd Tryz.prog 27 1 1 := YV ty27.und rfl rfl ty2 (by decide)
theorem fd27_2 : Fd Tryz.prog 27 2 2 := YV ty27.und rfl rfl ty23 (by decide)
theorem fd27_3 : Fd Tryz.prog 27 3 3 := YV ty27.und rfl rfl ty24 (by decide)
theorem fd27_4 : Fd Tryz.prog 27 4 4 := YV ty27.und rfl rfl ty25 (by decide)
theorem fd36_0 : Fd Tryz.prog 36 0 0 := YV ty36.und rfl rfl ty32 (by decide)
theorem fd36_1 : Fd Tryz.prog 36 1 1 := YV ty36.und rfl rfl ty2 (by decide)
theorem U8 : Fd Tryz.prog 36 2 2 := YV ty36.und rfl rfl ty33 (by decide)
theorem fd36_3 : Fd Tryz.prog 36 3 3 := YV ty36.und rfl rfl ty34 (by decide)
theorem fd36_4 : Fd Tryz.prog 36 4 4 := YV ty36.und rfl rfl Z9 (by decide)
theorem UQ : Fd Tryz.prog 92 0 0 := YV Ug.und rfl rfl ty2 (by decide)
theorem fd92_1 : Fd Tryz.prog 92 1 1 := YV Ug.und rfl rfl ty2 (by decide)
theorem fd92_2 : Fd Tryz.prog 92 2 2 := YV Ug.und rfl rfl ZF (by decide)
theorem fd92_3 : Fd Tryz.prog 92 3 18 := YV Ug.und rfl rfl Uw (by decide)
theorem fd92_4 : Fd Tryz.prog 92 4 19 := YV Ug.und rfl rfl Uw (by decide)
theorem fd92_5 : Fd Tryz.prog 92 5 20 := YV Ug.und rfl rfl Z9 (by decide)
theorem fd146_0 : Fd Tryz.prog 146 0 0 := YV UY.und rfl rfl ty2 (by decide)
theorem fd146_1 : Fd Tryz.prog 146 1 1 := YV UY.und rfl rfl ty2 (by decide)
theorem fd146_2 : Fd Tryz.prog 146 2 2 := YV UY.und rfl rfl Z9 (by decide)
theorem fd160_0 : Fd Tryz.prog 160 0 0 := YV ty160.und rfl rfl ty2 (by decide)
theorem fd160_1 : Fd Tryz.prog 160 1 1 := YV ty160.und rfl rfl ty2 (by decide)
theorem fd160_2 : Fd Tryz.prog 160 2 2 := YV ty160.und rfl rfl ty67 (by decide)
theorem fd160_3 : Fd Tryz.prog 160 3 18 := YV ty160.und rfl rfl Uw (by decide)
theorem fd160_4 : Fd Tryz.prog 160 4 19 := YV ty160.und rfl rfl Uw (by decide)
theorem fd160_5 : Fd Tryz.prog 160 5 20 := YV ty160.und rfl rfl ty25 (by decide)
theorem fd173_0 : Fd Tryz.prog 173 0 0 := YV WL.und rfl rfl ty2 (by decide)
theorem fd173_1 : Fd Tryz.prog 173 1 1 := YV WL.und rfl rfl Xd (by decide)
theorem fd173_2 : Fd Tryz.prog 173 2 257 := YV WL.und rfl rfl Uc (by decide)
theorem fd173_3 : Fd Tryz.prog 173 3 273 := YV WL.und rfl rfl ty171 (by decide)
theorem fd173_4 : Fd Tryz.prog 173 4 289 := YV WL.und rfl rfl ty2 (by decide)
theorem fd179_0 : Fd Tryz.prog 179 0 0 := YV ty179.und rfl rfl ty2 (by decide)
theorem fd179_1 : Fd Tryz.prog 179 1 1 := YV ty179.und rfl rfl ty2 (by decide)
theorem fd179_2 : Fd Tryz.prog 179 2 2 := YV ty179.und rfl rfl ty25 (by decide)
theorem fd244_0 : Fd Tryz.prog 244 0 0 := YV ty244.und rfl rfl Xd (by decide)
theorem fd244_1 : Fd Tryz.prog 244 1 256 := YV ty244.und rfl rfl Xd (by decide)
theorem fd244_2 : Fd Tryz.prog 244 2 512 := YV ty244.und rfl rfl ty171 (by decide)
theorem fd244_3 : Fd Tryz.prog 244 3 528 := YV ty244.und rfl rfl ty171 (by decide)
theorem fd244_4 : Fd Tryz.prog 244 4 544 := YV ty244.und rfl rfl ty241 (by decide)
theorem fd244_5 : Fd Tryz.prog 244 5 545 := YV ty244.und rfl rfl ty241 (by decide)
theorem fd244_6 : Fd Tryz.prog 244 6 546 := YV ty244.und rfl rfl ty2 (by decide)
theorem pl173 : Places Tryz.prog [{ name := "Field", type := 2, offset := 0, embedded := false, tag := "", pkgPath := "", byteOffset := 0 }, { name := "Box", type := 167, offset := 1, embedded := false, tag := "", pkgPath := "", byteOffset := 8 }, { name := "Mix", type := 170, offset := 257, embedded := false, tag := "", pkgPath := "", byteOffset := 264 }, { name := "Places", type := 171, offset := 273, embedded := false, tag := "", pkgPath := "", byteOffset := 280 }, { name := "Rounds", type := 2, offset := 289, embedded := false, tag := "", pkgPath := "", byteOffset := 296 }] [(0, 1), (1, 256), (257, 16), (273, 16), (289, 1)] := by show _ = _; kernel_rfl
theorem pl244 : Places Tryz.prog [{ name := "box", type := 167, offset := 0, embedded := false, tag := "", pkgPath := "loop.example/g01182/impl", byteOffset := 0 }, { name := "backBox", type := 167, offset := 256, embedded := false, tag := "", pkgPath := "loop.example/g01182/impl", byteOffset := 256 }, { name := "places", type := 171, offset := 512, embedded := false, tag := "", pkgPath := "loop.example/g01182/impl", byteOffset := 512 }, { name := "backPlaces", type := 171, offset := 528, embedded := false, tag := "", pkgPath := "loop.example/g01182/impl", byteOffset := 528 }, { name := "mixer", type := 241, offset := 544, embedded := false, tag := "", pkgPath := "loop.example/g01182/impl", byteOffset := 544 }, { name := "backMixer", type := 241, offset := 545, embedded := false, tag := "", pkgPath := "loop.example/g01182/impl", byteOffset := 552 }, { name := "rounds", type := 2, offset := 546, embedded := false, tag := "", pkgPath := "loop.example/g01182/impl", byteOffset := 560 }] [(0, 256), (256, 256), (512, 16), (528, 16), (544, 1), (545, 1), (546, 1)] := by show _ = _; kernel_rfl
theorem YU : Tryz.prog.follows .mixedOrders = true := by kernel_rfl
theorem cb12 : Callable Tryz.prog 12 := ⟨_, _, Tryz.func12, by decide, rfl⟩
theorem cb13 : Callable Tryz.prog 13 := ⟨_, _, Tryz.func13, by decide, rfl⟩
theorem cb14 : Callable Tryz.prog 14 := ⟨_, _, Tryz.func14, by decide, rfl⟩
theorem cb15 : Callable Tryz.prog 15 := ⟨_, _, Tryz.func15, by decide, rfl⟩
theorem cb16 : Callable Tryz.prog 16 := ⟨_, _, Tryz.func16, by decide, rfl⟩
theorem cb17 : Callable Tryz.prog 17 := ⟨_, _, Tryz.func17, by decide, rfl⟩
theorem cb21 : Callable Tryz.prog 21 := ⟨_, _, Tryz.func21, by decide, rfl⟩
theorem cb28 : Callable Tryz.prog 28 := ⟨_, _, Tryz.func28, by decide, rfl⟩
theorem cb33 : Callable Tryz.prog 33 := ⟨_, _, Tryz.func33, by decide, rfl⟩
theorem cb36 : Callable Tryz.prog 36 := ⟨_, _, Tryz.func36, by decide, rfl⟩
theorem cb50 : Callable Tryz.prog 50 := ⟨_, _, Tryz.func50, by decide, rfl⟩
theorem cb51 : Callable Tryz.prog 51 := ⟨_, _, Tryz.func51, by decide, rfl⟩
theorem cb52 : Callable Tryz.prog 52 := ⟨_, _, Tryz.func52, by decide, rfl⟩
theorem cb53 : Callable Tryz.prog 53 := ⟨_, _, Tryz.func53, by decide, rfl⟩
theorem cb54 : Callable Tryz.prog 54 := ⟨_, _, Tryz.func54, by decide, rfl⟩
theorem cb55 : Callable Tryz.prog 55 := ⟨_, _, Tryz.func55, by decide, rfl⟩
theorem cb56 : Callable Tryz.prog 56 := ⟨_, _, Tryz.func56, by decide, rfl⟩
theorem cb57 : Callable Tryz.prog 57 := ⟨_, _, Tryz.func57, by decide, rfl⟩
theorem cb58 : Callable Tryz.prog 58 := ⟨_, _, Tryz.func58, by decide, rfl⟩
theorem cb59 : Callable Tryz.prog 59 := ⟨_, _, Tryz.func59, by decide, rfl⟩
theorem cb60 : Callable Tryz.prog 60 := ⟨_, _, Tryz.func60, by decide, rfl⟩
theorem cb61 : Callable Tryz.prog 61 := ⟨_, _, Tryz.func61, by decide, rfl⟩
theorem cb62 : Callable Tryz.prog 62 := ⟨_, _, Tryz.func62, by decide, rfl⟩
theorem cb63 : Callable Tryz.prog 63 := ⟨_, _, Tryz.func63, by decide, rfl⟩
theorem cb64 : Callable Tryz.prog 64 := ⟨_, _, Tryz.func64, by decide, rfl⟩
theorem cb95 : Callable Tryz.prog 95 := ⟨_, _, Tryz.func95, by decide, rfl⟩
theorem cb99 : Callable Tryz.prog 99 := ⟨_, _, Tryz.func99, by decide, rfl⟩
theorem cb105 : Callable Tryz.prog 105 := ⟨_, _, Tryz.func105, by decide, rfl⟩
theorem cb108 : Callable Tryz.prog 108 := ⟨_, _, Tryz.func108, by decide, rfl⟩
theorem cb112 : Callable Tryz.prog 112 := ⟨_, _, Tryz.func112, by decide, rfl⟩
theorem cb127 : Callable Tryz.prog 127 := ⟨_, _, Tryz.func127, by decide, rfl⟩
theorem cb128 : Callable Tryz.prog 128 := ⟨_, _, Tryz.func128, by decide, rfl⟩
theorem cb129 : Callable Tryz.prog 129 := ⟨_, _, Tryz.func129, by decide, rfl⟩
theorem cb130 : Callable Tryz.prog 130 := ⟨_, _, Tryz.func130, by decide, rfl⟩
theorem cb131 : Callable Tryz.prog 131 := ⟨_, _, Tryz.func131, by decide, rfl⟩
theorem cb132 : Callable Tryz.prog 132 := ⟨_, _, Tryz.func132, by decide, rfl⟩
theorem cb133 : Callable Tryz.prog 133 := ⟨_, _, Tryz.func133, by decide, rfl⟩
theorem cb134 : Callable Tryz.prog 134 := ⟨_, _, Tryz.func134, by decide, rfl⟩
theorem cb135 : Callable Tryz.prog 135 := ⟨_, _, Tryz.func135, by decide, rfl⟩
theorem cb136 : Callable Tryz.prog 136 := ⟨_, _, Tryz.func136, by decide, rfl⟩
theorem cb137 : Callable Tryz.prog 137 := ⟨_, _, Tryz.func137, by decide, rfl⟩
theorem cb138 : Callable Tryz.prog 138 := ⟨_, _, Tryz.func138, by decide, rfl⟩
theorem cb139 : Callable Tryz.prog 139 := ⟨_, _, Tryz.func139, by decide, rfl⟩
theorem cb140 : Callable Tryz.prog 140 := ⟨_, _, Tryz.func140, by decide, rfl⟩
theorem cb141 : Callable Tryz.prog 141 := ⟨_, _, Tryz.func141, by decide, rfl⟩
theorem cb142 : Callable Tryz.prog 142 := ⟨_, _, Tryz.func142, by decide, rfl⟩
theorem cb143 : Callable Tryz.prog 143 := ⟨_, _, Tryz.func143, by decide, rfl⟩
theorem cb144 : Callable Tryz.prog 144 := ⟨_, _, Tryz.func144, by decide, rfl⟩
theorem cb145 : Callable Tryz.prog 145 := ⟨_, _, Tryz.func145, by decide, rfl⟩
theorem cb153 : Callable Tryz.prog 153 := ⟨_, _, Tryz.func153, by decide, rfl⟩
theorem cb154 : Callable Tryz.prog 154 := ⟨_, _, Tryz.func154, by decide, rfl⟩
theorem cb157 : Callable Tryz.prog 157 := ⟨_, _, Tryz.func157, by decide, rfl⟩
theorem cb158 : Callable Tryz.prog 158 := ⟨_, _, Tryz.func158, by decide, rfl⟩
theorem cb159 : Callable Tryz.prog 159 := ⟨_, _, Tryz.func159, by decide, rfl⟩
theorem cb160 : Callable Tryz.prog 160 := ⟨_, _, Tryz.func160, by decide, rfl⟩
theorem cb161 : Callable Tryz.prog 161 := ⟨_, _, Tryz.func161, by decide, rfl⟩
theorem cb162 : Callable Tryz.prog 162 := ⟨_, _, Tryz.func162, by decide, rfl⟩
theorem cb170 : Callable Tryz.prog 170 := ⟨_, _, Tryz.func170, by decide, rfl⟩
theorem cb171 : Callable Tryz.prog 171 := ⟨_, _, Tryz.func171, by decide, rfl⟩
theorem cb172 : Callable Tryz.prog 172 := ⟨_, _, Tryz.func172, by decide, rfl⟩
theorem cb181 : Callable Tryz.prog 181 := ⟨_, _, Tryz.func181, by decide, rfl⟩
theorem cb182 : Callable Tryz.prog 182 := ⟨_, _, Tryz.func182, by decide, rfl⟩
theorem cb183 : Callable Tryz.prog 183 := ⟨_, _, Tryz.func183, by decide, rfl⟩
theorem cb184 : Callable Tryz.prog 184 := ⟨_, _, Tryz.func184, by decide, rfl⟩
theorem cb185 : Callable Tryz.prog 185 := ⟨_, _, Tryz.func185, by decide, rfl⟩
theorem cb186 : Callable Tryz.prog 186 := ⟨_, _, Tryz.func186, by decide, rfl⟩
theorem cb187 : Callable Tryz.prog 187 := ⟨_, _, Tryz.func187, by decide, rfl⟩
theorem cb188 : Callable Tryz.prog 188 := ⟨_, _, Tryz.func188, by decide, rfl⟩
theorem cb189 : Callable Tryz.prog 189 := ⟨_, _, Tryz.func189, by decide, rfl⟩
theorem cb190 : Callable Tryz.prog 190 := ⟨_, _, Tryz.func190, by decide, rfl⟩
theorem cb191 : Callable Tryz.prog 191 := ⟨_, _, Tryz.func191, by decide, rfl⟩
theorem cb192 : Callable Tryz.prog 192 := ⟨_, _, Tryz.func192, by decide, rfl⟩
theorem cb193 : Callable Tryz.prog 193 := ⟨_, _, Tryz.func193, by decide, rfl⟩
theorem cb194 : Callable Tryz.prog 194 := ⟨_, _, Tryz.func194, by decide, rfl⟩
theorem cb195 : Callable Tryz.prog 195 := ⟨_, _, Tryz.func195, by decide, rfl⟩
theorem cb196 : Callable Tryz.prog 196 := ⟨_, _, Tryz.func196, by decide, rfl⟩
theorem cb197 : Callable Tryz.prog 197 := ⟨_, _, Tryz.func197, by decide, rfl⟩
theorem cb202 : Callable Tryz.prog 202 := ⟨_, _, Tryz.func202, by decide, rfl⟩
theorem cb203 : Callable Tryz.prog 203 := ⟨_, _, Tryz.func203, by decide, rfl⟩
theorem cb215 : Callable Tryz.prog 215 := ⟨_, _, Tryz.func215, by decide, rfl⟩
theorem cb216 : Callable Tryz.prog 216 := ⟨_, _, Tryz.func216, by decide, rfl⟩
theorem cb217 : Callable Tryz.prog 217 := ⟨_, _, Tryz.func217, by decide, rfl⟩
theorem cb218 : Callable Tryz.prog 218 := ⟨_, _, Tryz.func218, by decide, rfl⟩
theorem cb219 : Callable Tryz.prog 219 := ⟨_, _, Tryz.func219, by decide, rfl⟩
theorem cb220 : Callable Tryz.prog 220 := ⟨_, _, Tryz.func220, by decide, rfl⟩
theorem cb221 : Callable Tryz.prog 221 := ⟨_, _, Tryz.func221, by decide, rfl⟩
theorem cb222 : Callable Tryz.prog 222 := ⟨_, _, Tryz.func222, by decide, rfl⟩
theorem cb223 : Callable Tryz.prog 223 := ⟨_, _, Tryz.func223, by decide, rfl⟩
theorem cb224 : Callable Tryz.prog 224 := ⟨_, _, Tryz.func224, by decide, rfl⟩
theorem cb225 : Callable Tryz.prog 225 := ⟨_, _, Tryz.func225, by decide, rfl⟩
theorem cb226 : Callable Tryz.prog 226 := ⟨_, _, Tryz.func226, by decide, rfl⟩
theorem cb227 : Callable Tryz.prog 227 := ⟨_, _, Tryz.func227, by decide, rfl⟩
theorem cb228 : Callable Tryz.prog 228 := ⟨_, _, Tryz.func228, by decide, rfl⟩
theorem cb238 : Callable Tryz.prog 238 := ⟨_, _, Tryz.func238, by decide, rfl⟩
theorem cb239 : Callable Tryz.prog 239 := ⟨_, _, Tryz.func239, by decide, rfl⟩
theorem cb240 : Callable Tryz.prog 240 := ⟨_, _, Tryz.func240, by decide, rfl⟩
theorem cb241 : Callable Tryz.prog 241 := ⟨_, _, Tryz.func241, by decide, rfl⟩
theorem cb242 : Callable Tryz.prog 242 := ⟨_, _, Tryz.func242, by decide, rfl⟩
theorem cb243 : Callable Tryz.prog 243 := ⟨_, _, Tryz.func243, by decide, rfl⟩
theorem cb244 : Callable Tryz.prog 244 := ⟨_, _, Tryz.func244, by decide, rfl⟩
theorem cb245 : Callable Tryz.prog 245 := ⟨_, _, Tryz.func245, by decide, rfl⟩
theorem cb246 : Callable Tryz.prog 246 := ⟨_, _, Tryz.func246, by decide, rfl⟩
theorem cb247 : Callable Tryz.prog 247 := ⟨_, _, Tryz.func247, by decide, rfl⟩
theorem cb249 : Callable Tryz.prog 249 := ⟨_, _, Tryz.func249, by decide, rfl⟩
theorem cb250 : Callable Tryz.prog 250 := ⟨_, _, Tryz.func250, by decide, rfl⟩
noncomputable def Wr (p0 : (List (Vector UInt8 16))) (p1 : Int) : Option (Int) :=
 if (decide ((wr (p1 - (p0.length : Int))) < 0)) = true then (some (-1)) else (some (wr (p1 - (p0.length : Int))))
theorem c_laws_szBlockS (w0 : World) (p0 : (List (Vector UInt8 16))) (v0_1 : Value) (hv0_1 : Ro w0 p0 [v0_1]) (p1 : Int) (r : Int) (hF : Wr p0 p1 = some r) :
  Calls Tryz.prog 50 [v0_1, (vI p1)].toArray w0 (fun en w' => ∃ v, en = .returned v ∧ (v = (vI r) ∧ Kept (Old w0) w0 w')) := by
 refine ZA (n := 12) Tryz.func50 rfl rfl (Nat.le_of_ble_eq_true rfl) rfl ?_
 intro a hE
 have hM := M.start w0
 unfold Wr at hF
 refine Zc (Ze hE Za (dl rfl) rfl ?_); intro a hE
 refine Zf (Zc (Zd hE Za (dl rfl) rfl ?_)); intro a hE
 refine Zd hE Za (dl rfl) rfl ?_; intro a hE
 refine Yb hE Za (dl rfl) rfl Tryz.underlying22 (hM.rd hv0_1) ?_; intro a hE
 refine Zh hE Za (dl rfl) rfl rfl rfl ?_; intro a hE
 refine Ze hE Za (dl rfl) rfl ?_; intro a hE
 refine Zf (wp_seq (Zc (Zd hE Za (dl rfl) rfl ?_))); intro a hE
 refine Zh hE Za (dl rfl) rfl rfl rfl ?_; intro a hE
 refine Zf ?_
 refine Zw hE rfl ?_ ?_
 ·intro hb1
  have hF := ZD hF hb1
  refine Zc (Ze hE Za (dl rfl) rfl ?_); intro a hE
  refine Zf ?_
  have hr := Option.some.inj hF
  subst hr
  exact wp_ret (ZG (Zy hE rfl (Zu hE rfl) ⟨_, rfl, rfl, hM.kept⟩))
 ·intro hb1
  have hF := ZC hF hb1
  refine wp_skip (Zz (Zc (Zd hE Za (dl rfl) rfl ?_))); intro a hE
  refine Ze hE Za (dl rfl) rfl ?_; intro a hE
  refine Zf ?_
  have hr := Option.some.inj hF
  subst hr
  exact wp_ret (Zy hE rfl (Zu hE rfl) ⟨_, rfl, rfl, hM.kept⟩)
noncomputable def Xq (p0 : (List UInt8)) (p1 : Int) : Option (Int) :=
 if (decide ((wr (p1 - (p0.length : Int))) < 0)) = true then (some (-1)) else (some (wr (p1 - (p0.length : Int))))
theorem c_laws_szByteS (w0 : World) (p0 : (List UInt8)) (v0_1 : Value) (hv0_1 : Ro w0 p0 [v0_1]) (p1 : Int) (r : Int) (hF : Xq p0 p1 = some r) :
  Calls Tryz.prog 145 [v0_1, (vI p1)].toArray w0 (fun en w' => ∃ v, en = .returned v ∧ (v = (vI r) ∧ Kept (Old w0) w0 w')) := by
 refine ZA (n := 12) Tryz.func145 rfl rfl (Nat.le_of_ble_eq_true rfl) rfl ?_
 intro a hE
 have hM := M.start w0
 unfold Xq at hF
 refine Zc (Ze hE Za (dl rfl) rfl ?_); intro a hE
 refine Zf (Zc (Zd hE Za (dl rfl) rfl ?_)); intro a hE
 refine Zd hE Za (dl rfl) rfl ?_; intro a hE
 refine Yb hE Za (dl rfl) rfl Tryz.underlying57 (hM.rd hv0_1) ?_; intro a hE
 refine Zh hE Za (dl rfl) rfl rfl rfl ?_; intro a hE
 refine Ze hE Za (dl rfl) rfl ?_; intro a hE
 refine Zf (wp_seq (Zc (Zd hE Za (dl rfl) rfl ?_))); intro a hE
 refine Zh hE Za (dl rfl) rfl rfl rfl ?_; intro a hE
 refine Zf ?_
 refine Zw hE rfl ?_ ?_
 ·intro hb1
  have hF := ZD hF hb1
  refine Zc (Ze hE Za (dl rfl) rfl ?_); intro a hE
  refine Zf ?_
  have hr := Option.some.inj hF
  subst hr
  exact wp_ret (ZG (Zy hE rfl (Zu hE rfl) ⟨_, rfl, rfl, hM.kept⟩))
 ·intro hb1
  have hF := ZC hF hb1
  refine wp_skip (Zz (Zc (Zd hE Za (dl rfl) rfl ?_))); intro a hE
  refine Ze hE Za (dl rfl) rfl ?_; intro a hE
  refine Zf ?_
  have hr := Option.some.inj hF
  subst hr
  exact wp_ret (Zy hE rfl (Zu hE rfl) ⟨_, rfl, rfl, hM.kept⟩)
noncomputable def VG (p0 : GRecord) (p1 : Int) : Option (Int) :=
 (Xq p0.Label p1).bind fun r3 => if (decide (r3 < 0)) = true then (some (-1)) else ((Xq p0.Body r3).bind fun r6 => if (decide (r6 < 0)) = true then (some (-1)) else (some r6))
theorem c_laws_szRecord (w0 : World) (p0 : GRecord) (v0_1 : Value) (hv0_1 : Ro w0 p0.Label [v0_1]) (v0_2 : Value) (hv0_2 : Ro w0 p0.Body [v0_2]) (p1 : Int) (r : Int) (hF : VG p0 p1 = some r) :
  Calls Tryz.prog 127 [(Value.agg (cat [[(vI p0.Number)], [(vI p0.Version)], Flat.enc p0.Nonce, [v0_1], [v0_2], Flat.enc p0.Tag]).toArray), (vI p1)].toArray w0 (fun en w' => ∃ v, en = .returned v ∧ (v = (vI r) ∧ Kept (Old w0) w0 w')) := by
 refine ZA (n := 18) Tryz.func127 rfl rfl (Nat.le_of_ble_eq_true rfl) rfl ?_
 intro a hE
 have hM := M.start w0
 unfold VG at hF
 refine Zc (ZV (cs := cat [[(vI p0.Number)], [(vI p0.Version)], Flat.enc p0.Nonce, [v0_1], [v0_2], Flat.enc p0.Tag]) hE hM Za (dl rfl) rfl rfl ?_); intro b1 w a hM hE
 refine Ze hE Za (dl rfl) rfl ?_; intro a hE
 refine Zf (Zc (Zg hE Za (dl rfl) rfl (fd160_3) ?_)); intro a hE
 refine Zq (v := v0_1) hE Za (dl rfl) rfl Uw rfl (At.cat (pre := [[(vI p0.Number)], [(vI p0.Version)], Flat.enc p0.Nonce]) (hM.rawAt (pre := [])) (cl1 (n := 1) (m := 17) rfl (cl1 (n := 1) (m := 16) rfl (cl1 (n := 16) (m := 0) (Flat.len _) cl0)))) ?_; intro a hE
 refine Zd hE Za (dl rfl) rfl ?_; intro a hE
 obtain ⟨r3, e4, hF⟩ := bind_some hF
 refine Zs (vs := [v0_1, (vI p1)]) hE Za (dl rfl) rfl cb145 (c_laws_szByteS _ p0.Label v0_1 (hM.rdo hv0_1) p1 r3 e4) ?_
 rintro v w a ⟨rfl, hK⟩ hE
 have hM := hM.keep hK
 refine Ze hE Za (dl rfl) rfl ?_; intro a hE
 refine Zf (wp_seq (Zc (Zd hE Za (dl rfl) rfl ?_))); intro a hE
 refine Zh hE Za (dl rfl) rfl rfl rfl ?_; intro a hE
 refine Zf ?_
 refine Zw hE rfl ?_ ?_
 ·intro hb5
  have hF := ZD hF hb5
  refine Zc (Ze hE Za (dl rfl) rfl ?_); intro a hE
  refine Zf ?_
  have hr := Option.some.inj hF
  subst hr
  have hM := M.fst (l := []) hM
  exact wp_ret (ZG (Zy hE rfl (Zu hE rfl) ⟨_, rfl, rfl, hM.kept⟩))
 ·intro hb5
  have hF := ZC hF hb5
  refine wp_skip (Zz (Zc (Zg hE Za (dl rfl) rfl (fd160_4) ?_))); intro a hE
  refine Zq (v := v0_2) hE Za (dl rfl) rfl Uw rfl (At.cat (pre := [[(vI p0.Number)], [(vI p0.Version)], Flat.enc p0.Nonce, [v0_1]]) (hM.rawAt (pre := [])) (cl1 (n := 1) (m := 18) rfl (cl1 (n := 1) (m := 17) rfl (cl1 (n := 16) (m := 1) (Flat.len _) (cl1 (n := 1) (m := 0) rfl cl0))))) ?_; intro a hE
  refine Zd hE Za (dl rfl) rfl ?_; intro a hE
  obtain ⟨r6, e7, hF⟩ := bind_some hF
  refine Zs (vs := [v0_2, (vI r3)]) hE Za (dl rfl) rfl cb145 (c_laws_szByteS _ p0.Body v0_2 (hM.rdo hv0_2) r3 r6 e7) ?_
  rintro v w a ⟨rfl, hK⟩ hE
  have hM := hM.keep hK
  refine Ze hE Za (dl rfl) rfl ?_; intro a hE
  refine Zf (wp_seq (Zc (Zd hE Za (dl rfl) rfl ?_))); intro a hE
  refine Zh hE Za (dl rfl) rfl rfl rfl ?_; intro a hE
  refine Zf ?_
  refine Zw hE rfl ?_ ?_
  ·intro hb8
   have hF := ZD hF hb8
   refine Zc (Ze hE Za (dl rfl) rfl ?_); intro a hE
   refine Zf ?_
   have hr := Option.some.inj hF
   subst hr
   have hM := M.fst (l := []) hM
   exact wp_ret (ZG (Zy hE rfl (Zu hE rfl) ⟨_, rfl, rfl, hM.kept⟩))
  ·intro hb8
   have hF := ZC hF hb8
   refine wp_skip (Zz (Zc (Zd hE Za (dl rfl) rfl ?_))); intro a hE
   refine Ze hE Za (dl rfl) rfl ?_; intro a hE
   refine Zf ?_
   have hr := Option.some.inj hF
   subst hr
   have hM := M.fst (l := []) hM
   exact wp_ret (Zy hE rfl (Zu hE rfl) ⟨_, rfl, rfl, hM.kept⟩)
noncomputable def VS (p0 : (List GRecord)) (s6 : Int × Int) : Option (Fl (Int × Int) (Fl Int Int)) :=
 if (decide (s6.2 < (p0.length : Int))) = true then ((idx p0 s6.2).bind fun x11 => (VG x11 s6.1).bind fun r21 => if (decide (r21 < 0)) = true then (some (Fl.ex (Fl.ex (-1)))) else (some (Fl.nx (r21, wr (s6.2 + 1))))) else (some (Fl.ex (Fl.nx s6.1)))
noncomputable def Xh (p0 : (List GRecord)) (p1 : Int) : Option (Int) :=
 if (decide ((wr (p1 - (p0.length : Int))) < 0)) = true then (some (-1)) else ((ZJ (VS p0) (wr (p1 - (p0.length : Int)), 0) : Option (Fl Int Int)).bind fun j2 => j2.el (fun s5 => some s5) (fun r => some r))
theorem c_laws_szRecordS (w0 : World) (p0 : (List GRecord)) (v0_1 : Value) (hv0_1 : Ro w0 p0 [v0_1]) (p1 : Int) (r : Int) (hF : Xh p0 p1 = some r) :
  Calls Tryz.prog 51 [v0_1, (vI p1)].toArray w0 (fun en w' => ∃ v, en = .returned v ∧ (v = (vI r) ∧ Kept (Old w0) w0 w')) := by
 refine ZA (n := 27) Tryz.func51 rfl rfl (Nat.le_of_ble_eq_true rfl) rfl ?_
 intro a hE
 have hM := M.start w0
 unfold Xh at hF
 refine Zc (Ze hE Za (dl rfl) rfl ?_); intro a hE
 refine Zf (Zc (Zd hE Za (dl rfl) rfl ?_)); intro a hE
 refine Zd hE Za (dl rfl) rfl ?_; intro a hE
 refine Yb hE Za (dl rfl) rfl Tryz.underlying23 (hM.rd hv0_1) ?_; intro a hE
 refine Zh hE Za (dl rfl) rfl rfl rfl ?_; intro a hE
 refine Ze hE Za (dl rfl) rfl ?_; intro a hE
 refine Zf (wp_seq (Zc (Zd hE Za (dl rfl) rfl ?_))); intro a hE
 refine Zh hE Za (dl rfl) rfl rfl rfl ?_; intro a hE
 refine Zf ?_
 refine Zw hE rfl ?_ ?_
 ·intro hb1
  have hF := ZD hF hb1
  refine Zc (Ze hE Za (dl rfl) rfl ?_); intro a hE
  refine Zf ?_
  have hr := Option.some.inj hF
  subst hr
  exact wp_ret (ZG (Zy hE rfl (Zu hE rfl) ⟨_, rfl, rfl, hM.kept⟩))
 ·intro hb1
  have hF := ZC hF hb1
  refine wp_skip (Zz (wp_seq (Zc (Ze hE Za (dl rfl) rfl ?_)))); intro a hE
  refine Zf ?_
  obtain ⟨j2, hl3, hF4⟩ := bind_some hF
  refine ZS (fun a w => ∃ s5 : Int, j2 = Fl.nx s5 ∧ Env 27 a [(1, (vI s5))] ∧ M (Old w0) w0 w []) ?_ ?_
  ·skip
   refine wp_block ?_
   refine ZL (fun (s6 : Int × Int) a w => Env 27 a [(0, v0_1), (1, (vI s6.1)), (5, (vI s6.2))] ∧ M (Old w0) w0 w []) hl3 ⟨hE.sub ⟨rfl, rfl, rfl, trivial⟩, hM⟩ ?_
   rintro s6 a w ⟨hE, hM⟩ o9 hs7 hx8
   unfold VS at hs7
   refine wp_seq (Zc (Zd hE Za (dl rfl) rfl ?_)); intro a hE
   refine Zd hE Za (dl rfl) rfl ?_; intro a hE
   refine Yb hE Za (dl rfl) rfl Tryz.underlying23 (hM.rd hv0_1) ?_; intro a hE
   refine Zh hE Za (dl rfl) rfl rfl rfl ?_; intro a hE
   refine Zf ?_
   refine Zw hE rfl ?_ ?_
   ·intro hb10
    have hs7 := ZD hs7 hb10
    refine wp_skip (Zz (wp_seq (wp_block (Zc (Zd hE Za (dl rfl) rfl ?_))))); intro a hE
    refine Zd hE Za (dl rfl) rfl ?_; intro a hE
    obtain ⟨x11, e12, hs7⟩ := bind_some hs7
    have hi13 := ZY e12
    refine ZX hE Za (dl rfl) rfl rfl Tryz.underlying23 ty160 (hM.rd hv0_1) hi13.1 ?_; intro a hE
    obtain ⟨cs14, hs15, hA16⟩ := Uf hv0_1 hi13.2 -- ^
    obtain ⟨u17, u19, rfl, h18, h20⟩ := X2 hs15 -- ^
    refine Zm (cs := cat [[(vI x11.Number)], [(vI x11.Version)], Flat.enc x11.Nonce, [u17], [u19], Flat.enc x11.Tag]) hE Za (dl rfl) rfl ty160 rfl (hM.atk hA16 (sl_blk hv0_1 hi13.2)) (ZB (cl1 (n := 1) (m := 51) rfl (cl1 (n := 1) (m := 50) rfl (cl1 (n := 16) (m := 34) (Flat.len _) (cl1 (n := 1) (m := 33) rfl (cl1 (n := 1) (m := 32) rfl (cl1 (n := 32) (m := 0) (Flat.len _) cl0))))))) ?_; intro a hE
    refine Zd hE Za (dl rfl) rfl ?_; intro a hE
    obtain ⟨r21, e22, hs7⟩ := bind_some hs7
    refine Zs (vs := [(Value.agg (cat [[(vI x11.Number)], [(vI x11.Version)], Flat.enc x11.Nonce, [u17], [u19], Flat.enc x11.Tag]).toArray), (vI s6.1)]) hE Za (dl rfl) rfl cb127 (c_laws_szRecord _ x11 u17 (hM.rdo h18) u19 (hM.rdo h20) s6.1 r21 e22) ?_
    rintro v w a ⟨rfl, hK⟩ hE
    have hM := hM.keep hK
    refine Ze hE Za (dl rfl) rfl ?_; intro a hE
    refine Zf (Zc (Zd hE Za (dl rfl) rfl ?_)); intro a hE
    refine Zh hE Za (dl rfl) rfl rfl rfl ?_; intro a hE
    refine Zf ?_
    refine Zw hE rfl ?_ ?_
    ·intro hb23
     have hs7 := ZD hs7 hb23
     refine Zc (Ze hE Za (dl rfl) rfl ?_); intro a hE
     refine Zf ?_
     have ht24 := hx8 _ (Option.some.inj hs7).symm
     subst ht24
     have hr := Option.some.inj hF4
     subst hr
     exact wp_ret (Wg (ZG (ZG (Wg (ZG (ZG (Zy hE rfl (Zu hE rfl) ⟨_, rfl, rfl, hM.kept⟩)))))))
    ·intro hb23
     have hs7 := ZC hs7 hb23
     refine wp_skip (Yl (Zz (wp_region_lit (Zd hE Za (dl rfl) rfl ?_)))); intro a hE
     refine Zh hE Za (dl rfl) rfl rfl rfl ?_; intro a hE
     refine Ze hE Za (dl rfl) rfl ?_; intro a hE
     refine Zk (Zn ?_)
     exact ⟨_, (Option.some.inj hs7).symm, hE.sub ⟨rfl, rfl, rfl, trivial⟩, hM⟩
   ·intro hb10
    have hs7 := ZC hs7 hb10
    refine wp_exit (Zr (Zr (Yk ?_)))
    have ht25 := hx8 _ (Option.some.inj hs7).symm
    subst ht25
    refine Zn ?_
    exact ⟨s6.1, rfl, hE.sub ⟨rfl, trivial⟩, hM⟩
  ·skip
   rintro a w ⟨s5, ht, hE, hM⟩
   subst ht
   have hF4 := el_nx hF4
   refine Zz (Zc (Zd hE Za (dl rfl) rfl ?_)); intro a hE
   refine Ze hE Za (dl rfl) rfl ?_; intro a hE
   refine Zf ?_
   have hr := Option.some.inj hF4
   subst hr
   exact wp_ret (Zy hE rfl (Zu hE rfl) ⟨_, rfl, rfl, hM.kept⟩)
noncomputable def Y9 (p0 : (List GEvent)) (p1 : Int) : Option (Int) :=
 if (decide ((wr (p1 - (p0.length : Int))) < 0)) = true then (some (-1)) else (some (wr (p1 - (p0.length : Int))))
theorem c_laws_szEventS (w0 : World) (p0 : (List GEvent)) (v0_1 : Value) (hv0_1 : Ro w0 p0 [v0_1]) (p1 : Int) (r : Int) (hF : Y9 p0 p1 = some r) :
  Calls Tryz.prog 52 [v0_1, (vI p1)].toArray w0 (fun en w' => ∃ v, en = .returned v ∧ (v = (vI r) ∧ Kept (Old w0) w0 w')) := by
 refine ZA (n := 12) Tryz.func52 rfl rfl (Nat.le_of_ble_eq_true rfl) rfl ?_
 intro a hE
 have hM := M.start w0
 unfold Y9 at hF
 refine Zc (Ze hE Za (dl rfl) rfl ?_); intro a hE
 refine Zf (Zc (Zd hE Za (dl rfl) rfl ?_)); intro a hE
 refine Zd hE Za (dl rfl) rfl ?_; intro a hE
 refine Yb hE Za (dl rfl) rfl Tryz.underlying24 (hM.rd hv0_1) ?_; intro a hE
 refine Zh hE Za (dl rfl) rfl rfl rfl ?_; intro a hE
 refine Ze hE Za (dl rfl) rfl ?_; intro a hE
 refine Zf (wp_seq (Zc (Zd hE Za (dl rfl) rfl ?_))); intro a hE
 refine Zh hE Za (dl rfl) rfl rfl rfl ?_; intro a hE
 refine Zf ?_
 refine Zw hE rfl ?_ ?_
 ·intro hb1
  have hF := ZD hF hb1
  refine Zc (Ze hE Za (dl rfl) rfl ?_); intro a hE
  refine Zf ?_
  have hr := Option.some.inj hF
  subst hr
  exact wp_ret (ZG (Zy hE rfl (Zu hE rfl) ⟨_, rfl, rfl, hM.kept⟩))
 ·intro hb1
  have hF := ZC hF hb1
  refine wp_skip (Zz (Zc (Zd hE Za (dl rfl) rfl ?_))); intro a hE
  refine Ze hE Za (dl rfl) rfl ?_; intro a hE
  refine Zf ?_
  have hr := Option.some.inj hF
  subst hr
  exact wp_ret (Zy hE rfl (Zu hE rfl) ⟨_, rfl, rfl, hM.kept⟩)
noncomputable def U0 (p0 : GVault) (p1 : Int) : Option (Int) :=
 (Wr p0.Keys p1).bind fun r3 => if (decide (r3 < 0)) = true then (some (-1)) else ((Xh p0.Records r3).bind fun r6 => if (decide (r6 < 0)) = true then (some (-1)) else ((Y9 p0.Events r6).bind fun r9 => if (decide (r9 < 0)) = true then (some (-1)) else (some r9)))
theorem c_laws_szVault (w0 : World) (p0 : GVault) (v0_1 : Value) (hv0_1 : Ro w0 p0.Keys [v0_1]) (v0_2 : Value) (hv0_2 : Ro w0 p0.Records [v0_2]) (v0_3 : Value) (hv0_3 : Ro w0 p0.Events [v0_3]) (p1 : Int) (r : Int) (hF : U0 p0 p1 = some r) :
  Calls Tryz.prog 12 [(Value.agg (cat [[v0_1], [(vI p0.Next)], [v0_2], [v0_3], Flat.enc p0.Head]).toArray), (vI p1)].toArray w0 (fun en w' => ∃ v, en = .returned v ∧ (v = (vI r) ∧ Kept (Old w0) w0 w')) := by
 refine ZA (n := 24) Tryz.func12 rfl rfl (Nat.le_of_ble_eq_true rfl) rfl ?_
 intro a hE
 have hM := M.start w0
 unfold U0 at hF
 refine Zc (ZV (cs := cat [[v0_1], [(vI p0.Next)], [v0_2], [v0_3], Flat.enc p0.Head]) hE hM Za (dl rfl) rfl rfl ?_); intro b1 w a hM hE
 refine Ze hE Za (dl rfl) rfl ?_; intro a hE
 refine Zf (Zc (Zg hE Za (dl rfl) rfl (fd27_0) ?_)); intro a hE
 refine Zq (v := v0_1) hE Za (dl rfl) rfl ty22 rfl (At.cat (pre := []) (hM.rawAt (pre := [])) cl0) ?_; intro a hE
 refine Zd hE Za (dl rfl) rfl ?_; intro a hE
 obtain ⟨r3, e4, hF⟩ := bind_some hF
 refine Zs (vs := [v0_1, (vI p1)]) hE Za (dl rfl) rfl cb50 (c_laws_szBlockS _ p0.Keys v0_1 (hM.rdo hv0_1) p1 r3 e4) ?_
 rintro v w a ⟨rfl, hK⟩ hE
 have hM := hM.keep hK
 refine Ze hE Za (dl rfl) rfl ?_; intro a hE
 refine Zf (wp_seq (Zc (Zd hE Za (dl rfl) rfl ?_))); intro a hE
 refine Zh hE Za (dl rfl) rfl rfl rfl ?_; intro a hE
 refine Zf ?_
 refine Zw hE rfl ?_ ?_
 ·intro hb5
  have hF := ZD hF hb5
  refine Zc (Ze hE Za (dl rfl) rfl ?_); intro a hE
  refine Zf ?_
  have hr := Option.some.inj hF
  subst hr
  have hM := M.fst (l := []) hM
  exact wp_ret (ZG (Zy hE rfl (Zu hE rfl) ⟨_, rfl, rfl, hM.kept⟩))
 ·intro hb5
  have hF := ZC hF hb5
  refine wp_skip (Zz (Zc (Zg hE Za (dl rfl) rfl (fd27_2) ?_))); intro a hE
  refine Zq (v := v0_2) hE Za (dl rfl) rfl ty23 rfl (At.cat (pre := [[v0_1], [(vI p0.Next)]]) (hM.rawAt (pre := [])) (cl1 (n := 1) (m := 1) rfl (cl1 (n := 1) (m := 0) rfl cl0))) ?_; intro a hE
  refine Zd hE Za (dl rfl) rfl ?_; intro a hE
  obtain ⟨r6, e7, hF⟩ := bind_some hF
  refine Zs (vs := [v0_2, (vI r3)]) hE Za (dl rfl) rfl cb51 (c_laws_szRecordS _ p0.Records v0_2 (hM.rdo hv0_2) r3 r6 e7) ?_
  rintro v w a ⟨rfl, hK⟩ hE
  have hM := hM.keep hK
  refine Ze hE Za (dl rfl) rfl ?_; intro a hE
  refine Zf (wp_seq (Zc (Zd hE Za (dl rfl) rfl ?_))); intro a hE
  refine Zh hE Za (dl rfl) rfl rfl rfl ?_; intro a hE
  refine Zf ?_
  refine Zw hE rfl ?_ ?_
  ·intro hb8
   have hF := ZD hF hb8
   refine Zc (Ze hE Za (dl rfl) rfl ?_); intro a hE
   refine Zf ?_
   have hr := Option.some.inj hF
   subst hr
   have hM := M.fst (l := []) hM
   exact wp_ret (ZG (Zy hE rfl (Zu hE rfl) ⟨_, rfl, rfl, hM.kept⟩))
  ·intro hb8
   have hF := ZC hF hb8
   refine wp_skip (Zz (Zc (Zg hE Za (dl rfl) rfl (fd27_3) ?_))); intro a hE
   refine Zq (v := v0_3) hE Za (dl rfl) rfl ty24 rfl (At.cat (pre := [[v0_1], [(vI p0.Next)], [v0_2]]) (hM.rawAt (pre := [])) (cl1 (n := 1) (m := 2) rfl (cl1 (n := 1) (m := 1) rfl (cl1 (n := 1) (m := 0) rfl cl0)))) ?_; intro a hE
   refine Zd hE Za (dl rfl) rfl ?_; intro a hE
   obtain ⟨r9, e10, hF⟩ := bind_some hF
   refine Zs (vs := [v0_3, (vI r6)]) hE Za (dl rfl) rfl cb52 (c_laws_szEventS _ p0.Events v0_3 (hM.rdo hv0_3) r6 r9 e10) ?_
   rintro v w a ⟨rfl, hK⟩ hE
   have hM := hM.keep hK
   refine Ze hE Za (dl rfl) rfl ?_; intro a hE
   refine Zf (wp_seq (Zc (Zd hE Za (dl rfl) rfl ?_))); intro a hE
   refine Zh hE Za (dl rfl) rfl rfl rfl ?_; intro a hE
   refine Zf ?_
   refine Zw hE rfl ?_ ?_
   ·intro hb11
    have hF := ZD hF hb11
    refine Zc (Ze hE Za (dl rfl) rfl ?_); intro a hE
    refine Zf ?_
    have hr := Option.some.inj hF
    subst hr
    have hM := M.fst (l := []) hM
    exact wp_ret (ZG (Zy hE rfl (Zu hE rfl) ⟨_, rfl, rfl, hM.kept⟩))
   ·intro hb11
    have hF := ZC hF hb11
    refine wp_skip (Zz (Zc (Zd hE Za (dl rfl) rfl ?_))); intro a hE
    refine Ze hE Za (dl rfl) rfl ?_; intro a hE
    refine Zf ?_
    have hr := Option.some.inj hF
    subst hr
    have hM := M.fst (l := []) hM
    exact wp_ret (Zy hE rfl (Zu hE rfl) ⟨_, rfl, rfl, hM.kept⟩)
noncomputable def UO (p0 : (Vector UInt8 16)) (s10 : (Vector UInt8 16) × Int) : Option (Fl ((Vector UInt8 16) × Int) (Vector UInt8 16)) :=
 if (decide (s10.2 < 16)) = true then ((ZK p0 s10.2).bind fun x16 => (ZK s10.1 s10.2).bind fun x19 => some (Fl.nx ((s10.1.setIfInBounds (s10.2).toNat x16), wr (s10.2 + 1)))) else (some (Fl.ex s10.1))
noncomputable def Wa (p0 : (Vector UInt8 16)) : Option ((Vector UInt8 16)) :=
 (ZJ (UO p0) ((Vector.replicate 16 (0 : UInt8)), 0) : Option ((Vector UInt8 16))).bind fun j7 => some j7
theorem c_laws_toBlock (w0 : World) (p0 : (Vector UInt8 16)) (r : (Vector UInt8 16)) (hF : Wa p0 = some r) :
  Calls Tryz.prog 36 [(Value.agg (Flat.enc p0).toArray)].toArray w0 (fun en w' => ∃ v, en = .returned v ∧ (v = (Value.agg (Flat.enc r).toArray) ∧ Kept (Old w0) w0 w')) := by
 refine ZA (n := 15) Tryz.func36 rfl rfl (Nat.le_of_ble_eq_true rfl) rfl ?_
 intro a hE
 have hM := M.start w0
 unfold Wa at hF
 refine Zc (ZV (cs := Flat.enc p0) hE hM Za (dl rfl) rfl rfl ?_); intro b1 w a hM hE
 refine ZE hE hM Za (dl rfl) ZF ?_; intro b3 w a hM hE
 refine Zf (Zc (ZE hE hM Za (dl rfl) ZF ?_)); intro b5 w a hM hE
 refine Zf (wp_seq (Zc (Ze hE Za (dl rfl) rfl ?_))); intro a hE
 refine Zf ?_
 obtain ⟨j7, hl8, hF9⟩ := bind_some hF
 refine ZS (fun a w => Env 15 a [(2, (ptr b3 0)), (3, (ptr b5 0))] ∧ M (Old w0) w0 w [raw b5 (Flat.enc j7), raw b3 (Flat.enc (Vector.replicate 16 (0 : UInt8)))]) ?_ ?_
 ·skip
  refine wp_block ?_
  refine ZL (fun (s10 : (Vector UInt8 16) × Int) a w => Env 15 a [(1, (ptr b1 0)), (2, (ptr b3 0)), (3, (ptr b5 0)), (4, (vI s10.2))] ∧ M (Old w0) w0 w [raw b5 (Flat.enc s10.1), raw b3 (Flat.enc (Vector.replicate 16 (0 : UInt8))), raw b1 (Flat.enc p0)]) hl8 ⟨hE.sub ⟨rfl, rfl, rfl, rfl, trivial⟩, hM⟩ ?_
  rintro s10 a w ⟨hE, hM⟩ o13 hs11 hx12
  unfold UO at hs11
  refine wp_seq (Zc (Zd hE Za (dl rfl) rfl ?_)); intro a hE
  refine Zh hE Za (dl rfl) rfl rfl rfl ?_; intro a hE
  refine Zf ?_
  refine Zw hE rfl ?_ ?_
  ·intro hb14
   have hs11 := ZD hs11 hb14
   refine wp_skip (Zz (wp_seq (wp_block (wp_region_lit (Zd hE Za (dl rfl) rfl ?_))))); intro a hE
   refine Zd hE Za (dl rfl) rfl ?_; intro a hE
   obtain ⟨x16, e17, hs11⟩ := bind_some hs11
   have hi15 := Zi e17
   refine Zo hE Za (dl rfl) rfl rfl Tryz.underlying67 ty5 hi15.1 ?_; intro a hE
   refine Zq (v := (vB x16)) hE Za (dl rfl) rfl ty5 rfl (At.vec (hM.rawAt (pre := [_, _])) hi15.2) ?_; intro a hE
   obtain ⟨x19, e20, hs11⟩ := bind_some hs11
   have hi18 := Zi e20
   refine Zo hE Za (dl rfl) rfl rfl Tryz.underlying70 ty5 hi18.1 ?_; intro a hE
   refine Zp (seg := [(vB x16)]) (cs' := Flat.enc (s10.1.setIfInBounds (s10.2).toNat x16)) hE hM Za rfl rfl rfl ty5 rfl (ZO (v := s10.1) (x := x16) hi18.1) (Flat.cell (x16 : UInt8)) (ZI (v := s10.1) (x := x16) hi18.1) ?_; intro w a hM hE
   refine Zk (Yl (Zz (wp_region_lit (Zd hE Za (dl rfl) rfl ?_)))); intro a hE
   refine Zh hE Za (dl rfl) rfl rfl rfl ?_; intro a hE
   refine Ze hE Za (dl rfl) rfl ?_; intro a hE
   refine Zk (Zn ?_)
   exact ⟨_, (Option.some.inj hs11).symm, hE.sub ⟨rfl, rfl, rfl, rfl, trivial⟩, hM⟩
  ·intro hb14
   have hs11 := ZC hs11 hb14
   refine wp_exit (Zr (Zr (Yk ?_)))
   have ht21 := hx12 _ (Option.some.inj hs11).symm
   subst ht21
   refine Zn ?_
   have hM := hM.pull (pre := [_])
   have hM := hM.pull (pre := [_])
   have hM := M.fst (l := [_, _]) hM
   exact ⟨hE.sub ⟨rfl, rfl, trivial⟩, hM⟩
 ·skip
  rintro a w ⟨hE, hM⟩
  refine Zz (Zc (Zm (cs := Flat.enc j7) hE Za (dl rfl) rfl ZF rfl (hM.rawAt (pre := [])) (Flat.len _) ?_)); intro a hE
  have hM := hM.pull (pre := [_])
  refine Zp (seg := Flat.enc j7) (cs' := Flat.enc j7) hE hM Za rfl rfl rfl ZF (Flat.len _) (zle flq) (Flat.cell _) (Zl flq) ?_; intro w a hM hE
  refine Zf ?_
  have hr := Option.some.inj hF9
  subst hr
  have hq22 : Yq Tryz.prog _ _ (.cell 2 70) _ := ZQ hE rfl ZF rfl (hM.rawAt (pre := [])) (Flat.len _) rfl
  have hM := M.fst (l := []) hM
  exact wp_ret (Zy hE rfl hq22 ⟨_, rfl, rfl, hM.kept⟩)
noncomputable def Uu (p0 : (List (Vector UInt8 16))) (s10 : (List (Vector UInt8 16)) × Int) : Option (Fl ((List (Vector UInt8 16)) × Int) (List (Vector UInt8 16))) :=
 if (decide (s10.2 < (p0.length : Int))) = true then ((idx p0 s10.2).bind fun x17 => (Wa x17).bind fun r20 => (idx s10.1 s10.2).bind fun x22 => some (Fl.nx ((s10.1.set (s10.2).toNat r20), wr (s10.2 + 1)))) else (some (Fl.ex s10.1))
noncomputable def VA (p0 : (List (Vector UInt8 16))) : Option ((List (Vector UInt8 16))) :=
 (mkS 16 (Vector.replicate 16 (0 : UInt8)) (p0.length : Int)).bind fun l1 => (ZJ (Uu p0) (l1, 0) : Option ((List (Vector UInt8 16)))).bind fun j5 => some j5
theorem c_laws_toBlockS (w0 : World) (p0 : (List (Vector UInt8 16))) (v0_1 : Value) (hv0_1 : Ro w0 p0 [v0_1]) (r : (List (Vector UInt8 16))) (hF : VA p0 = some r) :
  Calls Tryz.prog 56 [v0_1].toArray w0 (fun en w' => ∃ v, en = .returned v ∧ (∃ (y1 : Value), v = y1 ∧ Fr w0 w' [osl NoB (r : List (Vector UInt8 16)) y1] ∧ Kept (Old w0) w0 w')) := by
 refine ZA (n := 23) Tryz.func56 rfl rfl (Nat.le_of_ble_eq_true rfl) rfl ?_
 intro a hE
 have hM := M.start w0
 unfold VA at hF
 refine Zc (Ze hE Za (dl rfl) rfl ?_); intro a hE
 refine Zf (Zc (Zd hE Za (dl rfl) rfl ?_)); intro a hE
 refine Yb hE Za (dl rfl) rfl Tryz.underlying22 (hM.rd hv0_1) ?_; intro a hE
 obtain ⟨l1, e2, hF⟩ := bind_some hF
 refine s_make hE hM Za (dl rfl) rfl rfl Tryz.underlying32 ZF rfl (by decide) (fun _ => sat_flat.2 ⟨rfl, rfl⟩) e2 ?_; intro u3 w a hM hE
 refine Ze hE Za (dl rfl) rfl ?_; intro a hE
 refine Zf (wp_seq (Zc (Ze hE Za (dl rfl) rfl ?_))); intro a hE
 refine Zf ?_
 obtain ⟨j5, hl6, hF7⟩ := bind_some hF
 refine ZS (fun a w => ∃ (u8 : Value), Env 23 a [(3, u8)] ∧ M (Old w0) w0 w [osl NoB (j5 : List (Vector UInt8 16)) u8]) ?_ ?_
 ·skip
  refine wp_block ?_
  refine ZL (fun (s10 : (List (Vector UInt8 16)) × Int) a w => ∃ (u11 : Value), Env 23 a [(0, v0_1), (3, u11), (4, (vI s10.2))] ∧ M (Old w0) w0 w [osl NoB (s10.1 : List (Vector UInt8 16)) u11]) hl6 ⟨u3, hE.sub ⟨rfl, rfl, rfl, trivial⟩, hM⟩ ?_
  rintro s10 a w ⟨u11, hE, hM⟩ o15 hs13 hx14
  unfold Uu at hs13
  refine wp_seq (Zc (Zd hE Za (dl rfl) rfl ?_)); intro a hE
  refine Zd hE Za (dl rfl) rfl ?_; intro a hE
  refine Yb hE Za (dl rfl) rfl Tryz.underlying22 (hM.rd hv0_1) ?_; intro a hE
  refine Zh hE Za (dl rfl) rfl rfl rfl ?_; intro a hE
  refine Zf ?_
  refine Zw hE rfl ?_ ?_
  ·intro hb16
   have hs13 := ZD hs13 hb16
   refine wp_skip (Zz (wp_seq (wp_block (wp_region_lit (Zd hE Za (dl rfl) rfl ?_))))); intro a hE
   refine Zd hE Za (dl rfl) rfl ?_; intro a hE
   refine Zd hE Za (dl rfl) rfl ?_; intro a hE
   refine Zd hE Za (dl rfl) rfl ?_; intro a hE
   obtain ⟨x17, e18, hs13⟩ := bind_some hs13
   have hi19 := ZY e18
   refine ZX hE Za (dl rfl) rfl rfl Tryz.underlying22 ty67 (hM.rd hv0_1) hi19.1 ?_; intro a hE
   refine Zm (cs := Flat.enc x17) hE Za (dl rfl) rfl ty67 rfl (Wh (hM.rd hv0_1) hi19.2) (Flat.len _) ?_; intro a hE
   obtain ⟨r20, e21, hs13⟩ := bind_some hs13
   refine Zs (vs := [(Value.agg (Flat.enc x17).toArray)]) hE Za (dl rfl) rfl cb36 (c_laws_toBlock _ x17 r20 e21) ?_
   rintro v w a ⟨rfl, hK⟩ hE
   have hM := hM.keep hK
   obtain ⟨x22, e23, hs13⟩ := bind_some hs13
   have hi24 := ZY e23
   refine ZX hE Za (dl rfl) rfl rfl Tryz.underlying32 ZF (hM.sl (pre := []) noB) hi24.1 ?_; intro a hE
   refine s_storeS (i := (s10.2).toNat) (k0 := 0) (seg := Flat.enc r20) (xo := x22) (xn := r20) hE hM Za rfl rfl rfl ZF (Flat.len _) (Flat.cell _) hi24.2 (fit_num (m := 16) (Flat.len _) (by decide)) (Zl flq) ?_; intro w a hM hE
   refine Zk (Yl (Zz (wp_region_lit (Zd hE Za (dl rfl) rfl ?_)))); intro a hE
   refine Zh hE Za (dl rfl) rfl rfl rfl ?_; intro a hE
   refine Ze hE Za (dl rfl) rfl ?_; intro a hE
   refine Zk (Zn ?_)
   exact ⟨_, (Option.some.inj hs13).symm, u11, hE.sub ⟨rfl, rfl, rfl, trivial⟩, hM⟩
  ·intro hb16
   have hs13 := ZC hs13 hb16
   refine wp_exit (Zr (Zr (Yk ?_)))
   have ht25 := hx14 _ (Option.some.inj hs13).symm
   subst ht25
   refine Zn ?_
   exact ⟨u11, hE.sub ⟨rfl, trivial⟩, hM⟩
 ·skip
  rintro a w ⟨u8, hE, hM⟩
  refine Zz (Zc (Zd hE Za (dl rfl) rfl ?_)); intro a hE
  refine Ze hE Za (dl rfl) rfl ?_; intro a hE
  refine Zf ?_
  have hr := Option.some.inj hF7
  subst hr
  exact wp_ret (Zy hE rfl (Zu hE rfl) ⟨_, rfl, u8, rfl, hM.outF (Vm W2), hM.kept⟩)
noncomputable def UL (p0 : (List UInt8)) (s10 : (List UInt8) × Int) : Option (Fl ((List UInt8) × Int) (List UInt8)) :=
 if (decide (s10.2 < (p0.length : Int))) = true then ((idx p0 s10.2).bind fun x17 => (idx s10.1 s10.2).bind fun x20 => some (Fl.nx ((s10.1.set (s10.2).toNat x17), wr (s10.2 + 1)))) else (some (Fl.ex s10.1))
noncomputable def WU (p0 : (List UInt8)) : Option ((List UInt8)) :=
 (mkS 1 (0 : UInt8) (p0.length : Int)).bind fun l1 => (ZJ (UL p0) (l1, 0) : Option ((List UInt8))).bind fun j5 => some j5
theorem c_laws_toByteS (w0 : World) (p0 : (List UInt8)) (v0_1 : Value) (hv0_1 : Ro w0 p0 [v0_1]) (r : (List UInt8)) (hF : WU p0 = some r) :
  Calls Tryz.prog 33 [v0_1].toArray w0 (fun en w' => ∃ v, en = .returned v ∧ (∃ (y1 : Value), v = y1 ∧ Fr w0 w' [osl NoB (r : List UInt8) y1] ∧ Kept (Old w0) w0 w')) := by
 refine ZA (n := 22) Tryz.func33 rfl rfl (Nat.le_of_ble_eq_true rfl) rfl ?_
 intro a hE
 have hM := M.start w0
 unfold WU at hF
 refine Zc (Ze hE Za (dl rfl) rfl ?_); intro a hE
 refine Zf (Zc (Zd hE Za (dl rfl) rfl ?_)); intro a hE
 refine Yb hE Za (dl rfl) rfl Tryz.underlying57 (hM.rd hv0_1) ?_; intro a hE
 obtain ⟨l1, e2, hF⟩ := bind_some hF
 refine s_make hE hM Za (dl rfl) rfl rfl Tryz.underlying57 ty5 rfl (by decide) (fun _ => sat_flat.2 ⟨rfl, rfl⟩) e2 ?_; intro u3 w a hM hE
 refine Ze hE Za (dl rfl) rfl ?_; intro a hE
 refine Zf (wp_seq (Zc (Ze hE Za (dl rfl) rfl ?_))); intro a hE
 refine Zf ?_
 obtain ⟨j5, hl6, hF7⟩ := bind_some hF
 refine ZS (fun a w => ∃ (u8 : Value), Env 22 a [(3, u8)] ∧ M (Old w0) w0 w [osl NoB (j5 : List UInt8) u8]) ?_ ?_
 ·skip
  refine wp_block ?_
  refine ZL (fun (s10 : (List UInt8) × Int) a w => ∃ (u11 : Value), Env 22 a [(0, v0_1), (3, u11), (4, (vI s10.2))] ∧ M (Old w0) w0 w [osl NoB (s10.1 : List UInt8) u11]) hl6 ⟨u3, hE.sub ⟨rfl, rfl, rfl, trivial⟩, hM⟩ ?_
  rintro s10 a w ⟨u11, hE, hM⟩ o15 hs13 hx14
  unfold UL at hs13
  refine wp_seq (Zc (Zd hE Za (dl rfl) rfl ?_)); intro a hE
  refine Zd hE Za (dl rfl) rfl ?_; intro a hE
  refine Yb hE Za (dl rfl) rfl Tryz.underlying57 (hM.rd hv0_1) ?_; intro a hE
  refine Zh hE Za (dl rfl) rfl rfl rfl ?_; intro a hE
  refine Zf ?_
  refine Zw hE rfl ?_ ?_
  ·intro hb16
   have hs13 := ZD hs13 hb16
   refine wp_skip (Zz (wp_seq (wp_block (wp_region_lit (Zd hE Za (dl rfl) rfl ?_))))); intro a hE
   refine Zd hE Za (dl rfl) rfl ?_; intro a hE
   refine Zd hE Za (dl rfl) rfl ?_; intro a hE
   refine Zd hE Za (dl rfl) rfl ?_; intro a hE
   obtain ⟨x17, e18, hs13⟩ := bind_some hs13
   have hi19 := ZY e18
   refine ZX hE Za (dl rfl) rfl rfl Tryz.underlying57 ty5 (hM.rd hv0_1) hi19.1 ?_; intro a hE
   refine Zq (v := (vB x17)) hE Za (dl rfl) rfl ty5 rfl (Wh (hM.rd hv0_1) hi19.2) ?_; intro a hE
   obtain ⟨x20, e21, hs13⟩ := bind_some hs13
   have hi22 := ZY e21
   refine ZX hE Za (dl rfl) rfl rfl Tryz.underlying57 ty5 (hM.sl (pre := []) noB) hi22.1 ?_; intro a hE
   refine s_storeS (i := (s10.2).toNat) (k0 := 0) (seg := [(vB x17)]) (xo := x20) (xn := x17) hE hM Za rfl rfl rfl ty5 rfl (Flat.cell (x17 : UInt8)) hi22.2 (fit_num (m := 1) rfl (by decide)) (Zl rfl) ?_; intro w a hM hE
   refine Zk (Yl (Zz (wp_region_lit (Zd hE Za (dl rfl) rfl ?_)))); intro a hE
   refine Zh hE Za (dl rfl) rfl rfl rfl ?_; intro a hE
   refine Ze hE Za (dl rfl) rfl ?_; intro a hE
   refine Zk (Zn ?_)
   exact ⟨_, (Option.some.inj hs13).symm, u11, hE.sub ⟨rfl, rfl, rfl, trivial⟩, hM⟩
  ·intro hb16
   have hs13 := ZC hs13 hb16
   refine wp_exit (Zr (Zr (Yk ?_)))
   have ht23 := hx14 _ (Option.some.inj hs13).symm
   subst ht23
   refine Zn ?_
   exact ⟨u11, hE.sub ⟨rfl, trivial⟩, hM⟩
 ·skip
  rintro a w ⟨u8, hE, hM⟩
  refine Zz (Zc (Zd hE Za (dl rfl) rfl ?_)); intro a hE
  refine Ze hE Za (dl rfl) rfl ?_; intro a hE
  refine Zf ?_
  have hr := Option.some.inj hF7
  subst hr
  exact wp_ret (Zy hE rfl (Zu hE rfl) ⟨_, rfl, u8, rfl, hM.outF (Vm W2), hM.kept⟩)
noncomputable def Ut (p0 : (Vector UInt8 32)) (s10 : (Vector UInt8 32) × Int) : Option (Fl ((Vector UInt8 32) × Int) (Vector UInt8 32)) :=
 if (decide (s10.2 < 32)) = true then ((ZK p0 s10.2).bind fun x16 => (ZK s10.1 s10.2).bind fun x19 => some (Fl.nx ((s10.1.setIfInBounds (s10.2).toNat x16), wr (s10.2 + 1)))) else (some (Fl.ex s10.1))
noncomputable def XJ (p0 : (Vector UInt8 32)) : Option ((Vector UInt8 32)) :=
 (ZJ (Ut p0) ((Vector.replicate 32 (0 : UInt8)), 0) : Option ((Vector UInt8 32))).bind fun j7 => some j7
theorem c_laws_toDigest (w0 : World) (p0 : (Vector UInt8 32)) (r : (Vector UInt8 32)) (hF : XJ p0 = some r) :
  Calls Tryz.prog 21 [(Value.agg (Flat.enc p0).toArray)].toArray w0 (fun en w' => ∃ v, en = .returned v ∧ (v = (Value.agg (Flat.enc r).toArray) ∧ Kept (Old w0) w0 w')) := by
 refine ZA (n := 15) Tryz.func21 rfl rfl (Nat.le_of_ble_eq_true rfl) rfl ?_
 intro a hE
 have hM := M.start w0
 unfold XJ at hF
 refine Zc (ZV (cs := Flat.enc p0) hE hM Za (dl rfl) rfl rfl ?_); intro b1 w a hM hE
 refine ZE hE hM Za (dl rfl) Z9 ?_; intro b3 w a hM hE
 refine Zf (Zc (ZE hE hM Za (dl rfl) Z9 ?_)); intro b5 w a hM hE
 refine Zf (wp_seq (Zc (Ze hE Za (dl rfl) rfl ?_))); intro a hE
 refine Zf ?_
 obtain ⟨j7, hl8, hF9⟩ := bind_some hF
 refine ZS (fun a w => Env 15 a [(2, (ptr b3 0)), (3, (ptr b5 0))] ∧ M (Old w0) w0 w [raw b5 (Flat.enc j7), raw b3 (Flat.enc (Vector.replicate 32 (0 : UInt8)))]) ?_ ?_
 ·skip
  refine wp_block ?_
  refine ZL (fun (s10 : (Vector UInt8 32) × Int) a w => Env 15 a [(1, (ptr b1 0)), (2, (ptr b3 0)), (3, (ptr b5 0)), (4, (vI s10.2))] ∧ M (Old w0) w0 w [raw b5 (Flat.enc s10.1), raw b3 (Flat.enc (Vector.replicate 32 (0 : UInt8))), raw b1 (Flat.enc p0)]) hl8 ⟨hE.sub ⟨rfl, rfl, rfl, rfl, trivial⟩, hM⟩ ?_
  rintro s10 a w ⟨hE, hM⟩ o13 hs11 hx12
  unfold Ut at hs11
  refine wp_seq (Zc (Zd hE Za (dl rfl) rfl ?_)); intro a hE
  refine Zh hE Za (dl rfl) rfl rfl rfl ?_; intro a hE
  refine Zf ?_
  refine Zw hE rfl ?_ ?_
  ·intro hb14
   have hs11 := ZD hs11 hb14
   refine wp_skip (Zz (wp_seq (wp_block (wp_region_lit (Zd hE Za (dl rfl) rfl ?_))))); intro a hE
   refine Zd hE Za (dl rfl) rfl ?_; intro a hE
   obtain ⟨x16, e17, hs11⟩ := bind_some hs11
   have hi15 := Zi e17
   refine Zo hE Za (dl rfl) rfl rfl Tryz.underlying25 ty5 hi15.1 ?_; intro a hE
   refine Zq (v := (vB x16)) hE Za (dl rfl) rfl ty5 rfl (At.vec (hM.rawAt (pre := [_, _])) hi15.2) ?_; intro a hE
   obtain ⟨x19, e20, hs11⟩ := bind_some hs11
   have hi18 := Zi e20
   refine Zo hE Za (dl rfl) rfl rfl Tryz.underlying29 ty5 hi18.1 ?_; intro a hE
   refine Zp (seg := [(vB x16)]) (cs' := Flat.enc (s10.1.setIfInBounds (s10.2).toNat x16)) hE hM Za rfl rfl rfl ty5 rfl (ZO (v := s10.1) (x := x16) hi18.1) (Flat.cell (x16 : UInt8)) (ZI (v := s10.1) (x := x16) hi18.1) ?_; intro w a hM hE
   refine Zk (Yl (Zz (wp_region_lit (Zd hE Za (dl rfl) rfl ?_)))); intro a hE
   refine Zh hE Za (dl rfl) rfl rfl rfl ?_; intro a hE
   refine Ze hE Za (dl rfl) rfl ?_; intro a hE
   refine Zk (Zn ?_)
   exact ⟨_, (Option.some.inj hs11).symm, hE.sub ⟨rfl, rfl, rfl, rfl, trivial⟩, hM⟩
  ·intro hb14
   have hs11 := ZC hs11 hb14
   refine wp_exit (Zr (Zr (Yk ?_)))
   have ht21 := hx12 _ (Option.some.inj hs11).symm
   subst ht21
   refine Zn ?_
   have hM := hM.pull (pre := [_])
   have hM := hM.pull (pre := [_])
   have hM := M.fst (l := [_, _]) hM
   exact ⟨hE.sub ⟨rfl, rfl, trivial⟩, hM⟩
 ·skip
  rintro a w ⟨hE, hM⟩
  refine Zz (Zc (Zm (cs := Flat.enc j7) hE Za (dl rfl) rfl Z9 rfl (hM.rawAt (pre := [])) (Flat.len _) ?_)); intro a hE
  have hM := hM.pull (pre := [_])
  refine Zp (seg := Flat.enc j7) (cs' := Flat.enc j7) hE hM Za rfl rfl rfl Z9 (Flat.len _) (zle flq) (Flat.cell _) (Zl flq) ?_; intro w a hM hE
  refine Zf ?_
  have hr := Option.some.inj hF9
  subst hr
  have hq22 : Yq Tryz.prog _ _ (.cell 2 29) _ := ZQ hE rfl Z9 rfl (hM.rawAt (pre := [])) (Flat.len _) rfl
  have hM := M.fst (l := []) hM
  exact wp_ret (Zy hE rfl hq22 ⟨_, rfl, rfl, hM.kept⟩)
noncomputable def Ws (p0 : GRecord) : Option (GRecord) :=
 (Wa p0.Nonce).bind fun r7 => (WU p0.Label).bind fun r9 => (WU p0.Body).bind fun r12 => (XJ p0.Tag).bind fun r15 => some (⟨p0.Number, p0.Version, r7, r9, r12, r15⟩ : GRecord)
theorem c_laws_toRecord (w0 : World) (p0 : GRecord) (v0_1 : Value) (hv0_1 : Ro w0 p0.Label [v0_1]) (v0_2 : Value) (hv0_2 : Ro w0 p0.Body [v0_2]) (r : GRecord) (hF : Ws p0 = some r) :
  Calls Tryz.prog 135 [(Value.agg (cat [[(vI p0.Number)], [(vI p0.Version)], Flat.enc p0.Nonce, [v0_1], [v0_2], Flat.enc p0.Tag]).toArray)].toArray w0 (fun en w' => ∃ v, en = .returned v ∧ (∃ (y1 : Value) (y2 : Value), v = (Value.agg (cat [[(vI r.Number)], [(vI r.Version)], Flat.enc r.Nonce, [y1], [y2], Flat.enc r.Tag]).toArray) ∧ Fr w0 w' [osl NoB (r.Label : List UInt8) y1, osl NoB (r.Body : List UInt8) y2] ∧ Kept (Old w0) w0 w')) := by
 refine ZA (n := 27) Tryz.func135 rfl rfl (Nat.le_of_ble_eq_true rfl) rfl ?_
 intro a hE
 have hM := M.start w0
 unfold Ws at hF
 refine Zc (ZV (cs := cat [[(vI p0.Number)], [(vI p0.Version)], Flat.enc p0.Nonce, [v0_1], [v0_2], Flat.enc p0.Tag]) hE hM Za (dl rfl) rfl rfl ?_); intro b1 w a hM hE
 refine ZE hE hM Za (dl rfl) Ug ?_; intro b3 w a hM hE
 refine Zf (Zc (ZE hE hM Za (dl rfl) Ug ?_)); intro b5 w a hM hE
 refine Zf (Zc (Zg hE Za (dl rfl) rfl (fd160_0) ?_)); intro a hE
 refine Zq (v := (vI p0.Number)) hE Za (dl rfl) rfl ty2 rfl (At.cat (pre := []) (hM.rawAt (pre := [_, _])) cl0) ?_; intro a hE
 refine Zg hE Za (dl rfl) rfl (UQ) ?_; intro a hE
 refine Zp (seg := [(vI p0.Number)]) (cs' := cat [[(vI p0.Number)], [(vI 0)], Flat.enc (Vector.replicate 16 (0 : UInt8)), [(Value.slice none 0 0)], [(Value.slice none 0 0)], Flat.enc (Vector.replicate 32 (0 : UInt8))]) hE hM Za rfl rfl rfl ty2 rfl (WR (pre := []) cl0 rfl) (Flat.cell (p0.Number : Int)) (YF (pre := []) cl0 rfl) ?_; intro w a hM hE
 refine Zf (Zc (Zg hE Za (dl rfl) rfl (fd160_1) ?_)); intro a hE
 refine Zq (v := (vI p0.Version)) hE Za (dl rfl) rfl ty2 rfl (At.cat (pre := [[(vI p0.Number)]]) (hM.rawAt (pre := [_, _])) (cl1 (n := 1) (m := 0) rfl cl0)) ?_; intro a hE
 refine Zg hE Za (dl rfl) rfl (fd92_1) ?_; intro a hE
 refine Zp (seg := [(vI p0.Version)]) (cs' := cat [[(vI p0.Number)], [(vI p0.Version)], Flat.enc (Vector.replicate 16 (0 : UInt8)), [(Value.slice none 0 0)], [(Value.slice none 0 0)], Flat.enc (Vector.replicate 32 (0 : UInt8))]) hE hM Za rfl rfl rfl ty2 rfl (WR (pre := [[(vI p0.Number)]]) (cl1 (n := 1) (m := 0) rfl cl0) rfl) (Flat.cell (p0.Version : Int)) (YF (pre := [[(vI p0.Number)]]) (cl1 (n := 1) (m := 0) rfl cl0) rfl) ?_; intro w a hM hE
 refine Zf (Zc (Zg hE Za (dl rfl) rfl (fd160_2) ?_)); intro a hE
 refine Zm (cs := Flat.enc p0.Nonce) hE Za (dl rfl) rfl ty67 rfl (At.cat (pre := [[(vI p0.Number)], [(vI p0.Version)]]) (hM.rawAt (pre := [_, _])) (cl1 (n := 1) (m := 1) rfl (cl1 (n := 1) (m := 0) rfl cl0))) (Flat.len _) ?_; intro a hE
 obtain ⟨r7, e8, hF⟩ := bind_some hF
 refine Zs (vs := [(Value.agg (Flat.enc p0.Nonce).toArray)]) hE Za (dl rfl) rfl cb36 (c_laws_toBlock _ p0.Nonce r7 e8) ?_
 rintro v w a ⟨rfl, hK⟩ hE
 have hM := hM.keep hK
 refine Zg hE Za (dl rfl) rfl (fd92_2) ?_; intro a hE
 refine Zp (seg := Flat.enc r7) (cs' := cat [[(vI p0.Number)], [(vI p0.Version)], Flat.enc r7, [(Value.slice none 0 0)], [(Value.slice none 0 0)], Flat.enc (Vector.replicate 32 (0 : UInt8))]) hE hM Za rfl rfl rfl ZF (Flat.len _) (WR (pre := [[(vI p0.Number)], [(vI p0.Version)]]) (cl1 (n := 1) (m := 1) rfl (cl1 (n := 1) (m := 0) rfl cl0)) flq) (Flat.cell _) (YF (pre := [[(vI p0.Number)], [(vI p0.Version)]]) (cl1 (n := 1) (m := 1) rfl (cl1 (n := 1) (m := 0) rfl cl0)) flq) ?_; intro w a hM hE
 refine Zf (Zc (Zg hE Za (dl rfl) rfl (fd160_3) ?_)); intro a hE
 refine Zq (v := v0_1) hE Za (dl rfl) rfl Uw rfl (At.cat (pre := [[(vI p0.Number)], [(vI p0.Version)], Flat.enc p0.Nonce]) (hM.rawAt (pre := [_, _])) (cl1 (n := 1) (m := 17) rfl (cl1 (n := 1) (m := 16) rfl (cl1 (n := 16) (m := 0) (Flat.len _) cl0)))) ?_; intro a hE
 obtain ⟨r9, e10, hF⟩ := bind_some hF
 refine Zs (vs := [v0_1]) hE Za (dl rfl) rfl cb33 (c_laws_toByteS _ p0.Label v0_1 (hM.rdo hv0_1) r9 e10) ?_
 rintro u11 w a ⟨_, rfl, hFr, hK⟩ hE
 have hM := hM.add hK hFr
 refine Zg hE Za (dl rfl) rfl (fd92_3) ?_; intro a hE
 have hM := hM.pull (pre := [_])
 refine Zp (seg := [u11]) (cs' := cat [[(vI p0.Number)], [(vI p0.Version)], Flat.enc r7, [u11], [(Value.slice none 0 0)], Flat.enc (Vector.replicate 32 (0 : UInt8))]) hE hM Za rfl rfl (Xt (hM.sl (pre := [_]) noB)) Uw rfl (WR (pre := [[(vI p0.Number)], [(vI p0.Version)], Flat.enc r7]) (cl1 (n := 1) (m := 17) rfl (cl1 (n := 1) (m := 16) rfl (cl1 (n := 16) (m := 0) (Flat.len _) cl0))) rfl) (Rep.cell (hM.sl (pre := [_]) noB)) (YF (pre := [[(vI p0.Number)], [(vI p0.Version)], Flat.enc r7]) (cl1 (n := 1) (m := 17) rfl (cl1 (n := 1) (m := 16) rfl (cl1 (n := 16) (m := 0) (Flat.len _) cl0))) rfl) ?_; intro w a hM hE
 refine Zf (Zc (Zg hE Za (dl rfl) rfl (fd160_4) ?_)); intro a hE
 refine Zq (v := v0_2) hE Za (dl rfl) rfl Uw rfl (At.cat (pre := [[(vI p0.Number)], [(vI p0.Version)], Flat.enc p0.Nonce, [v0_1]]) (hM.rawAt (pre := [_, _, _])) (cl1 (n := 1) (m := 18) rfl (cl1 (n := 1) (m := 17) rfl (cl1 (n := 16) (m := 1) (Flat.len _) (cl1 (n := 1) (m := 0) rfl cl0))))) ?_; intro a hE
 obtain ⟨r12, e13, hF⟩ := bind_some hF
 refine Zs (vs := [v0_2]) hE Za (dl rfl) rfl cb33 (c_laws_toByteS _ p0.Body v0_2 (hM.rdo hv0_2) r12 e13) ?_
 rintro u14 w a ⟨_, rfl, hFr, hK⟩ hE
 have hM := hM.add hK hFr
 refine Zg hE Za (dl rfl) rfl (fd92_4) ?_; intro a hE
 have hM := hM.pull (pre := [_])
 refine Zp (seg := [u14]) (cs' := cat [[(vI p0.Number)], [(vI p0.Version)], Flat.enc r7, [u11], [u14], Flat.enc (Vector.replicate 32 (0 : UInt8))]) hE hM Za rfl rfl (Xt (hM.sl (pre := [_]) noB)) Uw rfl (WR (pre := [[(vI p0.Number)], [(vI p0.Version)], Flat.enc r7, [u11]]) (cl1 (n := 1) (m := 18) rfl (cl1 (n := 1) (m := 17) rfl (cl1 (n := 16) (m := 1) (Flat.len _) (cl1 (n := 1) (m := 0) rfl cl0)))) rfl) (Rep.cell (hM.sl (pre := [_]) noB)) (YF (pre := [[(vI p0.Number)], [(vI p0.Version)], Flat.enc r7, [u11]]) (cl1 (n := 1) (m := 18) rfl (cl1 (n := 1) (m := 17) rfl (cl1 (n := 16) (m := 1) (Flat.len _) (cl1 (n := 1) (m := 0) rfl cl0)))) rfl) ?_; intro w a hM hE
 refine Zf (Zc (Zg hE Za (dl rfl) rfl (fd160_5) ?_)); intro a hE
 refine Zm (cs := Flat.enc p0.Tag) hE Za (dl rfl) rfl ty25 rfl (At.cat (pre := [[(vI p0.Number)], [(vI p0.Version)], Flat.enc p0.Nonce, [v0_1], [v0_2]]) (hM.rawAt (pre := [_, _, _, _])) (cl1 (n := 1) (m := 19) rfl (cl1 (n := 1) (m := 18) rfl (cl1 (n := 16) (m := 2) (Flat.len _) (cl1 (n := 1) (m := 1) rfl (cl1 (n := 1) (m := 0) rfl cl0)))))) (Flat.len _) ?_; intro a hE
 obtain ⟨r15, e16, hF⟩ := bind_some hF
 refine Zs (vs := [(Value.agg (Flat.enc p0.Tag).toArray)]) hE Za (dl rfl) rfl cb21 (c_laws_toDigest _ p0.Tag r15 e16) ?_
 rintro v w a ⟨rfl, hK⟩ hE
 have hM := hM.keep hK
 refine Zg hE Za (dl rfl) rfl (fd92_5) ?_; intro a hE
 refine Zp (seg := Flat.enc r15) (cs' := cat [[(vI p0.Number)], [(vI p0.Version)], Flat.enc r7, [u11], [u14], Flat.enc r15]) hE hM Za rfl rfl rfl Z9 (Flat.len _) (WR (pre := [[(vI p0.Number)], [(vI p0.Version)], Flat.enc r7, [u11], [u14]]) (cl1 (n := 1) (m := 19) rfl (cl1 (n := 1) (m := 18) rfl (cl1 (n := 16) (m := 2) (Flat.len _) (cl1 (n := 1) (m := 1) rfl (cl1 (n := 1) (m := 0) rfl cl0))))) flq) (Flat.cell _) (YF (pre := [[(vI p0.Number)], [(vI p0.Version)], Flat.enc r7, [u11], [u14]]) (cl1 (n := 1) (m := 19) rfl (cl1 (n := 1) (m := 18) rfl (cl1 (n := 16) (m := 2) (Flat.len _) (cl1 (n := 1) (m := 1) rfl (cl1 (n := 1) (m := 0) rfl cl0))))) flq) ?_; intro w a hM hE
 refine Zf (Zc (Zm (cs := cat [[(vI p0.Number)], [(vI p0.Version)], Flat.enc r7, [u11], [u14], Flat.enc r15]) hE Za (dl rfl) rfl Ug rfl (hM.rawAt (pre := [])) (ZB (cl1 (n := 1) (m := 51) rfl (cl1 (n := 1) (m := 50) rfl (cl1 (n := 16) (m := 34) (Flat.len _) (cl1 (n := 1) (m := 33) rfl (cl1 (n := 1) (m := 32) rfl (cl1 (n := 32) (m := 0) (Flat.len _) cl0))))))) ?_)); intro a hE
 have hM := hM.pull (pre := [_, _, _])
 refine Zp (seg := cat [[(vI p0.Number)], [(vI p0.Version)], Flat.enc r7, [u11], [u14], Flat.enc r15]) (cs' := cat [[(vI p0.Number)], [(vI p0.Version)], Flat.enc r7, [u11], [u14], Flat.enc r15]) hE hM Za rfl rfl rfl Ug (ZB (cl1 (n := 1) (m := 51) rfl (cl1 (n := 1) (m := 50) rfl (cl1 (n := 16) (m := 34) (Flat.len _) (cl1 (n := 1) (m := 33) rfl (cl1 (n := 1) (m := 32) rfl (cl1 (n := 32) (m := 0) (Flat.len _) cl0))))))) (Nat.le_of_eq ((Nat.zero_add _).trans (Eq.trans (ZB (cl1 (n := 1) (m := 51) rfl (cl1 (n := 1) (m := 50) rfl (cl1 (n := 16) (m := 34) (Flat.len _) (cl1 (n := 1) (m := 33) rfl (cl1 (n := 1) (m := 32) rfl (cl1 (n := 32) (m := 0) (Flat.len _) cl0))))))) (Eq.symm (ZB (cl1 (n := 1) (m := 51) rfl (cl1 (n := 1) (m := 50) rfl (cl1 (n := 16) (m := 34) (Flat.len _) (cl1 (n := 1) (m := 33) rfl (cl1 (n := 1) (m := 32) rfl (cl1 (n := 32) (m := 0) (Flat.len _) cl0))))))))))) (WH (cc1 (Flat.cell (p0.Number : Int)) (cc1 (Flat.cell (p0.Version : Int)) (cc1 (Flat.cell _) (cc1 (Rep.cell (hM.sl (pre := [_, _, _]) noB)) (cc1 (Rep.cell (hM.sl (pre := [_, _]) noB)) (cc1 (Flat.cell _) cc0))))))) (Zl (Eq.trans (ZB (cl1 (n := 1) (m := 51) rfl (cl1 (n := 1) (m := 50) rfl (cl1 (n := 16) (m := 34) (Flat.len _) (cl1 (n := 1) (m := 33) rfl (cl1 (n := 1) (m := 32) rfl (cl1 (n := 32) (m := 0) (Flat.len _) cl0))))))) (Eq.symm (ZB (cl1 (n := 1) (m := 51) rfl (cl1 (n := 1) (m := 50) rfl (cl1 (n := 16) (m := 34) (Flat.len _) (cl1 (n := 1) (m := 33) rfl (cl1 (n := 1) (m := 32) rfl (cl1 (n := 32) (m := 0) (Flat.len _) cl0)))))))))) ?_; intro w a hM hE
 refine Zf ?_
 have hr := Option.some.inj hF
 subst hr
 have hq17 : Yq Tryz.prog _ _ (.cell 2 92) _ := ZQ hE rfl Ug rfl (hM.rawAt (pre := [])) (ZB (cl1 (n := 1) (m := 51) rfl (cl1 (n := 1) (m := 50) rfl (cl1 (n := 16) (m := 34) (Flat.len _) (cl1 (n := 1) (m := 33) rfl (cl1 (n := 1) (m := 32) rfl (cl1 (n := 32) (m := 0) (Flat.len _) cl0))))))) rfl
 have hM := hM.pull (pre := [_, _])
 have hM := hM.pull (pre := [_, _, _])
 have hM := M.fst (l := [_, _]) hM
 exact wp_ret (Zy hE rfl hq17 ⟨_, rfl, u11, u14, rfl, hM.outF (Vm (Vm W2)), hM.kept⟩)
noncomputable def VW (p0 : (List GRecord)) (s10 : (List GRecord) × Int) : Option (Fl ((List GRecord) × Int) (List GRecord)) :=
 if (decide (s10.2 < (p0.length : Int))) = true then ((idx p0 s10.2).bind fun x17 => (Ws x17).bind fun r27 => (idx s10.1 s10.2).bind fun x31 => some (Fl.nx ((s10.1.set (s10.2).toNat r27), wr (s10.2 + 1)))) else (some (Fl.ex s10.1))
noncomputable def WY (p0 : (List GRecord)) : Option ((List GRecord)) :=
 (mkS 112 (⟨(0 : Int), (0 : Int), (Vector.replicate 16 (0 : UInt8)), ([] : (List UInt8)), ([] : (List UInt8)), (Vector.replicate 32 (0 : UInt8))⟩ : GRecord) (p0.length : Int)).bind fun l1 => (ZJ (VW p0) (l1, 0) : Option ((List GRecord))).bind fun j5 => some j5
theorem c_laws_toRecordS (w0 : World) (p0 : (List GRecord)) (v0_1 : Value) (hv0_1 : Ro w0 p0 [v0_1]) (r : (List GRecord)) (hF : WY p0 = some r) :
  Calls Tryz.prog 57 [v0_1].toArray w0 (fun en w' => ∃ v, en = .returned v ∧ (∃ (y1 : Value), v = y1 ∧ Fr w0 w' [osl NoB (r : List GRecord) y1] ∧ Kept (Old w0) w0 w')) := by
 refine ZA (n := 23) Tryz.func57 rfl rfl (Nat.le_of_ble_eq_true rfl) rfl ?_
 intro a hE
 have hM := M.start w0
 unfold WY at hF
 refine Zc (Ze hE Za (dl rfl) rfl ?_); intro a hE
 refine Zf (Zc (Zd hE Za (dl rfl) rfl ?_)); intro a hE
 refine Yb hE Za (dl rfl) rfl Tryz.underlying23 (hM.rd hv0_1) ?_; intro a hE
 obtain ⟨l1, e2, hF⟩ := bind_some hF
 refine s_make hE hM Za (dl rfl) rfl rfl Tryz.underlying33 Ug rfl (by decide) zsat_GRecord e2 ?_; intro u3 w a hM hE
 refine Ze hE Za (dl rfl) rfl ?_; intro a hE
 refine Zf (wp_seq (Zc (Ze hE Za (dl rfl) rfl ?_))); intro a hE
 refine Zf ?_
 obtain ⟨j5, hl6, hF7⟩ := bind_some hF
 refine ZS (fun a w => ∃ (u8 : Value), Env 23 a [(3, u8)] ∧ M (Old w0) w0 w [osl NoB (j5 : List GRecord) u8]) ?_ ?_
 ·skip
  refine wp_block ?_
  refine ZL (fun (s10 : (List GRecord) × Int) a w => ∃ (u11 : Value), Env 23 a [(0, v0_1), (3, u11), (4, (vI s10.2))] ∧ M (Old w0) w0 w [osl NoB (s10.1 : List GRecord) u11]) hl6 ⟨u3, hE.sub ⟨rfl, rfl, rfl, trivial⟩, hM⟩ ?_
  rintro s10 a w ⟨u11, hE, hM⟩ o15 hs13 hx14
  unfold VW at hs13
  refine wp_seq (Zc (Zd hE Za (dl rfl) rfl ?_)); intro a hE
  refine Zd hE Za (dl rfl) rfl ?_; intro a hE
  refine Yb hE Za (dl rfl) rfl Tryz.underlying23 (hM.rd hv0_1) ?_; intro a hE
  refine Zh hE Za (dl rfl) rfl rfl rfl ?_; intro a hE
  refine Zf ?_
  refine Zw hE rfl ?_ ?_
  ·intro hb16
   have hs13 := ZD hs13 hb16
   refine wp_skip (Zz (wp_seq (wp_block (wp_region_lit (Zd hE Za (dl rfl) rfl ?_))))); intro a hE
   refine Zd hE Za (dl rfl) rfl ?_; intro a hE
   refine Zd hE Za (dl rfl) rfl ?_; intro a hE
   refine Zd hE Za (dl rfl) rfl ?_; intro a hE
   obtain ⟨x17, e18, hs13⟩ := bind_some hs13
   have hi19 := ZY e18
   refine ZX hE Za (dl rfl) rfl rfl Tryz.underlying23 ty160 (hM.rd hv0_1) hi19.1 ?_; intro a hE
   obtain ⟨cs20, hs21, hA22⟩ := Uf hv0_1 hi19.2 -- ^
   obtain ⟨u23, u25, rfl, h24, h26⟩ := X2 hs21 -- ^
   refine Zm (cs := cat [[(vI x17.Number)], [(vI x17.Version)], Flat.enc x17.Nonce, [u23], [u25], Flat.enc x17.Tag]) hE Za (dl rfl) rfl ty160 rfl (hM.atk hA22 (sl_blk hv0_1 hi19.2)) (ZB (cl1 (n := 1) (m := 51) rfl (cl1 (n := 1) (m := 50) rfl (cl1 (n := 16) (m := 34) (Flat.len _) (cl1 (n := 1) (m := 33) rfl (cl1 (n := 1) (m := 32) rfl (cl1 (n := 32) (m := 0) (Flat.len _) cl0))))))) ?_; intro a hE
   obtain ⟨r27, e28, hs13⟩ := bind_some hs13
   refine Zs (vs := [(Value.agg (cat [[(vI x17.Number)], [(vI x17.Version)], Flat.enc x17.Nonce, [u23], [u25], Flat.enc x17.Tag]).toArray)]) hE Za (dl rfl) rfl cb135 (c_laws_toRecord _ x17 u23 (hM.rdo h24) u25 (hM.rdo h26) r27 e28) ?_
   rintro v w a ⟨u29, u30, rfl, hFr, hK⟩ hE
   have hM := hM.add hK hFr
   obtain ⟨x31, e32, hs13⟩ := bind_some hs13
   have hi33 := ZY e32
   refine ZX hE Za (dl rfl) rfl rfl Tryz.underlying33 Ug (hM.sl (pre := [_, _]) noB) hi33.1 ?_; intro a hE
   have hM := hM.pull (pre := [_])
   have hM := hM.pull (pre := [_])
   have hM := hM.pack2 (it := own NoB r27 (cat [[(vI r27.Number)], [(vI r27.Version)], Flat.enc r27.Nonce, [u29], [u30], Flat.enc r27.Tag])) (own_loc noB) (fun f0 f1 q0 q1 => (pk_GRecord (Vk.sat q0) (Vk.sat q1) (by simp)))
   have hM := hM.pull (pre := [_])
   have hM := hM.pull (pre := [_])
   refine s_storeR (i := (s10.2).toNat) (seg := cat [[(vI r27.Number)], [(vI r27.Version)], Flat.enc r27.Nonce, [u29], [u30], Flat.enc r27.Tag]) hE hM noB Za rfl rfl rfl Ug (by omega) ?_; intro w a hM hE
   refine Zk (Yl (Zz (wp_region_lit (Zd hE Za (dl rfl) rfl ?_)))); intro a hE
   refine Zh hE Za (dl rfl) rfl rfl rfl ?_; intro a hE
   refine Ze hE Za (dl rfl) rfl ?_; intro a hE
   refine Zk (Zn ?_)
   exact ⟨_, (Option.some.inj hs13).symm, u11, hE.sub ⟨rfl, rfl, rfl, trivial⟩, hM⟩
  ·intro hb16
   have hs13 := ZC hs13 hb16
   refine wp_exit (Zr (Zr (Yk ?_)))
   have ht34 := hx14 _ (Option.some.inj hs13).symm
   subst ht34
   refine Zn ?_
   exact ⟨u11, hE.sub ⟨rfl, trivial⟩, hM⟩
 ·skip
  rintro a w ⟨u8, hE, hM⟩
  refine Zz (Zc (Zd hE Za (dl rfl) rfl ?_)); intro a hE
  refine Ze hE Za (dl rfl) rfl ?_; intro a hE
  refine Zf ?_
  have hr := Option.some.inj hF7
  subst hr
  exact wp_ret (Zy hE rfl (Zu hE rfl) ⟨_, rfl, u8, rfl, hM.outF (Vm W2), hM.kept⟩)
noncomputable def Vb (p0 : GEvent) : Option (GEvent) :=
 (XJ p0.Tag).bind fun r7 => some (⟨p0.Kind, p0.Number, r7⟩ : GEvent)
theorem c_laws_toEvent (w0 : World) (p0 : GEvent) (r : GEvent) (hF : Vb p0 = some r) :
  Calls Tryz.prog 136 [(Value.agg (Flat.enc p0).toArray)].toArray w0 (fun en w' => ∃ v, en = .returned v ∧ (v = (Value.agg (Flat.enc r).toArray) ∧ Kept (Old w0) w0 w')) := by
 refine ZA (n := 15) Tryz.func136 rfl rfl (Nat.le_of_ble_eq_true rfl) rfl ?_
 intro a hE
 have hM := M.start w0
 unfold Vb at hF
 refine Zc (ZV (cs := cat [[(vI p0.Kind)], [(vI p0.Number)], Flat.enc p0.Tag]) hE hM Za (dl rfl) rfl rfl ?_); intro b1 w a hM hE
 refine ZE hE hM Za (dl rfl) UY ?_; intro b3 w a hM hE
 refine Zf (Zc (ZE hE hM Za (dl rfl) UY ?_)); intro b5 w a hM hE
 refine Zf (Zc (Zg hE Za (dl rfl) rfl (fd179_0) ?_)); intro a hE
 refine Zq (v := (vI p0.Kind)) hE Za (dl rfl) rfl ty2 rfl (At.cat (pre := []) (hM.rawAt (pre := [_, _])) cl0) ?_; intro a hE
 refine Zg hE Za (dl rfl) rfl (fd146_0) ?_; intro a hE
 refine Zp (seg := [(vI p0.Kind)]) (cs' := cat [[(vI p0.Kind)], [(vI 0)], Flat.enc (Vector.replicate 32 (0 : UInt8))]) hE hM Za rfl rfl rfl ty2 rfl (WR (pre := []) cl0 rfl) (Flat.cell (p0.Kind : Int)) (YF (pre := []) cl0 rfl) ?_; intro w a hM hE
 refine Zf (Zc (Zg hE Za (dl rfl) rfl (fd179_1) ?_)); intro a hE
 refine Zq (v := (vI p0.Number)) hE Za (dl rfl) rfl ty2 rfl (At.cat (pre := [[(vI p0.Kind)]]) (hM.rawAt (pre := [_, _])) (cl1 (n := 1) (m := 0) rfl cl0)) ?_; intro a hE
 refine Zg hE Za (dl rfl) rfl (fd146_1) ?_; intro a hE
 refine Zp (seg := [(vI p0.Number)]) (cs' := cat [[(vI p0.Kind)], [(vI p0.Number)], Flat.enc (Vector.replicate 32 (0 : UInt8))]) hE hM Za rfl rfl rfl ty2 rfl (WR (pre := [[(vI p0.Kind)]]) (cl1 (n := 1) (m := 0) rfl cl0) rfl) (Flat.cell (p0.Number : Int)) (YF (pre := [[(vI p0.Kind)]]) (cl1 (n := 1) (m := 0) rfl cl0) rfl) ?_; intro w a hM hE
 refine Zf (Zc (Zg hE Za (dl rfl) rfl (fd179_2) ?_)); intro a hE
 refine Zm (cs := Flat.enc p0.Tag) hE Za (dl rfl) rfl ty25 rfl (At.cat (pre := [[(vI p0.Kind)], [(vI p0.Number)]]) (hM.rawAt (pre := [_, _])) (cl1 (n := 1) (m := 1) rfl (cl1 (n := 1) (m := 0) rfl cl0))) (Flat.len _) ?_; intro a hE
 obtain ⟨r7, e8, hF⟩ := bind_some hF
 refine Zs (vs := [(Value.agg (Flat.enc p0.Tag).toArray)]) hE Za (dl rfl) rfl cb21 (c_laws_toDigest _ p0.Tag r7 e8) ?_
 rintro v w a ⟨rfl, hK⟩ hE
 have hM := hM.keep hK
 refine Zg hE Za (dl rfl) rfl (fd146_2) ?_; intro a hE
 refine Zp (seg := Flat.enc r7) (cs' := cat [[(vI p0.Kind)], [(vI p0.Number)], Flat.enc r7]) hE hM Za rfl rfl rfl Z9 (Flat.len _) (WR (pre := [[(vI p0.Kind)], [(vI p0.Number)]]) (cl1 (n := 1) (m := 1) rfl (cl1 (n := 1) (m := 0) rfl cl0)) flq) (Flat.cell _) (YF (pre := [[(vI p0.Kind)], [(vI p0.Number)]]) (cl1 (n := 1) (m := 1) rfl (cl1 (n := 1) (m := 0) rfl cl0)) flq) ?_; intro w a hM hE
 refine Zf (Zc (Zm (cs := Flat.enc (⟨p0.Kind, p0.Number, r7⟩ : GEvent)) hE Za (dl rfl) rfl UY rfl (hM.rawAt (pre := [])) (ZB (cl1 (n := 1) (m := 33) rfl (cl1 (n := 1) (m := 32) rfl (cl1 (n := 32) (m := 0) (Flat.len _) cl0)))) ?_)); intro a hE
 have hM := hM.pull (pre := [_])
 refine Zp (seg := cat [[(vI ((⟨p0.Kind, p0.Number, r7⟩ : GEvent).Kind))], [(vI ((⟨p0.Kind, p0.Number, r7⟩ : GEvent).Number))], Flat.enc ((⟨p0.Kind, p0.Number, r7⟩ : GEvent).Tag)]) (cs' := cat [[(vI ((⟨p0.Kind, p0.Number, r7⟩ : GEvent).Kind))], [(vI ((⟨p0.Kind, p0.Number, r7⟩ : GEvent).Number))], Flat.enc ((⟨p0.Kind, p0.Number, r7⟩ : GEvent).Tag)]) hE hM Za rfl rfl rfl UY (ZB (cl1 (n := 1) (m := 33) rfl (cl1 (n := 1) (m := 32) rfl (cl1 (n := 32) (m := 0) (Flat.len _) cl0)))) (Nat.le_of_eq ((Nat.zero_add _).trans (Eq.trans (ZB (cl1 (n := 1) (m := 33) rfl (cl1 (n := 1) (m := 32) rfl (cl1 (n := 32) (m := 0) (Flat.len _) cl0)))) (Eq.symm (ZB (cl1 (n := 1) (m := 33) rfl (cl1 (n := 1) (m := 32) rfl (cl1 (n := 32) (m := 0) (Flat.len _) cl0)))))))) (WH (cc1 (Flat.cell ((⟨p0.Kind, p0.Number, r7⟩ : GEvent).Kind : Int)) (cc1 (Flat.cell ((⟨p0.Kind, p0.Number, r7⟩ : GEvent).Number : Int)) (cc1 (Flat.cell _) cc0)))) (Zl (Eq.trans (ZB (cl1 (n := 1) (m := 33) rfl (cl1 (n := 1) (m := 32) rfl (cl1 (n := 32) (m := 0) (Flat.len _) cl0)))) (Eq.symm (ZB (cl1 (n := 1) (m := 33) rfl (cl1 (n := 1) (m := 32) rfl (cl1 (n := 32) (m := 0) (Flat.len _) cl0))))))) ?_; intro w a hM hE
 refine Zf ?_
 have hr := Option.some.inj hF
 subst hr
 have hq9 : Yq Tryz.prog _ _ (.cell 2 146) _ := ZQ hE rfl UY rfl (hM.rawAt (pre := [])) (ZB (cl1 (n := 1) (m := 33) rfl (cl1 (n := 1) (m := 32) rfl (cl1 (n := 32) (m := 0) (Flat.len _) cl0)))) rfl
 have hM := M.fst (l := []) hM
 exact wp_ret (Zy hE rfl hq9 ⟨_, rfl, rfl, hM.kept⟩)
noncomputable def Up (p0 : (List GEvent)) (s10 : (List GEvent) × Int) : Option (Fl ((List GEvent) × Int) (List GEvent)) :=
 if (decide (s10.2 < (p0.length : Int))) = true then ((idx p0 s10.2).bind fun x17 => (Vb x17).bind fun r20 => (idx s10.1 s10.2).bind fun x22 => some (Fl.nx ((s10.1.set (s10.2).toNat r20), wr (s10.2 + 1)))) else (some (Fl.ex s10.1))
noncomputable def VK (p0 : (List GEvent)) : Option ((List GEvent)) :=
 (mkS 48 (⟨(0 : Int), (0 : Int), (Vector.replicate 32 (0 : UInt8))⟩ : GEvent) (p0.length : Int)).bind fun l1 => (ZJ (Up p0) (l1, 0) : Option ((List GEvent))).bind fun j5 => some j5
theorem c_laws_toEventS (w0 : World) (p0 : (List GEvent)) (v0_1 : Value) (hv0_1 : Ro w0 p0 [v0_1]) (r : (List GEvent)) (hF : VK p0 = some r) :
  Calls Tryz.prog 58 [v0_1].toArray w0 (fun en w' => ∃ v, en = .returned v ∧ (∃ (y1 : Value), v = y1 ∧ Fr w0 w' [osl NoB (r : List GEvent) y1] ∧ Kept (Old w0) w0 w')) := by
 refine ZA (n := 23) Tryz.func58 rfl rfl (Nat.le_of_ble_eq_true rfl) rfl ?_
 intro a hE
 have hM := M.start w0
 unfold VK at hF
 refine Zc (Ze hE Za (dl rfl) rfl ?_); intro a hE
 refine Zf (Zc (Zd hE Za (dl rfl) rfl ?_)); intro a hE
 refine Yb hE Za (dl rfl) rfl Tryz.underlying24 (hM.rd hv0_1) ?_; intro a hE
 obtain ⟨l1, e2, hF⟩ := bind_some hF
 refine s_make hE hM Za (dl rfl) rfl rfl Tryz.underlying34 UY rfl (by decide) (fun _ => sat_flat.2 ⟨rfl, rfl⟩) e2 ?_; intro u3 w a hM hE
 refine Ze hE Za (dl rfl) rfl ?_; intro a hE
 refine Zf (wp_seq (Zc (Ze hE Za (dl rfl) rfl ?_))); intro a hE
 refine Zf ?_
 obtain ⟨j5, hl6, hF7⟩ := bind_some hF
 refine ZS (fun a w => ∃ (u8 : Value), Env 23 a [(3, u8)] ∧ M (Old w0) w0 w [osl NoB (j5 : List GEvent) u8]) ?_ ?_
 ·skip
  refine wp_block ?_
  refine ZL (fun (s10 : (List GEvent) × Int) a w => ∃ (u11 : Value), Env 23 a [(0, v0_1), (3, u11), (4, (vI s10.2))] ∧ M (Old w0) w0 w [osl NoB (s10.1 : List GEvent) u11]) hl6 ⟨u3, hE.sub ⟨rfl, rfl, rfl, trivial⟩, hM⟩ ?_
  rintro s10 a w ⟨u11, hE, hM⟩ o15 hs13 hx14
  unfold Up at hs13
  refine wp_seq (Zc (Zd hE Za (dl rfl) rfl ?_)); intro a hE
  refine Zd hE Za (dl rfl) rfl ?_; intro a hE
  refine Yb hE Za (dl rfl) rfl Tryz.underlying24 (hM.rd hv0_1) ?_; intro a hE
  refine Zh hE Za (dl rfl) rfl rfl rfl ?_; intro a hE
  refine Zf ?_
  refine Zw hE rfl ?_ ?_
  ·intro hb16
   have hs13 := ZD hs13 hb16
   refine wp_skip (Zz (wp_seq (wp_block (wp_region_lit (Zd hE Za (dl rfl) rfl ?_))))); intro a hE
   refine Zd hE Za (dl rfl) rfl ?_; intro a hE
   refine Zd hE Za (dl rfl) rfl ?_; intro a hE
   refine Zd hE Za (dl rfl) rfl ?_; intro a hE
   obtain ⟨x17, e18, hs13⟩ := bind_some hs13
   have hi19 := ZY e18
   refine ZX hE Za (dl rfl) rfl rfl Tryz.underlying24 ty179 (hM.rd hv0_1) hi19.1 ?_; intro a hE
   refine Zm (cs := Flat.enc x17) hE Za (dl rfl) rfl ty179 rfl (Wh (hM.rd hv0_1) hi19.2) (ZB (cl1 (n := 1) (m := 33) rfl (cl1 (n := 1) (m := 32) rfl (cl1 (n := 32) (m := 0) (Flat.len _) cl0)))) ?_; intro a hE
   obtain ⟨r20, e21, hs13⟩ := bind_some hs13
   refine Zs (vs := [(Value.agg (Flat.enc x17).toArray)]) hE Za (dl rfl) rfl cb136 (c_laws_toEvent _ x17 r20 e21) ?_
   rintro v w a ⟨rfl, hK⟩ hE
   have hM := hM.keep hK
   obtain ⟨x22, e23, hs13⟩ := bind_some hs13
   have hi24 := ZY e23
   refine ZX hE Za (dl rfl) rfl rfl Tryz.underlying34 UY (hM.sl (pre := []) noB) hi24.1 ?_; intro a hE
   refine s_storeS (i := (s10.2).toNat) (k0 := 0) (seg := cat [[(vI r20.Kind)], [(vI r20.Number)], Flat.enc r20.Tag]) (xo := x22) (xn := r20) hE hM Za rfl rfl rfl UY (ZB (cl1 (n := 1) (m := 33) rfl (cl1 (n := 1) (m := 32) rfl (cl1 (n := 32) (m := 0) (Flat.len _) cl0)))) (WH (cc1 (Flat.cell (r20.Kind : Int)) (cc1 (Flat.cell (r20.Number : Int)) (cc1 (Flat.cell _) cc0)))) hi24.2 (fit_num (m := 34) (ZB (cl1 (n := 1) (m := 33) rfl (cl1 (n := 1) (m := 32) rfl (cl1 (n := 32) (m := 0) (Flat.len _) cl0)))) (by decide)) (Zl (Eq.trans (ZB (cl1 (n := 1) (m := 33) rfl (cl1 (n := 1) (m := 32) rfl (cl1 (n := 32) (m := 0) (Flat.len _) cl0)))) (Eq.symm (ZB (cl1 (n := 1) (m := 33) rfl (cl1 (n := 1) (m := 32) rfl (cl1 (n := 32) (m := 0) (Flat.len _) cl0))))))) ?_; intro w a hM hE
   refine Zk (Yl (Zz (wp_region_lit (Zd hE Za (dl rfl) rfl ?_)))); intro a hE
   refine Zh hE Za (dl rfl) rfl rfl rfl ?_; intro a hE
   refine Ze hE Za (dl rfl) rfl ?_; intro a hE
   refine Zk (Zn ?_)
   exact ⟨_, (Option.some.inj hs13).symm, u11, hE.sub ⟨rfl, rfl, rfl, trivial⟩, hM⟩
  ·intro hb16
   have hs13 := ZC hs13 hb16
   refine wp_exit (Zr (Zr (Yk ?_)))
   have ht25 := hx14 _ (Option.some.inj hs13).symm
   subst ht25
   refine Zn ?_
   exact ⟨u11, hE.sub ⟨rfl, trivial⟩, hM⟩
 ·skip
  rintro a w ⟨u8, hE, hM⟩
  refine Zz (Zc (Zd hE Za (dl rfl) rfl ?_)); intro a hE
  refine Ze hE Za (dl rfl) rfl ?_; intro a hE
  refine Zf ?_
  have hr := Option.some.inj hF7
  subst hr
  exact wp_ret (Zy hE rfl (Zu hE rfl) ⟨_, rfl, u8, rfl, hM.outF (Vm W2), hM.kept⟩)
noncomputable def Wc (p0 : GVault) : Option (GVault) :=
 (VA p0.Keys).bind fun r7 => (WY p0.Records).bind fun r10 => (VK p0.Events).bind fun r13 => (XJ p0.Head).bind fun r16 => some (⟨r7, p0.Next, r10, r13, r16⟩ : GVault)
theorem c_laws_toVault (w0 : World) (p0 : GVault) (v0_1 : Value) (hv0_1 : Ro w0 p0.Keys [v0_1]) (v0_2 : Value) (hv0_2 : Ro w0 p0.Records [v0_2]) (v0_3 : Value) (hv0_3 : Ro w0 p0.Events [v0_3]) (r : GVault) (hF : Wc p0 = some r) :
  Calls Tryz.prog 14 [(Value.agg (cat [[v0_1], [(vI p0.Next)], [v0_2], [v0_3], Flat.enc p0.Head]).toArray)].toArray w0 (fun en w' => ∃ v, en = .returned v ∧ (∃ (y1 : Value) (y2 : Value) (y3 : Value), v = (Value.agg (cat [[y1], [(vI r.Next)], [y2], [y3], Flat.enc r.Head]).toArray) ∧ Fr w0 w' [osl NoB (r.Keys : List (Vector UInt8 16)) y1, osl NoB (r.Records : List GRecord) y2, osl NoB (r.Events : List GEvent) y3] ∧ Kept (Old w0) w0 w')) := by
 refine ZA (n := 24) Tryz.func14 rfl rfl (Nat.le_of_ble_eq_true rfl) rfl ?_
 intro a hE
 have hM := M.start w0
 unfold Wc at hF
 refine Zc (ZV (cs := cat [[v0_1], [(vI p0.Next)], [v0_2], [v0_3], Flat.enc p0.Head]) hE hM Za (dl rfl) rfl rfl ?_); intro b1 w a hM hE
 refine ZE hE hM Za (dl rfl) ty36 ?_; intro b3 w a hM hE
 refine Zf (Zc (ZE hE hM Za (dl rfl) ty36 ?_)); intro b5 w a hM hE
 refine Zf (Zc (Zg hE Za (dl rfl) rfl (fd27_0) ?_)); intro a hE
 refine Zq (v := v0_1) hE Za (dl rfl) rfl ty22 rfl (At.cat (pre := []) (hM.rawAt (pre := [_, _])) cl0) ?_; intro a hE
 obtain ⟨r7, e8, hF⟩ := bind_some hF
 refine Zs (vs := [v0_1]) hE Za (dl rfl) rfl cb56 (c_laws_toBlockS _ p0.Keys v0_1 (hM.rdo hv0_1) r7 e8) ?_
 rintro u9 w a ⟨_, rfl, hFr, hK⟩ hE
 have hM := hM.add hK hFr
 refine Zg hE Za (dl rfl) rfl (fd36_0) ?_; intro a hE
 have hM := hM.pull (pre := [_])
 refine Zp (seg := [u9]) (cs' := cat [[u9], [(vI 0)], [(Value.slice none 0 0)], [(Value.slice none 0 0)], Flat.enc (Vector.replicate 32 (0 : UInt8))]) hE hM Za rfl rfl (Xt (hM.sl (pre := [_]) noB)) ty32 rfl (WR (pre := []) cl0 rfl) (Rep.cell (hM.sl (pre := [_]) noB)) (YF (pre := []) cl0 rfl) ?_; intro w a hM hE
 refine Zf (Zc (Zg hE Za (dl rfl) rfl (fd27_1) ?_)); intro a hE
 refine Zq (v := (vI p0.Next)) hE Za (dl rfl) rfl ty2 rfl (At.cat (pre := [[v0_1]]) (hM.rawAt (pre := [_, _, _])) (cl1 (n := 1) (m := 0) rfl cl0)) ?_; intro a hE
 refine Zg hE Za (dl rfl) rfl (fd36_1) ?_; intro a hE
 refine Zp (seg := [(vI p0.Next)]) (cs' := cat [[u9], [(vI p0.Next)], [(Value.slice none 0 0)], [(Value.slice none 0 0)], Flat.enc (Vector.replicate 32 (0 : UInt8))]) hE hM Za rfl rfl rfl ty2 rfl (WR (pre := [[u9]]) (cl1 (n := 1) (m := 0) rfl cl0) rfl) (Flat.cell (p0.Next : Int)) (YF (pre := [[u9]]) (cl1 (n := 1) (m := 0) rfl cl0) rfl) ?_; intro w a hM hE
 refine Zf (Zc (Zg hE Za (dl rfl) rfl (fd27_2) ?_)); intro a hE
 refine Zq (v := v0_2) hE Za (dl rfl) rfl ty23 rfl (At.cat (pre := [[v0_1], [(vI p0.Next)]]) (hM.rawAt (pre := [_, _, _])) (cl1 (n := 1) (m := 1) rfl (cl1 (n := 1) (m := 0) rfl cl0))) ?_; intro a hE
 obtain ⟨r10, e11, hF⟩ := bind_some hF
 refine Zs (vs := [v0_2]) hE Za (dl rfl) rfl cb57 (c_laws_toRecordS _ p0.Records v0_2 (hM.rdo hv0_2) r10 e11) ?_
 rintro u12 w a ⟨_, rfl, hFr, hK⟩ hE
 have hM := hM.add hK hFr
 refine Zg hE Za (dl rfl) rfl (U8) ?_; intro a hE
 have hM := hM.pull (pre := [_])
 refine Zp (seg := [u12]) (cs' := cat [[u9], [(vI p0.Next)], [u12], [(Value.slice none 0 0)], Flat.enc (Vector.replicate 32 (0 : UInt8))]) hE hM Za rfl rfl (Xt (hM.sl (pre := [_]) noB)) ty33 rfl (WR (pre := [[u9], [(vI p0.Next)]]) (cl1 (n := 1) (m := 1) rfl (cl1 (n := 1) (m := 0) rfl cl0)) rfl) (Rep.cell (hM.sl (pre := [_]) noB)) (YF (pre := [[u9], [(vI p0.Next)]]) (cl1 (n := 1) (m := 1) rfl (cl1 (n := 1) (m := 0) rfl cl0)) rfl) ?_; intro w a hM hE
 refine Zf (Zc (Zg hE Za (dl rfl) rfl (fd27_3) ?_)); intro a hE
 refine Zq (v := v0_3) hE Za (dl rfl) rfl ty24 rfl (At.cat (pre := [[v0_1], [(vI p0.Next)], [v0_2]]) (hM.rawAt (pre := [_, _, _, _])) (cl1 (n := 1) (m := 2) rfl (cl1 (n := 1) (m := 1) rfl (cl1 (n := 1) (m := 0) rfl cl0)))) ?_; intro a hE
 obtain ⟨r13, e14, hF⟩ := bind_some hF
 refine Zs (vs := [v0_3]) hE Za (dl rfl) rfl cb58 (c_laws_toEventS _ p0.Events v0_3 (hM.rdo hv0_3) r13 e14) ?_
 rintro u15 w a ⟨_, rfl, hFr, hK⟩ hE
 have hM := hM.add hK hFr
 refine Zg hE Za (dl rfl) rfl (fd36_3) ?_; intro a hE
 have hM := hM.pull (pre := [_])
 refine Zp (seg := [u15]) (cs' := cat [[u9], [(vI p0.Next)], [u12], [u15], Flat.enc (Vector.replicate 32 (0 : UInt8))]) hE hM Za rfl rfl (Xt (hM.sl (pre := [_]) noB)) ty34 rfl (WR (pre := [[u9], [(vI p0.Next)], [u12]]) (cl1 (n := 1) (m := 2) rfl (cl1 (n := 1) (m := 1) rfl (cl1 (n := 1) (m := 0) rfl cl0))) rfl) (Rep.cell (hM.sl (pre := [_]) noB)) (YF (pre := [[u9], [(vI p0.Next)], [u12]]) (cl1 (n := 1) (m := 2) rfl (cl1 (n := 1) (m := 1) rfl (cl1 (n := 1) (m := 0) rfl cl0))) rfl) ?_; intro w a hM hE
 refine Zf (Zc (Zg hE Za (dl rfl) rfl (fd27_4) ?_)); intro a hE
 refine Zm (cs := Flat.enc p0.Head) hE Za (dl rfl) rfl ty25 rfl (At.cat (pre := [[v0_1], [(vI p0.Next)], [v0_2], [v0_3]]) (hM.rawAt (pre := [_, _, _, _, _])) (cl1 (n := 1) (m := 3) rfl (cl1 (n := 1) (m := 2) rfl (cl1 (n := 1) (m := 1) rfl (cl1 (n := 1) (m := 0) rfl cl0))))) (Flat.len _) ?_; intro a hE
 obtain ⟨r16, e17, hF⟩ := bind_some hF
 refine Zs (vs := [(Value.agg (Flat.enc p0.Head).toArray)]) hE Za (dl rfl) rfl cb21 (c_laws_toDigest _ p0.Head r16 e17) ?_
 rintro v w a ⟨rfl, hK⟩ hE
 have hM := hM.keep hK
 refine Zg hE Za (dl rfl) rfl (fd36_4) ?_; intro a hE
 refine Zp (seg := Flat.enc r16) (cs' := cat [[u9], [(vI p0.Next)], [u12], [u15], Flat.enc r16]) hE hM Za rfl rfl rfl Z9 (Flat.len _) (WR (pre := [[u9], [(vI p0.Next)], [u12], [u15]]) (cl1 (n := 1) (m := 3) rfl (cl1 (n := 1) (m := 2) rfl (cl1 (n := 1) (m := 1) rfl (cl1 (n := 1) (m := 0) rfl cl0)))) flq) (Flat.cell _) (YF (pre := [[u9], [(vI p0.Next)], [u12], [u15]]) (cl1 (n := 1) (m := 3) rfl (cl1 (n := 1) (m := 2) rfl (cl1 (n := 1) (m := 1) rfl (cl1 (n := 1) (m := 0) rfl cl0)))) flq) ?_; intro w a hM hE
 refine Zf (Zc (Zm (cs := cat [[u9], [(vI p0.Next)], [u12], [u15], Flat.enc r16]) hE Za (dl rfl) rfl ty36 rfl (hM.rawAt (pre := [])) (ZB (cl1 (n := 1) (m := 35) rfl (cl1 (n := 1) (m := 34) rfl (cl1 (n := 1) (m := 33) rfl (cl1 (n := 1) (m := 32) rfl (cl1 (n := 32) (m := 0) (Flat.len _) cl0)))))) ?_)); intro a hE
 have hM := hM.pull (pre := [_, _, _, _])
 refine Zp (seg := cat [[u9], [(vI p0.Next)], [u12], [u15], Flat.enc r16]) (cs' := cat [[u9], [(vI p0.Next)], [u12], [u15], Flat.enc r16]) hE hM Za rfl rfl rfl ty36 (ZB (cl1 (n := 1) (m := 35) rfl (cl1 (n := 1) (m := 34) rfl (cl1 (n := 1) (m := 33) rfl (cl1 (n := 1) (m := 32) rfl (cl1 (n := 32) (m := 0) (Flat.len _) cl0)))))) (Nat.le_of_eq ((Nat.zero_add _).trans (Eq.trans (ZB (cl1 (n := 1) (m := 35) rfl (cl1 (n := 1) (m := 34) rfl (cl1 (n := 1) (m := 33) rfl (cl1 (n := 1) (m := 32) rfl (cl1 (n := 32) (m := 0) (Flat.len _) cl0)))))) (Eq.symm (ZB (cl1 (n := 1) (m := 35) rfl (cl1 (n := 1) (m := 34) rfl (cl1 (n := 1) (m := 33) rfl (cl1 (n := 1) (m := 32) rfl (cl1 (n := 32) (m := 0) (Flat.len _) cl0)))))))))) (WH (cc1 (Rep.cell (hM.sl (pre := [_, _, _, _]) noB)) (cc1 (Flat.cell (p0.Next : Int)) (cc1 (Rep.cell (hM.sl (pre := [_, _, _]) noB)) (cc1 (Rep.cell (hM.sl (pre := [_, _]) noB)) (cc1 (Flat.cell _) cc0)))))) (Zl (Eq.trans (ZB (cl1 (n := 1) (m := 35) rfl (cl1 (n := 1) (m := 34) rfl (cl1 (n := 1) (m := 33) rfl (cl1 (n := 1) (m := 32) rfl (cl1 (n := 32) (m := 0) (Flat.len _) cl0)))))) (Eq.symm (ZB (cl1 (n := 1) (m := 35) rfl (cl1 (n := 1) (m := 34) rfl (cl1 (n := 1) (m := 33) rfl (cl1 (n := 1) (m := 32) rfl (cl1 (n := 32) (m := 0) (Flat.len _) cl0))))))))) ?_; intro w a hM hE
 refine Zf ?_
 have hr := Option.some.inj hF
 subst hr
 have hq18 : Yq Tryz.prog _ _ (.cell 2 36) _ := ZQ hE rfl ty36 rfl (hM.rawAt (pre := [])) (ZB (cl1 (n := 1) (m := 35) rfl (cl1 (n := 1) (m := 34) rfl (cl1 (n := 1) (m := 33) rfl (cl1 (n := 1) (m := 32) rfl (cl1 (n := 32) (m := 0) (Flat.len _) cl0)))))) rfl
 have hM := hM.pull (pre := [_, _])
 have hM := hM.pull (pre := [_, _, _])
 have hM := hM.pull (pre := [_, _, _, _])
 have hM := M.fst (l := [_, _, _]) hM
 exact wp_ret (Zy hE rfl hq18 ⟨_, rfl, u9, u12, u15, rfl, hM.outF (Vm (Vm (Vm W2))), hM.kept⟩)
noncomputable def WB (p0 : Int) (p1 : Int) (p2 : Int) : Option (Bool) :=
 (if (decide (p0 ≥ p1)) = true then (some (decide (p0 ≤ p2))) else (some false) : Option (Bool)).bind fun j1 => some j1
theorem c_spec_l01In (w0 : World) (p0 : Int) (p1 : Int) (p2 : Int) (r : Bool) (hF : WB p0 p1 p2 = some r) :
  Calls Tryz.prog 128 [(vI p0), (vI p1), (vI p2)].toArray w0 (fun en w' => ∃ v, en = .returned v ∧ (v = (vT r) ∧ Kept (Old w0) w0 w')) := by
 refine ZA (n := 15) Tryz.func128 rfl rfl (Nat.le_of_ble_eq_true rfl) rfl ?_
 intro a hE
 have hM := M.start w0
 unfold WB at hF
 refine Zc (Ze hE Za (dl rfl) rfl ?_); intro a hE
 refine Zf ?_
 obtain ⟨j1, hl2, hF3⟩ := bind_some hF
 refine ZR (fun a w => Env 15 a [(6, (vT j1))] ∧ M (Old w0) w0 w []) ?_ ?_
 ·skip
  refine wp_region_lit (Zd hE Za (dl rfl) rfl ?_); intro a hE
  refine Zd hE Za (dl rfl) rfl ?_; intro a hE
  refine Zh hE Za (dl rfl) rfl rfl rfl ?_; intro a hE
  refine Zd hE Za (dl rfl) rfl ?_; intro a hE
  refine Wj (decide (p0 ≥ p1)) (fun hb4 => ?_) (fun hb4 => ?_)
  ·have hl2 := ZD hl2 hb4
   refine Zd hE (Zv hE rfl (lkb rfl hb4)) (by decide) rfl ?_; intro a hE
   refine Zd hE (Zv hE rfl (lkb rfl hb4)) (by decide) rfl ?_; intro a hE
   refine Zh hE (Zv hE rfl (lkb rfl hb4)) (by decide) rfl rfl rfl ?_; intro a hE
   refine Ya hE Za (dl rfl) (lkb rfl hb4) rfl ?_; intro a hE
   refine Ze hE Za (dl rfl) rfl ?_; intro a hE
   refine Zk ?_
   have ht5 := Option.some.inj hl2
   subst ht5
   refine Zn ?_
   exact ⟨hE.sub ⟨rfl, trivial⟩, hM⟩
  ·have hl2 := ZC hl2 hb4
   refine Zt hE rfl (lkb rfl hb4) rfl (by decide) ?_; intro a hE
   refine Zt hE rfl (lkb rfl hb4) rfl (by decide) ?_; intro a hE
   refine Zt hE rfl (lkb rfl hb4) rfl (by decide) ?_; intro a hE
   refine YT hE Za (dl rfl) (lkb rfl hb4) rfl ?_; intro a hE
   refine Ze hE Za (dl rfl) rfl ?_; intro a hE
   refine Zk ?_
   have ht6 := Option.some.inj hl2
   subst ht6
   refine Zn ?_
   exact ⟨hE.sub ⟨rfl, trivial⟩, hM⟩
 ·skip
  rintro a w ⟨hE, hM⟩
  have hr := Option.some.inj hF3
  subst hr
  exact wp_ret (Zy hE rfl (Zu hE rfl) ⟨_, rfl, rfl, hM.kept⟩)
noncomputable def VL (p0 : GEvent) : Option (Bool) :=
 ((WB p0.Kind 1 4).bind fun r6 => if r6 = true then ((WB p0.Number 0 1000000).bind fun r9 => some r9) else (some false) : Option (Bool)).bind fun j3 => some j3
theorem c_spec_l12Event (w0 : World) (p0 : GEvent) (r : Bool) (hF : VL p0 = some r) :
  Calls Tryz.prog 129 [(Value.agg (Flat.enc p0).toArray)].toArray w0 (fun en w' => ∃ v, en = .returned v ∧ (v = (vT r) ∧ Kept (Old w0) w0 w')) := by
 refine ZA (n := 11) Tryz.func129 rfl rfl (Nat.le_of_ble_eq_true rfl) rfl ?_
 intro a hE
 have hM := M.start w0
 unfold VL at hF
 refine Zc (ZV (cs := cat [[(vI p0.Kind)], [(vI p0.Number)], Flat.enc p0.Tag]) hE hM Za (dl rfl) rfl rfl ?_); intro b1 w a hM hE
 refine Ze hE Za (dl rfl) rfl ?_; intro a hE
 refine Zf ?_
 obtain ⟨j3, hl4, hF5⟩ := bind_some hF
 refine ZR (fun a w => Env 11 a [(2, (vT j3))] ∧ M (Old w0) w0 w []) ?_ ?_
 ·skip
  refine wp_region_lit (Zg hE Za (dl rfl) rfl (fd146_0) ?_); intro a hE
  refine Zq (v := (vI p0.Kind)) hE Za (dl rfl) rfl ty2 rfl (At.cat (pre := []) (hM.rawAt (pre := [])) cl0) ?_; intro a hE
  obtain ⟨r6, e7, hl4⟩ := bind_some hl4
  refine Zs (vs := [(vI p0.Kind), (vI 1), (vI 4)]) hE Za (dl rfl) rfl cb128 (c_spec_l01In _ p0.Kind 1 4 r6 e7) ?_
  rintro v w a ⟨rfl, hK⟩ hE
  have hM := hM.keep hK
  refine Zd hE Za (dl rfl) rfl ?_; intro a hE
  refine Wj r6 (fun hb8 => ?_) (fun hb8 => ?_)
  ·have hl4 := ZD hl4 hb8
   refine Zg hE (Zv hE rfl (lkb rfl hb8)) (by decide) rfl (fd146_1) ?_; intro a hE
   refine Zq (v := (vI p0.Number)) hE (Zv hE rfl (lkb rfl hb8)) (by decide) rfl ty2 rfl (At.cat (pre := [[(vI p0.Kind)]]) (hM.rawAt (pre := [])) (cl1 (n := 1) (m := 0) rfl cl0)) ?_; intro a hE
   obtain ⟨r9, e10, hl4⟩ := bind_some hl4
   refine Zs (vs := [(vI p0.Number), (vI 0), (vI 1000000)]) hE (Zv hE rfl (lkb rfl hb8)) (by decide) rfl cb128 (c_spec_l01In _ p0.Number 0 1000000 r9 e10) ?_
   rintro v w a ⟨rfl, hK⟩ hE
   have hM := hM.keep hK
   refine Ya hE Za (dl rfl) (lkb rfl hb8) rfl ?_; intro a hE
   refine Ze hE Za (dl rfl) rfl ?_; intro a hE
   refine Zk ?_
   have ht11 := Option.some.inj hl4
   subst ht11
   refine Zn ?_
   have hM := M.fst (l := []) hM
   exact ⟨hE.sub ⟨rfl, trivial⟩, hM⟩
  ·have hl4 := ZC hl4 hb8
   refine Zt hE rfl (lkb rfl hb8) rfl (by decide) ?_; intro a hE
   refine Zt hE rfl (lkb rfl hb8) rfl (by decide) ?_; intro a hE
   refine Zt hE rfl (lkb rfl hb8) rfl (by decide) ?_; intro a hE
   refine YT hE Za (dl rfl) (lkb rfl hb8) rfl ?_; intro a hE
   refine Ze hE Za (dl rfl) rfl ?_; intro a hE
   refine Zk ?_
   have ht12 := Option.some.inj hl4
   subst ht12
   refine Zn ?_
   have hM := M.fst (l := []) hM
   exact ⟨hE.sub ⟨rfl, trivial⟩, hM⟩
 ·skip
  rintro a w ⟨hE, hM⟩
  have hr := Option.some.inj hF5
  subst hr
  exact wp_ret (Zy hE rfl (Zu hE rfl) ⟨_, rfl, rfl, hM.kept⟩)
noncomputable def VO (p0 : GVault) (s22 : Int × Int) : Option (Fl (Int × Int) (Fl Unit Bool)) :=
 if (decide (s22.2 < (p0.Records.length : Int))) = true then ((idx p0.Records s22.2).bind fun x27 => (if (decide (x27.Number ≤ s22.1)) = true then (some true) else (if (decide (x27.Number ≥ p0.Next)) = true then (some true) else ((WB x27.Version 0 (wr ((p0.Keys.length : Int) - 1))).bind fun r46 => if (!r46) = true then (some true) else (if (decide ((x27.Label.length : Int) > 32)) = true then (some true) else (some (decide ((x27.Body.length : Int) > 200)))))) : Option (Bool)).bind fun j39 => if j39 = true then (some (Fl.ex (Fl.ex false))) else (some (Fl.nx (x27.Number, wr (s22.2 + 1))))) else (some (Fl.ex (Fl.nx ())))
noncomputable def UC (p0 : GVault) (s60 : Int) : Option (Fl Int (Fl Unit Bool)) :=
 if (decide (s60 < (p0.Events.length : Int))) = true then ((idx p0.Events s60).bind fun x65 => (VL x65).bind fun r68 => if (!r68) = true then (some (Fl.ex (Fl.ex false))) else (some (Fl.nx (wr (s60 + 1))))) else (some (Fl.ex (Fl.nx ())))
noncomputable def U9 (p0 : GVault) : Option (Bool) :=
 (if (decide ((p0.Keys.length : Int) < 1)) = true then (some true) else (if (decide ((p0.Keys.length : Int) > 8)) = true then (some true) else ((WB p0.Next 1 1000000).bind fun r10 => if (!r10) = true then (some true) else (if (decide ((p0.Records.length : Int) > 12)) = true then (some true) else (some (decide ((p0.Events.length : Int) > 60)))))) : Option (Bool)).bind fun j3 => if j3 = true then (some false) else ((ZJ (VO p0) (0, 0) : Option (Fl Unit Bool)).bind fun j18 => j18.el (fun s21 => (ZJ (UC p0) 0 : Option (Fl Unit Bool)).bind fun j56 => j56.el (fun s59 => some true) (fun r => some r)) (fun r => some r))
theorem c_spec_l12Is (w0 : World) (p0 : GVault) (v0_1 : Value) (hv0_1 : Ro w0 p0.Keys [v0_1]) (v0_2 : Value) (hv0_2 : Ro w0 p0.Records [v0_2]) (v0_3 : Value) (hv0_3 : Ro w0 p0.Events [v0_3]) (r : Bool) (hF : U9 p0 = some r) :
  Calls Tryz.prog 53 [(Value.agg (cat [[v0_1], [(vI p0.Next)], [v0_2], [v0_3], Flat.enc p0.Head]).toArray)].toArray w0 (fun en w' => ∃ v, en = .returned v ∧ (v = (vT r) ∧ Kept (Old w0) w0 w')) := by
 refine ZA (n := 96) Tryz.func53 rfl rfl (Nat.le_of_ble_eq_true rfl) rfl ?_
 intro a hE
 have hM := M.start w0
 unfold U9 at hF
 refine Zc (ZV (cs := cat [[v0_1], [(vI p0.Next)], [v0_2], [v0_3], Flat.enc p0.Head]) hE hM Za (dl rfl) rfl rfl ?_); intro b1 w a hM hE
 refine Ze hE Za (dl rfl) rfl ?_; intro a hE
 refine Zf (wp_seq ?_)
 obtain ⟨j3, hl4, hF5⟩ := bind_some hF
 refine ZR (fun a w => Env 96 a [(1, (ptr b1 0)), (34, (vT j3))] ∧ M (Old w0) w0 w [raw b1 (cat [[v0_1], [(vI p0.Next)], [v0_2], [v0_3], Flat.enc p0.Head])]) ?_ ?_
 ·skip
  refine wp_region_lit (Zg hE Za (dl rfl) rfl (fd36_0) ?_); intro a hE
  refine Zq (v := v0_1) hE Za (dl rfl) rfl ty32 rfl (At.cat (pre := []) (hM.rawAt (pre := [])) cl0) ?_; intro a hE
  refine Yb hE Za (dl rfl) rfl Tryz.underlying32 (hM.rd hv0_1) ?_; intro a hE
  refine Zh hE Za (dl rfl) rfl rfl rfl ?_; intro a hE
  refine Zd hE Za (dl rfl) rfl ?_; intro a hE
  refine Wj (decide ((p0.Keys.length : Int) < 1)) (fun hb6 => ?_) (fun hb6 => ?_)
  ·have hl4 := ZD hl4 hb6
   refine Zt hE rfl (lkb rfl hb6) rfl (by decide) ?_; intro a hE
   refine Zt hE rfl (lkb rfl hb6) rfl (by decide) ?_; intro a hE
   refine Zt hE rfl (lkb rfl hb6) rfl (by decide) ?_; intro a hE
   refine Zt hE rfl (lkb rfl hb6) rfl (by decide) ?_; intro a hE
   refine Ya hE Za (dl rfl) (lkb rfl hb6) rfl ?_; intro a hE
   refine Zd hE Za (dl rfl) rfl ?_; intro a hE
   refine Zt hE rfl rfl rfl (by decide) ?_; intro a hE
   refine Zt hE rfl rfl rfl (by decide) ?_; intro a hE
   refine Zt hE rfl rfl rfl (by decide) ?_; intro a hE
   refine Zt hE rfl rfl rfl (by decide) ?_; intro a hE
   refine Ya hE Za (dl rfl) rfl rfl ?_; intro a hE
   refine Zd hE Za (dl rfl) rfl ?_; intro a hE
   refine Zt hE rfl rfl rfl (by decide) ?_; intro a hE
   refine Zt hE rfl rfl rfl (by decide) ?_; intro a hE
   refine Zt hE rfl rfl rfl (by decide) ?_; intro a hE
   refine Zt hE rfl rfl rfl (by decide) ?_; intro a hE
   refine Ya hE Za (dl rfl) rfl rfl ?_; intro a hE
   refine Zd hE Za (dl rfl) rfl ?_; intro a hE
   refine Zt hE rfl rfl rfl (by decide) ?_; intro a hE
   refine Zt hE rfl rfl rfl (by decide) ?_; intro a hE
   refine Zt hE rfl rfl rfl (by decide) ?_; intro a hE
   refine Zt hE rfl rfl rfl (by decide) ?_; intro a hE
   refine Ya hE Za (dl rfl) rfl rfl ?_; intro a hE
   refine Zk ?_
   have ht7 := Option.some.inj hl4
   subst ht7
   refine Zn ?_
   exact ⟨hE.sub ⟨rfl, rfl, trivial⟩, hM⟩
  ·have hl4 := ZC hl4 hb6
   refine Zg hE (Zv hE rfl (lkb rfl hb6)) (by decide) rfl (fd36_0) ?_; intro a hE
   refine Zq (v := v0_1) hE (Zv hE rfl (lkb rfl hb6)) (by decide) rfl ty32 rfl (At.cat (pre := []) (hM.rawAt (pre := [])) cl0) ?_; intro a hE
   refine Yb hE (Zv hE rfl (lkb rfl hb6)) (by decide) rfl Tryz.underlying32 (hM.rd hv0_1) ?_; intro a hE
   refine Zh hE (Zv hE rfl (lkb rfl hb6)) (by decide) rfl rfl rfl ?_; intro a hE
   refine YT hE Za (dl rfl) (lkb rfl hb6) rfl ?_; intro a hE
   refine Zd hE Za (dl rfl) rfl ?_; intro a hE
   refine Wj (decide ((p0.Keys.length : Int) > 8)) (fun hb8 => ?_) (fun hb8 => ?_)
   ·have hl4 := ZD hl4 hb8
    refine Zt hE rfl (lkb rfl hb8) rfl (by decide) ?_; intro a hE
    refine Zt hE rfl (lkb rfl hb8) rfl (by decide) ?_; intro a hE
    refine Zt hE rfl (lkb rfl hb8) rfl (by decide) ?_; intro a hE
    refine Zt hE rfl (lkb rfl hb8) rfl (by decide) ?_; intro a hE
    refine Ya hE Za (dl rfl) (lkb rfl hb8) rfl ?_; intro a hE
    refine Zd hE Za (dl rfl) rfl ?_; intro a hE
    refine Zt hE rfl rfl rfl (by decide) ?_; intro a hE
    refine Zt hE rfl rfl rfl (by decide) ?_; intro a hE
    refine Zt hE rfl rfl rfl (by decide) ?_; intro a hE
    refine Zt hE rfl rfl rfl (by decide) ?_; intro a hE
    refine Ya hE Za (dl rfl) rfl rfl ?_; intro a hE
    refine Zd hE Za (dl rfl) rfl ?_; intro a hE
    refine Zt hE rfl rfl rfl (by decide) ?_; intro a hE
    refine Zt hE rfl rfl rfl (by decide) ?_; intro a hE
    refine Zt hE rfl rfl rfl (by decide) ?_; intro a hE
    refine Zt hE rfl rfl rfl (by decide) ?_; intro a hE
    refine Ya hE Za (dl rfl) rfl rfl ?_; intro a hE
    refine Zk ?_
    have ht9 := Option.some.inj hl4
    subst ht9
    refine Zn ?_
    exact ⟨hE.sub ⟨rfl, rfl, trivial⟩, hM⟩
   ·have hl4 := ZC hl4 hb8
    refine Zg hE (Zv hE rfl (lkb rfl hb8)) (by decide) rfl (fd36_1) ?_; intro a hE
    refine Zq (v := (vI p0.Next)) hE (Zv hE rfl (lkb rfl hb8)) (by decide) rfl ty2 rfl (At.cat (pre := [[v0_1]]) (hM.rawAt (pre := [])) (cl1 (n := 1) (m := 0) rfl cl0)) ?_; intro a hE
    obtain ⟨r10, e11, hl4⟩ := bind_some hl4
    refine Zs (vs := [(vI p0.Next), (vI 1), (vI 1000000)]) hE (Zv hE rfl (lkb rfl hb8)) (by decide) rfl cb128 (c_spec_l01In _ p0.Next 1 1000000 r10 e11) ?_
    rintro v w a ⟨rfl, hK⟩ hE
    have hM := hM.keep hK
    refine WF hE (Zv hE rfl (lkb rfl hb8)) (by decide) rfl ?_; intro a hE
    refine YT hE Za (dl rfl) (lkb rfl hb8) rfl ?_; intro a hE
    refine Zd hE Za (dl rfl) rfl ?_; intro a hE
    refine Wj (!r10) (fun hb12 => ?_) (fun hb12 => ?_)
    ·have hl4 := ZD hl4 hb12
     refine Zt hE rfl (lkb rfl hb12) rfl (by decide) ?_; intro a hE
     refine Zt hE rfl (lkb rfl hb12) rfl (by decide) ?_; intro a hE
     refine Zt hE rfl (lkb rfl hb12) rfl (by decide) ?_; intro a hE
     refine Zt hE rfl (lkb rfl hb12) rfl (by decide) ?_; intro a hE
     refine Ya hE Za (dl rfl) (lkb rfl hb12) rfl ?_; intro a hE
     refine Zd hE Za (dl rfl) rfl ?_; intro a hE
     refine Zt hE rfl rfl rfl (by decide) ?_; intro a hE
     refine Zt hE rfl rfl rfl (by decide) ?_; intro a hE
     refine Zt hE rfl rfl rfl (by decide) ?_; intro a hE
     refine Zt hE rfl rfl rfl (by decide) ?_; intro a hE
     refine Ya hE Za (dl rfl) rfl rfl ?_; intro a hE
     refine Zk ?_
     have ht13 := Option.some.inj hl4
     subst ht13
     refine Zn ?_
     exact ⟨hE.sub ⟨rfl, rfl, trivial⟩, hM⟩
    ·have hl4 := ZC hl4 hb12
     refine Zg hE (Zv hE rfl (lkb rfl hb12)) (by decide) rfl (U8) ?_; intro a hE
     refine Zq (v := v0_2) hE (Zv hE rfl (lkb rfl hb12)) (by decide) rfl ty33 rfl (At.cat (pre := [[v0_1], [(vI p0.Next)]]) (hM.rawAt (pre := [])) (cl1 (n := 1) (m := 1) rfl (cl1 (n := 1) (m := 0) rfl cl0))) ?_; intro a hE
     refine Yb hE (Zv hE rfl (lkb rfl hb12)) (by decide) rfl Tryz.underlying33 (hM.rd hv0_2) ?_; intro a hE
     refine Zh hE (Zv hE rfl (lkb rfl hb12)) (by decide) rfl rfl rfl ?_; intro a hE
     refine YT hE Za (dl rfl) (lkb rfl hb12) rfl ?_; intro a hE
     refine Zd hE Za (dl rfl) rfl ?_; intro a hE
     refine Wj (decide ((p0.Records.length : Int) > 12)) (fun hb14 => ?_) (fun hb14 => ?_)
     ·have hl4 := ZD hl4 hb14
      refine Zt hE rfl (lkb rfl hb14) rfl (by decide) ?_; intro a hE
      refine Zt hE rfl (lkb rfl hb14) rfl (by decide) ?_; intro a hE
      refine Zt hE rfl (lkb rfl hb14) rfl (by decide) ?_; intro a hE
      refine Zt hE rfl (lkb rfl hb14) rfl (by decide) ?_; intro a hE
      refine Ya hE Za (dl rfl) (lkb rfl hb14) rfl ?_; intro a hE
      refine Zk ?_
      have ht15 := Option.some.inj hl4
      subst ht15
      refine Zn ?_
      exact ⟨hE.sub ⟨rfl, rfl, trivial⟩, hM⟩
     ·have hl4 := ZC hl4 hb14
      refine Zg hE (Zv hE rfl (lkb rfl hb14)) (by decide) rfl (fd36_3) ?_; intro a hE
      refine Zq (v := v0_3) hE (Zv hE rfl (lkb rfl hb14)) (by decide) rfl ty34 rfl (At.cat (pre := [[v0_1], [(vI p0.Next)], [v0_2]]) (hM.rawAt (pre := [])) (cl1 (n := 1) (m := 2) rfl (cl1 (n := 1) (m := 1) rfl (cl1 (n := 1) (m := 0) rfl cl0)))) ?_; intro a hE
      refine Yb hE (Zv hE rfl (lkb rfl hb14)) (by decide) rfl Tryz.underlying34 (hM.rd hv0_3) ?_; intro a hE
      refine Zh hE (Zv hE rfl (lkb rfl hb14)) (by decide) rfl rfl rfl ?_; intro a hE
      refine YT hE Za (dl rfl) (lkb rfl hb14) rfl ?_; intro a hE
      refine Zk ?_
      have ht16 := Option.some.inj hl4
      subst ht16
      refine Zn ?_
      exact ⟨hE.sub ⟨rfl, rfl, trivial⟩, hM⟩
 ·skip
  rintro a w ⟨hE, hM⟩
  refine Zw hE rfl ?_ ?_
  ·intro hb17
   have hF5 := ZD hF5 hb17
   refine Zc (Ze hE Za (dl rfl) rfl ?_); intro a hE
   refine Zf ?_
   have hr := Option.some.inj hF5
   subst hr
   have hM := M.fst (l := []) hM
   exact wp_ret (ZG (Zy hE rfl (Zu hE rfl) ⟨_, rfl, rfl, hM.kept⟩))
  ·intro hb17
   have hF5 := ZC hF5 hb17
   refine wp_skip (Zz (Zc (Ze hE Za (dl rfl) rfl ?_))); intro a hE
   refine Zf (wp_seq (Zc (Ze hE Za (dl rfl) rfl ?_))); intro a hE
   refine Zf ?_
   obtain ⟨j18, hl19, hF20⟩ := bind_some hF5
   refine ZS (fun a w => ∃ s21 : Unit, j18 = Fl.nx s21 ∧ Env 96 a [(1, (ptr b1 0))] ∧ M (Old w0) w0 w [raw b1 (cat [[v0_1], [(vI p0.Next)], [v0_2], [v0_3], Flat.enc p0.Head])]) ?_ ?_
   ·skip
    refine wp_block ?_
    refine ZL (fun (s22 : Int × Int) a w => Env 96 a [(1, (ptr b1 0)), (3, (vI s22.1)), (4, (vI s22.2))] ∧ M (Old w0) w0 w [raw b1 (cat [[v0_1], [(vI p0.Next)], [v0_2], [v0_3], Flat.enc p0.Head])]) hl19 ⟨hE.sub ⟨rfl, rfl, rfl, trivial⟩, hM⟩ ?_
    rintro s22 a w ⟨hE, hM⟩ o25 hs23 hx24
    unfold VO at hs23
    refine wp_seq (Zc (Zd hE Za (dl rfl) rfl ?_)); intro a hE
    refine Zg hE Za (dl rfl) rfl (U8) ?_; intro a hE
    refine Zq (v := v0_2) hE Za (dl rfl) rfl ty33 rfl (At.cat (pre := [[v0_1], [(vI p0.Next)]]) (hM.rawAt (pre := [])) (cl1 (n := 1) (m := 1) rfl (cl1 (n := 1) (m := 0) rfl cl0))) ?_; intro a hE
    refine Yb hE Za (dl rfl) rfl Tryz.underlying33 (hM.rd hv0_2) ?_; intro a hE
    refine Zh hE Za (dl rfl) rfl rfl rfl ?_; intro a hE
    refine Zf ?_
    refine Zw hE rfl ?_ ?_
    ·intro hb26
     have hs23 := ZD hs23 hb26
     refine wp_skip (Zz (wp_seq (wp_block (Zc (Zg hE Za (dl rfl) rfl (U8) ?_))))); intro a hE
     refine Zq (v := v0_2) hE Za (dl rfl) rfl ty33 rfl (At.cat (pre := [[v0_1], [(vI p0.Next)]]) (hM.rawAt (pre := [])) (cl1 (n := 1) (m := 1) rfl (cl1 (n := 1) (m := 0) rfl cl0))) ?_; intro a hE
     refine Zd hE Za (dl rfl) rfl ?_; intro a hE
     obtain ⟨x27, e28, hs23⟩ := bind_some hs23
     have hi29 := ZY e28
     refine ZX hE Za (dl rfl) rfl rfl Tryz.underlying33 Ug (hM.rd hv0_2) hi29.1 ?_; intro a hE
     obtain ⟨cs30, hs31, hA32⟩ := Uf hv0_2 hi29.2 -- ^
     obtain ⟨u33, u35, rfl, h34, h36⟩ := X2 hs31 -- ^
     refine Zm (cs := cat [[(vI x27.Number)], [(vI x27.Version)], Flat.enc x27.Nonce, [u33], [u35], Flat.enc x27.Tag]) hE Za (dl rfl) rfl Ug rfl (hM.atk hA32 (sl_blk hv0_2 hi29.2)) (ZB (cl1 (n := 1) (m := 51) rfl (cl1 (n := 1) (m := 50) rfl (cl1 (n := 16) (m := 34) (Flat.len _) (cl1 (n := 1) (m := 33) rfl (cl1 (n := 1) (m := 32) rfl (cl1 (n := 32) (m := 0) (Flat.len _) cl0))))))) ?_; intro a hE
     refine ZE hE hM Za (dl rfl) Ug ?_; intro b37 w a hM hE
     refine Zp (seg := cat [[(vI x27.Number)], [(vI x27.Version)], Flat.enc x27.Nonce, [u33], [u35], Flat.enc x27.Tag]) (cs' := cat [[(vI x27.Number)], [(vI x27.Version)], Flat.enc x27.Nonce, [u33], [u35], Flat.enc x27.Tag]) hE hM Za rfl rfl rfl Ug (ZB (cl1 (n := 1) (m := 51) rfl (cl1 (n := 1) (m := 50) rfl (cl1 (n := 16) (m := 34) (Flat.len _) (cl1 (n := 1) (m := 33) rfl (cl1 (n := 1) (m := 32) rfl (cl1 (n := 32) (m := 0) (Flat.len _) cl0))))))) (Nat.le_of_eq ((Nat.zero_add _).trans (Eq.trans (ZB (cl1 (n := 1) (m := 51) rfl (cl1 (n := 1) (m := 50) rfl (cl1 (n := 16) (m := 34) (Flat.len _) (cl1 (n := 1) (m := 33) rfl (cl1 (n := 1) (m := 32) rfl (cl1 (n := 32) (m := 0) (Flat.len _) cl0))))))) (Eq.symm (ZB (cl1 (n := 1) (m := 51) rfl (cl1 (n := 1) (m := 50) rfl (cl1 (n := 16) (m := 34) (Flat.len _) (cl1 (n := 1) (m := 33) rfl (cl1 (n := 1) (m := 32) rfl (cl1 (n := 32) (m := 0) (Flat.len _) cl0))))))))))) (WH (cc1 (Flat.cell (x27.Number : Int)) (cc1 (Flat.cell (x27.Version : Int)) (cc1 (Flat.cell _) (cc1 (Rep.cell (hM.rd h34)) (cc1 (Rep.cell (hM.rd h36)) (cc1 (Flat.cell _) cc0))))))) (Zl (Eq.trans (ZB (cl1 (n := 1) (m := 51) rfl (cl1 (n := 1) (m := 50) rfl (cl1 (n := 16) (m := 34) (Flat.len _) (cl1 (n := 1) (m := 33) rfl (cl1 (n := 1) (m := 32) rfl (cl1 (n := 32) (m := 0) (Flat.len _) cl0))))))) (Eq.symm (ZB (cl1 (n := 1) (m := 51) rfl (cl1 (n := 1) (m := 50) rfl (cl1 (n := 16) (m := 34) (Flat.len _) (cl1 (n := 1) (m := 33) rfl (cl1 (n := 1) (m := 32) rfl (cl1 (n := 32) (m := 0) (Flat.len _) cl0)))))))))) ?_; intro w a hM hE
     refine Zf (wp_seq ?_)
     obtain ⟨j39, hl40, hF41⟩ := bind_some hs23
     refine ZR (fun a w => Env 96 a [(1, (ptr b1 0)), (4, (vI s22.2)), (5, (ptr b37 0)), (79, (vT j39))] ∧ M (Old w0) w0 w [raw b37 (cat [[(vI x27.Number)], [(vI x27.Version)], Flat.enc x27.Nonce, [u33], [u35], Flat.enc x27.Tag]), raw b1 (cat [[v0_1], [(vI p0.Next)], [v0_2], [v0_3], Flat.enc p0.Head])]) ?_ ?_
     ·skip
      refine wp_region_lit (Zg hE Za (dl rfl) rfl (UQ) ?_); intro a hE
      refine Zq (v := (vI x27.Number)) hE Za (dl rfl) rfl ty2 rfl (At.cat (pre := []) (hM.rawAt (pre := [])) cl0) ?_; intro a hE
      refine Zd hE Za (dl rfl) rfl ?_; intro a hE
      refine Zh hE Za (dl rfl) rfl rfl rfl ?_; intro a hE
      refine Zd hE Za (dl rfl) rfl ?_; intro a hE
      refine Wj (decide (x27.Number ≤ s22.1)) (fun hb42 => ?_) (fun hb42 => ?_)
      ·have hl40 := ZD hl40 hb42
       refine Zt hE rfl (lkb rfl hb42) rfl (by decide) ?_; intro a hE
       refine Zt hE rfl (lkb rfl hb42) rfl (by decide) ?_; intro a hE
       refine Zt hE rfl (lkb rfl hb42) rfl (by decide) ?_; intro a hE
       refine Zt hE rfl (lkb rfl hb42) rfl (by decide) ?_; intro a hE
       refine Zt hE rfl (lkb rfl hb42) rfl (by decide) ?_; intro a hE
       refine Ya hE Za (dl rfl) (lkb rfl hb42) rfl ?_; intro a hE
       refine Zd hE Za (dl rfl) rfl ?_; intro a hE
       refine Zt hE rfl rfl rfl (by decide) ?_; intro a hE
       refine Zt hE rfl rfl rfl (by decide) ?_; intro a hE
       refine Zt hE rfl rfl rfl (by decide) ?_; intro a hE
       refine Zt hE rfl rfl rfl (by decide) ?_; intro a hE
       refine Zt hE rfl rfl rfl (by decide) ?_; intro a hE
       refine Zt hE rfl rfl rfl (by decide) ?_; intro a hE
       refine Zt hE rfl rfl rfl (by decide) ?_; intro a hE
       refine Zt hE rfl rfl rfl (by decide) ?_; intro a hE
       refine Ya hE Za (dl rfl) rfl rfl ?_; intro a hE
       refine Zd hE Za (dl rfl) rfl ?_; intro a hE
       refine Zt hE rfl rfl rfl (by decide) ?_; intro a hE
       refine Zt hE rfl rfl rfl (by decide) ?_; intro a hE
       refine Zt hE rfl rfl rfl (by decide) ?_; intro a hE
       refine Zt hE rfl rfl rfl (by decide) ?_; intro a hE
       refine Ya hE Za (dl rfl) rfl rfl ?_; intro a hE
       refine Zd hE Za (dl rfl) rfl ?_; intro a hE
       refine Zt hE rfl rfl rfl (by decide) ?_; intro a hE
       refine Zt hE rfl rfl rfl (by decide) ?_; intro a hE
       refine Zt hE rfl rfl rfl (by decide) ?_; intro a hE
       refine Zt hE rfl rfl rfl (by decide) ?_; intro a hE
       refine Ya hE Za (dl rfl) rfl rfl ?_; intro a hE
       refine Zk ?_
       have ht43 := Option.some.inj hl40
       subst ht43
       refine Zn ?_
       exact ⟨hE.sub ⟨rfl, rfl, rfl, rfl, trivial⟩, hM⟩
      ·have hl40 := ZC hl40 hb42
       refine Zg hE (Zv hE rfl (lkb rfl hb42)) (by decide) rfl (UQ) ?_; intro a hE
       refine Zq (v := (vI x27.Number)) hE (Zv hE rfl (lkb rfl hb42)) (by decide) rfl ty2 rfl (At.cat (pre := []) (hM.rawAt (pre := [])) cl0) ?_; intro a hE
       refine Zg hE (Zv hE rfl (lkb rfl hb42)) (by decide) rfl (fd36_1) ?_; intro a hE
       refine Zq (v := (vI p0.Next)) hE (Zv hE rfl (lkb rfl hb42)) (by decide) rfl ty2 rfl (At.cat (pre := [[v0_1]]) (hM.rawAt (pre := [_])) (cl1 (n := 1) (m := 0) rfl cl0)) ?_; intro a hE
       refine Zh hE (Zv hE rfl (lkb rfl hb42)) (by decide) rfl rfl rfl ?_; intro a hE
       refine YT hE Za (dl rfl) (lkb rfl hb42) rfl ?_; intro a hE
       refine Zd hE Za (dl rfl) rfl ?_; intro a hE
       refine Wj (decide (x27.Number ≥ p0.Next)) (fun hb44 => ?_) (fun hb44 => ?_)
       ·have hl40 := ZD hl40 hb44
        refine Zt hE rfl (lkb rfl hb44) rfl (by decide) ?_; intro a hE
        refine Zt hE rfl (lkb rfl hb44) rfl (by decide) ?_; intro a hE
        refine Zt hE rfl (lkb rfl hb44) rfl (by decide) ?_; intro a hE
        refine Zt hE rfl (lkb rfl hb44) rfl (by decide) ?_; intro a hE
        refine Zt hE rfl (lkb rfl hb44) rfl (by decide) ?_; intro a hE
        refine Zt hE rfl (lkb rfl hb44) rfl (by decide) ?_; intro a hE
        refine Zt hE rfl (lkb rfl hb44) rfl (by decide) ?_; intro a hE
        refine Zt hE rfl (lkb rfl hb44) rfl (by decide) ?_; intro a hE
        refine Ya hE Za (dl rfl) (lkb rfl hb44) rfl ?_; intro a hE
        refine Zd hE Za (dl rfl) rfl ?_; intro a hE
        refine Zt hE rfl rfl rfl (by decide) ?_; intro a hE
        refine Zt hE rfl rfl rfl (by decide) ?_; intro a hE
        refine Zt hE rfl rfl rfl (by decide) ?_; intro a hE
        refine Zt hE rfl rfl rfl (by decide) ?_; intro a hE
        refine Ya hE Za (dl rfl) rfl rfl ?_; intro a hE
        refine Zd hE Za (dl rfl) rfl ?_; intro a hE
        refine Zt hE rfl rfl rfl (by decide) ?_; intro a hE
        refine Zt hE rfl rfl rfl (by decide) ?_; intro a hE
        refine Zt hE rfl rfl rfl (by decide) ?_; intro a hE
        refine Zt hE rfl rfl rfl (by decide) ?_; intro a hE
        refine Ya hE Za (dl rfl) rfl rfl ?_; intro a hE
        refine Zk ?_
        have ht45 := Option.some.inj hl40
        subst ht45
        refine Zn ?_
        exact ⟨hE.sub ⟨rfl, rfl, rfl, rfl, trivial⟩, hM⟩
       ·have hl40 := ZC hl40 hb44
        refine Zg hE (Zv hE rfl (lkb rfl hb44)) (by decide) rfl (fd92_1) ?_; intro a hE
        refine Zq (v := (vI x27.Version)) hE (Zv hE rfl (lkb rfl hb44)) (by decide) rfl ty2 rfl (At.cat (pre := [[(vI x27.Number)]]) (hM.rawAt (pre := [])) (cl1 (n := 1) (m := 0) rfl cl0)) ?_; intro a hE
        refine Zg hE (Zv hE rfl (lkb rfl hb44)) (by decide) rfl (fd36_0) ?_; intro a hE
        refine Zq (v := v0_1) hE (Zv hE rfl (lkb rfl hb44)) (by decide) rfl ty32 rfl (At.cat (pre := []) (hM.rawAt (pre := [_])) cl0) ?_; intro a hE
        refine Yb hE (Zv hE rfl (lkb rfl hb44)) (by decide) rfl Tryz.underlying32 (hM.rd hv0_1) ?_; intro a hE
        refine Zh hE (Zv hE rfl (lkb rfl hb44)) (by decide) rfl rfl rfl ?_; intro a hE
        obtain ⟨r46, e47, hl40⟩ := bind_some hl40
        refine Zs (vs := [(vI x27.Version), (vI 0), (vI (wr ((p0.Keys.length : Int) - 1)))]) hE (Zv hE rfl (lkb rfl hb44)) (by decide) rfl cb128 (c_spec_l01In _ x27.Version 0 (wr ((p0.Keys.length : Int) - 1)) r46 e47) ?_
        rintro v w a ⟨rfl, hK⟩ hE
        have hM := hM.keep hK
        refine WF hE (Zv hE rfl (lkb rfl hb44)) (by decide) rfl ?_; intro a hE
        refine YT hE Za (dl rfl) (lkb rfl hb44) rfl ?_; intro a hE
        refine Zd hE Za (dl rfl) rfl ?_; intro a hE
        refine Wj (!r46) (fun hb48 => ?_) (fun hb48 => ?_)
        ·have hl40 := ZD hl40 hb48
         refine Zt hE rfl (lkb rfl hb48) rfl (by decide) ?_; intro a hE
         refine Zt hE rfl (lkb rfl hb48) rfl (by decide) ?_; intro a hE
         refine Zt hE rfl (lkb rfl hb48) rfl (by decide) ?_; intro a hE
         refine Zt hE rfl (lkb rfl hb48) rfl (by decide) ?_; intro a hE
         refine Ya hE Za (dl rfl) (lkb rfl hb48) rfl ?_; intro a hE
         refine Zd hE Za (dl rfl) rfl ?_; intro a hE
         refine Zt hE rfl rfl rfl (by decide) ?_; intro a hE
         refine Zt hE rfl rfl rfl (by decide) ?_; intro a hE
         refine Zt hE rfl rfl rfl (by decide) ?_; intro a hE
         refine Zt hE rfl rfl rfl (by decide) ?_; intro a hE
         refine Ya hE Za (dl rfl) rfl rfl ?_; intro a hE
         refine Zk ?_
         have ht49 := Option.some.inj hl40
         subst ht49
         refine Zn ?_
         exact ⟨hE.sub ⟨rfl, rfl, rfl, rfl, trivial⟩, hM⟩
        ·have hl40 := ZC hl40 hb48
         refine Zg hE (Zv hE rfl (lkb rfl hb48)) (by decide) rfl (fd92_3) ?_; intro a hE
         refine Zq (v := u33) hE (Zv hE rfl (lkb rfl hb48)) (by decide) rfl Uw rfl (At.cat (pre := [[(vI x27.Number)], [(vI x27.Version)], Flat.enc x27.Nonce]) (hM.rawAt (pre := [])) (cl1 (n := 1) (m := 17) rfl (cl1 (n := 1) (m := 16) rfl (cl1 (n := 16) (m := 0) (Flat.len _) cl0)))) ?_; intro a hE
         refine Yb hE (Zv hE rfl (lkb rfl hb48)) (by decide) rfl Tryz.underlying57 (hM.rd h34) ?_; intro a hE
         refine Zh hE (Zv hE rfl (lkb rfl hb48)) (by decide) rfl rfl rfl ?_; intro a hE
         refine YT hE Za (dl rfl) (lkb rfl hb48) rfl ?_; intro a hE
         refine Zd hE Za (dl rfl) rfl ?_; intro a hE
         refine Wj (decide ((x27.Label.length : Int) > 32)) (fun hb50 => ?_) (fun hb50 => ?_)
         ·have hl40 := ZD hl40 hb50
          refine Zt hE rfl (lkb rfl hb50) rfl (by decide) ?_; intro a hE
          refine Zt hE rfl (lkb rfl hb50) rfl (by decide) ?_; intro a hE
          refine Zt hE rfl (lkb rfl hb50) rfl (by decide) ?_; intro a hE
          refine Zt hE rfl (lkb rfl hb50) rfl (by decide) ?_; intro a hE
          refine Ya hE Za (dl rfl) (lkb rfl hb50) rfl ?_; intro a hE
          refine Zk ?_
          have ht51 := Option.some.inj hl40
          subst ht51
          refine Zn ?_
          exact ⟨hE.sub ⟨rfl, rfl, rfl, rfl, trivial⟩, hM⟩
         ·have hl40 := ZC hl40 hb50
          refine Zg hE (Zv hE rfl (lkb rfl hb50)) (by decide) rfl (fd92_4) ?_; intro a hE
          refine Zq (v := u35) hE (Zv hE rfl (lkb rfl hb50)) (by decide) rfl Uw rfl (At.cat (pre := [[(vI x27.Number)], [(vI x27.Version)], Flat.enc x27.Nonce, [u33]]) (hM.rawAt (pre := [])) (cl1 (n := 1) (m := 18) rfl (cl1 (n := 1) (m := 17) rfl (cl1 (n := 16) (m := 1) (Flat.len _) (cl1 (n := 1) (m := 0) rfl cl0))))) ?_; intro a hE
          refine Yb hE (Zv hE rfl (lkb rfl hb50)) (by decide) rfl Tryz.underlying57 (hM.rd h36) ?_; intro a hE
          refine Zh hE (Zv hE rfl (lkb rfl hb50)) (by decide) rfl rfl rfl ?_; intro a hE
          refine YT hE Za (dl rfl) (lkb rfl hb50) rfl ?_; intro a hE
          refine Zk ?_
          have ht52 := Option.some.inj hl40
          subst ht52
          refine Zn ?_
          exact ⟨hE.sub ⟨rfl, rfl, rfl, rfl, trivial⟩, hM⟩
     ·skip
      rintro a w ⟨hE, hM⟩
      refine Zw hE rfl ?_ ?_
      ·intro hb53
       have hF41 := ZD hF41 hb53
       refine Zc (Ze hE Za (dl rfl) rfl ?_); intro a hE
       refine Zf ?_
       have ht54 := hx24 _ (Option.some.inj hF41).symm
       subst ht54
       have hr := Option.some.inj hF20
       subst hr
       have hM := M.fst (l := []) hM
       exact wp_ret (ZG (Wg (ZG (ZG (Wg (ZG (ZG (Zy hE rfl (Zu hE rfl) ⟨_, rfl, rfl, hM.kept⟩))))))))
      ·intro hb53
       have hF41 := ZC hF41 hb53
       refine wp_skip (Zz (wp_region_lit (Zg hE Za (dl rfl) rfl (UQ) ?_))); intro a hE
       refine Zq (v := (vI x27.Number)) hE Za (dl rfl) rfl ty2 rfl (At.cat (pre := []) (hM.rawAt (pre := [])) cl0) ?_; intro a hE
       refine Ze hE Za (dl rfl) rfl ?_; intro a hE
       refine Zk (Yl (Zz (wp_region_lit (Zd hE Za (dl rfl) rfl ?_)))); intro a hE
       refine Zh hE Za (dl rfl) rfl rfl rfl ?_; intro a hE
       refine Ze hE Za (dl rfl) rfl ?_; intro a hE
       refine Zk (Zn ?_)
       have hM := hM.pull (pre := [_])
       have hM := M.fst (l := [_]) hM
       exact ⟨_, (Option.some.inj hF41).symm, hE.sub ⟨rfl, rfl, rfl, trivial⟩, hM⟩
    ·intro hb26
     have hs23 := ZC hs23 hb26
     refine wp_exit (Zr (Zr (Yk ?_)))
     have ht55 := hx24 _ (Option.some.inj hs23).symm
     subst ht55
     refine Zn ?_
     exact ⟨(), rfl, hE.sub ⟨rfl, trivial⟩, hM⟩
   ·skip
    rintro a w ⟨s21, ht, hE, hM⟩
    subst ht
    have hF20 := el_nx hF20
    refine Zz (wp_seq (Zc (Ze hE Za (dl rfl) rfl ?_))); intro a hE
    refine Zf ?_
    obtain ⟨j56, hl57, hF58⟩ := bind_some hF20
    refine ZS (fun a w => ∃ s59 : Unit, j56 = Fl.nx s59 ∧ Env 96 a [] ∧ M (Old w0) w0 w []) ?_ ?_
    ·skip
     refine wp_block ?_
     refine ZL (fun (s60 : Int) a w => Env 96 a [(1, (ptr b1 0)), (6, (vI s60))] ∧ M (Old w0) w0 w [raw b1 (cat [[v0_1], [(vI p0.Next)], [v0_2], [v0_3], Flat.enc p0.Head])]) hl57 ⟨hE.sub ⟨rfl, rfl, trivial⟩, hM⟩ ?_
     rintro s60 a w ⟨hE, hM⟩ o63 hs61 hx62
     unfold UC at hs61
     refine wp_seq (Zc (Zd hE Za (dl rfl) rfl ?_)); intro a hE
     refine Zg hE Za (dl rfl) rfl (fd36_3) ?_; intro a hE
     refine Zq (v := v0_3) hE Za (dl rfl) rfl ty34 rfl (At.cat (pre := [[v0_1], [(vI p0.Next)], [v0_2]]) (hM.rawAt (pre := [])) (cl1 (n := 1) (m := 2) rfl (cl1 (n := 1) (m := 1) rfl (cl1 (n := 1) (m := 0) rfl cl0)))) ?_; intro a hE
     refine Yb hE Za (dl rfl) rfl Tryz.underlying34 (hM.rd hv0_3) ?_; intro a hE
     refine Zh hE Za (dl rfl) rfl rfl rfl ?_; intro a hE
     refine Zf ?_
     refine Zw hE rfl ?_ ?_
     ·intro hb64
      have hs61 := ZD hs61 hb64
      refine wp_skip (Zz (wp_seq (wp_block (Zc (Zg hE Za (dl rfl) rfl (fd36_3) ?_))))); intro a hE
      refine Zq (v := v0_3) hE Za (dl rfl) rfl ty34 rfl (At.cat (pre := [[v0_1], [(vI p0.Next)], [v0_2]]) (hM.rawAt (pre := [])) (cl1 (n := 1) (m := 2) rfl (cl1 (n := 1) (m := 1) rfl (cl1 (n := 1) (m := 0) rfl cl0)))) ?_; intro a hE
      refine Zd hE Za (dl rfl) rfl ?_; intro a hE
      obtain ⟨x65, e66, hs61⟩ := bind_some hs61
      have hi67 := ZY e66
      refine ZX hE Za (dl rfl) rfl rfl Tryz.underlying34 UY (hM.rd hv0_3) hi67.1 ?_; intro a hE
      refine Zm (cs := Flat.enc x65) hE Za (dl rfl) rfl UY rfl (Wh (hM.rd hv0_3) hi67.2) (ZB (cl1 (n := 1) (m := 33) rfl (cl1 (n := 1) (m := 32) rfl (cl1 (n := 32) (m := 0) (Flat.len _) cl0)))) ?_; intro a hE
      obtain ⟨r68, e69, hs61⟩ := bind_some hs61
      refine Zs (vs := [(Value.agg (Flat.enc x65).toArray)]) hE Za (dl rfl) rfl cb129 (c_spec_l12Event _ x65 r68 e69) ?_
      rintro v w a ⟨rfl, hK⟩ hE
      have hM := hM.keep hK
      refine WF hE Za (dl rfl) rfl ?_; intro a hE
      refine Zf ?_
      refine Zw hE rfl ?_ ?_
      ·intro hb70
       have hs61 := ZD hs61 hb70
       refine Zc (Ze hE Za (dl rfl) rfl ?_); intro a hE
       refine Zf ?_
       have ht71 := hx62 _ (Option.some.inj hs61).symm
       subst ht71
       have hr := Option.some.inj hF58
       subst hr
       have hM := M.fst (l := []) hM
       exact wp_ret (Wg (ZG (ZG (Wg (ZG (ZG (Zy hE rfl (Zu hE rfl) ⟨_, rfl, rfl, hM.kept⟩)))))))
      ·intro hb70
       have hs61 := ZC hs61 hb70
       refine wp_skip (Yl (Zz (wp_region_lit (Zd hE Za (dl rfl) rfl ?_)))); intro a hE
       refine Zh hE Za (dl rfl) rfl rfl rfl ?_; intro a hE
       refine Ze hE Za (dl rfl) rfl ?_; intro a hE
       refine Zk (Zn ?_)
       exact ⟨_, (Option.some.inj hs61).symm, hE.sub ⟨rfl, rfl, trivial⟩, hM⟩
     ·intro hb64
      have hs61 := ZC hs61 hb64
      refine wp_exit (Zr (Zr (Yk ?_)))
      have ht72 := hx62 _ (Option.some.inj hs61).symm
      subst ht72
      refine Zn ?_
      have hM := M.fst (l := []) hM
      exact ⟨(), rfl, hE.sub trivial, hM⟩
    ·skip
     rintro a w ⟨s59, ht, hE, hM⟩
     subst ht
     have hF58 := el_nx hF58
     refine Zz (Zc (Ze hE Za (dl rfl) rfl ?_)); intro a hE
     refine Zf ?_
     have hr := Option.some.inj hF58
     subst hr
     exact wp_ret (Zy hE rfl (Zu hE rfl) ⟨_, rfl, rfl, hM.kept⟩)
noncomputable def Ui (p0 : GVault) (p1 : Int) (s7 : Int) : Option (Fl Int (Fl Unit Int)) :=
 if (decide (s7 < (p0.Records.length : Int))) = true then ((idx p0.Records s7).bind fun x12 => if (x12.Number == p1) = true then (some (Fl.ex (Fl.ex s7))) else (some (Fl.nx (wr (s7 + 1))))) else (some (Fl.ex (Fl.nx ())))
noncomputable def Vw (p0 : GVault) (p1 : Int) : Option (Int) :=
 (ZJ (Ui p0 p1) 0 : Option (Fl Unit Int)).bind fun j3 => j3.el (fun s6 => some (-1)) (fun r => some r)
theorem c_spec_l12Place (w0 : World) (p0 : GVault) (v0_1 : Value) (hv0_1 : Ro w0 p0.Keys [v0_1]) (v0_2 : Value) (hv0_2 : Ro w0 p0.Records [v0_2]) (v0_3 : Value) (hv0_3 : Ro w0 p0.Events [v0_3]) (p1 : Int) (r : Int) (hF : Vw p0 p1 = some r) :
  Calls Tryz.prog 54 [(Value.agg (cat [[v0_1], [(vI p0.Next)], [v0_2], [v0_3], Flat.enc p0.Head]).toArray), (vI p1)].toArray w0 (fun en w' => ∃ v, en = .returned v ∧ (v = (vI r) ∧ Kept (Old w0) w0 w')) := by
 refine ZA (n := 22) Tryz.func54 rfl rfl (Nat.le_of_ble_eq_true rfl) rfl ?_
 intro a hE
 have hM := M.start w0
 unfold Vw at hF
 refine Zc (ZV (cs := cat [[v0_1], [(vI p0.Next)], [v0_2], [v0_3], Flat.enc p0.Head]) hE hM Za (dl rfl) rfl rfl ?_); intro b1 w a hM hE
 refine Ze hE Za (dl rfl) rfl ?_; intro a hE
 refine Zf (wp_seq (Zc (Ze hE Za (dl rfl) rfl ?_))); intro a hE
 refine Zf ?_
 obtain ⟨j3, hl4, hF5⟩ := bind_some hF
 refine ZS (fun a w => ∃ s6 : Unit, j3 = Fl.nx s6 ∧ Env 22 a [] ∧ M (Old w0) w0 w []) ?_ ?_
 ·skip
  refine wp_block ?_
  refine ZL (fun (s7 : Int) a w => Env 22 a [(1, (vI p1)), (2, (ptr b1 0)), (5, (vI s7))] ∧ M (Old w0) w0 w [raw b1 (cat [[v0_1], [(vI p0.Next)], [v0_2], [v0_3], Flat.enc p0.Head])]) hl4 ⟨hE.sub ⟨rfl, rfl, rfl, trivial⟩, hM⟩ ?_
  rintro s7 a w ⟨hE, hM⟩ o10 hs8 hx9
  unfold Ui at hs8
  refine wp_seq (Zc (Zd hE Za (dl rfl) rfl ?_)); intro a hE
  refine Zg hE Za (dl rfl) rfl (U8) ?_; intro a hE
  refine Zq (v := v0_2) hE Za (dl rfl) rfl ty33 rfl (At.cat (pre := [[v0_1], [(vI p0.Next)]]) (hM.rawAt (pre := [])) (cl1 (n := 1) (m := 1) rfl (cl1 (n := 1) (m := 0) rfl cl0))) ?_; intro a hE
  refine Yb hE Za (dl rfl) rfl Tryz.underlying33 (hM.rd hv0_2) ?_; intro a hE
  refine Zh hE Za (dl rfl) rfl rfl rfl ?_; intro a hE
  refine Zf ?_
  refine Zw hE rfl ?_ ?_
  ·intro hb11
   have hs8 := ZD hs8 hb11
   refine wp_skip (Zz (wp_seq (wp_block (Zc (Zg hE Za (dl rfl) rfl (U8) ?_))))); intro a hE
   refine Zq (v := v0_2) hE Za (dl rfl) rfl ty33 rfl (At.cat (pre := [[v0_1], [(vI p0.Next)]]) (hM.rawAt (pre := [])) (cl1 (n := 1) (m := 1) rfl (cl1 (n := 1) (m := 0) rfl cl0))) ?_; intro a hE
   refine Zd hE Za (dl rfl) rfl ?_; intro a hE
   obtain ⟨x12, e13, hs8⟩ := bind_some hs8
   have hi14 := ZY e13
   refine ZX hE Za (dl rfl) rfl rfl Tryz.underlying33 Ug (hM.rd hv0_2) hi14.1 ?_; intro a hE
   refine Zg hE Za (dl rfl) rfl (UQ) ?_; intro a hE
   obtain ⟨cs15, hs16, hA17⟩ := Uf hv0_2 hi14.2 -- ^
   obtain ⟨u18, u20, rfl, h19, h21⟩ := X2 hs16 -- ^
   refine Zq (v := (vI x12.Number)) hE Za (dl rfl) rfl ty2 rfl (At.cat (pre := []) (hM.atk hA17 (sl_blk hv0_2 hi14.2)) cl0) ?_; intro a hE
   refine Zd hE Za (dl rfl) rfl ?_; intro a hE
   refine Zh hE Za (dl rfl) rfl rfl rfl ?_; intro a hE
   refine Zf ?_
   refine Zw hE rfl ?_ ?_
   ·intro hb22
    have hs8 := ZD hs8 hb22
    refine Zc (Zd hE Za (dl rfl) rfl ?_); intro a hE
    refine Ze hE Za (dl rfl) rfl ?_; intro a hE
    refine Zf ?_
    have ht23 := hx9 _ (Option.some.inj hs8).symm
    subst ht23
    have hr := Option.some.inj hF5
    subst hr
    have hM := M.fst (l := []) hM
    exact wp_ret (Wg (ZG (ZG (Wg (ZG (ZG (Zy hE rfl (Zu hE rfl) ⟨_, rfl, rfl, hM.kept⟩)))))))
   ·intro hb22
    have hs8 := ZC hs8 hb22
    refine wp_skip (Yl (Zz (wp_region_lit (Zd hE Za (dl rfl) rfl ?_)))); intro a hE
    refine Zh hE Za (dl rfl) rfl rfl rfl ?_; intro a hE
    refine Ze hE Za (dl rfl) rfl ?_; intro a hE
    refine Zk (Zn ?_)
    exact ⟨_, (Option.some.inj hs8).symm, hE.sub ⟨rfl, rfl, rfl, trivial⟩, hM⟩
  ·intro hb11
   have hs8 := ZC hs8 hb11
   refine wp_exit (Zr (Zr (Yk ?_)))
   have ht24 := hx9 _ (Option.some.inj hs8).symm
   subst ht24
   refine Zn ?_
   have hM := M.fst (l := []) hM
   exact ⟨(), rfl, hE.sub trivial, hM⟩
 ·skip
  rintro a w ⟨s6, ht, hE, hM⟩
  subst ht
  have hF5 := el_nx hF5
  refine Zz (Zc (Ze hE Za (dl rfl) rfl ?_)); intro a hE
  refine Zf ?_
  have hr := Option.some.inj hF5
  subst hr
  exact wp_ret (Zy hE rfl (Zu hE rfl) ⟨_, rfl, rfl, hM.kept⟩)
noncomputable def V7 (p0 : Int) : Option ((List UInt8)) :=
 some ([Zx (andI (Ux p0 24) 255), Zx (andI (Ux p0 16) 255), Zx (andI (Ux p0 8) 255), Zx (andI p0 255)] : List UInt8)
theorem c_spec_l12Four (w0 : World) (p0 : Int) (r : (List UInt8)) (hF : V7 p0 = some r) :
  Calls Tryz.prog 130 [(vI p0)].toArray w0 (fun en w' => ∃ v, en = .returned v ∧ (∃ (y1 : Value), v = y1 ∧ Fr w0 w' [osl NoB (r : List UInt8) y1] ∧ Kept (Old w0) w0 w')) := by
 refine ZA (n := 19) Tryz.func130 rfl rfl (Nat.le_of_ble_eq_true rfl) rfl ?_
 intro a hE
 have hM := M.start w0
 unfold V7 at hF
 refine Zc (Ze hE Za (dl rfl) rfl ?_); intro a hE
 refine Zf (Zc (Zd hE Za (dl rfl) rfl ?_)); intro a hE
 refine s_sh hE Za (dl rfl) rfl rfl (bI_shr _ _ (by decide)) ?_; intro a hE
 refine Zh hE Za (dl rfl) rfl rfl rfl ?_; intro a hE
 refine YE hE Za (dl rfl) rfl Tryz.underlying2 Tryz.underlying5 ?_; intro a hE
 rw [Z4] at hE
 refine Zd hE Za (dl rfl) rfl ?_; intro a hE
 refine s_sh hE Za (dl rfl) rfl rfl (bI_shr _ _ (by decide)) ?_; intro a hE
 refine Zh hE Za (dl rfl) rfl rfl rfl ?_; intro a hE
 refine YE hE Za (dl rfl) rfl Tryz.underlying2 Tryz.underlying5 ?_; intro a hE
 rw [Z4] at hE
 refine Zd hE Za (dl rfl) rfl ?_; intro a hE
 refine s_sh hE Za (dl rfl) rfl rfl (bI_shr _ _ (by decide)) ?_; intro a hE
 refine Zh hE Za (dl rfl) rfl rfl rfl ?_; intro a hE
 refine YE hE Za (dl rfl) rfl Tryz.underlying2 Tryz.underlying5 ?_; intro a hE
 rw [Z4] at hE
 refine Zd hE Za (dl rfl) rfl ?_; intro a hE
 refine Zh hE Za (dl rfl) rfl rfl rfl ?_; intro a hE
 refine YE hE Za (dl rfl) rfl Tryz.underlying2 Tryz.underlying5 ?_; intro a hE
 rw [Z4] at hE
 refine Ye (xs := [.tmp 6, .tmp 10, .tmp 14, .tmp 17]) (l := ([Zx (andI (Ux p0 24) 255), Zx (andI (Ux p0 16) 255), Zx (andI (Ux p0 8) 255), Zx (andI p0 255)] : List UInt8)) (vs := [(vB (Zx (andI (Ux p0 24) 255))), (vB (Zx (andI (Ux p0 16) 255))), (vB (Zx (andI (Ux p0 8) 255))), (vB (Zx (andI p0 255)))]) hE hM Za (dl rfl) rfl rfl Tryz.underlying57 ty5 rfl (by decide) rfl ?_; intro u1 w a hM hE
 refine Ze hE Za (dl rfl) rfl ?_; intro a hE
 refine Zf ?_
 have hr := Option.some.inj hF
 subst hr
 exact wp_ret (Zy hE rfl (Zu hE rfl) ⟨_, rfl, u1, rfl, hM.outF (Vm W2), hM.kept⟩)
noncomputable def UH (p0 : (List (Vector UInt8 16))) (s8 : (List UInt8) × Int) (s20 : (List UInt8) × Int) : Option (Fl ((List UInt8) × Int) (List UInt8)) :=
 if (decide (s20.2 < 16)) = true then ((idx p0 s8.2).bind fun x27 => (ZK x27 s20.2).bind fun x31 => (app 1 s20.1 ([x31] : List UInt8)).bind fun l35 => some (Fl.nx ((s20.1 ++ ([x31] : List UInt8)), wr (s20.2 + 1)))) else (some (Fl.ex s20.1))
noncomputable def Wn (p0 : (List (Vector UInt8 16))) (s8 : (List UInt8) × Int) : Option (Fl ((List UInt8) × Int) (List UInt8)) :=
 if (decide (s8.2 < (p0.length : Int))) = true then ((ZJ (UH p0 s8) (s8.1, 0) : Option ((List UInt8))).bind fun j15 => some (Fl.nx (j15, wr (s8.2 + 1)))) else (some (Fl.ex s8.1))
noncomputable def WT (p0 : (List (Vector UInt8 16))) : Option ((List UInt8)) :=
 (ZJ (Wn p0) (([] : List UInt8), 0) : Option ((List UInt8))).bind fun j3 => some j3
theorem c_spec_l01Data (w0 : World) (p0 : (List (Vector UInt8 16))) (v0_1 : Value) (hv0_1 : Ro w0 p0 [v0_1]) (r : (List UInt8)) (hF : WT p0 = some r) :
  Calls Tryz.prog 131 [v0_1].toArray w0 (fun en w' => ∃ v, en = .returned v ∧ (∃ (y1 : Value), v = y1 ∧ Fr w0 w' [osl NoB (r : List UInt8) y1] ∧ Kept (Old w0) w0 w')) := by
 refine ZA (n := 27) Tryz.func131 rfl rfl (Nat.le_of_ble_eq_true rfl) rfl ?_
 intro a hE
 have hM := M.start w0
 unfold WT at hF
 refine Zc (Ze hE Za (dl rfl) rfl ?_); intro a hE
 refine Zf (Zc (Ye (xs := []) (l := ([] : List UInt8)) (vs := []) hE hM Za (dl rfl) rfl rfl Tryz.underlying57 ty5 rfl (by decide) rfl ?_)); intro u1 w a hM hE
 refine Ze hE Za (dl rfl) rfl ?_; intro a hE
 refine Zf (wp_seq (Zc (Ze hE Za (dl rfl) rfl ?_))); intro a hE
 refine Zf ?_
 obtain ⟨j3, hl4, hF5⟩ := bind_some hF
 refine ZS (fun a w => ∃ (u6 : Value), Env 27 a [(3, u6)] ∧ M (Old w0) w0 w [osl NoB (j3 : List UInt8) u6]) ?_ ?_
 ·skip
  refine wp_block ?_
  refine ZL (fun (s8 : (List UInt8) × Int) a w => ∃ (u9 : Value), Env 27 a [(0, v0_1), (3, u9), (4, (vI s8.2))] ∧ M (Old w0) w0 w [osl NoB (s8.1 : List UInt8) u9]) hl4 ⟨u1, hE.sub ⟨rfl, rfl, rfl, trivial⟩, hM⟩ ?_
  rintro s8 a w ⟨u9, hE, hM⟩ o13 hs11 hx12
  unfold Wn at hs11
  refine wp_seq (Zc (Zd hE Za (dl rfl) rfl ?_)); intro a hE
  refine Zd hE Za (dl rfl) rfl ?_; intro a hE
  refine Yb hE Za (dl rfl) rfl Tryz.underlying32 (hM.rd hv0_1) ?_; intro a hE
  refine Zh hE Za (dl rfl) rfl rfl rfl ?_; intro a hE
  refine Zf ?_
  refine Zw hE rfl ?_ ?_
  ·intro hb14
   have hs11 := ZD hs11 hb14
   refine wp_skip (Zz (wp_seq (wp_block (Zc (Ze hE Za (dl rfl) rfl ?_))))); intro a hE
   refine Zf ?_
   obtain ⟨j15, hl16, hF17⟩ := bind_some hs11
   refine ZS (fun a w => ∃ (u18 : Value), Env 27 a [(0, v0_1), (3, u18), (4, (vI s8.2))] ∧ M (Old w0) w0 w [osl NoB (j15 : List UInt8) u18]) ?_ ?_
   ·skip
    refine wp_block ?_
    refine ZL (fun (s20 : (List UInt8) × Int) a w => ∃ (u21 : Value), Env 27 a [(0, v0_1), (3, u21), (4, (vI s8.2)), (5, (vI s20.2))] ∧ M (Old w0) w0 w [osl NoB (s20.1 : List UInt8) u21]) hl16 ⟨u9, hE.sub ⟨rfl, rfl, rfl, rfl, trivial⟩, hM⟩ ?_
    rintro s20 a w ⟨u21, hE, hM⟩ o25 hs23 hx24
    unfold UH at hs23
    refine wp_seq (Zc (Zd hE Za (dl rfl) rfl ?_)); intro a hE
    refine Zh hE Za (dl rfl) rfl rfl rfl ?_; intro a hE
    refine Zf ?_
    refine Zw hE rfl ?_ ?_
    ·intro hb26
     have hs23 := ZD hs23 hb26
     refine wp_skip (Zz (wp_seq (wp_block (wp_region_lit (Zd hE Za (dl rfl) rfl ?_))))); intro a hE
     refine Zd hE Za (dl rfl) rfl ?_; intro a hE
     refine Zd hE Za (dl rfl) rfl ?_; intro a hE
     refine Zd hE Za (dl rfl) rfl ?_; intro a hE
     obtain ⟨x27, e28, hs23⟩ := bind_some hs23
     have hi29 := ZY e28
     refine ZX hE Za (dl rfl) rfl rfl Tryz.underlying32 ZF (hM.rd hv0_1) hi29.1 ?_; intro a hE
     obtain ⟨x31, e32, hs23⟩ := bind_some hs23
     have hi30 := Zi e32
     refine Zo hE Za (dl rfl) rfl rfl Tryz.underlying70 ty5 hi30.1 ?_; intro a hE
     refine Zq (v := (vB x31)) hE Za (dl rfl) rfl ty5 rfl (At.vec (Wh (hM.rd hv0_1) hi29.2) hi30.2) ?_; intro a hE
     refine Ye (xs := [.tmp 23]) (l := ([x31] : List UInt8)) (vs := [(vB x31)]) hE hM Za (dl rfl) rfl rfl Tryz.underlying57 ty5 rfl (by decide) rfl ?_; intro u33 w a hM hE
     obtain ⟨l35, e36, hs23⟩ := bind_some hs23
     obtain ⟨e39, rfl⟩ := Yu e36
     have hM := hM.pull (pre := [_])
     refine Yj hE hM Za (dl rfl) rfl rfl (hM.sl (pre := [_]) noB) Tryz.underlying57 ty5 rfl (by decide) e39 ?_; intro u37 w a hM hE
     refine Ze hE Za (dl rfl) rfl ?_; intro a hE
     refine Zk (Yl (Zz (wp_region_lit (Zd hE Za (dl rfl) rfl ?_)))); intro a hE
     refine Zh hE Za (dl rfl) rfl rfl rfl ?_; intro a hE
     refine Ze hE Za (dl rfl) rfl ?_; intro a hE
     refine Zk (Zn ?_)
     have hM := M.fst (l := [_]) hM
     exact ⟨_, (Option.some.inj hs23).symm, u37, hE.sub ⟨rfl, rfl, rfl, rfl, trivial⟩, hM⟩
    ·intro hb26
     have hs23 := ZC hs23 hb26
     refine wp_exit (Zr (Zr (Yk ?_)))
     have ht40 := hx24 _ (Option.some.inj hs23).symm
     subst ht40
     refine Zn ?_
     exact ⟨u21, hE.sub ⟨rfl, rfl, rfl, trivial⟩, hM⟩
   ·skip
    rintro a w ⟨u18, hE, hM⟩
    refine Yl (Zz (wp_region_lit (Zd hE Za (dl rfl) rfl ?_))); intro a hE
    refine Zh hE Za (dl rfl) rfl rfl rfl ?_; intro a hE
    refine Ze hE Za (dl rfl) rfl ?_; intro a hE
    refine Zk (Zn ?_)
    exact ⟨_, (Option.some.inj hF17).symm, u18, hE.sub ⟨rfl, rfl, rfl, trivial⟩, hM⟩
  ·intro hb14
   have hs11 := ZC hs11 hb14
   refine wp_exit (Zr (Zr (Yk ?_)))
   have ht41 := hx12 _ (Option.some.inj hs11).symm
   subst ht41
   refine Zn ?_
   exact ⟨u9, hE.sub ⟨rfl, trivial⟩, hM⟩
 ·skip
  rintro a w ⟨u6, hE, hM⟩
  refine Zz (Zc (Zd hE Za (dl rfl) rfl ?_)); intro a hE
  refine Ze hE Za (dl rfl) rfl ?_; intro a hE
  refine Zf ?_
  have hr := Option.some.inj hF5
  subst hr
  exact wp_ret (Zy hE rfl (Zu hE rfl) ⟨_, rfl, u6, rfl, hM.outF (Vm W2), hM.kept⟩)
noncomputable def YR (p0 : Int) (s4 : Int × Int × Int) : Option (Fl (Int × Int × Int) Int) :=
 if (decide (s4.2.2 > 0)) = true then (((if ((Int.tmod s4.2.2 2) == 1) = true then (some (U4 s4.1 s4.2.1)) else (some s4.1) : Option (Int)).bind fun j12 => (if (decide ((wr (s4.2.1 * 2)) ≥ 256)) = true then (some (U4 (wr (s4.2.1 * 2)) p0)) else (some (wr (s4.2.1 * 2))) : Option (Int)).bind fun j18 => some (j12, j18) : Option (Int × Int)).bind fun j9 => some (Fl.nx (j9.1, j9.2, wr (Int.tdiv s4.2.2 2)))) else (some (Fl.ex s4.1))
noncomputable def YB (p0 : Int) (p1 : UInt8) (p2 : UInt8) : Option (UInt8) :=
 (ZJ (YR p0) (0, bI p1, bI p2) : Option (Int)).bind fun j1 => some (Zx j1)
theorem Vx (w0 : World) (p0 : Int) (p1 : UInt8) (p2 : UInt8) (r : UInt8) (hF : YB p0 p1 p2 = some r) :
  Calls Tryz.prog 224 [(vI p0), (vB p1), (vB p2)].toArray w0 (fun en w' => ∃ v, en = .returned v ∧ (v = (vB r) ∧ Kept (Old w0) w0 w')) := by
 refine ZA (n := 33) Tryz.func224 rfl rfl (Nat.le_of_ble_eq_true rfl) rfl ?_
 intro a hE
 have hM := M.start w0
 unfold YB at hF
 refine Zc (Ze hE Za (dl rfl) rfl ?_); intro a hE
 refine Zf (Zc (Zd hE Za (dl rfl) rfl ?_)); intro a hE
 refine YE hE Za (dl rfl) rfl Tryz.underlying5 Tryz.underlying2 ?_; intro a hE
 rw [byte_wide] at hE
 refine Ze hE Za (dl rfl) rfl ?_; intro a hE
 refine Ze hE Za (dl rfl) rfl ?_; intro a hE
 refine Zf (wp_seq (Zc (Zd hE Za (dl rfl) rfl ?_))); intro a hE
 refine YE hE Za (dl rfl) rfl Tryz.underlying5 Tryz.underlying2 ?_; intro a hE
 rw [byte_wide] at hE
 refine Ze hE Za (dl rfl) rfl ?_; intro a hE
 refine Zf ?_
 obtain ⟨j1, hl2, hF3⟩ := bind_some hF
 refine ZS (fun a w => Env 33 a [(7, (vI j1))] ∧ M (Old w0) w0 w []) ?_ ?_
 ·skip
  refine wp_block ?_
  refine ZL (fun (s4 : Int × Int × Int) a w => Env 33 a [(0, (vI p0)), (7, (vI s4.1)), (8, (vI s4.2.1)), (9, (vI s4.2.2))] ∧ M (Old w0) w0 w []) hl2 ⟨hE.sub ⟨rfl, rfl, rfl, rfl, trivial⟩, hM⟩ ?_
  rintro s4 a w ⟨hE, hM⟩ o7 hs5 hx6
  unfold YR at hs5
  refine wp_seq (Zc (Zd hE Za (dl rfl) rfl ?_)); intro a hE
  refine Zh hE Za (dl rfl) rfl rfl rfl ?_; intro a hE
  refine Zf ?_
  refine Zw hE rfl ?_ ?_
  ·intro hb8
   have hs5 := ZD hs5 hb8
   refine wp_skip (Zz ?_)
   obtain ⟨j9, hl10, hF11⟩ := bind_some hs5
   refine ZR (fun a w => Env 33 a [(0, (vI p0)), (7, (vI j9.1)), (8, (vI j9.2)), (9, (vI s4.2.2))] ∧ M (Old w0) w0 w []) ?_ ?_
   ·skip
    refine wp_block ?_
    obtain ⟨j12, hl13, hF14⟩ := bind_some hl10
    refine ZR (fun a w => Env 33 a [(0, (vI p0)), (7, (vI j12)), (8, (vI s4.2.1)), (9, (vI s4.2.2))] ∧ M (Old w0) w0 w []) ?_ ?_
    ·skip
     refine Zc (Zd hE Za (dl rfl) rfl ?_); intro a hE
     refine Zh hE Za (dl rfl) rfl rfl (bI_rem _ _ (by decide)) ?_; intro a hE
     refine Zh hE Za (dl rfl) rfl rfl rfl ?_; intro a hE
     refine Zf ?_
     refine Zw hE rfl ?_ ?_
     ·intro hb15
      have hl13 := ZD hl13 hb15
      refine wp_region_lit (Zd hE Za (dl rfl) rfl ?_); intro a hE
      refine Zd hE Za (dl rfl) rfl ?_; intro a hE
      refine Zh hE Za (dl rfl) rfl rfl rfl ?_; intro a hE
      refine Ze hE Za (dl rfl) rfl ?_; intro a hE
      refine Zk ?_
      have ht16 := Option.some.inj hl13
      subst ht16
      refine Zn ?_
      exact ⟨hE.sub ⟨rfl, rfl, rfl, rfl, trivial⟩, hM⟩
     ·intro hb15
      have hl13 := ZC hl13 hb15
      refine wp_skip ?_
      have ht17 := Option.some.inj hl13
      subst ht17
      refine Zn ?_
      exact ⟨hE.sub ⟨rfl, rfl, rfl, rfl, trivial⟩, hM⟩
    ·skip
     rintro a w ⟨hE, hM⟩
     refine Zc (Zd hE Za (dl rfl) rfl ?_); intro a hE
     refine Zh hE Za (dl rfl) rfl rfl rfl ?_; intro a hE
     refine Ze hE Za (dl rfl) rfl ?_; intro a hE
     refine Zf (Zc (Zd hE Za (dl rfl) rfl ?_)); intro a hE
     refine Zh hE Za (dl rfl) rfl rfl rfl ?_; intro a hE
     refine Zf ?_
     obtain ⟨j18, hl19, hF20⟩ := bind_some hF14
     refine ZS (fun a w => Env 33 a [(0, (vI p0)), (7, (vI j12)), (8, (vI j18)), (9, (vI s4.2.2))] ∧ M (Old w0) w0 w []) ?_ ?_
     ·skip
      refine Zw hE rfl ?_ ?_
      ·intro hb21
       have hl19 := ZD hl19 hb21
       refine wp_region_lit (Zd hE Za (dl rfl) rfl ?_); intro a hE
       refine Zd hE Za (dl rfl) rfl ?_; intro a hE
       refine Zh hE Za (dl rfl) rfl rfl rfl ?_; intro a hE
       refine Ze hE Za (dl rfl) rfl ?_; intro a hE
       refine Zk ?_
       have ht22 := Option.some.inj hl19
       subst ht22
       refine Zn ?_
       exact ⟨hE.sub ⟨rfl, rfl, rfl, rfl, trivial⟩, hM⟩
      ·intro hb21
       have hl19 := ZC hl19 hb21
       refine wp_skip ?_
       have ht23 := Option.some.inj hl19
       subst ht23
       refine Zn ?_
       exact ⟨hE.sub ⟨rfl, rfl, rfl, rfl, trivial⟩, hM⟩
     ·skip
      rintro a w ⟨hE, hM⟩
      refine Yl ?_
      have ht24 := Option.some.inj hF20
      subst ht24
      refine Zn ?_
      exact ⟨hE.sub ⟨rfl, rfl, rfl, rfl, trivial⟩, hM⟩
   ·skip
    rintro a w ⟨hE, hM⟩
    refine wp_region_lit (Zd hE Za (dl rfl) rfl ?_); intro a hE
    refine Zh hE Za (dl rfl) rfl rfl (bI_quo _ _ (by decide)) ?_; intro a hE
    refine Ze hE Za (dl rfl) rfl ?_; intro a hE
    refine Zk (Zn ?_)
    exact ⟨_, (Option.some.inj hF11).symm, hE.sub ⟨rfl, rfl, rfl, rfl, trivial⟩, hM⟩
  ·intro hb8
   have hs5 := ZC hs5 hb8
   refine wp_exit (Zr (Zr (Yk ?_)))
   have ht25 := hx6 _ (Option.some.inj hs5).symm
   subst ht25
   refine Zn ?_
   exact ⟨hE.sub ⟨rfl, trivial⟩, hM⟩
 ·skip
  rintro a w ⟨hE, hM⟩
  refine Zz (Zc (Zd hE Za (dl rfl) rfl ?_)); intro a hE
  refine YE hE Za (dl rfl) rfl Tryz.underlying2 Tryz.underlying5 ?_; intro a hE
  rw [Z4] at hE
  refine Ze hE Za (dl rfl) rfl ?_; intro a hE
  refine Zf ?_
  have hr := Option.some.inj hF3
  subst hr
  exact wp_ret (Zy hE rfl (Zu hE rfl) ⟨_, rfl, rfl, hM.kept⟩)
noncomputable def Vi (p0 : Int) (s16 : UInt8 × UInt8 × Int) : Option (Fl (UInt8 × UInt8 × Int) UInt8) :=
 if (decide (s16.2.2 > 0)) = true then (((if ((Int.tmod s16.2.2 2) == 1) = true then ((YB p0 s16.1 s16.2.1).bind fun r28 => some r28) else (some s16.1) : Option (UInt8)).bind fun j24 => (YB p0 s16.2.1 s16.2.1).bind fun r32 => some (j24, r32) : Option (UInt8 × UInt8)).bind fun j21 => some (Fl.nx (j21.1, j21.2, wr (Int.tdiv s16.2.2 2)))) else (some (Fl.ex s16.1))
noncomputable def W3 (p0 : Int) (p1 : Int) (s8 : (Vector UInt8 256) × Int) : Option (Fl ((Vector UInt8 256) × Int) (Vector UInt8 256)) :=
 if (decide (s8.2 < 256)) = true then ((ZJ (Vi p0) (1, Zx s8.2, p1) : Option (UInt8)).bind fun j13 => (ZK s8.1 s8.2).bind fun x37 => some (Fl.nx ((s8.1.setIfInBounds (s8.2).toNat j13), wr (s8.2 + 1)))) else (some (Fl.ex s8.1))
noncomputable def VE (p0 : Int) (p1 : Int) : Option ((Vector UInt8 256)) :=
 (ZJ (W3 p0 p1) ((Vector.replicate 256 (0 : UInt8)), 0) : Option ((Vector UInt8 256))).bind fun j5 => some j5
theorem c_spec_l02Power (w0 : World) (p0 : Int) (p1 : Int) (r : (Vector UInt8 256)) (hF : VE p0 p1 = some r) :
  Calls Tryz.prog 192 [(vI p0), (vI p1)].toArray w0 (fun en w' => ∃ v, en = .returned v ∧ (v = (Value.agg (Flat.enc r).toArray) ∧ Kept (Old w0) w0 w')) := by
 refine ZA (n := 37) Tryz.func192 rfl rfl (Nat.le_of_ble_eq_true rfl) rfl ?_
 intro a hE
 have hM := M.start w0
 unfold VE at hF
 refine Zc (ZE hE hM Za (dl rfl) Xd ?_); intro b1 w a hM hE
 refine Zf (Zc (YO (parts := []) (vs := []) (cs := Flat.enc (Vector.replicate 256 (0 : UInt8))) hE Za (dl rfl) rfl rfl Xd rfl ty5 Yw ?_)); intro a hE
 refine ZE hE hM Za (dl rfl) Xd ?_; intro b3 w a hM hE
 refine Zp (seg := Flat.enc (Vector.replicate 256 (0 : UInt8))) (cs' := Flat.enc (Vector.replicate 256 (0 : UInt8))) hE hM Za rfl rfl rfl Xd (Flat.len _) (zle flq) (Flat.cell _) (Zl flq) ?_; intro w a hM hE
 refine Zf (wp_seq (Zc (Ze hE Za (dl rfl) rfl ?_))); intro a hE
 refine Zf ?_
 obtain ⟨j5, hl6, hF7⟩ := bind_some hF
 refine ZS (fun a w => Env 37 a [(4, (ptr b1 0)), (5, (ptr b3 0))] ∧ M (Old w0) w0 w [raw b3 (Flat.enc j5), raw b1 (Flat.enc (Vector.replicate 256 (0 : UInt8)))]) ?_ ?_
 ·skip
  refine wp_block ?_
  refine ZL (fun (s8 : (Vector UInt8 256) × Int) a w => Env 37 a [(0, (vI p0)), (1, (vI p1)), (4, (ptr b1 0)), (5, (ptr b3 0)), (6, (vI s8.2))] ∧ M (Old w0) w0 w [raw b3 (Flat.enc s8.1), raw b1 (Flat.enc (Vector.replicate 256 (0 : UInt8)))]) hl6 ⟨hE.sub ⟨rfl, rfl, rfl, rfl, rfl, trivial⟩, hM⟩ ?_
  rintro s8 a w ⟨hE, hM⟩ o11 hs9 hx10
  unfold W3 at hs9
  refine wp_seq (Zc (Zd hE Za (dl rfl) rfl ?_)); intro a hE
  refine Zh hE Za (dl rfl) rfl rfl rfl ?_; intro a hE
  refine Zf ?_
  refine Zw hE rfl ?_ ?_
  ·intro hb12
   have hs9 := ZD hs9 hb12
   refine wp_skip (Zz (wp_seq (wp_block (Zc (Zd hE Za (dl rfl) rfl ?_))))); intro a hE
   refine YE hE Za (dl rfl) rfl Tryz.underlying3 Tryz.underlying5 ?_; intro a hE
   rw [Z4] at hE
   refine Ze hE Za (dl rfl) rfl ?_; intro a hE
   refine Ze hE Za (dl rfl) rfl ?_; intro a hE
   refine Zf (wp_seq (Zc (Zd hE Za (dl rfl) rfl ?_))); intro a hE
   refine Ze hE Za (dl rfl) rfl ?_; intro a hE
   refine Zf ?_
   obtain ⟨j13, hl14, hF15⟩ := bind_some hs9
   refine ZS (fun a w => Env 37 a [(0, (vI p0)), (1, (vI p1)), (4, (ptr b1 0)), (5, (ptr b3 0)), (6, (vI s8.2)), (7, (vB j13))] ∧ M (Old w0) w0 w [raw b3 (Flat.enc s8.1), raw b1 (Flat.enc (Vector.replicate 256 (0 : UInt8)))]) ?_ ?_
   ·skip
    refine wp_block ?_
    refine ZL (fun (s16 : UInt8 × UInt8 × Int) a w => Env 37 a [(0, (vI p0)), (1, (vI p1)), (4, (ptr b1 0)), (5, (ptr b3 0)), (6, (vI s8.2)), (7, (vB s16.1)), (8, (vB s16.2.1)), (9, (vI s16.2.2))] ∧ M (Old w0) w0 w [raw b3 (Flat.enc s8.1), raw b1 (Flat.enc (Vector.replicate 256 (0 : UInt8)))]) hl14 ⟨hE.sub ⟨rfl, rfl, rfl, rfl, rfl, rfl, rfl, rfl, trivial⟩, hM⟩ ?_
    rintro s16 a w ⟨hE, hM⟩ o19 hs17 hx18
    unfold Vi at hs17
    refine wp_seq (Zc (Zd hE Za (dl rfl) rfl ?_)); intro a hE
    refine Zh hE Za (dl rfl) rfl rfl rfl ?_; intro a hE
    refine Zf ?_
    refine Zw hE rfl ?_ ?_
    ·intro hb20
     have hs17 := ZD hs17 hb20
     refine wp_skip (Zz ?_)
     obtain ⟨j21, hl22, hF23⟩ := bind_some hs17
     refine ZR (fun a w => Env 37 a [(0, (vI p0)), (1, (vI p1)), (4, (ptr b1 0)), (5, (ptr b3 0)), (6, (vI s8.2)), (7, (vB j21.1)), (8, (vB j21.2)), (9, (vI s16.2.2))] ∧ M (Old w0) w0 w [raw b3 (Flat.enc s8.1), raw b1 (Flat.enc (Vector.replicate 256 (0 : UInt8)))]) ?_ ?_
     ·skip
      refine wp_block ?_
      obtain ⟨j24, hl25, hF26⟩ := bind_some hl22
      refine ZR (fun a w => Env 37 a [(0, (vI p0)), (1, (vI p1)), (4, (ptr b1 0)), (5, (ptr b3 0)), (6, (vI s8.2)), (7, (vB j24)), (8, (vB s16.2.1)), (9, (vI s16.2.2))] ∧ M (Old w0) w0 w [raw b3 (Flat.enc s8.1), raw b1 (Flat.enc (Vector.replicate 256 (0 : UInt8)))]) ?_ ?_
      ·skip
       refine Zc (Zd hE Za (dl rfl) rfl ?_); intro a hE
       refine Zh hE Za (dl rfl) rfl rfl (bI_rem _ _ (by decide)) ?_; intro a hE
       refine Zh hE Za (dl rfl) rfl rfl rfl ?_; intro a hE
       refine Zf ?_
       refine Zw hE rfl ?_ ?_
       ·intro hb27
        have hl25 := ZD hl25 hb27
        refine wp_region_lit (Zd hE Za (dl rfl) rfl ?_); intro a hE
        refine Zd hE Za (dl rfl) rfl ?_; intro a hE
        refine Zd hE Za (dl rfl) rfl ?_; intro a hE
        obtain ⟨r28, e29, hl25⟩ := bind_some hl25
        refine Zs (vs := [(vI p0), (vB s16.1), (vB s16.2.1)]) hE Za (dl rfl) rfl cb224 (Vx _ p0 s16.1 s16.2.1 r28 e29) ?_
        rintro v w a ⟨rfl, hK⟩ hE
        have hM := hM.keep hK
        refine Ze hE Za (dl rfl) rfl ?_; intro a hE
        refine Zk ?_
        have ht30 := Option.some.inj hl25
        subst ht30
        refine Zn ?_
        exact ⟨hE.sub ⟨rfl, rfl, rfl, rfl, rfl, rfl, rfl, rfl, trivial⟩, hM⟩
       ·intro hb27
        have hl25 := ZC hl25 hb27
        refine wp_skip ?_
        have ht31 := Option.some.inj hl25
        subst ht31
        refine Zn ?_
        exact ⟨hE.sub ⟨rfl, rfl, rfl, rfl, rfl, rfl, rfl, rfl, trivial⟩, hM⟩
      ·skip
       rintro a w ⟨hE, hM⟩
       refine wp_region_lit (Zd hE Za (dl rfl) rfl ?_); intro a hE
       refine Zd hE Za (dl rfl) rfl ?_; intro a hE
       refine Zd hE Za (dl rfl) rfl ?_; intro a hE
       obtain ⟨r32, e33, hF26⟩ := bind_some hF26
       refine Zs (vs := [(vI p0), (vB s16.2.1), (vB s16.2.1)]) hE Za (dl rfl) rfl cb224 (Vx _ p0 s16.2.1 s16.2.1 r32 e33) ?_
       rintro v w a ⟨rfl, hK⟩ hE
       have hM := hM.keep hK
       refine Ze hE Za (dl rfl) rfl ?_; intro a hE
       refine Zk (Yl ?_)
       have ht34 := Option.some.inj hF26
       subst ht34
       refine Zn ?_
       exact ⟨hE.sub ⟨rfl, rfl, rfl, rfl, rfl, rfl, rfl, rfl, trivial⟩, hM⟩
     ·skip
      rintro a w ⟨hE, hM⟩
      refine wp_region_lit (Zd hE Za (dl rfl) rfl ?_); intro a hE
      refine Zh hE Za (dl rfl) rfl rfl (bI_quo _ _ (by decide)) ?_; intro a hE
      refine Ze hE Za (dl rfl) rfl ?_; intro a hE
      refine Zk (Zn ?_)
      exact ⟨_, (Option.some.inj hF23).symm, hE.sub ⟨rfl, rfl, rfl, rfl, rfl, rfl, rfl, rfl, trivial⟩, hM⟩
    ·intro hb20
     have hs17 := ZC hs17 hb20
     refine wp_exit (Zr (Zr (Yk ?_)))
     have ht35 := hx18 _ (Option.some.inj hs17).symm
     subst ht35
     refine Zn ?_
     exact ⟨hE.sub ⟨rfl, rfl, rfl, rfl, rfl, rfl, trivial⟩, hM⟩
   ·skip
    rintro a w ⟨hE, hM⟩
    refine Zz (wp_region_lit (Zd hE Za (dl rfl) rfl ?_)); intro a hE
    refine Zd hE Za (dl rfl) rfl ?_; intro a hE
    obtain ⟨x37, e38, hF15⟩ := bind_some hF15
    have hi36 := Zi e38
    refine Zo hE Za (dl rfl) rfl rfl Tryz.underlying167 ty5 hi36.1 ?_; intro a hE
    refine Zp (seg := [(vB j13)]) (cs' := Flat.enc (s8.1.setIfInBounds (s8.2).toNat j13)) hE hM Za rfl rfl rfl ty5 rfl (ZO (v := s8.1) (x := j13) hi36.1) (Flat.cell (j13 : UInt8)) (ZI (v := s8.1) (x := j13) hi36.1) ?_; intro w a hM hE
    refine Zk (Yl (Zz (wp_region_lit (Zd hE Za (dl rfl) rfl ?_)))); intro a hE
    refine Zh hE Za (dl rfl) rfl rfl rfl ?_; intro a hE
    refine Ze hE Za (dl rfl) rfl ?_; intro a hE
    refine Zk (Zn ?_)
    exact ⟨_, (Option.some.inj hF15).symm, hE.sub ⟨rfl, rfl, rfl, rfl, rfl, trivial⟩, hM⟩
  ·intro hb12
   have hs9 := ZC hs9 hb12
   refine wp_exit (Zr (Zr (Yk ?_)))
   have ht39 := hx10 _ (Option.some.inj hs9).symm
   subst ht39
   refine Zn ?_
   exact ⟨hE.sub ⟨rfl, rfl, trivial⟩, hM⟩
 ·skip
  rintro a w ⟨hE, hM⟩
  refine Zz (Zc (Zm (cs := Flat.enc j5) hE Za (dl rfl) rfl Xd rfl (hM.rawAt (pre := [])) (Flat.len _) ?_)); intro a hE
  have hM := hM.pull (pre := [_])
  refine Zp (seg := Flat.enc j5) (cs' := Flat.enc j5) hE hM Za rfl rfl rfl Xd (Flat.len _) (zle flq) (Flat.cell _) (Zl flq) ?_; intro w a hM hE
  refine Zf ?_
  have hr := Option.some.inj hF7
  subst hr
  have hq40 : Yq Tryz.prog _ _ (.cell 4 167) _ := ZQ hE rfl Xd rfl (hM.rawAt (pre := [])) (Flat.len _) rfl
  have hM := M.fst (l := []) hM
  exact wp_ret (Zy hE rfl hq40 ⟨_, rfl, rfl, hM.kept⟩)
noncomputable def Xr (p0 : UInt8) (p1 : Int) : Option (UInt8) :=
 (Xn (IntKind.u64.wrap p1)).bind fun _ => some (Zx (andI (orI (shlI (bI p0) (IntKind.u64.wrap p1)) (Ux (shlI (bI p0) (IntKind.u64.wrap p1)) 8)) 255))
theorem c_spec_l02Turn (w0 : World) (p0 : UInt8) (p1 : Int) (r : UInt8) (hF : Xr p0 p1 = some r) :
  Calls Tryz.prog 225 [(vB p0), (vI p1)].toArray w0 (fun en w' => ∃ v, en = .returned v ∧ (v = (vB r) ∧ Kept (Old w0) w0 w')) := by
 refine ZA (n := 17) Tryz.func225 rfl rfl (Nat.le_of_ble_eq_true rfl) rfl ?_
 intro a hE
 have hM := M.start w0
 unfold Xr at hF
 refine Zc (Ze hE Za (dl rfl) rfl ?_); intro a hE
 refine Zf (Zc (Zd hE Za (dl rfl) rfl ?_)); intro a hE
 refine YE hE Za (dl rfl) rfl Tryz.underlying5 Tryz.underlying2 ?_; intro a hE
 rw [byte_wide] at hE
 refine Zd hE Za (dl rfl) rfl ?_; intro a hE
 refine YE hE Za (dl rfl) rfl Tryz.underlying2 Tryz.underlying235 ?_; intro a hE
 obtain ⟨_, e1, hF⟩ := bind_some hF
 have e1 := WD e1
 refine s_sh hE Za (dl rfl) rfl rfl (bI_shl _ _ e1) ?_; intro a hE
 refine Ze hE Za (dl rfl) rfl ?_; intro a hE
 refine Zf (Zc (Zd hE Za (dl rfl) rfl ?_)); intro a hE
 refine Zd hE Za (dl rfl) rfl ?_; intro a hE
 refine s_sh hE Za (dl rfl) rfl rfl (bI_shr _ _ (by decide)) ?_; intro a hE
 refine Zh hE Za (dl rfl) rfl rfl rfl ?_; intro a hE
 refine Zh hE Za (dl rfl) rfl rfl rfl ?_; intro a hE
 refine YE hE Za (dl rfl) rfl Tryz.underlying2 Tryz.underlying5 ?_; intro a hE
 rw [Z4] at hE
 refine Ze hE Za (dl rfl) rfl ?_; intro a hE
 refine Zf ?_
 have hr := Option.some.inj hF
 subst hr
 exact wp_ret (Zy hE rfl (Zu hE rfl) ⟨_, rfl, rfl, hM.kept⟩)
noncomputable def Z7 (p0 : (List Int)) (s8 : (Vector UInt8 256) × Int) (s16 : UInt8 × Int) : Option (Fl (UInt8 × Int) UInt8) :=
 if (decide (s16.2 < (p0.length : Int))) = true then ((idx p0 s16.2).bind fun x21 => (Xr (Zx s8.2) x21).bind fun r24 => some (Fl.nx (s16.1 ^^^ r24, wr (s16.2 + 1)))) else (some (Fl.ex s16.1))
noncomputable def Xp (p0 : (List Int)) (p1 : UInt8) (s8 : (Vector UInt8 256) × Int) : Option (Fl ((Vector UInt8 256) × Int) (Vector UInt8 256)) :=
 if (decide (s8.2 < 256)) = true then ((ZJ (Z7 p0 s8) (p1, 0) : Option (UInt8)).bind fun j13 => (ZK s8.1 s8.2).bind fun x28 => some (Fl.nx ((s8.1.setIfInBounds (s8.2).toNat j13), wr (s8.2 + 1)))) else (some (Fl.ex s8.1))
noncomputable def XK (p0 : (List Int)) (p1 : UInt8) : Option ((Vector UInt8 256)) :=
 (ZJ (Xp p0 p1) ((Vector.replicate 256 (0 : UInt8)), 0) : Option ((Vector UInt8 256))).bind fun j5 => some j5
theorem c_spec_l02Rotations (w0 : World) (p0 : (List Int)) (v0_1 : Value) (hv0_1 : Ro w0 p0 [v0_1]) (p1 : UInt8) (r : (Vector UInt8 256)) (hF : XK p0 p1 = some r) :
  Calls Tryz.prog 193 [v0_1, (vB p1)].toArray w0 (fun en w' => ∃ v, en = .returned v ∧ (v = (Value.agg (Flat.enc r).toArray) ∧ Kept (Old w0) w0 w')) := by
 refine ZA (n := 34) Tryz.func193 rfl rfl (Nat.le_of_ble_eq_true rfl) rfl ?_
 intro a hE
 have hM := M.start w0
 unfold XK at hF
 refine Zc (ZE hE hM Za (dl rfl) Xd ?_); intro b1 w a hM hE
 refine Zf (Zc (YO (parts := []) (vs := []) (cs := Flat.enc (Vector.replicate 256 (0 : UInt8))) hE Za (dl rfl) rfl rfl Xd rfl ty5 Yw ?_)); intro a hE
 refine ZE hE hM Za (dl rfl) Xd ?_; intro b3 w a hM hE
 refine Zp (seg := Flat.enc (Vector.replicate 256 (0 : UInt8))) (cs' := Flat.enc (Vector.replicate 256 (0 : UInt8))) hE hM Za rfl rfl rfl Xd (Flat.len _) (zle flq) (Flat.cell _) (Zl flq) ?_; intro w a hM hE
 refine Zf (wp_seq (Zc (Ze hE Za (dl rfl) rfl ?_))); intro a hE
 refine Zf ?_
 obtain ⟨j5, hl6, hF7⟩ := bind_some hF
 refine ZS (fun a w => Env 34 a [(4, (ptr b1 0)), (5, (ptr b3 0))] ∧ M (Old w0) w0 w [raw b3 (Flat.enc j5), raw b1 (Flat.enc (Vector.replicate 256 (0 : UInt8)))]) ?_ ?_
 ·skip
  refine wp_block ?_
  refine ZL (fun (s8 : (Vector UInt8 256) × Int) a w => Env 34 a [(0, v0_1), (1, (vB p1)), (4, (ptr b1 0)), (5, (ptr b3 0)), (6, (vI s8.2))] ∧ M (Old w0) w0 w [raw b3 (Flat.enc s8.1), raw b1 (Flat.enc (Vector.replicate 256 (0 : UInt8)))]) hl6 ⟨hE.sub ⟨rfl, rfl, rfl, rfl, rfl, trivial⟩, hM⟩ ?_
  rintro s8 a w ⟨hE, hM⟩ o11 hs9 hx10
  unfold Xp at hs9
  refine wp_seq (Zc (Zd hE Za (dl rfl) rfl ?_)); intro a hE
  refine Zh hE Za (dl rfl) rfl rfl rfl ?_; intro a hE
  refine Zf ?_
  refine Zw hE rfl ?_ ?_
  ·intro hb12
   have hs9 := ZD hs9 hb12
   refine wp_skip (Zz (wp_seq (wp_block (Zc (Zd hE Za (dl rfl) rfl ?_))))); intro a hE
   refine Ze hE Za (dl rfl) rfl ?_; intro a hE
   refine Zf (wp_seq (Zc (Ze hE Za (dl rfl) rfl ?_))); intro a hE
   refine Zf ?_
   obtain ⟨j13, hl14, hF15⟩ := bind_some hs9
   refine ZS (fun a w => Env 34 a [(0, v0_1), (1, (vB p1)), (4, (ptr b1 0)), (5, (ptr b3 0)), (6, (vI s8.2)), (7, (vB j13))] ∧ M (Old w0) w0 w [raw b3 (Flat.enc s8.1), raw b1 (Flat.enc (Vector.replicate 256 (0 : UInt8)))]) ?_ ?_
   ·skip
    refine wp_block ?_
    refine ZL (fun (s16 : UInt8 × Int) a w => Env 34 a [(0, v0_1), (1, (vB p1)), (4, (ptr b1 0)), (5, (ptr b3 0)), (6, (vI s8.2)), (7, (vB s16.1)), (8, (vI s16.2))] ∧ M (Old w0) w0 w [raw b3 (Flat.enc s8.1), raw b1 (Flat.enc (Vector.replicate 256 (0 : UInt8)))]) hl14 ⟨hE.sub ⟨rfl, rfl, rfl, rfl, rfl, rfl, rfl, trivial⟩, hM⟩ ?_
    rintro s16 a w ⟨hE, hM⟩ o19 hs17 hx18
    unfold Z7 at hs17
    refine wp_seq (Zc (Zd hE Za (dl rfl) rfl ?_)); intro a hE
    refine Zd hE Za (dl rfl) rfl ?_; intro a hE
    refine Yb hE Za (dl rfl) rfl Tryz.underlying43 (hM.rd hv0_1) ?_; intro a hE
    refine Zh hE Za (dl rfl) rfl rfl rfl ?_; intro a hE
    refine Zf ?_
    refine Zw hE rfl ?_ ?_
    ·intro hb20
     have hs17 := ZD hs17 hb20
     refine wp_skip (Zz (wp_seq (wp_block (wp_region_lit (Zd hE Za (dl rfl) rfl ?_))))); intro a hE
     refine Zd hE Za (dl rfl) rfl ?_; intro a hE
     refine YE hE Za (dl rfl) rfl Tryz.underlying3 Tryz.underlying5 ?_; intro a hE
     rw [Z4] at hE
     refine Zd hE Za (dl rfl) rfl ?_; intro a hE
     refine Zd hE Za (dl rfl) rfl ?_; intro a hE
     obtain ⟨x21, e22, hs17⟩ := bind_some hs17
     have hi23 := ZY e22
     refine ZX hE Za (dl rfl) rfl rfl Tryz.underlying43 ty2 (hM.rd hv0_1) hi23.1 ?_; intro a hE
     refine Zq (v := (vI x21)) hE Za (dl rfl) rfl ty2 rfl (Wh (hM.rd hv0_1) hi23.2) ?_; intro a hE
     obtain ⟨r24, e25, hs17⟩ := bind_some hs17
     refine Zs (vs := [(vB (Zx s8.2)), (vI x21)]) hE Za (dl rfl) rfl cb225 (c_spec_l02Turn _ (Zx s8.2) x21 r24 e25) ?_
     rintro v w a ⟨rfl, hK⟩ hE
     have hM := hM.keep hK
     refine Zh hE Za (dl rfl) rfl rfl (WK s16.1 r24) ?_; intro a hE
     refine Ze hE Za (dl rfl) rfl ?_; intro a hE
     refine Zk (Yl (Zz (wp_region_lit (Zd hE Za (dl rfl) rfl ?_)))); intro a hE
     refine Zh hE Za (dl rfl) rfl rfl rfl ?_; intro a hE
     refine Ze hE Za (dl rfl) rfl ?_; intro a hE
     refine Zk (Zn ?_)
     exact ⟨_, (Option.some.inj hs17).symm, hE.sub ⟨rfl, rfl, rfl, rfl, rfl, rfl, rfl, trivial⟩, hM⟩
    ·intro hb20
     have hs17 := ZC hs17 hb20
     refine wp_exit (Zr (Zr (Yk ?_)))
     have ht26 := hx18 _ (Option.some.inj hs17).symm
     subst ht26
     refine Zn ?_
     exact ⟨hE.sub ⟨rfl, rfl, rfl, rfl, rfl, rfl, trivial⟩, hM⟩
   ·skip
    rintro a w ⟨hE, hM⟩
    refine Zz (wp_region_lit (Zd hE Za (dl rfl) rfl ?_)); intro a hE
    refine Zd hE Za (dl rfl) rfl ?_; intro a hE
    obtain ⟨x28, e29, hF15⟩ := bind_some hF15
    have hi27 := Zi e29
    refine Zo hE Za (dl rfl) rfl rfl Tryz.underlying167 ty5 hi27.1 ?_; intro a hE
    refine Zp (seg := [(vB j13)]) (cs' := Flat.enc (s8.1.setIfInBounds (s8.2).toNat j13)) hE hM Za rfl rfl rfl ty5 rfl (ZO (v := s8.1) (x := j13) hi27.1) (Flat.cell (j13 : UInt8)) (ZI (v := s8.1) (x := j13) hi27.1) ?_; intro w a hM hE
    refine Zk (Yl (Zz (wp_region_lit (Zd hE Za (dl rfl) rfl ?_)))); intro a hE
    refine Zh hE Za (dl rfl) rfl rfl rfl ?_; intro a hE
    refine Ze hE Za (dl rfl) rfl ?_; intro a hE
    refine Zk (Zn ?_)
    exact ⟨_, (Option.some.inj hF15).symm, hE.sub ⟨rfl, rfl, rfl, rfl, rfl, trivial⟩, hM⟩
  ·intro hb12
   have hs9 := ZC hs9 hb12
   refine wp_exit (Zr (Zr (Yk ?_)))
   have ht30 := hx10 _ (Option.some.inj hs9).symm
   subst ht30
   refine Zn ?_
   exact ⟨hE.sub ⟨rfl, rfl, trivial⟩, hM⟩
 ·skip
  rintro a w ⟨hE, hM⟩
  refine Zz (Zc (Zm (cs := Flat.enc j5) hE Za (dl rfl) rfl Xd rfl (hM.rawAt (pre := [])) (Flat.len _) ?_)); intro a hE
  have hM := hM.pull (pre := [_])
  refine Zp (seg := Flat.enc j5) (cs' := Flat.enc j5) hE hM Za rfl rfl rfl Xd (Flat.len _) (zle flq) (Flat.cell _) (Zl flq) ?_; intro w a hM hE
  refine Zf ?_
  have hr := Option.some.inj hF7
  subst hr
  have hq31 : Yq Tryz.prog _ _ (.cell 4 167) _ := ZQ hE rfl Xd rfl (hM.rawAt (pre := [])) (Flat.len _) rfl
  have hM := M.fst (l := []) hM
  exact wp_ret (Zy hE rfl hq31 ⟨_, rfl, rfl, hM.kept⟩)
noncomputable def VC (p0 : (Vector UInt8 256)) (p1 : (Vector UInt8 256)) (s12 : (Vector UInt8 256) × Int) : Option (Fl ((Vector UInt8 256) × Int) (Vector UInt8 256)) :=
 if (decide (s12.2 < 256)) = true then ((ZK p0 s12.2).bind fun x18 => (ZK p1 (bI x18)).bind fun x21 => (ZK s12.1 s12.2).bind fun x24 => some (Fl.nx ((s12.1.setIfInBounds (s12.2).toNat x21), wr (s12.2 + 1)))) else (some (Fl.ex s12.1))
noncomputable def V4 (p0 : (Vector UInt8 256)) (p1 : (Vector UInt8 256)) : Option ((Vector UInt8 256)) :=
 (ZJ (VC p0 p1) ((Vector.replicate 256 (0 : UInt8)), 0) : Option ((Vector UInt8 256))).bind fun j9 => some j9
theorem c_spec_l02Then (w0 : World) (p0 : (Vector UInt8 256)) (p1 : (Vector UInt8 256)) (r : (Vector UInt8 256)) (hF : V4 p0 p1 = some r) :
  Calls Tryz.prog 191 [(Value.agg (Flat.enc p0).toArray), (Value.agg (Flat.enc p1).toArray)].toArray w0 (fun en w' => ∃ v, en = .returned v ∧ (v = (Value.agg (Flat.enc r).toArray) ∧ Kept (Old w0) w0 w')) := by
 refine ZA (n := 20) Tryz.func191 rfl rfl (Nat.le_of_ble_eq_true rfl) rfl ?_
 intro a hE
 have hM := M.start w0
 unfold V4 at hF
 refine Zc (ZV (cs := Flat.enc p0) hE hM Za (dl rfl) rfl rfl ?_); intro b1 w a hM hE
 refine ZV (cs := Flat.enc p1) hE hM Za (dl rfl) rfl rfl ?_; intro b3 w a hM hE
 refine ZE hE hM Za (dl rfl) Xd ?_; intro b5 w a hM hE
 refine Zf (Zc (YO (parts := []) (vs := []) (cs := Flat.enc (Vector.replicate 256 (0 : UInt8))) hE Za (dl rfl) rfl rfl Xd rfl ty5 Yw ?_)); intro a hE
 refine ZE hE hM Za (dl rfl) Xd ?_; intro b7 w a hM hE
 refine Zp (seg := Flat.enc (Vector.replicate 256 (0 : UInt8))) (cs' := Flat.enc (Vector.replicate 256 (0 : UInt8))) hE hM Za rfl rfl rfl Xd (Flat.len _) (zle flq) (Flat.cell _) (Zl flq) ?_; intro w a hM hE
 refine Zf (wp_seq (Zc (Ze hE Za (dl rfl) rfl ?_))); intro a hE
 refine Zf ?_
 obtain ⟨j9, hl10, hF11⟩ := bind_some hF
 refine ZS (fun a w => Env 20 a [(4, (ptr b5 0)), (5, (ptr b7 0))] ∧ M (Old w0) w0 w [raw b7 (Flat.enc j9), raw b5 (Flat.enc (Vector.replicate 256 (0 : UInt8)))]) ?_ ?_
 ·skip
  refine wp_block ?_
  refine ZL (fun (s12 : (Vector UInt8 256) × Int) a w => Env 20 a [(2, (ptr b1 0)), (3, (ptr b3 0)), (4, (ptr b5 0)), (5, (ptr b7 0)), (6, (vI s12.2))] ∧ M (Old w0) w0 w [raw b7 (Flat.enc s12.1), raw b5 (Flat.enc (Vector.replicate 256 (0 : UInt8))), raw b3 (Flat.enc p1), raw b1 (Flat.enc p0)]) hl10 ⟨hE.sub ⟨rfl, rfl, rfl, rfl, rfl, trivial⟩, hM⟩ ?_
  rintro s12 a w ⟨hE, hM⟩ o15 hs13 hx14
  unfold VC at hs13
  refine wp_seq (Zc (Zd hE Za (dl rfl) rfl ?_)); intro a hE
  refine Zh hE Za (dl rfl) rfl rfl rfl ?_; intro a hE
  refine Zf ?_
  refine Zw hE rfl ?_ ?_
  ·intro hb16
   have hs13 := ZD hs13 hb16
   refine wp_skip (Zz (wp_seq (wp_block (wp_region_lit (Zd hE Za (dl rfl) rfl ?_))))); intro a hE
   refine Zd hE Za (dl rfl) rfl ?_; intro a hE
   obtain ⟨x18, e19, hs13⟩ := bind_some hs13
   have hi17 := Zi e19
   refine Zo hE Za (dl rfl) rfl rfl Tryz.underlying167 ty5 hi17.1 ?_; intro a hE
   refine Zq (v := (vB x18)) hE Za (dl rfl) rfl ty5 rfl (At.vec (hM.rawAt (pre := [_, _, _])) hi17.2) ?_; intro a hE
   obtain ⟨x21, e22, hs13⟩ := bind_some hs13
   have hi20 := Zi e22
   refine Zo hE Za (dl rfl) rfl rfl Tryz.underlying167 ty5 hi20.1 ?_; intro a hE
   refine Zq (v := (vB x21)) hE Za (dl rfl) rfl ty5 rfl (At.vec (hM.rawAt (pre := [_, _])) hi20.2) ?_; intro a hE
   obtain ⟨x24, e25, hs13⟩ := bind_some hs13
   have hi23 := Zi e25
   refine Zo hE Za (dl rfl) rfl rfl Tryz.underlying167 ty5 hi23.1 ?_; intro a hE
   refine Zp (seg := [(vB x21)]) (cs' := Flat.enc (s12.1.setIfInBounds (s12.2).toNat x21)) hE hM Za rfl rfl rfl ty5 rfl (ZO (v := s12.1) (x := x21) hi23.1) (Flat.cell (x21 : UInt8)) (ZI (v := s12.1) (x := x21) hi23.1) ?_; intro w a hM hE
   refine Zk (Yl (Zz (wp_region_lit (Zd hE Za (dl rfl) rfl ?_)))); intro a hE
   refine Zh hE Za (dl rfl) rfl rfl rfl ?_; intro a hE
   refine Ze hE Za (dl rfl) rfl ?_; intro a hE
   refine Zk (Zn ?_)
   exact ⟨_, (Option.some.inj hs13).symm, hE.sub ⟨rfl, rfl, rfl, rfl, rfl, trivial⟩, hM⟩
  ·intro hb16
   have hs13 := ZC hs13 hb16
   refine wp_exit (Zr (Zr (Yk ?_)))
   have ht26 := hx14 _ (Option.some.inj hs13).symm
   subst ht26
   refine Zn ?_
   have hM := hM.pull (pre := [_])
   have hM := hM.pull (pre := [_])
   have hM := M.fst (l := [_, _]) hM
   exact ⟨hE.sub ⟨rfl, rfl, trivial⟩, hM⟩
 ·skip
  rintro a w ⟨hE, hM⟩
  refine Zz (Zc (Zm (cs := Flat.enc j9) hE Za (dl rfl) rfl Xd rfl (hM.rawAt (pre := [])) (Flat.len _) ?_)); intro a hE
  have hM := hM.pull (pre := [_])
  refine Zp (seg := Flat.enc j9) (cs' := Flat.enc j9) hE hM Za rfl rfl rfl Xd (Flat.len _) (zle flq) (Flat.cell _) (Zl flq) ?_; intro w a hM hE
  refine Zf ?_
  have hr := Option.some.inj hF11
  subst hr
  have hq27 : Yq Tryz.prog _ _ (.cell 4 167) _ := ZQ hE rfl Xd rfl (hM.rawAt (pre := [])) (Flat.len _) rfl
  have hM := M.fst (l := []) hM
  exact wp_ret (Zy hE rfl hq27 ⟨_, rfl, rfl, hM.kept⟩)
noncomputable def Uj (p0 : Int) (s4 : UInt8 × Int × UInt8) : Option (Fl (UInt8 × Int × UInt8) UInt8) :=
 if (decide (s4.2.1 > 0)) = true then (((if ((Int.tmod s4.2.1 2) == 1) = true then ((YB p0 s4.2.2 s4.1).bind fun r16 => some r16) else (some s4.2.2) : Option (UInt8)).bind fun j12 => (YB p0 s4.1 s4.1).bind fun r20 => some (r20, j12) : Option (UInt8 × UInt8)).bind fun j9 => some (Fl.nx (j9.1, wr (Int.tdiv s4.2.1 2), j9.2))) else (some (Fl.ex s4.2.2))
noncomputable def Wq (p0 : Int) (p1 : UInt8) (p2 : Int) : Option (UInt8) :=
 (ZJ (Uj p0) (p1, p2, 1) : Option (UInt8)).bind fun j1 => some j1
theorem c_spec_l01Power (w0 : World) (p0 : Int) (p1 : UInt8) (p2 : Int) (r : UInt8) (hF : Wq p0 p1 p2 = some r) :
  Calls Tryz.prog 226 [(vI p0), (vB p1), (vI p2)].toArray w0 (fun en w' => ∃ v, en = .returned v ∧ (v = (vB r) ∧ Kept (Old w0) w0 w')) := by
 refine ZA (n := 24) Tryz.func226 rfl rfl (Nat.le_of_ble_eq_true rfl) rfl ?_
 intro a hE
 have hM := M.start w0
 unfold Wq at hF
 refine Zc (Ze hE Za (dl rfl) rfl ?_); intro a hE
 refine Zf (Zc (Ze hE Za (dl rfl) rfl ?_)); intro a hE
 refine Zf ?_
 obtain ⟨j1, hl2, hF3⟩ := bind_some hF
 refine ZR (fun a w => Env 24 a [(7, (vB j1))] ∧ M (Old w0) w0 w []) ?_ ?_
 ·skip
  refine wp_block ?_
  refine ZL (fun (s4 : UInt8 × Int × UInt8) a w => Env 24 a [(0, (vI p0)), (1, (vB s4.1)), (2, (vI s4.2.1)), (7, (vB s4.2.2))] ∧ M (Old w0) w0 w []) hl2 ⟨hE.sub ⟨rfl, rfl, rfl, rfl, trivial⟩, hM⟩ ?_
  rintro s4 a w ⟨hE, hM⟩ o7 hs5 hx6
  unfold Uj at hs5
  refine wp_seq (Zc (Zd hE Za (dl rfl) rfl ?_)); intro a hE
  refine Zh hE Za (dl rfl) rfl rfl rfl ?_; intro a hE
  refine Zf ?_
  refine Zw hE rfl ?_ ?_
  ·intro hb8
   have hs5 := ZD hs5 hb8
   refine wp_skip (Zz ?_)
   obtain ⟨j9, hl10, hF11⟩ := bind_some hs5
   refine ZR (fun a w => Env 24 a [(0, (vI p0)), (1, (vB j9.1)), (2, (vI s4.2.1)), (7, (vB j9.2))] ∧ M (Old w0) w0 w []) ?_ ?_
   ·skip
    refine wp_block ?_
    obtain ⟨j12, hl13, hF14⟩ := bind_some hl10
    refine ZR (fun a w => Env 24 a [(0, (vI p0)), (1, (vB s4.1)), (2, (vI s4.2.1)), (7, (vB j12))] ∧ M (Old w0) w0 w []) ?_ ?_
    ·skip
     refine Zc (Zd hE Za (dl rfl) rfl ?_); intro a hE
     refine Zh hE Za (dl rfl) rfl rfl (bI_rem _ _ (by decide)) ?_; intro a hE
     refine Zh hE Za (dl rfl) rfl rfl rfl ?_; intro a hE
     refine Zf ?_
     refine Zw hE rfl ?_ ?_
     ·intro hb15
      have hl13 := ZD hl13 hb15
      refine wp_region_lit (Zd hE Za (dl rfl) rfl ?_); intro a hE
      refine Zd hE Za (dl rfl) rfl ?_; intro a hE
      refine Zd hE Za (dl rfl) rfl ?_; intro a hE
      obtain ⟨r16, e17, hl13⟩ := bind_some hl13
      refine Zs (vs := [(vI p0), (vB s4.2.2), (vB s4.1)]) hE Za (dl rfl) rfl cb224 (Vx _ p0 s4.2.2 s4.1 r16 e17) ?_
      rintro v w a ⟨rfl, hK⟩ hE
      have hM := hM.keep hK
      refine Ze hE Za (dl rfl) rfl ?_; intro a hE
      refine Zk ?_
      have ht18 := Option.some.inj hl13
      subst ht18
      refine Zn ?_
      exact ⟨hE.sub ⟨rfl, rfl, rfl, rfl, trivial⟩, hM⟩
     ·intro hb15
      have hl13 := ZC hl13 hb15
      refine wp_skip ?_
      have ht19 := Option.some.inj hl13
      subst ht19
      refine Zn ?_
      exact ⟨hE.sub ⟨rfl, rfl, rfl, rfl, trivial⟩, hM⟩
    ·skip
     rintro a w ⟨hE, hM⟩
     refine wp_region_lit (Zd hE Za (dl rfl) rfl ?_); intro a hE
     refine Zd hE Za (dl rfl) rfl ?_; intro a hE
     refine Zd hE Za (dl rfl) rfl ?_; intro a hE
     obtain ⟨r20, e21, hF14⟩ := bind_some hF14
     refine Zs (vs := [(vI p0), (vB s4.1), (vB s4.1)]) hE Za (dl rfl) rfl cb224 (Vx _ p0 s4.1 s4.1 r20 e21) ?_
     rintro v w a ⟨rfl, hK⟩ hE
     have hM := hM.keep hK
     refine Ze hE Za (dl rfl) rfl ?_; intro a hE
     refine Zk (Yl ?_)
     have ht22 := Option.some.inj hF14
     subst ht22
     refine Zn ?_
     exact ⟨hE.sub ⟨rfl, rfl, rfl, rfl, trivial⟩, hM⟩
   ·skip
    rintro a w ⟨hE, hM⟩
    refine wp_region_lit (Zd hE Za (dl rfl) rfl ?_); intro a hE
    refine Zh hE Za (dl rfl) rfl rfl (bI_quo _ _ (by decide)) ?_; intro a hE
    refine Ze hE Za (dl rfl) rfl ?_; intro a hE
    refine Zk (Zn ?_)
    exact ⟨_, (Option.some.inj hF11).symm, hE.sub ⟨rfl, rfl, rfl, rfl, trivial⟩, hM⟩
  ·intro hb8
   have hs5 := ZC hs5 hb8
   refine wp_exit (Zr (Zr (Yk ?_)))
   have ht23 := hx6 _ (Option.some.inj hs5).symm
   subst ht23
   refine Zn ?_
   exact ⟨hE.sub ⟨rfl, trivial⟩, hM⟩
 ·skip
  rintro a w ⟨hE, hM⟩
  refine Zc (Zd hE Za (dl rfl) rfl ?_); intro a hE
  refine Ze hE Za (dl rfl) rfl ?_; intro a hE
  refine Zf ?_
  have hr := Option.some.inj hF3
  subst hr
  exact wp_ret (Zy hE rfl (Zu hE rfl) ⟨_, rfl, rfl, hM.kept⟩)
noncomputable def WI (p0 : Int) (p1 : UInt8) : Option (UInt8) :=
 (Wq p0 p1 254).bind fun r1 => some r1
theorem c_spec_l01Inv (w0 : World) (p0 : Int) (p1 : UInt8) (r : UInt8) (hF : WI p0 p1 = some r) :
  Calls Tryz.prog 194 [(vI p0), (vB p1)].toArray w0 (fun en w' => ∃ v, en = .returned v ∧ (v = (vB r) ∧ Kept (Old w0) w0 w')) := by
 refine ZA (n := 8) Tryz.func194 rfl rfl (Nat.le_of_ble_eq_true rfl) rfl ?_
 intro a hE
 have hM := M.start w0
 unfold WI at hF
 refine Zc (Ze hE Za (dl rfl) rfl ?_); intro a hE
 refine Zf (Zc (Zd hE Za (dl rfl) rfl ?_)); intro a hE
 refine Zd hE Za (dl rfl) rfl ?_; intro a hE
 obtain ⟨r1, e2, hF⟩ := bind_some hF
 refine Zs (vs := [(vI p0), (vB p1), (vI 254)]) hE Za (dl rfl) rfl cb226 (c_spec_l01Power _ p0 p1 254 r1 e2) ?_
 rintro v w a ⟨rfl, hK⟩ hE
 have hM := hM.keep hK
 refine Ze hE Za (dl rfl) rfl ?_; intro a hE
 refine Zf ?_
 have hr := Option.some.inj hF
 subst hr
 exact wp_ret (Zy hE rfl (Zu hE rfl) ⟨_, rfl, rfl, hM.kept⟩)
noncomputable def Uo (s16 : (Vector (Vector UInt8 4) 4) × Int) (s24 : (Vector (Vector UInt8 4) 4) × Int) : Option (Fl ((Vector (Vector UInt8 4) 4) × Int) (Vector (Vector UInt8 4) 4)) :=
 if (decide (s24.2 < 4)) = true then ((WI 285 (Zx (U4 s16.2 (wr (4 + s24.2))))).bind fun r30 => (ZK s24.1 s16.2).bind fun x33 => (ZK x33 s24.2).bind fun x36 => some (Fl.nx ((s24.1.setIfInBounds (s16.2).toNat (x33.setIfInBounds (s24.2).toNat r30)), wr (s24.2 + 1)))) else (some (Fl.ex s24.1))
noncomputable def Uh (s16 : (Vector (Vector UInt8 4) 4) × Int) : Option (Fl ((Vector (Vector UInt8 4) 4) × Int) (Vector (Vector UInt8 4) 4)) :=
 if (decide (s16.2 < 4)) = true then ((ZJ (Uo s16) (s16.1, 0) : Option ((Vector (Vector UInt8 4) 4))).bind fun j21 => some (Fl.nx (j21, wr (s16.2 + 1)))) else (some (Fl.ex s16.1))
noncomputable def Uq (s43 : (Vector UInt8 16) × Int) : Option (Fl ((Vector UInt8 16) × Int) (Vector UInt8 16)) :=
 if (decide (s43.2 < 16)) = true then ((ZK s43.1 s43.2).bind fun x49 => some (Fl.nx ((s43.1.setIfInBounds (s43.2).toNat (Zx (Int.tmod (wr ((wr (13 * s43.2)) + 4)) 16))), wr (s43.2 + 1)))) else (some (Fl.ex s43.1))
noncomputable def VD (p0 : Int) : Option (GCipher) :=
 (VE 285 254).bind fun r5 => (XK ([0, 1, 4] : List Int) 90).bind fun r9 => (V4 r5 r9).bind fun r11 => (ZJ (Uh) ((Vector.replicate 4 (Vector.replicate 4 (0 : UInt8))), 0) : Option ((Vector (Vector UInt8 4) 4))).bind fun j13 => (ZJ (Uq) ((Vector.replicate 16 (0 : UInt8)), 0) : Option ((Vector UInt8 16))).bind fun j40 => some (⟨285, r11, j13, j40, p0⟩ : GCipher)
theorem c_spec_l04House (w0 : World) (p0 : Int) (r : GCipher) (hF : VD p0 = some r) :
  Calls Tryz.prog 154 [(vI p0)].toArray w0 (fun en w' => ∃ v, en = .returned v ∧ (v = (Value.agg (Flat.enc r).toArray) ∧ Kept (Old w0) w0 w')) := by
 refine ZA (n := 46) Tryz.func154 rfl rfl (Nat.le_of_ble_eq_true rfl) rfl ?_
 intro a hE
 have hM := M.start w0
 unfold VD at hF
 refine Zc (ZE hE hM Za (dl rfl) WL ?_); intro b1 w a hM hE
 refine Zf (Zc (Zd hE Za (dl rfl) rfl ?_)); intro a hE
 refine s_buildStr (parts := [(0, .const (vI 285)), (4, .tmp 7)]) (vs := [(0, (vI 285)), (4, (vI p0))]) (cs := cat [[(vI 285)], Flat.enc (Vector.replicate 256 (0 : UInt8)), Flat.enc (Vector.replicate 4 (Vector.replicate 4 (0 : UInt8))), Flat.enc (Vector.replicate 16 (0 : UInt8)), [(vI p0)]]) hE Za (dl rfl) rfl rfl WL pl173 (W6 (pre := []) (seg := [(vI 0)]) (seg' := [(vI 285)]) (post := [Flat.enc (Vector.replicate 256 (0 : UInt8)), Flat.enc (Vector.replicate 4 (Vector.replicate 4 (0 : UInt8))), Flat.enc (Vector.replicate 16 (0 : UInt8)), [(vI 0)]]) rfl cl0 rfl rfl rfl (W6 (pre := [[(vI 285)], Flat.enc (Vector.replicate 256 (0 : UInt8)), Flat.enc (Vector.replicate 4 (Vector.replicate 4 (0 : UInt8))), Flat.enc (Vector.replicate 16 (0 : UInt8))]) (seg := [(vI 0)]) (seg' := [(vI p0)]) (post := []) rfl (cl1 (n := 1) (m := 288) rfl (cl1 (n := 256) (m := 32) (Flat.len _) (cl1 (n := 16) (m := 16) (Flat.len _) (cl1 (n := 16) (m := 0) (Flat.len _) cl0)))) rfl rfl rfl fill_nil)) ?_; intro a hE
 refine ZE hE hM Za (dl rfl) WL ?_; intro b3 w a hM hE
 refine Zp (seg := cat [[(vI 285)], Flat.enc (Vector.replicate 256 (0 : UInt8)), Flat.enc (Vector.replicate 4 (Vector.replicate 4 (0 : UInt8))), Flat.enc (Vector.replicate 16 (0 : UInt8)), [(vI p0)]]) (cs' := cat [[(vI 285)], Flat.enc (Vector.replicate 256 (0 : UInt8)), Flat.enc (Vector.replicate 4 (Vector.replicate 4 (0 : UInt8))), Flat.enc (Vector.replicate 16 (0 : UInt8)), [(vI p0)]]) hE hM Za rfl rfl rfl WL (ZB (cl1 (n := 1) (m := 289) rfl (cl1 (n := 256) (m := 33) (Flat.len _) (cl1 (n := 16) (m := 17) (Flat.len _) (cl1 (n := 16) (m := 1) (Flat.len _) (cl1 (n := 1) (m := 0) rfl cl0)))))) (Nat.le_of_eq ((Nat.zero_add _).trans (Eq.trans (ZB (cl1 (n := 1) (m := 289) rfl (cl1 (n := 256) (m := 33) (Flat.len _) (cl1 (n := 16) (m := 17) (Flat.len _) (cl1 (n := 16) (m := 1) (Flat.len _) (cl1 (n := 1) (m := 0) rfl cl0)))))) (Eq.symm (ZB (cl1 (n := 1) (m := 289) rfl (cl1 (n := 256) (m := 33) (Flat.len _) (cl1 (n := 16) (m := 17) (Flat.len _) (cl1 (n := 16) (m := 1) (Flat.len _) (cl1 (n := 1) (m := 0) rfl cl0)))))))))) (WH (cc1 (Flat.cell (285 : Int)) (cc1 (Flat.cell _) (cc1 (Flat.cell _) (cc1 (Flat.cell _) (cc1 (Flat.cell (p0 : Int)) cc0)))))) (Zl (Eq.trans (ZB (cl1 (n := 1) (m := 289) rfl (cl1 (n := 256) (m := 33) (Flat.len _) (cl1 (n := 16) (m := 17) (Flat.len _) (cl1 (n := 16) (m := 1) (Flat.len _) (cl1 (n := 1) (m := 0) rfl cl0)))))) (Eq.symm (ZB (cl1 (n := 1) (m := 289) rfl (cl1 (n := 256) (m := 33) (Flat.len _) (cl1 (n := 16) (m := 17) (Flat.len _) (cl1 (n := 16) (m := 1) (Flat.len _) (cl1 (n := 1) (m := 0) rfl cl0))))))))) ?_; intro w a hM hE
 refine Zf (Zc ?_)
 obtain ⟨r5, e6, hF⟩ := bind_some hF
 refine Zs (vs := [(vI 285), (vI 254)]) hE Za (dl rfl) rfl cb192 (c_spec_l02Power _ 285 254 r5 e6) ?_
 rintro v w a ⟨rfl, hK⟩ hE
 have hM := hM.keep hK
 refine Ye (xs := [.const (vI 0), .const (vI 1), .const (vI 4)]) (l := ([0, 1, 4] : List Int)) (vs := [(vI 0), (vI 1), (vI 4)]) hE hM Za (dl rfl) rfl rfl Tryz.underlying43 ty2 rfl (by decide) rfl ?_; intro u7 w a hM hE
 obtain ⟨r9, e10, hF⟩ := bind_some hF
 refine Zs (vs := [u7, (vB 90)]) hE Za (dl rfl) rfl cb193 (c_spec_l02Rotations _ ([0, 1, 4] : List Int) u7 (hM.sl (pre := []) noB) 90 r9 e10) ?_
 rintro v w a ⟨rfl, hK⟩ hE
 have hM := hM.keep hK
 obtain ⟨r11, e12, hF⟩ := bind_some hF
 refine Zs (vs := [(Value.agg (Flat.enc r5).toArray), (Value.agg (Flat.enc r9).toArray)]) hE Za (dl rfl) rfl cb191 (c_spec_l02Then _ r5 r9 r11 e12) ?_
 rintro v w a ⟨rfl, hK⟩ hE
 have hM := hM.keep hK
 refine Zg hE Za (dl rfl) rfl (fd173_1) ?_; intro a hE
 have hM := hM.pull (pre := [_])
 refine Zp (seg := Flat.enc r11) (cs' := cat [[(vI 285)], Flat.enc r11, Flat.enc (Vector.replicate 4 (Vector.replicate 4 (0 : UInt8))), Flat.enc (Vector.replicate 16 (0 : UInt8)), [(vI p0)]]) hE hM Za rfl rfl rfl Xd (Flat.len _) (WR (pre := [[(vI 285)]]) (cl1 (n := 1) (m := 0) rfl cl0) flq) (Flat.cell _) (YF (pre := [[(vI 285)]]) (cl1 (n := 1) (m := 0) rfl cl0) flq) ?_; intro w a hM hE
 refine Zf (wp_seq (Zc (Ze hE Za (dl rfl) rfl ?_))); intro a hE
 refine Zf ?_
 obtain ⟨j13, hl14, hF15⟩ := bind_some hF
 refine ZS (fun a w => Env 46 a [(2, (ptr b1 0)), (3, (ptr b3 0))] ∧ M (Old w0) w0 w [raw b3 (cat [[(vI 285)], Flat.enc r11, Flat.enc j13, Flat.enc (Vector.replicate 16 (0 : UInt8)), [(vI p0)]]), raw b1 (cat [[(vI 0)], Flat.enc (Vector.replicate 256 (0 : UInt8)), Flat.enc (Vector.replicate 4 (Vector.replicate 4 (0 : UInt8))), Flat.enc (Vector.replicate 16 (0 : UInt8)), [(vI 0)]])]) ?_ ?_
 ·skip
  refine wp_block ?_
  have hM := hM.pull (pre := [_, _])
  have hM := hM.pull (pre := [_])
  have hM := M.fst (l := [_, _]) hM
  refine ZL (fun (s16 : (Vector (Vector UInt8 4) 4) × Int) a w => Env 46 a [(2, (ptr b1 0)), (3, (ptr b3 0)), (4, (vI s16.2))] ∧ M (Old w0) w0 w [raw b3 (cat [[(vI 285)], Flat.enc r11, Flat.enc s16.1, Flat.enc (Vector.replicate 16 (0 : UInt8)), [(vI p0)]]), raw b1 (cat [[(vI 0)], Flat.enc (Vector.replicate 256 (0 : UInt8)), Flat.enc (Vector.replicate 4 (Vector.replicate 4 (0 : UInt8))), Flat.enc (Vector.replicate 16 (0 : UInt8)), [(vI 0)]])]) hl14 ⟨hE.sub ⟨rfl, rfl, rfl, trivial⟩, hM⟩ ?_
  rintro s16 a w ⟨hE, hM⟩ o19 hs17 hx18
  unfold Uh at hs17
  refine wp_seq (Zc (Zd hE Za (dl rfl) rfl ?_)); intro a hE
  refine Zh hE Za (dl rfl) rfl rfl rfl ?_; intro a hE
  refine Zf ?_
  refine Zw hE rfl ?_ ?_
  ·intro hb20
   have hs17 := ZD hs17 hb20
   refine wp_skip (Zz (wp_seq (wp_block (Zc (Ze hE Za (dl rfl) rfl ?_))))); intro a hE
   refine Zf ?_
   obtain ⟨j21, hl22, hF23⟩ := bind_some hs17
   refine ZS (fun a w => Env 46 a [(2, (ptr b1 0)), (3, (ptr b3 0)), (4, (vI s16.2))] ∧ M (Old w0) w0 w [raw b3 (cat [[(vI 285)], Flat.enc r11, Flat.enc j21, Flat.enc (Vector.replicate 16 (0 : UInt8)), [(vI p0)]]), raw b1 (cat [[(vI 0)], Flat.enc (Vector.replicate 256 (0 : UInt8)), Flat.enc (Vector.replicate 4 (Vector.replicate 4 (0 : UInt8))), Flat.enc (Vector.replicate 16 (0 : UInt8)), [(vI 0)]])]) ?_ ?_
   ·skip
    refine wp_block ?_
    refine ZL (fun (s24 : (Vector (Vector UInt8 4) 4) × Int) a w => Env 46 a [(2, (ptr b1 0)), (3, (ptr b3 0)), (4, (vI s16.2)), (5, (vI s24.2))] ∧ M (Old w0) w0 w [raw b3 (cat [[(vI 285)], Flat.enc r11, Flat.enc s24.1, Flat.enc (Vector.replicate 16 (0 : UInt8)), [(vI p0)]]), raw b1 (cat [[(vI 0)], Flat.enc (Vector.replicate 256 (0 : UInt8)), Flat.enc (Vector.replicate 4 (Vector.replicate 4 (0 : UInt8))), Flat.enc (Vector.replicate 16 (0 : UInt8)), [(vI 0)]])]) hl22 ⟨hE.sub ⟨rfl, rfl, rfl, rfl, trivial⟩, hM⟩ ?_
    rintro s24 a w ⟨hE, hM⟩ o27 hs25 hx26
    unfold Uo at hs25
    refine wp_seq (Zc (Zd hE Za (dl rfl) rfl ?_)); intro a hE
    refine Zh hE Za (dl rfl) rfl rfl rfl ?_; intro a hE
    refine Zf ?_
    refine Zw hE rfl ?_ ?_
    ·intro hb28
     have hs25 := ZD hs25 hb28
     refine wp_skip (Zz (wp_seq (wp_block ?_)))
     obtain ⟨r30, e31, hs25⟩ := bind_some hs25
     obtain ⟨x33, e34, hs25⟩ := bind_some hs25
     have hi32 := Zi e34
     obtain ⟨x36, e37, hs25⟩ := bind_some hs25
     have hi35 := Zi e37
     refine Yo (n := 46) (hd := [_, _, _, _, _, _, _, _, _, _, _]) (tl := [_]) YU rfl rfl [22, 23, 24, 25, 26, 27, 28, 29, 30, 31, 32] (by decide) (fun w => M (Old w0) w0 w [raw b3 (cat [[(vI 285)], Flat.enc r11, Flat.enc s24.1, Flat.enc (Vector.replicate 16 (0 : UInt8)), [(vI p0)]]), raw b1 (cat [[(vI 0)], Flat.enc (Vector.replicate 256 (0 : UInt8)), Flat.enc (Vector.replicate 4 (Vector.replicate 4 (0 : UInt8))), Flat.enc (Vector.replicate 16 (0 : UInt8)), [(vI 0)]])]) (fun j => ([fun v _ => v = (vI s16.2), fun v _ => v = (vI s24.2), fun v _ => v = (vI s16.2), fun v _ => v = (vI s24.2), fun v _ => v = (vI (wr (4 + s24.2))), fun v _ => v = (vI (U4 s16.2 (wr (4 + s24.2)))), fun v _ => v = (vB (Zx (U4 s16.2 (wr (4 + s24.2))))), fun v _ => v = (vB r30), fun v _ => v = (ptr b3 (0 + 257)), fun v _ => v = (ptr b3 (0 + 257 + (s16.2).toNat * 4)), fun v _ => v = (ptr b3 (0 + 257 + (s16.2).toNat * 4 + (s24.2).toNat * 1))] : List (Value → World → Prop)).getD j (fun _ _ => True)) (fun _ _ h hk => h.keep hk) (gup (Zj (Zj (Zj (Zj (Zj (Zj (Zj (Zj (Zj (Zj (Zj Vq)))))))))))) hE hM.drew (ZM (Zb ?_ (Zb ?_ (Zb ?_ (Zb ?_ (Zb ?_ (Zb ?_ (Zb ?_ (Zb ?_ (Zb ?_ (Zb ?_ (Zb ?_ ZH)))))))))))) ?_
     ·intro a w ux29 hE hM hp
      refine Zd hE Za (dl rfl) rfl ?_; intro a hE
      exact ⟨Kept.refl _ _, _, _, rfl, hE, rfl⟩
     ·intro a w ux29 hE hM hp
      refine Zd hE Za (dl rfl) rfl ?_; intro a hE
      exact ⟨Kept.refl _ _, _, _, rfl, hE, rfl⟩
     ·intro a w ux29 hE hM hp
      refine Zd hE Za (dl rfl) rfl ?_; intro a hE
      exact ⟨Kept.refl _ _, _, _, rfl, hE, rfl⟩
     ·intro a w ux29 hE hM hp
      refine Zd hE Za (dl rfl) rfl ?_; intro a hE
      exact ⟨Kept.refl _ _, _, _, rfl, hE, rfl⟩
     ·intro a w ux29 hE hM hp
      have f3 : ux29 3 = (vI s24.2) := hp 0 _ rfl rfl
      refine Zh hE Za (dl rfl) rfl (lk rfl f3) rfl ?_; intro a hE
      exact ⟨Kept.refl _ _, _, _, rfl, hE, rfl⟩
     ·intro a w ux29 hE hM hp
      have f2 : ux29 2 = (vI s16.2) := hp 0 _ rfl rfl
      have f4 : ux29 4 = (vI (wr (4 + s24.2))) := hp 1 _ rfl rfl
      refine Zh hE Za (dl rfl) (lk rfl f2) (lk rfl f4) rfl ?_; intro a hE
      exact ⟨Kept.refl _ _, _, _, rfl, hE, rfl⟩
     ·intro a w ux29 hE hM hp
      have f5 : ux29 5 = (vI (U4 s16.2 (wr (4 + s24.2)))) := hp 0 _ rfl rfl
      refine YE hE Za (dl rfl) (lk rfl f5) Tryz.underlying3 Tryz.underlying5 ?_; intro a hE
      rw [Z4] at hE
      exact ⟨Kept.refl _ _, _, _, rfl, hE, rfl⟩
     ·intro a w ux29 hE hM hp
      have f6 : ux29 6 = (vB (Zx (U4 s16.2 (wr (4 + s24.2))))) := hp 0 _ rfl rfl
      refine Zs (vs := [(vI 285), (vB (Zx (U4 s16.2 (wr (4 + s24.2)))))]) hE Za (dl rfl) (ZZ (ZT rfl (ZT (lk rfl f6) Y7))) cb194 (c_spec_l01Inv _ 285 (Zx (U4 s16.2 (wr (4 + s24.2)))) r30 e31) ?_
      rintro v w a ⟨rfl, hK⟩ hE
      exact ⟨hK, _, _, rfl, hE, rfl⟩
     ·intro a w ux29 hE hM hp
      refine Zg hE Za (dl rfl) rfl (fd173_2) ?_; intro a hE
      exact ⟨Kept.refl _ _, _, _, rfl, hE, rfl⟩
     ·intro a w ux29 hE hM hp
      have f0 : ux29 0 = (vI s16.2) := hp 1 _ rfl rfl
      have f8 : ux29 8 = (ptr b3 (0 + 257)) := hp 0 _ rfl rfl
      refine Zo hE Za (dl rfl) (lk rfl f8) (lk rfl f0) Tryz.underlying170 Y8 hi32.1 ?_; intro a hE
      exact ⟨Kept.refl _ _, _, _, rfl, hE, rfl⟩
     ·intro a w ux29 hE hM hp
      have f1 : ux29 1 = (vI s24.2) := hp 1 _ rfl rfl
      have f9 : ux29 9 = (ptr b3 (0 + 257 + (s16.2).toNat * 4)) := hp 0 _ rfl rfl
      refine Zo hE Za (dl rfl) (lk rfl f9) (lk rfl f1) Tryz.underlying168 ty5 hi35.1 ?_; intro a hE
      exact ⟨Kept.refl _ _, _, _, rfl, hE, rfl⟩
     ·intro a w ux29 hE hM hg
      have f0 : ux29 0 = (vI s16.2) := hg 0 (by decide)
      have f1 : ux29 1 = (vI s24.2) := hg 1 (by decide)
      have f2 : ux29 2 = (vI s16.2) := hg 2 (by decide)
      have f3 : ux29 3 = (vI s24.2) := hg 3 (by decide)
      have f4 : ux29 4 = (vI (wr (4 + s24.2))) := hg 4 (by decide)
      have f5 : ux29 5 = (vI (U4 s16.2 (wr (4 + s24.2)))) := hg 5 (by decide)
      have f6 : ux29 6 = (vB (Zx (U4 s16.2 (wr (4 + s24.2))))) := hg 6 (by decide)
      have f7 : ux29 7 = (vB r30) := hg 7 (by decide)
      have f8 : ux29 8 = (ptr b3 (0 + 257)) := hg 8 (by decide)
      have f9 : ux29 9 = (ptr b3 (0 + 257 + (s16.2).toNat * 4)) := hg 9 (by decide)
      have f10 : ux29 10 = (ptr b3 (0 + 257 + (s16.2).toNat * 4 + (s24.2).toNat * 1)) := hg 10 (by decide)
      have hE := hE.sub (e' := [(22, (vI s16.2)), (23, (vI s24.2)), (24, (vI s16.2)), (25, (vI s24.2)), (26, (vI (wr (4 + s24.2)))), (27, (vI (U4 s16.2 (wr (4 + s24.2))))), (28, (vB (Zx (U4 s16.2 (wr (4 + s24.2)))))), (29, (vB r30)), (30, (ptr b3 (0 + 257))), (31, (ptr b3 (0 + 257 + (s16.2).toNat * 4))), (32, (ptr b3 (0 + 257 + (s16.2).toNat * 4 + (s24.2).toNat * 1))), (2, (ptr b1 0)), (3, (ptr b3 0)), (4, (vI s16.2)), (5, (vI s24.2)), (18, (vI s24.2)), (19, (vT (decide (s24.2 < 4))))]) ⟨lk rfl f0, lk rfl f1, lk rfl f2, lk rfl f3, lk rfl f4, lk rfl f5, lk rfl f6, lk rfl f7, lk rfl f8, lk rfl f9, lk rfl f10, rfl, rfl, rfl, rfl, rfl, rfl, trivial⟩
      refine Zp (seg := [(vB r30)]) (cs' := cat [[(vI 285)], Flat.enc r11, Flat.enc (s24.1.setIfInBounds (s16.2).toNat (x33.setIfInBounds (s24.2).toNat r30)), Flat.enc (Vector.replicate 16 (0 : UInt8)), [(vI p0)]]) hE hM Za rfl rfl rfl ty5 rfl (fit_catI (o' := (s16.2).toNat * 4 + (0 + (s24.2).toNat * 1)) (pre := [[(vI 285)], Flat.enc r11]) (seg := Flat.enc s24.1) (post := [Flat.enc (Vector.replicate 16 (0 : UInt8)), [(vI p0)]]) (cl1 (n := 1) (m := 256) rfl (cl1 (n := 256) (m := 0) (Flat.len _) cl0)) (Vy (o' := 0 + (s24.2).toNat * 1) hi32 (ZO (v := x33) (x := r30) hi35.1) (by first | omega | (simp only [Flat.n] <;> omega))) (by first | omega | (simp only [Flat.n] <;> omega))) (Flat.cell (r30 : UInt8)) (splice_catI (o' := (s16.2).toNat * 4 + (0 + (s24.2).toNat * 1)) (pre := [[(vI 285)], Flat.enc r11]) (seg := Flat.enc s24.1) (post := [Flat.enc (Vector.replicate 16 (0 : UInt8)), [(vI p0)]]) (cl1 (n := 1) (m := 256) rfl (cl1 (n := 256) (m := 0) (Flat.len _) cl0)) (Vy (o' := 0 + (s24.2).toNat * 1) hi32 (ZO (v := x33) (x := r30) hi35.1) (by first | omega | (simp only [Flat.n] <;> omega))) (WG (o' := 0 + (s24.2).toNat * 1) hi32 (ZO (v := x33) (x := r30) hi35.1) (ZI (v := x33) (x := r30) hi35.1) (by first | omega | (simp only [Flat.n] <;> omega))) (by first | omega | (simp only [Flat.n] <;> omega))) ?_; intro w a hM hE
      refine Zk (Yl (Zz (wp_region_lit (Zd hE Za (dl rfl) rfl ?_)))); intro a hE
      refine Zh hE Za (dl rfl) rfl rfl rfl ?_; intro a hE
      refine Ze hE Za (dl rfl) rfl ?_; intro a hE
      refine Zk (Zn ?_)
      exact ⟨_, (Option.some.inj hs25).symm, hE.sub ⟨rfl, rfl, rfl, rfl, trivial⟩, hM⟩
    ·intro hb28
     have hs25 := ZC hs25 hb28
     refine wp_exit (Zr (Zr (Yk ?_)))
     have ht38 := hx26 _ (Option.some.inj hs25).symm
     subst ht38
     refine Zn ?_
     exact ⟨hE.sub ⟨rfl, rfl, rfl, trivial⟩, hM⟩
   ·skip
    rintro a w ⟨hE, hM⟩
    refine Yl (Zz (wp_region_lit (Zd hE Za (dl rfl) rfl ?_))); intro a hE
    refine Zh hE Za (dl rfl) rfl rfl rfl ?_; intro a hE
    refine Ze hE Za (dl rfl) rfl ?_; intro a hE
    refine Zk (Zn ?_)
    exact ⟨_, (Option.some.inj hF23).symm, hE.sub ⟨rfl, rfl, rfl, trivial⟩, hM⟩
  ·intro hb20
   have hs17 := ZC hs17 hb20
   refine wp_exit (Zr (Zr (Yk ?_)))
   have ht39 := hx18 _ (Option.some.inj hs17).symm
   subst ht39
   refine Zn ?_
   exact ⟨hE.sub ⟨rfl, rfl, trivial⟩, hM⟩
 ·skip
  rintro a w ⟨hE, hM⟩
  refine Zz (wp_seq (Zc (Ze hE Za (dl rfl) rfl ?_))); intro a hE
  refine Zf ?_
  obtain ⟨j40, hl41, hF42⟩ := bind_some hF15
  refine ZS (fun a w => Env 46 a [(2, (ptr b1 0)), (3, (ptr b3 0))] ∧ M (Old w0) w0 w [raw b3 (cat [[(vI 285)], Flat.enc r11, Flat.enc j13, Flat.enc j40, [(vI p0)]]), raw b1 (cat [[(vI 0)], Flat.enc (Vector.replicate 256 (0 : UInt8)), Flat.enc (Vector.replicate 4 (Vector.replicate 4 (0 : UInt8))), Flat.enc (Vector.replicate 16 (0 : UInt8)), [(vI 0)]])]) ?_ ?_
  ·skip
   refine wp_block ?_
   refine ZL (fun (s43 : (Vector UInt8 16) × Int) a w => Env 46 a [(2, (ptr b1 0)), (3, (ptr b3 0)), (6, (vI s43.2))] ∧ M (Old w0) w0 w [raw b3 (cat [[(vI 285)], Flat.enc r11, Flat.enc j13, Flat.enc s43.1, [(vI p0)]]), raw b1 (cat [[(vI 0)], Flat.enc (Vector.replicate 256 (0 : UInt8)), Flat.enc (Vector.replicate 4 (Vector.replicate 4 (0 : UInt8))), Flat.enc (Vector.replicate 16 (0 : UInt8)), [(vI 0)]])]) hl41 ⟨hE.sub ⟨rfl, rfl, rfl, trivial⟩, hM⟩ ?_
   rintro s43 a w ⟨hE, hM⟩ o46 hs44 hx45
   unfold Uq at hs44
   refine wp_seq (Zc (Zd hE Za (dl rfl) rfl ?_)); intro a hE
   refine Zh hE Za (dl rfl) rfl rfl rfl ?_; intro a hE
   refine Zf ?_
   refine Zw hE rfl ?_ ?_
   ·intro hb47
    have hs44 := ZD hs44 hb47
    refine wp_skip (Zz (wp_seq (wp_block (wp_region_lit (Zd hE Za (dl rfl) rfl ?_))))); intro a hE
    refine Zd hE Za (dl rfl) rfl ?_; intro a hE
    refine Zh hE Za (dl rfl) rfl rfl rfl ?_; intro a hE
    refine Zh hE Za (dl rfl) rfl rfl rfl ?_; intro a hE
    refine Zh hE Za (dl rfl) rfl rfl (bI_rem _ _ (by decide)) ?_; intro a hE
    refine YE hE Za (dl rfl) rfl Tryz.underlying3 Tryz.underlying5 ?_; intro a hE
    rw [Z4] at hE
    refine Zg hE Za (dl rfl) rfl (fd173_3) ?_; intro a hE
    obtain ⟨x49, e50, hs44⟩ := bind_some hs44
    have hi48 := Zi e50
    refine Zo hE Za (dl rfl) rfl rfl Tryz.underlying171 ty5 hi48.1 ?_; intro a hE
    refine Zp (seg := [(vB (Zx (Int.tmod (wr ((wr (13 * s43.2)) + 4)) 16)))]) (cs' := cat [[(vI 285)], Flat.enc r11, Flat.enc j13, Flat.enc (s43.1.setIfInBounds (s43.2).toNat (Zx (Int.tmod (wr ((wr (13 * s43.2)) + 4)) 16))), [(vI p0)]]) hE hM Za rfl rfl rfl ty5 rfl (fit_catI (o' := 0 + (s43.2).toNat * 1) (pre := [[(vI 285)], Flat.enc r11, Flat.enc j13]) (seg := Flat.enc s43.1) (post := [[(vI p0)]]) (cl1 (n := 1) (m := 272) rfl (cl1 (n := 256) (m := 16) (Flat.len _) (cl1 (n := 16) (m := 0) (Flat.len _) cl0))) (ZO (v := s43.1) (x := Zx (Int.tmod (wr ((wr (13 * s43.2)) + 4)) 16)) hi48.1) (by first | omega | (simp only [Flat.n] <;> omega))) (Flat.cell (Zx (Int.tmod (wr ((wr (13 * s43.2)) + 4)) 16) : UInt8)) (splice_catI (o' := 0 + (s43.2).toNat * 1) (pre := [[(vI 285)], Flat.enc r11, Flat.enc j13]) (seg := Flat.enc s43.1) (post := [[(vI p0)]]) (cl1 (n := 1) (m := 272) rfl (cl1 (n := 256) (m := 16) (Flat.len _) (cl1 (n := 16) (m := 0) (Flat.len _) cl0))) (ZO (v := s43.1) (x := Zx (Int.tmod (wr ((wr (13 * s43.2)) + 4)) 16)) hi48.1) (ZI (v := s43.1) (x := Zx (Int.tmod (wr ((wr (13 * s43.2)) + 4)) 16)) hi48.1) (by first | omega | (simp only [Flat.n] <;> omega))) ?_; intro w a hM hE
    refine Zk (Yl (Zz (wp_region_lit (Zd hE Za (dl rfl) rfl ?_)))); intro a hE
    refine Zh hE Za (dl rfl) rfl rfl rfl ?_; intro a hE
    refine Ze hE Za (dl rfl) rfl ?_; intro a hE
    refine Zk (Zn ?_)
    exact ⟨_, (Option.some.inj hs44).symm, hE.sub ⟨rfl, rfl, rfl, trivial⟩, hM⟩
   ·intro hb47
    have hs44 := ZC hs44 hb47
    refine wp_exit (Zr (Zr (Yk ?_)))
    have ht51 := hx45 _ (Option.some.inj hs44).symm
    subst ht51
    refine Zn ?_
    exact ⟨hE.sub ⟨rfl, rfl, trivial⟩, hM⟩
  ·skip
   rintro a w ⟨hE, hM⟩
   refine Zz (Zc (Zm (cs := Flat.enc (⟨285, r11, j13, j40, p0⟩ : GCipher)) hE Za (dl rfl) rfl WL rfl (hM.rawAt (pre := [])) (ZB (cl1 (n := 1) (m := 289) rfl (cl1 (n := 256) (m := 33) (Flat.len _) (cl1 (n := 16) (m := 17) (Flat.len _) (cl1 (n := 16) (m := 1) (Flat.len _) (cl1 (n := 1) (m := 0) rfl cl0)))))) ?_)); intro a hE
   have hM := hM.pull (pre := [_])
   refine Zp (seg := cat [[(vI ((⟨285, r11, j13, j40, p0⟩ : GCipher).Field))], Flat.enc ((⟨285, r11, j13, j40, p0⟩ : GCipher).Box), Flat.enc ((⟨285, r11, j13, j40, p0⟩ : GCipher).Mix), Flat.enc ((⟨285, r11, j13, j40, p0⟩ : GCipher).Places), [(vI ((⟨285, r11, j13, j40, p0⟩ : GCipher).Rounds))]]) (cs' := cat [[(vI ((⟨285, r11, j13, j40, p0⟩ : GCipher).Field))], Flat.enc ((⟨285, r11, j13, j40, p0⟩ : GCipher).Box), Flat.enc ((⟨285, r11, j13, j40, p0⟩ : GCipher).Mix), Flat.enc ((⟨285, r11, j13, j40, p0⟩ : GCipher).Places), [(vI ((⟨285, r11, j13, j40, p0⟩ : GCipher).Rounds))]]) hE hM Za rfl rfl rfl WL (ZB (cl1 (n := 1) (m := 289) rfl (cl1 (n := 256) (m := 33) (Flat.len _) (cl1 (n := 16) (m := 17) (Flat.len _) (cl1 (n := 16) (m := 1) (Flat.len _) (cl1 (n := 1) (m := 0) rfl cl0)))))) (Nat.le_of_eq ((Nat.zero_add _).trans (Eq.trans (ZB (cl1 (n := 1) (m := 289) rfl (cl1 (n := 256) (m := 33) (Flat.len _) (cl1 (n := 16) (m := 17) (Flat.len _) (cl1 (n := 16) (m := 1) (Flat.len _) (cl1 (n := 1) (m := 0) rfl cl0)))))) (Eq.symm (ZB (cl1 (n := 1) (m := 289) rfl (cl1 (n := 256) (m := 33) (Flat.len _) (cl1 (n := 16) (m := 17) (Flat.len _) (cl1 (n := 16) (m := 1) (Flat.len _) (cl1 (n := 1) (m := 0) rfl cl0)))))))))) (WH (cc1 (Flat.cell ((⟨285, r11, j13, j40, p0⟩ : GCipher).Field : Int)) (cc1 (Flat.cell _) (cc1 (Flat.cell _) (cc1 (Flat.cell _) (cc1 (Flat.cell ((⟨285, r11, j13, j40, p0⟩ : GCipher).Rounds : Int)) cc0)))))) (Zl (Eq.trans (ZB (cl1 (n := 1) (m := 289) rfl (cl1 (n := 256) (m := 33) (Flat.len _) (cl1 (n := 16) (m := 17) (Flat.len _) (cl1 (n := 16) (m := 1) (Flat.len _) (cl1 (n := 1) (m := 0) rfl cl0)))))) (Eq.symm (ZB (cl1 (n := 1) (m := 289) rfl (cl1 (n := 256) (m := 33) (Flat.len _) (cl1 (n := 16) (m := 17) (Flat.len _) (cl1 (n := 16) (m := 1) (Flat.len _) (cl1 (n := 1) (m := 0) rfl cl0))))))))) ?_; intro w a hM hE
   refine Zf ?_
   have hr := Option.some.inj hF42
   subst hr
   have hq52 : Yq Tryz.prog _ _ (.cell 2 173) _ := ZQ hE rfl WL rfl (hM.rawAt (pre := [])) (ZB (cl1 (n := 1) (m := 289) rfl (cl1 (n := 256) (m := 33) (Flat.len _) (cl1 (n := 16) (m := 17) (Flat.len _) (cl1 (n := 16) (m := 1) (Flat.len _) (cl1 (n := 1) (m := 0) rfl cl0)))))) rfl
   have hM := M.fst (l := []) hM
   exact wp_ret (Zy hE rfl hq52 ⟨_, rfl, rfl, hM.kept⟩)
noncomputable def Vd : Option (GCipher) :=
 (VD 4).bind fun r3 => some r3
theorem c_spec_l12Cipher (w0 : World)  (r : GCipher) (hF : Vd  = some r) :
  Calls Tryz.prog 133 [].toArray w0 (fun en w' => ∃ v, en = .returned v ∧ (v = (Value.agg (Flat.enc r).toArray) ∧ Kept (Old w0) w0 w')) := by
 refine ZA (n := 2) Tryz.func133 rfl rfl (Nat.le_of_ble_eq_true rfl) rfl ?_
 intro a hE
 have hM := M.start w0
 unfold Vd at hF
 refine Zc (ZE hE hM Za (dl rfl) WL ?_); intro b1 w a hM hE
 refine Zf (Zc ?_)
 obtain ⟨r3, e4, hF⟩ := bind_some hF
 refine Zs (vs := [(vI 4)]) hE Za (dl rfl) rfl cb154 (c_spec_l04House _ 4 r3 e4) ?_
 rintro v w a ⟨rfl, hK⟩ hE
 have hM := hM.keep hK
 refine Zp (seg := cat [[(vI r3.Field)], Flat.enc r3.Box, Flat.enc r3.Mix, Flat.enc r3.Places, [(vI r3.Rounds)]]) (cs' := cat [[(vI r3.Field)], Flat.enc r3.Box, Flat.enc r3.Mix, Flat.enc r3.Places, [(vI r3.Rounds)]]) hE hM Za rfl rfl rfl WL (ZB (cl1 (n := 1) (m := 289) rfl (cl1 (n := 256) (m := 33) (Flat.len _) (cl1 (n := 16) (m := 17) (Flat.len _) (cl1 (n := 16) (m := 1) (Flat.len _) (cl1 (n := 1) (m := 0) rfl cl0)))))) (Nat.le_of_eq ((Nat.zero_add _).trans (Eq.trans (ZB (cl1 (n := 1) (m := 289) rfl (cl1 (n := 256) (m := 33) (Flat.len _) (cl1 (n := 16) (m := 17) (Flat.len _) (cl1 (n := 16) (m := 1) (Flat.len _) (cl1 (n := 1) (m := 0) rfl cl0)))))) (Eq.symm (ZB (cl1 (n := 1) (m := 289) rfl (cl1 (n := 256) (m := 33) (Flat.len _) (cl1 (n := 16) (m := 17) (Flat.len _) (cl1 (n := 16) (m := 1) (Flat.len _) (cl1 (n := 1) (m := 0) rfl cl0)))))))))) (WH (cc1 (Flat.cell (r3.Field : Int)) (cc1 (Flat.cell _) (cc1 (Flat.cell _) (cc1 (Flat.cell _) (cc1 (Flat.cell (r3.Rounds : Int)) cc0)))))) (Zl (Eq.trans (ZB (cl1 (n := 1) (m := 289) rfl (cl1 (n := 256) (m := 33) (Flat.len _) (cl1 (n := 16) (m := 17) (Flat.len _) (cl1 (n := 16) (m := 1) (Flat.len _) (cl1 (n := 1) (m := 0) rfl cl0)))))) (Eq.symm (ZB (cl1 (n := 1) (m := 289) rfl (cl1 (n := 256) (m := 33) (Flat.len _) (cl1 (n := 16) (m := 17) (Flat.len _) (cl1 (n := 16) (m := 1) (Flat.len _) (cl1 (n := 1) (m := 0) rfl cl0))))))))) ?_; intro w a hM hE
 refine Zf ?_
 have hr := Option.some.inj hF
 subst hr
 have hq5 : Yq Tryz.prog _ _ (.cell 0 173) _ := ZQ hE rfl WL rfl (hM.rawAt (pre := [])) (ZB (cl1 (n := 1) (m := 289) rfl (cl1 (n := 256) (m := 33) (Flat.len _) (cl1 (n := 16) (m := 17) (Flat.len _) (cl1 (n := 16) (m := 1) (Flat.len _) (cl1 (n := 1) (m := 0) rfl cl0)))))) rfl
 have hM := M.fst (l := []) hM
 exact wp_ret (Zy hE rfl hq5 ⟨_, rfl, rfl, hM.kept⟩)
noncomputable def Vo (p1 : UInt8) (s8 : (Vector UInt8 16) × Int) : Option (Fl ((Vector UInt8 16) × Int) (Vector UInt8 16)) :=
 if (decide (s8.2 < 16)) = true then ((ZK s8.1 s8.2).bind fun x14 => (ZK s8.1 s8.2).bind fun x17 => some (Fl.nx ((s8.1.setIfInBounds (s8.2).toNat (x14 ^^^ p1)), wr (s8.2 + 1)))) else (some (Fl.ex s8.1))
noncomputable def WE (p0 : (Vector UInt8 16)) (p1 : UInt8) : Option ((Vector UInt8 16)) :=
 (ZJ (Vo p1) (p0, 0) : Option ((Vector UInt8 16))).bind fun j5 => some j5
theorem c_spec_l12Changed (w0 : World) (p0 : (Vector UInt8 16)) (p1 : UInt8) (r : (Vector UInt8 16)) (hF : WE p0 p1 = some r) :
  Calls Tryz.prog 134 [(Value.agg (Flat.enc p0).toArray), (vB p1)].toArray w0 (fun en w' => ∃ v, en = .returned v ∧ (v = (Value.agg (Flat.enc r).toArray) ∧ Kept (Old w0) w0 w')) := by
 refine ZA (n := 18) Tryz.func134 rfl rfl (Nat.le_of_ble_eq_true rfl) rfl ?_
 intro a hE
 have hM := M.start w0
 unfold WE at hF
 refine Zc (ZV (cs := Flat.enc p0) hE hM Za (dl rfl) rfl rfl ?_); intro b1 w a hM hE
 refine ZE hE hM Za (dl rfl) ZF ?_; intro b3 w a hM hE
 refine Zf (wp_seq (Zc (Ze hE Za (dl rfl) rfl ?_))); intro a hE
 refine Zf ?_
 obtain ⟨j5, hl6, hF7⟩ := bind_some hF
 refine ZS (fun a w => Env 18 a [(2, (ptr b1 0)), (4, (ptr b3 0))] ∧ M (Old w0) w0 w [raw b3 (Flat.enc (Vector.replicate 16 (0 : UInt8))), raw b1 (Flat.enc j5)]) ?_ ?_
 ·skip
  refine wp_block ?_
  refine ZL (fun (s8 : (Vector UInt8 16) × Int) a w => Env 18 a [(1, (vB p1)), (2, (ptr b1 0)), (4, (ptr b3 0)), (5, (vI s8.2))] ∧ M (Old w0) w0 w [raw b3 (Flat.enc (Vector.replicate 16 (0 : UInt8))), raw b1 (Flat.enc s8.1)]) hl6 ⟨hE.sub ⟨rfl, rfl, rfl, rfl, trivial⟩, hM⟩ ?_
  rintro s8 a w ⟨hE, hM⟩ o11 hs9 hx10
  unfold Vo at hs9
  refine wp_seq (Zc (Zd hE Za (dl rfl) rfl ?_)); intro a hE
  refine Zh hE Za (dl rfl) rfl rfl rfl ?_; intro a hE
  refine Zf ?_
  refine Zw hE rfl ?_ ?_
  ·intro hb12
   have hs9 := ZD hs9 hb12
   refine wp_skip (Zz (wp_seq (wp_block (wp_region_lit (Zd hE Za (dl rfl) rfl ?_))))); intro a hE
   refine Zd hE Za (dl rfl) rfl ?_; intro a hE
   obtain ⟨x14, e15, hs9⟩ := bind_some hs9
   have hi13 := Zi e15
   refine Zo hE Za (dl rfl) rfl rfl Tryz.underlying70 ty5 hi13.1 ?_; intro a hE
   refine Zq (v := (vB x14)) hE Za (dl rfl) rfl ty5 rfl (At.vec (hM.rawAt (pre := [_])) hi13.2) ?_; intro a hE
   refine Zd hE Za (dl rfl) rfl ?_; intro a hE
   refine Zh hE Za (dl rfl) rfl rfl (WK x14 p1) ?_; intro a hE
   obtain ⟨x17, e18, hs9⟩ := bind_some hs9
   have hi16 := Zi e18
   refine Zo hE Za (dl rfl) rfl rfl Tryz.underlying70 ty5 hi16.1 ?_; intro a hE
   have hM := hM.pull (pre := [_])
   refine Zp (seg := [(vB (x14 ^^^ p1))]) (cs' := Flat.enc (s8.1.setIfInBounds (s8.2).toNat (x14 ^^^ p1))) hE hM Za rfl rfl rfl ty5 rfl (ZO (v := s8.1) (x := x14 ^^^ p1) hi16.1) (Flat.cell (x14 ^^^ p1 : UInt8)) (ZI (v := s8.1) (x := x14 ^^^ p1) hi16.1) ?_; intro w a hM hE
   refine Zk (Yl (Zz (wp_region_lit (Zd hE Za (dl rfl) rfl ?_)))); intro a hE
   refine Zh hE Za (dl rfl) rfl rfl rfl ?_; intro a hE
   refine Ze hE Za (dl rfl) rfl ?_; intro a hE
   refine Zk (Zn ?_)
   have hM := hM.pull (pre := [_])
   exact ⟨_, (Option.some.inj hs9).symm, hE.sub ⟨rfl, rfl, rfl, rfl, trivial⟩, hM⟩
  ·intro hb12
   have hs9 := ZC hs9 hb12
   refine wp_exit (Zr (Zr (Yk ?_)))
   have ht19 := hx10 _ (Option.some.inj hs9).symm
   subst ht19
   refine Zn ?_
   exact ⟨hE.sub ⟨rfl, rfl, trivial⟩, hM⟩
 ·skip
  rintro a w ⟨hE, hM⟩
  refine Zz (Zc (Zm (cs := Flat.enc j5) hE Za (dl rfl) rfl ZF rfl (hM.rawAt (pre := [_])) (Flat.len _) ?_)); intro a hE
  refine Zp (seg := Flat.enc j5) (cs' := Flat.enc j5) hE hM Za rfl rfl rfl ZF (Flat.len _) (zle flq) (Flat.cell _) (Zl flq) ?_; intro w a hM hE
  refine Zf ?_
  have hr := Option.some.inj hF7
  subst hr
  have hq20 : Yq Tryz.prog _ _ (.cell 4 70) _ := ZQ hE rfl ZF rfl (hM.rawAt (pre := [])) (Flat.len _) rfl
  have hM := M.fst (l := []) hM
  exact wp_ret (Zy hE rfl hq20 ⟨_, rfl, rfl, hM.kept⟩)
noncomputable def VV (p0 : (Vector UInt8 16)) (p1 : UInt8) (s10 : (List UInt8) × Int) : Option (Fl ((List UInt8) × Int) (List UInt8)) :=
 if (decide (s10.2 < 16)) = true then ((ZK p0 s10.2).bind fun x18 => (app 1 s10.1 ([x18 ^^^ p1] : List UInt8)).bind fun l22 => some (Fl.nx ((s10.1 ++ ([x18 ^^^ p1] : List UInt8)), wr (s10.2 + 1)))) else (some (Fl.ex s10.1))
noncomputable def XS (p0 : (Vector UInt8 16)) (p1 : UInt8) : Option ((List UInt8)) :=
 (ZJ (VV p0 p1) (([] : List UInt8), 0) : Option ((List UInt8))).bind fun j5 => some j5
theorem c_spec_l08Masked (w0 : World) (p0 : (Vector UInt8 16)) (p1 : UInt8) (r : (List UInt8)) (hF : XS p0 p1 = some r) :
  Calls Tryz.prog 181 [(Value.agg (Flat.enc p0).toArray), (vB p1)].toArray w0 (fun en w' => ∃ v, en = .returned v ∧ (∃ (y1 : Value), v = y1 ∧ Fr w0 w' [osl NoB (r : List UInt8) y1] ∧ Kept (Old w0) w0 w')) := by
 refine ZA (n := 21) Tryz.func181 rfl rfl (Nat.le_of_ble_eq_true rfl) rfl ?_
 intro a hE
 have hM := M.start w0
 unfold XS at hF
 refine Zc (ZV (cs := Flat.enc p0) hE hM Za (dl rfl) rfl rfl ?_); intro b1 w a hM hE
 refine Ze hE Za (dl rfl) rfl ?_; intro a hE
 refine Zf (Zc (Ye (xs := []) (l := ([] : List UInt8)) (vs := []) hE hM Za (dl rfl) rfl rfl Tryz.underlying57 ty5 rfl (by decide) rfl ?_)); intro u3 w a hM hE
 refine Ze hE Za (dl rfl) rfl ?_; intro a hE
 refine Zf (wp_seq (Zc (Ze hE Za (dl rfl) rfl ?_))); intro a hE
 refine Zf ?_
 obtain ⟨j5, hl6, hF7⟩ := bind_some hF
 refine ZS (fun a w => ∃ (u8 : Value), Env 21 a [(5, u8)] ∧ M (Old w0) w0 w [osl NoB (j5 : List UInt8) u8]) ?_ ?_
 ·skip
  refine wp_block ?_
  have hM := hM.pull (pre := [_])
  refine ZL (fun (s10 : (List UInt8) × Int) a w => ∃ (u11 : Value), Env 21 a [(1, (vB p1)), (2, (ptr b1 0)), (5, u11), (6, (vI s10.2))] ∧ M (Old w0) w0 w [raw b1 (Flat.enc p0), osl NoB (s10.1 : List UInt8) u11]) hl6 ⟨u3, hE.sub ⟨rfl, rfl, rfl, rfl, trivial⟩, hM⟩ ?_
  rintro s10 a w ⟨u11, hE, hM⟩ o15 hs13 hx14
  unfold VV at hs13
  refine wp_seq (Zc (Zd hE Za (dl rfl) rfl ?_)); intro a hE
  refine Zh hE Za (dl rfl) rfl rfl rfl ?_; intro a hE
  refine Zf ?_
  refine Zw hE rfl ?_ ?_
  ·intro hb16
   have hs13 := ZD hs13 hb16
   refine wp_skip (Zz (wp_seq (wp_block (wp_region_lit (Zd hE Za (dl rfl) rfl ?_))))); intro a hE
   refine Zd hE Za (dl rfl) rfl ?_; intro a hE
   obtain ⟨x18, e19, hs13⟩ := bind_some hs13
   have hi17 := Zi e19
   refine Zo hE Za (dl rfl) rfl rfl Tryz.underlying70 ty5 hi17.1 ?_; intro a hE
   refine Zq (v := (vB x18)) hE Za (dl rfl) rfl ty5 rfl (At.vec (hM.rawAt (pre := [])) hi17.2) ?_; intro a hE
   refine Zd hE Za (dl rfl) rfl ?_; intro a hE
   refine Zh hE Za (dl rfl) rfl rfl (WK x18 p1) ?_; intro a hE
   refine Ye (xs := [.tmp 17]) (l := ([x18 ^^^ p1] : List UInt8)) (vs := [(vB (x18 ^^^ p1))]) hE hM Za (dl rfl) rfl rfl Tryz.underlying57 ty5 rfl (by decide) rfl ?_; intro u20 w a hM hE
   obtain ⟨l22, e23, hs13⟩ := bind_some hs13
   obtain ⟨e26, rfl⟩ := Yu e23
   have hM := hM.pull (pre := [_, _])
   refine Yj hE hM Za (dl rfl) rfl rfl (hM.sl (pre := [_]) noB) Tryz.underlying57 ty5 rfl (by decide) e26 ?_; intro u24 w a hM hE
   refine Ze hE Za (dl rfl) rfl ?_; intro a hE
   refine Zk (Yl (Zz (wp_region_lit (Zd hE Za (dl rfl) rfl ?_)))); intro a hE
   refine Zh hE Za (dl rfl) rfl rfl rfl ?_; intro a hE
   refine Ze hE Za (dl rfl) rfl ?_; intro a hE
   refine Zk (Zn ?_)
   have hM := hM.pull (pre := [_, _])
   have hM := M.fst (l := [_, _]) hM
   exact ⟨_, (Option.some.inj hs13).symm, u24, hE.sub ⟨rfl, rfl, rfl, rfl, trivial⟩, hM⟩
  ·intro hb16
   have hs13 := ZC hs13 hb16
   refine wp_exit (Zr (Zr (Yk ?_)))
   have ht27 := hx14 _ (Option.some.inj hs13).symm
   subst ht27
   refine Zn ?_
   have hM := hM.pull (pre := [_])
   have hM := M.fst (l := [_]) hM
   exact ⟨u11, hE.sub ⟨rfl, trivial⟩, hM⟩
 ·skip
  rintro a w ⟨u8, hE, hM⟩
  refine Zz (Zc (Zd hE Za (dl rfl) rfl ?_)); intro a hE
  refine Ze hE Za (dl rfl) rfl ?_; intro a hE
  refine Zf ?_
  have hr := Option.some.inj hF7
  subst hr
  exact wp_ret (Zy hE rfl (Zu hE rfl) ⟨_, rfl, u8, rfl, hM.outF (Vm W2), hM.kept⟩)
noncomputable def Ud (p0 : (List UInt8)) : Option ((List UInt8)) :=
 (app 1 ([] : List UInt8) p0).bind fun l3 => some (([] : List UInt8) ++ p0)
theorem c_spec_l01Copy (w0 : World) (p0 : (List UInt8)) (v0_1 : Value) (hv0_1 : Ro w0 p0 [v0_1]) (r : (List UInt8)) (hF : Ud p0 = some r) :
  Calls Tryz.prog 95 [v0_1].toArray w0 (fun en w' => ∃ v, en = .returned v ∧ (∃ (y1 : Value), v = y1 ∧ Fr w0 w' [osl NoB (r : List UInt8) y1] ∧ Kept (Old w0) w0 w')) := by
 refine ZA (n := 6) Tryz.func95 rfl rfl (Nat.le_of_ble_eq_true rfl) rfl ?_
 intro a hE
 have hM := M.start w0
 unfold Ud at hF
 refine Zc (Ze hE Za (dl rfl) rfl ?_); intro a hE
 refine Zf (Zc (Ye (xs := []) (l := ([] : List UInt8)) (vs := []) hE hM Za (dl rfl) rfl rfl Tryz.underlying57 ty5 rfl (by decide) rfl ?_)); intro u1 w a hM hE
 refine Zd hE Za (dl rfl) rfl ?_; intro a hE
 obtain ⟨l3, e4, hF⟩ := bind_some hF
 obtain ⟨e7, rfl⟩ := Yu e4
 refine Yj hE hM Za (dl rfl) rfl rfl (hM.rd hv0_1) Tryz.underlying57 ty5 rfl (by decide) e7 ?_; intro u5 w a hM hE
 refine Ze hE Za (dl rfl) rfl ?_; intro a hE
 refine Zf ?_
 have hr := Option.some.inj hF
 subst hr
 exact wp_ret (Zy hE rfl (Zu hE rfl) ⟨_, rfl, u5, rfl, hM.outF (Vm W2), hM.kept⟩)
noncomputable def U3 (s16 : (List UInt8)) : Option (Fl (List UInt8) (List UInt8)) :=
 if ((Int.tmod (s16.length : Int) 16) != 8) = true then ((app 1 s16 ([0] : List UInt8)).bind fun l25 => some (Fl.nx (s16 ++ ([0] : List UInt8)))) else (some (Fl.ex s16))
noncomputable def WZ (p0 : (List UInt8)) (s36 : (List UInt8) × Int) : Option (Fl ((List UInt8) × Int) (List UInt8)) :=
 if (decide (s36.2 ≥ 0)) = true then ((Xn (IntKind.u64.wrap (wr (8 * s36.2)))).bind fun _ => (app 1 s36.1 ([Zx (andI (Ux (p0.length : Int) (IntKind.u64.wrap (wr (8 * s36.2)))) 255)] : List UInt8)).bind fun l46 => some (Fl.nx ((s36.1 ++ ([Zx (andI (Ux (p0.length : Int) (IntKind.u64.wrap (wr (8 * s36.2)))) 255)] : List UInt8)), wr (s36.2 - 1)))) else (some (Fl.ex s36.1))
noncomputable def UE (p0 : (List UInt8)) : Option ((List UInt8)) :=
 (Ud p0).bind fun r1 => (app 1 r1 ([128] : List UInt8)).bind fun l6 => (ZJ (U3) (r1 ++ ([128] : List UInt8)) : Option ((List UInt8))).bind fun j11 => (ZJ (WZ p0) (j11, 7) : Option ((List UInt8))).bind fun j31 => some j31
theorem c_spec_l08Pad (w0 : World) (p0 : (List UInt8)) (v0_1 : Value) (hv0_1 : Ro w0 p0 [v0_1]) (r : (List UInt8)) (hF : UE p0 = some r) :
  Calls Tryz.prog 188 [v0_1].toArray w0 (fun en w' => ∃ v, en = .returned v ∧ (∃ (y1 : Value), v = y1 ∧ Fr w0 w' [osl NoB (r : List UInt8) y1] ∧ Kept (Old w0) w0 w')) := by
 refine ZA (n := 32) Tryz.func188 rfl rfl (Nat.le_of_ble_eq_true rfl) rfl ?_
 intro a hE
 have hM := M.start w0
 unfold UE at hF
 refine Zc (Ze hE Za (dl rfl) rfl ?_); intro a hE
 refine Zf (Zc (Zd hE Za (dl rfl) rfl ?_)); intro a hE
 obtain ⟨r1, e2, hF⟩ := bind_some hF
 refine Zs (vs := [v0_1]) hE Za (dl rfl) rfl cb95 (c_spec_l01Copy _ p0 v0_1 (hM.rdo hv0_1) r1 e2) ?_
 rintro u3 w a ⟨_, rfl, hFr, hK⟩ hE
 have hM := hM.add hK hFr
 refine Ye (xs := [.const (vB 128)]) (l := ([128] : List UInt8)) (vs := [(vB 128)]) hE hM Za (dl rfl) rfl rfl Tryz.underlying57 ty5 rfl (by decide) rfl ?_; intro u4 w a hM hE
 obtain ⟨l6, e7, hF⟩ := bind_some hF
 obtain ⟨e10, rfl⟩ := Yu e7
 have hM := hM.pull (pre := [_])
 refine Yj hE hM Za (dl rfl) rfl rfl (hM.sl (pre := [_]) noB) Tryz.underlying57 ty5 rfl (by decide) e10 ?_; intro u8 w a hM hE
 refine Ze hE Za (dl rfl) rfl ?_; intro a hE
 refine Zf ?_
 obtain ⟨j11, hl12, hF13⟩ := bind_some hF
 refine ZR (fun a w => ∃ (u14 : Value), Env 32 a [(0, v0_1), (3, u14)] ∧ M (Old w0) w0 w [osl NoB (j11 : List UInt8) u14]) ?_ ?_
 ·skip
  refine wp_block ?_
  have hM := M.fst (l := [_]) hM
  refine ZL (fun (s16 : (List UInt8)) a w => ∃ (u17 : Value), Env 32 a [(0, v0_1), (3, u17)] ∧ M (Old w0) w0 w [osl NoB (s16 : List UInt8) u17]) hl12 ⟨u8, hE.sub ⟨rfl, rfl, trivial⟩, hM⟩ ?_
  rintro s16 a w ⟨u17, hE, hM⟩ o21 hs19 hx20
  unfold U3 at hs19
  refine wp_seq (Zc (Zd hE Za (dl rfl) rfl ?_)); intro a hE
  refine Yb hE Za (dl rfl) rfl Tryz.underlying57 (hM.sl (pre := []) noB) ?_; intro a hE
  refine Zh hE Za (dl rfl) rfl rfl (bI_rem _ _ (by decide)) ?_; intro a hE
  refine Zh hE Za (dl rfl) rfl rfl rfl ?_; intro a hE
  refine Zf ?_
  refine Zw hE rfl ?_ ?_
  ·intro hb22
   have hs19 := ZD hs19 hb22
   refine wp_skip (Zz (wp_block (wp_region_lit (Zd hE Za (dl rfl) rfl ?_)))); intro a hE
   refine Ye (xs := [.const (vB 0)]) (l := ([0] : List UInt8)) (vs := [(vB 0)]) hE hM Za (dl rfl) rfl rfl Tryz.underlying57 ty5 rfl (by decide) rfl ?_; intro u23 w a hM hE
   obtain ⟨l25, e26, hs19⟩ := bind_some hs19
   obtain ⟨e29, rfl⟩ := Yu e26
   have hM := hM.pull (pre := [_])
   refine Yj hE hM Za (dl rfl) rfl rfl (hM.sl (pre := [_]) noB) Tryz.underlying57 ty5 rfl (by decide) e29 ?_; intro u27 w a hM hE
   refine Ze hE Za (dl rfl) rfl ?_; intro a hE
   refine Zk (Yl (Zn ?_))
   have hM := M.fst (l := [_]) hM
   exact ⟨_, (Option.some.inj hs19).symm, u27, hE.sub ⟨rfl, rfl, trivial⟩, hM⟩
  ·intro hb22
   have hs19 := ZC hs19 hb22
   refine wp_exit (Zr (Zr (Yk ?_)))
   have ht30 := hx20 _ (Option.some.inj hs19).symm
   subst ht30
   refine Zn ?_
   exact ⟨u17, hE.sub ⟨rfl, rfl, trivial⟩, hM⟩
 ·skip
  rintro a w ⟨u14, hE, hM⟩
  refine wp_seq (Zc (Ze hE Za (dl rfl) rfl ?_)); intro a hE
  refine Zf ?_
  obtain ⟨j31, hl32, hF33⟩ := bind_some hF13
  refine ZS (fun a w => ∃ (u34 : Value), Env 32 a [(3, u34)] ∧ M (Old w0) w0 w [osl NoB (j31 : List UInt8) u34]) ?_ ?_
  ·skip
   refine wp_block ?_
   refine ZL (fun (s36 : (List UInt8) × Int) a w => ∃ (u37 : Value), Env 32 a [(0, v0_1), (3, u37), (4, (vI s36.2))] ∧ M (Old w0) w0 w [osl NoB (s36.1 : List UInt8) u37]) hl32 ⟨u14, hE.sub ⟨rfl, rfl, rfl, trivial⟩, hM⟩ ?_
   rintro s36 a w ⟨u37, hE, hM⟩ o41 hs39 hx40
   unfold WZ at hs39
   refine wp_seq (Zc (Zd hE Za (dl rfl) rfl ?_)); intro a hE
   refine Zh hE Za (dl rfl) rfl rfl rfl ?_; intro a hE
   refine Zf ?_
   refine Zw hE rfl ?_ ?_
   ·intro hb42
    have hs39 := ZD hs39 hb42
    refine wp_skip (Zz (wp_seq (wp_block (wp_region_lit (Zd hE Za (dl rfl) rfl ?_))))); intro a hE
    refine Zd hE Za (dl rfl) rfl ?_; intro a hE
    refine Yb hE Za (dl rfl) rfl Tryz.underlying57 (hM.rd hv0_1) ?_; intro a hE
    refine Zd hE Za (dl rfl) rfl ?_; intro a hE
    refine Zh hE Za (dl rfl) rfl rfl rfl ?_; intro a hE
    refine YE hE Za (dl rfl) rfl Tryz.underlying3 Tryz.underlying198 ?_; intro a hE
    obtain ⟨_, e43, hs39⟩ := bind_some hs39
    have e43 := WD e43
    refine s_sh hE Za (dl rfl) rfl rfl (bI_shr _ _ e43) ?_; intro a hE
    refine Zh hE Za (dl rfl) rfl rfl rfl ?_; intro a hE
    refine YE hE Za (dl rfl) rfl Tryz.underlying3 Tryz.underlying5 ?_; intro a hE
    rw [Z4] at hE
    refine Ye (xs := [.tmp 28]) (l := ([Zx (andI (Ux (p0.length : Int) (IntKind.u64.wrap (wr (8 * s36.2)))) 255)] : List UInt8)) (vs := [(vB (Zx (andI (Ux (p0.length : Int) (IntKind.u64.wrap (wr (8 * s36.2)))) 255)))]) hE hM Za (dl rfl) rfl rfl Tryz.underlying57 ty5 rfl (by decide) rfl ?_; intro u44 w a hM hE
    obtain ⟨l46, e47, hs39⟩ := bind_some hs39
    obtain ⟨e50, rfl⟩ := Yu e47
    have hM := hM.pull (pre := [_])
    refine Yj hE hM Za (dl rfl) rfl rfl (hM.sl (pre := [_]) noB) Tryz.underlying57 ty5 rfl (by decide) e50 ?_; intro u48 w a hM hE
    refine Ze hE Za (dl rfl) rfl ?_; intro a hE
    refine Zk (Yl (Zz (wp_region_lit (Zd hE Za (dl rfl) rfl ?_)))); intro a hE
    refine Zh hE Za (dl rfl) rfl rfl rfl ?_; intro a hE
    refine Ze hE Za (dl rfl) rfl ?_; intro a hE
    refine Zk (Zn ?_)
    have hM := M.fst (l := [_]) hM
    exact ⟨_, (Option.some.inj hs39).symm, u48, hE.sub ⟨rfl, rfl, rfl, trivial⟩, hM⟩
   ·intro hb42
    have hs39 := ZC hs39 hb42
    refine wp_exit (Zr (Zr (Yk ?_)))
    have ht51 := hx40 _ (Option.some.inj hs39).symm
    subst ht51
    refine Zn ?_
    exact ⟨u37, hE.sub ⟨rfl, trivial⟩, hM⟩
  ·skip
   rintro a w ⟨u34, hE, hM⟩
   refine Zz (Zc (Zd hE Za (dl rfl) rfl ?_)); intro a hE
   refine Ze hE Za (dl rfl) rfl ?_; intro a hE
   refine Zf ?_
   have hr := Option.some.inj hF33
   subst hr
   exact wp_ret (Zy hE rfl (Zu hE rfl) ⟨_, rfl, u34, rfl, hM.outF (Vm W2), hM.kept⟩)
noncomputable def Xz (p0 : (List UInt8)) (s8 : (List (Vector UInt8 16)) × Int) (s20 : (Vector UInt8 16) × Int) : Option (Fl ((Vector UInt8 16) × Int) (Vector UInt8 16)) :=
 if (decide (s20.2 < 16)) = true then ((idx p0 (wr (s8.2 + s20.2))).bind fun x25 => (ZK s20.1 s20.2).bind fun x29 => some (Fl.nx ((s20.1.setIfInBounds (s20.2).toNat x25), wr (s20.2 + 1)))) else (some (Fl.ex s20.1))
noncomputable def XF (p0 : (List UInt8)) (s8 : (List (Vector UInt8 16)) × Int) : Option (Fl ((List (Vector UInt8 16)) × Int) (List (Vector UInt8 16))) :=
 if (decide ((wr (s8.2 + 16)) ≤ (p0.length : Int))) = true then ((ZJ (Xz p0 s8) ((Vector.replicate 16 (0 : UInt8)), 0) : Option ((Vector UInt8 16))).bind fun j17 => (app 16 s8.1 ([j17] : List (Vector UInt8 16))).bind fun l34 => some (Fl.nx ((s8.1 ++ ([j17] : List (Vector UInt8 16))), wr (s8.2 + 16)))) else (some (Fl.ex s8.1))
noncomputable def Ve (p0 : (List UInt8)) : Option ((List (Vector UInt8 16))) :=
 (ZJ (XF p0) (([] : List (Vector UInt8 16)), 0) : Option ((List (Vector UInt8 16)))).bind fun j3 => some j3
theorem c_spec_l01Blocks (w0 : World) (p0 : (List UInt8)) (v0_1 : Value) (hv0_1 : Ro w0 p0 [v0_1]) (r : (List (Vector UInt8 16))) (hF : Ve p0 = some r) :
  Calls Tryz.prog 187 [v0_1].toArray w0 (fun en w' => ∃ v, en = .returned v ∧ (∃ (y1 : Value), v = y1 ∧ Fr w0 w' [osl NoB (r : List (Vector UInt8 16)) y1] ∧ Kept (Old w0) w0 w')) := by
 refine ZA (n := 33) Tryz.func187 rfl rfl (Nat.le_of_ble_eq_true rfl) rfl ?_
 intro a hE
 have hM := M.start w0
 unfold Ve at hF
 refine Zc (Ze hE Za (dl rfl) rfl ?_); intro a hE
 refine Zf (Zc (Ye (xs := []) (l := ([] : List (Vector UInt8 16))) (vs := []) hE hM Za (dl rfl) rfl rfl Tryz.underlying32 ZF rfl (by decide) rfl ?_)); intro u1 w a hM hE
 refine Ze hE Za (dl rfl) rfl ?_; intro a hE
 refine Zf (wp_seq (Zc (Ze hE Za (dl rfl) rfl ?_))); intro a hE
 refine Zf ?_
 obtain ⟨j3, hl4, hF5⟩ := bind_some hF
 refine ZS (fun a w => ∃ (u6 : Value), Env 33 a [(3, u6)] ∧ M (Old w0) w0 w [osl NoB (j3 : List (Vector UInt8 16)) u6]) ?_ ?_
 ·skip
  refine wp_block ?_
  refine ZL (fun (s8 : (List (Vector UInt8 16)) × Int) a w => ∃ (u9 : Value), Env 33 a [(0, v0_1), (3, u9), (4, (vI s8.2))] ∧ M (Old w0) w0 w [osl NoB (s8.1 : List (Vector UInt8 16)) u9]) hl4 ⟨u1, hE.sub ⟨rfl, rfl, rfl, trivial⟩, hM⟩ ?_
  rintro s8 a w ⟨u9, hE, hM⟩ o13 hs11 hx12
  unfold XF at hs11
  refine wp_seq (Zc (Zd hE Za (dl rfl) rfl ?_)); intro a hE
  refine Zh hE Za (dl rfl) rfl rfl rfl ?_; intro a hE
  refine Zd hE Za (dl rfl) rfl ?_; intro a hE
  refine Yb hE Za (dl rfl) rfl Tryz.underlying57 (hM.rd hv0_1) ?_; intro a hE
  refine Zh hE Za (dl rfl) rfl rfl rfl ?_; intro a hE
  refine Zf ?_
  refine Zw hE rfl ?_ ?_
  ·intro hb14
   have hs11 := ZD hs11 hb14
   refine wp_skip (Zz (wp_seq (wp_block (Zc (YO (parts := []) (vs := []) (cs := Flat.enc (Vector.replicate 16 (0 : UInt8))) hE Za (dl rfl) rfl rfl ZF rfl ty5 Yw ?_))))); intro a hE
   refine ZE hE hM Za (dl rfl) ZF ?_; intro b15 w a hM hE
   refine Zp (seg := Flat.enc (Vector.replicate 16 (0 : UInt8))) (cs' := Flat.enc (Vector.replicate 16 (0 : UInt8))) hE hM Za rfl rfl rfl ZF (Flat.len _) (zle flq) (Flat.cell _) (Zl flq) ?_; intro w a hM hE
   refine Zf (wp_seq (Zc (Ze hE Za (dl rfl) rfl ?_))); intro a hE
   refine Zf ?_
   obtain ⟨j17, hl18, hF19⟩ := bind_some hs11
   refine ZS (fun a w => Env 33 a [(0, v0_1), (3, u9), (4, (vI s8.2)), (5, (ptr b15 0))] ∧ M (Old w0) w0 w [raw b15 (Flat.enc j17), osl NoB (s8.1 : List (Vector UInt8 16)) u9]) ?_ ?_
   ·skip
    refine wp_block ?_
    refine ZL (fun (s20 : (Vector UInt8 16) × Int) a w => Env 33 a [(0, v0_1), (3, u9), (4, (vI s8.2)), (5, (ptr b15 0)), (6, (vI s20.2))] ∧ M (Old w0) w0 w [raw b15 (Flat.enc s20.1), osl NoB (s8.1 : List (Vector UInt8 16)) u9]) hl18 ⟨hE.sub ⟨rfl, rfl, rfl, rfl, rfl, trivial⟩, hM⟩ ?_
    rintro s20 a w ⟨hE, hM⟩ o23 hs21 hx22
    unfold Xz at hs21
    refine wp_seq (Zc (Zd hE Za (dl rfl) rfl ?_)); intro a hE
    refine Zh hE Za (dl rfl) rfl rfl rfl ?_; intro a hE
    refine Zf ?_
    refine Zw hE rfl ?_ ?_
    ·intro hb24
     have hs21 := ZD hs21 hb24
     refine wp_skip (Zz (wp_seq (wp_block (wp_region_lit (Zd hE Za (dl rfl) rfl ?_))))); intro a hE
     refine Zd hE Za (dl rfl) rfl ?_; intro a hE
     refine Zd hE Za (dl rfl) rfl ?_; intro a hE
     refine Zd hE Za (dl rfl) rfl ?_; intro a hE
     refine Zh hE Za (dl rfl) rfl rfl rfl ?_; intro a hE
     obtain ⟨x25, e26, hs21⟩ := bind_some hs21
     have hi27 := ZY e26
     refine ZX hE Za (dl rfl) rfl rfl Tryz.underlying57 ty5 (hM.rd hv0_1) hi27.1 ?_; intro a hE
     refine Zq (v := (vB x25)) hE Za (dl rfl) rfl ty5 rfl (Wh (hM.rd hv0_1) hi27.2) ?_; intro a hE
     obtain ⟨x29, e30, hs21⟩ := bind_some hs21
     have hi28 := Zi e30
     refine Zo hE Za (dl rfl) rfl rfl Tryz.underlying70 ty5 hi28.1 ?_; intro a hE
     refine Zp (seg := [(vB x25)]) (cs' := Flat.enc (s20.1.setIfInBounds (s20.2).toNat x25)) hE hM Za rfl rfl rfl ty5 rfl (ZO (v := s20.1) (x := x25) hi28.1) (Flat.cell (x25 : UInt8)) (ZI (v := s20.1) (x := x25) hi28.1) ?_; intro w a hM hE
     refine Zk (Yl (Zz (wp_region_lit (Zd hE Za (dl rfl) rfl ?_)))); intro a hE
     refine Zh hE Za (dl rfl) rfl rfl rfl ?_; intro a hE
     refine Ze hE Za (dl rfl) rfl ?_; intro a hE
     refine Zk (Zn ?_)
     exact ⟨_, (Option.some.inj hs21).symm, hE.sub ⟨rfl, rfl, rfl, rfl, rfl, trivial⟩, hM⟩
    ·intro hb24
     have hs21 := ZC hs21 hb24
     refine wp_exit (Zr (Zr (Yk ?_)))
     have ht31 := hx22 _ (Option.some.inj hs21).symm
     subst ht31
     refine Zn ?_
     exact ⟨hE.sub ⟨rfl, rfl, rfl, rfl, trivial⟩, hM⟩
   ·skip
    rintro a w ⟨hE, hM⟩
    refine Zz (wp_region_lit (Zd hE Za (dl rfl) rfl ?_)); intro a hE
    refine Zm (cs := Flat.enc j17) hE Za (dl rfl) rfl ZF rfl (hM.rawAt (pre := [])) (Flat.len _) ?_; intro a hE
    refine Ye (xs := [.tmp 29]) (l := ([j17] : List (Vector UInt8 16))) (vs := [(Value.agg (Flat.enc j17).toArray)]) hE hM Za (dl rfl) rfl rfl Tryz.underlying32 ZF rfl (by decide) rfl ?_; intro u32 w a hM hE
    obtain ⟨l34, e35, hF19⟩ := bind_some hF19
    obtain ⟨e38, rfl⟩ := Yu e35
    have hM := hM.pull (pre := [_, _])
    refine Yj hE hM Za (dl rfl) rfl rfl (hM.sl (pre := [_]) noB) Tryz.underlying32 ZF rfl (by decide) e38 ?_; intro u36 w a hM hE
    refine Ze hE Za (dl rfl) rfl ?_; intro a hE
    refine Zk (Yl (Zz (wp_region_lit (Zd hE Za (dl rfl) rfl ?_)))); intro a hE
    refine Zh hE Za (dl rfl) rfl rfl rfl ?_; intro a hE
    refine Ze hE Za (dl rfl) rfl ?_; intro a hE
    refine Zk (Zn ?_)
    have hM := M.fst (l := [_]) hM
    exact ⟨_, (Option.some.inj hF19).symm, u36, hE.sub ⟨rfl, rfl, rfl, trivial⟩, hM⟩
  ·intro hb14
   have hs11 := ZC hs11 hb14
   refine wp_exit (Zr (Zr (Yk ?_)))
   have ht39 := hx12 _ (Option.some.inj hs11).symm
   subst ht39
   refine Zn ?_
   exact ⟨u9, hE.sub ⟨rfl, trivial⟩, hM⟩
 ·skip
  rintro a w ⟨u6, hE, hM⟩
  refine Zz (Zc (Zd hE Za (dl rfl) rfl ?_)); intro a hE
  refine Ze hE Za (dl rfl) rfl ?_; intro a hE
  refine Zf ?_
  have hr := Option.some.inj hF5
  subst hr
  exact wp_ret (Zy hE rfl (Zu hE rfl) ⟨_, rfl, u6, rfl, hM.outF (Vm W2), hM.kept⟩)
noncomputable def XT (s8 : (Vector UInt8 32) × Int) : Option (Fl ((Vector UInt8 32) × Int) (Vector UInt8 32)) :=
 if (decide (s8.2 < 32)) = true then ((ZK s8.1 s8.2).bind fun x14 => some (Fl.nx ((s8.1.setIfInBounds (s8.2).toNat (Zx (Int.tmod (wr (17 * s8.2)) 256))), wr (s8.2 + 1)))) else (some (Fl.ex s8.1))
noncomputable def VI : Option ((Vector UInt8 32)) :=
 (ZJ (XT) ((Vector.replicate 32 (0 : UInt8)), 0) : Option ((Vector UInt8 32))).bind fun j5 => some j5
theorem c_spec_l08Start (w0 : World)  (r : (Vector UInt8 32)) (hF : VI  = some r) :
  Calls Tryz.prog 189 [].toArray w0 (fun en w' => ∃ v, en = .returned v ∧ (v = (Value.agg (Flat.enc r).toArray) ∧ Kept (Old w0) w0 w')) := by
 refine ZA (n := 15) Tryz.func189 rfl rfl (Nat.le_of_ble_eq_true rfl) rfl ?_
 intro a hE
 have hM := M.start w0
 unfold VI at hF
 refine Zc (ZE hE hM Za (dl rfl) Z9 ?_); intro b1 w a hM hE
 refine Zf (Zc (YO (parts := []) (vs := []) (cs := Flat.enc (Vector.replicate 32 (0 : UInt8))) hE Za (dl rfl) rfl rfl Z9 rfl ty5 Yw ?_)); intro a hE
 refine ZE hE hM Za (dl rfl) Z9 ?_; intro b3 w a hM hE
 refine Zp (seg := Flat.enc (Vector.replicate 32 (0 : UInt8))) (cs' := Flat.enc (Vector.replicate 32 (0 : UInt8))) hE hM Za rfl rfl rfl Z9 (Flat.len _) (zle flq) (Flat.cell _) (Zl flq) ?_; intro w a hM hE
 refine Zf (wp_seq (Zc (Ze hE Za (dl rfl) rfl ?_))); intro a hE
 refine Zf ?_
 obtain ⟨j5, hl6, hF7⟩ := bind_some hF
 refine ZS (fun a w => Env 15 a [(0, (ptr b1 0)), (1, (ptr b3 0))] ∧ M (Old w0) w0 w [raw b3 (Flat.enc j5), raw b1 (Flat.enc (Vector.replicate 32 (0 : UInt8)))]) ?_ ?_
 ·skip
  refine wp_block ?_
  refine ZL (fun (s8 : (Vector UInt8 32) × Int) a w => Env 15 a [(0, (ptr b1 0)), (1, (ptr b3 0)), (2, (vI s8.2))] ∧ M (Old w0) w0 w [raw b3 (Flat.enc s8.1), raw b1 (Flat.enc (Vector.replicate 32 (0 : UInt8)))]) hl6 ⟨hE.sub ⟨rfl, rfl, rfl, trivial⟩, hM⟩ ?_
  rintro s8 a w ⟨hE, hM⟩ o11 hs9 hx10
  unfold XT at hs9
  refine wp_seq (Zc (Zd hE Za (dl rfl) rfl ?_)); intro a hE
  refine Zh hE Za (dl rfl) rfl rfl rfl ?_; intro a hE
  refine Zf ?_
  refine Zw hE rfl ?_ ?_
  ·intro hb12
   have hs9 := ZD hs9 hb12
   refine wp_skip (Zz (wp_seq (wp_block (wp_region_lit (Zd hE Za (dl rfl) rfl ?_))))); intro a hE
   refine Zd hE Za (dl rfl) rfl ?_; intro a hE
   refine Zh hE Za (dl rfl) rfl rfl rfl ?_; intro a hE
   refine Zh hE Za (dl rfl) rfl rfl (bI_rem _ _ (by decide)) ?_; intro a hE
   refine YE hE Za (dl rfl) rfl Tryz.underlying3 Tryz.underlying5 ?_; intro a hE
   rw [Z4] at hE
   obtain ⟨x14, e15, hs9⟩ := bind_some hs9
   have hi13 := Zi e15
   refine Zo hE Za (dl rfl) rfl rfl Tryz.underlying29 ty5 hi13.1 ?_; intro a hE
   refine Zp (seg := [(vB (Zx (Int.tmod (wr (17 * s8.2)) 256)))]) (cs' := Flat.enc (s8.1.setIfInBounds (s8.2).toNat (Zx (Int.tmod (wr (17 * s8.2)) 256)))) hE hM Za rfl rfl rfl ty5 rfl (ZO (v := s8.1) (x := Zx (Int.tmod (wr (17 * s8.2)) 256)) hi13.1) (Flat.cell (Zx (Int.tmod (wr (17 * s8.2)) 256) : UInt8)) (ZI (v := s8.1) (x := Zx (Int.tmod (wr (17 * s8.2)) 256)) hi13.1) ?_; intro w a hM hE
   refine Zk (Yl (Zz (wp_region_lit (Zd hE Za (dl rfl) rfl ?_)))); intro a hE
   refine Zh hE Za (dl rfl) rfl rfl rfl ?_; intro a hE
   refine Ze hE Za (dl rfl) rfl ?_; intro a hE
   refine Zk (Zn ?_)
   exact ⟨_, (Option.some.inj hs9).symm, hE.sub ⟨rfl, rfl, rfl, trivial⟩, hM⟩
  ·intro hb12
   have hs9 := ZC hs9 hb12
   refine wp_exit (Zr (Zr (Yk ?_)))
   have ht16 := hx10 _ (Option.some.inj hs9).symm
   subst ht16
   refine Zn ?_
   exact ⟨hE.sub ⟨rfl, rfl, trivial⟩, hM⟩
 ·skip
  rintro a w ⟨hE, hM⟩
  refine Zz (Zc (Zm (cs := Flat.enc j5) hE Za (dl rfl) rfl Z9 rfl (hM.rawAt (pre := [])) (Flat.len _) ?_)); intro a hE
  have hM := hM.pull (pre := [_])
  refine Zp (seg := Flat.enc j5) (cs' := Flat.enc j5) hE hM Za rfl rfl rfl Z9 (Flat.len _) (zle flq) (Flat.cell _) (Zl flq) ?_; intro w a hM hE
  refine Zf ?_
  have hr := Option.some.inj hF7
  subst hr
  have hq17 : Yq Tryz.prog _ _ (.cell 0 29) _ := ZQ hE rfl Z9 rfl (hM.rawAt (pre := [])) (Flat.len _) rfl
  have hM := M.fst (l := []) hM
  exact wp_ret (Zy hE rfl hq17 ⟨_, rfl, rfl, hM.kept⟩)
noncomputable def XA (p0 : (Vector UInt8 32)) (s14 : (Vector UInt8 16) × (Vector UInt8 16) × Int) : Option (Fl ((Vector UInt8 16) × (Vector UInt8 16) × Int) ((Vector UInt8 16) × (Vector UInt8 16))) :=
 if (decide (s14.2.2 < 16)) = true then ((ZK p0 s14.2.2).bind fun x20 => (ZK s14.2.1 s14.2.2).bind fun x23 => (ZK p0 (wr (16 + s14.2.2))).bind fun x26 => (ZK s14.1 s14.2.2).bind fun x29 => some (Fl.nx ((s14.1.setIfInBounds (s14.2.2).toNat x26), (s14.2.1.setIfInBounds (s14.2.2).toNat x20), wr (s14.2.2 + 1)))) else (some (Fl.ex (s14.1, s14.2.1)))
noncomputable def W8 (p0 : (Vector UInt8 32)) : Option ((Vector UInt8 16) × (Vector UInt8 16)) :=
 (ZJ (XA p0) ((Vector.replicate 16 (0 : UInt8)), (Vector.replicate 16 (0 : UInt8)), 0) : Option ((Vector UInt8 16) × (Vector UInt8 16))).bind fun j11 => (some (j11.2, j11.1) : Option ((Vector UInt8 16) × (Vector UInt8 16))).bind fun j32 => some (j32.1, j32.2)
theorem c_spec_l08Halves (w0 : World) (p0 : (Vector UInt8 32)) (r : (Vector UInt8 16) × (Vector UInt8 16)) (hF : W8 p0 = some r) :
  Calls Tryz.prog 221 [(Value.agg (Flat.enc p0).toArray)].toArray w0 (fun en w' => ∃ v, en = .returned v ∧ (v = (Value.tuple [(Value.agg (Flat.enc r.1).toArray), (Value.agg (Flat.enc r.2).toArray)].toArray) ∧ Kept (Old w0) w0 w')) := by
 refine ZA (n := 26) Tryz.func221 rfl rfl (Nat.le_of_ble_eq_true rfl) rfl ?_
 intro a hE
 have hM := M.start w0
 unfold W8 at hF
 refine Zc (ZV (cs := Flat.enc p0) hE hM Za (dl rfl) rfl rfl ?_); intro b1 w a hM hE
 refine ZE hE hM Za (dl rfl) ZF ?_; intro b3 w a hM hE
 refine ZE hE hM Za (dl rfl) ZF ?_; intro b5 w a hM hE
 refine Zf (Zc (YO (parts := []) (vs := []) (cs := Flat.enc (Vector.replicate 16 (0 : UInt8))) hE Za (dl rfl) rfl rfl ZF rfl ty5 Yw ?_)); intro a hE
 refine YO (parts := []) (vs := []) (cs := Flat.enc (Vector.replicate 16 (0 : UInt8))) hE Za (dl rfl) rfl rfl ZF rfl ty5 Yw ?_; intro a hE
 refine ZE hE hM Za (dl rfl) ZF ?_; intro b7 w a hM hE
 refine ZE hE hM Za (dl rfl) ZF ?_; intro b9 w a hM hE
 have hM := hM.pull (pre := [_])
 refine Zp (seg := Flat.enc (Vector.replicate 16 (0 : UInt8))) (cs' := Flat.enc (Vector.replicate 16 (0 : UInt8))) hE hM Za rfl rfl rfl ZF (Flat.len _) (zle flq) (Flat.cell _) (Zl flq) ?_; intro w a hM hE
 have hM := hM.pull (pre := [_])
 refine Zp (seg := Flat.enc (Vector.replicate 16 (0 : UInt8))) (cs' := Flat.enc (Vector.replicate 16 (0 : UInt8))) hE hM Za rfl rfl rfl ZF (Flat.len _) (zle flq) (Flat.cell _) (Zl flq) ?_; intro w a hM hE
 refine Zf (wp_seq (Zc (Ze hE Za (dl rfl) rfl ?_))); intro a hE
 refine Zf ?_
 obtain ⟨j11, hl12, hF13⟩ := bind_some hF
 refine ZS (fun a w => Env 26 a [(2, (ptr b3 0)), (3, (ptr b5 0)), (4, (ptr b7 0)), (5, (ptr b9 0))] ∧ M (Old w0) w0 w [raw b9 (Flat.enc j11.1), raw b7 (Flat.enc j11.2), raw b5 (Flat.enc (Vector.replicate 16 (0 : UInt8))), raw b3 (Flat.enc (Vector.replicate 16 (0 : UInt8)))]) ?_ ?_
 ·skip
  refine wp_block ?_
  refine ZL (fun (s14 : (Vector UInt8 16) × (Vector UInt8 16) × Int) a w => Env 26 a [(1, (ptr b1 0)), (2, (ptr b3 0)), (3, (ptr b5 0)), (4, (ptr b7 0)), (5, (ptr b9 0)), (6, (vI s14.2.2))] ∧ M (Old w0) w0 w [raw b9 (Flat.enc s14.1), raw b7 (Flat.enc s14.2.1), raw b5 (Flat.enc (Vector.replicate 16 (0 : UInt8))), raw b3 (Flat.enc (Vector.replicate 16 (0 : UInt8))), raw b1 (Flat.enc p0)]) hl12 ⟨hE.sub ⟨rfl, rfl, rfl, rfl, rfl, rfl, trivial⟩, hM⟩ ?_
  rintro s14 a w ⟨hE, hM⟩ o17 hs15 hx16
  unfold XA at hs15
  refine wp_seq (Zc (Zd hE Za (dl rfl) rfl ?_)); intro a hE
  refine Zh hE Za (dl rfl) rfl rfl rfl ?_; intro a hE
  refine Zf ?_
  refine Zw hE rfl ?_ ?_
  ·intro hb18
   have hs15 := ZD hs15 hb18
   refine wp_skip (Zz (wp_seq (wp_block (Zc (Zd hE Za (dl rfl) rfl ?_))))); intro a hE
   refine Zd hE Za (dl rfl) rfl ?_; intro a hE
   obtain ⟨x20, e21, hs15⟩ := bind_some hs15
   have hi19 := Zi e21
   refine Zo hE Za (dl rfl) rfl rfl Tryz.underlying29 ty5 hi19.1 ?_; intro a hE
   refine Zq (v := (vB x20)) hE Za (dl rfl) rfl ty5 rfl (At.vec (hM.rawAt (pre := [_, _, _, _])) hi19.2) ?_; intro a hE
   obtain ⟨x23, e24, hs15⟩ := bind_some hs15
   have hi22 := Zi e24
   refine Zo hE Za (dl rfl) rfl rfl Tryz.underlying70 ty5 hi22.1 ?_; intro a hE
   have hM := hM.pull (pre := [_])
   refine Zp (seg := [(vB x20)]) (cs' := Flat.enc (s14.2.1.setIfInBounds (s14.2.2).toNat x20)) hE hM Za rfl rfl rfl ty5 rfl (ZO (v := s14.2.1) (x := x20) hi22.1) (Flat.cell (x20 : UInt8)) (ZI (v := s14.2.1) (x := x20) hi22.1) ?_; intro w a hM hE
   refine Zf (wp_region_lit (Zd hE Za (dl rfl) rfl ?_)); intro a hE
   refine Zd hE Za (dl rfl) rfl ?_; intro a hE
   refine Zh hE Za (dl rfl) rfl rfl rfl ?_; intro a hE
   obtain ⟨x26, e27, hs15⟩ := bind_some hs15
   have hi25 := Zi e27
   refine Zo hE Za (dl rfl) rfl rfl Tryz.underlying29 ty5 hi25.1 ?_; intro a hE
   refine Zq (v := (vB x26)) hE Za (dl rfl) rfl ty5 rfl (At.vec (hM.rawAt (pre := [_, _, _, _])) hi25.2) ?_; intro a hE
   obtain ⟨x29, e30, hs15⟩ := bind_some hs15
   have hi28 := Zi e30
   refine Zo hE Za (dl rfl) rfl rfl Tryz.underlying70 ty5 hi28.1 ?_; intro a hE
   have hM := hM.pull (pre := [_])
   refine Zp (seg := [(vB x26)]) (cs' := Flat.enc (s14.1.setIfInBounds (s14.2.2).toNat x26)) hE hM Za rfl rfl rfl ty5 rfl (ZO (v := s14.1) (x := x26) hi28.1) (Flat.cell (x26 : UInt8)) (ZI (v := s14.1) (x := x26) hi28.1) ?_; intro w a hM hE
   refine Zk (Yl (Zz (wp_region_lit (Zd hE Za (dl rfl) rfl ?_)))); intro a hE
   refine Zh hE Za (dl rfl) rfl rfl rfl ?_; intro a hE
   refine Ze hE Za (dl rfl) rfl ?_; intro a hE
   refine Zk (Zn ?_)
   exact ⟨_, (Option.some.inj hs15).symm, hE.sub ⟨rfl, rfl, rfl, rfl, rfl, rfl, trivial⟩, hM⟩
  ·intro hb18
   have hs15 := ZC hs15 hb18
   refine wp_exit (Zr (Zr (Yk ?_)))
   have ht31 := hx16 _ (Option.some.inj hs15).symm
   subst ht31
   refine Zn ?_
   have hM := hM.pull (pre := [_, _, _])
   have hM := hM.pull (pre := [_, _, _])
   have hM := hM.pull (pre := [_, _, _])
   have hM := hM.pull (pre := [_, _, _])
   have hM := M.fst (l := [_, _, _, _]) hM
   exact ⟨hE.sub ⟨rfl, rfl, rfl, rfl, trivial⟩, hM⟩
 ·skip
  rintro a w ⟨hE, hM⟩
  refine Zz ?_
  obtain ⟨j32, hl33, hF34⟩ := bind_some hF13
  refine ZR (fun a w => Env 26 a [(2, (ptr b3 0)), (3, (ptr b5 0))] ∧ M (Old w0) w0 w [raw b5 (Flat.enc j32.2), raw b3 (Flat.enc j32.1)]) ?_ ?_
  ·skip
   have hM := hM.pull (pre := [_, _, _])
   refine UM (n := 26) (hd := [_, _, _]) (tl := [_]) YU rfl rfl [24, 25, 28] (by decide) (fun D u w => M (Old w0) w0 w ([raw b9 (Flat.enc j11.1), raw b7 (Flat.enc j11.2), raw b5 (Flat.enc (Vector.replicate 16 (0 : UInt8)))] ++ qL ([mkT 2 (raw b3 (Flat.enc (Vector.replicate 16 (0 : UInt8)))) (raw b3 (Flat.enc j11.2))] : Mk) D u) ∧ GOk ([([], fun us v => v = (Value.agg (Flat.enc j11.2).toArray)), ([], fun us v => v = (Value.agg (Flat.enc j11.1).toArray)), ([], fun us v => True)] : Gs) D u) hE (fun u => ⟨M.qT (M.q0 hM.drew u), gok0⟩) (ZM (Zb ?_ (Zb ?_ (Zb ?_ ZH)))) ?_
   ·intro a w ux35 D hE hI hD hdc hp
    have hM0 := hI.1
    have hM := hI.1
    have hM := hM.togA (pre := [_, _, _]) (Bool.eq_false_iff.2 fun hx => Bool.noConfusion (hD.symm.trans (hdc 2 _ _ rfl (List.mem_of_getElem? (i := 0) rfl) rfl hx)))
    refine Zm (cs := Flat.enc j11.2) hE Za (dl rfl) rfl ZF rfl (hM.rawAt (pre := [_])) (Flat.len _) ?_; intro a hE
    exact ⟨_, _, rfl, hE, M.qKeep hM0 rfl, hI.2.put hD rfl ZW rfl⟩
   ·intro a w ux35 D hE hI hD hdc hp
    have hM0 := hI.1
    have hM := hI.1
    refine Zm (cs := Flat.enc j11.1) hE Za (dl rfl) rfl ZF rfl (hM.rawAt (pre := [])) (Flat.len _) ?_; intro a hE
    exact ⟨_, _, rfl, hE, M.qKeep hM0 rfl, hI.2.put hD rfl ZW rfl⟩
   ·intro a w ux35 D hE hI hD hdc hp
    have d0 : D 0 = true := hp 0 _ rfl rfl
    have g0 := hI.2 0 d0 _ rfl
    have f0 : ux35 0 = (Value.agg (Flat.enc j11.2).toArray) := g0.2
    have hM0 := hI.1
    have hM := hI.1
    have hM := hM.togA (pre := [_, _, _]) hD
    have hM := hM.pull (pre := [_, _, _])
    refine Zp (seg := Flat.enc j11.2) (cs' := Flat.enc j11.2) hE hM Za rfl (lk rfl f0) rfl ZF (Flat.len _) (zle flq) (Flat.cell _) (Zl flq) ?_; intro w a hM hE
    exact ⟨undef, _, rfl, Env.dummy hE (by decide), M.qTog (mk1 := []) (mk2 := []) hM rfl, hI.2.put hD rfl ZW trivial⟩
   ·intro a w ux35 D hE hI hall
    have hM := hI.1
    have d0 : D 0 = true := hall 0 (by decide)
    have d1 : D 1 = true := hall 1 (by decide)
    have d2 : D 2 = true := hall 2 (by decide)
    have f0 : ux35 0 = (Value.agg (Flat.enc j11.2).toArray) := (hI.2 0 d0 _ rfl).2
    have f1 : ux35 1 = (Value.agg (Flat.enc j11.1).toArray) := (hI.2 1 d1 _ rfl).2
    have hM := hM.togB (pre := [_, _, _]) d2
    have hE := hE.sub (e' := [(24, (Value.agg (Flat.enc j11.2).toArray)), (25, (Value.agg (Flat.enc j11.1).toArray)), (2, (ptr b3 0)), (3, (ptr b5 0)), (4, (ptr b7 0)), (5, (ptr b9 0))]) ⟨lk rfl f0, lk rfl f1, rfl, rfl, rfl, rfl, trivial⟩
    have hM := hM.pull (pre := [_, _])
    refine Zp (seg := Flat.enc j11.1) (cs' := Flat.enc j11.1) hE hM Za rfl rfl rfl ZF (Flat.len _) (zle flq) (Flat.cell _) (Zl flq) ?_; intro w a hM hE
    refine Zk ?_
    have ht36 := Option.some.inj hl33
    subst ht36
    refine Zn ?_
    have hM := hM.pull (pre := [_, _, _])
    have hM := hM.pull (pre := [_])
    have hM := M.fst (l := [_, _]) hM
    exact ⟨hE.sub ⟨rfl, rfl, trivial⟩, hM⟩
  ·skip
   rintro a w ⟨hE, hM⟩
   have hr := Option.some.inj hF34
   subst hr
   have hq37 : Yq Tryz.prog _ _ (.cell 2 70) _ := ZQ hE rfl ZF rfl (hM.rawAt (pre := [_])) (Flat.len _) rfl
   have hq38 : Yq Tryz.prog _ _ (.cell 3 70) _ := ZQ hE rfl ZF rfl (hM.rawAt (pre := [])) (Flat.len _) rfl
   have hM := M.fst (l := []) hM
   exact wp_ret (k_ret2 hE rfl hq37 hq38 ⟨_, rfl, rfl, hM.kept⟩)
noncomputable def WV (p1 : (Vector UInt8 16)) (s10 : (Vector UInt8 16) × Int) : Option (Fl ((Vector UInt8 16) × Int) (Vector UInt8 16)) :=
 if (decide (s10.2 < 16)) = true then ((ZK s10.1 s10.2).bind fun x17 => (ZK p1 s10.2).bind fun x20 => (ZK s10.1 s10.2).bind fun x23 => some (Fl.nx ((s10.1.setIfInBounds (s10.2).toNat (x17 ^^^ x20)), wr (s10.2 + 1)))) else (some (Fl.ex s10.1))
noncomputable def YW (p0 : (Vector UInt8 16)) (p1 : (Vector UInt8 16)) : Option ((Vector UInt8 16)) :=
 (ZJ (WV p1) (p0, 0) : Option ((Vector UInt8 16))).bind fun j7 => some j7
theorem VM (w0 : World) (p0 : (Vector UInt8 16)) (p1 : (Vector UInt8 16)) (r : (Vector UInt8 16)) (hF : YW p0 p1 = some r) :
  Calls Tryz.prog 222 [(Value.agg (Flat.enc p0).toArray), (Value.agg (Flat.enc p1).toArray)].toArray w0 (fun en w' => ∃ v, en = .returned v ∧ (v = (Value.agg (Flat.enc r).toArray) ∧ Kept (Old w0) w0 w')) := by
 refine ZA (n := 20) Tryz.func222 rfl rfl (Nat.le_of_ble_eq_true rfl) rfl ?_
 intro a hE
 have hM := M.start w0
 unfold YW at hF
 refine Zc (ZV (cs := Flat.enc p0) hE hM Za (dl rfl) rfl rfl ?_); intro b1 w a hM hE
 refine ZV (cs := Flat.enc p1) hE hM Za (dl rfl) rfl rfl ?_; intro b3 w a hM hE
 refine ZE hE hM Za (dl rfl) ZF ?_; intro b5 w a hM hE
 refine Zf (wp_seq (Zc (Ze hE Za (dl rfl) rfl ?_))); intro a hE
 refine Zf ?_
 obtain ⟨j7, hl8, hF9⟩ := bind_some hF
 refine ZS (fun a w => Env 20 a [(2, (ptr b1 0)), (4, (ptr b5 0))] ∧ M (Old w0) w0 w [raw b5 (Flat.enc (Vector.replicate 16 (0 : UInt8))), raw b1 (Flat.enc j7)]) ?_ ?_
 ·skip
  refine wp_block ?_
  refine ZL (fun (s10 : (Vector UInt8 16) × Int) a w => Env 20 a [(2, (ptr b1 0)), (3, (ptr b3 0)), (4, (ptr b5 0)), (5, (vI s10.2))] ∧ M (Old w0) w0 w [raw b5 (Flat.enc (Vector.replicate 16 (0 : UInt8))), raw b3 (Flat.enc p1), raw b1 (Flat.enc s10.1)]) hl8 ⟨hE.sub ⟨rfl, rfl, rfl, rfl, trivial⟩, hM⟩ ?_
  rintro s10 a w ⟨hE, hM⟩ o13 hs11 hx12
  unfold WV at hs11
  refine wp_seq (Zc (Zd hE Za (dl rfl) rfl ?_)); intro a hE
  refine Zh hE Za (dl rfl) rfl rfl rfl ?_; intro a hE
  refine Zf ?_
  refine Zw hE rfl ?_ ?_
  ·intro hb14
   have hs11 := ZD hs11 hb14
   refine wp_skip (Zz (wp_seq (wp_block ?_)))
   obtain ⟨x17, e18, hs11⟩ := bind_some hs11
   have hi16 := Zi e18
   obtain ⟨x20, e21, hs11⟩ := bind_some hs11
   have hi19 := Zi e21
   obtain ⟨x23, e24, hs11⟩ := bind_some hs11
   have hi22 := Zi e24
   refine Yo (n := 20) (hd := [_, _, _, _, _, _, _, _, _]) (tl := [_]) YU rfl rfl [10, 11, 12, 13, 14, 15, 16, 17, 18] (by decide) (fun w => M (Old w0) w0 w [raw b5 (Flat.enc (Vector.replicate 16 (0 : UInt8))), raw b3 (Flat.enc p1), raw b1 (Flat.enc s10.1)]) (fun j => ([fun v _ => v = (vI s10.2), fun v _ => v = (vI s10.2), fun v _ => v = (ptr b1 (0 + (s10.2).toNat * 1)), fun v _ => v = (vB x17), fun v _ => v = (vI s10.2), fun v _ => v = (ptr b3 (0 + (s10.2).toNat * 1)), fun v _ => v = (vB x20), fun v _ => v = (vB (x17 ^^^ x20)), fun v _ => v = (ptr b1 (0 + (s10.2).toNat * 1))] : List (Value → World → Prop)).getD j (fun _ _ => True)) (fun _ _ h hk => h.keep hk) (gup (Zj (Zj (Zj (Zj (Zj (Zj (Zj (Zj (Zj Vq)))))))))) hE hM.drew (ZM (Zb ?_ (Zb ?_ (Zb ?_ (Zb ?_ (Zb ?_ (Zb ?_ (Zb ?_ (Zb ?_ (Zb ?_ ZH)))))))))) ?_
   ·intro a w ux15 hE hM hp
    refine Zd hE Za (dl rfl) rfl ?_; intro a hE
    exact ⟨Kept.refl _ _, _, _, rfl, hE, rfl⟩
   ·intro a w ux15 hE hM hp
    refine Zd hE Za (dl rfl) rfl ?_; intro a hE
    exact ⟨Kept.refl _ _, _, _, rfl, hE, rfl⟩
   ·intro a w ux15 hE hM hp
    have f1 : ux15 1 = (vI s10.2) := hp 0 _ rfl rfl
    refine Zo hE Za (dl rfl) rfl (lk rfl f1) Tryz.underlying70 ty5 hi16.1 ?_; intro a hE
    exact ⟨Kept.refl _ _, _, _, rfl, hE, rfl⟩
   ·intro a w ux15 hE hM hp
    have f2 : ux15 2 = (ptr b1 (0 + (s10.2).toNat * 1)) := hp 0 _ rfl rfl
    refine Zq (v := (vB x17)) hE Za (dl rfl) (lk rfl f2) ty5 rfl (At.vec (hM.rawAt (pre := [_, _])) hi16.2) ?_; intro a hE
    exact ⟨Kept.refl _ _, _, _, rfl, hE, rfl⟩
   ·intro a w ux15 hE hM hp
    refine Zd hE Za (dl rfl) rfl ?_; intro a hE
    exact ⟨Kept.refl _ _, _, _, rfl, hE, rfl⟩
   ·intro a w ux15 hE hM hp
    have f4 : ux15 4 = (vI s10.2) := hp 0 _ rfl rfl
    refine Zo hE Za (dl rfl) rfl (lk rfl f4) Tryz.underlying70 ty5 hi19.1 ?_; intro a hE
    exact ⟨Kept.refl _ _, _, _, rfl, hE, rfl⟩
   ·intro a w ux15 hE hM hp
    have f5 : ux15 5 = (ptr b3 (0 + (s10.2).toNat * 1)) := hp 0 _ rfl rfl
    refine Zq (v := (vB x20)) hE Za (dl rfl) (lk rfl f5) ty5 rfl (At.vec (hM.rawAt (pre := [_])) hi19.2) ?_; intro a hE
    exact ⟨Kept.refl _ _, _, _, rfl, hE, rfl⟩
   ·intro a w ux15 hE hM hp
    have f3 : ux15 3 = (vB x17) := hp 0 _ rfl rfl
    have f6 : ux15 6 = (vB x20) := hp 1 _ rfl rfl
    refine Zh hE Za (dl rfl) (lk rfl f3) (lk rfl f6) (WK x17 x20) ?_; intro a hE
    exact ⟨Kept.refl _ _, _, _, rfl, hE, rfl⟩
   ·intro a w ux15 hE hM hp
    have f0 : ux15 0 = (vI s10.2) := hp 0 _ rfl rfl
    refine Zo hE Za (dl rfl) rfl (lk rfl f0) Tryz.underlying70 ty5 hi22.1 ?_; intro a hE
    exact ⟨Kept.refl _ _, _, _, rfl, hE, rfl⟩
   ·intro a w ux15 hE hM hg
    have f0 : ux15 0 = (vI s10.2) := hg 0 (by decide)
    have f1 : ux15 1 = (vI s10.2) := hg 1 (by decide)
    have f2 : ux15 2 = (ptr b1 (0 + (s10.2).toNat * 1)) := hg 2 (by decide)
    have f3 : ux15 3 = (vB x17) := hg 3 (by decide)
    have f4 : ux15 4 = (vI s10.2) := hg 4 (by decide)
    have f5 : ux15 5 = (ptr b3 (0 + (s10.2).toNat * 1)) := hg 5 (by decide)
    have f6 : ux15 6 = (vB x20) := hg 6 (by decide)
    have f7 : ux15 7 = (vB (x17 ^^^ x20)) := hg 7 (by decide)
    have f8 : ux15 8 = (ptr b1 (0 + (s10.2).toNat * 1)) := hg 8 (by decide)
    have hE := hE.sub (e' := [(10, (vI s10.2)), (11, (vI s10.2)), (12, (ptr b1 (0 + (s10.2).toNat * 1))), (13, (vB x17)), (14, (vI s10.2)), (15, (ptr b3 (0 + (s10.2).toNat * 1))), (16, (vB x20)), (17, (vB (x17 ^^^ x20))), (18, (ptr b1 (0 + (s10.2).toNat * 1))), (2, (ptr b1 0)), (3, (ptr b3 0)), (4, (ptr b5 0)), (5, (vI s10.2)), (6, (vI s10.2)), (7, (vT (decide (s10.2 < 16))))]) ⟨lk rfl f0, lk rfl f1, lk rfl f2, lk rfl f3, lk rfl f4, lk rfl f5, lk rfl f6, lk rfl f7, lk rfl f8, rfl, rfl, rfl, rfl, rfl, rfl, trivial⟩
    have hM := hM.pull (pre := [_, _])
    refine Zp (seg := [(vB (x17 ^^^ x20))]) (cs' := Flat.enc (s10.1.setIfInBounds (s10.2).toNat (x17 ^^^ x20))) hE hM Za rfl rfl rfl ty5 rfl (ZO (v := s10.1) (x := x17 ^^^ x20) hi22.1) (Flat.cell (x17 ^^^ x20 : UInt8)) (ZI (v := s10.1) (x := x17 ^^^ x20) hi22.1) ?_; intro w a hM hE
    refine Zk (Yl (Zz (wp_region_lit (Zd hE Za (dl rfl) rfl ?_)))); intro a hE
    refine Zh hE Za (dl rfl) rfl rfl rfl ?_; intro a hE
    refine Ze hE Za (dl rfl) rfl ?_; intro a hE
    refine Zk (Zn ?_)
    have hM := hM.pull (pre := [_, _])
    have hM := hM.pull (pre := [_, _])
    exact ⟨_, (Option.some.inj hs11).symm, hE.sub ⟨rfl, rfl, rfl, rfl, trivial⟩, hM⟩
  ·intro hb14
   have hs11 := ZC hs11 hb14
   refine wp_exit (Zr (Zr (Yk ?_)))
   have ht25 := hx12 _ (Option.some.inj hs11).symm
   subst ht25
   refine Zn ?_
   have hM := hM.pull (pre := [_, _])
   have hM := hM.pull (pre := [_])
   have hM := M.fst (l := [_, _]) hM
   exact ⟨hE.sub ⟨rfl, rfl, trivial⟩, hM⟩
 ·skip
  rintro a w ⟨hE, hM⟩
  refine Zz (Zc (Zm (cs := Flat.enc j7) hE Za (dl rfl) rfl ZF rfl (hM.rawAt (pre := [_])) (Flat.len _) ?_)); intro a hE
  refine Zp (seg := Flat.enc j7) (cs' := Flat.enc j7) hE hM Za rfl rfl rfl ZF (Flat.len _) (zle flq) (Flat.cell _) (Zl flq) ?_; intro w a hM hE
  refine Zf ?_
  have hr := Option.some.inj hF9
  subst hr
  have hq26 : Yq Tryz.prog _ _ (.cell 4 70) _ := ZQ hE rfl ZF rfl (hM.rawAt (pre := [])) (Flat.len _) rfl
  have hM := M.fst (l := []) hM
  exact wp_ret (Zy hE rfl hq26 ⟨_, rfl, rfl, hM.kept⟩)
noncomputable def Wo (p0 : (Vector UInt8 256)) (p2 : Int) (s10 : (Vector UInt8 16) × Int) : Option (Fl ((Vector UInt8 16) × Int) (Vector UInt8 16)) :=
 if (decide (s10.2 < 16)) = true then (((ZK s10.1 (Int.tmod (wr (s10.2 + 15)) 16)).bind fun x19 => (if (s10.2 == 0) = true then (some (x19 ^^^ (Zx p2))) else (some x19) : Option (UInt8)).bind fun j21 => (ZK s10.1 s10.2).bind fun x29 => (ZK p0 (bI j21)).bind fun x32 => (ZK s10.1 s10.2).bind fun x35 => some (s10.1.setIfInBounds (s10.2).toNat (x29 ^^^ x32)) : Option ((Vector UInt8 16))).bind fun j15 => some (Fl.nx (j15, wr (s10.2 + 1)))) else (some (Fl.ex s10.1))
noncomputable def V8 (p0 : (Vector UInt8 256)) (p1 : (Vector UInt8 16)) (p2 : Int) : Option ((Vector UInt8 16)) :=
 (ZJ (Wo p0 p2) (p1, 0) : Option ((Vector UInt8 16))).bind fun j7 => some j7
theorem c_spec_l04Next (w0 : World) (p0 : (Vector UInt8 256)) (p1 : (Vector UInt8 16)) (p2 : Int) (r : (Vector UInt8 16)) (hF : V8 p0 p1 p2 = some r) :
  Calls Tryz.prog 250 [(Value.agg (Flat.enc p0).toArray), (Value.agg (Flat.enc p1).toArray), (vI p2)].toArray w0 (fun en w' => ∃ v, en = .returned v ∧ (v = (Value.agg (Flat.enc r).toArray) ∧ Kept (Old w0) w0 w')) := by
 refine ZA (n := 34) Tryz.func250 rfl rfl (Nat.le_of_ble_eq_true rfl) rfl ?_
 intro a hE
 have hM := M.start w0
 unfold V8 at hF
 refine Zc (ZV (cs := Flat.enc p0) hE hM Za (dl rfl) rfl rfl ?_); intro b1 w a hM hE
 refine ZV (cs := Flat.enc p1) hE hM Za (dl rfl) rfl rfl ?_; intro b3 w a hM hE
 refine ZE hE hM Za (dl rfl) ZF ?_; intro b5 w a hM hE
 refine Zf (wp_seq (Zc (Ze hE Za (dl rfl) rfl ?_))); intro a hE
 refine Zf ?_
 obtain ⟨j7, hl8, hF9⟩ := bind_some hF
 refine ZS (fun a w => Env 34 a [(4, (ptr b3 0)), (6, (ptr b5 0))] ∧ M (Old w0) w0 w [raw b5 (Flat.enc (Vector.replicate 16 (0 : UInt8))), raw b3 (Flat.enc j7)]) ?_ ?_
 ·skip
  refine wp_block ?_
  refine ZL (fun (s10 : (Vector UInt8 16) × Int) a w => Env 34 a [(2, (vI p2)), (3, (ptr b1 0)), (4, (ptr b3 0)), (6, (ptr b5 0)), (7, (vI s10.2))] ∧ M (Old w0) w0 w [raw b5 (Flat.enc (Vector.replicate 16 (0 : UInt8))), raw b3 (Flat.enc s10.1), raw b1 (Flat.enc p0)]) hl8 ⟨hE.sub ⟨rfl, rfl, rfl, rfl, rfl, trivial⟩, hM⟩ ?_
  rintro s10 a w ⟨hE, hM⟩ o13 hs11 hx12
  unfold Wo at hs11
  refine wp_seq (Zc (Zd hE Za (dl rfl) rfl ?_)); intro a hE
  refine Zh hE Za (dl rfl) rfl rfl rfl ?_; intro a hE
  refine Zf ?_
  refine Zw hE rfl ?_ ?_
  ·intro hb14
   have hs11 := ZD hs11 hb14
   refine wp_skip (Zz ?_)
   obtain ⟨j15, hl16, hF17⟩ := bind_some hs11
   refine ZR (fun a w => Env 34 a [(2, (vI p2)), (3, (ptr b1 0)), (4, (ptr b3 0)), (6, (ptr b5 0)), (7, (vI s10.2))] ∧ M (Old w0) w0 w [raw b5 (Flat.enc (Vector.replicate 16 (0 : UInt8))), raw b3 (Flat.enc j15), raw b1 (Flat.enc p0)]) ?_ ?_
   ·skip
    refine wp_block (Zc (Zd hE Za (dl rfl) rfl ?_)); intro a hE
    refine Zh hE Za (dl rfl) rfl rfl rfl ?_; intro a hE
    refine Zh hE Za (dl rfl) rfl rfl (bI_rem _ _ (by decide)) ?_; intro a hE
    obtain ⟨x19, e20, hl16⟩ := bind_some hl16
    have hi18 := Zi e20
    refine Zo hE Za (dl rfl) rfl rfl Tryz.underlying70 ty5 hi18.1 ?_; intro a hE
    refine Zq (v := (vB x19)) hE Za (dl rfl) rfl ty5 rfl (At.vec (hM.rawAt (pre := [_])) hi18.2) ?_; intro a hE
    refine Ze hE Za (dl rfl) rfl ?_; intro a hE
    refine Zf ?_
    obtain ⟨j21, hl22, hF23⟩ := bind_some hl16
    refine ZR (fun a w => Env 34 a [(2, (vI p2)), (3, (ptr b1 0)), (4, (ptr b3 0)), (6, (ptr b5 0)), (7, (vI s10.2)), (8, (vB j21))] ∧ M (Old w0) w0 w [raw b5 (Flat.enc (Vector.replicate 16 (0 : UInt8))), raw b3 (Flat.enc s10.1), raw b1 (Flat.enc p0)]) ?_ ?_
    ·skip
     refine Zc (Zd hE Za (dl rfl) rfl ?_); intro a hE
     refine Zh hE Za (dl rfl) rfl rfl rfl ?_; intro a hE
     refine Zf ?_
     refine Zw hE rfl ?_ ?_
     ·intro hb24
      have hl22 := ZD hl22 hb24
      refine wp_region_lit (Zd hE Za (dl rfl) rfl ?_); intro a hE
      refine Zd hE Za (dl rfl) rfl ?_; intro a hE
      refine YE hE Za (dl rfl) rfl Tryz.underlying2 Tryz.underlying5 ?_; intro a hE
      rw [Z4] at hE
      refine Zh hE Za (dl rfl) rfl rfl (WK x19 (Zx p2)) ?_; intro a hE
      refine Ze hE Za (dl rfl) rfl ?_; intro a hE
      refine Zk ?_
      have ht25 := Option.some.inj hl22
      subst ht25
      refine Zn ?_
      exact ⟨hE.sub ⟨rfl, rfl, rfl, rfl, rfl, rfl, trivial⟩, hM⟩
     ·intro hb24
      have hl22 := ZC hl22 hb24
      refine wp_skip ?_
      have ht26 := Option.some.inj hl22
      subst ht26
      refine Zn ?_
      exact ⟨hE.sub ⟨rfl, rfl, rfl, rfl, rfl, rfl, trivial⟩, hM⟩
    ·skip
     rintro a w ⟨hE, hM⟩
     obtain ⟨x29, e30, hF23⟩ := bind_some hF23
     have hi28 := Zi e30
     obtain ⟨x32, e33, hF23⟩ := bind_some hF23
     have hi31 := Zi e33
     obtain ⟨x35, e36, hF23⟩ := bind_some hF23
     have hi34 := Zi e36
     refine Yo (n := 34) (hd := [_, _, _, _, _, _, _, _, _]) (tl := [_]) YU rfl rfl [24, 25, 26, 27, 28, 29, 30, 31, 32] (by decide) (fun w => M (Old w0) w0 w [raw b5 (Flat.enc (Vector.replicate 16 (0 : UInt8))), raw b3 (Flat.enc s10.1), raw b1 (Flat.enc p0)]) (fun j => ([fun v _ => v = (vI s10.2), fun v _ => v = (vI s10.2), fun v _ => v = (ptr b3 (0 + (s10.2).toNat * 1)), fun v _ => v = (vB x29), fun v _ => v = (vB j21), fun v _ => v = (ptr b1 (0 + ((bI j21)).toNat * 1)), fun v _ => v = (vB x32), fun v _ => v = (vB (x29 ^^^ x32)), fun v _ => v = (ptr b3 (0 + (s10.2).toNat * 1))] : List (Value → World → Prop)).getD j (fun _ _ => True)) (fun _ _ h hk => h.keep hk) (gup (Zj (Zj (Zj (Zj (Zj (Zj (Zj (Zj (Zj Vq)))))))))) hE hM.drew (ZM (Zb ?_ (Zb ?_ (Zb ?_ (Zb ?_ (Zb ?_ (Zb ?_ (Zb ?_ (Zb ?_ (Zb ?_ ZH)))))))))) ?_
     ·intro a w ux27 hE hM hp
      refine Zd hE Za (dl rfl) rfl ?_; intro a hE
      exact ⟨Kept.refl _ _, _, _, rfl, hE, rfl⟩
     ·intro a w ux27 hE hM hp
      refine Zd hE Za (dl rfl) rfl ?_; intro a hE
      exact ⟨Kept.refl _ _, _, _, rfl, hE, rfl⟩
     ·intro a w ux27 hE hM hp
      have f1 : ux27 1 = (vI s10.2) := hp 0 _ rfl rfl
      refine Zo hE Za (dl rfl) rfl (lk rfl f1) Tryz.underlying70 ty5 hi28.1 ?_; intro a hE
      exact ⟨Kept.refl _ _, _, _, rfl, hE, rfl⟩
     ·intro a w ux27 hE hM hp
      have f2 : ux27 2 = (ptr b3 (0 + (s10.2).toNat * 1)) := hp 0 _ rfl rfl
      refine Zq (v := (vB x29)) hE Za (dl rfl) (lk rfl f2) ty5 rfl (At.vec (hM.rawAt (pre := [_])) hi28.2) ?_; intro a hE
      exact ⟨Kept.refl _ _, _, _, rfl, hE, rfl⟩
     ·intro a w ux27 hE hM hp
      refine Zd hE Za (dl rfl) rfl ?_; intro a hE
      exact ⟨Kept.refl _ _, _, _, rfl, hE, rfl⟩
     ·intro a w ux27 hE hM hp
      have f4 : ux27 4 = (vB j21) := hp 0 _ rfl rfl
      refine Zo hE Za (dl rfl) rfl (lk rfl f4) Tryz.underlying167 ty5 hi31.1 ?_; intro a hE
      exact ⟨Kept.refl _ _, _, _, rfl, hE, rfl⟩
     ·intro a w ux27 hE hM hp
      have f5 : ux27 5 = (ptr b1 (0 + ((bI j21)).toNat * 1)) := hp 0 _ rfl rfl
      refine Zq (v := (vB x32)) hE Za (dl rfl) (lk rfl f5) ty5 rfl (At.vec (hM.rawAt (pre := [_, _])) hi31.2) ?_; intro a hE
      exact ⟨Kept.refl _ _, _, _, rfl, hE, rfl⟩
     ·intro a w ux27 hE hM hp
      have f3 : ux27 3 = (vB x29) := hp 0 _ rfl rfl
      have f6 : ux27 6 = (vB x32) := hp 1 _ rfl rfl
      refine Zh hE Za (dl rfl) (lk rfl f3) (lk rfl f6) (WK x29 x32) ?_; intro a hE
      exact ⟨Kept.refl _ _, _, _, rfl, hE, rfl⟩
     ·intro a w ux27 hE hM hp
      have f0 : ux27 0 = (vI s10.2) := hp 0 _ rfl rfl
      refine Zo hE Za (dl rfl) rfl (lk rfl f0) Tryz.underlying70 ty5 hi34.1 ?_; intro a hE
      exact ⟨Kept.refl _ _, _, _, rfl, hE, rfl⟩
     ·intro a w ux27 hE hM hg
      have f0 : ux27 0 = (vI s10.2) := hg 0 (by decide)
      have f1 : ux27 1 = (vI s10.2) := hg 1 (by decide)
      have f2 : ux27 2 = (ptr b3 (0 + (s10.2).toNat * 1)) := hg 2 (by decide)
      have f3 : ux27 3 = (vB x29) := hg 3 (by decide)
      have f4 : ux27 4 = (vB j21) := hg 4 (by decide)
      have f5 : ux27 5 = (ptr b1 (0 + ((bI j21)).toNat * 1)) := hg 5 (by decide)
      have f6 : ux27 6 = (vB x32) := hg 6 (by decide)
      have f7 : ux27 7 = (vB (x29 ^^^ x32)) := hg 7 (by decide)
      have f8 : ux27 8 = (ptr b3 (0 + (s10.2).toNat * 1)) := hg 8 (by decide)
      have hE := hE.sub (e' := [(24, (vI s10.2)), (25, (vI s10.2)), (26, (ptr b3 (0 + (s10.2).toNat * 1))), (27, (vB x29)), (28, (vB j21)), (29, (ptr b1 (0 + ((bI j21)).toNat * 1))), (30, (vB x32)), (31, (vB (x29 ^^^ x32))), (32, (ptr b3 (0 + (s10.2).toNat * 1))), (2, (vI p2)), (3, (ptr b1 0)), (4, (ptr b3 0)), (6, (ptr b5 0)), (7, (vI s10.2)), (8, (vB j21))]) ⟨lk rfl f0, lk rfl f1, lk rfl f2, lk rfl f3, lk rfl f4, lk rfl f5, lk rfl f6, lk rfl f7, lk rfl f8, rfl, rfl, rfl, rfl, rfl, rfl, trivial⟩
      have hM := hM.pull (pre := [_])
      refine Zp (seg := [(vB (x29 ^^^ x32))]) (cs' := Flat.enc (s10.1.setIfInBounds (s10.2).toNat (x29 ^^^ x32))) hE hM Za rfl rfl rfl ty5 rfl (ZO (v := s10.1) (x := x29 ^^^ x32) hi34.1) (Flat.cell (x29 ^^^ x32 : UInt8)) (ZI (v := s10.1) (x := x29 ^^^ x32) hi34.1) ?_; intro w a hM hE
      refine Zk (Yl ?_)
      have ht37 := Option.some.inj hF23
      subst ht37
      refine Zn ?_
      have hM := hM.pull (pre := [_, _])
      have hM := hM.pull (pre := [_])
      have hM := hM.pull (pre := [_, _])
      exact ⟨hE.sub ⟨rfl, rfl, rfl, rfl, rfl, trivial⟩, hM⟩
   ·skip
    rintro a w ⟨hE, hM⟩
    refine wp_region_lit (Zd hE Za (dl rfl) rfl ?_); intro a hE
    refine Zh hE Za (dl rfl) rfl rfl rfl ?_; intro a hE
    refine Ze hE Za (dl rfl) rfl ?_; intro a hE
    refine Zk (Zn ?_)
    exact ⟨_, (Option.some.inj hF17).symm, hE.sub ⟨rfl, rfl, rfl, rfl, rfl, trivial⟩, hM⟩
  ·intro hb14
   have hs11 := ZC hs11 hb14
   refine wp_exit (Zr (Zr (Yk ?_)))
   have ht38 := hx12 _ (Option.some.inj hs11).symm
   subst ht38
   refine Zn ?_
   have hM := hM.pull (pre := [_])
   have hM := hM.pull (pre := [_])
   have hM := M.fst (l := [_, _]) hM
   exact ⟨hE.sub ⟨rfl, rfl, trivial⟩, hM⟩
 ·skip
  rintro a w ⟨hE, hM⟩
  refine Zz (Zc (Zm (cs := Flat.enc j7) hE Za (dl rfl) rfl ZF rfl (hM.rawAt (pre := [_])) (Flat.len _) ?_)); intro a hE
  refine Zp (seg := Flat.enc j7) (cs' := Flat.enc j7) hE hM Za rfl rfl rfl ZF (Flat.len _) (zle flq) (Flat.cell _) (Zl flq) ?_; intro w a hM hE
  refine Zf ?_
  have hr := Option.some.inj hF9
  subst hr
  have hq39 : Yq Tryz.prog _ _ (.cell 6 70) _ := ZQ hE rfl ZF rfl (hM.rawAt (pre := [])) (Flat.len _) rfl
  have hM := M.fst (l := []) hM
  exact wp_ret (Zy hE rfl hq39 ⟨_, rfl, rfl, hM.kept⟩)
noncomputable def Wm (p0 : GCipher) (p2 : Int) (s12 : (Vector UInt8 16) × (List (Vector UInt8 16)) × Int) : Option (Fl ((Vector UInt8 16) × (List (Vector UInt8 16)) × Int) (List (Vector UInt8 16))) :=
 if (decide (s12.2.2 ≤ p2)) = true then ((V8 p0.Box s12.1 s12.2.2).bind fun r19 => (app 16 s12.2.1 ([r19] : List (Vector UInt8 16))).bind fun l23 => some (Fl.nx (r19, (s12.2.1 ++ ([r19] : List (Vector UInt8 16))), wr (s12.2.2 + 1)))) else (some (Fl.ex s12.2.1))
noncomputable def Ua (p0 : GCipher) (p1 : (Vector UInt8 16)) (p2 : Int) : Option ((List (Vector UInt8 16))) :=
 (ZJ (Wm p0 p2) (p1, ([p1] : List (Vector UInt8 16)), 1) : Option ((List (Vector UInt8 16)))).bind fun j7 => some j7
end Go.Proofs.YtifdeoikcebbjaaGreat
