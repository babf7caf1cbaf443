/- The walk of what the law reaches: contracts of functions. -/
import Derived.Test.YtifdeoikcebbjaaK2
import Derived.Test.YtifdeoikcebbjaaProg
set_option linter.unusedVariables false
set_option linter.unusedSimpArgs false
namespace Go.Proofs.Ytifdeoikcebbjaa
open Go
structure GRecord where
  Number : Int
  Version : Int
  Nonce : (Vector UInt8 16)
  Label : (List UInt8)
  Body : (List UInt8)
  Tag : (Vector UInt8 32)
  deriving DecidableEq, Inhabited
instance : Dat GRecord := ⟨fun x => Dat.bd (α := Int × Int × (Vector UInt8 16) × (List UInt8) × (List UInt8) × (Vector UInt8 32)) (x.Number, x.Version, x.Nonce, x.Label, x.Body, x.Tag), fun x => Dat.sz (α := Int × Int × (Vector UInt8 16) × (List UInt8) × (List UInt8) × (Vector UInt8 32)) (x.Number, x.Version, x.Nonce, x.Label, x.Body, x.Tag) + 1⟩
instance : Rep GRecord := repIso (α := Int × Int × (Vector UInt8 16) × (List UInt8) × (List UInt8) × (Vector UInt8 32)) (fun x => (x.Number, x.Version, x.Nonce, x.Label, x.Body, x.Tag))
theorem unf_GRecord {S : Nat → Prop} {w : World} {x : GRecord} {cs : List Value} {fp : List Nat} (h : Rep.sat S w x cs fp) : ∃ (u1 : Value) (u2 : Value), ∃ (g1 : List Nat) (g2 : List Nat), cs = cat [Flat.enc x.Number, Flat.enc x.Version, Flat.enc x.Nonce, [u1], [u2], Flat.enc x.Tag] ∧ fp = (g1 ++ g2) ∧ Rep.sat S w x.Label [u1] g1 ∧ Rep.sat S w x.Body [u2] g2 := by
  obtain ⟨c0, d0, f0, q0, rfl, rfl, h0, hr0⟩ := h
  obtain ⟨rfl, rfl⟩ := h0
  obtain ⟨c1, d1, f1, q1, rfl, rfl, h1, hr1⟩ := hr0
  obtain ⟨rfl, rfl⟩ := h1
  obtain ⟨c2, d2, f2, q2, rfl, rfl, h2, hr2⟩ := hr1
  obtain ⟨rfl, rfl⟩ := h2
  obtain ⟨c3, d3, f3, q3, rfl, rfl, h3, hr3⟩ := hr2
  obtain ⟨u1, rfl⟩ := sl_one h3
  obtain ⟨c4, d4, f4, q4, rfl, rfl, h4, hr4⟩ := hr3
  obtain ⟨u2, rfl⟩ := sl_one h4
  obtain ⟨rfl, rfl⟩ := hr4
  exact ⟨u1, u2, _, _, rfl, by simp, h3, h4⟩
theorem unc_GRecord {S : Nat → Prop} {w : World} {x : GRecord} {u1 u2 : Value} {fp : List Nat} (h : Rep.sat S w x (cat [Flat.enc x.Number, Flat.enc x.Version, Flat.enc x.Nonce, [u1], [u2], Flat.enc x.Tag]) fp) : ∃ (g1 : List Nat) (g2 : List Nat), fp = (g1 ++ g2) ∧ Rep.sat S w x.Label [u1] g1 ∧ Rep.sat S w x.Body [u2] g2 := by
  obtain ⟨w1, w2, g1, g2, hc, hf, s1, s2⟩ := unf_GRecord h
  obtain ⟨e1, k1⟩ := cat_inj hc rfl
  obtain ⟨e2, k2⟩ := cat_inj k1 rfl
  obtain ⟨e3, k3⟩ := cat_inj k2 rfl
  obtain ⟨e4, k4⟩ := cat_inj k3 rfl
  obtain ⟨e5, k5⟩ := cat_inj k4 rfl
  obtain rfl := (List.cons.inj e4).1
  obtain rfl := (List.cons.inj e5).1
  exact ⟨g1, g2, hf, s1, s2⟩
theorem un_GRecord {S : Nat → Prop} {w : World} {x : GRecord} {cs : List Value} (h : Rep.sat S w x cs []) : ∃ u1 u2, cs = cat [Flat.enc x.Number, Flat.enc x.Version, Flat.enc x.Nonce, [u1], [u2], Flat.enc x.Tag] ∧ Rep.sat S w x.Label [u1] [] ∧ Rep.sat S w x.Body [u2] [] := by
  obtain ⟨c0, d0, f0, g0, rfl, hf0, h0, hr0⟩ := h
  obtain ⟨rfl, rfl⟩ := List.append_eq_nil_iff.1 hf0.symm
  obtain ⟨rfl, _⟩ := h0
  obtain ⟨c1, d1, f1, g1, rfl, hf1, h1, hr1⟩ := hr0
  obtain ⟨rfl, rfl⟩ := List.append_eq_nil_iff.1 hf1.symm
  obtain ⟨rfl, _⟩ := h1
  obtain ⟨c2, d2, f2, g2, rfl, hf2, h2, hr2⟩ := hr1
  obtain ⟨rfl, rfl⟩ := List.append_eq_nil_iff.1 hf2.symm
  obtain ⟨rfl, _⟩ := h2
  obtain ⟨c3, d3, f3, g3, rfl, hf3, h3, hr3⟩ := hr2
  obtain ⟨rfl, rfl⟩ := List.append_eq_nil_iff.1 hf3.symm
  obtain ⟨u1, rfl⟩ := sl_one h3
  obtain ⟨c4, d4, f4, g4, rfl, hf4, h4, hr4⟩ := hr3
  obtain ⟨rfl, rfl⟩ := List.append_eq_nil_iff.1 hf4.symm
  obtain ⟨u2, rfl⟩ := sl_one h4
  obtain ⟨rfl, _⟩ := hr4
  exact ⟨u1, u2, rfl, h3, h4⟩
theorem pk_GRecord {S : Nat → Prop} {w : World} {x : GRecord} {u1 u2 : Value} {g1 g2 fp : List Nat} (h1 : Rep.sat S w x.Label [u1] g1) (h2 : Rep.sat S w x.Body [u2] g2) (hfp : fp = (g1 ++ g2)) : Rep.sat S w x (cat [Flat.enc x.Number, Flat.enc x.Version, Flat.enc x.Nonce, [u1], [u2], Flat.enc x.Tag]) fp := by
  rw [hfp]
  refine ⟨_, _, [], (g1 ++ g2), rfl, (by simp), ⟨rfl, rfl⟩, ?_⟩
  refine ⟨_, _, [], (g1 ++ g2), rfl, (by simp), ⟨rfl, rfl⟩, ?_⟩
  refine ⟨_, _, [], (g1 ++ g2), rfl, (by simp), ⟨rfl, rfl⟩, ?_⟩
  refine ⟨_, _, g1, g2, rfl, (by simp), h1, ?_⟩
  refine ⟨_, _, g2, [], rfl, (by simp), h2, ?_⟩
  exact ⟨rfl, rfl⟩
theorem zsat_GRecord (w : World) : Rep.sat NoB w (⟨(0 : Int), (0 : Int), (Vector.replicate 16 (0 : UInt8)), ([] : (List UInt8)), ([] : (List UInt8)), (Vector.replicate 32 (0 : UInt8))⟩ : GRecord) (cat [(Flat.enc (0 : Int)), (Flat.enc (0 : Int)), (Flat.enc (Vector.replicate 16 (0 : UInt8))), [.slice none 0 0], [.slice none 0 0], (Flat.enc (Vector.replicate 32 (0 : UInt8)))]) [] := pk_GRecord zsat_nil zsat_nil rfl
structure GEvent where
  Kind : Int
  Number : Int
  Tag : (Vector UInt8 32)
  deriving DecidableEq, Inhabited
instance : Dat GEvent := ⟨fun x => Dat.bd (α := Int × Int × (Vector UInt8 32)) (x.Kind, x.Number, x.Tag), fun x => Dat.sz (α := Int × Int × (Vector UInt8 32)) (x.Kind, x.Number, x.Tag) + 1⟩
instance : Flat GEvent where
  n := 34
  enc x := cat [Flat.enc x.Kind, Flat.enc x.Number, Flat.enc x.Tag]
  len x := cat_len (cl1 (Flat.len _) (cl1 (Flat.len _) (cl1 (Flat.len _) cl0)))
  cell x := cat_cell (cc1 (Flat.cell _) (cc1 (Flat.cell _) (cc1 (Flat.cell _) cc0)))
structure GVault where
  Keys : (List (Vector UInt8 16))
  Next : Int
  Records : (List GRecord)
  Events : (List GEvent)
  Head : (Vector UInt8 32)
  deriving DecidableEq, Inhabited
instance : Dat GVault := ⟨fun x => Dat.bd (α := (List (Vector UInt8 16)) × Int × (List GRecord) × (List GEvent) × (Vector UInt8 32)) (x.Keys, x.Next, x.Records, x.Events, x.Head), fun x => Dat.sz (α := (List (Vector UInt8 16)) × Int × (List GRecord) × (List GEvent) × (Vector UInt8 32)) (x.Keys, x.Next, x.Records, x.Events, x.Head) + 1⟩
instance : Rep GVault := repIso (α := (List (Vector UInt8 16)) × Int × (List GRecord) × (List GEvent) × (Vector UInt8 32)) (fun x => (x.Keys, x.Next, x.Records, x.Events, x.Head))
theorem unf_GVault {S : Nat → Prop} {w : World} {x : GVault} {cs : List Value} {fp : List Nat} (h : Rep.sat S w x cs fp) : ∃ (u1 : Value) (u2 : Value) (u3 : Value), ∃ (g1 : List Nat) (g2 : List Nat) (g3 : List Nat), cs = cat [[u1], Flat.enc x.Next, [u2], [u3], Flat.enc x.Head] ∧ fp = (g1 ++ (g2 ++ g3)) ∧ Rep.sat S w x.Keys [u1] g1 ∧ Rep.sat S w x.Records [u2] g2 ∧ Rep.sat S w x.Events [u3] g3 := by
  obtain ⟨c0, d0, f0, q0, rfl, rfl, h0, hr0⟩ := h
  obtain ⟨u1, rfl⟩ := sl_one h0
  obtain ⟨c1, d1, f1, q1, rfl, rfl, h1, hr1⟩ := hr0
  obtain ⟨rfl, rfl⟩ := h1
  obtain ⟨c2, d2, f2, q2, rfl, rfl, h2, hr2⟩ := hr1
  obtain ⟨u2, rfl⟩ := sl_one h2
  obtain ⟨c3, d3, f3, q3, rfl, rfl, h3, hr3⟩ := hr2
  obtain ⟨u3, rfl⟩ := sl_one h3
  obtain ⟨rfl, rfl⟩ := hr3
  exact ⟨u1, u2, u3, _, _, _, rfl, by simp, h0, h2, h3⟩
theorem unc_GVault {S : Nat → Prop} {w : World} {x : GVault} {u1 u2 u3 : Value} {fp : List Nat} (h : Rep.sat S w x (cat [[u1], Flat.enc x.Next, [u2], [u3], Flat.enc x.Head]) fp) : ∃ (g1 : List Nat) (g2 : List Nat) (g3 : List Nat), fp = (g1 ++ (g2 ++ g3)) ∧ Rep.sat S w x.Keys [u1] g1 ∧ Rep.sat S w x.Records [u2] g2 ∧ Rep.sat S w x.Events [u3] g3 := by
  obtain ⟨w1, w2, w3, g1, g2, g3, hc, hf, s1, s2, s3⟩ := unf_GVault h
  obtain ⟨e1, k1⟩ := cat_inj hc rfl
  obtain ⟨e2, k2⟩ := cat_inj k1 rfl
  obtain ⟨e3, k3⟩ := cat_inj k2 rfl
  obtain ⟨e4, k4⟩ := cat_inj k3 rfl
  obtain rfl := (List.cons.inj e1).1
  obtain rfl := (List.cons.inj e3).1
  obtain rfl := (List.cons.inj e4).1
  exact ⟨g1, g2, g3, hf, s1, s2, s3⟩
theorem un_GVault {S : Nat → Prop} {w : World} {x : GVault} {cs : List Value} (h : Rep.sat S w x cs []) : ∃ u1 u2 u3, cs = cat [[u1], Flat.enc x.Next, [u2], [u3], Flat.enc x.Head] ∧ Rep.sat S w x.Keys [u1] [] ∧ Rep.sat S w x.Records [u2] [] ∧ Rep.sat S w x.Events [u3] [] := by
  obtain ⟨c0, d0, f0, g0, rfl, hf0, h0, hr0⟩ := h
  obtain ⟨rfl, rfl⟩ := List.append_eq_nil_iff.1 hf0.symm
  obtain ⟨u1, rfl⟩ := sl_one h0
  obtain ⟨c1, d1, f1, g1, rfl, hf1, h1, hr1⟩ := hr0
  obtain ⟨rfl, rfl⟩ := List.append_eq_nil_iff.1 hf1.symm
  obtain ⟨rfl, _⟩ := h1
  obtain ⟨c2, d2, f2, g2, rfl, hf2, h2, hr2⟩ := hr1
  obtain ⟨rfl, rfl⟩ := List.append_eq_nil_iff.1 hf2.symm
  obtain ⟨u2, rfl⟩ := sl_one h2
  obtain ⟨c3, d3, f3, g3, rfl, hf3, h3, hr3⟩ := hr2
  obtain ⟨rfl, rfl⟩ := List.append_eq_nil_iff.1 hf3.symm
  obtain ⟨u3, rfl⟩ := sl_one h3
  obtain ⟨rfl, _⟩ := hr3
  exact ⟨u1, u2, u3, rfl, h0, h2, h3⟩
theorem pk_GVault {S : Nat → Prop} {w : World} {x : GVault} {u1 u2 u3 : Value} {g1 g2 g3 fp : List Nat} (h1 : Rep.sat S w x.Keys [u1] g1) (h2 : Rep.sat S w x.Records [u2] g2) (h3 : Rep.sat S w x.Events [u3] g3) (hfp : fp = (g1 ++ (g2 ++ g3))) : Rep.sat S w x (cat [[u1], Flat.enc x.Next, [u2], [u3], Flat.enc x.Head]) fp := by
  rw [hfp]
  refine ⟨_, _, g1, (g2 ++ g3), rfl, (by simp), h1, ?_⟩
  refine ⟨_, _, [], (g2 ++ g3), rfl, (by simp), ⟨rfl, rfl⟩, ?_⟩
  refine ⟨_, _, g2, g3, rfl, (by simp), h2, ?_⟩
  refine ⟨_, _, g3, [], rfl, (by simp), h3, ?_⟩
  exact ⟨rfl, rfl⟩
theorem zsat_GVault (w : World) : Rep.sat NoB w (⟨([] : (List (Vector UInt8 16))), (0 : Int), ([] : (List GRecord)), ([] : (List GEvent)), (Vector.replicate 32 (0 : UInt8))⟩ : GVault) (cat [[.slice none 0 0], (Flat.enc (0 : Int)), [.slice none 0 0], [.slice none 0 0], (Flat.enc (Vector.replicate 32 (0 : UInt8)))]) [] := pk_GVault zsat_nil zsat_nil zsat_nil rfl
structure GCipher where
  Field : Int
  Box : (Vector UInt8 256)
  Mix : (Vector (Vector UInt8 4) 4)
  Places : (Vector UInt8 16)
  Rounds : Int
  deriving DecidableEq, Inhabited
instance : Dat GCipher := ⟨fun x => Dat.bd (α := Int × (Vector UInt8 256) × (Vector (Vector UInt8 4) 4) × (Vector UInt8 16) × Int) (x.Field, x.Box, x.Mix, x.Places, x.Rounds), fun x => Dat.sz (α := Int × (Vector UInt8 256) × (Vector (Vector UInt8 4) 4) × (Vector UInt8 16) × Int) (x.Field, x.Box, x.Mix, x.Places, x.Rounds) + 1⟩
instance : Flat GCipher where
  n := 290
  enc x := cat [Flat.enc x.Field, Flat.enc x.Box, Flat.enc x.Mix, Flat.enc x.Places, Flat.enc x.Rounds]
  len x := cat_len (cl1 (Flat.len _) (cl1 (Flat.len _) (cl1 (Flat.len _) (cl1 (Flat.len _) (cl1 (Flat.len _) cl0)))))
  cell x := cat_cell (cc1 (Flat.cell _) (cc1 (Flat.cell _) (cc1 (Flat.cell _) (cc1 (Flat.cell _) (cc1 (Flat.cell _) cc0)))))
structure Gengine where
  box : (Vector UInt8 256)
  backBox : (Vector UInt8 256)
  places : (Vector UInt8 16)
  backPlaces : (Vector UInt8 16)
  mixer : (Ref (Vector (Vector (Vector UInt8 256) 4) 4))
  backMixer : (Ref (Vector (Vector (Vector UInt8 256) 4) 4))
  rounds : Int
  deriving DecidableEq, Inhabited
instance : Dat Gengine := ⟨fun x => Dat.bd (α := (Vector UInt8 256) × (Vector UInt8 256) × (Vector UInt8 16) × (Vector UInt8 16) × (Ref (Vector (Vector (Vector UInt8 256) 4) 4)) × (Ref (Vector (Vector (Vector UInt8 256) 4) 4)) × Int) (x.box, x.backBox, x.places, x.backPlaces, x.mixer, x.backMixer, x.rounds), fun x => Dat.sz (α := (Vector UInt8 256) × (Vector UInt8 256) × (Vector UInt8 16) × (Vector UInt8 16) × (Ref (Vector (Vector (Vector UInt8 256) 4) 4)) × (Ref (Vector (Vector (Vector UInt8 256) 4) 4)) × Int) (x.box, x.backBox, x.places, x.backPlaces, x.mixer, x.backMixer, x.rounds) + 1⟩
instance : Rep Gengine := repIso (α := (Vector UInt8 256) × (Vector UInt8 256) × (Vector UInt8 16) × (Vector UInt8 16) × (Ref (Vector (Vector (Vector UInt8 256) 4) 4)) × (Ref (Vector (Vector (Vector UInt8 256) 4) 4)) × Int) (fun x => (x.box, x.backBox, x.places, x.backPlaces, x.mixer, x.backMixer, x.rounds))
theorem unf_Gengine {S : Nat → Prop} {w : World} {x : Gengine} {cs : List Value} {fp : List Nat} (h : Rep.sat S w x cs fp) : ∃ (u1 : Value) (u2 : Value), ∃ (g1 : List Nat) (g2 : List Nat), cs = cat [Flat.enc x.box, Flat.enc x.backBox, Flat.enc x.places, Flat.enc x.backPlaces, [u1], [u2], Flat.enc x.rounds] ∧ fp = (g1 ++ g2) ∧ Rep.sat S w x.mixer [u1] g1 ∧ Rep.sat S w x.backMixer [u2] g2 := by
  obtain ⟨c0, d0, f0, q0, rfl, rfl, h0, hr0⟩ := h
  obtain ⟨rfl, rfl⟩ := h0
  obtain ⟨c1, d1, f1, q1, rfl, rfl, h1, hr1⟩ := hr0
  obtain ⟨rfl, rfl⟩ := h1
  obtain ⟨c2, d2, f2, q2, rfl, rfl, h2, hr2⟩ := hr1
  obtain ⟨rfl, rfl⟩ := h2
  obtain ⟨c3, d3, f3, q3, rfl, rfl, h3, hr3⟩ := hr2
  obtain ⟨rfl, rfl⟩ := h3
  obtain ⟨c4, d4, f4, q4, rfl, rfl, h4, hr4⟩ := hr3
  obtain ⟨u1, rfl⟩ := ref_one h4
  obtain ⟨c5, d5, f5, q5, rfl, rfl, h5, hr5⟩ := hr4
  obtain ⟨u2, rfl⟩ := ref_one h5
  obtain ⟨rfl, rfl⟩ := hr5
  exact ⟨u1, u2, _, _, rfl, by simp, h4, h5⟩
theorem unc_Gengine {S : Nat → Prop} {w : World} {x : Gengine} {u1 u2 : Value} {fp : List Nat} (h : Rep.sat S w x (cat [Flat.enc x.box, Flat.enc x.backBox, Flat.enc x.places, Flat.enc x.backPlaces, [u1], [u2], Flat.enc x.rounds]) fp) : ∃ (g1 : List Nat) (g2 : List Nat), fp = (g1 ++ g2) ∧ Rep.sat S w x.mixer [u1] g1 ∧ Rep.sat S w x.backMixer [u2] g2 := by
  obtain ⟨w1, w2, g1, g2, hc, hf, s1, s2⟩ := unf_Gengine h
  obtain ⟨e1, k1⟩ := cat_inj hc rfl
  obtain ⟨e2, k2⟩ := cat_inj k1 rfl
  obtain ⟨e3, k3⟩ := cat_inj k2 rfl
  obtain ⟨e4, k4⟩ := cat_inj k3 rfl
  obtain ⟨e5, k5⟩ := cat_inj k4 rfl
  obtain ⟨e6, k6⟩ := cat_inj k5 rfl
  obtain rfl := (List.cons.inj e5).1
  obtain rfl := (List.cons.inj e6).1
  exact ⟨g1, g2, hf, s1, s2⟩
theorem un_Gengine {S : Nat → Prop} {w : World} {x : Gengine} {cs : List Value} (h : Rep.sat S w x cs []) : ∃ u1 u2, cs = cat [Flat.enc x.box, Flat.enc x.backBox, Flat.enc x.places, Flat.enc x.backPlaces, [u1], [u2], Flat.enc x.rounds] ∧ Rep.sat S w x.mixer [u1] [] ∧ Rep.sat S w x.backMixer [u2] [] := by
  obtain ⟨c0, d0, f0, g0, rfl, hf0, h0, hr0⟩ := h
  obtain ⟨rfl, rfl⟩ := List.append_eq_nil_iff.1 hf0.symm
  obtain ⟨rfl, _⟩ := h0
  obtain ⟨c1, d1, f1, g1, rfl, hf1, h1, hr1⟩ := hr0
  obtain ⟨rfl, rfl⟩ := List.append_eq_nil_iff.1 hf1.symm
  obtain ⟨rfl, _⟩ := h1
  obtain ⟨c2, d2, f2, g2, rfl, hf2, h2, hr2⟩ := hr1
  obtain ⟨rfl, rfl⟩ := List.append_eq_nil_iff.1 hf2.symm
  obtain ⟨rfl, _⟩ := h2
  obtain ⟨c3, d3, f3, g3, rfl, hf3, h3, hr3⟩ := hr2
  obtain ⟨rfl, rfl⟩ := List.append_eq_nil_iff.1 hf3.symm
  obtain ⟨rfl, _⟩ := h3
  obtain ⟨c4, d4, f4, g4, rfl, hf4, h4, hr4⟩ := hr3
  obtain ⟨rfl, rfl⟩ := List.append_eq_nil_iff.1 hf4.symm
  obtain ⟨u1, rfl⟩ := ref_one h4
  obtain ⟨c5, d5, f5, g5, rfl, hf5, h5, hr5⟩ := hr4
  obtain ⟨rfl, rfl⟩ := List.append_eq_nil_iff.1 hf5.symm
  obtain ⟨u2, rfl⟩ := ref_one h5
  obtain ⟨rfl, _⟩ := hr5
  exact ⟨u1, u2, rfl, h4, h5⟩
theorem pk_Gengine {S : Nat → Prop} {w : World} {x : Gengine} {u1 u2 : Value} {g1 g2 fp : List Nat} (h1 : Rep.sat S w x.mixer [u1] g1) (h2 : Rep.sat S w x.backMixer [u2] g2) (hfp : fp = (g1 ++ g2)) : Rep.sat S w x (cat [Flat.enc x.box, Flat.enc x.backBox, Flat.enc x.places, Flat.enc x.backPlaces, [u1], [u2], Flat.enc x.rounds]) fp := by
  rw [hfp]
  refine ⟨_, _, [], (g1 ++ g2), rfl, (by simp), ⟨rfl, rfl⟩, ?_⟩
  refine ⟨_, _, [], (g1 ++ g2), rfl, (by simp), ⟨rfl, rfl⟩, ?_⟩
  refine ⟨_, _, [], (g1 ++ g2), rfl, (by simp), ⟨rfl, rfl⟩, ?_⟩
  refine ⟨_, _, [], (g1 ++ g2), rfl, (by simp), ⟨rfl, rfl⟩, ?_⟩
  refine ⟨_, _, g1, g2, rfl, (by simp), h1, ?_⟩
  refine ⟨_, _, g2, [], rfl, (by simp), h2, ?_⟩
  exact ⟨rfl, rfl⟩
theorem ty2 : Ty Try.prog 2 (.int .i64) 1 8 (Flat.enc (0 : Int)) := ⟨Try.underlying2, by kernel_rfl⟩
theorem ty5 : Ty Try.prog 5 (.int .u8) 1 1 (Flat.enc (0 : UInt8)) := ⟨Try.underlying5, by kernel_rfl⟩
theorem ty25 : Ty Try.prog 25 (.array 32 5) 32 32 (Flat.enc (Vector.replicate 32 (0 : UInt8))) := ⟨Try.underlying25, by kernel_rfl⟩
theorem ty28 : Ty Try.prog 28 (.slice 65) 1 24 [.slice none 0 0] := ⟨Try.underlying28, by kernel_rfl⟩
theorem ty33 : Ty Try.prog 33 (.array 16 5) 16 16 (Flat.enc (Vector.replicate 16 (0 : UInt8))) := ⟨Try.underlying33, by kernel_rfl⟩
theorem ty34 : Ty Try.prog 34 (.slice 39) 1 24 [.slice none 0 0] := ⟨Try.underlying34, by kernel_rfl⟩
theorem ty35 : Ty Try.prog 35 (.slice 114) 1 24 [.slice none 0 0] := ⟨Try.underlying35, by kernel_rfl⟩
theorem ty37 : Ty Try.prog 37 (.struct [{ name := "Keys", type := 34, offset := 0, embedded := false, tag := "", pkgPath := "", byteOffset := 0 }, { name := "Next", type := 2, offset := 1, embedded := false, tag := "", pkgPath := "", byteOffset := 24 }, { name := "Records", type := 35, offset := 2, embedded := false, tag := "", pkgPath := "", byteOffset := 32 }, { name := "Events", type := 28, offset := 3, embedded := false, tag := "", pkgPath := "", byteOffset := 56 }, { name := "Head", type := 25, offset := 4, embedded := false, tag := "", pkgPath := "", byteOffset := 80 }].toArray) 36 112 (cat [[.slice none 0 0], (Flat.enc (0 : Int)), [.slice none 0 0], [.slice none 0 0], (Flat.enc (Vector.replicate 32 (0 : UInt8)))]) := ⟨Try.underlying37, by kernel_rfl⟩
theorem ty39 : Ty Try.prog 39 (.array 16 5) 16 16 (Flat.enc (Vector.replicate 16 (0 : UInt8))) := ⟨Try.underlying39, by kernel_rfl⟩
theorem ty50 : Ty Try.prog 50 (.slice 5) 1 24 [.slice none 0 0] := ⟨Try.underlying50, by kernel_rfl⟩
theorem ty65 : Ty Try.prog 65 (.struct [{ name := "Kind", type := 2, offset := 0, embedded := false, tag := "", pkgPath := "", byteOffset := 0 }, { name := "Number", type := 2, offset := 1, embedded := false, tag := "", pkgPath := "", byteOffset := 8 }, { name := "Tag", type := 25, offset := 2, embedded := false, tag := "", pkgPath := "", byteOffset := 16 }].toArray) 34 48 (Flat.enc (⟨(0 : Int), (0 : Int), (Vector.replicate 32 (0 : UInt8))⟩ : GEvent)) := ⟨Try.underlying65, by kernel_rfl⟩
theorem ty96 : Ty Try.prog 96 (.array 256 5) 256 256 (Flat.enc (Vector.replicate 256 (0 : UInt8))) := ⟨Try.underlying96, by kernel_rfl⟩
theorem ty97 : Ty Try.prog 97 (.array 256 5) 256 256 (Flat.enc (Vector.replicate 256 (0 : UInt8))) := ⟨Try.underlying97, by kernel_rfl⟩
theorem ty98 : Ty Try.prog 98 (.array 4 5) 4 4 (Flat.enc (Vector.replicate 4 (0 : UInt8))) := ⟨Try.underlying98, by kernel_rfl⟩
theorem ty100 : Ty Try.prog 100 (.array 4 98) 16 16 (Flat.enc (Vector.replicate 4 (Vector.replicate 4 (0 : UInt8)))) := ⟨Try.underlying100, by kernel_rfl⟩
theorem ty101 : Ty Try.prog 101 (.array 16 5) 16 16 (Flat.enc (Vector.replicate 16 (0 : UInt8))) := ⟨Try.underlying101, by kernel_rfl⟩
theorem ty103 : Ty Try.prog 103 (.struct [{ name := "Field", type := 2, offset := 0, embedded := false, tag := "", pkgPath := "", byteOffset := 0 }, { name := "Box", type := 97, offset := 1, embedded := false, tag := "", pkgPath := "", byteOffset := 8 }, { name := "Mix", type := 100, offset := 257, embedded := false, tag := "", pkgPath := "", byteOffset := 264 }, { name := "Places", type := 101, offset := 273, embedded := false, tag := "", pkgPath := "", byteOffset := 280 }, { name := "Rounds", type := 2, offset := 289, embedded := false, tag := "", pkgPath := "", byteOffset := 296 }].toArray) 290 304 (Flat.enc (⟨(0 : Int), (Vector.replicate 256 (0 : UInt8)), (Vector.replicate 4 (Vector.replicate 4 (0 : UInt8))), (Vector.replicate 16 (0 : UInt8)), (0 : Int)⟩ : GCipher)) := ⟨Try.underlying103, by kernel_rfl⟩
theorem ty114 : Ty Try.prog 114 (.struct [{ name := "Number", type := 2, offset := 0, embedded := false, tag := "", pkgPath := "", byteOffset := 0 }, { name := "Version", type := 2, offset := 1, embedded := false, tag := "", pkgPath := "", byteOffset := 8 }, { name := "Nonce", type := 39, offset := 2, embedded := false, tag := "", pkgPath := "", byteOffset := 16 }, { name := "Label", type := 50, offset := 18, embedded := false, tag := "", pkgPath := "", byteOffset := 32 }, { name := "Body", type := 50, offset := 19, embedded := false, tag := "", pkgPath := "", byteOffset := 56 }, { name := "Tag", type := 25, offset := 20, embedded := false, tag := "", pkgPath := "", byteOffset := 80 }].toArray) 52 112 (cat [(Flat.enc (0 : Int)), (Flat.enc (0 : Int)), (Flat.enc (Vector.replicate 16 (0 : UInt8))), [.slice none 0 0], [.slice none 0 0], (Flat.enc (Vector.replicate 32 (0 : UInt8)))]) := ⟨Try.underlying114, by kernel_rfl⟩
theorem ty149 : Ty Try.prog 149 (.pointer 168) 1 8 [.pointer none] := ⟨Try.underlying149, by kernel_rfl⟩
theorem ty152 : Ty Try.prog 152 (.struct [{ name := "box", type := 97, offset := 0, embedded := false, tag := "", pkgPath := "loop.example/g01182/impl", byteOffset := 0 }, { name := "backBox", type := 97, offset := 256, embedded := false, tag := "", pkgPath := "loop.example/g01182/impl", byteOffset := 256 }, { name := "places", type := 101, offset := 512, embedded := false, tag := "", pkgPath := "loop.example/g01182/impl", byteOffset := 512 }, { name := "backPlaces", type := 101, offset := 528, embedded := false, tag := "", pkgPath := "loop.example/g01182/impl", byteOffset := 528 }, { name := "mixer", type := 149, offset := 544, embedded := false, tag := "", pkgPath := "loop.example/g01182/impl", byteOffset := 544 }, { name := "backMixer", type := 149, offset := 545, embedded := false, tag := "", pkgPath := "loop.example/g01182/impl", byteOffset := 552 }, { name := "rounds", type := 2, offset := 546, embedded := false, tag := "", pkgPath := "loop.example/g01182/impl", byteOffset := 560 }].toArray) 547 568 (cat [(Flat.enc (Vector.replicate 256 (0 : UInt8))), (Flat.enc (Vector.replicate 256 (0 : UInt8))), (Flat.enc (Vector.replicate 16 (0 : UInt8))), (Flat.enc (Vector.replicate 16 (0 : UInt8))), [.pointer none], [.pointer none], (Flat.enc (0 : Int))]) := ⟨Try.underlying152, by kernel_rfl⟩
theorem ty166 : Ty Try.prog 166 (.array 4 96) 1024 1024 (Flat.enc (Vector.replicate 4 (Vector.replicate 256 (0 : UInt8)))) := ⟨Try.underlying166, by kernel_rfl⟩
theorem ty168 : Ty Try.prog 168 (.array 4 166) 4096 4096 (Flat.enc (Vector.replicate 4 (Vector.replicate 4 (Vector.replicate 256 (0 : UInt8))))) := ⟨Try.underlying168, by kernel_rfl⟩
theorem fd37_0 : Fd Try.prog 37 0 0 := fd_mk ty37.und rfl rfl ty34 (by decide)
theorem fd37_1 : Fd Try.prog 37 1 1 := fd_mk ty37.und rfl rfl ty2 (by decide)
theorem fd37_2 : Fd Try.prog 37 2 2 := fd_mk ty37.und rfl rfl ty35 (by decide)
theorem fd37_3 : Fd Try.prog 37 3 3 := fd_mk ty37.und rfl rfl ty28 (by decide)
theorem fd37_4 : Fd Try.prog 37 4 4 := fd_mk ty37.und rfl rfl ty25 (by decide)
theorem fd65_0 : Fd Try.prog 65 0 0 := fd_mk ty65.und rfl rfl ty2 (by decide)
theorem fd65_1 : Fd Try.prog 65 1 1 := fd_mk ty65.und rfl rfl ty2 (by decide)
theorem fd65_2 : Fd Try.prog 65 2 2 := fd_mk ty65.und rfl rfl ty25 (by decide)
theorem fd103_0 : Fd Try.prog 103 0 0 := fd_mk ty103.und rfl rfl ty2 (by decide)
theorem fd103_1 : Fd Try.prog 103 1 1 := fd_mk ty103.und rfl rfl ty97 (by decide)
theorem fd103_2 : Fd Try.prog 103 2 257 := fd_mk ty103.und rfl rfl ty100 (by decide)
theorem fd103_3 : Fd Try.prog 103 3 273 := fd_mk ty103.und rfl rfl ty101 (by decide)
theorem fd103_4 : Fd Try.prog 103 4 289 := fd_mk ty103.und rfl rfl ty2 (by decide)
theorem fd114_0 : Fd Try.prog 114 0 0 := fd_mk ty114.und rfl rfl ty2 (by decide)
theorem fd114_1 : Fd Try.prog 114 1 1 := fd_mk ty114.und rfl rfl ty2 (by decide)
theorem fd114_2 : Fd Try.prog 114 2 2 := fd_mk ty114.und rfl rfl ty39 (by decide)
theorem fd114_3 : Fd Try.prog 114 3 18 := fd_mk ty114.und rfl rfl ty50 (by decide)
theorem fd114_4 : Fd Try.prog 114 4 19 := fd_mk ty114.und rfl rfl ty50 (by decide)
theorem fd114_5 : Fd Try.prog 114 5 20 := fd_mk ty114.und rfl rfl ty25 (by decide)
theorem fd152_0 : Fd Try.prog 152 0 0 := fd_mk ty152.und rfl rfl ty97 (by decide)
theorem fd152_1 : Fd Try.prog 152 1 256 := fd_mk ty152.und rfl rfl ty97 (by decide)
theorem fd152_2 : Fd Try.prog 152 2 512 := fd_mk ty152.und rfl rfl ty101 (by decide)
theorem fd152_3 : Fd Try.prog 152 3 528 := fd_mk ty152.und rfl rfl ty101 (by decide)
theorem fd152_4 : Fd Try.prog 152 4 544 := fd_mk ty152.und rfl rfl ty149 (by decide)
theorem fd152_5 : Fd Try.prog 152 5 545 := fd_mk ty152.und rfl rfl ty149 (by decide)
theorem fd152_6 : Fd Try.prog 152 6 546 := fd_mk ty152.und rfl rfl ty2 (by decide)
theorem pl37 : Places Try.prog [{ name := "Keys", type := 34, offset := 0, embedded := false, tag := "", pkgPath := "", byteOffset := 0 }, { name := "Next", type := 2, offset := 1, embedded := false, tag := "", pkgPath := "", byteOffset := 24 }, { name := "Records", type := 35, offset := 2, embedded := false, tag := "", pkgPath := "", byteOffset := 32 }, { name := "Events", type := 28, offset := 3, embedded := false, tag := "", pkgPath := "", byteOffset := 56 }, { name := "Head", type := 25, offset := 4, embedded := false, tag := "", pkgPath := "", byteOffset := 80 }] [(0, 1), (1, 1), (2, 1), (3, 1), (4, 32)] := by show _ = _; kernel_rfl
theorem pl103 : Places Try.prog [{ name := "Field", type := 2, offset := 0, embedded := false, tag := "", pkgPath := "", byteOffset := 0 }, { name := "Box", type := 97, offset := 1, embedded := false, tag := "", pkgPath := "", byteOffset := 8 }, { name := "Mix", type := 100, offset := 257, embedded := false, tag := "", pkgPath := "", byteOffset := 264 }, { name := "Places", type := 101, offset := 273, embedded := false, tag := "", pkgPath := "", byteOffset := 280 }, { name := "Rounds", type := 2, offset := 289, embedded := false, tag := "", pkgPath := "", byteOffset := 296 }] [(0, 1), (1, 256), (257, 16), (273, 16), (289, 1)] := by show _ = _; kernel_rfl
theorem pl152 : Places Try.prog [{ name := "box", type := 97, offset := 0, embedded := false, tag := "", pkgPath := "loop.example/g01182/impl", byteOffset := 0 }, { name := "backBox", type := 97, offset := 256, embedded := false, tag := "", pkgPath := "loop.example/g01182/impl", byteOffset := 256 }, { name := "places", type := 101, offset := 512, embedded := false, tag := "", pkgPath := "loop.example/g01182/impl", byteOffset := 512 }, { name := "backPlaces", type := 101, offset := 528, embedded := false, tag := "", pkgPath := "loop.example/g01182/impl", byteOffset := 528 }, { name := "mixer", type := 149, offset := 544, embedded := false, tag := "", pkgPath := "loop.example/g01182/impl", byteOffset := 544 }, { name := "backMixer", type := 149, offset := 545, embedded := false, tag := "", pkgPath := "loop.example/g01182/impl", byteOffset := 552 }, { name := "rounds", type := 2, offset := 546, embedded := false, tag := "", pkgPath := "loop.example/g01182/impl", byteOffset := 560 }] [(0, 256), (256, 256), (512, 16), (528, 16), (544, 1), (545, 1), (546, 1)] := by show _ = _; kernel_rfl
theorem hmix : Try.prog.follows .mixedOrders = true := by kernel_rfl
theorem cb10 : Callable Try.prog 10 := ⟨_, _, Try.func10, by decide, rfl⟩
theorem cb11 : Callable Try.prog 11 := ⟨_, _, Try.func11, by decide, rfl⟩
theorem cb12 : Callable Try.prog 12 := ⟨_, _, Try.func12, by decide, rfl⟩
theorem cb13 : Callable Try.prog 13 := ⟨_, _, Try.func13, by decide, rfl⟩
theorem cb14 : Callable Try.prog 14 := ⟨_, _, Try.func14, by decide, rfl⟩
theorem cb15 : Callable Try.prog 15 := ⟨_, _, Try.func15, by decide, rfl⟩
theorem cb16 : Callable Try.prog 16 := ⟨_, _, Try.func16, by decide, rfl⟩
theorem cb17 : Callable Try.prog 17 := ⟨_, _, Try.func17, by decide, rfl⟩
theorem cb23 : Callable Try.prog 23 := ⟨_, _, Try.func23, by decide, rfl⟩
theorem cb26 : Callable Try.prog 26 := ⟨_, _, Try.func26, by decide, rfl⟩
theorem cb27 : Callable Try.prog 27 := ⟨_, _, Try.func27, by decide, rfl⟩
theorem cb29 : Callable Try.prog 29 := ⟨_, _, Try.func29, by decide, rfl⟩
theorem cb34 : Callable Try.prog 34 := ⟨_, _, Try.func34, by decide, rfl⟩
theorem cb35 : Callable Try.prog 35 := ⟨_, _, Try.func35, by decide, rfl⟩
theorem cb36 : Callable Try.prog 36 := ⟨_, _, Try.func36, by decide, rfl⟩
theorem cb37 : Callable Try.prog 37 := ⟨_, _, Try.func37, by decide, rfl⟩
theorem cb38 : Callable Try.prog 38 := ⟨_, _, Try.func38, by decide, rfl⟩
theorem cb39 : Callable Try.prog 39 := ⟨_, _, Try.func39, by decide, rfl⟩
theorem cb40 : Callable Try.prog 40 := ⟨_, _, Try.func40, by decide, rfl⟩
theorem cb41 : Callable Try.prog 41 := ⟨_, _, Try.func41, by decide, rfl⟩
theorem cb42 : Callable Try.prog 42 := ⟨_, _, Try.func42, by decide, rfl⟩
theorem cb43 : Callable Try.prog 43 := ⟨_, _, Try.func43, by decide, rfl⟩
theorem cb44 : Callable Try.prog 44 := ⟨_, _, Try.func44, by decide, rfl⟩
theorem cb50 : Callable Try.prog 50 := ⟨_, _, Try.func50, by decide, rfl⟩
theorem cb55 : Callable Try.prog 55 := ⟨_, _, Try.func55, by decide, rfl⟩
theorem cb63 : Callable Try.prog 63 := ⟨_, _, Try.func63, by decide, rfl⟩
theorem cb64 : Callable Try.prog 64 := ⟨_, _, Try.func64, by decide, rfl⟩
theorem cb65 : Callable Try.prog 65 := ⟨_, _, Try.func65, by decide, rfl⟩
theorem cb69 : Callable Try.prog 69 := ⟨_, _, Try.func69, by decide, rfl⟩
theorem cb70 : Callable Try.prog 70 := ⟨_, _, Try.func70, by decide, rfl⟩
theorem cb71 : Callable Try.prog 71 := ⟨_, _, Try.func71, by decide, rfl⟩
theorem cb72 : Callable Try.prog 72 := ⟨_, _, Try.func72, by decide, rfl⟩
theorem cb73 : Callable Try.prog 73 := ⟨_, _, Try.func73, by decide, rfl⟩
theorem cb82 : Callable Try.prog 82 := ⟨_, _, Try.func82, by decide, rfl⟩
theorem cb83 : Callable Try.prog 83 := ⟨_, _, Try.func83, by decide, rfl⟩
theorem cb84 : Callable Try.prog 84 := ⟨_, _, Try.func84, by decide, rfl⟩
theorem cb85 : Callable Try.prog 85 := ⟨_, _, Try.func85, by decide, rfl⟩
theorem cb86 : Callable Try.prog 86 := ⟨_, _, Try.func86, by decide, rfl⟩
theorem cb87 : Callable Try.prog 87 := ⟨_, _, Try.func87, by decide, rfl⟩
theorem cb88 : Callable Try.prog 88 := ⟨_, _, Try.func88, by decide, rfl⟩
theorem cb89 : Callable Try.prog 89 := ⟨_, _, Try.func89, by decide, rfl⟩
theorem cb90 : Callable Try.prog 90 := ⟨_, _, Try.func90, by decide, rfl⟩
theorem cb91 : Callable Try.prog 91 := ⟨_, _, Try.func91, by decide, rfl⟩
theorem cb92 : Callable Try.prog 92 := ⟨_, _, Try.func92, by decide, rfl⟩
theorem cb93 : Callable Try.prog 93 := ⟨_, _, Try.func93, by decide, rfl⟩
theorem cb94 : Callable Try.prog 94 := ⟨_, _, Try.func94, by decide, rfl⟩
theorem cb95 : Callable Try.prog 95 := ⟨_, _, Try.func95, by decide, rfl⟩
theorem cb100 : Callable Try.prog 100 := ⟨_, _, Try.func100, by decide, rfl⟩
theorem cb101 : Callable Try.prog 101 := ⟨_, _, Try.func101, by decide, rfl⟩
theorem cb102 : Callable Try.prog 102 := ⟨_, _, Try.func102, by decide, rfl⟩
theorem cb103 : Callable Try.prog 103 := ⟨_, _, Try.func103, by decide, rfl⟩
theorem cb104 : Callable Try.prog 104 := ⟨_, _, Try.func104, by decide, rfl⟩
theorem cb105 : Callable Try.prog 105 := ⟨_, _, Try.func105, by decide, rfl⟩
theorem cb106 : Callable Try.prog 106 := ⟨_, _, Try.func106, by decide, rfl⟩
theorem cb107 : Callable Try.prog 107 := ⟨_, _, Try.func107, by decide, rfl⟩
theorem cb108 : Callable Try.prog 108 := ⟨_, _, Try.func108, by decide, rfl⟩
theorem cb109 : Callable Try.prog 109 := ⟨_, _, Try.func109, by decide, rfl⟩
theorem cb110 : Callable Try.prog 110 := ⟨_, _, Try.func110, by decide, rfl⟩
theorem cb111 : Callable Try.prog 111 := ⟨_, _, Try.func111, by decide, rfl⟩
theorem cb112 : Callable Try.prog 112 := ⟨_, _, Try.func112, by decide, rfl⟩
theorem cb113 : Callable Try.prog 113 := ⟨_, _, Try.func113, by decide, rfl⟩
theorem cb114 : Callable Try.prog 114 := ⟨_, _, Try.func114, by decide, rfl⟩
theorem cb115 : Callable Try.prog 115 := ⟨_, _, Try.func115, by decide, rfl⟩
theorem cb119 : Callable Try.prog 119 := ⟨_, _, Try.func119, by decide, rfl⟩
theorem cb120 : Callable Try.prog 120 := ⟨_, _, Try.func120, by decide, rfl⟩
theorem cb121 : Callable Try.prog 121 := ⟨_, _, Try.func121, by decide, rfl⟩
theorem cb122 : Callable Try.prog 122 := ⟨_, _, Try.func122, by decide, rfl⟩
theorem cb123 : Callable Try.prog 123 := ⟨_, _, Try.func123, by decide, rfl⟩
theorem cb124 : Callable Try.prog 124 := ⟨_, _, Try.func124, by decide, rfl⟩
theorem cb125 : Callable Try.prog 125 := ⟨_, _, Try.func125, by decide, rfl⟩
theorem cb126 : Callable Try.prog 126 := ⟨_, _, Try.func126, by decide, rfl⟩
theorem cb127 : Callable Try.prog 127 := ⟨_, _, Try.func127, by decide, rfl⟩
theorem cb128 : Callable Try.prog 128 := ⟨_, _, Try.func128, by decide, rfl⟩
theorem cb129 : Callable Try.prog 129 := ⟨_, _, Try.func129, by decide, rfl⟩
theorem cb130 : Callable Try.prog 130 := ⟨_, _, Try.func130, by decide, rfl⟩
theorem cb131 : Callable Try.prog 131 := ⟨_, _, Try.func131, by decide, rfl⟩
theorem cb132 : Callable Try.prog 132 := ⟨_, _, Try.func132, by decide, rfl⟩
theorem cb133 : Callable Try.prog 133 := ⟨_, _, Try.func133, by decide, rfl⟩
theorem cb134 : Callable Try.prog 134 := ⟨_, _, Try.func134, by decide, rfl⟩
theorem cb135 : Callable Try.prog 135 := ⟨_, _, Try.func135, by decide, rfl⟩
noncomputable def L0_laws_toBlock (p0 : (Vector UInt8 16)) (s10 : (Vector UInt8 16) × Int) : Option (Fl ((Vector UInt8 16) × Int) (Vector UInt8 16)) :=
  if (decide (s10.2 < 16)) = true then ((vidx p0 s10.2).bind fun (x16 : UInt8) => (vidx s10.1 s10.2).bind fun (x19 : UInt8) => some (Fl.nx ((s10.1.setIfInBounds (s10.2).toNat x16), wr (s10.2 + 1)))) else (some (Fl.ex s10.1))
noncomputable def F_laws_toBlock (p0 : (Vector UInt8 16)) : Option ((Vector UInt8 16)) :=
  (iter (L0_laws_toBlock p0) ((Vector.replicate 16 (0 : UInt8)), 0) : Option ((Vector UInt8 16))).bind fun (j7 : (Vector UInt8 16)) => some j7
set_option maxRecDepth 20000 in
set_option maxHeartbeats 400000 in
theorem c_laws_toBlock (w0 : World) (p0 : (Vector UInt8 16)) (r : (Vector UInt8 16)) (hF : F_laws_toBlock p0 = some r) :
    Calls Try.prog 13 [(Value.agg (Flat.enc p0).toArray)].toArray w0 (fun en w' => ∃ v, en = .returned v ∧ (v = (Value.agg (Flat.enc r).toArray) ∧ Kept (Old w0) w0 w')) := by
  refine c_enter (n := 15) Try.func13 rfl rfl (Nat.le_of_ble_eq_true rfl) rfl ?_
  intro a hE
  have hM := M.start w0
  unfold F_laws_toBlock at hF
  refine c_region ?_
  refine s_box (cs := Flat.enc p0) hE hM goes_none (by decide) rfl rfl ?_; intro b1 w a hM hE
  refine s_alloc hE hM goes_none (by decide) ty39 ?_; intro b3 w a hM hE
  refine c_fin ?_
  refine c_region ?_
  refine s_alloc hE hM goes_none (by decide) ty39 ?_; intro b5 w a hM hE
  refine c_fin ?_
  refine wp_seq ?_
  refine c_region ?_
  refine s_assign hE goes_none (by decide) rfl ?_; intro a hE
  refine c_fin ?_
  obtain ⟨j7, hl8, hF9⟩ := bind_some hF
  refine c_cut (fun a w => Env 15 a [(2, (ptr b3 0)), (3, (ptr b5 0))] ∧ M (Old w0) w0 w [raw b5 (Flat.enc j7), raw b3 (Flat.enc (Vector.replicate 16 (0 : UInt8)))]) ?_ ?_
  · skip
    refine wp_block ?_
    refine c_loop (fun (s10 : (Vector UInt8 16) × Int) a w => Env 15 a [(1, (ptr b1 0)), (2, (ptr b3 0)), (3, (ptr b5 0)), (4, (vI s10.2))] ∧ M (Old w0) w0 w [raw b5 (Flat.enc s10.1), raw b3 (Flat.enc (Vector.replicate 16 (0 : UInt8))), raw b1 (Flat.enc p0)]) hl8 ⟨hE.sub ⟨rfl, rfl, rfl, rfl, trivial⟩, hM⟩ ?_
    rintro s10 a w ⟨hE, hM⟩ o13 hs11 hx12
    unfold L0_laws_toBlock at hs11
    refine wp_seq ?_
    refine c_region ?_
    refine s_move hE goes_none (by decide) rfl ?_; intro a hE
    refine s_int hE goes_none (by decide) rfl rfl rfl ?_; intro a hE
    refine c_fin ?_
    refine c_cond hE rfl ?_ ?_
    · intro hb14
      have hs11 := ite_t hs11 hb14
      refine wp_skip ?_
      refine c_nx ?_
      refine wp_seq ?_
      refine wp_block ?_
      refine wp_region_lit ?_
      refine s_move hE goes_none (by decide) rfl ?_; intro a hE
      refine s_move hE goes_none (by decide) rfl ?_; intro a hE
      obtain ⟨x16, e17, hs11⟩ := bind_some hs11
      have hi15 := vidx_some e17
      refine s_indexA hE goes_none (by decide) rfl rfl Try.underlying33 ty5 hi15.1 ?_; intro a hE
      refine s_load (v := (vB x16)) hE goes_none (by decide) rfl ty5 rfl (At.vec (hM.rawAt (pre := [_, _])) hi15.2) ?_; intro a hE
      obtain ⟨x19, e20, hs11⟩ := bind_some hs11
      have hi18 := vidx_some e20
      refine s_indexA hE goes_none (by decide) rfl rfl Try.underlying39 ty5 hi18.1 ?_; intro a hE
      refine s_store (seg := [(vB x16)]) (cs' := Flat.enc (s10.1.setIfInBounds (s10.2).toNat x16)) hE hM goes_none rfl rfl rfl ty5 rfl (fit_vec (v := s10.1) (x := x16) hi18.1) (Flat.cell (x16 : UInt8)) (splice_vec0 (v := s10.1) (x := x16) hi18.1) ?_; intro w a hM hE
      refine c_fin0 ?_
      refine c_nb ?_
      refine c_nx ?_
      refine wp_region_lit ?_
      refine s_move hE goes_none (by decide) rfl ?_; intro a hE
      refine s_int hE goes_none (by decide) rfl rfl rfl ?_; intro a hE
      refine s_assign hE goes_none (by decide) rfl ?_; intro a hE
      refine c_fin0 ?_
      refine c_mid ?_
      exact ⟨_, (Option.some.inj hs11).symm, hE.sub ⟨rfl, rfl, rfl, rfl, trivial⟩, hM⟩
    · intro hb14
      have hs11 := ite_f hs11 hb14
      refine wp_exit (e_then (e_then (e_eq ?_)))
      have ht21 := hx12 _ (Option.some.inj hs11).symm
      subst ht21
      refine c_mid ?_
      have hM := hM.pull (pre := [_])
      have hM := hM.pull (pre := [_])
      have hM := M.fst (l := [_, _]) hM
      exact ⟨hE.sub ⟨rfl, rfl, trivial⟩, hM⟩
  · skip
    rintro a w ⟨hE, hM⟩
    refine c_nx ?_
    refine c_region ?_
    refine s_loadA (cs := Flat.enc j7) hE goes_none (by decide) rfl ty39 rfl (hM.rawAt (pre := [])) (Flat.len _) ?_; intro a hE
    have hM := hM.pull (pre := [_])
    refine s_store (seg := Flat.enc j7) (cs' := Flat.enc j7) hE hM goes_none rfl rfl rfl ty39 (Flat.len _) (Nat.le_of_eq ((Nat.zero_add _).trans (Eq.trans (Flat.len _) (Eq.symm (Flat.len _))))) (Flat.cell _) (splice_all (Eq.trans (Flat.len _) (Eq.symm (Flat.len _)))) ?_; intro w a hM hE
    refine c_fin ?_
    have hr := Option.some.inj hF9
    subst hr
    have hq22 : ResIs Try.prog _ _ (.cell 2 39) _ := res_cell hE rfl ty39 rfl (hM.rawAt (pre := [])) (Flat.len _) rfl
    have hM := M.fst (l := []) hM
    exact wp_ret (k_ret1 hE rfl hq22 ⟨_, rfl, rfl, hM.kept⟩)
noncomputable def L0_spec_l01Times (p0 : Int) (s4 : Int × Int × Int) : Option (Fl (Int × Int × Int) Int) :=
  if (decide (s4.2.2 > 0)) = true then (((if ((Int.tmod s4.2.2 2) == 1) = true then (some (xorI s4.1 s4.2.1)) else (some s4.1) : Option (Int)).bind fun (j12 : Int) => (if (decide ((wr (s4.2.1 * 2)) ≥ 256)) = true then (some (xorI (wr (s4.2.1 * 2)) p0)) else (some (wr (s4.2.1 * 2))) : Option (Int)).bind fun (j18 : Int) => some (j12, j18) : Option (Int × Int)).bind fun (j9 : Int × Int) => some (Fl.nx (j9.1, j9.2, wr (Int.tdiv s4.2.2 2)))) else (some (Fl.ex s4.1))
noncomputable def F_spec_l01Times (p0 : Int) (p1 : UInt8) (p2 : UInt8) : Option (UInt8) :=
  (iter (L0_spec_l01Times p0) (0, bI p1, bI p2) : Option (Int)).bind fun (j1 : Int) => some (byteI j1)
set_option maxRecDepth 20000 in
set_option maxHeartbeats 400000 in
theorem c_spec_l01Times (w0 : World) (p0 : Int) (p1 : UInt8) (p2 : UInt8) (r : UInt8) (hF : F_spec_l01Times p0 p1 p2 = some r) :
    Calls Try.prog 123 [(vI p0), (vB p1), (vB p2)].toArray w0 (fun en w' => ∃ v, en = .returned v ∧ (v = (vB r) ∧ Kept (Old w0) w0 w')) := by
  refine c_enter (n := 33) Try.func123 rfl rfl (Nat.le_of_ble_eq_true rfl) rfl ?_
  intro a hE
  have hM := M.start w0
  unfold F_spec_l01Times at hF
  refine c_region ?_
  refine s_assign hE goes_none (by decide) rfl ?_; intro a hE
  refine c_fin ?_
  refine c_region ?_
  refine s_move hE goes_none (by decide) rfl ?_; intro a hE
  refine s_conv hE goes_none (by decide) rfl Try.underlying5 Try.underlying2 ?_; intro a hE
  rw [byte_wide] at hE
  refine s_assign hE goes_none (by decide) rfl ?_; intro a hE
  refine s_assign hE goes_none (by decide) rfl ?_; intro a hE
  refine c_fin ?_
  refine wp_seq ?_
  refine c_region ?_
  refine s_move hE goes_none (by decide) rfl ?_; intro a hE
  refine s_conv hE goes_none (by decide) rfl Try.underlying5 Try.underlying2 ?_; intro a hE
  rw [byte_wide] at hE
  refine s_assign hE goes_none (by decide) rfl ?_; intro a hE
  refine c_fin ?_
  obtain ⟨j1, hl2, hF3⟩ := bind_some hF
  refine c_cut (fun a w => Env 33 a [(7, (vI j1))] ∧ M (Old w0) w0 w []) ?_ ?_
  · skip
    refine wp_block ?_
    refine c_loop (fun (s4 : Int × Int × Int) a w => Env 33 a [(0, (vI p0)), (7, (vI s4.1)), (8, (vI s4.2.1)), (9, (vI s4.2.2))] ∧ M (Old w0) w0 w []) hl2 ⟨hE.sub ⟨rfl, rfl, rfl, rfl, trivial⟩, hM⟩ ?_
    rintro s4 a w ⟨hE, hM⟩ o7 hs5 hx6
    unfold L0_spec_l01Times at hs5
    refine wp_seq ?_
    refine c_region ?_
    refine s_move hE goes_none (by decide) rfl ?_; intro a hE
    refine s_int hE goes_none (by decide) rfl rfl rfl ?_; intro a hE
    refine c_fin ?_
    refine c_cond hE rfl ?_ ?_
    · intro hb8
      have hs5 := ite_t hs5 hb8
      refine wp_skip ?_
      refine c_nx ?_
      obtain ⟨j9, hl10, hF11⟩ := bind_some hs5
      refine c_join (fun a w => Env 33 a [(0, (vI p0)), (7, (vI j9.1)), (8, (vI j9.2)), (9, (vI s4.2.2))] ∧ M (Old w0) w0 w []) ?_ ?_
      · skip
        refine wp_block ?_
        obtain ⟨j12, hl13, hF14⟩ := bind_some hl10
        refine c_join (fun a w => Env 33 a [(0, (vI p0)), (7, (vI j12)), (8, (vI s4.2.1)), (9, (vI s4.2.2))] ∧ M (Old w0) w0 w []) ?_ ?_
        · skip
          refine c_region ?_
          refine s_move hE goes_none (by decide) rfl ?_; intro a hE
          refine s_int hE goes_none (by decide) rfl rfl (bI_rem _ _ (by decide)) ?_; intro a hE
          refine s_int hE goes_none (by decide) rfl rfl rfl ?_; intro a hE
          refine c_fin ?_
          refine c_cond hE rfl ?_ ?_
          · intro hb15
            have hl13 := ite_t hl13 hb15
            refine wp_region_lit ?_
            refine s_move hE goes_none (by decide) rfl ?_; intro a hE
            refine s_move hE goes_none (by decide) rfl ?_; intro a hE
            refine s_int hE goes_none (by decide) rfl rfl rfl ?_; intro a hE
            refine s_assign hE goes_none (by decide) rfl ?_; intro a hE
            refine c_fin0 ?_
            have ht16 := Option.some.inj hl13
            subst ht16
            refine c_mid ?_
            exact ⟨hE.sub ⟨rfl, rfl, rfl, rfl, trivial⟩, hM⟩
          · intro hb15
            have hl13 := ite_f hl13 hb15
            refine wp_skip ?_
            have ht17 := Option.some.inj hl13
            subst ht17
            refine c_mid ?_
            exact ⟨hE.sub ⟨rfl, rfl, rfl, rfl, trivial⟩, hM⟩
        · skip
          rintro a w ⟨hE, hM⟩
          refine c_region ?_
          refine s_move hE goes_none (by decide) rfl ?_; intro a hE
          refine s_int hE goes_none (by decide) rfl rfl rfl ?_; intro a hE
          refine s_assign hE goes_none (by decide) rfl ?_; intro a hE
          refine c_fin ?_
          refine c_region ?_
          refine s_move hE goes_none (by decide) rfl ?_; intro a hE
          refine s_int hE goes_none (by decide) rfl rfl rfl ?_; intro a hE
          refine c_fin ?_
          obtain ⟨j18, hl19, hF20⟩ := bind_some hF14
          refine c_cut (fun a w => Env 33 a [(0, (vI p0)), (7, (vI j12)), (8, (vI j18)), (9, (vI s4.2.2))] ∧ M (Old w0) w0 w []) ?_ ?_
          · skip
            refine c_cond hE rfl ?_ ?_
            · intro hb21
              have hl19 := ite_t hl19 hb21
              refine wp_region_lit ?_
              refine s_move hE goes_none (by decide) rfl ?_; intro a hE
              refine s_move hE goes_none (by decide) rfl ?_; intro a hE
              refine s_int hE goes_none (by decide) rfl rfl rfl ?_; intro a hE
              refine s_assign hE goes_none (by decide) rfl ?_; intro a hE
              refine c_fin0 ?_
              have ht22 := Option.some.inj hl19
              subst ht22
              refine c_mid ?_
              exact ⟨hE.sub ⟨rfl, rfl, rfl, rfl, trivial⟩, hM⟩
            · intro hb21
              have hl19 := ite_f hl19 hb21
              refine wp_skip ?_
              have ht23 := Option.some.inj hl19
              subst ht23
              refine c_mid ?_
              exact ⟨hE.sub ⟨rfl, rfl, rfl, rfl, trivial⟩, hM⟩
          · skip
            rintro a w ⟨hE, hM⟩
            refine c_nb ?_
            have ht24 := Option.some.inj hF20
            subst ht24
            refine c_mid ?_
            exact ⟨hE.sub ⟨rfl, rfl, rfl, rfl, trivial⟩, hM⟩
      · skip
        rintro a w ⟨hE, hM⟩
        refine wp_region_lit ?_
        refine s_move hE goes_none (by decide) rfl ?_; intro a hE
        refine s_int hE goes_none (by decide) rfl rfl (bI_quo _ _ (by decide)) ?_; intro a hE
        refine s_assign hE goes_none (by decide) rfl ?_; intro a hE
        refine c_fin0 ?_
        refine c_mid ?_
        exact ⟨_, (Option.some.inj hF11).symm, hE.sub ⟨rfl, rfl, rfl, rfl, trivial⟩, hM⟩
    · intro hb8
      have hs5 := ite_f hs5 hb8
      refine wp_exit (e_then (e_then (e_eq ?_)))
      have ht25 := hx6 _ (Option.some.inj hs5).symm
      subst ht25
      refine c_mid ?_
      exact ⟨hE.sub ⟨rfl, trivial⟩, hM⟩
  · skip
    rintro a w ⟨hE, hM⟩
    refine c_nx ?_
    refine c_region ?_
    refine s_move hE goes_none (by decide) rfl ?_; intro a hE
    refine s_conv hE goes_none (by decide) rfl Try.underlying2 Try.underlying5 ?_; intro a hE
    rw [byteI_val] at hE
    refine s_assign hE goes_none (by decide) rfl ?_; intro a hE
    refine c_fin ?_
    have hr := Option.some.inj hF3
    subst hr
    exact wp_ret (k_ret1 hE rfl (res_tmp hE rfl) ⟨_, rfl, rfl, hM.kept⟩)
noncomputable def L1_spec_l02Power (p0 : Int) (s16 : UInt8 × UInt8 × Int) : Option (Fl (UInt8 × UInt8 × Int) UInt8) :=
  if (decide (s16.2.2 > 0)) = true then (((if ((Int.tmod s16.2.2 2) == 1) = true then ((F_spec_l01Times p0 s16.1 s16.2.1).bind fun (r28 : UInt8) => some r28) else (some s16.1) : Option (UInt8)).bind fun (j24 : UInt8) => (F_spec_l01Times p0 s16.2.1 s16.2.1).bind fun (r32 : UInt8) => some (j24, r32) : Option (UInt8 × UInt8)).bind fun (j21 : UInt8 × UInt8) => some (Fl.nx (j21.1, j21.2, wr (Int.tdiv s16.2.2 2)))) else (some (Fl.ex s16.1))
noncomputable def L0_spec_l02Power (p0 : Int) (p1 : Int) (s8 : (Vector UInt8 256) × Int) : Option (Fl ((Vector UInt8 256) × Int) (Vector UInt8 256)) :=
  if (decide (s8.2 < 256)) = true then ((iter (L1_spec_l02Power p0) (1, byteI s8.2, p1) : Option (UInt8)).bind fun (j13 : UInt8) => (vidx s8.1 s8.2).bind fun (x37 : UInt8) => some (Fl.nx ((s8.1.setIfInBounds (s8.2).toNat j13), wr (s8.2 + 1)))) else (some (Fl.ex s8.1))
noncomputable def F_spec_l02Power (p0 : Int) (p1 : Int) : Option ((Vector UInt8 256)) :=
  (iter (L0_spec_l02Power p0 p1) ((Vector.replicate 256 (0 : UInt8)), 0) : Option ((Vector UInt8 256))).bind fun (j5 : (Vector UInt8 256)) => some j5
set_option maxRecDepth 20000 in
set_option maxHeartbeats 400000 in
theorem c_spec_l02Power (w0 : World) (p0 : Int) (p1 : Int) (r : (Vector UInt8 256)) (hF : F_spec_l02Power p0 p1 = some r) :
    Calls Try.prog 104 [(vI p0), (vI p1)].toArray w0 (fun en w' => ∃ v, en = .returned v ∧ (v = (Value.agg (Flat.enc r).toArray) ∧ Kept (Old w0) w0 w')) := by
  refine c_enter (n := 37) Try.func104 rfl rfl (Nat.le_of_ble_eq_true rfl) rfl ?_
  intro a hE
  have hM := M.start w0
  unfold F_spec_l02Power at hF
  refine c_region ?_
  refine s_alloc hE hM goes_none (by decide) ty97 ?_; intro b1 w a hM hE
  refine c_fin ?_
  refine c_region ?_
  refine s_buildA (parts := []) (vs := []) (cs := Flat.enc (Vector.replicate 256 (0 : UInt8))) hE goes_none (by decide) rfl rfl ty97 rfl ty5 filla_nil ?_; intro a hE
  refine s_alloc hE hM goes_none (by decide) ty97 ?_; intro b3 w a hM hE
  refine s_store (seg := Flat.enc (Vector.replicate 256 (0 : UInt8))) (cs' := Flat.enc (Vector.replicate 256 (0 : UInt8))) hE hM goes_none rfl rfl rfl ty97 (Flat.len _) (Nat.le_of_eq ((Nat.zero_add _).trans (Eq.trans (Flat.len _) (Eq.symm (Flat.len _))))) (Flat.cell _) (splice_all (Eq.trans (Flat.len _) (Eq.symm (Flat.len _)))) ?_; intro w a hM hE
  refine c_fin ?_
  refine wp_seq ?_
  refine c_region ?_
  refine s_assign hE goes_none (by decide) rfl ?_; intro a hE
  refine c_fin ?_
  obtain ⟨j5, hl6, hF7⟩ := bind_some hF
  refine c_cut (fun a w => Env 37 a [(4, (ptr b1 0)), (5, (ptr b3 0))] ∧ M (Old w0) w0 w [raw b3 (Flat.enc j5), raw b1 (Flat.enc (Vector.replicate 256 (0 : UInt8)))]) ?_ ?_
  · skip
    refine wp_block ?_
    refine c_loop (fun (s8 : (Vector UInt8 256) × Int) a w => Env 37 a [(0, (vI p0)), (1, (vI p1)), (4, (ptr b1 0)), (5, (ptr b3 0)), (6, (vI s8.2))] ∧ M (Old w0) w0 w [raw b3 (Flat.enc s8.1), raw b1 (Flat.enc (Vector.replicate 256 (0 : UInt8)))]) hl6 ⟨hE.sub ⟨rfl, rfl, rfl, rfl, rfl, trivial⟩, hM⟩ ?_
    rintro s8 a w ⟨hE, hM⟩ o11 hs9 hx10
    unfold L0_spec_l02Power at hs9
    refine wp_seq ?_
    refine c_region ?_
    refine s_move hE goes_none (by decide) rfl ?_; intro a hE
    refine s_int hE goes_none (by decide) rfl rfl rfl ?_; intro a hE
    refine c_fin ?_
    refine c_cond hE rfl ?_ ?_
    · intro hb12
      have hs9 := ite_t hs9 hb12
      refine wp_skip ?_
      refine c_nx ?_
      refine wp_seq ?_
      refine wp_block ?_
      refine c_region ?_
      refine s_move hE goes_none (by decide) rfl ?_; intro a hE
      refine s_conv hE goes_none (by decide) rfl Try.underlying3 Try.underlying5 ?_; intro a hE
      rw [byteI_val] at hE
      refine s_assign hE goes_none (by decide) rfl ?_; intro a hE
      refine s_assign hE goes_none (by decide) rfl ?_; intro a hE
      refine c_fin ?_
      refine wp_seq ?_
      refine c_region ?_
      refine s_move hE goes_none (by decide) rfl ?_; intro a hE
      refine s_assign hE goes_none (by decide) rfl ?_; intro a hE
      refine c_fin ?_
      obtain ⟨j13, hl14, hF15⟩ := bind_some hs9
      refine c_cut (fun a w => Env 37 a [(0, (vI p0)), (1, (vI p1)), (4, (ptr b1 0)), (5, (ptr b3 0)), (6, (vI s8.2)), (7, (vB j13))] ∧ M (Old w0) w0 w [raw b3 (Flat.enc s8.1), raw b1 (Flat.enc (Vector.replicate 256 (0 : UInt8)))]) ?_ ?_
      · skip
        refine wp_block ?_
        refine c_loop (fun (s16 : UInt8 × UInt8 × Int) a w => Env 37 a [(0, (vI p0)), (1, (vI p1)), (4, (ptr b1 0)), (5, (ptr b3 0)), (6, (vI s8.2)), (7, (vB s16.1)), (8, (vB s16.2.1)), (9, (vI s16.2.2))] ∧ M (Old w0) w0 w [raw b3 (Flat.enc s8.1), raw b1 (Flat.enc (Vector.replicate 256 (0 : UInt8)))]) hl14 ⟨hE.sub ⟨rfl, rfl, rfl, rfl, rfl, rfl, rfl, rfl, trivial⟩, hM⟩ ?_
        rintro s16 a w ⟨hE, hM⟩ o19 hs17 hx18
        unfold L1_spec_l02Power at hs17
        refine wp_seq ?_
        refine c_region ?_
        refine s_move hE goes_none (by decide) rfl ?_; intro a hE
        refine s_int hE goes_none (by decide) rfl rfl rfl ?_; intro a hE
        refine c_fin ?_
        refine c_cond hE rfl ?_ ?_
        · intro hb20
          have hs17 := ite_t hs17 hb20
          refine wp_skip ?_
          refine c_nx ?_
          obtain ⟨j21, hl22, hF23⟩ := bind_some hs17
          refine c_join (fun a w => Env 37 a [(0, (vI p0)), (1, (vI p1)), (4, (ptr b1 0)), (5, (ptr b3 0)), (6, (vI s8.2)), (7, (vB j21.1)), (8, (vB j21.2)), (9, (vI s16.2.2))] ∧ M (Old w0) w0 w [raw b3 (Flat.enc s8.1), raw b1 (Flat.enc (Vector.replicate 256 (0 : UInt8)))]) ?_ ?_
          · skip
            refine wp_block ?_
            obtain ⟨j24, hl25, hF26⟩ := bind_some hl22
            refine c_join (fun a w => Env 37 a [(0, (vI p0)), (1, (vI p1)), (4, (ptr b1 0)), (5, (ptr b3 0)), (6, (vI s8.2)), (7, (vB j24)), (8, (vB s16.2.1)), (9, (vI s16.2.2))] ∧ M (Old w0) w0 w [raw b3 (Flat.enc s8.1), raw b1 (Flat.enc (Vector.replicate 256 (0 : UInt8)))]) ?_ ?_
            · skip
              refine c_region ?_
              refine s_move hE goes_none (by decide) rfl ?_; intro a hE
              refine s_int hE goes_none (by decide) rfl rfl (bI_rem _ _ (by decide)) ?_; intro a hE
              refine s_int hE goes_none (by decide) rfl rfl rfl ?_; intro a hE
              refine c_fin ?_
              refine c_cond hE rfl ?_ ?_
              · intro hb27
                have hl25 := ite_t hl25 hb27
                refine wp_region_lit ?_
                refine s_move hE goes_none (by decide) rfl ?_; intro a hE
                refine s_move hE goes_none (by decide) rfl ?_; intro a hE
                refine s_move hE goes_none (by decide) rfl ?_; intro a hE
                obtain ⟨r28, e29, hl25⟩ := bind_some hl25
                refine s_call (vs := [(vI p0), (vB s16.1), (vB s16.2.1)]) hE goes_none (by decide) rfl cb123 (c_spec_l01Times _ p0 s16.1 s16.2.1 r28 e29) ?_
                rintro v w a ⟨rfl, hK⟩ hE
                have hM := hM.keep hK
                refine s_assign hE goes_none (by decide) rfl ?_; intro a hE
                refine c_fin0 ?_
                have ht30 := Option.some.inj hl25
                subst ht30
                refine c_mid ?_
                exact ⟨hE.sub ⟨rfl, rfl, rfl, rfl, rfl, rfl, rfl, rfl, trivial⟩, hM⟩
              · intro hb27
                have hl25 := ite_f hl25 hb27
                refine wp_skip ?_
                have ht31 := Option.some.inj hl25
                subst ht31
                refine c_mid ?_
                exact ⟨hE.sub ⟨rfl, rfl, rfl, rfl, rfl, rfl, rfl, rfl, trivial⟩, hM⟩
            · skip
              rintro a w ⟨hE, hM⟩
              refine wp_region_lit ?_
              refine s_move hE goes_none (by decide) rfl ?_; intro a hE
              refine s_move hE goes_none (by decide) rfl ?_; intro a hE
              refine s_move hE goes_none (by decide) rfl ?_; intro a hE
              obtain ⟨r32, e33, hF26⟩ := bind_some hF26
              refine s_call (vs := [(vI p0), (vB s16.2.1), (vB s16.2.1)]) hE goes_none (by decide) rfl cb123 (c_spec_l01Times _ p0 s16.2.1 s16.2.1 r32 e33) ?_
              rintro v w a ⟨rfl, hK⟩ hE
              have hM := hM.keep hK
              refine s_assign hE goes_none (by decide) rfl ?_; intro a hE
              refine c_fin0 ?_
              refine c_nb ?_
              have ht34 := Option.some.inj hF26
              subst ht34
              refine c_mid ?_
              exact ⟨hE.sub ⟨rfl, rfl, rfl, rfl, rfl, rfl, rfl, rfl, trivial⟩, hM⟩
          · skip
            rintro a w ⟨hE, hM⟩
            refine wp_region_lit ?_
            refine s_move hE goes_none (by decide) rfl ?_; intro a hE
            refine s_int hE goes_none (by decide) rfl rfl (bI_quo _ _ (by decide)) ?_; intro a hE
            refine s_assign hE goes_none (by decide) rfl ?_; intro a hE
            refine c_fin0 ?_
            refine c_mid ?_
            exact ⟨_, (Option.some.inj hF23).symm, hE.sub ⟨rfl, rfl, rfl, rfl, rfl, rfl, rfl, rfl, trivial⟩, hM⟩
        · intro hb20
          have hs17 := ite_f hs17 hb20
          refine wp_exit (e_then (e_then (e_eq ?_)))
          have ht35 := hx18 _ (Option.some.inj hs17).symm
          subst ht35
          refine c_mid ?_
          exact ⟨hE.sub ⟨rfl, rfl, rfl, rfl, rfl, rfl, trivial⟩, hM⟩
      · skip
        rintro a w ⟨hE, hM⟩
        refine c_nx ?_
        refine wp_region_lit ?_
        refine s_move hE goes_none (by decide) rfl ?_; intro a hE
        refine s_move hE goes_none (by decide) rfl ?_; intro a hE
        obtain ⟨x37, e38, hF15⟩ := bind_some hF15
        have hi36 := vidx_some e38
        refine s_indexA hE goes_none (by decide) rfl rfl Try.underlying97 ty5 hi36.1 ?_; intro a hE
        refine s_store (seg := [(vB j13)]) (cs' := Flat.enc (s8.1.setIfInBounds (s8.2).toNat j13)) hE hM goes_none rfl rfl rfl ty5 rfl (fit_vec (v := s8.1) (x := j13) hi36.1) (Flat.cell (j13 : UInt8)) (splice_vec0 (v := s8.1) (x := j13) hi36.1) ?_; intro w a hM hE
        refine c_fin0 ?_
        refine c_nb ?_
        refine c_nx ?_
        refine wp_region_lit ?_
        refine s_move hE goes_none (by decide) rfl ?_; intro a hE
        refine s_int hE goes_none (by decide) rfl rfl rfl ?_; intro a hE
        refine s_assign hE goes_none (by decide) rfl ?_; intro a hE
        refine c_fin0 ?_
        refine c_mid ?_
        exact ⟨_, (Option.some.inj hF15).symm, hE.sub ⟨rfl, rfl, rfl, rfl, rfl, trivial⟩, hM⟩
    · intro hb12
      have hs9 := ite_f hs9 hb12
      refine wp_exit (e_then (e_then (e_eq ?_)))
      have ht39 := hx10 _ (Option.some.inj hs9).symm
      subst ht39
      refine c_mid ?_
      exact ⟨hE.sub ⟨rfl, rfl, trivial⟩, hM⟩
  · skip
    rintro a w ⟨hE, hM⟩
    refine c_nx ?_
    refine c_region ?_
    refine s_loadA (cs := Flat.enc j5) hE goes_none (by decide) rfl ty97 rfl (hM.rawAt (pre := [])) (Flat.len _) ?_; intro a hE
    have hM := hM.pull (pre := [_])
    refine s_store (seg := Flat.enc j5) (cs' := Flat.enc j5) hE hM goes_none rfl rfl rfl ty97 (Flat.len _) (Nat.le_of_eq ((Nat.zero_add _).trans (Eq.trans (Flat.len _) (Eq.symm (Flat.len _))))) (Flat.cell _) (splice_all (Eq.trans (Flat.len _) (Eq.symm (Flat.len _)))) ?_; intro w a hM hE
    refine c_fin ?_
    have hr := Option.some.inj hF7
    subst hr
    have hq40 : ResIs Try.prog _ _ (.cell 4 97) _ := res_cell hE rfl ty97 rfl (hM.rawAt (pre := [])) (Flat.len _) rfl
    have hM := M.fst (l := []) hM
    exact wp_ret (k_ret1 hE rfl hq40 ⟨_, rfl, rfl, hM.kept⟩)
noncomputable def F_spec_l02Turn (p0 : UInt8) (p1 : Int) : Option (UInt8) :=
  (nonneg (IntKind.u64.wrap p1)).bind fun _ => some (byteI (andI (orI (shlI (bI p0) (IntKind.u64.wrap p1)) (shrI (shlI (bI p0) (IntKind.u64.wrap p1)) 8)) 255))
set_option maxRecDepth 20000 in
set_option maxHeartbeats 400000 in
theorem c_spec_l02Turn (w0 : World) (p0 : UInt8) (p1 : Int) (r : UInt8) (hF : F_spec_l02Turn p0 p1 = some r) :
    Calls Try.prog 124 [(vB p0), (vI p1)].toArray w0 (fun en w' => ∃ v, en = .returned v ∧ (v = (vB r) ∧ Kept (Old w0) w0 w')) := by
  refine c_enter (n := 17) Try.func124 rfl rfl (Nat.le_of_ble_eq_true rfl) rfl ?_
  intro a hE
  have hM := M.start w0
  unfold F_spec_l02Turn at hF
  refine c_region ?_
  refine s_assign hE goes_none (by decide) rfl ?_; intro a hE
  refine c_fin ?_
  refine c_region ?_
  refine s_move hE goes_none (by decide) rfl ?_; intro a hE
  refine s_conv hE goes_none (by decide) rfl Try.underlying5 Try.underlying2 ?_; intro a hE
  rw [byte_wide] at hE
  refine s_move hE goes_none (by decide) rfl ?_; intro a hE
  refine s_conv hE goes_none (by decide) rfl Try.underlying2 Try.underlying172 ?_; intro a hE
  obtain ⟨_, e1, hF⟩ := bind_some hF
  have e1 := nonneg_some e1
  refine s_sh hE goes_none (by decide) rfl rfl (bI_shl _ _ e1) ?_; intro a hE
  refine s_assign hE goes_none (by decide) rfl ?_; intro a hE
  refine c_fin ?_
  refine c_region ?_
  refine s_move hE goes_none (by decide) rfl ?_; intro a hE
  refine s_move hE goes_none (by decide) rfl ?_; intro a hE
  refine s_sh hE goes_none (by decide) rfl rfl (bI_shr _ _ (by decide)) ?_; intro a hE
  refine s_int hE goes_none (by decide) rfl rfl rfl ?_; intro a hE
  refine s_int hE goes_none (by decide) rfl rfl rfl ?_; intro a hE
  refine s_conv hE goes_none (by decide) rfl Try.underlying2 Try.underlying5 ?_; intro a hE
  rw [byteI_val] at hE
  refine s_assign hE goes_none (by decide) rfl ?_; intro a hE
  refine c_fin ?_
  have hr := Option.some.inj hF
  subst hr
  exact wp_ret (k_ret1 hE rfl (res_tmp hE rfl) ⟨_, rfl, rfl, hM.kept⟩)
noncomputable def L1_spec_l02Rotations (p0 : (List Int)) (s8 : (Vector UInt8 256) × Int) (s16 : UInt8 × Int) : Option (Fl (UInt8 × Int) UInt8) :=
  if (decide (s16.2 < (p0.length : Int))) = true then ((idx p0 s16.2).bind fun (x21 : Int) => (F_spec_l02Turn (byteI s8.2) x21).bind fun (r24 : UInt8) => some (Fl.nx (s16.1 ^^^ r24, wr (s16.2 + 1)))) else (some (Fl.ex s16.1))
noncomputable def L0_spec_l02Rotations (p0 : (List Int)) (p1 : UInt8) (s8 : (Vector UInt8 256) × Int) : Option (Fl ((Vector UInt8 256) × Int) (Vector UInt8 256)) :=
  if (decide (s8.2 < 256)) = true then ((iter (L1_spec_l02Rotations p0 s8) (p1, 0) : Option (UInt8)).bind fun (j13 : UInt8) => (vidx s8.1 s8.2).bind fun (x28 : UInt8) => some (Fl.nx ((s8.1.setIfInBounds (s8.2).toNat j13), wr (s8.2 + 1)))) else (some (Fl.ex s8.1))
noncomputable def F_spec_l02Rotations (p0 : (List Int)) (p1 : UInt8) : Option ((Vector UInt8 256)) :=
  (iter (L0_spec_l02Rotations p0 p1) ((Vector.replicate 256 (0 : UInt8)), 0) : Option ((Vector UInt8 256))).bind fun (j5 : (Vector UInt8 256)) => some j5
set_option maxRecDepth 20000 in
set_option maxHeartbeats 400000 in
theorem c_spec_l02Rotations (w0 : World) (p0 : (List Int)) (v0_1 : Value) (hv0_1 : Ro w0 p0 [v0_1]) (p1 : UInt8) (r : (Vector UInt8 256)) (hF : F_spec_l02Rotations p0 p1 = some r) :
    Calls Try.prog 105 [v0_1, (vB p1)].toArray w0 (fun en w' => ∃ v, en = .returned v ∧ (v = (Value.agg (Flat.enc r).toArray) ∧ Kept (Old w0) w0 w')) := by
  refine c_enter (n := 34) Try.func105 rfl rfl (Nat.le_of_ble_eq_true rfl) rfl ?_
  intro a hE
  have hM := M.start w0
  unfold F_spec_l02Rotations at hF
  refine c_region ?_
  refine s_alloc hE hM goes_none (by decide) ty97 ?_; intro b1 w a hM hE
  refine c_fin ?_
  refine c_region ?_
  refine s_buildA (parts := []) (vs := []) (cs := Flat.enc (Vector.replicate 256 (0 : UInt8))) hE goes_none (by decide) rfl rfl ty97 rfl ty5 filla_nil ?_; intro a hE
  refine s_alloc hE hM goes_none (by decide) ty97 ?_; intro b3 w a hM hE
  refine s_store (seg := Flat.enc (Vector.replicate 256 (0 : UInt8))) (cs' := Flat.enc (Vector.replicate 256 (0 : UInt8))) hE hM goes_none rfl rfl rfl ty97 (Flat.len _) (Nat.le_of_eq ((Nat.zero_add _).trans (Eq.trans (Flat.len _) (Eq.symm (Flat.len _))))) (Flat.cell _) (splice_all (Eq.trans (Flat.len _) (Eq.symm (Flat.len _)))) ?_; intro w a hM hE
  refine c_fin ?_
  refine wp_seq ?_
  refine c_region ?_
  refine s_assign hE goes_none (by decide) rfl ?_; intro a hE
  refine c_fin ?_
  obtain ⟨j5, hl6, hF7⟩ := bind_some hF
  refine c_cut (fun a w => Env 34 a [(4, (ptr b1 0)), (5, (ptr b3 0))] ∧ M (Old w0) w0 w [raw b3 (Flat.enc j5), raw b1 (Flat.enc (Vector.replicate 256 (0 : UInt8)))]) ?_ ?_
  · skip
    refine wp_block ?_
    refine c_loop (fun (s8 : (Vector UInt8 256) × Int) a w => Env 34 a [(0, v0_1), (1, (vB p1)), (4, (ptr b1 0)), (5, (ptr b3 0)), (6, (vI s8.2))] ∧ M (Old w0) w0 w [raw b3 (Flat.enc s8.1), raw b1 (Flat.enc (Vector.replicate 256 (0 : UInt8)))]) hl6 ⟨hE.sub ⟨rfl, rfl, rfl, rfl, rfl, trivial⟩, hM⟩ ?_
    rintro s8 a w ⟨hE, hM⟩ o11 hs9 hx10
    unfold L0_spec_l02Rotations at hs9
    refine wp_seq ?_
    refine c_region ?_
    refine s_move hE goes_none (by decide) rfl ?_; intro a hE
    refine s_int hE goes_none (by decide) rfl rfl rfl ?_; intro a hE
    refine c_fin ?_
    refine c_cond hE rfl ?_ ?_
    · intro hb12
      have hs9 := ite_t hs9 hb12
      refine wp_skip ?_
      refine c_nx ?_
      refine wp_seq ?_
      refine wp_block ?_
      refine c_region ?_
      refine s_move hE goes_none (by decide) rfl ?_; intro a hE
      refine s_assign hE goes_none (by decide) rfl ?_; intro a hE
      refine c_fin ?_
      refine wp_seq ?_
      refine c_region ?_
      refine s_assign hE goes_none (by decide) rfl ?_; intro a hE
      refine c_fin ?_
      obtain ⟨j13, hl14, hF15⟩ := bind_some hs9
      refine c_cut (fun a w => Env 34 a [(0, v0_1), (1, (vB p1)), (4, (ptr b1 0)), (5, (ptr b3 0)), (6, (vI s8.2)), (7, (vB j13))] ∧ M (Old w0) w0 w [raw b3 (Flat.enc s8.1), raw b1 (Flat.enc (Vector.replicate 256 (0 : UInt8)))]) ?_ ?_
      · skip
        refine wp_block ?_
        refine c_loop (fun (s16 : UInt8 × Int) a w => Env 34 a [(0, v0_1), (1, (vB p1)), (4, (ptr b1 0)), (5, (ptr b3 0)), (6, (vI s8.2)), (7, (vB s16.1)), (8, (vI s16.2))] ∧ M (Old w0) w0 w [raw b3 (Flat.enc s8.1), raw b1 (Flat.enc (Vector.replicate 256 (0 : UInt8)))]) hl14 ⟨hE.sub ⟨rfl, rfl, rfl, rfl, rfl, rfl, rfl, trivial⟩, hM⟩ ?_
        rintro s16 a w ⟨hE, hM⟩ o19 hs17 hx18
        unfold L1_spec_l02Rotations at hs17
        refine wp_seq ?_
        refine c_region ?_
        refine s_move hE goes_none (by decide) rfl ?_; intro a hE
        refine s_move hE goes_none (by decide) rfl ?_; intro a hE
        refine s_len hE goes_none (by decide) rfl Try.underlying46 (hM.rd hv0_1) ?_; intro a hE
        refine s_int hE goes_none (by decide) rfl rfl rfl ?_; intro a hE
        refine c_fin ?_
        refine c_cond hE rfl ?_ ?_
        · intro hb20
          have hs17 := ite_t hs17 hb20
          refine wp_skip ?_
          refine c_nx ?_
          refine wp_seq ?_
          refine wp_block ?_
          refine wp_region_lit ?_
          refine s_move hE goes_none (by decide) rfl ?_; intro a hE
          refine s_move hE goes_none (by decide) rfl ?_; intro a hE
          refine s_conv hE goes_none (by decide) rfl Try.underlying3 Try.underlying5 ?_; intro a hE
          rw [byteI_val] at hE
          refine s_move hE goes_none (by decide) rfl ?_; intro a hE
          refine s_move hE goes_none (by decide) rfl ?_; intro a hE
          obtain ⟨x21, e22, hs17⟩ := bind_some hs17
          have hi23 := idx_some e22
          refine s_indexS hE goes_none (by decide) rfl rfl Try.underlying46 ty2 (hM.rd hv0_1) hi23.1 ?_; intro a hE
          refine s_load (v := (vI x21)) hE goes_none (by decide) rfl ty2 rfl (sl_atF (hM.rd hv0_1) hi23.2) ?_; intro a hE
          obtain ⟨r24, e25, hs17⟩ := bind_some hs17
          refine s_call (vs := [(vB (byteI s8.2)), (vI x21)]) hE goes_none (by decide) rfl cb124 (c_spec_l02Turn _ (byteI s8.2) x21 r24 e25) ?_
          rintro v w a ⟨rfl, hK⟩ hE
          have hM := hM.keep hK
          refine s_int hE goes_none (by decide) rfl rfl (bB_xor s16.1 r24) ?_; intro a hE
          refine s_assign hE goes_none (by decide) rfl ?_; intro a hE
          refine c_fin0 ?_
          refine c_nb ?_
          refine c_nx ?_
          refine wp_region_lit ?_
          refine s_move hE goes_none (by decide) rfl ?_; intro a hE
          refine s_int hE goes_none (by decide) rfl rfl rfl ?_; intro a hE
          refine s_assign hE goes_none (by decide) rfl ?_; intro a hE
          refine c_fin0 ?_
          refine c_mid ?_
          exact ⟨_, (Option.some.inj hs17).symm, hE.sub ⟨rfl, rfl, rfl, rfl, rfl, rfl, rfl, trivial⟩, hM⟩
        · intro hb20
          have hs17 := ite_f hs17 hb20
          refine wp_exit (e_then (e_then (e_eq ?_)))
          have ht26 := hx18 _ (Option.some.inj hs17).symm
          subst ht26
          refine c_mid ?_
          exact ⟨hE.sub ⟨rfl, rfl, rfl, rfl, rfl, rfl, trivial⟩, hM⟩
      · skip
        rintro a w ⟨hE, hM⟩
        refine c_nx ?_
        refine wp_region_lit ?_
        refine s_move hE goes_none (by decide) rfl ?_; intro a hE
        refine s_move hE goes_none (by decide) rfl ?_; intro a hE
        obtain ⟨x28, e29, hF15⟩ := bind_some hF15
        have hi27 := vidx_some e29
        refine s_indexA hE goes_none (by decide) rfl rfl Try.underlying97 ty5 hi27.1 ?_; intro a hE
        refine s_store (seg := [(vB j13)]) (cs' := Flat.enc (s8.1.setIfInBounds (s8.2).toNat j13)) hE hM goes_none rfl rfl rfl ty5 rfl (fit_vec (v := s8.1) (x := j13) hi27.1) (Flat.cell (j13 : UInt8)) (splice_vec0 (v := s8.1) (x := j13) hi27.1) ?_; intro w a hM hE
        refine c_fin0 ?_
        refine c_nb ?_
        refine c_nx ?_
        refine wp_region_lit ?_
        refine s_move hE goes_none (by decide) rfl ?_; intro a hE
        refine s_int hE goes_none (by decide) rfl rfl rfl ?_; intro a hE
        refine s_assign hE goes_none (by decide) rfl ?_; intro a hE
        refine c_fin0 ?_
        refine c_mid ?_
        exact ⟨_, (Option.some.inj hF15).symm, hE.sub ⟨rfl, rfl, rfl, rfl, rfl, trivial⟩, hM⟩
    · intro hb12
      have hs9 := ite_f hs9 hb12
      refine wp_exit (e_then (e_then (e_eq ?_)))
      have ht30 := hx10 _ (Option.some.inj hs9).symm
      subst ht30
      refine c_mid ?_
      exact ⟨hE.sub ⟨rfl, rfl, trivial⟩, hM⟩
  · skip
    rintro a w ⟨hE, hM⟩
    refine c_nx ?_
    refine c_region ?_
    refine s_loadA (cs := Flat.enc j5) hE goes_none (by decide) rfl ty97 rfl (hM.rawAt (pre := [])) (Flat.len _) ?_; intro a hE
    have hM := hM.pull (pre := [_])
    refine s_store (seg := Flat.enc j5) (cs' := Flat.enc j5) hE hM goes_none rfl rfl rfl ty97 (Flat.len _) (Nat.le_of_eq ((Nat.zero_add _).trans (Eq.trans (Flat.len _) (Eq.symm (Flat.len _))))) (Flat.cell _) (splice_all (Eq.trans (Flat.len _) (Eq.symm (Flat.len _)))) ?_; intro w a hM hE
    refine c_fin ?_
    have hr := Option.some.inj hF7
    subst hr
    have hq31 : ResIs Try.prog _ _ (.cell 4 97) _ := res_cell hE rfl ty97 rfl (hM.rawAt (pre := [])) (Flat.len _) rfl
    have hM := M.fst (l := []) hM
    exact wp_ret (k_ret1 hE rfl hq31 ⟨_, rfl, rfl, hM.kept⟩)
noncomputable def L0_spec_l02Then (p0 : (Vector UInt8 256)) (p1 : (Vector UInt8 256)) (s12 : (Vector UInt8 256) × Int) : Option (Fl ((Vector UInt8 256) × Int) (Vector UInt8 256)) :=
  if (decide (s12.2 < 256)) = true then ((vidx p0 s12.2).bind fun (x18 : UInt8) => (vidx p1 (bI x18)).bind fun (x21 : UInt8) => (vidx s12.1 s12.2).bind fun (x24 : UInt8) => some (Fl.nx ((s12.1.setIfInBounds (s12.2).toNat x21), wr (s12.2 + 1)))) else (some (Fl.ex s12.1))
noncomputable def F_spec_l02Then (p0 : (Vector UInt8 256)) (p1 : (Vector UInt8 256)) : Option ((Vector UInt8 256)) :=
  (iter (L0_spec_l02Then p0 p1) ((Vector.replicate 256 (0 : UInt8)), 0) : Option ((Vector UInt8 256))).bind fun (j9 : (Vector UInt8 256)) => some j9
set_option maxRecDepth 20000 in
set_option maxHeartbeats 400000 in
theorem c_spec_l02Then (w0 : World) (p0 : (Vector UInt8 256)) (p1 : (Vector UInt8 256)) (r : (Vector UInt8 256)) (hF : F_spec_l02Then p0 p1 = some r) :
    Calls Try.prog 103 [(Value.agg (Flat.enc p0).toArray), (Value.agg (Flat.enc p1).toArray)].toArray w0 (fun en w' => ∃ v, en = .returned v ∧ (v = (Value.agg (Flat.enc r).toArray) ∧ Kept (Old w0) w0 w')) := by
  refine c_enter (n := 20) Try.func103 rfl rfl (Nat.le_of_ble_eq_true rfl) rfl ?_
  intro a hE
  have hM := M.start w0
  unfold F_spec_l02Then at hF
  refine c_region ?_
  refine s_box (cs := Flat.enc p0) hE hM goes_none (by decide) rfl rfl ?_; intro b1 w a hM hE
  refine s_box (cs := Flat.enc p1) hE hM goes_none (by decide) rfl rfl ?_; intro b3 w a hM hE
  refine s_alloc hE hM goes_none (by decide) ty97 ?_; intro b5 w a hM hE
  refine c_fin ?_
  refine c_region ?_
  refine s_buildA (parts := []) (vs := []) (cs := Flat.enc (Vector.replicate 256 (0 : UInt8))) hE goes_none (by decide) rfl rfl ty97 rfl ty5 filla_nil ?_; intro a hE
  refine s_alloc hE hM goes_none (by decide) ty97 ?_; intro b7 w a hM hE
  refine s_store (seg := Flat.enc (Vector.replicate 256 (0 : UInt8))) (cs' := Flat.enc (Vector.replicate 256 (0 : UInt8))) hE hM goes_none rfl rfl rfl ty97 (Flat.len _) (Nat.le_of_eq ((Nat.zero_add _).trans (Eq.trans (Flat.len _) (Eq.symm (Flat.len _))))) (Flat.cell _) (splice_all (Eq.trans (Flat.len _) (Eq.symm (Flat.len _)))) ?_; intro w a hM hE
  refine c_fin ?_
  refine wp_seq ?_
  refine c_region ?_
  refine s_assign hE goes_none (by decide) rfl ?_; intro a hE
  refine c_fin ?_
  obtain ⟨j9, hl10, hF11⟩ := bind_some hF
  refine c_cut (fun a w => Env 20 a [(4, (ptr b5 0)), (5, (ptr b7 0))] ∧ M (Old w0) w0 w [raw b7 (Flat.enc j9), raw b5 (Flat.enc (Vector.replicate 256 (0 : UInt8)))]) ?_ ?_
  · skip
    refine wp_block ?_
    refine c_loop (fun (s12 : (Vector UInt8 256) × Int) a w => Env 20 a [(2, (ptr b1 0)), (3, (ptr b3 0)), (4, (ptr b5 0)), (5, (ptr b7 0)), (6, (vI s12.2))] ∧ M (Old w0) w0 w [raw b7 (Flat.enc s12.1), raw b5 (Flat.enc (Vector.replicate 256 (0 : UInt8))), raw b3 (Flat.enc p1), raw b1 (Flat.enc p0)]) hl10 ⟨hE.sub ⟨rfl, rfl, rfl, rfl, rfl, trivial⟩, hM⟩ ?_
    rintro s12 a w ⟨hE, hM⟩ o15 hs13 hx14
    unfold L0_spec_l02Then at hs13
    refine wp_seq ?_
    refine c_region ?_
    refine s_move hE goes_none (by decide) rfl ?_; intro a hE
    refine s_int hE goes_none (by decide) rfl rfl rfl ?_; intro a hE
    refine c_fin ?_
    refine c_cond hE rfl ?_ ?_
    · intro hb16
      have hs13 := ite_t hs13 hb16
      refine wp_skip ?_
      refine c_nx ?_
      refine wp_seq ?_
      refine wp_block ?_
      refine wp_region_lit ?_
      refine s_move hE goes_none (by decide) rfl ?_; intro a hE
      refine s_move hE goes_none (by decide) rfl ?_; intro a hE
      obtain ⟨x18, e19, hs13⟩ := bind_some hs13
      have hi17 := vidx_some e19
      refine s_indexA hE goes_none (by decide) rfl rfl Try.underlying97 ty5 hi17.1 ?_; intro a hE
      refine s_load (v := (vB x18)) hE goes_none (by decide) rfl ty5 rfl (At.vec (hM.rawAt (pre := [_, _, _])) hi17.2) ?_; intro a hE
      obtain ⟨x21, e22, hs13⟩ := bind_some hs13
      have hi20 := vidx_some e22
      refine s_indexA hE goes_none (by decide) rfl rfl Try.underlying97 ty5 hi20.1 ?_; intro a hE
      refine s_load (v := (vB x21)) hE goes_none (by decide) rfl ty5 rfl (At.vec (hM.rawAt (pre := [_, _])) hi20.2) ?_; intro a hE
      obtain ⟨x24, e25, hs13⟩ := bind_some hs13
      have hi23 := vidx_some e25
      refine s_indexA hE goes_none (by decide) rfl rfl Try.underlying97 ty5 hi23.1 ?_; intro a hE
      refine s_store (seg := [(vB x21)]) (cs' := Flat.enc (s12.1.setIfInBounds (s12.2).toNat x21)) hE hM goes_none rfl rfl rfl ty5 rfl (fit_vec (v := s12.1) (x := x21) hi23.1) (Flat.cell (x21 : UInt8)) (splice_vec0 (v := s12.1) (x := x21) hi23.1) ?_; intro w a hM hE
      refine c_fin0 ?_
      refine c_nb ?_
      refine c_nx ?_
      refine wp_region_lit ?_
      refine s_move hE goes_none (by decide) rfl ?_; intro a hE
      refine s_int hE goes_none (by decide) rfl rfl rfl ?_; intro a hE
      refine s_assign hE goes_none (by decide) rfl ?_; intro a hE
      refine c_fin0 ?_
      refine c_mid ?_
      exact ⟨_, (Option.some.inj hs13).symm, hE.sub ⟨rfl, rfl, rfl, rfl, rfl, trivial⟩, hM⟩
    · intro hb16
      have hs13 := ite_f hs13 hb16
      refine wp_exit (e_then (e_then (e_eq ?_)))
      have ht26 := hx14 _ (Option.some.inj hs13).symm
      subst ht26
      refine c_mid ?_
      have hM := hM.pull (pre := [_])
      have hM := hM.pull (pre := [_])
      have hM := M.fst (l := [_, _]) hM
      exact ⟨hE.sub ⟨rfl, rfl, trivial⟩, hM⟩
  · skip
    rintro a w ⟨hE, hM⟩
    refine c_nx ?_
    refine c_region ?_
    refine s_loadA (cs := Flat.enc j9) hE goes_none (by decide) rfl ty97 rfl (hM.rawAt (pre := [])) (Flat.len _) ?_; intro a hE
    have hM := hM.pull (pre := [_])
    refine s_store (seg := Flat.enc j9) (cs' := Flat.enc j9) hE hM goes_none rfl rfl rfl ty97 (Flat.len _) (Nat.le_of_eq ((Nat.zero_add _).trans (Eq.trans (Flat.len _) (Eq.symm (Flat.len _))))) (Flat.cell _) (splice_all (Eq.trans (Flat.len _) (Eq.symm (Flat.len _)))) ?_; intro w a hM hE
    refine c_fin ?_
    have hr := Option.some.inj hF11
    subst hr
    have hq27 : ResIs Try.prog _ _ (.cell 4 97) _ := res_cell hE rfl ty97 rfl (hM.rawAt (pre := [])) (Flat.len _) rfl
    have hM := M.fst (l := []) hM
    exact wp_ret (k_ret1 hE rfl hq27 ⟨_, rfl, rfl, hM.kept⟩)
noncomputable def L0_spec_l01Power (p0 : Int) (s4 : UInt8 × Int × UInt8) : Option (Fl (UInt8 × Int × UInt8) UInt8) :=
  if (decide (s4.2.1 > 0)) = true then (((if ((Int.tmod s4.2.1 2) == 1) = true then ((F_spec_l01Times p0 s4.2.2 s4.1).bind fun (r16 : UInt8) => some r16) else (some s4.2.2) : Option (UInt8)).bind fun (j12 : UInt8) => (F_spec_l01Times p0 s4.1 s4.1).bind fun (r20 : UInt8) => some (r20, j12) : Option (UInt8 × UInt8)).bind fun (j9 : UInt8 × UInt8) => some (Fl.nx (j9.1, wr (Int.tdiv s4.2.1 2), j9.2))) else (some (Fl.ex s4.2.2))
noncomputable def F_spec_l01Power (p0 : Int) (p1 : UInt8) (p2 : Int) : Option (UInt8) :=
  (iter (L0_spec_l01Power p0) (p1, p2, 1) : Option (UInt8)).bind fun (j1 : UInt8) => some j1
set_option maxRecDepth 20000 in
set_option maxHeartbeats 400000 in
theorem c_spec_l01Power (w0 : World) (p0 : Int) (p1 : UInt8) (p2 : Int) (r : UInt8) (hF : F_spec_l01Power p0 p1 p2 = some r) :
    Calls Try.prog 125 [(vI p0), (vB p1), (vI p2)].toArray w0 (fun en w' => ∃ v, en = .returned v ∧ (v = (vB r) ∧ Kept (Old w0) w0 w')) := by
  refine c_enter (n := 24) Try.func125 rfl rfl (Nat.le_of_ble_eq_true rfl) rfl ?_
  intro a hE
  have hM := M.start w0
  unfold F_spec_l01Power at hF
  refine c_region ?_
  refine s_assign hE goes_none (by decide) rfl ?_; intro a hE
  refine c_fin ?_
  refine c_region ?_
  refine s_assign hE goes_none (by decide) rfl ?_; intro a hE
  refine c_fin ?_
  obtain ⟨j1, hl2, hF3⟩ := bind_some hF
  refine c_join (fun a w => Env 24 a [(7, (vB j1))] ∧ M (Old w0) w0 w []) ?_ ?_
  · skip
    refine wp_block ?_
    refine c_loop (fun (s4 : UInt8 × Int × UInt8) a w => Env 24 a [(0, (vI p0)), (1, (vB s4.1)), (2, (vI s4.2.1)), (7, (vB s4.2.2))] ∧ M (Old w0) w0 w []) hl2 ⟨hE.sub ⟨rfl, rfl, rfl, rfl, trivial⟩, hM⟩ ?_
    rintro s4 a w ⟨hE, hM⟩ o7 hs5 hx6
    unfold L0_spec_l01Power at hs5
    refine wp_seq ?_
    refine c_region ?_
    refine s_move hE goes_none (by decide) rfl ?_; intro a hE
    refine s_int hE goes_none (by decide) rfl rfl rfl ?_; intro a hE
    refine c_fin ?_
    refine c_cond hE rfl ?_ ?_
    · intro hb8
      have hs5 := ite_t hs5 hb8
      refine wp_skip ?_
      refine c_nx ?_
      obtain ⟨j9, hl10, hF11⟩ := bind_some hs5
      refine c_join (fun a w => Env 24 a [(0, (vI p0)), (1, (vB j9.1)), (2, (vI s4.2.1)), (7, (vB j9.2))] ∧ M (Old w0) w0 w []) ?_ ?_
      · skip
        refine wp_block ?_
        obtain ⟨j12, hl13, hF14⟩ := bind_some hl10
        refine c_join (fun a w => Env 24 a [(0, (vI p0)), (1, (vB s4.1)), (2, (vI s4.2.1)), (7, (vB j12))] ∧ M (Old w0) w0 w []) ?_ ?_
        · skip
          refine c_region ?_
          refine s_move hE goes_none (by decide) rfl ?_; intro a hE
          refine s_int hE goes_none (by decide) rfl rfl (bI_rem _ _ (by decide)) ?_; intro a hE
          refine s_int hE goes_none (by decide) rfl rfl rfl ?_; intro a hE
          refine c_fin ?_
          refine c_cond hE rfl ?_ ?_
          · intro hb15
            have hl13 := ite_t hl13 hb15
            refine wp_region_lit ?_
            refine s_move hE goes_none (by decide) rfl ?_; intro a hE
            refine s_move hE goes_none (by decide) rfl ?_; intro a hE
            refine s_move hE goes_none (by decide) rfl ?_; intro a hE
            obtain ⟨r16, e17, hl13⟩ := bind_some hl13
            refine s_call (vs := [(vI p0), (vB s4.2.2), (vB s4.1)]) hE goes_none (by decide) rfl cb123 (c_spec_l01Times _ p0 s4.2.2 s4.1 r16 e17) ?_
            rintro v w a ⟨rfl, hK⟩ hE
            have hM := hM.keep hK
            refine s_assign hE goes_none (by decide) rfl ?_; intro a hE
            refine c_fin0 ?_
            have ht18 := Option.some.inj hl13
            subst ht18
            refine c_mid ?_
            exact ⟨hE.sub ⟨rfl, rfl, rfl, rfl, trivial⟩, hM⟩
          · intro hb15
            have hl13 := ite_f hl13 hb15
            refine wp_skip ?_
            have ht19 := Option.some.inj hl13
            subst ht19
            refine c_mid ?_
            exact ⟨hE.sub ⟨rfl, rfl, rfl, rfl, trivial⟩, hM⟩
        · skip
          rintro a w ⟨hE, hM⟩
          refine wp_region_lit ?_
          refine s_move hE goes_none (by decide) rfl ?_; intro a hE
          refine s_move hE goes_none (by decide) rfl ?_; intro a hE
          refine s_move hE goes_none (by decide) rfl ?_; intro a hE
          obtain ⟨r20, e21, hF14⟩ := bind_some hF14
          refine s_call (vs := [(vI p0), (vB s4.1), (vB s4.1)]) hE goes_none (by decide) rfl cb123 (c_spec_l01Times _ p0 s4.1 s4.1 r20 e21) ?_
          rintro v w a ⟨rfl, hK⟩ hE
          have hM := hM.keep hK
          refine s_assign hE goes_none (by decide) rfl ?_; intro a hE
          refine c_fin0 ?_
          refine c_nb ?_
          have ht22 := Option.some.inj hF14
          subst ht22
          refine c_mid ?_
          exact ⟨hE.sub ⟨rfl, rfl, rfl, rfl, trivial⟩, hM⟩
      · skip
        rintro a w ⟨hE, hM⟩
        refine wp_region_lit ?_
        refine s_move hE goes_none (by decide) rfl ?_; intro a hE
        refine s_int hE goes_none (by decide) rfl rfl (bI_quo _ _ (by decide)) ?_; intro a hE
        refine s_assign hE goes_none (by decide) rfl ?_; intro a hE
        refine c_fin0 ?_
        refine c_mid ?_
        exact ⟨_, (Option.some.inj hF11).symm, hE.sub ⟨rfl, rfl, rfl, rfl, trivial⟩, hM⟩
    · intro hb8
      have hs5 := ite_f hs5 hb8
      refine wp_exit (e_then (e_then (e_eq ?_)))
      have ht23 := hx6 _ (Option.some.inj hs5).symm
      subst ht23
      refine c_mid ?_
      exact ⟨hE.sub ⟨rfl, trivial⟩, hM⟩
  · skip
    rintro a w ⟨hE, hM⟩
    refine c_region ?_
    refine s_move hE goes_none (by decide) rfl ?_; intro a hE
    refine s_assign hE goes_none (by decide) rfl ?_; intro a hE
    refine c_fin ?_
    have hr := Option.some.inj hF3
    subst hr
    exact wp_ret (k_ret1 hE rfl (res_tmp hE rfl) ⟨_, rfl, rfl, hM.kept⟩)
noncomputable def F_spec_l01Inv (p0 : Int) (p1 : UInt8) : Option (UInt8) :=
  (F_spec_l01Power p0 p1 254).bind fun (r1 : UInt8) => some r1
set_option maxRecDepth 20000 in
set_option maxHeartbeats 400000 in
theorem c_spec_l01Inv (w0 : World) (p0 : Int) (p1 : UInt8) (r : UInt8) (hF : F_spec_l01Inv p0 p1 = some r) :
    Calls Try.prog 106 [(vI p0), (vB p1)].toArray w0 (fun en w' => ∃ v, en = .returned v ∧ (v = (vB r) ∧ Kept (Old w0) w0 w')) := by
  refine c_enter (n := 8) Try.func106 rfl rfl (Nat.le_of_ble_eq_true rfl) rfl ?_
  intro a hE
  have hM := M.start w0
  unfold F_spec_l01Inv at hF
  refine c_region ?_
  refine s_assign hE goes_none (by decide) rfl ?_; intro a hE
  refine c_fin ?_
  refine c_region ?_
  refine s_move hE goes_none (by decide) rfl ?_; intro a hE
  refine s_move hE goes_none (by decide) rfl ?_; intro a hE
  obtain ⟨r1, e2, hF⟩ := bind_some hF
  refine s_call (vs := [(vI p0), (vB p1), (vI 254)]) hE goes_none (by decide) rfl cb125 (c_spec_l01Power _ p0 p1 254 r1 e2) ?_
  rintro v w a ⟨rfl, hK⟩ hE
  have hM := hM.keep hK
  refine s_assign hE goes_none (by decide) rfl ?_; intro a hE
  refine c_fin ?_
  have hr := Option.some.inj hF
  subst hr
  exact wp_ret (k_ret1 hE rfl (res_tmp hE rfl) ⟨_, rfl, rfl, hM.kept⟩)
noncomputable def L1_spec_l04House (s16 : (Vector (Vector UInt8 4) 4) × Int) (s24 : (Vector (Vector UInt8 4) 4) × Int) : Option (Fl ((Vector (Vector UInt8 4) 4) × Int) (Vector (Vector UInt8 4) 4)) :=
  if (decide (s24.2 < 4)) = true then ((F_spec_l01Inv 285 (byteI (xorI s16.2 (wr (4 + s24.2))))).bind fun (r30 : UInt8) => (vidx s24.1 s16.2).bind fun (x33 : (Vector UInt8 4)) => (vidx x33 s24.2).bind fun (x36 : UInt8) => some (Fl.nx ((s24.1.setIfInBounds (s16.2).toNat (x33.setIfInBounds (s24.2).toNat r30)), wr (s24.2 + 1)))) else (some (Fl.ex s24.1))
noncomputable def L0_spec_l04House (s16 : (Vector (Vector UInt8 4) 4) × Int) : Option (Fl ((Vector (Vector UInt8 4) 4) × Int) (Vector (Vector UInt8 4) 4)) :=
  if (decide (s16.2 < 4)) = true then ((iter (L1_spec_l04House s16) (s16.1, 0) : Option ((Vector (Vector UInt8 4) 4))).bind fun (j21 : (Vector (Vector UInt8 4) 4)) => some (Fl.nx (j21, wr (s16.2 + 1)))) else (some (Fl.ex s16.1))
noncomputable def L2_spec_l04House (s43 : (Vector UInt8 16) × Int) : Option (Fl ((Vector UInt8 16) × Int) (Vector UInt8 16)) :=
  if (decide (s43.2 < 16)) = true then ((vidx s43.1 s43.2).bind fun (x49 : UInt8) => some (Fl.nx ((s43.1.setIfInBounds (s43.2).toNat (byteI (Int.tmod (wr ((wr (13 * s43.2)) + 4)) 16))), wr (s43.2 + 1)))) else (some (Fl.ex s43.1))
noncomputable def F_spec_l04House (p0 : Int) : Option (GCipher) :=
  (F_spec_l02Power 285 254).bind fun (r5 : (Vector UInt8 256)) => (F_spec_l02Rotations ([0, 1, 4] : List Int) 90).bind fun (r9 : (Vector UInt8 256)) => (F_spec_l02Then r5 r9).bind fun (r11 : (Vector UInt8 256)) => (iter (L0_spec_l04House) ((Vector.replicate 4 (Vector.replicate 4 (0 : UInt8))), 0) : Option ((Vector (Vector UInt8 4) 4))).bind fun (j13 : (Vector (Vector UInt8 4) 4)) => (iter (L2_spec_l04House) ((Vector.replicate 16 (0 : UInt8)), 0) : Option ((Vector UInt8 16))).bind fun (j40 : (Vector UInt8 16)) => some (⟨285, r11, j13, j40, p0⟩ : GCipher)
set_option maxRecDepth 20000 in
set_option maxHeartbeats 400000 in
theorem c_spec_l04House (w0 : World) (p0 : Int) (r : GCipher) (hF : F_spec_l04House p0 = some r) :
    Calls Try.prog 86 [(vI p0)].toArray w0 (fun en w' => ∃ v, en = .returned v ∧ (v = (Value.agg (Flat.enc r).toArray) ∧ Kept (Old w0) w0 w')) := by
  refine c_enter (n := 46) Try.func86 rfl rfl (Nat.le_of_ble_eq_true rfl) rfl ?_
  intro a hE
  have hM := M.start w0
  unfold F_spec_l04House at hF
  refine c_region ?_
  refine s_alloc hE hM goes_none (by decide) ty103 ?_; intro b1 w a hM hE
  refine c_fin ?_
  refine c_region ?_
  refine s_move hE goes_none (by decide) rfl ?_; intro a hE
  refine s_buildStr (parts := [(0, .const (vI 285)), (4, .tmp 7)]) (vs := [(0, (vI 285)), (4, (vI p0))]) (cs := cat [[(vI 285)], Flat.enc (Vector.replicate 256 (0 : UInt8)), Flat.enc (Vector.replicate 4 (Vector.replicate 4 (0 : UInt8))), Flat.enc (Vector.replicate 16 (0 : UInt8)), [(vI p0)]]) hE goes_none (by decide) rfl rfl ty103 pl103 (fill_step (pre := []) (seg := [(vI 0)]) (seg' := [(vI 285)]) (post := [Flat.enc (Vector.replicate 256 (0 : UInt8)), Flat.enc (Vector.replicate 4 (Vector.replicate 4 (0 : UInt8))), Flat.enc (Vector.replicate 16 (0 : UInt8)), [(vI 0)]]) rfl cl0 rfl rfl rfl (fill_step (pre := [[(vI 285)], Flat.enc (Vector.replicate 256 (0 : UInt8)), Flat.enc (Vector.replicate 4 (Vector.replicate 4 (0 : UInt8))), Flat.enc (Vector.replicate 16 (0 : UInt8))]) (seg := [(vI 0)]) (seg' := [(vI p0)]) (post := []) rfl (cl1 (n := 1) (m := 288) rfl (cl1 (n := 256) (m := 32) (Flat.len _) (cl1 (n := 16) (m := 16) (Flat.len _) (cl1 (n := 16) (m := 0) (Flat.len _) cl0)))) rfl rfl rfl fill_nil)) ?_; intro a hE
  refine s_alloc hE hM goes_none (by decide) ty103 ?_; intro b3 w a hM hE
  refine s_store (seg := cat [[(vI 285)], Flat.enc (Vector.replicate 256 (0 : UInt8)), Flat.enc (Vector.replicate 4 (Vector.replicate 4 (0 : UInt8))), Flat.enc (Vector.replicate 16 (0 : UInt8)), [(vI p0)]]) (cs' := cat [[(vI 285)], Flat.enc (Vector.replicate 256 (0 : UInt8)), Flat.enc (Vector.replicate 4 (Vector.replicate 4 (0 : UInt8))), Flat.enc (Vector.replicate 16 (0 : UInt8)), [(vI p0)]]) hE hM goes_none rfl rfl rfl ty103 (cat_len (cl1 (n := 1) (m := 289) rfl (cl1 (n := 256) (m := 33) (Flat.len _) (cl1 (n := 16) (m := 17) (Flat.len _) (cl1 (n := 16) (m := 1) (Flat.len _) (cl1 (n := 1) (m := 0) rfl cl0)))))) (Nat.le_of_eq ((Nat.zero_add _).trans (Eq.trans (cat_len (cl1 (n := 1) (m := 289) rfl (cl1 (n := 256) (m := 33) (Flat.len _) (cl1 (n := 16) (m := 17) (Flat.len _) (cl1 (n := 16) (m := 1) (Flat.len _) (cl1 (n := 1) (m := 0) rfl cl0)))))) (Eq.symm (cat_len (cl1 (n := 1) (m := 289) rfl (cl1 (n := 256) (m := 33) (Flat.len _) (cl1 (n := 16) (m := 17) (Flat.len _) (cl1 (n := 16) (m := 1) (Flat.len _) (cl1 (n := 1) (m := 0) rfl cl0)))))))))) (cat_cell (cc1 (Flat.cell (285 : Int)) (cc1 (Flat.cell _) (cc1 (Flat.cell _) (cc1 (Flat.cell _) (cc1 (Flat.cell (p0 : Int)) cc0)))))) (splice_all (Eq.trans (cat_len (cl1 (n := 1) (m := 289) rfl (cl1 (n := 256) (m := 33) (Flat.len _) (cl1 (n := 16) (m := 17) (Flat.len _) (cl1 (n := 16) (m := 1) (Flat.len _) (cl1 (n := 1) (m := 0) rfl cl0)))))) (Eq.symm (cat_len (cl1 (n := 1) (m := 289) rfl (cl1 (n := 256) (m := 33) (Flat.len _) (cl1 (n := 16) (m := 17) (Flat.len _) (cl1 (n := 16) (m := 1) (Flat.len _) (cl1 (n := 1) (m := 0) rfl cl0))))))))) ?_; intro w a hM hE
  refine c_fin ?_
  refine c_region ?_
  obtain ⟨r5, e6, hF⟩ := bind_some hF
  refine s_call (vs := [(vI 285), (vI 254)]) hE goes_none (by decide) rfl cb104 (c_spec_l02Power _ 285 254 r5 e6) ?_
  rintro v w a ⟨rfl, hK⟩ hE
  have hM := hM.keep hK
  refine s_buildF (xs := [.const (vI 0), .const (vI 1), .const (vI 4)]) (l := ([0, 1, 4] : List Int)) (vs := [(vI 0), (vI 1), (vI 4)]) hE hM goes_none (by decide) rfl rfl Try.underlying46 ty2 rfl (by decide) rfl ?_; intro u7 w a hM hE
  obtain ⟨r9, e10, hF⟩ := bind_some hF
  refine s_call (vs := [u7, (vB 90)]) hE goes_none (by decide) rfl cb105 (c_spec_l02Rotations _ ([0, 1, 4] : List Int) u7 (hM.sl (pre := []) noB) 90 r9 e10) ?_
  rintro v w a ⟨rfl, hK⟩ hE
  have hM := hM.keep hK
  obtain ⟨r11, e12, hF⟩ := bind_some hF
  refine s_call (vs := [(Value.agg (Flat.enc r5).toArray), (Value.agg (Flat.enc r9).toArray)]) hE goes_none (by decide) rfl cb103 (c_spec_l02Then _ r5 r9 r11 e12) ?_
  rintro v w a ⟨rfl, hK⟩ hE
  have hM := hM.keep hK
  refine s_fieldAddr hE goes_none (by decide) rfl (fd103_1) ?_; intro a hE
  have hM := hM.pull (pre := [_])
  refine s_store (seg := Flat.enc r11) (cs' := cat [[(vI 285)], Flat.enc r11, Flat.enc (Vector.replicate 4 (Vector.replicate 4 (0 : UInt8))), Flat.enc (Vector.replicate 16 (0 : UInt8)), [(vI p0)]]) hE hM goes_none rfl rfl rfl ty97 (Flat.len _) (fit_cat (pre := [[(vI 285)]]) (seg := Flat.enc (Vector.replicate 256 (0 : UInt8))) (post := [Flat.enc (Vector.replicate 4 (Vector.replicate 4 (0 : UInt8))), Flat.enc (Vector.replicate 16 (0 : UInt8)), [(vI p0)]]) (cl1 (n := 1) (m := 0) rfl cl0) (Eq.trans (Flat.len _) (Eq.symm (Flat.len _)))) (Flat.cell _) (splice_cat (pre := [[(vI 285)]]) (seg := Flat.enc (Vector.replicate 256 (0 : UInt8))) (post := [Flat.enc (Vector.replicate 4 (Vector.replicate 4 (0 : UInt8))), Flat.enc (Vector.replicate 16 (0 : UInt8)), [(vI p0)]]) (cl1 (n := 1) (m := 0) rfl cl0) (Eq.trans (Flat.len _) (Eq.symm (Flat.len _)))) ?_; intro w a hM hE
  refine c_fin ?_
  refine wp_seq ?_
  refine c_region ?_
  refine s_assign hE goes_none (by decide) rfl ?_; intro a hE
  refine c_fin ?_
  obtain ⟨j13, hl14, hF15⟩ := bind_some hF
  refine c_cut (fun a w => Env 46 a [(2, (ptr b1 0)), (3, (ptr b3 0))] ∧ M (Old w0) w0 w [raw b3 (cat [[(vI 285)], Flat.enc r11, Flat.enc j13, Flat.enc (Vector.replicate 16 (0 : UInt8)), [(vI p0)]]), raw b1 (cat [[(vI 0)], Flat.enc (Vector.replicate 256 (0 : UInt8)), Flat.enc (Vector.replicate 4 (Vector.replicate 4 (0 : UInt8))), Flat.enc (Vector.replicate 16 (0 : UInt8)), [(vI 0)]])]) ?_ ?_
  · skip
    refine wp_block ?_
    have hM := hM.pull (pre := [_, _])
    have hM := hM.pull (pre := [_])
    have hM := M.fst (l := [_, _]) hM
    refine c_loop (fun (s16 : (Vector (Vector UInt8 4) 4) × Int) a w => Env 46 a [(2, (ptr b1 0)), (3, (ptr b3 0)), (4, (vI s16.2))] ∧ M (Old w0) w0 w [raw b3 (cat [[(vI 285)], Flat.enc r11, Flat.enc s16.1, Flat.enc (Vector.replicate 16 (0 : UInt8)), [(vI p0)]]), raw b1 (cat [[(vI 0)], Flat.enc (Vector.replicate 256 (0 : UInt8)), Flat.enc (Vector.replicate 4 (Vector.replicate 4 (0 : UInt8))), Flat.enc (Vector.replicate 16 (0 : UInt8)), [(vI 0)]])]) hl14 ⟨hE.sub ⟨rfl, rfl, rfl, trivial⟩, hM⟩ ?_
    rintro s16 a w ⟨hE, hM⟩ o19 hs17 hx18
    unfold L0_spec_l04House at hs17
    refine wp_seq ?_
    refine c_region ?_
    refine s_move hE goes_none (by decide) rfl ?_; intro a hE
    refine s_int hE goes_none (by decide) rfl rfl rfl ?_; intro a hE
    refine c_fin ?_
    refine c_cond hE rfl ?_ ?_
    · intro hb20
      have hs17 := ite_t hs17 hb20
      refine wp_skip ?_
      refine c_nx ?_
      refine wp_seq ?_
      refine wp_block ?_
      refine c_region ?_
      refine s_assign hE goes_none (by decide) rfl ?_; intro a hE
      refine c_fin ?_
      obtain ⟨j21, hl22, hF23⟩ := bind_some hs17
      refine c_cut (fun a w => Env 46 a [(2, (ptr b1 0)), (3, (ptr b3 0)), (4, (vI s16.2))] ∧ M (Old w0) w0 w [raw b3 (cat [[(vI 285)], Flat.enc r11, Flat.enc j21, Flat.enc (Vector.replicate 16 (0 : UInt8)), [(vI p0)]]), raw b1 (cat [[(vI 0)], Flat.enc (Vector.replicate 256 (0 : UInt8)), Flat.enc (Vector.replicate 4 (Vector.replicate 4 (0 : UInt8))), Flat.enc (Vector.replicate 16 (0 : UInt8)), [(vI 0)]])]) ?_ ?_
      · skip
        refine wp_block ?_
        refine c_loop (fun (s24 : (Vector (Vector UInt8 4) 4) × Int) a w => Env 46 a [(2, (ptr b1 0)), (3, (ptr b3 0)), (4, (vI s16.2)), (5, (vI s24.2))] ∧ M (Old w0) w0 w [raw b3 (cat [[(vI 285)], Flat.enc r11, Flat.enc s24.1, Flat.enc (Vector.replicate 16 (0 : UInt8)), [(vI p0)]]), raw b1 (cat [[(vI 0)], Flat.enc (Vector.replicate 256 (0 : UInt8)), Flat.enc (Vector.replicate 4 (Vector.replicate 4 (0 : UInt8))), Flat.enc (Vector.replicate 16 (0 : UInt8)), [(vI 0)]])]) hl22 ⟨hE.sub ⟨rfl, rfl, rfl, rfl, trivial⟩, hM⟩ ?_
        rintro s24 a w ⟨hE, hM⟩ o27 hs25 hx26
        unfold L1_spec_l04House at hs25
        refine wp_seq ?_
        refine c_region ?_
        refine s_move hE goes_none (by decide) rfl ?_; intro a hE
        refine s_int hE goes_none (by decide) rfl rfl rfl ?_; intro a hE
        refine c_fin ?_
        refine c_cond hE rfl ?_ ?_
        · intro hb28
          have hs25 := ite_t hs25 hb28
          refine wp_skip ?_
          refine c_nx ?_
          refine wp_seq ?_
          refine wp_block ?_
          obtain ⟨r30, e31, hs25⟩ := bind_some hs25
          obtain ⟨x33, e34, hs25⟩ := bind_some hs25
          have hi32 := vidx_some e34
          obtain ⟨x36, e37, hs25⟩ := bind_some hs25
          have hi35 := vidx_some e37
          refine c_draw (n := 46) (hd := [_, _, _, _, _, _, _, _, _, _, _]) (tl := [_]) hmix rfl rfl [22, 23, 24, 25, 26, 27, 28, 29, 30, 31, 32] (by decide) (fun w => M (Old w0) w0 w [raw b3 (cat [[(vI 285)], Flat.enc r11, Flat.enc s24.1, Flat.enc (Vector.replicate 16 (0 : UInt8)), [(vI p0)]]), raw b1 (cat [[(vI 0)], Flat.enc (Vector.replicate 256 (0 : UInt8)), Flat.enc (Vector.replicate 4 (Vector.replicate 4 (0 : UInt8))), Flat.enc (Vector.replicate 16 (0 : UInt8)), [(vI 0)]])]) (fun j => ([fun v _ => v = (vI s16.2), fun v _ => v = (vI s24.2), fun v _ => v = (vI s16.2), fun v _ => v = (vI s24.2), fun v _ => v = (vI (wr (4 + s24.2))), fun v _ => v = (vI (xorI s16.2 (wr (4 + s24.2)))), fun v _ => v = (vB (byteI (xorI s16.2 (wr (4 + s24.2))))), fun v _ => v = (vB r30), fun v _ => v = (ptr b3 (0 + 257)), fun v _ => v = (ptr b3 (0 + 257 + (s16.2).toNat * 4)), fun v _ => v = (ptr b3 (0 + 257 + (s16.2).toNat * 4 + (s24.2).toNat * 1))] : List (Value → World → Prop)).getD j (fun _ _ => True)) (fun _ _ h hk => h.keep hk) (gup (gupE (gupE (gupE (gupE (gupE (gupE (gupE (gupE (gupE (gupE (gupE gupN)))))))))))) hE hM.drew (steps_of (steps_cons ?_ (steps_cons ?_ (steps_cons ?_ (steps_cons ?_ (steps_cons ?_ (steps_cons ?_ (steps_cons ?_ (steps_cons ?_ (steps_cons ?_ (steps_cons ?_ (steps_cons ?_ steps_nil)))))))))))) ?_
          · intro a w ux29 hE hM hp
            refine s_move hE goes_none (by decide) rfl ?_; intro a hE
            exact ⟨Kept.refl _ _, _, _, rfl, hE, rfl⟩
          · intro a w ux29 hE hM hp
            refine s_move hE goes_none (by decide) rfl ?_; intro a hE
            exact ⟨Kept.refl _ _, _, _, rfl, hE, rfl⟩
          · intro a w ux29 hE hM hp
            refine s_move hE goes_none (by decide) rfl ?_; intro a hE
            exact ⟨Kept.refl _ _, _, _, rfl, hE, rfl⟩
          · intro a w ux29 hE hM hp
            refine s_move hE goes_none (by decide) rfl ?_; intro a hE
            exact ⟨Kept.refl _ _, _, _, rfl, hE, rfl⟩
          · intro a w ux29 hE hM hp
            have f3 : ux29 3 = (vI s24.2) := hp 0 _ rfl rfl
            refine s_int hE goes_none (by decide) rfl (lk rfl f3) rfl ?_; intro a hE
            exact ⟨Kept.refl _ _, _, _, rfl, hE, rfl⟩
          · intro a w ux29 hE hM hp
            have f2 : ux29 2 = (vI s16.2) := hp 0 _ rfl rfl
            have f4 : ux29 4 = (vI (wr (4 + s24.2))) := hp 1 _ rfl rfl
            refine s_int hE goes_none (by decide) (lk rfl f2) (lk rfl f4) rfl ?_; intro a hE
            exact ⟨Kept.refl _ _, _, _, rfl, hE, rfl⟩
          · intro a w ux29 hE hM hp
            have f5 : ux29 5 = (vI (xorI s16.2 (wr (4 + s24.2)))) := hp 0 _ rfl rfl
            refine s_conv hE goes_none (by decide) (lk rfl f5) Try.underlying3 Try.underlying5 ?_; intro a hE
            rw [byteI_val] at hE
            exact ⟨Kept.refl _ _, _, _, rfl, hE, rfl⟩
          · intro a w ux29 hE hM hp
            have f6 : ux29 6 = (vB (byteI (xorI s16.2 (wr (4 + s24.2))))) := hp 0 _ rfl rfl
            refine s_call (vs := [(vI 285), (vB (byteI (xorI s16.2 (wr (4 + s24.2)))))]) hE goes_none (by decide) (evs_of (evsC rfl (evsC (lk rfl f6) evsN))) cb106 (c_spec_l01Inv _ 285 (byteI (xorI s16.2 (wr (4 + s24.2)))) r30 e31) ?_
            rintro v w a ⟨rfl, hK⟩ hE
            exact ⟨hK, _, _, rfl, hE, rfl⟩
          · intro a w ux29 hE hM hp
            refine s_fieldAddr hE goes_none (by decide) rfl (fd103_2) ?_; intro a hE
            exact ⟨Kept.refl _ _, _, _, rfl, hE, rfl⟩
          · intro a w ux29 hE hM hp
            have f0 : ux29 0 = (vI s16.2) := hp 1 _ rfl rfl
            have f8 : ux29 8 = (ptr b3 (0 + 257)) := hp 0 _ rfl rfl
            refine s_indexA hE goes_none (by decide) (lk rfl f8) (lk rfl f0) Try.underlying100 ty98 hi32.1 ?_; intro a hE
            exact ⟨Kept.refl _ _, _, _, rfl, hE, rfl⟩
          · intro a w ux29 hE hM hp
            have f1 : ux29 1 = (vI s24.2) := hp 1 _ rfl rfl
            have f9 : ux29 9 = (ptr b3 (0 + 257 + (s16.2).toNat * 4)) := hp 0 _ rfl rfl
            refine s_indexA hE goes_none (by decide) (lk rfl f9) (lk rfl f1) Try.underlying98 ty5 hi35.1 ?_; intro a hE
            exact ⟨Kept.refl _ _, _, _, rfl, hE, rfl⟩
          · intro a w ux29 hE hM hg
            have f0 : ux29 0 = (vI s16.2) := hg 0 (by decide)
            have f1 : ux29 1 = (vI s24.2) := hg 1 (by decide)
            have f2 : ux29 2 = (vI s16.2) := hg 2 (by decide)
            have f3 : ux29 3 = (vI s24.2) := hg 3 (by decide)
            have f4 : ux29 4 = (vI (wr (4 + s24.2))) := hg 4 (by decide)
            have f5 : ux29 5 = (vI (xorI s16.2 (wr (4 + s24.2)))) := hg 5 (by decide)
            have f6 : ux29 6 = (vB (byteI (xorI s16.2 (wr (4 + s24.2))))) := hg 6 (by decide)
            have f7 : ux29 7 = (vB r30) := hg 7 (by decide)
            have f8 : ux29 8 = (ptr b3 (0 + 257)) := hg 8 (by decide)
            have f9 : ux29 9 = (ptr b3 (0 + 257 + (s16.2).toNat * 4)) := hg 9 (by decide)
            have f10 : ux29 10 = (ptr b3 (0 + 257 + (s16.2).toNat * 4 + (s24.2).toNat * 1)) := hg 10 (by decide)
            have hE := hE.sub (e' := [(22, (vI s16.2)), (23, (vI s24.2)), (24, (vI s16.2)), (25, (vI s24.2)), (26, (vI (wr (4 + s24.2)))), (27, (vI (xorI s16.2 (wr (4 + s24.2))))), (28, (vB (byteI (xorI s16.2 (wr (4 + s24.2)))))), (29, (vB r30)), (30, (ptr b3 (0 + 257))), (31, (ptr b3 (0 + 257 + (s16.2).toNat * 4))), (32, (ptr b3 (0 + 257 + (s16.2).toNat * 4 + (s24.2).toNat * 1))), (2, (ptr b1 0)), (3, (ptr b3 0)), (4, (vI s16.2)), (5, (vI s24.2)), (18, (vI s24.2)), (19, (vT (decide (s24.2 < 4))))]) ⟨lk rfl f0, lk rfl f1, lk rfl f2, lk rfl f3, lk rfl f4, lk rfl f5, lk rfl f6, lk rfl f7, lk rfl f8, lk rfl f9, lk rfl f10, rfl, rfl, rfl, rfl, rfl, rfl, trivial⟩
            refine s_store (seg := [(vB r30)]) (cs' := cat [[(vI 285)], Flat.enc r11, Flat.enc (s24.1.setIfInBounds (s16.2).toNat (x33.setIfInBounds (s24.2).toNat r30)), Flat.enc (Vector.replicate 16 (0 : UInt8)), [(vI p0)]]) hE hM goes_none rfl rfl rfl ty5 rfl (fit_catI (o' := (s16.2).toNat * 4 + (0 + (s24.2).toNat * 1)) (pre := [[(vI 285)], Flat.enc r11]) (seg := Flat.enc s24.1) (post := [Flat.enc (Vector.replicate 16 (0 : UInt8)), [(vI p0)]]) (cl1 (n := 1) (m := 256) rfl (cl1 (n := 256) (m := 0) (Flat.len _) cl0)) (fit_vecI (o' := 0 + (s24.2).toNat * 1) hi32 (fit_vec (v := x33) (x := r30) hi35.1) (by first | omega | (simp only [Flat.n] <;> omega))) (by first | omega | (simp only [Flat.n] <;> omega))) (Flat.cell (r30 : UInt8)) (splice_catI (o' := (s16.2).toNat * 4 + (0 + (s24.2).toNat * 1)) (pre := [[(vI 285)], Flat.enc r11]) (seg := Flat.enc s24.1) (post := [Flat.enc (Vector.replicate 16 (0 : UInt8)), [(vI p0)]]) (cl1 (n := 1) (m := 256) rfl (cl1 (n := 256) (m := 0) (Flat.len _) cl0)) (fit_vecI (o' := 0 + (s24.2).toNat * 1) hi32 (fit_vec (v := x33) (x := r30) hi35.1) (by first | omega | (simp only [Flat.n] <;> omega))) (splice_vecI (o' := 0 + (s24.2).toNat * 1) hi32 (fit_vec (v := x33) (x := r30) hi35.1) (splice_vec0 (v := x33) (x := r30) hi35.1) (by first | omega | (simp only [Flat.n] <;> omega))) (by first | omega | (simp only [Flat.n] <;> omega))) ?_; intro w a hM hE
            refine c_fin0 ?_
            refine c_nb ?_
            refine c_nx ?_
            refine wp_region_lit ?_
            refine s_move hE goes_none (by decide) rfl ?_; intro a hE
            refine s_int hE goes_none (by decide) rfl rfl rfl ?_; intro a hE
            refine s_assign hE goes_none (by decide) rfl ?_; intro a hE
            refine c_fin0 ?_
            refine c_mid ?_
            exact ⟨_, (Option.some.inj hs25).symm, hE.sub ⟨rfl, rfl, rfl, rfl, trivial⟩, hM⟩
        · intro hb28
          have hs25 := ite_f hs25 hb28
          refine wp_exit (e_then (e_then (e_eq ?_)))
          have ht38 := hx26 _ (Option.some.inj hs25).symm
          subst ht38
          refine c_mid ?_
          exact ⟨hE.sub ⟨rfl, rfl, rfl, trivial⟩, hM⟩
      · skip
        rintro a w ⟨hE, hM⟩
        refine c_nb ?_
        refine c_nx ?_
        refine wp_region_lit ?_
        refine s_move hE goes_none (by decide) rfl ?_; intro a hE
        refine s_int hE goes_none (by decide) rfl rfl rfl ?_; intro a hE
        refine s_assign hE goes_none (by decide) rfl ?_; intro a hE
        refine c_fin0 ?_
        refine c_mid ?_
        exact ⟨_, (Option.some.inj hF23).symm, hE.sub ⟨rfl, rfl, rfl, trivial⟩, hM⟩
    · intro hb20
      have hs17 := ite_f hs17 hb20
      refine wp_exit (e_then (e_then (e_eq ?_)))
      have ht39 := hx18 _ (Option.some.inj hs17).symm
      subst ht39
      refine c_mid ?_
      exact ⟨hE.sub ⟨rfl, rfl, trivial⟩, hM⟩
  · skip
    rintro a w ⟨hE, hM⟩
    refine c_nx ?_
    refine wp_seq ?_
    refine c_region ?_
    refine s_assign hE goes_none (by decide) rfl ?_; intro a hE
    refine c_fin ?_
    obtain ⟨j40, hl41, hF42⟩ := bind_some hF15
    refine c_cut (fun a w => Env 46 a [(2, (ptr b1 0)), (3, (ptr b3 0))] ∧ M (Old w0) w0 w [raw b3 (cat [[(vI 285)], Flat.enc r11, Flat.enc j13, Flat.enc j40, [(vI p0)]]), raw b1 (cat [[(vI 0)], Flat.enc (Vector.replicate 256 (0 : UInt8)), Flat.enc (Vector.replicate 4 (Vector.replicate 4 (0 : UInt8))), Flat.enc (Vector.replicate 16 (0 : UInt8)), [(vI 0)]])]) ?_ ?_
    · skip
      refine wp_block ?_
      refine c_loop (fun (s43 : (Vector UInt8 16) × Int) a w => Env 46 a [(2, (ptr b1 0)), (3, (ptr b3 0)), (6, (vI s43.2))] ∧ M (Old w0) w0 w [raw b3 (cat [[(vI 285)], Flat.enc r11, Flat.enc j13, Flat.enc s43.1, [(vI p0)]]), raw b1 (cat [[(vI 0)], Flat.enc (Vector.replicate 256 (0 : UInt8)), Flat.enc (Vector.replicate 4 (Vector.replicate 4 (0 : UInt8))), Flat.enc (Vector.replicate 16 (0 : UInt8)), [(vI 0)]])]) hl41 ⟨hE.sub ⟨rfl, rfl, rfl, trivial⟩, hM⟩ ?_
      rintro s43 a w ⟨hE, hM⟩ o46 hs44 hx45
      unfold L2_spec_l04House at hs44
      refine wp_seq ?_
      refine c_region ?_
      refine s_move hE goes_none (by decide) rfl ?_; intro a hE
      refine s_int hE goes_none (by decide) rfl rfl rfl ?_; intro a hE
      refine c_fin ?_
      refine c_cond hE rfl ?_ ?_
      · intro hb47
        have hs44 := ite_t hs44 hb47
        refine wp_skip ?_
        refine c_nx ?_
        refine wp_seq ?_
        refine wp_block ?_
        refine wp_region_lit ?_
        refine s_move hE goes_none (by decide) rfl ?_; intro a hE
        refine s_move hE goes_none (by decide) rfl ?_; intro a hE
        refine s_int hE goes_none (by decide) rfl rfl rfl ?_; intro a hE
        refine s_int hE goes_none (by decide) rfl rfl rfl ?_; intro a hE
        refine s_int hE goes_none (by decide) rfl rfl (bI_rem _ _ (by decide)) ?_; intro a hE
        refine s_conv hE goes_none (by decide) rfl Try.underlying3 Try.underlying5 ?_; intro a hE
        rw [byteI_val] at hE
        refine s_fieldAddr hE goes_none (by decide) rfl (fd103_3) ?_; intro a hE
        obtain ⟨x49, e50, hs44⟩ := bind_some hs44
        have hi48 := vidx_some e50
        refine s_indexA hE goes_none (by decide) rfl rfl Try.underlying101 ty5 hi48.1 ?_; intro a hE
        refine s_store (seg := [(vB (byteI (Int.tmod (wr ((wr (13 * s43.2)) + 4)) 16)))]) (cs' := cat [[(vI 285)], Flat.enc r11, Flat.enc j13, Flat.enc (s43.1.setIfInBounds (s43.2).toNat (byteI (Int.tmod (wr ((wr (13 * s43.2)) + 4)) 16))), [(vI p0)]]) hE hM goes_none rfl rfl rfl ty5 rfl (fit_catI (o' := 0 + (s43.2).toNat * 1) (pre := [[(vI 285)], Flat.enc r11, Flat.enc j13]) (seg := Flat.enc s43.1) (post := [[(vI p0)]]) (cl1 (n := 1) (m := 272) rfl (cl1 (n := 256) (m := 16) (Flat.len _) (cl1 (n := 16) (m := 0) (Flat.len _) cl0))) (fit_vec (v := s43.1) (x := byteI (Int.tmod (wr ((wr (13 * s43.2)) + 4)) 16)) hi48.1) (by first | omega | (simp only [Flat.n] <;> omega))) (Flat.cell (byteI (Int.tmod (wr ((wr (13 * s43.2)) + 4)) 16) : UInt8)) (splice_catI (o' := 0 + (s43.2).toNat * 1) (pre := [[(vI 285)], Flat.enc r11, Flat.enc j13]) (seg := Flat.enc s43.1) (post := [[(vI p0)]]) (cl1 (n := 1) (m := 272) rfl (cl1 (n := 256) (m := 16) (Flat.len _) (cl1 (n := 16) (m := 0) (Flat.len _) cl0))) (fit_vec (v := s43.1) (x := byteI (Int.tmod (wr ((wr (13 * s43.2)) + 4)) 16)) hi48.1) (splice_vec0 (v := s43.1) (x := byteI (Int.tmod (wr ((wr (13 * s43.2)) + 4)) 16)) hi48.1) (by first | omega | (simp only [Flat.n] <;> omega))) ?_; intro w a hM hE
        refine c_fin0 ?_
        refine c_nb ?_
        refine c_nx ?_
        refine wp_region_lit ?_
        refine s_move hE goes_none (by decide) rfl ?_; intro a hE
        refine s_int hE goes_none (by decide) rfl rfl rfl ?_; intro a hE
        refine s_assign hE goes_none (by decide) rfl ?_; intro a hE
        refine c_fin0 ?_
        refine c_mid ?_
        exact ⟨_, (Option.some.inj hs44).symm, hE.sub ⟨rfl, rfl, rfl, trivial⟩, hM⟩
      · intro hb47
        have hs44 := ite_f hs44 hb47
        refine wp_exit (e_then (e_then (e_eq ?_)))
        have ht51 := hx45 _ (Option.some.inj hs44).symm
        subst ht51
        refine c_mid ?_
        exact ⟨hE.sub ⟨rfl, rfl, trivial⟩, hM⟩
    · skip
      rintro a w ⟨hE, hM⟩
      refine c_nx ?_
      refine c_region ?_
      refine s_loadA (cs := Flat.enc (⟨285, r11, j13, j40, p0⟩ : GCipher)) hE goes_none (by decide) rfl ty103 rfl (hM.rawAt (pre := [])) (cat_len (cl1 (n := 1) (m := 289) rfl (cl1 (n := 256) (m := 33) (Flat.len _) (cl1 (n := 16) (m := 17) (Flat.len _) (cl1 (n := 16) (m := 1) (Flat.len _) (cl1 (n := 1) (m := 0) rfl cl0)))))) ?_; intro a hE
      have hM := hM.pull (pre := [_])
      refine s_store (seg := cat [[(vI ((⟨285, r11, j13, j40, p0⟩ : GCipher).Field))], Flat.enc ((⟨285, r11, j13, j40, p0⟩ : GCipher).Box), Flat.enc ((⟨285, r11, j13, j40, p0⟩ : GCipher).Mix), Flat.enc ((⟨285, r11, j13, j40, p0⟩ : GCipher).Places), [(vI ((⟨285, r11, j13, j40, p0⟩ : GCipher).Rounds))]]) (cs' := cat [[(vI ((⟨285, r11, j13, j40, p0⟩ : GCipher).Field))], Flat.enc ((⟨285, r11, j13, j40, p0⟩ : GCipher).Box), Flat.enc ((⟨285, r11, j13, j40, p0⟩ : GCipher).Mix), Flat.enc ((⟨285, r11, j13, j40, p0⟩ : GCipher).Places), [(vI ((⟨285, r11, j13, j40, p0⟩ : GCipher).Rounds))]]) hE hM goes_none rfl rfl rfl ty103 (cat_len (cl1 (n := 1) (m := 289) rfl (cl1 (n := 256) (m := 33) (Flat.len _) (cl1 (n := 16) (m := 17) (Flat.len _) (cl1 (n := 16) (m := 1) (Flat.len _) (cl1 (n := 1) (m := 0) rfl cl0)))))) (Nat.le_of_eq ((Nat.zero_add _).trans (Eq.trans (cat_len (cl1 (n := 1) (m := 289) rfl (cl1 (n := 256) (m := 33) (Flat.len _) (cl1 (n := 16) (m := 17) (Flat.len _) (cl1 (n := 16) (m := 1) (Flat.len _) (cl1 (n := 1) (m := 0) rfl cl0)))))) (Eq.symm (cat_len (cl1 (n := 1) (m := 289) rfl (cl1 (n := 256) (m := 33) (Flat.len _) (cl1 (n := 16) (m := 17) (Flat.len _) (cl1 (n := 16) (m := 1) (Flat.len _) (cl1 (n := 1) (m := 0) rfl cl0)))))))))) (cat_cell (cc1 (Flat.cell ((⟨285, r11, j13, j40, p0⟩ : GCipher).Field : Int)) (cc1 (Flat.cell _) (cc1 (Flat.cell _) (cc1 (Flat.cell _) (cc1 (Flat.cell ((⟨285, r11, j13, j40, p0⟩ : GCipher).Rounds : Int)) cc0)))))) (splice_all (Eq.trans (cat_len (cl1 (n := 1) (m := 289) rfl (cl1 (n := 256) (m := 33) (Flat.len _) (cl1 (n := 16) (m := 17) (Flat.len _) (cl1 (n := 16) (m := 1) (Flat.len _) (cl1 (n := 1) (m := 0) rfl cl0)))))) (Eq.symm (cat_len (cl1 (n := 1) (m := 289) rfl (cl1 (n := 256) (m := 33) (Flat.len _) (cl1 (n := 16) (m := 17) (Flat.len _) (cl1 (n := 16) (m := 1) (Flat.len _) (cl1 (n := 1) (m := 0) rfl cl0))))))))) ?_; intro w a hM hE
      refine c_fin ?_
      have hr := Option.some.inj hF42
      subst hr
      have hq52 : ResIs Try.prog _ _ (.cell 2 103) _ := res_cell hE rfl ty103 rfl (hM.rawAt (pre := [])) (cat_len (cl1 (n := 1) (m := 289) rfl (cl1 (n := 256) (m := 33) (Flat.len _) (cl1 (n := 16) (m := 17) (Flat.len _) (cl1 (n := 16) (m := 1) (Flat.len _) (cl1 (n := 1) (m := 0) rfl cl0)))))) rfl
      have hM := M.fst (l := []) hM
      exact wp_ret (k_ret1 hE rfl hq52 ⟨_, rfl, rfl, hM.kept⟩)
noncomputable def F_spec_l12Cipher : Option (GCipher) :=
  (F_spec_l04House 4).bind fun (r3 : GCipher) => some r3
set_option maxRecDepth 20000 in
set_option maxHeartbeats 400000 in
theorem c_spec_l12Cipher (w0 : World)  (r : GCipher) (hF : F_spec_l12Cipher  = some r) :
    Calls Try.prog 64 [].toArray w0 (fun en w' => ∃ v, en = .returned v ∧ (v = (Value.agg (Flat.enc r).toArray) ∧ Kept (Old w0) w0 w')) := by
  refine c_enter (n := 2) Try.func64 rfl rfl (Nat.le_of_ble_eq_true rfl) rfl ?_
  intro a hE
  have hM := M.start w0
  unfold F_spec_l12Cipher at hF
  refine c_region ?_
  refine s_alloc hE hM goes_none (by decide) ty103 ?_; intro b1 w a hM hE
  refine c_fin ?_
  refine c_region ?_
  obtain ⟨r3, e4, hF⟩ := bind_some hF
  refine s_call (vs := [(vI 4)]) hE goes_none (by decide) rfl cb86 (c_spec_l04House _ 4 r3 e4) ?_
  rintro v w a ⟨rfl, hK⟩ hE
  have hM := hM.keep hK
  refine s_store (seg := cat [[(vI r3.Field)], Flat.enc r3.Box, Flat.enc r3.Mix, Flat.enc r3.Places, [(vI r3.Rounds)]]) (cs' := cat [[(vI r3.Field)], Flat.enc r3.Box, Flat.enc r3.Mix, Flat.enc r3.Places, [(vI r3.Rounds)]]) hE hM goes_none rfl rfl rfl ty103 (cat_len (cl1 (n := 1) (m := 289) rfl (cl1 (n := 256) (m := 33) (Flat.len _) (cl1 (n := 16) (m := 17) (Flat.len _) (cl1 (n := 16) (m := 1) (Flat.len _) (cl1 (n := 1) (m := 0) rfl cl0)))))) (Nat.le_of_eq ((Nat.zero_add _).trans (Eq.trans (cat_len (cl1 (n := 1) (m := 289) rfl (cl1 (n := 256) (m := 33) (Flat.len _) (cl1 (n := 16) (m := 17) (Flat.len _) (cl1 (n := 16) (m := 1) (Flat.len _) (cl1 (n := 1) (m := 0) rfl cl0)))))) (Eq.symm (cat_len (cl1 (n := 1) (m := 289) rfl (cl1 (n := 256) (m := 33) (Flat.len _) (cl1 (n := 16) (m := 17) (Flat.len _) (cl1 (n := 16) (m := 1) (Flat.len _) (cl1 (n := 1) (m := 0) rfl cl0)))))))))) (cat_cell (cc1 (Flat.cell (r3.Field : Int)) (cc1 (Flat.cell _) (cc1 (Flat.cell _) (cc1 (Flat.cell _) (cc1 (Flat.cell (r3.Rounds : Int)) cc0)))))) (splice_all (Eq.trans (cat_len (cl1 (n := 1) (m := 289) rfl (cl1 (n := 256) (m := 33) (Flat.len _) (cl1 (n := 16) (m := 17) (Flat.len _) (cl1 (n := 16) (m := 1) (Flat.len _) (cl1 (n := 1) (m := 0) rfl cl0)))))) (Eq.symm (cat_len (cl1 (n := 1) (m := 289) rfl (cl1 (n := 256) (m := 33) (Flat.len _) (cl1 (n := 16) (m := 17) (Flat.len _) (cl1 (n := 16) (m := 1) (Flat.len _) (cl1 (n := 1) (m := 0) rfl cl0))))))))) ?_; intro w a hM hE
  refine c_fin ?_
  have hr := Option.some.inj hF
  subst hr
  have hq5 : ResIs Try.prog _ _ (.cell 0 103) _ := res_cell hE rfl ty103 rfl (hM.rawAt (pre := [])) (cat_len (cl1 (n := 1) (m := 289) rfl (cl1 (n := 256) (m := 33) (Flat.len _) (cl1 (n := 16) (m := 17) (Flat.len _) (cl1 (n := 16) (m := 1) (Flat.len _) (cl1 (n := 1) (m := 0) rfl cl0)))))) rfl
  have hM := M.fst (l := []) hM
  exact wp_ret (k_ret1 hE rfl hq5 ⟨_, rfl, rfl, hM.kept⟩)
noncomputable def F_spec_l01Copy (p0 : (List UInt8)) : Option ((List UInt8)) :=
  (app 1 ([] : List UInt8) p0).bind fun (l3 : (List UInt8)) => some (([] : List UInt8) ++ p0)
set_option maxRecDepth 20000 in
set_option maxHeartbeats 400000 in
theorem c_spec_l01Copy (w0 : World) (p0 : (List UInt8)) (v0_1 : Value) (hv0_1 : Ro w0 p0 [v0_1]) (r : (List UInt8)) (hF : F_spec_l01Copy p0 = some r) :
    Calls Try.prog 50 [v0_1].toArray w0 (fun en w' => ∃ v, en = .returned v ∧ (∃ (y1 : Value), v = y1 ∧ Fr w0 w' [osl NoB (r : List UInt8) y1] ∧ Kept (Old w0) w0 w')) := by
  refine c_enter (n := 6) Try.func50 rfl rfl (Nat.le_of_ble_eq_true rfl) rfl ?_
  intro a hE
  have hM := M.start w0
  unfold F_spec_l01Copy at hF
  refine c_region ?_
  refine s_assign hE goes_none (by decide) rfl ?_; intro a hE
  refine c_fin ?_
  refine c_region ?_
  refine s_buildF (xs := []) (l := ([] : List UInt8)) (vs := []) hE hM goes_none (by decide) rfl rfl Try.underlying50 ty5 rfl (by decide) rfl ?_; intro u1 w a hM hE
  refine s_move hE goes_none (by decide) rfl ?_; intro a hE
  obtain ⟨l3, e4, hF⟩ := bind_some hF
  obtain ⟨e7, rfl⟩ := app_some e4
  refine s_appendF hE hM goes_none (by decide) rfl rfl (hM.rd hv0_1) Try.underlying50 ty5 rfl (by decide) e7 ?_; intro u5 w a hM hE
  refine s_assign hE goes_none (by decide) rfl ?_; intro a hE
  refine c_fin ?_
  have hr := Option.some.inj hF
  subst hr
  exact wp_ret (k_ret1 hE rfl (res_tmp hE rfl) ⟨_, rfl, u5, rfl, hM.outF (locN1 locN0), hM.kept⟩)
noncomputable def L0_spec_l08Pad (s16 : (List UInt8)) : Option (Fl (List UInt8) (List UInt8)) :=
  if ((Int.tmod (s16.length : Int) 16) != 8) = true then ((app 1 s16 ([0] : List UInt8)).bind fun (l25 : (List UInt8)) => some (Fl.nx (s16 ++ ([0] : List UInt8)))) else (some (Fl.ex s16))
noncomputable def L1_spec_l08Pad (p0 : (List UInt8)) (s36 : (List UInt8) × Int) : Option (Fl ((List UInt8) × Int) (List UInt8)) :=
  if (decide (s36.2 ≥ 0)) = true then ((nonneg (IntKind.u64.wrap (wr (8 * s36.2)))).bind fun _ => (app 1 s36.1 ([byteI (andI (shrI (p0.length : Int) (IntKind.u64.wrap (wr (8 * s36.2)))) 255)] : List UInt8)).bind fun (l46 : (List UInt8)) => some (Fl.nx ((s36.1 ++ ([byteI (andI (shrI (p0.length : Int) (IntKind.u64.wrap (wr (8 * s36.2)))) 255)] : List UInt8)), wr (s36.2 - 1)))) else (some (Fl.ex s36.1))
noncomputable def F_spec_l08Pad (p0 : (List UInt8)) : Option ((List UInt8)) :=
  (F_spec_l01Copy p0).bind fun (r1 : (List UInt8)) => (app 1 r1 ([128] : List UInt8)).bind fun (l6 : (List UInt8)) => (iter (L0_spec_l08Pad) (r1 ++ ([128] : List UInt8)) : Option ((List UInt8))).bind fun (j11 : (List UInt8)) => (iter (L1_spec_l08Pad p0) (j11, 7) : Option ((List UInt8))).bind fun (j31 : (List UInt8)) => some j31
set_option maxRecDepth 20000 in
set_option maxHeartbeats 400000 in
theorem c_spec_l08Pad (w0 : World) (p0 : (List UInt8)) (v0_1 : Value) (hv0_1 : Ro w0 p0 [v0_1]) (r : (List UInt8)) (hF : F_spec_l08Pad p0 = some r) :
    Calls Try.prog 83 [v0_1].toArray w0 (fun en w' => ∃ v, en = .returned v ∧ (∃ (y1 : Value), v = y1 ∧ Fr w0 w' [osl NoB (r : List UInt8) y1] ∧ Kept (Old w0) w0 w')) := by
  refine c_enter (n := 32) Try.func83 rfl rfl (Nat.le_of_ble_eq_true rfl) rfl ?_
  intro a hE
  have hM := M.start w0
  unfold F_spec_l08Pad at hF
  refine c_region ?_
  refine s_assign hE goes_none (by decide) rfl ?_; intro a hE
  refine c_fin ?_
  refine c_region ?_
  refine s_move hE goes_none (by decide) rfl ?_; intro a hE
  obtain ⟨r1, e2, hF⟩ := bind_some hF
  refine s_call (vs := [v0_1]) hE goes_none (by decide) rfl cb50 (c_spec_l01Copy _ p0 v0_1 (hM.rdo hv0_1) r1 e2) ?_
  rintro u3 w a ⟨_, rfl, hFr, hK⟩ hE
  have hM := hM.add hK hFr
  refine s_buildF (xs := [.const (vB 128)]) (l := ([128] : List UInt8)) (vs := [(vB 128)]) hE hM goes_none (by decide) rfl rfl Try.underlying50 ty5 rfl (by decide) rfl ?_; intro u4 w a hM hE
  obtain ⟨l6, e7, hF⟩ := bind_some hF
  obtain ⟨e10, rfl⟩ := app_some e7
  have hM := hM.pull (pre := [_])
  refine s_appendF hE hM goes_none (by decide) rfl rfl (hM.sl (pre := [_]) noB) Try.underlying50 ty5 rfl (by decide) e10 ?_; intro u8 w a hM hE
  refine s_assign hE goes_none (by decide) rfl ?_; intro a hE
  refine c_fin ?_
  obtain ⟨j11, hl12, hF13⟩ := bind_some hF
  refine c_join (fun a w => ∃ (u14 : Value), Env 32 a [(0, v0_1), (3, u14)] ∧ M (Old w0) w0 w [osl NoB (j11 : List UInt8) u14]) ?_ ?_
  · skip
    refine wp_block ?_
    have hM := M.fst (l := [_]) hM
    refine c_loop (fun (s16 : (List UInt8)) a w => ∃ (u17 : Value), Env 32 a [(0, v0_1), (3, u17)] ∧ M (Old w0) w0 w [osl NoB (s16 : List UInt8) u17]) hl12 ⟨u8, hE.sub ⟨rfl, rfl, trivial⟩, hM⟩ ?_
    rintro s16 a w ⟨u17, hE, hM⟩ o21 hs19 hx20
    unfold L0_spec_l08Pad at hs19
    refine wp_seq ?_
    refine c_region ?_
    refine s_move hE goes_none (by decide) rfl ?_; intro a hE
    refine s_len hE goes_none (by decide) rfl Try.underlying50 (hM.sl (pre := []) noB) ?_; intro a hE
    refine s_int hE goes_none (by decide) rfl rfl (bI_rem _ _ (by decide)) ?_; intro a hE
    refine s_int hE goes_none (by decide) rfl rfl rfl ?_; intro a hE
    refine c_fin ?_
    refine c_cond hE rfl ?_ ?_
    · intro hb22
      have hs19 := ite_t hs19 hb22
      refine wp_skip ?_
      refine c_nx ?_
      refine wp_block ?_
      refine wp_region_lit ?_
      refine s_move hE goes_none (by decide) rfl ?_; intro a hE
      refine s_buildF (xs := [.const (vB 0)]) (l := ([0] : List UInt8)) (vs := [(vB 0)]) hE hM goes_none (by decide) rfl rfl Try.underlying50 ty5 rfl (by decide) rfl ?_; intro u23 w a hM hE
      obtain ⟨l25, e26, hs19⟩ := bind_some hs19
      obtain ⟨e29, rfl⟩ := app_some e26
      have hM := hM.pull (pre := [_])
      refine s_appendF hE hM goes_none (by decide) rfl rfl (hM.sl (pre := [_]) noB) Try.underlying50 ty5 rfl (by decide) e29 ?_; intro u27 w a hM hE
      refine s_assign hE goes_none (by decide) rfl ?_; intro a hE
      refine c_fin0 ?_
      refine c_nb ?_
      refine c_mid ?_
      have hM := M.fst (l := [_]) hM
      exact ⟨_, (Option.some.inj hs19).symm, u27, hE.sub ⟨rfl, rfl, trivial⟩, hM⟩
    · intro hb22
      have hs19 := ite_f hs19 hb22
      refine wp_exit (e_then (e_then (e_eq ?_)))
      have ht30 := hx20 _ (Option.some.inj hs19).symm
      subst ht30
      refine c_mid ?_
      exact ⟨u17, hE.sub ⟨rfl, rfl, trivial⟩, hM⟩
  · skip
    rintro a w ⟨u14, hE, hM⟩
    refine wp_seq ?_
    refine c_region ?_
    refine s_assign hE goes_none (by decide) rfl ?_; intro a hE
    refine c_fin ?_
    obtain ⟨j31, hl32, hF33⟩ := bind_some hF13
    refine c_cut (fun a w => ∃ (u34 : Value), Env 32 a [(3, u34)] ∧ M (Old w0) w0 w [osl NoB (j31 : List UInt8) u34]) ?_ ?_
    · skip
      refine wp_block ?_
      refine c_loop (fun (s36 : (List UInt8) × Int) a w => ∃ (u37 : Value), Env 32 a [(0, v0_1), (3, u37), (4, (vI s36.2))] ∧ M (Old w0) w0 w [osl NoB (s36.1 : List UInt8) u37]) hl32 ⟨u14, hE.sub ⟨rfl, rfl, rfl, trivial⟩, hM⟩ ?_
      rintro s36 a w ⟨u37, hE, hM⟩ o41 hs39 hx40
      unfold L1_spec_l08Pad at hs39
      refine wp_seq ?_
      refine c_region ?_
      refine s_move hE goes_none (by decide) rfl ?_; intro a hE
      refine s_int hE goes_none (by decide) rfl rfl rfl ?_; intro a hE
      refine c_fin ?_
      refine c_cond hE rfl ?_ ?_
      · intro hb42
        have hs39 := ite_t hs39 hb42
        refine wp_skip ?_
        refine c_nx ?_
        refine wp_seq ?_
        refine wp_block ?_
        refine wp_region_lit ?_
        refine s_move hE goes_none (by decide) rfl ?_; intro a hE
        refine s_move hE goes_none (by decide) rfl ?_; intro a hE
        refine s_len hE goes_none (by decide) rfl Try.underlying50 (hM.rd hv0_1) ?_; intro a hE
        refine s_move hE goes_none (by decide) rfl ?_; intro a hE
        refine s_int hE goes_none (by decide) rfl rfl rfl ?_; intro a hE
        refine s_conv hE goes_none (by decide) rfl Try.underlying3 Try.underlying134 ?_; intro a hE
        obtain ⟨_, e43, hs39⟩ := bind_some hs39
        have e43 := nonneg_some e43
        refine s_sh hE goes_none (by decide) rfl rfl (bI_shr _ _ e43) ?_; intro a hE
        refine s_int hE goes_none (by decide) rfl rfl rfl ?_; intro a hE
        refine s_conv hE goes_none (by decide) rfl Try.underlying3 Try.underlying5 ?_; intro a hE
        rw [byteI_val] at hE
        refine s_buildF (xs := [.tmp 28]) (l := ([byteI (andI (shrI (p0.length : Int) (IntKind.u64.wrap (wr (8 * s36.2)))) 255)] : List UInt8)) (vs := [(vB (byteI (andI (shrI (p0.length : Int) (IntKind.u64.wrap (wr (8 * s36.2)))) 255)))]) hE hM goes_none (by decide) rfl rfl Try.underlying50 ty5 rfl (by decide) rfl ?_; intro u44 w a hM hE
        obtain ⟨l46, e47, hs39⟩ := bind_some hs39
        obtain ⟨e50, rfl⟩ := app_some e47
        have hM := hM.pull (pre := [_])
        refine s_appendF hE hM goes_none (by decide) rfl rfl (hM.sl (pre := [_]) noB) Try.underlying50 ty5 rfl (by decide) e50 ?_; intro u48 w a hM hE
        refine s_assign hE goes_none (by decide) rfl ?_; intro a hE
        refine c_fin0 ?_
        refine c_nb ?_
        refine c_nx ?_
        refine wp_region_lit ?_
        refine s_move hE goes_none (by decide) rfl ?_; intro a hE
        refine s_int hE goes_none (by decide) rfl rfl rfl ?_; intro a hE
        refine s_assign hE goes_none (by decide) rfl ?_; intro a hE
        refine c_fin0 ?_
        refine c_mid ?_
        have hM := M.fst (l := [_]) hM
        exact ⟨_, (Option.some.inj hs39).symm, u48, hE.sub ⟨rfl, rfl, rfl, trivial⟩, hM⟩
      · intro hb42
        have hs39 := ite_f hs39 hb42
        refine wp_exit (e_then (e_then (e_eq ?_)))
        have ht51 := hx40 _ (Option.some.inj hs39).symm
        subst ht51
        refine c_mid ?_
        exact ⟨u37, hE.sub ⟨rfl, trivial⟩, hM⟩
    · skip
      rintro a w ⟨u34, hE, hM⟩
      refine c_nx ?_
      refine c_region ?_
      refine s_move hE goes_none (by decide) rfl ?_; intro a hE
      refine s_assign hE goes_none (by decide) rfl ?_; intro a hE
      refine c_fin ?_
      have hr := Option.some.inj hF33
      subst hr
      exact wp_ret (k_ret1 hE rfl (res_tmp hE rfl) ⟨_, rfl, u34, rfl, hM.outF (locN1 locN0), hM.kept⟩)
noncomputable def L1_spec_l01Blocks (p0 : (List UInt8)) (s8 : (List (Vector UInt8 16)) × Int) (s20 : (Vector UInt8 16) × Int) : Option (Fl ((Vector UInt8 16) × Int) (Vector UInt8 16)) :=
  if (decide (s20.2 < 16)) = true then ((idx p0 (wr (s8.2 + s20.2))).bind fun (x25 : UInt8) => (vidx s20.1 s20.2).bind fun (x29 : UInt8) => some (Fl.nx ((s20.1.setIfInBounds (s20.2).toNat x25), wr (s20.2 + 1)))) else (some (Fl.ex s20.1))
noncomputable def L0_spec_l01Blocks (p0 : (List UInt8)) (s8 : (List (Vector UInt8 16)) × Int) : Option (Fl ((List (Vector UInt8 16)) × Int) (List (Vector UInt8 16))) :=
  if (decide ((wr (s8.2 + 16)) ≤ (p0.length : Int))) = true then ((iter (L1_spec_l01Blocks p0 s8) ((Vector.replicate 16 (0 : UInt8)), 0) : Option ((Vector UInt8 16))).bind fun (j17 : (Vector UInt8 16)) => (app 16 s8.1 ([j17] : List (Vector UInt8 16))).bind fun (l34 : (List (Vector UInt8 16))) => some (Fl.nx ((s8.1 ++ ([j17] : List (Vector UInt8 16))), wr (s8.2 + 16)))) else (some (Fl.ex s8.1))
noncomputable def F_spec_l01Blocks (p0 : (List UInt8)) : Option ((List (Vector UInt8 16))) :=
  (iter (L0_spec_l01Blocks p0) (([] : List (Vector UInt8 16)), 0) : Option ((List (Vector UInt8 16)))).bind fun (j3 : (List (Vector UInt8 16))) => some j3
set_option maxRecDepth 20000 in
set_option maxHeartbeats 400000 in
theorem c_spec_l01Blocks (w0 : World) (p0 : (List UInt8)) (v0_1 : Value) (hv0_1 : Ro w0 p0 [v0_1]) (r : (List (Vector UInt8 16))) (hF : F_spec_l01Blocks p0 = some r) :
    Calls Try.prog 82 [v0_1].toArray w0 (fun en w' => ∃ v, en = .returned v ∧ (∃ (y1 : Value), v = y1 ∧ Fr w0 w' [osl NoB (r : List (Vector UInt8 16)) y1] ∧ Kept (Old w0) w0 w')) := by
  refine c_enter (n := 33) Try.func82 rfl rfl (Nat.le_of_ble_eq_true rfl) rfl ?_
  intro a hE
  have hM := M.start w0
  unfold F_spec_l01Blocks at hF
  refine c_region ?_
  refine s_assign hE goes_none (by decide) rfl ?_; intro a hE
  refine c_fin ?_
  refine c_region ?_
  refine s_buildF (xs := []) (l := ([] : List (Vector UInt8 16))) (vs := []) hE hM goes_none (by decide) rfl rfl Try.underlying34 ty39 rfl (by decide) rfl ?_; intro u1 w a hM hE
  refine s_assign hE goes_none (by decide) rfl ?_; intro a hE
  refine c_fin ?_
  refine wp_seq ?_
  refine c_region ?_
  refine s_assign hE goes_none (by decide) rfl ?_; intro a hE
  refine c_fin ?_
  obtain ⟨j3, hl4, hF5⟩ := bind_some hF
  refine c_cut (fun a w => ∃ (u6 : Value), Env 33 a [(3, u6)] ∧ M (Old w0) w0 w [osl NoB (j3 : List (Vector UInt8 16)) u6]) ?_ ?_
  · skip
    refine wp_block ?_
    refine c_loop (fun (s8 : (List (Vector UInt8 16)) × Int) a w => ∃ (u9 : Value), Env 33 a [(0, v0_1), (3, u9), (4, (vI s8.2))] ∧ M (Old w0) w0 w [osl NoB (s8.1 : List (Vector UInt8 16)) u9]) hl4 ⟨u1, hE.sub ⟨rfl, rfl, rfl, trivial⟩, hM⟩ ?_
    rintro s8 a w ⟨u9, hE, hM⟩ o13 hs11 hx12
    unfold L0_spec_l01Blocks at hs11
    refine wp_seq ?_
    refine c_region ?_
    refine s_move hE goes_none (by decide) rfl ?_; intro a hE
    refine s_int hE goes_none (by decide) rfl rfl rfl ?_; intro a hE
    refine s_move hE goes_none (by decide) rfl ?_; intro a hE
    refine s_len hE goes_none (by decide) rfl Try.underlying50 (hM.rd hv0_1) ?_; intro a hE
    refine s_int hE goes_none (by decide) rfl rfl rfl ?_; intro a hE
    refine c_fin ?_
    refine c_cond hE rfl ?_ ?_
    · intro hb14
      have hs11 := ite_t hs11 hb14
      refine wp_skip ?_
      refine c_nx ?_
      refine wp_seq ?_
      refine wp_block ?_
      refine c_region ?_
      refine s_buildA (parts := []) (vs := []) (cs := Flat.enc (Vector.replicate 16 (0 : UInt8))) hE goes_none (by decide) rfl rfl ty39 rfl ty5 filla_nil ?_; intro a hE
      refine s_alloc hE hM goes_none (by decide) ty39 ?_; intro b15 w a hM hE
      refine s_store (seg := Flat.enc (Vector.replicate 16 (0 : UInt8))) (cs' := Flat.enc (Vector.replicate 16 (0 : UInt8))) hE hM goes_none rfl rfl rfl ty39 (Flat.len _) (Nat.le_of_eq ((Nat.zero_add _).trans (Eq.trans (Flat.len _) (Eq.symm (Flat.len _))))) (Flat.cell _) (splice_all (Eq.trans (Flat.len _) (Eq.symm (Flat.len _)))) ?_; intro w a hM hE
      refine c_fin ?_
      refine wp_seq ?_
      refine c_region ?_
      refine s_assign hE goes_none (by decide) rfl ?_; intro a hE
      refine c_fin ?_
      obtain ⟨j17, hl18, hF19⟩ := bind_some hs11
      refine c_cut (fun a w => Env 33 a [(0, v0_1), (3, u9), (4, (vI s8.2)), (5, (ptr b15 0))] ∧ M (Old w0) w0 w [raw b15 (Flat.enc j17), osl NoB (s8.1 : List (Vector UInt8 16)) u9]) ?_ ?_
      · skip
        refine wp_block ?_
        refine c_loop (fun (s20 : (Vector UInt8 16) × Int) a w => Env 33 a [(0, v0_1), (3, u9), (4, (vI s8.2)), (5, (ptr b15 0)), (6, (vI s20.2))] ∧ M (Old w0) w0 w [raw b15 (Flat.enc s20.1), osl NoB (s8.1 : List (Vector UInt8 16)) u9]) hl18 ⟨hE.sub ⟨rfl, rfl, rfl, rfl, rfl, trivial⟩, hM⟩ ?_
        rintro s20 a w ⟨hE, hM⟩ o23 hs21 hx22
        unfold L1_spec_l01Blocks at hs21
        refine wp_seq ?_
        refine c_region ?_
        refine s_move hE goes_none (by decide) rfl ?_; intro a hE
        refine s_int hE goes_none (by decide) rfl rfl rfl ?_; intro a hE
        refine c_fin ?_
        refine c_cond hE rfl ?_ ?_
        · intro hb24
          have hs21 := ite_t hs21 hb24
          refine wp_skip ?_
          refine c_nx ?_
          refine wp_seq ?_
          refine wp_block ?_
          refine wp_region_lit ?_
          refine s_move hE goes_none (by decide) rfl ?_; intro a hE
          refine s_move hE goes_none (by decide) rfl ?_; intro a hE
          refine s_move hE goes_none (by decide) rfl ?_; intro a hE
          refine s_move hE goes_none (by decide) rfl ?_; intro a hE
          refine s_int hE goes_none (by decide) rfl rfl rfl ?_; intro a hE
          obtain ⟨x25, e26, hs21⟩ := bind_some hs21
          have hi27 := idx_some e26
          refine s_indexS hE goes_none (by decide) rfl rfl Try.underlying50 ty5 (hM.rd hv0_1) hi27.1 ?_; intro a hE
          refine s_load (v := (vB x25)) hE goes_none (by decide) rfl ty5 rfl (sl_atF (hM.rd hv0_1) hi27.2) ?_; intro a hE
          obtain ⟨x29, e30, hs21⟩ := bind_some hs21
          have hi28 := vidx_some e30
          refine s_indexA hE goes_none (by decide) rfl rfl Try.underlying39 ty5 hi28.1 ?_; intro a hE
          refine s_store (seg := [(vB x25)]) (cs' := Flat.enc (s20.1.setIfInBounds (s20.2).toNat x25)) hE hM goes_none rfl rfl rfl ty5 rfl (fit_vec (v := s20.1) (x := x25) hi28.1) (Flat.cell (x25 : UInt8)) (splice_vec0 (v := s20.1) (x := x25) hi28.1) ?_; intro w a hM hE
          refine c_fin0 ?_
          refine c_nb ?_
          refine c_nx ?_
          refine wp_region_lit ?_
          refine s_move hE goes_none (by decide) rfl ?_; intro a hE
          refine s_int hE goes_none (by decide) rfl rfl rfl ?_; intro a hE
          refine s_assign hE goes_none (by decide) rfl ?_; intro a hE
          refine c_fin0 ?_
          refine c_mid ?_
          exact ⟨_, (Option.some.inj hs21).symm, hE.sub ⟨rfl, rfl, rfl, rfl, rfl, trivial⟩, hM⟩
        · intro hb24
          have hs21 := ite_f hs21 hb24
          refine wp_exit (e_then (e_then (e_eq ?_)))
          have ht31 := hx22 _ (Option.some.inj hs21).symm
          subst ht31
          refine c_mid ?_
          exact ⟨hE.sub ⟨rfl, rfl, rfl, rfl, trivial⟩, hM⟩
      · skip
        rintro a w ⟨hE, hM⟩
        refine c_nx ?_
        refine wp_region_lit ?_
        refine s_move hE goes_none (by decide) rfl ?_; intro a hE
        refine s_loadA (cs := Flat.enc j17) hE goes_none (by decide) rfl ty39 rfl (hM.rawAt (pre := [])) (Flat.len _) ?_; intro a hE
        refine s_buildF (xs := [.tmp 29]) (l := ([j17] : List (Vector UInt8 16))) (vs := [(Value.agg (Flat.enc j17).toArray)]) hE hM goes_none (by decide) rfl rfl Try.underlying34 ty39 rfl (by decide) rfl ?_; intro u32 w a hM hE
        obtain ⟨l34, e35, hF19⟩ := bind_some hF19
        obtain ⟨e38, rfl⟩ := app_some e35
        have hM := hM.pull (pre := [_, _])
        refine s_appendF hE hM goes_none (by decide) rfl rfl (hM.sl (pre := [_]) noB) Try.underlying34 ty39 rfl (by decide) e38 ?_; intro u36 w a hM hE
        refine s_assign hE goes_none (by decide) rfl ?_; intro a hE
        refine c_fin0 ?_
        refine c_nb ?_
        refine c_nx ?_
        refine wp_region_lit ?_
        refine s_move hE goes_none (by decide) rfl ?_; intro a hE
        refine s_int hE goes_none (by decide) rfl rfl rfl ?_; intro a hE
        refine s_assign hE goes_none (by decide) rfl ?_; intro a hE
        refine c_fin0 ?_
        refine c_mid ?_
        have hM := M.fst (l := [_]) hM
        exact ⟨_, (Option.some.inj hF19).symm, u36, hE.sub ⟨rfl, rfl, rfl, trivial⟩, hM⟩
    · intro hb14
      have hs11 := ite_f hs11 hb14
      refine wp_exit (e_then (e_then (e_eq ?_)))
      have ht39 := hx12 _ (Option.some.inj hs11).symm
      subst ht39
      refine c_mid ?_
      exact ⟨u9, hE.sub ⟨rfl, trivial⟩, hM⟩
  · skip
    rintro a w ⟨u6, hE, hM⟩
    refine c_nx ?_
    refine c_region ?_
    refine s_move hE goes_none (by decide) rfl ?_; intro a hE
    refine s_assign hE goes_none (by decide) rfl ?_; intro a hE
    refine c_fin ?_
    have hr := Option.some.inj hF5
    subst hr
    exact wp_ret (k_ret1 hE rfl (res_tmp hE rfl) ⟨_, rfl, u6, rfl, hM.outF (locN1 locN0), hM.kept⟩)
noncomputable def L0_spec_l08Start (s8 : (Vector UInt8 32) × Int) : Option (Fl ((Vector UInt8 32) × Int) (Vector UInt8 32)) :=
  if (decide (s8.2 < 32)) = true then ((vidx s8.1 s8.2).bind fun (x14 : UInt8) => some (Fl.nx ((s8.1.setIfInBounds (s8.2).toNat (byteI (Int.tmod (wr (17 * s8.2)) 256))), wr (s8.2 + 1)))) else (some (Fl.ex s8.1))
noncomputable def F_spec_l08Start : Option ((Vector UInt8 32)) :=
  (iter (L0_spec_l08Start) ((Vector.replicate 32 (0 : UInt8)), 0) : Option ((Vector UInt8 32))).bind fun (j5 : (Vector UInt8 32)) => some j5
set_option maxRecDepth 20000 in
set_option maxHeartbeats 400000 in
theorem c_spec_l08Start (w0 : World)  (r : (Vector UInt8 32)) (hF : F_spec_l08Start  = some r) :
    Calls Try.prog 84 [].toArray w0 (fun en w' => ∃ v, en = .returned v ∧ (v = (Value.agg (Flat.enc r).toArray) ∧ Kept (Old w0) w0 w')) := by
  refine c_enter (n := 15) Try.func84 rfl rfl (Nat.le_of_ble_eq_true rfl) rfl ?_
  intro a hE
  have hM := M.start w0
  unfold F_spec_l08Start at hF
  refine c_region ?_
  refine s_alloc hE hM goes_none (by decide) ty25 ?_; intro b1 w a hM hE
  refine c_fin ?_
  refine c_region ?_
  refine s_buildA (parts := []) (vs := []) (cs := Flat.enc (Vector.replicate 32 (0 : UInt8))) hE goes_none (by decide) rfl rfl ty25 rfl ty5 filla_nil ?_; intro a hE
  refine s_alloc hE hM goes_none (by decide) ty25 ?_; intro b3 w a hM hE
  refine s_store (seg := Flat.enc (Vector.replicate 32 (0 : UInt8))) (cs' := Flat.enc (Vector.replicate 32 (0 : UInt8))) hE hM goes_none rfl rfl rfl ty25 (Flat.len _) (Nat.le_of_eq ((Nat.zero_add _).trans (Eq.trans (Flat.len _) (Eq.symm (Flat.len _))))) (Flat.cell _) (splice_all (Eq.trans (Flat.len _) (Eq.symm (Flat.len _)))) ?_; intro w a hM hE
  refine c_fin ?_
  refine wp_seq ?_
  refine c_region ?_
  refine s_assign hE goes_none (by decide) rfl ?_; intro a hE
  refine c_fin ?_
  obtain ⟨j5, hl6, hF7⟩ := bind_some hF
  refine c_cut (fun a w => Env 15 a [(0, (ptr b1 0)), (1, (ptr b3 0))] ∧ M (Old w0) w0 w [raw b3 (Flat.enc j5), raw b1 (Flat.enc (Vector.replicate 32 (0 : UInt8)))]) ?_ ?_
  · skip
    refine wp_block ?_
    refine c_loop (fun (s8 : (Vector UInt8 32) × Int) a w => Env 15 a [(0, (ptr b1 0)), (1, (ptr b3 0)), (2, (vI s8.2))] ∧ M (Old w0) w0 w [raw b3 (Flat.enc s8.1), raw b1 (Flat.enc (Vector.replicate 32 (0 : UInt8)))]) hl6 ⟨hE.sub ⟨rfl, rfl, rfl, trivial⟩, hM⟩ ?_
    rintro s8 a w ⟨hE, hM⟩ o11 hs9 hx10
    unfold L0_spec_l08Start at hs9
    refine wp_seq ?_
    refine c_region ?_
    refine s_move hE goes_none (by decide) rfl ?_; intro a hE
    refine s_int hE goes_none (by decide) rfl rfl rfl ?_; intro a hE
    refine c_fin ?_
    refine c_cond hE rfl ?_ ?_
    · intro hb12
      have hs9 := ite_t hs9 hb12
      refine wp_skip ?_
      refine c_nx ?_
      refine wp_seq ?_
      refine wp_block ?_
      refine wp_region_lit ?_
      refine s_move hE goes_none (by decide) rfl ?_; intro a hE
      refine s_move hE goes_none (by decide) rfl ?_; intro a hE
      refine s_int hE goes_none (by decide) rfl rfl rfl ?_; intro a hE
      refine s_int hE goes_none (by decide) rfl rfl (bI_rem _ _ (by decide)) ?_; intro a hE
      refine s_conv hE goes_none (by decide) rfl Try.underlying3 Try.underlying5 ?_; intro a hE
      rw [byteI_val] at hE
      obtain ⟨x14, e15, hs9⟩ := bind_some hs9
      have hi13 := vidx_some e15
      refine s_indexA hE goes_none (by decide) rfl rfl Try.underlying25 ty5 hi13.1 ?_; intro a hE
      refine s_store (seg := [(vB (byteI (Int.tmod (wr (17 * s8.2)) 256)))]) (cs' := Flat.enc (s8.1.setIfInBounds (s8.2).toNat (byteI (Int.tmod (wr (17 * s8.2)) 256)))) hE hM goes_none rfl rfl rfl ty5 rfl (fit_vec (v := s8.1) (x := byteI (Int.tmod (wr (17 * s8.2)) 256)) hi13.1) (Flat.cell (byteI (Int.tmod (wr (17 * s8.2)) 256) : UInt8)) (splice_vec0 (v := s8.1) (x := byteI (Int.tmod (wr (17 * s8.2)) 256)) hi13.1) ?_; intro w a hM hE
      refine c_fin0 ?_
      refine c_nb ?_
      refine c_nx ?_
      refine wp_region_lit ?_
      refine s_move hE goes_none (by decide) rfl ?_; intro a hE
      refine s_int hE goes_none (by decide) rfl rfl rfl ?_; intro a hE
      refine s_assign hE goes_none (by decide) rfl ?_; intro a hE
      refine c_fin0 ?_
      refine c_mid ?_
      exact ⟨_, (Option.some.inj hs9).symm, hE.sub ⟨rfl, rfl, rfl, trivial⟩, hM⟩
    · intro hb12
      have hs9 := ite_f hs9 hb12
      refine wp_exit (e_then (e_then (e_eq ?_)))
      have ht16 := hx10 _ (Option.some.inj hs9).symm
      subst ht16
      refine c_mid ?_
      exact ⟨hE.sub ⟨rfl, rfl, trivial⟩, hM⟩
  · skip
    rintro a w ⟨hE, hM⟩
    refine c_nx ?_
    refine c_region ?_
    refine s_loadA (cs := Flat.enc j5) hE goes_none (by decide) rfl ty25 rfl (hM.rawAt (pre := [])) (Flat.len _) ?_; intro a hE
    have hM := hM.pull (pre := [_])
    refine s_store (seg := Flat.enc j5) (cs' := Flat.enc j5) hE hM goes_none rfl rfl rfl ty25 (Flat.len _) (Nat.le_of_eq ((Nat.zero_add _).trans (Eq.trans (Flat.len _) (Eq.symm (Flat.len _))))) (Flat.cell _) (splice_all (Eq.trans (Flat.len _) (Eq.symm (Flat.len _)))) ?_; intro w a hM hE
    refine c_fin ?_
    have hr := Option.some.inj hF7
    subst hr
    have hq17 : ResIs Try.prog _ _ (.cell 0 25) _ := res_cell hE rfl ty25 rfl (hM.rawAt (pre := [])) (Flat.len _) rfl
    have hM := M.fst (l := []) hM
    exact wp_ret (k_ret1 hE rfl hq17 ⟨_, rfl, rfl, hM.kept⟩)
noncomputable def L0_spec_l08Halves (p0 : (Vector UInt8 32)) (s14 : (Vector UInt8 16) × (Vector UInt8 16) × Int) : Option (Fl ((Vector UInt8 16) × (Vector UInt8 16) × Int) ((Vector UInt8 16) × (Vector UInt8 16))) :=
  if (decide (s14.2.2 < 16)) = true then ((vidx p0 s14.2.2).bind fun (x20 : UInt8) => (vidx s14.2.1 s14.2.2).bind fun (x23 : UInt8) => (vidx p0 (wr (16 + s14.2.2))).bind fun (x26 : UInt8) => (vidx s14.1 s14.2.2).bind fun (x29 : UInt8) => some (Fl.nx ((s14.1.setIfInBounds (s14.2.2).toNat x26), (s14.2.1.setIfInBounds (s14.2.2).toNat x20), wr (s14.2.2 + 1)))) else (some (Fl.ex (s14.1, s14.2.1)))
noncomputable def F_spec_l08Halves (p0 : (Vector UInt8 32)) : Option ((Vector UInt8 16) × (Vector UInt8 16)) :=
  (iter (L0_spec_l08Halves p0) ((Vector.replicate 16 (0 : UInt8)), (Vector.replicate 16 (0 : UInt8)), 0) : Option ((Vector UInt8 16) × (Vector UInt8 16))).bind fun (j11 : (Vector UInt8 16) × (Vector UInt8 16)) => (some (j11.2, j11.1) : Option ((Vector UInt8 16) × (Vector UInt8 16))).bind fun (j32 : (Vector UInt8 16) × (Vector UInt8 16)) => some (j32.1, j32.2)
set_option maxRecDepth 20000 in
set_option maxHeartbeats 400000 in
theorem c_spec_l08Halves (w0 : World) (p0 : (Vector UInt8 32)) (r : (Vector UInt8 16) × (Vector UInt8 16)) (hF : F_spec_l08Halves p0 = some r) :
    Calls Try.prog 100 [(Value.agg (Flat.enc p0).toArray)].toArray w0 (fun en w' => ∃ v, en = .returned v ∧ (v = (Value.tuple [(Value.agg (Flat.enc r.1).toArray), (Value.agg (Flat.enc r.2).toArray)].toArray) ∧ Kept (Old w0) w0 w')) := by
  refine c_enter (n := 26) Try.func100 rfl rfl (Nat.le_of_ble_eq_true rfl) rfl ?_
  intro a hE
  have hM := M.start w0
  unfold F_spec_l08Halves at hF
  refine c_region ?_
  refine s_box (cs := Flat.enc p0) hE hM goes_none (by decide) rfl rfl ?_; intro b1 w a hM hE
  refine s_alloc hE hM goes_none (by decide) ty39 ?_; intro b3 w a hM hE
  refine s_alloc hE hM goes_none (by decide) ty39 ?_; intro b5 w a hM hE
  refine c_fin ?_
  refine c_region ?_
  refine s_buildA (parts := []) (vs := []) (cs := Flat.enc (Vector.replicate 16 (0 : UInt8))) hE goes_none (by decide) rfl rfl ty39 rfl ty5 filla_nil ?_; intro a hE
  refine s_buildA (parts := []) (vs := []) (cs := Flat.enc (Vector.replicate 16 (0 : UInt8))) hE goes_none (by decide) rfl rfl ty39 rfl ty5 filla_nil ?_; intro a hE
  refine s_alloc hE hM goes_none (by decide) ty39 ?_; intro b7 w a hM hE
  refine s_alloc hE hM goes_none (by decide) ty39 ?_; intro b9 w a hM hE
  have hM := hM.pull (pre := [_])
  refine s_store (seg := Flat.enc (Vector.replicate 16 (0 : UInt8))) (cs' := Flat.enc (Vector.replicate 16 (0 : UInt8))) hE hM goes_none rfl rfl rfl ty39 (Flat.len _) (Nat.le_of_eq ((Nat.zero_add _).trans (Eq.trans (Flat.len _) (Eq.symm (Flat.len _))))) (Flat.cell _) (splice_all (Eq.trans (Flat.len _) (Eq.symm (Flat.len _)))) ?_; intro w a hM hE
  have hM := hM.pull (pre := [_])
  refine s_store (seg := Flat.enc (Vector.replicate 16 (0 : UInt8))) (cs' := Flat.enc (Vector.replicate 16 (0 : UInt8))) hE hM goes_none rfl rfl rfl ty39 (Flat.len _) (Nat.le_of_eq ((Nat.zero_add _).trans (Eq.trans (Flat.len _) (Eq.symm (Flat.len _))))) (Flat.cell _) (splice_all (Eq.trans (Flat.len _) (Eq.symm (Flat.len _)))) ?_; intro w a hM hE
  refine c_fin ?_
  refine wp_seq ?_
  refine c_region ?_
  refine s_assign hE goes_none (by decide) rfl ?_; intro a hE
  refine c_fin ?_
  obtain ⟨j11, hl12, hF13⟩ := bind_some hF
  refine c_cut (fun a w => Env 26 a [(2, (ptr b3 0)), (3, (ptr b5 0)), (4, (ptr b7 0)), (5, (ptr b9 0))] ∧ M (Old w0) w0 w [raw b9 (Flat.enc j11.1), raw b7 (Flat.enc j11.2), raw b5 (Flat.enc (Vector.replicate 16 (0 : UInt8))), raw b3 (Flat.enc (Vector.replicate 16 (0 : UInt8)))]) ?_ ?_
  · skip
    refine wp_block ?_
    refine c_loop (fun (s14 : (Vector UInt8 16) × (Vector UInt8 16) × Int) a w => Env 26 a [(1, (ptr b1 0)), (2, (ptr b3 0)), (3, (ptr b5 0)), (4, (ptr b7 0)), (5, (ptr b9 0)), (6, (vI s14.2.2))] ∧ M (Old w0) w0 w [raw b9 (Flat.enc s14.1), raw b7 (Flat.enc s14.2.1), raw b5 (Flat.enc (Vector.replicate 16 (0 : UInt8))), raw b3 (Flat.enc (Vector.replicate 16 (0 : UInt8))), raw b1 (Flat.enc p0)]) hl12 ⟨hE.sub ⟨rfl, rfl, rfl, rfl, rfl, rfl, trivial⟩, hM⟩ ?_
    rintro s14 a w ⟨hE, hM⟩ o17 hs15 hx16
    unfold L0_spec_l08Halves at hs15
    refine wp_seq ?_
    refine c_region ?_
    refine s_move hE goes_none (by decide) rfl ?_; intro a hE
    refine s_int hE goes_none (by decide) rfl rfl rfl ?_; intro a hE
    refine c_fin ?_
    refine c_cond hE rfl ?_ ?_
    · intro hb18
      have hs15 := ite_t hs15 hb18
      refine wp_skip ?_
      refine c_nx ?_
      refine wp_seq ?_
      refine wp_block ?_
      refine c_region ?_
      refine s_move hE goes_none (by decide) rfl ?_; intro a hE
      refine s_move hE goes_none (by decide) rfl ?_; intro a hE
      obtain ⟨x20, e21, hs15⟩ := bind_some hs15
      have hi19 := vidx_some e21
      refine s_indexA hE goes_none (by decide) rfl rfl Try.underlying25 ty5 hi19.1 ?_; intro a hE
      refine s_load (v := (vB x20)) hE goes_none (by decide) rfl ty5 rfl (At.vec (hM.rawAt (pre := [_, _, _, _])) hi19.2) ?_; intro a hE
      obtain ⟨x23, e24, hs15⟩ := bind_some hs15
      have hi22 := vidx_some e24
      refine s_indexA hE goes_none (by decide) rfl rfl Try.underlying39 ty5 hi22.1 ?_; intro a hE
      have hM := hM.pull (pre := [_])
      refine s_store (seg := [(vB x20)]) (cs' := Flat.enc (s14.2.1.setIfInBounds (s14.2.2).toNat x20)) hE hM goes_none rfl rfl rfl ty5 rfl (fit_vec (v := s14.2.1) (x := x20) hi22.1) (Flat.cell (x20 : UInt8)) (splice_vec0 (v := s14.2.1) (x := x20) hi22.1) ?_; intro w a hM hE
      refine c_fin ?_
      refine wp_region_lit ?_
      refine s_move hE goes_none (by decide) rfl ?_; intro a hE
      refine s_move hE goes_none (by decide) rfl ?_; intro a hE
      refine s_int hE goes_none (by decide) rfl rfl rfl ?_; intro a hE
      obtain ⟨x26, e27, hs15⟩ := bind_some hs15
      have hi25 := vidx_some e27
      refine s_indexA hE goes_none (by decide) rfl rfl Try.underlying25 ty5 hi25.1 ?_; intro a hE
      refine s_load (v := (vB x26)) hE goes_none (by decide) rfl ty5 rfl (At.vec (hM.rawAt (pre := [_, _, _, _])) hi25.2) ?_; intro a hE
      obtain ⟨x29, e30, hs15⟩ := bind_some hs15
      have hi28 := vidx_some e30
      refine s_indexA hE goes_none (by decide) rfl rfl Try.underlying39 ty5 hi28.1 ?_; intro a hE
      have hM := hM.pull (pre := [_])
      refine s_store (seg := [(vB x26)]) (cs' := Flat.enc (s14.1.setIfInBounds (s14.2.2).toNat x26)) hE hM goes_none rfl rfl rfl ty5 rfl (fit_vec (v := s14.1) (x := x26) hi28.1) (Flat.cell (x26 : UInt8)) (splice_vec0 (v := s14.1) (x := x26) hi28.1) ?_; intro w a hM hE
      refine c_fin0 ?_
      refine c_nb ?_
      refine c_nx ?_
      refine wp_region_lit ?_
      refine s_move hE goes_none (by decide) rfl ?_; intro a hE
      refine s_int hE goes_none (by decide) rfl rfl rfl ?_; intro a hE
      refine s_assign hE goes_none (by decide) rfl ?_; intro a hE
      refine c_fin0 ?_
      refine c_mid ?_
      exact ⟨_, (Option.some.inj hs15).symm, hE.sub ⟨rfl, rfl, rfl, rfl, rfl, rfl, trivial⟩, hM⟩
    · intro hb18
      have hs15 := ite_f hs15 hb18
      refine wp_exit (e_then (e_then (e_eq ?_)))
      have ht31 := hx16 _ (Option.some.inj hs15).symm
      subst ht31
      refine c_mid ?_
      have hM := hM.pull (pre := [_, _, _])
      have hM := hM.pull (pre := [_, _, _])
      have hM := hM.pull (pre := [_, _, _])
      have hM := hM.pull (pre := [_, _, _])
      have hM := M.fst (l := [_, _, _, _]) hM
      exact ⟨hE.sub ⟨rfl, rfl, rfl, rfl, trivial⟩, hM⟩
  · skip
    rintro a w ⟨hE, hM⟩
    refine c_nx ?_
    obtain ⟨j32, hl33, hF34⟩ := bind_some hF13
    refine c_join (fun a w => Env 26 a [(2, (ptr b3 0)), (3, (ptr b5 0))] ∧ M (Old w0) w0 w [raw b5 (Flat.enc j32.2), raw b3 (Flat.enc j32.1)]) ?_ ?_
    · skip
      have hM := hM.pull (pre := [_, _, _])
      refine c_draw3 (n := 26) (hd := [_, _, _]) (tl := [_]) hmix rfl rfl [24, 25, 28] (by decide) (fun D u w => M (Old w0) w0 w ([raw b9 (Flat.enc j11.1), raw b7 (Flat.enc j11.2), raw b5 (Flat.enc (Vector.replicate 16 (0 : UInt8)))] ++ qL ([mkT 2 (raw b3 (Flat.enc (Vector.replicate 16 (0 : UInt8)))) (raw b3 (Flat.enc j11.2))] : Mk) D u) ∧ GOk ([([], fun us v => v = (Value.agg (Flat.enc j11.2).toArray)), ([], fun us v => v = (Value.agg (Flat.enc j11.1).toArray)), ([], fun us v => True)] : Gs) D u) hE (fun u => ⟨M.qT (M.q0 hM.drew u), gok0⟩) (steps_of (steps_cons ?_ (steps_cons ?_ (steps_cons ?_ steps_nil)))) ?_
      · intro a w ux35 D hE hI hD hdc hp
        have hM0 := hI.1
        have hM : M (Old w0) w0 w [raw b9 (Flat.enc j11.1), raw b7 (Flat.enc j11.2), raw b5 (Flat.enc (Vector.replicate 16 (0 : UInt8))), tog (D 2) (raw b3 (Flat.enc (Vector.replicate 16 (0 : UInt8)))) (raw b3 (Flat.enc j11.2))] := hI.1
        have hM := hM.togA (pre := [_, _, _]) (Bool.eq_false_iff.2 fun hx => Bool.noConfusion (hD.symm.trans (hdc 2 _ _ rfl (List.mem_of_getElem? (i := 0) rfl) rfl hx)))
        refine s_loadA (cs := Flat.enc j11.2) hE goes_none (by decide) rfl ty39 rfl (hM.rawAt (pre := [_])) (Flat.len _) ?_; intro a hE
        exact ⟨_, _, rfl, hE, M.qKeep hM0 rfl, hI.2.put hD rfl allN rfl⟩
      · intro a w ux35 D hE hI hD hdc hp
        have hM0 := hI.1
        have hM : M (Old w0) w0 w [raw b9 (Flat.enc j11.1), raw b7 (Flat.enc j11.2), raw b5 (Flat.enc (Vector.replicate 16 (0 : UInt8))), tog (D 2) (raw b3 (Flat.enc (Vector.replicate 16 (0 : UInt8)))) (raw b3 (Flat.enc j11.2))] := hI.1
        refine s_loadA (cs := Flat.enc j11.1) hE goes_none (by decide) rfl ty39 rfl (hM.rawAt (pre := [])) (Flat.len _) ?_; intro a hE
        exact ⟨_, _, rfl, hE, M.qKeep hM0 rfl, hI.2.put hD rfl allN rfl⟩
      · intro a w ux35 D hE hI hD hdc hp
        have d0 : D 0 = true := hp 0 _ rfl rfl
        have g0 := hI.2 0 d0 _ rfl
        have f0 : ux35 0 = (Value.agg (Flat.enc j11.2).toArray) := g0.2
        have hM0 := hI.1
        have hM : M (Old w0) w0 w [raw b9 (Flat.enc j11.1), raw b7 (Flat.enc j11.2), raw b5 (Flat.enc (Vector.replicate 16 (0 : UInt8))), tog (D 2) (raw b3 (Flat.enc (Vector.replicate 16 (0 : UInt8)))) (raw b3 (Flat.enc j11.2))] := hI.1
        have hM := hM.togA (pre := [_, _, _]) hD
        have hM := hM.pull (pre := [_, _, _])
        refine s_store (seg := Flat.enc j11.2) (cs' := Flat.enc j11.2) hE hM goes_none rfl (lk rfl f0) rfl ty39 (Flat.len _) (Nat.le_of_eq ((Nat.zero_add _).trans (Eq.trans (Flat.len _) (Eq.symm (Flat.len _))))) (Flat.cell _) (splice_all (Eq.trans (Flat.len _) (Eq.symm (Flat.len _)))) ?_; intro w a hM hE
        exact ⟨undef, _, rfl, Env.dummy hE (by decide), M.qTog (mk1 := []) (mk2 := []) hM rfl, hI.2.put hD rfl allN trivial⟩
      · intro a w ux35 D hE hI hall
        have hM : M (Old w0) w0 w [raw b9 (Flat.enc j11.1), raw b7 (Flat.enc j11.2), raw b5 (Flat.enc (Vector.replicate 16 (0 : UInt8))), tog (D 2) (raw b3 (Flat.enc (Vector.replicate 16 (0 : UInt8)))) (raw b3 (Flat.enc j11.2))] := hI.1
        have d0 : D 0 = true := hall 0 (by decide)
        have d1 : D 1 = true := hall 1 (by decide)
        have d2 : D 2 = true := hall 2 (by decide)
        have f0 : ux35 0 = (Value.agg (Flat.enc j11.2).toArray) := (hI.2 0 d0 _ rfl).2
        have f1 : ux35 1 = (Value.agg (Flat.enc j11.1).toArray) := (hI.2 1 d1 _ rfl).2
        have hM := hM.togB (pre := [_, _, _]) d2
        have hE := hE.sub (e' := [(24, (Value.agg (Flat.enc j11.2).toArray)), (25, (Value.agg (Flat.enc j11.1).toArray)), (2, (ptr b3 0)), (3, (ptr b5 0)), (4, (ptr b7 0)), (5, (ptr b9 0))]) ⟨lk rfl f0, lk rfl f1, rfl, rfl, rfl, rfl, trivial⟩
        have hM := hM.pull (pre := [_, _])
        refine s_store (seg := Flat.enc j11.1) (cs' := Flat.enc j11.1) hE hM goes_none rfl rfl rfl ty39 (Flat.len _) (Nat.le_of_eq ((Nat.zero_add _).trans (Eq.trans (Flat.len _) (Eq.symm (Flat.len _))))) (Flat.cell _) (splice_all (Eq.trans (Flat.len _) (Eq.symm (Flat.len _)))) ?_; intro w a hM hE
        refine c_fin0 ?_
        have ht36 := Option.some.inj hl33
        subst ht36
        refine c_mid ?_
        have hM := hM.pull (pre := [_, _, _])
        have hM := hM.pull (pre := [_])
        have hM := M.fst (l := [_, _]) hM
        exact ⟨hE.sub ⟨rfl, rfl, trivial⟩, hM⟩
    · skip
      rintro a w ⟨hE, hM⟩
      have hr := Option.some.inj hF34
      subst hr
      have hq37 : ResIs Try.prog _ _ (.cell 2 39) _ := res_cell hE rfl ty39 rfl (hM.rawAt (pre := [_])) (Flat.len _) rfl
      have hq38 : ResIs Try.prog _ _ (.cell 3 39) _ := res_cell hE rfl ty39 rfl (hM.rawAt (pre := [])) (Flat.len _) rfl
      have hM := M.fst (l := []) hM
      exact wp_ret (k_ret2 hE rfl hq37 hq38 ⟨_, rfl, rfl, hM.kept⟩)
noncomputable def L0_spec_l01Xor (p1 : (Vector UInt8 16)) (s10 : (Vector UInt8 16) × Int) : Option (Fl ((Vector UInt8 16) × Int) (Vector UInt8 16)) :=
  if (decide (s10.2 < 16)) = true then ((vidx s10.1 s10.2).bind fun (x17 : UInt8) => (vidx p1 s10.2).bind fun (x20 : UInt8) => (vidx s10.1 s10.2).bind fun (x23 : UInt8) => some (Fl.nx ((s10.1.setIfInBounds (s10.2).toNat (x17 ^^^ x20)), wr (s10.2 + 1)))) else (some (Fl.ex s10.1))
noncomputable def F_spec_l01Xor (p0 : (Vector UInt8 16)) (p1 : (Vector UInt8 16)) : Option ((Vector UInt8 16)) :=
  (iter (L0_spec_l01Xor p1) (p0, 0) : Option ((Vector UInt8 16))).bind fun (j7 : (Vector UInt8 16)) => some j7
set_option maxRecDepth 20000 in
set_option maxHeartbeats 400000 in
theorem c_spec_l01Xor (w0 : World) (p0 : (Vector UInt8 16)) (p1 : (Vector UInt8 16)) (r : (Vector UInt8 16)) (hF : F_spec_l01Xor p0 p1 = some r) :
    Calls Try.prog 101 [(Value.agg (Flat.enc p0).toArray), (Value.agg (Flat.enc p1).toArray)].toArray w0 (fun en w' => ∃ v, en = .returned v ∧ (v = (Value.agg (Flat.enc r).toArray) ∧ Kept (Old w0) w0 w')) := by
  refine c_enter (n := 20) Try.func101 rfl rfl (Nat.le_of_ble_eq_true rfl) rfl ?_
  intro a hE
  have hM := M.start w0
  unfold F_spec_l01Xor at hF
  refine c_region ?_
  refine s_box (cs := Flat.enc p0) hE hM goes_none (by decide) rfl rfl ?_; intro b1 w a hM hE
  refine s_box (cs := Flat.enc p1) hE hM goes_none (by decide) rfl rfl ?_; intro b3 w a hM hE
  refine s_alloc hE hM goes_none (by decide) ty39 ?_; intro b5 w a hM hE
  refine c_fin ?_
  refine wp_seq ?_
  refine c_region ?_
  refine s_assign hE goes_none (by decide) rfl ?_; intro a hE
  refine c_fin ?_
  obtain ⟨j7, hl8, hF9⟩ := bind_some hF
  refine c_cut (fun a w => Env 20 a [(2, (ptr b1 0)), (4, (ptr b5 0))] ∧ M (Old w0) w0 w [raw b5 (Flat.enc (Vector.replicate 16 (0 : UInt8))), raw b1 (Flat.enc j7)]) ?_ ?_
  · skip
    refine wp_block ?_
    refine c_loop (fun (s10 : (Vector UInt8 16) × Int) a w => Env 20 a [(2, (ptr b1 0)), (3, (ptr b3 0)), (4, (ptr b5 0)), (5, (vI s10.2))] ∧ M (Old w0) w0 w [raw b5 (Flat.enc (Vector.replicate 16 (0 : UInt8))), raw b3 (Flat.enc p1), raw b1 (Flat.enc s10.1)]) hl8 ⟨hE.sub ⟨rfl, rfl, rfl, rfl, trivial⟩, hM⟩ ?_
    rintro s10 a w ⟨hE, hM⟩ o13 hs11 hx12
    unfold L0_spec_l01Xor at hs11
    refine wp_seq ?_
    refine c_region ?_
    refine s_move hE goes_none (by decide) rfl ?_; intro a hE
    refine s_int hE goes_none (by decide) rfl rfl rfl ?_; intro a hE
    refine c_fin ?_
    refine c_cond hE rfl ?_ ?_
    · intro hb14
      have hs11 := ite_t hs11 hb14
      refine wp_skip ?_
      refine c_nx ?_
      refine wp_seq ?_
      refine wp_block ?_
      obtain ⟨x17, e18, hs11⟩ := bind_some hs11
      have hi16 := vidx_some e18
      obtain ⟨x20, e21, hs11⟩ := bind_some hs11
      have hi19 := vidx_some e21
      obtain ⟨x23, e24, hs11⟩ := bind_some hs11
      have hi22 := vidx_some e24
      refine c_draw (n := 20) (hd := [_, _, _, _, _, _, _, _, _]) (tl := [_]) hmix rfl rfl [10, 11, 12, 13, 14, 15, 16, 17, 18] (by decide) (fun w => M (Old w0) w0 w [raw b5 (Flat.enc (Vector.replicate 16 (0 : UInt8))), raw b3 (Flat.enc p1), raw b1 (Flat.enc s10.1)]) (fun j => ([fun v _ => v = (vI s10.2), fun v _ => v = (vI s10.2), fun v _ => v = (ptr b1 (0 + (s10.2).toNat * 1)), fun v _ => v = (vB x17), fun v _ => v = (vI s10.2), fun v _ => v = (ptr b3 (0 + (s10.2).toNat * 1)), fun v _ => v = (vB x20), fun v _ => v = (vB (x17 ^^^ x20)), fun v _ => v = (ptr b1 (0 + (s10.2).toNat * 1))] : List (Value → World → Prop)).getD j (fun _ _ => True)) (fun _ _ h hk => h.keep hk) (gup (gupE (gupE (gupE (gupE (gupE (gupE (gupE (gupE (gupE gupN)))))))))) hE hM.drew (steps_of (steps_cons ?_ (steps_cons ?_ (steps_cons ?_ (steps_cons ?_ (steps_cons ?_ (steps_cons ?_ (steps_cons ?_ (steps_cons ?_ (steps_cons ?_ steps_nil)))))))))) ?_
      · intro a w ux15 hE hM hp
        refine s_move hE goes_none (by decide) rfl ?_; intro a hE
        exact ⟨Kept.refl _ _, _, _, rfl, hE, rfl⟩
      · intro a w ux15 hE hM hp
        refine s_move hE goes_none (by decide) rfl ?_; intro a hE
        exact ⟨Kept.refl _ _, _, _, rfl, hE, rfl⟩
      · intro a w ux15 hE hM hp
        have f1 : ux15 1 = (vI s10.2) := hp 0 _ rfl rfl
        refine s_indexA hE goes_none (by decide) rfl (lk rfl f1) Try.underlying39 ty5 hi16.1 ?_; intro a hE
        exact ⟨Kept.refl _ _, _, _, rfl, hE, rfl⟩
      · intro a w ux15 hE hM hp
        have f2 : ux15 2 = (ptr b1 (0 + (s10.2).toNat * 1)) := hp 0 _ rfl rfl
        refine s_load (v := (vB x17)) hE goes_none (by decide) (lk rfl f2) ty5 rfl (At.vec (hM.rawAt (pre := [_, _])) hi16.2) ?_; intro a hE
        exact ⟨Kept.refl _ _, _, _, rfl, hE, rfl⟩
      · intro a w ux15 hE hM hp
        refine s_move hE goes_none (by decide) rfl ?_; intro a hE
        exact ⟨Kept.refl _ _, _, _, rfl, hE, rfl⟩
      · intro a w ux15 hE hM hp
        have f4 : ux15 4 = (vI s10.2) := hp 0 _ rfl rfl
        refine s_indexA hE goes_none (by decide) rfl (lk rfl f4) Try.underlying39 ty5 hi19.1 ?_; intro a hE
        exact ⟨Kept.refl _ _, _, _, rfl, hE, rfl⟩
      · intro a w ux15 hE hM hp
        have f5 : ux15 5 = (ptr b3 (0 + (s10.2).toNat * 1)) := hp 0 _ rfl rfl
        refine s_load (v := (vB x20)) hE goes_none (by decide) (lk rfl f5) ty5 rfl (At.vec (hM.rawAt (pre := [_])) hi19.2) ?_; intro a hE
        exact ⟨Kept.refl _ _, _, _, rfl, hE, rfl⟩
      · intro a w ux15 hE hM hp
        have f3 : ux15 3 = (vB x17) := hp 0 _ rfl rfl
        have f6 : ux15 6 = (vB x20) := hp 1 _ rfl rfl
        refine s_int hE goes_none (by decide) (lk rfl f3) (lk rfl f6) (bB_xor x17 x20) ?_; intro a hE
        exact ⟨Kept.refl _ _, _, _, rfl, hE, rfl⟩
      · intro a w ux15 hE hM hp
        have f0 : ux15 0 = (vI s10.2) := hp 0 _ rfl rfl
        refine s_indexA hE goes_none (by decide) rfl (lk rfl f0) Try.underlying39 ty5 hi22.1 ?_; intro a hE
        exact ⟨Kept.refl _ _, _, _, rfl, hE, rfl⟩
      · intro a w ux15 hE hM hg
        have f0 : ux15 0 = (vI s10.2) := hg 0 (by decide)
        have f1 : ux15 1 = (vI s10.2) := hg 1 (by decide)
        have f2 : ux15 2 = (ptr b1 (0 + (s10.2).toNat * 1)) := hg 2 (by decide)
        have f3 : ux15 3 = (vB x17) := hg 3 (by decide)
        have f4 : ux15 4 = (vI s10.2) := hg 4 (by decide)
        have f5 : ux15 5 = (ptr b3 (0 + (s10.2).toNat * 1)) := hg 5 (by decide)
        have f6 : ux15 6 = (vB x20) := hg 6 (by decide)
        have f7 : ux15 7 = (vB (x17 ^^^ x20)) := hg 7 (by decide)
        have f8 : ux15 8 = (ptr b1 (0 + (s10.2).toNat * 1)) := hg 8 (by decide)
        have hE := hE.sub (e' := [(10, (vI s10.2)), (11, (vI s10.2)), (12, (ptr b1 (0 + (s10.2).toNat * 1))), (13, (vB x17)), (14, (vI s10.2)), (15, (ptr b3 (0 + (s10.2).toNat * 1))), (16, (vB x20)), (17, (vB (x17 ^^^ x20))), (18, (ptr b1 (0 + (s10.2).toNat * 1))), (2, (ptr b1 0)), (3, (ptr b3 0)), (4, (ptr b5 0)), (5, (vI s10.2)), (6, (vI s10.2)), (7, (vT (decide (s10.2 < 16))))]) ⟨lk rfl f0, lk rfl f1, lk rfl f2, lk rfl f3, lk rfl f4, lk rfl f5, lk rfl f6, lk rfl f7, lk rfl f8, rfl, rfl, rfl, rfl, rfl, rfl, trivial⟩
        have hM := hM.pull (pre := [_, _])
        refine s_store (seg := [(vB (x17 ^^^ x20))]) (cs' := Flat.enc (s10.1.setIfInBounds (s10.2).toNat (x17 ^^^ x20))) hE hM goes_none rfl rfl rfl ty5 rfl (fit_vec (v := s10.1) (x := x17 ^^^ x20) hi22.1) (Flat.cell (x17 ^^^ x20 : UInt8)) (splice_vec0 (v := s10.1) (x := x17 ^^^ x20) hi22.1) ?_; intro w a hM hE
        refine c_fin0 ?_
        refine c_nb ?_
        refine c_nx ?_
        refine wp_region_lit ?_
        refine s_move hE goes_none (by decide) rfl ?_; intro a hE
        refine s_int hE goes_none (by decide) rfl rfl rfl ?_; intro a hE
        refine s_assign hE goes_none (by decide) rfl ?_; intro a hE
        refine c_fin0 ?_
        refine c_mid ?_
        have hM := hM.pull (pre := [_, _])
        have hM := hM.pull (pre := [_, _])
        exact ⟨_, (Option.some.inj hs11).symm, hE.sub ⟨rfl, rfl, rfl, rfl, trivial⟩, hM⟩
    · intro hb14
      have hs11 := ite_f hs11 hb14
      refine wp_exit (e_then (e_then (e_eq ?_)))
      have ht25 := hx12 _ (Option.some.inj hs11).symm
      subst ht25
      refine c_mid ?_
      have hM := hM.pull (pre := [_, _])
      have hM := hM.pull (pre := [_])
      have hM := M.fst (l := [_, _]) hM
      exact ⟨hE.sub ⟨rfl, rfl, trivial⟩, hM⟩
  · skip
    rintro a w ⟨hE, hM⟩
    refine c_nx ?_
    refine c_region ?_
    refine s_loadA (cs := Flat.enc j7) hE goes_none (by decide) rfl ty39 rfl (hM.rawAt (pre := [_])) (Flat.len _) ?_; intro a hE
    refine s_store (seg := Flat.enc j7) (cs' := Flat.enc j7) hE hM goes_none rfl rfl rfl ty39 (Flat.len _) (Nat.le_of_eq ((Nat.zero_add _).trans (Eq.trans (Flat.len _) (Eq.symm (Flat.len _))))) (Flat.cell _) (splice_all (Eq.trans (Flat.len _) (Eq.symm (Flat.len _)))) ?_; intro w a hM hE
    refine c_fin ?_
    have hr := Option.some.inj hF9
    subst hr
    have hq26 : ResIs Try.prog _ _ (.cell 4 39) _ := res_cell hE rfl ty39 rfl (hM.rawAt (pre := [])) (Flat.len _) rfl
    have hM := M.fst (l := []) hM
    exact wp_ret (k_ret1 hE rfl hq26 ⟨_, rfl, rfl, hM.kept⟩)
noncomputable def L0_spec_l04Next (p0 : (Vector UInt8 256)) (p2 : Int) (s10 : (Vector UInt8 16) × Int) : Option (Fl ((Vector UInt8 16) × Int) (Vector UInt8 16)) :=
  if (decide (s10.2 < 16)) = true then (((vidx s10.1 (Int.tmod (wr (s10.2 + 15)) 16)).bind fun (x19 : UInt8) => (if (s10.2 == 0) = true then (some (x19 ^^^ (byteI p2))) else (some x19) : Option (UInt8)).bind fun (j21 : UInt8) => (vidx s10.1 s10.2).bind fun (x29 : UInt8) => (vidx p0 (bI j21)).bind fun (x32 : UInt8) => (vidx s10.1 s10.2).bind fun (x35 : UInt8) => some (s10.1.setIfInBounds (s10.2).toNat (x29 ^^^ x32)) : Option ((Vector UInt8 16))).bind fun (j15 : (Vector UInt8 16)) => some (Fl.nx (j15, wr (s10.2 + 1)))) else (some (Fl.ex s10.1))
noncomputable def F_spec_l04Next (p0 : (Vector UInt8 256)) (p1 : (Vector UInt8 16)) (p2 : Int) : Option ((Vector UInt8 16)) :=
  (iter (L0_spec_l04Next p0 p2) (p1, 0) : Option ((Vector UInt8 16))).bind fun (j7 : (Vector UInt8 16)) => some j7
set_option maxRecDepth 20000 in
set_option maxHeartbeats 400000 in
theorem c_spec_l04Next (w0 : World) (p0 : (Vector UInt8 256)) (p1 : (Vector UInt8 16)) (p2 : Int) (r : (Vector UInt8 16)) (hF : F_spec_l04Next p0 p1 p2 = some r) :
    Calls Try.prog 131 [(Value.agg (Flat.enc p0).toArray), (Value.agg (Flat.enc p1).toArray), (vI p2)].toArray w0 (fun en w' => ∃ v, en = .returned v ∧ (v = (Value.agg (Flat.enc r).toArray) ∧ Kept (Old w0) w0 w')) := by
  refine c_enter (n := 34) Try.func131 rfl rfl (Nat.le_of_ble_eq_true rfl) rfl ?_
  intro a hE
  have hM := M.start w0
  unfold F_spec_l04Next at hF
  refine c_region ?_
  refine s_box (cs := Flat.enc p0) hE hM goes_none (by decide) rfl rfl ?_; intro b1 w a hM hE
  refine s_box (cs := Flat.enc p1) hE hM goes_none (by decide) rfl rfl ?_; intro b3 w a hM hE
  refine s_alloc hE hM goes_none (by decide) ty39 ?_; intro b5 w a hM hE
  refine c_fin ?_
  refine wp_seq ?_
  refine c_region ?_
  refine s_assign hE goes_none (by decide) rfl ?_; intro a hE
  refine c_fin ?_
  obtain ⟨j7, hl8, hF9⟩ := bind_some hF
  refine c_cut (fun a w => Env 34 a [(4, (ptr b3 0)), (6, (ptr b5 0))] ∧ M (Old w0) w0 w [raw b5 (Flat.enc (Vector.replicate 16 (0 : UInt8))), raw b3 (Flat.enc j7)]) ?_ ?_
  · skip
    refine wp_block ?_
    refine c_loop (fun (s10 : (Vector UInt8 16) × Int) a w => Env 34 a [(2, (vI p2)), (3, (ptr b1 0)), (4, (ptr b3 0)), (6, (ptr b5 0)), (7, (vI s10.2))] ∧ M (Old w0) w0 w [raw b5 (Flat.enc (Vector.replicate 16 (0 : UInt8))), raw b3 (Flat.enc s10.1), raw b1 (Flat.enc p0)]) hl8 ⟨hE.sub ⟨rfl, rfl, rfl, rfl, rfl, trivial⟩, hM⟩ ?_
    rintro s10 a w ⟨hE, hM⟩ o13 hs11 hx12
    unfold L0_spec_l04Next at hs11
    refine wp_seq ?_
    refine c_region ?_
    refine s_move hE goes_none (by decide) rfl ?_; intro a hE
    refine s_int hE goes_none (by decide) rfl rfl rfl ?_; intro a hE
    refine c_fin ?_
    refine c_cond hE rfl ?_ ?_
    · intro hb14
      have hs11 := ite_t hs11 hb14
      refine wp_skip ?_
      refine c_nx ?_
      obtain ⟨j15, hl16, hF17⟩ := bind_some hs11
      refine c_join (fun a w => Env 34 a [(2, (vI p2)), (3, (ptr b1 0)), (4, (ptr b3 0)), (6, (ptr b5 0)), (7, (vI s10.2))] ∧ M (Old w0) w0 w [raw b5 (Flat.enc (Vector.replicate 16 (0 : UInt8))), raw b3 (Flat.enc j15), raw b1 (Flat.enc p0)]) ?_ ?_
      · skip
        refine wp_block ?_
        refine c_region ?_
        refine s_move hE goes_none (by decide) rfl ?_; intro a hE
        refine s_int hE goes_none (by decide) rfl rfl rfl ?_; intro a hE
        refine s_int hE goes_none (by decide) rfl rfl (bI_rem _ _ (by decide)) ?_; intro a hE
        obtain ⟨x19, e20, hl16⟩ := bind_some hl16
        have hi18 := vidx_some e20
        refine s_indexA hE goes_none (by decide) rfl rfl Try.underlying39 ty5 hi18.1 ?_; intro a hE
        refine s_load (v := (vB x19)) hE goes_none (by decide) rfl ty5 rfl (At.vec (hM.rawAt (pre := [_])) hi18.2) ?_; intro a hE
        refine s_assign hE goes_none (by decide) rfl ?_; intro a hE
        refine c_fin ?_
        obtain ⟨j21, hl22, hF23⟩ := bind_some hl16
        refine c_join (fun a w => Env 34 a [(2, (vI p2)), (3, (ptr b1 0)), (4, (ptr b3 0)), (6, (ptr b5 0)), (7, (vI s10.2)), (8, (vB j21))] ∧ M (Old w0) w0 w [raw b5 (Flat.enc (Vector.replicate 16 (0 : UInt8))), raw b3 (Flat.enc s10.1), raw b1 (Flat.enc p0)]) ?_ ?_
        · skip
          refine c_region ?_
          refine s_move hE goes_none (by decide) rfl ?_; intro a hE
          refine s_int hE goes_none (by decide) rfl rfl rfl ?_; intro a hE
          refine c_fin ?_
          refine c_cond hE rfl ?_ ?_
          · intro hb24
            have hl22 := ite_t hl22 hb24
            refine wp_region_lit ?_
            refine s_move hE goes_none (by decide) rfl ?_; intro a hE
            refine s_move hE goes_none (by decide) rfl ?_; intro a hE
            refine s_conv hE goes_none (by decide) rfl Try.underlying2 Try.underlying5 ?_; intro a hE
            rw [byteI_val] at hE
            refine s_int hE goes_none (by decide) rfl rfl (bB_xor x19 (byteI p2)) ?_; intro a hE
            refine s_assign hE goes_none (by decide) rfl ?_; intro a hE
            refine c_fin0 ?_
            have ht25 := Option.some.inj hl22
            subst ht25
            refine c_mid ?_
            exact ⟨hE.sub ⟨rfl, rfl, rfl, rfl, rfl, rfl, trivial⟩, hM⟩
          · intro hb24
            have hl22 := ite_f hl22 hb24
            refine wp_skip ?_
            have ht26 := Option.some.inj hl22
            subst ht26
            refine c_mid ?_
            exact ⟨hE.sub ⟨rfl, rfl, rfl, rfl, rfl, rfl, trivial⟩, hM⟩
        · skip
          rintro a w ⟨hE, hM⟩
          obtain ⟨x29, e30, hF23⟩ := bind_some hF23
          have hi28 := vidx_some e30
          obtain ⟨x32, e33, hF23⟩ := bind_some hF23
          have hi31 := vidx_some e33
          obtain ⟨x35, e36, hF23⟩ := bind_some hF23
          have hi34 := vidx_some e36
          refine c_draw (n := 34) (hd := [_, _, _, _, _, _, _, _, _]) (tl := [_]) hmix rfl rfl [24, 25, 26, 27, 28, 29, 30, 31, 32] (by decide) (fun w => M (Old w0) w0 w [raw b5 (Flat.enc (Vector.replicate 16 (0 : UInt8))), raw b3 (Flat.enc s10.1), raw b1 (Flat.enc p0)]) (fun j => ([fun v _ => v = (vI s10.2), fun v _ => v = (vI s10.2), fun v _ => v = (ptr b3 (0 + (s10.2).toNat * 1)), fun v _ => v = (vB x29), fun v _ => v = (vB j21), fun v _ => v = (ptr b1 (0 + ((bI j21)).toNat * 1)), fun v _ => v = (vB x32), fun v _ => v = (vB (x29 ^^^ x32)), fun v _ => v = (ptr b3 (0 + (s10.2).toNat * 1))] : List (Value → World → Prop)).getD j (fun _ _ => True)) (fun _ _ h hk => h.keep hk) (gup (gupE (gupE (gupE (gupE (gupE (gupE (gupE (gupE (gupE gupN)))))))))) hE hM.drew (steps_of (steps_cons ?_ (steps_cons ?_ (steps_cons ?_ (steps_cons ?_ (steps_cons ?_ (steps_cons ?_ (steps_cons ?_ (steps_cons ?_ (steps_cons ?_ steps_nil)))))))))) ?_
          · intro a w ux27 hE hM hp
            refine s_move hE goes_none (by decide) rfl ?_; intro a hE
            exact ⟨Kept.refl _ _, _, _, rfl, hE, rfl⟩
          · intro a w ux27 hE hM hp
            refine s_move hE goes_none (by decide) rfl ?_; intro a hE
            exact ⟨Kept.refl _ _, _, _, rfl, hE, rfl⟩
          · intro a w ux27 hE hM hp
            have f1 : ux27 1 = (vI s10.2) := hp 0 _ rfl rfl
            refine s_indexA hE goes_none (by decide) rfl (lk rfl f1) Try.underlying39 ty5 hi28.1 ?_; intro a hE
            exact ⟨Kept.refl _ _, _, _, rfl, hE, rfl⟩
          · intro a w ux27 hE hM hp
            have f2 : ux27 2 = (ptr b3 (0 + (s10.2).toNat * 1)) := hp 0 _ rfl rfl
            refine s_load (v := (vB x29)) hE goes_none (by decide) (lk rfl f2) ty5 rfl (At.vec (hM.rawAt (pre := [_])) hi28.2) ?_; intro a hE
            exact ⟨Kept.refl _ _, _, _, rfl, hE, rfl⟩
          · intro a w ux27 hE hM hp
            refine s_move hE goes_none (by decide) rfl ?_; intro a hE
            exact ⟨Kept.refl _ _, _, _, rfl, hE, rfl⟩
          · intro a w ux27 hE hM hp
            have f4 : ux27 4 = (vB j21) := hp 0 _ rfl rfl
            refine s_indexA hE goes_none (by decide) rfl (lk rfl f4) Try.underlying97 ty5 hi31.1 ?_; intro a hE
            exact ⟨Kept.refl _ _, _, _, rfl, hE, rfl⟩
          · intro a w ux27 hE hM hp
            have f5 : ux27 5 = (ptr b1 (0 + ((bI j21)).toNat * 1)) := hp 0 _ rfl rfl
            refine s_load (v := (vB x32)) hE goes_none (by decide) (lk rfl f5) ty5 rfl (At.vec (hM.rawAt (pre := [_, _])) hi31.2) ?_; intro a hE
            exact ⟨Kept.refl _ _, _, _, rfl, hE, rfl⟩
          · intro a w ux27 hE hM hp
            have f3 : ux27 3 = (vB x29) := hp 0 _ rfl rfl
            have f6 : ux27 6 = (vB x32) := hp 1 _ rfl rfl
            refine s_int hE goes_none (by decide) (lk rfl f3) (lk rfl f6) (bB_xor x29 x32) ?_; intro a hE
            exact ⟨Kept.refl _ _, _, _, rfl, hE, rfl⟩
          · intro a w ux27 hE hM hp
            have f0 : ux27 0 = (vI s10.2) := hp 0 _ rfl rfl
            refine s_indexA hE goes_none (by decide) rfl (lk rfl f0) Try.underlying39 ty5 hi34.1 ?_; intro a hE
            exact ⟨Kept.refl _ _, _, _, rfl, hE, rfl⟩
          · intro a w ux27 hE hM hg
            have f0 : ux27 0 = (vI s10.2) := hg 0 (by decide)
            have f1 : ux27 1 = (vI s10.2) := hg 1 (by decide)
            have f2 : ux27 2 = (ptr b3 (0 + (s10.2).toNat * 1)) := hg 2 (by decide)
            have f3 : ux27 3 = (vB x29) := hg 3 (by decide)
            have f4 : ux27 4 = (vB j21) := hg 4 (by decide)
            have f5 : ux27 5 = (ptr b1 (0 + ((bI j21)).toNat * 1)) := hg 5 (by decide)
            have f6 : ux27 6 = (vB x32) := hg 6 (by decide)
            have f7 : ux27 7 = (vB (x29 ^^^ x32)) := hg 7 (by decide)
            have f8 : ux27 8 = (ptr b3 (0 + (s10.2).toNat * 1)) := hg 8 (by decide)
            have hE := hE.sub (e' := [(24, (vI s10.2)), (25, (vI s10.2)), (26, (ptr b3 (0 + (s10.2).toNat * 1))), (27, (vB x29)), (28, (vB j21)), (29, (ptr b1 (0 + ((bI j21)).toNat * 1))), (30, (vB x32)), (31, (vB (x29 ^^^ x32))), (32, (ptr b3 (0 + (s10.2).toNat * 1))), (2, (vI p2)), (3, (ptr b1 0)), (4, (ptr b3 0)), (6, (ptr b5 0)), (7, (vI s10.2)), (8, (vB j21))]) ⟨lk rfl f0, lk rfl f1, lk rfl f2, lk rfl f3, lk rfl f4, lk rfl f5, lk rfl f6, lk rfl f7, lk rfl f8, rfl, rfl, rfl, rfl, rfl, rfl, trivial⟩
            have hM := hM.pull (pre := [_])
            refine s_store (seg := [(vB (x29 ^^^ x32))]) (cs' := Flat.enc (s10.1.setIfInBounds (s10.2).toNat (x29 ^^^ x32))) hE hM goes_none rfl rfl rfl ty5 rfl (fit_vec (v := s10.1) (x := x29 ^^^ x32) hi34.1) (Flat.cell (x29 ^^^ x32 : UInt8)) (splice_vec0 (v := s10.1) (x := x29 ^^^ x32) hi34.1) ?_; intro w a hM hE
            refine c_fin0 ?_
            refine c_nb ?_
            have ht37 := Option.some.inj hF23
            subst ht37
            refine c_mid ?_
            have hM := hM.pull (pre := [_, _])
            have hM := hM.pull (pre := [_])
            have hM := hM.pull (pre := [_, _])
            exact ⟨hE.sub ⟨rfl, rfl, rfl, rfl, rfl, trivial⟩, hM⟩
      · skip
        rintro a w ⟨hE, hM⟩
        refine wp_region_lit ?_
        refine s_move hE goes_none (by decide) rfl ?_; intro a hE
        refine s_int hE goes_none (by decide) rfl rfl rfl ?_; intro a hE
        refine s_assign hE goes_none (by decide) rfl ?_; intro a hE
        refine c_fin0 ?_
        refine c_mid ?_
        exact ⟨_, (Option.some.inj hF17).symm, hE.sub ⟨rfl, rfl, rfl, rfl, rfl, trivial⟩, hM⟩
    · intro hb14
      have hs11 := ite_f hs11 hb14
      refine wp_exit (e_then (e_then (e_eq ?_)))
      have ht38 := hx12 _ (Option.some.inj hs11).symm
      subst ht38
      refine c_mid ?_
      have hM := hM.pull (pre := [_])
      have hM := hM.pull (pre := [_])
      have hM := M.fst (l := [_, _]) hM
      exact ⟨hE.sub ⟨rfl, rfl, trivial⟩, hM⟩
  · skip
    rintro a w ⟨hE, hM⟩
    refine c_nx ?_
    refine c_region ?_
    refine s_loadA (cs := Flat.enc j7) hE goes_none (by decide) rfl ty39 rfl (hM.rawAt (pre := [_])) (Flat.len _) ?_; intro a hE
    refine s_store (seg := Flat.enc j7) (cs' := Flat.enc j7) hE hM goes_none rfl rfl rfl ty39 (Flat.len _) (Nat.le_of_eq ((Nat.zero_add _).trans (Eq.trans (Flat.len _) (Eq.symm (Flat.len _))))) (Flat.cell _) (splice_all (Eq.trans (Flat.len _) (Eq.symm (Flat.len _)))) ?_; intro w a hM hE
    refine c_fin ?_
    have hr := Option.some.inj hF9
    subst hr
    have hq39 : ResIs Try.prog _ _ (.cell 6 39) _ := res_cell hE rfl ty39 rfl (hM.rawAt (pre := [])) (Flat.len _) rfl
    have hM := M.fst (l := []) hM
    exact wp_ret (k_ret1 hE rfl hq39 ⟨_, rfl, rfl, hM.kept⟩)
noncomputable def L0_spec_l04Keys (p0 : GCipher) (p2 : Int) (s12 : (Vector UInt8 16) × (List (Vector UInt8 16)) × Int) : Option (Fl ((Vector UInt8 16) × (List (Vector UInt8 16)) × Int) (List (Vector UInt8 16))) :=
  if (decide (s12.2.2 ≤ p2)) = true then ((F_spec_l04Next p0.Box s12.1 s12.2.2).bind fun (r19 : (Vector UInt8 16)) => (app 16 s12.2.1 ([r19] : List (Vector UInt8 16))).bind fun (l23 : (List (Vector UInt8 16))) => some (Fl.nx (r19, (s12.2.1 ++ ([r19] : List (Vector UInt8 16))), wr (s12.2.2 + 1)))) else (some (Fl.ex s12.2.1))
noncomputable def F_spec_l04Keys (p0 : GCipher) (p1 : (Vector UInt8 16)) (p2 : Int) : Option ((List (Vector UInt8 16))) :=
  (iter (L0_spec_l04Keys p0 p2) (p1, ([p1] : List (Vector UInt8 16)), 1) : Option ((List (Vector UInt8 16)))).bind fun (j7 : (List (Vector UInt8 16))) => some j7
set_option maxRecDepth 20000 in
set_option maxHeartbeats 400000 in
theorem c_spec_l04Keys (w0 : World) (p0 : GCipher) (p1 : (Vector UInt8 16)) (p2 : Int) (r : (List (Vector UInt8 16))) (hF : F_spec_l04Keys p0 p1 p2 = some r) :
    Calls Try.prog 119 [(Value.agg (Flat.enc p0).toArray), (Value.agg (Flat.enc p1).toArray), (vI p2)].toArray w0 (fun en w' => ∃ v, en = .returned v ∧ (∃ (y1 : Value), v = y1 ∧ Fr w0 w' [osl NoB (r : List (Vector UInt8 16)) y1] ∧ Kept (Old w0) w0 w')) := by
  refine c_enter (n := 26) Try.func119 rfl rfl (Nat.le_of_ble_eq_true rfl) rfl ?_
  intro a hE
  have hM := M.start w0
  unfold F_spec_l04Keys at hF
  refine c_region ?_
  refine s_box (cs := cat [[(vI p0.Field)], Flat.enc p0.Box, Flat.enc p0.Mix, Flat.enc p0.Places, [(vI p0.Rounds)]]) hE hM goes_none (by decide) rfl rfl ?_; intro b1 w a hM hE
  refine s_box (cs := Flat.enc p1) hE hM goes_none (by decide) rfl rfl ?_; intro b3 w a hM hE
  refine s_assign hE goes_none (by decide) rfl ?_; intro a hE
  refine c_fin ?_
  refine c_region ?_
  refine s_loadA (cs := Flat.enc p1) hE goes_none (by decide) rfl ty39 rfl (hM.rawAt (pre := [])) (Flat.len _) ?_; intro a hE
  refine s_buildF (xs := [.tmp 9]) (l := ([p1] : List (Vector UInt8 16))) (vs := [(Value.agg (Flat.enc p1).toArray)]) hE hM goes_none (by decide) rfl rfl Try.underlying34 ty39 rfl (by decide) rfl ?_; intro u5 w a hM hE
  refine s_assign hE goes_none (by decide) rfl ?_; intro a hE
  refine c_fin ?_
  refine wp_seq ?_
  refine c_region ?_
  refine s_assign hE goes_none (by decide) rfl ?_; intro a hE
  refine c_fin ?_
  obtain ⟨j7, hl8, hF9⟩ := bind_some hF
  refine c_cut (fun a w => ∃ (u10 : Value), Env 26 a [(7, u10)] ∧ M (Old w0) w0 w [osl NoB (j7 : List (Vector UInt8 16)) u10]) ?_ ?_
  · skip
    refine wp_block ?_
    have hM := hM.pull (pre := [_, _])
    have hM := hM.pull (pre := [_, _])
    refine c_loop (fun (s12 : (Vector UInt8 16) × (List (Vector UInt8 16)) × Int) a w => ∃ (u13 : Value), Env 26 a [(2, (vI p2)), (3, (ptr b1 0)), (4, (ptr b3 0)), (7, u13), (8, (vI s12.2.2))] ∧ M (Old w0) w0 w [raw b3 (Flat.enc s12.1), raw b1 (cat [[(vI p0.Field)], Flat.enc p0.Box, Flat.enc p0.Mix, Flat.enc p0.Places, [(vI p0.Rounds)]]), osl NoB (s12.2.1 : List (Vector UInt8 16)) u13]) hl8 ⟨u5, hE.sub ⟨rfl, rfl, rfl, rfl, rfl, trivial⟩, hM⟩ ?_
    rintro s12 a w ⟨u13, hE, hM⟩ o17 hs15 hx16
    unfold L0_spec_l04Keys at hs15
    refine wp_seq ?_
    refine c_region ?_
    refine s_move hE goes_none (by decide) rfl ?_; intro a hE
    refine s_move hE goes_none (by decide) rfl ?_; intro a hE
    refine s_int hE goes_none (by decide) rfl rfl rfl ?_; intro a hE
    refine c_fin ?_
    refine c_cond hE rfl ?_ ?_
    · intro hb18
      have hs15 := ite_t hs15 hb18
      refine wp_skip ?_
      refine c_nx ?_
      refine wp_seq ?_
      refine wp_block ?_
      refine c_region ?_
      refine s_fieldAddr hE goes_none (by decide) rfl (fd103_1) ?_; intro a hE
      refine s_loadA (cs := Flat.enc p0.Box) hE goes_none (by decide) rfl ty97 rfl (At.cat (pre := [[(vI p0.Field)]]) (seg := Flat.enc p0.Box) (post := [Flat.enc p0.Mix, Flat.enc p0.Places, [(vI p0.Rounds)]]) (hM.rawAt (pre := [_])) (cl1 (n := 1) (m := 0) rfl cl0)) (Flat.len _) ?_; intro a hE
      refine s_loadA (cs := Flat.enc s12.1) hE goes_none (by decide) rfl ty39 rfl (hM.rawAt (pre := [])) (Flat.len _) ?_; intro a hE
      refine s_move hE goes_none (by decide) rfl ?_; intro a hE
      obtain ⟨r19, e20, hs15⟩ := bind_some hs15
      refine s_call (vs := [(Value.agg (Flat.enc p0.Box).toArray), (Value.agg (Flat.enc s12.1).toArray), (vI s12.2.2)]) hE goes_none (by decide) rfl cb131 (c_spec_l04Next _ p0.Box s12.1 s12.2.2 r19 e20) ?_
      rintro v w a ⟨rfl, hK⟩ hE
      have hM := hM.keep hK
      refine s_store (seg := Flat.enc r19) (cs' := Flat.enc r19) hE hM goes_none rfl rfl rfl ty39 (Flat.len _) (Nat.le_of_eq ((Nat.zero_add _).trans (Eq.trans (Flat.len _) (Eq.symm (Flat.len _))))) (Flat.cell _) (splice_all (Eq.trans (Flat.len _) (Eq.symm (Flat.len _)))) ?_; intro w a hM hE
      refine c_fin ?_
      refine wp_region_lit ?_
      refine s_move hE goes_none (by decide) rfl ?_; intro a hE
      refine s_loadA (cs := Flat.enc r19) hE goes_none (by decide) rfl ty39 rfl (hM.rawAt (pre := [])) (Flat.len _) ?_; intro a hE
      refine s_buildF (xs := [.tmp 22]) (l := ([r19] : List (Vector UInt8 16))) (vs := [(Value.agg (Flat.enc r19).toArray)]) hE hM goes_none (by decide) rfl rfl Try.underlying34 ty39 rfl (by decide) rfl ?_; intro u21 w a hM hE
      obtain ⟨l23, e24, hs15⟩ := bind_some hs15
      obtain ⟨e27, rfl⟩ := app_some e24
      have hM := hM.pull (pre := [_, _, _])
      refine s_appendF hE hM goes_none (by decide) rfl rfl (hM.sl (pre := [_]) noB) Try.underlying34 ty39 rfl (by decide) e27 ?_; intro u25 w a hM hE
      refine s_assign hE goes_none (by decide) rfl ?_; intro a hE
      refine c_fin0 ?_
      refine c_nb ?_
      refine c_nx ?_
      refine wp_region_lit ?_
      refine s_move hE goes_none (by decide) rfl ?_; intro a hE
      refine s_int hE goes_none (by decide) rfl rfl rfl ?_; intro a hE
      refine s_assign hE goes_none (by decide) rfl ?_; intro a hE
      refine c_fin0 ?_
      refine c_mid ?_
      have hM := hM.pull (pre := [_, _, _])
      have hM := hM.pull (pre := [_, _, _])
      have hM := M.fst (l := [_, _, _]) hM
      exact ⟨_, (Option.some.inj hs15).symm, u25, hE.sub ⟨rfl, rfl, rfl, rfl, rfl, trivial⟩, hM⟩
    · intro hb18
      have hs15 := ite_f hs15 hb18
      refine wp_exit (e_then (e_then (e_eq ?_)))
      have ht28 := hx16 _ (Option.some.inj hs15).symm
      subst ht28
      refine c_mid ?_
      have hM := hM.pull (pre := [_, _])
      have hM := M.fst (l := [_]) hM
      exact ⟨u13, hE.sub ⟨rfl, trivial⟩, hM⟩
  · skip
    rintro a w ⟨u10, hE, hM⟩
    refine c_nx ?_
    refine c_region ?_
    refine s_move hE goes_none (by decide) rfl ?_; intro a hE
    refine s_assign hE goes_none (by decide) rfl ?_; intro a hE
    refine c_fin ?_
    have hr := Option.some.inj hF9
    subst hr
    exact wp_ret (k_ret1 hE rfl (res_tmp hE rfl) ⟨_, rfl, u10, rfl, hM.outF (locN1 locN0), hM.kept⟩)
noncomputable def L0_spec_l04Boxes (p0 : (Vector UInt8 256)) (s10 : (Vector UInt8 16) × Int) : Option (Fl ((Vector UInt8 16) × Int) (Vector UInt8 16)) :=
  if (decide (s10.2 < 16)) = true then ((vidx s10.1 s10.2).bind fun (x16 : UInt8) => (vidx p0 (bI x16)).bind fun (x19 : UInt8) => (vidx s10.1 s10.2).bind fun (x22 : UInt8) => some (Fl.nx ((s10.1.setIfInBounds (s10.2).toNat x19), wr (s10.2 + 1)))) else (some (Fl.ex s10.1))
noncomputable def F_spec_l04Boxes (p0 : (Vector UInt8 256)) (p1 : (Vector UInt8 16)) : Option ((Vector UInt8 16)) :=
  (iter (L0_spec_l04Boxes p0) (p1, 0) : Option ((Vector UInt8 16))).bind fun (j7 : (Vector UInt8 16)) => some j7
set_option maxRecDepth 20000 in
set_option maxHeartbeats 400000 in
theorem c_spec_l04Boxes (w0 : World) (p0 : (Vector UInt8 256)) (p1 : (Vector UInt8 16)) (r : (Vector UInt8 16)) (hF : F_spec_l04Boxes p0 p1 = some r) :
    Calls Try.prog 121 [(Value.agg (Flat.enc p0).toArray), (Value.agg (Flat.enc p1).toArray)].toArray w0 (fun en w' => ∃ v, en = .returned v ∧ (v = (Value.agg (Flat.enc r).toArray) ∧ Kept (Old w0) w0 w')) := by
  refine c_enter (n := 18) Try.func121 rfl rfl (Nat.le_of_ble_eq_true rfl) rfl ?_
  intro a hE
  have hM := M.start w0
  unfold F_spec_l04Boxes at hF
  refine c_region ?_
  refine s_box (cs := Flat.enc p0) hE hM goes_none (by decide) rfl rfl ?_; intro b1 w a hM hE
  refine s_box (cs := Flat.enc p1) hE hM goes_none (by decide) rfl rfl ?_; intro b3 w a hM hE
  refine s_alloc hE hM goes_none (by decide) ty39 ?_; intro b5 w a hM hE
  refine c_fin ?_
  refine wp_seq ?_
  refine c_region ?_
  refine s_assign hE goes_none (by decide) rfl ?_; intro a hE
  refine c_fin ?_
  obtain ⟨j7, hl8, hF9⟩ := bind_some hF
  refine c_cut (fun a w => Env 18 a [(3, (ptr b3 0)), (4, (ptr b5 0))] ∧ M (Old w0) w0 w [raw b5 (Flat.enc (Vector.replicate 16 (0 : UInt8))), raw b3 (Flat.enc j7)]) ?_ ?_
  · skip
    refine wp_block ?_
    refine c_loop (fun (s10 : (Vector UInt8 16) × Int) a w => Env 18 a [(2, (ptr b1 0)), (3, (ptr b3 0)), (4, (ptr b5 0)), (5, (vI s10.2))] ∧ M (Old w0) w0 w [raw b5 (Flat.enc (Vector.replicate 16 (0 : UInt8))), raw b3 (Flat.enc s10.1), raw b1 (Flat.enc p0)]) hl8 ⟨hE.sub ⟨rfl, rfl, rfl, rfl, trivial⟩, hM⟩ ?_
    rintro s10 a w ⟨hE, hM⟩ o13 hs11 hx12
    unfold L0_spec_l04Boxes at hs11
    refine wp_seq ?_
    refine c_region ?_
    refine s_move hE goes_none (by decide) rfl ?_; intro a hE
    refine s_int hE goes_none (by decide) rfl rfl rfl ?_; intro a hE
    refine c_fin ?_
    refine c_cond hE rfl ?_ ?_
    · intro hb14
      have hs11 := ite_t hs11 hb14
      refine wp_skip ?_
      refine c_nx ?_
      refine wp_seq ?_
      refine wp_block ?_
      refine wp_region_lit ?_
      refine s_move hE goes_none (by decide) rfl ?_; intro a hE
      refine s_move hE goes_none (by decide) rfl ?_; intro a hE
      obtain ⟨x16, e17, hs11⟩ := bind_some hs11
      have hi15 := vidx_some e17
      refine s_indexA hE goes_none (by decide) rfl rfl Try.underlying39 ty5 hi15.1 ?_; intro a hE
      refine s_load (v := (vB x16)) hE goes_none (by decide) rfl ty5 rfl (At.vec (hM.rawAt (pre := [_])) hi15.2) ?_; intro a hE
      obtain ⟨x19, e20, hs11⟩ := bind_some hs11
      have hi18 := vidx_some e20
      refine s_indexA hE goes_none (by decide) rfl rfl Try.underlying97 ty5 hi18.1 ?_; intro a hE
      refine s_load (v := (vB x19)) hE goes_none (by decide) rfl ty5 rfl (At.vec (hM.rawAt (pre := [_, _])) hi18.2) ?_; intro a hE
      obtain ⟨x22, e23, hs11⟩ := bind_some hs11
      have hi21 := vidx_some e23
      refine s_indexA hE goes_none (by decide) rfl rfl Try.underlying39 ty5 hi21.1 ?_; intro a hE
      have hM := hM.pull (pre := [_])
      refine s_store (seg := [(vB x19)]) (cs' := Flat.enc (s10.1.setIfInBounds (s10.2).toNat x19)) hE hM goes_none rfl rfl rfl ty5 rfl (fit_vec (v := s10.1) (x := x19) hi21.1) (Flat.cell (x19 : UInt8)) (splice_vec0 (v := s10.1) (x := x19) hi21.1) ?_; intro w a hM hE
      refine c_fin0 ?_
      refine c_nb ?_
      refine c_nx ?_
      refine wp_region_lit ?_
      refine s_move hE goes_none (by decide) rfl ?_; intro a hE
      refine s_int hE goes_none (by decide) rfl rfl rfl ?_; intro a hE
      refine s_assign hE goes_none (by decide) rfl ?_; intro a hE
      refine c_fin0 ?_
      refine c_mid ?_
      have hM := hM.pull (pre := [_, _])
      have hM := hM.pull (pre := [_])
      have hM := hM.pull (pre := [_, _])
      exact ⟨_, (Option.some.inj hs11).symm, hE.sub ⟨rfl, rfl, rfl, rfl, trivial⟩, hM⟩
    · intro hb14
      have hs11 := ite_f hs11 hb14
      refine wp_exit (e_then (e_then (e_eq ?_)))
      have ht24 := hx12 _ (Option.some.inj hs11).symm
      subst ht24
      refine c_mid ?_
      have hM := hM.pull (pre := [_])
      have hM := hM.pull (pre := [_])
      have hM := M.fst (l := [_, _]) hM
      exact ⟨hE.sub ⟨rfl, rfl, trivial⟩, hM⟩
  · skip
    rintro a w ⟨hE, hM⟩
    refine c_nx ?_
    refine c_region ?_
    refine s_loadA (cs := Flat.enc j7) hE goes_none (by decide) rfl ty39 rfl (hM.rawAt (pre := [_])) (Flat.len _) ?_; intro a hE
    refine s_store (seg := Flat.enc j7) (cs' := Flat.enc j7) hE hM goes_none rfl rfl rfl ty39 (Flat.len _) (Nat.le_of_eq ((Nat.zero_add _).trans (Eq.trans (Flat.len _) (Eq.symm (Flat.len _))))) (Flat.cell _) (splice_all (Eq.trans (Flat.len _) (Eq.symm (Flat.len _)))) ?_; intro w a hM hE
    refine c_fin ?_
    have hr := Option.some.inj hF9
    subst hr
    have hq25 : ResIs Try.prog _ _ (.cell 4 39) _ := res_cell hE rfl ty39 rfl (hM.rawAt (pre := [])) (Flat.len _) rfl
    have hM := M.fst (l := []) hM
    exact wp_ret (k_ret1 hE rfl hq25 ⟨_, rfl, rfl, hM.kept⟩)
noncomputable def L0_spec_l03Move (p0 : (Vector UInt8 16)) (p1 : (Vector UInt8 16)) (s12 : (Vector UInt8 16) × Int) : Option (Fl ((Vector UInt8 16) × Int) (Vector UInt8 16)) :=
  if (decide (s12.2 < 16)) = true then ((vidx p0 s12.2).bind fun (x18 : UInt8) => (vidx p1 (bI x18)).bind fun (x21 : UInt8) => (vidx s12.1 s12.2).bind fun (x24 : UInt8) => some (Fl.nx ((s12.1.setIfInBounds (s12.2).toNat x21), wr (s12.2 + 1)))) else (some (Fl.ex s12.1))
noncomputable def F_spec_l03Move (p0 : (Vector UInt8 16)) (p1 : (Vector UInt8 16)) : Option ((Vector UInt8 16)) :=
  (iter (L0_spec_l03Move p0 p1) ((Vector.replicate 16 (0 : UInt8)), 0) : Option ((Vector UInt8 16))).bind fun (j9 : (Vector UInt8 16)) => some j9
set_option maxRecDepth 20000 in
set_option maxHeartbeats 400000 in
theorem c_spec_l03Move (w0 : World) (p0 : (Vector UInt8 16)) (p1 : (Vector UInt8 16)) (r : (Vector UInt8 16)) (hF : F_spec_l03Move p0 p1 = some r) :
    Calls Try.prog 120 [(Value.agg (Flat.enc p0).toArray), (Value.agg (Flat.enc p1).toArray)].toArray w0 (fun en w' => ∃ v, en = .returned v ∧ (v = (Value.agg (Flat.enc r).toArray) ∧ Kept (Old w0) w0 w')) := by
  refine c_enter (n := 20) Try.func120 rfl rfl (Nat.le_of_ble_eq_true rfl) rfl ?_
  intro a hE
  have hM := M.start w0
  unfold F_spec_l03Move at hF
  refine c_region ?_
  refine s_box (cs := Flat.enc p0) hE hM goes_none (by decide) rfl rfl ?_; intro b1 w a hM hE
  refine s_box (cs := Flat.enc p1) hE hM goes_none (by decide) rfl rfl ?_; intro b3 w a hM hE
  refine s_alloc hE hM goes_none (by decide) ty39 ?_; intro b5 w a hM hE
  refine c_fin ?_
  refine c_region ?_
  refine s_buildA (parts := []) (vs := []) (cs := Flat.enc (Vector.replicate 16 (0 : UInt8))) hE goes_none (by decide) rfl rfl ty39 rfl ty5 filla_nil ?_; intro a hE
  refine s_alloc hE hM goes_none (by decide) ty39 ?_; intro b7 w a hM hE
  refine s_store (seg := Flat.enc (Vector.replicate 16 (0 : UInt8))) (cs' := Flat.enc (Vector.replicate 16 (0 : UInt8))) hE hM goes_none rfl rfl rfl ty39 (Flat.len _) (Nat.le_of_eq ((Nat.zero_add _).trans (Eq.trans (Flat.len _) (Eq.symm (Flat.len _))))) (Flat.cell _) (splice_all (Eq.trans (Flat.len _) (Eq.symm (Flat.len _)))) ?_; intro w a hM hE
  refine c_fin ?_
  refine wp_seq ?_
  refine c_region ?_
  refine s_assign hE goes_none (by decide) rfl ?_; intro a hE
  refine c_fin ?_
  obtain ⟨j9, hl10, hF11⟩ := bind_some hF
  refine c_cut (fun a w => Env 20 a [(4, (ptr b5 0)), (5, (ptr b7 0))] ∧ M (Old w0) w0 w [raw b7 (Flat.enc j9), raw b5 (Flat.enc (Vector.replicate 16 (0 : UInt8)))]) ?_ ?_
  · skip
    refine wp_block ?_
    refine c_loop (fun (s12 : (Vector UInt8 16) × Int) a w => Env 20 a [(2, (ptr b1 0)), (3, (ptr b3 0)), (4, (ptr b5 0)), (5, (ptr b7 0)), (6, (vI s12.2))] ∧ M (Old w0) w0 w [raw b7 (Flat.enc s12.1), raw b5 (Flat.enc (Vector.replicate 16 (0 : UInt8))), raw b3 (Flat.enc p1), raw b1 (Flat.enc p0)]) hl10 ⟨hE.sub ⟨rfl, rfl, rfl, rfl, rfl, trivial⟩, hM⟩ ?_
    rintro s12 a w ⟨hE, hM⟩ o15 hs13 hx14
    unfold L0_spec_l03Move at hs13
    refine wp_seq ?_
    refine c_region ?_
    refine s_move hE goes_none (by decide) rfl ?_; intro a hE
    refine s_int hE goes_none (by decide) rfl rfl rfl ?_; intro a hE
    refine c_fin ?_
    refine c_cond hE rfl ?_ ?_
    · intro hb16
      have hs13 := ite_t hs13 hb16
      refine wp_skip ?_
      refine c_nx ?_
      refine wp_seq ?_
      refine wp_block ?_
      refine wp_region_lit ?_
      refine s_move hE goes_none (by decide) rfl ?_; intro a hE
      refine s_move hE goes_none (by decide) rfl ?_; intro a hE
      obtain ⟨x18, e19, hs13⟩ := bind_some hs13
      have hi17 := vidx_some e19
      refine s_indexA hE goes_none (by decide) rfl rfl Try.underlying101 ty5 hi17.1 ?_; intro a hE
      refine s_load (v := (vB x18)) hE goes_none (by decide) rfl ty5 rfl (At.vec (hM.rawAt (pre := [_, _, _])) hi17.2) ?_; intro a hE
      obtain ⟨x21, e22, hs13⟩ := bind_some hs13
      have hi20 := vidx_some e22
      refine s_indexA hE goes_none (by decide) rfl rfl Try.underlying39 ty5 hi20.1 ?_; intro a hE
      refine s_load (v := (vB x21)) hE goes_none (by decide) rfl ty5 rfl (At.vec (hM.rawAt (pre := [_, _])) hi20.2) ?_; intro a hE
      obtain ⟨x24, e25, hs13⟩ := bind_some hs13
      have hi23 := vidx_some e25
      refine s_indexA hE goes_none (by decide) rfl rfl Try.underlying39 ty5 hi23.1 ?_; intro a hE
      refine s_store (seg := [(vB x21)]) (cs' := Flat.enc (s12.1.setIfInBounds (s12.2).toNat x21)) hE hM goes_none rfl rfl rfl ty5 rfl (fit_vec (v := s12.1) (x := x21) hi23.1) (Flat.cell (x21 : UInt8)) (splice_vec0 (v := s12.1) (x := x21) hi23.1) ?_; intro w a hM hE
      refine c_fin0 ?_
      refine c_nb ?_
      refine c_nx ?_
      refine wp_region_lit ?_
      refine s_move hE goes_none (by decide) rfl ?_; intro a hE
      refine s_int hE goes_none (by decide) rfl rfl rfl ?_; intro a hE
      refine s_assign hE goes_none (by decide) rfl ?_; intro a hE
      refine c_fin0 ?_
      refine c_mid ?_
      exact ⟨_, (Option.some.inj hs13).symm, hE.sub ⟨rfl, rfl, rfl, rfl, rfl, trivial⟩, hM⟩
    · intro hb16
      have hs13 := ite_f hs13 hb16
      refine wp_exit (e_then (e_then (e_eq ?_)))
      have ht26 := hx14 _ (Option.some.inj hs13).symm
      subst ht26
      refine c_mid ?_
      have hM := hM.pull (pre := [_])
      have hM := hM.pull (pre := [_])
      have hM := M.fst (l := [_, _]) hM
      exact ⟨hE.sub ⟨rfl, rfl, trivial⟩, hM⟩
  · skip
    rintro a w ⟨hE, hM⟩
    refine c_nx ?_
    refine c_region ?_
    refine s_loadA (cs := Flat.enc j9) hE goes_none (by decide) rfl ty39 rfl (hM.rawAt (pre := [])) (Flat.len _) ?_; intro a hE
    have hM := hM.pull (pre := [_])
    refine s_store (seg := Flat.enc j9) (cs' := Flat.enc j9) hE hM goes_none rfl rfl rfl ty39 (Flat.len _) (Nat.le_of_eq ((Nat.zero_add _).trans (Eq.trans (Flat.len _) (Eq.symm (Flat.len _))))) (Flat.cell _) (splice_all (Eq.trans (Flat.len _) (Eq.symm (Flat.len _)))) ?_; intro w a hM hE
    refine c_fin ?_
    have hr := Option.some.inj hF11
    subst hr
    have hq27 : ResIs Try.prog _ _ (.cell 4 39) _ := res_cell hE rfl ty39 rfl (hM.rawAt (pre := [])) (Flat.len _) rfl
    have hM := M.fst (l := []) hM
    exact wp_ret (k_ret1 hE rfl hq27 ⟨_, rfl, rfl, hM.kept⟩)
noncomputable def L2_spec_l03Mix (p0 : Int) (p1 : (Vector (Vector UInt8 4) 4)) (p2 : (Vector UInt8 16)) (s12 : (Vector UInt8 16) × Int) (s20 : (Vector UInt8 16) × Int) (s28 : (Vector UInt8 16) × Int) : Option (Fl ((Vector UInt8 16) × Int) (Vector UInt8 16)) :=
  if (decide (s28.2 < 4)) = true then ((vidx s28.1 (wr ((wr (4 * s12.2)) + s20.2))).bind fun (x35 : UInt8) => (vidx p1 s20.2).bind fun (x38 : (Vector UInt8 4)) => (vidx x38 s28.2).bind fun (x41 : UInt8) => (vidx p2 (wr ((wr (4 * s12.2)) + s28.2))).bind fun (x44 : UInt8) => (F_spec_l01Times p0 x41 x44).bind fun (r46 : UInt8) => (vidx s28.1 (wr ((wr (4 * s12.2)) + s20.2))).bind fun (x49 : UInt8) => some (Fl.nx ((s28.1.setIfInBounds ((wr ((wr (4 * s12.2)) + s20.2))).toNat (x35 ^^^ r46)), wr (s28.2 + 1)))) else (some (Fl.ex s28.1))
noncomputable def L1_spec_l03Mix (p0 : Int) (p1 : (Vector (Vector UInt8 4) 4)) (p2 : (Vector UInt8 16)) (s12 : (Vector UInt8 16) × Int) (s20 : (Vector UInt8 16) × Int) : Option (Fl ((Vector UInt8 16) × Int) (Vector UInt8 16)) :=
  if (decide (s20.2 < 4)) = true then ((iter (L2_spec_l03Mix p0 p1 p2 s12 s20) (s20.1, 0) : Option ((Vector UInt8 16))).bind fun (j25 : (Vector UInt8 16)) => some (Fl.nx (j25, wr (s20.2 + 1)))) else (some (Fl.ex s20.1))
noncomputable def L0_spec_l03Mix (p0 : Int) (p1 : (Vector (Vector UInt8 4) 4)) (p2 : (Vector UInt8 16)) (s12 : (Vector UInt8 16) × Int) : Option (Fl ((Vector UInt8 16) × Int) (Vector UInt8 16)) :=
  if (decide (s12.2 < 4)) = true then ((iter (L1_spec_l03Mix p0 p1 p2 s12) (s12.1, 0) : Option ((Vector UInt8 16))).bind fun (j17 : (Vector UInt8 16)) => some (Fl.nx (j17, wr (s12.2 + 1)))) else (some (Fl.ex s12.1))
noncomputable def F_spec_l03Mix (p0 : Int) (p1 : (Vector (Vector UInt8 4) 4)) (p2 : (Vector UInt8 16)) : Option ((Vector UInt8 16)) :=
  (iter (L0_spec_l03Mix p0 p1 p2) ((Vector.replicate 16 (0 : UInt8)), 0) : Option ((Vector UInt8 16))).bind fun (j9 : (Vector UInt8 16)) => some j9
set_option maxRecDepth 20000 in
set_option maxHeartbeats 400000 in
theorem c_spec_l03Mix (w0 : World) (p0 : Int) (p1 : (Vector (Vector UInt8 4) 4)) (p2 : (Vector UInt8 16)) (r : (Vector UInt8 16)) (hF : F_spec_l03Mix p0 p1 p2 = some r) :
    Calls Try.prog 122 [(vI p0), (Value.agg (Flat.enc p1).toArray), (Value.agg (Flat.enc p2).toArray)].toArray w0 (fun en w' => ∃ v, en = .returned v ∧ (v = (Value.agg (Flat.enc r).toArray) ∧ Kept (Old w0) w0 w')) := by
  refine c_enter (n := 50) Try.func122 rfl rfl (Nat.le_of_ble_eq_true rfl) rfl ?_
  intro a hE
  have hM := M.start w0
  unfold F_spec_l03Mix at hF
  refine c_region ?_
  refine s_box (cs := Flat.enc p1) hE hM goes_none (by decide) rfl rfl ?_; intro b1 w a hM hE
  refine s_box (cs := Flat.enc p2) hE hM goes_none (by decide) rfl rfl ?_; intro b3 w a hM hE
  refine s_alloc hE hM goes_none (by decide) ty39 ?_; intro b5 w a hM hE
  refine c_fin ?_
  refine c_region ?_
  refine s_buildA (parts := []) (vs := []) (cs := Flat.enc (Vector.replicate 16 (0 : UInt8))) hE goes_none (by decide) rfl rfl ty39 rfl ty5 filla_nil ?_; intro a hE
  refine s_alloc hE hM goes_none (by decide) ty39 ?_; intro b7 w a hM hE
  refine s_store (seg := Flat.enc (Vector.replicate 16 (0 : UInt8))) (cs' := Flat.enc (Vector.replicate 16 (0 : UInt8))) hE hM goes_none rfl rfl rfl ty39 (Flat.len _) (Nat.le_of_eq ((Nat.zero_add _).trans (Eq.trans (Flat.len _) (Eq.symm (Flat.len _))))) (Flat.cell _) (splice_all (Eq.trans (Flat.len _) (Eq.symm (Flat.len _)))) ?_; intro w a hM hE
  refine c_fin ?_
  refine wp_seq ?_
  refine c_region ?_
  refine s_assign hE goes_none (by decide) rfl ?_; intro a hE
  refine c_fin ?_
  obtain ⟨j9, hl10, hF11⟩ := bind_some hF
  refine c_cut (fun a w => Env 50 a [(6, (ptr b5 0)), (7, (ptr b7 0))] ∧ M (Old w0) w0 w [raw b7 (Flat.enc j9), raw b5 (Flat.enc (Vector.replicate 16 (0 : UInt8)))]) ?_ ?_
  · skip
    refine wp_block ?_
    refine c_loop (fun (s12 : (Vector UInt8 16) × Int) a w => Env 50 a [(0, (vI p0)), (4, (ptr b1 0)), (5, (ptr b3 0)), (6, (ptr b5 0)), (7, (ptr b7 0)), (8, (vI s12.2))] ∧ M (Old w0) w0 w [raw b7 (Flat.enc s12.1), raw b5 (Flat.enc (Vector.replicate 16 (0 : UInt8))), raw b3 (Flat.enc p2), raw b1 (Flat.enc p1)]) hl10 ⟨hE.sub ⟨rfl, rfl, rfl, rfl, rfl, rfl, trivial⟩, hM⟩ ?_
    rintro s12 a w ⟨hE, hM⟩ o15 hs13 hx14
    unfold L0_spec_l03Mix at hs13
    refine wp_seq ?_
    refine c_region ?_
    refine s_move hE goes_none (by decide) rfl ?_; intro a hE
    refine s_int hE goes_none (by decide) rfl rfl rfl ?_; intro a hE
    refine c_fin ?_
    refine c_cond hE rfl ?_ ?_
    · intro hb16
      have hs13 := ite_t hs13 hb16
      refine wp_skip ?_
      refine c_nx ?_
      refine wp_seq ?_
      refine wp_block ?_
      refine c_region ?_
      refine s_assign hE goes_none (by decide) rfl ?_; intro a hE
      refine c_fin ?_
      obtain ⟨j17, hl18, hF19⟩ := bind_some hs13
      refine c_cut (fun a w => Env 50 a [(0, (vI p0)), (4, (ptr b1 0)), (5, (ptr b3 0)), (6, (ptr b5 0)), (7, (ptr b7 0)), (8, (vI s12.2))] ∧ M (Old w0) w0 w [raw b7 (Flat.enc j17), raw b5 (Flat.enc (Vector.replicate 16 (0 : UInt8))), raw b3 (Flat.enc p2), raw b1 (Flat.enc p1)]) ?_ ?_
      · skip
        refine wp_block ?_
        refine c_loop (fun (s20 : (Vector UInt8 16) × Int) a w => Env 50 a [(0, (vI p0)), (4, (ptr b1 0)), (5, (ptr b3 0)), (6, (ptr b5 0)), (7, (ptr b7 0)), (8, (vI s12.2)), (9, (vI s20.2))] ∧ M (Old w0) w0 w [raw b7 (Flat.enc s20.1), raw b5 (Flat.enc (Vector.replicate 16 (0 : UInt8))), raw b3 (Flat.enc p2), raw b1 (Flat.enc p1)]) hl18 ⟨hE.sub ⟨rfl, rfl, rfl, rfl, rfl, rfl, rfl, trivial⟩, hM⟩ ?_
        rintro s20 a w ⟨hE, hM⟩ o23 hs21 hx22
        unfold L1_spec_l03Mix at hs21
        refine wp_seq ?_
        refine c_region ?_
        refine s_move hE goes_none (by decide) rfl ?_; intro a hE
        refine s_int hE goes_none (by decide) rfl rfl rfl ?_; intro a hE
        refine c_fin ?_
        refine c_cond hE rfl ?_ ?_
        · intro hb24
          have hs21 := ite_t hs21 hb24
          refine wp_skip ?_
          refine c_nx ?_
          refine wp_seq ?_
          refine wp_block ?_
          refine c_region ?_
          refine s_assign hE goes_none (by decide) rfl ?_; intro a hE
          refine c_fin ?_
          obtain ⟨j25, hl26, hF27⟩ := bind_some hs21
          refine c_cut (fun a w => Env 50 a [(0, (vI p0)), (4, (ptr b1 0)), (5, (ptr b3 0)), (6, (ptr b5 0)), (7, (ptr b7 0)), (8, (vI s12.2)), (9, (vI s20.2))] ∧ M (Old w0) w0 w [raw b7 (Flat.enc j25), raw b5 (Flat.enc (Vector.replicate 16 (0 : UInt8))), raw b3 (Flat.enc p2), raw b1 (Flat.enc p1)]) ?_ ?_
          · skip
            refine wp_block ?_
            refine c_loop (fun (s28 : (Vector UInt8 16) × Int) a w => Env 50 a [(0, (vI p0)), (4, (ptr b1 0)), (5, (ptr b3 0)), (6, (ptr b5 0)), (7, (ptr b7 0)), (8, (vI s12.2)), (9, (vI s20.2)), (10, (vI s28.2))] ∧ M (Old w0) w0 w [raw b7 (Flat.enc s28.1), raw b5 (Flat.enc (Vector.replicate 16 (0 : UInt8))), raw b3 (Flat.enc p2), raw b1 (Flat.enc p1)]) hl26 ⟨hE.sub ⟨rfl, rfl, rfl, rfl, rfl, rfl, rfl, rfl, trivial⟩, hM⟩ ?_
            rintro s28 a w ⟨hE, hM⟩ o31 hs29 hx30
            unfold L2_spec_l03Mix at hs29
            refine wp_seq ?_
            refine c_region ?_
            refine s_move hE goes_none (by decide) rfl ?_; intro a hE
            refine s_int hE goes_none (by decide) rfl rfl rfl ?_; intro a hE
            refine c_fin ?_
            refine c_cond hE rfl ?_ ?_
            · intro hb32
              have hs29 := ite_t hs29 hb32
              refine wp_skip ?_
              refine c_nx ?_
              refine wp_seq ?_
              refine wp_block ?_
              obtain ⟨x35, e36, hs29⟩ := bind_some hs29
              have hi34 := vidx_some e36
              obtain ⟨x38, e39, hs29⟩ := bind_some hs29
              have hi37 := vidx_some e39
              obtain ⟨x41, e42, hs29⟩ := bind_some hs29
              have hi40 := vidx_some e42
              obtain ⟨x44, e45, hs29⟩ := bind_some hs29
              have hi43 := vidx_some e45
              obtain ⟨r46, e47, hs29⟩ := bind_some hs29
              obtain ⟨x49, e50, hs29⟩ := bind_some hs29
              have hi48 := vidx_some e50
              refine c_draw (n := 50) (hd := [_, _, _, _, _, _, _, _, _, _, _, _, _, _, _, _, _, _, _, _, _, _, _, _, _]) (tl := [_]) hmix rfl rfl [24, 25, 26, 27, 28, 29, 30, 31, 32, 33, 34, 35, 36, 37, 38, 39, 40, 41, 42, 43, 44, 45, 46, 47, 48] (by decide) (fun w => M (Old w0) w0 w [raw b7 (Flat.enc s28.1), raw b5 (Flat.enc (Vector.replicate 16 (0 : UInt8))), raw b3 (Flat.enc p2), raw b1 (Flat.enc p1)]) (fun j => ([fun v _ => v = (vI s12.2), fun v _ => v = (vI (wr (4 * s12.2))), fun v _ => v = (vI s20.2), fun v _ => v = (vI (wr ((wr (4 * s12.2)) + s20.2))), fun v _ => v = (vI s12.2), fun v _ => v = (vI (wr (4 * s12.2))), fun v _ => v = (vI s20.2), fun v _ => v = (vI (wr ((wr (4 * s12.2)) + s20.2))), fun v _ => v = (ptr b7 (0 + ((wr ((wr (4 * s12.2)) + s20.2))).toNat * 1)), fun v _ => v = (vB x35), fun v _ => v = (vI p0), fun v _ => v = (vI s20.2), fun v _ => v = (vI s28.2), fun v _ => v = (ptr b1 (0 + (s20.2).toNat * 4)), fun v _ => v = (ptr b1 (0 + (s20.2).toNat * 4 + (s28.2).toNat * 1)), fun v _ => v = (vB x41), fun v _ => v = (vI s12.2), fun v _ => v = (vI (wr (4 * s12.2))), fun v _ => v = (vI s28.2), fun v _ => v = (vI (wr ((wr (4 * s12.2)) + s28.2))), fun v _ => v = (ptr b3 (0 + ((wr ((wr (4 * s12.2)) + s28.2))).toNat * 1)), fun v _ => v = (vB x44), fun v _ => v = (vB r46), fun v _ => v = (vB (x35 ^^^ r46)), fun v _ => v = (ptr b7 (0 + ((wr ((wr (4 * s12.2)) + s20.2))).toNat * 1))] : List (Value → World → Prop)).getD j (fun _ _ => True)) (fun _ _ h hk => h.keep hk) (gup (gupE (gupE (gupE (gupE (gupE (gupE (gupE (gupE (gupE (gupE (gupE (gupE (gupE (gupE (gupE (gupE (gupE (gupE (gupE (gupE (gupE (gupE (gupE (gupE (gupE gupN)))))))))))))))))))))))))) hE hM.drew (steps_of (steps_cons ?_ (steps_cons ?_ (steps_cons ?_ (steps_cons ?_ (steps_cons ?_ (steps_cons ?_ (steps_cons ?_ (steps_cons ?_ (steps_cons ?_ (steps_cons ?_ (steps_cons ?_ (steps_cons ?_ (steps_cons ?_ (steps_cons ?_ (steps_cons ?_ (steps_cons ?_ (steps_cons ?_ (steps_cons ?_ (steps_cons ?_ (steps_cons ?_ (steps_cons ?_ (steps_cons ?_ (steps_cons ?_ (steps_cons ?_ (steps_cons ?_ steps_nil)))))))))))))))))))))))))) ?_
              · intro a w ux33 hE hM hp
                refine s_move hE goes_none (by decide) rfl ?_; intro a hE
                exact ⟨Kept.refl _ _, _, _, rfl, hE, rfl⟩
              · intro a w ux33 hE hM hp
                have f0 : ux33 0 = (vI s12.2) := hp 0 _ rfl rfl
                refine s_int hE goes_none (by decide) rfl (lk rfl f0) rfl ?_; intro a hE
                exact ⟨Kept.refl _ _, _, _, rfl, hE, rfl⟩
              · intro a w ux33 hE hM hp
                refine s_move hE goes_none (by decide) rfl ?_; intro a hE
                exact ⟨Kept.refl _ _, _, _, rfl, hE, rfl⟩
              · intro a w ux33 hE hM hp
                have f1 : ux33 1 = (vI (wr (4 * s12.2))) := hp 0 _ rfl rfl
                have f2 : ux33 2 = (vI s20.2) := hp 1 _ rfl rfl
                refine s_int hE goes_none (by decide) (lk rfl f1) (lk rfl f2) rfl ?_; intro a hE
                exact ⟨Kept.refl _ _, _, _, rfl, hE, rfl⟩
              · intro a w ux33 hE hM hp
                refine s_move hE goes_none (by decide) rfl ?_; intro a hE
                exact ⟨Kept.refl _ _, _, _, rfl, hE, rfl⟩
              · intro a w ux33 hE hM hp
                have f4 : ux33 4 = (vI s12.2) := hp 0 _ rfl rfl
                refine s_int hE goes_none (by decide) rfl (lk rfl f4) rfl ?_; intro a hE
                exact ⟨Kept.refl _ _, _, _, rfl, hE, rfl⟩
              · intro a w ux33 hE hM hp
                refine s_move hE goes_none (by decide) rfl ?_; intro a hE
                exact ⟨Kept.refl _ _, _, _, rfl, hE, rfl⟩
              · intro a w ux33 hE hM hp
                have f5 : ux33 5 = (vI (wr (4 * s12.2))) := hp 0 _ rfl rfl
                have f6 : ux33 6 = (vI s20.2) := hp 1 _ rfl rfl
                refine s_int hE goes_none (by decide) (lk rfl f5) (lk rfl f6) rfl ?_; intro a hE
                exact ⟨Kept.refl _ _, _, _, rfl, hE, rfl⟩
              · intro a w ux33 hE hM hp
                have f7 : ux33 7 = (vI (wr ((wr (4 * s12.2)) + s20.2))) := hp 0 _ rfl rfl
                refine s_indexA hE goes_none (by decide) rfl (lk rfl f7) Try.underlying39 ty5 hi34.1 ?_; intro a hE
                exact ⟨Kept.refl _ _, _, _, rfl, hE, rfl⟩
              · intro a w ux33 hE hM hp
                have f8 : ux33 8 = (ptr b7 (0 + ((wr ((wr (4 * s12.2)) + s20.2))).toNat * 1)) := hp 0 _ rfl rfl
                refine s_load (v := (vB x35)) hE goes_none (by decide) (lk rfl f8) ty5 rfl (At.vec (hM.rawAt (pre := [])) hi34.2) ?_; intro a hE
                exact ⟨Kept.refl _ _, _, _, rfl, hE, rfl⟩
              · intro a w ux33 hE hM hp
                refine s_move hE goes_none (by decide) rfl ?_; intro a hE
                exact ⟨Kept.refl _ _, _, _, rfl, hE, rfl⟩
              · intro a w ux33 hE hM hp
                refine s_move hE goes_none (by decide) rfl ?_; intro a hE
                exact ⟨Kept.refl _ _, _, _, rfl, hE, rfl⟩
              · intro a w ux33 hE hM hp
                refine s_move hE goes_none (by decide) rfl ?_; intro a hE
                exact ⟨Kept.refl _ _, _, _, rfl, hE, rfl⟩
              · intro a w ux33 hE hM hp
                have f11 : ux33 11 = (vI s20.2) := hp 0 _ rfl rfl
                refine s_indexA hE goes_none (by decide) rfl (lk rfl f11) Try.underlying100 ty98 hi37.1 ?_; intro a hE
                exact ⟨Kept.refl _ _, _, _, rfl, hE, rfl⟩
              · intro a w ux33 hE hM hp
                have f12 : ux33 12 = (vI s28.2) := hp 1 _ rfl rfl
                have f13 : ux33 13 = (ptr b1 (0 + (s20.2).toNat * 4)) := hp 0 _ rfl rfl
                refine s_indexA hE goes_none (by decide) (lk rfl f13) (lk rfl f12) Try.underlying98 ty5 hi40.1 ?_; intro a hE
                exact ⟨Kept.refl _ _, _, _, rfl, hE, rfl⟩
              · intro a w ux33 hE hM hp
                have f14 : ux33 14 = (ptr b1 (0 + (s20.2).toNat * 4 + (s28.2).toNat * 1)) := hp 0 _ rfl rfl
                refine s_load (v := (vB x41)) hE goes_none (by decide) (lk rfl f14) ty5 rfl (At.vec (At.vec (hM.rawAt (pre := [_, _, _])) hi37.2) hi40.2) ?_; intro a hE
                exact ⟨Kept.refl _ _, _, _, rfl, hE, rfl⟩
              · intro a w ux33 hE hM hp
                refine s_move hE goes_none (by decide) rfl ?_; intro a hE
                exact ⟨Kept.refl _ _, _, _, rfl, hE, rfl⟩
              · intro a w ux33 hE hM hp
                have f16 : ux33 16 = (vI s12.2) := hp 0 _ rfl rfl
                refine s_int hE goes_none (by decide) rfl (lk rfl f16) rfl ?_; intro a hE
                exact ⟨Kept.refl _ _, _, _, rfl, hE, rfl⟩
              · intro a w ux33 hE hM hp
                refine s_move hE goes_none (by decide) rfl ?_; intro a hE
                exact ⟨Kept.refl _ _, _, _, rfl, hE, rfl⟩
              · intro a w ux33 hE hM hp
                have f17 : ux33 17 = (vI (wr (4 * s12.2))) := hp 0 _ rfl rfl
                have f18 : ux33 18 = (vI s28.2) := hp 1 _ rfl rfl
                refine s_int hE goes_none (by decide) (lk rfl f17) (lk rfl f18) rfl ?_; intro a hE
                exact ⟨Kept.refl _ _, _, _, rfl, hE, rfl⟩
              · intro a w ux33 hE hM hp
                have f19 : ux33 19 = (vI (wr ((wr (4 * s12.2)) + s28.2))) := hp 0 _ rfl rfl
                refine s_indexA hE goes_none (by decide) rfl (lk rfl f19) Try.underlying39 ty5 hi43.1 ?_; intro a hE
                exact ⟨Kept.refl _ _, _, _, rfl, hE, rfl⟩
              · intro a w ux33 hE hM hp
                have f20 : ux33 20 = (ptr b3 (0 + ((wr ((wr (4 * s12.2)) + s28.2))).toNat * 1)) := hp 0 _ rfl rfl
                refine s_load (v := (vB x44)) hE goes_none (by decide) (lk rfl f20) ty5 rfl (At.vec (hM.rawAt (pre := [_, _])) hi43.2) ?_; intro a hE
                exact ⟨Kept.refl _ _, _, _, rfl, hE, rfl⟩
              · intro a w ux33 hE hM hp
                have f10 : ux33 10 = (vI p0) := hp 0 _ rfl rfl
                have f15 : ux33 15 = (vB x41) := hp 1 _ rfl rfl
                have f21 : ux33 21 = (vB x44) := hp 2 _ rfl rfl
                refine s_call (vs := [(vI p0), (vB x41), (vB x44)]) hE goes_none (by decide) (evs_of (evsC (lk rfl f10) (evsC (lk rfl f15) (evsC (lk rfl f21) evsN)))) cb123 (c_spec_l01Times _ p0 x41 x44 r46 e47) ?_
                rintro v w a ⟨rfl, hK⟩ hE
                exact ⟨hK, _, _, rfl, hE, rfl⟩
              · intro a w ux33 hE hM hp
                have f9 : ux33 9 = (vB x35) := hp 0 _ rfl rfl
                have f22 : ux33 22 = (vB r46) := hp 1 _ rfl rfl
                refine s_int hE goes_none (by decide) (lk rfl f9) (lk rfl f22) (bB_xor x35 r46) ?_; intro a hE
                exact ⟨Kept.refl _ _, _, _, rfl, hE, rfl⟩
              · intro a w ux33 hE hM hp
                have f3 : ux33 3 = (vI (wr ((wr (4 * s12.2)) + s20.2))) := hp 0 _ rfl rfl
                refine s_indexA hE goes_none (by decide) rfl (lk rfl f3) Try.underlying39 ty5 hi48.1 ?_; intro a hE
                exact ⟨Kept.refl _ _, _, _, rfl, hE, rfl⟩
              · intro a w ux33 hE hM hg
                have f0 : ux33 0 = (vI s12.2) := hg 0 (by decide)
                have f1 : ux33 1 = (vI (wr (4 * s12.2))) := hg 1 (by decide)
                have f2 : ux33 2 = (vI s20.2) := hg 2 (by decide)
                have f3 : ux33 3 = (vI (wr ((wr (4 * s12.2)) + s20.2))) := hg 3 (by decide)
                have f4 : ux33 4 = (vI s12.2) := hg 4 (by decide)
                have f5 : ux33 5 = (vI (wr (4 * s12.2))) := hg 5 (by decide)
                have f6 : ux33 6 = (vI s20.2) := hg 6 (by decide)
                have f7 : ux33 7 = (vI (wr ((wr (4 * s12.2)) + s20.2))) := hg 7 (by decide)
                have f8 : ux33 8 = (ptr b7 (0 + ((wr ((wr (4 * s12.2)) + s20.2))).toNat * 1)) := hg 8 (by decide)
                have f9 : ux33 9 = (vB x35) := hg 9 (by decide)
                have f10 : ux33 10 = (vI p0) := hg 10 (by decide)
                have f11 : ux33 11 = (vI s20.2) := hg 11 (by decide)
                have f12 : ux33 12 = (vI s28.2) := hg 12 (by decide)
                have f13 : ux33 13 = (ptr b1 (0 + (s20.2).toNat * 4)) := hg 13 (by decide)
                have f14 : ux33 14 = (ptr b1 (0 + (s20.2).toNat * 4 + (s28.2).toNat * 1)) := hg 14 (by decide)
                have f15 : ux33 15 = (vB x41) := hg 15 (by decide)
                have f16 : ux33 16 = (vI s12.2) := hg 16 (by decide)
                have f17 : ux33 17 = (vI (wr (4 * s12.2))) := hg 17 (by decide)
                have f18 : ux33 18 = (vI s28.2) := hg 18 (by decide)
                have f19 : ux33 19 = (vI (wr ((wr (4 * s12.2)) + s28.2))) := hg 19 (by decide)
                have f20 : ux33 20 = (ptr b3 (0 + ((wr ((wr (4 * s12.2)) + s28.2))).toNat * 1)) := hg 20 (by decide)
                have f21 : ux33 21 = (vB x44) := hg 21 (by decide)
                have f22 : ux33 22 = (vB r46) := hg 22 (by decide)
                have f23 : ux33 23 = (vB (x35 ^^^ r46)) := hg 23 (by decide)
                have f24 : ux33 24 = (ptr b7 (0 + ((wr ((wr (4 * s12.2)) + s20.2))).toNat * 1)) := hg 24 (by decide)
                have hE := hE.sub (e' := [(24, (vI s12.2)), (25, (vI (wr (4 * s12.2)))), (26, (vI s20.2)), (27, (vI (wr ((wr (4 * s12.2)) + s20.2)))), (28, (vI s12.2)), (29, (vI (wr (4 * s12.2)))), (30, (vI s20.2)), (31, (vI (wr ((wr (4 * s12.2)) + s20.2)))), (32, (ptr b7 (0 + ((wr ((wr (4 * s12.2)) + s20.2))).toNat * 1))), (33, (vB x35)), (34, (vI p0)), (35, (vI s20.2)), (36, (vI s28.2)), (37, (ptr b1 (0 + (s20.2).toNat * 4))), (38, (ptr b1 (0 + (s20.2).toNat * 4 + (s28.2).toNat * 1))), (39, (vB x41)), (40, (vI s12.2)), (41, (vI (wr (4 * s12.2)))), (42, (vI s28.2)), (43, (vI (wr ((wr (4 * s12.2)) + s28.2)))), (44, (ptr b3 (0 + ((wr ((wr (4 * s12.2)) + s28.2))).toNat * 1))), (45, (vB x44)), (46, (vB r46)), (47, (vB (x35 ^^^ r46))), (48, (ptr b7 (0 + ((wr ((wr (4 * s12.2)) + s20.2))).toNat * 1))), (0, (vI p0)), (4, (ptr b1 0)), (5, (ptr b3 0)), (6, (ptr b5 0)), (7, (ptr b7 0)), (8, (vI s12.2)), (9, (vI s20.2)), (10, (vI s28.2)), (20, (vI s28.2)), (21, (vT (decide (s28.2 < 4))))]) ⟨lk rfl f0, lk rfl f1, lk rfl f2, lk rfl f3, lk rfl f4, lk rfl f5, lk rfl f6, lk rfl f7, lk rfl f8, lk rfl f9, lk rfl f10, lk rfl f11, lk rfl f12, lk rfl f13, lk rfl f14, lk rfl f15, lk rfl f16, lk rfl f17, lk rfl f18, lk rfl f19, lk rfl f20, lk rfl f21, lk rfl f22, lk rfl f23, lk rfl f24, rfl, rfl, rfl, rfl, rfl, rfl, rfl, rfl, rfl, rfl, trivial⟩
                refine s_store (seg := [(vB (x35 ^^^ r46))]) (cs' := Flat.enc (s28.1.setIfInBounds ((wr ((wr (4 * s12.2)) + s20.2))).toNat (x35 ^^^ r46))) hE hM goes_none rfl rfl rfl ty5 rfl (fit_vec (v := s28.1) (x := x35 ^^^ r46) hi48.1) (Flat.cell (x35 ^^^ r46 : UInt8)) (splice_vec0 (v := s28.1) (x := x35 ^^^ r46) hi48.1) ?_; intro w a hM hE
                refine c_fin0 ?_
                refine c_nb ?_
                refine c_nx ?_
                refine wp_region_lit ?_
                refine s_move hE goes_none (by decide) rfl ?_; intro a hE
                refine s_int hE goes_none (by decide) rfl rfl rfl ?_; intro a hE
                refine s_assign hE goes_none (by decide) rfl ?_; intro a hE
                refine c_fin0 ?_
                refine c_mid ?_
                exact ⟨_, (Option.some.inj hs29).symm, hE.sub ⟨rfl, rfl, rfl, rfl, rfl, rfl, rfl, rfl, trivial⟩, hM⟩
            · intro hb32
              have hs29 := ite_f hs29 hb32
              refine wp_exit (e_then (e_then (e_eq ?_)))
              have ht51 := hx30 _ (Option.some.inj hs29).symm
              subst ht51
              refine c_mid ?_
              exact ⟨hE.sub ⟨rfl, rfl, rfl, rfl, rfl, rfl, rfl, trivial⟩, hM⟩
          · skip
            rintro a w ⟨hE, hM⟩
            refine c_nb ?_
            refine c_nx ?_
            refine wp_region_lit ?_
            refine s_move hE goes_none (by decide) rfl ?_; intro a hE
            refine s_int hE goes_none (by decide) rfl rfl rfl ?_; intro a hE
            refine s_assign hE goes_none (by decide) rfl ?_; intro a hE
            refine c_fin0 ?_
            refine c_mid ?_
            exact ⟨_, (Option.some.inj hF27).symm, hE.sub ⟨rfl, rfl, rfl, rfl, rfl, rfl, rfl, trivial⟩, hM⟩
        · intro hb24
          have hs21 := ite_f hs21 hb24
          refine wp_exit (e_then (e_then (e_eq ?_)))
          have ht52 := hx22 _ (Option.some.inj hs21).symm
          subst ht52
          refine c_mid ?_
          exact ⟨hE.sub ⟨rfl, rfl, rfl, rfl, rfl, rfl, trivial⟩, hM⟩
      · skip
        rintro a w ⟨hE, hM⟩
        refine c_nb ?_
        refine c_nx ?_
        refine wp_region_lit ?_
        refine s_move hE goes_none (by decide) rfl ?_; intro a hE
        refine s_int hE goes_none (by decide) rfl rfl rfl ?_; intro a hE
        refine s_assign hE goes_none (by decide) rfl ?_; intro a hE
        refine c_fin0 ?_
        refine c_mid ?_
        exact ⟨_, (Option.some.inj hF19).symm, hE.sub ⟨rfl, rfl, rfl, rfl, rfl, rfl, trivial⟩, hM⟩
    · intro hb16
      have hs13 := ite_f hs13 hb16
      refine wp_exit (e_then (e_then (e_eq ?_)))
      have ht53 := hx14 _ (Option.some.inj hs13).symm
      subst ht53
      refine c_mid ?_
      have hM := hM.pull (pre := [_])
      have hM := hM.pull (pre := [_])
      have hM := M.fst (l := [_, _]) hM
      exact ⟨hE.sub ⟨rfl, rfl, trivial⟩, hM⟩
  · skip
    rintro a w ⟨hE, hM⟩
    refine c_nx ?_
    refine c_region ?_
    refine s_loadA (cs := Flat.enc j9) hE goes_none (by decide) rfl ty39 rfl (hM.rawAt (pre := [])) (Flat.len _) ?_; intro a hE
    have hM := hM.pull (pre := [_])
    refine s_store (seg := Flat.enc j9) (cs' := Flat.enc j9) hE hM goes_none rfl rfl rfl ty39 (Flat.len _) (Nat.le_of_eq ((Nat.zero_add _).trans (Eq.trans (Flat.len _) (Eq.symm (Flat.len _))))) (Flat.cell _) (splice_all (Eq.trans (Flat.len _) (Eq.symm (Flat.len _)))) ?_; intro w a hM hE
    refine c_fin ?_
    have hr := Option.some.inj hF11
    subst hr
    have hq54 : ResIs Try.prog _ _ (.cell 6 39) _ := res_cell hE rfl ty39 rfl (hM.rawAt (pre := [])) (Flat.len _) rfl
    have hM := M.fst (l := []) hM
    exact wp_ret (k_ret1 hE rfl hq54 ⟨_, rfl, rfl, hM.kept⟩)
noncomputable def L0_spec_l04Encipher (p0 : GCipher) (p3 : Int) (r9 : (List (Vector UInt8 16))) (s25 : (Vector UInt8 16) × Int) : Option (Fl ((Vector UInt8 16) × Int) (Vector UInt8 16)) :=
  if (decide (s25.2 ≤ p3)) = true then ((((F_spec_l04Boxes p0.Box s25.1).bind fun (r37 : (Vector UInt8 16)) => (F_spec_l03Move p0.Places r37).bind fun (r39 : (Vector UInt8 16)) => some r39 : Option ((Vector UInt8 16))).bind fun (j33 : (Vector UInt8 16)) => (if (decide (s25.2 < p3)) = true then ((F_spec_l03Mix p0.Field p0.Mix j33).bind fun (r46 : (Vector UInt8 16)) => some r46) else (some j33) : Option ((Vector UInt8 16))).bind fun (j42 : (Vector UInt8 16)) => (idx r9 s25.2).bind fun (x51 : (Vector UInt8 16)) => (F_spec_l01Xor j42 x51).bind fun (r54 : (Vector UInt8 16)) => some r54 : Option ((Vector UInt8 16))).bind fun (j30 : (Vector UInt8 16)) => some (Fl.nx (j30, wr (s25.2 + 1)))) else (some (Fl.ex s25.1))
noncomputable def F_spec_l04Encipher (p0 : GCipher) (p1 : (Vector UInt8 16)) (p2 : (Vector UInt8 16)) (p3 : Int) : Option ((Vector UInt8 16)) :=
  (F_spec_l04Keys p0 p1 p3).bind fun (r9 : (List (Vector UInt8 16))) => ((idx r9 (0 : Int)).bind fun (x16 : (Vector UInt8 16)) => (F_spec_l01Xor p2 x16).bind fun (r19 : (Vector UInt8 16)) => some r19 : Option ((Vector UInt8 16))).bind fun (j12 : (Vector UInt8 16)) => (iter (L0_spec_l04Encipher p0 p3 r9) (j12, 1) : Option ((Vector UInt8 16))).bind fun (j22 : (Vector UInt8 16)) => some j22
set_option maxRecDepth 20000 in
set_option maxHeartbeats 400000 in
theorem c_spec_l04Encipher (w0 : World) (p0 : GCipher) (p1 : (Vector UInt8 16)) (p2 : (Vector UInt8 16)) (p3 : Int) (r : (Vector UInt8 16)) (hF : F_spec_l04Encipher p0 p1 p2 p3 = some r) :
    Calls Try.prog 102 [(Value.agg (Flat.enc p0).toArray), (Value.agg (Flat.enc p1).toArray), (Value.agg (Flat.enc p2).toArray), (vI p3)].toArray w0 (fun en w' => ∃ v, en = .returned v ∧ (v = (Value.agg (Flat.enc r).toArray) ∧ Kept (Old w0) w0 w')) := by
  refine c_enter (n := 48) Try.func102 rfl rfl (Nat.le_of_ble_eq_true rfl) rfl ?_
  intro a hE
  have hM := M.start w0
  unfold F_spec_l04Encipher at hF
  refine c_region ?_
  refine s_box (cs := cat [[(vI p0.Field)], Flat.enc p0.Box, Flat.enc p0.Mix, Flat.enc p0.Places, [(vI p0.Rounds)]]) hE hM goes_none (by decide) rfl rfl ?_; intro b1 w a hM hE
  refine s_box (cs := Flat.enc p1) hE hM goes_none (by decide) rfl rfl ?_; intro b3 w a hM hE
  refine s_box (cs := Flat.enc p2) hE hM goes_none (by decide) rfl rfl ?_; intro b5 w a hM hE
  refine s_alloc hE hM goes_none (by decide) ty39 ?_; intro b7 w a hM hE
  refine c_fin ?_
  refine c_region ?_
  refine s_loadA (cs := Flat.enc p0) hE goes_none (by decide) rfl ty103 rfl (hM.rawAt (pre := [_, _, _])) (cat_len (cl1 (n := 1) (m := 289) rfl (cl1 (n := 256) (m := 33) (Flat.len _) (cl1 (n := 16) (m := 17) (Flat.len _) (cl1 (n := 16) (m := 1) (Flat.len _) (cl1 (n := 1) (m := 0) rfl cl0)))))) ?_; intro a hE
  refine s_loadA (cs := Flat.enc p1) hE goes_none (by decide) rfl ty39 rfl (hM.rawAt (pre := [_, _])) (Flat.len _) ?_; intro a hE
  refine s_move hE goes_none (by decide) rfl ?_; intro a hE
  obtain ⟨r9, e10, hF⟩ := bind_some hF
  refine s_call (vs := [(Value.agg (Flat.enc p0).toArray), (Value.agg (Flat.enc p1).toArray), (vI p3)]) hE goes_none (by decide) rfl cb119 (c_spec_l04Keys _ p0 p1 p3 r9 e10) ?_
  rintro u11 w a ⟨_, rfl, hFr, hK⟩ hE
  have hM := hM.add hK hFr
  refine s_assign hE goes_none (by decide) rfl ?_; intro a hE
  refine c_fin ?_
  obtain ⟨j12, hl13, hF14⟩ := bind_some hF
  refine c_join (fun a w => Env 48 a [(3, (vI p3)), (4, (ptr b1 0)), (6, (ptr b5 0)), (8, (ptr b7 0)), (9, u11)] ∧ M (Old w0) w0 w [osl NoB (r9 : List (Vector UInt8 16)) u11, raw b7 (Flat.enc (Vector.replicate 16 (0 : UInt8))), raw b5 (Flat.enc j12), raw b1 (cat [[(vI p0.Field)], Flat.enc p0.Box, Flat.enc p0.Mix, Flat.enc p0.Places, [(vI p0.Rounds)]])]) ?_ ?_
  · skip
    obtain ⟨x16, e17, hl13⟩ := bind_some hl13
    have hi18 := idx_some e17
    obtain ⟨r19, e20, hl13⟩ := bind_some hl13
    refine c_draw (n := 48) (hd := [_, _, _, _, _]) (tl := [_]) hmix rfl rfl [15, 16, 17, 18, 19] (by decide) (fun w => M (Old w0) w0 w [osl NoB (r9 : List (Vector UInt8 16)) u11, raw b7 (Flat.enc (Vector.replicate 16 (0 : UInt8))), raw b5 (Flat.enc p2), raw b3 (Flat.enc p1), raw b1 (cat [[(vI p0.Field)], Flat.enc p0.Box, Flat.enc p0.Mix, Flat.enc p0.Places, [(vI p0.Rounds)]])]) (fun j => ([fun v _ => v = (Value.agg (Flat.enc p2).toArray), fun v _ => v = u11, fun v _ => v = (ptr (sb u11) (so u11 + ((0 : Int)).toNat * 16)), fun v _ => v = (Value.agg (Flat.enc x16).toArray), fun v _ => v = (Value.agg (Flat.enc r19).toArray)] : List (Value → World → Prop)).getD j (fun _ _ => True)) (fun _ _ h hk => h.keep hk) (gup (gupE (gupE (gupE (gupE (gupE gupN)))))) hE hM.drew (steps_of (steps_cons ?_ (steps_cons ?_ (steps_cons ?_ (steps_cons ?_ (steps_cons ?_ steps_nil)))))) ?_
    · intro a w ux15 hE hM hp
      refine s_loadA (cs := Flat.enc p2) hE goes_none (by decide) rfl ty39 rfl (hM.rawAt (pre := [_, _])) (Flat.len _) ?_; intro a hE
      exact ⟨Kept.refl _ _, _, _, rfl, hE, rfl⟩
    · intro a w ux15 hE hM hp
      refine s_move hE goes_none (by decide) rfl ?_; intro a hE
      exact ⟨Kept.refl _ _, _, _, rfl, hE, rfl⟩
    · intro a w ux15 hE hM hp
      have f1 : ux15 1 = u11 := hp 0 _ rfl rfl
      refine s_indexS hE goes_none (by decide) (lk rfl f1) rfl Try.underlying34 ty39 (hM.sl (pre := []) noB) hi18.1 ?_; intro a hE
      exact ⟨Kept.refl _ _, _, _, rfl, hE, rfl⟩
    · intro a w ux15 hE hM hp
      have f2 : ux15 2 = (ptr (sb u11) (so u11 + ((0 : Int)).toNat * 16)) := hp 0 _ rfl rfl
      refine s_loadA (cs := Flat.enc x16) hE goes_none (by decide) (lk rfl f2) ty39 rfl (sl_atF (hM.sl (pre := []) noB) hi18.2) (Flat.len _) ?_; intro a hE
      exact ⟨Kept.refl _ _, _, _, rfl, hE, rfl⟩
    · intro a w ux15 hE hM hp
      have f0 : ux15 0 = (Value.agg (Flat.enc p2).toArray) := hp 0 _ rfl rfl
      have f3 : ux15 3 = (Value.agg (Flat.enc x16).toArray) := hp 1 _ rfl rfl
      refine s_call (vs := [(Value.agg (Flat.enc p2).toArray), (Value.agg (Flat.enc x16).toArray)]) hE goes_none (by decide) (evs_of (evsC (lk rfl f0) (evsC (lk rfl f3) evsN))) cb101 (c_spec_l01Xor _ p2 x16 r19 e20) ?_
      rintro v w a ⟨rfl, hK⟩ hE
      exact ⟨hK, _, _, rfl, hE, rfl⟩
    · intro a w ux15 hE hM hg
      have f0 : ux15 0 = (Value.agg (Flat.enc p2).toArray) := hg 0 (by decide)
      have f1 : ux15 1 = u11 := hg 1 (by decide)
      have f2 : ux15 2 = (ptr (sb u11) (so u11 + ((0 : Int)).toNat * 16)) := hg 2 (by decide)
      have f3 : ux15 3 = (Value.agg (Flat.enc x16).toArray) := hg 3 (by decide)
      have f4 : ux15 4 = (Value.agg (Flat.enc r19).toArray) := hg 4 (by decide)
      have hE := hE.sub (e' := [(15, (Value.agg (Flat.enc p2).toArray)), (16, u11), (17, (ptr (sb u11) (so u11 + ((0 : Int)).toNat * 16))), (18, (Value.agg (Flat.enc x16).toArray)), (19, (Value.agg (Flat.enc r19).toArray)), (0, (Value.agg (Flat.enc p0).toArray)), (1, (Value.agg (Flat.enc p1).toArray)), (2, (Value.agg (Flat.enc p2).toArray)), (3, (vI p3)), (4, (ptr b1 0)), (5, (ptr b3 0)), (6, (ptr b5 0)), (8, (ptr b7 0)), (9, u11), (11, (Value.agg (Flat.enc p0).toArray)), (12, (Value.agg (Flat.enc p1).toArray)), (13, (vI p3)), (14, u11)]) ⟨lk rfl f0, lk rfl f1, lk rfl f2, lk rfl f3, lk rfl f4, rfl, rfl, rfl, rfl, rfl, rfl, rfl, rfl, rfl, rfl, rfl, rfl, rfl, trivial⟩
      have hM := hM.pull (pre := [_, _])
      refine s_store (seg := Flat.enc r19) (cs' := Flat.enc r19) hE hM goes_none rfl rfl rfl ty39 (Flat.len _) (Nat.le_of_eq ((Nat.zero_add _).trans (Eq.trans (Flat.len _) (Eq.symm (Flat.len _))))) (Flat.cell _) (splice_all (Eq.trans (Flat.len _) (Eq.symm (Flat.len _)))) ?_; intro w a hM hE
      refine c_fin0 ?_
      have ht21 := Option.some.inj hl13
      subst ht21
      refine c_mid ?_
      have hM := hM.pull (pre := [_, _, _, _])
      have hM := hM.pull (pre := [_])
      have hM := hM.pull (pre := [_, _, _])
      have hM := hM.pull (pre := [_, _, _])
      have hM := M.fst (l := [_, _, _, _]) hM
      exact ⟨hE.sub ⟨rfl, rfl, rfl, rfl, rfl, trivial⟩, hM⟩
  · skip
    rintro a w ⟨hE, hM⟩
    refine wp_seq ?_
    refine c_region ?_
    refine s_assign hE goes_none (by decide) rfl ?_; intro a hE
    refine c_fin ?_
    obtain ⟨j22, hl23, hF24⟩ := bind_some hF14
    refine c_cut (fun a w => Env 48 a [(6, (ptr b5 0)), (8, (ptr b7 0))] ∧ M (Old w0) w0 w [raw b7 (Flat.enc (Vector.replicate 16 (0 : UInt8))), raw b5 (Flat.enc j22)]) ?_ ?_
    · skip
      refine wp_block ?_
      refine c_loop (fun (s25 : (Vector UInt8 16) × Int) a w => Env 48 a [(3, (vI p3)), (4, (ptr b1 0)), (6, (ptr b5 0)), (8, (ptr b7 0)), (9, u11), (10, (vI s25.2))] ∧ M (Old w0) w0 w [osl NoB (r9 : List (Vector UInt8 16)) u11, raw b7 (Flat.enc (Vector.replicate 16 (0 : UInt8))), raw b5 (Flat.enc s25.1), raw b1 (cat [[(vI p0.Field)], Flat.enc p0.Box, Flat.enc p0.Mix, Flat.enc p0.Places, [(vI p0.Rounds)]])]) hl23 ⟨hE.sub ⟨rfl, rfl, rfl, rfl, rfl, rfl, trivial⟩, hM⟩ ?_
      rintro s25 a w ⟨hE, hM⟩ o28 hs26 hx27
      unfold L0_spec_l04Encipher at hs26
      refine wp_seq ?_
      refine c_region ?_
      refine s_move hE goes_none (by decide) rfl ?_; intro a hE
      refine s_move hE goes_none (by decide) rfl ?_; intro a hE
      refine s_int hE goes_none (by decide) rfl rfl rfl ?_; intro a hE
      refine c_fin ?_
      refine c_cond hE rfl ?_ ?_
      · intro hb29
        have hs26 := ite_t hs26 hb29
        refine wp_skip ?_
        refine c_nx ?_
        obtain ⟨j30, hl31, hF32⟩ := bind_some hs26
        refine c_join (fun a w => Env 48 a [(3, (vI p3)), (4, (ptr b1 0)), (6, (ptr b5 0)), (8, (ptr b7 0)), (9, u11), (10, (vI s25.2))] ∧ M (Old w0) w0 w [osl NoB (r9 : List (Vector UInt8 16)) u11, raw b7 (Flat.enc (Vector.replicate 16 (0 : UInt8))), raw b5 (Flat.enc j30), raw b1 (cat [[(vI p0.Field)], Flat.enc p0.Box, Flat.enc p0.Mix, Flat.enc p0.Places, [(vI p0.Rounds)]])]) ?_ ?_
        · skip
          refine wp_block ?_
          obtain ⟨j33, hl34, hF35⟩ := bind_some hl31
          refine c_join (fun a w => Env 48 a [(3, (vI p3)), (4, (ptr b1 0)), (6, (ptr b5 0)), (8, (ptr b7 0)), (9, u11), (10, (vI s25.2))] ∧ M (Old w0) w0 w [osl NoB (r9 : List (Vector UInt8 16)) u11, raw b7 (Flat.enc (Vector.replicate 16 (0 : UInt8))), raw b5 (Flat.enc j33), raw b1 (cat [[(vI p0.Field)], Flat.enc p0.Box, Flat.enc p0.Mix, Flat.enc p0.Places, [(vI p0.Rounds)]])]) ?_ ?_
          · skip
            obtain ⟨r37, e38, hl34⟩ := bind_some hl34
            obtain ⟨r39, e40, hl34⟩ := bind_some hl34
            refine c_draw (n := 48) (hd := [_, _, _, _, _, _, _]) (tl := [_]) hmix rfl rfl [25, 26, 27, 28, 29, 30, 31] (by decide) (fun w => M (Old w0) w0 w [osl NoB (r9 : List (Vector UInt8 16)) u11, raw b7 (Flat.enc (Vector.replicate 16 (0 : UInt8))), raw b5 (Flat.enc s25.1), raw b1 (cat [[(vI p0.Field)], Flat.enc p0.Box, Flat.enc p0.Mix, Flat.enc p0.Places, [(vI p0.Rounds)]])]) (fun j => ([fun v _ => v = (ptr b1 (0 + 273)), fun v _ => v = (Value.agg (Flat.enc p0.Places).toArray), fun v _ => v = (ptr b1 (0 + 1)), fun v _ => v = (Value.agg (Flat.enc p0.Box).toArray), fun v _ => v = (Value.agg (Flat.enc s25.1).toArray), fun v _ => v = (Value.agg (Flat.enc r37).toArray), fun v _ => v = (Value.agg (Flat.enc r39).toArray)] : List (Value → World → Prop)).getD j (fun _ _ => True)) (fun _ _ h hk => h.keep hk) (gup (gupE (gupE (gupE (gupE (gupE (gupE (gupE gupN)))))))) hE hM.drew (steps_of (steps_cons ?_ (steps_cons ?_ (steps_cons ?_ (steps_cons ?_ (steps_cons ?_ (steps_cons ?_ (steps_cons ?_ steps_nil)))))))) ?_
            · intro a w ux36 hE hM hp
              refine s_fieldAddr hE goes_none (by decide) rfl (fd103_3) ?_; intro a hE
              exact ⟨Kept.refl _ _, _, _, rfl, hE, rfl⟩
            · intro a w ux36 hE hM hp
              have f0 : ux36 0 = (ptr b1 (0 + 273)) := hp 0 _ rfl rfl
              refine s_loadA (cs := Flat.enc p0.Places) hE goes_none (by decide) (lk rfl f0) ty101 rfl (At.cat (pre := [[(vI p0.Field)], Flat.enc p0.Box, Flat.enc p0.Mix]) (seg := Flat.enc p0.Places) (post := [[(vI p0.Rounds)]]) (hM.rawAt (pre := [_, _, _])) (cl1 (n := 1) (m := 272) rfl (cl1 (n := 256) (m := 16) (Flat.len _) (cl1 (n := 16) (m := 0) (Flat.len _) cl0)))) (Flat.len _) ?_; intro a hE
              exact ⟨Kept.refl _ _, _, _, rfl, hE, rfl⟩
            · intro a w ux36 hE hM hp
              refine s_fieldAddr hE goes_none (by decide) rfl (fd103_1) ?_; intro a hE
              exact ⟨Kept.refl _ _, _, _, rfl, hE, rfl⟩
            · intro a w ux36 hE hM hp
              have f2 : ux36 2 = (ptr b1 (0 + 1)) := hp 0 _ rfl rfl
              refine s_loadA (cs := Flat.enc p0.Box) hE goes_none (by decide) (lk rfl f2) ty97 rfl (At.cat (pre := [[(vI p0.Field)]]) (seg := Flat.enc p0.Box) (post := [Flat.enc p0.Mix, Flat.enc p0.Places, [(vI p0.Rounds)]]) (hM.rawAt (pre := [_, _, _])) (cl1 (n := 1) (m := 0) rfl cl0)) (Flat.len _) ?_; intro a hE
              exact ⟨Kept.refl _ _, _, _, rfl, hE, rfl⟩
            · intro a w ux36 hE hM hp
              refine s_loadA (cs := Flat.enc s25.1) hE goes_none (by decide) rfl ty39 rfl (hM.rawAt (pre := [_, _])) (Flat.len _) ?_; intro a hE
              exact ⟨Kept.refl _ _, _, _, rfl, hE, rfl⟩
            · intro a w ux36 hE hM hp
              have f3 : ux36 3 = (Value.agg (Flat.enc p0.Box).toArray) := hp 0 _ rfl rfl
              have f4 : ux36 4 = (Value.agg (Flat.enc s25.1).toArray) := hp 1 _ rfl rfl
              refine s_call (vs := [(Value.agg (Flat.enc p0.Box).toArray), (Value.agg (Flat.enc s25.1).toArray)]) hE goes_none (by decide) (evs_of (evsC (lk rfl f3) (evsC (lk rfl f4) evsN))) cb121 (c_spec_l04Boxes _ p0.Box s25.1 r37 e38) ?_
              rintro v w a ⟨rfl, hK⟩ hE
              exact ⟨hK, _, _, rfl, hE, rfl⟩
            · intro a w ux36 hE hM hp
              have f1 : ux36 1 = (Value.agg (Flat.enc p0.Places).toArray) := hp 0 _ rfl rfl
              have f5 : ux36 5 = (Value.agg (Flat.enc r37).toArray) := hp 1 _ rfl rfl
              refine s_call (vs := [(Value.agg (Flat.enc p0.Places).toArray), (Value.agg (Flat.enc r37).toArray)]) hE goes_none (by decide) (evs_of (evsC (lk rfl f1) (evsC (lk rfl f5) evsN))) cb120 (c_spec_l03Move _ p0.Places r37 r39 e40) ?_
              rintro v w a ⟨rfl, hK⟩ hE
              exact ⟨hK, _, _, rfl, hE, rfl⟩
            · intro a w ux36 hE hM hg
              have f0 : ux36 0 = (ptr b1 (0 + 273)) := hg 0 (by decide)
              have f1 : ux36 1 = (Value.agg (Flat.enc p0.Places).toArray) := hg 1 (by decide)
              have f2 : ux36 2 = (ptr b1 (0 + 1)) := hg 2 (by decide)
              have f3 : ux36 3 = (Value.agg (Flat.enc p0.Box).toArray) := hg 3 (by decide)
              have f4 : ux36 4 = (Value.agg (Flat.enc s25.1).toArray) := hg 4 (by decide)
              have f5 : ux36 5 = (Value.agg (Flat.enc r37).toArray) := hg 5 (by decide)
              have f6 : ux36 6 = (Value.agg (Flat.enc r39).toArray) := hg 6 (by decide)
              have hE := hE.sub (e' := [(25, (ptr b1 (0 + 273))), (26, (Value.agg (Flat.enc p0.Places).toArray)), (27, (ptr b1 (0 + 1))), (28, (Value.agg (Flat.enc p0.Box).toArray)), (29, (Value.agg (Flat.enc s25.1).toArray)), (30, (Value.agg (Flat.enc r37).toArray)), (31, (Value.agg (Flat.enc r39).toArray)), (3, (vI p3)), (4, (ptr b1 0)), (6, (ptr b5 0)), (8, (ptr b7 0)), (9, u11), (10, (vI s25.2)), (20, (vI s25.2)), (21, (vI p3)), (22, (vT (decide (s25.2 ≤ p3))))]) ⟨lk rfl f0, lk rfl f1, lk rfl f2, lk rfl f3, lk rfl f4, lk rfl f5, lk rfl f6, rfl, rfl, rfl, rfl, rfl, rfl, rfl, rfl, rfl, trivial⟩
              have hM := hM.pull (pre := [_, _])
              refine s_store (seg := Flat.enc r39) (cs' := Flat.enc r39) hE hM goes_none rfl rfl rfl ty39 (Flat.len _) (Nat.le_of_eq ((Nat.zero_add _).trans (Eq.trans (Flat.len _) (Eq.symm (Flat.len _))))) (Flat.cell _) (splice_all (Eq.trans (Flat.len _) (Eq.symm (Flat.len _)))) ?_; intro w a hM hE
              refine c_fin0 ?_
              have ht41 := Option.some.inj hl34
              subst ht41
              refine c_mid ?_
              have hM := hM.pull (pre := [_, _, _])
              have hM := hM.pull (pre := [_])
              have hM := hM.pull (pre := [_, _, _])
              have hM := hM.pull (pre := [_, _, _])
              exact ⟨hE.sub ⟨rfl, rfl, rfl, rfl, rfl, rfl, trivial⟩, hM⟩
          · skip
            rintro a w ⟨hE, hM⟩
            obtain ⟨j42, hl43, hF44⟩ := bind_some hF35
            refine c_join (fun a w => Env 48 a [(3, (vI p3)), (4, (ptr b1 0)), (6, (ptr b5 0)), (8, (ptr b7 0)), (9, u11), (10, (vI s25.2))] ∧ M (Old w0) w0 w [osl NoB (r9 : List (Vector UInt8 16)) u11, raw b7 (Flat.enc (Vector.replicate 16 (0 : UInt8))), raw b5 (Flat.enc j42), raw b1 (cat [[(vI p0.Field)], Flat.enc p0.Box, Flat.enc p0.Mix, Flat.enc p0.Places, [(vI p0.Rounds)]])]) ?_ ?_
            · skip
              refine c_region ?_
              refine s_move hE goes_none (by decide) rfl ?_; intro a hE
              refine s_move hE goes_none (by decide) rfl ?_; intro a hE
              refine s_int hE goes_none (by decide) rfl rfl rfl ?_; intro a hE
              refine c_fin ?_
              refine c_cond hE rfl ?_ ?_
              · intro hb45
                have hl43 := ite_t hl43 hb45
                refine wp_region_lit ?_
                refine s_fieldAddr hE goes_none (by decide) rfl (fd103_0) ?_; intro a hE
                refine s_load (v := (vI p0.Field)) hE goes_none (by decide) rfl ty2 rfl (At.cat (pre := []) (seg := [(vI p0.Field)]) (post := [Flat.enc p0.Box, Flat.enc p0.Mix, Flat.enc p0.Places, [(vI p0.Rounds)]]) (hM.rawAt (pre := [_, _, _])) cl0) ?_; intro a hE
                refine s_fieldAddr hE goes_none (by decide) rfl (fd103_2) ?_; intro a hE
                refine s_loadA (cs := Flat.enc p0.Mix) hE goes_none (by decide) rfl ty100 rfl (At.cat (pre := [[(vI p0.Field)], Flat.enc p0.Box]) (seg := Flat.enc p0.Mix) (post := [Flat.enc p0.Places, [(vI p0.Rounds)]]) (hM.rawAt (pre := [_, _, _])) (cl1 (n := 1) (m := 256) rfl (cl1 (n := 256) (m := 0) (Flat.len _) cl0))) (Flat.len _) ?_; intro a hE
                refine s_loadA (cs := Flat.enc j33) hE goes_none (by decide) rfl ty39 rfl (hM.rawAt (pre := [_, _])) (Flat.len _) ?_; intro a hE
                obtain ⟨r46, e47, hl43⟩ := bind_some hl43
                refine s_call (vs := [(vI p0.Field), (Value.agg (Flat.enc p0.Mix).toArray), (Value.agg (Flat.enc j33).toArray)]) hE goes_none (by decide) rfl cb122 (c_spec_l03Mix _ p0.Field p0.Mix j33 r46 e47) ?_
                rintro v w a ⟨rfl, hK⟩ hE
                have hM := hM.keep hK
                have hM := hM.pull (pre := [_, _])
                refine s_store (seg := Flat.enc r46) (cs' := Flat.enc r46) hE hM goes_none rfl rfl rfl ty39 (Flat.len _) (Nat.le_of_eq ((Nat.zero_add _).trans (Eq.trans (Flat.len _) (Eq.symm (Flat.len _))))) (Flat.cell _) (splice_all (Eq.trans (Flat.len _) (Eq.symm (Flat.len _)))) ?_; intro w a hM hE
                refine c_fin0 ?_
                have ht48 := Option.some.inj hl43
                subst ht48
                refine c_mid ?_
                have hM := hM.pull (pre := [_, _, _])
                have hM := hM.pull (pre := [_])
                have hM := hM.pull (pre := [_, _, _])
                have hM := hM.pull (pre := [_, _, _])
                exact ⟨hE.sub ⟨rfl, rfl, rfl, rfl, rfl, rfl, trivial⟩, hM⟩
              · intro hb45
                have hl43 := ite_f hl43 hb45
                refine wp_skip ?_
                have ht49 := Option.some.inj hl43
                subst ht49
                refine c_mid ?_
                exact ⟨hE.sub ⟨rfl, rfl, rfl, rfl, rfl, rfl, trivial⟩, hM⟩
            · skip
              rintro a w ⟨hE, hM⟩
              obtain ⟨x51, e52, hF44⟩ := bind_some hF44
              have hi53 := idx_some e52
              obtain ⟨r54, e55, hF44⟩ := bind_some hF44
              refine c_draw (n := 48) (hd := [_, _, _, _, _, _]) (tl := [_]) hmix rfl rfl [41, 42, 43, 44, 45, 46] (by decide) (fun w => M (Old w0) w0 w [osl NoB (r9 : List (Vector UInt8 16)) u11, raw b7 (Flat.enc (Vector.replicate 16 (0 : UInt8))), raw b5 (Flat.enc j42), raw b1 (cat [[(vI p0.Field)], Flat.enc p0.Box, Flat.enc p0.Mix, Flat.enc p0.Places, [(vI p0.Rounds)]])]) (fun j => ([fun v _ => v = (Value.agg (Flat.enc j42).toArray), fun v _ => v = u11, fun v _ => v = (vI s25.2), fun v _ => v = (ptr (sb u11) (so u11 + (s25.2).toNat * 16)), fun v _ => v = (Value.agg (Flat.enc x51).toArray), fun v _ => v = (Value.agg (Flat.enc r54).toArray)] : List (Value → World → Prop)).getD j (fun _ _ => True)) (fun _ _ h hk => h.keep hk) (gup (gupE (gupE (gupE (gupE (gupE (gupE gupN))))))) hE hM.drew (steps_of (steps_cons ?_ (steps_cons ?_ (steps_cons ?_ (steps_cons ?_ (steps_cons ?_ (steps_cons ?_ steps_nil))))))) ?_
              · intro a w ux50 hE hM hp
                refine s_loadA (cs := Flat.enc j42) hE goes_none (by decide) rfl ty39 rfl (hM.rawAt (pre := [_, _])) (Flat.len _) ?_; intro a hE
                exact ⟨Kept.refl _ _, _, _, rfl, hE, rfl⟩
              · intro a w ux50 hE hM hp
                refine s_move hE goes_none (by decide) rfl ?_; intro a hE
                exact ⟨Kept.refl _ _, _, _, rfl, hE, rfl⟩
              · intro a w ux50 hE hM hp
                refine s_move hE goes_none (by decide) rfl ?_; intro a hE
                exact ⟨Kept.refl _ _, _, _, rfl, hE, rfl⟩
              · intro a w ux50 hE hM hp
                have f1 : ux50 1 = u11 := hp 0 _ rfl rfl
                have f2 : ux50 2 = (vI s25.2) := hp 1 _ rfl rfl
                refine s_indexS hE goes_none (by decide) (lk rfl f1) (lk rfl f2) Try.underlying34 ty39 (hM.sl (pre := []) noB) hi53.1 ?_; intro a hE
                exact ⟨Kept.refl _ _, _, _, rfl, hE, rfl⟩
              · intro a w ux50 hE hM hp
                have f3 : ux50 3 = (ptr (sb u11) (so u11 + (s25.2).toNat * 16)) := hp 0 _ rfl rfl
                refine s_loadA (cs := Flat.enc x51) hE goes_none (by decide) (lk rfl f3) ty39 rfl (sl_atF (hM.sl (pre := []) noB) hi53.2) (Flat.len _) ?_; intro a hE
                exact ⟨Kept.refl _ _, _, _, rfl, hE, rfl⟩
              · intro a w ux50 hE hM hp
                have f0 : ux50 0 = (Value.agg (Flat.enc j42).toArray) := hp 0 _ rfl rfl
                have f4 : ux50 4 = (Value.agg (Flat.enc x51).toArray) := hp 1 _ rfl rfl
                refine s_call (vs := [(Value.agg (Flat.enc j42).toArray), (Value.agg (Flat.enc x51).toArray)]) hE goes_none (by decide) (evs_of (evsC (lk rfl f0) (evsC (lk rfl f4) evsN))) cb101 (c_spec_l01Xor _ j42 x51 r54 e55) ?_
                rintro v w a ⟨rfl, hK⟩ hE
                exact ⟨hK, _, _, rfl, hE, rfl⟩
              · intro a w ux50 hE hM hg
                have f0 : ux50 0 = (Value.agg (Flat.enc j42).toArray) := hg 0 (by decide)
                have f1 : ux50 1 = u11 := hg 1 (by decide)
                have f2 : ux50 2 = (vI s25.2) := hg 2 (by decide)
                have f3 : ux50 3 = (ptr (sb u11) (so u11 + (s25.2).toNat * 16)) := hg 3 (by decide)
                have f4 : ux50 4 = (Value.agg (Flat.enc x51).toArray) := hg 4 (by decide)
                have f5 : ux50 5 = (Value.agg (Flat.enc r54).toArray) := hg 5 (by decide)
                have hE := hE.sub (e' := [(41, (Value.agg (Flat.enc j42).toArray)), (42, u11), (43, (vI s25.2)), (44, (ptr (sb u11) (so u11 + (s25.2).toNat * 16))), (45, (Value.agg (Flat.enc x51).toArray)), (46, (Value.agg (Flat.enc r54).toArray)), (3, (vI p3)), (4, (ptr b1 0)), (6, (ptr b5 0)), (8, (ptr b7 0)), (9, u11), (10, (vI s25.2))]) ⟨lk rfl f0, lk rfl f1, lk rfl f2, lk rfl f3, lk rfl f4, lk rfl f5, rfl, rfl, rfl, rfl, rfl, rfl, trivial⟩
                have hM := hM.pull (pre := [_, _])
                refine s_store (seg := Flat.enc r54) (cs' := Flat.enc r54) hE hM goes_none rfl rfl rfl ty39 (Flat.len _) (Nat.le_of_eq ((Nat.zero_add _).trans (Eq.trans (Flat.len _) (Eq.symm (Flat.len _))))) (Flat.cell _) (splice_all (Eq.trans (Flat.len _) (Eq.symm (Flat.len _)))) ?_; intro w a hM hE
                refine c_fin0 ?_
                refine c_nb ?_
                have ht56 := Option.some.inj hF44
                subst ht56
                refine c_mid ?_
                have hM := hM.pull (pre := [_, _, _])
                have hM := hM.pull (pre := [_])
                have hM := hM.pull (pre := [_, _, _])
                have hM := hM.pull (pre := [_, _, _])
                exact ⟨hE.sub ⟨rfl, rfl, rfl, rfl, rfl, rfl, trivial⟩, hM⟩
        · skip
          rintro a w ⟨hE, hM⟩
          refine wp_region_lit ?_
          refine s_move hE goes_none (by decide) rfl ?_; intro a hE
          refine s_int hE goes_none (by decide) rfl rfl rfl ?_; intro a hE
          refine s_assign hE goes_none (by decide) rfl ?_; intro a hE
          refine c_fin0 ?_
          refine c_mid ?_
          exact ⟨_, (Option.some.inj hF32).symm, hE.sub ⟨rfl, rfl, rfl, rfl, rfl, rfl, trivial⟩, hM⟩
      · intro hb29
        have hs26 := ite_f hs26 hb29
        refine wp_exit (e_then (e_then (e_eq ?_)))
        have ht57 := hx27 _ (Option.some.inj hs26).symm
        subst ht57
        refine c_mid ?_
        have hM := hM.pull (pre := [_, _])
        have hM := hM.pull (pre := [_, _])
        have hM := M.fst (l := [_, _]) hM
        exact ⟨hE.sub ⟨rfl, rfl, trivial⟩, hM⟩
    · skip
      rintro a w ⟨hE, hM⟩
      refine c_nx ?_
      refine c_region ?_
      refine s_loadA (cs := Flat.enc j22) hE goes_none (by decide) rfl ty39 rfl (hM.rawAt (pre := [_])) (Flat.len _) ?_; intro a hE
      refine s_store (seg := Flat.enc j22) (cs' := Flat.enc j22) hE hM goes_none rfl rfl rfl ty39 (Flat.len _) (Nat.le_of_eq ((Nat.zero_add _).trans (Eq.trans (Flat.len _) (Eq.symm (Flat.len _))))) (Flat.cell _) (splice_all (Eq.trans (Flat.len _) (Eq.symm (Flat.len _)))) ?_; intro w a hM hE
      refine c_fin ?_
      have hr := Option.some.inj hF24
      subst hr
      have hq58 : ResIs Try.prog _ _ (.cell 8 39) _ := res_cell hE rfl ty39 rfl (hM.rawAt (pre := [])) (Flat.len _) rfl
      have hM := M.fst (l := []) hM
      exact wp_ret (k_ret1 hE rfl hq58 ⟨_, rfl, rfl, hM.kept⟩)
noncomputable def L0_spec_l08Absorb (r31 : (Vector UInt8 16)) (r40 : (Vector UInt8 16)) (s51 : (Vector UInt8 32) × Int) : Option (Fl ((Vector UInt8 32) × Int) (Vector UInt8 32)) :=
  if (decide (s51.2 < 16)) = true then ((vidx r31 s51.2).bind fun (x57 : UInt8) => (vidx s51.1 s51.2).bind fun (x60 : UInt8) => (vidx r40 s51.2).bind fun (x63 : UInt8) => (vidx (s51.1.setIfInBounds (s51.2).toNat x57) (wr (16 + s51.2))).bind fun (x66 : UInt8) => some (Fl.nx (((s51.1.setIfInBounds (s51.2).toNat x57).setIfInBounds ((wr (16 + s51.2))).toNat x63), wr (s51.2 + 1)))) else (some (Fl.ex s51.1))
noncomputable def F_spec_l08Absorb (p0 : GCipher) (p1 : (Vector UInt8 32)) (p2 : (Vector UInt8 16)) : Option ((Vector UInt8 32)) :=
  (F_spec_l08Halves p1).bind fun (r9 : (Vector UInt8 16) × (Vector UInt8 16)) => (F_spec_l01Xor r9.1 p2).bind fun (r16 : (Vector UInt8 16)) => (F_spec_l01Xor r9.2 p2).bind fun (r18 : (Vector UInt8 16)) => (F_spec_l04Encipher p0 r9.2 r16 p0.Rounds).bind fun (r29 : (Vector UInt8 16)) => (F_spec_l01Xor r29 r16).bind fun (r31 : (Vector UInt8 16)) => (F_spec_l04Encipher p0 r31 r18 p0.Rounds).bind fun (r38 : (Vector UInt8 16)) => (F_spec_l01Xor r38 r18).bind fun (r40 : (Vector UInt8 16)) => (iter (L0_spec_l08Absorb r31 r40) ((Vector.replicate 32 (0 : UInt8)), 0) : Option ((Vector UInt8 32))).bind fun (j48 : (Vector UInt8 32)) => some j48
end Go.Proofs.Ytifdeoikcebbjaa
