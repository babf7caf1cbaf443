/- The walk of what the law reaches: contracts of functions. -/
import Derived.Test.YtifdeoikcebbjaaGreatK2
import Derived.Test.YtifdeoikcebbjaaGreatProg
set_option linter.unusedVariables false
set_option linter.unusedSimpArgs false
set_option maxRecDepth 20000
set_option maxHeartbeats 400000
namespace Go.Proofs.YtifdeoikcebbjaaGreat
open Go
open Flat (enc)
structure GRecord where
 Number : Int
 Version : Int
 Nonce : (Vector UInt8 16)
 Label : (List UInt8)
 Body : (List UInt8)
 Tag : (Vector UInt8 32)
 deriving DecidableEq, Inhabited
instance : Dat GRecord := ⟨fun x => Dat.bd (α := Int × Int × (Vector UInt8 16) × (List UInt8) × (List UInt8) × (Vector UInt8 32)) (x.Number, x.Version, x.Nonce, x.Label, x.Body, x.Tag), fun x => Dat.sz (α := Int × Int × (Vector UInt8 16) × (List UInt8) × (List UInt8) × (Vector UInt8 32)) (x.Number, x.Version, x.Nonce, x.Label, x.Body, x.Tag) + 1⟩
instance : Rep GRecord := repIso (α := Int × Int × (Vector UInt8 16) × (List UInt8) × (List UInt8) × (Vector UInt8 32)) (fun x => (x.Number, x.Version, x.Nonce, x.Label, x.Body, x.Tag))
theorem UF {S : Nat → Prop} {w : World} {x : GRecord} {cs : List Value} {fp : List Nat} (h : Rep.sat S w x cs fp) : ∃ (u1 : Value) (u2 : Value), ∃ (g1 : List Nat) (g2 : List Nat), cs = cat [enc x.Number, enc x.Version, enc x.Nonce, [u1], [u2], enc x.Tag] ∧ fp = (g1 ++ g2) ∧ Rep.sat S w x.Label [u1] g1 ∧ Rep.sat S w x.Body [u2] g2 := by
 obtain ⟨c0, d0, f0, q0, rfl, rfl, h0, hr0⟩ := h
 obtain ⟨rfl, rfl⟩ := h0
 obtain ⟨c1, d1, f1, q1, rfl, rfl, h1, hr1⟩ := hr0
 obtain ⟨rfl, rfl⟩ := h1
 obtain ⟨c2, d2, f2, q2, rfl, rfl, h2, hr2⟩ := hr1
 obtain ⟨rfl, rfl⟩ := h2
 obtain ⟨c3, d3, f3, q3, rfl, rfl, h3, hr3⟩ := hr2
 obtain ⟨u1, rfl⟩ := T5 h3
 obtain ⟨c4, d4, f4, q4, rfl, rfl, h4, hr4⟩ := hr3
 obtain ⟨u2, rfl⟩ := T5 h4
 obtain ⟨rfl, rfl⟩ := hr4
 exact ⟨u1, u2, _, _, rfl, by simp, h3, h4⟩
theorem HB {S : Nat → Prop} {w : World} {x : GRecord} {u1 u2 : Value} {fp : List Nat} (h : Rep.sat S w x (cat [enc x.Number, enc x.Version, enc x.Nonce, [u1], [u2], enc x.Tag]) fp) : ∃ (g1 : List Nat) (g2 : List Nat), fp = (g1 ++ g2) ∧ Rep.sat S w x.Label [u1] g1 ∧ Rep.sat S w x.Body [u2] g2 := by
 obtain ⟨w1, w2, g1, g2, hc, hf, s1, s2⟩ := UF h
 obtain ⟨e1, k1⟩ := V1 hc rfl
 obtain ⟨e2, k2⟩ := V1 k1 rfl
 obtain ⟨e3, k3⟩ := V1 k2 rfl
 obtain ⟨e4, k4⟩ := V1 k3 rfl
 obtain ⟨e5, k5⟩ := V1 k4 rfl
 obtain rfl := (List.cons.inj e4).1
 obtain rfl := (List.cons.inj e5).1
 exact ⟨g1, g2, hf, s1, s2⟩
theorem Y8 {S : Nat → Prop} {w : World} {x : GRecord} {cs : List Value} (h : Rep.sat S w x cs []) : ∃ u1 u2, cs = cat [enc x.Number, enc x.Version, enc x.Nonce, [u1], [u2], enc x.Tag] ∧ Rep.sat S w x.Label [u1] [] ∧ Rep.sat S w x.Body [u2] [] := by
 obtain ⟨c0, d0, f0, g0, rfl, hf0, h0, hr0⟩ := h
 obtain ⟨rfl, rfl⟩ := List.append_eq_nil_iff.1 hf0.symm
 obtain ⟨rfl, _⟩ := h0
 obtain ⟨c1, d1, f1, g1, rfl, hf1, h1, hr1⟩ := hr0
 obtain ⟨rfl, rfl⟩ := List.append_eq_nil_iff.1 hf1.symm
 obtain ⟨rfl, _⟩ := h1
 obtain ⟨c2, d2, f2, g2, rfl, hf2, h2, hr2⟩ := hr1
 obtain ⟨rfl, rfl⟩ := List.append_eq_nil_iff.1 hf2.symm
 obtain ⟨rfl, _⟩ := h2
 obtain ⟨c3, d3, f3, g3, rfl, hf3, h3, hr3⟩ := hr2
 obtain ⟨rfl, rfl⟩ := List.append_eq_nil_iff.1 hf3.symm
 obtain ⟨u1, rfl⟩ := T5 h3
 obtain ⟨c4, d4, f4, g4, rfl, hf4, h4, hr4⟩ := hr3
 obtain ⟨rfl, rfl⟩ := List.append_eq_nil_iff.1 hf4.symm
 obtain ⟨u2, rfl⟩ := T5 h4
 obtain ⟨rfl, _⟩ := hr4
 exact ⟨u1, u2, rfl, h3, h4⟩
theorem UG {S : Nat → Prop} {w : World} {x : GRecord} {u1 u2 : Value} {g1 g2 fp : List Nat} (h1 : Rep.sat S w x.Label [u1] g1) (h2 : Rep.sat S w x.Body [u2] g2) (hfp : fp = (g1 ++ g2)) : Rep.sat S w x (cat [enc x.Number, enc x.Version, enc x.Nonce, [u1], [u2], enc x.Tag]) fp := by
 rw [hfp]
 refine ⟨_, _, [], (g1 ++ g2), rfl, (by simp), ⟨rfl, rfl⟩, ?_⟩
 refine ⟨_, _, [], (g1 ++ g2), rfl, (by simp), ⟨rfl, rfl⟩, ?_⟩
 refine ⟨_, _, [], (g1 ++ g2), rfl, (by simp), ⟨rfl, rfl⟩, ?_⟩
 refine ⟨_, _, g1, g2, rfl, (by simp), h1, ?_⟩
 refine ⟨_, _, g2, [], rfl, (by simp), h2, ?_⟩
 exact ⟨rfl, rfl⟩
theorem zl (w : World) : Rep.sat NoB w (⟨(0 : Int), (0 : Int), (Vector.replicate 16 (0 : UInt8)), ([] : (List UInt8)), ([] : (List UInt8)), (Vector.replicate 32 (0 : UInt8))⟩ : GRecord) (cat [(enc (0 : Int)), (enc (0 : Int)), (enc (Vector.replicate 16 (0 : UInt8))), [.slice none 0 0], [.slice none 0 0], (enc (Vector.replicate 32 (0 : UInt8)))]) [] := UG Qk Qk rfl
structure GEvent where
 Kind : Int
 Number : Int
 Tag : (Vector UInt8 32)
 deriving DecidableEq, Inhabited
instance : Dat GEvent := ⟨fun x => Dat.bd (α := Int × Int × (Vector UInt8 32)) (x.Kind, x.Number, x.Tag), fun x => Dat.sz (α := Int × Int × (Vector UInt8 32)) (x.Kind, x.Number, x.Tag) + 1⟩
instance : Flat GEvent where
 n := 34
 enc x := cat [enc x.Kind, enc x.Number, enc x.Tag]
 len x := ZC (cl1 (Flat.len _) (cl1 (Flat.len _) (cl1 (Flat.len _) cl0)))
 cell x := WD (cc1 (Flat.cell _) (cc1 (Flat.cell _) (cc1 (Flat.cell _) cc0)))
structure GVault where
 Keys : (List (Vector UInt8 16))
 Next : Int
 Records : (List GRecord)
 Events : (List GEvent)
 Head : (Vector UInt8 32)
 deriving DecidableEq, Inhabited
instance : Dat GVault := ⟨fun x => Dat.bd (α := (List (Vector UInt8 16)) × Int × (List GRecord) × (List GEvent) × (Vector UInt8 32)) (x.Keys, x.Next, x.Records, x.Events, x.Head), fun x => Dat.sz (α := (List (Vector UInt8 16)) × Int × (List GRecord) × (List GEvent) × (Vector UInt8 32)) (x.Keys, x.Next, x.Records, x.Events, x.Head) + 1⟩
instance : Rep GVault := repIso (α := (List (Vector UInt8 16)) × Int × (List GRecord) × (List GEvent) × (Vector UInt8 32)) (fun x => (x.Keys, x.Next, x.Records, x.Events, x.Head))
theorem yP {S : Nat → Prop} {w : World} {x : GVault} {cs : List Value} {fp : List Nat} (h : Rep.sat S w x cs fp) : ∃ (u1 : Value) (u2 : Value) (u3 : Value), ∃ (g1 : List Nat) (g2 : List Nat) (g3 : List Nat), cs = cat [[u1], enc x.Next, [u2], [u3], enc x.Head] ∧ fp = (g1 ++ (g2 ++ g3)) ∧ Rep.sat S w x.Keys [u1] g1 ∧ Rep.sat S w x.Records [u2] g2 ∧ Rep.sat S w x.Events [u3] g3 := by
 obtain ⟨c0, d0, f0, q0, rfl, rfl, h0, hr0⟩ := h
 obtain ⟨u1, rfl⟩ := T5 h0
 obtain ⟨c1, d1, f1, q1, rfl, rfl, h1, hr1⟩ := hr0
 obtain ⟨rfl, rfl⟩ := h1
 obtain ⟨c2, d2, f2, q2, rfl, rfl, h2, hr2⟩ := hr1
 obtain ⟨u2, rfl⟩ := T5 h2
 obtain ⟨c3, d3, f3, q3, rfl, rfl, h3, hr3⟩ := hr2
 obtain ⟨u3, rfl⟩ := T5 h3
 obtain ⟨rfl, rfl⟩ := hr3
 exact ⟨u1, u2, u3, _, _, _, rfl, by simp, h0, h2, h3⟩
theorem yo {S : Nat → Prop} {w : World} {x : GVault} {u1 u2 u3 : Value} {fp : List Nat} (h : Rep.sat S w x (cat [[u1], enc x.Next, [u2], [u3], enc x.Head]) fp) : ∃ (g1 : List Nat) (g2 : List Nat) (g3 : List Nat), fp = (g1 ++ (g2 ++ g3)) ∧ Rep.sat S w x.Keys [u1] g1 ∧ Rep.sat S w x.Records [u2] g2 ∧ Rep.sat S w x.Events [u3] g3 := by
 obtain ⟨w1, w2, w3, g1, g2, g3, hc, hf, s1, s2, s3⟩ := yP h
 obtain ⟨e1, k1⟩ := V1 hc rfl
 obtain ⟨e2, k2⟩ := V1 k1 rfl
 obtain ⟨e3, k3⟩ := V1 k2 rfl
 obtain ⟨e4, k4⟩ := V1 k3 rfl
 obtain rfl := (List.cons.inj e1).1
 obtain rfl := (List.cons.inj e3).1
 obtain rfl := (List.cons.inj e4).1
 exact ⟨g1, g2, g3, hf, s1, s2, s3⟩
theorem AM {S : Nat → Prop} {w : World} {x : GVault} {cs : List Value} (h : Rep.sat S w x cs []) : ∃ u1 u2 u3, cs = cat [[u1], enc x.Next, [u2], [u3], enc x.Head] ∧ Rep.sat S w x.Keys [u1] [] ∧ Rep.sat S w x.Records [u2] [] ∧ Rep.sat S w x.Events [u3] [] := by
 obtain ⟨c0, d0, f0, g0, rfl, hf0, h0, hr0⟩ := h
 obtain ⟨rfl, rfl⟩ := List.append_eq_nil_iff.1 hf0.symm
 obtain ⟨u1, rfl⟩ := T5 h0
 obtain ⟨c1, d1, f1, g1, rfl, hf1, h1, hr1⟩ := hr0
 obtain ⟨rfl, rfl⟩ := List.append_eq_nil_iff.1 hf1.symm
 obtain ⟨rfl, _⟩ := h1
 obtain ⟨c2, d2, f2, g2, rfl, hf2, h2, hr2⟩ := hr1
 obtain ⟨rfl, rfl⟩ := List.append_eq_nil_iff.1 hf2.symm
 obtain ⟨u2, rfl⟩ := T5 h2
 obtain ⟨c3, d3, f3, g3, rfl, hf3, h3, hr3⟩ := hr2
 obtain ⟨rfl, rfl⟩ := List.append_eq_nil_iff.1 hf3.symm
 obtain ⟨u3, rfl⟩ := T5 h3
 obtain ⟨rfl, _⟩ := hr3
 exact ⟨u1, u2, u3, rfl, h0, h2, h3⟩
theorem AX {S : Nat → Prop} {w : World} {x : GVault} {u1 u2 u3 : Value} {g1 g2 g3 fp : List Nat} (h1 : Rep.sat S w x.Keys [u1] g1) (h2 : Rep.sat S w x.Records [u2] g2) (h3 : Rep.sat S w x.Events [u3] g3) (hfp : fp = (g1 ++ (g2 ++ g3))) : Rep.sat S w x (cat [[u1], enc x.Next, [u2], [u3], enc x.Head]) fp := by
 rw [hfp]
 refine ⟨_, _, g1, (g2 ++ g3), rfl, (by simp), h1, ?_⟩
 refine ⟨_, _, [], (g2 ++ g3), rfl, (by simp), ⟨rfl, rfl⟩, ?_⟩
 refine ⟨_, _, g2, g3, rfl, (by simp), h2, ?_⟩
 refine ⟨_, _, g3, [], rfl, (by simp), h3, ?_⟩
 exact ⟨rfl, rfl⟩
theorem qO (w : World) : Rep.sat NoB w (⟨([] : (List (Vector UInt8 16))), (0 : Int), ([] : (List GRecord)), ([] : (List GEvent)), (Vector.replicate 32 (0 : UInt8))⟩ : GVault) (cat [[.slice none 0 0], (enc (0 : Int)), [.slice none 0 0], [.slice none 0 0], (enc (Vector.replicate 32 (0 : UInt8)))]) [] := AX Qk Qk Qk rfl
structure GCipher where
 Field : Int
 Box : (Vector UInt8 256)
 Mix : (Vector (Vector UInt8 4) 4)
 Places : (Vector UInt8 16)
 Rounds : Int
 deriving DecidableEq, Inhabited
instance : Dat GCipher := ⟨fun x => Dat.bd (α := Int × (Vector UInt8 256) × (Vector (Vector UInt8 4) 4) × (Vector UInt8 16) × Int) (x.Field, x.Box, x.Mix, x.Places, x.Rounds), fun x => Dat.sz (α := Int × (Vector UInt8 256) × (Vector (Vector UInt8 4) 4) × (Vector UInt8 16) × Int) (x.Field, x.Box, x.Mix, x.Places, x.Rounds) + 1⟩
instance : Flat GCipher where
 n := 290
 enc x := cat [enc x.Field, enc x.Box, enc x.Mix, enc x.Places, enc x.Rounds]
 len x := ZC (cl1 (Flat.len _) (cl1 (Flat.len _) (cl1 (Flat.len _) (cl1 (Flat.len _) (cl1 (Flat.len _) cl0)))))
 cell x := WD (cc1 (Flat.cell _) (cc1 (Flat.cell _) (cc1 (Flat.cell _) (cc1 (Flat.cell _) (cc1 (Flat.cell _) cc0)))))
structure Gengine where
 box : (Vector UInt8 256)
 backBox : (Vector UInt8 256)
 places : (Vector UInt8 16)
 backPlaces : (Vector UInt8 16)
 mixer : (Ref (Vector (Vector (Vector UInt8 256) 4) 4))
 backMixer : (Ref (Vector (Vector (Vector UInt8 256) 4) 4))
 rounds : Int
 deriving DecidableEq, Inhabited
instance : Dat Gengine := ⟨fun x => Dat.bd (α := (Vector UInt8 256) × (Vector UInt8 256) × (Vector UInt8 16) × (Vector UInt8 16) × (Ref (Vector (Vector (Vector UInt8 256) 4) 4)) × (Ref (Vector (Vector (Vector UInt8 256) 4) 4)) × Int) (x.box, x.backBox, x.places, x.backPlaces, x.mixer, x.backMixer, x.rounds), fun x => Dat.sz (α := (Vector UInt8 256) × (Vector UInt8 256) × (Vector UInt8 16) × (Vector UInt8 16) × (Ref (Vector (Vector (Vector UInt8 256) 4) 4)) × (Ref (Vector (Vector (Vector UInt8 256) 4) 4)) × Int) (x.box, x.backBox, x.places, x.backPlaces, x.mixer, x.backMixer, x.rounds) + 1⟩
instance : Rep Gengine := repIso (α := (Vector UInt8 256) × (Vector UInt8 256) × (Vector UInt8 16) × (Vector UInt8 16) × (Ref (Vector (Vector (Vector UInt8 256) 4) 4)) × (Ref (Vector (Vector (Vector UInt8 256) 4) 4)) × Int) (fun x => (x.box, x.backBox, x.places, x.backPlaces, x.mixer, x.backMixer, x.rounds))
theorem yj {S : Nat → Prop} {w : World} {x : Gengine} {cs : List Value} {fp : List Nat} (h : Rep.sat S w x cs fp) : ∃ (u1 : Value) (u2 : Value), ∃ (g1 : List Nat) (g2 : List Nat), cs = cat [enc x.box, enc x.backBox, enc x.places, enc x.backPlaces, [u1], [u2], enc x.rounds] ∧ fp = (g1 ++ g2) ∧ Rep.sat S w x.mixer [u1] g1 ∧ Rep.sat S w x.backMixer [u2] g2 := by
 obtain ⟨c0, d0, f0, q0, rfl, rfl, h0, hr0⟩ := h
 obtain ⟨rfl, rfl⟩ := h0
 obtain ⟨c1, d1, f1, q1, rfl, rfl, h1, hr1⟩ := hr0
 obtain ⟨rfl, rfl⟩ := h1
 obtain ⟨c2, d2, f2, q2, rfl, rfl, h2, hr2⟩ := hr1
 obtain ⟨rfl, rfl⟩ := h2
 obtain ⟨c3, d3, f3, q3, rfl, rfl, h3, hr3⟩ := hr2
 obtain ⟨rfl, rfl⟩ := h3
 obtain ⟨c4, d4, f4, q4, rfl, rfl, h4, hr4⟩ := hr3
 obtain ⟨u1, rfl⟩ := Bb h4
 obtain ⟨c5, d5, f5, q5, rfl, rfl, h5, hr5⟩ := hr4
 obtain ⟨u2, rfl⟩ := Bb h5
 obtain ⟨rfl, rfl⟩ := hr5
 exact ⟨u1, u2, _, _, rfl, by simp, h4, h5⟩
theorem qN {S : Nat → Prop} {w : World} {x : Gengine} {u1 u2 : Value} {fp : List Nat} (h : Rep.sat S w x (cat [enc x.box, enc x.backBox, enc x.places, enc x.backPlaces, [u1], [u2], enc x.rounds]) fp) : ∃ (g1 : List Nat) (g2 : List Nat), fp = (g1 ++ g2) ∧ Rep.sat S w x.mixer [u1] g1 ∧ Rep.sat S w x.backMixer [u2] g2 := by
 obtain ⟨w1, w2, g1, g2, hc, hf, s1, s2⟩ := yj h
 obtain ⟨e1, k1⟩ := V1 hc rfl
 obtain ⟨e2, k2⟩ := V1 k1 rfl
 obtain ⟨e3, k3⟩ := V1 k2 rfl
 obtain ⟨e4, k4⟩ := V1 k3 rfl
 obtain ⟨e5, k5⟩ := V1 k4 rfl
 obtain ⟨e6, k6⟩ := V1 k5 rfl
 obtain rfl := (List.cons.inj e5).1
 obtain rfl := (List.cons.inj e6).1
 exact ⟨g1, g2, hf, s1, s2⟩
theorem TR {S : Nat → Prop} {w : World} {x : Gengine} {cs : List Value} (h : Rep.sat S w x cs []) : ∃ u1 u2, cs = cat [enc x.box, enc x.backBox, enc x.places, enc x.backPlaces, [u1], [u2], enc x.rounds] ∧ Rep.sat S w x.mixer [u1] [] ∧ Rep.sat S w x.backMixer [u2] [] := by
 obtain ⟨c0, d0, f0, g0, rfl, hf0, h0, hr0⟩ := h
 obtain ⟨rfl, rfl⟩ := List.append_eq_nil_iff.1 hf0.symm
 obtain ⟨rfl, _⟩ := h0
 obtain ⟨c1, d1, f1, g1, rfl, hf1, h1, hr1⟩ := hr0
 obtain ⟨rfl, rfl⟩ := List.append_eq_nil_iff.1 hf1.symm
 obtain ⟨rfl, _⟩ := h1
 obtain ⟨c2, d2, f2, g2, rfl, hf2, h2, hr2⟩ := hr1
 obtain ⟨rfl, rfl⟩ := List.append_eq_nil_iff.1 hf2.symm
 obtain ⟨rfl, _⟩ := h2
 obtain ⟨c3, d3, f3, g3, rfl, hf3, h3, hr3⟩ := hr2
 obtain ⟨rfl, rfl⟩ := List.append_eq_nil_iff.1 hf3.symm
 obtain ⟨rfl, _⟩ := h3
 obtain ⟨c4, d4, f4, g4, rfl, hf4, h4, hr4⟩ := hr3
 obtain ⟨rfl, rfl⟩ := List.append_eq_nil_iff.1 hf4.symm
 obtain ⟨u1, rfl⟩ := Bb h4
 obtain ⟨c5, d5, f5, g5, rfl, hf5, h5, hr5⟩ := hr4
 obtain ⟨rfl, rfl⟩ := List.append_eq_nil_iff.1 hf5.symm
 obtain ⟨u2, rfl⟩ := Bb h5
 obtain ⟨rfl, _⟩ := hr5
 exact ⟨u1, u2, rfl, h4, h5⟩
theorem yZ {S : Nat → Prop} {w : World} {x : Gengine} {u1 u2 : Value} {g1 g2 fp : List Nat} (h1 : Rep.sat S w x.mixer [u1] g1) (h2 : Rep.sat S w x.backMixer [u2] g2) (hfp : fp = (g1 ++ g2)) : Rep.sat S w x (cat [enc x.box, enc x.backBox, enc x.places, enc x.backPlaces, [u1], [u2], enc x.rounds]) fp := by
 rw [hfp]
 refine ⟨_, _, [], (g1 ++ g2), rfl, (by simp), ⟨rfl, rfl⟩, ?_⟩
 refine ⟨_, _, [], (g1 ++ g2), rfl, (by simp), ⟨rfl, rfl⟩, ?_⟩
 refine ⟨_, _, [], (g1 ++ g2), rfl, (by simp), ⟨rfl, rfl⟩, ?_⟩
 refine ⟨_, _, [], (g1 ++ g2), rfl, (by simp), ⟨rfl, rfl⟩, ?_⟩
 refine ⟨_, _, g1, g2, rfl, (by simp), h1, ?_⟩
 refine ⟨_, _, g2, [], rfl, (by simp), h2, ?_⟩
 exact ⟨rfl, rfl⟩
theorem ty2 : Ty Tryz.prog 2 (.int .i64) 1 8 (enc (0 : Int)) := ⟨Tryz.underlying2, by kernel_rfl⟩
theorem ty5 : Ty Tryz.prog 5 (.int .u8) 1 1 (enc (0 : UInt8)) := ⟨Tryz.underlying5, by kernel_rfl⟩
theorem ty22 : Ty Tryz.prog 22 (.slice 67) 1 24 [.slice none 0 0] := ⟨Tryz.underlying22, by kernel_rfl⟩
theorem ty23 : Ty Tryz.prog 23 (.slice 160) 1 24 [.slice none 0 0] := ⟨Tryz.underlying23, by kernel_rfl⟩
theorem ty24 : Ty Tryz.prog 24 (.slice 179) 1 24 [.slice none 0 0] := ⟨Tryz.underlying24, by kernel_rfl⟩
theorem ty25 : Ty Tryz.prog 25 (.array 32 5) 32 32 (enc (Vector.replicate 32 (0 : UInt8))) := ⟨Tryz.underlying25, by kernel_rfl⟩
theorem Aa : Ty Tryz.prog 27 (.struct [{ name := "Keys", type := 22, offset := 0, embedded := false, tag := "", pkgPath := "", byteOffset := 0 }, { name := "Next", type := 2, offset := 1, embedded := false, tag := "", pkgPath := "", byteOffset := 24 }, { name := "Records", type := 23, offset := 2, embedded := false, tag := "", pkgPath := "", byteOffset := 32 }, { name := "Events", type := 24, offset := 3, embedded := false, tag := "", pkgPath := "", byteOffset := 56 }, { name := "Head", type := 25, offset := 4, embedded := false, tag := "", pkgPath := "", byteOffset := 80 }].toArray) 36 112 (cat [[.slice none 0 0], (enc (0 : Int)), [.slice none 0 0], [.slice none 0 0], (enc (Vector.replicate 32 (0 : UInt8)))]) := ⟨Tryz.underlying27, by kernel_rfl⟩
theorem Yu : Ty Tryz.prog 29 (.array 32 5) 32 32 (enc (Vector.replicate 32 (0 : UInt8))) := ⟨Tryz.underlying29, by kernel_rfl⟩
theorem KN : Ty Tryz.prog 32 (.slice 70) 1 24 [.slice none 0 0] := ⟨Tryz.underlying32, by kernel_rfl⟩
theorem QV : Ty Tryz.prog 33 (.slice 92) 1 24 [.slice none 0 0] := ⟨Tryz.underlying33, by kernel_rfl⟩
theorem Ap : Ty Tryz.prog 34 (.slice 146) 1 24 [.slice none 0 0] := ⟨Tryz.underlying34, by kernel_rfl⟩
theorem Qd : Ty Tryz.prog 36 (.struct [{ name := "Keys", type := 32, offset := 0, embedded := false, tag := "", pkgPath := "", byteOffset := 0 }, { name := "Next", type := 2, offset := 1, embedded := false, tag := "", pkgPath := "", byteOffset := 24 }, { name := "Records", type := 33, offset := 2, embedded := false, tag := "", pkgPath := "", byteOffset := 32 }, { name := "Events", type := 34, offset := 3, embedded := false, tag := "", pkgPath := "", byteOffset := 56 }, { name := "Head", type := 29, offset := 4, embedded := false, tag := "", pkgPath := "", byteOffset := 80 }].toArray) 36 112 (cat [[.slice none 0 0], (enc (0 : Int)), [.slice none 0 0], [.slice none 0 0], (enc (Vector.replicate 32 (0 : UInt8)))]) := ⟨Tryz.underlying36, by kernel_rfl⟩
theorem Ua : Ty Tryz.prog 57 (.slice 5) 1 24 [.slice none 0 0] := ⟨Tryz.underlying57, by kernel_rfl⟩
theorem ty67 : Ty Tryz.prog 67 (.array 16 5) 16 16 (enc (Vector.replicate 16 (0 : UInt8))) := ⟨Tryz.underlying67, by kernel_rfl⟩
theorem ZH : Ty Tryz.prog 70 (.array 16 5) 16 16 (enc (Vector.replicate 16 (0 : UInt8))) := ⟨Tryz.underlying70, by kernel_rfl⟩
theorem Wx : Ty Tryz.prog 92 (.struct [{ name := "Number", type := 2, offset := 0, embedded := false, tag := "", pkgPath := "", byteOffset := 0 }, { name := "Version", type := 2, offset := 1, embedded := false, tag := "", pkgPath := "", byteOffset := 8 }, { name := "Nonce", type := 70, offset := 2, embedded := false, tag := "", pkgPath := "", byteOffset := 16 }, { name := "Label", type := 57, offset := 18, embedded := false, tag := "", pkgPath := "", byteOffset := 32 }, { name := "Body", type := 57, offset := 19, embedded := false, tag := "", pkgPath := "", byteOffset := 56 }, { name := "Tag", type := 29, offset := 20, embedded := false, tag := "", pkgPath := "", byteOffset := 80 }].toArray) 52 112 (cat [(enc (0 : Int)), (enc (0 : Int)), (enc (Vector.replicate 16 (0 : UInt8))), [.slice none 0 0], [.slice none 0 0], (enc (Vector.replicate 32 (0 : UInt8)))]) := ⟨Tryz.underlying92, by kernel_rfl⟩
theorem UJ : Ty Tryz.prog 146 (.struct [{ name := "Kind", type := 2, offset := 0, embedded := false, tag := "", pkgPath := "", byteOffset := 0 }, { name := "Number", type := 2, offset := 1, embedded := false, tag := "", pkgPath := "", byteOffset := 8 }, { name := "Tag", type := 29, offset := 2, embedded := false, tag := "", pkgPath := "", byteOffset := 16 }].toArray) 34 48 (enc (⟨(0 : Int), (0 : Int), (Vector.replicate 32 (0 : UInt8))⟩ : GEvent)) := ⟨Tryz.underlying146, by kernel_rfl⟩
theorem KR : Ty Tryz.prog 160 (.struct [{ name := "Number", type := 2, offset := 0, embedded := false, tag := "", pkgPath := "", byteOffset := 0 }, { name := "Version", type := 2, offset := 1, embedded := false, tag := "", pkgPath := "", byteOffset := 8 }, { name := "Nonce", type := 67, offset := 2, embedded := false, tag := "", pkgPath := "", byteOffset := 16 }, { name := "Label", type := 57, offset := 18, embedded := false, tag := "", pkgPath := "", byteOffset := 32 }, { name := "Body", type := 57, offset := 19, embedded := false, tag := "", pkgPath := "", byteOffset := 56 }, { name := "Tag", type := 25, offset := 20, embedded := false, tag := "", pkgPath := "", byteOffset := 80 }].toArray) 52 112 (cat [(enc (0 : Int)), (enc (0 : Int)), (enc (Vector.replicate 16 (0 : UInt8))), [.slice none 0 0], [.slice none 0 0], (enc (Vector.replicate 32 (0 : UInt8)))]) := ⟨Tryz.underlying160, by kernel_rfl⟩
theorem AQ : Ty Tryz.prog 166 (.array 256 5) 256 256 (enc (Vector.replicate 256 (0 : UInt8))) := ⟨Tryz.underlying166, by kernel_rfl⟩
theorem Xt : Ty Tryz.prog 167 (.array 256 5) 256 256 (enc (Vector.replicate 256 (0 : UInt8))) := ⟨Tryz.underlying167, by kernel_rfl⟩
theorem Xm : Ty Tryz.prog 168 (.array 4 5) 4 4 (enc (Vector.replicate 4 (0 : UInt8))) := ⟨Tryz.underlying168, by kernel_rfl⟩
theorem UI : Ty Tryz.prog 170 (.array 4 168) 16 16 (enc (Vector.replicate 4 (Vector.replicate 4 (0 : UInt8)))) := ⟨Tryz.underlying170, by kernel_rfl⟩
theorem T8 : Ty Tryz.prog 171 (.array 16 5) 16 16 (enc (Vector.replicate 16 (0 : UInt8))) := ⟨Tryz.underlying171, by kernel_rfl⟩
theorem Va : Ty Tryz.prog 173 (.struct [{ name := "Field", type := 2, offset := 0, embedded := false, tag := "", pkgPath := "", byteOffset := 0 }, { name := "Box", type := 167, offset := 1, embedded := false, tag := "", pkgPath := "", byteOffset := 8 }, { name := "Mix", type := 170, offset := 257, embedded := false, tag := "", pkgPath := "", byteOffset := 264 }, { name := "Places", type := 171, offset := 273, embedded := false, tag := "", pkgPath := "", byteOffset := 280 }, { name := "Rounds", type := 2, offset := 289, embedded := false, tag := "", pkgPath := "", byteOffset := 296 }].toArray) 290 304 (enc (⟨(0 : Int), (Vector.replicate 256 (0 : UInt8)), (Vector.replicate 4 (Vector.replicate 4 (0 : UInt8))), (Vector.replicate 16 (0 : UInt8)), (0 : Int)⟩ : GCipher)) := ⟨Tryz.underlying173, by kernel_rfl⟩
theorem zE : Ty Tryz.prog 179 (.struct [{ name := "Kind", type := 2, offset := 0, embedded := false, tag := "", pkgPath := "", byteOffset := 0 }, { name := "Number", type := 2, offset := 1, embedded := false, tag := "", pkgPath := "", byteOffset := 8 }, { name := "Tag", type := 25, offset := 2, embedded := false, tag := "", pkgPath := "", byteOffset := 16 }].toArray) 34 48 (enc (⟨(0 : Int), (0 : Int), (Vector.replicate 32 (0 : UInt8))⟩ : GEvent)) := ⟨Tryz.underlying179, by kernel_rfl⟩
theorem kE : Ty Tryz.prog 241 (.pointer 267) 1 8 [.pointer none] := ⟨Tryz.underlying241, by kernel_rfl⟩
theorem HJ : Ty Tryz.prog 244 (.struct [{ name := "box", type := 167, offset := 0, embedded := false, tag := "", pkgPath := "loop.example/g01182/impl", byteOffset := 0 }, { name := "backBox", type := 167, offset := 256, embedded := false, tag := "", pkgPath := "loop.example/g01182/impl", byteOffset := 256 }, { name := "places", type := 171, offset := 512, embedded := false, tag := "", pkgPath := "loop.example/g01182/impl", byteOffset := 512 }, { name := "backPlaces", type := 171, offset := 528, embedded := false, tag := "", pkgPath := "loop.example/g01182/impl", byteOffset := 528 }, { name := "mixer", type := 241, offset := 544, embedded := false, tag := "", pkgPath := "loop.example/g01182/impl", byteOffset := 544 }, { name := "backMixer", type := 241, offset := 545, embedded := false, tag := "", pkgPath := "loop.example/g01182/impl", byteOffset := 552 }, { name := "rounds", type := 2, offset := 546, embedded := false, tag := "", pkgPath := "loop.example/g01182/impl", byteOffset := 560 }].toArray) 547 568 (cat [(enc (Vector.replicate 256 (0 : UInt8))), (enc (Vector.replicate 256 (0 : UInt8))), (enc (Vector.replicate 16 (0 : UInt8))), (enc (Vector.replicate 16 (0 : UInt8))), [.pointer none], [.pointer none], (enc (0 : Int))]) := ⟨Tryz.underlying244, by kernel_rfl⟩
theorem BL : Ty Tryz.prog 265 (.array 4 166) 1024 1024 (enc (Vector.replicate 4 (Vector.replicate 256 (0 : UInt8)))) := ⟨Tryz.underlying265, by kernel_rfl⟩
theorem ty267 : Ty Tryz.prog 267 (.array 4 265) 4096 4096 (enc (Vector.replicate 4 (Vector.replicate 4 (Vector.replicate 256 (0 : UInt8))))) := ⟨Tryz.underlying267, by kernel_rfl⟩
theorem kP : Fd Tryz.prog 27 0 0 := Y4 Aa.und rfl rfl ty22 (by decide)
theorem fd27_1 : Fd Tryz.prog 27 1 1 := Y4 Aa.und rfl rfl ty2 (by decide)
theorem kC : Fd Tryz.prog 27 2 2 := Y4 Aa.und rfl rfl ty23 (by decide)
theorem kk : Fd Tryz.prog 27 3 3 := Y4 Aa.und rfl rfl ty24 (by decide)
theorem fd27_4 : Fd Tryz.prog 27 4 4 := Y4 Aa.und rfl rfl ty25 (by decide)
theorem Tu : Fd Tryz.prog 36 0 0 := Y4 Qd.und rfl rfl KN (by decide)
theorem QN : Fd Tryz.prog 36 1 1 := Y4 Qd.und rfl rfl ty2 (by decide)
theorem Ut : Fd Tryz.prog 36 2 2 := Y4 Qd.und rfl rfl QV (by decide)
theorem QW : Fd Tryz.prog 36 3 3 := Y4 Qd.und rfl rfl Ap (by decide)
theorem yC : Fd Tryz.prog 36 4 4 := Y4 Qd.und rfl rfl Yu (by decide)
theorem Td : Fd Tryz.prog 92 0 0 := Y4 Wx.und rfl rfl ty2 (by decide)
theorem TO : Fd Tryz.prog 92 1 1 := Y4 Wx.und rfl rfl ty2 (by decide)
theorem KA : Fd Tryz.prog 92 2 2 := Y4 Wx.und rfl rfl ZH (by decide)
theorem Qn : Fd Tryz.prog 92 3 18 := Y4 Wx.und rfl rfl Ua (by decide)
theorem QA : Fd Tryz.prog 92 4 19 := Y4 Wx.und rfl rfl Ua (by decide)
theorem J9 : Fd Tryz.prog 92 5 20 := Y4 Wx.und rfl rfl Yu (by decide)
theorem KJ : Fd Tryz.prog 146 0 0 := Y4 UJ.und rfl rfl ty2 (by decide)
theorem KK : Fd Tryz.prog 146 1 1 := Y4 UJ.und rfl rfl ty2 (by decide)
theorem Bh : Fd Tryz.prog 146 2 2 := Y4 UJ.und rfl rfl Yu (by decide)
theorem qM : Fd Tryz.prog 160 0 0 := Y4 KR.und rfl rfl ty2 (by decide)
theorem qF : Fd Tryz.prog 160 1 1 := Y4 KR.und rfl rfl ty2 (by decide)
theorem qt : Fd Tryz.prog 160 2 2 := Y4 KR.und rfl rfl ty67 (by decide)
theorem ji : Fd Tryz.prog 160 3 18 := Y4 KR.und rfl rfl Ua (by decide)
theorem jm : Fd Tryz.prog 160 4 19 := Y4 KR.und rfl rfl Ua (by decide)
theorem qq : Fd Tryz.prog 160 5 20 := Y4 KR.und rfl rfl ty25 (by decide)
theorem H7 : Fd Tryz.prog 173 0 0 := Y4 Va.und rfl rfl ty2 (by decide)
theorem KF : Fd Tryz.prog 173 1 1 := Y4 Va.und rfl rfl Xt (by decide)
theorem Jt : Fd Tryz.prog 173 2 257 := Y4 Va.und rfl rfl UI (by decide)
theorem JD : Fd Tryz.prog 173 3 273 := Y4 Va.und rfl rfl T8 (by decide)
theorem A3 : Fd Tryz.prog 173 4 289 := Y4 Va.und rfl rfl ty2 (by decide)
theorem qf : Fd Tryz.prog 179 0 0 := Y4 zE.und rfl rfl ty2 (by decide)
theorem qb : Fd Tryz.prog 179 1 1 := Y4 zE.und rfl rfl ty2 (by decide)
theorem qA : Fd Tryz.prog 179 2 2 := Y4 zE.und rfl rfl ty25 (by decide)
theorem zo : Fd Tryz.prog 244 0 0 := Y4 HJ.und rfl rfl Xt (by decide)
theorem fd244_1 : Fd Tryz.prog 244 1 256 := Y4 HJ.und rfl rfl Xt (by decide)
theorem qw : Fd Tryz.prog 244 2 512 := Y4 HJ.und rfl rfl T8 (by decide)
theorem fd244_3 : Fd Tryz.prog 244 3 528 := Y4 HJ.und rfl rfl T8 (by decide)
theorem qk : Fd Tryz.prog 244 4 544 := Y4 HJ.und rfl rfl kE (by decide)
theorem fd244_5 : Fd Tryz.prog 244 5 545 := Y4 HJ.und rfl rfl kE (by decide)
theorem qd : Fd Tryz.prog 244 6 546 := Y4 HJ.und rfl rfl ty2 (by decide)
theorem pl173 : Places Tryz.prog [{ name := "Field", type := 2, offset := 0, embedded := false, tag := "", pkgPath := "", byteOffset := 0 }, { name := "Box", type := 167, offset := 1, embedded := false, tag := "", pkgPath := "", byteOffset := 8 }, { name := "Mix", type := 170, offset := 257, embedded := false, tag := "", pkgPath := "", byteOffset := 264 }, { name := "Places", type := 171, offset := 273, embedded := false, tag := "", pkgPath := "", byteOffset := 280 }, { name := "Rounds", type := 2, offset := 289, embedded := false, tag := "", pkgPath := "", byteOffset := 296 }] [(0, 1), (1, 256), (257, 16), (273, 16), (289, 1)] := by show _ = _; kernel_rfl
theorem pl244 : Places Tryz.prog [{ name := "box", type := 167, offset := 0, embedded := false, tag := "", pkgPath := "loop.example/g01182/impl", byteOffset := 0 }, { name := "backBox", type := 167, offset := 256, embedded := false, tag := "", pkgPath := "loop.example/g01182/impl", byteOffset := 256 }, { name := "places", type := 171, offset := 512, embedded := false, tag := "", pkgPath := "loop.example/g01182/impl", byteOffset := 512 }, { name := "backPlaces", type := 171, offset := 528, embedded := false, tag := "", pkgPath := "loop.example/g01182/impl", byteOffset := 528 }, { name := "mixer", type := 241, offset := 544, embedded := false, tag := "", pkgPath := "loop.example/g01182/impl", byteOffset := 544 }, { name := "backMixer", type := 241, offset := 545, embedded := false, tag := "", pkgPath := "loop.example/g01182/impl", byteOffset := 552 }, { name := "rounds", type := 2, offset := 546, embedded := false, tag := "", pkgPath := "loop.example/g01182/impl", byteOffset := 560 }] [(0, 256), (256, 256), (512, 16), (528, 16), (544, 1), (545, 1), (546, 1)] := by show _ = _; kernel_rfl
theorem YN : Tryz.prog.follows .mixedOrders = true := by kernel_rfl
theorem cb12 : Callable Tryz.prog 12 := ⟨_, _, Tryz.func12, by decide, rfl⟩
theorem cb14 : Callable Tryz.prog 14 := ⟨_, _, Tryz.func14, by decide, rfl⟩
theorem cb16 : Callable Tryz.prog 16 := ⟨_, _, Tryz.func16, by decide, rfl⟩
theorem cb17 : Callable Tryz.prog 17 := ⟨_, _, Tryz.func17, by decide, rfl⟩
theorem cb21 : Callable Tryz.prog 21 := ⟨_, _, Tryz.func21, by decide, rfl⟩
theorem cb26 : Callable Tryz.prog 26 := ⟨_, _, Tryz.func26, by decide, rfl⟩
theorem cb27 : Callable Tryz.prog 27 := ⟨_, _, Tryz.func27, by decide, rfl⟩
theorem cb28 : Callable Tryz.prog 28 := ⟨_, _, Tryz.func28, by decide, rfl⟩
theorem cb29 : Callable Tryz.prog 29 := ⟨_, _, Tryz.func29, by decide, rfl⟩
theorem cb30 : Callable Tryz.prog 30 := ⟨_, _, Tryz.func30, by decide, rfl⟩
theorem cb31 : Callable Tryz.prog 31 := ⟨_, _, Tryz.func31, by decide, rfl⟩
theorem cb33 : Callable Tryz.prog 33 := ⟨_, _, Tryz.func33, by decide, rfl⟩
theorem cb36 : Callable Tryz.prog 36 := ⟨_, _, Tryz.func36, by decide, rfl⟩
theorem cb50 : Callable Tryz.prog 50 := ⟨_, _, Tryz.func50, by decide, rfl⟩
theorem cb51 : Callable Tryz.prog 51 := ⟨_, _, Tryz.func51, by decide, rfl⟩
theorem cb52 : Callable Tryz.prog 52 := ⟨_, _, Tryz.func52, by decide, rfl⟩
theorem cb53 : Callable Tryz.prog 53 := ⟨_, _, Tryz.func53, by decide, rfl⟩
theorem cb54 : Callable Tryz.prog 54 := ⟨_, _, Tryz.func54, by decide, rfl⟩
theorem cb55 : Callable Tryz.prog 55 := ⟨_, _, Tryz.func55, by decide, rfl⟩
theorem cb56 : Callable Tryz.prog 56 := ⟨_, _, Tryz.func56, by decide, rfl⟩
theorem cb57 : Callable Tryz.prog 57 := ⟨_, _, Tryz.func57, by decide, rfl⟩
theorem cb58 : Callable Tryz.prog 58 := ⟨_, _, Tryz.func58, by decide, rfl⟩
theorem cb59 : Callable Tryz.prog 59 := ⟨_, _, Tryz.func59, by decide, rfl⟩
theorem cb60 : Callable Tryz.prog 60 := ⟨_, _, Tryz.func60, by decide, rfl⟩
theorem cb61 : Callable Tryz.prog 61 := ⟨_, _, Tryz.func61, by decide, rfl⟩
theorem cb62 : Callable Tryz.prog 62 := ⟨_, _, Tryz.func62, by decide, rfl⟩
theorem cb63 : Callable Tryz.prog 63 := ⟨_, _, Tryz.func63, by decide, rfl⟩
theorem cb64 : Callable Tryz.prog 64 := ⟨_, _, Tryz.func64, by decide, rfl⟩
theorem cb88 : Callable Tryz.prog 88 := ⟨_, _, Tryz.func88, by decide, rfl⟩
theorem cb89 : Callable Tryz.prog 89 := ⟨_, _, Tryz.func89, by decide, rfl⟩
theorem cb90 : Callable Tryz.prog 90 := ⟨_, _, Tryz.func90, by decide, rfl⟩
theorem cb91 : Callable Tryz.prog 91 := ⟨_, _, Tryz.func91, by decide, rfl⟩
theorem cb92 : Callable Tryz.prog 92 := ⟨_, _, Tryz.func92, by decide, rfl⟩
theorem cb95 : Callable Tryz.prog 95 := ⟨_, _, Tryz.func95, by decide, rfl⟩
theorem cb99 : Callable Tryz.prog 99 := ⟨_, _, Tryz.func99, by decide, rfl⟩
theorem kl : Callable Tryz.prog 105 := ⟨_, _, Tryz.func105, by decide, rfl⟩
theorem cb108 : Callable Tryz.prog 108 := ⟨_, _, Tryz.func108, by decide, rfl⟩
theorem jb : Callable Tryz.prog 112 := ⟨_, _, Tryz.func112, by decide, rfl⟩
theorem cb127 : Callable Tryz.prog 127 := ⟨_, _, Tryz.func127, by decide, rfl⟩
theorem jo : Callable Tryz.prog 128 := ⟨_, _, Tryz.func128, by decide, rfl⟩
theorem cb129 : Callable Tryz.prog 129 := ⟨_, _, Tryz.func129, by decide, rfl⟩
theorem cb130 : Callable Tryz.prog 130 := ⟨_, _, Tryz.func130, by decide, rfl⟩
theorem cb131 : Callable Tryz.prog 131 := ⟨_, _, Tryz.func131, by decide, rfl⟩
theorem cb132 : Callable Tryz.prog 132 := ⟨_, _, Tryz.func132, by decide, rfl⟩
theorem cb133 : Callable Tryz.prog 133 := ⟨_, _, Tryz.func133, by decide, rfl⟩
theorem cb134 : Callable Tryz.prog 134 := ⟨_, _, Tryz.func134, by decide, rfl⟩
theorem cb135 : Callable Tryz.prog 135 := ⟨_, _, Tryz.func135, by decide, rfl⟩
theorem cb136 : Callable Tryz.prog 136 := ⟨_, _, Tryz.func136, by decide, rfl⟩
theorem cb137 : Callable Tryz.prog 137 := ⟨_, _, Tryz.func137, by decide, rfl⟩
theorem cb138 : Callable Tryz.prog 138 := ⟨_, _, Tryz.func138, by decide, rfl⟩
theorem ki : Callable Tryz.prog 139 := ⟨_, _, Tryz.func139, by decide, rfl⟩
theorem cb140 : Callable Tryz.prog 140 := ⟨_, _, Tryz.func140, by decide, rfl⟩
theorem cb141 : Callable Tryz.prog 141 := ⟨_, _, Tryz.func141, by decide, rfl⟩
theorem cb142 : Callable Tryz.prog 142 := ⟨_, _, Tryz.func142, by decide, rfl⟩
theorem cb143 : Callable Tryz.prog 143 := ⟨_, _, Tryz.func143, by decide, rfl⟩
theorem cb144 : Callable Tryz.prog 144 := ⟨_, _, Tryz.func144, by decide, rfl⟩
theorem cb145 : Callable Tryz.prog 145 := ⟨_, _, Tryz.func145, by decide, rfl⟩
theorem cb151 : Callable Tryz.prog 151 := ⟨_, _, Tryz.func151, by decide, rfl⟩
theorem cb152 : Callable Tryz.prog 152 := ⟨_, _, Tryz.func152, by decide, rfl⟩
theorem cb153 : Callable Tryz.prog 153 := ⟨_, _, Tryz.func153, by decide, rfl⟩
theorem cb154 : Callable Tryz.prog 154 := ⟨_, _, Tryz.func154, by decide, rfl⟩
theorem KT : Callable Tryz.prog 157 := ⟨_, _, Tryz.func157, by decide, rfl⟩
theorem cb158 : Callable Tryz.prog 158 := ⟨_, _, Tryz.func158, by decide, rfl⟩
theorem cb159 : Callable Tryz.prog 159 := ⟨_, _, Tryz.func159, by decide, rfl⟩
theorem cb160 : Callable Tryz.prog 160 := ⟨_, _, Tryz.func160, by decide, rfl⟩
theorem jX : Callable Tryz.prog 161 := ⟨_, _, Tryz.func161, by decide, rfl⟩
theorem cb162 : Callable Tryz.prog 162 := ⟨_, _, Tryz.func162, by decide, rfl⟩
theorem cb170 : Callable Tryz.prog 170 := ⟨_, _, Tryz.func170, by decide, rfl⟩
theorem cb171 : Callable Tryz.prog 171 := ⟨_, _, Tryz.func171, by decide, rfl⟩
theorem cb172 : Callable Tryz.prog 172 := ⟨_, _, Tryz.func172, by decide, rfl⟩
theorem cb181 : Callable Tryz.prog 181 := ⟨_, _, Tryz.func181, by decide, rfl⟩
theorem cb182 : Callable Tryz.prog 182 := ⟨_, _, Tryz.func182, by decide, rfl⟩
theorem cb183 : Callable Tryz.prog 183 := ⟨_, _, Tryz.func183, by decide, rfl⟩
theorem cb184 : Callable Tryz.prog 184 := ⟨_, _, Tryz.func184, by decide, rfl⟩
theorem cb185 : Callable Tryz.prog 185 := ⟨_, _, Tryz.func185, by decide, rfl⟩
theorem cb186 : Callable Tryz.prog 186 := ⟨_, _, Tryz.func186, by decide, rfl⟩
theorem cb187 : Callable Tryz.prog 187 := ⟨_, _, Tryz.func187, by decide, rfl⟩
theorem cb188 : Callable Tryz.prog 188 := ⟨_, _, Tryz.func188, by decide, rfl⟩
theorem cb189 : Callable Tryz.prog 189 := ⟨_, _, Tryz.func189, by decide, rfl⟩
theorem cb190 : Callable Tryz.prog 190 := ⟨_, _, Tryz.func190, by decide, rfl⟩
theorem cb191 : Callable Tryz.prog 191 := ⟨_, _, Tryz.func191, by decide, rfl⟩
theorem cb192 : Callable Tryz.prog 192 := ⟨_, _, Tryz.func192, by decide, rfl⟩
theorem cb193 : Callable Tryz.prog 193 := ⟨_, _, Tryz.func193, by decide, rfl⟩
theorem cb194 : Callable Tryz.prog 194 := ⟨_, _, Tryz.func194, by decide, rfl⟩
theorem cb195 : Callable Tryz.prog 195 := ⟨_, _, Tryz.func195, by decide, rfl⟩
theorem AD : Callable Tryz.prog 196 := ⟨_, _, Tryz.func196, by decide, rfl⟩
theorem cb197 : Callable Tryz.prog 197 := ⟨_, _, Tryz.func197, by decide, rfl⟩
theorem cb202 : Callable Tryz.prog 202 := ⟨_, _, Tryz.func202, by decide, rfl⟩
theorem cb203 : Callable Tryz.prog 203 := ⟨_, _, Tryz.func203, by decide, rfl⟩
theorem cb215 : Callable Tryz.prog 215 := ⟨_, _, Tryz.func215, by decide, rfl⟩
theorem cb216 : Callable Tryz.prog 216 := ⟨_, _, Tryz.func216, by decide, rfl⟩
theorem cb217 : Callable Tryz.prog 217 := ⟨_, _, Tryz.func217, by decide, rfl⟩
theorem cb218 : Callable Tryz.prog 218 := ⟨_, _, Tryz.func218, by decide, rfl⟩
theorem kK : Callable Tryz.prog 219 := ⟨_, _, Tryz.func219, by decide, rfl⟩
theorem cb220 : Callable Tryz.prog 220 := ⟨_, _, Tryz.func220, by decide, rfl⟩
theorem cb221 : Callable Tryz.prog 221 := ⟨_, _, Tryz.func221, by decide, rfl⟩
theorem AJ : Callable Tryz.prog 222 := ⟨_, _, Tryz.func222, by decide, rfl⟩
theorem cb223 : Callable Tryz.prog 223 := ⟨_, _, Tryz.func223, by decide, rfl⟩
theorem zJ : Callable Tryz.prog 224 := ⟨_, _, Tryz.func224, by decide, rfl⟩
theorem cb225 : Callable Tryz.prog 225 := ⟨_, _, Tryz.func225, by decide, rfl⟩
theorem cb226 : Callable Tryz.prog 226 := ⟨_, _, Tryz.func226, by decide, rfl⟩
theorem cb227 : Callable Tryz.prog 227 := ⟨_, _, Tryz.func227, by decide, rfl⟩
theorem cb228 : Callable Tryz.prog 228 := ⟨_, _, Tryz.func228, by decide, rfl⟩
theorem cb238 : Callable Tryz.prog 238 := ⟨_, _, Tryz.func238, by decide, rfl⟩
theorem HF : Callable Tryz.prog 239 := ⟨_, _, Tryz.func239, by decide, rfl⟩
theorem cb240 : Callable Tryz.prog 240 := ⟨_, _, Tryz.func240, by decide, rfl⟩
theorem cb241 : Callable Tryz.prog 241 := ⟨_, _, Tryz.func241, by decide, rfl⟩
theorem cb242 : Callable Tryz.prog 242 := ⟨_, _, Tryz.func242, by decide, rfl⟩
theorem cb243 : Callable Tryz.prog 243 := ⟨_, _, Tryz.func243, by decide, rfl⟩
theorem cb244 : Callable Tryz.prog 244 := ⟨_, _, Tryz.func244, by decide, rfl⟩
theorem cb245 : Callable Tryz.prog 245 := ⟨_, _, Tryz.func245, by decide, rfl⟩
theorem cb246 : Callable Tryz.prog 246 := ⟨_, _, Tryz.func246, by decide, rfl⟩
theorem cb247 : Callable Tryz.prog 247 := ⟨_, _, Tryz.func247, by decide, rfl⟩
theorem cb249 : Callable Tryz.prog 249 := ⟨_, _, Tryz.func249, by decide, rfl⟩
theorem cb250 : Callable Tryz.prog 250 := ⟨_, _, Tryz.func250, by decide, rfl⟩
noncomputable def WW (p0 : (List (Vector UInt8 16))) (p1 : Int) : Option (Int) :=
 if (decide ((wr (p1 - (p0.length : Int))) < 0)) = true then (some (-1)) else (some (wr (p1 - (p0.length : Int))))
theorem H6 (w0 : World) (p0 : (List (Vector UInt8 16))) (v0_1 : Value) (hv0_1 : Ro w0 p0 [v0_1]) (p1 : Int) (r : Int) (hF : WW p0 p1 = some r) :
  Calls Tryz.prog 50 [v0_1, vI p1].toArray w0 (fun en w' => ∃ v, en = .returned v ∧ (v = (vI r) ∧ Kept (Old w0) w0 w')) := by
 refine ZD (n := 12) Tryz.func50 rfl rfl (Nat.le_of_ble_eq_true rfl) rfl ?_
 intro a hE
 have hM := M.start w0
 unfold WW at hF
 refine Zc (Ze hE Za ld rfl fun a hE => Zf (Zc (Zd hE Za ld rfl fun a hE => Zd hE Za ld rfl fun a hE => Z6 hE Za ld rfl Tryz.underlying22 (hM.rd hv0_1) fun a hE => Zh hE Za ld rfl rfl rfl fun a hE => Ze hE Za ld rfl fun a hE => Zf (wp_seq (Zc (Zd hE Za ld rfl ?_)))))); intro a hE
 refine Zh hE Za ld rfl rfl rfl fun a hE => Zf ?_
 refine Zv hE rfl ?_ ?_
 ·intro hb1
  have hF := ZA hF hb1
  refine Zc (Ze hE Za ld rfl fun a hE => Zf ?_)
  have hr := Option.some.inj hF
  subst hr
  exact wp_ret (ZE (Zy hE rfl (Zu hE rfl) ⟨_, rfl, rfl, hM.kept⟩))
 ·intro hb1
  have hF := ZB hF hb1
  refine wp_skip (Zz (Zc (Zd hE Za ld rfl fun a hE => Ze hE Za ld rfl fun a hE => Zf ?_)))
  have hr := Option.some.inj hF
  subst hr
  exact wp_ret (Zy hE rfl (Zu hE rfl) ⟨_, rfl, rfl, hM.kept⟩)
noncomputable def XN (p0 : (List UInt8)) (p1 : Int) : Option (Int) :=
 if (decide ((wr (p1 - (p0.length : Int))) < 0)) = true then (some (-1)) else (some (wr (p1 - (p0.length : Int))))
theorem Kk (w0 : World) (p0 : (List UInt8)) (v0_1 : Value) (hv0_1 : Ro w0 p0 [v0_1]) (p1 : Int) (r : Int) (hF : XN p0 p1 = some r) :
  Calls Tryz.prog 145 [v0_1, vI p1].toArray w0 (fun en w' => ∃ v, en = .returned v ∧ (v = (vI r) ∧ Kept (Old w0) w0 w')) := by
 refine ZD (n := 12) Tryz.func145 rfl rfl (Nat.le_of_ble_eq_true rfl) rfl ?_
 intro a hE
 have hM := M.start w0
 unfold XN at hF
 refine Zc (Ze hE Za ld rfl fun a hE => Zf (Zc (Zd hE Za ld rfl fun a hE => Zd hE Za ld rfl fun a hE => Z6 hE Za ld rfl Tryz.underlying57 (hM.rd hv0_1) fun a hE => Zh hE Za ld rfl rfl rfl fun a hE => Ze hE Za ld rfl fun a hE => Zf (wp_seq (Zc (Zd hE Za ld rfl ?_)))))); intro a hE
 refine Zh hE Za ld rfl rfl rfl fun a hE => Zf ?_
 refine Zv hE rfl ?_ ?_
 ·intro hb1
  have hF := ZA hF hb1
  refine Zc (Ze hE Za ld rfl fun a hE => Zf ?_)
  have hr := Option.some.inj hF
  subst hr
  exact wp_ret (ZE (Zy hE rfl (Zu hE rfl) ⟨_, rfl, rfl, hM.kept⟩))
 ·intro hb1
  have hF := ZB hF hb1
  refine wp_skip (Zz (Zc (Zd hE Za ld rfl fun a hE => Ze hE Za ld rfl fun a hE => Zf ?_)))
  have hr := Option.some.inj hF
  subst hr
  exact wp_ret (Zy hE rfl (Zu hE rfl) ⟨_, rfl, rfl, hM.kept⟩)
noncomputable def Un (p0 : GRecord) (p1 : Int) : Option (Int) :=
 (XN p0.Label p1).bind fun r3 => if (decide (r3 < 0)) = true then (some (-1)) else ((XN p0.Body r3).bind fun r6 => if (decide (r6 < 0)) = true then (some (-1)) else (some r6))
theorem HW (w0 : World) (p0 : GRecord) (v0_1 : Value) (hv0_1 : Ro w0 p0.Label [v0_1]) (v0_2 : Value) (hv0_2 : Ro w0 p0.Body [v0_2]) (p1 : Int) (r : Int) (hF : Un p0 p1 = some r) :
  Calls Tryz.prog 127 [(Value.agg (cat [[vI p0.Number], [vI p0.Version], enc p0.Nonce, [v0_1], [v0_2], enc p0.Tag]).toArray), vI p1].toArray w0 (fun en w' => ∃ v, en = .returned v ∧ (v = (vI r) ∧ Kept (Old w0) w0 w')) := by
 refine ZD (n := 18) Tryz.func127 rfl rfl (Nat.le_of_ble_eq_true rfl) rfl ?_
 intro a hE
 have hM := M.start w0
 unfold Un at hF
 refine Zc (ZX (cs := cat [[vI p0.Number], [vI p0.Version], enc p0.Nonce, [v0_1], [v0_2], enc p0.Tag]) hE hM Za ld rfl rfl fun b1 w a hM hE => Ze hE Za ld rfl fun a hE => Zf (Zc (Zg hE Za ld rfl (ji) fun a hE => Zq (v := v0_1) hE Za ld rfl Ua rfl (At.cat (pre := [[vI p0.Number], [vI p0.Version], enc p0.Nonce]) (hM.rawAt (pre := [])) (cl1 (n := 1) (m := 17) rfl (cl1 (n := 1) (m := 16) rfl (cl1 (n := 16) (m := 0) (Flat.len _) cl0)))) fun a hE => Zd hE Za ld rfl ?_))); intro a hE
 obtain ⟨r3, e4, hF⟩ := bind_some hF
 refine Zs hE Za ld rfl cb145 (Kk _ p0.Label v0_1 (hM.rdo hv0_1) p1 r3 e4) ?_
 rintro v w a ⟨rfl, hK⟩ hE
 have hM := hM.keep hK
 refine Ze hE Za ld rfl fun a hE => Zf (wp_seq (Zc (Zd hE Za ld rfl fun a hE => Zh hE Za ld rfl rfl rfl fun a hE => Zf ?_)))
 refine Zv hE rfl ?_ ?_
 ·intro hb5
  have hF := ZA hF hb5
  refine Zc (Ze hE Za ld rfl fun a hE => Zf ?_)
  have hr := Option.some.inj hF
  subst hr
  have hM := M.fst (l := []) hM
  exact wp_ret (ZE (Zy hE rfl (Zu hE rfl) ⟨_, rfl, rfl, hM.kept⟩))
 ·intro hb5
  have hF := ZB hF hb5
  refine wp_skip (Zz (Zc (Zg hE Za ld rfl (jm) fun a hE => Zq (v := v0_2) hE Za ld rfl Ua rfl (At.cat (pre := [[vI p0.Number], [vI p0.Version], enc p0.Nonce, [v0_1]]) (hM.rawAt (pre := [])) (cl1 (n := 1) (m := 18) rfl (cl1 (n := 1) (m := 17) rfl (cl1 (n := 16) (m := 1) (Flat.len _) (cl1 (n := 1) (m := 0) rfl cl0))))) fun a hE => Zd hE Za ld rfl ?_))); intro a hE
  obtain ⟨r6, e7, hF⟩ := bind_some hF
  refine Zs hE Za ld rfl cb145 (Kk _ p0.Body v0_2 (hM.rdo hv0_2) r3 r6 e7) ?_
  rintro v w a ⟨rfl, hK⟩ hE
  have hM := hM.keep hK
  refine Ze hE Za ld rfl fun a hE => Zf (wp_seq (Zc (Zd hE Za ld rfl fun a hE => Zh hE Za ld rfl rfl rfl fun a hE => Zf ?_)))
  refine Zv hE rfl ?_ ?_
  ·intro hb8
   have hF := ZA hF hb8
   refine Zc (Ze hE Za ld rfl fun a hE => Zf ?_)
   have hr := Option.some.inj hF
   subst hr
   have hM := M.fst (l := []) hM
   exact wp_ret (ZE (Zy hE rfl (Zu hE rfl) ⟨_, rfl, rfl, hM.kept⟩))
  ·intro hb8
   have hF := ZB hF hb8
   refine wp_skip (Zz (Zc (Zd hE Za ld rfl fun a hE => Ze hE Za ld rfl fun a hE => Zf ?_)))
   have hr := Option.some.inj hF
   subst hr
   have hM := M.fst (l := []) hM
   exact wp_ret (Zy hE rfl (Zu hE rfl) ⟨_, rfl, rfl, hM.kept⟩)
noncomputable def Ux (p0 : (List GRecord)) (s6 : Int × Int) : Option (Fl (Int × Int) (Fl Int Int)) :=
 if (decide (s6.2 < (p0.length : Int))) = true then ((idx p0 s6.2).bind fun x11 => (Un x11 s6.1).bind fun r21 => if (decide (r21 < 0)) = true then (some (Fl.ex (Fl.ex (-1)))) else (some (Fl.nx (r21, wr (s6.2 + 1))))) else (some (Fl.ex (Fl.nx s6.1)))
noncomputable def Xx (p0 : (List GRecord)) (p1 : Int) : Option (Int) :=
 if (decide ((wr (p1 - (p0.length : Int))) < 0)) = true then (some (-1)) else ((ZG (Ux p0) (wr (p1 - (p0.length : Int)), 0) : Option (Fl Int Int)).bind fun j2 => j2.el (fun s5 => some s5) (fun r => some r))
theorem J5 (w0 : World) (p0 : (List GRecord)) (v0_1 : Value) (hv0_1 : Ro w0 p0 [v0_1]) (p1 : Int) (r : Int) (hF : Xx p0 p1 = some r) :
  Calls Tryz.prog 51 [v0_1, vI p1].toArray w0 (fun en w' => ∃ v, en = .returned v ∧ (v = (vI r) ∧ Kept (Old w0) w0 w')) := by
 refine ZD (n := 27) Tryz.func51 rfl rfl (Nat.le_of_ble_eq_true rfl) rfl ?_
 intro a hE
 have hM := M.start w0
 unfold Xx at hF
 refine Zc (Ze hE Za ld rfl fun a hE => Zf (Zc (Zd hE Za ld rfl fun a hE => Zd hE Za ld rfl fun a hE => Z6 hE Za ld rfl Tryz.underlying23 (hM.rd hv0_1) fun a hE => Zh hE Za ld rfl rfl rfl fun a hE => Ze hE Za ld rfl fun a hE => Zf (wp_seq (Zc (Zd hE Za ld rfl ?_)))))); intro a hE
 refine Zh hE Za ld rfl rfl rfl fun a hE => Zf ?_
 refine Zv hE rfl ?_ ?_
 ·intro hb1
  have hF := ZA hF hb1
  refine Zc (Ze hE Za ld rfl fun a hE => Zf ?_)
  have hr := Option.some.inj hF
  subst hr
  exact wp_ret (ZE (Zy hE rfl (Zu hE rfl) ⟨_, rfl, rfl, hM.kept⟩))
 ·intro hb1
  have hF := ZB hF hb1
  refine wp_skip (Zz (wp_seq (Zc (Ze hE Za ld rfl fun a hE => Zf ?_))))
  obtain ⟨j2, hl3, hF4⟩ := bind_some hF
  refine ZR (fun a w => ∃ s5 : Int, j2 = Fl.nx s5 ∧ Env 27 a [(1, vI s5)] ∧ M (Old w0) w0 w []) ?_ ?_
  ·skip
   refine wp_block ?_
   refine ZK (fun (s6 : Int × Int) a w => Env 27 a [(0, v0_1), (1, vI s6.1), (5, vI s6.2)] ∧ M (Old w0) w0 w []) hl3 ⟨hE.sub ⟨rfl, rfl, rfl, trivial⟩, hM⟩ ?_
   rintro s6 a w ⟨hE, hM⟩ o9 hs7 hx8
   unfold Ux at hs7
   refine wp_seq (Zc (Zd hE Za ld rfl fun a hE => Zd hE Za ld rfl fun a hE => Z6 hE Za ld rfl Tryz.underlying23 (hM.rd hv0_1) fun a hE => Zh hE Za ld rfl rfl rfl fun a hE => Zf ?_))
   refine Zv hE rfl ?_ ?_
   ·intro hb10
    have hs7 := ZA hs7 hb10
    refine wp_skip (Zz (wp_seq (wp_block (Zc (Zd hE Za ld rfl fun a hE => Zd hE Za ld rfl ?_))))); intro a hE
    obtain ⟨x11, e12, hs7⟩ := bind_some hs7
    have hi13 := ZO e12
    refine ZN hE Za ld rfl rfl Tryz.underlying23 KR (hM.rd hv0_1) hi13.1 ?_; intro a hE
    obtain ⟨cs14, hs15, hA16⟩ := Vn hv0_1 hi13.2 -- ^
    obtain ⟨u17, u19, rfl, h18, h20⟩ := Y8 hs15 -- ^
    refine Zm (cs := cat [[vI x11.Number], [vI x11.Version], enc x11.Nonce, [u17], [u19], enc x11.Tag]) hE Za ld rfl KR rfl (hM.atk hA16 (Tc hv0_1 hi13.2)) (ZC (cl1 (n := 1) (m := 51) rfl (cl1 (n := 1) (m := 50) rfl (cl1 (n := 16) (m := 34) (Flat.len _) (cl1 (n := 1) (m := 33) rfl (cl1 (n := 1) (m := 32) rfl (cl1 (n := 32) (m := 0) (Flat.len _) cl0))))))) fun a hE => Zd hE Za ld rfl ?_; intro a hE
    obtain ⟨r21, e22, hs7⟩ := bind_some hs7
    refine Zs hE Za ld rfl cb127 (HW _ x11 u17 (hM.rdo h18) u19 (hM.rdo h20) s6.1 r21 e22) ?_
    rintro v w a ⟨rfl, hK⟩ hE
    have hM := hM.keep hK
    refine Ze hE Za ld rfl fun a hE => Zf (Zc (Zd hE Za ld rfl fun a hE => Zh hE Za ld rfl rfl rfl fun a hE => Zf ?_))
    refine Zv hE rfl ?_ ?_
    ·intro hb23
     have hs7 := ZA hs7 hb23
     refine Zc (Ze hE Za ld rfl fun a hE => Zf ?_)
     have ht24 := hx8 _ (Option.some.inj hs7).symm
     subst ht24
     have hr := Option.some.inj hF4
     subst hr
     exact wp_ret (Wl (ZE (ZE (Wl (ZE (ZE (Zy hE rfl (Zu hE rfl) ⟨_, rfl, rfl, hM.kept⟩)))))))
    ·intro hb23
     have hs7 := ZB hs7 hb23
     refine wp_skip (Ye (Zz (wp_region_lit (Zd hE Za ld rfl fun a hE => Zh hE Za ld rfl rfl rfl fun a hE => Ze hE Za ld rfl fun a hE => Zi (Zl ?_)))))
     exact ⟨_, (Option.some.inj hs7).symm, hE.sub ⟨rfl, rfl, rfl, trivial⟩, hM⟩
   ·intro hb10
    have hs7 := ZB hs7 hb10
    refine wp_exit (Zp (Zp (Yc ?_)))
    have ht25 := hx8 _ (Option.some.inj hs7).symm
    subst ht25
    refine Zl ?_
    exact ⟨s6.1, rfl, hE.sub ⟨rfl, trivial⟩, hM⟩
  ·skip
   rintro a w ⟨s5, ht, hE, hM⟩
   subst ht
   have hF4 := Qo hF4
   refine Zz (Zc (Zd hE Za ld rfl fun a hE => Ze hE Za ld rfl fun a hE => Zf ?_))
   have hr := Option.some.inj hF4
   subst hr
   exact wp_ret (Zy hE rfl (Zu hE rfl) ⟨_, rfl, rfl, hM.kept⟩)
noncomputable def Xn (p0 : (List GEvent)) (p1 : Int) : Option (Int) :=
 if (decide ((wr (p1 - (p0.length : Int))) < 0)) = true then (some (-1)) else (some (wr (p1 - (p0.length : Int))))
theorem H2 (w0 : World) (p0 : (List GEvent)) (v0_1 : Value) (hv0_1 : Ro w0 p0 [v0_1]) (p1 : Int) (r : Int) (hF : Xn p0 p1 = some r) :
  Calls Tryz.prog 52 [v0_1, vI p1].toArray w0 (fun en w' => ∃ v, en = .returned v ∧ (v = (vI r) ∧ Kept (Old w0) w0 w')) := by
 refine ZD (n := 12) Tryz.func52 rfl rfl (Nat.le_of_ble_eq_true rfl) rfl ?_
 intro a hE
 have hM := M.start w0
 unfold Xn at hF
 refine Zc (Ze hE Za ld rfl fun a hE => Zf (Zc (Zd hE Za ld rfl fun a hE => Zd hE Za ld rfl fun a hE => Z6 hE Za ld rfl Tryz.underlying24 (hM.rd hv0_1) fun a hE => Zh hE Za ld rfl rfl rfl fun a hE => Ze hE Za ld rfl fun a hE => Zf (wp_seq (Zc (Zd hE Za ld rfl ?_)))))); intro a hE
 refine Zh hE Za ld rfl rfl rfl fun a hE => Zf ?_
 refine Zv hE rfl ?_ ?_
 ·intro hb1
  have hF := ZA hF hb1
  refine Zc (Ze hE Za ld rfl fun a hE => Zf ?_)
  have hr := Option.some.inj hF
  subst hr
  exact wp_ret (ZE (Zy hE rfl (Zu hE rfl) ⟨_, rfl, rfl, hM.kept⟩))
 ·intro hb1
  have hF := ZB hF hb1
  refine wp_skip (Zz (Zc (Zd hE Za ld rfl fun a hE => Ze hE Za ld rfl fun a hE => Zf ?_)))
  have hr := Option.some.inj hF
  subst hr
  exact wp_ret (Zy hE rfl (Zu hE rfl) ⟨_, rfl, rfl, hM.kept⟩)
noncomputable def TM (p0 : GVault) (p1 : Int) : Option (Int) :=
 (WW p0.Keys p1).bind fun r3 => if (decide (r3 < 0)) = true then (some (-1)) else ((Xx p0.Records r3).bind fun r6 => if (decide (r6 < 0)) = true then (some (-1)) else ((Xn p0.Events r6).bind fun r9 => if (decide (r9 < 0)) = true then (some (-1)) else (some r9)))
theorem Bk (w0 : World) (p0 : GVault) (v0_1 : Value) (hv0_1 : Ro w0 p0.Keys [v0_1]) (v0_2 : Value) (hv0_2 : Ro w0 p0.Records [v0_2]) (v0_3 : Value) (hv0_3 : Ro w0 p0.Events [v0_3]) (p1 : Int) (r : Int) (hF : TM p0 p1 = some r) :
  Calls Tryz.prog 12 [(Value.agg (cat [[v0_1], [vI p0.Next], [v0_2], [v0_3], enc p0.Head]).toArray), vI p1].toArray w0 (fun en w' => ∃ v, en = .returned v ∧ (v = (vI r) ∧ Kept (Old w0) w0 w')) := by
 refine ZD (n := 24) Tryz.func12 rfl rfl (Nat.le_of_ble_eq_true rfl) rfl ?_
 intro a hE
 have hM := M.start w0
 unfold TM at hF
 refine Zc (ZX (cs := cat [[v0_1], [vI p0.Next], [v0_2], [v0_3], enc p0.Head]) hE hM Za ld rfl rfl fun b1 w a hM hE => Ze hE Za ld rfl fun a hE => Zf (Zc (Zg hE Za ld rfl (kP) fun a hE => Zq (v := v0_1) hE Za ld rfl ty22 rfl (At.cat (pre := []) (hM.rawAt (pre := [])) cl0) fun a hE => Zd hE Za ld rfl ?_))); intro a hE
 obtain ⟨r3, e4, hF⟩ := bind_some hF
 refine Zs hE Za ld rfl cb50 (H6 _ p0.Keys v0_1 (hM.rdo hv0_1) p1 r3 e4) ?_
 rintro v w a ⟨rfl, hK⟩ hE
 have hM := hM.keep hK
 refine Ze hE Za ld rfl fun a hE => Zf (wp_seq (Zc (Zd hE Za ld rfl fun a hE => Zh hE Za ld rfl rfl rfl fun a hE => Zf ?_)))
 refine Zv hE rfl ?_ ?_
 ·intro hb5
  have hF := ZA hF hb5
  refine Zc (Ze hE Za ld rfl fun a hE => Zf ?_)
  have hr := Option.some.inj hF
  subst hr
  have hM := M.fst (l := []) hM
  exact wp_ret (ZE (Zy hE rfl (Zu hE rfl) ⟨_, rfl, rfl, hM.kept⟩))
 ·intro hb5
  have hF := ZB hF hb5
  refine wp_skip (Zz (Zc (Zg hE Za ld rfl (kC) fun a hE => Zq (v := v0_2) hE Za ld rfl ty23 rfl (At.cat (pre := [[v0_1], [vI p0.Next]]) (hM.rawAt (pre := [])) (cl1 (n := 1) (m := 1) rfl (cl1 (n := 1) (m := 0) rfl cl0))) fun a hE => Zd hE Za ld rfl ?_))); intro a hE
  obtain ⟨r6, e7, hF⟩ := bind_some hF
  refine Zs hE Za ld rfl cb51 (J5 _ p0.Records v0_2 (hM.rdo hv0_2) r3 r6 e7) ?_
  rintro v w a ⟨rfl, hK⟩ hE
  have hM := hM.keep hK
  refine Ze hE Za ld rfl fun a hE => Zf (wp_seq (Zc (Zd hE Za ld rfl fun a hE => Zh hE Za ld rfl rfl rfl fun a hE => Zf ?_)))
  refine Zv hE rfl ?_ ?_
  ·intro hb8
   have hF := ZA hF hb8
   refine Zc (Ze hE Za ld rfl fun a hE => Zf ?_)
   have hr := Option.some.inj hF
   subst hr
   have hM := M.fst (l := []) hM
   exact wp_ret (ZE (Zy hE rfl (Zu hE rfl) ⟨_, rfl, rfl, hM.kept⟩))
  ·intro hb8
   have hF := ZB hF hb8
   refine wp_skip (Zz (Zc (Zg hE Za ld rfl (kk) fun a hE => Zq (v := v0_3) hE Za ld rfl ty24 rfl (At.cat (pre := [[v0_1], [vI p0.Next], [v0_2]]) (hM.rawAt (pre := [])) (cl1 (n := 1) (m := 2) rfl (cl1 (n := 1) (m := 1) rfl (cl1 (n := 1) (m := 0) rfl cl0)))) fun a hE => Zd hE Za ld rfl ?_))); intro a hE
   obtain ⟨r9, e10, hF⟩ := bind_some hF
   refine Zs hE Za ld rfl cb52 (H2 _ p0.Events v0_3 (hM.rdo hv0_3) r6 r9 e10) ?_
   rintro v w a ⟨rfl, hK⟩ hE
   have hM := hM.keep hK
   refine Ze hE Za ld rfl fun a hE => Zf (wp_seq (Zc (Zd hE Za ld rfl fun a hE => Zh hE Za ld rfl rfl rfl fun a hE => Zf ?_)))
   refine Zv hE rfl ?_ ?_
   ·intro hb11
    have hF := ZA hF hb11
    refine Zc (Ze hE Za ld rfl fun a hE => Zf ?_)
    have hr := Option.some.inj hF
    subst hr
    have hM := M.fst (l := []) hM
    exact wp_ret (ZE (Zy hE rfl (Zu hE rfl) ⟨_, rfl, rfl, hM.kept⟩))
   ·intro hb11
    have hF := ZB hF hb11
    refine wp_skip (Zz (Zc (Zd hE Za ld rfl fun a hE => Ze hE Za ld rfl fun a hE => Zf ?_)))
    have hr := Option.some.inj hF
    subst hr
    have hM := M.fst (l := []) hM
    exact wp_ret (Zy hE rfl (Zu hE rfl) ⟨_, rfl, rfl, hM.kept⟩)
noncomputable def Tm (p0 : (Vector UInt8 16)) (s10 : (Vector UInt8 16) × Int) : Option (Fl ((Vector UInt8 16) × Int) (Vector UInt8 16)) :=
 if (decide (s10.2 < 16)) = true then ((ZM p0 s10.2).bind fun x16 => (ZM s10.1 s10.2).bind fun x19 => some (Fl.nx ((s10.1.setIfInBounds (s10.2).toNat x16), wr (s10.2 + 1)))) else (some (Fl.ex s10.1))
noncomputable def WL (p0 : (Vector UInt8 16)) : Option ((Vector UInt8 16)) :=
 (ZG (Tm p0) ((Vector.replicate 16 (0 : UInt8)), 0) : Option ((Vector UInt8 16))).bind fun j7 => some j7
theorem Km (w0 : World) (p0 : (Vector UInt8 16)) (r : (Vector UInt8 16)) (hF : WL p0 = some r) :
  Calls Tryz.prog 36 [(Value.agg (enc p0).toArray)].toArray w0 (fun en w' => ∃ v, en = .returned v ∧ (v = (Value.agg (enc r).toArray) ∧ Kept (Old w0) w0 w')) := by
 refine ZD (n := 15) Tryz.func36 rfl rfl (Nat.le_of_ble_eq_true rfl) rfl ?_
 intro a hE
 have hM := M.start w0
 unfold WL at hF
 refine Zc (ZX (cs := enc p0) hE hM Za ld rfl rfl fun b1 w a hM hE => ZI hE hM Za ld ZH fun b3 w a hM hE => Zf (Zc (ZI hE hM Za ld ZH fun b5 w a hM hE => Zf (wp_seq (Zc (Ze hE Za ld rfl fun a hE => Zf ?_))))))
 obtain ⟨j7, hl8, hF9⟩ := bind_some hF
 refine ZR (fun a w => Env 15 a [(2, (ptr b3 0)), (3, (ptr b5 0))] ∧ M (Old w0) w0 w [raw b5 (enc j7), raw b3 (enc (Vector.replicate 16 (0 : UInt8)))]) ?_ ?_
 ·skip
  refine wp_block ?_
  refine ZK (fun (s10 : (Vector UInt8 16) × Int) a w => Env 15 a [(1, (ptr b1 0)), (2, (ptr b3 0)), (3, (ptr b5 0)), (4, vI s10.2)] ∧ M (Old w0) w0 w [raw b5 (enc s10.1), raw b3 (enc (Vector.replicate 16 (0 : UInt8))), raw b1 (enc p0)]) hl8 ⟨hE.sub ⟨rfl, rfl, rfl, rfl, trivial⟩, hM⟩ ?_
  rintro s10 a w ⟨hE, hM⟩ o13 hs11 hx12
  unfold Tm at hs11
  refine wp_seq (Zc (Zd hE Za ld rfl fun a hE => Zh hE Za ld rfl rfl rfl fun a hE => Zf ?_))
  refine Zv hE rfl ?_ ?_
  ·intro hb14
   have hs11 := ZA hs11 hb14
   refine wp_skip (Zz (wp_seq (wp_block (wp_region_lit (Zd hE Za ld rfl fun a hE => Zd hE Za ld rfl ?_))))); intro a hE
   obtain ⟨x16, e17, hs11⟩ := bind_some hs11
   have hi15 := Zj e17
   refine Zn hE Za ld rfl rfl Tryz.underlying67 ty5 hi15.1 fun a hE => Zq (v := (vB x16)) hE Za ld rfl ty5 rfl (At.vec (hM.rawAt (pre := [_, _])) hi15.2) ?_; intro a hE
   obtain ⟨x19, e20, hs11⟩ := bind_some hs11
   have hi18 := Zj e20
   refine Zn hE Za ld rfl rfl Tryz.underlying70 ty5 hi18.1 fun a hE => Zt (seg := [vB x16]) (cs' := enc (s10.1.setIfInBounds (s10.2).toNat x16)) hE hM Za rfl rfl rfl ty5 rfl (ZQ (v := s10.1) (x := x16) hi18.1) (Flat.cell (x16 : UInt8)) (ZJ (v := s10.1) (x := x16) hi18.1) fun w a hM hE => Zi (Ye (Zz (wp_region_lit (Zd hE Za ld rfl fun a hE => Zh hE Za ld rfl rfl rfl fun a hE => Ze hE Za ld rfl fun a hE => Zi (Zl ?_)))))
   exact ⟨_, (Option.some.inj hs11).symm, hE.sub ⟨rfl, rfl, rfl, rfl, trivial⟩, hM⟩
  ·intro hb14
   have hs11 := ZB hs11 hb14
   refine wp_exit (Zp (Zp (Yc ?_)))
   have ht21 := hx12 _ (Option.some.inj hs11).symm
   subst ht21
   refine Zl ?_
   have hM := hM.pull (pre := [_])
   have hM := hM.pull (pre := [_])
   have hM := M.fst (l := [_, _]) hM
   exact ⟨hE.sub ⟨rfl, rfl, trivial⟩, hM⟩
 ·skip
  rintro a w ⟨hE, hM⟩
  refine Zz (Zc (Zm (cs := enc j7) hE Za ld rfl ZH rfl (hM.rawAt (pre := [])) (Flat.len _) ?_)); intro a hE
  have hM := hM.pull (pre := [_])
  refine Zt (seg := enc j7) (cs' := enc j7) hE hM Za rfl rfl rfl ZH (Flat.len _) (zle flq) (Flat.cell _) (Zo flq) fun w a hM hE => Zf ?_
  have hr := Option.some.inj hF9
  subst hr
  have hq22 : YB Tryz.prog _ _ (.cell 2 70) _ := ZZ hE rfl ZH rfl (hM.rawAt (pre := [])) (Flat.len _) rfl
  have hM := M.fst (l := []) hM
  exact wp_ret (Zy hE rfl hq22 ⟨_, rfl, rfl, hM.kept⟩)
noncomputable def U2 (p0 : (List (Vector UInt8 16))) (s10 : (List (Vector UInt8 16)) × Int) : Option (Fl ((List (Vector UInt8 16)) × Int) (List (Vector UInt8 16))) :=
 if (decide (s10.2 < (p0.length : Int))) = true then ((idx p0 s10.2).bind fun x17 => (WL x17).bind fun r20 => (idx s10.1 s10.2).bind fun x22 => some (Fl.nx ((s10.1.set (s10.2).toNat r20), wr (s10.2 + 1)))) else (some (Fl.ex s10.1))
noncomputable def Um (p0 : (List (Vector UInt8 16))) : Option ((List (Vector UInt8 16))) :=
 (mkS 16 (Vector.replicate 16 (0 : UInt8)) (p0.length : Int)).bind fun l1 => (ZG (U2 p0) (l1, 0) : Option ((List (Vector UInt8 16)))).bind fun j5 => some j5
theorem HQ (w0 : World) (p0 : (List (Vector UInt8 16))) (v0_1 : Value) (hv0_1 : Ro w0 p0 [v0_1]) (r : (List (Vector UInt8 16))) (hF : Um p0 = some r) :
  Calls Tryz.prog 56 [v0_1].toArray w0 (fun en w' => ∃ v, en = .returned v ∧ (∃ (y1 : Value), v = y1 ∧ Fr w0 w' [osl NoB (r : List (Vector UInt8 16)) y1] ∧ Kept (Old w0) w0 w')) := by
 refine ZD (n := 23) Tryz.func56 rfl rfl (Nat.le_of_ble_eq_true rfl) rfl ?_
 intro a hE
 have hM := M.start w0
 unfold Um at hF
 refine Zc (Ze hE Za ld rfl fun a hE => Zf (Zc (Zd hE Za ld rfl fun a hE => Z6 hE Za ld rfl Tryz.underlying22 (hM.rd hv0_1) ?_))); intro a hE
 obtain ⟨l1, e2, hF⟩ := bind_some hF
 refine zn hE hM Za ld rfl rfl Tryz.underlying32 ZH rfl (by decide) (fun _ => T3.2 ⟨rfl, rfl⟩) e2 fun u3 w a hM hE => Ze hE Za ld rfl fun a hE => Zf (wp_seq (Zc (Ze hE Za ld rfl fun a hE => Zf ?_)))
 obtain ⟨j5, hl6, hF7⟩ := bind_some hF
 refine ZR (fun a w => ∃ (u8 : Value), Env 23 a [(3, u8)] ∧ M (Old w0) w0 w [osl NoB (j5 : List (Vector UInt8 16)) u8]) ?_ ?_
 ·skip
  refine wp_block ?_
  refine ZK (fun (s10 : (List (Vector UInt8 16)) × Int) a w => ∃ (u11 : Value), Env 23 a [(0, v0_1), (3, u11), (4, vI s10.2)] ∧ M (Old w0) w0 w [osl NoB (s10.1 : List (Vector UInt8 16)) u11]) hl6 ⟨u3, hE.sub ⟨rfl, rfl, rfl, trivial⟩, hM⟩ ?_
  rintro s10 a w ⟨u11, hE, hM⟩ o15 hs13 hx14
  unfold U2 at hs13
  refine wp_seq (Zc (Zd hE Za ld rfl fun a hE => Zd hE Za ld rfl fun a hE => Z6 hE Za ld rfl Tryz.underlying22 (hM.rd hv0_1) fun a hE => Zh hE Za ld rfl rfl rfl fun a hE => Zf ?_))
  refine Zv hE rfl ?_ ?_
  ·intro hb16
   have hs13 := ZA hs13 hb16
   refine wp_skip (Zz (wp_seq (wp_block (wp_region_lit (Zd hE Za ld rfl fun a hE => Zd hE Za ld rfl fun a hE => Zd hE Za ld rfl fun a hE => Zd hE Za ld rfl ?_))))); intro a hE
   obtain ⟨x17, e18, hs13⟩ := bind_some hs13
   have hi19 := ZO e18
   refine ZN hE Za ld rfl rfl Tryz.underlying22 ty67 (hM.rd hv0_1) hi19.1 fun a hE => Zm (cs := enc x17) hE Za ld rfl ty67 rfl (Xa (hM.rd hv0_1) hi19.2) (Flat.len _) ?_; intro a hE
   obtain ⟨r20, e21, hs13⟩ := bind_some hs13
   refine Zs hE Za ld rfl cb36 (Km _ x17 r20 e21) ?_
   rintro v w a ⟨rfl, hK⟩ hE
   have hM := hM.keep hK
   obtain ⟨x22, e23, hs13⟩ := bind_some hs13
   have hi24 := ZO e23
   refine ZN hE Za ld rfl rfl Tryz.underlying32 ZH (hM.sl (pre := []) noB) hi24.1 fun a hE => TH (i := (s10.2).toNat) (k0 := 0) (seg := enc r20) (xo := x22) (xn := r20) hE hM Za rfl rfl rfl ZH (Flat.len _) (Flat.cell _) hi24.2 (Qf (m := 16) (Flat.len _) (by decide)) (Zo flq) fun w a hM hE => Zi (Ye (Zz (wp_region_lit (Zd hE Za ld rfl fun a hE => Zh hE Za ld rfl rfl rfl fun a hE => Ze hE Za ld rfl fun a hE => Zi (Zl ?_)))))
   exact ⟨_, (Option.some.inj hs13).symm, u11, hE.sub ⟨rfl, rfl, rfl, trivial⟩, hM⟩
  ·intro hb16
   have hs13 := ZB hs13 hb16
   refine wp_exit (Zp (Zp (Yc ?_)))
   have ht25 := hx14 _ (Option.some.inj hs13).symm
   subst ht25
   refine Zl ?_
   exact ⟨u11, hE.sub ⟨rfl, trivial⟩, hM⟩
 ·skip
  rintro a w ⟨u8, hE, hM⟩
  refine Zz (Zc (Zd hE Za ld rfl fun a hE => Ze hE Za ld rfl fun a hE => Zf ?_))
  have hr := Option.some.inj hF7
  subst hr
  exact wp_ret (Zy hE rfl (Zu hE rfl) ⟨_, rfl, u8, rfl, hM.outF (Xu Xo), hM.kept⟩)
noncomputable def Tn (p0 : (List UInt8)) (s10 : (List UInt8) × Int) : Option (Fl ((List UInt8) × Int) (List UInt8)) :=
 if (decide (s10.2 < (p0.length : Int))) = true then ((idx p0 s10.2).bind fun x17 => (idx s10.1 s10.2).bind fun x20 => some (Fl.nx ((s10.1.set (s10.2).toNat x17), wr (s10.2 + 1)))) else (some (Fl.ex s10.1))
noncomputable def VG (p0 : (List UInt8)) : Option ((List UInt8)) :=
 (mkS 1 (0 : UInt8) (p0.length : Int)).bind fun l1 => (ZG (Tn p0) (l1, 0) : Option ((List UInt8))).bind fun j5 => some j5
theorem Kz (w0 : World) (p0 : (List UInt8)) (v0_1 : Value) (hv0_1 : Ro w0 p0 [v0_1]) (r : (List UInt8)) (hF : VG p0 = some r) :
  Calls Tryz.prog 33 [v0_1].toArray w0 (fun en w' => ∃ v, en = .returned v ∧ (∃ (y1 : Value), v = y1 ∧ Fr w0 w' [osl NoB (r : List UInt8) y1] ∧ Kept (Old w0) w0 w')) := by
 refine ZD (n := 22) Tryz.func33 rfl rfl (Nat.le_of_ble_eq_true rfl) rfl ?_
 intro a hE
 have hM := M.start w0
 unfold VG at hF
 refine Zc (Ze hE Za ld rfl fun a hE => Zf (Zc (Zd hE Za ld rfl fun a hE => Z6 hE Za ld rfl Tryz.underlying57 (hM.rd hv0_1) ?_))); intro a hE
 obtain ⟨l1, e2, hF⟩ := bind_some hF
 refine zn hE hM Za ld rfl rfl Tryz.underlying57 ty5 rfl (by decide) (fun _ => T3.2 ⟨rfl, rfl⟩) e2 fun u3 w a hM hE => Ze hE Za ld rfl fun a hE => Zf (wp_seq (Zc (Ze hE Za ld rfl fun a hE => Zf ?_)))
 obtain ⟨j5, hl6, hF7⟩ := bind_some hF
 refine ZR (fun a w => ∃ (u8 : Value), Env 22 a [(3, u8)] ∧ M (Old w0) w0 w [osl NoB (j5 : List UInt8) u8]) ?_ ?_
 ·skip
  refine wp_block ?_
  refine ZK (fun (s10 : (List UInt8) × Int) a w => ∃ (u11 : Value), Env 22 a [(0, v0_1), (3, u11), (4, vI s10.2)] ∧ M (Old w0) w0 w [osl NoB (s10.1 : List UInt8) u11]) hl6 ⟨u3, hE.sub ⟨rfl, rfl, rfl, trivial⟩, hM⟩ ?_
  rintro s10 a w ⟨u11, hE, hM⟩ o15 hs13 hx14
  unfold Tn at hs13
  refine wp_seq (Zc (Zd hE Za ld rfl fun a hE => Zd hE Za ld rfl fun a hE => Z6 hE Za ld rfl Tryz.underlying57 (hM.rd hv0_1) fun a hE => Zh hE Za ld rfl rfl rfl fun a hE => Zf ?_))
  refine Zv hE rfl ?_ ?_
  ·intro hb16
   have hs13 := ZA hs13 hb16
   refine wp_skip (Zz (wp_seq (wp_block (wp_region_lit (Zd hE Za ld rfl fun a hE => Zd hE Za ld rfl fun a hE => Zd hE Za ld rfl fun a hE => Zd hE Za ld rfl ?_))))); intro a hE
   obtain ⟨x17, e18, hs13⟩ := bind_some hs13
   have hi19 := ZO e18
   refine ZN hE Za ld rfl rfl Tryz.underlying57 ty5 (hM.rd hv0_1) hi19.1 fun a hE => Zq (v := (vB x17)) hE Za ld rfl ty5 rfl (Xa (hM.rd hv0_1) hi19.2) ?_; intro a hE
   obtain ⟨x20, e21, hs13⟩ := bind_some hs13
   have hi22 := ZO e21
   refine ZN hE Za ld rfl rfl Tryz.underlying57 ty5 (hM.sl (pre := []) noB) hi22.1 fun a hE => TH (i := (s10.2).toNat) (k0 := 0) (seg := [vB x17]) (xo := x20) (xn := x17) hE hM Za rfl rfl rfl ty5 rfl (Flat.cell (x17 : UInt8)) hi22.2 (Qf (m := 1) rfl (by decide)) (Zo rfl) fun w a hM hE => Zi (Ye (Zz (wp_region_lit (Zd hE Za ld rfl fun a hE => Zh hE Za ld rfl rfl rfl fun a hE => Ze hE Za ld rfl fun a hE => Zi (Zl ?_)))))
   exact ⟨_, (Option.some.inj hs13).symm, u11, hE.sub ⟨rfl, rfl, rfl, trivial⟩, hM⟩
  ·intro hb16
   have hs13 := ZB hs13 hb16
   refine wp_exit (Zp (Zp (Yc ?_)))
   have ht23 := hx14 _ (Option.some.inj hs13).symm
   subst ht23
   refine Zl ?_
   exact ⟨u11, hE.sub ⟨rfl, trivial⟩, hM⟩
 ·skip
  rintro a w ⟨u8, hE, hM⟩
  refine Zz (Zc (Zd hE Za ld rfl fun a hE => Ze hE Za ld rfl fun a hE => Zf ?_))
  have hr := Option.some.inj hF7
  subst hr
  exact wp_ret (Zy hE rfl (Zu hE rfl) ⟨_, rfl, u8, rfl, hM.outF (Xu Xo), hM.kept⟩)
noncomputable def UW (p0 : (Vector UInt8 32)) (s10 : (Vector UInt8 32) × Int) : Option (Fl ((Vector UInt8 32) × Int) (Vector UInt8 32)) :=
 if (decide (s10.2 < 32)) = true then ((ZM p0 s10.2).bind fun x16 => (ZM s10.1 s10.2).bind fun x19 => some (Fl.nx ((s10.1.setIfInBounds (s10.2).toNat x16), wr (s10.2 + 1)))) else (some (Fl.ex s10.1))
noncomputable def Wb (p0 : (Vector UInt8 32)) : Option ((Vector UInt8 32)) :=
 (ZG (UW p0) ((Vector.replicate 32 (0 : UInt8)), 0) : Option ((Vector UInt8 32))).bind fun j7 => some j7
theorem T7 (w0 : World) (p0 : (Vector UInt8 32)) (r : (Vector UInt8 32)) (hF : Wb p0 = some r) :
  Calls Tryz.prog 21 [(Value.agg (enc p0).toArray)].toArray w0 (fun en w' => ∃ v, en = .returned v ∧ (v = (Value.agg (enc r).toArray) ∧ Kept (Old w0) w0 w')) := by
 refine ZD (n := 15) Tryz.func21 rfl rfl (Nat.le_of_ble_eq_true rfl) rfl ?_
 intro a hE
 have hM := M.start w0
 unfold Wb at hF
 refine Zc (ZX (cs := enc p0) hE hM Za ld rfl rfl fun b1 w a hM hE => ZI hE hM Za ld Yu fun b3 w a hM hE => Zf (Zc (ZI hE hM Za ld Yu fun b5 w a hM hE => Zf (wp_seq (Zc (Ze hE Za ld rfl fun a hE => Zf ?_))))))
 obtain ⟨j7, hl8, hF9⟩ := bind_some hF
 refine ZR (fun a w => Env 15 a [(2, (ptr b3 0)), (3, (ptr b5 0))] ∧ M (Old w0) w0 w [raw b5 (enc j7), raw b3 (enc (Vector.replicate 32 (0 : UInt8)))]) ?_ ?_
 ·skip
  refine wp_block ?_
  refine ZK (fun (s10 : (Vector UInt8 32) × Int) a w => Env 15 a [(1, (ptr b1 0)), (2, (ptr b3 0)), (3, (ptr b5 0)), (4, vI s10.2)] ∧ M (Old w0) w0 w [raw b5 (enc s10.1), raw b3 (enc (Vector.replicate 32 (0 : UInt8))), raw b1 (enc p0)]) hl8 ⟨hE.sub ⟨rfl, rfl, rfl, rfl, trivial⟩, hM⟩ ?_
  rintro s10 a w ⟨hE, hM⟩ o13 hs11 hx12
  unfold UW at hs11
  refine wp_seq (Zc (Zd hE Za ld rfl fun a hE => Zh hE Za ld rfl rfl rfl fun a hE => Zf ?_))
  refine Zv hE rfl ?_ ?_
  ·intro hb14
   have hs11 := ZA hs11 hb14
   refine wp_skip (Zz (wp_seq (wp_block (wp_region_lit (Zd hE Za ld rfl fun a hE => Zd hE Za ld rfl ?_))))); intro a hE
   obtain ⟨x16, e17, hs11⟩ := bind_some hs11
   have hi15 := Zj e17
   refine Zn hE Za ld rfl rfl Tryz.underlying25 ty5 hi15.1 fun a hE => Zq (v := (vB x16)) hE Za ld rfl ty5 rfl (At.vec (hM.rawAt (pre := [_, _])) hi15.2) ?_; intro a hE
   obtain ⟨x19, e20, hs11⟩ := bind_some hs11
   have hi18 := Zj e20
   refine Zn hE Za ld rfl rfl Tryz.underlying29 ty5 hi18.1 fun a hE => Zt (seg := [vB x16]) (cs' := enc (s10.1.setIfInBounds (s10.2).toNat x16)) hE hM Za rfl rfl rfl ty5 rfl (ZQ (v := s10.1) (x := x16) hi18.1) (Flat.cell (x16 : UInt8)) (ZJ (v := s10.1) (x := x16) hi18.1) fun w a hM hE => Zi (Ye (Zz (wp_region_lit (Zd hE Za ld rfl fun a hE => Zh hE Za ld rfl rfl rfl fun a hE => Ze hE Za ld rfl fun a hE => Zi (Zl ?_)))))
   exact ⟨_, (Option.some.inj hs11).symm, hE.sub ⟨rfl, rfl, rfl, rfl, trivial⟩, hM⟩
  ·intro hb14
   have hs11 := ZB hs11 hb14
   refine wp_exit (Zp (Zp (Yc ?_)))
   have ht21 := hx12 _ (Option.some.inj hs11).symm
   subst ht21
   refine Zl ?_
   have hM := hM.pull (pre := [_])
   have hM := hM.pull (pre := [_])
   have hM := M.fst (l := [_, _]) hM
   exact ⟨hE.sub ⟨rfl, rfl, trivial⟩, hM⟩
 ·skip
  rintro a w ⟨hE, hM⟩
  refine Zz (Zc (Zm (cs := enc j7) hE Za ld rfl Yu rfl (hM.rawAt (pre := [])) (Flat.len _) ?_)); intro a hE
  have hM := hM.pull (pre := [_])
  refine Zt (seg := enc j7) (cs' := enc j7) hE hM Za rfl rfl rfl Yu (Flat.len _) (zle flq) (Flat.cell _) (Zo flq) fun w a hM hE => Zf ?_
  have hr := Option.some.inj hF9
  subst hr
  have hq22 : YB Tryz.prog _ _ (.cell 2 29) _ := ZZ hE rfl Yu rfl (hM.rawAt (pre := [])) (Flat.len _) rfl
  have hM := M.fst (l := []) hM
  exact wp_ret (Zy hE rfl hq22 ⟨_, rfl, rfl, hM.kept⟩)
noncomputable def W0 (p0 : GRecord) : Option (GRecord) :=
 (WL p0.Nonce).bind fun r7 => (VG p0.Label).bind fun r9 => (VG p0.Body).bind fun r12 => (Wb p0.Tag).bind fun r15 => some (⟨p0.Number, p0.Version, r7, r9, r12, r15⟩ : GRecord)
theorem HN (w0 : World) (p0 : GRecord) (v0_1 : Value) (hv0_1 : Ro w0 p0.Label [v0_1]) (v0_2 : Value) (hv0_2 : Ro w0 p0.Body [v0_2]) (r : GRecord) (hF : W0 p0 = some r) :
  Calls Tryz.prog 135 [(Value.agg (cat [[vI p0.Number], [vI p0.Version], enc p0.Nonce, [v0_1], [v0_2], enc p0.Tag]).toArray)].toArray w0 (fun en w' => ∃ v, en = .returned v ∧ (∃ (y1 : Value) (y2 : Value), v = (Value.agg (cat [[vI r.Number], [vI r.Version], enc r.Nonce, [y1], [y2], enc r.Tag]).toArray) ∧ Fr w0 w' [osl NoB (r.Label : List UInt8) y1, osl NoB (r.Body : List UInt8) y2] ∧ Kept (Old w0) w0 w')) := by
 refine ZD (n := 27) Tryz.func135 rfl rfl (Nat.le_of_ble_eq_true rfl) rfl ?_
 intro a hE
 have hM := M.start w0
 unfold W0 at hF
 refine Zc (ZX (cs := cat [[vI p0.Number], [vI p0.Version], enc p0.Nonce, [v0_1], [v0_2], enc p0.Tag]) hE hM Za ld rfl rfl fun b1 w a hM hE => ZI hE hM Za ld Wx fun b3 w a hM hE => Zf (Zc (ZI hE hM Za ld Wx fun b5 w a hM hE => Zf (Zc (Zg hE Za ld rfl (qM) fun a hE => Zq (v := (vI p0.Number)) hE Za ld rfl ty2 rfl (At.cat (pre := []) (hM.rawAt (pre := [_, _])) cl0) fun a hE => Zg hE Za ld rfl (Td) fun a hE => Zt (seg := [vI p0.Number]) (cs' := cat [[vI p0.Number], [vI 0], enc (Vector.replicate 16 (0 : UInt8)), [(Value.slice none 0 0)], [(Value.slice none 0 0)], enc (Vector.replicate 32 (0 : UInt8))]) hE hM Za rfl rfl rfl ty2 rfl (Vt (pre := []) cl0 rfl) (Flat.cell (p0.Number : Int)) (Ys (pre := []) cl0 rfl) ?_))))); intro w a hM hE
 refine Zf (Zc (Zg hE Za ld rfl (qF) fun a hE => Zq (v := (vI p0.Version)) hE Za ld rfl ty2 rfl (At.cat (pre := [[vI p0.Number]]) (hM.rawAt (pre := [_, _])) (cl1 (n := 1) (m := 0) rfl cl0)) fun a hE => Zg hE Za ld rfl (TO) fun a hE => Zt (seg := [vI p0.Version]) (cs' := cat [[vI p0.Number], [vI p0.Version], enc (Vector.replicate 16 (0 : UInt8)), [(Value.slice none 0 0)], [(Value.slice none 0 0)], enc (Vector.replicate 32 (0 : UInt8))]) hE hM Za rfl rfl rfl ty2 rfl (Vt (pre := [[vI p0.Number]]) (cl1 (n := 1) (m := 0) rfl cl0) rfl) (Flat.cell (p0.Version : Int)) (Ys (pre := [[vI p0.Number]]) (cl1 (n := 1) (m := 0) rfl cl0) rfl) fun w a hM hE => Zf (Zc (Zg hE Za ld rfl (qt) fun a hE => Zm (cs := enc p0.Nonce) hE Za ld rfl ty67 rfl (At.cat (pre := [[vI p0.Number], [vI p0.Version]]) (hM.rawAt (pre := [_, _])) (cl1 (n := 1) (m := 1) rfl (cl1 (n := 1) (m := 0) rfl cl0))) (Flat.len _) ?_)))); intro a hE
 obtain ⟨r7, e8, hF⟩ := bind_some hF
 refine Zs hE Za ld rfl cb36 (Km _ p0.Nonce r7 e8) ?_
 rintro v w a ⟨rfl, hK⟩ hE
 have hM := hM.keep hK
 refine Zg hE Za ld rfl (KA) fun a hE => Zt (seg := enc r7) (cs' := cat [[vI p0.Number], [vI p0.Version], enc r7, [(Value.slice none 0 0)], [(Value.slice none 0 0)], enc (Vector.replicate 32 (0 : UInt8))]) hE hM Za rfl rfl rfl ZH (Flat.len _) (Vt (pre := [[vI p0.Number], [vI p0.Version]]) (cl1 (n := 1) (m := 1) rfl (cl1 (n := 1) (m := 0) rfl cl0)) flq) (Flat.cell _) (Ys (pre := [[vI p0.Number], [vI p0.Version]]) (cl1 (n := 1) (m := 1) rfl (cl1 (n := 1) (m := 0) rfl cl0)) flq) fun w a hM hE => Zf (Zc (Zg hE Za ld rfl (ji) fun a hE => Zq (v := v0_1) hE Za ld rfl Ua rfl (At.cat (pre := [[vI p0.Number], [vI p0.Version], enc p0.Nonce]) (hM.rawAt (pre := [_, _])) (cl1 (n := 1) (m := 17) rfl (cl1 (n := 1) (m := 16) rfl (cl1 (n := 16) (m := 0) (Flat.len _) cl0)))) ?_)); intro a hE
 obtain ⟨r9, e10, hF⟩ := bind_some hF
 refine Zs hE Za ld rfl cb33 (Kz _ p0.Label v0_1 (hM.rdo hv0_1) r9 e10) ?_
 rintro u11 w a ⟨_, rfl, hFr, hK⟩ hE
 have hM := hM.add hK hFr
 refine Zg hE Za ld rfl (Qn) ?_; intro a hE
 have hM := hM.pull (pre := [_])
 refine Zt (seg := [u11]) (cs' := cat [[vI p0.Number], [vI p0.Version], enc r7, [u11], [(Value.slice none 0 0)], enc (Vector.replicate 32 (0 : UInt8))]) hE hM Za rfl rfl (Xb (hM.sl (pre := [_]) noB)) Ua rfl (Vt (pre := [[vI p0.Number], [vI p0.Version], enc r7]) (cl1 (n := 1) (m := 17) rfl (cl1 (n := 1) (m := 16) rfl (cl1 (n := 16) (m := 0) (Flat.len _) cl0))) rfl) (Rep.cell (hM.sl (pre := [_]) noB)) (Ys (pre := [[vI p0.Number], [vI p0.Version], enc r7]) (cl1 (n := 1) (m := 17) rfl (cl1 (n := 1) (m := 16) rfl (cl1 (n := 16) (m := 0) (Flat.len _) cl0))) rfl) fun w a hM hE => Zf (Zc (Zg hE Za ld rfl (jm) fun a hE => Zq (v := v0_2) hE Za ld rfl Ua rfl (At.cat (pre := [[vI p0.Number], [vI p0.Version], enc p0.Nonce, [v0_1]]) (hM.rawAt (pre := [_, _, _])) (cl1 (n := 1) (m := 18) rfl (cl1 (n := 1) (m := 17) rfl (cl1 (n := 16) (m := 1) (Flat.len _) (cl1 (n := 1) (m := 0) rfl cl0))))) ?_)); intro a hE
 obtain ⟨r12, e13, hF⟩ := bind_some hF
 refine Zs hE Za ld rfl cb33 (Kz _ p0.Body v0_2 (hM.rdo hv0_2) r12 e13) ?_
 rintro u14 w a ⟨_, rfl, hFr, hK⟩ hE
 have hM := hM.add hK hFr
 refine Zg hE Za ld rfl (QA) ?_; intro a hE
 have hM := hM.pull (pre := [_])
 refine Zt (seg := [u14]) (cs' := cat [[vI p0.Number], [vI p0.Version], enc r7, [u11], [u14], enc (Vector.replicate 32 (0 : UInt8))]) hE hM Za rfl rfl (Xb (hM.sl (pre := [_]) noB)) Ua rfl (Vt (pre := [[vI p0.Number], [vI p0.Version], enc r7, [u11]]) (cl1 (n := 1) (m := 18) rfl (cl1 (n := 1) (m := 17) rfl (cl1 (n := 16) (m := 1) (Flat.len _) (cl1 (n := 1) (m := 0) rfl cl0)))) rfl) (Rep.cell (hM.sl (pre := [_]) noB)) (Ys (pre := [[vI p0.Number], [vI p0.Version], enc r7, [u11]]) (cl1 (n := 1) (m := 18) rfl (cl1 (n := 1) (m := 17) rfl (cl1 (n := 16) (m := 1) (Flat.len _) (cl1 (n := 1) (m := 0) rfl cl0)))) rfl) fun w a hM hE => Zf (Zc (Zg hE Za ld rfl (qq) fun a hE => Zm (cs := enc p0.Tag) hE Za ld rfl ty25 rfl (At.cat (pre := [[vI p0.Number], [vI p0.Version], enc p0.Nonce, [v0_1], [v0_2]]) (hM.rawAt (pre := [_, _, _, _])) (cl1 (n := 1) (m := 19) rfl (cl1 (n := 1) (m := 18) rfl (cl1 (n := 16) (m := 2) (Flat.len _) (cl1 (n := 1) (m := 1) rfl (cl1 (n := 1) (m := 0) rfl cl0)))))) (Flat.len _) ?_)); intro a hE
 obtain ⟨r15, e16, hF⟩ := bind_some hF
 refine Zs hE Za ld rfl cb21 (T7 _ p0.Tag r15 e16) ?_
 rintro v w a ⟨rfl, hK⟩ hE
 have hM := hM.keep hK
 refine Zg hE Za ld rfl (J9) fun a hE => Zt (seg := enc r15) (cs' := cat [[vI p0.Number], [vI p0.Version], enc r7, [u11], [u14], enc r15]) hE hM Za rfl rfl rfl Yu (Flat.len _) (Vt (pre := [[vI p0.Number], [vI p0.Version], enc r7, [u11], [u14]]) (cl1 (n := 1) (m := 19) rfl (cl1 (n := 1) (m := 18) rfl (cl1 (n := 16) (m := 2) (Flat.len _) (cl1 (n := 1) (m := 1) rfl (cl1 (n := 1) (m := 0) rfl cl0))))) flq) (Flat.cell _) (Ys (pre := [[vI p0.Number], [vI p0.Version], enc r7, [u11], [u14]]) (cl1 (n := 1) (m := 19) rfl (cl1 (n := 1) (m := 18) rfl (cl1 (n := 16) (m := 2) (Flat.len _) (cl1 (n := 1) (m := 1) rfl (cl1 (n := 1) (m := 0) rfl cl0))))) flq) fun w a hM hE => Zf (Zc (Zm (cs := cat [[vI p0.Number], [vI p0.Version], enc r7, [u11], [u14], enc r15]) hE Za ld rfl Wx rfl (hM.rawAt (pre := [])) (ZC (cl1 (n := 1) (m := 51) rfl (cl1 (n := 1) (m := 50) rfl (cl1 (n := 16) (m := 34) (Flat.len _) (cl1 (n := 1) (m := 33) rfl (cl1 (n := 1) (m := 32) rfl (cl1 (n := 32) (m := 0) (Flat.len _) cl0))))))) ?_)); intro a hE
 have hM := hM.pull (pre := [_, _, _])
 refine Zt (seg := cat [[vI p0.Number], [vI p0.Version], enc r7, [u11], [u14], enc r15]) (cs' := cat [[vI p0.Number], [vI p0.Version], enc r7, [u11], [u14], enc r15]) hE hM Za rfl rfl rfl Wx (ZC (cl1 (n := 1) (m := 51) rfl (cl1 (n := 1) (m := 50) rfl (cl1 (n := 16) (m := 34) (Flat.len _) (cl1 (n := 1) (m := 33) rfl (cl1 (n := 1) (m := 32) rfl (cl1 (n := 32) (m := 0) (Flat.len _) cl0))))))) (Nat.le_of_eq ((Nat.zero_add _).trans (Eq.trans (ZC (cl1 (n := 1) (m := 51) rfl (cl1 (n := 1) (m := 50) rfl (cl1 (n := 16) (m := 34) (Flat.len _) (cl1 (n := 1) (m := 33) rfl (cl1 (n := 1) (m := 32) rfl (cl1 (n := 32) (m := 0) (Flat.len _) cl0))))))) (Eq.symm (ZC (cl1 (n := 1) (m := 51) rfl (cl1 (n := 1) (m := 50) rfl (cl1 (n := 16) (m := 34) (Flat.len _) (cl1 (n := 1) (m := 33) rfl (cl1 (n := 1) (m := 32) rfl (cl1 (n := 32) (m := 0) (Flat.len _) cl0))))))))))) (WD (cc1 (Flat.cell (p0.Number : Int)) (cc1 (Flat.cell (p0.Version : Int)) (cc1 (Flat.cell _) (cc1 (Rep.cell (hM.sl (pre := [_, _, _]) noB)) (cc1 (Rep.cell (hM.sl (pre := [_, _]) noB)) (cc1 (Flat.cell _) cc0))))))) (Zo (Eq.trans (ZC (cl1 (n := 1) (m := 51) rfl (cl1 (n := 1) (m := 50) rfl (cl1 (n := 16) (m := 34) (Flat.len _) (cl1 (n := 1) (m := 33) rfl (cl1 (n := 1) (m := 32) rfl (cl1 (n := 32) (m := 0) (Flat.len _) cl0))))))) (Eq.symm (ZC (cl1 (n := 1) (m := 51) rfl (cl1 (n := 1) (m := 50) rfl (cl1 (n := 16) (m := 34) (Flat.len _) (cl1 (n := 1) (m := 33) rfl (cl1 (n := 1) (m := 32) rfl (cl1 (n := 32) (m := 0) (Flat.len _) cl0)))))))))) fun w a hM hE => Zf ?_
 have hr := Option.some.inj hF
 subst hr
 have hq17 : YB Tryz.prog _ _ (.cell 2 92) _ := ZZ hE rfl Wx rfl (hM.rawAt (pre := [])) (ZC (cl1 (n := 1) (m := 51) rfl (cl1 (n := 1) (m := 50) rfl (cl1 (n := 16) (m := 34) (Flat.len _) (cl1 (n := 1) (m := 33) rfl (cl1 (n := 1) (m := 32) rfl (cl1 (n := 32) (m := 0) (Flat.len _) cl0))))))) rfl
 have hM := hM.pull (pre := [_, _])
 have hM := hM.pull (pre := [_, _, _])
 have hM := M.fst (l := [_, _]) hM
 exact wp_ret (Zy hE rfl hq17 ⟨_, rfl, u11, u14, rfl, hM.outF (Xu (Xu Xo)), hM.kept⟩)
noncomputable def UB (p0 : (List GRecord)) (s10 : (List GRecord) × Int) : Option (Fl ((List GRecord) × Int) (List GRecord)) :=
 if (decide (s10.2 < (p0.length : Int))) = true then ((idx p0 s10.2).bind fun x17 => (W0 x17).bind fun r27 => (idx s10.1 s10.2).bind fun x31 => some (Fl.nx ((s10.1.set (s10.2).toNat r27), wr (s10.2 + 1)))) else (some (Fl.ex s10.1))
noncomputable def VO (p0 : (List GRecord)) : Option ((List GRecord)) :=
 (mkS 112 (⟨(0 : Int), (0 : Int), (Vector.replicate 16 (0 : UInt8)), ([] : (List UInt8)), ([] : (List UInt8)), (Vector.replicate 32 (0 : UInt8))⟩ : GRecord) (p0.length : Int)).bind fun l1 => (ZG (UB p0) (l1, 0) : Option ((List GRecord))).bind fun j5 => some j5
theorem Hw (w0 : World) (p0 : (List GRecord)) (v0_1 : Value) (hv0_1 : Ro w0 p0 [v0_1]) (r : (List GRecord)) (hF : VO p0 = some r) :
  Calls Tryz.prog 57 [v0_1].toArray w0 (fun en w' => ∃ v, en = .returned v ∧ (∃ (y1 : Value), v = y1 ∧ Fr w0 w' [osl NoB (r : List GRecord) y1] ∧ Kept (Old w0) w0 w')) := by
 refine ZD (n := 23) Tryz.func57 rfl rfl (Nat.le_of_ble_eq_true rfl) rfl ?_
 intro a hE
 have hM := M.start w0
 unfold VO at hF
 refine Zc (Ze hE Za ld rfl fun a hE => Zf (Zc (Zd hE Za ld rfl fun a hE => Z6 hE Za ld rfl Tryz.underlying23 (hM.rd hv0_1) ?_))); intro a hE
 obtain ⟨l1, e2, hF⟩ := bind_some hF
 refine zn hE hM Za ld rfl rfl Tryz.underlying33 Wx rfl (by decide) zl e2 fun u3 w a hM hE => Ze hE Za ld rfl fun a hE => Zf (wp_seq (Zc (Ze hE Za ld rfl fun a hE => Zf ?_)))
 obtain ⟨j5, hl6, hF7⟩ := bind_some hF
 refine ZR (fun a w => ∃ (u8 : Value), Env 23 a [(3, u8)] ∧ M (Old w0) w0 w [osl NoB (j5 : List GRecord) u8]) ?_ ?_
 ·skip
  refine wp_block ?_
  refine ZK (fun (s10 : (List GRecord) × Int) a w => ∃ (u11 : Value), Env 23 a [(0, v0_1), (3, u11), (4, vI s10.2)] ∧ M (Old w0) w0 w [osl NoB (s10.1 : List GRecord) u11]) hl6 ⟨u3, hE.sub ⟨rfl, rfl, rfl, trivial⟩, hM⟩ ?_
  rintro s10 a w ⟨u11, hE, hM⟩ o15 hs13 hx14
  unfold UB at hs13
  refine wp_seq (Zc (Zd hE Za ld rfl fun a hE => Zd hE Za ld rfl fun a hE => Z6 hE Za ld rfl Tryz.underlying23 (hM.rd hv0_1) fun a hE => Zh hE Za ld rfl rfl rfl fun a hE => Zf ?_))
  refine Zv hE rfl ?_ ?_
  ·intro hb16
   have hs13 := ZA hs13 hb16
   refine wp_skip (Zz (wp_seq (wp_block (wp_region_lit (Zd hE Za ld rfl fun a hE => Zd hE Za ld rfl fun a hE => Zd hE Za ld rfl fun a hE => Zd hE Za ld rfl ?_))))); intro a hE
   obtain ⟨x17, e18, hs13⟩ := bind_some hs13
   have hi19 := ZO e18
   refine ZN hE Za ld rfl rfl Tryz.underlying23 KR (hM.rd hv0_1) hi19.1 ?_; intro a hE
   obtain ⟨cs20, hs21, hA22⟩ := Vn hv0_1 hi19.2 -- ^
   obtain ⟨u23, u25, rfl, h24, h26⟩ := Y8 hs21 -- ^
   refine Zm (cs := cat [[vI x17.Number], [vI x17.Version], enc x17.Nonce, [u23], [u25], enc x17.Tag]) hE Za ld rfl KR rfl (hM.atk hA22 (Tc hv0_1 hi19.2)) (ZC (cl1 (n := 1) (m := 51) rfl (cl1 (n := 1) (m := 50) rfl (cl1 (n := 16) (m := 34) (Flat.len _) (cl1 (n := 1) (m := 33) rfl (cl1 (n := 1) (m := 32) rfl (cl1 (n := 32) (m := 0) (Flat.len _) cl0))))))) ?_; intro a hE
   obtain ⟨r27, e28, hs13⟩ := bind_some hs13
   refine Zs hE Za ld rfl cb135 (HN _ x17 u23 (hM.rdo h24) u25 (hM.rdo h26) r27 e28) ?_
   rintro v w a ⟨u29, u30, rfl, hFr, hK⟩ hE
   have hM := hM.add hK hFr
   obtain ⟨x31, e32, hs13⟩ := bind_some hs13
   have hi33 := ZO e32
   refine ZN hE Za ld rfl rfl Tryz.underlying33 Wx (hM.sl (pre := [_, _]) noB) hi33.1 ?_; intro a hE
   have hM := hM.pull (pre := [_])
   have hM := hM.pull (pre := [_])
   have hM := hM.pack2 (it := own NoB r27 (cat [[vI r27.Number], [vI r27.Version], enc r27.Nonce, [u29], [u30], enc r27.Tag])) (Ve noB) (fun f0 f1 q0 q1 => (UG (WP.sat q0) (WP.sat q1) (by simp)))
   have hM := hM.pull (pre := [_])
   have hM := hM.pull (pre := [_])
   refine ku (i := (s10.2).toNat) (seg := cat [[vI r27.Number], [vI r27.Version], enc r27.Nonce, [u29], [u30], enc r27.Tag]) hE hM noB Za rfl rfl rfl Wx (by omega) fun w a hM hE => Zi (Ye (Zz (wp_region_lit (Zd hE Za ld rfl fun a hE => Zh hE Za ld rfl rfl rfl fun a hE => Ze hE Za ld rfl fun a hE => Zi (Zl ?_)))))
   exact ⟨_, (Option.some.inj hs13).symm, u11, hE.sub ⟨rfl, rfl, rfl, trivial⟩, hM⟩
  ·intro hb16
   have hs13 := ZB hs13 hb16
   refine wp_exit (Zp (Zp (Yc ?_)))
   have ht34 := hx14 _ (Option.some.inj hs13).symm
   subst ht34
   refine Zl ?_
   exact ⟨u11, hE.sub ⟨rfl, trivial⟩, hM⟩
 ·skip
  rintro a w ⟨u8, hE, hM⟩
  refine Zz (Zc (Zd hE Za ld rfl fun a hE => Ze hE Za ld rfl fun a hE => Zf ?_))
  have hr := Option.some.inj hF7
  subst hr
  exact wp_ret (Zy hE rfl (Zu hE rfl) ⟨_, rfl, u8, rfl, hM.outF (Xu Xo), hM.kept⟩)
noncomputable def VQ (p0 : GEvent) : Option (GEvent) :=
 (Wb p0.Tag).bind fun r7 => some (⟨p0.Kind, p0.Number, r7⟩ : GEvent)
theorem BZ (w0 : World) (p0 : GEvent) (r : GEvent) (hF : VQ p0 = some r) :
  Calls Tryz.prog 136 [(Value.agg (enc p0).toArray)].toArray w0 (fun en w' => ∃ v, en = .returned v ∧ (v = (Value.agg (enc r).toArray) ∧ Kept (Old w0) w0 w')) := by
 refine ZD (n := 15) Tryz.func136 rfl rfl (Nat.le_of_ble_eq_true rfl) rfl ?_
 intro a hE
 have hM := M.start w0
 unfold VQ at hF
 refine Zc (ZX (cs := cat [[vI p0.Kind], [vI p0.Number], enc p0.Tag]) hE hM Za ld rfl rfl fun b1 w a hM hE => ZI hE hM Za ld UJ fun b3 w a hM hE => Zf (Zc (ZI hE hM Za ld UJ fun b5 w a hM hE => Zf (Zc (Zg hE Za ld rfl (qf) fun a hE => Zq (v := (vI p0.Kind)) hE Za ld rfl ty2 rfl (At.cat (pre := []) (hM.rawAt (pre := [_, _])) cl0) fun a hE => Zg hE Za ld rfl (KJ) fun a hE => Zt (seg := [vI p0.Kind]) (cs' := cat [[vI p0.Kind], [vI 0], enc (Vector.replicate 32 (0 : UInt8))]) hE hM Za rfl rfl rfl ty2 rfl (Vt (pre := []) cl0 rfl) (Flat.cell (p0.Kind : Int)) (Ys (pre := []) cl0 rfl) ?_))))); intro w a hM hE
 refine Zf (Zc (Zg hE Za ld rfl (qb) fun a hE => Zq (v := (vI p0.Number)) hE Za ld rfl ty2 rfl (At.cat (pre := [[vI p0.Kind]]) (hM.rawAt (pre := [_, _])) (cl1 (n := 1) (m := 0) rfl cl0)) fun a hE => Zg hE Za ld rfl (KK) fun a hE => Zt (seg := [vI p0.Number]) (cs' := cat [[vI p0.Kind], [vI p0.Number], enc (Vector.replicate 32 (0 : UInt8))]) hE hM Za rfl rfl rfl ty2 rfl (Vt (pre := [[vI p0.Kind]]) (cl1 (n := 1) (m := 0) rfl cl0) rfl) (Flat.cell (p0.Number : Int)) (Ys (pre := [[vI p0.Kind]]) (cl1 (n := 1) (m := 0) rfl cl0) rfl) fun w a hM hE => Zf (Zc (Zg hE Za ld rfl (qA) fun a hE => Zm (cs := enc p0.Tag) hE Za ld rfl ty25 rfl (At.cat (pre := [[vI p0.Kind], [vI p0.Number]]) (hM.rawAt (pre := [_, _])) (cl1 (n := 1) (m := 1) rfl (cl1 (n := 1) (m := 0) rfl cl0))) (Flat.len _) ?_)))); intro a hE
 obtain ⟨r7, e8, hF⟩ := bind_some hF
 refine Zs hE Za ld rfl cb21 (T7 _ p0.Tag r7 e8) ?_
 rintro v w a ⟨rfl, hK⟩ hE
 have hM := hM.keep hK
 refine Zg hE Za ld rfl (Bh) fun a hE => Zt (seg := enc r7) (cs' := cat [[vI p0.Kind], [vI p0.Number], enc r7]) hE hM Za rfl rfl rfl Yu (Flat.len _) (Vt (pre := [[vI p0.Kind], [vI p0.Number]]) (cl1 (n := 1) (m := 1) rfl (cl1 (n := 1) (m := 0) rfl cl0)) flq) (Flat.cell _) (Ys (pre := [[vI p0.Kind], [vI p0.Number]]) (cl1 (n := 1) (m := 1) rfl (cl1 (n := 1) (m := 0) rfl cl0)) flq) fun w a hM hE => Zf (Zc (Zm (cs := enc (⟨p0.Kind, p0.Number, r7⟩ : GEvent)) hE Za ld rfl UJ rfl (hM.rawAt (pre := [])) (ZC (cl1 (n := 1) (m := 33) rfl (cl1 (n := 1) (m := 32) rfl (cl1 (n := 32) (m := 0) (Flat.len _) cl0)))) ?_)); intro a hE
 have hM := hM.pull (pre := [_])
 refine Zt (seg := cat [[(vI ((⟨p0.Kind, p0.Number, r7⟩ : GEvent).Kind))], [(vI ((⟨p0.Kind, p0.Number, r7⟩ : GEvent).Number))], enc ((⟨p0.Kind, p0.Number, r7⟩ : GEvent).Tag)]) (cs' := cat [[(vI ((⟨p0.Kind, p0.Number, r7⟩ : GEvent).Kind))], [(vI ((⟨p0.Kind, p0.Number, r7⟩ : GEvent).Number))], enc ((⟨p0.Kind, p0.Number, r7⟩ : GEvent).Tag)]) hE hM Za rfl rfl rfl UJ (ZC (cl1 (n := 1) (m := 33) rfl (cl1 (n := 1) (m := 32) rfl (cl1 (n := 32) (m := 0) (Flat.len _) cl0)))) (Nat.le_of_eq ((Nat.zero_add _).trans (Eq.trans (ZC (cl1 (n := 1) (m := 33) rfl (cl1 (n := 1) (m := 32) rfl (cl1 (n := 32) (m := 0) (Flat.len _) cl0)))) (Eq.symm (ZC (cl1 (n := 1) (m := 33) rfl (cl1 (n := 1) (m := 32) rfl (cl1 (n := 32) (m := 0) (Flat.len _) cl0)))))))) (WD (cc1 (Flat.cell ((⟨p0.Kind, p0.Number, r7⟩ : GEvent).Kind : Int)) (cc1 (Flat.cell ((⟨p0.Kind, p0.Number, r7⟩ : GEvent).Number : Int)) (cc1 (Flat.cell _) cc0)))) (Zo (Eq.trans (ZC (cl1 (n := 1) (m := 33) rfl (cl1 (n := 1) (m := 32) rfl (cl1 (n := 32) (m := 0) (Flat.len _) cl0)))) (Eq.symm (ZC (cl1 (n := 1) (m := 33) rfl (cl1 (n := 1) (m := 32) rfl (cl1 (n := 32) (m := 0) (Flat.len _) cl0))))))) fun w a hM hE => Zf ?_
 have hr := Option.some.inj hF
 subst hr
 have hq9 : YB Tryz.prog _ _ (.cell 2 146) _ := ZZ hE rfl UJ rfl (hM.rawAt (pre := [])) (ZC (cl1 (n := 1) (m := 33) rfl (cl1 (n := 1) (m := 32) rfl (cl1 (n := 32) (m := 0) (Flat.len _) cl0)))) rfl
 have hM := M.fst (l := []) hM
 exact wp_ret (Zy hE rfl hq9 ⟨_, rfl, rfl, hM.kept⟩)
noncomputable def U6 (p0 : (List GEvent)) (s10 : (List GEvent) × Int) : Option (Fl ((List GEvent) × Int) (List GEvent)) :=
 if (decide (s10.2 < (p0.length : Int))) = true then ((idx p0 s10.2).bind fun x17 => (VQ x17).bind fun r20 => (idx s10.1 s10.2).bind fun x22 => some (Fl.nx ((s10.1.set (s10.2).toNat r20), wr (s10.2 + 1)))) else (some (Fl.ex s10.1))
noncomputable def Uo (p0 : (List GEvent)) : Option ((List GEvent)) :=
 (mkS 48 (⟨(0 : Int), (0 : Int), (Vector.replicate 32 (0 : UInt8))⟩ : GEvent) (p0.length : Int)).bind fun l1 => (ZG (U6 p0) (l1, 0) : Option ((List GEvent))).bind fun j5 => some j5
theorem HK (w0 : World) (p0 : (List GEvent)) (v0_1 : Value) (hv0_1 : Ro w0 p0 [v0_1]) (r : (List GEvent)) (hF : Uo p0 = some r) :
  Calls Tryz.prog 58 [v0_1].toArray w0 (fun en w' => ∃ v, en = .returned v ∧ (∃ (y1 : Value), v = y1 ∧ Fr w0 w' [osl NoB (r : List GEvent) y1] ∧ Kept (Old w0) w0 w')) := by
 refine ZD (n := 23) Tryz.func58 rfl rfl (Nat.le_of_ble_eq_true rfl) rfl ?_
 intro a hE
 have hM := M.start w0
 unfold Uo at hF
 refine Zc (Ze hE Za ld rfl fun a hE => Zf (Zc (Zd hE Za ld rfl fun a hE => Z6 hE Za ld rfl Tryz.underlying24 (hM.rd hv0_1) ?_))); intro a hE
 obtain ⟨l1, e2, hF⟩ := bind_some hF
 refine zn hE hM Za ld rfl rfl Tryz.underlying34 UJ rfl (by decide) (fun _ => T3.2 ⟨rfl, rfl⟩) e2 fun u3 w a hM hE => Ze hE Za ld rfl fun a hE => Zf (wp_seq (Zc (Ze hE Za ld rfl fun a hE => Zf ?_)))
 obtain ⟨j5, hl6, hF7⟩ := bind_some hF
 refine ZR (fun a w => ∃ (u8 : Value), Env 23 a [(3, u8)] ∧ M (Old w0) w0 w [osl NoB (j5 : List GEvent) u8]) ?_ ?_
 ·skip
  refine wp_block ?_
  refine ZK (fun (s10 : (List GEvent) × Int) a w => ∃ (u11 : Value), Env 23 a [(0, v0_1), (3, u11), (4, vI s10.2)] ∧ M (Old w0) w0 w [osl NoB (s10.1 : List GEvent) u11]) hl6 ⟨u3, hE.sub ⟨rfl, rfl, rfl, trivial⟩, hM⟩ ?_
  rintro s10 a w ⟨u11, hE, hM⟩ o15 hs13 hx14
  unfold U6 at hs13
  refine wp_seq (Zc (Zd hE Za ld rfl fun a hE => Zd hE Za ld rfl fun a hE => Z6 hE Za ld rfl Tryz.underlying24 (hM.rd hv0_1) fun a hE => Zh hE Za ld rfl rfl rfl fun a hE => Zf ?_))
  refine Zv hE rfl ?_ ?_
  ·intro hb16
   have hs13 := ZA hs13 hb16
   refine wp_skip (Zz (wp_seq (wp_block (wp_region_lit (Zd hE Za ld rfl fun a hE => Zd hE Za ld rfl fun a hE => Zd hE Za ld rfl fun a hE => Zd hE Za ld rfl ?_))))); intro a hE
   obtain ⟨x17, e18, hs13⟩ := bind_some hs13
   have hi19 := ZO e18
   refine ZN hE Za ld rfl rfl Tryz.underlying24 zE (hM.rd hv0_1) hi19.1 fun a hE => Zm (cs := enc x17) hE Za ld rfl zE rfl (Xa (hM.rd hv0_1) hi19.2) (ZC (cl1 (n := 1) (m := 33) rfl (cl1 (n := 1) (m := 32) rfl (cl1 (n := 32) (m := 0) (Flat.len _) cl0)))) ?_; intro a hE
   obtain ⟨r20, e21, hs13⟩ := bind_some hs13
   refine Zs hE Za ld rfl cb136 (BZ _ x17 r20 e21) ?_
   rintro v w a ⟨rfl, hK⟩ hE
   have hM := hM.keep hK
   obtain ⟨x22, e23, hs13⟩ := bind_some hs13
   have hi24 := ZO e23
   refine ZN hE Za ld rfl rfl Tryz.underlying34 UJ (hM.sl (pre := []) noB) hi24.1 fun a hE => TH (i := (s10.2).toNat) (k0 := 0) (seg := cat [[vI r20.Kind], [vI r20.Number], enc r20.Tag]) (xo := x22) (xn := r20) hE hM Za rfl rfl rfl UJ (ZC (cl1 (n := 1) (m := 33) rfl (cl1 (n := 1) (m := 32) rfl (cl1 (n := 32) (m := 0) (Flat.len _) cl0)))) (WD (cc1 (Flat.cell (r20.Kind : Int)) (cc1 (Flat.cell (r20.Number : Int)) (cc1 (Flat.cell _) cc0)))) hi24.2 (Qf (m := 34) (ZC (cl1 (n := 1) (m := 33) rfl (cl1 (n := 1) (m := 32) rfl (cl1 (n := 32) (m := 0) (Flat.len _) cl0)))) (by decide)) (Zo (Eq.trans (ZC (cl1 (n := 1) (m := 33) rfl (cl1 (n := 1) (m := 32) rfl (cl1 (n := 32) (m := 0) (Flat.len _) cl0)))) (Eq.symm (ZC (cl1 (n := 1) (m := 33) rfl (cl1 (n := 1) (m := 32) rfl (cl1 (n := 32) (m := 0) (Flat.len _) cl0))))))) fun w a hM hE => Zi (Ye (Zz (wp_region_lit (Zd hE Za ld rfl fun a hE => Zh hE Za ld rfl rfl rfl fun a hE => Ze hE Za ld rfl fun a hE => Zi (Zl ?_)))))
   exact ⟨_, (Option.some.inj hs13).symm, u11, hE.sub ⟨rfl, rfl, rfl, trivial⟩, hM⟩
  ·intro hb16
   have hs13 := ZB hs13 hb16
   refine wp_exit (Zp (Zp (Yc ?_)))
   have ht25 := hx14 _ (Option.some.inj hs13).symm
   subst ht25
   refine Zl ?_
   exact ⟨u11, hE.sub ⟨rfl, trivial⟩, hM⟩
 ·skip
  rintro a w ⟨u8, hE, hM⟩
  refine Zz (Zc (Zd hE Za ld rfl fun a hE => Ze hE Za ld rfl fun a hE => Zf ?_))
  have hr := Option.some.inj hF7
  subst hr
  exact wp_ret (Zy hE rfl (Zu hE rfl) ⟨_, rfl, u8, rfl, hM.outF (Xu Xo), hM.kept⟩)
noncomputable def XD (p0 : GVault) : Option (GVault) :=
 (Um p0.Keys).bind fun r7 => (VO p0.Records).bind fun r10 => (Uo p0.Events).bind fun r13 => (Wb p0.Head).bind fun r16 => some (⟨r7, p0.Next, r10, r13, r16⟩ : GVault)
theorem TN (w0 : World) (p0 : GVault) (v0_1 : Value) (hv0_1 : Ro w0 p0.Keys [v0_1]) (v0_2 : Value) (hv0_2 : Ro w0 p0.Records [v0_2]) (v0_3 : Value) (hv0_3 : Ro w0 p0.Events [v0_3]) (r : GVault) (hF : XD p0 = some r) :
  Calls Tryz.prog 14 [(Value.agg (cat [[v0_1], [vI p0.Next], [v0_2], [v0_3], enc p0.Head]).toArray)].toArray w0 (fun en w' => ∃ v, en = .returned v ∧ (∃ (y1 : Value) (y2 : Value) (y3 : Value), v = (Value.agg (cat [[y1], [vI r.Next], [y2], [y3], enc r.Head]).toArray) ∧ Fr w0 w' [osl NoB (r.Keys : List (Vector UInt8 16)) y1, osl NoB (r.Records : List GRecord) y2, osl NoB (r.Events : List GEvent) y3] ∧ Kept (Old w0) w0 w')) := by
 refine ZD (n := 24) Tryz.func14 rfl rfl (Nat.le_of_ble_eq_true rfl) rfl ?_
 intro a hE
 have hM := M.start w0
 unfold XD at hF
 refine Zc (ZX (cs := cat [[v0_1], [vI p0.Next], [v0_2], [v0_3], enc p0.Head]) hE hM Za ld rfl rfl fun b1 w a hM hE => ZI hE hM Za ld Qd fun b3 w a hM hE => Zf (Zc (ZI hE hM Za ld Qd fun b5 w a hM hE => Zf (Zc (Zg hE Za ld rfl (kP) fun a hE => Zq (v := v0_1) hE Za ld rfl ty22 rfl (At.cat (pre := []) (hM.rawAt (pre := [_, _])) cl0) ?_))))); intro a hE
 obtain ⟨r7, e8, hF⟩ := bind_some hF
 refine Zs hE Za ld rfl cb56 (HQ _ p0.Keys v0_1 (hM.rdo hv0_1) r7 e8) ?_
 rintro u9 w a ⟨_, rfl, hFr, hK⟩ hE
 have hM := hM.add hK hFr
 refine Zg hE Za ld rfl (Tu) ?_; intro a hE
 have hM := hM.pull (pre := [_])
 refine Zt (seg := [u9]) (cs' := cat [[u9], [vI 0], [(Value.slice none 0 0)], [(Value.slice none 0 0)], enc (Vector.replicate 32 (0 : UInt8))]) hE hM Za rfl rfl (Xb (hM.sl (pre := [_]) noB)) KN rfl (Vt (pre := []) cl0 rfl) (Rep.cell (hM.sl (pre := [_]) noB)) (Ys (pre := []) cl0 rfl) fun w a hM hE => Zf (Zc (Zg hE Za ld rfl (fd27_1) fun a hE => Zq (v := (vI p0.Next)) hE Za ld rfl ty2 rfl (At.cat (pre := [[v0_1]]) (hM.rawAt (pre := [_, _, _])) (cl1 (n := 1) (m := 0) rfl cl0)) fun a hE => Zg hE Za ld rfl (QN) fun a hE => Zt (seg := [vI p0.Next]) (cs' := cat [[u9], [vI p0.Next], [(Value.slice none 0 0)], [(Value.slice none 0 0)], enc (Vector.replicate 32 (0 : UInt8))]) hE hM Za rfl rfl rfl ty2 rfl (Vt (pre := [[u9]]) (cl1 (n := 1) (m := 0) rfl cl0) rfl) (Flat.cell (p0.Next : Int)) (Ys (pre := [[u9]]) (cl1 (n := 1) (m := 0) rfl cl0) rfl) fun w a hM hE => Zf (Zc (Zg hE Za ld rfl (kC) fun a hE => Zq (v := v0_2) hE Za ld rfl ty23 rfl (At.cat (pre := [[v0_1], [vI p0.Next]]) (hM.rawAt (pre := [_, _, _])) (cl1 (n := 1) (m := 1) rfl (cl1 (n := 1) (m := 0) rfl cl0))) ?_)))); intro a hE
 obtain ⟨r10, e11, hF⟩ := bind_some hF
 refine Zs hE Za ld rfl cb57 (Hw _ p0.Records v0_2 (hM.rdo hv0_2) r10 e11) ?_
 rintro u12 w a ⟨_, rfl, hFr, hK⟩ hE
 have hM := hM.add hK hFr
 refine Zg hE Za ld rfl (Ut) ?_; intro a hE
 have hM := hM.pull (pre := [_])
 refine Zt (seg := [u12]) (cs' := cat [[u9], [vI p0.Next], [u12], [(Value.slice none 0 0)], enc (Vector.replicate 32 (0 : UInt8))]) hE hM Za rfl rfl (Xb (hM.sl (pre := [_]) noB)) QV rfl (Vt (pre := [[u9], [vI p0.Next]]) (cl1 (n := 1) (m := 1) rfl (cl1 (n := 1) (m := 0) rfl cl0)) rfl) (Rep.cell (hM.sl (pre := [_]) noB)) (Ys (pre := [[u9], [vI p0.Next]]) (cl1 (n := 1) (m := 1) rfl (cl1 (n := 1) (m := 0) rfl cl0)) rfl) fun w a hM hE => Zf (Zc (Zg hE Za ld rfl (kk) fun a hE => Zq (v := v0_3) hE Za ld rfl ty24 rfl (At.cat (pre := [[v0_1], [vI p0.Next], [v0_2]]) (hM.rawAt (pre := [_, _, _, _])) (cl1 (n := 1) (m := 2) rfl (cl1 (n := 1) (m := 1) rfl (cl1 (n := 1) (m := 0) rfl cl0)))) ?_)); intro a hE
 obtain ⟨r13, e14, hF⟩ := bind_some hF
 refine Zs hE Za ld rfl cb58 (HK _ p0.Events v0_3 (hM.rdo hv0_3) r13 e14) ?_
 rintro u15 w a ⟨_, rfl, hFr, hK⟩ hE
 have hM := hM.add hK hFr
 refine Zg hE Za ld rfl (QW) ?_; intro a hE
 have hM := hM.pull (pre := [_])
 refine Zt (seg := [u15]) (cs' := cat [[u9], [vI p0.Next], [u12], [u15], enc (Vector.replicate 32 (0 : UInt8))]) hE hM Za rfl rfl (Xb (hM.sl (pre := [_]) noB)) Ap rfl (Vt (pre := [[u9], [vI p0.Next], [u12]]) (cl1 (n := 1) (m := 2) rfl (cl1 (n := 1) (m := 1) rfl (cl1 (n := 1) (m := 0) rfl cl0))) rfl) (Rep.cell (hM.sl (pre := [_]) noB)) (Ys (pre := [[u9], [vI p0.Next], [u12]]) (cl1 (n := 1) (m := 2) rfl (cl1 (n := 1) (m := 1) rfl (cl1 (n := 1) (m := 0) rfl cl0))) rfl) fun w a hM hE => Zf (Zc (Zg hE Za ld rfl (fd27_4) fun a hE => Zm (cs := enc p0.Head) hE Za ld rfl ty25 rfl (At.cat (pre := [[v0_1], [vI p0.Next], [v0_2], [v0_3]]) (hM.rawAt (pre := [_, _, _, _, _])) (cl1 (n := 1) (m := 3) rfl (cl1 (n := 1) (m := 2) rfl (cl1 (n := 1) (m := 1) rfl (cl1 (n := 1) (m := 0) rfl cl0))))) (Flat.len _) ?_)); intro a hE
 obtain ⟨r16, e17, hF⟩ := bind_some hF
 refine Zs hE Za ld rfl cb21 (T7 _ p0.Head r16 e17) ?_
 rintro v w a ⟨rfl, hK⟩ hE
 have hM := hM.keep hK
 refine Zg hE Za ld rfl (yC) fun a hE => Zt (seg := enc r16) (cs' := cat [[u9], [vI p0.Next], [u12], [u15], enc r16]) hE hM Za rfl rfl rfl Yu (Flat.len _) (Vt (pre := [[u9], [vI p0.Next], [u12], [u15]]) (cl1 (n := 1) (m := 3) rfl (cl1 (n := 1) (m := 2) rfl (cl1 (n := 1) (m := 1) rfl (cl1 (n := 1) (m := 0) rfl cl0)))) flq) (Flat.cell _) (Ys (pre := [[u9], [vI p0.Next], [u12], [u15]]) (cl1 (n := 1) (m := 3) rfl (cl1 (n := 1) (m := 2) rfl (cl1 (n := 1) (m := 1) rfl (cl1 (n := 1) (m := 0) rfl cl0)))) flq) fun w a hM hE => Zf (Zc (Zm (cs := cat [[u9], [vI p0.Next], [u12], [u15], enc r16]) hE Za ld rfl Qd rfl (hM.rawAt (pre := [])) (ZC (cl1 (n := 1) (m := 35) rfl (cl1 (n := 1) (m := 34) rfl (cl1 (n := 1) (m := 33) rfl (cl1 (n := 1) (m := 32) rfl (cl1 (n := 32) (m := 0) (Flat.len _) cl0)))))) ?_)); intro a hE
 have hM := hM.pull (pre := [_, _, _, _])
 refine Zt (seg := cat [[u9], [vI p0.Next], [u12], [u15], enc r16]) (cs' := cat [[u9], [vI p0.Next], [u12], [u15], enc r16]) hE hM Za rfl rfl rfl Qd (ZC (cl1 (n := 1) (m := 35) rfl (cl1 (n := 1) (m := 34) rfl (cl1 (n := 1) (m := 33) rfl (cl1 (n := 1) (m := 32) rfl (cl1 (n := 32) (m := 0) (Flat.len _) cl0)))))) (Nat.le_of_eq ((Nat.zero_add _).trans (Eq.trans (ZC (cl1 (n := 1) (m := 35) rfl (cl1 (n := 1) (m := 34) rfl (cl1 (n := 1) (m := 33) rfl (cl1 (n := 1) (m := 32) rfl (cl1 (n := 32) (m := 0) (Flat.len _) cl0)))))) (Eq.symm (ZC (cl1 (n := 1) (m := 35) rfl (cl1 (n := 1) (m := 34) rfl (cl1 (n := 1) (m := 33) rfl (cl1 (n := 1) (m := 32) rfl (cl1 (n := 32) (m := 0) (Flat.len _) cl0)))))))))) (WD (cc1 (Rep.cell (hM.sl (pre := [_, _, _, _]) noB)) (cc1 (Flat.cell (p0.Next : Int)) (cc1 (Rep.cell (hM.sl (pre := [_, _, _]) noB)) (cc1 (Rep.cell (hM.sl (pre := [_, _]) noB)) (cc1 (Flat.cell _) cc0)))))) (Zo (Eq.trans (ZC (cl1 (n := 1) (m := 35) rfl (cl1 (n := 1) (m := 34) rfl (cl1 (n := 1) (m := 33) rfl (cl1 (n := 1) (m := 32) rfl (cl1 (n := 32) (m := 0) (Flat.len _) cl0)))))) (Eq.symm (ZC (cl1 (n := 1) (m := 35) rfl (cl1 (n := 1) (m := 34) rfl (cl1 (n := 1) (m := 33) rfl (cl1 (n := 1) (m := 32) rfl (cl1 (n := 32) (m := 0) (Flat.len _) cl0))))))))) fun w a hM hE => Zf ?_
 have hr := Option.some.inj hF
 subst hr
 have hq18 : YB Tryz.prog _ _ (.cell 2 36) _ := ZZ hE rfl Qd rfl (hM.rawAt (pre := [])) (ZC (cl1 (n := 1) (m := 35) rfl (cl1 (n := 1) (m := 34) rfl (cl1 (n := 1) (m := 33) rfl (cl1 (n := 1) (m := 32) rfl (cl1 (n := 32) (m := 0) (Flat.len _) cl0)))))) rfl
 have hM := hM.pull (pre := [_, _])
 have hM := hM.pull (pre := [_, _, _])
 have hM := hM.pull (pre := [_, _, _, _])
 have hM := M.fst (l := [_, _, _]) hM
 exact wp_ret (Zy hE rfl hq18 ⟨_, rfl, u9, u12, u15, rfl, hM.outF (Xu (Xu (Xu Xo))), hM.kept⟩)
noncomputable def W7 (p0 : Int) (p1 : Int) (p2 : Int) : Option (Bool) :=
 (if (decide (p0 ≥ p1)) = true then (some (decide (p0 ≤ p2))) else (some false) : Option (Bool)).bind fun j1 => some j1
theorem Qc (w0 : World) (p0 : Int) (p1 : Int) (p2 : Int) (r : Bool) (hF : W7 p0 p1 p2 = some r) :
  Calls Tryz.prog 128 [vI p0, vI p1, vI p2].toArray w0 (fun en w' => ∃ v, en = .returned v ∧ (v = (vT r) ∧ Kept (Old w0) w0 w')) := by
 refine ZD (n := 15) Tryz.func128 rfl rfl (Nat.le_of_ble_eq_true rfl) rfl ?_
 intro a hE
 have hM := M.start w0
 unfold W7 at hF
 refine Zc (Ze hE Za ld rfl fun a hE => Zf ?_)
 obtain ⟨j1, hl2, hF3⟩ := bind_some hF
 refine ZU (fun a w => Env 15 a [(6, vT j1)] ∧ M (Old w0) w0 w []) ?_ ?_
 ·skip
  refine wp_region_lit (Zd hE Za ld rfl fun a hE => Zd hE Za ld rfl fun a hE => Zh hE Za ld rfl rfl rfl fun a hE => Zd hE Za ld rfl ?_); intro a hE
  refine Wc (decide (p0 ≥ p1)) (fun hb4 => ?_) (fun hb4 => ?_)
  ·have hl2 := ZA hl2 hb4
   refine Zd hE (Zx hE rfl (lkb rfl hb4)) (by decide) rfl fun a hE => Zd hE (Zx hE rfl (lkb rfl hb4)) (by decide) rfl fun a hE => Zh hE (Zx hE rfl (lkb rfl hb4)) (by decide) rfl rfl rfl fun a hE => Z9 hE Za ld (lkb rfl hb4) rfl fun a hE => Ze hE Za ld rfl fun a hE => Zi ?_
   have ht5 := Option.some.inj hl2
   subst ht5
   refine Zl ?_
   exact ⟨hE.sub ⟨rfl, trivial⟩, hM⟩
  ·have hl2 := ZB hl2 hb4
   refine Zw hE rfl (lkb rfl hb4) rfl (by decide) fun a hE => Zw hE rfl (lkb rfl hb4) rfl (by decide) fun a hE => Zw hE rfl (lkb rfl hb4) rfl (by decide) fun a hE => YL hE Za ld (lkb rfl hb4) rfl fun a hE => Ze hE Za ld rfl fun a hE => Zi ?_
   have ht6 := Option.some.inj hl2
   subst ht6
   refine Zl ?_
   exact ⟨hE.sub ⟨rfl, trivial⟩, hM⟩
 ·skip
  rintro a w ⟨hE, hM⟩
  have hr := Option.some.inj hF3
  subst hr
  exact wp_ret (Zy hE rfl (Zu hE rfl) ⟨_, rfl, rfl, hM.kept⟩)
noncomputable def Uh (p0 : GEvent) : Option (Bool) :=
 ((W7 p0.Kind 1 4).bind fun r6 => if r6 = true then ((W7 p0.Number 0 1000000).bind fun r9 => some r9) else (some false) : Option (Bool)).bind fun j3 => some j3
theorem H4 (w0 : World) (p0 : GEvent) (r : Bool) (hF : Uh p0 = some r) :
  Calls Tryz.prog 129 [(Value.agg (enc p0).toArray)].toArray w0 (fun en w' => ∃ v, en = .returned v ∧ (v = (vT r) ∧ Kept (Old w0) w0 w')) := by
 refine ZD (n := 11) Tryz.func129 rfl rfl (Nat.le_of_ble_eq_true rfl) rfl ?_
 intro a hE
 have hM := M.start w0
 unfold Uh at hF
 refine Zc (ZX (cs := cat [[vI p0.Kind], [vI p0.Number], enc p0.Tag]) hE hM Za ld rfl rfl fun b1 w a hM hE => Ze hE Za ld rfl fun a hE => Zf ?_)
 obtain ⟨j3, hl4, hF5⟩ := bind_some hF
 refine ZU (fun a w => Env 11 a [(2, vT j3)] ∧ M (Old w0) w0 w []) ?_ ?_
 ·skip
  refine wp_region_lit (Zg hE Za ld rfl (KJ) fun a hE => Zq (v := (vI p0.Kind)) hE Za ld rfl ty2 rfl (At.cat (pre := []) (hM.rawAt (pre := [])) cl0) ?_); intro a hE
  obtain ⟨r6, e7, hl4⟩ := bind_some hl4
  refine Zs hE Za ld rfl jo (Qc _ p0.Kind 1 4 r6 e7) ?_
  rintro v w a ⟨rfl, hK⟩ hE
  have hM := hM.keep hK
  refine Zd hE Za ld rfl ?_; intro a hE
  refine Wc r6 (fun hb8 => ?_) (fun hb8 => ?_)
  ·have hl4 := ZA hl4 hb8
   refine Zg hE (Zx hE rfl (lkb rfl hb8)) (by decide) rfl (KK) fun a hE => Zq (v := (vI p0.Number)) hE (Zx hE rfl (lkb rfl hb8)) (by decide) rfl ty2 rfl (At.cat (pre := [[vI p0.Kind]]) (hM.rawAt (pre := [])) (cl1 (n := 1) (m := 0) rfl cl0)) ?_; intro a hE
   obtain ⟨r9, e10, hl4⟩ := bind_some hl4
   refine Zs hE (Zx hE rfl (lkb rfl hb8)) (by decide) rfl jo (Qc _ p0.Number 0 1000000 r9 e10) ?_
   rintro v w a ⟨rfl, hK⟩ hE
   have hM := hM.keep hK
   refine Z9 hE Za ld (lkb rfl hb8) rfl fun a hE => Ze hE Za ld rfl fun a hE => Zi ?_
   have ht11 := Option.some.inj hl4
   subst ht11
   refine Zl ?_
   have hM := M.fst (l := []) hM
   exact ⟨hE.sub ⟨rfl, trivial⟩, hM⟩
  ·have hl4 := ZB hl4 hb8
   refine Zw hE rfl (lkb rfl hb8) rfl (by decide) fun a hE => Zw hE rfl (lkb rfl hb8) rfl (by decide) fun a hE => Zw hE rfl (lkb rfl hb8) rfl (by decide) fun a hE => YL hE Za ld (lkb rfl hb8) rfl fun a hE => Ze hE Za ld rfl fun a hE => Zi ?_
   have ht12 := Option.some.inj hl4
   subst ht12
   refine Zl ?_
   have hM := M.fst (l := []) hM
   exact ⟨hE.sub ⟨rfl, trivial⟩, hM⟩
 ·skip
  rintro a w ⟨hE, hM⟩
  have hr := Option.some.inj hF5
  subst hr
  exact wp_ret (Zy hE rfl (Zu hE rfl) ⟨_, rfl, rfl, hM.kept⟩)
noncomputable def Up (p0 : GVault) (s22 : Int × Int) : Option (Fl (Int × Int) (Fl Unit Bool)) :=
 if (decide (s22.2 < (p0.Records.length : Int))) = true then ((idx p0.Records s22.2).bind fun x27 => (if (decide (x27.Number ≤ s22.1)) = true then (some true) else (if (decide (x27.Number ≥ p0.Next)) = true then (some true) else ((W7 x27.Version 0 (wr ((p0.Keys.length : Int) - 1))).bind fun r46 => if (!r46) = true then (some true) else (if (decide ((x27.Label.length : Int) > 32)) = true then (some true) else (some (decide ((x27.Body.length : Int) > 200)))))) : Option (Bool)).bind fun j39 => if j39 = true then (some (Fl.ex (Fl.ex false))) else (some (Fl.nx (x27.Number, wr (s22.2 + 1))))) else (some (Fl.ex (Fl.nx ())))
noncomputable def Th (p0 : GVault) (s60 : Int) : Option (Fl Int (Fl Unit Bool)) :=
 if (decide (s60 < (p0.Events.length : Int))) = true then ((idx p0.Events s60).bind fun x65 => (Uh x65).bind fun r68 => if (!r68) = true then (some (Fl.ex (Fl.ex false))) else (some (Fl.nx (wr (s60 + 1))))) else (some (Fl.ex (Fl.nx ())))
noncomputable def TJ (p0 : GVault) : Option (Bool) :=
 (if (decide ((p0.Keys.length : Int) < 1)) = true then (some true) else (if (decide ((p0.Keys.length : Int) > 8)) = true then (some true) else ((W7 p0.Next 1 1000000).bind fun r10 => if (!r10) = true then (some true) else (if (decide ((p0.Records.length : Int) > 12)) = true then (some true) else (some (decide ((p0.Events.length : Int) > 60)))))) : Option (Bool)).bind fun j3 => if j3 = true then (some false) else ((ZG (Up p0) (0, 0) : Option (Fl Unit Bool)).bind fun j18 => j18.el (fun s21 => (ZG (Th p0) 0 : Option (Fl Unit Bool)).bind fun j56 => j56.el (fun s59 => some true) (fun r => some r)) (fun r => some r))
theorem zg (w0 : World) (p0 : GVault) (v0_1 : Value) (hv0_1 : Ro w0 p0.Keys [v0_1]) (v0_2 : Value) (hv0_2 : Ro w0 p0.Records [v0_2]) (v0_3 : Value) (hv0_3 : Ro w0 p0.Events [v0_3]) (r : Bool) (hF : TJ p0 = some r) :
  Calls Tryz.prog 53 [(Value.agg (cat [[v0_1], [vI p0.Next], [v0_2], [v0_3], enc p0.Head]).toArray)].toArray w0 (fun en w' => ∃ v, en = .returned v ∧ (v = (vT r) ∧ Kept (Old w0) w0 w')) := by
 refine ZD (n := 96) Tryz.func53 rfl rfl (Nat.le_of_ble_eq_true rfl) rfl ?_
 intro a hE
 have hM := M.start w0
 unfold TJ at hF
 refine Zc (ZX (cs := cat [[v0_1], [vI p0.Next], [v0_2], [v0_3], enc p0.Head]) hE hM Za ld rfl rfl fun b1 w a hM hE => Ze hE Za ld rfl fun a hE => Zf (wp_seq ?_))
 obtain ⟨j3, hl4, hF5⟩ := bind_some hF
 refine ZU (fun a w => Env 96 a [(1, (ptr b1 0)), (34, vT j3)] ∧ M (Old w0) w0 w [raw b1 (cat [[v0_1], [vI p0.Next], [v0_2], [v0_3], enc p0.Head])]) ?_ ?_
 ·skip
  refine wp_region_lit (Zg hE Za ld rfl (Tu) fun a hE => Zq (v := v0_1) hE Za ld rfl KN rfl (At.cat (pre := []) (hM.rawAt (pre := [])) cl0) fun a hE => Z6 hE Za ld rfl Tryz.underlying32 (hM.rd hv0_1) fun a hE => Zh hE Za ld rfl rfl rfl fun a hE => Zd hE Za ld rfl ?_); intro a hE
  refine Wc (decide ((p0.Keys.length : Int) < 1)) (fun hb6 => ?_) (fun hb6 => ?_)
  ·have hl4 := ZA hl4 hb6
   refine Zw hE rfl (lkb rfl hb6) rfl (by decide) fun a hE => Zw hE rfl (lkb rfl hb6) rfl (by decide) fun a hE => Zw hE rfl (lkb rfl hb6) rfl (by decide) fun a hE => Zw hE rfl (lkb rfl hb6) rfl (by decide) fun a hE => Z9 hE Za ld (lkb rfl hb6) rfl fun a hE => Zd hE Za ld rfl fun a hE => Zw hE rfl rfl rfl (by decide) ?_; intro a hE
   refine Zw hE rfl rfl rfl (by decide) fun a hE => Zw hE rfl rfl rfl (by decide) fun a hE => Zw hE rfl rfl rfl (by decide) fun a hE => Z9 hE Za ld rfl rfl fun a hE => Zd hE Za ld rfl fun a hE => Zw hE rfl rfl rfl (by decide) fun a hE => Zw hE rfl rfl rfl (by decide) ?_; intro a hE
   refine Zw hE rfl rfl rfl (by decide) fun a hE => Zw hE rfl rfl rfl (by decide) fun a hE => Z9 hE Za ld rfl rfl fun a hE => Zd hE Za ld rfl fun a hE => Zw hE rfl rfl rfl (by decide) fun a hE => Zw hE rfl rfl rfl (by decide) fun a hE => Zw hE rfl rfl rfl (by decide) ?_; intro a hE
   refine Zw hE rfl rfl rfl (by decide) fun a hE => Z9 hE Za ld rfl rfl fun a hE => Zi ?_
   have ht7 := Option.some.inj hl4
   subst ht7
   refine Zl ?_
   exact ⟨hE.sub ⟨rfl, rfl, trivial⟩, hM⟩
  ·have hl4 := ZB hl4 hb6
   refine Zg hE (Zx hE rfl (lkb rfl hb6)) (by decide) rfl (Tu) fun a hE => Zq (v := v0_1) hE (Zx hE rfl (lkb rfl hb6)) (by decide) rfl KN rfl (At.cat (pre := []) (hM.rawAt (pre := [])) cl0) fun a hE => Z6 hE (Zx hE rfl (lkb rfl hb6)) (by decide) rfl Tryz.underlying32 (hM.rd hv0_1) fun a hE => Zh hE (Zx hE rfl (lkb rfl hb6)) (by decide) rfl rfl rfl fun a hE => YL hE Za ld (lkb rfl hb6) rfl fun a hE => Zd hE Za ld rfl ?_; intro a hE
   refine Wc (decide ((p0.Keys.length : Int) > 8)) (fun hb8 => ?_) (fun hb8 => ?_)
   ·have hl4 := ZA hl4 hb8
    refine Zw hE rfl (lkb rfl hb8) rfl (by decide) fun a hE => Zw hE rfl (lkb rfl hb8) rfl (by decide) fun a hE => Zw hE rfl (lkb rfl hb8) rfl (by decide) fun a hE => Zw hE rfl (lkb rfl hb8) rfl (by decide) fun a hE => Z9 hE Za ld (lkb rfl hb8) rfl fun a hE => Zd hE Za ld rfl fun a hE => Zw hE rfl rfl rfl (by decide) ?_; intro a hE
    refine Zw hE rfl rfl rfl (by decide) fun a hE => Zw hE rfl rfl rfl (by decide) fun a hE => Zw hE rfl rfl rfl (by decide) fun a hE => Z9 hE Za ld rfl rfl fun a hE => Zd hE Za ld rfl fun a hE => Zw hE rfl rfl rfl (by decide) fun a hE => Zw hE rfl rfl rfl (by decide) ?_; intro a hE
    refine Zw hE rfl rfl rfl (by decide) fun a hE => Zw hE rfl rfl rfl (by decide) fun a hE => Z9 hE Za ld rfl rfl fun a hE => Zi ?_
    have ht9 := Option.some.inj hl4
    subst ht9
    refine Zl ?_
    exact ⟨hE.sub ⟨rfl, rfl, trivial⟩, hM⟩
   ·have hl4 := ZB hl4 hb8
    refine Zg hE (Zx hE rfl (lkb rfl hb8)) (by decide) rfl (QN) fun a hE => Zq (v := (vI p0.Next)) hE (Zx hE rfl (lkb rfl hb8)) (by decide) rfl ty2 rfl (At.cat (pre := [[v0_1]]) (hM.rawAt (pre := [])) (cl1 (n := 1) (m := 0) rfl cl0)) ?_; intro a hE
    obtain ⟨r10, e11, hl4⟩ := bind_some hl4
    refine Zs hE (Zx hE rfl (lkb rfl hb8)) (by decide) rfl jo (Qc _ p0.Next 1 1000000 r10 e11) ?_
    rintro v w a ⟨rfl, hK⟩ hE
    have hM := hM.keep hK
    refine WA hE (Zx hE rfl (lkb rfl hb8)) (by decide) rfl fun a hE => YL hE Za ld (lkb rfl hb8) rfl fun a hE => Zd hE Za ld rfl ?_; intro a hE
    refine Wc (!r10) (fun hb12 => ?_) (fun hb12 => ?_)
    ·have hl4 := ZA hl4 hb12
     refine Zw hE rfl (lkb rfl hb12) rfl (by decide) fun a hE => Zw hE rfl (lkb rfl hb12) rfl (by decide) fun a hE => Zw hE rfl (lkb rfl hb12) rfl (by decide) fun a hE => Zw hE rfl (lkb rfl hb12) rfl (by decide) fun a hE => Z9 hE Za ld (lkb rfl hb12) rfl fun a hE => Zd hE Za ld rfl fun a hE => Zw hE rfl rfl rfl (by decide) ?_; intro a hE
     refine Zw hE rfl rfl rfl (by decide) fun a hE => Zw hE rfl rfl rfl (by decide) fun a hE => Zw hE rfl rfl rfl (by decide) fun a hE => Z9 hE Za ld rfl rfl fun a hE => Zi ?_
     have ht13 := Option.some.inj hl4
     subst ht13
     refine Zl ?_
     exact ⟨hE.sub ⟨rfl, rfl, trivial⟩, hM⟩
    ·have hl4 := ZB hl4 hb12
     refine Zg hE (Zx hE rfl (lkb rfl hb12)) (by decide) rfl (Ut) fun a hE => Zq (v := v0_2) hE (Zx hE rfl (lkb rfl hb12)) (by decide) rfl QV rfl (At.cat (pre := [[v0_1], [vI p0.Next]]) (hM.rawAt (pre := [])) (cl1 (n := 1) (m := 1) rfl (cl1 (n := 1) (m := 0) rfl cl0))) fun a hE => Z6 hE (Zx hE rfl (lkb rfl hb12)) (by decide) rfl Tryz.underlying33 (hM.rd hv0_2) fun a hE => Zh hE (Zx hE rfl (lkb rfl hb12)) (by decide) rfl rfl rfl fun a hE => YL hE Za ld (lkb rfl hb12) rfl fun a hE => Zd hE Za ld rfl ?_; intro a hE
     refine Wc (decide ((p0.Records.length : Int) > 12)) (fun hb14 => ?_) (fun hb14 => ?_)
     ·have hl4 := ZA hl4 hb14
      refine Zw hE rfl (lkb rfl hb14) rfl (by decide) fun a hE => Zw hE rfl (lkb rfl hb14) rfl (by decide) fun a hE => Zw hE rfl (lkb rfl hb14) rfl (by decide) fun a hE => Zw hE rfl (lkb rfl hb14) rfl (by decide) fun a hE => Z9 hE Za ld (lkb rfl hb14) rfl fun a hE => Zi ?_
      have ht15 := Option.some.inj hl4
      subst ht15
      refine Zl ?_
      exact ⟨hE.sub ⟨rfl, rfl, trivial⟩, hM⟩
     ·have hl4 := ZB hl4 hb14
      refine Zg hE (Zx hE rfl (lkb rfl hb14)) (by decide) rfl (QW) fun a hE => Zq (v := v0_3) hE (Zx hE rfl (lkb rfl hb14)) (by decide) rfl Ap rfl (At.cat (pre := [[v0_1], [vI p0.Next], [v0_2]]) (hM.rawAt (pre := [])) (cl1 (n := 1) (m := 2) rfl (cl1 (n := 1) (m := 1) rfl (cl1 (n := 1) (m := 0) rfl cl0)))) fun a hE => Z6 hE (Zx hE rfl (lkb rfl hb14)) (by decide) rfl Tryz.underlying34 (hM.rd hv0_3) fun a hE => Zh hE (Zx hE rfl (lkb rfl hb14)) (by decide) rfl rfl rfl fun a hE => YL hE Za ld (lkb rfl hb14) rfl fun a hE => Zi ?_
      have ht16 := Option.some.inj hl4
      subst ht16
      refine Zl ?_
      exact ⟨hE.sub ⟨rfl, rfl, trivial⟩, hM⟩
 ·skip
  rintro a w ⟨hE, hM⟩
  refine Zv hE rfl ?_ ?_
  ·intro hb17
   have hF5 := ZA hF5 hb17
   refine Zc (Ze hE Za ld rfl fun a hE => Zf ?_)
   have hr := Option.some.inj hF5
   subst hr
   have hM := M.fst (l := []) hM
   exact wp_ret (ZE (Zy hE rfl (Zu hE rfl) ⟨_, rfl, rfl, hM.kept⟩))
  ·intro hb17
   have hF5 := ZB hF5 hb17
   refine wp_skip (Zz (Zc (Ze hE Za ld rfl fun a hE => Zf (wp_seq (Zc (Ze hE Za ld rfl fun a hE => Zf ?_))))))
   obtain ⟨j18, hl19, hF20⟩ := bind_some hF5
   refine ZR (fun a w => ∃ s21 : Unit, j18 = Fl.nx s21 ∧ Env 96 a [(1, (ptr b1 0))] ∧ M (Old w0) w0 w [raw b1 (cat [[v0_1], [vI p0.Next], [v0_2], [v0_3], enc p0.Head])]) ?_ ?_
   ·skip
    refine wp_block ?_
    refine ZK (fun (s22 : Int × Int) a w => Env 96 a [(1, (ptr b1 0)), (3, vI s22.1), (4, vI s22.2)] ∧ M (Old w0) w0 w [raw b1 (cat [[v0_1], [vI p0.Next], [v0_2], [v0_3], enc p0.Head])]) hl19 ⟨hE.sub ⟨rfl, rfl, rfl, trivial⟩, hM⟩ ?_
    rintro s22 a w ⟨hE, hM⟩ o25 hs23 hx24
    unfold Up at hs23
    refine wp_seq (Zc (Zd hE Za ld rfl fun a hE => Zg hE Za ld rfl (Ut) fun a hE => Zq (v := v0_2) hE Za ld rfl QV rfl (At.cat (pre := [[v0_1], [vI p0.Next]]) (hM.rawAt (pre := [])) (cl1 (n := 1) (m := 1) rfl (cl1 (n := 1) (m := 0) rfl cl0))) fun a hE => Z6 hE Za ld rfl Tryz.underlying33 (hM.rd hv0_2) fun a hE => Zh hE Za ld rfl rfl rfl fun a hE => Zf ?_))
    refine Zv hE rfl ?_ ?_
    ·intro hb26
     have hs23 := ZA hs23 hb26
     refine wp_skip (Zz (wp_seq (wp_block (Zc (Zg hE Za ld rfl (Ut) fun a hE => Zq (v := v0_2) hE Za ld rfl QV rfl (At.cat (pre := [[v0_1], [vI p0.Next]]) (hM.rawAt (pre := [])) (cl1 (n := 1) (m := 1) rfl (cl1 (n := 1) (m := 0) rfl cl0))) fun a hE => Zd hE Za ld rfl ?_))))); intro a hE
     obtain ⟨x27, e28, hs23⟩ := bind_some hs23
     have hi29 := ZO e28
     refine ZN hE Za ld rfl rfl Tryz.underlying33 Wx (hM.rd hv0_2) hi29.1 ?_; intro a hE
     obtain ⟨cs30, hs31, hA32⟩ := Vn hv0_2 hi29.2 -- ^
     obtain ⟨u33, u35, rfl, h34, h36⟩ := Y8 hs31 -- ^
     refine Zm (cs := cat [[vI x27.Number], [vI x27.Version], enc x27.Nonce, [u33], [u35], enc x27.Tag]) hE Za ld rfl Wx rfl (hM.atk hA32 (Tc hv0_2 hi29.2)) (ZC (cl1 (n := 1) (m := 51) rfl (cl1 (n := 1) (m := 50) rfl (cl1 (n := 16) (m := 34) (Flat.len _) (cl1 (n := 1) (m := 33) rfl (cl1 (n := 1) (m := 32) rfl (cl1 (n := 32) (m := 0) (Flat.len _) cl0))))))) fun a hE => ZI hE hM Za ld Wx fun b37 w a hM hE => Zt (seg := cat [[vI x27.Number], [vI x27.Version], enc x27.Nonce, [u33], [u35], enc x27.Tag]) (cs' := cat [[vI x27.Number], [vI x27.Version], enc x27.Nonce, [u33], [u35], enc x27.Tag]) hE hM Za rfl rfl rfl Wx (ZC (cl1 (n := 1) (m := 51) rfl (cl1 (n := 1) (m := 50) rfl (cl1 (n := 16) (m := 34) (Flat.len _) (cl1 (n := 1) (m := 33) rfl (cl1 (n := 1) (m := 32) rfl (cl1 (n := 32) (m := 0) (Flat.len _) cl0))))))) (Nat.le_of_eq ((Nat.zero_add _).trans (Eq.trans (ZC (cl1 (n := 1) (m := 51) rfl (cl1 (n := 1) (m := 50) rfl (cl1 (n := 16) (m := 34) (Flat.len _) (cl1 (n := 1) (m := 33) rfl (cl1 (n := 1) (m := 32) rfl (cl1 (n := 32) (m := 0) (Flat.len _) cl0))))))) (Eq.symm (ZC (cl1 (n := 1) (m := 51) rfl (cl1 (n := 1) (m := 50) rfl (cl1 (n := 16) (m := 34) (Flat.len _) (cl1 (n := 1) (m := 33) rfl (cl1 (n := 1) (m := 32) rfl (cl1 (n := 32) (m := 0) (Flat.len _) cl0))))))))))) (WD (cc1 (Flat.cell (x27.Number : Int)) (cc1 (Flat.cell (x27.Version : Int)) (cc1 (Flat.cell _) (cc1 (Rep.cell (hM.rd h34)) (cc1 (Rep.cell (hM.rd h36)) (cc1 (Flat.cell _) cc0))))))) (Zo (Eq.trans (ZC (cl1 (n := 1) (m := 51) rfl (cl1 (n := 1) (m := 50) rfl (cl1 (n := 16) (m := 34) (Flat.len _) (cl1 (n := 1) (m := 33) rfl (cl1 (n := 1) (m := 32) rfl (cl1 (n := 32) (m := 0) (Flat.len _) cl0))))))) (Eq.symm (ZC (cl1 (n := 1) (m := 51) rfl (cl1 (n := 1) (m := 50) rfl (cl1 (n := 16) (m := 34) (Flat.len _) (cl1 (n := 1) (m := 33) rfl (cl1 (n := 1) (m := 32) rfl (cl1 (n := 32) (m := 0) (Flat.len _) cl0)))))))))) fun w a hM hE => Zf (wp_seq ?_)
     obtain ⟨j39, hl40, hF41⟩ := bind_some hs23
     refine ZU (fun a w => Env 96 a [(1, (ptr b1 0)), (4, vI s22.2), (5, (ptr b37 0)), (79, vT j39)] ∧ M (Old w0) w0 w [raw b37 (cat [[vI x27.Number], [vI x27.Version], enc x27.Nonce, [u33], [u35], enc x27.Tag]), raw b1 (cat [[v0_1], [vI p0.Next], [v0_2], [v0_3], enc p0.Head])]) ?_ ?_
     ·skip
      refine wp_region_lit (Zg hE Za ld rfl (Td) fun a hE => Zq (v := (vI x27.Number)) hE Za ld rfl ty2 rfl (At.cat (pre := []) (hM.rawAt (pre := [])) cl0) fun a hE => Zd hE Za ld rfl fun a hE => Zh hE Za ld rfl rfl rfl fun a hE => Zd hE Za ld rfl ?_); intro a hE
      refine Wc (decide (x27.Number ≤ s22.1)) (fun hb42 => ?_) (fun hb42 => ?_)
      ·have hl40 := ZA hl40 hb42
       refine Zw hE rfl (lkb rfl hb42) rfl (by decide) fun a hE => Zw hE rfl (lkb rfl hb42) rfl (by decide) fun a hE => Zw hE rfl (lkb rfl hb42) rfl (by decide) fun a hE => Zw hE rfl (lkb rfl hb42) rfl (by decide) fun a hE => Zw hE rfl (lkb rfl hb42) rfl (by decide) fun a hE => Z9 hE Za ld (lkb rfl hb42) rfl fun a hE => Zd hE Za ld rfl ?_; intro a hE
       refine Zw hE rfl rfl rfl (by decide) fun a hE => Zw hE rfl rfl rfl (by decide) fun a hE => Zw hE rfl rfl rfl (by decide) fun a hE => Zw hE rfl rfl rfl (by decide) fun a hE => Zw hE rfl rfl rfl (by decide) fun a hE => Zw hE rfl rfl rfl (by decide) fun a hE => Zw hE rfl rfl rfl (by decide) ?_; intro a hE
       refine Zw hE rfl rfl rfl (by decide) fun a hE => Z9 hE Za ld rfl rfl fun a hE => Zd hE Za ld rfl fun a hE => Zw hE rfl rfl rfl (by decide) fun a hE => Zw hE rfl rfl rfl (by decide) fun a hE => Zw hE rfl rfl rfl (by decide) fun a hE => Zw hE rfl rfl rfl (by decide) ?_; intro a hE
       refine Z9 hE Za ld rfl rfl fun a hE => Zd hE Za ld rfl fun a hE => Zw hE rfl rfl rfl (by decide) fun a hE => Zw hE rfl rfl rfl (by decide) fun a hE => Zw hE rfl rfl rfl (by decide) fun a hE => Zw hE rfl rfl rfl (by decide) fun a hE => Z9 hE Za ld rfl rfl ?_; intro a hE
       refine Zi ?_
       have ht43 := Option.some.inj hl40
       subst ht43
       refine Zl ?_
       exact ⟨hE.sub ⟨rfl, rfl, rfl, rfl, trivial⟩, hM⟩
      ·have hl40 := ZB hl40 hb42
       refine Zg hE (Zx hE rfl (lkb rfl hb42)) (by decide) rfl (Td) fun a hE => Zq (v := (vI x27.Number)) hE (Zx hE rfl (lkb rfl hb42)) (by decide) rfl ty2 rfl (At.cat (pre := []) (hM.rawAt (pre := [])) cl0) fun a hE => Zg hE (Zx hE rfl (lkb rfl hb42)) (by decide) rfl (QN) fun a hE => Zq (v := (vI p0.Next)) hE (Zx hE rfl (lkb rfl hb42)) (by decide) rfl ty2 rfl (At.cat (pre := [[v0_1]]) (hM.rawAt (pre := [_])) (cl1 (n := 1) (m := 0) rfl cl0)) fun a hE => Zh hE (Zx hE rfl (lkb rfl hb42)) (by decide) rfl rfl rfl fun a hE => YL hE Za ld (lkb rfl hb42) rfl fun a hE => Zd hE Za ld rfl ?_; intro a hE
       refine Wc (decide (x27.Number ≥ p0.Next)) (fun hb44 => ?_) (fun hb44 => ?_)
       ·have hl40 := ZA hl40 hb44
        refine Zw hE rfl (lkb rfl hb44) rfl (by decide) fun a hE => Zw hE rfl (lkb rfl hb44) rfl (by decide) fun a hE => Zw hE rfl (lkb rfl hb44) rfl (by decide) fun a hE => Zw hE rfl (lkb rfl hb44) rfl (by decide) fun a hE => Zw hE rfl (lkb rfl hb44) rfl (by decide) fun a hE => Zw hE rfl (lkb rfl hb44) rfl (by decide) fun a hE => Zw hE rfl (lkb rfl hb44) rfl (by decide) ?_; intro a hE
        refine Zw hE rfl (lkb rfl hb44) rfl (by decide) fun a hE => Z9 hE Za ld (lkb rfl hb44) rfl fun a hE => Zd hE Za ld rfl fun a hE => Zw hE rfl rfl rfl (by decide) fun a hE => Zw hE rfl rfl rfl (by decide) fun a hE => Zw hE rfl rfl rfl (by decide) fun a hE => Zw hE rfl rfl rfl (by decide) ?_; intro a hE
        refine Z9 hE Za ld rfl rfl fun a hE => Zd hE Za ld rfl fun a hE => Zw hE rfl rfl rfl (by decide) fun a hE => Zw hE rfl rfl rfl (by decide) fun a hE => Zw hE rfl rfl rfl (by decide) fun a hE => Zw hE rfl rfl rfl (by decide) fun a hE => Z9 hE Za ld rfl rfl ?_; intro a hE
        refine Zi ?_
        have ht45 := Option.some.inj hl40
        subst ht45
        refine Zl ?_
        exact ⟨hE.sub ⟨rfl, rfl, rfl, rfl, trivial⟩, hM⟩
       ·have hl40 := ZB hl40 hb44
        refine Zg hE (Zx hE rfl (lkb rfl hb44)) (by decide) rfl (TO) fun a hE => Zq (v := (vI x27.Version)) hE (Zx hE rfl (lkb rfl hb44)) (by decide) rfl ty2 rfl (At.cat (pre := [[vI x27.Number]]) (hM.rawAt (pre := [])) (cl1 (n := 1) (m := 0) rfl cl0)) fun a hE => Zg hE (Zx hE rfl (lkb rfl hb44)) (by decide) rfl (Tu) fun a hE => Zq (v := v0_1) hE (Zx hE rfl (lkb rfl hb44)) (by decide) rfl KN rfl (At.cat (pre := []) (hM.rawAt (pre := [_])) cl0) fun a hE => Z6 hE (Zx hE rfl (lkb rfl hb44)) (by decide) rfl Tryz.underlying32 (hM.rd hv0_1) fun a hE => Zh hE (Zx hE rfl (lkb rfl hb44)) (by decide) rfl rfl rfl ?_; intro a hE
        obtain ⟨r46, e47, hl40⟩ := bind_some hl40
        refine Zs hE (Zx hE rfl (lkb rfl hb44)) (by decide) rfl jo (Qc _ x27.Version 0 (wr ((p0.Keys.length : Int) - 1)) r46 e47) ?_
        rintro v w a ⟨rfl, hK⟩ hE
        have hM := hM.keep hK
        refine WA hE (Zx hE rfl (lkb rfl hb44)) (by decide) rfl fun a hE => YL hE Za ld (lkb rfl hb44) rfl fun a hE => Zd hE Za ld rfl ?_; intro a hE
        refine Wc (!r46) (fun hb48 => ?_) (fun hb48 => ?_)
        ·have hl40 := ZA hl40 hb48
         refine Zw hE rfl (lkb rfl hb48) rfl (by decide) fun a hE => Zw hE rfl (lkb rfl hb48) rfl (by decide) fun a hE => Zw hE rfl (lkb rfl hb48) rfl (by decide) fun a hE => Zw hE rfl (lkb rfl hb48) rfl (by decide) fun a hE => Z9 hE Za ld (lkb rfl hb48) rfl fun a hE => Zd hE Za ld rfl fun a hE => Zw hE rfl rfl rfl (by decide) ?_; intro a hE
         refine Zw hE rfl rfl rfl (by decide) fun a hE => Zw hE rfl rfl rfl (by decide) fun a hE => Zw hE rfl rfl rfl (by decide) fun a hE => Z9 hE Za ld rfl rfl fun a hE => Zi ?_
         have ht49 := Option.some.inj hl40
         subst ht49
         refine Zl ?_
         exact ⟨hE.sub ⟨rfl, rfl, rfl, rfl, trivial⟩, hM⟩
        ·have hl40 := ZB hl40 hb48
         refine Zg hE (Zx hE rfl (lkb rfl hb48)) (by decide) rfl (Qn) fun a hE => Zq (v := u33) hE (Zx hE rfl (lkb rfl hb48)) (by decide) rfl Ua rfl (At.cat (pre := [[vI x27.Number], [vI x27.Version], enc x27.Nonce]) (hM.rawAt (pre := [])) (cl1 (n := 1) (m := 17) rfl (cl1 (n := 1) (m := 16) rfl (cl1 (n := 16) (m := 0) (Flat.len _) cl0)))) fun a hE => Z6 hE (Zx hE rfl (lkb rfl hb48)) (by decide) rfl Tryz.underlying57 (hM.rd h34) fun a hE => Zh hE (Zx hE rfl (lkb rfl hb48)) (by decide) rfl rfl rfl fun a hE => YL hE Za ld (lkb rfl hb48) rfl fun a hE => Zd hE Za ld rfl ?_; intro a hE
         refine Wc (decide ((x27.Label.length : Int) > 32)) (fun hb50 => ?_) (fun hb50 => ?_)
         ·have hl40 := ZA hl40 hb50
          refine Zw hE rfl (lkb rfl hb50) rfl (by decide) fun a hE => Zw hE rfl (lkb rfl hb50) rfl (by decide) fun a hE => Zw hE rfl (lkb rfl hb50) rfl (by decide) fun a hE => Zw hE rfl (lkb rfl hb50) rfl (by decide) fun a hE => Z9 hE Za ld (lkb rfl hb50) rfl fun a hE => Zi ?_
          have ht51 := Option.some.inj hl40
          subst ht51
          refine Zl ?_
          exact ⟨hE.sub ⟨rfl, rfl, rfl, rfl, trivial⟩, hM⟩
         ·have hl40 := ZB hl40 hb50
          refine Zg hE (Zx hE rfl (lkb rfl hb50)) (by decide) rfl (QA) fun a hE => Zq (v := u35) hE (Zx hE rfl (lkb rfl hb50)) (by decide) rfl Ua rfl (At.cat (pre := [[vI x27.Number], [vI x27.Version], enc x27.Nonce, [u33]]) (hM.rawAt (pre := [])) (cl1 (n := 1) (m := 18) rfl (cl1 (n := 1) (m := 17) rfl (cl1 (n := 16) (m := 1) (Flat.len _) (cl1 (n := 1) (m := 0) rfl cl0))))) fun a hE => Z6 hE (Zx hE rfl (lkb rfl hb50)) (by decide) rfl Tryz.underlying57 (hM.rd h36) fun a hE => Zh hE (Zx hE rfl (lkb rfl hb50)) (by decide) rfl rfl rfl fun a hE => YL hE Za ld (lkb rfl hb50) rfl fun a hE => Zi ?_
          have ht52 := Option.some.inj hl40
          subst ht52
          refine Zl ?_
          exact ⟨hE.sub ⟨rfl, rfl, rfl, rfl, trivial⟩, hM⟩
     ·skip
      rintro a w ⟨hE, hM⟩
      refine Zv hE rfl ?_ ?_
      ·intro hb53
       have hF41 := ZA hF41 hb53
       refine Zc (Ze hE Za ld rfl fun a hE => Zf ?_)
       have ht54 := hx24 _ (Option.some.inj hF41).symm
       subst ht54
       have hr := Option.some.inj hF20
       subst hr
       have hM := M.fst (l := []) hM
       exact wp_ret (ZE (Wl (ZE (ZE (Wl (ZE (ZE (Zy hE rfl (Zu hE rfl) ⟨_, rfl, rfl, hM.kept⟩))))))))
      ·intro hb53
       have hF41 := ZB hF41 hb53
       refine wp_skip (Zz (wp_region_lit (Zg hE Za ld rfl (Td) fun a hE => Zq (v := (vI x27.Number)) hE Za ld rfl ty2 rfl (At.cat (pre := []) (hM.rawAt (pre := [])) cl0) fun a hE => Ze hE Za ld rfl fun a hE => Zi (Ye (Zz (wp_region_lit (Zd hE Za ld rfl fun a hE => Zh hE Za ld rfl rfl rfl fun a hE => Ze hE Za ld rfl fun a hE => Zi (Zl ?_))))))))
       have hM := hM.pull (pre := [_])
       have hM := M.fst (l := [_]) hM
       exact ⟨_, (Option.some.inj hF41).symm, hE.sub ⟨rfl, rfl, rfl, trivial⟩, hM⟩
    ·intro hb26
     have hs23 := ZB hs23 hb26
     refine wp_exit (Zp (Zp (Yc ?_)))
     have ht55 := hx24 _ (Option.some.inj hs23).symm
     subst ht55
     refine Zl ?_
     exact ⟨(), rfl, hE.sub ⟨rfl, trivial⟩, hM⟩
   ·skip
    rintro a w ⟨s21, ht, hE, hM⟩
    subst ht
    have hF20 := Qo hF20
    refine Zz (wp_seq (Zc (Ze hE Za ld rfl fun a hE => Zf ?_)))
    obtain ⟨j56, hl57, hF58⟩ := bind_some hF20
    refine ZR (fun a w => ∃ s59 : Unit, j56 = Fl.nx s59 ∧ Env 96 a [] ∧ M (Old w0) w0 w []) ?_ ?_
    ·skip
     refine wp_block ?_
     refine ZK (fun (s60 : Int) a w => Env 96 a [(1, (ptr b1 0)), (6, vI s60)] ∧ M (Old w0) w0 w [raw b1 (cat [[v0_1], [vI p0.Next], [v0_2], [v0_3], enc p0.Head])]) hl57 ⟨hE.sub ⟨rfl, rfl, trivial⟩, hM⟩ ?_
     rintro s60 a w ⟨hE, hM⟩ o63 hs61 hx62
     unfold Th at hs61
     refine wp_seq (Zc (Zd hE Za ld rfl fun a hE => Zg hE Za ld rfl (QW) fun a hE => Zq (v := v0_3) hE Za ld rfl Ap rfl (At.cat (pre := [[v0_1], [vI p0.Next], [v0_2]]) (hM.rawAt (pre := [])) (cl1 (n := 1) (m := 2) rfl (cl1 (n := 1) (m := 1) rfl (cl1 (n := 1) (m := 0) rfl cl0)))) fun a hE => Z6 hE Za ld rfl Tryz.underlying34 (hM.rd hv0_3) fun a hE => Zh hE Za ld rfl rfl rfl fun a hE => Zf ?_))
     refine Zv hE rfl ?_ ?_
     ·intro hb64
      have hs61 := ZA hs61 hb64
      refine wp_skip (Zz (wp_seq (wp_block (Zc (Zg hE Za ld rfl (QW) fun a hE => Zq (v := v0_3) hE Za ld rfl Ap rfl (At.cat (pre := [[v0_1], [vI p0.Next], [v0_2]]) (hM.rawAt (pre := [])) (cl1 (n := 1) (m := 2) rfl (cl1 (n := 1) (m := 1) rfl (cl1 (n := 1) (m := 0) rfl cl0)))) fun a hE => Zd hE Za ld rfl ?_))))); intro a hE
      obtain ⟨x65, e66, hs61⟩ := bind_some hs61
      have hi67 := ZO e66
      refine ZN hE Za ld rfl rfl Tryz.underlying34 UJ (hM.rd hv0_3) hi67.1 fun a hE => Zm (cs := enc x65) hE Za ld rfl UJ rfl (Xa (hM.rd hv0_3) hi67.2) (ZC (cl1 (n := 1) (m := 33) rfl (cl1 (n := 1) (m := 32) rfl (cl1 (n := 32) (m := 0) (Flat.len _) cl0)))) ?_; intro a hE
      obtain ⟨r68, e69, hs61⟩ := bind_some hs61
      refine Zs hE Za ld rfl cb129 (H4 _ x65 r68 e69) ?_
      rintro v w a ⟨rfl, hK⟩ hE
      have hM := hM.keep hK
      refine WA hE Za ld rfl fun a hE => Zf ?_
      refine Zv hE rfl ?_ ?_
      ·intro hb70
       have hs61 := ZA hs61 hb70
       refine Zc (Ze hE Za ld rfl fun a hE => Zf ?_)
       have ht71 := hx62 _ (Option.some.inj hs61).symm
       subst ht71
       have hr := Option.some.inj hF58
       subst hr
       have hM := M.fst (l := []) hM
       exact wp_ret (Wl (ZE (ZE (Wl (ZE (ZE (Zy hE rfl (Zu hE rfl) ⟨_, rfl, rfl, hM.kept⟩)))))))
      ·intro hb70
       have hs61 := ZB hs61 hb70
       refine wp_skip (Ye (Zz (wp_region_lit (Zd hE Za ld rfl fun a hE => Zh hE Za ld rfl rfl rfl fun a hE => Ze hE Za ld rfl fun a hE => Zi (Zl ?_)))))
       exact ⟨_, (Option.some.inj hs61).symm, hE.sub ⟨rfl, rfl, trivial⟩, hM⟩
     ·intro hb64
      have hs61 := ZB hs61 hb64
      refine wp_exit (Zp (Zp (Yc ?_)))
      have ht72 := hx62 _ (Option.some.inj hs61).symm
      subst ht72
      refine Zl ?_
      have hM := M.fst (l := []) hM
      exact ⟨(), rfl, hE.sub trivial, hM⟩
    ·skip
     rintro a w ⟨s59, ht, hE, hM⟩
     subst ht
     have hF58 := Qo hF58
     refine Zz (Zc (Ze hE Za ld rfl fun a hE => Zf ?_))
     have hr := Option.some.inj hF58
     subst hr
     exact wp_ret (Zy hE rfl (Zu hE rfl) ⟨_, rfl, rfl, hM.kept⟩)
noncomputable def UY (p0 : GVault) (p1 : Int) (s7 : Int) : Option (Fl Int (Fl Unit Int)) :=
 if (decide (s7 < (p0.Records.length : Int))) = true then ((idx p0.Records s7).bind fun x12 => if (x12.Number == p1) = true then (some (Fl.ex (Fl.ex s7))) else (some (Fl.nx (wr (s7 + 1))))) else (some (Fl.ex (Fl.nx ())))
noncomputable def Uk (p0 : GVault) (p1 : Int) : Option (Int) :=
 (ZG (UY p0 p1) 0 : Option (Fl Unit Int)).bind fun j3 => j3.el (fun s6 => some (-1)) (fun r => some r)
theorem HM (w0 : World) (p0 : GVault) (v0_1 : Value) (hv0_1 : Ro w0 p0.Keys [v0_1]) (v0_2 : Value) (hv0_2 : Ro w0 p0.Records [v0_2]) (v0_3 : Value) (hv0_3 : Ro w0 p0.Events [v0_3]) (p1 : Int) (r : Int) (hF : Uk p0 p1 = some r) :
  Calls Tryz.prog 54 [(Value.agg (cat [[v0_1], [vI p0.Next], [v0_2], [v0_3], enc p0.Head]).toArray), vI p1].toArray w0 (fun en w' => ∃ v, en = .returned v ∧ (v = (vI r) ∧ Kept (Old w0) w0 w')) := by
 refine ZD (n := 22) Tryz.func54 rfl rfl (Nat.le_of_ble_eq_true rfl) rfl ?_
 intro a hE
 have hM := M.start w0
 unfold Uk at hF
 refine Zc (ZX (cs := cat [[v0_1], [vI p0.Next], [v0_2], [v0_3], enc p0.Head]) hE hM Za ld rfl rfl fun b1 w a hM hE => Ze hE Za ld rfl fun a hE => Zf (wp_seq (Zc (Ze hE Za ld rfl fun a hE => Zf ?_))))
 obtain ⟨j3, hl4, hF5⟩ := bind_some hF
 refine ZR (fun a w => ∃ s6 : Unit, j3 = Fl.nx s6 ∧ Env 22 a [] ∧ M (Old w0) w0 w []) ?_ ?_
 ·skip
  refine wp_block ?_
  refine ZK (fun (s7 : Int) a w => Env 22 a [(1, vI p1), (2, (ptr b1 0)), (5, vI s7)] ∧ M (Old w0) w0 w [raw b1 (cat [[v0_1], [vI p0.Next], [v0_2], [v0_3], enc p0.Head])]) hl4 ⟨hE.sub ⟨rfl, rfl, rfl, trivial⟩, hM⟩ ?_
  rintro s7 a w ⟨hE, hM⟩ o10 hs8 hx9
  unfold UY at hs8
  refine wp_seq (Zc (Zd hE Za ld rfl fun a hE => Zg hE Za ld rfl (Ut) fun a hE => Zq (v := v0_2) hE Za ld rfl QV rfl (At.cat (pre := [[v0_1], [vI p0.Next]]) (hM.rawAt (pre := [])) (cl1 (n := 1) (m := 1) rfl (cl1 (n := 1) (m := 0) rfl cl0))) fun a hE => Z6 hE Za ld rfl Tryz.underlying33 (hM.rd hv0_2) fun a hE => Zh hE Za ld rfl rfl rfl fun a hE => Zf ?_))
  refine Zv hE rfl ?_ ?_
  ·intro hb11
   have hs8 := ZA hs8 hb11
   refine wp_skip (Zz (wp_seq (wp_block (Zc (Zg hE Za ld rfl (Ut) fun a hE => Zq (v := v0_2) hE Za ld rfl QV rfl (At.cat (pre := [[v0_1], [vI p0.Next]]) (hM.rawAt (pre := [])) (cl1 (n := 1) (m := 1) rfl (cl1 (n := 1) (m := 0) rfl cl0))) fun a hE => Zd hE Za ld rfl ?_))))); intro a hE
   obtain ⟨x12, e13, hs8⟩ := bind_some hs8
   have hi14 := ZO e13
   refine ZN hE Za ld rfl rfl Tryz.underlying33 Wx (hM.rd hv0_2) hi14.1 fun a hE => Zg hE Za ld rfl (Td) ?_; intro a hE
   obtain ⟨cs15, hs16, hA17⟩ := Vn hv0_2 hi14.2 -- ^
   obtain ⟨u18, u20, rfl, h19, h21⟩ := Y8 hs16 -- ^
   refine Zq (v := (vI x12.Number)) hE Za ld rfl ty2 rfl (At.cat (pre := []) (hM.atk hA17 (Tc hv0_2 hi14.2)) cl0) fun a hE => Zd hE Za ld rfl fun a hE => Zh hE Za ld rfl rfl rfl fun a hE => Zf ?_
   refine Zv hE rfl ?_ ?_
   ·intro hb22
    have hs8 := ZA hs8 hb22
    refine Zc (Zd hE Za ld rfl fun a hE => Ze hE Za ld rfl fun a hE => Zf ?_)
    have ht23 := hx9 _ (Option.some.inj hs8).symm
    subst ht23
    have hr := Option.some.inj hF5
    subst hr
    have hM := M.fst (l := []) hM
    exact wp_ret (Wl (ZE (ZE (Wl (ZE (ZE (Zy hE rfl (Zu hE rfl) ⟨_, rfl, rfl, hM.kept⟩)))))))
   ·intro hb22
    have hs8 := ZB hs8 hb22
    refine wp_skip (Ye (Zz (wp_region_lit (Zd hE Za ld rfl fun a hE => Zh hE Za ld rfl rfl rfl fun a hE => Ze hE Za ld rfl fun a hE => Zi (Zl ?_)))))
    exact ⟨_, (Option.some.inj hs8).symm, hE.sub ⟨rfl, rfl, rfl, trivial⟩, hM⟩
  ·intro hb11
   have hs8 := ZB hs8 hb11
   refine wp_exit (Zp (Zp (Yc ?_)))
   have ht24 := hx9 _ (Option.some.inj hs8).symm
   subst ht24
   refine Zl ?_
   have hM := M.fst (l := []) hM
   exact ⟨(), rfl, hE.sub trivial, hM⟩
 ·skip
  rintro a w ⟨s6, ht, hE, hM⟩
  subst ht
  have hF5 := Qo hF5
  refine Zz (Zc (Ze hE Za ld rfl fun a hE => Zf ?_))
  have hr := Option.some.inj hF5
  subst hr
  exact wp_ret (Zy hE rfl (Zu hE rfl) ⟨_, rfl, rfl, hM.kept⟩)
noncomputable def UT (p0 : Int) : Option ((List UInt8)) :=
 some ([Zr (Qg (Wd p0 24) 255), Zr (Qg (Wd p0 16) 255), Zr (Qg (Wd p0 8) 255), Zr (Qg p0 255)] : List UInt8)
theorem Bs (w0 : World) (p0 : Int) (r : (List UInt8)) (hF : UT p0 = some r) :
  Calls Tryz.prog 130 [vI p0].toArray w0 (fun en w' => ∃ v, en = .returned v ∧ (∃ (y1 : Value), v = y1 ∧ Fr w0 w' [osl NoB (r : List UInt8) y1] ∧ Kept (Old w0) w0 w')) := by
 refine ZD (n := 19) Tryz.func130 rfl rfl (Nat.le_of_ble_eq_true rfl) rfl ?_
 intro a hE
 have hM := M.start w0
 unfold UT at hF
 refine Zc (Ze hE Za ld rfl fun a hE => Zf (Zc (Zd hE Za ld rfl fun a hE => Ju hE Za ld rfl rfl (Kp _ _ (by decide)) fun a hE => Zh hE Za ld rfl rfl rfl fun a hE => Yj hE Za ld rfl Tryz.underlying2 Tryz.underlying5 ?_))); intro a hE
 rw [ZW] at hE
 refine Zd hE Za ld rfl fun a hE => Ju hE Za ld rfl rfl (Kp _ _ (by decide)) fun a hE => Zh hE Za ld rfl rfl rfl fun a hE => Yj hE Za ld rfl Tryz.underlying2 Tryz.underlying5 ?_; intro a hE
 rw [ZW] at hE
 refine Zd hE Za ld rfl fun a hE => Ju hE Za ld rfl rfl (Kp _ _ (by decide)) fun a hE => Zh hE Za ld rfl rfl rfl fun a hE => Yj hE Za ld rfl Tryz.underlying2 Tryz.underlying5 ?_; intro a hE
 rw [ZW] at hE
 refine Zd hE Za ld rfl fun a hE => Zh hE Za ld rfl rfl rfl fun a hE => Yj hE Za ld rfl Tryz.underlying2 Tryz.underlying5 ?_; intro a hE
 rw [ZW] at hE
 refine Z5 (xs := [.tmp 6, .tmp 10, .tmp 14, .tmp 17]) (l := ([Zr (Qg (Wd p0 24) 255), Zr (Qg (Wd p0 16) 255), Zr (Qg (Wd p0 8) 255), Zr (Qg p0 255)] : List UInt8)) (vs := [(vB (Zr (Qg (Wd p0 24) 255))), (vB (Zr (Qg (Wd p0 16) 255))), (vB (Zr (Qg (Wd p0 8) 255))), (vB (Zr (Qg p0 255)))]) hE hM Za ld rfl rfl Tryz.underlying57 ty5 rfl (by decide) rfl fun u1 w a hM hE => Ze hE Za ld rfl fun a hE => Zf ?_
 have hr := Option.some.inj hF
 subst hr
 exact wp_ret (Zy hE rfl (Zu hE rfl) ⟨_, rfl, u1, rfl, hM.outF (Xu Xo), hM.kept⟩)
noncomputable def Tr (p0 : (List (Vector UInt8 16))) (s8 : (List UInt8) × Int) (s20 : (List UInt8) × Int) : Option (Fl ((List UInt8) × Int) (List UInt8)) :=
 if (decide (s20.2 < 16)) = true then ((idx p0 s8.2).bind fun x27 => (ZM x27 s20.2).bind fun x31 => (app 1 s20.1 ([x31] : List UInt8)).bind fun l35 => some (Fl.nx ((s20.1 ++ ([x31] : List UInt8)), wr (s20.2 + 1)))) else (some (Fl.ex s20.1))
noncomputable def WV (p0 : (List (Vector UInt8 16))) (s8 : (List UInt8) × Int) : Option (Fl ((List UInt8) × Int) (List UInt8)) :=
 if (decide (s8.2 < (p0.length : Int))) = true then ((ZG (Tr p0 s8) (s8.1, 0) : Option ((List UInt8))).bind fun j15 => some (Fl.nx (j15, wr (s8.2 + 1)))) else (some (Fl.ex s8.1))
noncomputable def XM (p0 : (List (Vector UInt8 16))) : Option ((List UInt8)) :=
 (ZG (WV p0) (([] : List UInt8), 0) : Option ((List UInt8))).bind fun j3 => some j3
theorem Kl (w0 : World) (p0 : (List (Vector UInt8 16))) (v0_1 : Value) (hv0_1 : Ro w0 p0 [v0_1]) (r : (List UInt8)) (hF : XM p0 = some r) :
  Calls Tryz.prog 131 [v0_1].toArray w0 (fun en w' => ∃ v, en = .returned v ∧ (∃ (y1 : Value), v = y1 ∧ Fr w0 w' [osl NoB (r : List UInt8) y1] ∧ Kept (Old w0) w0 w')) := by
 refine ZD (n := 27) Tryz.func131 rfl rfl (Nat.le_of_ble_eq_true rfl) rfl ?_
 intro a hE
 have hM := M.start w0
 unfold XM at hF
 refine Zc (Ze hE Za ld rfl fun a hE => Zf (Zc (Z5 (xs := []) (l := ([] : List UInt8)) (vs := []) hE hM Za ld rfl rfl Tryz.underlying57 ty5 rfl (by decide) rfl fun u1 w a hM hE => Ze hE Za ld rfl fun a hE => Zf (wp_seq (Zc (Ze hE Za ld rfl fun a hE => Zf ?_))))))
 obtain ⟨j3, hl4, hF5⟩ := bind_some hF
 refine ZR (fun a w => ∃ (u6 : Value), Env 27 a [(3, u6)] ∧ M (Old w0) w0 w [osl NoB (j3 : List UInt8) u6]) ?_ ?_
 ·skip
  refine wp_block ?_
  refine ZK (fun (s8 : (List UInt8) × Int) a w => ∃ (u9 : Value), Env 27 a [(0, v0_1), (3, u9), (4, vI s8.2)] ∧ M (Old w0) w0 w [osl NoB (s8.1 : List UInt8) u9]) hl4 ⟨u1, hE.sub ⟨rfl, rfl, rfl, trivial⟩, hM⟩ ?_
  rintro s8 a w ⟨u9, hE, hM⟩ o13 hs11 hx12
  unfold WV at hs11
  refine wp_seq (Zc (Zd hE Za ld rfl fun a hE => Zd hE Za ld rfl fun a hE => Z6 hE Za ld rfl Tryz.underlying32 (hM.rd hv0_1) fun a hE => Zh hE Za ld rfl rfl rfl fun a hE => Zf ?_))
  refine Zv hE rfl ?_ ?_
  ·intro hb14
   have hs11 := ZA hs11 hb14
   refine wp_skip (Zz (wp_seq (wp_block (Zc (Ze hE Za ld rfl fun a hE => Zf ?_)))))
   obtain ⟨j15, hl16, hF17⟩ := bind_some hs11
   refine ZR (fun a w => ∃ (u18 : Value), Env 27 a [(0, v0_1), (3, u18), (4, vI s8.2)] ∧ M (Old w0) w0 w [osl NoB (j15 : List UInt8) u18]) ?_ ?_
   ·skip
    refine wp_block ?_
    refine ZK (fun (s20 : (List UInt8) × Int) a w => ∃ (u21 : Value), Env 27 a [(0, v0_1), (3, u21), (4, vI s8.2), (5, vI s20.2)] ∧ M (Old w0) w0 w [osl NoB (s20.1 : List UInt8) u21]) hl16 ⟨u9, hE.sub ⟨rfl, rfl, rfl, rfl, trivial⟩, hM⟩ ?_
    rintro s20 a w ⟨u21, hE, hM⟩ o25 hs23 hx24
    unfold Tr at hs23
    refine wp_seq (Zc (Zd hE Za ld rfl fun a hE => Zh hE Za ld rfl rfl rfl fun a hE => Zf ?_))
    refine Zv hE rfl ?_ ?_
    ·intro hb26
     have hs23 := ZA hs23 hb26
     refine wp_skip (Zz (wp_seq (wp_block (wp_region_lit (Zd hE Za ld rfl fun a hE => Zd hE Za ld rfl fun a hE => Zd hE Za ld rfl fun a hE => Zd hE Za ld rfl ?_))))); intro a hE
     obtain ⟨x27, e28, hs23⟩ := bind_some hs23
     have hi29 := ZO e28
     refine ZN hE Za ld rfl rfl Tryz.underlying32 ZH (hM.rd hv0_1) hi29.1 ?_; intro a hE
     obtain ⟨x31, e32, hs23⟩ := bind_some hs23
     have hi30 := Zj e32
     refine Zn hE Za ld rfl rfl Tryz.underlying70 ty5 hi30.1 fun a hE => Zq (v := (vB x31)) hE Za ld rfl ty5 rfl (At.vec (Xa (hM.rd hv0_1) hi29.2) hi30.2) fun a hE => Z5 (xs := [.tmp 23]) (l := ([x31] : List UInt8)) (vs := [vB x31]) hE hM Za ld rfl rfl Tryz.underlying57 ty5 rfl (by decide) rfl ?_; intro u33 w a hM hE
     obtain ⟨l35, e36, hs23⟩ := bind_some hs23
     obtain ⟨e39, rfl⟩ := Yn e36
     have hM := hM.pull (pre := [_])
     refine Yb hE hM Za ld rfl rfl (hM.sl (pre := [_]) noB) Tryz.underlying57 ty5 rfl (by decide) e39 fun u37 w a hM hE => Ze hE Za ld rfl fun a hE => Zi (Ye (Zz (wp_region_lit (Zd hE Za ld rfl fun a hE => Zh hE Za ld rfl rfl rfl fun a hE => Ze hE Za ld rfl fun a hE => Zi (Zl ?_)))))
     have hM := M.fst (l := [_]) hM
     exact ⟨_, (Option.some.inj hs23).symm, u37, hE.sub ⟨rfl, rfl, rfl, rfl, trivial⟩, hM⟩
    ·intro hb26
     have hs23 := ZB hs23 hb26
     refine wp_exit (Zp (Zp (Yc ?_)))
     have ht40 := hx24 _ (Option.some.inj hs23).symm
     subst ht40
     refine Zl ?_
     exact ⟨u21, hE.sub ⟨rfl, rfl, rfl, trivial⟩, hM⟩
   ·skip
    rintro a w ⟨u18, hE, hM⟩
    refine Ye (Zz (wp_region_lit (Zd hE Za ld rfl fun a hE => Zh hE Za ld rfl rfl rfl fun a hE => Ze hE Za ld rfl fun a hE => Zi (Zl ?_))))
    exact ⟨_, (Option.some.inj hF17).symm, u18, hE.sub ⟨rfl, rfl, rfl, trivial⟩, hM⟩
  ·intro hb14
   have hs11 := ZB hs11 hb14
   refine wp_exit (Zp (Zp (Yc ?_)))
   have ht41 := hx12 _ (Option.some.inj hs11).symm
   subst ht41
   refine Zl ?_
   exact ⟨u9, hE.sub ⟨rfl, trivial⟩, hM⟩
 ·skip
  rintro a w ⟨u6, hE, hM⟩
  refine Zz (Zc (Zd hE Za ld rfl fun a hE => Ze hE Za ld rfl fun a hE => Zf ?_))
  have hr := Option.some.inj hF5
  subst hr
  exact wp_ret (Zy hE rfl (Zu hE rfl) ⟨_, rfl, u6, rfl, hM.outF (Xu Xo), hM.kept⟩)
noncomputable def Y3 (p0 : Int) (s4 : Int × Int × Int) : Option (Fl (Int × Int × Int) Int) :=
 if (decide (s4.2.2 > 0)) = true then (((if ((Int.tmod s4.2.2 2) == 1) = true then (some (Q2 s4.1 s4.2.1)) else (some s4.1) : Option (Int)).bind fun j12 => (if (decide ((wr (s4.2.1 * 2)) ≥ 256)) = true then (some (Q2 (wr (s4.2.1 * 2)) p0)) else (some (wr (s4.2.1 * 2))) : Option (Int)).bind fun j18 => some (j12, j18) : Option (Int × Int)).bind fun j9 => some (Fl.nx (j9.1, j9.2, wr (Int.tdiv s4.2.2 2)))) else (some (Fl.ex s4.1))
noncomputable def YH (p0 : Int) (p1 : UInt8) (p2 : UInt8) : Option (UInt8) :=
 (ZG (Y3 p0) (0, bI p1, bI p2) : Option (Int)).bind fun j1 => some (Zr j1)
theorem Ug (w0 : World) (p0 : Int) (p1 : UInt8) (p2 : UInt8) (r : UInt8) (hF : YH p0 p1 p2 = some r) :
  Calls Tryz.prog 224 [vI p0, vB p1, vB p2].toArray w0 (fun en w' => ∃ v, en = .returned v ∧ (v = (vB r) ∧ Kept (Old w0) w0 w')) := by
 refine ZD (n := 33) Tryz.func224 rfl rfl (Nat.le_of_ble_eq_true rfl) rfl ?_
 intro a hE
 have hM := M.start w0
 unfold YH at hF
 refine Zc (Ze hE Za ld rfl fun a hE => Zf (Zc (Zd hE Za ld rfl fun a hE => Yj hE Za ld rfl Tryz.underlying5 Tryz.underlying2 ?_))); intro a hE
 rw [KD] at hE
 refine Ze hE Za ld rfl fun a hE => Ze hE Za ld rfl fun a hE => Zf (wp_seq (Zc (Zd hE Za ld rfl fun a hE => Yj hE Za ld rfl Tryz.underlying5 Tryz.underlying2 ?_))); intro a hE
 rw [KD] at hE
 refine Ze hE Za ld rfl fun a hE => Zf ?_
 obtain ⟨j1, hl2, hF3⟩ := bind_some hF
 refine ZR (fun a w => Env 33 a [(7, vI j1)] ∧ M (Old w0) w0 w []) ?_ ?_
 ·skip
  refine wp_block ?_
  refine ZK (fun (s4 : Int × Int × Int) a w => Env 33 a [(0, vI p0), (7, vI s4.1), (8, vI s4.2.1), (9, vI s4.2.2)] ∧ M (Old w0) w0 w []) hl2 ⟨hE.sub ⟨rfl, rfl, rfl, rfl, trivial⟩, hM⟩ ?_
  rintro s4 a w ⟨hE, hM⟩ o7 hs5 hx6
  unfold Y3 at hs5
  refine wp_seq (Zc (Zd hE Za ld rfl fun a hE => Zh hE Za ld rfl rfl rfl fun a hE => Zf ?_))
  refine Zv hE rfl ?_ ?_
  ·intro hb8
   have hs5 := ZA hs5 hb8
   refine wp_skip (Zz ?_)
   obtain ⟨j9, hl10, hF11⟩ := bind_some hs5
   refine ZU (fun a w => Env 33 a [(0, vI p0), (7, vI j9.1), (8, vI j9.2), (9, vI s4.2.2)] ∧ M (Old w0) w0 w []) ?_ ?_
   ·skip
    refine wp_block ?_
    obtain ⟨j12, hl13, hF14⟩ := bind_some hl10
    refine ZU (fun a w => Env 33 a [(0, vI p0), (7, vI j12), (8, vI s4.2.1), (9, vI s4.2.2)] ∧ M (Old w0) w0 w []) ?_ ?_
    ·skip
     refine Zc (Zd hE Za ld rfl fun a hE => Zh hE Za ld rfl rfl (Qm _ _ (by decide)) fun a hE => Zh hE Za ld rfl rfl rfl fun a hE => Zf ?_)
     refine Zv hE rfl ?_ ?_
     ·intro hb15
      have hl13 := ZA hl13 hb15
      refine wp_region_lit (Zd hE Za ld rfl fun a hE => Zd hE Za ld rfl fun a hE => Zh hE Za ld rfl rfl rfl fun a hE => Ze hE Za ld rfl fun a hE => Zi ?_)
      have ht16 := Option.some.inj hl13
      subst ht16
      refine Zl ?_
      exact ⟨hE.sub ⟨rfl, rfl, rfl, rfl, trivial⟩, hM⟩
     ·intro hb15
      have hl13 := ZB hl13 hb15
      refine wp_skip ?_
      have ht17 := Option.some.inj hl13
      subst ht17
      refine Zl ?_
      exact ⟨hE.sub ⟨rfl, rfl, rfl, rfl, trivial⟩, hM⟩
    ·skip
     rintro a w ⟨hE, hM⟩
     refine Zc (Zd hE Za ld rfl fun a hE => Zh hE Za ld rfl rfl rfl fun a hE => Ze hE Za ld rfl fun a hE => Zf (Zc (Zd hE Za ld rfl fun a hE => Zh hE Za ld rfl rfl rfl fun a hE => Zf ?_)))
     obtain ⟨j18, hl19, hF20⟩ := bind_some hF14
     refine ZR (fun a w => Env 33 a [(0, vI p0), (7, vI j12), (8, vI j18), (9, vI s4.2.2)] ∧ M (Old w0) w0 w []) ?_ ?_
     ·skip
      refine Zv hE rfl ?_ ?_
      ·intro hb21
       have hl19 := ZA hl19 hb21
       refine wp_region_lit (Zd hE Za ld rfl fun a hE => Zd hE Za ld rfl fun a hE => Zh hE Za ld rfl rfl rfl fun a hE => Ze hE Za ld rfl fun a hE => Zi ?_)
       have ht22 := Option.some.inj hl19
       subst ht22
       refine Zl ?_
       exact ⟨hE.sub ⟨rfl, rfl, rfl, rfl, trivial⟩, hM⟩
      ·intro hb21
       have hl19 := ZB hl19 hb21
       refine wp_skip ?_
       have ht23 := Option.some.inj hl19
       subst ht23
       refine Zl ?_
       exact ⟨hE.sub ⟨rfl, rfl, rfl, rfl, trivial⟩, hM⟩
     ·skip
      rintro a w ⟨hE, hM⟩
      refine Ye ?_
      have ht24 := Option.some.inj hF20
      subst ht24
      refine Zl ?_
      exact ⟨hE.sub ⟨rfl, rfl, rfl, rfl, trivial⟩, hM⟩
   ·skip
    rintro a w ⟨hE, hM⟩
    refine wp_region_lit (Zd hE Za ld rfl fun a hE => Zh hE Za ld rfl rfl (B3 _ _ (by decide)) fun a hE => Ze hE Za ld rfl fun a hE => Zi (Zl ?_))
    exact ⟨_, (Option.some.inj hF11).symm, hE.sub ⟨rfl, rfl, rfl, rfl, trivial⟩, hM⟩
  ·intro hb8
   have hs5 := ZB hs5 hb8
   refine wp_exit (Zp (Zp (Yc ?_)))
   have ht25 := hx6 _ (Option.some.inj hs5).symm
   subst ht25
   refine Zl ?_
   exact ⟨hE.sub ⟨rfl, trivial⟩, hM⟩
 ·skip
  rintro a w ⟨hE, hM⟩
  refine Zz (Zc (Zd hE Za ld rfl fun a hE => Yj hE Za ld rfl Tryz.underlying2 Tryz.underlying5 ?_)); intro a hE
  rw [ZW] at hE
  refine Ze hE Za ld rfl fun a hE => Zf ?_
  have hr := Option.some.inj hF3
  subst hr
  exact wp_ret (Zy hE rfl (Zu hE rfl) ⟨_, rfl, rfl, hM.kept⟩)
noncomputable def VB (p0 : Int) (s16 : UInt8 × UInt8 × Int) : Option (Fl (UInt8 × UInt8 × Int) UInt8) :=
 if (decide (s16.2.2 > 0)) = true then (((if ((Int.tmod s16.2.2 2) == 1) = true then ((YH p0 s16.1 s16.2.1).bind fun r28 => some r28) else (some s16.1) : Option (UInt8)).bind fun j24 => (YH p0 s16.2.1 s16.2.1).bind fun r32 => some (j24, r32) : Option (UInt8 × UInt8)).bind fun j21 => some (Fl.nx (j21.1, j21.2, wr (Int.tdiv s16.2.2 2)))) else (some (Fl.ex s16.1))
noncomputable def VF (p0 : Int) (p1 : Int) (s8 : (Vector UInt8 256) × Int) : Option (Fl ((Vector UInt8 256) × Int) (Vector UInt8 256)) :=
 if (decide (s8.2 < 256)) = true then ((ZG (VB p0) (1, Zr s8.2, p1) : Option (UInt8)).bind fun j13 => (ZM s8.1 s8.2).bind fun x37 => some (Fl.nx ((s8.1.setIfInBounds (s8.2).toNat j13), wr (s8.2 + 1)))) else (some (Fl.ex s8.1))
noncomputable def Ub (p0 : Int) (p1 : Int) : Option ((Vector UInt8 256)) :=
 (ZG (VF p0 p1) ((Vector.replicate 256 (0 : UInt8)), 0) : Option ((Vector UInt8 256))).bind fun j5 => some j5
theorem HP (w0 : World) (p0 : Int) (p1 : Int) (r : (Vector UInt8 256)) (hF : Ub p0 p1 = some r) :
  Calls Tryz.prog 192 [vI p0, vI p1].toArray w0 (fun en w' => ∃ v, en = .returned v ∧ (v = (Value.agg (enc r).toArray) ∧ Kept (Old w0) w0 w')) := by
 refine ZD (n := 37) Tryz.func192 rfl rfl (Nat.le_of_ble_eq_true rfl) rfl ?_
 intro a hE
 have hM := M.start w0
 unfold Ub at hF
 refine Zc (ZI hE hM Za ld Xt fun b1 w a hM hE => Zf (Zc (XG (parts := []) (vs := []) (cs := enc (Vector.replicate 256 (0 : UInt8))) hE Za ld rfl rfl Xt rfl ty5 Y0 fun a hE => ZI hE hM Za ld Xt fun b3 w a hM hE => Zt (seg := enc (Vector.replicate 256 (0 : UInt8))) (cs' := enc (Vector.replicate 256 (0 : UInt8))) hE hM Za rfl rfl rfl Xt (Flat.len _) (zle flq) (Flat.cell _) (Zo flq) fun w a hM hE => Zf (wp_seq (Zc (Ze hE Za ld rfl fun a hE => Zf ?_))))))
 obtain ⟨j5, hl6, hF7⟩ := bind_some hF
 refine ZR (fun a w => Env 37 a [(4, (ptr b1 0)), (5, (ptr b3 0))] ∧ M (Old w0) w0 w [raw b3 (enc j5), raw b1 (enc (Vector.replicate 256 (0 : UInt8)))]) ?_ ?_
 ·skip
  refine wp_block ?_
  refine ZK (fun (s8 : (Vector UInt8 256) × Int) a w => Env 37 a [(0, vI p0), (1, vI p1), (4, (ptr b1 0)), (5, (ptr b3 0)), (6, vI s8.2)] ∧ M (Old w0) w0 w [raw b3 (enc s8.1), raw b1 (enc (Vector.replicate 256 (0 : UInt8)))]) hl6 ⟨hE.sub ⟨rfl, rfl, rfl, rfl, rfl, trivial⟩, hM⟩ ?_
  rintro s8 a w ⟨hE, hM⟩ o11 hs9 hx10
  unfold VF at hs9
  refine wp_seq (Zc (Zd hE Za ld rfl fun a hE => Zh hE Za ld rfl rfl rfl fun a hE => Zf ?_))
  refine Zv hE rfl ?_ ?_
  ·intro hb12
   have hs9 := ZA hs9 hb12
   refine wp_skip (Zz (wp_seq (wp_block (Zc (Zd hE Za ld rfl fun a hE => Yj hE Za ld rfl Tryz.underlying3 Tryz.underlying5 ?_))))); intro a hE
   rw [ZW] at hE
   refine Ze hE Za ld rfl fun a hE => Ze hE Za ld rfl fun a hE => Zf (wp_seq (Zc (Zd hE Za ld rfl fun a hE => Ze hE Za ld rfl fun a hE => Zf ?_)))
   obtain ⟨j13, hl14, hF15⟩ := bind_some hs9
   refine ZR (fun a w => Env 37 a [(0, vI p0), (1, vI p1), (4, (ptr b1 0)), (5, (ptr b3 0)), (6, vI s8.2), (7, vB j13)] ∧ M (Old w0) w0 w [raw b3 (enc s8.1), raw b1 (enc (Vector.replicate 256 (0 : UInt8)))]) ?_ ?_
   ·skip
    refine wp_block ?_
    refine ZK (fun (s16 : UInt8 × UInt8 × Int) a w => Env 37 a [(0, vI p0), (1, vI p1), (4, (ptr b1 0)), (5, (ptr b3 0)), (6, vI s8.2), (7, vB s16.1), (8, vB s16.2.1), (9, vI s16.2.2)] ∧ M (Old w0) w0 w [raw b3 (enc s8.1), raw b1 (enc (Vector.replicate 256 (0 : UInt8)))]) hl14 ⟨hE.sub ⟨rfl, rfl, rfl, rfl, rfl, rfl, rfl, rfl, trivial⟩, hM⟩ ?_
    rintro s16 a w ⟨hE, hM⟩ o19 hs17 hx18
    unfold VB at hs17
    refine wp_seq (Zc (Zd hE Za ld rfl fun a hE => Zh hE Za ld rfl rfl rfl fun a hE => Zf ?_))
    refine Zv hE rfl ?_ ?_
    ·intro hb20
     have hs17 := ZA hs17 hb20
     refine wp_skip (Zz ?_)
     obtain ⟨j21, hl22, hF23⟩ := bind_some hs17
     refine ZU (fun a w => Env 37 a [(0, vI p0), (1, vI p1), (4, (ptr b1 0)), (5, (ptr b3 0)), (6, vI s8.2), (7, vB j21.1), (8, vB j21.2), (9, vI s16.2.2)] ∧ M (Old w0) w0 w [raw b3 (enc s8.1), raw b1 (enc (Vector.replicate 256 (0 : UInt8)))]) ?_ ?_
     ·skip
      refine wp_block ?_
      obtain ⟨j24, hl25, hF26⟩ := bind_some hl22
      refine ZU (fun a w => Env 37 a [(0, vI p0), (1, vI p1), (4, (ptr b1 0)), (5, (ptr b3 0)), (6, vI s8.2), (7, vB j24), (8, vB s16.2.1), (9, vI s16.2.2)] ∧ M (Old w0) w0 w [raw b3 (enc s8.1), raw b1 (enc (Vector.replicate 256 (0 : UInt8)))]) ?_ ?_
      ·skip
       refine Zc (Zd hE Za ld rfl fun a hE => Zh hE Za ld rfl rfl (Qm _ _ (by decide)) fun a hE => Zh hE Za ld rfl rfl rfl fun a hE => Zf ?_)
       refine Zv hE rfl ?_ ?_
       ·intro hb27
        have hl25 := ZA hl25 hb27
        refine wp_region_lit (Zd hE Za ld rfl fun a hE => Zd hE Za ld rfl fun a hE => Zd hE Za ld rfl ?_); intro a hE
        obtain ⟨r28, e29, hl25⟩ := bind_some hl25
        refine Zs hE Za ld rfl zJ (Ug _ p0 s16.1 s16.2.1 r28 e29) ?_
        rintro v w a ⟨rfl, hK⟩ hE
        have hM := hM.keep hK
        refine Ze hE Za ld rfl fun a hE => Zi ?_
        have ht30 := Option.some.inj hl25
        subst ht30
        refine Zl ?_
        exact ⟨hE.sub ⟨rfl, rfl, rfl, rfl, rfl, rfl, rfl, rfl, trivial⟩, hM⟩
       ·intro hb27
        have hl25 := ZB hl25 hb27
        refine wp_skip ?_
        have ht31 := Option.some.inj hl25
        subst ht31
        refine Zl ?_
        exact ⟨hE.sub ⟨rfl, rfl, rfl, rfl, rfl, rfl, rfl, rfl, trivial⟩, hM⟩
      ·skip
       rintro a w ⟨hE, hM⟩
       refine wp_region_lit (Zd hE Za ld rfl fun a hE => Zd hE Za ld rfl fun a hE => Zd hE Za ld rfl ?_); intro a hE
       obtain ⟨r32, e33, hF26⟩ := bind_some hF26
       refine Zs hE Za ld rfl zJ (Ug _ p0 s16.2.1 s16.2.1 r32 e33) ?_
       rintro v w a ⟨rfl, hK⟩ hE
       have hM := hM.keep hK
       refine Ze hE Za ld rfl fun a hE => Zi (Ye ?_)
       have ht34 := Option.some.inj hF26
       subst ht34
       refine Zl ?_
       exact ⟨hE.sub ⟨rfl, rfl, rfl, rfl, rfl, rfl, rfl, rfl, trivial⟩, hM⟩
     ·skip
      rintro a w ⟨hE, hM⟩
      refine wp_region_lit (Zd hE Za ld rfl fun a hE => Zh hE Za ld rfl rfl (B3 _ _ (by decide)) fun a hE => Ze hE Za ld rfl fun a hE => Zi (Zl ?_))
      exact ⟨_, (Option.some.inj hF23).symm, hE.sub ⟨rfl, rfl, rfl, rfl, rfl, rfl, rfl, rfl, trivial⟩, hM⟩
    ·intro hb20
     have hs17 := ZB hs17 hb20
     refine wp_exit (Zp (Zp (Yc ?_)))
     have ht35 := hx18 _ (Option.some.inj hs17).symm
     subst ht35
     refine Zl ?_
     exact ⟨hE.sub ⟨rfl, rfl, rfl, rfl, rfl, rfl, trivial⟩, hM⟩
   ·skip
    rintro a w ⟨hE, hM⟩
    refine Zz (wp_region_lit (Zd hE Za ld rfl fun a hE => Zd hE Za ld rfl ?_)); intro a hE
    obtain ⟨x37, e38, hF15⟩ := bind_some hF15
    have hi36 := Zj e38
    refine Zn hE Za ld rfl rfl Tryz.underlying167 ty5 hi36.1 fun a hE => Zt (seg := [vB j13]) (cs' := enc (s8.1.setIfInBounds (s8.2).toNat j13)) hE hM Za rfl rfl rfl ty5 rfl (ZQ (v := s8.1) (x := j13) hi36.1) (Flat.cell (j13 : UInt8)) (ZJ (v := s8.1) (x := j13) hi36.1) fun w a hM hE => Zi (Ye (Zz (wp_region_lit (Zd hE Za ld rfl fun a hE => Zh hE Za ld rfl rfl rfl fun a hE => Ze hE Za ld rfl fun a hE => Zi (Zl ?_)))))
    exact ⟨_, (Option.some.inj hF15).symm, hE.sub ⟨rfl, rfl, rfl, rfl, rfl, trivial⟩, hM⟩
  ·intro hb12
   have hs9 := ZB hs9 hb12
   refine wp_exit (Zp (Zp (Yc ?_)))
   have ht39 := hx10 _ (Option.some.inj hs9).symm
   subst ht39
   refine Zl ?_
   exact ⟨hE.sub ⟨rfl, rfl, trivial⟩, hM⟩
 ·skip
  rintro a w ⟨hE, hM⟩
  refine Zz (Zc (Zm (cs := enc j5) hE Za ld rfl Xt rfl (hM.rawAt (pre := [])) (Flat.len _) ?_)); intro a hE
  have hM := hM.pull (pre := [_])
  refine Zt (seg := enc j5) (cs' := enc j5) hE hM Za rfl rfl rfl Xt (Flat.len _) (zle flq) (Flat.cell _) (Zo flq) fun w a hM hE => Zf ?_
  have hr := Option.some.inj hF7
  subst hr
  have hq40 : YB Tryz.prog _ _ (.cell 4 167) _ := ZZ hE rfl Xt rfl (hM.rawAt (pre := [])) (Flat.len _) rfl
  have hM := M.fst (l := []) hM
  exact wp_ret (Zy hE rfl hq40 ⟨_, rfl, rfl, hM.kept⟩)
noncomputable def XP (p0 : UInt8) (p1 : Int) : Option (UInt8) :=
 (XJ (IntKind.u64.wrap p1)).bind fun _ => some (Zr (Qg (orI (Ai (bI p0) (IntKind.u64.wrap p1)) (Wd (Ai (bI p0) (IntKind.u64.wrap p1)) 8)) 255))
theorem Bv (w0 : World) (p0 : UInt8) (p1 : Int) (r : UInt8) (hF : XP p0 p1 = some r) :
  Calls Tryz.prog 225 [vB p0, vI p1].toArray w0 (fun en w' => ∃ v, en = .returned v ∧ (v = (vB r) ∧ Kept (Old w0) w0 w')) := by
 refine ZD (n := 17) Tryz.func225 rfl rfl (Nat.le_of_ble_eq_true rfl) rfl ?_
 intro a hE
 have hM := M.start w0
 unfold XP at hF
 refine Zc (Ze hE Za ld rfl fun a hE => Zf (Zc (Zd hE Za ld rfl fun a hE => Yj hE Za ld rfl Tryz.underlying5 Tryz.underlying2 ?_))); intro a hE
 rw [KD] at hE
 refine Zd hE Za ld rfl fun a hE => Yj hE Za ld rfl Tryz.underlying2 Tryz.underlying235 ?_; intro a hE
 obtain ⟨_, e1, hF⟩ := bind_some hF
 have e1 := Vd e1
 refine Ju hE Za ld rfl rfl (y4 _ _ e1) fun a hE => Ze hE Za ld rfl fun a hE => Zf (Zc (Zd hE Za ld rfl fun a hE => Zd hE Za ld rfl fun a hE => Ju hE Za ld rfl rfl (Kp _ _ (by decide)) fun a hE => Zh hE Za ld rfl rfl rfl fun a hE => Zh hE Za ld rfl rfl rfl ?_)); intro a hE
 refine Yj hE Za ld rfl Tryz.underlying2 Tryz.underlying5 ?_; intro a hE
 rw [ZW] at hE
 refine Ze hE Za ld rfl fun a hE => Zf ?_
 have hr := Option.some.inj hF
 subst hr
 exact wp_ret (Zy hE rfl (Zu hE rfl) ⟨_, rfl, rfl, hM.kept⟩)
noncomputable def Yf (p0 : (List Int)) (s8 : (Vector UInt8 256) × Int) (s16 : UInt8 × Int) : Option (Fl (UInt8 × Int) UInt8) :=
 if (decide (s16.2 < (p0.length : Int))) = true then ((idx p0 s16.2).bind fun x21 => (XP (Zr s8.2) x21).bind fun r24 => some (Fl.nx (s16.1 ^^^ r24, wr (s16.2 + 1)))) else (some (Fl.ex s16.1))
noncomputable def XU (p0 : (List Int)) (p1 : UInt8) (s8 : (Vector UInt8 256) × Int) : Option (Fl ((Vector UInt8 256) × Int) (Vector UInt8 256)) :=
 if (decide (s8.2 < 256)) = true then ((ZG (Yf p0 s8) (p1, 0) : Option (UInt8)).bind fun j13 => (ZM s8.1 s8.2).bind fun x28 => some (Fl.nx ((s8.1.setIfInBounds (s8.2).toNat j13), wr (s8.2 + 1)))) else (some (Fl.ex s8.1))
noncomputable def Wh (p0 : (List Int)) (p1 : UInt8) : Option ((Vector UInt8 256)) :=
 (ZG (XU p0 p1) ((Vector.replicate 256 (0 : UInt8)), 0) : Option ((Vector UInt8 256))).bind fun j5 => some j5
theorem KP (w0 : World) (p0 : (List Int)) (v0_1 : Value) (hv0_1 : Ro w0 p0 [v0_1]) (p1 : UInt8) (r : (Vector UInt8 256)) (hF : Wh p0 p1 = some r) :
  Calls Tryz.prog 193 [v0_1, vB p1].toArray w0 (fun en w' => ∃ v, en = .returned v ∧ (v = (Value.agg (enc r).toArray) ∧ Kept (Old w0) w0 w')) := by
 refine ZD (n := 34) Tryz.func193 rfl rfl (Nat.le_of_ble_eq_true rfl) rfl ?_
 intro a hE
 have hM := M.start w0
 unfold Wh at hF
 refine Zc (ZI hE hM Za ld Xt fun b1 w a hM hE => Zf (Zc (XG (parts := []) (vs := []) (cs := enc (Vector.replicate 256 (0 : UInt8))) hE Za ld rfl rfl Xt rfl ty5 Y0 fun a hE => ZI hE hM Za ld Xt fun b3 w a hM hE => Zt (seg := enc (Vector.replicate 256 (0 : UInt8))) (cs' := enc (Vector.replicate 256 (0 : UInt8))) hE hM Za rfl rfl rfl Xt (Flat.len _) (zle flq) (Flat.cell _) (Zo flq) fun w a hM hE => Zf (wp_seq (Zc (Ze hE Za ld rfl fun a hE => Zf ?_))))))
 obtain ⟨j5, hl6, hF7⟩ := bind_some hF
 refine ZR (fun a w => Env 34 a [(4, (ptr b1 0)), (5, (ptr b3 0))] ∧ M (Old w0) w0 w [raw b3 (enc j5), raw b1 (enc (Vector.replicate 256 (0 : UInt8)))]) ?_ ?_
 ·skip
  refine wp_block ?_
  refine ZK (fun (s8 : (Vector UInt8 256) × Int) a w => Env 34 a [(0, v0_1), (1, vB p1), (4, (ptr b1 0)), (5, (ptr b3 0)), (6, vI s8.2)] ∧ M (Old w0) w0 w [raw b3 (enc s8.1), raw b1 (enc (Vector.replicate 256 (0 : UInt8)))]) hl6 ⟨hE.sub ⟨rfl, rfl, rfl, rfl, rfl, trivial⟩, hM⟩ ?_
  rintro s8 a w ⟨hE, hM⟩ o11 hs9 hx10
  unfold XU at hs9
  refine wp_seq (Zc (Zd hE Za ld rfl fun a hE => Zh hE Za ld rfl rfl rfl fun a hE => Zf ?_))
  refine Zv hE rfl ?_ ?_
  ·intro hb12
   have hs9 := ZA hs9 hb12
   refine wp_skip (Zz (wp_seq (wp_block (Zc (Zd hE Za ld rfl fun a hE => Ze hE Za ld rfl fun a hE => Zf (wp_seq (Zc (Ze hE Za ld rfl fun a hE => Zf ?_))))))))
   obtain ⟨j13, hl14, hF15⟩ := bind_some hs9
   refine ZR (fun a w => Env 34 a [(0, v0_1), (1, vB p1), (4, (ptr b1 0)), (5, (ptr b3 0)), (6, vI s8.2), (7, vB j13)] ∧ M (Old w0) w0 w [raw b3 (enc s8.1), raw b1 (enc (Vector.replicate 256 (0 : UInt8)))]) ?_ ?_
   ·skip
    refine wp_block ?_
    refine ZK (fun (s16 : UInt8 × Int) a w => Env 34 a [(0, v0_1), (1, vB p1), (4, (ptr b1 0)), (5, (ptr b3 0)), (6, vI s8.2), (7, vB s16.1), (8, vI s16.2)] ∧ M (Old w0) w0 w [raw b3 (enc s8.1), raw b1 (enc (Vector.replicate 256 (0 : UInt8)))]) hl14 ⟨hE.sub ⟨rfl, rfl, rfl, rfl, rfl, rfl, rfl, trivial⟩, hM⟩ ?_
    rintro s16 a w ⟨hE, hM⟩ o19 hs17 hx18
    unfold Yf at hs17
    refine wp_seq (Zc (Zd hE Za ld rfl fun a hE => Zd hE Za ld rfl fun a hE => Z6 hE Za ld rfl Tryz.underlying43 (hM.rd hv0_1) fun a hE => Zh hE Za ld rfl rfl rfl fun a hE => Zf ?_))
    refine Zv hE rfl ?_ ?_
    ·intro hb20
     have hs17 := ZA hs17 hb20
     refine wp_skip (Zz (wp_seq (wp_block (wp_region_lit (Zd hE Za ld rfl fun a hE => Zd hE Za ld rfl fun a hE => Yj hE Za ld rfl Tryz.underlying3 Tryz.underlying5 ?_))))); intro a hE
     rw [ZW] at hE
     refine Zd hE Za ld rfl fun a hE => Zd hE Za ld rfl ?_; intro a hE
     obtain ⟨x21, e22, hs17⟩ := bind_some hs17
     have hi23 := ZO e22
     refine ZN hE Za ld rfl rfl Tryz.underlying43 ty2 (hM.rd hv0_1) hi23.1 fun a hE => Zq (v := (vI x21)) hE Za ld rfl ty2 rfl (Xa (hM.rd hv0_1) hi23.2) ?_; intro a hE
     obtain ⟨r24, e25, hs17⟩ := bind_some hs17
     refine Zs hE Za ld rfl cb225 (Bv _ (Zr s8.2) x21 r24 e25) ?_
     rintro v w a ⟨rfl, hK⟩ hE
     have hM := hM.keep hK
     refine Zh hE Za ld rfl rfl (WJ s16.1 r24) fun a hE => Ze hE Za ld rfl fun a hE => Zi (Ye (Zz (wp_region_lit (Zd hE Za ld rfl fun a hE => Zh hE Za ld rfl rfl rfl fun a hE => Ze hE Za ld rfl fun a hE => Zi (Zl ?_)))))
     exact ⟨_, (Option.some.inj hs17).symm, hE.sub ⟨rfl, rfl, rfl, rfl, rfl, rfl, rfl, trivial⟩, hM⟩
    ·intro hb20
     have hs17 := ZB hs17 hb20
     refine wp_exit (Zp (Zp (Yc ?_)))
     have ht26 := hx18 _ (Option.some.inj hs17).symm
     subst ht26
     refine Zl ?_
     exact ⟨hE.sub ⟨rfl, rfl, rfl, rfl, rfl, rfl, trivial⟩, hM⟩
   ·skip
    rintro a w ⟨hE, hM⟩
    refine Zz (wp_region_lit (Zd hE Za ld rfl fun a hE => Zd hE Za ld rfl ?_)); intro a hE
    obtain ⟨x28, e29, hF15⟩ := bind_some hF15
    have hi27 := Zj e29
    refine Zn hE Za ld rfl rfl Tryz.underlying167 ty5 hi27.1 fun a hE => Zt (seg := [vB j13]) (cs' := enc (s8.1.setIfInBounds (s8.2).toNat j13)) hE hM Za rfl rfl rfl ty5 rfl (ZQ (v := s8.1) (x := j13) hi27.1) (Flat.cell (j13 : UInt8)) (ZJ (v := s8.1) (x := j13) hi27.1) fun w a hM hE => Zi (Ye (Zz (wp_region_lit (Zd hE Za ld rfl fun a hE => Zh hE Za ld rfl rfl rfl fun a hE => Ze hE Za ld rfl fun a hE => Zi (Zl ?_)))))
    exact ⟨_, (Option.some.inj hF15).symm, hE.sub ⟨rfl, rfl, rfl, rfl, rfl, trivial⟩, hM⟩
  ·intro hb12
   have hs9 := ZB hs9 hb12
   refine wp_exit (Zp (Zp (Yc ?_)))
   have ht30 := hx10 _ (Option.some.inj hs9).symm
   subst ht30
   refine Zl ?_
   exact ⟨hE.sub ⟨rfl, rfl, trivial⟩, hM⟩
 ·skip
  rintro a w ⟨hE, hM⟩
  refine Zz (Zc (Zm (cs := enc j5) hE Za ld rfl Xt rfl (hM.rawAt (pre := [])) (Flat.len _) ?_)); intro a hE
  have hM := hM.pull (pre := [_])
  refine Zt (seg := enc j5) (cs' := enc j5) hE hM Za rfl rfl rfl Xt (Flat.len _) (zle flq) (Flat.cell _) (Zo flq) fun w a hM hE => Zf ?_
  have hr := Option.some.inj hF7
  subst hr
  have hq31 : YB Tryz.prog _ _ (.cell 4 167) _ := ZZ hE rfl Xt rfl (hM.rawAt (pre := [])) (Flat.len _) rfl
  have hM := M.fst (l := []) hM
  exact wp_ret (Zy hE rfl hq31 ⟨_, rfl, rfl, hM.kept⟩)
noncomputable def Uc (p0 : (Vector UInt8 256)) (p1 : (Vector UInt8 256)) (s12 : (Vector UInt8 256) × Int) : Option (Fl ((Vector UInt8 256) × Int) (Vector UInt8 256)) :=
 if (decide (s12.2 < 256)) = true then ((ZM p0 s12.2).bind fun x18 => (ZM p1 (bI x18)).bind fun x21 => (ZM s12.1 s12.2).bind fun x24 => some (Fl.nx ((s12.1.setIfInBounds (s12.2).toNat x21), wr (s12.2 + 1)))) else (some (Fl.ex s12.1))
noncomputable def UN (p0 : (Vector UInt8 256)) (p1 : (Vector UInt8 256)) : Option ((Vector UInt8 256)) :=
 (ZG (Uc p0 p1) ((Vector.replicate 256 (0 : UInt8)), 0) : Option ((Vector UInt8 256))).bind fun j9 => some j9
theorem Bm (w0 : World) (p0 : (Vector UInt8 256)) (p1 : (Vector UInt8 256)) (r : (Vector UInt8 256)) (hF : UN p0 p1 = some r) :
  Calls Tryz.prog 191 [(Value.agg (enc p0).toArray), (Value.agg (enc p1).toArray)].toArray w0 (fun en w' => ∃ v, en = .returned v ∧ (v = (Value.agg (enc r).toArray) ∧ Kept (Old w0) w0 w')) := by
 refine ZD (n := 20) Tryz.func191 rfl rfl (Nat.le_of_ble_eq_true rfl) rfl ?_
 intro a hE
 have hM := M.start w0
 unfold UN at hF
 refine Zc (ZX (cs := enc p0) hE hM Za ld rfl rfl fun b1 w a hM hE => ZX (cs := enc p1) hE hM Za ld rfl rfl fun b3 w a hM hE => ZI hE hM Za ld Xt fun b5 w a hM hE => Zf (Zc (XG (parts := []) (vs := []) (cs := enc (Vector.replicate 256 (0 : UInt8))) hE Za ld rfl rfl Xt rfl ty5 Y0 fun a hE => ZI hE hM Za ld Xt fun b7 w a hM hE => Zt (seg := enc (Vector.replicate 256 (0 : UInt8))) (cs' := enc (Vector.replicate 256 (0 : UInt8))) hE hM Za rfl rfl rfl Xt (Flat.len _) (zle flq) (Flat.cell _) (Zo flq) fun w a hM hE => Zf (wp_seq (Zc (Ze hE Za ld rfl ?_)))))); intro a hE
 refine Zf ?_
 obtain ⟨j9, hl10, hF11⟩ := bind_some hF
 refine ZR (fun a w => Env 20 a [(4, (ptr b5 0)), (5, (ptr b7 0))] ∧ M (Old w0) w0 w [raw b7 (enc j9), raw b5 (enc (Vector.replicate 256 (0 : UInt8)))]) ?_ ?_
 ·skip
  refine wp_block ?_
  refine ZK (fun (s12 : (Vector UInt8 256) × Int) a w => Env 20 a [(2, (ptr b1 0)), (3, (ptr b3 0)), (4, (ptr b5 0)), (5, (ptr b7 0)), (6, vI s12.2)] ∧ M (Old w0) w0 w [raw b7 (enc s12.1), raw b5 (enc (Vector.replicate 256 (0 : UInt8))), raw b3 (enc p1), raw b1 (enc p0)]) hl10 ⟨hE.sub ⟨rfl, rfl, rfl, rfl, rfl, trivial⟩, hM⟩ ?_
  rintro s12 a w ⟨hE, hM⟩ o15 hs13 hx14
  unfold Uc at hs13
  refine wp_seq (Zc (Zd hE Za ld rfl fun a hE => Zh hE Za ld rfl rfl rfl fun a hE => Zf ?_))
  refine Zv hE rfl ?_ ?_
  ·intro hb16
   have hs13 := ZA hs13 hb16
   refine wp_skip (Zz (wp_seq (wp_block (wp_region_lit (Zd hE Za ld rfl fun a hE => Zd hE Za ld rfl ?_))))); intro a hE
   obtain ⟨x18, e19, hs13⟩ := bind_some hs13
   have hi17 := Zj e19
   refine Zn hE Za ld rfl rfl Tryz.underlying167 ty5 hi17.1 fun a hE => Zq (v := (vB x18)) hE Za ld rfl ty5 rfl (At.vec (hM.rawAt (pre := [_, _, _])) hi17.2) ?_; intro a hE
   obtain ⟨x21, e22, hs13⟩ := bind_some hs13
   have hi20 := Zj e22
   refine Zn hE Za ld rfl rfl Tryz.underlying167 ty5 hi20.1 fun a hE => Zq (v := (vB x21)) hE Za ld rfl ty5 rfl (At.vec (hM.rawAt (pre := [_, _])) hi20.2) ?_; intro a hE
   obtain ⟨x24, e25, hs13⟩ := bind_some hs13
   have hi23 := Zj e25
   refine Zn hE Za ld rfl rfl Tryz.underlying167 ty5 hi23.1 fun a hE => Zt (seg := [vB x21]) (cs' := enc (s12.1.setIfInBounds (s12.2).toNat x21)) hE hM Za rfl rfl rfl ty5 rfl (ZQ (v := s12.1) (x := x21) hi23.1) (Flat.cell (x21 : UInt8)) (ZJ (v := s12.1) (x := x21) hi23.1) fun w a hM hE => Zi (Ye (Zz (wp_region_lit (Zd hE Za ld rfl fun a hE => Zh hE Za ld rfl rfl rfl fun a hE => Ze hE Za ld rfl fun a hE => Zi (Zl ?_)))))
   exact ⟨_, (Option.some.inj hs13).symm, hE.sub ⟨rfl, rfl, rfl, rfl, rfl, trivial⟩, hM⟩
  ·intro hb16
   have hs13 := ZB hs13 hb16
   refine wp_exit (Zp (Zp (Yc ?_)))
   have ht26 := hx14 _ (Option.some.inj hs13).symm
   subst ht26
   refine Zl ?_
   have hM := hM.pull (pre := [_])
   have hM := hM.pull (pre := [_])
   have hM := M.fst (l := [_, _]) hM
   exact ⟨hE.sub ⟨rfl, rfl, trivial⟩, hM⟩
 ·skip
  rintro a w ⟨hE, hM⟩
  refine Zz (Zc (Zm (cs := enc j9) hE Za ld rfl Xt rfl (hM.rawAt (pre := [])) (Flat.len _) ?_)); intro a hE
  have hM := hM.pull (pre := [_])
  refine Zt (seg := enc j9) (cs' := enc j9) hE hM Za rfl rfl rfl Xt (Flat.len _) (zle flq) (Flat.cell _) (Zo flq) fun w a hM hE => Zf ?_
  have hr := Option.some.inj hF11
  subst hr
  have hq27 : YB Tryz.prog _ _ (.cell 4 167) _ := ZZ hE rfl Xt rfl (hM.rawAt (pre := [])) (Flat.len _) rfl
  have hM := M.fst (l := []) hM
  exact wp_ret (Zy hE rfl hq27 ⟨_, rfl, rfl, hM.kept⟩)
noncomputable def U3 (p0 : Int) (s4 : UInt8 × Int × UInt8) : Option (Fl (UInt8 × Int × UInt8) UInt8) :=
 if (decide (s4.2.1 > 0)) = true then (((if ((Int.tmod s4.2.1 2) == 1) = true then ((YH p0 s4.2.2 s4.1).bind fun r16 => some r16) else (some s4.2.2) : Option (UInt8)).bind fun j12 => (YH p0 s4.1 s4.1).bind fun r20 => some (r20, j12) : Option (UInt8 × UInt8)).bind fun j9 => some (Fl.nx (j9.1, wr (Int.tdiv s4.2.1 2), j9.2))) else (some (Fl.ex s4.2.2))
noncomputable def WY (p0 : Int) (p1 : UInt8) (p2 : Int) : Option (UInt8) :=
 (ZG (U3 p0) (p1, p2, 1) : Option (UInt8)).bind fun j1 => some j1
theorem H0 (w0 : World) (p0 : Int) (p1 : UInt8) (p2 : Int) (r : UInt8) (hF : WY p0 p1 p2 = some r) :
  Calls Tryz.prog 226 [vI p0, vB p1, vI p2].toArray w0 (fun en w' => ∃ v, en = .returned v ∧ (v = (vB r) ∧ Kept (Old w0) w0 w')) := by
 refine ZD (n := 24) Tryz.func226 rfl rfl (Nat.le_of_ble_eq_true rfl) rfl ?_
 intro a hE
 have hM := M.start w0
 unfold WY at hF
 refine Zc (Ze hE Za ld rfl fun a hE => Zf (Zc (Ze hE Za ld rfl fun a hE => Zf ?_)))
 obtain ⟨j1, hl2, hF3⟩ := bind_some hF
 refine ZU (fun a w => Env 24 a [(7, vB j1)] ∧ M (Old w0) w0 w []) ?_ ?_
 ·skip
  refine wp_block ?_
  refine ZK (fun (s4 : UInt8 × Int × UInt8) a w => Env 24 a [(0, vI p0), (1, vB s4.1), (2, vI s4.2.1), (7, vB s4.2.2)] ∧ M (Old w0) w0 w []) hl2 ⟨hE.sub ⟨rfl, rfl, rfl, rfl, trivial⟩, hM⟩ ?_
  rintro s4 a w ⟨hE, hM⟩ o7 hs5 hx6
  unfold U3 at hs5
  refine wp_seq (Zc (Zd hE Za ld rfl fun a hE => Zh hE Za ld rfl rfl rfl fun a hE => Zf ?_))
  refine Zv hE rfl ?_ ?_
  ·intro hb8
   have hs5 := ZA hs5 hb8
   refine wp_skip (Zz ?_)
   obtain ⟨j9, hl10, hF11⟩ := bind_some hs5
   refine ZU (fun a w => Env 24 a [(0, vI p0), (1, vB j9.1), (2, vI s4.2.1), (7, vB j9.2)] ∧ M (Old w0) w0 w []) ?_ ?_
   ·skip
    refine wp_block ?_
    obtain ⟨j12, hl13, hF14⟩ := bind_some hl10
    refine ZU (fun a w => Env 24 a [(0, vI p0), (1, vB s4.1), (2, vI s4.2.1), (7, vB j12)] ∧ M (Old w0) w0 w []) ?_ ?_
    ·skip
     refine Zc (Zd hE Za ld rfl fun a hE => Zh hE Za ld rfl rfl (Qm _ _ (by decide)) fun a hE => Zh hE Za ld rfl rfl rfl fun a hE => Zf ?_)
     refine Zv hE rfl ?_ ?_
     ·intro hb15
      have hl13 := ZA hl13 hb15
      refine wp_region_lit (Zd hE Za ld rfl fun a hE => Zd hE Za ld rfl fun a hE => Zd hE Za ld rfl ?_); intro a hE
      obtain ⟨r16, e17, hl13⟩ := bind_some hl13
      refine Zs hE Za ld rfl zJ (Ug _ p0 s4.2.2 s4.1 r16 e17) ?_
      rintro v w a ⟨rfl, hK⟩ hE
      have hM := hM.keep hK
      refine Ze hE Za ld rfl fun a hE => Zi ?_
      have ht18 := Option.some.inj hl13
      subst ht18
      refine Zl ?_
      exact ⟨hE.sub ⟨rfl, rfl, rfl, rfl, trivial⟩, hM⟩
     ·intro hb15
      have hl13 := ZB hl13 hb15
      refine wp_skip ?_
      have ht19 := Option.some.inj hl13
      subst ht19
      refine Zl ?_
      exact ⟨hE.sub ⟨rfl, rfl, rfl, rfl, trivial⟩, hM⟩
    ·skip
     rintro a w ⟨hE, hM⟩
     refine wp_region_lit (Zd hE Za ld rfl fun a hE => Zd hE Za ld rfl fun a hE => Zd hE Za ld rfl ?_); intro a hE
     obtain ⟨r20, e21, hF14⟩ := bind_some hF14
     refine Zs hE Za ld rfl zJ (Ug _ p0 s4.1 s4.1 r20 e21) ?_
     rintro v w a ⟨rfl, hK⟩ hE
     have hM := hM.keep hK
     refine Ze hE Za ld rfl fun a hE => Zi (Ye ?_)
     have ht22 := Option.some.inj hF14
     subst ht22
     refine Zl ?_
     exact ⟨hE.sub ⟨rfl, rfl, rfl, rfl, trivial⟩, hM⟩
   ·skip
    rintro a w ⟨hE, hM⟩
    refine wp_region_lit (Zd hE Za ld rfl fun a hE => Zh hE Za ld rfl rfl (B3 _ _ (by decide)) fun a hE => Ze hE Za ld rfl fun a hE => Zi (Zl ?_))
    exact ⟨_, (Option.some.inj hF11).symm, hE.sub ⟨rfl, rfl, rfl, rfl, trivial⟩, hM⟩
  ·intro hb8
   have hs5 := ZB hs5 hb8
   refine wp_exit (Zp (Zp (Yc ?_)))
   have ht23 := hx6 _ (Option.some.inj hs5).symm
   subst ht23
   refine Zl ?_
   exact ⟨hE.sub ⟨rfl, trivial⟩, hM⟩
 ·skip
  rintro a w ⟨hE, hM⟩
  refine Zc (Zd hE Za ld rfl fun a hE => Ze hE Za ld rfl fun a hE => Zf ?_)
  have hr := Option.some.inj hF3
  subst hr
  exact wp_ret (Zy hE rfl (Zu hE rfl) ⟨_, rfl, rfl, hM.kept⟩)
noncomputable def Vk (p0 : Int) (p1 : UInt8) : Option (UInt8) :=
 (WY p0 p1 254).bind fun r1 => some r1
theorem Ar (w0 : World) (p0 : Int) (p1 : UInt8) (r : UInt8) (hF : Vk p0 p1 = some r) :
  Calls Tryz.prog 194 [vI p0, vB p1].toArray w0 (fun en w' => ∃ v, en = .returned v ∧ (v = (vB r) ∧ Kept (Old w0) w0 w')) := by
 refine ZD (n := 8) Tryz.func194 rfl rfl (Nat.le_of_ble_eq_true rfl) rfl ?_
 intro a hE
 have hM := M.start w0
 unfold Vk at hF
 refine Zc (Ze hE Za ld rfl fun a hE => Zf (Zc (Zd hE Za ld rfl fun a hE => Zd hE Za ld rfl ?_))); intro a hE
 obtain ⟨r1, e2, hF⟩ := bind_some hF
 refine Zs hE Za ld rfl cb226 (H0 _ p0 p1 254 r1 e2) ?_
 rintro v w a ⟨rfl, hK⟩ hE
 have hM := hM.keep hK
 refine Ze hE Za ld rfl fun a hE => Zf ?_
 have hr := Option.some.inj hF
 subst hr
 exact wp_ret (Zy hE rfl (Zu hE rfl) ⟨_, rfl, rfl, hM.kept⟩)
noncomputable def UX (s16 : (Vector (Vector UInt8 4) 4) × Int) (s24 : (Vector (Vector UInt8 4) 4) × Int) : Option (Fl ((Vector (Vector UInt8 4) 4) × Int) (Vector (Vector UInt8 4) 4)) :=
 if (decide (s24.2 < 4)) = true then ((Vk 285 (Zr (Q2 s16.2 (wr (4 + s24.2))))).bind fun r30 => (ZM s24.1 s16.2).bind fun x33 => (ZM x33 s24.2).bind fun x36 => some (Fl.nx ((s24.1.setIfInBounds (s16.2).toNat (x33.setIfInBounds (s24.2).toNat r30)), wr (s24.2 + 1)))) else (some (Fl.ex s24.1))
noncomputable def Ta (s16 : (Vector (Vector UInt8 4) 4) × Int) : Option (Fl ((Vector (Vector UInt8 4) 4) × Int) (Vector (Vector UInt8 4) 4)) :=
 if (decide (s16.2 < 4)) = true then ((ZG (UX s16) (s16.1, 0) : Option ((Vector (Vector UInt8 4) 4))).bind fun j21 => some (Fl.nx (j21, wr (s16.2 + 1)))) else (some (Fl.ex s16.1))
noncomputable def U8 (s43 : (Vector UInt8 16) × Int) : Option (Fl ((Vector UInt8 16) × Int) (Vector UInt8 16)) :=
 if (decide (s43.2 < 16)) = true then ((ZM s43.1 s43.2).bind fun x49 => some (Fl.nx ((s43.1.setIfInBounds (s43.2).toNat (Zr (Int.tmod (wr ((wr (13 * s43.2)) + 4)) 16))), wr (s43.2 + 1)))) else (some (Fl.ex s43.1))
noncomputable def Uj (p0 : Int) : Option (GCipher) :=
 (Ub 285 254).bind fun r5 => (Wh ([0, 1, 4] : List Int) 90).bind fun r9 => (UN r5 r9).bind fun r11 => (ZG (Ta) ((Vector.replicate 4 (Vector.replicate 4 (0 : UInt8))), 0) : Option ((Vector (Vector UInt8 4) 4))).bind fun j13 => (ZG (U8) ((Vector.replicate 16 (0 : UInt8)), 0) : Option ((Vector UInt8 16))).bind fun j40 => some (⟨285, r11, j13, j40, p0⟩ : GCipher)
theorem HX (w0 : World) (p0 : Int) (r : GCipher) (hF : Uj p0 = some r) :
  Calls Tryz.prog 154 [vI p0].toArray w0 (fun en w' => ∃ v, en = .returned v ∧ (v = (Value.agg (enc r).toArray) ∧ Kept (Old w0) w0 w')) := by
 refine ZD (n := 46) Tryz.func154 rfl rfl (Nat.le_of_ble_eq_true rfl) rfl ?_
 intro a hE
 have hM := M.start w0
 unfold Uj at hF
 refine Zc (ZI hE hM Za ld Va fun b1 w a hM hE => Zf (Zc (Zd hE Za ld rfl fun a hE => Jd (parts := [(0, .const (vI 285)), (4, .tmp 7)]) (vs := [(0, vI 285), (4, vI p0)]) (cs := cat [[vI 285], enc (Vector.replicate 256 (0 : UInt8)), enc (Vector.replicate 4 (Vector.replicate 4 (0 : UInt8))), enc (Vector.replicate 16 (0 : UInt8)), [vI p0]]) hE Za ld rfl rfl Va pl173 (VH (pre := []) (seg := [vI 0]) (seg' := [vI 285]) (post := [enc (Vector.replicate 256 (0 : UInt8)), enc (Vector.replicate 4 (Vector.replicate 4 (0 : UInt8))), enc (Vector.replicate 16 (0 : UInt8)), [vI 0]]) rfl cl0 rfl rfl rfl (VH (pre := [[vI 285], enc (Vector.replicate 256 (0 : UInt8)), enc (Vector.replicate 4 (Vector.replicate 4 (0 : UInt8))), enc (Vector.replicate 16 (0 : UInt8))]) (seg := [vI 0]) (seg' := [vI p0]) (post := []) rfl (cl1 (n := 1) (m := 288) rfl (cl1 (n := 256) (m := 32) (Flat.len _) (cl1 (n := 16) (m := 16) (Flat.len _) (cl1 (n := 16) (m := 0) (Flat.len _) cl0)))) rfl rfl rfl B1)) fun a hE => ZI hE hM Za ld Va fun b3 w a hM hE => Zt (seg := cat [[vI 285], enc (Vector.replicate 256 (0 : UInt8)), enc (Vector.replicate 4 (Vector.replicate 4 (0 : UInt8))), enc (Vector.replicate 16 (0 : UInt8)), [vI p0]]) (cs' := cat [[vI 285], enc (Vector.replicate 256 (0 : UInt8)), enc (Vector.replicate 4 (Vector.replicate 4 (0 : UInt8))), enc (Vector.replicate 16 (0 : UInt8)), [vI p0]]) hE hM Za rfl rfl rfl Va (ZC (cl1 (n := 1) (m := 289) rfl (cl1 (n := 256) (m := 33) (Flat.len _) (cl1 (n := 16) (m := 17) (Flat.len _) (cl1 (n := 16) (m := 1) (Flat.len _) (cl1 (n := 1) (m := 0) rfl cl0)))))) (Nat.le_of_eq ((Nat.zero_add _).trans (Eq.trans (ZC (cl1 (n := 1) (m := 289) rfl (cl1 (n := 256) (m := 33) (Flat.len _) (cl1 (n := 16) (m := 17) (Flat.len _) (cl1 (n := 16) (m := 1) (Flat.len _) (cl1 (n := 1) (m := 0) rfl cl0)))))) (Eq.symm (ZC (cl1 (n := 1) (m := 289) rfl (cl1 (n := 256) (m := 33) (Flat.len _) (cl1 (n := 16) (m := 17) (Flat.len _) (cl1 (n := 16) (m := 1) (Flat.len _) (cl1 (n := 1) (m := 0) rfl cl0)))))))))) (WD (cc1 (Flat.cell (285 : Int)) (cc1 (Flat.cell _) (cc1 (Flat.cell _) (cc1 (Flat.cell _) (cc1 (Flat.cell (p0 : Int)) cc0)))))) (Zo (Eq.trans (ZC (cl1 (n := 1) (m := 289) rfl (cl1 (n := 256) (m := 33) (Flat.len _) (cl1 (n := 16) (m := 17) (Flat.len _) (cl1 (n := 16) (m := 1) (Flat.len _) (cl1 (n := 1) (m := 0) rfl cl0)))))) (Eq.symm (ZC (cl1 (n := 1) (m := 289) rfl (cl1 (n := 256) (m := 33) (Flat.len _) (cl1 (n := 16) (m := 17) (Flat.len _) (cl1 (n := 16) (m := 1) (Flat.len _) (cl1 (n := 1) (m := 0) rfl cl0))))))))) fun w a hM hE => Zf (Zc ?_))))
 obtain ⟨r5, e6, hF⟩ := bind_some hF
 refine Zs hE Za ld rfl cb192 (HP _ 285 254 r5 e6) ?_
 rintro v w a ⟨rfl, hK⟩ hE
 have hM := hM.keep hK
 refine Z5 (xs := [.const (vI 0), .const (vI 1), .const (vI 4)]) (l := ([0, 1, 4] : List Int)) (vs := [vI 0, vI 1, vI 4]) hE hM Za ld rfl rfl Tryz.underlying43 ty2 rfl (by decide) rfl ?_; intro u7 w a hM hE
 obtain ⟨r9, e10, hF⟩ := bind_some hF
 refine Zs hE Za ld rfl cb193 (KP _ ([0, 1, 4] : List Int) u7 (hM.sl (pre := []) noB) 90 r9 e10) ?_
 rintro v w a ⟨rfl, hK⟩ hE
 have hM := hM.keep hK
 obtain ⟨r11, e12, hF⟩ := bind_some hF
 refine Zs hE Za ld rfl cb191 (Bm _ r5 r9 r11 e12) ?_
 rintro v w a ⟨rfl, hK⟩ hE
 have hM := hM.keep hK
 refine Zg hE Za ld rfl (KF) ?_; intro a hE
 have hM := hM.pull (pre := [_])
 refine Zt (seg := enc r11) (cs' := cat [[vI 285], enc r11, enc (Vector.replicate 4 (Vector.replicate 4 (0 : UInt8))), enc (Vector.replicate 16 (0 : UInt8)), [vI p0]]) hE hM Za rfl rfl rfl Xt (Flat.len _) (Vt (pre := [[vI 285]]) (cl1 (n := 1) (m := 0) rfl cl0) flq) (Flat.cell _) (Ys (pre := [[vI 285]]) (cl1 (n := 1) (m := 0) rfl cl0) flq) fun w a hM hE => Zf (wp_seq (Zc (Ze hE Za ld rfl fun a hE => Zf ?_)))
 obtain ⟨j13, hl14, hF15⟩ := bind_some hF
 refine ZR (fun a w => Env 46 a [(2, (ptr b1 0)), (3, (ptr b3 0))] ∧ M (Old w0) w0 w [raw b3 (cat [[vI 285], enc r11, enc j13, enc (Vector.replicate 16 (0 : UInt8)), [vI p0]]), raw b1 (cat [[vI 0], enc (Vector.replicate 256 (0 : UInt8)), enc (Vector.replicate 4 (Vector.replicate 4 (0 : UInt8))), enc (Vector.replicate 16 (0 : UInt8)), [vI 0]])]) ?_ ?_
 ·skip
  refine wp_block ?_
  have hM := hM.pull (pre := [_, _])
  have hM := hM.pull (pre := [_])
  have hM := M.fst (l := [_, _]) hM
  refine ZK (fun (s16 : (Vector (Vector UInt8 4) 4) × Int) a w => Env 46 a [(2, (ptr b1 0)), (3, (ptr b3 0)), (4, vI s16.2)] ∧ M (Old w0) w0 w [raw b3 (cat [[vI 285], enc r11, enc s16.1, enc (Vector.replicate 16 (0 : UInt8)), [vI p0]]), raw b1 (cat [[vI 0], enc (Vector.replicate 256 (0 : UInt8)), enc (Vector.replicate 4 (Vector.replicate 4 (0 : UInt8))), enc (Vector.replicate 16 (0 : UInt8)), [vI 0]])]) hl14 ⟨hE.sub ⟨rfl, rfl, rfl, trivial⟩, hM⟩ ?_
  rintro s16 a w ⟨hE, hM⟩ o19 hs17 hx18
  unfold Ta at hs17
  refine wp_seq (Zc (Zd hE Za ld rfl fun a hE => Zh hE Za ld rfl rfl rfl fun a hE => Zf ?_))
  refine Zv hE rfl ?_ ?_
  ·intro hb20
   have hs17 := ZA hs17 hb20
   refine wp_skip (Zz (wp_seq (wp_block (Zc (Ze hE Za ld rfl fun a hE => Zf ?_)))))
   obtain ⟨j21, hl22, hF23⟩ := bind_some hs17
   refine ZR (fun a w => Env 46 a [(2, (ptr b1 0)), (3, (ptr b3 0)), (4, vI s16.2)] ∧ M (Old w0) w0 w [raw b3 (cat [[vI 285], enc r11, enc j21, enc (Vector.replicate 16 (0 : UInt8)), [vI p0]]), raw b1 (cat [[vI 0], enc (Vector.replicate 256 (0 : UInt8)), enc (Vector.replicate 4 (Vector.replicate 4 (0 : UInt8))), enc (Vector.replicate 16 (0 : UInt8)), [vI 0]])]) ?_ ?_
   ·skip
    refine wp_block ?_
    refine ZK (fun (s24 : (Vector (Vector UInt8 4) 4) × Int) a w => Env 46 a [(2, (ptr b1 0)), (3, (ptr b3 0)), (4, vI s16.2), (5, vI s24.2)] ∧ M (Old w0) w0 w [raw b3 (cat [[vI 285], enc r11, enc s24.1, enc (Vector.replicate 16 (0 : UInt8)), [vI p0]]), raw b1 (cat [[vI 0], enc (Vector.replicate 256 (0 : UInt8)), enc (Vector.replicate 4 (Vector.replicate 4 (0 : UInt8))), enc (Vector.replicate 16 (0 : UInt8)), [vI 0]])]) hl22 ⟨hE.sub ⟨rfl, rfl, rfl, rfl, trivial⟩, hM⟩ ?_
    rintro s24 a w ⟨hE, hM⟩ o27 hs25 hx26
    unfold UX at hs25
    refine wp_seq (Zc (Zd hE Za ld rfl fun a hE => Zh hE Za ld rfl rfl rfl fun a hE => Zf ?_))
    refine Zv hE rfl ?_ ?_
    ·intro hb28
     have hs25 := ZA hs25 hb28
     refine wp_skip (Zz (wp_seq (wp_block ?_)))
     obtain ⟨r30, e31, hs25⟩ := bind_some hs25
     obtain ⟨x33, e34, hs25⟩ := bind_some hs25
     have hi32 := Zj e34
     obtain ⟨x36, e37, hs25⟩ := bind_some hs25
     have hi35 := Zj e37
     refine Yr (n := 46) (hd := [_, _, _, _, _, _, _, _, _, _, _]) (tl := [_]) YN rfl rfl [22, 23, 24, 25, 26, 27, 28, 29, 30, 31, 32] (by decide) (fun w => M (Old w0) w0 w [raw b3 (cat [[vI 285], enc r11, enc s24.1, enc (Vector.replicate 16 (0 : UInt8)), [vI p0]]), raw b1 (cat [[vI 0], enc (Vector.replicate 256 (0 : UInt8)), enc (Vector.replicate 4 (Vector.replicate 4 (0 : UInt8))), enc (Vector.replicate 16 (0 : UInt8)), [vI 0]])]) (fun j => ([fun v _ => v = (vI s16.2), fun v _ => v = (vI s24.2), fun v _ => v = (vI s16.2), fun v _ => v = (vI s24.2), fun v _ => v = (vI (wr (4 + s24.2))), fun v _ => v = (vI (Q2 s16.2 (wr (4 + s24.2)))), fun v _ => v = (vB (Zr (Q2 s16.2 (wr (4 + s24.2))))), fun v _ => v = (vB r30), fun v _ => v = (ptr b3 (0 + 257)), fun v _ => v = (ptr b3 (0 + 257 + (s16.2).toNat * 4)), fun v _ => v = (ptr b3 (0 + 257 + (s16.2).toNat * 4 + (s24.2).toNat * 1))] : List (Value → World → Prop)).getD j (fun _ _ => True)) (fun _ _ h hk => h.keep hk) (gup (Zk (Zk (Zk (Zk (Zk (Zk (Zk (Zk (Zk (Zk (Zk VK)))))))))))) hE hM.drew (ZL (Zb ?_ (Zb ?_ (Zb ?_ (Zb ?_ (Zb ?_ (Zb ?_ (Zb ?_ (Zb ?_ (Zb ?_ (Zb ?_ (Zb ?_ ZF)))))))))))) ?_
     ·exact fun a w ux29 hE hM hp => Zd hE Za ld rfl fun a hE => ⟨Kept.refl _ _, _, _, rfl, hE, rfl⟩
     ·exact fun a w ux29 hE hM hp => Zd hE Za ld rfl fun a hE => ⟨Kept.refl _ _, _, _, rfl, hE, rfl⟩
     ·exact fun a w ux29 hE hM hp => Zd hE Za ld rfl fun a hE => ⟨Kept.refl _ _, _, _, rfl, hE, rfl⟩
     ·exact fun a w ux29 hE hM hp => Zd hE Za ld rfl fun a hE => ⟨Kept.refl _ _, _, _, rfl, hE, rfl⟩
     ·intro a w ux29 hE hM hp
      have f3 : ux29 3 = (vI s24.2) := hp 0 _ rfl rfl
      exact Zh hE Za ld rfl (lk rfl f3) rfl fun a hE => ⟨Kept.refl _ _, _, _, rfl, hE, rfl⟩
     ·intro a w ux29 hE hM hp
      have f2 : ux29 2 = (vI s16.2) := hp 0 _ rfl rfl
      have f4 : ux29 4 = (vI (wr (4 + s24.2))) := hp 1 _ rfl rfl
      exact Zh hE Za ld (lk rfl f2) (lk rfl f4) rfl fun a hE => ⟨Kept.refl _ _, _, _, rfl, hE, rfl⟩
     ·intro a w ux29 hE hM hp
      have f5 : ux29 5 = (vI (Q2 s16.2 (wr (4 + s24.2)))) := hp 0 _ rfl rfl
      refine Yj hE Za ld (lk rfl f5) Tryz.underlying3 Tryz.underlying5 ?_; intro a hE
      rw [ZW] at hE
      exact ⟨Kept.refl _ _, _, _, rfl, hE, rfl⟩
     ·intro a w ux29 hE hM hp
      have f6 : ux29 6 = (vB (Zr (Q2 s16.2 (wr (4 + s24.2))))) := hp 0 _ rfl rfl
      refine Zs hE Za ld (ZY (ZS rfl (ZS (lk rfl f6) YT))) cb194 (Ar _ 285 (Zr (Q2 s16.2 (wr (4 + s24.2)))) r30 e31) ?_
      rintro v w a ⟨rfl, hK⟩ hE
      exact ⟨hK, _, _, rfl, hE, rfl⟩
     ·exact fun a w ux29 hE hM hp => Zg hE Za ld rfl (Jt) fun a hE => ⟨Kept.refl _ _, _, _, rfl, hE, rfl⟩
     ·intro a w ux29 hE hM hp
      have f0 : ux29 0 = (vI s16.2) := hp 1 _ rfl rfl
      have f8 : ux29 8 = (ptr b3 (0 + 257)) := hp 0 _ rfl rfl
      exact Zn hE Za ld (lk rfl f8) (lk rfl f0) Tryz.underlying170 Xm hi32.1 fun a hE => ⟨Kept.refl _ _, _, _, rfl, hE, rfl⟩
     ·intro a w ux29 hE hM hp
      have f1 : ux29 1 = (vI s24.2) := hp 1 _ rfl rfl
      have f9 : ux29 9 = (ptr b3 (0 + 257 + (s16.2).toNat * 4)) := hp 0 _ rfl rfl
      exact Zn hE Za ld (lk rfl f9) (lk rfl f1) Tryz.underlying168 ty5 hi35.1 fun a hE => ⟨Kept.refl _ _, _, _, rfl, hE, rfl⟩
     ·intro a w ux29 hE hM hg
      have hE := hE.sub (e' := [(29, vB r30), (32, (ptr b3 (0 + 257 + (s16.2).toNat * 4 + (s24.2).toNat * 1))), (2, (ptr b1 0)), (3, (ptr b3 0)), (4, vI s16.2), (5, vI s24.2), (18, vI s24.2), (19, (vT (decide (s24.2 < 4))))]) ⟨lk rfl (hg 7 (by decide)), lk rfl (hg 10 (by decide)), rfl, rfl, rfl, rfl, rfl, rfl, trivial⟩
      refine Zt (seg := [vB r30]) (cs' := cat [[vI 285], enc r11, enc (s24.1.setIfInBounds (s16.2).toNat (x33.setIfInBounds (s24.2).toNat r30)), enc (Vector.replicate 16 (0 : UInt8)), [vI p0]]) hE hM Za rfl rfl rfl ty5 rfl (Kd (o' := (s16.2).toNat * 4 + (0 + (s24.2).toNat * 1)) (pre := [[vI 285], enc r11]) (seg := enc s24.1) (post := [enc (Vector.replicate 16 (0 : UInt8)), [vI p0]]) (cl1 (n := 1) (m := 256) rfl (cl1 (n := 256) (m := 0) (Flat.len _) cl0)) (V7 (o' := 0 + (s24.2).toNat * 1) hi32 (ZQ (v := x33) (x := r30) hi35.1) (by first | omega | (simp only [Flat.n] <;> omega))) (by first | omega | (simp only [Flat.n] <;> omega))) (Flat.cell (r30 : UInt8)) (VV (o' := (s16.2).toNat * 4 + (0 + (s24.2).toNat * 1)) (pre := [[vI 285], enc r11]) (seg := enc s24.1) (post := [enc (Vector.replicate 16 (0 : UInt8)), [vI p0]]) (cl1 (n := 1) (m := 256) rfl (cl1 (n := 256) (m := 0) (Flat.len _) cl0)) (V7 (o' := 0 + (s24.2).toNat * 1) hi32 (ZQ (v := x33) (x := r30) hi35.1) (by first | omega | (simp only [Flat.n] <;> omega))) (Vc (o' := 0 + (s24.2).toNat * 1) hi32 (ZQ (v := x33) (x := r30) hi35.1) (ZJ (v := x33) (x := r30) hi35.1) (by first | omega | (simp only [Flat.n] <;> omega))) (by first | omega | (simp only [Flat.n] <;> omega))) fun w a hM hE => Zi (Ye (Zz (wp_region_lit (Zd hE Za ld rfl fun a hE => Zh hE Za ld rfl rfl rfl fun a hE => Ze hE Za ld rfl fun a hE => Zi (Zl ?_)))))
      exact ⟨_, (Option.some.inj hs25).symm, hE.sub ⟨rfl, rfl, rfl, rfl, trivial⟩, hM⟩
    ·intro hb28
     have hs25 := ZB hs25 hb28
     refine wp_exit (Zp (Zp (Yc ?_)))
     have ht38 := hx26 _ (Option.some.inj hs25).symm
     subst ht38
     refine Zl ?_
     exact ⟨hE.sub ⟨rfl, rfl, rfl, trivial⟩, hM⟩
   ·skip
    rintro a w ⟨hE, hM⟩
    refine Ye (Zz (wp_region_lit (Zd hE Za ld rfl fun a hE => Zh hE Za ld rfl rfl rfl fun a hE => Ze hE Za ld rfl fun a hE => Zi (Zl ?_))))
    exact ⟨_, (Option.some.inj hF23).symm, hE.sub ⟨rfl, rfl, rfl, trivial⟩, hM⟩
  ·intro hb20
   have hs17 := ZB hs17 hb20
   refine wp_exit (Zp (Zp (Yc ?_)))
   have ht39 := hx18 _ (Option.some.inj hs17).symm
   subst ht39
   refine Zl ?_
   exact ⟨hE.sub ⟨rfl, rfl, trivial⟩, hM⟩
 ·skip
  rintro a w ⟨hE, hM⟩
  refine Zz (wp_seq (Zc (Ze hE Za ld rfl fun a hE => Zf ?_)))
  obtain ⟨j40, hl41, hF42⟩ := bind_some hF15
  refine ZR (fun a w => Env 46 a [(2, (ptr b1 0)), (3, (ptr b3 0))] ∧ M (Old w0) w0 w [raw b3 (cat [[vI 285], enc r11, enc j13, enc j40, [vI p0]]), raw b1 (cat [[vI 0], enc (Vector.replicate 256 (0 : UInt8)), enc (Vector.replicate 4 (Vector.replicate 4 (0 : UInt8))), enc (Vector.replicate 16 (0 : UInt8)), [vI 0]])]) ?_ ?_
  ·skip
   refine wp_block ?_
   refine ZK (fun (s43 : (Vector UInt8 16) × Int) a w => Env 46 a [(2, (ptr b1 0)), (3, (ptr b3 0)), (6, vI s43.2)] ∧ M (Old w0) w0 w [raw b3 (cat [[vI 285], enc r11, enc j13, enc s43.1, [vI p0]]), raw b1 (cat [[vI 0], enc (Vector.replicate 256 (0 : UInt8)), enc (Vector.replicate 4 (Vector.replicate 4 (0 : UInt8))), enc (Vector.replicate 16 (0 : UInt8)), [vI 0]])]) hl41 ⟨hE.sub ⟨rfl, rfl, rfl, trivial⟩, hM⟩ ?_
   rintro s43 a w ⟨hE, hM⟩ o46 hs44 hx45
   unfold U8 at hs44
   refine wp_seq (Zc (Zd hE Za ld rfl fun a hE => Zh hE Za ld rfl rfl rfl fun a hE => Zf ?_))
   refine Zv hE rfl ?_ ?_
   ·intro hb47
    have hs44 := ZA hs44 hb47
    refine wp_skip (Zz (wp_seq (wp_block (wp_region_lit (Zd hE Za ld rfl fun a hE => Zd hE Za ld rfl fun a hE => Zh hE Za ld rfl rfl rfl fun a hE => Zh hE Za ld rfl rfl rfl fun a hE => Zh hE Za ld rfl rfl (Qm _ _ (by decide)) fun a hE => Yj hE Za ld rfl Tryz.underlying3 Tryz.underlying5 ?_))))); intro a hE
    rw [ZW] at hE
    refine Zg hE Za ld rfl (JD) ?_; intro a hE
    obtain ⟨x49, e50, hs44⟩ := bind_some hs44
    have hi48 := Zj e50
    refine Zn hE Za ld rfl rfl Tryz.underlying171 ty5 hi48.1 fun a hE => Zt (seg := [(vB (Zr (Int.tmod (wr ((wr (13 * s43.2)) + 4)) 16)))]) (cs' := cat [[vI 285], enc r11, enc j13, enc (s43.1.setIfInBounds (s43.2).toNat (Zr (Int.tmod (wr ((wr (13 * s43.2)) + 4)) 16))), [vI p0]]) hE hM Za rfl rfl rfl ty5 rfl (Kd (o' := 0 + (s43.2).toNat * 1) (pre := [[vI 285], enc r11, enc j13]) (seg := enc s43.1) (post := [[vI p0]]) (cl1 (n := 1) (m := 272) rfl (cl1 (n := 256) (m := 16) (Flat.len _) (cl1 (n := 16) (m := 0) (Flat.len _) cl0))) (ZQ (v := s43.1) (x := Zr (Int.tmod (wr ((wr (13 * s43.2)) + 4)) 16)) hi48.1) (by first | omega | (simp only [Flat.n] <;> omega))) (Flat.cell (Zr (Int.tmod (wr ((wr (13 * s43.2)) + 4)) 16) : UInt8)) (VV (o' := 0 + (s43.2).toNat * 1) (pre := [[vI 285], enc r11, enc j13]) (seg := enc s43.1) (post := [[vI p0]]) (cl1 (n := 1) (m := 272) rfl (cl1 (n := 256) (m := 16) (Flat.len _) (cl1 (n := 16) (m := 0) (Flat.len _) cl0))) (ZQ (v := s43.1) (x := Zr (Int.tmod (wr ((wr (13 * s43.2)) + 4)) 16)) hi48.1) (ZJ (v := s43.1) (x := Zr (Int.tmod (wr ((wr (13 * s43.2)) + 4)) 16)) hi48.1) (by first | omega | (simp only [Flat.n] <;> omega))) fun w a hM hE => Zi (Ye (Zz (wp_region_lit (Zd hE Za ld rfl fun a hE => Zh hE Za ld rfl rfl rfl fun a hE => Ze hE Za ld rfl fun a hE => Zi (Zl ?_)))))
    exact ⟨_, (Option.some.inj hs44).symm, hE.sub ⟨rfl, rfl, rfl, trivial⟩, hM⟩
   ·intro hb47
    have hs44 := ZB hs44 hb47
    refine wp_exit (Zp (Zp (Yc ?_)))
    have ht51 := hx45 _ (Option.some.inj hs44).symm
    subst ht51
    refine Zl ?_
    exact ⟨hE.sub ⟨rfl, rfl, trivial⟩, hM⟩
  ·skip
   rintro a w ⟨hE, hM⟩
   refine Zz (Zc (Zm (cs := enc (⟨285, r11, j13, j40, p0⟩ : GCipher)) hE Za ld rfl Va rfl (hM.rawAt (pre := [])) (ZC (cl1 (n := 1) (m := 289) rfl (cl1 (n := 256) (m := 33) (Flat.len _) (cl1 (n := 16) (m := 17) (Flat.len _) (cl1 (n := 16) (m := 1) (Flat.len _) (cl1 (n := 1) (m := 0) rfl cl0)))))) ?_)); intro a hE
   have hM := hM.pull (pre := [_])
   refine Zt (seg := cat [[(vI ((⟨285, r11, j13, j40, p0⟩ : GCipher).Field))], enc ((⟨285, r11, j13, j40, p0⟩ : GCipher).Box), enc ((⟨285, r11, j13, j40, p0⟩ : GCipher).Mix), enc ((⟨285, r11, j13, j40, p0⟩ : GCipher).Places), [(vI ((⟨285, r11, j13, j40, p0⟩ : GCipher).Rounds))]]) (cs' := cat [[(vI ((⟨285, r11, j13, j40, p0⟩ : GCipher).Field))], enc ((⟨285, r11, j13, j40, p0⟩ : GCipher).Box), enc ((⟨285, r11, j13, j40, p0⟩ : GCipher).Mix), enc ((⟨285, r11, j13, j40, p0⟩ : GCipher).Places), [(vI ((⟨285, r11, j13, j40, p0⟩ : GCipher).Rounds))]]) hE hM Za rfl rfl rfl Va (ZC (cl1 (n := 1) (m := 289) rfl (cl1 (n := 256) (m := 33) (Flat.len _) (cl1 (n := 16) (m := 17) (Flat.len _) (cl1 (n := 16) (m := 1) (Flat.len _) (cl1 (n := 1) (m := 0) rfl cl0)))))) (Nat.le_of_eq ((Nat.zero_add _).trans (Eq.trans (ZC (cl1 (n := 1) (m := 289) rfl (cl1 (n := 256) (m := 33) (Flat.len _) (cl1 (n := 16) (m := 17) (Flat.len _) (cl1 (n := 16) (m := 1) (Flat.len _) (cl1 (n := 1) (m := 0) rfl cl0)))))) (Eq.symm (ZC (cl1 (n := 1) (m := 289) rfl (cl1 (n := 256) (m := 33) (Flat.len _) (cl1 (n := 16) (m := 17) (Flat.len _) (cl1 (n := 16) (m := 1) (Flat.len _) (cl1 (n := 1) (m := 0) rfl cl0)))))))))) (WD (cc1 (Flat.cell ((⟨285, r11, j13, j40, p0⟩ : GCipher).Field : Int)) (cc1 (Flat.cell _) (cc1 (Flat.cell _) (cc1 (Flat.cell _) (cc1 (Flat.cell ((⟨285, r11, j13, j40, p0⟩ : GCipher).Rounds : Int)) cc0)))))) (Zo (Eq.trans (ZC (cl1 (n := 1) (m := 289) rfl (cl1 (n := 256) (m := 33) (Flat.len _) (cl1 (n := 16) (m := 17) (Flat.len _) (cl1 (n := 16) (m := 1) (Flat.len _) (cl1 (n := 1) (m := 0) rfl cl0)))))) (Eq.symm (ZC (cl1 (n := 1) (m := 289) rfl (cl1 (n := 256) (m := 33) (Flat.len _) (cl1 (n := 16) (m := 17) (Flat.len _) (cl1 (n := 16) (m := 1) (Flat.len _) (cl1 (n := 1) (m := 0) rfl cl0))))))))) fun w a hM hE => Zf ?_
   have hr := Option.some.inj hF42
   subst hr
   have hq52 : YB Tryz.prog _ _ (.cell 2 173) _ := ZZ hE rfl Va rfl (hM.rawAt (pre := [])) (ZC (cl1 (n := 1) (m := 289) rfl (cl1 (n := 256) (m := 33) (Flat.len _) (cl1 (n := 16) (m := 17) (Flat.len _) (cl1 (n := 16) (m := 1) (Flat.len _) (cl1 (n := 1) (m := 0) rfl cl0)))))) rfl
   have hM := M.fst (l := []) hM
   exact wp_ret (Zy hE rfl hq52 ⟨_, rfl, rfl, hM.kept⟩)
noncomputable def Ww : Option (GCipher) :=
 (Uj 4).bind fun r3 => some r3
theorem QG (w0 : World)  (r : GCipher) (hF : Ww  = some r) :
  Calls Tryz.prog 133 [].toArray w0 (fun en w' => ∃ v, en = .returned v ∧ (v = (Value.agg (enc r).toArray) ∧ Kept (Old w0) w0 w')) := by
 refine ZD (n := 2) Tryz.func133 rfl rfl (Nat.le_of_ble_eq_true rfl) rfl ?_
 intro a hE
 have hM := M.start w0
 unfold Ww at hF
 refine Zc (ZI hE hM Za ld Va fun b1 w a hM hE => Zf (Zc ?_))
 obtain ⟨r3, e4, hF⟩ := bind_some hF
 refine Zs hE Za ld rfl cb154 (HX _ 4 r3 e4) ?_
 rintro v w a ⟨rfl, hK⟩ hE
 have hM := hM.keep hK
 refine Zt (seg := cat [[vI r3.Field], enc r3.Box, enc r3.Mix, enc r3.Places, [vI r3.Rounds]]) (cs' := cat [[vI r3.Field], enc r3.Box, enc r3.Mix, enc r3.Places, [vI r3.Rounds]]) hE hM Za rfl rfl rfl Va (ZC (cl1 (n := 1) (m := 289) rfl (cl1 (n := 256) (m := 33) (Flat.len _) (cl1 (n := 16) (m := 17) (Flat.len _) (cl1 (n := 16) (m := 1) (Flat.len _) (cl1 (n := 1) (m := 0) rfl cl0)))))) (Nat.le_of_eq ((Nat.zero_add _).trans (Eq.trans (ZC (cl1 (n := 1) (m := 289) rfl (cl1 (n := 256) (m := 33) (Flat.len _) (cl1 (n := 16) (m := 17) (Flat.len _) (cl1 (n := 16) (m := 1) (Flat.len _) (cl1 (n := 1) (m := 0) rfl cl0)))))) (Eq.symm (ZC (cl1 (n := 1) (m := 289) rfl (cl1 (n := 256) (m := 33) (Flat.len _) (cl1 (n := 16) (m := 17) (Flat.len _) (cl1 (n := 16) (m := 1) (Flat.len _) (cl1 (n := 1) (m := 0) rfl cl0)))))))))) (WD (cc1 (Flat.cell (r3.Field : Int)) (cc1 (Flat.cell _) (cc1 (Flat.cell _) (cc1 (Flat.cell _) (cc1 (Flat.cell (r3.Rounds : Int)) cc0)))))) (Zo (Eq.trans (ZC (cl1 (n := 1) (m := 289) rfl (cl1 (n := 256) (m := 33) (Flat.len _) (cl1 (n := 16) (m := 17) (Flat.len _) (cl1 (n := 16) (m := 1) (Flat.len _) (cl1 (n := 1) (m := 0) rfl cl0)))))) (Eq.symm (ZC (cl1 (n := 1) (m := 289) rfl (cl1 (n := 256) (m := 33) (Flat.len _) (cl1 (n := 16) (m := 17) (Flat.len _) (cl1 (n := 16) (m := 1) (Flat.len _) (cl1 (n := 1) (m := 0) rfl cl0))))))))) fun w a hM hE => Zf ?_
 have hr := Option.some.inj hF
 subst hr
 have hq5 : YB Tryz.prog _ _ (.cell 0 173) _ := ZZ hE rfl Va rfl (hM.rawAt (pre := [])) (ZC (cl1 (n := 1) (m := 289) rfl (cl1 (n := 256) (m := 33) (Flat.len _) (cl1 (n := 16) (m := 17) (Flat.len _) (cl1 (n := 16) (m := 1) (Flat.len _) (cl1 (n := 1) (m := 0) rfl cl0)))))) rfl
 have hM := M.fst (l := []) hM
 exact wp_ret (Zy hE rfl hq5 ⟨_, rfl, rfl, hM.kept⟩)
noncomputable def V4 (p1 : UInt8) (s8 : (Vector UInt8 16) × Int) : Option (Fl ((Vector UInt8 16) × Int) (Vector UInt8 16)) :=
 if (decide (s8.2 < 16)) = true then ((ZM s8.1 s8.2).bind fun x14 => (ZM s8.1 s8.2).bind fun x17 => some (Fl.nx ((s8.1.setIfInBounds (s8.2).toNat (x14 ^^^ p1)), wr (s8.2 + 1)))) else (some (Fl.ex s8.1))
noncomputable def Vb (p0 : (Vector UInt8 16)) (p1 : UInt8) : Option ((Vector UInt8 16)) :=
 (ZG (V4 p1) (p0, 0) : Option ((Vector UInt8 16))).bind fun j5 => some j5
theorem JN (w0 : World) (p0 : (Vector UInt8 16)) (p1 : UInt8) (r : (Vector UInt8 16)) (hF : Vb p0 p1 = some r) :
  Calls Tryz.prog 134 [(Value.agg (enc p0).toArray), vB p1].toArray w0 (fun en w' => ∃ v, en = .returned v ∧ (v = (Value.agg (enc r).toArray) ∧ Kept (Old w0) w0 w')) := by
 refine ZD (n := 18) Tryz.func134 rfl rfl (Nat.le_of_ble_eq_true rfl) rfl ?_
 intro a hE
 have hM := M.start w0
 unfold Vb at hF
 refine Zc (ZX (cs := enc p0) hE hM Za ld rfl rfl fun b1 w a hM hE => ZI hE hM Za ld ZH fun b3 w a hM hE => Zf (wp_seq (Zc (Ze hE Za ld rfl fun a hE => Zf ?_))))
 obtain ⟨j5, hl6, hF7⟩ := bind_some hF
 refine ZR (fun a w => Env 18 a [(2, (ptr b1 0)), (4, (ptr b3 0))] ∧ M (Old w0) w0 w [raw b3 (enc (Vector.replicate 16 (0 : UInt8))), raw b1 (enc j5)]) ?_ ?_
 ·skip
  refine wp_block ?_
  refine ZK (fun (s8 : (Vector UInt8 16) × Int) a w => Env 18 a [(1, vB p1), (2, (ptr b1 0)), (4, (ptr b3 0)), (5, vI s8.2)] ∧ M (Old w0) w0 w [raw b3 (enc (Vector.replicate 16 (0 : UInt8))), raw b1 (enc s8.1)]) hl6 ⟨hE.sub ⟨rfl, rfl, rfl, rfl, trivial⟩, hM⟩ ?_
  rintro s8 a w ⟨hE, hM⟩ o11 hs9 hx10
  unfold V4 at hs9
  refine wp_seq (Zc (Zd hE Za ld rfl fun a hE => Zh hE Za ld rfl rfl rfl fun a hE => Zf ?_))
  refine Zv hE rfl ?_ ?_
  ·intro hb12
   have hs9 := ZA hs9 hb12
   refine wp_skip (Zz (wp_seq (wp_block (wp_region_lit (Zd hE Za ld rfl fun a hE => Zd hE Za ld rfl ?_))))); intro a hE
   obtain ⟨x14, e15, hs9⟩ := bind_some hs9
   have hi13 := Zj e15
   refine Zn hE Za ld rfl rfl Tryz.underlying70 ty5 hi13.1 fun a hE => Zq (v := (vB x14)) hE Za ld rfl ty5 rfl (At.vec (hM.rawAt (pre := [_])) hi13.2) fun a hE => Zd hE Za ld rfl fun a hE => Zh hE Za ld rfl rfl (WJ x14 p1) ?_; intro a hE
   obtain ⟨x17, e18, hs9⟩ := bind_some hs9
   have hi16 := Zj e18
   refine Zn hE Za ld rfl rfl Tryz.underlying70 ty5 hi16.1 ?_; intro a hE
   have hM := hM.pull (pre := [_])
   refine Zt (seg := [(vB (x14 ^^^ p1))]) (cs' := enc (s8.1.setIfInBounds (s8.2).toNat (x14 ^^^ p1))) hE hM Za rfl rfl rfl ty5 rfl (ZQ (v := s8.1) (x := x14 ^^^ p1) hi16.1) (Flat.cell (x14 ^^^ p1 : UInt8)) (ZJ (v := s8.1) (x := x14 ^^^ p1) hi16.1) fun w a hM hE => Zi (Ye (Zz (wp_region_lit (Zd hE Za ld rfl fun a hE => Zh hE Za ld rfl rfl rfl fun a hE => Ze hE Za ld rfl fun a hE => Zi (Zl ?_)))))
   have hM := hM.pull (pre := [_])
   exact ⟨_, (Option.some.inj hs9).symm, hE.sub ⟨rfl, rfl, rfl, rfl, trivial⟩, hM⟩
  ·intro hb12
   have hs9 := ZB hs9 hb12
   refine wp_exit (Zp (Zp (Yc ?_)))
   have ht19 := hx10 _ (Option.some.inj hs9).symm
   subst ht19
   refine Zl ?_
   exact ⟨hE.sub ⟨rfl, rfl, trivial⟩, hM⟩
 ·skip
  rintro a w ⟨hE, hM⟩
  refine Zz (Zc (Zm (cs := enc j5) hE Za ld rfl ZH rfl (hM.rawAt (pre := [_])) (Flat.len _) fun a hE => Zt (seg := enc j5) (cs' := enc j5) hE hM Za rfl rfl rfl ZH (Flat.len _) (zle flq) (Flat.cell _) (Zo flq) fun w a hM hE => Zf ?_))
  have hr := Option.some.inj hF7
  subst hr
  have hq20 : YB Tryz.prog _ _ (.cell 4 70) _ := ZZ hE rfl ZH rfl (hM.rawAt (pre := [])) (Flat.len _) rfl
  have hM := M.fst (l := []) hM
  exact wp_ret (Zy hE rfl hq20 ⟨_, rfl, rfl, hM.kept⟩)
noncomputable def Uv (p0 : (Vector UInt8 16)) (p1 : UInt8) (s10 : (List UInt8) × Int) : Option (Fl ((List UInt8) × Int) (List UInt8)) :=
 if (decide (s10.2 < 16)) = true then ((ZM p0 s10.2).bind fun x18 => (app 1 s10.1 ([x18 ^^^ p1] : List UInt8)).bind fun l22 => some (Fl.nx ((s10.1 ++ ([x18 ^^^ p1] : List UInt8)), wr (s10.2 + 1)))) else (some (Fl.ex s10.1))
noncomputable def Wn (p0 : (Vector UInt8 16)) (p1 : UInt8) : Option ((List UInt8)) :=
 (ZG (Uv p0 p1) (([] : List UInt8), 0) : Option ((List UInt8))).bind fun j5 => some j5
theorem QF (w0 : World) (p0 : (Vector UInt8 16)) (p1 : UInt8) (r : (List UInt8)) (hF : Wn p0 p1 = some r) :
  Calls Tryz.prog 181 [(Value.agg (enc p0).toArray), vB p1].toArray w0 (fun en w' => ∃ v, en = .returned v ∧ (∃ (y1 : Value), v = y1 ∧ Fr w0 w' [osl NoB (r : List UInt8) y1] ∧ Kept (Old w0) w0 w')) := by
 refine ZD (n := 21) Tryz.func181 rfl rfl (Nat.le_of_ble_eq_true rfl) rfl ?_
 intro a hE
 have hM := M.start w0
 unfold Wn at hF
 refine Zc (ZX (cs := enc p0) hE hM Za ld rfl rfl fun b1 w a hM hE => Ze hE Za ld rfl fun a hE => Zf (Zc (Z5 (xs := []) (l := ([] : List UInt8)) (vs := []) hE hM Za ld rfl rfl Tryz.underlying57 ty5 rfl (by decide) rfl fun u3 w a hM hE => Ze hE Za ld rfl fun a hE => Zf (wp_seq (Zc (Ze hE Za ld rfl fun a hE => Zf ?_))))))
 obtain ⟨j5, hl6, hF7⟩ := bind_some hF
 refine ZR (fun a w => ∃ (u8 : Value), Env 21 a [(5, u8)] ∧ M (Old w0) w0 w [osl NoB (j5 : List UInt8) u8]) ?_ ?_
 ·skip
  refine wp_block ?_
  have hM := hM.pull (pre := [_])
  refine ZK (fun (s10 : (List UInt8) × Int) a w => ∃ (u11 : Value), Env 21 a [(1, vB p1), (2, (ptr b1 0)), (5, u11), (6, vI s10.2)] ∧ M (Old w0) w0 w [raw b1 (enc p0), osl NoB (s10.1 : List UInt8) u11]) hl6 ⟨u3, hE.sub ⟨rfl, rfl, rfl, rfl, trivial⟩, hM⟩ ?_
  rintro s10 a w ⟨u11, hE, hM⟩ o15 hs13 hx14
  unfold Uv at hs13
  refine wp_seq (Zc (Zd hE Za ld rfl fun a hE => Zh hE Za ld rfl rfl rfl fun a hE => Zf ?_))
  refine Zv hE rfl ?_ ?_
  ·intro hb16
   have hs13 := ZA hs13 hb16
   refine wp_skip (Zz (wp_seq (wp_block (wp_region_lit (Zd hE Za ld rfl fun a hE => Zd hE Za ld rfl ?_))))); intro a hE
   obtain ⟨x18, e19, hs13⟩ := bind_some hs13
   have hi17 := Zj e19
   refine Zn hE Za ld rfl rfl Tryz.underlying70 ty5 hi17.1 fun a hE => Zq (v := (vB x18)) hE Za ld rfl ty5 rfl (At.vec (hM.rawAt (pre := [])) hi17.2) fun a hE => Zd hE Za ld rfl fun a hE => Zh hE Za ld rfl rfl (WJ x18 p1) fun a hE => Z5 (xs := [.tmp 17]) (l := ([x18 ^^^ p1] : List UInt8)) (vs := [(vB (x18 ^^^ p1))]) hE hM Za ld rfl rfl Tryz.underlying57 ty5 rfl (by decide) rfl ?_; intro u20 w a hM hE
   obtain ⟨l22, e23, hs13⟩ := bind_some hs13
   obtain ⟨e26, rfl⟩ := Yn e23
   have hM := hM.pull (pre := [_, _])
   refine Yb hE hM Za ld rfl rfl (hM.sl (pre := [_]) noB) Tryz.underlying57 ty5 rfl (by decide) e26 fun u24 w a hM hE => Ze hE Za ld rfl fun a hE => Zi (Ye (Zz (wp_region_lit (Zd hE Za ld rfl fun a hE => Zh hE Za ld rfl rfl rfl fun a hE => Ze hE Za ld rfl fun a hE => Zi (Zl ?_)))))
   have hM := hM.pull (pre := [_, _])
   have hM := M.fst (l := [_, _]) hM
   exact ⟨_, (Option.some.inj hs13).symm, u24, hE.sub ⟨rfl, rfl, rfl, rfl, trivial⟩, hM⟩
  ·intro hb16
   have hs13 := ZB hs13 hb16
   refine wp_exit (Zp (Zp (Yc ?_)))
   have ht27 := hx14 _ (Option.some.inj hs13).symm
   subst ht27
   refine Zl ?_
   have hM := hM.pull (pre := [_])
   have hM := M.fst (l := [_]) hM
   exact ⟨u11, hE.sub ⟨rfl, trivial⟩, hM⟩
 ·skip
  rintro a w ⟨u8, hE, hM⟩
  refine Zz (Zc (Zd hE Za ld rfl fun a hE => Ze hE Za ld rfl fun a hE => Zf ?_))
  have hr := Option.some.inj hF7
  subst hr
  exact wp_ret (Zy hE rfl (Zu hE rfl) ⟨_, rfl, u8, rfl, hM.outF (Xu Xo), hM.kept⟩)
noncomputable def XV (p0 : (List UInt8)) : Option ((List UInt8)) :=
 (app 1 ([] : List UInt8) p0).bind fun l3 => some (([] : List UInt8) ++ p0)
theorem Kj (w0 : World) (p0 : (List UInt8)) (v0_1 : Value) (hv0_1 : Ro w0 p0 [v0_1]) (r : (List UInt8)) (hF : XV p0 = some r) :
  Calls Tryz.prog 95 [v0_1].toArray w0 (fun en w' => ∃ v, en = .returned v ∧ (∃ (y1 : Value), v = y1 ∧ Fr w0 w' [osl NoB (r : List UInt8) y1] ∧ Kept (Old w0) w0 w')) := by
 refine ZD (n := 6) Tryz.func95 rfl rfl (Nat.le_of_ble_eq_true rfl) rfl ?_
 intro a hE
 have hM := M.start w0
 unfold XV at hF
 refine Zc (Ze hE Za ld rfl fun a hE => Zf (Zc (Z5 (xs := []) (l := ([] : List UInt8)) (vs := []) hE hM Za ld rfl rfl Tryz.underlying57 ty5 rfl (by decide) rfl fun u1 w a hM hE => Zd hE Za ld rfl ?_))); intro a hE
 obtain ⟨l3, e4, hF⟩ := bind_some hF
 obtain ⟨e7, rfl⟩ := Yn e4
 refine Yb hE hM Za ld rfl rfl (hM.rd hv0_1) Tryz.underlying57 ty5 rfl (by decide) e7 fun u5 w a hM hE => Ze hE Za ld rfl fun a hE => Zf ?_
 have hr := Option.some.inj hF
 subst hr
 exact wp_ret (Zy hE rfl (Zu hE rfl) ⟨_, rfl, u5, rfl, hM.outF (Xu Xo), hM.kept⟩)
noncomputable def TF (s16 : (List UInt8)) : Option (Fl (List UInt8) (List UInt8)) :=
 if ((Int.tmod (s16.length : Int) 16) != 8) = true then ((app 1 s16 ([0] : List UInt8)).bind fun l25 => some (Fl.nx (s16 ++ ([0] : List UInt8)))) else (some (Fl.ex s16))
noncomputable def VT (p0 : (List UInt8)) (s36 : (List UInt8) × Int) : Option (Fl ((List UInt8) × Int) (List UInt8)) :=
 if (decide (s36.2 ≥ 0)) = true then ((XJ (IntKind.u64.wrap (wr (8 * s36.2)))).bind fun _ => (app 1 s36.1 ([Zr (Qg (Wd (p0.length : Int) (IntKind.u64.wrap (wr (8 * s36.2)))) 255)] : List UInt8)).bind fun l46 => some (Fl.nx ((s36.1 ++ ([Zr (Qg (Wd (p0.length : Int) (IntKind.u64.wrap (wr (8 * s36.2)))) 255)] : List UInt8)), wr (s36.2 - 1)))) else (some (Fl.ex s36.1))
noncomputable def Tf (p0 : (List UInt8)) : Option ((List UInt8)) :=
 (XV p0).bind fun r1 => (app 1 r1 ([128] : List UInt8)).bind fun l6 => (ZG (TF) (r1 ++ ([128] : List UInt8)) : Option ((List UInt8))).bind fun j11 => (ZG (VT p0) (j11, 7) : Option ((List UInt8))).bind fun j31 => some j31
theorem Ab (w0 : World) (p0 : (List UInt8)) (v0_1 : Value) (hv0_1 : Ro w0 p0 [v0_1]) (r : (List UInt8)) (hF : Tf p0 = some r) :
  Calls Tryz.prog 188 [v0_1].toArray w0 (fun en w' => ∃ v, en = .returned v ∧ (∃ (y1 : Value), v = y1 ∧ Fr w0 w' [osl NoB (r : List UInt8) y1] ∧ Kept (Old w0) w0 w')) := by
 refine ZD (n := 32) Tryz.func188 rfl rfl (Nat.le_of_ble_eq_true rfl) rfl ?_
 intro a hE
 have hM := M.start w0
 unfold Tf at hF
 refine Zc (Ze hE Za ld rfl fun a hE => Zf (Zc (Zd hE Za ld rfl ?_))); intro a hE
 obtain ⟨r1, e2, hF⟩ := bind_some hF
 refine Zs hE Za ld rfl cb95 (Kj _ p0 v0_1 (hM.rdo hv0_1) r1 e2) ?_
 rintro u3 w a ⟨_, rfl, hFr, hK⟩ hE
 have hM := hM.add hK hFr
 refine Z5 (xs := [.const (vB 128)]) (l := ([128] : List UInt8)) (vs := [vB 128]) hE hM Za ld rfl rfl Tryz.underlying57 ty5 rfl (by decide) rfl ?_; intro u4 w a hM hE
 obtain ⟨l6, e7, hF⟩ := bind_some hF
 obtain ⟨e10, rfl⟩ := Yn e7
 have hM := hM.pull (pre := [_])
 refine Yb hE hM Za ld rfl rfl (hM.sl (pre := [_]) noB) Tryz.underlying57 ty5 rfl (by decide) e10 fun u8 w a hM hE => Ze hE Za ld rfl fun a hE => Zf ?_
 obtain ⟨j11, hl12, hF13⟩ := bind_some hF
 refine ZU (fun a w => ∃ (u14 : Value), Env 32 a [(0, v0_1), (3, u14)] ∧ M (Old w0) w0 w [osl NoB (j11 : List UInt8) u14]) ?_ ?_
 ·skip
  refine wp_block ?_
  have hM := M.fst (l := [_]) hM
  refine ZK (fun (s16 : (List UInt8)) a w => ∃ (u17 : Value), Env 32 a [(0, v0_1), (3, u17)] ∧ M (Old w0) w0 w [osl NoB (s16 : List UInt8) u17]) hl12 ⟨u8, hE.sub ⟨rfl, rfl, trivial⟩, hM⟩ ?_
  rintro s16 a w ⟨u17, hE, hM⟩ o21 hs19 hx20
  unfold TF at hs19
  refine wp_seq (Zc (Zd hE Za ld rfl fun a hE => Z6 hE Za ld rfl Tryz.underlying57 (hM.sl (pre := []) noB) fun a hE => Zh hE Za ld rfl rfl (Qm _ _ (by decide)) fun a hE => Zh hE Za ld rfl rfl rfl fun a hE => Zf ?_))
  refine Zv hE rfl ?_ ?_
  ·intro hb22
   have hs19 := ZA hs19 hb22
   refine wp_skip (Zz (wp_block (wp_region_lit (Zd hE Za ld rfl fun a hE => Z5 (xs := [.const (vB 0)]) (l := ([0] : List UInt8)) (vs := [vB 0]) hE hM Za ld rfl rfl Tryz.underlying57 ty5 rfl (by decide) rfl ?_)))); intro u23 w a hM hE
   obtain ⟨l25, e26, hs19⟩ := bind_some hs19
   obtain ⟨e29, rfl⟩ := Yn e26
   have hM := hM.pull (pre := [_])
   refine Yb hE hM Za ld rfl rfl (hM.sl (pre := [_]) noB) Tryz.underlying57 ty5 rfl (by decide) e29 fun u27 w a hM hE => Ze hE Za ld rfl fun a hE => Zi (Ye (Zl ?_))
   have hM := M.fst (l := [_]) hM
   exact ⟨_, (Option.some.inj hs19).symm, u27, hE.sub ⟨rfl, rfl, trivial⟩, hM⟩
  ·intro hb22
   have hs19 := ZB hs19 hb22
   refine wp_exit (Zp (Zp (Yc ?_)))
   have ht30 := hx20 _ (Option.some.inj hs19).symm
   subst ht30
   refine Zl ?_
   exact ⟨u17, hE.sub ⟨rfl, rfl, trivial⟩, hM⟩
 ·skip
  rintro a w ⟨u14, hE, hM⟩
  refine wp_seq (Zc (Ze hE Za ld rfl fun a hE => Zf ?_))
  obtain ⟨j31, hl32, hF33⟩ := bind_some hF13
  refine ZR (fun a w => ∃ (u34 : Value), Env 32 a [(3, u34)] ∧ M (Old w0) w0 w [osl NoB (j31 : List UInt8) u34]) ?_ ?_
  ·skip
   refine wp_block ?_
   refine ZK (fun (s36 : (List UInt8) × Int) a w => ∃ (u37 : Value), Env 32 a [(0, v0_1), (3, u37), (4, vI s36.2)] ∧ M (Old w0) w0 w [osl NoB (s36.1 : List UInt8) u37]) hl32 ⟨u14, hE.sub ⟨rfl, rfl, rfl, trivial⟩, hM⟩ ?_
   rintro s36 a w ⟨u37, hE, hM⟩ o41 hs39 hx40
   unfold VT at hs39
   refine wp_seq (Zc (Zd hE Za ld rfl fun a hE => Zh hE Za ld rfl rfl rfl fun a hE => Zf ?_))
   refine Zv hE rfl ?_ ?_
   ·intro hb42
    have hs39 := ZA hs39 hb42
    refine wp_skip (Zz (wp_seq (wp_block (wp_region_lit (Zd hE Za ld rfl fun a hE => Zd hE Za ld rfl fun a hE => Z6 hE Za ld rfl Tryz.underlying57 (hM.rd hv0_1) fun a hE => Zd hE Za ld rfl fun a hE => Zh hE Za ld rfl rfl rfl fun a hE => Yj hE Za ld rfl Tryz.underlying3 Tryz.underlying198 ?_))))); intro a hE
    obtain ⟨_, e43, hs39⟩ := bind_some hs39
    have e43 := Vd e43
    refine Ju hE Za ld rfl rfl (Kp _ _ e43) fun a hE => Zh hE Za ld rfl rfl rfl fun a hE => Yj hE Za ld rfl Tryz.underlying3 Tryz.underlying5 ?_; intro a hE
    rw [ZW] at hE
    refine Z5 (xs := [.tmp 28]) (l := ([Zr (Qg (Wd (p0.length : Int) (IntKind.u64.wrap (wr (8 * s36.2)))) 255)] : List UInt8)) (vs := [(vB (Zr (Qg (Wd (p0.length : Int) (IntKind.u64.wrap (wr (8 * s36.2)))) 255)))]) hE hM Za ld rfl rfl Tryz.underlying57 ty5 rfl (by decide) rfl ?_; intro u44 w a hM hE
    obtain ⟨l46, e47, hs39⟩ := bind_some hs39
    obtain ⟨e50, rfl⟩ := Yn e47
    have hM := hM.pull (pre := [_])
    refine Yb hE hM Za ld rfl rfl (hM.sl (pre := [_]) noB) Tryz.underlying57 ty5 rfl (by decide) e50 fun u48 w a hM hE => Ze hE Za ld rfl fun a hE => Zi (Ye (Zz (wp_region_lit (Zd hE Za ld rfl fun a hE => Zh hE Za ld rfl rfl rfl fun a hE => Ze hE Za ld rfl fun a hE => Zi (Zl ?_)))))
    have hM := M.fst (l := [_]) hM
    exact ⟨_, (Option.some.inj hs39).symm, u48, hE.sub ⟨rfl, rfl, rfl, trivial⟩, hM⟩
   ·intro hb42
    have hs39 := ZB hs39 hb42
    refine wp_exit (Zp (Zp (Yc ?_)))
    have ht51 := hx40 _ (Option.some.inj hs39).symm
    subst ht51
    refine Zl ?_
    exact ⟨u37, hE.sub ⟨rfl, trivial⟩, hM⟩
  ·skip
   rintro a w ⟨u34, hE, hM⟩
   refine Zz (Zc (Zd hE Za ld rfl fun a hE => Ze hE Za ld rfl fun a hE => Zf ?_))
   have hr := Option.some.inj hF33
   subst hr
   exact wp_ret (Zy hE rfl (Zu hE rfl) ⟨_, rfl, u34, rfl, hM.outF (Xu Xo), hM.kept⟩)
noncomputable def X2 (p0 : (List UInt8)) (s8 : (List (Vector UInt8 16)) × Int) (s20 : (Vector UInt8 16) × Int) : Option (Fl ((Vector UInt8 16) × Int) (Vector UInt8 16)) :=
 if (decide (s20.2 < 16)) = true then ((idx p0 (wr (s8.2 + s20.2))).bind fun x25 => (ZM s20.1 s20.2).bind fun x29 => some (Fl.nx ((s20.1.setIfInBounds (s20.2).toNat x25), wr (s20.2 + 1)))) else (some (Fl.ex s20.1))
noncomputable def X7 (p0 : (List UInt8)) (s8 : (List (Vector UInt8 16)) × Int) : Option (Fl ((List (Vector UInt8 16)) × Int) (List (Vector UInt8 16))) :=
 if (decide ((wr (s8.2 + 16)) ≤ (p0.length : Int))) = true then ((ZG (X2 p0 s8) ((Vector.replicate 16 (0 : UInt8)), 0) : Option ((Vector UInt8 16))).bind fun j17 => (app 16 s8.1 ([j17] : List (Vector UInt8 16))).bind fun l34 => some (Fl.nx ((s8.1 ++ ([j17] : List (Vector UInt8 16))), wr (s8.2 + 16)))) else (some (Fl.ex s8.1))
noncomputable def VL (p0 : (List UInt8)) : Option ((List (Vector UInt8 16))) :=
 (ZG (X7 p0) (([] : List (Vector UInt8 16)), 0) : Option ((List (Vector UInt8 16)))).bind fun j3 => some j3
theorem He (w0 : World) (p0 : (List UInt8)) (v0_1 : Value) (hv0_1 : Ro w0 p0 [v0_1]) (r : (List (Vector UInt8 16))) (hF : VL p0 = some r) :
  Calls Tryz.prog 187 [v0_1].toArray w0 (fun en w' => ∃ v, en = .returned v ∧ (∃ (y1 : Value), v = y1 ∧ Fr w0 w' [osl NoB (r : List (Vector UInt8 16)) y1] ∧ Kept (Old w0) w0 w')) := by
 refine ZD (n := 33) Tryz.func187 rfl rfl (Nat.le_of_ble_eq_true rfl) rfl ?_
 intro a hE
 have hM := M.start w0
 unfold VL at hF
 refine Zc (Ze hE Za ld rfl fun a hE => Zf (Zc (Z5 (xs := []) (l := ([] : List (Vector UInt8 16))) (vs := []) hE hM Za ld rfl rfl Tryz.underlying32 ZH rfl (by decide) rfl fun u1 w a hM hE => Ze hE Za ld rfl fun a hE => Zf (wp_seq (Zc (Ze hE Za ld rfl fun a hE => Zf ?_))))))
 obtain ⟨j3, hl4, hF5⟩ := bind_some hF
 refine ZR (fun a w => ∃ (u6 : Value), Env 33 a [(3, u6)] ∧ M (Old w0) w0 w [osl NoB (j3 : List (Vector UInt8 16)) u6]) ?_ ?_
 ·skip
  refine wp_block ?_
  refine ZK (fun (s8 : (List (Vector UInt8 16)) × Int) a w => ∃ (u9 : Value), Env 33 a [(0, v0_1), (3, u9), (4, vI s8.2)] ∧ M (Old w0) w0 w [osl NoB (s8.1 : List (Vector UInt8 16)) u9]) hl4 ⟨u1, hE.sub ⟨rfl, rfl, rfl, trivial⟩, hM⟩ ?_
  rintro s8 a w ⟨u9, hE, hM⟩ o13 hs11 hx12
  unfold X7 at hs11
  refine wp_seq (Zc (Zd hE Za ld rfl fun a hE => Zh hE Za ld rfl rfl rfl fun a hE => Zd hE Za ld rfl fun a hE => Z6 hE Za ld rfl Tryz.underlying57 (hM.rd hv0_1) fun a hE => Zh hE Za ld rfl rfl rfl fun a hE => Zf ?_))
  refine Zv hE rfl ?_ ?_
  ·intro hb14
   have hs11 := ZA hs11 hb14
   refine wp_skip (Zz (wp_seq (wp_block (Zc (XG (parts := []) (vs := []) (cs := enc (Vector.replicate 16 (0 : UInt8))) hE Za ld rfl rfl ZH rfl ty5 Y0 fun a hE => ZI hE hM Za ld ZH fun b15 w a hM hE => Zt (seg := enc (Vector.replicate 16 (0 : UInt8))) (cs' := enc (Vector.replicate 16 (0 : UInt8))) hE hM Za rfl rfl rfl ZH (Flat.len _) (zle flq) (Flat.cell _) (Zo flq) fun w a hM hE => Zf (wp_seq (Zc (Ze hE Za ld rfl fun a hE => Zf ?_))))))))
   obtain ⟨j17, hl18, hF19⟩ := bind_some hs11
   refine ZR (fun a w => Env 33 a [(0, v0_1), (3, u9), (4, vI s8.2), (5, (ptr b15 0))] ∧ M (Old w0) w0 w [raw b15 (enc j17), osl NoB (s8.1 : List (Vector UInt8 16)) u9]) ?_ ?_
   ·skip
    refine wp_block ?_
    refine ZK (fun (s20 : (Vector UInt8 16) × Int) a w => Env 33 a [(0, v0_1), (3, u9), (4, vI s8.2), (5, (ptr b15 0)), (6, vI s20.2)] ∧ M (Old w0) w0 w [raw b15 (enc s20.1), osl NoB (s8.1 : List (Vector UInt8 16)) u9]) hl18 ⟨hE.sub ⟨rfl, rfl, rfl, rfl, rfl, trivial⟩, hM⟩ ?_
    rintro s20 a w ⟨hE, hM⟩ o23 hs21 hx22
    unfold X2 at hs21
    refine wp_seq (Zc (Zd hE Za ld rfl fun a hE => Zh hE Za ld rfl rfl rfl fun a hE => Zf ?_))
    refine Zv hE rfl ?_ ?_
    ·intro hb24
     have hs21 := ZA hs21 hb24
     refine wp_skip (Zz (wp_seq (wp_block (wp_region_lit (Zd hE Za ld rfl fun a hE => Zd hE Za ld rfl fun a hE => Zd hE Za ld rfl fun a hE => Zd hE Za ld rfl fun a hE => Zh hE Za ld rfl rfl rfl ?_))))); intro a hE
     obtain ⟨x25, e26, hs21⟩ := bind_some hs21
     have hi27 := ZO e26
     refine ZN hE Za ld rfl rfl Tryz.underlying57 ty5 (hM.rd hv0_1) hi27.1 fun a hE => Zq (v := (vB x25)) hE Za ld rfl ty5 rfl (Xa (hM.rd hv0_1) hi27.2) ?_; intro a hE
     obtain ⟨x29, e30, hs21⟩ := bind_some hs21
     have hi28 := Zj e30
     refine Zn hE Za ld rfl rfl Tryz.underlying70 ty5 hi28.1 fun a hE => Zt (seg := [vB x25]) (cs' := enc (s20.1.setIfInBounds (s20.2).toNat x25)) hE hM Za rfl rfl rfl ty5 rfl (ZQ (v := s20.1) (x := x25) hi28.1) (Flat.cell (x25 : UInt8)) (ZJ (v := s20.1) (x := x25) hi28.1) fun w a hM hE => Zi (Ye (Zz (wp_region_lit (Zd hE Za ld rfl fun a hE => Zh hE Za ld rfl rfl rfl fun a hE => Ze hE Za ld rfl fun a hE => Zi (Zl ?_)))))
     exact ⟨_, (Option.some.inj hs21).symm, hE.sub ⟨rfl, rfl, rfl, rfl, rfl, trivial⟩, hM⟩
    ·intro hb24
     have hs21 := ZB hs21 hb24
     refine wp_exit (Zp (Zp (Yc ?_)))
     have ht31 := hx22 _ (Option.some.inj hs21).symm
     subst ht31
     refine Zl ?_
     exact ⟨hE.sub ⟨rfl, rfl, rfl, rfl, trivial⟩, hM⟩
   ·skip
    rintro a w ⟨hE, hM⟩
    refine Zz (wp_region_lit (Zd hE Za ld rfl fun a hE => Zm (cs := enc j17) hE Za ld rfl ZH rfl (hM.rawAt (pre := [])) (Flat.len _) fun a hE => Z5 (xs := [.tmp 29]) (l := ([j17] : List (Vector UInt8 16))) (vs := [(Value.agg (enc j17).toArray)]) hE hM Za ld rfl rfl Tryz.underlying32 ZH rfl (by decide) rfl ?_)); intro u32 w a hM hE
    obtain ⟨l34, e35, hF19⟩ := bind_some hF19
    obtain ⟨e38, rfl⟩ := Yn e35
    have hM := hM.pull (pre := [_, _])
    refine Yb hE hM Za ld rfl rfl (hM.sl (pre := [_]) noB) Tryz.underlying32 ZH rfl (by decide) e38 fun u36 w a hM hE => Ze hE Za ld rfl fun a hE => Zi (Ye (Zz (wp_region_lit (Zd hE Za ld rfl fun a hE => Zh hE Za ld rfl rfl rfl fun a hE => Ze hE Za ld rfl fun a hE => Zi (Zl ?_)))))
    have hM := M.fst (l := [_]) hM
    exact ⟨_, (Option.some.inj hF19).symm, u36, hE.sub ⟨rfl, rfl, rfl, trivial⟩, hM⟩
  ·intro hb14
   have hs11 := ZB hs11 hb14
   refine wp_exit (Zp (Zp (Yc ?_)))
   have ht39 := hx12 _ (Option.some.inj hs11).symm
   subst ht39
   refine Zl ?_
   exact ⟨u9, hE.sub ⟨rfl, trivial⟩, hM⟩
 ·skip
  rintro a w ⟨u6, hE, hM⟩
  refine Zz (Zc (Zd hE Za ld rfl fun a hE => Ze hE Za ld rfl fun a hE => Zf ?_))
  have hr := Option.some.inj hF5
  subst hr
  exact wp_ret (Zy hE rfl (Zu hE rfl) ⟨_, rfl, u6, rfl, hM.outF (Xu Xo), hM.kept⟩)
noncomputable def Wr (s8 : (Vector UInt8 32) × Int) : Option (Fl ((Vector UInt8 32) × Int) (Vector UInt8 32)) :=
 if (decide (s8.2 < 32)) = true then ((ZM s8.1 s8.2).bind fun x14 => some (Fl.nx ((s8.1.setIfInBounds (s8.2).toNat (Zr (Int.tmod (wr (17 * s8.2)) 256))), wr (s8.2 + 1)))) else (some (Fl.ex s8.1))
noncomputable def Ul : Option ((Vector UInt8 32)) :=
 (ZG (Wr) ((Vector.replicate 32 (0 : UInt8)), 0) : Option ((Vector UInt8 32))).bind fun j5 => some j5
theorem HR (w0 : World)  (r : (Vector UInt8 32)) (hF : Ul  = some r) :
  Calls Tryz.prog 189 [].toArray w0 (fun en w' => ∃ v, en = .returned v ∧ (v = (Value.agg (enc r).toArray) ∧ Kept (Old w0) w0 w')) := by
 refine ZD (n := 15) Tryz.func189 rfl rfl (Nat.le_of_ble_eq_true rfl) rfl ?_
 intro a hE
 have hM := M.start w0
 unfold Ul at hF
 refine Zc (ZI hE hM Za ld Yu fun b1 w a hM hE => Zf (Zc (XG (parts := []) (vs := []) (cs := enc (Vector.replicate 32 (0 : UInt8))) hE Za ld rfl rfl Yu rfl ty5 Y0 fun a hE => ZI hE hM Za ld Yu fun b3 w a hM hE => Zt (seg := enc (Vector.replicate 32 (0 : UInt8))) (cs' := enc (Vector.replicate 32 (0 : UInt8))) hE hM Za rfl rfl rfl Yu (Flat.len _) (zle flq) (Flat.cell _) (Zo flq) fun w a hM hE => Zf (wp_seq (Zc (Ze hE Za ld rfl fun a hE => Zf ?_))))))
 obtain ⟨j5, hl6, hF7⟩ := bind_some hF
 refine ZR (fun a w => Env 15 a [(0, (ptr b1 0)), (1, (ptr b3 0))] ∧ M (Old w0) w0 w [raw b3 (enc j5), raw b1 (enc (Vector.replicate 32 (0 : UInt8)))]) ?_ ?_
 ·skip
  refine wp_block ?_
  refine ZK (fun (s8 : (Vector UInt8 32) × Int) a w => Env 15 a [(0, (ptr b1 0)), (1, (ptr b3 0)), (2, vI s8.2)] ∧ M (Old w0) w0 w [raw b3 (enc s8.1), raw b1 (enc (Vector.replicate 32 (0 : UInt8)))]) hl6 ⟨hE.sub ⟨rfl, rfl, rfl, trivial⟩, hM⟩ ?_
  rintro s8 a w ⟨hE, hM⟩ o11 hs9 hx10
  unfold Wr at hs9
  refine wp_seq (Zc (Zd hE Za ld rfl fun a hE => Zh hE Za ld rfl rfl rfl fun a hE => Zf ?_))
  refine Zv hE rfl ?_ ?_
  ·intro hb12
   have hs9 := ZA hs9 hb12
   refine wp_skip (Zz (wp_seq (wp_block (wp_region_lit (Zd hE Za ld rfl fun a hE => Zd hE Za ld rfl fun a hE => Zh hE Za ld rfl rfl rfl fun a hE => Zh hE Za ld rfl rfl (Qm _ _ (by decide)) fun a hE => Yj hE Za ld rfl Tryz.underlying3 Tryz.underlying5 ?_))))); intro a hE
   rw [ZW] at hE
   obtain ⟨x14, e15, hs9⟩ := bind_some hs9
   have hi13 := Zj e15
   refine Zn hE Za ld rfl rfl Tryz.underlying29 ty5 hi13.1 fun a hE => Zt (seg := [(vB (Zr (Int.tmod (wr (17 * s8.2)) 256)))]) (cs' := enc (s8.1.setIfInBounds (s8.2).toNat (Zr (Int.tmod (wr (17 * s8.2)) 256)))) hE hM Za rfl rfl rfl ty5 rfl (ZQ (v := s8.1) (x := Zr (Int.tmod (wr (17 * s8.2)) 256)) hi13.1) (Flat.cell (Zr (Int.tmod (wr (17 * s8.2)) 256) : UInt8)) (ZJ (v := s8.1) (x := Zr (Int.tmod (wr (17 * s8.2)) 256)) hi13.1) fun w a hM hE => Zi (Ye (Zz (wp_region_lit (Zd hE Za ld rfl fun a hE => Zh hE Za ld rfl rfl rfl fun a hE => Ze hE Za ld rfl fun a hE => Zi (Zl ?_)))))
   exact ⟨_, (Option.some.inj hs9).symm, hE.sub ⟨rfl, rfl, rfl, trivial⟩, hM⟩
  ·intro hb12
   have hs9 := ZB hs9 hb12
   refine wp_exit (Zp (Zp (Yc ?_)))
   have ht16 := hx10 _ (Option.some.inj hs9).symm
   subst ht16
   refine Zl ?_
   exact ⟨hE.sub ⟨rfl, rfl, trivial⟩, hM⟩
 ·skip
  rintro a w ⟨hE, hM⟩
  refine Zz (Zc (Zm (cs := enc j5) hE Za ld rfl Yu rfl (hM.rawAt (pre := [])) (Flat.len _) ?_)); intro a hE
  have hM := hM.pull (pre := [_])
  refine Zt (seg := enc j5) (cs' := enc j5) hE hM Za rfl rfl rfl Yu (Flat.len _) (zle flq) (Flat.cell _) (Zo flq) fun w a hM hE => Zf ?_
  have hr := Option.some.inj hF7
  subst hr
  have hq17 : YB Tryz.prog _ _ (.cell 0 29) _ := ZZ hE rfl Yu rfl (hM.rawAt (pre := [])) (Flat.len _) rfl
  have hM := M.fst (l := []) hM
  exact wp_ret (Zy hE rfl hq17 ⟨_, rfl, rfl, hM.kept⟩)
noncomputable def X4 (p0 : (Vector UInt8 32)) (s14 : (Vector UInt8 16) × (Vector UInt8 16) × Int) : Option (Fl ((Vector UInt8 16) × (Vector UInt8 16) × Int) ((Vector UInt8 16) × (Vector UInt8 16))) :=
 if (decide (s14.2.2 < 16)) = true then ((ZM p0 s14.2.2).bind fun x20 => (ZM s14.2.1 s14.2.2).bind fun x23 => (ZM p0 (wr (16 + s14.2.2))).bind fun x26 => (ZM s14.1 s14.2.2).bind fun x29 => some (Fl.nx ((s14.1.setIfInBounds (s14.2.2).toNat x26), (s14.2.1.setIfInBounds (s14.2.2).toNat x20), wr (s14.2.2 + 1)))) else (some (Fl.ex (s14.1, s14.2.1)))
noncomputable def Vw (p0 : (Vector UInt8 32)) : Option ((Vector UInt8 16) × (Vector UInt8 16)) :=
 (ZG (X4 p0) ((Vector.replicate 16 (0 : UInt8)), (Vector.replicate 16 (0 : UInt8)), 0) : Option ((Vector UInt8 16) × (Vector UInt8 16))).bind fun j11 => (some (j11.2, j11.1) : Option ((Vector UInt8 16) × (Vector UInt8 16))).bind fun j32 => some (j32.1, j32.2)
theorem Hg (w0 : World) (p0 : (Vector UInt8 32)) (r : (Vector UInt8 16) × (Vector UInt8 16)) (hF : Vw p0 = some r) :
  Calls Tryz.prog 221 [(Value.agg (enc p0).toArray)].toArray w0 (fun en w' => ∃ v, en = .returned v ∧ (v = (Value.tuple [(Value.agg (enc r.1).toArray), (Value.agg (enc r.2).toArray)].toArray) ∧ Kept (Old w0) w0 w')) := by
 refine ZD (n := 26) Tryz.func221 rfl rfl (Nat.le_of_ble_eq_true rfl) rfl ?_
 intro a hE
 have hM := M.start w0
 unfold Vw at hF
 refine Zc (ZX (cs := enc p0) hE hM Za ld rfl rfl fun b1 w a hM hE => ZI hE hM Za ld ZH fun b3 w a hM hE => ZI hE hM Za ld ZH fun b5 w a hM hE => Zf (Zc (XG (parts := []) (vs := []) (cs := enc (Vector.replicate 16 (0 : UInt8))) hE Za ld rfl rfl ZH rfl ty5 Y0 fun a hE => XG (parts := []) (vs := []) (cs := enc (Vector.replicate 16 (0 : UInt8))) hE Za ld rfl rfl ZH rfl ty5 Y0 fun a hE => ZI hE hM Za ld ZH fun b7 w a hM hE => ZI hE hM Za ld ZH ?_))); intro b9 w a hM hE
 have hM := hM.pull (pre := [_])
 refine Zt (seg := enc (Vector.replicate 16 (0 : UInt8))) (cs' := enc (Vector.replicate 16 (0 : UInt8))) hE hM Za rfl rfl rfl ZH (Flat.len _) (zle flq) (Flat.cell _) (Zo flq) ?_; intro w a hM hE
 have hM := hM.pull (pre := [_])
 refine Zt (seg := enc (Vector.replicate 16 (0 : UInt8))) (cs' := enc (Vector.replicate 16 (0 : UInt8))) hE hM Za rfl rfl rfl ZH (Flat.len _) (zle flq) (Flat.cell _) (Zo flq) fun w a hM hE => Zf (wp_seq (Zc (Ze hE Za ld rfl fun a hE => Zf ?_)))
 obtain ⟨j11, hl12, hF13⟩ := bind_some hF
 refine ZR (fun a w => Env 26 a [(2, (ptr b3 0)), (3, (ptr b5 0)), (4, (ptr b7 0)), (5, (ptr b9 0))] ∧ M (Old w0) w0 w [raw b9 (enc j11.1), raw b7 (enc j11.2), raw b5 (enc (Vector.replicate 16 (0 : UInt8))), raw b3 (enc (Vector.replicate 16 (0 : UInt8)))]) ?_ ?_
 ·skip
  refine wp_block ?_
  refine ZK (fun (s14 : (Vector UInt8 16) × (Vector UInt8 16) × Int) a w => Env 26 a [(1, (ptr b1 0)), (2, (ptr b3 0)), (3, (ptr b5 0)), (4, (ptr b7 0)), (5, (ptr b9 0)), (6, vI s14.2.2)] ∧ M (Old w0) w0 w [raw b9 (enc s14.1), raw b7 (enc s14.2.1), raw b5 (enc (Vector.replicate 16 (0 : UInt8))), raw b3 (enc (Vector.replicate 16 (0 : UInt8))), raw b1 (enc p0)]) hl12 ⟨hE.sub ⟨rfl, rfl, rfl, rfl, rfl, rfl, trivial⟩, hM⟩ ?_
  rintro s14 a w ⟨hE, hM⟩ o17 hs15 hx16
  unfold X4 at hs15
  refine wp_seq (Zc (Zd hE Za ld rfl fun a hE => Zh hE Za ld rfl rfl rfl fun a hE => Zf ?_))
  refine Zv hE rfl ?_ ?_
  ·intro hb18
   have hs15 := ZA hs15 hb18
   refine wp_skip (Zz (wp_seq (wp_block (Zc (Zd hE Za ld rfl fun a hE => Zd hE Za ld rfl ?_))))); intro a hE
   obtain ⟨x20, e21, hs15⟩ := bind_some hs15
   have hi19 := Zj e21
   refine Zn hE Za ld rfl rfl Tryz.underlying29 ty5 hi19.1 fun a hE => Zq (v := (vB x20)) hE Za ld rfl ty5 rfl (At.vec (hM.rawAt (pre := [_, _, _, _])) hi19.2) ?_; intro a hE
   obtain ⟨x23, e24, hs15⟩ := bind_some hs15
   have hi22 := Zj e24
   refine Zn hE Za ld rfl rfl Tryz.underlying70 ty5 hi22.1 ?_; intro a hE
   have hM := hM.pull (pre := [_])
   refine Zt (seg := [vB x20]) (cs' := enc (s14.2.1.setIfInBounds (s14.2.2).toNat x20)) hE hM Za rfl rfl rfl ty5 rfl (ZQ (v := s14.2.1) (x := x20) hi22.1) (Flat.cell (x20 : UInt8)) (ZJ (v := s14.2.1) (x := x20) hi22.1) fun w a hM hE => Zf (wp_region_lit (Zd hE Za ld rfl fun a hE => Zd hE Za ld rfl fun a hE => Zh hE Za ld rfl rfl rfl ?_)); intro a hE
   obtain ⟨x26, e27, hs15⟩ := bind_some hs15
   have hi25 := Zj e27
   refine Zn hE Za ld rfl rfl Tryz.underlying29 ty5 hi25.1 fun a hE => Zq (v := (vB x26)) hE Za ld rfl ty5 rfl (At.vec (hM.rawAt (pre := [_, _, _, _])) hi25.2) ?_; intro a hE
   obtain ⟨x29, e30, hs15⟩ := bind_some hs15
   have hi28 := Zj e30
   refine Zn hE Za ld rfl rfl Tryz.underlying70 ty5 hi28.1 ?_; intro a hE
   have hM := hM.pull (pre := [_])
   refine Zt (seg := [vB x26]) (cs' := enc (s14.1.setIfInBounds (s14.2.2).toNat x26)) hE hM Za rfl rfl rfl ty5 rfl (ZQ (v := s14.1) (x := x26) hi28.1) (Flat.cell (x26 : UInt8)) (ZJ (v := s14.1) (x := x26) hi28.1) fun w a hM hE => Zi (Ye (Zz (wp_region_lit (Zd hE Za ld rfl fun a hE => Zh hE Za ld rfl rfl rfl fun a hE => Ze hE Za ld rfl fun a hE => Zi (Zl ?_)))))
   exact ⟨_, (Option.some.inj hs15).symm, hE.sub ⟨rfl, rfl, rfl, rfl, rfl, rfl, trivial⟩, hM⟩
  ·intro hb18
   have hs15 := ZB hs15 hb18
   refine wp_exit (Zp (Zp (Yc ?_)))
   have ht31 := hx16 _ (Option.some.inj hs15).symm
   subst ht31
   refine Zl ?_
   have hM := hM.pull (pre := [_, _, _])
   have hM := hM.pull (pre := [_, _, _])
   have hM := hM.pull (pre := [_, _, _])
   have hM := hM.pull (pre := [_, _, _])
   have hM := M.fst (l := [_, _, _, _]) hM
   exact ⟨hE.sub ⟨rfl, rfl, rfl, rfl, trivial⟩, hM⟩
 ·skip
  rintro a w ⟨hE, hM⟩
  refine Zz ?_
  obtain ⟨j32, hl33, hF34⟩ := bind_some hF13
  refine ZU (fun a w => Env 26 a [(2, (ptr b3 0)), (3, (ptr b5 0))] ∧ M (Old w0) w0 w [raw b5 (enc j32.2), raw b3 (enc j32.1)]) ?_ ?_
  ·skip
   have hM := hM.pull (pre := [_, _, _])
   refine VX (n := 26) (hd := [_, _, _]) (tl := [_]) YN rfl rfl [24, 25, 28] (by decide) (fun D u w => M (Old w0) w0 w ([raw b9 (enc j11.1), raw b7 (enc j11.2), raw b5 (enc (Vector.replicate 16 (0 : UInt8)))] ++ qL ([mkT 2 (raw b3 (enc (Vector.replicate 16 (0 : UInt8)))) (raw b3 (enc j11.2))] : Mk) D u) ∧ GOk ([([], fun us v => v = (Value.agg (enc j11.2).toArray)), ([], fun us v => v = (Value.agg (enc j11.1).toArray)), ([], fun us v => True)] : Gs) D u) hE (fun u => ⟨M.qT (M.q0 hM.drew u), Jj⟩) (ZL (Zb ?_ (Zb ?_ (Zb ?_ ZF)))) ?_
   ·intro a w ux35 D hE hI hD hdc hp
    have hM0 := hI.1
    have hM := hI.1
    have hM := hM.togA (pre := [_, _, _]) (Bool.eq_false_iff.2 fun hx => Bool.noConfusion (hD.symm.trans (hdc 2 _ _ rfl (List.mem_of_getElem? (i := 0) rfl) rfl hx)))
    exact Zm (cs := enc j11.2) hE Za ld rfl ZH rfl (hM.rawAt (pre := [_])) (Flat.len _) fun a hE => ⟨_, _, rfl, hE, M.qKeep hM0 rfl, hI.2.put hD rfl ZP rfl⟩
   ·intro a w ux35 D hE hI hD hdc hp
    have hM0 := hI.1
    have hM := hI.1
    exact Zm (cs := enc j11.1) hE Za ld rfl ZH rfl (hM.rawAt (pre := [])) (Flat.len _) fun a hE => ⟨_, _, rfl, hE, M.qKeep hM0 rfl, hI.2.put hD rfl ZP rfl⟩
   ·intro a w ux35 D hE hI hD hdc hp
    have d0 : D 0 = true := hp 0 _ rfl rfl
    have g0 := hI.2 0 d0 _ rfl
    have f0 : ux35 0 = (Value.agg (enc j11.2).toArray) := g0.2
    have hM0 := hI.1
    have hM := hI.1
    have hM := hM.togA (pre := [_, _, _]) hD
    have hM := hM.pull (pre := [_, _, _])
    exact Zt (seg := enc j11.2) (cs' := enc j11.2) hE hM Za rfl (lk rfl f0) rfl ZH (Flat.len _) (zle flq) (Flat.cell _) (Zo flq) fun w a hM hE => ⟨undef, _, rfl, Env.dummy hE (by decide), M.qTog (mk1 := []) (mk2 := []) hM rfl, hI.2.put hD rfl ZP trivial⟩
   ·intro a w ux35 D hE hI hall
    have hM := hI.1
    have d0 : D 0 = true := hall 0 (by decide)
    have d1 : D 1 = true := hall 1 (by decide)
    have d2 : D 2 = true := hall 2 (by decide)
    have f0 : ux35 0 = (Value.agg (enc j11.2).toArray) := (hI.2 0 d0 _ rfl).2
    have f1 : ux35 1 = (Value.agg (enc j11.1).toArray) := (hI.2 1 d1 _ rfl).2
    have hM := hM.togB (pre := [_, _, _]) d2
    have hE := hE.sub (e' := [(25, (Value.agg (enc j11.1).toArray)), (2, (ptr b3 0)), (3, (ptr b5 0)), (4, (ptr b7 0)), (5, (ptr b9 0))]) ⟨lk rfl f1, rfl, rfl, rfl, rfl, trivial⟩
    have hM := hM.pull (pre := [_, _])
    refine Zt (seg := enc j11.1) (cs' := enc j11.1) hE hM Za rfl rfl rfl ZH (Flat.len _) (zle flq) (Flat.cell _) (Zo flq) fun w a hM hE => Zi ?_
    have ht36 := Option.some.inj hl33
    subst ht36
    refine Zl ?_
    have hM := hM.pull (pre := [_, _, _])
    have hM := hM.pull (pre := [_])
    have hM := M.fst (l := [_, _]) hM
    exact ⟨hE.sub ⟨rfl, rfl, trivial⟩, hM⟩
  ·skip
   rintro a w ⟨hE, hM⟩
   have hr := Option.some.inj hF34
   subst hr
   have hq37 : YB Tryz.prog _ _ (.cell 2 70) _ := ZZ hE rfl ZH rfl (hM.rawAt (pre := [_])) (Flat.len _) rfl
   have hq38 : YB Tryz.prog _ _ (.cell 3 70) _ := ZZ hE rfl ZH rfl (hM.rawAt (pre := [])) (Flat.len _) rfl
   have hM := M.fst (l := []) hM
   exact wp_ret (TQ hE rfl hq37 hq38 ⟨_, rfl, rfl, hM.kept⟩)
noncomputable def VI (p1 : (Vector UInt8 16)) (s10 : (Vector UInt8 16) × Int) : Option (Fl ((Vector UInt8 16) × Int) (Vector UInt8 16)) :=
 if (decide (s10.2 < 16)) = true then ((ZM s10.1 s10.2).bind fun x17 => (ZM p1 s10.2).bind fun x20 => (ZM s10.1 s10.2).bind fun x23 => some (Fl.nx ((s10.1.setIfInBounds (s10.2).toNat (x17 ^^^ x20)), wr (s10.2 + 1)))) else (some (Fl.ex s10.1))
noncomputable def Y5 (p0 : (Vector UInt8 16)) (p1 : (Vector UInt8 16)) : Option ((Vector UInt8 16)) :=
 (ZG (VI p1) (p0, 0) : Option ((Vector UInt8 16))).bind fun j7 => some j7
theorem Ur (w0 : World) (p0 : (Vector UInt8 16)) (p1 : (Vector UInt8 16)) (r : (Vector UInt8 16)) (hF : Y5 p0 p1 = some r) :
  Calls Tryz.prog 222 [(Value.agg (enc p0).toArray), (Value.agg (enc p1).toArray)].toArray w0 (fun en w' => ∃ v, en = .returned v ∧ (v = (Value.agg (enc r).toArray) ∧ Kept (Old w0) w0 w')) := by
 refine ZD (n := 20) Tryz.func222 rfl rfl (Nat.le_of_ble_eq_true rfl) rfl ?_
 intro a hE
 have hM := M.start w0
 unfold Y5 at hF
 refine Zc (ZX (cs := enc p0) hE hM Za ld rfl rfl fun b1 w a hM hE => ZX (cs := enc p1) hE hM Za ld rfl rfl fun b3 w a hM hE => ZI hE hM Za ld ZH fun b5 w a hM hE => Zf (wp_seq (Zc (Ze hE Za ld rfl fun a hE => Zf ?_))))
 obtain ⟨j7, hl8, hF9⟩ := bind_some hF
 refine ZR (fun a w => Env 20 a [(2, (ptr b1 0)), (4, (ptr b5 0))] ∧ M (Old w0) w0 w [raw b5 (enc (Vector.replicate 16 (0 : UInt8))), raw b1 (enc j7)]) ?_ ?_
 ·skip
  refine wp_block ?_
  refine ZK (fun (s10 : (Vector UInt8 16) × Int) a w => Env 20 a [(2, (ptr b1 0)), (3, (ptr b3 0)), (4, (ptr b5 0)), (5, vI s10.2)] ∧ M (Old w0) w0 w [raw b5 (enc (Vector.replicate 16 (0 : UInt8))), raw b3 (enc p1), raw b1 (enc s10.1)]) hl8 ⟨hE.sub ⟨rfl, rfl, rfl, rfl, trivial⟩, hM⟩ ?_
  rintro s10 a w ⟨hE, hM⟩ o13 hs11 hx12
  unfold VI at hs11
  refine wp_seq (Zc (Zd hE Za ld rfl fun a hE => Zh hE Za ld rfl rfl rfl fun a hE => Zf ?_))
  refine Zv hE rfl ?_ ?_
  ·intro hb14
   have hs11 := ZA hs11 hb14
   refine wp_skip (Zz (wp_seq (wp_block ?_)))
   obtain ⟨x17, e18, hs11⟩ := bind_some hs11
   have hi16 := Zj e18
   obtain ⟨x20, e21, hs11⟩ := bind_some hs11
   have hi19 := Zj e21
   obtain ⟨x23, e24, hs11⟩ := bind_some hs11
   have hi22 := Zj e24
   refine Yr (n := 20) (hd := [_, _, _, _, _, _, _, _, _]) (tl := [_]) YN rfl rfl [10, 11, 12, 13, 14, 15, 16, 17, 18] (by decide) (fun w => M (Old w0) w0 w [raw b5 (enc (Vector.replicate 16 (0 : UInt8))), raw b3 (enc p1), raw b1 (enc s10.1)]) (fun j => ([fun v _ => v = (vI s10.2), fun v _ => v = (vI s10.2), fun v _ => v = (ptr b1 (0 + (s10.2).toNat * 1)), fun v _ => v = (vB x17), fun v _ => v = (vI s10.2), fun v _ => v = (ptr b3 (0 + (s10.2).toNat * 1)), fun v _ => v = (vB x20), fun v _ => v = (vB (x17 ^^^ x20)), fun v _ => v = (ptr b1 (0 + (s10.2).toNat * 1))] : List (Value → World → Prop)).getD j (fun _ _ => True)) (fun _ _ h hk => h.keep hk) (gup (Zk (Zk (Zk (Zk (Zk (Zk (Zk (Zk (Zk VK)))))))))) hE hM.drew (ZL (Zb ?_ (Zb ?_ (Zb ?_ (Zb ?_ (Zb ?_ (Zb ?_ (Zb ?_ (Zb ?_ (Zb ?_ ZF)))))))))) ?_
   ·exact fun a w ux15 hE hM hp => Zd hE Za ld rfl fun a hE => ⟨Kept.refl _ _, _, _, rfl, hE, rfl⟩
   ·exact fun a w ux15 hE hM hp => Zd hE Za ld rfl fun a hE => ⟨Kept.refl _ _, _, _, rfl, hE, rfl⟩
   ·intro a w ux15 hE hM hp
    have f1 : ux15 1 = (vI s10.2) := hp 0 _ rfl rfl
    exact Zn hE Za ld rfl (lk rfl f1) Tryz.underlying70 ty5 hi16.1 fun a hE => ⟨Kept.refl _ _, _, _, rfl, hE, rfl⟩
   ·intro a w ux15 hE hM hp
    have f2 : ux15 2 = (ptr b1 (0 + (s10.2).toNat * 1)) := hp 0 _ rfl rfl
    exact Zq (v := (vB x17)) hE Za ld (lk rfl f2) ty5 rfl (At.vec (hM.rawAt (pre := [_, _])) hi16.2) fun a hE => ⟨Kept.refl _ _, _, _, rfl, hE, rfl⟩
   ·exact fun a w ux15 hE hM hp => Zd hE Za ld rfl fun a hE => ⟨Kept.refl _ _, _, _, rfl, hE, rfl⟩
   ·intro a w ux15 hE hM hp
    have f4 : ux15 4 = (vI s10.2) := hp 0 _ rfl rfl
    exact Zn hE Za ld rfl (lk rfl f4) Tryz.underlying70 ty5 hi19.1 fun a hE => ⟨Kept.refl _ _, _, _, rfl, hE, rfl⟩
   ·intro a w ux15 hE hM hp
    have f5 : ux15 5 = (ptr b3 (0 + (s10.2).toNat * 1)) := hp 0 _ rfl rfl
    exact Zq (v := (vB x20)) hE Za ld (lk rfl f5) ty5 rfl (At.vec (hM.rawAt (pre := [_])) hi19.2) fun a hE => ⟨Kept.refl _ _, _, _, rfl, hE, rfl⟩
   ·intro a w ux15 hE hM hp
    have f3 : ux15 3 = (vB x17) := hp 0 _ rfl rfl
    have f6 : ux15 6 = (vB x20) := hp 1 _ rfl rfl
    exact Zh hE Za ld (lk rfl f3) (lk rfl f6) (WJ x17 x20) fun a hE => ⟨Kept.refl _ _, _, _, rfl, hE, rfl⟩
   ·intro a w ux15 hE hM hp
    have f0 : ux15 0 = (vI s10.2) := hp 0 _ rfl rfl
    exact Zn hE Za ld rfl (lk rfl f0) Tryz.underlying70 ty5 hi22.1 fun a hE => ⟨Kept.refl _ _, _, _, rfl, hE, rfl⟩
   ·intro a w ux15 hE hM hg
    have hE := hE.sub (e' := [(17, (vB (x17 ^^^ x20))), (18, (ptr b1 (0 + (s10.2).toNat * 1))), (2, (ptr b1 0)), (3, (ptr b3 0)), (4, (ptr b5 0)), (5, vI s10.2), (6, vI s10.2), (7, (vT (decide (s10.2 < 16))))]) ⟨lk rfl (hg 7 (by decide)), lk rfl (hg 8 (by decide)), rfl, rfl, rfl, rfl, rfl, rfl, trivial⟩
    have hM := hM.pull (pre := [_, _])
    refine Zt (seg := [(vB (x17 ^^^ x20))]) (cs' := enc (s10.1.setIfInBounds (s10.2).toNat (x17 ^^^ x20))) hE hM Za rfl rfl rfl ty5 rfl (ZQ (v := s10.1) (x := x17 ^^^ x20) hi22.1) (Flat.cell (x17 ^^^ x20 : UInt8)) (ZJ (v := s10.1) (x := x17 ^^^ x20) hi22.1) fun w a hM hE => Zi (Ye (Zz (wp_region_lit (Zd hE Za ld rfl fun a hE => Zh hE Za ld rfl rfl rfl fun a hE => Ze hE Za ld rfl fun a hE => Zi (Zl ?_)))))
    have hM := hM.pull (pre := [_, _])
    have hM := hM.pull (pre := [_, _])
    exact ⟨_, (Option.some.inj hs11).symm, hE.sub ⟨rfl, rfl, rfl, rfl, trivial⟩, hM⟩
  ·intro hb14
   have hs11 := ZB hs11 hb14
   refine wp_exit (Zp (Zp (Yc ?_)))
   have ht25 := hx12 _ (Option.some.inj hs11).symm
   subst ht25
   refine Zl ?_
   have hM := hM.pull (pre := [_, _])
   have hM := hM.pull (pre := [_])
   have hM := M.fst (l := [_, _]) hM
   exact ⟨hE.sub ⟨rfl, rfl, trivial⟩, hM⟩
 ·skip
  rintro a w ⟨hE, hM⟩
  refine Zz (Zc (Zm (cs := enc j7) hE Za ld rfl ZH rfl (hM.rawAt (pre := [_])) (Flat.len _) fun a hE => Zt (seg := enc j7) (cs' := enc j7) hE hM Za rfl rfl rfl ZH (Flat.len _) (zle flq) (Flat.cell _) (Zo flq) fun w a hM hE => Zf ?_))
  have hr := Option.some.inj hF9
  subst hr
  have hq26 : YB Tryz.prog _ _ (.cell 4 70) _ := ZZ hE rfl ZH rfl (hM.rawAt (pre := [])) (Flat.len _) rfl
  have hM := M.fst (l := []) hM
  exact wp_ret (Zy hE rfl hq26 ⟨_, rfl, rfl, hM.kept⟩)
noncomputable def W1 (p0 : (Vector UInt8 256)) (p2 : Int) (s10 : (Vector UInt8 16) × Int) : Option (Fl ((Vector UInt8 16) × Int) (Vector UInt8 16)) :=
 if (decide (s10.2 < 16)) = true then (((ZM s10.1 (Int.tmod (wr (s10.2 + 15)) 16)).bind fun x19 => (if (s10.2 == 0) = true then (some (x19 ^^^ (Zr p2))) else (some x19) : Option (UInt8)).bind fun j21 => (ZM s10.1 s10.2).bind fun x29 => (ZM p0 (bI j21)).bind fun x32 => (ZM s10.1 s10.2).bind fun x35 => some (s10.1.setIfInBounds (s10.2).toNat (x29 ^^^ x32)) : Option ((Vector UInt8 16))).bind fun j15 => some (Fl.nx (j15, wr (s10.2 + 1)))) else (some (Fl.ex s10.1))
noncomputable def UD (p0 : (Vector UInt8 256)) (p1 : (Vector UInt8 16)) (p2 : Int) : Option ((Vector UInt8 16)) :=
 (ZG (W1 p0 p2) (p1, 0) : Option ((Vector UInt8 16))).bind fun j7 => some j7
theorem BA (w0 : World) (p0 : (Vector UInt8 256)) (p1 : (Vector UInt8 16)) (p2 : Int) (r : (Vector UInt8 16)) (hF : UD p0 p1 p2 = some r) :
  Calls Tryz.prog 250 [(Value.agg (enc p0).toArray), (Value.agg (enc p1).toArray), vI p2].toArray w0 (fun en w' => ∃ v, en = .returned v ∧ (v = (Value.agg (enc r).toArray) ∧ Kept (Old w0) w0 w')) := by
 refine ZD (n := 34) Tryz.func250 rfl rfl (Nat.le_of_ble_eq_true rfl) rfl ?_
 intro a hE
 have hM := M.start w0
 unfold UD at hF
 refine Zc (ZX (cs := enc p0) hE hM Za ld rfl rfl fun b1 w a hM hE => ZX (cs := enc p1) hE hM Za ld rfl rfl fun b3 w a hM hE => ZI hE hM Za ld ZH fun b5 w a hM hE => Zf (wp_seq (Zc (Ze hE Za ld rfl fun a hE => Zf ?_))))
 obtain ⟨j7, hl8, hF9⟩ := bind_some hF
 refine ZR (fun a w => Env 34 a [(4, (ptr b3 0)), (6, (ptr b5 0))] ∧ M (Old w0) w0 w [raw b5 (enc (Vector.replicate 16 (0 : UInt8))), raw b3 (enc j7)]) ?_ ?_
 ·skip
  refine wp_block ?_
  refine ZK (fun (s10 : (Vector UInt8 16) × Int) a w => Env 34 a [(2, vI p2), (3, (ptr b1 0)), (4, (ptr b3 0)), (6, (ptr b5 0)), (7, vI s10.2)] ∧ M (Old w0) w0 w [raw b5 (enc (Vector.replicate 16 (0 : UInt8))), raw b3 (enc s10.1), raw b1 (enc p0)]) hl8 ⟨hE.sub ⟨rfl, rfl, rfl, rfl, rfl, trivial⟩, hM⟩ ?_
  rintro s10 a w ⟨hE, hM⟩ o13 hs11 hx12
  unfold W1 at hs11
  refine wp_seq (Zc (Zd hE Za ld rfl fun a hE => Zh hE Za ld rfl rfl rfl fun a hE => Zf ?_))
  refine Zv hE rfl ?_ ?_
  ·intro hb14
   have hs11 := ZA hs11 hb14
   refine wp_skip (Zz ?_)
   obtain ⟨j15, hl16, hF17⟩ := bind_some hs11
   refine ZU (fun a w => Env 34 a [(2, vI p2), (3, (ptr b1 0)), (4, (ptr b3 0)), (6, (ptr b5 0)), (7, vI s10.2)] ∧ M (Old w0) w0 w [raw b5 (enc (Vector.replicate 16 (0 : UInt8))), raw b3 (enc j15), raw b1 (enc p0)]) ?_ ?_
   ·skip
    refine wp_block (Zc (Zd hE Za ld rfl fun a hE => Zh hE Za ld rfl rfl rfl fun a hE => Zh hE Za ld rfl rfl (Qm _ _ (by decide)) ?_)); intro a hE
    obtain ⟨x19, e20, hl16⟩ := bind_some hl16
    have hi18 := Zj e20
    refine Zn hE Za ld rfl rfl Tryz.underlying70 ty5 hi18.1 fun a hE => Zq (v := (vB x19)) hE Za ld rfl ty5 rfl (At.vec (hM.rawAt (pre := [_])) hi18.2) fun a hE => Ze hE Za ld rfl fun a hE => Zf ?_
    obtain ⟨j21, hl22, hF23⟩ := bind_some hl16
    refine ZU (fun a w => Env 34 a [(2, vI p2), (3, (ptr b1 0)), (4, (ptr b3 0)), (6, (ptr b5 0)), (7, vI s10.2), (8, vB j21)] ∧ M (Old w0) w0 w [raw b5 (enc (Vector.replicate 16 (0 : UInt8))), raw b3 (enc s10.1), raw b1 (enc p0)]) ?_ ?_
    ·skip
     refine Zc (Zd hE Za ld rfl fun a hE => Zh hE Za ld rfl rfl rfl fun a hE => Zf ?_)
     refine Zv hE rfl ?_ ?_
     ·intro hb24
      have hl22 := ZA hl22 hb24
      refine wp_region_lit (Zd hE Za ld rfl fun a hE => Zd hE Za ld rfl fun a hE => Yj hE Za ld rfl Tryz.underlying2 Tryz.underlying5 ?_); intro a hE
      rw [ZW] at hE
      refine Zh hE Za ld rfl rfl (WJ x19 (Zr p2)) fun a hE => Ze hE Za ld rfl fun a hE => Zi ?_
      have ht25 := Option.some.inj hl22
      subst ht25
      refine Zl ?_
      exact ⟨hE.sub ⟨rfl, rfl, rfl, rfl, rfl, rfl, trivial⟩, hM⟩
     ·intro hb24
      have hl22 := ZB hl22 hb24
      refine wp_skip ?_
      have ht26 := Option.some.inj hl22
      subst ht26
      refine Zl ?_
      exact ⟨hE.sub ⟨rfl, rfl, rfl, rfl, rfl, rfl, trivial⟩, hM⟩
    ·skip
     rintro a w ⟨hE, hM⟩
     obtain ⟨x29, e30, hF23⟩ := bind_some hF23
     have hi28 := Zj e30
     obtain ⟨x32, e33, hF23⟩ := bind_some hF23
     have hi31 := Zj e33
     obtain ⟨x35, e36, hF23⟩ := bind_some hF23
     have hi34 := Zj e36
     refine Yr (n := 34) (hd := [_, _, _, _, _, _, _, _, _]) (tl := [_]) YN rfl rfl [24, 25, 26, 27, 28, 29, 30, 31, 32] (by decide) (fun w => M (Old w0) w0 w [raw b5 (enc (Vector.replicate 16 (0 : UInt8))), raw b3 (enc s10.1), raw b1 (enc p0)]) (fun j => ([fun v _ => v = (vI s10.2), fun v _ => v = (vI s10.2), fun v _ => v = (ptr b3 (0 + (s10.2).toNat * 1)), fun v _ => v = (vB x29), fun v _ => v = (vB j21), fun v _ => v = (ptr b1 (0 + ((bI j21)).toNat * 1)), fun v _ => v = (vB x32), fun v _ => v = (vB (x29 ^^^ x32)), fun v _ => v = (ptr b3 (0 + (s10.2).toNat * 1))] : List (Value → World → Prop)).getD j (fun _ _ => True)) (fun _ _ h hk => h.keep hk) (gup (Zk (Zk (Zk (Zk (Zk (Zk (Zk (Zk (Zk VK)))))))))) hE hM.drew (ZL (Zb ?_ (Zb ?_ (Zb ?_ (Zb ?_ (Zb ?_ (Zb ?_ (Zb ?_ (Zb ?_ (Zb ?_ ZF)))))))))) ?_
     ·exact fun a w ux27 hE hM hp => Zd hE Za ld rfl fun a hE => ⟨Kept.refl _ _, _, _, rfl, hE, rfl⟩
     ·exact fun a w ux27 hE hM hp => Zd hE Za ld rfl fun a hE => ⟨Kept.refl _ _, _, _, rfl, hE, rfl⟩
     ·intro a w ux27 hE hM hp
      have f1 : ux27 1 = (vI s10.2) := hp 0 _ rfl rfl
      exact Zn hE Za ld rfl (lk rfl f1) Tryz.underlying70 ty5 hi28.1 fun a hE => ⟨Kept.refl _ _, _, _, rfl, hE, rfl⟩
     ·intro a w ux27 hE hM hp
      have f2 : ux27 2 = (ptr b3 (0 + (s10.2).toNat * 1)) := hp 0 _ rfl rfl
      exact Zq (v := (vB x29)) hE Za ld (lk rfl f2) ty5 rfl (At.vec (hM.rawAt (pre := [_])) hi28.2) fun a hE => ⟨Kept.refl _ _, _, _, rfl, hE, rfl⟩
     ·exact fun a w ux27 hE hM hp => Zd hE Za ld rfl fun a hE => ⟨Kept.refl _ _, _, _, rfl, hE, rfl⟩
     ·intro a w ux27 hE hM hp
      have f4 : ux27 4 = (vB j21) := hp 0 _ rfl rfl
      exact Zn hE Za ld rfl (lk rfl f4) Tryz.underlying167 ty5 hi31.1 fun a hE => ⟨Kept.refl _ _, _, _, rfl, hE, rfl⟩
     ·intro a w ux27 hE hM hp
      have f5 : ux27 5 = (ptr b1 (0 + ((bI j21)).toNat * 1)) := hp 0 _ rfl rfl
      exact Zq (v := (vB x32)) hE Za ld (lk rfl f5) ty5 rfl (At.vec (hM.rawAt (pre := [_, _])) hi31.2) fun a hE => ⟨Kept.refl _ _, _, _, rfl, hE, rfl⟩
     ·intro a w ux27 hE hM hp
      have f3 : ux27 3 = (vB x29) := hp 0 _ rfl rfl
      have f6 : ux27 6 = (vB x32) := hp 1 _ rfl rfl
      exact Zh hE Za ld (lk rfl f3) (lk rfl f6) (WJ x29 x32) fun a hE => ⟨Kept.refl _ _, _, _, rfl, hE, rfl⟩
     ·intro a w ux27 hE hM hp
      have f0 : ux27 0 = (vI s10.2) := hp 0 _ rfl rfl
      exact Zn hE Za ld rfl (lk rfl f0) Tryz.underlying70 ty5 hi34.1 fun a hE => ⟨Kept.refl _ _, _, _, rfl, hE, rfl⟩
     ·intro a w ux27 hE hM hg
      have hE := hE.sub (e' := [(31, (vB (x29 ^^^ x32))), (32, (ptr b3 (0 + (s10.2).toNat * 1))), (2, vI p2), (3, (ptr b1 0)), (4, (ptr b3 0)), (6, (ptr b5 0)), (7, vI s10.2), (8, vB j21)]) ⟨lk rfl (hg 7 (by decide)), lk rfl (hg 8 (by decide)), rfl, rfl, rfl, rfl, rfl, rfl, trivial⟩
      have hM := hM.pull (pre := [_])
      refine Zt (seg := [(vB (x29 ^^^ x32))]) (cs' := enc (s10.1.setIfInBounds (s10.2).toNat (x29 ^^^ x32))) hE hM Za rfl rfl rfl ty5 rfl (ZQ (v := s10.1) (x := x29 ^^^ x32) hi34.1) (Flat.cell (x29 ^^^ x32 : UInt8)) (ZJ (v := s10.1) (x := x29 ^^^ x32) hi34.1) fun w a hM hE => Zi (Ye ?_)
      have ht37 := Option.some.inj hF23
      subst ht37
      refine Zl ?_
      have hM := hM.pull (pre := [_, _])
      have hM := hM.pull (pre := [_])
      have hM := hM.pull (pre := [_, _])
      exact ⟨hE.sub ⟨rfl, rfl, rfl, rfl, rfl, trivial⟩, hM⟩
   ·skip
    rintro a w ⟨hE, hM⟩
    refine wp_region_lit (Zd hE Za ld rfl fun a hE => Zh hE Za ld rfl rfl rfl fun a hE => Ze hE Za ld rfl fun a hE => Zi (Zl ?_))
    exact ⟨_, (Option.some.inj hF17).symm, hE.sub ⟨rfl, rfl, rfl, rfl, rfl, trivial⟩, hM⟩
  ·intro hb14
   have hs11 := ZB hs11 hb14
   refine wp_exit (Zp (Zp (Yc ?_)))
   have ht38 := hx12 _ (Option.some.inj hs11).symm
   subst ht38
   refine Zl ?_
   have hM := hM.pull (pre := [_])
   have hM := hM.pull (pre := [_])
   have hM := M.fst (l := [_, _]) hM
   exact ⟨hE.sub ⟨rfl, rfl, trivial⟩, hM⟩
 ·skip
  rintro a w ⟨hE, hM⟩
  refine Zz (Zc (Zm (cs := enc j7) hE Za ld rfl ZH rfl (hM.rawAt (pre := [_])) (Flat.len _) fun a hE => Zt (seg := enc j7) (cs' := enc j7) hE hM Za rfl rfl rfl ZH (Flat.len _) (zle flq) (Flat.cell _) (Zo flq) fun w a hM hE => Zf ?_))
  have hr := Option.some.inj hF9
  subst hr
  have hq39 : YB Tryz.prog _ _ (.cell 6 70) _ := ZZ hE rfl ZH rfl (hM.rawAt (pre := [])) (Flat.len _) rfl
  have hM := M.fst (l := []) hM
  exact wp_ret (Zy hE rfl hq39 ⟨_, rfl, rfl, hM.kept⟩)
noncomputable def WX (p0 : GCipher) (p2 : Int) (s12 : (Vector UInt8 16) × (List (Vector UInt8 16)) × Int) : Option (Fl ((Vector UInt8 16) × (List (Vector UInt8 16)) × Int) (List (Vector UInt8 16))) :=
 if (decide (s12.2.2 ≤ p2)) = true then ((UD p0.Box s12.1 s12.2.2).bind fun r19 => (app 16 s12.2.1 ([r19] : List (Vector UInt8 16))).bind fun l23 => some (Fl.nx (r19, (s12.2.1 ++ ([r19] : List (Vector UInt8 16))), wr (s12.2.2 + 1)))) else (some (Fl.ex s12.2.1))
noncomputable def US (p0 : GCipher) (p1 : (Vector UInt8 16)) (p2 : Int) : Option ((List (Vector UInt8 16))) :=
 (ZG (WX p0 p2) (p1, ([p1] : List (Vector UInt8 16)), 1) : Option ((List (Vector UInt8 16)))).bind fun j7 => some j7
theorem B7 (w0 : World) (p0 : GCipher) (p1 : (Vector UInt8 16)) (p2 : Int) (r : (List (Vector UInt8 16))) (hF : US p0 p1 p2 = some r) :
  Calls Tryz.prog 241 [(Value.agg (enc p0).toArray), (Value.agg (enc p1).toArray), vI p2].toArray w0 (fun en w' => ∃ v, en = .returned v ∧ (∃ (y1 : Value), v = y1 ∧ Fr w0 w' [osl NoB (r : List (Vector UInt8 16)) y1] ∧ Kept (Old w0) w0 w')) := by
 refine ZD (n := 26) Tryz.func241 rfl rfl (Nat.le_of_ble_eq_true rfl) rfl ?_
 intro a hE
 have hM := M.start w0
 unfold US at hF
 refine Zc (ZX (cs := cat [[vI p0.Field], enc p0.Box, enc p0.Mix, enc p0.Places, [vI p0.Rounds]]) hE hM Za ld rfl rfl fun b1 w a hM hE => ZX (cs := enc p1) hE hM Za ld rfl rfl fun b3 w a hM hE => Ze hE Za ld rfl fun a hE => Zf (Zc (Zm (cs := enc p1) hE Za ld rfl ZH rfl (hM.rawAt (pre := [])) (Flat.len _) fun a hE => Z5 (xs := [.tmp 9]) (l := ([p1] : List (Vector UInt8 16))) (vs := [(Value.agg (enc p1).toArray)]) hE hM Za ld rfl rfl Tryz.underlying32 ZH rfl (by decide) rfl fun u5 w a hM hE => Ze hE Za ld rfl fun a hE => Zf (wp_seq (Zc (Ze hE Za ld rfl ?_)))))); intro a hE
 refine Zf ?_
 obtain ⟨j7, hl8, hF9⟩ := bind_some hF
 refine ZR (fun a w => ∃ (u10 : Value), Env 26 a [(7, u10)] ∧ M (Old w0) w0 w [osl NoB (j7 : List (Vector UInt8 16)) u10]) ?_ ?_
 ·skip
  refine wp_block ?_
  have hM := hM.pull (pre := [_, _])
  have hM := hM.pull (pre := [_, _])
  refine ZK (fun (s12 : (Vector UInt8 16) × (List (Vector UInt8 16)) × Int) a w => ∃ (u13 : Value), Env 26 a [(2, vI p2), (3, (ptr b1 0)), (4, (ptr b3 0)), (7, u13), (8, vI s12.2.2)] ∧ M (Old w0) w0 w [raw b3 (enc s12.1), raw b1 (cat [[vI p0.Field], enc p0.Box, enc p0.Mix, enc p0.Places, [vI p0.Rounds]]), osl NoB (s12.2.1 : List (Vector UInt8 16)) u13]) hl8 ⟨u5, hE.sub ⟨rfl, rfl, rfl, rfl, rfl, trivial⟩, hM⟩ ?_
  rintro s12 a w ⟨u13, hE, hM⟩ o17 hs15 hx16
  unfold WX at hs15
  refine wp_seq (Zc (Zd hE Za ld rfl fun a hE => Zd hE Za ld rfl fun a hE => Zh hE Za ld rfl rfl rfl fun a hE => Zf ?_))
  refine Zv hE rfl ?_ ?_
  ·intro hb18
   have hs15 := ZA hs15 hb18
   refine wp_skip (Zz (wp_seq (wp_block (Zc (Zg hE Za ld rfl (KF) fun a hE => Zm (cs := enc p0.Box) hE Za ld rfl Xt rfl (At.cat (pre := [[vI p0.Field]]) (hM.rawAt (pre := [_])) (cl1 (n := 1) (m := 0) rfl cl0)) (Flat.len _) fun a hE => Zm (cs := enc s12.1) hE Za ld rfl ZH rfl (hM.rawAt (pre := [])) (Flat.len _) fun a hE => Zd hE Za ld rfl ?_))))); intro a hE
   obtain ⟨r19, e20, hs15⟩ := bind_some hs15
   refine Zs hE Za ld rfl cb250 (BA _ p0.Box s12.1 s12.2.2 r19 e20) ?_
   rintro v w a ⟨rfl, hK⟩ hE
   have hM := hM.keep hK
   refine Zt (seg := enc r19) (cs' := enc r19) hE hM Za rfl rfl rfl ZH (Flat.len _) (zle flq) (Flat.cell _) (Zo flq) fun w a hM hE => Zf (wp_region_lit (Zd hE Za ld rfl fun a hE => Zm (cs := enc r19) hE Za ld rfl ZH rfl (hM.rawAt (pre := [])) (Flat.len _) fun a hE => Z5 (xs := [.tmp 22]) (l := ([r19] : List (Vector UInt8 16))) (vs := [(Value.agg (enc r19).toArray)]) hE hM Za ld rfl rfl Tryz.underlying32 ZH rfl (by decide) rfl ?_)); intro u21 w a hM hE
   obtain ⟨l23, e24, hs15⟩ := bind_some hs15
   obtain ⟨e27, rfl⟩ := Yn e24
   have hM := hM.pull (pre := [_, _, _])
   refine Yb hE hM Za ld rfl rfl (hM.sl (pre := [_]) noB) Tryz.underlying32 ZH rfl (by decide) e27 fun u25 w a hM hE => Ze hE Za ld rfl fun a hE => Zi (Ye (Zz (wp_region_lit (Zd hE Za ld rfl fun a hE => Zh hE Za ld rfl rfl rfl fun a hE => Ze hE Za ld rfl fun a hE => Zi (Zl ?_)))))
   have hM := hM.pull (pre := [_, _, _])
   have hM := hM.pull (pre := [_, _, _])
   have hM := M.fst (l := [_, _, _]) hM
   exact ⟨_, (Option.some.inj hs15).symm, u25, hE.sub ⟨rfl, rfl, rfl, rfl, rfl, trivial⟩, hM⟩
  ·intro hb18
   have hs15 := ZB hs15 hb18
   refine wp_exit (Zp (Zp (Yc ?_)))
   have ht28 := hx16 _ (Option.some.inj hs15).symm
   subst ht28
   refine Zl ?_
   have hM := hM.pull (pre := [_, _])
   have hM := M.fst (l := [_]) hM
   exact ⟨u13, hE.sub ⟨rfl, trivial⟩, hM⟩
 ·skip
  rintro a w ⟨u10, hE, hM⟩
  refine Zz (Zc (Zd hE Za ld rfl fun a hE => Ze hE Za ld rfl fun a hE => Zf ?_))
  have hr := Option.some.inj hF9
  subst hr
  exact wp_ret (Zy hE rfl (Zu hE rfl) ⟨_, rfl, u10, rfl, hM.outF (Xu Xo), hM.kept⟩)
noncomputable def Ws (p0 : (Vector UInt8 256)) (s10 : (Vector UInt8 16) × Int) : Option (Fl ((Vector UInt8 16) × Int) (Vector UInt8 16)) :=
 if (decide (s10.2 < 16)) = true then ((ZM s10.1 s10.2).bind fun x16 => (ZM p0 (bI x16)).bind fun x19 => (ZM s10.1 s10.2).bind fun x22 => some (Fl.nx ((s10.1.setIfInBounds (s10.2).toNat x19), wr (s10.2 + 1)))) else (some (Fl.ex s10.1))
noncomputable def Uf (p0 : (Vector UInt8 256)) (p1 : (Vector UInt8 16)) : Option ((Vector UInt8 16)) :=
 (ZG (Ws p0) (p1, 0) : Option ((Vector UInt8 16))).bind fun j7 => some j7
theorem H5 (w0 : World) (p0 : (Vector UInt8 256)) (p1 : (Vector UInt8 16)) (r : (Vector UInt8 16)) (hF : Uf p0 p1 = some r) :
  Calls Tryz.prog 243 [(Value.agg (enc p0).toArray), (Value.agg (enc p1).toArray)].toArray w0 (fun en w' => ∃ v, en = .returned v ∧ (v = (Value.agg (enc r).toArray) ∧ Kept (Old w0) w0 w')) := by
 refine ZD (n := 18) Tryz.func243 rfl rfl (Nat.le_of_ble_eq_true rfl) rfl ?_
 intro a hE
 have hM := M.start w0
 unfold Uf at hF
 refine Zc (ZX (cs := enc p0) hE hM Za ld rfl rfl fun b1 w a hM hE => ZX (cs := enc p1) hE hM Za ld rfl rfl fun b3 w a hM hE => ZI hE hM Za ld ZH fun b5 w a hM hE => Zf (wp_seq (Zc (Ze hE Za ld rfl fun a hE => Zf ?_))))
 obtain ⟨j7, hl8, hF9⟩ := bind_some hF
 refine ZR (fun a w => Env 18 a [(3, (ptr b3 0)), (4, (ptr b5 0))] ∧ M (Old w0) w0 w [raw b5 (enc (Vector.replicate 16 (0 : UInt8))), raw b3 (enc j7)]) ?_ ?_
 ·skip
  refine wp_block ?_
  refine ZK (fun (s10 : (Vector UInt8 16) × Int) a w => Env 18 a [(2, (ptr b1 0)), (3, (ptr b3 0)), (4, (ptr b5 0)), (5, vI s10.2)] ∧ M (Old w0) w0 w [raw b5 (enc (Vector.replicate 16 (0 : UInt8))), raw b3 (enc s10.1), raw b1 (enc p0)]) hl8 ⟨hE.sub ⟨rfl, rfl, rfl, rfl, trivial⟩, hM⟩ ?_
  rintro s10 a w ⟨hE, hM⟩ o13 hs11 hx12
  unfold Ws at hs11
  refine wp_seq (Zc (Zd hE Za ld rfl fun a hE => Zh hE Za ld rfl rfl rfl fun a hE => Zf ?_))
  refine Zv hE rfl ?_ ?_
  ·intro hb14
   have hs11 := ZA hs11 hb14
   refine wp_skip (Zz (wp_seq (wp_block (wp_region_lit (Zd hE Za ld rfl fun a hE => Zd hE Za ld rfl ?_))))); intro a hE
   obtain ⟨x16, e17, hs11⟩ := bind_some hs11
   have hi15 := Zj e17
   refine Zn hE Za ld rfl rfl Tryz.underlying70 ty5 hi15.1 fun a hE => Zq (v := (vB x16)) hE Za ld rfl ty5 rfl (At.vec (hM.rawAt (pre := [_])) hi15.2) ?_; intro a hE
   obtain ⟨x19, e20, hs11⟩ := bind_some hs11
   have hi18 := Zj e20
   refine Zn hE Za ld rfl rfl Tryz.underlying167 ty5 hi18.1 fun a hE => Zq (v := (vB x19)) hE Za ld rfl ty5 rfl (At.vec (hM.rawAt (pre := [_, _])) hi18.2) ?_; intro a hE
   obtain ⟨x22, e23, hs11⟩ := bind_some hs11
   have hi21 := Zj e23
   refine Zn hE Za ld rfl rfl Tryz.underlying70 ty5 hi21.1 ?_; intro a hE
   have hM := hM.pull (pre := [_])
   refine Zt (seg := [vB x19]) (cs' := enc (s10.1.setIfInBounds (s10.2).toNat x19)) hE hM Za rfl rfl rfl ty5 rfl (ZQ (v := s10.1) (x := x19) hi21.1) (Flat.cell (x19 : UInt8)) (ZJ (v := s10.1) (x := x19) hi21.1) fun w a hM hE => Zi (Ye (Zz (wp_region_lit (Zd hE Za ld rfl fun a hE => Zh hE Za ld rfl rfl rfl fun a hE => Ze hE Za ld rfl fun a hE => Zi (Zl ?_)))))
   have hM := hM.pull (pre := [_, _])
   have hM := hM.pull (pre := [_])
   have hM := hM.pull (pre := [_, _])
   exact ⟨_, (Option.some.inj hs11).symm, hE.sub ⟨rfl, rfl, rfl, rfl, trivial⟩, hM⟩
  ·intro hb14
   have hs11 := ZB hs11 hb14
   refine wp_exit (Zp (Zp (Yc ?_)))
   have ht24 := hx12 _ (Option.some.inj hs11).symm
   subst ht24
   refine Zl ?_
   have hM := hM.pull (pre := [_])
   have hM := hM.pull (pre := [_])
   have hM := M.fst (l := [_, _]) hM
   exact ⟨hE.sub ⟨rfl, rfl, trivial⟩, hM⟩
 ·skip
  rintro a w ⟨hE, hM⟩
  refine Zz (Zc (Zm (cs := enc j7) hE Za ld rfl ZH rfl (hM.rawAt (pre := [_])) (Flat.len _) fun a hE => Zt (seg := enc j7) (cs' := enc j7) hE hM Za rfl rfl rfl ZH (Flat.len _) (zle flq) (Flat.cell _) (Zo flq) fun w a hM hE => Zf ?_))
  have hr := Option.some.inj hF9
  subst hr
  have hq25 : YB Tryz.prog _ _ (.cell 4 70) _ := ZZ hE rfl ZH rfl (hM.rawAt (pre := [])) (Flat.len _) rfl
  have hM := M.fst (l := []) hM
  exact wp_ret (Zy hE rfl hq25 ⟨_, rfl, rfl, hM.kept⟩)
noncomputable def WR (p0 : (Vector UInt8 16)) (p1 : (Vector UInt8 16)) (s12 : (Vector UInt8 16) × Int) : Option (Fl ((Vector UInt8 16) × Int) (Vector UInt8 16)) :=
 if (decide (s12.2 < 16)) = true then ((ZM p0 s12.2).bind fun x18 => (ZM p1 (bI x18)).bind fun x21 => (ZM s12.1 s12.2).bind fun x24 => some (Fl.nx ((s12.1.setIfInBounds (s12.2).toNat x21), wr (s12.2 + 1)))) else (some (Fl.ex s12.1))
noncomputable def UV (p0 : (Vector UInt8 16)) (p1 : (Vector UInt8 16)) : Option ((Vector UInt8 16)) :=
 (ZG (WR p0 p1) ((Vector.replicate 16 (0 : UInt8)), 0) : Option ((Vector UInt8 16))).bind fun j9 => some j9
theorem BN (w0 : World) (p0 : (Vector UInt8 16)) (p1 : (Vector UInt8 16)) (r : (Vector UInt8 16)) (hF : UV p0 p1 = some r) :
  Calls Tryz.prog 242 [(Value.agg (enc p0).toArray), (Value.agg (enc p1).toArray)].toArray w0 (fun en w' => ∃ v, en = .returned v ∧ (v = (Value.agg (enc r).toArray) ∧ Kept (Old w0) w0 w')) := by
 refine ZD (n := 20) Tryz.func242 rfl rfl (Nat.le_of_ble_eq_true rfl) rfl ?_
 intro a hE
 have hM := M.start w0
 unfold UV at hF
 refine Zc (ZX (cs := enc p0) hE hM Za ld rfl rfl fun b1 w a hM hE => ZX (cs := enc p1) hE hM Za ld rfl rfl fun b3 w a hM hE => ZI hE hM Za ld ZH fun b5 w a hM hE => Zf (Zc (XG (parts := []) (vs := []) (cs := enc (Vector.replicate 16 (0 : UInt8))) hE Za ld rfl rfl ZH rfl ty5 Y0 fun a hE => ZI hE hM Za ld ZH fun b7 w a hM hE => Zt (seg := enc (Vector.replicate 16 (0 : UInt8))) (cs' := enc (Vector.replicate 16 (0 : UInt8))) hE hM Za rfl rfl rfl ZH (Flat.len _) (zle flq) (Flat.cell _) (Zo flq) fun w a hM hE => Zf (wp_seq (Zc (Ze hE Za ld rfl ?_)))))); intro a hE
 refine Zf ?_
 obtain ⟨j9, hl10, hF11⟩ := bind_some hF
 refine ZR (fun a w => Env 20 a [(4, (ptr b5 0)), (5, (ptr b7 0))] ∧ M (Old w0) w0 w [raw b7 (enc j9), raw b5 (enc (Vector.replicate 16 (0 : UInt8)))]) ?_ ?_
 ·skip
  refine wp_block ?_
  refine ZK (fun (s12 : (Vector UInt8 16) × Int) a w => Env 20 a [(2, (ptr b1 0)), (3, (ptr b3 0)), (4, (ptr b5 0)), (5, (ptr b7 0)), (6, vI s12.2)] ∧ M (Old w0) w0 w [raw b7 (enc s12.1), raw b5 (enc (Vector.replicate 16 (0 : UInt8))), raw b3 (enc p1), raw b1 (enc p0)]) hl10 ⟨hE.sub ⟨rfl, rfl, rfl, rfl, rfl, trivial⟩, hM⟩ ?_
  rintro s12 a w ⟨hE, hM⟩ o15 hs13 hx14
  unfold WR at hs13
  refine wp_seq (Zc (Zd hE Za ld rfl fun a hE => Zh hE Za ld rfl rfl rfl fun a hE => Zf ?_))
  refine Zv hE rfl ?_ ?_
  ·intro hb16
   have hs13 := ZA hs13 hb16
   refine wp_skip (Zz (wp_seq (wp_block (wp_region_lit (Zd hE Za ld rfl fun a hE => Zd hE Za ld rfl ?_))))); intro a hE
   obtain ⟨x18, e19, hs13⟩ := bind_some hs13
   have hi17 := Zj e19
   refine Zn hE Za ld rfl rfl Tryz.underlying171 ty5 hi17.1 fun a hE => Zq (v := (vB x18)) hE Za ld rfl ty5 rfl (At.vec (hM.rawAt (pre := [_, _, _])) hi17.2) ?_; intro a hE
   obtain ⟨x21, e22, hs13⟩ := bind_some hs13
   have hi20 := Zj e22
   refine Zn hE Za ld rfl rfl Tryz.underlying70 ty5 hi20.1 fun a hE => Zq (v := (vB x21)) hE Za ld rfl ty5 rfl (At.vec (hM.rawAt (pre := [_, _])) hi20.2) ?_; intro a hE
   obtain ⟨x24, e25, hs13⟩ := bind_some hs13
   have hi23 := Zj e25
   refine Zn hE Za ld rfl rfl Tryz.underlying70 ty5 hi23.1 fun a hE => Zt (seg := [vB x21]) (cs' := enc (s12.1.setIfInBounds (s12.2).toNat x21)) hE hM Za rfl rfl rfl ty5 rfl (ZQ (v := s12.1) (x := x21) hi23.1) (Flat.cell (x21 : UInt8)) (ZJ (v := s12.1) (x := x21) hi23.1) fun w a hM hE => Zi (Ye (Zz (wp_region_lit (Zd hE Za ld rfl fun a hE => Zh hE Za ld rfl rfl rfl fun a hE => Ze hE Za ld rfl fun a hE => Zi (Zl ?_)))))
   exact ⟨_, (Option.some.inj hs13).symm, hE.sub ⟨rfl, rfl, rfl, rfl, rfl, trivial⟩, hM⟩
  ·intro hb16
   have hs13 := ZB hs13 hb16
   refine wp_exit (Zp (Zp (Yc ?_)))
   have ht26 := hx14 _ (Option.some.inj hs13).symm
   subst ht26
   refine Zl ?_
   have hM := hM.pull (pre := [_])
   have hM := hM.pull (pre := [_])
   have hM := M.fst (l := [_, _]) hM
   exact ⟨hE.sub ⟨rfl, rfl, trivial⟩, hM⟩
 ·skip
  rintro a w ⟨hE, hM⟩
  refine Zz (Zc (Zm (cs := enc j9) hE Za ld rfl ZH rfl (hM.rawAt (pre := [])) (Flat.len _) ?_)); intro a hE
  have hM := hM.pull (pre := [_])
  refine Zt (seg := enc j9) (cs' := enc j9) hE hM Za rfl rfl rfl ZH (Flat.len _) (zle flq) (Flat.cell _) (Zo flq) fun w a hM hE => Zf ?_
  have hr := Option.some.inj hF11
  subst hr
  have hq27 : YB Tryz.prog _ _ (.cell 4 70) _ := ZZ hE rfl ZH rfl (hM.rawAt (pre := [])) (Flat.len _) rfl
  have hM := M.fst (l := []) hM
  exact wp_ret (Zy hE rfl hq27 ⟨_, rfl, rfl, hM.kept⟩)
noncomputable def XL (p0 : Int) (p1 : (Vector (Vector UInt8 4) 4)) (p2 : (Vector UInt8 16)) (s12 : (Vector UInt8 16) × Int) (s20 : (Vector UInt8 16) × Int) (s28 : (Vector UInt8 16) × Int) : Option (Fl ((Vector UInt8 16) × Int) (Vector UInt8 16)) :=
 if (decide (s28.2 < 4)) = true then ((ZM s28.1 (wr ((wr (4 * s12.2)) + s20.2))).bind fun x35 => (ZM p1 s20.2).bind fun x38 => (ZM x38 s28.2).bind fun x41 => (ZM p2 (wr ((wr (4 * s12.2)) + s28.2))).bind fun x44 => (YH p0 x41 x44).bind fun r46 => (ZM s28.1 (wr ((wr (4 * s12.2)) + s20.2))).bind fun x49 => some (Fl.nx ((s28.1.setIfInBounds ((wr ((wr (4 * s12.2)) + s20.2))).toNat (x35 ^^^ r46)), wr (s28.2 + 1)))) else (some (Fl.ex s28.1))
noncomputable def VE (p0 : Int) (p1 : (Vector (Vector UInt8 4) 4)) (p2 : (Vector UInt8 16)) (s12 : (Vector UInt8 16) × Int) (s20 : (Vector UInt8 16) × Int) : Option (Fl ((Vector UInt8 16) × Int) (Vector UInt8 16)) :=
 if (decide (s20.2 < 4)) = true then ((ZG (XL p0 p1 p2 s12 s20) (s20.1, 0) : Option ((Vector UInt8 16))).bind fun j25 => some (Fl.nx (j25, wr (s20.2 + 1)))) else (some (Fl.ex s20.1))
noncomputable def VD (p0 : Int) (p1 : (Vector (Vector UInt8 4) 4)) (p2 : (Vector UInt8 16)) (s12 : (Vector UInt8 16) × Int) : Option (Fl ((Vector UInt8 16) × Int) (Vector UInt8 16)) :=
 if (decide (s12.2 < 4)) = true then ((ZG (VE p0 p1 p2 s12) (s12.1, 0) : Option ((Vector UInt8 16))).bind fun j17 => some (Fl.nx (j17, wr (s12.2 + 1)))) else (some (Fl.ex s12.1))
noncomputable def Tl (p0 : Int) (p1 : (Vector (Vector UInt8 4) 4)) (p2 : (Vector UInt8 16)) : Option ((Vector UInt8 16)) :=
 (ZG (VD p0 p1 p2) ((Vector.replicate 16 (0 : UInt8)), 0) : Option ((Vector UInt8 16))).bind fun j9 => some j9
end Go.Proofs.YtifdeoikcebbjaaGreat
