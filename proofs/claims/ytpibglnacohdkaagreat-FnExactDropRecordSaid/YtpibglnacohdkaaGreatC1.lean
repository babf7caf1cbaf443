/- The walk of what the law reaches: contracts of functions. -/
import Derived.Test.YtpibglnacohdkaaGreatK2
import Derived.Test.YtpibglnacohdkaaGreatProg
set_option linter.unusedVariables false
set_option linter.unusedSimpArgs false
set_option maxRecDepth 20000
set_option maxHeartbeats 400000
namespace Go.Proofs.YtpibglnacohdkaaGreat
open Go
open Flat (enc)
noncomputable section
structure GRecord where
 Number : Int
 Version : Int
 Nonce : (Vector UInt8 16)
 Label : (List UInt8)
 Body : (List UInt8)
 Tag : (Vector UInt8 32)
 deriving DecidableEq,Inhabited
instance : Dat GRecord:=⟨fun x=>Dat.bd (α:=Int × Int × (Vector UInt8 16) × (List UInt8) × (List UInt8) × (Vector UInt8 32)) (x.Number,x.Version,x.Nonce,x.Label,x.Body,x.Tag),fun x=>Dat.sz (α:=Int × Int × (Vector UInt8 16) × (List UInt8) × (List UInt8) × (Vector UInt8 32)) (x.Number,x.Version,x.Nonce,x.Label,x.Body,x.Tag) + 1⟩
instance : Rep GRecord:=repIso (α:=Int × Int × (Vector UInt8 16) × (List UInt8) × (List UInt8) × (Vector UInt8 32)) (fun x=>(x.Number,x.Version,x.Nonce,x.Label,x.Body,x.Tag))
theorem UV {S : Nat → Prop} {w : World} {x : GRecord} {cs : List Value} {fp : List Nat} (h : Rep.sat S w x cs fp) : ∃ (u1 : Value) (u2 : Value),∃ (g1 : List Nat) (g2 : List Nat),cs = cat [enc x.Number,enc x.Version,enc x.Nonce,[u1],[u2],enc x.Tag] ∧ fp = (g1 ++ g2) ∧ Rep.sat S w x.Label [u1] g1 ∧ Rep.sat S w x.Body [u2] g2:=by
 obtain ⟨c0,d0,f0,q0,rfl,rfl,h0,hr0⟩:=h
 obtain ⟨rfl,rfl⟩:=h0
 obtain ⟨c1,d1,f1,q1,rfl,rfl,h1,hr1⟩:=hr0
 obtain ⟨rfl,rfl⟩:=h1
 obtain ⟨c2,d2,f2,q2,rfl,rfl,h2,hr2⟩:=hr1
 obtain ⟨rfl,rfl⟩:=h2
 obtain ⟨c3,d3,f3,q3,rfl,rfl,h3,hr3⟩:=hr2
 obtain ⟨u1,rfl⟩:=Qc h3
 obtain ⟨c4,d4,f4,q4,rfl,rfl,h4,hr4⟩:=hr3
 obtain ⟨u2,rfl⟩:=Qc h4
 obtain ⟨rfl,rfl⟩:=hr4
 exact ⟨u1,u2,_,_,rfl,by simp,h3,h4⟩
theorem Km {S : Nat → Prop} {w : World} {x : GRecord} {u1 u2 : Value} {fp : List Nat} (h : Rep.sat S w x (cat [enc x.Number,enc x.Version,enc x.Nonce,[u1],[u2],enc x.Tag]) fp) : ∃ (g1 : List Nat) (g2 : List Nat),fp = (g1 ++ g2) ∧ Rep.sat S w x.Label [u1] g1 ∧ Rep.sat S w x.Body [u2] g2:=by
 obtain ⟨w1,w2,g1,g2,hc,hf,s1,s2⟩:=UV h
 obtain ⟨e1,k1⟩:=V2 hc rfl
 obtain ⟨e2,k2⟩:=V2 k1 rfl
 obtain ⟨e3,k3⟩:=V2 k2 rfl
 obtain ⟨e4,k4⟩:=V2 k3 rfl
 obtain ⟨e5,k5⟩:=V2 k4 rfl
 obtain rfl:=(List.cons.inj e4).1
 obtain rfl:=(List.cons.inj e5).1
 exact ⟨g1,g2,hf,s1,s2⟩
theorem YM {S : Nat → Prop} {w : World} {x : GRecord} {cs : List Value} (h : Rep.sat S w x cs []) : ∃ u1 u2,cs = cat [enc x.Number,enc x.Version,enc x.Nonce,[u1],[u2],enc x.Tag] ∧ Rep.sat S w x.Label [u1] [] ∧ Rep.sat S w x.Body [u2] []:=by
 obtain ⟨c0,d0,f0,g0,rfl,hf0,h0,hr0⟩:=h
 obtain ⟨rfl,rfl⟩:=List.append_eq_nil_iff.1 hf0.symm
 obtain ⟨rfl,_⟩:=h0
 obtain ⟨c1,d1,f1,g1,rfl,hf1,h1,hr1⟩:=hr0
 obtain ⟨rfl,rfl⟩:=List.append_eq_nil_iff.1 hf1.symm
 obtain ⟨rfl,_⟩:=h1
 obtain ⟨c2,d2,f2,g2,rfl,hf2,h2,hr2⟩:=hr1
 obtain ⟨rfl,rfl⟩:=List.append_eq_nil_iff.1 hf2.symm
 obtain ⟨rfl,_⟩:=h2
 obtain ⟨c3,d3,f3,g3,rfl,hf3,h3,hr3⟩:=hr2
 obtain ⟨rfl,rfl⟩:=List.append_eq_nil_iff.1 hf3.symm
 obtain ⟨u1,rfl⟩:=Qc h3
 obtain ⟨c4,d4,f4,g4,rfl,hf4,h4,hr4⟩:=hr3
 obtain ⟨rfl,rfl⟩:=List.append_eq_nil_iff.1 hf4.symm
 obtain ⟨u2,rfl⟩:=Qc h4
 obtain ⟨rfl,_⟩:=hr4
 exact ⟨u1,u2,rfl,h3,h4⟩
theorem W0 {S : Nat → Prop} {w : World} {x : GRecord} {u1 u2 : Value} {g1 g2 fp : List Nat} (h1 : Rep.sat S w x.Label [u1] g1) (h2 : Rep.sat S w x.Body [u2] g2) (hfp : fp = (g1 ++ g2)) : Rep.sat S w x (cat [enc x.Number,enc x.Version,enc x.Nonce,[u1],[u2],enc x.Tag]) fp:=by
 rw [hfp]
 refine ⟨_,_,[],(g1 ++ g2),rfl,(by simp),⟨rfl,rfl⟩,?_⟩
 refine ⟨_,_,[],(g1 ++ g2),rfl,(by simp),⟨rfl,rfl⟩,?_⟩
 refine ⟨_,_,[],(g1 ++ g2),rfl,(by simp),⟨rfl,rfl⟩,?_⟩
 refine ⟨_,_,g1,g2,rfl,(by simp),h1,?_⟩
 refine ⟨_,_,g2,[],rfl,(by simp),h2,?_⟩
 exact ⟨rfl,rfl⟩
theorem pm_GRecord {St : Nat → Prop} {w0 w : World} {its : List Item} {i1 i2 : Item} {x : GRecord} {u1 u2 : Value} (h : M St w0 w (i1 :: i2 :: its)) (s1 : SatI i1 x.Label u1) (s2 : SatI i2 x.Body u2) : M St w0 w (own NoB x (cat [enc x.Number,enc x.Version,enc x.Nonce,[u1],[u2],enc x.Tag]) :: its):=h.packL (m:=[_,_]) (Xj noB) fun fp h=>by obtain ⟨_,_,rfl,_,k1,_,_,rfl,_,k2,rfl⟩:=h; exact W0 (s1 _ _ k1) (s2 _ _ k2) (by simp)
theorem um_GRecord {St : Nat → Prop} {w0 w : World} {its : List Item} {x : GRecord} {u1 u2 : Value} (h : M St w0 w (own NoB x (cat [enc x.Number,enc x.Version,enc x.Nonce,[u1],[u2],enc x.Tag]) :: its)) : M St w0 w (own NoB x.Label [u1] :: own NoB x.Body [u2] :: its):=h.unpackL (m:=[own NoB x.Label [u1],own NoB x.Body [u2]]) fun fp h=>by obtain ⟨_,_,rfl,s1,s2⟩:=Km h; exact (Xd.cons (Xj noB) s1 (Xd.one (Xj noB) s2))
theorem zQ (w : World) : Rep.sat NoB w (⟨(0 : Int),(0 : Int),(Vector.replicate 16 (0 : UInt8)),([] : (List UInt8)),([] : (List UInt8)),(Vector.replicate 32 (0 : UInt8))⟩ : GRecord) (cat [(enc (0 : Int)),(enc (0 : Int)),(enc (Vector.replicate 16 (0 : UInt8))),[.slice none 0 0],[.slice none 0 0],(enc (Vector.replicate 32 (0 : UInt8)))]) []:=W0 Qy Qy rfl
structure GEvent where
 Kind : Int
 Number : Int
 Tag : (Vector UInt8 32)
 deriving DecidableEq,Inhabited
instance : Dat GEvent:=⟨fun x=>Dat.bd (α:=Int × Int × (Vector UInt8 32)) (x.Kind,x.Number,x.Tag),fun x=>Dat.sz (α:=Int × Int × (Vector UInt8 32)) (x.Kind,x.Number,x.Tag) + 1⟩
instance : Flat GEvent where
 n:=34
 enc x:=cat [enc x.Kind,enc x.Number,enc x.Tag]
 len x:=BE (cl1 (Flat.len _) (cl1 (Flat.len _) (cl1 (Flat.len _) cl0)))
 cell x:=ZX (cc1 (Flat.cell _) (cc1 (Flat.cell _) (cc1 (Flat.cell _) cc0)))
structure GVault where
 Keys : (List (Vector UInt8 16))
 Next : Int
 Records : (List GRecord)
 Events : (List GEvent)
 Head : (Vector UInt8 32)
 deriving DecidableEq,Inhabited
instance : Dat GVault:=⟨fun x=>Dat.bd (α:=(List (Vector UInt8 16)) × Int × (List GRecord) × (List GEvent) × (Vector UInt8 32)) (x.Keys,x.Next,x.Records,x.Events,x.Head),fun x=>Dat.sz (α:=(List (Vector UInt8 16)) × Int × (List GRecord) × (List GEvent) × (Vector UInt8 32)) (x.Keys,x.Next,x.Records,x.Events,x.Head) + 1⟩
instance : Rep GVault:=repIso (α:=(List (Vector UInt8 16)) × Int × (List GRecord) × (List GEvent) × (Vector UInt8 32)) (fun x=>(x.Keys,x.Next,x.Records,x.Events,x.Head))
theorem y4 {S : Nat → Prop} {w : World} {x : GVault} {cs : List Value} {fp : List Nat} (h : Rep.sat S w x cs fp) : ∃ (u1 : Value) (u2 : Value) (u3 : Value),∃ (g1 : List Nat) (g2 : List Nat) (g3 : List Nat),cs = cat [[u1],enc x.Next,[u2],[u3],enc x.Head] ∧ fp = (g1 ++ (g2 ++ g3)) ∧ Rep.sat S w x.Keys [u1] g1 ∧ Rep.sat S w x.Records [u2] g2 ∧ Rep.sat S w x.Events [u3] g3:=by
 obtain ⟨c0,d0,f0,q0,rfl,rfl,h0,hr0⟩:=h
 obtain ⟨u1,rfl⟩:=Qc h0
 obtain ⟨c1,d1,f1,q1,rfl,rfl,h1,hr1⟩:=hr0
 obtain ⟨rfl,rfl⟩:=h1
 obtain ⟨c2,d2,f2,q2,rfl,rfl,h2,hr2⟩:=hr1
 obtain ⟨u2,rfl⟩:=Qc h2
 obtain ⟨c3,d3,f3,q3,rfl,rfl,h3,hr3⟩:=hr2
 obtain ⟨u3,rfl⟩:=Qc h3
 obtain ⟨rfl,rfl⟩:=hr3
 exact ⟨u1,u2,u3,_,_,_,rfl,by simp,h0,h2,h3⟩
theorem jt {S : Nat → Prop} {w : World} {x : GVault} {u1 u2 u3 : Value} {fp : List Nat} (h : Rep.sat S w x (cat [[u1],enc x.Next,[u2],[u3],enc x.Head]) fp) : ∃ (g1 : List Nat) (g2 : List Nat) (g3 : List Nat),fp = (g1 ++ (g2 ++ g3)) ∧ Rep.sat S w x.Keys [u1] g1 ∧ Rep.sat S w x.Records [u2] g2 ∧ Rep.sat S w x.Events [u3] g3:=by
 obtain ⟨w1,w2,w3,g1,g2,g3,hc,hf,s1,s2,s3⟩:=y4 h
 obtain ⟨e1,k1⟩:=V2 hc rfl
 obtain ⟨e2,k2⟩:=V2 k1 rfl
 obtain ⟨e3,k3⟩:=V2 k2 rfl
 obtain ⟨e4,k4⟩:=V2 k3 rfl
 obtain rfl:=(List.cons.inj e1).1
 obtain rfl:=(List.cons.inj e3).1
 obtain rfl:=(List.cons.inj e4).1
 exact ⟨g1,g2,g3,hf,s1,s2,s3⟩
theorem zl {S : Nat → Prop} {w : World} {x : GVault} {cs : List Value} (h : Rep.sat S w x cs []) : ∃ u1 u2 u3,cs = cat [[u1],enc x.Next,[u2],[u3],enc x.Head] ∧ Rep.sat S w x.Keys [u1] [] ∧ Rep.sat S w x.Records [u2] [] ∧ Rep.sat S w x.Events [u3] []:=by
 obtain ⟨c0,d0,f0,g0,rfl,hf0,h0,hr0⟩:=h
 obtain ⟨rfl,rfl⟩:=List.append_eq_nil_iff.1 hf0.symm
 obtain ⟨u1,rfl⟩:=Qc h0
 obtain ⟨c1,d1,f1,g1,rfl,hf1,h1,hr1⟩:=hr0
 obtain ⟨rfl,rfl⟩:=List.append_eq_nil_iff.1 hf1.symm
 obtain ⟨rfl,_⟩:=h1
 obtain ⟨c2,d2,f2,g2,rfl,hf2,h2,hr2⟩:=hr1
 obtain ⟨rfl,rfl⟩:=List.append_eq_nil_iff.1 hf2.symm
 obtain ⟨u2,rfl⟩:=Qc h2
 obtain ⟨c3,d3,f3,g3,rfl,hf3,h3,hr3⟩:=hr2
 obtain ⟨rfl,rfl⟩:=List.append_eq_nil_iff.1 hf3.symm
 obtain ⟨u3,rfl⟩:=Qc h3
 obtain ⟨rfl,_⟩:=hr3
 exact ⟨u1,u2,u3,rfl,h0,h2,h3⟩
theorem A3 {S : Nat → Prop} {w : World} {x : GVault} {u1 u2 u3 : Value} {g1 g2 g3 fp : List Nat} (h1 : Rep.sat S w x.Keys [u1] g1) (h2 : Rep.sat S w x.Records [u2] g2) (h3 : Rep.sat S w x.Events [u3] g3) (hfp : fp = (g1 ++ (g2 ++ g3))) : Rep.sat S w x (cat [[u1],enc x.Next,[u2],[u3],enc x.Head]) fp:=by
 rw [hfp]
 refine ⟨_,_,g1,(g2 ++ g3),rfl,(by simp),h1,?_⟩
 refine ⟨_,_,[],(g2 ++ g3),rfl,(by simp),⟨rfl,rfl⟩,?_⟩
 refine ⟨_,_,g2,g3,rfl,(by simp),h2,?_⟩
 refine ⟨_,_,g3,[],rfl,(by simp),h3,?_⟩
 exact ⟨rfl,rfl⟩
theorem kM {St : Nat → Prop} {w0 w : World} {its : List Item} {i1 i2 i3 : Item} {x : GVault} {u1 u2 u3 : Value} (h : M St w0 w (i1 :: i2 :: i3 :: its)) (s1 : SatI i1 x.Keys u1) (s2 : SatI i2 x.Records u2) (s3 : SatI i3 x.Events u3) : M St w0 w (own NoB x (cat [[u1],enc x.Next,[u2],[u3],enc x.Head]) :: its):=h.packL (m:=[_,_,_]) (Xj noB) fun fp h=>by obtain ⟨_,_,rfl,_,k1,_,_,rfl,_,k2,_,_,rfl,_,k3,rfl⟩:=h; exact A3 (s1 _ _ k1) (s2 _ _ k2) (s3 _ _ k3) (by simp)
theorem kj {St : Nat → Prop} {w0 w : World} {its : List Item} {x : GVault} {u1 u2 u3 : Value} (h : M St w0 w (own NoB x (cat [[u1],enc x.Next,[u2],[u3],enc x.Head]) :: its)) : M St w0 w (own NoB x.Keys [u1] :: own NoB x.Records [u2] :: own NoB x.Events [u3] :: its):=h.unpackL (m:=[own NoB x.Keys [u1],own NoB x.Records [u2],own NoB x.Events [u3]]) fun fp h=>by obtain ⟨_,_,_,rfl,s1,s2,s3⟩:=jt h; exact (Xd.cons (Xj noB) s1 (Xd.cons (Xj noB) s2 (Xd.one (Xj noB) s3)))
theorem Zbw (w : World) : Rep.sat NoB w (⟨([] : (List (Vector UInt8 16))),(0 : Int),([] : (List GRecord)),([] : (List GEvent)),(Vector.replicate 32 (0 : UInt8))⟩ : GVault) (cat [[.slice none 0 0],(enc (0 : Int)),[.slice none 0 0],[.slice none 0 0],(enc (Vector.replicate 32 (0 : UInt8)))]) []:=A3 Qy Qy Qy rfl
structure GCipher where
 Field : Int
 Box : (Vector UInt8 256)
 Mix : (Vector (Vector UInt8 4) 4)
 Places : (Vector UInt8 16)
 Rounds : Int
 deriving DecidableEq,Inhabited
instance : Dat GCipher:=⟨fun x=>Dat.bd (α:=Int × (Vector UInt8 256) × (Vector (Vector UInt8 4) 4) × (Vector UInt8 16) × Int) (x.Field,x.Box,x.Mix,x.Places,x.Rounds),fun x=>Dat.sz (α:=Int × (Vector UInt8 256) × (Vector (Vector UInt8 4) 4) × (Vector UInt8 16) × Int) (x.Field,x.Box,x.Mix,x.Places,x.Rounds) + 1⟩
instance : Flat GCipher where
 n:=290
 enc x:=cat [enc x.Field,enc x.Box,enc x.Mix,enc x.Places,enc x.Rounds]
 len x:=BE (cl1 (Flat.len _) (cl1 (Flat.len _) (cl1 (Flat.len _) (cl1 (Flat.len _) (cl1 (Flat.len _) cl0)))))
 cell x:=ZX (cc1 (Flat.cell _) (cc1 (Flat.cell _) (cc1 (Flat.cell _) (cc1 (Flat.cell _) (cc1 (Flat.cell _) cc0)))))
structure Gengine where
 box : (Vector UInt8 256)
 backBox : (Vector UInt8 256)
 places : (Vector UInt8 16)
 backPlaces : (Vector UInt8 16)
 mixer : (Ref (Vector (Vector (Vector UInt8 256) 4) 4))
 backMixer : (Ref (Vector (Vector (Vector UInt8 256) 4) 4))
 rounds : Int
 deriving DecidableEq,Inhabited
instance : Dat Gengine:=⟨fun x=>Dat.bd (α:=(Vector UInt8 256) × (Vector UInt8 256) × (Vector UInt8 16) × (Vector UInt8 16) × (Ref (Vector (Vector (Vector UInt8 256) 4) 4)) × (Ref (Vector (Vector (Vector UInt8 256) 4) 4)) × Int) (x.box,x.backBox,x.places,x.backPlaces,x.mixer,x.backMixer,x.rounds),fun x=>Dat.sz (α:=(Vector UInt8 256) × (Vector UInt8 256) × (Vector UInt8 16) × (Vector UInt8 16) × (Ref (Vector (Vector (Vector UInt8 256) 4) 4)) × (Ref (Vector (Vector (Vector UInt8 256) 4) 4)) × Int) (x.box,x.backBox,x.places,x.backPlaces,x.mixer,x.backMixer,x.rounds) + 1⟩
instance : Rep Gengine:=repIso (α:=(Vector UInt8 256) × (Vector UInt8 256) × (Vector UInt8 16) × (Vector UInt8 16) × (Ref (Vector (Vector (Vector UInt8 256) 4) 4)) × (Ref (Vector (Vector (Vector UInt8 256) 4) 4)) × Int) (fun x=>(x.box,x.backBox,x.places,x.backPlaces,x.mixer,x.backMixer,x.rounds))
theorem yz {S : Nat → Prop} {w : World} {x : Gengine} {cs : List Value} {fp : List Nat} (h : Rep.sat S w x cs fp) : ∃ (u1 : Value) (u2 : Value),∃ (g1 : List Nat) (g2 : List Nat),cs = cat [enc x.box,enc x.backBox,enc x.places,enc x.backPlaces,[u1],[u2],enc x.rounds] ∧ fp = (g1 ++ g2) ∧ Rep.sat S w x.mixer [u1] g1 ∧ Rep.sat S w x.backMixer [u2] g2:=by
 obtain ⟨c0,d0,f0,q0,rfl,rfl,h0,hr0⟩:=h
 obtain ⟨rfl,rfl⟩:=h0
 obtain ⟨c1,d1,f1,q1,rfl,rfl,h1,hr1⟩:=hr0
 obtain ⟨rfl,rfl⟩:=h1
 obtain ⟨c2,d2,f2,q2,rfl,rfl,h2,hr2⟩:=hr1
 obtain ⟨rfl,rfl⟩:=h2
 obtain ⟨c3,d3,f3,q3,rfl,rfl,h3,hr3⟩:=hr2
 obtain ⟨rfl,rfl⟩:=h3
 obtain ⟨c4,d4,f4,q4,rfl,rfl,h4,hr4⟩:=hr3
 obtain ⟨u1,rfl⟩:=BC h4
 obtain ⟨c5,d5,f5,q5,rfl,rfl,h5,hr5⟩:=hr4
 obtain ⟨u2,rfl⟩:=BC h5
 obtain ⟨rfl,rfl⟩:=hr5
 exact ⟨u1,u2,_,_,rfl,by simp,h4,h5⟩
theorem Zbx {S : Nat → Prop} {w : World} {x : Gengine} {u1 u2 : Value} {fp : List Nat} (h : Rep.sat S w x (cat [enc x.box,enc x.backBox,enc x.places,enc x.backPlaces,[u1],[u2],enc x.rounds]) fp) : ∃ (g1 : List Nat) (g2 : List Nat),fp = (g1 ++ g2) ∧ Rep.sat S w x.mixer [u1] g1 ∧ Rep.sat S w x.backMixer [u2] g2:=by
 obtain ⟨w1,w2,g1,g2,hc,hf,s1,s2⟩:=yz h
 obtain ⟨e1,k1⟩:=V2 hc rfl
 obtain ⟨e2,k2⟩:=V2 k1 rfl
 obtain ⟨e3,k3⟩:=V2 k2 rfl
 obtain ⟨e4,k4⟩:=V2 k3 rfl
 obtain ⟨e5,k5⟩:=V2 k4 rfl
 obtain ⟨e6,k6⟩:=V2 k5 rfl
 obtain rfl:=(List.cons.inj e5).1
 obtain rfl:=(List.cons.inj e6).1
 exact ⟨g1,g2,hf,s1,s2⟩
theorem TY {S : Nat → Prop} {w : World} {x : Gengine} {cs : List Value} (h : Rep.sat S w x cs []) : ∃ u1 u2,cs = cat [enc x.box,enc x.backBox,enc x.places,enc x.backPlaces,[u1],[u2],enc x.rounds] ∧ Rep.sat S w x.mixer [u1] [] ∧ Rep.sat S w x.backMixer [u2] []:=by
 obtain ⟨c0,d0,f0,g0,rfl,hf0,h0,hr0⟩:=h
 obtain ⟨rfl,rfl⟩:=List.append_eq_nil_iff.1 hf0.symm
 obtain ⟨rfl,_⟩:=h0
 obtain ⟨c1,d1,f1,g1,rfl,hf1,h1,hr1⟩:=hr0
 obtain ⟨rfl,rfl⟩:=List.append_eq_nil_iff.1 hf1.symm
 obtain ⟨rfl,_⟩:=h1
 obtain ⟨c2,d2,f2,g2,rfl,hf2,h2,hr2⟩:=hr1
 obtain ⟨rfl,rfl⟩:=List.append_eq_nil_iff.1 hf2.symm
 obtain ⟨rfl,_⟩:=h2
 obtain ⟨c3,d3,f3,g3,rfl,hf3,h3,hr3⟩:=hr2
 obtain ⟨rfl,rfl⟩:=List.append_eq_nil_iff.1 hf3.symm
 obtain ⟨rfl,_⟩:=h3
 obtain ⟨c4,d4,f4,g4,rfl,hf4,h4,hr4⟩:=hr3
 obtain ⟨rfl,rfl⟩:=List.append_eq_nil_iff.1 hf4.symm
 obtain ⟨u1,rfl⟩:=BC h4
 obtain ⟨c5,d5,f5,g5,rfl,hf5,h5,hr5⟩:=hr4
 obtain ⟨rfl,rfl⟩:=List.append_eq_nil_iff.1 hf5.symm
 obtain ⟨u2,rfl⟩:=BC h5
 obtain ⟨rfl,_⟩:=hr5
 exact ⟨u1,u2,rfl,h4,h5⟩
theorem jp {S : Nat → Prop} {w : World} {x : Gengine} {u1 u2 : Value} {g1 g2 fp : List Nat} (h1 : Rep.sat S w x.mixer [u1] g1) (h2 : Rep.sat S w x.backMixer [u2] g2) (hfp : fp = (g1 ++ g2)) : Rep.sat S w x (cat [enc x.box,enc x.backBox,enc x.places,enc x.backPlaces,[u1],[u2],enc x.rounds]) fp:=by
 rw [hfp]
 refine ⟨_,_,[],(g1 ++ g2),rfl,(by simp),⟨rfl,rfl⟩,?_⟩
 refine ⟨_,_,[],(g1 ++ g2),rfl,(by simp),⟨rfl,rfl⟩,?_⟩
 refine ⟨_,_,[],(g1 ++ g2),rfl,(by simp),⟨rfl,rfl⟩,?_⟩
 refine ⟨_,_,[],(g1 ++ g2),rfl,(by simp),⟨rfl,rfl⟩,?_⟩
 refine ⟨_,_,g1,g2,rfl,(by simp),h1,?_⟩
 refine ⟨_,_,g2,[],rfl,(by simp),h2,?_⟩
 exact ⟨rfl,rfl⟩
theorem ty2 : Ty Tryz.prog 2 (.int .i64) 1 8 (enc (0 : Int)):=⟨Tryz.underlying2,by kernel_rfl⟩
theorem ty5 : Ty Tryz.prog 5 (.int .u8) 1 1 (enc (0 : UInt8)):=⟨Tryz.underlying5,by kernel_rfl⟩
theorem ty27 : Ty Tryz.prog 27 (.array 32 5) 32 32 (enc (Vector.replicate 32 (0 : UInt8))):=⟨Tryz.underlying27,by kernel_rfl⟩
theorem Yt : Ty Tryz.prog 35 (.array 32 5) 32 32 (enc (Vector.replicate 32 (0 : UInt8))):=⟨Tryz.underlying35,by kernel_rfl⟩
theorem Ui : Ty Tryz.prog 40 (.slice 5) 1 24 [.slice none 0 0]:=⟨Tryz.underlying40,by kernel_rfl⟩
theorem ty48 : Ty Tryz.prog 48 (.slice 65) 1 24 [.slice none 0 0]:=⟨Tryz.underlying48,by kernel_rfl⟩
theorem ty49 : Ty Tryz.prog 49 (.slice 178) 1 24 [.slice none 0 0]:=⟨Tryz.underlying49,by kernel_rfl⟩
theorem ty50 : Ty Tryz.prog 50 (.slice 183) 1 24 [.slice none 0 0]:=⟨Tryz.underlying50,by kernel_rfl⟩
theorem AJ : Ty Tryz.prog 52 (.struct [{ name := "Keys", type := 48, offset := 0, embedded := false, tag := "", pkgPath := "", byteOffset := 0 }, { name := "Next", type := 2, offset := 1, embedded := false, tag := "", pkgPath := "", byteOffset := 24 }, { name := "Records", type := 49, offset := 2, embedded := false, tag := "", pkgPath := "", byteOffset := 32 }, { name := "Events", type := 50, offset := 3, embedded := false, tag := "", pkgPath := "", byteOffset := 56 }, { name := "Head", type := 27, offset := 4, embedded := false, tag := "", pkgPath := "", byteOffset := 80 }].toArray) 36 112 (cat [[.slice none 0 0], (enc (0 : Int)), [.slice none 0 0], [.slice none 0 0], (enc (Vector.replicate 32 (0 : UInt8)))]) := ⟨Tryz.underlying52, by kernel_rfl⟩
theorem Jw : Ty Tryz.prog 54 (.slice 68) 1 24 [.slice none 0 0]:=⟨Tryz.underlying54,by kernel_rfl⟩
theorem TZ : Ty Tryz.prog 55 (.slice 127) 1 24 [.slice none 0 0]:=⟨Tryz.underlying55,by kernel_rfl⟩
theorem QM : Ty Tryz.prog 56 (.slice 131) 1 24 [.slice none 0 0]:=⟨Tryz.underlying56,by kernel_rfl⟩
theorem Ys : Ty Tryz.prog 58 (.struct [{ name := "Keys", type := 54, offset := 0, embedded := false, tag := "", pkgPath := "", byteOffset := 0 }, { name := "Next", type := 2, offset := 1, embedded := false, tag := "", pkgPath := "", byteOffset := 24 }, { name := "Records", type := 55, offset := 2, embedded := false, tag := "", pkgPath := "", byteOffset := 32 }, { name := "Events", type := 56, offset := 3, embedded := false, tag := "", pkgPath := "", byteOffset := 56 }, { name := "Head", type := 35, offset := 4, embedded := false, tag := "", pkgPath := "", byteOffset := 80 }].toArray) 36 112 (cat [[.slice none 0 0], (enc (0 : Int)), [.slice none 0 0], [.slice none 0 0], (enc (Vector.replicate 32 (0 : UInt8)))]) := ⟨Tryz.underlying58, by kernel_rfl⟩
theorem ty65 : Ty Tryz.prog 65 (.array 16 5) 16 16 (enc (Vector.replicate 16 (0 : UInt8))):=⟨Tryz.underlying65,by kernel_rfl⟩
theorem ZG : Ty Tryz.prog 68 (.array 16 5) 16 16 (enc (Vector.replicate 16 (0 : UInt8))):=⟨Tryz.underlying68,by kernel_rfl⟩
theorem Z4 : Ty Tryz.prog 127 (.struct [{ name := "Number", type := 2, offset := 0, embedded := false, tag := "", pkgPath := "", byteOffset := 0 }, { name := "Version", type := 2, offset := 1, embedded := false, tag := "", pkgPath := "", byteOffset := 8 }, { name := "Nonce", type := 68, offset := 2, embedded := false, tag := "", pkgPath := "", byteOffset := 16 }, { name := "Label", type := 40, offset := 18, embedded := false, tag := "", pkgPath := "", byteOffset := 32 }, { name := "Body", type := 40, offset := 19, embedded := false, tag := "", pkgPath := "", byteOffset := 56 }, { name := "Tag", type := 35, offset := 20, embedded := false, tag := "", pkgPath := "", byteOffset := 80 }].toArray) 52 112 (cat [(enc (0 : Int)), (enc (0 : Int)), (enc (Vector.replicate 16 (0 : UInt8))), [.slice none 0 0], [.slice none 0 0], (enc (Vector.replicate 32 (0 : UInt8)))]) := ⟨Tryz.underlying127, by kernel_rfl⟩
theorem Y3 : Ty Tryz.prog 131 (.struct [{ name := "Kind", type := 2, offset := 0, embedded := false, tag := "", pkgPath := "", byteOffset := 0 }, { name := "Number", type := 2, offset := 1, embedded := false, tag := "", pkgPath := "", byteOffset := 8 }, { name := "Tag", type := 35, offset := 2, embedded := false, tag := "", pkgPath := "", byteOffset := 16 }].toArray) 34 48 (enc (⟨(0 : Int), (0 : Int), (Vector.replicate 32 (0 : UInt8))⟩ : GEvent)) := ⟨Tryz.underlying131, by kernel_rfl⟩
theorem zf : Ty Tryz.prog 156 (.array 256 5) 256 256 (enc (Vector.replicate 256 (0 : UInt8))):=⟨Tryz.underlying156,by kernel_rfl⟩
theorem XD : Ty Tryz.prog 157 (.array 256 5) 256 256 (enc (Vector.replicate 256 (0 : UInt8))):=⟨Tryz.underlying157,by kernel_rfl⟩
theorem Xz : Ty Tryz.prog 158 (.array 4 5) 4 4 (enc (Vector.replicate 4 (0 : UInt8))):=⟨Tryz.underlying158,by kernel_rfl⟩
theorem UL : Ty Tryz.prog 160 (.array 4 158) 16 16 (enc (Vector.replicate 4 (Vector.replicate 4 (0 : UInt8)))):=⟨Tryz.underlying160,by kernel_rfl⟩
theorem Qe : Ty Tryz.prog 161 (.array 16 5) 16 16 (enc (Vector.replicate 16 (0 : UInt8))):=⟨Tryz.underlying161,by kernel_rfl⟩
theorem V0 : Ty Tryz.prog 163 (.struct [{ name := "Field", type := 2, offset := 0, embedded := false, tag := "", pkgPath := "", byteOffset := 0 }, { name := "Box", type := 157, offset := 1, embedded := false, tag := "", pkgPath := "", byteOffset := 8 }, { name := "Mix", type := 160, offset := 257, embedded := false, tag := "", pkgPath := "", byteOffset := 264 }, { name := "Places", type := 161, offset := 273, embedded := false, tag := "", pkgPath := "", byteOffset := 280 }, { name := "Rounds", type := 2, offset := 289, embedded := false, tag := "", pkgPath := "", byteOffset := 296 }].toArray) 290 304 (enc (⟨(0 : Int), (Vector.replicate 256 (0 : UInt8)), (Vector.replicate 4 (Vector.replicate 4 (0 : UInt8))), (Vector.replicate 16 (0 : UInt8)), (0 : Int)⟩ : GCipher)) := ⟨Tryz.underlying163, by kernel_rfl⟩
theorem KW : Ty Tryz.prog 178 (.struct [{ name := "Number", type := 2, offset := 0, embedded := false, tag := "", pkgPath := "", byteOffset := 0 }, { name := "Version", type := 2, offset := 1, embedded := false, tag := "", pkgPath := "", byteOffset := 8 }, { name := "Nonce", type := 65, offset := 2, embedded := false, tag := "", pkgPath := "", byteOffset := 16 }, { name := "Label", type := 40, offset := 18, embedded := false, tag := "", pkgPath := "", byteOffset := 32 }, { name := "Body", type := 40, offset := 19, embedded := false, tag := "", pkgPath := "", byteOffset := 56 }, { name := "Tag", type := 27, offset := 20, embedded := false, tag := "", pkgPath := "", byteOffset := 80 }].toArray) 52 112 (cat [(enc (0 : Int)), (enc (0 : Int)), (enc (Vector.replicate 16 (0 : UInt8))), [.slice none 0 0], [.slice none 0 0], (enc (Vector.replicate 32 (0 : UInt8)))]) := ⟨Tryz.underlying178, by kernel_rfl⟩
theorem yl : Ty Tryz.prog 183 (.struct [{ name := "Kind", type := 2, offset := 0, embedded := false, tag := "", pkgPath := "", byteOffset := 0 }, { name := "Number", type := 2, offset := 1, embedded := false, tag := "", pkgPath := "", byteOffset := 8 }, { name := "Tag", type := 27, offset := 2, embedded := false, tag := "", pkgPath := "", byteOffset := 16 }].toArray) 34 48 (enc (⟨(0 : Int), (0 : Int), (Vector.replicate 32 (0 : UInt8))⟩ : GEvent)) := ⟨Tryz.underlying183, by kernel_rfl⟩
theorem qa : Ty Tryz.prog 241 (.pointer 265) 1 8 [.pointer none]:=⟨Tryz.underlying241,by kernel_rfl⟩
theorem HZ : Ty Tryz.prog 244 (.struct [{ name := "box", type := 157, offset := 0, embedded := false, tag := "", pkgPath := "loop.example/g01182/impl", byteOffset := 0 }, { name := "backBox", type := 157, offset := 256, embedded := false, tag := "", pkgPath := "loop.example/g01182/impl", byteOffset := 256 }, { name := "places", type := 161, offset := 512, embedded := false, tag := "", pkgPath := "loop.example/g01182/impl", byteOffset := 512 }, { name := "backPlaces", type := 161, offset := 528, embedded := false, tag := "", pkgPath := "loop.example/g01182/impl", byteOffset := 528 }, { name := "mixer", type := 241, offset := 544, embedded := false, tag := "", pkgPath := "loop.example/g01182/impl", byteOffset := 544 }, { name := "backMixer", type := 241, offset := 545, embedded := false, tag := "", pkgPath := "loop.example/g01182/impl", byteOffset := 552 }, { name := "rounds", type := 2, offset := 546, embedded := false, tag := "", pkgPath := "loop.example/g01182/impl", byteOffset := 560 }].toArray) 547 568 (cat [(enc (Vector.replicate 256 (0 : UInt8))), (enc (Vector.replicate 256 (0 : UInt8))), (enc (Vector.replicate 16 (0 : UInt8))), (enc (Vector.replicate 16 (0 : UInt8))), [.pointer none], [.pointer none], (enc (0 : Int))]) := ⟨Tryz.underlying244, by kernel_rfl⟩
theorem BY : Ty Tryz.prog 263 (.array 4 156) 1024 1024 (enc (Vector.replicate 4 (Vector.replicate 256 (0 : UInt8)))):=⟨Tryz.underlying263,by kernel_rfl⟩
theorem ty265 : Ty Tryz.prog 265 (.array 4 263) 4096 4096 (enc (Vector.replicate 4 (Vector.replicate 4 (Vector.replicate 256 (0 : UInt8))))):=⟨Tryz.underlying265,by kernel_rfl⟩
theorem k8 : Fd Tryz.prog 52 0 0:=Xh AJ.und rfl rfl ty48 (by decide)
theorem fd52_1 : Fd Tryz.prog 52 1 1:=Xh AJ.und rfl rfl ty2 (by decide)
theorem qq : Fd Tryz.prog 52 2 2:=Xh AJ.und rfl rfl ty49 (by decide)
theorem Zaq : Fd Tryz.prog 52 3 3:=Xh AJ.und rfl rfl ty50 (by decide)
theorem fd52_4 : Fd Tryz.prog 52 4 4:=Xh AJ.und rfl rfl ty27 (by decide)
theorem TL : Fd Tryz.prog 58 0 0:=Xh Ys.und rfl rfl Jw (by decide)
theorem Qu : Fd Tryz.prog 58 1 1:=Xh Ys.und rfl rfl ty2 (by decide)
theorem X1 : Fd Tryz.prog 58 2 2:=Xh Ys.und rfl rfl TZ (by decide)
theorem VM : Fd Tryz.prog 58 3 3:=Xh Ys.und rfl rfl QM (by decide)
theorem Jb : Fd Tryz.prog 58 4 4:=Xh Ys.und rfl rfl Yt (by decide)
theorem Ua : Fd Tryz.prog 127 0 0:=Xh Z4.und rfl rfl ty2 (by decide)
theorem Qi : Fd Tryz.prog 127 1 1:=Xh Z4.und rfl rfl ty2 (by decide)
theorem JQ : Fd Tryz.prog 127 2 2:=Xh Z4.und rfl rfl ZG (by decide)
theorem Tz : Fd Tryz.prog 127 3 18:=Xh Z4.und rfl rfl Ui (by decide)
theorem TU : Fd Tryz.prog 127 4 19:=Xh Z4.und rfl rfl Ui (by decide)
theorem J7 : Fd Tryz.prog 127 5 20:=Xh Z4.und rfl rfl Yt (by decide)
theorem Qh : Fd Tryz.prog 131 0 0:=Xh Y3.und rfl rfl ty2 (by decide)
theorem Qm : Fd Tryz.prog 131 1 1:=Xh Y3.und rfl rfl ty2 (by decide)
theorem Q5 : Fd Tryz.prog 131 2 2:=Xh Y3.und rfl rfl Yt (by decide)
theorem Br : Fd Tryz.prog 163 0 0:=Xh V0.und rfl rfl ty2 (by decide)
theorem KI : Fd Tryz.prog 163 1 1:=Xh V0.und rfl rfl XD (by decide)
theorem JH : Fd Tryz.prog 163 2 257:=Xh V0.und rfl rfl UL (by decide)
theorem JU : Fd Tryz.prog 163 3 273:=Xh V0.und rfl rfl Qe (by decide)
theorem zK : Fd Tryz.prog 163 4 289:=Xh V0.und rfl rfl ty2 (by decide)
theorem Zbv : Fd Tryz.prog 178 0 0:=Xh KW.und rfl rfl ty2 (by decide)
theorem Zbu : Fd Tryz.prog 178 1 1:=Xh KW.und rfl rfl ty2 (by decide)
theorem Zbg : Fd Tryz.prog 178 2 2:=Xh KW.und rfl rfl ty65 (by decide)
theorem ka : Fd Tryz.prog 178 3 18:=Xh KW.und rfl rfl Ui (by decide)
theorem jT : Fd Tryz.prog 178 4 19:=Xh KW.und rfl rfl Ui (by decide)
theorem Zbr : Fd Tryz.prog 178 5 20:=Xh KW.und rfl rfl ty27 (by decide)
theorem Zbf : Fd Tryz.prog 183 0 0:=Xh yl.und rfl rfl ty2 (by decide)
theorem Zav : Fd Tryz.prog 183 1 1:=Xh yl.und rfl rfl ty2 (by decide)
theorem Zbo : Fd Tryz.prog 183 2 2:=Xh yl.und rfl rfl ty27 (by decide)
theorem zE : Fd Tryz.prog 244 0 0:=Xh HZ.und rfl rfl XD (by decide)
theorem fd244_1 : Fd Tryz.prog 244 1 256:=Xh HZ.und rfl rfl XD (by decide)
theorem Za4 : Fd Tryz.prog 244 2 512:=Xh HZ.und rfl rfl Qe (by decide)
theorem fd244_3 : Fd Tryz.prog 244 3 528:=Xh HZ.und rfl rfl Qe (by decide)
theorem Za2 : Fd Tryz.prog 244 4 544:=Xh HZ.und rfl rfl qa (by decide)
theorem fd244_5 : Fd Tryz.prog 244 5 545:=Xh HZ.und rfl rfl qa (by decide)
theorem Za8 : Fd Tryz.prog 244 6 546:=Xh HZ.und rfl rfl ty2 (by decide)
theorem jA : Places Tryz.prog [{ name := "Keys", type := 54, offset := 0, embedded := false, tag := "", pkgPath := "", byteOffset := 0 }, { name := "Next", type := 2, offset := 1, embedded := false, tag := "", pkgPath := "", byteOffset := 24 }, { name := "Records", type := 55, offset := 2, embedded := false, tag := "", pkgPath := "", byteOffset := 32 }, { name := "Events", type := 56, offset := 3, embedded := false, tag := "", pkgPath := "", byteOffset := 56 }, { name := "Head", type := 35, offset := 4, embedded := false, tag := "", pkgPath := "", byteOffset := 80 }] [(0, 1), (1, 1), (2, 1), (3, 1), (4, 32)] := by show _ = _; kernel_rfl
theorem pl131 : Places Tryz.prog [{ name := "Kind", type := 2, offset := 0, embedded := false, tag := "", pkgPath := "", byteOffset := 0 }, { name := "Number", type := 2, offset := 1, embedded := false, tag := "", pkgPath := "", byteOffset := 8 }, { name := "Tag", type := 35, offset := 2, embedded := false, tag := "", pkgPath := "", byteOffset := 16 }] [(0, 1), (1, 1), (2, 32)] := by show _ = _; kernel_rfl
theorem pl163 : Places Tryz.prog [{ name := "Field", type := 2, offset := 0, embedded := false, tag := "", pkgPath := "", byteOffset := 0 }, { name := "Box", type := 157, offset := 1, embedded := false, tag := "", pkgPath := "", byteOffset := 8 }, { name := "Mix", type := 160, offset := 257, embedded := false, tag := "", pkgPath := "", byteOffset := 264 }, { name := "Places", type := 161, offset := 273, embedded := false, tag := "", pkgPath := "", byteOffset := 280 }, { name := "Rounds", type := 2, offset := 289, embedded := false, tag := "", pkgPath := "", byteOffset := 296 }] [(0, 1), (1, 256), (257, 16), (273, 16), (289, 1)] := by show _ = _; kernel_rfl
theorem pl244 : Places Tryz.prog [{ name := "box", type := 157, offset := 0, embedded := false, tag := "", pkgPath := "loop.example/g01182/impl", byteOffset := 0 }, { name := "backBox", type := 157, offset := 256, embedded := false, tag := "", pkgPath := "loop.example/g01182/impl", byteOffset := 256 }, { name := "places", type := 161, offset := 512, embedded := false, tag := "", pkgPath := "loop.example/g01182/impl", byteOffset := 512 }, { name := "backPlaces", type := 161, offset := 528, embedded := false, tag := "", pkgPath := "loop.example/g01182/impl", byteOffset := 528 }, { name := "mixer", type := 241, offset := 544, embedded := false, tag := "", pkgPath := "loop.example/g01182/impl", byteOffset := 544 }, { name := "backMixer", type := 241, offset := 545, embedded := false, tag := "", pkgPath := "loop.example/g01182/impl", byteOffset := 552 }, { name := "rounds", type := 2, offset := 546, embedded := false, tag := "", pkgPath := "loop.example/g01182/impl", byteOffset := 560 }] [(0, 256), (256, 256), (512, 16), (528, 16), (544, 1), (545, 1), (546, 1)] := by show _ = _; kernel_rfl
theorem Y4 : Tryz.prog.follows .mixedOrders = true:=by kernel_rfl
theorem cb12 : Callable Tryz.prog 12:=cbm Tryz.func12
theorem cb20 : Callable Tryz.prog 20:=cbm Tryz.func20
theorem cb25 : Callable Tryz.prog 25:=cbm Tryz.func25
theorem cb27 : Callable Tryz.prog 27:=cbm Tryz.func27
theorem cb65 : Callable Tryz.prog 65:=cbm Tryz.func65
theorem cb75 : Callable Tryz.prog 75:=cbm Tryz.func75
theorem jZ : Callable Tryz.prog 106:=cbm Tryz.func106
theorem K1 : Callable Tryz.prog 129:=cbm Tryz.func129
theorem jU : Callable Tryz.prog 143:=cbm Tryz.func143
theorem AU : Callable Tryz.prog 182:=cbm Tryz.func182
theorem zi : Callable Tryz.prog 206:=cbm Tryz.func206
theorem yk : Callable Tryz.prog 208:=cbm Tryz.func208
theorem Zai : Callable Tryz.prog 215:=cbm Tryz.func215
theorem HX : Callable Tryz.prog 233:=cbm Tryz.func233
def W4 (p0 : (List (Vector UInt8 16))) (p1 : Int) : Option (Int) :=
 if (decide ((wr (p1 - (p0.length : Int))) < 0)) = true then (some (-1)) else (some (wr (p1 - (p0.length : Int))))
theorem H9 (w0 : World) (p0 : (List (Vector UInt8 16))) (v0_1 : Value) (hv0_1 : Ro w0 p0 [v0_1]) (p1 : Int) (r : Int) (hF : W4 p0 p1 = some r) :
  Calls Tryz.prog 76 [v0_1,vI p1].toArray w0 (Rt w0 (vI r)):=by
 refine ce Tryz.func76 ?_
 intro a hE
 have hM:=M.start w0
 unfold W4 at hF
 refine Zb (Zc hE rfl fun a hE=>Ze (Zb (Zd hE rfl fun a hE=>Zd hE rfl fun a hE=>Yb hE rfl Tryz.underlying48 (hM.rd hv0_1) fun a hE=>Zg hE rfl rfl rfl fun a hE=>Zc hE rfl fun a hE=>Ze (wp_seq (Zb (Zd hE rfl fun a hE=>Zg hE rfl rfl rfl fun a hE=>Ze ?_))))))
 refine Zm hE rfl ?_ ?_
 ·intro hb1
  have hF:=Zt hF hb1
  refine Zb (Zc hE rfl fun a hE=>Ze ?_)
  obtain rfl:=Option.some.inj hF
  exact wp_ret (Zo (kr1 hE rfl rfl hM.kept))
 ·intro hb1
  have hF:=Zu hF hb1
  refine wp_skip (Zq (Zb (Zd hE rfl fun a hE=>Zc hE rfl fun a hE=>Ze ?_)))
  obtain rfl:=Option.some.inj hF
  exact wp_ret (kr1 hE rfl rfl hM.kept)
def X3 (p0 : (List UInt8)) (p1 : Int) : Option (Int) :=
 if (decide ((wr (p1 - (p0.length : Int))) < 0)) = true then (some (-1)) else (some (wr (p1 - (p0.length : Int))))
theorem Kr (w0 : World) (p0 : (List UInt8)) (v0_1 : Value) (hv0_1 : Ro w0 p0 [v0_1]) (p1 : Int) (r : Int) (hF : X3 p0 p1 = some r) :
  Calls Tryz.prog 117 [v0_1,vI p1].toArray w0 (Rt w0 (vI r)):=by
 refine ce Tryz.func117 ?_
 intro a hE
 have hM:=M.start w0
 unfold X3 at hF
 refine Zb (Zc hE rfl fun a hE=>Ze (Zb (Zd hE rfl fun a hE=>Zd hE rfl fun a hE=>Yb hE rfl Tryz.underlying40 (hM.rd hv0_1) fun a hE=>Zg hE rfl rfl rfl fun a hE=>Zc hE rfl fun a hE=>Ze (wp_seq (Zb (Zd hE rfl fun a hE=>Zg hE rfl rfl rfl fun a hE=>Ze ?_))))))
 refine Zm hE rfl ?_ ?_
 ·intro hb1
  have hF:=Zt hF hb1
  refine Zb (Zc hE rfl fun a hE=>Ze ?_)
  obtain rfl:=Option.some.inj hF
  exact wp_ret (Zo (kr1 hE rfl rfl hM.kept))
 ·intro hb1
  have hF:=Zu hF hb1
  refine wp_skip (Zq (Zb (Zd hE rfl fun a hE=>Zc hE rfl fun a hE=>Ze ?_)))
  obtain rfl:=Option.some.inj hF
  exact wp_ret (kr1 hE rfl rfl hM.kept)
def Un (p0 : GRecord) (p1 : Int) : Option (Int) :=
 (X3 p0.Label p1).bind fun r3=>if (decide (r3 < 0)) = true then (some (-1)) else ((X3 p0.Body r3).bind fun r6=>if (decide (r6 < 0)) = true then (some (-1)) else (some r6))
theorem Bi (w0 : World) (p0 : GRecord) (v0_1 : Value) (hv0_1 : Ro w0 p0.Label [v0_1]) (v0_2 : Value) (hv0_2 : Ro w0 p0.Body [v0_2]) (p1 : Int) (r : Int) (hF : Un p0 p1 = some r) :
  Calls Tryz.prog 142 [(Value.agg (cat [[vI p0.Number],[vI p0.Version],enc p0.Nonce,[v0_1],[v0_2],enc p0.Tag]).toArray),vI p1].toArray w0 (Rt w0 (vI r)):=by
 refine ce Tryz.func142 ?_
 intro a hE
 have hM:=M.start w0
 unfold Un at hF
 refine Zb (ZV (cs:=cat [[vI p0.Number],[vI p0.Version],enc p0.Nonce,[v0_1],[v0_2],enc p0.Tag]) hE hM Za ld rfl rfl fun b1 w a hM hE=>Zc hE rfl fun a hE=>Ze (Zb (Zf hE rfl (ka) fun a hE=>Zw (v:=v0_1) hE rfl Ui rfl (At.cat (pre:=[[vI p0.Number],[vI p0.Version],enc p0.Nonce]) hM.rawAt0 ck) fun a hE=>Zd hE rfl ?_))); intro a hE
 obtain ⟨r3,e4,hF⟩:=bind_some hF
 refine Zx hE rfl (cbm Tryz.func117) (Kr _ p0.Label v0_1 (hM.rdo hv0_1) p1 r3 e4) ?_
 rintro v w a ⟨rfl,hK⟩ hE
 have hM:=hM.keep hK
 refine Zc hE rfl fun a hE=>Ze (wp_seq (Zb (Zd hE rfl fun a hE=>Zg hE rfl rfl rfl fun a hE=>Ze ?_)))
 refine Zm hE rfl ?_ ?_
 ·intro hb5
  have hF:=Zt hF hb5
  refine Zb (Zc hE rfl fun a hE=>Ze ?_)
  obtain rfl:=Option.some.inj hF
  exact wp_ret (Zo (kr1 hE rfl rfl hM.kept))
 ·intro hb5
  have hF:=Zu hF hb5
  refine wp_skip (Zq (Zb (Zf hE rfl (jT) fun a hE=>Zw (v:=v0_2) hE rfl Ui rfl (At.cat (pre:=[[vI p0.Number],[vI p0.Version],enc p0.Nonce,[v0_1]]) hM.rawAt0 ck) fun a hE=>Zd hE rfl ?_))); intro a hE
  obtain ⟨r6,e7,hF⟩:=bind_some hF
  refine Zx hE rfl (cbm Tryz.func117) (Kr _ p0.Body v0_2 (hM.rdo hv0_2) r3 r6 e7) ?_
  rintro v w a ⟨rfl,hK⟩ hE
  have hM:=hM.keep hK
  refine Zc hE rfl fun a hE=>Ze (wp_seq (Zb (Zd hE rfl fun a hE=>Zg hE rfl rfl rfl fun a hE=>Ze ?_)))
  refine Zm hE rfl ?_ ?_
  ·intro hb8
   have hF:=Zt hF hb8
   refine Zb (Zc hE rfl fun a hE=>Ze ?_)
   obtain rfl:=Option.some.inj hF
   exact wp_ret (Zo (kr1 hE rfl rfl hM.kept))
  ·intro hb8
   have hF:=Zu hF hb8
   refine wp_skip (Zq (Zb (Zd hE rfl fun a hE=>Zc hE rfl fun a hE=>Ze ?_)))
   obtain rfl:=Option.some.inj hF
   exact wp_ret (kr1 hE rfl rfl hM.kept)
def UA (p0 : (List GRecord)) (s6 : Int × Int) : Option (Fl (Int × Int) (Fl Int Int)) :=
 if (decide (s6.2 < (p0.length : Int))) = true then ((idx p0 s6.2).bind fun x11=>(Un x11 s6.1).bind fun r21=>if (decide (r21 < 0)) = true then (some (Fl.ex (Fl.ex (-1)))) else (some (Fl.nx (r21,wr (s6.2 + 1))))) else (some (Fl.ex (Fl.nx s6.1)))
def XM (p0 : (List GRecord)) (p1 : Int) : Option (Int) :=
 if (decide ((wr (p1 - (p0.length : Int))) < 0)) = true then (some (-1)) else ((ZB (UA p0) (wr (p1 - (p0.length : Int)),0)).bind fun j2=>j2.el (fun s5=>some s5) (fun r=>some r))
theorem Hm (w0 : World) (p0 : (List GRecord)) (v0_1 : Value) (hv0_1 : Ro w0 p0 [v0_1]) (p1 : Int) (r : Int) (hF : XM p0 p1 = some r) :
  Calls Tryz.prog 77 [v0_1,vI p1].toArray w0 (Rt w0 (vI r)):=by
 refine ce Tryz.func77 ?_
 intro a hE
 have hM:=M.start w0
 unfold XM at hF
 refine Zb (Zc hE rfl fun a hE=>Ze (Zb (Zd hE rfl fun a hE=>Zd hE rfl fun a hE=>Yb hE rfl Tryz.underlying49 (hM.rd hv0_1) fun a hE=>Zg hE rfl rfl rfl fun a hE=>Zc hE rfl fun a hE=>Ze (wp_seq (Zb (Zd hE rfl fun a hE=>Zg hE rfl rfl rfl fun a hE=>Ze ?_))))))
 refine Zm hE rfl ?_ ?_
 ·intro hb1
  have hF:=Zt hF hb1
  refine Zb (Zc hE rfl fun a hE=>Ze ?_)
  obtain rfl:=Option.some.inj hF
  exact wp_ret (Zo (kr1 hE rfl rfl hM.kept))
 ·intro hb1
  have hF:=Zu hF hb1
  refine wp_skip (Zq (wp_seq (Zb (Zc hE rfl fun a hE=>Ze ?_))))
  obtain ⟨j2,hl3,hF4⟩:=bind_some hF
  refine ZI (fun a w=>∃ s5 : Int,j2 = Fl.nx s5 ∧ Env 27 a [(1,vI s5)] ∧ M (Old w0) w0 w []) ?_ ?_
  ·skip
   refine wp_block ?_
   refine ZD (fun (s6 : Int × Int) a w=>Env 27 a [(0,v0_1),(1,vI s6.1),(5,vI s6.2)] ∧ M (Old w0) w0 w []) hl3 ⟨hE.sub ⟨rfl,rfl,rfl,trivial⟩,hM⟩ ?_
   rintro s6 a w ⟨hE,hM⟩ o9 hs7 hx8
   unfold UA at hs7
   refine wp_seq (Zb (Zd hE rfl fun a hE=>Zd hE rfl fun a hE=>Yb hE rfl Tryz.underlying49 (hM.rd hv0_1) fun a hE=>Zg hE rfl rfl rfl fun a hE=>Ze ?_))
   refine Zm hE rfl ?_ ?_
   ·intro hb10
    have hs7:=Zt hs7 hb10
    refine wp_skip (Zq (wp_seq (wp_block (Zb (Zd hE rfl fun a hE=>Zd hE rfl ?_))))); intro a hE
    obtain ⟨x11,hi13,hs7⟩:=bix hs7
    refine ZN hE rfl rfl Tryz.underlying49 KW (hM.rd hv0_1) hi13.1 ?_; intro a hE
    obtain ⟨cs14,hs15,hA16⟩:=Ww hv0_1 hi13.2 -- ^
    obtain ⟨u17,u19,rfl,h18,h20⟩:=YM hs15 -- ^
    refine Zn hE rfl KW rfl (hM.atk hA16 (V9 hv0_1 hi13.2)) cq fun a hE=>Zd hE rfl ?_; intro a hE
    obtain ⟨r21,e22,hs7⟩:=bind_some hs7
    refine Zx hE rfl (cbm Tryz.func142) (Bi _ x11 u17 (hM.rdo h18) u19 (hM.rdo h20) s6.1 r21 e22) ?_
    rintro v w a ⟨rfl,hK⟩ hE
    have hM:=hM.keep hK
    refine Zc hE rfl fun a hE=>Ze (Zb (Zd hE rfl fun a hE=>Zg hE rfl rfl rfl fun a hE=>Ze ?_))
    refine Zm hE rfl ?_ ?_
    ·intro hb23
     have hs7:=Zt hs7 hb23
     refine Zb (Zc hE rfl fun a hE=>Ze ?_)
     obtain rfl:=hx8 _ (ois hs7)
     obtain rfl:=Option.some.inj hF4
     exact wp_ret (Yf (Zo (Zo (Yf (Zo (Zo (kr1 hE rfl rfl hM.kept)))))))
    ·intro hb23
     have hs7:=Zu hs7 hb23
     refine wp_skip (Z2 (Zq (wp_region_lit (Zd hE rfl fun a hE=>Zg hE rfl rfl rfl fun a hE=>Zc hE rfl fun a hE=>Zh (Zj ?_)))))
     exact ⟨_,(ois hs7),hE.sub ⟨rfl,rfl,rfl,trivial⟩,hM⟩
   ·intro hb10
    have hs7:=Zu hs7 hb10
    refine wp_exit (Zl (Zl (Z3 ?_)))
    obtain rfl:=hx8 _ (ois hs7)
    refine Zj ?_
    exact ⟨s6.1,rfl,hE.sub ⟨rfl,trivial⟩,hM⟩
  ·skip
   rintro a w ⟨s5,ht,hE,hM⟩
   subst ht
   have hF4:=Tg hF4
   refine Zq (Zb (Zd hE rfl fun a hE=>Zc hE rfl fun a hE=>Ze ?_))
   obtain rfl:=Option.some.inj hF4
   exact wp_ret (kr1 hE rfl rfl hM.kept)
def XA (p0 : (List GEvent)) (p1 : Int) : Option (Int) :=
 if (decide ((wr (p1 - (p0.length : Int))) < 0)) = true then (some (-1)) else (some (wr (p1 - (p0.length : Int))))
theorem H5 (w0 : World) (p0 : (List GEvent)) (v0_1 : Value) (hv0_1 : Ro w0 p0 [v0_1]) (p1 : Int) (r : Int) (hF : XA p0 p1 = some r) :
  Calls Tryz.prog 78 [v0_1,vI p1].toArray w0 (Rt w0 (vI r)):=by
 refine ce Tryz.func78 ?_
 intro a hE
 have hM:=M.start w0
 unfold XA at hF
 refine Zb (Zc hE rfl fun a hE=>Ze (Zb (Zd hE rfl fun a hE=>Zd hE rfl fun a hE=>Yb hE rfl Tryz.underlying50 (hM.rd hv0_1) fun a hE=>Zg hE rfl rfl rfl fun a hE=>Zc hE rfl fun a hE=>Ze (wp_seq (Zb (Zd hE rfl fun a hE=>Zg hE rfl rfl rfl fun a hE=>Ze ?_))))))
 refine Zm hE rfl ?_ ?_
 ·intro hb1
  have hF:=Zt hF hb1
  refine Zb (Zc hE rfl fun a hE=>Ze ?_)
  obtain rfl:=Option.some.inj hF
  exact wp_ret (Zo (kr1 hE rfl rfl hM.kept))
 ·intro hb1
  have hF:=Zu hF hb1
  refine wp_skip (Zq (Zb (Zd hE rfl fun a hE=>Zc hE rfl fun a hE=>Ze ?_)))
  obtain rfl:=Option.some.inj hF
  exact wp_ret (kr1 hE rfl rfl hM.kept)
def TN (p0 : GVault) (p1 : Int) : Option (Int) :=
 (W4 p0.Keys p1).bind fun r3=>if (decide (r3 < 0)) = true then (some (-1)) else ((XM p0.Records r3).bind fun r6=>if (decide (r6 < 0)) = true then (some (-1)) else ((XA p0.Events r6).bind fun r9=>if (decide (r9 < 0)) = true then (some (-1)) else (some r9)))
theorem BW (w0 : World) (p0 : GVault) (v0_1 : Value) (hv0_1 : Ro w0 p0.Keys [v0_1]) (v0_2 : Value) (hv0_2 : Ro w0 p0.Records [v0_2]) (v0_3 : Value) (hv0_3 : Ro w0 p0.Events [v0_3]) (p1 : Int) (r : Int) (hF : TN p0 p1 = some r) :
  Calls Tryz.prog 23 [(Value.agg (cat [[v0_1],[vI p0.Next],[v0_2],[v0_3],enc p0.Head]).toArray),vI p1].toArray w0 (Rt w0 (vI r)):=by
 refine ce Tryz.func23 ?_
 intro a hE
 have hM:=M.start w0
 unfold TN at hF
 refine Zb (ZV (cs:=cat [[v0_1],[vI p0.Next],[v0_2],[v0_3],enc p0.Head]) hE hM Za ld rfl rfl fun b1 w a hM hE=>Zc hE rfl fun a hE=>Ze (Zb (Zf hE rfl (k8) fun a hE=>Zw (v:=v0_1) hE rfl ty48 rfl (At.cat (pre:=[]) hM.rawAt0 cl0) fun a hE=>Zd hE rfl ?_))); intro a hE
 obtain ⟨r3,e4,hF⟩:=bind_some hF
 refine Zx hE rfl (cbm Tryz.func76) (H9 _ p0.Keys v0_1 (hM.rdo hv0_1) p1 r3 e4) ?_
 rintro v w a ⟨rfl,hK⟩ hE
 have hM:=hM.keep hK
 refine Zc hE rfl fun a hE=>Ze (wp_seq (Zb (Zd hE rfl fun a hE=>Zg hE rfl rfl rfl fun a hE=>Ze ?_)))
 refine Zm hE rfl ?_ ?_
 ·intro hb5
  have hF:=Zt hF hb5
  refine Zb (Zc hE rfl fun a hE=>Ze ?_)
  obtain rfl:=Option.some.inj hF
  exact wp_ret (Zo (kr1 hE rfl rfl hM.kept))
 ·intro hb5
  have hF:=Zu hF hb5
  refine wp_skip (Zq (Zb (Zf hE rfl (qq) fun a hE=>Zw (v:=v0_2) hE rfl ty49 rfl (At.cat (pre:=[[v0_1],[vI p0.Next]]) hM.rawAt0 ck) fun a hE=>Zd hE rfl ?_))); intro a hE
  obtain ⟨r6,e7,hF⟩:=bind_some hF
  refine Zx hE rfl (cbm Tryz.func77) (Hm _ p0.Records v0_2 (hM.rdo hv0_2) r3 r6 e7) ?_
  rintro v w a ⟨rfl,hK⟩ hE
  have hM:=hM.keep hK
  refine Zc hE rfl fun a hE=>Ze (wp_seq (Zb (Zd hE rfl fun a hE=>Zg hE rfl rfl rfl fun a hE=>Ze ?_)))
  refine Zm hE rfl ?_ ?_
  ·intro hb8
   have hF:=Zt hF hb8
   refine Zb (Zc hE rfl fun a hE=>Ze ?_)
   obtain rfl:=Option.some.inj hF
   exact wp_ret (Zo (kr1 hE rfl rfl hM.kept))
  ·intro hb8
   have hF:=Zu hF hb8
   refine wp_skip (Zq (Zb (Zf hE rfl (Zaq) fun a hE=>Zw (v:=v0_3) hE rfl ty50 rfl (At.cat (pre:=[[v0_1],[vI p0.Next],[v0_2]]) hM.rawAt0 ck) fun a hE=>Zd hE rfl ?_))); intro a hE
   obtain ⟨r9,e10,hF⟩:=bind_some hF
   refine Zx hE rfl (cbm Tryz.func78) (H5 _ p0.Events v0_3 (hM.rdo hv0_3) r6 r9 e10) ?_
   rintro v w a ⟨rfl,hK⟩ hE
   have hM:=hM.keep hK
   refine Zc hE rfl fun a hE=>Ze (wp_seq (Zb (Zd hE rfl fun a hE=>Zg hE rfl rfl rfl fun a hE=>Ze ?_)))
   refine Zm hE rfl ?_ ?_
   ·intro hb11
    have hF:=Zt hF hb11
    refine Zb (Zc hE rfl fun a hE=>Ze ?_)
    obtain rfl:=Option.some.inj hF
    exact wp_ret (Zo (kr1 hE rfl rfl hM.kept))
   ·intro hb11
    have hF:=Zu hF hb11
    refine wp_skip (Zq (Zb (Zd hE rfl fun a hE=>Zc hE rfl fun a hE=>Ze ?_)))
    obtain rfl:=Option.some.inj hF
    exact wp_ret (kr1 hE rfl rfl hM.kept)
def TB (p0 : (Vector UInt8 16)) (s10 : (Vector UInt8 16) × Int) : Option (Fl ((Vector UInt8 16) × Int) (Vector UInt8 16)) :=
 if (decide (s10.2 < 16)) = true then ((ZH p0 s10.2).bind fun x16=>(ZH s10.1 s10.2).bind fun x19=>some (Fl.nx ((s10.1.setIfInBounds (s10.2).toNat x16),wr (s10.2 + 1)))) else (some (Fl.ex s10.1))
def WT (p0 : (Vector UInt8 16)) : Option ((Vector UInt8 16)) :=
 (ZB (TB p0) ((Vector.replicate 16 (0 : UInt8)),0)).bind fun j7=>some j7
theorem Ku (w0 : World) (p0 : (Vector UInt8 16)) (r : (Vector UInt8 16)) (hF : WT p0 = some r) :
  Calls Tryz.prog 31 [(Value.agg (enc p0).toArray)].toArray w0 (Rt w0 (Value.agg (enc r).toArray)):=by
 refine ce Tryz.func31 ?_
 intro a hE
 have hM:=M.start w0
 unfold WT at hF
 refine Zb (ZV (cs:=enc p0) hE hM Za ld rfl rfl fun b1 w a hM hE=>ZA hE hM ZG fun b3 w a hM hE=>Ze (Zb (ZA hE hM ZG fun b5 w a hM hE=>Ze (wp_seq (Zb (Zc hE rfl fun a hE=>Ze ?_))))))
 obtain ⟨j7,hl8,hF9⟩:=bind_some hF
 refine ZI (fun a w=>Env 15 a [(2,(ptr b3 0)),(3,(ptr b5 0))] ∧ M (Old w0) w0 w [raw b5 (enc j7),raw b3 (enc (Vector.replicate 16 (0 : UInt8)))]) ?_ ?_
 ·skip
  refine wp_block ?_
  refine ZD (fun (s10 : (Vector UInt8 16) × Int) a w=>Env 15 a [(1,(ptr b1 0)),(2,(ptr b3 0)),(3,(ptr b5 0)),(4,vI s10.2)] ∧ M (Old w0) w0 w [raw b5 (enc s10.1),raw b3 (enc (Vector.replicate 16 (0 : UInt8))),raw b1 (enc p0)]) hl8 ⟨hE.sub ⟨rfl,rfl,rfl,rfl,trivial⟩,hM⟩ ?_
  rintro s10 a w ⟨hE,hM⟩ o13 hs11 hx12
  unfold TB at hs11
  refine wp_seq (Zb (Zd hE rfl fun a hE=>Zg hE rfl rfl rfl fun a hE=>Ze ?_))
  refine Zm hE rfl ?_ ?_
  ·intro hb14
   have hs11:=Zt hs11 hb14
   refine wp_skip (Zq (wp_seq (wp_block (wp_region_lit (Zd hE rfl fun a hE=>Zd hE rfl ?_))))); intro a hE
   obtain ⟨x16,hi15,hs11⟩:=bvx hs11
   refine ZC hE rfl rfl Tryz.underlying65 ty5 hi15.1 fun a hE=>Zw (v:=(vB x16)) hE rfl ty5 rfl (At.vec hM.rawAt2 hi15.2) ?_; intro a hE
   obtain ⟨x19,hi18,hs11⟩:=bvx hs11
   refine ZC hE rfl rfl Tryz.underlying68 ty5 hi18.1 fun a hE=>Zk (seg:=[vB x16]) (cs':=enc (s10.1.setIfInBounds (s10.2).toNat x16)) hE hM Za rfl rfl rfl ty5 rfl (ZK (v:=s10.1) (x:=x16) hi18.1) (Flat.cell (x16 : UInt8)) (ZE (v:=s10.1) (x:=x16) hi18.1) fun w a hM hE=>Zh (Z2 (Zq (wp_region_lit (Zd hE rfl fun a hE=>Zg hE rfl rfl rfl fun a hE=>Zc hE rfl fun a hE=>Zh (Zj ?_)))))
   exact ⟨_,(ois hs11),hE.sub ⟨rfl,rfl,rfl,rfl,trivial⟩,hM⟩
  ·intro hb14
   have hs11:=Zu hs11 hb14
   refine wp_exit (Zl (Zl (Z3 ?_)))
   obtain rfl:=hx12 _ (ois hs11)
   refine Zj ?_
   have hM:=M.fst (l:=[_,_]) hM.pull1.pull1
   exact ⟨hE.sub ⟨rfl,rfl,trivial⟩,hM⟩
 ·skip
  rintro a w ⟨hE,hM⟩
  refine Zq (Zb (Zn hE rfl ZG rfl hM.rawAt0 (Flat.len _) ?_)); intro a hE
  have hM:=hM.pull1
  refine Zk (seg:=enc j7) (cs':=enc j7) hE hM Za rfl rfl rfl ZG (Flat.len _) (zle flq) (Flat.cell _) (Zi flq) fun w a hM hE=>Ze ?_
  obtain rfl:=Option.some.inj hF9
  have hq22 : Yu Tryz.prog _ _ (.cell 2 68) _:=ZJ hE rfl ZG rfl hM.rawAt0 (Flat.len _) rfl
  exact wp_ret (ZL hE rfl hq22 ⟨_,rfl,rfl,hM.kept⟩)
def Ta (p0 : (List (Vector UInt8 16))) (s10 : (List (Vector UInt8 16)) × Int) : Option (Fl ((List (Vector UInt8 16)) × Int) (List (Vector UInt8 16))) :=
 if (decide (s10.2 < (p0.length : Int))) = true then ((idx p0 s10.2).bind fun x17=>(WT x17).bind fun r20=>(idx s10.1 s10.2).bind fun x22=>some (Fl.nx ((s10.1.set (s10.2).toNat r20),wr (s10.2 + 1)))) else (some (Fl.ex s10.1))
def Ud (p0 : (List (Vector UInt8 16))) : Option ((List (Vector UInt8 16))) :=
 (mkS 16 (Vector.replicate 16 (0 : UInt8)) (p0.length : Int)).bind fun l1=>(ZB (Ta p0) (l1,0)).bind fun j5=>some j5
theorem Bl (w0 : World) (p0 : (List (Vector UInt8 16))) (v0_1 : Value) (hv0_1 : Ro w0 p0 [v0_1]) (r : (List (Vector UInt8 16))) (hF : Ud p0 = some r) :
  Calls Tryz.prog 83 [v0_1].toArray w0 (fun en w'=>∃ v,en = .returned v ∧ (∃ (y1 : Value),v = y1 ∧ Fr w0 w' [osl NoB (r : List (Vector UInt8 16)) y1] ∧ Kept (Old w0) w0 w')):=by
 refine ce Tryz.func83 ?_
 intro a hE
 have hM:=M.start w0
 unfold Ud at hF
 refine Zb (Zc hE rfl fun a hE=>Ze (Zb (Zd hE rfl fun a hE=>Yb hE rfl Tryz.underlying48 (hM.rd hv0_1) ?_))); intro a hE
 obtain ⟨l1,e2,hF⟩:=bind_some hF
 refine Hr hE hM Za ld rfl rfl Tryz.underlying54 ZG rfl (by decide) (fun _=>Tv.2 ⟨rfl,rfl⟩) e2 fun u3 w a hM hE=>Zc hE rfl fun a hE=>Ze (wp_seq (Zb (Zc hE rfl fun a hE=>Ze ?_)))
 obtain ⟨j5,hl6,hF7⟩:=bind_some hF
 refine ZI (fun a w=>∃ (u8 : Value),Env 23 a [(3,u8)] ∧ M (Old w0) w0 w [osl NoB (j5 : List (Vector UInt8 16)) u8]) ?_ ?_
 ·skip
  refine wp_block ?_
  refine ZD (fun (s10 : (List (Vector UInt8 16)) × Int) a w=>∃ (u11 : Value),Env 23 a [(0,v0_1),(3,u11),(4,vI s10.2)] ∧ M (Old w0) w0 w [osl NoB (s10.1 : List (Vector UInt8 16)) u11]) hl6 ⟨u3,hE.sub ⟨rfl,rfl,rfl,trivial⟩,hM⟩ ?_
  rintro s10 a w ⟨u11,hE,hM⟩ o15 hs13 hx14
  unfold Ta at hs13
  refine wp_seq (Zb (Zd hE rfl fun a hE=>Zd hE rfl fun a hE=>Yb hE rfl Tryz.underlying48 (hM.rd hv0_1) fun a hE=>Zg hE rfl rfl rfl fun a hE=>Ze ?_))
  refine Zm hE rfl ?_ ?_
  ·intro hb16
   have hs13:=Zt hs13 hb16
   refine wp_skip (Zq (wp_seq (wp_block (wp_region_lit (Zd hE rfl fun a hE=>Zd hE rfl fun a hE=>Zd hE rfl fun a hE=>Zd hE rfl ?_))))); intro a hE
   obtain ⟨x17,hi19,hs13⟩:=bix hs13
   refine ZN hE rfl rfl Tryz.underlying48 ty65 (hM.rd hv0_1) hi19.1 fun a hE=>Zn hE rfl ty65 rfl (X0 (hM.rd hv0_1) hi19.2) (Flat.len _) ?_; intro a hE
   obtain ⟨r20,e21,hs13⟩:=bind_some hs13
   refine Zx hE rfl (cbm Tryz.func31) (Ku _ x17 r20 e21) ?_
   rintro v w a ⟨rfl,hK⟩ hE
   have hM:=hM.keep hK
   obtain ⟨x22,hi24,hs13⟩:=bix hs13
   refine ZN hE rfl rfl Tryz.underlying54 ZG (hM.sl (pre:=[]) noB) hi24.1 fun a hE=>T3 (i:=(s10.2).toNat) (k0:=0) (seg:=enc r20) (xo:=x22) (xn:=r20) hE hM Za rfl rfl rfl ZG (Flat.len _) (Flat.cell _) hi24.2 (QA (m:=16) (Flat.len _) (by decide)) (Zi flq) fun w a hM hE=>Zh (Z2 (Zq (wp_region_lit (Zd hE rfl fun a hE=>Zg hE rfl rfl rfl fun a hE=>Zc hE rfl fun a hE=>Zh (Zj ?_)))))
   exact ⟨_,(ois hs13),u11,hE.sub ⟨rfl,rfl,rfl,trivial⟩,hM⟩
  ·intro hb16
   have hs13:=Zu hs13 hb16
   refine wp_exit (Zl (Zl (Z3 ?_)))
   obtain rfl:=hx14 _ (ois hs13)
   refine Zj ?_
   exact ⟨u11,hE.sub ⟨rfl,trivial⟩,hM⟩
 ·skip
  rintro a w ⟨u8,hE,hM⟩
  refine Zq (Zb (Zd hE rfl fun a hE=>Zc hE rfl fun a hE=>Ze ?_))
  obtain rfl:=Option.some.inj hF7
  exact wp_ret (ZL hE rfl (ZT hE rfl) ⟨_,rfl,u8,rfl,hM.outF (Yq Xy),hM.kept⟩)
def TA (p0 : (List UInt8)) (s10 : (List UInt8) × Int) : Option (Fl ((List UInt8) × Int) (List UInt8)) :=
 if (decide (s10.2 < (p0.length : Int))) = true then ((idx p0 s10.2).bind fun x17=>(idx s10.1 s10.2).bind fun x20=>some (Fl.nx ((s10.1.set (s10.2).toNat x17),wr (s10.2 + 1)))) else (some (Fl.ex s10.1))
def VP (p0 : (List UInt8)) : Option ((List UInt8)) :=
 (mkS 1 (0 : UInt8) (p0.length : Int)).bind fun l1=>(ZB (TA p0) (l1,0)).bind fun j5=>some j5
theorem KD (w0 : World) (p0 : (List UInt8)) (v0_1 : Value) (hv0_1 : Ro w0 p0 [v0_1]) (r : (List UInt8)) (hF : VP p0 = some r) :
  Calls Tryz.prog 18 [v0_1].toArray w0 (fun en w'=>∃ v,en = .returned v ∧ (∃ (y1 : Value),v = y1 ∧ Fr w0 w' [osl NoB (r : List UInt8) y1] ∧ Kept (Old w0) w0 w')):=by
 refine ce Tryz.func18 ?_
 intro a hE
 have hM:=M.start w0
 unfold VP at hF
 refine Zb (Zc hE rfl fun a hE=>Ze (Zb (Zd hE rfl fun a hE=>Yb hE rfl Tryz.underlying40 (hM.rd hv0_1) ?_))); intro a hE
 obtain ⟨l1,e2,hF⟩:=bind_some hF
 refine Hr hE hM Za ld rfl rfl Tryz.underlying40 ty5 rfl (by decide) (fun _=>Tv.2 ⟨rfl,rfl⟩) e2 fun u3 w a hM hE=>Zc hE rfl fun a hE=>Ze (wp_seq (Zb (Zc hE rfl fun a hE=>Ze ?_)))
 obtain ⟨j5,hl6,hF7⟩:=bind_some hF
 refine ZI (fun a w=>∃ (u8 : Value),Env 22 a [(3,u8)] ∧ M (Old w0) w0 w [osl NoB (j5 : List UInt8) u8]) ?_ ?_
 ·skip
  refine wp_block ?_
  refine ZD (fun (s10 : (List UInt8) × Int) a w=>∃ (u11 : Value),Env 22 a [(0,v0_1),(3,u11),(4,vI s10.2)] ∧ M (Old w0) w0 w [osl NoB (s10.1 : List UInt8) u11]) hl6 ⟨u3,hE.sub ⟨rfl,rfl,rfl,trivial⟩,hM⟩ ?_
  rintro s10 a w ⟨u11,hE,hM⟩ o15 hs13 hx14
  unfold TA at hs13
  refine wp_seq (Zb (Zd hE rfl fun a hE=>Zd hE rfl fun a hE=>Yb hE rfl Tryz.underlying40 (hM.rd hv0_1) fun a hE=>Zg hE rfl rfl rfl fun a hE=>Ze ?_))
  refine Zm hE rfl ?_ ?_
  ·intro hb16
   have hs13:=Zt hs13 hb16
   refine wp_skip (Zq (wp_seq (wp_block (wp_region_lit (Zd hE rfl fun a hE=>Zd hE rfl fun a hE=>Zd hE rfl fun a hE=>Zd hE rfl ?_))))); intro a hE
   obtain ⟨x17,hi19,hs13⟩:=bix hs13
   refine ZN hE rfl rfl Tryz.underlying40 ty5 (hM.rd hv0_1) hi19.1 fun a hE=>Zw (v:=(vB x17)) hE rfl ty5 rfl (X0 (hM.rd hv0_1) hi19.2) ?_; intro a hE
   obtain ⟨x20,hi22,hs13⟩:=bix hs13
   refine ZN hE rfl rfl Tryz.underlying40 ty5 (hM.sl (pre:=[]) noB) hi22.1 fun a hE=>T3 (i:=(s10.2).toNat) (k0:=0) (seg:=[vB x17]) (xo:=x20) (xn:=x17) hE hM Za rfl rfl rfl ty5 rfl (Flat.cell (x17 : UInt8)) hi22.2 (QA (m:=1) rfl (by decide)) (Zi rfl) fun w a hM hE=>Zh (Z2 (Zq (wp_region_lit (Zd hE rfl fun a hE=>Zg hE rfl rfl rfl fun a hE=>Zc hE rfl fun a hE=>Zh (Zj ?_)))))
   exact ⟨_,(ois hs13),u11,hE.sub ⟨rfl,rfl,rfl,trivial⟩,hM⟩
  ·intro hb16
   have hs13:=Zu hs13 hb16
   refine wp_exit (Zl (Zl (Z3 ?_)))
   obtain rfl:=hx14 _ (ois hs13)
   refine Zj ?_
   exact ⟨u11,hE.sub ⟨rfl,trivial⟩,hM⟩
 ·skip
  rintro a w ⟨u8,hE,hM⟩
  refine Zq (Zb (Zd hE rfl fun a hE=>Zc hE rfl fun a hE=>Ze ?_))
  obtain rfl:=Option.some.inj hF7
  exact wp_ret (ZL hE rfl (ZT hE rfl) ⟨_,rfl,u8,rfl,hM.outF (Yq Xy),hM.kept⟩)
def U6 (p0 : (Vector UInt8 32)) (s10 : (Vector UInt8 32) × Int) : Option (Fl ((Vector UInt8 32) × Int) (Vector UInt8 32)) :=
 if (decide (s10.2 < 32)) = true then ((ZH p0 s10.2).bind fun x16=>(ZH s10.1 s10.2).bind fun x19=>some (Fl.nx ((s10.1.setIfInBounds (s10.2).toNat x16),wr (s10.2 + 1)))) else (some (Fl.ex s10.1))
def Wj (p0 : (Vector UInt8 32)) : Option ((Vector UInt8 32)) :=
 (ZB (U6 p0) ((Vector.replicate 32 (0 : UInt8)),0)).bind fun j7=>some j7
theorem T9 (w0 : World) (p0 : (Vector UInt8 32)) (r : (Vector UInt8 32)) (hF : Wj p0 = some r) :
  Calls Tryz.prog 12 [(Value.agg (enc p0).toArray)].toArray w0 (Rt w0 (Value.agg (enc r).toArray)):=by
 refine ce Tryz.func12 ?_
 intro a hE
 have hM:=M.start w0
 unfold Wj at hF
 refine Zb (ZV (cs:=enc p0) hE hM Za ld rfl rfl fun b1 w a hM hE=>ZA hE hM Yt fun b3 w a hM hE=>Ze (Zb (ZA hE hM Yt fun b5 w a hM hE=>Ze (wp_seq (Zb (Zc hE rfl fun a hE=>Ze ?_))))))
 obtain ⟨j7,hl8,hF9⟩:=bind_some hF
 refine ZI (fun a w=>Env 15 a [(2,(ptr b3 0)),(3,(ptr b5 0))] ∧ M (Old w0) w0 w [raw b5 (enc j7),raw b3 (enc (Vector.replicate 32 (0 : UInt8)))]) ?_ ?_
 ·skip
  refine wp_block ?_
  refine ZD (fun (s10 : (Vector UInt8 32) × Int) a w=>Env 15 a [(1,(ptr b1 0)),(2,(ptr b3 0)),(3,(ptr b5 0)),(4,vI s10.2)] ∧ M (Old w0) w0 w [raw b5 (enc s10.1),raw b3 (enc (Vector.replicate 32 (0 : UInt8))),raw b1 (enc p0)]) hl8 ⟨hE.sub ⟨rfl,rfl,rfl,rfl,trivial⟩,hM⟩ ?_
  rintro s10 a w ⟨hE,hM⟩ o13 hs11 hx12
  unfold U6 at hs11
  refine wp_seq (Zb (Zd hE rfl fun a hE=>Zg hE rfl rfl rfl fun a hE=>Ze ?_))
  refine Zm hE rfl ?_ ?_
  ·intro hb14
   have hs11:=Zt hs11 hb14
   refine wp_skip (Zq (wp_seq (wp_block (wp_region_lit (Zd hE rfl fun a hE=>Zd hE rfl ?_))))); intro a hE
   obtain ⟨x16,hi15,hs11⟩:=bvx hs11
   refine ZC hE rfl rfl Tryz.underlying27 ty5 hi15.1 fun a hE=>Zw (v:=(vB x16)) hE rfl ty5 rfl (At.vec hM.rawAt2 hi15.2) ?_; intro a hE
   obtain ⟨x19,hi18,hs11⟩:=bvx hs11
   refine ZC hE rfl rfl Tryz.underlying35 ty5 hi18.1 fun a hE=>Zk (seg:=[vB x16]) (cs':=enc (s10.1.setIfInBounds (s10.2).toNat x16)) hE hM Za rfl rfl rfl ty5 rfl (ZK (v:=s10.1) (x:=x16) hi18.1) (Flat.cell (x16 : UInt8)) (ZE (v:=s10.1) (x:=x16) hi18.1) fun w a hM hE=>Zh (Z2 (Zq (wp_region_lit (Zd hE rfl fun a hE=>Zg hE rfl rfl rfl fun a hE=>Zc hE rfl fun a hE=>Zh (Zj ?_)))))
   exact ⟨_,(ois hs11),hE.sub ⟨rfl,rfl,rfl,rfl,trivial⟩,hM⟩
  ·intro hb14
   have hs11:=Zu hs11 hb14
   refine wp_exit (Zl (Zl (Z3 ?_)))
   obtain rfl:=hx12 _ (ois hs11)
   refine Zj ?_
   have hM:=M.fst (l:=[_,_]) hM.pull1.pull1
   exact ⟨hE.sub ⟨rfl,rfl,trivial⟩,hM⟩
 ·skip
  rintro a w ⟨hE,hM⟩
  refine Zq (Zb (Zn hE rfl Yt rfl hM.rawAt0 (Flat.len _) ?_)); intro a hE
  have hM:=hM.pull1
  refine Zk (seg:=enc j7) (cs':=enc j7) hE hM Za rfl rfl rfl Yt (Flat.len _) (zle flq) (Flat.cell _) (Zi flq) fun w a hM hE=>Ze ?_
  obtain rfl:=Option.some.inj hF9
  have hq22 : Yu Tryz.prog _ _ (.cell 2 35) _:=ZJ hE rfl Yt rfl hM.rawAt0 (Flat.len _) rfl
  exact wp_ret (ZL hE rfl hq22 ⟨_,rfl,rfl,hM.kept⟩)
def Vc (p0 : GRecord) : Option (GRecord) :=
 (WT p0.Nonce).bind fun r7=>(VP p0.Label).bind fun r9=>(VP p0.Body).bind fun r12=>(Wj p0.Tag).bind fun r15=>some (⟨p0.Number,p0.Version,r7,r9,r12,r15⟩ : GRecord)
theorem H4 (w0 : World) (p0 : GRecord) (v0_1 : Value) (hv0_1 : Ro w0 p0.Label [v0_1]) (v0_2 : Value) (hv0_2 : Ro w0 p0.Body [v0_2]) (r : GRecord) (hF : Vc p0 = some r) :
  Calls Tryz.prog 145 [(Value.agg (cat [[vI p0.Number],[vI p0.Version],enc p0.Nonce,[v0_1],[v0_2],enc p0.Tag]).toArray)].toArray w0 (fun en w'=>∃ v,en = .returned v ∧ (∃ (y1 : Value) (y2 : Value),v = (Value.agg (cat [[vI r.Number],[vI r.Version],enc r.Nonce,[y1],[y2],enc r.Tag]).toArray) ∧ Fr w0 w' [osl NoB (r.Label : List UInt8) y1,osl NoB (r.Body : List UInt8) y2] ∧ Kept (Old w0) w0 w')):=by
 refine ce Tryz.func145 ?_
 intro a hE
 have hM:=M.start w0
 unfold Vc at hF
 refine Zb (ZV (cs:=cat [[vI p0.Number],[vI p0.Version],enc p0.Nonce,[v0_1],[v0_2],enc p0.Tag]) hE hM Za ld rfl rfl fun b1 w a hM hE=>ZA hE hM Z4 fun b3 w a hM hE=>Ze (Zb (ZA hE hM Z4 fun b5 w a hM hE=>Ze (Zb (Zf hE rfl (Zbv) fun a hE=>Zw (v:=(vI p0.Number)) hE rfl ty2 rfl (At.cat (pre:=[]) hM.rawAt2 cl0) fun a hE=>Zf hE rfl (Ua) fun a hE=>Zk (seg:=[vI p0.Number]) hE hM Za rfl rfl rfl ty2 rfl (YK (pre:=[]) cl0 rfl) (Flat.cell (p0.Number : Int)) (ZR (pre:=[]) cl0 rfl) fun w a hM hE=>Ze (Zb (Zf hE rfl (Zbu) fun a hE=>Zw (v:=(vI p0.Version)) hE rfl ty2 rfl (At.cat (pre:=[[vI p0.Number]]) hM.rawAt2 ck) fun a hE=>Zf hE rfl (Qi) fun a hE=>Zk (seg:=[vI p0.Version]) hE hM Za rfl rfl rfl ty2 rfl (YK (pre:=[[vI p0.Number]]) ck rfl) (Flat.cell (p0.Version : Int)) (ZR (pre:=[[vI p0.Number]]) ck rfl) fun w a hM hE=>Ze (Zb (Zf hE rfl (Zbg) ?_))))))))); intro a hE
 refine Zn hE rfl ty65 rfl (At.cat (pre:=[[vI p0.Number],[vI p0.Version]]) hM.rawAt2 ck) (Flat.len _) ?_; intro a hE
 obtain ⟨r7,e8,hF⟩:=bind_some hF
 refine Zx hE rfl (cbm Tryz.func31) (Ku _ p0.Nonce r7 e8) ?_
 rintro v w a ⟨rfl,hK⟩ hE
 have hM:=hM.keep hK
 refine Zf hE rfl (JQ) fun a hE=>Zk (seg:=enc r7) hE hM Za rfl rfl rfl ZG (Flat.len _) (YK (pre:=[[vI p0.Number],[vI p0.Version]]) ck flq) (Flat.cell _) (ZR (pre:=[[vI p0.Number],[vI p0.Version]]) ck flq) fun w a hM hE=>Ze (Zb (Zf hE rfl (ka) fun a hE=>Zw (v:=v0_1) hE rfl Ui rfl (At.cat (pre:=[[vI p0.Number],[vI p0.Version],enc p0.Nonce]) hM.rawAt2 ck) ?_)); intro a hE
 obtain ⟨r9,e10,hF⟩:=bind_some hF
 refine Zx hE rfl (cbm Tryz.func18) (KD _ p0.Label v0_1 (hM.rdo hv0_1) r9 e10) ?_
 rintro u11 w a ⟨_,rfl,hFr,hK⟩ hE
 have hM:=hM.add hK hFr
 refine Zf hE rfl (Tz) ?_; intro a hE
 have hM:=hM.pull1
 refine Zk (seg:=[u11]) hE hM Za rfl rfl (Yz (hM.sl (pre:=[_]) noB)) Ui rfl (YK (pre:=[[vI p0.Number],[vI p0.Version],enc r7]) ck rfl) (Rep.cell (hM.sl (pre:=[_]) noB)) (ZR (pre:=[[vI p0.Number],[vI p0.Version],enc r7]) ck rfl) fun w a hM hE=>Ze (Zb (Zf hE rfl (jT) fun a hE=>Zw (v:=v0_2) hE rfl Ui rfl (At.cat (pre:=[[vI p0.Number],[vI p0.Version],enc p0.Nonce,[v0_1]]) hM.rawAt3 ck) ?_)); intro a hE
 obtain ⟨r12,e13,hF⟩:=bind_some hF
 refine Zx hE rfl (cbm Tryz.func18) (KD _ p0.Body v0_2 (hM.rdo hv0_2) r12 e13) ?_
 rintro u14 w a ⟨_,rfl,hFr,hK⟩ hE
 have hM:=hM.add hK hFr
 refine Zf hE rfl (TU) ?_; intro a hE
 have hM:=hM.pull1
 refine Zk (seg:=[u14]) hE hM Za rfl rfl (Yz (hM.sl (pre:=[_]) noB)) Ui rfl (YK (pre:=[[vI p0.Number],[vI p0.Version],enc r7,[u11]]) ck rfl) (Rep.cell (hM.sl (pre:=[_]) noB)) (ZR (pre:=[[vI p0.Number],[vI p0.Version],enc r7,[u11]]) ck rfl) fun w a hM hE=>Ze (Zb (Zf hE rfl (Zbr) fun a hE=>Zn hE rfl ty27 rfl (At.cat (pre:=[[vI p0.Number],[vI p0.Version],enc p0.Nonce,[v0_1],[v0_2]]) hM.rawAt4 ck) (Flat.len _) ?_)); intro a hE
 obtain ⟨r15,e16,hF⟩:=bind_some hF
 refine Zx hE rfl cb12 (T9 _ p0.Tag r15 e16) ?_
 rintro v w a ⟨rfl,hK⟩ hE
 have hM:=hM.keep hK
 refine Zf hE rfl (J7) fun a hE=>Zk (seg:=enc r15) hE hM Za rfl rfl rfl Yt (Flat.len _) (YK (pre:=[[vI p0.Number],[vI p0.Version],enc r7,[u11],[u14]]) ck flq) (Flat.cell _) (ZR (pre:=[[vI p0.Number],[vI p0.Version],enc r7,[u11],[u14]]) ck flq) fun w a hM hE=>Ze (Zb (Zn hE rfl Z4 rfl hM.rawAt0 cq ?_)); intro a hE
 have hM:=hM.pull3
 refine Zk (seg:=cat [[vI p0.Number],[vI p0.Version],enc r7,[u11],[u14],enc r15]) (cs':=cat [[vI p0.Number],[vI p0.Version],enc r7,[u11],[u14],enc r15]) hE hM Za rfl rfl rfl Z4 cq (Nat.le_of_eq ((Nat.zero_add _).trans (Eq.trans cq (Eq.symm cq)))) (ZX (cc1 (Flat.cell (p0.Number : Int)) (cc1 (Flat.cell (p0.Version : Int)) (cc1 (Flat.cell _) (cc1 (Rep.cell (hM.sl (pre:=[_,_,_]) noB)) (cc1 (Rep.cell (hM.sl (pre:=[_,_]) noB)) (cc1 (Flat.cell _) cc0))))))) (Zi (Eq.trans cq (Eq.symm cq))) fun w a hM hE=>Ze ?_
 obtain rfl:=Option.some.inj hF
 have hq17 : Yu Tryz.prog _ _ (.cell 2 127) _:=ZJ hE rfl Z4 rfl hM.rawAt0 cq rfl
 have hM:=M.fst (l:=[_,_]) hM.pull2.pull3
 exact wp_ret (ZL hE rfl hq17 ⟨_,rfl,u11,u14,rfl,hM.outF (Yq (Yq Xy)),hM.kept⟩)
def UB (p0 : (List GRecord)) (s10 : (List GRecord) × Int) : Option (Fl ((List GRecord) × Int) (List GRecord)) :=
 if (decide (s10.2 < (p0.length : Int))) = true then ((idx p0 s10.2).bind fun x17=>(Vc x17).bind fun r27=>(idx s10.1 s10.2).bind fun x31=>some (Fl.nx ((s10.1.set (s10.2).toNat r27),wr (s10.2 + 1)))) else (some (Fl.ex s10.1))
def VI (p0 : (List GRecord)) : Option ((List GRecord)) :=
 (mkS 112 (⟨(0 : Int),(0 : Int),(Vector.replicate 16 (0 : UInt8)),([] : (List UInt8)),([] : (List UInt8)),(Vector.replicate 32 (0 : UInt8))⟩ : GRecord) (p0.length : Int)).bind fun l1=>(ZB (UB p0) (l1,0)).bind fun j5=>some j5
theorem Hy (w0 : World) (p0 : (List GRecord)) (v0_1 : Value) (hv0_1 : Ro w0 p0 [v0_1]) (r : (List GRecord)) (hF : VI p0 = some r) :
  Calls Tryz.prog 84 [v0_1].toArray w0 (fun en w'=>∃ v,en = .returned v ∧ (∃ (y1 : Value),v = y1 ∧ Fr w0 w' [osl NoB (r : List GRecord) y1] ∧ Kept (Old w0) w0 w')):=by
 refine ce Tryz.func84 ?_
 intro a hE
 have hM:=M.start w0
 unfold VI at hF
 refine Zb (Zc hE rfl fun a hE=>Ze (Zb (Zd hE rfl fun a hE=>Yb hE rfl Tryz.underlying49 (hM.rd hv0_1) ?_))); intro a hE
 obtain ⟨l1,e2,hF⟩:=bind_some hF
 refine Hr hE hM Za ld rfl rfl Tryz.underlying55 Z4 rfl (by decide) zQ e2 fun u3 w a hM hE=>Zc hE rfl fun a hE=>Ze (wp_seq (Zb (Zc hE rfl fun a hE=>Ze ?_)))
 obtain ⟨j5,hl6,hF7⟩:=bind_some hF
 refine ZI (fun a w=>∃ (u8 : Value),Env 23 a [(3,u8)] ∧ M (Old w0) w0 w [osl NoB (j5 : List GRecord) u8]) ?_ ?_
 ·skip
  refine wp_block ?_
  refine ZD (fun (s10 : (List GRecord) × Int) a w=>∃ (u11 : Value),Env 23 a [(0,v0_1),(3,u11),(4,vI s10.2)] ∧ M (Old w0) w0 w [osl NoB (s10.1 : List GRecord) u11]) hl6 ⟨u3,hE.sub ⟨rfl,rfl,rfl,trivial⟩,hM⟩ ?_
  rintro s10 a w ⟨u11,hE,hM⟩ o15 hs13 hx14
  unfold UB at hs13
  refine wp_seq (Zb (Zd hE rfl fun a hE=>Zd hE rfl fun a hE=>Yb hE rfl Tryz.underlying49 (hM.rd hv0_1) fun a hE=>Zg hE rfl rfl rfl fun a hE=>Ze ?_))
  refine Zm hE rfl ?_ ?_
  ·intro hb16
   have hs13:=Zt hs13 hb16
   refine wp_skip (Zq (wp_seq (wp_block (wp_region_lit (Zd hE rfl fun a hE=>Zd hE rfl fun a hE=>Zd hE rfl fun a hE=>Zd hE rfl ?_))))); intro a hE
   obtain ⟨x17,hi19,hs13⟩:=bix hs13
   refine ZN hE rfl rfl Tryz.underlying49 KW (hM.rd hv0_1) hi19.1 ?_; intro a hE
   obtain ⟨cs20,hs21,hA22⟩:=Ww hv0_1 hi19.2 -- ^
   obtain ⟨u23,u25,rfl,h24,h26⟩:=YM hs21 -- ^
   refine Zn hE rfl KW rfl (hM.atk hA22 (V9 hv0_1 hi19.2)) cq ?_; intro a hE
   obtain ⟨r27,e28,hs13⟩:=bind_some hs13
   refine Zx hE rfl (cbm Tryz.func145) (H4 _ x17 u23 (hM.rdo h24) u25 (hM.rdo h26) r27 e28) ?_
   rintro v w a ⟨u29,u30,rfl,hFr,hK⟩ hE
   have hM:=hM.add hK hFr
   obtain ⟨x31,hi33,hs13⟩:=bix hs13
   refine ZN hE rfl rfl Tryz.underlying55 Z4 (hM.sl (pre:=[_,_]) noB) hi33.1 ?_; intro a hE
   have hM:=hM.pull1.pull1
   have hM:=((hM.pack2 (it:=own NoB r27 (cat [[vI r27.Number],[vI r27.Version],enc r27.Nonce,[u29],[u30],enc r27.Tag])) (Xj noB) (fun f0 f1 q0 q1=>(W0 (XJ.sat q0) (XJ.sat q1) (by simp)))).pull1).pull1
   refine qr (i:=(s10.2).toNat) (seg:=cat [[vI r27.Number],[vI r27.Version],enc r27.Nonce,[u29],[u30],enc r27.Tag]) hE hM noB Za rfl rfl rfl Z4 (by omega) fun w a hM hE=>Zh (Z2 (Zq (wp_region_lit (Zd hE rfl fun a hE=>Zg hE rfl rfl rfl fun a hE=>Zc hE rfl fun a hE=>Zh (Zj ?_)))))
   exact ⟨_,(ois hs13),u11,hE.sub ⟨rfl,rfl,rfl,trivial⟩,hM⟩
  ·intro hb16
   have hs13:=Zu hs13 hb16
   refine wp_exit (Zl (Zl (Z3 ?_)))
   obtain rfl:=hx14 _ (ois hs13)
   refine Zj ?_
   exact ⟨u11,hE.sub ⟨rfl,trivial⟩,hM⟩
 ·skip
  rintro a w ⟨u8,hE,hM⟩
  refine Zq (Zb (Zd hE rfl fun a hE=>Zc hE rfl fun a hE=>Ze ?_))
  obtain rfl:=Option.some.inj hF7
  exact wp_ret (ZL hE rfl (ZT hE rfl) ⟨_,rfl,u8,rfl,hM.outF (Yq Xy),hM.kept⟩)
def VH (p0 : GEvent) : Option (GEvent) :=
 (Wj p0.Tag).bind fun r7=>some (⟨p0.Kind,p0.Number,r7⟩ : GEvent)
theorem Ao (w0 : World) (p0 : GEvent) (r : GEvent) (hF : VH p0 = some r) :
  Calls Tryz.prog 146 [(Value.agg (enc p0).toArray)].toArray w0 (Rt w0 (Value.agg (enc r).toArray)):=by
 refine ce Tryz.func146 ?_
 intro a hE
 have hM:=M.start w0
 unfold VH at hF
 refine Zb (ZV (cs:=cat [[vI p0.Kind],[vI p0.Number],enc p0.Tag]) hE hM Za ld rfl rfl fun b1 w a hM hE=>ZA hE hM Y3 fun b3 w a hM hE=>Ze (Zb (ZA hE hM Y3 fun b5 w a hM hE=>Ze (Zb (Zf hE rfl (Zbf) fun a hE=>Zw (v:=(vI p0.Kind)) hE rfl ty2 rfl (At.cat (pre:=[]) hM.rawAt2 cl0) fun a hE=>Zf hE rfl (Qh) fun a hE=>Zk (seg:=[vI p0.Kind]) hE hM Za rfl rfl rfl ty2 rfl (YK (pre:=[]) cl0 rfl) (Flat.cell (p0.Kind : Int)) (ZR (pre:=[]) cl0 rfl) fun w a hM hE=>Ze (Zb (Zf hE rfl (Zav) fun a hE=>Zw (v:=(vI p0.Number)) hE rfl ty2 rfl (At.cat (pre:=[[vI p0.Kind]]) hM.rawAt2 ck) fun a hE=>Zf hE rfl (Qm) fun a hE=>Zk (seg:=[vI p0.Number]) hE hM Za rfl rfl rfl ty2 rfl (YK (pre:=[[vI p0.Kind]]) ck rfl) (Flat.cell (p0.Number : Int)) (ZR (pre:=[[vI p0.Kind]]) ck rfl) fun w a hM hE=>Ze (Zb (Zf hE rfl (Zbo) ?_))))))))); intro a hE
 refine Zn hE rfl ty27 rfl (At.cat (pre:=[[vI p0.Kind],[vI p0.Number]]) hM.rawAt2 ck) (Flat.len _) ?_; intro a hE
 obtain ⟨r7,e8,hF⟩:=bind_some hF
 refine Zx hE rfl cb12 (T9 _ p0.Tag r7 e8) ?_
 rintro v w a ⟨rfl,hK⟩ hE
 have hM:=hM.keep hK
 refine Zf hE rfl (Q5) fun a hE=>Zk (seg:=enc r7) hE hM Za rfl rfl rfl Yt (Flat.len _) (YK (pre:=[[vI p0.Kind],[vI p0.Number]]) ck flq) (Flat.cell _) (ZR (pre:=[[vI p0.Kind],[vI p0.Number]]) ck flq) fun w a hM hE=>Ze (Zb (Zn hE rfl Y3 rfl hM.rawAt0 cq ?_)); intro a hE
 have hM:=hM.pull1
 refine Zk (seg:=cat [[(vI ((⟨p0.Kind,p0.Number,r7⟩ : GEvent).Kind))],[(vI ((⟨p0.Kind,p0.Number,r7⟩ : GEvent).Number))],enc ((⟨p0.Kind,p0.Number,r7⟩ : GEvent).Tag)]) (cs':=cat [[(vI ((⟨p0.Kind,p0.Number,r7⟩ : GEvent).Kind))],[(vI ((⟨p0.Kind,p0.Number,r7⟩ : GEvent).Number))],enc ((⟨p0.Kind,p0.Number,r7⟩ : GEvent).Tag)]) hE hM Za rfl rfl rfl Y3 cq (Nat.le_of_eq ((Nat.zero_add _).trans (Eq.trans cq (Eq.symm cq)))) (ZX (cc1 (Flat.cell ((⟨p0.Kind,p0.Number,r7⟩ : GEvent).Kind : Int)) (cc1 (Flat.cell ((⟨p0.Kind,p0.Number,r7⟩ : GEvent).Number : Int)) (cc1 (Flat.cell _) cc0)))) (Zi (Eq.trans cq (Eq.symm cq))) fun w a hM hE=>Ze ?_
 obtain rfl:=Option.some.inj hF
 have hq9 : Yu Tryz.prog _ _ (.cell 2 131) _:=ZJ hE rfl Y3 rfl hM.rawAt0 cq rfl
 exact wp_ret (ZL hE rfl hq9 ⟨_,rfl,rfl,hM.kept⟩)
def Te (p0 : (List GEvent)) (s10 : (List GEvent) × Int) : Option (Fl ((List GEvent) × Int) (List GEvent)) :=
 if (decide (s10.2 < (p0.length : Int))) = true then ((idx p0 s10.2).bind fun x17=>(VH x17).bind fun r20=>(idx s10.1 s10.2).bind fun x22=>some (Fl.nx ((s10.1.set (s10.2).toNat r20),wr (s10.2 + 1)))) else (some (Fl.ex s10.1))
def Uf (p0 : (List GEvent)) : Option ((List GEvent)) :=
 (mkS 48 (⟨(0 : Int),(0 : Int),(Vector.replicate 32 (0 : UInt8))⟩ : GEvent) (p0.length : Int)).bind fun l1=>(ZB (Te p0) (l1,0)).bind fun j5=>some j5
theorem Bk (w0 : World) (p0 : (List GEvent)) (v0_1 : Value) (hv0_1 : Ro w0 p0 [v0_1]) (r : (List GEvent)) (hF : Uf p0 = some r) :
  Calls Tryz.prog 85 [v0_1].toArray w0 (fun en w'=>∃ v,en = .returned v ∧ (∃ (y1 : Value),v = y1 ∧ Fr w0 w' [osl NoB (r : List GEvent) y1] ∧ Kept (Old w0) w0 w')):=by
 refine ce Tryz.func85 ?_
 intro a hE
 have hM:=M.start w0
 unfold Uf at hF
 refine Zb (Zc hE rfl fun a hE=>Ze (Zb (Zd hE rfl fun a hE=>Yb hE rfl Tryz.underlying50 (hM.rd hv0_1) ?_))); intro a hE
 obtain ⟨l1,e2,hF⟩:=bind_some hF
 refine Hr hE hM Za ld rfl rfl Tryz.underlying56 Y3 rfl (by decide) (fun _=>Tv.2 ⟨rfl,rfl⟩) e2 fun u3 w a hM hE=>Zc hE rfl fun a hE=>Ze (wp_seq (Zb (Zc hE rfl fun a hE=>Ze ?_)))
 obtain ⟨j5,hl6,hF7⟩:=bind_some hF
 refine ZI (fun a w=>∃ (u8 : Value),Env 23 a [(3,u8)] ∧ M (Old w0) w0 w [osl NoB (j5 : List GEvent) u8]) ?_ ?_
 ·skip
  refine wp_block ?_
  refine ZD (fun (s10 : (List GEvent) × Int) a w=>∃ (u11 : Value),Env 23 a [(0,v0_1),(3,u11),(4,vI s10.2)] ∧ M (Old w0) w0 w [osl NoB (s10.1 : List GEvent) u11]) hl6 ⟨u3,hE.sub ⟨rfl,rfl,rfl,trivial⟩,hM⟩ ?_
  rintro s10 a w ⟨u11,hE,hM⟩ o15 hs13 hx14
  unfold Te at hs13
  refine wp_seq (Zb (Zd hE rfl fun a hE=>Zd hE rfl fun a hE=>Yb hE rfl Tryz.underlying50 (hM.rd hv0_1) fun a hE=>Zg hE rfl rfl rfl fun a hE=>Ze ?_))
  refine Zm hE rfl ?_ ?_
  ·intro hb16
   have hs13:=Zt hs13 hb16
   refine wp_skip (Zq (wp_seq (wp_block (wp_region_lit (Zd hE rfl fun a hE=>Zd hE rfl fun a hE=>Zd hE rfl fun a hE=>Zd hE rfl ?_))))); intro a hE
   obtain ⟨x17,hi19,hs13⟩:=bix hs13
   refine ZN hE rfl rfl Tryz.underlying50 yl (hM.rd hv0_1) hi19.1 fun a hE=>Zn hE rfl yl rfl (X0 (hM.rd hv0_1) hi19.2) cq ?_; intro a hE
   obtain ⟨r20,e21,hs13⟩:=bind_some hs13
   refine Zx hE rfl (cbm Tryz.func146) (Ao _ x17 r20 e21) ?_
   rintro v w a ⟨rfl,hK⟩ hE
   have hM:=hM.keep hK
   obtain ⟨x22,hi24,hs13⟩:=bix hs13
   refine ZN hE rfl rfl Tryz.underlying56 Y3 (hM.sl (pre:=[]) noB) hi24.1 fun a hE=>T3 (i:=(s10.2).toNat) (k0:=0) (seg:=cat [[vI r20.Kind],[vI r20.Number],enc r20.Tag]) (xo:=x22) (xn:=r20) hE hM Za rfl rfl rfl Y3 cq (ZX (cc1 (Flat.cell (r20.Kind : Int)) (cc1 (Flat.cell (r20.Number : Int)) (cc1 (Flat.cell _) cc0)))) hi24.2 (QA (m:=34) cq (by decide)) (Zi (Eq.trans cq (Eq.symm cq))) fun w a hM hE=>Zh (Z2 (Zq (wp_region_lit (Zd hE rfl fun a hE=>Zg hE rfl rfl rfl fun a hE=>Zc hE rfl fun a hE=>Zh (Zj ?_)))))
   exact ⟨_,(ois hs13),u11,hE.sub ⟨rfl,rfl,rfl,trivial⟩,hM⟩
  ·intro hb16
   have hs13:=Zu hs13 hb16
   refine wp_exit (Zl (Zl (Z3 ?_)))
   obtain rfl:=hx14 _ (ois hs13)
   refine Zj ?_
   exact ⟨u11,hE.sub ⟨rfl,trivial⟩,hM⟩
 ·skip
  rintro a w ⟨u8,hE,hM⟩
  refine Zq (Zb (Zd hE rfl fun a hE=>Zc hE rfl fun a hE=>Ze ?_))
  obtain rfl:=Option.some.inj hF7
  exact wp_ret (ZL hE rfl (ZT hE rfl) ⟨_,rfl,u8,rfl,hM.outF (Yq Xy),hM.kept⟩)
def XU (p0 : GVault) : Option (GVault) :=
 (Ud p0.Keys).bind fun r7=>(VI p0.Records).bind fun r10=>(Uf p0.Events).bind fun r13=>(Wj p0.Head).bind fun r16=>some (⟨r7,p0.Next,r10,r13,r16⟩ : GVault)
theorem TM (w0 : World) (p0 : GVault) (v0_1 : Value) (hv0_1 : Ro w0 p0.Keys [v0_1]) (v0_2 : Value) (hv0_2 : Ro w0 p0.Records [v0_2]) (v0_3 : Value) (hv0_3 : Ro w0 p0.Events [v0_3]) (r : GVault) (hF : XU p0 = some r) :
  Calls Tryz.prog 25 [(Value.agg (cat [[v0_1],[vI p0.Next],[v0_2],[v0_3],enc p0.Head]).toArray)].toArray w0 (fun en w'=>∃ v,en = .returned v ∧ (∃ (y1 : Value) (y2 : Value) (y3 : Value),v = (Value.agg (cat [[y1],[vI r.Next],[y2],[y3],enc r.Head]).toArray) ∧ Fr w0 w' [osl NoB (r.Keys : List (Vector UInt8 16)) y1,osl NoB (r.Records : List GRecord) y2,osl NoB (r.Events : List GEvent) y3] ∧ Kept (Old w0) w0 w')):=by
 refine ce Tryz.func25 ?_
 intro a hE
 have hM:=M.start w0
 unfold XU at hF
 refine Zb (ZV (cs:=cat [[v0_1],[vI p0.Next],[v0_2],[v0_3],enc p0.Head]) hE hM Za ld rfl rfl fun b1 w a hM hE=>ZA hE hM Ys fun b3 w a hM hE=>Ze (Zb (ZA hE hM Ys fun b5 w a hM hE=>Ze (Zb (Zf hE rfl (k8) fun a hE=>Zw (v:=v0_1) hE rfl ty48 rfl (At.cat (pre:=[]) hM.rawAt2 cl0) ?_))))); intro a hE
 obtain ⟨r7,e8,hF⟩:=bind_some hF
 refine Zx hE rfl (cbm Tryz.func83) (Bl _ p0.Keys v0_1 (hM.rdo hv0_1) r7 e8) ?_
 rintro u9 w a ⟨_,rfl,hFr,hK⟩ hE
 have hM:=hM.add hK hFr
 refine Zf hE rfl (TL) ?_; intro a hE
 have hM:=hM.pull1
 refine Zk (seg:=[u9]) hE hM Za rfl rfl (Yz (hM.sl (pre:=[_]) noB)) Jw rfl (YK (pre:=[]) cl0 rfl) (Rep.cell (hM.sl (pre:=[_]) noB)) (ZR (pre:=[]) cl0 rfl) fun w a hM hE=>Ze (Zb (Zf hE rfl (fd52_1) fun a hE=>Zw (v:=(vI p0.Next)) hE rfl ty2 rfl (At.cat (pre:=[[v0_1]]) hM.rawAt3 ck) fun a hE=>Zf hE rfl (Qu) fun a hE=>Zk (seg:=[vI p0.Next]) hE hM Za rfl rfl rfl ty2 rfl (YK (pre:=[[u9]]) ck rfl) (Flat.cell (p0.Next : Int)) (ZR (pre:=[[u9]]) ck rfl) fun w a hM hE=>Ze (Zb (Zf hE rfl (qq) fun a hE=>Zw (v:=v0_2) hE rfl ty49 rfl (At.cat (pre:=[[v0_1],[vI p0.Next]]) hM.rawAt3 ck) ?_)))); intro a hE
 obtain ⟨r10,e11,hF⟩:=bind_some hF
 refine Zx hE rfl (cbm Tryz.func84) (Hy _ p0.Records v0_2 (hM.rdo hv0_2) r10 e11) ?_
 rintro u12 w a ⟨_,rfl,hFr,hK⟩ hE
 have hM:=hM.add hK hFr
 refine Zf hE rfl (X1) ?_; intro a hE
 have hM:=hM.pull1
 refine Zk (seg:=[u12]) hE hM Za rfl rfl (Yz (hM.sl (pre:=[_]) noB)) TZ rfl (YK (pre:=[[u9],[vI p0.Next]]) ck rfl) (Rep.cell (hM.sl (pre:=[_]) noB)) (ZR (pre:=[[u9],[vI p0.Next]]) ck rfl) fun w a hM hE=>Ze (Zb (Zf hE rfl (Zaq) fun a hE=>Zw (v:=v0_3) hE rfl ty50 rfl (At.cat (pre:=[[v0_1],[vI p0.Next],[v0_2]]) hM.rawAt4 ck) ?_)); intro a hE
 obtain ⟨r13,e14,hF⟩:=bind_some hF
 refine Zx hE rfl (cbm Tryz.func85) (Bk _ p0.Events v0_3 (hM.rdo hv0_3) r13 e14) ?_
 rintro u15 w a ⟨_,rfl,hFr,hK⟩ hE
 have hM:=hM.add hK hFr
 refine Zf hE rfl (VM) ?_; intro a hE
 have hM:=hM.pull1
 refine Zk (seg:=[u15]) hE hM Za rfl rfl (Yz (hM.sl (pre:=[_]) noB)) QM rfl (YK (pre:=[[u9],[vI p0.Next],[u12]]) ck rfl) (Rep.cell (hM.sl (pre:=[_]) noB)) (ZR (pre:=[[u9],[vI p0.Next],[u12]]) ck rfl) fun w a hM hE=>Ze (Zb (Zf hE rfl (fd52_4) fun a hE=>Zn hE rfl ty27 rfl (At.cat (pre:=[[v0_1],[vI p0.Next],[v0_2],[v0_3]]) hM.rawAt5 ck) (Flat.len _) ?_)); intro a hE
 obtain ⟨r16,e17,hF⟩:=bind_some hF
 refine Zx hE rfl cb12 (T9 _ p0.Head r16 e17) ?_
 rintro v w a ⟨rfl,hK⟩ hE
 have hM:=hM.keep hK
 refine Zf hE rfl (Jb) fun a hE=>Zk (seg:=enc r16) hE hM Za rfl rfl rfl Yt (Flat.len _) (YK (pre:=[[u9],[vI p0.Next],[u12],[u15]]) ck flq) (Flat.cell _) (ZR (pre:=[[u9],[vI p0.Next],[u12],[u15]]) ck flq) fun w a hM hE=>Ze (Zb (Zn hE rfl Ys rfl hM.rawAt0 cq ?_)); intro a hE
 have hM:=hM.pull4
 refine Zk (seg:=cat [[u9],[vI p0.Next],[u12],[u15],enc r16]) (cs':=cat [[u9],[vI p0.Next],[u12],[u15],enc r16]) hE hM Za rfl rfl rfl Ys cq (Nat.le_of_eq ((Nat.zero_add _).trans (Eq.trans cq (Eq.symm cq)))) (ZX (cc1 (Rep.cell (hM.sl (pre:=[_,_,_,_]) noB)) (cc1 (Flat.cell (p0.Next : Int)) (cc1 (Rep.cell (hM.sl (pre:=[_,_,_]) noB)) (cc1 (Rep.cell (hM.sl (pre:=[_,_]) noB)) (cc1 (Flat.cell _) cc0)))))) (Zi (Eq.trans cq (Eq.symm cq))) fun w a hM hE=>Ze ?_
 obtain rfl:=Option.some.inj hF
 have hq18 : Yu Tryz.prog _ _ (.cell 2 58) _:=ZJ hE rfl Ys rfl hM.rawAt0 cq rfl
 have hM:=M.fst (l:=[_,_,_]) hM.pull2.pull3.pull4
 exact wp_ret (ZL hE rfl hq18 ⟨_,rfl,u9,u12,u15,rfl,hM.outF (Yq (Yq (Yq Xy))),hM.kept⟩)
def Vp (p0 : Int) (p1 : Int) (p2 : Int) : Option (Bool) :=
 (if (decide (p0 ≥ p1)) = true then (some (decide (p0 ≤ p2))) else (some false) : Option (Bool)).bind fun j1=>some j1
theorem Ql (w0 : World) (p0 : Int) (p1 : Int) (p2 : Int) (r : Bool) (hF : Vp p0 p1 p2 = some r) :
  Calls Tryz.prog 143 [vI p0,vI p1,vI p2].toArray w0 (Rt w0 (vT r)):=by
 refine ce Tryz.func143 ?_
 intro a hE
 have hM:=M.start w0
 unfold Vp at hF
 refine Zb (Zc hE rfl fun a hE=>Ze ?_)
 obtain ⟨j1,hl2,hF3⟩:=bind_some hF
 refine ZQ (fun a w=>Env 15 a [(6,vT j1)] ∧ M (Old w0) w0 w []) ?_ ?_
 ·skip
  refine wp_region_lit (Zd hE rfl fun a hE=>Zd hE rfl fun a hE=>Zg hE rfl rfl rfl fun a hE=>Zd hE rfl ?_); intro a hE
  refine Wk (decide (p0 ≥ p1)) (fun hb4=>?_) (fun hb4=>?_)
  ·have hl2:=Zt hl2 hb4
   refine Zv hE (Zr hE rfl (lkb rfl hb4)) (by decide) rfl fun a hE=>Zv hE (Zr hE rfl (lkb rfl hb4)) (by decide) rfl fun a hE=>Yv hE (Zr hE rfl (lkb rfl hb4)) (by decide) rfl rfl rfl fun a hE=>Yd hE (lkb rfl hb4) rfl fun a hE=>Zc hE rfl fun a hE=>Zh ?_
   obtain rfl:=Option.some.inj hl2
   refine Zj ?_
   exact ⟨hE.sub ⟨rfl,trivial⟩,hM⟩
  ·have hl2:=Zu hl2 hb4
   refine Zp hE rfl (lkb rfl hb4) rfl (by decide) fun a hE=>Zp hE rfl (lkb rfl hb4) rfl (by decide) fun a hE=>Zp hE rfl (lkb rfl hb4) rfl (by decide) fun a hE=>XP hE (lkb rfl hb4) rfl fun a hE=>Zc hE rfl fun a hE=>Zh ?_
   obtain rfl:=Option.some.inj hl2
   refine Zj ?_
   exact ⟨hE.sub ⟨rfl,trivial⟩,hM⟩
 ·skip
  rintro a w ⟨hE,hM⟩
  obtain rfl:=Option.some.inj hF3
  exact wp_ret (kr1 hE rfl rfl hM.kept)
def Uk (p0 : GEvent) : Option (Bool) :=
 ((Vp p0.Kind 1 4).bind fun r6=>if r6 = true then ((Vp p0.Number 0 1000000).bind fun r9=>some r9) else (some false) : Option (Bool)).bind fun j3=>some j3
theorem Bc (w0 : World) (p0 : GEvent) (r : Bool) (hF : Uk p0 = some r) :
  Calls Tryz.prog 144 [(Value.agg (enc p0).toArray)].toArray w0 (Rt w0 (vT r)):=by
 refine ce Tryz.func144 ?_
 intro a hE
 have hM:=M.start w0
 unfold Uk at hF
 refine Zb (ZV (cs:=cat [[vI p0.Kind],[vI p0.Number],enc p0.Tag]) hE hM Za ld rfl rfl fun b1 w a hM hE=>Zc hE rfl fun a hE=>Ze ?_)
 obtain ⟨j3,hl4,hF5⟩:=bind_some hF
 refine ZQ (fun a w=>Env 11 a [(2,vT j3)] ∧ M (Old w0) w0 w []) ?_ ?_
 ·skip
  refine wp_region_lit (Zf hE rfl (Qh) fun a hE=>Zw (v:=(vI p0.Kind)) hE rfl ty2 rfl (At.cat (pre:=[]) hM.rawAt0 cl0) ?_); intro a hE
  obtain ⟨r6,e7,hl4⟩:=bind_some hl4
  refine Zx hE rfl jU (Ql _ p0.Kind 1 4 r6 e7) ?_
  rintro v w a ⟨rfl,hK⟩ hE
  have hM:=hM.keep hK
  refine Zd hE rfl ?_; intro a hE
  refine Wk r6 (fun hb8=>?_) (fun hb8=>?_)
  ·have hl4:=Zt hl4 hb8
   refine Zs hE (Zr hE rfl (lkb rfl hb8)) (by decide) rfl (Qm) fun a hE=>ZS (v:=(vI p0.Number)) hE (Zr hE rfl (lkb rfl hb8)) (by decide) rfl ty2 rfl (At.cat (pre:=[[vI p0.Kind]]) hM.rawAt0 ck) ?_; intro a hE
   obtain ⟨r9,e10,hl4⟩:=bind_some hl4
   refine Z7 hE (Zr hE rfl (lkb rfl hb8)) (by decide) rfl jU (Ql _ p0.Number 0 1000000 r9 e10) ?_
   rintro v w a ⟨rfl,hK⟩ hE
   have hM:=hM.keep hK
   refine Yd hE (lkb rfl hb8) rfl fun a hE=>Zc hE rfl fun a hE=>Zh ?_
   obtain rfl:=Option.some.inj hl4
   refine Zj ?_
   have hM:=M.fst (l:=[]) hM
   exact ⟨hE.sub ⟨rfl,trivial⟩,hM⟩
  ·have hl4:=Zu hl4 hb8
   refine Zp hE rfl (lkb rfl hb8) rfl (by decide) fun a hE=>Zp hE rfl (lkb rfl hb8) rfl (by decide) fun a hE=>Zp hE rfl (lkb rfl hb8) rfl (by decide) fun a hE=>XP hE (lkb rfl hb8) rfl fun a hE=>Zc hE rfl fun a hE=>Zh ?_
   obtain rfl:=Option.some.inj hl4
   refine Zj ?_
   have hM:=M.fst (l:=[]) hM
   exact ⟨hE.sub ⟨rfl,trivial⟩,hM⟩
 ·skip
  rintro a w ⟨hE,hM⟩
  obtain rfl:=Option.some.inj hF5
  exact wp_ret (kr1 hE rfl rfl hM.kept)
def Ux (p0 : GVault) (s22 : Int × Int) : Option (Fl (Int × Int) (Fl Unit Bool)) :=
 if (decide (s22.2 < (p0.Records.length : Int))) = true then ((idx p0.Records s22.2).bind fun x27=>(if (decide (x27.Number ≤ s22.1)) = true then (some true) else (if (decide (x27.Number ≥ p0.Next)) = true then (some true) else ((Vp x27.Version 0 (wr ((p0.Keys.length : Int) - 1))).bind fun r46=>if (!r46) = true then (some true) else (if (decide ((x27.Label.length : Int) > 32)) = true then (some true) else (some (decide ((x27.Body.length : Int) > 200)))))) : Option (Bool)).bind fun j39=>if j39 = true then (some (Fl.ex (Fl.ex false))) else (some (Fl.nx (x27.Number,wr (s22.2 + 1))))) else (some (Fl.ex (Fl.nx ())))
def Tu (p0 : GVault) (s60 : Int) : Option (Fl Int (Fl Unit Bool)) :=
 if (decide (s60 < (p0.Events.length : Int))) = true then ((idx p0.Events s60).bind fun x65=>(Uk x65).bind fun r68=>if (!r68) = true then (some (Fl.ex (Fl.ex false))) else (some (Fl.nx (wr (s60 + 1))))) else (some (Fl.ex (Fl.nx ())))
def TW (p0 : GVault) : Option (Bool) :=
 (if (decide ((p0.Keys.length : Int) < 1)) = true then (some true) else (if (decide ((p0.Keys.length : Int) > 8)) = true then (some true) else ((Vp p0.Next 1 1000000).bind fun r10=>if (!r10) = true then (some true) else (if (decide ((p0.Records.length : Int) > 12)) = true then (some true) else (some (decide ((p0.Events.length : Int) > 60)))))) : Option (Bool)).bind fun j3=>if j3 = true then (some false) else ((ZB (Ux p0) (0,0)).bind fun j18=>j18.el (fun s21=>(ZB (Tu p0) 0).bind fun j56=>j56.el (fun s59=>some true) (fun r=>some r)) (fun r=>some r))
theorem zx (w0 : World) (p0 : GVault) (v0_1 : Value) (hv0_1 : Ro w0 p0.Keys [v0_1]) (v0_2 : Value) (hv0_2 : Ro w0 p0.Records [v0_2]) (v0_3 : Value) (hv0_3 : Ro w0 p0.Events [v0_3]) (r : Bool) (hF : TW p0 = some r) :
  Calls Tryz.prog 79 [(Value.agg (cat [[v0_1],[vI p0.Next],[v0_2],[v0_3],enc p0.Head]).toArray)].toArray w0 (Rt w0 (vT r)):=by
 refine ce Tryz.func79 ?_
 intro a hE
 have hM:=M.start w0
 unfold TW at hF
 refine Zb (ZV (cs:=cat [[v0_1],[vI p0.Next],[v0_2],[v0_3],enc p0.Head]) hE hM Za ld rfl rfl fun b1 w a hM hE=>Zc hE rfl fun a hE=>Ze (wp_seq ?_))
 obtain ⟨j3,hl4,hF5⟩:=bind_some hF
 refine ZQ (fun a w=>Env 96 a [(1,(ptr b1 0)),(34,vT j3)] ∧ M (Old w0) w0 w [raw b1 (cat [[v0_1],[vI p0.Next],[v0_2],[v0_3],enc p0.Head])]) ?_ ?_
 ·skip
  refine wp_region_lit (Zf hE rfl (TL) fun a hE=>Zw (v:=v0_1) hE rfl Jw rfl (At.cat (pre:=[]) hM.rawAt0 cl0) fun a hE=>Yb hE rfl Tryz.underlying54 (hM.rd hv0_1) fun a hE=>Zg hE rfl rfl rfl fun a hE=>Zd hE rfl ?_); intro a hE
  refine Wk (decide ((p0.Keys.length : Int) < 1)) (fun hb6=>?_) (fun hb6=>?_)
  ·have hl4:=Zt hl4 hb6
   refine Zp hE rfl (lkb rfl hb6) rfl (by decide) fun a hE=>Zp hE rfl (lkb rfl hb6) rfl (by decide) fun a hE=>Zp hE rfl (lkb rfl hb6) rfl (by decide) fun a hE=>Zp hE rfl (lkb rfl hb6) rfl (by decide) fun a hE=>Yd hE (lkb rfl hb6) rfl fun a hE=>Zd hE rfl fun a hE=>Zp hE rfl rfl rfl (by decide) fun a hE=>Zp hE rfl rfl rfl (by decide) fun a hE=>Zp hE rfl rfl rfl (by decide) fun a hE=>Zp hE rfl rfl rfl (by decide) fun a hE=>Yd hE rfl rfl fun a hE=>Zd hE rfl ?_; intro a hE
   refine Zp hE rfl rfl rfl (by decide) fun a hE=>Zp hE rfl rfl rfl (by decide) fun a hE=>Zp hE rfl rfl rfl (by decide) fun a hE=>Zp hE rfl rfl rfl (by decide) fun a hE=>Yd hE rfl rfl fun a hE=>Zd hE rfl fun a hE=>Zp hE rfl rfl rfl (by decide) fun a hE=>Zp hE rfl rfl rfl (by decide) fun a hE=>Zp hE rfl rfl rfl (by decide) fun a hE=>Zp hE rfl rfl rfl (by decide) fun a hE=>Yd hE rfl rfl fun a hE=>Zh ?_
   obtain rfl:=Option.some.inj hl4
   refine Zj ?_
   exact ⟨hE.sub ⟨rfl,rfl,trivial⟩,hM⟩
  ·have hl4:=Zu hl4 hb6
   refine Zs hE (Zr hE rfl (lkb rfl hb6)) (by decide) rfl (TL) fun a hE=>ZS (v:=v0_1) hE (Zr hE rfl (lkb rfl hb6)) (by decide) rfl Jw rfl (At.cat (pre:=[]) hM.rawAt0 cl0) fun a hE=>QE hE (Zr hE rfl (lkb rfl hb6)) (by decide) rfl Tryz.underlying54 (hM.rd hv0_1) fun a hE=>Yv hE (Zr hE rfl (lkb rfl hb6)) (by decide) rfl rfl rfl fun a hE=>XP hE (lkb rfl hb6) rfl fun a hE=>Zd hE rfl ?_; intro a hE
   refine Wk (decide ((p0.Keys.length : Int) > 8)) (fun hb8=>?_) (fun hb8=>?_)
   ·have hl4:=Zt hl4 hb8
    refine Zp hE rfl (lkb rfl hb8) rfl (by decide) fun a hE=>Zp hE rfl (lkb rfl hb8) rfl (by decide) fun a hE=>Zp hE rfl (lkb rfl hb8) rfl (by decide) fun a hE=>Zp hE rfl (lkb rfl hb8) rfl (by decide) fun a hE=>Yd hE (lkb rfl hb8) rfl fun a hE=>Zd hE rfl fun a hE=>Zp hE rfl rfl rfl (by decide) fun a hE=>Zp hE rfl rfl rfl (by decide) fun a hE=>Zp hE rfl rfl rfl (by decide) fun a hE=>Zp hE rfl rfl rfl (by decide) fun a hE=>Yd hE rfl rfl fun a hE=>Zd hE rfl ?_; intro a hE
    refine Zp hE rfl rfl rfl (by decide) fun a hE=>Zp hE rfl rfl rfl (by decide) fun a hE=>Zp hE rfl rfl rfl (by decide) fun a hE=>Zp hE rfl rfl rfl (by decide) fun a hE=>Yd hE rfl rfl fun a hE=>Zh ?_
    obtain rfl:=Option.some.inj hl4
    refine Zj ?_
    exact ⟨hE.sub ⟨rfl,rfl,trivial⟩,hM⟩
   ·have hl4:=Zu hl4 hb8
    refine Zs hE (Zr hE rfl (lkb rfl hb8)) (by decide) rfl (Qu) fun a hE=>ZS (v:=(vI p0.Next)) hE (Zr hE rfl (lkb rfl hb8)) (by decide) rfl ty2 rfl (At.cat (pre:=[[v0_1]]) hM.rawAt0 ck) ?_; intro a hE
    obtain ⟨r10,e11,hl4⟩:=bind_some hl4
    refine Z7 hE (Zr hE rfl (lkb rfl hb8)) (by decide) rfl jU (Ql _ p0.Next 1 1000000 r10 e11) ?_
    rintro v w a ⟨rfl,hK⟩ hE
    have hM:=hM.keep hK
    refine QB hE (Zr hE rfl (lkb rfl hb8)) (by decide) rfl fun a hE=>XP hE (lkb rfl hb8) rfl fun a hE=>Zd hE rfl ?_; intro a hE
    refine Wk (!r10) (fun hb12=>?_) (fun hb12=>?_)
    ·have hl4:=Zt hl4 hb12
     refine Zp hE rfl (lkb rfl hb12) rfl (by decide) fun a hE=>Zp hE rfl (lkb rfl hb12) rfl (by decide) fun a hE=>Zp hE rfl (lkb rfl hb12) rfl (by decide) fun a hE=>Zp hE rfl (lkb rfl hb12) rfl (by decide) fun a hE=>Yd hE (lkb rfl hb12) rfl fun a hE=>Zd hE rfl fun a hE=>Zp hE rfl rfl rfl (by decide) fun a hE=>Zp hE rfl rfl rfl (by decide) fun a hE=>Zp hE rfl rfl rfl (by decide) fun a hE=>Zp hE rfl rfl rfl (by decide) fun a hE=>Yd hE rfl rfl fun a hE=>Zh ?_
     obtain rfl:=Option.some.inj hl4
     refine Zj ?_
     exact ⟨hE.sub ⟨rfl,rfl,trivial⟩,hM⟩
    ·have hl4:=Zu hl4 hb12
     refine Zs hE (Zr hE rfl (lkb rfl hb12)) (by decide) rfl (X1) fun a hE=>ZS (v:=v0_2) hE (Zr hE rfl (lkb rfl hb12)) (by decide) rfl TZ rfl (At.cat (pre:=[[v0_1],[vI p0.Next]]) hM.rawAt0 ck) fun a hE=>QE hE (Zr hE rfl (lkb rfl hb12)) (by decide) rfl Tryz.underlying55 (hM.rd hv0_2) fun a hE=>Yv hE (Zr hE rfl (lkb rfl hb12)) (by decide) rfl rfl rfl fun a hE=>XP hE (lkb rfl hb12) rfl fun a hE=>Zd hE rfl ?_; intro a hE
     refine Wk (decide ((p0.Records.length : Int) > 12)) (fun hb14=>?_) (fun hb14=>?_)
     ·have hl4:=Zt hl4 hb14
      refine Zp hE rfl (lkb rfl hb14) rfl (by decide) fun a hE=>Zp hE rfl (lkb rfl hb14) rfl (by decide) fun a hE=>Zp hE rfl (lkb rfl hb14) rfl (by decide) fun a hE=>Zp hE rfl (lkb rfl hb14) rfl (by decide) fun a hE=>Yd hE (lkb rfl hb14) rfl fun a hE=>Zh ?_
      obtain rfl:=Option.some.inj hl4
      refine Zj ?_
      exact ⟨hE.sub ⟨rfl,rfl,trivial⟩,hM⟩
     ·have hl4:=Zu hl4 hb14
      refine Zs hE (Zr hE rfl (lkb rfl hb14)) (by decide) rfl (VM) fun a hE=>ZS (v:=v0_3) hE (Zr hE rfl (lkb rfl hb14)) (by decide) rfl QM rfl (At.cat (pre:=[[v0_1],[vI p0.Next],[v0_2]]) hM.rawAt0 ck) fun a hE=>QE hE (Zr hE rfl (lkb rfl hb14)) (by decide) rfl Tryz.underlying56 (hM.rd hv0_3) fun a hE=>Yv hE (Zr hE rfl (lkb rfl hb14)) (by decide) rfl rfl rfl fun a hE=>XP hE (lkb rfl hb14) rfl fun a hE=>Zh ?_
      obtain rfl:=Option.some.inj hl4
      refine Zj ?_
      exact ⟨hE.sub ⟨rfl,rfl,trivial⟩,hM⟩
 ·skip
  rintro a w ⟨hE,hM⟩
  refine Zm hE rfl ?_ ?_
  ·intro hb17
   have hF5:=Zt hF5 hb17
   refine Zb (Zc hE rfl fun a hE=>Ze ?_)
   obtain rfl:=Option.some.inj hF5
   exact wp_ret (Zo (kr1 hE rfl rfl hM.kept))
  ·intro hb17
   have hF5:=Zu hF5 hb17
   refine wp_skip (Zq (Zb (Zc hE rfl fun a hE=>Ze (wp_seq (Zb (Zc hE rfl fun a hE=>Ze ?_))))))
   obtain ⟨j18,hl19,hF20⟩:=bind_some hF5
   refine ZI (fun a w=>∃ s21 : Unit,j18 = Fl.nx s21 ∧ Env 96 a [(1,(ptr b1 0))] ∧ M (Old w0) w0 w [raw b1 (cat [[v0_1],[vI p0.Next],[v0_2],[v0_3],enc p0.Head])]) ?_ ?_
   ·skip
    refine wp_block ?_
    refine ZD (fun (s22 : Int × Int) a w=>Env 96 a [(1,(ptr b1 0)),(3,vI s22.1),(4,vI s22.2)] ∧ M (Old w0) w0 w [raw b1 (cat [[v0_1],[vI p0.Next],[v0_2],[v0_3],enc p0.Head])]) hl19 ⟨hE.sub ⟨rfl,rfl,rfl,trivial⟩,hM⟩ ?_
    rintro s22 a w ⟨hE,hM⟩ o25 hs23 hx24
    unfold Ux at hs23
    refine wp_seq (Zb (Zd hE rfl fun a hE=>Zf hE rfl (X1) fun a hE=>Zw (v:=v0_2) hE rfl TZ rfl (At.cat (pre:=[[v0_1],[vI p0.Next]]) hM.rawAt0 ck) fun a hE=>Yb hE rfl Tryz.underlying55 (hM.rd hv0_2) fun a hE=>Zg hE rfl rfl rfl fun a hE=>Ze ?_))
    refine Zm hE rfl ?_ ?_
    ·intro hb26
     have hs23:=Zt hs23 hb26
     refine wp_skip (Zq (wp_seq (wp_block (Zb (Zf hE rfl (X1) fun a hE=>Zw (v:=v0_2) hE rfl TZ rfl (At.cat (pre:=[[v0_1],[vI p0.Next]]) hM.rawAt0 ck) fun a hE=>Zd hE rfl ?_))))); intro a hE
     obtain ⟨x27,hi29,hs23⟩:=bix hs23
     refine ZN hE rfl rfl Tryz.underlying55 Z4 (hM.rd hv0_2) hi29.1 ?_; intro a hE
     obtain ⟨cs30,hs31,hA32⟩:=Ww hv0_2 hi29.2 -- ^
     obtain ⟨u33,u35,rfl,h34,h36⟩:=YM hs31 -- ^
     refine Zn hE rfl Z4 rfl (hM.atk hA32 (V9 hv0_2 hi29.2)) cq fun a hE=>ZA hE hM Z4 fun b37 w a hM hE=>Zk (seg:=cat [[vI x27.Number],[vI x27.Version],enc x27.Nonce,[u33],[u35],enc x27.Tag]) (cs':=cat [[vI x27.Number],[vI x27.Version],enc x27.Nonce,[u33],[u35],enc x27.Tag]) hE hM Za rfl rfl rfl Z4 cq (Nat.le_of_eq ((Nat.zero_add _).trans (Eq.trans cq (Eq.symm cq)))) (ZX (cc1 (Flat.cell (x27.Number : Int)) (cc1 (Flat.cell (x27.Version : Int)) (cc1 (Flat.cell _) (cc1 (Rep.cell (hM.rd h34)) (cc1 (Rep.cell (hM.rd h36)) (cc1 (Flat.cell _) cc0))))))) (Zi (Eq.trans cq (Eq.symm cq))) fun w a hM hE=>Ze (wp_seq ?_)
     obtain ⟨j39,hl40,hF41⟩:=bind_some hs23
     refine ZQ (fun a w=>Env 96 a [(1,(ptr b1 0)),(4,vI s22.2),(5,(ptr b37 0)),(79,vT j39)] ∧ M (Old w0) w0 w [raw b37 (cat [[vI x27.Number],[vI x27.Version],enc x27.Nonce,[u33],[u35],enc x27.Tag]),raw b1 (cat [[v0_1],[vI p0.Next],[v0_2],[v0_3],enc p0.Head])]) ?_ ?_
     ·skip
      refine wp_region_lit (Zf hE rfl (Ua) fun a hE=>Zw (v:=(vI x27.Number)) hE rfl ty2 rfl (At.cat (pre:=[]) hM.rawAt0 cl0) fun a hE=>Zd hE rfl fun a hE=>Zg hE rfl rfl rfl fun a hE=>Zd hE rfl ?_); intro a hE
      refine Wk (decide (x27.Number ≤ s22.1)) (fun hb42=>?_) (fun hb42=>?_)
      ·have hl40:=Zt hl40 hb42
       refine Zp hE rfl (lkb rfl hb42) rfl (by decide) fun a hE=>Zp hE rfl (lkb rfl hb42) rfl (by decide) fun a hE=>Zp hE rfl (lkb rfl hb42) rfl (by decide) fun a hE=>Zp hE rfl (lkb rfl hb42) rfl (by decide) fun a hE=>Zp hE rfl (lkb rfl hb42) rfl (by decide) fun a hE=>Yd hE (lkb rfl hb42) rfl fun a hE=>Zd hE rfl fun a hE=>Zp hE rfl rfl rfl (by decide) fun a hE=>Zp hE rfl rfl rfl (by decide) fun a hE=>Zp hE rfl rfl rfl (by decide) fun a hE=>Zp hE rfl rfl rfl (by decide) fun a hE=>Zp hE rfl rfl rfl (by decide) ?_; intro a hE
       refine Zp hE rfl rfl rfl (by decide) fun a hE=>Zp hE rfl rfl rfl (by decide) fun a hE=>Zp hE rfl rfl rfl (by decide) fun a hE=>Yd hE rfl rfl fun a hE=>Zd hE rfl fun a hE=>Zp hE rfl rfl rfl (by decide) fun a hE=>Zp hE rfl rfl rfl (by decide) fun a hE=>Zp hE rfl rfl rfl (by decide) fun a hE=>Zp hE rfl rfl rfl (by decide) fun a hE=>Yd hE rfl rfl fun a hE=>Zd hE rfl fun a hE=>Zp hE rfl rfl rfl (by decide) ?_; intro a hE
       refine Zp hE rfl rfl rfl (by decide) fun a hE=>Zp hE rfl rfl rfl (by decide) fun a hE=>Zp hE rfl rfl rfl (by decide) fun a hE=>Yd hE rfl rfl fun a hE=>Zh ?_
       obtain rfl:=Option.some.inj hl40
       refine Zj ?_
       exact ⟨hE.sub ⟨rfl,rfl,rfl,rfl,trivial⟩,hM⟩
      ·have hl40:=Zu hl40 hb42
       refine Zs hE (Zr hE rfl (lkb rfl hb42)) (by decide) rfl (Ua) fun a hE=>ZS (v:=(vI x27.Number)) hE (Zr hE rfl (lkb rfl hb42)) (by decide) rfl ty2 rfl (At.cat (pre:=[]) hM.rawAt0 cl0) fun a hE=>Zs hE (Zr hE rfl (lkb rfl hb42)) (by decide) rfl (Qu) fun a hE=>ZS (v:=(vI p0.Next)) hE (Zr hE rfl (lkb rfl hb42)) (by decide) rfl ty2 rfl (At.cat (pre:=[[v0_1]]) hM.rawAt1 ck) fun a hE=>Yv hE (Zr hE rfl (lkb rfl hb42)) (by decide) rfl rfl rfl fun a hE=>XP hE (lkb rfl hb42) rfl fun a hE=>Zd hE rfl ?_; intro a hE
       refine Wk (decide (x27.Number ≥ p0.Next)) (fun hb44=>?_) (fun hb44=>?_)
       ·have hl40:=Zt hl40 hb44
        refine Zp hE rfl (lkb rfl hb44) rfl (by decide) fun a hE=>Zp hE rfl (lkb rfl hb44) rfl (by decide) fun a hE=>Zp hE rfl (lkb rfl hb44) rfl (by decide) fun a hE=>Zp hE rfl (lkb rfl hb44) rfl (by decide) fun a hE=>Zp hE rfl (lkb rfl hb44) rfl (by decide) fun a hE=>Zp hE rfl (lkb rfl hb44) rfl (by decide) fun a hE=>Zp hE rfl (lkb rfl hb44) rfl (by decide) fun a hE=>Zp hE rfl (lkb rfl hb44) rfl (by decide) fun a hE=>Yd hE (lkb rfl hb44) rfl fun a hE=>Zd hE rfl fun a hE=>Zp hE rfl rfl rfl (by decide) fun a hE=>Zp hE rfl rfl rfl (by decide) ?_; intro a hE
        refine Zp hE rfl rfl rfl (by decide) fun a hE=>Zp hE rfl rfl rfl (by decide) fun a hE=>Yd hE rfl rfl fun a hE=>Zd hE rfl fun a hE=>Zp hE rfl rfl rfl (by decide) fun a hE=>Zp hE rfl rfl rfl (by decide) fun a hE=>Zp hE rfl rfl rfl (by decide) fun a hE=>Zp hE rfl rfl rfl (by decide) fun a hE=>Yd hE rfl rfl fun a hE=>Zh ?_
        obtain rfl:=Option.some.inj hl40
        refine Zj ?_
        exact ⟨hE.sub ⟨rfl,rfl,rfl,rfl,trivial⟩,hM⟩
       ·have hl40:=Zu hl40 hb44
        refine Zs hE (Zr hE rfl (lkb rfl hb44)) (by decide) rfl (Qi) fun a hE=>ZS (v:=(vI x27.Version)) hE (Zr hE rfl (lkb rfl hb44)) (by decide) rfl ty2 rfl (At.cat (pre:=[[vI x27.Number]]) hM.rawAt0 ck) fun a hE=>Zs hE (Zr hE rfl (lkb rfl hb44)) (by decide) rfl (TL) fun a hE=>ZS (v:=v0_1) hE (Zr hE rfl (lkb rfl hb44)) (by decide) rfl Jw rfl (At.cat (pre:=[]) hM.rawAt1 cl0) fun a hE=>QE hE (Zr hE rfl (lkb rfl hb44)) (by decide) rfl Tryz.underlying54 (hM.rd hv0_1) fun a hE=>Yv hE (Zr hE rfl (lkb rfl hb44)) (by decide) rfl rfl rfl ?_; intro a hE
        obtain ⟨r46,e47,hl40⟩:=bind_some hl40
        refine Z7 hE (Zr hE rfl (lkb rfl hb44)) (by decide) rfl jU (Ql _ x27.Version 0 (wr ((p0.Keys.length : Int) - 1)) r46 e47) ?_
        rintro v w a ⟨rfl,hK⟩ hE
        have hM:=hM.keep hK
        refine QB hE (Zr hE rfl (lkb rfl hb44)) (by decide) rfl fun a hE=>XP hE (lkb rfl hb44) rfl fun a hE=>Zd hE rfl ?_; intro a hE
        refine Wk (!r46) (fun hb48=>?_) (fun hb48=>?_)
        ·have hl40:=Zt hl40 hb48
         refine Zp hE rfl (lkb rfl hb48) rfl (by decide) fun a hE=>Zp hE rfl (lkb rfl hb48) rfl (by decide) fun a hE=>Zp hE rfl (lkb rfl hb48) rfl (by decide) fun a hE=>Zp hE rfl (lkb rfl hb48) rfl (by decide) fun a hE=>Yd hE (lkb rfl hb48) rfl fun a hE=>Zd hE rfl fun a hE=>Zp hE rfl rfl rfl (by decide) fun a hE=>Zp hE rfl rfl rfl (by decide) fun a hE=>Zp hE rfl rfl rfl (by decide) fun a hE=>Zp hE rfl rfl rfl (by decide) fun a hE=>Yd hE rfl rfl fun a hE=>Zh ?_
         obtain rfl:=Option.some.inj hl40
         refine Zj ?_
         exact ⟨hE.sub ⟨rfl,rfl,rfl,rfl,trivial⟩,hM⟩
        ·have hl40:=Zu hl40 hb48
         refine Zs hE (Zr hE rfl (lkb rfl hb48)) (by decide) rfl (Tz) fun a hE=>ZS (v:=u33) hE (Zr hE rfl (lkb rfl hb48)) (by decide) rfl Ui rfl (At.cat (pre:=[[vI x27.Number],[vI x27.Version],enc x27.Nonce]) hM.rawAt0 ck) fun a hE=>QE hE (Zr hE rfl (lkb rfl hb48)) (by decide) rfl Tryz.underlying40 (hM.rd h34) fun a hE=>Yv hE (Zr hE rfl (lkb rfl hb48)) (by decide) rfl rfl rfl fun a hE=>XP hE (lkb rfl hb48) rfl fun a hE=>Zd hE rfl ?_; intro a hE
         refine Wk (decide ((x27.Label.length : Int) > 32)) (fun hb50=>?_) (fun hb50=>?_)
         ·have hl40:=Zt hl40 hb50
          refine Zp hE rfl (lkb rfl hb50) rfl (by decide) fun a hE=>Zp hE rfl (lkb rfl hb50) rfl (by decide) fun a hE=>Zp hE rfl (lkb rfl hb50) rfl (by decide) fun a hE=>Zp hE rfl (lkb rfl hb50) rfl (by decide) fun a hE=>Yd hE (lkb rfl hb50) rfl fun a hE=>Zh ?_
          obtain rfl:=Option.some.inj hl40
          refine Zj ?_
          exact ⟨hE.sub ⟨rfl,rfl,rfl,rfl,trivial⟩,hM⟩
         ·have hl40:=Zu hl40 hb50
          refine Zs hE (Zr hE rfl (lkb rfl hb50)) (by decide) rfl (TU) fun a hE=>ZS (v:=u35) hE (Zr hE rfl (lkb rfl hb50)) (by decide) rfl Ui rfl (At.cat (pre:=[[vI x27.Number],[vI x27.Version],enc x27.Nonce,[u33]]) hM.rawAt0 ck) fun a hE=>QE hE (Zr hE rfl (lkb rfl hb50)) (by decide) rfl Tryz.underlying40 (hM.rd h36) fun a hE=>Yv hE (Zr hE rfl (lkb rfl hb50)) (by decide) rfl rfl rfl fun a hE=>XP hE (lkb rfl hb50) rfl fun a hE=>Zh ?_
          obtain rfl:=Option.some.inj hl40
          refine Zj ?_
          exact ⟨hE.sub ⟨rfl,rfl,rfl,rfl,trivial⟩,hM⟩
     ·skip
      rintro a w ⟨hE,hM⟩
      refine Zm hE rfl ?_ ?_
      ·intro hb53
       have hF41:=Zt hF41 hb53
       refine Zb (Zc hE rfl fun a hE=>Ze ?_)
       obtain rfl:=hx24 _ (ois hF41)
       obtain rfl:=Option.some.inj hF20
       exact wp_ret (Zo (Yf (Zo (Zo (Yf (Zo (Zo (kr1 hE rfl rfl hM.kept))))))))
      ·intro hb53
       have hF41:=Zu hF41 hb53
       refine wp_skip (Zq (wp_region_lit (Zf hE rfl (Ua) fun a hE=>Zw (v:=(vI x27.Number)) hE rfl ty2 rfl (At.cat (pre:=[]) hM.rawAt0 cl0) fun a hE=>Zc hE rfl fun a hE=>Zh (Z2 (Zq (wp_region_lit (Zd hE rfl fun a hE=>Zg hE rfl rfl rfl fun a hE=>Zc hE rfl fun a hE=>Zh (Zj ?_))))))))
       have hM:=M.fst (l:=[_]) hM.pull1
       exact ⟨_,(ois hF41),hE.sub ⟨rfl,rfl,rfl,trivial⟩,hM⟩
    ·intro hb26
     have hs23:=Zu hs23 hb26
     refine wp_exit (Zl (Zl (Z3 ?_)))
     obtain rfl:=hx24 _ (ois hs23)
     refine Zj ?_
     exact ⟨(),rfl,hE.sub ⟨rfl,trivial⟩,hM⟩
   ·skip
    rintro a w ⟨s21,ht,hE,hM⟩
    subst ht
    have hF20:=Tg hF20
    refine Zq (wp_seq (Zb (Zc hE rfl fun a hE=>Ze ?_)))
    obtain ⟨j56,hl57,hF58⟩:=bind_some hF20
    refine ZI (fun a w=>∃ s59 : Unit,j56 = Fl.nx s59 ∧ Env 96 a [] ∧ M (Old w0) w0 w []) ?_ ?_
    ·skip
     refine wp_block ?_
     refine ZD (fun (s60 : Int) a w=>Env 96 a [(1,(ptr b1 0)),(6,vI s60)] ∧ M (Old w0) w0 w [raw b1 (cat [[v0_1],[vI p0.Next],[v0_2],[v0_3],enc p0.Head])]) hl57 ⟨hE.sub ⟨rfl,rfl,trivial⟩,hM⟩ ?_
     rintro s60 a w ⟨hE,hM⟩ o63 hs61 hx62
     unfold Tu at hs61
     refine wp_seq (Zb (Zd hE rfl fun a hE=>Zf hE rfl (VM) fun a hE=>Zw (v:=v0_3) hE rfl QM rfl (At.cat (pre:=[[v0_1],[vI p0.Next],[v0_2]]) hM.rawAt0 ck) fun a hE=>Yb hE rfl Tryz.underlying56 (hM.rd hv0_3) fun a hE=>Zg hE rfl rfl rfl fun a hE=>Ze ?_))
     refine Zm hE rfl ?_ ?_
     ·intro hb64
      have hs61:=Zt hs61 hb64
      refine wp_skip (Zq (wp_seq (wp_block (Zb (Zf hE rfl (VM) fun a hE=>Zw (v:=v0_3) hE rfl QM rfl (At.cat (pre:=[[v0_1],[vI p0.Next],[v0_2]]) hM.rawAt0 ck) fun a hE=>Zd hE rfl ?_))))); intro a hE
      obtain ⟨x65,hi67,hs61⟩:=bix hs61
      refine ZN hE rfl rfl Tryz.underlying56 Y3 (hM.rd hv0_3) hi67.1 fun a hE=>Zn hE rfl Y3 rfl (X0 (hM.rd hv0_3) hi67.2) cq ?_; intro a hE
      obtain ⟨r68,e69,hs61⟩:=bind_some hs61
      refine Zx hE rfl (cbm Tryz.func144) (Bc _ x65 r68 e69) ?_
      rintro v w a ⟨rfl,hK⟩ hE
      have hM:=hM.keep hK
      refine TX hE rfl fun a hE=>Ze ?_
      refine Zm hE rfl ?_ ?_
      ·intro hb70
       have hs61:=Zt hs61 hb70
       refine Zb (Zc hE rfl fun a hE=>Ze ?_)
       obtain rfl:=hx62 _ (ois hs61)
       obtain rfl:=Option.some.inj hF58
       exact wp_ret (Yf (Zo (Zo (Yf (Zo (Zo (kr1 hE rfl rfl hM.kept)))))))
      ·intro hb70
       have hs61:=Zu hs61 hb70
       refine wp_skip (Z2 (Zq (wp_region_lit (Zd hE rfl fun a hE=>Zg hE rfl rfl rfl fun a hE=>Zc hE rfl fun a hE=>Zh (Zj ?_)))))
       exact ⟨_,(ois hs61),hE.sub ⟨rfl,rfl,trivial⟩,hM⟩
     ·intro hb64
      have hs61:=Zu hs61 hb64
      refine wp_exit (Zl (Zl (Z3 ?_)))
      obtain rfl:=hx62 _ (ois hs61)
      refine Zj ?_
      have hM:=M.fst (l:=[]) hM
      exact ⟨(),rfl,hE.sub trivial,hM⟩
    ·skip
     rintro a w ⟨s59,ht,hE,hM⟩
     subst ht
     have hF58:=Tg hF58
     refine Zq (Zb (Zc hE rfl fun a hE=>Ze ?_))
     obtain rfl:=Option.some.inj hF58
     exact wp_ret (kr1 hE rfl rfl hM.kept)
def Td (p0 : GVault) (p1 : Int) (s7 : Int) : Option (Fl Int (Fl Unit Int)) :=
 if (decide (s7 < (p0.Records.length : Int))) = true then ((idx p0.Records s7).bind fun x12=>if (x12.Number == p1) = true then (some (Fl.ex (Fl.ex s7))) else (some (Fl.nx (wr (s7 + 1))))) else (some (Fl.ex (Fl.nx ())))
def Ul (p0 : GVault) (p1 : Int) : Option (Int) :=
 (ZB (Td p0 p1) 0).bind fun j3=>j3.el (fun s6=>some (-1)) (fun r=>some r)
theorem H7 (w0 : World) (p0 : GVault) (v0_1 : Value) (hv0_1 : Ro w0 p0.Keys [v0_1]) (v0_2 : Value) (hv0_2 : Ro w0 p0.Records [v0_2]) (v0_3 : Value) (hv0_3 : Ro w0 p0.Events [v0_3]) (p1 : Int) (r : Int) (hF : Ul p0 p1 = some r) :
  Calls Tryz.prog 80 [(Value.agg (cat [[v0_1],[vI p0.Next],[v0_2],[v0_3],enc p0.Head]).toArray),vI p1].toArray w0 (Rt w0 (vI r)):=by
 refine ce Tryz.func80 ?_
 intro a hE
 have hM:=M.start w0
 unfold Ul at hF
 refine Zb (ZV (cs:=cat [[v0_1],[vI p0.Next],[v0_2],[v0_3],enc p0.Head]) hE hM Za ld rfl rfl fun b1 w a hM hE=>Zc hE rfl fun a hE=>Ze (wp_seq (Zb (Zc hE rfl fun a hE=>Ze ?_))))
 obtain ⟨j3,hl4,hF5⟩:=bind_some hF
 refine ZI (fun a w=>∃ s6 : Unit,j3 = Fl.nx s6 ∧ Env 22 a [] ∧ M (Old w0) w0 w []) ?_ ?_
 ·skip
  refine wp_block ?_
  refine ZD (fun (s7 : Int) a w=>Env 22 a [(1,vI p1),(2,(ptr b1 0)),(5,vI s7)] ∧ M (Old w0) w0 w [raw b1 (cat [[v0_1],[vI p0.Next],[v0_2],[v0_3],enc p0.Head])]) hl4 ⟨hE.sub ⟨rfl,rfl,rfl,trivial⟩,hM⟩ ?_
  rintro s7 a w ⟨hE,hM⟩ o10 hs8 hx9
  unfold Td at hs8
  refine wp_seq (Zb (Zd hE rfl fun a hE=>Zf hE rfl (X1) fun a hE=>Zw (v:=v0_2) hE rfl TZ rfl (At.cat (pre:=[[v0_1],[vI p0.Next]]) hM.rawAt0 ck) fun a hE=>Yb hE rfl Tryz.underlying55 (hM.rd hv0_2) fun a hE=>Zg hE rfl rfl rfl fun a hE=>Ze ?_))
  refine Zm hE rfl ?_ ?_
  ·intro hb11
   have hs8:=Zt hs8 hb11
   refine wp_skip (Zq (wp_seq (wp_block (Zb (Zf hE rfl (X1) fun a hE=>Zw (v:=v0_2) hE rfl TZ rfl (At.cat (pre:=[[v0_1],[vI p0.Next]]) hM.rawAt0 ck) fun a hE=>Zd hE rfl ?_))))); intro a hE
   obtain ⟨x12,hi14,hs8⟩:=bix hs8
   refine ZN hE rfl rfl Tryz.underlying55 Z4 (hM.rd hv0_2) hi14.1 fun a hE=>Zf hE rfl (Ua) ?_; intro a hE
   obtain ⟨cs15,hs16,hA17⟩:=Ww hv0_2 hi14.2 -- ^
   obtain ⟨u18,u20,rfl,h19,h21⟩:=YM hs16 -- ^
   refine Zw (v:=(vI x12.Number)) hE rfl ty2 rfl (At.cat (pre:=[]) (hM.atk hA17 (V9 hv0_2 hi14.2)) cl0) fun a hE=>Zd hE rfl fun a hE=>Zg hE rfl rfl rfl fun a hE=>Ze ?_
   refine Zm hE rfl ?_ ?_
   ·intro hb22
    have hs8:=Zt hs8 hb22
    refine Zb (Zd hE rfl fun a hE=>Zc hE rfl fun a hE=>Ze ?_)
    obtain rfl:=hx9 _ (ois hs8)
    obtain rfl:=Option.some.inj hF5
    exact wp_ret (Yf (Zo (Zo (Yf (Zo (Zo (kr1 hE rfl rfl hM.kept)))))))
   ·intro hb22
    have hs8:=Zu hs8 hb22
    refine wp_skip (Z2 (Zq (wp_region_lit (Zd hE rfl fun a hE=>Zg hE rfl rfl rfl fun a hE=>Zc hE rfl fun a hE=>Zh (Zj ?_)))))
    exact ⟨_,(ois hs8),hE.sub ⟨rfl,rfl,rfl,trivial⟩,hM⟩
  ·intro hb11
   have hs8:=Zu hs8 hb11
   refine wp_exit (Zl (Zl (Z3 ?_)))
   obtain rfl:=hx9 _ (ois hs8)
   refine Zj ?_
   have hM:=M.fst (l:=[]) hM
   exact ⟨(),rfl,hE.sub trivial,hM⟩
 ·skip
  rintro a w ⟨s6,ht,hE,hM⟩
  subst ht
  have hF5:=Tg hF5
  refine Zq (Zb (Zc hE rfl fun a hE=>Ze ?_))
  obtain rfl:=Option.some.inj hF5
  exact wp_ret (kr1 hE rfl rfl hM.kept)
def WW (p0 : (List UInt8)) : Option ((List UInt8)) :=
 (app 1 ([] : List UInt8) p0).bind fun l3=>some (([] : List UInt8) ++ p0)
theorem Qw (w0 : World) (p0 : (List UInt8)) (v0_1 : Value) (hv0_1 : Ro w0 p0 [v0_1]) (r : (List UInt8)) (hF : WW p0 = some r) :
  Calls Tryz.prog 65 [v0_1].toArray w0 (fun en w'=>∃ v,en = .returned v ∧ (∃ (y1 : Value),v = y1 ∧ Fr w0 w' [osl NoB (r : List UInt8) y1] ∧ Kept (Old w0) w0 w')):=by
 refine ce Tryz.func65 ?_
 intro a hE
 have hM:=M.start w0
 unfold WW at hF
 refine Zb (Zc hE rfl fun a hE=>Ze (Zb (Yi (xs:=[]) (l:=([] : List UInt8)) (vs:=[]) hE hM Za ld rfl rfl Tryz.underlying40 ty5 rfl (by decide) rfl fun u1 w a hM hE=>Zd hE rfl ?_))); intro a hE
 obtain ⟨l3,e4,hF⟩:=bind_some hF
 have e7:=(Yr e4).1
 refine Yh hE hM Za ld rfl rfl (hM.rd hv0_1) Tryz.underlying40 ty5 rfl (by decide) e7 fun u5 w a hM hE=>Zc hE rfl fun a hE=>Ze ?_
 obtain rfl:=Option.some.inj hF
 exact wp_ret (ZL hE rfl (ZT hE rfl) ⟨_,rfl,u5,rfl,hM.outF (Yq Xy),hM.kept⟩)
def UU (p0 : GVault) (s29 : (List GRecord) × Int) : Option (Fl ((List GRecord) × Int) (List GRecord)) :=
 if (decide (s29.2 < (p0.Records.length : Int))) = true then ((idx p0.Records s29.2).bind fun x37=>(WW x37.Label).bind fun r49=>(WW x37.Body).bind fun r52=>(app 112 s29.1 ([(⟨x37.Number,x37.Version,x37.Nonce,r49,r52,x37.Tag⟩ : GRecord)] : List GRecord)).bind fun l57=>some (Fl.nx ((s29.1 ++ ([(⟨x37.Number,x37.Version,x37.Nonce,r49,r52,x37.Tag⟩ : GRecord)] : List GRecord)),wr (s29.2 + 1)))) else (some (Fl.ex s29.1))
def Ts (p0 : GVault) : Option (GVault) :=
 (app 16 ([] : List (Vector UInt8 16)) p0.Keys).bind fun l8=>(app 48 ([] : List GEvent) p0.Events).bind fun l15=>(ZB (UU p0) ([],0)).bind fun j24=>some (⟨(([] : List (Vector UInt8 16)) ++ p0.Keys),p0.Next,j24,(([] : List GEvent) ++ p0.Events),p0.Head⟩ : GVault)
theorem AL (w0 : World) (p0 : GVault) (v0_1 : Value) (hv0_1 : Ro w0 p0.Keys [v0_1]) (v0_2 : Value) (hv0_2 : Ro w0 p0.Records [v0_2]) (v0_3 : Value) (hv0_3 : Ro w0 p0.Events [v0_3]) (r : GVault) (hF : Ts p0 = some r) :
  Calls Tryz.prog 81 [(Value.agg (cat [[v0_1],[vI p0.Next],[v0_2],[v0_3],enc p0.Head]).toArray)].toArray w0 (fun en w'=>∃ v,en = .returned v ∧ (∃ (y1 : Value) (y2 : Value) (y3 : Value),v = (Value.agg (cat [[y1],[vI r.Next],[y2],[y3],enc r.Head]).toArray) ∧ Fr w0 w' [osl NoB (r.Keys : List (Vector UInt8 16)) y1,osl NoB (r.Records : List GRecord) y2,osl NoB (r.Events : List GEvent) y3] ∧ Kept (Old w0) w0 w')):=by
 refine ce Tryz.func81 ?_
 intro a hE
 have hM:=M.start w0
 unfold Ts at hF
 refine Zb (ZV (cs:=cat [[v0_1],[vI p0.Next],[v0_2],[v0_3],enc p0.Head]) hE hM Za ld rfl rfl fun b1 w a hM hE=>ZA hE hM Ys fun b3 w a hM hE=>Ze (wp_seq ?_))
 obtain ⟨l8,e9,hF⟩:=bind_some hF
 obtain ⟨l15,e16,hF⟩:=bind_some hF
 refine XQ (its:=[raw b3 (cat [[(Value.slice none 0 0)],[vI 0],[(Value.slice none 0 0)],[(Value.slice none 0 0)],enc (Vector.replicate 32 (0 : UInt8))]),raw b1 (cat [[v0_1],[vI p0.Next],[v0_2],[v0_3],enc p0.Head])]) (mk:=([mkN [(3,fun v=>osl NoB ((([] : List (Vector UInt8 16)) ++ p0.Keys) : List (Vector UInt8 16)) v),(0,fun v=>osl NoB (([] : List (Vector UInt8 16)) : List (Vector UInt8 16)) v)],mkN [(9,fun v=>osl NoB ((([] : List GEvent) ++ p0.Events) : List GEvent) v),(6,fun v=>osl NoB (([] : List GEvent) : List GEvent) v)],mkO 13 (fun v=>TO v (cat [[(Value.slice none 0 0)],[vI 0],[(Value.slice none 0 0)],[(Value.slice none 0 0)],enc (Vector.replicate 32 (0 : UInt8))]))] : Mk)) [6,7,8,9,10,11,12,13,14,15,16,17,18,3] Y4 rfl rfl (by decide) rfl hE (fun u=>M.qE (M.qE (M.qE (M.q0 hM.drew u) emO) emN) emN) (qsM (pr:=fun v=>True) ?_ (qsP (fun z=>Zs z.E Za ld rfl (TL) (kr0 rfl)) (qsP (v:=v0_1) ?_ (qsM (pr:=fun v=>True) ?_ (qsP (fun z=>Zs z.E Za ld rfl (Qu) (kr0 rfl)) (qsP (v:=(vI p0.Next)) ?_ (qsM (pr:=fun v=>True) ?_ (qsP (fun z=>Zs z.E Za ld rfl (VM) (kr0 rfl)) (qsP (v:=v0_3) ?_ (qsM (pr:=fun v=>True) ?_ (qsP (fun z=>Zs z.E Za ld rfl (Jb) (kr0 rfl)) (qsP (v:=(Value.agg (enc p0.Head).toArray)) ?_ (qsD (ds:=[3,9]) (f:=fun us=>(Value.agg (cat [[(us.getD 0 undef)],[vI p0.Next],[(Value.slice none 0 0)],[(us.getD 1 undef)],enc p0.Head]).toArray)) ?_ (qsM (pr:=fun v=>True) ?_ qs0)))))))))))))) ?_
 ·intro a w ux5 D z
  have hE:=z.E
  have hD : D 0 = false:=z.F
  have hM:=z.M
  refine Yi (xs:=[]) (l:=([] : List (Vector UInt8 16))) (vs:=[]) hE hM Za ld rfl rfl Tryz.underlying54 ZG rfl (by decide) rfl ?_; intro u6 w a hM hE
  have hq3 : D 3 = false:=BT (j:=3) (k:=0) z.c rfl rfl rfl hD
  exact ⟨_,_,rfl,hE,M.qPut (p:=mkN [(3,fun v=>osl NoB ((([] : List (Vector UInt8 16)) ++ p0.Keys) : List (Vector UInt8 16)) v),(0,fun v=>osl NoB (([] : List (Vector UInt8 16)) : List (Vector UInt8 16)) v)]) (its:=[raw b3 (cat [[(Value.slice none 0 0)],[vI 0],[(Value.slice none 0 0)],[(Value.slice none 0 0)],enc (Vector.replicate 32 (0 : UInt8))]),raw b1 (cat [[v0_1],[vI p0.Next],[v0_2],[v0_3],enc p0.Head])]) (mk1:=[]) (mk2:=[_,_]) hM rfl (z2 (zL hq3 (zL hD zT))) (Hs (l:=[_]) (zL hq3 zT)),trivial⟩
 ·intro a w ux5 D z
  have hE:=z.E
  have hM:=z.M
  exact Zw (v:=v0_1) hE rfl Jw rfl (At.cat (pre:=[]) hM.rawAt1 cl0) fun a hE=>⟨Kept.refl _ _,_,rfl,hE⟩
 ·intro a w ux5 D z
  have hE:=z.E
  have hD : D 3 = false:=z.F
  have d0 : D 0 = true:=z.p 0 _ rfl rfl
  have hM:=(z.M.chnF (pre:=[_,_]) hD).chnT (pre:=[_,_]) d0
  obtain ⟨e12,rfl⟩:=Yr e9
  have hM:=hM.pull2
  exact Yh hE hM Za ld rfl rfl (hM.rd hv0_1) Tryz.underlying54 ZG rfl (by decide) e12 fun u10 w a hM hE=>⟨_,_,rfl,hE,M.qTogS (p:=mkN [(3,fun v=>osl NoB ((([] : List (Vector UInt8 16)) ++ p0.Keys) : List (Vector UInt8 16)) v),(0,fun v=>osl NoB (([] : List (Vector UInt8 16)) : List (Vector UInt8 16)) v)]) (its:=[raw b3 (cat [[(Value.slice none 0 0)],[vI 0],[(Value.slice none 0 0)],[(Value.slice none 0 0)],enc (Vector.replicate 32 (0 : UInt8))]),raw b1 (cat [[v0_1],[vI p0.Next],[v0_2],[v0_3],enc p0.Head])]) (mk1:=[]) (mk2:=[_,_]) hM rfl (Hs (l:=[]) zT),trivial⟩
 ·intro a w ux5 D z
  have hE:=z.E
  have hM:=z.M
  exact Zw (v:=(vI p0.Next)) hE rfl ty2 rfl (At.cat (pre:=[[v0_1]]) hM.rawAt1 ck) fun a hE=>⟨Kept.refl _ _,_,rfl,hE⟩
 ·intro a w ux5 D z
  have hE:=z.E
  have hD : D 6 = false:=z.F
  have hM:=z.M
  refine Yi (xs:=[]) (l:=([] : List GEvent)) (vs:=[]) hE hM Za ld rfl rfl Tryz.underlying56 Y3 rfl (by decide) rfl ?_; intro u13 w a hM hE
  have hq9 : D 9 = false:=BT (j:=9) (k:=0) z.c rfl rfl rfl hD
  exact ⟨_,_,rfl,hE,M.qPut (p:=mkN [(9,fun v=>osl NoB ((([] : List GEvent) ++ p0.Events) : List GEvent) v),(6,fun v=>osl NoB (([] : List GEvent) : List GEvent) v)]) (its:=[raw b3 (cat [[(Value.slice none 0 0)],[vI 0],[(Value.slice none 0 0)],[(Value.slice none 0 0)],enc (Vector.replicate 32 (0 : UInt8))]),raw b1 (cat [[v0_1],[vI p0.Next],[v0_2],[v0_3],enc p0.Head])]) (mk1:=[_]) (mk2:=[_]) hM rfl (z2 (zL hq9 (zL hD zT))) (Hs (l:=[_]) (zL hq9 zT)),trivial⟩
 ·intro a w ux5 D z
  have hE:=z.E
  have hM:=z.M
  exact Zw (v:=v0_3) hE rfl QM rfl (At.cat (pre:=[[v0_1],[vI p0.Next],[v0_2]]) hM.rawAt1 ck) fun a hE=>⟨Kept.refl _ _,_,rfl,hE⟩
 ·intro a w ux5 D z
  have hE:=z.E
  have hD : D 9 = false:=z.F
  have d6 : D 6 = true:=z.p 0 _ rfl rfl
  have hM:=(z.M.chnF (pre:=[_,_,_]) hD).chnT (pre:=[_,_,_]) d6
  obtain ⟨e19,rfl⟩:=Yr e16
  have hM:=hM.pull3
  exact Yh hE hM Za ld rfl rfl (hM.rd hv0_3) Tryz.underlying56 Y3 rfl (by decide) e19 fun u17 w a hM hE=>⟨_,_,rfl,hE,M.qTogS (p:=mkN [(9,fun v=>osl NoB ((([] : List GEvent) ++ p0.Events) : List GEvent) v),(6,fun v=>osl NoB (([] : List GEvent) : List GEvent) v)]) (its:=[raw b3 (cat [[(Value.slice none 0 0)],[vI 0],[(Value.slice none 0 0)],[(Value.slice none 0 0)],enc (Vector.replicate 32 (0 : UInt8))]),raw b1 (cat [[v0_1],[vI p0.Next],[v0_2],[v0_3],enc p0.Head])]) (mk1:=[_]) (mk2:=[_]) hM rfl (Hs (l:=[]) zT),trivial⟩
 ·intro a w ux5 D z
  have hE:=z.E
  have hM:=z.M
  exact Zn hE rfl Yt rfl (At.cat (pre:=[[v0_1],[vI p0.Next],[v0_2],[v0_3]]) hM.rawAt1 ck) (Flat.len _) fun a hE=>⟨Kept.refl _ _,_,rfl,hE⟩
 ·intro a w ux5 D z
  have hE:=z.E
  have d3 : D 3 = true:=z.p 0 _ rfl rfl
  have d9 : D 9 = true:=z.p 2 _ rfl rfl
  have hM:=(z.M.chnT (pre:=[_,_]) d3).chnT (pre:=[_,_,_]) d9
  exact Wl (parts:=[(0,.tmp 9),(1,.tmp 11),(3,.tmp 15),(4,.tmp 17)]) (vs:=[(0,(ux5 3)),(1,vI p0.Next),(3,(ux5 9)),(4,(Value.agg (enc p0.Head).toArray))]) (cs:=cat [[(ux5 3)],[vI p0.Next],[(Value.slice none 0 0)],[(ux5 9)],enc p0.Head]) hE Za ld rfl rfl Ys jA (Ym (pre:=[]) (seg:=[(Value.slice none 0 0)]) (seg':=[(ux5 3)]) (post:=[[vI 0],[(Value.slice none 0 0)],[(Value.slice none 0 0)],enc (Vector.replicate 32 (0 : UInt8))]) rfl cl0 rfl rfl (Yz (hM.sl (pre:=[_,_]) noB)) (Ym (pre:=[[(ux5 3)]]) (seg:=[vI 0]) (seg':=[vI p0.Next]) (post:=[[(Value.slice none 0 0)],[(Value.slice none 0 0)],enc (Vector.replicate 32 (0 : UInt8))]) rfl ck rfl rfl rfl (Ym (pre:=[[(ux5 3)],[vI p0.Next],[(Value.slice none 0 0)]]) (seg:=[(Value.slice none 0 0)]) (seg':=[(ux5 9)]) (post:=[enc (Vector.replicate 32 (0 : UInt8))]) rfl ck rfl rfl (Yz (hM.sl (pre:=[_,_,_]) noB)) (Ym (pre:=[[(ux5 3)],[vI p0.Next],[(Value.slice none 0 0)],[(ux5 9)]]) (seg:=enc (Vector.replicate 32 (0 : UInt8))) (seg':=enc p0.Head) (post:=[]) rfl ck (Flat.len _) (Flat.len _) rfl Uq)))) fun a hE=>⟨Kept.refl _ _,(allC d3 (allC d9 allN)),_,rfl,hE⟩
 ·intro a w ux5 D z
  have hE:=z.E
  have hD : D 13 = false:=z.F
  have hM:=z.M
  refine ZA hE hM Ys ?_; intro b20 w a hM hE
  have hM:=hM.pack1 (it:=TO _ (cat [[(Value.slice none 0 0)],[vI 0],[(Value.slice none 0 0)],[(Value.slice none 0 0)],enc (Vector.replicate 32 (0 : UInt8))])) (fun w w' fp ⟨b',e,k⟩ hb=>⟨b',e,XC w w' fp k hb⟩) (fun fp k=>⟨_,rfl,k⟩)
  exact ⟨_,_,rfl,hE,M.qFill (mk1:=[_,_]) (mk2:=[]) (f:=fun v=>TO v (cat [[(Value.slice none 0 0)],[vI 0],[(Value.slice none 0 0)],[(Value.slice none 0 0)],enc (Vector.replicate 32 (0 : UInt8))])) hM rfl hD,trivial⟩
 ·intro a w ux5 D hE hM hG hall
  have d3:=hall 3 (by decide)
  have d9:=hall 9 (by decide)
  have d13:=hall 13 (by decide)
  have hM:=(((hM.chnT (pre:=[_,_]) d3).chnT (pre:=[_,_,_]) d9).sure (pre:=[_,_,_,_]) d13).pull
  obtain ⟨_,⟨b22,f23,_⟩,_⟩:=hM.head
  have hM:=hM.pack1 XC (it:=raw b22 (cat [[(Value.slice none 0 0)],[vI 0],[(Value.slice none 0 0)],[(Value.slice none 0 0)],enc (Vector.replicate 32 (0 : UInt8))])) (fun fp ⟨b2,e2,k2⟩=>by rw [f23] at e2; simp [ptr] at e2; subst e2; exact k2)
  have hE:=hE.setq (t:=3) rfl f23
  refine Zk (seg:=cat [[(ux5 3)],[vI p0.Next],[(Value.slice none 0 0)],[(ux5 9)],enc p0.Head]) (cs':=cat [[(ux5 3)],[vI p0.Next],[(Value.slice none 0 0)],[(ux5 9)],enc p0.Head]) hE hM Za rfl rfl rfl Ys cq (Nat.le_of_eq ((Nat.zero_add _).trans (Eq.trans cq (Eq.symm cq)))) (ZX (cc1 (Rep.cell (hM.sl (pre:=[_,_,_]) noB)) (cc1 (Flat.cell (p0.Next : Int)) (cc1 Vn (cc1 (Rep.cell (hM.sl (pre:=[_,_,_,_]) noB)) (cc1 (Flat.cell _) cc0)))))) (Zi (Eq.trans cq (Eq.symm cq))) fun w a hM hE=>Zh (Zq (wp_seq (Zb (Zc hE rfl fun a hE=>Ze ?_))))
  obtain ⟨j24,hl25,hF26⟩:=bind_some hF
  refine ZI (fun a w=>∃ (u27 : Value),Env 46 a [(2,(ptr b3 0)),(3,(ptr b22 0))] ∧ M (Old w0) w0 w [raw b22 (cat [[(ux5 3)],[vI p0.Next],[u27],[(ux5 9)],enc p0.Head]),raw b3 (cat [[(Value.slice none 0 0)],[vI 0],[(Value.slice none 0 0)],[(Value.slice none 0 0)],enc (Vector.replicate 32 (0 : UInt8))]),osl NoB ((([] : List (Vector UInt8 16)) ++ p0.Keys) : List (Vector UInt8 16)) (ux5 3),osl NoB ((([] : List GEvent) ++ p0.Events) : List GEvent) (ux5 9),osl NoB (j24 : List GRecord) u27]) ?_ ?_
  ·skip
   refine wp_block ?_
   have hM:=(((((M.nilS (α:=GRecord) NoB noB hM).pull5).pull5).pull5).pull5).pull5
   refine ZD (fun (s29 : (List GRecord) × Int) a w=>∃ (u30 : Value),Env 46 a [(1,(ptr b1 0)),(2,(ptr b3 0)),(3,(ptr b22 0)),(4,vI s29.2)] ∧ M (Old w0) w0 w [raw b22 (cat [[(ux5 3)],[vI p0.Next],[u30],[(ux5 9)],enc p0.Head]),raw b3 (cat [[(Value.slice none 0 0)],[vI 0],[(Value.slice none 0 0)],[(Value.slice none 0 0)],enc (Vector.replicate 32 (0 : UInt8))]),raw b1 (cat [[v0_1],[vI p0.Next],[v0_2],[v0_3],enc p0.Head]),osl NoB ((([] : List (Vector UInt8 16)) ++ p0.Keys) : List (Vector UInt8 16)) (ux5 3),osl NoB ((([] : List GEvent) ++ p0.Events) : List GEvent) (ux5 9),osl NoB (s29.1 : List GRecord) u30]) hl25 ⟨(Value.slice none 0 0),hE.sub ⟨rfl,rfl,rfl,rfl,trivial⟩,hM⟩ ?_
   rintro s29 a w ⟨u30,hE,hM⟩ o34 hs32 hx33
   unfold UU at hs32
   refine wp_seq (Zb (Zd hE rfl fun a hE=>Zf hE rfl (X1) fun a hE=>Zw (v:=v0_2) hE rfl TZ rfl (At.cat (pre:=[[v0_1],[vI p0.Next]]) hM.rawAt2 ck) fun a hE=>Yb hE rfl Tryz.underlying55 (hM.rd hv0_2) fun a hE=>Zg hE rfl rfl rfl fun a hE=>Ze ?_))
   refine Zm hE rfl ?_ ?_
   ·intro hb36
    have hs32:=Zt hs32 hb36
    refine wp_skip (Zq (wp_seq (wp_block (Zb (Zf hE rfl (X1) fun a hE=>Zw (v:=v0_2) hE rfl TZ rfl (At.cat (pre:=[[v0_1],[vI p0.Next]]) hM.rawAt2 ck) fun a hE=>Zd hE rfl ?_))))); intro a hE
    obtain ⟨x37,hi39,hs32⟩:=bix hs32
    refine ZN hE rfl rfl Tryz.underlying55 Z4 (hM.rd hv0_2) hi39.1 ?_; intro a hE
    obtain ⟨cs40,hs41,hA42⟩:=Ww hv0_2 hi39.2 -- ^
    obtain ⟨u43,u45,rfl,h44,h46⟩:=YM hs41 -- ^
    refine Zn hE rfl Z4 rfl (hM.atk hA42 (V9 hv0_2 hi39.2)) cq fun a hE=>ZA hE hM Z4 fun b47 w a hM hE=>Zk (seg:=cat [[vI x37.Number],[vI x37.Version],enc x37.Nonce,[u43],[u45],enc x37.Tag]) (cs':=cat [[vI x37.Number],[vI x37.Version],enc x37.Nonce,[u43],[u45],enc x37.Tag]) hE hM Za rfl rfl rfl Z4 cq (Nat.le_of_eq ((Nat.zero_add _).trans (Eq.trans cq (Eq.symm cq)))) (ZX (cc1 (Flat.cell (x37.Number : Int)) (cc1 (Flat.cell (x37.Version : Int)) (cc1 (Flat.cell _) (cc1 (Rep.cell (hM.rd h44)) (cc1 (Rep.cell (hM.rd h46)) (cc1 (Flat.cell _) cc0))))))) (Zi (Eq.trans cq (Eq.symm cq))) fun w a hM hE=>Ze (Zb (Zf hE rfl (Tz) fun a hE=>Zw (v:=u43) hE rfl Ui rfl (At.cat (pre:=[[vI x37.Number],[vI x37.Version],enc x37.Nonce]) hM.rawAt0 ck) ?_)); intro a hE
    obtain ⟨r49,e50,hs32⟩:=bind_some hs32
    refine Zx hE rfl cb65 (Qw _ x37.Label u43 (hM.rdo h44) r49 e50) ?_
    rintro u51 w a ⟨_,rfl,hFr,hK⟩ hE
    have hM:=hM.add hK hFr
    refine Zf hE rfl (Tz) ?_; intro a hE
    have hM:=hM.pull1
    refine Zk (seg:=[u51]) hE hM Za rfl rfl (Yz (hM.sl (pre:=[_]) noB)) Ui rfl (YK (pre:=[[vI x37.Number],[vI x37.Version],enc x37.Nonce]) ck rfl) (Rep.cell (hM.sl (pre:=[_]) noB)) (ZR (pre:=[[vI x37.Number],[vI x37.Version],enc x37.Nonce]) ck rfl) fun w a hM hE=>Ze (Zb (Zf hE rfl (TU) fun a hE=>Zw (v:=u45) hE rfl Ui rfl (At.cat (pre:=[[vI x37.Number],[vI x37.Version],enc x37.Nonce,[u51]]) hM.rawAt0 ck) ?_)); intro a hE
    obtain ⟨r52,e53,hs32⟩:=bind_some hs32
    refine Zx hE rfl cb65 (Qw _ x37.Body u45 (hM.rdo h46) r52 e53) ?_
    rintro u54 w a ⟨_,rfl,hFr,hK⟩ hE
    have hM:=hM.add hK hFr
    refine Zf hE rfl (TU) ?_; intro a hE
    have hM:=hM.pull1
    refine Zk (seg:=[u54]) hE hM Za rfl rfl (Yz (hM.sl (pre:=[_]) noB)) Ui rfl (YK (pre:=[[vI x37.Number],[vI x37.Version],enc x37.Nonce,[u51]]) ck rfl) (Rep.cell (hM.sl (pre:=[_]) noB)) (ZR (pre:=[[vI x37.Number],[vI x37.Version],enc x37.Nonce,[u51]]) ck rfl) fun w a hM hE=>Ze (wp_region_lit (Zf hE rfl (X1) fun a hE=>Zw (v:=u30) hE rfl TZ rfl (At.cat (pre:=[[(ux5 3)],[vI p0.Next]]) hM.rawAt3 ck) fun a hE=>Zn hE rfl Z4 rfl hM.rawAt0 cq ?_)); intro a hE
    have hM:=hM.pull1.pull2
    have hM:=hM.pack2 (it:=own NoB (⟨x37.Number,x37.Version,x37.Nonce,r49,r52,x37.Tag⟩ : GRecord) (cat [[vI x37.Number],[vI x37.Version],enc x37.Nonce,[u51],[u54],enc x37.Tag])) (Xj noB) (fun f0 f1 q0 q1=>(W0 (XJ.sat q0) (XJ.sat q1) (by simp)))
    refine z8 (xs:=[.tmp 41]) (seg:=cat [[vI x37.Number],[vI x37.Version],enc x37.Nonce,[u51],[u54],enc x37.Tag]) hE hM noB Za ld rfl rfl Tryz.underlying55 Z4 rfl (by decide) ?_; intro u55 w a hM hE
    obtain ⟨l57,e58,hs32⟩:=bind_some hs32
    obtain ⟨e61,rfl⟩:=Yr e58
    have hM:=hM.pull7
    refine zh hE hM noB Za ld rfl rfl Tryz.underlying55 Z4 rfl (by decide) e61 fun u59 w a hM hE=>Zf hE rfl (X1) ?_; intro a hE
    have hM:=hM.pull2
    refine Zk (seg:=[u59]) hE hM Za rfl rfl (Yz (hM.sl (pre:=[_]) noB)) TZ rfl (YK (pre:=[[(ux5 3)],[vI p0.Next]]) ck rfl) (Rep.cell (hM.sl (pre:=[_]) noB)) (ZR (pre:=[[(ux5 3)],[vI p0.Next]]) ck rfl) fun w a hM hE=>Zh (Z2 (Zq (wp_region_lit (Zd hE rfl fun a hE=>Zg hE rfl rfl rfl fun a hE=>Zc hE rfl fun a hE=>Zh (Zj ?_)))))
    have hM:=M.fst (l:=[_,_,_,_,_,_]) hM.pull1.pull6.pull6.pull6.pull6.pull5
    exact ⟨_,(ois hs32),u59,hE.sub ⟨rfl,rfl,rfl,rfl,trivial⟩,hM⟩
   ·intro hb36
    have hs32:=Zu hs32 hb36
    refine wp_exit (Zl (Zl (Z3 ?_)))
    obtain rfl:=hx33 _ (ois hs32)
    refine Zj ?_
    have hM:=M.fst (l:=[_,_,_,_,_]) hM.pull5.pull5.pull5.pull4.pull4
    exact ⟨u30,hE.sub ⟨rfl,rfl,trivial⟩,hM⟩
  ·skip
   rintro a w ⟨u27,hE,hM⟩
   refine Zq (Zb (Zn hE rfl Ys rfl hM.rawAt0 cq ?_)); intro a hE
   have hM:=hM.pull1
   refine Zk (seg:=cat [[(ux5 3)],[vI p0.Next],[u27],[(ux5 9)],enc p0.Head]) (cs':=cat [[(ux5 3)],[vI p0.Next],[u27],[(ux5 9)],enc p0.Head]) hE hM Za rfl rfl rfl Ys cq (Nat.le_of_eq ((Nat.zero_add _).trans (Eq.trans cq (Eq.symm cq)))) (ZX (cc1 (Rep.cell (hM.sl (pre:=[_,_]) noB)) (cc1 (Flat.cell (p0.Next : Int)) (cc1 (Rep.cell (hM.sl (pre:=[_,_,_,_]) noB)) (cc1 (Rep.cell (hM.sl (pre:=[_,_,_]) noB)) (cc1 (Flat.cell _) cc0)))))) (Zi (Eq.trans cq (Eq.symm cq))) fun w a hM hE=>Ze ?_
   obtain rfl:=Option.some.inj hF26
   have hq63 : Yu Tryz.prog _ _ (.cell 2 58) _:=ZJ hE rfl Ys rfl hM.rawAt0 cq rfl
   have hM:=M.fst (l:=[_,_,_]) hM.pull3.pull4.pull4
   exact wp_ret (ZL hE rfl hq63 ⟨_,rfl,(ux5 3),u27,(ux5 9),rfl,hM.outF (Yq (Yq (Yq Xy))),hM.kept⟩)
def Xc (p0 : Int) (s4 : Int × Int × Int) : Option (Fl (Int × Int × Int) Int) :=
 if (decide (s4.2.2 > 0)) = true then (((if ((Int.tmod s4.2.2 2) == 1) = true then (some (HJ s4.1 s4.2.1)) else (some s4.1) : Option (Int)).bind fun j12=>(if (decide ((wr (s4.2.1 * 2)) ≥ 256)) = true then (some (HJ (wr (s4.2.1 * 2)) p0)) else (some (wr (s4.2.1 * 2))) : Option (Int)).bind fun j18=>some (j12,j18) : Option (Int × Int)).bind fun j9=>some (Fl.nx (j9.1,j9.2,wr (Int.tdiv s4.2.2 2)))) else (some (Fl.ex s4.1))
def YS (p0 : Int) (p1 : UInt8) (p2 : UInt8) : Option (UInt8) :=
 (ZB (Xc p0) (0,bI p1,bI p2)).bind fun j1=>some (Zy j1)
theorem Up (w0 : World) (p0 : Int) (p1 : UInt8) (p2 : UInt8) (r : UInt8) (hF : YS p0 p1 p2 = some r) :
  Calls Tryz.prog 208 [vI p0,vB p1,vB p2].toArray w0 (Rt w0 (vB r)):=by
 refine ce Tryz.func208 ?_
 intro a hE
 have hM:=M.start w0
 unfold YS at hF
 refine Zb (Zc hE rfl fun a hE=>Ze (Zb (Zd hE rfl fun a hE=>Bu hE Za ld rfl Tryz.underlying5 Tryz.underlying2 fun a hE=>Zc hE rfl fun a hE=>Zc hE rfl fun a hE=>Ze (wp_seq (Zb (Zd hE rfl fun a hE=>Bu hE Za ld rfl Tryz.underlying5 Tryz.underlying2 fun a hE=>Zc hE rfl fun a hE=>Ze ?_))))))
 obtain ⟨j1,hl2,hF3⟩:=bind_some hF
 refine ZI (fun a w=>Env 33 a [(7,vI j1)] ∧ M (Old w0) w0 w []) ?_ ?_
 ·skip
  refine wp_block ?_
  refine ZD (fun (s4 : Int × Int × Int) a w=>Env 33 a [(0,vI p0),(7,vI s4.1),(8,vI s4.2.1),(9,vI s4.2.2)] ∧ M (Old w0) w0 w []) hl2 ⟨hE.sub ⟨rfl,rfl,rfl,rfl,trivial⟩,hM⟩ ?_
  rintro s4 a w ⟨hE,hM⟩ o7 hs5 hx6
  unfold Xc at hs5
  refine wp_seq (Zb (Zd hE rfl fun a hE=>Zg hE rfl rfl rfl fun a hE=>Ze ?_))
  refine Zm hE rfl ?_ ?_
  ·intro hb8
   have hs5:=Zt hs5 hb8
   refine wp_skip (Zq ?_)
   obtain ⟨j9,hl10,hF11⟩:=bind_some hs5
   refine ZQ (fun a w=>Env 33 a [(0,vI p0),(7,vI j9.1),(8,vI j9.2),(9,vI s4.2.2)] ∧ M (Old w0) w0 w []) ?_ ?_
   ·skip
    refine wp_block ?_
    obtain ⟨j12,hl13,hF14⟩:=bind_some hl10
    refine ZQ (fun a w=>Env 33 a [(0,vI p0),(7,vI j12),(8,vI s4.2.1),(9,vI s4.2.2)] ∧ M (Old w0) w0 w []) ?_ ?_
    ·skip
     refine Zb (Zd hE rfl fun a hE=>Zg hE rfl rfl (QJ _ _ (by decide)) fun a hE=>Zg hE rfl rfl rfl fun a hE=>Ze ?_)
     refine Zm hE rfl ?_ ?_
     ·intro hb15
      have hl13:=Zt hl13 hb15
      refine wp_region_lit (Zd hE rfl fun a hE=>Zd hE rfl fun a hE=>Zg hE rfl rfl rfl fun a hE=>Zc hE rfl fun a hE=>Zh ?_)
      obtain rfl:=Option.some.inj hl13
      refine Zj ?_
      exact ⟨hE.sub ⟨rfl,rfl,rfl,rfl,trivial⟩,hM⟩
     ·intro hb15
      have hl13:=Zu hl13 hb15
      refine wp_skip ?_
      obtain rfl:=Option.some.inj hl13
      refine Zj ?_
      exact ⟨hE.sub ⟨rfl,rfl,rfl,rfl,trivial⟩,hM⟩
    ·skip
     rintro a w ⟨hE,hM⟩
     refine Zb (Zd hE rfl fun a hE=>Zg hE rfl rfl rfl fun a hE=>Zc hE rfl fun a hE=>Ze (Zb (Zd hE rfl fun a hE=>Zg hE rfl rfl rfl fun a hE=>Ze ?_)))
     obtain ⟨j18,hl19,hF20⟩:=bind_some hF14
     refine ZI (fun a w=>Env 33 a [(0,vI p0),(7,vI j12),(8,vI j18),(9,vI s4.2.2)] ∧ M (Old w0) w0 w []) ?_ ?_
     ·skip
      refine Zm hE rfl ?_ ?_
      ·intro hb21
       have hl19:=Zt hl19 hb21
       refine wp_region_lit (Zd hE rfl fun a hE=>Zd hE rfl fun a hE=>Zg hE rfl rfl rfl fun a hE=>Zc hE rfl fun a hE=>Zh ?_)
       obtain rfl:=Option.some.inj hl19
       refine Zj ?_
       exact ⟨hE.sub ⟨rfl,rfl,rfl,rfl,trivial⟩,hM⟩
      ·intro hb21
       have hl19:=Zu hl19 hb21
       refine wp_skip ?_
       obtain rfl:=Option.some.inj hl19
       refine Zj ?_
       exact ⟨hE.sub ⟨rfl,rfl,rfl,rfl,trivial⟩,hM⟩
     ·skip
      rintro a w ⟨hE,hM⟩
      refine Z2 ?_
      obtain rfl:=Option.some.inj hF20
      refine Zj ?_
      exact ⟨hE.sub ⟨rfl,rfl,rfl,rfl,trivial⟩,hM⟩
   ·skip
    rintro a w ⟨hE,hM⟩
    refine wp_region_lit (Zd hE rfl fun a hE=>Zg hE rfl rfl (zV _ _ (by decide)) fun a hE=>Zc hE rfl fun a hE=>Zh (Zj ?_))
    exact ⟨_,(ois hF11),hE.sub ⟨rfl,rfl,rfl,rfl,trivial⟩,hM⟩
  ·intro hb8
   have hs5:=Zu hs5 hb8
   refine wp_exit (Zl (Zl (Z3 ?_)))
   obtain rfl:=hx6 _ (ois hs5)
   refine Zj ?_
   exact ⟨hE.sub ⟨rfl,trivial⟩,hM⟩
 ·skip
  rintro a w ⟨hE,hM⟩
  refine Zq (Zb (Zd hE rfl fun a hE=>Yj hE Za ld rfl Tryz.underlying2 Tryz.underlying5 fun a hE=>Zc hE rfl fun a hE=>Ze ?_))
  obtain rfl:=Option.some.inj hF3
  exact wp_ret (kr1 hE rfl rfl hM.kept)
def VR (p0 : Int) (s16 : UInt8 × UInt8 × Int) : Option (Fl (UInt8 × UInt8 × Int) UInt8) :=
 if (decide (s16.2.2 > 0)) = true then (((if ((Int.tmod s16.2.2 2) == 1) = true then ((YS p0 s16.1 s16.2.1).bind fun r28=>some r28) else (some s16.1) : Option (UInt8)).bind fun j24=>(YS p0 s16.2.1 s16.2.1).bind fun r32=>some (j24,r32) : Option (UInt8 × UInt8)).bind fun j21=>some (Fl.nx (j21.1,j21.2,wr (Int.tdiv s16.2.2 2)))) else (some (Fl.ex s16.1))
def VQ (p0 : Int) (p1 : Int) (s8 : (Vector UInt8 256) × Int) : Option (Fl ((Vector UInt8 256) × Int) (Vector UInt8 256)) :=
 if (decide (s8.2 < 256)) = true then ((ZB (VR p0) (1,Zy s8.2,p1)).bind fun j13=>(ZH s8.1 s8.2).bind fun x37=>some (Fl.nx ((s8.1.setIfInBounds (s8.2).toNat j13),wr (s8.2 + 1)))) else (some (Fl.ex s8.1))
def Ur (p0 : Int) (p1 : Int) : Option ((Vector UInt8 256)) :=
 (ZB (VQ p0 p1) ((Vector.replicate 256 (0 : UInt8)),0)).bind fun j5=>some j5
theorem Bd (w0 : World) (p0 : Int) (p1 : Int) (r : (Vector UInt8 256)) (hF : Ur p0 p1 = some r) :
  Calls Tryz.prog 176 [vI p0,vI p1].toArray w0 (Rt w0 (Value.agg (enc r).toArray)):=by
 refine ce Tryz.func176 ?_
 intro a hE
 have hM:=M.start w0
 unfold Ur at hF
 refine Zb (ZA hE hM XD fun b1 w a hM hE=>Ze (Zb (XF (parts:=[]) (vs:=[]) (cs:=enc (Vector.replicate 256 (0 : UInt8))) hE Za ld rfl rfl XD rfl ty5 YZ fun a hE=>ZA hE hM XD fun b3 w a hM hE=>Zk (seg:=enc (Vector.replicate 256 (0 : UInt8))) (cs':=enc (Vector.replicate 256 (0 : UInt8))) hE hM Za rfl rfl rfl XD (Flat.len _) (zle flq) (Flat.cell _) (Zi flq) fun w a hM hE=>Ze (wp_seq (Zb (Zc hE rfl fun a hE=>Ze ?_))))))
 obtain ⟨j5,hl6,hF7⟩:=bind_some hF
 refine ZI (fun a w=>Env 37 a [(4,(ptr b1 0)),(5,(ptr b3 0))] ∧ M (Old w0) w0 w [raw b3 (enc j5),raw b1 (enc (Vector.replicate 256 (0 : UInt8)))]) ?_ ?_
 ·skip
  refine wp_block ?_
  refine ZD (fun (s8 : (Vector UInt8 256) × Int) a w=>Env 37 a [(0,vI p0),(1,vI p1),(4,(ptr b1 0)),(5,(ptr b3 0)),(6,vI s8.2)] ∧ M (Old w0) w0 w [raw b3 (enc s8.1),raw b1 (enc (Vector.replicate 256 (0 : UInt8)))]) hl6 ⟨hE.sub ⟨rfl,rfl,rfl,rfl,rfl,trivial⟩,hM⟩ ?_
  rintro s8 a w ⟨hE,hM⟩ o11 hs9 hx10
  unfold VQ at hs9
  refine wp_seq (Zb (Zd hE rfl fun a hE=>Zg hE rfl rfl rfl fun a hE=>Ze ?_))
  refine Zm hE rfl ?_ ?_
  ·intro hb12
   have hs9:=Zt hs9 hb12
   refine wp_skip (Zq (wp_seq (wp_block (Zb (Zd hE rfl fun a hE=>Yj hE Za ld rfl Tryz.underlying3 Tryz.underlying5 fun a hE=>Zc hE rfl fun a hE=>Zc hE rfl fun a hE=>Ze (wp_seq (Zb (Zd hE rfl fun a hE=>Zc hE rfl fun a hE=>Ze ?_))))))))
   obtain ⟨j13,hl14,hF15⟩:=bind_some hs9
   refine ZI (fun a w=>Env 37 a [(0,vI p0),(1,vI p1),(4,(ptr b1 0)),(5,(ptr b3 0)),(6,vI s8.2),(7,vB j13)] ∧ M (Old w0) w0 w [raw b3 (enc s8.1),raw b1 (enc (Vector.replicate 256 (0 : UInt8)))]) ?_ ?_
   ·skip
    refine wp_block ?_
    refine ZD (fun (s16 : UInt8 × UInt8 × Int) a w=>Env 37 a [(0,vI p0),(1,vI p1),(4,(ptr b1 0)),(5,(ptr b3 0)),(6,vI s8.2),(7,vB s16.1),(8,vB s16.2.1),(9,vI s16.2.2)] ∧ M (Old w0) w0 w [raw b3 (enc s8.1),raw b1 (enc (Vector.replicate 256 (0 : UInt8)))]) hl14 ⟨hE.sub ⟨rfl,rfl,rfl,rfl,rfl,rfl,rfl,rfl,trivial⟩,hM⟩ ?_
    rintro s16 a w ⟨hE,hM⟩ o19 hs17 hx18
    unfold VR at hs17
    refine wp_seq (Zb (Zd hE rfl fun a hE=>Zg hE rfl rfl rfl fun a hE=>Ze ?_))
    refine Zm hE rfl ?_ ?_
    ·intro hb20
     have hs17:=Zt hs17 hb20
     refine wp_skip (Zq ?_)
     obtain ⟨j21,hl22,hF23⟩:=bind_some hs17
     refine ZQ (fun a w=>Env 37 a [(0,vI p0),(1,vI p1),(4,(ptr b1 0)),(5,(ptr b3 0)),(6,vI s8.2),(7,vB j21.1),(8,vB j21.2),(9,vI s16.2.2)] ∧ M (Old w0) w0 w [raw b3 (enc s8.1),raw b1 (enc (Vector.replicate 256 (0 : UInt8)))]) ?_ ?_
     ·skip
      refine wp_block ?_
      obtain ⟨j24,hl25,hF26⟩:=bind_some hl22
      refine ZQ (fun a w=>Env 37 a [(0,vI p0),(1,vI p1),(4,(ptr b1 0)),(5,(ptr b3 0)),(6,vI s8.2),(7,vB j24),(8,vB s16.2.1),(9,vI s16.2.2)] ∧ M (Old w0) w0 w [raw b3 (enc s8.1),raw b1 (enc (Vector.replicate 256 (0 : UInt8)))]) ?_ ?_
      ·skip
       refine Zb (Zd hE rfl fun a hE=>Zg hE rfl rfl (QJ _ _ (by decide)) fun a hE=>Zg hE rfl rfl rfl fun a hE=>Ze ?_)
       refine Zm hE rfl ?_ ?_
       ·intro hb27
        have hl25:=Zt hl25 hb27
        refine wp_region_lit (Zd hE rfl fun a hE=>Zd hE rfl fun a hE=>Zd hE rfl ?_); intro a hE
        obtain ⟨r28,e29,hl25⟩:=bind_some hl25
        refine Zx hE rfl yk (Up _ p0 s16.1 s16.2.1 r28 e29) ?_
        rintro v w a ⟨rfl,hK⟩ hE
        have hM:=hM.keep hK
        refine Zc hE rfl fun a hE=>Zh ?_
        obtain rfl:=Option.some.inj hl25
        refine Zj ?_
        exact ⟨hE.sub ⟨rfl,rfl,rfl,rfl,rfl,rfl,rfl,rfl,trivial⟩,hM⟩
       ·intro hb27
        have hl25:=Zu hl25 hb27
        refine wp_skip ?_
        obtain rfl:=Option.some.inj hl25
        refine Zj ?_
        exact ⟨hE.sub ⟨rfl,rfl,rfl,rfl,rfl,rfl,rfl,rfl,trivial⟩,hM⟩
      ·skip
       rintro a w ⟨hE,hM⟩
       refine wp_region_lit (Zd hE rfl fun a hE=>Zd hE rfl fun a hE=>Zd hE rfl ?_); intro a hE
       obtain ⟨r32,e33,hF26⟩:=bind_some hF26
       refine Zx hE rfl yk (Up _ p0 s16.2.1 s16.2.1 r32 e33) ?_
       rintro v w a ⟨rfl,hK⟩ hE
       have hM:=hM.keep hK
       refine Zc hE rfl fun a hE=>Zh (Z2 ?_)
       obtain rfl:=Option.some.inj hF26
       refine Zj ?_
       exact ⟨hE.sub ⟨rfl,rfl,rfl,rfl,rfl,rfl,rfl,rfl,trivial⟩,hM⟩
     ·skip
      rintro a w ⟨hE,hM⟩
      refine wp_region_lit (Zd hE rfl fun a hE=>Zg hE rfl rfl (zV _ _ (by decide)) fun a hE=>Zc hE rfl fun a hE=>Zh (Zj ?_))
      exact ⟨_,(ois hF23),hE.sub ⟨rfl,rfl,rfl,rfl,rfl,rfl,rfl,rfl,trivial⟩,hM⟩
    ·intro hb20
     have hs17:=Zu hs17 hb20
     refine wp_exit (Zl (Zl (Z3 ?_)))
     obtain rfl:=hx18 _ (ois hs17)
     refine Zj ?_
     exact ⟨hE.sub ⟨rfl,rfl,rfl,rfl,rfl,rfl,trivial⟩,hM⟩
   ·skip
    rintro a w ⟨hE,hM⟩
    refine Zq (wp_region_lit (Zd hE rfl fun a hE=>Zd hE rfl ?_)); intro a hE
    obtain ⟨x37,hi36,hF15⟩:=bvx hF15
    refine ZC hE rfl rfl Tryz.underlying157 ty5 hi36.1 fun a hE=>Zk (seg:=[vB j13]) (cs':=enc (s8.1.setIfInBounds (s8.2).toNat j13)) hE hM Za rfl rfl rfl ty5 rfl (ZK (v:=s8.1) (x:=j13) hi36.1) (Flat.cell (j13 : UInt8)) (ZE (v:=s8.1) (x:=j13) hi36.1) fun w a hM hE=>Zh (Z2 (Zq (wp_region_lit (Zd hE rfl fun a hE=>Zg hE rfl rfl rfl fun a hE=>Zc hE rfl fun a hE=>Zh (Zj ?_)))))
    exact ⟨_,(ois hF15),hE.sub ⟨rfl,rfl,rfl,rfl,rfl,trivial⟩,hM⟩
  ·intro hb12
   have hs9:=Zu hs9 hb12
   refine wp_exit (Zl (Zl (Z3 ?_)))
   obtain rfl:=hx10 _ (ois hs9)
   refine Zj ?_
   exact ⟨hE.sub ⟨rfl,rfl,trivial⟩,hM⟩
 ·skip
  rintro a w ⟨hE,hM⟩
  refine Zq (Zb (Zn hE rfl XD rfl hM.rawAt0 (Flat.len _) ?_)); intro a hE
  have hM:=hM.pull1
  refine Zk (seg:=enc j5) (cs':=enc j5) hE hM Za rfl rfl rfl XD (Flat.len _) (zle flq) (Flat.cell _) (Zi flq) fun w a hM hE=>Ze ?_
  obtain rfl:=Option.some.inj hF7
  have hq40 : Yu Tryz.prog _ _ (.cell 4 157) _:=ZJ hE rfl XD rfl hM.rawAt0 (Flat.len _) rfl
  exact wp_ret (ZL hE rfl hq40 ⟨_,rfl,rfl,hM.kept⟩)
def XT (p0 : UInt8) (p1 : Int) : Option (UInt8) :=
 (Xk (IntKind.u64.wrap p1)).bind fun _=>some (Zy (Qn (orI (AG (bI p0) (IntKind.u64.wrap p1)) (Tm (AG (bI p0) (IntKind.u64.wrap p1)) 8)) 255))
theorem Ag (w0 : World) (p0 : UInt8) (p1 : Int) (r : UInt8) (hF : XT p0 p1 = some r) :
  Calls Tryz.prog 209 [vB p0,vI p1].toArray w0 (Rt w0 (vB r)):=by
 refine ce Tryz.func209 ?_
 intro a hE
 have hM:=M.start w0
 unfold XT at hF
 refine Zb (Zc hE rfl fun a hE=>Ze (Zb (Zd hE rfl fun a hE=>Bu hE Za ld rfl Tryz.underlying5 Tryz.underlying2 fun a hE=>Zd hE rfl fun a hE=>Ah hE Za ld rfl Tryz.underlying2 Tryz.underlying229 ?_))); intro a hE
 obtain ⟨_,e1,hF⟩:=bind_some hF
 have e1:=Wx e1
 refine HD hE Za ld rfl rfl (jE _ _ e1) fun a hE=>Zc hE rfl fun a hE=>Ze (Zb (Zd hE rfl fun a hE=>Zd hE rfl fun a hE=>HD hE Za ld rfl rfl (Ji _ _ (by decide)) fun a hE=>Zg hE rfl rfl rfl fun a hE=>Zg hE rfl rfl rfl fun a hE=>Yj hE Za ld rfl Tryz.underlying2 Tryz.underlying5 fun a hE=>Zc hE rfl fun a hE=>Ze ?_))
 obtain rfl:=Option.some.inj hF
 exact wp_ret (kr1 hE rfl rfl hM.kept)
def Ya (p0 : (List Int)) (s8 : (Vector UInt8 256) × Int) (s16 : UInt8 × Int) : Option (Fl (UInt8 × Int) UInt8) :=
 if (decide (s16.2 < (p0.length : Int))) = true then ((idx p0 s16.2).bind fun x21=>(XT (Zy s8.2) x21).bind fun r24=>some (Fl.nx (s16.1 ^^^ r24,wr (s16.2 + 1)))) else (some (Fl.ex s16.1))
def XV (p0 : (List Int)) (p1 : UInt8) (s8 : (Vector UInt8 256) × Int) : Option (Fl ((Vector UInt8 256) × Int) (Vector UInt8 256)) :=
 if (decide (s8.2 < 256)) = true then ((ZB (Ya p0 s8) (p1,0)).bind fun j13=>(ZH s8.1 s8.2).bind fun x28=>some (Fl.nx ((s8.1.setIfInBounds (s8.2).toNat j13),wr (s8.2 + 1)))) else (some (Fl.ex s8.1))
def Wm (p0 : (List Int)) (p1 : UInt8) : Option ((Vector UInt8 256)) :=
 (ZB (XV p0 p1) ((Vector.replicate 256 (0 : UInt8)),0)).bind fun j5=>some j5
theorem KU (w0 : World) (p0 : (List Int)) (v0_1 : Value) (hv0_1 : Ro w0 p0 [v0_1]) (p1 : UInt8) (r : (Vector UInt8 256)) (hF : Wm p0 p1 = some r) :
  Calls Tryz.prog 177 [v0_1,vB p1].toArray w0 (Rt w0 (Value.agg (enc r).toArray)):=by
 refine ce Tryz.func177 ?_
 intro a hE
 have hM:=M.start w0
 unfold Wm at hF
 refine Zb (ZA hE hM XD fun b1 w a hM hE=>Ze (Zb (XF (parts:=[]) (vs:=[]) (cs:=enc (Vector.replicate 256 (0 : UInt8))) hE Za ld rfl rfl XD rfl ty5 YZ fun a hE=>ZA hE hM XD fun b3 w a hM hE=>Zk (seg:=enc (Vector.replicate 256 (0 : UInt8))) (cs':=enc (Vector.replicate 256 (0 : UInt8))) hE hM Za rfl rfl rfl XD (Flat.len _) (zle flq) (Flat.cell _) (Zi flq) fun w a hM hE=>Ze (wp_seq (Zb (Zc hE rfl fun a hE=>Ze ?_))))))
 obtain ⟨j5,hl6,hF7⟩:=bind_some hF
 refine ZI (fun a w=>Env 34 a [(4,(ptr b1 0)),(5,(ptr b3 0))] ∧ M (Old w0) w0 w [raw b3 (enc j5),raw b1 (enc (Vector.replicate 256 (0 : UInt8)))]) ?_ ?_
 ·skip
  refine wp_block ?_
  refine ZD (fun (s8 : (Vector UInt8 256) × Int) a w=>Env 34 a [(0,v0_1),(1,vB p1),(4,(ptr b1 0)),(5,(ptr b3 0)),(6,vI s8.2)] ∧ M (Old w0) w0 w [raw b3 (enc s8.1),raw b1 (enc (Vector.replicate 256 (0 : UInt8)))]) hl6 ⟨hE.sub ⟨rfl,rfl,rfl,rfl,rfl,trivial⟩,hM⟩ ?_
  rintro s8 a w ⟨hE,hM⟩ o11 hs9 hx10
  unfold XV at hs9
  refine wp_seq (Zb (Zd hE rfl fun a hE=>Zg hE rfl rfl rfl fun a hE=>Ze ?_))
  refine Zm hE rfl ?_ ?_
  ·intro hb12
   have hs9:=Zt hs9 hb12
   refine wp_skip (Zq (wp_seq (wp_block (Zb (Zd hE rfl fun a hE=>Zc hE rfl fun a hE=>Ze (wp_seq (Zb (Zc hE rfl fun a hE=>Ze ?_))))))))
   obtain ⟨j13,hl14,hF15⟩:=bind_some hs9
   refine ZI (fun a w=>Env 34 a [(0,v0_1),(1,vB p1),(4,(ptr b1 0)),(5,(ptr b3 0)),(6,vI s8.2),(7,vB j13)] ∧ M (Old w0) w0 w [raw b3 (enc s8.1),raw b1 (enc (Vector.replicate 256 (0 : UInt8)))]) ?_ ?_
   ·skip
    refine wp_block ?_
    refine ZD (fun (s16 : UInt8 × Int) a w=>Env 34 a [(0,v0_1),(1,vB p1),(4,(ptr b1 0)),(5,(ptr b3 0)),(6,vI s8.2),(7,vB s16.1),(8,vI s16.2)] ∧ M (Old w0) w0 w [raw b3 (enc s8.1),raw b1 (enc (Vector.replicate 256 (0 : UInt8)))]) hl14 ⟨hE.sub ⟨rfl,rfl,rfl,rfl,rfl,rfl,rfl,trivial⟩,hM⟩ ?_
    rintro s16 a w ⟨hE,hM⟩ o19 hs17 hx18
    unfold Ya at hs17
    refine wp_seq (Zb (Zd hE rfl fun a hE=>Zd hE rfl fun a hE=>Yb hE rfl Tryz.underlying24 (hM.rd hv0_1) fun a hE=>Zg hE rfl rfl rfl fun a hE=>Ze ?_))
    refine Zm hE rfl ?_ ?_
    ·intro hb20
     have hs17:=Zt hs17 hb20
     refine wp_skip (Zq (wp_seq (wp_block (wp_region_lit (Zd hE rfl fun a hE=>Zd hE rfl fun a hE=>Yj hE Za ld rfl Tryz.underlying3 Tryz.underlying5 fun a hE=>Zd hE rfl fun a hE=>Zd hE rfl ?_))))); intro a hE
     obtain ⟨x21,hi23,hs17⟩:=bix hs17
     refine ZN hE rfl rfl Tryz.underlying24 ty2 (hM.rd hv0_1) hi23.1 fun a hE=>Zw (v:=(vI x21)) hE rfl ty2 rfl (X0 (hM.rd hv0_1) hi23.2) ?_; intro a hE
     obtain ⟨r24,e25,hs17⟩:=bind_some hs17
     refine Zx hE rfl (cbm Tryz.func209) (Ag _ (Zy s8.2) x21 r24 e25) ?_
     rintro v w a ⟨rfl,hK⟩ hE
     have hM:=hM.keep hK
     refine Zg hE rfl rfl (Uy s16.1 r24) fun a hE=>Zc hE rfl fun a hE=>Zh (Z2 (Zq (wp_region_lit (Zd hE rfl fun a hE=>Zg hE rfl rfl rfl fun a hE=>Zc hE rfl fun a hE=>Zh (Zj ?_)))))
     exact ⟨_,(ois hs17),hE.sub ⟨rfl,rfl,rfl,rfl,rfl,rfl,rfl,trivial⟩,hM⟩
    ·intro hb20
     have hs17:=Zu hs17 hb20
     refine wp_exit (Zl (Zl (Z3 ?_)))
     obtain rfl:=hx18 _ (ois hs17)
     refine Zj ?_
     exact ⟨hE.sub ⟨rfl,rfl,rfl,rfl,rfl,rfl,trivial⟩,hM⟩
   ·skip
    rintro a w ⟨hE,hM⟩
    refine Zq (wp_region_lit (Zd hE rfl fun a hE=>Zd hE rfl ?_)); intro a hE
    obtain ⟨x28,hi27,hF15⟩:=bvx hF15
    refine ZC hE rfl rfl Tryz.underlying157 ty5 hi27.1 fun a hE=>Zk (seg:=[vB j13]) (cs':=enc (s8.1.setIfInBounds (s8.2).toNat j13)) hE hM Za rfl rfl rfl ty5 rfl (ZK (v:=s8.1) (x:=j13) hi27.1) (Flat.cell (j13 : UInt8)) (ZE (v:=s8.1) (x:=j13) hi27.1) fun w a hM hE=>Zh (Z2 (Zq (wp_region_lit (Zd hE rfl fun a hE=>Zg hE rfl rfl rfl fun a hE=>Zc hE rfl fun a hE=>Zh (Zj ?_)))))
    exact ⟨_,(ois hF15),hE.sub ⟨rfl,rfl,rfl,rfl,rfl,trivial⟩,hM⟩
  ·intro hb12
   have hs9:=Zu hs9 hb12
   refine wp_exit (Zl (Zl (Z3 ?_)))
   obtain rfl:=hx10 _ (ois hs9)
   refine Zj ?_
   exact ⟨hE.sub ⟨rfl,rfl,trivial⟩,hM⟩
 ·skip
  rintro a w ⟨hE,hM⟩
  refine Zq (Zb (Zn hE rfl XD rfl hM.rawAt0 (Flat.len _) ?_)); intro a hE
  have hM:=hM.pull1
  refine Zk (seg:=enc j5) (cs':=enc j5) hE hM Za rfl rfl rfl XD (Flat.len _) (zle flq) (Flat.cell _) (Zi flq) fun w a hM hE=>Ze ?_
  obtain rfl:=Option.some.inj hF7
  have hq31 : Yu Tryz.prog _ _ (.cell 4 157) _:=ZJ hE rfl XD rfl hM.rawAt0 (Flat.len _) rfl
  exact wp_ret (ZL hE rfl hq31 ⟨_,rfl,rfl,hM.kept⟩)
def Uj (p0 : (Vector UInt8 256)) (p1 : (Vector UInt8 256)) (s12 : (Vector UInt8 256) × Int) : Option (Fl ((Vector UInt8 256) × Int) (Vector UInt8 256)) :=
 if (decide (s12.2 < 256)) = true then ((ZH p0 s12.2).bind fun x18=>(ZH p1 (bI x18)).bind fun x21=>(ZH s12.1 s12.2).bind fun x24=>some (Fl.nx ((s12.1.setIfInBounds (s12.2).toNat x21),wr (s12.2 + 1)))) else (some (Fl.ex s12.1))
def UN (p0 : (Vector UInt8 256)) (p1 : (Vector UInt8 256)) : Option ((Vector UInt8 256)) :=
 (ZB (Uj p0 p1) ((Vector.replicate 256 (0 : UInt8)),0)).bind fun j9=>some j9
theorem BI (w0 : World) (p0 : (Vector UInt8 256)) (p1 : (Vector UInt8 256)) (r : (Vector UInt8 256)) (hF : UN p0 p1 = some r) :
  Calls Tryz.prog 175 [(Value.agg (enc p0).toArray),(Value.agg (enc p1).toArray)].toArray w0 (Rt w0 (Value.agg (enc r).toArray)):=by
 refine ce Tryz.func175 ?_
 intro a hE
 have hM:=M.start w0
 unfold UN at hF
 refine Zb (ZV (cs:=enc p0) hE hM Za ld rfl rfl fun b1 w a hM hE=>ZV (cs:=enc p1) hE hM Za ld rfl rfl fun b3 w a hM hE=>ZA hE hM XD fun b5 w a hM hE=>Ze (Zb (XF (parts:=[]) (vs:=[]) (cs:=enc (Vector.replicate 256 (0 : UInt8))) hE Za ld rfl rfl XD rfl ty5 YZ fun a hE=>ZA hE hM XD fun b7 w a hM hE=>Zk (seg:=enc (Vector.replicate 256 (0 : UInt8))) (cs':=enc (Vector.replicate 256 (0 : UInt8))) hE hM Za rfl rfl rfl XD (Flat.len _) (zle flq) (Flat.cell _) (Zi flq) fun w a hM hE=>Ze (wp_seq (Zb (Zc hE rfl fun a hE=>Ze ?_))))))
 obtain ⟨j9,hl10,hF11⟩:=bind_some hF
 refine ZI (fun a w=>Env 20 a [(4,(ptr b5 0)),(5,(ptr b7 0))] ∧ M (Old w0) w0 w [raw b7 (enc j9),raw b5 (enc (Vector.replicate 256 (0 : UInt8)))]) ?_ ?_
 ·skip
  refine wp_block ?_
  refine ZD (fun (s12 : (Vector UInt8 256) × Int) a w=>Env 20 a [(2,(ptr b1 0)),(3,(ptr b3 0)),(4,(ptr b5 0)),(5,(ptr b7 0)),(6,vI s12.2)] ∧ M (Old w0) w0 w [raw b7 (enc s12.1),raw b5 (enc (Vector.replicate 256 (0 : UInt8))),raw b3 (enc p1),raw b1 (enc p0)]) hl10 ⟨hE.sub ⟨rfl,rfl,rfl,rfl,rfl,trivial⟩,hM⟩ ?_
  rintro s12 a w ⟨hE,hM⟩ o15 hs13 hx14
  unfold Uj at hs13
  refine wp_seq (Zb (Zd hE rfl fun a hE=>Zg hE rfl rfl rfl fun a hE=>Ze ?_))
  refine Zm hE rfl ?_ ?_
  ·intro hb16
   have hs13:=Zt hs13 hb16
   refine wp_skip (Zq (wp_seq (wp_block (wp_region_lit (Zd hE rfl fun a hE=>Zd hE rfl ?_))))); intro a hE
   obtain ⟨x18,hi17,hs13⟩:=bvx hs13
   refine ZC hE rfl rfl Tryz.underlying157 ty5 hi17.1 fun a hE=>Zw (v:=(vB x18)) hE rfl ty5 rfl (At.vec hM.rawAt3 hi17.2) ?_; intro a hE
   obtain ⟨x21,hi20,hs13⟩:=bvx hs13
   refine ZC hE rfl rfl Tryz.underlying157 ty5 hi20.1 fun a hE=>Zw (v:=(vB x21)) hE rfl ty5 rfl (At.vec hM.rawAt2 hi20.2) ?_; intro a hE
   obtain ⟨x24,hi23,hs13⟩:=bvx hs13
   refine ZC hE rfl rfl Tryz.underlying157 ty5 hi23.1 fun a hE=>Zk (seg:=[vB x21]) (cs':=enc (s12.1.setIfInBounds (s12.2).toNat x21)) hE hM Za rfl rfl rfl ty5 rfl (ZK (v:=s12.1) (x:=x21) hi23.1) (Flat.cell (x21 : UInt8)) (ZE (v:=s12.1) (x:=x21) hi23.1) fun w a hM hE=>Zh (Z2 (Zq (wp_region_lit (Zd hE rfl fun a hE=>Zg hE rfl rfl rfl fun a hE=>Zc hE rfl fun a hE=>Zh (Zj ?_)))))
   exact ⟨_,(ois hs13),hE.sub ⟨rfl,rfl,rfl,rfl,rfl,trivial⟩,hM⟩
  ·intro hb16
   have hs13:=Zu hs13 hb16
   refine wp_exit (Zl (Zl (Z3 ?_)))
   obtain rfl:=hx14 _ (ois hs13)
   refine Zj ?_
   have hM:=M.fst (l:=[_,_]) hM.pull1.pull1
   exact ⟨hE.sub ⟨rfl,rfl,trivial⟩,hM⟩
 ·skip
  rintro a w ⟨hE,hM⟩
  refine Zq (Zb (Zn hE rfl XD rfl hM.rawAt0 (Flat.len _) ?_)); intro a hE
  have hM:=hM.pull1
  refine Zk (seg:=enc j9) (cs':=enc j9) hE hM Za rfl rfl rfl XD (Flat.len _) (zle flq) (Flat.cell _) (Zi flq) fun w a hM hE=>Ze ?_
  obtain rfl:=Option.some.inj hF11
  have hq27 : Yu Tryz.prog _ _ (.cell 4 157) _:=ZJ hE rfl XD rfl hM.rawAt0 (Flat.len _) rfl
  exact wp_ret (ZL hE rfl hq27 ⟨_,rfl,rfl,hM.kept⟩)
def U4 (p0 : Int) (s4 : UInt8 × Int × UInt8) : Option (Fl (UInt8 × Int × UInt8) UInt8) :=
 if (decide (s4.2.1 > 0)) = true then (((if ((Int.tmod s4.2.1 2) == 1) = true then ((YS p0 s4.2.2 s4.1).bind fun r16=>some r16) else (some s4.2.2) : Option (UInt8)).bind fun j12=>(YS p0 s4.1 s4.1).bind fun r20=>some (r20,j12) : Option (UInt8 × UInt8)).bind fun j9=>some (Fl.nx (j9.1,wr (Int.tdiv s4.2.1 2),j9.2))) else (some (Fl.ex s4.2.2))
def Vb (p0 : Int) (p1 : UInt8) (p2 : Int) : Option (UInt8) :=
 (ZB (U4 p0) (p1,p2,1)).bind fun j1=>some j1
theorem H6 (w0 : World) (p0 : Int) (p1 : UInt8) (p2 : Int) (r : UInt8) (hF : Vb p0 p1 p2 = some r) :
  Calls Tryz.prog 210 [vI p0,vB p1,vI p2].toArray w0 (Rt w0 (vB r)):=by
 refine ce Tryz.func210 ?_
 intro a hE
 have hM:=M.start w0
 unfold Vb at hF
 refine Zb (Zc hE rfl fun a hE=>Ze (Zb (Zc hE rfl fun a hE=>Ze ?_)))
 obtain ⟨j1,hl2,hF3⟩:=bind_some hF
 refine ZQ (fun a w=>Env 24 a [(7,vB j1)] ∧ M (Old w0) w0 w []) ?_ ?_
 ·skip
  refine wp_block ?_
  refine ZD (fun (s4 : UInt8 × Int × UInt8) a w=>Env 24 a [(0,vI p0),(1,vB s4.1),(2,vI s4.2.1),(7,vB s4.2.2)] ∧ M (Old w0) w0 w []) hl2 ⟨hE.sub ⟨rfl,rfl,rfl,rfl,trivial⟩,hM⟩ ?_
  rintro s4 a w ⟨hE,hM⟩ o7 hs5 hx6
  unfold U4 at hs5
  refine wp_seq (Zb (Zd hE rfl fun a hE=>Zg hE rfl rfl rfl fun a hE=>Ze ?_))
  refine Zm hE rfl ?_ ?_
  ·intro hb8
   have hs5:=Zt hs5 hb8
   refine wp_skip (Zq ?_)
   obtain ⟨j9,hl10,hF11⟩:=bind_some hs5
   refine ZQ (fun a w=>Env 24 a [(0,vI p0),(1,vB j9.1),(2,vI s4.2.1),(7,vB j9.2)] ∧ M (Old w0) w0 w []) ?_ ?_
   ·skip
    refine wp_block ?_
    obtain ⟨j12,hl13,hF14⟩:=bind_some hl10
    refine ZQ (fun a w=>Env 24 a [(0,vI p0),(1,vB s4.1),(2,vI s4.2.1),(7,vB j12)] ∧ M (Old w0) w0 w []) ?_ ?_
    ·skip
     refine Zb (Zd hE rfl fun a hE=>Zg hE rfl rfl (QJ _ _ (by decide)) fun a hE=>Zg hE rfl rfl rfl fun a hE=>Ze ?_)
     refine Zm hE rfl ?_ ?_
     ·intro hb15
      have hl13:=Zt hl13 hb15
      refine wp_region_lit (Zd hE rfl fun a hE=>Zd hE rfl fun a hE=>Zd hE rfl ?_); intro a hE
      obtain ⟨r16,e17,hl13⟩:=bind_some hl13
      refine Zx hE rfl yk (Up _ p0 s4.2.2 s4.1 r16 e17) ?_
      rintro v w a ⟨rfl,hK⟩ hE
      have hM:=hM.keep hK
      refine Zc hE rfl fun a hE=>Zh ?_
      obtain rfl:=Option.some.inj hl13
      refine Zj ?_
      exact ⟨hE.sub ⟨rfl,rfl,rfl,rfl,trivial⟩,hM⟩
     ·intro hb15
      have hl13:=Zu hl13 hb15
      refine wp_skip ?_
      obtain rfl:=Option.some.inj hl13
      refine Zj ?_
      exact ⟨hE.sub ⟨rfl,rfl,rfl,rfl,trivial⟩,hM⟩
    ·skip
     rintro a w ⟨hE,hM⟩
     refine wp_region_lit (Zd hE rfl fun a hE=>Zd hE rfl fun a hE=>Zd hE rfl ?_); intro a hE
     obtain ⟨r20,e21,hF14⟩:=bind_some hF14
     refine Zx hE rfl yk (Up _ p0 s4.1 s4.1 r20 e21) ?_
     rintro v w a ⟨rfl,hK⟩ hE
     have hM:=hM.keep hK
     refine Zc hE rfl fun a hE=>Zh (Z2 ?_)
     obtain rfl:=Option.some.inj hF14
     refine Zj ?_
     exact ⟨hE.sub ⟨rfl,rfl,rfl,rfl,trivial⟩,hM⟩
   ·skip
    rintro a w ⟨hE,hM⟩
    refine wp_region_lit (Zd hE rfl fun a hE=>Zg hE rfl rfl (zV _ _ (by decide)) fun a hE=>Zc hE rfl fun a hE=>Zh (Zj ?_))
    exact ⟨_,(ois hF11),hE.sub ⟨rfl,rfl,rfl,rfl,trivial⟩,hM⟩
  ·intro hb8
   have hs5:=Zu hs5 hb8
   refine wp_exit (Zl (Zl (Z3 ?_)))
   obtain rfl:=hx6 _ (ois hs5)
   refine Zj ?_
   exact ⟨hE.sub ⟨rfl,trivial⟩,hM⟩
 ·skip
  rintro a w ⟨hE,hM⟩
  refine Zb (Zd hE rfl fun a hE=>Zc hE rfl fun a hE=>Ze ?_)
  obtain rfl:=Option.some.inj hF3
  exact wp_ret (kr1 hE rfl rfl hM.kept)
def Vt (p0 : Int) (p1 : UInt8) : Option (UInt8) :=
 (Vb p0 p1 254).bind fun r1=>some r1
theorem AE (w0 : World) (p0 : Int) (p1 : UInt8) (r : UInt8) (hF : Vt p0 p1 = some r) :
  Calls Tryz.prog 178 [vI p0,vB p1].toArray w0 (Rt w0 (vB r)):=by
 refine ce Tryz.func178 ?_
 intro a hE
 have hM:=M.start w0
 unfold Vt at hF
 refine Zb (Zc hE rfl fun a hE=>Ze (Zb (Zd hE rfl fun a hE=>Zd hE rfl ?_))); intro a hE
 obtain ⟨r1,e2,hF⟩:=bind_some hF
 refine Zx hE rfl (cbm Tryz.func210) (H6 _ p0 p1 254 r1 e2) ?_
 rintro v w a ⟨rfl,hK⟩ hE
 have hM:=hM.keep hK
 refine Zc hE rfl fun a hE=>Ze ?_
 obtain rfl:=Option.some.inj hF
 exact wp_ret (kr1 hE rfl rfl hM.kept)
def U3 (s16 : (Vector (Vector UInt8 4) 4) × Int) (s24 : (Vector (Vector UInt8 4) 4) × Int) : Option (Fl ((Vector (Vector UInt8 4) 4) × Int) (Vector (Vector UInt8 4) 4)) :=
 if (decide (s24.2 < 4)) = true then ((Vt 285 (Zy (HJ s16.2 (wr (4 + s24.2))))).bind fun r30=>(ZH s24.1 s16.2).bind fun x33=>(ZH x33 s24.2).bind fun x36=>some (Fl.nx ((s24.1.setIfInBounds (s16.2).toNat (x33.setIfInBounds (s24.2).toNat r30)),wr (s24.2 + 1)))) else (some (Fl.ex s24.1))
def U7 (s16 : (Vector (Vector UInt8 4) 4) × Int) : Option (Fl ((Vector (Vector UInt8 4) 4) × Int) (Vector (Vector UInt8 4) 4)) :=
 if (decide (s16.2 < 4)) = true then ((ZB (U3 s16) (s16.1,0)).bind fun j21=>some (Fl.nx (j21,wr (s16.2 + 1)))) else (some (Fl.ex s16.1))
def Tb (s43 : (Vector UInt8 16) × Int) : Option (Fl ((Vector UInt8 16) × Int) (Vector UInt8 16)) :=
 if (decide (s43.2 < 16)) = true then ((ZH s43.1 s43.2).bind fun x49=>some (Fl.nx ((s43.1.setIfInBounds (s43.2).toNat (Zy (Int.tmod (wr ((wr (13 * s43.2)) + 4)) 16))),wr (s43.2 + 1)))) else (some (Fl.ex s43.1))
def Ue (p0 : Int) : Option (GCipher) :=
 (Ur 285 254).bind fun r5=>(Wm ([0,1,4] : List Int) 90).bind fun r9=>(UN r5 r9).bind fun r11=>(ZB (U7) ((Vector.replicate 4 (Vector.replicate 4 (0 : UInt8))),0)).bind fun j13=>(ZB (Tb) ((Vector.replicate 16 (0 : UInt8)),0)).bind fun j40=>some (⟨285,r11,j13,j40,p0⟩ : GCipher)
theorem Bp (w0 : World) (p0 : Int) (r : GCipher) (hF : Ue p0 = some r) :
  Calls Tryz.prog 125 [vI p0].toArray w0 (Rt w0 (Value.agg (enc r).toArray)):=by
 refine ce Tryz.func125 ?_
 intro a hE
 have hM:=M.start w0
 unfold Ue at hF
 refine Zb (ZA hE hM V0 fun b1 w a hM hE=>Ze (Zb (Zd hE rfl fun a hE=>Wl (parts:=[(0,.const (vI 285)),(4,.tmp 7)]) (vs:=[(0,vI 285),(4,vI p0)]) (cs:=cat [[vI 285],enc (Vector.replicate 256 (0 : UInt8)),enc (Vector.replicate 4 (Vector.replicate 4 (0 : UInt8))),enc (Vector.replicate 16 (0 : UInt8)),[vI p0]]) hE Za ld rfl rfl V0 pl163 (Ym (pre:=[]) (seg:=[vI 0]) (seg':=[vI 285]) (post:=[enc (Vector.replicate 256 (0 : UInt8)),enc (Vector.replicate 4 (Vector.replicate 4 (0 : UInt8))),enc (Vector.replicate 16 (0 : UInt8)),[vI 0]]) rfl cl0 rfl rfl rfl (Ym (pre:=[[vI 285],enc (Vector.replicate 256 (0 : UInt8)),enc (Vector.replicate 4 (Vector.replicate 4 (0 : UInt8))),enc (Vector.replicate 16 (0 : UInt8))]) (seg:=[vI 0]) (seg':=[vI p0]) (post:=[]) rfl ck rfl rfl rfl Uq)) fun a hE=>ZA hE hM V0 fun b3 w a hM hE=>Zk (seg:=cat [[vI 285],enc (Vector.replicate 256 (0 : UInt8)),enc (Vector.replicate 4 (Vector.replicate 4 (0 : UInt8))),enc (Vector.replicate 16 (0 : UInt8)),[vI p0]]) (cs':=cat [[vI 285],enc (Vector.replicate 256 (0 : UInt8)),enc (Vector.replicate 4 (Vector.replicate 4 (0 : UInt8))),enc (Vector.replicate 16 (0 : UInt8)),[vI p0]]) hE hM Za rfl rfl rfl V0 cq (Nat.le_of_eq ((Nat.zero_add _).trans (Eq.trans cq (Eq.symm cq)))) (ZX (cc1 (Flat.cell (285 : Int)) (cc1 (Flat.cell _) (cc1 (Flat.cell _) (cc1 (Flat.cell _) (cc1 (Flat.cell (p0 : Int)) cc0)))))) (Zi (Eq.trans cq (Eq.symm cq))) fun w a hM hE=>Ze (Zb ?_))))
 obtain ⟨r5,e6,hF⟩:=bind_some hF
 refine Zx hE rfl (cbm Tryz.func176) (Bd _ 285 254 r5 e6) ?_
 rintro v w a ⟨rfl,hK⟩ hE
 have hM:=hM.keep hK
 refine Yi (xs:=[.const (vI 0),.const (vI 1),.const (vI 4)]) (l:=([0,1,4] : List Int)) (vs:=[vI 0,vI 1,vI 4]) hE hM Za ld rfl rfl Tryz.underlying24 ty2 rfl (by decide) rfl ?_; intro u7 w a hM hE
 obtain ⟨r9,e10,hF⟩:=bind_some hF
 refine Zx hE rfl (cbm Tryz.func177) (KU _ ([0,1,4] : List Int) u7 (hM.sl (pre:=[]) noB) 90 r9 e10) ?_
 rintro v w a ⟨rfl,hK⟩ hE
 have hM:=hM.keep hK
 obtain ⟨r11,e12,hF⟩:=bind_some hF
 refine Zx hE rfl (cbm Tryz.func175) (BI _ r5 r9 r11 e12) ?_
 rintro v w a ⟨rfl,hK⟩ hE
 have hM:=hM.keep hK
 refine Zf hE rfl (KI) ?_; intro a hE
 have hM:=hM.pull1
 refine Zk (seg:=enc r11) hE hM Za rfl rfl rfl XD (Flat.len _) (YK (pre:=[[vI 285]]) ck flq) (Flat.cell _) (ZR (pre:=[[vI 285]]) ck flq) fun w a hM hE=>Ze (wp_seq (Zb (Zc hE rfl fun a hE=>Ze ?_)))
 obtain ⟨j13,hl14,hF15⟩:=bind_some hF
 refine ZI (fun a w=>Env 46 a [(2,(ptr b1 0)),(3,(ptr b3 0))] ∧ M (Old w0) w0 w [raw b3 (cat [[vI 285],enc r11,enc j13,enc (Vector.replicate 16 (0 : UInt8)),[vI p0]]),raw b1 (cat [[vI 0],enc (Vector.replicate 256 (0 : UInt8)),enc (Vector.replicate 4 (Vector.replicate 4 (0 : UInt8))),enc (Vector.replicate 16 (0 : UInt8)),[vI 0]])]) ?_ ?_
 ·skip
  refine wp_block ?_
  have hM:=M.fst (l:=[_,_]) hM.pull2.pull1
  refine ZD (fun (s16 : (Vector (Vector UInt8 4) 4) × Int) a w=>Env 46 a [(2,(ptr b1 0)),(3,(ptr b3 0)),(4,vI s16.2)] ∧ M (Old w0) w0 w [raw b3 (cat [[vI 285],enc r11,enc s16.1,enc (Vector.replicate 16 (0 : UInt8)),[vI p0]]),raw b1 (cat [[vI 0],enc (Vector.replicate 256 (0 : UInt8)),enc (Vector.replicate 4 (Vector.replicate 4 (0 : UInt8))),enc (Vector.replicate 16 (0 : UInt8)),[vI 0]])]) hl14 ⟨hE.sub ⟨rfl,rfl,rfl,trivial⟩,hM⟩ ?_
  rintro s16 a w ⟨hE,hM⟩ o19 hs17 hx18
  unfold U7 at hs17
  refine wp_seq (Zb (Zd hE rfl fun a hE=>Zg hE rfl rfl rfl fun a hE=>Ze ?_))
  refine Zm hE rfl ?_ ?_
  ·intro hb20
   have hs17:=Zt hs17 hb20
   refine wp_skip (Zq (wp_seq (wp_block (Zb (Zc hE rfl fun a hE=>Ze ?_)))))
   obtain ⟨j21,hl22,hF23⟩:=bind_some hs17
   refine ZI (fun a w=>Env 46 a [(2,(ptr b1 0)),(3,(ptr b3 0)),(4,vI s16.2)] ∧ M (Old w0) w0 w [raw b3 (cat [[vI 285],enc r11,enc j21,enc (Vector.replicate 16 (0 : UInt8)),[vI p0]]),raw b1 (cat [[vI 0],enc (Vector.replicate 256 (0 : UInt8)),enc (Vector.replicate 4 (Vector.replicate 4 (0 : UInt8))),enc (Vector.replicate 16 (0 : UInt8)),[vI 0]])]) ?_ ?_
   ·skip
    refine wp_block ?_
    refine ZD (fun (s24 : (Vector (Vector UInt8 4) 4) × Int) a w=>Env 46 a [(2,(ptr b1 0)),(3,(ptr b3 0)),(4,vI s16.2),(5,vI s24.2)] ∧ M (Old w0) w0 w [raw b3 (cat [[vI 285],enc r11,enc s24.1,enc (Vector.replicate 16 (0 : UInt8)),[vI p0]]),raw b1 (cat [[vI 0],enc (Vector.replicate 256 (0 : UInt8)),enc (Vector.replicate 4 (Vector.replicate 4 (0 : UInt8))),enc (Vector.replicate 16 (0 : UInt8)),[vI 0]])]) hl22 ⟨hE.sub ⟨rfl,rfl,rfl,rfl,trivial⟩,hM⟩ ?_
    rintro s24 a w ⟨hE,hM⟩ o27 hs25 hx26
    unfold U3 at hs25
    refine wp_seq (Zb (Zd hE rfl fun a hE=>Zg hE rfl rfl rfl fun a hE=>Ze ?_))
    refine Zm hE rfl ?_ ?_
    ·intro hb28
     have hs25:=Zt hs25 hb28
     refine wp_skip (Zq (wp_seq (wp_block ?_)))
     obtain ⟨r30,e31,hs25⟩:=bind_some hs25
     obtain ⟨x33,hi32,hs25⟩:=bvx hs25
     obtain ⟨x36,hi35,hs25⟩:=bvx hs25
     refine Yc [22,23,24,25,26,27,28,29,30,31,32] Y4 rfl rfl (by decide) rfl hE hM (qsP (fun z=>Zv z.E Za ld rfl (kr0 rfl)) (qsP (fun z=>Zv z.E Za ld rfl (kr0 rfl)) (qsP (fun z=>Zv z.E Za ld rfl (kr0 rfl)) (qsP (fun z=>Zv z.E Za ld rfl (kr0 rfl)) (qsP (v:=(vI (wr (4 + s24.2)))) (fun z=>Yv z.E Za ld rfl rfl rfl (kr0 rfl)) (qsP (v:=(vI (HJ s16.2 (wr (4 + s24.2))))) (fun z=>Yv z.E Za ld rfl rfl rfl (kr0 rfl)) (qsP (fun z=>Yj z.E Za ld rfl Tryz.underlying3 Tryz.underlying5 (kr0 rfl)) (qsP (fun z=>Z7 z.E Za ld rfl (cbm Tryz.func178) (AE _ 285 (Zy (HJ s16.2 (wr (4 + s24.2)))) r30 e31) (kc rfl)) (qsP (fun z=>Zs z.E Za ld rfl (JH) (kr0 rfl)) (qsP (fun z=>ZF z.E Za ld rfl rfl Tryz.underlying160 Xz hi32.1 (kr0 rfl)) (qsP (fun z=>ZF z.E Za ld rfl rfl Tryz.underlying158 ty5 hi35.1 (kr0 rfl)) qs0))))))))))) ?_
     ·intro a w u hE hM
      refine Zk (seg:=[vB r30]) (cs':=cat [[vI 285],enc r11,enc (s24.1.setIfInBounds (s16.2).toNat (x33.setIfInBounds (s24.2).toNat r30)),enc (Vector.replicate 16 (0 : UInt8)),[vI p0]]) hE hM Za rfl rfl rfl ty5 rfl (Ks (o':=(s16.2).toNat * 4 + (0 + (s24.2).toNat * 1)) (pre:=[[vI 285],enc r11]) (seg:=enc s24.1) (post:=[enc (Vector.replicate 16 (0 : UInt8)),[vI p0]]) ck (Uh (o':=0 + (s24.2).toNat * 1) hi32 (ZK (v:=x33) (x:=r30) hi35.1) (by first | omega | (simp only [Flat.n] <;> omega))) (by first | omega | (simp only [Flat.n] <;> omega))) (Flat.cell (r30 : UInt8)) (VZ (o':=(s16.2).toNat * 4 + (0 + (s24.2).toNat * 1)) (pre:=[[vI 285],enc r11]) (seg:=enc s24.1) (post:=[enc (Vector.replicate 16 (0 : UInt8)),[vI p0]]) ck (Uh (o':=0 + (s24.2).toNat * 1) hi32 (ZK (v:=x33) (x:=r30) hi35.1) (by first | omega | (simp only [Flat.n] <;> omega))) (Vo (o':=0 + (s24.2).toNat * 1) hi32 (ZK (v:=x33) (x:=r30) hi35.1) (ZE (v:=x33) (x:=r30) hi35.1) (by first | omega | (simp only [Flat.n] <;> omega))) (by first | omega | (simp only [Flat.n] <;> omega))) fun w a hM hE=>Zh (Z2 (Zq (wp_region_lit (Zd hE rfl fun a hE=>Zg hE rfl rfl rfl fun a hE=>Zc hE rfl fun a hE=>Zh (Zj ?_)))))
      exact ⟨_,(ois hs25),hE.sub ⟨rfl,rfl,rfl,rfl,trivial⟩,hM⟩
    ·intro hb28
     have hs25:=Zu hs25 hb28
     refine wp_exit (Zl (Zl (Z3 ?_)))
     obtain rfl:=hx26 _ (ois hs25)
     refine Zj ?_
     exact ⟨hE.sub ⟨rfl,rfl,rfl,trivial⟩,hM⟩
   ·skip
    rintro a w ⟨hE,hM⟩
    refine Z2 (Zq (wp_region_lit (Zd hE rfl fun a hE=>Zg hE rfl rfl rfl fun a hE=>Zc hE rfl fun a hE=>Zh (Zj ?_))))
    exact ⟨_,(ois hF23),hE.sub ⟨rfl,rfl,rfl,trivial⟩,hM⟩
  ·intro hb20
   have hs17:=Zu hs17 hb20
   refine wp_exit (Zl (Zl (Z3 ?_)))
   obtain rfl:=hx18 _ (ois hs17)
   refine Zj ?_
   exact ⟨hE.sub ⟨rfl,rfl,trivial⟩,hM⟩
 ·skip
  rintro a w ⟨hE,hM⟩
  refine Zq (wp_seq (Zb (Zc hE rfl fun a hE=>Ze ?_)))
  obtain ⟨j40,hl41,hF42⟩:=bind_some hF15
  refine ZI (fun a w=>Env 46 a [(2,(ptr b1 0)),(3,(ptr b3 0))] ∧ M (Old w0) w0 w [raw b3 (cat [[vI 285],enc r11,enc j13,enc j40,[vI p0]]),raw b1 (cat [[vI 0],enc (Vector.replicate 256 (0 : UInt8)),enc (Vector.replicate 4 (Vector.replicate 4 (0 : UInt8))),enc (Vector.replicate 16 (0 : UInt8)),[vI 0]])]) ?_ ?_
  ·skip
   refine wp_block ?_
   refine ZD (fun (s43 : (Vector UInt8 16) × Int) a w=>Env 46 a [(2,(ptr b1 0)),(3,(ptr b3 0)),(6,vI s43.2)] ∧ M (Old w0) w0 w [raw b3 (cat [[vI 285],enc r11,enc j13,enc s43.1,[vI p0]]),raw b1 (cat [[vI 0],enc (Vector.replicate 256 (0 : UInt8)),enc (Vector.replicate 4 (Vector.replicate 4 (0 : UInt8))),enc (Vector.replicate 16 (0 : UInt8)),[vI 0]])]) hl41 ⟨hE.sub ⟨rfl,rfl,rfl,trivial⟩,hM⟩ ?_
   rintro s43 a w ⟨hE,hM⟩ o46 hs44 hx45
   unfold Tb at hs44
   refine wp_seq (Zb (Zd hE rfl fun a hE=>Zg hE rfl rfl rfl fun a hE=>Ze ?_))
   refine Zm hE rfl ?_ ?_
   ·intro hb47
    have hs44:=Zt hs44 hb47
    refine wp_skip (Zq (wp_seq (wp_block (wp_region_lit (Zd hE rfl fun a hE=>Zd hE rfl fun a hE=>Zg hE rfl rfl rfl fun a hE=>Zg hE rfl rfl rfl fun a hE=>Zg hE rfl rfl (QJ _ _ (by decide)) fun a hE=>Yj hE Za ld rfl Tryz.underlying3 Tryz.underlying5 fun a hE=>Zf hE rfl (JU) ?_))))); intro a hE
    obtain ⟨x49,hi48,hs44⟩:=bvx hs44
    refine ZC hE rfl rfl Tryz.underlying161 ty5 hi48.1 fun a hE=>Zk (seg:=[(vB (Zy (Int.tmod (wr ((wr (13 * s43.2)) + 4)) 16)))]) (cs':=cat [[vI 285],enc r11,enc j13,enc (s43.1.setIfInBounds (s43.2).toNat (Zy (Int.tmod (wr ((wr (13 * s43.2)) + 4)) 16))),[vI p0]]) hE hM Za rfl rfl rfl ty5 rfl (Ks (o':=0 + (s43.2).toNat * 1) (pre:=[[vI 285],enc r11,enc j13]) (seg:=enc s43.1) (post:=[[vI p0]]) ck (ZK (v:=s43.1) (x:=Zy (Int.tmod (wr ((wr (13 * s43.2)) + 4)) 16)) hi48.1) (by first | omega | (simp only [Flat.n] <;> omega))) (Flat.cell (Zy (Int.tmod (wr ((wr (13 * s43.2)) + 4)) 16) : UInt8)) (VZ (o':=0 + (s43.2).toNat * 1) (pre:=[[vI 285],enc r11,enc j13]) (seg:=enc s43.1) (post:=[[vI p0]]) ck (ZK (v:=s43.1) (x:=Zy (Int.tmod (wr ((wr (13 * s43.2)) + 4)) 16)) hi48.1) (ZE (v:=s43.1) (x:=Zy (Int.tmod (wr ((wr (13 * s43.2)) + 4)) 16)) hi48.1) (by first | omega | (simp only [Flat.n] <;> omega))) fun w a hM hE=>Zh (Z2 (Zq (wp_region_lit (Zd hE rfl fun a hE=>Zg hE rfl rfl rfl fun a hE=>Zc hE rfl fun a hE=>Zh (Zj ?_)))))
    exact ⟨_,(ois hs44),hE.sub ⟨rfl,rfl,rfl,trivial⟩,hM⟩
   ·intro hb47
    have hs44:=Zu hs44 hb47
    refine wp_exit (Zl (Zl (Z3 ?_)))
    obtain rfl:=hx45 _ (ois hs44)
    refine Zj ?_
    exact ⟨hE.sub ⟨rfl,rfl,trivial⟩,hM⟩
  ·skip
   rintro a w ⟨hE,hM⟩
   refine Zq (Zb (Zn hE rfl V0 rfl hM.rawAt0 cq ?_)); intro a hE
   have hM:=hM.pull1
   refine Zk (seg:=cat [[(vI ((⟨285,r11,j13,j40,p0⟩ : GCipher).Field))],enc ((⟨285,r11,j13,j40,p0⟩ : GCipher).Box),enc ((⟨285,r11,j13,j40,p0⟩ : GCipher).Mix),enc ((⟨285,r11,j13,j40,p0⟩ : GCipher).Places),[(vI ((⟨285,r11,j13,j40,p0⟩ : GCipher).Rounds))]]) (cs':=cat [[(vI ((⟨285,r11,j13,j40,p0⟩ : GCipher).Field))],enc ((⟨285,r11,j13,j40,p0⟩ : GCipher).Box),enc ((⟨285,r11,j13,j40,p0⟩ : GCipher).Mix),enc ((⟨285,r11,j13,j40,p0⟩ : GCipher).Places),[(vI ((⟨285,r11,j13,j40,p0⟩ : GCipher).Rounds))]]) hE hM Za rfl rfl rfl V0 cq (Nat.le_of_eq ((Nat.zero_add _).trans (Eq.trans cq (Eq.symm cq)))) (ZX (cc1 (Flat.cell ((⟨285,r11,j13,j40,p0⟩ : GCipher).Field : Int)) (cc1 (Flat.cell _) (cc1 (Flat.cell _) (cc1 (Flat.cell _) (cc1 (Flat.cell ((⟨285,r11,j13,j40,p0⟩ : GCipher).Rounds : Int)) cc0)))))) (Zi (Eq.trans cq (Eq.symm cq))) fun w a hM hE=>Ze ?_
   obtain rfl:=Option.some.inj hF42
   have hq52 : Yu Tryz.prog _ _ (.cell 2 163) _:=ZJ hE rfl V0 rfl hM.rawAt0 cq rfl
   exact wp_ret (ZL hE rfl hq52 ⟨_,rfl,rfl,hM.kept⟩)
def WG : Option (GCipher) :=
 (Ue 4).bind fun r3=>some r3
theorem QT (w0 : World)  (r : GCipher) (hF : WG  = some r) :
  Calls Tryz.prog 154 [].toArray w0 (Rt w0 (Value.agg (enc r).toArray)):=by
 refine ce Tryz.func154 ?_
 intro a hE
 have hM:=M.start w0
 unfold WG at hF
 refine Zb (ZA hE hM V0 fun b1 w a hM hE=>Ze (Zb ?_))
 obtain ⟨r3,e4,hF⟩:=bind_some hF
 refine Zx hE rfl (cbm Tryz.func125) (Bp _ 4 r3 e4) ?_
 rintro v w a ⟨rfl,hK⟩ hE
 have hM:=hM.keep hK
 refine Zk (seg:=cat [[vI r3.Field],enc r3.Box,enc r3.Mix,enc r3.Places,[vI r3.Rounds]]) (cs':=cat [[vI r3.Field],enc r3.Box,enc r3.Mix,enc r3.Places,[vI r3.Rounds]]) hE hM Za rfl rfl rfl V0 cq (Nat.le_of_eq ((Nat.zero_add _).trans (Eq.trans cq (Eq.symm cq)))) (ZX (cc1 (Flat.cell (r3.Field : Int)) (cc1 (Flat.cell _) (cc1 (Flat.cell _) (cc1 (Flat.cell _) (cc1 (Flat.cell (r3.Rounds : Int)) cc0)))))) (Zi (Eq.trans cq (Eq.symm cq))) fun w a hM hE=>Ze ?_
 obtain rfl:=Option.some.inj hF
 have hq5 : Yu Tryz.prog _ _ (.cell 0 163) _:=ZJ hE rfl V0 rfl hM.rawAt0 cq rfl
 exact wp_ret (ZL hE rfl hq5 ⟨_,rfl,rfl,hM.kept⟩)
def TR (s16 : (List UInt8)) : Option (Fl (List UInt8) (List UInt8)) :=
 if ((Int.tmod (s16.length : Int) 16) != 8) = true then ((app 1 s16 ([0] : List UInt8)).bind fun l25=>some (Fl.nx (s16 ++ ([0] : List UInt8)))) else (some (Fl.ex s16))
def VE (p0 : (List UInt8)) (s36 : (List UInt8) × Int) : Option (Fl ((List UInt8) × Int) (List UInt8)) :=
 if (decide (s36.2 ≥ 0)) = true then ((Xk (IntKind.u64.wrap (wr (8 * s36.2)))).bind fun _=>(app 1 s36.1 ([Zy (Qn (Tm (p0.length : Int) (IntKind.u64.wrap (wr (8 * s36.2)))) 255)] : List UInt8)).bind fun l46=>some (Fl.nx ((s36.1 ++ ([Zy (Qn (Tm (p0.length : Int) (IntKind.u64.wrap (wr (8 * s36.2)))) 255)] : List UInt8)),wr (s36.2 - 1)))) else (some (Fl.ex s36.1))
def Tp (p0 : (List UInt8)) : Option ((List UInt8)) :=
 (WW p0).bind fun r1=>(app 1 r1 ([128] : List UInt8)).bind fun l6=>(ZB (TR) (r1 ++ ([128] : List UInt8))).bind fun j11=>(ZB (VE p0) (j11,7)).bind fun j31=>some j31
theorem AM (w0 : World) (p0 : (List UInt8)) (v0_1 : Value) (hv0_1 : Ro w0 p0 [v0_1]) (r : (List UInt8)) (hF : Tp p0 = some r) :
  Calls Tryz.prog 172 [v0_1].toArray w0 (fun en w'=>∃ v,en = .returned v ∧ (∃ (y1 : Value),v = y1 ∧ Fr w0 w' [osl NoB (r : List UInt8) y1] ∧ Kept (Old w0) w0 w')):=by
 refine ce Tryz.func172 ?_
 intro a hE
 have hM:=M.start w0
 unfold Tp at hF
 refine Zb (Zc hE rfl fun a hE=>Ze (Zb (Zd hE rfl ?_))); intro a hE
 obtain ⟨r1,e2,hF⟩:=bind_some hF
 refine Zx hE rfl cb65 (Qw _ p0 v0_1 (hM.rdo hv0_1) r1 e2) ?_
 rintro u3 w a ⟨_,rfl,hFr,hK⟩ hE
 have hM:=hM.add hK hFr
 refine Yi (xs:=[.const (vB 128)]) (l:=([128] : List UInt8)) (vs:=[vB 128]) hE hM Za ld rfl rfl Tryz.underlying40 ty5 rfl (by decide) rfl ?_; intro u4 w a hM hE
 obtain ⟨l6,e7,hF⟩:=bind_some hF
 obtain ⟨e10,rfl⟩:=Yr e7
 have hM:=hM.pull1
 refine Yh hE hM Za ld rfl rfl (hM.sl (pre:=[_]) noB) Tryz.underlying40 ty5 rfl (by decide) e10 fun u8 w a hM hE=>Zc hE rfl fun a hE=>Ze ?_
 obtain ⟨j11,hl12,hF13⟩:=bind_some hF
 refine ZQ (fun a w=>∃ (u14 : Value),Env 32 a [(0,v0_1),(3,u14)] ∧ M (Old w0) w0 w [osl NoB (j11 : List UInt8) u14]) ?_ ?_
 ·skip
  refine wp_block ?_
  have hM:=M.fst (l:=[_]) hM
  refine ZD (fun (s16 : (List UInt8)) a w=>∃ (u17 : Value),Env 32 a [(0,v0_1),(3,u17)] ∧ M (Old w0) w0 w [osl NoB (s16 : List UInt8) u17]) hl12 ⟨u8,hE.sub ⟨rfl,rfl,trivial⟩,hM⟩ ?_
  rintro s16 a w ⟨u17,hE,hM⟩ o21 hs19 hx20
  unfold TR at hs19
  refine wp_seq (Zb (Zd hE rfl fun a hE=>Yb hE rfl Tryz.underlying40 (hM.sl (pre:=[]) noB) fun a hE=>Zg hE rfl rfl (QJ _ _ (by decide)) fun a hE=>Zg hE rfl rfl rfl fun a hE=>Ze ?_))
  refine Zm hE rfl ?_ ?_
  ·intro hb22
   have hs19:=Zt hs19 hb22
   refine wp_skip (Zq (wp_block (wp_region_lit (Zd hE rfl fun a hE=>Yi (xs:=[.const (vB 0)]) (l:=([0] : List UInt8)) (vs:=[vB 0]) hE hM Za ld rfl rfl Tryz.underlying40 ty5 rfl (by decide) rfl ?_)))); intro u23 w a hM hE
   obtain ⟨l25,e26,hs19⟩:=bind_some hs19
   obtain ⟨e29,rfl⟩:=Yr e26
   have hM:=hM.pull1
   refine Yh hE hM Za ld rfl rfl (hM.sl (pre:=[_]) noB) Tryz.underlying40 ty5 rfl (by decide) e29 fun u27 w a hM hE=>Zc hE rfl fun a hE=>Zh (Z2 (Zj ?_))
   have hM:=M.fst (l:=[_]) hM
   exact ⟨_,(ois hs19),u27,hE.sub ⟨rfl,rfl,trivial⟩,hM⟩
  ·intro hb22
   have hs19:=Zu hs19 hb22
   refine wp_exit (Zl (Zl (Z3 ?_)))
   obtain rfl:=hx20 _ (ois hs19)
   refine Zj ?_
   exact ⟨u17,hE.sub ⟨rfl,rfl,trivial⟩,hM⟩
 ·skip
  rintro a w ⟨u14,hE,hM⟩
  refine wp_seq (Zb (Zc hE rfl fun a hE=>Ze ?_))
  obtain ⟨j31,hl32,hF33⟩:=bind_some hF13
  refine ZI (fun a w=>∃ (u34 : Value),Env 32 a [(3,u34)] ∧ M (Old w0) w0 w [osl NoB (j31 : List UInt8) u34]) ?_ ?_
  ·skip
   refine wp_block ?_
   refine ZD (fun (s36 : (List UInt8) × Int) a w=>∃ (u37 : Value),Env 32 a [(0,v0_1),(3,u37),(4,vI s36.2)] ∧ M (Old w0) w0 w [osl NoB (s36.1 : List UInt8) u37]) hl32 ⟨u14,hE.sub ⟨rfl,rfl,rfl,trivial⟩,hM⟩ ?_
   rintro s36 a w ⟨u37,hE,hM⟩ o41 hs39 hx40
   unfold VE at hs39
   refine wp_seq (Zb (Zd hE rfl fun a hE=>Zg hE rfl rfl rfl fun a hE=>Ze ?_))
   refine Zm hE rfl ?_ ?_
   ·intro hb42
    have hs39:=Zt hs39 hb42
    refine wp_skip (Zq (wp_seq (wp_block (wp_region_lit (Zd hE rfl fun a hE=>Zd hE rfl fun a hE=>Yb hE rfl Tryz.underlying40 (hM.rd hv0_1) fun a hE=>Zd hE rfl fun a hE=>Zg hE rfl rfl rfl fun a hE=>Ah hE Za ld rfl Tryz.underlying3 Tryz.underlying171 ?_))))); intro a hE
    obtain ⟨_,e43,hs39⟩:=bind_some hs39
    have e43:=Wx e43
    refine HD hE Za ld rfl rfl (Ji _ _ e43) fun a hE=>Zg hE rfl rfl rfl fun a hE=>Yj hE Za ld rfl Tryz.underlying3 Tryz.underlying5 fun a hE=>Yi (xs:=[.tmp 28]) (l:=([Zy (Qn (Tm (p0.length : Int) (IntKind.u64.wrap (wr (8 * s36.2)))) 255)] : List UInt8)) (vs:=[(vB (Zy (Qn (Tm (p0.length : Int) (IntKind.u64.wrap (wr (8 * s36.2)))) 255)))]) hE hM Za ld rfl rfl Tryz.underlying40 ty5 rfl (by decide) rfl ?_; intro u44 w a hM hE
    obtain ⟨l46,e47,hs39⟩:=bind_some hs39
    obtain ⟨e50,rfl⟩:=Yr e47
    have hM:=hM.pull1
    refine Yh hE hM Za ld rfl rfl (hM.sl (pre:=[_]) noB) Tryz.underlying40 ty5 rfl (by decide) e50 fun u48 w a hM hE=>Zc hE rfl fun a hE=>Zh (Z2 (Zq (wp_region_lit (Zd hE rfl fun a hE=>Zg hE rfl rfl rfl fun a hE=>Zc hE rfl fun a hE=>Zh (Zj ?_)))))
    have hM:=M.fst (l:=[_]) hM
    exact ⟨_,(ois hs39),u48,hE.sub ⟨rfl,rfl,rfl,trivial⟩,hM⟩
   ·intro hb42
    have hs39:=Zu hs39 hb42
    refine wp_exit (Zl (Zl (Z3 ?_)))
    obtain rfl:=hx40 _ (ois hs39)
    refine Zj ?_
    exact ⟨u37,hE.sub ⟨rfl,trivial⟩,hM⟩
  ·skip
   rintro a w ⟨u34,hE,hM⟩
   refine Zq (Zb (Zd hE rfl fun a hE=>Zc hE rfl fun a hE=>Ze ?_))
   obtain rfl:=Option.some.inj hF33
   exact wp_ret (ZL hE rfl (ZT hE rfl) ⟨_,rfl,u34,rfl,hM.outF (Yq Xy),hM.kept⟩)
def X7 (p0 : (List UInt8)) (s8 : (List (Vector UInt8 16)) × Int) (s20 : (Vector UInt8 16) × Int) : Option (Fl ((Vector UInt8 16) × Int) (Vector UInt8 16)) :=
 if (decide (s20.2 < 16)) = true then ((idx p0 (wr (s8.2 + s20.2))).bind fun x25=>(ZH s20.1 s20.2).bind fun x29=>some (Fl.nx ((s20.1.setIfInBounds (s20.2).toNat x25),wr (s20.2 + 1)))) else (some (Fl.ex s20.1))
def We (p0 : (List UInt8)) (s8 : (List (Vector UInt8 16)) × Int) : Option (Fl ((List (Vector UInt8 16)) × Int) (List (Vector UInt8 16))) :=
 if (decide ((wr (s8.2 + 16)) ≤ (p0.length : Int))) = true then ((ZB (X7 p0 s8) ((Vector.replicate 16 (0 : UInt8)),0)).bind fun j17=>(app 16 s8.1 ([j17] : List (Vector UInt8 16))).bind fun l34=>some (Fl.nx ((s8.1 ++ ([j17] : List (Vector UInt8 16))),wr (s8.2 + 16)))) else (some (Fl.ex s8.1))
def VL (p0 : (List UInt8)) : Option ((List (Vector UInt8 16))) :=
 (ZB (We p0) (([] : List (Vector UInt8 16)),0)).bind fun j3=>some j3
theorem HB (w0 : World) (p0 : (List UInt8)) (v0_1 : Value) (hv0_1 : Ro w0 p0 [v0_1]) (r : (List (Vector UInt8 16))) (hF : VL p0 = some r) :
  Calls Tryz.prog 171 [v0_1].toArray w0 (fun en w'=>∃ v,en = .returned v ∧ (∃ (y1 : Value),v = y1 ∧ Fr w0 w' [osl NoB (r : List (Vector UInt8 16)) y1] ∧ Kept (Old w0) w0 w')):=by
 refine ce Tryz.func171 ?_
 intro a hE
 have hM:=M.start w0
 unfold VL at hF
 refine Zb (Zc hE rfl fun a hE=>Ze (Zb (Yi (xs:=[]) (l:=([] : List (Vector UInt8 16))) (vs:=[]) hE hM Za ld rfl rfl Tryz.underlying54 ZG rfl (by decide) rfl fun u1 w a hM hE=>Zc hE rfl fun a hE=>Ze (wp_seq (Zb (Zc hE rfl fun a hE=>Ze ?_))))))
 obtain ⟨j3,hl4,hF5⟩:=bind_some hF
 refine ZI (fun a w=>∃ (u6 : Value),Env 33 a [(3,u6)] ∧ M (Old w0) w0 w [osl NoB (j3 : List (Vector UInt8 16)) u6]) ?_ ?_
 ·skip
  refine wp_block ?_
  refine ZD (fun (s8 : (List (Vector UInt8 16)) × Int) a w=>∃ (u9 : Value),Env 33 a [(0,v0_1),(3,u9),(4,vI s8.2)] ∧ M (Old w0) w0 w [osl NoB (s8.1 : List (Vector UInt8 16)) u9]) hl4 ⟨u1,hE.sub ⟨rfl,rfl,rfl,trivial⟩,hM⟩ ?_
  rintro s8 a w ⟨u9,hE,hM⟩ o13 hs11 hx12
  unfold We at hs11
  refine wp_seq (Zb (Zd hE rfl fun a hE=>Zg hE rfl rfl rfl fun a hE=>Zd hE rfl fun a hE=>Yb hE rfl Tryz.underlying40 (hM.rd hv0_1) fun a hE=>Zg hE rfl rfl rfl fun a hE=>Ze ?_))
  refine Zm hE rfl ?_ ?_
  ·intro hb14
   have hs11:=Zt hs11 hb14
   refine wp_skip (Zq (wp_seq (wp_block (Zb (XF (parts:=[]) (vs:=[]) (cs:=enc (Vector.replicate 16 (0 : UInt8))) hE Za ld rfl rfl ZG rfl ty5 YZ fun a hE=>ZA hE hM ZG fun b15 w a hM hE=>Zk (seg:=enc (Vector.replicate 16 (0 : UInt8))) (cs':=enc (Vector.replicate 16 (0 : UInt8))) hE hM Za rfl rfl rfl ZG (Flat.len _) (zle flq) (Flat.cell _) (Zi flq) fun w a hM hE=>Ze (wp_seq (Zb (Zc hE rfl fun a hE=>Ze ?_))))))))
   obtain ⟨j17,hl18,hF19⟩:=bind_some hs11
   refine ZI (fun a w=>Env 33 a [(0,v0_1),(3,u9),(4,vI s8.2),(5,(ptr b15 0))] ∧ M (Old w0) w0 w [raw b15 (enc j17),osl NoB (s8.1 : List (Vector UInt8 16)) u9]) ?_ ?_
   ·skip
    refine wp_block ?_
    refine ZD (fun (s20 : (Vector UInt8 16) × Int) a w=>Env 33 a [(0,v0_1),(3,u9),(4,vI s8.2),(5,(ptr b15 0)),(6,vI s20.2)] ∧ M (Old w0) w0 w [raw b15 (enc s20.1),osl NoB (s8.1 : List (Vector UInt8 16)) u9]) hl18 ⟨hE.sub ⟨rfl,rfl,rfl,rfl,rfl,trivial⟩,hM⟩ ?_
    rintro s20 a w ⟨hE,hM⟩ o23 hs21 hx22
    unfold X7 at hs21
    refine wp_seq (Zb (Zd hE rfl fun a hE=>Zg hE rfl rfl rfl fun a hE=>Ze ?_))
    refine Zm hE rfl ?_ ?_
    ·intro hb24
     have hs21:=Zt hs21 hb24
     refine wp_skip (Zq (wp_seq (wp_block (wp_region_lit (Zd hE rfl fun a hE=>Zd hE rfl fun a hE=>Zd hE rfl fun a hE=>Zd hE rfl fun a hE=>Zg hE rfl rfl rfl ?_))))); intro a hE
     obtain ⟨x25,hi27,hs21⟩:=bix hs21
     refine ZN hE rfl rfl Tryz.underlying40 ty5 (hM.rd hv0_1) hi27.1 fun a hE=>Zw (v:=(vB x25)) hE rfl ty5 rfl (X0 (hM.rd hv0_1) hi27.2) ?_; intro a hE
     obtain ⟨x29,hi28,hs21⟩:=bvx hs21
     refine ZC hE rfl rfl Tryz.underlying68 ty5 hi28.1 fun a hE=>Zk (seg:=[vB x25]) (cs':=enc (s20.1.setIfInBounds (s20.2).toNat x25)) hE hM Za rfl rfl rfl ty5 rfl (ZK (v:=s20.1) (x:=x25) hi28.1) (Flat.cell (x25 : UInt8)) (ZE (v:=s20.1) (x:=x25) hi28.1) fun w a hM hE=>Zh (Z2 (Zq (wp_region_lit (Zd hE rfl fun a hE=>Zg hE rfl rfl rfl fun a hE=>Zc hE rfl fun a hE=>Zh (Zj ?_)))))
     exact ⟨_,(ois hs21),hE.sub ⟨rfl,rfl,rfl,rfl,rfl,trivial⟩,hM⟩
    ·intro hb24
     have hs21:=Zu hs21 hb24
     refine wp_exit (Zl (Zl (Z3 ?_)))
     obtain rfl:=hx22 _ (ois hs21)
     refine Zj ?_
     exact ⟨hE.sub ⟨rfl,rfl,rfl,rfl,trivial⟩,hM⟩
   ·skip
    rintro a w ⟨hE,hM⟩
    refine Zq (wp_region_lit (Zd hE rfl fun a hE=>Zn hE rfl ZG rfl hM.rawAt0 (Flat.len _) fun a hE=>Yi (xs:=[.tmp 29]) (l:=([j17] : List (Vector UInt8 16))) (vs:=[(Value.agg (enc j17).toArray)]) hE hM Za ld rfl rfl Tryz.underlying54 ZG rfl (by decide) rfl ?_)); intro u32 w a hM hE
    obtain ⟨l34,e35,hF19⟩:=bind_some hF19
    obtain ⟨e38,rfl⟩:=Yr e35
    have hM:=hM.pull2
    refine Yh hE hM Za ld rfl rfl (hM.sl (pre:=[_]) noB) Tryz.underlying54 ZG rfl (by decide) e38 fun u36 w a hM hE=>Zc hE rfl fun a hE=>Zh (Z2 (Zq (wp_region_lit (Zd hE rfl fun a hE=>Zg hE rfl rfl rfl fun a hE=>Zc hE rfl fun a hE=>Zh (Zj ?_)))))
    have hM:=M.fst (l:=[_]) hM
    exact ⟨_,(ois hF19),u36,hE.sub ⟨rfl,rfl,rfl,trivial⟩,hM⟩
  ·intro hb14
   have hs11:=Zu hs11 hb14
   refine wp_exit (Zl (Zl (Z3 ?_)))
   obtain rfl:=hx12 _ (ois hs11)
   refine Zj ?_
   exact ⟨u9,hE.sub ⟨rfl,trivial⟩,hM⟩
 ·skip
  rintro a w ⟨u6,hE,hM⟩
  refine Zq (Zb (Zd hE rfl fun a hE=>Zc hE rfl fun a hE=>Ze ?_))
  obtain rfl:=Option.some.inj hF5
  exact wp_ret (ZL hE rfl (ZT hE rfl) ⟨_,rfl,u6,rfl,hM.outF (Yq Xy),hM.kept⟩)
def WC (s8 : (Vector UInt8 32) × Int) : Option (Fl ((Vector UInt8 32) × Int) (Vector UInt8 32)) :=
 if (decide (s8.2 < 32)) = true then ((ZH s8.1 s8.2).bind fun x14=>some (Fl.nx ((s8.1.setIfInBounds (s8.2).toNat (Zy (Int.tmod (wr (17 * s8.2)) 256))),wr (s8.2 + 1)))) else (some (Fl.ex s8.1))
def Ug : Option ((Vector UInt8 32)) :=
 (ZB (WC) ((Vector.replicate 32 (0 : UInt8)),0)).bind fun j5=>some j5
theorem Bm (w0 : World)  (r : (Vector UInt8 32)) (hF : Ug  = some r) :
  Calls Tryz.prog 173 [].toArray w0 (Rt w0 (Value.agg (enc r).toArray)):=by
 refine ce Tryz.func173 ?_
 intro a hE
 have hM:=M.start w0
 unfold Ug at hF
 refine Zb (ZA hE hM Yt fun b1 w a hM hE=>Ze (Zb (XF (parts:=[]) (vs:=[]) (cs:=enc (Vector.replicate 32 (0 : UInt8))) hE Za ld rfl rfl Yt rfl ty5 YZ fun a hE=>ZA hE hM Yt fun b3 w a hM hE=>Zk (seg:=enc (Vector.replicate 32 (0 : UInt8))) (cs':=enc (Vector.replicate 32 (0 : UInt8))) hE hM Za rfl rfl rfl Yt (Flat.len _) (zle flq) (Flat.cell _) (Zi flq) fun w a hM hE=>Ze (wp_seq (Zb (Zc hE rfl fun a hE=>Ze ?_))))))
 obtain ⟨j5,hl6,hF7⟩:=bind_some hF
 refine ZI (fun a w=>Env 15 a [(0,(ptr b1 0)),(1,(ptr b3 0))] ∧ M (Old w0) w0 w [raw b3 (enc j5),raw b1 (enc (Vector.replicate 32 (0 : UInt8)))]) ?_ ?_
 ·skip
  refine wp_block ?_
  refine ZD (fun (s8 : (Vector UInt8 32) × Int) a w=>Env 15 a [(0,(ptr b1 0)),(1,(ptr b3 0)),(2,vI s8.2)] ∧ M (Old w0) w0 w [raw b3 (enc s8.1),raw b1 (enc (Vector.replicate 32 (0 : UInt8)))]) hl6 ⟨hE.sub ⟨rfl,rfl,rfl,trivial⟩,hM⟩ ?_
  rintro s8 a w ⟨hE,hM⟩ o11 hs9 hx10
  unfold WC at hs9
  refine wp_seq (Zb (Zd hE rfl fun a hE=>Zg hE rfl rfl rfl fun a hE=>Ze ?_))
  refine Zm hE rfl ?_ ?_
  ·intro hb12
   have hs9:=Zt hs9 hb12
   refine wp_skip (Zq (wp_seq (wp_block (wp_region_lit (Zd hE rfl fun a hE=>Zd hE rfl fun a hE=>Zg hE rfl rfl rfl fun a hE=>Zg hE rfl rfl (QJ _ _ (by decide)) fun a hE=>Yj hE Za ld rfl Tryz.underlying3 Tryz.underlying5 ?_))))); intro a hE
   obtain ⟨x14,hi13,hs9⟩:=bvx hs9
   refine ZC hE rfl rfl Tryz.underlying35 ty5 hi13.1 fun a hE=>Zk (seg:=[(vB (Zy (Int.tmod (wr (17 * s8.2)) 256)))]) (cs':=enc (s8.1.setIfInBounds (s8.2).toNat (Zy (Int.tmod (wr (17 * s8.2)) 256)))) hE hM Za rfl rfl rfl ty5 rfl (ZK (v:=s8.1) (x:=Zy (Int.tmod (wr (17 * s8.2)) 256)) hi13.1) (Flat.cell (Zy (Int.tmod (wr (17 * s8.2)) 256) : UInt8)) (ZE (v:=s8.1) (x:=Zy (Int.tmod (wr (17 * s8.2)) 256)) hi13.1) fun w a hM hE=>Zh (Z2 (Zq (wp_region_lit (Zd hE rfl fun a hE=>Zg hE rfl rfl rfl fun a hE=>Zc hE rfl fun a hE=>Zh (Zj ?_)))))
   exact ⟨_,(ois hs9),hE.sub ⟨rfl,rfl,rfl,trivial⟩,hM⟩
  ·intro hb12
   have hs9:=Zu hs9 hb12
   refine wp_exit (Zl (Zl (Z3 ?_)))
   obtain rfl:=hx10 _ (ois hs9)
   refine Zj ?_
   exact ⟨hE.sub ⟨rfl,rfl,trivial⟩,hM⟩
 ·skip
  rintro a w ⟨hE,hM⟩
  refine Zq (Zb (Zn hE rfl Yt rfl hM.rawAt0 (Flat.len _) ?_)); intro a hE
  have hM:=hM.pull1
  refine Zk (seg:=enc j5) (cs':=enc j5) hE hM Za rfl rfl rfl Yt (Flat.len _) (zle flq) (Flat.cell _) (Zi flq) fun w a hM hE=>Ze ?_
  obtain rfl:=Option.some.inj hF7
  have hq17 : Yu Tryz.prog _ _ (.cell 0 35) _:=ZJ hE rfl Yt rfl hM.rawAt0 (Flat.len _) rfl
  exact wp_ret (ZL hE rfl hq17 ⟨_,rfl,rfl,hM.kept⟩)
def X9 (p0 : (Vector UInt8 32)) (s14 : (Vector UInt8 16) × (Vector UInt8 16) × Int) : Option (Fl ((Vector UInt8 16) × (Vector UInt8 16) × Int) ((Vector UInt8 16) × (Vector UInt8 16))) :=
 if (decide (s14.2.2 < 16)) = true then ((ZH p0 s14.2.2).bind fun x20=>(ZH s14.2.1 s14.2.2).bind fun x23=>(ZH p0 (wr (16 + s14.2.2))).bind fun x26=>(ZH s14.1 s14.2.2).bind fun x29=>some (Fl.nx ((s14.1.setIfInBounds (s14.2.2).toNat x26),(s14.2.1.setIfInBounds (s14.2.2).toNat x20),wr (s14.2.2 + 1)))) else (some (Fl.ex (s14.1,s14.2.1)))
def VT (p0 : (Vector UInt8 32)) : Option ((Vector UInt8 16) × (Vector UInt8 16)) :=
 (ZB (X9 p0) ((Vector.replicate 16 (0 : UInt8)),(Vector.replicate 16 (0 : UInt8)),0)).bind fun j11=>(some (j11.2,j11.1) : Option ((Vector UInt8 16) × (Vector UInt8 16))).bind fun j32=>some (j32.1,j32.2)
theorem HC (w0 : World) (p0 : (Vector UInt8 32)) (r : (Vector UInt8 16) × (Vector UInt8 16)) (hF : VT p0 = some r) :
  Calls Tryz.prog 205 [(Value.agg (enc p0).toArray)].toArray w0 (Rt w0 (Value.tuple [(Value.agg (enc r.1).toArray),(Value.agg (enc r.2).toArray)].toArray)):=by
 refine ce Tryz.func205 ?_
 intro a hE
 have hM:=M.start w0
 unfold VT at hF
 refine Zb (ZV (cs:=enc p0) hE hM Za ld rfl rfl fun b1 w a hM hE=>ZA hE hM ZG fun b3 w a hM hE=>ZA hE hM ZG fun b5 w a hM hE=>Ze (Zb (XF (parts:=[]) (vs:=[]) (cs:=enc (Vector.replicate 16 (0 : UInt8))) hE Za ld rfl rfl ZG rfl ty5 YZ fun a hE=>XF (parts:=[]) (vs:=[]) (cs:=enc (Vector.replicate 16 (0 : UInt8))) hE Za ld rfl rfl ZG rfl ty5 YZ fun a hE=>ZA hE hM ZG fun b7 w a hM hE=>ZA hE hM ZG ?_))); intro b9 w a hM hE
 have hM:=hM.pull1
 refine Zk (seg:=enc (Vector.replicate 16 (0 : UInt8))) (cs':=enc (Vector.replicate 16 (0 : UInt8))) hE hM Za rfl rfl rfl ZG (Flat.len _) (zle flq) (Flat.cell _) (Zi flq) ?_; intro w a hM hE
 have hM:=hM.pull1
 refine Zk (seg:=enc (Vector.replicate 16 (0 : UInt8))) (cs':=enc (Vector.replicate 16 (0 : UInt8))) hE hM Za rfl rfl rfl ZG (Flat.len _) (zle flq) (Flat.cell _) (Zi flq) fun w a hM hE=>Ze (wp_seq (Zb (Zc hE rfl fun a hE=>Ze ?_)))
 obtain ⟨j11,hl12,hF13⟩:=bind_some hF
 refine ZI (fun a w=>Env 26 a [(2,(ptr b3 0)),(3,(ptr b5 0)),(4,(ptr b7 0)),(5,(ptr b9 0))] ∧ M (Old w0) w0 w [raw b9 (enc j11.1),raw b7 (enc j11.2),raw b5 (enc (Vector.replicate 16 (0 : UInt8))),raw b3 (enc (Vector.replicate 16 (0 : UInt8)))]) ?_ ?_
 ·skip
  refine wp_block ?_
  refine ZD (fun (s14 : (Vector UInt8 16) × (Vector UInt8 16) × Int) a w=>Env 26 a [(1,(ptr b1 0)),(2,(ptr b3 0)),(3,(ptr b5 0)),(4,(ptr b7 0)),(5,(ptr b9 0)),(6,vI s14.2.2)] ∧ M (Old w0) w0 w [raw b9 (enc s14.1),raw b7 (enc s14.2.1),raw b5 (enc (Vector.replicate 16 (0 : UInt8))),raw b3 (enc (Vector.replicate 16 (0 : UInt8))),raw b1 (enc p0)]) hl12 ⟨hE.sub ⟨rfl,rfl,rfl,rfl,rfl,rfl,trivial⟩,hM⟩ ?_
  rintro s14 a w ⟨hE,hM⟩ o17 hs15 hx16
  unfold X9 at hs15
  refine wp_seq (Zb (Zd hE rfl fun a hE=>Zg hE rfl rfl rfl fun a hE=>Ze ?_))
  refine Zm hE rfl ?_ ?_
  ·intro hb18
   have hs15:=Zt hs15 hb18
   refine wp_skip (Zq (wp_seq (wp_block (Zb (Zd hE rfl fun a hE=>Zd hE rfl ?_))))); intro a hE
   obtain ⟨x20,hi19,hs15⟩:=bvx hs15
   refine ZC hE rfl rfl Tryz.underlying35 ty5 hi19.1 fun a hE=>Zw (v:=(vB x20)) hE rfl ty5 rfl (At.vec hM.rawAt4 hi19.2) ?_; intro a hE
   obtain ⟨x23,hi22,hs15⟩:=bvx hs15
   refine ZC hE rfl rfl Tryz.underlying68 ty5 hi22.1 ?_; intro a hE
   have hM:=hM.pull1
   refine Zk (seg:=[vB x20]) (cs':=enc (s14.2.1.setIfInBounds (s14.2.2).toNat x20)) hE hM Za rfl rfl rfl ty5 rfl (ZK (v:=s14.2.1) (x:=x20) hi22.1) (Flat.cell (x20 : UInt8)) (ZE (v:=s14.2.1) (x:=x20) hi22.1) fun w a hM hE=>Ze (wp_region_lit (Zd hE rfl fun a hE=>Zd hE rfl fun a hE=>Zg hE rfl rfl rfl ?_)); intro a hE
   obtain ⟨x26,hi25,hs15⟩:=bvx hs15
   refine ZC hE rfl rfl Tryz.underlying35 ty5 hi25.1 fun a hE=>Zw (v:=(vB x26)) hE rfl ty5 rfl (At.vec hM.rawAt4 hi25.2) ?_; intro a hE
   obtain ⟨x29,hi28,hs15⟩:=bvx hs15
   refine ZC hE rfl rfl Tryz.underlying68 ty5 hi28.1 ?_; intro a hE
   have hM:=hM.pull1
   refine Zk (seg:=[vB x26]) (cs':=enc (s14.1.setIfInBounds (s14.2.2).toNat x26)) hE hM Za rfl rfl rfl ty5 rfl (ZK (v:=s14.1) (x:=x26) hi28.1) (Flat.cell (x26 : UInt8)) (ZE (v:=s14.1) (x:=x26) hi28.1) fun w a hM hE=>Zh (Z2 (Zq (wp_region_lit (Zd hE rfl fun a hE=>Zg hE rfl rfl rfl fun a hE=>Zc hE rfl fun a hE=>Zh (Zj ?_)))))
   exact ⟨_,(ois hs15),hE.sub ⟨rfl,rfl,rfl,rfl,rfl,rfl,trivial⟩,hM⟩
  ·intro hb18
   have hs15:=Zu hs15 hb18
   refine wp_exit (Zl (Zl (Z3 ?_)))
   obtain rfl:=hx16 _ (ois hs15)
   refine Zj ?_
   have hM:=M.fst (l:=[_,_,_,_]) hM.pull3.pull3.pull3.pull3
   exact ⟨hE.sub ⟨rfl,rfl,rfl,rfl,trivial⟩,hM⟩
 ·skip
  rintro a w ⟨hE,hM⟩
  refine Zq ?_
  obtain ⟨j32,hl33,hF34⟩:=bind_some hF13
  refine ZQ (fun a w=>Env 26 a [(2,(ptr b3 0)),(3,(ptr b5 0))] ∧ M (Old w0) w0 w [raw b5 (enc j32.2),raw b3 (enc j32.1)]) ?_ ?_
  ·skip
   have hM:=hM.pull3
   refine XQ (its:=[raw b9 (enc j11.1),raw b7 (enc j11.2),raw b5 (enc (Vector.replicate 16 (0 : UInt8)))]) (mk:=([mkT 2 (raw b3 (enc (Vector.replicate 16 (0 : UInt8)))) (raw b3 (enc j11.2))] : Mk)) [24,25,28] Y4 rfl rfl (by decide) rfl hE (fun u=>M.qT (M.q0 hM.drew u)) (qsP (v:=(Value.agg (enc j11.2).toArray)) ?_ (qsP (v:=(Value.agg (enc j11.1).toArray)) ?_ (qsM (pr:=fun v=>True) ?_ qs0))) ?_
   ·intro a w ux35 D z
    have hE:=z.E
    have hD : D 0 = false:=z.F
    have hM:=z.M.togA (pre:=[_,_,_]) (BT (j:=2) (k:=0) z.c rfl rfl rfl hD)
    exact Zn hE rfl ZG rfl hM.rawAt1 (Flat.len _) fun a hE=>⟨Kept.refl _ _,_,rfl,hE⟩
   ·intro a w ux35 D z
    have hE:=z.E
    have hM:=z.M
    exact Zn hE rfl ZG rfl hM.rawAt0 (Flat.len _) fun a hE=>⟨Kept.refl _ _,_,rfl,hE⟩
   ·intro a w ux35 D z
    have hE:=z.E
    have hD : D 2 = false:=z.F
    have hM:=(z.M.togA (pre:=[_,_,_]) hD).pull3
    exact Zk (seg:=enc j11.2) (cs':=enc j11.2) hE hM Za rfl rfl rfl ZG (Flat.len _) (zle flq) (Flat.cell _) (Zi flq) fun w a hM hE=>⟨undef,_,rfl,Env.dummy hE (by decide),M.qTog (mk1:=[]) (mk2:=[]) hM rfl,trivial⟩
   ·intro a w ux35 D hE hM hG hall
    have d2:=hall 2 (by decide)
    have hM:=(hM.togB (pre:=[_,_,_]) d2).pull2
    refine Zk (seg:=enc j11.1) (cs':=enc j11.1) hE hM Za rfl rfl rfl ZG (Flat.len _) (zle flq) (Flat.cell _) (Zi flq) fun w a hM hE=>Zh ?_
    obtain rfl:=Option.some.inj hl33
    refine Zj ?_
    have hM:=M.fst (l:=[_,_]) hM.pull3.pull1
    exact ⟨hE.sub ⟨rfl,rfl,trivial⟩,hM⟩
  ·skip
   rintro a w ⟨hE,hM⟩
   obtain rfl:=Option.some.inj hF34
   have hq37 : Yu Tryz.prog _ _ (.cell 2 68) _:=ZJ hE rfl ZG rfl hM.rawAt1 (Flat.len _) rfl
   have hq38 : Yu Tryz.prog _ _ (.cell 3 68) _:=ZJ hE rfl ZG rfl hM.rawAt0 (Flat.len _) rfl
   exact wp_ret (T0 hE rfl hq37 hq38 ⟨_,rfl,rfl,hM.kept⟩)
def VJ (p1 : (Vector UInt8 16)) (s10 : (Vector UInt8 16) × Int) : Option (Fl ((Vector UInt8 16) × Int) (Vector UInt8 16)) :=
 if (decide (s10.2 < 16)) = true then ((ZH s10.1 s10.2).bind fun x17=>(ZH p1 s10.2).bind fun x20=>(ZH s10.1 s10.2).bind fun x23=>some (Fl.nx ((s10.1.setIfInBounds (s10.2).toNat (x17 ^^^ x20)),wr (s10.2 + 1)))) else (some (Fl.ex s10.1))
def Xi (p0 : (Vector UInt8 16)) (p1 : (Vector UInt8 16)) : Option ((Vector UInt8 16)) :=
 (ZB (VJ p1) (p0,0)).bind fun j7=>some j7
theorem Uv (w0 : World) (p0 : (Vector UInt8 16)) (p1 : (Vector UInt8 16)) (r : (Vector UInt8 16)) (hF : Xi p0 p1 = some r) :
  Calls Tryz.prog 206 [(Value.agg (enc p0).toArray),(Value.agg (enc p1).toArray)].toArray w0 (Rt w0 (Value.agg (enc r).toArray)):=by
 refine ce Tryz.func206 ?_
 intro a hE
 have hM:=M.start w0
 unfold Xi at hF
 refine Zb (ZV (cs:=enc p0) hE hM Za ld rfl rfl fun b1 w a hM hE=>ZV (cs:=enc p1) hE hM Za ld rfl rfl fun b3 w a hM hE=>ZA hE hM ZG fun b5 w a hM hE=>Ze (wp_seq (Zb (Zc hE rfl fun a hE=>Ze ?_))))
 obtain ⟨j7,hl8,hF9⟩:=bind_some hF
 refine ZI (fun a w=>Env 20 a [(2,(ptr b1 0)),(4,(ptr b5 0))] ∧ M (Old w0) w0 w [raw b5 (enc (Vector.replicate 16 (0 : UInt8))),raw b1 (enc j7)]) ?_ ?_
 ·skip
  refine wp_block ?_
  refine ZD (fun (s10 : (Vector UInt8 16) × Int) a w=>Env 20 a [(2,(ptr b1 0)),(3,(ptr b3 0)),(4,(ptr b5 0)),(5,vI s10.2)] ∧ M (Old w0) w0 w [raw b5 (enc (Vector.replicate 16 (0 : UInt8))),raw b3 (enc p1),raw b1 (enc s10.1)]) hl8 ⟨hE.sub ⟨rfl,rfl,rfl,rfl,trivial⟩,hM⟩ ?_
  rintro s10 a w ⟨hE,hM⟩ o13 hs11 hx12
  unfold VJ at hs11
  refine wp_seq (Zb (Zd hE rfl fun a hE=>Zg hE rfl rfl rfl fun a hE=>Ze ?_))
  refine Zm hE rfl ?_ ?_
  ·intro hb14
   have hs11:=Zt hs11 hb14
   refine wp_skip (Zq (wp_seq (wp_block ?_)))
   obtain ⟨x17,hi16,hs11⟩:=bvx hs11
   obtain ⟨x20,hi19,hs11⟩:=bvx hs11
   obtain ⟨x23,hi22,hs11⟩:=bvx hs11
   refine Yc [10,11,12,13,14,15,16,17,18] Y4 rfl rfl (by decide) rfl hE hM (qsP (fun z=>Zv z.E Za ld rfl (kr0 rfl)) (qsP (fun z=>Zv z.E Za ld rfl (kr0 rfl)) (qsP (fun z=>ZF z.E Za ld rfl rfl Tryz.underlying68 ty5 hi16.1 (kr0 rfl)) (qsP (fun z=>ZS (v:=(vB x17)) z.E Za ld rfl ty5 rfl (At.vec (z.M.rawAt2) hi16.2) (kr0 rfl)) (qsP (fun z=>Zv z.E Za ld rfl (kr0 rfl)) (qsP (fun z=>ZF z.E Za ld rfl rfl Tryz.underlying68 ty5 hi19.1 (kr0 rfl)) (qsP (fun z=>ZS (v:=(vB x20)) z.E Za ld rfl ty5 rfl (At.vec (z.M.rawAt1) hi19.2) (kr0 rfl)) (qsP (v:=(vB (x17 ^^^ x20))) (fun z=>Yv z.E Za ld rfl rfl (Uy x17 x20) (kr0 rfl)) (qsP (fun z=>ZF z.E Za ld rfl rfl Tryz.underlying68 ty5 hi22.1 (kr0 rfl)) qs0))))))))) ?_
   ·intro a w u hE hM
    have hM:=hM.pull2
    refine Zk (seg:=[(vB (x17 ^^^ x20))]) (cs':=enc (s10.1.setIfInBounds (s10.2).toNat (x17 ^^^ x20))) hE hM Za rfl rfl rfl ty5 rfl (ZK (v:=s10.1) (x:=x17 ^^^ x20) hi22.1) (Flat.cell (x17 ^^^ x20 : UInt8)) (ZE (v:=s10.1) (x:=x17 ^^^ x20) hi22.1) fun w a hM hE=>Zh (Z2 (Zq (wp_region_lit (Zd hE rfl fun a hE=>Zg hE rfl rfl rfl fun a hE=>Zc hE rfl fun a hE=>Zh (Zj ?_)))))
    have hM:=hM.pull2.pull2
    exact ⟨_,(ois hs11),hE.sub ⟨rfl,rfl,rfl,rfl,trivial⟩,hM⟩
  ·intro hb14
   have hs11:=Zu hs11 hb14
   refine wp_exit (Zl (Zl (Z3 ?_)))
   obtain rfl:=hx12 _ (ois hs11)
   refine Zj ?_
   have hM:=M.fst (l:=[_,_]) hM.pull2.pull1
   exact ⟨hE.sub ⟨rfl,rfl,trivial⟩,hM⟩
 ·skip
  rintro a w ⟨hE,hM⟩
  refine Zq (Zb (Zn hE rfl ZG rfl hM.rawAt1 (Flat.len _) fun a hE=>Zk (seg:=enc j7) (cs':=enc j7) hE hM Za rfl rfl rfl ZG (Flat.len _) (zle flq) (Flat.cell _) (Zi flq) fun w a hM hE=>Ze ?_))
  obtain rfl:=Option.some.inj hF9
  have hq26 : Yu Tryz.prog _ _ (.cell 4 68) _:=ZJ hE rfl ZG rfl hM.rawAt0 (Flat.len _) rfl
  exact wp_ret (ZL hE rfl hq26 ⟨_,rfl,rfl,hM.kept⟩)
def W9 (p0 : (Vector UInt8 256)) (p2 : Int) (s10 : (Vector UInt8 16) × Int) : Option (Fl ((Vector UInt8 16) × Int) (Vector UInt8 16)) :=
 if (decide (s10.2 < 16)) = true then (((ZH s10.1 (Int.tmod (wr (s10.2 + 15)) 16)).bind fun x19=>(if (s10.2 == 0) = true then (some (x19 ^^^ (Zy p2))) else (some x19) : Option (UInt8)).bind fun j21=>(ZH s10.1 s10.2).bind fun x29=>(ZH p0 (bI j21)).bind fun x32=>(ZH s10.1 s10.2).bind fun x35=>some (s10.1.setIfInBounds (s10.2).toNat (x29 ^^^ x32)) : Option ((Vector UInt8 16))).bind fun j15=>some (Fl.nx (j15,wr (s10.2 + 1)))) else (some (Fl.ex s10.1))
def UI (p0 : (Vector UInt8 256)) (p1 : (Vector UInt8 16)) (p2 : Int) : Option ((Vector UInt8 16)) :=
 (ZB (W9 p0 p2) (p1,0)).bind fun j7=>some j7
theorem Aq (w0 : World) (p0 : (Vector UInt8 256)) (p1 : (Vector UInt8 16)) (p2 : Int) (r : (Vector UInt8 16)) (hF : UI p0 p1 p2 = some r) :
  Calls Tryz.prog 239 [(Value.agg (enc p0).toArray),(Value.agg (enc p1).toArray),vI p2].toArray w0 (Rt w0 (Value.agg (enc r).toArray)):=by
 refine ce Tryz.func239 ?_
 intro a hE
 have hM:=M.start w0
 unfold UI at hF
 refine Zb (ZV (cs:=enc p0) hE hM Za ld rfl rfl fun b1 w a hM hE=>ZV (cs:=enc p1) hE hM Za ld rfl rfl fun b3 w a hM hE=>ZA hE hM ZG fun b5 w a hM hE=>Ze (wp_seq (Zb (Zc hE rfl fun a hE=>Ze ?_))))
 obtain ⟨j7,hl8,hF9⟩:=bind_some hF
 refine ZI (fun a w=>Env 34 a [(4,(ptr b3 0)),(6,(ptr b5 0))] ∧ M (Old w0) w0 w [raw b5 (enc (Vector.replicate 16 (0 : UInt8))),raw b3 (enc j7)]) ?_ ?_
 ·skip
  refine wp_block ?_
  refine ZD (fun (s10 : (Vector UInt8 16) × Int) a w=>Env 34 a [(2,vI p2),(3,(ptr b1 0)),(4,(ptr b3 0)),(6,(ptr b5 0)),(7,vI s10.2)] ∧ M (Old w0) w0 w [raw b5 (enc (Vector.replicate 16 (0 : UInt8))),raw b3 (enc s10.1),raw b1 (enc p0)]) hl8 ⟨hE.sub ⟨rfl,rfl,rfl,rfl,rfl,trivial⟩,hM⟩ ?_
  rintro s10 a w ⟨hE,hM⟩ o13 hs11 hx12
  unfold W9 at hs11
  refine wp_seq (Zb (Zd hE rfl fun a hE=>Zg hE rfl rfl rfl fun a hE=>Ze ?_))
  refine Zm hE rfl ?_ ?_
  ·intro hb14
   have hs11:=Zt hs11 hb14
   refine wp_skip (Zq ?_)
   obtain ⟨j15,hl16,hF17⟩:=bind_some hs11
   refine ZQ (fun a w=>Env 34 a [(2,vI p2),(3,(ptr b1 0)),(4,(ptr b3 0)),(6,(ptr b5 0)),(7,vI s10.2)] ∧ M (Old w0) w0 w [raw b5 (enc (Vector.replicate 16 (0 : UInt8))),raw b3 (enc j15),raw b1 (enc p0)]) ?_ ?_
   ·skip
    refine wp_block (Zb (Zd hE rfl fun a hE=>Zg hE rfl rfl rfl fun a hE=>Zg hE rfl rfl (QJ _ _ (by decide)) ?_)); intro a hE
    obtain ⟨x19,hi18,hl16⟩:=bvx hl16
    refine ZC hE rfl rfl Tryz.underlying68 ty5 hi18.1 fun a hE=>Zw (v:=(vB x19)) hE rfl ty5 rfl (At.vec hM.rawAt1 hi18.2) fun a hE=>Zc hE rfl fun a hE=>Ze ?_
    obtain ⟨j21,hl22,hF23⟩:=bind_some hl16
    refine ZQ (fun a w=>Env 34 a [(2,vI p2),(3,(ptr b1 0)),(4,(ptr b3 0)),(6,(ptr b5 0)),(7,vI s10.2),(8,vB j21)] ∧ M (Old w0) w0 w [raw b5 (enc (Vector.replicate 16 (0 : UInt8))),raw b3 (enc s10.1),raw b1 (enc p0)]) ?_ ?_
    ·skip
     refine Zb (Zd hE rfl fun a hE=>Zg hE rfl rfl rfl fun a hE=>Ze ?_)
     refine Zm hE rfl ?_ ?_
     ·intro hb24
      have hl22:=Zt hl22 hb24
      refine wp_region_lit (Zd hE rfl fun a hE=>Zd hE rfl fun a hE=>Yj hE Za ld rfl Tryz.underlying2 Tryz.underlying5 fun a hE=>Zg hE rfl rfl (Uy x19 (Zy p2)) fun a hE=>Zc hE rfl fun a hE=>Zh ?_)
      obtain rfl:=Option.some.inj hl22
      refine Zj ?_
      exact ⟨hE.sub ⟨rfl,rfl,rfl,rfl,rfl,rfl,trivial⟩,hM⟩
     ·intro hb24
      have hl22:=Zu hl22 hb24
      refine wp_skip ?_
      obtain rfl:=Option.some.inj hl22
      refine Zj ?_
      exact ⟨hE.sub ⟨rfl,rfl,rfl,rfl,rfl,rfl,trivial⟩,hM⟩
    ·skip
     rintro a w ⟨hE,hM⟩
     obtain ⟨x29,hi28,hF23⟩:=bvx hF23
     obtain ⟨x32,hi31,hF23⟩:=bvx hF23
     obtain ⟨x35,hi34,hF23⟩:=bvx hF23
     refine Yc [24,25,26,27,28,29,30,31,32] Y4 rfl rfl (by decide) rfl hE hM (qsP (fun z=>Zv z.E Za ld rfl (kr0 rfl)) (qsP (fun z=>Zv z.E Za ld rfl (kr0 rfl)) (qsP (fun z=>ZF z.E Za ld rfl rfl Tryz.underlying68 ty5 hi28.1 (kr0 rfl)) (qsP (fun z=>ZS (v:=(vB x29)) z.E Za ld rfl ty5 rfl (At.vec (z.M.rawAt1) hi28.2) (kr0 rfl)) (qsP (fun z=>Zv z.E Za ld rfl (kr0 rfl)) (qsP (fun z=>ZF z.E Za ld rfl rfl Tryz.underlying157 ty5 hi31.1 (kr0 rfl)) (qsP (fun z=>ZS (v:=(vB x32)) z.E Za ld rfl ty5 rfl (At.vec (z.M.rawAt2) hi31.2) (kr0 rfl)) (qsP (v:=(vB (x29 ^^^ x32))) (fun z=>Yv z.E Za ld rfl rfl (Uy x29 x32) (kr0 rfl)) (qsP (fun z=>ZF z.E Za ld rfl rfl Tryz.underlying68 ty5 hi34.1 (kr0 rfl)) qs0))))))))) ?_
     ·intro a w u hE hM
      have hM:=hM.pull1
      refine Zk (seg:=[(vB (x29 ^^^ x32))]) (cs':=enc (s10.1.setIfInBounds (s10.2).toNat (x29 ^^^ x32))) hE hM Za rfl rfl rfl ty5 rfl (ZK (v:=s10.1) (x:=x29 ^^^ x32) hi34.1) (Flat.cell (x29 ^^^ x32 : UInt8)) (ZE (v:=s10.1) (x:=x29 ^^^ x32) hi34.1) fun w a hM hE=>Zh (Z2 ?_)
      obtain rfl:=Option.some.inj hF23
      refine Zj ?_
      have hM:=hM.pull2.pull1.pull2
      exact ⟨hE.sub ⟨rfl,rfl,rfl,rfl,rfl,trivial⟩,hM⟩
   ·skip
    rintro a w ⟨hE,hM⟩
    refine wp_region_lit (Zd hE rfl fun a hE=>Zg hE rfl rfl rfl fun a hE=>Zc hE rfl fun a hE=>Zh (Zj ?_))
    exact ⟨_,(ois hF17),hE.sub ⟨rfl,rfl,rfl,rfl,rfl,trivial⟩,hM⟩
  ·intro hb14
   have hs11:=Zu hs11 hb14
   refine wp_exit (Zl (Zl (Z3 ?_)))
   obtain rfl:=hx12 _ (ois hs11)
   refine Zj ?_
   have hM:=M.fst (l:=[_,_]) hM.pull1.pull1
   exact ⟨hE.sub ⟨rfl,rfl,trivial⟩,hM⟩
 ·skip
  rintro a w ⟨hE,hM⟩
  refine Zq (Zb (Zn hE rfl ZG rfl hM.rawAt1 (Flat.len _) fun a hE=>Zk (seg:=enc j7) (cs':=enc j7) hE hM Za rfl rfl rfl ZG (Flat.len _) (zle flq) (Flat.cell _) (Zi flq) fun w a hM hE=>Ze ?_))
  obtain rfl:=Option.some.inj hF9
  have hq39 : Yu Tryz.prog _ _ (.cell 6 68) _:=ZJ hE rfl ZG rfl hM.rawAt0 (Flat.len _) rfl
  exact wp_ret (ZL hE rfl hq39 ⟨_,rfl,rfl,hM.kept⟩)
def W5 (p0 : GCipher) (p2 : Int) (s12 : (Vector UInt8 16) × (List (Vector UInt8 16)) × Int) : Option (Fl ((Vector UInt8 16) × (List (Vector UInt8 16)) × Int) (List (Vector UInt8 16))) :=
 if (decide (s12.2.2 ≤ p2)) = true then ((UI p0.Box s12.1 s12.2.2).bind fun r19=>(app 16 s12.2.1 ([r19] : List (Vector UInt8 16))).bind fun l23=>some (Fl.nx (r19,(s12.2.1 ++ ([r19] : List (Vector UInt8 16))),wr (s12.2.2 + 1)))) else (some (Fl.ex s12.2.1))
def UY (p0 : GCipher) (p1 : (Vector UInt8 16)) (p2 : Int) : Option ((List (Vector UInt8 16))) :=
 (ZB (W5 p0 p2) (p1,([p1] : List (Vector UInt8 16)),1)).bind fun j7=>some j7
theorem B1 (w0 : World) (p0 : GCipher) (p1 : (Vector UInt8 16)) (p2 : Int) (r : (List (Vector UInt8 16))) (hF : UY p0 p1 p2 = some r) :
  Calls Tryz.prog 228 [(Value.agg (enc p0).toArray),(Value.agg (enc p1).toArray),vI p2].toArray w0 (fun en w'=>∃ v,en = .returned v ∧ (∃ (y1 : Value),v = y1 ∧ Fr w0 w' [osl NoB (r : List (Vector UInt8 16)) y1] ∧ Kept (Old w0) w0 w')):=by
 refine ce Tryz.func228 ?_
 intro a hE
 have hM:=M.start w0
 unfold UY at hF
 refine Zb (ZV (cs:=cat [[vI p0.Field],enc p0.Box,enc p0.Mix,enc p0.Places,[vI p0.Rounds]]) hE hM Za ld rfl rfl fun b1 w a hM hE=>ZV (cs:=enc p1) hE hM Za ld rfl rfl fun b3 w a hM hE=>Zc hE rfl fun a hE=>Ze (Zb (Zn hE rfl ZG rfl hM.rawAt0 (Flat.len _) fun a hE=>Yi (xs:=[.tmp 9]) (l:=([p1] : List (Vector UInt8 16))) (vs:=[(Value.agg (enc p1).toArray)]) hE hM Za ld rfl rfl Tryz.underlying54 ZG rfl (by decide) rfl fun u5 w a hM hE=>Zc hE rfl fun a hE=>Ze (wp_seq (Zb (Zc hE rfl fun a hE=>Ze ?_))))))
 obtain ⟨j7,hl8,hF9⟩:=bind_some hF
 refine ZI (fun a w=>∃ (u10 : Value),Env 26 a [(7,u10)] ∧ M (Old w0) w0 w [osl NoB (j7 : List (Vector UInt8 16)) u10]) ?_ ?_
 ·skip
  refine wp_block ?_
  have hM:=hM.pull2.pull2
  refine ZD (fun (s12 : (Vector UInt8 16) × (List (Vector UInt8 16)) × Int) a w=>∃ (u13 : Value),Env 26 a [(2,vI p2),(3,(ptr b1 0)),(4,(ptr b3 0)),(7,u13),(8,vI s12.2.2)] ∧ M (Old w0) w0 w [raw b3 (enc s12.1),raw b1 (cat [[vI p0.Field],enc p0.Box,enc p0.Mix,enc p0.Places,[vI p0.Rounds]]),osl NoB (s12.2.1 : List (Vector UInt8 16)) u13]) hl8 ⟨u5,hE.sub ⟨rfl,rfl,rfl,rfl,rfl,trivial⟩,hM⟩ ?_
  rintro s12 a w ⟨u13,hE,hM⟩ o17 hs15 hx16
  unfold W5 at hs15
  refine wp_seq (Zb (Zd hE rfl fun a hE=>Zd hE rfl fun a hE=>Zg hE rfl rfl rfl fun a hE=>Ze ?_))
  refine Zm hE rfl ?_ ?_
  ·intro hb18
   have hs15:=Zt hs15 hb18
   refine wp_skip (Zq (wp_seq (wp_block (Zb (Zf hE rfl (KI) fun a hE=>Zn hE rfl XD rfl (At.cat (pre:=[[vI p0.Field]]) hM.rawAt1 ck) (Flat.len _) fun a hE=>Zn hE rfl ZG rfl hM.rawAt0 (Flat.len _) fun a hE=>Zd hE rfl ?_))))); intro a hE
   obtain ⟨r19,e20,hs15⟩:=bind_some hs15
   refine Zx hE rfl (cbm Tryz.func239) (Aq _ p0.Box s12.1 s12.2.2 r19 e20) ?_
   rintro v w a ⟨rfl,hK⟩ hE
   have hM:=hM.keep hK
   refine Zk (seg:=enc r19) (cs':=enc r19) hE hM Za rfl rfl rfl ZG (Flat.len _) (zle flq) (Flat.cell _) (Zi flq) fun w a hM hE=>Ze (wp_region_lit (Zd hE rfl fun a hE=>Zn hE rfl ZG rfl hM.rawAt0 (Flat.len _) fun a hE=>Yi (xs:=[.tmp 22]) (l:=([r19] : List (Vector UInt8 16))) (vs:=[(Value.agg (enc r19).toArray)]) hE hM Za ld rfl rfl Tryz.underlying54 ZG rfl (by decide) rfl ?_)); intro u21 w a hM hE
   obtain ⟨l23,e24,hs15⟩:=bind_some hs15
   obtain ⟨e27,rfl⟩:=Yr e24
   have hM:=hM.pull3
   refine Yh hE hM Za ld rfl rfl (hM.sl (pre:=[_]) noB) Tryz.underlying54 ZG rfl (by decide) e27 fun u25 w a hM hE=>Zc hE rfl fun a hE=>Zh (Z2 (Zq (wp_region_lit (Zd hE rfl fun a hE=>Zg hE rfl rfl rfl fun a hE=>Zc hE rfl fun a hE=>Zh (Zj ?_)))))
   have hM:=M.fst (l:=[_,_,_]) hM.pull3.pull3
   exact ⟨_,(ois hs15),u25,hE.sub ⟨rfl,rfl,rfl,rfl,rfl,trivial⟩,hM⟩
  ·intro hb18
   have hs15:=Zu hs15 hb18
   refine wp_exit (Zl (Zl (Z3 ?_)))
   obtain rfl:=hx16 _ (ois hs15)
   refine Zj ?_
   have hM:=M.fst (l:=[_]) hM.pull2
   exact ⟨u13,hE.sub ⟨rfl,trivial⟩,hM⟩
 ·skip
  rintro a w ⟨u10,hE,hM⟩
  refine Zq (Zb (Zd hE rfl fun a hE=>Zc hE rfl fun a hE=>Ze ?_))
  obtain rfl:=Option.some.inj hF9
  exact wp_ret (ZL hE rfl (ZT hE rfl) ⟨_,rfl,u10,rfl,hM.outF (Yq Xy),hM.kept⟩)
def WA (p0 : (Vector UInt8 256)) (s10 : (Vector UInt8 16) × Int) : Option (Fl ((Vector UInt8 16) × Int) (Vector UInt8 16)) :=
 if (decide (s10.2 < 16)) = true then ((ZH s10.1 s10.2).bind fun x16=>(ZH p0 (bI x16)).bind fun x19=>(ZH s10.1 s10.2).bind fun x22=>some (Fl.nx ((s10.1.setIfInBounds (s10.2).toNat x19),wr (s10.2 + 1)))) else (some (Fl.ex s10.1))
def Ut (p0 : (Vector UInt8 256)) (p1 : (Vector UInt8 16)) : Option ((Vector UInt8 16)) :=
 (ZB (WA p0) (p1,0)).bind fun j7=>some j7
theorem Bf (w0 : World) (p0 : (Vector UInt8 256)) (p1 : (Vector UInt8 16)) (r : (Vector UInt8 16)) (hF : Ut p0 p1 = some r) :
  Calls Tryz.prog 230 [(Value.agg (enc p0).toArray),(Value.agg (enc p1).toArray)].toArray w0 (Rt w0 (Value.agg (enc r).toArray)):=by
 refine ce Tryz.func230 ?_
 intro a hE
 have hM:=M.start w0
 unfold Ut at hF
 refine Zb (ZV (cs:=enc p0) hE hM Za ld rfl rfl fun b1 w a hM hE=>ZV (cs:=enc p1) hE hM Za ld rfl rfl fun b3 w a hM hE=>ZA hE hM ZG fun b5 w a hM hE=>Ze (wp_seq (Zb (Zc hE rfl fun a hE=>Ze ?_))))
 obtain ⟨j7,hl8,hF9⟩:=bind_some hF
 refine ZI (fun a w=>Env 18 a [(3,(ptr b3 0)),(4,(ptr b5 0))] ∧ M (Old w0) w0 w [raw b5 (enc (Vector.replicate 16 (0 : UInt8))),raw b3 (enc j7)]) ?_ ?_
 ·skip
  refine wp_block ?_
  refine ZD (fun (s10 : (Vector UInt8 16) × Int) a w=>Env 18 a [(2,(ptr b1 0)),(3,(ptr b3 0)),(4,(ptr b5 0)),(5,vI s10.2)] ∧ M (Old w0) w0 w [raw b5 (enc (Vector.replicate 16 (0 : UInt8))),raw b3 (enc s10.1),raw b1 (enc p0)]) hl8 ⟨hE.sub ⟨rfl,rfl,rfl,rfl,trivial⟩,hM⟩ ?_
  rintro s10 a w ⟨hE,hM⟩ o13 hs11 hx12
  unfold WA at hs11
  refine wp_seq (Zb (Zd hE rfl fun a hE=>Zg hE rfl rfl rfl fun a hE=>Ze ?_))
  refine Zm hE rfl ?_ ?_
  ·intro hb14
   have hs11:=Zt hs11 hb14
   refine wp_skip (Zq (wp_seq (wp_block (wp_region_lit (Zd hE rfl fun a hE=>Zd hE rfl ?_))))); intro a hE
   obtain ⟨x16,hi15,hs11⟩:=bvx hs11
   refine ZC hE rfl rfl Tryz.underlying68 ty5 hi15.1 fun a hE=>Zw (v:=(vB x16)) hE rfl ty5 rfl (At.vec hM.rawAt1 hi15.2) ?_; intro a hE
   obtain ⟨x19,hi18,hs11⟩:=bvx hs11
   refine ZC hE rfl rfl Tryz.underlying157 ty5 hi18.1 fun a hE=>Zw (v:=(vB x19)) hE rfl ty5 rfl (At.vec hM.rawAt2 hi18.2) ?_; intro a hE
   obtain ⟨x22,hi21,hs11⟩:=bvx hs11
   refine ZC hE rfl rfl Tryz.underlying68 ty5 hi21.1 ?_; intro a hE
   have hM:=hM.pull1
   refine Zk (seg:=[vB x19]) (cs':=enc (s10.1.setIfInBounds (s10.2).toNat x19)) hE hM Za rfl rfl rfl ty5 rfl (ZK (v:=s10.1) (x:=x19) hi21.1) (Flat.cell (x19 : UInt8)) (ZE (v:=s10.1) (x:=x19) hi21.1) fun w a hM hE=>Zh (Z2 (Zq (wp_region_lit (Zd hE rfl fun a hE=>Zg hE rfl rfl rfl fun a hE=>Zc hE rfl fun a hE=>Zh (Zj ?_)))))
   have hM:=hM.pull2.pull1.pull2
   exact ⟨_,(ois hs11),hE.sub ⟨rfl,rfl,rfl,rfl,trivial⟩,hM⟩
  ·intro hb14
   have hs11:=Zu hs11 hb14
   refine wp_exit (Zl (Zl (Z3 ?_)))
   obtain rfl:=hx12 _ (ois hs11)
   refine Zj ?_
   have hM:=M.fst (l:=[_,_]) hM.pull1.pull1
   exact ⟨hE.sub ⟨rfl,rfl,trivial⟩,hM⟩
 ·skip
  rintro a w ⟨hE,hM⟩
  refine Zq (Zb (Zn hE rfl ZG rfl hM.rawAt1 (Flat.len _) fun a hE=>Zk (seg:=enc j7) (cs':=enc j7) hE hM Za rfl rfl rfl ZG (Flat.len _) (zle flq) (Flat.cell _) (Zi flq) fun w a hM hE=>Ze ?_))
  obtain rfl:=Option.some.inj hF9
  have hq25 : Yu Tryz.prog _ _ (.cell 4 68) _:=ZJ hE rfl ZG rfl hM.rawAt0 (Flat.len _) rfl
  exact wp_ret (ZL hE rfl hq25 ⟨_,rfl,rfl,hM.kept⟩)
def W8 (p0 : (Vector UInt8 16)) (p1 : (Vector UInt8 16)) (s12 : (Vector UInt8 16) × Int) : Option (Fl ((Vector UInt8 16) × Int) (Vector UInt8 16)) :=
 if (decide (s12.2 < 16)) = true then ((ZH p0 s12.2).bind fun x18=>(ZH p1 (bI x18)).bind fun x21=>(ZH s12.1 s12.2).bind fun x24=>some (Fl.nx ((s12.1.setIfInBounds (s12.2).toNat x21),wr (s12.2 + 1)))) else (some (Fl.ex s12.1))
def UK (p0 : (Vector UInt8 16)) (p1 : (Vector UInt8 16)) : Option ((Vector UInt8 16)) :=
 (ZB (W8 p0 p1) ((Vector.replicate 16 (0 : UInt8)),0)).bind fun j9=>some j9
theorem Al (w0 : World) (p0 : (Vector UInt8 16)) (p1 : (Vector UInt8 16)) (r : (Vector UInt8 16)) (hF : UK p0 p1 = some r) :
  Calls Tryz.prog 229 [(Value.agg (enc p0).toArray),(Value.agg (enc p1).toArray)].toArray w0 (Rt w0 (Value.agg (enc r).toArray)):=by
 refine ce Tryz.func229 ?_
 intro a hE
 have hM:=M.start w0
 unfold UK at hF
 refine Zb (ZV (cs:=enc p0) hE hM Za ld rfl rfl fun b1 w a hM hE=>ZV (cs:=enc p1) hE hM Za ld rfl rfl fun b3 w a hM hE=>ZA hE hM ZG fun b5 w a hM hE=>Ze (Zb (XF (parts:=[]) (vs:=[]) (cs:=enc (Vector.replicate 16 (0 : UInt8))) hE Za ld rfl rfl ZG rfl ty5 YZ fun a hE=>ZA hE hM ZG fun b7 w a hM hE=>Zk (seg:=enc (Vector.replicate 16 (0 : UInt8))) (cs':=enc (Vector.replicate 16 (0 : UInt8))) hE hM Za rfl rfl rfl ZG (Flat.len _) (zle flq) (Flat.cell _) (Zi flq) fun w a hM hE=>Ze (wp_seq (Zb (Zc hE rfl fun a hE=>Ze ?_))))))
 obtain ⟨j9,hl10,hF11⟩:=bind_some hF
 refine ZI (fun a w=>Env 20 a [(4,(ptr b5 0)),(5,(ptr b7 0))] ∧ M (Old w0) w0 w [raw b7 (enc j9),raw b5 (enc (Vector.replicate 16 (0 : UInt8)))]) ?_ ?_
 ·skip
  refine wp_block ?_
  refine ZD (fun (s12 : (Vector UInt8 16) × Int) a w=>Env 20 a [(2,(ptr b1 0)),(3,(ptr b3 0)),(4,(ptr b5 0)),(5,(ptr b7 0)),(6,vI s12.2)] ∧ M (Old w0) w0 w [raw b7 (enc s12.1),raw b5 (enc (Vector.replicate 16 (0 : UInt8))),raw b3 (enc p1),raw b1 (enc p0)]) hl10 ⟨hE.sub ⟨rfl,rfl,rfl,rfl,rfl,trivial⟩,hM⟩ ?_
  rintro s12 a w ⟨hE,hM⟩ o15 hs13 hx14
  unfold W8 at hs13
  refine wp_seq (Zb (Zd hE rfl fun a hE=>Zg hE rfl rfl rfl fun a hE=>Ze ?_))
  refine Zm hE rfl ?_ ?_
  ·intro hb16
   have hs13:=Zt hs13 hb16
   refine wp_skip (Zq (wp_seq (wp_block (wp_region_lit (Zd hE rfl fun a hE=>Zd hE rfl ?_))))); intro a hE
   obtain ⟨x18,hi17,hs13⟩:=bvx hs13
   refine ZC hE rfl rfl Tryz.underlying161 ty5 hi17.1 fun a hE=>Zw (v:=(vB x18)) hE rfl ty5 rfl (At.vec hM.rawAt3 hi17.2) ?_; intro a hE
   obtain ⟨x21,hi20,hs13⟩:=bvx hs13
   refine ZC hE rfl rfl Tryz.underlying68 ty5 hi20.1 fun a hE=>Zw (v:=(vB x21)) hE rfl ty5 rfl (At.vec hM.rawAt2 hi20.2) ?_; intro a hE
   obtain ⟨x24,hi23,hs13⟩:=bvx hs13
   refine ZC hE rfl rfl Tryz.underlying68 ty5 hi23.1 fun a hE=>Zk (seg:=[vB x21]) (cs':=enc (s12.1.setIfInBounds (s12.2).toNat x21)) hE hM Za rfl rfl rfl ty5 rfl (ZK (v:=s12.1) (x:=x21) hi23.1) (Flat.cell (x21 : UInt8)) (ZE (v:=s12.1) (x:=x21) hi23.1) fun w a hM hE=>Zh (Z2 (Zq (wp_region_lit (Zd hE rfl fun a hE=>Zg hE rfl rfl rfl fun a hE=>Zc hE rfl fun a hE=>Zh (Zj ?_)))))
   exact ⟨_,(ois hs13),hE.sub ⟨rfl,rfl,rfl,rfl,rfl,trivial⟩,hM⟩
  ·intro hb16
   have hs13:=Zu hs13 hb16
   refine wp_exit (Zl (Zl (Z3 ?_)))
   obtain rfl:=hx14 _ (ois hs13)
   refine Zj ?_
   have hM:=M.fst (l:=[_,_]) hM.pull1.pull1
   exact ⟨hE.sub ⟨rfl,rfl,trivial⟩,hM⟩
 ·skip
  rintro a w ⟨hE,hM⟩
  refine Zq (Zb (Zn hE rfl ZG rfl hM.rawAt0 (Flat.len _) ?_)); intro a hE
  have hM:=hM.pull1
  refine Zk (seg:=enc j9) (cs':=enc j9) hE hM Za rfl rfl rfl ZG (Flat.len _) (zle flq) (Flat.cell _) (Zi flq) fun w a hM hE=>Ze ?_
  obtain rfl:=Option.some.inj hF11
  have hq27 : Yu Tryz.prog _ _ (.cell 4 68) _:=ZJ hE rfl ZG rfl hM.rawAt0 (Flat.len _) rfl
  exact wp_ret (ZL hE rfl hq27 ⟨_,rfl,rfl,hM.kept⟩)
def XZ (p0 : Int) (p1 : (Vector (Vector UInt8 4) 4)) (p2 : (Vector UInt8 16)) (s12 : (Vector UInt8 16) × Int) (s20 : (Vector UInt8 16) × Int) (s28 : (Vector UInt8 16) × Int) : Option (Fl ((Vector UInt8 16) × Int) (Vector UInt8 16)) :=
 if (decide (s28.2 < 4)) = true then ((ZH s28.1 (wr ((wr (4 * s12.2)) + s20.2))).bind fun x35=>(ZH p1 s20.2).bind fun x38=>(ZH x38 s28.2).bind fun x41=>(ZH p2 (wr ((wr (4 * s12.2)) + s28.2))).bind fun x44=>(YS p0 x41 x44).bind fun r46=>(ZH s28.1 (wr ((wr (4 * s12.2)) + s20.2))).bind fun x49=>some (Fl.nx ((s28.1.setIfInBounds ((wr ((wr (4 * s12.2)) + s20.2))).toNat (x35 ^^^ r46)),wr (s28.2 + 1)))) else (some (Fl.ex s28.1))
def VN (p0 : Int) (p1 : (Vector (Vector UInt8 4) 4)) (p2 : (Vector UInt8 16)) (s12 : (Vector UInt8 16) × Int) (s20 : (Vector UInt8 16) × Int) : Option (Fl ((Vector UInt8 16) × Int) (Vector UInt8 16)) :=
 if (decide (s20.2 < 4)) = true then ((ZB (XZ p0 p1 p2 s12 s20) (s20.1,0)).bind fun j25=>some (Fl.nx (j25,wr (s20.2 + 1)))) else (some (Fl.ex s20.1))
def VV (p0 : Int) (p1 : (Vector (Vector UInt8 4) 4)) (p2 : (Vector UInt8 16)) (s12 : (Vector UInt8 16) × Int) : Option (Fl ((Vector UInt8 16) × Int) (Vector UInt8 16)) :=
 if (decide (s12.2 < 4)) = true then ((ZB (VN p0 p1 p2 s12) (s12.1,0)).bind fun j17=>some (Fl.nx (j17,wr (s12.2 + 1)))) else (some (Fl.ex s12.1))
def Tr (p0 : Int) (p1 : (Vector (Vector UInt8 4) 4)) (p2 : (Vector UInt8 16)) : Option ((Vector UInt8 16)) :=
 (ZB (VV p0 p1 p2) ((Vector.replicate 16 (0 : UInt8)),0)).bind fun j9=>some j9
theorem AN (w0 : World) (p0 : Int) (p1 : (Vector (Vector UInt8 4) 4)) (p2 : (Vector UInt8 16)) (r : (Vector UInt8 16)) (hF : Tr p0 p1 p2 = some r) :
  Calls Tryz.prog 231 [vI p0,(Value.agg (enc p1).toArray),(Value.agg (enc p2).toArray)].toArray w0 (Rt w0 (Value.agg (enc r).toArray)):=by
 refine ce Tryz.func231 ?_
 intro a hE
 have hM:=M.start w0
 unfold Tr at hF
 refine Zb (ZV (cs:=enc p1) hE hM Za ld rfl rfl fun b1 w a hM hE=>ZV (cs:=enc p2) hE hM Za ld rfl rfl fun b3 w a hM hE=>ZA hE hM ZG fun b5 w a hM hE=>Ze (Zb (XF (parts:=[]) (vs:=[]) (cs:=enc (Vector.replicate 16 (0 : UInt8))) hE Za ld rfl rfl ZG rfl ty5 YZ fun a hE=>ZA hE hM ZG fun b7 w a hM hE=>Zk (seg:=enc (Vector.replicate 16 (0 : UInt8))) (cs':=enc (Vector.replicate 16 (0 : UInt8))) hE hM Za rfl rfl rfl ZG (Flat.len _) (zle flq) (Flat.cell _) (Zi flq) fun w a hM hE=>Ze (wp_seq (Zb (Zc hE rfl fun a hE=>Ze ?_))))))
 obtain ⟨j9,hl10,hF11⟩:=bind_some hF
 refine ZI (fun a w=>Env 50 a [(6,(ptr b5 0)),(7,(ptr b7 0))] ∧ M (Old w0) w0 w [raw b7 (enc j9),raw b5 (enc (Vector.replicate 16 (0 : UInt8)))]) ?_ ?_
 ·skip
  refine wp_block ?_
  refine ZD (fun (s12 : (Vector UInt8 16) × Int) a w=>Env 50 a [(0,vI p0),(4,(ptr b1 0)),(5,(ptr b3 0)),(6,(ptr b5 0)),(7,(ptr b7 0)),(8,vI s12.2)] ∧ M (Old w0) w0 w [raw b7 (enc s12.1),raw b5 (enc (Vector.replicate 16 (0 : UInt8))),raw b3 (enc p2),raw b1 (enc p1)]) hl10 ⟨hE.sub ⟨rfl,rfl,rfl,rfl,rfl,rfl,trivial⟩,hM⟩ ?_
  rintro s12 a w ⟨hE,hM⟩ o15 hs13 hx14
  unfold VV at hs13
  refine wp_seq (Zb (Zd hE rfl fun a hE=>Zg hE rfl rfl rfl fun a hE=>Ze ?_))
  refine Zm hE rfl ?_ ?_
  ·intro hb16
   have hs13:=Zt hs13 hb16
   refine wp_skip (Zq (wp_seq (wp_block (Zb (Zc hE rfl fun a hE=>Ze ?_)))))
   obtain ⟨j17,hl18,hF19⟩:=bind_some hs13
   refine ZI (fun a w=>Env 50 a [(0,vI p0),(4,(ptr b1 0)),(5,(ptr b3 0)),(6,(ptr b5 0)),(7,(ptr b7 0)),(8,vI s12.2)] ∧ M (Old w0) w0 w [raw b7 (enc j17),raw b5 (enc (Vector.replicate 16 (0 : UInt8))),raw b3 (enc p2),raw b1 (enc p1)]) ?_ ?_
   ·skip
    refine wp_block ?_
    refine ZD (fun (s20 : (Vector UInt8 16) × Int) a w=>Env 50 a [(0,vI p0),(4,(ptr b1 0)),(5,(ptr b3 0)),(6,(ptr b5 0)),(7,(ptr b7 0)),(8,vI s12.2),(9,vI s20.2)] ∧ M (Old w0) w0 w [raw b7 (enc s20.1),raw b5 (enc (Vector.replicate 16 (0 : UInt8))),raw b3 (enc p2),raw b1 (enc p1)]) hl18 ⟨hE.sub ⟨rfl,rfl,rfl,rfl,rfl,rfl,rfl,trivial⟩,hM⟩ ?_
    rintro s20 a w ⟨hE,hM⟩ o23 hs21 hx22
    unfold VN at hs21
    refine wp_seq (Zb (Zd hE rfl fun a hE=>Zg hE rfl rfl rfl fun a hE=>Ze ?_))
    refine Zm hE rfl ?_ ?_
    ·intro hb24
     have hs21:=Zt hs21 hb24
     refine wp_skip (Zq (wp_seq (wp_block (Zb (Zc hE rfl fun a hE=>Ze ?_)))))
     obtain ⟨j25,hl26,hF27⟩:=bind_some hs21
     refine ZI (fun a w=>Env 50 a [(0,vI p0),(4,(ptr b1 0)),(5,(ptr b3 0)),(6,(ptr b5 0)),(7,(ptr b7 0)),(8,vI s12.2),(9,vI s20.2)] ∧ M (Old w0) w0 w [raw b7 (enc j25),raw b5 (enc (Vector.replicate 16 (0 : UInt8))),raw b3 (enc p2),raw b1 (enc p1)]) ?_ ?_
     ·skip
      refine wp_block ?_
      refine ZD (fun (s28 : (Vector UInt8 16) × Int) a w=>Env 50 a [(0,vI p0),(4,(ptr b1 0)),(5,(ptr b3 0)),(6,(ptr b5 0)),(7,(ptr b7 0)),(8,vI s12.2),(9,vI s20.2),(10,vI s28.2)] ∧ M (Old w0) w0 w [raw b7 (enc s28.1),raw b5 (enc (Vector.replicate 16 (0 : UInt8))),raw b3 (enc p2),raw b1 (enc p1)]) hl26 ⟨hE.sub ⟨rfl,rfl,rfl,rfl,rfl,rfl,rfl,rfl,trivial⟩,hM⟩ ?_
      rintro s28 a w ⟨hE,hM⟩ o31 hs29 hx30
      unfold XZ at hs29
      refine wp_seq (Zb (Zd hE rfl fun a hE=>Zg hE rfl rfl rfl fun a hE=>Ze ?_))
      refine Zm hE rfl ?_ ?_
      ·intro hb32
       have hs29:=Zt hs29 hb32
       refine wp_skip (Zq (wp_seq (wp_block ?_)))
       obtain ⟨x35,hi34,hs29⟩:=bvx hs29
       obtain ⟨x38,hi37,hs29⟩:=bvx hs29
       obtain ⟨x41,hi40,hs29⟩:=bvx hs29
       obtain ⟨x44,hi43,hs29⟩:=bvx hs29
       obtain ⟨r46,e47,hs29⟩:=bind_some hs29
       obtain ⟨x49,hi48,hs29⟩:=bvx hs29
       refine Yc [24,25,26,27,28,29,30,31,32,33,34,35,36,37,38,39,40,41,42,43,44,45,46,47,48] Y4 rfl rfl (by decide) rfl hE hM (qsP (fun z=>Zv z.E Za ld rfl (kr0 rfl)) (qsP (v:=(vI (wr (4 * s12.2)))) (fun z=>Yv z.E Za ld rfl rfl rfl (kr0 rfl)) (qsP (fun z=>Zv z.E Za ld rfl (kr0 rfl)) (qsP (v:=(vI (wr ((wr (4 * s12.2)) + s20.2)))) (fun z=>Yv z.E Za ld rfl rfl rfl (kr0 rfl)) (qsP (fun z=>Zv z.E Za ld rfl (kr0 rfl)) (qsP (v:=(vI (wr (4 * s12.2)))) (fun z=>Yv z.E Za ld rfl rfl rfl (kr0 rfl)) (qsP (fun z=>Zv z.E Za ld rfl (kr0 rfl)) (qsP (v:=(vI (wr ((wr (4 * s12.2)) + s20.2)))) (fun z=>Yv z.E Za ld rfl rfl rfl (kr0 rfl)) (qsP (fun z=>ZF z.E Za ld rfl rfl Tryz.underlying68 ty5 hi34.1 (kr0 rfl)) (qsP (fun z=>ZS (v:=(vB x35)) z.E Za ld rfl ty5 rfl (At.vec (z.M.rawAt0) hi34.2) (kr0 rfl)) (qsP (fun z=>Zv z.E Za ld rfl (kr0 rfl)) (qsP (fun z=>Zv z.E Za ld rfl (kr0 rfl)) (qsP (fun z=>Zv z.E Za ld rfl (kr0 rfl)) (qsP (fun z=>ZF z.E Za ld rfl rfl Tryz.underlying160 Xz hi37.1 (kr0 rfl)) (qsP (fun z=>ZF z.E Za ld rfl rfl Tryz.underlying158 ty5 hi40.1 (kr0 rfl)) (qsP (fun z=>ZS (v:=(vB x41)) z.E Za ld rfl ty5 rfl (At.vec (At.vec (z.M.rawAt3) hi37.2) hi40.2) (kr0 rfl)) (qsP (fun z=>Zv z.E Za ld rfl (kr0 rfl)) (qsP (v:=(vI (wr (4 * s12.2)))) (fun z=>Yv z.E Za ld rfl rfl rfl (kr0 rfl)) (qsP (fun z=>Zv z.E Za ld rfl (kr0 rfl)) (qsP (v:=(vI (wr ((wr (4 * s12.2)) + s28.2)))) (fun z=>Yv z.E Za ld rfl rfl rfl (kr0 rfl)) (qsP (fun z=>ZF z.E Za ld rfl rfl Tryz.underlying68 ty5 hi43.1 (kr0 rfl)) (qsP (fun z=>ZS (v:=(vB x44)) z.E Za ld rfl ty5 rfl (At.vec (z.M.rawAt2) hi43.2) (kr0 rfl)) (qsP (fun z=>Z7 z.E Za ld rfl yk (Up _ p0 x41 x44 r46 e47) (kc rfl)) (qsP (v:=(vB (x35 ^^^ r46))) (fun z=>Yv z.E Za ld rfl rfl (Uy x35 r46) (kr0 rfl)) (qsP (fun z=>ZF z.E Za ld rfl rfl Tryz.underlying68 ty5 hi48.1 (kr0 rfl)) qs0))))))))))))))))))))))))) ?_
       ·intro a w u hE hM
        refine Zk (seg:=[(vB (x35 ^^^ r46))]) (cs':=enc (s28.1.setIfInBounds ((wr ((wr (4 * s12.2)) + s20.2))).toNat (x35 ^^^ r46))) hE hM Za rfl rfl rfl ty5 rfl (ZK (v:=s28.1) (x:=x35 ^^^ r46) hi48.1) (Flat.cell (x35 ^^^ r46 : UInt8)) (ZE (v:=s28.1) (x:=x35 ^^^ r46) hi48.1) fun w a hM hE=>Zh (Z2 (Zq (wp_region_lit (Zd hE rfl fun a hE=>Zg hE rfl rfl rfl fun a hE=>Zc hE rfl fun a hE=>Zh (Zj ?_)))))
        exact ⟨_,(ois hs29),hE.sub ⟨rfl,rfl,rfl,rfl,rfl,rfl,rfl,rfl,trivial⟩,hM⟩
      ·intro hb32
       have hs29:=Zu hs29 hb32
       refine wp_exit (Zl (Zl (Z3 ?_)))
       obtain rfl:=hx30 _ (ois hs29)
       refine Zj ?_
       exact ⟨hE.sub ⟨rfl,rfl,rfl,rfl,rfl,rfl,rfl,trivial⟩,hM⟩
     ·skip
      rintro a w ⟨hE,hM⟩
      refine Z2 (Zq (wp_region_lit (Zd hE rfl fun a hE=>Zg hE rfl rfl rfl fun a hE=>Zc hE rfl fun a hE=>Zh (Zj ?_))))
      exact ⟨_,(ois hF27),hE.sub ⟨rfl,rfl,rfl,rfl,rfl,rfl,rfl,trivial⟩,hM⟩
    ·intro hb24
     have hs21:=Zu hs21 hb24
     refine wp_exit (Zl (Zl (Z3 ?_)))
     obtain rfl:=hx22 _ (ois hs21)
     refine Zj ?_
     exact ⟨hE.sub ⟨rfl,rfl,rfl,rfl,rfl,rfl,trivial⟩,hM⟩
   ·skip
    rintro a w ⟨hE,hM⟩
    refine Z2 (Zq (wp_region_lit (Zd hE rfl fun a hE=>Zg hE rfl rfl rfl fun a hE=>Zc hE rfl fun a hE=>Zh (Zj ?_))))
    exact ⟨_,(ois hF19),hE.sub ⟨rfl,rfl,rfl,rfl,rfl,rfl,trivial⟩,hM⟩
  ·intro hb16
   have hs13:=Zu hs13 hb16
   refine wp_exit (Zl (Zl (Z3 ?_)))
   obtain rfl:=hx14 _ (ois hs13)
   refine Zj ?_
   have hM:=M.fst (l:=[_,_]) hM.pull1.pull1
   exact ⟨hE.sub ⟨rfl,rfl,trivial⟩,hM⟩
 ·skip
  rintro a w ⟨hE,hM⟩
  refine Zq (Zb (Zn hE rfl ZG rfl hM.rawAt0 (Flat.len _) ?_)); intro a hE
  have hM:=hM.pull1
  refine Zk (seg:=enc j9) (cs':=enc j9) hE hM Za rfl rfl rfl ZG (Flat.len _) (zle flq) (Flat.cell _) (Zi flq) fun w a hM hE=>Ze ?_
  obtain rfl:=Option.some.inj hF11
  have hq54 : Yu Tryz.prog _ _ (.cell 6 68) _:=ZJ hE rfl ZG rfl hM.rawAt0 (Flat.len _) rfl
  exact wp_ret (ZL hE rfl hq54 ⟨_,rfl,rfl,hM.kept⟩)
def Xt (p0 : GCipher) (p3 : Int) (r9 : (List (Vector UInt8 16))) (s25 : (Vector UInt8 16) × Int) : Option (Fl ((Vector UInt8 16) × Int) (Vector UInt8 16)) :=
 if (decide (s25.2 ≤ p3)) = true then ((((Ut p0.Box s25.1).bind fun r37=>(UK p0.Places r37).bind fun r39=>some r39 : Option ((Vector UInt8 16))).bind fun j33=>(if (decide (s25.2 < p3)) = true then ((Tr p0.Field p0.Mix j33).bind fun r46=>some r46) else (some j33) : Option ((Vector UInt8 16))).bind fun j42=>(idx r9 s25.2).bind fun x51=>(Xi j42 x51).bind fun r54=>some r54 : Option ((Vector UInt8 16))).bind fun j30=>some (Fl.nx (j30,wr (s25.2 + 1)))) else (some (Fl.ex s25.1))
def Y8 (p0 : GCipher) (p1 : (Vector UInt8 16)) (p2 : (Vector UInt8 16)) (p3 : Int) : Option ((Vector UInt8 16)) :=
 (UY p0 p1 p3).bind fun r9=>((idx r9 (0 : Int)).bind fun x16=>(Xi p2 x16).bind fun r19=>some r19 : Option ((Vector UInt8 16))).bind fun j12=>(ZB (Xt p0 p3 r9) (j12,1)).bind fun j22=>some j22
theorem Qv (w0 : World) (p0 : GCipher) (p1 : (Vector UInt8 16)) (p2 : (Vector UInt8 16)) (p3 : Int) (r : (Vector UInt8 16)) (hF : Y8 p0 p1 p2 p3 = some r) :
  Calls Tryz.prog 207 [(Value.agg (enc p0).toArray),(Value.agg (enc p1).toArray),(Value.agg (enc p2).toArray),vI p3].toArray w0 (Rt w0 (Value.agg (enc r).toArray)):=by
 refine ce Tryz.func207 ?_
 intro a hE
 have hM:=M.start w0
 unfold Y8 at hF
 refine Zb (ZV (cs:=cat [[vI p0.Field],enc p0.Box,enc p0.Mix,enc p0.Places,[vI p0.Rounds]]) hE hM Za ld rfl rfl fun b1 w a hM hE=>ZV (cs:=enc p1) hE hM Za ld rfl rfl fun b3 w a hM hE=>ZV (cs:=enc p2) hE hM Za ld rfl rfl fun b5 w a hM hE=>ZA hE hM ZG fun b7 w a hM hE=>Ze (Zb (Zn hE rfl V0 rfl hM.rawAt3 cq fun a hE=>Zn hE rfl ZG rfl hM.rawAt2 (Flat.len _) fun a hE=>Zd hE rfl ?_))); intro a hE
 obtain ⟨r9,e10,hF⟩:=bind_some hF
 refine Zx hE rfl (cbm Tryz.func228) (B1 _ p0 p1 p3 r9 e10) ?_
 rintro u11 w a ⟨_,rfl,hFr,hK⟩ hE
 have hM:=hM.add hK hFr
 refine Zc hE rfl fun a hE=>Ze ?_
 obtain ⟨j12,hl13,hF14⟩:=bind_some hF
 refine ZQ (fun a w=>Env 48 a [(3,vI p3),(4,(ptr b1 0)),(6,(ptr b5 0)),(8,(ptr b7 0)),(9,u11)] ∧ M (Old w0) w0 w [osl NoB (r9 : List (Vector UInt8 16)) u11,raw b7 (enc (Vector.replicate 16 (0 : UInt8))),raw b5 (enc j12),raw b1 (cat [[vI p0.Field],enc p0.Box,enc p0.Mix,enc p0.Places,[vI p0.Rounds]])]) ?_ ?_
 ·skip
  obtain ⟨x16,hi18,hl13⟩:=bix hl13
  obtain ⟨r19,e20,hl13⟩:=bind_some hl13
  refine Yc [15,16,17,18,19] Y4 rfl rfl (by decide) rfl hE hM (qsP (fun z=>Yp z.E Za ld rfl ZG rfl (z.M.rawAt2) (Flat.len _) (kr0 rfl)) (qsP (fun z=>Zv z.E Za ld rfl (kr0 rfl)) (qsP (fun z=>Wn z.E Za ld rfl rfl Tryz.underlying54 ZG (z.M.sl (pre:=[]) noB) hi18.1 (kr0 rfl)) (qsP (fun z=>Yp z.E Za ld rfl ZG rfl (X0 (z.M.sl (pre:=[]) noB) hi18.2) (Flat.len _) (kr0 rfl)) (qsP (fun z=>Z7 z.E Za ld rfl zi (Uv _ p2 x16 r19 e20) (kc rfl)) qs0))))) ?_
  ·intro a w u hE hM
   have hM:=hM.pull2
   refine Zk (seg:=enc r19) (cs':=enc r19) hE hM Za rfl rfl rfl ZG (Flat.len _) (zle flq) (Flat.cell _) (Zi flq) fun w a hM hE=>Zh ?_
   obtain rfl:=Option.some.inj hl13
   refine Zj ?_
   have hM:=M.fst (l:=[_,_,_,_]) hM.pull4.pull1.pull3.pull3
   exact ⟨hE.sub ⟨rfl,rfl,rfl,rfl,rfl,trivial⟩,hM⟩
 ·skip
  rintro a w ⟨hE,hM⟩
  refine wp_seq (Zb (Zc hE rfl fun a hE=>Ze ?_))
  obtain ⟨j22,hl23,hF24⟩:=bind_some hF14
  refine ZI (fun a w=>Env 48 a [(6,(ptr b5 0)),(8,(ptr b7 0))] ∧ M (Old w0) w0 w [raw b7 (enc (Vector.replicate 16 (0 : UInt8))),raw b5 (enc j22)]) ?_ ?_
  ·skip
   refine wp_block ?_
   refine ZD (fun (s25 : (Vector UInt8 16) × Int) a w=>Env 48 a [(3,vI p3),(4,(ptr b1 0)),(6,(ptr b5 0)),(8,(ptr b7 0)),(9,u11),(10,vI s25.2)] ∧ M (Old w0) w0 w [osl NoB (r9 : List (Vector UInt8 16)) u11,raw b7 (enc (Vector.replicate 16 (0 : UInt8))),raw b5 (enc s25.1),raw b1 (cat [[vI p0.Field],enc p0.Box,enc p0.Mix,enc p0.Places,[vI p0.Rounds]])]) hl23 ⟨hE.sub ⟨rfl,rfl,rfl,rfl,rfl,rfl,trivial⟩,hM⟩ ?_
   rintro s25 a w ⟨hE,hM⟩ o28 hs26 hx27
   unfold Xt at hs26
   refine wp_seq (Zb (Zd hE rfl fun a hE=>Zd hE rfl fun a hE=>Zg hE rfl rfl rfl fun a hE=>Ze ?_))
   refine Zm hE rfl ?_ ?_
   ·intro hb29
    have hs26:=Zt hs26 hb29
    refine wp_skip (Zq ?_)
    obtain ⟨j30,hl31,hF32⟩:=bind_some hs26
    refine ZQ (fun a w=>Env 48 a [(3,vI p3),(4,(ptr b1 0)),(6,(ptr b5 0)),(8,(ptr b7 0)),(9,u11),(10,vI s25.2)] ∧ M (Old w0) w0 w [osl NoB (r9 : List (Vector UInt8 16)) u11,raw b7 (enc (Vector.replicate 16 (0 : UInt8))),raw b5 (enc j30),raw b1 (cat [[vI p0.Field],enc p0.Box,enc p0.Mix,enc p0.Places,[vI p0.Rounds]])]) ?_ ?_
    ·skip
     refine wp_block ?_
     obtain ⟨j33,hl34,hF35⟩:=bind_some hl31
     refine ZQ (fun a w=>Env 48 a [(3,vI p3),(4,(ptr b1 0)),(6,(ptr b5 0)),(8,(ptr b7 0)),(9,u11),(10,vI s25.2)] ∧ M (Old w0) w0 w [osl NoB (r9 : List (Vector UInt8 16)) u11,raw b7 (enc (Vector.replicate 16 (0 : UInt8))),raw b5 (enc j33),raw b1 (cat [[vI p0.Field],enc p0.Box,enc p0.Mix,enc p0.Places,[vI p0.Rounds]])]) ?_ ?_
     ·skip
      obtain ⟨r37,e38,hl34⟩:=bind_some hl34
      obtain ⟨r39,e40,hl34⟩:=bind_some hl34
      refine Yc [25,26,27,28,29,30,31] Y4 rfl rfl (by decide) rfl hE hM (qsP (fun z=>Zs z.E Za ld rfl (JU) (kr0 rfl)) (qsP (fun z=>Yp z.E Za ld rfl Qe rfl (At.cat (pre:=[[vI p0.Field],enc p0.Box,enc p0.Mix]) (z.M.rawAt3) ck) (Flat.len _) (kr0 rfl)) (qsP (fun z=>Zs z.E Za ld rfl (KI) (kr0 rfl)) (qsP (fun z=>Yp z.E Za ld rfl XD rfl (At.cat (pre:=[[vI p0.Field]]) (z.M.rawAt3) ck) (Flat.len _) (kr0 rfl)) (qsP (fun z=>Yp z.E Za ld rfl ZG rfl (z.M.rawAt2) (Flat.len _) (kr0 rfl)) (qsP (fun z=>Z7 z.E Za ld rfl (cbm Tryz.func230) (Bf _ p0.Box s25.1 r37 e38) (kc rfl)) (qsP (fun z=>Z7 z.E Za ld rfl (cbm Tryz.func229) (Al _ p0.Places r37 r39 e40) (kc rfl)) qs0))))))) ?_
      ·intro a w u hE hM
       have hM:=hM.pull2
       refine Zk (seg:=enc r39) (cs':=enc r39) hE hM Za rfl rfl rfl ZG (Flat.len _) (zle flq) (Flat.cell _) (Zi flq) fun w a hM hE=>Zh ?_
       obtain rfl:=Option.some.inj hl34
       refine Zj ?_
       have hM:=hM.pull3.pull1.pull3.pull3
       exact ⟨hE.sub ⟨rfl,rfl,rfl,rfl,rfl,rfl,trivial⟩,hM⟩
     ·skip
      rintro a w ⟨hE,hM⟩
      obtain ⟨j42,hl43,hF44⟩:=bind_some hF35
      refine ZQ (fun a w=>Env 48 a [(3,vI p3),(4,(ptr b1 0)),(6,(ptr b5 0)),(8,(ptr b7 0)),(9,u11),(10,vI s25.2)] ∧ M (Old w0) w0 w [osl NoB (r9 : List (Vector UInt8 16)) u11,raw b7 (enc (Vector.replicate 16 (0 : UInt8))),raw b5 (enc j42),raw b1 (cat [[vI p0.Field],enc p0.Box,enc p0.Mix,enc p0.Places,[vI p0.Rounds]])]) ?_ ?_
      ·skip
       refine Zb (Zd hE rfl fun a hE=>Zd hE rfl fun a hE=>Zg hE rfl rfl rfl fun a hE=>Ze ?_)
       refine Zm hE rfl ?_ ?_
       ·intro hb45
        have hl43:=Zt hl43 hb45
        refine wp_region_lit (Zf hE rfl (Br) fun a hE=>Zw (v:=(vI p0.Field)) hE rfl ty2 rfl (At.cat (pre:=[]) hM.rawAt3 cl0) fun a hE=>Zf hE rfl (JH) fun a hE=>Zn hE rfl UL rfl (At.cat (pre:=[[vI p0.Field],enc p0.Box]) hM.rawAt3 ck) (Flat.len _) fun a hE=>Zn hE rfl ZG rfl hM.rawAt2 (Flat.len _) ?_); intro a hE
        obtain ⟨r46,e47,hl43⟩:=bind_some hl43
        refine Zx hE rfl (cbm Tryz.func231) (AN _ p0.Field p0.Mix j33 r46 e47) ?_
        rintro v w a ⟨rfl,hK⟩ hE
        have hM:=(hM.keep hK).pull2
        refine Zk (seg:=enc r46) (cs':=enc r46) hE hM Za rfl rfl rfl ZG (Flat.len _) (zle flq) (Flat.cell _) (Zi flq) fun w a hM hE=>Zh ?_
        obtain rfl:=Option.some.inj hl43
        refine Zj ?_
        have hM:=hM.pull3.pull1.pull3.pull3
        exact ⟨hE.sub ⟨rfl,rfl,rfl,rfl,rfl,rfl,trivial⟩,hM⟩
       ·intro hb45
        have hl43:=Zu hl43 hb45
        refine wp_skip ?_
        obtain rfl:=Option.some.inj hl43
        refine Zj ?_
        exact ⟨hE.sub ⟨rfl,rfl,rfl,rfl,rfl,rfl,trivial⟩,hM⟩
      ·skip
       rintro a w ⟨hE,hM⟩
       obtain ⟨x51,hi53,hF44⟩:=bix hF44
       obtain ⟨r54,e55,hF44⟩:=bind_some hF44
       refine Yc [41,42,43,44,45,46] Y4 rfl rfl (by decide) rfl hE hM (qsP (fun z=>Yp z.E Za ld rfl ZG rfl (z.M.rawAt2) (Flat.len _) (kr0 rfl)) (qsP (fun z=>Zv z.E Za ld rfl (kr0 rfl)) (qsP (fun z=>Zv z.E Za ld rfl (kr0 rfl)) (qsP (fun z=>Wn z.E Za ld rfl rfl Tryz.underlying54 ZG (z.M.sl (pre:=[]) noB) hi53.1 (kr0 rfl)) (qsP (fun z=>Yp z.E Za ld rfl ZG rfl (X0 (z.M.sl (pre:=[]) noB) hi53.2) (Flat.len _) (kr0 rfl)) (qsP (fun z=>Z7 z.E Za ld rfl zi (Uv _ j42 x51 r54 e55) (kc rfl)) qs0)))))) ?_
       ·intro a w u hE hM
        have hM:=hM.pull2
        refine Zk (seg:=enc r54) (cs':=enc r54) hE hM Za rfl rfl rfl ZG (Flat.len _) (zle flq) (Flat.cell _) (Zi flq) fun w a hM hE=>Zh (Z2 ?_)
        obtain rfl:=Option.some.inj hF44
        refine Zj ?_
        have hM:=hM.pull3.pull1.pull3.pull3
        exact ⟨hE.sub ⟨rfl,rfl,rfl,rfl,rfl,rfl,trivial⟩,hM⟩
    ·skip
     rintro a w ⟨hE,hM⟩
     refine wp_region_lit (Zd hE rfl fun a hE=>Zg hE rfl rfl rfl fun a hE=>Zc hE rfl fun a hE=>Zh (Zj ?_))
     exact ⟨_,(ois hF32),hE.sub ⟨rfl,rfl,rfl,rfl,rfl,rfl,trivial⟩,hM⟩
   ·intro hb29
    have hs26:=Zu hs26 hb29
    refine wp_exit (Zl (Zl (Z3 ?_)))
    obtain rfl:=hx27 _ (ois hs26)
    refine Zj ?_
    have hM:=M.fst (l:=[_,_]) hM.pull2.pull2
    exact ⟨hE.sub ⟨rfl,rfl,trivial⟩,hM⟩
  ·skip
   rintro a w ⟨hE,hM⟩
   refine Zq (Zb (Zn hE rfl ZG rfl hM.rawAt1 (Flat.len _) fun a hE=>Zk (seg:=enc j22) (cs':=enc j22) hE hM Za rfl rfl rfl ZG (Flat.len _) (zle flq) (Flat.cell _) (Zi flq) fun w a hM hE=>Ze ?_))
   obtain rfl:=Option.some.inj hF24
   have hq58 : Yu Tryz.prog _ _ (.cell 8 68) _:=ZJ hE rfl ZG rfl hM.rawAt0 (Flat.len _) rfl
   exact wp_ret (ZL hE rfl hq58 ⟨_,rfl,rfl,hM.kept⟩)
def Wb (r31 : (Vector UInt8 16)) (r40 : (Vector UInt8 16)) (s51 : (Vector UInt8 32) × Int) : Option (Fl ((Vector UInt8 32) × Int) (Vector UInt8 32)) :=
 if (decide (s51.2 < 16)) = true then ((ZH r31 s51.2).bind fun x57=>(ZH s51.1 s51.2).bind fun x60=>(ZH r40 s51.2).bind fun x63=>(ZH (s51.1.setIfInBounds (s51.2).toNat x57) (wr (16 + s51.2))).bind fun x66=>some (Fl.nx (((s51.1.setIfInBounds (s51.2).toNat x57).setIfInBounds ((wr (16 + s51.2))).toNat x63),wr (s51.2 + 1)))) else (some (Fl.ex s51.1))
def WD (p0 : GCipher) (p1 : (Vector UInt8 32)) (p2 : (Vector UInt8 16)) : Option ((Vector UInt8 32)) :=
 (VT p1).bind fun r9=>(Xi r9.1 p2).bind fun r16=>(Xi r9.2 p2).bind fun r18=>(Y8 p0 r9.2 r16 p0.Rounds).bind fun r29=>(Xi r29 r16).bind fun r31=>(Y8 p0 r31 r18 p0.Rounds).bind fun r38=>(Xi r38 r18).bind fun r40=>(ZB (Wb r31 r40) ((Vector.replicate 32 (0 : UInt8)),0)).bind fun j48=>some j48
theorem HM (w0 : World) (p0 : GCipher) (p1 : (Vector UInt8 32)) (p2 : (Vector UInt8 16)) (r : (Vector UInt8 32)) (hF : WD p0 p1 p2 = some r) :
  Calls Tryz.prog 174 [(Value.agg (enc p0).toArray),(Value.agg (enc p1).toArray),(Value.agg (enc p2).toArray)].toArray w0 (Rt w0 (Value.agg (enc r).toArray)):=by
 refine ce Tryz.func174 ?_
 intro a hE
 have hM:=M.start w0
 unfold WD at hF
 refine Zb (ZV (cs:=cat [[vI p0.Field],enc p0.Box,enc p0.Mix,enc p0.Places,[vI p0.Rounds]]) hE hM Za ld rfl rfl fun b1 w a hM hE=>ZV (cs:=enc p1) hE hM Za ld rfl rfl fun b3 w a hM hE=>ZV (cs:=enc p2) hE hM Za ld rfl rfl fun b5 w a hM hE=>ZA hE hM Yt fun b7 w a hM hE=>Ze (Zb (Zn hE rfl Yt rfl hM.rawAt2 (Flat.len _) ?_))); intro a hE
 obtain ⟨r9,e10,hF⟩:=bind_some hF
 refine Zx hE rfl (cbm Tryz.func205) (HC _ p1 r9 e10) ?_
 rintro v w a ⟨rfl,hK⟩ hE
 have hM:=hM.keep hK
 refine Zd hE rfl fun a hE=>W7 hE Za ld rfl rfl fun a hE=>W7 hE Za ld rfl rfl fun a hE=>ZA hE hM ZG fun b11 w a hM hE=>ZA hE hM ZG ?_; intro b13 w a hM hE
 have hM:=hM.pull1
 refine Zk (seg:=enc r9.1) (cs':=enc r9.1) hE hM Za rfl rfl rfl ZG (Flat.len _) (zle flq) (Flat.cell _) (Zi flq) ?_; intro w a hM hE
 have hM:=hM.pull1
 refine Zk (seg:=enc r9.2) (cs':=enc r9.2) hE hM Za rfl rfl rfl ZG (Flat.len _) (zle flq) (Flat.cell _) (Zi flq) fun w a hM hE=>Ze (wp_seq ?_)
 obtain ⟨r16,e17,hF⟩:=bind_some hF
 obtain ⟨r18,e19,hF⟩:=bind_some hF
 refine XQ (its:=[raw b13 (enc r9.2),raw b11 (enc r9.1),raw b7 (enc (Vector.replicate 32 (0 : UInt8))),raw b5 (enc p2),raw b3 (enc p1),raw b1 (cat [[vI p0.Field],enc p0.Box,enc p0.Mix,enc p0.Places,[vI p0.Rounds]])]) (mk:=([mkO 6 (fun v=>TO v (enc (Vector.replicate 16 (0 : UInt8)))),mkO 7 (fun v=>TO v (enc (Vector.replicate 16 (0 : UInt8))))] : Mk)) [20,21,22,23,24,25,9,10] Y4 rfl rfl (by decide) rfl hE (fun u=>M.qE (M.qE (M.q0 hM.drew u) emO) emO) (qsP (v:=(Value.agg (enc r9.1).toArray)) ?_ (qsP (v:=(Value.agg (enc p2).toArray)) ?_ (qsP (fun z=>Z7 z.E Za ld rfl zi (Uv _ r9.1 p2 r16 e17) (kc rfl)) (qsP (v:=(Value.agg (enc r9.2).toArray)) ?_ (qsP (v:=(Value.agg (enc p2).toArray)) ?_ (qsP (fun z=>Z7 z.E Za ld rfl zi (Uv _ r9.2 p2 r18 e19) (kc rfl)) (qsM (pr:=fun v=>True) ?_ (qsM (pr:=fun v=>True) ?_ qs0)))))))) ?_
 ·intro a w ux15 D z
  have hE:=z.E
  have hM:=z.M
  exact Zn hE rfl ZG rfl hM.rawAt1 (Flat.len _) fun a hE=>⟨Kept.refl _ _,_,rfl,hE⟩
 ·intro a w ux15 D z
  have hE:=z.E
  have hM:=z.M
  exact Zn hE rfl ZG rfl hM.rawAt3 (Flat.len _) fun a hE=>⟨Kept.refl _ _,_,rfl,hE⟩
 ·intro a w ux15 D z
  have hE:=z.E
  have hM:=z.M
  exact Zn hE rfl ZG rfl hM.rawAt0 (Flat.len _) fun a hE=>⟨Kept.refl _ _,_,rfl,hE⟩
 ·intro a w ux15 D z
  have hE:=z.E
  have hM:=z.M
  exact Zn hE rfl ZG rfl hM.rawAt3 (Flat.len _) fun a hE=>⟨Kept.refl _ _,_,rfl,hE⟩
 ·intro a w ux15 D z
  have hE:=z.E
  have hD : D 6 = false:=z.F
  have hM:=z.M
  refine ZA hE hM ZG ?_; intro b20 w a hM hE
  have hM:=hM.pack1 (it:=TO _ (enc (Vector.replicate 16 (0 : UInt8)))) (fun w w' fp ⟨b',e,k⟩ hb=>⟨b',e,XC w w' fp k hb⟩) (fun fp k=>⟨_,rfl,k⟩)
  exact ⟨_,_,rfl,hE,M.qFill (mk1:=[]) (mk2:=[_]) (f:=fun v=>TO v (enc (Vector.replicate 16 (0 : UInt8)))) hM rfl hD,trivial⟩
 ·intro a w ux15 D z
  have hE:=z.E
  have hD : D 7 = false:=z.F
  have hM:=z.M
  refine ZA hE hM ZG ?_; intro b22 w a hM hE
  have hM:=hM.pack1 (it:=TO _ (enc (Vector.replicate 16 (0 : UInt8)))) (fun w w' fp ⟨b',e,k⟩ hb=>⟨b',e,XC w w' fp k hb⟩) (fun fp k=>⟨_,rfl,k⟩)
  exact ⟨_,_,rfl,hE,M.qFill (mk1:=[_]) (mk2:=[]) (f:=fun v=>TO v (enc (Vector.replicate 16 (0 : UInt8)))) hM rfl hD,trivial⟩
 ·intro a w ux15 D hE hM hG hall
  have d6:=hall 6 (by decide)
  have d7:=hall 7 (by decide)
  have hM:=(hM.sure (pre:=[_,_,_,_,_,_]) d6).pull
  obtain ⟨_,⟨b24,f25,_⟩,_⟩:=hM.head
  have hM:=((hM.pack1 XC (it:=raw b24 (enc (Vector.replicate 16 (0 : UInt8)))) (fun fp ⟨b2,e2,k2⟩=>by rw [f25] at e2; simp [ptr] at e2; subst e2; exact k2)).sure (pre:=[_,_,_,_,_,_,_]) d7).pull
  obtain ⟨_,⟨b26,f27,_⟩,_⟩:=hM.head
  have hM:=hM.pack1 XC (it:=raw b26 (enc (Vector.replicate 16 (0 : UInt8)))) (fun fp ⟨b2,e2,k2⟩=>by rw [f27] at e2; simp [ptr] at e2; subst e2; exact k2)
  have hE:=hE.setq (t:=9) rfl f25
  have hE:=hE.setq (t:=10) rfl f27
  have hM:=hM.pull1
  refine Zk (seg:=enc r16) (cs':=enc r16) hE hM Za rfl rfl rfl ZG (Flat.len _) (zle flq) (Flat.cell _) (Zi flq) ?_; intro w a hM hE
  have hM:=hM.pull1
  refine Zk (seg:=enc r18) (cs':=enc r18) hE hM Za rfl rfl rfl ZG (Flat.len _) (zle flq) (Flat.cell _) (Zi flq) fun w a hM hE=>Zh (Zq (wp_seq ?_))
  obtain ⟨r29,e30,hF⟩:=bind_some hF
  obtain ⟨r31,e32,hF⟩:=bind_some hF
  refine XQ (its:=[raw b26 (enc r18),raw b24 (enc r16),raw b13 (enc r9.2),raw b11 (enc r9.1),raw b7 (enc (Vector.replicate 32 (0 : UInt8))),raw b5 (enc p2),raw b3 (enc p1),raw b1 (cat [[vI p0.Field],enc p0.Box,enc p0.Mix,enc p0.Places,[vI p0.Rounds]])]) (mk:=([mkO 8 (fun v=>TO v (enc (Vector.replicate 16 (0 : UInt8))))] : Mk)) [26,27,28,29,30,31,32,33,11] Y4 rfl rfl (by decide) rfl hE (fun u=>M.qE (M.q0 hM.drew u) emO) (qsP (v:=(Value.agg (enc p0).toArray)) ?_ (qsP (v:=(Value.agg (enc r9.2).toArray)) ?_ (qsP (v:=(Value.agg (enc r16).toArray)) ?_ (qsP (fun z=>Zs z.E Za ld rfl (zK) (kr0 rfl)) (qsP (v:=(vI p0.Rounds)) ?_ (qsP (fun z=>Z7 z.E Za ld rfl (cbm Tryz.func207) (Qv _ p0 r9.2 r16 p0.Rounds r29 e30) (kc rfl)) (qsP (v:=(Value.agg (enc r16).toArray)) ?_ (qsP (fun z=>Z7 z.E Za ld rfl zi (Uv _ r29 r16 r31 e32) (kc rfl)) (qsM (pr:=fun v=>True) ?_ qs0))))))))) ?_
  ·intro a w ux28 D z
   have hE:=z.E
   have hM:=z.M
   exact Zn hE rfl V0 rfl hM.rawAt7 cq fun a hE=>⟨Kept.refl _ _,_,rfl,hE⟩
  ·intro a w ux28 D z
   have hE:=z.E
   have hM:=z.M
   exact Zn hE rfl ZG rfl hM.rawAt2 (Flat.len _) fun a hE=>⟨Kept.refl _ _,_,rfl,hE⟩
  ·intro a w ux28 D z
   have hE:=z.E
   have hM:=z.M
   exact Zn hE rfl ZG rfl hM.rawAt1 (Flat.len _) fun a hE=>⟨Kept.refl _ _,_,rfl,hE⟩
  ·intro a w ux28 D z
   have hE:=z.E
   have hM:=z.M
   exact Zw (v:=(vI p0.Rounds)) hE rfl ty2 rfl (At.cat (pre:=[[vI p0.Field],enc p0.Box,enc p0.Mix,enc p0.Places]) hM.rawAt7 ck) fun a hE=>⟨Kept.refl _ _,_,rfl,hE⟩
  ·intro a w ux28 D z
   have hE:=z.E
   have hM:=z.M
   exact Zn hE rfl ZG rfl hM.rawAt1 (Flat.len _) fun a hE=>⟨Kept.refl _ _,_,rfl,hE⟩
  ·intro a w ux28 D z
   have hE:=z.E
   have hD : D 8 = false:=z.F
   have hM:=z.M
   refine ZA hE hM ZG ?_; intro b33 w a hM hE
   have hM:=hM.pack1 (it:=TO _ (enc (Vector.replicate 16 (0 : UInt8)))) (fun w w' fp ⟨b',e,k⟩ hb=>⟨b',e,XC w w' fp k hb⟩) (fun fp k=>⟨_,rfl,k⟩)
   exact ⟨_,_,rfl,hE,M.qFill (mk1:=[]) (mk2:=[]) (f:=fun v=>TO v (enc (Vector.replicate 16 (0 : UInt8)))) hM rfl hD,trivial⟩
  ·intro a w ux28 D hE hM hG hall
   have d8:=hall 8 (by decide)
   have hM:=(hM.sure (pre:=[_,_,_,_,_,_,_,_]) d8).pull
   obtain ⟨_,⟨b35,f36,_⟩,_⟩:=hM.head
   have hM:=hM.pack1 XC (it:=raw b35 (enc (Vector.replicate 16 (0 : UInt8)))) (fun fp ⟨b2,e2,k2⟩=>by rw [f36] at e2; simp [ptr] at e2; subst e2; exact k2)
   have hE:=hE.setq (t:=11) rfl f36
   refine Zk (seg:=enc r31) (cs':=enc r31) hE hM Za rfl rfl rfl ZG (Flat.len _) (zle flq) (Flat.cell _) (Zi flq) fun w a hM hE=>Zh (Zq (wp_seq ?_))
   obtain ⟨r38,e39,hF⟩:=bind_some hF
   obtain ⟨r40,e41,hF⟩:=bind_some hF
   refine XQ (its:=[raw b35 (enc r31),raw b26 (enc r18),raw b24 (enc r16),raw b13 (enc r9.2),raw b11 (enc r9.1),raw b7 (enc (Vector.replicate 32 (0 : UInt8))),raw b5 (enc p2),raw b3 (enc p1),raw b1 (cat [[vI p0.Field],enc p0.Box,enc p0.Mix,enc p0.Places,[vI p0.Rounds]])]) (mk:=([mkO 8 (fun v=>TO v (enc (Vector.replicate 16 (0 : UInt8))))] : Mk)) [34,35,36,37,38,39,40,41,12] Y4 rfl rfl (by decide) rfl hE (fun u=>M.qE (M.q0 hM.drew u) emO) (qsP (v:=(Value.agg (enc p0).toArray)) ?_ (qsP (v:=(Value.agg (enc r31).toArray)) ?_ (qsP (v:=(Value.agg (enc r18).toArray)) ?_ (qsP (fun z=>Zs z.E Za ld rfl (zK) (kr0 rfl)) (qsP (v:=(vI p0.Rounds)) ?_ (qsP (fun z=>Z7 z.E Za ld rfl (cbm Tryz.func207) (Qv _ p0 r31 r18 p0.Rounds r38 e39) (kc rfl)) (qsP (v:=(Value.agg (enc r18).toArray)) ?_ (qsP (fun z=>Z7 z.E Za ld rfl zi (Uv _ r38 r18 r40 e41) (kc rfl)) (qsM (pr:=fun v=>True) ?_ qs0))))))))) ?_
   ·intro a w ux37 D z
    have hE:=z.E
    have hM:=z.M
    exact Zn hE rfl V0 rfl hM.rawAt8 cq fun a hE=>⟨Kept.refl _ _,_,rfl,hE⟩
   ·intro a w ux37 D z
    have hE:=z.E
    have hM:=z.M
    exact Zn hE rfl ZG rfl hM.rawAt0 (Flat.len _) fun a hE=>⟨Kept.refl _ _,_,rfl,hE⟩
   ·intro a w ux37 D z
    have hE:=z.E
    have hM:=z.M
    exact Zn hE rfl ZG rfl hM.rawAt1 (Flat.len _) fun a hE=>⟨Kept.refl _ _,_,rfl,hE⟩
   ·intro a w ux37 D z
    have hE:=z.E
    have hM:=z.M
    exact Zw (v:=(vI p0.Rounds)) hE rfl ty2 rfl (At.cat (pre:=[[vI p0.Field],enc p0.Box,enc p0.Mix,enc p0.Places]) hM.rawAt8 ck) fun a hE=>⟨Kept.refl _ _,_,rfl,hE⟩
   ·intro a w ux37 D z
    have hE:=z.E
    have hM:=z.M
    exact Zn hE rfl ZG rfl hM.rawAt1 (Flat.len _) fun a hE=>⟨Kept.refl _ _,_,rfl,hE⟩
   ·intro a w ux37 D z
    have hE:=z.E
    have hD : D 8 = false:=z.F
    have hM:=z.M
    refine ZA hE hM ZG ?_; intro b42 w a hM hE
    have hM:=hM.pack1 (it:=TO _ (enc (Vector.replicate 16 (0 : UInt8)))) (fun w w' fp ⟨b',e,k⟩ hb=>⟨b',e,XC w w' fp k hb⟩) (fun fp k=>⟨_,rfl,k⟩)
    exact ⟨_,_,rfl,hE,M.qFill (mk1:=[]) (mk2:=[]) (f:=fun v=>TO v (enc (Vector.replicate 16 (0 : UInt8)))) hM rfl hD,trivial⟩
   ·intro a w ux37 D hE hM hG hall
    have d8:=hall 8 (by decide)
    have hM:=(hM.sure (pre:=[_,_,_,_,_,_,_,_,_]) d8).pull
    obtain ⟨_,⟨b44,f45,_⟩,_⟩:=hM.head
    have hM:=hM.pack1 XC (it:=raw b44 (enc (Vector.replicate 16 (0 : UInt8)))) (fun fp ⟨b2,e2,k2⟩=>by rw [f45] at e2; simp [ptr] at e2; subst e2; exact k2)
    have hE:=hE.setq (t:=12) rfl f45
    refine Zk (seg:=enc r40) (cs':=enc r40) hE hM Za rfl rfl rfl ZG (Flat.len _) (zle flq) (Flat.cell _) (Zi flq) fun w a hM hE=>Zh (Zq (Zb (XF (parts:=[]) (vs:=[]) (cs:=enc (Vector.replicate 32 (0 : UInt8))) hE Za ld rfl rfl Yt rfl ty5 YZ fun a hE=>ZA hE hM Yt fun b46 w a hM hE=>Zk (seg:=enc (Vector.replicate 32 (0 : UInt8))) (cs':=enc (Vector.replicate 32 (0 : UInt8))) hE hM Za rfl rfl rfl Yt (Flat.len _) (zle flq) (Flat.cell _) (Zi flq) fun w a hM hE=>Ze (wp_seq (Zb (Zc hE rfl fun a hE=>Ze ?_))))))
    obtain ⟨j48,hl49,hF50⟩:=bind_some hF
    refine ZI (fun a w=>Env 59 a [(6,(ptr b7 0)),(13,(ptr b46 0))] ∧ M (Old w0) w0 w [raw b46 (enc j48),raw b7 (enc (Vector.replicate 32 (0 : UInt8)))]) ?_ ?_
    ·skip
     refine wp_block ?_
     have hM:=M.fst (l:=[_,_,_,_]) hM.pull7.pull3.pull3.pull3
     refine ZD (fun (s51 : (Vector UInt8 32) × Int) a w=>Env 59 a [(6,(ptr b7 0)),(11,(ptr b35 0)),(12,(ptr b44 0)),(13,(ptr b46 0)),(14,vI s51.2)] ∧ M (Old w0) w0 w [raw b46 (enc s51.1),raw b44 (enc r40),raw b35 (enc r31),raw b7 (enc (Vector.replicate 32 (0 : UInt8)))]) hl49 ⟨hE.sub ⟨rfl,rfl,rfl,rfl,rfl,trivial⟩,hM⟩ ?_
     rintro s51 a w ⟨hE,hM⟩ o54 hs52 hx53
     unfold Wb at hs52
     refine wp_seq (Zb (Zd hE rfl fun a hE=>Zg hE rfl rfl rfl fun a hE=>Ze ?_))
     refine Zm hE rfl ?_ ?_
     ·intro hb55
      have hs52:=Zt hs52 hb55
      refine wp_skip (Zq (wp_seq (wp_block (Zb (Zd hE rfl fun a hE=>Zd hE rfl ?_))))); intro a hE
      obtain ⟨x57,hi56,hs52⟩:=bvx hs52
      refine ZC hE rfl rfl Tryz.underlying68 ty5 hi56.1 fun a hE=>Zw (v:=(vB x57)) hE rfl ty5 rfl (At.vec hM.rawAt2 hi56.2) ?_; intro a hE
      obtain ⟨x60,hi59,hs52⟩:=bvx hs52
      refine ZC hE rfl rfl Tryz.underlying35 ty5 hi59.1 fun a hE=>Zk (seg:=[vB x57]) (cs':=enc (s51.1.setIfInBounds (s51.2).toNat x57)) hE hM Za rfl rfl rfl ty5 rfl (ZK (v:=s51.1) (x:=x57) hi59.1) (Flat.cell (x57 : UInt8)) (ZE (v:=s51.1) (x:=x57) hi59.1) fun w a hM hE=>Ze (wp_region_lit (Zd hE rfl fun a hE=>Zg hE rfl rfl rfl fun a hE=>Zd hE rfl ?_)); intro a hE
      obtain ⟨x63,hi62,hs52⟩:=bvx hs52
      refine ZC hE rfl rfl Tryz.underlying68 ty5 hi62.1 fun a hE=>Zw (v:=(vB x63)) hE rfl ty5 rfl (At.vec hM.rawAt1 hi62.2) ?_; intro a hE
      obtain ⟨x66,hi65,hs52⟩:=bvx hs52
      refine ZC hE rfl rfl Tryz.underlying35 ty5 hi65.1 fun a hE=>Zk (seg:=[vB x63]) (cs':=enc ((s51.1.setIfInBounds (s51.2).toNat x57).setIfInBounds ((wr (16 + s51.2))).toNat x63)) hE hM Za rfl rfl rfl ty5 rfl (ZK (v:=(s51.1.setIfInBounds (s51.2).toNat x57)) (x:=x63) hi65.1) (Flat.cell (x63 : UInt8)) (ZE (v:=(s51.1.setIfInBounds (s51.2).toNat x57)) (x:=x63) hi65.1) fun w a hM hE=>Zh (Z2 (Zq (wp_region_lit (Zd hE rfl fun a hE=>Zg hE rfl rfl rfl fun a hE=>Zc hE rfl fun a hE=>Zh (Zj ?_)))))
      exact ⟨_,(ois hs52),hE.sub ⟨rfl,rfl,rfl,rfl,rfl,trivial⟩,hM⟩
     ·intro hb55
      have hs52:=Zu hs52 hb55
      refine wp_exit (Zl (Zl (Z3 ?_)))
      obtain rfl:=hx53 _ (ois hs52)
      refine Zj ?_
      have hM:=M.fst (l:=[_,_]) hM.pull3.pull1
      exact ⟨hE.sub ⟨rfl,rfl,trivial⟩,hM⟩
    ·skip
     rintro a w ⟨hE,hM⟩
     refine Zq (Zb (Zn hE rfl Yt rfl hM.rawAt0 (Flat.len _) ?_)); intro a hE
     have hM:=hM.pull1
     refine Zk (seg:=enc j48) (cs':=enc j48) hE hM Za rfl rfl rfl Yt (Flat.len _) (zle flq) (Flat.cell _) (Zi flq) fun w a hM hE=>Ze ?_
     obtain rfl:=Option.some.inj hF50
     have hq69 : Yu Tryz.prog _ _ (.cell 6 35) _:=ZJ hE rfl Yt rfl hM.rawAt0 (Flat.len _) rfl
     exact wp_ret (ZL hE rfl hq69 ⟨_,rfl,rfl,hM.kept⟩)
def Uw (p0 : GCipher) (r8 : (List (Vector UInt8 16))) (s18 : (Vector UInt8 32) × Int) : Option (Fl ((Vector UInt8 32) × Int) (Vector UInt8 32)) :=
 if (decide (s18.2 < (r8.length : Int))) = true then ((idx r8 s18.2).bind fun x24=>(WD p0 s18.1 x24).bind fun r27=>some (Fl.nx (r27,wr (s18.2 + 1)))) else (some (Fl.ex s18.1))
def V8 (p0 : GCipher) (p1 : (List UInt8)) : Option ((Vector UInt8 32)) :=
 (Tp p1).bind fun r5=>(VL r5).bind fun r8=>(Ug).bind fun r11=>(ZB (Uw p0 r8) (r11,0)).bind fun j15=>some j15
theorem J9 (w0 : World) (p0 : GCipher) (p1 : (List UInt8)) (v1_1 : Value) (hv1_1 : Ro w0 p1 [v1_1]) (r : (Vector UInt8 32)) (hF : V8 p0 p1 = some r) :
  Calls Tryz.prog 124 [(Value.agg (enc p0).toArray),v1_1].toArray w0 (Rt w0 (Value.agg (enc r).toArray)):=by
 refine ce Tryz.func124 ?_
 intro a hE
 have hM:=M.start w0
 unfold V8 at hF
 refine Zb (ZV (cs:=cat [[vI p0.Field],enc p0.Box,enc p0.Mix,enc p0.Places,[vI p0.Rounds]]) hE hM Za ld rfl rfl fun b1 w a hM hE=>ZA hE hM Yt fun b3 w a hM hE=>Ze (Zb (Zd hE rfl ?_))); intro a hE
 obtain ⟨r5,e6,hF⟩:=bind_some hF
 refine Zx hE rfl (cbm Tryz.func172) (AM _ p1 v1_1 (hM.rdo hv1_1) r5 e6) ?_
 rintro u7 w a ⟨_,rfl,hFr,hK⟩ hE
 have hM:=hM.add hK hFr
 obtain ⟨r8,e9,hF⟩:=bind_some hF
 refine Zx hE rfl (cbm Tryz.func171) (HB _ r5 u7 (hM.sl (pre:=[]) noB) r8 e9) ?_
 rintro u10 w a ⟨_,rfl,hFr,hK⟩ hE
 have hM:=hM.add hK hFr
 obtain ⟨r11,e12,hF⟩:=bind_some hF
 refine Zx hE rfl (cbm Tryz.func173) (Bm _  r11 e12) ?_
 rintro v w a ⟨rfl,hK⟩ hE
 have hM:=hM.keep hK
 refine ZA hE hM Yt fun b13 w a hM hE=>Zc hE rfl fun a hE=>Zk (seg:=enc r11) (cs':=enc r11) hE hM Za rfl rfl rfl Yt (Flat.len _) (zle flq) (Flat.cell _) (Zi flq) fun w a hM hE=>Ze (wp_seq (Zb (Zc hE rfl fun a hE=>Ze ?_)))
 obtain ⟨j15,hl16,hF17⟩:=bind_some hF
 refine ZI (fun a w=>Env 26 a [(4,(ptr b3 0)),(6,(ptr b13 0))] ∧ M (Old w0) w0 w [raw b13 (enc j15),raw b3 (enc (Vector.replicate 32 (0 : UInt8)))]) ?_ ?_
 ·skip
  refine wp_block ?_
  have hM:=M.fst (l:=[_,_,_,_]) hM.pull4.pull4.pull3.pull3
  refine ZD (fun (s18 : (Vector UInt8 32) × Int) a w=>Env 26 a [(2,(ptr b1 0)),(4,(ptr b3 0)),(5,u10),(6,(ptr b13 0)),(7,vI s18.2)] ∧ M (Old w0) w0 w [raw b13 (enc s18.1),osl NoB (r8 : List (Vector UInt8 16)) u10,raw b3 (enc (Vector.replicate 32 (0 : UInt8))),raw b1 (cat [[vI p0.Field],enc p0.Box,enc p0.Mix,enc p0.Places,[vI p0.Rounds]])]) hl16 ⟨hE.sub ⟨rfl,rfl,rfl,rfl,rfl,trivial⟩,hM⟩ ?_
  rintro s18 a w ⟨hE,hM⟩ o21 hs19 hx20
  unfold Uw at hs19
  refine wp_seq (Zb (Zd hE rfl fun a hE=>Zd hE rfl fun a hE=>Yb hE rfl Tryz.underlying54 (hM.sl (pre:=[_]) noB) fun a hE=>Zg hE rfl rfl rfl fun a hE=>Ze ?_))
  refine Zm hE rfl ?_ ?_
  ·intro hb22
   have hs19:=Zt hs19 hb22
   refine wp_skip (Zq (wp_seq (wp_block ?_)))
   obtain ⟨x24,hi26,hs19⟩:=bix hs19
   obtain ⟨r27,e28,hs19⟩:=bind_some hs19
   refine Yc [18,19,20,21,22,23,24] Y4 rfl rfl (by decide) rfl hE hM (qsP (fun z=>Yp z.E Za ld rfl V0 rfl (z.M.rawAt3) cq (kr0 rfl)) (qsP (fun z=>Yp z.E Za ld rfl Yt rfl (z.M.rawAt0) (Flat.len _) (kr0 rfl)) (qsP (fun z=>Zv z.E Za ld rfl (kr0 rfl)) (qsP (fun z=>Zv z.E Za ld rfl (kr0 rfl)) (qsP (fun z=>Wn z.E Za ld rfl rfl Tryz.underlying54 ZG (z.M.sl (pre:=[_]) noB) hi26.1 (kr0 rfl)) (qsP (fun z=>Yp z.E Za ld rfl ZG rfl (X0 (z.M.sl (pre:=[_]) noB) hi26.2) (Flat.len _) (kr0 rfl)) (qsP (fun z=>Z7 z.E Za ld rfl (cbm Tryz.func174) (HM _ p0 s18.1 x24 r27 e28) (kc rfl)) qs0))))))) ?_
   ·intro a w u hE hM
    refine Zk (seg:=enc r27) (cs':=enc r27) hE hM Za rfl rfl rfl Yt (Flat.len _) (zle flq) (Flat.cell _) (Zi flq) fun w a hM hE=>Zh (Z2 (Zq (wp_region_lit (Zd hE rfl fun a hE=>Zg hE rfl rfl rfl fun a hE=>Zc hE rfl fun a hE=>Zh (Zj ?_)))))
    exact ⟨_,(ois hs19),hE.sub ⟨rfl,rfl,rfl,rfl,rfl,trivial⟩,hM⟩
  ·intro hb22
   have hs19:=Zu hs19 hb22
   refine wp_exit (Zl (Zl (Z3 ?_)))
   obtain rfl:=hx20 _ (ois hs19)
   refine Zj ?_
   have hM:=M.fst (l:=[_,_]) hM.pull2.pull1
   exact ⟨hE.sub ⟨rfl,rfl,trivial⟩,hM⟩
 ·skip
  rintro a w ⟨hE,hM⟩
  refine Zq (Zb (Zn hE rfl Yt rfl hM.rawAt0 (Flat.len _) ?_)); intro a hE
  have hM:=hM.pull1
  refine Zk (seg:=enc j15) (cs':=enc j15) hE hM Za rfl rfl rfl Yt (Flat.len _) (zle flq) (Flat.cell _) (Zi flq) fun w a hM hE=>Ze ?_
  obtain rfl:=Option.some.inj hF17
  have hq30 : Yu Tryz.prog _ _ (.cell 4 35) _:=ZJ hE rfl Yt rfl hM.rawAt0 (Flat.len _) rfl
  exact wp_ret (ZL hE rfl hq30 ⟨_,rfl,rfl,hM.kept⟩)
def VW (p0 : (Vector UInt8 32)) (s10 : (List UInt8) × Int) : Option (Fl ((List UInt8) × Int) (List UInt8)) :=
 if (decide (s10.2 < 32)) = true then ((ZH p0 s10.2).bind fun x18=>(app 1 s10.1 ([x18] : List UInt8)).bind fun l22=>some (Fl.nx ((s10.1 ++ ([x18] : List UInt8)),wr (s10.2 + 1)))) else (some (Fl.ex s10.1))
def Vg (p0 : (Vector UInt8 32)) : Option ((List UInt8)) :=
 (ZB (VW p0) (([] : List UInt8),0)).bind fun j5=>some j5
theorem Kg (w0 : World) (p0 : (Vector UInt8 32)) (r : (List UInt8)) (hF : Vg p0 = some r) :
  Calls Tryz.prog 190 [(Value.agg (enc p0).toArray)].toArray w0 (fun en w'=>∃ v,en = .returned v ∧ (∃ (y1 : Value),v = y1 ∧ Fr w0 w' [osl NoB (r : List UInt8) y1] ∧ Kept (Old w0) w0 w')):=by
 refine ce Tryz.func190 ?_
 intro a hE
 have hM:=M.start w0
 unfold Vg at hF
 refine Zb (ZV (cs:=enc p0) hE hM Za ld rfl rfl fun b1 w a hM hE=>Zc hE rfl fun a hE=>Ze (Zb (Yi (xs:=[]) (l:=([] : List UInt8)) (vs:=[]) hE hM Za ld rfl rfl Tryz.underlying40 ty5 rfl (by decide) rfl fun u3 w a hM hE=>Zc hE rfl fun a hE=>Ze (wp_seq (Zb (Zc hE rfl fun a hE=>Ze ?_))))))
 obtain ⟨j5,hl6,hF7⟩:=bind_some hF
 refine ZI (fun a w=>∃ (u8 : Value),Env 17 a [(3,u8)] ∧ M (Old w0) w0 w [osl NoB (j5 : List UInt8) u8]) ?_ ?_
 ·skip
  refine wp_block ?_
  have hM:=hM.pull1
  refine ZD (fun (s10 : (List UInt8) × Int) a w=>∃ (u11 : Value),Env 17 a [(1,(ptr b1 0)),(3,u11),(4,vI s10.2)] ∧ M (Old w0) w0 w [raw b1 (enc p0),osl NoB (s10.1 : List UInt8) u11]) hl6 ⟨u3,hE.sub ⟨rfl,rfl,rfl,trivial⟩,hM⟩ ?_
  rintro s10 a w ⟨u11,hE,hM⟩ o15 hs13 hx14
  unfold VW at hs13
  refine wp_seq (Zb (Zd hE rfl fun a hE=>Zg hE rfl rfl rfl fun a hE=>Ze ?_))
  refine Zm hE rfl ?_ ?_
  ·intro hb16
   have hs13:=Zt hs13 hb16
   refine wp_skip (Zq (wp_seq (wp_block (wp_region_lit (Zd hE rfl fun a hE=>Zd hE rfl ?_))))); intro a hE
   obtain ⟨x18,hi17,hs13⟩:=bvx hs13
   refine ZC hE rfl rfl Tryz.underlying35 ty5 hi17.1 fun a hE=>Zw (v:=(vB x18)) hE rfl ty5 rfl (At.vec hM.rawAt0 hi17.2) fun a hE=>Yi (xs:=[.tmp 13]) (l:=([x18] : List UInt8)) (vs:=[vB x18]) hE hM Za ld rfl rfl Tryz.underlying40 ty5 rfl (by decide) rfl ?_; intro u20 w a hM hE
   obtain ⟨l22,e23,hs13⟩:=bind_some hs13
   obtain ⟨e26,rfl⟩:=Yr e23
   have hM:=hM.pull2
   refine Yh hE hM Za ld rfl rfl (hM.sl (pre:=[_]) noB) Tryz.underlying40 ty5 rfl (by decide) e26 fun u24 w a hM hE=>Zc hE rfl fun a hE=>Zh (Z2 (Zq (wp_region_lit (Zd hE rfl fun a hE=>Zg hE rfl rfl rfl fun a hE=>Zc hE rfl fun a hE=>Zh (Zj ?_)))))
   have hM:=M.fst (l:=[_,_]) hM.pull2
   exact ⟨_,(ois hs13),u24,hE.sub ⟨rfl,rfl,rfl,trivial⟩,hM⟩
  ·intro hb16
   have hs13:=Zu hs13 hb16
   refine wp_exit (Zl (Zl (Z3 ?_)))
   obtain rfl:=hx14 _ (ois hs13)
   refine Zj ?_
   have hM:=M.fst (l:=[_]) hM.pull1
   exact ⟨u11,hE.sub ⟨rfl,trivial⟩,hM⟩
 ·skip
  rintro a w ⟨u8,hE,hM⟩
  refine Zq (Zb (Zd hE rfl fun a hE=>Zc hE rfl fun a hE=>Ze ?_))
  obtain rfl:=Option.some.inj hF7
  exact wp_ret (ZL hE rfl (ZT hE rfl) ⟨_,rfl,u8,rfl,hM.outF (Yq Xy),hM.kept⟩)
def UW (p0 : Int) : Option ((List UInt8)) :=
 some ([Zy (Qn (Tm p0 24) 255),Zy (Qn (Tm p0 16) 255),Zy (Qn (Tm p0 8) 255),Zy (Qn p0 255)] : List UInt8)
theorem BO (w0 : World) (p0 : Int) (r : (List UInt8)) (hF : UW p0 = some r) :
  Calls Tryz.prog 155 [vI p0].toArray w0 (fun en w'=>∃ v,en = .returned v ∧ (∃ (y1 : Value),v = y1 ∧ Fr w0 w' [osl NoB (r : List UInt8) y1] ∧ Kept (Old w0) w0 w')):=by
 refine ce Tryz.func155 ?_
 intro a hE
 have hM:=M.start w0
 unfold UW at hF
 refine Zb (Zc hE rfl fun a hE=>Ze (Zb (Zd hE rfl fun a hE=>HD hE Za ld rfl rfl (Ji _ _ (by decide)) fun a hE=>Zg hE rfl rfl rfl fun a hE=>Yj hE Za ld rfl Tryz.underlying2 Tryz.underlying5 fun a hE=>Zd hE rfl fun a hE=>HD hE Za ld rfl rfl (Ji _ _ (by decide)) fun a hE=>Zg hE rfl rfl rfl fun a hE=>Yj hE Za ld rfl Tryz.underlying2 Tryz.underlying5 fun a hE=>Zd hE rfl fun a hE=>HD hE Za ld rfl rfl (Ji _ _ (by decide)) fun a hE=>Zg hE rfl rfl rfl ?_))); intro a hE
 refine Yj hE Za ld rfl Tryz.underlying2 Tryz.underlying5 fun a hE=>Zd hE rfl fun a hE=>Zg hE rfl rfl rfl fun a hE=>Yj hE Za ld rfl Tryz.underlying2 Tryz.underlying5 fun a hE=>Yi (xs:=[.tmp 6,.tmp 10,.tmp 14,.tmp 17]) (l:=([Zy (Qn (Tm p0 24) 255),Zy (Qn (Tm p0 16) 255),Zy (Qn (Tm p0 8) 255),Zy (Qn p0 255)] : List UInt8)) (vs:=[(vB (Zy (Qn (Tm p0 24) 255))),(vB (Zy (Qn (Tm p0 16) 255))),(vB (Zy (Qn (Tm p0 8) 255))),(vB (Zy (Qn p0 255)))]) hE hM Za ld rfl rfl Tryz.underlying40 ty5 rfl (by decide) rfl fun u1 w a hM hE=>Zc hE rfl fun a hE=>Ze ?_
 obtain rfl:=Option.some.inj hF
 exact wp_ret (ZL hE rfl (ZT hE rfl) ⟨_,rfl,u1,rfl,hM.outF (Yq Xy),hM.kept⟩)
def UQ (p0 : (Vector UInt8 32)) (p1 : GEvent) : Option ((Vector UInt8 32)) :=
 ((Vg p0).bind fun r13=>(app 1 r13 ([Zy p1.Kind] : List UInt8)).bind fun l18=>some (r13 ++ ([Zy p1.Kind] : List UInt8)) : Option ((List UInt8))).bind fun j7=>(UW p1.Number).bind fun r24=>(app 1 j7 r24).bind fun l27=>((WG).bind fun r36=>(Vg p1.Tag).bind fun r38=>(app 1 (j7 ++ r24) r38).bind fun l41=>(V8 r36 ((j7 ++ r24) ++ r38)).bind fun r46=>some r46 : Option ((Vector UInt8 32))).bind fun j32=>some j32
theorem Aw (w0 : World) (p0 : (Vector UInt8 32)) (p1 : GEvent) (r : (Vector UInt8 32)) (hF : UQ p0 p1 = some r) :
  Calls Tryz.prog 168 [(Value.agg (enc p0).toArray),(Value.agg (enc p1).toArray)].toArray w0 (Rt w0 (Value.agg (enc r).toArray)):=by
 refine ce Tryz.func168 ?_
 intro a hE
 have hM:=M.start w0
 unfold UQ at hF
 refine Zb (ZV (cs:=enc p0) hE hM Za ld rfl rfl fun b1 w a hM hE=>ZV (cs:=cat [[vI p1.Kind],[vI p1.Number],enc p1.Tag]) hE hM Za ld rfl rfl fun b3 w a hM hE=>ZA hE hM Yt fun b5 w a hM hE=>Ze ?_)
 obtain ⟨j7,hl8,hF9⟩:=bind_some hF
 refine ZQ (fun a w=>∃ (u10 : Value),Env 25 a [(3,(ptr b3 0)),(4,(ptr b5 0)),(5,u10)] ∧ M (Old w0) w0 w [raw b5 (enc (Vector.replicate 32 (0 : UInt8))),raw b3 (cat [[vI p1.Kind],[vI p1.Number],enc p1.Tag]),osl NoB (j7 : List UInt8) u10]) ?_ ?_
 ·skip
  obtain ⟨r13,e14,hl8⟩:=bind_some hl8
  refine XQ (its:=[raw b5 (enc (Vector.replicate 32 (0 : UInt8))),raw b3 (cat [[vI p1.Kind],[vI p1.Number],enc p1.Tag]),raw b1 (enc p0)]) (mk:=([mkO 1 (fun v=>osl NoB (r13 : List UInt8) v),mkO 5 (fun v=>osl NoB (([Zy p1.Kind] : List UInt8) : List UInt8) v)] : Mk)) [6,7,8,9,10,11] Y4 rfl rfl (by decide) rfl hE (fun u=>M.qE (M.qE (M.q0 hM.drew u) emO) emO) (qsP (v:=(Value.agg (enc p0).toArray)) ?_ (qsM (pr:=fun v=>True) ?_ (qsP (fun z=>Zs z.E Za ld rfl (Qh) (kr0 rfl)) (qsP (v:=(vI p1.Kind)) ?_ (qsP (fun z=>Yj z.E Za ld rfl Tryz.underlying2 Tryz.underlying5 (kr0 rfl)) (qsM (pr:=fun v=>True) ?_ qs0)))))) ?_
  ·intro a w ux12 D z
   have hE:=z.E
   have hM:=z.M
   exact Zn hE rfl Yt rfl hM.rawAt2 (Flat.len _) fun a hE=>⟨Kept.refl _ _,_,rfl,hE⟩
  ·intro a w ux12 D z
   have hE:=z.E
   have hD : D 1 = false:=z.F
   have hM0:=z.M
   have hM:=z.M
   refine Zx hE rfl (cbm Tryz.func190) (Kg _ p0 r13 e14) ?_
   rintro _ w a ⟨_,rfl,hFr,hK⟩ hE
   have hM:=hM0.add hK hFr
   exact ⟨_,_,rfl,hE,M.qFill (mk1:=[]) (mk2:=[_]) (f:=(fun v=>osl NoB (r13 : List UInt8) v)) hM rfl hD,trivial⟩
  ·intro a w ux12 D z
   have hE:=z.E
   have hM:=z.M
   exact Zw (v:=(vI p1.Kind)) hE rfl ty2 rfl (At.cat (pre:=[]) hM.rawAt1 cl0) fun a hE=>⟨Kept.refl _ _,_,rfl,hE⟩
  ·intro a w ux12 D z
   have hE:=z.E
   have hD : D 5 = false:=z.F
   have hM:=z.M
   exact Yi (xs:=[.tmp 10]) (l:=([Zy p1.Kind] : List UInt8)) (vs:=[(vB (Zy p1.Kind))]) hE hM Za ld rfl rfl Tryz.underlying40 ty5 rfl (by decide) rfl fun u16 w a hM hE=>⟨_,_,rfl,hE,M.qFill (mk1:=[_]) (mk2:=[]) (f:=(fun v=>osl NoB (([Zy p1.Kind] : List UInt8) : List UInt8) v)) hM rfl hD,trivial⟩
  ·intro a w ux12 D hE hM hG hall
   have d1:=hall 1 (by decide)
   have d5:=hall 5 (by decide)
   have hM:=(hM.sure (pre:=[_,_,_]) d1).sure (pre:=[_,_,_,_]) d5
   obtain ⟨l18,e19,hl8⟩:=bind_some hl8
   obtain ⟨e22,rfl⟩:=Yr e19
   have hM:=hM.pull3
   refine Yh hE hM Za ld rfl rfl (hM.sl (pre:=[_,_,_,_]) noB) Tryz.underlying40 ty5 rfl (by decide) e22 fun u20 w a hM hE=>Zc hE rfl fun a hE=>Zh ?_
   obtain rfl:=Option.some.inj hl8
   refine Zj ?_
   have hM:=M.fst (l:=[_,_,_]) hM.pull2.pull2
   exact ⟨u20,hE.sub ⟨rfl,rfl,rfl,trivial⟩,hM⟩
 ·skip
  rintro a w ⟨u10,hE,hM⟩
  refine Zb (Zd hE rfl fun a hE=>Zf hE rfl (Qm) fun a hE=>Zw (v:=(vI p1.Number)) hE rfl ty2 rfl (At.cat (pre:=[[vI p1.Kind]]) hM.rawAt1 ck) ?_); intro a hE
  obtain ⟨r24,e25,hF9⟩:=bind_some hF9
  refine Zx hE rfl (cbm Tryz.func155) (BO _ p1.Number r24 e25) ?_
  rintro u26 w a ⟨_,rfl,hFr,hK⟩ hE
  have hM:=hM.add hK hFr
  obtain ⟨l27,e28,hF9⟩:=bind_some hF9
  obtain ⟨e31,rfl⟩:=Yr e28
  have hM:=hM.pull3
  refine Yh hE hM Za ld rfl rfl (hM.sl (pre:=[_]) noB) Tryz.underlying40 ty5 rfl (by decide) e31 fun u29 w a hM hE=>Zc hE rfl fun a hE=>Ze ?_
  obtain ⟨j32,hl33,hF34⟩:=bind_some hF9
  refine ZQ (fun a w=>Env 25 a [(4,(ptr b5 0))] ∧ M (Old w0) w0 w [raw b5 (enc j32)]) ?_ ?_
  ·skip
   obtain ⟨r36,e37,hl33⟩:=bind_some hl33
   obtain ⟨r38,e39,hl33⟩:=bind_some hl33
   refine XQ (its:=[osl NoB ((j7 ++ r24) : List UInt8) u29,osl NoB (r24 : List UInt8) u26,raw b5 (enc (Vector.replicate 32 (0 : UInt8))),raw b3 (cat [[vI p1.Kind],[vI p1.Number],enc p1.Tag])]) (mk:=([mkO 4 (fun v=>osl NoB (r38 : List UInt8) v)] : Mk)) [18,19,20,21,22] Y4 rfl rfl (by decide) rfl hE (fun u=>M.qE (M.q0 hM.drew u) emO) (qsP (fun z=>Z7 z.E Za ld rfl (cbm Tryz.func154) (QT _  r36 e37) (kc rfl)) (qsP (fun z=>Zv z.E Za ld rfl (kr0 rfl)) (qsP (fun z=>Zs z.E Za ld rfl (Q5) (kr0 rfl)) (qsP (v:=(Value.agg (enc p1.Tag).toArray)) ?_ (qsM (pr:=fun v=>True) ?_ qs0))))) ?_
   ·intro a w ux35 D z
    have hE:=z.E
    have hM:=z.M
    exact Zn hE rfl Yt rfl (At.cat (pre:=[[vI p1.Kind],[vI p1.Number]]) hM.rawAt3 ck) (Flat.len _) fun a hE=>⟨Kept.refl _ _,_,rfl,hE⟩
   ·intro a w ux35 D z
    have hE:=z.E
    have hD : D 4 = false:=z.F
    have hM0:=z.M
    have hM:=z.M
    refine Zx hE rfl (cbm Tryz.func190) (Kg _ p1.Tag r38 e39) ?_
    rintro _ w a ⟨_,rfl,hFr,hK⟩ hE
    have hM:=hM0.add hK hFr
    exact ⟨_,_,rfl,hE,M.qFill (mk1:=[]) (mk2:=[]) (f:=(fun v=>osl NoB (r38 : List UInt8) v)) hM rfl hD,trivial⟩
   ·intro a w ux35 D hE hM hG hall
    have d4:=hall 4 (by decide)
    have hM:=hM.sure (pre:=[_,_,_,_]) d4
    obtain ⟨l41,e42,hl33⟩:=bind_some hl33
    obtain ⟨e45,rfl⟩:=Yr e42
    refine Yh hE hM Za ld rfl rfl (hM.sl (pre:=[_,_,_,_]) noB) Tryz.underlying40 ty5 rfl (by decide) e45 ?_; intro u43 w a hM hE
    obtain ⟨r46,e47,hl33⟩:=bind_some hl33
    refine Zx hE rfl (cbm Tryz.func124) (J9 _ r36 ((j7 ++ r24) ++ r38) u43 (hM.sl (pre:=[]) noB) r46 e47) ?_
    rintro v w a ⟨rfl,hK⟩ hE
    have hM:=(hM.keep hK).pull2
    refine Zk (seg:=enc r46) (cs':=enc r46) hE hM Za rfl rfl rfl Yt (Flat.len _) (zle flq) (Flat.cell _) (Zi flq) fun w a hM hE=>Zh ?_
    obtain rfl:=Option.some.inj hl33
    refine Zj ?_
    have hM:=M.fst (l:=[_]) hM
    exact ⟨hE.sub ⟨rfl,trivial⟩,hM⟩
  ·skip
   rintro a w ⟨hE,hM⟩
   obtain rfl:=Option.some.inj hF34
   have hq49 : Yu Tryz.prog _ _ (.cell 4 35) _:=ZJ hE rfl Yt rfl hM.rawAt0 (Flat.len _) rfl
   exact wp_ret (ZL hE rfl hq49 ⟨_,rfl,rfl,hM.kept⟩)
def Va (p0 : (List GEvent)) (s19 : (Vector UInt8 32) × Int) : Option (Fl ((Vector UInt8 32) × Int) (Vector UInt8 32)) :=
 if (decide (s19.2 < (p0.length : Int))) = true then ((idx p0 s19.2).bind fun x25=>(UQ s19.1 x25).bind fun r28=>some (Fl.nx (r28,wr (s19.2 + 1)))) else (some (Fl.ex s19.1))
def UR (p0 : (List GEvent)) : Option ((Vector UInt8 32)) :=
 (WG).bind fun r4=>(mkS 1 (0 : UInt8) 32).bind fun l6=>(V8 r4 l6).bind fun r10=>(ZB (Va p0) (r10,0)).bind fun j16=>some j16
theorem Ae (w0 : World) (p0 : (List GEvent)) (v0_1 : Value) (hv0_1 : Ro w0 p0 [v0_1]) (r : (Vector UInt8 32)) (hF : UR p0 = some r) :
  Calls Tryz.prog 110 [v0_1].toArray w0 (Rt w0 (Value.agg (enc r).toArray)):=by
 refine ce Tryz.func110 ?_
 intro a hE
 have hM:=M.start w0
 unfold UR at hF
 refine Zb (ZA hE hM Yt fun b1 w a hM hE=>Ze (wp_seq ?_))
 obtain ⟨r4,e5,hF⟩:=bind_some hF
 obtain ⟨l6,e7,hF⟩:=bind_some hF
 obtain ⟨r10,e11,hF⟩:=bind_some hF
 refine XQ (its:=[raw b1 (enc (Vector.replicate 32 (0 : UInt8)))]) (mk:=([mkO 1 (fun v=>osl NoB (l6 : List UInt8) v),mkO 3 (fun v=>TO v (enc (Vector.replicate 32 (0 : UInt8))))] : Mk)) [5,6,7,3] Y4 rfl rfl (by decide) rfl hE (fun u=>M.qE (M.qE (M.q0 hM.drew u) emO) emO) (qsP (fun z=>Z7 z.E Za ld rfl (cbm Tryz.func154) (QT _  r4 e5) (kc rfl)) (qsM (pr:=fun v=>True) ?_ (qsP (v:=(Value.agg (enc r10).toArray)) ?_ (qsM (pr:=fun v=>True) ?_ qs0)))) ?_
 ·intro a w ux3 D z
  have hE:=z.E
  have hD : D 1 = false:=z.F
  have hM:=z.M
  exact Hr hE hM Za ld rfl rfl Tryz.underlying40 ty5 rfl (by decide) (fun _=>Tv.2 ⟨rfl,rfl⟩) e7 fun u8 w a hM hE=>⟨_,_,rfl,hE,M.qFill (mk1:=[]) (mk2:=[_]) (f:=(fun v=>osl NoB (l6 : List UInt8) v)) hM rfl hD,trivial⟩
 ·intro a w ux3 D z
  have hE:=z.E
  have d1 : D 1 = true:=z.p 1 _ rfl rfl
  have hM:=z.M.sure (pre:=[_]) d1
  refine Zx hE rfl (cbm Tryz.func124) (J9 _ r4 l6 (ux3 1) (hM.sl (pre:=[_]) noB) r10 e11) ?_
  rintro v w a ⟨rfl,hK⟩ hE
  exact ⟨hK,_,rfl,hE⟩
 ·intro a w ux3 D z
  have hE:=z.E
  have hD : D 3 = false:=z.F
  have hM:=z.M
  refine ZA hE hM Yt ?_; intro b12 w a hM hE
  have hM:=hM.pack1 (it:=TO _ (enc (Vector.replicate 32 (0 : UInt8)))) (fun w w' fp ⟨b',e,k⟩ hb=>⟨b',e,XC w w' fp k hb⟩) (fun fp k=>⟨_,rfl,k⟩)
  exact ⟨_,_,rfl,hE,M.qFill (mk1:=[_]) (mk2:=[]) (f:=fun v=>TO v (enc (Vector.replicate 32 (0 : UInt8)))) hM rfl hD,trivial⟩
 ·intro a w ux3 D hE hM hG hall
  have d1:=hall 1 (by decide)
  have d3:=hall 3 (by decide)
  have hM:=((hM.sure (pre:=[_]) d1).sure (pre:=[_,_]) d3).pull
  obtain ⟨_,⟨b14,f15,_⟩,_⟩:=hM.head
  have hM:=hM.pack1 XC (it:=raw b14 (enc (Vector.replicate 32 (0 : UInt8)))) (fun fp ⟨b2,e2,k2⟩=>by rw [f15] at e2; simp [ptr] at e2; subst e2; exact k2)
  have hE:=hE.setq (t:=3) rfl f15
  refine Zk (seg:=enc r10) (cs':=enc r10) hE hM Za rfl rfl rfl Yt (Flat.len _) (zle flq) (Flat.cell _) (Zi flq) fun w a hM hE=>Zh (Zq (wp_seq (Zb (Zc hE rfl fun a hE=>Ze ?_))))
  obtain ⟨j16,hl17,hF18⟩:=bind_some hF
  refine ZI (fun a w=>Env 21 a [(2,(ptr b1 0)),(3,(ptr b14 0))] ∧ M (Old w0) w0 w [raw b14 (enc j16),raw b1 (enc (Vector.replicate 32 (0 : UInt8)))]) ?_ ?_
  ·skip
   refine wp_block ?_
   have hM:=M.fst (l:=[_,_]) hM.pull1.pull1
   refine ZD (fun (s19 : (Vector UInt8 32) × Int) a w=>Env 21 a [(0,v0_1),(2,(ptr b1 0)),(3,(ptr b14 0)),(4,vI s19.2)] ∧ M (Old w0) w0 w [raw b14 (enc s19.1),raw b1 (enc (Vector.replicate 32 (0 : UInt8)))]) hl17 ⟨hE.sub ⟨rfl,rfl,rfl,rfl,trivial⟩,hM⟩ ?_
   rintro s19 a w ⟨hE,hM⟩ o22 hs20 hx21
   unfold Va at hs20
   refine wp_seq (Zb (Zd hE rfl fun a hE=>Zd hE rfl fun a hE=>Yb hE rfl Tryz.underlying56 (hM.rd hv0_1) fun a hE=>Zg hE rfl rfl rfl fun a hE=>Ze ?_))
   refine Zm hE rfl ?_ ?_
   ·intro hb23
    have hs20:=Zt hs20 hb23
    refine wp_skip (Zq (wp_seq (wp_block ?_)))
    obtain ⟨x25,hi27,hs20⟩:=bix hs20
    obtain ⟨r28,e29,hs20⟩:=bind_some hs20
    refine Yc [14,15,16,17,18,19] Y4 rfl rfl (by decide) rfl hE hM (qsP (fun z=>Yp z.E Za ld rfl Yt rfl (z.M.rawAt0) (Flat.len _) (kr0 rfl)) (qsP (fun z=>Zv z.E Za ld rfl (kr0 rfl)) (qsP (fun z=>Zv z.E Za ld rfl (kr0 rfl)) (qsP (fun z=>Wn z.E Za ld rfl rfl Tryz.underlying56 Y3 (z.M.rd hv0_1) hi27.1 (kr0 rfl)) (qsP (fun z=>Yp z.E Za ld rfl Y3 rfl (X0 (z.M.rd hv0_1) hi27.2) cq (kr0 rfl)) (qsP (fun z=>Z7 z.E Za ld rfl (cbm Tryz.func168) (Aw _ s19.1 x25 r28 e29) (kc rfl)) qs0)))))) ?_
    ·intro a w u hE hM
     refine Zk (seg:=enc r28) (cs':=enc r28) hE hM Za rfl rfl rfl Yt (Flat.len _) (zle flq) (Flat.cell _) (Zi flq) fun w a hM hE=>Zh (Z2 (Zq (wp_region_lit (Zd hE rfl fun a hE=>Zg hE rfl rfl rfl fun a hE=>Zc hE rfl fun a hE=>Zh (Zj ?_)))))
     exact ⟨_,(ois hs20),hE.sub ⟨rfl,rfl,rfl,rfl,trivial⟩,hM⟩
   ·intro hb23
    have hs20:=Zu hs20 hb23
    refine wp_exit (Zl (Zl (Z3 ?_)))
    obtain rfl:=hx21 _ (ois hs20)
    refine Zj ?_
    exact ⟨hE.sub ⟨rfl,rfl,trivial⟩,hM⟩
  ·skip
   rintro a w ⟨hE,hM⟩
   refine Zq (Zb (Zn hE rfl Yt rfl hM.rawAt0 (Flat.len _) ?_)); intro a hE
   have hM:=hM.pull1
   refine Zk (seg:=enc j16) (cs':=enc j16) hE hM Za rfl rfl rfl Yt (Flat.len _) (zle flq) (Flat.cell _) (Zi flq) fun w a hM hE=>Ze ?_
   obtain rfl:=Option.some.inj hF18
   have hq31 : Yu Tryz.prog _ _ (.cell 2 35) _:=ZJ hE rfl Yt rfl hM.rawAt0 (Flat.len _) rfl
   exact wp_ret (ZL hE rfl hq31 ⟨_,rfl,rfl,hM.kept⟩)
def UZ (p0 : GVault) (p1 : Int) (p2 : Int) (p3 : (Vector UInt8 32)) : Option (GVault) :=
 (app 48 p0.Events ([(⟨p1,p2,p3⟩ : GEvent)] : List GEvent)).bind fun l9=>(UR (p0.Events ++ ([(⟨p1,p2,p3⟩ : GEvent)] : List GEvent))).bind fun r14=>some (⟨p0.Keys,p0.Next,p0.Records,(p0.Events ++ ([(⟨p1,p2,p3⟩ : GEvent)] : List GEvent)),r14⟩ : GVault)
theorem B2 (St : Nat → Prop) (W w0 : World) (its : List Item) (p0 : GVault) (v0_1 : Value) (v0_2 : Value) (v0_3 : Value) (p1 : Int) (p2 : Int) (p3 : (Vector UInt8 32)) (hM : M St W w0 (osl NoB (p0.Keys : List (Vector UInt8 16)) v0_1 :: osl NoB (p0.Records : List GRecord) v0_2 :: osl NoB (p0.Events : List GEvent) v0_3 :: its)) (r : GVault) (hF : UZ p0 p1 p2 p3 = some r) :
  Calls Tryz.prog 82 [(Value.agg (cat [[v0_1],[vI p0.Next],[v0_2],[v0_3],enc p0.Head]).toArray),vI p1,vI p2,(Value.agg (enc p3).toArray)].toArray w0 (fun en w'=>∃ v,en = .returned v ∧ (∃ (y1 : Value) (y2 : Value) (y3 : Value),v = (Value.agg (cat [[y1],[vI r.Next],[y2],[y3],enc r.Head]).toArray) ∧ M St W w' (osl NoB (r.Keys : List (Vector UInt8 16)) y1 :: osl NoB (r.Records : List GRecord) y2 :: osl NoB (r.Events : List GEvent) y3 :: its))):=by
 refine ce Tryz.func82 ?_
 intro a hE
 unfold UZ at hF
 refine Zb (ZV (cs:=cat [[v0_1],[vI p0.Next],[v0_2],[v0_3],enc p0.Head]) hE hM Za ld rfl rfl fun b1 w a hM hE=>ZV (cs:=enc p3) hE hM Za ld rfl rfl fun b3 w a hM hE=>ZA hE hM Ys fun b5 w a hM hE=>Ze (Zb (Zf hE rfl (VM) fun a hE=>Zw (v:=v0_3) hE rfl QM rfl (At.cat (pre:=[[v0_1],[vI p0.Next],[v0_2]]) hM.rawAt2 ck) fun a hE=>Zd hE rfl fun a hE=>Zd hE rfl fun a hE=>Zn hE rfl Yt rfl hM.rawAt1 (Flat.len _) fun a hE=>Wl (parts:=[(0,.tmp 11),(1,.tmp 12),(2,.tmp 13)]) (vs:=[(0,vI p1),(1,vI p2),(2,(Value.agg (enc p3).toArray))]) (cs:=cat [[vI p1],[vI p2],enc p3]) hE Za ld rfl rfl Y3 pl131 (Ym (pre:=[]) (seg:=[vI 0]) (seg':=[vI p1]) (post:=[[vI 0],enc (Vector.replicate 32 (0 : UInt8))]) rfl cl0 rfl rfl rfl (Ym (pre:=[[vI p1]]) (seg:=[vI 0]) (seg':=[vI p2]) (post:=[enc (Vector.replicate 32 (0 : UInt8))]) rfl ck rfl rfl rfl (Ym (pre:=[[vI p1],[vI p2]]) (seg:=enc (Vector.replicate 32 (0 : UInt8))) (seg':=enc p3) (post:=[]) rfl ck (Flat.len _) (Flat.len _) rfl Uq))) fun a hE=>Yi (xs:=[.tmp 14]) (l:=([(⟨p1,p2,p3⟩ : GEvent)] : List GEvent)) (vs:=[(Value.agg (enc (⟨p1,p2,p3⟩ : GEvent)).toArray)]) hE hM Za ld rfl rfl Tryz.underlying56 Y3 rfl (by decide) rfl ?_))); intro u7 w a hM hE
 obtain ⟨l9,e10,hF⟩:=bind_some hF
 obtain ⟨e13,rfl⟩:=Yr e10
 have hM:=hM.pull6
 refine Yh hE hM Za ld rfl rfl (hM.sl (pre:=[_]) noB) Tryz.underlying56 Y3 rfl (by decide) e13 fun u11 w a hM hE=>Zf hE rfl (VM) ?_; intro a hE
 have hM:=hM.pull4
 refine Zk (seg:=[u11]) hE hM Za rfl rfl (Yz (hM.sl (pre:=[_]) noB)) QM rfl (YK (pre:=[[v0_1],[vI p0.Next],[v0_2]]) ck rfl) (Rep.cell (hM.sl (pre:=[_]) noB)) (ZR (pre:=[[v0_1],[vI p0.Next],[v0_2]]) ck rfl) fun w a hM hE=>Ze (Zb (Zf hE rfl (VM) fun a hE=>Zw (v:=u11) hE rfl QM rfl (At.cat (pre:=[[v0_1],[vI p0.Next],[v0_2]]) hM.rawAt0 ck) ?_)); intro a hE
 obtain ⟨r14,e15,hF⟩:=bind_some hF
 refine Zx hE rfl (cbm Tryz.func110) (Ae _ (p0.Events ++ ([(⟨p1,p2,p3⟩ : GEvent)] : List GEvent)) u11 (hM.sl (pre:=[_]) noB) r14 e15) ?_
 rintro v w a ⟨rfl,hK⟩ hE
 have hM:=hM.keep hK
 refine Zf hE rfl (Jb) fun a hE=>Zk (seg:=enc r14) hE hM Za rfl rfl rfl Yt (Flat.len _) (YK (pre:=[[v0_1],[vI p0.Next],[v0_2],[u11]]) ck flq) (Flat.cell _) (ZR (pre:=[[v0_1],[vI p0.Next],[v0_2],[u11]]) ck flq) fun w a hM hE=>Ze (Zb (Zn hE rfl Ys rfl hM.rawAt0 cq ?_)); intro a hE
 have hM:=hM.pull3
 refine Zk (seg:=cat [[v0_1],[vI p0.Next],[v0_2],[u11],enc r14]) (cs':=cat [[v0_1],[vI p0.Next],[v0_2],[u11],enc r14]) hE hM Za rfl rfl rfl Ys cq (Nat.le_of_eq ((Nat.zero_add _).trans (Eq.trans cq (Eq.symm cq)))) (ZX (cc1 (Rep.cell (hM.sl (pre:=[_,_,_,_,_]) noB)) (cc1 (Flat.cell (p0.Next : Int)) (cc1 (Rep.cell (hM.sl (pre:=[_,_,_,_,_,_]) noB)) (cc1 (Rep.cell (hM.sl (pre:=[_,_]) noB)) (cc1 (Flat.cell _) cc0)))))) (Zi (Eq.trans cq (Eq.symm cq))) fun w a hM hE=>Ze ?_
 obtain rfl:=Option.some.inj hF
 have hq16 : Yu Tryz.prog _ _ (.cell 8 58) _:=ZJ hE rfl Ys rfl hM.rawAt0 cq rfl
 have hM:=((((hM.pull2.pull6.pull6.pull6).drop.pull5).drop.pull4).drop.pull3).drop
 exact wp_ret (ZL hE rfl hq16 ⟨_,rfl,v0_1,v0_2,u11,rfl,hM⟩)
def Vi (p0 : GVault) (p1 : Int) : Option (GVault × Int) :=
 (TW p0).bind fun r5=>if (!r5) = true then (some ((⟨[],0,[],[],(Vector.replicate 32 (0 : UInt8))⟩ : GVault),1)) else ((Ul p0 p1).bind fun r12=>if (decide (r12 < 0)) = true then (some ((⟨[],0,[],[],(Vector.replicate 32 (0 : UInt8))⟩ : GVault),4)) else (if ((p0.Events.length : Int) == 60) = true then (some ((⟨[],0,[],[],(Vector.replicate 32 (0 : UInt8))⟩ : GVault),3)) else ((Ts p0).bind fun r24=>((Xk ((wr (r12 + 1)) - r12)).bind fun _=>(slc r24.Records (0 : Int) r12).bind fun l43=>(app 112 ([] : List GRecord) l43).bind fun l45=>(slc r24.Records (wr (r12 + 1)) (r24.Records.length : Int)).bind fun l50=>(app 112 (([] : List GRecord) ++ l43) l50).bind fun l52=>some ((([] : List GRecord) ++ l43) ++ l50) : Option ((List GRecord))).bind fun j31=>(UZ (⟨r24.Keys,r24.Next,j31,r24.Events,r24.Head⟩ : GVault) 2 p1 (Vector.replicate 32 (0 : UInt8))).bind fun r58=>some (r58,0))))
end

end Go.Proofs.YtpibglnacohdkaaGreat
