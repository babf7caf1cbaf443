/- The walk of what the law reaches: contracts of functions. -/
import Derived.Test.YtpibglnacohdkaaGreatK2
import Derived.Test.YtpibglnacohdkaaGreatShelfS
import Derived.Test.YtpibglnacohdkaaGreatProg
set_option linter.unusedVariables false
set_option linter.unusedSimpArgs false
set_option maxRecDepth 20000
set_option maxHeartbeats 400000
namespace Go.Proofs.YtpibglnacohdkaaGreat
open Go
open Flat (enc)
noncomputable section
structure GRecord where
 Number : Int
 Version : Int
 Nonce : (Vector UInt8 16)
 Label : (List UInt8)
 Body : (List UInt8)
 Tag : (Vector UInt8 32)
 deriving DecidableEq,Inhabited
instance : Dat GRecord:=⟨fun x=>Dat.bd (α:=Int × Int × (Vector UInt8 16) × (List UInt8) × (List UInt8) × (Vector UInt8 32)) (x.Number,x.Version,x.Nonce,x.Label,x.Body,x.Tag),fun x=>Dat.sz (α:=Int × Int × (Vector UInt8 16) × (List UInt8) × (List UInt8) × (Vector UInt8 32)) (x.Number,x.Version,x.Nonce,x.Label,x.Body,x.Tag) + 1⟩
instance : Rep GRecord:=repIso (α:=Int × Int × (Vector UInt8 16) × (List UInt8) × (List UInt8) × (Vector UInt8 32)) (fun x=>(x.Number,x.Version,x.Nonce,x.Label,x.Body,x.Tag))
theorem U7 {S : Nat → Prop} {w : World} {x : GRecord} {cs : List Value} {fp : List Nat} (h : Rep.sat S w x cs fp) : ∃ (u1 : Value) (u2 : Value),∃ (g1 : List Nat) (g2 : List Nat),cs = cat [enc x.Number,enc x.Version,enc x.Nonce,[u1],[u2],enc x.Tag] ∧ fp = (g1 ++ g2) ∧ Rep.sat S w x.Label [u1] g1 ∧ Rep.sat S w x.Body [u2] g2:=by
 obtain ⟨c0,d0,f0,q0,rfl,rfl,h0,hr0⟩:=h
 obtain ⟨rfl,rfl⟩:=h0
 obtain ⟨c1,d1,f1,q1,rfl,rfl,h1,hr1⟩:=hr0
 obtain ⟨rfl,rfl⟩:=h1
 obtain ⟨c2,d2,f2,q2,rfl,rfl,h2,hr2⟩:=hr1
 obtain ⟨rfl,rfl⟩:=h2
 obtain ⟨c3,d3,f3,q3,rfl,rfl,h3,hr3⟩:=hr2
 obtain ⟨u1,rfl⟩:=TA h3
 obtain ⟨c4,d4,f4,q4,rfl,rfl,h4,hr4⟩:=hr3
 obtain ⟨u2,rfl⟩:=TA h4
 obtain ⟨rfl,rfl⟩:=hr4
 exact ⟨u1,u2,_,_,rfl,by simp,h3,h4⟩
theorem K3 {S : Nat → Prop} {w : World} {x : GRecord} {u1 u2 : Value} {fp : List Nat} (h : Rep.sat S w x (cat [enc x.Number,enc x.Version,enc x.Nonce,[u1],[u2],enc x.Tag]) fp) : ∃ (g1 : List Nat) (g2 : List Nat),fp = (g1 ++ g2) ∧ Rep.sat S w x.Label [u1] g1 ∧ Rep.sat S w x.Body [u2] g2:=by
 obtain ⟨w1,w2,g1,g2,hc,hf,s1,s2⟩:=U7 h
 obtain ⟨e1,k1⟩:=Ug hc rfl
 obtain ⟨e2,k2⟩:=Ug k1 rfl
 obtain ⟨e3,k3⟩:=Ug k2 rfl
 obtain ⟨e4,k4⟩:=Ug k3 rfl
 obtain ⟨e5,k5⟩:=Ug k4 rfl
 obtain rfl:=(List.cons.inj e4).1
 obtain rfl:=(List.cons.inj e5).1
 exact ⟨g1,g2,hf,s1,s2⟩
theorem Y1 {S : Nat → Prop} {w : World} {x : GRecord} {cs : List Value} (h : Rep.sat S w x cs []) : ∃ u1 u2,cs = cat [enc x.Number,enc x.Version,enc x.Nonce,[u1],[u2],enc x.Tag] ∧ Rep.sat S w x.Label [u1] [] ∧ Rep.sat S w x.Body [u2] []:=by
 obtain ⟨c0,d0,f0,g0,rfl,hf0,h0,hr0⟩:=h
 obtain ⟨rfl,rfl⟩:=List.append_eq_nil_iff.1 hf0.symm
 obtain ⟨rfl,_⟩:=h0
 obtain ⟨c1,d1,f1,g1,rfl,hf1,h1,hr1⟩:=hr0
 obtain ⟨rfl,rfl⟩:=List.append_eq_nil_iff.1 hf1.symm
 obtain ⟨rfl,_⟩:=h1
 obtain ⟨c2,d2,f2,g2,rfl,hf2,h2,hr2⟩:=hr1
 obtain ⟨rfl,rfl⟩:=List.append_eq_nil_iff.1 hf2.symm
 obtain ⟨rfl,_⟩:=h2
 obtain ⟨c3,d3,f3,g3,rfl,hf3,h3,hr3⟩:=hr2
 obtain ⟨rfl,rfl⟩:=List.append_eq_nil_iff.1 hf3.symm
 obtain ⟨u1,rfl⟩:=TA h3
 obtain ⟨c4,d4,f4,g4,rfl,hf4,h4,hr4⟩:=hr3
 obtain ⟨rfl,rfl⟩:=List.append_eq_nil_iff.1 hf4.symm
 obtain ⟨u2,rfl⟩:=TA h4
 obtain ⟨rfl,_⟩:=hr4
 exact ⟨u1,u2,rfl,h3,h4⟩
theorem Uj {S : Nat → Prop} {w : World} {x : GRecord} {u1 u2 : Value} {g1 g2 fp : List Nat} (h1 : Rep.sat S w x.Label [u1] g1) (h2 : Rep.sat S w x.Body [u2] g2) (hfp : fp = (g1 ++ g2)) : Rep.sat S w x (cat [enc x.Number,enc x.Version,enc x.Nonce,[u1],[u2],enc x.Tag]) fp:=by
 rw [hfp]
 refine ⟨_,_,[],(g1 ++ g2),rfl,(by simp),⟨rfl,rfl⟩,?_⟩
 refine ⟨_,_,[],(g1 ++ g2),rfl,(by simp),⟨rfl,rfl⟩,?_⟩
 refine ⟨_,_,[],(g1 ++ g2),rfl,(by simp),⟨rfl,rfl⟩,?_⟩
 refine ⟨_,_,g1,g2,rfl,(by simp),h1,?_⟩
 refine ⟨_,_,g2,[],rfl,(by simp),h2,?_⟩
 exact ⟨rfl,rfl⟩
theorem pm_GRecord {St : Nat → Prop} {w0 w : World} {its : List Item} {i1 i2 : Item} {x : GRecord} {u1 u2 : Value} (h : M St w0 w (i1 :: i2 :: its)) (s1 : SatI i1 x.Label u1) (s2 : SatI i2 x.Body u2) : M St w0 w (own NoB x (cat [enc x.Number,enc x.Version,enc x.Nonce,[u1],[u2],enc x.Tag]) :: its):=h.packL (m:=[_,_]) (YR noB) fun fp h=>by obtain ⟨_,_,rfl,_,k1,_,_,rfl,_,k2,rfl⟩:=h; exact Uj (s1 _ _ k1) (s2 _ _ k2) (by simp)
theorem um_GRecord {St : Nat → Prop} {w0 w : World} {its : List Item} {x : GRecord} {u1 u2 : Value} (h : M St w0 w (own NoB x (cat [enc x.Number,enc x.Version,enc x.Nonce,[u1],[u2],enc x.Tag]) :: its)) : M St w0 w (own NoB x.Label [u1] :: own NoB x.Body [u2] :: its):=h.unpackL (m:=[own NoB x.Label [u1],own NoB x.Body [u2]]) fun fp h=>by obtain ⟨_,_,rfl,s1,s2⟩:=K3 h; exact (Xw.cons (YR noB) s1 (Xw.one (YR noB) s2))
theorem jb (w : World) : Rep.sat NoB w (⟨(0 : Int),(0 : Int),(Vector.replicate 16 (0 : UInt8)),([] : (List UInt8)),([] : (List UInt8)),(Vector.replicate 32 (0 : UInt8))⟩ : GRecord) (cat [(enc (0 : Int)),(enc (0 : Int)),(enc (Vector.replicate 16 (0 : UInt8))),[.slice none 0 0],[.slice none 0 0],(enc (Vector.replicate 32 (0 : UInt8)))]) []:=Uj QY QY rfl
structure GEvent where
 Kind : Int
 Number : Int
 Tag : (Vector UInt8 32)
 deriving DecidableEq,Inhabited
instance : Dat GEvent:=⟨fun x=>Dat.bd (α:=Int × Int × (Vector UInt8 32)) (x.Kind,x.Number,x.Tag),fun x=>Dat.sz (α:=Int × Int × (Vector UInt8 32)) (x.Kind,x.Number,x.Tag) + 1⟩
instance : Flat GEvent where
 n:=34
 enc x:=cat [enc x.Kind,enc x.Number,enc x.Tag]
 len x:=Ap (cl1 (Flat.len _) (cl1 (Flat.len _) (cl1 (Flat.len _) cl0)))
 cell x:=Xv (cc1 (Flat.cell _) (cc1 (Flat.cell _) (cc1 (Flat.cell _) cc0)))
structure GVault where
 Keys : (List (Vector UInt8 16))
 Next : Int
 Records : (List GRecord)
 Events : (List GEvent)
 Head : (Vector UInt8 32)
 deriving DecidableEq,Inhabited
instance : Dat GVault:=⟨fun x=>Dat.bd (α:=(List (Vector UInt8 16)) × Int × (List GRecord) × (List GEvent) × (Vector UInt8 32)) (x.Keys,x.Next,x.Records,x.Events,x.Head),fun x=>Dat.sz (α:=(List (Vector UInt8 16)) × Int × (List GRecord) × (List GEvent) × (Vector UInt8 32)) (x.Keys,x.Next,x.Records,x.Events,x.Head) + 1⟩
instance : Rep GVault:=repIso (α:=(List (Vector UInt8 16)) × Int × (List GRecord) × (List GEvent) × (Vector UInt8 32)) (fun x=>(x.Keys,x.Next,x.Records,x.Events,x.Head))
theorem kY {S : Nat → Prop} {w : World} {x : GVault} {cs : List Value} {fp : List Nat} (h : Rep.sat S w x cs fp) : ∃ (u1 : Value) (u2 : Value) (u3 : Value),∃ (g1 : List Nat) (g2 : List Nat) (g3 : List Nat),cs = cat [[u1],enc x.Next,[u2],[u3],enc x.Head] ∧ fp = (g1 ++ (g2 ++ g3)) ∧ Rep.sat S w x.Keys [u1] g1 ∧ Rep.sat S w x.Records [u2] g2 ∧ Rep.sat S w x.Events [u3] g3:=by
 obtain ⟨c0,d0,f0,q0,rfl,rfl,h0,hr0⟩:=h
 obtain ⟨u1,rfl⟩:=TA h0
 obtain ⟨c1,d1,f1,q1,rfl,rfl,h1,hr1⟩:=hr0
 obtain ⟨rfl,rfl⟩:=h1
 obtain ⟨c2,d2,f2,q2,rfl,rfl,h2,hr2⟩:=hr1
 obtain ⟨u2,rfl⟩:=TA h2
 obtain ⟨c3,d3,f3,q3,rfl,rfl,h3,hr3⟩:=hr2
 obtain ⟨u3,rfl⟩:=TA h3
 obtain ⟨rfl,rfl⟩:=hr3
 exact ⟨u1,u2,u3,_,_,_,rfl,by simp,h0,h2,h3⟩
theorem kj {S : Nat → Prop} {w : World} {x : GVault} {u1 u2 u3 : Value} {fp : List Nat} (h : Rep.sat S w x (cat [[u1],enc x.Next,[u2],[u3],enc x.Head]) fp) : ∃ (g1 : List Nat) (g2 : List Nat) (g3 : List Nat),fp = (g1 ++ (g2 ++ g3)) ∧ Rep.sat S w x.Keys [u1] g1 ∧ Rep.sat S w x.Records [u2] g2 ∧ Rep.sat S w x.Events [u3] g3:=by
 obtain ⟨w1,w2,w3,g1,g2,g3,hc,hf,s1,s2,s3⟩:=kY h
 obtain ⟨e1,k1⟩:=Ug hc rfl
 obtain ⟨e2,k2⟩:=Ug k1 rfl
 obtain ⟨e3,k3⟩:=Ug k2 rfl
 obtain ⟨e4,k4⟩:=Ug k3 rfl
 obtain rfl:=(List.cons.inj e1).1
 obtain rfl:=(List.cons.inj e3).1
 obtain rfl:=(List.cons.inj e4).1
 exact ⟨g1,g2,g3,hf,s1,s2,s3⟩
theorem yv {S : Nat → Prop} {w : World} {x : GVault} {cs : List Value} (h : Rep.sat S w x cs []) : ∃ u1 u2 u3,cs = cat [[u1],enc x.Next,[u2],[u3],enc x.Head] ∧ Rep.sat S w x.Keys [u1] [] ∧ Rep.sat S w x.Records [u2] [] ∧ Rep.sat S w x.Events [u3] []:=by
 obtain ⟨c0,d0,f0,g0,rfl,hf0,h0,hr0⟩:=h
 obtain ⟨rfl,rfl⟩:=List.append_eq_nil_iff.1 hf0.symm
 obtain ⟨u1,rfl⟩:=TA h0
 obtain ⟨c1,d1,f1,g1,rfl,hf1,h1,hr1⟩:=hr0
 obtain ⟨rfl,rfl⟩:=List.append_eq_nil_iff.1 hf1.symm
 obtain ⟨rfl,_⟩:=h1
 obtain ⟨c2,d2,f2,g2,rfl,hf2,h2,hr2⟩:=hr1
 obtain ⟨rfl,rfl⟩:=List.append_eq_nil_iff.1 hf2.symm
 obtain ⟨u2,rfl⟩:=TA h2
 obtain ⟨c3,d3,f3,g3,rfl,hf3,h3,hr3⟩:=hr2
 obtain ⟨rfl,rfl⟩:=List.append_eq_nil_iff.1 hf3.symm
 obtain ⟨u3,rfl⟩:=TA h3
 obtain ⟨rfl,_⟩:=hr3
 exact ⟨u1,u2,u3,rfl,h0,h2,h3⟩
theorem zX {S : Nat → Prop} {w : World} {x : GVault} {u1 u2 u3 : Value} {g1 g2 g3 fp : List Nat} (h1 : Rep.sat S w x.Keys [u1] g1) (h2 : Rep.sat S w x.Records [u2] g2) (h3 : Rep.sat S w x.Events [u3] g3) (hfp : fp = (g1 ++ (g2 ++ g3))) : Rep.sat S w x (cat [[u1],enc x.Next,[u2],[u3],enc x.Head]) fp:=by
 rw [hfp]
 refine ⟨_,_,g1,(g2 ++ g3),rfl,(by simp),h1,?_⟩
 refine ⟨_,_,[],(g2 ++ g3),rfl,(by simp),⟨rfl,rfl⟩,?_⟩
 refine ⟨_,_,g2,g3,rfl,(by simp),h2,?_⟩
 refine ⟨_,_,g3,[],rfl,(by simp),h3,?_⟩
 exact ⟨rfl,rfl⟩
theorem Zax {St : Nat → Prop} {w0 w : World} {its : List Item} {i1 i2 i3 : Item} {x : GVault} {u1 u2 u3 : Value} (h : M St w0 w (i1 :: i2 :: i3 :: its)) (s1 : SatI i1 x.Keys u1) (s2 : SatI i2 x.Records u2) (s3 : SatI i3 x.Events u3) : M St w0 w (own NoB x (cat [[u1],enc x.Next,[u2],[u3],enc x.Head]) :: its):=h.packL (m:=[_,_,_]) (YR noB) fun fp h=>by obtain ⟨_,_,rfl,_,k1,_,_,rfl,_,k2,_,_,rfl,_,k3,rfl⟩:=h; exact zX (s1 _ _ k1) (s2 _ _ k2) (s3 _ _ k3) (by simp)
theorem Zau {St : Nat → Prop} {w0 w : World} {its : List Item} {x : GVault} {u1 u2 u3 : Value} (h : M St w0 w (own NoB x (cat [[u1],enc x.Next,[u2],[u3],enc x.Head]) :: its)) : M St w0 w (own NoB x.Keys [u1] :: own NoB x.Records [u2] :: own NoB x.Events [u3] :: its):=h.unpackL (m:=[own NoB x.Keys [u1],own NoB x.Records [u2],own NoB x.Events [u3]]) fun fp h=>by obtain ⟨_,_,_,rfl,s1,s2,s3⟩:=kj h; exact (Xw.cons (YR noB) s1 (Xw.cons (YR noB) s2 (Xw.one (YR noB) s3)))
theorem Zec (w : World) : Rep.sat NoB w (⟨([] : (List (Vector UInt8 16))),(0 : Int),([] : (List GRecord)),([] : (List GEvent)),(Vector.replicate 32 (0 : UInt8))⟩ : GVault) (cat [[.slice none 0 0],(enc (0 : Int)),[.slice none 0 0],[.slice none 0 0],(enc (Vector.replicate 32 (0 : UInt8)))]) []:=zX QY QY QY rfl
structure GCipher where
 Field : Int
 Box : (Vector UInt8 256)
 Mix : (Vector (Vector UInt8 4) 4)
 Places : (Vector UInt8 16)
 Rounds : Int
 deriving DecidableEq,Inhabited
instance : Dat GCipher:=⟨fun x=>Dat.bd (α:=Int × (Vector UInt8 256) × (Vector (Vector UInt8 4) 4) × (Vector UInt8 16) × Int) (x.Field,x.Box,x.Mix,x.Places,x.Rounds),fun x=>Dat.sz (α:=Int × (Vector UInt8 256) × (Vector (Vector UInt8 4) 4) × (Vector UInt8 16) × Int) (x.Field,x.Box,x.Mix,x.Places,x.Rounds) + 1⟩
instance : Flat GCipher where
 n:=290
 enc x:=cat [enc x.Field,enc x.Box,enc x.Mix,enc x.Places,enc x.Rounds]
 len x:=Ap (cl1 (Flat.len _) (cl1 (Flat.len _) (cl1 (Flat.len _) (cl1 (Flat.len _) (cl1 (Flat.len _) cl0)))))
 cell x:=Xv (cc1 (Flat.cell _) (cc1 (Flat.cell _) (cc1 (Flat.cell _) (cc1 (Flat.cell _) (cc1 (Flat.cell _) cc0)))))
structure Gengine where
 box : (Vector UInt8 256)
 backBox : (Vector UInt8 256)
 places : (Vector UInt8 16)
 backPlaces : (Vector UInt8 16)
 mixer : (Ref (Vector (Vector (Vector UInt8 256) 4) 4))
 backMixer : (Ref (Vector (Vector (Vector UInt8 256) 4) 4))
 rounds : Int
 deriving DecidableEq,Inhabited
instance : Dat Gengine:=⟨fun x=>Dat.bd (α:=(Vector UInt8 256) × (Vector UInt8 256) × (Vector UInt8 16) × (Vector UInt8 16) × (Ref (Vector (Vector (Vector UInt8 256) 4) 4)) × (Ref (Vector (Vector (Vector UInt8 256) 4) 4)) × Int) (x.box,x.backBox,x.places,x.backPlaces,x.mixer,x.backMixer,x.rounds),fun x=>Dat.sz (α:=(Vector UInt8 256) × (Vector UInt8 256) × (Vector UInt8 16) × (Vector UInt8 16) × (Ref (Vector (Vector (Vector UInt8 256) 4) 4)) × (Ref (Vector (Vector (Vector UInt8 256) 4) 4)) × Int) (x.box,x.backBox,x.places,x.backPlaces,x.mixer,x.backMixer,x.rounds) + 1⟩
instance : Rep Gengine:=repIso (α:=(Vector UInt8 256) × (Vector UInt8 256) × (Vector UInt8 16) × (Vector UInt8 16) × (Ref (Vector (Vector (Vector UInt8 256) 4) 4)) × (Ref (Vector (Vector (Vector UInt8 256) 4) 4)) × Int) (fun x=>(x.box,x.backBox,x.places,x.backPlaces,x.mixer,x.backMixer,x.rounds))
theorem jq {S : Nat → Prop} {w : World} {x : Gengine} {cs : List Value} {fp : List Nat} (h : Rep.sat S w x cs fp) : ∃ (u1 : Value) (u2 : Value),∃ (g1 : List Nat) (g2 : List Nat),cs = cat [enc x.box,enc x.backBox,enc x.places,enc x.backPlaces,[u1],[u2],enc x.rounds] ∧ fp = (g1 ++ g2) ∧ Rep.sat S w x.mixer [u1] g1 ∧ Rep.sat S w x.backMixer [u2] g2:=by
 obtain ⟨c0,d0,f0,q0,rfl,rfl,h0,hr0⟩:=h
 obtain ⟨rfl,rfl⟩:=h0
 obtain ⟨c1,d1,f1,q1,rfl,rfl,h1,hr1⟩:=hr0
 obtain ⟨rfl,rfl⟩:=h1
 obtain ⟨c2,d2,f2,q2,rfl,rfl,h2,hr2⟩:=hr1
 obtain ⟨rfl,rfl⟩:=h2
 obtain ⟨c3,d3,f3,q3,rfl,rfl,h3,hr3⟩:=hr2
 obtain ⟨rfl,rfl⟩:=h3
 obtain ⟨c4,d4,f4,q4,rfl,rfl,h4,hr4⟩:=hr3
 obtain ⟨u1,rfl⟩:=Ao h4
 obtain ⟨c5,d5,f5,q5,rfl,rfl,h5,hr5⟩:=hr4
 obtain ⟨u2,rfl⟩:=Ao h5
 obtain ⟨rfl,rfl⟩:=hr5
 exact ⟨u1,u2,_,_,rfl,by simp,h4,h5⟩
theorem Zed {S : Nat → Prop} {w : World} {x : Gengine} {u1 u2 : Value} {fp : List Nat} (h : Rep.sat S w x (cat [enc x.box,enc x.backBox,enc x.places,enc x.backPlaces,[u1],[u2],enc x.rounds]) fp) : ∃ (g1 : List Nat) (g2 : List Nat),fp = (g1 ++ g2) ∧ Rep.sat S w x.mixer [u1] g1 ∧ Rep.sat S w x.backMixer [u2] g2:=by
 obtain ⟨w1,w2,g1,g2,hc,hf,s1,s2⟩:=jq h
 obtain ⟨e1,k1⟩:=Ug hc rfl
 obtain ⟨e2,k2⟩:=Ug k1 rfl
 obtain ⟨e3,k3⟩:=Ug k2 rfl
 obtain ⟨e4,k4⟩:=Ug k3 rfl
 obtain ⟨e5,k5⟩:=Ug k4 rfl
 obtain ⟨e6,k6⟩:=Ug k5 rfl
 obtain rfl:=(List.cons.inj e5).1
 obtain rfl:=(List.cons.inj e6).1
 exact ⟨g1,g2,hf,s1,s2⟩
theorem Qi {S : Nat → Prop} {w : World} {x : Gengine} {cs : List Value} (h : Rep.sat S w x cs []) : ∃ u1 u2,cs = cat [enc x.box,enc x.backBox,enc x.places,enc x.backPlaces,[u1],[u2],enc x.rounds] ∧ Rep.sat S w x.mixer [u1] [] ∧ Rep.sat S w x.backMixer [u2] []:=by
 obtain ⟨c0,d0,f0,g0,rfl,hf0,h0,hr0⟩:=h
 obtain ⟨rfl,rfl⟩:=List.append_eq_nil_iff.1 hf0.symm
 obtain ⟨rfl,_⟩:=h0
 obtain ⟨c1,d1,f1,g1,rfl,hf1,h1,hr1⟩:=hr0
 obtain ⟨rfl,rfl⟩:=List.append_eq_nil_iff.1 hf1.symm
 obtain ⟨rfl,_⟩:=h1
 obtain ⟨c2,d2,f2,g2,rfl,hf2,h2,hr2⟩:=hr1
 obtain ⟨rfl,rfl⟩:=List.append_eq_nil_iff.1 hf2.symm
 obtain ⟨rfl,_⟩:=h2
 obtain ⟨c3,d3,f3,g3,rfl,hf3,h3,hr3⟩:=hr2
 obtain ⟨rfl,rfl⟩:=List.append_eq_nil_iff.1 hf3.symm
 obtain ⟨rfl,_⟩:=h3
 obtain ⟨c4,d4,f4,g4,rfl,hf4,h4,hr4⟩:=hr3
 obtain ⟨rfl,rfl⟩:=List.append_eq_nil_iff.1 hf4.symm
 obtain ⟨u1,rfl⟩:=Ao h4
 obtain ⟨c5,d5,f5,g5,rfl,hf5,h5,hr5⟩:=hr4
 obtain ⟨rfl,rfl⟩:=List.append_eq_nil_iff.1 hf5.symm
 obtain ⟨u2,rfl⟩:=Ao h5
 obtain ⟨rfl,_⟩:=hr5
 exact ⟨u1,u2,rfl,h4,h5⟩
theorem ky {S : Nat → Prop} {w : World} {x : Gengine} {u1 u2 : Value} {g1 g2 fp : List Nat} (h1 : Rep.sat S w x.mixer [u1] g1) (h2 : Rep.sat S w x.backMixer [u2] g2) (hfp : fp = (g1 ++ g2)) : Rep.sat S w x (cat [enc x.box,enc x.backBox,enc x.places,enc x.backPlaces,[u1],[u2],enc x.rounds]) fp:=by
 rw [hfp]
 refine ⟨_,_,[],(g1 ++ g2),rfl,(by simp),⟨rfl,rfl⟩,?_⟩
 refine ⟨_,_,[],(g1 ++ g2),rfl,(by simp),⟨rfl,rfl⟩,?_⟩
 refine ⟨_,_,[],(g1 ++ g2),rfl,(by simp),⟨rfl,rfl⟩,?_⟩
 refine ⟨_,_,[],(g1 ++ g2),rfl,(by simp),⟨rfl,rfl⟩,?_⟩
 refine ⟨_,_,g1,g2,rfl,(by simp),h1,?_⟩
 refine ⟨_,_,g2,[],rfl,(by simp),h2,?_⟩
 exact ⟨rfl,rfl⟩
theorem ty2 : Ty Tryz.prog 2 (.int .i64) 1 8 (enc (0 : Int)):=⟨Tryz.underlying2,by kernel_rfl⟩
theorem ty5 : Ty Tryz.prog 5 (.int .u8) 1 1 (enc (0 : UInt8)):=⟨Tryz.underlying5,by kernel_rfl⟩
theorem Q5 : Ty Tryz.prog 24 (.slice 2) 1 24 [.slice none 0 0]:=⟨Tryz.underlying24,by kernel_rfl⟩
theorem ty27 : Ty Tryz.prog 27 (.array 32 5) 32 32 (enc (Vector.replicate 32 (0 : UInt8))):=⟨Tryz.underlying27,by kernel_rfl⟩
theorem ZR : Ty Tryz.prog 35 (.array 32 5) 32 32 (enc (Vector.replicate 32 (0 : UInt8))):=⟨Tryz.underlying35,by kernel_rfl⟩
theorem UP : Ty Tryz.prog 40 (.slice 5) 1 24 [.slice none 0 0]:=⟨Tryz.underlying40,by kernel_rfl⟩
theorem ty48 : Ty Tryz.prog 48 (.slice 65) 1 24 [.slice none 0 0]:=⟨Tryz.underlying48,by kernel_rfl⟩
theorem ty49 : Ty Tryz.prog 49 (.slice 178) 1 24 [.slice none 0 0]:=⟨Tryz.underlying49,by kernel_rfl⟩
theorem ty50 : Ty Tryz.prog 50 (.slice 183) 1 24 [.slice none 0 0]:=⟨Tryz.underlying50,by kernel_rfl⟩
theorem zJ : Ty Tryz.prog 52 (.struct [{ name := "Keys", type := 48, offset := 0, embedded := false, tag := "", pkgPath := "", byteOffset := 0 }, { name := "Next", type := 2, offset := 1, embedded := false, tag := "", pkgPath := "", byteOffset := 24 }, { name := "Records", type := 49, offset := 2, embedded := false, tag := "", pkgPath := "", byteOffset := 32 }, { name := "Events", type := 50, offset := 3, embedded := false, tag := "", pkgPath := "", byteOffset := 56 }, { name := "Head", type := 27, offset := 4, embedded := false, tag := "", pkgPath := "", byteOffset := 80 }].toArray) 36 112 (cat [[.slice none 0 0], (enc (0 : Int)), [.slice none 0 0], [.slice none 0 0], (enc (Vector.replicate 32 (0 : UInt8)))]) := ⟨Tryz.underlying52, by kernel_rfl⟩
theorem HV : Ty Tryz.prog 54 (.slice 68) 1 24 [.slice none 0 0]:=⟨Tryz.underlying54,by kernel_rfl⟩
theorem Q4 : Ty Tryz.prog 55 (.slice 127) 1 24 [.slice none 0 0]:=⟨Tryz.underlying55,by kernel_rfl⟩
theorem Jv : Ty Tryz.prog 56 (.slice 131) 1 24 [.slice none 0 0]:=⟨Tryz.underlying56,by kernel_rfl⟩
theorem Ke : Ty Tryz.prog 58 (.struct [{ name := "Keys", type := 54, offset := 0, embedded := false, tag := "", pkgPath := "", byteOffset := 0 }, { name := "Next", type := 2, offset := 1, embedded := false, tag := "", pkgPath := "", byteOffset := 24 }, { name := "Records", type := 55, offset := 2, embedded := false, tag := "", pkgPath := "", byteOffset := 32 }, { name := "Events", type := 56, offset := 3, embedded := false, tag := "", pkgPath := "", byteOffset := 56 }, { name := "Head", type := 35, offset := 4, embedded := false, tag := "", pkgPath := "", byteOffset := 80 }].toArray) 36 112 (cat [[.slice none 0 0], (enc (0 : Int)), [.slice none 0 0], [.slice none 0 0], (enc (Vector.replicate 32 (0 : UInt8)))]) := ⟨Tryz.underlying58, by kernel_rfl⟩
theorem ty65 : Ty Tryz.prog 65 (.array 16 5) 16 16 (enc (Vector.replicate 16 (0 : UInt8))):=⟨Tryz.underlying65,by kernel_rfl⟩
theorem ZF : Ty Tryz.prog 68 (.array 16 5) 16 16 (enc (Vector.replicate 16 (0 : UInt8))):=⟨Tryz.underlying68,by kernel_rfl⟩
theorem YA : Ty Tryz.prog 127 (.struct [{ name := "Number", type := 2, offset := 0, embedded := false, tag := "", pkgPath := "", byteOffset := 0 }, { name := "Version", type := 2, offset := 1, embedded := false, tag := "", pkgPath := "", byteOffset := 8 }, { name := "Nonce", type := 68, offset := 2, embedded := false, tag := "", pkgPath := "", byteOffset := 16 }, { name := "Label", type := 40, offset := 18, embedded := false, tag := "", pkgPath := "", byteOffset := 32 }, { name := "Body", type := 40, offset := 19, embedded := false, tag := "", pkgPath := "", byteOffset := 56 }, { name := "Tag", type := 35, offset := 20, embedded := false, tag := "", pkgPath := "", byteOffset := 80 }].toArray) 52 112 (cat [(enc (0 : Int)), (enc (0 : Int)), (enc (Vector.replicate 16 (0 : UInt8))), [.slice none 0 0], [.slice none 0 0], (enc (Vector.replicate 32 (0 : UInt8)))]) := ⟨Tryz.underlying127, by kernel_rfl⟩
theorem Xd : Ty Tryz.prog 131 (.struct [{ name := "Kind", type := 2, offset := 0, embedded := false, tag := "", pkgPath := "", byteOffset := 0 }, { name := "Number", type := 2, offset := 1, embedded := false, tag := "", pkgPath := "", byteOffset := 8 }, { name := "Tag", type := 35, offset := 2, embedded := false, tag := "", pkgPath := "", byteOffset := 16 }].toArray) 34 48 (enc (⟨(0 : Int), (0 : Int), (Vector.replicate 32 (0 : UInt8))⟩ : GEvent)) := ⟨Tryz.underlying131, by kernel_rfl⟩
theorem yu : Ty Tryz.prog 156 (.array 256 5) 256 256 (enc (Vector.replicate 256 (0 : UInt8))):=⟨Tryz.underlying156,by kernel_rfl⟩
theorem Xt : Ty Tryz.prog 157 (.array 256 5) 256 256 (enc (Vector.replicate 256 (0 : UInt8))):=⟨Tryz.underlying157,by kernel_rfl⟩
theorem Xp : Ty Tryz.prog 158 (.array 4 5) 4 4 (enc (Vector.replicate 4 (0 : UInt8))):=⟨Tryz.underlying158,by kernel_rfl⟩
theorem U6 : Ty Tryz.prog 160 (.array 4 158) 16 16 (enc (Vector.replicate 4 (Vector.replicate 4 (0 : UInt8)))):=⟨Tryz.underlying160,by kernel_rfl⟩
theorem QG : Ty Tryz.prog 161 (.array 16 5) 16 16 (enc (Vector.replicate 16 (0 : UInt8))):=⟨Tryz.underlying161,by kernel_rfl⟩
theorem VA : Ty Tryz.prog 163 (.struct [{ name := "Field", type := 2, offset := 0, embedded := false, tag := "", pkgPath := "", byteOffset := 0 }, { name := "Box", type := 157, offset := 1, embedded := false, tag := "", pkgPath := "", byteOffset := 8 }, { name := "Mix", type := 160, offset := 257, embedded := false, tag := "", pkgPath := "", byteOffset := 264 }, { name := "Places", type := 161, offset := 273, embedded := false, tag := "", pkgPath := "", byteOffset := 280 }, { name := "Rounds", type := 2, offset := 289, embedded := false, tag := "", pkgPath := "", byteOffset := 296 }].toArray) 290 304 (enc (⟨(0 : Int), (Vector.replicate 256 (0 : UInt8)), (Vector.replicate 4 (Vector.replicate 4 (0 : UInt8))), (Vector.replicate 16 (0 : UInt8)), (0 : Int)⟩ : GCipher)) := ⟨Tryz.underlying163, by kernel_rfl⟩
theorem Jx : Ty Tryz.prog 178 (.struct [{ name := "Number", type := 2, offset := 0, embedded := false, tag := "", pkgPath := "", byteOffset := 0 }, { name := "Version", type := 2, offset := 1, embedded := false, tag := "", pkgPath := "", byteOffset := 8 }, { name := "Nonce", type := 65, offset := 2, embedded := false, tag := "", pkgPath := "", byteOffset := 16 }, { name := "Label", type := 40, offset := 18, embedded := false, tag := "", pkgPath := "", byteOffset := 32 }, { name := "Body", type := 40, offset := 19, embedded := false, tag := "", pkgPath := "", byteOffset := 56 }, { name := "Tag", type := 27, offset := 20, embedded := false, tag := "", pkgPath := "", byteOffset := 80 }].toArray) 52 112 (cat [(enc (0 : Int)), (enc (0 : Int)), (enc (Vector.replicate 16 (0 : UInt8))), [.slice none 0 0], [.slice none 0 0], (enc (Vector.replicate 32 (0 : UInt8)))]) := ⟨Tryz.underlying178, by kernel_rfl⟩
theorem jP : Ty Tryz.prog 183 (.struct [{ name := "Kind", type := 2, offset := 0, embedded := false, tag := "", pkgPath := "", byteOffset := 0 }, { name := "Number", type := 2, offset := 1, embedded := false, tag := "", pkgPath := "", byteOffset := 8 }, { name := "Tag", type := 27, offset := 2, embedded := false, tag := "", pkgPath := "", byteOffset := 16 }].toArray) 34 48 (enc (⟨(0 : Int), (0 : Int), (Vector.replicate 32 (0 : UInt8))⟩ : GEvent)) := ⟨Tryz.underlying183, by kernel_rfl⟩
theorem Zbr : Ty Tryz.prog 241 (.pointer 265) 1 8 [.pointer none]:=⟨Tryz.underlying241,by kernel_rfl⟩
theorem BA : Ty Tryz.prog 244 (.struct [{ name := "box", type := 157, offset := 0, embedded := false, tag := "", pkgPath := "loop.example/g01182/impl", byteOffset := 0 }, { name := "backBox", type := 157, offset := 256, embedded := false, tag := "", pkgPath := "loop.example/g01182/impl", byteOffset := 256 }, { name := "places", type := 161, offset := 512, embedded := false, tag := "", pkgPath := "loop.example/g01182/impl", byteOffset := 512 }, { name := "backPlaces", type := 161, offset := 528, embedded := false, tag := "", pkgPath := "loop.example/g01182/impl", byteOffset := 528 }, { name := "mixer", type := 241, offset := 544, embedded := false, tag := "", pkgPath := "loop.example/g01182/impl", byteOffset := 544 }, { name := "backMixer", type := 241, offset := 545, embedded := false, tag := "", pkgPath := "loop.example/g01182/impl", byteOffset := 552 }, { name := "rounds", type := 2, offset := 546, embedded := false, tag := "", pkgPath := "loop.example/g01182/impl", byteOffset := 560 }].toArray) 547 568 (cat [(enc (Vector.replicate 256 (0 : UInt8))), (enc (Vector.replicate 256 (0 : UInt8))), (enc (Vector.replicate 16 (0 : UInt8))), (enc (Vector.replicate 16 (0 : UInt8))), [.pointer none], [.pointer none], (enc (0 : Int))]) := ⟨Tryz.underlying244, by kernel_rfl⟩
theorem AN : Ty Tryz.prog 263 (.array 4 156) 1024 1024 (enc (Vector.replicate 4 (Vector.replicate 256 (0 : UInt8)))):=⟨Tryz.underlying263,by kernel_rfl⟩
theorem ty265 : Ty Tryz.prog 265 (.array 4 263) 4096 4096 (enc (Vector.replicate 4 (Vector.replicate 4 (Vector.replicate 256 (0 : UInt8))))):=⟨Tryz.underlying265,by kernel_rfl⟩
theorem Zb0 : Fd Tryz.prog 52 0 0:=Y9 zJ.und rfl rfl ty48 (by decide)
theorem fd52_1 : Fd Tryz.prog 52 1 1:=Y9 zJ.und rfl rfl ty2 (by decide)
theorem Zcb : Fd Tryz.prog 52 2 2:=Y9 zJ.und rfl rfl ty49 (by decide)
theorem Zbn : Fd Tryz.prog 52 3 3:=Y9 zJ.und rfl rfl ty50 (by decide)
theorem fd52_4 : Fd Tryz.prog 52 4 4:=Y9 zJ.und rfl rfl ty27 (by decide)
theorem Qj : Fd Tryz.prog 58 0 0:=Y9 Ke.und rfl rfl HV (by decide)
theorem KB : Fd Tryz.prog 58 1 1:=Y9 Ke.und rfl rfl ty2 (by decide)
theorem Vy : Fd Tryz.prog 58 2 2:=Y9 Ke.und rfl rfl Q4 (by decide)
theorem TZ : Fd Tryz.prog 58 3 3:=Y9 Ke.und rfl rfl Jv (by decide)
theorem zk : Fd Tryz.prog 58 4 4:=Y9 Ke.und rfl rfl ZR (by decide)
theorem XX : Fd Tryz.prog 127 0 0:=Y9 YA.und rfl rfl ty2 (by decide)
theorem TR : Fd Tryz.prog 127 1 1:=Y9 YA.und rfl rfl ty2 (by decide)
theorem Jk : Fd Tryz.prog 127 2 2:=Y9 YA.und rfl rfl ZF (by decide)
theorem Qc : Fd Tryz.prog 127 3 18:=Y9 YA.und rfl rfl UP (by decide)
theorem Kc : Fd Tryz.prog 127 4 19:=Y9 YA.und rfl rfl UP (by decide)
theorem Q9 : Fd Tryz.prog 127 5 20:=Y9 YA.und rfl rfl ZR (by decide)
theorem UW : Fd Tryz.prog 131 0 0:=Y9 Xd.und rfl rfl ty2 (by decide)
theorem Tk : Fd Tryz.prog 131 1 1:=Y9 Xd.und rfl rfl ty2 (by decide)
theorem Q8 : Fd Tryz.prog 131 2 2:=Y9 Xd.und rfl rfl ZR (by decide)
theorem Aj : Fd Tryz.prog 163 0 0:=Y9 VA.und rfl rfl ty2 (by decide)
theorem Jr : Fd Tryz.prog 163 1 1:=Y9 VA.und rfl rfl Xt (by decide)
theorem Hg : Fd Tryz.prog 163 2 257:=Y9 VA.und rfl rfl U6 (by decide)
theorem Hl : Fd Tryz.prog 163 3 273:=Y9 VA.und rfl rfl QG (by decide)
theorem y7 : Fd Tryz.prog 163 4 289:=Y9 VA.und rfl rfl ty2 (by decide)
theorem Zdg : Fd Tryz.prog 178 0 0:=Y9 Jx.und rfl rfl ty2 (by decide)
theorem Zc5 : Fd Tryz.prog 178 1 1:=Y9 Jx.und rfl rfl ty2 (by decide)
theorem Zdu : Fd Tryz.prog 178 2 2:=Y9 Jx.und rfl rfl ty65 (by decide)
theorem qM : Fd Tryz.prog 178 3 18:=Y9 Jx.und rfl rfl UP (by decide)
theorem qu : Fd Tryz.prog 178 4 19:=Y9 Jx.und rfl rfl UP (by decide)
theorem Zd4 : Fd Tryz.prog 178 5 20:=Y9 Jx.und rfl rfl ty27 (by decide)
theorem Zdh : Fd Tryz.prog 183 0 0:=Y9 jP.und rfl rfl ty2 (by decide)
theorem Zd9 : Fd Tryz.prog 183 1 1:=Y9 jP.und rfl rfl ty2 (by decide)
theorem Zea : Fd Tryz.prog 183 2 2:=Y9 jP.und rfl rfl ty27 (by decide)
theorem yB : Fd Tryz.prog 244 0 0:=Y9 BA.und rfl rfl Xt (by decide)
theorem fd244_1 : Fd Tryz.prog 244 1 256:=Y9 BA.und rfl rfl Xt (by decide)
theorem Zd7 : Fd Tryz.prog 244 2 512:=Y9 BA.und rfl rfl QG (by decide)
theorem fd244_3 : Fd Tryz.prog 244 3 528:=Y9 BA.und rfl rfl QG (by decide)
theorem Zd8 : Fd Tryz.prog 244 4 544:=Y9 BA.und rfl rfl Zbr (by decide)
theorem fd244_5 : Fd Tryz.prog 244 5 545:=Y9 BA.und rfl rfl Zbr (by decide)
theorem Zc8 : Fd Tryz.prog 244 6 546:=Y9 BA.und rfl rfl ty2 (by decide)
theorem pl163 : Places Tryz.prog [{ name := "Field", type := 2, offset := 0, embedded := false, tag := "", pkgPath := "", byteOffset := 0 }, { name := "Box", type := 157, offset := 1, embedded := false, tag := "", pkgPath := "", byteOffset := 8 }, { name := "Mix", type := 160, offset := 257, embedded := false, tag := "", pkgPath := "", byteOffset := 264 }, { name := "Places", type := 161, offset := 273, embedded := false, tag := "", pkgPath := "", byteOffset := 280 }, { name := "Rounds", type := 2, offset := 289, embedded := false, tag := "", pkgPath := "", byteOffset := 296 }] [(0, 1), (1, 256), (257, 16), (273, 16), (289, 1)] := by show _ = _; kernel_rfl
theorem pl244 : Places Tryz.prog [{ name := "box", type := 157, offset := 0, embedded := false, tag := "", pkgPath := "loop.example/g01182/impl", byteOffset := 0 }, { name := "backBox", type := 157, offset := 256, embedded := false, tag := "", pkgPath := "loop.example/g01182/impl", byteOffset := 256 }, { name := "places", type := 161, offset := 512, embedded := false, tag := "", pkgPath := "loop.example/g01182/impl", byteOffset := 512 }, { name := "backPlaces", type := 161, offset := 528, embedded := false, tag := "", pkgPath := "loop.example/g01182/impl", byteOffset := 528 }, { name := "mixer", type := 241, offset := 544, embedded := false, tag := "", pkgPath := "loop.example/g01182/impl", byteOffset := 544 }, { name := "backMixer", type := 241, offset := 545, embedded := false, tag := "", pkgPath := "loop.example/g01182/impl", byteOffset := 552 }, { name := "rounds", type := 2, offset := 546, embedded := false, tag := "", pkgPath := "loop.example/g01182/impl", byteOffset := 560 }] [(0, 256), (256, 256), (512, 16), (528, 16), (544, 1), (545, 1), (546, 1)] := by show _ = _; kernel_rfl
theorem Yy : Tryz.prog.follows .mixedOrders = true:=by kernel_rfl
theorem cb12 : Callable Tryz.prog 12:=cbm Tryz.func12
theorem cb20 : Callable Tryz.prog 20:=cbm Tryz.func20
theorem cb25 : Callable Tryz.prog 25:=cbm Tryz.func25
theorem cb37 : Callable Tryz.prog 37:=cbm Tryz.func37
theorem cb69 : Callable Tryz.prog 69:=cbm Tryz.func69
theorem qh : Callable Tryz.prog 106:=cbm Tryz.func106
theorem qj : Callable Tryz.prog 124:=cbm Tryz.func124
theorem JE : Callable Tryz.prog 129:=cbm Tryz.func129
theorem Zbz : Callable Tryz.prog 133:=cbm Tryz.func133
theorem qq : Callable Tryz.prog 143:=cbm Tryz.func143
theorem Zc0 : Callable Tryz.prog 154:=cbm Tryz.func154
theorem Zcm : Callable Tryz.prog 164:=cbm Tryz.func164
theorem Zba : Callable Tryz.prog 166:=cbm Tryz.func166
theorem z6 : Callable Tryz.prog 182:=cbm Tryz.func182
theorem Zb6 : Callable Tryz.prog 190:=cbm Tryz.func190
theorem ys : Callable Tryz.prog 206:=cbm Tryz.func206
theorem jm : Callable Tryz.prog 208:=cbm Tryz.func208
theorem Zbv : Callable Tryz.prog 215:=cbm Tryz.func215
theorem BG : Callable Tryz.prog 233:=cbm Tryz.func233
def W2 (p0 : (List (Vector UInt8 16))) (p1 : Int) : Option (Int) :=
 if (decide ((wr (p1 - (p0.length : Int))) < 0)) = true then (some (-1)) else (some (wr (p1 - (p0.length : Int))))
theorem B6 (w0 : World) (p0 : (List (Vector UInt8 16))) (v0_1 : Value) (hv0_1 : Ro w0 p0 [v0_1]) (p1 : Int) (r : Int) (hF : W2 p0 p1 = some r) :
  Calls Tryz.prog 76 [v0_1,vI p1].toArray w0 (Rt w0 (vI r)):=by
 refine ce Tryz.func76 ?_
 intro a hE
 have hM:=M.start w0
 unfold W2 at hF
 refine Zb (Zc hE rfl fun a hE=>Ze (Zb (Zd hE rfl fun a hE=>Zd hE rfl fun a hE=>Z2 hE rfl Tryz.underlying48 (hM.rd hv0_1) fun a hE=>Zi hE rfl rfl rfl fun a hE=>Zc hE rfl fun a hE=>Ze (wp_seq (Zb (Zd hE rfl fun a hE=>Zi hE rfl rfl rfl fun a hE=>Ze ?_))))))
 refine Zo hE rfl ?_ ?_
 ·intro hb1
  have hF:=Zs hF hb1
  refine Zb (Zc hE rfl fun a hE=>Ze ?_)
  obtain rfl:=Option.some.inj hF
  exact wp_ret (ZA (kr1 hE rfl rfl hM.kept))
 ·intro hb1
  have hF:=Zt hF hb1
  refine wp_skip (Zu (Zb (Zd hE rfl fun a hE=>Zc hE rfl fun a hE=>Ze ?_)))
  obtain rfl:=Option.some.inj hF
  exact wp_ret (kr1 hE rfl rfl hM.kept)
def XN (p0 : (List UInt8)) (p1 : Int) : Option (Int) :=
 if (decide ((wr (p1 - (p0.length : Int))) < 0)) = true then (some (-1)) else (some (wr (p1 - (p0.length : Int))))
theorem KQ (w0 : World) (p0 : (List UInt8)) (v0_1 : Value) (hv0_1 : Ro w0 p0 [v0_1]) (p1 : Int) (r : Int) (hF : XN p0 p1 = some r) :
  Calls Tryz.prog 117 [v0_1,vI p1].toArray w0 (Rt w0 (vI r)):=by
 refine ce Tryz.func117 ?_
 intro a hE
 have hM:=M.start w0
 unfold XN at hF
 refine Zb (Zc hE rfl fun a hE=>Ze (Zb (Zd hE rfl fun a hE=>Zd hE rfl fun a hE=>Z2 hE rfl Tryz.underlying40 (hM.rd hv0_1) fun a hE=>Zi hE rfl rfl rfl fun a hE=>Zc hE rfl fun a hE=>Ze (wp_seq (Zb (Zd hE rfl fun a hE=>Zi hE rfl rfl rfl fun a hE=>Ze ?_))))))
 refine Zo hE rfl ?_ ?_
 ·intro hb1
  have hF:=Zs hF hb1
  refine Zb (Zc hE rfl fun a hE=>Ze ?_)
  obtain rfl:=Option.some.inj hF
  exact wp_ret (ZA (kr1 hE rfl rfl hM.kept))
 ·intro hb1
  have hF:=Zt hF hb1
  refine wp_skip (Zu (Zb (Zd hE rfl fun a hE=>Zc hE rfl fun a hE=>Ze ?_)))
  obtain rfl:=Option.some.inj hF
  exact wp_ret (kr1 hE rfl rfl hM.kept)
def Uq (p0 : GRecord) (p1 : Int) : Option (Int) :=
 (XN p0.Label p1).bind fun r3=>if (decide (r3 < 0)) = true then (some (-1)) else ((XN p0.Body r3).bind fun r6=>if (decide (r6 < 0)) = true then (some (-1)) else (some r6))
theorem BO (w0 : World) (p0 : GRecord) (v0_1 : Value) (hv0_1 : Ro w0 p0.Label [v0_1]) (v0_2 : Value) (hv0_2 : Ro w0 p0.Body [v0_2]) (p1 : Int) (r : Int) (hF : Uq p0 p1 = some r) :
  Calls Tryz.prog 142 [(Value.agg (cat [[vI p0.Number],[vI p0.Version],enc p0.Nonce,[v0_1],[v0_2],enc p0.Tag]).toArray),vI p1].toArray w0 (Rt w0 (vI r)):=by
 refine ce Tryz.func142 ?_
 intro a hE
 have hM:=M.start w0
 unfold Uq at hF
 refine Zb (ZT (cs:=cat [[vI p0.Number],[vI p0.Version],enc p0.Nonce,[v0_1],[v0_2],enc p0.Tag]) hE hM Za ld rfl rfl fun b1 w a hM hE=>Zc hE rfl fun a hE=>Ze (Zb (Zg hE rfl (qM) fun a hE=>Zw (v:=v0_1) hE rfl UP rfl (At.cat (pre:=[[vI p0.Number],[vI p0.Version],enc p0.Nonce]) hM.rawAt0 ck) fun a hE=>Zd hE rfl ?_))); intro a hE
 obtain ⟨r3,e4,hF⟩:=bind_some hF
 refine Zx hE rfl (cbm Tryz.func117) (KQ _ p0.Label v0_1 (hM.rdo hv0_1) p1 r3 e4) ?_
 rintro v w a ⟨rfl,hK⟩ hE
 have hM:=hM.keep hK
 refine Zc hE rfl fun a hE=>Ze (wp_seq (Zb (Zd hE rfl fun a hE=>Zi hE rfl rfl rfl fun a hE=>Ze ?_)))
 refine Zo hE rfl ?_ ?_
 ·intro hb5
  have hF:=Zs hF hb5
  refine Zb (Zc hE rfl fun a hE=>Ze ?_)
  obtain rfl:=Option.some.inj hF
  exact wp_ret (ZA (kr1 hE rfl rfl hM.kept))
 ·intro hb5
  have hF:=Zt hF hb5
  refine wp_skip (Zu (Zb (Zg hE rfl (qu) fun a hE=>Zw (v:=v0_2) hE rfl UP rfl (At.cat (pre:=[[vI p0.Number],[vI p0.Version],enc p0.Nonce,[v0_1]]) hM.rawAt0 ck) fun a hE=>Zd hE rfl ?_))); intro a hE
  obtain ⟨r6,e7,hF⟩:=bind_some hF
  refine Zx hE rfl (cbm Tryz.func117) (KQ _ p0.Body v0_2 (hM.rdo hv0_2) r3 r6 e7) ?_
  rintro v w a ⟨rfl,hK⟩ hE
  have hM:=hM.keep hK
  refine Zc hE rfl fun a hE=>Ze (wp_seq (Zb (Zd hE rfl fun a hE=>Zi hE rfl rfl rfl fun a hE=>Ze ?_)))
  refine Zo hE rfl ?_ ?_
  ·intro hb8
   have hF:=Zs hF hb8
   refine Zb (Zc hE rfl fun a hE=>Ze ?_)
   obtain rfl:=Option.some.inj hF
   exact wp_ret (ZA (kr1 hE rfl rfl hM.kept))
  ·intro hb8
   have hF:=Zt hF hb8
   refine wp_skip (Zu (Zb (Zd hE rfl fun a hE=>Zc hE rfl fun a hE=>Ze ?_)))
   obtain rfl:=Option.some.inj hF
   exact wp_ret (kr1 hE rfl rfl hM.kept)
def UT (p0 : (List GRecord)) (s6 : Int × Int) : Option (Fl (Int × Int) (Fl Int Int)) :=
 if (decide (s6.2 < (p0.length : Int))) = true then ((idx p0 s6.2).bind fun x11=>(Uq x11 s6.1).bind fun r21=>if (decide (r21 < 0)) = true then (some (Fl.ex (Fl.ex (-1)))) else (some (Fl.nx (r21,wr (s6.2 + 1))))) else (some (Fl.ex (Fl.nx s6.1)))
def XF (p0 : (List GRecord)) (p1 : Int) : Option (Int) :=
 if (decide ((wr (p1 - (p0.length : Int))) < 0)) = true then (some (-1)) else ((ZB (UT p0) (wr (p1 - (p0.length : Int)),0)).bind fun j2=>j2.el (fun s5=>some s5) (fun r=>some r))
theorem H6 (w0 : World) (p0 : (List GRecord)) (v0_1 : Value) (hv0_1 : Ro w0 p0 [v0_1]) (p1 : Int) (r : Int) (hF : XF p0 p1 = some r) :
  Calls Tryz.prog 77 [v0_1,vI p1].toArray w0 (Rt w0 (vI r)):=by
 refine ce Tryz.func77 ?_
 intro a hE
 have hM:=M.start w0
 unfold XF at hF
 refine Zb (Zc hE rfl fun a hE=>Ze (Zb (Zd hE rfl fun a hE=>Zd hE rfl fun a hE=>Z2 hE rfl Tryz.underlying49 (hM.rd hv0_1) fun a hE=>Zi hE rfl rfl rfl fun a hE=>Zc hE rfl fun a hE=>Ze (wp_seq (Zb (Zd hE rfl fun a hE=>Zi hE rfl rfl rfl fun a hE=>Ze ?_))))))
 refine Zo hE rfl ?_ ?_
 ·intro hb1
  have hF:=Zs hF hb1
  refine Zb (Zc hE rfl fun a hE=>Ze ?_)
  obtain rfl:=Option.some.inj hF
  exact wp_ret (ZA (kr1 hE rfl rfl hM.kept))
 ·intro hb1
  have hF:=Zt hF hb1
  refine wp_skip (Zu (wp_seq (Zb (Zc hE rfl fun a hE=>Ze ?_))))
  obtain ⟨j2,hl3,hF4⟩:=bind_some hF
  refine ZJ (fun a w=>∃ s5 : Int,j2 = Fl.nx s5 ∧ Env 27 a [(1,vI s5)] ∧ M (Old w0) w0 w []) ?_ ?_
  ·skip
   refine wp_block ?_
   refine ZC (fun (s6 : Int × Int) a w=>Env 27 a [(0,v0_1),(1,vI s6.1),(5,vI s6.2)] ∧ M (Old w0) w0 w []) hl3 ⟨hE.sub ⟨rfl,rfl,rfl,trivial⟩,hM⟩ ?_
   rintro s6 a w ⟨hE,hM⟩ o9 hs7 hx8
   unfold UT at hs7
   refine wp_seq (Zb (Zd hE rfl fun a hE=>Zd hE rfl fun a hE=>Z2 hE rfl Tryz.underlying49 (hM.rd hv0_1) fun a hE=>Zi hE rfl rfl rfl fun a hE=>Ze ?_))
   refine Zo hE rfl ?_ ?_
   ·intro hb10
    have hs7:=Zs hs7 hb10
    refine wp_skip (Zu (wp_seq (wp_block (Zb (Zd hE rfl fun a hE=>Zd hE rfl ?_))))); intro a hE
    obtain ⟨x11,hi13,hs7⟩:=bix hs7
    refine ZL hE rfl rfl Tryz.underlying49 Jx (hM.rd hv0_1) hi13.1 ?_; intro a hE
    obtain ⟨cs14,hs15,hA16⟩:=X3 hv0_1 hi13.2 -- ^
    obtain ⟨u17,u19,rfl,h18,h20⟩:=Y1 hs15 -- ^
    refine Zr hE rfl Jx rfl (hM.atk hA16 (VR hv0_1 hi13.2)) cq fun a hE=>Zd hE rfl ?_; intro a hE
    obtain ⟨r21,e22,hs7⟩:=bind_some hs7
    refine Zx hE rfl (cbm Tryz.func142) (BO _ x11 u17 (hM.rdo h18) u19 (hM.rdo h20) s6.1 r21 e22) ?_
    rintro v w a ⟨rfl,hK⟩ hE
    have hM:=hM.keep hK
    refine Zc hE rfl fun a hE=>Ze (Zb (Zd hE rfl fun a hE=>Zi hE rfl rfl rfl fun a hE=>Ze ?_))
    refine Zo hE rfl ?_ ?_
    ·intro hb23
     have hs7:=Zs hs7 hb23
     refine Zb (Zc hE rfl fun a hE=>Ze ?_)
     obtain rfl:=hx8 _ (ois hs7)
     obtain rfl:=Option.some.inj hF4
     exact wp_ret (XH (ZA (ZA (XH (ZA (ZA (kr1 hE rfl rfl hM.kept)))))))
    ·intro hb23
     have hs7:=Zt hs7 hb23
     refine wp_skip (Z4 (Zu (wp_region_lit (Zd hE rfl fun a hE=>Zi hE rfl rfl rfl fun a hE=>Zc hE rfl fun a hE=>Zf (Zh ?_)))))
     exact ⟨_,(ois hs7),hE.sub ⟨rfl,rfl,rfl,trivial⟩,hM⟩
   ·intro hb10
    have hs7:=Zt hs7 hb10
    refine wp_exit (Zl (Zl (Z5 ?_)))
    obtain rfl:=hx8 _ (ois hs7)
    refine Zh ?_
    exact ⟨s6.1,rfl,hE.sub ⟨rfl,trivial⟩,hM⟩
  ·skip
   rintro a w ⟨s5,ht,hE,hM⟩
   subst ht
   have hF4:=Qu hF4
   refine Zu (Zb (Zd hE rfl fun a hE=>Zc hE rfl fun a hE=>Ze ?_))
   obtain rfl:=Option.some.inj hF4
   exact wp_ret (kr1 hE rfl rfl hM.kept)
def Xr (p0 : (List GEvent)) (p1 : Int) : Option (Int) :=
 if (decide ((wr (p1 - (p0.length : Int))) < 0)) = true then (some (-1)) else (some (wr (p1 - (p0.length : Int))))
theorem B3 (w0 : World) (p0 : (List GEvent)) (v0_1 : Value) (hv0_1 : Ro w0 p0 [v0_1]) (p1 : Int) (r : Int) (hF : Xr p0 p1 = some r) :
  Calls Tryz.prog 78 [v0_1,vI p1].toArray w0 (Rt w0 (vI r)):=by
 refine ce Tryz.func78 ?_
 intro a hE
 have hM:=M.start w0
 unfold Xr at hF
 refine Zb (Zc hE rfl fun a hE=>Ze (Zb (Zd hE rfl fun a hE=>Zd hE rfl fun a hE=>Z2 hE rfl Tryz.underlying50 (hM.rd hv0_1) fun a hE=>Zi hE rfl rfl rfl fun a hE=>Zc hE rfl fun a hE=>Ze (wp_seq (Zb (Zd hE rfl fun a hE=>Zi hE rfl rfl rfl fun a hE=>Ze ?_))))))
 refine Zo hE rfl ?_ ?_
 ·intro hb1
  have hF:=Zs hF hb1
  refine Zb (Zc hE rfl fun a hE=>Ze ?_)
  obtain rfl:=Option.some.inj hF
  exact wp_ret (ZA (kr1 hE rfl rfl hM.kept))
 ·intro hb1
  have hF:=Zt hF hb1
  refine wp_skip (Zu (Zb (Zd hE rfl fun a hE=>Zc hE rfl fun a hE=>Ze ?_)))
  obtain rfl:=Option.some.inj hF
  exact wp_ret (kr1 hE rfl rfl hM.kept)
def T3 (p0 : GVault) (p1 : Int) : Option (Int) :=
 (W2 p0.Keys p1).bind fun r3=>if (decide (r3 < 0)) = true then (some (-1)) else ((XF p0.Records r3).bind fun r6=>if (decide (r6 < 0)) = true then (some (-1)) else ((Xr p0.Events r6).bind fun r9=>if (decide (r9 < 0)) = true then (some (-1)) else (some r9)))
theorem zi (w0 : World) (p0 : GVault) (v0_1 : Value) (hv0_1 : Ro w0 p0.Keys [v0_1]) (v0_2 : Value) (hv0_2 : Ro w0 p0.Records [v0_2]) (v0_3 : Value) (hv0_3 : Ro w0 p0.Events [v0_3]) (p1 : Int) (r : Int) (hF : T3 p0 p1 = some r) :
  Calls Tryz.prog 23 [(Value.agg (cat [[v0_1],[vI p0.Next],[v0_2],[v0_3],enc p0.Head]).toArray),vI p1].toArray w0 (Rt w0 (vI r)):=by
 refine ce Tryz.func23 ?_
 intro a hE
 have hM:=M.start w0
 unfold T3 at hF
 refine Zb (ZT (cs:=cat [[v0_1],[vI p0.Next],[v0_2],[v0_3],enc p0.Head]) hE hM Za ld rfl rfl fun b1 w a hM hE=>Zc hE rfl fun a hE=>Ze (Zb (Zg hE rfl (Zb0) fun a hE=>Zw (v:=v0_1) hE rfl ty48 rfl (At.cat (pre:=[]) hM.rawAt0 cl0) fun a hE=>Zd hE rfl ?_))); intro a hE
 obtain ⟨r3,e4,hF⟩:=bind_some hF
 refine Zx hE rfl (cbm Tryz.func76) (B6 _ p0.Keys v0_1 (hM.rdo hv0_1) p1 r3 e4) ?_
 rintro v w a ⟨rfl,hK⟩ hE
 have hM:=hM.keep hK
 refine Zc hE rfl fun a hE=>Ze (wp_seq (Zb (Zd hE rfl fun a hE=>Zi hE rfl rfl rfl fun a hE=>Ze ?_)))
 refine Zo hE rfl ?_ ?_
 ·intro hb5
  have hF:=Zs hF hb5
  refine Zb (Zc hE rfl fun a hE=>Ze ?_)
  obtain rfl:=Option.some.inj hF
  exact wp_ret (ZA (kr1 hE rfl rfl hM.kept))
 ·intro hb5
  have hF:=Zt hF hb5
  refine wp_skip (Zu (Zb (Zg hE rfl (Zcb) fun a hE=>Zw (v:=v0_2) hE rfl ty49 rfl (At.cat (pre:=[[v0_1],[vI p0.Next]]) hM.rawAt0 ck) fun a hE=>Zd hE rfl ?_))); intro a hE
  obtain ⟨r6,e7,hF⟩:=bind_some hF
  refine Zx hE rfl (cbm Tryz.func77) (H6 _ p0.Records v0_2 (hM.rdo hv0_2) r3 r6 e7) ?_
  rintro v w a ⟨rfl,hK⟩ hE
  have hM:=hM.keep hK
  refine Zc hE rfl fun a hE=>Ze (wp_seq (Zb (Zd hE rfl fun a hE=>Zi hE rfl rfl rfl fun a hE=>Ze ?_)))
  refine Zo hE rfl ?_ ?_
  ·intro hb8
   have hF:=Zs hF hb8
   refine Zb (Zc hE rfl fun a hE=>Ze ?_)
   obtain rfl:=Option.some.inj hF
   exact wp_ret (ZA (kr1 hE rfl rfl hM.kept))
  ·intro hb8
   have hF:=Zt hF hb8
   refine wp_skip (Zu (Zb (Zg hE rfl (Zbn) fun a hE=>Zw (v:=v0_3) hE rfl ty50 rfl (At.cat (pre:=[[v0_1],[vI p0.Next],[v0_2]]) hM.rawAt0 ck) fun a hE=>Zd hE rfl ?_))); intro a hE
   obtain ⟨r9,e10,hF⟩:=bind_some hF
   refine Zx hE rfl (cbm Tryz.func78) (B3 _ p0.Events v0_3 (hM.rdo hv0_3) r6 r9 e10) ?_
   rintro v w a ⟨rfl,hK⟩ hE
   have hM:=hM.keep hK
   refine Zc hE rfl fun a hE=>Ze (wp_seq (Zb (Zd hE rfl fun a hE=>Zi hE rfl rfl rfl fun a hE=>Ze ?_)))
   refine Zo hE rfl ?_ ?_
   ·intro hb11
    have hF:=Zs hF hb11
    refine Zb (Zc hE rfl fun a hE=>Ze ?_)
    obtain rfl:=Option.some.inj hF
    exact wp_ret (ZA (kr1 hE rfl rfl hM.kept))
   ·intro hb11
    have hF:=Zt hF hb11
    refine wp_skip (Zu (Zb (Zd hE rfl fun a hE=>Zc hE rfl fun a hE=>Ze ?_)))
    obtain rfl:=Option.some.inj hF
    exact wp_ret (kr1 hE rfl rfl hM.kept)
def TU (p0 : (Vector UInt8 16)) (s10 : (Vector UInt8 16) × Int) : Option (Fl ((Vector UInt8 16) × Int) (Vector UInt8 16)) :=
 if (decide (s10.2 < 16)) = true then ((ZH p0 s10.2).bind fun x16=>(ZH s10.1 s10.2).bind fun x19=>some (Fl.nx ((s10.1.setIfInBounds (s10.2).toNat x16),wr (s10.2 + 1)))) else (some (Fl.ex s10.1))
def WI (p0 : (Vector UInt8 16)) : Option ((Vector UInt8 16)) :=
 (ZB (TU p0) ((Vector.replicate 16 (0 : UInt8)),0)).bind fun j7=>some j7
theorem Jd (w0 : World) (p0 : (Vector UInt8 16)) (r : (Vector UInt8 16)) (hF : WI p0 = some r) :
  Calls Tryz.prog 31 [(Value.agg (enc p0).toArray)].toArray w0 (Rt w0 (Value.agg (enc r).toArray)):=by
 refine ce Tryz.func31 ?_
 intro a hE
 have hM:=M.start w0
 unfold WI at hF
 refine Zb (ZT (cs:=enc p0) hE hM Za ld rfl rfl fun b1 w a hM hE=>Zz hE hM ZF fun b3 w a hM hE=>Ze (Zb (Zz hE hM ZF fun b5 w a hM hE=>Ze (wp_seq (Zb (Zc hE rfl fun a hE=>Ze ?_))))))
 obtain ⟨j7,hl8,hF9⟩:=bind_some hF
 refine ZJ (fun a w=>Env 15 a [(2,(ptr b3 0)),(3,(ptr b5 0))] ∧ M (Old w0) w0 w [raw b5 (enc j7),raw b3 (enc (Vector.replicate 16 (0 : UInt8)))]) ?_ ?_
 ·skip
  refine wp_block ?_
  refine ZC (fun (s10 : (Vector UInt8 16) × Int) a w=>Env 15 a [(1,(ptr b1 0)),(2,(ptr b3 0)),(3,(ptr b5 0)),(4,vI s10.2)] ∧ M (Old w0) w0 w [raw b5 (enc s10.1),raw b3 (enc (Vector.replicate 16 (0 : UInt8))),raw b1 (enc p0)]) hl8 ⟨hE.sub ⟨rfl,rfl,rfl,rfl,trivial⟩,hM⟩ ?_
  rintro s10 a w ⟨hE,hM⟩ o13 hs11 hx12
  unfold TU at hs11
  refine wp_seq (Zb (Zd hE rfl fun a hE=>Zi hE rfl rfl rfl fun a hE=>Ze ?_))
  refine Zo hE rfl ?_ ?_
  ·intro hb14
   have hs11:=Zs hs11 hb14
   refine wp_skip (Zu (wp_seq (wp_block (wp_region_lit (Zd hE rfl fun a hE=>Zd hE rfl ?_))))); intro a hE
   obtain ⟨x16,hi15,hs11⟩:=bvx hs11
   refine ZD hE rfl rfl Tryz.underlying65 ty5 hi15.1 fun a hE=>Zw (v:=(vB x16)) hE rfl ty5 rfl (At.vec hM.rawAt2 hi15.2) ?_; intro a hE
   obtain ⟨x19,hi18,hs11⟩:=bvx hs11
   refine ZD hE rfl rfl Tryz.underlying68 ty5 hi18.1 fun a hE=>Zn (seg:=[vB x16]) (cs':=enc (s10.1.setIfInBounds (s10.2).toNat x16)) hE hM Za rfl rfl rfl ty5 rfl (ZM (v:=s10.1) (x:=x16) hi18.1) (Flat.cell (x16 : UInt8)) (ZE (v:=s10.1) (x:=x16) hi18.1) fun w a hM hE=>Zf (Z4 (Zu (wp_region_lit (Zd hE rfl fun a hE=>Zi hE rfl rfl rfl fun a hE=>Zc hE rfl fun a hE=>Zf (Zh ?_)))))
   exact ⟨_,(ois hs11),hE.sub ⟨rfl,rfl,rfl,rfl,trivial⟩,hM⟩
  ·intro hb14
   have hs11:=Zt hs11 hb14
   refine wp_exit (Zl (Zl (Z5 ?_)))
   obtain rfl:=hx12 _ (ois hs11)
   refine Zh ?_
   have hM:=M.fst (l:=[_,_]) hM.pull1.pull1
   exact ⟨hE.sub ⟨rfl,rfl,trivial⟩,hM⟩
 ·skip
  rintro a w ⟨hE,hM⟩
  refine Zu (Zb (Zr hE rfl ZF rfl hM.rawAt0 (Flat.len _) ?_)); intro a hE
  have hM:=hM.pull1
  refine Zn (seg:=enc j7) (cs':=enc j7) hE hM Za rfl rfl rfl ZF (Flat.len _) (zle flq) (Flat.cell _) (Zk flq) fun w a hM hE=>Ze ?_
  obtain rfl:=Option.some.inj hF9
  have hq22 : Yt Tryz.prog _ _ (.cell 2 68) _:=ZQ hE rfl ZF rfl hM.rawAt0 (Flat.len _) rfl
  exact wp_ret (ZN hE rfl hq22 ⟨_,rfl,rfl,hM.kept⟩)
def Ti (p0 : (List (Vector UInt8 16))) (s10 : (List (Vector UInt8 16)) × Int) : Option (Fl ((List (Vector UInt8 16)) × Int) (List (Vector UInt8 16))) :=
 if (decide (s10.2 < (p0.length : Int))) = true then ((idx p0 s10.2).bind fun x17=>(WI x17).bind fun r20=>(idx s10.1 s10.2).bind fun x22=>some (Fl.nx ((s10.1.set (s10.2).toNat r20),wr (s10.2 + 1)))) else (some (Fl.ex s10.1))
def Us (p0 : (List (Vector UInt8 16))) : Option ((List (Vector UInt8 16))) :=
 (mkS 16 (Vector.replicate 16 (0 : UInt8)) (p0.length : Int)).bind fun l1=>(ZB (Ti p0) (l1,0)).bind fun j5=>some j5
theorem B0 (w0 : World) (p0 : (List (Vector UInt8 16))) (v0_1 : Value) (hv0_1 : Ro w0 p0 [v0_1]) (r : (List (Vector UInt8 16))) (hF : Us p0 = some r) :
  Calls Tryz.prog 83 [v0_1].toArray w0 (fun en w'=>∃ v,en = .returned v ∧ (∃ (y1 : Value),v = y1 ∧ Fr w0 w' [osl NoB (r : List (Vector UInt8 16)) y1] ∧ Kept (Old w0) w0 w')):=by
 refine ce Tryz.func83 ?_
 intro a hE
 have hM:=M.start w0
 unfold Us at hF
 refine Zb (Zc hE rfl fun a hE=>Ze (Zb (Zd hE rfl fun a hE=>Z2 hE rfl Tryz.underlying48 (hM.rd hv0_1) ?_))); intro a hE
 obtain ⟨l1,e2,hF⟩:=bind_some hF
 refine Bj hE hM Za ld rfl rfl Tryz.underlying54 ZF rfl (by decide) (fun _=>TD.2 ⟨rfl,rfl⟩) e2 fun u3 w a hM hE=>Zc hE rfl fun a hE=>Ze (wp_seq (Zb (Zc hE rfl fun a hE=>Ze ?_)))
 obtain ⟨j5,hl6,hF7⟩:=bind_some hF
 refine ZJ (fun a w=>∃ (u8 : Value),Env 23 a [(3,u8)] ∧ M (Old w0) w0 w [osl NoB (j5 : List (Vector UInt8 16)) u8]) ?_ ?_
 ·skip
  refine wp_block ?_
  refine ZC (fun (s10 : (List (Vector UInt8 16)) × Int) a w=>∃ (u11 : Value),Env 23 a [(0,v0_1),(3,u11),(4,vI s10.2)] ∧ M (Old w0) w0 w [osl NoB (s10.1 : List (Vector UInt8 16)) u11]) hl6 ⟨u3,hE.sub ⟨rfl,rfl,rfl,trivial⟩,hM⟩ ?_
  rintro s10 a w ⟨u11,hE,hM⟩ o15 hs13 hx14
  unfold Ti at hs13
  refine wp_seq (Zb (Zd hE rfl fun a hE=>Zd hE rfl fun a hE=>Z2 hE rfl Tryz.underlying48 (hM.rd hv0_1) fun a hE=>Zi hE rfl rfl rfl fun a hE=>Ze ?_))
  refine Zo hE rfl ?_ ?_
  ·intro hb16
   have hs13:=Zs hs13 hb16
   refine wp_skip (Zu (wp_seq (wp_block (wp_region_lit (Zd hE rfl fun a hE=>Zd hE rfl fun a hE=>Zd hE rfl fun a hE=>Zd hE rfl ?_))))); intro a hE
   obtain ⟨x17,hi19,hs13⟩:=bix hs13
   refine ZL hE rfl rfl Tryz.underlying48 ty65 (hM.rd hv0_1) hi19.1 fun a hE=>Zr hE rfl ty65 rfl (Yp (hM.rd hv0_1) hi19.2) (Flat.len _) ?_; intro a hE
   obtain ⟨r20,e21,hs13⟩:=bind_some hs13
   refine Zx hE rfl (cbm Tryz.func31) (Jd _ x17 r20 e21) ?_
   rintro v w a ⟨rfl,hK⟩ hE
   have hM:=hM.keep hK
   obtain ⟨x22,hi24,hs13⟩:=bix hs13
   refine ZL hE rfl rfl Tryz.underlying54 ZF (hM.sl (pre:=[]) noB) hi24.1 fun a hE=>T5 (i:=(s10.2).toNat) (k0:=0) (seg:=enc r20) (xo:=x22) (xn:=r20) hE hM Za rfl rfl rfl ZF (Flat.len _) (Flat.cell _) hi24.2 (QJ (m:=16) (Flat.len _) (by decide)) (Zk flq) fun w a hM hE=>Zf (Z4 (Zu (wp_region_lit (Zd hE rfl fun a hE=>Zi hE rfl rfl rfl fun a hE=>Zc hE rfl fun a hE=>Zf (Zh ?_)))))
   exact ⟨_,(ois hs13),u11,hE.sub ⟨rfl,rfl,rfl,trivial⟩,hM⟩
  ·intro hb16
   have hs13:=Zt hs13 hb16
   refine wp_exit (Zl (Zl (Z5 ?_)))
   obtain rfl:=hx14 _ (ois hs13)
   refine Zh ?_
   exact ⟨u11,hE.sub ⟨rfl,trivial⟩,hM⟩
 ·skip
  rintro a w ⟨u8,hE,hM⟩
  refine Zu (Zb (Zd hE rfl fun a hE=>Zc hE rfl fun a hE=>Ze ?_))
  obtain rfl:=Option.some.inj hF7
  exact wp_ret (ZN hE rfl (ZY hE rfl) ⟨_,rfl,u8,rfl,hM.outF (Wm XZ),hM.kept⟩)
def TT (p0 : (List UInt8)) (s10 : (List UInt8) × Int) : Option (Fl ((List UInt8) × Int) (List UInt8)) :=
 if (decide (s10.2 < (p0.length : Int))) = true then ((idx p0 s10.2).bind fun x17=>(idx s10.1 s10.2).bind fun x20=>some (Fl.nx ((s10.1.set (s10.2).toNat x17),wr (s10.2 + 1)))) else (some (Fl.ex s10.1))
def VK (p0 : (List UInt8)) : Option ((List UInt8)) :=
 (mkS 1 (0 : UInt8) (p0.length : Int)).bind fun l1=>(ZB (TT p0) (l1,0)).bind fun j5=>some j5
theorem K9 (w0 : World) (p0 : (List UInt8)) (v0_1 : Value) (hv0_1 : Ro w0 p0 [v0_1]) (r : (List UInt8)) (hF : VK p0 = some r) :
  Calls Tryz.prog 18 [v0_1].toArray w0 (fun en w'=>∃ v,en = .returned v ∧ (∃ (y1 : Value),v = y1 ∧ Fr w0 w' [osl NoB (r : List UInt8) y1] ∧ Kept (Old w0) w0 w')):=by
 refine ce Tryz.func18 ?_
 intro a hE
 have hM:=M.start w0
 unfold VK at hF
 refine Zb (Zc hE rfl fun a hE=>Ze (Zb (Zd hE rfl fun a hE=>Z2 hE rfl Tryz.underlying40 (hM.rd hv0_1) ?_))); intro a hE
 obtain ⟨l1,e2,hF⟩:=bind_some hF
 refine Bj hE hM Za ld rfl rfl Tryz.underlying40 ty5 rfl (by decide) (fun _=>TD.2 ⟨rfl,rfl⟩) e2 fun u3 w a hM hE=>Zc hE rfl fun a hE=>Ze (wp_seq (Zb (Zc hE rfl fun a hE=>Ze ?_)))
 obtain ⟨j5,hl6,hF7⟩:=bind_some hF
 refine ZJ (fun a w=>∃ (u8 : Value),Env 22 a [(3,u8)] ∧ M (Old w0) w0 w [osl NoB (j5 : List UInt8) u8]) ?_ ?_
 ·skip
  refine wp_block ?_
  refine ZC (fun (s10 : (List UInt8) × Int) a w=>∃ (u11 : Value),Env 22 a [(0,v0_1),(3,u11),(4,vI s10.2)] ∧ M (Old w0) w0 w [osl NoB (s10.1 : List UInt8) u11]) hl6 ⟨u3,hE.sub ⟨rfl,rfl,rfl,trivial⟩,hM⟩ ?_
  rintro s10 a w ⟨u11,hE,hM⟩ o15 hs13 hx14
  unfold TT at hs13
  refine wp_seq (Zb (Zd hE rfl fun a hE=>Zd hE rfl fun a hE=>Z2 hE rfl Tryz.underlying40 (hM.rd hv0_1) fun a hE=>Zi hE rfl rfl rfl fun a hE=>Ze ?_))
  refine Zo hE rfl ?_ ?_
  ·intro hb16
   have hs13:=Zs hs13 hb16
   refine wp_skip (Zu (wp_seq (wp_block (wp_region_lit (Zd hE rfl fun a hE=>Zd hE rfl fun a hE=>Zd hE rfl fun a hE=>Zd hE rfl ?_))))); intro a hE
   obtain ⟨x17,hi19,hs13⟩:=bix hs13
   refine ZL hE rfl rfl Tryz.underlying40 ty5 (hM.rd hv0_1) hi19.1 fun a hE=>Zw (v:=(vB x17)) hE rfl ty5 rfl (Yp (hM.rd hv0_1) hi19.2) ?_; intro a hE
   obtain ⟨x20,hi22,hs13⟩:=bix hs13
   refine ZL hE rfl rfl Tryz.underlying40 ty5 (hM.sl (pre:=[]) noB) hi22.1 fun a hE=>T5 (i:=(s10.2).toNat) (k0:=0) (seg:=[vB x17]) (xo:=x20) (xn:=x17) hE hM Za rfl rfl rfl ty5 rfl (Flat.cell (x17 : UInt8)) hi22.2 (QJ (m:=1) rfl (by decide)) (Zk rfl) fun w a hM hE=>Zf (Z4 (Zu (wp_region_lit (Zd hE rfl fun a hE=>Zi hE rfl rfl rfl fun a hE=>Zc hE rfl fun a hE=>Zf (Zh ?_)))))
   exact ⟨_,(ois hs13),u11,hE.sub ⟨rfl,rfl,rfl,trivial⟩,hM⟩
  ·intro hb16
   have hs13:=Zt hs13 hb16
   refine wp_exit (Zl (Zl (Z5 ?_)))
   obtain rfl:=hx14 _ (ois hs13)
   refine Zh ?_
   exact ⟨u11,hE.sub ⟨rfl,trivial⟩,hM⟩
 ·skip
  rintro a w ⟨u8,hE,hM⟩
  refine Zu (Zb (Zd hE rfl fun a hE=>Zc hE rfl fun a hE=>Ze ?_))
  obtain rfl:=Option.some.inj hF7
  exact wp_ret (ZN hE rfl (ZY hE rfl) ⟨_,rfl,u8,rfl,hM.outF (Wm XZ),hM.kept⟩)
def Tt (p0 : (Vector UInt8 32)) (s10 : (Vector UInt8 32) × Int) : Option (Fl ((Vector UInt8 32) × Int) (Vector UInt8 32)) :=
 if (decide (s10.2 < 32)) = true then ((ZH p0 s10.2).bind fun x16=>(ZH s10.1 s10.2).bind fun x19=>some (Fl.nx ((s10.1.setIfInBounds (s10.2).toNat x16),wr (s10.2 + 1)))) else (some (Fl.ex s10.1))
def Wb (p0 : (Vector UInt8 32)) : Option ((Vector UInt8 32)) :=
 (ZB (Tt p0) ((Vector.replicate 32 (0 : UInt8)),0)).bind fun j7=>some j7
theorem QB (w0 : World) (p0 : (Vector UInt8 32)) (r : (Vector UInt8 32)) (hF : Wb p0 = some r) :
  Calls Tryz.prog 12 [(Value.agg (enc p0).toArray)].toArray w0 (Rt w0 (Value.agg (enc r).toArray)):=by
 refine ce Tryz.func12 ?_
 intro a hE
 have hM:=M.start w0
 unfold Wb at hF
 refine Zb (ZT (cs:=enc p0) hE hM Za ld rfl rfl fun b1 w a hM hE=>Zz hE hM ZR fun b3 w a hM hE=>Ze (Zb (Zz hE hM ZR fun b5 w a hM hE=>Ze (wp_seq (Zb (Zc hE rfl fun a hE=>Ze ?_))))))
 obtain ⟨j7,hl8,hF9⟩:=bind_some hF
 refine ZJ (fun a w=>Env 15 a [(2,(ptr b3 0)),(3,(ptr b5 0))] ∧ M (Old w0) w0 w [raw b5 (enc j7),raw b3 (enc (Vector.replicate 32 (0 : UInt8)))]) ?_ ?_
 ·skip
  refine wp_block ?_
  refine ZC (fun (s10 : (Vector UInt8 32) × Int) a w=>Env 15 a [(1,(ptr b1 0)),(2,(ptr b3 0)),(3,(ptr b5 0)),(4,vI s10.2)] ∧ M (Old w0) w0 w [raw b5 (enc s10.1),raw b3 (enc (Vector.replicate 32 (0 : UInt8))),raw b1 (enc p0)]) hl8 ⟨hE.sub ⟨rfl,rfl,rfl,rfl,trivial⟩,hM⟩ ?_
  rintro s10 a w ⟨hE,hM⟩ o13 hs11 hx12
  unfold Tt at hs11
  refine wp_seq (Zb (Zd hE rfl fun a hE=>Zi hE rfl rfl rfl fun a hE=>Ze ?_))
  refine Zo hE rfl ?_ ?_
  ·intro hb14
   have hs11:=Zs hs11 hb14
   refine wp_skip (Zu (wp_seq (wp_block (wp_region_lit (Zd hE rfl fun a hE=>Zd hE rfl ?_))))); intro a hE
   obtain ⟨x16,hi15,hs11⟩:=bvx hs11
   refine ZD hE rfl rfl Tryz.underlying27 ty5 hi15.1 fun a hE=>Zw (v:=(vB x16)) hE rfl ty5 rfl (At.vec hM.rawAt2 hi15.2) ?_; intro a hE
   obtain ⟨x19,hi18,hs11⟩:=bvx hs11
   refine ZD hE rfl rfl Tryz.underlying35 ty5 hi18.1 fun a hE=>Zn (seg:=[vB x16]) (cs':=enc (s10.1.setIfInBounds (s10.2).toNat x16)) hE hM Za rfl rfl rfl ty5 rfl (ZM (v:=s10.1) (x:=x16) hi18.1) (Flat.cell (x16 : UInt8)) (ZE (v:=s10.1) (x:=x16) hi18.1) fun w a hM hE=>Zf (Z4 (Zu (wp_region_lit (Zd hE rfl fun a hE=>Zi hE rfl rfl rfl fun a hE=>Zc hE rfl fun a hE=>Zf (Zh ?_)))))
   exact ⟨_,(ois hs11),hE.sub ⟨rfl,rfl,rfl,rfl,trivial⟩,hM⟩
  ·intro hb14
   have hs11:=Zt hs11 hb14
   refine wp_exit (Zl (Zl (Z5 ?_)))
   obtain rfl:=hx12 _ (ois hs11)
   refine Zh ?_
   have hM:=M.fst (l:=[_,_]) hM.pull1.pull1
   exact ⟨hE.sub ⟨rfl,rfl,trivial⟩,hM⟩
 ·skip
  rintro a w ⟨hE,hM⟩
  refine Zu (Zb (Zr hE rfl ZR rfl hM.rawAt0 (Flat.len _) ?_)); intro a hE
  have hM:=hM.pull1
  refine Zn (seg:=enc j7) (cs':=enc j7) hE hM Za rfl rfl rfl ZR (Flat.len _) (zle flq) (Flat.cell _) (Zk flq) fun w a hM hE=>Ze ?_
  obtain rfl:=Option.some.inj hF9
  have hq22 : Yt Tryz.prog _ _ (.cell 2 35) _:=ZQ hE rfl ZR rfl hM.rawAt0 (Flat.len _) rfl
  exact wp_ret (ZN hE rfl hq22 ⟨_,rfl,rfl,hM.kept⟩)
def W8 (p0 : GRecord) : Option (GRecord) :=
 (WI p0.Nonce).bind fun r7=>(VK p0.Label).bind fun r9=>(VK p0.Body).bind fun r12=>(Wb p0.Tag).bind fun r15=>some (⟨p0.Number,p0.Version,r7,r9,r12,r15⟩ : GRecord)
theorem BN (w0 : World) (p0 : GRecord) (v0_1 : Value) (hv0_1 : Ro w0 p0.Label [v0_1]) (v0_2 : Value) (hv0_2 : Ro w0 p0.Body [v0_2]) (r : GRecord) (hF : W8 p0 = some r) :
  Calls Tryz.prog 145 [(Value.agg (cat [[vI p0.Number],[vI p0.Version],enc p0.Nonce,[v0_1],[v0_2],enc p0.Tag]).toArray)].toArray w0 (fun en w'=>∃ v,en = .returned v ∧ (∃ (y1 : Value) (y2 : Value),v = (Value.agg (cat [[vI r.Number],[vI r.Version],enc r.Nonce,[y1],[y2],enc r.Tag]).toArray) ∧ Fr w0 w' [osl NoB (r.Label : List UInt8) y1,osl NoB (r.Body : List UInt8) y2] ∧ Kept (Old w0) w0 w')):=by
 refine ce Tryz.func145 ?_
 intro a hE
 have hM:=M.start w0
 unfold W8 at hF
 refine Zb (ZT (cs:=cat [[vI p0.Number],[vI p0.Version],enc p0.Nonce,[v0_1],[v0_2],enc p0.Tag]) hE hM Za ld rfl rfl fun b1 w a hM hE=>Zz hE hM YA fun b3 w a hM hE=>Ze (Zb (Zz hE hM YA fun b5 w a hM hE=>Ze (Zb (Zg hE rfl (Zdg) fun a hE=>Zw (v:=(vI p0.Number)) hE rfl ty2 rfl (At.cat (pre:=[]) hM.rawAt2 cl0) fun a hE=>Zg hE rfl (XX) fun a hE=>Zn (seg:=[vI p0.Number]) hE hM Za rfl rfl rfl ty2 rfl (VG (pre:=[]) cl0 rfl) (Flat.cell (p0.Number : Int)) (Yn (pre:=[]) cl0 rfl) fun w a hM hE=>Ze (Zb (Zg hE rfl (Zc5) fun a hE=>Zw (v:=(vI p0.Version)) hE rfl ty2 rfl (At.cat (pre:=[[vI p0.Number]]) hM.rawAt2 ck) fun a hE=>Zg hE rfl (TR) fun a hE=>Zn (seg:=[vI p0.Version]) hE hM Za rfl rfl rfl ty2 rfl (VG (pre:=[[vI p0.Number]]) ck rfl) (Flat.cell (p0.Version : Int)) (Yn (pre:=[[vI p0.Number]]) ck rfl) fun w a hM hE=>Ze (Zb (Zg hE rfl (Zdu) ?_))))))))); intro a hE
 refine Zr hE rfl ty65 rfl (At.cat (pre:=[[vI p0.Number],[vI p0.Version]]) hM.rawAt2 ck) (Flat.len _) ?_; intro a hE
 obtain ⟨r7,e8,hF⟩:=bind_some hF
 refine Zx hE rfl (cbm Tryz.func31) (Jd _ p0.Nonce r7 e8) ?_
 rintro v w a ⟨rfl,hK⟩ hE
 have hM:=hM.keep hK
 refine Zg hE rfl (Jk) fun a hE=>Zn (seg:=enc r7) hE hM Za rfl rfl rfl ZF (Flat.len _) (VG (pre:=[[vI p0.Number],[vI p0.Version]]) ck flq) (Flat.cell _) (Yn (pre:=[[vI p0.Number],[vI p0.Version]]) ck flq) fun w a hM hE=>Ze (Zb (Zg hE rfl (qM) fun a hE=>Zw (v:=v0_1) hE rfl UP rfl (At.cat (pre:=[[vI p0.Number],[vI p0.Version],enc p0.Nonce]) hM.rawAt2 ck) ?_)); intro a hE
 obtain ⟨r9,e10,hF⟩:=bind_some hF
 refine Zx hE rfl (cbm Tryz.func18) (K9 _ p0.Label v0_1 (hM.rdo hv0_1) r9 e10) ?_
 rintro u11 w a ⟨_,rfl,hFr,hK⟩ hE
 have hM:=hM.add hK hFr
 refine Zg hE rfl (Qc) ?_; intro a hE
 have hM:=hM.pull1
 refine Zn (seg:=[u11]) hE hM Za rfl rfl (Ym (hM.sl (pre:=[_]) noB)) UP rfl (VG (pre:=[[vI p0.Number],[vI p0.Version],enc r7]) ck rfl) (Rep.cell (hM.sl (pre:=[_]) noB)) (Yn (pre:=[[vI p0.Number],[vI p0.Version],enc r7]) ck rfl) fun w a hM hE=>Ze (Zb (Zg hE rfl (qu) fun a hE=>Zw (v:=v0_2) hE rfl UP rfl (At.cat (pre:=[[vI p0.Number],[vI p0.Version],enc p0.Nonce,[v0_1]]) hM.rawAt3 ck) ?_)); intro a hE
 obtain ⟨r12,e13,hF⟩:=bind_some hF
 refine Zx hE rfl (cbm Tryz.func18) (K9 _ p0.Body v0_2 (hM.rdo hv0_2) r12 e13) ?_
 rintro u14 w a ⟨_,rfl,hFr,hK⟩ hE
 have hM:=hM.add hK hFr
 refine Zg hE rfl (Kc) ?_; intro a hE
 have hM:=hM.pull1
 refine Zn (seg:=[u14]) hE hM Za rfl rfl (Ym (hM.sl (pre:=[_]) noB)) UP rfl (VG (pre:=[[vI p0.Number],[vI p0.Version],enc r7,[u11]]) ck rfl) (Rep.cell (hM.sl (pre:=[_]) noB)) (Yn (pre:=[[vI p0.Number],[vI p0.Version],enc r7,[u11]]) ck rfl) fun w a hM hE=>Ze (Zb (Zg hE rfl (Zd4) fun a hE=>Zr hE rfl ty27 rfl (At.cat (pre:=[[vI p0.Number],[vI p0.Version],enc p0.Nonce,[v0_1],[v0_2]]) hM.rawAt4 ck) (Flat.len _) ?_)); intro a hE
 obtain ⟨r15,e16,hF⟩:=bind_some hF
 refine Zx hE rfl cb12 (QB _ p0.Tag r15 e16) ?_
 rintro v w a ⟨rfl,hK⟩ hE
 have hM:=hM.keep hK
 refine Zg hE rfl (Q9) fun a hE=>Zn (seg:=enc r15) hE hM Za rfl rfl rfl ZR (Flat.len _) (VG (pre:=[[vI p0.Number],[vI p0.Version],enc r7,[u11],[u14]]) ck flq) (Flat.cell _) (Yn (pre:=[[vI p0.Number],[vI p0.Version],enc r7,[u11],[u14]]) ck flq) fun w a hM hE=>Ze (Zb (Zr hE rfl YA rfl hM.rawAt0 cq ?_)); intro a hE
 have hM:=hM.pull3
 refine Zn (seg:=cat [[vI p0.Number],[vI p0.Version],enc r7,[u11],[u14],enc r15]) (cs':=cat [[vI p0.Number],[vI p0.Version],enc r7,[u11],[u14],enc r15]) hE hM Za rfl rfl rfl YA cq (Nat.le_of_eq ((Nat.zero_add _).trans (Eq.trans cq (Eq.symm cq)))) (Xv (cc1 (Flat.cell (p0.Number : Int)) (cc1 (Flat.cell (p0.Version : Int)) (cc1 (Flat.cell _) (cc1 (Rep.cell (hM.sl (pre:=[_,_,_]) noB)) (cc1 (Rep.cell (hM.sl (pre:=[_,_]) noB)) (cc1 (Flat.cell _) cc0))))))) (Zk (Eq.trans cq (Eq.symm cq))) fun w a hM hE=>Ze ?_
 obtain rfl:=Option.some.inj hF
 have hq17 : Yt Tryz.prog _ _ (.cell 2 127) _:=ZQ hE rfl YA rfl hM.rawAt0 cq rfl
 have hM:=M.fst (l:=[_,_]) hM.pull2.pull3
 exact wp_ret (ZN hE rfl hq17 ⟨_,rfl,u11,u14,rfl,hM.outF (Wm (Wm XZ)),hM.kept⟩)
def US (p0 : (List GRecord)) (s10 : (List GRecord) × Int) : Option (Fl ((List GRecord) × Int) (List GRecord)) :=
 if (decide (s10.2 < (p0.length : Int))) = true then ((idx p0 s10.2).bind fun x17=>(W8 x17).bind fun r27=>(idx s10.1 s10.2).bind fun x31=>some (Fl.nx ((s10.1.set (s10.2).toNat r27),wr (s10.2 + 1)))) else (some (Fl.ex s10.1))
def VI (p0 : (List GRecord)) : Option ((List GRecord)) :=
 (mkS 112 (⟨(0 : Int),(0 : Int),(Vector.replicate 16 (0 : UInt8)),([] : (List UInt8)),([] : (List UInt8)),(Vector.replicate 32 (0 : UInt8))⟩ : GRecord) (p0.length : Int)).bind fun l1=>(ZB (US p0) (l1,0)).bind fun j5=>some j5
theorem H3 (w0 : World) (p0 : (List GRecord)) (v0_1 : Value) (hv0_1 : Ro w0 p0 [v0_1]) (r : (List GRecord)) (hF : VI p0 = some r) :
  Calls Tryz.prog 84 [v0_1].toArray w0 (fun en w'=>∃ v,en = .returned v ∧ (∃ (y1 : Value),v = y1 ∧ Fr w0 w' [osl NoB (r : List GRecord) y1] ∧ Kept (Old w0) w0 w')):=by
 refine ce Tryz.func84 ?_
 intro a hE
 have hM:=M.start w0
 unfold VI at hF
 refine Zb (Zc hE rfl fun a hE=>Ze (Zb (Zd hE rfl fun a hE=>Z2 hE rfl Tryz.underlying49 (hM.rd hv0_1) ?_))); intro a hE
 obtain ⟨l1,e2,hF⟩:=bind_some hF
 refine Bj hE hM Za ld rfl rfl Tryz.underlying55 YA rfl (by decide) jb e2 fun u3 w a hM hE=>Zc hE rfl fun a hE=>Ze (wp_seq (Zb (Zc hE rfl fun a hE=>Ze ?_)))
 obtain ⟨j5,hl6,hF7⟩:=bind_some hF
 refine ZJ (fun a w=>∃ (u8 : Value),Env 23 a [(3,u8)] ∧ M (Old w0) w0 w [osl NoB (j5 : List GRecord) u8]) ?_ ?_
 ·skip
  refine wp_block ?_
  refine ZC (fun (s10 : (List GRecord) × Int) a w=>∃ (u11 : Value),Env 23 a [(0,v0_1),(3,u11),(4,vI s10.2)] ∧ M (Old w0) w0 w [osl NoB (s10.1 : List GRecord) u11]) hl6 ⟨u3,hE.sub ⟨rfl,rfl,rfl,trivial⟩,hM⟩ ?_
  rintro s10 a w ⟨u11,hE,hM⟩ o15 hs13 hx14
  unfold US at hs13
  refine wp_seq (Zb (Zd hE rfl fun a hE=>Zd hE rfl fun a hE=>Z2 hE rfl Tryz.underlying49 (hM.rd hv0_1) fun a hE=>Zi hE rfl rfl rfl fun a hE=>Ze ?_))
  refine Zo hE rfl ?_ ?_
  ·intro hb16
   have hs13:=Zs hs13 hb16
   refine wp_skip (Zu (wp_seq (wp_block (wp_region_lit (Zd hE rfl fun a hE=>Zd hE rfl fun a hE=>Zd hE rfl fun a hE=>Zd hE rfl ?_))))); intro a hE
   obtain ⟨x17,hi19,hs13⟩:=bix hs13
   refine ZL hE rfl rfl Tryz.underlying49 Jx (hM.rd hv0_1) hi19.1 ?_; intro a hE
   obtain ⟨cs20,hs21,hA22⟩:=X3 hv0_1 hi19.2 -- ^
   obtain ⟨u23,u25,rfl,h24,h26⟩:=Y1 hs21 -- ^
   refine Zr hE rfl Jx rfl (hM.atk hA22 (VR hv0_1 hi19.2)) cq ?_; intro a hE
   obtain ⟨r27,e28,hs13⟩:=bind_some hs13
   refine Zx hE rfl (cbm Tryz.func145) (BN _ x17 u23 (hM.rdo h24) u25 (hM.rdo h26) r27 e28) ?_
   rintro v w a ⟨u29,u30,rfl,hFr,hK⟩ hE
   have hM:=hM.add hK hFr
   obtain ⟨x31,hi33,hs13⟩:=bix hs13
   refine ZL hE rfl rfl Tryz.underlying55 YA (hM.sl (pre:=[_,_]) noB) hi33.1 ?_; intro a hE
   have hM:=hM.pull1.pull1
   have hM:=((hM.pack2 (it:=own NoB r27 (cat [[vI r27.Number],[vI r27.Version],enc r27.Nonce,[u29],[u30],enc r27.Tag])) (YR noB) (fun f0 f1 q0 q1=>(Uj (Xq.sat q0) (Xq.sat q1) (by simp)))).pull1).pull1
   refine Zbj (i:=(s10.2).toNat) (seg:=cat [[vI r27.Number],[vI r27.Version],enc r27.Nonce,[u29],[u30],enc r27.Tag]) hE hM noB Za rfl rfl rfl YA (by omega) fun w a hM hE=>Zf (Z4 (Zu (wp_region_lit (Zd hE rfl fun a hE=>Zi hE rfl rfl rfl fun a hE=>Zc hE rfl fun a hE=>Zf (Zh ?_)))))
   exact ⟨_,(ois hs13),u11,hE.sub ⟨rfl,rfl,rfl,trivial⟩,hM⟩
  ·intro hb16
   have hs13:=Zt hs13 hb16
   refine wp_exit (Zl (Zl (Z5 ?_)))
   obtain rfl:=hx14 _ (ois hs13)
   refine Zh ?_
   exact ⟨u11,hE.sub ⟨rfl,trivial⟩,hM⟩
 ·skip
  rintro a w ⟨u8,hE,hM⟩
  refine Zu (Zb (Zd hE rfl fun a hE=>Zc hE rfl fun a hE=>Ze ?_))
  obtain rfl:=Option.some.inj hF7
  exact wp_ret (ZN hE rfl (ZY hE rfl) ⟨_,rfl,u8,rfl,hM.outF (Wm XZ),hM.kept⟩)
def VV (p0 : GEvent) : Option (GEvent) :=
 (Wb p0.Tag).bind fun r7=>some (⟨p0.Kind,p0.Number,r7⟩ : GEvent)
theorem AG (w0 : World) (p0 : GEvent) (r : GEvent) (hF : VV p0 = some r) :
  Calls Tryz.prog 146 [(Value.agg (enc p0).toArray)].toArray w0 (Rt w0 (Value.agg (enc r).toArray)):=by
 refine ce Tryz.func146 ?_
 intro a hE
 have hM:=M.start w0
 unfold VV at hF
 refine Zb (ZT (cs:=cat [[vI p0.Kind],[vI p0.Number],enc p0.Tag]) hE hM Za ld rfl rfl fun b1 w a hM hE=>Zz hE hM Xd fun b3 w a hM hE=>Ze (Zb (Zz hE hM Xd fun b5 w a hM hE=>Ze (Zb (Zg hE rfl (Zdh) fun a hE=>Zw (v:=(vI p0.Kind)) hE rfl ty2 rfl (At.cat (pre:=[]) hM.rawAt2 cl0) fun a hE=>Zg hE rfl (UW) fun a hE=>Zn (seg:=[vI p0.Kind]) hE hM Za rfl rfl rfl ty2 rfl (VG (pre:=[]) cl0 rfl) (Flat.cell (p0.Kind : Int)) (Yn (pre:=[]) cl0 rfl) fun w a hM hE=>Ze (Zb (Zg hE rfl (Zd9) fun a hE=>Zw (v:=(vI p0.Number)) hE rfl ty2 rfl (At.cat (pre:=[[vI p0.Kind]]) hM.rawAt2 ck) fun a hE=>Zg hE rfl (Tk) fun a hE=>Zn (seg:=[vI p0.Number]) hE hM Za rfl rfl rfl ty2 rfl (VG (pre:=[[vI p0.Kind]]) ck rfl) (Flat.cell (p0.Number : Int)) (Yn (pre:=[[vI p0.Kind]]) ck rfl) fun w a hM hE=>Ze (Zb (Zg hE rfl (Zea) ?_))))))))); intro a hE
 refine Zr hE rfl ty27 rfl (At.cat (pre:=[[vI p0.Kind],[vI p0.Number]]) hM.rawAt2 ck) (Flat.len _) ?_; intro a hE
 obtain ⟨r7,e8,hF⟩:=bind_some hF
 refine Zx hE rfl cb12 (QB _ p0.Tag r7 e8) ?_
 rintro v w a ⟨rfl,hK⟩ hE
 have hM:=hM.keep hK
 refine Zg hE rfl (Q8) fun a hE=>Zn (seg:=enc r7) hE hM Za rfl rfl rfl ZR (Flat.len _) (VG (pre:=[[vI p0.Kind],[vI p0.Number]]) ck flq) (Flat.cell _) (Yn (pre:=[[vI p0.Kind],[vI p0.Number]]) ck flq) fun w a hM hE=>Ze (Zb (Zr hE rfl Xd rfl hM.rawAt0 cq ?_)); intro a hE
 have hM:=hM.pull1
 refine Zn (seg:=cat [[(vI ((⟨p0.Kind,p0.Number,r7⟩ : GEvent).Kind))],[(vI ((⟨p0.Kind,p0.Number,r7⟩ : GEvent).Number))],enc ((⟨p0.Kind,p0.Number,r7⟩ : GEvent).Tag)]) (cs':=cat [[(vI ((⟨p0.Kind,p0.Number,r7⟩ : GEvent).Kind))],[(vI ((⟨p0.Kind,p0.Number,r7⟩ : GEvent).Number))],enc ((⟨p0.Kind,p0.Number,r7⟩ : GEvent).Tag)]) hE hM Za rfl rfl rfl Xd cq (Nat.le_of_eq ((Nat.zero_add _).trans (Eq.trans cq (Eq.symm cq)))) (Xv (cc1 (Flat.cell ((⟨p0.Kind,p0.Number,r7⟩ : GEvent).Kind : Int)) (cc1 (Flat.cell ((⟨p0.Kind,p0.Number,r7⟩ : GEvent).Number : Int)) (cc1 (Flat.cell _) cc0)))) (Zk (Eq.trans cq (Eq.symm cq))) fun w a hM hE=>Ze ?_
 obtain rfl:=Option.some.inj hF
 have hq9 : Yt Tryz.prog _ _ (.cell 2 131) _:=ZQ hE rfl Xd rfl hM.rawAt0 cq rfl
 exact wp_ret (ZN hE rfl hq9 ⟨_,rfl,rfl,hM.kept⟩)
def Tv (p0 : (List GEvent)) (s10 : (List GEvent) × Int) : Option (Fl ((List GEvent) × Int) (List GEvent)) :=
 if (decide (s10.2 < (p0.length : Int))) = true then ((idx p0 s10.2).bind fun x17=>(VV x17).bind fun r20=>(idx s10.1 s10.2).bind fun x22=>some (Fl.nx ((s10.1.set (s10.2).toNat r20),wr (s10.2 + 1)))) else (some (Fl.ex s10.1))
def Uv (p0 : (List GEvent)) : Option ((List GEvent)) :=
 (mkS 48 (⟨(0 : Int),(0 : Int),(Vector.replicate 32 (0 : UInt8))⟩ : GEvent) (p0.length : Int)).bind fun l1=>(ZB (Tv p0) (l1,0)).bind fun j5=>some j5
theorem BR (w0 : World) (p0 : (List GEvent)) (v0_1 : Value) (hv0_1 : Ro w0 p0 [v0_1]) (r : (List GEvent)) (hF : Uv p0 = some r) :
  Calls Tryz.prog 85 [v0_1].toArray w0 (fun en w'=>∃ v,en = .returned v ∧ (∃ (y1 : Value),v = y1 ∧ Fr w0 w' [osl NoB (r : List GEvent) y1] ∧ Kept (Old w0) w0 w')):=by
 refine ce Tryz.func85 ?_
 intro a hE
 have hM:=M.start w0
 unfold Uv at hF
 refine Zb (Zc hE rfl fun a hE=>Ze (Zb (Zd hE rfl fun a hE=>Z2 hE rfl Tryz.underlying50 (hM.rd hv0_1) ?_))); intro a hE
 obtain ⟨l1,e2,hF⟩:=bind_some hF
 refine Bj hE hM Za ld rfl rfl Tryz.underlying56 Xd rfl (by decide) (fun _=>TD.2 ⟨rfl,rfl⟩) e2 fun u3 w a hM hE=>Zc hE rfl fun a hE=>Ze (wp_seq (Zb (Zc hE rfl fun a hE=>Ze ?_)))
 obtain ⟨j5,hl6,hF7⟩:=bind_some hF
 refine ZJ (fun a w=>∃ (u8 : Value),Env 23 a [(3,u8)] ∧ M (Old w0) w0 w [osl NoB (j5 : List GEvent) u8]) ?_ ?_
 ·skip
  refine wp_block ?_
  refine ZC (fun (s10 : (List GEvent) × Int) a w=>∃ (u11 : Value),Env 23 a [(0,v0_1),(3,u11),(4,vI s10.2)] ∧ M (Old w0) w0 w [osl NoB (s10.1 : List GEvent) u11]) hl6 ⟨u3,hE.sub ⟨rfl,rfl,rfl,trivial⟩,hM⟩ ?_
  rintro s10 a w ⟨u11,hE,hM⟩ o15 hs13 hx14
  unfold Tv at hs13
  refine wp_seq (Zb (Zd hE rfl fun a hE=>Zd hE rfl fun a hE=>Z2 hE rfl Tryz.underlying50 (hM.rd hv0_1) fun a hE=>Zi hE rfl rfl rfl fun a hE=>Ze ?_))
  refine Zo hE rfl ?_ ?_
  ·intro hb16
   have hs13:=Zs hs13 hb16
   refine wp_skip (Zu (wp_seq (wp_block (wp_region_lit (Zd hE rfl fun a hE=>Zd hE rfl fun a hE=>Zd hE rfl fun a hE=>Zd hE rfl ?_))))); intro a hE
   obtain ⟨x17,hi19,hs13⟩:=bix hs13
   refine ZL hE rfl rfl Tryz.underlying50 jP (hM.rd hv0_1) hi19.1 fun a hE=>Zr hE rfl jP rfl (Yp (hM.rd hv0_1) hi19.2) cq ?_; intro a hE
   obtain ⟨r20,e21,hs13⟩:=bind_some hs13
   refine Zx hE rfl (cbm Tryz.func146) (AG _ x17 r20 e21) ?_
   rintro v w a ⟨rfl,hK⟩ hE
   have hM:=hM.keep hK
   obtain ⟨x22,hi24,hs13⟩:=bix hs13
   refine ZL hE rfl rfl Tryz.underlying56 Xd (hM.sl (pre:=[]) noB) hi24.1 fun a hE=>T5 (i:=(s10.2).toNat) (k0:=0) (seg:=cat [[vI r20.Kind],[vI r20.Number],enc r20.Tag]) (xo:=x22) (xn:=r20) hE hM Za rfl rfl rfl Xd cq (Xv (cc1 (Flat.cell (r20.Kind : Int)) (cc1 (Flat.cell (r20.Number : Int)) (cc1 (Flat.cell _) cc0)))) hi24.2 (QJ (m:=34) cq (by decide)) (Zk (Eq.trans cq (Eq.symm cq))) fun w a hM hE=>Zf (Z4 (Zu (wp_region_lit (Zd hE rfl fun a hE=>Zi hE rfl rfl rfl fun a hE=>Zc hE rfl fun a hE=>Zf (Zh ?_)))))
   exact ⟨_,(ois hs13),u11,hE.sub ⟨rfl,rfl,rfl,trivial⟩,hM⟩
  ·intro hb16
   have hs13:=Zt hs13 hb16
   refine wp_exit (Zl (Zl (Z5 ?_)))
   obtain rfl:=hx14 _ (ois hs13)
   refine Zh ?_
   exact ⟨u11,hE.sub ⟨rfl,trivial⟩,hM⟩
 ·skip
  rintro a w ⟨u8,hE,hM⟩
  refine Zu (Zb (Zd hE rfl fun a hE=>Zc hE rfl fun a hE=>Ze ?_))
  obtain rfl:=Option.some.inj hF7
  exact wp_ret (ZN hE rfl (ZY hE rfl) ⟨_,rfl,u8,rfl,hM.outF (Wm XZ),hM.kept⟩)
def XU (p0 : GVault) : Option (GVault) :=
 (Us p0.Keys).bind fun r7=>(VI p0.Records).bind fun r10=>(Uv p0.Events).bind fun r13=>(Wb p0.Head).bind fun r16=>some (⟨r7,p0.Next,r10,r13,r16⟩ : GVault)
theorem Qb (w0 : World) (p0 : GVault) (v0_1 : Value) (hv0_1 : Ro w0 p0.Keys [v0_1]) (v0_2 : Value) (hv0_2 : Ro w0 p0.Records [v0_2]) (v0_3 : Value) (hv0_3 : Ro w0 p0.Events [v0_3]) (r : GVault) (hF : XU p0 = some r) :
  Calls Tryz.prog 25 [(Value.agg (cat [[v0_1],[vI p0.Next],[v0_2],[v0_3],enc p0.Head]).toArray)].toArray w0 (fun en w'=>∃ v,en = .returned v ∧ (∃ (y1 : Value) (y2 : Value) (y3 : Value),v = (Value.agg (cat [[y1],[vI r.Next],[y2],[y3],enc r.Head]).toArray) ∧ Fr w0 w' [osl NoB (r.Keys : List (Vector UInt8 16)) y1,osl NoB (r.Records : List GRecord) y2,osl NoB (r.Events : List GEvent) y3] ∧ Kept (Old w0) w0 w')):=by
 refine ce Tryz.func25 ?_
 intro a hE
 have hM:=M.start w0
 unfold XU at hF
 refine Zb (ZT (cs:=cat [[v0_1],[vI p0.Next],[v0_2],[v0_3],enc p0.Head]) hE hM Za ld rfl rfl fun b1 w a hM hE=>Zz hE hM Ke fun b3 w a hM hE=>Ze (Zb (Zz hE hM Ke fun b5 w a hM hE=>Ze (Zb (Zg hE rfl (Zb0) fun a hE=>Zw (v:=v0_1) hE rfl ty48 rfl (At.cat (pre:=[]) hM.rawAt2 cl0) ?_))))); intro a hE
 obtain ⟨r7,e8,hF⟩:=bind_some hF
 refine Zx hE rfl (cbm Tryz.func83) (B0 _ p0.Keys v0_1 (hM.rdo hv0_1) r7 e8) ?_
 rintro u9 w a ⟨_,rfl,hFr,hK⟩ hE
 have hM:=hM.add hK hFr
 refine Zg hE rfl (Qj) ?_; intro a hE
 have hM:=hM.pull1
 refine Zn (seg:=[u9]) hE hM Za rfl rfl (Ym (hM.sl (pre:=[_]) noB)) HV rfl (VG (pre:=[]) cl0 rfl) (Rep.cell (hM.sl (pre:=[_]) noB)) (Yn (pre:=[]) cl0 rfl) fun w a hM hE=>Ze (Zb (Zg hE rfl (fd52_1) fun a hE=>Zw (v:=(vI p0.Next)) hE rfl ty2 rfl (At.cat (pre:=[[v0_1]]) hM.rawAt3 ck) fun a hE=>Zg hE rfl (KB) fun a hE=>Zn (seg:=[vI p0.Next]) hE hM Za rfl rfl rfl ty2 rfl (VG (pre:=[[u9]]) ck rfl) (Flat.cell (p0.Next : Int)) (Yn (pre:=[[u9]]) ck rfl) fun w a hM hE=>Ze (Zb (Zg hE rfl (Zcb) fun a hE=>Zw (v:=v0_2) hE rfl ty49 rfl (At.cat (pre:=[[v0_1],[vI p0.Next]]) hM.rawAt3 ck) ?_)))); intro a hE
 obtain ⟨r10,e11,hF⟩:=bind_some hF
 refine Zx hE rfl (cbm Tryz.func84) (H3 _ p0.Records v0_2 (hM.rdo hv0_2) r10 e11) ?_
 rintro u12 w a ⟨_,rfl,hFr,hK⟩ hE
 have hM:=hM.add hK hFr
 refine Zg hE rfl (Vy) ?_; intro a hE
 have hM:=hM.pull1
 refine Zn (seg:=[u12]) hE hM Za rfl rfl (Ym (hM.sl (pre:=[_]) noB)) Q4 rfl (VG (pre:=[[u9],[vI p0.Next]]) ck rfl) (Rep.cell (hM.sl (pre:=[_]) noB)) (Yn (pre:=[[u9],[vI p0.Next]]) ck rfl) fun w a hM hE=>Ze (Zb (Zg hE rfl (Zbn) fun a hE=>Zw (v:=v0_3) hE rfl ty50 rfl (At.cat (pre:=[[v0_1],[vI p0.Next],[v0_2]]) hM.rawAt4 ck) ?_)); intro a hE
 obtain ⟨r13,e14,hF⟩:=bind_some hF
 refine Zx hE rfl (cbm Tryz.func85) (BR _ p0.Events v0_3 (hM.rdo hv0_3) r13 e14) ?_
 rintro u15 w a ⟨_,rfl,hFr,hK⟩ hE
 have hM:=hM.add hK hFr
 refine Zg hE rfl (TZ) ?_; intro a hE
 have hM:=hM.pull1
 refine Zn (seg:=[u15]) hE hM Za rfl rfl (Ym (hM.sl (pre:=[_]) noB)) Jv rfl (VG (pre:=[[u9],[vI p0.Next],[u12]]) ck rfl) (Rep.cell (hM.sl (pre:=[_]) noB)) (Yn (pre:=[[u9],[vI p0.Next],[u12]]) ck rfl) fun w a hM hE=>Ze (Zb (Zg hE rfl (fd52_4) fun a hE=>Zr hE rfl ty27 rfl (At.cat (pre:=[[v0_1],[vI p0.Next],[v0_2],[v0_3]]) hM.rawAt5 ck) (Flat.len _) ?_)); intro a hE
 obtain ⟨r16,e17,hF⟩:=bind_some hF
 refine Zx hE rfl cb12 (QB _ p0.Head r16 e17) ?_
 rintro v w a ⟨rfl,hK⟩ hE
 have hM:=hM.keep hK
 refine Zg hE rfl (zk) fun a hE=>Zn (seg:=enc r16) hE hM Za rfl rfl rfl ZR (Flat.len _) (VG (pre:=[[u9],[vI p0.Next],[u12],[u15]]) ck flq) (Flat.cell _) (Yn (pre:=[[u9],[vI p0.Next],[u12],[u15]]) ck flq) fun w a hM hE=>Ze (Zb (Zr hE rfl Ke rfl hM.rawAt0 cq ?_)); intro a hE
 have hM:=hM.pull4
 refine Zn (seg:=cat [[u9],[vI p0.Next],[u12],[u15],enc r16]) (cs':=cat [[u9],[vI p0.Next],[u12],[u15],enc r16]) hE hM Za rfl rfl rfl Ke cq (Nat.le_of_eq ((Nat.zero_add _).trans (Eq.trans cq (Eq.symm cq)))) (Xv (cc1 (Rep.cell (hM.sl (pre:=[_,_,_,_]) noB)) (cc1 (Flat.cell (p0.Next : Int)) (cc1 (Rep.cell (hM.sl (pre:=[_,_,_]) noB)) (cc1 (Rep.cell (hM.sl (pre:=[_,_]) noB)) (cc1 (Flat.cell _) cc0)))))) (Zk (Eq.trans cq (Eq.symm cq))) fun w a hM hE=>Ze ?_
 obtain rfl:=Option.some.inj hF
 have hq18 : Yt Tryz.prog _ _ (.cell 2 58) _:=ZQ hE rfl Ke rfl hM.rawAt0 cq rfl
 have hM:=M.fst (l:=[_,_,_]) hM.pull2.pull3.pull4
 exact wp_ret (ZN hE rfl hq18 ⟨_,rfl,u9,u12,u15,rfl,hM.outF (Wm (Wm (Wm XZ))),hM.kept⟩)
def Vh (p0 : Int) (p1 : Int) (p2 : Int) : Option (Bool) :=
 (if (decide (p0 ≥ p1)) = true then (some (decide (p0 ≤ p2))) else (some false) : Option (Bool)).bind fun j1=>some j1
theorem QO (w0 : World) (p0 : Int) (p1 : Int) (p2 : Int) (r : Bool) (hF : Vh p0 p1 p2 = some r) :
  Calls Tryz.prog 143 [vI p0,vI p1,vI p2].toArray w0 (Rt w0 (vT r)):=by
 refine ce Tryz.func143 ?_
 intro a hE
 have hM:=M.start w0
 unfold Vh at hF
 refine Zb (Zc hE rfl fun a hE=>Ze ?_)
 obtain ⟨j1,hl2,hF3⟩:=bind_some hF
 refine ZI (fun a w=>Env 15 a [(6,vT j1)] ∧ M (Old w0) w0 w []) ?_ ?_
 ·skip
  refine wp_region_lit (Zd hE rfl fun a hE=>Zd hE rfl fun a hE=>Zi hE rfl rfl rfl fun a hE=>Zd hE rfl ?_); intro a hE
  refine YK (decide (p0 ≥ p1)) (fun hb4=>?_) (fun hb4=>?_)
  ·have hl2:=Zs hl2 hb4
   refine Zp hE (Zj hE rfl (lkb rfl hb4)) (by decide) rfl fun a hE=>Zp hE (Zj hE rfl (lkb rfl hb4)) (by decide) rfl fun a hE=>Ye hE (Zj hE rfl (lkb rfl hb4)) (by decide) rfl rfl rfl fun a hE=>Z8 hE (lkb rfl hb4) rfl fun a hE=>Zc hE rfl fun a hE=>Zf ?_
   obtain rfl:=Option.some.inj hl2
   refine Zh ?_
   exact ⟨hE.sub ⟨rfl,trivial⟩,hM⟩
  ·have hl2:=Zt hl2 hb4
   refine Zm hE rfl (lkb rfl hb4) rfl (by decide) fun a hE=>Zm hE rfl (lkb rfl hb4) rfl (by decide) fun a hE=>Zm hE rfl (lkb rfl hb4) rfl (by decide) fun a hE=>YB hE (lkb rfl hb4) rfl fun a hE=>Zc hE rfl fun a hE=>Zf ?_
   obtain rfl:=Option.some.inj hl2
   refine Zh ?_
   exact ⟨hE.sub ⟨rfl,trivial⟩,hM⟩
 ·skip
  rintro a w ⟨hE,hM⟩
  obtain rfl:=Option.some.inj hF3
  exact wp_ret (kr1 hE rfl rfl hM.kept)
def Un (p0 : GEvent) : Option (Bool) :=
 ((Vh p0.Kind 1 4).bind fun r6=>if r6 = true then ((Vh p0.Number 0 1000000).bind fun r9=>some r9) else (some false) : Option (Bool)).bind fun j3=>some j3
theorem B9 (w0 : World) (p0 : GEvent) (r : Bool) (hF : Un p0 = some r) :
  Calls Tryz.prog 144 [(Value.agg (enc p0).toArray)].toArray w0 (Rt w0 (vT r)):=by
 refine ce Tryz.func144 ?_
 intro a hE
 have hM:=M.start w0
 unfold Un at hF
 refine Zb (ZT (cs:=cat [[vI p0.Kind],[vI p0.Number],enc p0.Tag]) hE hM Za ld rfl rfl fun b1 w a hM hE=>Zc hE rfl fun a hE=>Ze ?_)
 obtain ⟨j3,hl4,hF5⟩:=bind_some hF
 refine ZI (fun a w=>Env 11 a [(2,vT j3)] ∧ M (Old w0) w0 w []) ?_ ?_
 ·skip
  refine wp_region_lit (Zg hE rfl (UW) fun a hE=>Zw (v:=(vI p0.Kind)) hE rfl ty2 rfl (At.cat (pre:=[]) hM.rawAt0 cl0) ?_); intro a hE
  obtain ⟨r6,e7,hl4⟩:=bind_some hl4
  refine Zx hE rfl qq (QO _ p0.Kind 1 4 r6 e7) ?_
  rintro v w a ⟨rfl,hK⟩ hE
  have hM:=hM.keep hK
  refine Zd hE rfl ?_; intro a hE
  refine YK r6 (fun hb8=>?_) (fun hb8=>?_)
  ·have hl4:=Zs hl4 hb8
   refine Zq hE (Zj hE rfl (lkb rfl hb8)) (by decide) rfl (Tk) fun a hE=>ZK (v:=(vI p0.Number)) hE (Zj hE rfl (lkb rfl hb8)) (by decide) rfl ty2 rfl (At.cat (pre:=[[vI p0.Kind]]) hM.rawAt0 ck) ?_; intro a hE
   obtain ⟨r9,e10,hl4⟩:=bind_some hl4
   refine ZV hE (Zj hE rfl (lkb rfl hb8)) (by decide) rfl qq (QO _ p0.Number 0 1000000 r9 e10) ?_
   rintro v w a ⟨rfl,hK⟩ hE
   have hM:=hM.keep hK
   refine Z8 hE (lkb rfl hb8) rfl fun a hE=>Zc hE rfl fun a hE=>Zf ?_
   obtain rfl:=Option.some.inj hl4
   refine Zh ?_
   have hM:=M.fst (l:=[]) hM
   exact ⟨hE.sub ⟨rfl,trivial⟩,hM⟩
  ·have hl4:=Zt hl4 hb8
   refine Zm hE rfl (lkb rfl hb8) rfl (by decide) fun a hE=>Zm hE rfl (lkb rfl hb8) rfl (by decide) fun a hE=>Zm hE rfl (lkb rfl hb8) rfl (by decide) fun a hE=>YB hE (lkb rfl hb8) rfl fun a hE=>Zc hE rfl fun a hE=>Zf ?_
   obtain rfl:=Option.some.inj hl4
   refine Zh ?_
   have hM:=M.fst (l:=[]) hM
   exact ⟨hE.sub ⟨rfl,trivial⟩,hM⟩
 ·skip
  rintro a w ⟨hE,hM⟩
  obtain rfl:=Option.some.inj hF5
  exact wp_ret (kr1 hE rfl rfl hM.kept)
def UH (p0 : GVault) (s22 : Int × Int) : Option (Fl (Int × Int) (Fl Unit Bool)) :=
 if (decide (s22.2 < (p0.Records.length : Int))) = true then ((idx p0.Records s22.2).bind fun x27=>(if (decide (x27.Number ≤ s22.1)) = true then (some true) else (if (decide (x27.Number ≥ p0.Next)) = true then (some true) else ((Vh x27.Version 0 (wr ((p0.Keys.length : Int) - 1))).bind fun r46=>if (!r46) = true then (some true) else (if (decide ((x27.Label.length : Int) > 32)) = true then (some true) else (some (decide ((x27.Body.length : Int) > 200)))))) : Option (Bool)).bind fun j39=>if j39 = true then (some (Fl.ex (Fl.ex false))) else (some (Fl.nx (x27.Number,wr (s22.2 + 1))))) else (some (Fl.ex (Fl.nx ())))
def TG (p0 : GVault) (s60 : Int) : Option (Fl Int (Fl Unit Bool)) :=
 if (decide (s60 < (p0.Events.length : Int))) = true then ((idx p0.Events s60).bind fun x65=>(Un x65).bind fun r68=>if (!r68) = true then (some (Fl.ex (Fl.ex false))) else (some (Fl.nx (wr (s60 + 1))))) else (some (Fl.ex (Fl.nx ())))
def Qd (p0 : GVault) : Option (Bool) :=
 (if (decide ((p0.Keys.length : Int) < 1)) = true then (some true) else (if (decide ((p0.Keys.length : Int) > 8)) = true then (some true) else ((Vh p0.Next 1 1000000).bind fun r10=>if (!r10) = true then (some true) else (if (decide ((p0.Records.length : Int) > 12)) = true then (some true) else (some (decide ((p0.Events.length : Int) > 60)))))) : Option (Bool)).bind fun j3=>if j3 = true then (some false) else ((ZB (UH p0) (0,0)).bind fun j18=>j18.el (fun s21=>(ZB (TG p0) 0).bind fun j56=>j56.el (fun s59=>some true) (fun r=>some r)) (fun r=>some r))
theorem y8 (w0 : World) (p0 : GVault) (v0_1 : Value) (hv0_1 : Ro w0 p0.Keys [v0_1]) (v0_2 : Value) (hv0_2 : Ro w0 p0.Records [v0_2]) (v0_3 : Value) (hv0_3 : Ro w0 p0.Events [v0_3]) (r : Bool) (hF : Qd p0 = some r) :
  Calls Tryz.prog 79 [(Value.agg (cat [[v0_1],[vI p0.Next],[v0_2],[v0_3],enc p0.Head]).toArray)].toArray w0 (Rt w0 (vT r)):=by
 refine ce Tryz.func79 ?_
 intro a hE
 have hM:=M.start w0
 unfold Qd at hF
 refine Zb (ZT (cs:=cat [[v0_1],[vI p0.Next],[v0_2],[v0_3],enc p0.Head]) hE hM Za ld rfl rfl fun b1 w a hM hE=>Zc hE rfl fun a hE=>Ze (wp_seq ?_))
 obtain ⟨j3,hl4,hF5⟩:=bind_some hF
 refine ZI (fun a w=>Env 96 a [(1,(ptr b1 0)),(34,vT j3)] ∧ M (Old w0) w0 w [raw b1 (cat [[v0_1],[vI p0.Next],[v0_2],[v0_3],enc p0.Head])]) ?_ ?_
 ·skip
  refine wp_region_lit (Zg hE rfl (Qj) fun a hE=>Zw (v:=v0_1) hE rfl HV rfl (At.cat (pre:=[]) hM.rawAt0 cl0) fun a hE=>Z2 hE rfl Tryz.underlying54 (hM.rd hv0_1) fun a hE=>Zi hE rfl rfl rfl fun a hE=>Zd hE rfl ?_); intro a hE
  refine YK (decide ((p0.Keys.length : Int) < 1)) (fun hb6=>?_) (fun hb6=>?_)
  ·have hl4:=Zs hl4 hb6
   refine Zm hE rfl (lkb rfl hb6) rfl (by decide) fun a hE=>Zm hE rfl (lkb rfl hb6) rfl (by decide) fun a hE=>Zm hE rfl (lkb rfl hb6) rfl (by decide) fun a hE=>Zm hE rfl (lkb rfl hb6) rfl (by decide) fun a hE=>Z8 hE (lkb rfl hb6) rfl fun a hE=>Zd hE rfl fun a hE=>Zm hE rfl rfl rfl (by decide) fun a hE=>Zm hE rfl rfl rfl (by decide) fun a hE=>Zm hE rfl rfl rfl (by decide) fun a hE=>Zm hE rfl rfl rfl (by decide) fun a hE=>Z8 hE rfl rfl fun a hE=>Zd hE rfl ?_; intro a hE
   refine Zm hE rfl rfl rfl (by decide) fun a hE=>Zm hE rfl rfl rfl (by decide) fun a hE=>Zm hE rfl rfl rfl (by decide) fun a hE=>Zm hE rfl rfl rfl (by decide) fun a hE=>Z8 hE rfl rfl fun a hE=>Zd hE rfl fun a hE=>Zm hE rfl rfl rfl (by decide) fun a hE=>Zm hE rfl rfl rfl (by decide) fun a hE=>Zm hE rfl rfl rfl (by decide) fun a hE=>Zm hE rfl rfl rfl (by decide) fun a hE=>Z8 hE rfl rfl fun a hE=>Zf ?_
   obtain rfl:=Option.some.inj hl4
   refine Zh ?_
   exact ⟨hE.sub ⟨rfl,rfl,trivial⟩,hM⟩
  ·have hl4:=Zt hl4 hb6
   refine Zq hE (Zj hE rfl (lkb rfl hb6)) (by decide) rfl (Qj) fun a hE=>ZK (v:=v0_1) hE (Zj hE rfl (lkb rfl hb6)) (by decide) rfl HV rfl (At.cat (pre:=[]) hM.rawAt0 cl0) fun a hE=>Kj hE (Zj hE rfl (lkb rfl hb6)) (by decide) rfl Tryz.underlying54 (hM.rd hv0_1) fun a hE=>Ye hE (Zj hE rfl (lkb rfl hb6)) (by decide) rfl rfl rfl fun a hE=>YB hE (lkb rfl hb6) rfl fun a hE=>Zd hE rfl ?_; intro a hE
   refine YK (decide ((p0.Keys.length : Int) > 8)) (fun hb8=>?_) (fun hb8=>?_)
   ·have hl4:=Zs hl4 hb8
    refine Zm hE rfl (lkb rfl hb8) rfl (by decide) fun a hE=>Zm hE rfl (lkb rfl hb8) rfl (by decide) fun a hE=>Zm hE rfl (lkb rfl hb8) rfl (by decide) fun a hE=>Zm hE rfl (lkb rfl hb8) rfl (by decide) fun a hE=>Z8 hE (lkb rfl hb8) rfl fun a hE=>Zd hE rfl fun a hE=>Zm hE rfl rfl rfl (by decide) fun a hE=>Zm hE rfl rfl rfl (by decide) fun a hE=>Zm hE rfl rfl rfl (by decide) fun a hE=>Zm hE rfl rfl rfl (by decide) fun a hE=>Z8 hE rfl rfl fun a hE=>Zd hE rfl ?_; intro a hE
    refine Zm hE rfl rfl rfl (by decide) fun a hE=>Zm hE rfl rfl rfl (by decide) fun a hE=>Zm hE rfl rfl rfl (by decide) fun a hE=>Zm hE rfl rfl rfl (by decide) fun a hE=>Z8 hE rfl rfl fun a hE=>Zf ?_
    obtain rfl:=Option.some.inj hl4
    refine Zh ?_
    exact ⟨hE.sub ⟨rfl,rfl,trivial⟩,hM⟩
   ·have hl4:=Zt hl4 hb8
    refine Zq hE (Zj hE rfl (lkb rfl hb8)) (by decide) rfl (KB) fun a hE=>ZK (v:=(vI p0.Next)) hE (Zj hE rfl (lkb rfl hb8)) (by decide) rfl ty2 rfl (At.cat (pre:=[[v0_1]]) hM.rawAt0 ck) ?_; intro a hE
    obtain ⟨r10,e11,hl4⟩:=bind_some hl4
    refine ZV hE (Zj hE rfl (lkb rfl hb8)) (by decide) rfl qq (QO _ p0.Next 1 1000000 r10 e11) ?_
    rintro v w a ⟨rfl,hK⟩ hE
    have hM:=hM.keep hK
    refine QE hE (Zj hE rfl (lkb rfl hb8)) (by decide) rfl fun a hE=>YB hE (lkb rfl hb8) rfl fun a hE=>Zd hE rfl ?_; intro a hE
    refine YK (!r10) (fun hb12=>?_) (fun hb12=>?_)
    ·have hl4:=Zs hl4 hb12
     refine Zm hE rfl (lkb rfl hb12) rfl (by decide) fun a hE=>Zm hE rfl (lkb rfl hb12) rfl (by decide) fun a hE=>Zm hE rfl (lkb rfl hb12) rfl (by decide) fun a hE=>Zm hE rfl (lkb rfl hb12) rfl (by decide) fun a hE=>Z8 hE (lkb rfl hb12) rfl fun a hE=>Zd hE rfl fun a hE=>Zm hE rfl rfl rfl (by decide) fun a hE=>Zm hE rfl rfl rfl (by decide) fun a hE=>Zm hE rfl rfl rfl (by decide) fun a hE=>Zm hE rfl rfl rfl (by decide) fun a hE=>Z8 hE rfl rfl fun a hE=>Zf ?_
     obtain rfl:=Option.some.inj hl4
     refine Zh ?_
     exact ⟨hE.sub ⟨rfl,rfl,trivial⟩,hM⟩
    ·have hl4:=Zt hl4 hb12
     refine Zq hE (Zj hE rfl (lkb rfl hb12)) (by decide) rfl (Vy) fun a hE=>ZK (v:=v0_2) hE (Zj hE rfl (lkb rfl hb12)) (by decide) rfl Q4 rfl (At.cat (pre:=[[v0_1],[vI p0.Next]]) hM.rawAt0 ck) fun a hE=>Kj hE (Zj hE rfl (lkb rfl hb12)) (by decide) rfl Tryz.underlying55 (hM.rd hv0_2) fun a hE=>Ye hE (Zj hE rfl (lkb rfl hb12)) (by decide) rfl rfl rfl fun a hE=>YB hE (lkb rfl hb12) rfl fun a hE=>Zd hE rfl ?_; intro a hE
     refine YK (decide ((p0.Records.length : Int) > 12)) (fun hb14=>?_) (fun hb14=>?_)
     ·have hl4:=Zs hl4 hb14
      refine Zm hE rfl (lkb rfl hb14) rfl (by decide) fun a hE=>Zm hE rfl (lkb rfl hb14) rfl (by decide) fun a hE=>Zm hE rfl (lkb rfl hb14) rfl (by decide) fun a hE=>Zm hE rfl (lkb rfl hb14) rfl (by decide) fun a hE=>Z8 hE (lkb rfl hb14) rfl fun a hE=>Zf ?_
      obtain rfl:=Option.some.inj hl4
      refine Zh ?_
      exact ⟨hE.sub ⟨rfl,rfl,trivial⟩,hM⟩
     ·have hl4:=Zt hl4 hb14
      refine Zq hE (Zj hE rfl (lkb rfl hb14)) (by decide) rfl (TZ) fun a hE=>ZK (v:=v0_3) hE (Zj hE rfl (lkb rfl hb14)) (by decide) rfl Jv rfl (At.cat (pre:=[[v0_1],[vI p0.Next],[v0_2]]) hM.rawAt0 ck) fun a hE=>Kj hE (Zj hE rfl (lkb rfl hb14)) (by decide) rfl Tryz.underlying56 (hM.rd hv0_3) fun a hE=>Ye hE (Zj hE rfl (lkb rfl hb14)) (by decide) rfl rfl rfl fun a hE=>YB hE (lkb rfl hb14) rfl fun a hE=>Zf ?_
      obtain rfl:=Option.some.inj hl4
      refine Zh ?_
      exact ⟨hE.sub ⟨rfl,rfl,trivial⟩,hM⟩
 ·skip
  rintro a w ⟨hE,hM⟩
  refine Zo hE rfl ?_ ?_
  ·intro hb17
   have hF5:=Zs hF5 hb17
   refine Zb (Zc hE rfl fun a hE=>Ze ?_)
   obtain rfl:=Option.some.inj hF5
   exact wp_ret (ZA (kr1 hE rfl rfl hM.kept))
  ·intro hb17
   have hF5:=Zt hF5 hb17
   refine wp_skip (Zu (Zb (Zc hE rfl fun a hE=>Ze (wp_seq (Zb (Zc hE rfl fun a hE=>Ze ?_))))))
   obtain ⟨j18,hl19,hF20⟩:=bind_some hF5
   refine ZJ (fun a w=>∃ s21 : Unit,j18 = Fl.nx s21 ∧ Env 96 a [(1,(ptr b1 0))] ∧ M (Old w0) w0 w [raw b1 (cat [[v0_1],[vI p0.Next],[v0_2],[v0_3],enc p0.Head])]) ?_ ?_
   ·skip
    refine wp_block ?_
    refine ZC (fun (s22 : Int × Int) a w=>Env 96 a [(1,(ptr b1 0)),(3,vI s22.1),(4,vI s22.2)] ∧ M (Old w0) w0 w [raw b1 (cat [[v0_1],[vI p0.Next],[v0_2],[v0_3],enc p0.Head])]) hl19 ⟨hE.sub ⟨rfl,rfl,rfl,trivial⟩,hM⟩ ?_
    rintro s22 a w ⟨hE,hM⟩ o25 hs23 hx24
    unfold UH at hs23
    refine wp_seq (Zb (Zd hE rfl fun a hE=>Zg hE rfl (Vy) fun a hE=>Zw (v:=v0_2) hE rfl Q4 rfl (At.cat (pre:=[[v0_1],[vI p0.Next]]) hM.rawAt0 ck) fun a hE=>Z2 hE rfl Tryz.underlying55 (hM.rd hv0_2) fun a hE=>Zi hE rfl rfl rfl fun a hE=>Ze ?_))
    refine Zo hE rfl ?_ ?_
    ·intro hb26
     have hs23:=Zs hs23 hb26
     refine wp_skip (Zu (wp_seq (wp_block (Zb (Zg hE rfl (Vy) fun a hE=>Zw (v:=v0_2) hE rfl Q4 rfl (At.cat (pre:=[[v0_1],[vI p0.Next]]) hM.rawAt0 ck) fun a hE=>Zd hE rfl ?_))))); intro a hE
     obtain ⟨x27,hi29,hs23⟩:=bix hs23
     refine ZL hE rfl rfl Tryz.underlying55 YA (hM.rd hv0_2) hi29.1 ?_; intro a hE
     obtain ⟨cs30,hs31,hA32⟩:=X3 hv0_2 hi29.2 -- ^
     obtain ⟨u33,u35,rfl,h34,h36⟩:=Y1 hs31 -- ^
     refine Zr hE rfl YA rfl (hM.atk hA32 (VR hv0_2 hi29.2)) cq fun a hE=>Zz hE hM YA fun b37 w a hM hE=>Zn (seg:=cat [[vI x27.Number],[vI x27.Version],enc x27.Nonce,[u33],[u35],enc x27.Tag]) (cs':=cat [[vI x27.Number],[vI x27.Version],enc x27.Nonce,[u33],[u35],enc x27.Tag]) hE hM Za rfl rfl rfl YA cq (Nat.le_of_eq ((Nat.zero_add _).trans (Eq.trans cq (Eq.symm cq)))) (Xv (cc1 (Flat.cell (x27.Number : Int)) (cc1 (Flat.cell (x27.Version : Int)) (cc1 (Flat.cell _) (cc1 (Rep.cell (hM.rd h34)) (cc1 (Rep.cell (hM.rd h36)) (cc1 (Flat.cell _) cc0))))))) (Zk (Eq.trans cq (Eq.symm cq))) fun w a hM hE=>Ze (wp_seq ?_)
     obtain ⟨j39,hl40,hF41⟩:=bind_some hs23
     refine ZI (fun a w=>Env 96 a [(1,(ptr b1 0)),(4,vI s22.2),(5,(ptr b37 0)),(79,vT j39)] ∧ M (Old w0) w0 w [raw b37 (cat [[vI x27.Number],[vI x27.Version],enc x27.Nonce,[u33],[u35],enc x27.Tag]),raw b1 (cat [[v0_1],[vI p0.Next],[v0_2],[v0_3],enc p0.Head])]) ?_ ?_
     ·skip
      refine wp_region_lit (Zg hE rfl (XX) fun a hE=>Zw (v:=(vI x27.Number)) hE rfl ty2 rfl (At.cat (pre:=[]) hM.rawAt0 cl0) fun a hE=>Zd hE rfl fun a hE=>Zi hE rfl rfl rfl fun a hE=>Zd hE rfl ?_); intro a hE
      refine YK (decide (x27.Number ≤ s22.1)) (fun hb42=>?_) (fun hb42=>?_)
      ·have hl40:=Zs hl40 hb42
       refine Zm hE rfl (lkb rfl hb42) rfl (by decide) fun a hE=>Zm hE rfl (lkb rfl hb42) rfl (by decide) fun a hE=>Zm hE rfl (lkb rfl hb42) rfl (by decide) fun a hE=>Zm hE rfl (lkb rfl hb42) rfl (by decide) fun a hE=>Zm hE rfl (lkb rfl hb42) rfl (by decide) fun a hE=>Z8 hE (lkb rfl hb42) rfl fun a hE=>Zd hE rfl fun a hE=>Zm hE rfl rfl rfl (by decide) fun a hE=>Zm hE rfl rfl rfl (by decide) fun a hE=>Zm hE rfl rfl rfl (by decide) fun a hE=>Zm hE rfl rfl rfl (by decide) fun a hE=>Zm hE rfl rfl rfl (by decide) ?_; intro a hE
       refine Zm hE rfl rfl rfl (by decide) fun a hE=>Zm hE rfl rfl rfl (by decide) fun a hE=>Zm hE rfl rfl rfl (by decide) fun a hE=>Z8 hE rfl rfl fun a hE=>Zd hE rfl fun a hE=>Zm hE rfl rfl rfl (by decide) fun a hE=>Zm hE rfl rfl rfl (by decide) fun a hE=>Zm hE rfl rfl rfl (by decide) fun a hE=>Zm hE rfl rfl rfl (by decide) fun a hE=>Z8 hE rfl rfl fun a hE=>Zd hE rfl fun a hE=>Zm hE rfl rfl rfl (by decide) ?_; intro a hE
       refine Zm hE rfl rfl rfl (by decide) fun a hE=>Zm hE rfl rfl rfl (by decide) fun a hE=>Zm hE rfl rfl rfl (by decide) fun a hE=>Z8 hE rfl rfl fun a hE=>Zf ?_
       obtain rfl:=Option.some.inj hl40
       refine Zh ?_
       exact ⟨hE.sub ⟨rfl,rfl,rfl,rfl,trivial⟩,hM⟩
      ·have hl40:=Zt hl40 hb42
       refine Zq hE (Zj hE rfl (lkb rfl hb42)) (by decide) rfl (XX) fun a hE=>ZK (v:=(vI x27.Number)) hE (Zj hE rfl (lkb rfl hb42)) (by decide) rfl ty2 rfl (At.cat (pre:=[]) hM.rawAt0 cl0) fun a hE=>Zq hE (Zj hE rfl (lkb rfl hb42)) (by decide) rfl (KB) fun a hE=>ZK (v:=(vI p0.Next)) hE (Zj hE rfl (lkb rfl hb42)) (by decide) rfl ty2 rfl (At.cat (pre:=[[v0_1]]) hM.rawAt1 ck) fun a hE=>Ye hE (Zj hE rfl (lkb rfl hb42)) (by decide) rfl rfl rfl fun a hE=>YB hE (lkb rfl hb42) rfl fun a hE=>Zd hE rfl ?_; intro a hE
       refine YK (decide (x27.Number ≥ p0.Next)) (fun hb44=>?_) (fun hb44=>?_)
       ·have hl40:=Zs hl40 hb44
        refine Zm hE rfl (lkb rfl hb44) rfl (by decide) fun a hE=>Zm hE rfl (lkb rfl hb44) rfl (by decide) fun a hE=>Zm hE rfl (lkb rfl hb44) rfl (by decide) fun a hE=>Zm hE rfl (lkb rfl hb44) rfl (by decide) fun a hE=>Zm hE rfl (lkb rfl hb44) rfl (by decide) fun a hE=>Zm hE rfl (lkb rfl hb44) rfl (by decide) fun a hE=>Zm hE rfl (lkb rfl hb44) rfl (by decide) fun a hE=>Zm hE rfl (lkb rfl hb44) rfl (by decide) fun a hE=>Z8 hE (lkb rfl hb44) rfl fun a hE=>Zd hE rfl fun a hE=>Zm hE rfl rfl rfl (by decide) fun a hE=>Zm hE rfl rfl rfl (by decide) ?_; intro a hE
        refine Zm hE rfl rfl rfl (by decide) fun a hE=>Zm hE rfl rfl rfl (by decide) fun a hE=>Z8 hE rfl rfl fun a hE=>Zd hE rfl fun a hE=>Zm hE rfl rfl rfl (by decide) fun a hE=>Zm hE rfl rfl rfl (by decide) fun a hE=>Zm hE rfl rfl rfl (by decide) fun a hE=>Zm hE rfl rfl rfl (by decide) fun a hE=>Z8 hE rfl rfl fun a hE=>Zf ?_
        obtain rfl:=Option.some.inj hl40
        refine Zh ?_
        exact ⟨hE.sub ⟨rfl,rfl,rfl,rfl,trivial⟩,hM⟩
       ·have hl40:=Zt hl40 hb44
        refine Zq hE (Zj hE rfl (lkb rfl hb44)) (by decide) rfl (TR) fun a hE=>ZK (v:=(vI x27.Version)) hE (Zj hE rfl (lkb rfl hb44)) (by decide) rfl ty2 rfl (At.cat (pre:=[[vI x27.Number]]) hM.rawAt0 ck) fun a hE=>Zq hE (Zj hE rfl (lkb rfl hb44)) (by decide) rfl (Qj) fun a hE=>ZK (v:=v0_1) hE (Zj hE rfl (lkb rfl hb44)) (by decide) rfl HV rfl (At.cat (pre:=[]) hM.rawAt1 cl0) fun a hE=>Kj hE (Zj hE rfl (lkb rfl hb44)) (by decide) rfl Tryz.underlying54 (hM.rd hv0_1) fun a hE=>Ye hE (Zj hE rfl (lkb rfl hb44)) (by decide) rfl rfl rfl ?_; intro a hE
        obtain ⟨r46,e47,hl40⟩:=bind_some hl40
        refine ZV hE (Zj hE rfl (lkb rfl hb44)) (by decide) rfl qq (QO _ x27.Version 0 (wr ((p0.Keys.length : Int) - 1)) r46 e47) ?_
        rintro v w a ⟨rfl,hK⟩ hE
        have hM:=hM.keep hK
        refine QE hE (Zj hE rfl (lkb rfl hb44)) (by decide) rfl fun a hE=>YB hE (lkb rfl hb44) rfl fun a hE=>Zd hE rfl ?_; intro a hE
        refine YK (!r46) (fun hb48=>?_) (fun hb48=>?_)
        ·have hl40:=Zs hl40 hb48
         refine Zm hE rfl (lkb rfl hb48) rfl (by decide) fun a hE=>Zm hE rfl (lkb rfl hb48) rfl (by decide) fun a hE=>Zm hE rfl (lkb rfl hb48) rfl (by decide) fun a hE=>Zm hE rfl (lkb rfl hb48) rfl (by decide) fun a hE=>Z8 hE (lkb rfl hb48) rfl fun a hE=>Zd hE rfl fun a hE=>Zm hE rfl rfl rfl (by decide) fun a hE=>Zm hE rfl rfl rfl (by decide) fun a hE=>Zm hE rfl rfl rfl (by decide) fun a hE=>Zm hE rfl rfl rfl (by decide) fun a hE=>Z8 hE rfl rfl fun a hE=>Zf ?_
         obtain rfl:=Option.some.inj hl40
         refine Zh ?_
         exact ⟨hE.sub ⟨rfl,rfl,rfl,rfl,trivial⟩,hM⟩
        ·have hl40:=Zt hl40 hb48
         refine Zq hE (Zj hE rfl (lkb rfl hb48)) (by decide) rfl (Qc) fun a hE=>ZK (v:=u33) hE (Zj hE rfl (lkb rfl hb48)) (by decide) rfl UP rfl (At.cat (pre:=[[vI x27.Number],[vI x27.Version],enc x27.Nonce]) hM.rawAt0 ck) fun a hE=>Kj hE (Zj hE rfl (lkb rfl hb48)) (by decide) rfl Tryz.underlying40 (hM.rd h34) fun a hE=>Ye hE (Zj hE rfl (lkb rfl hb48)) (by decide) rfl rfl rfl fun a hE=>YB hE (lkb rfl hb48) rfl fun a hE=>Zd hE rfl ?_; intro a hE
         refine YK (decide ((x27.Label.length : Int) > 32)) (fun hb50=>?_) (fun hb50=>?_)
         ·have hl40:=Zs hl40 hb50
          refine Zm hE rfl (lkb rfl hb50) rfl (by decide) fun a hE=>Zm hE rfl (lkb rfl hb50) rfl (by decide) fun a hE=>Zm hE rfl (lkb rfl hb50) rfl (by decide) fun a hE=>Zm hE rfl (lkb rfl hb50) rfl (by decide) fun a hE=>Z8 hE (lkb rfl hb50) rfl fun a hE=>Zf ?_
          obtain rfl:=Option.some.inj hl40
          refine Zh ?_
          exact ⟨hE.sub ⟨rfl,rfl,rfl,rfl,trivial⟩,hM⟩
         ·have hl40:=Zt hl40 hb50
          refine Zq hE (Zj hE rfl (lkb rfl hb50)) (by decide) rfl (Kc) fun a hE=>ZK (v:=u35) hE (Zj hE rfl (lkb rfl hb50)) (by decide) rfl UP rfl (At.cat (pre:=[[vI x27.Number],[vI x27.Version],enc x27.Nonce,[u33]]) hM.rawAt0 ck) fun a hE=>Kj hE (Zj hE rfl (lkb rfl hb50)) (by decide) rfl Tryz.underlying40 (hM.rd h36) fun a hE=>Ye hE (Zj hE rfl (lkb rfl hb50)) (by decide) rfl rfl rfl fun a hE=>YB hE (lkb rfl hb50) rfl fun a hE=>Zf ?_
          obtain rfl:=Option.some.inj hl40
          refine Zh ?_
          exact ⟨hE.sub ⟨rfl,rfl,rfl,rfl,trivial⟩,hM⟩
     ·skip
      rintro a w ⟨hE,hM⟩
      refine Zo hE rfl ?_ ?_
      ·intro hb53
       have hF41:=Zs hF41 hb53
       refine Zb (Zc hE rfl fun a hE=>Ze ?_)
       obtain rfl:=hx24 _ (ois hF41)
       obtain rfl:=Option.some.inj hF20
       exact wp_ret (ZA (XH (ZA (ZA (XH (ZA (ZA (kr1 hE rfl rfl hM.kept))))))))
      ·intro hb53
       have hF41:=Zt hF41 hb53
       refine wp_skip (Zu (wp_region_lit (Zg hE rfl (XX) fun a hE=>Zw (v:=(vI x27.Number)) hE rfl ty2 rfl (At.cat (pre:=[]) hM.rawAt0 cl0) fun a hE=>Zc hE rfl fun a hE=>Zf (Z4 (Zu (wp_region_lit (Zd hE rfl fun a hE=>Zi hE rfl rfl rfl fun a hE=>Zc hE rfl fun a hE=>Zf (Zh ?_))))))))
       have hM:=M.fst (l:=[_]) hM.pull1
       exact ⟨_,(ois hF41),hE.sub ⟨rfl,rfl,rfl,trivial⟩,hM⟩
    ·intro hb26
     have hs23:=Zt hs23 hb26
     refine wp_exit (Zl (Zl (Z5 ?_)))
     obtain rfl:=hx24 _ (ois hs23)
     refine Zh ?_
     exact ⟨(),rfl,hE.sub ⟨rfl,trivial⟩,hM⟩
   ·skip
    rintro a w ⟨s21,ht,hE,hM⟩
    subst ht
    have hF20:=Qu hF20
    refine Zu (wp_seq (Zb (Zc hE rfl fun a hE=>Ze ?_)))
    obtain ⟨j56,hl57,hF58⟩:=bind_some hF20
    refine ZJ (fun a w=>∃ s59 : Unit,j56 = Fl.nx s59 ∧ Env 96 a [] ∧ M (Old w0) w0 w []) ?_ ?_
    ·skip
     refine wp_block ?_
     refine ZC (fun (s60 : Int) a w=>Env 96 a [(1,(ptr b1 0)),(6,vI s60)] ∧ M (Old w0) w0 w [raw b1 (cat [[v0_1],[vI p0.Next],[v0_2],[v0_3],enc p0.Head])]) hl57 ⟨hE.sub ⟨rfl,rfl,trivial⟩,hM⟩ ?_
     rintro s60 a w ⟨hE,hM⟩ o63 hs61 hx62
     unfold TG at hs61
     refine wp_seq (Zb (Zd hE rfl fun a hE=>Zg hE rfl (TZ) fun a hE=>Zw (v:=v0_3) hE rfl Jv rfl (At.cat (pre:=[[v0_1],[vI p0.Next],[v0_2]]) hM.rawAt0 ck) fun a hE=>Z2 hE rfl Tryz.underlying56 (hM.rd hv0_3) fun a hE=>Zi hE rfl rfl rfl fun a hE=>Ze ?_))
     refine Zo hE rfl ?_ ?_
     ·intro hb64
      have hs61:=Zs hs61 hb64
      refine wp_skip (Zu (wp_seq (wp_block (Zb (Zg hE rfl (TZ) fun a hE=>Zw (v:=v0_3) hE rfl Jv rfl (At.cat (pre:=[[v0_1],[vI p0.Next],[v0_2]]) hM.rawAt0 ck) fun a hE=>Zd hE rfl ?_))))); intro a hE
      obtain ⟨x65,hi67,hs61⟩:=bix hs61
      refine ZL hE rfl rfl Tryz.underlying56 Xd (hM.rd hv0_3) hi67.1 fun a hE=>Zr hE rfl Xd rfl (Yp (hM.rd hv0_3) hi67.2) cq ?_; intro a hE
      obtain ⟨r68,e69,hs61⟩:=bind_some hs61
      refine Zx hE rfl (cbm Tryz.func144) (B9 _ x65 r68 e69) ?_
      rintro v w a ⟨rfl,hK⟩ hE
      have hM:=hM.keep hK
      refine Qa hE rfl fun a hE=>Ze ?_
      refine Zo hE rfl ?_ ?_
      ·intro hb70
       have hs61:=Zs hs61 hb70
       refine Zb (Zc hE rfl fun a hE=>Ze ?_)
       obtain rfl:=hx62 _ (ois hs61)
       obtain rfl:=Option.some.inj hF58
       exact wp_ret (XH (ZA (ZA (XH (ZA (ZA (kr1 hE rfl rfl hM.kept)))))))
      ·intro hb70
       have hs61:=Zt hs61 hb70
       refine wp_skip (Z4 (Zu (wp_region_lit (Zd hE rfl fun a hE=>Zi hE rfl rfl rfl fun a hE=>Zc hE rfl fun a hE=>Zf (Zh ?_)))))
       exact ⟨_,(ois hs61),hE.sub ⟨rfl,rfl,trivial⟩,hM⟩
     ·intro hb64
      have hs61:=Zt hs61 hb64
      refine wp_exit (Zl (Zl (Z5 ?_)))
      obtain rfl:=hx62 _ (ois hs61)
      refine Zh ?_
      have hM:=M.fst (l:=[]) hM
      exact ⟨(),rfl,hE.sub trivial,hM⟩
    ·skip
     rintro a w ⟨s59,ht,hE,hM⟩
     subst ht
     have hF58:=Qu hF58
     refine Zu (Zb (Zc hE rfl fun a hE=>Ze ?_))
     obtain rfl:=Option.some.inj hF58
     exact wp_ret (kr1 hE rfl rfl hM.kept)
def Y4 (p0 : Int) (s4 : Int × Int × Int) : Option (Fl (Int × Int × Int) Int) :=
 if (decide (s4.2.2 > 0)) = true then (((if ((Int.tmod s4.2.2 2) == 1) = true then (some (Bn s4.1 s4.2.1)) else (some s4.1) : Option (Int)).bind fun j12=>(if (decide ((wr (s4.2.1 * 2)) ≥ 256)) = true then (some (Bn (wr (s4.2.1 * 2)) p0)) else (some (wr (s4.2.1 * 2))) : Option (Int)).bind fun j18=>some (j12,j18) : Option (Int × Int)).bind fun j9=>some (Fl.nx (j9.1,j9.2,wr (Int.tdiv s4.2.2 2)))) else (some (Fl.ex s4.1))
def YL (p0 : Int) (p1 : UInt8) (p2 : UInt8) : Option (UInt8) :=
 (ZB (Y4 p0) (0,bI p1,bI p2)).bind fun j1=>some (Zv j1)
theorem Ux (w0 : World) (p0 : Int) (p1 : UInt8) (p2 : UInt8) (r : UInt8) (hF : YL p0 p1 p2 = some r) :
  Calls Tryz.prog 208 [vI p0,vB p1,vB p2].toArray w0 (Rt w0 (vB r)):=by
 refine ce Tryz.func208 ?_
 intro a hE
 have hM:=M.start w0
 unfold YL at hF
 refine Zb (Zc hE rfl fun a hE=>Ze (Zb (Zd hE rfl fun a hE=>Ag hE Za ld rfl Tryz.underlying5 Tryz.underlying2 fun a hE=>Zc hE rfl fun a hE=>Zc hE rfl fun a hE=>Ze (wp_seq (Zb (Zd hE rfl fun a hE=>Ag hE Za ld rfl Tryz.underlying5 Tryz.underlying2 fun a hE=>Zc hE rfl fun a hE=>Ze ?_))))))
 obtain ⟨j1,hl2,hF3⟩:=bind_some hF
 refine ZJ (fun a w=>Env 33 a [(7,vI j1)] ∧ M (Old w0) w0 w []) ?_ ?_
 ·skip
  refine wp_block ?_
  refine ZC (fun (s4 : Int × Int × Int) a w=>Env 33 a [(0,vI p0),(7,vI s4.1),(8,vI s4.2.1),(9,vI s4.2.2)] ∧ M (Old w0) w0 w []) hl2 ⟨hE.sub ⟨rfl,rfl,rfl,rfl,trivial⟩,hM⟩ ?_
  rintro s4 a w ⟨hE,hM⟩ o7 hs5 hx6
  unfold Y4 at hs5
  refine wp_seq (Zb (Zd hE rfl fun a hE=>Zi hE rfl rfl rfl fun a hE=>Ze ?_))
  refine Zo hE rfl ?_ ?_
  ·intro hb8
   have hs5:=Zs hs5 hb8
   refine wp_skip (Zu ?_)
   obtain ⟨j9,hl10,hF11⟩:=bind_some hs5
   refine ZI (fun a w=>Env 33 a [(0,vI p0),(7,vI j9.1),(8,vI j9.2),(9,vI s4.2.2)] ∧ M (Old w0) w0 w []) ?_ ?_
   ·skip
    refine wp_block ?_
    obtain ⟨j12,hl13,hF14⟩:=bind_some hl10
    refine ZI (fun a w=>Env 33 a [(0,vI p0),(7,vI j12),(8,vI s4.2.1),(9,vI s4.2.2)] ∧ M (Old w0) w0 w []) ?_ ?_
    ·skip
     refine Zb (Zd hE rfl fun a hE=>Zi hE rfl rfl (Kf _ _ (by decide)) fun a hE=>Zi hE rfl rfl rfl fun a hE=>Ze ?_)
     refine Zo hE rfl ?_ ?_
     ·intro hb15
      have hl13:=Zs hl13 hb15
      refine wp_region_lit (Zd hE rfl fun a hE=>Zd hE rfl fun a hE=>Zi hE rfl rfl rfl fun a hE=>Zc hE rfl fun a hE=>Zf ?_)
      obtain rfl:=Option.some.inj hl13
      refine Zh ?_
      exact ⟨hE.sub ⟨rfl,rfl,rfl,rfl,trivial⟩,hM⟩
     ·intro hb15
      have hl13:=Zt hl13 hb15
      refine wp_skip ?_
      obtain rfl:=Option.some.inj hl13
      refine Zh ?_
      exact ⟨hE.sub ⟨rfl,rfl,rfl,rfl,trivial⟩,hM⟩
    ·skip
     rintro a w ⟨hE,hM⟩
     refine Zb (Zd hE rfl fun a hE=>Zi hE rfl rfl rfl fun a hE=>Zc hE rfl fun a hE=>Ze (Zb (Zd hE rfl fun a hE=>Zi hE rfl rfl rfl fun a hE=>Ze ?_)))
     obtain ⟨j18,hl19,hF20⟩:=bind_some hF14
     refine ZJ (fun a w=>Env 33 a [(0,vI p0),(7,vI j12),(8,vI j18),(9,vI s4.2.2)] ∧ M (Old w0) w0 w []) ?_ ?_
     ·skip
      refine Zo hE rfl ?_ ?_
      ·intro hb21
       have hl19:=Zs hl19 hb21
       refine wp_region_lit (Zd hE rfl fun a hE=>Zd hE rfl fun a hE=>Zi hE rfl rfl rfl fun a hE=>Zc hE rfl fun a hE=>Zf ?_)
       obtain rfl:=Option.some.inj hl19
       refine Zh ?_
       exact ⟨hE.sub ⟨rfl,rfl,rfl,rfl,trivial⟩,hM⟩
      ·intro hb21
       have hl19:=Zt hl19 hb21
       refine wp_skip ?_
       obtain rfl:=Option.some.inj hl19
       refine Zh ?_
       exact ⟨hE.sub ⟨rfl,rfl,rfl,rfl,trivial⟩,hM⟩
     ·skip
      rintro a w ⟨hE,hM⟩
      refine Z4 ?_
      obtain rfl:=Option.some.inj hF20
      refine Zh ?_
      exact ⟨hE.sub ⟨rfl,rfl,rfl,rfl,trivial⟩,hM⟩
   ·skip
    rintro a w ⟨hE,hM⟩
    refine wp_region_lit (Zd hE rfl fun a hE=>Zi hE rfl rfl (yF _ _ (by decide)) fun a hE=>Zc hE rfl fun a hE=>Zf (Zh ?_))
    exact ⟨_,(ois hF11),hE.sub ⟨rfl,rfl,rfl,rfl,trivial⟩,hM⟩
  ·intro hb8
   have hs5:=Zt hs5 hb8
   refine wp_exit (Zl (Zl (Z5 ?_)))
   obtain rfl:=hx6 _ (ois hs5)
   refine Zh ?_
   exact ⟨hE.sub ⟨rfl,trivial⟩,hM⟩
 ·skip
  rintro a w ⟨hE,hM⟩
  refine Zu (Zb (Zd hE rfl fun a hE=>Yj hE Za ld rfl Tryz.underlying2 Tryz.underlying5 fun a hE=>Zc hE rfl fun a hE=>Ze ?_))
  obtain rfl:=Option.some.inj hF3
  exact wp_ret (kr1 hE rfl rfl hM.kept)
def V8 (p0 : Int) (s16 : UInt8 × UInt8 × Int) : Option (Fl (UInt8 × UInt8 × Int) UInt8) :=
 if (decide (s16.2.2 > 0)) = true then (((if ((Int.tmod s16.2.2 2) == 1) = true then ((YL p0 s16.1 s16.2.1).bind fun r28=>some r28) else (some s16.1) : Option (UInt8)).bind fun j24=>(YL p0 s16.2.1 s16.2.1).bind fun r32=>some (j24,r32) : Option (UInt8 × UInt8)).bind fun j21=>some (Fl.nx (j21.1,j21.2,wr (Int.tdiv s16.2.2 2)))) else (some (Fl.ex s16.1))
def V1 (p0 : Int) (p1 : Int) (s8 : (Vector UInt8 256) × Int) : Option (Fl ((Vector UInt8 256) × Int) (Vector UInt8 256)) :=
 if (decide (s8.2 < 256)) = true then ((ZB (V8 p0) (1,Zv s8.2,p1)).bind fun j13=>(ZH s8.1 s8.2).bind fun x37=>some (Fl.nx ((s8.1.setIfInBounds (s8.2).toNat j13),wr (s8.2 + 1)))) else (some (Fl.ex s8.1))
def Uy (p0 : Int) (p1 : Int) : Option ((Vector UInt8 256)) :=
 (ZB (V1 p0 p1) ((Vector.replicate 256 (0 : UInt8)),0)).bind fun j5=>some j5
theorem BK (w0 : World) (p0 : Int) (p1 : Int) (r : (Vector UInt8 256)) (hF : Uy p0 p1 = some r) :
  Calls Tryz.prog 176 [vI p0,vI p1].toArray w0 (Rt w0 (Value.agg (enc r).toArray)):=by
 refine ce Tryz.func176 ?_
 intro a hE
 have hM:=M.start w0
 unfold Uy at hF
 refine Zb (Zz hE hM Xt fun b1 w a hM hE=>Ze (Zb (Xu (parts:=[]) (vs:=[]) (cs:=enc (Vector.replicate 256 (0 : UInt8))) hE Za ld rfl rfl Xt rfl ty5 YU fun a hE=>Zz hE hM Xt fun b3 w a hM hE=>Zn (seg:=enc (Vector.replicate 256 (0 : UInt8))) (cs':=enc (Vector.replicate 256 (0 : UInt8))) hE hM Za rfl rfl rfl Xt (Flat.len _) (zle flq) (Flat.cell _) (Zk flq) fun w a hM hE=>Ze (wp_seq (Zb (Zc hE rfl fun a hE=>Ze ?_))))))
 obtain ⟨j5,hl6,hF7⟩:=bind_some hF
 refine ZJ (fun a w=>Env 37 a [(4,(ptr b1 0)),(5,(ptr b3 0))] ∧ M (Old w0) w0 w [raw b3 (enc j5),raw b1 (enc (Vector.replicate 256 (0 : UInt8)))]) ?_ ?_
 ·skip
  refine wp_block ?_
  refine ZC (fun (s8 : (Vector UInt8 256) × Int) a w=>Env 37 a [(0,vI p0),(1,vI p1),(4,(ptr b1 0)),(5,(ptr b3 0)),(6,vI s8.2)] ∧ M (Old w0) w0 w [raw b3 (enc s8.1),raw b1 (enc (Vector.replicate 256 (0 : UInt8)))]) hl6 ⟨hE.sub ⟨rfl,rfl,rfl,rfl,rfl,trivial⟩,hM⟩ ?_
  rintro s8 a w ⟨hE,hM⟩ o11 hs9 hx10
  unfold V1 at hs9
  refine wp_seq (Zb (Zd hE rfl fun a hE=>Zi hE rfl rfl rfl fun a hE=>Ze ?_))
  refine Zo hE rfl ?_ ?_
  ·intro hb12
   have hs9:=Zs hs9 hb12
   refine wp_skip (Zu (wp_seq (wp_block (Zb (Zd hE rfl fun a hE=>Yj hE Za ld rfl Tryz.underlying3 Tryz.underlying5 fun a hE=>Zc hE rfl fun a hE=>Zc hE rfl fun a hE=>Ze (wp_seq (Zb (Zd hE rfl fun a hE=>Zc hE rfl fun a hE=>Ze ?_))))))))
   obtain ⟨j13,hl14,hF15⟩:=bind_some hs9
   refine ZJ (fun a w=>Env 37 a [(0,vI p0),(1,vI p1),(4,(ptr b1 0)),(5,(ptr b3 0)),(6,vI s8.2),(7,vB j13)] ∧ M (Old w0) w0 w [raw b3 (enc s8.1),raw b1 (enc (Vector.replicate 256 (0 : UInt8)))]) ?_ ?_
   ·skip
    refine wp_block ?_
    refine ZC (fun (s16 : UInt8 × UInt8 × Int) a w=>Env 37 a [(0,vI p0),(1,vI p1),(4,(ptr b1 0)),(5,(ptr b3 0)),(6,vI s8.2),(7,vB s16.1),(8,vB s16.2.1),(9,vI s16.2.2)] ∧ M (Old w0) w0 w [raw b3 (enc s8.1),raw b1 (enc (Vector.replicate 256 (0 : UInt8)))]) hl14 ⟨hE.sub ⟨rfl,rfl,rfl,rfl,rfl,rfl,rfl,rfl,trivial⟩,hM⟩ ?_
    rintro s16 a w ⟨hE,hM⟩ o19 hs17 hx18
    unfold V8 at hs17
    refine wp_seq (Zb (Zd hE rfl fun a hE=>Zi hE rfl rfl rfl fun a hE=>Ze ?_))
    refine Zo hE rfl ?_ ?_
    ·intro hb20
     have hs17:=Zs hs17 hb20
     refine wp_skip (Zu ?_)
     obtain ⟨j21,hl22,hF23⟩:=bind_some hs17
     refine ZI (fun a w=>Env 37 a [(0,vI p0),(1,vI p1),(4,(ptr b1 0)),(5,(ptr b3 0)),(6,vI s8.2),(7,vB j21.1),(8,vB j21.2),(9,vI s16.2.2)] ∧ M (Old w0) w0 w [raw b3 (enc s8.1),raw b1 (enc (Vector.replicate 256 (0 : UInt8)))]) ?_ ?_
     ·skip
      refine wp_block ?_
      obtain ⟨j24,hl25,hF26⟩:=bind_some hl22
      refine ZI (fun a w=>Env 37 a [(0,vI p0),(1,vI p1),(4,(ptr b1 0)),(5,(ptr b3 0)),(6,vI s8.2),(7,vB j24),(8,vB s16.2.1),(9,vI s16.2.2)] ∧ M (Old w0) w0 w [raw b3 (enc s8.1),raw b1 (enc (Vector.replicate 256 (0 : UInt8)))]) ?_ ?_
      ·skip
       refine Zb (Zd hE rfl fun a hE=>Zi hE rfl rfl (Kf _ _ (by decide)) fun a hE=>Zi hE rfl rfl rfl fun a hE=>Ze ?_)
       refine Zo hE rfl ?_ ?_
       ·intro hb27
        have hl25:=Zs hl25 hb27
        refine wp_region_lit (Zd hE rfl fun a hE=>Zd hE rfl fun a hE=>Zd hE rfl ?_); intro a hE
        obtain ⟨r28,e29,hl25⟩:=bind_some hl25
        refine Zx hE rfl jm (Ux _ p0 s16.1 s16.2.1 r28 e29) ?_
        rintro v w a ⟨rfl,hK⟩ hE
        have hM:=hM.keep hK
        refine Zc hE rfl fun a hE=>Zf ?_
        obtain rfl:=Option.some.inj hl25
        refine Zh ?_
        exact ⟨hE.sub ⟨rfl,rfl,rfl,rfl,rfl,rfl,rfl,rfl,trivial⟩,hM⟩
       ·intro hb27
        have hl25:=Zt hl25 hb27
        refine wp_skip ?_
        obtain rfl:=Option.some.inj hl25
        refine Zh ?_
        exact ⟨hE.sub ⟨rfl,rfl,rfl,rfl,rfl,rfl,rfl,rfl,trivial⟩,hM⟩
      ·skip
       rintro a w ⟨hE,hM⟩
       refine wp_region_lit (Zd hE rfl fun a hE=>Zd hE rfl fun a hE=>Zd hE rfl ?_); intro a hE
       obtain ⟨r32,e33,hF26⟩:=bind_some hF26
       refine Zx hE rfl jm (Ux _ p0 s16.2.1 s16.2.1 r32 e33) ?_
       rintro v w a ⟨rfl,hK⟩ hE
       have hM:=hM.keep hK
       refine Zc hE rfl fun a hE=>Zf (Z4 ?_)
       obtain rfl:=Option.some.inj hF26
       refine Zh ?_
       exact ⟨hE.sub ⟨rfl,rfl,rfl,rfl,rfl,rfl,rfl,rfl,trivial⟩,hM⟩
     ·skip
      rintro a w ⟨hE,hM⟩
      refine wp_region_lit (Zd hE rfl fun a hE=>Zi hE rfl rfl (yF _ _ (by decide)) fun a hE=>Zc hE rfl fun a hE=>Zf (Zh ?_))
      exact ⟨_,(ois hF23),hE.sub ⟨rfl,rfl,rfl,rfl,rfl,rfl,rfl,rfl,trivial⟩,hM⟩
    ·intro hb20
     have hs17:=Zt hs17 hb20
     refine wp_exit (Zl (Zl (Z5 ?_)))
     obtain rfl:=hx18 _ (ois hs17)
     refine Zh ?_
     exact ⟨hE.sub ⟨rfl,rfl,rfl,rfl,rfl,rfl,trivial⟩,hM⟩
   ·skip
    rintro a w ⟨hE,hM⟩
    refine Zu (wp_region_lit (Zd hE rfl fun a hE=>Zd hE rfl ?_)); intro a hE
    obtain ⟨x37,hi36,hF15⟩:=bvx hF15
    refine ZD hE rfl rfl Tryz.underlying157 ty5 hi36.1 fun a hE=>Zn (seg:=[vB j13]) (cs':=enc (s8.1.setIfInBounds (s8.2).toNat j13)) hE hM Za rfl rfl rfl ty5 rfl (ZM (v:=s8.1) (x:=j13) hi36.1) (Flat.cell (j13 : UInt8)) (ZE (v:=s8.1) (x:=j13) hi36.1) fun w a hM hE=>Zf (Z4 (Zu (wp_region_lit (Zd hE rfl fun a hE=>Zi hE rfl rfl rfl fun a hE=>Zc hE rfl fun a hE=>Zf (Zh ?_)))))
    exact ⟨_,(ois hF15),hE.sub ⟨rfl,rfl,rfl,rfl,rfl,trivial⟩,hM⟩
  ·intro hb12
   have hs9:=Zt hs9 hb12
   refine wp_exit (Zl (Zl (Z5 ?_)))
   obtain rfl:=hx10 _ (ois hs9)
   refine Zh ?_
   exact ⟨hE.sub ⟨rfl,rfl,trivial⟩,hM⟩
 ·skip
  rintro a w ⟨hE,hM⟩
  refine Zu (Zb (Zr hE rfl Xt rfl hM.rawAt0 (Flat.len _) ?_)); intro a hE
  have hM:=hM.pull1
  refine Zn (seg:=enc j5) (cs':=enc j5) hE hM Za rfl rfl rfl Xt (Flat.len _) (zle flq) (Flat.cell _) (Zk flq) fun w a hM hE=>Ze ?_
  obtain rfl:=Option.some.inj hF7
  have hq40 : Yt Tryz.prog _ _ (.cell 4 157) _:=ZQ hE rfl Xt rfl hM.rawAt0 (Flat.len _) rfl
  exact wp_ret (ZN hE rfl hq40 ⟨_,rfl,rfl,hM.kept⟩)
def XM (p0 : UInt8) (p1 : Int) : Option (UInt8) :=
 (XP (IntKind.u64.wrap p1)).bind fun _=>some (Zv (QM (orI (zU (bI p0) (IntKind.u64.wrap p1)) (TB (zU (bI p0) (IntKind.u64.wrap p1)) 8)) 255))
theorem A0 (w0 : World) (p0 : UInt8) (p1 : Int) (r : UInt8) (hF : XM p0 p1 = some r) :
  Calls Tryz.prog 209 [vB p0,vI p1].toArray w0 (Rt w0 (vB r)):=by
 refine ce Tryz.func209 ?_
 intro a hE
 have hM:=M.start w0
 unfold XM at hF
 refine Zb (Zc hE rfl fun a hE=>Ze (Zb (Zd hE rfl fun a hE=>Ag hE Za ld rfl Tryz.underlying5 Tryz.underlying2 fun a hE=>Zd hE rfl fun a hE=>AI hE Za ld rfl Tryz.underlying2 Tryz.underlying229 ?_))); intro a hE
 obtain ⟨_,e1,hF⟩:=bind_some hF
 have e1:=Vg e1
 refine Bw hE Za ld rfl rfl (kL _ _ e1) fun a hE=>Zc hE rfl fun a hE=>Ze (Zb (Zd hE rfl fun a hE=>Zd hE rfl fun a hE=>Bw hE Za ld rfl rfl (JY _ _ (by decide)) fun a hE=>Zi hE rfl rfl rfl fun a hE=>Zi hE rfl rfl rfl fun a hE=>Yj hE Za ld rfl Tryz.underlying2 Tryz.underlying5 fun a hE=>Zc hE rfl fun a hE=>Ze ?_))
 obtain rfl:=Option.some.inj hF
 exact wp_ret (kr1 hE rfl rfl hM.kept)
def Yc (p0 : (List Int)) (s8 : (Vector UInt8 256) × Int) (s16 : UInt8 × Int) : Option (Fl (UInt8 × Int) UInt8) :=
 if (decide (s16.2 < (p0.length : Int))) = true then ((idx p0 s16.2).bind fun x21=>(XM (Zv s8.2) x21).bind fun r24=>some (Fl.nx (s16.1 ^^^ r24,wr (s16.2 + 1)))) else (some (Fl.ex s16.1))
def XO (p0 : (List Int)) (p1 : UInt8) (s8 : (Vector UInt8 256) × Int) : Option (Fl ((Vector UInt8 256) × Int) (Vector UInt8 256)) :=
 if (decide (s8.2 < 256)) = true then ((ZB (Yc p0 s8) (p1,0)).bind fun j13=>(ZH s8.1 s8.2).bind fun x28=>some (Fl.nx ((s8.1.setIfInBounds (s8.2).toNat j13),wr (s8.2 + 1)))) else (some (Fl.ex s8.1))
def Wh (p0 : (List Int)) (p1 : UInt8) : Option ((Vector UInt8 256)) :=
 (ZB (XO p0 p1) ((Vector.replicate 256 (0 : UInt8)),0)).bind fun j5=>some j5
theorem Jw (w0 : World) (p0 : (List Int)) (v0_1 : Value) (hv0_1 : Ro w0 p0 [v0_1]) (p1 : UInt8) (r : (Vector UInt8 256)) (hF : Wh p0 p1 = some r) :
  Calls Tryz.prog 177 [v0_1,vB p1].toArray w0 (Rt w0 (Value.agg (enc r).toArray)):=by
 refine ce Tryz.func177 ?_
 intro a hE
 have hM:=M.start w0
 unfold Wh at hF
 refine Zb (Zz hE hM Xt fun b1 w a hM hE=>Ze (Zb (Xu (parts:=[]) (vs:=[]) (cs:=enc (Vector.replicate 256 (0 : UInt8))) hE Za ld rfl rfl Xt rfl ty5 YU fun a hE=>Zz hE hM Xt fun b3 w a hM hE=>Zn (seg:=enc (Vector.replicate 256 (0 : UInt8))) (cs':=enc (Vector.replicate 256 (0 : UInt8))) hE hM Za rfl rfl rfl Xt (Flat.len _) (zle flq) (Flat.cell _) (Zk flq) fun w a hM hE=>Ze (wp_seq (Zb (Zc hE rfl fun a hE=>Ze ?_))))))
 obtain ⟨j5,hl6,hF7⟩:=bind_some hF
 refine ZJ (fun a w=>Env 34 a [(4,(ptr b1 0)),(5,(ptr b3 0))] ∧ M (Old w0) w0 w [raw b3 (enc j5),raw b1 (enc (Vector.replicate 256 (0 : UInt8)))]) ?_ ?_
 ·skip
  refine wp_block ?_
  refine ZC (fun (s8 : (Vector UInt8 256) × Int) a w=>Env 34 a [(0,v0_1),(1,vB p1),(4,(ptr b1 0)),(5,(ptr b3 0)),(6,vI s8.2)] ∧ M (Old w0) w0 w [raw b3 (enc s8.1),raw b1 (enc (Vector.replicate 256 (0 : UInt8)))]) hl6 ⟨hE.sub ⟨rfl,rfl,rfl,rfl,rfl,trivial⟩,hM⟩ ?_
  rintro s8 a w ⟨hE,hM⟩ o11 hs9 hx10
  unfold XO at hs9
  refine wp_seq (Zb (Zd hE rfl fun a hE=>Zi hE rfl rfl rfl fun a hE=>Ze ?_))
  refine Zo hE rfl ?_ ?_
  ·intro hb12
   have hs9:=Zs hs9 hb12
   refine wp_skip (Zu (wp_seq (wp_block (Zb (Zd hE rfl fun a hE=>Zc hE rfl fun a hE=>Ze (wp_seq (Zb (Zc hE rfl fun a hE=>Ze ?_))))))))
   obtain ⟨j13,hl14,hF15⟩:=bind_some hs9
   refine ZJ (fun a w=>Env 34 a [(0,v0_1),(1,vB p1),(4,(ptr b1 0)),(5,(ptr b3 0)),(6,vI s8.2),(7,vB j13)] ∧ M (Old w0) w0 w [raw b3 (enc s8.1),raw b1 (enc (Vector.replicate 256 (0 : UInt8)))]) ?_ ?_
   ·skip
    refine wp_block ?_
    refine ZC (fun (s16 : UInt8 × Int) a w=>Env 34 a [(0,v0_1),(1,vB p1),(4,(ptr b1 0)),(5,(ptr b3 0)),(6,vI s8.2),(7,vB s16.1),(8,vI s16.2)] ∧ M (Old w0) w0 w [raw b3 (enc s8.1),raw b1 (enc (Vector.replicate 256 (0 : UInt8)))]) hl14 ⟨hE.sub ⟨rfl,rfl,rfl,rfl,rfl,rfl,rfl,trivial⟩,hM⟩ ?_
    rintro s16 a w ⟨hE,hM⟩ o19 hs17 hx18
    unfold Yc at hs17
    refine wp_seq (Zb (Zd hE rfl fun a hE=>Zd hE rfl fun a hE=>Z2 hE rfl Tryz.underlying24 (hM.rd hv0_1) fun a hE=>Zi hE rfl rfl rfl fun a hE=>Ze ?_))
    refine Zo hE rfl ?_ ?_
    ·intro hb20
     have hs17:=Zs hs17 hb20
     refine wp_skip (Zu (wp_seq (wp_block (wp_region_lit (Zd hE rfl fun a hE=>Zd hE rfl fun a hE=>Yj hE Za ld rfl Tryz.underlying3 Tryz.underlying5 fun a hE=>Zd hE rfl fun a hE=>Zd hE rfl ?_))))); intro a hE
     obtain ⟨x21,hi23,hs17⟩:=bix hs17
     refine ZL hE rfl rfl Tryz.underlying24 ty2 (hM.rd hv0_1) hi23.1 fun a hE=>Zw (v:=(vI x21)) hE rfl ty2 rfl (Yp (hM.rd hv0_1) hi23.2) ?_; intro a hE
     obtain ⟨r24,e25,hs17⟩:=bind_some hs17
     refine Zx hE rfl (cbm Tryz.func209) (A0 _ (Zv s8.2) x21 r24 e25) ?_
     rintro v w a ⟨rfl,hK⟩ hE
     have hM:=hM.keep hK
     refine Zi hE rfl rfl (Vw s16.1 r24) fun a hE=>Zc hE rfl fun a hE=>Zf (Z4 (Zu (wp_region_lit (Zd hE rfl fun a hE=>Zi hE rfl rfl rfl fun a hE=>Zc hE rfl fun a hE=>Zf (Zh ?_)))))
     exact ⟨_,(ois hs17),hE.sub ⟨rfl,rfl,rfl,rfl,rfl,rfl,rfl,trivial⟩,hM⟩
    ·intro hb20
     have hs17:=Zt hs17 hb20
     refine wp_exit (Zl (Zl (Z5 ?_)))
     obtain rfl:=hx18 _ (ois hs17)
     refine Zh ?_
     exact ⟨hE.sub ⟨rfl,rfl,rfl,rfl,rfl,rfl,trivial⟩,hM⟩
   ·skip
    rintro a w ⟨hE,hM⟩
    refine Zu (wp_region_lit (Zd hE rfl fun a hE=>Zd hE rfl ?_)); intro a hE
    obtain ⟨x28,hi27,hF15⟩:=bvx hF15
    refine ZD hE rfl rfl Tryz.underlying157 ty5 hi27.1 fun a hE=>Zn (seg:=[vB j13]) (cs':=enc (s8.1.setIfInBounds (s8.2).toNat j13)) hE hM Za rfl rfl rfl ty5 rfl (ZM (v:=s8.1) (x:=j13) hi27.1) (Flat.cell (j13 : UInt8)) (ZE (v:=s8.1) (x:=j13) hi27.1) fun w a hM hE=>Zf (Z4 (Zu (wp_region_lit (Zd hE rfl fun a hE=>Zi hE rfl rfl rfl fun a hE=>Zc hE rfl fun a hE=>Zf (Zh ?_)))))
    exact ⟨_,(ois hF15),hE.sub ⟨rfl,rfl,rfl,rfl,rfl,trivial⟩,hM⟩
  ·intro hb12
   have hs9:=Zt hs9 hb12
   refine wp_exit (Zl (Zl (Z5 ?_)))
   obtain rfl:=hx10 _ (ois hs9)
   refine Zh ?_
   exact ⟨hE.sub ⟨rfl,rfl,trivial⟩,hM⟩
 ·skip
  rintro a w ⟨hE,hM⟩
  refine Zu (Zb (Zr hE rfl Xt rfl hM.rawAt0 (Flat.len _) ?_)); intro a hE
  have hM:=hM.pull1
  refine Zn (seg:=enc j5) (cs':=enc j5) hE hM Za rfl rfl rfl Xt (Flat.len _) (zle flq) (Flat.cell _) (Zk flq) fun w a hM hE=>Ze ?_
  obtain rfl:=Option.some.inj hF7
  have hq31 : Yt Tryz.prog _ _ (.cell 4 157) _:=ZQ hE rfl Xt rfl hM.rawAt0 (Flat.len _) rfl
  exact wp_ret (ZN hE rfl hq31 ⟨_,rfl,rfl,hM.kept⟩)
def Um (p0 : (Vector UInt8 256)) (p1 : (Vector UInt8 256)) (s12 : (Vector UInt8 256) × Int) : Option (Fl ((Vector UInt8 256) × Int) (Vector UInt8 256)) :=
 if (decide (s12.2 < 256)) = true then ((ZH p0 s12.2).bind fun x18=>(ZH p1 (bI x18)).bind fun x21=>(ZH s12.1 s12.2).bind fun x24=>some (Fl.nx ((s12.1.setIfInBounds (s12.2).toNat x21),wr (s12.2 + 1)))) else (some (Fl.ex s12.1))
def Tc (p0 : (Vector UInt8 256)) (p1 : (Vector UInt8 256)) : Option ((Vector UInt8 256)) :=
 (ZB (Um p0 p1) ((Vector.replicate 256 (0 : UInt8)),0)).bind fun j9=>some j9
theorem AM (w0 : World) (p0 : (Vector UInt8 256)) (p1 : (Vector UInt8 256)) (r : (Vector UInt8 256)) (hF : Tc p0 p1 = some r) :
  Calls Tryz.prog 175 [(Value.agg (enc p0).toArray),(Value.agg (enc p1).toArray)].toArray w0 (Rt w0 (Value.agg (enc r).toArray)):=by
 refine ce Tryz.func175 ?_
 intro a hE
 have hM:=M.start w0
 unfold Tc at hF
 refine Zb (ZT (cs:=enc p0) hE hM Za ld rfl rfl fun b1 w a hM hE=>ZT (cs:=enc p1) hE hM Za ld rfl rfl fun b3 w a hM hE=>Zz hE hM Xt fun b5 w a hM hE=>Ze (Zb (Xu (parts:=[]) (vs:=[]) (cs:=enc (Vector.replicate 256 (0 : UInt8))) hE Za ld rfl rfl Xt rfl ty5 YU fun a hE=>Zz hE hM Xt fun b7 w a hM hE=>Zn (seg:=enc (Vector.replicate 256 (0 : UInt8))) (cs':=enc (Vector.replicate 256 (0 : UInt8))) hE hM Za rfl rfl rfl Xt (Flat.len _) (zle flq) (Flat.cell _) (Zk flq) fun w a hM hE=>Ze (wp_seq (Zb (Zc hE rfl fun a hE=>Ze ?_))))))
 obtain ⟨j9,hl10,hF11⟩:=bind_some hF
 refine ZJ (fun a w=>Env 20 a [(4,(ptr b5 0)),(5,(ptr b7 0))] ∧ M (Old w0) w0 w [raw b7 (enc j9),raw b5 (enc (Vector.replicate 256 (0 : UInt8)))]) ?_ ?_
 ·skip
  refine wp_block ?_
  refine ZC (fun (s12 : (Vector UInt8 256) × Int) a w=>Env 20 a [(2,(ptr b1 0)),(3,(ptr b3 0)),(4,(ptr b5 0)),(5,(ptr b7 0)),(6,vI s12.2)] ∧ M (Old w0) w0 w [raw b7 (enc s12.1),raw b5 (enc (Vector.replicate 256 (0 : UInt8))),raw b3 (enc p1),raw b1 (enc p0)]) hl10 ⟨hE.sub ⟨rfl,rfl,rfl,rfl,rfl,trivial⟩,hM⟩ ?_
  rintro s12 a w ⟨hE,hM⟩ o15 hs13 hx14
  unfold Um at hs13
  refine wp_seq (Zb (Zd hE rfl fun a hE=>Zi hE rfl rfl rfl fun a hE=>Ze ?_))
  refine Zo hE rfl ?_ ?_
  ·intro hb16
   have hs13:=Zs hs13 hb16
   refine wp_skip (Zu (wp_seq (wp_block (wp_region_lit (Zd hE rfl fun a hE=>Zd hE rfl ?_))))); intro a hE
   obtain ⟨x18,hi17,hs13⟩:=bvx hs13
   refine ZD hE rfl rfl Tryz.underlying157 ty5 hi17.1 fun a hE=>Zw (v:=(vB x18)) hE rfl ty5 rfl (At.vec hM.rawAt3 hi17.2) ?_; intro a hE
   obtain ⟨x21,hi20,hs13⟩:=bvx hs13
   refine ZD hE rfl rfl Tryz.underlying157 ty5 hi20.1 fun a hE=>Zw (v:=(vB x21)) hE rfl ty5 rfl (At.vec hM.rawAt2 hi20.2) ?_; intro a hE
   obtain ⟨x24,hi23,hs13⟩:=bvx hs13
   refine ZD hE rfl rfl Tryz.underlying157 ty5 hi23.1 fun a hE=>Zn (seg:=[vB x21]) (cs':=enc (s12.1.setIfInBounds (s12.2).toNat x21)) hE hM Za rfl rfl rfl ty5 rfl (ZM (v:=s12.1) (x:=x21) hi23.1) (Flat.cell (x21 : UInt8)) (ZE (v:=s12.1) (x:=x21) hi23.1) fun w a hM hE=>Zf (Z4 (Zu (wp_region_lit (Zd hE rfl fun a hE=>Zi hE rfl rfl rfl fun a hE=>Zc hE rfl fun a hE=>Zf (Zh ?_)))))
   exact ⟨_,(ois hs13),hE.sub ⟨rfl,rfl,rfl,rfl,rfl,trivial⟩,hM⟩
  ·intro hb16
   have hs13:=Zt hs13 hb16
   refine wp_exit (Zl (Zl (Z5 ?_)))
   obtain rfl:=hx14 _ (ois hs13)
   refine Zh ?_
   have hM:=M.fst (l:=[_,_]) hM.pull1.pull1
   exact ⟨hE.sub ⟨rfl,rfl,trivial⟩,hM⟩
 ·skip
  rintro a w ⟨hE,hM⟩
  refine Zu (Zb (Zr hE rfl Xt rfl hM.rawAt0 (Flat.len _) ?_)); intro a hE
  have hM:=hM.pull1
  refine Zn (seg:=enc j9) (cs':=enc j9) hE hM Za rfl rfl rfl Xt (Flat.len _) (zle flq) (Flat.cell _) (Zk flq) fun w a hM hE=>Ze ?_
  obtain rfl:=Option.some.inj hF11
  have hq27 : Yt Tryz.prog _ _ (.cell 4 157) _:=ZQ hE rfl Xt rfl hM.rawAt0 (Flat.len _) rfl
  exact wp_ret (ZN hE rfl hq27 ⟨_,rfl,rfl,hM.kept⟩)
def Tu (p0 : Int) (s4 : UInt8 × Int × UInt8) : Option (Fl (UInt8 × Int × UInt8) UInt8) :=
 if (decide (s4.2.1 > 0)) = true then (((if ((Int.tmod s4.2.1 2) == 1) = true then ((YL p0 s4.2.2 s4.1).bind fun r16=>some r16) else (some s4.2.2) : Option (UInt8)).bind fun j12=>(YL p0 s4.1 s4.1).bind fun r20=>some (r20,j12) : Option (UInt8 × UInt8)).bind fun j9=>some (Fl.nx (j9.1,wr (Int.tdiv s4.2.1 2),j9.2))) else (some (Fl.ex s4.2.2))
def W7 (p0 : Int) (p1 : UInt8) (p2 : Int) : Option (UInt8) :=
 (ZB (Tu p0) (p1,p2,1)).bind fun j1=>some j1
theorem BY (w0 : World) (p0 : Int) (p1 : UInt8) (p2 : Int) (r : UInt8) (hF : W7 p0 p1 p2 = some r) :
  Calls Tryz.prog 210 [vI p0,vB p1,vI p2].toArray w0 (Rt w0 (vB r)):=by
 refine ce Tryz.func210 ?_
 intro a hE
 have hM:=M.start w0
 unfold W7 at hF
 refine Zb (Zc hE rfl fun a hE=>Ze (Zb (Zc hE rfl fun a hE=>Ze ?_)))
 obtain ⟨j1,hl2,hF3⟩:=bind_some hF
 refine ZI (fun a w=>Env 24 a [(7,vB j1)] ∧ M (Old w0) w0 w []) ?_ ?_
 ·skip
  refine wp_block ?_
  refine ZC (fun (s4 : UInt8 × Int × UInt8) a w=>Env 24 a [(0,vI p0),(1,vB s4.1),(2,vI s4.2.1),(7,vB s4.2.2)] ∧ M (Old w0) w0 w []) hl2 ⟨hE.sub ⟨rfl,rfl,rfl,rfl,trivial⟩,hM⟩ ?_
  rintro s4 a w ⟨hE,hM⟩ o7 hs5 hx6
  unfold Tu at hs5
  refine wp_seq (Zb (Zd hE rfl fun a hE=>Zi hE rfl rfl rfl fun a hE=>Ze ?_))
  refine Zo hE rfl ?_ ?_
  ·intro hb8
   have hs5:=Zs hs5 hb8
   refine wp_skip (Zu ?_)
   obtain ⟨j9,hl10,hF11⟩:=bind_some hs5
   refine ZI (fun a w=>Env 24 a [(0,vI p0),(1,vB j9.1),(2,vI s4.2.1),(7,vB j9.2)] ∧ M (Old w0) w0 w []) ?_ ?_
   ·skip
    refine wp_block ?_
    obtain ⟨j12,hl13,hF14⟩:=bind_some hl10
    refine ZI (fun a w=>Env 24 a [(0,vI p0),(1,vB s4.1),(2,vI s4.2.1),(7,vB j12)] ∧ M (Old w0) w0 w []) ?_ ?_
    ·skip
     refine Zb (Zd hE rfl fun a hE=>Zi hE rfl rfl (Kf _ _ (by decide)) fun a hE=>Zi hE rfl rfl rfl fun a hE=>Ze ?_)
     refine Zo hE rfl ?_ ?_
     ·intro hb15
      have hl13:=Zs hl13 hb15
      refine wp_region_lit (Zd hE rfl fun a hE=>Zd hE rfl fun a hE=>Zd hE rfl ?_); intro a hE
      obtain ⟨r16,e17,hl13⟩:=bind_some hl13
      refine Zx hE rfl jm (Ux _ p0 s4.2.2 s4.1 r16 e17) ?_
      rintro v w a ⟨rfl,hK⟩ hE
      have hM:=hM.keep hK
      refine Zc hE rfl fun a hE=>Zf ?_
      obtain rfl:=Option.some.inj hl13
      refine Zh ?_
      exact ⟨hE.sub ⟨rfl,rfl,rfl,rfl,trivial⟩,hM⟩
     ·intro hb15
      have hl13:=Zt hl13 hb15
      refine wp_skip ?_
      obtain rfl:=Option.some.inj hl13
      refine Zh ?_
      exact ⟨hE.sub ⟨rfl,rfl,rfl,rfl,trivial⟩,hM⟩
    ·skip
     rintro a w ⟨hE,hM⟩
     refine wp_region_lit (Zd hE rfl fun a hE=>Zd hE rfl fun a hE=>Zd hE rfl ?_); intro a hE
     obtain ⟨r20,e21,hF14⟩:=bind_some hF14
     refine Zx hE rfl jm (Ux _ p0 s4.1 s4.1 r20 e21) ?_
     rintro v w a ⟨rfl,hK⟩ hE
     have hM:=hM.keep hK
     refine Zc hE rfl fun a hE=>Zf (Z4 ?_)
     obtain rfl:=Option.some.inj hF14
     refine Zh ?_
     exact ⟨hE.sub ⟨rfl,rfl,rfl,rfl,trivial⟩,hM⟩
   ·skip
    rintro a w ⟨hE,hM⟩
    refine wp_region_lit (Zd hE rfl fun a hE=>Zi hE rfl rfl (yF _ _ (by decide)) fun a hE=>Zc hE rfl fun a hE=>Zf (Zh ?_))
    exact ⟨_,(ois hF11),hE.sub ⟨rfl,rfl,rfl,rfl,trivial⟩,hM⟩
  ·intro hb8
   have hs5:=Zt hs5 hb8
   refine wp_exit (Zl (Zl (Z5 ?_)))
   obtain rfl:=hx6 _ (ois hs5)
   refine Zh ?_
   exact ⟨hE.sub ⟨rfl,trivial⟩,hM⟩
 ·skip
  rintro a w ⟨hE,hM⟩
  refine Zb (Zd hE rfl fun a hE=>Zc hE rfl fun a hE=>Ze ?_)
  obtain rfl:=Option.some.inj hF3
  exact wp_ret (kr1 hE rfl rfl hM.kept)
def Vx (p0 : Int) (p1 : UInt8) : Option (UInt8) :=
 (W7 p0 p1 254).bind fun r1=>some r1
theorem zI (w0 : World) (p0 : Int) (p1 : UInt8) (r : UInt8) (hF : Vx p0 p1 = some r) :
  Calls Tryz.prog 178 [vI p0,vB p1].toArray w0 (Rt w0 (vB r)):=by
 refine ce Tryz.func178 ?_
 intro a hE
 have hM:=M.start w0
 unfold Vx at hF
 refine Zb (Zc hE rfl fun a hE=>Ze (Zb (Zd hE rfl fun a hE=>Zd hE rfl ?_))); intro a hE
 obtain ⟨r1,e2,hF⟩:=bind_some hF
 refine Zx hE rfl (cbm Tryz.func210) (BY _ p0 p1 254 r1 e2) ?_
 rintro v w a ⟨rfl,hK⟩ hE
 have hM:=hM.keep hK
 refine Zc hE rfl fun a hE=>Ze ?_
 obtain rfl:=Option.some.inj hF
 exact wp_ret (kr1 hE rfl rfl hM.kept)
def Tn (s16 : (Vector (Vector UInt8 4) 4) × Int) (s24 : (Vector (Vector UInt8 4) 4) × Int) : Option (Fl ((Vector (Vector UInt8 4) 4) × Int) (Vector (Vector UInt8 4) 4)) :=
 if (decide (s24.2 < 4)) = true then ((Vx 285 (Zv (Bn s16.2 (wr (4 + s24.2))))).bind fun r30=>(ZH s24.1 s16.2).bind fun x33=>(ZH x33 s24.2).bind fun x36=>some (Fl.nx ((s24.1.setIfInBounds (s16.2).toNat (x33.setIfInBounds (s24.2).toNat r30)),wr (s24.2 + 1)))) else (some (Fl.ex s24.1))
def Tm (s16 : (Vector (Vector UInt8 4) 4) × Int) : Option (Fl ((Vector (Vector UInt8 4) 4) × Int) (Vector (Vector UInt8 4) 4)) :=
 if (decide (s16.2 < 4)) = true then ((ZB (Tn s16) (s16.1,0)).bind fun j21=>some (Fl.nx (j21,wr (s16.2 + 1)))) else (some (Fl.ex s16.1))
def Tq (s43 : (Vector UInt8 16) × Int) : Option (Fl ((Vector UInt8 16) × Int) (Vector UInt8 16)) :=
 if (decide (s43.2 < 16)) = true then ((ZH s43.1 s43.2).bind fun x49=>some (Fl.nx ((s43.1.setIfInBounds (s43.2).toNat (Zv (Int.tmod (wr ((wr (13 * s43.2)) + 4)) 16))),wr (s43.2 + 1)))) else (some (Fl.ex s43.1))
def Uw (p0 : Int) : Option (GCipher) :=
 (Uy 285 254).bind fun r5=>(Wh ([0,1,4] : List Int) 90).bind fun r9=>(Tc r5 r9).bind fun r11=>(ZB (Tm) ((Vector.replicate 4 (Vector.replicate 4 (0 : UInt8))),0)).bind fun j13=>(ZB (Tq) ((Vector.replicate 16 (0 : UInt8)),0)).bind fun j40=>some (⟨285,r11,j13,j40,p0⟩ : GCipher)
theorem BV (w0 : World) (p0 : Int) (r : GCipher) (hF : Uw p0 = some r) :
  Calls Tryz.prog 125 [vI p0].toArray w0 (Rt w0 (Value.agg (enc r).toArray)):=by
 refine ce Tryz.func125 ?_
 intro a hE
 have hM:=M.start w0
 unfold Uw at hF
 refine Zb (Zz hE hM VA fun b1 w a hM hE=>Ze (Zb (Zd hE rfl fun a hE=>J7 (parts:=[(0,.const (vI 285)),(4,.tmp 7)]) (vs:=[(0,vI 285),(4,vI p0)]) (cs:=cat [[vI 285],enc (Vector.replicate 256 (0 : UInt8)),enc (Vector.replicate 4 (Vector.replicate 4 (0 : UInt8))),enc (Vector.replicate 16 (0 : UInt8)),[vI p0]]) hE Za ld rfl rfl VA pl163 (VP (pre:=[]) (seg:=[vI 0]) (seg':=[vI 285]) (post:=[enc (Vector.replicate 256 (0 : UInt8)),enc (Vector.replicate 4 (Vector.replicate 4 (0 : UInt8))),enc (Vector.replicate 16 (0 : UInt8)),[vI 0]]) rfl cl0 rfl rfl rfl (VP (pre:=[[vI 285],enc (Vector.replicate 256 (0 : UInt8)),enc (Vector.replicate 4 (Vector.replicate 4 (0 : UInt8))),enc (Vector.replicate 16 (0 : UInt8))]) (seg:=[vI 0]) (seg':=[vI p0]) (post:=[]) rfl ck rfl rfl rfl A8)) fun a hE=>Zz hE hM VA fun b3 w a hM hE=>Zn (seg:=cat [[vI 285],enc (Vector.replicate 256 (0 : UInt8)),enc (Vector.replicate 4 (Vector.replicate 4 (0 : UInt8))),enc (Vector.replicate 16 (0 : UInt8)),[vI p0]]) (cs':=cat [[vI 285],enc (Vector.replicate 256 (0 : UInt8)),enc (Vector.replicate 4 (Vector.replicate 4 (0 : UInt8))),enc (Vector.replicate 16 (0 : UInt8)),[vI p0]]) hE hM Za rfl rfl rfl VA cq (Nat.le_of_eq ((Nat.zero_add _).trans (Eq.trans cq (Eq.symm cq)))) (Xv (cc1 (Flat.cell (285 : Int)) (cc1 (Flat.cell _) (cc1 (Flat.cell _) (cc1 (Flat.cell _) (cc1 (Flat.cell (p0 : Int)) cc0)))))) (Zk (Eq.trans cq (Eq.symm cq))) fun w a hM hE=>Ze (Zb ?_))))
 obtain ⟨r5,e6,hF⟩:=bind_some hF
 refine Zx hE rfl (cbm Tryz.func176) (BK _ 285 254 r5 e6) ?_
 rintro v w a ⟨rfl,hK⟩ hE
 have hM:=hM.keep hK
 refine ZP (xs:=[.const (vI 0),.const (vI 1),.const (vI 4)]) (l:=([0,1,4] : List Int)) (vs:=[vI 0,vI 1,vI 4]) hE hM Za ld rfl rfl Tryz.underlying24 ty2 rfl (by decide) rfl ?_; intro u7 w a hM hE
 obtain ⟨r9,e10,hF⟩:=bind_some hF
 refine Zx hE rfl (cbm Tryz.func177) (Jw _ ([0,1,4] : List Int) u7 (hM.sl (pre:=[]) noB) 90 r9 e10) ?_
 rintro v w a ⟨rfl,hK⟩ hE
 have hM:=hM.keep hK
 obtain ⟨r11,e12,hF⟩:=bind_some hF
 refine Zx hE rfl (cbm Tryz.func175) (AM _ r5 r9 r11 e12) ?_
 rintro v w a ⟨rfl,hK⟩ hE
 have hM:=hM.keep hK
 refine Zg hE rfl (Jr) ?_; intro a hE
 have hM:=hM.pull1
 refine Zn (seg:=enc r11) hE hM Za rfl rfl rfl Xt (Flat.len _) (VG (pre:=[[vI 285]]) ck flq) (Flat.cell _) (Yn (pre:=[[vI 285]]) ck flq) fun w a hM hE=>Ze (wp_seq (Zb (Zc hE rfl fun a hE=>Ze ?_)))
 obtain ⟨j13,hl14,hF15⟩:=bind_some hF
 refine ZJ (fun a w=>Env 46 a [(2,(ptr b1 0)),(3,(ptr b3 0))] ∧ M (Old w0) w0 w [raw b3 (cat [[vI 285],enc r11,enc j13,enc (Vector.replicate 16 (0 : UInt8)),[vI p0]]),raw b1 (cat [[vI 0],enc (Vector.replicate 256 (0 : UInt8)),enc (Vector.replicate 4 (Vector.replicate 4 (0 : UInt8))),enc (Vector.replicate 16 (0 : UInt8)),[vI 0]])]) ?_ ?_
 ·skip
  refine wp_block ?_
  have hM:=M.fst (l:=[_,_]) hM.pull2.pull1
  refine ZC (fun (s16 : (Vector (Vector UInt8 4) 4) × Int) a w=>Env 46 a [(2,(ptr b1 0)),(3,(ptr b3 0)),(4,vI s16.2)] ∧ M (Old w0) w0 w [raw b3 (cat [[vI 285],enc r11,enc s16.1,enc (Vector.replicate 16 (0 : UInt8)),[vI p0]]),raw b1 (cat [[vI 0],enc (Vector.replicate 256 (0 : UInt8)),enc (Vector.replicate 4 (Vector.replicate 4 (0 : UInt8))),enc (Vector.replicate 16 (0 : UInt8)),[vI 0]])]) hl14 ⟨hE.sub ⟨rfl,rfl,rfl,trivial⟩,hM⟩ ?_
  rintro s16 a w ⟨hE,hM⟩ o19 hs17 hx18
  unfold Tm at hs17
  refine wp_seq (Zb (Zd hE rfl fun a hE=>Zi hE rfl rfl rfl fun a hE=>Ze ?_))
  refine Zo hE rfl ?_ ?_
  ·intro hb20
   have hs17:=Zs hs17 hb20
   refine wp_skip (Zu (wp_seq (wp_block (Zb (Zc hE rfl fun a hE=>Ze ?_)))))
   obtain ⟨j21,hl22,hF23⟩:=bind_some hs17
   refine ZJ (fun a w=>Env 46 a [(2,(ptr b1 0)),(3,(ptr b3 0)),(4,vI s16.2)] ∧ M (Old w0) w0 w [raw b3 (cat [[vI 285],enc r11,enc j21,enc (Vector.replicate 16 (0 : UInt8)),[vI p0]]),raw b1 (cat [[vI 0],enc (Vector.replicate 256 (0 : UInt8)),enc (Vector.replicate 4 (Vector.replicate 4 (0 : UInt8))),enc (Vector.replicate 16 (0 : UInt8)),[vI 0]])]) ?_ ?_
   ·skip
    refine wp_block ?_
    refine ZC (fun (s24 : (Vector (Vector UInt8 4) 4) × Int) a w=>Env 46 a [(2,(ptr b1 0)),(3,(ptr b3 0)),(4,vI s16.2),(5,vI s24.2)] ∧ M (Old w0) w0 w [raw b3 (cat [[vI 285],enc r11,enc s24.1,enc (Vector.replicate 16 (0 : UInt8)),[vI p0]]),raw b1 (cat [[vI 0],enc (Vector.replicate 256 (0 : UInt8)),enc (Vector.replicate 4 (Vector.replicate 4 (0 : UInt8))),enc (Vector.replicate 16 (0 : UInt8)),[vI 0]])]) hl22 ⟨hE.sub ⟨rfl,rfl,rfl,rfl,trivial⟩,hM⟩ ?_
    rintro s24 a w ⟨hE,hM⟩ o27 hs25 hx26
    unfold Tn at hs25
    refine wp_seq (Zb (Zd hE rfl fun a hE=>Zi hE rfl rfl rfl fun a hE=>Ze ?_))
    refine Zo hE rfl ?_ ?_
    ·intro hb28
     have hs25:=Zs hs25 hb28
     refine wp_skip (Zu (wp_seq (wp_block ?_)))
     obtain ⟨r30,e31,hs25⟩:=bind_some hs25
     obtain ⟨x33,hi32,hs25⟩:=bvx hs25
     obtain ⟨x36,hi35,hs25⟩:=bvx hs25
     refine ZX [22,23,24,25,26,27,28,29,30,31,32] Yy rfl rfl (by decide) rfl hE hM (qsP (fun z=>Zp z.E Za ld rfl (kr0 rfl)) (qsP (fun z=>Zp z.E Za ld rfl (kr0 rfl)) (qsP (fun z=>Zp z.E Za ld rfl (kr0 rfl)) (qsP (fun z=>Zp z.E Za ld rfl (kr0 rfl)) (qsP (v:=(vI (wr (4 + s24.2)))) (fun z=>Ye z.E Za ld rfl rfl rfl (kr0 rfl)) (qsP (v:=(vI (Bn s16.2 (wr (4 + s24.2))))) (fun z=>Ye z.E Za ld rfl rfl rfl (kr0 rfl)) (qsP (fun z=>Yj z.E Za ld rfl Tryz.underlying3 Tryz.underlying5 (kr0 rfl)) (qsP (fun z=>ZV z.E Za ld rfl (cbm Tryz.func178) (zI _ 285 (Zv (Bn s16.2 (wr (4 + s24.2)))) r30 e31) (kc rfl)) (qsP (fun z=>Zq z.E Za ld rfl (Hg) (kr0 rfl)) (qsP (fun z=>ZG z.E Za ld rfl rfl Tryz.underlying160 Xp hi32.1 (kr0 rfl)) (qsP (fun z=>ZG z.E Za ld rfl rfl Tryz.underlying158 ty5 hi35.1 (kr0 rfl)) qs0))))))))))) ?_
     ·intro a w u hE hM
      refine Zn (seg:=[vB r30]) (cs':=cat [[vI 285],enc r11,enc (s24.1.setIfInBounds (s16.2).toNat (x33.setIfInBounds (s24.2).toNat r30)),enc (Vector.replicate 16 (0 : UInt8)),[vI p0]]) hE hM Za rfl rfl rfl ty5 rfl (K0 (o':=(s16.2).toNat * 4 + (0 + (s24.2).toNat * 1)) (pre:=[[vI 285],enc r11]) (seg:=enc s24.1) (post:=[enc (Vector.replicate 16 (0 : UInt8)),[vI p0]]) ck (Ur (o':=0 + (s24.2).toNat * 1) hi32 (ZM (v:=x33) (x:=r30) hi35.1) (by first | omega | (simp only [Flat.n] <;> omega))) (by first | omega | (simp only [Flat.n] <;> omega))) (Flat.cell (r30 : UInt8)) (Uc (o':=(s16.2).toNat * 4 + (0 + (s24.2).toNat * 1)) (pre:=[[vI 285],enc r11]) (seg:=enc s24.1) (post:=[enc (Vector.replicate 16 (0 : UInt8)),[vI p0]]) ck (Ur (o':=0 + (s24.2).toNat * 1) hi32 (ZM (v:=x33) (x:=r30) hi35.1) (by first | omega | (simp only [Flat.n] <;> omega))) (Vo (o':=0 + (s24.2).toNat * 1) hi32 (ZM (v:=x33) (x:=r30) hi35.1) (ZE (v:=x33) (x:=r30) hi35.1) (by first | omega | (simp only [Flat.n] <;> omega))) (by first | omega | (simp only [Flat.n] <;> omega))) fun w a hM hE=>Zf (Z4 (Zu (wp_region_lit (Zd hE rfl fun a hE=>Zi hE rfl rfl rfl fun a hE=>Zc hE rfl fun a hE=>Zf (Zh ?_)))))
      exact ⟨_,(ois hs25),hE.sub ⟨rfl,rfl,rfl,rfl,trivial⟩,hM⟩
    ·intro hb28
     have hs25:=Zt hs25 hb28
     refine wp_exit (Zl (Zl (Z5 ?_)))
     obtain rfl:=hx26 _ (ois hs25)
     refine Zh ?_
     exact ⟨hE.sub ⟨rfl,rfl,rfl,trivial⟩,hM⟩
   ·skip
    rintro a w ⟨hE,hM⟩
    refine Z4 (Zu (wp_region_lit (Zd hE rfl fun a hE=>Zi hE rfl rfl rfl fun a hE=>Zc hE rfl fun a hE=>Zf (Zh ?_))))
    exact ⟨_,(ois hF23),hE.sub ⟨rfl,rfl,rfl,trivial⟩,hM⟩
  ·intro hb20
   have hs17:=Zt hs17 hb20
   refine wp_exit (Zl (Zl (Z5 ?_)))
   obtain rfl:=hx18 _ (ois hs17)
   refine Zh ?_
   exact ⟨hE.sub ⟨rfl,rfl,trivial⟩,hM⟩
 ·skip
  rintro a w ⟨hE,hM⟩
  refine Zu (wp_seq (Zb (Zc hE rfl fun a hE=>Ze ?_)))
  obtain ⟨j40,hl41,hF42⟩:=bind_some hF15
  refine ZJ (fun a w=>Env 46 a [(2,(ptr b1 0)),(3,(ptr b3 0))] ∧ M (Old w0) w0 w [raw b3 (cat [[vI 285],enc r11,enc j13,enc j40,[vI p0]]),raw b1 (cat [[vI 0],enc (Vector.replicate 256 (0 : UInt8)),enc (Vector.replicate 4 (Vector.replicate 4 (0 : UInt8))),enc (Vector.replicate 16 (0 : UInt8)),[vI 0]])]) ?_ ?_
  ·skip
   refine wp_block ?_
   refine ZC (fun (s43 : (Vector UInt8 16) × Int) a w=>Env 46 a [(2,(ptr b1 0)),(3,(ptr b3 0)),(6,vI s43.2)] ∧ M (Old w0) w0 w [raw b3 (cat [[vI 285],enc r11,enc j13,enc s43.1,[vI p0]]),raw b1 (cat [[vI 0],enc (Vector.replicate 256 (0 : UInt8)),enc (Vector.replicate 4 (Vector.replicate 4 (0 : UInt8))),enc (Vector.replicate 16 (0 : UInt8)),[vI 0]])]) hl41 ⟨hE.sub ⟨rfl,rfl,rfl,trivial⟩,hM⟩ ?_
   rintro s43 a w ⟨hE,hM⟩ o46 hs44 hx45
   unfold Tq at hs44
   refine wp_seq (Zb (Zd hE rfl fun a hE=>Zi hE rfl rfl rfl fun a hE=>Ze ?_))
   refine Zo hE rfl ?_ ?_
   ·intro hb47
    have hs44:=Zs hs44 hb47
    refine wp_skip (Zu (wp_seq (wp_block (wp_region_lit (Zd hE rfl fun a hE=>Zd hE rfl fun a hE=>Zi hE rfl rfl rfl fun a hE=>Zi hE rfl rfl rfl fun a hE=>Zi hE rfl rfl (Kf _ _ (by decide)) fun a hE=>Yj hE Za ld rfl Tryz.underlying3 Tryz.underlying5 fun a hE=>Zg hE rfl (Hl) ?_))))); intro a hE
    obtain ⟨x49,hi48,hs44⟩:=bvx hs44
    refine ZD hE rfl rfl Tryz.underlying161 ty5 hi48.1 fun a hE=>Zn (seg:=[(vB (Zv (Int.tmod (wr ((wr (13 * s43.2)) + 4)) 16)))]) (cs':=cat [[vI 285],enc r11,enc j13,enc (s43.1.setIfInBounds (s43.2).toNat (Zv (Int.tmod (wr ((wr (13 * s43.2)) + 4)) 16))),[vI p0]]) hE hM Za rfl rfl rfl ty5 rfl (K0 (o':=0 + (s43.2).toNat * 1) (pre:=[[vI 285],enc r11,enc j13]) (seg:=enc s43.1) (post:=[[vI p0]]) ck (ZM (v:=s43.1) (x:=Zv (Int.tmod (wr ((wr (13 * s43.2)) + 4)) 16)) hi48.1) (by first | omega | (simp only [Flat.n] <;> omega))) (Flat.cell (Zv (Int.tmod (wr ((wr (13 * s43.2)) + 4)) 16) : UInt8)) (Uc (o':=0 + (s43.2).toNat * 1) (pre:=[[vI 285],enc r11,enc j13]) (seg:=enc s43.1) (post:=[[vI p0]]) ck (ZM (v:=s43.1) (x:=Zv (Int.tmod (wr ((wr (13 * s43.2)) + 4)) 16)) hi48.1) (ZE (v:=s43.1) (x:=Zv (Int.tmod (wr ((wr (13 * s43.2)) + 4)) 16)) hi48.1) (by first | omega | (simp only [Flat.n] <;> omega))) fun w a hM hE=>Zf (Z4 (Zu (wp_region_lit (Zd hE rfl fun a hE=>Zi hE rfl rfl rfl fun a hE=>Zc hE rfl fun a hE=>Zf (Zh ?_)))))
    exact ⟨_,(ois hs44),hE.sub ⟨rfl,rfl,rfl,trivial⟩,hM⟩
   ·intro hb47
    have hs44:=Zt hs44 hb47
    refine wp_exit (Zl (Zl (Z5 ?_)))
    obtain rfl:=hx45 _ (ois hs44)
    refine Zh ?_
    exact ⟨hE.sub ⟨rfl,rfl,trivial⟩,hM⟩
  ·skip
   rintro a w ⟨hE,hM⟩
   refine Zu (Zb (Zr hE rfl VA rfl hM.rawAt0 cq ?_)); intro a hE
   have hM:=hM.pull1
   refine Zn (seg:=cat [[(vI ((⟨285,r11,j13,j40,p0⟩ : GCipher).Field))],enc ((⟨285,r11,j13,j40,p0⟩ : GCipher).Box),enc ((⟨285,r11,j13,j40,p0⟩ : GCipher).Mix),enc ((⟨285,r11,j13,j40,p0⟩ : GCipher).Places),[(vI ((⟨285,r11,j13,j40,p0⟩ : GCipher).Rounds))]]) (cs':=cat [[(vI ((⟨285,r11,j13,j40,p0⟩ : GCipher).Field))],enc ((⟨285,r11,j13,j40,p0⟩ : GCipher).Box),enc ((⟨285,r11,j13,j40,p0⟩ : GCipher).Mix),enc ((⟨285,r11,j13,j40,p0⟩ : GCipher).Places),[(vI ((⟨285,r11,j13,j40,p0⟩ : GCipher).Rounds))]]) hE hM Za rfl rfl rfl VA cq (Nat.le_of_eq ((Nat.zero_add _).trans (Eq.trans cq (Eq.symm cq)))) (Xv (cc1 (Flat.cell ((⟨285,r11,j13,j40,p0⟩ : GCipher).Field : Int)) (cc1 (Flat.cell _) (cc1 (Flat.cell _) (cc1 (Flat.cell _) (cc1 (Flat.cell ((⟨285,r11,j13,j40,p0⟩ : GCipher).Rounds : Int)) cc0)))))) (Zk (Eq.trans cq (Eq.symm cq))) fun w a hM hE=>Ze ?_
   obtain rfl:=Option.some.inj hF42
   have hq52 : Yt Tryz.prog _ _ (.cell 2 163) _:=ZQ hE rfl VA rfl hM.rawAt0 cq rfl
   exact wp_ret (ZN hE rfl hq52 ⟨_,rfl,rfl,hM.kept⟩)
def Xz : Option (GCipher) :=
 (Uw 4).bind fun r3=>some r3
theorem Qm (w0 : World)  (r : GCipher) (hF : Xz  = some r) :
  Calls Tryz.prog 154 [].toArray w0 (Rt w0 (Value.agg (enc r).toArray)):=by
 refine ce Tryz.func154 ?_
 intro a hE
 have hM:=M.start w0
 unfold Xz at hF
 refine Zb (Zz hE hM VA fun b1 w a hM hE=>Ze (Zb ?_))
 obtain ⟨r3,e4,hF⟩:=bind_some hF
 refine Zx hE rfl (cbm Tryz.func125) (BV _ 4 r3 e4) ?_
 rintro v w a ⟨rfl,hK⟩ hE
 have hM:=hM.keep hK
 refine Zn (seg:=cat [[vI r3.Field],enc r3.Box,enc r3.Mix,enc r3.Places,[vI r3.Rounds]]) (cs':=cat [[vI r3.Field],enc r3.Box,enc r3.Mix,enc r3.Places,[vI r3.Rounds]]) hE hM Za rfl rfl rfl VA cq (Nat.le_of_eq ((Nat.zero_add _).trans (Eq.trans cq (Eq.symm cq)))) (Xv (cc1 (Flat.cell (r3.Field : Int)) (cc1 (Flat.cell _) (cc1 (Flat.cell _) (cc1 (Flat.cell _) (cc1 (Flat.cell (r3.Rounds : Int)) cc0)))))) (Zk (Eq.trans cq (Eq.symm cq))) fun w a hM hE=>Ze ?_
 obtain rfl:=Option.some.inj hF
 have hq5 : Yt Tryz.prog _ _ (.cell 0 163) _:=ZQ hE rfl VA rfl hM.rawAt0 cq rfl
 exact wp_ret (ZN hE rfl hq5 ⟨_,rfl,rfl,hM.kept⟩)
def Ta (p0 : (List UInt8)) : Option ((List UInt8)) :=
 (app 1 ([] : List UInt8) p0).bind fun l3=>some (([] : List UInt8) ++ p0)
theorem AH (w0 : World) (p0 : (List UInt8)) (v0_1 : Value) (hv0_1 : Ro w0 p0 [v0_1]) (r : (List UInt8)) (hF : Ta p0 = some r) :
  Calls Tryz.prog 65 [v0_1].toArray w0 (fun en w'=>∃ v,en = .returned v ∧ (∃ (y1 : Value),v = y1 ∧ Fr w0 w' [osl NoB (r : List UInt8) y1] ∧ Kept (Old w0) w0 w')):=by
 refine ce Tryz.func65 ?_
 intro a hE
 have hM:=M.start w0
 unfold Ta at hF
 refine Zb (Zc hE rfl fun a hE=>Ze (Zb (ZP (xs:=[]) (l:=([] : List UInt8)) (vs:=[]) hE hM Za ld rfl rfl Tryz.underlying40 ty5 rfl (by decide) rfl fun u1 w a hM hE=>Zd hE rfl ?_))); intro a hE
 obtain ⟨l3,e4,hF⟩:=bind_some hF
 have e7:=(ZS e4).1
 refine Z0 hE hM Za ld rfl rfl (hM.rd hv0_1) Tryz.underlying40 ty5 rfl (by decide) e7 fun u5 w a hM hE=>Zc hE rfl fun a hE=>Ze ?_
 obtain rfl:=Option.some.inj hF
 exact wp_ret (ZN hE rfl (ZY hE rfl) ⟨_,rfl,u5,rfl,hM.outF (Wm XZ),hM.kept⟩)
def T7 (s16 : (List UInt8)) : Option (Fl (List UInt8) (List UInt8)) :=
 if ((Int.tmod (s16.length : Int) 16) != 8) = true then ((app 1 s16 ([0] : List UInt8)).bind fun l25=>some (Fl.nx (s16 ++ ([0] : List UInt8)))) else (some (Fl.ex s16))
def VU (p0 : (List UInt8)) (s36 : (List UInt8) × Int) : Option (Fl ((List UInt8) × Int) (List UInt8)) :=
 if (decide (s36.2 ≥ 0)) = true then ((XP (IntKind.u64.wrap (wr (8 * s36.2)))).bind fun _=>(app 1 s36.1 ([Zv (QM (TB (p0.length : Int) (IntKind.u64.wrap (wr (8 * s36.2)))) 255)] : List UInt8)).bind fun l46=>some (Fl.nx ((s36.1 ++ ([Zv (QM (TB (p0.length : Int) (IntKind.u64.wrap (wr (8 * s36.2)))) 255)] : List UInt8)),wr (s36.2 - 1)))) else (some (Fl.ex s36.1))
def TF (p0 : (List UInt8)) : Option ((List UInt8)) :=
 (Ta p0).bind fun r1=>(app 1 r1 ([128] : List UInt8)).bind fun l6=>(ZB (T7) (r1 ++ ([128] : List UInt8))).bind fun j11=>(ZB (VU p0) (j11,7)).bind fun j31=>some j31
theorem zy (w0 : World) (p0 : (List UInt8)) (v0_1 : Value) (hv0_1 : Ro w0 p0 [v0_1]) (r : (List UInt8)) (hF : TF p0 = some r) :
  Calls Tryz.prog 172 [v0_1].toArray w0 (fun en w'=>∃ v,en = .returned v ∧ (∃ (y1 : Value),v = y1 ∧ Fr w0 w' [osl NoB (r : List UInt8) y1] ∧ Kept (Old w0) w0 w')):=by
 refine ce Tryz.func172 ?_
 intro a hE
 have hM:=M.start w0
 unfold TF at hF
 refine Zb (Zc hE rfl fun a hE=>Ze (Zb (Zd hE rfl ?_))); intro a hE
 obtain ⟨r1,e2,hF⟩:=bind_some hF
 refine Zx hE rfl (cbm Tryz.func65) (AH _ p0 v0_1 (hM.rdo hv0_1) r1 e2) ?_
 rintro u3 w a ⟨_,rfl,hFr,hK⟩ hE
 have hM:=hM.add hK hFr
 refine ZP (xs:=[.const (vB 128)]) (l:=([128] : List UInt8)) (vs:=[vB 128]) hE hM Za ld rfl rfl Tryz.underlying40 ty5 rfl (by decide) rfl ?_; intro u4 w a hM hE
 obtain ⟨l6,e7,hF⟩:=bind_some hF
 obtain ⟨e10,rfl⟩:=ZS e7
 have hM:=hM.pull1
 refine Z0 hE hM Za ld rfl rfl (hM.sl (pre:=[_]) noB) Tryz.underlying40 ty5 rfl (by decide) e10 fun u8 w a hM hE=>Zc hE rfl fun a hE=>Ze ?_
 obtain ⟨j11,hl12,hF13⟩:=bind_some hF
 refine ZI (fun a w=>∃ (u14 : Value),Env 32 a [(0,v0_1),(3,u14)] ∧ M (Old w0) w0 w [osl NoB (j11 : List UInt8) u14]) ?_ ?_
 ·skip
  refine wp_block ?_
  have hM:=M.fst (l:=[_]) hM
  refine ZC (fun (s16 : (List UInt8)) a w=>∃ (u17 : Value),Env 32 a [(0,v0_1),(3,u17)] ∧ M (Old w0) w0 w [osl NoB (s16 : List UInt8) u17]) hl12 ⟨u8,hE.sub ⟨rfl,rfl,trivial⟩,hM⟩ ?_
  rintro s16 a w ⟨u17,hE,hM⟩ o21 hs19 hx20
  unfold T7 at hs19
  refine wp_seq (Zb (Zd hE rfl fun a hE=>Z2 hE rfl Tryz.underlying40 (hM.sl (pre:=[]) noB) fun a hE=>Zi hE rfl rfl (Kf _ _ (by decide)) fun a hE=>Zi hE rfl rfl rfl fun a hE=>Ze ?_))
  refine Zo hE rfl ?_ ?_
  ·intro hb22
   have hs19:=Zs hs19 hb22
   refine wp_skip (Zu (wp_block (wp_region_lit (Zd hE rfl fun a hE=>ZP (xs:=[.const (vB 0)]) (l:=([0] : List UInt8)) (vs:=[vB 0]) hE hM Za ld rfl rfl Tryz.underlying40 ty5 rfl (by decide) rfl ?_)))); intro u23 w a hM hE
   obtain ⟨l25,e26,hs19⟩:=bind_some hs19
   obtain ⟨e29,rfl⟩:=ZS e26
   have hM:=hM.pull1
   refine Z0 hE hM Za ld rfl rfl (hM.sl (pre:=[_]) noB) Tryz.underlying40 ty5 rfl (by decide) e29 fun u27 w a hM hE=>Zc hE rfl fun a hE=>Zf (Z4 (Zh ?_))
   have hM:=M.fst (l:=[_]) hM
   exact ⟨_,(ois hs19),u27,hE.sub ⟨rfl,rfl,trivial⟩,hM⟩
  ·intro hb22
   have hs19:=Zt hs19 hb22
   refine wp_exit (Zl (Zl (Z5 ?_)))
   obtain rfl:=hx20 _ (ois hs19)
   refine Zh ?_
   exact ⟨u17,hE.sub ⟨rfl,rfl,trivial⟩,hM⟩
 ·skip
  rintro a w ⟨u14,hE,hM⟩
  refine wp_seq (Zb (Zc hE rfl fun a hE=>Ze ?_))
  obtain ⟨j31,hl32,hF33⟩:=bind_some hF13
  refine ZJ (fun a w=>∃ (u34 : Value),Env 32 a [(3,u34)] ∧ M (Old w0) w0 w [osl NoB (j31 : List UInt8) u34]) ?_ ?_
  ·skip
   refine wp_block ?_
   refine ZC (fun (s36 : (List UInt8) × Int) a w=>∃ (u37 : Value),Env 32 a [(0,v0_1),(3,u37),(4,vI s36.2)] ∧ M (Old w0) w0 w [osl NoB (s36.1 : List UInt8) u37]) hl32 ⟨u14,hE.sub ⟨rfl,rfl,rfl,trivial⟩,hM⟩ ?_
   rintro s36 a w ⟨u37,hE,hM⟩ o41 hs39 hx40
   unfold VU at hs39
   refine wp_seq (Zb (Zd hE rfl fun a hE=>Zi hE rfl rfl rfl fun a hE=>Ze ?_))
   refine Zo hE rfl ?_ ?_
   ·intro hb42
    have hs39:=Zs hs39 hb42
    refine wp_skip (Zu (wp_seq (wp_block (wp_region_lit (Zd hE rfl fun a hE=>Zd hE rfl fun a hE=>Z2 hE rfl Tryz.underlying40 (hM.rd hv0_1) fun a hE=>Zd hE rfl fun a hE=>Zi hE rfl rfl rfl fun a hE=>AI hE Za ld rfl Tryz.underlying3 Tryz.underlying171 ?_))))); intro a hE
    obtain ⟨_,e43,hs39⟩:=bind_some hs39
    have e43:=Vg e43
    refine Bw hE Za ld rfl rfl (JY _ _ e43) fun a hE=>Zi hE rfl rfl rfl fun a hE=>Yj hE Za ld rfl Tryz.underlying3 Tryz.underlying5 fun a hE=>ZP (xs:=[.tmp 28]) (l:=([Zv (QM (TB (p0.length : Int) (IntKind.u64.wrap (wr (8 * s36.2)))) 255)] : List UInt8)) (vs:=[(vB (Zv (QM (TB (p0.length : Int) (IntKind.u64.wrap (wr (8 * s36.2)))) 255)))]) hE hM Za ld rfl rfl Tryz.underlying40 ty5 rfl (by decide) rfl ?_; intro u44 w a hM hE
    obtain ⟨l46,e47,hs39⟩:=bind_some hs39
    obtain ⟨e50,rfl⟩:=ZS e47
    have hM:=hM.pull1
    refine Z0 hE hM Za ld rfl rfl (hM.sl (pre:=[_]) noB) Tryz.underlying40 ty5 rfl (by decide) e50 fun u48 w a hM hE=>Zc hE rfl fun a hE=>Zf (Z4 (Zu (wp_region_lit (Zd hE rfl fun a hE=>Zi hE rfl rfl rfl fun a hE=>Zc hE rfl fun a hE=>Zf (Zh ?_)))))
    have hM:=M.fst (l:=[_]) hM
    exact ⟨_,(ois hs39),u48,hE.sub ⟨rfl,rfl,rfl,trivial⟩,hM⟩
   ·intro hb42
    have hs39:=Zt hs39 hb42
    refine wp_exit (Zl (Zl (Z5 ?_)))
    obtain rfl:=hx40 _ (ois hs39)
    refine Zh ?_
    exact ⟨u37,hE.sub ⟨rfl,trivial⟩,hM⟩
  ·skip
   rintro a w ⟨u34,hE,hM⟩
   refine Zu (Zb (Zd hE rfl fun a hE=>Zc hE rfl fun a hE=>Ze ?_))
   obtain rfl:=Option.some.inj hF33
   exact wp_ret (ZN hE rfl (ZY hE rfl) ⟨_,rfl,u34,rfl,hM.outF (Wm XZ),hM.kept⟩)
def XW (p0 : (List UInt8)) (s8 : (List (Vector UInt8 16)) × Int) (s20 : (Vector UInt8 16) × Int) : Option (Fl ((Vector UInt8 16) × Int) (Vector UInt8 16)) :=
 if (decide (s20.2 < 16)) = true then ((idx p0 (wr (s8.2 + s20.2))).bind fun x25=>(ZH s20.1 s20.2).bind fun x29=>some (Fl.nx ((s20.1.setIfInBounds (s20.2).toNat x25),wr (s20.2 + 1)))) else (some (Fl.ex s20.1))
def X7 (p0 : (List UInt8)) (s8 : (List (Vector UInt8 16)) × Int) : Option (Fl ((List (Vector UInt8 16)) × Int) (List (Vector UInt8 16))) :=
 if (decide ((wr (s8.2 + 16)) ≤ (p0.length : Int))) = true then ((ZB (XW p0 s8) ((Vector.replicate 16 (0 : UInt8)),0)).bind fun j17=>(app 16 s8.1 ([j17] : List (Vector UInt8 16))).bind fun l34=>some (Fl.nx ((s8.1 ++ ([j17] : List (Vector UInt8 16))),wr (s8.2 + 16)))) else (some (Fl.ex s8.1))
def VO (p0 : (List UInt8)) : Option ((List (Vector UInt8 16))) :=
 (ZB (X7 p0) (([] : List (Vector UInt8 16)),0)).bind fun j3=>some j3
theorem HX (w0 : World) (p0 : (List UInt8)) (v0_1 : Value) (hv0_1 : Ro w0 p0 [v0_1]) (r : (List (Vector UInt8 16))) (hF : VO p0 = some r) :
  Calls Tryz.prog 171 [v0_1].toArray w0 (fun en w'=>∃ v,en = .returned v ∧ (∃ (y1 : Value),v = y1 ∧ Fr w0 w' [osl NoB (r : List (Vector UInt8 16)) y1] ∧ Kept (Old w0) w0 w')):=by
 refine ce Tryz.func171 ?_
 intro a hE
 have hM:=M.start w0
 unfold VO at hF
 refine Zb (Zc hE rfl fun a hE=>Ze (Zb (ZP (xs:=[]) (l:=([] : List (Vector UInt8 16))) (vs:=[]) hE hM Za ld rfl rfl Tryz.underlying54 ZF rfl (by decide) rfl fun u1 w a hM hE=>Zc hE rfl fun a hE=>Ze (wp_seq (Zb (Zc hE rfl fun a hE=>Ze ?_))))))
 obtain ⟨j3,hl4,hF5⟩:=bind_some hF
 refine ZJ (fun a w=>∃ (u6 : Value),Env 33 a [(3,u6)] ∧ M (Old w0) w0 w [osl NoB (j3 : List (Vector UInt8 16)) u6]) ?_ ?_
 ·skip
  refine wp_block ?_
  refine ZC (fun (s8 : (List (Vector UInt8 16)) × Int) a w=>∃ (u9 : Value),Env 33 a [(0,v0_1),(3,u9),(4,vI s8.2)] ∧ M (Old w0) w0 w [osl NoB (s8.1 : List (Vector UInt8 16)) u9]) hl4 ⟨u1,hE.sub ⟨rfl,rfl,rfl,trivial⟩,hM⟩ ?_
  rintro s8 a w ⟨u9,hE,hM⟩ o13 hs11 hx12
  unfold X7 at hs11
  refine wp_seq (Zb (Zd hE rfl fun a hE=>Zi hE rfl rfl rfl fun a hE=>Zd hE rfl fun a hE=>Z2 hE rfl Tryz.underlying40 (hM.rd hv0_1) fun a hE=>Zi hE rfl rfl rfl fun a hE=>Ze ?_))
  refine Zo hE rfl ?_ ?_
  ·intro hb14
   have hs11:=Zs hs11 hb14
   refine wp_skip (Zu (wp_seq (wp_block (Zb (Xu (parts:=[]) (vs:=[]) (cs:=enc (Vector.replicate 16 (0 : UInt8))) hE Za ld rfl rfl ZF rfl ty5 YU fun a hE=>Zz hE hM ZF fun b15 w a hM hE=>Zn (seg:=enc (Vector.replicate 16 (0 : UInt8))) (cs':=enc (Vector.replicate 16 (0 : UInt8))) hE hM Za rfl rfl rfl ZF (Flat.len _) (zle flq) (Flat.cell _) (Zk flq) fun w a hM hE=>Ze (wp_seq (Zb (Zc hE rfl fun a hE=>Ze ?_))))))))
   obtain ⟨j17,hl18,hF19⟩:=bind_some hs11
   refine ZJ (fun a w=>Env 33 a [(0,v0_1),(3,u9),(4,vI s8.2),(5,(ptr b15 0))] ∧ M (Old w0) w0 w [raw b15 (enc j17),osl NoB (s8.1 : List (Vector UInt8 16)) u9]) ?_ ?_
   ·skip
    refine wp_block ?_
    refine ZC (fun (s20 : (Vector UInt8 16) × Int) a w=>Env 33 a [(0,v0_1),(3,u9),(4,vI s8.2),(5,(ptr b15 0)),(6,vI s20.2)] ∧ M (Old w0) w0 w [raw b15 (enc s20.1),osl NoB (s8.1 : List (Vector UInt8 16)) u9]) hl18 ⟨hE.sub ⟨rfl,rfl,rfl,rfl,rfl,trivial⟩,hM⟩ ?_
    rintro s20 a w ⟨hE,hM⟩ o23 hs21 hx22
    unfold XW at hs21
    refine wp_seq (Zb (Zd hE rfl fun a hE=>Zi hE rfl rfl rfl fun a hE=>Ze ?_))
    refine Zo hE rfl ?_ ?_
    ·intro hb24
     have hs21:=Zs hs21 hb24
     refine wp_skip (Zu (wp_seq (wp_block (wp_region_lit (Zd hE rfl fun a hE=>Zd hE rfl fun a hE=>Zd hE rfl fun a hE=>Zd hE rfl fun a hE=>Zi hE rfl rfl rfl ?_))))); intro a hE
     obtain ⟨x25,hi27,hs21⟩:=bix hs21
     refine ZL hE rfl rfl Tryz.underlying40 ty5 (hM.rd hv0_1) hi27.1 fun a hE=>Zw (v:=(vB x25)) hE rfl ty5 rfl (Yp (hM.rd hv0_1) hi27.2) ?_; intro a hE
     obtain ⟨x29,hi28,hs21⟩:=bvx hs21
     refine ZD hE rfl rfl Tryz.underlying68 ty5 hi28.1 fun a hE=>Zn (seg:=[vB x25]) (cs':=enc (s20.1.setIfInBounds (s20.2).toNat x25)) hE hM Za rfl rfl rfl ty5 rfl (ZM (v:=s20.1) (x:=x25) hi28.1) (Flat.cell (x25 : UInt8)) (ZE (v:=s20.1) (x:=x25) hi28.1) fun w a hM hE=>Zf (Z4 (Zu (wp_region_lit (Zd hE rfl fun a hE=>Zi hE rfl rfl rfl fun a hE=>Zc hE rfl fun a hE=>Zf (Zh ?_)))))
     exact ⟨_,(ois hs21),hE.sub ⟨rfl,rfl,rfl,rfl,rfl,trivial⟩,hM⟩
    ·intro hb24
     have hs21:=Zt hs21 hb24
     refine wp_exit (Zl (Zl (Z5 ?_)))
     obtain rfl:=hx22 _ (ois hs21)
     refine Zh ?_
     exact ⟨hE.sub ⟨rfl,rfl,rfl,rfl,trivial⟩,hM⟩
   ·skip
    rintro a w ⟨hE,hM⟩
    refine Zu (wp_region_lit (Zd hE rfl fun a hE=>Zr hE rfl ZF rfl hM.rawAt0 (Flat.len _) fun a hE=>ZP (xs:=[.tmp 29]) (l:=([j17] : List (Vector UInt8 16))) (vs:=[(Value.agg (enc j17).toArray)]) hE hM Za ld rfl rfl Tryz.underlying54 ZF rfl (by decide) rfl ?_)); intro u32 w a hM hE
    obtain ⟨l34,e35,hF19⟩:=bind_some hF19
    obtain ⟨e38,rfl⟩:=ZS e35
    have hM:=hM.pull2
    refine Z0 hE hM Za ld rfl rfl (hM.sl (pre:=[_]) noB) Tryz.underlying54 ZF rfl (by decide) e38 fun u36 w a hM hE=>Zc hE rfl fun a hE=>Zf (Z4 (Zu (wp_region_lit (Zd hE rfl fun a hE=>Zi hE rfl rfl rfl fun a hE=>Zc hE rfl fun a hE=>Zf (Zh ?_)))))
    have hM:=M.fst (l:=[_]) hM
    exact ⟨_,(ois hF19),u36,hE.sub ⟨rfl,rfl,rfl,trivial⟩,hM⟩
  ·intro hb14
   have hs11:=Zt hs11 hb14
   refine wp_exit (Zl (Zl (Z5 ?_)))
   obtain rfl:=hx12 _ (ois hs11)
   refine Zh ?_
   exact ⟨u9,hE.sub ⟨rfl,trivial⟩,hM⟩
 ·skip
  rintro a w ⟨u6,hE,hM⟩
  refine Zu (Zb (Zd hE rfl fun a hE=>Zc hE rfl fun a hE=>Ze ?_))
  obtain rfl:=Option.some.inj hF5
  exact wp_ret (ZN hE rfl (ZY hE rfl) ⟨_,rfl,u6,rfl,hM.outF (Wm XZ),hM.kept⟩)
def Wq (s8 : (Vector UInt8 32) × Int) : Option (Fl ((Vector UInt8 32) × Int) (Vector UInt8 32)) :=
 if (decide (s8.2 < 32)) = true then ((ZH s8.1 s8.2).bind fun x14=>some (Fl.nx ((s8.1.setIfInBounds (s8.2).toNat (Zv (Int.tmod (wr (17 * s8.2)) 256))),wr (s8.2 + 1)))) else (some (Fl.ex s8.1))
def UC : Option ((Vector UInt8 32)) :=
 (ZB (Wq) ((Vector.replicate 32 (0 : UInt8)),0)).bind fun j5=>some j5
theorem BU (w0 : World)  (r : (Vector UInt8 32)) (hF : UC  = some r) :
  Calls Tryz.prog 173 [].toArray w0 (Rt w0 (Value.agg (enc r).toArray)):=by
 refine ce Tryz.func173 ?_
 intro a hE
 have hM:=M.start w0
 unfold UC at hF
 refine Zb (Zz hE hM ZR fun b1 w a hM hE=>Ze (Zb (Xu (parts:=[]) (vs:=[]) (cs:=enc (Vector.replicate 32 (0 : UInt8))) hE Za ld rfl rfl ZR rfl ty5 YU fun a hE=>Zz hE hM ZR fun b3 w a hM hE=>Zn (seg:=enc (Vector.replicate 32 (0 : UInt8))) (cs':=enc (Vector.replicate 32 (0 : UInt8))) hE hM Za rfl rfl rfl ZR (Flat.len _) (zle flq) (Flat.cell _) (Zk flq) fun w a hM hE=>Ze (wp_seq (Zb (Zc hE rfl fun a hE=>Ze ?_))))))
 obtain ⟨j5,hl6,hF7⟩:=bind_some hF
 refine ZJ (fun a w=>Env 15 a [(0,(ptr b1 0)),(1,(ptr b3 0))] ∧ M (Old w0) w0 w [raw b3 (enc j5),raw b1 (enc (Vector.replicate 32 (0 : UInt8)))]) ?_ ?_
 ·skip
  refine wp_block ?_
  refine ZC (fun (s8 : (Vector UInt8 32) × Int) a w=>Env 15 a [(0,(ptr b1 0)),(1,(ptr b3 0)),(2,vI s8.2)] ∧ M (Old w0) w0 w [raw b3 (enc s8.1),raw b1 (enc (Vector.replicate 32 (0 : UInt8)))]) hl6 ⟨hE.sub ⟨rfl,rfl,rfl,trivial⟩,hM⟩ ?_
  rintro s8 a w ⟨hE,hM⟩ o11 hs9 hx10
  unfold Wq at hs9
  refine wp_seq (Zb (Zd hE rfl fun a hE=>Zi hE rfl rfl rfl fun a hE=>Ze ?_))
  refine Zo hE rfl ?_ ?_
  ·intro hb12
   have hs9:=Zs hs9 hb12
   refine wp_skip (Zu (wp_seq (wp_block (wp_region_lit (Zd hE rfl fun a hE=>Zd hE rfl fun a hE=>Zi hE rfl rfl rfl fun a hE=>Zi hE rfl rfl (Kf _ _ (by decide)) fun a hE=>Yj hE Za ld rfl Tryz.underlying3 Tryz.underlying5 ?_))))); intro a hE
   obtain ⟨x14,hi13,hs9⟩:=bvx hs9
   refine ZD hE rfl rfl Tryz.underlying35 ty5 hi13.1 fun a hE=>Zn (seg:=[(vB (Zv (Int.tmod (wr (17 * s8.2)) 256)))]) (cs':=enc (s8.1.setIfInBounds (s8.2).toNat (Zv (Int.tmod (wr (17 * s8.2)) 256)))) hE hM Za rfl rfl rfl ty5 rfl (ZM (v:=s8.1) (x:=Zv (Int.tmod (wr (17 * s8.2)) 256)) hi13.1) (Flat.cell (Zv (Int.tmod (wr (17 * s8.2)) 256) : UInt8)) (ZE (v:=s8.1) (x:=Zv (Int.tmod (wr (17 * s8.2)) 256)) hi13.1) fun w a hM hE=>Zf (Z4 (Zu (wp_region_lit (Zd hE rfl fun a hE=>Zi hE rfl rfl rfl fun a hE=>Zc hE rfl fun a hE=>Zf (Zh ?_)))))
   exact ⟨_,(ois hs9),hE.sub ⟨rfl,rfl,rfl,trivial⟩,hM⟩
  ·intro hb12
   have hs9:=Zt hs9 hb12
   refine wp_exit (Zl (Zl (Z5 ?_)))
   obtain rfl:=hx10 _ (ois hs9)
   refine Zh ?_
   exact ⟨hE.sub ⟨rfl,rfl,trivial⟩,hM⟩
 ·skip
  rintro a w ⟨hE,hM⟩
  refine Zu (Zb (Zr hE rfl ZR rfl hM.rawAt0 (Flat.len _) ?_)); intro a hE
  have hM:=hM.pull1
  refine Zn (seg:=enc j5) (cs':=enc j5) hE hM Za rfl rfl rfl ZR (Flat.len _) (zle flq) (Flat.cell _) (Zk flq) fun w a hM hE=>Ze ?_
  obtain rfl:=Option.some.inj hF7
  have hq17 : Yt Tryz.prog _ _ (.cell 0 35) _:=ZQ hE rfl ZR rfl hM.rawAt0 (Flat.len _) rfl
  exact wp_ret (ZN hE rfl hq17 ⟨_,rfl,rfl,hM.kept⟩)
def XY (p0 : (Vector UInt8 32)) (s14 : (Vector UInt8 16) × (Vector UInt8 16) × Int) : Option (Fl ((Vector UInt8 16) × (Vector UInt8 16) × Int) ((Vector UInt8 16) × (Vector UInt8 16))) :=
 if (decide (s14.2.2 < 16)) = true then ((ZH p0 s14.2.2).bind fun x20=>(ZH s14.2.1 s14.2.2).bind fun x23=>(ZH p0 (wr (16 + s14.2.2))).bind fun x26=>(ZH s14.1 s14.2.2).bind fun x29=>some (Fl.nx ((s14.1.setIfInBounds (s14.2.2).toNat x26),(s14.2.1.setIfInBounds (s14.2.2).toNat x20),wr (s14.2.2 + 1)))) else (some (Fl.ex (s14.1,s14.2.1)))
def V7 (p0 : (Vector UInt8 32)) : Option ((Vector UInt8 16) × (Vector UInt8 16)) :=
 (ZB (XY p0) ((Vector.replicate 16 (0 : UInt8)),(Vector.replicate 16 (0 : UInt8)),0)).bind fun j11=>(some (j11.2,j11.1) : Option ((Vector UInt8 16) × (Vector UInt8 16))).bind fun j32=>some (j32.1,j32.2)
theorem H9 (w0 : World) (p0 : (Vector UInt8 32)) (r : (Vector UInt8 16) × (Vector UInt8 16)) (hF : V7 p0 = some r) :
  Calls Tryz.prog 205 [(Value.agg (enc p0).toArray)].toArray w0 (Rt w0 (Value.tuple [(Value.agg (enc r.1).toArray),(Value.agg (enc r.2).toArray)].toArray)):=by
 refine ce Tryz.func205 ?_
 intro a hE
 have hM:=M.start w0
 unfold V7 at hF
 refine Zb (ZT (cs:=enc p0) hE hM Za ld rfl rfl fun b1 w a hM hE=>Zz hE hM ZF fun b3 w a hM hE=>Zz hE hM ZF fun b5 w a hM hE=>Ze (Zb (Xu (parts:=[]) (vs:=[]) (cs:=enc (Vector.replicate 16 (0 : UInt8))) hE Za ld rfl rfl ZF rfl ty5 YU fun a hE=>Xu (parts:=[]) (vs:=[]) (cs:=enc (Vector.replicate 16 (0 : UInt8))) hE Za ld rfl rfl ZF rfl ty5 YU fun a hE=>Zz hE hM ZF fun b7 w a hM hE=>Zz hE hM ZF ?_))); intro b9 w a hM hE
 have hM:=hM.pull1
 refine Zn (seg:=enc (Vector.replicate 16 (0 : UInt8))) (cs':=enc (Vector.replicate 16 (0 : UInt8))) hE hM Za rfl rfl rfl ZF (Flat.len _) (zle flq) (Flat.cell _) (Zk flq) ?_; intro w a hM hE
 have hM:=hM.pull1
 refine Zn (seg:=enc (Vector.replicate 16 (0 : UInt8))) (cs':=enc (Vector.replicate 16 (0 : UInt8))) hE hM Za rfl rfl rfl ZF (Flat.len _) (zle flq) (Flat.cell _) (Zk flq) fun w a hM hE=>Ze (wp_seq (Zb (Zc hE rfl fun a hE=>Ze ?_)))
 obtain ⟨j11,hl12,hF13⟩:=bind_some hF
 refine ZJ (fun a w=>Env 26 a [(2,(ptr b3 0)),(3,(ptr b5 0)),(4,(ptr b7 0)),(5,(ptr b9 0))] ∧ M (Old w0) w0 w [raw b9 (enc j11.1),raw b7 (enc j11.2),raw b5 (enc (Vector.replicate 16 (0 : UInt8))),raw b3 (enc (Vector.replicate 16 (0 : UInt8)))]) ?_ ?_
 ·skip
  refine wp_block ?_
  refine ZC (fun (s14 : (Vector UInt8 16) × (Vector UInt8 16) × Int) a w=>Env 26 a [(1,(ptr b1 0)),(2,(ptr b3 0)),(3,(ptr b5 0)),(4,(ptr b7 0)),(5,(ptr b9 0)),(6,vI s14.2.2)] ∧ M (Old w0) w0 w [raw b9 (enc s14.1),raw b7 (enc s14.2.1),raw b5 (enc (Vector.replicate 16 (0 : UInt8))),raw b3 (enc (Vector.replicate 16 (0 : UInt8))),raw b1 (enc p0)]) hl12 ⟨hE.sub ⟨rfl,rfl,rfl,rfl,rfl,rfl,trivial⟩,hM⟩ ?_
  rintro s14 a w ⟨hE,hM⟩ o17 hs15 hx16
  unfold XY at hs15
  refine wp_seq (Zb (Zd hE rfl fun a hE=>Zi hE rfl rfl rfl fun a hE=>Ze ?_))
  refine Zo hE rfl ?_ ?_
  ·intro hb18
   have hs15:=Zs hs15 hb18
   refine wp_skip (Zu (wp_seq (wp_block (Zb (Zd hE rfl fun a hE=>Zd hE rfl ?_))))); intro a hE
   obtain ⟨x20,hi19,hs15⟩:=bvx hs15
   refine ZD hE rfl rfl Tryz.underlying35 ty5 hi19.1 fun a hE=>Zw (v:=(vB x20)) hE rfl ty5 rfl (At.vec hM.rawAt4 hi19.2) ?_; intro a hE
   obtain ⟨x23,hi22,hs15⟩:=bvx hs15
   refine ZD hE rfl rfl Tryz.underlying68 ty5 hi22.1 ?_; intro a hE
   have hM:=hM.pull1
   refine Zn (seg:=[vB x20]) (cs':=enc (s14.2.1.setIfInBounds (s14.2.2).toNat x20)) hE hM Za rfl rfl rfl ty5 rfl (ZM (v:=s14.2.1) (x:=x20) hi22.1) (Flat.cell (x20 : UInt8)) (ZE (v:=s14.2.1) (x:=x20) hi22.1) fun w a hM hE=>Ze (wp_region_lit (Zd hE rfl fun a hE=>Zd hE rfl fun a hE=>Zi hE rfl rfl rfl ?_)); intro a hE
   obtain ⟨x26,hi25,hs15⟩:=bvx hs15
   refine ZD hE rfl rfl Tryz.underlying35 ty5 hi25.1 fun a hE=>Zw (v:=(vB x26)) hE rfl ty5 rfl (At.vec hM.rawAt4 hi25.2) ?_; intro a hE
   obtain ⟨x29,hi28,hs15⟩:=bvx hs15
   refine ZD hE rfl rfl Tryz.underlying68 ty5 hi28.1 ?_; intro a hE
   have hM:=hM.pull1
   refine Zn (seg:=[vB x26]) (cs':=enc (s14.1.setIfInBounds (s14.2.2).toNat x26)) hE hM Za rfl rfl rfl ty5 rfl (ZM (v:=s14.1) (x:=x26) hi28.1) (Flat.cell (x26 : UInt8)) (ZE (v:=s14.1) (x:=x26) hi28.1) fun w a hM hE=>Zf (Z4 (Zu (wp_region_lit (Zd hE rfl fun a hE=>Zi hE rfl rfl rfl fun a hE=>Zc hE rfl fun a hE=>Zf (Zh ?_)))))
   exact ⟨_,(ois hs15),hE.sub ⟨rfl,rfl,rfl,rfl,rfl,rfl,trivial⟩,hM⟩
  ·intro hb18
   have hs15:=Zt hs15 hb18
   refine wp_exit (Zl (Zl (Z5 ?_)))
   obtain rfl:=hx16 _ (ois hs15)
   refine Zh ?_
   have hM:=M.fst (l:=[_,_,_,_]) hM.pull3.pull3.pull3.pull3
   exact ⟨hE.sub ⟨rfl,rfl,rfl,rfl,trivial⟩,hM⟩
 ·skip
  rintro a w ⟨hE,hM⟩
  refine Zu ?_
  obtain ⟨j32,hl33,hF34⟩:=bind_some hF13
  refine ZI (fun a w=>Env 26 a [(2,(ptr b3 0)),(3,(ptr b5 0))] ∧ M (Old w0) w0 w [raw b5 (enc j32.2),raw b3 (enc j32.1)]) ?_ ?_
  ·skip
   have hM:=hM.pull3
   refine Xs (its:=[raw b9 (enc j11.1),raw b7 (enc j11.2),raw b5 (enc (Vector.replicate 16 (0 : UInt8)))]) (mk:=([mkT 2 (raw b3 (enc (Vector.replicate 16 (0 : UInt8)))) (raw b3 (enc j11.2))] : Mk)) [24,25,28] Yy rfl rfl (by decide) rfl hE (fun u=>M.qT (M.q0 hM.drew u)) (qsP (v:=(Value.agg (enc j11.2).toArray)) ?_ (qsP (v:=(Value.agg (enc j11.1).toArray)) ?_ (qsM (pr:=fun v=>True) ?_ qs0))) ?_
   ·intro a w ux35 D z
    have hE:=z.E
    have hD : D 0 = false:=z.F
    have hM:=z.M.togA (pre:=[_,_,_]) (JN (j:=2) (k:=0) z.c rfl rfl rfl hD)
    exact Zr hE rfl ZF rfl hM.rawAt1 (Flat.len _) fun a hE=>⟨Kept.refl _ _,_,rfl,hE⟩
   ·intro a w ux35 D z
    have hE:=z.E
    have hM:=z.M
    exact Zr hE rfl ZF rfl hM.rawAt0 (Flat.len _) fun a hE=>⟨Kept.refl _ _,_,rfl,hE⟩
   ·intro a w ux35 D z
    have hE:=z.E
    have hD : D 2 = false:=z.F
    have hM:=(z.M.togA (pre:=[_,_,_]) hD).pull3
    exact Zn (seg:=enc j11.2) (cs':=enc j11.2) hE hM Za rfl rfl rfl ZF (Flat.len _) (zle flq) (Flat.cell _) (Zk flq) fun w a hM hE=>⟨undef,_,rfl,Env.dummy hE (by decide),M.qTog (mk1:=[]) (mk2:=[]) hM rfl,trivial⟩
   ·intro a w ux35 D hE hM hG hall
    have d2:=hall 2 (by decide)
    have hM:=(hM.togB (pre:=[_,_,_]) d2).pull2
    refine Zn (seg:=enc j11.1) (cs':=enc j11.1) hE hM Za rfl rfl rfl ZF (Flat.len _) (zle flq) (Flat.cell _) (Zk flq) fun w a hM hE=>Zf ?_
    obtain rfl:=Option.some.inj hl33
    refine Zh ?_
    have hM:=M.fst (l:=[_,_]) hM.pull3.pull1
    exact ⟨hE.sub ⟨rfl,rfl,trivial⟩,hM⟩
  ·skip
   rintro a w ⟨hE,hM⟩
   obtain rfl:=Option.some.inj hF34
   have hq37 : Yt Tryz.prog _ _ (.cell 2 68) _:=ZQ hE rfl ZF rfl hM.rawAt1 (Flat.len _) rfl
   have hq38 : Yt Tryz.prog _ _ (.cell 3 68) _:=ZQ hE rfl ZF rfl hM.rawAt0 (Flat.len _) rfl
   exact wp_ret (Ja hE rfl hq37 hq38 ⟨_,rfl,rfl,hM.kept⟩)
def V3 (p1 : (Vector UInt8 16)) (s10 : (Vector UInt8 16) × Int) : Option (Fl ((Vector UInt8 16) × Int) (Vector UInt8 16)) :=
 if (decide (s10.2 < 16)) = true then ((ZH s10.1 s10.2).bind fun x17=>(ZH p1 s10.2).bind fun x20=>(ZH s10.1 s10.2).bind fun x23=>some (Fl.nx ((s10.1.setIfInBounds (s10.2).toNat (x17 ^^^ x20)),wr (s10.2 + 1)))) else (some (Fl.ex s10.1))
def Xa (p0 : (Vector UInt8 16)) (p1 : (Vector UInt8 16)) : Option ((Vector UInt8 16)) :=
 (ZB (V3 p1) (p0,0)).bind fun j7=>some j7
theorem UL (w0 : World) (p0 : (Vector UInt8 16)) (p1 : (Vector UInt8 16)) (r : (Vector UInt8 16)) (hF : Xa p0 p1 = some r) :
  Calls Tryz.prog 206 [(Value.agg (enc p0).toArray),(Value.agg (enc p1).toArray)].toArray w0 (Rt w0 (Value.agg (enc r).toArray)):=by
 refine ce Tryz.func206 ?_
 intro a hE
 have hM:=M.start w0
 unfold Xa at hF
 refine Zb (ZT (cs:=enc p0) hE hM Za ld rfl rfl fun b1 w a hM hE=>ZT (cs:=enc p1) hE hM Za ld rfl rfl fun b3 w a hM hE=>Zz hE hM ZF fun b5 w a hM hE=>Ze (wp_seq (Zb (Zc hE rfl fun a hE=>Ze ?_))))
 obtain ⟨j7,hl8,hF9⟩:=bind_some hF
 refine ZJ (fun a w=>Env 20 a [(2,(ptr b1 0)),(4,(ptr b5 0))] ∧ M (Old w0) w0 w [raw b5 (enc (Vector.replicate 16 (0 : UInt8))),raw b1 (enc j7)]) ?_ ?_
 ·skip
  refine wp_block ?_
  refine ZC (fun (s10 : (Vector UInt8 16) × Int) a w=>Env 20 a [(2,(ptr b1 0)),(3,(ptr b3 0)),(4,(ptr b5 0)),(5,vI s10.2)] ∧ M (Old w0) w0 w [raw b5 (enc (Vector.replicate 16 (0 : UInt8))),raw b3 (enc p1),raw b1 (enc s10.1)]) hl8 ⟨hE.sub ⟨rfl,rfl,rfl,rfl,trivial⟩,hM⟩ ?_
  rintro s10 a w ⟨hE,hM⟩ o13 hs11 hx12
  unfold V3 at hs11
  refine wp_seq (Zb (Zd hE rfl fun a hE=>Zi hE rfl rfl rfl fun a hE=>Ze ?_))
  refine Zo hE rfl ?_ ?_
  ·intro hb14
   have hs11:=Zs hs11 hb14
   refine wp_skip (Zu (wp_seq (wp_block ?_)))
   obtain ⟨x17,hi16,hs11⟩:=bvx hs11
   obtain ⟨x20,hi19,hs11⟩:=bvx hs11
   obtain ⟨x23,hi22,hs11⟩:=bvx hs11
   refine ZX [10,11,12,13,14,15,16,17,18] Yy rfl rfl (by decide) rfl hE hM (qsP (fun z=>Zp z.E Za ld rfl (kr0 rfl)) (qsP (fun z=>Zp z.E Za ld rfl (kr0 rfl)) (qsP (fun z=>ZG z.E Za ld rfl rfl Tryz.underlying68 ty5 hi16.1 (kr0 rfl)) (qsP (fun z=>ZK (v:=(vB x17)) z.E Za ld rfl ty5 rfl (At.vec (z.M.rawAt2) hi16.2) (kr0 rfl)) (qsP (fun z=>Zp z.E Za ld rfl (kr0 rfl)) (qsP (fun z=>ZG z.E Za ld rfl rfl Tryz.underlying68 ty5 hi19.1 (kr0 rfl)) (qsP (fun z=>ZK (v:=(vB x20)) z.E Za ld rfl ty5 rfl (At.vec (z.M.rawAt1) hi19.2) (kr0 rfl)) (qsP (v:=(vB (x17 ^^^ x20))) (fun z=>Ye z.E Za ld rfl rfl (Vw x17 x20) (kr0 rfl)) (qsP (fun z=>ZG z.E Za ld rfl rfl Tryz.underlying68 ty5 hi22.1 (kr0 rfl)) qs0))))))))) ?_
   ·intro a w u hE hM
    have hM:=hM.pull2
    refine Zn (seg:=[(vB (x17 ^^^ x20))]) (cs':=enc (s10.1.setIfInBounds (s10.2).toNat (x17 ^^^ x20))) hE hM Za rfl rfl rfl ty5 rfl (ZM (v:=s10.1) (x:=x17 ^^^ x20) hi22.1) (Flat.cell (x17 ^^^ x20 : UInt8)) (ZE (v:=s10.1) (x:=x17 ^^^ x20) hi22.1) fun w a hM hE=>Zf (Z4 (Zu (wp_region_lit (Zd hE rfl fun a hE=>Zi hE rfl rfl rfl fun a hE=>Zc hE rfl fun a hE=>Zf (Zh ?_)))))
    have hM:=hM.pull2.pull2
    exact ⟨_,(ois hs11),hE.sub ⟨rfl,rfl,rfl,rfl,trivial⟩,hM⟩
  ·intro hb14
   have hs11:=Zt hs11 hb14
   refine wp_exit (Zl (Zl (Z5 ?_)))
   obtain rfl:=hx12 _ (ois hs11)
   refine Zh ?_
   have hM:=M.fst (l:=[_,_]) hM.pull2.pull1
   exact ⟨hE.sub ⟨rfl,rfl,trivial⟩,hM⟩
 ·skip
  rintro a w ⟨hE,hM⟩
  refine Zu (Zb (Zr hE rfl ZF rfl hM.rawAt1 (Flat.len _) fun a hE=>Zn (seg:=enc j7) (cs':=enc j7) hE hM Za rfl rfl rfl ZF (Flat.len _) (zle flq) (Flat.cell _) (Zk flq) fun w a hM hE=>Ze ?_))
  obtain rfl:=Option.some.inj hF9
  have hq26 : Yt Tryz.prog _ _ (.cell 4 68) _:=ZQ hE rfl ZF rfl hM.rawAt0 (Flat.len _) rfl
  exact wp_ret (ZN hE rfl hq26 ⟨_,rfl,rfl,hM.kept⟩)
def W9 (p0 : (Vector UInt8 256)) (p2 : Int) (s10 : (Vector UInt8 16) × Int) : Option (Fl ((Vector UInt8 16) × Int) (Vector UInt8 16)) :=
 if (decide (s10.2 < 16)) = true then (((ZH s10.1 (Int.tmod (wr (s10.2 + 15)) 16)).bind fun x19=>(if (s10.2 == 0) = true then (some (x19 ^^^ (Zv p2))) else (some x19) : Option (UInt8)).bind fun j21=>(ZH s10.1 s10.2).bind fun x29=>(ZH p0 (bI j21)).bind fun x32=>(ZH s10.1 s10.2).bind fun x35=>some (s10.1.setIfInBounds (s10.2).toNat (x29 ^^^ x32)) : Option ((Vector UInt8 16))).bind fun j15=>some (Fl.nx (j15,wr (s10.2 + 1)))) else (some (Fl.ex s10.1))
def Tg (p0 : (Vector UInt8 256)) (p1 : (Vector UInt8 16)) (p2 : Int) : Option ((Vector UInt8 16)) :=
 (ZB (W9 p0 p2) (p1,0)).bind fun j7=>some j7
theorem zb (w0 : World) (p0 : (Vector UInt8 256)) (p1 : (Vector UInt8 16)) (p2 : Int) (r : (Vector UInt8 16)) (hF : Tg p0 p1 p2 = some r) :
  Calls Tryz.prog 239 [(Value.agg (enc p0).toArray),(Value.agg (enc p1).toArray),vI p2].toArray w0 (Rt w0 (Value.agg (enc r).toArray)):=by
 refine ce Tryz.func239 ?_
 intro a hE
 have hM:=M.start w0
 unfold Tg at hF
 refine Zb (ZT (cs:=enc p0) hE hM Za ld rfl rfl fun b1 w a hM hE=>ZT (cs:=enc p1) hE hM Za ld rfl rfl fun b3 w a hM hE=>Zz hE hM ZF fun b5 w a hM hE=>Ze (wp_seq (Zb (Zc hE rfl fun a hE=>Ze ?_))))
 obtain ⟨j7,hl8,hF9⟩:=bind_some hF
 refine ZJ (fun a w=>Env 34 a [(4,(ptr b3 0)),(6,(ptr b5 0))] ∧ M (Old w0) w0 w [raw b5 (enc (Vector.replicate 16 (0 : UInt8))),raw b3 (enc j7)]) ?_ ?_
 ·skip
  refine wp_block ?_
  refine ZC (fun (s10 : (Vector UInt8 16) × Int) a w=>Env 34 a [(2,vI p2),(3,(ptr b1 0)),(4,(ptr b3 0)),(6,(ptr b5 0)),(7,vI s10.2)] ∧ M (Old w0) w0 w [raw b5 (enc (Vector.replicate 16 (0 : UInt8))),raw b3 (enc s10.1),raw b1 (enc p0)]) hl8 ⟨hE.sub ⟨rfl,rfl,rfl,rfl,rfl,trivial⟩,hM⟩ ?_
  rintro s10 a w ⟨hE,hM⟩ o13 hs11 hx12
  unfold W9 at hs11
  refine wp_seq (Zb (Zd hE rfl fun a hE=>Zi hE rfl rfl rfl fun a hE=>Ze ?_))
  refine Zo hE rfl ?_ ?_
  ·intro hb14
   have hs11:=Zs hs11 hb14
   refine wp_skip (Zu ?_)
   obtain ⟨j15,hl16,hF17⟩:=bind_some hs11
   refine ZI (fun a w=>Env 34 a [(2,vI p2),(3,(ptr b1 0)),(4,(ptr b3 0)),(6,(ptr b5 0)),(7,vI s10.2)] ∧ M (Old w0) w0 w [raw b5 (enc (Vector.replicate 16 (0 : UInt8))),raw b3 (enc j15),raw b1 (enc p0)]) ?_ ?_
   ·skip
    refine wp_block (Zb (Zd hE rfl fun a hE=>Zi hE rfl rfl rfl fun a hE=>Zi hE rfl rfl (Kf _ _ (by decide)) ?_)); intro a hE
    obtain ⟨x19,hi18,hl16⟩:=bvx hl16
    refine ZD hE rfl rfl Tryz.underlying68 ty5 hi18.1 fun a hE=>Zw (v:=(vB x19)) hE rfl ty5 rfl (At.vec hM.rawAt1 hi18.2) fun a hE=>Zc hE rfl fun a hE=>Ze ?_
    obtain ⟨j21,hl22,hF23⟩:=bind_some hl16
    refine ZI (fun a w=>Env 34 a [(2,vI p2),(3,(ptr b1 0)),(4,(ptr b3 0)),(6,(ptr b5 0)),(7,vI s10.2),(8,vB j21)] ∧ M (Old w0) w0 w [raw b5 (enc (Vector.replicate 16 (0 : UInt8))),raw b3 (enc s10.1),raw b1 (enc p0)]) ?_ ?_
    ·skip
     refine Zb (Zd hE rfl fun a hE=>Zi hE rfl rfl rfl fun a hE=>Ze ?_)
     refine Zo hE rfl ?_ ?_
     ·intro hb24
      have hl22:=Zs hl22 hb24
      refine wp_region_lit (Zd hE rfl fun a hE=>Zd hE rfl fun a hE=>Yj hE Za ld rfl Tryz.underlying2 Tryz.underlying5 fun a hE=>Zi hE rfl rfl (Vw x19 (Zv p2)) fun a hE=>Zc hE rfl fun a hE=>Zf ?_)
      obtain rfl:=Option.some.inj hl22
      refine Zh ?_
      exact ⟨hE.sub ⟨rfl,rfl,rfl,rfl,rfl,rfl,trivial⟩,hM⟩
     ·intro hb24
      have hl22:=Zt hl22 hb24
      refine wp_skip ?_
      obtain rfl:=Option.some.inj hl22
      refine Zh ?_
      exact ⟨hE.sub ⟨rfl,rfl,rfl,rfl,rfl,rfl,trivial⟩,hM⟩
    ·skip
     rintro a w ⟨hE,hM⟩
     obtain ⟨x29,hi28,hF23⟩:=bvx hF23
     obtain ⟨x32,hi31,hF23⟩:=bvx hF23
     obtain ⟨x35,hi34,hF23⟩:=bvx hF23
     refine ZX [24,25,26,27,28,29,30,31,32] Yy rfl rfl (by decide) rfl hE hM (qsP (fun z=>Zp z.E Za ld rfl (kr0 rfl)) (qsP (fun z=>Zp z.E Za ld rfl (kr0 rfl)) (qsP (fun z=>ZG z.E Za ld rfl rfl Tryz.underlying68 ty5 hi28.1 (kr0 rfl)) (qsP (fun z=>ZK (v:=(vB x29)) z.E Za ld rfl ty5 rfl (At.vec (z.M.rawAt1) hi28.2) (kr0 rfl)) (qsP (fun z=>Zp z.E Za ld rfl (kr0 rfl)) (qsP (fun z=>ZG z.E Za ld rfl rfl Tryz.underlying157 ty5 hi31.1 (kr0 rfl)) (qsP (fun z=>ZK (v:=(vB x32)) z.E Za ld rfl ty5 rfl (At.vec (z.M.rawAt2) hi31.2) (kr0 rfl)) (qsP (v:=(vB (x29 ^^^ x32))) (fun z=>Ye z.E Za ld rfl rfl (Vw x29 x32) (kr0 rfl)) (qsP (fun z=>ZG z.E Za ld rfl rfl Tryz.underlying68 ty5 hi34.1 (kr0 rfl)) qs0))))))))) ?_
     ·intro a w u hE hM
      have hM:=hM.pull1
      refine Zn (seg:=[(vB (x29 ^^^ x32))]) (cs':=enc (s10.1.setIfInBounds (s10.2).toNat (x29 ^^^ x32))) hE hM Za rfl rfl rfl ty5 rfl (ZM (v:=s10.1) (x:=x29 ^^^ x32) hi34.1) (Flat.cell (x29 ^^^ x32 : UInt8)) (ZE (v:=s10.1) (x:=x29 ^^^ x32) hi34.1) fun w a hM hE=>Zf (Z4 ?_)
      obtain rfl:=Option.some.inj hF23
      refine Zh ?_
      have hM:=hM.pull2.pull1.pull2
      exact ⟨hE.sub ⟨rfl,rfl,rfl,rfl,rfl,trivial⟩,hM⟩
   ·skip
    rintro a w ⟨hE,hM⟩
    refine wp_region_lit (Zd hE rfl fun a hE=>Zi hE rfl rfl rfl fun a hE=>Zc hE rfl fun a hE=>Zf (Zh ?_))
    exact ⟨_,(ois hF17),hE.sub ⟨rfl,rfl,rfl,rfl,rfl,trivial⟩,hM⟩
  ·intro hb14
   have hs11:=Zt hs11 hb14
   refine wp_exit (Zl (Zl (Z5 ?_)))
   obtain rfl:=hx12 _ (ois hs11)
   refine Zh ?_
   have hM:=M.fst (l:=[_,_]) hM.pull1.pull1
   exact ⟨hE.sub ⟨rfl,rfl,trivial⟩,hM⟩
 ·skip
  rintro a w ⟨hE,hM⟩
  refine Zu (Zb (Zr hE rfl ZF rfl hM.rawAt1 (Flat.len _) fun a hE=>Zn (seg:=enc j7) (cs':=enc j7) hE hM Za rfl rfl rfl ZF (Flat.len _) (zle flq) (Flat.cell _) (Zk flq) fun w a hM hE=>Ze ?_))
  obtain rfl:=Option.some.inj hF9
  have hq39 : Yt Tryz.prog _ _ (.cell 6 68) _:=ZQ hE rfl ZF rfl hM.rawAt0 (Flat.len _) rfl
  exact wp_ret (ZN hE rfl hq39 ⟨_,rfl,rfl,hM.kept⟩)
def W1 (p0 : GCipher) (p2 : Int) (s12 : (Vector UInt8 16) × (List (Vector UInt8 16)) × Int) : Option (Fl ((Vector UInt8 16) × (List (Vector UInt8 16)) × Int) (List (Vector UInt8 16))) :=
 if (decide (s12.2.2 ≤ p2)) = true then ((Tg p0.Box s12.1 s12.2.2).bind fun r19=>(app 16 s12.2.1 ([r19] : List (Vector UInt8 16))).bind fun l23=>some (Fl.nx (r19,(s12.2.1 ++ ([r19] : List (Vector UInt8 16))),wr (s12.2.2 + 1)))) else (some (Fl.ex s12.2.1))
def U0 (p0 : GCipher) (p1 : (Vector UInt8 16)) (p2 : Int) : Option ((List (Vector UInt8 16))) :=
 (ZB (W1 p0 p2) (p1,([p1] : List (Vector UInt8 16)),1)).bind fun j7=>some j7
theorem A1 (w0 : World) (p0 : GCipher) (p1 : (Vector UInt8 16)) (p2 : Int) (r : (List (Vector UInt8 16))) (hF : U0 p0 p1 p2 = some r) :
  Calls Tryz.prog 228 [(Value.agg (enc p0).toArray),(Value.agg (enc p1).toArray),vI p2].toArray w0 (fun en w'=>∃ v,en = .returned v ∧ (∃ (y1 : Value),v = y1 ∧ Fr w0 w' [osl NoB (r : List (Vector UInt8 16)) y1] ∧ Kept (Old w0) w0 w')):=by
 refine ce Tryz.func228 ?_
 intro a hE
 have hM:=M.start w0
 unfold U0 at hF
 refine Zb (ZT (cs:=cat [[vI p0.Field],enc p0.Box,enc p0.Mix,enc p0.Places,[vI p0.Rounds]]) hE hM Za ld rfl rfl fun b1 w a hM hE=>ZT (cs:=enc p1) hE hM Za ld rfl rfl fun b3 w a hM hE=>Zc hE rfl fun a hE=>Ze (Zb (Zr hE rfl ZF rfl hM.rawAt0 (Flat.len _) fun a hE=>ZP (xs:=[.tmp 9]) (l:=([p1] : List (Vector UInt8 16))) (vs:=[(Value.agg (enc p1).toArray)]) hE hM Za ld rfl rfl Tryz.underlying54 ZF rfl (by decide) rfl fun u5 w a hM hE=>Zc hE rfl fun a hE=>Ze (wp_seq (Zb (Zc hE rfl fun a hE=>Ze ?_))))))
 obtain ⟨j7,hl8,hF9⟩:=bind_some hF
 refine ZJ (fun a w=>∃ (u10 : Value),Env 26 a [(7,u10)] ∧ M (Old w0) w0 w [osl NoB (j7 : List (Vector UInt8 16)) u10]) ?_ ?_
 ·skip
  refine wp_block ?_
  have hM:=hM.pull2.pull2
  refine ZC (fun (s12 : (Vector UInt8 16) × (List (Vector UInt8 16)) × Int) a w=>∃ (u13 : Value),Env 26 a [(2,vI p2),(3,(ptr b1 0)),(4,(ptr b3 0)),(7,u13),(8,vI s12.2.2)] ∧ M (Old w0) w0 w [raw b3 (enc s12.1),raw b1 (cat [[vI p0.Field],enc p0.Box,enc p0.Mix,enc p0.Places,[vI p0.Rounds]]),osl NoB (s12.2.1 : List (Vector UInt8 16)) u13]) hl8 ⟨u5,hE.sub ⟨rfl,rfl,rfl,rfl,rfl,trivial⟩,hM⟩ ?_
  rintro s12 a w ⟨u13,hE,hM⟩ o17 hs15 hx16
  unfold W1 at hs15
  refine wp_seq (Zb (Zd hE rfl fun a hE=>Zd hE rfl fun a hE=>Zi hE rfl rfl rfl fun a hE=>Ze ?_))
  refine Zo hE rfl ?_ ?_
  ·intro hb18
   have hs15:=Zs hs15 hb18
   refine wp_skip (Zu (wp_seq (wp_block (Zb (Zg hE rfl (Jr) fun a hE=>Zr hE rfl Xt rfl (At.cat (pre:=[[vI p0.Field]]) hM.rawAt1 ck) (Flat.len _) fun a hE=>Zr hE rfl ZF rfl hM.rawAt0 (Flat.len _) fun a hE=>Zd hE rfl ?_))))); intro a hE
   obtain ⟨r19,e20,hs15⟩:=bind_some hs15
   refine Zx hE rfl (cbm Tryz.func239) (zb _ p0.Box s12.1 s12.2.2 r19 e20) ?_
   rintro v w a ⟨rfl,hK⟩ hE
   have hM:=hM.keep hK
   refine Zn (seg:=enc r19) (cs':=enc r19) hE hM Za rfl rfl rfl ZF (Flat.len _) (zle flq) (Flat.cell _) (Zk flq) fun w a hM hE=>Ze (wp_region_lit (Zd hE rfl fun a hE=>Zr hE rfl ZF rfl hM.rawAt0 (Flat.len _) fun a hE=>ZP (xs:=[.tmp 22]) (l:=([r19] : List (Vector UInt8 16))) (vs:=[(Value.agg (enc r19).toArray)]) hE hM Za ld rfl rfl Tryz.underlying54 ZF rfl (by decide) rfl ?_)); intro u21 w a hM hE
   obtain ⟨l23,e24,hs15⟩:=bind_some hs15
   obtain ⟨e27,rfl⟩:=ZS e24
   have hM:=hM.pull3
   refine Z0 hE hM Za ld rfl rfl (hM.sl (pre:=[_]) noB) Tryz.underlying54 ZF rfl (by decide) e27 fun u25 w a hM hE=>Zc hE rfl fun a hE=>Zf (Z4 (Zu (wp_region_lit (Zd hE rfl fun a hE=>Zi hE rfl rfl rfl fun a hE=>Zc hE rfl fun a hE=>Zf (Zh ?_)))))
   have hM:=M.fst (l:=[_,_,_]) hM.pull3.pull3
   exact ⟨_,(ois hs15),u25,hE.sub ⟨rfl,rfl,rfl,rfl,rfl,trivial⟩,hM⟩
  ·intro hb18
   have hs15:=Zt hs15 hb18
   refine wp_exit (Zl (Zl (Z5 ?_)))
   obtain rfl:=hx16 _ (ois hs15)
   refine Zh ?_
   have hM:=M.fst (l:=[_]) hM.pull2
   exact ⟨u13,hE.sub ⟨rfl,trivial⟩,hM⟩
 ·skip
  rintro a w ⟨u10,hE,hM⟩
  refine Zu (Zb (Zd hE rfl fun a hE=>Zc hE rfl fun a hE=>Ze ?_))
  obtain rfl:=Option.some.inj hF9
  exact wp_ret (ZN hE rfl (ZY hE rfl) ⟨_,rfl,u10,rfl,hM.outF (Wm XZ),hM.kept⟩)
def Wx (p0 : (Vector UInt8 256)) (s10 : (Vector UInt8 16) × Int) : Option (Fl ((Vector UInt8 16) × Int) (Vector UInt8 16)) :=
 if (decide (s10.2 < 16)) = true then ((ZH s10.1 s10.2).bind fun x16=>(ZH p0 (bI x16)).bind fun x19=>(ZH s10.1 s10.2).bind fun x22=>some (Fl.nx ((s10.1.setIfInBounds (s10.2).toNat x19),wr (s10.2 + 1)))) else (some (Fl.ex s10.1))
def UB (p0 : (Vector UInt8 256)) (p1 : (Vector UInt8 16)) : Option ((Vector UInt8 16)) :=
 (ZB (Wx p0) (p1,0)).bind fun j7=>some j7
theorem BZ (w0 : World) (p0 : (Vector UInt8 256)) (p1 : (Vector UInt8 16)) (r : (Vector UInt8 16)) (hF : UB p0 p1 = some r) :
  Calls Tryz.prog 230 [(Value.agg (enc p0).toArray),(Value.agg (enc p1).toArray)].toArray w0 (Rt w0 (Value.agg (enc r).toArray)):=by
 refine ce Tryz.func230 ?_
 intro a hE
 have hM:=M.start w0
 unfold UB at hF
 refine Zb (ZT (cs:=enc p0) hE hM Za ld rfl rfl fun b1 w a hM hE=>ZT (cs:=enc p1) hE hM Za ld rfl rfl fun b3 w a hM hE=>Zz hE hM ZF fun b5 w a hM hE=>Ze (wp_seq (Zb (Zc hE rfl fun a hE=>Ze ?_))))
 obtain ⟨j7,hl8,hF9⟩:=bind_some hF
 refine ZJ (fun a w=>Env 18 a [(3,(ptr b3 0)),(4,(ptr b5 0))] ∧ M (Old w0) w0 w [raw b5 (enc (Vector.replicate 16 (0 : UInt8))),raw b3 (enc j7)]) ?_ ?_
 ·skip
  refine wp_block ?_
  refine ZC (fun (s10 : (Vector UInt8 16) × Int) a w=>Env 18 a [(2,(ptr b1 0)),(3,(ptr b3 0)),(4,(ptr b5 0)),(5,vI s10.2)] ∧ M (Old w0) w0 w [raw b5 (enc (Vector.replicate 16 (0 : UInt8))),raw b3 (enc s10.1),raw b1 (enc p0)]) hl8 ⟨hE.sub ⟨rfl,rfl,rfl,rfl,trivial⟩,hM⟩ ?_
  rintro s10 a w ⟨hE,hM⟩ o13 hs11 hx12
  unfold Wx at hs11
  refine wp_seq (Zb (Zd hE rfl fun a hE=>Zi hE rfl rfl rfl fun a hE=>Ze ?_))
  refine Zo hE rfl ?_ ?_
  ·intro hb14
   have hs11:=Zs hs11 hb14
   refine wp_skip (Zu (wp_seq (wp_block (wp_region_lit (Zd hE rfl fun a hE=>Zd hE rfl ?_))))); intro a hE
   obtain ⟨x16,hi15,hs11⟩:=bvx hs11
   refine ZD hE rfl rfl Tryz.underlying68 ty5 hi15.1 fun a hE=>Zw (v:=(vB x16)) hE rfl ty5 rfl (At.vec hM.rawAt1 hi15.2) ?_; intro a hE
   obtain ⟨x19,hi18,hs11⟩:=bvx hs11
   refine ZD hE rfl rfl Tryz.underlying157 ty5 hi18.1 fun a hE=>Zw (v:=(vB x19)) hE rfl ty5 rfl (At.vec hM.rawAt2 hi18.2) ?_; intro a hE
   obtain ⟨x22,hi21,hs11⟩:=bvx hs11
   refine ZD hE rfl rfl Tryz.underlying68 ty5 hi21.1 ?_; intro a hE
   have hM:=hM.pull1
   refine Zn (seg:=[vB x19]) (cs':=enc (s10.1.setIfInBounds (s10.2).toNat x19)) hE hM Za rfl rfl rfl ty5 rfl (ZM (v:=s10.1) (x:=x19) hi21.1) (Flat.cell (x19 : UInt8)) (ZE (v:=s10.1) (x:=x19) hi21.1) fun w a hM hE=>Zf (Z4 (Zu (wp_region_lit (Zd hE rfl fun a hE=>Zi hE rfl rfl rfl fun a hE=>Zc hE rfl fun a hE=>Zf (Zh ?_)))))
   have hM:=hM.pull2.pull1.pull2
   exact ⟨_,(ois hs11),hE.sub ⟨rfl,rfl,rfl,rfl,trivial⟩,hM⟩
  ·intro hb14
   have hs11:=Zt hs11 hb14
   refine wp_exit (Zl (Zl (Z5 ?_)))
   obtain rfl:=hx12 _ (ois hs11)
   refine Zh ?_
   have hM:=M.fst (l:=[_,_]) hM.pull1.pull1
   exact ⟨hE.sub ⟨rfl,rfl,trivial⟩,hM⟩
 ·skip
  rintro a w ⟨hE,hM⟩
  refine Zu (Zb (Zr hE rfl ZF rfl hM.rawAt1 (Flat.len _) fun a hE=>Zn (seg:=enc j7) (cs':=enc j7) hE hM Za rfl rfl rfl ZF (Flat.len _) (zle flq) (Flat.cell _) (Zk flq) fun w a hM hE=>Ze ?_))
  obtain rfl:=Option.some.inj hF9
  have hq25 : Yt Tryz.prog _ _ (.cell 4 68) _:=ZQ hE rfl ZF rfl hM.rawAt0 (Flat.len _) rfl
  exact wp_ret (ZN hE rfl hq25 ⟨_,rfl,rfl,hM.kept⟩)
def W3 (p0 : (Vector UInt8 16)) (p1 : (Vector UInt8 16)) (s12 : (Vector UInt8 16) × Int) : Option (Fl ((Vector UInt8 16) × Int) (Vector UInt8 16)) :=
 if (decide (s12.2 < 16)) = true then ((ZH p0 s12.2).bind fun x18=>(ZH p1 (bI x18)).bind fun x21=>(ZH s12.1 s12.2).bind fun x24=>some (Fl.nx ((s12.1.setIfInBounds (s12.2).toNat x21),wr (s12.2 + 1)))) else (some (Fl.ex s12.1))
def U3 (p0 : (Vector UInt8 16)) (p1 : (Vector UInt8 16)) : Option ((Vector UInt8 16)) :=
 (ZB (W3 p0 p1) ((Vector.replicate 16 (0 : UInt8)),0)).bind fun j9=>some j9
theorem AA (w0 : World) (p0 : (Vector UInt8 16)) (p1 : (Vector UInt8 16)) (r : (Vector UInt8 16)) (hF : U3 p0 p1 = some r) :
  Calls Tryz.prog 229 [(Value.agg (enc p0).toArray),(Value.agg (enc p1).toArray)].toArray w0 (Rt w0 (Value.agg (enc r).toArray)):=by
 refine ce Tryz.func229 ?_
 intro a hE
 have hM:=M.start w0
 unfold U3 at hF
 refine Zb (ZT (cs:=enc p0) hE hM Za ld rfl rfl fun b1 w a hM hE=>ZT (cs:=enc p1) hE hM Za ld rfl rfl fun b3 w a hM hE=>Zz hE hM ZF fun b5 w a hM hE=>Ze (Zb (Xu (parts:=[]) (vs:=[]) (cs:=enc (Vector.replicate 16 (0 : UInt8))) hE Za ld rfl rfl ZF rfl ty5 YU fun a hE=>Zz hE hM ZF fun b7 w a hM hE=>Zn (seg:=enc (Vector.replicate 16 (0 : UInt8))) (cs':=enc (Vector.replicate 16 (0 : UInt8))) hE hM Za rfl rfl rfl ZF (Flat.len _) (zle flq) (Flat.cell _) (Zk flq) fun w a hM hE=>Ze (wp_seq (Zb (Zc hE rfl fun a hE=>Ze ?_))))))
 obtain ⟨j9,hl10,hF11⟩:=bind_some hF
 refine ZJ (fun a w=>Env 20 a [(4,(ptr b5 0)),(5,(ptr b7 0))] ∧ M (Old w0) w0 w [raw b7 (enc j9),raw b5 (enc (Vector.replicate 16 (0 : UInt8)))]) ?_ ?_
 ·skip
  refine wp_block ?_
  refine ZC (fun (s12 : (Vector UInt8 16) × Int) a w=>Env 20 a [(2,(ptr b1 0)),(3,(ptr b3 0)),(4,(ptr b5 0)),(5,(ptr b7 0)),(6,vI s12.2)] ∧ M (Old w0) w0 w [raw b7 (enc s12.1),raw b5 (enc (Vector.replicate 16 (0 : UInt8))),raw b3 (enc p1),raw b1 (enc p0)]) hl10 ⟨hE.sub ⟨rfl,rfl,rfl,rfl,rfl,trivial⟩,hM⟩ ?_
  rintro s12 a w ⟨hE,hM⟩ o15 hs13 hx14
  unfold W3 at hs13
  refine wp_seq (Zb (Zd hE rfl fun a hE=>Zi hE rfl rfl rfl fun a hE=>Ze ?_))
  refine Zo hE rfl ?_ ?_
  ·intro hb16
   have hs13:=Zs hs13 hb16
   refine wp_skip (Zu (wp_seq (wp_block (wp_region_lit (Zd hE rfl fun a hE=>Zd hE rfl ?_))))); intro a hE
   obtain ⟨x18,hi17,hs13⟩:=bvx hs13
   refine ZD hE rfl rfl Tryz.underlying161 ty5 hi17.1 fun a hE=>Zw (v:=(vB x18)) hE rfl ty5 rfl (At.vec hM.rawAt3 hi17.2) ?_; intro a hE
   obtain ⟨x21,hi20,hs13⟩:=bvx hs13
   refine ZD hE rfl rfl Tryz.underlying68 ty5 hi20.1 fun a hE=>Zw (v:=(vB x21)) hE rfl ty5 rfl (At.vec hM.rawAt2 hi20.2) ?_; intro a hE
   obtain ⟨x24,hi23,hs13⟩:=bvx hs13
   refine ZD hE rfl rfl Tryz.underlying68 ty5 hi23.1 fun a hE=>Zn (seg:=[vB x21]) (cs':=enc (s12.1.setIfInBounds (s12.2).toNat x21)) hE hM Za rfl rfl rfl ty5 rfl (ZM (v:=s12.1) (x:=x21) hi23.1) (Flat.cell (x21 : UInt8)) (ZE (v:=s12.1) (x:=x21) hi23.1) fun w a hM hE=>Zf (Z4 (Zu (wp_region_lit (Zd hE rfl fun a hE=>Zi hE rfl rfl rfl fun a hE=>Zc hE rfl fun a hE=>Zf (Zh ?_)))))
   exact ⟨_,(ois hs13),hE.sub ⟨rfl,rfl,rfl,rfl,rfl,trivial⟩,hM⟩
  ·intro hb16
   have hs13:=Zt hs13 hb16
   refine wp_exit (Zl (Zl (Z5 ?_)))
   obtain rfl:=hx14 _ (ois hs13)
   refine Zh ?_
   have hM:=M.fst (l:=[_,_]) hM.pull1.pull1
   exact ⟨hE.sub ⟨rfl,rfl,trivial⟩,hM⟩
 ·skip
  rintro a w ⟨hE,hM⟩
  refine Zu (Zb (Zr hE rfl ZF rfl hM.rawAt0 (Flat.len _) ?_)); intro a hE
  have hM:=hM.pull1
  refine Zn (seg:=enc j9) (cs':=enc j9) hE hM Za rfl rfl rfl ZF (Flat.len _) (zle flq) (Flat.cell _) (Zk flq) fun w a hM hE=>Ze ?_
  obtain rfl:=Option.some.inj hF11
  have hq27 : Yt Tryz.prog _ _ (.cell 4 68) _:=ZQ hE rfl ZF rfl hM.rawAt0 (Flat.len _) rfl
  exact wp_ret (ZN hE rfl hq27 ⟨_,rfl,rfl,hM.kept⟩)
def XQ (p0 : Int) (p1 : (Vector (Vector UInt8 4) 4)) (p2 : (Vector UInt8 16)) (s12 : (Vector UInt8 16) × Int) (s20 : (Vector UInt8 16) × Int) (s28 : (Vector UInt8 16) × Int) : Option (Fl ((Vector UInt8 16) × Int) (Vector UInt8 16)) :=
 if (decide (s28.2 < 4)) = true then ((ZH s28.1 (wr ((wr (4 * s12.2)) + s20.2))).bind fun x35=>(ZH p1 s20.2).bind fun x38=>(ZH x38 s28.2).bind fun x41=>(ZH p2 (wr ((wr (4 * s12.2)) + s28.2))).bind fun x44=>(YL p0 x41 x44).bind fun r46=>(ZH s28.1 (wr ((wr (4 * s12.2)) + s20.2))).bind fun x49=>some (Fl.nx ((s28.1.setIfInBounds ((wr ((wr (4 * s12.2)) + s20.2))).toNat (x35 ^^^ r46)),wr (s28.2 + 1)))) else (some (Fl.ex s28.1))
def VW (p0 : Int) (p1 : (Vector (Vector UInt8 4) 4)) (p2 : (Vector UInt8 16)) (s12 : (Vector UInt8 16) × Int) (s20 : (Vector UInt8 16) × Int) : Option (Fl ((Vector UInt8 16) × Int) (Vector UInt8 16)) :=
 if (decide (s20.2 < 4)) = true then ((ZB (XQ p0 p1 p2 s12 s20) (s20.1,0)).bind fun j25=>some (Fl.nx (j25,wr (s20.2 + 1)))) else (some (Fl.ex s20.1))
def VT (p0 : Int) (p1 : (Vector (Vector UInt8 4) 4)) (p2 : (Vector UInt8 16)) (s12 : (Vector UInt8 16) × Int) : Option (Fl ((Vector UInt8 16) × Int) (Vector UInt8 16)) :=
 if (decide (s12.2 < 4)) = true then ((ZB (VW p0 p1 p2 s12) (s12.1,0)).bind fun j17=>some (Fl.nx (j17,wr (s12.2 + 1)))) else (some (Fl.ex s12.1))
def TJ (p0 : Int) (p1 : (Vector (Vector UInt8 4) 4)) (p2 : (Vector UInt8 16)) : Option ((Vector UInt8 16)) :=
 (ZB (VT p0 p1 p2) ((Vector.replicate 16 (0 : UInt8)),0)).bind fun j9=>some j9
theorem zM (w0 : World) (p0 : Int) (p1 : (Vector (Vector UInt8 4) 4)) (p2 : (Vector UInt8 16)) (r : (Vector UInt8 16)) (hF : TJ p0 p1 p2 = some r) :
  Calls Tryz.prog 231 [vI p0,(Value.agg (enc p1).toArray),(Value.agg (enc p2).toArray)].toArray w0 (Rt w0 (Value.agg (enc r).toArray)):=by
 refine ce Tryz.func231 ?_
 intro a hE
 have hM:=M.start w0
 unfold TJ at hF
 refine Zb (ZT (cs:=enc p1) hE hM Za ld rfl rfl fun b1 w a hM hE=>ZT (cs:=enc p2) hE hM Za ld rfl rfl fun b3 w a hM hE=>Zz hE hM ZF fun b5 w a hM hE=>Ze (Zb (Xu (parts:=[]) (vs:=[]) (cs:=enc (Vector.replicate 16 (0 : UInt8))) hE Za ld rfl rfl ZF rfl ty5 YU fun a hE=>Zz hE hM ZF fun b7 w a hM hE=>Zn (seg:=enc (Vector.replicate 16 (0 : UInt8))) (cs':=enc (Vector.replicate 16 (0 : UInt8))) hE hM Za rfl rfl rfl ZF (Flat.len _) (zle flq) (Flat.cell _) (Zk flq) fun w a hM hE=>Ze (wp_seq (Zb (Zc hE rfl fun a hE=>Ze ?_))))))
 obtain ⟨j9,hl10,hF11⟩:=bind_some hF
 refine ZJ (fun a w=>Env 50 a [(6,(ptr b5 0)),(7,(ptr b7 0))] ∧ M (Old w0) w0 w [raw b7 (enc j9),raw b5 (enc (Vector.replicate 16 (0 : UInt8)))]) ?_ ?_
 ·skip
  refine wp_block ?_
  refine ZC (fun (s12 : (Vector UInt8 16) × Int) a w=>Env 50 a [(0,vI p0),(4,(ptr b1 0)),(5,(ptr b3 0)),(6,(ptr b5 0)),(7,(ptr b7 0)),(8,vI s12.2)] ∧ M (Old w0) w0 w [raw b7 (enc s12.1),raw b5 (enc (Vector.replicate 16 (0 : UInt8))),raw b3 (enc p2),raw b1 (enc p1)]) hl10 ⟨hE.sub ⟨rfl,rfl,rfl,rfl,rfl,rfl,trivial⟩,hM⟩ ?_
  rintro s12 a w ⟨hE,hM⟩ o15 hs13 hx14
  unfold VT at hs13
  refine wp_seq (Zb (Zd hE rfl fun a hE=>Zi hE rfl rfl rfl fun a hE=>Ze ?_))
  refine Zo hE rfl ?_ ?_
  ·intro hb16
   have hs13:=Zs hs13 hb16
   refine wp_skip (Zu (wp_seq (wp_block (Zb (Zc hE rfl fun a hE=>Ze ?_)))))
   obtain ⟨j17,hl18,hF19⟩:=bind_some hs13
   refine ZJ (fun a w=>Env 50 a [(0,vI p0),(4,(ptr b1 0)),(5,(ptr b3 0)),(6,(ptr b5 0)),(7,(ptr b7 0)),(8,vI s12.2)] ∧ M (Old w0) w0 w [raw b7 (enc j17),raw b5 (enc (Vector.replicate 16 (0 : UInt8))),raw b3 (enc p2),raw b1 (enc p1)]) ?_ ?_
   ·skip
    refine wp_block ?_
    refine ZC (fun (s20 : (Vector UInt8 16) × Int) a w=>Env 50 a [(0,vI p0),(4,(ptr b1 0)),(5,(ptr b3 0)),(6,(ptr b5 0)),(7,(ptr b7 0)),(8,vI s12.2),(9,vI s20.2)] ∧ M (Old w0) w0 w [raw b7 (enc s20.1),raw b5 (enc (Vector.replicate 16 (0 : UInt8))),raw b3 (enc p2),raw b1 (enc p1)]) hl18 ⟨hE.sub ⟨rfl,rfl,rfl,rfl,rfl,rfl,rfl,trivial⟩,hM⟩ ?_
    rintro s20 a w ⟨hE,hM⟩ o23 hs21 hx22
    unfold VW at hs21
    refine wp_seq (Zb (Zd hE rfl fun a hE=>Zi hE rfl rfl rfl fun a hE=>Ze ?_))
    refine Zo hE rfl ?_ ?_
    ·intro hb24
     have hs21:=Zs hs21 hb24
     refine wp_skip (Zu (wp_seq (wp_block (Zb (Zc hE rfl fun a hE=>Ze ?_)))))
     obtain ⟨j25,hl26,hF27⟩:=bind_some hs21
     refine ZJ (fun a w=>Env 50 a [(0,vI p0),(4,(ptr b1 0)),(5,(ptr b3 0)),(6,(ptr b5 0)),(7,(ptr b7 0)),(8,vI s12.2),(9,vI s20.2)] ∧ M (Old w0) w0 w [raw b7 (enc j25),raw b5 (enc (Vector.replicate 16 (0 : UInt8))),raw b3 (enc p2),raw b1 (enc p1)]) ?_ ?_
     ·skip
      refine wp_block ?_
      refine ZC (fun (s28 : (Vector UInt8 16) × Int) a w=>Env 50 a [(0,vI p0),(4,(ptr b1 0)),(5,(ptr b3 0)),(6,(ptr b5 0)),(7,(ptr b7 0)),(8,vI s12.2),(9,vI s20.2),(10,vI s28.2)] ∧ M (Old w0) w0 w [raw b7 (enc s28.1),raw b5 (enc (Vector.replicate 16 (0 : UInt8))),raw b3 (enc p2),raw b1 (enc p1)]) hl26 ⟨hE.sub ⟨rfl,rfl,rfl,rfl,rfl,rfl,rfl,rfl,trivial⟩,hM⟩ ?_
      rintro s28 a w ⟨hE,hM⟩ o31 hs29 hx30
      unfold XQ at hs29
      refine wp_seq (Zb (Zd hE rfl fun a hE=>Zi hE rfl rfl rfl fun a hE=>Ze ?_))
      refine Zo hE rfl ?_ ?_
      ·intro hb32
       have hs29:=Zs hs29 hb32
       refine wp_skip (Zu (wp_seq (wp_block ?_)))
       obtain ⟨x35,hi34,hs29⟩:=bvx hs29
       obtain ⟨x38,hi37,hs29⟩:=bvx hs29
       obtain ⟨x41,hi40,hs29⟩:=bvx hs29
       obtain ⟨x44,hi43,hs29⟩:=bvx hs29
       obtain ⟨r46,e47,hs29⟩:=bind_some hs29
       obtain ⟨x49,hi48,hs29⟩:=bvx hs29
       refine ZX [24,25,26,27,28,29,30,31,32,33,34,35,36,37,38,39,40,41,42,43,44,45,46,47,48] Yy rfl rfl (by decide) rfl hE hM (qsP (fun z=>Zp z.E Za ld rfl (kr0 rfl)) (qsP (v:=(vI (wr (4 * s12.2)))) (fun z=>Ye z.E Za ld rfl rfl rfl (kr0 rfl)) (qsP (fun z=>Zp z.E Za ld rfl (kr0 rfl)) (qsP (v:=(vI (wr ((wr (4 * s12.2)) + s20.2)))) (fun z=>Ye z.E Za ld rfl rfl rfl (kr0 rfl)) (qsP (fun z=>Zp z.E Za ld rfl (kr0 rfl)) (qsP (v:=(vI (wr (4 * s12.2)))) (fun z=>Ye z.E Za ld rfl rfl rfl (kr0 rfl)) (qsP (fun z=>Zp z.E Za ld rfl (kr0 rfl)) (qsP (v:=(vI (wr ((wr (4 * s12.2)) + s20.2)))) (fun z=>Ye z.E Za ld rfl rfl rfl (kr0 rfl)) (qsP (fun z=>ZG z.E Za ld rfl rfl Tryz.underlying68 ty5 hi34.1 (kr0 rfl)) (qsP (fun z=>ZK (v:=(vB x35)) z.E Za ld rfl ty5 rfl (At.vec (z.M.rawAt0) hi34.2) (kr0 rfl)) (qsP (fun z=>Zp z.E Za ld rfl (kr0 rfl)) (qsP (fun z=>Zp z.E Za ld rfl (kr0 rfl)) (qsP (fun z=>Zp z.E Za ld rfl (kr0 rfl)) (qsP (fun z=>ZG z.E Za ld rfl rfl Tryz.underlying160 Xp hi37.1 (kr0 rfl)) (qsP (fun z=>ZG z.E Za ld rfl rfl Tryz.underlying158 ty5 hi40.1 (kr0 rfl)) (qsP (fun z=>ZK (v:=(vB x41)) z.E Za ld rfl ty5 rfl (At.vec (At.vec (z.M.rawAt3) hi37.2) hi40.2) (kr0 rfl)) (qsP (fun z=>Zp z.E Za ld rfl (kr0 rfl)) (qsP (v:=(vI (wr (4 * s12.2)))) (fun z=>Ye z.E Za ld rfl rfl rfl (kr0 rfl)) (qsP (fun z=>Zp z.E Za ld rfl (kr0 rfl)) (qsP (v:=(vI (wr ((wr (4 * s12.2)) + s28.2)))) (fun z=>Ye z.E Za ld rfl rfl rfl (kr0 rfl)) (qsP (fun z=>ZG z.E Za ld rfl rfl Tryz.underlying68 ty5 hi43.1 (kr0 rfl)) (qsP (fun z=>ZK (v:=(vB x44)) z.E Za ld rfl ty5 rfl (At.vec (z.M.rawAt2) hi43.2) (kr0 rfl)) (qsP (fun z=>ZV z.E Za ld rfl jm (Ux _ p0 x41 x44 r46 e47) (kc rfl)) (qsP (v:=(vB (x35 ^^^ r46))) (fun z=>Ye z.E Za ld rfl rfl (Vw x35 r46) (kr0 rfl)) (qsP (fun z=>ZG z.E Za ld rfl rfl Tryz.underlying68 ty5 hi48.1 (kr0 rfl)) qs0))))))))))))))))))))))))) ?_
       ·intro a w u hE hM
        refine Zn (seg:=[(vB (x35 ^^^ r46))]) (cs':=enc (s28.1.setIfInBounds ((wr ((wr (4 * s12.2)) + s20.2))).toNat (x35 ^^^ r46))) hE hM Za rfl rfl rfl ty5 rfl (ZM (v:=s28.1) (x:=x35 ^^^ r46) hi48.1) (Flat.cell (x35 ^^^ r46 : UInt8)) (ZE (v:=s28.1) (x:=x35 ^^^ r46) hi48.1) fun w a hM hE=>Zf (Z4 (Zu (wp_region_lit (Zd hE rfl fun a hE=>Zi hE rfl rfl rfl fun a hE=>Zc hE rfl fun a hE=>Zf (Zh ?_)))))
        exact ⟨_,(ois hs29),hE.sub ⟨rfl,rfl,rfl,rfl,rfl,rfl,rfl,rfl,trivial⟩,hM⟩
      ·intro hb32
       have hs29:=Zt hs29 hb32
       refine wp_exit (Zl (Zl (Z5 ?_)))
       obtain rfl:=hx30 _ (ois hs29)
       refine Zh ?_
       exact ⟨hE.sub ⟨rfl,rfl,rfl,rfl,rfl,rfl,rfl,trivial⟩,hM⟩
     ·skip
      rintro a w ⟨hE,hM⟩
      refine Z4 (Zu (wp_region_lit (Zd hE rfl fun a hE=>Zi hE rfl rfl rfl fun a hE=>Zc hE rfl fun a hE=>Zf (Zh ?_))))
      exact ⟨_,(ois hF27),hE.sub ⟨rfl,rfl,rfl,rfl,rfl,rfl,rfl,trivial⟩,hM⟩
    ·intro hb24
     have hs21:=Zt hs21 hb24
     refine wp_exit (Zl (Zl (Z5 ?_)))
     obtain rfl:=hx22 _ (ois hs21)
     refine Zh ?_
     exact ⟨hE.sub ⟨rfl,rfl,rfl,rfl,rfl,rfl,trivial⟩,hM⟩
   ·skip
    rintro a w ⟨hE,hM⟩
    refine Z4 (Zu (wp_region_lit (Zd hE rfl fun a hE=>Zi hE rfl rfl rfl fun a hE=>Zc hE rfl fun a hE=>Zf (Zh ?_))))
    exact ⟨_,(ois hF19),hE.sub ⟨rfl,rfl,rfl,rfl,rfl,rfl,trivial⟩,hM⟩
  ·intro hb16
   have hs13:=Zt hs13 hb16
   refine wp_exit (Zl (Zl (Z5 ?_)))
   obtain rfl:=hx14 _ (ois hs13)
   refine Zh ?_
   have hM:=M.fst (l:=[_,_]) hM.pull1.pull1
   exact ⟨hE.sub ⟨rfl,rfl,trivial⟩,hM⟩
 ·skip
  rintro a w ⟨hE,hM⟩
  refine Zu (Zb (Zr hE rfl ZF rfl hM.rawAt0 (Flat.len _) ?_)); intro a hE
  have hM:=hM.pull1
  refine Zn (seg:=enc j9) (cs':=enc j9) hE hM Za rfl rfl rfl ZF (Flat.len _) (zle flq) (Flat.cell _) (Zk flq) fun w a hM hE=>Ze ?_
  obtain rfl:=Option.some.inj hF11
  have hq54 : Yt Tryz.prog _ _ (.cell 6 68) _:=ZQ hE rfl ZF rfl hM.rawAt0 (Flat.len _) rfl
  exact wp_ret (ZN hE rfl hq54 ⟨_,rfl,rfl,hM.kept⟩)
def Xl (p0 : GCipher) (p3 : Int) (r9 : (List (Vector UInt8 16))) (s25 : (Vector UInt8 16) × Int) : Option (Fl ((Vector UInt8 16) × Int) (Vector UInt8 16)) :=
 if (decide (s25.2 ≤ p3)) = true then ((((UB p0.Box s25.1).bind fun r37=>(U3 p0.Places r37).bind fun r39=>some r39 : Option ((Vector UInt8 16))).bind fun j33=>(if (decide (s25.2 < p3)) = true then ((TJ p0.Field p0.Mix j33).bind fun r46=>some r46) else (some j33) : Option ((Vector UInt8 16))).bind fun j42=>(idx r9 s25.2).bind fun x51=>(Xa j42 x51).bind fun r54=>some r54 : Option ((Vector UInt8 16))).bind fun j30=>some (Fl.nx (j30,wr (s25.2 + 1)))) else (some (Fl.ex s25.1))
def Y0 (p0 : GCipher) (p1 : (Vector UInt8 16)) (p2 : (Vector UInt8 16)) (p3 : Int) : Option ((Vector UInt8 16)) :=
 (U0 p0 p1 p3).bind fun r9=>((idx r9 (0 : Int)).bind fun x16=>(Xa p2 x16).bind fun r19=>some r19 : Option ((Vector UInt8 16))).bind fun j12=>(ZB (Xl p0 p3 r9) (j12,1)).bind fun j22=>some j22
theorem Q1 (w0 : World) (p0 : GCipher) (p1 : (Vector UInt8 16)) (p2 : (Vector UInt8 16)) (p3 : Int) (r : (Vector UInt8 16)) (hF : Y0 p0 p1 p2 p3 = some r) :
  Calls Tryz.prog 207 [(Value.agg (enc p0).toArray),(Value.agg (enc p1).toArray),(Value.agg (enc p2).toArray),vI p3].toArray w0 (Rt w0 (Value.agg (enc r).toArray)):=by
 refine ce Tryz.func207 ?_
 intro a hE
 have hM:=M.start w0
 unfold Y0 at hF
 refine Zb (ZT (cs:=cat [[vI p0.Field],enc p0.Box,enc p0.Mix,enc p0.Places,[vI p0.Rounds]]) hE hM Za ld rfl rfl fun b1 w a hM hE=>ZT (cs:=enc p1) hE hM Za ld rfl rfl fun b3 w a hM hE=>ZT (cs:=enc p2) hE hM Za ld rfl rfl fun b5 w a hM hE=>Zz hE hM ZF fun b7 w a hM hE=>Ze (Zb (Zr hE rfl VA rfl hM.rawAt3 cq fun a hE=>Zr hE rfl ZF rfl hM.rawAt2 (Flat.len _) fun a hE=>Zd hE rfl ?_))); intro a hE
 obtain ⟨r9,e10,hF⟩:=bind_some hF
 refine Zx hE rfl (cbm Tryz.func228) (A1 _ p0 p1 p3 r9 e10) ?_
 rintro u11 w a ⟨_,rfl,hFr,hK⟩ hE
 have hM:=hM.add hK hFr
 refine Zc hE rfl fun a hE=>Ze ?_
 obtain ⟨j12,hl13,hF14⟩:=bind_some hF
 refine ZI (fun a w=>Env 48 a [(3,vI p3),(4,(ptr b1 0)),(6,(ptr b5 0)),(8,(ptr b7 0)),(9,u11)] ∧ M (Old w0) w0 w [osl NoB (r9 : List (Vector UInt8 16)) u11,raw b7 (enc (Vector.replicate 16 (0 : UInt8))),raw b5 (enc j12),raw b1 (cat [[vI p0.Field],enc p0.Box,enc p0.Mix,enc p0.Places,[vI p0.Rounds]])]) ?_ ?_
 ·skip
  obtain ⟨x16,hi18,hl13⟩:=bix hl13
  obtain ⟨r19,e20,hl13⟩:=bind_some hl13
  refine ZX [15,16,17,18,19] Yy rfl rfl (by decide) rfl hE hM (qsP (fun z=>Z1 z.E Za ld rfl ZF rfl (z.M.rawAt2) (Flat.len _) (kr0 rfl)) (qsP (fun z=>Zp z.E Za ld rfl (kr0 rfl)) (qsP (fun z=>Yl z.E Za ld rfl rfl Tryz.underlying54 ZF (z.M.sl (pre:=[]) noB) hi18.1 (kr0 rfl)) (qsP (fun z=>Z1 z.E Za ld rfl ZF rfl (Yp (z.M.sl (pre:=[]) noB) hi18.2) (Flat.len _) (kr0 rfl)) (qsP (fun z=>ZV z.E Za ld rfl ys (UL _ p2 x16 r19 e20) (kc rfl)) qs0))))) ?_
  ·intro a w u hE hM
   have hM:=hM.pull2
   refine Zn (seg:=enc r19) (cs':=enc r19) hE hM Za rfl rfl rfl ZF (Flat.len _) (zle flq) (Flat.cell _) (Zk flq) fun w a hM hE=>Zf ?_
   obtain rfl:=Option.some.inj hl13
   refine Zh ?_
   have hM:=M.fst (l:=[_,_,_,_]) hM.pull4.pull1.pull3.pull3
   exact ⟨hE.sub ⟨rfl,rfl,rfl,rfl,rfl,trivial⟩,hM⟩
 ·skip
  rintro a w ⟨hE,hM⟩
  refine wp_seq (Zb (Zc hE rfl fun a hE=>Ze ?_))
  obtain ⟨j22,hl23,hF24⟩:=bind_some hF14
  refine ZJ (fun a w=>Env 48 a [(6,(ptr b5 0)),(8,(ptr b7 0))] ∧ M (Old w0) w0 w [raw b7 (enc (Vector.replicate 16 (0 : UInt8))),raw b5 (enc j22)]) ?_ ?_
  ·skip
   refine wp_block ?_
   refine ZC (fun (s25 : (Vector UInt8 16) × Int) a w=>Env 48 a [(3,vI p3),(4,(ptr b1 0)),(6,(ptr b5 0)),(8,(ptr b7 0)),(9,u11),(10,vI s25.2)] ∧ M (Old w0) w0 w [osl NoB (r9 : List (Vector UInt8 16)) u11,raw b7 (enc (Vector.replicate 16 (0 : UInt8))),raw b5 (enc s25.1),raw b1 (cat [[vI p0.Field],enc p0.Box,enc p0.Mix,enc p0.Places,[vI p0.Rounds]])]) hl23 ⟨hE.sub ⟨rfl,rfl,rfl,rfl,rfl,rfl,trivial⟩,hM⟩ ?_
   rintro s25 a w ⟨hE,hM⟩ o28 hs26 hx27
   unfold Xl at hs26
   refine wp_seq (Zb (Zd hE rfl fun a hE=>Zd hE rfl fun a hE=>Zi hE rfl rfl rfl fun a hE=>Ze ?_))
   refine Zo hE rfl ?_ ?_
   ·intro hb29
    have hs26:=Zs hs26 hb29
    refine wp_skip (Zu ?_)
    obtain ⟨j30,hl31,hF32⟩:=bind_some hs26
    refine ZI (fun a w=>Env 48 a [(3,vI p3),(4,(ptr b1 0)),(6,(ptr b5 0)),(8,(ptr b7 0)),(9,u11),(10,vI s25.2)] ∧ M (Old w0) w0 w [osl NoB (r9 : List (Vector UInt8 16)) u11,raw b7 (enc (Vector.replicate 16 (0 : UInt8))),raw b5 (enc j30),raw b1 (cat [[vI p0.Field],enc p0.Box,enc p0.Mix,enc p0.Places,[vI p0.Rounds]])]) ?_ ?_
    ·skip
     refine wp_block ?_
     obtain ⟨j33,hl34,hF35⟩:=bind_some hl31
     refine ZI (fun a w=>Env 48 a [(3,vI p3),(4,(ptr b1 0)),(6,(ptr b5 0)),(8,(ptr b7 0)),(9,u11),(10,vI s25.2)] ∧ M (Old w0) w0 w [osl NoB (r9 : List (Vector UInt8 16)) u11,raw b7 (enc (Vector.replicate 16 (0 : UInt8))),raw b5 (enc j33),raw b1 (cat [[vI p0.Field],enc p0.Box,enc p0.Mix,enc p0.Places,[vI p0.Rounds]])]) ?_ ?_
     ·skip
      obtain ⟨r37,e38,hl34⟩:=bind_some hl34
      obtain ⟨r39,e40,hl34⟩:=bind_some hl34
      refine ZX [25,26,27,28,29,30,31] Yy rfl rfl (by decide) rfl hE hM (qsP (fun z=>Zq z.E Za ld rfl (Hl) (kr0 rfl)) (qsP (fun z=>Z1 z.E Za ld rfl QG rfl (At.cat (pre:=[[vI p0.Field],enc p0.Box,enc p0.Mix]) (z.M.rawAt3) ck) (Flat.len _) (kr0 rfl)) (qsP (fun z=>Zq z.E Za ld rfl (Jr) (kr0 rfl)) (qsP (fun z=>Z1 z.E Za ld rfl Xt rfl (At.cat (pre:=[[vI p0.Field]]) (z.M.rawAt3) ck) (Flat.len _) (kr0 rfl)) (qsP (fun z=>Z1 z.E Za ld rfl ZF rfl (z.M.rawAt2) (Flat.len _) (kr0 rfl)) (qsP (fun z=>ZV z.E Za ld rfl (cbm Tryz.func230) (BZ _ p0.Box s25.1 r37 e38) (kc rfl)) (qsP (fun z=>ZV z.E Za ld rfl (cbm Tryz.func229) (AA _ p0.Places r37 r39 e40) (kc rfl)) qs0))))))) ?_
      ·intro a w u hE hM
       have hM:=hM.pull2
       refine Zn (seg:=enc r39) (cs':=enc r39) hE hM Za rfl rfl rfl ZF (Flat.len _) (zle flq) (Flat.cell _) (Zk flq) fun w a hM hE=>Zf ?_
       obtain rfl:=Option.some.inj hl34
       refine Zh ?_
       have hM:=hM.pull3.pull1.pull3.pull3
       exact ⟨hE.sub ⟨rfl,rfl,rfl,rfl,rfl,rfl,trivial⟩,hM⟩
     ·skip
      rintro a w ⟨hE,hM⟩
      obtain ⟨j42,hl43,hF44⟩:=bind_some hF35
      refine ZI (fun a w=>Env 48 a [(3,vI p3),(4,(ptr b1 0)),(6,(ptr b5 0)),(8,(ptr b7 0)),(9,u11),(10,vI s25.2)] ∧ M (Old w0) w0 w [osl NoB (r9 : List (Vector UInt8 16)) u11,raw b7 (enc (Vector.replicate 16 (0 : UInt8))),raw b5 (enc j42),raw b1 (cat [[vI p0.Field],enc p0.Box,enc p0.Mix,enc p0.Places,[vI p0.Rounds]])]) ?_ ?_
      ·skip
       refine Zb (Zd hE rfl fun a hE=>Zd hE rfl fun a hE=>Zi hE rfl rfl rfl fun a hE=>Ze ?_)
       refine Zo hE rfl ?_ ?_
       ·intro hb45
        have hl43:=Zs hl43 hb45
        refine wp_region_lit (Zg hE rfl (Aj) fun a hE=>Zw (v:=(vI p0.Field)) hE rfl ty2 rfl (At.cat (pre:=[]) hM.rawAt3 cl0) fun a hE=>Zg hE rfl (Hg) fun a hE=>Zr hE rfl U6 rfl (At.cat (pre:=[[vI p0.Field],enc p0.Box]) hM.rawAt3 ck) (Flat.len _) fun a hE=>Zr hE rfl ZF rfl hM.rawAt2 (Flat.len _) ?_); intro a hE
        obtain ⟨r46,e47,hl43⟩:=bind_some hl43
        refine Zx hE rfl (cbm Tryz.func231) (zM _ p0.Field p0.Mix j33 r46 e47) ?_
        rintro v w a ⟨rfl,hK⟩ hE
        have hM:=(hM.keep hK).pull2
        refine Zn (seg:=enc r46) (cs':=enc r46) hE hM Za rfl rfl rfl ZF (Flat.len _) (zle flq) (Flat.cell _) (Zk flq) fun w a hM hE=>Zf ?_
        obtain rfl:=Option.some.inj hl43
        refine Zh ?_
        have hM:=hM.pull3.pull1.pull3.pull3
        exact ⟨hE.sub ⟨rfl,rfl,rfl,rfl,rfl,rfl,trivial⟩,hM⟩
       ·intro hb45
        have hl43:=Zt hl43 hb45
        refine wp_skip ?_
        obtain rfl:=Option.some.inj hl43
        refine Zh ?_
        exact ⟨hE.sub ⟨rfl,rfl,rfl,rfl,rfl,rfl,trivial⟩,hM⟩
      ·skip
       rintro a w ⟨hE,hM⟩
       obtain ⟨x51,hi53,hF44⟩:=bix hF44
       obtain ⟨r54,e55,hF44⟩:=bind_some hF44
       refine ZX [41,42,43,44,45,46] Yy rfl rfl (by decide) rfl hE hM (qsP (fun z=>Z1 z.E Za ld rfl ZF rfl (z.M.rawAt2) (Flat.len _) (kr0 rfl)) (qsP (fun z=>Zp z.E Za ld rfl (kr0 rfl)) (qsP (fun z=>Zp z.E Za ld rfl (kr0 rfl)) (qsP (fun z=>Yl z.E Za ld rfl rfl Tryz.underlying54 ZF (z.M.sl (pre:=[]) noB) hi53.1 (kr0 rfl)) (qsP (fun z=>Z1 z.E Za ld rfl ZF rfl (Yp (z.M.sl (pre:=[]) noB) hi53.2) (Flat.len _) (kr0 rfl)) (qsP (fun z=>ZV z.E Za ld rfl ys (UL _ j42 x51 r54 e55) (kc rfl)) qs0)))))) ?_
       ·intro a w u hE hM
        have hM:=hM.pull2
        refine Zn (seg:=enc r54) (cs':=enc r54) hE hM Za rfl rfl rfl ZF (Flat.len _) (zle flq) (Flat.cell _) (Zk flq) fun w a hM hE=>Zf (Z4 ?_)
        obtain rfl:=Option.some.inj hF44
        refine Zh ?_
        have hM:=hM.pull3.pull1.pull3.pull3
        exact ⟨hE.sub ⟨rfl,rfl,rfl,rfl,rfl,rfl,trivial⟩,hM⟩
    ·skip
     rintro a w ⟨hE,hM⟩
     refine wp_region_lit (Zd hE rfl fun a hE=>Zi hE rfl rfl rfl fun a hE=>Zc hE rfl fun a hE=>Zf (Zh ?_))
     exact ⟨_,(ois hF32),hE.sub ⟨rfl,rfl,rfl,rfl,rfl,rfl,trivial⟩,hM⟩
   ·intro hb29
    have hs26:=Zt hs26 hb29
    refine wp_exit (Zl (Zl (Z5 ?_)))
    obtain rfl:=hx27 _ (ois hs26)
    refine Zh ?_
    have hM:=M.fst (l:=[_,_]) hM.pull2.pull2
    exact ⟨hE.sub ⟨rfl,rfl,trivial⟩,hM⟩
  ·skip
   rintro a w ⟨hE,hM⟩
   refine Zu (Zb (Zr hE rfl ZF rfl hM.rawAt1 (Flat.len _) fun a hE=>Zn (seg:=enc j22) (cs':=enc j22) hE hM Za rfl rfl rfl ZF (Flat.len _) (zle flq) (Flat.cell _) (Zk flq) fun w a hM hE=>Ze ?_))
   obtain rfl:=Option.some.inj hF24
   have hq58 : Yt Tryz.prog _ _ (.cell 8 68) _:=ZQ hE rfl ZF rfl hM.rawAt0 (Flat.len _) rfl
   exact wp_ret (ZN hE rfl hq58 ⟨_,rfl,rfl,hM.kept⟩)
def X9 (r31 : (Vector UInt8 16)) (r40 : (Vector UInt8 16)) (s51 : (Vector UInt8 32) × Int) : Option (Fl ((Vector UInt8 32) × Int) (Vector UInt8 32)) :=
 if (decide (s51.2 < 16)) = true then ((ZH r31 s51.2).bind fun x57=>(ZH s51.1 s51.2).bind fun x60=>(ZH r40 s51.2).bind fun x63=>(ZH (s51.1.setIfInBounds (s51.2).toNat x57) (wr (16 + s51.2))).bind fun x66=>some (Fl.nx (((s51.1.setIfInBounds (s51.2).toNat x57).setIfInBounds ((wr (16 + s51.2))).toNat x63),wr (s51.2 + 1)))) else (some (Fl.ex s51.1))
def Wz (p0 : GCipher) (p1 : (Vector UInt8 32)) (p2 : (Vector UInt8 16)) : Option ((Vector UInt8 32)) :=
 (V7 p1).bind fun r9=>(Xa r9.1 p2).bind fun r16=>(Xa r9.2 p2).bind fun r18=>(Y0 p0 r9.2 r16 p0.Rounds).bind fun r29=>(Xa r29 r16).bind fun r31=>(Y0 p0 r31 r18 p0.Rounds).bind fun r38=>(Xa r38 r18).bind fun r40=>(ZB (X9 r31 r40) ((Vector.replicate 32 (0 : UInt8)),0)).bind fun j48=>some j48
theorem Bd (w0 : World) (p0 : GCipher) (p1 : (Vector UInt8 32)) (p2 : (Vector UInt8 16)) (r : (Vector UInt8 32)) (hF : Wz p0 p1 p2 = some r) :
  Calls Tryz.prog 174 [(Value.agg (enc p0).toArray),(Value.agg (enc p1).toArray),(Value.agg (enc p2).toArray)].toArray w0 (Rt w0 (Value.agg (enc r).toArray)):=by
 refine ce Tryz.func174 ?_
 intro a hE
 have hM:=M.start w0
 unfold Wz at hF
 refine Zb (ZT (cs:=cat [[vI p0.Field],enc p0.Box,enc p0.Mix,enc p0.Places,[vI p0.Rounds]]) hE hM Za ld rfl rfl fun b1 w a hM hE=>ZT (cs:=enc p1) hE hM Za ld rfl rfl fun b3 w a hM hE=>ZT (cs:=enc p2) hE hM Za ld rfl rfl fun b5 w a hM hE=>Zz hE hM ZR fun b7 w a hM hE=>Ze (Zb (Zr hE rfl ZR rfl hM.rawAt2 (Flat.len _) ?_))); intro a hE
 obtain ⟨r9,e10,hF⟩:=bind_some hF
 refine Zx hE rfl (cbm Tryz.func205) (H9 _ p1 r9 e10) ?_
 rintro v w a ⟨rfl,hK⟩ hE
 have hM:=hM.keep hK
 refine Zd hE rfl fun a hE=>Yw hE Za ld rfl rfl fun a hE=>Yw hE Za ld rfl rfl fun a hE=>Zz hE hM ZF fun b11 w a hM hE=>Zz hE hM ZF ?_; intro b13 w a hM hE
 have hM:=hM.pull1
 refine Zn (seg:=enc r9.1) (cs':=enc r9.1) hE hM Za rfl rfl rfl ZF (Flat.len _) (zle flq) (Flat.cell _) (Zk flq) ?_; intro w a hM hE
 have hM:=hM.pull1
 refine Zn (seg:=enc r9.2) (cs':=enc r9.2) hE hM Za rfl rfl rfl ZF (Flat.len _) (zle flq) (Flat.cell _) (Zk flq) fun w a hM hE=>Ze (wp_seq ?_)
 obtain ⟨r16,e17,hF⟩:=bind_some hF
 obtain ⟨r18,e19,hF⟩:=bind_some hF
 refine Xs (its:=[raw b13 (enc r9.2),raw b11 (enc r9.1),raw b7 (enc (Vector.replicate 32 (0 : UInt8))),raw b5 (enc p2),raw b3 (enc p1),raw b1 (cat [[vI p0.Field],enc p0.Box,enc p0.Mix,enc p0.Places,[vI p0.Rounds]])]) (mk:=([mkO 6 (fun v=>TX v (enc (Vector.replicate 16 (0 : UInt8)))),mkO 7 (fun v=>TX v (enc (Vector.replicate 16 (0 : UInt8))))] : Mk)) [20,21,22,23,24,25,9,10] Yy rfl rfl (by decide) rfl hE (fun u=>M.qE (M.qE (M.q0 hM.drew u) emO) emO) (qsP (v:=(Value.agg (enc r9.1).toArray)) ?_ (qsP (v:=(Value.agg (enc p2).toArray)) ?_ (qsP (fun z=>ZV z.E Za ld rfl ys (UL _ r9.1 p2 r16 e17) (kc rfl)) (qsP (v:=(Value.agg (enc r9.2).toArray)) ?_ (qsP (v:=(Value.agg (enc p2).toArray)) ?_ (qsP (fun z=>ZV z.E Za ld rfl ys (UL _ r9.2 p2 r18 e19) (kc rfl)) (qsM (pr:=fun v=>True) ?_ (qsM (pr:=fun v=>True) ?_ qs0)))))))) ?_
 ·intro a w ux15 D z
  have hE:=z.E
  have hM:=z.M
  exact Zr hE rfl ZF rfl hM.rawAt1 (Flat.len _) fun a hE=>⟨Kept.refl _ _,_,rfl,hE⟩
 ·intro a w ux15 D z
  have hE:=z.E
  have hM:=z.M
  exact Zr hE rfl ZF rfl hM.rawAt3 (Flat.len _) fun a hE=>⟨Kept.refl _ _,_,rfl,hE⟩
 ·intro a w ux15 D z
  have hE:=z.E
  have hM:=z.M
  exact Zr hE rfl ZF rfl hM.rawAt0 (Flat.len _) fun a hE=>⟨Kept.refl _ _,_,rfl,hE⟩
 ·intro a w ux15 D z
  have hE:=z.E
  have hM:=z.M
  exact Zr hE rfl ZF rfl hM.rawAt3 (Flat.len _) fun a hE=>⟨Kept.refl _ _,_,rfl,hE⟩
 ·intro a w ux15 D z
  have hE:=z.E
  have hD : D 6 = false:=z.F
  have hM:=z.M
  refine Zz hE hM ZF ?_; intro b20 w a hM hE
  have hM:=hM.pack1 (it:=TX _ (enc (Vector.replicate 16 (0 : UInt8)))) (fun w w' fp ⟨b',e,k⟩ hb=>⟨b',e,Xf w w' fp k hb⟩) (fun fp k=>⟨_,rfl,k⟩)
  exact ⟨_,_,rfl,hE,M.qFill (mk1:=[]) (mk2:=[_]) (f:=fun v=>TX v (enc (Vector.replicate 16 (0 : UInt8)))) hM rfl hD,trivial⟩
 ·intro a w ux15 D z
  have hE:=z.E
  have hD : D 7 = false:=z.F
  have hM:=z.M
  refine Zz hE hM ZF ?_; intro b22 w a hM hE
  have hM:=hM.pack1 (it:=TX _ (enc (Vector.replicate 16 (0 : UInt8)))) (fun w w' fp ⟨b',e,k⟩ hb=>⟨b',e,Xf w w' fp k hb⟩) (fun fp k=>⟨_,rfl,k⟩)
  exact ⟨_,_,rfl,hE,M.qFill (mk1:=[_]) (mk2:=[]) (f:=fun v=>TX v (enc (Vector.replicate 16 (0 : UInt8)))) hM rfl hD,trivial⟩
 ·intro a w ux15 D hE hM hG hall
  have d6:=hall 6 (by decide)
  have d7:=hall 7 (by decide)
  have hM:=(hM.sure (pre:=[_,_,_,_,_,_]) d6).pull
  obtain ⟨_,⟨b24,f25,_⟩,_⟩:=hM.head
  have hM:=((hM.pack1 Xf (it:=raw b24 (enc (Vector.replicate 16 (0 : UInt8)))) (fun fp ⟨b2,e2,k2⟩=>by rw [f25] at e2; simp [ptr] at e2; subst e2; exact k2)).sure (pre:=[_,_,_,_,_,_,_]) d7).pull
  obtain ⟨_,⟨b26,f27,_⟩,_⟩:=hM.head
  have hM:=hM.pack1 Xf (it:=raw b26 (enc (Vector.replicate 16 (0 : UInt8)))) (fun fp ⟨b2,e2,k2⟩=>by rw [f27] at e2; simp [ptr] at e2; subst e2; exact k2)
  have hE:=hE.setq (t:=9) rfl f25
  have hE:=hE.setq (t:=10) rfl f27
  have hM:=hM.pull1
  refine Zn (seg:=enc r16) (cs':=enc r16) hE hM Za rfl rfl rfl ZF (Flat.len _) (zle flq) (Flat.cell _) (Zk flq) ?_; intro w a hM hE
  have hM:=hM.pull1
  refine Zn (seg:=enc r18) (cs':=enc r18) hE hM Za rfl rfl rfl ZF (Flat.len _) (zle flq) (Flat.cell _) (Zk flq) fun w a hM hE=>Zf (Zu (wp_seq ?_))
  obtain ⟨r29,e30,hF⟩:=bind_some hF
  obtain ⟨r31,e32,hF⟩:=bind_some hF
  refine Xs (its:=[raw b26 (enc r18),raw b24 (enc r16),raw b13 (enc r9.2),raw b11 (enc r9.1),raw b7 (enc (Vector.replicate 32 (0 : UInt8))),raw b5 (enc p2),raw b3 (enc p1),raw b1 (cat [[vI p0.Field],enc p0.Box,enc p0.Mix,enc p0.Places,[vI p0.Rounds]])]) (mk:=([mkO 8 (fun v=>TX v (enc (Vector.replicate 16 (0 : UInt8))))] : Mk)) [26,27,28,29,30,31,32,33,11] Yy rfl rfl (by decide) rfl hE (fun u=>M.qE (M.q0 hM.drew u) emO) (qsP (v:=(Value.agg (enc p0).toArray)) ?_ (qsP (v:=(Value.agg (enc r9.2).toArray)) ?_ (qsP (v:=(Value.agg (enc r16).toArray)) ?_ (qsP (fun z=>Zq z.E Za ld rfl (y7) (kr0 rfl)) (qsP (v:=(vI p0.Rounds)) ?_ (qsP (fun z=>ZV z.E Za ld rfl (cbm Tryz.func207) (Q1 _ p0 r9.2 r16 p0.Rounds r29 e30) (kc rfl)) (qsP (v:=(Value.agg (enc r16).toArray)) ?_ (qsP (fun z=>ZV z.E Za ld rfl ys (UL _ r29 r16 r31 e32) (kc rfl)) (qsM (pr:=fun v=>True) ?_ qs0))))))))) ?_
  ·intro a w ux28 D z
   have hE:=z.E
   have hM:=z.M
   exact Zr hE rfl VA rfl hM.rawAt7 cq fun a hE=>⟨Kept.refl _ _,_,rfl,hE⟩
  ·intro a w ux28 D z
   have hE:=z.E
   have hM:=z.M
   exact Zr hE rfl ZF rfl hM.rawAt2 (Flat.len _) fun a hE=>⟨Kept.refl _ _,_,rfl,hE⟩
  ·intro a w ux28 D z
   have hE:=z.E
   have hM:=z.M
   exact Zr hE rfl ZF rfl hM.rawAt1 (Flat.len _) fun a hE=>⟨Kept.refl _ _,_,rfl,hE⟩
  ·intro a w ux28 D z
   have hE:=z.E
   have hM:=z.M
   exact Zw (v:=(vI p0.Rounds)) hE rfl ty2 rfl (At.cat (pre:=[[vI p0.Field],enc p0.Box,enc p0.Mix,enc p0.Places]) hM.rawAt7 ck) fun a hE=>⟨Kept.refl _ _,_,rfl,hE⟩
  ·intro a w ux28 D z
   have hE:=z.E
   have hM:=z.M
   exact Zr hE rfl ZF rfl hM.rawAt1 (Flat.len _) fun a hE=>⟨Kept.refl _ _,_,rfl,hE⟩
  ·intro a w ux28 D z
   have hE:=z.E
   have hD : D 8 = false:=z.F
   have hM:=z.M
   refine Zz hE hM ZF ?_; intro b33 w a hM hE
   have hM:=hM.pack1 (it:=TX _ (enc (Vector.replicate 16 (0 : UInt8)))) (fun w w' fp ⟨b',e,k⟩ hb=>⟨b',e,Xf w w' fp k hb⟩) (fun fp k=>⟨_,rfl,k⟩)
   exact ⟨_,_,rfl,hE,M.qFill (mk1:=[]) (mk2:=[]) (f:=fun v=>TX v (enc (Vector.replicate 16 (0 : UInt8)))) hM rfl hD,trivial⟩
  ·intro a w ux28 D hE hM hG hall
   have d8:=hall 8 (by decide)
   have hM:=(hM.sure (pre:=[_,_,_,_,_,_,_,_]) d8).pull
   obtain ⟨_,⟨b35,f36,_⟩,_⟩:=hM.head
   have hM:=hM.pack1 Xf (it:=raw b35 (enc (Vector.replicate 16 (0 : UInt8)))) (fun fp ⟨b2,e2,k2⟩=>by rw [f36] at e2; simp [ptr] at e2; subst e2; exact k2)
   have hE:=hE.setq (t:=11) rfl f36
   refine Zn (seg:=enc r31) (cs':=enc r31) hE hM Za rfl rfl rfl ZF (Flat.len _) (zle flq) (Flat.cell _) (Zk flq) fun w a hM hE=>Zf (Zu (wp_seq ?_))
   obtain ⟨r38,e39,hF⟩:=bind_some hF
   obtain ⟨r40,e41,hF⟩:=bind_some hF
   refine Xs (its:=[raw b35 (enc r31),raw b26 (enc r18),raw b24 (enc r16),raw b13 (enc r9.2),raw b11 (enc r9.1),raw b7 (enc (Vector.replicate 32 (0 : UInt8))),raw b5 (enc p2),raw b3 (enc p1),raw b1 (cat [[vI p0.Field],enc p0.Box,enc p0.Mix,enc p0.Places,[vI p0.Rounds]])]) (mk:=([mkO 8 (fun v=>TX v (enc (Vector.replicate 16 (0 : UInt8))))] : Mk)) [34,35,36,37,38,39,40,41,12] Yy rfl rfl (by decide) rfl hE (fun u=>M.qE (M.q0 hM.drew u) emO) (qsP (v:=(Value.agg (enc p0).toArray)) ?_ (qsP (v:=(Value.agg (enc r31).toArray)) ?_ (qsP (v:=(Value.agg (enc r18).toArray)) ?_ (qsP (fun z=>Zq z.E Za ld rfl (y7) (kr0 rfl)) (qsP (v:=(vI p0.Rounds)) ?_ (qsP (fun z=>ZV z.E Za ld rfl (cbm Tryz.func207) (Q1 _ p0 r31 r18 p0.Rounds r38 e39) (kc rfl)) (qsP (v:=(Value.agg (enc r18).toArray)) ?_ (qsP (fun z=>ZV z.E Za ld rfl ys (UL _ r38 r18 r40 e41) (kc rfl)) (qsM (pr:=fun v=>True) ?_ qs0))))))))) ?_
   ·intro a w ux37 D z
    have hE:=z.E
    have hM:=z.M
    exact Zr hE rfl VA rfl hM.rawAt8 cq fun a hE=>⟨Kept.refl _ _,_,rfl,hE⟩
   ·intro a w ux37 D z
    have hE:=z.E
    have hM:=z.M
    exact Zr hE rfl ZF rfl hM.rawAt0 (Flat.len _) fun a hE=>⟨Kept.refl _ _,_,rfl,hE⟩
   ·intro a w ux37 D z
    have hE:=z.E
    have hM:=z.M
    exact Zr hE rfl ZF rfl hM.rawAt1 (Flat.len _) fun a hE=>⟨Kept.refl _ _,_,rfl,hE⟩
   ·intro a w ux37 D z
    have hE:=z.E
    have hM:=z.M
    exact Zw (v:=(vI p0.Rounds)) hE rfl ty2 rfl (At.cat (pre:=[[vI p0.Field],enc p0.Box,enc p0.Mix,enc p0.Places]) hM.rawAt8 ck) fun a hE=>⟨Kept.refl _ _,_,rfl,hE⟩
   ·intro a w ux37 D z
    have hE:=z.E
    have hM:=z.M
    exact Zr hE rfl ZF rfl hM.rawAt1 (Flat.len _) fun a hE=>⟨Kept.refl _ _,_,rfl,hE⟩
   ·intro a w ux37 D z
    have hE:=z.E
    have hD : D 8 = false:=z.F
    have hM:=z.M
    refine Zz hE hM ZF ?_; intro b42 w a hM hE
    have hM:=hM.pack1 (it:=TX _ (enc (Vector.replicate 16 (0 : UInt8)))) (fun w w' fp ⟨b',e,k⟩ hb=>⟨b',e,Xf w w' fp k hb⟩) (fun fp k=>⟨_,rfl,k⟩)
    exact ⟨_,_,rfl,hE,M.qFill (mk1:=[]) (mk2:=[]) (f:=fun v=>TX v (enc (Vector.replicate 16 (0 : UInt8)))) hM rfl hD,trivial⟩
   ·intro a w ux37 D hE hM hG hall
    have d8:=hall 8 (by decide)
    have hM:=(hM.sure (pre:=[_,_,_,_,_,_,_,_,_]) d8).pull
    obtain ⟨_,⟨b44,f45,_⟩,_⟩:=hM.head
    have hM:=hM.pack1 Xf (it:=raw b44 (enc (Vector.replicate 16 (0 : UInt8)))) (fun fp ⟨b2,e2,k2⟩=>by rw [f45] at e2; simp [ptr] at e2; subst e2; exact k2)
    have hE:=hE.setq (t:=12) rfl f45
    refine Zn (seg:=enc r40) (cs':=enc r40) hE hM Za rfl rfl rfl ZF (Flat.len _) (zle flq) (Flat.cell _) (Zk flq) fun w a hM hE=>Zf (Zu (Zb (Xu (parts:=[]) (vs:=[]) (cs:=enc (Vector.replicate 32 (0 : UInt8))) hE Za ld rfl rfl ZR rfl ty5 YU fun a hE=>Zz hE hM ZR fun b46 w a hM hE=>Zn (seg:=enc (Vector.replicate 32 (0 : UInt8))) (cs':=enc (Vector.replicate 32 (0 : UInt8))) hE hM Za rfl rfl rfl ZR (Flat.len _) (zle flq) (Flat.cell _) (Zk flq) fun w a hM hE=>Ze (wp_seq (Zb (Zc hE rfl fun a hE=>Ze ?_))))))
    obtain ⟨j48,hl49,hF50⟩:=bind_some hF
    refine ZJ (fun a w=>Env 59 a [(6,(ptr b7 0)),(13,(ptr b46 0))] ∧ M (Old w0) w0 w [raw b46 (enc j48),raw b7 (enc (Vector.replicate 32 (0 : UInt8)))]) ?_ ?_
    ·skip
     refine wp_block ?_
     have hM:=M.fst (l:=[_,_,_,_]) hM.pull7.pull3.pull3.pull3
     refine ZC (fun (s51 : (Vector UInt8 32) × Int) a w=>Env 59 a [(6,(ptr b7 0)),(11,(ptr b35 0)),(12,(ptr b44 0)),(13,(ptr b46 0)),(14,vI s51.2)] ∧ M (Old w0) w0 w [raw b46 (enc s51.1),raw b44 (enc r40),raw b35 (enc r31),raw b7 (enc (Vector.replicate 32 (0 : UInt8)))]) hl49 ⟨hE.sub ⟨rfl,rfl,rfl,rfl,rfl,trivial⟩,hM⟩ ?_
     rintro s51 a w ⟨hE,hM⟩ o54 hs52 hx53
     unfold X9 at hs52
     refine wp_seq (Zb (Zd hE rfl fun a hE=>Zi hE rfl rfl rfl fun a hE=>Ze ?_))
     refine Zo hE rfl ?_ ?_
     ·intro hb55
      have hs52:=Zs hs52 hb55
      refine wp_skip (Zu (wp_seq (wp_block (Zb (Zd hE rfl fun a hE=>Zd hE rfl ?_))))); intro a hE
      obtain ⟨x57,hi56,hs52⟩:=bvx hs52
      refine ZD hE rfl rfl Tryz.underlying68 ty5 hi56.1 fun a hE=>Zw (v:=(vB x57)) hE rfl ty5 rfl (At.vec hM.rawAt2 hi56.2) ?_; intro a hE
      obtain ⟨x60,hi59,hs52⟩:=bvx hs52
      refine ZD hE rfl rfl Tryz.underlying35 ty5 hi59.1 fun a hE=>Zn (seg:=[vB x57]) (cs':=enc (s51.1.setIfInBounds (s51.2).toNat x57)) hE hM Za rfl rfl rfl ty5 rfl (ZM (v:=s51.1) (x:=x57) hi59.1) (Flat.cell (x57 : UInt8)) (ZE (v:=s51.1) (x:=x57) hi59.1) fun w a hM hE=>Ze (wp_region_lit (Zd hE rfl fun a hE=>Zi hE rfl rfl rfl fun a hE=>Zd hE rfl ?_)); intro a hE
      obtain ⟨x63,hi62,hs52⟩:=bvx hs52
      refine ZD hE rfl rfl Tryz.underlying68 ty5 hi62.1 fun a hE=>Zw (v:=(vB x63)) hE rfl ty5 rfl (At.vec hM.rawAt1 hi62.2) ?_; intro a hE
      obtain ⟨x66,hi65,hs52⟩:=bvx hs52
      refine ZD hE rfl rfl Tryz.underlying35 ty5 hi65.1 fun a hE=>Zn (seg:=[vB x63]) (cs':=enc ((s51.1.setIfInBounds (s51.2).toNat x57).setIfInBounds ((wr (16 + s51.2))).toNat x63)) hE hM Za rfl rfl rfl ty5 rfl (ZM (v:=(s51.1.setIfInBounds (s51.2).toNat x57)) (x:=x63) hi65.1) (Flat.cell (x63 : UInt8)) (ZE (v:=(s51.1.setIfInBounds (s51.2).toNat x57)) (x:=x63) hi65.1) fun w a hM hE=>Zf (Z4 (Zu (wp_region_lit (Zd hE rfl fun a hE=>Zi hE rfl rfl rfl fun a hE=>Zc hE rfl fun a hE=>Zf (Zh ?_)))))
      exact ⟨_,(ois hs52),hE.sub ⟨rfl,rfl,rfl,rfl,rfl,trivial⟩,hM⟩
     ·intro hb55
      have hs52:=Zt hs52 hb55
      refine wp_exit (Zl (Zl (Z5 ?_)))
      obtain rfl:=hx53 _ (ois hs52)
      refine Zh ?_
      have hM:=M.fst (l:=[_,_]) hM.pull3.pull1
      exact ⟨hE.sub ⟨rfl,rfl,trivial⟩,hM⟩
    ·skip
     rintro a w ⟨hE,hM⟩
     refine Zu (Zb (Zr hE rfl ZR rfl hM.rawAt0 (Flat.len _) ?_)); intro a hE
     have hM:=hM.pull1
     refine Zn (seg:=enc j48) (cs':=enc j48) hE hM Za rfl rfl rfl ZR (Flat.len _) (zle flq) (Flat.cell _) (Zk flq) fun w a hM hE=>Ze ?_
     obtain rfl:=Option.some.inj hF50
     have hq69 : Yt Tryz.prog _ _ (.cell 6 35) _:=ZQ hE rfl ZR rfl hM.rawAt0 (Flat.len _) rfl
     exact wp_ret (ZN hE rfl hq69 ⟨_,rfl,rfl,hM.kept⟩)
def UJ (p0 : GCipher) (r8 : (List (Vector UInt8 16))) (s18 : (Vector UInt8 32) × Int) : Option (Fl ((Vector UInt8 32) × Int) (Vector UInt8 32)) :=
 if (decide (s18.2 < (r8.length : Int))) = true then ((idx r8 s18.2).bind fun x24=>(Wz p0 s18.1 x24).bind fun r27=>some (Fl.nx (r27,wr (s18.2 + 1)))) else (some (Fl.ex s18.1))
def Wk (p0 : GCipher) (p1 : (List UInt8)) : Option ((Vector UInt8 32)) :=
 (TF p1).bind fun r5=>(VO r5).bind fun r8=>(UC).bind fun r11=>(ZB (UJ p0 r8) (r11,0)).bind fun j15=>some j15
theorem QL (w0 : World) (p0 : GCipher) (p1 : (List UInt8)) (v1_1 : Value) (hv1_1 : Ro w0 p1 [v1_1]) (r : (Vector UInt8 32)) (hF : Wk p0 p1 = some r) :
  Calls Tryz.prog 124 [(Value.agg (enc p0).toArray),v1_1].toArray w0 (Rt w0 (Value.agg (enc r).toArray)):=by
 refine ce Tryz.func124 ?_
 intro a hE
 have hM:=M.start w0
 unfold Wk at hF
 refine Zb (ZT (cs:=cat [[vI p0.Field],enc p0.Box,enc p0.Mix,enc p0.Places,[vI p0.Rounds]]) hE hM Za ld rfl rfl fun b1 w a hM hE=>Zz hE hM ZR fun b3 w a hM hE=>Ze (Zb (Zd hE rfl ?_))); intro a hE
 obtain ⟨r5,e6,hF⟩:=bind_some hF
 refine Zx hE rfl (cbm Tryz.func172) (zy _ p1 v1_1 (hM.rdo hv1_1) r5 e6) ?_
 rintro u7 w a ⟨_,rfl,hFr,hK⟩ hE
 have hM:=hM.add hK hFr
 obtain ⟨r8,e9,hF⟩:=bind_some hF
 refine Zx hE rfl (cbm Tryz.func171) (HX _ r5 u7 (hM.sl (pre:=[]) noB) r8 e9) ?_
 rintro u10 w a ⟨_,rfl,hFr,hK⟩ hE
 have hM:=hM.add hK hFr
 obtain ⟨r11,e12,hF⟩:=bind_some hF
 refine Zx hE rfl (cbm Tryz.func173) (BU _  r11 e12) ?_
 rintro v w a ⟨rfl,hK⟩ hE
 have hM:=hM.keep hK
 refine Zz hE hM ZR fun b13 w a hM hE=>Zc hE rfl fun a hE=>Zn (seg:=enc r11) (cs':=enc r11) hE hM Za rfl rfl rfl ZR (Flat.len _) (zle flq) (Flat.cell _) (Zk flq) fun w a hM hE=>Ze (wp_seq (Zb (Zc hE rfl fun a hE=>Ze ?_)))
 obtain ⟨j15,hl16,hF17⟩:=bind_some hF
 refine ZJ (fun a w=>Env 26 a [(4,(ptr b3 0)),(6,(ptr b13 0))] ∧ M (Old w0) w0 w [raw b13 (enc j15),raw b3 (enc (Vector.replicate 32 (0 : UInt8)))]) ?_ ?_
 ·skip
  refine wp_block ?_
  have hM:=M.fst (l:=[_,_,_,_]) hM.pull4.pull4.pull3.pull3
  refine ZC (fun (s18 : (Vector UInt8 32) × Int) a w=>Env 26 a [(2,(ptr b1 0)),(4,(ptr b3 0)),(5,u10),(6,(ptr b13 0)),(7,vI s18.2)] ∧ M (Old w0) w0 w [raw b13 (enc s18.1),osl NoB (r8 : List (Vector UInt8 16)) u10,raw b3 (enc (Vector.replicate 32 (0 : UInt8))),raw b1 (cat [[vI p0.Field],enc p0.Box,enc p0.Mix,enc p0.Places,[vI p0.Rounds]])]) hl16 ⟨hE.sub ⟨rfl,rfl,rfl,rfl,rfl,trivial⟩,hM⟩ ?_
  rintro s18 a w ⟨hE,hM⟩ o21 hs19 hx20
  unfold UJ at hs19
  refine wp_seq (Zb (Zd hE rfl fun a hE=>Zd hE rfl fun a hE=>Z2 hE rfl Tryz.underlying54 (hM.sl (pre:=[_]) noB) fun a hE=>Zi hE rfl rfl rfl fun a hE=>Ze ?_))
  refine Zo hE rfl ?_ ?_
  ·intro hb22
   have hs19:=Zs hs19 hb22
   refine wp_skip (Zu (wp_seq (wp_block ?_)))
   obtain ⟨x24,hi26,hs19⟩:=bix hs19
   obtain ⟨r27,e28,hs19⟩:=bind_some hs19
   refine ZX [18,19,20,21,22,23,24] Yy rfl rfl (by decide) rfl hE hM (qsP (fun z=>Z1 z.E Za ld rfl VA rfl (z.M.rawAt3) cq (kr0 rfl)) (qsP (fun z=>Z1 z.E Za ld rfl ZR rfl (z.M.rawAt0) (Flat.len _) (kr0 rfl)) (qsP (fun z=>Zp z.E Za ld rfl (kr0 rfl)) (qsP (fun z=>Zp z.E Za ld rfl (kr0 rfl)) (qsP (fun z=>Yl z.E Za ld rfl rfl Tryz.underlying54 ZF (z.M.sl (pre:=[_]) noB) hi26.1 (kr0 rfl)) (qsP (fun z=>Z1 z.E Za ld rfl ZF rfl (Yp (z.M.sl (pre:=[_]) noB) hi26.2) (Flat.len _) (kr0 rfl)) (qsP (fun z=>ZV z.E Za ld rfl (cbm Tryz.func174) (Bd _ p0 s18.1 x24 r27 e28) (kc rfl)) qs0))))))) ?_
   ·intro a w u hE hM
    refine Zn (seg:=enc r27) (cs':=enc r27) hE hM Za rfl rfl rfl ZR (Flat.len _) (zle flq) (Flat.cell _) (Zk flq) fun w a hM hE=>Zf (Z4 (Zu (wp_region_lit (Zd hE rfl fun a hE=>Zi hE rfl rfl rfl fun a hE=>Zc hE rfl fun a hE=>Zf (Zh ?_)))))
    exact ⟨_,(ois hs19),hE.sub ⟨rfl,rfl,rfl,rfl,rfl,trivial⟩,hM⟩
  ·intro hb22
   have hs19:=Zt hs19 hb22
   refine wp_exit (Zl (Zl (Z5 ?_)))
   obtain rfl:=hx20 _ (ois hs19)
   refine Zh ?_
   have hM:=M.fst (l:=[_,_]) hM.pull2.pull1
   exact ⟨hE.sub ⟨rfl,rfl,trivial⟩,hM⟩
 ·skip
  rintro a w ⟨hE,hM⟩
  refine Zu (Zb (Zr hE rfl ZR rfl hM.rawAt0 (Flat.len _) ?_)); intro a hE
  have hM:=hM.pull1
  refine Zn (seg:=enc j15) (cs':=enc j15) hE hM Za rfl rfl rfl ZR (Flat.len _) (zle flq) (Flat.cell _) (Zk flq) fun w a hM hE=>Ze ?_
  obtain rfl:=Option.some.inj hF17
  have hq30 : Yt Tryz.prog _ _ (.cell 4 35) _:=ZQ hE rfl ZR rfl hM.rawAt0 (Flat.len _) rfl
  exact wp_ret (ZN hE rfl hq30 ⟨_,rfl,rfl,hM.kept⟩)
def V4 (p0 : (Vector UInt8 32)) (s10 : (List UInt8) × Int) : Option (Fl ((List UInt8) × Int) (List UInt8)) :=
 if (decide (s10.2 < 32)) = true then ((ZH p0 s10.2).bind fun x18=>(app 1 s10.1 ([x18] : List UInt8)).bind fun l22=>some (Fl.nx ((s10.1 ++ ([x18] : List UInt8)),wr (s10.2 + 1)))) else (some (Fl.ex s10.1))
def Wa (p0 : (Vector UInt8 32)) : Option ((List UInt8)) :=
 (ZB (V4 p0) (([] : List UInt8),0)).bind fun j5=>some j5
theorem Qz (w0 : World) (p0 : (Vector UInt8 32)) (r : (List UInt8)) (hF : Wa p0 = some r) :
  Calls Tryz.prog 190 [(Value.agg (enc p0).toArray)].toArray w0 (fun en w'=>∃ v,en = .returned v ∧ (∃ (y1 : Value),v = y1 ∧ Fr w0 w' [osl NoB (r : List UInt8) y1] ∧ Kept (Old w0) w0 w')):=by
 refine ce Tryz.func190 ?_
 intro a hE
 have hM:=M.start w0
 unfold Wa at hF
 refine Zb (ZT (cs:=enc p0) hE hM Za ld rfl rfl fun b1 w a hM hE=>Zc hE rfl fun a hE=>Ze (Zb (ZP (xs:=[]) (l:=([] : List UInt8)) (vs:=[]) hE hM Za ld rfl rfl Tryz.underlying40 ty5 rfl (by decide) rfl fun u3 w a hM hE=>Zc hE rfl fun a hE=>Ze (wp_seq (Zb (Zc hE rfl fun a hE=>Ze ?_))))))
 obtain ⟨j5,hl6,hF7⟩:=bind_some hF
 refine ZJ (fun a w=>∃ (u8 : Value),Env 17 a [(3,u8)] ∧ M (Old w0) w0 w [osl NoB (j5 : List UInt8) u8]) ?_ ?_
 ·skip
  refine wp_block ?_
  have hM:=hM.pull1
  refine ZC (fun (s10 : (List UInt8) × Int) a w=>∃ (u11 : Value),Env 17 a [(1,(ptr b1 0)),(3,u11),(4,vI s10.2)] ∧ M (Old w0) w0 w [raw b1 (enc p0),osl NoB (s10.1 : List UInt8) u11]) hl6 ⟨u3,hE.sub ⟨rfl,rfl,rfl,trivial⟩,hM⟩ ?_
  rintro s10 a w ⟨u11,hE,hM⟩ o15 hs13 hx14
  unfold V4 at hs13
  refine wp_seq (Zb (Zd hE rfl fun a hE=>Zi hE rfl rfl rfl fun a hE=>Ze ?_))
  refine Zo hE rfl ?_ ?_
  ·intro hb16
   have hs13:=Zs hs13 hb16
   refine wp_skip (Zu (wp_seq (wp_block (wp_region_lit (Zd hE rfl fun a hE=>Zd hE rfl ?_))))); intro a hE
   obtain ⟨x18,hi17,hs13⟩:=bvx hs13
   refine ZD hE rfl rfl Tryz.underlying35 ty5 hi17.1 fun a hE=>Zw (v:=(vB x18)) hE rfl ty5 rfl (At.vec hM.rawAt0 hi17.2) fun a hE=>ZP (xs:=[.tmp 13]) (l:=([x18] : List UInt8)) (vs:=[vB x18]) hE hM Za ld rfl rfl Tryz.underlying40 ty5 rfl (by decide) rfl ?_; intro u20 w a hM hE
   obtain ⟨l22,e23,hs13⟩:=bind_some hs13
   obtain ⟨e26,rfl⟩:=ZS e23
   have hM:=hM.pull2
   refine Z0 hE hM Za ld rfl rfl (hM.sl (pre:=[_]) noB) Tryz.underlying40 ty5 rfl (by decide) e26 fun u24 w a hM hE=>Zc hE rfl fun a hE=>Zf (Z4 (Zu (wp_region_lit (Zd hE rfl fun a hE=>Zi hE rfl rfl rfl fun a hE=>Zc hE rfl fun a hE=>Zf (Zh ?_)))))
   have hM:=M.fst (l:=[_,_]) hM.pull2
   exact ⟨_,(ois hs13),u24,hE.sub ⟨rfl,rfl,rfl,trivial⟩,hM⟩
  ·intro hb16
   have hs13:=Zt hs13 hb16
   refine wp_exit (Zl (Zl (Z5 ?_)))
   obtain rfl:=hx14 _ (ois hs13)
   refine Zh ?_
   have hM:=M.fst (l:=[_]) hM.pull1
   exact ⟨u11,hE.sub ⟨rfl,trivial⟩,hM⟩
 ·skip
  rintro a w ⟨u8,hE,hM⟩
  refine Zu (Zb (Zd hE rfl fun a hE=>Zc hE rfl fun a hE=>Ze ?_))
  obtain rfl:=Option.some.inj hF7
  exact wp_ret (ZN hE rfl (ZY hE rfl) ⟨_,rfl,u8,rfl,hM.outF (Wm XZ),hM.kept⟩)
def V0 (p0 : Int) : Option ((List UInt8)) :=
 some ([Zv (QM (TB p0 24) 255),Zv (QM (TB p0 16) 255),Zv (QM (TB p0 8) 255),Zv (QM p0 255)] : List UInt8)
theorem K5 (w0 : World) (p0 : Int) (r : (List UInt8)) (hF : V0 p0 = some r) :
  Calls Tryz.prog 155 [vI p0].toArray w0 (fun en w'=>∃ v,en = .returned v ∧ (∃ (y1 : Value),v = y1 ∧ Fr w0 w' [osl NoB (r : List UInt8) y1] ∧ Kept (Old w0) w0 w')):=by
 refine ce Tryz.func155 ?_
 intro a hE
 have hM:=M.start w0
 unfold V0 at hF
 refine Zb (Zc hE rfl fun a hE=>Ze (Zb (Zd hE rfl fun a hE=>Bw hE Za ld rfl rfl (JY _ _ (by decide)) fun a hE=>Zi hE rfl rfl rfl fun a hE=>Yj hE Za ld rfl Tryz.underlying2 Tryz.underlying5 fun a hE=>Zd hE rfl fun a hE=>Bw hE Za ld rfl rfl (JY _ _ (by decide)) fun a hE=>Zi hE rfl rfl rfl fun a hE=>Yj hE Za ld rfl Tryz.underlying2 Tryz.underlying5 fun a hE=>Zd hE rfl fun a hE=>Bw hE Za ld rfl rfl (JY _ _ (by decide)) fun a hE=>Zi hE rfl rfl rfl ?_))); intro a hE
 refine Yj hE Za ld rfl Tryz.underlying2 Tryz.underlying5 fun a hE=>Zd hE rfl fun a hE=>Zi hE rfl rfl rfl fun a hE=>Yj hE Za ld rfl Tryz.underlying2 Tryz.underlying5 fun a hE=>ZP (xs:=[.tmp 6,.tmp 10,.tmp 14,.tmp 17]) (l:=([Zv (QM (TB p0 24) 255),Zv (QM (TB p0 16) 255),Zv (QM (TB p0 8) 255),Zv (QM p0 255)] : List UInt8)) (vs:=[(vB (Zv (QM (TB p0 24) 255))),(vB (Zv (QM (TB p0 16) 255))),(vB (Zv (QM (TB p0 8) 255))),(vB (Zv (QM p0 255)))]) hE hM Za ld rfl rfl Tryz.underlying40 ty5 rfl (by decide) rfl fun u1 w a hM hE=>Zc hE rfl fun a hE=>Ze ?_
 obtain rfl:=Option.some.inj hF
 exact wp_ret (ZN hE rfl (ZY hE rfl) ⟨_,rfl,u1,rfl,hM.outF (Wm XZ),hM.kept⟩)
def Tb (p0 : (Vector UInt8 32)) (p1 : GEvent) : Option ((Vector UInt8 32)) :=
 ((Wa p0).bind fun r13=>(app 1 r13 ([Zv p1.Kind] : List UInt8)).bind fun l18=>some (r13 ++ ([Zv p1.Kind] : List UInt8)) : Option ((List UInt8))).bind fun j7=>(V0 p1.Number).bind fun r24=>(app 1 j7 r24).bind fun l27=>((Xz).bind fun r36=>(Wa p1.Tag).bind fun r38=>(app 1 (j7 ++ r24) r38).bind fun l41=>(Wk r36 ((j7 ++ r24) ++ r38)).bind fun r46=>some r46 : Option ((Vector UInt8 32))).bind fun j32=>some j32
theorem zw (w0 : World) (p0 : (Vector UInt8 32)) (p1 : GEvent) (r : (Vector UInt8 32)) (hF : Tb p0 p1 = some r) :
  Calls Tryz.prog 168 [(Value.agg (enc p0).toArray),(Value.agg (enc p1).toArray)].toArray w0 (Rt w0 (Value.agg (enc r).toArray)):=by
 refine ce Tryz.func168 ?_
 intro a hE
 have hM:=M.start w0
 unfold Tb at hF
 refine Zb (ZT (cs:=enc p0) hE hM Za ld rfl rfl fun b1 w a hM hE=>ZT (cs:=cat [[vI p1.Kind],[vI p1.Number],enc p1.Tag]) hE hM Za ld rfl rfl fun b3 w a hM hE=>Zz hE hM ZR fun b5 w a hM hE=>Ze ?_)
 obtain ⟨j7,hl8,hF9⟩:=bind_some hF
 refine ZI (fun a w=>∃ (u10 : Value),Env 25 a [(3,(ptr b3 0)),(4,(ptr b5 0)),(5,u10)] ∧ M (Old w0) w0 w [raw b5 (enc (Vector.replicate 32 (0 : UInt8))),raw b3 (cat [[vI p1.Kind],[vI p1.Number],enc p1.Tag]),osl NoB (j7 : List UInt8) u10]) ?_ ?_
 ·skip
  obtain ⟨r13,e14,hl8⟩:=bind_some hl8
  refine Xs (its:=[raw b5 (enc (Vector.replicate 32 (0 : UInt8))),raw b3 (cat [[vI p1.Kind],[vI p1.Number],enc p1.Tag]),raw b1 (enc p0)]) (mk:=([mkO 1 (fun v=>osl NoB (r13 : List UInt8) v),mkO 5 (fun v=>osl NoB (([Zv p1.Kind] : List UInt8) : List UInt8) v)] : Mk)) [6,7,8,9,10,11] Yy rfl rfl (by decide) rfl hE (fun u=>M.qE (M.qE (M.q0 hM.drew u) emO) emO) (qsP (v:=(Value.agg (enc p0).toArray)) ?_ (qsM (pr:=fun v=>True) ?_ (qsP (fun z=>Zq z.E Za ld rfl (UW) (kr0 rfl)) (qsP (v:=(vI p1.Kind)) ?_ (qsP (fun z=>Yj z.E Za ld rfl Tryz.underlying2 Tryz.underlying5 (kr0 rfl)) (qsM (pr:=fun v=>True) ?_ qs0)))))) ?_
  ·intro a w ux12 D z
   have hE:=z.E
   have hM:=z.M
   exact Zr hE rfl ZR rfl hM.rawAt2 (Flat.len _) fun a hE=>⟨Kept.refl _ _,_,rfl,hE⟩
  ·intro a w ux12 D z
   have hE:=z.E
   have hD : D 1 = false:=z.F
   have hM0:=z.M
   have hM:=z.M
   refine Zx hE rfl Zb6 (Qz _ p0 r13 e14) ?_
   rintro _ w a ⟨_,rfl,hFr,hK⟩ hE
   have hM:=hM0.add hK hFr
   exact ⟨_,_,rfl,hE,M.qFill (mk1:=[]) (mk2:=[_]) (f:=(fun v=>osl NoB (r13 : List UInt8) v)) hM rfl hD,trivial⟩
  ·intro a w ux12 D z
   have hE:=z.E
   have hM:=z.M
   exact Zw (v:=(vI p1.Kind)) hE rfl ty2 rfl (At.cat (pre:=[]) hM.rawAt1 cl0) fun a hE=>⟨Kept.refl _ _,_,rfl,hE⟩
  ·intro a w ux12 D z
   have hE:=z.E
   have hD : D 5 = false:=z.F
   have hM:=z.M
   exact ZP (xs:=[.tmp 10]) (l:=([Zv p1.Kind] : List UInt8)) (vs:=[(vB (Zv p1.Kind))]) hE hM Za ld rfl rfl Tryz.underlying40 ty5 rfl (by decide) rfl fun u16 w a hM hE=>⟨_,_,rfl,hE,M.qFill (mk1:=[_]) (mk2:=[]) (f:=(fun v=>osl NoB (([Zv p1.Kind] : List UInt8) : List UInt8) v)) hM rfl hD,trivial⟩
  ·intro a w ux12 D hE hM hG hall
   have d1:=hall 1 (by decide)
   have d5:=hall 5 (by decide)
   have hM:=(hM.sure (pre:=[_,_,_]) d1).sure (pre:=[_,_,_,_]) d5
   obtain ⟨l18,e19,hl8⟩:=bind_some hl8
   obtain ⟨e22,rfl⟩:=ZS e19
   have hM:=hM.pull3
   refine Z0 hE hM Za ld rfl rfl (hM.sl (pre:=[_,_,_,_]) noB) Tryz.underlying40 ty5 rfl (by decide) e22 fun u20 w a hM hE=>Zc hE rfl fun a hE=>Zf ?_
   obtain rfl:=Option.some.inj hl8
   refine Zh ?_
   have hM:=M.fst (l:=[_,_,_]) hM.pull2.pull2
   exact ⟨u20,hE.sub ⟨rfl,rfl,rfl,trivial⟩,hM⟩
 ·skip
  rintro a w ⟨u10,hE,hM⟩
  refine Zb (Zd hE rfl fun a hE=>Zg hE rfl (Tk) fun a hE=>Zw (v:=(vI p1.Number)) hE rfl ty2 rfl (At.cat (pre:=[[vI p1.Kind]]) hM.rawAt1 ck) ?_); intro a hE
  obtain ⟨r24,e25,hF9⟩:=bind_some hF9
  refine Zx hE rfl (cbm Tryz.func155) (K5 _ p1.Number r24 e25) ?_
  rintro u26 w a ⟨_,rfl,hFr,hK⟩ hE
  have hM:=hM.add hK hFr
  obtain ⟨l27,e28,hF9⟩:=bind_some hF9
  obtain ⟨e31,rfl⟩:=ZS e28
  have hM:=hM.pull3
  refine Z0 hE hM Za ld rfl rfl (hM.sl (pre:=[_]) noB) Tryz.underlying40 ty5 rfl (by decide) e31 fun u29 w a hM hE=>Zc hE rfl fun a hE=>Ze ?_
  obtain ⟨j32,hl33,hF34⟩:=bind_some hF9
  refine ZI (fun a w=>Env 25 a [(4,(ptr b5 0))] ∧ M (Old w0) w0 w [raw b5 (enc j32)]) ?_ ?_
  ·skip
   obtain ⟨r36,e37,hl33⟩:=bind_some hl33
   obtain ⟨r38,e39,hl33⟩:=bind_some hl33
   refine Xs (its:=[osl NoB ((j7 ++ r24) : List UInt8) u29,osl NoB (r24 : List UInt8) u26,raw b5 (enc (Vector.replicate 32 (0 : UInt8))),raw b3 (cat [[vI p1.Kind],[vI p1.Number],enc p1.Tag])]) (mk:=([mkO 4 (fun v=>osl NoB (r38 : List UInt8) v)] : Mk)) [18,19,20,21,22] Yy rfl rfl (by decide) rfl hE (fun u=>M.qE (M.q0 hM.drew u) emO) (qsP (fun z=>ZV z.E Za ld rfl Zc0 (Qm _  r36 e37) (kc rfl)) (qsP (fun z=>Zp z.E Za ld rfl (kr0 rfl)) (qsP (fun z=>Zq z.E Za ld rfl (Q8) (kr0 rfl)) (qsP (v:=(Value.agg (enc p1.Tag).toArray)) ?_ (qsM (pr:=fun v=>True) ?_ qs0))))) ?_
   ·intro a w ux35 D z
    have hE:=z.E
    have hM:=z.M
    exact Zr hE rfl ZR rfl (At.cat (pre:=[[vI p1.Kind],[vI p1.Number]]) hM.rawAt3 ck) (Flat.len _) fun a hE=>⟨Kept.refl _ _,_,rfl,hE⟩
   ·intro a w ux35 D z
    have hE:=z.E
    have hD : D 4 = false:=z.F
    have hM0:=z.M
    have hM:=z.M
    refine Zx hE rfl Zb6 (Qz _ p1.Tag r38 e39) ?_
    rintro _ w a ⟨_,rfl,hFr,hK⟩ hE
    have hM:=hM0.add hK hFr
    exact ⟨_,_,rfl,hE,M.qFill (mk1:=[]) (mk2:=[]) (f:=(fun v=>osl NoB (r38 : List UInt8) v)) hM rfl hD,trivial⟩
   ·intro a w ux35 D hE hM hG hall
    have d4:=hall 4 (by decide)
    have hM:=hM.sure (pre:=[_,_,_,_]) d4
    obtain ⟨l41,e42,hl33⟩:=bind_some hl33
    obtain ⟨e45,rfl⟩:=ZS e42
    refine Z0 hE hM Za ld rfl rfl (hM.sl (pre:=[_,_,_,_]) noB) Tryz.underlying40 ty5 rfl (by decide) e45 ?_; intro u43 w a hM hE
    obtain ⟨r46,e47,hl33⟩:=bind_some hl33
    refine Zx hE rfl qj (QL _ r36 ((j7 ++ r24) ++ r38) u43 (hM.sl (pre:=[]) noB) r46 e47) ?_
    rintro v w a ⟨rfl,hK⟩ hE
    have hM:=(hM.keep hK).pull2
    refine Zn (seg:=enc r46) (cs':=enc r46) hE hM Za rfl rfl rfl ZR (Flat.len _) (zle flq) (Flat.cell _) (Zk flq) fun w a hM hE=>Zf ?_
    obtain rfl:=Option.some.inj hl33
    refine Zh ?_
    have hM:=M.fst (l:=[_]) hM
    exact ⟨hE.sub ⟨rfl,trivial⟩,hM⟩
  ·skip
   rintro a w ⟨hE,hM⟩
   obtain rfl:=Option.some.inj hF34
   have hq49 : Yt Tryz.prog _ _ (.cell 4 35) _:=ZQ hE rfl ZR rfl hM.rawAt0 (Flat.len _) rfl
   exact wp_ret (ZN hE rfl hq49 ⟨_,rfl,rfl,hM.kept⟩)
def W6 (p0 : (List GEvent)) (s19 : (Vector UInt8 32) × Int) : Option (Fl ((Vector UInt8 32) × Int) (Vector UInt8 32)) :=
 if (decide (s19.2 < (p0.length : Int))) = true then ((idx p0 s19.2).bind fun x25=>(Tb s19.1 x25).bind fun r28=>some (Fl.nx (r28,wr (s19.2 + 1)))) else (some (Fl.ex s19.1))
def Te (p0 : (List GEvent)) : Option ((Vector UInt8 32)) :=
 (Xz).bind fun r4=>(mkS 1 (0 : UInt8) 32).bind fun l6=>(Wk r4 l6).bind fun r10=>(ZB (W6 p0) (r10,0)).bind fun j16=>some j16
theorem A9 (w0 : World) (p0 : (List GEvent)) (v0_1 : Value) (hv0_1 : Ro w0 p0 [v0_1]) (r : (Vector UInt8 32)) (hF : Te p0 = some r) :
  Calls Tryz.prog 110 [v0_1].toArray w0 (Rt w0 (Value.agg (enc r).toArray)):=by
 refine ce Tryz.func110 ?_
 intro a hE
 have hM:=M.start w0
 unfold Te at hF
 refine Zb (Zz hE hM ZR fun b1 w a hM hE=>Ze (wp_seq ?_))
 obtain ⟨r4,e5,hF⟩:=bind_some hF
 obtain ⟨l6,e7,hF⟩:=bind_some hF
 obtain ⟨r10,e11,hF⟩:=bind_some hF
 refine Xs (its:=[raw b1 (enc (Vector.replicate 32 (0 : UInt8)))]) (mk:=([mkO 1 (fun v=>osl NoB (l6 : List UInt8) v),mkO 3 (fun v=>TX v (enc (Vector.replicate 32 (0 : UInt8))))] : Mk)) [5,6,7,3] Yy rfl rfl (by decide) rfl hE (fun u=>M.qE (M.qE (M.q0 hM.drew u) emO) emO) (qsP (fun z=>ZV z.E Za ld rfl Zc0 (Qm _  r4 e5) (kc rfl)) (qsM (pr:=fun v=>True) ?_ (qsP (v:=(Value.agg (enc r10).toArray)) ?_ (qsM (pr:=fun v=>True) ?_ qs0)))) ?_
 ·intro a w ux3 D z
  have hE:=z.E
  have hD : D 1 = false:=z.F
  have hM:=z.M
  exact Bj hE hM Za ld rfl rfl Tryz.underlying40 ty5 rfl (by decide) (fun _=>TD.2 ⟨rfl,rfl⟩) e7 fun u8 w a hM hE=>⟨_,_,rfl,hE,M.qFill (mk1:=[]) (mk2:=[_]) (f:=(fun v=>osl NoB (l6 : List UInt8) v)) hM rfl hD,trivial⟩
 ·intro a w ux3 D z
  have hE:=z.E
  have d1 : D 1 = true:=z.p 1 _ rfl rfl
  have hM:=z.M.sure (pre:=[_]) d1
  refine Zx hE rfl qj (QL _ r4 l6 (ux3 1) (hM.sl (pre:=[_]) noB) r10 e11) ?_
  rintro v w a ⟨rfl,hK⟩ hE
  exact ⟨hK,_,rfl,hE⟩
 ·intro a w ux3 D z
  have hE:=z.E
  have hD : D 3 = false:=z.F
  have hM:=z.M
  refine Zz hE hM ZR ?_; intro b12 w a hM hE
  have hM:=hM.pack1 (it:=TX _ (enc (Vector.replicate 32 (0 : UInt8)))) (fun w w' fp ⟨b',e,k⟩ hb=>⟨b',e,Xf w w' fp k hb⟩) (fun fp k=>⟨_,rfl,k⟩)
  exact ⟨_,_,rfl,hE,M.qFill (mk1:=[_]) (mk2:=[]) (f:=fun v=>TX v (enc (Vector.replicate 32 (0 : UInt8)))) hM rfl hD,trivial⟩
 ·intro a w ux3 D hE hM hG hall
  have d1:=hall 1 (by decide)
  have d3:=hall 3 (by decide)
  have hM:=((hM.sure (pre:=[_]) d1).sure (pre:=[_,_]) d3).pull
  obtain ⟨_,⟨b14,f15,_⟩,_⟩:=hM.head
  have hM:=hM.pack1 Xf (it:=raw b14 (enc (Vector.replicate 32 (0 : UInt8)))) (fun fp ⟨b2,e2,k2⟩=>by rw [f15] at e2; simp [ptr] at e2; subst e2; exact k2)
  have hE:=hE.setq (t:=3) rfl f15
  refine Zn (seg:=enc r10) (cs':=enc r10) hE hM Za rfl rfl rfl ZR (Flat.len _) (zle flq) (Flat.cell _) (Zk flq) fun w a hM hE=>Zf (Zu (wp_seq (Zb (Zc hE rfl fun a hE=>Ze ?_))))
  obtain ⟨j16,hl17,hF18⟩:=bind_some hF
  refine ZJ (fun a w=>Env 21 a [(2,(ptr b1 0)),(3,(ptr b14 0))] ∧ M (Old w0) w0 w [raw b14 (enc j16),raw b1 (enc (Vector.replicate 32 (0 : UInt8)))]) ?_ ?_
  ·skip
   refine wp_block ?_
   have hM:=M.fst (l:=[_,_]) hM.pull1.pull1
   refine ZC (fun (s19 : (Vector UInt8 32) × Int) a w=>Env 21 a [(0,v0_1),(2,(ptr b1 0)),(3,(ptr b14 0)),(4,vI s19.2)] ∧ M (Old w0) w0 w [raw b14 (enc s19.1),raw b1 (enc (Vector.replicate 32 (0 : UInt8)))]) hl17 ⟨hE.sub ⟨rfl,rfl,rfl,rfl,trivial⟩,hM⟩ ?_
   rintro s19 a w ⟨hE,hM⟩ o22 hs20 hx21
   unfold W6 at hs20
   refine wp_seq (Zb (Zd hE rfl fun a hE=>Zd hE rfl fun a hE=>Z2 hE rfl Tryz.underlying56 (hM.rd hv0_1) fun a hE=>Zi hE rfl rfl rfl fun a hE=>Ze ?_))
   refine Zo hE rfl ?_ ?_
   ·intro hb23
    have hs20:=Zs hs20 hb23
    refine wp_skip (Zu (wp_seq (wp_block ?_)))
    obtain ⟨x25,hi27,hs20⟩:=bix hs20
    obtain ⟨r28,e29,hs20⟩:=bind_some hs20
    refine ZX [14,15,16,17,18,19] Yy rfl rfl (by decide) rfl hE hM (qsP (fun z=>Z1 z.E Za ld rfl ZR rfl (z.M.rawAt0) (Flat.len _) (kr0 rfl)) (qsP (fun z=>Zp z.E Za ld rfl (kr0 rfl)) (qsP (fun z=>Zp z.E Za ld rfl (kr0 rfl)) (qsP (fun z=>Yl z.E Za ld rfl rfl Tryz.underlying56 Xd (z.M.rd hv0_1) hi27.1 (kr0 rfl)) (qsP (fun z=>Z1 z.E Za ld rfl Xd rfl (Yp (z.M.rd hv0_1) hi27.2) cq (kr0 rfl)) (qsP (fun z=>ZV z.E Za ld rfl (cbm Tryz.func168) (zw _ s19.1 x25 r28 e29) (kc rfl)) qs0)))))) ?_
    ·intro a w u hE hM
     refine Zn (seg:=enc r28) (cs':=enc r28) hE hM Za rfl rfl rfl ZR (Flat.len _) (zle flq) (Flat.cell _) (Zk flq) fun w a hM hE=>Zf (Z4 (Zu (wp_region_lit (Zd hE rfl fun a hE=>Zi hE rfl rfl rfl fun a hE=>Zc hE rfl fun a hE=>Zf (Zh ?_)))))
     exact ⟨_,(ois hs20),hE.sub ⟨rfl,rfl,rfl,rfl,trivial⟩,hM⟩
   ·intro hb23
    have hs20:=Zt hs20 hb23
    refine wp_exit (Zl (Zl (Z5 ?_)))
    obtain rfl:=hx21 _ (ois hs20)
    refine Zh ?_
    exact ⟨hE.sub ⟨rfl,rfl,trivial⟩,hM⟩
  ·skip
   rintro a w ⟨hE,hM⟩
   refine Zu (Zb (Zr hE rfl ZR rfl hM.rawAt0 (Flat.len _) ?_)); intro a hE
   have hM:=hM.pull1
   refine Zn (seg:=enc j16) (cs':=enc j16) hE hM Za rfl rfl rfl ZR (Flat.len _) (zle flq) (Flat.cell _) (Zk flq) fun w a hM hE=>Ze ?_
   obtain rfl:=Option.some.inj hF18
   have hq31 : Yt Tryz.prog _ _ (.cell 2 35) _:=ZQ hE rfl ZR rfl hM.rawAt0 (Flat.len _) rfl
   exact wp_ret (ZN hE rfl hq31 ⟨_,rfl,rfl,hM.kept⟩)
def UG (p0 : (List Int)) : Option ((List Int)) :=
 (app 8 ([] : List Int) p0).bind fun l3=>some (([] : List Int) ++ p0)
theorem zE (w0 : World) (p0 : (List Int)) (v0_1 : Value) (hv0_1 : Ro w0 p0 [v0_1]) (r : (List Int)) (hF : UG p0 = some r) :
  Calls Tryz.prog 119 [v0_1].toArray w0 (fun en w'=>∃ v,en = .returned v ∧ (∃ (y1 : Value),v = y1 ∧ Fr w0 w' [osl NoB (r : List Int) y1] ∧ Kept (Old w0) w0 w')):=by
 refine ce Tryz.func119 ?_
 intro a hE
 have hM:=M.start w0
 unfold UG at hF
 refine Zb (Zc hE rfl fun a hE=>Ze (Zb (ZP (xs:=[]) (l:=([] : List Int)) (vs:=[]) hE hM Za ld rfl rfl Tryz.underlying24 ty2 rfl (by decide) rfl fun u1 w a hM hE=>Zd hE rfl ?_))); intro a hE
 obtain ⟨l3,e4,hF⟩:=bind_some hF
 have e7:=(ZS e4).1
 refine Z0 hE hM Za ld rfl rfl (hM.rd hv0_1) Tryz.underlying24 ty2 rfl (by decide) e7 fun u5 w a hM hE=>Zc hE rfl fun a hE=>Ze ?_
 obtain rfl:=Option.some.inj hF
 exact wp_ret (ZN hE rfl (ZY hE rfl) ⟨_,rfl,u5,rfl,hM.outF (Wm XZ),hM.kept⟩)
def WM (p0 : GVault) (s10 : (List Int) × Int) : Option (Fl ((List Int) × Int) (List Int)) :=
 if (decide (s10.2 < (p0.Records.length : Int))) = true then ((idx p0.Records s10.2).bind fun x17=>(app 8 s10.1 ([x17.Number] : List Int)).bind fun l29=>some (Fl.nx ((s10.1 ++ ([x17.Number] : List Int)),wr (s10.2 + 1)))) else (some (Fl.ex s10.1))
def XD (s40 : (List Int) × Int) (x52 : GEvent) (s58 : Int) : Option (Fl Int Int) :=
 (if (decide (s58 < (s40.1.length : Int))) = true then ((idx s40.1 s58).bind fun x66=>some (decide (x66 < x52.Number))) else (some false) : Option (Bool)).bind fun j62=>if j62 = true then (some (Fl.nx (wr (s58 + 1)))) else (some (Fl.ex s58))
def WL (p0 : GVault) (s40 : (List Int) × Int) : Option (Fl ((List Int) × Int) (List Int)) :=
 if (decide (s40.2 < (p0.Events.length : Int))) = true then (((idx p0.Events s40.2).bind fun x52=>(ZB (XD s40 x52) 0).bind fun j55=>(if (j55 == (s40.1.length : Int)) = true then (some true) else ((idx s40.1 j55).bind fun x78=>some (x78 != x52.Number)) : Option (Bool)).bind fun j73=>(if j73 = true then ((slc s40.1 j55 (s40.1.length : Int)).bind fun l90=>(app 8 ([x52.Number] : List Int) l90).bind fun l92=>(slc s40.1 (0 : Int) j55).bind fun l97=>(UG l97).bind fun r99=>(app 8 r99 (([x52.Number] : List Int) ++ l90)).bind fun l102=>some (r99 ++ (([x52.Number] : List Int) ++ l90))) else (some s40.1) : Option ((List Int))).bind fun j82=>some j82 : Option ((List Int))).bind fun j47=>some (Fl.nx (j47,wr (s40.2 + 1)))) else (some (Fl.ex s40.1))
def Ve (p0 : GVault) : Option ((List Int)) :=
 (ZB (WM p0) (([] : List Int),0)).bind fun j5=>(ZB (WL p0) (j5,0)).bind fun j35=>some j35
theorem Hm (w0 : World) (p0 : GVault) (v0_1 : Value) (hv0_1 : Ro w0 p0.Keys [v0_1]) (v0_2 : Value) (hv0_2 : Ro w0 p0.Records [v0_2]) (v0_3 : Value) (hv0_3 : Ro w0 p0.Events [v0_3]) (r : (List Int)) (hF : Ve p0 = some r) :
  Calls Tryz.prog 111 [(Value.agg (cat [[v0_1],[vI p0.Next],[v0_2],[v0_3],enc p0.Head]).toArray)].toArray w0 (fun en w'=>∃ v,en = .returned v ∧ (∃ (y1 : Value),v = y1 ∧ Fr w0 w' [osl NoB (r : List Int) y1] ∧ Kept (Old w0) w0 w')):=by
 refine ce Tryz.func111 ?_
 intro a hE
 have hM:=M.start w0
 unfold Ve at hF
 refine Zb (ZT (cs:=cat [[v0_1],[vI p0.Next],[v0_2],[v0_3],enc p0.Head]) hE hM Za ld rfl rfl fun b1 w a hM hE=>Zc hE rfl fun a hE=>Ze (Zb (ZP (xs:=[]) (l:=([] : List Int)) (vs:=[]) hE hM Za ld rfl rfl Tryz.underlying24 ty2 rfl (by decide) rfl fun u3 w a hM hE=>Zc hE rfl fun a hE=>Ze (wp_seq (Zb (Zc hE rfl fun a hE=>Ze ?_))))))
 obtain ⟨j5,hl6,hF7⟩:=bind_some hF
 refine ZJ (fun a w=>∃ (u8 : Value),Env 78 a [(1,(ptr b1 0)),(3,u8)] ∧ M (Old w0) w0 w [raw b1 (cat [[v0_1],[vI p0.Next],[v0_2],[v0_3],enc p0.Head]),osl NoB (j5 : List Int) u8]) ?_ ?_
 ·skip
  refine wp_block ?_
  have hM:=hM.pull1
  refine ZC (fun (s10 : (List Int) × Int) a w=>∃ (u11 : Value),Env 78 a [(1,(ptr b1 0)),(3,u11),(4,vI s10.2)] ∧ M (Old w0) w0 w [raw b1 (cat [[v0_1],[vI p0.Next],[v0_2],[v0_3],enc p0.Head]),osl NoB (s10.1 : List Int) u11]) hl6 ⟨u3,hE.sub ⟨rfl,rfl,rfl,trivial⟩,hM⟩ ?_
  rintro s10 a w ⟨u11,hE,hM⟩ o15 hs13 hx14
  unfold WM at hs13
  refine wp_seq (Zb (Zd hE rfl fun a hE=>Zg hE rfl (Vy) fun a hE=>Zw (v:=v0_2) hE rfl Q4 rfl (At.cat (pre:=[[v0_1],[vI p0.Next]]) hM.rawAt0 ck) fun a hE=>Z2 hE rfl Tryz.underlying55 (hM.rd hv0_2) fun a hE=>Zi hE rfl rfl rfl fun a hE=>Ze ?_))
  refine Zo hE rfl ?_ ?_
  ·intro hb16
   have hs13:=Zs hs13 hb16
   refine wp_skip (Zu (wp_seq (wp_block (wp_region_lit (Zd hE rfl fun a hE=>Zg hE rfl (Vy) fun a hE=>Zw (v:=v0_2) hE rfl Q4 rfl (At.cat (pre:=[[v0_1],[vI p0.Next]]) hM.rawAt0 ck) fun a hE=>Zd hE rfl ?_))))); intro a hE
   obtain ⟨x17,hi19,hs13⟩:=bix hs13
   refine ZL hE rfl rfl Tryz.underlying55 YA (hM.rd hv0_2) hi19.1 fun a hE=>Zg hE rfl (XX) ?_; intro a hE
   obtain ⟨cs20,hs21,hA22⟩:=X3 hv0_2 hi19.2 -- ^
   obtain ⟨u23,u25,rfl,h24,h26⟩:=Y1 hs21 -- ^
   refine Zw (v:=(vI x17.Number)) hE rfl ty2 rfl (At.cat (pre:=[]) (hM.atk hA22 (VR hv0_2 hi19.2)) cl0) fun a hE=>ZP (xs:=[.tmp 23]) (l:=([x17.Number] : List Int)) (vs:=[vI x17.Number]) hE hM Za ld rfl rfl Tryz.underlying24 ty2 rfl (by decide) rfl ?_; intro u27 w a hM hE
   obtain ⟨l29,e30,hs13⟩:=bind_some hs13
   obtain ⟨e33,rfl⟩:=ZS e30
   have hM:=hM.pull2
   refine Z0 hE hM Za ld rfl rfl (hM.sl (pre:=[_]) noB) Tryz.underlying24 ty2 rfl (by decide) e33 fun u31 w a hM hE=>Zc hE rfl fun a hE=>Zf (Z4 (Zu (wp_region_lit (Zd hE rfl fun a hE=>Zi hE rfl rfl rfl fun a hE=>Zc hE rfl fun a hE=>Zf (Zh ?_)))))
   have hM:=M.fst (l:=[_,_]) hM.pull2
   exact ⟨_,(ois hs13),u31,hE.sub ⟨rfl,rfl,rfl,trivial⟩,hM⟩
  ·intro hb16
   have hs13:=Zt hs13 hb16
   refine wp_exit (Zl (Zl (Z5 ?_)))
   obtain rfl:=hx14 _ (ois hs13)
   refine Zh ?_
   exact ⟨u11,hE.sub ⟨rfl,rfl,trivial⟩,hM⟩
 ·skip
  rintro a w ⟨u8,hE,hM⟩
  refine Zu (wp_seq (Zb (Zc hE rfl fun a hE=>Ze ?_)))
  obtain ⟨j35,hl36,hF37⟩:=bind_some hF7
  refine ZJ (fun a w=>∃ (u38 : Value),Env 78 a [(3,u38)] ∧ M (Old w0) w0 w [osl NoB (j35 : List Int) u38]) ?_ ?_
  ·skip
   refine wp_block ?_
   refine ZC (fun (s40 : (List Int) × Int) a w=>∃ (u41 : Value),Env 78 a [(1,(ptr b1 0)),(3,u41),(5,vI s40.2)] ∧ M (Old w0) w0 w [raw b1 (cat [[v0_1],[vI p0.Next],[v0_2],[v0_3],enc p0.Head]),osl NoB (s40.1 : List Int) u41]) hl36 ⟨u8,hE.sub ⟨rfl,rfl,rfl,trivial⟩,hM⟩ ?_
   rintro s40 a w ⟨u41,hE,hM⟩ o45 hs43 hx44
   unfold WL at hs43
   refine wp_seq (Zb (Zd hE rfl fun a hE=>Zg hE rfl (TZ) fun a hE=>Zw (v:=v0_3) hE rfl Jv rfl (At.cat (pre:=[[v0_1],[vI p0.Next],[v0_2]]) hM.rawAt0 ck) fun a hE=>Z2 hE rfl Tryz.underlying56 (hM.rd hv0_3) fun a hE=>Zi hE rfl rfl rfl fun a hE=>Ze ?_))
   refine Zo hE rfl ?_ ?_
   ·intro hb46
    have hs43:=Zs hs43 hb46
    refine wp_skip (Zu ?_)
    obtain ⟨j47,hl48,hF49⟩:=bind_some hs43
    refine ZI (fun a w=>∃ (u50 : Value),Env 78 a [(1,(ptr b1 0)),(3,u50),(5,vI s40.2)] ∧ M (Old w0) w0 w [raw b1 (cat [[v0_1],[vI p0.Next],[v0_2],[v0_3],enc p0.Head]),osl NoB (j47 : List Int) u50]) ?_ ?_
    ·skip
     refine wp_block (Zb (Zg hE rfl (TZ) fun a hE=>Zw (v:=v0_3) hE rfl Jv rfl (At.cat (pre:=[[v0_1],[vI p0.Next],[v0_2]]) hM.rawAt0 ck) fun a hE=>Zd hE rfl ?_)); intro a hE
     obtain ⟨x52,hi54,hl48⟩:=bix hl48
     refine ZL hE rfl rfl Tryz.underlying56 Xd (hM.rd hv0_3) hi54.1 fun a hE=>Zg hE rfl (Tk) fun a hE=>Zw (v:=(vI x52.Number)) hE rfl ty2 rfl (At.cat (pre:=[[vI x52.Kind]]) (Yp (hM.rd hv0_3) hi54.2) ck) fun a hE=>Zc hE rfl fun a hE=>Zc hE rfl fun a hE=>Ze ?_
     obtain ⟨j55,hl56,hF57⟩:=bind_some hl48
     refine ZI (fun a w=>Env 78 a [(1,(ptr b1 0)),(3,u41),(5,vI s40.2),(6,vI x52.Number),(7,vI j55)] ∧ M (Old w0) w0 w [raw b1 (cat [[v0_1],[vI p0.Next],[v0_2],[v0_3],enc p0.Head]),osl NoB (s40.1 : List Int) u41]) ?_ ?_
     ·skip
      refine wp_block ?_
      refine ZC (fun (s58 : Int) a w=>Env 78 a [(1,(ptr b1 0)),(3,u41),(5,vI s40.2),(6,vI x52.Number),(7,vI s58)] ∧ M (Old w0) w0 w [raw b1 (cat [[v0_1],[vI p0.Next],[v0_2],[v0_3],enc p0.Head]),osl NoB (s40.1 : List Int) u41]) hl56 ⟨hE.sub ⟨rfl,rfl,rfl,rfl,rfl,trivial⟩,hM⟩ ?_
      rintro s58 a w ⟨hE,hM⟩ o61 hs59 hx60
      unfold XD at hs59
      refine wp_seq ?_
      obtain ⟨j62,hl63,hF64⟩:=bind_some hs59
      refine ZI (fun a w=>Env 78 a [(1,(ptr b1 0)),(3,u41),(5,vI s40.2),(6,vI x52.Number),(7,vI s58),(50,vT j62)] ∧ M (Old w0) w0 w [raw b1 (cat [[v0_1],[vI p0.Next],[v0_2],[v0_3],enc p0.Head]),osl NoB (s40.1 : List Int) u41]) ?_ ?_
      ·skip
       refine wp_region_lit (Zd hE rfl fun a hE=>Zd hE rfl fun a hE=>Z2 hE rfl Tryz.underlying24 (hM.sl (pre:=[_]) noB) fun a hE=>Zi hE rfl rfl rfl fun a hE=>Zd hE rfl ?_); intro a hE
       refine YK (decide (s58 < (s40.1.length : Int))) (fun hb65=>?_) (fun hb65=>?_)
       ·have hl63:=Zs hl63 hb65
        refine Zp hE (Zj hE rfl (lkb rfl hb65)) (by decide) rfl fun a hE=>Zp hE (Zj hE rfl (lkb rfl hb65)) (by decide) rfl ?_; intro a hE
        obtain ⟨x66,hi68,hl63⟩:=bix hl63
        refine Yl hE (Zj hE rfl (lkb rfl hb65)) (by decide) rfl rfl Tryz.underlying24 ty2 (hM.sl (pre:=[_]) noB) hi68.1 fun a hE=>ZK (v:=(vI x66)) hE (Zj hE rfl (lkb rfl hb65)) (by decide) rfl ty2 rfl (Yp (hM.sl (pre:=[_]) noB) hi68.2) fun a hE=>Zp hE (Zj hE rfl (lkb rfl hb65)) (by decide) rfl fun a hE=>Ye hE (Zj hE rfl (lkb rfl hb65)) (by decide) rfl rfl rfl fun a hE=>Z8 hE (lkb rfl hb65) rfl fun a hE=>Zf ?_
        obtain rfl:=Option.some.inj hl63
        refine Zh ?_
        exact ⟨hE.sub ⟨rfl,rfl,rfl,rfl,rfl,rfl,trivial⟩,hM⟩
       ·have hl63:=Zt hl63 hb65
        refine Zm hE rfl (lkb rfl hb65) rfl (by decide) fun a hE=>Zm hE rfl (lkb rfl hb65) rfl (by decide) fun a hE=>Zm hE rfl (lkb rfl hb65) rfl (by decide) fun a hE=>Zm hE rfl (lkb rfl hb65) rfl (by decide) fun a hE=>Zm hE rfl (lkb rfl hb65) rfl (by decide) fun a hE=>Zm hE rfl (lkb rfl hb65) rfl (by decide) fun a hE=>YB hE (lkb rfl hb65) rfl fun a hE=>Zf ?_
        obtain rfl:=Option.some.inj hl63
        refine Zh ?_
        exact ⟨hE.sub ⟨rfl,rfl,rfl,rfl,rfl,rfl,trivial⟩,hM⟩
      ·skip
       rintro a w ⟨hE,hM⟩
       refine Zo hE rfl ?_ ?_
       ·intro hb71
        have hF64:=Zs hF64 hb71
        refine wp_skip (Zu (wp_block (wp_region_lit (Zd hE rfl fun a hE=>Zi hE rfl rfl rfl fun a hE=>Zc hE rfl fun a hE=>Zf (Z4 (Zh ?_))))))
        exact ⟨_,(ois hF64),hE.sub ⟨rfl,rfl,rfl,rfl,rfl,trivial⟩,hM⟩
       ·intro hb71
        have hF64:=Zt hF64 hb71
        refine wp_exit (Zl (Zl (Z5 ?_)))
        obtain rfl:=hx60 _ (ois hF64)
        refine Zh ?_
        exact ⟨hE.sub ⟨rfl,rfl,rfl,rfl,rfl,trivial⟩,hM⟩
     ·skip
      rintro a w ⟨hE,hM⟩
      obtain ⟨j73,hl74,hF75⟩:=bind_some hF57
      refine ZI (fun a w=>Env 78 a [(1,(ptr b1 0)),(3,u41),(5,vI s40.2),(6,vI x52.Number),(7,vI j55),(64,vT j73)] ∧ M (Old w0) w0 w [raw b1 (cat [[v0_1],[vI p0.Next],[v0_2],[v0_3],enc p0.Head]),osl NoB (s40.1 : List Int) u41]) ?_ ?_
      ·skip
       refine wp_region_lit (Zd hE rfl fun a hE=>Zd hE rfl fun a hE=>Z2 hE rfl Tryz.underlying24 (hM.sl (pre:=[_]) noB) fun a hE=>Zi hE rfl rfl rfl fun a hE=>Zd hE rfl ?_); intro a hE
       refine YK (j55 == (s40.1.length : Int)) (fun hb76=>?_) (fun hb76=>?_)
       ·have hl74:=Zs hl74 hb76
        refine Zm hE rfl (lkb rfl hb76) rfl (by decide) fun a hE=>Zm hE rfl (lkb rfl hb76) rfl (by decide) fun a hE=>Zm hE rfl (lkb rfl hb76) rfl (by decide) fun a hE=>Zm hE rfl (lkb rfl hb76) rfl (by decide) fun a hE=>Zm hE rfl (lkb rfl hb76) rfl (by decide) fun a hE=>Zm hE rfl (lkb rfl hb76) rfl (by decide) fun a hE=>Z8 hE (lkb rfl hb76) rfl fun a hE=>Zf ?_
        obtain rfl:=Option.some.inj hl74
        refine Zh ?_
        exact ⟨hE.sub ⟨rfl,rfl,rfl,rfl,rfl,rfl,trivial⟩,hM⟩
       ·have hl74:=Zt hl74 hb76
        refine Zp hE (Zj hE rfl (lkb rfl hb76)) (by decide) rfl fun a hE=>Zp hE (Zj hE rfl (lkb rfl hb76)) (by decide) rfl ?_; intro a hE
        obtain ⟨x78,hi80,hl74⟩:=bix hl74
        refine Yl hE (Zj hE rfl (lkb rfl hb76)) (by decide) rfl rfl Tryz.underlying24 ty2 (hM.sl (pre:=[_]) noB) hi80.1 fun a hE=>ZK (v:=(vI x78)) hE (Zj hE rfl (lkb rfl hb76)) (by decide) rfl ty2 rfl (Yp (hM.sl (pre:=[_]) noB) hi80.2) fun a hE=>Zp hE (Zj hE rfl (lkb rfl hb76)) (by decide) rfl fun a hE=>Ye hE (Zj hE rfl (lkb rfl hb76)) (by decide) rfl rfl rfl fun a hE=>YB hE (lkb rfl hb76) rfl fun a hE=>Zf ?_
        obtain rfl:=Option.some.inj hl74
        refine Zh ?_
        exact ⟨hE.sub ⟨rfl,rfl,rfl,rfl,rfl,rfl,trivial⟩,hM⟩
      ·skip
       rintro a w ⟨hE,hM⟩
       obtain ⟨j82,hl83,hF84⟩:=bind_some hF75
       refine ZJ (fun a w=>∃ (u85 : Value),Env 78 a [(1,(ptr b1 0)),(3,u85),(5,vI s40.2)] ∧ M (Old w0) w0 w [raw b1 (cat [[v0_1],[vI p0.Next],[v0_2],[v0_3],enc p0.Head]),osl NoB (j82 : List Int) u85]) ?_ ?_
       ·skip
        refine Zo hE rfl ?_ ?_
        ·intro hb87
         have hl83:=Zs hl83 hb87
         refine Zb (Zd hE rfl fun a hE=>ZP (xs:=[.tmp 65]) (l:=([x52.Number] : List Int)) (vs:=[vI x52.Number]) hE hM Za ld rfl rfl Tryz.underlying24 ty2 rfl (by decide) rfl fun u88 w a hM hE=>Zd hE rfl fun a hE=>Zd hE rfl ?_); intro a hE
         obtain ⟨l90,e91,hl83⟩:=bind_some hl83
         refine Hv hE Za ld rfl rfl rfl rfl rfl Tryz.underlying24 ty2 (hM.sl (pre:=[_,_]) noB) e91 ?_; intro a hE
         obtain ⟨l92,e93,hl83⟩:=bind_some hl83
         obtain ⟨e96,rfl⟩:=ZS e93
         refine Z0 hE hM Za ld rfl rfl (Xb (hM.sl (pre:=[_,_]) noB) e91) Tryz.underlying24 ty2 rfl (by decide) e96 fun u94 w a hM hE=>Zc hE rfl fun a hE=>Ze (wp_region_lit (Zd hE rfl fun a hE=>Zd hE rfl ?_)); intro a hE
         obtain ⟨l97,e98,hl83⟩:=bind_some hl83
         refine Hv hE Za ld rfl rfl rfl rfl rfl Tryz.underlying24 ty2 (hM.sl (pre:=[_,_]) noB) e98 ?_; intro a hE
         obtain ⟨r99,e100,hl83⟩:=bind_some hl83
         refine Zx hE rfl (cbm Tryz.func119) (zE _ l97 (Ya u41 ((0 : Int)).toNat (j55).toNat 1) (Xb (hM.sl (pre:=[_,_]) noB) e98) r99 e100) ?_
         rintro u101 w a ⟨_,rfl,hFr,hK⟩ hE
         have hM:=hM.add hK hFr
         refine Zd hE rfl ?_; intro a hE
         obtain ⟨l102,e103,hl83⟩:=bind_some hl83
         obtain ⟨e106,rfl⟩:=ZS e103
         refine Z0 hE hM Za ld rfl rfl (hM.sl (pre:=[_]) noB) Tryz.underlying24 ty2 rfl (by decide) e106 fun u104 w a hM hE=>Zc hE rfl fun a hE=>Zf ?_
         obtain rfl:=Option.some.inj hl83
         refine Zh ?_
         have hM:=M.fst (l:=[_,_]) hM.pull2
         exact ⟨u104,hE.sub ⟨rfl,rfl,rfl,trivial⟩,hM⟩
        ·intro hb87
         have hl83:=Zt hl83 hb87
         refine wp_skip ?_
         obtain rfl:=Option.some.inj hl83
         refine Zh ?_
         exact ⟨u41,hE.sub ⟨rfl,rfl,rfl,trivial⟩,hM⟩
       ·skip
        rintro a w ⟨u85,hE,hM⟩
        refine Z4 ?_
        obtain rfl:=Option.some.inj hF84
        refine Zh ?_
        exact ⟨u85,hE.sub ⟨rfl,rfl,rfl,trivial⟩,hM⟩
    ·skip
     rintro a w ⟨u50,hE,hM⟩
     refine wp_region_lit (Zd hE rfl fun a hE=>Zi hE rfl rfl rfl fun a hE=>Zc hE rfl fun a hE=>Zf (Zh ?_))
     exact ⟨_,(ois hF49),u50,hE.sub ⟨rfl,rfl,rfl,trivial⟩,hM⟩
   ·intro hb46
    have hs43:=Zt hs43 hb46
    refine wp_exit (Zl (Zl (Z5 ?_)))
    obtain rfl:=hx44 _ (ois hs43)
    refine Zh ?_
    have hM:=M.fst (l:=[_]) hM.pull1
    exact ⟨u41,hE.sub ⟨rfl,trivial⟩,hM⟩
  ·skip
   rintro a w ⟨u38,hE,hM⟩
   refine Zu (Zb (Zd hE rfl fun a hE=>Zc hE rfl fun a hE=>Ze ?_))
   obtain rfl:=Option.some.inj hF37
   exact wp_ret (ZN hE rfl (ZY hE rfl) ⟨_,rfl,u38,rfl,hM.outF (Wm XZ),hM.kept⟩)
def UI (p0 : (List GEvent)) (p1 : Int) (s8 : (Vector UInt8 32) × Bool × Int) : Option (Fl ((Vector UInt8 32) × Bool × Int) ((Vector UInt8 32) × Bool)) :=
 if (decide (s8.2.2 < (p0.length : Int))) = true then (((idx p0 s8.2.2).bind fun x16=>if (x16.Number != p1) = true then (some (s8.1,s8.2.1)) else ((((idx p0 s8.2.2).bind fun x27=>if (x27.Kind == 1) = true then (some true) else ((idx p0 s8.2.2).bind fun x32=>if (x32.Kind == 4) = true then (some s8.2.1) else (some false)) : Option (Bool)).bind fun j24=>(if j24 = true then ((idx p0 s8.2.2).bind fun x42=>some (x42.Tag,true)) else ((idx p0 s8.2.2).bind fun x46=>if (x46.Kind == 2) = true then (some (s8.1,false)) else (some (s8.1,s8.2.1))) : Option ((Vector UInt8 32) × Bool)).bind fun j38=>some (j38.1,j38.2) : Option ((Vector UInt8 32) × Bool)).bind fun j21=>some (j21.1,j21.2)) : Option ((Vector UInt8 32) × Bool)).bind fun j13=>some (Fl.nx (j13.1,j13.2,wr (s8.2.2 + 1)))) else (some (Fl.ex (s8.1,s8.2.1)))
def T6 (p0 : (List GEvent)) (p1 : Int) : Option ((Vector UInt8 32) × Bool) :=
 (ZB (UI p0 p1) ((Vector.replicate 32 (0 : UInt8)),false,0)).bind fun j5=>some (j5.1,j5.2)
theorem yI (w0 : World) (p0 : (List GEvent)) (v0_1 : Value) (hv0_1 : Ro w0 p0 [v0_1]) (p1 : Int) (r : (Vector UInt8 32) × Bool) (hF : T6 p0 p1 = some r) :
  Calls Tryz.prog 112 [v0_1,vI p1].toArray w0 (Rt w0 (Value.tuple [(Value.agg (enc r.1).toArray),vT r.2].toArray)):=by
 refine ce Tryz.func112 ?_
 intro a hE
 have hM:=M.start w0
 unfold T6 at hF
 refine Zb (Zz hE hM ZR fun b1 w a hM hE=>Zc hE rfl fun a hE=>Ze (Zb (Xu (parts:=[]) (vs:=[]) (cs:=enc (Vector.replicate 32 (0 : UInt8))) hE Za ld rfl rfl ZR rfl ty5 YU fun a hE=>Zz hE hM ZR fun b3 w a hM hE=>Zn (seg:=enc (Vector.replicate 32 (0 : UInt8))) (cs':=enc (Vector.replicate 32 (0 : UInt8))) hE hM Za rfl rfl rfl ZR (Flat.len _) (zle flq) (Flat.cell _) (Zk flq) fun w a hM hE=>Zc hE rfl fun a hE=>Ze (wp_seq (Zb (Zc hE rfl fun a hE=>Ze ?_))))))
 obtain ⟨j5,hl6,hF7⟩:=bind_some hF
 refine ZJ (fun a w=>Env 55 a [(4,(ptr b1 0)),(6,(ptr b3 0)),(7,vT j5.2)] ∧ M (Old w0) w0 w [raw b3 (enc j5.1),raw b1 (enc (Vector.replicate 32 (0 : UInt8)))]) ?_ ?_
 ·skip
  refine wp_block ?_
  refine ZC (fun (s8 : (Vector UInt8 32) × Bool × Int) a w=>Env 55 a [(0,v0_1),(1,vI p1),(4,(ptr b1 0)),(6,(ptr b3 0)),(7,vT s8.2.1),(8,vI s8.2.2)] ∧ M (Old w0) w0 w [raw b3 (enc s8.1),raw b1 (enc (Vector.replicate 32 (0 : UInt8)))]) hl6 ⟨hE.sub ⟨rfl,rfl,rfl,rfl,rfl,rfl,trivial⟩,hM⟩ ?_
  rintro s8 a w ⟨hE,hM⟩ o11 hs9 hx10
  unfold UI at hs9
  refine wp_seq (Zb (Zd hE rfl fun a hE=>Zd hE rfl fun a hE=>Z2 hE rfl Tryz.underlying56 (hM.rd hv0_1) fun a hE=>Zi hE rfl rfl rfl fun a hE=>Ze ?_))
  refine Zo hE rfl ?_ ?_
  ·intro hb12
   have hs9:=Zs hs9 hb12
   refine wp_skip (Zu ?_)
   obtain ⟨j13,hl14,hF15⟩:=bind_some hs9
   refine ZI (fun a w=>Env 55 a [(0,v0_1),(1,vI p1),(4,(ptr b1 0)),(6,(ptr b3 0)),(7,vT j13.2),(8,vI s8.2.2)] ∧ M (Old w0) w0 w [raw b3 (enc j13.1),raw b1 (enc (Vector.replicate 32 (0 : UInt8)))]) ?_ ?_
   ·skip
    refine wp_block (wp_seq (Zb (Zd hE rfl fun a hE=>Zd hE rfl ?_))); intro a hE
    obtain ⟨x16,hi18,hl14⟩:=bix hl14
    refine ZL hE rfl rfl Tryz.underlying56 Xd (hM.rd hv0_1) hi18.1 fun a hE=>Zg hE rfl (Tk) fun a hE=>Zw (v:=(vI x16.Number)) hE rfl ty2 rfl (At.cat (pre:=[[vI x16.Kind]]) (Yp (hM.rd hv0_1) hi18.2) ck) fun a hE=>Zd hE rfl fun a hE=>Zi hE rfl rfl rfl fun a hE=>Ze ?_
    refine Zo hE rfl ?_ ?_
    ·intro hb19
     have hl14:=Zs hl14 hb19
     refine wp_exit (Zl (Z5 ?_))
     obtain rfl:=Option.some.inj hl14
     refine Zh ?_
     exact ⟨hE.sub ⟨rfl,rfl,rfl,rfl,rfl,rfl,trivial⟩,hM⟩
    ·intro hb19
     have hl14:=Zt hl14 hb19
     refine wp_skip (Zu ?_)
     obtain ⟨j21,hl22,hF23⟩:=bind_some hl14
     refine ZJ (fun a w=>Env 55 a [(0,v0_1),(1,vI p1),(4,(ptr b1 0)),(6,(ptr b3 0)),(7,vT j21.2),(8,vI s8.2.2)] ∧ M (Old w0) w0 w [raw b3 (enc j21.1),raw b1 (enc (Vector.replicate 32 (0 : UInt8)))]) ?_ ?_
     ·skip
      refine wp_block ?_
      obtain ⟨j24,hl25,hF26⟩:=bind_some hl22
      refine ZI (fun a w=>Env 55 a [(0,v0_1),(1,vI p1),(4,(ptr b1 0)),(6,(ptr b3 0)),(7,vT s8.2.1),(8,vI s8.2.2),(23,vT j24)] ∧ M (Old w0) w0 w [raw b3 (enc s8.1),raw b1 (enc (Vector.replicate 32 (0 : UInt8)))]) ?_ ?_
      ·skip
       refine wp_region_lit (Zd hE rfl fun a hE=>Zd hE rfl ?_); intro a hE
       obtain ⟨x27,hi29,hl25⟩:=bix hl25
       refine ZL hE rfl rfl Tryz.underlying56 Xd (hM.rd hv0_1) hi29.1 fun a hE=>Zg hE rfl (UW) fun a hE=>Zw (v:=(vI x27.Kind)) hE rfl ty2 rfl (At.cat (pre:=[]) (Yp (hM.rd hv0_1) hi29.2) cl0) fun a hE=>Zi hE rfl rfl rfl fun a hE=>Zd hE rfl ?_; intro a hE
       refine YK (x27.Kind == 1) (fun hb30=>?_) (fun hb30=>?_)
       ·have hl25:=Zs hl25 hb30
        refine Zm hE rfl (lkb rfl hb30) rfl (by decide) fun a hE=>Zm hE rfl (lkb rfl hb30) rfl (by decide) fun a hE=>Zm hE rfl (lkb rfl hb30) rfl (by decide) fun a hE=>Zm hE rfl (lkb rfl hb30) rfl (by decide) fun a hE=>Zm hE rfl (lkb rfl hb30) rfl (by decide) fun a hE=>Zm hE rfl (lkb rfl hb30) rfl (by decide) fun a hE=>Zm hE rfl (lkb rfl hb30) rfl (by decide) fun a hE=>X6 hE rfl rfl (by decide) fun a hE=>Zm hE rfl (lkb rfl hb30) rfl (by decide) fun a hE=>Z8 hE (lkb rfl hb30) rfl fun a hE=>Zc hE rfl fun a hE=>Zf ?_
        obtain rfl:=Option.some.inj hl25
        refine Zh ?_
        exact ⟨hE.sub ⟨rfl,rfl,rfl,rfl,rfl,rfl,rfl,trivial⟩,hM⟩
       ·have hl25:=Zt hl25 hb30
        refine Zp hE (Zj hE rfl (lkb rfl hb30)) (by decide) rfl fun a hE=>Zp hE (Zj hE rfl (lkb rfl hb30)) (by decide) rfl ?_; intro a hE
        obtain ⟨x32,hi34,hl25⟩:=bix hl25
        refine Yl hE (Zj hE rfl (lkb rfl hb30)) (by decide) rfl rfl Tryz.underlying56 Xd (hM.rd hv0_1) hi34.1 fun a hE=>Zq hE (Zj hE rfl (lkb rfl hb30)) (by decide) rfl (UW) fun a hE=>ZK (v:=(vI x32.Kind)) hE (Zj hE rfl (lkb rfl hb30)) (by decide) rfl ty2 rfl (At.cat (pre:=[]) (Yp (hM.rd hv0_1) hi34.2) cl0) fun a hE=>Ye hE (Zj hE rfl (lkb rfl hb30)) (by decide) rfl rfl rfl fun a hE=>Zp hE (Zj hE rfl (lkb rfl hb30)) (by decide) rfl ?_; intro a hE
        refine YK (x32.Kind == 4) (fun hb35=>?_) (fun hb35=>?_)
        ·have hl25:=Zs hl25 hb35
         refine Zp hE (Zj hE rfl (lkb rfl hb35)) (by decide) rfl fun a hE=>Qr hE (Zj hE rfl (lkb rfl hb30)) (by decide) (lkb rfl hb35) rfl fun a hE=>YB hE (lkb rfl hb30) rfl fun a hE=>Zc hE rfl fun a hE=>Zf ?_
         obtain rfl:=Option.some.inj hl25
         refine Zh ?_
         exact ⟨hE.sub ⟨rfl,rfl,rfl,rfl,rfl,rfl,rfl,trivial⟩,hM⟩
        ·have hl25:=Zt hl25 hb35
         refine Zm hE rfl (lkb rfl hb35) rfl (by decide) fun a hE=>TQ hE (Zj hE rfl (lkb rfl hb30)) (by decide) (lkb rfl hb35) rfl fun a hE=>YB hE (lkb rfl hb30) rfl fun a hE=>Zc hE rfl fun a hE=>Zf ?_
         obtain rfl:=Option.some.inj hl25
         refine Zh ?_
         exact ⟨hE.sub ⟨rfl,rfl,rfl,rfl,rfl,rfl,rfl,trivial⟩,hM⟩
      ·skip
       rintro a w ⟨hE,hM⟩
       obtain ⟨j38,hl39,hF40⟩:=bind_some hF26
       refine ZJ (fun a w=>Env 55 a [(0,v0_1),(1,vI p1),(4,(ptr b1 0)),(6,(ptr b3 0)),(7,vT j38.2),(8,vI s8.2.2)] ∧ M (Old w0) w0 w [raw b3 (enc j38.1),raw b1 (enc (Vector.replicate 32 (0 : UInt8)))]) ?_ ?_
       ·skip
        refine Zo hE rfl ?_ ?_
        ·intro hb41
         have hl39:=Zs hl39 hb41
         refine Zb (Zd hE rfl fun a hE=>Zd hE rfl ?_); intro a hE
         obtain ⟨x42,hi44,hl39⟩:=bix hl39
         refine ZL hE rfl rfl Tryz.underlying56 Xd (hM.rd hv0_1) hi44.1 fun a hE=>Zg hE rfl (Q8) fun a hE=>Zr hE rfl ZR rfl (At.cat (pre:=[[vI x42.Kind],[vI x42.Number]]) (Yp (hM.rd hv0_1) hi44.2) ck) (Flat.len _) fun a hE=>Zn (seg:=enc x42.Tag) (cs':=enc x42.Tag) hE hM Za rfl rfl rfl ZR (Flat.len _) (zle flq) (Flat.cell _) (Zk flq) fun w a hM hE=>Ze (wp_region_lit (Zc hE rfl fun a hE=>Zf ?_))
         obtain rfl:=Option.some.inj hl39
         refine Zh ?_
         exact ⟨hE.sub ⟨rfl,rfl,rfl,rfl,rfl,rfl,trivial⟩,hM⟩
        ·intro hb41
         have hl39:=Zt hl39 hb41
         refine Zb (Zd hE rfl fun a hE=>Zd hE rfl ?_); intro a hE
         obtain ⟨x46,hi48,hl39⟩:=bix hl39
         refine ZL hE rfl rfl Tryz.underlying56 Xd (hM.rd hv0_1) hi48.1 fun a hE=>Zg hE rfl (UW) fun a hE=>Zw (v:=(vI x46.Kind)) hE rfl ty2 rfl (At.cat (pre:=[]) (Yp (hM.rd hv0_1) hi48.2) cl0) fun a hE=>Zi hE rfl rfl rfl fun a hE=>Zc hE rfl fun a hE=>Ze ?_
         refine Zo hE rfl ?_ ?_
         ·intro hb49
          have hl39:=Zs hl39 hb49
          refine wp_region_lit (Zc hE rfl fun a hE=>Zf ?_)
          obtain rfl:=Option.some.inj hl39
          refine Zh ?_
          exact ⟨hE.sub ⟨rfl,rfl,rfl,rfl,rfl,rfl,trivial⟩,hM⟩
         ·intro hb49
          have hl39:=Zt hl39 hb49
          refine wp_skip ?_
          obtain rfl:=Option.some.inj hl39
          refine Zh ?_
          exact ⟨hE.sub ⟨rfl,rfl,rfl,rfl,rfl,rfl,trivial⟩,hM⟩
       ·skip
        rintro a w ⟨hE,hM⟩
        refine Z4 ?_
        obtain rfl:=Option.some.inj hF40
        refine Zh ?_
        exact ⟨hE.sub ⟨rfl,rfl,rfl,rfl,rfl,rfl,trivial⟩,hM⟩
     ·skip
      rintro a w ⟨hE,hM⟩
      refine Z4 ?_
      obtain rfl:=Option.some.inj hF23
      refine Zh ?_
      exact ⟨hE.sub ⟨rfl,rfl,rfl,rfl,rfl,rfl,trivial⟩,hM⟩
   ·skip
    rintro a w ⟨hE,hM⟩
    refine wp_region_lit (Zd hE rfl fun a hE=>Zi hE rfl rfl rfl fun a hE=>Zc hE rfl fun a hE=>Zf (Zh ?_))
    exact ⟨_,(ois hF15),hE.sub ⟨rfl,rfl,rfl,rfl,rfl,rfl,trivial⟩,hM⟩
  ·intro hb12
   have hs9:=Zt hs9 hb12
   refine wp_exit (Zl (Zl (Z5 ?_)))
   obtain rfl:=hx10 _ (ois hs9)
   refine Zh ?_
   exact ⟨hE.sub ⟨rfl,rfl,rfl,trivial⟩,hM⟩
 ·skip
  rintro a w ⟨hE,hM⟩
  refine Zu (Zb (Zr hE rfl ZR rfl hM.rawAt0 (Flat.len _) fun a hE=>Zd hE rfl ?_)); intro a hE
  have hM:=hM.pull1
  refine Zn (seg:=enc j5.1) (cs':=enc j5.1) hE hM Za rfl rfl rfl ZR (Flat.len _) (zle flq) (Flat.cell _) (Zk flq) fun w a hM hE=>Zc hE rfl fun a hE=>Ze ?_
  obtain rfl:=Option.some.inj hF7
  have hq55 : Yt Tryz.prog _ _ (.cell 4 35) _:=ZQ hE rfl ZR rfl hM.rawAt0 (Flat.len _) rfl
  exact wp_ret (Ja hE rfl hq55 (ZY hE rfl) ⟨_,rfl,rfl,hM.kept⟩)
def Th (p0 : GVault) (p1 : Int) (s7 : Int) : Option (Fl Int (Fl Unit Int)) :=
 if (decide (s7 < (p0.Records.length : Int))) = true then ((idx p0.Records s7).bind fun x12=>if (x12.Number == p1) = true then (some (Fl.ex (Fl.ex s7))) else (some (Fl.nx (wr (s7 + 1))))) else (some (Fl.ex (Fl.nx ())))
def Uo (p0 : GVault) (p1 : Int) : Option (Int) :=
 (ZB (Th p0 p1) 0).bind fun j3=>j3.el (fun s6=>some (-1)) (fun r=>some r)
theorem BL (w0 : World) (p0 : GVault) (v0_1 : Value) (hv0_1 : Ro w0 p0.Keys [v0_1]) (v0_2 : Value) (hv0_2 : Ro w0 p0.Records [v0_2]) (v0_3 : Value) (hv0_3 : Ro w0 p0.Events [v0_3]) (p1 : Int) (r : Int) (hF : Uo p0 p1 = some r) :
  Calls Tryz.prog 80 [(Value.agg (cat [[v0_1],[vI p0.Next],[v0_2],[v0_3],enc p0.Head]).toArray),vI p1].toArray w0 (Rt w0 (vI r)):=by
 refine ce Tryz.func80 ?_
 intro a hE
 have hM:=M.start w0
 unfold Uo at hF
 refine Zb (ZT (cs:=cat [[v0_1],[vI p0.Next],[v0_2],[v0_3],enc p0.Head]) hE hM Za ld rfl rfl fun b1 w a hM hE=>Zc hE rfl fun a hE=>Ze (wp_seq (Zb (Zc hE rfl fun a hE=>Ze ?_))))
 obtain ⟨j3,hl4,hF5⟩:=bind_some hF
 refine ZJ (fun a w=>∃ s6 : Unit,j3 = Fl.nx s6 ∧ Env 22 a [] ∧ M (Old w0) w0 w []) ?_ ?_
 ·skip
  refine wp_block ?_
  refine ZC (fun (s7 : Int) a w=>Env 22 a [(1,vI p1),(2,(ptr b1 0)),(5,vI s7)] ∧ M (Old w0) w0 w [raw b1 (cat [[v0_1],[vI p0.Next],[v0_2],[v0_3],enc p0.Head])]) hl4 ⟨hE.sub ⟨rfl,rfl,rfl,trivial⟩,hM⟩ ?_
  rintro s7 a w ⟨hE,hM⟩ o10 hs8 hx9
  unfold Th at hs8
  refine wp_seq (Zb (Zd hE rfl fun a hE=>Zg hE rfl (Vy) fun a hE=>Zw (v:=v0_2) hE rfl Q4 rfl (At.cat (pre:=[[v0_1],[vI p0.Next]]) hM.rawAt0 ck) fun a hE=>Z2 hE rfl Tryz.underlying55 (hM.rd hv0_2) fun a hE=>Zi hE rfl rfl rfl fun a hE=>Ze ?_))
  refine Zo hE rfl ?_ ?_
  ·intro hb11
   have hs8:=Zs hs8 hb11
   refine wp_skip (Zu (wp_seq (wp_block (Zb (Zg hE rfl (Vy) fun a hE=>Zw (v:=v0_2) hE rfl Q4 rfl (At.cat (pre:=[[v0_1],[vI p0.Next]]) hM.rawAt0 ck) fun a hE=>Zd hE rfl ?_))))); intro a hE
   obtain ⟨x12,hi14,hs8⟩:=bix hs8
   refine ZL hE rfl rfl Tryz.underlying55 YA (hM.rd hv0_2) hi14.1 fun a hE=>Zg hE rfl (XX) ?_; intro a hE
   obtain ⟨cs15,hs16,hA17⟩:=X3 hv0_2 hi14.2 -- ^
   obtain ⟨u18,u20,rfl,h19,h21⟩:=Y1 hs16 -- ^
   refine Zw (v:=(vI x12.Number)) hE rfl ty2 rfl (At.cat (pre:=[]) (hM.atk hA17 (VR hv0_2 hi14.2)) cl0) fun a hE=>Zd hE rfl fun a hE=>Zi hE rfl rfl rfl fun a hE=>Ze ?_
   refine Zo hE rfl ?_ ?_
   ·intro hb22
    have hs8:=Zs hs8 hb22
    refine Zb (Zd hE rfl fun a hE=>Zc hE rfl fun a hE=>Ze ?_)
    obtain rfl:=hx9 _ (ois hs8)
    obtain rfl:=Option.some.inj hF5
    exact wp_ret (XH (ZA (ZA (XH (ZA (ZA (kr1 hE rfl rfl hM.kept)))))))
   ·intro hb22
    have hs8:=Zt hs8 hb22
    refine wp_skip (Z4 (Zu (wp_region_lit (Zd hE rfl fun a hE=>Zi hE rfl rfl rfl fun a hE=>Zc hE rfl fun a hE=>Zf (Zh ?_)))))
    exact ⟨_,(ois hs8),hE.sub ⟨rfl,rfl,rfl,trivial⟩,hM⟩
  ·intro hb11
   have hs8:=Zt hs8 hb11
   refine wp_exit (Zl (Zl (Z5 ?_)))
   obtain rfl:=hx9 _ (ois hs8)
   refine Zh ?_
   have hM:=M.fst (l:=[]) hM
   exact ⟨(),rfl,hE.sub trivial,hM⟩
 ·skip
  rintro a w ⟨s6,ht,hE,hM⟩
  subst ht
  have hF5:=Qu hF5
  refine Zu (Zb (Zc hE rfl fun a hE=>Ze ?_))
  obtain rfl:=Option.some.inj hF5
  exact wp_ret (kr1 hE rfl rfl hM.kept)
def TM (p0 : (List (Vector UInt8 16))) (s8 : (List UInt8) × Int) (s20 : (List UInt8) × Int) : Option (Fl ((List UInt8) × Int) (List UInt8)) :=
 if (decide (s20.2 < 16)) = true then ((idx p0 s8.2).bind fun x27=>(ZH x27 s20.2).bind fun x31=>(app 1 s20.1 ([x31] : List UInt8)).bind fun l35=>some (Fl.nx ((s20.1 ++ ([x31] : List UInt8)),wr (s20.2 + 1)))) else (some (Fl.ex s20.1))
def Vb (p0 : (List (Vector UInt8 16))) (s8 : (List UInt8) × Int) : Option (Fl ((List UInt8) × Int) (List UInt8)) :=
 if (decide (s8.2 < (p0.length : Int))) = true then ((ZB (TM p0 s8) (s8.1,0)).bind fun j15=>some (Fl.nx (j15,wr (s8.2 + 1)))) else (some (Fl.ex s8.1))
def VQ (p0 : (List (Vector UInt8 16))) : Option ((List UInt8)) :=
 (ZB (Vb p0) (([] : List UInt8),0)).bind fun j3=>some j3
theorem AP (w0 : World) (p0 : (List (Vector UInt8 16))) (v0_1 : Value) (hv0_1 : Ro w0 p0 [v0_1]) (r : (List UInt8)) (hF : VQ p0 = some r) :
  Calls Tryz.prog 156 [v0_1].toArray w0 (fun en w'=>∃ v,en = .returned v ∧ (∃ (y1 : Value),v = y1 ∧ Fr w0 w' [osl NoB (r : List UInt8) y1] ∧ Kept (Old w0) w0 w')):=by
 refine ce Tryz.func156 ?_
 intro a hE
 have hM:=M.start w0
 unfold VQ at hF
 refine Zb (Zc hE rfl fun a hE=>Ze (Zb (ZP (xs:=[]) (l:=([] : List UInt8)) (vs:=[]) hE hM Za ld rfl rfl Tryz.underlying40 ty5 rfl (by decide) rfl fun u1 w a hM hE=>Zc hE rfl fun a hE=>Ze (wp_seq (Zb (Zc hE rfl fun a hE=>Ze ?_))))))
 obtain ⟨j3,hl4,hF5⟩:=bind_some hF
 refine ZJ (fun a w=>∃ (u6 : Value),Env 27 a [(3,u6)] ∧ M (Old w0) w0 w [osl NoB (j3 : List UInt8) u6]) ?_ ?_
 ·skip
  refine wp_block ?_
  refine ZC (fun (s8 : (List UInt8) × Int) a w=>∃ (u9 : Value),Env 27 a [(0,v0_1),(3,u9),(4,vI s8.2)] ∧ M (Old w0) w0 w [osl NoB (s8.1 : List UInt8) u9]) hl4 ⟨u1,hE.sub ⟨rfl,rfl,rfl,trivial⟩,hM⟩ ?_
  rintro s8 a w ⟨u9,hE,hM⟩ o13 hs11 hx12
  unfold Vb at hs11
  refine wp_seq (Zb (Zd hE rfl fun a hE=>Zd hE rfl fun a hE=>Z2 hE rfl Tryz.underlying54 (hM.rd hv0_1) fun a hE=>Zi hE rfl rfl rfl fun a hE=>Ze ?_))
  refine Zo hE rfl ?_ ?_
  ·intro hb14
   have hs11:=Zs hs11 hb14
   refine wp_skip (Zu (wp_seq (wp_block (Zb (Zc hE rfl fun a hE=>Ze ?_)))))
   obtain ⟨j15,hl16,hF17⟩:=bind_some hs11
   refine ZJ (fun a w=>∃ (u18 : Value),Env 27 a [(0,v0_1),(3,u18),(4,vI s8.2)] ∧ M (Old w0) w0 w [osl NoB (j15 : List UInt8) u18]) ?_ ?_
   ·skip
    refine wp_block ?_
    refine ZC (fun (s20 : (List UInt8) × Int) a w=>∃ (u21 : Value),Env 27 a [(0,v0_1),(3,u21),(4,vI s8.2),(5,vI s20.2)] ∧ M (Old w0) w0 w [osl NoB (s20.1 : List UInt8) u21]) hl16 ⟨u9,hE.sub ⟨rfl,rfl,rfl,rfl,trivial⟩,hM⟩ ?_
    rintro s20 a w ⟨u21,hE,hM⟩ o25 hs23 hx24
    unfold TM at hs23
    refine wp_seq (Zb (Zd hE rfl fun a hE=>Zi hE rfl rfl rfl fun a hE=>Ze ?_))
    refine Zo hE rfl ?_ ?_
    ·intro hb26
     have hs23:=Zs hs23 hb26
     refine wp_skip (Zu (wp_seq (wp_block (wp_region_lit (Zd hE rfl fun a hE=>Zd hE rfl fun a hE=>Zd hE rfl fun a hE=>Zd hE rfl ?_))))); intro a hE
     obtain ⟨x27,hi29,hs23⟩:=bix hs23
     refine ZL hE rfl rfl Tryz.underlying54 ZF (hM.rd hv0_1) hi29.1 ?_; intro a hE
     obtain ⟨x31,hi30,hs23⟩:=bvx hs23
     refine ZD hE rfl rfl Tryz.underlying68 ty5 hi30.1 fun a hE=>Zw (v:=(vB x31)) hE rfl ty5 rfl (At.vec (Yp (hM.rd hv0_1) hi29.2) hi30.2) fun a hE=>ZP (xs:=[.tmp 23]) (l:=([x31] : List UInt8)) (vs:=[vB x31]) hE hM Za ld rfl rfl Tryz.underlying40 ty5 rfl (by decide) rfl ?_; intro u33 w a hM hE
     obtain ⟨l35,e36,hs23⟩:=bind_some hs23
     obtain ⟨e39,rfl⟩:=ZS e36
     have hM:=hM.pull1
     refine Z0 hE hM Za ld rfl rfl (hM.sl (pre:=[_]) noB) Tryz.underlying40 ty5 rfl (by decide) e39 fun u37 w a hM hE=>Zc hE rfl fun a hE=>Zf (Z4 (Zu (wp_region_lit (Zd hE rfl fun a hE=>Zi hE rfl rfl rfl fun a hE=>Zc hE rfl fun a hE=>Zf (Zh ?_)))))
     have hM:=M.fst (l:=[_]) hM
     exact ⟨_,(ois hs23),u37,hE.sub ⟨rfl,rfl,rfl,rfl,trivial⟩,hM⟩
    ·intro hb26
     have hs23:=Zt hs23 hb26
     refine wp_exit (Zl (Zl (Z5 ?_)))
     obtain rfl:=hx24 _ (ois hs23)
     refine Zh ?_
     exact ⟨u21,hE.sub ⟨rfl,rfl,rfl,trivial⟩,hM⟩
   ·skip
    rintro a w ⟨u18,hE,hM⟩
    refine Z4 (Zu (wp_region_lit (Zd hE rfl fun a hE=>Zi hE rfl rfl rfl fun a hE=>Zc hE rfl fun a hE=>Zf (Zh ?_))))
    exact ⟨_,(ois hF17),u18,hE.sub ⟨rfl,rfl,rfl,trivial⟩,hM⟩
  ·intro hb14
   have hs11:=Zt hs11 hb14
   refine wp_exit (Zl (Zl (Z5 ?_)))
   obtain rfl:=hx12 _ (ois hs11)
   refine Zh ?_
   exact ⟨u9,hE.sub ⟨rfl,trivial⟩,hM⟩
 ·skip
  rintro a w ⟨u6,hE,hM⟩
  refine Zu (Zb (Zd hE rfl fun a hE=>Zc hE rfl fun a hE=>Ze ?_))
  obtain rfl:=Option.some.inj hF5
  exact wp_ret (ZN hE rfl (ZY hE rfl) ⟨_,rfl,u6,rfl,hM.outF (Wm XZ),hM.kept⟩)
def Uf (p1 : UInt8) (s8 : (Vector UInt8 16) × Int) : Option (Fl ((Vector UInt8 16) × Int) (Vector UInt8 16)) :=
 if (decide (s8.2 < 16)) = true then ((ZH s8.1 s8.2).bind fun x14=>(ZH s8.1 s8.2).bind fun x17=>some (Fl.nx ((s8.1.setIfInBounds (s8.2).toNat (x14 ^^^ p1)),wr (s8.2 + 1)))) else (some (Fl.ex s8.1))
def Vt (p0 : (Vector UInt8 16)) (p1 : UInt8) : Option ((Vector UInt8 16)) :=
 (ZB (Uf p1) (p0,0)).bind fun j5=>some j5
end

end Go.Proofs.YtpibglnacohdkaaGreat
