/- The walk of what the law reaches: contracts of functions. -/
import Derived.Test.YtifdeoikcebbjaaGreatK2
import Derived.Test.YtifdeoikcebbjaaGreatProg
set_option linter.unusedVariables false
set_option linter.unusedSimpArgs false
set_option maxRecDepth 20000
set_option maxHeartbeats 400000
namespace Go.Proofs.YtifdeoikcebbjaaGreat
open Go
open Flat (enc)
noncomputable section
structure GRecord where
 Number : Int
 Version : Int
 Nonce : (Vector UInt8 16)
 Label : (List UInt8)
 Body : (List UInt8)
 Tag : (Vector UInt8 32)
 deriving DecidableEq,Inhabited
instance : Dat GRecord:=⟨fun x=>Dat.bd (α:=Int × Int × (Vector UInt8 16) × (List UInt8) × (List UInt8) × (Vector UInt8 32)) (x.Number,x.Version,x.Nonce,x.Label,x.Body,x.Tag),fun x=>Dat.sz (α:=Int × Int × (Vector UInt8 16) × (List UInt8) × (List UInt8) × (Vector UInt8 32)) (x.Number,x.Version,x.Nonce,x.Label,x.Body,x.Tag) + 1⟩
instance : Rep GRecord:=repIso (α:=Int × Int × (Vector UInt8 16) × (List UInt8) × (List UInt8) × (Vector UInt8 32)) (fun x=>(x.Number,x.Version,x.Nonce,x.Label,x.Body,x.Tag))
theorem U0 {S : Nat → Prop} {w : World} {x : GRecord} {cs : List Value} {fp : List Nat} (h : Rep.sat S w x cs fp) : ∃ (u1 : Value) (u2 : Value),∃ (g1 : List Nat) (g2 : List Nat),cs = cat [enc x.Number,enc x.Version,enc x.Nonce,[u1],[u2],enc x.Tag] ∧ fp = (g1 ++ g2) ∧ Rep.sat S w x.Label [u1] g1 ∧ Rep.sat S w x.Body [u2] g2:=by
 obtain ⟨c0,d0,f0,q0,rfl,rfl,h0,hr0⟩:=h
 obtain ⟨rfl,rfl⟩:=h0
 obtain ⟨c1,d1,f1,q1,rfl,rfl,h1,hr1⟩:=hr0
 obtain ⟨rfl,rfl⟩:=h1
 obtain ⟨c2,d2,f2,q2,rfl,rfl,h2,hr2⟩:=hr1
 obtain ⟨rfl,rfl⟩:=h2
 obtain ⟨c3,d3,f3,q3,rfl,rfl,h3,hr3⟩:=hr2
 obtain ⟨u1,rfl⟩:=T7 h3
 obtain ⟨c4,d4,f4,q4,rfl,rfl,h4,hr4⟩:=hr3
 obtain ⟨u2,rfl⟩:=T7 h4
 obtain ⟨rfl,rfl⟩:=hr4
 exact ⟨u1,u2,_,_,rfl,by simp,h3,h4⟩
theorem Hx {S : Nat → Prop} {w : World} {x : GRecord} {u1 u2 : Value} {fp : List Nat} (h : Rep.sat S w x (cat [enc x.Number,enc x.Version,enc x.Nonce,[u1],[u2],enc x.Tag]) fp) : ∃ (g1 : List Nat) (g2 : List Nat),fp = (g1 ++ g2) ∧ Rep.sat S w x.Label [u1] g1 ∧ Rep.sat S w x.Body [u2] g2:=by
 obtain ⟨w1,w2,g1,g2,hc,hf,s1,s2⟩:=U0 h
 obtain ⟨e1,k1⟩:=Ud hc rfl
 obtain ⟨e2,k2⟩:=Ud k1 rfl
 obtain ⟨e3,k3⟩:=Ud k2 rfl
 obtain ⟨e4,k4⟩:=Ud k3 rfl
 obtain ⟨e5,k5⟩:=Ud k4 rfl
 obtain rfl:=(List.cons.inj e4).1
 obtain rfl:=(List.cons.inj e5).1
 exact ⟨g1,g2,hf,s1,s2⟩
theorem Xe {S : Nat → Prop} {w : World} {x : GRecord} {cs : List Value} (h : Rep.sat S w x cs []) : ∃ u1 u2,cs = cat [enc x.Number,enc x.Version,enc x.Nonce,[u1],[u2],enc x.Tag] ∧ Rep.sat S w x.Label [u1] [] ∧ Rep.sat S w x.Body [u2] []:=by
 obtain ⟨c0,d0,f0,g0,rfl,hf0,h0,hr0⟩:=h
 obtain ⟨rfl,rfl⟩:=List.append_eq_nil_iff.1 hf0.symm
 obtain ⟨rfl,_⟩:=h0
 obtain ⟨c1,d1,f1,g1,rfl,hf1,h1,hr1⟩:=hr0
 obtain ⟨rfl,rfl⟩:=List.append_eq_nil_iff.1 hf1.symm
 obtain ⟨rfl,_⟩:=h1
 obtain ⟨c2,d2,f2,g2,rfl,hf2,h2,hr2⟩:=hr1
 obtain ⟨rfl,rfl⟩:=List.append_eq_nil_iff.1 hf2.symm
 obtain ⟨rfl,_⟩:=h2
 obtain ⟨c3,d3,f3,g3,rfl,hf3,h3,hr3⟩:=hr2
 obtain ⟨rfl,rfl⟩:=List.append_eq_nil_iff.1 hf3.symm
 obtain ⟨u1,rfl⟩:=T7 h3
 obtain ⟨c4,d4,f4,g4,rfl,hf4,h4,hr4⟩:=hr3
 obtain ⟨rfl,rfl⟩:=List.append_eq_nil_iff.1 hf4.symm
 obtain ⟨u2,rfl⟩:=T7 h4
 obtain ⟨rfl,_⟩:=hr4
 exact ⟨u1,u2,rfl,h3,h4⟩
theorem Vp {S : Nat → Prop} {w : World} {x : GRecord} {u1 u2 : Value} {g1 g2 fp : List Nat} (h1 : Rep.sat S w x.Label [u1] g1) (h2 : Rep.sat S w x.Body [u2] g2) (hfp : fp = (g1 ++ g2)) : Rep.sat S w x (cat [enc x.Number,enc x.Version,enc x.Nonce,[u1],[u2],enc x.Tag]) fp:=by
 rw [hfp]
 refine ⟨_,_,[],(g1 ++ g2),rfl,(by simp),⟨rfl,rfl⟩,?_⟩
 refine ⟨_,_,[],(g1 ++ g2),rfl,(by simp),⟨rfl,rfl⟩,?_⟩
 refine ⟨_,_,[],(g1 ++ g2),rfl,(by simp),⟨rfl,rfl⟩,?_⟩
 refine ⟨_,_,g1,g2,rfl,(by simp),h1,?_⟩
 refine ⟨_,_,g2,[],rfl,(by simp),h2,?_⟩
 exact ⟨rfl,rfl⟩
theorem zk (w : World) : Rep.sat NoB w (⟨(0 : Int),(0 : Int),(Vector.replicate 16 (0 : UInt8)),([] : (List UInt8)),([] : (List UInt8)),(Vector.replicate 32 (0 : UInt8))⟩ : GRecord) (cat [(enc (0 : Int)),(enc (0 : Int)),(enc (Vector.replicate 16 (0 : UInt8))),[.slice none 0 0],[.slice none 0 0],(enc (Vector.replicate 32 (0 : UInt8)))]) []:=Vp Qs Qs rfl
structure GEvent where
 Kind : Int
 Number : Int
 Tag : (Vector UInt8 32)
 deriving DecidableEq,Inhabited
instance : Dat GEvent:=⟨fun x=>Dat.bd (α:=Int × Int × (Vector UInt8 32)) (x.Kind,x.Number,x.Tag),fun x=>Dat.sz (α:=Int × Int × (Vector UInt8 32)) (x.Kind,x.Number,x.Tag) + 1⟩
instance : Flat GEvent where
 n:=34
 enc x:=cat [enc x.Kind,enc x.Number,enc x.Tag]
 len x:=Zh (cl1 (Flat.len _) (cl1 (Flat.len _) (cl1 (Flat.len _) cl0)))
 cell x:=Z5 (cc1 (Flat.cell _) (cc1 (Flat.cell _) (cc1 (Flat.cell _) cc0)))
structure GVault where
 Keys : (List (Vector UInt8 16))
 Next : Int
 Records : (List GRecord)
 Events : (List GEvent)
 Head : (Vector UInt8 32)
 deriving DecidableEq,Inhabited
instance : Dat GVault:=⟨fun x=>Dat.bd (α:=(List (Vector UInt8 16)) × Int × (List GRecord) × (List GEvent) × (Vector UInt8 32)) (x.Keys,x.Next,x.Records,x.Events,x.Head),fun x=>Dat.sz (α:=(List (Vector UInt8 16)) × Int × (List GRecord) × (List GEvent) × (Vector UInt8 32)) (x.Keys,x.Next,x.Records,x.Events,x.Head) + 1⟩
instance : Rep GVault:=repIso (α:=(List (Vector UInt8 16)) × Int × (List GRecord) × (List GEvent) × (Vector UInt8 32)) (fun x=>(x.Keys,x.Next,x.Records,x.Events,x.Head))
theorem yz {S : Nat → Prop} {w : World} {x : GVault} {cs : List Value} {fp : List Nat} (h : Rep.sat S w x cs fp) : ∃ (u1 : Value) (u2 : Value) (u3 : Value),∃ (g1 : List Nat) (g2 : List Nat) (g3 : List Nat),cs = cat [[u1],enc x.Next,[u2],[u3],enc x.Head] ∧ fp = (g1 ++ (g2 ++ g3)) ∧ Rep.sat S w x.Keys [u1] g1 ∧ Rep.sat S w x.Records [u2] g2 ∧ Rep.sat S w x.Events [u3] g3:=by
 obtain ⟨c0,d0,f0,q0,rfl,rfl,h0,hr0⟩:=h
 obtain ⟨u1,rfl⟩:=T7 h0
 obtain ⟨c1,d1,f1,q1,rfl,rfl,h1,hr1⟩:=hr0
 obtain ⟨rfl,rfl⟩:=h1
 obtain ⟨c2,d2,f2,q2,rfl,rfl,h2,hr2⟩:=hr1
 obtain ⟨u2,rfl⟩:=T7 h2
 obtain ⟨c3,d3,f3,q3,rfl,rfl,h3,hr3⟩:=hr2
 obtain ⟨u3,rfl⟩:=T7 h3
 obtain ⟨rfl,rfl⟩:=hr3
 exact ⟨u1,u2,u3,_,_,_,rfl,by simp,h0,h2,h3⟩
theorem TX {S : Nat → Prop} {w : World} {x : GVault} {u1 u2 u3 : Value} {fp : List Nat} (h : Rep.sat S w x (cat [[u1],enc x.Next,[u2],[u3],enc x.Head]) fp) : ∃ (g1 : List Nat) (g2 : List Nat) (g3 : List Nat),fp = (g1 ++ (g2 ++ g3)) ∧ Rep.sat S w x.Keys [u1] g1 ∧ Rep.sat S w x.Records [u2] g2 ∧ Rep.sat S w x.Events [u3] g3:=by
 obtain ⟨w1,w2,w3,g1,g2,g3,hc,hf,s1,s2,s3⟩:=yz h
 obtain ⟨e1,k1⟩:=Ud hc rfl
 obtain ⟨e2,k2⟩:=Ud k1 rfl
 obtain ⟨e3,k3⟩:=Ud k2 rfl
 obtain ⟨e4,k4⟩:=Ud k3 rfl
 obtain rfl:=(List.cons.inj e1).1
 obtain rfl:=(List.cons.inj e3).1
 obtain rfl:=(List.cons.inj e4).1
 exact ⟨g1,g2,g3,hf,s1,s2,s3⟩
theorem Vc {S : Nat → Prop} {w : World} {x : GVault} {cs : List Value} (h : Rep.sat S w x cs []) : ∃ u1 u2 u3,cs = cat [[u1],enc x.Next,[u2],[u3],enc x.Head] ∧ Rep.sat S w x.Keys [u1] [] ∧ Rep.sat S w x.Records [u2] [] ∧ Rep.sat S w x.Events [u3] []:=by
 obtain ⟨c0,d0,f0,g0,rfl,hf0,h0,hr0⟩:=h
 obtain ⟨rfl,rfl⟩:=List.append_eq_nil_iff.1 hf0.symm
 obtain ⟨u1,rfl⟩:=T7 h0
 obtain ⟨c1,d1,f1,g1,rfl,hf1,h1,hr1⟩:=hr0
 obtain ⟨rfl,rfl⟩:=List.append_eq_nil_iff.1 hf1.symm
 obtain ⟨rfl,_⟩:=h1
 obtain ⟨c2,d2,f2,g2,rfl,hf2,h2,hr2⟩:=hr1
 obtain ⟨rfl,rfl⟩:=List.append_eq_nil_iff.1 hf2.symm
 obtain ⟨u2,rfl⟩:=T7 h2
 obtain ⟨c3,d3,f3,g3,rfl,hf3,h3,hr3⟩:=hr2
 obtain ⟨rfl,rfl⟩:=List.append_eq_nil_iff.1 hf3.symm
 obtain ⟨u3,rfl⟩:=T7 h3
 obtain ⟨rfl,_⟩:=hr3
 exact ⟨u1,u2,u3,rfl,h0,h2,h3⟩
theorem TT {S : Nat → Prop} {w : World} {x : GVault} {u1 u2 u3 : Value} {g1 g2 g3 fp : List Nat} (h1 : Rep.sat S w x.Keys [u1] g1) (h2 : Rep.sat S w x.Records [u2] g2) (h3 : Rep.sat S w x.Events [u3] g3) (hfp : fp = (g1 ++ (g2 ++ g3))) : Rep.sat S w x (cat [[u1],enc x.Next,[u2],[u3],enc x.Head]) fp:=by
 rw [hfp]
 refine ⟨_,_,g1,(g2 ++ g3),rfl,(by simp),h1,?_⟩
 refine ⟨_,_,[],(g2 ++ g3),rfl,(by simp),⟨rfl,rfl⟩,?_⟩
 refine ⟨_,_,g2,g3,rfl,(by simp),h2,?_⟩
 refine ⟨_,_,g3,[],rfl,(by simp),h3,?_⟩
 exact ⟨rfl,rfl⟩
theorem qy (w : World) : Rep.sat NoB w (⟨([] : (List (Vector UInt8 16))),(0 : Int),([] : (List GRecord)),([] : (List GEvent)),(Vector.replicate 32 (0 : UInt8))⟩ : GVault) (cat [[.slice none 0 0],(enc (0 : Int)),[.slice none 0 0],[.slice none 0 0],(enc (Vector.replicate 32 (0 : UInt8)))]) []:=TT Qs Qs Qs rfl
structure GCipher where
 Field : Int
 Box : (Vector UInt8 256)
 Mix : (Vector (Vector UInt8 4) 4)
 Places : (Vector UInt8 16)
 Rounds : Int
 deriving DecidableEq,Inhabited
instance : Dat GCipher:=⟨fun x=>Dat.bd (α:=Int × (Vector UInt8 256) × (Vector (Vector UInt8 4) 4) × (Vector UInt8 16) × Int) (x.Field,x.Box,x.Mix,x.Places,x.Rounds),fun x=>Dat.sz (α:=Int × (Vector UInt8 256) × (Vector (Vector UInt8 4) 4) × (Vector UInt8 16) × Int) (x.Field,x.Box,x.Mix,x.Places,x.Rounds) + 1⟩
instance : Flat GCipher where
 n:=290
 enc x:=cat [enc x.Field,enc x.Box,enc x.Mix,enc x.Places,enc x.Rounds]
 len x:=Zh (cl1 (Flat.len _) (cl1 (Flat.len _) (cl1 (Flat.len _) (cl1 (Flat.len _) (cl1 (Flat.len _) cl0)))))
 cell x:=Z5 (cc1 (Flat.cell _) (cc1 (Flat.cell _) (cc1 (Flat.cell _) (cc1 (Flat.cell _) (cc1 (Flat.cell _) cc0)))))
structure Gengine where
 box : (Vector UInt8 256)
 backBox : (Vector UInt8 256)
 places : (Vector UInt8 16)
 backPlaces : (Vector UInt8 16)
 mixer : (Ref (Vector (Vector (Vector UInt8 256) 4) 4))
 backMixer : (Ref (Vector (Vector (Vector UInt8 256) 4) 4))
 rounds : Int
 deriving DecidableEq,Inhabited
instance : Dat Gengine:=⟨fun x=>Dat.bd (α:=(Vector UInt8 256) × (Vector UInt8 256) × (Vector UInt8 16) × (Vector UInt8 16) × (Ref (Vector (Vector (Vector UInt8 256) 4) 4)) × (Ref (Vector (Vector (Vector UInt8 256) 4) 4)) × Int) (x.box,x.backBox,x.places,x.backPlaces,x.mixer,x.backMixer,x.rounds),fun x=>Dat.sz (α:=(Vector UInt8 256) × (Vector UInt8 256) × (Vector UInt8 16) × (Vector UInt8 16) × (Ref (Vector (Vector (Vector UInt8 256) 4) 4)) × (Ref (Vector (Vector (Vector UInt8 256) 4) 4)) × Int) (x.box,x.backBox,x.places,x.backPlaces,x.mixer,x.backMixer,x.rounds) + 1⟩
instance : Rep Gengine:=repIso (α:=(Vector UInt8 256) × (Vector UInt8 256) × (Vector UInt8 16) × (Vector UInt8 16) × (Ref (Vector (Vector (Vector UInt8 256) 4) 4)) × (Ref (Vector (Vector (Vector UInt8 256) 4) 4)) × Int) (fun x=>(x.box,x.backBox,x.places,x.backPlaces,x.mixer,x.backMixer,x.rounds))
theorem yd {S : Nat → Prop} {w : World} {x : Gengine} {cs : List Value} {fp : List Nat} (h : Rep.sat S w x cs fp) : ∃ (u1 : Value) (u2 : Value),∃ (g1 : List Nat) (g2 : List Nat),cs = cat [enc x.box,enc x.backBox,enc x.places,enc x.backPlaces,[u1],[u2],enc x.rounds] ∧ fp = (g1 ++ g2) ∧ Rep.sat S w x.mixer [u1] g1 ∧ Rep.sat S w x.backMixer [u2] g2:=by
 obtain ⟨c0,d0,f0,q0,rfl,rfl,h0,hr0⟩:=h
 obtain ⟨rfl,rfl⟩:=h0
 obtain ⟨c1,d1,f1,q1,rfl,rfl,h1,hr1⟩:=hr0
 obtain ⟨rfl,rfl⟩:=h1
 obtain ⟨c2,d2,f2,q2,rfl,rfl,h2,hr2⟩:=hr1
 obtain ⟨rfl,rfl⟩:=h2
 obtain ⟨c3,d3,f3,q3,rfl,rfl,h3,hr3⟩:=hr2
 obtain ⟨rfl,rfl⟩:=h3
 obtain ⟨c4,d4,f4,q4,rfl,rfl,h4,hr4⟩:=hr3
 obtain ⟨u1,rfl⟩:=Bi h4
 obtain ⟨c5,d5,f5,q5,rfl,rfl,h5,hr5⟩:=hr4
 obtain ⟨u2,rfl⟩:=Bi h5
 obtain ⟨rfl,rfl⟩:=hr5
 exact ⟨u1,u2,_,_,rfl,by simp,h4,h5⟩
theorem qx {S : Nat → Prop} {w : World} {x : Gengine} {u1 u2 : Value} {fp : List Nat} (h : Rep.sat S w x (cat [enc x.box,enc x.backBox,enc x.places,enc x.backPlaces,[u1],[u2],enc x.rounds]) fp) : ∃ (g1 : List Nat) (g2 : List Nat),fp = (g1 ++ g2) ∧ Rep.sat S w x.mixer [u1] g1 ∧ Rep.sat S w x.backMixer [u2] g2:=by
 obtain ⟨w1,w2,g1,g2,hc,hf,s1,s2⟩:=yd h
 obtain ⟨e1,k1⟩:=Ud hc rfl
 obtain ⟨e2,k2⟩:=Ud k1 rfl
 obtain ⟨e3,k3⟩:=Ud k2 rfl
 obtain ⟨e4,k4⟩:=Ud k3 rfl
 obtain ⟨e5,k5⟩:=Ud k4 rfl
 obtain ⟨e6,k6⟩:=Ud k5 rfl
 obtain rfl:=(List.cons.inj e5).1
 obtain rfl:=(List.cons.inj e6).1
 exact ⟨g1,g2,hf,s1,s2⟩
theorem TV {S : Nat → Prop} {w : World} {x : Gengine} {cs : List Value} (h : Rep.sat S w x cs []) : ∃ u1 u2,cs = cat [enc x.box,enc x.backBox,enc x.places,enc x.backPlaces,[u1],[u2],enc x.rounds] ∧ Rep.sat S w x.mixer [u1] [] ∧ Rep.sat S w x.backMixer [u2] []:=by
 obtain ⟨c0,d0,f0,g0,rfl,hf0,h0,hr0⟩:=h
 obtain ⟨rfl,rfl⟩:=List.append_eq_nil_iff.1 hf0.symm
 obtain ⟨rfl,_⟩:=h0
 obtain ⟨c1,d1,f1,g1,rfl,hf1,h1,hr1⟩:=hr0
 obtain ⟨rfl,rfl⟩:=List.append_eq_nil_iff.1 hf1.symm
 obtain ⟨rfl,_⟩:=h1
 obtain ⟨c2,d2,f2,g2,rfl,hf2,h2,hr2⟩:=hr1
 obtain ⟨rfl,rfl⟩:=List.append_eq_nil_iff.1 hf2.symm
 obtain ⟨rfl,_⟩:=h2
 obtain ⟨c3,d3,f3,g3,rfl,hf3,h3,hr3⟩:=hr2
 obtain ⟨rfl,rfl⟩:=List.append_eq_nil_iff.1 hf3.symm
 obtain ⟨rfl,_⟩:=h3
 obtain ⟨c4,d4,f4,g4,rfl,hf4,h4,hr4⟩:=hr3
 obtain ⟨rfl,rfl⟩:=List.append_eq_nil_iff.1 hf4.symm
 obtain ⟨u1,rfl⟩:=Bi h4
 obtain ⟨c5,d5,f5,g5,rfl,hf5,h5,hr5⟩:=hr4
 obtain ⟨rfl,rfl⟩:=List.append_eq_nil_iff.1 hf5.symm
 obtain ⟨u2,rfl⟩:=Bi h5
 obtain ⟨rfl,_⟩:=hr5
 exact ⟨u1,u2,rfl,h4,h5⟩
theorem yo {S : Nat → Prop} {w : World} {x : Gengine} {u1 u2 : Value} {g1 g2 fp : List Nat} (h1 : Rep.sat S w x.mixer [u1] g1) (h2 : Rep.sat S w x.backMixer [u2] g2) (hfp : fp = (g1 ++ g2)) : Rep.sat S w x (cat [enc x.box,enc x.backBox,enc x.places,enc x.backPlaces,[u1],[u2],enc x.rounds]) fp:=by
 rw [hfp]
 refine ⟨_,_,[],(g1 ++ g2),rfl,(by simp),⟨rfl,rfl⟩,?_⟩
 refine ⟨_,_,[],(g1 ++ g2),rfl,(by simp),⟨rfl,rfl⟩,?_⟩
 refine ⟨_,_,[],(g1 ++ g2),rfl,(by simp),⟨rfl,rfl⟩,?_⟩
 refine ⟨_,_,[],(g1 ++ g2),rfl,(by simp),⟨rfl,rfl⟩,?_⟩
 refine ⟨_,_,g1,g2,rfl,(by simp),h1,?_⟩
 refine ⟨_,_,g2,[],rfl,(by simp),h2,?_⟩
 exact ⟨rfl,rfl⟩
theorem ty2 : Ty Tryz.prog 2 (.int .i64) 1 8 (enc (0 : Int)):=⟨Tryz.underlying2,by kernel_rfl⟩
theorem ty5 : Ty Tryz.prog 5 (.int .u8) 1 1 (enc (0 : UInt8)):=⟨Tryz.underlying5,by kernel_rfl⟩
theorem ty22 : Ty Tryz.prog 22 (.slice 67) 1 24 [.slice none 0 0]:=⟨Tryz.underlying22,by kernel_rfl⟩
theorem ty23 : Ty Tryz.prog 23 (.slice 160) 1 24 [.slice none 0 0]:=⟨Tryz.underlying23,by kernel_rfl⟩
theorem ty24 : Ty Tryz.prog 24 (.slice 179) 1 24 [.slice none 0 0]:=⟨Tryz.underlying24,by kernel_rfl⟩
theorem ty25 : Ty Tryz.prog 25 (.array 32 5) 32 32 (enc (Vector.replicate 32 (0 : UInt8))):=⟨Tryz.underlying25,by kernel_rfl⟩
theorem Am : Ty Tryz.prog 27 (.struct [{ name := "Keys", type := 22, offset := 0, embedded := false, tag := "", pkgPath := "", byteOffset := 0 }, { name := "Next", type := 2, offset := 1, embedded := false, tag := "", pkgPath := "", byteOffset := 24 }, { name := "Records", type := 23, offset := 2, embedded := false, tag := "", pkgPath := "", byteOffset := 32 }, { name := "Events", type := 24, offset := 3, embedded := false, tag := "", pkgPath := "", byteOffset := 56 }, { name := "Head", type := 25, offset := 4, embedded := false, tag := "", pkgPath := "", byteOffset := 80 }].toArray) 36 112 (cat [[.slice none 0 0], (enc (0 : Int)), [.slice none 0 0], [.slice none 0 0], (enc (Vector.replicate 32 (0 : UInt8)))]) := ⟨Tryz.underlying27, by kernel_rfl⟩
theorem Yy : Ty Tryz.prog 29 (.array 32 5) 32 32 (enc (Vector.replicate 32 (0 : UInt8))):=⟨Tryz.underlying29,by kernel_rfl⟩
theorem T1 : Ty Tryz.prog 32 (.slice 70) 1 24 [.slice none 0 0]:=⟨Tryz.underlying32,by kernel_rfl⟩
theorem QX : Ty Tryz.prog 33 (.slice 92) 1 24 [.slice none 0 0]:=⟨Tryz.underlying33,by kernel_rfl⟩
theorem QI : Ty Tryz.prog 34 (.slice 146) 1 24 [.slice none 0 0]:=⟨Tryz.underlying34,by kernel_rfl⟩
theorem Yx : Ty Tryz.prog 36 (.struct [{ name := "Keys", type := 32, offset := 0, embedded := false, tag := "", pkgPath := "", byteOffset := 0 }, { name := "Next", type := 2, offset := 1, embedded := false, tag := "", pkgPath := "", byteOffset := 24 }, { name := "Records", type := 33, offset := 2, embedded := false, tag := "", pkgPath := "", byteOffset := 32 }, { name := "Events", type := 34, offset := 3, embedded := false, tag := "", pkgPath := "", byteOffset := 56 }, { name := "Head", type := 29, offset := 4, embedded := false, tag := "", pkgPath := "", byteOffset := 80 }].toArray) 36 112 (cat [[.slice none 0 0], (enc (0 : Int)), [.slice none 0 0], [.slice none 0 0], (enc (Vector.replicate 32 (0 : UInt8)))]) := ⟨Tryz.underlying36, by kernel_rfl⟩
theorem Uu : Ty Tryz.prog 57 (.slice 5) 1 24 [.slice none 0 0]:=⟨Tryz.underlying57,by kernel_rfl⟩
theorem yu : Ty Tryz.prog 67 (.array 16 5) 16 16 (enc (Vector.replicate 16 (0 : UInt8))):=⟨Tryz.underlying67,by kernel_rfl⟩
theorem ZH : Ty Tryz.prog 70 (.array 16 5) 16 16 (enc (Vector.replicate 16 (0 : UInt8))):=⟨Tryz.underlying70,by kernel_rfl⟩
theorem XZ : Ty Tryz.prog 92 (.struct [{ name := "Number", type := 2, offset := 0, embedded := false, tag := "", pkgPath := "", byteOffset := 0 }, { name := "Version", type := 2, offset := 1, embedded := false, tag := "", pkgPath := "", byteOffset := 8 }, { name := "Nonce", type := 70, offset := 2, embedded := false, tag := "", pkgPath := "", byteOffset := 16 }, { name := "Label", type := 57, offset := 18, embedded := false, tag := "", pkgPath := "", byteOffset := 32 }, { name := "Body", type := 57, offset := 19, embedded := false, tag := "", pkgPath := "", byteOffset := 56 }, { name := "Tag", type := 29, offset := 20, embedded := false, tag := "", pkgPath := "", byteOffset := 80 }].toArray) 52 112 (cat [(enc (0 : Int)), (enc (0 : Int)), (enc (Vector.replicate 16 (0 : UInt8))), [.slice none 0 0], [.slice none 0 0], (enc (Vector.replicate 32 (0 : UInt8)))]) := ⟨Tryz.underlying92, by kernel_rfl⟩
theorem Y9 : Ty Tryz.prog 146 (.struct [{ name := "Kind", type := 2, offset := 0, embedded := false, tag := "", pkgPath := "", byteOffset := 0 }, { name := "Number", type := 2, offset := 1, embedded := false, tag := "", pkgPath := "", byteOffset := 8 }, { name := "Tag", type := 29, offset := 2, embedded := false, tag := "", pkgPath := "", byteOffset := 16 }].toArray) 34 48 (enc (⟨(0 : Int), (0 : Int), (Vector.replicate 32 (0 : UInt8))⟩ : GEvent)) := ⟨Tryz.underlying146, by kernel_rfl⟩
theorem KS : Ty Tryz.prog 160 (.struct [{ name := "Number", type := 2, offset := 0, embedded := false, tag := "", pkgPath := "", byteOffset := 0 }, { name := "Version", type := 2, offset := 1, embedded := false, tag := "", pkgPath := "", byteOffset := 8 }, { name := "Nonce", type := 67, offset := 2, embedded := false, tag := "", pkgPath := "", byteOffset := 16 }, { name := "Label", type := 57, offset := 18, embedded := false, tag := "", pkgPath := "", byteOffset := 32 }, { name := "Body", type := 57, offset := 19, embedded := false, tag := "", pkgPath := "", byteOffset := 56 }, { name := "Tag", type := 25, offset := 20, embedded := false, tag := "", pkgPath := "", byteOffset := 80 }].toArray) 52 112 (cat [(enc (0 : Int)), (enc (0 : Int)), (enc (Vector.replicate 16 (0 : UInt8))), [.slice none 0 0], [.slice none 0 0], (enc (Vector.replicate 32 (0 : UInt8)))]) := ⟨Tryz.underlying160, by kernel_rfl⟩
theorem AB : Ty Tryz.prog 166 (.array 256 5) 256 256 (enc (Vector.replicate 256 (0 : UInt8))):=⟨Tryz.underlying166,by kernel_rfl⟩
theorem XG : Ty Tryz.prog 167 (.array 256 5) 256 256 (enc (Vector.replicate 256 (0 : UInt8))):=⟨Tryz.underlying167,by kernel_rfl⟩
theorem XC : Ty Tryz.prog 168 (.array 4 5) 4 4 (enc (Vector.replicate 4 (0 : UInt8))):=⟨Tryz.underlying168,by kernel_rfl⟩
theorem UP : Ty Tryz.prog 170 (.array 4 168) 16 16 (enc (Vector.replicate 4 (Vector.replicate 4 (0 : UInt8)))):=⟨Tryz.underlying170,by kernel_rfl⟩
theorem Qc : Ty Tryz.prog 171 (.array 16 5) 16 16 (enc (Vector.replicate 16 (0 : UInt8))):=⟨Tryz.underlying171,by kernel_rfl⟩
theorem V4 : Ty Tryz.prog 173 (.struct [{ name := "Field", type := 2, offset := 0, embedded := false, tag := "", pkgPath := "", byteOffset := 0 }, { name := "Box", type := 167, offset := 1, embedded := false, tag := "", pkgPath := "", byteOffset := 8 }, { name := "Mix", type := 170, offset := 257, embedded := false, tag := "", pkgPath := "", byteOffset := 264 }, { name := "Places", type := 171, offset := 273, embedded := false, tag := "", pkgPath := "", byteOffset := 280 }, { name := "Rounds", type := 2, offset := 289, embedded := false, tag := "", pkgPath := "", byteOffset := 296 }].toArray) 290 304 (enc (⟨(0 : Int), (Vector.replicate 256 (0 : UInt8)), (Vector.replicate 4 (Vector.replicate 4 (0 : UInt8))), (Vector.replicate 16 (0 : UInt8)), (0 : Int)⟩ : GCipher)) := ⟨Tryz.underlying173, by kernel_rfl⟩
theorem ya : Ty Tryz.prog 179 (.struct [{ name := "Kind", type := 2, offset := 0, embedded := false, tag := "", pkgPath := "", byteOffset := 0 }, { name := "Number", type := 2, offset := 1, embedded := false, tag := "", pkgPath := "", byteOffset := 8 }, { name := "Tag", type := 25, offset := 2, embedded := false, tag := "", pkgPath := "", byteOffset := 16 }].toArray) 34 48 (enc (⟨(0 : Int), (0 : Int), (Vector.replicate 32 (0 : UInt8))⟩ : GEvent)) := ⟨Tryz.underlying179, by kernel_rfl⟩
theorem jS : Ty Tryz.prog 241 (.pointer 267) 1 8 [.pointer none]:=⟨Tryz.underlying241,by kernel_rfl⟩
theorem HB : Ty Tryz.prog 244 (.struct [{ name := "box", type := 167, offset := 0, embedded := false, tag := "", pkgPath := "loop.example/g01182/impl", byteOffset := 0 }, { name := "backBox", type := 167, offset := 256, embedded := false, tag := "", pkgPath := "loop.example/g01182/impl", byteOffset := 256 }, { name := "places", type := 171, offset := 512, embedded := false, tag := "", pkgPath := "loop.example/g01182/impl", byteOffset := 512 }, { name := "backPlaces", type := 171, offset := 528, embedded := false, tag := "", pkgPath := "loop.example/g01182/impl", byteOffset := 528 }, { name := "mixer", type := 241, offset := 544, embedded := false, tag := "", pkgPath := "loop.example/g01182/impl", byteOffset := 544 }, { name := "backMixer", type := 241, offset := 545, embedded := false, tag := "", pkgPath := "loop.example/g01182/impl", byteOffset := 552 }, { name := "rounds", type := 2, offset := 546, embedded := false, tag := "", pkgPath := "loop.example/g01182/impl", byteOffset := 560 }].toArray) 547 568 (cat [(enc (Vector.replicate 256 (0 : UInt8))), (enc (Vector.replicate 256 (0 : UInt8))), (enc (Vector.replicate 16 (0 : UInt8))), (enc (Vector.replicate 16 (0 : UInt8))), [.pointer none], [.pointer none], (enc (0 : Int))]) := ⟨Tryz.underlying244, by kernel_rfl⟩
theorem BH : Ty Tryz.prog 265 (.array 4 166) 1024 1024 (enc (Vector.replicate 4 (Vector.replicate 256 (0 : UInt8)))):=⟨Tryz.underlying265,by kernel_rfl⟩
theorem ty267 : Ty Tryz.prog 267 (.array 4 265) 4096 4096 (enc (Vector.replicate 4 (Vector.replicate 4 (Vector.replicate 256 (0 : UInt8))))):=⟨Tryz.underlying267,by kernel_rfl⟩
theorem jT : Fd Tryz.prog 27 0 0:=Xn Am.und rfl rfl ty22 (by decide)
theorem fd27_1 : Fd Tryz.prog 27 1 1:=Xn Am.und rfl rfl ty2 (by decide)
theorem kC : Fd Tryz.prog 27 2 2:=Xn Am.und rfl rfl ty23 (by decide)
theorem jY : Fd Tryz.prog 27 3 3:=Xn Am.und rfl rfl ty24 (by decide)
theorem fd27_4 : Fd Tryz.prog 27 4 4:=Xn Am.und rfl rfl ty25 (by decide)
theorem Wl : Fd Tryz.prog 36 0 0:=Xn Yx.und rfl rfl T1 (by decide)
theorem Qo : Fd Tryz.prog 36 1 1:=Xn Yx.und rfl rfl ty2 (by decide)
theorem UC : Fd Tryz.prog 36 2 2:=Xn Yx.und rfl rfl QX (by decide)
theorem VH : Fd Tryz.prog 36 3 3:=Xn Yx.und rfl rfl QI (by decide)
theorem Jm : Fd Tryz.prog 36 4 4:=Xn Yx.und rfl rfl Yy (by decide)
theorem TU : Fd Tryz.prog 92 0 0:=Xn XZ.und rfl rfl ty2 (by decide)
theorem Q5 : Fd Tryz.prog 92 1 1:=Xn XZ.und rfl rfl ty2 (by decide)
theorem BD : Fd Tryz.prog 92 2 2:=Xn XZ.und rfl rfl ZH (by decide)
theorem T9 : Fd Tryz.prog 92 3 18:=Xn XZ.und rfl rfl Uu (by decide)
theorem Qr : Fd Tryz.prog 92 4 19:=Xn XZ.und rfl rfl Uu (by decide)
theorem BP : Fd Tryz.prog 92 5 20:=Xn XZ.und rfl rfl Yy (by decide)
theorem Qf : Fd Tryz.prog 146 0 0:=Xn Y9.und rfl rfl ty2 (by decide)
theorem Qe : Fd Tryz.prog 146 1 1:=Xn Y9.und rfl rfl ty2 (by decide)
theorem Q8 : Fd Tryz.prog 146 2 2:=Xn Y9.und rfl rfl Yy (by decide)
theorem k8 : Fd Tryz.prog 160 0 0:=Xn KS.und rfl rfl ty2 (by decide)
theorem qp : Fd Tryz.prog 160 1 1:=Xn KS.und rfl rfl ty2 (by decide)
theorem kT : Fd Tryz.prog 160 2 2:=Xn KS.und rfl rfl yu (by decide)
theorem jg : Fd Tryz.prog 160 3 18:=Xn KS.und rfl rfl Uu (by decide)
theorem jj : Fd Tryz.prog 160 4 19:=Xn KS.und rfl rfl Uu (by decide)
theorem qn : Fd Tryz.prog 160 5 20:=Xn KS.und rfl rfl ty25 (by decide)
theorem Bd : Fd Tryz.prog 173 0 0:=Xn V4.und rfl rfl ty2 (by decide)
theorem KO : Fd Tryz.prog 173 1 1:=Xn V4.und rfl rfl XG (by decide)
theorem JS : Fd Tryz.prog 173 2 257:=Xn V4.und rfl rfl UP (by decide)
theorem JD : Fd Tryz.prog 173 3 273:=Xn V4.und rfl rfl Qc (by decide)
theorem zx : Fd Tryz.prog 173 4 289:=Xn V4.und rfl rfl ty2 (by decide)
theorem qt : Fd Tryz.prog 179 0 0:=Xn ya.und rfl rfl ty2 (by decide)
theorem qo : Fd Tryz.prog 179 1 1:=Xn ya.und rfl rfl ty2 (by decide)
theorem qr : Fd Tryz.prog 179 2 2:=Xn ya.und rfl rfl ty25 (by decide)
theorem AW : Fd Tryz.prog 244 0 0:=Xn HB.und rfl rfl XG (by decide)
theorem fd244_1 : Fd Tryz.prog 244 1 256:=Xn HB.und rfl rfl XG (by decide)
theorem qq : Fd Tryz.prog 244 2 512:=Xn HB.und rfl rfl Qc (by decide)
theorem fd244_3 : Fd Tryz.prog 244 3 528:=Xn HB.und rfl rfl Qc (by decide)
theorem k9 : Fd Tryz.prog 244 4 544:=Xn HB.und rfl rfl jS (by decide)
theorem fd244_5 : Fd Tryz.prog 244 5 545:=Xn HB.und rfl rfl jS (by decide)
theorem qi : Fd Tryz.prog 244 6 546:=Xn HB.und rfl rfl ty2 (by decide)
theorem yl : Places Tryz.prog [{ name := "Keys", type := 32, offset := 0, embedded := false, tag := "", pkgPath := "", byteOffset := 0 }, { name := "Next", type := 2, offset := 1, embedded := false, tag := "", pkgPath := "", byteOffset := 24 }, { name := "Records", type := 33, offset := 2, embedded := false, tag := "", pkgPath := "", byteOffset := 32 }, { name := "Events", type := 34, offset := 3, embedded := false, tag := "", pkgPath := "", byteOffset := 56 }, { name := "Head", type := 29, offset := 4, embedded := false, tag := "", pkgPath := "", byteOffset := 80 }] [(0, 1), (1, 1), (2, 1), (3, 1), (4, 32)] := by show _ = _; kernel_rfl
theorem pl146 : Places Tryz.prog [{ name := "Kind", type := 2, offset := 0, embedded := false, tag := "", pkgPath := "", byteOffset := 0 }, { name := "Number", type := 2, offset := 1, embedded := false, tag := "", pkgPath := "", byteOffset := 8 }, { name := "Tag", type := 29, offset := 2, embedded := false, tag := "", pkgPath := "", byteOffset := 16 }] [(0, 1), (1, 1), (2, 32)] := by show _ = _; kernel_rfl
theorem pl173 : Places Tryz.prog [{ name := "Field", type := 2, offset := 0, embedded := false, tag := "", pkgPath := "", byteOffset := 0 }, { name := "Box", type := 167, offset := 1, embedded := false, tag := "", pkgPath := "", byteOffset := 8 }, { name := "Mix", type := 170, offset := 257, embedded := false, tag := "", pkgPath := "", byteOffset := 264 }, { name := "Places", type := 171, offset := 273, embedded := false, tag := "", pkgPath := "", byteOffset := 280 }, { name := "Rounds", type := 2, offset := 289, embedded := false, tag := "", pkgPath := "", byteOffset := 296 }] [(0, 1), (1, 256), (257, 16), (273, 16), (289, 1)] := by show _ = _; kernel_rfl
theorem pl244 : Places Tryz.prog [{ name := "box", type := 167, offset := 0, embedded := false, tag := "", pkgPath := "loop.example/g01182/impl", byteOffset := 0 }, { name := "backBox", type := 167, offset := 256, embedded := false, tag := "", pkgPath := "loop.example/g01182/impl", byteOffset := 256 }, { name := "places", type := 171, offset := 512, embedded := false, tag := "", pkgPath := "loop.example/g01182/impl", byteOffset := 512 }, { name := "backPlaces", type := 171, offset := 528, embedded := false, tag := "", pkgPath := "loop.example/g01182/impl", byteOffset := 528 }, { name := "mixer", type := 241, offset := 544, embedded := false, tag := "", pkgPath := "loop.example/g01182/impl", byteOffset := 544 }, { name := "backMixer", type := 241, offset := 545, embedded := false, tag := "", pkgPath := "loop.example/g01182/impl", byteOffset := 552 }, { name := "rounds", type := 2, offset := 546, embedded := false, tag := "", pkgPath := "loop.example/g01182/impl", byteOffset := 560 }] [(0, 256), (256, 256), (512, 16), (528, 16), (544, 1), (545, 1), (546, 1)] := by show _ = _; kernel_rfl
theorem Y0 : Tryz.prog.follows .mixedOrders = true:=by kernel_rfl
theorem cb12 : Callable Tryz.prog 12:=⟨_,_,Tryz.func12,by decide,rfl⟩
theorem cb14 : Callable Tryz.prog 14:=⟨_,_,Tryz.func14,by decide,rfl⟩
theorem cb16 : Callable Tryz.prog 16:=⟨_,_,Tryz.func16,by decide,rfl⟩
theorem cb17 : Callable Tryz.prog 17:=⟨_,_,Tryz.func17,by decide,rfl⟩
theorem cb21 : Callable Tryz.prog 21:=⟨_,_,Tryz.func21,by decide,rfl⟩
theorem cb28 : Callable Tryz.prog 28:=⟨_,_,Tryz.func28,by decide,rfl⟩
theorem cb29 : Callable Tryz.prog 29:=⟨_,_,Tryz.func29,by decide,rfl⟩
theorem cb30 : Callable Tryz.prog 30:=⟨_,_,Tryz.func30,by decide,rfl⟩
theorem cb31 : Callable Tryz.prog 31:=⟨_,_,Tryz.func31,by decide,rfl⟩
theorem cb33 : Callable Tryz.prog 33:=⟨_,_,Tryz.func33,by decide,rfl⟩
theorem cb35 : Callable Tryz.prog 35:=⟨_,_,Tryz.func35,by decide,rfl⟩
theorem cb36 : Callable Tryz.prog 36:=⟨_,_,Tryz.func36,by decide,rfl⟩
theorem cb37 : Callable Tryz.prog 37:=⟨_,_,Tryz.func37,by decide,rfl⟩
theorem cb38 : Callable Tryz.prog 38:=⟨_,_,Tryz.func38,by decide,rfl⟩
theorem cb50 : Callable Tryz.prog 50:=⟨_,_,Tryz.func50,by decide,rfl⟩
theorem cb51 : Callable Tryz.prog 51:=⟨_,_,Tryz.func51,by decide,rfl⟩
theorem cb52 : Callable Tryz.prog 52:=⟨_,_,Tryz.func52,by decide,rfl⟩
theorem cb53 : Callable Tryz.prog 53:=⟨_,_,Tryz.func53,by decide,rfl⟩
theorem cb56 : Callable Tryz.prog 56:=⟨_,_,Tryz.func56,by decide,rfl⟩
theorem cb57 : Callable Tryz.prog 57:=⟨_,_,Tryz.func57,by decide,rfl⟩
theorem cb58 : Callable Tryz.prog 58:=⟨_,_,Tryz.func58,by decide,rfl⟩
theorem cb60 : Callable Tryz.prog 60:=⟨_,_,Tryz.func60,by decide,rfl⟩
theorem cb62 : Callable Tryz.prog 62:=⟨_,_,Tryz.func62,by decide,rfl⟩
theorem cb63 : Callable Tryz.prog 63:=⟨_,_,Tryz.func63,by decide,rfl⟩
theorem cb64 : Callable Tryz.prog 64:=⟨_,_,Tryz.func64,by decide,rfl⟩
theorem cb90 : Callable Tryz.prog 90:=⟨_,_,Tryz.func90,by decide,rfl⟩
theorem cb91 : Callable Tryz.prog 91:=⟨_,_,Tryz.func91,by decide,rfl⟩
theorem cb92 : Callable Tryz.prog 92:=⟨_,_,Tryz.func92,by decide,rfl⟩
theorem cb95 : Callable Tryz.prog 95:=⟨_,_,Tryz.func95,by decide,rfl⟩
theorem cb99 : Callable Tryz.prog 99:=⟨_,_,Tryz.func99,by decide,rfl⟩
theorem jZ : Callable Tryz.prog 105:=⟨_,_,Tryz.func105,by decide,rfl⟩
theorem cb106 : Callable Tryz.prog 106:=⟨_,_,Tryz.func106,by decide,rfl⟩
theorem cb107 : Callable Tryz.prog 107:=⟨_,_,Tryz.func107,by decide,rfl⟩
theorem cb108 : Callable Tryz.prog 108:=⟨_,_,Tryz.func108,by decide,rfl⟩
theorem cb109 : Callable Tryz.prog 109:=⟨_,_,Tryz.func109,by decide,rfl⟩
theorem cb110 : Callable Tryz.prog 110:=⟨_,_,Tryz.func110,by decide,rfl⟩
theorem cb111 : Callable Tryz.prog 111:=⟨_,_,Tryz.func111,by decide,rfl⟩
theorem zY : Callable Tryz.prog 112:=⟨_,_,Tryz.func112,by decide,rfl⟩
theorem cb113 : Callable Tryz.prog 113:=⟨_,_,Tryz.func113,by decide,rfl⟩
theorem cb114 : Callable Tryz.prog 114:=⟨_,_,Tryz.func114,by decide,rfl⟩
theorem cb115 : Callable Tryz.prog 115:=⟨_,_,Tryz.func115,by decide,rfl⟩
theorem cb120 : Callable Tryz.prog 120:=⟨_,_,Tryz.func120,by decide,rfl⟩
theorem cb123 : Callable Tryz.prog 123:=⟨_,_,Tryz.func123,by decide,rfl⟩
theorem cb127 : Callable Tryz.prog 127:=⟨_,_,Tryz.func127,by decide,rfl⟩
theorem yY : Callable Tryz.prog 128:=⟨_,_,Tryz.func128,by decide,rfl⟩
theorem cb129 : Callable Tryz.prog 129:=⟨_,_,Tryz.func129,by decide,rfl⟩
theorem cb130 : Callable Tryz.prog 130:=⟨_,_,Tryz.func130,by decide,rfl⟩
theorem cb133 : Callable Tryz.prog 133:=⟨_,_,Tryz.func133,by decide,rfl⟩
theorem cb135 : Callable Tryz.prog 135:=⟨_,_,Tryz.func135,by decide,rfl⟩
theorem cb136 : Callable Tryz.prog 136:=⟨_,_,Tryz.func136,by decide,rfl⟩
theorem cb138 : Callable Tryz.prog 138:=⟨_,_,Tryz.func138,by decide,rfl⟩
theorem cb141 : Callable Tryz.prog 141:=⟨_,_,Tryz.func141,by decide,rfl⟩
theorem cb142 : Callable Tryz.prog 142:=⟨_,_,Tryz.func142,by decide,rfl⟩
theorem cb143 : Callable Tryz.prog 143:=⟨_,_,Tryz.func143,by decide,rfl⟩
theorem cb144 : Callable Tryz.prog 144:=⟨_,_,Tryz.func144,by decide,rfl⟩
theorem cb145 : Callable Tryz.prog 145:=⟨_,_,Tryz.func145,by decide,rfl⟩
theorem cb153 : Callable Tryz.prog 153:=⟨_,_,Tryz.func153,by decide,rfl⟩
theorem cb154 : Callable Tryz.prog 154:=⟨_,_,Tryz.func154,by decide,rfl⟩
theorem KU : Callable Tryz.prog 157:=⟨_,_,Tryz.func157,by decide,rfl⟩
theorem cb158 : Callable Tryz.prog 158:=⟨_,_,Tryz.func158,by decide,rfl⟩
theorem cb159 : Callable Tryz.prog 159:=⟨_,_,Tryz.func159,by decide,rfl⟩
theorem cb160 : Callable Tryz.prog 160:=⟨_,_,Tryz.func160,by decide,rfl⟩
theorem cb161 : Callable Tryz.prog 161:=⟨_,_,Tryz.func161,by decide,rfl⟩
theorem cb162 : Callable Tryz.prog 162:=⟨_,_,Tryz.func162,by decide,rfl⟩
theorem cb170 : Callable Tryz.prog 170:=⟨_,_,Tryz.func170,by decide,rfl⟩
theorem cb171 : Callable Tryz.prog 171:=⟨_,_,Tryz.func171,by decide,rfl⟩
theorem cb172 : Callable Tryz.prog 172:=⟨_,_,Tryz.func172,by decide,rfl⟩
theorem cb173 : Callable Tryz.prog 173:=⟨_,_,Tryz.func173,by decide,rfl⟩
theorem cb174 : Callable Tryz.prog 174:=⟨_,_,Tryz.func174,by decide,rfl⟩
theorem cb175 : Callable Tryz.prog 175:=⟨_,_,Tryz.func175,by decide,rfl⟩
theorem cb178 : Callable Tryz.prog 178:=⟨_,_,Tryz.func178,by decide,rfl⟩
theorem cb182 : Callable Tryz.prog 182:=⟨_,_,Tryz.func182,by decide,rfl⟩
theorem cb185 : Callable Tryz.prog 185:=⟨_,_,Tryz.func185,by decide,rfl⟩
theorem cb186 : Callable Tryz.prog 186:=⟨_,_,Tryz.func186,by decide,rfl⟩
theorem cb187 : Callable Tryz.prog 187:=⟨_,_,Tryz.func187,by decide,rfl⟩
theorem cb188 : Callable Tryz.prog 188:=⟨_,_,Tryz.func188,by decide,rfl⟩
theorem cb189 : Callable Tryz.prog 189:=⟨_,_,Tryz.func189,by decide,rfl⟩
theorem cb190 : Callable Tryz.prog 190:=⟨_,_,Tryz.func190,by decide,rfl⟩
theorem cb191 : Callable Tryz.prog 191:=⟨_,_,Tryz.func191,by decide,rfl⟩
theorem cb192 : Callable Tryz.prog 192:=⟨_,_,Tryz.func192,by decide,rfl⟩
theorem cb193 : Callable Tryz.prog 193:=⟨_,_,Tryz.func193,by decide,rfl⟩
theorem cb194 : Callable Tryz.prog 194:=⟨_,_,Tryz.func194,by decide,rfl⟩
theorem cb195 : Callable Tryz.prog 195:=⟨_,_,Tryz.func195,by decide,rfl⟩
theorem AO : Callable Tryz.prog 196:=⟨_,_,Tryz.func196,by decide,rfl⟩
theorem cb197 : Callable Tryz.prog 197:=⟨_,_,Tryz.func197,by decide,rfl⟩
theorem cb202 : Callable Tryz.prog 202:=⟨_,_,Tryz.func202,by decide,rfl⟩
theorem cb203 : Callable Tryz.prog 203:=⟨_,_,Tryz.func203,by decide,rfl⟩
theorem cb215 : Callable Tryz.prog 215:=⟨_,_,Tryz.func215,by decide,rfl⟩
theorem cb216 : Callable Tryz.prog 216:=⟨_,_,Tryz.func216,by decide,rfl⟩
theorem cb217 : Callable Tryz.prog 217:=⟨_,_,Tryz.func217,by decide,rfl⟩
theorem cb218 : Callable Tryz.prog 218:=⟨_,_,Tryz.func218,by decide,rfl⟩
theorem kF : Callable Tryz.prog 219:=⟨_,_,Tryz.func219,by decide,rfl⟩
theorem cb220 : Callable Tryz.prog 220:=⟨_,_,Tryz.func220,by decide,rfl⟩
theorem cb221 : Callable Tryz.prog 221:=⟨_,_,Tryz.func221,by decide,rfl⟩
theorem As : Callable Tryz.prog 222:=⟨_,_,Tryz.func222,by decide,rfl⟩
theorem cb223 : Callable Tryz.prog 223:=⟨_,_,Tryz.func223,by decide,rfl⟩
theorem yh : Callable Tryz.prog 224:=⟨_,_,Tryz.func224,by decide,rfl⟩
theorem cb225 : Callable Tryz.prog 225:=⟨_,_,Tryz.func225,by decide,rfl⟩
theorem cb226 : Callable Tryz.prog 226:=⟨_,_,Tryz.func226,by decide,rfl⟩
theorem cb227 : Callable Tryz.prog 227:=⟨_,_,Tryz.func227,by decide,rfl⟩
theorem cb228 : Callable Tryz.prog 228:=⟨_,_,Tryz.func228,by decide,rfl⟩
theorem cb238 : Callable Tryz.prog 238:=⟨_,_,Tryz.func238,by decide,rfl⟩
theorem HD : Callable Tryz.prog 239:=⟨_,_,Tryz.func239,by decide,rfl⟩
theorem cb240 : Callable Tryz.prog 240:=⟨_,_,Tryz.func240,by decide,rfl⟩
theorem cb241 : Callable Tryz.prog 241:=⟨_,_,Tryz.func241,by decide,rfl⟩
theorem cb242 : Callable Tryz.prog 242:=⟨_,_,Tryz.func242,by decide,rfl⟩
theorem cb243 : Callable Tryz.prog 243:=⟨_,_,Tryz.func243,by decide,rfl⟩
theorem cb244 : Callable Tryz.prog 244:=⟨_,_,Tryz.func244,by decide,rfl⟩
theorem cb245 : Callable Tryz.prog 245:=⟨_,_,Tryz.func245,by decide,rfl⟩
theorem cb246 : Callable Tryz.prog 246:=⟨_,_,Tryz.func246,by decide,rfl⟩
theorem cb247 : Callable Tryz.prog 247:=⟨_,_,Tryz.func247,by decide,rfl⟩
theorem cb249 : Callable Tryz.prog 249:=⟨_,_,Tryz.func249,by decide,rfl⟩
theorem cb250 : Callable Tryz.prog 250:=⟨_,_,Tryz.func250,by decide,rfl⟩
def Va (p0 : (List (Vector UInt8 16))) (p1 : Int) : Option (Int) :=
 if (decide ((wr (p1 - (p0.length : Int))) < 0)) = true then (some (-1)) else (some (wr (p1 - (p0.length : Int))))
theorem HN (w0 : World) (p0 : (List (Vector UInt8 16))) (v0_1 : Value) (hv0_1 : Ro w0 p0 [v0_1]) (p1 : Int) (r : Int) (hF : Va p0 p1 = some r) :
  Calls Tryz.prog 50 [v0_1,vI p1].toArray w0 (fun en w'=>∃ v,en = .returned v ∧ (v = (vI r) ∧ Kept (Old w0) w0 w')):=by
 refine ZD (n:=12) Tryz.func50 rfl rfl (nbl rfl) rfl ?_
 intro a hE
 have hM:=M.start w0
 unfold Va at hF
 refine Zc (Ze hE Za ld rfl fun a hE=>Zf (Zc (Zd hE Za ld rfl fun a hE=>Zd hE Za ld rfl fun a hE=>Z3 hE Za ld rfl Tryz.underlying22 (hM.rd hv0_1) fun a hE=>Zi hE Za ld rfl rfl rfl fun a hE=>Ze hE Za ld rfl fun a hE=>Zf (wp_seq (Zc (Zd hE Za ld rfl fun a hE=>Zi hE Za ld rfl rfl rfl fun a hE=>Zf ?_))))))
 refine Zs hE rfl ?_ ?_
 ·intro hb1
  have hF:=ZA hF hb1
  refine Zc (Ze hE Za ld rfl fun a hE=>Zf ?_)
  have hr:=Option.some.inj hF
  subst hr
  exact wp_ret (Zx (Zy hE rfl (Zu hE rfl) ⟨_,rfl,rfl,hM.kept⟩))
 ·intro hb1
  have hF:=ZB hF hb1
  refine wp_skip (Zz (Zc (Zd hE Za ld rfl fun a hE=>Ze hE Za ld rfl fun a hE=>Zf ?_)))
  have hr:=Option.some.inj hF
  subst hr
  exact wp_ret (Zy hE rfl (Zu hE rfl) ⟨_,rfl,rfl,hM.kept⟩)
def X1 (p0 : (List UInt8)) (p1 : Int) : Option (Int) :=
 if (decide ((wr (p1 - (p0.length : Int))) < 0)) = true then (some (-1)) else (some (wr (p1 - (p0.length : Int))))
theorem Ko (w0 : World) (p0 : (List UInt8)) (v0_1 : Value) (hv0_1 : Ro w0 p0 [v0_1]) (p1 : Int) (r : Int) (hF : X1 p0 p1 = some r) :
  Calls Tryz.prog 145 [v0_1,vI p1].toArray w0 (fun en w'=>∃ v,en = .returned v ∧ (v = (vI r) ∧ Kept (Old w0) w0 w')):=by
 refine ZD (n:=12) Tryz.func145 rfl rfl (nbl rfl) rfl ?_
 intro a hE
 have hM:=M.start w0
 unfold X1 at hF
 refine Zc (Ze hE Za ld rfl fun a hE=>Zf (Zc (Zd hE Za ld rfl fun a hE=>Zd hE Za ld rfl fun a hE=>Z3 hE Za ld rfl Tryz.underlying57 (hM.rd hv0_1) fun a hE=>Zi hE Za ld rfl rfl rfl fun a hE=>Ze hE Za ld rfl fun a hE=>Zf (wp_seq (Zc (Zd hE Za ld rfl fun a hE=>Zi hE Za ld rfl rfl rfl fun a hE=>Zf ?_))))))
 refine Zs hE rfl ?_ ?_
 ·intro hb1
  have hF:=ZA hF hb1
  refine Zc (Ze hE Za ld rfl fun a hE=>Zf ?_)
  have hr:=Option.some.inj hF
  subst hr
  exact wp_ret (Zx (Zy hE rfl (Zu hE rfl) ⟨_,rfl,rfl,hM.kept⟩))
 ·intro hb1
  have hF:=ZB hF hb1
  refine wp_skip (Zz (Zc (Zd hE Za ld rfl fun a hE=>Ze hE Za ld rfl fun a hE=>Zf ?_)))
  have hr:=Option.some.inj hF
  subst hr
  exact wp_ret (Zy hE rfl (Zu hE rfl) ⟨_,rfl,rfl,hM.kept⟩)
def Ut (p0 : GRecord) (p1 : Int) : Option (Int) :=
 (X1 p0.Label p1).bind fun r3=>if (decide (r3 < 0)) = true then (some (-1)) else ((X1 p0.Body r3).bind fun r6=>if (decide (r6 < 0)) = true then (some (-1)) else (some r6))
theorem HM (w0 : World) (p0 : GRecord) (v0_1 : Value) (hv0_1 : Ro w0 p0.Label [v0_1]) (v0_2 : Value) (hv0_2 : Ro w0 p0.Body [v0_2]) (p1 : Int) (r : Int) (hF : Ut p0 p1 = some r) :
  Calls Tryz.prog 127 [(Value.agg (cat [[vI p0.Number],[vI p0.Version],enc p0.Nonce,[v0_1],[v0_2],enc p0.Tag]).toArray),vI p1].toArray w0 (fun en w'=>∃ v,en = .returned v ∧ (v = (vI r) ∧ Kept (Old w0) w0 w')):=by
 refine ZD (n:=18) Tryz.func127 rfl rfl (nbl rfl) rfl ?_
 intro a hE
 have hM:=M.start w0
 unfold Ut at hF
 refine Zc (ZY (cs:=cat [[vI p0.Number],[vI p0.Version],enc p0.Nonce,[v0_1],[v0_2],enc p0.Tag]) hE hM Za ld rfl rfl fun b1 w a hM hE=>Ze hE Za ld rfl fun a hE=>Zf (Zc (Zg hE Za ld rfl (jg) fun a hE=>Zp (v:=v0_1) hE Za ld rfl Uu rfl (At.cat (pre:=[[vI p0.Number],[vI p0.Version],enc p0.Nonce]) (hM.rawAt (pre:=[])) (cl1 (n:=1) (m:=17) rfl (cl1 (n:=1) (m:=16) rfl (cl1 (n:=16) (m:=0) (Flat.len _) cl0)))) fun a hE=>Zd hE Za ld rfl ?_))); intro a hE
 obtain ⟨r3,e4,hF⟩:=bind_some hF
 refine Zt hE Za ld rfl cb145 (Ko _ p0.Label v0_1 (hM.rdo hv0_1) p1 r3 e4) ?_
 rintro v w a ⟨rfl,hK⟩ hE
 have hM:=hM.keep hK
 refine Ze hE Za ld rfl fun a hE=>Zf (wp_seq (Zc (Zd hE Za ld rfl fun a hE=>Zi hE Za ld rfl rfl rfl fun a hE=>Zf ?_)))
 refine Zs hE rfl ?_ ?_
 ·intro hb5
  have hF:=ZA hF hb5
  refine Zc (Ze hE Za ld rfl fun a hE=>Zf ?_)
  have hr:=Option.some.inj hF
  subst hr
  have hM:=M.fst (l:=[]) hM
  exact wp_ret (Zx (Zy hE rfl (Zu hE rfl) ⟨_,rfl,rfl,hM.kept⟩))
 ·intro hb5
  have hF:=ZB hF hb5
  refine wp_skip (Zz (Zc (Zg hE Za ld rfl (jj) fun a hE=>Zp (v:=v0_2) hE Za ld rfl Uu rfl (At.cat (pre:=[[vI p0.Number],[vI p0.Version],enc p0.Nonce,[v0_1]]) (hM.rawAt (pre:=[])) (cl1 (n:=1) (m:=18) rfl (cl1 (n:=1) (m:=17) rfl (cl1 (n:=16) (m:=1) (Flat.len _) (cl1 (n:=1) (m:=0) rfl cl0))))) fun a hE=>Zd hE Za ld rfl ?_))); intro a hE
  obtain ⟨r6,e7,hF⟩:=bind_some hF
  refine Zt hE Za ld rfl cb145 (Ko _ p0.Body v0_2 (hM.rdo hv0_2) r3 r6 e7) ?_
  rintro v w a ⟨rfl,hK⟩ hE
  have hM:=hM.keep hK
  refine Ze hE Za ld rfl fun a hE=>Zf (wp_seq (Zc (Zd hE Za ld rfl fun a hE=>Zi hE Za ld rfl rfl rfl fun a hE=>Zf ?_)))
  refine Zs hE rfl ?_ ?_
  ·intro hb8
   have hF:=ZA hF hb8
   refine Zc (Ze hE Za ld rfl fun a hE=>Zf ?_)
   have hr:=Option.some.inj hF
   subst hr
   have hM:=M.fst (l:=[]) hM
   exact wp_ret (Zx (Zy hE rfl (Zu hE rfl) ⟨_,rfl,rfl,hM.kept⟩))
  ·intro hb8
   have hF:=ZB hF hb8
   refine wp_skip (Zz (Zc (Zd hE Za ld rfl fun a hE=>Ze hE Za ld rfl fun a hE=>Zf ?_)))
   have hr:=Option.some.inj hF
   subst hr
   have hM:=M.fst (l:=[]) hM
   exact wp_ret (Zy hE rfl (Zu hE rfl) ⟨_,rfl,rfl,hM.kept⟩)
def UH (p0 : (List GRecord)) (s6 : Int × Int) : Option (Fl (Int × Int) (Fl Int Int)) :=
 if (decide (s6.2 < (p0.length : Int))) = true then ((idx p0 s6.2).bind fun x11=>(Ut x11 s6.1).bind fun r21=>if (decide (r21 < 0)) = true then (some (Fl.ex (Fl.ex (-1)))) else (some (Fl.nx (r21,wr (s6.2 + 1))))) else (some (Fl.ex (Fl.nx s6.1)))
def XN (p0 : (List GRecord)) (p1 : Int) : Option (Int) :=
 if (decide ((wr (p1 - (p0.length : Int))) < 0)) = true then (some (-1)) else ((ZG (UH p0) (wr (p1 - (p0.length : Int)),0)).bind fun j2=>j2.el (fun s5=>some s5) (fun r=>some r))
theorem J5 (w0 : World) (p0 : (List GRecord)) (v0_1 : Value) (hv0_1 : Ro w0 p0 [v0_1]) (p1 : Int) (r : Int) (hF : XN p0 p1 = some r) :
  Calls Tryz.prog 51 [v0_1,vI p1].toArray w0 (fun en w'=>∃ v,en = .returned v ∧ (v = (vI r) ∧ Kept (Old w0) w0 w')):=by
 refine ZD (n:=27) Tryz.func51 rfl rfl (nbl rfl) rfl ?_
 intro a hE
 have hM:=M.start w0
 unfold XN at hF
 refine Zc (Ze hE Za ld rfl fun a hE=>Zf (Zc (Zd hE Za ld rfl fun a hE=>Zd hE Za ld rfl fun a hE=>Z3 hE Za ld rfl Tryz.underlying23 (hM.rd hv0_1) fun a hE=>Zi hE Za ld rfl rfl rfl fun a hE=>Ze hE Za ld rfl fun a hE=>Zf (wp_seq (Zc (Zd hE Za ld rfl fun a hE=>Zi hE Za ld rfl rfl rfl fun a hE=>Zf ?_))))))
 refine Zs hE rfl ?_ ?_
 ·intro hb1
  have hF:=ZA hF hb1
  refine Zc (Ze hE Za ld rfl fun a hE=>Zf ?_)
  have hr:=Option.some.inj hF
  subst hr
  exact wp_ret (Zx (Zy hE rfl (Zu hE rfl) ⟨_,rfl,rfl,hM.kept⟩))
 ·intro hb1
  have hF:=ZB hF hb1
  refine wp_skip (Zz (wp_seq (Zc (Ze hE Za ld rfl fun a hE=>Zf ?_))))
  obtain ⟨j2,hl3,hF4⟩:=bind_some hF
  refine ZP (fun a w=>∃ s5 : Int,j2 = Fl.nx s5 ∧ Env 27 a [(1,vI s5)] ∧ M (Old w0) w0 w []) ?_ ?_
  ·skip
   refine wp_block ?_
   refine ZI (fun (s6 : Int × Int) a w=>Env 27 a [(0,v0_1),(1,vI s6.1),(5,vI s6.2)] ∧ M (Old w0) w0 w []) hl3 ⟨hE.sub ⟨rfl,rfl,rfl,trivial⟩,hM⟩ ?_
   rintro s6 a w ⟨hE,hM⟩ o9 hs7 hx8
   unfold UH at hs7
   refine wp_seq (Zc (Zd hE Za ld rfl fun a hE=>Zd hE Za ld rfl fun a hE=>Z3 hE Za ld rfl Tryz.underlying23 (hM.rd hv0_1) fun a hE=>Zi hE Za ld rfl rfl rfl fun a hE=>Zf ?_))
   refine Zs hE rfl ?_ ?_
   ·intro hb10
    have hs7:=ZA hs7 hb10
    refine wp_skip (Zz (wp_seq (wp_block (Zc (Zd hE Za ld rfl fun a hE=>Zd hE Za ld rfl ?_))))); intro a hE
    obtain ⟨x11,hi13,hs7⟩:=bix hs7
    refine ZL hE Za ld rfl rfl Tryz.underlying23 KS (hM.rd hv0_1) hi13.1 ?_; intro a hE
    obtain ⟨cs14,hs15,hA16⟩:=Vj hv0_1 hi13.2 -- ^
    obtain ⟨u17,u19,rfl,h18,h20⟩:=Xe hs15 -- ^
    refine Zm (cs:=cat [[vI x11.Number],[vI x11.Version],enc x11.Nonce,[u17],[u19],enc x11.Tag]) hE Za ld rfl KS rfl (hM.atk hA16 (UZ hv0_1 hi13.2)) (Zh (cl1 (n:=1) (m:=51) rfl (cl1 (n:=1) (m:=50) rfl (cl1 (n:=16) (m:=34) (Flat.len _) (cl1 (n:=1) (m:=33) rfl (cl1 (n:=1) (m:=32) rfl (cl1 (n:=32) (m:=0) (Flat.len _) cl0))))))) fun a hE=>Zd hE Za ld rfl ?_; intro a hE
    obtain ⟨r21,e22,hs7⟩:=bind_some hs7
    refine Zt hE Za ld rfl cb127 (HM _ x11 u17 (hM.rdo h18) u19 (hM.rdo h20) s6.1 r21 e22) ?_
    rintro v w a ⟨rfl,hK⟩ hE
    have hM:=hM.keep hK
    refine Ze hE Za ld rfl fun a hE=>Zf (Zc (Zd hE Za ld rfl fun a hE=>Zi hE Za ld rfl rfl rfl fun a hE=>Zf ?_))
    refine Zs hE rfl ?_ ?_
    ·intro hb23
     have hs7:=ZA hs7 hb23
     refine Zc (Ze hE Za ld rfl fun a hE=>Zf ?_)
     have ht24:=hx8 _ (ois hs7)
     subst ht24
     have hr:=Option.some.inj hF4
     subst hr
     exact wp_ret (Yj (Zx (Zx (Yj (Zx (Zx (Zy hE rfl (Zu hE rfl) ⟨_,rfl,rfl,hM.kept⟩)))))))
    ·intro hb23
     have hs7:=ZB hs7 hb23
     refine wp_skip (Yb (Zz (wp_region_lit (Zd hE Za ld rfl fun a hE=>Zi hE Za ld rfl rfl rfl fun a hE=>Ze hE Za ld rfl fun a hE=>Zj (Zn ?_)))))
     exact ⟨_,(ois hs7),hE.sub ⟨rfl,rfl,rfl,trivial⟩,hM⟩
   ·intro hb10
    have hs7:=ZB hs7 hb10
    refine wp_exit (Zq (Zq (Yf ?_)))
    have ht25:=hx8 _ (ois hs7)
    subst ht25
    refine Zn ?_
    exact ⟨s6.1,rfl,hE.sub ⟨rfl,trivial⟩,hM⟩
  ·skip
   rintro a w ⟨s5,ht,hE,hM⟩
   subst ht
   have hF4:=Tg hF4
   refine Zz (Zc (Zd hE Za ld rfl fun a hE=>Ze hE Za ld rfl fun a hE=>Zf ?_))
   have hr:=Option.some.inj hF4
   subst hr
   exact wp_ret (Zy hE rfl (Zu hE rfl) ⟨_,rfl,rfl,hM.kept⟩)
def XD (p0 : (List GEvent)) (p1 : Int) : Option (Int) :=
 if (decide ((wr (p1 - (p0.length : Int))) < 0)) = true then (some (-1)) else (some (wr (p1 - (p0.length : Int))))
theorem H2 (w0 : World) (p0 : (List GEvent)) (v0_1 : Value) (hv0_1 : Ro w0 p0 [v0_1]) (p1 : Int) (r : Int) (hF : XD p0 p1 = some r) :
  Calls Tryz.prog 52 [v0_1,vI p1].toArray w0 (fun en w'=>∃ v,en = .returned v ∧ (v = (vI r) ∧ Kept (Old w0) w0 w')):=by
 refine ZD (n:=12) Tryz.func52 rfl rfl (nbl rfl) rfl ?_
 intro a hE
 have hM:=M.start w0
 unfold XD at hF
 refine Zc (Ze hE Za ld rfl fun a hE=>Zf (Zc (Zd hE Za ld rfl fun a hE=>Zd hE Za ld rfl fun a hE=>Z3 hE Za ld rfl Tryz.underlying24 (hM.rd hv0_1) fun a hE=>Zi hE Za ld rfl rfl rfl fun a hE=>Ze hE Za ld rfl fun a hE=>Zf (wp_seq (Zc (Zd hE Za ld rfl fun a hE=>Zi hE Za ld rfl rfl rfl fun a hE=>Zf ?_))))))
 refine Zs hE rfl ?_ ?_
 ·intro hb1
  have hF:=ZA hF hb1
  refine Zc (Ze hE Za ld rfl fun a hE=>Zf ?_)
  have hr:=Option.some.inj hF
  subst hr
  exact wp_ret (Zx (Zy hE rfl (Zu hE rfl) ⟨_,rfl,rfl,hM.kept⟩))
 ·intro hb1
  have hF:=ZB hF hb1
  refine wp_skip (Zz (Zc (Zd hE Za ld rfl fun a hE=>Ze hE Za ld rfl fun a hE=>Zf ?_)))
  have hr:=Option.some.inj hF
  subst hr
  exact wp_ret (Zy hE rfl (Zu hE rfl) ⟨_,rfl,rfl,hM.kept⟩)
def TJ (p0 : GVault) (p1 : Int) : Option (Int) :=
 (Va p0.Keys p1).bind fun r3=>if (decide (r3 < 0)) = true then (some (-1)) else ((XN p0.Records r3).bind fun r6=>if (decide (r6 < 0)) = true then (some (-1)) else ((XD p0.Events r6).bind fun r9=>if (decide (r9 < 0)) = true then (some (-1)) else (some r9)))
theorem Bl (w0 : World) (p0 : GVault) (v0_1 : Value) (hv0_1 : Ro w0 p0.Keys [v0_1]) (v0_2 : Value) (hv0_2 : Ro w0 p0.Records [v0_2]) (v0_3 : Value) (hv0_3 : Ro w0 p0.Events [v0_3]) (p1 : Int) (r : Int) (hF : TJ p0 p1 = some r) :
  Calls Tryz.prog 12 [(Value.agg (cat [[v0_1],[vI p0.Next],[v0_2],[v0_3],enc p0.Head]).toArray),vI p1].toArray w0 (fun en w'=>∃ v,en = .returned v ∧ (v = (vI r) ∧ Kept (Old w0) w0 w')):=by
 refine ZD (n:=24) Tryz.func12 rfl rfl (nbl rfl) rfl ?_
 intro a hE
 have hM:=M.start w0
 unfold TJ at hF
 refine Zc (ZY (cs:=cat [[v0_1],[vI p0.Next],[v0_2],[v0_3],enc p0.Head]) hE hM Za ld rfl rfl fun b1 w a hM hE=>Ze hE Za ld rfl fun a hE=>Zf (Zc (Zg hE Za ld rfl (jT) fun a hE=>Zp (v:=v0_1) hE Za ld rfl ty22 rfl (At.cat (pre:=[]) (hM.rawAt (pre:=[])) cl0) fun a hE=>Zd hE Za ld rfl ?_))); intro a hE
 obtain ⟨r3,e4,hF⟩:=bind_some hF
 refine Zt hE Za ld rfl cb50 (HN _ p0.Keys v0_1 (hM.rdo hv0_1) p1 r3 e4) ?_
 rintro v w a ⟨rfl,hK⟩ hE
 have hM:=hM.keep hK
 refine Ze hE Za ld rfl fun a hE=>Zf (wp_seq (Zc (Zd hE Za ld rfl fun a hE=>Zi hE Za ld rfl rfl rfl fun a hE=>Zf ?_)))
 refine Zs hE rfl ?_ ?_
 ·intro hb5
  have hF:=ZA hF hb5
  refine Zc (Ze hE Za ld rfl fun a hE=>Zf ?_)
  have hr:=Option.some.inj hF
  subst hr
  have hM:=M.fst (l:=[]) hM
  exact wp_ret (Zx (Zy hE rfl (Zu hE rfl) ⟨_,rfl,rfl,hM.kept⟩))
 ·intro hb5
  have hF:=ZB hF hb5
  refine wp_skip (Zz (Zc (Zg hE Za ld rfl (kC) fun a hE=>Zp (v:=v0_2) hE Za ld rfl ty23 rfl (At.cat (pre:=[[v0_1],[vI p0.Next]]) (hM.rawAt (pre:=[])) (cl1 (n:=1) (m:=1) rfl (cl1 (n:=1) (m:=0) rfl cl0))) fun a hE=>Zd hE Za ld rfl ?_))); intro a hE
  obtain ⟨r6,e7,hF⟩:=bind_some hF
  refine Zt hE Za ld rfl cb51 (J5 _ p0.Records v0_2 (hM.rdo hv0_2) r3 r6 e7) ?_
  rintro v w a ⟨rfl,hK⟩ hE
  have hM:=hM.keep hK
  refine Ze hE Za ld rfl fun a hE=>Zf (wp_seq (Zc (Zd hE Za ld rfl fun a hE=>Zi hE Za ld rfl rfl rfl fun a hE=>Zf ?_)))
  refine Zs hE rfl ?_ ?_
  ·intro hb8
   have hF:=ZA hF hb8
   refine Zc (Ze hE Za ld rfl fun a hE=>Zf ?_)
   have hr:=Option.some.inj hF
   subst hr
   have hM:=M.fst (l:=[]) hM
   exact wp_ret (Zx (Zy hE rfl (Zu hE rfl) ⟨_,rfl,rfl,hM.kept⟩))
  ·intro hb8
   have hF:=ZB hF hb8
   refine wp_skip (Zz (Zc (Zg hE Za ld rfl (jY) fun a hE=>Zp (v:=v0_3) hE Za ld rfl ty24 rfl (At.cat (pre:=[[v0_1],[vI p0.Next],[v0_2]]) (hM.rawAt (pre:=[])) (cl1 (n:=1) (m:=2) rfl (cl1 (n:=1) (m:=1) rfl (cl1 (n:=1) (m:=0) rfl cl0)))) fun a hE=>Zd hE Za ld rfl ?_))); intro a hE
   obtain ⟨r9,e10,hF⟩:=bind_some hF
   refine Zt hE Za ld rfl cb52 (H2 _ p0.Events v0_3 (hM.rdo hv0_3) r6 r9 e10) ?_
   rintro v w a ⟨rfl,hK⟩ hE
   have hM:=hM.keep hK
   refine Ze hE Za ld rfl fun a hE=>Zf (wp_seq (Zc (Zd hE Za ld rfl fun a hE=>Zi hE Za ld rfl rfl rfl fun a hE=>Zf ?_)))
   refine Zs hE rfl ?_ ?_
   ·intro hb11
    have hF:=ZA hF hb11
    refine Zc (Ze hE Za ld rfl fun a hE=>Zf ?_)
    have hr:=Option.some.inj hF
    subst hr
    have hM:=M.fst (l:=[]) hM
    exact wp_ret (Zx (Zy hE rfl (Zu hE rfl) ⟨_,rfl,rfl,hM.kept⟩))
   ·intro hb11
    have hF:=ZB hF hb11
    refine wp_skip (Zz (Zc (Zd hE Za ld rfl fun a hE=>Ze hE Za ld rfl fun a hE=>Zf ?_)))
    have hr:=Option.some.inj hF
    subst hr
    have hM:=M.fst (l:=[]) hM
    exact wp_ret (Zy hE rfl (Zu hE rfl) ⟨_,rfl,rfl,hM.kept⟩)
def Tu (p0 : (Vector UInt8 16)) (s10 : (Vector UInt8 16) × Int) : Option (Fl ((Vector UInt8 16) × Int) (Vector UInt8 16)) :=
 if (decide (s10.2 < 16)) = true then ((ZM p0 s10.2).bind fun x16=>(ZM s10.1 s10.2).bind fun x19=>some (Fl.nx ((s10.1.setIfInBounds (s10.2).toNat x16),wr (s10.2 + 1)))) else (some (Fl.ex s10.1))
def Xb (p0 : (Vector UInt8 16)) : Option ((Vector UInt8 16)) :=
 (ZG (Tu p0) ((Vector.replicate 16 (0 : UInt8)),0)).bind fun j7=>some j7
theorem UN (w0 : World) (p0 : (Vector UInt8 16)) (r : (Vector UInt8 16)) (hF : Xb p0 = some r) :
  Calls Tryz.prog 36 [(Value.agg (enc p0).toArray)].toArray w0 (fun en w'=>∃ v,en = .returned v ∧ (v = (Value.agg (enc r).toArray) ∧ Kept (Old w0) w0 w')):=by
 refine ZD (n:=15) Tryz.func36 rfl rfl (nbl rfl) rfl ?_
 intro a hE
 have hM:=M.start w0
 unfold Xb at hF
 refine Zc (ZY (cs:=enc p0) hE hM Za ld rfl rfl fun b1 w a hM hE=>ZE hE hM Za ld ZH fun b3 w a hM hE=>Zf (Zc (ZE hE hM Za ld ZH fun b5 w a hM hE=>Zf (wp_seq (Zc (Ze hE Za ld rfl fun a hE=>Zf ?_))))))
 obtain ⟨j7,hl8,hF9⟩:=bind_some hF
 refine ZP (fun a w=>Env 15 a [(2,(ptr b3 0)),(3,(ptr b5 0))] ∧ M (Old w0) w0 w [raw b5 (enc j7),raw b3 (enc (Vector.replicate 16 (0 : UInt8)))]) ?_ ?_
 ·skip
  refine wp_block ?_
  refine ZI (fun (s10 : (Vector UInt8 16) × Int) a w=>Env 15 a [(1,(ptr b1 0)),(2,(ptr b3 0)),(3,(ptr b5 0)),(4,vI s10.2)] ∧ M (Old w0) w0 w [raw b5 (enc s10.1),raw b3 (enc (Vector.replicate 16 (0 : UInt8))),raw b1 (enc p0)]) hl8 ⟨hE.sub ⟨rfl,rfl,rfl,rfl,trivial⟩,hM⟩ ?_
  rintro s10 a w ⟨hE,hM⟩ o13 hs11 hx12
  unfold Tu at hs11
  refine wp_seq (Zc (Zd hE Za ld rfl fun a hE=>Zi hE Za ld rfl rfl rfl fun a hE=>Zf ?_))
  refine Zs hE rfl ?_ ?_
  ·intro hb14
   have hs11:=ZA hs11 hb14
   refine wp_skip (Zz (wp_seq (wp_block (wp_region_lit (Zd hE Za ld rfl fun a hE=>Zd hE Za ld rfl ?_))))); intro a hE
   obtain ⟨x16,hi15,hs11⟩:=bvx hs11
   refine Zr hE Za ld rfl rfl Tryz.underlying67 ty5 hi15.1 fun a hE=>Zp (v:=(vB x16)) hE Za ld rfl ty5 rfl (At.vec (hM.rawAt (pre:=[_,_])) hi15.2) ?_; intro a hE
   obtain ⟨x19,hi18,hs11⟩:=bvx hs11
   refine Zr hE Za ld rfl rfl Tryz.underlying70 ty5 hi18.1 fun a hE=>Zo (seg:=[vB x16]) (cs':=enc (s10.1.setIfInBounds (s10.2).toNat x16)) hE hM Za rfl rfl rfl ty5 rfl (ZR (v:=s10.1) (x:=x16) hi18.1) (Flat.cell (x16 : UInt8)) (ZJ (v:=s10.1) (x:=x16) hi18.1) fun w a hM hE=>Zj (Yb (Zz (wp_region_lit (Zd hE Za ld rfl fun a hE=>Zi hE Za ld rfl rfl rfl fun a hE=>Ze hE Za ld rfl fun a hE=>Zj (Zn ?_)))))
   exact ⟨_,(ois hs11),hE.sub ⟨rfl,rfl,rfl,rfl,trivial⟩,hM⟩
  ·intro hb14
   have hs11:=ZB hs11 hb14
   refine wp_exit (Zq (Zq (Yf ?_)))
   have ht21:=hx12 _ (ois hs11)
   subst ht21
   refine Zn ?_
   have hM:=M.fst (l:=[_,_]) ((hM.pull (pre:=[_])).pull (pre:=[_]))
   exact ⟨hE.sub ⟨rfl,rfl,trivial⟩,hM⟩
 ·skip
  rintro a w ⟨hE,hM⟩
  refine Zz (Zc (Zm (cs:=enc j7) hE Za ld rfl ZH rfl (hM.rawAt (pre:=[])) (Flat.len _) ?_)); intro a hE
  have hM:=hM.pull (pre:=[_])
  refine Zo (seg:=enc j7) (cs':=enc j7) hE hM Za rfl rfl rfl ZH (Flat.len _) (zle flq) (Flat.cell _) (Zl flq) fun w a hM hE=>Zf ?_
  have hr:=Option.some.inj hF9
  subst hr
  have hq22 : Yw Tryz.prog _ _ (.cell 2 70) _:=ZO hE rfl ZH rfl (hM.rawAt (pre:=[])) (Flat.len _) rfl
  have hM:=M.fst (l:=[]) hM
  exact wp_ret (Zy hE rfl hq22 ⟨_,rfl,rfl,hM.kept⟩)
def U4 (p0 : (List (Vector UInt8 16))) (s10 : (List (Vector UInt8 16)) × Int) : Option (Fl ((List (Vector UInt8 16)) × Int) (List (Vector UInt8 16))) :=
 if (decide (s10.2 < (p0.length : Int))) = true then ((idx p0 s10.2).bind fun x17=>(Xb x17).bind fun r20=>(idx s10.1 s10.2).bind fun x22=>some (Fl.nx ((s10.1.set (s10.2).toNat r20),wr (s10.2 + 1)))) else (some (Fl.ex s10.1))
def Un (p0 : (List (Vector UInt8 16))) : Option ((List (Vector UInt8 16))) :=
 (mkS 16 (Vector.replicate 16 (0 : UInt8)) (p0.length : Int)).bind fun l1=>(ZG (U4 p0) (l1,0)).bind fun j5=>some j5
theorem HR (w0 : World) (p0 : (List (Vector UInt8 16))) (v0_1 : Value) (hv0_1 : Ro w0 p0 [v0_1]) (r : (List (Vector UInt8 16))) (hF : Un p0 = some r) :
  Calls Tryz.prog 56 [v0_1].toArray w0 (fun en w'=>∃ v,en = .returned v ∧ (∃ (y1 : Value),v = y1 ∧ Fr w0 w' [osl NoB (r : List (Vector UInt8 16)) y1] ∧ Kept (Old w0) w0 w')):=by
 refine ZD (n:=23) Tryz.func56 rfl rfl (nbl rfl) rfl ?_
 intro a hE
 have hM:=M.start w0
 unfold Un at hF
 refine Zc (Ze hE Za ld rfl fun a hE=>Zf (Zc (Zd hE Za ld rfl fun a hE=>Z3 hE Za ld rfl Tryz.underlying22 (hM.rd hv0_1) ?_))); intro a hE
 obtain ⟨l1,e2,hF⟩:=bind_some hF
 refine Ho hE hM Za ld rfl rfl Tryz.underlying32 ZH rfl (by decide) (fun _=>Tr.2 ⟨rfl,rfl⟩) e2 fun u3 w a hM hE=>Ze hE Za ld rfl fun a hE=>Zf (wp_seq (Zc (Ze hE Za ld rfl fun a hE=>Zf ?_)))
 obtain ⟨j5,hl6,hF7⟩:=bind_some hF
 refine ZP (fun a w=>∃ (u8 : Value),Env 23 a [(3,u8)] ∧ M (Old w0) w0 w [osl NoB (j5 : List (Vector UInt8 16)) u8]) ?_ ?_
 ·skip
  refine wp_block ?_
  refine ZI (fun (s10 : (List (Vector UInt8 16)) × Int) a w=>∃ (u11 : Value),Env 23 a [(0,v0_1),(3,u11),(4,vI s10.2)] ∧ M (Old w0) w0 w [osl NoB (s10.1 : List (Vector UInt8 16)) u11]) hl6 ⟨u3,hE.sub ⟨rfl,rfl,rfl,trivial⟩,hM⟩ ?_
  rintro s10 a w ⟨u11,hE,hM⟩ o15 hs13 hx14
  unfold U4 at hs13
  refine wp_seq (Zc (Zd hE Za ld rfl fun a hE=>Zd hE Za ld rfl fun a hE=>Z3 hE Za ld rfl Tryz.underlying22 (hM.rd hv0_1) fun a hE=>Zi hE Za ld rfl rfl rfl fun a hE=>Zf ?_))
  refine Zs hE rfl ?_ ?_
  ·intro hb16
   have hs13:=ZA hs13 hb16
   refine wp_skip (Zz (wp_seq (wp_block (wp_region_lit (Zd hE Za ld rfl fun a hE=>Zd hE Za ld rfl fun a hE=>Zd hE Za ld rfl fun a hE=>Zd hE Za ld rfl ?_))))); intro a hE
   obtain ⟨x17,hi19,hs13⟩:=bix hs13
   refine ZL hE Za ld rfl rfl Tryz.underlying22 yu (hM.rd hv0_1) hi19.1 fun a hE=>Zm (cs:=enc x17) hE Za ld rfl yu rfl (XE (hM.rd hv0_1) hi19.2) (Flat.len _) ?_; intro a hE
   obtain ⟨r20,e21,hs13⟩:=bind_some hs13
   refine Zt hE Za ld rfl cb36 (UN _ x17 r20 e21) ?_
   rintro v w a ⟨rfl,hK⟩ hE
   have hM:=hM.keep hK
   obtain ⟨x22,hi24,hs13⟩:=bix hs13
   refine ZL hE Za ld rfl rfl Tryz.underlying32 ZH (hM.sl (pre:=[]) noB) hi24.1 fun a hE=>T4 (i:=(s10.2).toNat) (k0:=0) (seg:=enc r20) (xo:=x22) (xn:=r20) hE hM Za rfl rfl rfl ZH (Flat.len _) (Flat.cell _) hi24.2 (QB (m:=16) (Flat.len _) (by decide)) (Zl flq) fun w a hM hE=>Zj (Yb (Zz (wp_region_lit (Zd hE Za ld rfl fun a hE=>Zi hE Za ld rfl rfl rfl fun a hE=>Ze hE Za ld rfl fun a hE=>Zj (Zn ?_)))))
   exact ⟨_,(ois hs13),u11,hE.sub ⟨rfl,rfl,rfl,trivial⟩,hM⟩
  ·intro hb16
   have hs13:=ZB hs13 hb16
   refine wp_exit (Zq (Zq (Yf ?_)))
   have ht25:=hx14 _ (ois hs13)
   subst ht25
   refine Zn ?_
   exact ⟨u11,hE.sub ⟨rfl,trivial⟩,hM⟩
 ·skip
  rintro a w ⟨u8,hE,hM⟩
  refine Zz (Zc (Zd hE Za ld rfl fun a hE=>Ze hE Za ld rfl fun a hE=>Zf ?_))
  have hr:=Option.some.inj hF7
  subst hr
  exact wp_ret (Zy hE rfl (Zu hE rfl) ⟨_,rfl,u8,rfl,hM.outF (Yo Xs),hM.kept⟩)
def Tw (p0 : (List UInt8)) (s10 : (List UInt8) × Int) : Option (Fl ((List UInt8) × Int) (List UInt8)) :=
 if (decide (s10.2 < (p0.length : Int))) = true then ((idx p0 s10.2).bind fun x17=>(idx s10.1 s10.2).bind fun x20=>some (Fl.nx ((s10.1.set (s10.2).toNat x17),wr (s10.2 + 1)))) else (some (Fl.ex s10.1))
def VQ (p0 : (List UInt8)) : Option ((List UInt8)) :=
 (mkS 1 (0 : UInt8) (p0.length : Int)).bind fun l1=>(ZG (Tw p0) (l1,0)).bind fun j5=>some j5
theorem Ku (w0 : World) (p0 : (List UInt8)) (v0_1 : Value) (hv0_1 : Ro w0 p0 [v0_1]) (r : (List UInt8)) (hF : VQ p0 = some r) :
  Calls Tryz.prog 33 [v0_1].toArray w0 (fun en w'=>∃ v,en = .returned v ∧ (∃ (y1 : Value),v = y1 ∧ Fr w0 w' [osl NoB (r : List UInt8) y1] ∧ Kept (Old w0) w0 w')):=by
 refine ZD (n:=22) Tryz.func33 rfl rfl (nbl rfl) rfl ?_
 intro a hE
 have hM:=M.start w0
 unfold VQ at hF
 refine Zc (Ze hE Za ld rfl fun a hE=>Zf (Zc (Zd hE Za ld rfl fun a hE=>Z3 hE Za ld rfl Tryz.underlying57 (hM.rd hv0_1) ?_))); intro a hE
 obtain ⟨l1,e2,hF⟩:=bind_some hF
 refine Ho hE hM Za ld rfl rfl Tryz.underlying57 ty5 rfl (by decide) (fun _=>Tr.2 ⟨rfl,rfl⟩) e2 fun u3 w a hM hE=>Ze hE Za ld rfl fun a hE=>Zf (wp_seq (Zc (Ze hE Za ld rfl fun a hE=>Zf ?_)))
 obtain ⟨j5,hl6,hF7⟩:=bind_some hF
 refine ZP (fun a w=>∃ (u8 : Value),Env 22 a [(3,u8)] ∧ M (Old w0) w0 w [osl NoB (j5 : List UInt8) u8]) ?_ ?_
 ·skip
  refine wp_block ?_
  refine ZI (fun (s10 : (List UInt8) × Int) a w=>∃ (u11 : Value),Env 22 a [(0,v0_1),(3,u11),(4,vI s10.2)] ∧ M (Old w0) w0 w [osl NoB (s10.1 : List UInt8) u11]) hl6 ⟨u3,hE.sub ⟨rfl,rfl,rfl,trivial⟩,hM⟩ ?_
  rintro s10 a w ⟨u11,hE,hM⟩ o15 hs13 hx14
  unfold Tw at hs13
  refine wp_seq (Zc (Zd hE Za ld rfl fun a hE=>Zd hE Za ld rfl fun a hE=>Z3 hE Za ld rfl Tryz.underlying57 (hM.rd hv0_1) fun a hE=>Zi hE Za ld rfl rfl rfl fun a hE=>Zf ?_))
  refine Zs hE rfl ?_ ?_
  ·intro hb16
   have hs13:=ZA hs13 hb16
   refine wp_skip (Zz (wp_seq (wp_block (wp_region_lit (Zd hE Za ld rfl fun a hE=>Zd hE Za ld rfl fun a hE=>Zd hE Za ld rfl fun a hE=>Zd hE Za ld rfl ?_))))); intro a hE
   obtain ⟨x17,hi19,hs13⟩:=bix hs13
   refine ZL hE Za ld rfl rfl Tryz.underlying57 ty5 (hM.rd hv0_1) hi19.1 fun a hE=>Zp (v:=(vB x17)) hE Za ld rfl ty5 rfl (XE (hM.rd hv0_1) hi19.2) ?_; intro a hE
   obtain ⟨x20,hi22,hs13⟩:=bix hs13
   refine ZL hE Za ld rfl rfl Tryz.underlying57 ty5 (hM.sl (pre:=[]) noB) hi22.1 fun a hE=>T4 (i:=(s10.2).toNat) (k0:=0) (seg:=[vB x17]) (xo:=x20) (xn:=x17) hE hM Za rfl rfl rfl ty5 rfl (Flat.cell (x17 : UInt8)) hi22.2 (QB (m:=1) rfl (by decide)) (Zl rfl) fun w a hM hE=>Zj (Yb (Zz (wp_region_lit (Zd hE Za ld rfl fun a hE=>Zi hE Za ld rfl rfl rfl fun a hE=>Ze hE Za ld rfl fun a hE=>Zj (Zn ?_)))))
   exact ⟨_,(ois hs13),u11,hE.sub ⟨rfl,rfl,rfl,trivial⟩,hM⟩
  ·intro hb16
   have hs13:=ZB hs13 hb16
   refine wp_exit (Zq (Zq (Yf ?_)))
   have ht23:=hx14 _ (ois hs13)
   subst ht23
   refine Zn ?_
   exact ⟨u11,hE.sub ⟨rfl,trivial⟩,hM⟩
 ·skip
  rintro a w ⟨u8,hE,hM⟩
  refine Zz (Zc (Zd hE Za ld rfl fun a hE=>Ze hE Za ld rfl fun a hE=>Zf ?_))
  have hr:=Option.some.inj hF7
  subst hr
  exact wp_ret (Zy hE rfl (Zu hE rfl) ⟨_,rfl,u8,rfl,hM.outF (Yo Xs),hM.kept⟩)
def U7 (p0 : (Vector UInt8 32)) (s10 : (Vector UInt8 32) × Int) : Option (Fl ((Vector UInt8 32) × Int) (Vector UInt8 32)) :=
 if (decide (s10.2 < 32)) = true then ((ZM p0 s10.2).bind fun x16=>(ZM s10.1 s10.2).bind fun x19=>some (Fl.nx ((s10.1.setIfInBounds (s10.2).toNat x16),wr (s10.2 + 1)))) else (some (Fl.ex s10.1))
def Wi (p0 : (Vector UInt8 32)) : Option ((Vector UInt8 32)) :=
 (ZG (U7 p0) ((Vector.replicate 32 (0 : UInt8)),0)).bind fun j7=>some j7
theorem Qa (w0 : World) (p0 : (Vector UInt8 32)) (r : (Vector UInt8 32)) (hF : Wi p0 = some r) :
  Calls Tryz.prog 21 [(Value.agg (enc p0).toArray)].toArray w0 (fun en w'=>∃ v,en = .returned v ∧ (v = (Value.agg (enc r).toArray) ∧ Kept (Old w0) w0 w')):=by
 refine ZD (n:=15) Tryz.func21 rfl rfl (nbl rfl) rfl ?_
 intro a hE
 have hM:=M.start w0
 unfold Wi at hF
 refine Zc (ZY (cs:=enc p0) hE hM Za ld rfl rfl fun b1 w a hM hE=>ZE hE hM Za ld Yy fun b3 w a hM hE=>Zf (Zc (ZE hE hM Za ld Yy fun b5 w a hM hE=>Zf (wp_seq (Zc (Ze hE Za ld rfl fun a hE=>Zf ?_))))))
 obtain ⟨j7,hl8,hF9⟩:=bind_some hF
 refine ZP (fun a w=>Env 15 a [(2,(ptr b3 0)),(3,(ptr b5 0))] ∧ M (Old w0) w0 w [raw b5 (enc j7),raw b3 (enc (Vector.replicate 32 (0 : UInt8)))]) ?_ ?_
 ·skip
  refine wp_block ?_
  refine ZI (fun (s10 : (Vector UInt8 32) × Int) a w=>Env 15 a [(1,(ptr b1 0)),(2,(ptr b3 0)),(3,(ptr b5 0)),(4,vI s10.2)] ∧ M (Old w0) w0 w [raw b5 (enc s10.1),raw b3 (enc (Vector.replicate 32 (0 : UInt8))),raw b1 (enc p0)]) hl8 ⟨hE.sub ⟨rfl,rfl,rfl,rfl,trivial⟩,hM⟩ ?_
  rintro s10 a w ⟨hE,hM⟩ o13 hs11 hx12
  unfold U7 at hs11
  refine wp_seq (Zc (Zd hE Za ld rfl fun a hE=>Zi hE Za ld rfl rfl rfl fun a hE=>Zf ?_))
  refine Zs hE rfl ?_ ?_
  ·intro hb14
   have hs11:=ZA hs11 hb14
   refine wp_skip (Zz (wp_seq (wp_block (wp_region_lit (Zd hE Za ld rfl fun a hE=>Zd hE Za ld rfl ?_))))); intro a hE
   obtain ⟨x16,hi15,hs11⟩:=bvx hs11
   refine Zr hE Za ld rfl rfl Tryz.underlying25 ty5 hi15.1 fun a hE=>Zp (v:=(vB x16)) hE Za ld rfl ty5 rfl (At.vec (hM.rawAt (pre:=[_,_])) hi15.2) ?_; intro a hE
   obtain ⟨x19,hi18,hs11⟩:=bvx hs11
   refine Zr hE Za ld rfl rfl Tryz.underlying29 ty5 hi18.1 fun a hE=>Zo (seg:=[vB x16]) (cs':=enc (s10.1.setIfInBounds (s10.2).toNat x16)) hE hM Za rfl rfl rfl ty5 rfl (ZR (v:=s10.1) (x:=x16) hi18.1) (Flat.cell (x16 : UInt8)) (ZJ (v:=s10.1) (x:=x16) hi18.1) fun w a hM hE=>Zj (Yb (Zz (wp_region_lit (Zd hE Za ld rfl fun a hE=>Zi hE Za ld rfl rfl rfl fun a hE=>Ze hE Za ld rfl fun a hE=>Zj (Zn ?_)))))
   exact ⟨_,(ois hs11),hE.sub ⟨rfl,rfl,rfl,rfl,trivial⟩,hM⟩
  ·intro hb14
   have hs11:=ZB hs11 hb14
   refine wp_exit (Zq (Zq (Yf ?_)))
   have ht21:=hx12 _ (ois hs11)
   subst ht21
   refine Zn ?_
   have hM:=M.fst (l:=[_,_]) ((hM.pull (pre:=[_])).pull (pre:=[_]))
   exact ⟨hE.sub ⟨rfl,rfl,trivial⟩,hM⟩
 ·skip
  rintro a w ⟨hE,hM⟩
  refine Zz (Zc (Zm (cs:=enc j7) hE Za ld rfl Yy rfl (hM.rawAt (pre:=[])) (Flat.len _) ?_)); intro a hE
  have hM:=hM.pull (pre:=[_])
  refine Zo (seg:=enc j7) (cs':=enc j7) hE hM Za rfl rfl rfl Yy (Flat.len _) (zle flq) (Flat.cell _) (Zl flq) fun w a hM hE=>Zf ?_
  have hr:=Option.some.inj hF9
  subst hr
  have hq22 : Yw Tryz.prog _ _ (.cell 2 29) _:=ZO hE rfl Yy rfl (hM.rawAt (pre:=[])) (Flat.len _) rfl
  have hM:=M.fst (l:=[]) hM
  exact wp_ret (Zy hE rfl hq22 ⟨_,rfl,rfl,hM.kept⟩)
def W5 (p0 : GRecord) : Option (GRecord) :=
 (Xb p0.Nonce).bind fun r7=>(VQ p0.Label).bind fun r9=>(VQ p0.Body).bind fun r12=>(Wi p0.Tag).bind fun r15=>some (⟨p0.Number,p0.Version,r7,r9,r12,r15⟩ : GRecord)
theorem H4 (w0 : World) (p0 : GRecord) (v0_1 : Value) (hv0_1 : Ro w0 p0.Label [v0_1]) (v0_2 : Value) (hv0_2 : Ro w0 p0.Body [v0_2]) (r : GRecord) (hF : W5 p0 = some r) :
  Calls Tryz.prog 135 [(Value.agg (cat [[vI p0.Number],[vI p0.Version],enc p0.Nonce,[v0_1],[v0_2],enc p0.Tag]).toArray)].toArray w0 (fun en w'=>∃ v,en = .returned v ∧ (∃ (y1 : Value) (y2 : Value),v = (Value.agg (cat [[vI r.Number],[vI r.Version],enc r.Nonce,[y1],[y2],enc r.Tag]).toArray) ∧ Fr w0 w' [osl NoB (r.Label : List UInt8) y1,osl NoB (r.Body : List UInt8) y2] ∧ Kept (Old w0) w0 w')):=by
 refine ZD (n:=27) Tryz.func135 rfl rfl (nbl rfl) rfl ?_
 intro a hE
 have hM:=M.start w0
 unfold W5 at hF
 refine Zc (ZY (cs:=cat [[vI p0.Number],[vI p0.Version],enc p0.Nonce,[v0_1],[v0_2],enc p0.Tag]) hE hM Za ld rfl rfl fun b1 w a hM hE=>ZE hE hM Za ld XZ fun b3 w a hM hE=>Zf (Zc (ZE hE hM Za ld XZ fun b5 w a hM hE=>Zf (Zc (Zg hE Za ld rfl (k8) fun a hE=>Zp (v:=(vI p0.Number)) hE Za ld rfl ty2 rfl (At.cat (pre:=[]) (hM.rawAt (pre:=[_,_])) cl0) fun a hE=>Zg hE Za ld rfl (TU) fun a hE=>Zo (seg:=[vI p0.Number]) hE hM Za rfl rfl rfl ty2 rfl (YO (pre:=[]) cl0 rfl) (Flat.cell (p0.Number : Int)) (ZX (pre:=[]) cl0 rfl) fun w a hM hE=>Zf (Zc (Zg hE Za ld rfl (qp) fun a hE=>Zp (v:=(vI p0.Version)) hE Za ld rfl ty2 rfl (At.cat (pre:=[[vI p0.Number]]) (hM.rawAt (pre:=[_,_])) (cl1 (n:=1) (m:=0) rfl cl0)) fun a hE=>Zg hE Za ld rfl (Q5) fun a hE=>Zo (seg:=[vI p0.Version]) hE hM Za rfl rfl rfl ty2 rfl (YO (pre:=[[vI p0.Number]]) (cl1 (n:=1) (m:=0) rfl cl0) rfl) (Flat.cell (p0.Version : Int)) (ZX (pre:=[[vI p0.Number]]) (cl1 (n:=1) (m:=0) rfl cl0) rfl) fun w a hM hE=>Zf (Zc (Zg hE Za ld rfl (kT) ?_))))))))); intro a hE
 refine Zm (cs:=enc p0.Nonce) hE Za ld rfl yu rfl (At.cat (pre:=[[vI p0.Number],[vI p0.Version]]) (hM.rawAt (pre:=[_,_])) (cl1 (n:=1) (m:=1) rfl (cl1 (n:=1) (m:=0) rfl cl0))) (Flat.len _) ?_; intro a hE
 obtain ⟨r7,e8,hF⟩:=bind_some hF
 refine Zt hE Za ld rfl cb36 (UN _ p0.Nonce r7 e8) ?_
 rintro v w a ⟨rfl,hK⟩ hE
 have hM:=hM.keep hK
 refine Zg hE Za ld rfl (BD) fun a hE=>Zo (seg:=enc r7) hE hM Za rfl rfl rfl ZH (Flat.len _) (YO (pre:=[[vI p0.Number],[vI p0.Version]]) (cl1 (n:=1) (m:=1) rfl (cl1 (n:=1) (m:=0) rfl cl0)) flq) (Flat.cell _) (ZX (pre:=[[vI p0.Number],[vI p0.Version]]) (cl1 (n:=1) (m:=1) rfl (cl1 (n:=1) (m:=0) rfl cl0)) flq) fun w a hM hE=>Zf (Zc (Zg hE Za ld rfl (jg) fun a hE=>Zp (v:=v0_1) hE Za ld rfl Uu rfl (At.cat (pre:=[[vI p0.Number],[vI p0.Version],enc p0.Nonce]) (hM.rawAt (pre:=[_,_])) (cl1 (n:=1) (m:=17) rfl (cl1 (n:=1) (m:=16) rfl (cl1 (n:=16) (m:=0) (Flat.len _) cl0)))) ?_)); intro a hE
 obtain ⟨r9,e10,hF⟩:=bind_some hF
 refine Zt hE Za ld rfl cb33 (Ku _ p0.Label v0_1 (hM.rdo hv0_1) r9 e10) ?_
 rintro u11 w a ⟨_,rfl,hFr,hK⟩ hE
 have hM:=hM.add hK hFr
 refine Zg hE Za ld rfl (T9) ?_; intro a hE
 have hM:=hM.pull (pre:=[_])
 refine Zo (seg:=[u11]) hE hM Za rfl rfl (YD (hM.sl (pre:=[_]) noB)) Uu rfl (YO (pre:=[[vI p0.Number],[vI p0.Version],enc r7]) (cl1 (n:=1) (m:=17) rfl (cl1 (n:=1) (m:=16) rfl (cl1 (n:=16) (m:=0) (Flat.len _) cl0))) rfl) (Rep.cell (hM.sl (pre:=[_]) noB)) (ZX (pre:=[[vI p0.Number],[vI p0.Version],enc r7]) (cl1 (n:=1) (m:=17) rfl (cl1 (n:=1) (m:=16) rfl (cl1 (n:=16) (m:=0) (Flat.len _) cl0))) rfl) fun w a hM hE=>Zf (Zc (Zg hE Za ld rfl (jj) fun a hE=>Zp (v:=v0_2) hE Za ld rfl Uu rfl (At.cat (pre:=[[vI p0.Number],[vI p0.Version],enc p0.Nonce,[v0_1]]) (hM.rawAt (pre:=[_,_,_])) (cl1 (n:=1) (m:=18) rfl (cl1 (n:=1) (m:=17) rfl (cl1 (n:=16) (m:=1) (Flat.len _) (cl1 (n:=1) (m:=0) rfl cl0))))) ?_)); intro a hE
 obtain ⟨r12,e13,hF⟩:=bind_some hF
 refine Zt hE Za ld rfl cb33 (Ku _ p0.Body v0_2 (hM.rdo hv0_2) r12 e13) ?_
 rintro u14 w a ⟨_,rfl,hFr,hK⟩ hE
 have hM:=hM.add hK hFr
 refine Zg hE Za ld rfl (Qr) ?_; intro a hE
 have hM:=hM.pull (pre:=[_])
 refine Zo (seg:=[u14]) hE hM Za rfl rfl (YD (hM.sl (pre:=[_]) noB)) Uu rfl (YO (pre:=[[vI p0.Number],[vI p0.Version],enc r7,[u11]]) (cl1 (n:=1) (m:=18) rfl (cl1 (n:=1) (m:=17) rfl (cl1 (n:=16) (m:=1) (Flat.len _) (cl1 (n:=1) (m:=0) rfl cl0)))) rfl) (Rep.cell (hM.sl (pre:=[_]) noB)) (ZX (pre:=[[vI p0.Number],[vI p0.Version],enc r7,[u11]]) (cl1 (n:=1) (m:=18) rfl (cl1 (n:=1) (m:=17) rfl (cl1 (n:=16) (m:=1) (Flat.len _) (cl1 (n:=1) (m:=0) rfl cl0)))) rfl) fun w a hM hE=>Zf (Zc (Zg hE Za ld rfl (qn) fun a hE=>Zm (cs:=enc p0.Tag) hE Za ld rfl ty25 rfl (At.cat (pre:=[[vI p0.Number],[vI p0.Version],enc p0.Nonce,[v0_1],[v0_2]]) (hM.rawAt (pre:=[_,_,_,_])) (cl1 (n:=1) (m:=19) rfl (cl1 (n:=1) (m:=18) rfl (cl1 (n:=16) (m:=2) (Flat.len _) (cl1 (n:=1) (m:=1) rfl (cl1 (n:=1) (m:=0) rfl cl0)))))) (Flat.len _) ?_)); intro a hE
 obtain ⟨r15,e16,hF⟩:=bind_some hF
 refine Zt hE Za ld rfl cb21 (Qa _ p0.Tag r15 e16) ?_
 rintro v w a ⟨rfl,hK⟩ hE
 have hM:=hM.keep hK
 refine Zg hE Za ld rfl (BP) fun a hE=>Zo (seg:=enc r15) hE hM Za rfl rfl rfl Yy (Flat.len _) (YO (pre:=[[vI p0.Number],[vI p0.Version],enc r7,[u11],[u14]]) (cl1 (n:=1) (m:=19) rfl (cl1 (n:=1) (m:=18) rfl (cl1 (n:=16) (m:=2) (Flat.len _) (cl1 (n:=1) (m:=1) rfl (cl1 (n:=1) (m:=0) rfl cl0))))) flq) (Flat.cell _) (ZX (pre:=[[vI p0.Number],[vI p0.Version],enc r7,[u11],[u14]]) (cl1 (n:=1) (m:=19) rfl (cl1 (n:=1) (m:=18) rfl (cl1 (n:=16) (m:=2) (Flat.len _) (cl1 (n:=1) (m:=1) rfl (cl1 (n:=1) (m:=0) rfl cl0))))) flq) fun w a hM hE=>Zf (Zc (Zm (cs:=cat [[vI p0.Number],[vI p0.Version],enc r7,[u11],[u14],enc r15]) hE Za ld rfl XZ rfl (hM.rawAt (pre:=[])) (Zh (cl1 (n:=1) (m:=51) rfl (cl1 (n:=1) (m:=50) rfl (cl1 (n:=16) (m:=34) (Flat.len _) (cl1 (n:=1) (m:=33) rfl (cl1 (n:=1) (m:=32) rfl (cl1 (n:=32) (m:=0) (Flat.len _) cl0))))))) ?_)); intro a hE
 have hM:=hM.pull (pre:=[_,_,_])
 refine Zo (seg:=cat [[vI p0.Number],[vI p0.Version],enc r7,[u11],[u14],enc r15]) (cs':=cat [[vI p0.Number],[vI p0.Version],enc r7,[u11],[u14],enc r15]) hE hM Za rfl rfl rfl XZ (Zh (cl1 (n:=1) (m:=51) rfl (cl1 (n:=1) (m:=50) rfl (cl1 (n:=16) (m:=34) (Flat.len _) (cl1 (n:=1) (m:=33) rfl (cl1 (n:=1) (m:=32) rfl (cl1 (n:=32) (m:=0) (Flat.len _) cl0))))))) (Nat.le_of_eq ((Nat.zero_add _).trans (Eq.trans (Zh (cl1 (n:=1) (m:=51) rfl (cl1 (n:=1) (m:=50) rfl (cl1 (n:=16) (m:=34) (Flat.len _) (cl1 (n:=1) (m:=33) rfl (cl1 (n:=1) (m:=32) rfl (cl1 (n:=32) (m:=0) (Flat.len _) cl0))))))) (Eq.symm (Zh (cl1 (n:=1) (m:=51) rfl (cl1 (n:=1) (m:=50) rfl (cl1 (n:=16) (m:=34) (Flat.len _) (cl1 (n:=1) (m:=33) rfl (cl1 (n:=1) (m:=32) rfl (cl1 (n:=32) (m:=0) (Flat.len _) cl0))))))))))) (Z5 (cc1 (Flat.cell (p0.Number : Int)) (cc1 (Flat.cell (p0.Version : Int)) (cc1 (Flat.cell _) (cc1 (Rep.cell (hM.sl (pre:=[_,_,_]) noB)) (cc1 (Rep.cell (hM.sl (pre:=[_,_]) noB)) (cc1 (Flat.cell _) cc0))))))) (Zl (Eq.trans (Zh (cl1 (n:=1) (m:=51) rfl (cl1 (n:=1) (m:=50) rfl (cl1 (n:=16) (m:=34) (Flat.len _) (cl1 (n:=1) (m:=33) rfl (cl1 (n:=1) (m:=32) rfl (cl1 (n:=32) (m:=0) (Flat.len _) cl0))))))) (Eq.symm (Zh (cl1 (n:=1) (m:=51) rfl (cl1 (n:=1) (m:=50) rfl (cl1 (n:=16) (m:=34) (Flat.len _) (cl1 (n:=1) (m:=33) rfl (cl1 (n:=1) (m:=32) rfl (cl1 (n:=32) (m:=0) (Flat.len _) cl0)))))))))) fun w a hM hE=>Zf ?_
 have hr:=Option.some.inj hF
 subst hr
 have hq17 : Yw Tryz.prog _ _ (.cell 2 92) _:=ZO hE rfl XZ rfl (hM.rawAt (pre:=[])) (Zh (cl1 (n:=1) (m:=51) rfl (cl1 (n:=1) (m:=50) rfl (cl1 (n:=16) (m:=34) (Flat.len _) (cl1 (n:=1) (m:=33) rfl (cl1 (n:=1) (m:=32) rfl (cl1 (n:=32) (m:=0) (Flat.len _) cl0))))))) rfl
 have hM:=M.fst (l:=[_,_]) ((hM.pull (pre:=[_,_])).pull (pre:=[_,_,_]))
 exact wp_ret (Zy hE rfl hq17 ⟨_,rfl,u11,u14,rfl,hM.outF (Yo (Yo Xs)),hM.kept⟩)
def UG (p0 : (List GRecord)) (s10 : (List GRecord) × Int) : Option (Fl ((List GRecord) × Int) (List GRecord)) :=
 if (decide (s10.2 < (p0.length : Int))) = true then ((idx p0 s10.2).bind fun x17=>(W5 x17).bind fun r27=>(idx s10.1 s10.2).bind fun x31=>some (Fl.nx ((s10.1.set (s10.2).toNat r27),wr (s10.2 + 1)))) else (some (Fl.ex s10.1))
def VL (p0 : (List GRecord)) : Option ((List GRecord)) :=
 (mkS 112 (⟨(0 : Int),(0 : Int),(Vector.replicate 16 (0 : UInt8)),([] : (List UInt8)),([] : (List UInt8)),(Vector.replicate 32 (0 : UInt8))⟩ : GRecord) (p0.length : Int)).bind fun l1=>(ZG (UG p0) (l1,0)).bind fun j5=>some j5
theorem He (w0 : World) (p0 : (List GRecord)) (v0_1 : Value) (hv0_1 : Ro w0 p0 [v0_1]) (r : (List GRecord)) (hF : VL p0 = some r) :
  Calls Tryz.prog 57 [v0_1].toArray w0 (fun en w'=>∃ v,en = .returned v ∧ (∃ (y1 : Value),v = y1 ∧ Fr w0 w' [osl NoB (r : List GRecord) y1] ∧ Kept (Old w0) w0 w')):=by
 refine ZD (n:=23) Tryz.func57 rfl rfl (nbl rfl) rfl ?_
 intro a hE
 have hM:=M.start w0
 unfold VL at hF
 refine Zc (Ze hE Za ld rfl fun a hE=>Zf (Zc (Zd hE Za ld rfl fun a hE=>Z3 hE Za ld rfl Tryz.underlying23 (hM.rd hv0_1) ?_))); intro a hE
 obtain ⟨l1,e2,hF⟩:=bind_some hF
 refine Ho hE hM Za ld rfl rfl Tryz.underlying33 XZ rfl (by decide) zk e2 fun u3 w a hM hE=>Ze hE Za ld rfl fun a hE=>Zf (wp_seq (Zc (Ze hE Za ld rfl fun a hE=>Zf ?_)))
 obtain ⟨j5,hl6,hF7⟩:=bind_some hF
 refine ZP (fun a w=>∃ (u8 : Value),Env 23 a [(3,u8)] ∧ M (Old w0) w0 w [osl NoB (j5 : List GRecord) u8]) ?_ ?_
 ·skip
  refine wp_block ?_
  refine ZI (fun (s10 : (List GRecord) × Int) a w=>∃ (u11 : Value),Env 23 a [(0,v0_1),(3,u11),(4,vI s10.2)] ∧ M (Old w0) w0 w [osl NoB (s10.1 : List GRecord) u11]) hl6 ⟨u3,hE.sub ⟨rfl,rfl,rfl,trivial⟩,hM⟩ ?_
  rintro s10 a w ⟨u11,hE,hM⟩ o15 hs13 hx14
  unfold UG at hs13
  refine wp_seq (Zc (Zd hE Za ld rfl fun a hE=>Zd hE Za ld rfl fun a hE=>Z3 hE Za ld rfl Tryz.underlying23 (hM.rd hv0_1) fun a hE=>Zi hE Za ld rfl rfl rfl fun a hE=>Zf ?_))
  refine Zs hE rfl ?_ ?_
  ·intro hb16
   have hs13:=ZA hs13 hb16
   refine wp_skip (Zz (wp_seq (wp_block (wp_region_lit (Zd hE Za ld rfl fun a hE=>Zd hE Za ld rfl fun a hE=>Zd hE Za ld rfl fun a hE=>Zd hE Za ld rfl ?_))))); intro a hE
   obtain ⟨x17,hi19,hs13⟩:=bix hs13
   refine ZL hE Za ld rfl rfl Tryz.underlying23 KS (hM.rd hv0_1) hi19.1 ?_; intro a hE
   obtain ⟨cs20,hs21,hA22⟩:=Vj hv0_1 hi19.2 -- ^
   obtain ⟨u23,u25,rfl,h24,h26⟩:=Xe hs21 -- ^
   refine Zm (cs:=cat [[vI x17.Number],[vI x17.Version],enc x17.Nonce,[u23],[u25],enc x17.Tag]) hE Za ld rfl KS rfl (hM.atk hA22 (UZ hv0_1 hi19.2)) (Zh (cl1 (n:=1) (m:=51) rfl (cl1 (n:=1) (m:=50) rfl (cl1 (n:=16) (m:=34) (Flat.len _) (cl1 (n:=1) (m:=33) rfl (cl1 (n:=1) (m:=32) rfl (cl1 (n:=32) (m:=0) (Flat.len _) cl0))))))) ?_; intro a hE
   obtain ⟨r27,e28,hs13⟩:=bind_some hs13
   refine Zt hE Za ld rfl cb135 (H4 _ x17 u23 (hM.rdo h24) u25 (hM.rdo h26) r27 e28) ?_
   rintro v w a ⟨u29,u30,rfl,hFr,hK⟩ hE
   have hM:=hM.add hK hFr
   obtain ⟨x31,hi33,hs13⟩:=bix hs13
   refine ZL hE Za ld rfl rfl Tryz.underlying33 XZ (hM.sl (pre:=[_,_]) noB) hi33.1 ?_; intro a hE
   have hM:=(hM.pull (pre:=[_])).pull (pre:=[_])
   have hM:=((hM.pack2 (it:=own NoB r27 (cat [[vI r27.Number],[vI r27.Version],enc r27.Nonce,[u29],[u30],enc r27.Tag])) (Yc noB) (fun f0 f1 q0 q1=>(Vp (YG.sat q0) (YG.sat q1) (by simp)))).pull (pre:=[_])).pull (pre:=[_])
   refine km (i:=(s10.2).toNat) (seg:=cat [[vI r27.Number],[vI r27.Version],enc r27.Nonce,[u29],[u30],enc r27.Tag]) hE hM noB Za rfl rfl rfl XZ (by omega) fun w a hM hE=>Zj (Yb (Zz (wp_region_lit (Zd hE Za ld rfl fun a hE=>Zi hE Za ld rfl rfl rfl fun a hE=>Ze hE Za ld rfl fun a hE=>Zj (Zn ?_)))))
   exact ⟨_,(ois hs13),u11,hE.sub ⟨rfl,rfl,rfl,trivial⟩,hM⟩
  ·intro hb16
   have hs13:=ZB hs13 hb16
   refine wp_exit (Zq (Zq (Yf ?_)))
   have ht34:=hx14 _ (ois hs13)
   subst ht34
   refine Zn ?_
   exact ⟨u11,hE.sub ⟨rfl,trivial⟩,hM⟩
 ·skip
  rintro a w ⟨u8,hE,hM⟩
  refine Zz (Zc (Zd hE Za ld rfl fun a hE=>Ze hE Za ld rfl fun a hE=>Zf ?_))
  have hr:=Option.some.inj hF7
  subst hr
  exact wp_ret (Zy hE rfl (Zu hE rfl) ⟨_,rfl,u8,rfl,hM.outF (Yo Xs),hM.kept⟩)
def VY (p0 : GEvent) : Option (GEvent) :=
 (Wi p0.Tag).bind fun r7=>some (⟨p0.Kind,p0.Number,r7⟩ : GEvent)
theorem Bn (w0 : World) (p0 : GEvent) (r : GEvent) (hF : VY p0 = some r) :
  Calls Tryz.prog 136 [(Value.agg (enc p0).toArray)].toArray w0 (fun en w'=>∃ v,en = .returned v ∧ (v = (Value.agg (enc r).toArray) ∧ Kept (Old w0) w0 w')):=by
 refine ZD (n:=15) Tryz.func136 rfl rfl (nbl rfl) rfl ?_
 intro a hE
 have hM:=M.start w0
 unfold VY at hF
 refine Zc (ZY (cs:=cat [[vI p0.Kind],[vI p0.Number],enc p0.Tag]) hE hM Za ld rfl rfl fun b1 w a hM hE=>ZE hE hM Za ld Y9 fun b3 w a hM hE=>Zf (Zc (ZE hE hM Za ld Y9 fun b5 w a hM hE=>Zf (Zc (Zg hE Za ld rfl (qt) fun a hE=>Zp (v:=(vI p0.Kind)) hE Za ld rfl ty2 rfl (At.cat (pre:=[]) (hM.rawAt (pre:=[_,_])) cl0) fun a hE=>Zg hE Za ld rfl (Qf) fun a hE=>Zo (seg:=[vI p0.Kind]) hE hM Za rfl rfl rfl ty2 rfl (YO (pre:=[]) cl0 rfl) (Flat.cell (p0.Kind : Int)) (ZX (pre:=[]) cl0 rfl) fun w a hM hE=>Zf (Zc (Zg hE Za ld rfl (qo) fun a hE=>Zp (v:=(vI p0.Number)) hE Za ld rfl ty2 rfl (At.cat (pre:=[[vI p0.Kind]]) (hM.rawAt (pre:=[_,_])) (cl1 (n:=1) (m:=0) rfl cl0)) fun a hE=>Zg hE Za ld rfl (Qe) fun a hE=>Zo (seg:=[vI p0.Number]) hE hM Za rfl rfl rfl ty2 rfl (YO (pre:=[[vI p0.Kind]]) (cl1 (n:=1) (m:=0) rfl cl0) rfl) (Flat.cell (p0.Number : Int)) (ZX (pre:=[[vI p0.Kind]]) (cl1 (n:=1) (m:=0) rfl cl0) rfl) fun w a hM hE=>Zf (Zc (Zg hE Za ld rfl (qr) ?_))))))))); intro a hE
 refine Zm (cs:=enc p0.Tag) hE Za ld rfl ty25 rfl (At.cat (pre:=[[vI p0.Kind],[vI p0.Number]]) (hM.rawAt (pre:=[_,_])) (cl1 (n:=1) (m:=1) rfl (cl1 (n:=1) (m:=0) rfl cl0))) (Flat.len _) ?_; intro a hE
 obtain ⟨r7,e8,hF⟩:=bind_some hF
 refine Zt hE Za ld rfl cb21 (Qa _ p0.Tag r7 e8) ?_
 rintro v w a ⟨rfl,hK⟩ hE
 have hM:=hM.keep hK
 refine Zg hE Za ld rfl (Q8) fun a hE=>Zo (seg:=enc r7) hE hM Za rfl rfl rfl Yy (Flat.len _) (YO (pre:=[[vI p0.Kind],[vI p0.Number]]) (cl1 (n:=1) (m:=1) rfl (cl1 (n:=1) (m:=0) rfl cl0)) flq) (Flat.cell _) (ZX (pre:=[[vI p0.Kind],[vI p0.Number]]) (cl1 (n:=1) (m:=1) rfl (cl1 (n:=1) (m:=0) rfl cl0)) flq) fun w a hM hE=>Zf (Zc (Zm (cs:=enc (⟨p0.Kind,p0.Number,r7⟩ : GEvent)) hE Za ld rfl Y9 rfl (hM.rawAt (pre:=[])) (Zh (cl1 (n:=1) (m:=33) rfl (cl1 (n:=1) (m:=32) rfl (cl1 (n:=32) (m:=0) (Flat.len _) cl0)))) ?_)); intro a hE
 have hM:=hM.pull (pre:=[_])
 refine Zo (seg:=cat [[(vI ((⟨p0.Kind,p0.Number,r7⟩ : GEvent).Kind))],[(vI ((⟨p0.Kind,p0.Number,r7⟩ : GEvent).Number))],enc ((⟨p0.Kind,p0.Number,r7⟩ : GEvent).Tag)]) (cs':=cat [[(vI ((⟨p0.Kind,p0.Number,r7⟩ : GEvent).Kind))],[(vI ((⟨p0.Kind,p0.Number,r7⟩ : GEvent).Number))],enc ((⟨p0.Kind,p0.Number,r7⟩ : GEvent).Tag)]) hE hM Za rfl rfl rfl Y9 (Zh (cl1 (n:=1) (m:=33) rfl (cl1 (n:=1) (m:=32) rfl (cl1 (n:=32) (m:=0) (Flat.len _) cl0)))) (Nat.le_of_eq ((Nat.zero_add _).trans (Eq.trans (Zh (cl1 (n:=1) (m:=33) rfl (cl1 (n:=1) (m:=32) rfl (cl1 (n:=32) (m:=0) (Flat.len _) cl0)))) (Eq.symm (Zh (cl1 (n:=1) (m:=33) rfl (cl1 (n:=1) (m:=32) rfl (cl1 (n:=32) (m:=0) (Flat.len _) cl0)))))))) (Z5 (cc1 (Flat.cell ((⟨p0.Kind,p0.Number,r7⟩ : GEvent).Kind : Int)) (cc1 (Flat.cell ((⟨p0.Kind,p0.Number,r7⟩ : GEvent).Number : Int)) (cc1 (Flat.cell _) cc0)))) (Zl (Eq.trans (Zh (cl1 (n:=1) (m:=33) rfl (cl1 (n:=1) (m:=32) rfl (cl1 (n:=32) (m:=0) (Flat.len _) cl0)))) (Eq.symm (Zh (cl1 (n:=1) (m:=33) rfl (cl1 (n:=1) (m:=32) rfl (cl1 (n:=32) (m:=0) (Flat.len _) cl0))))))) fun w a hM hE=>Zf ?_
 have hr:=Option.some.inj hF
 subst hr
 have hq9 : Yw Tryz.prog _ _ (.cell 2 146) _:=ZO hE rfl Y9 rfl (hM.rawAt (pre:=[])) (Zh (cl1 (n:=1) (m:=33) rfl (cl1 (n:=1) (m:=32) rfl (cl1 (n:=32) (m:=0) (Flat.len _) cl0)))) rfl
 have hM:=M.fst (l:=[]) hM
 exact wp_ret (Zy hE rfl hq9 ⟨_,rfl,rfl,hM.kept⟩)
def U3 (p0 : (List GEvent)) (s10 : (List GEvent) × Int) : Option (Fl ((List GEvent) × Int) (List GEvent)) :=
 if (decide (s10.2 < (p0.length : Int))) = true then ((idx p0 s10.2).bind fun x17=>(VY x17).bind fun r20=>(idx s10.1 s10.2).bind fun x22=>some (Fl.nx ((s10.1.set (s10.2).toNat r20),wr (s10.2 + 1)))) else (some (Fl.ex s10.1))
def Uh (p0 : (List GEvent)) : Option ((List GEvent)) :=
 (mkS 48 (⟨(0 : Int),(0 : Int),(Vector.replicate 32 (0 : UInt8))⟩ : GEvent) (p0.length : Int)).bind fun l1=>(ZG (U3 p0) (l1,0)).bind fun j5=>some j5
theorem HQ (w0 : World) (p0 : (List GEvent)) (v0_1 : Value) (hv0_1 : Ro w0 p0 [v0_1]) (r : (List GEvent)) (hF : Uh p0 = some r) :
  Calls Tryz.prog 58 [v0_1].toArray w0 (fun en w'=>∃ v,en = .returned v ∧ (∃ (y1 : Value),v = y1 ∧ Fr w0 w' [osl NoB (r : List GEvent) y1] ∧ Kept (Old w0) w0 w')):=by
 refine ZD (n:=23) Tryz.func58 rfl rfl (nbl rfl) rfl ?_
 intro a hE
 have hM:=M.start w0
 unfold Uh at hF
 refine Zc (Ze hE Za ld rfl fun a hE=>Zf (Zc (Zd hE Za ld rfl fun a hE=>Z3 hE Za ld rfl Tryz.underlying24 (hM.rd hv0_1) ?_))); intro a hE
 obtain ⟨l1,e2,hF⟩:=bind_some hF
 refine Ho hE hM Za ld rfl rfl Tryz.underlying34 Y9 rfl (by decide) (fun _=>Tr.2 ⟨rfl,rfl⟩) e2 fun u3 w a hM hE=>Ze hE Za ld rfl fun a hE=>Zf (wp_seq (Zc (Ze hE Za ld rfl fun a hE=>Zf ?_)))
 obtain ⟨j5,hl6,hF7⟩:=bind_some hF
 refine ZP (fun a w=>∃ (u8 : Value),Env 23 a [(3,u8)] ∧ M (Old w0) w0 w [osl NoB (j5 : List GEvent) u8]) ?_ ?_
 ·skip
  refine wp_block ?_
  refine ZI (fun (s10 : (List GEvent) × Int) a w=>∃ (u11 : Value),Env 23 a [(0,v0_1),(3,u11),(4,vI s10.2)] ∧ M (Old w0) w0 w [osl NoB (s10.1 : List GEvent) u11]) hl6 ⟨u3,hE.sub ⟨rfl,rfl,rfl,trivial⟩,hM⟩ ?_
  rintro s10 a w ⟨u11,hE,hM⟩ o15 hs13 hx14
  unfold U3 at hs13
  refine wp_seq (Zc (Zd hE Za ld rfl fun a hE=>Zd hE Za ld rfl fun a hE=>Z3 hE Za ld rfl Tryz.underlying24 (hM.rd hv0_1) fun a hE=>Zi hE Za ld rfl rfl rfl fun a hE=>Zf ?_))
  refine Zs hE rfl ?_ ?_
  ·intro hb16
   have hs13:=ZA hs13 hb16
   refine wp_skip (Zz (wp_seq (wp_block (wp_region_lit (Zd hE Za ld rfl fun a hE=>Zd hE Za ld rfl fun a hE=>Zd hE Za ld rfl fun a hE=>Zd hE Za ld rfl ?_))))); intro a hE
   obtain ⟨x17,hi19,hs13⟩:=bix hs13
   refine ZL hE Za ld rfl rfl Tryz.underlying24 ya (hM.rd hv0_1) hi19.1 fun a hE=>Zm (cs:=enc x17) hE Za ld rfl ya rfl (XE (hM.rd hv0_1) hi19.2) (Zh (cl1 (n:=1) (m:=33) rfl (cl1 (n:=1) (m:=32) rfl (cl1 (n:=32) (m:=0) (Flat.len _) cl0)))) ?_; intro a hE
   obtain ⟨r20,e21,hs13⟩:=bind_some hs13
   refine Zt hE Za ld rfl cb136 (Bn _ x17 r20 e21) ?_
   rintro v w a ⟨rfl,hK⟩ hE
   have hM:=hM.keep hK
   obtain ⟨x22,hi24,hs13⟩:=bix hs13
   refine ZL hE Za ld rfl rfl Tryz.underlying34 Y9 (hM.sl (pre:=[]) noB) hi24.1 fun a hE=>T4 (i:=(s10.2).toNat) (k0:=0) (seg:=cat [[vI r20.Kind],[vI r20.Number],enc r20.Tag]) (xo:=x22) (xn:=r20) hE hM Za rfl rfl rfl Y9 (Zh (cl1 (n:=1) (m:=33) rfl (cl1 (n:=1) (m:=32) rfl (cl1 (n:=32) (m:=0) (Flat.len _) cl0)))) (Z5 (cc1 (Flat.cell (r20.Kind : Int)) (cc1 (Flat.cell (r20.Number : Int)) (cc1 (Flat.cell _) cc0)))) hi24.2 (QB (m:=34) (Zh (cl1 (n:=1) (m:=33) rfl (cl1 (n:=1) (m:=32) rfl (cl1 (n:=32) (m:=0) (Flat.len _) cl0)))) (by decide)) (Zl (Eq.trans (Zh (cl1 (n:=1) (m:=33) rfl (cl1 (n:=1) (m:=32) rfl (cl1 (n:=32) (m:=0) (Flat.len _) cl0)))) (Eq.symm (Zh (cl1 (n:=1) (m:=33) rfl (cl1 (n:=1) (m:=32) rfl (cl1 (n:=32) (m:=0) (Flat.len _) cl0))))))) fun w a hM hE=>Zj (Yb (Zz (wp_region_lit (Zd hE Za ld rfl fun a hE=>Zi hE Za ld rfl rfl rfl fun a hE=>Ze hE Za ld rfl fun a hE=>Zj (Zn ?_)))))
   exact ⟨_,(ois hs13),u11,hE.sub ⟨rfl,rfl,rfl,trivial⟩,hM⟩
  ·intro hb16
   have hs13:=ZB hs13 hb16
   refine wp_exit (Zq (Zq (Yf ?_)))
   have ht25:=hx14 _ (ois hs13)
   subst ht25
   refine Zn ?_
   exact ⟨u11,hE.sub ⟨rfl,trivial⟩,hM⟩
 ·skip
  rintro a w ⟨u8,hE,hM⟩
  refine Zz (Zc (Zd hE Za ld rfl fun a hE=>Ze hE Za ld rfl fun a hE=>Zf ?_))
  have hr:=Option.some.inj hF7
  subst hr
  exact wp_ret (Zy hE rfl (Zu hE rfl) ⟨_,rfl,u8,rfl,hM.outF (Yo Xs),hM.kept⟩)
def X3 (p0 : GVault) : Option (GVault) :=
 (Un p0.Keys).bind fun r7=>(VL p0.Records).bind fun r10=>(Uh p0.Events).bind fun r13=>(Wi p0.Head).bind fun r16=>some (⟨r7,p0.Next,r10,r13,r16⟩ : GVault)
theorem TK (w0 : World) (p0 : GVault) (v0_1 : Value) (hv0_1 : Ro w0 p0.Keys [v0_1]) (v0_2 : Value) (hv0_2 : Ro w0 p0.Records [v0_2]) (v0_3 : Value) (hv0_3 : Ro w0 p0.Events [v0_3]) (r : GVault) (hF : X3 p0 = some r) :
  Calls Tryz.prog 14 [(Value.agg (cat [[v0_1],[vI p0.Next],[v0_2],[v0_3],enc p0.Head]).toArray)].toArray w0 (fun en w'=>∃ v,en = .returned v ∧ (∃ (y1 : Value) (y2 : Value) (y3 : Value),v = (Value.agg (cat [[y1],[vI r.Next],[y2],[y3],enc r.Head]).toArray) ∧ Fr w0 w' [osl NoB (r.Keys : List (Vector UInt8 16)) y1,osl NoB (r.Records : List GRecord) y2,osl NoB (r.Events : List GEvent) y3] ∧ Kept (Old w0) w0 w')):=by
 refine ZD (n:=24) Tryz.func14 rfl rfl (nbl rfl) rfl ?_
 intro a hE
 have hM:=M.start w0
 unfold X3 at hF
 refine Zc (ZY (cs:=cat [[v0_1],[vI p0.Next],[v0_2],[v0_3],enc p0.Head]) hE hM Za ld rfl rfl fun b1 w a hM hE=>ZE hE hM Za ld Yx fun b3 w a hM hE=>Zf (Zc (ZE hE hM Za ld Yx fun b5 w a hM hE=>Zf (Zc (Zg hE Za ld rfl (jT) fun a hE=>Zp (v:=v0_1) hE Za ld rfl ty22 rfl (At.cat (pre:=[]) (hM.rawAt (pre:=[_,_])) cl0) ?_))))); intro a hE
 obtain ⟨r7,e8,hF⟩:=bind_some hF
 refine Zt hE Za ld rfl cb56 (HR _ p0.Keys v0_1 (hM.rdo hv0_1) r7 e8) ?_
 rintro u9 w a ⟨_,rfl,hFr,hK⟩ hE
 have hM:=hM.add hK hFr
 refine Zg hE Za ld rfl (Wl) ?_; intro a hE
 have hM:=hM.pull (pre:=[_])
 refine Zo (seg:=[u9]) hE hM Za rfl rfl (YD (hM.sl (pre:=[_]) noB)) T1 rfl (YO (pre:=[]) cl0 rfl) (Rep.cell (hM.sl (pre:=[_]) noB)) (ZX (pre:=[]) cl0 rfl) fun w a hM hE=>Zf (Zc (Zg hE Za ld rfl (fd27_1) fun a hE=>Zp (v:=(vI p0.Next)) hE Za ld rfl ty2 rfl (At.cat (pre:=[[v0_1]]) (hM.rawAt (pre:=[_,_,_])) (cl1 (n:=1) (m:=0) rfl cl0)) fun a hE=>Zg hE Za ld rfl (Qo) fun a hE=>Zo (seg:=[vI p0.Next]) hE hM Za rfl rfl rfl ty2 rfl (YO (pre:=[[u9]]) (cl1 (n:=1) (m:=0) rfl cl0) rfl) (Flat.cell (p0.Next : Int)) (ZX (pre:=[[u9]]) (cl1 (n:=1) (m:=0) rfl cl0) rfl) fun w a hM hE=>Zf (Zc (Zg hE Za ld rfl (kC) fun a hE=>Zp (v:=v0_2) hE Za ld rfl ty23 rfl (At.cat (pre:=[[v0_1],[vI p0.Next]]) (hM.rawAt (pre:=[_,_,_])) (cl1 (n:=1) (m:=1) rfl (cl1 (n:=1) (m:=0) rfl cl0))) ?_)))); intro a hE
 obtain ⟨r10,e11,hF⟩:=bind_some hF
 refine Zt hE Za ld rfl cb57 (He _ p0.Records v0_2 (hM.rdo hv0_2) r10 e11) ?_
 rintro u12 w a ⟨_,rfl,hFr,hK⟩ hE
 have hM:=hM.add hK hFr
 refine Zg hE Za ld rfl (UC) ?_; intro a hE
 have hM:=hM.pull (pre:=[_])
 refine Zo (seg:=[u12]) hE hM Za rfl rfl (YD (hM.sl (pre:=[_]) noB)) QX rfl (YO (pre:=[[u9],[vI p0.Next]]) (cl1 (n:=1) (m:=1) rfl (cl1 (n:=1) (m:=0) rfl cl0)) rfl) (Rep.cell (hM.sl (pre:=[_]) noB)) (ZX (pre:=[[u9],[vI p0.Next]]) (cl1 (n:=1) (m:=1) rfl (cl1 (n:=1) (m:=0) rfl cl0)) rfl) fun w a hM hE=>Zf (Zc (Zg hE Za ld rfl (jY) fun a hE=>Zp (v:=v0_3) hE Za ld rfl ty24 rfl (At.cat (pre:=[[v0_1],[vI p0.Next],[v0_2]]) (hM.rawAt (pre:=[_,_,_,_])) (cl1 (n:=1) (m:=2) rfl (cl1 (n:=1) (m:=1) rfl (cl1 (n:=1) (m:=0) rfl cl0)))) ?_)); intro a hE
 obtain ⟨r13,e14,hF⟩:=bind_some hF
 refine Zt hE Za ld rfl cb58 (HQ _ p0.Events v0_3 (hM.rdo hv0_3) r13 e14) ?_
 rintro u15 w a ⟨_,rfl,hFr,hK⟩ hE
 have hM:=hM.add hK hFr
 refine Zg hE Za ld rfl (VH) ?_; intro a hE
 have hM:=hM.pull (pre:=[_])
 refine Zo (seg:=[u15]) hE hM Za rfl rfl (YD (hM.sl (pre:=[_]) noB)) QI rfl (YO (pre:=[[u9],[vI p0.Next],[u12]]) (cl1 (n:=1) (m:=2) rfl (cl1 (n:=1) (m:=1) rfl (cl1 (n:=1) (m:=0) rfl cl0))) rfl) (Rep.cell (hM.sl (pre:=[_]) noB)) (ZX (pre:=[[u9],[vI p0.Next],[u12]]) (cl1 (n:=1) (m:=2) rfl (cl1 (n:=1) (m:=1) rfl (cl1 (n:=1) (m:=0) rfl cl0))) rfl) fun w a hM hE=>Zf (Zc (Zg hE Za ld rfl (fd27_4) fun a hE=>Zm (cs:=enc p0.Head) hE Za ld rfl ty25 rfl (At.cat (pre:=[[v0_1],[vI p0.Next],[v0_2],[v0_3]]) (hM.rawAt (pre:=[_,_,_,_,_])) (cl1 (n:=1) (m:=3) rfl (cl1 (n:=1) (m:=2) rfl (cl1 (n:=1) (m:=1) rfl (cl1 (n:=1) (m:=0) rfl cl0))))) (Flat.len _) ?_)); intro a hE
 obtain ⟨r16,e17,hF⟩:=bind_some hF
 refine Zt hE Za ld rfl cb21 (Qa _ p0.Head r16 e17) ?_
 rintro v w a ⟨rfl,hK⟩ hE
 have hM:=hM.keep hK
 refine Zg hE Za ld rfl (Jm) fun a hE=>Zo (seg:=enc r16) hE hM Za rfl rfl rfl Yy (Flat.len _) (YO (pre:=[[u9],[vI p0.Next],[u12],[u15]]) (cl1 (n:=1) (m:=3) rfl (cl1 (n:=1) (m:=2) rfl (cl1 (n:=1) (m:=1) rfl (cl1 (n:=1) (m:=0) rfl cl0)))) flq) (Flat.cell _) (ZX (pre:=[[u9],[vI p0.Next],[u12],[u15]]) (cl1 (n:=1) (m:=3) rfl (cl1 (n:=1) (m:=2) rfl (cl1 (n:=1) (m:=1) rfl (cl1 (n:=1) (m:=0) rfl cl0)))) flq) fun w a hM hE=>Zf (Zc (Zm (cs:=cat [[u9],[vI p0.Next],[u12],[u15],enc r16]) hE Za ld rfl Yx rfl (hM.rawAt (pre:=[])) (Zh (cl1 (n:=1) (m:=35) rfl (cl1 (n:=1) (m:=34) rfl (cl1 (n:=1) (m:=33) rfl (cl1 (n:=1) (m:=32) rfl (cl1 (n:=32) (m:=0) (Flat.len _) cl0)))))) ?_)); intro a hE
 have hM:=hM.pull (pre:=[_,_,_,_])
 refine Zo (seg:=cat [[u9],[vI p0.Next],[u12],[u15],enc r16]) (cs':=cat [[u9],[vI p0.Next],[u12],[u15],enc r16]) hE hM Za rfl rfl rfl Yx (Zh (cl1 (n:=1) (m:=35) rfl (cl1 (n:=1) (m:=34) rfl (cl1 (n:=1) (m:=33) rfl (cl1 (n:=1) (m:=32) rfl (cl1 (n:=32) (m:=0) (Flat.len _) cl0)))))) (Nat.le_of_eq ((Nat.zero_add _).trans (Eq.trans (Zh (cl1 (n:=1) (m:=35) rfl (cl1 (n:=1) (m:=34) rfl (cl1 (n:=1) (m:=33) rfl (cl1 (n:=1) (m:=32) rfl (cl1 (n:=32) (m:=0) (Flat.len _) cl0)))))) (Eq.symm (Zh (cl1 (n:=1) (m:=35) rfl (cl1 (n:=1) (m:=34) rfl (cl1 (n:=1) (m:=33) rfl (cl1 (n:=1) (m:=32) rfl (cl1 (n:=32) (m:=0) (Flat.len _) cl0)))))))))) (Z5 (cc1 (Rep.cell (hM.sl (pre:=[_,_,_,_]) noB)) (cc1 (Flat.cell (p0.Next : Int)) (cc1 (Rep.cell (hM.sl (pre:=[_,_,_]) noB)) (cc1 (Rep.cell (hM.sl (pre:=[_,_]) noB)) (cc1 (Flat.cell _) cc0)))))) (Zl (Eq.trans (Zh (cl1 (n:=1) (m:=35) rfl (cl1 (n:=1) (m:=34) rfl (cl1 (n:=1) (m:=33) rfl (cl1 (n:=1) (m:=32) rfl (cl1 (n:=32) (m:=0) (Flat.len _) cl0)))))) (Eq.symm (Zh (cl1 (n:=1) (m:=35) rfl (cl1 (n:=1) (m:=34) rfl (cl1 (n:=1) (m:=33) rfl (cl1 (n:=1) (m:=32) rfl (cl1 (n:=32) (m:=0) (Flat.len _) cl0))))))))) fun w a hM hE=>Zf ?_
 have hr:=Option.some.inj hF
 subst hr
 have hq18 : Yw Tryz.prog _ _ (.cell 2 36) _:=ZO hE rfl Yx rfl (hM.rawAt (pre:=[])) (Zh (cl1 (n:=1) (m:=35) rfl (cl1 (n:=1) (m:=34) rfl (cl1 (n:=1) (m:=33) rfl (cl1 (n:=1) (m:=32) rfl (cl1 (n:=32) (m:=0) (Flat.len _) cl0)))))) rfl
 have hM:=M.fst (l:=[_,_,_]) (((hM.pull (pre:=[_,_])).pull (pre:=[_,_,_])).pull (pre:=[_,_,_,_]))
 exact wp_ret (Zy hE rfl hq18 ⟨_,rfl,u9,u12,u15,rfl,hM.outF (Yo (Yo (Yo Xs))),hM.kept⟩)
def Vg (p0 : Int) (p1 : Int) (p2 : Int) : Option (Bool) :=
 (if (decide (p0 ≥ p1)) = true then (some (decide (p0 ≤ p2))) else (some false) : Option (Bool)).bind fun j1=>some j1
theorem Qj (w0 : World) (p0 : Int) (p1 : Int) (p2 : Int) (r : Bool) (hF : Vg p0 p1 p2 = some r) :
  Calls Tryz.prog 128 [vI p0,vI p1,vI p2].toArray w0 (fun en w'=>∃ v,en = .returned v ∧ (v = (vT r) ∧ Kept (Old w0) w0 w')):=by
 refine ZD (n:=15) Tryz.func128 rfl rfl (nbl rfl) rfl ?_
 intro a hE
 have hM:=M.start w0
 unfold Vg at hF
 refine Zc (Ze hE Za ld rfl fun a hE=>Zf ?_)
 obtain ⟨j1,hl2,hF3⟩:=bind_some hF
 refine ZS (fun a w=>Env 15 a [(6,vT j1)] ∧ M (Old w0) w0 w []) ?_ ?_
 ·skip
  refine wp_region_lit (Zd hE Za ld rfl fun a hE=>Zd hE Za ld rfl fun a hE=>Zi hE Za ld rfl rfl rfl fun a hE=>Zd hE Za ld rfl ?_); intro a hE
  refine XL (decide (p0 ≥ p1)) (fun hb4=>?_) (fun hb4=>?_)
  ·have hl2:=ZA hl2 hb4
   refine Zd hE (Zw hE rfl (lkb rfl hb4)) (by decide) rfl fun a hE=>Zd hE (Zw hE rfl (lkb rfl hb4)) (by decide) rfl fun a hE=>Zi hE (Zw hE rfl (lkb rfl hb4)) (by decide) rfl rfl rfl fun a hE=>Z4 hE Za ld (lkb rfl hb4) rfl fun a hE=>Ze hE Za ld rfl fun a hE=>Zj ?_
   have ht5:=Option.some.inj hl2
   subst ht5
   refine Zn ?_
   exact ⟨hE.sub ⟨rfl,trivial⟩,hM⟩
  ·have hl2:=ZB hl2 hb4
   refine Zv hE rfl (lkb rfl hb4) rfl (by decide) fun a hE=>Zv hE rfl (lkb rfl hb4) rfl (by decide) fun a hE=>Zv hE rfl (lkb rfl hb4) rfl (by decide) fun a hE=>YM hE Za ld (lkb rfl hb4) rfl fun a hE=>Ze hE Za ld rfl fun a hE=>Zj ?_
   have ht6:=Option.some.inj hl2
   subst ht6
   refine Zn ?_
   exact ⟨hE.sub ⟨rfl,trivial⟩,hM⟩
 ·skip
  rintro a w ⟨hE,hM⟩
  have hr:=Option.some.inj hF3
  subst hr
  exact wp_ret (Zy hE rfl (Zu hE rfl) ⟨_,rfl,rfl,hM.kept⟩)
def Us (p0 : GEvent) : Option (Bool) :=
 ((Vg p0.Kind 1 4).bind fun r6=>if r6 = true then ((Vg p0.Number 0 1000000).bind fun r9=>some r9) else (some false) : Option (Bool)).bind fun j3=>some j3
theorem HT (w0 : World) (p0 : GEvent) (r : Bool) (hF : Us p0 = some r) :
  Calls Tryz.prog 129 [(Value.agg (enc p0).toArray)].toArray w0 (fun en w'=>∃ v,en = .returned v ∧ (v = (vT r) ∧ Kept (Old w0) w0 w')):=by
 refine ZD (n:=11) Tryz.func129 rfl rfl (nbl rfl) rfl ?_
 intro a hE
 have hM:=M.start w0
 unfold Us at hF
 refine Zc (ZY (cs:=cat [[vI p0.Kind],[vI p0.Number],enc p0.Tag]) hE hM Za ld rfl rfl fun b1 w a hM hE=>Ze hE Za ld rfl fun a hE=>Zf ?_)
 obtain ⟨j3,hl4,hF5⟩:=bind_some hF
 refine ZS (fun a w=>Env 11 a [(2,vT j3)] ∧ M (Old w0) w0 w []) ?_ ?_
 ·skip
  refine wp_region_lit (Zg hE Za ld rfl (Qf) fun a hE=>Zp (v:=(vI p0.Kind)) hE Za ld rfl ty2 rfl (At.cat (pre:=[]) (hM.rawAt (pre:=[])) cl0) ?_); intro a hE
  obtain ⟨r6,e7,hl4⟩:=bind_some hl4
  refine Zt hE Za ld rfl yY (Qj _ p0.Kind 1 4 r6 e7) ?_
  rintro v w a ⟨rfl,hK⟩ hE
  have hM:=hM.keep hK
  refine Zd hE Za ld rfl ?_; intro a hE
  refine XL r6 (fun hb8=>?_) (fun hb8=>?_)
  ·have hl4:=ZA hl4 hb8
   refine Zg hE (Zw hE rfl (lkb rfl hb8)) (by decide) rfl (Qe) fun a hE=>Zp (v:=(vI p0.Number)) hE (Zw hE rfl (lkb rfl hb8)) (by decide) rfl ty2 rfl (At.cat (pre:=[[vI p0.Kind]]) (hM.rawAt (pre:=[])) (cl1 (n:=1) (m:=0) rfl cl0)) ?_; intro a hE
   obtain ⟨r9,e10,hl4⟩:=bind_some hl4
   refine Zt hE (Zw hE rfl (lkb rfl hb8)) (by decide) rfl yY (Qj _ p0.Number 0 1000000 r9 e10) ?_
   rintro v w a ⟨rfl,hK⟩ hE
   have hM:=hM.keep hK
   refine Z4 hE Za ld (lkb rfl hb8) rfl fun a hE=>Ze hE Za ld rfl fun a hE=>Zj ?_
   have ht11:=Option.some.inj hl4
   subst ht11
   refine Zn ?_
   have hM:=M.fst (l:=[]) hM
   exact ⟨hE.sub ⟨rfl,trivial⟩,hM⟩
  ·have hl4:=ZB hl4 hb8
   refine Zv hE rfl (lkb rfl hb8) rfl (by decide) fun a hE=>Zv hE rfl (lkb rfl hb8) rfl (by decide) fun a hE=>Zv hE rfl (lkb rfl hb8) rfl (by decide) fun a hE=>YM hE Za ld (lkb rfl hb8) rfl fun a hE=>Ze hE Za ld rfl fun a hE=>Zj ?_
   have ht12:=Option.some.inj hl4
   subst ht12
   refine Zn ?_
   have hM:=M.fst (l:=[]) hM
   exact ⟨hE.sub ⟨rfl,trivial⟩,hM⟩
 ·skip
  rintro a w ⟨hE,hM⟩
  have hr:=Option.some.inj hF5
  subst hr
  exact wp_ret (Zy hE rfl (Zu hE rfl) ⟨_,rfl,rfl,hM.kept⟩)
def Ux (p0 : GVault) (s22 : Int × Int) : Option (Fl (Int × Int) (Fl Unit Bool)) :=
 if (decide (s22.2 < (p0.Records.length : Int))) = true then ((idx p0.Records s22.2).bind fun x27=>(if (decide (x27.Number ≤ s22.1)) = true then (some true) else (if (decide (x27.Number ≥ p0.Next)) = true then (some true) else ((Vg x27.Version 0 (wr ((p0.Keys.length : Int) - 1))).bind fun r46=>if (!r46) = true then (some true) else (if (decide ((x27.Label.length : Int) > 32)) = true then (some true) else (some (decide ((x27.Body.length : Int) > 200)))))) : Option (Bool)).bind fun j39=>if j39 = true then (some (Fl.ex (Fl.ex false))) else (some (Fl.nx (x27.Number,wr (s22.2 + 1))))) else (some (Fl.ex (Fl.nx ())))
def Tm (p0 : GVault) (s60 : Int) : Option (Fl Int (Fl Unit Bool)) :=
 if (decide (s60 < (p0.Events.length : Int))) = true then ((idx p0.Events s60).bind fun x65=>(Us x65).bind fun r68=>if (!r68) = true then (some (Fl.ex (Fl.ex false))) else (some (Fl.nx (wr (s60 + 1))))) else (some (Fl.ex (Fl.nx ())))
def TM (p0 : GVault) : Option (Bool) :=
 (if (decide ((p0.Keys.length : Int) < 1)) = true then (some true) else (if (decide ((p0.Keys.length : Int) > 8)) = true then (some true) else ((Vg p0.Next 1 1000000).bind fun r10=>if (!r10) = true then (some true) else (if (decide ((p0.Records.length : Int) > 12)) = true then (some true) else (some (decide ((p0.Events.length : Int) > 60)))))) : Option (Bool)).bind fun j3=>if j3 = true then (some false) else ((ZG (Ux p0) (0,0)).bind fun j18=>j18.el (fun s21=>(ZG (Tm p0) 0).bind fun j56=>j56.el (fun s59=>some true) (fun r=>some r)) (fun r=>some r))
theorem zp (w0 : World) (p0 : GVault) (v0_1 : Value) (hv0_1 : Ro w0 p0.Keys [v0_1]) (v0_2 : Value) (hv0_2 : Ro w0 p0.Records [v0_2]) (v0_3 : Value) (hv0_3 : Ro w0 p0.Events [v0_3]) (r : Bool) (hF : TM p0 = some r) :
  Calls Tryz.prog 53 [(Value.agg (cat [[v0_1],[vI p0.Next],[v0_2],[v0_3],enc p0.Head]).toArray)].toArray w0 (fun en w'=>∃ v,en = .returned v ∧ (v = (vT r) ∧ Kept (Old w0) w0 w')):=by
 refine ZD (n:=96) Tryz.func53 rfl rfl (nbl rfl) rfl ?_
 intro a hE
 have hM:=M.start w0
 unfold TM at hF
 refine Zc (ZY (cs:=cat [[v0_1],[vI p0.Next],[v0_2],[v0_3],enc p0.Head]) hE hM Za ld rfl rfl fun b1 w a hM hE=>Ze hE Za ld rfl fun a hE=>Zf (wp_seq ?_))
 obtain ⟨j3,hl4,hF5⟩:=bind_some hF
 refine ZS (fun a w=>Env 96 a [(1,(ptr b1 0)),(34,vT j3)] ∧ M (Old w0) w0 w [raw b1 (cat [[v0_1],[vI p0.Next],[v0_2],[v0_3],enc p0.Head])]) ?_ ?_
 ·skip
  refine wp_region_lit (Zg hE Za ld rfl (Wl) fun a hE=>Zp (v:=v0_1) hE Za ld rfl T1 rfl (At.cat (pre:=[]) (hM.rawAt (pre:=[])) cl0) fun a hE=>Z3 hE Za ld rfl Tryz.underlying32 (hM.rd hv0_1) fun a hE=>Zi hE Za ld rfl rfl rfl fun a hE=>Zd hE Za ld rfl ?_); intro a hE
  refine XL (decide ((p0.Keys.length : Int) < 1)) (fun hb6=>?_) (fun hb6=>?_)
  ·have hl4:=ZA hl4 hb6
   refine Zv hE rfl (lkb rfl hb6) rfl (by decide) fun a hE=>Zv hE rfl (lkb rfl hb6) rfl (by decide) fun a hE=>Zv hE rfl (lkb rfl hb6) rfl (by decide) fun a hE=>Zv hE rfl (lkb rfl hb6) rfl (by decide) fun a hE=>Z4 hE Za ld (lkb rfl hb6) rfl fun a hE=>Zd hE Za ld rfl fun a hE=>Zv hE rfl rfl rfl (by decide) fun a hE=>Zv hE rfl rfl rfl (by decide) fun a hE=>Zv hE rfl rfl rfl (by decide) fun a hE=>Zv hE rfl rfl rfl (by decide) fun a hE=>Z4 hE Za ld rfl rfl fun a hE=>Zd hE Za ld rfl ?_; intro a hE
   refine Zv hE rfl rfl rfl (by decide) fun a hE=>Zv hE rfl rfl rfl (by decide) fun a hE=>Zv hE rfl rfl rfl (by decide) fun a hE=>Zv hE rfl rfl rfl (by decide) fun a hE=>Z4 hE Za ld rfl rfl fun a hE=>Zd hE Za ld rfl fun a hE=>Zv hE rfl rfl rfl (by decide) fun a hE=>Zv hE rfl rfl rfl (by decide) fun a hE=>Zv hE rfl rfl rfl (by decide) fun a hE=>Zv hE rfl rfl rfl (by decide) fun a hE=>Z4 hE Za ld rfl rfl fun a hE=>Zj ?_
   have ht7:=Option.some.inj hl4
   subst ht7
   refine Zn ?_
   exact ⟨hE.sub ⟨rfl,rfl,trivial⟩,hM⟩
  ·have hl4:=ZB hl4 hb6
   refine Zg hE (Zw hE rfl (lkb rfl hb6)) (by decide) rfl (Wl) fun a hE=>Zp (v:=v0_1) hE (Zw hE rfl (lkb rfl hb6)) (by decide) rfl T1 rfl (At.cat (pre:=[]) (hM.rawAt (pre:=[])) cl0) fun a hE=>Z3 hE (Zw hE rfl (lkb rfl hb6)) (by decide) rfl Tryz.underlying32 (hM.rd hv0_1) fun a hE=>Zi hE (Zw hE rfl (lkb rfl hb6)) (by decide) rfl rfl rfl fun a hE=>YM hE Za ld (lkb rfl hb6) rfl fun a hE=>Zd hE Za ld rfl ?_; intro a hE
   refine XL (decide ((p0.Keys.length : Int) > 8)) (fun hb8=>?_) (fun hb8=>?_)
   ·have hl4:=ZA hl4 hb8
    refine Zv hE rfl (lkb rfl hb8) rfl (by decide) fun a hE=>Zv hE rfl (lkb rfl hb8) rfl (by decide) fun a hE=>Zv hE rfl (lkb rfl hb8) rfl (by decide) fun a hE=>Zv hE rfl (lkb rfl hb8) rfl (by decide) fun a hE=>Z4 hE Za ld (lkb rfl hb8) rfl fun a hE=>Zd hE Za ld rfl fun a hE=>Zv hE rfl rfl rfl (by decide) fun a hE=>Zv hE rfl rfl rfl (by decide) fun a hE=>Zv hE rfl rfl rfl (by decide) fun a hE=>Zv hE rfl rfl rfl (by decide) fun a hE=>Z4 hE Za ld rfl rfl fun a hE=>Zd hE Za ld rfl ?_; intro a hE
    refine Zv hE rfl rfl rfl (by decide) fun a hE=>Zv hE rfl rfl rfl (by decide) fun a hE=>Zv hE rfl rfl rfl (by decide) fun a hE=>Zv hE rfl rfl rfl (by decide) fun a hE=>Z4 hE Za ld rfl rfl fun a hE=>Zj ?_
    have ht9:=Option.some.inj hl4
    subst ht9
    refine Zn ?_
    exact ⟨hE.sub ⟨rfl,rfl,trivial⟩,hM⟩
   ·have hl4:=ZB hl4 hb8
    refine Zg hE (Zw hE rfl (lkb rfl hb8)) (by decide) rfl (Qo) fun a hE=>Zp (v:=(vI p0.Next)) hE (Zw hE rfl (lkb rfl hb8)) (by decide) rfl ty2 rfl (At.cat (pre:=[[v0_1]]) (hM.rawAt (pre:=[])) (cl1 (n:=1) (m:=0) rfl cl0)) ?_; intro a hE
    obtain ⟨r10,e11,hl4⟩:=bind_some hl4
    refine Zt hE (Zw hE rfl (lkb rfl hb8)) (by decide) rfl yY (Qj _ p0.Next 1 1000000 r10 e11) ?_
    rintro v w a ⟨rfl,hK⟩ hE
    have hM:=hM.keep hK
    refine WJ hE (Zw hE rfl (lkb rfl hb8)) (by decide) rfl fun a hE=>YM hE Za ld (lkb rfl hb8) rfl fun a hE=>Zd hE Za ld rfl ?_; intro a hE
    refine XL (!r10) (fun hb12=>?_) (fun hb12=>?_)
    ·have hl4:=ZA hl4 hb12
     refine Zv hE rfl (lkb rfl hb12) rfl (by decide) fun a hE=>Zv hE rfl (lkb rfl hb12) rfl (by decide) fun a hE=>Zv hE rfl (lkb rfl hb12) rfl (by decide) fun a hE=>Zv hE rfl (lkb rfl hb12) rfl (by decide) fun a hE=>Z4 hE Za ld (lkb rfl hb12) rfl fun a hE=>Zd hE Za ld rfl fun a hE=>Zv hE rfl rfl rfl (by decide) fun a hE=>Zv hE rfl rfl rfl (by decide) fun a hE=>Zv hE rfl rfl rfl (by decide) fun a hE=>Zv hE rfl rfl rfl (by decide) fun a hE=>Z4 hE Za ld rfl rfl fun a hE=>Zj ?_
     have ht13:=Option.some.inj hl4
     subst ht13
     refine Zn ?_
     exact ⟨hE.sub ⟨rfl,rfl,trivial⟩,hM⟩
    ·have hl4:=ZB hl4 hb12
     refine Zg hE (Zw hE rfl (lkb rfl hb12)) (by decide) rfl (UC) fun a hE=>Zp (v:=v0_2) hE (Zw hE rfl (lkb rfl hb12)) (by decide) rfl QX rfl (At.cat (pre:=[[v0_1],[vI p0.Next]]) (hM.rawAt (pre:=[])) (cl1 (n:=1) (m:=1) rfl (cl1 (n:=1) (m:=0) rfl cl0))) fun a hE=>Z3 hE (Zw hE rfl (lkb rfl hb12)) (by decide) rfl Tryz.underlying33 (hM.rd hv0_2) fun a hE=>Zi hE (Zw hE rfl (lkb rfl hb12)) (by decide) rfl rfl rfl fun a hE=>YM hE Za ld (lkb rfl hb12) rfl fun a hE=>Zd hE Za ld rfl ?_; intro a hE
     refine XL (decide ((p0.Records.length : Int) > 12)) (fun hb14=>?_) (fun hb14=>?_)
     ·have hl4:=ZA hl4 hb14
      refine Zv hE rfl (lkb rfl hb14) rfl (by decide) fun a hE=>Zv hE rfl (lkb rfl hb14) rfl (by decide) fun a hE=>Zv hE rfl (lkb rfl hb14) rfl (by decide) fun a hE=>Zv hE rfl (lkb rfl hb14) rfl (by decide) fun a hE=>Z4 hE Za ld (lkb rfl hb14) rfl fun a hE=>Zj ?_
      have ht15:=Option.some.inj hl4
      subst ht15
      refine Zn ?_
      exact ⟨hE.sub ⟨rfl,rfl,trivial⟩,hM⟩
     ·have hl4:=ZB hl4 hb14
      refine Zg hE (Zw hE rfl (lkb rfl hb14)) (by decide) rfl (VH) fun a hE=>Zp (v:=v0_3) hE (Zw hE rfl (lkb rfl hb14)) (by decide) rfl QI rfl (At.cat (pre:=[[v0_1],[vI p0.Next],[v0_2]]) (hM.rawAt (pre:=[])) (cl1 (n:=1) (m:=2) rfl (cl1 (n:=1) (m:=1) rfl (cl1 (n:=1) (m:=0) rfl cl0)))) fun a hE=>Z3 hE (Zw hE rfl (lkb rfl hb14)) (by decide) rfl Tryz.underlying34 (hM.rd hv0_3) fun a hE=>Zi hE (Zw hE rfl (lkb rfl hb14)) (by decide) rfl rfl rfl fun a hE=>YM hE Za ld (lkb rfl hb14) rfl fun a hE=>Zj ?_
      have ht16:=Option.some.inj hl4
      subst ht16
      refine Zn ?_
      exact ⟨hE.sub ⟨rfl,rfl,trivial⟩,hM⟩
 ·skip
  rintro a w ⟨hE,hM⟩
  refine Zs hE rfl ?_ ?_
  ·intro hb17
   have hF5:=ZA hF5 hb17
   refine Zc (Ze hE Za ld rfl fun a hE=>Zf ?_)
   have hr:=Option.some.inj hF5
   subst hr
   have hM:=M.fst (l:=[]) hM
   exact wp_ret (Zx (Zy hE rfl (Zu hE rfl) ⟨_,rfl,rfl,hM.kept⟩))
  ·intro hb17
   have hF5:=ZB hF5 hb17
   refine wp_skip (Zz (Zc (Ze hE Za ld rfl fun a hE=>Zf (wp_seq (Zc (Ze hE Za ld rfl fun a hE=>Zf ?_))))))
   obtain ⟨j18,hl19,hF20⟩:=bind_some hF5
   refine ZP (fun a w=>∃ s21 : Unit,j18 = Fl.nx s21 ∧ Env 96 a [(1,(ptr b1 0))] ∧ M (Old w0) w0 w [raw b1 (cat [[v0_1],[vI p0.Next],[v0_2],[v0_3],enc p0.Head])]) ?_ ?_
   ·skip
    refine wp_block ?_
    refine ZI (fun (s22 : Int × Int) a w=>Env 96 a [(1,(ptr b1 0)),(3,vI s22.1),(4,vI s22.2)] ∧ M (Old w0) w0 w [raw b1 (cat [[v0_1],[vI p0.Next],[v0_2],[v0_3],enc p0.Head])]) hl19 ⟨hE.sub ⟨rfl,rfl,rfl,trivial⟩,hM⟩ ?_
    rintro s22 a w ⟨hE,hM⟩ o25 hs23 hx24
    unfold Ux at hs23
    refine wp_seq (Zc (Zd hE Za ld rfl fun a hE=>Zg hE Za ld rfl (UC) fun a hE=>Zp (v:=v0_2) hE Za ld rfl QX rfl (At.cat (pre:=[[v0_1],[vI p0.Next]]) (hM.rawAt (pre:=[])) (cl1 (n:=1) (m:=1) rfl (cl1 (n:=1) (m:=0) rfl cl0))) fun a hE=>Z3 hE Za ld rfl Tryz.underlying33 (hM.rd hv0_2) fun a hE=>Zi hE Za ld rfl rfl rfl fun a hE=>Zf ?_))
    refine Zs hE rfl ?_ ?_
    ·intro hb26
     have hs23:=ZA hs23 hb26
     refine wp_skip (Zz (wp_seq (wp_block (Zc (Zg hE Za ld rfl (UC) fun a hE=>Zp (v:=v0_2) hE Za ld rfl QX rfl (At.cat (pre:=[[v0_1],[vI p0.Next]]) (hM.rawAt (pre:=[])) (cl1 (n:=1) (m:=1) rfl (cl1 (n:=1) (m:=0) rfl cl0))) fun a hE=>Zd hE Za ld rfl ?_))))); intro a hE
     obtain ⟨x27,hi29,hs23⟩:=bix hs23
     refine ZL hE Za ld rfl rfl Tryz.underlying33 XZ (hM.rd hv0_2) hi29.1 ?_; intro a hE
     obtain ⟨cs30,hs31,hA32⟩:=Vj hv0_2 hi29.2 -- ^
     obtain ⟨u33,u35,rfl,h34,h36⟩:=Xe hs31 -- ^
     refine Zm (cs:=cat [[vI x27.Number],[vI x27.Version],enc x27.Nonce,[u33],[u35],enc x27.Tag]) hE Za ld rfl XZ rfl (hM.atk hA32 (UZ hv0_2 hi29.2)) (Zh (cl1 (n:=1) (m:=51) rfl (cl1 (n:=1) (m:=50) rfl (cl1 (n:=16) (m:=34) (Flat.len _) (cl1 (n:=1) (m:=33) rfl (cl1 (n:=1) (m:=32) rfl (cl1 (n:=32) (m:=0) (Flat.len _) cl0))))))) fun a hE=>ZE hE hM Za ld XZ fun b37 w a hM hE=>Zo (seg:=cat [[vI x27.Number],[vI x27.Version],enc x27.Nonce,[u33],[u35],enc x27.Tag]) (cs':=cat [[vI x27.Number],[vI x27.Version],enc x27.Nonce,[u33],[u35],enc x27.Tag]) hE hM Za rfl rfl rfl XZ (Zh (cl1 (n:=1) (m:=51) rfl (cl1 (n:=1) (m:=50) rfl (cl1 (n:=16) (m:=34) (Flat.len _) (cl1 (n:=1) (m:=33) rfl (cl1 (n:=1) (m:=32) rfl (cl1 (n:=32) (m:=0) (Flat.len _) cl0))))))) (Nat.le_of_eq ((Nat.zero_add _).trans (Eq.trans (Zh (cl1 (n:=1) (m:=51) rfl (cl1 (n:=1) (m:=50) rfl (cl1 (n:=16) (m:=34) (Flat.len _) (cl1 (n:=1) (m:=33) rfl (cl1 (n:=1) (m:=32) rfl (cl1 (n:=32) (m:=0) (Flat.len _) cl0))))))) (Eq.symm (Zh (cl1 (n:=1) (m:=51) rfl (cl1 (n:=1) (m:=50) rfl (cl1 (n:=16) (m:=34) (Flat.len _) (cl1 (n:=1) (m:=33) rfl (cl1 (n:=1) (m:=32) rfl (cl1 (n:=32) (m:=0) (Flat.len _) cl0))))))))))) (Z5 (cc1 (Flat.cell (x27.Number : Int)) (cc1 (Flat.cell (x27.Version : Int)) (cc1 (Flat.cell _) (cc1 (Rep.cell (hM.rd h34)) (cc1 (Rep.cell (hM.rd h36)) (cc1 (Flat.cell _) cc0))))))) (Zl (Eq.trans (Zh (cl1 (n:=1) (m:=51) rfl (cl1 (n:=1) (m:=50) rfl (cl1 (n:=16) (m:=34) (Flat.len _) (cl1 (n:=1) (m:=33) rfl (cl1 (n:=1) (m:=32) rfl (cl1 (n:=32) (m:=0) (Flat.len _) cl0))))))) (Eq.symm (Zh (cl1 (n:=1) (m:=51) rfl (cl1 (n:=1) (m:=50) rfl (cl1 (n:=16) (m:=34) (Flat.len _) (cl1 (n:=1) (m:=33) rfl (cl1 (n:=1) (m:=32) rfl (cl1 (n:=32) (m:=0) (Flat.len _) cl0)))))))))) fun w a hM hE=>Zf (wp_seq ?_)
     obtain ⟨j39,hl40,hF41⟩:=bind_some hs23
     refine ZS (fun a w=>Env 96 a [(1,(ptr b1 0)),(4,vI s22.2),(5,(ptr b37 0)),(79,vT j39)] ∧ M (Old w0) w0 w [raw b37 (cat [[vI x27.Number],[vI x27.Version],enc x27.Nonce,[u33],[u35],enc x27.Tag]),raw b1 (cat [[v0_1],[vI p0.Next],[v0_2],[v0_3],enc p0.Head])]) ?_ ?_
     ·skip
      refine wp_region_lit (Zg hE Za ld rfl (TU) fun a hE=>Zp (v:=(vI x27.Number)) hE Za ld rfl ty2 rfl (At.cat (pre:=[]) (hM.rawAt (pre:=[])) cl0) fun a hE=>Zd hE Za ld rfl fun a hE=>Zi hE Za ld rfl rfl rfl fun a hE=>Zd hE Za ld rfl ?_); intro a hE
      refine XL (decide (x27.Number ≤ s22.1)) (fun hb42=>?_) (fun hb42=>?_)
      ·have hl40:=ZA hl40 hb42
       refine Zv hE rfl (lkb rfl hb42) rfl (by decide) fun a hE=>Zv hE rfl (lkb rfl hb42) rfl (by decide) fun a hE=>Zv hE rfl (lkb rfl hb42) rfl (by decide) fun a hE=>Zv hE rfl (lkb rfl hb42) rfl (by decide) fun a hE=>Zv hE rfl (lkb rfl hb42) rfl (by decide) fun a hE=>Z4 hE Za ld (lkb rfl hb42) rfl fun a hE=>Zd hE Za ld rfl fun a hE=>Zv hE rfl rfl rfl (by decide) fun a hE=>Zv hE rfl rfl rfl (by decide) fun a hE=>Zv hE rfl rfl rfl (by decide) fun a hE=>Zv hE rfl rfl rfl (by decide) fun a hE=>Zv hE rfl rfl rfl (by decide) ?_; intro a hE
       refine Zv hE rfl rfl rfl (by decide) fun a hE=>Zv hE rfl rfl rfl (by decide) fun a hE=>Zv hE rfl rfl rfl (by decide) fun a hE=>Z4 hE Za ld rfl rfl fun a hE=>Zd hE Za ld rfl fun a hE=>Zv hE rfl rfl rfl (by decide) fun a hE=>Zv hE rfl rfl rfl (by decide) fun a hE=>Zv hE rfl rfl rfl (by decide) fun a hE=>Zv hE rfl rfl rfl (by decide) fun a hE=>Z4 hE Za ld rfl rfl fun a hE=>Zd hE Za ld rfl fun a hE=>Zv hE rfl rfl rfl (by decide) ?_; intro a hE
       refine Zv hE rfl rfl rfl (by decide) fun a hE=>Zv hE rfl rfl rfl (by decide) fun a hE=>Zv hE rfl rfl rfl (by decide) fun a hE=>Z4 hE Za ld rfl rfl fun a hE=>Zj ?_
       have ht43:=Option.some.inj hl40
       subst ht43
       refine Zn ?_
       exact ⟨hE.sub ⟨rfl,rfl,rfl,rfl,trivial⟩,hM⟩
      ·have hl40:=ZB hl40 hb42
       refine Zg hE (Zw hE rfl (lkb rfl hb42)) (by decide) rfl (TU) fun a hE=>Zp (v:=(vI x27.Number)) hE (Zw hE rfl (lkb rfl hb42)) (by decide) rfl ty2 rfl (At.cat (pre:=[]) (hM.rawAt (pre:=[])) cl0) fun a hE=>Zg hE (Zw hE rfl (lkb rfl hb42)) (by decide) rfl (Qo) fun a hE=>Zp (v:=(vI p0.Next)) hE (Zw hE rfl (lkb rfl hb42)) (by decide) rfl ty2 rfl (At.cat (pre:=[[v0_1]]) (hM.rawAt (pre:=[_])) (cl1 (n:=1) (m:=0) rfl cl0)) fun a hE=>Zi hE (Zw hE rfl (lkb rfl hb42)) (by decide) rfl rfl rfl fun a hE=>YM hE Za ld (lkb rfl hb42) rfl fun a hE=>Zd hE Za ld rfl ?_; intro a hE
       refine XL (decide (x27.Number ≥ p0.Next)) (fun hb44=>?_) (fun hb44=>?_)
       ·have hl40:=ZA hl40 hb44
        refine Zv hE rfl (lkb rfl hb44) rfl (by decide) fun a hE=>Zv hE rfl (lkb rfl hb44) rfl (by decide) fun a hE=>Zv hE rfl (lkb rfl hb44) rfl (by decide) fun a hE=>Zv hE rfl (lkb rfl hb44) rfl (by decide) fun a hE=>Zv hE rfl (lkb rfl hb44) rfl (by decide) fun a hE=>Zv hE rfl (lkb rfl hb44) rfl (by decide) fun a hE=>Zv hE rfl (lkb rfl hb44) rfl (by decide) fun a hE=>Zv hE rfl (lkb rfl hb44) rfl (by decide) fun a hE=>Z4 hE Za ld (lkb rfl hb44) rfl fun a hE=>Zd hE Za ld rfl fun a hE=>Zv hE rfl rfl rfl (by decide) fun a hE=>Zv hE rfl rfl rfl (by decide) ?_; intro a hE
        refine Zv hE rfl rfl rfl (by decide) fun a hE=>Zv hE rfl rfl rfl (by decide) fun a hE=>Z4 hE Za ld rfl rfl fun a hE=>Zd hE Za ld rfl fun a hE=>Zv hE rfl rfl rfl (by decide) fun a hE=>Zv hE rfl rfl rfl (by decide) fun a hE=>Zv hE rfl rfl rfl (by decide) fun a hE=>Zv hE rfl rfl rfl (by decide) fun a hE=>Z4 hE Za ld rfl rfl fun a hE=>Zj ?_
        have ht45:=Option.some.inj hl40
        subst ht45
        refine Zn ?_
        exact ⟨hE.sub ⟨rfl,rfl,rfl,rfl,trivial⟩,hM⟩
       ·have hl40:=ZB hl40 hb44
        refine Zg hE (Zw hE rfl (lkb rfl hb44)) (by decide) rfl (Q5) fun a hE=>Zp (v:=(vI x27.Version)) hE (Zw hE rfl (lkb rfl hb44)) (by decide) rfl ty2 rfl (At.cat (pre:=[[vI x27.Number]]) (hM.rawAt (pre:=[])) (cl1 (n:=1) (m:=0) rfl cl0)) fun a hE=>Zg hE (Zw hE rfl (lkb rfl hb44)) (by decide) rfl (Wl) fun a hE=>Zp (v:=v0_1) hE (Zw hE rfl (lkb rfl hb44)) (by decide) rfl T1 rfl (At.cat (pre:=[]) (hM.rawAt (pre:=[_])) cl0) fun a hE=>Z3 hE (Zw hE rfl (lkb rfl hb44)) (by decide) rfl Tryz.underlying32 (hM.rd hv0_1) fun a hE=>Zi hE (Zw hE rfl (lkb rfl hb44)) (by decide) rfl rfl rfl ?_; intro a hE
        obtain ⟨r46,e47,hl40⟩:=bind_some hl40
        refine Zt hE (Zw hE rfl (lkb rfl hb44)) (by decide) rfl yY (Qj _ x27.Version 0 (wr ((p0.Keys.length : Int) - 1)) r46 e47) ?_
        rintro v w a ⟨rfl,hK⟩ hE
        have hM:=hM.keep hK
        refine WJ hE (Zw hE rfl (lkb rfl hb44)) (by decide) rfl fun a hE=>YM hE Za ld (lkb rfl hb44) rfl fun a hE=>Zd hE Za ld rfl ?_; intro a hE
        refine XL (!r46) (fun hb48=>?_) (fun hb48=>?_)
        ·have hl40:=ZA hl40 hb48
         refine Zv hE rfl (lkb rfl hb48) rfl (by decide) fun a hE=>Zv hE rfl (lkb rfl hb48) rfl (by decide) fun a hE=>Zv hE rfl (lkb rfl hb48) rfl (by decide) fun a hE=>Zv hE rfl (lkb rfl hb48) rfl (by decide) fun a hE=>Z4 hE Za ld (lkb rfl hb48) rfl fun a hE=>Zd hE Za ld rfl fun a hE=>Zv hE rfl rfl rfl (by decide) fun a hE=>Zv hE rfl rfl rfl (by decide) fun a hE=>Zv hE rfl rfl rfl (by decide) fun a hE=>Zv hE rfl rfl rfl (by decide) fun a hE=>Z4 hE Za ld rfl rfl fun a hE=>Zj ?_
         have ht49:=Option.some.inj hl40
         subst ht49
         refine Zn ?_
         exact ⟨hE.sub ⟨rfl,rfl,rfl,rfl,trivial⟩,hM⟩
        ·have hl40:=ZB hl40 hb48
         refine Zg hE (Zw hE rfl (lkb rfl hb48)) (by decide) rfl (T9) fun a hE=>Zp (v:=u33) hE (Zw hE rfl (lkb rfl hb48)) (by decide) rfl Uu rfl (At.cat (pre:=[[vI x27.Number],[vI x27.Version],enc x27.Nonce]) (hM.rawAt (pre:=[])) (cl1 (n:=1) (m:=17) rfl (cl1 (n:=1) (m:=16) rfl (cl1 (n:=16) (m:=0) (Flat.len _) cl0)))) fun a hE=>Z3 hE (Zw hE rfl (lkb rfl hb48)) (by decide) rfl Tryz.underlying57 (hM.rd h34) fun a hE=>Zi hE (Zw hE rfl (lkb rfl hb48)) (by decide) rfl rfl rfl fun a hE=>YM hE Za ld (lkb rfl hb48) rfl fun a hE=>Zd hE Za ld rfl ?_; intro a hE
         refine XL (decide ((x27.Label.length : Int) > 32)) (fun hb50=>?_) (fun hb50=>?_)
         ·have hl40:=ZA hl40 hb50
          refine Zv hE rfl (lkb rfl hb50) rfl (by decide) fun a hE=>Zv hE rfl (lkb rfl hb50) rfl (by decide) fun a hE=>Zv hE rfl (lkb rfl hb50) rfl (by decide) fun a hE=>Zv hE rfl (lkb rfl hb50) rfl (by decide) fun a hE=>Z4 hE Za ld (lkb rfl hb50) rfl fun a hE=>Zj ?_
          have ht51:=Option.some.inj hl40
          subst ht51
          refine Zn ?_
          exact ⟨hE.sub ⟨rfl,rfl,rfl,rfl,trivial⟩,hM⟩
         ·have hl40:=ZB hl40 hb50
          refine Zg hE (Zw hE rfl (lkb rfl hb50)) (by decide) rfl (Qr) fun a hE=>Zp (v:=u35) hE (Zw hE rfl (lkb rfl hb50)) (by decide) rfl Uu rfl (At.cat (pre:=[[vI x27.Number],[vI x27.Version],enc x27.Nonce,[u33]]) (hM.rawAt (pre:=[])) (cl1 (n:=1) (m:=18) rfl (cl1 (n:=1) (m:=17) rfl (cl1 (n:=16) (m:=1) (Flat.len _) (cl1 (n:=1) (m:=0) rfl cl0))))) fun a hE=>Z3 hE (Zw hE rfl (lkb rfl hb50)) (by decide) rfl Tryz.underlying57 (hM.rd h36) fun a hE=>Zi hE (Zw hE rfl (lkb rfl hb50)) (by decide) rfl rfl rfl fun a hE=>YM hE Za ld (lkb rfl hb50) rfl fun a hE=>Zj ?_
          have ht52:=Option.some.inj hl40
          subst ht52
          refine Zn ?_
          exact ⟨hE.sub ⟨rfl,rfl,rfl,rfl,trivial⟩,hM⟩
     ·skip
      rintro a w ⟨hE,hM⟩
      refine Zs hE rfl ?_ ?_
      ·intro hb53
       have hF41:=ZA hF41 hb53
       refine Zc (Ze hE Za ld rfl fun a hE=>Zf ?_)
       have ht54:=hx24 _ (ois hF41)
       subst ht54
       have hr:=Option.some.inj hF20
       subst hr
       have hM:=M.fst (l:=[]) hM
       exact wp_ret (Zx (Yj (Zx (Zx (Yj (Zx (Zx (Zy hE rfl (Zu hE rfl) ⟨_,rfl,rfl,hM.kept⟩))))))))
      ·intro hb53
       have hF41:=ZB hF41 hb53
       refine wp_skip (Zz (wp_region_lit (Zg hE Za ld rfl (TU) fun a hE=>Zp (v:=(vI x27.Number)) hE Za ld rfl ty2 rfl (At.cat (pre:=[]) (hM.rawAt (pre:=[])) cl0) fun a hE=>Ze hE Za ld rfl fun a hE=>Zj (Yb (Zz (wp_region_lit (Zd hE Za ld rfl fun a hE=>Zi hE Za ld rfl rfl rfl fun a hE=>Ze hE Za ld rfl fun a hE=>Zj (Zn ?_))))))))
       have hM:=M.fst (l:=[_]) (hM.pull (pre:=[_]))
       exact ⟨_,(ois hF41),hE.sub ⟨rfl,rfl,rfl,trivial⟩,hM⟩
    ·intro hb26
     have hs23:=ZB hs23 hb26
     refine wp_exit (Zq (Zq (Yf ?_)))
     have ht55:=hx24 _ (ois hs23)
     subst ht55
     refine Zn ?_
     exact ⟨(),rfl,hE.sub ⟨rfl,trivial⟩,hM⟩
   ·skip
    rintro a w ⟨s21,ht,hE,hM⟩
    subst ht
    have hF20:=Tg hF20
    refine Zz (wp_seq (Zc (Ze hE Za ld rfl fun a hE=>Zf ?_)))
    obtain ⟨j56,hl57,hF58⟩:=bind_some hF20
    refine ZP (fun a w=>∃ s59 : Unit,j56 = Fl.nx s59 ∧ Env 96 a [] ∧ M (Old w0) w0 w []) ?_ ?_
    ·skip
     refine wp_block ?_
     refine ZI (fun (s60 : Int) a w=>Env 96 a [(1,(ptr b1 0)),(6,vI s60)] ∧ M (Old w0) w0 w [raw b1 (cat [[v0_1],[vI p0.Next],[v0_2],[v0_3],enc p0.Head])]) hl57 ⟨hE.sub ⟨rfl,rfl,trivial⟩,hM⟩ ?_
     rintro s60 a w ⟨hE,hM⟩ o63 hs61 hx62
     unfold Tm at hs61
     refine wp_seq (Zc (Zd hE Za ld rfl fun a hE=>Zg hE Za ld rfl (VH) fun a hE=>Zp (v:=v0_3) hE Za ld rfl QI rfl (At.cat (pre:=[[v0_1],[vI p0.Next],[v0_2]]) (hM.rawAt (pre:=[])) (cl1 (n:=1) (m:=2) rfl (cl1 (n:=1) (m:=1) rfl (cl1 (n:=1) (m:=0) rfl cl0)))) fun a hE=>Z3 hE Za ld rfl Tryz.underlying34 (hM.rd hv0_3) fun a hE=>Zi hE Za ld rfl rfl rfl fun a hE=>Zf ?_))
     refine Zs hE rfl ?_ ?_
     ·intro hb64
      have hs61:=ZA hs61 hb64
      refine wp_skip (Zz (wp_seq (wp_block (Zc (Zg hE Za ld rfl (VH) fun a hE=>Zp (v:=v0_3) hE Za ld rfl QI rfl (At.cat (pre:=[[v0_1],[vI p0.Next],[v0_2]]) (hM.rawAt (pre:=[])) (cl1 (n:=1) (m:=2) rfl (cl1 (n:=1) (m:=1) rfl (cl1 (n:=1) (m:=0) rfl cl0)))) fun a hE=>Zd hE Za ld rfl ?_))))); intro a hE
      obtain ⟨x65,hi67,hs61⟩:=bix hs61
      refine ZL hE Za ld rfl rfl Tryz.underlying34 Y9 (hM.rd hv0_3) hi67.1 fun a hE=>Zm (cs:=enc x65) hE Za ld rfl Y9 rfl (XE (hM.rd hv0_3) hi67.2) (Zh (cl1 (n:=1) (m:=33) rfl (cl1 (n:=1) (m:=32) rfl (cl1 (n:=32) (m:=0) (Flat.len _) cl0)))) ?_; intro a hE
      obtain ⟨r68,e69,hs61⟩:=bind_some hs61
      refine Zt hE Za ld rfl cb129 (HT _ x65 r68 e69) ?_
      rintro v w a ⟨rfl,hK⟩ hE
      have hM:=hM.keep hK
      refine WJ hE Za ld rfl fun a hE=>Zf ?_
      refine Zs hE rfl ?_ ?_
      ·intro hb70
       have hs61:=ZA hs61 hb70
       refine Zc (Ze hE Za ld rfl fun a hE=>Zf ?_)
       have ht71:=hx62 _ (ois hs61)
       subst ht71
       have hr:=Option.some.inj hF58
       subst hr
       have hM:=M.fst (l:=[]) hM
       exact wp_ret (Yj (Zx (Zx (Yj (Zx (Zx (Zy hE rfl (Zu hE rfl) ⟨_,rfl,rfl,hM.kept⟩)))))))
      ·intro hb70
       have hs61:=ZB hs61 hb70
       refine wp_skip (Yb (Zz (wp_region_lit (Zd hE Za ld rfl fun a hE=>Zi hE Za ld rfl rfl rfl fun a hE=>Ze hE Za ld rfl fun a hE=>Zj (Zn ?_)))))
       exact ⟨_,(ois hs61),hE.sub ⟨rfl,rfl,trivial⟩,hM⟩
     ·intro hb64
      have hs61:=ZB hs61 hb64
      refine wp_exit (Zq (Zq (Yf ?_)))
      have ht72:=hx62 _ (ois hs61)
      subst ht72
      refine Zn ?_
      have hM:=M.fst (l:=[]) hM
      exact ⟨(),rfl,hE.sub trivial,hM⟩
    ·skip
     rintro a w ⟨s59,ht,hE,hM⟩
     subst ht
     have hF58:=Tg hF58
     refine Zz (Zc (Ze hE Za ld rfl fun a hE=>Zf ?_))
     have hr:=Option.some.inj hF58
     subst hr
     exact wp_ret (Zy hE rfl (Zu hE rfl) ⟨_,rfl,rfl,hM.kept⟩)
def WQ (p0 : (List UInt8)) : Option ((List UInt8)) :=
 (app 1 ([] : List UInt8) p0).bind fun l3=>some (([] : List UInt8) ++ p0)
theorem Qn (w0 : World) (p0 : (List UInt8)) (v0_1 : Value) (hv0_1 : Ro w0 p0 [v0_1]) (r : (List UInt8)) (hF : WQ p0 = some r) :
  Calls Tryz.prog 95 [v0_1].toArray w0 (fun en w'=>∃ v,en = .returned v ∧ (∃ (y1 : Value),v = y1 ∧ Fr w0 w' [osl NoB (r : List UInt8) y1] ∧ Kept (Old w0) w0 w')):=by
 refine ZD (n:=6) Tryz.func95 rfl rfl (nbl rfl) rfl ?_
 intro a hE
 have hM:=M.start w0
 unfold WQ at hF
 refine Zc (Ze hE Za ld rfl fun a hE=>Zf (Zc (Yk (xs:=[]) (l:=([] : List UInt8)) (vs:=[]) hE hM Za ld rfl rfl Tryz.underlying57 ty5 rfl (by decide) rfl fun u1 w a hM hE=>Zd hE Za ld rfl ?_))); intro a hE
 obtain ⟨l3,e4,hF⟩:=bind_some hF
 obtain ⟨e7,rfl⟩:=Yv e4
 refine Yn hE hM Za ld rfl rfl (hM.rd hv0_1) Tryz.underlying57 ty5 rfl (by decide) e7 fun u5 w a hM hE=>Ze hE Za ld rfl fun a hE=>Zf ?_
 have hr:=Option.some.inj hF
 subst hr
 exact wp_ret (Zy hE rfl (Zu hE rfl) ⟨_,rfl,u5,rfl,hM.outF (Yo Xs),hM.kept⟩)
def U1 (p0 : GVault) (s29 : (List GRecord) × Int) : Option (Fl ((List GRecord) × Int) (List GRecord)) :=
 if (decide (s29.2 < (p0.Records.length : Int))) = true then ((idx p0.Records s29.2).bind fun x37=>(WQ x37.Label).bind fun r49=>(WQ x37.Body).bind fun r52=>(app 112 s29.1 ([(⟨x37.Number,x37.Version,x37.Nonce,r49,r52,x37.Tag⟩ : GRecord)] : List GRecord)).bind fun l57=>some (Fl.nx ((s29.1 ++ ([(⟨x37.Number,x37.Version,x37.Nonce,r49,r52,x37.Tag⟩ : GRecord)] : List GRecord)),wr (s29.2 + 1)))) else (some (Fl.ex s29.1))
def Tn (p0 : GVault) : Option (GVault) :=
 (app 16 ([] : List (Vector UInt8 16)) p0.Keys).bind fun l8=>(app 48 ([] : List GEvent) p0.Events).bind fun l15=>(ZG (U1 p0) ([],0)).bind fun j24=>some (⟨(([] : List (Vector UInt8 16)) ++ p0.Keys),p0.Next,j24,(([] : List GEvent) ++ p0.Events),p0.Head⟩ : GVault)
theorem Ao (w0 : World) (p0 : GVault) (v0_1 : Value) (hv0_1 : Ro w0 p0.Keys [v0_1]) (v0_2 : Value) (hv0_2 : Ro w0 p0.Records [v0_2]) (v0_3 : Value) (hv0_3 : Ro w0 p0.Events [v0_3]) (r : GVault) (hF : Tn p0 = some r) :
  Calls Tryz.prog 106 [(Value.agg (cat [[v0_1],[vI p0.Next],[v0_2],[v0_3],enc p0.Head]).toArray)].toArray w0 (fun en w'=>∃ v,en = .returned v ∧ (∃ (y1 : Value) (y2 : Value) (y3 : Value),v = (Value.agg (cat [[y1],[vI r.Next],[y2],[y3],enc r.Head]).toArray) ∧ Fr w0 w' [osl NoB (r.Keys : List (Vector UInt8 16)) y1,osl NoB (r.Records : List GRecord) y2,osl NoB (r.Events : List GEvent) y3] ∧ Kept (Old w0) w0 w')):=by
 refine ZD (n:=46) Tryz.func106 rfl rfl (nbl rfl) rfl ?_
 intro a hE
 have hM:=M.start w0
 unfold Tn at hF
 refine Zc (ZY (cs:=cat [[v0_1],[vI p0.Next],[v0_2],[v0_3],enc p0.Head]) hE hM Za ld rfl rfl fun b1 w a hM hE=>ZE hE hM Za ld Yx fun b3 w a hM hE=>Zf (wp_seq ?_))
 obtain ⟨l8,e9,hF⟩:=bind_some hF
 obtain ⟨l15,e16,hF⟩:=bind_some hF
 refine Ub (n:=46) (hd:=[_,_,_,_,_,_,_,_,_,_,_,_,_,_]) (tl:=[_]) Y0 rfl rfl [6,7,8,9,10,11,12,13,14,15,16,17,18,3] (by decide) (fun D u w=>M (Old w0) w0 w ([raw b3 (cat [[(Value.slice none 0 0)],[vI 0],[(Value.slice none 0 0)],[(Value.slice none 0 0)],enc (Vector.replicate 32 (0 : UInt8))]),raw b1 (cat [[v0_1],[vI p0.Next],[v0_2],[v0_3],enc p0.Head])] ++ qL ([mkP 0 3 (fun v=>osl NoB (([] : List (Vector UInt8 16)) : List (Vector UInt8 16)) v) (fun v=>osl NoB ((([] : List (Vector UInt8 16)) ++ p0.Keys) : List (Vector UInt8 16)) v),mkP 6 9 (fun v=>osl NoB (([] : List GEvent) : List GEvent) v) (fun v=>osl NoB ((([] : List GEvent) ++ p0.Events) : List GEvent) v),mkO 13 (fun v=>Vq v (cat [[(Value.slice none 0 0)],[vI 0],[(Value.slice none 0 0)],[(Value.slice none 0 0)],enc (Vector.replicate 32 (0 : UInt8))]))] : Mk) D u) ∧ GOk ([([],fun us v=>True),([],fun us v=>v = (ptr b1 (0 + 0))),([],fun us v=>v = v0_1),([],fun us v=>True),([],fun us v=>v = (ptr b1 (0 + 1))),([],fun us v=>v = (vI p0.Next)),([],fun us v=>True),([],fun us v=>v = (ptr b1 (0 + 3))),([],fun us v=>v = v0_3),([],fun us v=>True),([],fun us v=>v = (ptr b1 (0 + 4))),([],fun us v=>v = (Value.agg (enc p0.Head).toArray)),([3,9],fun us v=>v = (Value.agg (cat [[(us.getD 0 undef)],[vI p0.Next],[(Value.slice none 0 0)],[(us.getD 1 undef)],enc p0.Head]).toArray)),([],fun us v=>True)] : Gs) D u) hE (fun u=>⟨M.qE (M.qE (M.qE (M.q0 hM.drew u) emO) emP) emP,Jg⟩) (ZK (Zb ?_ (Zb ?_ (Zb ?_ (Zb ?_ (Zb ?_ (Zb ?_ (Zb ?_ (Zb ?_ (Zb ?_ (Zb ?_ (Zb ?_ (Zb ?_ (Zb ?_ (Zb ?_ ZF))))))))))))))) ?_
 ·intro a w ux5 D hE hI hD hdc hp
  have hM0:=hI.1
  have hM:=hI.1
  refine Yk (xs:=[]) (l:=([] : List (Vector UInt8 16))) (vs:=[]) hE hM Za ld rfl rfl Tryz.underlying32 ZH rfl (by decide) rfl ?_; intro u6 w a hM hE
  have hs : D 3 = false:=Bool.eq_false_iff.2 fun hx=>Bool.noConfusion (hD.symm.trans (hdc 3 _ _ rfl (List.mem_of_getElem? (i:=0) rfl) rfl hx))
  exact ⟨_,_,rfl,hE,M.qFillP (mk1:=[]) (mk2:=[_,_]) (f:=(fun v=>osl NoB (([] : List (Vector UInt8 16)) : List (Vector UInt8 16)) v)) (g:=(fun v=>osl NoB ((([] : List (Vector UInt8 16)) ++ p0.Keys) : List (Vector UInt8 16)) v)) hM rfl hD hs (by decide),hI.2.put hD rfl ZQ trivial⟩
 ·intro a w ux5 D hE hI hD hdc hp
  have hM0:=hI.1
  exact Zg hE Za ld rfl (Wl) fun a hE=>⟨_,_,rfl,hE,M.qKeep hM0 rfl,hI.2.put hD rfl ZQ rfl⟩
 ·intro a w ux5 D hE hI hD hdc hp
  have d1 : D 1 = true:=hp 0 _ rfl rfl
  have g1:=hI.2 1 d1 _ rfl
  have f1 : ux5 1 = (ptr b1 (0 + 0)):=g1.2
  have hM0:=hI.1
  have hM:=hI.1
  exact Zp (v:=v0_1) hE Za ld (lk rfl f1) T1 rfl (At.cat (pre:=[]) (hM.rawAt (pre:=[_])) cl0) fun a hE=>⟨_,_,rfl,hE,M.qKeep hM0 rfl,hI.2.put hD rfl ZQ rfl⟩
 ·intro a w ux5 D hE hI hD hdc hp
  have d0 : D 0 = true:=hp 0 _ rfl rfl
  have g0:=hI.2 0 d0 _ rfl
  have d2 : D 2 = true:=hp 1 _ rfl rfl
  have g2:=hI.2 2 d2 _ rfl
  have f2 : ux5 2 = v0_1:=g2.2
  have hM0:=hI.1
  have hM:=hI.1.prmA (pre:=[_,_]) hD d0
  obtain ⟨e12,rfl⟩:=Yv e9
  have hM:=hM.pull (pre:=[_,_])
  exact Yn hE hM Za ld rfl (lk rfl f2) (hM.rd hv0_1) Tryz.underlying32 ZH rfl (by decide) e12 fun u10 w a hM hE=>⟨_,_,rfl,hE,M.qApp (mk1:=[]) (mk2:=[_,_]) (j:=0) (f:=(fun v=>osl NoB (([] : List (Vector UInt8 16)) : List (Vector UInt8 16)) v)) (g:=(fun v=>osl NoB ((([] : List (Vector UInt8 16)) ++ p0.Keys) : List (Vector UInt8 16)) v)) hM rfl,hI.2.put hD rfl ZQ trivial⟩
 ·intro a w ux5 D hE hI hD hdc hp
  have hM0:=hI.1
  exact Zg hE Za ld rfl (Qo) fun a hE=>⟨_,_,rfl,hE,M.qKeep hM0 rfl,hI.2.put hD rfl ZQ rfl⟩
 ·intro a w ux5 D hE hI hD hdc hp
  have d4 : D 4 = true:=hp 0 _ rfl rfl
  have g4:=hI.2 4 d4 _ rfl
  have f4 : ux5 4 = (ptr b1 (0 + 1)):=g4.2
  have hM0:=hI.1
  have hM:=hI.1
  exact Zp (v:=(vI p0.Next)) hE Za ld (lk rfl f4) ty2 rfl (At.cat (pre:=[[v0_1]]) (hM.rawAt (pre:=[_])) (cl1 (n:=1) (m:=0) rfl cl0)) fun a hE=>⟨_,_,rfl,hE,M.qKeep hM0 rfl,hI.2.put hD rfl ZQ rfl⟩
 ·intro a w ux5 D hE hI hD hdc hp
  have hM0:=hI.1
  have hM:=hI.1
  refine Yk (xs:=[]) (l:=([] : List GEvent)) (vs:=[]) hE hM Za ld rfl rfl Tryz.underlying34 Y9 rfl (by decide) rfl ?_; intro u13 w a hM hE
  have hs : D 9 = false:=Bool.eq_false_iff.2 fun hx=>Bool.noConfusion (hD.symm.trans (hdc 9 _ _ rfl (List.mem_of_getElem? (i:=0) rfl) rfl hx))
  exact ⟨_,_,rfl,hE,M.qFillP (mk1:=[_]) (mk2:=[_]) (f:=(fun v=>osl NoB (([] : List GEvent) : List GEvent) v)) (g:=(fun v=>osl NoB ((([] : List GEvent) ++ p0.Events) : List GEvent) v)) hM rfl hD hs (by decide),hI.2.put hD rfl ZQ trivial⟩
 ·intro a w ux5 D hE hI hD hdc hp
  have hM0:=hI.1
  exact Zg hE Za ld rfl (VH) fun a hE=>⟨_,_,rfl,hE,M.qKeep hM0 rfl,hI.2.put hD rfl ZQ rfl⟩
 ·intro a w ux5 D hE hI hD hdc hp
  have d7 : D 7 = true:=hp 0 _ rfl rfl
  have g7:=hI.2 7 d7 _ rfl
  have f7 : ux5 7 = (ptr b1 (0 + 3)):=g7.2
  have hM0:=hI.1
  have hM:=hI.1
  exact Zp (v:=v0_3) hE Za ld (lk rfl f7) QI rfl (At.cat (pre:=[[v0_1],[vI p0.Next],[v0_2]]) (hM.rawAt (pre:=[_])) (cl1 (n:=1) (m:=2) rfl (cl1 (n:=1) (m:=1) rfl (cl1 (n:=1) (m:=0) rfl cl0)))) fun a hE=>⟨_,_,rfl,hE,M.qKeep hM0 rfl,hI.2.put hD rfl ZQ rfl⟩
 ·intro a w ux5 D hE hI hD hdc hp
  have d6 : D 6 = true:=hp 0 _ rfl rfl
  have g6:=hI.2 6 d6 _ rfl
  have d8 : D 8 = true:=hp 1 _ rfl rfl
  have g8:=hI.2 8 d8 _ rfl
  have f8 : ux5 8 = v0_3:=g8.2
  have hM0:=hI.1
  have hM:=hI.1.prmA (pre:=[_,_,_]) hD d6
  obtain ⟨e19,rfl⟩:=Yv e16
  have hM:=hM.pull (pre:=[_,_,_])
  exact Yn hE hM Za ld rfl (lk rfl f8) (hM.rd hv0_3) Tryz.underlying34 Y9 rfl (by decide) e19 fun u17 w a hM hE=>⟨_,_,rfl,hE,M.qApp (mk1:=[_]) (mk2:=[_]) (j:=6) (f:=(fun v=>osl NoB (([] : List GEvent) : List GEvent) v)) (g:=(fun v=>osl NoB ((([] : List GEvent) ++ p0.Events) : List GEvent) v)) hM rfl,hI.2.put hD rfl ZQ trivial⟩
 ·intro a w ux5 D hE hI hD hdc hp
  have hM0:=hI.1
  exact Zg hE Za ld rfl (Jm) fun a hE=>⟨_,_,rfl,hE,M.qKeep hM0 rfl,hI.2.put hD rfl ZQ rfl⟩
 ·intro a w ux5 D hE hI hD hdc hp
  have d10 : D 10 = true:=hp 0 _ rfl rfl
  have g10:=hI.2 10 d10 _ rfl
  have f10 : ux5 10 = (ptr b1 (0 + 4)):=g10.2
  have hM0:=hI.1
  have hM:=hI.1
  exact Zm (cs:=enc p0.Head) hE Za ld (lk rfl f10) Yy rfl (At.cat (pre:=[[v0_1],[vI p0.Next],[v0_2],[v0_3]]) (hM.rawAt (pre:=[_])) (cl1 (n:=1) (m:=3) rfl (cl1 (n:=1) (m:=2) rfl (cl1 (n:=1) (m:=1) rfl (cl1 (n:=1) (m:=0) rfl cl0))))) (Flat.len _) fun a hE=>⟨_,_,rfl,hE,M.qKeep hM0 rfl,hI.2.put hD rfl ZQ rfl⟩
 ·intro a w ux5 D hE hI hD hdc hp
  have d3 : D 3 = true:=hp 0 _ rfl rfl
  have g3:=hI.2 3 d3 _ rfl
  have d5 : D 5 = true:=hp 1 _ rfl rfl
  have g5:=hI.2 5 d5 _ rfl
  have f5 : ux5 5 = (vI p0.Next):=g5.2
  have d9 : D 9 = true:=hp 2 _ rfl rfl
  have g9:=hI.2 9 d9 _ rfl
  have d11 : D 11 = true:=hp 3 _ rfl rfl
  have g11:=hI.2 11 d11 _ rfl
  have f11 : ux5 11 = (Value.agg (enc p0.Head).toArray):=g11.2
  have hM0:=hI.1
  have hM:=(hI.1.prmB (pre:=[_,_]) d3).prmB (pre:=[_,_,_]) d9
  exact XO (parts:=[(0,.tmp 9),(1,.tmp 11),(3,.tmp 15),(4,.tmp 17)]) (vs:=[(0,(ux5 3)),(1,vI p0.Next),(3,(ux5 9)),(4,(Value.agg (enc p0.Head).toArray))]) (cs:=cat [[(ux5 3)],[vI p0.Next],[(Value.slice none 0 0)],[(ux5 9)],enc p0.Head]) hE Za ld (ZV (ZT rfl (ZT (lk rfl f5) (ZT rfl (ZT (lk rfl f11) YZ))))) rfl Yx yl (Yt (pre:=[]) (seg:=[(Value.slice none 0 0)]) (seg':=[(ux5 3)]) (post:=[[vI 0],[(Value.slice none 0 0)],[(Value.slice none 0 0)],enc (Vector.replicate 32 (0 : UInt8))]) rfl cl0 rfl rfl (YD (hM.sl (pre:=[_,_]) noB)) (Yt (pre:=[[(ux5 3)]]) (seg:=[vI 0]) (seg':=[vI p0.Next]) (post:=[[(Value.slice none 0 0)],[(Value.slice none 0 0)],enc (Vector.replicate 32 (0 : UInt8))]) rfl (cl1 (n:=1) (m:=0) rfl cl0) rfl rfl rfl (Yt (pre:=[[(ux5 3)],[vI p0.Next],[(Value.slice none 0 0)]]) (seg:=[(Value.slice none 0 0)]) (seg':=[(ux5 9)]) (post:=[enc (Vector.replicate 32 (0 : UInt8))]) rfl (cl1 (n:=1) (m:=2) rfl (cl1 (n:=1) (m:=1) rfl (cl1 (n:=1) (m:=0) rfl cl0))) rfl rfl (YD (hM.sl (pre:=[_,_,_]) noB)) (Yt (pre:=[[(ux5 3)],[vI p0.Next],[(Value.slice none 0 0)],[(ux5 9)]]) (seg:=enc (Vector.replicate 32 (0 : UInt8))) (seg':=enc p0.Head) (post:=[]) rfl (cl1 (n:=1) (m:=3) rfl (cl1 (n:=1) (m:=2) rfl (cl1 (n:=1) (m:=1) rfl (cl1 (n:=1) (m:=0) rfl cl0)))) (Flat.len _) (Flat.len _) rfl VU)))) fun a hE=>⟨_,_,rfl,hE,M.qKeep hM0 rfl,hI.2.put hD rfl (HK d3 (HK d9 ZQ)) rfl⟩
 ·intro a w ux5 D hE hI hD hdc hp
  have hM0:=hI.1
  have hM:=hI.1
  refine ZE hE hM Za ld Yx ?_; intro b20 w a hM hE
  have hM:=hM.pack1 (it:=Vq _ (cat [[(Value.slice none 0 0)],[vI 0],[(Value.slice none 0 0)],[(Value.slice none 0 0)],enc (Vector.replicate 32 (0 : UInt8))])) (fun w w' fp ⟨b',e,k⟩ hb=>⟨b',e,Xc w w' fp k hb⟩) (fun fp k=>⟨_,rfl,k⟩)
  exact ⟨_,_,rfl,hE,M.qFill (mk1:=[_,_]) (mk2:=[]) (f:=fun v=>Vq v (cat [[(Value.slice none 0 0)],[vI 0],[(Value.slice none 0 0)],[(Value.slice none 0 0)],enc (Vector.replicate 32 (0 : UInt8))])) hM rfl hD,hI.2.put hD rfl ZQ trivial⟩
 ·intro a w ux5 D hE hI hall
  have hM : M (Old w0) w0 w [raw b3 (cat [[(Value.slice none 0 0)],[vI 0],[(Value.slice none 0 0)],[(Value.slice none 0 0)],enc (Vector.replicate 32 (0 : UInt8))]),raw b1 (cat [[v0_1],[vI p0.Next],[v0_2],[v0_3],enc p0.Head]),prm (D 0) (D 3) (osl NoB (([] : List (Vector UInt8 16)) : List (Vector UInt8 16)) (ux5 0)) (osl NoB ((([] : List (Vector UInt8 16)) ++ p0.Keys) : List (Vector UInt8 16)) (ux5 3)),prm (D 6) (D 9) (osl NoB (([] : List GEvent) : List GEvent) (ux5 6)) (osl NoB ((([] : List GEvent) ++ p0.Events) : List GEvent) (ux5 9)),opt (D 13) (Vq (ux5 13) (cat [[(Value.slice none 0 0)],[vI 0],[(Value.slice none 0 0)],[(Value.slice none 0 0)],enc (Vector.replicate 32 (0 : UInt8))]))]:=hI.1
  have d0 : D 0 = true:=hall 0 (by decide)
  have d1 : D 1 = true:=hall 1 (by decide)
  have d2 : D 2 = true:=hall 2 (by decide)
  have d3 : D 3 = true:=hall 3 (by decide)
  have d4 : D 4 = true:=hall 4 (by decide)
  have d5 : D 5 = true:=hall 5 (by decide)
  have d6 : D 6 = true:=hall 6 (by decide)
  have d7 : D 7 = true:=hall 7 (by decide)
  have d8 : D 8 = true:=hall 8 (by decide)
  have d9 : D 9 = true:=hall 9 (by decide)
  have d10 : D 10 = true:=hall 10 (by decide)
  have d11 : D 11 = true:=hall 11 (by decide)
  have d12 : D 12 = true:=hall 12 (by decide)
  have d13 : D 13 = true:=hall 13 (by decide)
  have f1 : ux5 1 = (ptr b1 (0 + 0)):=(hI.2 1 d1 _ rfl).2
  have f2 : ux5 2 = v0_1:=(hI.2 2 d2 _ rfl).2
  have f4 : ux5 4 = (ptr b1 (0 + 1)):=(hI.2 4 d4 _ rfl).2
  have f5 : ux5 5 = (vI p0.Next):=(hI.2 5 d5 _ rfl).2
  have f7 : ux5 7 = (ptr b1 (0 + 3)):=(hI.2 7 d7 _ rfl).2
  have f8 : ux5 8 = v0_3:=(hI.2 8 d8 _ rfl).2
  have f10 : ux5 10 = (ptr b1 (0 + 4)):=(hI.2 10 d10 _ rfl).2
  have f11 : ux5 11 = (Value.agg (enc p0.Head).toArray):=(hI.2 11 d11 _ rfl).2
  have f12 : ux5 12 = (Value.agg (cat [[(ux5 3)],[vI p0.Next],[(Value.slice none 0 0)],[(ux5 9)],enc p0.Head]).toArray):=(hI.2 12 d12 _ rfl).2
  have hM:=(((hM.prmB (pre:=[_,_]) d3).prmB (pre:=[_,_,_]) d9).sure (pre:=[_,_,_,_]) d13).pull
  obtain ⟨_,⟨b22,f23,_⟩,_⟩:=hM.head
  have hM:=hM.pack1 Xc (it:=raw b22 (cat [[(Value.slice none 0 0)],[vI 0],[(Value.slice none 0 0)],[(Value.slice none 0 0)],enc (Vector.replicate 32 (0 : UInt8))])) (fun fp ⟨b2,e2,k2⟩=>by rw [f23] at e2; simp [ptr] at e2; subst e2; exact k2)
  have hE:=hE.sub (e':=[(9,(ux5 3)),(15,(ux5 9)),(18,(Value.agg (cat [[(ux5 3)],[vI p0.Next],[(Value.slice none 0 0)],[(ux5 9)],enc p0.Head]).toArray)),(3,(ptr b22 0)),(1,(ptr b1 0)),(2,(ptr b3 0))]) ⟨rfl,rfl,lk rfl f12,lk rfl f23,rfl,rfl,trivial⟩
  refine Zo (seg:=cat [[(ux5 3)],[vI p0.Next],[(Value.slice none 0 0)],[(ux5 9)],enc p0.Head]) (cs':=cat [[(ux5 3)],[vI p0.Next],[(Value.slice none 0 0)],[(ux5 9)],enc p0.Head]) hE hM Za rfl rfl rfl Yx (Zh (cl1 (n:=1) (m:=35) rfl (cl1 (n:=1) (m:=34) rfl (cl1 (n:=1) (m:=33) rfl (cl1 (n:=1) (m:=32) rfl (cl1 (n:=32) (m:=0) (Flat.len _) cl0)))))) (Nat.le_of_eq ((Nat.zero_add _).trans (Eq.trans (Zh (cl1 (n:=1) (m:=35) rfl (cl1 (n:=1) (m:=34) rfl (cl1 (n:=1) (m:=33) rfl (cl1 (n:=1) (m:=32) rfl (cl1 (n:=32) (m:=0) (Flat.len _) cl0)))))) (Eq.symm (Zh (cl1 (n:=1) (m:=35) rfl (cl1 (n:=1) (m:=34) rfl (cl1 (n:=1) (m:=33) rfl (cl1 (n:=1) (m:=32) rfl (cl1 (n:=32) (m:=0) (Flat.len _) cl0)))))))))) (Z5 (cc1 (Rep.cell (hM.sl (pre:=[_,_,_]) noB)) (cc1 (Flat.cell (p0.Next : Int)) (cc1 X9 (cc1 (Rep.cell (hM.sl (pre:=[_,_,_,_]) noB)) (cc1 (Flat.cell _) cc0)))))) (Zl (Eq.trans (Zh (cl1 (n:=1) (m:=35) rfl (cl1 (n:=1) (m:=34) rfl (cl1 (n:=1) (m:=33) rfl (cl1 (n:=1) (m:=32) rfl (cl1 (n:=32) (m:=0) (Flat.len _) cl0)))))) (Eq.symm (Zh (cl1 (n:=1) (m:=35) rfl (cl1 (n:=1) (m:=34) rfl (cl1 (n:=1) (m:=33) rfl (cl1 (n:=1) (m:=32) rfl (cl1 (n:=32) (m:=0) (Flat.len _) cl0))))))))) fun w a hM hE=>Zj (Zz (wp_seq (Zc (Ze hE Za ld rfl fun a hE=>Zf ?_))))
  obtain ⟨j24,hl25,hF26⟩:=bind_some hF
  refine ZP (fun a w=>∃ (u27 : Value),Env 46 a [(2,(ptr b3 0)),(3,(ptr b22 0))] ∧ M (Old w0) w0 w [raw b22 (cat [[(ux5 3)],[vI p0.Next],[u27],[(ux5 9)],enc p0.Head]),raw b3 (cat [[(Value.slice none 0 0)],[vI 0],[(Value.slice none 0 0)],[(Value.slice none 0 0)],enc (Vector.replicate 32 (0 : UInt8))]),osl NoB ((([] : List (Vector UInt8 16)) ++ p0.Keys) : List (Vector UInt8 16)) (ux5 3),osl NoB ((([] : List GEvent) ++ p0.Events) : List GEvent) (ux5 9),osl NoB (j24 : List GRecord) u27]) ?_ ?_
  ·skip
   refine wp_block ?_
   have hM:=(((((M.nilS (α:=GRecord) NoB noB hM).pull (pre:=[_,_,_,_,_])).pull (pre:=[_,_,_,_,_])).pull (pre:=[_,_,_,_,_])).pull (pre:=[_,_,_,_,_])).pull (pre:=[_,_,_,_,_])
   refine ZI (fun (s29 : (List GRecord) × Int) a w=>∃ (u30 : Value),Env 46 a [(1,(ptr b1 0)),(2,(ptr b3 0)),(3,(ptr b22 0)),(4,vI s29.2)] ∧ M (Old w0) w0 w [raw b22 (cat [[(ux5 3)],[vI p0.Next],[u30],[(ux5 9)],enc p0.Head]),raw b3 (cat [[(Value.slice none 0 0)],[vI 0],[(Value.slice none 0 0)],[(Value.slice none 0 0)],enc (Vector.replicate 32 (0 : UInt8))]),raw b1 (cat [[v0_1],[vI p0.Next],[v0_2],[v0_3],enc p0.Head]),osl NoB ((([] : List (Vector UInt8 16)) ++ p0.Keys) : List (Vector UInt8 16)) (ux5 3),osl NoB ((([] : List GEvent) ++ p0.Events) : List GEvent) (ux5 9),osl NoB (s29.1 : List GRecord) u30]) hl25 ⟨(Value.slice none 0 0),hE.sub ⟨rfl,rfl,rfl,rfl,trivial⟩,hM⟩ ?_
   rintro s29 a w ⟨u30,hE,hM⟩ o34 hs32 hx33
   unfold U1 at hs32
   refine wp_seq (Zc (Zd hE Za ld rfl fun a hE=>Zg hE Za ld rfl (UC) fun a hE=>Zp (v:=v0_2) hE Za ld rfl QX rfl (At.cat (pre:=[[v0_1],[vI p0.Next]]) (hM.rawAt (pre:=[_,_])) (cl1 (n:=1) (m:=1) rfl (cl1 (n:=1) (m:=0) rfl cl0))) fun a hE=>Z3 hE Za ld rfl Tryz.underlying33 (hM.rd hv0_2) fun a hE=>Zi hE Za ld rfl rfl rfl fun a hE=>Zf ?_))
   refine Zs hE rfl ?_ ?_
   ·intro hb36
    have hs32:=ZA hs32 hb36
    refine wp_skip (Zz (wp_seq (wp_block (Zc (Zg hE Za ld rfl (UC) fun a hE=>Zp (v:=v0_2) hE Za ld rfl QX rfl (At.cat (pre:=[[v0_1],[vI p0.Next]]) (hM.rawAt (pre:=[_,_])) (cl1 (n:=1) (m:=1) rfl (cl1 (n:=1) (m:=0) rfl cl0))) fun a hE=>Zd hE Za ld rfl ?_))))); intro a hE
    obtain ⟨x37,hi39,hs32⟩:=bix hs32
    refine ZL hE Za ld rfl rfl Tryz.underlying33 XZ (hM.rd hv0_2) hi39.1 ?_; intro a hE
    obtain ⟨cs40,hs41,hA42⟩:=Vj hv0_2 hi39.2 -- ^
    obtain ⟨u43,u45,rfl,h44,h46⟩:=Xe hs41 -- ^
    refine Zm (cs:=cat [[vI x37.Number],[vI x37.Version],enc x37.Nonce,[u43],[u45],enc x37.Tag]) hE Za ld rfl XZ rfl (hM.atk hA42 (UZ hv0_2 hi39.2)) (Zh (cl1 (n:=1) (m:=51) rfl (cl1 (n:=1) (m:=50) rfl (cl1 (n:=16) (m:=34) (Flat.len _) (cl1 (n:=1) (m:=33) rfl (cl1 (n:=1) (m:=32) rfl (cl1 (n:=32) (m:=0) (Flat.len _) cl0))))))) fun a hE=>ZE hE hM Za ld XZ fun b47 w a hM hE=>Zo (seg:=cat [[vI x37.Number],[vI x37.Version],enc x37.Nonce,[u43],[u45],enc x37.Tag]) (cs':=cat [[vI x37.Number],[vI x37.Version],enc x37.Nonce,[u43],[u45],enc x37.Tag]) hE hM Za rfl rfl rfl XZ (Zh (cl1 (n:=1) (m:=51) rfl (cl1 (n:=1) (m:=50) rfl (cl1 (n:=16) (m:=34) (Flat.len _) (cl1 (n:=1) (m:=33) rfl (cl1 (n:=1) (m:=32) rfl (cl1 (n:=32) (m:=0) (Flat.len _) cl0))))))) (Nat.le_of_eq ((Nat.zero_add _).trans (Eq.trans (Zh (cl1 (n:=1) (m:=51) rfl (cl1 (n:=1) (m:=50) rfl (cl1 (n:=16) (m:=34) (Flat.len _) (cl1 (n:=1) (m:=33) rfl (cl1 (n:=1) (m:=32) rfl (cl1 (n:=32) (m:=0) (Flat.len _) cl0))))))) (Eq.symm (Zh (cl1 (n:=1) (m:=51) rfl (cl1 (n:=1) (m:=50) rfl (cl1 (n:=16) (m:=34) (Flat.len _) (cl1 (n:=1) (m:=33) rfl (cl1 (n:=1) (m:=32) rfl (cl1 (n:=32) (m:=0) (Flat.len _) cl0))))))))))) (Z5 (cc1 (Flat.cell (x37.Number : Int)) (cc1 (Flat.cell (x37.Version : Int)) (cc1 (Flat.cell _) (cc1 (Rep.cell (hM.rd h44)) (cc1 (Rep.cell (hM.rd h46)) (cc1 (Flat.cell _) cc0))))))) (Zl (Eq.trans (Zh (cl1 (n:=1) (m:=51) rfl (cl1 (n:=1) (m:=50) rfl (cl1 (n:=16) (m:=34) (Flat.len _) (cl1 (n:=1) (m:=33) rfl (cl1 (n:=1) (m:=32) rfl (cl1 (n:=32) (m:=0) (Flat.len _) cl0))))))) (Eq.symm (Zh (cl1 (n:=1) (m:=51) rfl (cl1 (n:=1) (m:=50) rfl (cl1 (n:=16) (m:=34) (Flat.len _) (cl1 (n:=1) (m:=33) rfl (cl1 (n:=1) (m:=32) rfl (cl1 (n:=32) (m:=0) (Flat.len _) cl0)))))))))) fun w a hM hE=>Zf (Zc (Zg hE Za ld rfl (T9) fun a hE=>Zp (v:=u43) hE Za ld rfl Uu rfl (At.cat (pre:=[[vI x37.Number],[vI x37.Version],enc x37.Nonce]) (hM.rawAt (pre:=[])) (cl1 (n:=1) (m:=17) rfl (cl1 (n:=1) (m:=16) rfl (cl1 (n:=16) (m:=0) (Flat.len _) cl0)))) ?_)); intro a hE
    obtain ⟨r49,e50,hs32⟩:=bind_some hs32
    refine Zt hE Za ld rfl cb95 (Qn _ x37.Label u43 (hM.rdo h44) r49 e50) ?_
    rintro u51 w a ⟨_,rfl,hFr,hK⟩ hE
    have hM:=hM.add hK hFr
    refine Zg hE Za ld rfl (T9) ?_; intro a hE
    have hM:=hM.pull (pre:=[_])
    refine Zo (seg:=[u51]) hE hM Za rfl rfl (YD (hM.sl (pre:=[_]) noB)) Uu rfl (YO (pre:=[[vI x37.Number],[vI x37.Version],enc x37.Nonce]) (cl1 (n:=1) (m:=17) rfl (cl1 (n:=1) (m:=16) rfl (cl1 (n:=16) (m:=0) (Flat.len _) cl0))) rfl) (Rep.cell (hM.sl (pre:=[_]) noB)) (ZX (pre:=[[vI x37.Number],[vI x37.Version],enc x37.Nonce]) (cl1 (n:=1) (m:=17) rfl (cl1 (n:=1) (m:=16) rfl (cl1 (n:=16) (m:=0) (Flat.len _) cl0))) rfl) fun w a hM hE=>Zf (Zc (Zg hE Za ld rfl (Qr) fun a hE=>Zp (v:=u45) hE Za ld rfl Uu rfl (At.cat (pre:=[[vI x37.Number],[vI x37.Version],enc x37.Nonce,[u51]]) (hM.rawAt (pre:=[])) (cl1 (n:=1) (m:=18) rfl (cl1 (n:=1) (m:=17) rfl (cl1 (n:=16) (m:=1) (Flat.len _) (cl1 (n:=1) (m:=0) rfl cl0))))) ?_)); intro a hE
    obtain ⟨r52,e53,hs32⟩:=bind_some hs32
    refine Zt hE Za ld rfl cb95 (Qn _ x37.Body u45 (hM.rdo h46) r52 e53) ?_
    rintro u54 w a ⟨_,rfl,hFr,hK⟩ hE
    have hM:=hM.add hK hFr
    refine Zg hE Za ld rfl (Qr) ?_; intro a hE
    have hM:=hM.pull (pre:=[_])
    refine Zo (seg:=[u54]) hE hM Za rfl rfl (YD (hM.sl (pre:=[_]) noB)) Uu rfl (YO (pre:=[[vI x37.Number],[vI x37.Version],enc x37.Nonce,[u51]]) (cl1 (n:=1) (m:=18) rfl (cl1 (n:=1) (m:=17) rfl (cl1 (n:=16) (m:=1) (Flat.len _) (cl1 (n:=1) (m:=0) rfl cl0)))) rfl) (Rep.cell (hM.sl (pre:=[_]) noB)) (ZX (pre:=[[vI x37.Number],[vI x37.Version],enc x37.Nonce,[u51]]) (cl1 (n:=1) (m:=18) rfl (cl1 (n:=1) (m:=17) rfl (cl1 (n:=16) (m:=1) (Flat.len _) (cl1 (n:=1) (m:=0) rfl cl0)))) rfl) fun w a hM hE=>Zf (wp_region_lit (Zg hE Za ld rfl (UC) fun a hE=>Zp (v:=u30) hE Za ld rfl QX rfl (At.cat (pre:=[[(ux5 3)],[vI p0.Next]]) (hM.rawAt (pre:=[_,_,_])) (cl1 (n:=1) (m:=1) rfl (cl1 (n:=1) (m:=0) rfl cl0))) fun a hE=>Zm (cs:=cat [[vI x37.Number],[vI x37.Version],enc x37.Nonce,[u51],[u54],enc x37.Tag]) hE Za ld rfl XZ rfl (hM.rawAt (pre:=[])) (Zh (cl1 (n:=1) (m:=51) rfl (cl1 (n:=1) (m:=50) rfl (cl1 (n:=16) (m:=34) (Flat.len _) (cl1 (n:=1) (m:=33) rfl (cl1 (n:=1) (m:=32) rfl (cl1 (n:=32) (m:=0) (Flat.len _) cl0))))))) ?_)); intro a hE
    have hM:=(hM.pull (pre:=[_])).pull (pre:=[_,_])
    have hM:=hM.pack2 (it:=own NoB (⟨x37.Number,x37.Version,x37.Nonce,r49,r52,x37.Tag⟩ : GRecord) (cat [[vI x37.Number],[vI x37.Version],enc x37.Nonce,[u51],[u54],enc x37.Tag])) (Yc noB) (fun f0 f1 q0 q1=>(Vp (YG.sat q0) (YG.sat q1) (by simp)))
    refine zJ (xs:=[.tmp 41]) (seg:=cat [[vI x37.Number],[vI x37.Version],enc x37.Nonce,[u51],[u54],enc x37.Tag]) hE hM noB Za ld rfl rfl Tryz.underlying33 XZ rfl (by decide) ?_; intro u55 w a hM hE
    obtain ⟨l57,e58,hs32⟩:=bind_some hs32
    obtain ⟨e61,rfl⟩:=Yv e58
    have hM:=hM.pull (pre:=[_,_,_,_,_,_,_])
    refine AK hE hM noB Za ld rfl rfl Tryz.underlying33 XZ rfl (by decide) e61 fun u59 w a hM hE=>Zg hE Za ld rfl (UC) ?_; intro a hE
    have hM:=hM.pull (pre:=[_,_])
    refine Zo (seg:=[u59]) hE hM Za rfl rfl (YD (hM.sl (pre:=[_]) noB)) QX rfl (YO (pre:=[[(ux5 3)],[vI p0.Next]]) (cl1 (n:=1) (m:=1) rfl (cl1 (n:=1) (m:=0) rfl cl0)) rfl) (Rep.cell (hM.sl (pre:=[_]) noB)) (ZX (pre:=[[(ux5 3)],[vI p0.Next]]) (cl1 (n:=1) (m:=1) rfl (cl1 (n:=1) (m:=0) rfl cl0)) rfl) fun w a hM hE=>Zj (Yb (Zz (wp_region_lit (Zd hE Za ld rfl fun a hE=>Zi hE Za ld rfl rfl rfl fun a hE=>Ze hE Za ld rfl fun a hE=>Zj (Zn ?_)))))
    have hM:=M.fst (l:=[_,_,_,_,_,_]) ((((((hM.pull (pre:=[_])).pull (pre:=[_,_,_,_,_,_])).pull (pre:=[_,_,_,_,_,_])).pull (pre:=[_,_,_,_,_,_])).pull (pre:=[_,_,_,_,_,_])).pull (pre:=[_,_,_,_,_]))
    exact ⟨_,(ois hs32),u59,hE.sub ⟨rfl,rfl,rfl,rfl,trivial⟩,hM⟩
   ·intro hb36
    have hs32:=ZB hs32 hb36
    refine wp_exit (Zq (Zq (Yf ?_)))
    have ht62:=hx33 _ (ois hs32)
    subst ht62
    refine Zn ?_
    have hM:=M.fst (l:=[_,_,_,_,_]) (((((hM.pull (pre:=[_,_,_,_,_])).pull (pre:=[_,_,_,_,_])).pull (pre:=[_,_,_,_,_])).pull (pre:=[_,_,_,_])).pull (pre:=[_,_,_,_]))
    exact ⟨u30,hE.sub ⟨rfl,rfl,trivial⟩,hM⟩
  ·skip
   rintro a w ⟨u27,hE,hM⟩
   refine Zz (Zc (Zm (cs:=cat [[(ux5 3)],[vI p0.Next],[u27],[(ux5 9)],enc p0.Head]) hE Za ld rfl Yx rfl (hM.rawAt (pre:=[])) (Zh (cl1 (n:=1) (m:=35) rfl (cl1 (n:=1) (m:=34) rfl (cl1 (n:=1) (m:=33) rfl (cl1 (n:=1) (m:=32) rfl (cl1 (n:=32) (m:=0) (Flat.len _) cl0)))))) ?_)); intro a hE
   have hM:=hM.pull (pre:=[_])
   refine Zo (seg:=cat [[(ux5 3)],[vI p0.Next],[u27],[(ux5 9)],enc p0.Head]) (cs':=cat [[(ux5 3)],[vI p0.Next],[u27],[(ux5 9)],enc p0.Head]) hE hM Za rfl rfl rfl Yx (Zh (cl1 (n:=1) (m:=35) rfl (cl1 (n:=1) (m:=34) rfl (cl1 (n:=1) (m:=33) rfl (cl1 (n:=1) (m:=32) rfl (cl1 (n:=32) (m:=0) (Flat.len _) cl0)))))) (Nat.le_of_eq ((Nat.zero_add _).trans (Eq.trans (Zh (cl1 (n:=1) (m:=35) rfl (cl1 (n:=1) (m:=34) rfl (cl1 (n:=1) (m:=33) rfl (cl1 (n:=1) (m:=32) rfl (cl1 (n:=32) (m:=0) (Flat.len _) cl0)))))) (Eq.symm (Zh (cl1 (n:=1) (m:=35) rfl (cl1 (n:=1) (m:=34) rfl (cl1 (n:=1) (m:=33) rfl (cl1 (n:=1) (m:=32) rfl (cl1 (n:=32) (m:=0) (Flat.len _) cl0)))))))))) (Z5 (cc1 (Rep.cell (hM.sl (pre:=[_,_]) noB)) (cc1 (Flat.cell (p0.Next : Int)) (cc1 (Rep.cell (hM.sl (pre:=[_,_,_,_]) noB)) (cc1 (Rep.cell (hM.sl (pre:=[_,_,_]) noB)) (cc1 (Flat.cell _) cc0)))))) (Zl (Eq.trans (Zh (cl1 (n:=1) (m:=35) rfl (cl1 (n:=1) (m:=34) rfl (cl1 (n:=1) (m:=33) rfl (cl1 (n:=1) (m:=32) rfl (cl1 (n:=32) (m:=0) (Flat.len _) cl0)))))) (Eq.symm (Zh (cl1 (n:=1) (m:=35) rfl (cl1 (n:=1) (m:=34) rfl (cl1 (n:=1) (m:=33) rfl (cl1 (n:=1) (m:=32) rfl (cl1 (n:=32) (m:=0) (Flat.len _) cl0))))))))) fun w a hM hE=>Zf ?_
   have hr:=Option.some.inj hF26
   subst hr
   have hq63 : Yw Tryz.prog _ _ (.cell 2 36) _:=ZO hE rfl Yx rfl (hM.rawAt (pre:=[])) (Zh (cl1 (n:=1) (m:=35) rfl (cl1 (n:=1) (m:=34) rfl (cl1 (n:=1) (m:=33) rfl (cl1 (n:=1) (m:=32) rfl (cl1 (n:=32) (m:=0) (Flat.len _) cl0)))))) rfl
   have hM:=M.fst (l:=[_,_,_]) (((hM.pull (pre:=[_,_,_])).pull (pre:=[_,_,_,_])).pull (pre:=[_,_,_,_]))
   exact wp_ret (Zy hE rfl hq63 ⟨_,rfl,(ux5 3),u27,(ux5 9),rfl,hM.outF (Yo (Yo (Yo Xs))),hM.kept⟩)
def Xk (p0 : Int) (s4 : Int × Int × Int) : Option (Fl (Int × Int × Int) Int) :=
 if (decide (s4.2.2 > 0)) = true then (((if ((Int.tmod s4.2.2 2) == 1) = true then (some (Q0 s4.1 s4.2.1)) else (some s4.1) : Option (Int)).bind fun j12=>(if (decide ((wr (s4.2.1 * 2)) ≥ 256)) = true then (some (Q0 (wr (s4.2.1 * 2)) p0)) else (some (wr (s4.2.1 * 2))) : Option (Int)).bind fun j18=>some (j12,j18) : Option (Int × Int)).bind fun j9=>some (Fl.nx (j9.1,j9.2,wr (Int.tdiv s4.2.2 2)))) else (some (Fl.ex s4.1))
def YW (p0 : Int) (p1 : UInt8) (p2 : UInt8) : Option (UInt8) :=
 (ZG (Xk p0) (0,bI p1,bI p2)).bind fun j1=>some (ZC j1)
theorem Uk (w0 : World) (p0 : Int) (p1 : UInt8) (p2 : UInt8) (r : UInt8) (hF : YW p0 p1 p2 = some r) :
  Calls Tryz.prog 224 [vI p0,vB p1,vB p2].toArray w0 (fun en w'=>∃ v,en = .returned v ∧ (v = (vB r) ∧ Kept (Old w0) w0 w')):=by
 refine ZD (n:=33) Tryz.func224 rfl rfl (nbl rfl) rfl ?_
 intro a hE
 have hM:=M.start w0
 unfold YW at hF
 refine Zc (Ze hE Za ld rfl fun a hE=>Zf (Zc (Zd hE Za ld rfl fun a hE=>Yz hE Za ld rfl Tryz.underlying5 Tryz.underlying2 ?_))); intro a hE
 rw [KN] at hE
 refine Ze hE Za ld rfl fun a hE=>Ze hE Za ld rfl fun a hE=>Zf (wp_seq (Zc (Zd hE Za ld rfl fun a hE=>Yz hE Za ld rfl Tryz.underlying5 Tryz.underlying2 ?_))); intro a hE
 rw [KN] at hE
 refine Ze hE Za ld rfl fun a hE=>Zf ?_
 obtain ⟨j1,hl2,hF3⟩:=bind_some hF
 refine ZP (fun a w=>Env 33 a [(7,vI j1)] ∧ M (Old w0) w0 w []) ?_ ?_
 ·skip
  refine wp_block ?_
  refine ZI (fun (s4 : Int × Int × Int) a w=>Env 33 a [(0,vI p0),(7,vI s4.1),(8,vI s4.2.1),(9,vI s4.2.2)] ∧ M (Old w0) w0 w []) hl2 ⟨hE.sub ⟨rfl,rfl,rfl,rfl,trivial⟩,hM⟩ ?_
  rintro s4 a w ⟨hE,hM⟩ o7 hs5 hx6
  unfold Xk at hs5
  refine wp_seq (Zc (Zd hE Za ld rfl fun a hE=>Zi hE Za ld rfl rfl rfl fun a hE=>Zf ?_))
  refine Zs hE rfl ?_ ?_
  ·intro hb8
   have hs5:=ZA hs5 hb8
   refine wp_skip (Zz ?_)
   obtain ⟨j9,hl10,hF11⟩:=bind_some hs5
   refine ZS (fun a w=>Env 33 a [(0,vI p0),(7,vI j9.1),(8,vI j9.2),(9,vI s4.2.2)] ∧ M (Old w0) w0 w []) ?_ ?_
   ·skip
    refine wp_block ?_
    obtain ⟨j12,hl13,hF14⟩:=bind_some hl10
    refine ZS (fun a w=>Env 33 a [(0,vI p0),(7,vI j12),(8,vI s4.2.1),(9,vI s4.2.2)] ∧ M (Old w0) w0 w []) ?_ ?_
    ·skip
     refine Zc (Zd hE Za ld rfl fun a hE=>Zi hE Za ld rfl rfl (QH _ _ (by decide)) fun a hE=>Zi hE Za ld rfl rfl rfl fun a hE=>Zf ?_)
     refine Zs hE rfl ?_ ?_
     ·intro hb15
      have hl13:=ZA hl13 hb15
      refine wp_region_lit (Zd hE Za ld rfl fun a hE=>Zd hE Za ld rfl fun a hE=>Zi hE Za ld rfl rfl rfl fun a hE=>Ze hE Za ld rfl fun a hE=>Zj ?_)
      have ht16:=Option.some.inj hl13
      subst ht16
      refine Zn ?_
      exact ⟨hE.sub ⟨rfl,rfl,rfl,rfl,trivial⟩,hM⟩
     ·intro hb15
      have hl13:=ZB hl13 hb15
      refine wp_skip ?_
      have ht17:=Option.some.inj hl13
      subst ht17
      refine Zn ?_
      exact ⟨hE.sub ⟨rfl,rfl,rfl,rfl,trivial⟩,hM⟩
    ·skip
     rintro a w ⟨hE,hM⟩
     refine Zc (Zd hE Za ld rfl fun a hE=>Zi hE Za ld rfl rfl rfl fun a hE=>Ze hE Za ld rfl fun a hE=>Zf (Zc (Zd hE Za ld rfl fun a hE=>Zi hE Za ld rfl rfl rfl fun a hE=>Zf ?_)))
     obtain ⟨j18,hl19,hF20⟩:=bind_some hF14
     refine ZP (fun a w=>Env 33 a [(0,vI p0),(7,vI j12),(8,vI j18),(9,vI s4.2.2)] ∧ M (Old w0) w0 w []) ?_ ?_
     ·skip
      refine Zs hE rfl ?_ ?_
      ·intro hb21
       have hl19:=ZA hl19 hb21
       refine wp_region_lit (Zd hE Za ld rfl fun a hE=>Zd hE Za ld rfl fun a hE=>Zi hE Za ld rfl rfl rfl fun a hE=>Ze hE Za ld rfl fun a hE=>Zj ?_)
       have ht22:=Option.some.inj hl19
       subst ht22
       refine Zn ?_
       exact ⟨hE.sub ⟨rfl,rfl,rfl,rfl,trivial⟩,hM⟩
      ·intro hb21
       have hl19:=ZB hl19 hb21
       refine wp_skip ?_
       have ht23:=Option.some.inj hl19
       subst ht23
       refine Zn ?_
       exact ⟨hE.sub ⟨rfl,rfl,rfl,rfl,trivial⟩,hM⟩
     ·skip
      rintro a w ⟨hE,hM⟩
      refine Yb ?_
      have ht24:=Option.some.inj hF20
      subst ht24
      refine Zn ?_
      exact ⟨hE.sub ⟨rfl,rfl,rfl,rfl,trivial⟩,hM⟩
   ·skip
    rintro a w ⟨hE,hM⟩
    refine wp_region_lit (Zd hE Za ld rfl fun a hE=>Zi hE Za ld rfl rfl (A9 _ _ (by decide)) fun a hE=>Ze hE Za ld rfl fun a hE=>Zj (Zn ?_))
    exact ⟨_,(ois hF11),hE.sub ⟨rfl,rfl,rfl,rfl,trivial⟩,hM⟩
  ·intro hb8
   have hs5:=ZB hs5 hb8
   refine wp_exit (Zq (Zq (Yf ?_)))
   have ht25:=hx6 _ (ois hs5)
   subst ht25
   refine Zn ?_
   exact ⟨hE.sub ⟨rfl,trivial⟩,hM⟩
 ·skip
  rintro a w ⟨hE,hM⟩
  refine Zz (Zc (Zd hE Za ld rfl fun a hE=>Yz hE Za ld rfl Tryz.underlying2 Tryz.underlying5 ?_)); intro a hE
  rw [ZW] at hE
  refine Ze hE Za ld rfl fun a hE=>Zf ?_
  have hr:=Option.some.inj hF3
  subst hr
  exact wp_ret (Zy hE rfl (Zu hE rfl) ⟨_,rfl,rfl,hM.kept⟩)
def VG (p0 : Int) (s16 : UInt8 × UInt8 × Int) : Option (Fl (UInt8 × UInt8 × Int) UInt8) :=
 if (decide (s16.2.2 > 0)) = true then (((if ((Int.tmod s16.2.2 2) == 1) = true then ((YW p0 s16.1 s16.2.1).bind fun r28=>some r28) else (some s16.1) : Option (UInt8)).bind fun j24=>(YW p0 s16.2.1 s16.2.1).bind fun r32=>some (j24,r32) : Option (UInt8 × UInt8)).bind fun j21=>some (Fl.nx (j21.1,j21.2,wr (Int.tdiv s16.2.2 2)))) else (some (Fl.ex s16.1))
def VO (p0 : Int) (p1 : Int) (s8 : (Vector UInt8 256) × Int) : Option (Fl ((Vector UInt8 256) × Int) (Vector UInt8 256)) :=
 if (decide (s8.2 < 256)) = true then ((ZG (VG p0) (1,ZC s8.2,p1)).bind fun j13=>(ZM s8.1 s8.2).bind fun x37=>some (Fl.nx ((s8.1.setIfInBounds (s8.2).toNat j13),wr (s8.2 + 1)))) else (some (Fl.ex s8.1))
def Um (p0 : Int) (p1 : Int) : Option ((Vector UInt8 256)) :=
 (ZG (VO p0 p1) ((Vector.replicate 256 (0 : UInt8)),0)).bind fun j5=>some j5
theorem HZ (w0 : World) (p0 : Int) (p1 : Int) (r : (Vector UInt8 256)) (hF : Um p0 p1 = some r) :
  Calls Tryz.prog 192 [vI p0,vI p1].toArray w0 (fun en w'=>∃ v,en = .returned v ∧ (v = (Value.agg (enc r).toArray) ∧ Kept (Old w0) w0 w')):=by
 refine ZD (n:=37) Tryz.func192 rfl rfl (nbl rfl) rfl ?_
 intro a hE
 have hM:=M.start w0
 unfold Um at hF
 refine Zc (ZE hE hM Za ld XG fun b1 w a hM hE=>Zf (Zc (XI (parts:=[]) (vs:=[]) (cs:=enc (Vector.replicate 256 (0 : UInt8))) hE Za ld rfl rfl XG rfl ty5 Y5 fun a hE=>ZE hE hM Za ld XG fun b3 w a hM hE=>Zo (seg:=enc (Vector.replicate 256 (0 : UInt8))) (cs':=enc (Vector.replicate 256 (0 : UInt8))) hE hM Za rfl rfl rfl XG (Flat.len _) (zle flq) (Flat.cell _) (Zl flq) fun w a hM hE=>Zf (wp_seq (Zc (Ze hE Za ld rfl fun a hE=>Zf ?_))))))
 obtain ⟨j5,hl6,hF7⟩:=bind_some hF
 refine ZP (fun a w=>Env 37 a [(4,(ptr b1 0)),(5,(ptr b3 0))] ∧ M (Old w0) w0 w [raw b3 (enc j5),raw b1 (enc (Vector.replicate 256 (0 : UInt8)))]) ?_ ?_
 ·skip
  refine wp_block ?_
  refine ZI (fun (s8 : (Vector UInt8 256) × Int) a w=>Env 37 a [(0,vI p0),(1,vI p1),(4,(ptr b1 0)),(5,(ptr b3 0)),(6,vI s8.2)] ∧ M (Old w0) w0 w [raw b3 (enc s8.1),raw b1 (enc (Vector.replicate 256 (0 : UInt8)))]) hl6 ⟨hE.sub ⟨rfl,rfl,rfl,rfl,rfl,trivial⟩,hM⟩ ?_
  rintro s8 a w ⟨hE,hM⟩ o11 hs9 hx10
  unfold VO at hs9
  refine wp_seq (Zc (Zd hE Za ld rfl fun a hE=>Zi hE Za ld rfl rfl rfl fun a hE=>Zf ?_))
  refine Zs hE rfl ?_ ?_
  ·intro hb12
   have hs9:=ZA hs9 hb12
   refine wp_skip (Zz (wp_seq (wp_block (Zc (Zd hE Za ld rfl fun a hE=>Yz hE Za ld rfl Tryz.underlying3 Tryz.underlying5 ?_))))); intro a hE
   rw [ZW] at hE
   refine Ze hE Za ld rfl fun a hE=>Ze hE Za ld rfl fun a hE=>Zf (wp_seq (Zc (Zd hE Za ld rfl fun a hE=>Ze hE Za ld rfl fun a hE=>Zf ?_)))
   obtain ⟨j13,hl14,hF15⟩:=bind_some hs9
   refine ZP (fun a w=>Env 37 a [(0,vI p0),(1,vI p1),(4,(ptr b1 0)),(5,(ptr b3 0)),(6,vI s8.2),(7,vB j13)] ∧ M (Old w0) w0 w [raw b3 (enc s8.1),raw b1 (enc (Vector.replicate 256 (0 : UInt8)))]) ?_ ?_
   ·skip
    refine wp_block ?_
    refine ZI (fun (s16 : UInt8 × UInt8 × Int) a w=>Env 37 a [(0,vI p0),(1,vI p1),(4,(ptr b1 0)),(5,(ptr b3 0)),(6,vI s8.2),(7,vB s16.1),(8,vB s16.2.1),(9,vI s16.2.2)] ∧ M (Old w0) w0 w [raw b3 (enc s8.1),raw b1 (enc (Vector.replicate 256 (0 : UInt8)))]) hl14 ⟨hE.sub ⟨rfl,rfl,rfl,rfl,rfl,rfl,rfl,rfl,trivial⟩,hM⟩ ?_
    rintro s16 a w ⟨hE,hM⟩ o19 hs17 hx18
    unfold VG at hs17
    refine wp_seq (Zc (Zd hE Za ld rfl fun a hE=>Zi hE Za ld rfl rfl rfl fun a hE=>Zf ?_))
    refine Zs hE rfl ?_ ?_
    ·intro hb20
     have hs17:=ZA hs17 hb20
     refine wp_skip (Zz ?_)
     obtain ⟨j21,hl22,hF23⟩:=bind_some hs17
     refine ZS (fun a w=>Env 37 a [(0,vI p0),(1,vI p1),(4,(ptr b1 0)),(5,(ptr b3 0)),(6,vI s8.2),(7,vB j21.1),(8,vB j21.2),(9,vI s16.2.2)] ∧ M (Old w0) w0 w [raw b3 (enc s8.1),raw b1 (enc (Vector.replicate 256 (0 : UInt8)))]) ?_ ?_
     ·skip
      refine wp_block ?_
      obtain ⟨j24,hl25,hF26⟩:=bind_some hl22
      refine ZS (fun a w=>Env 37 a [(0,vI p0),(1,vI p1),(4,(ptr b1 0)),(5,(ptr b3 0)),(6,vI s8.2),(7,vB j24),(8,vB s16.2.1),(9,vI s16.2.2)] ∧ M (Old w0) w0 w [raw b3 (enc s8.1),raw b1 (enc (Vector.replicate 256 (0 : UInt8)))]) ?_ ?_
      ·skip
       refine Zc (Zd hE Za ld rfl fun a hE=>Zi hE Za ld rfl rfl (QH _ _ (by decide)) fun a hE=>Zi hE Za ld rfl rfl rfl fun a hE=>Zf ?_)
       refine Zs hE rfl ?_ ?_
       ·intro hb27
        have hl25:=ZA hl25 hb27
        refine wp_region_lit (Zd hE Za ld rfl fun a hE=>Zd hE Za ld rfl fun a hE=>Zd hE Za ld rfl ?_); intro a hE
        obtain ⟨r28,e29,hl25⟩:=bind_some hl25
        refine Zt hE Za ld rfl yh (Uk _ p0 s16.1 s16.2.1 r28 e29) ?_
        rintro v w a ⟨rfl,hK⟩ hE
        have hM:=hM.keep hK
        refine Ze hE Za ld rfl fun a hE=>Zj ?_
        have ht30:=Option.some.inj hl25
        subst ht30
        refine Zn ?_
        exact ⟨hE.sub ⟨rfl,rfl,rfl,rfl,rfl,rfl,rfl,rfl,trivial⟩,hM⟩
       ·intro hb27
        have hl25:=ZB hl25 hb27
        refine wp_skip ?_
        have ht31:=Option.some.inj hl25
        subst ht31
        refine Zn ?_
        exact ⟨hE.sub ⟨rfl,rfl,rfl,rfl,rfl,rfl,rfl,rfl,trivial⟩,hM⟩
      ·skip
       rintro a w ⟨hE,hM⟩
       refine wp_region_lit (Zd hE Za ld rfl fun a hE=>Zd hE Za ld rfl fun a hE=>Zd hE Za ld rfl ?_); intro a hE
       obtain ⟨r32,e33,hF26⟩:=bind_some hF26
       refine Zt hE Za ld rfl yh (Uk _ p0 s16.2.1 s16.2.1 r32 e33) ?_
       rintro v w a ⟨rfl,hK⟩ hE
       have hM:=hM.keep hK
       refine Ze hE Za ld rfl fun a hE=>Zj (Yb ?_)
       have ht34:=Option.some.inj hF26
       subst ht34
       refine Zn ?_
       exact ⟨hE.sub ⟨rfl,rfl,rfl,rfl,rfl,rfl,rfl,rfl,trivial⟩,hM⟩
     ·skip
      rintro a w ⟨hE,hM⟩
      refine wp_region_lit (Zd hE Za ld rfl fun a hE=>Zi hE Za ld rfl rfl (A9 _ _ (by decide)) fun a hE=>Ze hE Za ld rfl fun a hE=>Zj (Zn ?_))
      exact ⟨_,(ois hF23),hE.sub ⟨rfl,rfl,rfl,rfl,rfl,rfl,rfl,rfl,trivial⟩,hM⟩
    ·intro hb20
     have hs17:=ZB hs17 hb20
     refine wp_exit (Zq (Zq (Yf ?_)))
     have ht35:=hx18 _ (ois hs17)
     subst ht35
     refine Zn ?_
     exact ⟨hE.sub ⟨rfl,rfl,rfl,rfl,rfl,rfl,trivial⟩,hM⟩
   ·skip
    rintro a w ⟨hE,hM⟩
    refine Zz (wp_region_lit (Zd hE Za ld rfl fun a hE=>Zd hE Za ld rfl ?_)); intro a hE
    obtain ⟨x37,hi36,hF15⟩:=bvx hF15
    refine Zr hE Za ld rfl rfl Tryz.underlying167 ty5 hi36.1 fun a hE=>Zo (seg:=[vB j13]) (cs':=enc (s8.1.setIfInBounds (s8.2).toNat j13)) hE hM Za rfl rfl rfl ty5 rfl (ZR (v:=s8.1) (x:=j13) hi36.1) (Flat.cell (j13 : UInt8)) (ZJ (v:=s8.1) (x:=j13) hi36.1) fun w a hM hE=>Zj (Yb (Zz (wp_region_lit (Zd hE Za ld rfl fun a hE=>Zi hE Za ld rfl rfl rfl fun a hE=>Ze hE Za ld rfl fun a hE=>Zj (Zn ?_)))))
    exact ⟨_,(ois hF15),hE.sub ⟨rfl,rfl,rfl,rfl,rfl,trivial⟩,hM⟩
  ·intro hb12
   have hs9:=ZB hs9 hb12
   refine wp_exit (Zq (Zq (Yf ?_)))
   have ht39:=hx10 _ (ois hs9)
   subst ht39
   refine Zn ?_
   exact ⟨hE.sub ⟨rfl,rfl,trivial⟩,hM⟩
 ·skip
  rintro a w ⟨hE,hM⟩
  refine Zz (Zc (Zm (cs:=enc j5) hE Za ld rfl XG rfl (hM.rawAt (pre:=[])) (Flat.len _) ?_)); intro a hE
  have hM:=hM.pull (pre:=[_])
  refine Zo (seg:=enc j5) (cs':=enc j5) hE hM Za rfl rfl rfl XG (Flat.len _) (zle flq) (Flat.cell _) (Zl flq) fun w a hM hE=>Zf ?_
  have hr:=Option.some.inj hF7
  subst hr
  have hq40 : Yw Tryz.prog _ _ (.cell 4 167) _:=ZO hE rfl XG rfl (hM.rawAt (pre:=[])) (Flat.len _) rfl
  have hM:=M.fst (l:=[]) hM
  exact wp_ret (Zy hE rfl hq40 ⟨_,rfl,rfl,hM.kept⟩)
def XR (p0 : UInt8) (p1 : Int) : Option (UInt8) :=
 (XS (IntKind.u64.wrap p1)).bind fun _=>some (ZC (Qi (orI (Af (bI p0) (IntKind.u64.wrap p1)) (Tj (Af (bI p0) (IntKind.u64.wrap p1)) 8)) 255))
theorem B7 (w0 : World) (p0 : UInt8) (p1 : Int) (r : UInt8) (hF : XR p0 p1 = some r) :
  Calls Tryz.prog 225 [vB p0,vI p1].toArray w0 (fun en w'=>∃ v,en = .returned v ∧ (v = (vB r) ∧ Kept (Old w0) w0 w')):=by
 refine ZD (n:=17) Tryz.func225 rfl rfl (nbl rfl) rfl ?_
 intro a hE
 have hM:=M.start w0
 unfold XR at hF
 refine Zc (Ze hE Za ld rfl fun a hE=>Zf (Zc (Zd hE Za ld rfl fun a hE=>Yz hE Za ld rfl Tryz.underlying5 Tryz.underlying2 ?_))); intro a hE
 rw [KN] at hE
 refine Zd hE Za ld rfl fun a hE=>Yz hE Za ld rfl Tryz.underlying2 Tryz.underlying235 ?_; intro a hE
 obtain ⟨_,e1,hF⟩:=bind_some hF
 have e1:=Vm e1
 refine Hh hE Za ld rfl rfl (yR _ _ e1) fun a hE=>Ze hE Za ld rfl fun a hE=>Zf (Zc (Zd hE Za ld rfl fun a hE=>Zd hE Za ld rfl fun a hE=>Hh hE Za ld rfl rfl (Jk _ _ (by decide)) fun a hE=>Zi hE Za ld rfl rfl rfl fun a hE=>Zi hE Za ld rfl rfl rfl fun a hE=>Yz hE Za ld rfl Tryz.underlying2 Tryz.underlying5 ?_)); intro a hE
 rw [ZW] at hE
 refine Ze hE Za ld rfl fun a hE=>Zf ?_
 have hr:=Option.some.inj hF
 subst hr
 exact wp_ret (Zy hE rfl (Zu hE rfl) ⟨_,rfl,rfl,hM.kept⟩)
def Yh (p0 : (List Int)) (s8 : (Vector UInt8 256) × Int) (s16 : UInt8 × Int) : Option (Fl (UInt8 × Int) UInt8) :=
 if (decide (s16.2 < (p0.length : Int))) = true then ((idx p0 s16.2).bind fun x21=>(XR (ZC s8.2) x21).bind fun r24=>some (Fl.nx (s16.1 ^^^ r24,wr (s16.2 + 1)))) else (some (Fl.ex s16.1))
def XU (p0 : (List Int)) (p1 : UInt8) (s8 : (Vector UInt8 256) × Int) : Option (Fl ((Vector UInt8 256) × Int) (Vector UInt8 256)) :=
 if (decide (s8.2 < 256)) = true then ((ZG (Yh p0 s8) (p1,0)).bind fun j13=>(ZM s8.1 s8.2).bind fun x28=>some (Fl.nx ((s8.1.setIfInBounds (s8.2).toNat j13),wr (s8.2 + 1)))) else (some (Fl.ex s8.1))
def Wq (p0 : (List Int)) (p1 : UInt8) : Option ((Vector UInt8 256)) :=
 (ZG (XU p0 p1) ((Vector.replicate 256 (0 : UInt8)),0)).bind fun j5=>some j5
theorem KR (w0 : World) (p0 : (List Int)) (v0_1 : Value) (hv0_1 : Ro w0 p0 [v0_1]) (p1 : UInt8) (r : (Vector UInt8 256)) (hF : Wq p0 p1 = some r) :
  Calls Tryz.prog 193 [v0_1,vB p1].toArray w0 (fun en w'=>∃ v,en = .returned v ∧ (v = (Value.agg (enc r).toArray) ∧ Kept (Old w0) w0 w')):=by
 refine ZD (n:=34) Tryz.func193 rfl rfl (nbl rfl) rfl ?_
 intro a hE
 have hM:=M.start w0
 unfold Wq at hF
 refine Zc (ZE hE hM Za ld XG fun b1 w a hM hE=>Zf (Zc (XI (parts:=[]) (vs:=[]) (cs:=enc (Vector.replicate 256 (0 : UInt8))) hE Za ld rfl rfl XG rfl ty5 Y5 fun a hE=>ZE hE hM Za ld XG fun b3 w a hM hE=>Zo (seg:=enc (Vector.replicate 256 (0 : UInt8))) (cs':=enc (Vector.replicate 256 (0 : UInt8))) hE hM Za rfl rfl rfl XG (Flat.len _) (zle flq) (Flat.cell _) (Zl flq) fun w a hM hE=>Zf (wp_seq (Zc (Ze hE Za ld rfl fun a hE=>Zf ?_))))))
 obtain ⟨j5,hl6,hF7⟩:=bind_some hF
 refine ZP (fun a w=>Env 34 a [(4,(ptr b1 0)),(5,(ptr b3 0))] ∧ M (Old w0) w0 w [raw b3 (enc j5),raw b1 (enc (Vector.replicate 256 (0 : UInt8)))]) ?_ ?_
 ·skip
  refine wp_block ?_
  refine ZI (fun (s8 : (Vector UInt8 256) × Int) a w=>Env 34 a [(0,v0_1),(1,vB p1),(4,(ptr b1 0)),(5,(ptr b3 0)),(6,vI s8.2)] ∧ M (Old w0) w0 w [raw b3 (enc s8.1),raw b1 (enc (Vector.replicate 256 (0 : UInt8)))]) hl6 ⟨hE.sub ⟨rfl,rfl,rfl,rfl,rfl,trivial⟩,hM⟩ ?_
  rintro s8 a w ⟨hE,hM⟩ o11 hs9 hx10
  unfold XU at hs9
  refine wp_seq (Zc (Zd hE Za ld rfl fun a hE=>Zi hE Za ld rfl rfl rfl fun a hE=>Zf ?_))
  refine Zs hE rfl ?_ ?_
  ·intro hb12
   have hs9:=ZA hs9 hb12
   refine wp_skip (Zz (wp_seq (wp_block (Zc (Zd hE Za ld rfl fun a hE=>Ze hE Za ld rfl fun a hE=>Zf (wp_seq (Zc (Ze hE Za ld rfl fun a hE=>Zf ?_))))))))
   obtain ⟨j13,hl14,hF15⟩:=bind_some hs9
   refine ZP (fun a w=>Env 34 a [(0,v0_1),(1,vB p1),(4,(ptr b1 0)),(5,(ptr b3 0)),(6,vI s8.2),(7,vB j13)] ∧ M (Old w0) w0 w [raw b3 (enc s8.1),raw b1 (enc (Vector.replicate 256 (0 : UInt8)))]) ?_ ?_
   ·skip
    refine wp_block ?_
    refine ZI (fun (s16 : UInt8 × Int) a w=>Env 34 a [(0,v0_1),(1,vB p1),(4,(ptr b1 0)),(5,(ptr b3 0)),(6,vI s8.2),(7,vB s16.1),(8,vI s16.2)] ∧ M (Old w0) w0 w [raw b3 (enc s8.1),raw b1 (enc (Vector.replicate 256 (0 : UInt8)))]) hl14 ⟨hE.sub ⟨rfl,rfl,rfl,rfl,rfl,rfl,rfl,trivial⟩,hM⟩ ?_
    rintro s16 a w ⟨hE,hM⟩ o19 hs17 hx18
    unfold Yh at hs17
    refine wp_seq (Zc (Zd hE Za ld rfl fun a hE=>Zd hE Za ld rfl fun a hE=>Z3 hE Za ld rfl Tryz.underlying43 (hM.rd hv0_1) fun a hE=>Zi hE Za ld rfl rfl rfl fun a hE=>Zf ?_))
    refine Zs hE rfl ?_ ?_
    ·intro hb20
     have hs17:=ZA hs17 hb20
     refine wp_skip (Zz (wp_seq (wp_block (wp_region_lit (Zd hE Za ld rfl fun a hE=>Zd hE Za ld rfl fun a hE=>Yz hE Za ld rfl Tryz.underlying3 Tryz.underlying5 ?_))))); intro a hE
     rw [ZW] at hE
     refine Zd hE Za ld rfl fun a hE=>Zd hE Za ld rfl ?_; intro a hE
     obtain ⟨x21,hi23,hs17⟩:=bix hs17
     refine ZL hE Za ld rfl rfl Tryz.underlying43 ty2 (hM.rd hv0_1) hi23.1 fun a hE=>Zp (v:=(vI x21)) hE Za ld rfl ty2 rfl (XE (hM.rd hv0_1) hi23.2) ?_; intro a hE
     obtain ⟨r24,e25,hs17⟩:=bind_some hs17
     refine Zt hE Za ld rfl cb225 (B7 _ (ZC s8.2) x21 r24 e25) ?_
     rintro v w a ⟨rfl,hK⟩ hE
     have hM:=hM.keep hK
     refine Zi hE Za ld rfl rfl (UD s16.1 r24) fun a hE=>Ze hE Za ld rfl fun a hE=>Zj (Yb (Zz (wp_region_lit (Zd hE Za ld rfl fun a hE=>Zi hE Za ld rfl rfl rfl fun a hE=>Ze hE Za ld rfl fun a hE=>Zj (Zn ?_)))))
     exact ⟨_,(ois hs17),hE.sub ⟨rfl,rfl,rfl,rfl,rfl,rfl,rfl,trivial⟩,hM⟩
    ·intro hb20
     have hs17:=ZB hs17 hb20
     refine wp_exit (Zq (Zq (Yf ?_)))
     have ht26:=hx18 _ (ois hs17)
     subst ht26
     refine Zn ?_
     exact ⟨hE.sub ⟨rfl,rfl,rfl,rfl,rfl,rfl,trivial⟩,hM⟩
   ·skip
    rintro a w ⟨hE,hM⟩
    refine Zz (wp_region_lit (Zd hE Za ld rfl fun a hE=>Zd hE Za ld rfl ?_)); intro a hE
    obtain ⟨x28,hi27,hF15⟩:=bvx hF15
    refine Zr hE Za ld rfl rfl Tryz.underlying167 ty5 hi27.1 fun a hE=>Zo (seg:=[vB j13]) (cs':=enc (s8.1.setIfInBounds (s8.2).toNat j13)) hE hM Za rfl rfl rfl ty5 rfl (ZR (v:=s8.1) (x:=j13) hi27.1) (Flat.cell (j13 : UInt8)) (ZJ (v:=s8.1) (x:=j13) hi27.1) fun w a hM hE=>Zj (Yb (Zz (wp_region_lit (Zd hE Za ld rfl fun a hE=>Zi hE Za ld rfl rfl rfl fun a hE=>Ze hE Za ld rfl fun a hE=>Zj (Zn ?_)))))
    exact ⟨_,(ois hF15),hE.sub ⟨rfl,rfl,rfl,rfl,rfl,trivial⟩,hM⟩
  ·intro hb12
   have hs9:=ZB hs9 hb12
   refine wp_exit (Zq (Zq (Yf ?_)))
   have ht30:=hx10 _ (ois hs9)
   subst ht30
   refine Zn ?_
   exact ⟨hE.sub ⟨rfl,rfl,trivial⟩,hM⟩
 ·skip
  rintro a w ⟨hE,hM⟩
  refine Zz (Zc (Zm (cs:=enc j5) hE Za ld rfl XG rfl (hM.rawAt (pre:=[])) (Flat.len _) ?_)); intro a hE
  have hM:=hM.pull (pre:=[_])
  refine Zo (seg:=enc j5) (cs':=enc j5) hE hM Za rfl rfl rfl XG (Flat.len _) (zle flq) (Flat.cell _) (Zl flq) fun w a hM hE=>Zf ?_
  have hr:=Option.some.inj hF7
  subst hr
  have hq31 : Yw Tryz.prog _ _ (.cell 4 167) _:=ZO hE rfl XG rfl (hM.rawAt (pre:=[])) (Flat.len _) rfl
  have hM:=M.fst (l:=[]) hM
  exact wp_ret (Zy hE rfl hq31 ⟨_,rfl,rfl,hM.kept⟩)
def Up (p0 : (Vector UInt8 256)) (p1 : (Vector UInt8 256)) (s12 : (Vector UInt8 256) × Int) : Option (Fl ((Vector UInt8 256) × Int) (Vector UInt8 256)) :=
 if (decide (s12.2 < 256)) = true then ((ZM p0 s12.2).bind fun x18=>(ZM p1 (bI x18)).bind fun x21=>(ZM s12.1 s12.2).bind fun x24=>some (Fl.nx ((s12.1.setIfInBounds (s12.2).toNat x21),wr (s12.2 + 1)))) else (some (Fl.ex s12.1))
def UL (p0 : (Vector UInt8 256)) (p1 : (Vector UInt8 256)) : Option ((Vector UInt8 256)) :=
 (ZG (Up p0 p1) ((Vector.replicate 256 (0 : UInt8)),0)).bind fun j9=>some j9
theorem BM (w0 : World) (p0 : (Vector UInt8 256)) (p1 : (Vector UInt8 256)) (r : (Vector UInt8 256)) (hF : UL p0 p1 = some r) :
  Calls Tryz.prog 191 [(Value.agg (enc p0).toArray),(Value.agg (enc p1).toArray)].toArray w0 (fun en w'=>∃ v,en = .returned v ∧ (v = (Value.agg (enc r).toArray) ∧ Kept (Old w0) w0 w')):=by
 refine ZD (n:=20) Tryz.func191 rfl rfl (nbl rfl) rfl ?_
 intro a hE
 have hM:=M.start w0
 unfold UL at hF
 refine Zc (ZY (cs:=enc p0) hE hM Za ld rfl rfl fun b1 w a hM hE=>ZY (cs:=enc p1) hE hM Za ld rfl rfl fun b3 w a hM hE=>ZE hE hM Za ld XG fun b5 w a hM hE=>Zf (Zc (XI (parts:=[]) (vs:=[]) (cs:=enc (Vector.replicate 256 (0 : UInt8))) hE Za ld rfl rfl XG rfl ty5 Y5 fun a hE=>ZE hE hM Za ld XG fun b7 w a hM hE=>Zo (seg:=enc (Vector.replicate 256 (0 : UInt8))) (cs':=enc (Vector.replicate 256 (0 : UInt8))) hE hM Za rfl rfl rfl XG (Flat.len _) (zle flq) (Flat.cell _) (Zl flq) fun w a hM hE=>Zf (wp_seq (Zc (Ze hE Za ld rfl fun a hE=>Zf ?_))))))
 obtain ⟨j9,hl10,hF11⟩:=bind_some hF
 refine ZP (fun a w=>Env 20 a [(4,(ptr b5 0)),(5,(ptr b7 0))] ∧ M (Old w0) w0 w [raw b7 (enc j9),raw b5 (enc (Vector.replicate 256 (0 : UInt8)))]) ?_ ?_
 ·skip
  refine wp_block ?_
  refine ZI (fun (s12 : (Vector UInt8 256) × Int) a w=>Env 20 a [(2,(ptr b1 0)),(3,(ptr b3 0)),(4,(ptr b5 0)),(5,(ptr b7 0)),(6,vI s12.2)] ∧ M (Old w0) w0 w [raw b7 (enc s12.1),raw b5 (enc (Vector.replicate 256 (0 : UInt8))),raw b3 (enc p1),raw b1 (enc p0)]) hl10 ⟨hE.sub ⟨rfl,rfl,rfl,rfl,rfl,trivial⟩,hM⟩ ?_
  rintro s12 a w ⟨hE,hM⟩ o15 hs13 hx14
  unfold Up at hs13
  refine wp_seq (Zc (Zd hE Za ld rfl fun a hE=>Zi hE Za ld rfl rfl rfl fun a hE=>Zf ?_))
  refine Zs hE rfl ?_ ?_
  ·intro hb16
   have hs13:=ZA hs13 hb16
   refine wp_skip (Zz (wp_seq (wp_block (wp_region_lit (Zd hE Za ld rfl fun a hE=>Zd hE Za ld rfl ?_))))); intro a hE
   obtain ⟨x18,hi17,hs13⟩:=bvx hs13
   refine Zr hE Za ld rfl rfl Tryz.underlying167 ty5 hi17.1 fun a hE=>Zp (v:=(vB x18)) hE Za ld rfl ty5 rfl (At.vec (hM.rawAt (pre:=[_,_,_])) hi17.2) ?_; intro a hE
   obtain ⟨x21,hi20,hs13⟩:=bvx hs13
   refine Zr hE Za ld rfl rfl Tryz.underlying167 ty5 hi20.1 fun a hE=>Zp (v:=(vB x21)) hE Za ld rfl ty5 rfl (At.vec (hM.rawAt (pre:=[_,_])) hi20.2) ?_; intro a hE
   obtain ⟨x24,hi23,hs13⟩:=bvx hs13
   refine Zr hE Za ld rfl rfl Tryz.underlying167 ty5 hi23.1 fun a hE=>Zo (seg:=[vB x21]) (cs':=enc (s12.1.setIfInBounds (s12.2).toNat x21)) hE hM Za rfl rfl rfl ty5 rfl (ZR (v:=s12.1) (x:=x21) hi23.1) (Flat.cell (x21 : UInt8)) (ZJ (v:=s12.1) (x:=x21) hi23.1) fun w a hM hE=>Zj (Yb (Zz (wp_region_lit (Zd hE Za ld rfl fun a hE=>Zi hE Za ld rfl rfl rfl fun a hE=>Ze hE Za ld rfl fun a hE=>Zj (Zn ?_)))))
   exact ⟨_,(ois hs13),hE.sub ⟨rfl,rfl,rfl,rfl,rfl,trivial⟩,hM⟩
  ·intro hb16
   have hs13:=ZB hs13 hb16
   refine wp_exit (Zq (Zq (Yf ?_)))
   have ht26:=hx14 _ (ois hs13)
   subst ht26
   refine Zn ?_
   have hM:=M.fst (l:=[_,_]) ((hM.pull (pre:=[_])).pull (pre:=[_]))
   exact ⟨hE.sub ⟨rfl,rfl,trivial⟩,hM⟩
 ·skip
  rintro a w ⟨hE,hM⟩
  refine Zz (Zc (Zm (cs:=enc j9) hE Za ld rfl XG rfl (hM.rawAt (pre:=[])) (Flat.len _) ?_)); intro a hE
  have hM:=hM.pull (pre:=[_])
  refine Zo (seg:=enc j9) (cs':=enc j9) hE hM Za rfl rfl rfl XG (Flat.len _) (zle flq) (Flat.cell _) (Zl flq) fun w a hM hE=>Zf ?_
  have hr:=Option.some.inj hF11
  subst hr
  have hq27 : Yw Tryz.prog _ _ (.cell 4 167) _:=ZO hE rfl XG rfl (hM.rawAt (pre:=[])) (Flat.len _) rfl
  have hM:=M.fst (l:=[]) hM
  exact wp_ret (Zy hE rfl hq27 ⟨_,rfl,rfl,hM.kept⟩)
def Tb (p0 : Int) (s4 : UInt8 × Int × UInt8) : Option (Fl (UInt8 × Int × UInt8) UInt8) :=
 if (decide (s4.2.1 > 0)) = true then (((if ((Int.tmod s4.2.1 2) == 1) = true then ((YW p0 s4.2.2 s4.1).bind fun r16=>some r16) else (some s4.2.2) : Option (UInt8)).bind fun j12=>(YW p0 s4.1 s4.1).bind fun r20=>some (r20,j12) : Option (UInt8 × UInt8)).bind fun j9=>some (Fl.nx (j9.1,wr (Int.tdiv s4.2.1 2),j9.2))) else (some (Fl.ex s4.2.2))
def W7 (p0 : Int) (p1 : UInt8) (p2 : Int) : Option (UInt8) :=
 (ZG (Tb p0) (p1,p2,1)).bind fun j1=>some j1
theorem HU (w0 : World) (p0 : Int) (p1 : UInt8) (p2 : Int) (r : UInt8) (hF : W7 p0 p1 p2 = some r) :
  Calls Tryz.prog 226 [vI p0,vB p1,vI p2].toArray w0 (fun en w'=>∃ v,en = .returned v ∧ (v = (vB r) ∧ Kept (Old w0) w0 w')):=by
 refine ZD (n:=24) Tryz.func226 rfl rfl (nbl rfl) rfl ?_
 intro a hE
 have hM:=M.start w0
 unfold W7 at hF
 refine Zc (Ze hE Za ld rfl fun a hE=>Zf (Zc (Ze hE Za ld rfl fun a hE=>Zf ?_)))
 obtain ⟨j1,hl2,hF3⟩:=bind_some hF
 refine ZS (fun a w=>Env 24 a [(7,vB j1)] ∧ M (Old w0) w0 w []) ?_ ?_
 ·skip
  refine wp_block ?_
  refine ZI (fun (s4 : UInt8 × Int × UInt8) a w=>Env 24 a [(0,vI p0),(1,vB s4.1),(2,vI s4.2.1),(7,vB s4.2.2)] ∧ M (Old w0) w0 w []) hl2 ⟨hE.sub ⟨rfl,rfl,rfl,rfl,trivial⟩,hM⟩ ?_
  rintro s4 a w ⟨hE,hM⟩ o7 hs5 hx6
  unfold Tb at hs5
  refine wp_seq (Zc (Zd hE Za ld rfl fun a hE=>Zi hE Za ld rfl rfl rfl fun a hE=>Zf ?_))
  refine Zs hE rfl ?_ ?_
  ·intro hb8
   have hs5:=ZA hs5 hb8
   refine wp_skip (Zz ?_)
   obtain ⟨j9,hl10,hF11⟩:=bind_some hs5
   refine ZS (fun a w=>Env 24 a [(0,vI p0),(1,vB j9.1),(2,vI s4.2.1),(7,vB j9.2)] ∧ M (Old w0) w0 w []) ?_ ?_
   ·skip
    refine wp_block ?_
    obtain ⟨j12,hl13,hF14⟩:=bind_some hl10
    refine ZS (fun a w=>Env 24 a [(0,vI p0),(1,vB s4.1),(2,vI s4.2.1),(7,vB j12)] ∧ M (Old w0) w0 w []) ?_ ?_
    ·skip
     refine Zc (Zd hE Za ld rfl fun a hE=>Zi hE Za ld rfl rfl (QH _ _ (by decide)) fun a hE=>Zi hE Za ld rfl rfl rfl fun a hE=>Zf ?_)
     refine Zs hE rfl ?_ ?_
     ·intro hb15
      have hl13:=ZA hl13 hb15
      refine wp_region_lit (Zd hE Za ld rfl fun a hE=>Zd hE Za ld rfl fun a hE=>Zd hE Za ld rfl ?_); intro a hE
      obtain ⟨r16,e17,hl13⟩:=bind_some hl13
      refine Zt hE Za ld rfl yh (Uk _ p0 s4.2.2 s4.1 r16 e17) ?_
      rintro v w a ⟨rfl,hK⟩ hE
      have hM:=hM.keep hK
      refine Ze hE Za ld rfl fun a hE=>Zj ?_
      have ht18:=Option.some.inj hl13
      subst ht18
      refine Zn ?_
      exact ⟨hE.sub ⟨rfl,rfl,rfl,rfl,trivial⟩,hM⟩
     ·intro hb15
      have hl13:=ZB hl13 hb15
      refine wp_skip ?_
      have ht19:=Option.some.inj hl13
      subst ht19
      refine Zn ?_
      exact ⟨hE.sub ⟨rfl,rfl,rfl,rfl,trivial⟩,hM⟩
    ·skip
     rintro a w ⟨hE,hM⟩
     refine wp_region_lit (Zd hE Za ld rfl fun a hE=>Zd hE Za ld rfl fun a hE=>Zd hE Za ld rfl ?_); intro a hE
     obtain ⟨r20,e21,hF14⟩:=bind_some hF14
     refine Zt hE Za ld rfl yh (Uk _ p0 s4.1 s4.1 r20 e21) ?_
     rintro v w a ⟨rfl,hK⟩ hE
     have hM:=hM.keep hK
     refine Ze hE Za ld rfl fun a hE=>Zj (Yb ?_)
     have ht22:=Option.some.inj hF14
     subst ht22
     refine Zn ?_
     exact ⟨hE.sub ⟨rfl,rfl,rfl,rfl,trivial⟩,hM⟩
   ·skip
    rintro a w ⟨hE,hM⟩
    refine wp_region_lit (Zd hE Za ld rfl fun a hE=>Zi hE Za ld rfl rfl (A9 _ _ (by decide)) fun a hE=>Ze hE Za ld rfl fun a hE=>Zj (Zn ?_))
    exact ⟨_,(ois hF11),hE.sub ⟨rfl,rfl,rfl,rfl,trivial⟩,hM⟩
  ·intro hb8
   have hs5:=ZB hs5 hb8
   refine wp_exit (Zq (Zq (Yf ?_)))
   have ht23:=hx6 _ (ois hs5)
   subst ht23
   refine Zn ?_
   exact ⟨hE.sub ⟨rfl,trivial⟩,hM⟩
 ·skip
  rintro a w ⟨hE,hM⟩
  refine Zc (Zd hE Za ld rfl fun a hE=>Ze hE Za ld rfl fun a hE=>Zf ?_)
  have hr:=Option.some.inj hF3
  subst hr
  exact wp_ret (Zy hE rfl (Zu hE rfl) ⟨_,rfl,rfl,hM.kept⟩)
def Vs (p0 : Int) (p1 : UInt8) : Option (UInt8) :=
 (W7 p0 p1 254).bind fun r1=>some r1
theorem Ad (w0 : World) (p0 : Int) (p1 : UInt8) (r : UInt8) (hF : Vs p0 p1 = some r) :
  Calls Tryz.prog 194 [vI p0,vB p1].toArray w0 (fun en w'=>∃ v,en = .returned v ∧ (v = (vB r) ∧ Kept (Old w0) w0 w')):=by
 refine ZD (n:=8) Tryz.func194 rfl rfl (nbl rfl) rfl ?_
 intro a hE
 have hM:=M.start w0
 unfold Vs at hF
 refine Zc (Ze hE Za ld rfl fun a hE=>Zf (Zc (Zd hE Za ld rfl fun a hE=>Zd hE Za ld rfl ?_))); intro a hE
 obtain ⟨r1,e2,hF⟩:=bind_some hF
 refine Zt hE Za ld rfl cb226 (HU _ p0 p1 254 r1 e2) ?_
 rintro v w a ⟨rfl,hK⟩ hE
 have hM:=hM.keep hK
 refine Ze hE Za ld rfl fun a hE=>Zf ?_
 have hr:=Option.some.inj hF
 subst hr
 exact wp_ret (Zy hE rfl (Zu hE rfl) ⟨_,rfl,rfl,hM.kept⟩)
def U8 (s16 : (Vector (Vector UInt8 4) 4) × Int) (s24 : (Vector (Vector UInt8 4) 4) × Int) : Option (Fl ((Vector (Vector UInt8 4) 4) × Int) (Vector (Vector UInt8 4) 4)) :=
 if (decide (s24.2 < 4)) = true then ((Vs 285 (ZC (Q0 s16.2 (wr (4 + s24.2))))).bind fun r30=>(ZM s24.1 s16.2).bind fun x33=>(ZM x33 s24.2).bind fun x36=>some (Fl.nx ((s24.1.setIfInBounds (s16.2).toNat (x33.setIfInBounds (s24.2).toNat r30)),wr (s24.2 + 1)))) else (some (Fl.ex s24.1))
def Tc (s16 : (Vector (Vector UInt8 4) 4) × Int) : Option (Fl ((Vector (Vector UInt8 4) 4) × Int) (Vector (Vector UInt8 4) 4)) :=
 if (decide (s16.2 < 4)) = true then ((ZG (U8 s16) (s16.1,0)).bind fun j21=>some (Fl.nx (j21,wr (s16.2 + 1)))) else (some (Fl.ex s16.1))
def U9 (s43 : (Vector UInt8 16) × Int) : Option (Fl ((Vector UInt8 16) × Int) (Vector UInt8 16)) :=
 if (decide (s43.2 < 16)) = true then ((ZM s43.1 s43.2).bind fun x49=>some (Fl.nx ((s43.1.setIfInBounds (s43.2).toNat (ZC (Int.tmod (wr ((wr (13 * s43.2)) + 4)) 16))),wr (s43.2 + 1)))) else (some (Fl.ex s43.1))
def Uf (p0 : Int) : Option (GCipher) :=
 (Um 285 254).bind fun r5=>(Wq ([0,1,4] : List Int) 90).bind fun r9=>(UL r5 r9).bind fun r11=>(ZG (Tc) ((Vector.replicate 4 (Vector.replicate 4 (0 : UInt8))),0)).bind fun j13=>(ZG (U9) ((Vector.replicate 16 (0 : UInt8)),0)).bind fun j40=>some (⟨285,r11,j13,j40,p0⟩ : GCipher)
theorem HL (w0 : World) (p0 : Int) (r : GCipher) (hF : Uf p0 = some r) :
  Calls Tryz.prog 154 [vI p0].toArray w0 (fun en w'=>∃ v,en = .returned v ∧ (v = (Value.agg (enc r).toArray) ∧ Kept (Old w0) w0 w')):=by
 refine ZD (n:=46) Tryz.func154 rfl rfl (nbl rfl) rfl ?_
 intro a hE
 have hM:=M.start w0
 unfold Uf at hF
 refine Zc (ZE hE hM Za ld V4 fun b1 w a hM hE=>Zf (Zc (Zd hE Za ld rfl fun a hE=>XO (parts:=[(0,.const (vI 285)),(4,.tmp 7)]) (vs:=[(0,vI 285),(4,vI p0)]) (cs:=cat [[vI 285],enc (Vector.replicate 256 (0 : UInt8)),enc (Vector.replicate 4 (Vector.replicate 4 (0 : UInt8))),enc (Vector.replicate 16 (0 : UInt8)),[vI p0]]) hE Za ld rfl rfl V4 pl173 (Yt (pre:=[]) (seg:=[vI 0]) (seg':=[vI 285]) (post:=[enc (Vector.replicate 256 (0 : UInt8)),enc (Vector.replicate 4 (Vector.replicate 4 (0 : UInt8))),enc (Vector.replicate 16 (0 : UInt8)),[vI 0]]) rfl cl0 rfl rfl rfl (Yt (pre:=[[vI 285],enc (Vector.replicate 256 (0 : UInt8)),enc (Vector.replicate 4 (Vector.replicate 4 (0 : UInt8))),enc (Vector.replicate 16 (0 : UInt8))]) (seg:=[vI 0]) (seg':=[vI p0]) (post:=[]) rfl (cl1 (n:=1) (m:=288) rfl (cl1 (n:=256) (m:=32) (Flat.len _) (cl1 (n:=16) (m:=16) (Flat.len _) (cl1 (n:=16) (m:=0) (Flat.len _) cl0)))) rfl rfl rfl VU)) fun a hE=>ZE hE hM Za ld V4 fun b3 w a hM hE=>Zo (seg:=cat [[vI 285],enc (Vector.replicate 256 (0 : UInt8)),enc (Vector.replicate 4 (Vector.replicate 4 (0 : UInt8))),enc (Vector.replicate 16 (0 : UInt8)),[vI p0]]) (cs':=cat [[vI 285],enc (Vector.replicate 256 (0 : UInt8)),enc (Vector.replicate 4 (Vector.replicate 4 (0 : UInt8))),enc (Vector.replicate 16 (0 : UInt8)),[vI p0]]) hE hM Za rfl rfl rfl V4 (Zh (cl1 (n:=1) (m:=289) rfl (cl1 (n:=256) (m:=33) (Flat.len _) (cl1 (n:=16) (m:=17) (Flat.len _) (cl1 (n:=16) (m:=1) (Flat.len _) (cl1 (n:=1) (m:=0) rfl cl0)))))) (Nat.le_of_eq ((Nat.zero_add _).trans (Eq.trans (Zh (cl1 (n:=1) (m:=289) rfl (cl1 (n:=256) (m:=33) (Flat.len _) (cl1 (n:=16) (m:=17) (Flat.len _) (cl1 (n:=16) (m:=1) (Flat.len _) (cl1 (n:=1) (m:=0) rfl cl0)))))) (Eq.symm (Zh (cl1 (n:=1) (m:=289) rfl (cl1 (n:=256) (m:=33) (Flat.len _) (cl1 (n:=16) (m:=17) (Flat.len _) (cl1 (n:=16) (m:=1) (Flat.len _) (cl1 (n:=1) (m:=0) rfl cl0)))))))))) (Z5 (cc1 (Flat.cell (285 : Int)) (cc1 (Flat.cell _) (cc1 (Flat.cell _) (cc1 (Flat.cell _) (cc1 (Flat.cell (p0 : Int)) cc0)))))) (Zl (Eq.trans (Zh (cl1 (n:=1) (m:=289) rfl (cl1 (n:=256) (m:=33) (Flat.len _) (cl1 (n:=16) (m:=17) (Flat.len _) (cl1 (n:=16) (m:=1) (Flat.len _) (cl1 (n:=1) (m:=0) rfl cl0)))))) (Eq.symm (Zh (cl1 (n:=1) (m:=289) rfl (cl1 (n:=256) (m:=33) (Flat.len _) (cl1 (n:=16) (m:=17) (Flat.len _) (cl1 (n:=16) (m:=1) (Flat.len _) (cl1 (n:=1) (m:=0) rfl cl0))))))))) fun w a hM hE=>Zf (Zc ?_))))
 obtain ⟨r5,e6,hF⟩:=bind_some hF
 refine Zt hE Za ld rfl cb192 (HZ _ 285 254 r5 e6) ?_
 rintro v w a ⟨rfl,hK⟩ hE
 have hM:=hM.keep hK
 refine Yk (xs:=[.const (vI 0),.const (vI 1),.const (vI 4)]) (l:=([0,1,4] : List Int)) (vs:=[vI 0,vI 1,vI 4]) hE hM Za ld rfl rfl Tryz.underlying43 ty2 rfl (by decide) rfl ?_; intro u7 w a hM hE
 obtain ⟨r9,e10,hF⟩:=bind_some hF
 refine Zt hE Za ld rfl cb193 (KR _ ([0,1,4] : List Int) u7 (hM.sl (pre:=[]) noB) 90 r9 e10) ?_
 rintro v w a ⟨rfl,hK⟩ hE
 have hM:=hM.keep hK
 obtain ⟨r11,e12,hF⟩:=bind_some hF
 refine Zt hE Za ld rfl cb191 (BM _ r5 r9 r11 e12) ?_
 rintro v w a ⟨rfl,hK⟩ hE
 have hM:=hM.keep hK
 refine Zg hE Za ld rfl (KO) ?_; intro a hE
 have hM:=hM.pull (pre:=[_])
 refine Zo (seg:=enc r11) hE hM Za rfl rfl rfl XG (Flat.len _) (YO (pre:=[[vI 285]]) (cl1 (n:=1) (m:=0) rfl cl0) flq) (Flat.cell _) (ZX (pre:=[[vI 285]]) (cl1 (n:=1) (m:=0) rfl cl0) flq) fun w a hM hE=>Zf (wp_seq (Zc (Ze hE Za ld rfl fun a hE=>Zf ?_)))
 obtain ⟨j13,hl14,hF15⟩:=bind_some hF
 refine ZP (fun a w=>Env 46 a [(2,(ptr b1 0)),(3,(ptr b3 0))] ∧ M (Old w0) w0 w [raw b3 (cat [[vI 285],enc r11,enc j13,enc (Vector.replicate 16 (0 : UInt8)),[vI p0]]),raw b1 (cat [[vI 0],enc (Vector.replicate 256 (0 : UInt8)),enc (Vector.replicate 4 (Vector.replicate 4 (0 : UInt8))),enc (Vector.replicate 16 (0 : UInt8)),[vI 0]])]) ?_ ?_
 ·skip
  refine wp_block ?_
  have hM:=M.fst (l:=[_,_]) ((hM.pull (pre:=[_,_])).pull (pre:=[_]))
  refine ZI (fun (s16 : (Vector (Vector UInt8 4) 4) × Int) a w=>Env 46 a [(2,(ptr b1 0)),(3,(ptr b3 0)),(4,vI s16.2)] ∧ M (Old w0) w0 w [raw b3 (cat [[vI 285],enc r11,enc s16.1,enc (Vector.replicate 16 (0 : UInt8)),[vI p0]]),raw b1 (cat [[vI 0],enc (Vector.replicate 256 (0 : UInt8)),enc (Vector.replicate 4 (Vector.replicate 4 (0 : UInt8))),enc (Vector.replicate 16 (0 : UInt8)),[vI 0]])]) hl14 ⟨hE.sub ⟨rfl,rfl,rfl,trivial⟩,hM⟩ ?_
  rintro s16 a w ⟨hE,hM⟩ o19 hs17 hx18
  unfold Tc at hs17
  refine wp_seq (Zc (Zd hE Za ld rfl fun a hE=>Zi hE Za ld rfl rfl rfl fun a hE=>Zf ?_))
  refine Zs hE rfl ?_ ?_
  ·intro hb20
   have hs17:=ZA hs17 hb20
   refine wp_skip (Zz (wp_seq (wp_block (Zc (Ze hE Za ld rfl fun a hE=>Zf ?_)))))
   obtain ⟨j21,hl22,hF23⟩:=bind_some hs17
   refine ZP (fun a w=>Env 46 a [(2,(ptr b1 0)),(3,(ptr b3 0)),(4,vI s16.2)] ∧ M (Old w0) w0 w [raw b3 (cat [[vI 285],enc r11,enc j21,enc (Vector.replicate 16 (0 : UInt8)),[vI p0]]),raw b1 (cat [[vI 0],enc (Vector.replicate 256 (0 : UInt8)),enc (Vector.replicate 4 (Vector.replicate 4 (0 : UInt8))),enc (Vector.replicate 16 (0 : UInt8)),[vI 0]])]) ?_ ?_
   ·skip
    refine wp_block ?_
    refine ZI (fun (s24 : (Vector (Vector UInt8 4) 4) × Int) a w=>Env 46 a [(2,(ptr b1 0)),(3,(ptr b3 0)),(4,vI s16.2),(5,vI s24.2)] ∧ M (Old w0) w0 w [raw b3 (cat [[vI 285],enc r11,enc s24.1,enc (Vector.replicate 16 (0 : UInt8)),[vI p0]]),raw b1 (cat [[vI 0],enc (Vector.replicate 256 (0 : UInt8)),enc (Vector.replicate 4 (Vector.replicate 4 (0 : UInt8))),enc (Vector.replicate 16 (0 : UInt8)),[vI 0]])]) hl22 ⟨hE.sub ⟨rfl,rfl,rfl,rfl,trivial⟩,hM⟩ ?_
    rintro s24 a w ⟨hE,hM⟩ o27 hs25 hx26
    unfold U8 at hs25
    refine wp_seq (Zc (Zd hE Za ld rfl fun a hE=>Zi hE Za ld rfl rfl rfl fun a hE=>Zf ?_))
    refine Zs hE rfl ?_ ?_
    ·intro hb28
     have hs25:=ZA hs25 hb28
     refine wp_skip (Zz (wp_seq (wp_block ?_)))
     obtain ⟨r30,e31,hs25⟩:=bind_some hs25
     obtain ⟨x33,hi32,hs25⟩:=bvx hs25
     obtain ⟨x36,hi35,hs25⟩:=bvx hs25
     refine YC (n:=46) (hd:=[_,_,_,_,_,_,_,_,_,_,_]) (tl:=[_]) Y0 rfl rfl [22,23,24,25,26,27,28,29,30,31,32] (by decide) (fun w=>M (Old w0) w0 w [raw b3 (cat [[vI 285],enc r11,enc s24.1,enc (Vector.replicate 16 (0 : UInt8)),[vI p0]]),raw b1 (cat [[vI 0],enc (Vector.replicate 256 (0 : UInt8)),enc (Vector.replicate 4 (Vector.replicate 4 (0 : UInt8))),enc (Vector.replicate 16 (0 : UInt8)),[vI 0]])]) (fun j=>([fun v _=>v = (vI s16.2),fun v _=>v = (vI s24.2),fun v _=>v = (vI s16.2),fun v _=>v = (vI s24.2),fun v _=>v = (vI (wr (4 + s24.2))),fun v _=>v = (vI (Q0 s16.2 (wr (4 + s24.2)))),fun v _=>v = (vB (ZC (Q0 s16.2 (wr (4 + s24.2))))),fun v _=>v = (vB r30),fun v _=>v = (ptr b3 (0 + 257)),fun v _=>v = (ptr b3 (0 + 257 + (s16.2).toNat * 4)),fun v _=>v = (ptr b3 (0 + 257 + (s16.2).toNat * 4 + (s24.2).toNat * 1))] : List (Value → World → Prop)).getD j (fun _ _=>True)) (fun _ _ h hk=>h.keep hk) (gup (Zk (Zk (Zk (Zk (Zk (Zk (Zk (Zk (Zk (Zk (Zk V1)))))))))))) hE hM.drew (ZK (Zb ?_ (Zb ?_ (Zb ?_ (Zb ?_ (Zb ?_ (Zb ?_ (Zb ?_ (Zb ?_ (Zb ?_ (Zb ?_ (Zb ?_ ZF)))))))))))) ?_
     ·exact fun a w ux29 hE hM hp=>Zd hE Za ld rfl fun a hE=>⟨Kept.refl _ _,_,_,rfl,hE,rfl⟩
     ·exact fun a w ux29 hE hM hp=>Zd hE Za ld rfl fun a hE=>⟨Kept.refl _ _,_,_,rfl,hE,rfl⟩
     ·exact fun a w ux29 hE hM hp=>Zd hE Za ld rfl fun a hE=>⟨Kept.refl _ _,_,_,rfl,hE,rfl⟩
     ·exact fun a w ux29 hE hM hp=>Zd hE Za ld rfl fun a hE=>⟨Kept.refl _ _,_,_,rfl,hE,rfl⟩
     ·intro a w ux29 hE hM hp
      have f3 : ux29 3 = (vI s24.2):=hp 0 _ rfl rfl
      exact Zi hE Za ld rfl (lk rfl f3) rfl fun a hE=>⟨Kept.refl _ _,_,_,rfl,hE,rfl⟩
     ·intro a w ux29 hE hM hp
      have f2 : ux29 2 = (vI s16.2):=hp 0 _ rfl rfl
      have f4 : ux29 4 = (vI (wr (4 + s24.2))):=hp 1 _ rfl rfl
      exact Zi hE Za ld (lk rfl f2) (lk rfl f4) rfl fun a hE=>⟨Kept.refl _ _,_,_,rfl,hE,rfl⟩
     ·intro a w ux29 hE hM hp
      have f5 : ux29 5 = (vI (Q0 s16.2 (wr (4 + s24.2)))):=hp 0 _ rfl rfl
      refine Yz hE Za ld (lk rfl f5) Tryz.underlying3 Tryz.underlying5 ?_; intro a hE
      rw [ZW] at hE
      exact ⟨Kept.refl _ _,_,_,rfl,hE,rfl⟩
     ·intro a w ux29 hE hM hp
      have f6 : ux29 6 = (vB (ZC (Q0 s16.2 (wr (4 + s24.2))))):=hp 0 _ rfl rfl
      refine Zt hE Za ld (ZV (ZT rfl (ZT (lk rfl f6) YZ))) cb194 (Ad _ 285 (ZC (Q0 s16.2 (wr (4 + s24.2)))) r30 e31) ?_
      rintro v w a ⟨rfl,hK⟩ hE
      exact ⟨hK,_,_,rfl,hE,rfl⟩
     ·exact fun a w ux29 hE hM hp=>Zg hE Za ld rfl (JS) fun a hE=>⟨Kept.refl _ _,_,_,rfl,hE,rfl⟩
     ·intro a w ux29 hE hM hp
      have f0 : ux29 0 = (vI s16.2):=hp 1 _ rfl rfl
      have f8 : ux29 8 = (ptr b3 (0 + 257)):=hp 0 _ rfl rfl
      exact Zr hE Za ld (lk rfl f8) (lk rfl f0) Tryz.underlying170 XC hi32.1 fun a hE=>⟨Kept.refl _ _,_,_,rfl,hE,rfl⟩
     ·intro a w ux29 hE hM hp
      have f1 : ux29 1 = (vI s24.2):=hp 1 _ rfl rfl
      have f9 : ux29 9 = (ptr b3 (0 + 257 + (s16.2).toNat * 4)):=hp 0 _ rfl rfl
      exact Zr hE Za ld (lk rfl f9) (lk rfl f1) Tryz.underlying168 ty5 hi35.1 fun a hE=>⟨Kept.refl _ _,_,_,rfl,hE,rfl⟩
     ·intro a w ux29 hE hM hg
      have hE:=hE.sub (e':=[(29,vB r30),(32,(ptr b3 (0 + 257 + (s16.2).toNat * 4 + (s24.2).toNat * 1))),(2,(ptr b1 0)),(3,(ptr b3 0)),(4,vI s16.2),(5,vI s24.2),(18,vI s24.2),(19,(vT (decide (s24.2 < 4))))]) ⟨lk rfl (hg 7 (by decide)),lk rfl (hg 10 (by decide)),rfl,rfl,rfl,rfl,rfl,rfl,trivial⟩
      refine Zo (seg:=[vB r30]) (cs':=cat [[vI 285],enc r11,enc (s24.1.setIfInBounds (s16.2).toNat (x33.setIfInBounds (s24.2).toNat r30)),enc (Vector.replicate 16 (0 : UInt8)),[vI p0]]) hE hM Za rfl rfl rfl ty5 rfl (KG (o':=(s16.2).toNat * 4 + (0 + (s24.2).toNat * 1)) (pre:=[[vI 285],enc r11]) (seg:=enc s24.1) (post:=[enc (Vector.replicate 16 (0 : UInt8)),[vI p0]]) (cl1 (n:=1) (m:=256) rfl (cl1 (n:=256) (m:=0) (Flat.len _) cl0)) (Ui (o':=0 + (s24.2).toNat * 1) hi32 (ZR (v:=x33) (x:=r30) hi35.1) (by first | omega | (simp only [Flat.n] <;> omega))) (by first | omega | (simp only [Flat.n] <;> omega))) (Flat.cell (r30 : UInt8)) (V3 (o':=(s16.2).toNat * 4 + (0 + (s24.2).toNat * 1)) (pre:=[[vI 285],enc r11]) (seg:=enc s24.1) (post:=[enc (Vector.replicate 16 (0 : UInt8)),[vI p0]]) (cl1 (n:=1) (m:=256) rfl (cl1 (n:=256) (m:=0) (Flat.len _) cl0)) (Ui (o':=0 + (s24.2).toNat * 1) hi32 (ZR (v:=x33) (x:=r30) hi35.1) (by first | omega | (simp only [Flat.n] <;> omega))) (Vn (o':=0 + (s24.2).toNat * 1) hi32 (ZR (v:=x33) (x:=r30) hi35.1) (ZJ (v:=x33) (x:=r30) hi35.1) (by first | omega | (simp only [Flat.n] <;> omega))) (by first | omega | (simp only [Flat.n] <;> omega))) fun w a hM hE=>Zj (Yb (Zz (wp_region_lit (Zd hE Za ld rfl fun a hE=>Zi hE Za ld rfl rfl rfl fun a hE=>Ze hE Za ld rfl fun a hE=>Zj (Zn ?_)))))
      exact ⟨_,(ois hs25),hE.sub ⟨rfl,rfl,rfl,rfl,trivial⟩,hM⟩
    ·intro hb28
     have hs25:=ZB hs25 hb28
     refine wp_exit (Zq (Zq (Yf ?_)))
     have ht38:=hx26 _ (ois hs25)
     subst ht38
     refine Zn ?_
     exact ⟨hE.sub ⟨rfl,rfl,rfl,trivial⟩,hM⟩
   ·skip
    rintro a w ⟨hE,hM⟩
    refine Yb (Zz (wp_region_lit (Zd hE Za ld rfl fun a hE=>Zi hE Za ld rfl rfl rfl fun a hE=>Ze hE Za ld rfl fun a hE=>Zj (Zn ?_))))
    exact ⟨_,(ois hF23),hE.sub ⟨rfl,rfl,rfl,trivial⟩,hM⟩
  ·intro hb20
   have hs17:=ZB hs17 hb20
   refine wp_exit (Zq (Zq (Yf ?_)))
   have ht39:=hx18 _ (ois hs17)
   subst ht39
   refine Zn ?_
   exact ⟨hE.sub ⟨rfl,rfl,trivial⟩,hM⟩
 ·skip
  rintro a w ⟨hE,hM⟩
  refine Zz (wp_seq (Zc (Ze hE Za ld rfl fun a hE=>Zf ?_)))
  obtain ⟨j40,hl41,hF42⟩:=bind_some hF15
  refine ZP (fun a w=>Env 46 a [(2,(ptr b1 0)),(3,(ptr b3 0))] ∧ M (Old w0) w0 w [raw b3 (cat [[vI 285],enc r11,enc j13,enc j40,[vI p0]]),raw b1 (cat [[vI 0],enc (Vector.replicate 256 (0 : UInt8)),enc (Vector.replicate 4 (Vector.replicate 4 (0 : UInt8))),enc (Vector.replicate 16 (0 : UInt8)),[vI 0]])]) ?_ ?_
  ·skip
   refine wp_block ?_
   refine ZI (fun (s43 : (Vector UInt8 16) × Int) a w=>Env 46 a [(2,(ptr b1 0)),(3,(ptr b3 0)),(6,vI s43.2)] ∧ M (Old w0) w0 w [raw b3 (cat [[vI 285],enc r11,enc j13,enc s43.1,[vI p0]]),raw b1 (cat [[vI 0],enc (Vector.replicate 256 (0 : UInt8)),enc (Vector.replicate 4 (Vector.replicate 4 (0 : UInt8))),enc (Vector.replicate 16 (0 : UInt8)),[vI 0]])]) hl41 ⟨hE.sub ⟨rfl,rfl,rfl,trivial⟩,hM⟩ ?_
   rintro s43 a w ⟨hE,hM⟩ o46 hs44 hx45
   unfold U9 at hs44
   refine wp_seq (Zc (Zd hE Za ld rfl fun a hE=>Zi hE Za ld rfl rfl rfl fun a hE=>Zf ?_))
   refine Zs hE rfl ?_ ?_
   ·intro hb47
    have hs44:=ZA hs44 hb47
    refine wp_skip (Zz (wp_seq (wp_block (wp_region_lit (Zd hE Za ld rfl fun a hE=>Zd hE Za ld rfl fun a hE=>Zi hE Za ld rfl rfl rfl fun a hE=>Zi hE Za ld rfl rfl rfl fun a hE=>Zi hE Za ld rfl rfl (QH _ _ (by decide)) fun a hE=>Yz hE Za ld rfl Tryz.underlying3 Tryz.underlying5 ?_))))); intro a hE
    rw [ZW] at hE
    refine Zg hE Za ld rfl (JD) ?_; intro a hE
    obtain ⟨x49,hi48,hs44⟩:=bvx hs44
    refine Zr hE Za ld rfl rfl Tryz.underlying171 ty5 hi48.1 fun a hE=>Zo (seg:=[(vB (ZC (Int.tmod (wr ((wr (13 * s43.2)) + 4)) 16)))]) (cs':=cat [[vI 285],enc r11,enc j13,enc (s43.1.setIfInBounds (s43.2).toNat (ZC (Int.tmod (wr ((wr (13 * s43.2)) + 4)) 16))),[vI p0]]) hE hM Za rfl rfl rfl ty5 rfl (KG (o':=0 + (s43.2).toNat * 1) (pre:=[[vI 285],enc r11,enc j13]) (seg:=enc s43.1) (post:=[[vI p0]]) (cl1 (n:=1) (m:=272) rfl (cl1 (n:=256) (m:=16) (Flat.len _) (cl1 (n:=16) (m:=0) (Flat.len _) cl0))) (ZR (v:=s43.1) (x:=ZC (Int.tmod (wr ((wr (13 * s43.2)) + 4)) 16)) hi48.1) (by first | omega | (simp only [Flat.n] <;> omega))) (Flat.cell (ZC (Int.tmod (wr ((wr (13 * s43.2)) + 4)) 16) : UInt8)) (V3 (o':=0 + (s43.2).toNat * 1) (pre:=[[vI 285],enc r11,enc j13]) (seg:=enc s43.1) (post:=[[vI p0]]) (cl1 (n:=1) (m:=272) rfl (cl1 (n:=256) (m:=16) (Flat.len _) (cl1 (n:=16) (m:=0) (Flat.len _) cl0))) (ZR (v:=s43.1) (x:=ZC (Int.tmod (wr ((wr (13 * s43.2)) + 4)) 16)) hi48.1) (ZJ (v:=s43.1) (x:=ZC (Int.tmod (wr ((wr (13 * s43.2)) + 4)) 16)) hi48.1) (by first | omega | (simp only [Flat.n] <;> omega))) fun w a hM hE=>Zj (Yb (Zz (wp_region_lit (Zd hE Za ld rfl fun a hE=>Zi hE Za ld rfl rfl rfl fun a hE=>Ze hE Za ld rfl fun a hE=>Zj (Zn ?_)))))
    exact ⟨_,(ois hs44),hE.sub ⟨rfl,rfl,rfl,trivial⟩,hM⟩
   ·intro hb47
    have hs44:=ZB hs44 hb47
    refine wp_exit (Zq (Zq (Yf ?_)))
    have ht51:=hx45 _ (ois hs44)
    subst ht51
    refine Zn ?_
    exact ⟨hE.sub ⟨rfl,rfl,trivial⟩,hM⟩
  ·skip
   rintro a w ⟨hE,hM⟩
   refine Zz (Zc (Zm (cs:=enc (⟨285,r11,j13,j40,p0⟩ : GCipher)) hE Za ld rfl V4 rfl (hM.rawAt (pre:=[])) (Zh (cl1 (n:=1) (m:=289) rfl (cl1 (n:=256) (m:=33) (Flat.len _) (cl1 (n:=16) (m:=17) (Flat.len _) (cl1 (n:=16) (m:=1) (Flat.len _) (cl1 (n:=1) (m:=0) rfl cl0)))))) ?_)); intro a hE
   have hM:=hM.pull (pre:=[_])
   refine Zo (seg:=cat [[(vI ((⟨285,r11,j13,j40,p0⟩ : GCipher).Field))],enc ((⟨285,r11,j13,j40,p0⟩ : GCipher).Box),enc ((⟨285,r11,j13,j40,p0⟩ : GCipher).Mix),enc ((⟨285,r11,j13,j40,p0⟩ : GCipher).Places),[(vI ((⟨285,r11,j13,j40,p0⟩ : GCipher).Rounds))]]) (cs':=cat [[(vI ((⟨285,r11,j13,j40,p0⟩ : GCipher).Field))],enc ((⟨285,r11,j13,j40,p0⟩ : GCipher).Box),enc ((⟨285,r11,j13,j40,p0⟩ : GCipher).Mix),enc ((⟨285,r11,j13,j40,p0⟩ : GCipher).Places),[(vI ((⟨285,r11,j13,j40,p0⟩ : GCipher).Rounds))]]) hE hM Za rfl rfl rfl V4 (Zh (cl1 (n:=1) (m:=289) rfl (cl1 (n:=256) (m:=33) (Flat.len _) (cl1 (n:=16) (m:=17) (Flat.len _) (cl1 (n:=16) (m:=1) (Flat.len _) (cl1 (n:=1) (m:=0) rfl cl0)))))) (Nat.le_of_eq ((Nat.zero_add _).trans (Eq.trans (Zh (cl1 (n:=1) (m:=289) rfl (cl1 (n:=256) (m:=33) (Flat.len _) (cl1 (n:=16) (m:=17) (Flat.len _) (cl1 (n:=16) (m:=1) (Flat.len _) (cl1 (n:=1) (m:=0) rfl cl0)))))) (Eq.symm (Zh (cl1 (n:=1) (m:=289) rfl (cl1 (n:=256) (m:=33) (Flat.len _) (cl1 (n:=16) (m:=17) (Flat.len _) (cl1 (n:=16) (m:=1) (Flat.len _) (cl1 (n:=1) (m:=0) rfl cl0)))))))))) (Z5 (cc1 (Flat.cell ((⟨285,r11,j13,j40,p0⟩ : GCipher).Field : Int)) (cc1 (Flat.cell _) (cc1 (Flat.cell _) (cc1 (Flat.cell _) (cc1 (Flat.cell ((⟨285,r11,j13,j40,p0⟩ : GCipher).Rounds : Int)) cc0)))))) (Zl (Eq.trans (Zh (cl1 (n:=1) (m:=289) rfl (cl1 (n:=256) (m:=33) (Flat.len _) (cl1 (n:=16) (m:=17) (Flat.len _) (cl1 (n:=16) (m:=1) (Flat.len _) (cl1 (n:=1) (m:=0) rfl cl0)))))) (Eq.symm (Zh (cl1 (n:=1) (m:=289) rfl (cl1 (n:=256) (m:=33) (Flat.len _) (cl1 (n:=16) (m:=17) (Flat.len _) (cl1 (n:=16) (m:=1) (Flat.len _) (cl1 (n:=1) (m:=0) rfl cl0))))))))) fun w a hM hE=>Zf ?_
   have hr:=Option.some.inj hF42
   subst hr
   have hq52 : Yw Tryz.prog _ _ (.cell 2 173) _:=ZO hE rfl V4 rfl (hM.rawAt (pre:=[])) (Zh (cl1 (n:=1) (m:=289) rfl (cl1 (n:=256) (m:=33) (Flat.len _) (cl1 (n:=16) (m:=17) (Flat.len _) (cl1 (n:=16) (m:=1) (Flat.len _) (cl1 (n:=1) (m:=0) rfl cl0)))))) rfl
   have hM:=M.fst (l:=[]) hM
   exact wp_ret (Zy hE rfl hq52 ⟨_,rfl,rfl,hM.kept⟩)
def WE : Option (GCipher) :=
 (Uf 4).bind fun r3=>some r3
theorem QS (w0 : World)  (r : GCipher) (hF : WE  = some r) :
  Calls Tryz.prog 133 [].toArray w0 (fun en w'=>∃ v,en = .returned v ∧ (v = (Value.agg (enc r).toArray) ∧ Kept (Old w0) w0 w')):=by
 refine ZD (n:=2) Tryz.func133 rfl rfl (nbl rfl) rfl ?_
 intro a hE
 have hM:=M.start w0
 unfold WE at hF
 refine Zc (ZE hE hM Za ld V4 fun b1 w a hM hE=>Zf (Zc ?_))
 obtain ⟨r3,e4,hF⟩:=bind_some hF
 refine Zt hE Za ld rfl cb154 (HL _ 4 r3 e4) ?_
 rintro v w a ⟨rfl,hK⟩ hE
 have hM:=hM.keep hK
 refine Zo (seg:=cat [[vI r3.Field],enc r3.Box,enc r3.Mix,enc r3.Places,[vI r3.Rounds]]) (cs':=cat [[vI r3.Field],enc r3.Box,enc r3.Mix,enc r3.Places,[vI r3.Rounds]]) hE hM Za rfl rfl rfl V4 (Zh (cl1 (n:=1) (m:=289) rfl (cl1 (n:=256) (m:=33) (Flat.len _) (cl1 (n:=16) (m:=17) (Flat.len _) (cl1 (n:=16) (m:=1) (Flat.len _) (cl1 (n:=1) (m:=0) rfl cl0)))))) (Nat.le_of_eq ((Nat.zero_add _).trans (Eq.trans (Zh (cl1 (n:=1) (m:=289) rfl (cl1 (n:=256) (m:=33) (Flat.len _) (cl1 (n:=16) (m:=17) (Flat.len _) (cl1 (n:=16) (m:=1) (Flat.len _) (cl1 (n:=1) (m:=0) rfl cl0)))))) (Eq.symm (Zh (cl1 (n:=1) (m:=289) rfl (cl1 (n:=256) (m:=33) (Flat.len _) (cl1 (n:=16) (m:=17) (Flat.len _) (cl1 (n:=16) (m:=1) (Flat.len _) (cl1 (n:=1) (m:=0) rfl cl0)))))))))) (Z5 (cc1 (Flat.cell (r3.Field : Int)) (cc1 (Flat.cell _) (cc1 (Flat.cell _) (cc1 (Flat.cell _) (cc1 (Flat.cell (r3.Rounds : Int)) cc0)))))) (Zl (Eq.trans (Zh (cl1 (n:=1) (m:=289) rfl (cl1 (n:=256) (m:=33) (Flat.len _) (cl1 (n:=16) (m:=17) (Flat.len _) (cl1 (n:=16) (m:=1) (Flat.len _) (cl1 (n:=1) (m:=0) rfl cl0)))))) (Eq.symm (Zh (cl1 (n:=1) (m:=289) rfl (cl1 (n:=256) (m:=33) (Flat.len _) (cl1 (n:=16) (m:=17) (Flat.len _) (cl1 (n:=16) (m:=1) (Flat.len _) (cl1 (n:=1) (m:=0) rfl cl0))))))))) fun w a hM hE=>Zf ?_
 have hr:=Option.some.inj hF
 subst hr
 have hq5 : Yw Tryz.prog _ _ (.cell 0 173) _:=ZO hE rfl V4 rfl (hM.rawAt (pre:=[])) (Zh (cl1 (n:=1) (m:=289) rfl (cl1 (n:=256) (m:=33) (Flat.len _) (cl1 (n:=16) (m:=17) (Flat.len _) (cl1 (n:=16) (m:=1) (Flat.len _) (cl1 (n:=1) (m:=0) rfl cl0)))))) rfl
 have hM:=M.fst (l:=[]) hM
 exact wp_ret (Zy hE rfl hq5 ⟨_,rfl,rfl,hM.kept⟩)
def TS (s16 : (List UInt8)) : Option (Fl (List UInt8) (List UInt8)) :=
 if ((Int.tmod (s16.length : Int) 16) != 8) = true then ((app 1 s16 ([0] : List UInt8)).bind fun l25=>some (Fl.nx (s16 ++ ([0] : List UInt8)))) else (some (Fl.ex s16))
def VS (p0 : (List UInt8)) (s36 : (List UInt8) × Int) : Option (Fl ((List UInt8) × Int) (List UInt8)) :=
 if (decide (s36.2 ≥ 0)) = true then ((XS (IntKind.u64.wrap (wr (8 * s36.2)))).bind fun _=>(app 1 s36.1 ([ZC (Qi (Tj (p0.length : Int) (IntKind.u64.wrap (wr (8 * s36.2)))) 255)] : List UInt8)).bind fun l46=>some (Fl.nx ((s36.1 ++ ([ZC (Qi (Tj (p0.length : Int) (IntKind.u64.wrap (wr (8 * s36.2)))) 255)] : List UInt8)),wr (s36.2 - 1)))) else (some (Fl.ex s36.1))
def To (p0 : (List UInt8)) : Option ((List UInt8)) :=
 (WQ p0).bind fun r1=>(app 1 r1 ([128] : List UInt8)).bind fun l6=>(ZG (TS) (r1 ++ ([128] : List UInt8))).bind fun j11=>(ZG (VS p0) (j11,7)).bind fun j31=>some j31
theorem Ah (w0 : World) (p0 : (List UInt8)) (v0_1 : Value) (hv0_1 : Ro w0 p0 [v0_1]) (r : (List UInt8)) (hF : To p0 = some r) :
  Calls Tryz.prog 188 [v0_1].toArray w0 (fun en w'=>∃ v,en = .returned v ∧ (∃ (y1 : Value),v = y1 ∧ Fr w0 w' [osl NoB (r : List UInt8) y1] ∧ Kept (Old w0) w0 w')):=by
 refine ZD (n:=32) Tryz.func188 rfl rfl (nbl rfl) rfl ?_
 intro a hE
 have hM:=M.start w0
 unfold To at hF
 refine Zc (Ze hE Za ld rfl fun a hE=>Zf (Zc (Zd hE Za ld rfl ?_))); intro a hE
 obtain ⟨r1,e2,hF⟩:=bind_some hF
 refine Zt hE Za ld rfl cb95 (Qn _ p0 v0_1 (hM.rdo hv0_1) r1 e2) ?_
 rintro u3 w a ⟨_,rfl,hFr,hK⟩ hE
 have hM:=hM.add hK hFr
 refine Yk (xs:=[.const (vB 128)]) (l:=([128] : List UInt8)) (vs:=[vB 128]) hE hM Za ld rfl rfl Tryz.underlying57 ty5 rfl (by decide) rfl ?_; intro u4 w a hM hE
 obtain ⟨l6,e7,hF⟩:=bind_some hF
 obtain ⟨e10,rfl⟩:=Yv e7
 have hM:=hM.pull (pre:=[_])
 refine Yn hE hM Za ld rfl rfl (hM.sl (pre:=[_]) noB) Tryz.underlying57 ty5 rfl (by decide) e10 fun u8 w a hM hE=>Ze hE Za ld rfl fun a hE=>Zf ?_
 obtain ⟨j11,hl12,hF13⟩:=bind_some hF
 refine ZS (fun a w=>∃ (u14 : Value),Env 32 a [(0,v0_1),(3,u14)] ∧ M (Old w0) w0 w [osl NoB (j11 : List UInt8) u14]) ?_ ?_
 ·skip
  refine wp_block ?_
  have hM:=M.fst (l:=[_]) hM
  refine ZI (fun (s16 : (List UInt8)) a w=>∃ (u17 : Value),Env 32 a [(0,v0_1),(3,u17)] ∧ M (Old w0) w0 w [osl NoB (s16 : List UInt8) u17]) hl12 ⟨u8,hE.sub ⟨rfl,rfl,trivial⟩,hM⟩ ?_
  rintro s16 a w ⟨u17,hE,hM⟩ o21 hs19 hx20
  unfold TS at hs19
  refine wp_seq (Zc (Zd hE Za ld rfl fun a hE=>Z3 hE Za ld rfl Tryz.underlying57 (hM.sl (pre:=[]) noB) fun a hE=>Zi hE Za ld rfl rfl (QH _ _ (by decide)) fun a hE=>Zi hE Za ld rfl rfl rfl fun a hE=>Zf ?_))
  refine Zs hE rfl ?_ ?_
  ·intro hb22
   have hs19:=ZA hs19 hb22
   refine wp_skip (Zz (wp_block (wp_region_lit (Zd hE Za ld rfl fun a hE=>Yk (xs:=[.const (vB 0)]) (l:=([0] : List UInt8)) (vs:=[vB 0]) hE hM Za ld rfl rfl Tryz.underlying57 ty5 rfl (by decide) rfl ?_)))); intro u23 w a hM hE
   obtain ⟨l25,e26,hs19⟩:=bind_some hs19
   obtain ⟨e29,rfl⟩:=Yv e26
   have hM:=hM.pull (pre:=[_])
   refine Yn hE hM Za ld rfl rfl (hM.sl (pre:=[_]) noB) Tryz.underlying57 ty5 rfl (by decide) e29 fun u27 w a hM hE=>Ze hE Za ld rfl fun a hE=>Zj (Yb (Zn ?_))
   have hM:=M.fst (l:=[_]) hM
   exact ⟨_,(ois hs19),u27,hE.sub ⟨rfl,rfl,trivial⟩,hM⟩
  ·intro hb22
   have hs19:=ZB hs19 hb22
   refine wp_exit (Zq (Zq (Yf ?_)))
   have ht30:=hx20 _ (ois hs19)
   subst ht30
   refine Zn ?_
   exact ⟨u17,hE.sub ⟨rfl,rfl,trivial⟩,hM⟩
 ·skip
  rintro a w ⟨u14,hE,hM⟩
  refine wp_seq (Zc (Ze hE Za ld rfl fun a hE=>Zf ?_))
  obtain ⟨j31,hl32,hF33⟩:=bind_some hF13
  refine ZP (fun a w=>∃ (u34 : Value),Env 32 a [(3,u34)] ∧ M (Old w0) w0 w [osl NoB (j31 : List UInt8) u34]) ?_ ?_
  ·skip
   refine wp_block ?_
   refine ZI (fun (s36 : (List UInt8) × Int) a w=>∃ (u37 : Value),Env 32 a [(0,v0_1),(3,u37),(4,vI s36.2)] ∧ M (Old w0) w0 w [osl NoB (s36.1 : List UInt8) u37]) hl32 ⟨u14,hE.sub ⟨rfl,rfl,rfl,trivial⟩,hM⟩ ?_
   rintro s36 a w ⟨u37,hE,hM⟩ o41 hs39 hx40
   unfold VS at hs39
   refine wp_seq (Zc (Zd hE Za ld rfl fun a hE=>Zi hE Za ld rfl rfl rfl fun a hE=>Zf ?_))
   refine Zs hE rfl ?_ ?_
   ·intro hb42
    have hs39:=ZA hs39 hb42
    refine wp_skip (Zz (wp_seq (wp_block (wp_region_lit (Zd hE Za ld rfl fun a hE=>Zd hE Za ld rfl fun a hE=>Z3 hE Za ld rfl Tryz.underlying57 (hM.rd hv0_1) fun a hE=>Zd hE Za ld rfl fun a hE=>Zi hE Za ld rfl rfl rfl fun a hE=>Yz hE Za ld rfl Tryz.underlying3 Tryz.underlying198 ?_))))); intro a hE
    obtain ⟨_,e43,hs39⟩:=bind_some hs39
    have e43:=Vm e43
    refine Hh hE Za ld rfl rfl (Jk _ _ e43) fun a hE=>Zi hE Za ld rfl rfl rfl fun a hE=>Yz hE Za ld rfl Tryz.underlying3 Tryz.underlying5 ?_; intro a hE
    rw [ZW] at hE
    refine Yk (xs:=[.tmp 28]) (l:=([ZC (Qi (Tj (p0.length : Int) (IntKind.u64.wrap (wr (8 * s36.2)))) 255)] : List UInt8)) (vs:=[(vB (ZC (Qi (Tj (p0.length : Int) (IntKind.u64.wrap (wr (8 * s36.2)))) 255)))]) hE hM Za ld rfl rfl Tryz.underlying57 ty5 rfl (by decide) rfl ?_; intro u44 w a hM hE
    obtain ⟨l46,e47,hs39⟩:=bind_some hs39
    obtain ⟨e50,rfl⟩:=Yv e47
    have hM:=hM.pull (pre:=[_])
    refine Yn hE hM Za ld rfl rfl (hM.sl (pre:=[_]) noB) Tryz.underlying57 ty5 rfl (by decide) e50 fun u48 w a hM hE=>Ze hE Za ld rfl fun a hE=>Zj (Yb (Zz (wp_region_lit (Zd hE Za ld rfl fun a hE=>Zi hE Za ld rfl rfl rfl fun a hE=>Ze hE Za ld rfl fun a hE=>Zj (Zn ?_)))))
    have hM:=M.fst (l:=[_]) hM
    exact ⟨_,(ois hs39),u48,hE.sub ⟨rfl,rfl,rfl,trivial⟩,hM⟩
   ·intro hb42
    have hs39:=ZB hs39 hb42
    refine wp_exit (Zq (Zq (Yf ?_)))
    have ht51:=hx40 _ (ois hs39)
    subst ht51
    refine Zn ?_
    exact ⟨u37,hE.sub ⟨rfl,trivial⟩,hM⟩
  ·skip
   rintro a w ⟨u34,hE,hM⟩
   refine Zz (Zc (Zd hE Za ld rfl fun a hE=>Ze hE Za ld rfl fun a hE=>Zf ?_))
   have hr:=Option.some.inj hF33
   subst hr
   exact wp_ret (Zy hE rfl (Zu hE rfl) ⟨_,rfl,u34,rfl,hM.outF (Yo Xs),hM.kept⟩)
def Wg (p0 : (List UInt8)) (s8 : (List (Vector UInt8 16)) × Int) (s20 : (Vector UInt8 16) × Int) : Option (Fl ((Vector UInt8 16) × Int) (Vector UInt8 16)) :=
 if (decide (s20.2 < 16)) = true then ((idx p0 (wr (s8.2 + s20.2))).bind fun x25=>(ZM s20.1 s20.2).bind fun x29=>some (Fl.nx ((s20.1.setIfInBounds (s20.2).toNat x25),wr (s20.2 + 1)))) else (some (Fl.ex s20.1))
def X8 (p0 : (List UInt8)) (s8 : (List (Vector UInt8 16)) × Int) : Option (Fl ((List (Vector UInt8 16)) × Int) (List (Vector UInt8 16))) :=
 if (decide ((wr (s8.2 + 16)) ≤ (p0.length : Int))) = true then ((ZG (Wg p0 s8) ((Vector.replicate 16 (0 : UInt8)),0)).bind fun j17=>(app 16 s8.1 ([j17] : List (Vector UInt8 16))).bind fun l34=>some (Fl.nx ((s8.1 ++ ([j17] : List (Vector UInt8 16))),wr (s8.2 + 16)))) else (some (Fl.ex s8.1))
def VF (p0 : (List UInt8)) : Option ((List (Vector UInt8 16))) :=
 (ZG (X8 p0) (([] : List (Vector UInt8 16)),0)).bind fun j3=>some j3
theorem Hb (w0 : World) (p0 : (List UInt8)) (v0_1 : Value) (hv0_1 : Ro w0 p0 [v0_1]) (r : (List (Vector UInt8 16))) (hF : VF p0 = some r) :
  Calls Tryz.prog 187 [v0_1].toArray w0 (fun en w'=>∃ v,en = .returned v ∧ (∃ (y1 : Value),v = y1 ∧ Fr w0 w' [osl NoB (r : List (Vector UInt8 16)) y1] ∧ Kept (Old w0) w0 w')):=by
 refine ZD (n:=33) Tryz.func187 rfl rfl (nbl rfl) rfl ?_
 intro a hE
 have hM:=M.start w0
 unfold VF at hF
 refine Zc (Ze hE Za ld rfl fun a hE=>Zf (Zc (Yk (xs:=[]) (l:=([] : List (Vector UInt8 16))) (vs:=[]) hE hM Za ld rfl rfl Tryz.underlying32 ZH rfl (by decide) rfl fun u1 w a hM hE=>Ze hE Za ld rfl fun a hE=>Zf (wp_seq (Zc (Ze hE Za ld rfl fun a hE=>Zf ?_))))))
 obtain ⟨j3,hl4,hF5⟩:=bind_some hF
 refine ZP (fun a w=>∃ (u6 : Value),Env 33 a [(3,u6)] ∧ M (Old w0) w0 w [osl NoB (j3 : List (Vector UInt8 16)) u6]) ?_ ?_
 ·skip
  refine wp_block ?_
  refine ZI (fun (s8 : (List (Vector UInt8 16)) × Int) a w=>∃ (u9 : Value),Env 33 a [(0,v0_1),(3,u9),(4,vI s8.2)] ∧ M (Old w0) w0 w [osl NoB (s8.1 : List (Vector UInt8 16)) u9]) hl4 ⟨u1,hE.sub ⟨rfl,rfl,rfl,trivial⟩,hM⟩ ?_
  rintro s8 a w ⟨u9,hE,hM⟩ o13 hs11 hx12
  unfold X8 at hs11
  refine wp_seq (Zc (Zd hE Za ld rfl fun a hE=>Zi hE Za ld rfl rfl rfl fun a hE=>Zd hE Za ld rfl fun a hE=>Z3 hE Za ld rfl Tryz.underlying57 (hM.rd hv0_1) fun a hE=>Zi hE Za ld rfl rfl rfl fun a hE=>Zf ?_))
  refine Zs hE rfl ?_ ?_
  ·intro hb14
   have hs11:=ZA hs11 hb14
   refine wp_skip (Zz (wp_seq (wp_block (Zc (XI (parts:=[]) (vs:=[]) (cs:=enc (Vector.replicate 16 (0 : UInt8))) hE Za ld rfl rfl ZH rfl ty5 Y5 fun a hE=>ZE hE hM Za ld ZH fun b15 w a hM hE=>Zo (seg:=enc (Vector.replicate 16 (0 : UInt8))) (cs':=enc (Vector.replicate 16 (0 : UInt8))) hE hM Za rfl rfl rfl ZH (Flat.len _) (zle flq) (Flat.cell _) (Zl flq) fun w a hM hE=>Zf (wp_seq (Zc (Ze hE Za ld rfl fun a hE=>Zf ?_))))))))
   obtain ⟨j17,hl18,hF19⟩:=bind_some hs11
   refine ZP (fun a w=>Env 33 a [(0,v0_1),(3,u9),(4,vI s8.2),(5,(ptr b15 0))] ∧ M (Old w0) w0 w [raw b15 (enc j17),osl NoB (s8.1 : List (Vector UInt8 16)) u9]) ?_ ?_
   ·skip
    refine wp_block ?_
    refine ZI (fun (s20 : (Vector UInt8 16) × Int) a w=>Env 33 a [(0,v0_1),(3,u9),(4,vI s8.2),(5,(ptr b15 0)),(6,vI s20.2)] ∧ M (Old w0) w0 w [raw b15 (enc s20.1),osl NoB (s8.1 : List (Vector UInt8 16)) u9]) hl18 ⟨hE.sub ⟨rfl,rfl,rfl,rfl,rfl,trivial⟩,hM⟩ ?_
    rintro s20 a w ⟨hE,hM⟩ o23 hs21 hx22
    unfold Wg at hs21
    refine wp_seq (Zc (Zd hE Za ld rfl fun a hE=>Zi hE Za ld rfl rfl rfl fun a hE=>Zf ?_))
    refine Zs hE rfl ?_ ?_
    ·intro hb24
     have hs21:=ZA hs21 hb24
     refine wp_skip (Zz (wp_seq (wp_block (wp_region_lit (Zd hE Za ld rfl fun a hE=>Zd hE Za ld rfl fun a hE=>Zd hE Za ld rfl fun a hE=>Zd hE Za ld rfl fun a hE=>Zi hE Za ld rfl rfl rfl ?_))))); intro a hE
     obtain ⟨x25,hi27,hs21⟩:=bix hs21
     refine ZL hE Za ld rfl rfl Tryz.underlying57 ty5 (hM.rd hv0_1) hi27.1 fun a hE=>Zp (v:=(vB x25)) hE Za ld rfl ty5 rfl (XE (hM.rd hv0_1) hi27.2) ?_; intro a hE
     obtain ⟨x29,hi28,hs21⟩:=bvx hs21
     refine Zr hE Za ld rfl rfl Tryz.underlying70 ty5 hi28.1 fun a hE=>Zo (seg:=[vB x25]) (cs':=enc (s20.1.setIfInBounds (s20.2).toNat x25)) hE hM Za rfl rfl rfl ty5 rfl (ZR (v:=s20.1) (x:=x25) hi28.1) (Flat.cell (x25 : UInt8)) (ZJ (v:=s20.1) (x:=x25) hi28.1) fun w a hM hE=>Zj (Yb (Zz (wp_region_lit (Zd hE Za ld rfl fun a hE=>Zi hE Za ld rfl rfl rfl fun a hE=>Ze hE Za ld rfl fun a hE=>Zj (Zn ?_)))))
     exact ⟨_,(ois hs21),hE.sub ⟨rfl,rfl,rfl,rfl,rfl,trivial⟩,hM⟩
    ·intro hb24
     have hs21:=ZB hs21 hb24
     refine wp_exit (Zq (Zq (Yf ?_)))
     have ht31:=hx22 _ (ois hs21)
     subst ht31
     refine Zn ?_
     exact ⟨hE.sub ⟨rfl,rfl,rfl,rfl,trivial⟩,hM⟩
   ·skip
    rintro a w ⟨hE,hM⟩
    refine Zz (wp_region_lit (Zd hE Za ld rfl fun a hE=>Zm (cs:=enc j17) hE Za ld rfl ZH rfl (hM.rawAt (pre:=[])) (Flat.len _) fun a hE=>Yk (xs:=[.tmp 29]) (l:=([j17] : List (Vector UInt8 16))) (vs:=[(Value.agg (enc j17).toArray)]) hE hM Za ld rfl rfl Tryz.underlying32 ZH rfl (by decide) rfl ?_)); intro u32 w a hM hE
    obtain ⟨l34,e35,hF19⟩:=bind_some hF19
    obtain ⟨e38,rfl⟩:=Yv e35
    have hM:=hM.pull (pre:=[_,_])
    refine Yn hE hM Za ld rfl rfl (hM.sl (pre:=[_]) noB) Tryz.underlying32 ZH rfl (by decide) e38 fun u36 w a hM hE=>Ze hE Za ld rfl fun a hE=>Zj (Yb (Zz (wp_region_lit (Zd hE Za ld rfl fun a hE=>Zi hE Za ld rfl rfl rfl fun a hE=>Ze hE Za ld rfl fun a hE=>Zj (Zn ?_)))))
    have hM:=M.fst (l:=[_]) hM
    exact ⟨_,(ois hF19),u36,hE.sub ⟨rfl,rfl,rfl,trivial⟩,hM⟩
  ·intro hb14
   have hs11:=ZB hs11 hb14
   refine wp_exit (Zq (Zq (Yf ?_)))
   have ht39:=hx12 _ (ois hs11)
   subst ht39
   refine Zn ?_
   exact ⟨u9,hE.sub ⟨rfl,trivial⟩,hM⟩
 ·skip
  rintro a w ⟨u6,hE,hM⟩
  refine Zz (Zc (Zd hE Za ld rfl fun a hE=>Ze hE Za ld rfl fun a hE=>Zf ?_))
  have hr:=Option.some.inj hF5
  subst hr
  exact wp_ret (Zy hE rfl (Zu hE rfl) ⟨_,rfl,u6,rfl,hM.outF (Yo Xs),hM.kept⟩)
def Ww (s8 : (Vector UInt8 32) × Int) : Option (Fl ((Vector UInt8 32) × Int) (Vector UInt8 32)) :=
 if (decide (s8.2 < 32)) = true then ((ZM s8.1 s8.2).bind fun x14=>some (Fl.nx ((s8.1.setIfInBounds (s8.2).toNat (ZC (Int.tmod (wr (17 * s8.2)) 256))),wr (s8.2 + 1)))) else (some (Fl.ex s8.1))
def Ur : Option ((Vector UInt8 32)) :=
 (ZG (Ww) ((Vector.replicate 32 (0 : UInt8)),0)).bind fun j5=>some j5
theorem HP (w0 : World)  (r : (Vector UInt8 32)) (hF : Ur  = some r) :
  Calls Tryz.prog 189 [].toArray w0 (fun en w'=>∃ v,en = .returned v ∧ (v = (Value.agg (enc r).toArray) ∧ Kept (Old w0) w0 w')):=by
 refine ZD (n:=15) Tryz.func189 rfl rfl (nbl rfl) rfl ?_
 intro a hE
 have hM:=M.start w0
 unfold Ur at hF
 refine Zc (ZE hE hM Za ld Yy fun b1 w a hM hE=>Zf (Zc (XI (parts:=[]) (vs:=[]) (cs:=enc (Vector.replicate 32 (0 : UInt8))) hE Za ld rfl rfl Yy rfl ty5 Y5 fun a hE=>ZE hE hM Za ld Yy fun b3 w a hM hE=>Zo (seg:=enc (Vector.replicate 32 (0 : UInt8))) (cs':=enc (Vector.replicate 32 (0 : UInt8))) hE hM Za rfl rfl rfl Yy (Flat.len _) (zle flq) (Flat.cell _) (Zl flq) fun w a hM hE=>Zf (wp_seq (Zc (Ze hE Za ld rfl fun a hE=>Zf ?_))))))
 obtain ⟨j5,hl6,hF7⟩:=bind_some hF
 refine ZP (fun a w=>Env 15 a [(0,(ptr b1 0)),(1,(ptr b3 0))] ∧ M (Old w0) w0 w [raw b3 (enc j5),raw b1 (enc (Vector.replicate 32 (0 : UInt8)))]) ?_ ?_
 ·skip
  refine wp_block ?_
  refine ZI (fun (s8 : (Vector UInt8 32) × Int) a w=>Env 15 a [(0,(ptr b1 0)),(1,(ptr b3 0)),(2,vI s8.2)] ∧ M (Old w0) w0 w [raw b3 (enc s8.1),raw b1 (enc (Vector.replicate 32 (0 : UInt8)))]) hl6 ⟨hE.sub ⟨rfl,rfl,rfl,trivial⟩,hM⟩ ?_
  rintro s8 a w ⟨hE,hM⟩ o11 hs9 hx10
  unfold Ww at hs9
  refine wp_seq (Zc (Zd hE Za ld rfl fun a hE=>Zi hE Za ld rfl rfl rfl fun a hE=>Zf ?_))
  refine Zs hE rfl ?_ ?_
  ·intro hb12
   have hs9:=ZA hs9 hb12
   refine wp_skip (Zz (wp_seq (wp_block (wp_region_lit (Zd hE Za ld rfl fun a hE=>Zd hE Za ld rfl fun a hE=>Zi hE Za ld rfl rfl rfl fun a hE=>Zi hE Za ld rfl rfl (QH _ _ (by decide)) fun a hE=>Yz hE Za ld rfl Tryz.underlying3 Tryz.underlying5 ?_))))); intro a hE
   rw [ZW] at hE
   obtain ⟨x14,hi13,hs9⟩:=bvx hs9
   refine Zr hE Za ld rfl rfl Tryz.underlying29 ty5 hi13.1 fun a hE=>Zo (seg:=[(vB (ZC (Int.tmod (wr (17 * s8.2)) 256)))]) (cs':=enc (s8.1.setIfInBounds (s8.2).toNat (ZC (Int.tmod (wr (17 * s8.2)) 256)))) hE hM Za rfl rfl rfl ty5 rfl (ZR (v:=s8.1) (x:=ZC (Int.tmod (wr (17 * s8.2)) 256)) hi13.1) (Flat.cell (ZC (Int.tmod (wr (17 * s8.2)) 256) : UInt8)) (ZJ (v:=s8.1) (x:=ZC (Int.tmod (wr (17 * s8.2)) 256)) hi13.1) fun w a hM hE=>Zj (Yb (Zz (wp_region_lit (Zd hE Za ld rfl fun a hE=>Zi hE Za ld rfl rfl rfl fun a hE=>Ze hE Za ld rfl fun a hE=>Zj (Zn ?_)))))
   exact ⟨_,(ois hs9),hE.sub ⟨rfl,rfl,rfl,trivial⟩,hM⟩
  ·intro hb12
   have hs9:=ZB hs9 hb12
   refine wp_exit (Zq (Zq (Yf ?_)))
   have ht16:=hx10 _ (ois hs9)
   subst ht16
   refine Zn ?_
   exact ⟨hE.sub ⟨rfl,rfl,trivial⟩,hM⟩
 ·skip
  rintro a w ⟨hE,hM⟩
  refine Zz (Zc (Zm (cs:=enc j5) hE Za ld rfl Yy rfl (hM.rawAt (pre:=[])) (Flat.len _) ?_)); intro a hE
  have hM:=hM.pull (pre:=[_])
  refine Zo (seg:=enc j5) (cs':=enc j5) hE hM Za rfl rfl rfl Yy (Flat.len _) (zle flq) (Flat.cell _) (Zl flq) fun w a hM hE=>Zf ?_
  have hr:=Option.some.inj hF7
  subst hr
  have hq17 : Yw Tryz.prog _ _ (.cell 0 29) _:=ZO hE rfl Yy rfl (hM.rawAt (pre:=[])) (Flat.len _) rfl
  have hM:=M.fst (l:=[]) hM
  exact wp_ret (Zy hE rfl hq17 ⟨_,rfl,rfl,hM.kept⟩)
def We (p0 : (Vector UInt8 32)) (s14 : (Vector UInt8 16) × (Vector UInt8 16) × Int) : Option (Fl ((Vector UInt8 16) × (Vector UInt8 16) × Int) ((Vector UInt8 16) × (Vector UInt8 16))) :=
 if (decide (s14.2.2 < 16)) = true then ((ZM p0 s14.2.2).bind fun x20=>(ZM s14.2.1 s14.2.2).bind fun x23=>(ZM p0 (wr (16 + s14.2.2))).bind fun x26=>(ZM s14.1 s14.2.2).bind fun x29=>some (Fl.nx ((s14.1.setIfInBounds (s14.2.2).toNat x26),(s14.2.1.setIfInBounds (s14.2.2).toNat x20),wr (s14.2.2 + 1)))) else (some (Fl.ex (s14.1,s14.2.1)))
def VM (p0 : (Vector UInt8 32)) : Option ((Vector UInt8 16) × (Vector UInt8 16)) :=
 (ZG (We p0) ((Vector.replicate 16 (0 : UInt8)),(Vector.replicate 16 (0 : UInt8)),0)).bind fun j11=>(some (j11.2,j11.1) : Option ((Vector UInt8 16) × (Vector UInt8 16))).bind fun j32=>some (j32.1,j32.2)
theorem Hr (w0 : World) (p0 : (Vector UInt8 32)) (r : (Vector UInt8 16) × (Vector UInt8 16)) (hF : VM p0 = some r) :
  Calls Tryz.prog 221 [(Value.agg (enc p0).toArray)].toArray w0 (fun en w'=>∃ v,en = .returned v ∧ (v = (Value.tuple [(Value.agg (enc r.1).toArray),(Value.agg (enc r.2).toArray)].toArray) ∧ Kept (Old w0) w0 w')):=by
 refine ZD (n:=26) Tryz.func221 rfl rfl (nbl rfl) rfl ?_
 intro a hE
 have hM:=M.start w0
 unfold VM at hF
 refine Zc (ZY (cs:=enc p0) hE hM Za ld rfl rfl fun b1 w a hM hE=>ZE hE hM Za ld ZH fun b3 w a hM hE=>ZE hE hM Za ld ZH fun b5 w a hM hE=>Zf (Zc (XI (parts:=[]) (vs:=[]) (cs:=enc (Vector.replicate 16 (0 : UInt8))) hE Za ld rfl rfl ZH rfl ty5 Y5 fun a hE=>XI (parts:=[]) (vs:=[]) (cs:=enc (Vector.replicate 16 (0 : UInt8))) hE Za ld rfl rfl ZH rfl ty5 Y5 fun a hE=>ZE hE hM Za ld ZH fun b7 w a hM hE=>ZE hE hM Za ld ZH ?_))); intro b9 w a hM hE
 have hM:=hM.pull (pre:=[_])
 refine Zo (seg:=enc (Vector.replicate 16 (0 : UInt8))) (cs':=enc (Vector.replicate 16 (0 : UInt8))) hE hM Za rfl rfl rfl ZH (Flat.len _) (zle flq) (Flat.cell _) (Zl flq) ?_; intro w a hM hE
 have hM:=hM.pull (pre:=[_])
 refine Zo (seg:=enc (Vector.replicate 16 (0 : UInt8))) (cs':=enc (Vector.replicate 16 (0 : UInt8))) hE hM Za rfl rfl rfl ZH (Flat.len _) (zle flq) (Flat.cell _) (Zl flq) fun w a hM hE=>Zf (wp_seq (Zc (Ze hE Za ld rfl fun a hE=>Zf ?_)))
 obtain ⟨j11,hl12,hF13⟩:=bind_some hF
 refine ZP (fun a w=>Env 26 a [(2,(ptr b3 0)),(3,(ptr b5 0)),(4,(ptr b7 0)),(5,(ptr b9 0))] ∧ M (Old w0) w0 w [raw b9 (enc j11.1),raw b7 (enc j11.2),raw b5 (enc (Vector.replicate 16 (0 : UInt8))),raw b3 (enc (Vector.replicate 16 (0 : UInt8)))]) ?_ ?_
 ·skip
  refine wp_block ?_
  refine ZI (fun (s14 : (Vector UInt8 16) × (Vector UInt8 16) × Int) a w=>Env 26 a [(1,(ptr b1 0)),(2,(ptr b3 0)),(3,(ptr b5 0)),(4,(ptr b7 0)),(5,(ptr b9 0)),(6,vI s14.2.2)] ∧ M (Old w0) w0 w [raw b9 (enc s14.1),raw b7 (enc s14.2.1),raw b5 (enc (Vector.replicate 16 (0 : UInt8))),raw b3 (enc (Vector.replicate 16 (0 : UInt8))),raw b1 (enc p0)]) hl12 ⟨hE.sub ⟨rfl,rfl,rfl,rfl,rfl,rfl,trivial⟩,hM⟩ ?_
  rintro s14 a w ⟨hE,hM⟩ o17 hs15 hx16
  unfold We at hs15
  refine wp_seq (Zc (Zd hE Za ld rfl fun a hE=>Zi hE Za ld rfl rfl rfl fun a hE=>Zf ?_))
  refine Zs hE rfl ?_ ?_
  ·intro hb18
   have hs15:=ZA hs15 hb18
   refine wp_skip (Zz (wp_seq (wp_block (Zc (Zd hE Za ld rfl fun a hE=>Zd hE Za ld rfl ?_))))); intro a hE
   obtain ⟨x20,hi19,hs15⟩:=bvx hs15
   refine Zr hE Za ld rfl rfl Tryz.underlying29 ty5 hi19.1 fun a hE=>Zp (v:=(vB x20)) hE Za ld rfl ty5 rfl (At.vec (hM.rawAt (pre:=[_,_,_,_])) hi19.2) ?_; intro a hE
   obtain ⟨x23,hi22,hs15⟩:=bvx hs15
   refine Zr hE Za ld rfl rfl Tryz.underlying70 ty5 hi22.1 ?_; intro a hE
   have hM:=hM.pull (pre:=[_])
   refine Zo (seg:=[vB x20]) (cs':=enc (s14.2.1.setIfInBounds (s14.2.2).toNat x20)) hE hM Za rfl rfl rfl ty5 rfl (ZR (v:=s14.2.1) (x:=x20) hi22.1) (Flat.cell (x20 : UInt8)) (ZJ (v:=s14.2.1) (x:=x20) hi22.1) fun w a hM hE=>Zf (wp_region_lit (Zd hE Za ld rfl fun a hE=>Zd hE Za ld rfl fun a hE=>Zi hE Za ld rfl rfl rfl ?_)); intro a hE
   obtain ⟨x26,hi25,hs15⟩:=bvx hs15
   refine Zr hE Za ld rfl rfl Tryz.underlying29 ty5 hi25.1 fun a hE=>Zp (v:=(vB x26)) hE Za ld rfl ty5 rfl (At.vec (hM.rawAt (pre:=[_,_,_,_])) hi25.2) ?_; intro a hE
   obtain ⟨x29,hi28,hs15⟩:=bvx hs15
   refine Zr hE Za ld rfl rfl Tryz.underlying70 ty5 hi28.1 ?_; intro a hE
   have hM:=hM.pull (pre:=[_])
   refine Zo (seg:=[vB x26]) (cs':=enc (s14.1.setIfInBounds (s14.2.2).toNat x26)) hE hM Za rfl rfl rfl ty5 rfl (ZR (v:=s14.1) (x:=x26) hi28.1) (Flat.cell (x26 : UInt8)) (ZJ (v:=s14.1) (x:=x26) hi28.1) fun w a hM hE=>Zj (Yb (Zz (wp_region_lit (Zd hE Za ld rfl fun a hE=>Zi hE Za ld rfl rfl rfl fun a hE=>Ze hE Za ld rfl fun a hE=>Zj (Zn ?_)))))
   exact ⟨_,(ois hs15),hE.sub ⟨rfl,rfl,rfl,rfl,rfl,rfl,trivial⟩,hM⟩
  ·intro hb18
   have hs15:=ZB hs15 hb18
   refine wp_exit (Zq (Zq (Yf ?_)))
   have ht31:=hx16 _ (ois hs15)
   subst ht31
   refine Zn ?_
   have hM:=M.fst (l:=[_,_,_,_]) ((((hM.pull (pre:=[_,_,_])).pull (pre:=[_,_,_])).pull (pre:=[_,_,_])).pull (pre:=[_,_,_]))
   exact ⟨hE.sub ⟨rfl,rfl,rfl,rfl,trivial⟩,hM⟩
 ·skip
  rintro a w ⟨hE,hM⟩
  refine Zz ?_
  obtain ⟨j32,hl33,hF34⟩:=bind_some hF13
  refine ZS (fun a w=>Env 26 a [(2,(ptr b3 0)),(3,(ptr b5 0))] ∧ M (Old w0) w0 w [raw b5 (enc j32.2),raw b3 (enc j32.1)]) ?_ ?_
  ·skip
   have hM:=hM.pull (pre:=[_,_,_])
   refine Ub (n:=26) (hd:=[_,_,_]) (tl:=[_]) Y0 rfl rfl [24,25,28] (by decide) (fun D u w=>M (Old w0) w0 w ([raw b9 (enc j11.1),raw b7 (enc j11.2),raw b5 (enc (Vector.replicate 16 (0 : UInt8)))] ++ qL ([mkT 2 (raw b3 (enc (Vector.replicate 16 (0 : UInt8)))) (raw b3 (enc j11.2))] : Mk) D u) ∧ GOk ([([],fun us v=>v = (Value.agg (enc j11.2).toArray)),([],fun us v=>v = (Value.agg (enc j11.1).toArray)),([],fun us v=>True)] : Gs) D u) hE (fun u=>⟨M.qT (M.q0 hM.drew u),Jg⟩) (ZK (Zb ?_ (Zb ?_ (Zb ?_ ZF)))) ?_
   ·intro a w ux35 D hE hI hD hdc hp
    have hM0:=hI.1
    have hM:=hI.1
    have hM:=hM.togA (pre:=[_,_,_]) (Bool.eq_false_iff.2 fun hx=>Bool.noConfusion (hD.symm.trans (hdc 2 _ _ rfl (List.mem_of_getElem? (i:=0) rfl) rfl hx)))
    exact Zm (cs:=enc j11.2) hE Za ld rfl ZH rfl (hM.rawAt (pre:=[_])) (Flat.len _) fun a hE=>⟨_,_,rfl,hE,M.qKeep hM0 rfl,hI.2.put hD rfl ZQ rfl⟩
   ·intro a w ux35 D hE hI hD hdc hp
    have hM0:=hI.1
    have hM:=hI.1
    exact Zm (cs:=enc j11.1) hE Za ld rfl ZH rfl (hM.rawAt (pre:=[])) (Flat.len _) fun a hE=>⟨_,_,rfl,hE,M.qKeep hM0 rfl,hI.2.put hD rfl ZQ rfl⟩
   ·intro a w ux35 D hE hI hD hdc hp
    have d0 : D 0 = true:=hp 0 _ rfl rfl
    have g0:=hI.2 0 d0 _ rfl
    have f0 : ux35 0 = (Value.agg (enc j11.2).toArray):=g0.2
    have hM0:=hI.1
    have hM:=(hI.1.togA (pre:=[_,_,_]) hD).pull (pre:=[_,_,_])
    exact Zo (seg:=enc j11.2) (cs':=enc j11.2) hE hM Za rfl (lk rfl f0) rfl ZH (Flat.len _) (zle flq) (Flat.cell _) (Zl flq) fun w a hM hE=>⟨undef,_,rfl,Env.dummy hE (by decide),M.qTog (mk1:=[]) (mk2:=[]) hM rfl,hI.2.put hD rfl ZQ trivial⟩
   ·intro a w ux35 D hE hI hall
    have hM:=hI.1
    have d0 : D 0 = true:=hall 0 (by decide)
    have d1 : D 1 = true:=hall 1 (by decide)
    have d2 : D 2 = true:=hall 2 (by decide)
    have f0 : ux35 0 = (Value.agg (enc j11.2).toArray):=(hI.2 0 d0 _ rfl).2
    have f1 : ux35 1 = (Value.agg (enc j11.1).toArray):=(hI.2 1 d1 _ rfl).2
    have hM:=hM.togB (pre:=[_,_,_]) d2
    have hE:=hE.sub (e':=[(25,(Value.agg (enc j11.1).toArray)),(2,(ptr b3 0)),(3,(ptr b5 0))]) ⟨lk rfl f1,rfl,rfl,trivial⟩
    have hM:=hM.pull (pre:=[_,_])
    refine Zo (seg:=enc j11.1) (cs':=enc j11.1) hE hM Za rfl rfl rfl ZH (Flat.len _) (zle flq) (Flat.cell _) (Zl flq) fun w a hM hE=>Zj ?_
    have ht36:=Option.some.inj hl33
    subst ht36
    refine Zn ?_
    have hM:=M.fst (l:=[_,_]) ((hM.pull (pre:=[_,_,_])).pull (pre:=[_]))
    exact ⟨hE.sub ⟨rfl,rfl,trivial⟩,hM⟩
  ·skip
   rintro a w ⟨hE,hM⟩
   have hr:=Option.some.inj hF34
   subst hr
   have hq37 : Yw Tryz.prog _ _ (.cell 2 70) _:=ZO hE rfl ZH rfl (hM.rawAt (pre:=[_])) (Flat.len _) rfl
   have hq38 : Yw Tryz.prog _ _ (.cell 3 70) _:=ZO hE rfl ZH rfl (hM.rawAt (pre:=[])) (Flat.len _) rfl
   have hM:=M.fst (l:=[]) hM
   exact wp_ret (Qv hE rfl hq37 hq38 ⟨_,rfl,rfl,hM.kept⟩)
def VJ (p1 : (Vector UInt8 16)) (s10 : (Vector UInt8 16) × Int) : Option (Fl ((Vector UInt8 16) × Int) (Vector UInt8 16)) :=
 if (decide (s10.2 < 16)) = true then ((ZM s10.1 s10.2).bind fun x17=>(ZM p1 s10.2).bind fun x20=>(ZM s10.1 s10.2).bind fun x23=>some (Fl.nx ((s10.1.setIfInBounds (s10.2).toNat (x17 ^^^ x20)),wr (s10.2 + 1)))) else (some (Fl.ex s10.1))
def Xo (p0 : (Vector UInt8 16)) (p1 : (Vector UInt8 16)) : Option ((Vector UInt8 16)) :=
 (ZG (VJ p1) (p0,0)).bind fun j7=>some j7
theorem Uw (w0 : World) (p0 : (Vector UInt8 16)) (p1 : (Vector UInt8 16)) (r : (Vector UInt8 16)) (hF : Xo p0 p1 = some r) :
  Calls Tryz.prog 222 [(Value.agg (enc p0).toArray),(Value.agg (enc p1).toArray)].toArray w0 (fun en w'=>∃ v,en = .returned v ∧ (v = (Value.agg (enc r).toArray) ∧ Kept (Old w0) w0 w')):=by
 refine ZD (n:=20) Tryz.func222 rfl rfl (nbl rfl) rfl ?_
 intro a hE
 have hM:=M.start w0
 unfold Xo at hF
 refine Zc (ZY (cs:=enc p0) hE hM Za ld rfl rfl fun b1 w a hM hE=>ZY (cs:=enc p1) hE hM Za ld rfl rfl fun b3 w a hM hE=>ZE hE hM Za ld ZH fun b5 w a hM hE=>Zf (wp_seq (Zc (Ze hE Za ld rfl fun a hE=>Zf ?_))))
 obtain ⟨j7,hl8,hF9⟩:=bind_some hF
 refine ZP (fun a w=>Env 20 a [(2,(ptr b1 0)),(4,(ptr b5 0))] ∧ M (Old w0) w0 w [raw b5 (enc (Vector.replicate 16 (0 : UInt8))),raw b1 (enc j7)]) ?_ ?_
 ·skip
  refine wp_block ?_
  refine ZI (fun (s10 : (Vector UInt8 16) × Int) a w=>Env 20 a [(2,(ptr b1 0)),(3,(ptr b3 0)),(4,(ptr b5 0)),(5,vI s10.2)] ∧ M (Old w0) w0 w [raw b5 (enc (Vector.replicate 16 (0 : UInt8))),raw b3 (enc p1),raw b1 (enc s10.1)]) hl8 ⟨hE.sub ⟨rfl,rfl,rfl,rfl,trivial⟩,hM⟩ ?_
  rintro s10 a w ⟨hE,hM⟩ o13 hs11 hx12
  unfold VJ at hs11
  refine wp_seq (Zc (Zd hE Za ld rfl fun a hE=>Zi hE Za ld rfl rfl rfl fun a hE=>Zf ?_))
  refine Zs hE rfl ?_ ?_
  ·intro hb14
   have hs11:=ZA hs11 hb14
   refine wp_skip (Zz (wp_seq (wp_block ?_)))
   obtain ⟨x17,hi16,hs11⟩:=bvx hs11
   obtain ⟨x20,hi19,hs11⟩:=bvx hs11
   obtain ⟨x23,hi22,hs11⟩:=bvx hs11
   refine YC (n:=20) (hd:=[_,_,_,_,_,_,_,_,_]) (tl:=[_]) Y0 rfl rfl [10,11,12,13,14,15,16,17,18] (by decide) (fun w=>M (Old w0) w0 w [raw b5 (enc (Vector.replicate 16 (0 : UInt8))),raw b3 (enc p1),raw b1 (enc s10.1)]) (fun j=>([fun v _=>v = (vI s10.2),fun v _=>v = (vI s10.2),fun v _=>v = (ptr b1 (0 + (s10.2).toNat * 1)),fun v _=>v = (vB x17),fun v _=>v = (vI s10.2),fun v _=>v = (ptr b3 (0 + (s10.2).toNat * 1)),fun v _=>v = (vB x20),fun v _=>v = (vB (x17 ^^^ x20)),fun v _=>v = (ptr b1 (0 + (s10.2).toNat * 1))] : List (Value → World → Prop)).getD j (fun _ _=>True)) (fun _ _ h hk=>h.keep hk) (gup (Zk (Zk (Zk (Zk (Zk (Zk (Zk (Zk (Zk V1)))))))))) hE hM.drew (ZK (Zb ?_ (Zb ?_ (Zb ?_ (Zb ?_ (Zb ?_ (Zb ?_ (Zb ?_ (Zb ?_ (Zb ?_ ZF)))))))))) ?_
   ·exact fun a w ux15 hE hM hp=>Zd hE Za ld rfl fun a hE=>⟨Kept.refl _ _,_,_,rfl,hE,rfl⟩
   ·exact fun a w ux15 hE hM hp=>Zd hE Za ld rfl fun a hE=>⟨Kept.refl _ _,_,_,rfl,hE,rfl⟩
   ·intro a w ux15 hE hM hp
    have f1 : ux15 1 = (vI s10.2):=hp 0 _ rfl rfl
    exact Zr hE Za ld rfl (lk rfl f1) Tryz.underlying70 ty5 hi16.1 fun a hE=>⟨Kept.refl _ _,_,_,rfl,hE,rfl⟩
   ·intro a w ux15 hE hM hp
    have f2 : ux15 2 = (ptr b1 (0 + (s10.2).toNat * 1)):=hp 0 _ rfl rfl
    exact Zp (v:=(vB x17)) hE Za ld (lk rfl f2) ty5 rfl (At.vec (hM.rawAt (pre:=[_,_])) hi16.2) fun a hE=>⟨Kept.refl _ _,_,_,rfl,hE,rfl⟩
   ·exact fun a w ux15 hE hM hp=>Zd hE Za ld rfl fun a hE=>⟨Kept.refl _ _,_,_,rfl,hE,rfl⟩
   ·intro a w ux15 hE hM hp
    have f4 : ux15 4 = (vI s10.2):=hp 0 _ rfl rfl
    exact Zr hE Za ld rfl (lk rfl f4) Tryz.underlying70 ty5 hi19.1 fun a hE=>⟨Kept.refl _ _,_,_,rfl,hE,rfl⟩
   ·intro a w ux15 hE hM hp
    have f5 : ux15 5 = (ptr b3 (0 + (s10.2).toNat * 1)):=hp 0 _ rfl rfl
    exact Zp (v:=(vB x20)) hE Za ld (lk rfl f5) ty5 rfl (At.vec (hM.rawAt (pre:=[_])) hi19.2) fun a hE=>⟨Kept.refl _ _,_,_,rfl,hE,rfl⟩
   ·intro a w ux15 hE hM hp
    have f3 : ux15 3 = (vB x17):=hp 0 _ rfl rfl
    have f6 : ux15 6 = (vB x20):=hp 1 _ rfl rfl
    exact Zi hE Za ld (lk rfl f3) (lk rfl f6) (UD x17 x20) fun a hE=>⟨Kept.refl _ _,_,_,rfl,hE,rfl⟩
   ·intro a w ux15 hE hM hp
    have f0 : ux15 0 = (vI s10.2):=hp 0 _ rfl rfl
    exact Zr hE Za ld rfl (lk rfl f0) Tryz.underlying70 ty5 hi22.1 fun a hE=>⟨Kept.refl _ _,_,_,rfl,hE,rfl⟩
   ·intro a w ux15 hE hM hg
    have hE:=hE.sub (e':=[(17,(vB (x17 ^^^ x20))),(18,(ptr b1 (0 + (s10.2).toNat * 1))),(2,(ptr b1 0)),(3,(ptr b3 0)),(4,(ptr b5 0)),(5,vI s10.2),(6,vI s10.2),(7,(vT (decide (s10.2 < 16))))]) ⟨lk rfl (hg 7 (by decide)),lk rfl (hg 8 (by decide)),rfl,rfl,rfl,rfl,rfl,rfl,trivial⟩
    have hM:=hM.pull (pre:=[_,_])
    refine Zo (seg:=[(vB (x17 ^^^ x20))]) (cs':=enc (s10.1.setIfInBounds (s10.2).toNat (x17 ^^^ x20))) hE hM Za rfl rfl rfl ty5 rfl (ZR (v:=s10.1) (x:=x17 ^^^ x20) hi22.1) (Flat.cell (x17 ^^^ x20 : UInt8)) (ZJ (v:=s10.1) (x:=x17 ^^^ x20) hi22.1) fun w a hM hE=>Zj (Yb (Zz (wp_region_lit (Zd hE Za ld rfl fun a hE=>Zi hE Za ld rfl rfl rfl fun a hE=>Ze hE Za ld rfl fun a hE=>Zj (Zn ?_)))))
    have hM:=(hM.pull (pre:=[_,_])).pull (pre:=[_,_])
    exact ⟨_,(ois hs11),hE.sub ⟨rfl,rfl,rfl,rfl,trivial⟩,hM⟩
  ·intro hb14
   have hs11:=ZB hs11 hb14
   refine wp_exit (Zq (Zq (Yf ?_)))
   have ht25:=hx12 _ (ois hs11)
   subst ht25
   refine Zn ?_
   have hM:=M.fst (l:=[_,_]) ((hM.pull (pre:=[_,_])).pull (pre:=[_]))
   exact ⟨hE.sub ⟨rfl,rfl,trivial⟩,hM⟩
 ·skip
  rintro a w ⟨hE,hM⟩
  refine Zz (Zc (Zm (cs:=enc j7) hE Za ld rfl ZH rfl (hM.rawAt (pre:=[_])) (Flat.len _) fun a hE=>Zo (seg:=enc j7) (cs':=enc j7) hE hM Za rfl rfl rfl ZH (Flat.len _) (zle flq) (Flat.cell _) (Zl flq) fun w a hM hE=>Zf ?_))
  have hr:=Option.some.inj hF9
  subst hr
  have hq26 : Yw Tryz.prog _ _ (.cell 4 70) _:=ZO hE rfl ZH rfl (hM.rawAt (pre:=[])) (Flat.len _) rfl
  have hM:=M.fst (l:=[]) hM
  exact wp_ret (Zy hE rfl hq26 ⟨_,rfl,rfl,hM.kept⟩)
def W4 (p0 : (Vector UInt8 256)) (p2 : Int) (s10 : (Vector UInt8 16) × Int) : Option (Fl ((Vector UInt8 16) × Int) (Vector UInt8 16)) :=
 if (decide (s10.2 < 16)) = true then (((ZM s10.1 (Int.tmod (wr (s10.2 + 15)) 16)).bind fun x19=>(if (s10.2 == 0) = true then (some (x19 ^^^ (ZC p2))) else (some x19) : Option (UInt8)).bind fun j21=>(ZM s10.1 s10.2).bind fun x29=>(ZM p0 (bI j21)).bind fun x32=>(ZM s10.1 s10.2).bind fun x35=>some (s10.1.setIfInBounds (s10.2).toNat (x29 ^^^ x32)) : Option ((Vector UInt8 16))).bind fun j15=>some (Fl.nx (j15,wr (s10.2 + 1)))) else (some (Fl.ex s10.1))
def US (p0 : (Vector UInt8 256)) (p1 : (Vector UInt8 16)) (p2 : Int) : Option ((Vector UInt8 16)) :=
 (ZG (W4 p0 p2) (p1,0)).bind fun j7=>some j7
theorem BZ (w0 : World) (p0 : (Vector UInt8 256)) (p1 : (Vector UInt8 16)) (p2 : Int) (r : (Vector UInt8 16)) (hF : US p0 p1 p2 = some r) :
  Calls Tryz.prog 250 [(Value.agg (enc p0).toArray),(Value.agg (enc p1).toArray),vI p2].toArray w0 (fun en w'=>∃ v,en = .returned v ∧ (v = (Value.agg (enc r).toArray) ∧ Kept (Old w0) w0 w')):=by
 refine ZD (n:=34) Tryz.func250 rfl rfl (nbl rfl) rfl ?_
 intro a hE
 have hM:=M.start w0
 unfold US at hF
 refine Zc (ZY (cs:=enc p0) hE hM Za ld rfl rfl fun b1 w a hM hE=>ZY (cs:=enc p1) hE hM Za ld rfl rfl fun b3 w a hM hE=>ZE hE hM Za ld ZH fun b5 w a hM hE=>Zf (wp_seq (Zc (Ze hE Za ld rfl fun a hE=>Zf ?_))))
 obtain ⟨j7,hl8,hF9⟩:=bind_some hF
 refine ZP (fun a w=>Env 34 a [(4,(ptr b3 0)),(6,(ptr b5 0))] ∧ M (Old w0) w0 w [raw b5 (enc (Vector.replicate 16 (0 : UInt8))),raw b3 (enc j7)]) ?_ ?_
 ·skip
  refine wp_block ?_
  refine ZI (fun (s10 : (Vector UInt8 16) × Int) a w=>Env 34 a [(2,vI p2),(3,(ptr b1 0)),(4,(ptr b3 0)),(6,(ptr b5 0)),(7,vI s10.2)] ∧ M (Old w0) w0 w [raw b5 (enc (Vector.replicate 16 (0 : UInt8))),raw b3 (enc s10.1),raw b1 (enc p0)]) hl8 ⟨hE.sub ⟨rfl,rfl,rfl,rfl,rfl,trivial⟩,hM⟩ ?_
  rintro s10 a w ⟨hE,hM⟩ o13 hs11 hx12
  unfold W4 at hs11
  refine wp_seq (Zc (Zd hE Za ld rfl fun a hE=>Zi hE Za ld rfl rfl rfl fun a hE=>Zf ?_))
  refine Zs hE rfl ?_ ?_
  ·intro hb14
   have hs11:=ZA hs11 hb14
   refine wp_skip (Zz ?_)
   obtain ⟨j15,hl16,hF17⟩:=bind_some hs11
   refine ZS (fun a w=>Env 34 a [(2,vI p2),(3,(ptr b1 0)),(4,(ptr b3 0)),(6,(ptr b5 0)),(7,vI s10.2)] ∧ M (Old w0) w0 w [raw b5 (enc (Vector.replicate 16 (0 : UInt8))),raw b3 (enc j15),raw b1 (enc p0)]) ?_ ?_
   ·skip
    refine wp_block (Zc (Zd hE Za ld rfl fun a hE=>Zi hE Za ld rfl rfl rfl fun a hE=>Zi hE Za ld rfl rfl (QH _ _ (by decide)) ?_)); intro a hE
    obtain ⟨x19,hi18,hl16⟩:=bvx hl16
    refine Zr hE Za ld rfl rfl Tryz.underlying70 ty5 hi18.1 fun a hE=>Zp (v:=(vB x19)) hE Za ld rfl ty5 rfl (At.vec (hM.rawAt (pre:=[_])) hi18.2) fun a hE=>Ze hE Za ld rfl fun a hE=>Zf ?_
    obtain ⟨j21,hl22,hF23⟩:=bind_some hl16
    refine ZS (fun a w=>Env 34 a [(2,vI p2),(3,(ptr b1 0)),(4,(ptr b3 0)),(6,(ptr b5 0)),(7,vI s10.2),(8,vB j21)] ∧ M (Old w0) w0 w [raw b5 (enc (Vector.replicate 16 (0 : UInt8))),raw b3 (enc s10.1),raw b1 (enc p0)]) ?_ ?_
    ·skip
     refine Zc (Zd hE Za ld rfl fun a hE=>Zi hE Za ld rfl rfl rfl fun a hE=>Zf ?_)
     refine Zs hE rfl ?_ ?_
     ·intro hb24
      have hl22:=ZA hl22 hb24
      refine wp_region_lit (Zd hE Za ld rfl fun a hE=>Zd hE Za ld rfl fun a hE=>Yz hE Za ld rfl Tryz.underlying2 Tryz.underlying5 ?_); intro a hE
      rw [ZW] at hE
      refine Zi hE Za ld rfl rfl (UD x19 (ZC p2)) fun a hE=>Ze hE Za ld rfl fun a hE=>Zj ?_
      have ht25:=Option.some.inj hl22
      subst ht25
      refine Zn ?_
      exact ⟨hE.sub ⟨rfl,rfl,rfl,rfl,rfl,rfl,trivial⟩,hM⟩
     ·intro hb24
      have hl22:=ZB hl22 hb24
      refine wp_skip ?_
      have ht26:=Option.some.inj hl22
      subst ht26
      refine Zn ?_
      exact ⟨hE.sub ⟨rfl,rfl,rfl,rfl,rfl,rfl,trivial⟩,hM⟩
    ·skip
     rintro a w ⟨hE,hM⟩
     obtain ⟨x29,hi28,hF23⟩:=bvx hF23
     obtain ⟨x32,hi31,hF23⟩:=bvx hF23
     obtain ⟨x35,hi34,hF23⟩:=bvx hF23
     refine YC (n:=34) (hd:=[_,_,_,_,_,_,_,_,_]) (tl:=[_]) Y0 rfl rfl [24,25,26,27,28,29,30,31,32] (by decide) (fun w=>M (Old w0) w0 w [raw b5 (enc (Vector.replicate 16 (0 : UInt8))),raw b3 (enc s10.1),raw b1 (enc p0)]) (fun j=>([fun v _=>v = (vI s10.2),fun v _=>v = (vI s10.2),fun v _=>v = (ptr b3 (0 + (s10.2).toNat * 1)),fun v _=>v = (vB x29),fun v _=>v = (vB j21),fun v _=>v = (ptr b1 (0 + ((bI j21)).toNat * 1)),fun v _=>v = (vB x32),fun v _=>v = (vB (x29 ^^^ x32)),fun v _=>v = (ptr b3 (0 + (s10.2).toNat * 1))] : List (Value → World → Prop)).getD j (fun _ _=>True)) (fun _ _ h hk=>h.keep hk) (gup (Zk (Zk (Zk (Zk (Zk (Zk (Zk (Zk (Zk V1)))))))))) hE hM.drew (ZK (Zb ?_ (Zb ?_ (Zb ?_ (Zb ?_ (Zb ?_ (Zb ?_ (Zb ?_ (Zb ?_ (Zb ?_ ZF)))))))))) ?_
     ·exact fun a w ux27 hE hM hp=>Zd hE Za ld rfl fun a hE=>⟨Kept.refl _ _,_,_,rfl,hE,rfl⟩
     ·exact fun a w ux27 hE hM hp=>Zd hE Za ld rfl fun a hE=>⟨Kept.refl _ _,_,_,rfl,hE,rfl⟩
     ·intro a w ux27 hE hM hp
      have f1 : ux27 1 = (vI s10.2):=hp 0 _ rfl rfl
      exact Zr hE Za ld rfl (lk rfl f1) Tryz.underlying70 ty5 hi28.1 fun a hE=>⟨Kept.refl _ _,_,_,rfl,hE,rfl⟩
     ·intro a w ux27 hE hM hp
      have f2 : ux27 2 = (ptr b3 (0 + (s10.2).toNat * 1)):=hp 0 _ rfl rfl
      exact Zp (v:=(vB x29)) hE Za ld (lk rfl f2) ty5 rfl (At.vec (hM.rawAt (pre:=[_])) hi28.2) fun a hE=>⟨Kept.refl _ _,_,_,rfl,hE,rfl⟩
     ·exact fun a w ux27 hE hM hp=>Zd hE Za ld rfl fun a hE=>⟨Kept.refl _ _,_,_,rfl,hE,rfl⟩
     ·intro a w ux27 hE hM hp
      have f4 : ux27 4 = (vB j21):=hp 0 _ rfl rfl
      exact Zr hE Za ld rfl (lk rfl f4) Tryz.underlying167 ty5 hi31.1 fun a hE=>⟨Kept.refl _ _,_,_,rfl,hE,rfl⟩
     ·intro a w ux27 hE hM hp
      have f5 : ux27 5 = (ptr b1 (0 + ((bI j21)).toNat * 1)):=hp 0 _ rfl rfl
      exact Zp (v:=(vB x32)) hE Za ld (lk rfl f5) ty5 rfl (At.vec (hM.rawAt (pre:=[_,_])) hi31.2) fun a hE=>⟨Kept.refl _ _,_,_,rfl,hE,rfl⟩
     ·intro a w ux27 hE hM hp
      have f3 : ux27 3 = (vB x29):=hp 0 _ rfl rfl
      have f6 : ux27 6 = (vB x32):=hp 1 _ rfl rfl
      exact Zi hE Za ld (lk rfl f3) (lk rfl f6) (UD x29 x32) fun a hE=>⟨Kept.refl _ _,_,_,rfl,hE,rfl⟩
     ·intro a w ux27 hE hM hp
      have f0 : ux27 0 = (vI s10.2):=hp 0 _ rfl rfl
      exact Zr hE Za ld rfl (lk rfl f0) Tryz.underlying70 ty5 hi34.1 fun a hE=>⟨Kept.refl _ _,_,_,rfl,hE,rfl⟩
     ·intro a w ux27 hE hM hg
      have hE:=hE.sub (e':=[(31,(vB (x29 ^^^ x32))),(32,(ptr b3 (0 + (s10.2).toNat * 1))),(2,vI p2),(3,(ptr b1 0)),(4,(ptr b3 0)),(6,(ptr b5 0)),(7,vI s10.2),(8,vB j21)]) ⟨lk rfl (hg 7 (by decide)),lk rfl (hg 8 (by decide)),rfl,rfl,rfl,rfl,rfl,rfl,trivial⟩
      have hM:=hM.pull (pre:=[_])
      refine Zo (seg:=[(vB (x29 ^^^ x32))]) (cs':=enc (s10.1.setIfInBounds (s10.2).toNat (x29 ^^^ x32))) hE hM Za rfl rfl rfl ty5 rfl (ZR (v:=s10.1) (x:=x29 ^^^ x32) hi34.1) (Flat.cell (x29 ^^^ x32 : UInt8)) (ZJ (v:=s10.1) (x:=x29 ^^^ x32) hi34.1) fun w a hM hE=>Zj (Yb ?_)
      have ht37:=Option.some.inj hF23
      subst ht37
      refine Zn ?_
      have hM:=((hM.pull (pre:=[_,_])).pull (pre:=[_])).pull (pre:=[_,_])
      exact ⟨hE.sub ⟨rfl,rfl,rfl,rfl,rfl,trivial⟩,hM⟩
   ·skip
    rintro a w ⟨hE,hM⟩
    refine wp_region_lit (Zd hE Za ld rfl fun a hE=>Zi hE Za ld rfl rfl rfl fun a hE=>Ze hE Za ld rfl fun a hE=>Zj (Zn ?_))
    exact ⟨_,(ois hF17),hE.sub ⟨rfl,rfl,rfl,rfl,rfl,trivial⟩,hM⟩
  ·intro hb14
   have hs11:=ZB hs11 hb14
   refine wp_exit (Zq (Zq (Yf ?_)))
   have ht38:=hx12 _ (ois hs11)
   subst ht38
   refine Zn ?_
   have hM:=M.fst (l:=[_,_]) ((hM.pull (pre:=[_])).pull (pre:=[_]))
   exact ⟨hE.sub ⟨rfl,rfl,trivial⟩,hM⟩
 ·skip
  rintro a w ⟨hE,hM⟩
  refine Zz (Zc (Zm (cs:=enc j7) hE Za ld rfl ZH rfl (hM.rawAt (pre:=[_])) (Flat.len _) fun a hE=>Zo (seg:=enc j7) (cs':=enc j7) hE hM Za rfl rfl rfl ZH (Flat.len _) (zle flq) (Flat.cell _) (Zl flq) fun w a hM hE=>Zf ?_))
  have hr:=Option.some.inj hF9
  subst hr
  have hq39 : Yw Tryz.prog _ _ (.cell 6 70) _:=ZO hE rfl ZH rfl (hM.rawAt (pre:=[])) (Flat.len _) rfl
  have hM:=M.fst (l:=[]) hM
  exact wp_ret (Zy hE rfl hq39 ⟨_,rfl,rfl,hM.kept⟩)
def W0 (p0 : GCipher) (p2 : Int) (s12 : (Vector UInt8 16) × (List (Vector UInt8 16)) × Int) : Option (Fl ((Vector UInt8 16) × (List (Vector UInt8 16)) × Int) (List (Vector UInt8 16))) :=
 if (decide (s12.2.2 ≤ p2)) = true then ((US p0.Box s12.1 s12.2.2).bind fun r19=>(app 16 s12.2.1 ([r19] : List (Vector UInt8 16))).bind fun l23=>some (Fl.nx (r19,(s12.2.1 ++ ([r19] : List (Vector UInt8 16))),wr (s12.2.2 + 1)))) else (some (Fl.ex s12.2.1))
def UO (p0 : GCipher) (p1 : (Vector UInt8 16)) (p2 : Int) : Option ((List (Vector UInt8 16))) :=
 (ZG (W0 p0 p2) (p1,([p1] : List (Vector UInt8 16)),1)).bind fun j7=>some j7
theorem BL (w0 : World) (p0 : GCipher) (p1 : (Vector UInt8 16)) (p2 : Int) (r : (List (Vector UInt8 16))) (hF : UO p0 p1 p2 = some r) :
  Calls Tryz.prog 241 [(Value.agg (enc p0).toArray),(Value.agg (enc p1).toArray),vI p2].toArray w0 (fun en w'=>∃ v,en = .returned v ∧ (∃ (y1 : Value),v = y1 ∧ Fr w0 w' [osl NoB (r : List (Vector UInt8 16)) y1] ∧ Kept (Old w0) w0 w')):=by
 refine ZD (n:=26) Tryz.func241 rfl rfl (nbl rfl) rfl ?_
 intro a hE
 have hM:=M.start w0
 unfold UO at hF
 refine Zc (ZY (cs:=cat [[vI p0.Field],enc p0.Box,enc p0.Mix,enc p0.Places,[vI p0.Rounds]]) hE hM Za ld rfl rfl fun b1 w a hM hE=>ZY (cs:=enc p1) hE hM Za ld rfl rfl fun b3 w a hM hE=>Ze hE Za ld rfl fun a hE=>Zf (Zc (Zm (cs:=enc p1) hE Za ld rfl ZH rfl (hM.rawAt (pre:=[])) (Flat.len _) fun a hE=>Yk (xs:=[.tmp 9]) (l:=([p1] : List (Vector UInt8 16))) (vs:=[(Value.agg (enc p1).toArray)]) hE hM Za ld rfl rfl Tryz.underlying32 ZH rfl (by decide) rfl fun u5 w a hM hE=>Ze hE Za ld rfl fun a hE=>Zf (wp_seq (Zc (Ze hE Za ld rfl fun a hE=>Zf ?_))))))
 obtain ⟨j7,hl8,hF9⟩:=bind_some hF
 refine ZP (fun a w=>∃ (u10 : Value),Env 26 a [(7,u10)] ∧ M (Old w0) w0 w [osl NoB (j7 : List (Vector UInt8 16)) u10]) ?_ ?_
 ·skip
  refine wp_block ?_
  have hM:=(hM.pull (pre:=[_,_])).pull (pre:=[_,_])
  refine ZI (fun (s12 : (Vector UInt8 16) × (List (Vector UInt8 16)) × Int) a w=>∃ (u13 : Value),Env 26 a [(2,vI p2),(3,(ptr b1 0)),(4,(ptr b3 0)),(7,u13),(8,vI s12.2.2)] ∧ M (Old w0) w0 w [raw b3 (enc s12.1),raw b1 (cat [[vI p0.Field],enc p0.Box,enc p0.Mix,enc p0.Places,[vI p0.Rounds]]),osl NoB (s12.2.1 : List (Vector UInt8 16)) u13]) hl8 ⟨u5,hE.sub ⟨rfl,rfl,rfl,rfl,rfl,trivial⟩,hM⟩ ?_
  rintro s12 a w ⟨u13,hE,hM⟩ o17 hs15 hx16
  unfold W0 at hs15
  refine wp_seq (Zc (Zd hE Za ld rfl fun a hE=>Zd hE Za ld rfl fun a hE=>Zi hE Za ld rfl rfl rfl fun a hE=>Zf ?_))
  refine Zs hE rfl ?_ ?_
  ·intro hb18
   have hs15:=ZA hs15 hb18
   refine wp_skip (Zz (wp_seq (wp_block (Zc (Zg hE Za ld rfl (KO) fun a hE=>Zm (cs:=enc p0.Box) hE Za ld rfl XG rfl (At.cat (pre:=[[vI p0.Field]]) (hM.rawAt (pre:=[_])) (cl1 (n:=1) (m:=0) rfl cl0)) (Flat.len _) fun a hE=>Zm (cs:=enc s12.1) hE Za ld rfl ZH rfl (hM.rawAt (pre:=[])) (Flat.len _) fun a hE=>Zd hE Za ld rfl ?_))))); intro a hE
   obtain ⟨r19,e20,hs15⟩:=bind_some hs15
   refine Zt hE Za ld rfl cb250 (BZ _ p0.Box s12.1 s12.2.2 r19 e20) ?_
   rintro v w a ⟨rfl,hK⟩ hE
   have hM:=hM.keep hK
   refine Zo (seg:=enc r19) (cs':=enc r19) hE hM Za rfl rfl rfl ZH (Flat.len _) (zle flq) (Flat.cell _) (Zl flq) fun w a hM hE=>Zf (wp_region_lit (Zd hE Za ld rfl fun a hE=>Zm (cs:=enc r19) hE Za ld rfl ZH rfl (hM.rawAt (pre:=[])) (Flat.len _) fun a hE=>Yk (xs:=[.tmp 22]) (l:=([r19] : List (Vector UInt8 16))) (vs:=[(Value.agg (enc r19).toArray)]) hE hM Za ld rfl rfl Tryz.underlying32 ZH rfl (by decide) rfl ?_)); intro u21 w a hM hE
   obtain ⟨l23,e24,hs15⟩:=bind_some hs15
   obtain ⟨e27,rfl⟩:=Yv e24
   have hM:=hM.pull (pre:=[_,_,_])
   refine Yn hE hM Za ld rfl rfl (hM.sl (pre:=[_]) noB) Tryz.underlying32 ZH rfl (by decide) e27 fun u25 w a hM hE=>Ze hE Za ld rfl fun a hE=>Zj (Yb (Zz (wp_region_lit (Zd hE Za ld rfl fun a hE=>Zi hE Za ld rfl rfl rfl fun a hE=>Ze hE Za ld rfl fun a hE=>Zj (Zn ?_)))))
   have hM:=M.fst (l:=[_,_,_]) ((hM.pull (pre:=[_,_,_])).pull (pre:=[_,_,_]))
   exact ⟨_,(ois hs15),u25,hE.sub ⟨rfl,rfl,rfl,rfl,rfl,trivial⟩,hM⟩
  ·intro hb18
   have hs15:=ZB hs15 hb18
   refine wp_exit (Zq (Zq (Yf ?_)))
   have ht28:=hx16 _ (ois hs15)
   subst ht28
   refine Zn ?_
   have hM:=M.fst (l:=[_]) (hM.pull (pre:=[_,_]))
   exact ⟨u13,hE.sub ⟨rfl,trivial⟩,hM⟩
 ·skip
  rintro a w ⟨u10,hE,hM⟩
  refine Zz (Zc (Zd hE Za ld rfl fun a hE=>Ze hE Za ld rfl fun a hE=>Zf ?_))
  have hr:=Option.some.inj hF9
  subst hr
  exact wp_ret (Zy hE rfl (Zu hE rfl) ⟨_,rfl,u10,rfl,hM.outF (Yo Xs),hM.kept⟩)
def WC (p0 : (Vector UInt8 256)) (s10 : (Vector UInt8 16) × Int) : Option (Fl ((Vector UInt8 16) × Int) (Vector UInt8 16)) :=
 if (decide (s10.2 < 16)) = true then ((ZM s10.1 s10.2).bind fun x16=>(ZM p0 (bI x16)).bind fun x19=>(ZM s10.1 s10.2).bind fun x22=>some (Fl.nx ((s10.1.setIfInBounds (s10.2).toNat x19),wr (s10.2 + 1)))) else (some (Fl.ex s10.1))
def Uv (p0 : (Vector UInt8 256)) (p1 : (Vector UInt8 16)) : Option ((Vector UInt8 16)) :=
 (ZG (WC p0) (p1,0)).bind fun j7=>some j7
theorem H5 (w0 : World) (p0 : (Vector UInt8 256)) (p1 : (Vector UInt8 16)) (r : (Vector UInt8 16)) (hF : Uv p0 p1 = some r) :
  Calls Tryz.prog 243 [(Value.agg (enc p0).toArray),(Value.agg (enc p1).toArray)].toArray w0 (fun en w'=>∃ v,en = .returned v ∧ (v = (Value.agg (enc r).toArray) ∧ Kept (Old w0) w0 w')):=by
 refine ZD (n:=18) Tryz.func243 rfl rfl (nbl rfl) rfl ?_
 intro a hE
 have hM:=M.start w0
 unfold Uv at hF
 refine Zc (ZY (cs:=enc p0) hE hM Za ld rfl rfl fun b1 w a hM hE=>ZY (cs:=enc p1) hE hM Za ld rfl rfl fun b3 w a hM hE=>ZE hE hM Za ld ZH fun b5 w a hM hE=>Zf (wp_seq (Zc (Ze hE Za ld rfl fun a hE=>Zf ?_))))
 obtain ⟨j7,hl8,hF9⟩:=bind_some hF
 refine ZP (fun a w=>Env 18 a [(3,(ptr b3 0)),(4,(ptr b5 0))] ∧ M (Old w0) w0 w [raw b5 (enc (Vector.replicate 16 (0 : UInt8))),raw b3 (enc j7)]) ?_ ?_
 ·skip
  refine wp_block ?_
  refine ZI (fun (s10 : (Vector UInt8 16) × Int) a w=>Env 18 a [(2,(ptr b1 0)),(3,(ptr b3 0)),(4,(ptr b5 0)),(5,vI s10.2)] ∧ M (Old w0) w0 w [raw b5 (enc (Vector.replicate 16 (0 : UInt8))),raw b3 (enc s10.1),raw b1 (enc p0)]) hl8 ⟨hE.sub ⟨rfl,rfl,rfl,rfl,trivial⟩,hM⟩ ?_
  rintro s10 a w ⟨hE,hM⟩ o13 hs11 hx12
  unfold WC at hs11
  refine wp_seq (Zc (Zd hE Za ld rfl fun a hE=>Zi hE Za ld rfl rfl rfl fun a hE=>Zf ?_))
  refine Zs hE rfl ?_ ?_
  ·intro hb14
   have hs11:=ZA hs11 hb14
   refine wp_skip (Zz (wp_seq (wp_block (wp_region_lit (Zd hE Za ld rfl fun a hE=>Zd hE Za ld rfl ?_))))); intro a hE
   obtain ⟨x16,hi15,hs11⟩:=bvx hs11
   refine Zr hE Za ld rfl rfl Tryz.underlying70 ty5 hi15.1 fun a hE=>Zp (v:=(vB x16)) hE Za ld rfl ty5 rfl (At.vec (hM.rawAt (pre:=[_])) hi15.2) ?_; intro a hE
   obtain ⟨x19,hi18,hs11⟩:=bvx hs11
   refine Zr hE Za ld rfl rfl Tryz.underlying167 ty5 hi18.1 fun a hE=>Zp (v:=(vB x19)) hE Za ld rfl ty5 rfl (At.vec (hM.rawAt (pre:=[_,_])) hi18.2) ?_; intro a hE
   obtain ⟨x22,hi21,hs11⟩:=bvx hs11
   refine Zr hE Za ld rfl rfl Tryz.underlying70 ty5 hi21.1 ?_; intro a hE
   have hM:=hM.pull (pre:=[_])
   refine Zo (seg:=[vB x19]) (cs':=enc (s10.1.setIfInBounds (s10.2).toNat x19)) hE hM Za rfl rfl rfl ty5 rfl (ZR (v:=s10.1) (x:=x19) hi21.1) (Flat.cell (x19 : UInt8)) (ZJ (v:=s10.1) (x:=x19) hi21.1) fun w a hM hE=>Zj (Yb (Zz (wp_region_lit (Zd hE Za ld rfl fun a hE=>Zi hE Za ld rfl rfl rfl fun a hE=>Ze hE Za ld rfl fun a hE=>Zj (Zn ?_)))))
   have hM:=((hM.pull (pre:=[_,_])).pull (pre:=[_])).pull (pre:=[_,_])
   exact ⟨_,(ois hs11),hE.sub ⟨rfl,rfl,rfl,rfl,trivial⟩,hM⟩
  ·intro hb14
   have hs11:=ZB hs11 hb14
   refine wp_exit (Zq (Zq (Yf ?_)))
   have ht24:=hx12 _ (ois hs11)
   subst ht24
   refine Zn ?_
   have hM:=M.fst (l:=[_,_]) ((hM.pull (pre:=[_])).pull (pre:=[_]))
   exact ⟨hE.sub ⟨rfl,rfl,trivial⟩,hM⟩
 ·skip
  rintro a w ⟨hE,hM⟩
  refine Zz (Zc (Zm (cs:=enc j7) hE Za ld rfl ZH rfl (hM.rawAt (pre:=[_])) (Flat.len _) fun a hE=>Zo (seg:=enc j7) (cs':=enc j7) hE hM Za rfl rfl rfl ZH (Flat.len _) (zle flq) (Flat.cell _) (Zl flq) fun w a hM hE=>Zf ?_))
  have hr:=Option.some.inj hF9
  subst hr
  have hq25 : Yw Tryz.prog _ _ (.cell 4 70) _:=ZO hE rfl ZH rfl (hM.rawAt (pre:=[])) (Flat.len _) rfl
  have hM:=M.fst (l:=[]) hM
  exact wp_ret (Zy hE rfl hq25 ⟨_,rfl,rfl,hM.kept⟩)
def W2 (p0 : (Vector UInt8 16)) (p1 : (Vector UInt8 16)) (s12 : (Vector UInt8 16) × Int) : Option (Fl ((Vector UInt8 16) × Int) (Vector UInt8 16)) :=
 if (decide (s12.2 < 16)) = true then ((ZM p0 s12.2).bind fun x18=>(ZM p1 (bI x18)).bind fun x21=>(ZM s12.1 s12.2).bind fun x24=>some (Fl.nx ((s12.1.setIfInBounds (s12.2).toNat x21),wr (s12.2 + 1)))) else (some (Fl.ex s12.1))
def UX (p0 : (Vector UInt8 16)) (p1 : (Vector UInt8 16)) : Option ((Vector UInt8 16)) :=
 (ZG (W2 p0 p1) ((Vector.replicate 16 (0 : UInt8)),0)).bind fun j9=>some j9
theorem BO (w0 : World) (p0 : (Vector UInt8 16)) (p1 : (Vector UInt8 16)) (r : (Vector UInt8 16)) (hF : UX p0 p1 = some r) :
  Calls Tryz.prog 242 [(Value.agg (enc p0).toArray),(Value.agg (enc p1).toArray)].toArray w0 (fun en w'=>∃ v,en = .returned v ∧ (v = (Value.agg (enc r).toArray) ∧ Kept (Old w0) w0 w')):=by
 refine ZD (n:=20) Tryz.func242 rfl rfl (nbl rfl) rfl ?_
 intro a hE
 have hM:=M.start w0
 unfold UX at hF
 refine Zc (ZY (cs:=enc p0) hE hM Za ld rfl rfl fun b1 w a hM hE=>ZY (cs:=enc p1) hE hM Za ld rfl rfl fun b3 w a hM hE=>ZE hE hM Za ld ZH fun b5 w a hM hE=>Zf (Zc (XI (parts:=[]) (vs:=[]) (cs:=enc (Vector.replicate 16 (0 : UInt8))) hE Za ld rfl rfl ZH rfl ty5 Y5 fun a hE=>ZE hE hM Za ld ZH fun b7 w a hM hE=>Zo (seg:=enc (Vector.replicate 16 (0 : UInt8))) (cs':=enc (Vector.replicate 16 (0 : UInt8))) hE hM Za rfl rfl rfl ZH (Flat.len _) (zle flq) (Flat.cell _) (Zl flq) fun w a hM hE=>Zf (wp_seq (Zc (Ze hE Za ld rfl fun a hE=>Zf ?_))))))
 obtain ⟨j9,hl10,hF11⟩:=bind_some hF
 refine ZP (fun a w=>Env 20 a [(4,(ptr b5 0)),(5,(ptr b7 0))] ∧ M (Old w0) w0 w [raw b7 (enc j9),raw b5 (enc (Vector.replicate 16 (0 : UInt8)))]) ?_ ?_
 ·skip
  refine wp_block ?_
  refine ZI (fun (s12 : (Vector UInt8 16) × Int) a w=>Env 20 a [(2,(ptr b1 0)),(3,(ptr b3 0)),(4,(ptr b5 0)),(5,(ptr b7 0)),(6,vI s12.2)] ∧ M (Old w0) w0 w [raw b7 (enc s12.1),raw b5 (enc (Vector.replicate 16 (0 : UInt8))),raw b3 (enc p1),raw b1 (enc p0)]) hl10 ⟨hE.sub ⟨rfl,rfl,rfl,rfl,rfl,trivial⟩,hM⟩ ?_
  rintro s12 a w ⟨hE,hM⟩ o15 hs13 hx14
  unfold W2 at hs13
  refine wp_seq (Zc (Zd hE Za ld rfl fun a hE=>Zi hE Za ld rfl rfl rfl fun a hE=>Zf ?_))
  refine Zs hE rfl ?_ ?_
  ·intro hb16
   have hs13:=ZA hs13 hb16
   refine wp_skip (Zz (wp_seq (wp_block (wp_region_lit (Zd hE Za ld rfl fun a hE=>Zd hE Za ld rfl ?_))))); intro a hE
   obtain ⟨x18,hi17,hs13⟩:=bvx hs13
   refine Zr hE Za ld rfl rfl Tryz.underlying171 ty5 hi17.1 fun a hE=>Zp (v:=(vB x18)) hE Za ld rfl ty5 rfl (At.vec (hM.rawAt (pre:=[_,_,_])) hi17.2) ?_; intro a hE
   obtain ⟨x21,hi20,hs13⟩:=bvx hs13
   refine Zr hE Za ld rfl rfl Tryz.underlying70 ty5 hi20.1 fun a hE=>Zp (v:=(vB x21)) hE Za ld rfl ty5 rfl (At.vec (hM.rawAt (pre:=[_,_])) hi20.2) ?_; intro a hE
   obtain ⟨x24,hi23,hs13⟩:=bvx hs13
   refine Zr hE Za ld rfl rfl Tryz.underlying70 ty5 hi23.1 fun a hE=>Zo (seg:=[vB x21]) (cs':=enc (s12.1.setIfInBounds (s12.2).toNat x21)) hE hM Za rfl rfl rfl ty5 rfl (ZR (v:=s12.1) (x:=x21) hi23.1) (Flat.cell (x21 : UInt8)) (ZJ (v:=s12.1) (x:=x21) hi23.1) fun w a hM hE=>Zj (Yb (Zz (wp_region_lit (Zd hE Za ld rfl fun a hE=>Zi hE Za ld rfl rfl rfl fun a hE=>Ze hE Za ld rfl fun a hE=>Zj (Zn ?_)))))
   exact ⟨_,(ois hs13),hE.sub ⟨rfl,rfl,rfl,rfl,rfl,trivial⟩,hM⟩
  ·intro hb16
   have hs13:=ZB hs13 hb16
   refine wp_exit (Zq (Zq (Yf ?_)))
   have ht26:=hx14 _ (ois hs13)
   subst ht26
   refine Zn ?_
   have hM:=M.fst (l:=[_,_]) ((hM.pull (pre:=[_])).pull (pre:=[_]))
   exact ⟨hE.sub ⟨rfl,rfl,trivial⟩,hM⟩
 ·skip
  rintro a w ⟨hE,hM⟩
  refine Zz (Zc (Zm (cs:=enc j9) hE Za ld rfl ZH rfl (hM.rawAt (pre:=[])) (Flat.len _) ?_)); intro a hE
  have hM:=hM.pull (pre:=[_])
  refine Zo (seg:=enc j9) (cs':=enc j9) hE hM Za rfl rfl rfl ZH (Flat.len _) (zle flq) (Flat.cell _) (Zl flq) fun w a hM hE=>Zf ?_
  have hr:=Option.some.inj hF11
  subst hr
  have hq27 : Yw Tryz.prog _ _ (.cell 4 70) _:=ZO hE rfl ZH rfl (hM.rawAt (pre:=[])) (Flat.len _) rfl
  have hM:=M.fst (l:=[]) hM
  exact wp_ret (Zy hE rfl hq27 ⟨_,rfl,rfl,hM.kept⟩)
def XT (p0 : Int) (p1 : (Vector (Vector UInt8 4) 4)) (p2 : (Vector UInt8 16)) (s12 : (Vector UInt8 16) × Int) (s20 : (Vector UInt8 16) × Int) (s28 : (Vector UInt8 16) × Int) : Option (Fl ((Vector UInt8 16) × Int) (Vector UInt8 16)) :=
 if (decide (s28.2 < 4)) = true then ((ZM s28.1 (wr ((wr (4 * s12.2)) + s20.2))).bind fun x35=>(ZM p1 s20.2).bind fun x38=>(ZM x38 s28.2).bind fun x41=>(ZM p2 (wr ((wr (4 * s12.2)) + s28.2))).bind fun x44=>(YW p0 x41 x44).bind fun r46=>(ZM s28.1 (wr ((wr (4 * s12.2)) + s20.2))).bind fun x49=>some (Fl.nx ((s28.1.setIfInBounds ((wr ((wr (4 * s12.2)) + s20.2))).toNat (x35 ^^^ r46)),wr (s28.2 + 1)))) else (some (Fl.ex s28.1))
def VD (p0 : Int) (p1 : (Vector (Vector UInt8 4) 4)) (p2 : (Vector UInt8 16)) (s12 : (Vector UInt8 16) × Int) (s20 : (Vector UInt8 16) × Int) : Option (Fl ((Vector UInt8 16) × Int) (Vector UInt8 16)) :=
 if (decide (s20.2 < 4)) = true then ((ZG (XT p0 p1 p2 s12 s20) (s20.1,0)).bind fun j25=>some (Fl.nx (j25,wr (s20.2 + 1)))) else (some (Fl.ex s20.1))
def VV (p0 : Int) (p1 : (Vector (Vector UInt8 4) 4)) (p2 : (Vector UInt8 16)) (s12 : (Vector UInt8 16) × Int) : Option (Fl ((Vector UInt8 16) × Int) (Vector UInt8 16)) :=
 if (decide (s12.2 < 4)) = true then ((ZG (VD p0 p1 p2 s12) (s12.1,0)).bind fun j17=>some (Fl.nx (j17,wr (s12.2 + 1)))) else (some (Fl.ex s12.1))
def Ts (p0 : Int) (p1 : (Vector (Vector UInt8 4) 4)) (p2 : (Vector UInt8 16)) : Option ((Vector UInt8 16)) :=
 (ZG (VV p0 p1 p2) ((Vector.replicate 16 (0 : UInt8)),0)).bind fun j9=>some j9
theorem Aj (w0 : World) (p0 : Int) (p1 : (Vector (Vector UInt8 4) 4)) (p2 : (Vector UInt8 16)) (r : (Vector UInt8 16)) (hF : Ts p0 p1 p2 = some r) :
  Calls Tryz.prog 244 [vI p0,(Value.agg (enc p1).toArray),(Value.agg (enc p2).toArray)].toArray w0 (fun en w'=>∃ v,en = .returned v ∧ (v = (Value.agg (enc r).toArray) ∧ Kept (Old w0) w0 w')):=by
 refine ZD (n:=50) Tryz.func244 rfl rfl (nbl rfl) rfl ?_
 intro a hE
 have hM:=M.start w0
 unfold Ts at hF
 refine Zc (ZY (cs:=enc p1) hE hM Za ld rfl rfl fun b1 w a hM hE=>ZY (cs:=enc p2) hE hM Za ld rfl rfl fun b3 w a hM hE=>ZE hE hM Za ld ZH fun b5 w a hM hE=>Zf (Zc (XI (parts:=[]) (vs:=[]) (cs:=enc (Vector.replicate 16 (0 : UInt8))) hE Za ld rfl rfl ZH rfl ty5 Y5 fun a hE=>ZE hE hM Za ld ZH fun b7 w a hM hE=>Zo (seg:=enc (Vector.replicate 16 (0 : UInt8))) (cs':=enc (Vector.replicate 16 (0 : UInt8))) hE hM Za rfl rfl rfl ZH (Flat.len _) (zle flq) (Flat.cell _) (Zl flq) fun w a hM hE=>Zf (wp_seq (Zc (Ze hE Za ld rfl fun a hE=>Zf ?_))))))
 obtain ⟨j9,hl10,hF11⟩:=bind_some hF
 refine ZP (fun a w=>Env 50 a [(6,(ptr b5 0)),(7,(ptr b7 0))] ∧ M (Old w0) w0 w [raw b7 (enc j9),raw b5 (enc (Vector.replicate 16 (0 : UInt8)))]) ?_ ?_
 ·skip
  refine wp_block ?_
  refine ZI (fun (s12 : (Vector UInt8 16) × Int) a w=>Env 50 a [(0,vI p0),(4,(ptr b1 0)),(5,(ptr b3 0)),(6,(ptr b5 0)),(7,(ptr b7 0)),(8,vI s12.2)] ∧ M (Old w0) w0 w [raw b7 (enc s12.1),raw b5 (enc (Vector.replicate 16 (0 : UInt8))),raw b3 (enc p2),raw b1 (enc p1)]) hl10 ⟨hE.sub ⟨rfl,rfl,rfl,rfl,rfl,rfl,trivial⟩,hM⟩ ?_
  rintro s12 a w ⟨hE,hM⟩ o15 hs13 hx14
  unfold VV at hs13
  refine wp_seq (Zc (Zd hE Za ld rfl fun a hE=>Zi hE Za ld rfl rfl rfl fun a hE=>Zf ?_))
  refine Zs hE rfl ?_ ?_
  ·intro hb16
   have hs13:=ZA hs13 hb16
   refine wp_skip (Zz (wp_seq (wp_block (Zc (Ze hE Za ld rfl fun a hE=>Zf ?_)))))
   obtain ⟨j17,hl18,hF19⟩:=bind_some hs13
   refine ZP (fun a w=>Env 50 a [(0,vI p0),(4,(ptr b1 0)),(5,(ptr b3 0)),(6,(ptr b5 0)),(7,(ptr b7 0)),(8,vI s12.2)] ∧ M (Old w0) w0 w [raw b7 (enc j17),raw b5 (enc (Vector.replicate 16 (0 : UInt8))),raw b3 (enc p2),raw b1 (enc p1)]) ?_ ?_
   ·skip
    refine wp_block ?_
    refine ZI (fun (s20 : (Vector UInt8 16) × Int) a w=>Env 50 a [(0,vI p0),(4,(ptr b1 0)),(5,(ptr b3 0)),(6,(ptr b5 0)),(7,(ptr b7 0)),(8,vI s12.2),(9,vI s20.2)] ∧ M (Old w0) w0 w [raw b7 (enc s20.1),raw b5 (enc (Vector.replicate 16 (0 : UInt8))),raw b3 (enc p2),raw b1 (enc p1)]) hl18 ⟨hE.sub ⟨rfl,rfl,rfl,rfl,rfl,rfl,rfl,trivial⟩,hM⟩ ?_
    rintro s20 a w ⟨hE,hM⟩ o23 hs21 hx22
    unfold VD at hs21
    refine wp_seq (Zc (Zd hE Za ld rfl fun a hE=>Zi hE Za ld rfl rfl rfl fun a hE=>Zf ?_))
    refine Zs hE rfl ?_ ?_
    ·intro hb24
     have hs21:=ZA hs21 hb24
     refine wp_skip (Zz (wp_seq (wp_block (Zc (Ze hE Za ld rfl fun a hE=>Zf ?_)))))
     obtain ⟨j25,hl26,hF27⟩:=bind_some hs21
     refine ZP (fun a w=>Env 50 a [(0,vI p0),(4,(ptr b1 0)),(5,(ptr b3 0)),(6,(ptr b5 0)),(7,(ptr b7 0)),(8,vI s12.2),(9,vI s20.2)] ∧ M (Old w0) w0 w [raw b7 (enc j25),raw b5 (enc (Vector.replicate 16 (0 : UInt8))),raw b3 (enc p2),raw b1 (enc p1)]) ?_ ?_
     ·skip
      refine wp_block ?_
      refine ZI (fun (s28 : (Vector UInt8 16) × Int) a w=>Env 50 a [(0,vI p0),(4,(ptr b1 0)),(5,(ptr b3 0)),(6,(ptr b5 0)),(7,(ptr b7 0)),(8,vI s12.2),(9,vI s20.2),(10,vI s28.2)] ∧ M (Old w0) w0 w [raw b7 (enc s28.1),raw b5 (enc (Vector.replicate 16 (0 : UInt8))),raw b3 (enc p2),raw b1 (enc p1)]) hl26 ⟨hE.sub ⟨rfl,rfl,rfl,rfl,rfl,rfl,rfl,rfl,trivial⟩,hM⟩ ?_
      rintro s28 a w ⟨hE,hM⟩ o31 hs29 hx30
      unfold XT at hs29
      refine wp_seq (Zc (Zd hE Za ld rfl fun a hE=>Zi hE Za ld rfl rfl rfl fun a hE=>Zf ?_))
      refine Zs hE rfl ?_ ?_
      ·intro hb32
       have hs29:=ZA hs29 hb32
       refine wp_skip (Zz (wp_seq (wp_block ?_)))
       obtain ⟨x35,hi34,hs29⟩:=bvx hs29
       obtain ⟨x38,hi37,hs29⟩:=bvx hs29
       obtain ⟨x41,hi40,hs29⟩:=bvx hs29
       obtain ⟨x44,hi43,hs29⟩:=bvx hs29
       obtain ⟨r46,e47,hs29⟩:=bind_some hs29
       obtain ⟨x49,hi48,hs29⟩:=bvx hs29
       refine YC (n:=50) (hd:=[_,_,_,_,_,_,_,_,_,_,_,_,_,_,_,_,_,_,_,_,_,_,_,_,_]) (tl:=[_]) Y0 rfl rfl [24,25,26,27,28,29,30,31,32,33,34,35,36,37,38,39,40,41,42,43,44,45,46,47,48] (by decide) (fun w=>M (Old w0) w0 w [raw b7 (enc s28.1),raw b5 (enc (Vector.replicate 16 (0 : UInt8))),raw b3 (enc p2),raw b1 (enc p1)]) (fun j=>([fun v _=>v = (vI s12.2),fun v _=>v = (vI (wr (4 * s12.2))),fun v _=>v = (vI s20.2),fun v _=>v = (vI (wr ((wr (4 * s12.2)) + s20.2))),fun v _=>v = (vI s12.2),fun v _=>v = (vI (wr (4 * s12.2))),fun v _=>v = (vI s20.2),fun v _=>v = (vI (wr ((wr (4 * s12.2)) + s20.2))),fun v _=>v = (ptr b7 (0 + ((wr ((wr (4 * s12.2)) + s20.2))).toNat * 1)),fun v _=>v = (vB x35),fun v _=>v = (vI p0),fun v _=>v = (vI s20.2),fun v _=>v = (vI s28.2),fun v _=>v = (ptr b1 (0 + (s20.2).toNat * 4)),fun v _=>v = (ptr b1 (0 + (s20.2).toNat * 4 + (s28.2).toNat * 1)),fun v _=>v = (vB x41),fun v _=>v = (vI s12.2),fun v _=>v = (vI (wr (4 * s12.2))),fun v _=>v = (vI s28.2),fun v _=>v = (vI (wr ((wr (4 * s12.2)) + s28.2))),fun v _=>v = (ptr b3 (0 + ((wr ((wr (4 * s12.2)) + s28.2))).toNat * 1)),fun v _=>v = (vB x44),fun v _=>v = (vB r46),fun v _=>v = (vB (x35 ^^^ r46)),fun v _=>v = (ptr b7 (0 + ((wr ((wr (4 * s12.2)) + s20.2))).toNat * 1))] : List (Value → World → Prop)).getD j (fun _ _=>True)) (fun _ _ h hk=>h.keep hk) (gup (Zk (Zk (Zk (Zk (Zk (Zk (Zk (Zk (Zk (Zk (Zk (Zk (Zk (Zk (Zk (Zk (Zk (Zk (Zk (Zk (Zk (Zk (Zk (Zk (Zk V1)))))))))))))))))))))))))) hE hM.drew (ZK (Zb ?_ (Zb ?_ (Zb ?_ (Zb ?_ (Zb ?_ (Zb ?_ (Zb ?_ (Zb ?_ (Zb ?_ (Zb ?_ (Zb ?_ (Zb ?_ (Zb ?_ (Zb ?_ (Zb ?_ (Zb ?_ (Zb ?_ (Zb ?_ (Zb ?_ (Zb ?_ (Zb ?_ (Zb ?_ (Zb ?_ (Zb ?_ (Zb ?_ ZF)))))))))))))))))))))))))) ?_
       ·exact fun a w ux33 hE hM hp=>Zd hE Za ld rfl fun a hE=>⟨Kept.refl _ _,_,_,rfl,hE,rfl⟩
       ·intro a w ux33 hE hM hp
        have f0 : ux33 0 = (vI s12.2):=hp 0 _ rfl rfl
        exact Zi hE Za ld rfl (lk rfl f0) rfl fun a hE=>⟨Kept.refl _ _,_,_,rfl,hE,rfl⟩
       ·exact fun a w ux33 hE hM hp=>Zd hE Za ld rfl fun a hE=>⟨Kept.refl _ _,_,_,rfl,hE,rfl⟩
       ·intro a w ux33 hE hM hp
        have f1 : ux33 1 = (vI (wr (4 * s12.2))):=hp 0 _ rfl rfl
        have f2 : ux33 2 = (vI s20.2):=hp 1 _ rfl rfl
        exact Zi hE Za ld (lk rfl f1) (lk rfl f2) rfl fun a hE=>⟨Kept.refl _ _,_,_,rfl,hE,rfl⟩
       ·exact fun a w ux33 hE hM hp=>Zd hE Za ld rfl fun a hE=>⟨Kept.refl _ _,_,_,rfl,hE,rfl⟩
       ·intro a w ux33 hE hM hp
        have f4 : ux33 4 = (vI s12.2):=hp 0 _ rfl rfl
        exact Zi hE Za ld rfl (lk rfl f4) rfl fun a hE=>⟨Kept.refl _ _,_,_,rfl,hE,rfl⟩
       ·exact fun a w ux33 hE hM hp=>Zd hE Za ld rfl fun a hE=>⟨Kept.refl _ _,_,_,rfl,hE,rfl⟩
       ·intro a w ux33 hE hM hp
        have f5 : ux33 5 = (vI (wr (4 * s12.2))):=hp 0 _ rfl rfl
        have f6 : ux33 6 = (vI s20.2):=hp 1 _ rfl rfl
        exact Zi hE Za ld (lk rfl f5) (lk rfl f6) rfl fun a hE=>⟨Kept.refl _ _,_,_,rfl,hE,rfl⟩
       ·intro a w ux33 hE hM hp
        have f7 : ux33 7 = (vI (wr ((wr (4 * s12.2)) + s20.2))):=hp 0 _ rfl rfl
        exact Zr hE Za ld rfl (lk rfl f7) Tryz.underlying70 ty5 hi34.1 fun a hE=>⟨Kept.refl _ _,_,_,rfl,hE,rfl⟩
       ·intro a w ux33 hE hM hp
        have f8 : ux33 8 = (ptr b7 (0 + ((wr ((wr (4 * s12.2)) + s20.2))).toNat * 1)):=hp 0 _ rfl rfl
        exact Zp (v:=(vB x35)) hE Za ld (lk rfl f8) ty5 rfl (At.vec (hM.rawAt (pre:=[])) hi34.2) fun a hE=>⟨Kept.refl _ _,_,_,rfl,hE,rfl⟩
       ·exact fun a w ux33 hE hM hp=>Zd hE Za ld rfl fun a hE=>⟨Kept.refl _ _,_,_,rfl,hE,rfl⟩
       ·exact fun a w ux33 hE hM hp=>Zd hE Za ld rfl fun a hE=>⟨Kept.refl _ _,_,_,rfl,hE,rfl⟩
       ·exact fun a w ux33 hE hM hp=>Zd hE Za ld rfl fun a hE=>⟨Kept.refl _ _,_,_,rfl,hE,rfl⟩
       ·intro a w ux33 hE hM hp
        have f11 : ux33 11 = (vI s20.2):=hp 0 _ rfl rfl
        exact Zr hE Za ld rfl (lk rfl f11) Tryz.underlying170 XC hi37.1 fun a hE=>⟨Kept.refl _ _,_,_,rfl,hE,rfl⟩
       ·intro a w ux33 hE hM hp
        have f12 : ux33 12 = (vI s28.2):=hp 1 _ rfl rfl
        have f13 : ux33 13 = (ptr b1 (0 + (s20.2).toNat * 4)):=hp 0 _ rfl rfl
        exact Zr hE Za ld (lk rfl f13) (lk rfl f12) Tryz.underlying168 ty5 hi40.1 fun a hE=>⟨Kept.refl _ _,_,_,rfl,hE,rfl⟩
       ·intro a w ux33 hE hM hp
        have f14 : ux33 14 = (ptr b1 (0 + (s20.2).toNat * 4 + (s28.2).toNat * 1)):=hp 0 _ rfl rfl
        exact Zp (v:=(vB x41)) hE Za ld (lk rfl f14) ty5 rfl (At.vec (At.vec (hM.rawAt (pre:=[_,_,_])) hi37.2) hi40.2) fun a hE=>⟨Kept.refl _ _,_,_,rfl,hE,rfl⟩
       ·exact fun a w ux33 hE hM hp=>Zd hE Za ld rfl fun a hE=>⟨Kept.refl _ _,_,_,rfl,hE,rfl⟩
       ·intro a w ux33 hE hM hp
        have f16 : ux33 16 = (vI s12.2):=hp 0 _ rfl rfl
        exact Zi hE Za ld rfl (lk rfl f16) rfl fun a hE=>⟨Kept.refl _ _,_,_,rfl,hE,rfl⟩
       ·exact fun a w ux33 hE hM hp=>Zd hE Za ld rfl fun a hE=>⟨Kept.refl _ _,_,_,rfl,hE,rfl⟩
       ·intro a w ux33 hE hM hp
        have f17 : ux33 17 = (vI (wr (4 * s12.2))):=hp 0 _ rfl rfl
        have f18 : ux33 18 = (vI s28.2):=hp 1 _ rfl rfl
        exact Zi hE Za ld (lk rfl f17) (lk rfl f18) rfl fun a hE=>⟨Kept.refl _ _,_,_,rfl,hE,rfl⟩
       ·intro a w ux33 hE hM hp
        have f19 : ux33 19 = (vI (wr ((wr (4 * s12.2)) + s28.2))):=hp 0 _ rfl rfl
        exact Zr hE Za ld rfl (lk rfl f19) Tryz.underlying70 ty5 hi43.1 fun a hE=>⟨Kept.refl _ _,_,_,rfl,hE,rfl⟩
       ·intro a w ux33 hE hM hp
        have f20 : ux33 20 = (ptr b3 (0 + ((wr ((wr (4 * s12.2)) + s28.2))).toNat * 1)):=hp 0 _ rfl rfl
        exact Zp (v:=(vB x44)) hE Za ld (lk rfl f20) ty5 rfl (At.vec (hM.rawAt (pre:=[_,_])) hi43.2) fun a hE=>⟨Kept.refl _ _,_,_,rfl,hE,rfl⟩
       ·intro a w ux33 hE hM hp
        have f10 : ux33 10 = (vI p0):=hp 0 _ rfl rfl
        have f15 : ux33 15 = (vB x41):=hp 1 _ rfl rfl
        have f21 : ux33 21 = (vB x44):=hp 2 _ rfl rfl
        refine Zt hE Za ld (ZV (ZT (lk rfl f10) (ZT (lk rfl f15) (ZT (lk rfl f21) YZ)))) yh (Uk _ p0 x41 x44 r46 e47) ?_
        rintro v w a ⟨rfl,hK⟩ hE
        exact ⟨hK,_,_,rfl,hE,rfl⟩
       ·intro a w ux33 hE hM hp
        have f9 : ux33 9 = (vB x35):=hp 0 _ rfl rfl
        have f22 : ux33 22 = (vB r46):=hp 1 _ rfl rfl
        exact Zi hE Za ld (lk rfl f9) (lk rfl f22) (UD x35 r46) fun a hE=>⟨Kept.refl _ _,_,_,rfl,hE,rfl⟩
       ·intro a w ux33 hE hM hp
        have f3 : ux33 3 = (vI (wr ((wr (4 * s12.2)) + s20.2))):=hp 0 _ rfl rfl
        exact Zr hE Za ld rfl (lk rfl f3) Tryz.underlying70 ty5 hi48.1 fun a hE=>⟨Kept.refl _ _,_,_,rfl,hE,rfl⟩
       ·intro a w ux33 hE hM hg
        have hE:=hE.sub (e':=[(47,(vB (x35 ^^^ r46))),(48,(ptr b7 (0 + ((wr ((wr (4 * s12.2)) + s20.2))).toNat * 1))),(0,vI p0),(4,(ptr b1 0)),(5,(ptr b3 0)),(6,(ptr b5 0)),(7,(ptr b7 0)),(8,vI s12.2),(9,vI s20.2),(10,vI s28.2),(20,vI s28.2),(21,(vT (decide (s28.2 < 4))))]) ⟨lk rfl (hg 23 (by decide)),lk rfl (hg 24 (by decide)),rfl,rfl,rfl,rfl,rfl,rfl,rfl,rfl,rfl,rfl,trivial⟩
        refine Zo (seg:=[(vB (x35 ^^^ r46))]) (cs':=enc (s28.1.setIfInBounds ((wr ((wr (4 * s12.2)) + s20.2))).toNat (x35 ^^^ r46))) hE hM Za rfl rfl rfl ty5 rfl (ZR (v:=s28.1) (x:=x35 ^^^ r46) hi48.1) (Flat.cell (x35 ^^^ r46 : UInt8)) (ZJ (v:=s28.1) (x:=x35 ^^^ r46) hi48.1) fun w a hM hE=>Zj (Yb (Zz (wp_region_lit (Zd hE Za ld rfl fun a hE=>Zi hE Za ld rfl rfl rfl fun a hE=>Ze hE Za ld rfl fun a hE=>Zj (Zn ?_)))))
        exact ⟨_,(ois hs29),hE.sub ⟨rfl,rfl,rfl,rfl,rfl,rfl,rfl,rfl,trivial⟩,hM⟩
      ·intro hb32
       have hs29:=ZB hs29 hb32
       refine wp_exit (Zq (Zq (Yf ?_)))
       have ht51:=hx30 _ (ois hs29)
       subst ht51
       refine Zn ?_
       exact ⟨hE.sub ⟨rfl,rfl,rfl,rfl,rfl,rfl,rfl,trivial⟩,hM⟩
     ·skip
      rintro a w ⟨hE,hM⟩
      refine Yb (Zz (wp_region_lit (Zd hE Za ld rfl fun a hE=>Zi hE Za ld rfl rfl rfl fun a hE=>Ze hE Za ld rfl fun a hE=>Zj (Zn ?_))))
      exact ⟨_,(ois hF27),hE.sub ⟨rfl,rfl,rfl,rfl,rfl,rfl,rfl,trivial⟩,hM⟩
    ·intro hb24
     have hs21:=ZB hs21 hb24
     refine wp_exit (Zq (Zq (Yf ?_)))
     have ht52:=hx22 _ (ois hs21)
     subst ht52
     refine Zn ?_
     exact ⟨hE.sub ⟨rfl,rfl,rfl,rfl,rfl,rfl,trivial⟩,hM⟩
   ·skip
    rintro a w ⟨hE,hM⟩
    refine Yb (Zz (wp_region_lit (Zd hE Za ld rfl fun a hE=>Zi hE Za ld rfl rfl rfl fun a hE=>Ze hE Za ld rfl fun a hE=>Zj (Zn ?_))))
    exact ⟨_,(ois hF19),hE.sub ⟨rfl,rfl,rfl,rfl,rfl,rfl,trivial⟩,hM⟩
  ·intro hb16
   have hs13:=ZB hs13 hb16
   refine wp_exit (Zq (Zq (Yf ?_)))
   have ht53:=hx14 _ (ois hs13)
   subst ht53
   refine Zn ?_
   have hM:=M.fst (l:=[_,_]) ((hM.pull (pre:=[_])).pull (pre:=[_]))
   exact ⟨hE.sub ⟨rfl,rfl,trivial⟩,hM⟩
 ·skip
  rintro a w ⟨hE,hM⟩
  refine Zz (Zc (Zm (cs:=enc j9) hE Za ld rfl ZH rfl (hM.rawAt (pre:=[])) (Flat.len _) ?_)); intro a hE
  have hM:=hM.pull (pre:=[_])
  refine Zo (seg:=enc j9) (cs':=enc j9) hE hM Za rfl rfl rfl ZH (Flat.len _) (zle flq) (Flat.cell _) (Zl flq) fun w a hM hE=>Zf ?_
  have hr:=Option.some.inj hF11
  subst hr
  have hq54 : Yw Tryz.prog _ _ (.cell 6 70) _:=ZO hE rfl ZH rfl (hM.rawAt (pre:=[])) (Flat.len _) rfl
  have hM:=M.fst (l:=[]) hM
  exact wp_ret (Zy hE rfl hq54 ⟨_,rfl,rfl,hM.kept⟩)
def Xu (p0 : GCipher) (p3 : Int) (r9 : (List (Vector UInt8 16))) (s25 : (Vector UInt8 16) × Int) : Option (Fl ((Vector UInt8 16) × Int) (Vector UInt8 16)) :=
 if (decide (s25.2 ≤ p3)) = true then ((((Uv p0.Box s25.1).bind fun r37=>(UX p0.Places r37).bind fun r39=>some r39 : Option ((Vector UInt8 16))).bind fun j33=>(if (decide (s25.2 < p3)) = true then ((Ts p0.Field p0.Mix j33).bind fun r46=>some r46) else (some j33) : Option ((Vector UInt8 16))).bind fun j42=>(idx r9 s25.2).bind fun x51=>(Xo j42 x51).bind fun r54=>some r54 : Option ((Vector UInt8 16))).bind fun j30=>some (Fl.nx (j30,wr (s25.2 + 1)))) else (some (Fl.ex s25.1))
def Xh (p0 : GCipher) (p1 : (Vector UInt8 16)) (p2 : (Vector UInt8 16)) (p3 : Int) : Option ((Vector UInt8 16)) :=
 (UO p0 p1 p3).bind fun r9=>((idx r9 (0 : Int)).bind fun x16=>(Xo p2 x16).bind fun r19=>some r19 : Option ((Vector UInt8 16))).bind fun j12=>(ZG (Xu p0 p3 r9) (j12,1)).bind fun j22=>some j22
end

end Go.Proofs.YtifdeoikcebbjaaGreat
