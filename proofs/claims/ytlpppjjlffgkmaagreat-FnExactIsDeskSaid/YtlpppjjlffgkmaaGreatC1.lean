/- The walk of what the law reaches: contracts of functions. -/
import Derived.Test.YtlpppjjlffgkmaaGreatK2
import Derived.Test.YtlpppjjlffgkmaaGreatProg
set_option linter.unusedVariables false
set_option linter.unusedSimpArgs false
set_option maxRecDepth 20000
set_option maxHeartbeats 400000
namespace Go.Proofs.YtlpppjjlffgkmaaGreat
open Go
open Flat (enc)
noncomputable section
structure GCipher where
 Field : Int
 Box : (Vector UInt8 256)
 Mix : (Vector (Vector UInt8 4) 4)
 Places : (Vector UInt8 16)
 Rounds : Int
 deriving DecidableEq,Inhabited
instance : Dat GCipher:=⟨fun x=>Dat.bd (α:=Int × (Vector UInt8 256) × (Vector (Vector UInt8 4) 4) × (Vector UInt8 16) × Int) (x.Field,x.Box,x.Mix,x.Places,x.Rounds),fun x=>Dat.sz (α:=Int × (Vector UInt8 256) × (Vector (Vector UInt8 4) 4) × (Vector UInt8 16) × Int) (x.Field,x.Box,x.Mix,x.Places,x.Rounds) + 1⟩
instance : Flat GCipher where
 n:=290
 enc x:=cat [enc x.Field,enc x.Box,enc x.Mix,enc x.Places,enc x.Rounds]
 len x:=JK (cl1 (Flat.len _) (cl1 (Flat.len _) (cl1 (Flat.len _) (cl1 (Flat.len _) (cl1 (Flat.len _) cl0)))))
 cell x:=Yt (cc1 (Flat.cell _) (cc1 (Flat.cell _) (cc1 (Flat.cell _) (cc1 (Flat.cell _) (cc1 (Flat.cell _) cc0)))))
structure GRecord where
 Number : Int
 Version : Int
 Nonce : (Vector UInt8 16)
 Label : (List UInt8)
 Body : (List UInt8)
 Tag : (Vector UInt8 32)
 deriving DecidableEq,Inhabited
instance : Dat GRecord:=⟨fun x=>Dat.bd (α:=Int × Int × (Vector UInt8 16) × (List UInt8) × (List UInt8) × (Vector UInt8 32)) (x.Number,x.Version,x.Nonce,x.Label,x.Body,x.Tag),fun x=>Dat.sz (α:=Int × Int × (Vector UInt8 16) × (List UInt8) × (List UInt8) × (Vector UInt8 32)) (x.Number,x.Version,x.Nonce,x.Label,x.Body,x.Tag) + 1⟩
instance : Rep GRecord:=repIso (α:=Int × Int × (Vector UInt8 16) × (List UInt8) × (List UInt8) × (Vector UInt8 32)) (fun x=>(x.Number,x.Version,x.Nonce,x.Label,x.Body,x.Tag))
theorem jX {S : Nat → Prop} {w : World} {x : GRecord} {cs : List Value} {fp : List Nat} (h : Rep.sat S w x cs fp) : ∃ (u1 : Value) (u2 : Value),∃ (g1 : List Nat) (g2 : List Nat),cs = cat [enc x.Number,enc x.Version,enc x.Nonce,[u1],[u2],enc x.Tag] ∧ fp = (g1 ++ g2) ∧ Rep.sat S w x.Label [u1] g1 ∧ Rep.sat S w x.Body [u2] g2:=by
 obtain ⟨c0,d0,f0,q0,rfl,rfl,h0,hr0⟩:=h
 obtain ⟨rfl,rfl⟩:=h0
 obtain ⟨c1,d1,f1,q1,rfl,rfl,h1,hr1⟩:=hr0
 obtain ⟨rfl,rfl⟩:=h1
 obtain ⟨c2,d2,f2,q2,rfl,rfl,h2,hr2⟩:=hr1
 obtain ⟨rfl,rfl⟩:=h2
 obtain ⟨c3,d3,f3,q3,rfl,rfl,h3,hr3⟩:=hr2
 obtain ⟨u1,rfl⟩:=XL h3
 obtain ⟨c4,d4,f4,q4,rfl,rfl,h4,hr4⟩:=hr3
 obtain ⟨u2,rfl⟩:=XL h4
 obtain ⟨rfl,rfl⟩:=hr4
 exact ⟨u1,u2,_,_,rfl,by simp,h3,h4⟩
theorem Zdz {S : Nat → Prop} {w : World} {x : GRecord} {u1 u2 : Value} {fp : List Nat} (h : Rep.sat S w x (cat [enc x.Number,enc x.Version,enc x.Nonce,[u1],[u2],enc x.Tag]) fp) : ∃ (g1 : List Nat) (g2 : List Nat),fp = (g1 ++ g2) ∧ Rep.sat S w x.Label [u1] g1 ∧ Rep.sat S w x.Body [u2] g2:=by
 obtain ⟨w1,w2,g1,g2,hc,hf,s1,s2⟩:=jX h
 obtain ⟨e1,k1⟩:=YG hc rfl
 obtain ⟨e2,k2⟩:=YG k1 rfl
 obtain ⟨e3,k3⟩:=YG k2 rfl
 obtain ⟨e4,k4⟩:=YG k3 rfl
 obtain ⟨e5,k5⟩:=YG k4 rfl
 obtain rfl:=(List.cons.inj e4).1
 obtain rfl:=(List.cons.inj e5).1
 exact ⟨g1,g2,hf,s1,s2⟩
theorem T2 {S : Nat → Prop} {w : World} {x : GRecord} {cs : List Value} (h : Rep.sat S w x cs []) : ∃ u1 u2,cs = cat [enc x.Number,enc x.Version,enc x.Nonce,[u1],[u2],enc x.Tag] ∧ Rep.sat S w x.Label [u1] [] ∧ Rep.sat S w x.Body [u2] []:=by
 obtain ⟨c0,d0,f0,g0,rfl,hf0,h0,hr0⟩:=h
 obtain ⟨rfl,rfl⟩:=List.append_eq_nil_iff.1 hf0.symm
 obtain ⟨rfl,_⟩:=h0
 obtain ⟨c1,d1,f1,g1,rfl,hf1,h1,hr1⟩:=hr0
 obtain ⟨rfl,rfl⟩:=List.append_eq_nil_iff.1 hf1.symm
 obtain ⟨rfl,_⟩:=h1
 obtain ⟨c2,d2,f2,g2,rfl,hf2,h2,hr2⟩:=hr1
 obtain ⟨rfl,rfl⟩:=List.append_eq_nil_iff.1 hf2.symm
 obtain ⟨rfl,_⟩:=h2
 obtain ⟨c3,d3,f3,g3,rfl,hf3,h3,hr3⟩:=hr2
 obtain ⟨rfl,rfl⟩:=List.append_eq_nil_iff.1 hf3.symm
 obtain ⟨u1,rfl⟩:=XL h3
 obtain ⟨c4,d4,f4,g4,rfl,hf4,h4,hr4⟩:=hr3
 obtain ⟨rfl,rfl⟩:=List.append_eq_nil_iff.1 hf4.symm
 obtain ⟨u2,rfl⟩:=XL h4
 obtain ⟨rfl,_⟩:=hr4
 exact ⟨u1,u2,rfl,h3,h4⟩
theorem zI {S : Nat → Prop} {w : World} {x : GRecord} {u1 u2 : Value} {g1 g2 fp : List Nat} (h1 : Rep.sat S w x.Label [u1] g1) (h2 : Rep.sat S w x.Body [u2] g2) (hfp : fp = (g1 ++ g2)) : Rep.sat S w x (cat [enc x.Number,enc x.Version,enc x.Nonce,[u1],[u2],enc x.Tag]) fp:=by
 rw [hfp]
 refine ⟨_,_,[],(g1 ++ g2),rfl,(by simp),⟨rfl,rfl⟩,?_⟩
 refine ⟨_,_,[],(g1 ++ g2),rfl,(by simp),⟨rfl,rfl⟩,?_⟩
 refine ⟨_,_,[],(g1 ++ g2),rfl,(by simp),⟨rfl,rfl⟩,?_⟩
 refine ⟨_,_,g1,g2,rfl,(by simp),h1,?_⟩
 refine ⟨_,_,g2,[],rfl,(by simp),h2,?_⟩
 exact ⟨rfl,rfl⟩
theorem yL (w : World) : Rep.sat NoB w (⟨(0 : Int),(0 : Int),(Vector.replicate 16 (0 : UInt8)),([] : (List UInt8)),([] : (List UInt8)),(Vector.replicate 32 (0 : UInt8))⟩ : GRecord) (cat [(enc (0 : Int)),(enc (0 : Int)),(enc (Vector.replicate 16 (0 : UInt8))),[.slice none 0 0],[.slice none 0 0],(enc (Vector.replicate 32 (0 : UInt8)))]) []:=zI XG XG rfl
structure GEvent where
 Kind : Int
 Number : Int
 Tag : (Vector UInt8 32)
 deriving DecidableEq,Inhabited
instance : Dat GEvent:=⟨fun x=>Dat.bd (α:=Int × Int × (Vector UInt8 32)) (x.Kind,x.Number,x.Tag),fun x=>Dat.sz (α:=Int × Int × (Vector UInt8 32)) (x.Kind,x.Number,x.Tag) + 1⟩
instance : Flat GEvent where
 n:=34
 enc x:=cat [enc x.Kind,enc x.Number,enc x.Tag]
 len x:=JK (cl1 (Flat.len _) (cl1 (Flat.len _) (cl1 (Flat.len _) cl0)))
 cell x:=Yt (cc1 (Flat.cell _) (cc1 (Flat.cell _) (cc1 (Flat.cell _) cc0)))
structure GVault where
 Keys : (List (Vector UInt8 16))
 Next : Int
 Records : (List GRecord)
 Events : (List GEvent)
 Head : (Vector UInt8 32)
 deriving DecidableEq,Inhabited
instance : Dat GVault:=⟨fun x=>Dat.bd (α:=(List (Vector UInt8 16)) × Int × (List GRecord) × (List GEvent) × (Vector UInt8 32)) (x.Keys,x.Next,x.Records,x.Events,x.Head),fun x=>Dat.sz (α:=(List (Vector UInt8 16)) × Int × (List GRecord) × (List GEvent) × (Vector UInt8 32)) (x.Keys,x.Next,x.Records,x.Events,x.Head) + 1⟩
instance : Rep GVault:=repIso (α:=(List (Vector UInt8 16)) × Int × (List GRecord) × (List GEvent) × (Vector UInt8 32)) (fun x=>(x.Keys,x.Next,x.Records,x.Events,x.Head))
theorem AW {S : Nat → Prop} {w : World} {x : GVault} {cs : List Value} {fp : List Nat} (h : Rep.sat S w x cs fp) : ∃ (u1 : Value) (u2 : Value) (u3 : Value),∃ (g1 : List Nat) (g2 : List Nat) (g3 : List Nat),cs = cat [[u1],enc x.Next,[u2],[u3],enc x.Head] ∧ fp = (g1 ++ (g2 ++ g3)) ∧ Rep.sat S w x.Keys [u1] g1 ∧ Rep.sat S w x.Records [u2] g2 ∧ Rep.sat S w x.Events [u3] g3:=by
 obtain ⟨c0,d0,f0,q0,rfl,rfl,h0,hr0⟩:=h
 obtain ⟨u1,rfl⟩:=XL h0
 obtain ⟨c1,d1,f1,q1,rfl,rfl,h1,hr1⟩:=hr0
 obtain ⟨rfl,rfl⟩:=h1
 obtain ⟨c2,d2,f2,q2,rfl,rfl,h2,hr2⟩:=hr1
 obtain ⟨u2,rfl⟩:=XL h2
 obtain ⟨c3,d3,f3,q3,rfl,rfl,h3,hr3⟩:=hr2
 obtain ⟨u3,rfl⟩:=XL h3
 obtain ⟨rfl,rfl⟩:=hr3
 exact ⟨u1,u2,u3,_,_,_,rfl,by simp,h0,h2,h3⟩
theorem unc_GVault {S : Nat → Prop} {w : World} {x : GVault} {u1 u2 u3 : Value} {fp : List Nat} (h : Rep.sat S w x (cat [[u1],enc x.Next,[u2],[u3],enc x.Head]) fp) : ∃ (g1 : List Nat) (g2 : List Nat) (g3 : List Nat),fp = (g1 ++ (g2 ++ g3)) ∧ Rep.sat S w x.Keys [u1] g1 ∧ Rep.sat S w x.Records [u2] g2 ∧ Rep.sat S w x.Events [u3] g3:=by
 obtain ⟨w1,w2,w3,g1,g2,g3,hc,hf,s1,s2,s3⟩:=AW h
 obtain ⟨e1,k1⟩:=YG hc rfl
 obtain ⟨e2,k2⟩:=YG k1 rfl
 obtain ⟨e3,k3⟩:=YG k2 rfl
 obtain ⟨e4,k4⟩:=YG k3 rfl
 obtain rfl:=(List.cons.inj e1).1
 obtain rfl:=(List.cons.inj e3).1
 obtain rfl:=(List.cons.inj e4).1
 exact ⟨g1,g2,g3,hf,s1,s2,s3⟩
theorem Zao {S : Nat → Prop} {w : World} {x : GVault} {cs : List Value} (h : Rep.sat S w x cs []) : ∃ u1 u2 u3,cs = cat [[u1],enc x.Next,[u2],[u3],enc x.Head] ∧ Rep.sat S w x.Keys [u1] [] ∧ Rep.sat S w x.Records [u2] [] ∧ Rep.sat S w x.Events [u3] []:=by
 obtain ⟨c0,d0,f0,g0,rfl,hf0,h0,hr0⟩:=h
 obtain ⟨rfl,rfl⟩:=List.append_eq_nil_iff.1 hf0.symm
 obtain ⟨u1,rfl⟩:=XL h0
 obtain ⟨c1,d1,f1,g1,rfl,hf1,h1,hr1⟩:=hr0
 obtain ⟨rfl,rfl⟩:=List.append_eq_nil_iff.1 hf1.symm
 obtain ⟨rfl,_⟩:=h1
 obtain ⟨c2,d2,f2,g2,rfl,hf2,h2,hr2⟩:=hr1
 obtain ⟨rfl,rfl⟩:=List.append_eq_nil_iff.1 hf2.symm
 obtain ⟨u2,rfl⟩:=XL h2
 obtain ⟨c3,d3,f3,g3,rfl,hf3,h3,hr3⟩:=hr2
 obtain ⟨rfl,rfl⟩:=List.append_eq_nil_iff.1 hf3.symm
 obtain ⟨u3,rfl⟩:=XL h3
 obtain ⟨rfl,_⟩:=hr3
 exact ⟨u1,u2,u3,rfl,h0,h2,h3⟩
theorem yg {S : Nat → Prop} {w : World} {x : GVault} {u1 u2 u3 : Value} {g1 g2 g3 fp : List Nat} (h1 : Rep.sat S w x.Keys [u1] g1) (h2 : Rep.sat S w x.Records [u2] g2) (h3 : Rep.sat S w x.Events [u3] g3) (hfp : fp = (g1 ++ (g2 ++ g3))) : Rep.sat S w x (cat [[u1],enc x.Next,[u2],[u3],enc x.Head]) fp:=by
 rw [hfp]
 refine ⟨_,_,g1,(g2 ++ g3),rfl,(by simp),h1,?_⟩
 refine ⟨_,_,[],(g2 ++ g3),rfl,(by simp),⟨rfl,rfl⟩,?_⟩
 refine ⟨_,_,g2,g3,rfl,(by simp),h2,?_⟩
 refine ⟨_,_,g3,[],rfl,(by simp),h3,?_⟩
 exact ⟨rfl,rfl⟩
theorem Zdw (w : World) : Rep.sat NoB w (⟨([] : (List (Vector UInt8 16))),(0 : Int),([] : (List GRecord)),([] : (List GEvent)),(Vector.replicate 32 (0 : UInt8))⟩ : GVault) (cat [[.slice none 0 0],(enc (0 : Int)),[.slice none 0 0],[.slice none 0 0],(enc (Vector.replicate 32 (0 : UInt8)))]) []:=yg XG XG XG rfl
structure GBlobs where
 Keys : (List (Vector UInt8 32))
 Data : (List (List UInt8))
 Counts : (List Int)
 deriving DecidableEq,Inhabited
instance : Dat GBlobs:=⟨fun x=>Dat.bd (α:=(List (Vector UInt8 32)) × (List (List UInt8)) × (List Int)) (x.Keys,x.Data,x.Counts),fun x=>Dat.sz (α:=(List (Vector UInt8 32)) × (List (List UInt8)) × (List Int)) (x.Keys,x.Data,x.Counts) + 1⟩
instance : Rep GBlobs:=repIso (α:=(List (Vector UInt8 32)) × (List (List UInt8)) × (List Int)) (fun x=>(x.Keys,x.Data,x.Counts))
theorem Az {S : Nat → Prop} {w : World} {x : GBlobs} {cs : List Value} {fp : List Nat} (h : Rep.sat S w x cs fp) : ∃ (u1 : Value) (u2 : Value) (u3 : Value),∃ (g1 : List Nat) (g2 : List Nat) (g3 : List Nat),cs = cat [[u1],[u2],[u3]] ∧ fp = (g1 ++ (g2 ++ g3)) ∧ Rep.sat S w x.Keys [u1] g1 ∧ Rep.sat S w x.Data [u2] g2 ∧ Rep.sat S w x.Counts [u3] g3:=by
 obtain ⟨c0,d0,f0,q0,rfl,rfl,h0,hr0⟩:=h
 obtain ⟨u1,rfl⟩:=XL h0
 obtain ⟨c1,d1,f1,q1,rfl,rfl,h1,hr1⟩:=hr0
 obtain ⟨u2,rfl⟩:=XL h1
 obtain ⟨u3,rfl⟩:=XL hr1
 exact ⟨u1,u2,u3,_,_,_,rfl,by simp,h0,h1,hr1⟩
theorem unc_GBlobs {S : Nat → Prop} {w : World} {x : GBlobs} {u1 u2 u3 : Value} {fp : List Nat} (h : Rep.sat S w x (cat [[u1],[u2],[u3]]) fp) : ∃ (g1 : List Nat) (g2 : List Nat) (g3 : List Nat),fp = (g1 ++ (g2 ++ g3)) ∧ Rep.sat S w x.Keys [u1] g1 ∧ Rep.sat S w x.Data [u2] g2 ∧ Rep.sat S w x.Counts [u3] g3:=by
 obtain ⟨w1,w2,w3,g1,g2,g3,hc,hf,s1,s2,s3⟩:=Az h
 obtain ⟨e1,k1⟩:=YG hc rfl
 obtain ⟨e2,k2⟩:=YG k1 rfl
 obtain rfl:=(List.cons.inj e1).1
 obtain rfl:=(List.cons.inj e2).1
 obtain rfl:=(List.cons.inj k2).1
 exact ⟨g1,g2,g3,hf,s1,s2,s3⟩
theorem Zae {S : Nat → Prop} {w : World} {x : GBlobs} {cs : List Value} (h : Rep.sat S w x cs []) : ∃ u1 u2 u3,cs = cat [[u1],[u2],[u3]] ∧ Rep.sat S w x.Keys [u1] [] ∧ Rep.sat S w x.Data [u2] [] ∧ Rep.sat S w x.Counts [u3] []:=by
 obtain ⟨c0,d0,f0,g0,rfl,hf0,h0,hr0⟩:=h
 obtain ⟨rfl,rfl⟩:=List.append_eq_nil_iff.1 hf0.symm
 obtain ⟨u1,rfl⟩:=XL h0
 obtain ⟨c1,d1,f1,g1,rfl,hf1,h1,hr1⟩:=hr0
 obtain ⟨rfl,rfl⟩:=List.append_eq_nil_iff.1 hf1.symm
 obtain ⟨u2,rfl⟩:=XL h1
 obtain ⟨u3,rfl⟩:=XL hr1
 exact ⟨u1,u2,u3,rfl,h0,h1,hr1⟩
theorem yi {S : Nat → Prop} {w : World} {x : GBlobs} {u1 u2 u3 : Value} {g1 g2 g3 fp : List Nat} (h1 : Rep.sat S w x.Keys [u1] g1) (h2 : Rep.sat S w x.Data [u2] g2) (h3 : Rep.sat S w x.Counts [u3] g3) (hfp : fp = (g1 ++ (g2 ++ g3))) : Rep.sat S w x (cat [[u1],[u2],[u3]]) fp:=by
 rw [hfp]
 refine ⟨_,_,g1,(g2 ++ g3),rfl,(by simp),h1,?_⟩
 refine ⟨_,_,g2,g3,rfl,(by simp),h2,?_⟩
 exact h3
theorem Zdy (w : World) : Rep.sat NoB w (⟨([] : (List (Vector UInt8 32))),([] : (List (List UInt8))),([] : (List Int))⟩ : GBlobs) (cat [[.slice none 0 0],[.slice none 0 0],[.slice none 0 0]]) []:=yi XG XG XG rfl
structure GDesk where
 Cipher : GCipher
 Key : (Vector UInt8 16)
 Start : (Vector UInt8 16)
 Data : (List UInt8)
 Vault : GVault
 Blobs : GBlobs
 deriving DecidableEq,Inhabited
instance : Dat GDesk:=⟨fun x=>Dat.bd (α:=GCipher × (Vector UInt8 16) × (Vector UInt8 16) × (List UInt8) × GVault × GBlobs) (x.Cipher,x.Key,x.Start,x.Data,x.Vault,x.Blobs),fun x=>Dat.sz (α:=GCipher × (Vector UInt8 16) × (Vector UInt8 16) × (List UInt8) × GVault × GBlobs) (x.Cipher,x.Key,x.Start,x.Data,x.Vault,x.Blobs) + 1⟩
instance : Rep GDesk:=repIso (α:=GCipher × (Vector UInt8 16) × (Vector UInt8 16) × (List UInt8) × GVault × GBlobs) (fun x=>(x.Cipher,x.Key,x.Start,x.Data,x.Vault,x.Blobs))
theorem qR {S : Nat → Prop} {w : World} {x : GDesk} {cs : List Value} {fp : List Nat} (h : Rep.sat S w x cs fp) : ∃ (u1 : Value) (u2 : Value) (u3 : Value) (u4 : Value) (u5 : Value) (u6 : Value) (u7 : Value),∃ (g1 : List Nat) (g2 : List Nat) (g3 : List Nat) (g4 : List Nat) (g5 : List Nat) (g6 : List Nat) (g7 : List Nat),cs = cat [enc x.Cipher,enc x.Key,enc x.Start,[u1],cat [[u2],enc x.Vault.Next,[u3],[u4],enc x.Vault.Head],cat [[u5],[u6],[u7]]] ∧ fp = (g1 ++ (g2 ++ (g3 ++ (g4 ++ (g5 ++ (g6 ++ g7)))))) ∧ Rep.sat S w x.Data [u1] g1 ∧ Rep.sat S w x.Vault.Keys [u2] g2 ∧ Rep.sat S w x.Vault.Records [u3] g3 ∧ Rep.sat S w x.Vault.Events [u4] g4 ∧ Rep.sat S w x.Blobs.Keys [u5] g5 ∧ Rep.sat S w x.Blobs.Data [u6] g6 ∧ Rep.sat S w x.Blobs.Counts [u7] g7:=by
 obtain ⟨c0,d0,f0,q0,rfl,rfl,h0,hr0⟩:=h
 obtain ⟨rfl,rfl⟩:=h0
 obtain ⟨c1,d1,f1,q1,rfl,rfl,h1,hr1⟩:=hr0
 obtain ⟨rfl,rfl⟩:=h1
 obtain ⟨c2,d2,f2,q2,rfl,rfl,h2,hr2⟩:=hr1
 obtain ⟨rfl,rfl⟩:=h2
 obtain ⟨c3,d3,f3,q3,rfl,rfl,h3,hr3⟩:=hr2
 obtain ⟨u1,rfl⟩:=XL h3
 obtain ⟨c4,d4,f4,q4,rfl,rfl,h4,hr4⟩:=hr3
 obtain ⟨u2,u3,u4,e2,e3,e4,rfl,rfl,hs4_0,hs4_1,hs4_2⟩:=AW h4
 obtain ⟨u5,u6,u7,e5,e6,e7,rfl,rfl,hs5_0,hs5_1,hs5_2⟩:=Az hr4
 exact ⟨u1,u2,u3,u4,u5,u6,u7,_,_,_,_,_,_,_,rfl,by simp,h3,hs4_0,hs4_1,hs4_2,hs5_0,hs5_1,hs5_2⟩
theorem Zan {S : Nat → Prop} {w : World} {x : GDesk} {u1 u2 u3 u4 u5 u6 u7 : Value} {fp : List Nat} (h : Rep.sat S w x (cat [enc x.Cipher,enc x.Key,enc x.Start,[u1],cat [[u2],enc x.Vault.Next,[u3],[u4],enc x.Vault.Head],cat [[u5],[u6],[u7]]]) fp) : ∃ (g1 : List Nat) (g2 : List Nat) (g3 : List Nat) (g4 : List Nat) (g5 : List Nat) (g6 : List Nat) (g7 : List Nat),fp = (g1 ++ (g2 ++ (g3 ++ (g4 ++ (g5 ++ (g6 ++ g7)))))) ∧ Rep.sat S w x.Data [u1] g1 ∧ Rep.sat S w x.Vault.Keys [u2] g2 ∧ Rep.sat S w x.Vault.Records [u3] g3 ∧ Rep.sat S w x.Vault.Events [u4] g4 ∧ Rep.sat S w x.Blobs.Keys [u5] g5 ∧ Rep.sat S w x.Blobs.Data [u6] g6 ∧ Rep.sat S w x.Blobs.Counts [u7] g7:=by
 obtain ⟨w1,w2,w3,w4,w5,w6,w7,g1,g2,g3,g4,g5,g6,g7,hc,hf,s1,s2,s3,s4,s5,s6,s7⟩:=qR h
 obtain ⟨e1,k1⟩:=YG hc rfl
 obtain ⟨e2,k2⟩:=YG k1 rfl
 obtain ⟨e3,k3⟩:=YG k2 rfl
 obtain ⟨e4,k4⟩:=YG k3 rfl
 obtain ⟨e5,k5⟩:=YG k4 (by rw [JK (cl1 (n:=1) rfl (cl1 (Flat.len _) (cl1 (n:=1) rfl (cl1 (n:=1) rfl (cl1 (Flat.len _) cl0))))),JK (cl1 (n:=1) rfl (cl1 (Flat.len _) (cl1 (n:=1) rfl (cl1 (n:=1) rfl (cl1 (Flat.len _) cl0)))))])
 obtain ⟨e6,k6⟩:=YG e5 rfl
 obtain ⟨e7,k7⟩:=YG k6 rfl
 obtain ⟨e8,k8⟩:=YG k7 rfl
 obtain ⟨e9,k9⟩:=YG k8 rfl
 obtain ⟨e10,k10⟩:=YG k5 rfl
 obtain ⟨e11,k11⟩:=YG k10 rfl
 obtain rfl:=(List.cons.inj e4).1
 obtain rfl:=(List.cons.inj e6).1
 obtain rfl:=(List.cons.inj e8).1
 obtain rfl:=(List.cons.inj e9).1
 obtain rfl:=(List.cons.inj e10).1
 obtain rfl:=(List.cons.inj e11).1
 obtain rfl:=(List.cons.inj k11).1
 exact ⟨g1,g2,g3,g4,g5,g6,g7,hf,s1,s2,s3,s4,s5,s6,s7⟩
theorem jn {S : Nat → Prop} {w : World} {x : GDesk} {cs : List Value} (h : Rep.sat S w x cs []) : ∃ u1 u2 u3 u4 u5 u6 u7,cs = cat [enc x.Cipher,enc x.Key,enc x.Start,[u1],cat [[u2],enc x.Vault.Next,[u3],[u4],enc x.Vault.Head],cat [[u5],[u6],[u7]]] ∧ Rep.sat S w x.Data [u1] [] ∧ Rep.sat S w x.Vault.Keys [u2] [] ∧ Rep.sat S w x.Vault.Records [u3] [] ∧ Rep.sat S w x.Vault.Events [u4] [] ∧ Rep.sat S w x.Blobs.Keys [u5] [] ∧ Rep.sat S w x.Blobs.Data [u6] [] ∧ Rep.sat S w x.Blobs.Counts [u7] []:=by
 obtain ⟨c0,d0,f0,g0,rfl,hf0,h0,hr0⟩:=h
 obtain ⟨rfl,rfl⟩:=List.append_eq_nil_iff.1 hf0.symm
 obtain ⟨rfl,_⟩:=h0
 obtain ⟨c1,d1,f1,g1,rfl,hf1,h1,hr1⟩:=hr0
 obtain ⟨rfl,rfl⟩:=List.append_eq_nil_iff.1 hf1.symm
 obtain ⟨rfl,_⟩:=h1
 obtain ⟨c2,d2,f2,g2,rfl,hf2,h2,hr2⟩:=hr1
 obtain ⟨rfl,rfl⟩:=List.append_eq_nil_iff.1 hf2.symm
 obtain ⟨rfl,_⟩:=h2
 obtain ⟨c3,d3,f3,g3,rfl,hf3,h3,hr3⟩:=hr2
 obtain ⟨rfl,rfl⟩:=List.append_eq_nil_iff.1 hf3.symm
 obtain ⟨u1,rfl⟩:=XL h3
 obtain ⟨c4,d4,f4,g4,rfl,hf4,h4,hr4⟩:=hr3
 obtain ⟨rfl,rfl⟩:=List.append_eq_nil_iff.1 hf4.symm
 obtain ⟨u2,u3,u4,rfl,hs4_0,hs4_1,hs4_2⟩:=Zao h4
 obtain ⟨u5,u6,u7,rfl,hs5_0,hs5_1,hs5_2⟩:=Zae hr4
 exact ⟨u1,u2,u3,u4,u5,u6,u7,rfl,h3,hs4_0,hs4_1,hs4_2,hs5_0,hs5_1,hs5_2⟩
theorem ju {S : Nat → Prop} {w : World} {x : GDesk} {u1 u2 u3 u4 u5 u6 u7 : Value} {g1 g2 g3 g4 g5 g6 g7 fp : List Nat} (h1 : Rep.sat S w x.Data [u1] g1) (h2 : Rep.sat S w x.Vault.Keys [u2] g2) (h3 : Rep.sat S w x.Vault.Records [u3] g3) (h4 : Rep.sat S w x.Vault.Events [u4] g4) (h5 : Rep.sat S w x.Blobs.Keys [u5] g5) (h6 : Rep.sat S w x.Blobs.Data [u6] g6) (h7 : Rep.sat S w x.Blobs.Counts [u7] g7) (hfp : fp = (g1 ++ (g2 ++ (g3 ++ (g4 ++ (g5 ++ (g6 ++ g7))))))) : Rep.sat S w x (cat [enc x.Cipher,enc x.Key,enc x.Start,[u1],cat [[u2],enc x.Vault.Next,[u3],[u4],enc x.Vault.Head],cat [[u5],[u6],[u7]]]) fp:=by
 rw [hfp]
 refine ⟨_,_,[],(g1 ++ (g2 ++ (g3 ++ (g4 ++ (g5 ++ (g6 ++ g7)))))),rfl,(by simp),⟨rfl,rfl⟩,?_⟩
 refine ⟨_,_,[],(g1 ++ (g2 ++ (g3 ++ (g4 ++ (g5 ++ (g6 ++ g7)))))),rfl,(by simp),⟨rfl,rfl⟩,?_⟩
 refine ⟨_,_,[],(g1 ++ (g2 ++ (g3 ++ (g4 ++ (g5 ++ (g6 ++ g7)))))),rfl,(by simp),⟨rfl,rfl⟩,?_⟩
 refine ⟨_,_,g1,(g2 ++ (g3 ++ (g4 ++ (g5 ++ (g6 ++ g7))))),rfl,(by simp),h1,?_⟩
 refine ⟨_,_,(g2 ++ (g3 ++ g4)),(g5 ++ (g6 ++ g7)),rfl,(by simp),(yg h2 h3 h4 rfl),?_⟩
 exact (yi h5 h6 h7 rfl)
theorem zsat_GDesk (w : World) : Rep.sat NoB w (⟨(⟨(0 : Int),(Vector.replicate 256 (0 : UInt8)),(Vector.replicate 4 (Vector.replicate 4 (0 : UInt8))),(Vector.replicate 16 (0 : UInt8)),(0 : Int)⟩ : GCipher),(Vector.replicate 16 (0 : UInt8)),(Vector.replicate 16 (0 : UInt8)),([] : (List UInt8)),(⟨([] : (List (Vector UInt8 16))),(0 : Int),([] : (List GRecord)),([] : (List GEvent)),(Vector.replicate 32 (0 : UInt8))⟩ : GVault),(⟨([] : (List (Vector UInt8 32))),([] : (List (List UInt8))),([] : (List Int))⟩ : GBlobs)⟩ : GDesk) (cat [(enc (⟨(0 : Int),(Vector.replicate 256 (0 : UInt8)),(Vector.replicate 4 (Vector.replicate 4 (0 : UInt8))),(Vector.replicate 16 (0 : UInt8)),(0 : Int)⟩ : GCipher)),(enc (Vector.replicate 16 (0 : UInt8))),(enc (Vector.replicate 16 (0 : UInt8))),[.slice none 0 0],(cat [[.slice none 0 0],(enc (0 : Int)),[.slice none 0 0],[.slice none 0 0],(enc (Vector.replicate 32 (0 : UInt8)))]),(cat [[.slice none 0 0],[.slice none 0 0],[.slice none 0 0]])]) []:=ju XG XG XG XG XG XG XG rfl
structure Gengine where
 box : (Vector UInt8 256)
 backBox : (Vector UInt8 256)
 places : (Vector UInt8 16)
 backPlaces : (Vector UInt8 16)
 mixer : (Ref (Vector (Vector (Vector UInt8 256) 4) 4))
 backMixer : (Ref (Vector (Vector (Vector UInt8 256) 4) 4))
 rounds : Int
 deriving DecidableEq,Inhabited
instance : Dat Gengine:=⟨fun x=>Dat.bd (α:=(Vector UInt8 256) × (Vector UInt8 256) × (Vector UInt8 16) × (Vector UInt8 16) × (Ref (Vector (Vector (Vector UInt8 256) 4) 4)) × (Ref (Vector (Vector (Vector UInt8 256) 4) 4)) × Int) (x.box,x.backBox,x.places,x.backPlaces,x.mixer,x.backMixer,x.rounds),fun x=>Dat.sz (α:=(Vector UInt8 256) × (Vector UInt8 256) × (Vector UInt8 16) × (Vector UInt8 16) × (Ref (Vector (Vector (Vector UInt8 256) 4) 4)) × (Ref (Vector (Vector (Vector UInt8 256) 4) 4)) × Int) (x.box,x.backBox,x.places,x.backPlaces,x.mixer,x.backMixer,x.rounds) + 1⟩
instance : Rep Gengine:=repIso (α:=(Vector UInt8 256) × (Vector UInt8 256) × (Vector UInt8 16) × (Vector UInt8 16) × (Ref (Vector (Vector (Vector UInt8 256) 4) 4)) × (Ref (Vector (Vector (Vector UInt8 256) 4) 4)) × Int) (fun x=>(x.box,x.backBox,x.places,x.backPlaces,x.mixer,x.backMixer,x.rounds))
theorem jt {S : Nat → Prop} {w : World} {x : Gengine} {cs : List Value} {fp : List Nat} (h : Rep.sat S w x cs fp) : ∃ (u1 : Value) (u2 : Value),∃ (g1 : List Nat) (g2 : List Nat),cs = cat [enc x.box,enc x.backBox,enc x.places,enc x.backPlaces,[u1],[u2],enc x.rounds] ∧ fp = (g1 ++ g2) ∧ Rep.sat S w x.mixer [u1] g1 ∧ Rep.sat S w x.backMixer [u2] g2:=by
 obtain ⟨c0,d0,f0,q0,rfl,rfl,h0,hr0⟩:=h
 obtain ⟨rfl,rfl⟩:=h0
 obtain ⟨c1,d1,f1,q1,rfl,rfl,h1,hr1⟩:=hr0
 obtain ⟨rfl,rfl⟩:=h1
 obtain ⟨c2,d2,f2,q2,rfl,rfl,h2,hr2⟩:=hr1
 obtain ⟨rfl,rfl⟩:=h2
 obtain ⟨c3,d3,f3,q3,rfl,rfl,h3,hr3⟩:=hr2
 obtain ⟨rfl,rfl⟩:=h3
 obtain ⟨c4,d4,f4,q4,rfl,rfl,h4,hr4⟩:=hr3
 obtain ⟨u1,rfl⟩:=JG h4
 obtain ⟨c5,d5,f5,q5,rfl,rfl,h5,hr5⟩:=hr4
 obtain ⟨u2,rfl⟩:=JG h5
 obtain ⟨rfl,rfl⟩:=hr5
 exact ⟨u1,u2,_,_,rfl,by simp,h4,h5⟩
theorem Zdx {S : Nat → Prop} {w : World} {x : Gengine} {u1 u2 : Value} {fp : List Nat} (h : Rep.sat S w x (cat [enc x.box,enc x.backBox,enc x.places,enc x.backPlaces,[u1],[u2],enc x.rounds]) fp) : ∃ (g1 : List Nat) (g2 : List Nat),fp = (g1 ++ g2) ∧ Rep.sat S w x.mixer [u1] g1 ∧ Rep.sat S w x.backMixer [u2] g2:=by
 obtain ⟨w1,w2,g1,g2,hc,hf,s1,s2⟩:=jt h
 obtain ⟨e1,k1⟩:=YG hc rfl
 obtain ⟨e2,k2⟩:=YG k1 rfl
 obtain ⟨e3,k3⟩:=YG k2 rfl
 obtain ⟨e4,k4⟩:=YG k3 rfl
 obtain ⟨e5,k5⟩:=YG k4 rfl
 obtain ⟨e6,k6⟩:=YG k5 rfl
 obtain rfl:=(List.cons.inj e5).1
 obtain rfl:=(List.cons.inj e6).1
 exact ⟨g1,g2,hf,s1,s2⟩
theorem QB {S : Nat → Prop} {w : World} {x : Gengine} {cs : List Value} (h : Rep.sat S w x cs []) : ∃ u1 u2,cs = cat [enc x.box,enc x.backBox,enc x.places,enc x.backPlaces,[u1],[u2],enc x.rounds] ∧ Rep.sat S w x.mixer [u1] [] ∧ Rep.sat S w x.backMixer [u2] []:=by
 obtain ⟨c0,d0,f0,g0,rfl,hf0,h0,hr0⟩:=h
 obtain ⟨rfl,rfl⟩:=List.append_eq_nil_iff.1 hf0.symm
 obtain ⟨rfl,_⟩:=h0
 obtain ⟨c1,d1,f1,g1,rfl,hf1,h1,hr1⟩:=hr0
 obtain ⟨rfl,rfl⟩:=List.append_eq_nil_iff.1 hf1.symm
 obtain ⟨rfl,_⟩:=h1
 obtain ⟨c2,d2,f2,g2,rfl,hf2,h2,hr2⟩:=hr1
 obtain ⟨rfl,rfl⟩:=List.append_eq_nil_iff.1 hf2.symm
 obtain ⟨rfl,_⟩:=h2
 obtain ⟨c3,d3,f3,g3,rfl,hf3,h3,hr3⟩:=hr2
 obtain ⟨rfl,rfl⟩:=List.append_eq_nil_iff.1 hf3.symm
 obtain ⟨rfl,_⟩:=h3
 obtain ⟨c4,d4,f4,g4,rfl,hf4,h4,hr4⟩:=hr3
 obtain ⟨rfl,rfl⟩:=List.append_eq_nil_iff.1 hf4.symm
 obtain ⟨u1,rfl⟩:=JG h4
 obtain ⟨c5,d5,f5,g5,rfl,hf5,h5,hr5⟩:=hr4
 obtain ⟨rfl,rfl⟩:=List.append_eq_nil_iff.1 hf5.symm
 obtain ⟨u2,rfl⟩:=JG h5
 obtain ⟨rfl,_⟩:=hr5
 exact ⟨u1,u2,rfl,h4,h5⟩
theorem qe {S : Nat → Prop} {w : World} {x : Gengine} {u1 u2 : Value} {g1 g2 fp : List Nat} (h1 : Rep.sat S w x.mixer [u1] g1) (h2 : Rep.sat S w x.backMixer [u2] g2) (hfp : fp = (g1 ++ g2)) : Rep.sat S w x (cat [enc x.box,enc x.backBox,enc x.places,enc x.backPlaces,[u1],[u2],enc x.rounds]) fp:=by
 rw [hfp]
 refine ⟨_,_,[],(g1 ++ g2),rfl,(by simp),⟨rfl,rfl⟩,?_⟩
 refine ⟨_,_,[],(g1 ++ g2),rfl,(by simp),⟨rfl,rfl⟩,?_⟩
 refine ⟨_,_,[],(g1 ++ g2),rfl,(by simp),⟨rfl,rfl⟩,?_⟩
 refine ⟨_,_,[],(g1 ++ g2),rfl,(by simp),⟨rfl,rfl⟩,?_⟩
 refine ⟨_,_,g1,g2,rfl,(by simp),h1,?_⟩
 refine ⟨_,_,g2,[],rfl,(by simp),h2,?_⟩
 exact ⟨rfl,rfl⟩
structure Ghasher where
 engine : (Ref Gengine)
 deriving DecidableEq,Inhabited
instance : Dat Ghasher:=⟨fun x=>Dat.bd (α:=(Ref Gengine)) (x.engine),fun x=>Dat.sz (α:=(Ref Gengine)) (x.engine) + 1⟩
instance : Rep Ghasher:=repIso (α:=(Ref Gengine)) (fun x=>(x.engine))
theorem jo {S : Nat → Prop} {w : World} {x : Ghasher} {cs : List Value} {fp : List Nat} (h : Rep.sat S w x cs fp) : ∃ (u1 : Value),∃ (g1 : List Nat),cs = cat [[u1]] ∧ fp = g1 ∧ Rep.sat S w x.engine [u1] g1:=by
 obtain ⟨u1,rfl⟩:=JG h
 exact ⟨u1,_,rfl,by simp,h⟩
theorem jd {S : Nat → Prop} {w : World} {x : Ghasher} {u1 : Value} {fp : List Nat} (h : Rep.sat S w x (cat [[u1]]) fp) : ∃ (g1 : List Nat),fp = g1 ∧ Rep.sat S w x.engine [u1] g1:=by
 obtain ⟨w1,g1,hc,hf,s1⟩:=jo h
 obtain rfl:=(List.cons.inj hc).1
 exact ⟨g1,hf,s1⟩
theorem kJ {S : Nat → Prop} {w : World} {x : Ghasher} {cs : List Value} (h : Rep.sat S w x cs []) : ∃ u1,cs = cat [[u1]] ∧ Rep.sat S w x.engine [u1] []:=by
 obtain ⟨u1,rfl⟩:=JG h
 exact ⟨u1,rfl,h⟩
theorem kD {S : Nat → Prop} {w : World} {x : Ghasher} {u1 : Value} {g1 fp : List Nat} (h1 : Rep.sat S w x.engine [u1] g1) (hfp : fp = g1) : Rep.sat S w x (cat [[u1]]) fp:=by
 rw [hfp]
 exact h1
theorem ty2 : Ty Tryz.prog 2 (.int .i64) 1 8 (enc (0 : Int)):=⟨Tryz.underlying2,by kernel_rfl⟩
theorem ty4 : Ty Tryz.prog 4 .bool 1 1 (enc false):=⟨Tryz.underlying4,by kernel_rfl⟩
theorem ty5 : Ty Tryz.prog 5 (.int .u8) 1 1 (enc (0 : UInt8)):=⟨Tryz.underlying5,by kernel_rfl⟩
theorem jb : Ty Tryz.prog 22 (.array 256 5) 256 256 (enc (Vector.replicate 256 (0 : UInt8))):=⟨Tryz.underlying22,by kernel_rfl⟩
theorem Wu : Ty Tryz.prog 23 (.array 256 5) 256 256 (enc (Vector.replicate 256 (0 : UInt8))):=⟨Tryz.underlying23,by kernel_rfl⟩
theorem Yh : Ty Tryz.prog 24 (.array 4 5) 4 4 (enc (Vector.replicate 4 (0 : UInt8))):=⟨Tryz.underlying24,by kernel_rfl⟩
theorem ty25 : Ty Tryz.prog 25 (.array 4 24) 16 16 (enc (Vector.replicate 4 (Vector.replicate 4 (0 : UInt8)))):=⟨Tryz.underlying25,by kernel_rfl⟩
theorem Xc : Ty Tryz.prog 26 (.array 4 24) 16 16 (enc (Vector.replicate 4 (Vector.replicate 4 (0 : UInt8)))):=⟨Tryz.underlying26,by kernel_rfl⟩
theorem zT : Ty Tryz.prog 27 (.array 16 5) 16 16 (enc (Vector.replicate 16 (0 : UInt8))):=⟨Tryz.underlying27,by kernel_rfl⟩
theorem Qz : Ty Tryz.prog 28 (.array 16 5) 16 16 (enc (Vector.replicate 16 (0 : UInt8))):=⟨Tryz.underlying28,by kernel_rfl⟩
theorem Te : Ty Tryz.prog 30 (.struct [{ name := "Field", type := 2, offset := 0, embedded := false, tag := "", pkgPath := "", byteOffset := 0 }, { name := "Box", type := 23, offset := 1, embedded := false, tag := "", pkgPath := "", byteOffset := 8 }, { name := "Mix", type := 26, offset := 257, embedded := false, tag := "", pkgPath := "", byteOffset := 264 }, { name := "Places", type := 28, offset := 273, embedded := false, tag := "", pkgPath := "", byteOffset := 280 }, { name := "Rounds", type := 2, offset := 289, embedded := false, tag := "", pkgPath := "", byteOffset := 296 }].toArray) 290 304 (enc (⟨(0 : Int), (Vector.replicate 256 (0 : UInt8)), (Vector.replicate 4 (Vector.replicate 4 (0 : UInt8))), (Vector.replicate 16 (0 : UInt8)), (0 : Int)⟩ : GCipher)) := ⟨Tryz.underlying30, by kernel_rfl⟩
theorem ZF : Ty Tryz.prog 31 (.array 16 5) 16 16 (enc (Vector.replicate 16 (0 : UInt8))):=⟨Tryz.underlying31,by kernel_rfl⟩
theorem XB : Ty Tryz.prog 32 (.slice 5) 1 24 [.slice none 0 0]:=⟨Tryz.underlying32,by kernel_rfl⟩
theorem zl : Ty Tryz.prog 33 (.slice 31) 1 24 [.slice none 0 0]:=⟨Tryz.underlying33,by kernel_rfl⟩
theorem zO : Ty Tryz.prog 34 (.slice 134) 1 24 [.slice none 0 0]:=⟨Tryz.underlying34,by kernel_rfl⟩
theorem yS : Ty Tryz.prog 35 (.slice 137) 1 24 [.slice none 0 0]:=⟨Tryz.underlying35,by kernel_rfl⟩
theorem jF : Ty Tryz.prog 36 (.array 32 5) 32 32 (enc (Vector.replicate 32 (0 : UInt8))):=⟨Tryz.underlying36,by kernel_rfl⟩
theorem Yr : Ty Tryz.prog 37 (.array 32 5) 32 32 (enc (Vector.replicate 32 (0 : UInt8))):=⟨Tryz.underlying37,by kernel_rfl⟩
theorem K9 : Ty Tryz.prog 39 (.struct [{ name := "Keys", type := 33, offset := 0, embedded := false, tag := "", pkgPath := "", byteOffset := 0 }, { name := "Next", type := 2, offset := 1, embedded := false, tag := "", pkgPath := "", byteOffset := 24 }, { name := "Records", type := 34, offset := 2, embedded := false, tag := "", pkgPath := "", byteOffset := 32 }, { name := "Events", type := 35, offset := 3, embedded := false, tag := "", pkgPath := "", byteOffset := 56 }, { name := "Head", type := 37, offset := 4, embedded := false, tag := "", pkgPath := "", byteOffset := 80 }].toArray) 36 112 (cat [[.slice none 0 0], (enc (0 : Int)), [.slice none 0 0], [.slice none 0 0], (enc (Vector.replicate 32 (0 : UInt8)))]) := ⟨Tryz.underlying39, by kernel_rfl⟩
theorem BR : Ty Tryz.prog 40 (.slice 37) 1 24 [.slice none 0 0]:=⟨Tryz.underlying40,by kernel_rfl⟩
theorem JZ : Ty Tryz.prog 41 (.slice 32) 1 24 [.slice none 0 0]:=⟨Tryz.underlying41,by kernel_rfl⟩
theorem JO : Ty Tryz.prog 42 (.slice 2) 1 24 [.slice none 0 0]:=⟨Tryz.underlying42,by kernel_rfl⟩
theorem Hc : Ty Tryz.prog 44 (.struct [{ name := "Keys", type := 40, offset := 0, embedded := false, tag := "", pkgPath := "", byteOffset := 0 }, { name := "Data", type := 41, offset := 1, embedded := false, tag := "", pkgPath := "", byteOffset := 24 }, { name := "Counts", type := 42, offset := 2, embedded := false, tag := "", pkgPath := "", byteOffset := 48 }].toArray) 3 72 (cat [[.slice none 0 0], [.slice none 0 0], [.slice none 0 0]]) := ⟨Tryz.underlying44, by kernel_rfl⟩
theorem JX : Ty Tryz.prog 46 (.struct [{ name := "Cipher", type := 30, offset := 0, embedded := false, tag := "", pkgPath := "", byteOffset := 0 }, { name := "Key", type := 31, offset := 290, embedded := false, tag := "", pkgPath := "", byteOffset := 304 }, { name := "Start", type := 31, offset := 306, embedded := false, tag := "", pkgPath := "", byteOffset := 320 }, { name := "Data", type := 32, offset := 322, embedded := false, tag := "", pkgPath := "", byteOffset := 336 }, { name := "Vault", type := 39, offset := 323, embedded := false, tag := "", pkgPath := "", byteOffset := 360 }, { name := "Blobs", type := 44, offset := 359, embedded := false, tag := "", pkgPath := "", byteOffset := 472 }].toArray) 362 544 (cat [(enc (⟨(0 : Int), (Vector.replicate 256 (0 : UInt8)), (Vector.replicate 4 (Vector.replicate 4 (0 : UInt8))), (Vector.replicate 16 (0 : UInt8)), (0 : Int)⟩ : GCipher)), (enc (Vector.replicate 16 (0 : UInt8))), (enc (Vector.replicate 16 (0 : UInt8))), [.slice none 0 0], (cat [[.slice none 0 0], (enc (0 : Int)), [.slice none 0 0], [.slice none 0 0], (enc (Vector.replicate 32 (0 : UInt8)))]), (cat [[.slice none 0 0], [.slice none 0 0], [.slice none 0 0]])]) := ⟨Tryz.underlying46, by kernel_rfl⟩
theorem kM : Ty Tryz.prog 52 (.struct [{ name := "Field", type := 2, offset := 0, embedded := false, tag := "", pkgPath := "", byteOffset := 0 }, { name := "Box", type := 22, offset := 1, embedded := false, tag := "", pkgPath := "", byteOffset := 8 }, { name := "Mix", type := 25, offset := 257, embedded := false, tag := "", pkgPath := "", byteOffset := 264 }, { name := "Places", type := 27, offset := 273, embedded := false, tag := "", pkgPath := "", byteOffset := 280 }, { name := "Rounds", type := 2, offset := 289, embedded := false, tag := "", pkgPath := "", byteOffset := 296 }].toArray) 290 304 (enc (⟨(0 : Int), (Vector.replicate 256 (0 : UInt8)), (Vector.replicate 4 (Vector.replicate 4 (0 : UInt8))), (Vector.replicate 16 (0 : UInt8)), (0 : Int)⟩ : GCipher)) := ⟨Tryz.underlying52, by kernel_rfl⟩
theorem ty53 : Ty Tryz.prog 53 (.slice 27) 1 24 [.slice none 0 0]:=⟨Tryz.underlying53,by kernel_rfl⟩
theorem ty54 : Ty Tryz.prog 54 (.slice 156) 1 24 [.slice none 0 0]:=⟨Tryz.underlying54,by kernel_rfl⟩
theorem ty55 : Ty Tryz.prog 55 (.slice 167) 1 24 [.slice none 0 0]:=⟨Tryz.underlying55,by kernel_rfl⟩
theorem jS : Ty Tryz.prog 57 (.struct [{ name := "Keys", type := 53, offset := 0, embedded := false, tag := "", pkgPath := "", byteOffset := 0 }, { name := "Next", type := 2, offset := 1, embedded := false, tag := "", pkgPath := "", byteOffset := 24 }, { name := "Records", type := 54, offset := 2, embedded := false, tag := "", pkgPath := "", byteOffset := 32 }, { name := "Events", type := 55, offset := 3, embedded := false, tag := "", pkgPath := "", byteOffset := 56 }, { name := "Head", type := 36, offset := 4, embedded := false, tag := "", pkgPath := "", byteOffset := 80 }].toArray) 36 112 (cat [[.slice none 0 0], (enc (0 : Int)), [.slice none 0 0], [.slice none 0 0], (enc (Vector.replicate 32 (0 : UInt8)))]) := ⟨Tryz.underlying57, by kernel_rfl⟩
theorem ty58 : Ty Tryz.prog 58 (.slice 36) 1 24 [.slice none 0 0]:=⟨Tryz.underlying58,by kernel_rfl⟩
theorem ty60 : Ty Tryz.prog 60 (.struct [{ name := "Keys", type := 58, offset := 0, embedded := false, tag := "", pkgPath := "", byteOffset := 0 }, { name := "Data", type := 41, offset := 1, embedded := false, tag := "", pkgPath := "", byteOffset := 24 }, { name := "Counts", type := 42, offset := 2, embedded := false, tag := "", pkgPath := "", byteOffset := 48 }].toArray) 3 72 (cat [[.slice none 0 0], [.slice none 0 0], [.slice none 0 0]]) := ⟨Tryz.underlying60, by kernel_rfl⟩
theorem zX : Ty Tryz.prog 62 (.struct [{ name := "Cipher", type := 52, offset := 0, embedded := false, tag := "", pkgPath := "", byteOffset := 0 }, { name := "Key", type := 27, offset := 290, embedded := false, tag := "", pkgPath := "", byteOffset := 304 }, { name := "Start", type := 27, offset := 306, embedded := false, tag := "", pkgPath := "", byteOffset := 320 }, { name := "Data", type := 32, offset := 322, embedded := false, tag := "", pkgPath := "", byteOffset := 336 }, { name := "Vault", type := 57, offset := 323, embedded := false, tag := "", pkgPath := "", byteOffset := 360 }, { name := "Blobs", type := 60, offset := 359, embedded := false, tag := "", pkgPath := "", byteOffset := 472 }].toArray) 362 544 (cat [(enc (⟨(0 : Int), (Vector.replicate 256 (0 : UInt8)), (Vector.replicate 4 (Vector.replicate 4 (0 : UInt8))), (Vector.replicate 16 (0 : UInt8)), (0 : Int)⟩ : GCipher)), (enc (Vector.replicate 16 (0 : UInt8))), (enc (Vector.replicate 16 (0 : UInt8))), [.slice none 0 0], (cat [[.slice none 0 0], (enc (0 : Int)), [.slice none 0 0], [.slice none 0 0], (enc (Vector.replicate 32 (0 : UInt8)))]), (cat [[.slice none 0 0], [.slice none 0 0], [.slice none 0 0]])]) := ⟨Tryz.underlying62, by kernel_rfl⟩
theorem ty90 : Ty Tryz.prog 90 (.pointer 198) 1 8 [.pointer none]:=⟨Tryz.underlying90,by kernel_rfl⟩
theorem Vx : Ty Tryz.prog 134 (.struct [{ name := "Number", type := 2, offset := 0, embedded := false, tag := "", pkgPath := "", byteOffset := 0 }, { name := "Version", type := 2, offset := 1, embedded := false, tag := "", pkgPath := "", byteOffset := 8 }, { name := "Nonce", type := 31, offset := 2, embedded := false, tag := "", pkgPath := "", byteOffset := 16 }, { name := "Label", type := 32, offset := 18, embedded := false, tag := "", pkgPath := "", byteOffset := 32 }, { name := "Body", type := 32, offset := 19, embedded := false, tag := "", pkgPath := "", byteOffset := 56 }, { name := "Tag", type := 37, offset := 20, embedded := false, tag := "", pkgPath := "", byteOffset := 80 }].toArray) 52 112 (cat [(enc (0 : Int)), (enc (0 : Int)), (enc (Vector.replicate 16 (0 : UInt8))), [.slice none 0 0], [.slice none 0 0], (enc (Vector.replicate 32 (0 : UInt8)))]) := ⟨Tryz.underlying134, by kernel_rfl⟩
theorem T6 : Ty Tryz.prog 137 (.struct [{ name := "Kind", type := 2, offset := 0, embedded := false, tag := "", pkgPath := "", byteOffset := 0 }, { name := "Number", type := 2, offset := 1, embedded := false, tag := "", pkgPath := "", byteOffset := 8 }, { name := "Tag", type := 37, offset := 2, embedded := false, tag := "", pkgPath := "", byteOffset := 16 }].toArray) 34 48 (enc (⟨(0 : Int), (0 : Int), (Vector.replicate 32 (0 : UInt8))⟩ : GEvent)) := ⟨Tryz.underlying137, by kernel_rfl⟩
theorem je : Ty Tryz.prog 140 (.struct [{ name := "engine", type := 90, offset := 0, embedded := false, tag := "", pkgPath := "loop.example/g01182/impl", byteOffset := 0 }].toArray) 1 8 (cat [[.pointer none]]) := ⟨Tryz.underlying140, by kernel_rfl⟩
theorem JW : Ty Tryz.prog 156 (.struct [{ name := "Number", type := 2, offset := 0, embedded := false, tag := "", pkgPath := "", byteOffset := 0 }, { name := "Version", type := 2, offset := 1, embedded := false, tag := "", pkgPath := "", byteOffset := 8 }, { name := "Nonce", type := 27, offset := 2, embedded := false, tag := "", pkgPath := "", byteOffset := 16 }, { name := "Label", type := 32, offset := 18, embedded := false, tag := "", pkgPath := "", byteOffset := 32 }, { name := "Body", type := 32, offset := 19, embedded := false, tag := "", pkgPath := "", byteOffset := 56 }, { name := "Tag", type := 36, offset := 20, embedded := false, tag := "", pkgPath := "", byteOffset := 80 }].toArray) 52 112 (cat [(enc (0 : Int)), (enc (0 : Int)), (enc (Vector.replicate 16 (0 : UInt8))), [.slice none 0 0], [.slice none 0 0], (enc (Vector.replicate 32 (0 : UInt8)))]) := ⟨Tryz.underlying156, by kernel_rfl⟩
theorem z2 : Ty Tryz.prog 158 (.array 256 4) 256 256 (enc (Vector.replicate 256 false)):=⟨Tryz.underlying158,by kernel_rfl⟩
theorem Zch : Ty Tryz.prog 159 (.array 16 4) 16 16 (enc (Vector.replicate 16 false)):=⟨Tryz.underlying159,by kernel_rfl⟩
theorem jT : Ty Tryz.prog 167 (.struct [{ name := "Kind", type := 2, offset := 0, embedded := false, tag := "", pkgPath := "", byteOffset := 0 }, { name := "Number", type := 2, offset := 1, embedded := false, tag := "", pkgPath := "", byteOffset := 8 }, { name := "Tag", type := 36, offset := 2, embedded := false, tag := "", pkgPath := "", byteOffset := 16 }].toArray) 34 48 (enc (⟨(0 : Int), (0 : Int), (Vector.replicate 32 (0 : UInt8))⟩ : GEvent)) := ⟨Tryz.underlying167, by kernel_rfl⟩
theorem Zba : Ty Tryz.prog 195 (.pointer 207) 1 8 [.pointer none]:=⟨Tryz.underlying195,by kernel_rfl⟩
theorem BA : Ty Tryz.prog 198 (.struct [{ name := "box", type := 23, offset := 0, embedded := false, tag := "", pkgPath := "loop.example/g01182/impl", byteOffset := 0 }, { name := "backBox", type := 23, offset := 256, embedded := false, tag := "", pkgPath := "loop.example/g01182/impl", byteOffset := 256 }, { name := "places", type := 28, offset := 512, embedded := false, tag := "", pkgPath := "loop.example/g01182/impl", byteOffset := 512 }, { name := "backPlaces", type := 28, offset := 528, embedded := false, tag := "", pkgPath := "loop.example/g01182/impl", byteOffset := 528 }, { name := "mixer", type := 195, offset := 544, embedded := false, tag := "", pkgPath := "loop.example/g01182/impl", byteOffset := 544 }, { name := "backMixer", type := 195, offset := 545, embedded := false, tag := "", pkgPath := "loop.example/g01182/impl", byteOffset := 552 }, { name := "rounds", type := 2, offset := 546, embedded := false, tag := "", pkgPath := "loop.example/g01182/impl", byteOffset := 560 }].toArray) 547 568 (cat [(enc (Vector.replicate 256 (0 : UInt8))), (enc (Vector.replicate 256 (0 : UInt8))), (enc (Vector.replicate 16 (0 : UInt8))), (enc (Vector.replicate 16 (0 : UInt8))), [.pointer none], [.pointer none], (enc (0 : Int))]) := ⟨Tryz.underlying198, by kernel_rfl⟩
theorem A5 : Ty Tryz.prog 205 (.array 4 22) 1024 1024 (enc (Vector.replicate 4 (Vector.replicate 256 (0 : UInt8)))):=⟨Tryz.underlying205,by kernel_rfl⟩
theorem ty207 : Ty Tryz.prog 207 (.array 4 205) 4096 4096 (enc (Vector.replicate 4 (Vector.replicate 4 (Vector.replicate 256 (0 : UInt8))))):=⟨Tryz.underlying207,by kernel_rfl⟩
theorem Kc : Fd Tryz.prog 30 0 0:=Yd Te.und rfl rfl ty2 (by decide)
theorem Q9 : Fd Tryz.prog 30 1 1:=Yd Te.und rfl rfl Wu (by decide)
theorem Kr : Fd Tryz.prog 30 2 257:=Yd Te.und rfl rfl Xc (by decide)
theorem Kn : Fd Tryz.prog 30 3 273:=Yd Te.und rfl rfl Qz (by decide)
theorem Jj : Fd Tryz.prog 30 4 289:=Yd Te.und rfl rfl ty2 (by decide)
theorem Ks : Fd Tryz.prog 39 0 0:=Yd K9.und rfl rfl zl (by decide)
theorem K1 : Fd Tryz.prog 39 1 1:=Yd K9.und rfl rfl ty2 (by decide)
theorem KP : Fd Tryz.prog 39 2 2:=Yd K9.und rfl rfl zO (by decide)
theorem Ju : Fd Tryz.prog 39 3 3:=Yd K9.und rfl rfl yS (by decide)
theorem qd : Fd Tryz.prog 39 4 4:=Yd K9.und rfl rfl Yr (by decide)
theorem Q3 : Fd Tryz.prog 44 0 0:=Yd Hc.und rfl rfl BR (by decide)
theorem Q8 : Fd Tryz.prog 44 1 1:=Yd Hc.und rfl rfl JZ (by decide)
theorem QN : Fd Tryz.prog 44 2 2:=Yd Hc.und rfl rfl JO (by decide)
theorem zi : Fd Tryz.prog 46 0 0:=Yd JX.und rfl rfl Te (by decide)
theorem kf : Fd Tryz.prog 46 1 290:=Yd JX.und rfl rfl ZF (by decide)
theorem kY : Fd Tryz.prog 46 2 306:=Yd JX.und rfl rfl ZF (by decide)
theorem zn : Fd Tryz.prog 46 3 322:=Yd JX.und rfl rfl XB (by decide)
theorem zA : Fd Tryz.prog 46 4 323:=Yd JX.und rfl rfl K9 (by decide)
theorem AB : Fd Tryz.prog 46 5 359:=Yd JX.und rfl rfl Hc (by decide)
theorem fd52_0 : Fd Tryz.prog 52 0 0:=Yd kM.und rfl rfl ty2 (by decide)
theorem fd52_1 : Fd Tryz.prog 52 1 1:=Yd kM.und rfl rfl jb (by decide)
theorem fd52_2 : Fd Tryz.prog 52 2 257:=Yd kM.und rfl rfl ty25 (by decide)
theorem fd52_3 : Fd Tryz.prog 52 3 273:=Yd kM.und rfl rfl zT (by decide)
theorem fd52_4 : Fd Tryz.prog 52 4 289:=Yd kM.und rfl rfl ty2 (by decide)
theorem Zbi : Fd Tryz.prog 57 0 0:=Yd jS.und rfl rfl ty53 (by decide)
theorem fd57_1 : Fd Tryz.prog 57 1 1:=Yd jS.und rfl rfl ty2 (by decide)
theorem Zbw : Fd Tryz.prog 57 2 2:=Yd jS.und rfl rfl ty54 (by decide)
theorem Zb3 : Fd Tryz.prog 57 3 3:=Yd jS.und rfl rfl ty55 (by decide)
theorem fd57_4 : Fd Tryz.prog 57 4 4:=Yd jS.und rfl rfl jF (by decide)
theorem Zbg : Fd Tryz.prog 60 0 0:=Yd ty60.und rfl rfl ty58 (by decide)
theorem Zby : Fd Tryz.prog 60 1 1:=Yd ty60.und rfl rfl JZ (by decide)
theorem Zcm : Fd Tryz.prog 60 2 2:=Yd ty60.und rfl rfl JO (by decide)
theorem fd62_0 : Fd Tryz.prog 62 0 0:=Yd zX.und rfl rfl kM (by decide)
theorem fd62_1 : Fd Tryz.prog 62 1 290:=Yd zX.und rfl rfl zT (by decide)
theorem fd62_2 : Fd Tryz.prog 62 2 306:=Yd zX.und rfl rfl zT (by decide)
theorem Zb6 : Fd Tryz.prog 62 3 322:=Yd zX.und rfl rfl XB (by decide)
theorem Zbe : Fd Tryz.prog 62 4 323:=Yd zX.und rfl rfl jS (by decide)
theorem Za9 : Fd Tryz.prog 62 5 359:=Yd zX.und rfl rfl ty60 (by decide)
theorem Qi : Fd Tryz.prog 134 0 0:=Yd Vx.und rfl rfl ty2 (by decide)
theorem KK : Fd Tryz.prog 134 1 1:=Yd Vx.und rfl rfl ty2 (by decide)
theorem yW : Fd Tryz.prog 134 2 2:=Yd Vx.und rfl rfl ZF (by decide)
theorem JJ : Fd Tryz.prog 134 3 18:=Yd Vx.und rfl rfl XB (by decide)
theorem HK : Fd Tryz.prog 134 4 19:=Yd Vx.und rfl rfl XB (by decide)
theorem yD : Fd Tryz.prog 134 5 20:=Yd Vx.und rfl rfl Yr (by decide)
theorem Hv : Fd Tryz.prog 137 0 0:=Yd T6.und rfl rfl ty2 (by decide)
theorem Hl : Fd Tryz.prog 137 1 1:=Yd T6.und rfl rfl ty2 (by decide)
theorem yr : Fd Tryz.prog 137 2 2:=Yd T6.und rfl rfl Yr (by decide)
theorem Zdj : Fd Tryz.prog 140 0 0:=Yd je.und rfl rfl ty90 (by decide)
theorem Zdn : Fd Tryz.prog 156 0 0:=Yd JW.und rfl rfl ty2 (by decide)
theorem Zcr : Fd Tryz.prog 156 1 1:=Yd JW.und rfl rfl ty2 (by decide)
theorem Zcz : Fd Tryz.prog 156 2 2:=Yd JW.und rfl rfl zT (by decide)
theorem qx : Fd Tryz.prog 156 3 18:=Yd JW.und rfl rfl XB (by decide)
theorem qz : Fd Tryz.prog 156 4 19:=Yd JW.und rfl rfl XB (by decide)
theorem Zdh : Fd Tryz.prog 156 5 20:=Yd JW.und rfl rfl jF (by decide)
theorem Zdc : Fd Tryz.prog 167 0 0:=Yd jT.und rfl rfl ty2 (by decide)
theorem Zcv : Fd Tryz.prog 167 1 1:=Yd jT.und rfl rfl ty2 (by decide)
theorem Zdi : Fd Tryz.prog 167 2 2:=Yd jT.und rfl rfl jF (by decide)
theorem yp : Fd Tryz.prog 198 0 0:=Yd BA.und rfl rfl Wu (by decide)
theorem fd198_1 : Fd Tryz.prog 198 1 256:=Yd BA.und rfl rfl Wu (by decide)
theorem Zc0 : Fd Tryz.prog 198 2 512:=Yd BA.und rfl rfl Qz (by decide)
theorem fd198_3 : Fd Tryz.prog 198 3 528:=Yd BA.und rfl rfl Qz (by decide)
theorem Zdt : Fd Tryz.prog 198 4 544:=Yd BA.und rfl rfl Zba (by decide)
theorem fd198_5 : Fd Tryz.prog 198 5 545:=Yd BA.und rfl rfl Zba (by decide)
theorem Zc7 : Fd Tryz.prog 198 6 546:=Yd BA.und rfl rfl ty2 (by decide)
theorem pl30 : Places Tryz.prog [{ name := "Field", type := 2, offset := 0, embedded := false, tag := "", pkgPath := "", byteOffset := 0 }, { name := "Box", type := 23, offset := 1, embedded := false, tag := "", pkgPath := "", byteOffset := 8 }, { name := "Mix", type := 26, offset := 257, embedded := false, tag := "", pkgPath := "", byteOffset := 264 }, { name := "Places", type := 28, offset := 273, embedded := false, tag := "", pkgPath := "", byteOffset := 280 }, { name := "Rounds", type := 2, offset := 289, embedded := false, tag := "", pkgPath := "", byteOffset := 296 }] [(0, 1), (1, 256), (257, 16), (273, 16), (289, 1)] := by show _ = _; kernel_rfl
theorem pl140 : Places Tryz.prog [{ name := "engine", type := 90, offset := 0, embedded := false, tag := "", pkgPath := "loop.example/g01182/impl", byteOffset := 0 }] [(0, 1)] := by show _ = _; kernel_rfl
theorem pl198 : Places Tryz.prog [{ name := "box", type := 23, offset := 0, embedded := false, tag := "", pkgPath := "loop.example/g01182/impl", byteOffset := 0 }, { name := "backBox", type := 23, offset := 256, embedded := false, tag := "", pkgPath := "loop.example/g01182/impl", byteOffset := 256 }, { name := "places", type := 28, offset := 512, embedded := false, tag := "", pkgPath := "loop.example/g01182/impl", byteOffset := 512 }, { name := "backPlaces", type := 28, offset := 528, embedded := false, tag := "", pkgPath := "loop.example/g01182/impl", byteOffset := 528 }, { name := "mixer", type := 195, offset := 544, embedded := false, tag := "", pkgPath := "loop.example/g01182/impl", byteOffset := 544 }, { name := "backMixer", type := 195, offset := 545, embedded := false, tag := "", pkgPath := "loop.example/g01182/impl", byteOffset := 552 }, { name := "rounds", type := 2, offset := 546, embedded := false, tag := "", pkgPath := "loop.example/g01182/impl", byteOffset := 560 }] [(0, 256), (256, 256), (512, 16), (528, 16), (544, 1), (545, 1), (546, 1)] := by show _ = _; kernel_rfl
theorem Yx : Tryz.prog.follows .mixedOrders = true:=by kernel_rfl
theorem cb12 : Callable Tryz.prog 12:=cbm Tryz.func12
theorem cb18 : Callable Tryz.prog 18:=cbm Tryz.func18
theorem cb19 : Callable Tryz.prog 19:=cbm Tryz.func19
theorem cb28 : Callable Tryz.prog 28:=cbm Tryz.func28
theorem cb35 : Callable Tryz.prog 35:=cbm Tryz.func35
theorem cb36 : Callable Tryz.prog 36:=cbm Tryz.func36
theorem cb44 : Callable Tryz.prog 44:=cbm Tryz.func44
theorem cb54 : Callable Tryz.prog 54:=cbm Tryz.func54
theorem cb79 : Callable Tryz.prog 79:=cbm Tryz.func79
theorem cb90 : Callable Tryz.prog 90:=cbm Tryz.func90
theorem HI : Callable Tryz.prog 98:=cbm Tryz.func98
theorem cb99 : Callable Tryz.prog 99:=cbm Tryz.func99
theorem Zbb : Callable Tryz.prog 133:=cbm Tryz.func133
theorem JT : Callable Tryz.prog 134:=cbm Tryz.func134
theorem By : Callable Tryz.prog 139:=cbm Tryz.func139
theorem Zce : Callable Tryz.prog 146:=cbm Tryz.func146
theorem yj : Callable Tryz.prog 163:=cbm Tryz.func163
theorem z5 : Callable Tryz.prog 167:=cbm Tryz.func167
def YL (p0 : (List UInt8)) (p1 : Int) : Option (Int) :=
 if (decide ((wr (p1 - (p0.length : Int))) < 0)) = true then (some (-1)) else (some (wr (p1 - (p0.length : Int))))
theorem Qb (w0 : World) (p0 : (List UInt8)) (v0_1 : Value) (hv0_1 : Ro w0 p0 [v0_1]) (p1 : Int) (r : Int) (hF : YL p0 p1 = some r) :
  Calls Tryz.prog 28 [v0_1,vI p1].toArray w0 (Rt w0 (vI r)):=by
 refine ce Tryz.func28 ?_
 intro a hE
 have hM:=M.start w0
 unfold YL at hF
 refine Za (Zb hE rfl fun a hE=>Zf (Za (Ze hE rfl fun a hE=>Ze hE rfl fun a hE=>ZZ hE rfl Tryz.underlying32 (hM.rd hv0_1) fun a hE=>Zk hE rfl rfl rfl fun a hE=>Zb hE rfl fun a hE=>Zf (wp_seq (Za (Ze hE rfl fun a hE=>Zk hE rfl rfl rfl fun a hE=>Zf ?_))))))
 refine Zq hE rfl ?_ ?_
 ·intro hb1
  have hF:=Zu hF hb1
  refine Za (Zb hE rfl fun a hE=>Zf ?_)
  obtain rfl:=Option.some.inj hF
  exact wp_ret (Zs (kr1 hE rfl rfl hM.kept))
 ·intro hb1
  have hF:=Zt hF hb1
  refine wp_skip (Zy (Za (Ze hE rfl fun a hE=>Zb hE rfl fun a hE=>Zf ?_)))
  obtain rfl:=Option.some.inj hF
  exact wp_ret (kr1 hE rfl rfl hM.kept)
def W0 (p0 : (List (Vector UInt8 16))) (p1 : Int) : Option (Int) :=
 if (decide ((wr (p1 - (p0.length : Int))) < 0)) = true then (some (-1)) else (some (wr (p1 - (p0.length : Int))))
theorem BW (w0 : World) (p0 : (List (Vector UInt8 16))) (v0_1 : Value) (hv0_1 : Ro w0 p0 [v0_1]) (p1 : Int) (r : Int) (hF : W0 p0 p1 = some r) :
  Calls Tryz.prog 70 [v0_1,vI p1].toArray w0 (Rt w0 (vI r)):=by
 refine ce Tryz.func70 ?_
 intro a hE
 have hM:=M.start w0
 unfold W0 at hF
 refine Za (Zb hE rfl fun a hE=>Zf (Za (Ze hE rfl fun a hE=>Ze hE rfl fun a hE=>ZZ hE rfl Tryz.underlying53 (hM.rd hv0_1) fun a hE=>Zk hE rfl rfl rfl fun a hE=>Zb hE rfl fun a hE=>Zf (wp_seq (Za (Ze hE rfl fun a hE=>Zk hE rfl rfl rfl fun a hE=>Zf ?_))))))
 refine Zq hE rfl ?_ ?_
 ·intro hb1
  have hF:=Zu hF hb1
  refine Za (Zb hE rfl fun a hE=>Zf ?_)
  obtain rfl:=Option.some.inj hF
  exact wp_ret (Zs (kr1 hE rfl rfl hM.kept))
 ·intro hb1
  have hF:=Zt hF hb1
  refine wp_skip (Zy (Za (Ze hE rfl fun a hE=>Zb hE rfl fun a hE=>Zf ?_)))
  obtain rfl:=Option.some.inj hF
  exact wp_ret (kr1 hE rfl rfl hM.kept)
def V7 (p0 : GRecord) (p1 : Int) : Option (Int) :=
 (YL p0.Label p1).bind fun r3=>if (decide (r3 < 0)) = true then (some (-1)) else ((YL p0.Body r3).bind fun r6=>if (decide (r6 < 0)) = true then (some (-1)) else (some r6))
theorem BG (w0 : World) (p0 : GRecord) (v0_1 : Value) (hv0_1 : Ro w0 p0.Label [v0_1]) (v0_2 : Value) (hv0_2 : Ro w0 p0.Body [v0_2]) (p1 : Int) (r : Int) (hF : V7 p0 p1 = some r) :
  Calls Tryz.prog 117 [(Value.agg (cat [[vI p0.Number],[vI p0.Version],enc p0.Nonce,[v0_1],[v0_2],enc p0.Tag]).toArray),vI p1].toArray w0 (Rt w0 (vI r)):=by
 refine ce Tryz.func117 ?_
 intro a hE
 have hM:=M.start w0
 unfold V7 at hF
 refine Za (ZM (cs:=cat [[vI p0.Number],[vI p0.Version],enc p0.Nonce,[v0_1],[v0_2],enc p0.Tag]) hE hM Zd ld rfl rfl fun b1 w a hM hE=>Zb hE rfl fun a hE=>Zf (Za (Zg hE rfl (qx) fun a hE=>Zx (v:=v0_1) hE rfl XB rfl (At.cat (pre:=[[vI p0.Number],[vI p0.Version],enc p0.Nonce]) hM.rawAt0 ck) fun a hE=>Ze hE rfl ?_))); intro a hE
 obtain ⟨r3,e4,hF⟩:=bind_some hF
 refine Zv hE rfl cb28 (Qb _ p0.Label v0_1 (hM.rdo hv0_1) p1 r3 e4) ?_
 rintro v w a ⟨rfl,hK⟩ hE
 have hM:=hM.keep hK
 refine Zb hE rfl fun a hE=>Zf (wp_seq (Za (Ze hE rfl fun a hE=>Zk hE rfl rfl rfl fun a hE=>Zf ?_)))
 refine Zq hE rfl ?_ ?_
 ·intro hb5
  have hF:=Zu hF hb5
  refine Za (Zb hE rfl fun a hE=>Zf ?_)
  obtain rfl:=Option.some.inj hF
  exact wp_ret (Zs (kr1 hE rfl rfl hM.kept))
 ·intro hb5
  have hF:=Zt hF hb5
  refine wp_skip (Zy (Za (Zg hE rfl (qz) fun a hE=>Zx (v:=v0_2) hE rfl XB rfl (At.cat (pre:=[[vI p0.Number],[vI p0.Version],enc p0.Nonce,[v0_1]]) hM.rawAt0 ck) fun a hE=>Ze hE rfl ?_))); intro a hE
  obtain ⟨r6,e7,hF⟩:=bind_some hF
  refine Zv hE rfl cb28 (Qb _ p0.Body v0_2 (hM.rdo hv0_2) r3 r6 e7) ?_
  rintro v w a ⟨rfl,hK⟩ hE
  have hM:=hM.keep hK
  refine Zb hE rfl fun a hE=>Zf (wp_seq (Za (Ze hE rfl fun a hE=>Zk hE rfl rfl rfl fun a hE=>Zf ?_)))
  refine Zq hE rfl ?_ ?_
  ·intro hb8
   have hF:=Zu hF hb8
   refine Za (Zb hE rfl fun a hE=>Zf ?_)
   obtain rfl:=Option.some.inj hF
   exact wp_ret (Zs (kr1 hE rfl rfl hM.kept))
  ·intro hb8
   have hF:=Zt hF hb8
   refine wp_skip (Zy (Za (Ze hE rfl fun a hE=>Zb hE rfl fun a hE=>Zf ?_)))
   obtain rfl:=Option.some.inj hF
   exact wp_ret (kr1 hE rfl rfl hM.kept)
def UE (p0 : (List GRecord)) (s6 : Int × Int) : Option (Fl (Int × Int) (Fl Int Int)) :=
 if (decide (s6.2 < (p0.length : Int))) = true then ((idx p0 s6.2).bind fun x11=>(V7 x11 s6.1).bind fun r21=>if (decide (r21 < 0)) = true then (some (Fl.ex (Fl.ex (-1)))) else (some (Fl.nx (r21,wr (s6.2 + 1))))) else (some (Fl.ex (Fl.nx s6.1)))
def XI (p0 : (List GRecord)) (p1 : Int) : Option (Int) :=
 if (decide ((wr (p1 - (p0.length : Int))) < 0)) = true then (some (-1)) else ((ZD (UE p0) (wr (p1 - (p0.length : Int)),0)).bind fun j2=>j2.el (fun s5=>some s5) (fun r=>some r))
theorem HW (w0 : World) (p0 : (List GRecord)) (v0_1 : Value) (hv0_1 : Ro w0 p0 [v0_1]) (p1 : Int) (r : Int) (hF : XI p0 p1 = some r) :
  Calls Tryz.prog 71 [v0_1,vI p1].toArray w0 (Rt w0 (vI r)):=by
 refine ce Tryz.func71 ?_
 intro a hE
 have hM:=M.start w0
 unfold XI at hF
 refine Za (Zb hE rfl fun a hE=>Zf (Za (Ze hE rfl fun a hE=>Ze hE rfl fun a hE=>ZZ hE rfl Tryz.underlying54 (hM.rd hv0_1) fun a hE=>Zk hE rfl rfl rfl fun a hE=>Zb hE rfl fun a hE=>Zf (wp_seq (Za (Ze hE rfl fun a hE=>Zk hE rfl rfl rfl fun a hE=>Zf ?_))))))
 refine Zq hE rfl ?_ ?_
 ·intro hb1
  have hF:=Zu hF hb1
  refine Za (Zb hE rfl fun a hE=>Zf ?_)
  obtain rfl:=Option.some.inj hF
  exact wp_ret (Zs (kr1 hE rfl rfl hM.kept))
 ·intro hb1
  have hF:=Zt hF hb1
  refine wp_skip (Zy (wp_seq (Za (Zb hE rfl fun a hE=>Zf ?_))))
  obtain ⟨j2,hl3,hF4⟩:=bind_some hF
  refine ZJ (fun a w=>∃ s5 : Int,j2 = Fl.nx s5 ∧ Env 27 a [(1,vI s5)] ∧ M (Old w0) w0 w []) ?_ ?_
  ·skip
   refine wp_block ?_
   refine ZE (fun (s6 : Int × Int) a w=>Env 27 a [(0,v0_1),(1,vI s6.1),(5,vI s6.2)] ∧ M (Old w0) w0 w []) hl3 ⟨hE.sub ⟨rfl,rfl,rfl,trivial⟩,hM⟩ ?_
   rintro s6 a w ⟨hE,hM⟩ o9 hs7 hx8
   unfold UE at hs7
   refine wp_seq (Za (Ze hE rfl fun a hE=>Ze hE rfl fun a hE=>ZZ hE rfl Tryz.underlying54 (hM.rd hv0_1) fun a hE=>Zk hE rfl rfl rfl fun a hE=>Zf ?_))
   refine Zq hE rfl ?_ ?_
   ·intro hb10
    have hs7:=Zu hs7 hb10
    refine wp_skip (Zy (wp_seq (wp_block (Za (Ze hE rfl fun a hE=>Ze hE rfl ?_))))); intro a hE
    obtain ⟨x11,hi13,hs7⟩:=bix hs7
    refine ZK hE rfl rfl Tryz.underlying54 JW (hM.rd hv0_1) hi13.1 ?_; intro a hE
    obtain ⟨cs14,hs15,hA16⟩:=Vl hv0_1 hi13.2 -- ^
    obtain ⟨u17,u19,rfl,h18,h20⟩:=T2 hs15 -- ^
    refine Zn hE rfl JW rfl (hM.atk hA16 (VY hv0_1 hi13.2)) cq fun a hE=>Ze hE rfl ?_; intro a hE
    obtain ⟨r21,e22,hs7⟩:=bind_some hs7
    refine Zv hE rfl (cbm Tryz.func117) (BG _ x11 u17 (hM.rdo h18) u19 (hM.rdo h20) s6.1 r21 e22) ?_
    rintro v w a ⟨rfl,hK⟩ hE
    have hM:=hM.keep hK
    refine Zb hE rfl fun a hE=>Zf (Za (Ze hE rfl fun a hE=>Zk hE rfl rfl rfl fun a hE=>Zf ?_))
    refine Zq hE rfl ?_ ?_
    ·intro hb23
     have hs7:=Zu hs7 hb23
     refine Za (Zb hE rfl fun a hE=>Zf ?_)
     obtain rfl:=hx8 _ (ois hs7)
     obtain rfl:=Option.some.inj hF4
     exact wp_ret (Z4 (Zs (Zs (Z4 (Zs (Zs (kr1 hE rfl rfl hM.kept)))))))
    ·intro hb23
     have hs7:=Zt hs7 hb23
     refine wp_skip (Z0 (Zy (wp_region_lit (Ze hE rfl fun a hE=>Zk hE rfl rfl rfl fun a hE=>Zb hE rfl fun a hE=>Zj (Zl ?_)))))
     exact ⟨_,(ois hs7),hE.sub ⟨rfl,rfl,rfl,trivial⟩,hM⟩
   ·intro hb10
    have hs7:=Zt hs7 hb10
    refine wp_exit (Zp (Zp (Z1 ?_)))
    obtain rfl:=hx8 _ (ois hs7)
    refine Zl ?_
    exact ⟨s6.1,rfl,hE.sub ⟨rfl,trivial⟩,hM⟩
  ·skip
   rintro a w ⟨s5,ht,hE,hM⟩
   subst ht
   have hF4:=X7 hF4
   refine Zy (Za (Ze hE rfl fun a hE=>Zb hE rfl fun a hE=>Zf ?_))
   obtain rfl:=Option.some.inj hF4
   exact wp_ret (kr1 hE rfl rfl hM.kept)
def XA (p0 : (List GEvent)) (p1 : Int) : Option (Int) :=
 if (decide ((wr (p1 - (p0.length : Int))) < 0)) = true then (some (-1)) else (some (wr (p1 - (p0.length : Int))))
theorem BM (w0 : World) (p0 : (List GEvent)) (v0_1 : Value) (hv0_1 : Ro w0 p0 [v0_1]) (p1 : Int) (r : Int) (hF : XA p0 p1 = some r) :
  Calls Tryz.prog 72 [v0_1,vI p1].toArray w0 (Rt w0 (vI r)):=by
 refine ce Tryz.func72 ?_
 intro a hE
 have hM:=M.start w0
 unfold XA at hF
 refine Za (Zb hE rfl fun a hE=>Zf (Za (Ze hE rfl fun a hE=>Ze hE rfl fun a hE=>ZZ hE rfl Tryz.underlying55 (hM.rd hv0_1) fun a hE=>Zk hE rfl rfl rfl fun a hE=>Zb hE rfl fun a hE=>Zf (wp_seq (Za (Ze hE rfl fun a hE=>Zk hE rfl rfl rfl fun a hE=>Zf ?_))))))
 refine Zq hE rfl ?_ ?_
 ·intro hb1
  have hF:=Zu hF hb1
  refine Za (Zb hE rfl fun a hE=>Zf ?_)
  obtain rfl:=Option.some.inj hF
  exact wp_ret (Zs (kr1 hE rfl rfl hM.kept))
 ·intro hb1
  have hF:=Zt hF hb1
  refine wp_skip (Zy (Za (Ze hE rfl fun a hE=>Zb hE rfl fun a hE=>Zf ?_)))
  obtain rfl:=Option.some.inj hF
  exact wp_ret (kr1 hE rfl rfl hM.kept)
def UM (p0 : GVault) (p1 : Int) : Option (Int) :=
 (W0 p0.Keys p1).bind fun r3=>if (decide (r3 < 0)) = true then (some (-1)) else ((XI p0.Records r3).bind fun r6=>if (decide (r6 < 0)) = true then (some (-1)) else ((XA p0.Events r6).bind fun r9=>if (decide (r9 < 0)) = true then (some (-1)) else (some r9)))
theorem AJ (w0 : World) (p0 : GVault) (v0_1 : Value) (hv0_1 : Ro w0 p0.Keys [v0_1]) (v0_2 : Value) (hv0_2 : Ro w0 p0.Records [v0_2]) (v0_3 : Value) (hv0_3 : Ro w0 p0.Events [v0_3]) (p1 : Int) (r : Int) (hF : UM p0 p1 = some r) :
  Calls Tryz.prog 29 [(Value.agg (cat [[v0_1],[vI p0.Next],[v0_2],[v0_3],enc p0.Head]).toArray),vI p1].toArray w0 (Rt w0 (vI r)):=by
 refine ce Tryz.func29 ?_
 intro a hE
 have hM:=M.start w0
 unfold UM at hF
 refine Za (ZM (cs:=cat [[v0_1],[vI p0.Next],[v0_2],[v0_3],enc p0.Head]) hE hM Zd ld rfl rfl fun b1 w a hM hE=>Zb hE rfl fun a hE=>Zf (Za (Zg hE rfl (Zbi) fun a hE=>Zx (v:=v0_1) hE rfl ty53 rfl (At.cat (pre:=[]) hM.rawAt0 cl0) fun a hE=>Ze hE rfl ?_))); intro a hE
 obtain ⟨r3,e4,hF⟩:=bind_some hF
 refine Zv hE rfl (cbm Tryz.func70) (BW _ p0.Keys v0_1 (hM.rdo hv0_1) p1 r3 e4) ?_
 rintro v w a ⟨rfl,hK⟩ hE
 have hM:=hM.keep hK
 refine Zb hE rfl fun a hE=>Zf (wp_seq (Za (Ze hE rfl fun a hE=>Zk hE rfl rfl rfl fun a hE=>Zf ?_)))
 refine Zq hE rfl ?_ ?_
 ·intro hb5
  have hF:=Zu hF hb5
  refine Za (Zb hE rfl fun a hE=>Zf ?_)
  obtain rfl:=Option.some.inj hF
  exact wp_ret (Zs (kr1 hE rfl rfl hM.kept))
 ·intro hb5
  have hF:=Zt hF hb5
  refine wp_skip (Zy (Za (Zg hE rfl (Zbw) fun a hE=>Zx (v:=v0_2) hE rfl ty54 rfl (At.cat (pre:=[[v0_1],[vI p0.Next]]) hM.rawAt0 ck) fun a hE=>Ze hE rfl ?_))); intro a hE
  obtain ⟨r6,e7,hF⟩:=bind_some hF
  refine Zv hE rfl (cbm Tryz.func71) (HW _ p0.Records v0_2 (hM.rdo hv0_2) r3 r6 e7) ?_
  rintro v w a ⟨rfl,hK⟩ hE
  have hM:=hM.keep hK
  refine Zb hE rfl fun a hE=>Zf (wp_seq (Za (Ze hE rfl fun a hE=>Zk hE rfl rfl rfl fun a hE=>Zf ?_)))
  refine Zq hE rfl ?_ ?_
  ·intro hb8
   have hF:=Zu hF hb8
   refine Za (Zb hE rfl fun a hE=>Zf ?_)
   obtain rfl:=Option.some.inj hF
   exact wp_ret (Zs (kr1 hE rfl rfl hM.kept))
  ·intro hb8
   have hF:=Zt hF hb8
   refine wp_skip (Zy (Za (Zg hE rfl (Zb3) fun a hE=>Zx (v:=v0_3) hE rfl ty55 rfl (At.cat (pre:=[[v0_1],[vI p0.Next],[v0_2]]) hM.rawAt0 ck) fun a hE=>Ze hE rfl ?_))); intro a hE
   obtain ⟨r9,e10,hF⟩:=bind_some hF
   refine Zv hE rfl (cbm Tryz.func72) (BM _ p0.Events v0_3 (hM.rdo hv0_3) r6 r9 e10) ?_
   rintro v w a ⟨rfl,hK⟩ hE
   have hM:=hM.keep hK
   refine Zb hE rfl fun a hE=>Zf (wp_seq (Za (Ze hE rfl fun a hE=>Zk hE rfl rfl rfl fun a hE=>Zf ?_)))
   refine Zq hE rfl ?_ ?_
   ·intro hb11
    have hF:=Zu hF hb11
    refine Za (Zb hE rfl fun a hE=>Zf ?_)
    obtain rfl:=Option.some.inj hF
    exact wp_ret (Zs (kr1 hE rfl rfl hM.kept))
   ·intro hb11
    have hF:=Zt hF hb11
    refine wp_skip (Zy (Za (Ze hE rfl fun a hE=>Zb hE rfl fun a hE=>Zf ?_)))
    obtain rfl:=Option.some.inj hF
    exact wp_ret (kr1 hE rfl rfl hM.kept)
def WA (p0 : (List (Vector UInt8 32))) (p1 : Int) : Option (Int) :=
 if (decide ((wr (p1 - (p0.length : Int))) < 0)) = true then (some (-1)) else (some (wr (p1 - (p0.length : Int))))
theorem H0 (w0 : World) (p0 : (List (Vector UInt8 32))) (v0_1 : Value) (hv0_1 : Ro w0 p0 [v0_1]) (p1 : Int) (r : Int) (hF : WA p0 p1 = some r) :
  Calls Tryz.prog 73 [v0_1,vI p1].toArray w0 (Rt w0 (vI r)):=by
 refine ce Tryz.func73 ?_
 intro a hE
 have hM:=M.start w0
 unfold WA at hF
 refine Za (Zb hE rfl fun a hE=>Zf (Za (Ze hE rfl fun a hE=>Ze hE rfl fun a hE=>ZZ hE rfl Tryz.underlying58 (hM.rd hv0_1) fun a hE=>Zk hE rfl rfl rfl fun a hE=>Zb hE rfl fun a hE=>Zf (wp_seq (Za (Ze hE rfl fun a hE=>Zk hE rfl rfl rfl fun a hE=>Zf ?_))))))
 refine Zq hE rfl ?_ ?_
 ·intro hb1
  have hF:=Zu hF hb1
  refine Za (Zb hE rfl fun a hE=>Zf ?_)
  obtain rfl:=Option.some.inj hF
  exact wp_ret (Zs (kr1 hE rfl rfl hM.kept))
 ·intro hb1
  have hF:=Zt hF hb1
  refine wp_skip (Zy (Za (Ze hE rfl fun a hE=>Zb hE rfl fun a hE=>Zf ?_)))
  obtain rfl:=Option.some.inj hF
  exact wp_ret (kr1 hE rfl rfl hM.kept)
def Tk (p0 : (List (List UInt8))) (s6 : Int × Int) : Option (Fl (Int × Int) (Fl Int Int)) :=
 if (decide (s6.2 < (p0.length : Int))) = true then ((idx p0 s6.2).bind fun x11=>(YL x11 s6.1).bind fun r19=>if (decide (r19 < 0)) = true then (some (Fl.ex (Fl.ex (-1)))) else (some (Fl.nx (r19,wr (s6.2 + 1))))) else (some (Fl.ex (Fl.nx s6.1)))
def Wi (p0 : (List (List UInt8))) (p1 : Int) : Option (Int) :=
 if (decide ((wr (p1 - (p0.length : Int))) < 0)) = true then (some (-1)) else ((ZD (Tk p0) (wr (p1 - (p0.length : Int)),0)).bind fun j2=>j2.el (fun s5=>some s5) (fun r=>some r))
theorem Ac (w0 : World) (p0 : (List (List UInt8))) (v0_1 : Value) (hv0_1 : Ro w0 p0 [v0_1]) (p1 : Int) (r : Int) (hF : Wi p0 p1 = some r) :
  Calls Tryz.prog 74 [v0_1,vI p1].toArray w0 (Rt w0 (vI r)):=by
 refine ce Tryz.func74 ?_
 intro a hE
 have hM:=M.start w0
 unfold Wi at hF
 refine Za (Zb hE rfl fun a hE=>Zf (Za (Ze hE rfl fun a hE=>Ze hE rfl fun a hE=>ZZ hE rfl Tryz.underlying41 (hM.rd hv0_1) fun a hE=>Zk hE rfl rfl rfl fun a hE=>Zb hE rfl fun a hE=>Zf (wp_seq (Za (Ze hE rfl fun a hE=>Zk hE rfl rfl rfl fun a hE=>Zf ?_))))))
 refine Zq hE rfl ?_ ?_
 ·intro hb1
  have hF:=Zu hF hb1
  refine Za (Zb hE rfl fun a hE=>Zf ?_)
  obtain rfl:=Option.some.inj hF
  exact wp_ret (Zs (kr1 hE rfl rfl hM.kept))
 ·intro hb1
  have hF:=Zt hF hb1
  refine wp_skip (Zy (wp_seq (Za (Zb hE rfl fun a hE=>Zf ?_))))
  obtain ⟨j2,hl3,hF4⟩:=bind_some hF
  refine ZJ (fun a w=>∃ s5 : Int,j2 = Fl.nx s5 ∧ Env 27 a [(1,vI s5)] ∧ M (Old w0) w0 w []) ?_ ?_
  ·skip
   refine wp_block ?_
   refine ZE (fun (s6 : Int × Int) a w=>Env 27 a [(0,v0_1),(1,vI s6.1),(5,vI s6.2)] ∧ M (Old w0) w0 w []) hl3 ⟨hE.sub ⟨rfl,rfl,rfl,trivial⟩,hM⟩ ?_
   rintro s6 a w ⟨hE,hM⟩ o9 hs7 hx8
   unfold Tk at hs7
   refine wp_seq (Za (Ze hE rfl fun a hE=>Ze hE rfl fun a hE=>ZZ hE rfl Tryz.underlying41 (hM.rd hv0_1) fun a hE=>Zk hE rfl rfl rfl fun a hE=>Zf ?_))
   refine Zq hE rfl ?_ ?_
   ·intro hb10
    have hs7:=Zu hs7 hb10
    refine wp_skip (Zy (wp_seq (wp_block (Za (Ze hE rfl fun a hE=>Ze hE rfl ?_))))); intro a hE
    obtain ⟨x11,hi13,hs7⟩:=bix hs7
    refine ZK hE rfl rfl Tryz.underlying41 XB (hM.rd hv0_1) hi13.1 ?_; intro a hE
    obtain ⟨cs14,hs15,hA16⟩:=Vl hv0_1 hi13.2 -- ^
    obtain ⟨u17,rfl⟩:=XL hs15 -- ^
    have h18:=hs15 -- ^
    refine Zx (v:=u17) hE rfl XB rfl (hM.atk hA16 (VY hv0_1 hi13.2)) fun a hE=>Ze hE rfl ?_; intro a hE
    obtain ⟨r19,e20,hs7⟩:=bind_some hs7
    refine Zv hE rfl cb28 (Qb _ x11 u17 (hM.rdo h18) s6.1 r19 e20) ?_
    rintro v w a ⟨rfl,hK⟩ hE
    have hM:=hM.keep hK
    refine Zb hE rfl fun a hE=>Zf (Za (Ze hE rfl fun a hE=>Zk hE rfl rfl rfl fun a hE=>Zf ?_))
    refine Zq hE rfl ?_ ?_
    ·intro hb21
     have hs7:=Zu hs7 hb21
     refine Za (Zb hE rfl fun a hE=>Zf ?_)
     obtain rfl:=hx8 _ (ois hs7)
     obtain rfl:=Option.some.inj hF4
     exact wp_ret (Z4 (Zs (Zs (Z4 (Zs (Zs (kr1 hE rfl rfl hM.kept)))))))
    ·intro hb21
     have hs7:=Zt hs7 hb21
     refine wp_skip (Z0 (Zy (wp_region_lit (Ze hE rfl fun a hE=>Zk hE rfl rfl rfl fun a hE=>Zb hE rfl fun a hE=>Zj (Zl ?_)))))
     exact ⟨_,(ois hs7),hE.sub ⟨rfl,rfl,rfl,trivial⟩,hM⟩
   ·intro hb10
    have hs7:=Zt hs7 hb10
    refine wp_exit (Zp (Zp (Z1 ?_)))
    obtain rfl:=hx8 _ (ois hs7)
    refine Zl ?_
    exact ⟨s6.1,rfl,hE.sub ⟨rfl,trivial⟩,hM⟩
  ·skip
   rintro a w ⟨s5,ht,hE,hM⟩
   subst ht
   have hF4:=X7 hF4
   refine Zy (Za (Ze hE rfl fun a hE=>Zb hE rfl fun a hE=>Zf ?_))
   obtain rfl:=Option.some.inj hF4
   exact wp_ret (kr1 hE rfl rfl hM.kept)
def Xx (p0 : (List Int)) (p1 : Int) : Option (Int) :=
 if (decide ((wr (p1 - (p0.length : Int))) < 0)) = true then (some (-1)) else (some (wr (p1 - (p0.length : Int))))
theorem Ai (w0 : World) (p0 : (List Int)) (v0_1 : Value) (hv0_1 : Ro w0 p0 [v0_1]) (p1 : Int) (r : Int) (hF : Xx p0 p1 = some r) :
  Calls Tryz.prog 75 [v0_1,vI p1].toArray w0 (Rt w0 (vI r)):=by
 refine ce Tryz.func75 ?_
 intro a hE
 have hM:=M.start w0
 unfold Xx at hF
 refine Za (Zb hE rfl fun a hE=>Zf (Za (Ze hE rfl fun a hE=>Ze hE rfl fun a hE=>ZZ hE rfl Tryz.underlying42 (hM.rd hv0_1) fun a hE=>Zk hE rfl rfl rfl fun a hE=>Zb hE rfl fun a hE=>Zf (wp_seq (Za (Ze hE rfl fun a hE=>Zk hE rfl rfl rfl fun a hE=>Zf ?_))))))
 refine Zq hE rfl ?_ ?_
 ·intro hb1
  have hF:=Zu hF hb1
  refine Za (Zb hE rfl fun a hE=>Zf ?_)
  obtain rfl:=Option.some.inj hF
  exact wp_ret (Zs (kr1 hE rfl rfl hM.kept))
 ·intro hb1
  have hF:=Zt hF hb1
  refine wp_skip (Zy (Za (Ze hE rfl fun a hE=>Zb hE rfl fun a hE=>Zf ?_)))
  obtain rfl:=Option.some.inj hF
  exact wp_ret (kr1 hE rfl rfl hM.kept)
def VF (p0 : GBlobs) (p1 : Int) : Option (Int) :=
 (WA p0.Keys p1).bind fun r3=>if (decide (r3 < 0)) = true then (some (-1)) else ((Wi p0.Data r3).bind fun r6=>if (decide (r6 < 0)) = true then (some (-1)) else ((Xx p0.Counts r6).bind fun r9=>if (decide (r9 < 0)) = true then (some (-1)) else (some r9)))
theorem AX (w0 : World) (p0 : GBlobs) (v0_1 : Value) (hv0_1 : Ro w0 p0.Keys [v0_1]) (v0_2 : Value) (hv0_2 : Ro w0 p0.Data [v0_2]) (v0_3 : Value) (hv0_3 : Ro w0 p0.Counts [v0_3]) (p1 : Int) (r : Int) (hF : VF p0 p1 = some r) :
  Calls Tryz.prog 30 [(Value.agg (cat [[v0_1],[v0_2],[v0_3]]).toArray),vI p1].toArray w0 (Rt w0 (vI r)):=by
 refine ce Tryz.func30 ?_
 intro a hE
 have hM:=M.start w0
 unfold VF at hF
 refine Za (ZM (cs:=cat [[v0_1],[v0_2],[v0_3]]) hE hM Zd ld rfl rfl fun b1 w a hM hE=>Zb hE rfl fun a hE=>Zf (Za (Zg hE rfl (Zbg) fun a hE=>Zx (v:=v0_1) hE rfl ty58 rfl (At.cat (pre:=[]) hM.rawAt0 cl0) fun a hE=>Ze hE rfl ?_))); intro a hE
 obtain ⟨r3,e4,hF⟩:=bind_some hF
 refine Zv hE rfl (cbm Tryz.func73) (H0 _ p0.Keys v0_1 (hM.rdo hv0_1) p1 r3 e4) ?_
 rintro v w a ⟨rfl,hK⟩ hE
 have hM:=hM.keep hK
 refine Zb hE rfl fun a hE=>Zf (wp_seq (Za (Ze hE rfl fun a hE=>Zk hE rfl rfl rfl fun a hE=>Zf ?_)))
 refine Zq hE rfl ?_ ?_
 ·intro hb5
  have hF:=Zu hF hb5
  refine Za (Zb hE rfl fun a hE=>Zf ?_)
  obtain rfl:=Option.some.inj hF
  exact wp_ret (Zs (kr1 hE rfl rfl hM.kept))
 ·intro hb5
  have hF:=Zt hF hb5
  refine wp_skip (Zy (Za (Zg hE rfl (Zby) fun a hE=>Zx (v:=v0_2) hE rfl JZ rfl (At.cat (pre:=[[v0_1]]) hM.rawAt0 ck) fun a hE=>Ze hE rfl ?_))); intro a hE
  obtain ⟨r6,e7,hF⟩:=bind_some hF
  refine Zv hE rfl (cbm Tryz.func74) (Ac _ p0.Data v0_2 (hM.rdo hv0_2) r3 r6 e7) ?_
  rintro v w a ⟨rfl,hK⟩ hE
  have hM:=hM.keep hK
  refine Zb hE rfl fun a hE=>Zf (wp_seq (Za (Ze hE rfl fun a hE=>Zk hE rfl rfl rfl fun a hE=>Zf ?_)))
  refine Zq hE rfl ?_ ?_
  ·intro hb8
   have hF:=Zu hF hb8
   refine Za (Zb hE rfl fun a hE=>Zf ?_)
   obtain rfl:=Option.some.inj hF
   exact wp_ret (Zs (kr1 hE rfl rfl hM.kept))
  ·intro hb8
   have hF:=Zt hF hb8
   refine wp_skip (Zy (Za (Zg hE rfl (Zcm) fun a hE=>Zx (v:=v0_3) hE rfl JO rfl (At.cat (pre:=[[v0_1],[v0_2]]) hM.rawAt0 ck) fun a hE=>Ze hE rfl ?_))); intro a hE
   obtain ⟨r9,e10,hF⟩:=bind_some hF
   refine Zv hE rfl (cbm Tryz.func75) (Ai _ p0.Counts v0_3 (hM.rdo hv0_3) r6 r9 e10) ?_
   rintro v w a ⟨rfl,hK⟩ hE
   have hM:=hM.keep hK
   refine Zb hE rfl fun a hE=>Zf (wp_seq (Za (Ze hE rfl fun a hE=>Zk hE rfl rfl rfl fun a hE=>Zf ?_)))
   refine Zq hE rfl ?_ ?_
   ·intro hb11
    have hF:=Zu hF hb11
    refine Za (Zb hE rfl fun a hE=>Zf ?_)
    obtain rfl:=Option.some.inj hF
    exact wp_ret (Zs (kr1 hE rfl rfl hM.kept))
   ·intro hb11
    have hF:=Zt hF hb11
    refine wp_skip (Zy (Za (Ze hE rfl fun a hE=>Zb hE rfl fun a hE=>Zf ?_)))
    obtain rfl:=Option.some.inj hF
    exact wp_ret (kr1 hE rfl rfl hM.kept)
def QF (p0 : GDesk) (p1 : Int) : Option (Int) :=
 (YL p0.Data p1).bind fun r3=>if (decide (r3 < 0)) = true then (some (-1)) else ((UM p0.Vault r3).bind fun r6=>if (decide (r6 < 0)) = true then (some (-1)) else ((VF p0.Blobs r6).bind fun r9=>if (decide (r9 < 0)) = true then (some (-1)) else (some r9)))
theorem zU (w0 : World) (p0 : GDesk) (v0_1 : Value) (hv0_1 : Ro w0 p0.Data [v0_1]) (v0_2 : Value) (hv0_2 : Ro w0 p0.Vault.Keys [v0_2]) (v0_3 : Value) (hv0_3 : Ro w0 p0.Vault.Records [v0_3]) (v0_4 : Value) (hv0_4 : Ro w0 p0.Vault.Events [v0_4]) (v0_5 : Value) (hv0_5 : Ro w0 p0.Blobs.Keys [v0_5]) (v0_6 : Value) (hv0_6 : Ro w0 p0.Blobs.Data [v0_6]) (v0_7 : Value) (hv0_7 : Ro w0 p0.Blobs.Counts [v0_7]) (p1 : Int) (r : Int) (hF : QF p0 p1 = some r) :
  Calls Tryz.prog 10 [(Value.agg (cat [cat [[vI p0.Cipher.Field],enc p0.Cipher.Box,enc p0.Cipher.Mix,enc p0.Cipher.Places,[vI p0.Cipher.Rounds]],enc p0.Key,enc p0.Start,[v0_1],cat [[v0_2],[vI p0.Vault.Next],[v0_3],[v0_4],enc p0.Vault.Head],cat [[v0_5],[v0_6],[v0_7]]]).toArray),vI p1].toArray w0 (Rt w0 (vI r)):=by
 refine ce Tryz.func10 ?_
 intro a hE
 have hM:=M.start w0
 unfold QF at hF
 refine Za (ZM (cs:=cat [cat [[vI p0.Cipher.Field],enc p0.Cipher.Box,enc p0.Cipher.Mix,enc p0.Cipher.Places,[vI p0.Cipher.Rounds]],enc p0.Key,enc p0.Start,[v0_1],cat [[v0_2],[vI p0.Vault.Next],[v0_3],[v0_4],enc p0.Vault.Head],cat [[v0_5],[v0_6],[v0_7]]]) hE hM Zd ld rfl rfl fun b1 w a hM hE=>Zb hE rfl fun a hE=>Zf (Za (Zg hE rfl (Zb6) fun a hE=>Zx (v:=v0_1) hE rfl XB rfl (At.cat (pre:=[cat [[vI p0.Cipher.Field],enc p0.Cipher.Box,enc p0.Cipher.Mix,enc p0.Cipher.Places,[vI p0.Cipher.Rounds]],enc p0.Key,enc p0.Start]) hM.rawAt0 ck) fun a hE=>Ze hE rfl ?_))); intro a hE
 obtain ⟨r3,e4,hF⟩:=bind_some hF
 refine Zv hE rfl cb28 (Qb _ p0.Data v0_1 (hM.rdo hv0_1) p1 r3 e4) ?_
 rintro v w a ⟨rfl,hK⟩ hE
 have hM:=hM.keep hK
 refine Zb hE rfl fun a hE=>Zf (wp_seq (Za (Ze hE rfl fun a hE=>Zk hE rfl rfl rfl fun a hE=>Zf ?_)))
 refine Zq hE rfl ?_ ?_
 ·intro hb5
  have hF:=Zu hF hb5
  refine Za (Zb hE rfl fun a hE=>Zf ?_)
  obtain rfl:=Option.some.inj hF
  exact wp_ret (Zs (kr1 hE rfl rfl hM.kept))
 ·intro hb5
  have hF:=Zt hF hb5
  refine wp_skip (Zy (Za (Zg hE rfl (Zbe) fun a hE=>Zn hE rfl jS rfl (At.cat (pre:=[cat [[vI p0.Cipher.Field],enc p0.Cipher.Box,enc p0.Cipher.Mix,enc p0.Cipher.Places,[vI p0.Cipher.Rounds]],enc p0.Key,enc p0.Start,[v0_1]]) hM.rawAt0 ck) cq fun a hE=>Ze hE rfl ?_))); intro a hE
  obtain ⟨r6,e7,hF⟩:=bind_some hF
  refine Zv hE rfl (cbm Tryz.func29) (AJ _ p0.Vault v0_2 (hM.rdo hv0_2) v0_3 (hM.rdo hv0_3) v0_4 (hM.rdo hv0_4) r3 r6 e7) ?_
  rintro v w a ⟨rfl,hK⟩ hE
  have hM:=hM.keep hK
  refine Zb hE rfl fun a hE=>Zf (wp_seq (Za (Ze hE rfl fun a hE=>Zk hE rfl rfl rfl fun a hE=>Zf ?_)))
  refine Zq hE rfl ?_ ?_
  ·intro hb8
   have hF:=Zu hF hb8
   refine Za (Zb hE rfl fun a hE=>Zf ?_)
   obtain rfl:=Option.some.inj hF
   exact wp_ret (Zs (kr1 hE rfl rfl hM.kept))
  ·intro hb8
   have hF:=Zt hF hb8
   refine wp_skip (Zy (Za (Zg hE rfl (Za9) fun a hE=>Zn hE rfl ty60 rfl (At.cat (pre:=[cat [[vI p0.Cipher.Field],enc p0.Cipher.Box,enc p0.Cipher.Mix,enc p0.Cipher.Places,[vI p0.Cipher.Rounds]],enc p0.Key,enc p0.Start,[v0_1],cat [[v0_2],[vI p0.Vault.Next],[v0_3],[v0_4],enc p0.Vault.Head]]) hM.rawAt0 ck) cq fun a hE=>Ze hE rfl ?_))); intro a hE
   obtain ⟨r9,e10,hF⟩:=bind_some hF
   refine Zv hE rfl (cbm Tryz.func30) (AX _ p0.Blobs v0_5 (hM.rdo hv0_5) v0_6 (hM.rdo hv0_6) v0_7 (hM.rdo hv0_7) r6 r9 e10) ?_
   rintro v w a ⟨rfl,hK⟩ hE
   have hM:=hM.keep hK
   refine Zb hE rfl fun a hE=>Zf (wp_seq (Za (Ze hE rfl fun a hE=>Zk hE rfl rfl rfl fun a hE=>Zf ?_)))
   refine Zq hE rfl ?_ ?_
   ·intro hb11
    have hF:=Zu hF hb11
    refine Za (Zb hE rfl fun a hE=>Zf ?_)
    obtain rfl:=Option.some.inj hF
    exact wp_ret (Zs (kr1 hE rfl rfl hM.kept))
   ·intro hb11
    have hF:=Zt hF hb11
    refine wp_skip (Zy (Za (Ze hE rfl fun a hE=>Zb hE rfl fun a hE=>Zf ?_)))
    obtain rfl:=Option.some.inj hF
    exact wp_ret (kr1 hE rfl rfl hM.kept)
def QD (p0 : (Vector UInt8 256)) (s10 : (Vector UInt8 256) × Int) : Option (Fl ((Vector UInt8 256) × Int) (Vector UInt8 256)) :=
 if (decide (s10.2 < 256)) = true then ((ZC p0 s10.2).bind fun x16=>(ZC s10.1 s10.2).bind fun x19=>some (Fl.nx ((s10.1.setIfInBounds (s10.2).toNat x16),wr (s10.2 + 1)))) else (some (Fl.ex s10.1))
def T9 (p0 : (Vector UInt8 256)) : Option ((Vector UInt8 256)) :=
 (ZD (QD p0) ((Vector.replicate 256 (0 : UInt8)),0)).bind fun j7=>some j7
theorem yU (w0 : World) (p0 : (Vector UInt8 256)) (r : (Vector UInt8 256)) (hF : T9 p0 = some r) :
  Calls Tryz.prog 84 [(Value.agg (enc p0).toArray)].toArray w0 (Rt w0 (Value.agg (enc r).toArray)):=by
 refine ce Tryz.func84 ?_
 intro a hE
 have hM:=M.start w0
 unfold T9 at hF
 refine Za (ZM (cs:=enc p0) hE hM Zd ld rfl rfl fun b1 w a hM hE=>Zz hE hM Wu fun b3 w a hM hE=>Zf (Za (Zz hE hM Wu fun b5 w a hM hE=>Zf (wp_seq (Za (Zb hE rfl fun a hE=>Zf ?_))))))
 obtain ⟨j7,hl8,hF9⟩:=bind_some hF
 refine ZJ (fun a w=>Env 15 a [(2,(ptr b3 0)),(3,(ptr b5 0))] ∧ M (Old w0) w0 w [raw b5 (enc j7),raw b3 (enc (Vector.replicate 256 (0 : UInt8)))]) ?_ ?_
 ·skip
  refine wp_block ?_
  refine ZE (fun (s10 : (Vector UInt8 256) × Int) a w=>Env 15 a [(1,(ptr b1 0)),(2,(ptr b3 0)),(3,(ptr b5 0)),(4,vI s10.2)] ∧ M (Old w0) w0 w [raw b5 (enc s10.1),raw b3 (enc (Vector.replicate 256 (0 : UInt8))),raw b1 (enc p0)]) hl8 ⟨hE.sub ⟨rfl,rfl,rfl,rfl,trivial⟩,hM⟩ ?_
  rintro s10 a w ⟨hE,hM⟩ o13 hs11 hx12
  unfold QD at hs11
  refine wp_seq (Za (Ze hE rfl fun a hE=>Zk hE rfl rfl rfl fun a hE=>Zf ?_))
  refine Zq hE rfl ?_ ?_
  ·intro hb14
   have hs11:=Zu hs11 hb14
   refine wp_skip (Zy (wp_seq (wp_block (wp_region_lit (Ze hE rfl fun a hE=>Ze hE rfl ?_))))); intro a hE
   obtain ⟨x16,hi15,hs11⟩:=bvx hs11
   refine Zm hE rfl rfl Tryz.underlying22 ty5 hi15.1 fun a hE=>Zx (v:=(vB x16)) hE rfl ty5 rfl (At.vec hM.rawAt2 hi15.2) ?_; intro a hE
   obtain ⟨x19,hi18,hs11⟩:=bvx hs11
   refine Zm hE rfl rfl Tryz.underlying23 ty5 hi18.1 fun a hE=>Zo (seg:=[vB x16]) (cs':=enc (s10.1.setIfInBounds (s10.2).toNat x16)) hE hM Zd rfl rfl rfl ty5 rfl (ZH (v:=s10.1) (x:=x16) hi18.1) (Flat.cell (x16 : UInt8)) (ZA (v:=s10.1) (x:=x16) hi18.1) fun w a hM hE=>Zj (Z0 (Zy (wp_region_lit (Ze hE rfl fun a hE=>Zk hE rfl rfl rfl fun a hE=>Zb hE rfl fun a hE=>Zj (Zl ?_)))))
   exact ⟨_,(ois hs11),hE.sub ⟨rfl,rfl,rfl,rfl,trivial⟩,hM⟩
  ·intro hb14
   have hs11:=Zt hs11 hb14
   refine wp_exit (Zp (Zp (Z1 ?_)))
   obtain rfl:=hx12 _ (ois hs11)
   refine Zl ?_
   have hM:=M.fst (l:=[_,_]) hM.pull1.pull1
   exact ⟨hE.sub ⟨rfl,rfl,trivial⟩,hM⟩
 ·skip
  rintro a w ⟨hE,hM⟩
  refine Zy (Za (Zn hE rfl Wu rfl hM.rawAt0 (Flat.len _) ?_)); intro a hE
  have hM:=hM.pull1
  refine Zo (seg:=enc j7) (cs':=enc j7) hE hM Zd rfl rfl rfl Wu (Flat.len _) (zle flq) (Flat.cell _) (Zr flq) fun w a hM hE=>Zf ?_
  obtain rfl:=Option.some.inj hF9
  have hq22 : Yq Tryz.prog _ _ (.cell 2 23) _:=ZQ hE rfl Wu rfl hM.rawAt0 (Flat.len _) rfl
  exact wp_ret (ZS hE rfl hq22 ⟨_,rfl,rfl,hM.kept⟩)
def Tj (p0 : (Vector UInt8 4)) (s10 : (Vector UInt8 4) × Int) : Option (Fl ((Vector UInt8 4) × Int) (Vector UInt8 4)) :=
 if (decide (s10.2 < 4)) = true then ((ZC p0 s10.2).bind fun x16=>(ZC s10.1 s10.2).bind fun x19=>some (Fl.nx ((s10.1.setIfInBounds (s10.2).toNat x16),wr (s10.2 + 1)))) else (some (Fl.ex s10.1))
def V8 (p0 : (Vector UInt8 4)) : Option ((Vector UInt8 4)) :=
 (ZD (Tj p0) ((Vector.replicate 4 (0 : UInt8)),0)).bind fun j7=>some j7
theorem BK (w0 : World) (p0 : (Vector UInt8 4)) (r : (Vector UInt8 4)) (hF : V8 p0 = some r) :
  Calls Tryz.prog 123 [(Value.agg (enc p0).toArray)].toArray w0 (Rt w0 (Value.agg (enc r).toArray)):=by
 refine ce Tryz.func123 ?_
 intro a hE
 have hM:=M.start w0
 unfold V8 at hF
 refine Za (ZM (cs:=enc p0) hE hM Zd ld rfl rfl fun b1 w a hM hE=>Zz hE hM Yh fun b3 w a hM hE=>Zf (Za (Zz hE hM Yh fun b5 w a hM hE=>Zf (wp_seq (Za (Zb hE rfl fun a hE=>Zf ?_))))))
 obtain ⟨j7,hl8,hF9⟩:=bind_some hF
 refine ZJ (fun a w=>Env 15 a [(2,(ptr b3 0)),(3,(ptr b5 0))] ∧ M (Old w0) w0 w [raw b5 (enc j7),raw b3 (enc (Vector.replicate 4 (0 : UInt8)))]) ?_ ?_
 ·skip
  refine wp_block ?_
  refine ZE (fun (s10 : (Vector UInt8 4) × Int) a w=>Env 15 a [(1,(ptr b1 0)),(2,(ptr b3 0)),(3,(ptr b5 0)),(4,vI s10.2)] ∧ M (Old w0) w0 w [raw b5 (enc s10.1),raw b3 (enc (Vector.replicate 4 (0 : UInt8))),raw b1 (enc p0)]) hl8 ⟨hE.sub ⟨rfl,rfl,rfl,rfl,trivial⟩,hM⟩ ?_
  rintro s10 a w ⟨hE,hM⟩ o13 hs11 hx12
  unfold Tj at hs11
  refine wp_seq (Za (Ze hE rfl fun a hE=>Zk hE rfl rfl rfl fun a hE=>Zf ?_))
  refine Zq hE rfl ?_ ?_
  ·intro hb14
   have hs11:=Zu hs11 hb14
   refine wp_skip (Zy (wp_seq (wp_block (wp_region_lit (Ze hE rfl fun a hE=>Ze hE rfl ?_))))); intro a hE
   obtain ⟨x16,hi15,hs11⟩:=bvx hs11
   refine Zm hE rfl rfl Tryz.underlying24 ty5 hi15.1 fun a hE=>Zx (v:=(vB x16)) hE rfl ty5 rfl (At.vec hM.rawAt2 hi15.2) ?_; intro a hE
   obtain ⟨x19,hi18,hs11⟩:=bvx hs11
   refine Zm hE rfl rfl Tryz.underlying24 ty5 hi18.1 fun a hE=>Zo (seg:=[vB x16]) (cs':=enc (s10.1.setIfInBounds (s10.2).toNat x16)) hE hM Zd rfl rfl rfl ty5 rfl (ZH (v:=s10.1) (x:=x16) hi18.1) (Flat.cell (x16 : UInt8)) (ZA (v:=s10.1) (x:=x16) hi18.1) fun w a hM hE=>Zj (Z0 (Zy (wp_region_lit (Ze hE rfl fun a hE=>Zk hE rfl rfl rfl fun a hE=>Zb hE rfl fun a hE=>Zj (Zl ?_)))))
   exact ⟨_,(ois hs11),hE.sub ⟨rfl,rfl,rfl,rfl,trivial⟩,hM⟩
  ·intro hb14
   have hs11:=Zt hs11 hb14
   refine wp_exit (Zp (Zp (Z1 ?_)))
   obtain rfl:=hx12 _ (ois hs11)
   refine Zl ?_
   have hM:=M.fst (l:=[_,_]) hM.pull1.pull1
   exact ⟨hE.sub ⟨rfl,rfl,trivial⟩,hM⟩
 ·skip
  rintro a w ⟨hE,hM⟩
  refine Zy (Za (Zn hE rfl Yh rfl hM.rawAt0 (Flat.len _) ?_)); intro a hE
  have hM:=hM.pull1
  refine Zo (seg:=enc j7) (cs':=enc j7) hE hM Zd rfl rfl rfl Yh (Flat.len _) (zle flq) (Flat.cell _) (Zr flq) fun w a hM hE=>Zf ?_
  obtain rfl:=Option.some.inj hF9
  have hq22 : Yq Tryz.prog _ _ (.cell 2 24) _:=ZQ hE rfl Yh rfl hM.rawAt0 (Flat.len _) rfl
  exact wp_ret (ZS hE rfl hq22 ⟨_,rfl,rfl,hM.kept⟩)
def Wz (p0 : (Vector (Vector UInt8 4) 4)) (s10 : (Vector (Vector UInt8 4) 4) × Int) : Option (Fl ((Vector (Vector UInt8 4) 4) × Int) (Vector (Vector UInt8 4) 4)) :=
 if (decide (s10.2 < 4)) = true then ((ZC p0 s10.2).bind fun x16=>(V8 x16).bind fun r18=>(ZC s10.1 s10.2).bind fun x21=>some (Fl.nx ((s10.1.setIfInBounds (s10.2).toNat r18),wr (s10.2 + 1)))) else (some (Fl.ex s10.1))
def Uc (p0 : (Vector (Vector UInt8 4) 4)) : Option ((Vector (Vector UInt8 4) 4)) :=
 (ZD (Wz p0) ((Vector.replicate 4 (Vector.replicate 4 (0 : UInt8))),0)).bind fun j7=>some j7
theorem Aa (w0 : World) (p0 : (Vector (Vector UInt8 4) 4)) (r : (Vector (Vector UInt8 4) 4)) (hF : Uc p0 = some r) :
  Calls Tryz.prog 85 [(Value.agg (enc p0).toArray)].toArray w0 (Rt w0 (Value.agg (enc r).toArray)):=by
 refine ce Tryz.func85 ?_
 intro a hE
 have hM:=M.start w0
 unfold Uc at hF
 refine Za (ZM (cs:=enc p0) hE hM Zd ld rfl rfl fun b1 w a hM hE=>Zz hE hM Xc fun b3 w a hM hE=>Zf (Za (Zz hE hM Xc fun b5 w a hM hE=>Zf (wp_seq (Za (Zb hE rfl fun a hE=>Zf ?_))))))
 obtain ⟨j7,hl8,hF9⟩:=bind_some hF
 refine ZJ (fun a w=>Env 16 a [(2,(ptr b3 0)),(3,(ptr b5 0))] ∧ M (Old w0) w0 w [raw b5 (enc j7),raw b3 (enc (Vector.replicate 4 (Vector.replicate 4 (0 : UInt8))))]) ?_ ?_
 ·skip
  refine wp_block ?_
  refine ZE (fun (s10 : (Vector (Vector UInt8 4) 4) × Int) a w=>Env 16 a [(1,(ptr b1 0)),(2,(ptr b3 0)),(3,(ptr b5 0)),(4,vI s10.2)] ∧ M (Old w0) w0 w [raw b5 (enc s10.1),raw b3 (enc (Vector.replicate 4 (Vector.replicate 4 (0 : UInt8)))),raw b1 (enc p0)]) hl8 ⟨hE.sub ⟨rfl,rfl,rfl,rfl,trivial⟩,hM⟩ ?_
  rintro s10 a w ⟨hE,hM⟩ o13 hs11 hx12
  unfold Wz at hs11
  refine wp_seq (Za (Ze hE rfl fun a hE=>Zk hE rfl rfl rfl fun a hE=>Zf ?_))
  refine Zq hE rfl ?_ ?_
  ·intro hb14
   have hs11:=Zu hs11 hb14
   refine wp_skip (Zy (wp_seq (wp_block (wp_region_lit (Ze hE rfl fun a hE=>Ze hE rfl ?_))))); intro a hE
   obtain ⟨x16,hi15,hs11⟩:=bvx hs11
   refine Zm hE rfl rfl Tryz.underlying25 Yh hi15.1 fun a hE=>Zn hE rfl Yh rfl (At.vec hM.rawAt2 hi15.2) (Flat.len _) ?_; intro a hE
   obtain ⟨r18,e19,hs11⟩:=bind_some hs11
   refine Zv hE rfl (cbm Tryz.func123) (BK _ x16 r18 e19) ?_
   rintro v w a ⟨rfl,hK⟩ hE
   have hM:=hM.keep hK
   obtain ⟨x21,hi20,hs11⟩:=bvx hs11
   refine Zm hE rfl rfl Tryz.underlying26 Yh hi20.1 fun a hE=>Zo (seg:=enc r18) (cs':=enc (s10.1.setIfInBounds (s10.2).toNat r18)) hE hM Zd rfl rfl rfl Yh (Flat.len _) (ZH (v:=s10.1) (x:=r18) hi20.1) (Flat.cell _) (ZA (v:=s10.1) (x:=r18) hi20.1) fun w a hM hE=>Zj (Z0 (Zy (wp_region_lit (Ze hE rfl fun a hE=>Zk hE rfl rfl rfl fun a hE=>Zb hE rfl fun a hE=>Zj (Zl ?_)))))
   exact ⟨_,(ois hs11),hE.sub ⟨rfl,rfl,rfl,rfl,trivial⟩,hM⟩
  ·intro hb14
   have hs11:=Zt hs11 hb14
   refine wp_exit (Zp (Zp (Z1 ?_)))
   obtain rfl:=hx12 _ (ois hs11)
   refine Zl ?_
   have hM:=M.fst (l:=[_,_]) hM.pull1.pull1
   exact ⟨hE.sub ⟨rfl,rfl,trivial⟩,hM⟩
 ·skip
  rintro a w ⟨hE,hM⟩
  refine Zy (Za (Zn hE rfl Xc rfl hM.rawAt0 (Flat.len _) ?_)); intro a hE
  have hM:=hM.pull1
  refine Zo (seg:=enc j7) (cs':=enc j7) hE hM Zd rfl rfl rfl Xc (Flat.len _) (zle flq) (Flat.cell _) (Zr flq) fun w a hM hE=>Zf ?_
  obtain rfl:=Option.some.inj hF9
  have hq24 : Yq Tryz.prog _ _ (.cell 2 26) _:=ZQ hE rfl Xc rfl hM.rawAt0 (Flat.len _) rfl
  exact wp_ret (ZS hE rfl hq24 ⟨_,rfl,rfl,hM.kept⟩)
def Td (p0 : (Vector UInt8 16)) (s10 : (Vector UInt8 16) × Int) : Option (Fl ((Vector UInt8 16) × Int) (Vector UInt8 16)) :=
 if (decide (s10.2 < 16)) = true then ((ZC p0 s10.2).bind fun x16=>(ZC s10.1 s10.2).bind fun x19=>some (Fl.nx ((s10.1.setIfInBounds (s10.2).toNat x16),wr (s10.2 + 1)))) else (some (Fl.ex s10.1))
def Ut (p0 : (Vector UInt8 16)) : Option ((Vector UInt8 16)) :=
 (ZD (Td p0) ((Vector.replicate 16 (0 : UInt8)),0)).bind fun j7=>some j7
theorem Ad (w0 : World) (p0 : (Vector UInt8 16)) (r : (Vector UInt8 16)) (hF : Ut p0 = some r) :
  Calls Tryz.prog 86 [(Value.agg (enc p0).toArray)].toArray w0 (Rt w0 (Value.agg (enc r).toArray)):=by
 refine ce Tryz.func86 ?_
 intro a hE
 have hM:=M.start w0
 unfold Ut at hF
 refine Za (ZM (cs:=enc p0) hE hM Zd ld rfl rfl fun b1 w a hM hE=>Zz hE hM Qz fun b3 w a hM hE=>Zf (Za (Zz hE hM Qz fun b5 w a hM hE=>Zf (wp_seq (Za (Zb hE rfl fun a hE=>Zf ?_))))))
 obtain ⟨j7,hl8,hF9⟩:=bind_some hF
 refine ZJ (fun a w=>Env 15 a [(2,(ptr b3 0)),(3,(ptr b5 0))] ∧ M (Old w0) w0 w [raw b5 (enc j7),raw b3 (enc (Vector.replicate 16 (0 : UInt8)))]) ?_ ?_
 ·skip
  refine wp_block ?_
  refine ZE (fun (s10 : (Vector UInt8 16) × Int) a w=>Env 15 a [(1,(ptr b1 0)),(2,(ptr b3 0)),(3,(ptr b5 0)),(4,vI s10.2)] ∧ M (Old w0) w0 w [raw b5 (enc s10.1),raw b3 (enc (Vector.replicate 16 (0 : UInt8))),raw b1 (enc p0)]) hl8 ⟨hE.sub ⟨rfl,rfl,rfl,rfl,trivial⟩,hM⟩ ?_
  rintro s10 a w ⟨hE,hM⟩ o13 hs11 hx12
  unfold Td at hs11
  refine wp_seq (Za (Ze hE rfl fun a hE=>Zk hE rfl rfl rfl fun a hE=>Zf ?_))
  refine Zq hE rfl ?_ ?_
  ·intro hb14
   have hs11:=Zu hs11 hb14
   refine wp_skip (Zy (wp_seq (wp_block (wp_region_lit (Ze hE rfl fun a hE=>Ze hE rfl ?_))))); intro a hE
   obtain ⟨x16,hi15,hs11⟩:=bvx hs11
   refine Zm hE rfl rfl Tryz.underlying27 ty5 hi15.1 fun a hE=>Zx (v:=(vB x16)) hE rfl ty5 rfl (At.vec hM.rawAt2 hi15.2) ?_; intro a hE
   obtain ⟨x19,hi18,hs11⟩:=bvx hs11
   refine Zm hE rfl rfl Tryz.underlying28 ty5 hi18.1 fun a hE=>Zo (seg:=[vB x16]) (cs':=enc (s10.1.setIfInBounds (s10.2).toNat x16)) hE hM Zd rfl rfl rfl ty5 rfl (ZH (v:=s10.1) (x:=x16) hi18.1) (Flat.cell (x16 : UInt8)) (ZA (v:=s10.1) (x:=x16) hi18.1) fun w a hM hE=>Zj (Z0 (Zy (wp_region_lit (Ze hE rfl fun a hE=>Zk hE rfl rfl rfl fun a hE=>Zb hE rfl fun a hE=>Zj (Zl ?_)))))
   exact ⟨_,(ois hs11),hE.sub ⟨rfl,rfl,rfl,rfl,trivial⟩,hM⟩
  ·intro hb14
   have hs11:=Zt hs11 hb14
   refine wp_exit (Zp (Zp (Z1 ?_)))
   obtain rfl:=hx12 _ (ois hs11)
   refine Zl ?_
   have hM:=M.fst (l:=[_,_]) hM.pull1.pull1
   exact ⟨hE.sub ⟨rfl,rfl,trivial⟩,hM⟩
 ·skip
  rintro a w ⟨hE,hM⟩
  refine Zy (Za (Zn hE rfl Qz rfl hM.rawAt0 (Flat.len _) ?_)); intro a hE
  have hM:=hM.pull1
  refine Zo (seg:=enc j7) (cs':=enc j7) hE hM Zd rfl rfl rfl Qz (Flat.len _) (zle flq) (Flat.cell _) (Zr flq) fun w a hM hE=>Zf ?_
  obtain rfl:=Option.some.inj hF9
  have hq22 : Yq Tryz.prog _ _ (.cell 2 28) _:=ZQ hE rfl Qz rfl hM.rawAt0 (Flat.len _) rfl
  exact wp_ret (ZS hE rfl hq22 ⟨_,rfl,rfl,hM.kept⟩)
def Up (p0 : GCipher) : Option (GCipher) :=
 (T9 p0.Box).bind fun r7=>(Uc p0.Mix).bind fun r9=>(Ut p0.Places).bind fun r11=>some (⟨p0.Field,r7,r9,r11,p0.Rounds⟩ : GCipher)
theorem BZ (w0 : World) (p0 : GCipher) (r : GCipher) (hF : Up p0 = some r) :
  Calls Tryz.prog 34 [(Value.agg (enc p0).toArray)].toArray w0 (Rt w0 (Value.agg (enc r).toArray)):=by
 refine ce Tryz.func34 ?_
 intro a hE
 have hM:=M.start w0
 unfold Up at hF
 refine Za (ZM (cs:=cat [[vI p0.Field],enc p0.Box,enc p0.Mix,enc p0.Places,[vI p0.Rounds]]) hE hM Zd ld rfl rfl fun b1 w a hM hE=>Zz hE hM Te fun b3 w a hM hE=>Zf (Za (Zz hE hM Te fun b5 w a hM hE=>Zf (Za (Zg hE rfl (fd52_0) fun a hE=>Zx (v:=(vI p0.Field)) hE rfl ty2 rfl (At.cat (pre:=[]) hM.rawAt2 cl0) fun a hE=>Zg hE rfl (Kc) fun a hE=>Zo (seg:=[vI p0.Field]) hE hM Zd rfl rfl rfl ty2 rfl (YA (pre:=[]) cl0 rfl) (Flat.cell (p0.Field : Int)) (ZT (pre:=[]) cl0 rfl) fun w a hM hE=>Zf (Za (Zg hE rfl (fd52_1) fun a hE=>Zn hE rfl jb rfl (At.cat (pre:=[[vI p0.Field]]) hM.rawAt2 ck) (Flat.len _) ?_))))))); intro a hE
 obtain ⟨r7,e8,hF⟩:=bind_some hF
 refine Zv hE rfl (cbm Tryz.func84) (yU _ p0.Box r7 e8) ?_
 rintro v w a ⟨rfl,hK⟩ hE
 have hM:=hM.keep hK
 refine Zg hE rfl (Q9) fun a hE=>Zo (seg:=enc r7) hE hM Zd rfl rfl rfl Wu (Flat.len _) (YA (pre:=[[vI p0.Field]]) ck flq) (Flat.cell _) (ZT (pre:=[[vI p0.Field]]) ck flq) fun w a hM hE=>Zf (Za (Zg hE rfl (fd52_2) fun a hE=>Zn hE rfl ty25 rfl (At.cat (pre:=[[vI p0.Field],enc p0.Box]) hM.rawAt2 ck) (Flat.len _) ?_)); intro a hE
 obtain ⟨r9,e10,hF⟩:=bind_some hF
 refine Zv hE rfl (cbm Tryz.func85) (Aa _ p0.Mix r9 e10) ?_
 rintro v w a ⟨rfl,hK⟩ hE
 have hM:=hM.keep hK
 refine Zg hE rfl (Kr) fun a hE=>Zo (seg:=enc r9) hE hM Zd rfl rfl rfl Xc (Flat.len _) (YA (pre:=[[vI p0.Field],enc r7]) ck flq) (Flat.cell _) (ZT (pre:=[[vI p0.Field],enc r7]) ck flq) fun w a hM hE=>Zf (Za (Zg hE rfl (fd52_3) fun a hE=>Zn hE rfl zT rfl (At.cat (pre:=[[vI p0.Field],enc p0.Box,enc p0.Mix]) hM.rawAt2 ck) (Flat.len _) ?_)); intro a hE
 obtain ⟨r11,e12,hF⟩:=bind_some hF
 refine Zv hE rfl (cbm Tryz.func86) (Ad _ p0.Places r11 e12) ?_
 rintro v w a ⟨rfl,hK⟩ hE
 have hM:=hM.keep hK
 refine Zg hE rfl (Kn) fun a hE=>Zo (seg:=enc r11) hE hM Zd rfl rfl rfl Qz (Flat.len _) (YA (pre:=[[vI p0.Field],enc r7,enc r9]) ck flq) (Flat.cell _) (ZT (pre:=[[vI p0.Field],enc r7,enc r9]) ck flq) fun w a hM hE=>Zf (Za (Zg hE rfl (fd52_4) fun a hE=>Zx (v:=(vI p0.Rounds)) hE rfl ty2 rfl (At.cat (pre:=[[vI p0.Field],enc p0.Box,enc p0.Mix,enc p0.Places]) hM.rawAt2 ck) fun a hE=>Zg hE rfl (Jj) fun a hE=>Zo (seg:=[vI p0.Rounds]) hE hM Zd rfl rfl rfl ty2 rfl (YA (pre:=[[vI p0.Field],enc r7,enc r9,enc r11]) ck rfl) (Flat.cell (p0.Rounds : Int)) (ZT (pre:=[[vI p0.Field],enc r7,enc r9,enc r11]) ck rfl) fun w a hM hE=>Zf (Za (Zn hE rfl Te rfl hM.rawAt0 cq ?_)))); intro a hE
 have hM:=hM.pull1
 refine Zo (seg:=cat [[(vI ((⟨p0.Field,r7,r9,r11,p0.Rounds⟩ : GCipher).Field))],enc ((⟨p0.Field,r7,r9,r11,p0.Rounds⟩ : GCipher).Box),enc ((⟨p0.Field,r7,r9,r11,p0.Rounds⟩ : GCipher).Mix),enc ((⟨p0.Field,r7,r9,r11,p0.Rounds⟩ : GCipher).Places),[(vI ((⟨p0.Field,r7,r9,r11,p0.Rounds⟩ : GCipher).Rounds))]]) (cs':=cat [[(vI ((⟨p0.Field,r7,r9,r11,p0.Rounds⟩ : GCipher).Field))],enc ((⟨p0.Field,r7,r9,r11,p0.Rounds⟩ : GCipher).Box),enc ((⟨p0.Field,r7,r9,r11,p0.Rounds⟩ : GCipher).Mix),enc ((⟨p0.Field,r7,r9,r11,p0.Rounds⟩ : GCipher).Places),[(vI ((⟨p0.Field,r7,r9,r11,p0.Rounds⟩ : GCipher).Rounds))]]) hE hM Zd rfl rfl rfl Te cq (Nat.le_of_eq ((Nat.zero_add _).trans (Eq.trans cq (Eq.symm cq)))) (Yt (cc1 (Flat.cell ((⟨p0.Field,r7,r9,r11,p0.Rounds⟩ : GCipher).Field : Int)) (cc1 (Flat.cell _) (cc1 (Flat.cell _) (cc1 (Flat.cell _) (cc1 (Flat.cell ((⟨p0.Field,r7,r9,r11,p0.Rounds⟩ : GCipher).Rounds : Int)) cc0)))))) (Zr (Eq.trans cq (Eq.symm cq))) fun w a hM hE=>Zf ?_
 obtain rfl:=Option.some.inj hF
 have hq13 : Yq Tryz.prog _ _ (.cell 2 30) _:=ZQ hE rfl Te rfl hM.rawAt0 cq rfl
 exact wp_ret (ZS hE rfl hq13 ⟨_,rfl,rfl,hM.kept⟩)
def TZ (p0 : (Vector UInt8 16)) (s10 : (Vector UInt8 16) × Int) : Option (Fl ((Vector UInt8 16) × Int) (Vector UInt8 16)) :=
 if (decide (s10.2 < 16)) = true then ((ZC p0 s10.2).bind fun x16=>(ZC s10.1 s10.2).bind fun x19=>some (Fl.nx ((s10.1.setIfInBounds (s10.2).toNat x16),wr (s10.2 + 1)))) else (some (Fl.ex s10.1))
def Xq (p0 : (Vector UInt8 16)) : Option ((Vector UInt8 16)) :=
 (ZD (TZ p0) ((Vector.replicate 16 (0 : UInt8)),0)).bind fun j7=>some j7
theorem Qf (w0 : World) (p0 : (Vector UInt8 16)) (r : (Vector UInt8 16)) (hF : Xq p0 = some r) :
  Calls Tryz.prog 35 [(Value.agg (enc p0).toArray)].toArray w0 (Rt w0 (Value.agg (enc r).toArray)):=by
 refine ce Tryz.func35 ?_
 intro a hE
 have hM:=M.start w0
 unfold Xq at hF
 refine Za (ZM (cs:=enc p0) hE hM Zd ld rfl rfl fun b1 w a hM hE=>Zz hE hM ZF fun b3 w a hM hE=>Zf (Za (Zz hE hM ZF fun b5 w a hM hE=>Zf (wp_seq (Za (Zb hE rfl fun a hE=>Zf ?_))))))
 obtain ⟨j7,hl8,hF9⟩:=bind_some hF
 refine ZJ (fun a w=>Env 15 a [(2,(ptr b3 0)),(3,(ptr b5 0))] ∧ M (Old w0) w0 w [raw b5 (enc j7),raw b3 (enc (Vector.replicate 16 (0 : UInt8)))]) ?_ ?_
 ·skip
  refine wp_block ?_
  refine ZE (fun (s10 : (Vector UInt8 16) × Int) a w=>Env 15 a [(1,(ptr b1 0)),(2,(ptr b3 0)),(3,(ptr b5 0)),(4,vI s10.2)] ∧ M (Old w0) w0 w [raw b5 (enc s10.1),raw b3 (enc (Vector.replicate 16 (0 : UInt8))),raw b1 (enc p0)]) hl8 ⟨hE.sub ⟨rfl,rfl,rfl,rfl,trivial⟩,hM⟩ ?_
  rintro s10 a w ⟨hE,hM⟩ o13 hs11 hx12
  unfold TZ at hs11
  refine wp_seq (Za (Ze hE rfl fun a hE=>Zk hE rfl rfl rfl fun a hE=>Zf ?_))
  refine Zq hE rfl ?_ ?_
  ·intro hb14
   have hs11:=Zu hs11 hb14
   refine wp_skip (Zy (wp_seq (wp_block (wp_region_lit (Ze hE rfl fun a hE=>Ze hE rfl ?_))))); intro a hE
   obtain ⟨x16,hi15,hs11⟩:=bvx hs11
   refine Zm hE rfl rfl Tryz.underlying27 ty5 hi15.1 fun a hE=>Zx (v:=(vB x16)) hE rfl ty5 rfl (At.vec hM.rawAt2 hi15.2) ?_; intro a hE
   obtain ⟨x19,hi18,hs11⟩:=bvx hs11
   refine Zm hE rfl rfl Tryz.underlying31 ty5 hi18.1 fun a hE=>Zo (seg:=[vB x16]) (cs':=enc (s10.1.setIfInBounds (s10.2).toNat x16)) hE hM Zd rfl rfl rfl ty5 rfl (ZH (v:=s10.1) (x:=x16) hi18.1) (Flat.cell (x16 : UInt8)) (ZA (v:=s10.1) (x:=x16) hi18.1) fun w a hM hE=>Zj (Z0 (Zy (wp_region_lit (Ze hE rfl fun a hE=>Zk hE rfl rfl rfl fun a hE=>Zb hE rfl fun a hE=>Zj (Zl ?_)))))
   exact ⟨_,(ois hs11),hE.sub ⟨rfl,rfl,rfl,rfl,trivial⟩,hM⟩
  ·intro hb14
   have hs11:=Zt hs11 hb14
   refine wp_exit (Zp (Zp (Z1 ?_)))
   obtain rfl:=hx12 _ (ois hs11)
   refine Zl ?_
   have hM:=M.fst (l:=[_,_]) hM.pull1.pull1
   exact ⟨hE.sub ⟨rfl,rfl,trivial⟩,hM⟩
 ·skip
  rintro a w ⟨hE,hM⟩
  refine Zy (Za (Zn hE rfl ZF rfl hM.rawAt0 (Flat.len _) ?_)); intro a hE
  have hM:=hM.pull1
  refine Zo (seg:=enc j7) (cs':=enc j7) hE hM Zd rfl rfl rfl ZF (Flat.len _) (zle flq) (Flat.cell _) (Zr flq) fun w a hM hE=>Zf ?_
  obtain rfl:=Option.some.inj hF9
  have hq22 : Yq Tryz.prog _ _ (.cell 2 31) _:=ZQ hE rfl ZF rfl hM.rawAt0 (Flat.len _) rfl
  exact wp_ret (ZS hE rfl hq22 ⟨_,rfl,rfl,hM.kept⟩)
def T0 (p0 : (List UInt8)) (s10 : (List UInt8) × Int) : Option (Fl ((List UInt8) × Int) (List UInt8)) :=
 if (decide (s10.2 < (p0.length : Int))) = true then ((idx p0 s10.2).bind fun x17=>(idx s10.1 s10.2).bind fun x20=>some (Fl.nx ((s10.1.set (s10.2).toNat x17),wr (s10.2 + 1)))) else (some (Fl.ex s10.1))
def Xr (p0 : (List UInt8)) : Option ((List UInt8)) :=
 (mkS 1 (0 : UInt8) (p0.length : Int)).bind fun l1=>(ZD (T0 p0) (l1,0)).bind fun j5=>some j5
theorem Qa (w0 : World) (p0 : (List UInt8)) (v0_1 : Value) (hv0_1 : Ro w0 p0 [v0_1]) (r : (List UInt8)) (hF : Xr p0 = some r) :
  Calls Tryz.prog 36 [v0_1].toArray w0 (fun en w'=>∃ v,en = .returned v ∧ (∃ (y1 : Value),v = y1 ∧ Fr w0 w' [osl NoB (r : List UInt8) y1] ∧ Kept (Old w0) w0 w')):=by
 refine ce Tryz.func36 ?_
 intro a hE
 have hM:=M.start w0
 unfold Xr at hF
 refine Za (Zb hE rfl fun a hE=>Zf (Za (Ze hE rfl fun a hE=>ZZ hE rfl Tryz.underlying32 (hM.rd hv0_1) ?_))); intro a hE
 obtain ⟨l1,e2,hF⟩:=bind_some hF
 refine Ha hE hM Zd ld rfl rfl Tryz.underlying32 ty5 rfl (by decide) (fun _=>TR.2 ⟨rfl,rfl⟩) e2 fun u3 w a hM hE=>Zb hE rfl fun a hE=>Zf (wp_seq (Za (Zb hE rfl fun a hE=>Zf ?_)))
 obtain ⟨j5,hl6,hF7⟩:=bind_some hF
 refine ZJ (fun a w=>∃ (u8 : Value),Env 22 a [(3,u8)] ∧ M (Old w0) w0 w [osl NoB (j5 : List UInt8) u8]) ?_ ?_
 ·skip
  refine wp_block ?_
  refine ZE (fun (s10 : (List UInt8) × Int) a w=>∃ (u11 : Value),Env 22 a [(0,v0_1),(3,u11),(4,vI s10.2)] ∧ M (Old w0) w0 w [osl NoB (s10.1 : List UInt8) u11]) hl6 ⟨u3,hE.sub ⟨rfl,rfl,rfl,trivial⟩,hM⟩ ?_
  rintro s10 a w ⟨u11,hE,hM⟩ o15 hs13 hx14
  unfold T0 at hs13
  refine wp_seq (Za (Ze hE rfl fun a hE=>Ze hE rfl fun a hE=>ZZ hE rfl Tryz.underlying32 (hM.rd hv0_1) fun a hE=>Zk hE rfl rfl rfl fun a hE=>Zf ?_))
  refine Zq hE rfl ?_ ?_
  ·intro hb16
   have hs13:=Zu hs13 hb16
   refine wp_skip (Zy (wp_seq (wp_block (wp_region_lit (Ze hE rfl fun a hE=>Ze hE rfl fun a hE=>Ze hE rfl fun a hE=>Ze hE rfl ?_))))); intro a hE
   obtain ⟨x17,hi19,hs13⟩:=bix hs13
   refine ZK hE rfl rfl Tryz.underlying32 ty5 (hM.rd hv0_1) hi19.1 fun a hE=>Zx (v:=(vB x17)) hE rfl ty5 rfl (Ys (hM.rd hv0_1) hi19.2) ?_; intro a hE
   obtain ⟨x20,hi22,hs13⟩:=bix hs13
   refine ZK hE rfl rfl Tryz.underlying32 ty5 (hM.sl (pre:=[]) noB) hi22.1 fun a hE=>Ji (i:=(s10.2).toNat) (k0:=0) (seg:=[vB x17]) (xo:=x20) (xn:=x17) hE hM Zd rfl rfl rfl ty5 rfl (Flat.cell (x17 : UInt8)) hi22.2 (Ht (m:=1) rfl (by decide)) (Zr rfl) fun w a hM hE=>Zj (Z0 (Zy (wp_region_lit (Ze hE rfl fun a hE=>Zk hE rfl rfl rfl fun a hE=>Zb hE rfl fun a hE=>Zj (Zl ?_)))))
   exact ⟨_,(ois hs13),u11,hE.sub ⟨rfl,rfl,rfl,trivial⟩,hM⟩
  ·intro hb16
   have hs13:=Zt hs13 hb16
   refine wp_exit (Zp (Zp (Z1 ?_)))
   obtain rfl:=hx14 _ (ois hs13)
   refine Zl ?_
   exact ⟨u11,hE.sub ⟨rfl,trivial⟩,hM⟩
 ·skip
  rintro a w ⟨u8,hE,hM⟩
  refine Zy (Za (Ze hE rfl fun a hE=>Zb hE rfl fun a hE=>Zf ?_))
  obtain rfl:=Option.some.inj hF7
  exact wp_ret (ZS hE rfl (YH hE rfl) ⟨_,rfl,u8,rfl,hM.outF (Wc VD),hM.kept⟩)
def Th (p0 : (List (Vector UInt8 16))) (s10 : (List (Vector UInt8 16)) × Int) : Option (Fl ((List (Vector UInt8 16)) × Int) (List (Vector UInt8 16))) :=
 if (decide (s10.2 < (p0.length : Int))) = true then ((idx p0 s10.2).bind fun x17=>(Xq x17).bind fun r20=>(idx s10.1 s10.2).bind fun x22=>some (Fl.nx ((s10.1.set (s10.2).toNat r20),wr (s10.2 + 1)))) else (some (Fl.ex s10.1))
def Uf (p0 : (List (Vector UInt8 16))) : Option ((List (Vector UInt8 16))) :=
 (mkS 16 (Vector.replicate 16 (0 : UInt8)) (p0.length : Int)).bind fun l1=>(ZD (Th p0) (l1,0)).bind fun j5=>some j5
theorem Ak (w0 : World) (p0 : (List (Vector UInt8 16))) (v0_1 : Value) (hv0_1 : Ro w0 p0 [v0_1]) (r : (List (Vector UInt8 16))) (hF : Uf p0 = some r) :
  Calls Tryz.prog 87 [v0_1].toArray w0 (fun en w'=>∃ v,en = .returned v ∧ (∃ (y1 : Value),v = y1 ∧ Fr w0 w' [osl NoB (r : List (Vector UInt8 16)) y1] ∧ Kept (Old w0) w0 w')):=by
 refine ce Tryz.func87 ?_
 intro a hE
 have hM:=M.start w0
 unfold Uf at hF
 refine Za (Zb hE rfl fun a hE=>Zf (Za (Ze hE rfl fun a hE=>ZZ hE rfl Tryz.underlying53 (hM.rd hv0_1) ?_))); intro a hE
 obtain ⟨l1,e2,hF⟩:=bind_some hF
 refine Ha hE hM Zd ld rfl rfl Tryz.underlying33 ZF rfl (by decide) (fun _=>TR.2 ⟨rfl,rfl⟩) e2 fun u3 w a hM hE=>Zb hE rfl fun a hE=>Zf (wp_seq (Za (Zb hE rfl fun a hE=>Zf ?_)))
 obtain ⟨j5,hl6,hF7⟩:=bind_some hF
 refine ZJ (fun a w=>∃ (u8 : Value),Env 23 a [(3,u8)] ∧ M (Old w0) w0 w [osl NoB (j5 : List (Vector UInt8 16)) u8]) ?_ ?_
 ·skip
  refine wp_block ?_
  refine ZE (fun (s10 : (List (Vector UInt8 16)) × Int) a w=>∃ (u11 : Value),Env 23 a [(0,v0_1),(3,u11),(4,vI s10.2)] ∧ M (Old w0) w0 w [osl NoB (s10.1 : List (Vector UInt8 16)) u11]) hl6 ⟨u3,hE.sub ⟨rfl,rfl,rfl,trivial⟩,hM⟩ ?_
  rintro s10 a w ⟨u11,hE,hM⟩ o15 hs13 hx14
  unfold Th at hs13
  refine wp_seq (Za (Ze hE rfl fun a hE=>Ze hE rfl fun a hE=>ZZ hE rfl Tryz.underlying53 (hM.rd hv0_1) fun a hE=>Zk hE rfl rfl rfl fun a hE=>Zf ?_))
  refine Zq hE rfl ?_ ?_
  ·intro hb16
   have hs13:=Zu hs13 hb16
   refine wp_skip (Zy (wp_seq (wp_block (wp_region_lit (Ze hE rfl fun a hE=>Ze hE rfl fun a hE=>Ze hE rfl fun a hE=>Ze hE rfl ?_))))); intro a hE
   obtain ⟨x17,hi19,hs13⟩:=bix hs13
   refine ZK hE rfl rfl Tryz.underlying53 zT (hM.rd hv0_1) hi19.1 fun a hE=>Zn hE rfl zT rfl (Ys (hM.rd hv0_1) hi19.2) (Flat.len _) ?_; intro a hE
   obtain ⟨r20,e21,hs13⟩:=bind_some hs13
   refine Zv hE rfl cb35 (Qf _ x17 r20 e21) ?_
   rintro v w a ⟨rfl,hK⟩ hE
   have hM:=hM.keep hK
   obtain ⟨x22,hi24,hs13⟩:=bix hs13
   refine ZK hE rfl rfl Tryz.underlying33 ZF (hM.sl (pre:=[]) noB) hi24.1 fun a hE=>Ji (i:=(s10.2).toNat) (k0:=0) (seg:=enc r20) (xo:=x22) (xn:=r20) hE hM Zd rfl rfl rfl ZF (Flat.len _) (Flat.cell _) hi24.2 (Ht (m:=16) (Flat.len _) (by decide)) (Zr flq) fun w a hM hE=>Zj (Z0 (Zy (wp_region_lit (Ze hE rfl fun a hE=>Zk hE rfl rfl rfl fun a hE=>Zb hE rfl fun a hE=>Zj (Zl ?_)))))
   exact ⟨_,(ois hs13),u11,hE.sub ⟨rfl,rfl,rfl,trivial⟩,hM⟩
  ·intro hb16
   have hs13:=Zt hs13 hb16
   refine wp_exit (Zp (Zp (Z1 ?_)))
   obtain rfl:=hx14 _ (ois hs13)
   refine Zl ?_
   exact ⟨u11,hE.sub ⟨rfl,trivial⟩,hM⟩
 ·skip
  rintro a w ⟨u8,hE,hM⟩
  refine Zy (Za (Ze hE rfl fun a hE=>Zb hE rfl fun a hE=>Zf ?_))
  obtain rfl:=Option.some.inj hF7
  exact wp_ret (ZS hE rfl (YH hE rfl) ⟨_,rfl,u8,rfl,hM.outF (Wc VD),hM.kept⟩)
def Tg (p0 : (Vector UInt8 32)) (s10 : (Vector UInt8 32) × Int) : Option (Fl ((Vector UInt8 32) × Int) (Vector UInt8 32)) :=
 if (decide (s10.2 < 32)) = true then ((ZC p0 s10.2).bind fun x16=>(ZC s10.1 s10.2).bind fun x19=>some (Fl.nx ((s10.1.setIfInBounds (s10.2).toNat x16),wr (s10.2 + 1)))) else (some (Fl.ex s10.1))
def Y6 (p0 : (Vector UInt8 32)) : Option ((Vector UInt8 32)) :=
 (ZD (Tg p0) ((Vector.replicate 32 (0 : UInt8)),0)).bind fun j7=>some j7
theorem TV (w0 : World) (p0 : (Vector UInt8 32)) (r : (Vector UInt8 32)) (hF : Y6 p0 = some r) :
  Calls Tryz.prog 90 [(Value.agg (enc p0).toArray)].toArray w0 (Rt w0 (Value.agg (enc r).toArray)):=by
 refine ce Tryz.func90 ?_
 intro a hE
 have hM:=M.start w0
 unfold Y6 at hF
 refine Za (ZM (cs:=enc p0) hE hM Zd ld rfl rfl fun b1 w a hM hE=>Zz hE hM Yr fun b3 w a hM hE=>Zf (Za (Zz hE hM Yr fun b5 w a hM hE=>Zf (wp_seq (Za (Zb hE rfl fun a hE=>Zf ?_))))))
 obtain ⟨j7,hl8,hF9⟩:=bind_some hF
 refine ZJ (fun a w=>Env 15 a [(2,(ptr b3 0)),(3,(ptr b5 0))] ∧ M (Old w0) w0 w [raw b5 (enc j7),raw b3 (enc (Vector.replicate 32 (0 : UInt8)))]) ?_ ?_
 ·skip
  refine wp_block ?_
  refine ZE (fun (s10 : (Vector UInt8 32) × Int) a w=>Env 15 a [(1,(ptr b1 0)),(2,(ptr b3 0)),(3,(ptr b5 0)),(4,vI s10.2)] ∧ M (Old w0) w0 w [raw b5 (enc s10.1),raw b3 (enc (Vector.replicate 32 (0 : UInt8))),raw b1 (enc p0)]) hl8 ⟨hE.sub ⟨rfl,rfl,rfl,rfl,trivial⟩,hM⟩ ?_
  rintro s10 a w ⟨hE,hM⟩ o13 hs11 hx12
  unfold Tg at hs11
  refine wp_seq (Za (Ze hE rfl fun a hE=>Zk hE rfl rfl rfl fun a hE=>Zf ?_))
  refine Zq hE rfl ?_ ?_
  ·intro hb14
   have hs11:=Zu hs11 hb14
   refine wp_skip (Zy (wp_seq (wp_block (wp_region_lit (Ze hE rfl fun a hE=>Ze hE rfl ?_))))); intro a hE
   obtain ⟨x16,hi15,hs11⟩:=bvx hs11
   refine Zm hE rfl rfl Tryz.underlying36 ty5 hi15.1 fun a hE=>Zx (v:=(vB x16)) hE rfl ty5 rfl (At.vec hM.rawAt2 hi15.2) ?_; intro a hE
   obtain ⟨x19,hi18,hs11⟩:=bvx hs11
   refine Zm hE rfl rfl Tryz.underlying37 ty5 hi18.1 fun a hE=>Zo (seg:=[vB x16]) (cs':=enc (s10.1.setIfInBounds (s10.2).toNat x16)) hE hM Zd rfl rfl rfl ty5 rfl (ZH (v:=s10.1) (x:=x16) hi18.1) (Flat.cell (x16 : UInt8)) (ZA (v:=s10.1) (x:=x16) hi18.1) fun w a hM hE=>Zj (Z0 (Zy (wp_region_lit (Ze hE rfl fun a hE=>Zk hE rfl rfl rfl fun a hE=>Zb hE rfl fun a hE=>Zj (Zl ?_)))))
   exact ⟨_,(ois hs11),hE.sub ⟨rfl,rfl,rfl,rfl,trivial⟩,hM⟩
  ·intro hb14
   have hs11:=Zt hs11 hb14
   refine wp_exit (Zp (Zp (Z1 ?_)))
   obtain rfl:=hx12 _ (ois hs11)
   refine Zl ?_
   have hM:=M.fst (l:=[_,_]) hM.pull1.pull1
   exact ⟨hE.sub ⟨rfl,rfl,trivial⟩,hM⟩
 ·skip
  rintro a w ⟨hE,hM⟩
  refine Zy (Za (Zn hE rfl Yr rfl hM.rawAt0 (Flat.len _) ?_)); intro a hE
  have hM:=hM.pull1
  refine Zo (seg:=enc j7) (cs':=enc j7) hE hM Zd rfl rfl rfl Yr (Flat.len _) (zle flq) (Flat.cell _) (Zr flq) fun w a hM hE=>Zf ?_
  obtain rfl:=Option.some.inj hF9
  have hq22 : Yq Tryz.prog _ _ (.cell 2 37) _:=ZQ hE rfl Yr rfl hM.rawAt0 (Flat.len _) rfl
  exact wp_ret (ZS hE rfl hq22 ⟨_,rfl,rfl,hM.kept⟩)
def W5 (p0 : GRecord) : Option (GRecord) :=
 (Xq p0.Nonce).bind fun r7=>(Xr p0.Label).bind fun r9=>(Xr p0.Body).bind fun r12=>(Y6 p0.Tag).bind fun r15=>some (⟨p0.Number,p0.Version,r7,r9,r12,r15⟩ : GRecord)
theorem BP (w0 : World) (p0 : GRecord) (v0_1 : Value) (hv0_1 : Ro w0 p0.Label [v0_1]) (v0_2 : Value) (hv0_2 : Ro w0 p0.Body [v0_2]) (r : GRecord) (hF : W5 p0 = some r) :
  Calls Tryz.prog 124 [(Value.agg (cat [[vI p0.Number],[vI p0.Version],enc p0.Nonce,[v0_1],[v0_2],enc p0.Tag]).toArray)].toArray w0 (fun en w'=>∃ v,en = .returned v ∧ (∃ (y1 : Value) (y2 : Value),v = (Value.agg (cat [[vI r.Number],[vI r.Version],enc r.Nonce,[y1],[y2],enc r.Tag]).toArray) ∧ Fr w0 w' [osl NoB (r.Label : List UInt8) y1,osl NoB (r.Body : List UInt8) y2] ∧ Kept (Old w0) w0 w')):=by
 refine ce Tryz.func124 ?_
 intro a hE
 have hM:=M.start w0
 unfold W5 at hF
 refine Za (ZM (cs:=cat [[vI p0.Number],[vI p0.Version],enc p0.Nonce,[v0_1],[v0_2],enc p0.Tag]) hE hM Zd ld rfl rfl fun b1 w a hM hE=>Zz hE hM Vx fun b3 w a hM hE=>Zf (Za (Zz hE hM Vx fun b5 w a hM hE=>Zf (Za (Zg hE rfl (Zdn) fun a hE=>Zx (v:=(vI p0.Number)) hE rfl ty2 rfl (At.cat (pre:=[]) hM.rawAt2 cl0) fun a hE=>Zg hE rfl (Qi) fun a hE=>Zo (seg:=[vI p0.Number]) hE hM Zd rfl rfl rfl ty2 rfl (YA (pre:=[]) cl0 rfl) (Flat.cell (p0.Number : Int)) (ZT (pre:=[]) cl0 rfl) fun w a hM hE=>Zf (Za (Zg hE rfl (Zcr) fun a hE=>Zx (v:=(vI p0.Version)) hE rfl ty2 rfl (At.cat (pre:=[[vI p0.Number]]) hM.rawAt2 ck) fun a hE=>Zg hE rfl (KK) fun a hE=>Zo (seg:=[vI p0.Version]) hE hM Zd rfl rfl rfl ty2 rfl (YA (pre:=[[vI p0.Number]]) ck rfl) (Flat.cell (p0.Version : Int)) (ZT (pre:=[[vI p0.Number]]) ck rfl) fun w a hM hE=>Zf (Za (Zg hE rfl (Zcz) ?_))))))))); intro a hE
 refine Zn hE rfl zT rfl (At.cat (pre:=[[vI p0.Number],[vI p0.Version]]) hM.rawAt2 ck) (Flat.len _) ?_; intro a hE
 obtain ⟨r7,e8,hF⟩:=bind_some hF
 refine Zv hE rfl cb35 (Qf _ p0.Nonce r7 e8) ?_
 rintro v w a ⟨rfl,hK⟩ hE
 have hM:=hM.keep hK
 refine Zg hE rfl (yW) fun a hE=>Zo (seg:=enc r7) hE hM Zd rfl rfl rfl ZF (Flat.len _) (YA (pre:=[[vI p0.Number],[vI p0.Version]]) ck flq) (Flat.cell _) (ZT (pre:=[[vI p0.Number],[vI p0.Version]]) ck flq) fun w a hM hE=>Zf (Za (Zg hE rfl (qx) fun a hE=>Zx (v:=v0_1) hE rfl XB rfl (At.cat (pre:=[[vI p0.Number],[vI p0.Version],enc p0.Nonce]) hM.rawAt2 ck) ?_)); intro a hE
 obtain ⟨r9,e10,hF⟩:=bind_some hF
 refine Zv hE rfl cb36 (Qa _ p0.Label v0_1 (hM.rdo hv0_1) r9 e10) ?_
 rintro u11 w a ⟨_,rfl,hFr,hK⟩ hE
 have hM:=hM.add hK hFr
 refine Zg hE rfl (JJ) ?_; intro a hE
 have hM:=hM.pull1
 refine Zo (seg:=[u11]) hE hM Zd rfl rfl (Vq (hM.sl (pre:=[_]) noB)) XB rfl (YA (pre:=[[vI p0.Number],[vI p0.Version],enc r7]) ck rfl) (Rep.cell (hM.sl (pre:=[_]) noB)) (ZT (pre:=[[vI p0.Number],[vI p0.Version],enc r7]) ck rfl) fun w a hM hE=>Zf (Za (Zg hE rfl (qz) fun a hE=>Zx (v:=v0_2) hE rfl XB rfl (At.cat (pre:=[[vI p0.Number],[vI p0.Version],enc p0.Nonce,[v0_1]]) hM.rawAt3 ck) ?_)); intro a hE
 obtain ⟨r12,e13,hF⟩:=bind_some hF
 refine Zv hE rfl cb36 (Qa _ p0.Body v0_2 (hM.rdo hv0_2) r12 e13) ?_
 rintro u14 w a ⟨_,rfl,hFr,hK⟩ hE
 have hM:=hM.add hK hFr
 refine Zg hE rfl (HK) ?_; intro a hE
 have hM:=hM.pull1
 refine Zo (seg:=[u14]) hE hM Zd rfl rfl (Vq (hM.sl (pre:=[_]) noB)) XB rfl (YA (pre:=[[vI p0.Number],[vI p0.Version],enc r7,[u11]]) ck rfl) (Rep.cell (hM.sl (pre:=[_]) noB)) (ZT (pre:=[[vI p0.Number],[vI p0.Version],enc r7,[u11]]) ck rfl) fun w a hM hE=>Zf (Za (Zg hE rfl (Zdh) fun a hE=>Zn hE rfl jF rfl (At.cat (pre:=[[vI p0.Number],[vI p0.Version],enc p0.Nonce,[v0_1],[v0_2]]) hM.rawAt4 ck) (Flat.len _) ?_)); intro a hE
 obtain ⟨r15,e16,hF⟩:=bind_some hF
 refine Zv hE rfl cb90 (TV _ p0.Tag r15 e16) ?_
 rintro v w a ⟨rfl,hK⟩ hE
 have hM:=hM.keep hK
 refine Zg hE rfl (yD) fun a hE=>Zo (seg:=enc r15) hE hM Zd rfl rfl rfl Yr (Flat.len _) (YA (pre:=[[vI p0.Number],[vI p0.Version],enc r7,[u11],[u14]]) ck flq) (Flat.cell _) (ZT (pre:=[[vI p0.Number],[vI p0.Version],enc r7,[u11],[u14]]) ck flq) fun w a hM hE=>Zf (Za (Zn hE rfl Vx rfl hM.rawAt0 cq ?_)); intro a hE
 have hM:=hM.pull3
 refine Zo (seg:=cat [[vI p0.Number],[vI p0.Version],enc r7,[u11],[u14],enc r15]) (cs':=cat [[vI p0.Number],[vI p0.Version],enc r7,[u11],[u14],enc r15]) hE hM Zd rfl rfl rfl Vx cq (Nat.le_of_eq ((Nat.zero_add _).trans (Eq.trans cq (Eq.symm cq)))) (Yt (cc1 (Flat.cell (p0.Number : Int)) (cc1 (Flat.cell (p0.Version : Int)) (cc1 (Flat.cell _) (cc1 (Rep.cell (hM.sl (pre:=[_,_,_]) noB)) (cc1 (Rep.cell (hM.sl (pre:=[_,_]) noB)) (cc1 (Flat.cell _) cc0))))))) (Zr (Eq.trans cq (Eq.symm cq))) fun w a hM hE=>Zf ?_
 obtain rfl:=Option.some.inj hF
 have hq17 : Yq Tryz.prog _ _ (.cell 2 134) _:=ZQ hE rfl Vx rfl hM.rawAt0 cq rfl
 have hM:=M.fst (l:=[_,_]) hM.pull2.pull3
 exact wp_ret (ZS hE rfl hq17 ⟨_,rfl,u11,u14,rfl,hM.outF (Wc (Wc VD)),hM.kept⟩)
def UG (p0 : (List GRecord)) (s10 : (List GRecord) × Int) : Option (Fl ((List GRecord) × Int) (List GRecord)) :=
 if (decide (s10.2 < (p0.length : Int))) = true then ((idx p0 s10.2).bind fun x17=>(W5 x17).bind fun r27=>(idx s10.1 s10.2).bind fun x31=>some (Fl.nx ((s10.1.set (s10.2).toNat r27),wr (s10.2 + 1)))) else (some (Fl.ex s10.1))
def VM (p0 : (List GRecord)) : Option ((List GRecord)) :=
 (mkS 112 (⟨(0 : Int),(0 : Int),(Vector.replicate 16 (0 : UInt8)),([] : (List UInt8)),([] : (List UInt8)),(Vector.replicate 32 (0 : UInt8))⟩ : GRecord) (p0.length : Int)).bind fun l1=>(ZD (UG p0) (l1,0)).bind fun j5=>some j5
theorem HZ (w0 : World) (p0 : (List GRecord)) (v0_1 : Value) (hv0_1 : Ro w0 p0 [v0_1]) (r : (List GRecord)) (hF : VM p0 = some r) :
  Calls Tryz.prog 88 [v0_1].toArray w0 (fun en w'=>∃ v,en = .returned v ∧ (∃ (y1 : Value),v = y1 ∧ Fr w0 w' [osl NoB (r : List GRecord) y1] ∧ Kept (Old w0) w0 w')):=by
 refine ce Tryz.func88 ?_
 intro a hE
 have hM:=M.start w0
 unfold VM at hF
 refine Za (Zb hE rfl fun a hE=>Zf (Za (Ze hE rfl fun a hE=>ZZ hE rfl Tryz.underlying54 (hM.rd hv0_1) ?_))); intro a hE
 obtain ⟨l1,e2,hF⟩:=bind_some hF
 refine Ha hE hM Zd ld rfl rfl Tryz.underlying34 Vx rfl (by decide) yL e2 fun u3 w a hM hE=>Zb hE rfl fun a hE=>Zf (wp_seq (Za (Zb hE rfl fun a hE=>Zf ?_)))
 obtain ⟨j5,hl6,hF7⟩:=bind_some hF
 refine ZJ (fun a w=>∃ (u8 : Value),Env 23 a [(3,u8)] ∧ M (Old w0) w0 w [osl NoB (j5 : List GRecord) u8]) ?_ ?_
 ·skip
  refine wp_block ?_
  refine ZE (fun (s10 : (List GRecord) × Int) a w=>∃ (u11 : Value),Env 23 a [(0,v0_1),(3,u11),(4,vI s10.2)] ∧ M (Old w0) w0 w [osl NoB (s10.1 : List GRecord) u11]) hl6 ⟨u3,hE.sub ⟨rfl,rfl,rfl,trivial⟩,hM⟩ ?_
  rintro s10 a w ⟨u11,hE,hM⟩ o15 hs13 hx14
  unfold UG at hs13
  refine wp_seq (Za (Ze hE rfl fun a hE=>Ze hE rfl fun a hE=>ZZ hE rfl Tryz.underlying54 (hM.rd hv0_1) fun a hE=>Zk hE rfl rfl rfl fun a hE=>Zf ?_))
  refine Zq hE rfl ?_ ?_
  ·intro hb16
   have hs13:=Zu hs13 hb16
   refine wp_skip (Zy (wp_seq (wp_block (wp_region_lit (Ze hE rfl fun a hE=>Ze hE rfl fun a hE=>Ze hE rfl fun a hE=>Ze hE rfl ?_))))); intro a hE
   obtain ⟨x17,hi19,hs13⟩:=bix hs13
   refine ZK hE rfl rfl Tryz.underlying54 JW (hM.rd hv0_1) hi19.1 ?_; intro a hE
   obtain ⟨cs20,hs21,hA22⟩:=Vl hv0_1 hi19.2 -- ^
   obtain ⟨u23,u25,rfl,h24,h26⟩:=T2 hs21 -- ^
   refine Zn hE rfl JW rfl (hM.atk hA22 (VY hv0_1 hi19.2)) cq ?_; intro a hE
   obtain ⟨r27,e28,hs13⟩:=bind_some hs13
   refine Zv hE rfl (cbm Tryz.func124) (BP _ x17 u23 (hM.rdo h24) u25 (hM.rdo h26) r27 e28) ?_
   rintro v w a ⟨u29,u30,rfl,hFr,hK⟩ hE
   have hM:=hM.add hK hFr
   obtain ⟨x31,hi33,hs13⟩:=bix hs13
   refine ZK hE rfl rfl Tryz.underlying34 Vx (hM.sl (pre:=[_,_]) noB) hi33.1 ?_; intro a hE
   have hM:=hM.pull1.pull1
   have hM:=((hM.pack2 (it:=own NoB r27 (cat [[vI r27.Number],[vI r27.Version],enc r27.Nonce,[u29],[u30],enc r27.Tag])) (Vo noB) (fun f0 f1 q0 q1=>(zI (Wq.sat q0) (Wq.sat q1) (by simp)))).pull1).pull1
   refine jc (i:=(s10.2).toNat) (seg:=cat [[vI r27.Number],[vI r27.Version],enc r27.Nonce,[u29],[u30],enc r27.Tag]) hE hM noB Zd rfl rfl rfl Vx (by omega) fun w a hM hE=>Zj (Z0 (Zy (wp_region_lit (Ze hE rfl fun a hE=>Zk hE rfl rfl rfl fun a hE=>Zb hE rfl fun a hE=>Zj (Zl ?_)))))
   exact ⟨_,(ois hs13),u11,hE.sub ⟨rfl,rfl,rfl,trivial⟩,hM⟩
  ·intro hb16
   have hs13:=Zt hs13 hb16
   refine wp_exit (Zp (Zp (Z1 ?_)))
   obtain rfl:=hx14 _ (ois hs13)
   refine Zl ?_
   exact ⟨u11,hE.sub ⟨rfl,trivial⟩,hM⟩
 ·skip
  rintro a w ⟨u8,hE,hM⟩
  refine Zy (Za (Ze hE rfl fun a hE=>Zb hE rfl fun a hE=>Zf ?_))
  obtain rfl:=Option.some.inj hF7
  exact wp_ret (ZS hE rfl (YH hE rfl) ⟨_,rfl,u8,rfl,hM.outF (Wc VD),hM.kept⟩)
def VR (p0 : GEvent) : Option (GEvent) :=
 (Y6 p0.Tag).bind fun r7=>some (⟨p0.Kind,p0.Number,r7⟩ : GEvent)
theorem zo (w0 : World) (p0 : GEvent) (r : GEvent) (hF : VR p0 = some r) :
  Calls Tryz.prog 125 [(Value.agg (enc p0).toArray)].toArray w0 (Rt w0 (Value.agg (enc r).toArray)):=by
 refine ce Tryz.func125 ?_
 intro a hE
 have hM:=M.start w0
 unfold VR at hF
 refine Za (ZM (cs:=cat [[vI p0.Kind],[vI p0.Number],enc p0.Tag]) hE hM Zd ld rfl rfl fun b1 w a hM hE=>Zz hE hM T6 fun b3 w a hM hE=>Zf (Za (Zz hE hM T6 fun b5 w a hM hE=>Zf (Za (Zg hE rfl (Zdc) fun a hE=>Zx (v:=(vI p0.Kind)) hE rfl ty2 rfl (At.cat (pre:=[]) hM.rawAt2 cl0) fun a hE=>Zg hE rfl (Hv) fun a hE=>Zo (seg:=[vI p0.Kind]) hE hM Zd rfl rfl rfl ty2 rfl (YA (pre:=[]) cl0 rfl) (Flat.cell (p0.Kind : Int)) (ZT (pre:=[]) cl0 rfl) fun w a hM hE=>Zf (Za (Zg hE rfl (Zcv) fun a hE=>Zx (v:=(vI p0.Number)) hE rfl ty2 rfl (At.cat (pre:=[[vI p0.Kind]]) hM.rawAt2 ck) fun a hE=>Zg hE rfl (Hl) fun a hE=>Zo (seg:=[vI p0.Number]) hE hM Zd rfl rfl rfl ty2 rfl (YA (pre:=[[vI p0.Kind]]) ck rfl) (Flat.cell (p0.Number : Int)) (ZT (pre:=[[vI p0.Kind]]) ck rfl) fun w a hM hE=>Zf (Za (Zg hE rfl (Zdi) ?_))))))))); intro a hE
 refine Zn hE rfl jF rfl (At.cat (pre:=[[vI p0.Kind],[vI p0.Number]]) hM.rawAt2 ck) (Flat.len _) ?_; intro a hE
 obtain ⟨r7,e8,hF⟩:=bind_some hF
 refine Zv hE rfl cb90 (TV _ p0.Tag r7 e8) ?_
 rintro v w a ⟨rfl,hK⟩ hE
 have hM:=hM.keep hK
 refine Zg hE rfl (yr) fun a hE=>Zo (seg:=enc r7) hE hM Zd rfl rfl rfl Yr (Flat.len _) (YA (pre:=[[vI p0.Kind],[vI p0.Number]]) ck flq) (Flat.cell _) (ZT (pre:=[[vI p0.Kind],[vI p0.Number]]) ck flq) fun w a hM hE=>Zf (Za (Zn hE rfl T6 rfl hM.rawAt0 cq ?_)); intro a hE
 have hM:=hM.pull1
 refine Zo (seg:=cat [[(vI ((⟨p0.Kind,p0.Number,r7⟩ : GEvent).Kind))],[(vI ((⟨p0.Kind,p0.Number,r7⟩ : GEvent).Number))],enc ((⟨p0.Kind,p0.Number,r7⟩ : GEvent).Tag)]) (cs':=cat [[(vI ((⟨p0.Kind,p0.Number,r7⟩ : GEvent).Kind))],[(vI ((⟨p0.Kind,p0.Number,r7⟩ : GEvent).Number))],enc ((⟨p0.Kind,p0.Number,r7⟩ : GEvent).Tag)]) hE hM Zd rfl rfl rfl T6 cq (Nat.le_of_eq ((Nat.zero_add _).trans (Eq.trans cq (Eq.symm cq)))) (Yt (cc1 (Flat.cell ((⟨p0.Kind,p0.Number,r7⟩ : GEvent).Kind : Int)) (cc1 (Flat.cell ((⟨p0.Kind,p0.Number,r7⟩ : GEvent).Number : Int)) (cc1 (Flat.cell _) cc0)))) (Zr (Eq.trans cq (Eq.symm cq))) fun w a hM hE=>Zf ?_
 obtain rfl:=Option.some.inj hF
 have hq9 : Yq Tryz.prog _ _ (.cell 2 137) _:=ZQ hE rfl T6 rfl hM.rawAt0 cq rfl
 exact wp_ret (ZS hE rfl hq9 ⟨_,rfl,rfl,hM.kept⟩)
def Tc (p0 : (List GEvent)) (s10 : (List GEvent) × Int) : Option (Fl ((List GEvent) × Int) (List GEvent)) :=
 if (decide (s10.2 < (p0.length : Int))) = true then ((idx p0 s10.2).bind fun x17=>(VR x17).bind fun r20=>(idx s10.1 s10.2).bind fun x22=>some (Fl.nx ((s10.1.set (s10.2).toNat r20),wr (s10.2 + 1)))) else (some (Fl.ex s10.1))
def Ul (p0 : (List GEvent)) : Option ((List GEvent)) :=
 (mkS 48 (⟨(0 : Int),(0 : Int),(Vector.replicate 32 (0 : UInt8))⟩ : GEvent) (p0.length : Int)).bind fun l1=>(ZD (Tc p0) (l1,0)).bind fun j5=>some j5
theorem BX (w0 : World) (p0 : (List GEvent)) (v0_1 : Value) (hv0_1 : Ro w0 p0 [v0_1]) (r : (List GEvent)) (hF : Ul p0 = some r) :
  Calls Tryz.prog 89 [v0_1].toArray w0 (fun en w'=>∃ v,en = .returned v ∧ (∃ (y1 : Value),v = y1 ∧ Fr w0 w' [osl NoB (r : List GEvent) y1] ∧ Kept (Old w0) w0 w')):=by
 refine ce Tryz.func89 ?_
 intro a hE
 have hM:=M.start w0
 unfold Ul at hF
 refine Za (Zb hE rfl fun a hE=>Zf (Za (Ze hE rfl fun a hE=>ZZ hE rfl Tryz.underlying55 (hM.rd hv0_1) ?_))); intro a hE
 obtain ⟨l1,e2,hF⟩:=bind_some hF
 refine Ha hE hM Zd ld rfl rfl Tryz.underlying35 T6 rfl (by decide) (fun _=>TR.2 ⟨rfl,rfl⟩) e2 fun u3 w a hM hE=>Zb hE rfl fun a hE=>Zf (wp_seq (Za (Zb hE rfl fun a hE=>Zf ?_)))
 obtain ⟨j5,hl6,hF7⟩:=bind_some hF
 refine ZJ (fun a w=>∃ (u8 : Value),Env 23 a [(3,u8)] ∧ M (Old w0) w0 w [osl NoB (j5 : List GEvent) u8]) ?_ ?_
 ·skip
  refine wp_block ?_
  refine ZE (fun (s10 : (List GEvent) × Int) a w=>∃ (u11 : Value),Env 23 a [(0,v0_1),(3,u11),(4,vI s10.2)] ∧ M (Old w0) w0 w [osl NoB (s10.1 : List GEvent) u11]) hl6 ⟨u3,hE.sub ⟨rfl,rfl,rfl,trivial⟩,hM⟩ ?_
  rintro s10 a w ⟨u11,hE,hM⟩ o15 hs13 hx14
  unfold Tc at hs13
  refine wp_seq (Za (Ze hE rfl fun a hE=>Ze hE rfl fun a hE=>ZZ hE rfl Tryz.underlying55 (hM.rd hv0_1) fun a hE=>Zk hE rfl rfl rfl fun a hE=>Zf ?_))
  refine Zq hE rfl ?_ ?_
  ·intro hb16
   have hs13:=Zu hs13 hb16
   refine wp_skip (Zy (wp_seq (wp_block (wp_region_lit (Ze hE rfl fun a hE=>Ze hE rfl fun a hE=>Ze hE rfl fun a hE=>Ze hE rfl ?_))))); intro a hE
   obtain ⟨x17,hi19,hs13⟩:=bix hs13
   refine ZK hE rfl rfl Tryz.underlying55 jT (hM.rd hv0_1) hi19.1 fun a hE=>Zn hE rfl jT rfl (Ys (hM.rd hv0_1) hi19.2) cq ?_; intro a hE
   obtain ⟨r20,e21,hs13⟩:=bind_some hs13
   refine Zv hE rfl (cbm Tryz.func125) (zo _ x17 r20 e21) ?_
   rintro v w a ⟨rfl,hK⟩ hE
   have hM:=hM.keep hK
   obtain ⟨x22,hi24,hs13⟩:=bix hs13
   refine ZK hE rfl rfl Tryz.underlying35 T6 (hM.sl (pre:=[]) noB) hi24.1 fun a hE=>Ji (i:=(s10.2).toNat) (k0:=0) (seg:=cat [[vI r20.Kind],[vI r20.Number],enc r20.Tag]) (xo:=x22) (xn:=r20) hE hM Zd rfl rfl rfl T6 cq (Yt (cc1 (Flat.cell (r20.Kind : Int)) (cc1 (Flat.cell (r20.Number : Int)) (cc1 (Flat.cell _) cc0)))) hi24.2 (Ht (m:=34) cq (by decide)) (Zr (Eq.trans cq (Eq.symm cq))) fun w a hM hE=>Zj (Z0 (Zy (wp_region_lit (Ze hE rfl fun a hE=>Zk hE rfl rfl rfl fun a hE=>Zb hE rfl fun a hE=>Zj (Zl ?_)))))
   exact ⟨_,(ois hs13),u11,hE.sub ⟨rfl,rfl,rfl,trivial⟩,hM⟩
  ·intro hb16
   have hs13:=Zt hs13 hb16
   refine wp_exit (Zp (Zp (Z1 ?_)))
   obtain rfl:=hx14 _ (ois hs13)
   refine Zl ?_
   exact ⟨u11,hE.sub ⟨rfl,trivial⟩,hM⟩
 ·skip
  rintro a w ⟨u8,hE,hM⟩
  refine Zy (Za (Ze hE rfl fun a hE=>Zb hE rfl fun a hE=>Zf ?_))
  obtain rfl:=Option.some.inj hF7
  exact wp_ret (ZS hE rfl (YH hE rfl) ⟨_,rfl,u8,rfl,hM.outF (Wc VD),hM.kept⟩)
def UZ (p0 : GVault) : Option (GVault) :=
 (Uf p0.Keys).bind fun r7=>(VM p0.Records).bind fun r10=>(Ul p0.Events).bind fun r13=>(Y6 p0.Head).bind fun r16=>some (⟨r7,p0.Next,r10,r13,r16⟩ : GVault)
theorem zm (w0 : World) (p0 : GVault) (v0_1 : Value) (hv0_1 : Ro w0 p0.Keys [v0_1]) (v0_2 : Value) (hv0_2 : Ro w0 p0.Records [v0_2]) (v0_3 : Value) (hv0_3 : Ro w0 p0.Events [v0_3]) (r : GVault) (hF : UZ p0 = some r) :
  Calls Tryz.prog 37 [(Value.agg (cat [[v0_1],[vI p0.Next],[v0_2],[v0_3],enc p0.Head]).toArray)].toArray w0 (fun en w'=>∃ v,en = .returned v ∧ (∃ (y1 : Value) (y2 : Value) (y3 : Value),v = (Value.agg (cat [[y1],[vI r.Next],[y2],[y3],enc r.Head]).toArray) ∧ Fr w0 w' [osl NoB (r.Keys : List (Vector UInt8 16)) y1,osl NoB (r.Records : List GRecord) y2,osl NoB (r.Events : List GEvent) y3] ∧ Kept (Old w0) w0 w')):=by
 refine ce Tryz.func37 ?_
 intro a hE
 have hM:=M.start w0
 unfold UZ at hF
 refine Za (ZM (cs:=cat [[v0_1],[vI p0.Next],[v0_2],[v0_3],enc p0.Head]) hE hM Zd ld rfl rfl fun b1 w a hM hE=>Zz hE hM K9 fun b3 w a hM hE=>Zf (Za (Zz hE hM K9 fun b5 w a hM hE=>Zf (Za (Zg hE rfl (Zbi) fun a hE=>Zx (v:=v0_1) hE rfl ty53 rfl (At.cat (pre:=[]) hM.rawAt2 cl0) ?_))))); intro a hE
 obtain ⟨r7,e8,hF⟩:=bind_some hF
 refine Zv hE rfl (cbm Tryz.func87) (Ak _ p0.Keys v0_1 (hM.rdo hv0_1) r7 e8) ?_
 rintro u9 w a ⟨_,rfl,hFr,hK⟩ hE
 have hM:=hM.add hK hFr
 refine Zg hE rfl (Ks) ?_; intro a hE
 have hM:=hM.pull1
 refine Zo (seg:=[u9]) hE hM Zd rfl rfl (Vq (hM.sl (pre:=[_]) noB)) zl rfl (YA (pre:=[]) cl0 rfl) (Rep.cell (hM.sl (pre:=[_]) noB)) (ZT (pre:=[]) cl0 rfl) fun w a hM hE=>Zf (Za (Zg hE rfl (fd57_1) fun a hE=>Zx (v:=(vI p0.Next)) hE rfl ty2 rfl (At.cat (pre:=[[v0_1]]) hM.rawAt3 ck) fun a hE=>Zg hE rfl (K1) fun a hE=>Zo (seg:=[vI p0.Next]) hE hM Zd rfl rfl rfl ty2 rfl (YA (pre:=[[u9]]) ck rfl) (Flat.cell (p0.Next : Int)) (ZT (pre:=[[u9]]) ck rfl) fun w a hM hE=>Zf (Za (Zg hE rfl (Zbw) fun a hE=>Zx (v:=v0_2) hE rfl ty54 rfl (At.cat (pre:=[[v0_1],[vI p0.Next]]) hM.rawAt3 ck) ?_)))); intro a hE
 obtain ⟨r10,e11,hF⟩:=bind_some hF
 refine Zv hE rfl (cbm Tryz.func88) (HZ _ p0.Records v0_2 (hM.rdo hv0_2) r10 e11) ?_
 rintro u12 w a ⟨_,rfl,hFr,hK⟩ hE
 have hM:=hM.add hK hFr
 refine Zg hE rfl (KP) ?_; intro a hE
 have hM:=hM.pull1
 refine Zo (seg:=[u12]) hE hM Zd rfl rfl (Vq (hM.sl (pre:=[_]) noB)) zO rfl (YA (pre:=[[u9],[vI p0.Next]]) ck rfl) (Rep.cell (hM.sl (pre:=[_]) noB)) (ZT (pre:=[[u9],[vI p0.Next]]) ck rfl) fun w a hM hE=>Zf (Za (Zg hE rfl (Zb3) fun a hE=>Zx (v:=v0_3) hE rfl ty55 rfl (At.cat (pre:=[[v0_1],[vI p0.Next],[v0_2]]) hM.rawAt4 ck) ?_)); intro a hE
 obtain ⟨r13,e14,hF⟩:=bind_some hF
 refine Zv hE rfl (cbm Tryz.func89) (BX _ p0.Events v0_3 (hM.rdo hv0_3) r13 e14) ?_
 rintro u15 w a ⟨_,rfl,hFr,hK⟩ hE
 have hM:=hM.add hK hFr
 refine Zg hE rfl (Ju) ?_; intro a hE
 have hM:=hM.pull1
 refine Zo (seg:=[u15]) hE hM Zd rfl rfl (Vq (hM.sl (pre:=[_]) noB)) yS rfl (YA (pre:=[[u9],[vI p0.Next],[u12]]) ck rfl) (Rep.cell (hM.sl (pre:=[_]) noB)) (ZT (pre:=[[u9],[vI p0.Next],[u12]]) ck rfl) fun w a hM hE=>Zf (Za (Zg hE rfl (fd57_4) fun a hE=>Zn hE rfl jF rfl (At.cat (pre:=[[v0_1],[vI p0.Next],[v0_2],[v0_3]]) hM.rawAt5 ck) (Flat.len _) ?_)); intro a hE
 obtain ⟨r16,e17,hF⟩:=bind_some hF
 refine Zv hE rfl cb90 (TV _ p0.Head r16 e17) ?_
 rintro v w a ⟨rfl,hK⟩ hE
 have hM:=hM.keep hK
 refine Zg hE rfl (qd) fun a hE=>Zo (seg:=enc r16) hE hM Zd rfl rfl rfl Yr (Flat.len _) (YA (pre:=[[u9],[vI p0.Next],[u12],[u15]]) ck flq) (Flat.cell _) (ZT (pre:=[[u9],[vI p0.Next],[u12],[u15]]) ck flq) fun w a hM hE=>Zf (Za (Zn hE rfl K9 rfl hM.rawAt0 cq ?_)); intro a hE
 have hM:=hM.pull4
 refine Zo (seg:=cat [[u9],[vI p0.Next],[u12],[u15],enc r16]) (cs':=cat [[u9],[vI p0.Next],[u12],[u15],enc r16]) hE hM Zd rfl rfl rfl K9 cq (Nat.le_of_eq ((Nat.zero_add _).trans (Eq.trans cq (Eq.symm cq)))) (Yt (cc1 (Rep.cell (hM.sl (pre:=[_,_,_,_]) noB)) (cc1 (Flat.cell (p0.Next : Int)) (cc1 (Rep.cell (hM.sl (pre:=[_,_,_]) noB)) (cc1 (Rep.cell (hM.sl (pre:=[_,_]) noB)) (cc1 (Flat.cell _) cc0)))))) (Zr (Eq.trans cq (Eq.symm cq))) fun w a hM hE=>Zf ?_
 obtain rfl:=Option.some.inj hF
 have hq18 : Yq Tryz.prog _ _ (.cell 2 39) _:=ZQ hE rfl K9 rfl hM.rawAt0 cq rfl
 have hM:=M.fst (l:=[_,_,_]) hM.pull2.pull3.pull4
 exact wp_ret (ZS hE rfl hq18 ⟨_,rfl,u9,u12,u15,rfl,hM.outF (Wc (Wc (Wc VD))),hM.kept⟩)
def UD (p0 : (List (Vector UInt8 32))) (s10 : (List (Vector UInt8 32)) × Int) : Option (Fl ((List (Vector UInt8 32)) × Int) (List (Vector UInt8 32))) :=
 if (decide (s10.2 < (p0.length : Int))) = true then ((idx p0 s10.2).bind fun x17=>(Y6 x17).bind fun r20=>(idx s10.1 s10.2).bind fun x22=>some (Fl.nx ((s10.1.set (s10.2).toNat r20),wr (s10.2 + 1)))) else (some (Fl.ex s10.1))
def Vw (p0 : (List (Vector UInt8 32))) : Option ((List (Vector UInt8 32))) :=
 (mkS 32 (Vector.replicate 32 (0 : UInt8)) (p0.length : Int)).bind fun l1=>(ZD (UD p0) (l1,0)).bind fun j5=>some j5
theorem H9 (w0 : World) (p0 : (List (Vector UInt8 32))) (v0_1 : Value) (hv0_1 : Ro w0 p0 [v0_1]) (r : (List (Vector UInt8 32))) (hF : Vw p0 = some r) :
  Calls Tryz.prog 91 [v0_1].toArray w0 (fun en w'=>∃ v,en = .returned v ∧ (∃ (y1 : Value),v = y1 ∧ Fr w0 w' [osl NoB (r : List (Vector UInt8 32)) y1] ∧ Kept (Old w0) w0 w')):=by
 refine ce Tryz.func91 ?_
 intro a hE
 have hM:=M.start w0
 unfold Vw at hF
 refine Za (Zb hE rfl fun a hE=>Zf (Za (Ze hE rfl fun a hE=>ZZ hE rfl Tryz.underlying58 (hM.rd hv0_1) ?_))); intro a hE
 obtain ⟨l1,e2,hF⟩:=bind_some hF
 refine Ha hE hM Zd ld rfl rfl Tryz.underlying40 Yr rfl (by decide) (fun _=>TR.2 ⟨rfl,rfl⟩) e2 fun u3 w a hM hE=>Zb hE rfl fun a hE=>Zf (wp_seq (Za (Zb hE rfl fun a hE=>Zf ?_)))
 obtain ⟨j5,hl6,hF7⟩:=bind_some hF
 refine ZJ (fun a w=>∃ (u8 : Value),Env 23 a [(3,u8)] ∧ M (Old w0) w0 w [osl NoB (j5 : List (Vector UInt8 32)) u8]) ?_ ?_
 ·skip
  refine wp_block ?_
  refine ZE (fun (s10 : (List (Vector UInt8 32)) × Int) a w=>∃ (u11 : Value),Env 23 a [(0,v0_1),(3,u11),(4,vI s10.2)] ∧ M (Old w0) w0 w [osl NoB (s10.1 : List (Vector UInt8 32)) u11]) hl6 ⟨u3,hE.sub ⟨rfl,rfl,rfl,trivial⟩,hM⟩ ?_
  rintro s10 a w ⟨u11,hE,hM⟩ o15 hs13 hx14
  unfold UD at hs13
  refine wp_seq (Za (Ze hE rfl fun a hE=>Ze hE rfl fun a hE=>ZZ hE rfl Tryz.underlying58 (hM.rd hv0_1) fun a hE=>Zk hE rfl rfl rfl fun a hE=>Zf ?_))
  refine Zq hE rfl ?_ ?_
  ·intro hb16
   have hs13:=Zu hs13 hb16
   refine wp_skip (Zy (wp_seq (wp_block (wp_region_lit (Ze hE rfl fun a hE=>Ze hE rfl fun a hE=>Ze hE rfl fun a hE=>Ze hE rfl ?_))))); intro a hE
   obtain ⟨x17,hi19,hs13⟩:=bix hs13
   refine ZK hE rfl rfl Tryz.underlying58 jF (hM.rd hv0_1) hi19.1 fun a hE=>Zn hE rfl jF rfl (Ys (hM.rd hv0_1) hi19.2) (Flat.len _) ?_; intro a hE
   obtain ⟨r20,e21,hs13⟩:=bind_some hs13
   refine Zv hE rfl cb90 (TV _ x17 r20 e21) ?_
   rintro v w a ⟨rfl,hK⟩ hE
   have hM:=hM.keep hK
   obtain ⟨x22,hi24,hs13⟩:=bix hs13
   refine ZK hE rfl rfl Tryz.underlying40 Yr (hM.sl (pre:=[]) noB) hi24.1 fun a hE=>Ji (i:=(s10.2).toNat) (k0:=0) (seg:=enc r20) (xo:=x22) (xn:=r20) hE hM Zd rfl rfl rfl Yr (Flat.len _) (Flat.cell _) hi24.2 (Ht (m:=32) (Flat.len _) (by decide)) (Zr flq) fun w a hM hE=>Zj (Z0 (Zy (wp_region_lit (Ze hE rfl fun a hE=>Zk hE rfl rfl rfl fun a hE=>Zb hE rfl fun a hE=>Zj (Zl ?_)))))
   exact ⟨_,(ois hs13),u11,hE.sub ⟨rfl,rfl,rfl,trivial⟩,hM⟩
  ·intro hb16
   have hs13:=Zt hs13 hb16
   refine wp_exit (Zp (Zp (Z1 ?_)))
   obtain rfl:=hx14 _ (ois hs13)
   refine Zl ?_
   exact ⟨u11,hE.sub ⟨rfl,trivial⟩,hM⟩
 ·skip
  rintro a w ⟨u8,hE,hM⟩
  refine Zy (Za (Ze hE rfl fun a hE=>Zb hE rfl fun a hE=>Zf ?_))
  obtain rfl:=Option.some.inj hF7
  exact wp_ret (ZS hE rfl (YH hE rfl) ⟨_,rfl,u8,rfl,hM.outF (Wc VD),hM.kept⟩)
def Tq (p0 : (List (List UInt8))) (s10 : (List (List UInt8)) × Int) : Option (Fl ((List (List UInt8)) × Int) (List (List UInt8))) :=
 if (decide (s10.2 < (p0.length : Int))) = true then ((idx p0 s10.2).bind fun x17=>(Xr x17).bind fun r25=>(idx s10.1 s10.2).bind fun x28=>some (Fl.nx ((s10.1.set (s10.2).toNat r25),wr (s10.2 + 1)))) else (some (Fl.ex s10.1))
def Us (p0 : (List (List UInt8))) : Option ((List (List UInt8))) :=
 (mkS 24 ([] : (List UInt8)) (p0.length : Int)).bind fun l1=>(ZD (Tq p0) (l1,0)).bind fun j5=>some j5
theorem B0 (w0 : World) (p0 : (List (List UInt8))) (v0_1 : Value) (hv0_1 : Ro w0 p0 [v0_1]) (r : (List (List UInt8))) (hF : Us p0 = some r) :
  Calls Tryz.prog 92 [v0_1].toArray w0 (fun en w'=>∃ v,en = .returned v ∧ (∃ (y1 : Value),v = y1 ∧ Fr w0 w' [osl NoB (r : List (List UInt8)) y1] ∧ Kept (Old w0) w0 w')):=by
 refine ce Tryz.func92 ?_
 intro a hE
 have hM:=M.start w0
 unfold Us at hF
 refine Za (Zb hE rfl fun a hE=>Zf (Za (Ze hE rfl fun a hE=>ZZ hE rfl Tryz.underlying41 (hM.rd hv0_1) ?_))); intro a hE
 obtain ⟨l1,e2,hF⟩:=bind_some hF
 refine Ha hE hM Zd ld rfl rfl Tryz.underlying41 XB rfl (by decide) (fun _=>XG) e2 fun u3 w a hM hE=>Zb hE rfl fun a hE=>Zf (wp_seq (Za (Zb hE rfl fun a hE=>Zf ?_)))
 obtain ⟨j5,hl6,hF7⟩:=bind_some hF
 refine ZJ (fun a w=>∃ (u8 : Value),Env 23 a [(3,u8)] ∧ M (Old w0) w0 w [osl NoB (j5 : List (List UInt8)) u8]) ?_ ?_
 ·skip
  refine wp_block ?_
  refine ZE (fun (s10 : (List (List UInt8)) × Int) a w=>∃ (u11 : Value),Env 23 a [(0,v0_1),(3,u11),(4,vI s10.2)] ∧ M (Old w0) w0 w [osl NoB (s10.1 : List (List UInt8)) u11]) hl6 ⟨u3,hE.sub ⟨rfl,rfl,rfl,trivial⟩,hM⟩ ?_
  rintro s10 a w ⟨u11,hE,hM⟩ o15 hs13 hx14
  unfold Tq at hs13
  refine wp_seq (Za (Ze hE rfl fun a hE=>Ze hE rfl fun a hE=>ZZ hE rfl Tryz.underlying41 (hM.rd hv0_1) fun a hE=>Zk hE rfl rfl rfl fun a hE=>Zf ?_))
  refine Zq hE rfl ?_ ?_
  ·intro hb16
   have hs13:=Zu hs13 hb16
   refine wp_skip (Zy (wp_seq (wp_block (wp_region_lit (Ze hE rfl fun a hE=>Ze hE rfl fun a hE=>Ze hE rfl fun a hE=>Ze hE rfl ?_))))); intro a hE
   obtain ⟨x17,hi19,hs13⟩:=bix hs13
   refine ZK hE rfl rfl Tryz.underlying41 XB (hM.rd hv0_1) hi19.1 ?_; intro a hE
   obtain ⟨cs20,hs21,hA22⟩:=Vl hv0_1 hi19.2 -- ^
   obtain ⟨u23,rfl⟩:=XL hs21 -- ^
   have h24:=hs21 -- ^
   refine Zx (v:=u23) hE rfl XB rfl (hM.atk hA22 (VY hv0_1 hi19.2)) ?_; intro a hE
   obtain ⟨r25,e26,hs13⟩:=bind_some hs13
   refine Zv hE rfl cb36 (Qa _ x17 u23 (hM.rdo h24) r25 e26) ?_
   rintro u27 w a ⟨_,rfl,hFr,hK⟩ hE
   have hM:=hM.add hK hFr
   obtain ⟨x28,hi30,hs13⟩:=bix hs13
   refine ZK hE rfl rfl Tryz.underlying41 XB (hM.sl (pre:=[_]) noB) hi30.1 ?_; intro a hE
   have hc31:=Vq (hM.sl (pre:=[]) noB)
   have hM:=((hM.pack1 (it:=own NoB r25 ([u27])) (Vo noB) (fun f0 q0=>(Wq.sat q0))).pull1).pull1
   refine jc (i:=(s10.2).toNat) (seg:=[u27]) hE hM noB Zd rfl rfl hc31 XB (by omega) fun w a hM hE=>Zj (Z0 (Zy (wp_region_lit (Ze hE rfl fun a hE=>Zk hE rfl rfl rfl fun a hE=>Zb hE rfl fun a hE=>Zj (Zl ?_)))))
   exact ⟨_,(ois hs13),u11,hE.sub ⟨rfl,rfl,rfl,trivial⟩,hM⟩
  ·intro hb16
   have hs13:=Zt hs13 hb16
   refine wp_exit (Zp (Zp (Z1 ?_)))
   obtain rfl:=hx14 _ (ois hs13)
   refine Zl ?_
   exact ⟨u11,hE.sub ⟨rfl,trivial⟩,hM⟩
 ·skip
  rintro a w ⟨u8,hE,hM⟩
  refine Zy (Za (Ze hE rfl fun a hE=>Zb hE rfl fun a hE=>Zf ?_))
  obtain rfl:=Option.some.inj hF7
  exact wp_ret (ZS hE rfl (YH hE rfl) ⟨_,rfl,u8,rfl,hM.outF (Wc VD),hM.kept⟩)
def Ts (p0 : (List Int)) (s10 : (List Int) × Int) : Option (Fl ((List Int) × Int) (List Int)) :=
 if (decide (s10.2 < (p0.length : Int))) = true then ((idx p0 s10.2).bind fun x17=>(idx s10.1 s10.2).bind fun x20=>some (Fl.nx ((s10.1.set (s10.2).toNat x17),wr (s10.2 + 1)))) else (some (Fl.ex s10.1))
def Ui (p0 : (List Int)) : Option ((List Int)) :=
 (mkS 8 (0 : Int) (p0.length : Int)).bind fun l1=>(ZD (Ts p0) (l1,0)).bind fun j5=>some j5
theorem B2 (w0 : World) (p0 : (List Int)) (v0_1 : Value) (hv0_1 : Ro w0 p0 [v0_1]) (r : (List Int)) (hF : Ui p0 = some r) :
  Calls Tryz.prog 93 [v0_1].toArray w0 (fun en w'=>∃ v,en = .returned v ∧ (∃ (y1 : Value),v = y1 ∧ Fr w0 w' [osl NoB (r : List Int) y1] ∧ Kept (Old w0) w0 w')):=by
 refine ce Tryz.func93 ?_
 intro a hE
 have hM:=M.start w0
 unfold Ui at hF
 refine Za (Zb hE rfl fun a hE=>Zf (Za (Ze hE rfl fun a hE=>ZZ hE rfl Tryz.underlying42 (hM.rd hv0_1) ?_))); intro a hE
 obtain ⟨l1,e2,hF⟩:=bind_some hF
 refine Ha hE hM Zd ld rfl rfl Tryz.underlying42 ty2 rfl (by decide) (fun _=>TR.2 ⟨rfl,rfl⟩) e2 fun u3 w a hM hE=>Zb hE rfl fun a hE=>Zf (wp_seq (Za (Zb hE rfl fun a hE=>Zf ?_)))
 obtain ⟨j5,hl6,hF7⟩:=bind_some hF
 refine ZJ (fun a w=>∃ (u8 : Value),Env 22 a [(3,u8)] ∧ M (Old w0) w0 w [osl NoB (j5 : List Int) u8]) ?_ ?_
 ·skip
  refine wp_block ?_
  refine ZE (fun (s10 : (List Int) × Int) a w=>∃ (u11 : Value),Env 22 a [(0,v0_1),(3,u11),(4,vI s10.2)] ∧ M (Old w0) w0 w [osl NoB (s10.1 : List Int) u11]) hl6 ⟨u3,hE.sub ⟨rfl,rfl,rfl,trivial⟩,hM⟩ ?_
  rintro s10 a w ⟨u11,hE,hM⟩ o15 hs13 hx14
  unfold Ts at hs13
  refine wp_seq (Za (Ze hE rfl fun a hE=>Ze hE rfl fun a hE=>ZZ hE rfl Tryz.underlying42 (hM.rd hv0_1) fun a hE=>Zk hE rfl rfl rfl fun a hE=>Zf ?_))
  refine Zq hE rfl ?_ ?_
  ·intro hb16
   have hs13:=Zu hs13 hb16
   refine wp_skip (Zy (wp_seq (wp_block (wp_region_lit (Ze hE rfl fun a hE=>Ze hE rfl fun a hE=>Ze hE rfl fun a hE=>Ze hE rfl ?_))))); intro a hE
   obtain ⟨x17,hi19,hs13⟩:=bix hs13
   refine ZK hE rfl rfl Tryz.underlying42 ty2 (hM.rd hv0_1) hi19.1 fun a hE=>Zx (v:=(vI x17)) hE rfl ty2 rfl (Ys (hM.rd hv0_1) hi19.2) ?_; intro a hE
   obtain ⟨x20,hi22,hs13⟩:=bix hs13
   refine ZK hE rfl rfl Tryz.underlying42 ty2 (hM.sl (pre:=[]) noB) hi22.1 fun a hE=>Ji (i:=(s10.2).toNat) (k0:=0) (seg:=[vI x17]) (xo:=x20) (xn:=x17) hE hM Zd rfl rfl rfl ty2 rfl (Flat.cell (x17 : Int)) hi22.2 (Ht (m:=1) rfl (by decide)) (Zr rfl) fun w a hM hE=>Zj (Z0 (Zy (wp_region_lit (Ze hE rfl fun a hE=>Zk hE rfl rfl rfl fun a hE=>Zb hE rfl fun a hE=>Zj (Zl ?_)))))
   exact ⟨_,(ois hs13),u11,hE.sub ⟨rfl,rfl,rfl,trivial⟩,hM⟩
  ·intro hb16
   have hs13:=Zt hs13 hb16
   refine wp_exit (Zp (Zp (Z1 ?_)))
   obtain rfl:=hx14 _ (ois hs13)
   refine Zl ?_
   exact ⟨u11,hE.sub ⟨rfl,trivial⟩,hM⟩
 ·skip
  rintro a w ⟨u8,hE,hM⟩
  refine Zy (Za (Ze hE rfl fun a hE=>Zb hE rfl fun a hE=>Zf ?_))
  obtain rfl:=Option.some.inj hF7
  exact wp_ret (ZS hE rfl (YH hE rfl) ⟨_,rfl,u8,rfl,hM.outF (Wc VD),hM.kept⟩)
def UX (p0 : GBlobs) : Option (GBlobs) :=
 (Vw p0.Keys).bind fun r7=>(Us p0.Data).bind fun r10=>(Ui p0.Counts).bind fun r13=>some (⟨r7,r10,r13⟩ : GBlobs)
theorem AS (w0 : World) (p0 : GBlobs) (v0_1 : Value) (hv0_1 : Ro w0 p0.Keys [v0_1]) (v0_2 : Value) (hv0_2 : Ro w0 p0.Data [v0_2]) (v0_3 : Value) (hv0_3 : Ro w0 p0.Counts [v0_3]) (r : GBlobs) (hF : UX p0 = some r) :
  Calls Tryz.prog 38 [(Value.agg (cat [[v0_1],[v0_2],[v0_3]]).toArray)].toArray w0 (fun en w'=>∃ v,en = .returned v ∧ (∃ (y1 : Value) (y2 : Value) (y3 : Value),v = (Value.agg (cat [[y1],[y2],[y3]]).toArray) ∧ Fr w0 w' [osl NoB (r.Keys : List (Vector UInt8 32)) y1,osl NoB (r.Data : List (List UInt8)) y2,osl NoB (r.Counts : List Int) y3] ∧ Kept (Old w0) w0 w')):=by
 refine ce Tryz.func38 ?_
 intro a hE
 have hM:=M.start w0
 unfold UX at hF
 refine Za (ZM (cs:=cat [[v0_1],[v0_2],[v0_3]]) hE hM Zd ld rfl rfl fun b1 w a hM hE=>Zz hE hM Hc fun b3 w a hM hE=>Zf (Za (Zz hE hM Hc fun b5 w a hM hE=>Zf (Za (Zg hE rfl (Zbg) fun a hE=>Zx (v:=v0_1) hE rfl ty58 rfl (At.cat (pre:=[]) hM.rawAt2 cl0) ?_))))); intro a hE
 obtain ⟨r7,e8,hF⟩:=bind_some hF
 refine Zv hE rfl (cbm Tryz.func91) (H9 _ p0.Keys v0_1 (hM.rdo hv0_1) r7 e8) ?_
 rintro u9 w a ⟨_,rfl,hFr,hK⟩ hE
 have hM:=hM.add hK hFr
 refine Zg hE rfl (Q3) ?_; intro a hE
 have hM:=hM.pull1
 refine Zo (seg:=[u9]) hE hM Zd rfl rfl (Vq (hM.sl (pre:=[_]) noB)) BR rfl (YA (pre:=[]) cl0 rfl) (Rep.cell (hM.sl (pre:=[_]) noB)) (ZT (pre:=[]) cl0 rfl) fun w a hM hE=>Zf (Za (Zg hE rfl (Zby) fun a hE=>Zx (v:=v0_2) hE rfl JZ rfl (At.cat (pre:=[[v0_1]]) hM.rawAt3 ck) ?_)); intro a hE
 obtain ⟨r10,e11,hF⟩:=bind_some hF
 refine Zv hE rfl (cbm Tryz.func92) (B0 _ p0.Data v0_2 (hM.rdo hv0_2) r10 e11) ?_
 rintro u12 w a ⟨_,rfl,hFr,hK⟩ hE
 have hM:=hM.add hK hFr
 refine Zg hE rfl (Q8) ?_; intro a hE
 have hM:=hM.pull1
 refine Zo (seg:=[u12]) hE hM Zd rfl rfl (Vq (hM.sl (pre:=[_]) noB)) JZ rfl (YA (pre:=[[u9]]) ck rfl) (Rep.cell (hM.sl (pre:=[_]) noB)) (ZT (pre:=[[u9]]) ck rfl) fun w a hM hE=>Zf (Za (Zg hE rfl (Zcm) fun a hE=>Zx (v:=v0_3) hE rfl JO rfl (At.cat (pre:=[[v0_1],[v0_2]]) hM.rawAt4 ck) ?_)); intro a hE
 obtain ⟨r13,e14,hF⟩:=bind_some hF
 refine Zv hE rfl (cbm Tryz.func93) (B2 _ p0.Counts v0_3 (hM.rdo hv0_3) r13 e14) ?_
 rintro u15 w a ⟨_,rfl,hFr,hK⟩ hE
 have hM:=hM.add hK hFr
 refine Zg hE rfl (QN) ?_; intro a hE
 have hM:=hM.pull1
 refine Zo (seg:=[u15]) hE hM Zd rfl rfl (Vq (hM.sl (pre:=[_]) noB)) JO rfl (YA (pre:=[[u9],[u12]]) ck rfl) (Rep.cell (hM.sl (pre:=[_]) noB)) (ZT (pre:=[[u9],[u12]]) ck rfl) fun w a hM hE=>Zf (Za (Zn hE rfl Hc rfl hM.rawAt0 cq ?_)); intro a hE
 have hM:=hM.pull4
 refine Zo (seg:=cat [[u9],[u12],[u15]]) (cs':=cat [[u9],[u12],[u15]]) hE hM Zd rfl rfl rfl Hc cq (Nat.le_of_eq ((Nat.zero_add _).trans (Eq.trans cq (Eq.symm cq)))) (Yt (cc1 (Rep.cell (hM.sl (pre:=[_,_,_,_]) noB)) (cc1 (Rep.cell (hM.sl (pre:=[_,_,_]) noB)) (cc1 (Rep.cell (hM.sl (pre:=[_,_]) noB)) cc0)))) (Zr (Eq.trans cq (Eq.symm cq))) fun w a hM hE=>Zf ?_
 obtain rfl:=Option.some.inj hF
 have hq16 : Yq Tryz.prog _ _ (.cell 2 44) _:=ZQ hE rfl Hc rfl hM.rawAt0 cq rfl
 have hM:=M.fst (l:=[_,_,_]) hM.pull2.pull3.pull4
 exact wp_ret (ZS hE rfl hq16 ⟨_,rfl,u9,u12,u15,rfl,hM.outF (Wc (Wc (Wc VD))),hM.kept⟩)
def Vi (p0 : GDesk) : Option (GDesk) :=
 (Up p0.Cipher).bind fun r7=>(Xq p0.Key).bind fun r9=>(Xq p0.Start).bind fun r11=>(Xr p0.Data).bind fun r13=>(UZ p0.Vault).bind fun r16=>(UX p0.Blobs).bind fun r21=>some (⟨r7,r9,r11,r13,r16,r21⟩ : GDesk)
theorem Kv (w0 : World) (p0 : GDesk) (v0_1 : Value) (hv0_1 : Ro w0 p0.Data [v0_1]) (v0_2 : Value) (hv0_2 : Ro w0 p0.Vault.Keys [v0_2]) (v0_3 : Value) (hv0_3 : Ro w0 p0.Vault.Records [v0_3]) (v0_4 : Value) (hv0_4 : Ro w0 p0.Vault.Events [v0_4]) (v0_5 : Value) (hv0_5 : Ro w0 p0.Blobs.Keys [v0_5]) (v0_6 : Value) (hv0_6 : Ro w0 p0.Blobs.Data [v0_6]) (v0_7 : Value) (hv0_7 : Ro w0 p0.Blobs.Counts [v0_7]) (r : GDesk) (hF : Vi p0 = some r) :
  Calls Tryz.prog 12 [(Value.agg (cat [cat [[vI p0.Cipher.Field],enc p0.Cipher.Box,enc p0.Cipher.Mix,enc p0.Cipher.Places,[vI p0.Cipher.Rounds]],enc p0.Key,enc p0.Start,[v0_1],cat [[v0_2],[vI p0.Vault.Next],[v0_3],[v0_4],enc p0.Vault.Head],cat [[v0_5],[v0_6],[v0_7]]]).toArray)].toArray w0 (fun en w'=>∃ v,en = .returned v ∧ (∃ (y1 : Value) (y2 : Value) (y3 : Value) (y4 : Value) (y5 : Value) (y6 : Value) (y7 : Value),v = (Value.agg (cat [cat [[vI r.Cipher.Field],enc r.Cipher.Box,enc r.Cipher.Mix,enc r.Cipher.Places,[vI r.Cipher.Rounds]],enc r.Key,enc r.Start,[y1],cat [[y2],[vI r.Vault.Next],[y3],[y4],enc r.Vault.Head],cat [[y5],[y6],[y7]]]).toArray) ∧ Fr w0 w' [osl NoB (r.Data : List UInt8) y1,osl NoB (r.Vault.Keys : List (Vector UInt8 16)) y2,osl NoB (r.Vault.Records : List GRecord) y3,osl NoB (r.Vault.Events : List GEvent) y4,osl NoB (r.Blobs.Keys : List (Vector UInt8 32)) y5,osl NoB (r.Blobs.Data : List (List UInt8)) y6,osl NoB (r.Blobs.Counts : List Int) y7] ∧ Kept (Old w0) w0 w')):=by
 refine ce Tryz.func12 ?_
 intro a hE
 have hM:=M.start w0
 unfold Vi at hF
 refine Za (ZM (cs:=cat [cat [[vI p0.Cipher.Field],enc p0.Cipher.Box,enc p0.Cipher.Mix,enc p0.Cipher.Places,[vI p0.Cipher.Rounds]],enc p0.Key,enc p0.Start,[v0_1],cat [[v0_2],[vI p0.Vault.Next],[v0_3],[v0_4],enc p0.Vault.Head],cat [[v0_5],[v0_6],[v0_7]]]) hE hM Zd ld rfl rfl fun b1 w a hM hE=>Zz hE hM JX fun b3 w a hM hE=>Zf (Za (Zz hE hM JX fun b5 w a hM hE=>Zf (Za (Zg hE rfl (fd62_0) fun a hE=>Zn hE rfl kM rfl (At.cat (pre:=[]) hM.rawAt2 cl0) cq ?_))))); intro a hE
 obtain ⟨r7,e8,hF⟩:=bind_some hF
 refine Zv hE rfl (cbm Tryz.func34) (BZ _ p0.Cipher r7 e8) ?_
 rintro v w a ⟨rfl,hK⟩ hE
 have hM:=hM.keep hK
 refine Zg hE rfl (zi) fun a hE=>Zo (seg:=cat [[vI r7.Field],enc r7.Box,enc r7.Mix,enc r7.Places,[vI r7.Rounds]]) hE hM Zd rfl rfl rfl Te cq (YA (pre:=[]) cl0 (Eq.trans cq (Eq.symm cq))) (Yt (cc1 (Flat.cell (r7.Field : Int)) (cc1 (Flat.cell _) (cc1 (Flat.cell _) (cc1 (Flat.cell _) (cc1 (Flat.cell (r7.Rounds : Int)) cc0)))))) (ZT (pre:=[]) cl0 (Eq.trans cq (Eq.symm cq))) fun w a hM hE=>Zf (Za (Zg hE rfl (fd62_1) fun a hE=>Zn hE rfl zT rfl (At.cat (pre:=[cat [[vI p0.Cipher.Field],enc p0.Cipher.Box,enc p0.Cipher.Mix,enc p0.Cipher.Places,[vI p0.Cipher.Rounds]]]) hM.rawAt2 ck) (Flat.len _) ?_)); intro a hE
 obtain ⟨r9,e10,hF⟩:=bind_some hF
 refine Zv hE rfl cb35 (Qf _ p0.Key r9 e10) ?_
 rintro v w a ⟨rfl,hK⟩ hE
 have hM:=hM.keep hK
 refine Zg hE rfl (kf) fun a hE=>Zo (seg:=enc r9) hE hM Zd rfl rfl rfl ZF (Flat.len _) (YA (pre:=[cat [[vI r7.Field],enc r7.Box,enc r7.Mix,enc r7.Places,[vI r7.Rounds]]]) ck flq) (Flat.cell _) (ZT (pre:=[cat [[vI r7.Field],enc r7.Box,enc r7.Mix,enc r7.Places,[vI r7.Rounds]]]) ck flq) fun w a hM hE=>Zf (Za (Zg hE rfl (fd62_2) fun a hE=>Zn hE rfl zT rfl (At.cat (pre:=[cat [[vI p0.Cipher.Field],enc p0.Cipher.Box,enc p0.Cipher.Mix,enc p0.Cipher.Places,[vI p0.Cipher.Rounds]],enc p0.Key]) hM.rawAt2 ck) (Flat.len _) ?_)); intro a hE
 obtain ⟨r11,e12,hF⟩:=bind_some hF
 refine Zv hE rfl cb35 (Qf _ p0.Start r11 e12) ?_
 rintro v w a ⟨rfl,hK⟩ hE
 have hM:=hM.keep hK
 refine Zg hE rfl (kY) fun a hE=>Zo (seg:=enc r11) hE hM Zd rfl rfl rfl ZF (Flat.len _) (YA (pre:=[cat [[vI r7.Field],enc r7.Box,enc r7.Mix,enc r7.Places,[vI r7.Rounds]],enc r9]) ck flq) (Flat.cell _) (ZT (pre:=[cat [[vI r7.Field],enc r7.Box,enc r7.Mix,enc r7.Places,[vI r7.Rounds]],enc r9]) ck flq) fun w a hM hE=>Zf (Za (Zg hE rfl (Zb6) fun a hE=>Zx (v:=v0_1) hE rfl XB rfl (At.cat (pre:=[cat [[vI p0.Cipher.Field],enc p0.Cipher.Box,enc p0.Cipher.Mix,enc p0.Cipher.Places,[vI p0.Cipher.Rounds]],enc p0.Key,enc p0.Start]) hM.rawAt2 ck) ?_)); intro a hE
 obtain ⟨r13,e14,hF⟩:=bind_some hF
 refine Zv hE rfl cb36 (Qa _ p0.Data v0_1 (hM.rdo hv0_1) r13 e14) ?_
 rintro u15 w a ⟨_,rfl,hFr,hK⟩ hE
 have hM:=hM.add hK hFr
 refine Zg hE rfl (zn) ?_; intro a hE
 have hM:=hM.pull1
 refine Zo (seg:=[u15]) hE hM Zd rfl rfl (Vq (hM.sl (pre:=[_]) noB)) XB rfl (YA (pre:=[cat [[vI r7.Field],enc r7.Box,enc r7.Mix,enc r7.Places,[vI r7.Rounds]],enc r9,enc r11]) ck rfl) (Rep.cell (hM.sl (pre:=[_]) noB)) (ZT (pre:=[cat [[vI r7.Field],enc r7.Box,enc r7.Mix,enc r7.Places,[vI r7.Rounds]],enc r9,enc r11]) ck rfl) fun w a hM hE=>Zf (Za (Zg hE rfl (Zbe) fun a hE=>Zn hE rfl jS rfl (At.cat (pre:=[cat [[vI p0.Cipher.Field],enc p0.Cipher.Box,enc p0.Cipher.Mix,enc p0.Cipher.Places,[vI p0.Cipher.Rounds]],enc p0.Key,enc p0.Start,[v0_1]]) hM.rawAt3 ck) cq ?_)); intro a hE
 obtain ⟨r16,e17,hF⟩:=bind_some hF
 refine Zv hE rfl (cbm Tryz.func37) (zm _ p0.Vault v0_2 (hM.rdo hv0_2) v0_3 (hM.rdo hv0_3) v0_4 (hM.rdo hv0_4) r16 e17) ?_
 rintro v w a ⟨u18,u19,u20,rfl,hFr,hK⟩ hE
 have hM:=hM.add hK hFr
 refine Zg hE rfl (zA) ?_; intro a hE
 have hM:=hM.pull3
 refine Zo (seg:=cat [[u18],[vI r16.Next],[u19],[u20],enc r16.Head]) hE hM Zd rfl rfl rfl K9 cq (YA (pre:=[cat [[vI r7.Field],enc r7.Box,enc r7.Mix,enc r7.Places,[vI r7.Rounds]],enc r9,enc r11,[u15]]) ck (Eq.trans cq (Eq.symm cq))) (Yt (cc1 (Rep.cell (hM.sl (pre:=[_]) noB)) (cc1 (Flat.cell (r16.Next : Int)) (cc1 (Rep.cell (hM.sl (pre:=[_,_]) noB)) (cc1 (Rep.cell (hM.sl (pre:=[_,_,_]) noB)) (cc1 (Flat.cell _) cc0)))))) (ZT (pre:=[cat [[vI r7.Field],enc r7.Box,enc r7.Mix,enc r7.Places,[vI r7.Rounds]],enc r9,enc r11,[u15]]) ck (Eq.trans cq (Eq.symm cq))) fun w a hM hE=>Zf (Za (Zg hE rfl (Za9) fun a hE=>Zn hE rfl ty60 rfl (At.cat (pre:=[cat [[vI p0.Cipher.Field],enc p0.Cipher.Box,enc p0.Cipher.Mix,enc p0.Cipher.Places,[vI p0.Cipher.Rounds]],enc p0.Key,enc p0.Start,[v0_1],cat [[v0_2],[vI p0.Vault.Next],[v0_3],[v0_4],enc p0.Vault.Head]]) hM.rawAt6 ck) cq ?_)); intro a hE
 obtain ⟨r21,e22,hF⟩:=bind_some hF
 refine Zv hE rfl (cbm Tryz.func38) (AS _ p0.Blobs v0_5 (hM.rdo hv0_5) v0_6 (hM.rdo hv0_6) v0_7 (hM.rdo hv0_7) r21 e22) ?_
 rintro v w a ⟨u23,u24,u25,rfl,hFr,hK⟩ hE
 have hM:=hM.add hK hFr
 refine Zg hE rfl (AB) ?_; intro a hE
 have hM:=hM.pull3
 refine Zo (seg:=cat [[u23],[u24],[u25]]) hE hM Zd rfl rfl rfl Hc cq (YA (pre:=[cat [[vI r7.Field],enc r7.Box,enc r7.Mix,enc r7.Places,[vI r7.Rounds]],enc r9,enc r11,[u15],cat [[u18],[vI r16.Next],[u19],[u20],enc r16.Head]]) ck (Eq.trans cq (Eq.symm cq))) (Yt (cc1 (Rep.cell (hM.sl (pre:=[_]) noB)) (cc1 (Rep.cell (hM.sl (pre:=[_,_]) noB)) (cc1 (Rep.cell (hM.sl (pre:=[_,_,_]) noB)) cc0)))) (ZT (pre:=[cat [[vI r7.Field],enc r7.Box,enc r7.Mix,enc r7.Places,[vI r7.Rounds]],enc r9,enc r11,[u15],cat [[u18],[vI r16.Next],[u19],[u20],enc r16.Head]]) ck (Eq.trans cq (Eq.symm cq))) fun w a hM hE=>Zf (Za (Zn hE rfl JX rfl hM.rawAt0 cq ?_)); intro a hE
 have hM:=hM.pull8
 refine Zo (seg:=cat [cat [[vI r7.Field],enc r7.Box,enc r7.Mix,enc r7.Places,[vI r7.Rounds]],enc r9,enc r11,[u15],cat [[u18],[vI r16.Next],[u19],[u20],enc r16.Head],cat [[u23],[u24],[u25]]]) (cs':=cat [cat [[vI r7.Field],enc r7.Box,enc r7.Mix,enc r7.Places,[vI r7.Rounds]],enc r9,enc r11,[u15],cat [[u18],[vI r16.Next],[u19],[u20],enc r16.Head],cat [[u23],[u24],[u25]]]) hE hM Zd rfl rfl rfl JX cq (Nat.le_of_eq ((Nat.zero_add _).trans (Eq.trans cq (Eq.symm cq)))) (Yt (cc1 (Yt (cc1 (Flat.cell (r7.Field : Int)) (cc1 (Flat.cell _) (cc1 (Flat.cell _) (cc1 (Flat.cell _) (cc1 (Flat.cell (r7.Rounds : Int)) cc0)))))) (cc1 (Flat.cell _) (cc1 (Flat.cell _) (cc1 (Rep.cell (hM.sl (pre:=[_,_,_,_,_,_,_,_]) noB)) (cc1 (Yt (cc1 (Rep.cell (hM.sl (pre:=[_,_,_,_,_]) noB)) (cc1 (Flat.cell (r16.Next : Int)) (cc1 (Rep.cell (hM.sl (pre:=[_,_,_,_,_,_]) noB)) (cc1 (Rep.cell (hM.sl (pre:=[_,_,_,_,_,_,_]) noB)) (cc1 (Flat.cell _) cc0)))))) (cc1 (Yt (cc1 (Rep.cell (hM.sl (pre:=[_,_]) noB)) (cc1 (Rep.cell (hM.sl (pre:=[_,_,_]) noB)) (cc1 (Rep.cell (hM.sl (pre:=[_,_,_,_]) noB)) cc0)))) cc0))))))) (Zr (Eq.trans cq (Eq.symm cq))) fun w a hM hE=>Zf ?_
 obtain rfl:=Option.some.inj hF
 have hq26 : Yq Tryz.prog _ _ (.cell 2 46) _:=ZQ hE rfl JX rfl hM.rawAt0 cq rfl
 have hM:=M.fst (l:=[_,_,_,_,_,_,_]) hM.pull4.pull4.pull4.pull7.pull7.pull7.pull8
 exact wp_ret (ZS hE rfl hq26 ⟨_,rfl,u15,u18,u19,u20,u23,u24,u25,rfl,hM.outF (Wc (Wc (Wc (Wc (Wc (Wc (Wc VD))))))),hM.kept⟩)
def XN (p0 : Int) (p1 : Int) (p2 : Int) : Option (Bool) :=
 (if (decide (p0 ≥ p1)) = true then (some (decide (p0 ≤ p2))) else (some false) : Option (Bool)).bind fun j1=>some j1
theorem Ti (w0 : World) (p0 : Int) (p1 : Int) (p2 : Int) (r : Bool) (hF : XN p0 p1 p2 = some r) :
  Calls Tryz.prog 79 [vI p0,vI p1,vI p2].toArray w0 (Rt w0 (vT r)):=by
 refine ce Tryz.func79 ?_
 intro a hE
 have hM:=M.start w0
 unfold XN at hF
 refine Za (Zb hE rfl fun a hE=>Zf ?_)
 obtain ⟨j1,hl2,hF3⟩:=bind_some hF
 refine ZI (fun a w=>Env 15 a [(6,vT j1)] ∧ M (Old w0) w0 w []) ?_ ?_
 ·skip
  refine wp_region_lit (Ze hE rfl fun a hE=>Ze hE rfl fun a hE=>Zk hE rfl rfl rfl fun a hE=>Ze hE rfl ?_); intro a hE
  refine Yb (decide (p0 ≥ p1)) (fun hb4=>?_) (fun hb4=>?_)
  ·have hl2:=Zu hl2 hb4
   refine Y3 hE (Zi hE rfl (lkb rfl hb4)) (by decide) rfl fun a hE=>Y3 hE (Zi hE rfl (lkb rfl hb4)) (by decide) rfl fun a hE=>Wa hE (Zi hE rfl (lkb rfl hb4)) (by decide) rfl rfl rfl fun a hE=>ZG hE (lkb rfl hb4) rfl fun a hE=>Zb hE rfl fun a hE=>Zj ?_
   obtain rfl:=Option.some.inj hl2
   refine Zl ?_
   exact ⟨hE.sub ⟨rfl,trivial⟩,hM⟩
  ·have hl2:=Zt hl2 hb4
   refine Zh hE rfl (lkb rfl hb4) rfl (by decide) fun a hE=>Zh hE rfl (lkb rfl hb4) rfl (by decide) fun a hE=>Zh hE rfl (lkb rfl hb4) rfl (by decide) fun a hE=>ZL hE (lkb rfl hb4) rfl fun a hE=>Zb hE rfl fun a hE=>Zj ?_
   obtain rfl:=Option.some.inj hl2
   refine Zl ?_
   exact ⟨hE.sub ⟨rfl,trivial⟩,hM⟩
 ·skip
  rintro a w ⟨hE,hM⟩
  obtain rfl:=Option.some.inj hF3
  exact wp_ret (kr1 hE rfl rfl hM.kept)
def YX (s4 : Int × Int) : Option (Fl (Int × Int) Int) :=
 if (decide (s4.1 > 0)) = true then (some (Fl.nx (wr (Int.tdiv s4.1 2),wr (s4.2 + 1)))) else (some (Fl.ex s4.2))
def XK (p0 : Int) : Option (Int) :=
 (ZD (YX) (p0,0)).bind fun j1=>some j1
theorem Qv (w0 : World) (p0 : Int) (r : Int) (hF : XK p0 = some r) :
  Calls Tryz.prog 146 [vI p0].toArray w0 (Rt w0 (vI r)):=by
 refine ce Tryz.func146 ?_
 intro a hE
 have hM:=M.start w0
 unfold XK at hF
 refine Za (Zb hE rfl fun a hE=>Zf (Za (Zb hE rfl fun a hE=>Zf ?_)))
 obtain ⟨j1,hl2,hF3⟩:=bind_some hF
 refine ZI (fun a w=>Env 11 a [(3,vI j1)] ∧ M (Old w0) w0 w []) ?_ ?_
 ·skip
  refine wp_block ?_
  refine ZE (fun (s4 : Int × Int) a w=>Env 11 a [(0,vI s4.1),(3,vI s4.2)] ∧ M (Old w0) w0 w []) hl2 ⟨hE.sub ⟨rfl,rfl,trivial⟩,hM⟩ ?_
  rintro s4 a w ⟨hE,hM⟩ o7 hs5 hx6
  unfold YX at hs5
  refine wp_seq (Za (Ze hE rfl fun a hE=>Zk hE rfl rfl rfl fun a hE=>Zf ?_))
  refine Zq hE rfl ?_ ?_
  ·intro hb8
   have hs5:=Zu hs5 hb8
   refine wp_skip (Zy (wp_seq (wp_block (wp_region_lit (Ze hE rfl fun a hE=>Zk hE rfl rfl rfl fun a hE=>Zb hE rfl fun a hE=>Zj (Z0 (Zy (wp_region_lit (Ze hE rfl fun a hE=>Zk hE rfl rfl (AL _ _ (by decide)) fun a hE=>Zb hE rfl fun a hE=>Zj (Zl ?_))))))))))
   exact ⟨_,(ois hs5),hE.sub ⟨rfl,rfl,trivial⟩,hM⟩
  ·intro hb8
   have hs5:=Zt hs5 hb8
   refine wp_exit (Zp (Zp (Z1 ?_)))
   obtain rfl:=hx6 _ (ois hs5)
   refine Zl ?_
   exact ⟨hE.sub ⟨rfl,trivial⟩,hM⟩
 ·skip
  rintro a w ⟨hE,hM⟩
  refine Za (Ze hE rfl fun a hE=>Zb hE rfl fun a hE=>Zf ?_)
  obtain rfl:=Option.some.inj hF3
  exact wp_ret (kr1 hE rfl rfl hM.kept)
def W4 (p1 : Int) (r1 : Int) (s8 : Int × Int) : Option (Fl (Int × Int) Int) :=
 if (decide (s8.2 ≥ r1)) = true then ((YI (IntKind.u64.wrap (wr (s8.2 - r1)))).bind fun _=>(XK (Ki s8.1 (Jq p1 (IntKind.u64.wrap (wr (s8.2 - r1)))))).bind fun r14=>some (Fl.nx (Ki s8.1 (Jq p1 (IntKind.u64.wrap (wr (s8.2 - r1)))),r14))) else (some (Fl.ex s8.1))
def UU (p0 : Int) (p1 : Int) : Option (Int) :=
 (XK p1).bind fun r1=>(XK p0).bind fun r3=>(ZD (W4 p1 r1) (p0,r3)).bind fun j5=>some j5
theorem AD (w0 : World) (p0 : Int) (p1 : Int) (r : Int) (hF : UU p0 p1 = some r) :
  Calls Tryz.prog 118 [vI p0,vI p1].toArray w0 (Rt w0 (vI r)):=by
 refine ce Tryz.func118 ?_
 intro a hE
 have hM:=M.start w0
 unfold UU at hF
 refine Za (Zb hE rfl fun a hE=>Zf (Za (Ze hE rfl ?_))); intro a hE
 obtain ⟨r1,e2,hF⟩:=bind_some hF
 refine Zv hE rfl Zce (Qv _ p1 r1 e2) ?_
 rintro v w a ⟨rfl,hK⟩ hE
 have hM:=hM.keep hK
 refine Zb hE rfl fun a hE=>Zf (wp_seq (Za (Ze hE rfl ?_))); intro a hE
 obtain ⟨r3,e4,hF⟩:=bind_some hF
 refine Zv hE rfl Zce (Qv _ p0 r3 e4) ?_
 rintro v w a ⟨rfl,hK⟩ hE
 have hM:=hM.keep hK
 refine Zb hE rfl fun a hE=>Zf ?_
 obtain ⟨j5,hl6,hF7⟩:=bind_some hF
 refine ZJ (fun a w=>Env 25 a [(0,vI j5)] ∧ M (Old w0) w0 w []) ?_ ?_
 ·skip
  refine wp_block ?_
  refine ZE (fun (s8 : Int × Int) a w=>Env 25 a [(0,vI s8.1),(1,vI p1),(5,vI r1),(6,vI s8.2)] ∧ M (Old w0) w0 w []) hl6 ⟨hE.sub ⟨rfl,rfl,rfl,rfl,trivial⟩,hM⟩ ?_
  rintro s8 a w ⟨hE,hM⟩ o11 hs9 hx10
  unfold W4 at hs9
  refine wp_seq (Za (Ze hE rfl fun a hE=>Ze hE rfl fun a hE=>Zk hE rfl rfl rfl fun a hE=>Zf ?_))
  refine Zq hE rfl ?_ ?_
  ·intro hb12
   have hs9:=Zu hs9 hb12
   refine wp_skip (Zy (wp_seq (wp_block (wp_region_lit (Ze hE rfl fun a hE=>Ze hE rfl fun a hE=>Ze hE rfl fun a hE=>Ze hE rfl fun a hE=>Zk hE rfl rfl rfl fun a hE=>XM hE Zd ld rfl Tryz.underlying2 Tryz.underlying185 ?_))))); intro a hE
   obtain ⟨_,e13,hs9⟩:=bind_some hs9
   have e13:=Xz e13
   refine HX hE Zd ld rfl rfl (Ba _ _ e13) fun a hE=>Zk hE rfl rfl rfl fun a hE=>Zb hE rfl fun a hE=>Zj (Z0 (Zy (wp_region_lit (Ze hE rfl ?_)))); intro a hE
   obtain ⟨r14,e15,hs9⟩:=bind_some hs9
   refine Zv hE rfl Zce (Qv _ (Ki s8.1 (Jq p1 (IntKind.u64.wrap (wr (s8.2 - r1))))) r14 e15) ?_
   rintro v w a ⟨rfl,hK⟩ hE
   have hM:=hM.keep hK
   refine Zb hE rfl fun a hE=>Zj (Zl ?_)
   exact ⟨_,(ois hs9),hE.sub ⟨rfl,rfl,rfl,rfl,trivial⟩,hM⟩
  ·intro hb12
   have hs9:=Zt hs9 hb12
   refine wp_exit (Zp (Zp (Z1 ?_)))
   obtain rfl:=hx10 _ (ois hs9)
   refine Zl ?_
   exact ⟨hE.sub ⟨rfl,trivial⟩,hM⟩
 ·skip
  rintro a w ⟨hE,hM⟩
  refine Zy (Za (Ze hE rfl fun a hE=>Zb hE rfl fun a hE=>Zf ?_))
  obtain rfl:=Option.some.inj hF7
  exact wp_ret (kr1 hE rfl rfl hM.kept)
def WJ (p0 : Int) (s8 : Int) : Option (Fl Int (Fl Unit Bool)) :=
 if (decide (s8 < 32)) = true then ((UU p0 s8).bind fun r13=>if (r13 == 0) = true then (some (Fl.ex (Fl.ex false))) else (some (Fl.nx (wr (s8 + 1))))) else (some (Fl.ex (Fl.nx ())))
def Uh (p0 : Int) : Option (Bool) :=
 (XN p0 256 511).bind fun r1=>if (!r1) = true then (some false) else ((ZD (WJ p0) 2).bind fun j4=>j4.el (fun s7=>some true) (fun r=>some r))
theorem BJ (w0 : World) (p0 : Int) (r : Bool) (hF : Uh p0 = some r) :
  Calls Tryz.prog 76 [vI p0].toArray w0 (Rt w0 (vT r)):=by
 refine ce Tryz.func76 ?_
 intro a hE
 have hM:=M.start w0
 unfold Uh at hF
 refine Za (Zb hE rfl fun a hE=>Zf (wp_seq (Za (Ze hE rfl ?_)))); intro a hE
 obtain ⟨r1,e2,hF⟩:=bind_some hF
 refine Zv hE rfl cb79 (Ti _ p0 256 511 r1 e2) ?_
 rintro v w a ⟨rfl,hK⟩ hE
 have hM:=hM.keep hK
 refine YO hE rfl fun a hE=>Zf ?_
 refine Zq hE rfl ?_ ?_
 ·intro hb3
  have hF:=Zu hF hb3
  refine Za (Zb hE rfl fun a hE=>Zf ?_)
  obtain rfl:=Option.some.inj hF
  exact wp_ret (Zs (kr1 hE rfl rfl hM.kept))
 ·intro hb3
  have hF:=Zt hF hb3
  refine wp_skip (Zy (wp_seq (Za (Zb hE rfl fun a hE=>Zf ?_))))
  obtain ⟨j4,hl5,hF6⟩:=bind_some hF
  refine ZJ (fun a w=>∃ s7 : Unit,j4 = Fl.nx s7 ∧ Env 15 a [] ∧ M (Old w0) w0 w []) ?_ ?_
  ·skip
   refine wp_block ?_
   refine ZE (fun (s8 : Int) a w=>Env 15 a [(0,vI p0),(3,vI s8)] ∧ M (Old w0) w0 w []) hl5 ⟨hE.sub ⟨rfl,rfl,trivial⟩,hM⟩ ?_
   rintro s8 a w ⟨hE,hM⟩ o11 hs9 hx10
   unfold WJ at hs9
   refine wp_seq (Za (Ze hE rfl fun a hE=>Zk hE rfl rfl rfl fun a hE=>Zf ?_))
   refine Zq hE rfl ?_ ?_
   ·intro hb12
    have hs9:=Zu hs9 hb12
    refine wp_skip (Zy (wp_seq (wp_block (Za (Ze hE rfl fun a hE=>Ze hE rfl ?_))))); intro a hE
    obtain ⟨r13,e14,hs9⟩:=bind_some hs9
    refine Zv hE rfl (cbm Tryz.func118) (AD _ p0 s8 r13 e14) ?_
    rintro v w a ⟨rfl,hK⟩ hE
    have hM:=hM.keep hK
    refine Zk hE rfl rfl rfl fun a hE=>Zf ?_
    refine Zq hE rfl ?_ ?_
    ·intro hb15
     have hs9:=Zu hs9 hb15
     refine Za (Zb hE rfl fun a hE=>Zf ?_)
     obtain rfl:=hx10 _ (ois hs9)
     obtain rfl:=Option.some.inj hF6
     exact wp_ret (Z4 (Zs (Zs (Z4 (Zs (Zs (kr1 hE rfl rfl hM.kept)))))))
    ·intro hb15
     have hs9:=Zt hs9 hb15
     refine wp_skip (Z0 (Zy (wp_region_lit (Ze hE rfl fun a hE=>Zk hE rfl rfl rfl fun a hE=>Zb hE rfl fun a hE=>Zj (Zl ?_)))))
     exact ⟨_,(ois hs9),hE.sub ⟨rfl,rfl,trivial⟩,hM⟩
   ·intro hb12
    have hs9:=Zt hs9 hb12
    refine wp_exit (Zp (Zp (Z1 ?_)))
    obtain rfl:=hx10 _ (ois hs9)
    refine Zl ?_
    exact ⟨(),rfl,hE.sub trivial,hM⟩
  ·skip
   rintro a w ⟨s7,ht,hE,hM⟩
   subst ht
   have hF6:=X7 hF6
   refine Zy (Za (Zb hE rfl fun a hE=>Zf ?_))
   obtain rfl:=Option.some.inj hF6
   exact wp_ret (kr1 hE rfl rfl hM.kept)
def Uv (p0 : (Vector UInt8 256)) (s9 : (Vector Bool 256) × Int) : Option (Fl ((Vector Bool 256) × Int) (Fl Unit Bool)) :=
 if (decide (s9.2 < 256)) = true then ((ZC p0 s9.2).bind fun x15=>(ZC s9.1 (bI x15)).bind fun x18=>if x18 = true then (some (Fl.ex (Fl.ex false))) else ((ZC p0 s9.2).bind fun x23=>(ZC s9.1 (bI x23)).bind fun x26=>some (Fl.nx ((s9.1.setIfInBounds ((bI x23)).toNat true),wr (s9.2 + 1))))) else (some (Fl.ex (Fl.nx ())))
def Qg (p0 : (Vector UInt8 256)) : Option (Bool) :=
 (ZD (Uv p0) ((Vector.replicate 256 false),0)).bind fun j5=>j5.el (fun s8=>some true) (fun r=>some r)
theorem yP (w0 : World) (p0 : (Vector UInt8 256)) (r : Bool) (hF : Qg p0 = some r) :
  Calls Tryz.prog 77 [(Value.agg (enc p0).toArray)].toArray w0 (Rt w0 (vT r)):=by
 refine ce Tryz.func77 ?_
 intro a hE
 have hM:=M.start w0
 unfold Qg at hF
 refine Za (ZM (cs:=enc p0) hE hM Zd ld rfl rfl fun b1 w a hM hE=>Zb hE rfl fun a hE=>Zf (Za (YU (parts:=[]) (vs:=[]) (cs:=enc (Vector.replicate 256 false)) hE Zd ld rfl rfl z2 rfl ty4 Yu fun a hE=>Zz hE hM z2 fun b3 w a hM hE=>Zo (seg:=enc (Vector.replicate 256 false)) (cs':=enc (Vector.replicate 256 false)) hE hM Zd rfl rfl rfl z2 (Flat.len _) (zle flq) (Flat.cell _) (Zr flq) fun w a hM hE=>Zf (wp_seq (Za (Zb hE rfl fun a hE=>Zf ?_))))))
 obtain ⟨j5,hl6,hF7⟩:=bind_some hF
 refine ZJ (fun a w=>∃ s8 : Unit,j5 = Fl.nx s8 ∧ Env 19 a [] ∧ M (Old w0) w0 w []) ?_ ?_
 ·skip
  refine wp_block ?_
  refine ZE (fun (s9 : (Vector Bool 256) × Int) a w=>Env 19 a [(1,(ptr b1 0)),(3,(ptr b3 0)),(4,vI s9.2)] ∧ M (Old w0) w0 w [raw b3 (enc s9.1),raw b1 (enc p0)]) hl6 ⟨hE.sub ⟨rfl,rfl,rfl,trivial⟩,hM⟩ ?_
  rintro s9 a w ⟨hE,hM⟩ o12 hs10 hx11
  unfold Uv at hs10
  refine wp_seq (Za (Ze hE rfl fun a hE=>Zk hE rfl rfl rfl fun a hE=>Zf ?_))
  refine Zq hE rfl ?_ ?_
  ·intro hb13
   have hs10:=Zu hs10 hb13
   refine wp_skip (Zy (wp_seq (wp_block (wp_seq (Za (Ze hE rfl ?_)))))); intro a hE
   obtain ⟨x15,hi14,hs10⟩:=bvx hs10
   refine Zm hE rfl rfl Tryz.underlying23 ty5 hi14.1 fun a hE=>Zx (v:=(vB x15)) hE rfl ty5 rfl (At.vec hM.rawAt1 hi14.2) ?_; intro a hE
   obtain ⟨x18,hi17,hs10⟩:=bvx hs10
   refine Zm hE rfl rfl Tryz.underlying158 ty4 hi17.1 fun a hE=>Zx (v:=(vT x18)) hE rfl ty4 rfl (At.vec hM.rawAt0 hi17.2) fun a hE=>Zf ?_
   refine Zq hE rfl ?_ ?_
   ·intro hb20
    have hs10:=Zu hs10 hb20
    refine Za (Zb hE rfl fun a hE=>Zf ?_)
    obtain rfl:=hx11 _ (ois hs10)
    obtain rfl:=Option.some.inj hF7
    exact wp_ret (Zs (Z4 (Zs (Zs (Z4 (Zs (Zs (kr1 hE rfl rfl hM.kept))))))))
   ·intro hb20
    have hs10:=Zt hs10 hb20
    refine wp_skip (Zy (wp_region_lit (Ze hE rfl ?_))); intro a hE
    obtain ⟨x23,hi22,hs10⟩:=bvx hs10
    refine Zm hE rfl rfl Tryz.underlying23 ty5 hi22.1 fun a hE=>Zx (v:=(vB x23)) hE rfl ty5 rfl (At.vec hM.rawAt1 hi22.2) ?_; intro a hE
    obtain ⟨x26,hi25,hs10⟩:=bvx hs10
    refine Zm hE rfl rfl Tryz.underlying158 ty4 hi25.1 fun a hE=>Zo (seg:=[vT true]) (cs':=enc (s9.1.setIfInBounds ((bI x23)).toNat true)) hE hM Zd rfl rfl rfl ty4 rfl (ZH (v:=s9.1) (x:=true) hi25.1) (Flat.cell (true : Bool)) (ZA (v:=s9.1) (x:=true) hi25.1) fun w a hM hE=>Zj (Z0 (Zy (wp_region_lit (Ze hE rfl fun a hE=>Zk hE rfl rfl rfl fun a hE=>Zb hE rfl fun a hE=>Zj (Zl ?_)))))
    exact ⟨_,(ois hs10),hE.sub ⟨rfl,rfl,rfl,trivial⟩,hM⟩
  ·intro hb13
   have hs10:=Zt hs10 hb13
   refine wp_exit (Zp (Zp (Z1 ?_)))
   obtain rfl:=hx11 _ (ois hs10)
   refine Zl ?_
   have hM:=M.fst (l:=[]) hM
   exact ⟨(),rfl,hE.sub trivial,hM⟩
 ·skip
  rintro a w ⟨s8,ht,hE,hM⟩
  subst ht
  have hF7:=X7 hF7
  refine Zy (Za (Zb hE rfl fun a hE=>Zf ?_))
  obtain rfl:=Option.some.inj hF7
  exact wp_ret (kr1 hE rfl rfl hM.kept)
def WT (p0 : (Vector UInt8 16)) (s9 : (Vector Bool 16) × Int) : Option (Fl ((Vector Bool 16) × Int) (Fl Unit Bool)) :=
 if (decide (s9.2 < 16)) = true then (((ZC p0 s9.2).bind fun x18=>if (decide (x18 ≥ 16)) = true then (some true) else ((ZC p0 s9.2).bind fun x23=>(ZC s9.1 (bI x23)).bind fun x26=>some x26) : Option (Bool)).bind fun j14=>if j14 = true then (some (Fl.ex (Fl.ex false))) else ((ZC p0 s9.2).bind fun x32=>(ZC s9.1 (bI x32)).bind fun x35=>some (Fl.nx ((s9.1.setIfInBounds ((bI x32)).toNat true),wr (s9.2 + 1))))) else (some (Fl.ex (Fl.nx ())))
def UP (p0 : (Vector UInt8 16)) : Option (Bool) :=
 (ZD (WT p0) ((Vector.replicate 16 false),0)).bind fun j5=>j5.el (fun s8=>some true) (fun r=>some r)
theorem AF (w0 : World) (p0 : (Vector UInt8 16)) (r : Bool) (hF : UP p0 = some r) :
  Calls Tryz.prog 78 [(Value.agg (enc p0).toArray)].toArray w0 (Rt w0 (vT r)):=by
 refine ce Tryz.func78 ?_
 intro a hE
 have hM:=M.start w0
 unfold UP at hF
 refine Za (ZM (cs:=enc p0) hE hM Zd ld rfl rfl fun b1 w a hM hE=>Zb hE rfl fun a hE=>Zf (Za (YU (parts:=[]) (vs:=[]) (cs:=enc (Vector.replicate 16 false)) hE Zd ld rfl rfl Zch rfl ty4 Yu fun a hE=>Zz hE hM Zch fun b3 w a hM hE=>Zo (seg:=enc (Vector.replicate 16 false)) (cs':=enc (Vector.replicate 16 false)) hE hM Zd rfl rfl rfl Zch (Flat.len _) (zle flq) (Flat.cell _) (Zr flq) fun w a hM hE=>Zf (wp_seq (Za (Zb hE rfl fun a hE=>Zf ?_))))))
 obtain ⟨j5,hl6,hF7⟩:=bind_some hF
 refine ZJ (fun a w=>∃ s8 : Unit,j5 = Fl.nx s8 ∧ Env 25 a [] ∧ M (Old w0) w0 w []) ?_ ?_
 ·skip
  refine wp_block ?_
  refine ZE (fun (s9 : (Vector Bool 16) × Int) a w=>Env 25 a [(1,(ptr b1 0)),(3,(ptr b3 0)),(4,vI s9.2)] ∧ M (Old w0) w0 w [raw b3 (enc s9.1),raw b1 (enc p0)]) hl6 ⟨hE.sub ⟨rfl,rfl,rfl,trivial⟩,hM⟩ ?_
  rintro s9 a w ⟨hE,hM⟩ o12 hs10 hx11
  unfold WT at hs10
  refine wp_seq (Za (Ze hE rfl fun a hE=>Zk hE rfl rfl rfl fun a hE=>Zf ?_))
  refine Zq hE rfl ?_ ?_
  ·intro hb13
   have hs10:=Zu hs10 hb13
   refine wp_skip (Zy (wp_seq (wp_block (wp_seq ?_))))
   obtain ⟨j14,hl15,hF16⟩:=bind_some hs10
   refine ZI (fun a w=>Env 25 a [(1,(ptr b1 0)),(3,(ptr b3 0)),(4,vI s9.2),(20,vT j14)] ∧ M (Old w0) w0 w [raw b3 (enc s9.1),raw b1 (enc p0)]) ?_ ?_
   ·skip
    refine wp_region_lit (Ze hE rfl ?_); intro a hE
    obtain ⟨x18,hi17,hl15⟩:=bvx hl15
    refine Zm hE rfl rfl Tryz.underlying28 ty5 hi17.1 fun a hE=>Zx (v:=(vB x18)) hE rfl ty5 rfl (At.vec hM.rawAt1 hi17.2) fun a hE=>Zk hE rfl rfl (bB_geq x18 16) fun a hE=>Ze hE rfl ?_; intro a hE
    refine Yb (decide (x18 ≥ 16)) (fun hb20=>?_) (fun hb20=>?_)
    ·have hl15:=Zu hl15 hb20
     refine Zh hE rfl (lkb rfl hb20) rfl (by decide) fun a hE=>Zh hE rfl (lkb rfl hb20) rfl (by decide) fun a hE=>Zh hE rfl (lkb rfl hb20) rfl (by decide) fun a hE=>Zh hE rfl (lkb rfl hb20) rfl (by decide) fun a hE=>Zh hE rfl (lkb rfl hb20) rfl (by decide) fun a hE=>ZG hE (lkb rfl hb20) rfl fun a hE=>Zj ?_
     obtain rfl:=Option.some.inj hl15
     refine Zl ?_
     exact ⟨hE.sub ⟨rfl,rfl,rfl,rfl,trivial⟩,hM⟩
    ·have hl15:=Zt hl15 hb20
     refine Y3 hE (Zi hE rfl (lkb rfl hb20)) (by decide) rfl ?_; intro a hE
     obtain ⟨x23,hi22,hl15⟩:=bvx hl15
     refine Ka hE (Zi hE rfl (lkb rfl hb20)) (by decide) rfl rfl Tryz.underlying28 ty5 hi22.1 fun a hE=>ZY (v:=(vB x23)) hE (Zi hE rfl (lkb rfl hb20)) (by decide) rfl ty5 rfl (At.vec hM.rawAt1 hi22.2) ?_; intro a hE
     obtain ⟨x26,hi25,hl15⟩:=bvx hl15
     refine Ka hE (Zi hE rfl (lkb rfl hb20)) (by decide) rfl rfl Tryz.underlying159 ty4 hi25.1 fun a hE=>ZY (v:=(vT x26)) hE (Zi hE rfl (lkb rfl hb20)) (by decide) rfl ty4 rfl (At.vec hM.rawAt0 hi25.2) fun a hE=>ZL hE (lkb rfl hb20) rfl fun a hE=>Zj ?_
     obtain rfl:=Option.some.inj hl15
     refine Zl ?_
     exact ⟨hE.sub ⟨rfl,rfl,rfl,rfl,trivial⟩,hM⟩
   ·skip
    rintro a w ⟨hE,hM⟩
    refine Zq hE rfl ?_ ?_
    ·intro hb29
     have hF16:=Zu hF16 hb29
     refine Za (Zb hE rfl fun a hE=>Zf ?_)
     obtain rfl:=hx11 _ (ois hF16)
     obtain rfl:=Option.some.inj hF7
     exact wp_ret (Zs (Z4 (Zs (Zs (Z4 (Zs (Zs (kr1 hE rfl rfl hM.kept))))))))
    ·intro hb29
     have hF16:=Zt hF16 hb29
     refine wp_skip (Zy (wp_region_lit (Ze hE rfl ?_))); intro a hE
     obtain ⟨x32,hi31,hF16⟩:=bvx hF16
     refine Zm hE rfl rfl Tryz.underlying28 ty5 hi31.1 fun a hE=>Zx (v:=(vB x32)) hE rfl ty5 rfl (At.vec hM.rawAt1 hi31.2) ?_; intro a hE
     obtain ⟨x35,hi34,hF16⟩:=bvx hF16
     refine Zm hE rfl rfl Tryz.underlying159 ty4 hi34.1 fun a hE=>Zo (seg:=[vT true]) (cs':=enc (s9.1.setIfInBounds ((bI x32)).toNat true)) hE hM Zd rfl rfl rfl ty4 rfl (ZH (v:=s9.1) (x:=true) hi34.1) (Flat.cell (true : Bool)) (ZA (v:=s9.1) (x:=true) hi34.1) fun w a hM hE=>Zj (Z0 (Zy (wp_region_lit (Ze hE rfl fun a hE=>Zk hE rfl rfl rfl fun a hE=>Zb hE rfl fun a hE=>Zj (Zl ?_)))))
     exact ⟨_,(ois hF16),hE.sub ⟨rfl,rfl,rfl,trivial⟩,hM⟩
  ·intro hb13
   have hs10:=Zt hs10 hb13
   refine wp_exit (Zp (Zp (Z1 ?_)))
   obtain rfl:=hx11 _ (ois hs10)
   refine Zl ?_
   have hM:=M.fst (l:=[]) hM
   exact ⟨(),rfl,hE.sub trivial,hM⟩
 ·skip
  rintro a w ⟨s8,ht,hE,hM⟩
  subst ht
  have hF7:=X7 hF7
  refine Zy (Za (Zb hE rfl fun a hE=>Zf ?_))
  obtain rfl:=Option.some.inj hF7
  exact wp_ret (kr1 hE rfl rfl hM.kept)
def T5 (s8 : (Vector (Vector UInt8 4) 4) × Int) : Option (Fl ((Vector (Vector UInt8 4) 4) × Int) (Vector (Vector UInt8 4) 4)) :=
 if (decide (s8.2 < 4)) = true then ((ZC s8.1 s8.2).bind fun x14=>(ZC x14 s8.2).bind fun x17=>some (Fl.nx ((s8.1.setIfInBounds (s8.2).toNat (x14.setIfInBounds (s8.2).toNat 1)),wr (s8.2 + 1)))) else (some (Fl.ex s8.1))
def Vg : Option ((Vector (Vector UInt8 4) 4)) :=
 (ZD (T5) ((Vector.replicate 4 (Vector.replicate 4 (0 : UInt8))),0)).bind fun j5=>some j5
theorem Hw (w0 : World)  (r : (Vector (Vector UInt8 4) 4)) (hF : Vg  = some r) :
  Calls Tryz.prog 147 [].toArray w0 (Rt w0 (Value.agg (enc r).toArray)):=by
 refine ce Tryz.func147 ?_
 intro a hE
 have hM:=M.start w0
 unfold Vg at hF
 refine Za (Zz hE hM Xc fun b1 w a hM hE=>Zf (Za (YU (parts:=[]) (vs:=[]) (cs:=enc (Vector.replicate 4 (Vector.replicate 4 (0 : UInt8)))) hE Zd ld rfl rfl Xc rfl Yh Yu fun a hE=>Zz hE hM Xc fun b3 w a hM hE=>Zo (seg:=enc (Vector.replicate 4 (Vector.replicate 4 (0 : UInt8)))) (cs':=enc (Vector.replicate 4 (Vector.replicate 4 (0 : UInt8)))) hE hM Zd rfl rfl rfl Xc (Flat.len _) (zle flq) (Flat.cell _) (Zr flq) fun w a hM hE=>Zf (wp_seq (Za (Zb hE rfl fun a hE=>Zf ?_))))))
 obtain ⟨j5,hl6,hF7⟩:=bind_some hF
 refine ZJ (fun a w=>Env 13 a [(0,(ptr b1 0)),(1,(ptr b3 0))] ∧ M (Old w0) w0 w [raw b3 (enc j5),raw b1 (enc (Vector.replicate 4 (Vector.replicate 4 (0 : UInt8))))]) ?_ ?_
 ·skip
  refine wp_block ?_
  refine ZE (fun (s8 : (Vector (Vector UInt8 4) 4) × Int) a w=>Env 13 a [(0,(ptr b1 0)),(1,(ptr b3 0)),(2,vI s8.2)] ∧ M (Old w0) w0 w [raw b3 (enc s8.1),raw b1 (enc (Vector.replicate 4 (Vector.replicate 4 (0 : UInt8))))]) hl6 ⟨hE.sub ⟨rfl,rfl,rfl,trivial⟩,hM⟩ ?_
  rintro s8 a w ⟨hE,hM⟩ o11 hs9 hx10
  unfold T5 at hs9
  refine wp_seq (Za (Ze hE rfl fun a hE=>Zk hE rfl rfl rfl fun a hE=>Zf ?_))
  refine Zq hE rfl ?_ ?_
  ·intro hb12
   have hs9:=Zu hs9 hb12
   refine wp_skip (Zy (wp_seq (wp_block (wp_region_lit (Ze hE rfl fun a hE=>Ze hE rfl ?_))))); intro a hE
   obtain ⟨x14,hi13,hs9⟩:=bvx hs9
   refine Zm hE rfl rfl Tryz.underlying26 Yh hi13.1 ?_; intro a hE
   obtain ⟨x17,hi16,hs9⟩:=bvx hs9
   refine Zm hE rfl rfl Tryz.underlying24 ty5 hi16.1 fun a hE=>Zo (seg:=[vB 1]) (cs':=enc (s8.1.setIfInBounds (s8.2).toNat (x14.setIfInBounds (s8.2).toNat 1))) hE hM Zd rfl rfl rfl ty5 rfl (XX (o':=0 + (s8.2).toNat * 1) hi13 (ZH (v:=x14) (x:=1) hi16.1) (by first | omega | (simp only [Flat.n] <;> omega))) (Flat.cell (1 : UInt8)) (YW (o':=0 + (s8.2).toNat * 1) hi13 (ZH (v:=x14) (x:=1) hi16.1) (ZA (v:=x14) (x:=1) hi16.1) (by first | omega | (simp only [Flat.n] <;> omega))) fun w a hM hE=>Zj (Z0 (Zy (wp_region_lit (Ze hE rfl fun a hE=>Zk hE rfl rfl rfl fun a hE=>Zb hE rfl fun a hE=>Zj (Zl ?_)))))
   exact ⟨_,(ois hs9),hE.sub ⟨rfl,rfl,rfl,trivial⟩,hM⟩
  ·intro hb12
   have hs9:=Zt hs9 hb12
   refine wp_exit (Zp (Zp (Z1 ?_)))
   obtain rfl:=hx10 _ (ois hs9)
   refine Zl ?_
   exact ⟨hE.sub ⟨rfl,rfl,trivial⟩,hM⟩
 ·skip
  rintro a w ⟨hE,hM⟩
  refine Zy (Za (Zn hE rfl Xc rfl hM.rawAt0 (Flat.len _) ?_)); intro a hE
  have hM:=hM.pull1
  refine Zo (seg:=enc j5) (cs':=enc j5) hE hM Zd rfl rfl rfl Xc (Flat.len _) (zle flq) (Flat.cell _) (Zr flq) fun w a hM hE=>Zf ?_
  obtain rfl:=Option.some.inj hF7
  have hq20 : Yq Tryz.prog _ _ (.cell 0 26) _:=ZQ hE rfl Xc rfl hM.rawAt0 (Flat.len _) rfl
  exact wp_ret (ZS hE rfl hq20 ⟨_,rfl,rfl,hM.kept⟩)
def Y9 (p0 : Int) (s4 : Int × Int × Int) : Option (Fl (Int × Int × Int) Int) :=
 if (decide (s4.2.2 > 0)) = true then (((if ((Int.tmod s4.2.2 2) == 1) = true then (some (Ki s4.1 s4.2.1)) else (some s4.1) : Option (Int)).bind fun j12=>(if (decide ((wr (s4.2.1 * 2)) ≥ 256)) = true then (some (Ki (wr (s4.2.1 * 2)) p0)) else (some (wr (s4.2.1 * 2))) : Option (Int)).bind fun j18=>some (j12,j18) : Option (Int × Int)).bind fun j9=>some (Fl.nx (j9.1,j9.2,wr (Int.tdiv s4.2.2 2)))) else (some (Fl.ex s4.1))
def Z5 (p0 : Int) (p1 : UInt8) (p2 : UInt8) : Option (UInt8) :=
 (ZD (Y9 p0) (0,bI p1,bI p2)).bind fun j1=>some (ZO j1)
theorem YN (w0 : World) (p0 : Int) (p1 : UInt8) (p2 : UInt8) (r : UInt8) (hF : Z5 p0 p1 p2 = some r) :
  Calls Tryz.prog 134 [vI p0,vB p1,vB p2].toArray w0 (Rt w0 (vB r)):=by
 refine ce Tryz.func134 ?_
 intro a hE
 have hM:=M.start w0
 unfold Z5 at hF
 refine Za (Zb hE rfl fun a hE=>Zf (Za (Ze hE rfl fun a hE=>XM hE Zd ld rfl Tryz.underlying5 Tryz.underlying2 ?_))); intro a hE
 rw [JF] at hE
 refine Zb hE rfl fun a hE=>Zb hE rfl fun a hE=>Zf (wp_seq (Za (Ze hE rfl fun a hE=>XM hE Zd ld rfl Tryz.underlying5 Tryz.underlying2 ?_))); intro a hE
 rw [JF] at hE
 refine Zb hE rfl fun a hE=>Zf ?_
 obtain ⟨j1,hl2,hF3⟩:=bind_some hF
 refine ZJ (fun a w=>Env 33 a [(7,vI j1)] ∧ M (Old w0) w0 w []) ?_ ?_
 ·skip
  refine wp_block ?_
  refine ZE (fun (s4 : Int × Int × Int) a w=>Env 33 a [(0,vI p0),(7,vI s4.1),(8,vI s4.2.1),(9,vI s4.2.2)] ∧ M (Old w0) w0 w []) hl2 ⟨hE.sub ⟨rfl,rfl,rfl,rfl,trivial⟩,hM⟩ ?_
  rintro s4 a w ⟨hE,hM⟩ o7 hs5 hx6
  unfold Y9 at hs5
  refine wp_seq (Za (Ze hE rfl fun a hE=>Zk hE rfl rfl rfl fun a hE=>Zf ?_))
  refine Zq hE rfl ?_ ?_
  ·intro hb8
   have hs5:=Zu hs5 hb8
   refine wp_skip (Zy ?_)
   obtain ⟨j9,hl10,hF11⟩:=bind_some hs5
   refine ZI (fun a w=>Env 33 a [(0,vI p0),(7,vI j9.1),(8,vI j9.2),(9,vI s4.2.2)] ∧ M (Old w0) w0 w []) ?_ ?_
   ·skip
    refine wp_block ?_
    obtain ⟨j12,hl13,hF14⟩:=bind_some hl10
    refine ZI (fun a w=>Env 33 a [(0,vI p0),(7,vI j12),(8,vI s4.2.1),(9,vI s4.2.2)] ∧ M (Old w0) w0 w []) ?_ ?_
    ·skip
     refine Za (Ze hE rfl fun a hE=>Zk hE rfl rfl (Kt _ _ (by decide)) fun a hE=>Zk hE rfl rfl rfl fun a hE=>Zf ?_)
     refine Zq hE rfl ?_ ?_
     ·intro hb15
      have hl13:=Zu hl13 hb15
      refine wp_region_lit (Ze hE rfl fun a hE=>Ze hE rfl fun a hE=>Zk hE rfl rfl rfl fun a hE=>Zb hE rfl fun a hE=>Zj ?_)
      obtain rfl:=Option.some.inj hl13
      refine Zl ?_
      exact ⟨hE.sub ⟨rfl,rfl,rfl,rfl,trivial⟩,hM⟩
     ·intro hb15
      have hl13:=Zt hl13 hb15
      refine wp_skip ?_
      obtain rfl:=Option.some.inj hl13
      refine Zl ?_
      exact ⟨hE.sub ⟨rfl,rfl,rfl,rfl,trivial⟩,hM⟩
    ·skip
     rintro a w ⟨hE,hM⟩
     refine Za (Ze hE rfl fun a hE=>Zk hE rfl rfl rfl fun a hE=>Zb hE rfl fun a hE=>Zf (Za (Ze hE rfl fun a hE=>Zk hE rfl rfl rfl fun a hE=>Zf ?_)))
     obtain ⟨j18,hl19,hF20⟩:=bind_some hF14
     refine ZJ (fun a w=>Env 33 a [(0,vI p0),(7,vI j12),(8,vI j18),(9,vI s4.2.2)] ∧ M (Old w0) w0 w []) ?_ ?_
     ·skip
      refine Zq hE rfl ?_ ?_
      ·intro hb21
       have hl19:=Zu hl19 hb21
       refine wp_region_lit (Ze hE rfl fun a hE=>Ze hE rfl fun a hE=>Zk hE rfl rfl rfl fun a hE=>Zb hE rfl fun a hE=>Zj ?_)
       obtain rfl:=Option.some.inj hl19
       refine Zl ?_
       exact ⟨hE.sub ⟨rfl,rfl,rfl,rfl,trivial⟩,hM⟩
      ·intro hb21
       have hl19:=Zt hl19 hb21
       refine wp_skip ?_
       obtain rfl:=Option.some.inj hl19
       refine Zl ?_
       exact ⟨hE.sub ⟨rfl,rfl,rfl,rfl,trivial⟩,hM⟩
     ·skip
      rintro a w ⟨hE,hM⟩
      refine Z0 ?_
      obtain rfl:=Option.some.inj hF20
      refine Zl ?_
      exact ⟨hE.sub ⟨rfl,rfl,rfl,rfl,trivial⟩,hM⟩
   ·skip
    rintro a w ⟨hE,hM⟩
    refine wp_region_lit (Ze hE rfl fun a hE=>Zk hE rfl rfl (AL _ _ (by decide)) fun a hE=>Zb hE rfl fun a hE=>Zj (Zl ?_))
    exact ⟨_,(ois hF11),hE.sub ⟨rfl,rfl,rfl,rfl,trivial⟩,hM⟩
  ·intro hb8
   have hs5:=Zt hs5 hb8
   refine wp_exit (Zp (Zp (Z1 ?_)))
   obtain rfl:=hx6 _ (ois hs5)
   refine Zl ?_
   exact ⟨hE.sub ⟨rfl,trivial⟩,hM⟩
 ·skip
  rintro a w ⟨hE,hM⟩
  refine Zy (Za (Ze hE rfl fun a hE=>XM hE Zd ld rfl Tryz.underlying2 Tryz.underlying5 ?_)); intro a hE
  rw [YB] at hE
  refine Zb hE rfl fun a hE=>Zf ?_
  obtain rfl:=Option.some.inj hF3
  exact wp_ret (kr1 hE rfl rfl hM.kept)
def Tp (p0 : Int) (s4 : UInt8 × Int × UInt8) : Option (Fl (UInt8 × Int × UInt8) UInt8) :=
 if (decide (s4.2.1 > 0)) = true then (((if ((Int.tmod s4.2.1 2) == 1) = true then ((Z5 p0 s4.2.2 s4.1).bind fun r16=>some r16) else (some s4.2.2) : Option (UInt8)).bind fun j12=>(Z5 p0 s4.1 s4.1).bind fun r20=>some (r20,j12) : Option (UInt8 × UInt8)).bind fun j9=>some (Fl.nx (j9.1,wr (Int.tdiv s4.2.1 2),j9.2))) else (some (Fl.ex s4.2.2))
def W2 (p0 : Int) (p1 : UInt8) (p2 : Int) : Option (UInt8) :=
 (ZD (Tp p0) (p1,p2,1)).bind fun j1=>some j1
theorem BT (w0 : World) (p0 : Int) (p1 : UInt8) (p2 : Int) (r : UInt8) (hF : W2 p0 p1 p2 = some r) :
  Calls Tryz.prog 136 [vI p0,vB p1,vI p2].toArray w0 (Rt w0 (vB r)):=by
 refine ce Tryz.func136 ?_
 intro a hE
 have hM:=M.start w0
 unfold W2 at hF
 refine Za (Zb hE rfl fun a hE=>Zf (Za (Zb hE rfl fun a hE=>Zf ?_)))
 obtain ⟨j1,hl2,hF3⟩:=bind_some hF
 refine ZI (fun a w=>Env 24 a [(7,vB j1)] ∧ M (Old w0) w0 w []) ?_ ?_
 ·skip
  refine wp_block ?_
  refine ZE (fun (s4 : UInt8 × Int × UInt8) a w=>Env 24 a [(0,vI p0),(1,vB s4.1),(2,vI s4.2.1),(7,vB s4.2.2)] ∧ M (Old w0) w0 w []) hl2 ⟨hE.sub ⟨rfl,rfl,rfl,rfl,trivial⟩,hM⟩ ?_
  rintro s4 a w ⟨hE,hM⟩ o7 hs5 hx6
  unfold Tp at hs5
  refine wp_seq (Za (Ze hE rfl fun a hE=>Zk hE rfl rfl rfl fun a hE=>Zf ?_))
  refine Zq hE rfl ?_ ?_
  ·intro hb8
   have hs5:=Zu hs5 hb8
   refine wp_skip (Zy ?_)
   obtain ⟨j9,hl10,hF11⟩:=bind_some hs5
   refine ZI (fun a w=>Env 24 a [(0,vI p0),(1,vB j9.1),(2,vI s4.2.1),(7,vB j9.2)] ∧ M (Old w0) w0 w []) ?_ ?_
   ·skip
    refine wp_block ?_
    obtain ⟨j12,hl13,hF14⟩:=bind_some hl10
    refine ZI (fun a w=>Env 24 a [(0,vI p0),(1,vB s4.1),(2,vI s4.2.1),(7,vB j12)] ∧ M (Old w0) w0 w []) ?_ ?_
    ·skip
     refine Za (Ze hE rfl fun a hE=>Zk hE rfl rfl (Kt _ _ (by decide)) fun a hE=>Zk hE rfl rfl rfl fun a hE=>Zf ?_)
     refine Zq hE rfl ?_ ?_
     ·intro hb15
      have hl13:=Zu hl13 hb15
      refine wp_region_lit (Ze hE rfl fun a hE=>Ze hE rfl fun a hE=>Ze hE rfl ?_); intro a hE
      obtain ⟨r16,e17,hl13⟩:=bind_some hl13
      refine Zv hE rfl JT (YN _ p0 s4.2.2 s4.1 r16 e17) ?_
      rintro v w a ⟨rfl,hK⟩ hE
      have hM:=hM.keep hK
      refine Zb hE rfl fun a hE=>Zj ?_
      obtain rfl:=Option.some.inj hl13
      refine Zl ?_
      exact ⟨hE.sub ⟨rfl,rfl,rfl,rfl,trivial⟩,hM⟩
     ·intro hb15
      have hl13:=Zt hl13 hb15
      refine wp_skip ?_
      obtain rfl:=Option.some.inj hl13
      refine Zl ?_
      exact ⟨hE.sub ⟨rfl,rfl,rfl,rfl,trivial⟩,hM⟩
    ·skip
     rintro a w ⟨hE,hM⟩
     refine wp_region_lit (Ze hE rfl fun a hE=>Ze hE rfl fun a hE=>Ze hE rfl ?_); intro a hE
     obtain ⟨r20,e21,hF14⟩:=bind_some hF14
     refine Zv hE rfl JT (YN _ p0 s4.1 s4.1 r20 e21) ?_
     rintro v w a ⟨rfl,hK⟩ hE
     have hM:=hM.keep hK
     refine Zb hE rfl fun a hE=>Zj (Z0 ?_)
     obtain rfl:=Option.some.inj hF14
     refine Zl ?_
     exact ⟨hE.sub ⟨rfl,rfl,rfl,rfl,trivial⟩,hM⟩
   ·skip
    rintro a w ⟨hE,hM⟩
    refine wp_region_lit (Ze hE rfl fun a hE=>Zk hE rfl rfl (AL _ _ (by decide)) fun a hE=>Zb hE rfl fun a hE=>Zj (Zl ?_))
    exact ⟨_,(ois hF11),hE.sub ⟨rfl,rfl,rfl,rfl,trivial⟩,hM⟩
  ·intro hb8
   have hs5:=Zt hs5 hb8
   refine wp_exit (Zp (Zp (Z1 ?_)))
   obtain rfl:=hx6 _ (ois hs5)
   refine Zl ?_
   exact ⟨hE.sub ⟨rfl,trivial⟩,hM⟩
 ·skip
  rintro a w ⟨hE,hM⟩
  refine Za (Ze hE rfl fun a hE=>Zb hE rfl fun a hE=>Zf ?_)
  obtain rfl:=Option.some.inj hF3
  exact wp_ret (kr1 hE rfl rfl hM.kept)
def Wr (p0 : Int) (p1 : UInt8) : Option (UInt8) :=
 (W2 p0 p1 254).bind fun r1=>some r1
theorem JU (w0 : World) (p0 : Int) (p1 : UInt8) (r : UInt8) (hF : Wr p0 p1 = some r) :
  Calls Tryz.prog 108 [vI p0,vB p1].toArray w0 (Rt w0 (vB r)):=by
 refine ce Tryz.func108 ?_
 intro a hE
 have hM:=M.start w0
 unfold Wr at hF
 refine Za (Zb hE rfl fun a hE=>Zf (Za (Ze hE rfl fun a hE=>Ze hE rfl ?_))); intro a hE
 obtain ⟨r1,e2,hF⟩:=bind_some hF
 refine Zv hE rfl (cbm Tryz.func136) (BT _ p0 p1 254 r1 e2) ?_
 rintro v w a ⟨rfl,hK⟩ hE
 have hM:=hM.keep hK
 refine Zb hE rfl fun a hE=>Zf ?_
 obtain rfl:=Option.some.inj hF
 exact wp_ret (kr1 hE rfl rfl hM.kept)
def Qc (s13 : (Vector (Vector UInt8 4) 4) × (Vector (Vector UInt8 4) 4) × UInt8 × Int) (s21 : Int) : Option (Fl Int Int) :=
 (if (decide (s21 < 4)) = true then ((ZC s13.1 s21).bind fun x30=>(ZC x30 s13.2.2.2).bind fun x33=>some (x33 == 0)) else (some false) : Option (Bool)).bind fun j25=>if j25 = true then (some (Fl.nx (wr (s21 + 1)))) else (some (Fl.ex s21))
def W7 (p0 : Int) (s13 : (Vector (Vector UInt8 4) 4) × (Vector (Vector UInt8 4) 4) × UInt8 × Int) (r91 : UInt8) (s96 : (Vector (Vector UInt8 4) 4) × (Vector (Vector UInt8 4) 4) × Int) : Option (Fl ((Vector (Vector UInt8 4) 4) × (Vector (Vector UInt8 4) 4) × Int) ((Vector (Vector UInt8 4) 4) × (Vector (Vector UInt8 4) 4))) :=
 if (decide (s96.2.2 < 4)) = true then (((ZC s96.1 s13.2.2.2).bind fun x106=>(ZC x106 s96.2.2).bind fun x109=>(Z5 p0 x109 r91).bind fun r111=>(ZC s96.1 s13.2.2.2).bind fun x114=>(ZC x114 s96.2.2).bind fun x117=>some (s96.1.setIfInBounds (s13.2.2.2).toNat (x114.setIfInBounds (s96.2.2).toNat r111)) : Option ((Vector (Vector UInt8 4) 4))).bind fun j101=>(ZC s96.2.1 s13.2.2.2).bind fun x122=>(ZC x122 s96.2.2).bind fun x125=>(Z5 p0 x125 r91).bind fun r127=>(ZC s96.2.1 s13.2.2.2).bind fun x130=>(ZC x130 s96.2.2).bind fun x133=>some (Fl.nx (j101,(s96.2.1.setIfInBounds (s13.2.2.2).toNat (x130.setIfInBounds (s96.2.2).toNat r127)),wr (s96.2.2 + 1)))) else (some (Fl.ex (s96.1,s96.2.1)))
def Xl (p0 : Int) (s13 : (Vector (Vector UInt8 4) 4) × (Vector (Vector UInt8 4) 4) × UInt8 × Int) (s139 : (Vector (Vector UInt8 4) 4) × (Vector (Vector UInt8 4) 4) × Int) (x148 : UInt8) (s153 : (Vector (Vector UInt8 4) 4) × (Vector (Vector UInt8 4) 4) × Int) : Option (Fl ((Vector (Vector UInt8 4) 4) × (Vector (Vector UInt8 4) 4) × Int) ((Vector (Vector UInt8 4) 4) × (Vector (Vector UInt8 4) 4))) :=
 (if (decide (s153.2.2 < 4)) = true then (some (s139.2.2 != s13.2.2.2)) else (some false) : Option (Bool)).bind fun j157=>if j157 = true then (((ZC s153.1 s139.2.2).bind fun x169=>(ZC x169 s153.2.2).bind fun x172=>(ZC s153.1 s13.2.2.2).bind fun x175=>(ZC x175 s153.2.2).bind fun x178=>(Z5 p0 x148 x178).bind fun r180=>(ZC s153.1 s139.2.2).bind fun x183=>(ZC x183 s153.2.2).bind fun x186=>some (s153.1.setIfInBounds (s139.2.2).toNat (x183.setIfInBounds (s153.2.2).toNat (x172 ^^^ r180))) : Option ((Vector (Vector UInt8 4) 4))).bind fun j164=>(ZC s153.2.1 s139.2.2).bind fun x191=>(ZC x191 s153.2.2).bind fun x194=>(ZC s153.2.1 s13.2.2.2).bind fun x197=>(ZC x197 s153.2.2).bind fun x200=>(Z5 p0 x148 x200).bind fun r202=>(ZC s153.2.1 s139.2.2).bind fun x205=>(ZC x205 s153.2.2).bind fun x208=>some (Fl.nx (j164,(s153.2.1.setIfInBounds (s139.2.2).toNat (x205.setIfInBounds (s153.2.2).toNat (x194 ^^^ r202))),wr (s153.2.2 + 1)))) else (some (Fl.ex (s153.1,s153.2.1)))
def W8 (p0 : Int) (s13 : (Vector (Vector UInt8 4) 4) × (Vector (Vector UInt8 4) 4) × UInt8 × Int) (s139 : (Vector (Vector UInt8 4) 4) × (Vector (Vector UInt8 4) 4) × Int) : Option (Fl ((Vector (Vector UInt8 4) 4) × (Vector (Vector UInt8 4) 4) × Int) ((Vector (Vector UInt8 4) 4) × (Vector (Vector UInt8 4) 4))) :=
 if (decide (s139.2.2 < 4)) = true then ((ZC s139.1 s139.2.2).bind fun x145=>(ZC x145 s13.2.2.2).bind fun x148=>(ZD (Xl p0 s13 s139 x148) (s139.1,s139.2.1,0)).bind fun j150=>some (Fl.nx (j150.1,j150.2,wr (s139.2.2 + 1)))) else (some (Fl.ex (s139.1,s139.2.1)))
def Xh (p0 : Int) (s13 : (Vector (Vector UInt8 4) 4) × (Vector (Vector UInt8 4) 4) × UInt8 × Int) : Option (Fl ((Vector (Vector UInt8 4) 4) × (Vector (Vector UInt8 4) 4) × UInt8 × Int) (Fl ((Vector (Vector UInt8 4) 4) × UInt8) (UInt8 × (Vector (Vector UInt8 4) 4)))) :=
 if (decide (s13.2.2.2 < 4)) = true then ((ZD (Qc s13) s13.2.2.2).bind fun j18=>if (j18 == 4) = true then (some (Fl.ex (Fl.ex (0,(Vector.replicate 4 (Vector.replicate 4 (0 : UInt8))))))) else ((ZC s13.1 j18).bind fun x44=>(ZC s13.2.1 j18).bind fun x47=>(ZC s13.1 s13.2.2.2).bind fun x60=>(ZC s13.1 j18).bind fun x63=>(ZC (s13.1.setIfInBounds (j18).toNat x60) s13.2.2.2).bind fun x66=>(ZC s13.2.1 s13.2.2.2).bind fun x69=>(ZC s13.2.1 j18).bind fun x72=>(ZC (s13.2.1.setIfInBounds (j18).toNat x69) s13.2.2.2).bind fun x75=>(ZC ((s13.1.setIfInBounds (j18).toNat x60).setIfInBounds (s13.2.2.2).toNat x44) s13.2.2.2).bind fun x78=>(ZC x78 s13.2.2.2).bind fun x81=>(Z5 p0 s13.2.2.1 x81).bind fun r83=>(ZC ((s13.1.setIfInBounds (j18).toNat x60).setIfInBounds (s13.2.2.2).toNat x44) s13.2.2.2).bind fun x86=>(ZC x86 s13.2.2.2).bind fun x89=>(Wr p0 x89).bind fun r91=>(ZD (W7 p0 s13 r91) (((s13.1.setIfInBounds (j18).toNat x60).setIfInBounds (s13.2.2.2).toNat x44),((s13.2.1.setIfInBounds (j18).toNat x69).setIfInBounds (s13.2.2.2).toNat x47),0)).bind fun j93=>(ZD (W8 p0 s13) (j93.1,j93.2,0)).bind fun j136=>some (Fl.nx (j136.1,j136.2,r83,wr (s13.2.2.2 + 1))))) else (some (Fl.ex (Fl.nx (s13.2.1,s13.2.2.1))))
def Vv (p0 : Int) (p1 : (Vector (Vector UInt8 4) 4)) : Option (UInt8 × (Vector (Vector UInt8 4) 4)) :=
 (Vg).bind fun r5=>(ZD (Xh p0) (p1,r5,1,0)).bind fun j9=>j9.el (fun s12=>(some (s12.1,s12.2) : Option ((Vector (Vector UInt8 4) 4) × UInt8)).bind fun j213=>some (j213.2,j213.1)) (fun r=>some r)
theorem Bj (w0 : World) (p0 : Int) (p1 : (Vector (Vector UInt8 4) 4)) (r : UInt8 × (Vector (Vector UInt8 4) 4)) (hF : Vv p0 p1 = some r) :
  Calls Tryz.prog 119 [vI p0,(Value.agg (enc p1).toArray)].toArray w0 (Rt w0 (Value.tuple [vB r.1,(Value.agg (enc r.2).toArray)].toArray)):=by
 refine ce Tryz.func119 ?_
 intro a hE
 have hM:=M.start w0
 unfold Vv at hF
 refine Za (ZM (cs:=enc p1) hE hM Zd ld rfl rfl fun b1 w a hM hE=>Zb hE rfl fun a hE=>Zz hE hM Xc fun b3 w a hM hE=>Zf (Za ?_))
 obtain ⟨r5,e6,hF⟩:=bind_some hF
 refine Zv hE rfl (cbm Tryz.func147) (Hw _  r5 e6) ?_
 rintro v w a ⟨rfl,hK⟩ hE
 have hM:=hM.keep hK
 refine Zz hE hM Xc fun b7 w a hM hE=>Zo (seg:=enc r5) (cs':=enc r5) hE hM Zd rfl rfl rfl Xc (Flat.len _) (zle flq) (Flat.cell _) (Zr flq) fun w a hM hE=>Zb hE rfl fun a hE=>Zf (wp_seq (Za (Zb hE rfl fun a hE=>Zf ?_)))
 obtain ⟨j9,hl10,hF11⟩:=bind_some hF
 refine ZJ (fun a w=>∃ s12 : (Vector (Vector UInt8 4) 4) × UInt8,j9 = Fl.nx s12 ∧ Env 159 a [(5,(ptr b3 0)),(6,(ptr b7 0)),(7,vB s12.2)] ∧ M (Old w0) w0 w [raw b7 (enc s12.1),raw b3 (enc (Vector.replicate 4 (Vector.replicate 4 (0 : UInt8))))]) ?_ ?_
 ·skip
  refine wp_block ?_
  refine ZE (fun (s13 : (Vector (Vector UInt8 4) 4) × (Vector (Vector UInt8 4) 4) × UInt8 × Int) a w=>Env 159 a [(0,vI p0),(3,(ptr b1 0)),(5,(ptr b3 0)),(6,(ptr b7 0)),(7,vB s13.2.2.1),(8,vI s13.2.2.2)] ∧ M (Old w0) w0 w [raw b7 (enc s13.2.1),raw b3 (enc (Vector.replicate 4 (Vector.replicate 4 (0 : UInt8)))),raw b1 (enc s13.1)]) hl10 ⟨hE.sub ⟨rfl,rfl,rfl,rfl,rfl,rfl,trivial⟩,hM⟩ ?_
  rintro s13 a w ⟨hE,hM⟩ o16 hs14 hx15
  unfold Xh at hs14
  refine wp_seq (Za (Ze hE rfl fun a hE=>Zk hE rfl rfl rfl fun a hE=>Zf ?_))
  refine Zq hE rfl ?_ ?_
  ·intro hb17
   have hs14:=Zu hs14 hb17
   refine wp_skip (Zy (wp_seq (wp_block (Za (Ze hE rfl fun a hE=>Zb hE rfl fun a hE=>Zf ?_)))))
   obtain ⟨j18,hl19,hF20⟩:=bind_some hs14
   refine ZI (fun a w=>Env 159 a [(0,vI p0),(3,(ptr b1 0)),(5,(ptr b3 0)),(6,(ptr b7 0)),(7,vB s13.2.2.1),(8,vI s13.2.2.2),(9,vI j18)] ∧ M (Old w0) w0 w [raw b7 (enc s13.2.1),raw b3 (enc (Vector.replicate 4 (Vector.replicate 4 (0 : UInt8)))),raw b1 (enc s13.1)]) ?_ ?_
   ·skip
    refine wp_block ?_
    refine ZE (fun (s21 : Int) a w=>Env 159 a [(0,vI p0),(3,(ptr b1 0)),(5,(ptr b3 0)),(6,(ptr b7 0)),(7,vB s13.2.2.1),(8,vI s13.2.2.2),(9,vI s21)] ∧ M (Old w0) w0 w [raw b7 (enc s13.2.1),raw b3 (enc (Vector.replicate 4 (Vector.replicate 4 (0 : UInt8)))),raw b1 (enc s13.1)]) hl19 ⟨hE.sub ⟨rfl,rfl,rfl,rfl,rfl,rfl,rfl,trivial⟩,hM⟩ ?_
    rintro s21 a w ⟨hE,hM⟩ o24 hs22 hx23
    unfold Qc at hs22
    refine wp_seq ?_
    obtain ⟨j25,hl26,hF27⟩:=bind_some hs22
    refine ZI (fun a w=>Env 159 a [(0,vI p0),(3,(ptr b1 0)),(5,(ptr b3 0)),(6,(ptr b7 0)),(7,vB s13.2.2.1),(8,vI s13.2.2.2),(9,vI s21),(32,vT j25)] ∧ M (Old w0) w0 w [raw b7 (enc s13.2.1),raw b3 (enc (Vector.replicate 4 (Vector.replicate 4 (0 : UInt8)))),raw b1 (enc s13.1)]) ?_ ?_
    ·skip
     refine wp_region_lit (Ze hE rfl fun a hE=>Zk hE rfl rfl rfl fun a hE=>Ze hE rfl ?_); intro a hE
     refine Yb (decide (s21 < 4)) (fun hb28=>?_) (fun hb28=>?_)
     ·have hl26:=Zu hl26 hb28
      refine Y3 hE (Zi hE rfl (lkb rfl hb28)) (by decide) rfl fun a hE=>Y3 hE (Zi hE rfl (lkb rfl hb28)) (by decide) rfl ?_; intro a hE
      obtain ⟨x30,hi29,hl26⟩:=bvx hl26
      refine Ka hE (Zi hE rfl (lkb rfl hb28)) (by decide) rfl rfl Tryz.underlying26 Yh hi29.1 ?_; intro a hE
      obtain ⟨x33,hi32,hl26⟩:=bvx hl26
      refine Ka hE (Zi hE rfl (lkb rfl hb28)) (by decide) rfl rfl Tryz.underlying24 ty5 hi32.1 fun a hE=>ZY (v:=(vB x33)) hE (Zi hE rfl (lkb rfl hb28)) (by decide) rfl ty5 rfl (At.vec (At.vec hM.rawAt2 hi29.2) hi32.2) fun a hE=>Wa hE (Zi hE rfl (lkb rfl hb28)) (by decide) rfl rfl (kH x33 0) fun a hE=>ZG hE (lkb rfl hb28) rfl fun a hE=>Zj ?_
      obtain rfl:=Option.some.inj hl26
      refine Zl ?_
      exact ⟨hE.sub ⟨rfl,rfl,rfl,rfl,rfl,rfl,rfl,rfl,trivial⟩,hM⟩
     ·have hl26:=Zt hl26 hb28
      refine Zh hE rfl (lkb rfl hb28) rfl (by decide) fun a hE=>Zh hE rfl (lkb rfl hb28) rfl (by decide) fun a hE=>Zh hE rfl (lkb rfl hb28) rfl (by decide) fun a hE=>Zh hE rfl (lkb rfl hb28) rfl (by decide) fun a hE=>Zh hE rfl (lkb rfl hb28) rfl (by decide) fun a hE=>Zh hE rfl (lkb rfl hb28) rfl (by decide) fun a hE=>ZL hE (lkb rfl hb28) rfl fun a hE=>Zj ?_
      obtain rfl:=Option.some.inj hl26
      refine Zl ?_
      exact ⟨hE.sub ⟨rfl,rfl,rfl,rfl,rfl,rfl,rfl,rfl,trivial⟩,hM⟩
    ·skip
     rintro a w ⟨hE,hM⟩
     refine Zq hE rfl ?_ ?_
     ·intro hb37
      have hF27:=Zu hF27 hb37
      refine wp_skip (Zy (wp_block (wp_region_lit (Ze hE rfl fun a hE=>Zk hE rfl rfl rfl fun a hE=>Zb hE rfl fun a hE=>Zj (Z0 (Zl ?_))))))
      exact ⟨_,(ois hF27),hE.sub ⟨rfl,rfl,rfl,rfl,rfl,rfl,rfl,trivial⟩,hM⟩
     ·intro hb37
      have hF27:=Zt hF27 hb37
      refine wp_exit (Zp (Zp (Z1 ?_)))
      obtain rfl:=hx23 _ (ois hF27)
      refine Zl ?_
      exact ⟨hE.sub ⟨rfl,rfl,rfl,rfl,rfl,rfl,rfl,trivial⟩,hM⟩
   ·skip
    rintro a w ⟨hE,hM⟩
    refine wp_seq (Za (Ze hE rfl fun a hE=>Zk hE rfl rfl rfl fun a hE=>Zf ?_))
    refine Zq hE rfl ?_ ?_
    ·intro hb39
     have hF20:=Zu hF20 hb39
     refine Za (YU (parts:=[]) (vs:=[]) (cs:=enc (Vector.replicate 4 (Vector.replicate 4 (0 : UInt8)))) hE Zd ld rfl rfl Xc rfl Yh Yu fun a hE=>Zb hE rfl ?_); intro a hE
     have hM:=hM.pull1
     refine Zo (seg:=enc (Vector.replicate 4 (Vector.replicate 4 (0 : UInt8)))) (cs':=enc (Vector.replicate 4 (Vector.replicate 4 (0 : UInt8)))) hE hM Zd rfl rfl rfl Xc (Flat.len _) (zle flq) (Flat.cell _) (Zr flq) fun w a hM hE=>Zf ?_
     obtain rfl:=hx15 _ (ois hF20)
     obtain rfl:=Option.some.inj hF11
     have hq41 : Yq Tryz.prog _ _ (.cell 5 26) _:=ZQ hE rfl Xc rfl hM.rawAt0 (Flat.len _) rfl
     exact wp_ret (Zs (Z4 (Zs (Zs (Z4 (Zs (Zs (H5 hE rfl (YH hE rfl) hq41 ⟨_,rfl,rfl,hM.kept⟩))))))))
    ·intro hb39
     have hF20:=Zt hF20 hb39
     refine wp_skip (Zy (wp_seq ?_))
     obtain ⟨x44,hi43,hF20⟩:=bvx hF20
     obtain ⟨x47,hi46,hF20⟩:=bvx hF20
     refine TU (n:=159) (hd:=[_,_,_,_,_,_,_,_,_]) (tl:=[_]) Yx rfl rfl [38,39,40,41,42,43,10,11,167] (by decide) (fun D u w=>M (Old w0) w0 w ([raw b7 (enc s13.2.1),raw b3 (enc (Vector.replicate 4 (Vector.replicate 4 (0 : UInt8)))),raw b1 (enc s13.1)] ++ qL ([mkC 6 8 (enc (Vector.replicate 4 (0 : UInt8))) (enc x44),mkO 7 (fun v=>UI v (enc (Vector.replicate 4 (0 : UInt8))))] : Mk) D u) ∧ GOk ([([],fun us v=>v = (vI j18)),([],fun us v=>v = (ptr b1 (0 + (j18).toNat * 4))),([],fun us v=>v = (Value.agg (enc x44).toArray)),([],fun us v=>v = (vI j18)),([],fun us v=>v = (ptr b7 (0 + (j18).toNat * 4))),([],fun us v=>v = (Value.agg (enc x47).toArray)),([],fun us v=>True),([],fun us v=>True),([],fun us v=>True)] : Gs) D u) hE (fun u=>⟨M.qE (M.qE (M.q0 hM.drew u) emO) emC,Ae⟩) (st9 ?_ ?_ ?_ ?_ ?_ ?_ ?_ ?_ ?_) ?_
     ·intro a w ux42 D hE hI hD hdc hp
      have hM0:=hI.1
      exact Ze hE rfl fun a hE=>⟨_,_,rfl,hE,M.qKeep hM0 rfl,hI.2.put hD rfl ZN rfl⟩
     ·intro a w ux42 D hE hI hD hdc hp
      have d0 : D 0 = true:=hp 0 _ rfl rfl
      have g0:=hI.2 0 d0 _ rfl
      have f0 : ux42 0 = (vI j18):=g0.2
      have hM0:=hI.1
      exact Zm hE rfl (lk rfl f0) Tryz.underlying26 Yh hi43.1 fun a hE=>⟨_,_,rfl,hE,M.qKeep hM0 rfl,hI.2.put hD rfl ZN rfl⟩
     ·intro a w ux42 D hE hI hD hdc hp
      have d1 : D 1 = true:=hp 0 _ rfl rfl
      have g1:=hI.2 1 d1 _ rfl
      have f1 : ux42 1 = (ptr b1 (0 + (j18).toNat * 4)):=g1.2
      have hM0:=hI.1
      have hM:=hI.1
      exact Zn hE (lk rfl f1) Yh rfl (At.vec hM.rawAt2 hi43.2) (Flat.len _) fun a hE=>⟨_,_,rfl,hE,M.qKeep hM0 rfl,hI.2.put hD rfl ZN rfl⟩
     ·intro a w ux42 D hE hI hD hdc hp
      have hM0:=hI.1
      exact Ze hE rfl fun a hE=>⟨_,_,rfl,hE,M.qKeep hM0 rfl,hI.2.put hD rfl ZN rfl⟩
     ·intro a w ux42 D hE hI hD hdc hp
      have d3 : D 3 = true:=hp 0 _ rfl rfl
      have g3:=hI.2 3 d3 _ rfl
      have f3 : ux42 3 = (vI j18):=g3.2
      have hM0:=hI.1
      exact Zm hE rfl (lk rfl f3) Tryz.underlying26 Yh hi46.1 fun a hE=>⟨_,_,rfl,hE,M.qKeep hM0 rfl,hI.2.put hD rfl ZN rfl⟩
     ·intro a w ux42 D hE hI hD hdc hp
      have d4 : D 4 = true:=hp 0 _ rfl rfl
      have g4:=hI.2 4 d4 _ rfl
      have f4 : ux42 4 = (ptr b7 (0 + (j18).toNat * 4)):=g4.2
      have hM0:=hI.1
      have hM:=hI.1
      exact Zn hE (lk rfl f4) Yh rfl (At.vec hM.rawAt0 hi46.2) (Flat.len _) fun a hE=>⟨_,_,rfl,hE,M.qKeep hM0 rfl,hI.2.put hD rfl ZN rfl⟩
     ·intro a w ux42 D hE hI hD hdc hp
      have hM0:=hI.1
      have hM:=hI.1
      refine Zz hE hM Yh ?_; intro b49 w a hM hE
      have hs : D 8 = false:=Bool.eq_false_iff.2 fun hx=>Bool.noConfusion (hD.symm.trans (hdc 8 _ _ rfl (List.mem_of_getElem? (i:=0) rfl) rfl hx))
      exact ⟨_,_,rfl,hE,M.qAlloc (mk1:=[]) (mk2:=[_]) hM rfl hD hs (by decide),hI.2.put hD rfl ZN trivial⟩
     ·intro a w ux42 D hE hI hD hdc hp
      have hM0:=hI.1
      have hM:=hI.1
      refine Zz hE hM Yh ?_; intro b51 w a hM hE
      have hM:=hM.pack1 (it:=UI _ (enc (Vector.replicate 4 (0 : UInt8)))) (fun w w' fp ⟨b',e,k⟩ hb=>⟨b',e,XQ w w' fp k hb⟩) (fun fp k=>⟨_,rfl,k⟩)
      exact ⟨_,_,rfl,hE,M.qFill (mk1:=[_]) (mk2:=[]) (f:=fun v=>UI v (enc (Vector.replicate 4 (0 : UInt8)))) hM rfl hD,hI.2.put hD rfl ZN trivial⟩
     ·intro a w ux42 D hE hI hD hdc hp
      have d6 : D 6 = true:=hp 0 _ rfl rfl
      have d2 : D 2 = true:=hp 1 _ rfl rfl
      have g2:=hI.2 2 d2 _ rfl
      have f2 : ux42 2 = (Value.agg (enc x44).toArray):=g2.2
      have hM0:=hI.1
      have hM : M (Old w0) w0 w [raw b7 (enc s13.2.1),raw b3 (enc (Vector.replicate 4 (Vector.replicate 4 (0 : UInt8)))),raw b1 (enc s13.1),HG (D 6) (D 8) (ux42 6) (enc (Vector.replicate 4 (0 : UInt8))) (enc x44),opt (D 7) (UI (ux42 7) (enc (Vector.replicate 4 (0 : UInt8))))]:=hI.1
      obtain ⟨b53,hb54,hM⟩:=M.openCell (pre:=[_,_,_]) hM d6
      rw [hD,if_neg (by decide)] at hM
      exact Zo (seg:=enc x44) (cs':=enc x44) hE hM Zd (lk rfl hb54) (lk rfl f2) rfl Yh (Flat.len _) (zle flq) (Flat.cell _) (Zr flq) fun w a hM hE=>⟨undef,_,rfl,Env.dummy hE (by decide),M.qStore (i:=6) (mk1:=[]) (mk2:=[_]) hM rfl d6 hb54 (by decide),hI.2.put hD rfl ZN trivial⟩
     ·intro a w ux42 D hE hI hall
      have hM : M (Old w0) w0 w [raw b7 (enc s13.2.1),raw b3 (enc (Vector.replicate 4 (Vector.replicate 4 (0 : UInt8)))),raw b1 (enc s13.1),HG (D 6) (D 8) (ux42 6) (enc (Vector.replicate 4 (0 : UInt8))) (enc x44),opt (D 7) (UI (ux42 7) (enc (Vector.replicate 4 (0 : UInt8))))]:=hI.1
      have d0:=hall 0 (by decide)
      have d1:=hall 1 (by decide)
      have d2:=hall 2 (by decide)
      have d3:=hall 3 (by decide)
      have d4:=hall 4 (by decide)
      have d5:=hall 5 (by decide)
      have d6:=hall 6 (by decide)
      have d7:=hall 7 (by decide)
      have d8:=hall 8 (by decide)
      have f0 : ux42 0 = (vI j18):=(hI.2 0 d0 _ rfl).2
      have f1 : ux42 1 = (ptr b1 (0 + (j18).toNat * 4)):=(hI.2 1 d1 _ rfl).2
      have f2 : ux42 2 = (Value.agg (enc x44).toArray):=(hI.2 2 d2 _ rfl).2
      have f3 : ux42 3 = (vI j18):=(hI.2 3 d3 _ rfl).2
      have f4 : ux42 4 = (ptr b7 (0 + (j18).toNat * 4)):=(hI.2 4 d4 _ rfl).2
      have f5 : ux42 5 = (Value.agg (enc x47).toArray):=(hI.2 5 d5 _ rfl).2
      obtain ⟨b55,f56,hM⟩:=M.openCell (pre:=[_,_,_]) hM d6
      rw [if_pos d8] at hM
      have hM:=(hM.sure (pre:=[_,_,_,_]) d7).pull
      obtain ⟨_,⟨b57,f58,_⟩,_⟩:=hM.head
      have hM:=hM.pack1 XQ (it:=raw b57 (enc (Vector.replicate 4 (0 : UInt8)))) (fun fp ⟨b2,e2,k2⟩=>by rw [f58] at e2; simp [ptr] at e2; subst e2; exact k2)
      have hE:=hE.sub (e':=[(43,(Value.agg (enc x47).toArray)),(10,(ptr b55 0)),(11,(ptr b57 0)),(0,vI p0),(3,(ptr b1 0)),(5,(ptr b3 0)),(6,(ptr b7 0)),(7,vB s13.2.2.1),(8,vI s13.2.2.2),(9,vI j18),(35,vI j18),(36,(vT (j18 == 4)))]) ⟨lk rfl f5,lk rfl f56,lk rfl f58,rfl,rfl,rfl,rfl,rfl,rfl,rfl,rfl,rfl,trivial⟩
      refine Zo (seg:=enc x47) (cs':=enc x47) hE hM Zd rfl rfl rfl Yh (Flat.len _) (zle flq) (Flat.cell _) (Zr flq) fun w a hM hE=>Zj (Zy (Za (Ze hE rfl fun a hE=>Ze hE rfl ?_))); intro a hE
      obtain ⟨x60,hi59,hF20⟩:=bvx hF20
      refine Zm hE rfl rfl Tryz.underlying26 Yh hi59.1 fun a hE=>Zn hE rfl Yh rfl (At.vec hM.rawAt4 hi59.2) (Flat.len _) ?_; intro a hE
      obtain ⟨x63,hi62,hF20⟩:=bvx hF20
      refine Zm hE rfl rfl Tryz.underlying26 Yh hi62.1 ?_; intro a hE
      have hM:=hM.pull4
      refine Zo (seg:=enc x60) (cs':=enc (s13.1.setIfInBounds (j18).toNat x60)) hE hM Zd rfl rfl rfl Yh (Flat.len _) (ZH (v:=s13.1) (x:=x60) hi62.1) (Flat.cell _) (ZA (v:=s13.1) (x:=x60) hi62.1) fun w a hM hE=>Zf (Za (Ze hE rfl fun a hE=>Zn hE rfl Yh rfl hM.rawAt2 (Flat.len _) ?_)); intro a hE
      obtain ⟨x66,hi65,hF20⟩:=bvx hF20
      refine Zm hE rfl rfl Tryz.underlying26 Yh hi65.1 fun a hE=>Zo (seg:=enc x44) (cs':=enc ((s13.1.setIfInBounds (j18).toNat x60).setIfInBounds (s13.2.2.2).toNat x44)) hE hM Zd rfl rfl rfl Yh (Flat.len _) (ZH (v:=(s13.1.setIfInBounds (j18).toNat x60)) (x:=x44) hi65.1) (Flat.cell _) (ZA (v:=(s13.1.setIfInBounds (j18).toNat x60)) (x:=x44) hi65.1) fun w a hM hE=>Zf (Za (Ze hE rfl fun a hE=>Ze hE rfl ?_)); intro a hE
      obtain ⟨x69,hi68,hF20⟩:=bvx hF20
      refine Zm hE rfl rfl Tryz.underlying26 Yh hi68.1 fun a hE=>Zn hE rfl Yh rfl (At.vec hM.rawAt3 hi68.2) (Flat.len _) ?_; intro a hE
      obtain ⟨x72,hi71,hF20⟩:=bvx hF20
      refine Zm hE rfl rfl Tryz.underlying26 Yh hi71.1 ?_; intro a hE
      have hM:=hM.pull3
      refine Zo (seg:=enc x69) (cs':=enc (s13.2.1.setIfInBounds (j18).toNat x69)) hE hM Zd rfl rfl rfl Yh (Flat.len _) (ZH (v:=s13.2.1) (x:=x69) hi71.1) (Flat.cell _) (ZA (v:=s13.2.1) (x:=x69) hi71.1) fun w a hM hE=>Zf (Za (Ze hE rfl fun a hE=>Zn hE rfl Yh rfl hM.rawAt2 (Flat.len _) ?_)); intro a hE
      obtain ⟨x75,hi74,hF20⟩:=bvx hF20
      refine Zm hE rfl rfl Tryz.underlying26 Yh hi74.1 fun a hE=>Zo (seg:=enc x47) (cs':=enc ((s13.2.1.setIfInBounds (j18).toNat x69).setIfInBounds (s13.2.2.2).toNat x47)) hE hM Zd rfl rfl rfl Yh (Flat.len _) (ZH (v:=(s13.2.1.setIfInBounds (j18).toNat x69)) (x:=x47) hi74.1) (Flat.cell _) (ZA (v:=(s13.2.1.setIfInBounds (j18).toNat x69)) (x:=x47) hi74.1) fun w a hM hE=>Zf (Za (Ze hE rfl fun a hE=>Ze hE rfl fun a hE=>Ze hE rfl fun a hE=>Ze hE rfl ?_)); intro a hE
      obtain ⟨x78,hi77,hF20⟩:=bvx hF20
      refine Zm hE rfl rfl Tryz.underlying26 Yh hi77.1 ?_; intro a hE
      obtain ⟨x81,hi80,hF20⟩:=bvx hF20
      refine Zm hE rfl rfl Tryz.underlying24 ty5 hi80.1 fun a hE=>Zx (v:=(vB x81)) hE rfl ty5 rfl (At.vec (At.vec hM.rawAt1 hi77.2) hi80.2) ?_; intro a hE
      obtain ⟨r83,e84,hF20⟩:=bind_some hF20
      refine Zv hE rfl JT (YN _ p0 s13.2.2.1 x81 r83 e84) ?_
      rintro v w a ⟨rfl,hK⟩ hE
      have hM:=hM.keep hK
      refine Zb hE rfl fun a hE=>Zf (Za (Ze hE rfl fun a hE=>Ze hE rfl fun a hE=>Ze hE rfl ?_)); intro a hE
      obtain ⟨x86,hi85,hF20⟩:=bvx hF20
      refine Zm hE rfl rfl Tryz.underlying26 Yh hi85.1 ?_; intro a hE
      obtain ⟨x89,hi88,hF20⟩:=bvx hF20
      refine Zm hE rfl rfl Tryz.underlying24 ty5 hi88.1 fun a hE=>Zx (v:=(vB x89)) hE rfl ty5 rfl (At.vec (At.vec hM.rawAt1 hi85.2) hi88.2) ?_; intro a hE
      obtain ⟨r91,e92,hF20⟩:=bind_some hF20
      refine Zv hE rfl (cbm Tryz.func108) (JU _ p0 x89 r91 e92) ?_
      rintro v w a ⟨rfl,hK⟩ hE
      have hM:=hM.keep hK
      refine Zb hE rfl fun a hE=>Zf (wp_seq (Za (Zb hE rfl fun a hE=>Zf ?_)))
      obtain ⟨j93,hl94,hF95⟩:=bind_some hF20
      refine ZJ (fun a w=>Env 159 a [(0,vI p0),(3,(ptr b1 0)),(5,(ptr b3 0)),(6,(ptr b7 0)),(7,vB r83),(8,vI s13.2.2.2)] ∧ M (Old w0) w0 w [raw b7 (enc j93.2),raw b1 (enc j93.1),raw b3 (enc (Vector.replicate 4 (Vector.replicate 4 (0 : UInt8))))]) ?_ ?_
      ·skip
       refine wp_block ?_
       have hM:=M.fst (l:=[_,_,_]) hM.pull4.pull2.pull2
       refine ZE (fun (s96 : (Vector (Vector UInt8 4) 4) × (Vector (Vector UInt8 4) 4) × Int) a w=>Env 159 a [(0,vI p0),(3,(ptr b1 0)),(5,(ptr b3 0)),(6,(ptr b7 0)),(7,vB r83),(8,vI s13.2.2.2),(12,vB r91),(13,vI s96.2.2)] ∧ M (Old w0) w0 w [raw b7 (enc s96.2.1),raw b1 (enc s96.1),raw b3 (enc (Vector.replicate 4 (Vector.replicate 4 (0 : UInt8))))]) hl94 ⟨hE.sub ⟨rfl,rfl,rfl,rfl,rfl,rfl,rfl,rfl,trivial⟩,hM⟩ ?_
       rintro s96 a w ⟨hE,hM⟩ o99 hs97 hx98
       unfold W7 at hs97
       refine wp_seq (Za (Ze hE rfl fun a hE=>Zk hE rfl rfl rfl fun a hE=>Zf ?_))
       refine Zq hE rfl ?_ ?_
       ·intro hb100
        have hs97:=Zu hs97 hb100
        refine wp_skip (Zy (wp_seq (wp_block ?_)))
        obtain ⟨j101,hl102,hF103⟩:=bind_some hs97
        refine ZI (fun a w=>Env 159 a [(0,vI p0),(3,(ptr b1 0)),(5,(ptr b3 0)),(6,(ptr b7 0)),(7,vB r83),(8,vI s13.2.2.2),(12,vB r91),(13,vI s96.2.2)] ∧ M (Old w0) w0 w [raw b7 (enc s96.2.1),raw b1 (enc j101),raw b3 (enc (Vector.replicate 4 (Vector.replicate 4 (0 : UInt8))))]) ?_ ?_
        ·skip
         obtain ⟨x106,hi105,hl102⟩:=bvx hl102
         obtain ⟨x109,hi108,hl102⟩:=bvx hl102
         obtain ⟨r111,e112,hl102⟩:=bind_some hl102
         obtain ⟨x114,hi113,hl102⟩:=bvx hl102
         obtain ⟨x117,hi116,hl102⟩:=bvx hl102
         refine ZX (n:=159) (hd:=[_,_,_,_,_,_,_,_,_,_,_,_]) (tl:=[_]) Yx rfl rfl [79,80,81,82,83,84,85,86,87,88,89,90] (by decide) (fun w=>M (Old w0) w0 w [raw b7 (enc s96.2.1),raw b1 (enc s96.1),raw b3 (enc (Vector.replicate 4 (Vector.replicate 4 (0 : UInt8))))]) (fun j=>([fun v _=>v = (vI s13.2.2.2),fun v _=>v = (vI s96.2.2),fun v _=>v = (vI p0),fun v _=>v = (vI s13.2.2.2),fun v _=>v = (vI s96.2.2),fun v _=>v = (ptr b1 (0 + (s13.2.2.2).toNat * 4)),fun v _=>v = (ptr b1 (0 + (s13.2.2.2).toNat * 4 + (s96.2.2).toNat * 1)),fun v _=>v = (vB x109),fun v _=>v = (vB r91),fun v _=>v = (vB r111),fun v _=>v = (ptr b1 (0 + (s13.2.2.2).toNat * 4)),fun v _=>v = (ptr b1 (0 + (s13.2.2.2).toNat * 4 + (s96.2.2).toNat * 1))] : List (Value → World → Prop)).getD j (fun _ _=>True)) (fun _ _ h hk=>h.keep hk) (gup gu12) hE hM.drew (st12 ?_ ?_ ?_ ?_ ?_ ?_ ?_ ?_ ?_ ?_ ?_ ?_) ?_
         ·exact qm
         ·exact qm
         ·exact qm
         ·exact qm
         ·exact qm
         ·intro a w ux104 hE hM hp
          have f3 : ux104 3 = (vI s13.2.2.2):=hp 0 _ rfl rfl
          exact Zm hE rfl (lk rfl f3) Tryz.underlying26 Yh hi105.1 fun a hE=>kq rfl hE rfl
         ·intro a w ux104 hE hM hp
          have f4 : ux104 4 = (vI s96.2.2):=hp 1 _ rfl rfl
          have f5 : ux104 5 = (ptr b1 (0 + (s13.2.2.2).toNat * 4)):=hp 0 _ rfl rfl
          exact Zm hE (lk rfl f5) (lk rfl f4) Tryz.underlying24 ty5 hi108.1 fun a hE=>kq rfl hE rfl
         ·intro a w ux104 hE hM hp
          have f6 : ux104 6 = (ptr b1 (0 + (s13.2.2.2).toNat * 4 + (s96.2.2).toNat * 1)):=hp 0 _ rfl rfl
          exact Zx (v:=(vB x109)) hE (lk rfl f6) ty5 rfl (At.vec (At.vec hM.rawAt1 hi105.2) hi108.2) fun a hE=>kq rfl hE rfl
         ·exact qm
         ·intro a w ux104 hE hM hp
          have f2 : ux104 2 = (vI p0):=hp 0 _ rfl rfl
          have f7 : ux104 7 = (vB x109):=hp 1 _ rfl rfl
          have f8 : ux104 8 = (vB r91):=hp 2 _ rfl rfl
          refine Zv hE (ZU (ZR (lk rfl f2) (ZR (lk rfl f7) (ZR (lk rfl f8) Xf)))) JT (YN _ p0 x109 r91 r111 e112) ?_
          rintro v w a ⟨rfl,hK⟩ hE
          exact ⟨hK,_,_,rfl,hE,rfl⟩
         ·intro a w ux104 hE hM hp
          have f0 : ux104 0 = (vI s13.2.2.2):=hp 0 _ rfl rfl
          exact Zm hE rfl (lk rfl f0) Tryz.underlying26 Yh hi113.1 fun a hE=>kq rfl hE rfl
         ·intro a w ux104 hE hM hp
          have f1 : ux104 1 = (vI s96.2.2):=hp 1 _ rfl rfl
          have f10 : ux104 10 = (ptr b1 (0 + (s13.2.2.2).toNat * 4)):=hp 0 _ rfl rfl
          exact Zm hE (lk rfl f10) (lk rfl f1) Tryz.underlying24 ty5 hi116.1 fun a hE=>kq rfl hE rfl
         ·intro a w ux104 hE hM hg
          have hE:=hE.sub (e':=[(88,vB r111),(90,(ptr b1 (0 + (s13.2.2.2).toNat * 4 + (s96.2.2).toNat * 1))),(0,vI p0),(3,(ptr b1 0)),(5,(ptr b3 0)),(6,(ptr b7 0)),(7,vB r83),(8,vI s13.2.2.2),(12,vB r91),(13,vI s96.2.2),(75,vI s96.2.2),(76,(vT (decide (s96.2.2 < 4))))]) ⟨lk rfl (hg 9 (by decide)),lk rfl (hg 11 (by decide)),rfl,rfl,rfl,rfl,rfl,rfl,rfl,rfl,rfl,rfl,trivial⟩
          have hM:=hM.pull1
          refine Zo (seg:=[vB r111]) (cs':=enc (s96.1.setIfInBounds (s13.2.2.2).toNat (x114.setIfInBounds (s96.2.2).toNat r111))) hE hM Zd rfl rfl rfl ty5 rfl (XX (o':=0 + (s96.2.2).toNat * 1) hi113 (ZH (v:=x114) (x:=r111) hi116.1) (by first | omega | (simp only [Flat.n] <;> omega))) (Flat.cell (r111 : UInt8)) (YW (o':=0 + (s96.2.2).toNat * 1) hi113 (ZH (v:=x114) (x:=r111) hi116.1) (ZA (v:=x114) (x:=r111) hi116.1) (by first | omega | (simp only [Flat.n] <;> omega))) fun w a hM hE=>Zj ?_
          obtain rfl:=Option.some.inj hl102
          refine Zl ?_
          have hM:=hM.pull2.pull1.pull2
          exact ⟨hE.sub ⟨rfl,rfl,rfl,rfl,rfl,rfl,rfl,rfl,trivial⟩,hM⟩
        ·skip
         rintro a w ⟨hE,hM⟩
         obtain ⟨x122,hi121,hF103⟩:=bvx hF103
         obtain ⟨x125,hi124,hF103⟩:=bvx hF103
         obtain ⟨r127,e128,hF103⟩:=bind_some hF103
         obtain ⟨x130,hi129,hF103⟩:=bvx hF103
         obtain ⟨x133,hi132,hF103⟩:=bvx hF103
         refine ZX (n:=159) (hd:=[_,_,_,_,_,_,_,_,_,_,_,_]) (tl:=[_]) Yx rfl rfl [91,92,93,94,95,96,97,98,99,100,101,102] (by decide) (fun w=>M (Old w0) w0 w [raw b7 (enc s96.2.1),raw b1 (enc j101),raw b3 (enc (Vector.replicate 4 (Vector.replicate 4 (0 : UInt8))))]) (fun j=>([fun v _=>v = (vI s13.2.2.2),fun v _=>v = (vI s96.2.2),fun v _=>v = (vI p0),fun v _=>v = (vI s13.2.2.2),fun v _=>v = (vI s96.2.2),fun v _=>v = (ptr b7 (0 + (s13.2.2.2).toNat * 4)),fun v _=>v = (ptr b7 (0 + (s13.2.2.2).toNat * 4 + (s96.2.2).toNat * 1)),fun v _=>v = (vB x125),fun v _=>v = (vB r91),fun v _=>v = (vB r127),fun v _=>v = (ptr b7 (0 + (s13.2.2.2).toNat * 4)),fun v _=>v = (ptr b7 (0 + (s13.2.2.2).toNat * 4 + (s96.2.2).toNat * 1))] : List (Value → World → Prop)).getD j (fun _ _=>True)) (fun _ _ h hk=>h.keep hk) (gup gu12) hE hM.drew (st12 ?_ ?_ ?_ ?_ ?_ ?_ ?_ ?_ ?_ ?_ ?_ ?_) ?_
         ·exact qm
         ·exact qm
         ·exact qm
         ·exact qm
         ·exact qm
         ·intro a w ux120 hE hM hp
          have f3 : ux120 3 = (vI s13.2.2.2):=hp 0 _ rfl rfl
          exact Zm hE rfl (lk rfl f3) Tryz.underlying26 Yh hi121.1 fun a hE=>kq rfl hE rfl
         ·intro a w ux120 hE hM hp
          have f4 : ux120 4 = (vI s96.2.2):=hp 1 _ rfl rfl
          have f5 : ux120 5 = (ptr b7 (0 + (s13.2.2.2).toNat * 4)):=hp 0 _ rfl rfl
          exact Zm hE (lk rfl f5) (lk rfl f4) Tryz.underlying24 ty5 hi124.1 fun a hE=>kq rfl hE rfl
         ·intro a w ux120 hE hM hp
          have f6 : ux120 6 = (ptr b7 (0 + (s13.2.2.2).toNat * 4 + (s96.2.2).toNat * 1)):=hp 0 _ rfl rfl
          exact Zx (v:=(vB x125)) hE (lk rfl f6) ty5 rfl (At.vec (At.vec hM.rawAt0 hi121.2) hi124.2) fun a hE=>kq rfl hE rfl
         ·exact qm
         ·intro a w ux120 hE hM hp
          have f2 : ux120 2 = (vI p0):=hp 0 _ rfl rfl
          have f7 : ux120 7 = (vB x125):=hp 1 _ rfl rfl
          have f8 : ux120 8 = (vB r91):=hp 2 _ rfl rfl
          refine Zv hE (ZU (ZR (lk rfl f2) (ZR (lk rfl f7) (ZR (lk rfl f8) Xf)))) JT (YN _ p0 x125 r91 r127 e128) ?_
          rintro v w a ⟨rfl,hK⟩ hE
          exact ⟨hK,_,_,rfl,hE,rfl⟩
         ·intro a w ux120 hE hM hp
          have f0 : ux120 0 = (vI s13.2.2.2):=hp 0 _ rfl rfl
          exact Zm hE rfl (lk rfl f0) Tryz.underlying26 Yh hi129.1 fun a hE=>kq rfl hE rfl
         ·intro a w ux120 hE hM hp
          have f1 : ux120 1 = (vI s96.2.2):=hp 1 _ rfl rfl
          have f10 : ux120 10 = (ptr b7 (0 + (s13.2.2.2).toNat * 4)):=hp 0 _ rfl rfl
          exact Zm hE (lk rfl f10) (lk rfl f1) Tryz.underlying24 ty5 hi132.1 fun a hE=>kq rfl hE rfl
         ·intro a w ux120 hE hM hg
          have hE:=hE.sub (e':=[(100,vB r127),(102,(ptr b7 (0 + (s13.2.2.2).toNat * 4 + (s96.2.2).toNat * 1))),(0,vI p0),(3,(ptr b1 0)),(5,(ptr b3 0)),(6,(ptr b7 0)),(7,vB r83),(8,vI s13.2.2.2),(12,vB r91),(13,vI s96.2.2)]) ⟨lk rfl (hg 9 (by decide)),lk rfl (hg 11 (by decide)),rfl,rfl,rfl,rfl,rfl,rfl,rfl,rfl,trivial⟩
          refine Zo (seg:=[vB r127]) (cs':=enc (s96.2.1.setIfInBounds (s13.2.2.2).toNat (x130.setIfInBounds (s96.2.2).toNat r127))) hE hM Zd rfl rfl rfl ty5 rfl (XX (o':=0 + (s96.2.2).toNat * 1) hi129 (ZH (v:=x130) (x:=r127) hi132.1) (by first | omega | (simp only [Flat.n] <;> omega))) (Flat.cell (r127 : UInt8)) (YW (o':=0 + (s96.2.2).toNat * 1) hi129 (ZH (v:=x130) (x:=r127) hi132.1) (ZA (v:=x130) (x:=r127) hi132.1) (by first | omega | (simp only [Flat.n] <;> omega))) fun w a hM hE=>Zj (Z0 (Zy (wp_region_lit (Ze hE rfl fun a hE=>Zk hE rfl rfl rfl fun a hE=>Zb hE rfl fun a hE=>Zj (Zl ?_)))))
          exact ⟨_,(ois hF103),hE.sub ⟨rfl,rfl,rfl,rfl,rfl,rfl,rfl,rfl,trivial⟩,hM⟩
       ·intro hb100
        have hs97:=Zt hs97 hb100
        refine wp_exit (Zp (Zp (Z1 ?_)))
        obtain rfl:=hx98 _ (ois hs97)
        refine Zl ?_
        exact ⟨hE.sub ⟨rfl,rfl,rfl,rfl,rfl,rfl,trivial⟩,hM⟩
      ·skip
       rintro a w ⟨hE,hM⟩
       refine Zy (Za (Zb hE rfl fun a hE=>Zf ?_))
       obtain ⟨j136,hl137,hF138⟩:=bind_some hF95
       refine ZJ (fun a w=>Env 159 a [(0,vI p0),(3,(ptr b1 0)),(5,(ptr b3 0)),(6,(ptr b7 0)),(7,vB r83),(8,vI s13.2.2.2)] ∧ M (Old w0) w0 w [raw b7 (enc j136.2),raw b1 (enc j136.1),raw b3 (enc (Vector.replicate 4 (Vector.replicate 4 (0 : UInt8))))]) ?_ ?_
       ·skip
        refine wp_block ?_
        refine ZE (fun (s139 : (Vector (Vector UInt8 4) 4) × (Vector (Vector UInt8 4) 4) × Int) a w=>Env 159 a [(0,vI p0),(3,(ptr b1 0)),(5,(ptr b3 0)),(6,(ptr b7 0)),(7,vB r83),(8,vI s13.2.2.2),(14,vI s139.2.2)] ∧ M (Old w0) w0 w [raw b7 (enc s139.2.1),raw b1 (enc s139.1),raw b3 (enc (Vector.replicate 4 (Vector.replicate 4 (0 : UInt8))))]) hl137 ⟨hE.sub ⟨rfl,rfl,rfl,rfl,rfl,rfl,rfl,trivial⟩,hM⟩ ?_
        rintro s139 a w ⟨hE,hM⟩ o142 hs140 hx141
        unfold W8 at hs140
        refine wp_seq (Za (Ze hE rfl fun a hE=>Zk hE rfl rfl rfl fun a hE=>Zf ?_))
        refine Zq hE rfl ?_ ?_
        ·intro hb143
         have hs140:=Zu hs140 hb143
         refine wp_skip (Zy (wp_seq (wp_block (Za (Ze hE rfl fun a hE=>Ze hE rfl ?_))))); intro a hE
         obtain ⟨x145,hi144,hs140⟩:=bvx hs140
         refine Zm hE rfl rfl Tryz.underlying26 Yh hi144.1 ?_; intro a hE
         obtain ⟨x148,hi147,hs140⟩:=bvx hs140
         refine Zm hE rfl rfl Tryz.underlying24 ty5 hi147.1 fun a hE=>Zx (v:=(vB x148)) hE rfl ty5 rfl (At.vec (At.vec hM.rawAt1 hi144.2) hi147.2) fun a hE=>Zb hE rfl fun a hE=>Zf (Za (Zb hE rfl fun a hE=>Zf ?_))
         obtain ⟨j150,hl151,hF152⟩:=bind_some hs140
         refine ZJ (fun a w=>Env 159 a [(0,vI p0),(3,(ptr b1 0)),(5,(ptr b3 0)),(6,(ptr b7 0)),(7,vB r83),(8,vI s13.2.2.2),(14,vI s139.2.2)] ∧ M (Old w0) w0 w [raw b7 (enc j150.2),raw b1 (enc j150.1),raw b3 (enc (Vector.replicate 4 (Vector.replicate 4 (0 : UInt8))))]) ?_ ?_
         ·skip
          refine wp_block ?_
          refine ZE (fun (s153 : (Vector (Vector UInt8 4) 4) × (Vector (Vector UInt8 4) 4) × Int) a w=>Env 159 a [(0,vI p0),(3,(ptr b1 0)),(5,(ptr b3 0)),(6,(ptr b7 0)),(7,vB r83),(8,vI s13.2.2.2),(14,vI s139.2.2),(15,vB x148),(16,vI s153.2.2)] ∧ M (Old w0) w0 w [raw b7 (enc s153.2.1),raw b1 (enc s153.1),raw b3 (enc (Vector.replicate 4 (Vector.replicate 4 (0 : UInt8))))]) hl151 ⟨hE.sub ⟨rfl,rfl,rfl,rfl,rfl,rfl,rfl,rfl,rfl,trivial⟩,hM⟩ ?_
          rintro s153 a w ⟨hE,hM⟩ o156 hs154 hx155
          unfold Xl at hs154
          refine wp_seq ?_
          obtain ⟨j157,hl158,hF159⟩:=bind_some hs154
          refine ZI (fun a w=>Env 159 a [(0,vI p0),(3,(ptr b1 0)),(5,(ptr b3 0)),(6,(ptr b7 0)),(7,vB r83),(8,vI s13.2.2.2),(14,vI s139.2.2),(15,vB x148),(16,vI s153.2.2),(118,vT j157)] ∧ M (Old w0) w0 w [raw b7 (enc s153.2.1),raw b1 (enc s153.1),raw b3 (enc (Vector.replicate 4 (Vector.replicate 4 (0 : UInt8))))]) ?_ ?_
          ·skip
           refine wp_region_lit (Ze hE rfl fun a hE=>Zk hE rfl rfl rfl fun a hE=>Ze hE rfl ?_); intro a hE
           refine Yb (decide (s153.2.2 < 4)) (fun hb160=>?_) (fun hb160=>?_)
           ·have hl158:=Zu hl158 hb160
            refine Y3 hE (Zi hE rfl (lkb rfl hb160)) (by decide) rfl fun a hE=>Y3 hE (Zi hE rfl (lkb rfl hb160)) (by decide) rfl fun a hE=>Wa hE (Zi hE rfl (lkb rfl hb160)) (by decide) rfl rfl rfl fun a hE=>ZG hE (lkb rfl hb160) rfl fun a hE=>Zj ?_
            obtain rfl:=Option.some.inj hl158
            refine Zl ?_
            exact ⟨hE.sub ⟨rfl,rfl,rfl,rfl,rfl,rfl,rfl,rfl,rfl,rfl,trivial⟩,hM⟩
           ·have hl158:=Zt hl158 hb160
            refine Zh hE rfl (lkb rfl hb160) rfl (by decide) fun a hE=>Zh hE rfl (lkb rfl hb160) rfl (by decide) fun a hE=>Zh hE rfl (lkb rfl hb160) rfl (by decide) fun a hE=>ZL hE (lkb rfl hb160) rfl fun a hE=>Zj ?_
            obtain rfl:=Option.some.inj hl158
            refine Zl ?_
            exact ⟨hE.sub ⟨rfl,rfl,rfl,rfl,rfl,rfl,rfl,rfl,rfl,rfl,trivial⟩,hM⟩
          ·skip
           rintro a w ⟨hE,hM⟩
           refine Zq hE rfl ?_ ?_
           ·intro hb163
            have hF159:=Zu hF159 hb163
            refine wp_skip (Zy (wp_seq (wp_block ?_)))
            obtain ⟨j164,hl165,hF166⟩:=bind_some hF159
            refine ZI (fun a w=>Env 159 a [(0,vI p0),(3,(ptr b1 0)),(5,(ptr b3 0)),(6,(ptr b7 0)),(7,vB r83),(8,vI s13.2.2.2),(14,vI s139.2.2),(15,vB x148),(16,vI s153.2.2)] ∧ M (Old w0) w0 w [raw b7 (enc s153.2.1),raw b1 (enc j164),raw b3 (enc (Vector.replicate 4 (Vector.replicate 4 (0 : UInt8))))]) ?_ ?_
            ·skip
             obtain ⟨x169,hi168,hl165⟩:=bvx hl165
             obtain ⟨x172,hi171,hl165⟩:=bvx hl165
             obtain ⟨x175,hi174,hl165⟩:=bvx hl165
             obtain ⟨x178,hi177,hl165⟩:=bvx hl165
             obtain ⟨r180,e181,hl165⟩:=bind_some hl165
             obtain ⟨x183,hi182,hl165⟩:=bvx hl165
             obtain ⟨x186,hi185,hl165⟩:=bvx hl165
             refine ZX (n:=159) (hd:=[_,_,_,_,_,_,_,_,_,_,_,_,_,_,_,_,_,_]) (tl:=[_]) Yx rfl rfl [121,122,123,124,125,126,127,128,129,130,131,132,133,134,135,136,137,138] (by decide) (fun w=>M (Old w0) w0 w [raw b7 (enc s153.2.1),raw b1 (enc s153.1),raw b3 (enc (Vector.replicate 4 (Vector.replicate 4 (0 : UInt8))))]) (fun j=>([fun v _=>v = (vI s139.2.2),fun v _=>v = (vI s153.2.2),fun v _=>v = (vI s139.2.2),fun v _=>v = (vI s153.2.2),fun v _=>v = (ptr b1 (0 + (s139.2.2).toNat * 4)),fun v _=>v = (ptr b1 (0 + (s139.2.2).toNat * 4 + (s153.2.2).toNat * 1)),fun v _=>v = (vB x172),fun v _=>v = (vI p0),fun v _=>v = (vB x148),fun v _=>v = (vI s13.2.2.2),fun v _=>v = (vI s153.2.2),fun v _=>v = (ptr b1 (0 + (s13.2.2.2).toNat * 4)),fun v _=>v = (ptr b1 (0 + (s13.2.2.2).toNat * 4 + (s153.2.2).toNat * 1)),fun v _=>v = (vB x178),fun v _=>v = (vB r180),fun v _=>v = (vB (x172 ^^^ r180)),fun v _=>v = (ptr b1 (0 + (s139.2.2).toNat * 4)),fun v _=>v = (ptr b1 (0 + (s139.2.2).toNat * 4 + (s153.2.2).toNat * 1))] : List (Value → World → Prop)).getD j (fun _ _=>True)) (fun _ _ h hk=>h.keep hk) (gup gu18) hE hM.drew (st18 ?_ ?_ ?_ ?_ ?_ ?_ ?_ ?_ ?_ ?_ ?_ ?_ ?_ ?_ ?_ ?_ ?_ ?_) ?_
             ·exact qm
             ·exact qm
             ·exact qm
             ·exact qm
             ·intro a w ux167 hE hM hp
              have f2 : ux167 2 = (vI s139.2.2):=hp 0 _ rfl rfl
              exact Zm hE rfl (lk rfl f2) Tryz.underlying26 Yh hi168.1 fun a hE=>kq rfl hE rfl
             ·intro a w ux167 hE hM hp
              have f3 : ux167 3 = (vI s153.2.2):=hp 1 _ rfl rfl
              have f4 : ux167 4 = (ptr b1 (0 + (s139.2.2).toNat * 4)):=hp 0 _ rfl rfl
              exact Zm hE (lk rfl f4) (lk rfl f3) Tryz.underlying24 ty5 hi171.1 fun a hE=>kq rfl hE rfl
             ·intro a w ux167 hE hM hp
              have f5 : ux167 5 = (ptr b1 (0 + (s139.2.2).toNat * 4 + (s153.2.2).toNat * 1)):=hp 0 _ rfl rfl
              exact Zx (v:=(vB x172)) hE (lk rfl f5) ty5 rfl (At.vec (At.vec hM.rawAt1 hi168.2) hi171.2) fun a hE=>kq rfl hE rfl
             ·exact qm
             ·exact qm
             ·exact qm
             ·exact qm
             ·intro a w ux167 hE hM hp
              have f9 : ux167 9 = (vI s13.2.2.2):=hp 0 _ rfl rfl
              exact Zm hE rfl (lk rfl f9) Tryz.underlying26 Yh hi174.1 fun a hE=>kq rfl hE rfl
             ·intro a w ux167 hE hM hp
              have f10 : ux167 10 = (vI s153.2.2):=hp 1 _ rfl rfl
              have f11 : ux167 11 = (ptr b1 (0 + (s13.2.2.2).toNat * 4)):=hp 0 _ rfl rfl
              exact Zm hE (lk rfl f11) (lk rfl f10) Tryz.underlying24 ty5 hi177.1 fun a hE=>kq rfl hE rfl
             ·intro a w ux167 hE hM hp
              have f12 : ux167 12 = (ptr b1 (0 + (s13.2.2.2).toNat * 4 + (s153.2.2).toNat * 1)):=hp 0 _ rfl rfl
              exact Zx (v:=(vB x178)) hE (lk rfl f12) ty5 rfl (At.vec (At.vec hM.rawAt1 hi174.2) hi177.2) fun a hE=>kq rfl hE rfl
             ·intro a w ux167 hE hM hp
              have f7 : ux167 7 = (vI p0):=hp 0 _ rfl rfl
              have f8 : ux167 8 = (vB x148):=hp 1 _ rfl rfl
              have f13 : ux167 13 = (vB x178):=hp 2 _ rfl rfl
              refine Zv hE (ZU (ZR (lk rfl f7) (ZR (lk rfl f8) (ZR (lk rfl f13) Xf)))) JT (YN _ p0 x148 x178 r180 e181) ?_
              rintro v w a ⟨rfl,hK⟩ hE
              exact ⟨hK,_,_,rfl,hE,rfl⟩
             ·intro a w ux167 hE hM hp
              have f6 : ux167 6 = (vB x172):=hp 0 _ rfl rfl
              have f14 : ux167 14 = (vB r180):=hp 1 _ rfl rfl
              exact Zk hE (lk rfl f6) (lk rfl f14) (VA x172 r180) fun a hE=>kq rfl hE rfl
             ·intro a w ux167 hE hM hp
              have f0 : ux167 0 = (vI s139.2.2):=hp 0 _ rfl rfl
              exact Zm hE rfl (lk rfl f0) Tryz.underlying26 Yh hi182.1 fun a hE=>kq rfl hE rfl
             ·intro a w ux167 hE hM hp
              have f1 : ux167 1 = (vI s153.2.2):=hp 1 _ rfl rfl
              have f16 : ux167 16 = (ptr b1 (0 + (s139.2.2).toNat * 4)):=hp 0 _ rfl rfl
              exact Zm hE (lk rfl f16) (lk rfl f1) Tryz.underlying24 ty5 hi185.1 fun a hE=>kq rfl hE rfl
             ·intro a w ux167 hE hM hg
              have hE:=hE.sub (e':=[(136,(vB (x172 ^^^ r180))),(138,(ptr b1 (0 + (s139.2.2).toNat * 4 + (s153.2.2).toNat * 1))),(0,vI p0),(3,(ptr b1 0)),(5,(ptr b3 0)),(6,(ptr b7 0)),(7,vB r83),(8,vI s13.2.2.2),(14,vI s139.2.2),(15,vB x148),(16,vI s153.2.2),(118,vT j157)]) ⟨lk rfl (hg 15 (by decide)),lk rfl (hg 17 (by decide)),rfl,rfl,rfl,rfl,rfl,rfl,rfl,rfl,rfl,rfl,trivial⟩
              have hM:=hM.pull1
              refine Zo (seg:=[(vB (x172 ^^^ r180))]) (cs':=enc (s153.1.setIfInBounds (s139.2.2).toNat (x183.setIfInBounds (s153.2.2).toNat (x172 ^^^ r180)))) hE hM Zd rfl rfl rfl ty5 rfl (XX (o':=0 + (s153.2.2).toNat * 1) hi182 (ZH (v:=x183) (x:=x172 ^^^ r180) hi185.1) (by first | omega | (simp only [Flat.n] <;> omega))) (Flat.cell (x172 ^^^ r180 : UInt8)) (YW (o':=0 + (s153.2.2).toNat * 1) hi182 (ZH (v:=x183) (x:=x172 ^^^ r180) hi185.1) (ZA (v:=x183) (x:=x172 ^^^ r180) hi185.1) (by first | omega | (simp only [Flat.n] <;> omega))) fun w a hM hE=>Zj ?_
              obtain rfl:=Option.some.inj hl165
              refine Zl ?_
              have hM:=hM.pull2.pull1.pull2
              exact ⟨hE.sub ⟨rfl,rfl,rfl,rfl,rfl,rfl,rfl,rfl,rfl,trivial⟩,hM⟩
            ·skip
             rintro a w ⟨hE,hM⟩
             obtain ⟨x191,hi190,hF166⟩:=bvx hF166
             obtain ⟨x194,hi193,hF166⟩:=bvx hF166
             obtain ⟨x197,hi196,hF166⟩:=bvx hF166
             obtain ⟨x200,hi199,hF166⟩:=bvx hF166
             obtain ⟨r202,e203,hF166⟩:=bind_some hF166
             obtain ⟨x205,hi204,hF166⟩:=bvx hF166
             obtain ⟨x208,hi207,hF166⟩:=bvx hF166
             refine ZX (n:=159) (hd:=[_,_,_,_,_,_,_,_,_,_,_,_,_,_,_,_,_,_]) (tl:=[_]) Yx rfl rfl [139,140,141,142,143,144,145,146,147,148,149,150,151,152,153,154,155,156] (by decide) (fun w=>M (Old w0) w0 w [raw b7 (enc s153.2.1),raw b1 (enc j164),raw b3 (enc (Vector.replicate 4 (Vector.replicate 4 (0 : UInt8))))]) (fun j=>([fun v _=>v = (vI s139.2.2),fun v _=>v = (vI s153.2.2),fun v _=>v = (vI s139.2.2),fun v _=>v = (vI s153.2.2),fun v _=>v = (ptr b7 (0 + (s139.2.2).toNat * 4)),fun v _=>v = (ptr b7 (0 + (s139.2.2).toNat * 4 + (s153.2.2).toNat * 1)),fun v _=>v = (vB x194),fun v _=>v = (vI p0),fun v _=>v = (vB x148),fun v _=>v = (vI s13.2.2.2),fun v _=>v = (vI s153.2.2),fun v _=>v = (ptr b7 (0 + (s13.2.2.2).toNat * 4)),fun v _=>v = (ptr b7 (0 + (s13.2.2.2).toNat * 4 + (s153.2.2).toNat * 1)),fun v _=>v = (vB x200),fun v _=>v = (vB r202),fun v _=>v = (vB (x194 ^^^ r202)),fun v _=>v = (ptr b7 (0 + (s139.2.2).toNat * 4)),fun v _=>v = (ptr b7 (0 + (s139.2.2).toNat * 4 + (s153.2.2).toNat * 1))] : List (Value → World → Prop)).getD j (fun _ _=>True)) (fun _ _ h hk=>h.keep hk) (gup gu18) hE hM.drew (st18 ?_ ?_ ?_ ?_ ?_ ?_ ?_ ?_ ?_ ?_ ?_ ?_ ?_ ?_ ?_ ?_ ?_ ?_) ?_
             ·exact qm
             ·exact qm
             ·exact qm
             ·exact qm
             ·intro a w ux189 hE hM hp
              have f2 : ux189 2 = (vI s139.2.2):=hp 0 _ rfl rfl
              exact Zm hE rfl (lk rfl f2) Tryz.underlying26 Yh hi190.1 fun a hE=>kq rfl hE rfl
             ·intro a w ux189 hE hM hp
              have f3 : ux189 3 = (vI s153.2.2):=hp 1 _ rfl rfl
              have f4 : ux189 4 = (ptr b7 (0 + (s139.2.2).toNat * 4)):=hp 0 _ rfl rfl
              exact Zm hE (lk rfl f4) (lk rfl f3) Tryz.underlying24 ty5 hi193.1 fun a hE=>kq rfl hE rfl
             ·intro a w ux189 hE hM hp
              have f5 : ux189 5 = (ptr b7 (0 + (s139.2.2).toNat * 4 + (s153.2.2).toNat * 1)):=hp 0 _ rfl rfl
              exact Zx (v:=(vB x194)) hE (lk rfl f5) ty5 rfl (At.vec (At.vec hM.rawAt0 hi190.2) hi193.2) fun a hE=>kq rfl hE rfl
             ·exact qm
             ·exact qm
             ·exact qm
             ·exact qm
             ·intro a w ux189 hE hM hp
              have f9 : ux189 9 = (vI s13.2.2.2):=hp 0 _ rfl rfl
              exact Zm hE rfl (lk rfl f9) Tryz.underlying26 Yh hi196.1 fun a hE=>kq rfl hE rfl
             ·intro a w ux189 hE hM hp
              have f10 : ux189 10 = (vI s153.2.2):=hp 1 _ rfl rfl
              have f11 : ux189 11 = (ptr b7 (0 + (s13.2.2.2).toNat * 4)):=hp 0 _ rfl rfl
              exact Zm hE (lk rfl f11) (lk rfl f10) Tryz.underlying24 ty5 hi199.1 fun a hE=>kq rfl hE rfl
             ·intro a w ux189 hE hM hp
              have f12 : ux189 12 = (ptr b7 (0 + (s13.2.2.2).toNat * 4 + (s153.2.2).toNat * 1)):=hp 0 _ rfl rfl
              exact Zx (v:=(vB x200)) hE (lk rfl f12) ty5 rfl (At.vec (At.vec hM.rawAt0 hi196.2) hi199.2) fun a hE=>kq rfl hE rfl
             ·intro a w ux189 hE hM hp
              have f7 : ux189 7 = (vI p0):=hp 0 _ rfl rfl
              have f8 : ux189 8 = (vB x148):=hp 1 _ rfl rfl
              have f13 : ux189 13 = (vB x200):=hp 2 _ rfl rfl
              refine Zv hE (ZU (ZR (lk rfl f7) (ZR (lk rfl f8) (ZR (lk rfl f13) Xf)))) JT (YN _ p0 x148 x200 r202 e203) ?_
              rintro v w a ⟨rfl,hK⟩ hE
              exact ⟨hK,_,_,rfl,hE,rfl⟩
             ·intro a w ux189 hE hM hp
              have f6 : ux189 6 = (vB x194):=hp 0 _ rfl rfl
              have f14 : ux189 14 = (vB r202):=hp 1 _ rfl rfl
              exact Zk hE (lk rfl f6) (lk rfl f14) (VA x194 r202) fun a hE=>kq rfl hE rfl
             ·intro a w ux189 hE hM hp
              have f0 : ux189 0 = (vI s139.2.2):=hp 0 _ rfl rfl
              exact Zm hE rfl (lk rfl f0) Tryz.underlying26 Yh hi204.1 fun a hE=>kq rfl hE rfl
             ·intro a w ux189 hE hM hp
              have f1 : ux189 1 = (vI s153.2.2):=hp 1 _ rfl rfl
              have f16 : ux189 16 = (ptr b7 (0 + (s139.2.2).toNat * 4)):=hp 0 _ rfl rfl
              exact Zm hE (lk rfl f16) (lk rfl f1) Tryz.underlying24 ty5 hi207.1 fun a hE=>kq rfl hE rfl
             ·intro a w ux189 hE hM hg
              have hE:=hE.sub (e':=[(154,(vB (x194 ^^^ r202))),(156,(ptr b7 (0 + (s139.2.2).toNat * 4 + (s153.2.2).toNat * 1))),(0,vI p0),(3,(ptr b1 0)),(5,(ptr b3 0)),(6,(ptr b7 0)),(7,vB r83),(8,vI s13.2.2.2),(14,vI s139.2.2),(15,vB x148),(16,vI s153.2.2)]) ⟨lk rfl (hg 15 (by decide)),lk rfl (hg 17 (by decide)),rfl,rfl,rfl,rfl,rfl,rfl,rfl,rfl,rfl,trivial⟩
              refine Zo (seg:=[(vB (x194 ^^^ r202))]) (cs':=enc (s153.2.1.setIfInBounds (s139.2.2).toNat (x205.setIfInBounds (s153.2.2).toNat (x194 ^^^ r202)))) hE hM Zd rfl rfl rfl ty5 rfl (XX (o':=0 + (s153.2.2).toNat * 1) hi204 (ZH (v:=x205) (x:=x194 ^^^ r202) hi207.1) (by first | omega | (simp only [Flat.n] <;> omega))) (Flat.cell (x194 ^^^ r202 : UInt8)) (YW (o':=0 + (s153.2.2).toNat * 1) hi204 (ZH (v:=x205) (x:=x194 ^^^ r202) hi207.1) (ZA (v:=x205) (x:=x194 ^^^ r202) hi207.1) (by first | omega | (simp only [Flat.n] <;> omega))) fun w a hM hE=>Zj (Z0 (Zy (wp_region_lit (Ze hE rfl fun a hE=>Zk hE rfl rfl rfl fun a hE=>Zb hE rfl fun a hE=>Zj (Zl ?_)))))
              exact ⟨_,(ois hF166),hE.sub ⟨rfl,rfl,rfl,rfl,rfl,rfl,rfl,rfl,rfl,trivial⟩,hM⟩
           ·intro hb163
            have hF159:=Zt hF159 hb163
            refine wp_exit (Zp (Zp (Z1 ?_)))
            obtain rfl:=hx155 _ (ois hF159)
            refine Zl ?_
            exact ⟨hE.sub ⟨rfl,rfl,rfl,rfl,rfl,rfl,rfl,trivial⟩,hM⟩
         ·skip
          rintro a w ⟨hE,hM⟩
          refine Z0 (Zy (wp_region_lit (Ze hE rfl fun a hE=>Zk hE rfl rfl rfl fun a hE=>Zb hE rfl fun a hE=>Zj (Zl ?_))))
          exact ⟨_,(ois hF152),hE.sub ⟨rfl,rfl,rfl,rfl,rfl,rfl,rfl,trivial⟩,hM⟩
        ·intro hb143
         have hs140:=Zt hs140 hb143
         refine wp_exit (Zp (Zp (Z1 ?_)))
         obtain rfl:=hx141 _ (ois hs140)
         refine Zl ?_
         exact ⟨hE.sub ⟨rfl,rfl,rfl,rfl,rfl,rfl,trivial⟩,hM⟩
       ·skip
        rintro a w ⟨hE,hM⟩
        refine Z0 (Zy (wp_region_lit (Ze hE rfl fun a hE=>Zk hE rfl rfl rfl fun a hE=>Zb hE rfl fun a hE=>Zj (Zl ?_))))
        have hM:=hM.pull1.pull2.pull2
        exact ⟨_,(ois hF138),hE.sub ⟨rfl,rfl,rfl,rfl,rfl,rfl,trivial⟩,hM⟩
  ·intro hb17
   have hs14:=Zt hs14 hb17
   refine wp_exit (Zp (Zp (Z1 ?_)))
   obtain rfl:=hx15 _ (ois hs14)
   refine Zl ?_
   have hM:=M.fst (l:=[_,_]) hM.pull1.pull1
   exact ⟨(s13.2.1,s13.2.2.1),rfl,hE.sub ⟨rfl,rfl,rfl,trivial⟩,hM⟩
 ·skip
  rintro a w ⟨s12,ht,hE,hM⟩
  subst ht
  have hF11:=X7 hF11
  refine Zy ?_
  obtain ⟨j213,hl214,hF215⟩:=bind_some hF11
  refine ZI (fun a w=>Env 159 a [(4,vB j213.2),(5,(ptr b3 0))] ∧ M (Old w0) w0 w [raw b3 (enc j213.1)]) ?_ ?_
  ·skip
   refine ZX (n:=159) (hd:=[_,_,_]) (tl:=[_]) Yx rfl rfl [157,158,4] (by decide) (fun w=>M (Old w0) w0 w [raw b7 (enc s12.1),raw b3 (enc (Vector.replicate 4 (Vector.replicate 4 (0 : UInt8))))]) (fun j=>([fun v _=>v = (vB s12.2),fun v _=>v = (Value.agg (enc s12.1).toArray),fun v _=>v = (vB s12.2)] : List (Value → World → Prop)).getD j (fun _ _=>True)) (fun _ _ h hk=>h.keep hk) (gup gu3) hE hM.drew (st3 ?_ ?_ ?_) ?_
   ·exact qm
   ·exact fun a w ux216 hE hM hp=>Zn hE rfl Xc rfl hM.rawAt0 (Flat.len _) fun a hE=>kq rfl hE rfl
   ·intro a w ux216 hE hM hp
    have f0 : ux216 0 = (vB s12.2):=hp 0 _ rfl rfl
    exact Zb hE (lk rfl f0) fun a hE=>kq rfl hE rfl
   ·intro a w ux216 hE hM hg
    have hE:=hE.sub (e':=[(158,(Value.agg (enc s12.1).toArray)),(4,vB s12.2),(5,(ptr b3 0))]) ⟨lk rfl (hg 1 (by decide)),lk rfl (hg 2 (by decide)),rfl,trivial⟩
    have hM:=hM.pull1
    refine Zo (seg:=enc s12.1) (cs':=enc s12.1) hE hM Zd rfl rfl rfl Xc (Flat.len _) (zle flq) (Flat.cell _) (Zr flq) fun w a hM hE=>Zj ?_
    obtain rfl:=Option.some.inj hl214
    refine Zl ?_
    have hM:=M.fst (l:=[_]) hM
    exact ⟨hE.sub ⟨rfl,rfl,trivial⟩,hM⟩
  ·skip
   rintro a w ⟨hE,hM⟩
   obtain rfl:=Option.some.inj hF215
   have hq218 : Yq Tryz.prog _ _ (.cell 5 26) _:=ZQ hE rfl Xc rfl hM.rawAt0 (Flat.len _) rfl
   exact wp_ret (H5 hE rfl (YH hE rfl) hq218 ⟨_,rfl,rfl,hM.kept⟩)
def Vd (p0 : Int) (p1 : (Vector (Vector UInt8 4) 4)) : Option ((Vector (Vector UInt8 4) 4) × Bool) :=
 (Vv p0 p1).bind fun r5=>some (r5.2,r5.1 != 0)
theorem Ho (w0 : World) (p0 : Int) (p1 : (Vector (Vector UInt8 4) 4)) (r : (Vector (Vector UInt8 4) 4) × Bool) (hF : Vd p0 p1 = some r) :
  Calls Tryz.prog 80 [vI p0,(Value.agg (enc p1).toArray)].toArray w0 (Rt w0 (Value.tuple [(Value.agg (enc r.1).toArray),vT r.2].toArray)):=by
 refine ce Tryz.func80 ?_
 intro a hE
 have hM:=M.start w0
 unfold Vd at hF
 refine Za (ZM (cs:=enc p1) hE hM Zd ld rfl rfl fun b1 w a hM hE=>Zz hE hM Xc fun b3 w a hM hE=>Zb hE rfl fun a hE=>Zf (Za (Ze hE rfl fun a hE=>Zn hE rfl Xc rfl hM.rawAt1 (Flat.len _) ?_))); intro a hE
 obtain ⟨r5,e6,hF⟩:=bind_some hF
 refine Zv hE rfl (cbm Tryz.func119) (Bj _ p0 p1 r5 e6) ?_
 rintro v w a ⟨rfl,hK⟩ hE
 have hM:=hM.keep hK
 refine Ze hE rfl fun a hE=>Ux hE Zd ld rfl rfl fun a hE=>Ux hE Zd ld rfl rfl fun a hE=>Zz hE hM Xc fun b7 w a hM hE=>Zb hE rfl fun a hE=>Zo (seg:=enc r5.2) (cs':=enc r5.2) hE hM Zd rfl rfl rfl Xc (Flat.len _) (zle flq) (Flat.cell _) (Zr flq) fun w a hM hE=>Zf (Za (Zn hE rfl Xc rfl hM.rawAt0 (Flat.len _) fun a hE=>Ze hE rfl fun a hE=>Zk hE rfl rfl (Kq r5.1 0) ?_)); intro a hE
 have hM:=hM.pull1
 refine Zo (seg:=enc r5.2) (cs':=enc r5.2) hE hM Zd rfl rfl rfl Xc (Flat.len _) (zle flq) (Flat.cell _) (Zr flq) fun w a hM hE=>Zb hE rfl fun a hE=>Zf ?_
 obtain rfl:=Option.some.inj hF
 have hq9 : Yq Tryz.prog _ _ (.cell 4 26) _:=ZQ hE rfl Xc rfl hM.rawAt0 (Flat.len _) rfl
 exact wp_ret (H5 hE rfl hq9 (YH hE rfl) ⟨_,rfl,rfl,hM.kept⟩)
def Qr (p0 : GCipher) : Option (Bool) :=
 ((Uh p0.Field).bind fun r6=>if (!r6) = true then (some true) else ((Qg p0.Box).bind fun r10=>if (!r10) = true then (some true) else ((UP p0.Places).bind fun r14=>if (!r14) = true then (some true) else ((XN p0.Rounds 1 20).bind fun r18=>some (!r18)))) : Option (Bool)).bind fun j3=>if j3 = true then (some false) else ((Vd p0.Field p0.Mix).bind fun r22=>some r22.2)
theorem yx (w0 : World) (p0 : GCipher) (r : Bool) (hF : Qr p0 = some r) :
  Calls Tryz.prog 31 [(Value.agg (enc p0).toArray)].toArray w0 (Rt w0 (vT r)):=by
 refine ce Tryz.func31 ?_
 intro a hE
 have hM:=M.start w0
 unfold Qr at hF
 refine Za (ZM (cs:=cat [[vI p0.Field],enc p0.Box,enc p0.Mix,enc p0.Places,[vI p0.Rounds]]) hE hM Zd ld rfl rfl fun b1 w a hM hE=>Zb hE rfl fun a hE=>Zf (wp_seq ?_))
 obtain ⟨j3,hl4,hF5⟩:=bind_some hF
 refine ZI (fun a w=>Env 36 a [(1,(ptr b1 0)),(26,vT j3)] ∧ M (Old w0) w0 w [raw b1 (cat [[vI p0.Field],enc p0.Box,enc p0.Mix,enc p0.Places,[vI p0.Rounds]])]) ?_ ?_
 ·skip
  refine wp_region_lit (Zg hE rfl (Kc) fun a hE=>Zx (v:=(vI p0.Field)) hE rfl ty2 rfl (At.cat (pre:=[]) hM.rawAt0 cl0) ?_); intro a hE
  obtain ⟨r6,e7,hl4⟩:=bind_some hl4
  refine Zv hE rfl (cbm Tryz.func76) (BJ _ p0.Field r6 e7) ?_
  rintro v w a ⟨rfl,hK⟩ hE
  have hM:=hM.keep hK
  refine YO hE rfl fun a hE=>Ze hE rfl ?_; intro a hE
  refine Yb (!r6) (fun hb8=>?_) (fun hb8=>?_)
  ·have hl4:=Zu hl4 hb8
   refine Zh hE rfl (lkb rfl hb8) rfl (by decide) fun a hE=>Zh hE rfl (lkb rfl hb8) rfl (by decide) fun a hE=>Zh hE rfl (lkb rfl hb8) rfl (by decide) fun a hE=>Zh hE rfl (lkb rfl hb8) rfl (by decide) fun a hE=>ZG hE (lkb rfl hb8) rfl fun a hE=>Ze hE rfl fun a hE=>Zh hE rfl rfl rfl (by decide) fun a hE=>Zh hE rfl rfl rfl (by decide) fun a hE=>Zh hE rfl rfl rfl (by decide) fun a hE=>Zh hE rfl rfl rfl (by decide) fun a hE=>ZG hE rfl rfl fun a hE=>Ze hE rfl ?_; intro a hE
   refine Zh hE rfl rfl rfl (by decide) fun a hE=>Zh hE rfl rfl rfl (by decide) fun a hE=>Zh hE rfl rfl rfl (by decide) fun a hE=>Zh hE rfl rfl rfl (by decide) fun a hE=>ZG hE rfl rfl fun a hE=>Zj ?_
   obtain rfl:=Option.some.inj hl4
   refine Zl ?_
   exact ⟨hE.sub ⟨rfl,rfl,trivial⟩,hM⟩
  ·have hl4:=Zt hl4 hb8
   refine ZB hE (Zi hE rfl (lkb rfl hb8)) (by decide) rfl (Q9) fun a hE=>TY hE (Zi hE rfl (lkb rfl hb8)) (by decide) rfl Wu rfl (At.cat (pre:=[[vI p0.Field]]) hM.rawAt0 ck) (Flat.len _) ?_; intro a hE
   obtain ⟨r10,e11,hl4⟩:=bind_some hl4
   refine WL hE (Zi hE rfl (lkb rfl hb8)) (by decide) rfl (cbm Tryz.func77) (yP _ p0.Box r10 e11) ?_
   rintro v w a ⟨rfl,hK⟩ hE
   have hM:=hM.keep hK
   refine Jt hE (Zi hE rfl (lkb rfl hb8)) (by decide) rfl fun a hE=>ZL hE (lkb rfl hb8) rfl fun a hE=>Ze hE rfl ?_; intro a hE
   refine Yb (!r10) (fun hb12=>?_) (fun hb12=>?_)
   ·have hl4:=Zu hl4 hb12
    refine Zh hE rfl (lkb rfl hb12) rfl (by decide) fun a hE=>Zh hE rfl (lkb rfl hb12) rfl (by decide) fun a hE=>Zh hE rfl (lkb rfl hb12) rfl (by decide) fun a hE=>Zh hE rfl (lkb rfl hb12) rfl (by decide) fun a hE=>ZG hE (lkb rfl hb12) rfl fun a hE=>Ze hE rfl fun a hE=>Zh hE rfl rfl rfl (by decide) fun a hE=>Zh hE rfl rfl rfl (by decide) fun a hE=>Zh hE rfl rfl rfl (by decide) fun a hE=>Zh hE rfl rfl rfl (by decide) fun a hE=>ZG hE rfl rfl fun a hE=>Zj ?_
    obtain rfl:=Option.some.inj hl4
    refine Zl ?_
    exact ⟨hE.sub ⟨rfl,rfl,trivial⟩,hM⟩
   ·have hl4:=Zt hl4 hb12
    refine ZB hE (Zi hE rfl (lkb rfl hb12)) (by decide) rfl (Kn) fun a hE=>TY hE (Zi hE rfl (lkb rfl hb12)) (by decide) rfl Qz rfl (At.cat (pre:=[[vI p0.Field],enc p0.Box,enc p0.Mix]) hM.rawAt0 ck) (Flat.len _) ?_; intro a hE
    obtain ⟨r14,e15,hl4⟩:=bind_some hl4
    refine WL hE (Zi hE rfl (lkb rfl hb12)) (by decide) rfl (cbm Tryz.func78) (AF _ p0.Places r14 e15) ?_
    rintro v w a ⟨rfl,hK⟩ hE
    have hM:=hM.keep hK
    refine Jt hE (Zi hE rfl (lkb rfl hb12)) (by decide) rfl fun a hE=>ZL hE (lkb rfl hb12) rfl fun a hE=>Ze hE rfl ?_; intro a hE
    refine Yb (!r14) (fun hb16=>?_) (fun hb16=>?_)
    ·have hl4:=Zu hl4 hb16
     refine Zh hE rfl (lkb rfl hb16) rfl (by decide) fun a hE=>Zh hE rfl (lkb rfl hb16) rfl (by decide) fun a hE=>Zh hE rfl (lkb rfl hb16) rfl (by decide) fun a hE=>Zh hE rfl (lkb rfl hb16) rfl (by decide) fun a hE=>ZG hE (lkb rfl hb16) rfl fun a hE=>Zj ?_
     obtain rfl:=Option.some.inj hl4
     refine Zl ?_
     exact ⟨hE.sub ⟨rfl,rfl,trivial⟩,hM⟩
    ·have hl4:=Zt hl4 hb16
     refine ZB hE (Zi hE rfl (lkb rfl hb16)) (by decide) rfl (Jj) fun a hE=>ZY (v:=(vI p0.Rounds)) hE (Zi hE rfl (lkb rfl hb16)) (by decide) rfl ty2 rfl (At.cat (pre:=[[vI p0.Field],enc p0.Box,enc p0.Mix,enc p0.Places]) hM.rawAt0 ck) ?_; intro a hE
     obtain ⟨r18,e19,hl4⟩:=bind_some hl4
     refine WL hE (Zi hE rfl (lkb rfl hb16)) (by decide) rfl cb79 (Ti _ p0.Rounds 1 20 r18 e19) ?_
     rintro v w a ⟨rfl,hK⟩ hE
     have hM:=hM.keep hK
     refine Jt hE (Zi hE rfl (lkb rfl hb16)) (by decide) rfl fun a hE=>ZL hE (lkb rfl hb16) rfl fun a hE=>Zj ?_
     obtain rfl:=Option.some.inj hl4
     refine Zl ?_
     exact ⟨hE.sub ⟨rfl,rfl,trivial⟩,hM⟩
 ·skip
  rintro a w ⟨hE,hM⟩
  refine Zq hE rfl ?_ ?_
  ·intro hb21
   have hF5:=Zu hF5 hb21
   refine Za (Zb hE rfl fun a hE=>Zf ?_)
   obtain rfl:=Option.some.inj hF5
   exact wp_ret (Zs (kr1 hE rfl rfl hM.kept))
  ·intro hb21
   have hF5:=Zt hF5 hb21
   refine wp_skip (Zy (Za (Zg hE rfl (Kc) fun a hE=>Zx (v:=(vI p0.Field)) hE rfl ty2 rfl (At.cat (pre:=[]) hM.rawAt0 cl0) fun a hE=>Zg hE rfl (Kr) fun a hE=>Zn hE rfl Xc rfl (At.cat (pre:=[[vI p0.Field],enc p0.Box]) hM.rawAt0 ck) (Flat.len _) ?_))); intro a hE
   obtain ⟨r22,e23,hF5⟩:=bind_some hF5
   refine Zv hE rfl (cbm Tryz.func80) (Ho _ p0.Field p0.Mix r22 e23) ?_
   rintro v w a ⟨rfl,hK⟩ hE
   have hM:=hM.keep hK
   refine Ze hE rfl fun a hE=>Ux hE Zd ld rfl rfl fun a hE=>Ux hE Zd ld rfl rfl fun a hE=>Zz hE hM Xc fun b24 w a hM hE=>Zo (seg:=enc r22.1) (cs':=enc r22.1) hE hM Zd rfl rfl rfl Xc (Flat.len _) (zle flq) (Flat.cell _) (Zr flq) fun w a hM hE=>Zb hE rfl fun a hE=>Zf (Za (Ze hE rfl fun a hE=>Zb hE rfl fun a hE=>Zf ?_))
   obtain rfl:=Option.some.inj hF5
   exact wp_ret (kr1 hE rfl rfl hM.kept)
def Ue (p0 : GEvent) : Option (Bool) :=
 ((XN p0.Kind 1 4).bind fun r6=>if r6 = true then ((XN p0.Number 0 1000000).bind fun r9=>some r9) else (some false) : Option (Bool)).bind fun j3=>some j3
theorem BL (w0 : World) (p0 : GEvent) (r : Bool) (hF : Ue p0 = some r) :
  Calls Tryz.prog 120 [(Value.agg (enc p0).toArray)].toArray w0 (Rt w0 (vT r)):=by
 refine ce Tryz.func120 ?_
 intro a hE
 have hM:=M.start w0
 unfold Ue at hF
 refine Za (ZM (cs:=cat [[vI p0.Kind],[vI p0.Number],enc p0.Tag]) hE hM Zd ld rfl rfl fun b1 w a hM hE=>Zb hE rfl fun a hE=>Zf ?_)
 obtain ⟨j3,hl4,hF5⟩:=bind_some hF
 refine ZI (fun a w=>Env 11 a [(2,vT j3)] ∧ M (Old w0) w0 w []) ?_ ?_
 ·skip
  refine wp_region_lit (Zg hE rfl (Hv) fun a hE=>Zx (v:=(vI p0.Kind)) hE rfl ty2 rfl (At.cat (pre:=[]) hM.rawAt0 cl0) ?_); intro a hE
  obtain ⟨r6,e7,hl4⟩:=bind_some hl4
  refine Zv hE rfl cb79 (Ti _ p0.Kind 1 4 r6 e7) ?_
  rintro v w a ⟨rfl,hK⟩ hE
  have hM:=hM.keep hK
  refine Ze hE rfl ?_; intro a hE
  refine Yb r6 (fun hb8=>?_) (fun hb8=>?_)
  ·have hl4:=Zu hl4 hb8
   refine ZB hE (Zi hE rfl (lkb rfl hb8)) (by decide) rfl (Hl) fun a hE=>ZY (v:=(vI p0.Number)) hE (Zi hE rfl (lkb rfl hb8)) (by decide) rfl ty2 rfl (At.cat (pre:=[[vI p0.Kind]]) hM.rawAt0 ck) ?_; intro a hE
   obtain ⟨r9,e10,hl4⟩:=bind_some hl4
   refine WL hE (Zi hE rfl (lkb rfl hb8)) (by decide) rfl cb79 (Ti _ p0.Number 0 1000000 r9 e10) ?_
   rintro v w a ⟨rfl,hK⟩ hE
   have hM:=hM.keep hK
   refine ZG hE (lkb rfl hb8) rfl fun a hE=>Zb hE rfl fun a hE=>Zj ?_
   obtain rfl:=Option.some.inj hl4
   refine Zl ?_
   have hM:=M.fst (l:=[]) hM
   exact ⟨hE.sub ⟨rfl,trivial⟩,hM⟩
  ·have hl4:=Zt hl4 hb8
   refine Zh hE rfl (lkb rfl hb8) rfl (by decide) fun a hE=>Zh hE rfl (lkb rfl hb8) rfl (by decide) fun a hE=>Zh hE rfl (lkb rfl hb8) rfl (by decide) fun a hE=>ZL hE (lkb rfl hb8) rfl fun a hE=>Zb hE rfl fun a hE=>Zj ?_
   obtain rfl:=Option.some.inj hl4
   refine Zl ?_
   have hM:=M.fst (l:=[]) hM
   exact ⟨hE.sub ⟨rfl,trivial⟩,hM⟩
 ·skip
  rintro a w ⟨hE,hM⟩
  obtain rfl:=Option.some.inj hF5
  exact wp_ret (kr1 hE rfl rfl hM.kept)
def Uw (p0 : GVault) (s22 : Int × Int) : Option (Fl (Int × Int) (Fl Unit Bool)) :=
 if (decide (s22.2 < (p0.Records.length : Int))) = true then ((idx p0.Records s22.2).bind fun x27=>(if (decide (x27.Number ≤ s22.1)) = true then (some true) else (if (decide (x27.Number ≥ p0.Next)) = true then (some true) else ((XN x27.Version 0 (wr ((p0.Keys.length : Int) - 1))).bind fun r46=>if (!r46) = true then (some true) else (if (decide ((x27.Label.length : Int) > 32)) = true then (some true) else (some (decide ((x27.Body.length : Int) > 200)))))) : Option (Bool)).bind fun j39=>if j39 = true then (some (Fl.ex (Fl.ex false))) else (some (Fl.nx (x27.Number,wr (s22.2 + 1))))) else (some (Fl.ex (Fl.nx ())))
def TG (p0 : GVault) (s60 : Int) : Option (Fl Int (Fl Unit Bool)) :=
 if (decide (s60 < (p0.Events.length : Int))) = true then ((idx p0.Events s60).bind fun x65=>(Ue x65).bind fun r68=>if (!r68) = true then (some (Fl.ex (Fl.ex false))) else (some (Fl.nx (wr (s60 + 1))))) else (some (Fl.ex (Fl.nx ())))
def Qs (p0 : GVault) : Option (Bool) :=
 (if (decide ((p0.Keys.length : Int) < 1)) = true then (some true) else (if (decide ((p0.Keys.length : Int) > 8)) = true then (some true) else ((XN p0.Next 1 1000000).bind fun r10=>if (!r10) = true then (some true) else (if (decide ((p0.Records.length : Int) > 12)) = true then (some true) else (some (decide ((p0.Events.length : Int) > 60)))))) : Option (Bool)).bind fun j3=>if j3 = true then (some false) else ((ZD (Uw p0) (0,0)).bind fun j18=>j18.el (fun s21=>(ZD (TG p0) 0).bind fun j56=>j56.el (fun s59=>some true) (fun r=>some r)) (fun r=>some r))
theorem yo (w0 : World) (p0 : GVault) (v0_1 : Value) (hv0_1 : Ro w0 p0.Keys [v0_1]) (v0_2 : Value) (hv0_2 : Ro w0 p0.Records [v0_2]) (v0_3 : Value) (hv0_3 : Ro w0 p0.Events [v0_3]) (r : Bool) (hF : Qs p0 = some r) :
  Calls Tryz.prog 81 [(Value.agg (cat [[v0_1],[vI p0.Next],[v0_2],[v0_3],enc p0.Head]).toArray)].toArray w0 (Rt w0 (vT r)):=by
 refine ce Tryz.func81 ?_
 intro a hE
 have hM:=M.start w0
 unfold Qs at hF
 refine Za (ZM (cs:=cat [[v0_1],[vI p0.Next],[v0_2],[v0_3],enc p0.Head]) hE hM Zd ld rfl rfl fun b1 w a hM hE=>Zb hE rfl fun a hE=>Zf (wp_seq ?_))
 obtain ⟨j3,hl4,hF5⟩:=bind_some hF
 refine ZI (fun a w=>Env 96 a [(1,(ptr b1 0)),(34,vT j3)] ∧ M (Old w0) w0 w [raw b1 (cat [[v0_1],[vI p0.Next],[v0_2],[v0_3],enc p0.Head])]) ?_ ?_
 ·skip
  refine wp_region_lit (Zg hE rfl (Ks) fun a hE=>Zx (v:=v0_1) hE rfl zl rfl (At.cat (pre:=[]) hM.rawAt0 cl0) fun a hE=>ZZ hE rfl Tryz.underlying33 (hM.rd hv0_1) fun a hE=>Zk hE rfl rfl rfl fun a hE=>Ze hE rfl ?_); intro a hE
  refine Yb (decide ((p0.Keys.length : Int) < 1)) (fun hb6=>?_) (fun hb6=>?_)
  ·have hl4:=Zu hl4 hb6
   refine Zh hE rfl (lkb rfl hb6) rfl (by decide) fun a hE=>Zh hE rfl (lkb rfl hb6) rfl (by decide) fun a hE=>Zh hE rfl (lkb rfl hb6) rfl (by decide) fun a hE=>Zh hE rfl (lkb rfl hb6) rfl (by decide) fun a hE=>ZG hE (lkb rfl hb6) rfl fun a hE=>Ze hE rfl fun a hE=>Zh hE rfl rfl rfl (by decide) fun a hE=>Zh hE rfl rfl rfl (by decide) fun a hE=>Zh hE rfl rfl rfl (by decide) fun a hE=>Zh hE rfl rfl rfl (by decide) fun a hE=>ZG hE rfl rfl fun a hE=>Ze hE rfl ?_; intro a hE
   refine Zh hE rfl rfl rfl (by decide) fun a hE=>Zh hE rfl rfl rfl (by decide) fun a hE=>Zh hE rfl rfl rfl (by decide) fun a hE=>Zh hE rfl rfl rfl (by decide) fun a hE=>ZG hE rfl rfl fun a hE=>Ze hE rfl fun a hE=>Zh hE rfl rfl rfl (by decide) fun a hE=>Zh hE rfl rfl rfl (by decide) fun a hE=>Zh hE rfl rfl rfl (by decide) fun a hE=>Zh hE rfl rfl rfl (by decide) fun a hE=>ZG hE rfl rfl fun a hE=>Zj ?_
   obtain rfl:=Option.some.inj hl4
   refine Zl ?_
   exact ⟨hE.sub ⟨rfl,rfl,trivial⟩,hM⟩
  ·have hl4:=Zt hl4 hb6
   refine ZB hE (Zi hE rfl (lkb rfl hb6)) (by decide) rfl (Ks) fun a hE=>ZY (v:=v0_1) hE (Zi hE rfl (lkb rfl hb6)) (by decide) rfl zl rfl (At.cat (pre:=[]) hM.rawAt0 cl0) fun a hE=>TQ hE (Zi hE rfl (lkb rfl hb6)) (by decide) rfl Tryz.underlying33 (hM.rd hv0_1) fun a hE=>Wa hE (Zi hE rfl (lkb rfl hb6)) (by decide) rfl rfl rfl fun a hE=>ZL hE (lkb rfl hb6) rfl fun a hE=>Ze hE rfl ?_; intro a hE
   refine Yb (decide ((p0.Keys.length : Int) > 8)) (fun hb8=>?_) (fun hb8=>?_)
   ·have hl4:=Zu hl4 hb8
    refine Zh hE rfl (lkb rfl hb8) rfl (by decide) fun a hE=>Zh hE rfl (lkb rfl hb8) rfl (by decide) fun a hE=>Zh hE rfl (lkb rfl hb8) rfl (by decide) fun a hE=>Zh hE rfl (lkb rfl hb8) rfl (by decide) fun a hE=>ZG hE (lkb rfl hb8) rfl fun a hE=>Ze hE rfl fun a hE=>Zh hE rfl rfl rfl (by decide) fun a hE=>Zh hE rfl rfl rfl (by decide) fun a hE=>Zh hE rfl rfl rfl (by decide) fun a hE=>Zh hE rfl rfl rfl (by decide) fun a hE=>ZG hE rfl rfl fun a hE=>Ze hE rfl ?_; intro a hE
    refine Zh hE rfl rfl rfl (by decide) fun a hE=>Zh hE rfl rfl rfl (by decide) fun a hE=>Zh hE rfl rfl rfl (by decide) fun a hE=>Zh hE rfl rfl rfl (by decide) fun a hE=>ZG hE rfl rfl fun a hE=>Zj ?_
    obtain rfl:=Option.some.inj hl4
    refine Zl ?_
    exact ⟨hE.sub ⟨rfl,rfl,trivial⟩,hM⟩
   ·have hl4:=Zt hl4 hb8
    refine ZB hE (Zi hE rfl (lkb rfl hb8)) (by decide) rfl (K1) fun a hE=>ZY (v:=(vI p0.Next)) hE (Zi hE rfl (lkb rfl hb8)) (by decide) rfl ty2 rfl (At.cat (pre:=[[v0_1]]) hM.rawAt0 ck) ?_; intro a hE
    obtain ⟨r10,e11,hl4⟩:=bind_some hl4
    refine WL hE (Zi hE rfl (lkb rfl hb8)) (by decide) rfl cb79 (Ti _ p0.Next 1 1000000 r10 e11) ?_
    rintro v w a ⟨rfl,hK⟩ hE
    have hM:=hM.keep hK
    refine Jt hE (Zi hE rfl (lkb rfl hb8)) (by decide) rfl fun a hE=>ZL hE (lkb rfl hb8) rfl fun a hE=>Ze hE rfl ?_; intro a hE
    refine Yb (!r10) (fun hb12=>?_) (fun hb12=>?_)
    ·have hl4:=Zu hl4 hb12
     refine Zh hE rfl (lkb rfl hb12) rfl (by decide) fun a hE=>Zh hE rfl (lkb rfl hb12) rfl (by decide) fun a hE=>Zh hE rfl (lkb rfl hb12) rfl (by decide) fun a hE=>Zh hE rfl (lkb rfl hb12) rfl (by decide) fun a hE=>ZG hE (lkb rfl hb12) rfl fun a hE=>Ze hE rfl fun a hE=>Zh hE rfl rfl rfl (by decide) fun a hE=>Zh hE rfl rfl rfl (by decide) fun a hE=>Zh hE rfl rfl rfl (by decide) fun a hE=>Zh hE rfl rfl rfl (by decide) fun a hE=>ZG hE rfl rfl fun a hE=>Zj ?_
     obtain rfl:=Option.some.inj hl4
     refine Zl ?_
     exact ⟨hE.sub ⟨rfl,rfl,trivial⟩,hM⟩
    ·have hl4:=Zt hl4 hb12
     refine ZB hE (Zi hE rfl (lkb rfl hb12)) (by decide) rfl (KP) fun a hE=>ZY (v:=v0_2) hE (Zi hE rfl (lkb rfl hb12)) (by decide) rfl zO rfl (At.cat (pre:=[[v0_1],[vI p0.Next]]) hM.rawAt0 ck) fun a hE=>TQ hE (Zi hE rfl (lkb rfl hb12)) (by decide) rfl Tryz.underlying34 (hM.rd hv0_2) fun a hE=>Wa hE (Zi hE rfl (lkb rfl hb12)) (by decide) rfl rfl rfl fun a hE=>ZL hE (lkb rfl hb12) rfl fun a hE=>Ze hE rfl ?_; intro a hE
     refine Yb (decide ((p0.Records.length : Int) > 12)) (fun hb14=>?_) (fun hb14=>?_)
     ·have hl4:=Zu hl4 hb14
      refine Zh hE rfl (lkb rfl hb14) rfl (by decide) fun a hE=>Zh hE rfl (lkb rfl hb14) rfl (by decide) fun a hE=>Zh hE rfl (lkb rfl hb14) rfl (by decide) fun a hE=>Zh hE rfl (lkb rfl hb14) rfl (by decide) fun a hE=>ZG hE (lkb rfl hb14) rfl fun a hE=>Zj ?_
      obtain rfl:=Option.some.inj hl4
      refine Zl ?_
      exact ⟨hE.sub ⟨rfl,rfl,trivial⟩,hM⟩
     ·have hl4:=Zt hl4 hb14
      refine ZB hE (Zi hE rfl (lkb rfl hb14)) (by decide) rfl (Ju) fun a hE=>ZY (v:=v0_3) hE (Zi hE rfl (lkb rfl hb14)) (by decide) rfl yS rfl (At.cat (pre:=[[v0_1],[vI p0.Next],[v0_2]]) hM.rawAt0 ck) fun a hE=>TQ hE (Zi hE rfl (lkb rfl hb14)) (by decide) rfl Tryz.underlying35 (hM.rd hv0_3) fun a hE=>Wa hE (Zi hE rfl (lkb rfl hb14)) (by decide) rfl rfl rfl fun a hE=>ZL hE (lkb rfl hb14) rfl fun a hE=>Zj ?_
      obtain rfl:=Option.some.inj hl4
      refine Zl ?_
      exact ⟨hE.sub ⟨rfl,rfl,trivial⟩,hM⟩
 ·skip
  rintro a w ⟨hE,hM⟩
  refine Zq hE rfl ?_ ?_
  ·intro hb17
   have hF5:=Zu hF5 hb17
   refine Za (Zb hE rfl fun a hE=>Zf ?_)
   obtain rfl:=Option.some.inj hF5
   exact wp_ret (Zs (kr1 hE rfl rfl hM.kept))
  ·intro hb17
   have hF5:=Zt hF5 hb17
   refine wp_skip (Zy (Za (Zb hE rfl fun a hE=>Zf (wp_seq (Za (Zb hE rfl fun a hE=>Zf ?_))))))
   obtain ⟨j18,hl19,hF20⟩:=bind_some hF5
   refine ZJ (fun a w=>∃ s21 : Unit,j18 = Fl.nx s21 ∧ Env 96 a [(1,(ptr b1 0))] ∧ M (Old w0) w0 w [raw b1 (cat [[v0_1],[vI p0.Next],[v0_2],[v0_3],enc p0.Head])]) ?_ ?_
   ·skip
    refine wp_block ?_
    refine ZE (fun (s22 : Int × Int) a w=>Env 96 a [(1,(ptr b1 0)),(3,vI s22.1),(4,vI s22.2)] ∧ M (Old w0) w0 w [raw b1 (cat [[v0_1],[vI p0.Next],[v0_2],[v0_3],enc p0.Head])]) hl19 ⟨hE.sub ⟨rfl,rfl,rfl,trivial⟩,hM⟩ ?_
    rintro s22 a w ⟨hE,hM⟩ o25 hs23 hx24
    unfold Uw at hs23
    refine wp_seq (Za (Ze hE rfl fun a hE=>Zg hE rfl (KP) fun a hE=>Zx (v:=v0_2) hE rfl zO rfl (At.cat (pre:=[[v0_1],[vI p0.Next]]) hM.rawAt0 ck) fun a hE=>ZZ hE rfl Tryz.underlying34 (hM.rd hv0_2) fun a hE=>Zk hE rfl rfl rfl fun a hE=>Zf ?_))
    refine Zq hE rfl ?_ ?_
    ·intro hb26
     have hs23:=Zu hs23 hb26
     refine wp_skip (Zy (wp_seq (wp_block (Za (Zg hE rfl (KP) fun a hE=>Zx (v:=v0_2) hE rfl zO rfl (At.cat (pre:=[[v0_1],[vI p0.Next]]) hM.rawAt0 ck) fun a hE=>Ze hE rfl ?_))))); intro a hE
     obtain ⟨x27,hi29,hs23⟩:=bix hs23
     refine ZK hE rfl rfl Tryz.underlying34 Vx (hM.rd hv0_2) hi29.1 ?_; intro a hE
     obtain ⟨cs30,hs31,hA32⟩:=Vl hv0_2 hi29.2 -- ^
     obtain ⟨u33,u35,rfl,h34,h36⟩:=T2 hs31 -- ^
     refine Zn hE rfl Vx rfl (hM.atk hA32 (VY hv0_2 hi29.2)) cq fun a hE=>Zz hE hM Vx fun b37 w a hM hE=>Zo (seg:=cat [[vI x27.Number],[vI x27.Version],enc x27.Nonce,[u33],[u35],enc x27.Tag]) (cs':=cat [[vI x27.Number],[vI x27.Version],enc x27.Nonce,[u33],[u35],enc x27.Tag]) hE hM Zd rfl rfl rfl Vx cq (Nat.le_of_eq ((Nat.zero_add _).trans (Eq.trans cq (Eq.symm cq)))) (Yt (cc1 (Flat.cell (x27.Number : Int)) (cc1 (Flat.cell (x27.Version : Int)) (cc1 (Flat.cell _) (cc1 (Rep.cell (hM.rd h34)) (cc1 (Rep.cell (hM.rd h36)) (cc1 (Flat.cell _) cc0))))))) (Zr (Eq.trans cq (Eq.symm cq))) fun w a hM hE=>Zf (wp_seq ?_)
     obtain ⟨j39,hl40,hF41⟩:=bind_some hs23
     refine ZI (fun a w=>Env 96 a [(1,(ptr b1 0)),(4,vI s22.2),(5,(ptr b37 0)),(79,vT j39)] ∧ M (Old w0) w0 w [raw b37 (cat [[vI x27.Number],[vI x27.Version],enc x27.Nonce,[u33],[u35],enc x27.Tag]),raw b1 (cat [[v0_1],[vI p0.Next],[v0_2],[v0_3],enc p0.Head])]) ?_ ?_
     ·skip
      refine wp_region_lit (Zg hE rfl (Qi) fun a hE=>Zx (v:=(vI x27.Number)) hE rfl ty2 rfl (At.cat (pre:=[]) hM.rawAt0 cl0) fun a hE=>Ze hE rfl fun a hE=>Zk hE rfl rfl rfl fun a hE=>Ze hE rfl ?_); intro a hE
      refine Yb (decide (x27.Number ≤ s22.1)) (fun hb42=>?_) (fun hb42=>?_)
      ·have hl40:=Zu hl40 hb42
       refine Zh hE rfl (lkb rfl hb42) rfl (by decide) fun a hE=>Zh hE rfl (lkb rfl hb42) rfl (by decide) fun a hE=>Zh hE rfl (lkb rfl hb42) rfl (by decide) fun a hE=>Zh hE rfl (lkb rfl hb42) rfl (by decide) fun a hE=>Zh hE rfl (lkb rfl hb42) rfl (by decide) fun a hE=>ZG hE (lkb rfl hb42) rfl fun a hE=>Ze hE rfl fun a hE=>Zh hE rfl rfl rfl (by decide) fun a hE=>Zh hE rfl rfl rfl (by decide) fun a hE=>Zh hE rfl rfl rfl (by decide) fun a hE=>Zh hE rfl rfl rfl (by decide) fun a hE=>Zh hE rfl rfl rfl (by decide) ?_; intro a hE
       refine Zh hE rfl rfl rfl (by decide) fun a hE=>Zh hE rfl rfl rfl (by decide) fun a hE=>Zh hE rfl rfl rfl (by decide) fun a hE=>ZG hE rfl rfl fun a hE=>Ze hE rfl fun a hE=>Zh hE rfl rfl rfl (by decide) fun a hE=>Zh hE rfl rfl rfl (by decide) fun a hE=>Zh hE rfl rfl rfl (by decide) fun a hE=>Zh hE rfl rfl rfl (by decide) fun a hE=>ZG hE rfl rfl fun a hE=>Ze hE rfl fun a hE=>Zh hE rfl rfl rfl (by decide) ?_; intro a hE
       refine Zh hE rfl rfl rfl (by decide) fun a hE=>Zh hE rfl rfl rfl (by decide) fun a hE=>Zh hE rfl rfl rfl (by decide) fun a hE=>ZG hE rfl rfl fun a hE=>Zj ?_
       obtain rfl:=Option.some.inj hl40
       refine Zl ?_
       exact ⟨hE.sub ⟨rfl,rfl,rfl,rfl,trivial⟩,hM⟩
      ·have hl40:=Zt hl40 hb42
       refine ZB hE (Zi hE rfl (lkb rfl hb42)) (by decide) rfl (Qi) fun a hE=>ZY (v:=(vI x27.Number)) hE (Zi hE rfl (lkb rfl hb42)) (by decide) rfl ty2 rfl (At.cat (pre:=[]) hM.rawAt0 cl0) fun a hE=>ZB hE (Zi hE rfl (lkb rfl hb42)) (by decide) rfl (K1) fun a hE=>ZY (v:=(vI p0.Next)) hE (Zi hE rfl (lkb rfl hb42)) (by decide) rfl ty2 rfl (At.cat (pre:=[[v0_1]]) hM.rawAt1 ck) fun a hE=>Wa hE (Zi hE rfl (lkb rfl hb42)) (by decide) rfl rfl rfl fun a hE=>ZL hE (lkb rfl hb42) rfl fun a hE=>Ze hE rfl ?_; intro a hE
       refine Yb (decide (x27.Number ≥ p0.Next)) (fun hb44=>?_) (fun hb44=>?_)
       ·have hl40:=Zu hl40 hb44
        refine Zh hE rfl (lkb rfl hb44) rfl (by decide) fun a hE=>Zh hE rfl (lkb rfl hb44) rfl (by decide) fun a hE=>Zh hE rfl (lkb rfl hb44) rfl (by decide) fun a hE=>Zh hE rfl (lkb rfl hb44) rfl (by decide) fun a hE=>Zh hE rfl (lkb rfl hb44) rfl (by decide) fun a hE=>Zh hE rfl (lkb rfl hb44) rfl (by decide) fun a hE=>Zh hE rfl (lkb rfl hb44) rfl (by decide) fun a hE=>Zh hE rfl (lkb rfl hb44) rfl (by decide) fun a hE=>ZG hE (lkb rfl hb44) rfl fun a hE=>Ze hE rfl fun a hE=>Zh hE rfl rfl rfl (by decide) fun a hE=>Zh hE rfl rfl rfl (by decide) ?_; intro a hE
        refine Zh hE rfl rfl rfl (by decide) fun a hE=>Zh hE rfl rfl rfl (by decide) fun a hE=>ZG hE rfl rfl fun a hE=>Ze hE rfl fun a hE=>Zh hE rfl rfl rfl (by decide) fun a hE=>Zh hE rfl rfl rfl (by decide) fun a hE=>Zh hE rfl rfl rfl (by decide) fun a hE=>Zh hE rfl rfl rfl (by decide) fun a hE=>ZG hE rfl rfl fun a hE=>Zj ?_
        obtain rfl:=Option.some.inj hl40
        refine Zl ?_
        exact ⟨hE.sub ⟨rfl,rfl,rfl,rfl,trivial⟩,hM⟩
       ·have hl40:=Zt hl40 hb44
        refine ZB hE (Zi hE rfl (lkb rfl hb44)) (by decide) rfl (KK) fun a hE=>ZY (v:=(vI x27.Version)) hE (Zi hE rfl (lkb rfl hb44)) (by decide) rfl ty2 rfl (At.cat (pre:=[[vI x27.Number]]) hM.rawAt0 ck) fun a hE=>ZB hE (Zi hE rfl (lkb rfl hb44)) (by decide) rfl (Ks) fun a hE=>ZY (v:=v0_1) hE (Zi hE rfl (lkb rfl hb44)) (by decide) rfl zl rfl (At.cat (pre:=[]) hM.rawAt1 cl0) fun a hE=>TQ hE (Zi hE rfl (lkb rfl hb44)) (by decide) rfl Tryz.underlying33 (hM.rd hv0_1) fun a hE=>Wa hE (Zi hE rfl (lkb rfl hb44)) (by decide) rfl rfl rfl ?_; intro a hE
        obtain ⟨r46,e47,hl40⟩:=bind_some hl40
        refine WL hE (Zi hE rfl (lkb rfl hb44)) (by decide) rfl cb79 (Ti _ x27.Version 0 (wr ((p0.Keys.length : Int) - 1)) r46 e47) ?_
        rintro v w a ⟨rfl,hK⟩ hE
        have hM:=hM.keep hK
        refine Jt hE (Zi hE rfl (lkb rfl hb44)) (by decide) rfl fun a hE=>ZL hE (lkb rfl hb44) rfl fun a hE=>Ze hE rfl ?_; intro a hE
        refine Yb (!r46) (fun hb48=>?_) (fun hb48=>?_)
        ·have hl40:=Zu hl40 hb48
         refine Zh hE rfl (lkb rfl hb48) rfl (by decide) fun a hE=>Zh hE rfl (lkb rfl hb48) rfl (by decide) fun a hE=>Zh hE rfl (lkb rfl hb48) rfl (by decide) fun a hE=>Zh hE rfl (lkb rfl hb48) rfl (by decide) fun a hE=>ZG hE (lkb rfl hb48) rfl fun a hE=>Ze hE rfl fun a hE=>Zh hE rfl rfl rfl (by decide) fun a hE=>Zh hE rfl rfl rfl (by decide) fun a hE=>Zh hE rfl rfl rfl (by decide) fun a hE=>Zh hE rfl rfl rfl (by decide) fun a hE=>ZG hE rfl rfl fun a hE=>Zj ?_
         obtain rfl:=Option.some.inj hl40
         refine Zl ?_
         exact ⟨hE.sub ⟨rfl,rfl,rfl,rfl,trivial⟩,hM⟩
        ·have hl40:=Zt hl40 hb48
         refine ZB hE (Zi hE rfl (lkb rfl hb48)) (by decide) rfl (JJ) fun a hE=>ZY (v:=u33) hE (Zi hE rfl (lkb rfl hb48)) (by decide) rfl XB rfl (At.cat (pre:=[[vI x27.Number],[vI x27.Version],enc x27.Nonce]) hM.rawAt0 ck) fun a hE=>TQ hE (Zi hE rfl (lkb rfl hb48)) (by decide) rfl Tryz.underlying32 (hM.rd h34) fun a hE=>Wa hE (Zi hE rfl (lkb rfl hb48)) (by decide) rfl rfl rfl fun a hE=>ZL hE (lkb rfl hb48) rfl fun a hE=>Ze hE rfl ?_; intro a hE
         refine Yb (decide ((x27.Label.length : Int) > 32)) (fun hb50=>?_) (fun hb50=>?_)
         ·have hl40:=Zu hl40 hb50
          refine Zh hE rfl (lkb rfl hb50) rfl (by decide) fun a hE=>Zh hE rfl (lkb rfl hb50) rfl (by decide) fun a hE=>Zh hE rfl (lkb rfl hb50) rfl (by decide) fun a hE=>Zh hE rfl (lkb rfl hb50) rfl (by decide) fun a hE=>ZG hE (lkb rfl hb50) rfl fun a hE=>Zj ?_
          obtain rfl:=Option.some.inj hl40
          refine Zl ?_
          exact ⟨hE.sub ⟨rfl,rfl,rfl,rfl,trivial⟩,hM⟩
         ·have hl40:=Zt hl40 hb50
          refine ZB hE (Zi hE rfl (lkb rfl hb50)) (by decide) rfl (HK) fun a hE=>ZY (v:=u35) hE (Zi hE rfl (lkb rfl hb50)) (by decide) rfl XB rfl (At.cat (pre:=[[vI x27.Number],[vI x27.Version],enc x27.Nonce,[u33]]) hM.rawAt0 ck) fun a hE=>TQ hE (Zi hE rfl (lkb rfl hb50)) (by decide) rfl Tryz.underlying32 (hM.rd h36) fun a hE=>Wa hE (Zi hE rfl (lkb rfl hb50)) (by decide) rfl rfl rfl fun a hE=>ZL hE (lkb rfl hb50) rfl fun a hE=>Zj ?_
          obtain rfl:=Option.some.inj hl40
          refine Zl ?_
          exact ⟨hE.sub ⟨rfl,rfl,rfl,rfl,trivial⟩,hM⟩
     ·skip
      rintro a w ⟨hE,hM⟩
      refine Zq hE rfl ?_ ?_
      ·intro hb53
       have hF41:=Zu hF41 hb53
       refine Za (Zb hE rfl fun a hE=>Zf ?_)
       obtain rfl:=hx24 _ (ois hF41)
       obtain rfl:=Option.some.inj hF20
       exact wp_ret (Zs (Z4 (Zs (Zs (Z4 (Zs (Zs (kr1 hE rfl rfl hM.kept))))))))
      ·intro hb53
       have hF41:=Zt hF41 hb53
       refine wp_skip (Zy (wp_region_lit (Zg hE rfl (Qi) fun a hE=>Zx (v:=(vI x27.Number)) hE rfl ty2 rfl (At.cat (pre:=[]) hM.rawAt0 cl0) fun a hE=>Zb hE rfl fun a hE=>Zj (Z0 (Zy (wp_region_lit (Ze hE rfl fun a hE=>Zk hE rfl rfl rfl fun a hE=>Zb hE rfl fun a hE=>Zj (Zl ?_))))))))
       have hM:=M.fst (l:=[_]) hM.pull1
       exact ⟨_,(ois hF41),hE.sub ⟨rfl,rfl,rfl,trivial⟩,hM⟩
    ·intro hb26
     have hs23:=Zt hs23 hb26
     refine wp_exit (Zp (Zp (Z1 ?_)))
     obtain rfl:=hx24 _ (ois hs23)
     refine Zl ?_
     exact ⟨(),rfl,hE.sub ⟨rfl,trivial⟩,hM⟩
   ·skip
    rintro a w ⟨s21,ht,hE,hM⟩
    subst ht
    have hF20:=X7 hF20
    refine Zy (wp_seq (Za (Zb hE rfl fun a hE=>Zf ?_)))
    obtain ⟨j56,hl57,hF58⟩:=bind_some hF20
    refine ZJ (fun a w=>∃ s59 : Unit,j56 = Fl.nx s59 ∧ Env 96 a [] ∧ M (Old w0) w0 w []) ?_ ?_
    ·skip
     refine wp_block ?_
     refine ZE (fun (s60 : Int) a w=>Env 96 a [(1,(ptr b1 0)),(6,vI s60)] ∧ M (Old w0) w0 w [raw b1 (cat [[v0_1],[vI p0.Next],[v0_2],[v0_3],enc p0.Head])]) hl57 ⟨hE.sub ⟨rfl,rfl,trivial⟩,hM⟩ ?_
     rintro s60 a w ⟨hE,hM⟩ o63 hs61 hx62
     unfold TG at hs61
     refine wp_seq (Za (Ze hE rfl fun a hE=>Zg hE rfl (Ju) fun a hE=>Zx (v:=v0_3) hE rfl yS rfl (At.cat (pre:=[[v0_1],[vI p0.Next],[v0_2]]) hM.rawAt0 ck) fun a hE=>ZZ hE rfl Tryz.underlying35 (hM.rd hv0_3) fun a hE=>Zk hE rfl rfl rfl fun a hE=>Zf ?_))
     refine Zq hE rfl ?_ ?_
     ·intro hb64
      have hs61:=Zu hs61 hb64
      refine wp_skip (Zy (wp_seq (wp_block (Za (Zg hE rfl (Ju) fun a hE=>Zx (v:=v0_3) hE rfl yS rfl (At.cat (pre:=[[v0_1],[vI p0.Next],[v0_2]]) hM.rawAt0 ck) fun a hE=>Ze hE rfl ?_))))); intro a hE
      obtain ⟨x65,hi67,hs61⟩:=bix hs61
      refine ZK hE rfl rfl Tryz.underlying35 T6 (hM.rd hv0_3) hi67.1 fun a hE=>Zn hE rfl T6 rfl (Ys (hM.rd hv0_3) hi67.2) cq ?_; intro a hE
      obtain ⟨r68,e69,hs61⟩:=bind_some hs61
      refine Zv hE rfl (cbm Tryz.func120) (BL _ x65 r68 e69) ?_
      rintro v w a ⟨rfl,hK⟩ hE
      have hM:=hM.keep hK
      refine YO hE rfl fun a hE=>Zf ?_
      refine Zq hE rfl ?_ ?_
      ·intro hb70
       have hs61:=Zu hs61 hb70
       refine Za (Zb hE rfl fun a hE=>Zf ?_)
       obtain rfl:=hx62 _ (ois hs61)
       obtain rfl:=Option.some.inj hF58
       exact wp_ret (Z4 (Zs (Zs (Z4 (Zs (Zs (kr1 hE rfl rfl hM.kept)))))))
      ·intro hb70
       have hs61:=Zt hs61 hb70
       refine wp_skip (Z0 (Zy (wp_region_lit (Ze hE rfl fun a hE=>Zk hE rfl rfl rfl fun a hE=>Zb hE rfl fun a hE=>Zj (Zl ?_)))))
       exact ⟨_,(ois hs61),hE.sub ⟨rfl,rfl,trivial⟩,hM⟩
     ·intro hb64
      have hs61:=Zt hs61 hb64
      refine wp_exit (Zp (Zp (Z1 ?_)))
      obtain rfl:=hx62 _ (ois hs61)
      refine Zl ?_
      have hM:=M.fst (l:=[]) hM
      exact ⟨(),rfl,hE.sub trivial,hM⟩
    ·skip
     rintro a w ⟨s59,ht,hE,hM⟩
     subst ht
     have hF58:=X7 hF58
     refine Zy (Za (Zb hE rfl fun a hE=>Zf ?_))
     obtain rfl:=Option.some.inj hF58
     exact wp_ret (kr1 hE rfl rfl hM.kept)
def Ta (p0 : GVault) : Option (Bool) :=
 (Qs p0).bind fun r3=>some r3
theorem AR (w0 : World) (p0 : GVault) (v0_1 : Value) (hv0_1 : Ro w0 p0.Keys [v0_1]) (v0_2 : Value) (hv0_2 : Ro w0 p0.Records [v0_2]) (v0_3 : Value) (hv0_3 : Ro w0 p0.Events [v0_3]) (r : Bool) (hF : Ta p0 = some r) :
  Calls Tryz.prog 32 [(Value.agg (cat [[v0_1],[vI p0.Next],[v0_2],[v0_3],enc p0.Head]).toArray)].toArray w0 (Rt w0 (vT r)):=by
 refine ce Tryz.func32 ?_
 intro a hE
 have hM:=M.start w0
 unfold Ta at hF
 refine Za (ZM (cs:=cat [[v0_1],[vI p0.Next],[v0_2],[v0_3],enc p0.Head]) hE hM Zd ld rfl rfl fun b1 w a hM hE=>Zb hE rfl fun a hE=>Zf (Za (Zn hE rfl K9 rfl hM.rawAt0 cq ?_))); intro a hE
 obtain ⟨r3,e4,hF⟩:=bind_some hF
 refine Zv hE rfl (cbm Tryz.func81) (yo _ p0 v0_1 (hM.rdo hv0_1) v0_2 (hM.rdo hv0_2) v0_3 (hM.rdo hv0_3) r3 e4) ?_
 rintro v w a ⟨rfl,hK⟩ hE
 have hM:=hM.keep hK
 refine Zb hE rfl fun a hE=>Zf ?_
 obtain rfl:=Option.some.inj hF
 exact wp_ret (kr1 hE rfl rfl hM.kept)
def Wj (p0 : (Vector UInt8 32)) (p1 : (Vector UInt8 32)) (s9 : Int) : Option (Fl Int (Fl Unit Bool)) :=
 if (decide (s9 < 32)) = true then (((ZC p0 s9).bind fun x19=>(ZC p1 s9).bind fun x22=>some (x19 != x22) : Option (Bool)).bind fun j14=>if j14 = true then (((ZC p0 s9).bind fun x31=>(ZC p1 s9).bind fun x34=>some (decide (x31 < x34)) : Option (Bool)).bind fun j26=>some (Fl.ex (Fl.ex j26))) else (some (Fl.nx (wr (s9 + 1))))) else (some (Fl.ex (Fl.nx ())))
def VG (p0 : (Vector UInt8 32)) (p1 : (Vector UInt8 32)) : Option (Bool) :=
 (ZD (Wj p0 p1) 0).bind fun j5=>j5.el (fun s8=>some false) (fun r=>some r)
theorem AU (w0 : World) (p0 : (Vector UInt8 32)) (p1 : (Vector UInt8 32)) (r : Bool) (hF : VG p0 p1 = some r) :
  Calls Tryz.prog 121 [(Value.agg (enc p0).toArray),(Value.agg (enc p1).toArray)].toArray w0 (Rt w0 (vT r)):=by
 refine ce Tryz.func121 ?_
 intro a hE
 have hM:=M.start w0
 unfold VG at hF
 refine Za (ZM (cs:=enc p0) hE hM Zd ld rfl rfl fun b1 w a hM hE=>ZM (cs:=enc p1) hE hM Zd ld rfl rfl fun b3 w a hM hE=>Zb hE rfl fun a hE=>Zf (wp_seq (Za (Zb hE rfl fun a hE=>Zf ?_))))
 obtain ⟨j5,hl6,hF7⟩:=bind_some hF
 refine ZJ (fun a w=>∃ s8 : Unit,j5 = Fl.nx s8 ∧ Env 24 a [] ∧ M (Old w0) w0 w []) ?_ ?_
 ·skip
  refine wp_block ?_
  refine ZE (fun (s9 : Int) a w=>Env 24 a [(2,(ptr b1 0)),(3,(ptr b3 0)),(5,vI s9)] ∧ M (Old w0) w0 w [raw b3 (enc p1),raw b1 (enc p0)]) hl6 ⟨hE.sub ⟨rfl,rfl,rfl,trivial⟩,hM⟩ ?_
  rintro s9 a w ⟨hE,hM⟩ o12 hs10 hx11
  unfold Wj at hs10
  refine wp_seq (Za (Ze hE rfl fun a hE=>Zk hE rfl rfl rfl fun a hE=>Zf ?_))
  refine Zq hE rfl ?_ ?_
  ·intro hb13
   have hs10:=Zu hs10 hb13
   refine wp_skip (Zy (wp_seq (wp_block ?_)))
   obtain ⟨j14,hl15,hF16⟩:=bind_some hs10
   refine ZI (fun a w=>Env 24 a [(2,(ptr b1 0)),(3,(ptr b3 0)),(5,vI s9),(16,vT j14)] ∧ M (Old w0) w0 w [raw b3 (enc p1),raw b1 (enc p0)]) ?_ ?_
   ·skip
    obtain ⟨x19,hi18,hl15⟩:=bvx hl15
    obtain ⟨x22,hi21,hl15⟩:=bvx hl15
    refine ZX (n:=24) (hd:=[_,_,_,_,_,_,_]) (tl:=[]) Yx rfl rfl [10,11,12,13,14,15,16] (by decide) (fun w=>M (Old w0) w0 w [raw b3 (enc p1),raw b1 (enc p0)]) (fun j=>([fun v _=>v = (vI s9),fun v _=>v = (ptr b1 (0 + (s9).toNat * 1)),fun v _=>v = (vB x19),fun v _=>v = (vI s9),fun v _=>v = (ptr b3 (0 + (s9).toNat * 1)),fun v _=>v = (vB x22),fun v _=>v = (vT (x19 != x22))] : List (Value → World → Prop)).getD j (fun _ _=>True)) (fun _ _ h hk=>h.keep hk) (gup gu7) hE hM.drew (st7 ?_ ?_ ?_ ?_ ?_ ?_ ?_) ?_
    ·exact qm
    ·intro a w ux17 hE hM hp
     have f0 : ux17 0 = (vI s9):=hp 0 _ rfl rfl
     exact Zm hE rfl (lk rfl f0) Tryz.underlying37 ty5 hi18.1 fun a hE=>kq rfl hE rfl
    ·intro a w ux17 hE hM hp
     have f1 : ux17 1 = (ptr b1 (0 + (s9).toNat * 1)):=hp 0 _ rfl rfl
     exact Zx (v:=(vB x19)) hE (lk rfl f1) ty5 rfl (At.vec hM.rawAt1 hi18.2) fun a hE=>kq rfl hE rfl
    ·exact qm
    ·intro a w ux17 hE hM hp
     have f3 : ux17 3 = (vI s9):=hp 0 _ rfl rfl
     exact Zm hE rfl (lk rfl f3) Tryz.underlying37 ty5 hi21.1 fun a hE=>kq rfl hE rfl
    ·intro a w ux17 hE hM hp
     have f4 : ux17 4 = (ptr b3 (0 + (s9).toNat * 1)):=hp 0 _ rfl rfl
     exact Zx (v:=(vB x22)) hE (lk rfl f4) ty5 rfl (At.vec hM.rawAt0 hi21.2) fun a hE=>kq rfl hE rfl
    ·intro a w ux17 hE hM hp
     have f2 : ux17 2 = (vB x19):=hp 0 _ rfl rfl
     have f5 : ux17 5 = (vB x22):=hp 1 _ rfl rfl
     exact Zk hE (lk rfl f2) (lk rfl f5) (Kq x19 x22) fun a hE=>kq rfl hE rfl
    ·intro a w ux17 hE hM hg
     have hE:=hE.sub (e':=[(16,(vT (x19 != x22))),(2,(ptr b1 0)),(3,(ptr b3 0)),(5,vI s9),(6,vI s9),(7,(vT (decide (s9 < 32))))]) ⟨lk rfl (hg 6 (by decide)),rfl,rfl,rfl,rfl,rfl,trivial⟩
     refine Zj ?_
     obtain rfl:=Option.some.inj hl15
     refine Zl ?_
     exact ⟨hE.sub ⟨rfl,rfl,rfl,rfl,trivial⟩,hM⟩
   ·skip
    rintro a w ⟨hE,hM⟩
    refine Zq hE rfl ?_ ?_
    ·intro hb25
     have hF16:=Zu hF16 hb25
     obtain ⟨j26,hl27,hF28⟩:=bind_some hF16
     refine ZI (fun a w=>Env 24 a [(4,vT j26)] ∧ M (Old w0) w0 w []) ?_ ?_
     ·skip
      obtain ⟨x31,hi30,hl27⟩:=bvx hl27
      obtain ⟨x34,hi33,hl27⟩:=bvx hl27
      refine ZX (n:=24) (hd:=[_,_,_,_,_,_,_,_]) (tl:=[]) Yx rfl rfl [17,18,19,20,21,22,23,4] (by decide) (fun w=>M (Old w0) w0 w [raw b3 (enc p1),raw b1 (enc p0)]) (fun j=>([fun v _=>v = (vI s9),fun v _=>v = (ptr b1 (0 + (s9).toNat * 1)),fun v _=>v = (vB x31),fun v _=>v = (vI s9),fun v _=>v = (ptr b3 (0 + (s9).toNat * 1)),fun v _=>v = (vB x34),fun v _=>v = (vT (decide (x31 < x34))),fun v _=>v = (vT (decide (x31 < x34)))] : List (Value → World → Prop)).getD j (fun _ _=>True)) (fun _ _ h hk=>h.keep hk) (gup gu8) hE hM.drew (st8 ?_ ?_ ?_ ?_ ?_ ?_ ?_ ?_) ?_
      ·exact qm
      ·intro a w ux29 hE hM hp
       have f0 : ux29 0 = (vI s9):=hp 0 _ rfl rfl
       exact Zm hE rfl (lk rfl f0) Tryz.underlying37 ty5 hi30.1 fun a hE=>kq rfl hE rfl
      ·intro a w ux29 hE hM hp
       have f1 : ux29 1 = (ptr b1 (0 + (s9).toNat * 1)):=hp 0 _ rfl rfl
       exact Zx (v:=(vB x31)) hE (lk rfl f1) ty5 rfl (At.vec hM.rawAt1 hi30.2) fun a hE=>kq rfl hE rfl
      ·exact qm
      ·intro a w ux29 hE hM hp
       have f3 : ux29 3 = (vI s9):=hp 0 _ rfl rfl
       exact Zm hE rfl (lk rfl f3) Tryz.underlying37 ty5 hi33.1 fun a hE=>kq rfl hE rfl
      ·intro a w ux29 hE hM hp
       have f4 : ux29 4 = (ptr b3 (0 + (s9).toNat * 1)):=hp 0 _ rfl rfl
       exact Zx (v:=(vB x34)) hE (lk rfl f4) ty5 rfl (At.vec hM.rawAt0 hi33.2) fun a hE=>kq rfl hE rfl
      ·intro a w ux29 hE hM hp
       have f2 : ux29 2 = (vB x31):=hp 0 _ rfl rfl
       have f5 : ux29 5 = (vB x34):=hp 1 _ rfl rfl
       exact Zk hE (lk rfl f2) (lk rfl f5) (bB_lss x31 x34) fun a hE=>kq rfl hE rfl
      ·intro a w ux29 hE hM hp
       have f6 : ux29 6 = (vT (decide (x31 < x34))):=hp 0 _ rfl rfl
       exact Zb hE (lk rfl f6) fun a hE=>kq rfl hE rfl
      ·intro a w ux29 hE hM hg
       have hE:=hE.sub (e':=[(4,(vT (decide (x31 < x34)))),(2,(ptr b1 0)),(3,(ptr b3 0)),(5,vI s9),(16,vT j14)]) ⟨lk rfl (hg 7 (by decide)),rfl,rfl,rfl,rfl,trivial⟩
       refine Zj ?_
       obtain rfl:=Option.some.inj hl27
       refine Zl ?_
       have hM:=M.fst (l:=[]) hM
       exact ⟨hE.sub ⟨rfl,trivial⟩,hM⟩
     ·skip
      rintro a w ⟨hE,hM⟩
      obtain rfl:=hx11 _ (ois hF28)
      obtain rfl:=Option.some.inj hF7
      exact wp_ret (Z4 (Zs (Zs (Z4 (Zs (Zs (kr1 hE rfl rfl hM.kept)))))))
    ·intro hb25
     have hF16:=Zt hF16 hb25
     refine wp_skip (Z0 (Zy (wp_region_lit (Ze hE rfl fun a hE=>Zk hE rfl rfl rfl fun a hE=>Zb hE rfl fun a hE=>Zj (Zl ?_)))))
     exact ⟨_,(ois hF16),hE.sub ⟨rfl,rfl,rfl,trivial⟩,hM⟩
  ·intro hb13
   have hs10:=Zt hs10 hb13
   refine wp_exit (Zp (Zp (Z1 ?_)))
   obtain rfl:=hx11 _ (ois hs10)
   refine Zl ?_
   have hM:=M.fst (l:=[]) hM
   exact ⟨(),rfl,hE.sub trivial,hM⟩
 ·skip
  rintro a w ⟨s8,ht,hE,hM⟩
  subst ht
  have hF7:=X7 hF7
  refine Zy (Za (Zb hE rfl fun a hE=>Zf ?_))
  obtain rfl:=Option.some.inj hF7
  exact wp_ret (kr1 hE rfl rfl hM.kept)
def U2 (p0 : (List (Vector UInt8 32))) (s5 : Int) : Option (Fl Int (Fl Unit Bool)) :=
 if (decide (s5 < (p0.length : Int))) = true then (((idx p0 (wr (s5 - 1))).bind fun x14=>(idx p0 s5).bind fun x17=>(VG x14 x17).bind fun r20=>some (!r20) : Option (Bool)).bind fun j10=>if j10 = true then (some (Fl.ex (Fl.ex false))) else (some (Fl.nx (wr (s5 + 1))))) else (some (Fl.ex (Fl.nx ())))
def Wl (p0 : (List (Vector UInt8 32))) : Option (Bool) :=
 (ZD (U2 p0) 1).bind fun j1=>j1.el (fun s4=>some true) (fun r=>some r)
theorem JQ (w0 : World) (p0 : (List (Vector UInt8 32))) (v0_1 : Value) (hv0_1 : Ro w0 p0 [v0_1]) (r : Bool) (hF : Wl p0 = some r) :
  Calls Tryz.prog 82 [v0_1].toArray w0 (Rt w0 (vT r)):=by
 refine ce Tryz.func82 ?_
 intro a hE
 have hM:=M.start w0
 unfold Wl at hF
 refine Za (Zb hE rfl fun a hE=>Zf (wp_seq (Za (Zb hE rfl fun a hE=>Zf ?_))))
 obtain ⟨j1,hl2,hF3⟩:=bind_some hF
 refine ZJ (fun a w=>∃ s4 : Unit,j1 = Fl.nx s4 ∧ Env 21 a [] ∧ M (Old w0) w0 w []) ?_ ?_
 ·skip
  refine wp_block ?_
  refine ZE (fun (s5 : Int) a w=>Env 21 a [(0,v0_1),(3,vI s5)] ∧ M (Old w0) w0 w []) hl2 ⟨hE.sub ⟨rfl,rfl,trivial⟩,hM⟩ ?_
  rintro s5 a w ⟨hE,hM⟩ o8 hs6 hx7
  unfold U2 at hs6
  refine wp_seq (Za (Ze hE rfl fun a hE=>Ze hE rfl fun a hE=>ZZ hE rfl Tryz.underlying40 (hM.rd hv0_1) fun a hE=>Zk hE rfl rfl rfl fun a hE=>Zf ?_))
  refine Zq hE rfl ?_ ?_
  ·intro hb9
   have hs6:=Zu hs6 hb9
   refine wp_skip (Zy (wp_seq (wp_block ?_)))
   obtain ⟨j10,hl11,hF12⟩:=bind_some hs6
   refine ZI (fun a w=>Env 21 a [(0,v0_1),(3,vI s5),(20,vT j10)] ∧ M (Old w0) w0 w []) ?_ ?_
   ·skip
    obtain ⟨x14,hi16,hl11⟩:=bix hl11
    obtain ⟨x17,hi19,hl11⟩:=bix hl11
    obtain ⟨r20,e21,hl11⟩:=bind_some hl11
    refine ZX (n:=21) (hd:=[_,_,_,_,_,_,_,_,_,_,_]) (tl:=[]) Yx rfl rfl [10,11,12,13,14,15,16,17,18,19,20] (by decide) (fun w=>M (Old w0) w0 w []) (fun j=>([fun v _=>v = v0_1,fun v _=>v = (vI s5),fun v _=>v = (vI (wr (s5 - 1))),fun v _=>v = (ptr (sb v0_1) (so v0_1 + ((wr (s5 - 1))).toNat * 32)),fun v _=>v = (Value.agg (enc x14).toArray),fun v _=>v = v0_1,fun v _=>v = (vI s5),fun v _=>v = (ptr (sb v0_1) (so v0_1 + (s5).toNat * 32)),fun v _=>v = (Value.agg (enc x17).toArray),fun v _=>v = (vT r20),fun v _=>v = (vT (!r20))] : List (Value → World → Prop)).getD j (fun _ _=>True)) (fun _ _ h hk=>h.keep hk) (gup gu11) hE hM.drew (st11 ?_ ?_ ?_ ?_ ?_ ?_ ?_ ?_ ?_ ?_ ?_) ?_
    ·exact qm
    ·exact qm
    ·intro a w ux13 hE hM hp
     have f1 : ux13 1 = (vI s5):=hp 0 _ rfl rfl
     exact Zk hE (lk rfl f1) rfl rfl fun a hE=>kq rfl hE rfl
    ·intro a w ux13 hE hM hp
     have f0 : ux13 0 = v0_1:=hp 0 _ rfl rfl
     have f2 : ux13 2 = (vI (wr (s5 - 1))):=hp 1 _ rfl rfl
     exact ZK hE (lk rfl f0) (lk rfl f2) Tryz.underlying40 Yr (hM.rd hv0_1) hi16.1 fun a hE=>kq rfl hE rfl
    ·intro a w ux13 hE hM hp
     have f3 : ux13 3 = (ptr (sb v0_1) (so v0_1 + ((wr (s5 - 1))).toNat * 32)):=hp 0 _ rfl rfl
     exact Zn hE (lk rfl f3) Yr rfl (Ys (hM.rd hv0_1) hi16.2) (Flat.len _) fun a hE=>kq rfl hE rfl
    ·exact qm
    ·exact qm
    ·intro a w ux13 hE hM hp
     have f5 : ux13 5 = v0_1:=hp 0 _ rfl rfl
     have f6 : ux13 6 = (vI s5):=hp 1 _ rfl rfl
     exact ZK hE (lk rfl f5) (lk rfl f6) Tryz.underlying40 Yr (hM.rd hv0_1) hi19.1 fun a hE=>kq rfl hE rfl
    ·intro a w ux13 hE hM hp
     have f7 : ux13 7 = (ptr (sb v0_1) (so v0_1 + (s5).toNat * 32)):=hp 0 _ rfl rfl
     exact Zn hE (lk rfl f7) Yr rfl (Ys (hM.rd hv0_1) hi19.2) (Flat.len _) fun a hE=>kq rfl hE rfl
    ·intro a w ux13 hE hM hp
     have f4 : ux13 4 = (Value.agg (enc x14).toArray):=hp 0 _ rfl rfl
     have f8 : ux13 8 = (Value.agg (enc x17).toArray):=hp 1 _ rfl rfl
     refine Zv hE (ZU (ZR (lk rfl f4) (ZR (lk rfl f8) Xf))) (cbm Tryz.func121) (AU _ x14 x17 r20 e21) ?_
     rintro v w a ⟨rfl,hK⟩ hE
     exact ⟨hK,_,_,rfl,hE,rfl⟩
    ·intro a w ux13 hE hM hp
     have f9 : ux13 9 = (vT r20):=hp 0 _ rfl rfl
     exact YO hE (lk rfl f9) fun a hE=>kq rfl hE rfl
    ·intro a w ux13 hE hM hg
     have hE:=hE.sub (e':=[(20,(vT (!r20))),(0,v0_1),(3,vI s5),(4,vI s5),(5,v0_1),(6,(vI (p0.length : Int))),(7,(vT (decide (s5 < (p0.length : Int)))))]) ⟨lk rfl (hg 10 (by decide)),rfl,rfl,rfl,rfl,rfl,rfl,trivial⟩
     refine Zj ?_
     obtain rfl:=Option.some.inj hl11
     refine Zl ?_
     exact ⟨hE.sub ⟨rfl,rfl,rfl,trivial⟩,hM⟩
   ·skip
    rintro a w ⟨hE,hM⟩
    refine Zq hE rfl ?_ ?_
    ·intro hb23
     have hF12:=Zu hF12 hb23
     refine Za (Zb hE rfl fun a hE=>Zf ?_)
     obtain rfl:=hx7 _ (ois hF12)
     obtain rfl:=Option.some.inj hF3
     exact wp_ret (Z4 (Zs (Zs (Z4 (Zs (Zs (kr1 hE rfl rfl hM.kept)))))))
    ·intro hb23
     have hF12:=Zt hF12 hb23
     refine wp_skip (Z0 (Zy (wp_region_lit (Ze hE rfl fun a hE=>Zk hE rfl rfl rfl fun a hE=>Zb hE rfl fun a hE=>Zj (Zl ?_)))))
     exact ⟨_,(ois hF12),hE.sub ⟨rfl,rfl,trivial⟩,hM⟩
  ·intro hb9
   have hs6:=Zt hs6 hb9
   refine wp_exit (Zp (Zp (Z1 ?_)))
   obtain rfl:=hx7 _ (ois hs6)
   refine Zl ?_
   exact ⟨(),rfl,hE.sub trivial,hM⟩
 ·skip
  rintro a w ⟨s4,ht,hE,hM⟩
  subst ht
  have hF3:=X7 hF3
  refine Zy (Za (Zb hE rfl fun a hE=>Zf ?_))
  obtain rfl:=Option.some.inj hF3
  exact wp_ret (kr1 hE rfl rfl hM.kept)
def Vy (p0 : Int) (s16 : UInt8 × UInt8 × Int) : Option (Fl (UInt8 × UInt8 × Int) UInt8) :=
 if (decide (s16.2.2 > 0)) = true then (((if ((Int.tmod s16.2.2 2) == 1) = true then ((Z5 p0 s16.1 s16.2.1).bind fun r28=>some r28) else (some s16.1) : Option (UInt8)).bind fun j24=>(Z5 p0 s16.2.1 s16.2.1).bind fun r32=>some (j24,r32) : Option (UInt8 × UInt8)).bind fun j21=>some (Fl.nx (j21.1,j21.2,wr (Int.tdiv s16.2.2 2)))) else (some (Fl.ex s16.1))
def VL (p0 : Int) (p1 : Int) (s8 : (Vector UInt8 256) × Int) : Option (Fl ((Vector UInt8 256) × Int) (Vector UInt8 256)) :=
 if (decide (s8.2 < 256)) = true then ((ZD (Vy p0) (1,ZO s8.2,p1)).bind fun j13=>(ZC s8.1 s8.2).bind fun x37=>some (Fl.nx ((s8.1.setIfInBounds (s8.2).toNat j13),wr (s8.2 + 1)))) else (some (Fl.ex s8.1))
def V1 (p0 : Int) (p1 : Int) : Option ((Vector UInt8 256)) :=
 (ZD (VL p0 p1) ((Vector.replicate 256 (0 : UInt8)),0)).bind fun j5=>some j5
end

end Go.Proofs.YtlpppjjlffgkmaaGreat
