/- The walk of what the law reaches: contracts of functions. -/
import Derived.Test.YtlpppjjlffgkmaaGreatK2
import Derived.Test.YtlpppjjlffgkmaaGreatProg
set_option linter.unusedVariables false
set_option linter.unusedSimpArgs false
set_option maxRecDepth 20000
set_option maxHeartbeats 400000
namespace Go.Proofs.YtlpppjjlffgkmaaGreat
open Go
open Flat (enc)
noncomputable section
structure GCipher where
 Field : Int
 Box : (Vector UInt8 256)
 Mix : (Vector (Vector UInt8 4) 4)
 Places : (Vector UInt8 16)
 Rounds : Int
 deriving DecidableEq,Inhabited
instance : Dat GCipher:=⟨fun x=>Dat.bd (α:=Int × (Vector UInt8 256) × (Vector (Vector UInt8 4) 4) × (Vector UInt8 16) × Int) (x.Field,x.Box,x.Mix,x.Places,x.Rounds),fun x=>Dat.sz (α:=Int × (Vector UInt8 256) × (Vector (Vector UInt8 4) 4) × (Vector UInt8 16) × Int) (x.Field,x.Box,x.Mix,x.Places,x.Rounds) + 1⟩
instance : Flat GCipher where
 n:=290
 enc x:=cat [enc x.Field,enc x.Box,enc x.Mix,enc x.Places,enc x.Rounds]
 len x:=Zg (cl1 (Flat.len _) (cl1 (Flat.len _) (cl1 (Flat.len _) (cl1 (Flat.len _) (cl1 (Flat.len _) cl0)))))
 cell x:=ZV (cc1 (Flat.cell _) (cc1 (Flat.cell _) (cc1 (Flat.cell _) (cc1 (Flat.cell _) (cc1 (Flat.cell _) cc0)))))
structure GRecord where
 Number : Int
 Version : Int
 Nonce : (Vector UInt8 16)
 Label : (List UInt8)
 Body : (List UInt8)
 Tag : (Vector UInt8 32)
 deriving DecidableEq,Inhabited
instance : Dat GRecord:=⟨fun x=>Dat.bd (α:=Int × Int × (Vector UInt8 16) × (List UInt8) × (List UInt8) × (Vector UInt8 32)) (x.Number,x.Version,x.Nonce,x.Label,x.Body,x.Tag),fun x=>Dat.sz (α:=Int × Int × (Vector UInt8 16) × (List UInt8) × (List UInt8) × (Vector UInt8 32)) (x.Number,x.Version,x.Nonce,x.Label,x.Body,x.Tag) + 1⟩
instance : Rep GRecord:=repIso (α:=Int × Int × (Vector UInt8 16) × (List UInt8) × (List UInt8) × (Vector UInt8 32)) (fun x=>(x.Number,x.Version,x.Nonce,x.Label,x.Body,x.Tag))
theorem VZ {S : Nat → Prop} {w : World} {x : GRecord} {cs : List Value} {fp : List Nat} (h : Rep.sat S w x cs fp) : ∃ (u1 : Value) (u2 : Value),∃ (g1 : List Nat) (g2 : List Nat),cs = cat [enc x.Number,enc x.Version,enc x.Nonce,[u1],[u2],enc x.Tag] ∧ fp = (g1 ++ g2) ∧ Rep.sat S w x.Label [u1] g1 ∧ Rep.sat S w x.Body [u2] g2:=by
 obtain ⟨c0,d0,f0,q0,rfl,rfl,h0,hr0⟩:=h
 obtain ⟨rfl,rfl⟩:=h0
 obtain ⟨c1,d1,f1,q1,rfl,rfl,h1,hr1⟩:=hr0
 obtain ⟨rfl,rfl⟩:=h1
 obtain ⟨c2,d2,f2,q2,rfl,rfl,h2,hr2⟩:=hr1
 obtain ⟨rfl,rfl⟩:=h2
 obtain ⟨c3,d3,f3,q3,rfl,rfl,h3,hr3⟩:=hr2
 obtain ⟨u1,rfl⟩:=XE h3
 obtain ⟨c4,d4,f4,q4,rfl,rfl,h4,hr4⟩:=hr3
 obtain ⟨u2,rfl⟩:=XE h4
 obtain ⟨rfl,rfl⟩:=hr4
 exact ⟨u1,u2,_,_,rfl,by simp,h3,h4⟩
theorem Jq {S : Nat → Prop} {w : World} {x : GRecord} {u1 u2 : Value} {fp : List Nat} (h : Rep.sat S w x (cat [enc x.Number,enc x.Version,enc x.Nonce,[u1],[u2],enc x.Tag]) fp) : ∃ (g1 : List Nat) (g2 : List Nat),fp = (g1 ++ g2) ∧ Rep.sat S w x.Label [u1] g1 ∧ Rep.sat S w x.Body [u2] g2:=by
 obtain ⟨w1,w2,g1,g2,hc,hf,s1,s2⟩:=VZ h
 obtain ⟨e1,k1⟩:=Yo hc rfl
 obtain ⟨e2,k2⟩:=Yo k1 rfl
 obtain ⟨e3,k3⟩:=Yo k2 rfl
 obtain ⟨e4,k4⟩:=Yo k3 rfl
 obtain ⟨e5,k5⟩:=Yo k4 rfl
 obtain rfl:=(List.cons.inj e4).1
 obtain rfl:=(List.cons.inj e5).1
 exact ⟨g1,g2,hf,s1,s2⟩
theorem VS {S : Nat → Prop} {w : World} {x : GRecord} {cs : List Value} (h : Rep.sat S w x cs []) : ∃ u1 u2,cs = cat [enc x.Number,enc x.Version,enc x.Nonce,[u1],[u2],enc x.Tag] ∧ Rep.sat S w x.Label [u1] [] ∧ Rep.sat S w x.Body [u2] []:=by
 obtain ⟨c0,d0,f0,g0,rfl,hf0,h0,hr0⟩:=h
 obtain ⟨rfl,rfl⟩:=List.append_eq_nil_iff.1 hf0.symm
 obtain ⟨rfl,_⟩:=h0
 obtain ⟨c1,d1,f1,g1,rfl,hf1,h1,hr1⟩:=hr0
 obtain ⟨rfl,rfl⟩:=List.append_eq_nil_iff.1 hf1.symm
 obtain ⟨rfl,_⟩:=h1
 obtain ⟨c2,d2,f2,g2,rfl,hf2,h2,hr2⟩:=hr1
 obtain ⟨rfl,rfl⟩:=List.append_eq_nil_iff.1 hf2.symm
 obtain ⟨rfl,_⟩:=h2
 obtain ⟨c3,d3,f3,g3,rfl,hf3,h3,hr3⟩:=hr2
 obtain ⟨rfl,rfl⟩:=List.append_eq_nil_iff.1 hf3.symm
 obtain ⟨u1,rfl⟩:=XE h3
 obtain ⟨c4,d4,f4,g4,rfl,hf4,h4,hr4⟩:=hr3
 obtain ⟨rfl,rfl⟩:=List.append_eq_nil_iff.1 hf4.symm
 obtain ⟨u2,rfl⟩:=XE h4
 obtain ⟨rfl,_⟩:=hr4
 exact ⟨u1,u2,rfl,h3,h4⟩
theorem UJ {S : Nat → Prop} {w : World} {x : GRecord} {u1 u2 : Value} {g1 g2 fp : List Nat} (h1 : Rep.sat S w x.Label [u1] g1) (h2 : Rep.sat S w x.Body [u2] g2) (hfp : fp = (g1 ++ g2)) : Rep.sat S w x (cat [enc x.Number,enc x.Version,enc x.Nonce,[u1],[u2],enc x.Tag]) fp:=by
 rw [hfp]
 refine ⟨_,_,[],(g1 ++ g2),rfl,(by simp),⟨rfl,rfl⟩,?_⟩
 refine ⟨_,_,[],(g1 ++ g2),rfl,(by simp),⟨rfl,rfl⟩,?_⟩
 refine ⟨_,_,[],(g1 ++ g2),rfl,(by simp),⟨rfl,rfl⟩,?_⟩
 refine ⟨_,_,g1,g2,rfl,(by simp),h1,?_⟩
 refine ⟨_,_,g2,[],rfl,(by simp),h2,?_⟩
 exact ⟨rfl,rfl⟩
theorem ji (w : World) : Rep.sat NoB w (⟨(0 : Int),(0 : Int),(Vector.replicate 16 (0 : UInt8)),([] : (List UInt8)),([] : (List UInt8)),(Vector.replicate 32 (0 : UInt8))⟩ : GRecord) (cat [(enc (0 : Int)),(enc (0 : Int)),(enc (Vector.replicate 16 (0 : UInt8))),[.slice none 0 0],[.slice none 0 0],(enc (Vector.replicate 32 (0 : UInt8)))]) []:=UJ Xn Xn rfl
structure GEvent where
 Kind : Int
 Number : Int
 Tag : (Vector UInt8 32)
 deriving DecidableEq,Inhabited
instance : Dat GEvent:=⟨fun x=>Dat.bd (α:=Int × Int × (Vector UInt8 32)) (x.Kind,x.Number,x.Tag),fun x=>Dat.sz (α:=Int × Int × (Vector UInt8 32)) (x.Kind,x.Number,x.Tag) + 1⟩
instance : Flat GEvent where
 n:=34
 enc x:=cat [enc x.Kind,enc x.Number,enc x.Tag]
 len x:=Zg (cl1 (Flat.len _) (cl1 (Flat.len _) (cl1 (Flat.len _) cl0)))
 cell x:=ZV (cc1 (Flat.cell _) (cc1 (Flat.cell _) (cc1 (Flat.cell _) cc0)))
structure GVault where
 Keys : (List (Vector UInt8 16))
 Next : Int
 Records : (List GRecord)
 Events : (List GEvent)
 Head : (Vector UInt8 32)
 deriving DecidableEq,Inhabited
instance : Dat GVault:=⟨fun x=>Dat.bd (α:=(List (Vector UInt8 16)) × Int × (List GRecord) × (List GEvent) × (Vector UInt8 32)) (x.Keys,x.Next,x.Records,x.Events,x.Head),fun x=>Dat.sz (α:=(List (Vector UInt8 16)) × Int × (List GRecord) × (List GEvent) × (Vector UInt8 32)) (x.Keys,x.Next,x.Records,x.Events,x.Head) + 1⟩
instance : Rep GVault:=repIso (α:=(List (Vector UInt8 16)) × Int × (List GRecord) × (List GEvent) × (Vector UInt8 32)) (fun x=>(x.Keys,x.Next,x.Records,x.Events,x.Head))
theorem Hf {S : Nat → Prop} {w : World} {x : GVault} {cs : List Value} {fp : List Nat} (h : Rep.sat S w x cs fp) : ∃ (u1 : Value) (u2 : Value) (u3 : Value),∃ (g1 : List Nat) (g2 : List Nat) (g3 : List Nat),cs = cat [[u1],enc x.Next,[u2],[u3],enc x.Head] ∧ fp = (g1 ++ (g2 ++ g3)) ∧ Rep.sat S w x.Keys [u1] g1 ∧ Rep.sat S w x.Records [u2] g2 ∧ Rep.sat S w x.Events [u3] g3:=by
 obtain ⟨c0,d0,f0,q0,rfl,rfl,h0,hr0⟩:=h
 obtain ⟨u1,rfl⟩:=XE h0
 obtain ⟨c1,d1,f1,q1,rfl,rfl,h1,hr1⟩:=hr0
 obtain ⟨rfl,rfl⟩:=h1
 obtain ⟨c2,d2,f2,q2,rfl,rfl,h2,hr2⟩:=hr1
 obtain ⟨u2,rfl⟩:=XE h2
 obtain ⟨c3,d3,f3,q3,rfl,rfl,h3,hr3⟩:=hr2
 obtain ⟨u3,rfl⟩:=XE h3
 obtain ⟨rfl,rfl⟩:=hr3
 exact ⟨u1,u2,u3,_,_,_,rfl,by simp,h0,h2,h3⟩
theorem unc_GVault {S : Nat → Prop} {w : World} {x : GVault} {u1 u2 u3 : Value} {fp : List Nat} (h : Rep.sat S w x (cat [[u1],enc x.Next,[u2],[u3],enc x.Head]) fp) : ∃ (g1 : List Nat) (g2 : List Nat) (g3 : List Nat),fp = (g1 ++ (g2 ++ g3)) ∧ Rep.sat S w x.Keys [u1] g1 ∧ Rep.sat S w x.Records [u2] g2 ∧ Rep.sat S w x.Events [u3] g3:=by
 obtain ⟨w1,w2,w3,g1,g2,g3,hc,hf,s1,s2,s3⟩:=Hf h
 obtain ⟨e1,k1⟩:=Yo hc rfl
 obtain ⟨e2,k2⟩:=Yo k1 rfl
 obtain ⟨e3,k3⟩:=Yo k2 rfl
 obtain ⟨e4,k4⟩:=Yo k3 rfl
 obtain rfl:=(List.cons.inj e1).1
 obtain rfl:=(List.cons.inj e3).1
 obtain rfl:=(List.cons.inj e4).1
 exact ⟨g1,g2,g3,hf,s1,s2,s3⟩
theorem zQ {S : Nat → Prop} {w : World} {x : GVault} {cs : List Value} (h : Rep.sat S w x cs []) : ∃ u1 u2 u3,cs = cat [[u1],enc x.Next,[u2],[u3],enc x.Head] ∧ Rep.sat S w x.Keys [u1] [] ∧ Rep.sat S w x.Records [u2] [] ∧ Rep.sat S w x.Events [u3] []:=by
 obtain ⟨c0,d0,f0,g0,rfl,hf0,h0,hr0⟩:=h
 obtain ⟨rfl,rfl⟩:=List.append_eq_nil_iff.1 hf0.symm
 obtain ⟨u1,rfl⟩:=XE h0
 obtain ⟨c1,d1,f1,g1,rfl,hf1,h1,hr1⟩:=hr0
 obtain ⟨rfl,rfl⟩:=List.append_eq_nil_iff.1 hf1.symm
 obtain ⟨rfl,_⟩:=h1
 obtain ⟨c2,d2,f2,g2,rfl,hf2,h2,hr2⟩:=hr1
 obtain ⟨rfl,rfl⟩:=List.append_eq_nil_iff.1 hf2.symm
 obtain ⟨u2,rfl⟩:=XE h2
 obtain ⟨c3,d3,f3,g3,rfl,hf3,h3,hr3⟩:=hr2
 obtain ⟨rfl,rfl⟩:=List.append_eq_nil_iff.1 hf3.symm
 obtain ⟨u3,rfl⟩:=XE h3
 obtain ⟨rfl,_⟩:=hr3
 exact ⟨u1,u2,u3,rfl,h0,h2,h3⟩
theorem Ba {S : Nat → Prop} {w : World} {x : GVault} {u1 u2 u3 : Value} {g1 g2 g3 fp : List Nat} (h1 : Rep.sat S w x.Keys [u1] g1) (h2 : Rep.sat S w x.Records [u2] g2) (h3 : Rep.sat S w x.Events [u3] g3) (hfp : fp = (g1 ++ (g2 ++ g3))) : Rep.sat S w x (cat [[u1],enc x.Next,[u2],[u3],enc x.Head]) fp:=by
 rw [hfp]
 refine ⟨_,_,g1,(g2 ++ g3),rfl,(by simp),h1,?_⟩
 refine ⟨_,_,[],(g2 ++ g3),rfl,(by simp),⟨rfl,rfl⟩,?_⟩
 refine ⟨_,_,g2,g3,rfl,(by simp),h2,?_⟩
 refine ⟨_,_,g3,[],rfl,(by simp),h3,?_⟩
 exact ⟨rfl,rfl⟩
theorem jr (w : World) : Rep.sat NoB w (⟨([] : (List (Vector UInt8 16))),(0 : Int),([] : (List GRecord)),([] : (List GEvent)),(Vector.replicate 32 (0 : UInt8))⟩ : GVault) (cat [[.slice none 0 0],(enc (0 : Int)),[.slice none 0 0],[.slice none 0 0],(enc (Vector.replicate 32 (0 : UInt8)))]) []:=Ba Xn Xn Xn rfl
structure GBlobs where
 Keys : (List (Vector UInt8 32))
 Data : (List (List UInt8))
 Counts : (List Int)
 deriving DecidableEq,Inhabited
instance : Dat GBlobs:=⟨fun x=>Dat.bd (α:=(List (Vector UInt8 32)) × (List (List UInt8)) × (List Int)) (x.Keys,x.Data,x.Counts),fun x=>Dat.sz (α:=(List (Vector UInt8 32)) × (List (List UInt8)) × (List Int)) (x.Keys,x.Data,x.Counts) + 1⟩
instance : Rep GBlobs:=repIso (α:=(List (Vector UInt8 32)) × (List (List UInt8)) × (List Int)) (fun x=>(x.Keys,x.Data,x.Counts))
theorem HK {S : Nat → Prop} {w : World} {x : GBlobs} {cs : List Value} {fp : List Nat} (h : Rep.sat S w x cs fp) : ∃ (u1 : Value) (u2 : Value) (u3 : Value),∃ (g1 : List Nat) (g2 : List Nat) (g3 : List Nat),cs = cat [[u1],[u2],[u3]] ∧ fp = (g1 ++ (g2 ++ g3)) ∧ Rep.sat S w x.Keys [u1] g1 ∧ Rep.sat S w x.Data [u2] g2 ∧ Rep.sat S w x.Counts [u3] g3:=by
 obtain ⟨c0,d0,f0,q0,rfl,rfl,h0,hr0⟩:=h
 obtain ⟨u1,rfl⟩:=XE h0
 obtain ⟨c1,d1,f1,q1,rfl,rfl,h1,hr1⟩:=hr0
 obtain ⟨u2,rfl⟩:=XE h1
 obtain ⟨u3,rfl⟩:=XE hr1
 exact ⟨u1,u2,u3,_,_,_,rfl,by simp,h0,h1,hr1⟩
theorem unc_GBlobs {S : Nat → Prop} {w : World} {x : GBlobs} {u1 u2 u3 : Value} {fp : List Nat} (h : Rep.sat S w x (cat [[u1],[u2],[u3]]) fp) : ∃ (g1 : List Nat) (g2 : List Nat) (g3 : List Nat),fp = (g1 ++ (g2 ++ g3)) ∧ Rep.sat S w x.Keys [u1] g1 ∧ Rep.sat S w x.Data [u2] g2 ∧ Rep.sat S w x.Counts [u3] g3:=by
 obtain ⟨w1,w2,w3,g1,g2,g3,hc,hf,s1,s2,s3⟩:=HK h
 obtain ⟨e1,k1⟩:=Yo hc rfl
 obtain ⟨e2,k2⟩:=Yo k1 rfl
 obtain rfl:=(List.cons.inj e1).1
 obtain rfl:=(List.cons.inj e2).1
 obtain rfl:=(List.cons.inj k2).1
 exact ⟨g1,g2,g3,hf,s1,s2,s3⟩
theorem z2 {S : Nat → Prop} {w : World} {x : GBlobs} {cs : List Value} (h : Rep.sat S w x cs []) : ∃ u1 u2 u3,cs = cat [[u1],[u2],[u3]] ∧ Rep.sat S w x.Keys [u1] [] ∧ Rep.sat S w x.Data [u2] [] ∧ Rep.sat S w x.Counts [u3] []:=by
 obtain ⟨c0,d0,f0,g0,rfl,hf0,h0,hr0⟩:=h
 obtain ⟨rfl,rfl⟩:=List.append_eq_nil_iff.1 hf0.symm
 obtain ⟨u1,rfl⟩:=XE h0
 obtain ⟨c1,d1,f1,g1,rfl,hf1,h1,hr1⟩:=hr0
 obtain ⟨rfl,rfl⟩:=List.append_eq_nil_iff.1 hf1.symm
 obtain ⟨u2,rfl⟩:=XE h1
 obtain ⟨u3,rfl⟩:=XE hr1
 exact ⟨u1,u2,u3,rfl,h0,h1,hr1⟩
theorem Bf {S : Nat → Prop} {w : World} {x : GBlobs} {u1 u2 u3 : Value} {g1 g2 g3 fp : List Nat} (h1 : Rep.sat S w x.Keys [u1] g1) (h2 : Rep.sat S w x.Data [u2] g2) (h3 : Rep.sat S w x.Counts [u3] g3) (hfp : fp = (g1 ++ (g2 ++ g3))) : Rep.sat S w x (cat [[u1],[u2],[u3]]) fp:=by
 rw [hfp]
 refine ⟨_,_,g1,(g2 ++ g3),rfl,(by simp),h1,?_⟩
 refine ⟨_,_,g2,g3,rfl,(by simp),h2,?_⟩
 exact h3
theorem js (w : World) : Rep.sat NoB w (⟨([] : (List (Vector UInt8 32))),([] : (List (List UInt8))),([] : (List Int))⟩ : GBlobs) (cat [[.slice none 0 0],[.slice none 0 0],[.slice none 0 0]]) []:=Bf Xn Xn Xn rfl
structure GDesk where
 Cipher : GCipher
 Key : (Vector UInt8 16)
 Start : (Vector UInt8 16)
 Data : (List UInt8)
 Vault : GVault
 Blobs : GBlobs
 deriving DecidableEq,Inhabited
instance : Dat GDesk:=⟨fun x=>Dat.bd (α:=GCipher × (Vector UInt8 16) × (Vector UInt8 16) × (List UInt8) × GVault × GBlobs) (x.Cipher,x.Key,x.Start,x.Data,x.Vault,x.Blobs),fun x=>Dat.sz (α:=GCipher × (Vector UInt8 16) × (Vector UInt8 16) × (List UInt8) × GVault × GBlobs) (x.Cipher,x.Key,x.Start,x.Data,x.Vault,x.Blobs) + 1⟩
instance : Rep GDesk:=repIso (α:=GCipher × (Vector UInt8 16) × (Vector UInt8 16) × (List UInt8) × GVault × GBlobs) (fun x=>(x.Cipher,x.Key,x.Start,x.Data,x.Vault,x.Blobs))
theorem zM {S : Nat → Prop} {w : World} {x : GDesk} {cs : List Value} {fp : List Nat} (h : Rep.sat S w x cs fp) : ∃ (u1 : Value) (u2 : Value) (u3 : Value) (u4 : Value) (u5 : Value) (u6 : Value) (u7 : Value),∃ (g1 : List Nat) (g2 : List Nat) (g3 : List Nat) (g4 : List Nat) (g5 : List Nat) (g6 : List Nat) (g7 : List Nat),cs = cat [enc x.Cipher,enc x.Key,enc x.Start,[u1],cat [[u2],enc x.Vault.Next,[u3],[u4],enc x.Vault.Head],cat [[u5],[u6],[u7]]] ∧ fp = (g1 ++ (g2 ++ (g3 ++ (g4 ++ (g5 ++ (g6 ++ g7)))))) ∧ Rep.sat S w x.Data [u1] g1 ∧ Rep.sat S w x.Vault.Keys [u2] g2 ∧ Rep.sat S w x.Vault.Records [u3] g3 ∧ Rep.sat S w x.Vault.Events [u4] g4 ∧ Rep.sat S w x.Blobs.Keys [u5] g5 ∧ Rep.sat S w x.Blobs.Data [u6] g6 ∧ Rep.sat S w x.Blobs.Counts [u7] g7:=by
 obtain ⟨c0,d0,f0,q0,rfl,rfl,h0,hr0⟩:=h
 obtain ⟨rfl,rfl⟩:=h0
 obtain ⟨c1,d1,f1,q1,rfl,rfl,h1,hr1⟩:=hr0
 obtain ⟨rfl,rfl⟩:=h1
 obtain ⟨c2,d2,f2,q2,rfl,rfl,h2,hr2⟩:=hr1
 obtain ⟨rfl,rfl⟩:=h2
 obtain ⟨c3,d3,f3,q3,rfl,rfl,h3,hr3⟩:=hr2
 obtain ⟨u1,rfl⟩:=XE h3
 obtain ⟨c4,d4,f4,q4,rfl,rfl,h4,hr4⟩:=hr3
 obtain ⟨u2,u3,u4,e2,e3,e4,rfl,rfl,hs4_0,hs4_1,hs4_2⟩:=Hf h4
 obtain ⟨u5,u6,u7,e5,e6,e7,rfl,rfl,hs5_0,hs5_1,hs5_2⟩:=HK hr4
 exact ⟨u1,u2,u3,u4,u5,u6,u7,_,_,_,_,_,_,_,rfl,by simp,h3,hs4_0,hs4_1,hs4_2,hs5_0,hs5_1,hs5_2⟩
theorem unc_GDesk {S : Nat → Prop} {w : World} {x : GDesk} {u1 u2 u3 u4 u5 u6 u7 : Value} {fp : List Nat} (h : Rep.sat S w x (cat [enc x.Cipher,enc x.Key,enc x.Start,[u1],cat [[u2],enc x.Vault.Next,[u3],[u4],enc x.Vault.Head],cat [[u5],[u6],[u7]]]) fp) : ∃ (g1 : List Nat) (g2 : List Nat) (g3 : List Nat) (g4 : List Nat) (g5 : List Nat) (g6 : List Nat) (g7 : List Nat),fp = (g1 ++ (g2 ++ (g3 ++ (g4 ++ (g5 ++ (g6 ++ g7)))))) ∧ Rep.sat S w x.Data [u1] g1 ∧ Rep.sat S w x.Vault.Keys [u2] g2 ∧ Rep.sat S w x.Vault.Records [u3] g3 ∧ Rep.sat S w x.Vault.Events [u4] g4 ∧ Rep.sat S w x.Blobs.Keys [u5] g5 ∧ Rep.sat S w x.Blobs.Data [u6] g6 ∧ Rep.sat S w x.Blobs.Counts [u7] g7:=by
 obtain ⟨w1,w2,w3,w4,w5,w6,w7,g1,g2,g3,g4,g5,g6,g7,hc,hf,s1,s2,s3,s4,s5,s6,s7⟩:=zM h
 obtain ⟨e1,k1⟩:=Yo hc rfl
 obtain ⟨e2,k2⟩:=Yo k1 rfl
 obtain ⟨e3,k3⟩:=Yo k2 rfl
 obtain ⟨e4,k4⟩:=Yo k3 rfl
 obtain ⟨e5,k5⟩:=Yo k4 (by rw [Zg (cl1 (n:=1) rfl (cl1 (Flat.len _) (cl1 (n:=1) rfl (cl1 (n:=1) rfl (cl1 (Flat.len _) cl0))))),Zg (cl1 (n:=1) rfl (cl1 (Flat.len _) (cl1 (n:=1) rfl (cl1 (n:=1) rfl (cl1 (Flat.len _) cl0)))))])
 obtain ⟨e6,k6⟩:=Yo e5 rfl
 obtain ⟨e7,k7⟩:=Yo k6 rfl
 obtain ⟨e8,k8⟩:=Yo k7 rfl
 obtain ⟨e9,k9⟩:=Yo k8 rfl
 obtain ⟨e10,k10⟩:=Yo k5 rfl
 obtain ⟨e11,k11⟩:=Yo k10 rfl
 obtain rfl:=(List.cons.inj e4).1
 obtain rfl:=(List.cons.inj e6).1
 obtain rfl:=(List.cons.inj e8).1
 obtain rfl:=(List.cons.inj e9).1
 obtain rfl:=(List.cons.inj e10).1
 obtain rfl:=(List.cons.inj e11).1
 obtain rfl:=(List.cons.inj k11).1
 exact ⟨g1,g2,g3,g4,g5,g6,g7,hf,s1,s2,s3,s4,s5,s6,s7⟩
theorem un_GDesk {S : Nat → Prop} {w : World} {x : GDesk} {cs : List Value} (h : Rep.sat S w x cs []) : ∃ u1 u2 u3 u4 u5 u6 u7,cs = cat [enc x.Cipher,enc x.Key,enc x.Start,[u1],cat [[u2],enc x.Vault.Next,[u3],[u4],enc x.Vault.Head],cat [[u5],[u6],[u7]]] ∧ Rep.sat S w x.Data [u1] [] ∧ Rep.sat S w x.Vault.Keys [u2] [] ∧ Rep.sat S w x.Vault.Records [u3] [] ∧ Rep.sat S w x.Vault.Events [u4] [] ∧ Rep.sat S w x.Blobs.Keys [u5] [] ∧ Rep.sat S w x.Blobs.Data [u6] [] ∧ Rep.sat S w x.Blobs.Counts [u7] []:=by
 obtain ⟨c0,d0,f0,g0,rfl,hf0,h0,hr0⟩:=h
 obtain ⟨rfl,rfl⟩:=List.append_eq_nil_iff.1 hf0.symm
 obtain ⟨rfl,_⟩:=h0
 obtain ⟨c1,d1,f1,g1,rfl,hf1,h1,hr1⟩:=hr0
 obtain ⟨rfl,rfl⟩:=List.append_eq_nil_iff.1 hf1.symm
 obtain ⟨rfl,_⟩:=h1
 obtain ⟨c2,d2,f2,g2,rfl,hf2,h2,hr2⟩:=hr1
 obtain ⟨rfl,rfl⟩:=List.append_eq_nil_iff.1 hf2.symm
 obtain ⟨rfl,_⟩:=h2
 obtain ⟨c3,d3,f3,g3,rfl,hf3,h3,hr3⟩:=hr2
 obtain ⟨rfl,rfl⟩:=List.append_eq_nil_iff.1 hf3.symm
 obtain ⟨u1,rfl⟩:=XE h3
 obtain ⟨c4,d4,f4,g4,rfl,hf4,h4,hr4⟩:=hr3
 obtain ⟨rfl,rfl⟩:=List.append_eq_nil_iff.1 hf4.symm
 obtain ⟨u2,u3,u4,rfl,hs4_0,hs4_1,hs4_2⟩:=zQ h4
 obtain ⟨u5,u6,u7,rfl,hs5_0,hs5_1,hs5_2⟩:=z2 hr4
 exact ⟨u1,u2,u3,u4,u5,u6,u7,rfl,h3,hs4_0,hs4_1,hs4_2,hs5_0,hs5_1,hs5_2⟩
theorem yD {S : Nat → Prop} {w : World} {x : GDesk} {u1 u2 u3 u4 u5 u6 u7 : Value} {g1 g2 g3 g4 g5 g6 g7 fp : List Nat} (h1 : Rep.sat S w x.Data [u1] g1) (h2 : Rep.sat S w x.Vault.Keys [u2] g2) (h3 : Rep.sat S w x.Vault.Records [u3] g3) (h4 : Rep.sat S w x.Vault.Events [u4] g4) (h5 : Rep.sat S w x.Blobs.Keys [u5] g5) (h6 : Rep.sat S w x.Blobs.Data [u6] g6) (h7 : Rep.sat S w x.Blobs.Counts [u7] g7) (hfp : fp = (g1 ++ (g2 ++ (g3 ++ (g4 ++ (g5 ++ (g6 ++ g7))))))) : Rep.sat S w x (cat [enc x.Cipher,enc x.Key,enc x.Start,[u1],cat [[u2],enc x.Vault.Next,[u3],[u4],enc x.Vault.Head],cat [[u5],[u6],[u7]]]) fp:=by
 rw [hfp]
 refine ⟨_,_,[],(g1 ++ (g2 ++ (g3 ++ (g4 ++ (g5 ++ (g6 ++ g7)))))),rfl,(by simp),⟨rfl,rfl⟩,?_⟩
 refine ⟨_,_,[],(g1 ++ (g2 ++ (g3 ++ (g4 ++ (g5 ++ (g6 ++ g7)))))),rfl,(by simp),⟨rfl,rfl⟩,?_⟩
 refine ⟨_,_,[],(g1 ++ (g2 ++ (g3 ++ (g4 ++ (g5 ++ (g6 ++ g7)))))),rfl,(by simp),⟨rfl,rfl⟩,?_⟩
 refine ⟨_,_,g1,(g2 ++ (g3 ++ (g4 ++ (g5 ++ (g6 ++ g7))))),rfl,(by simp),h1,?_⟩
 refine ⟨_,_,(g2 ++ (g3 ++ g4)),(g5 ++ (g6 ++ g7)),rfl,(by simp),(Ba h2 h3 h4 rfl),?_⟩
 exact (Bf h5 h6 h7 rfl)
theorem zsat_GDesk (w : World) : Rep.sat NoB w (⟨(⟨(0 : Int),(Vector.replicate 256 (0 : UInt8)),(Vector.replicate 4 (Vector.replicate 4 (0 : UInt8))),(Vector.replicate 16 (0 : UInt8)),(0 : Int)⟩ : GCipher),(Vector.replicate 16 (0 : UInt8)),(Vector.replicate 16 (0 : UInt8)),([] : (List UInt8)),(⟨([] : (List (Vector UInt8 16))),(0 : Int),([] : (List GRecord)),([] : (List GEvent)),(Vector.replicate 32 (0 : UInt8))⟩ : GVault),(⟨([] : (List (Vector UInt8 32))),([] : (List (List UInt8))),([] : (List Int))⟩ : GBlobs)⟩ : GDesk) (cat [(enc (⟨(0 : Int),(Vector.replicate 256 (0 : UInt8)),(Vector.replicate 4 (Vector.replicate 4 (0 : UInt8))),(Vector.replicate 16 (0 : UInt8)),(0 : Int)⟩ : GCipher)),(enc (Vector.replicate 16 (0 : UInt8))),(enc (Vector.replicate 16 (0 : UInt8))),[.slice none 0 0],(cat [[.slice none 0 0],(enc (0 : Int)),[.slice none 0 0],[.slice none 0 0],(enc (Vector.replicate 32 (0 : UInt8)))]),(cat [[.slice none 0 0],[.slice none 0 0],[.slice none 0 0]])]) []:=yD Xn Xn Xn Xn Xn Xn Xn rfl
structure Gengine where
 box : (Vector UInt8 256)
 backBox : (Vector UInt8 256)
 places : (Vector UInt8 16)
 backPlaces : (Vector UInt8 16)
 mixer : (Ref (Vector (Vector (Vector UInt8 256) 4) 4))
 backMixer : (Ref (Vector (Vector (Vector UInt8 256) 4) 4))
 rounds : Int
 deriving DecidableEq,Inhabited
instance : Dat Gengine:=⟨fun x=>Dat.bd (α:=(Vector UInt8 256) × (Vector UInt8 256) × (Vector UInt8 16) × (Vector UInt8 16) × (Ref (Vector (Vector (Vector UInt8 256) 4) 4)) × (Ref (Vector (Vector (Vector UInt8 256) 4) 4)) × Int) (x.box,x.backBox,x.places,x.backPlaces,x.mixer,x.backMixer,x.rounds),fun x=>Dat.sz (α:=(Vector UInt8 256) × (Vector UInt8 256) × (Vector UInt8 16) × (Vector UInt8 16) × (Ref (Vector (Vector (Vector UInt8 256) 4) 4)) × (Ref (Vector (Vector (Vector UInt8 256) 4) 4)) × Int) (x.box,x.backBox,x.places,x.backPlaces,x.mixer,x.backMixer,x.rounds) + 1⟩
instance : Rep Gengine:=repIso (α:=(Vector UInt8 256) × (Vector UInt8 256) × (Vector UInt8 16) × (Vector UInt8 16) × (Ref (Vector (Vector (Vector UInt8 256) 4) 4)) × (Ref (Vector (Vector (Vector UInt8 256) 4) 4)) × Int) (fun x=>(x.box,x.backBox,x.places,x.backPlaces,x.mixer,x.backMixer,x.rounds))
theorem AC {S : Nat → Prop} {w : World} {x : Gengine} {cs : List Value} {fp : List Nat} (h : Rep.sat S w x cs fp) : ∃ (u1 : Value) (u2 : Value),∃ (g1 : List Nat) (g2 : List Nat),cs = cat [enc x.box,enc x.backBox,enc x.places,enc x.backPlaces,[u1],[u2],enc x.rounds] ∧ fp = (g1 ++ g2) ∧ Rep.sat S w x.mixer [u1] g1 ∧ Rep.sat S w x.backMixer [u2] g2:=by
 obtain ⟨c0,d0,f0,q0,rfl,rfl,h0,hr0⟩:=h
 obtain ⟨rfl,rfl⟩:=h0
 obtain ⟨c1,d1,f1,q1,rfl,rfl,h1,hr1⟩:=hr0
 obtain ⟨rfl,rfl⟩:=h1
 obtain ⟨c2,d2,f2,q2,rfl,rfl,h2,hr2⟩:=hr1
 obtain ⟨rfl,rfl⟩:=h2
 obtain ⟨c3,d3,f3,q3,rfl,rfl,h3,hr3⟩:=hr2
 obtain ⟨rfl,rfl⟩:=h3
 obtain ⟨c4,d4,f4,q4,rfl,rfl,h4,hr4⟩:=hr3
 obtain ⟨u1,rfl⟩:=J1 h4
 obtain ⟨c5,d5,f5,q5,rfl,rfl,h5,hr5⟩:=hr4
 obtain ⟨u2,rfl⟩:=J1 h5
 obtain ⟨rfl,rfl⟩:=hr5
 exact ⟨u1,u2,_,_,rfl,by simp,h4,h5⟩
theorem jq {S : Nat → Prop} {w : World} {x : Gengine} {u1 u2 : Value} {fp : List Nat} (h : Rep.sat S w x (cat [enc x.box,enc x.backBox,enc x.places,enc x.backPlaces,[u1],[u2],enc x.rounds]) fp) : ∃ (g1 : List Nat) (g2 : List Nat),fp = (g1 ++ g2) ∧ Rep.sat S w x.mixer [u1] g1 ∧ Rep.sat S w x.backMixer [u2] g2:=by
 obtain ⟨w1,w2,g1,g2,hc,hf,s1,s2⟩:=AC h
 obtain ⟨e1,k1⟩:=Yo hc rfl
 obtain ⟨e2,k2⟩:=Yo k1 rfl
 obtain ⟨e3,k3⟩:=Yo k2 rfl
 obtain ⟨e4,k4⟩:=Yo k3 rfl
 obtain ⟨e5,k5⟩:=Yo k4 rfl
 obtain ⟨e6,k6⟩:=Yo k5 rfl
 obtain rfl:=(List.cons.inj e5).1
 obtain rfl:=(List.cons.inj e6).1
 exact ⟨g1,g2,hf,s1,s2⟩
theorem U9 {S : Nat → Prop} {w : World} {x : Gengine} {cs : List Value} (h : Rep.sat S w x cs []) : ∃ u1 u2,cs = cat [enc x.box,enc x.backBox,enc x.places,enc x.backPlaces,[u1],[u2],enc x.rounds] ∧ Rep.sat S w x.mixer [u1] [] ∧ Rep.sat S w x.backMixer [u2] []:=by
 obtain ⟨c0,d0,f0,g0,rfl,hf0,h0,hr0⟩:=h
 obtain ⟨rfl,rfl⟩:=List.append_eq_nil_iff.1 hf0.symm
 obtain ⟨rfl,_⟩:=h0
 obtain ⟨c1,d1,f1,g1,rfl,hf1,h1,hr1⟩:=hr0
 obtain ⟨rfl,rfl⟩:=List.append_eq_nil_iff.1 hf1.symm
 obtain ⟨rfl,_⟩:=h1
 obtain ⟨c2,d2,f2,g2,rfl,hf2,h2,hr2⟩:=hr1
 obtain ⟨rfl,rfl⟩:=List.append_eq_nil_iff.1 hf2.symm
 obtain ⟨rfl,_⟩:=h2
 obtain ⟨c3,d3,f3,g3,rfl,hf3,h3,hr3⟩:=hr2
 obtain ⟨rfl,rfl⟩:=List.append_eq_nil_iff.1 hf3.symm
 obtain ⟨rfl,_⟩:=h3
 obtain ⟨c4,d4,f4,g4,rfl,hf4,h4,hr4⟩:=hr3
 obtain ⟨rfl,rfl⟩:=List.append_eq_nil_iff.1 hf4.symm
 obtain ⟨u1,rfl⟩:=J1 h4
 obtain ⟨c5,d5,f5,g5,rfl,hf5,h5,hr5⟩:=hr4
 obtain ⟨rfl,rfl⟩:=List.append_eq_nil_iff.1 hf5.symm
 obtain ⟨u2,rfl⟩:=J1 h5
 obtain ⟨rfl,_⟩:=hr5
 exact ⟨u1,u2,rfl,h4,h5⟩
theorem AL {S : Nat → Prop} {w : World} {x : Gengine} {u1 u2 : Value} {g1 g2 fp : List Nat} (h1 : Rep.sat S w x.mixer [u1] g1) (h2 : Rep.sat S w x.backMixer [u2] g2) (hfp : fp = (g1 ++ g2)) : Rep.sat S w x (cat [enc x.box,enc x.backBox,enc x.places,enc x.backPlaces,[u1],[u2],enc x.rounds]) fp:=by
 rw [hfp]
 refine ⟨_,_,[],(g1 ++ g2),rfl,(by simp),⟨rfl,rfl⟩,?_⟩
 refine ⟨_,_,[],(g1 ++ g2),rfl,(by simp),⟨rfl,rfl⟩,?_⟩
 refine ⟨_,_,[],(g1 ++ g2),rfl,(by simp),⟨rfl,rfl⟩,?_⟩
 refine ⟨_,_,[],(g1 ++ g2),rfl,(by simp),⟨rfl,rfl⟩,?_⟩
 refine ⟨_,_,g1,g2,rfl,(by simp),h1,?_⟩
 refine ⟨_,_,g2,[],rfl,(by simp),h2,?_⟩
 exact ⟨rfl,rfl⟩
theorem ty2 : Ty Tryz.prog 2 (.int .i64) 1 8 (enc (0 : Int)):=⟨Tryz.underlying2,by kernel_rfl⟩
theorem ty5 : Ty Tryz.prog 5 (.int .u8) 1 1 (enc (0 : UInt8)):=⟨Tryz.underlying5,by kernel_rfl⟩
theorem ty22 : Ty Tryz.prog 22 (.array 256 5) 256 256 (enc (Vector.replicate 256 (0 : UInt8))):=⟨Tryz.underlying22,by kernel_rfl⟩
theorem Ve : Ty Tryz.prog 23 (.array 256 5) 256 256 (enc (Vector.replicate 256 (0 : UInt8))):=⟨Tryz.underlying23,by kernel_rfl⟩
theorem WE : Ty Tryz.prog 24 (.array 4 5) 4 4 (enc (Vector.replicate 4 (0 : UInt8))):=⟨Tryz.underlying24,by kernel_rfl⟩
theorem Ti : Ty Tryz.prog 26 (.array 4 24) 16 16 (enc (Vector.replicate 4 (Vector.replicate 4 (0 : UInt8)))):=⟨Tryz.underlying26,by kernel_rfl⟩
theorem Qg : Ty Tryz.prog 28 (.array 16 5) 16 16 (enc (Vector.replicate 16 (0 : UInt8))):=⟨Tryz.underlying28,by kernel_rfl⟩
theorem UW : Ty Tryz.prog 30 (.struct [{ name := "Field", type := 2, offset := 0, embedded := false, tag := "", pkgPath := "", byteOffset := 0 }, { name := "Box", type := 23, offset := 1, embedded := false, tag := "", pkgPath := "", byteOffset := 8 }, { name := "Mix", type := 26, offset := 257, embedded := false, tag := "", pkgPath := "", byteOffset := 264 }, { name := "Places", type := 28, offset := 273, embedded := false, tag := "", pkgPath := "", byteOffset := 280 }, { name := "Rounds", type := 2, offset := 289, embedded := false, tag := "", pkgPath := "", byteOffset := 296 }].toArray) 290 304 (enc (⟨(0 : Int), (Vector.replicate 256 (0 : UInt8)), (Vector.replicate 4 (Vector.replicate 4 (0 : UInt8))), (Vector.replicate 16 (0 : UInt8)), (0 : Int)⟩ : GCipher)) := ⟨Tryz.underlying30, by kernel_rfl⟩
theorem ZG : Ty Tryz.prog 31 (.array 16 5) 16 16 (enc (Vector.replicate 16 (0 : UInt8))):=⟨Tryz.underlying31,by kernel_rfl⟩
theorem UU : Ty Tryz.prog 32 (.slice 5) 1 24 [.slice none 0 0]:=⟨Tryz.underlying32,by kernel_rfl⟩
theorem ty33 : Ty Tryz.prog 33 (.slice 31) 1 24 [.slice none 0 0]:=⟨Tryz.underlying33,by kernel_rfl⟩
theorem ty34 : Ty Tryz.prog 34 (.slice 134) 1 24 [.slice none 0 0]:=⟨Tryz.underlying34,by kernel_rfl⟩
theorem ty35 : Ty Tryz.prog 35 (.slice 137) 1 24 [.slice none 0 0]:=⟨Tryz.underlying35,by kernel_rfl⟩
theorem Yi : Ty Tryz.prog 37 (.array 32 5) 32 32 (enc (Vector.replicate 32 (0 : UInt8))):=⟨Tryz.underlying37,by kernel_rfl⟩
theorem Qj : Ty Tryz.prog 39 (.struct [{ name := "Keys", type := 33, offset := 0, embedded := false, tag := "", pkgPath := "", byteOffset := 0 }, { name := "Next", type := 2, offset := 1, embedded := false, tag := "", pkgPath := "", byteOffset := 24 }, { name := "Records", type := 34, offset := 2, embedded := false, tag := "", pkgPath := "", byteOffset := 32 }, { name := "Events", type := 35, offset := 3, embedded := false, tag := "", pkgPath := "", byteOffset := 56 }, { name := "Head", type := 37, offset := 4, embedded := false, tag := "", pkgPath := "", byteOffset := 80 }].toArray) 36 112 (cat [[.slice none 0 0], (enc (0 : Int)), [.slice none 0 0], [.slice none 0 0], (enc (Vector.replicate 32 (0 : UInt8)))]) := ⟨Tryz.underlying39, by kernel_rfl⟩
theorem ty40 : Ty Tryz.prog 40 (.slice 37) 1 24 [.slice none 0 0]:=⟨Tryz.underlying40,by kernel_rfl⟩
theorem ty41 : Ty Tryz.prog 41 (.slice 32) 1 24 [.slice none 0 0]:=⟨Tryz.underlying41,by kernel_rfl⟩
theorem ty42 : Ty Tryz.prog 42 (.slice 2) 1 24 [.slice none 0 0]:=⟨Tryz.underlying42,by kernel_rfl⟩
theorem B3 : Ty Tryz.prog 44 (.struct [{ name := "Keys", type := 40, offset := 0, embedded := false, tag := "", pkgPath := "", byteOffset := 0 }, { name := "Data", type := 41, offset := 1, embedded := false, tag := "", pkgPath := "", byteOffset := 24 }, { name := "Counts", type := 42, offset := 2, embedded := false, tag := "", pkgPath := "", byteOffset := 48 }].toArray) 3 72 (cat [[.slice none 0 0], [.slice none 0 0], [.slice none 0 0]]) := ⟨Tryz.underlying44, by kernel_rfl⟩
theorem UT : Ty Tryz.prog 46 (.struct [{ name := "Cipher", type := 30, offset := 0, embedded := false, tag := "", pkgPath := "", byteOffset := 0 }, { name := "Key", type := 31, offset := 290, embedded := false, tag := "", pkgPath := "", byteOffset := 304 }, { name := "Start", type := 31, offset := 306, embedded := false, tag := "", pkgPath := "", byteOffset := 320 }, { name := "Data", type := 32, offset := 322, embedded := false, tag := "", pkgPath := "", byteOffset := 336 }, { name := "Vault", type := 39, offset := 323, embedded := false, tag := "", pkgPath := "", byteOffset := 360 }, { name := "Blobs", type := 44, offset := 359, embedded := false, tag := "", pkgPath := "", byteOffset := 472 }].toArray) 362 544 (cat [(enc (⟨(0 : Int), (Vector.replicate 256 (0 : UInt8)), (Vector.replicate 4 (Vector.replicate 4 (0 : UInt8))), (Vector.replicate 16 (0 : UInt8)), (0 : Int)⟩ : GCipher)), (enc (Vector.replicate 16 (0 : UInt8))), (enc (Vector.replicate 16 (0 : UInt8))), [.slice none 0 0], (cat [[.slice none 0 0], (enc (0 : Int)), [.slice none 0 0], [.slice none 0 0], (enc (Vector.replicate 32 (0 : UInt8)))]), (cat [[.slice none 0 0], [.slice none 0 0], [.slice none 0 0]])]) := ⟨Tryz.underlying46, by kernel_rfl⟩
theorem Ur : Ty Tryz.prog 134 (.struct [{ name := "Number", type := 2, offset := 0, embedded := false, tag := "", pkgPath := "", byteOffset := 0 }, { name := "Version", type := 2, offset := 1, embedded := false, tag := "", pkgPath := "", byteOffset := 8 }, { name := "Nonce", type := 31, offset := 2, embedded := false, tag := "", pkgPath := "", byteOffset := 16 }, { name := "Label", type := 32, offset := 18, embedded := false, tag := "", pkgPath := "", byteOffset := 32 }, { name := "Body", type := 32, offset := 19, embedded := false, tag := "", pkgPath := "", byteOffset := 56 }, { name := "Tag", type := 37, offset := 20, embedded := false, tag := "", pkgPath := "", byteOffset := 80 }].toArray) 52 112 (cat [(enc (0 : Int)), (enc (0 : Int)), (enc (Vector.replicate 16 (0 : UInt8))), [.slice none 0 0], [.slice none 0 0], (enc (Vector.replicate 32 (0 : UInt8)))]) := ⟨Tryz.underlying134, by kernel_rfl⟩
theorem U2 : Ty Tryz.prog 137 (.struct [{ name := "Kind", type := 2, offset := 0, embedded := false, tag := "", pkgPath := "", byteOffset := 0 }, { name := "Number", type := 2, offset := 1, embedded := false, tag := "", pkgPath := "", byteOffset := 8 }, { name := "Tag", type := 37, offset := 2, embedded := false, tag := "", pkgPath := "", byteOffset := 16 }].toArray) 34 48 (enc (⟨(0 : Int), (0 : Int), (Vector.replicate 32 (0 : UInt8))⟩ : GEvent)) := ⟨Tryz.underlying137, by kernel_rfl⟩
theorem yM : Ty Tryz.prog 195 (.pointer 207) 1 8 [.pointer none]:=⟨Tryz.underlying195,by kernel_rfl⟩
theorem Jo : Ty Tryz.prog 198 (.struct [{ name := "box", type := 23, offset := 0, embedded := false, tag := "", pkgPath := "loop.example/g01182/impl", byteOffset := 0 }, { name := "backBox", type := 23, offset := 256, embedded := false, tag := "", pkgPath := "loop.example/g01182/impl", byteOffset := 256 }, { name := "places", type := 28, offset := 512, embedded := false, tag := "", pkgPath := "loop.example/g01182/impl", byteOffset := 512 }, { name := "backPlaces", type := 28, offset := 528, embedded := false, tag := "", pkgPath := "loop.example/g01182/impl", byteOffset := 528 }, { name := "mixer", type := 195, offset := 544, embedded := false, tag := "", pkgPath := "loop.example/g01182/impl", byteOffset := 544 }, { name := "backMixer", type := 195, offset := 545, embedded := false, tag := "", pkgPath := "loop.example/g01182/impl", byteOffset := 552 }, { name := "rounds", type := 2, offset := 546, embedded := false, tag := "", pkgPath := "loop.example/g01182/impl", byteOffset := 560 }].toArray) 547 568 (cat [(enc (Vector.replicate 256 (0 : UInt8))), (enc (Vector.replicate 256 (0 : UInt8))), (enc (Vector.replicate 16 (0 : UInt8))), (enc (Vector.replicate 16 (0 : UInt8))), [.pointer none], [.pointer none], (enc (0 : Int))]) := ⟨Tryz.underlying198, by kernel_rfl⟩
theorem Ha : Ty Tryz.prog 205 (.array 4 22) 1024 1024 (enc (Vector.replicate 4 (Vector.replicate 256 (0 : UInt8)))):=⟨Tryz.underlying205,by kernel_rfl⟩
theorem ty207 : Ty Tryz.prog 207 (.array 4 205) 4096 4096 (enc (Vector.replicate 4 (Vector.replicate 4 (Vector.replicate 256 (0 : UInt8))))):=⟨Tryz.underlying207,by kernel_rfl⟩
theorem K8 : Fd Tryz.prog 30 0 0:=Xk UW.und rfl rfl ty2 (by decide)
theorem Qw : Fd Tryz.prog 30 1 1:=Xk UW.und rfl rfl Ve (by decide)
theorem Kb : Fd Tryz.prog 30 2 257:=Xk UW.und rfl rfl Ti (by decide)
theorem Q3 : Fd Tryz.prog 30 3 273:=Xk UW.und rfl rfl Qg (by decide)
theorem Hx : Fd Tryz.prog 30 4 289:=Xk UW.und rfl rfl ty2 (by decide)
theorem BZ : Fd Tryz.prog 39 0 0:=Xk Qj.und rfl rfl ty33 (by decide)
theorem z7 : Fd Tryz.prog 39 1 1:=Xk Qj.und rfl rfl ty2 (by decide)
theorem BO : Fd Tryz.prog 39 2 2:=Xk Qj.und rfl rfl ty34 (by decide)
theorem Bz : Fd Tryz.prog 39 3 3:=Xk Qj.und rfl rfl ty35 (by decide)
theorem yf : Fd Tryz.prog 39 4 4:=Xk Qj.und rfl rfl Yi (by decide)
theorem BG : Fd Tryz.prog 44 0 0:=Xk B3.und rfl rfl ty40 (by decide)
theorem BS : Fd Tryz.prog 44 1 1:=Xk B3.und rfl rfl ty41 (by decide)
theorem B0 : Fd Tryz.prog 44 2 2:=Xk B3.und rfl rfl ty42 (by decide)
theorem yn : Fd Tryz.prog 46 0 0:=Xk UT.und rfl rfl UW (by decide)
theorem yI : Fd Tryz.prog 46 1 290:=Xk UT.und rfl rfl ZG (by decide)
theorem yA : Fd Tryz.prog 46 2 306:=Xk UT.und rfl rfl ZG (by decide)
theorem BU : Fd Tryz.prog 46 3 322:=Xk UT.und rfl rfl UU (by decide)
theorem BD : Fd Tryz.prog 46 4 323:=Xk UT.und rfl rfl Qj (by decide)
theorem BN : Fd Tryz.prog 46 5 359:=Xk UT.und rfl rfl B3 (by decide)
theorem J2 : Fd Tryz.prog 134 0 0:=Xk Ur.und rfl rfl ty2 (by decide)
theorem JW : Fd Tryz.prog 134 1 1:=Xk Ur.und rfl rfl ty2 (by decide)
theorem JU : Fd Tryz.prog 134 2 2:=Xk Ur.und rfl rfl ZG (by decide)
theorem J0 : Fd Tryz.prog 134 3 18:=Xk Ur.und rfl rfl UU (by decide)
theorem JQ : Fd Tryz.prog 134 4 19:=Xk Ur.und rfl rfl UU (by decide)
theorem JX : Fd Tryz.prog 134 5 20:=Xk Ur.und rfl rfl Yi (by decide)
theorem QC : Fd Tryz.prog 137 0 0:=Xk U2.und rfl rfl ty2 (by decide)
theorem QJ : Fd Tryz.prog 137 1 1:=Xk U2.und rfl rfl ty2 (by decide)
theorem QD : Fd Tryz.prog 137 2 2:=Xk U2.und rfl rfl Yi (by decide)
theorem BM : Fd Tryz.prog 198 0 0:=Xk Jo.und rfl rfl Ve (by decide)
theorem fd198_1 : Fd Tryz.prog 198 1 256:=Xk Jo.und rfl rfl Ve (by decide)
theorem yU : Fd Tryz.prog 198 2 512:=Xk Jo.und rfl rfl Qg (by decide)
theorem fd198_3 : Fd Tryz.prog 198 3 528:=Xk Jo.und rfl rfl Qg (by decide)
theorem y8 : Fd Tryz.prog 198 4 544:=Xk Jo.und rfl rfl yM (by decide)
theorem fd198_5 : Fd Tryz.prog 198 5 545:=Xk Jo.und rfl rfl yM (by decide)
theorem jf : Fd Tryz.prog 198 6 546:=Xk Jo.und rfl rfl ty2 (by decide)
theorem pl30 : Places Tryz.prog [{ name := "Field", type := 2, offset := 0, embedded := false, tag := "", pkgPath := "", byteOffset := 0 }, { name := "Box", type := 23, offset := 1, embedded := false, tag := "", pkgPath := "", byteOffset := 8 }, { name := "Mix", type := 26, offset := 257, embedded := false, tag := "", pkgPath := "", byteOffset := 264 }, { name := "Places", type := 28, offset := 273, embedded := false, tag := "", pkgPath := "", byteOffset := 280 }, { name := "Rounds", type := 2, offset := 289, embedded := false, tag := "", pkgPath := "", byteOffset := 296 }] [(0, 1), (1, 256), (257, 16), (273, 16), (289, 1)] := by show _ = _; kernel_rfl
theorem pl39 : Places Tryz.prog [{ name := "Keys", type := 33, offset := 0, embedded := false, tag := "", pkgPath := "", byteOffset := 0 }, { name := "Next", type := 2, offset := 1, embedded := false, tag := "", pkgPath := "", byteOffset := 24 }, { name := "Records", type := 34, offset := 2, embedded := false, tag := "", pkgPath := "", byteOffset := 32 }, { name := "Events", type := 35, offset := 3, embedded := false, tag := "", pkgPath := "", byteOffset := 56 }, { name := "Head", type := 37, offset := 4, embedded := false, tag := "", pkgPath := "", byteOffset := 80 }] [(0, 1), (1, 1), (2, 1), (3, 1), (4, 32)] := by show _ = _; kernel_rfl
theorem pl46 : Places Tryz.prog [{ name := "Cipher", type := 30, offset := 0, embedded := false, tag := "", pkgPath := "", byteOffset := 0 }, { name := "Key", type := 31, offset := 290, embedded := false, tag := "", pkgPath := "", byteOffset := 304 }, { name := "Start", type := 31, offset := 306, embedded := false, tag := "", pkgPath := "", byteOffset := 320 }, { name := "Data", type := 32, offset := 322, embedded := false, tag := "", pkgPath := "", byteOffset := 336 }, { name := "Vault", type := 39, offset := 323, embedded := false, tag := "", pkgPath := "", byteOffset := 360 }, { name := "Blobs", type := 44, offset := 359, embedded := false, tag := "", pkgPath := "", byteOffset := 472 }] [(0, 290), (290, 16), (306, 16), (322, 1), (323, 36), (359, 3)] := by show _ = _; kernel_rfl
theorem pl198 : Places Tryz.prog [{ name := "box", type := 23, offset := 0, embedded := false, tag := "", pkgPath := "loop.example/g01182/impl", byteOffset := 0 }, { name := "backBox", type := 23, offset := 256, embedded := false, tag := "", pkgPath := "loop.example/g01182/impl", byteOffset := 256 }, { name := "places", type := 28, offset := 512, embedded := false, tag := "", pkgPath := "loop.example/g01182/impl", byteOffset := 512 }, { name := "backPlaces", type := 28, offset := 528, embedded := false, tag := "", pkgPath := "loop.example/g01182/impl", byteOffset := 528 }, { name := "mixer", type := 195, offset := 544, embedded := false, tag := "", pkgPath := "loop.example/g01182/impl", byteOffset := 544 }, { name := "backMixer", type := 195, offset := 545, embedded := false, tag := "", pkgPath := "loop.example/g01182/impl", byteOffset := 552 }, { name := "rounds", type := 2, offset := 546, embedded := false, tag := "", pkgPath := "loop.example/g01182/impl", byteOffset := 560 }] [(0, 256), (256, 256), (512, 16), (528, 16), (544, 1), (545, 1), (546, 1)] := by show _ = _; kernel_rfl
theorem YN : Tryz.prog.follows .mixedOrders = true:=by kernel_rfl
theorem cb5 : Callable Tryz.prog 5:=⟨_,_,Tryz.func5,by decide,rfl⟩
theorem cb6 : Callable Tryz.prog 6:=⟨_,_,Tryz.func6,by decide,rfl⟩
theorem cb7 : Callable Tryz.prog 7:=⟨_,_,Tryz.func7,by decide,rfl⟩
theorem cb8 : Callable Tryz.prog 8:=⟨_,_,Tryz.func8,by decide,rfl⟩
theorem cb9 : Callable Tryz.prog 9:=⟨_,_,Tryz.func9,by decide,rfl⟩
theorem cb14 : Callable Tryz.prog 14:=⟨_,_,Tryz.func14,by decide,rfl⟩
theorem cb15 : Callable Tryz.prog 15:=⟨_,_,Tryz.func15,by decide,rfl⟩
theorem cb16 : Callable Tryz.prog 16:=⟨_,_,Tryz.func16,by decide,rfl⟩
theorem cb17 : Callable Tryz.prog 17:=⟨_,_,Tryz.func17,by decide,rfl⟩
theorem cb18 : Callable Tryz.prog 18:=⟨_,_,Tryz.func18,by decide,rfl⟩
theorem cb19 : Callable Tryz.prog 19:=⟨_,_,Tryz.func19,by decide,rfl⟩
theorem cb20 : Callable Tryz.prog 20:=⟨_,_,Tryz.func20,by decide,rfl⟩
theorem cb21 : Callable Tryz.prog 21:=⟨_,_,Tryz.func21,by decide,rfl⟩
theorem cb22 : Callable Tryz.prog 22:=⟨_,_,Tryz.func22,by decide,rfl⟩
theorem cb23 : Callable Tryz.prog 23:=⟨_,_,Tryz.func23,by decide,rfl⟩
theorem cb24 : Callable Tryz.prog 24:=⟨_,_,Tryz.func24,by decide,rfl⟩
theorem cb25 : Callable Tryz.prog 25:=⟨_,_,Tryz.func25,by decide,rfl⟩
theorem cb26 : Callable Tryz.prog 26:=⟨_,_,Tryz.func26,by decide,rfl⟩
theorem cb27 : Callable Tryz.prog 27:=⟨_,_,Tryz.func27,by decide,rfl⟩
theorem cb42 : Callable Tryz.prog 42:=⟨_,_,Tryz.func42,by decide,rfl⟩
theorem cb43 : Callable Tryz.prog 43:=⟨_,_,Tryz.func43,by decide,rfl⟩
theorem cb44 : Callable Tryz.prog 44:=⟨_,_,Tryz.func44,by decide,rfl⟩
theorem cb45 : Callable Tryz.prog 45:=⟨_,_,Tryz.func45,by decide,rfl⟩
theorem cb46 : Callable Tryz.prog 46:=⟨_,_,Tryz.func46,by decide,rfl⟩
theorem cb47 : Callable Tryz.prog 47:=⟨_,_,Tryz.func47,by decide,rfl⟩
theorem cb48 : Callable Tryz.prog 48:=⟨_,_,Tryz.func48,by decide,rfl⟩
theorem cb49 : Callable Tryz.prog 49:=⟨_,_,Tryz.func49,by decide,rfl⟩
theorem cb50 : Callable Tryz.prog 50:=⟨_,_,Tryz.func50,by decide,rfl⟩
theorem cb51 : Callable Tryz.prog 51:=⟨_,_,Tryz.func51,by decide,rfl⟩
theorem cb52 : Callable Tryz.prog 52:=⟨_,_,Tryz.func52,by decide,rfl⟩
theorem cb53 : Callable Tryz.prog 53:=⟨_,_,Tryz.func53,by decide,rfl⟩
theorem cb54 : Callable Tryz.prog 54:=⟨_,_,Tryz.func54,by decide,rfl⟩
theorem cb55 : Callable Tryz.prog 55:=⟨_,_,Tryz.func55,by decide,rfl⟩
theorem cb56 : Callable Tryz.prog 56:=⟨_,_,Tryz.func56,by decide,rfl⟩
theorem cb57 : Callable Tryz.prog 57:=⟨_,_,Tryz.func57,by decide,rfl⟩
theorem cb58 : Callable Tryz.prog 58:=⟨_,_,Tryz.func58,by decide,rfl⟩
theorem cb59 : Callable Tryz.prog 59:=⟨_,_,Tryz.func59,by decide,rfl⟩
theorem cb60 : Callable Tryz.prog 60:=⟨_,_,Tryz.func60,by decide,rfl⟩
theorem cb61 : Callable Tryz.prog 61:=⟨_,_,Tryz.func61,by decide,rfl⟩
theorem cb62 : Callable Tryz.prog 62:=⟨_,_,Tryz.func62,by decide,rfl⟩
theorem cb63 : Callable Tryz.prog 63:=⟨_,_,Tryz.func63,by decide,rfl⟩
theorem cb64 : Callable Tryz.prog 64:=⟨_,_,Tryz.func64,by decide,rfl⟩
theorem cb65 : Callable Tryz.prog 65:=⟨_,_,Tryz.func65,by decide,rfl⟩
theorem cb66 : Callable Tryz.prog 66:=⟨_,_,Tryz.func66,by decide,rfl⟩
theorem cb67 : Callable Tryz.prog 67:=⟨_,_,Tryz.func67,by decide,rfl⟩
theorem cb68 : Callable Tryz.prog 68:=⟨_,_,Tryz.func68,by decide,rfl⟩
theorem cb69 : Callable Tryz.prog 69:=⟨_,_,Tryz.func69,by decide,rfl⟩
theorem cb105 : Callable Tryz.prog 105:=⟨_,_,Tryz.func105,by decide,rfl⟩
theorem cb106 : Callable Tryz.prog 106:=⟨_,_,Tryz.func106,by decide,rfl⟩
theorem cb107 : Callable Tryz.prog 107:=⟨_,_,Tryz.func107,by decide,rfl⟩
theorem cb108 : Callable Tryz.prog 108:=⟨_,_,Tryz.func108,by decide,rfl⟩
theorem cb109 : Callable Tryz.prog 109:=⟨_,_,Tryz.func109,by decide,rfl⟩
theorem cb110 : Callable Tryz.prog 110:=⟨_,_,Tryz.func110,by decide,rfl⟩
theorem cb111 : Callable Tryz.prog 111:=⟨_,_,Tryz.func111,by decide,rfl⟩
theorem cb112 : Callable Tryz.prog 112:=⟨_,_,Tryz.func112,by decide,rfl⟩
theorem cb113 : Callable Tryz.prog 113:=⟨_,_,Tryz.func113,by decide,rfl⟩
theorem cb114 : Callable Tryz.prog 114:=⟨_,_,Tryz.func114,by decide,rfl⟩
theorem cb115 : Callable Tryz.prog 115:=⟨_,_,Tryz.func115,by decide,rfl⟩
theorem cb116 : Callable Tryz.prog 116:=⟨_,_,Tryz.func116,by decide,rfl⟩
theorem cb122 : Callable Tryz.prog 122:=⟨_,_,Tryz.func122,by decide,rfl⟩
theorem cb126 : Callable Tryz.prog 126:=⟨_,_,Tryz.func126,by decide,rfl⟩
theorem cb128 : Callable Tryz.prog 128:=⟨_,_,Tryz.func128,by decide,rfl⟩
theorem Am : Callable Tryz.prog 134:=⟨_,_,Tryz.func134,by decide,rfl⟩
theorem cb135 : Callable Tryz.prog 135:=⟨_,_,Tryz.func135,by decide,rfl⟩
theorem cb136 : Callable Tryz.prog 136:=⟨_,_,Tryz.func136,by decide,rfl⟩
theorem cb137 : Callable Tryz.prog 137:=⟨_,_,Tryz.func137,by decide,rfl⟩
theorem cb138 : Callable Tryz.prog 138:=⟨_,_,Tryz.func138,by decide,rfl⟩
theorem Jk : Callable Tryz.prog 139:=⟨_,_,Tryz.func139,by decide,rfl⟩
theorem cb140 : Callable Tryz.prog 140:=⟨_,_,Tryz.func140,by decide,rfl⟩
theorem cb141 : Callable Tryz.prog 141:=⟨_,_,Tryz.func141,by decide,rfl⟩
theorem cb142 : Callable Tryz.prog 142:=⟨_,_,Tryz.func142,by decide,rfl⟩
theorem cb143 : Callable Tryz.prog 143:=⟨_,_,Tryz.func143,by decide,rfl⟩
theorem cb144 : Callable Tryz.prog 144:=⟨_,_,Tryz.func144,by decide,rfl⟩
theorem cb145 : Callable Tryz.prog 145:=⟨_,_,Tryz.func145,by decide,rfl⟩
theorem cb148 : Callable Tryz.prog 148:=⟨_,_,Tryz.func148,by decide,rfl⟩
theorem cb149 : Callable Tryz.prog 149:=⟨_,_,Tryz.func149,by decide,rfl⟩
theorem cb150 : Callable Tryz.prog 150:=⟨_,_,Tryz.func150,by decide,rfl⟩
theorem cb151 : Callable Tryz.prog 151:=⟨_,_,Tryz.func151,by decide,rfl⟩
theorem cb153 : Callable Tryz.prog 153:=⟨_,_,Tryz.func153,by decide,rfl⟩
theorem cb156 : Callable Tryz.prog 156:=⟨_,_,Tryz.func156,by decide,rfl⟩
theorem cb157 : Callable Tryz.prog 157:=⟨_,_,Tryz.func157,by decide,rfl⟩
theorem cb158 : Callable Tryz.prog 158:=⟨_,_,Tryz.func158,by decide,rfl⟩
theorem cb159 : Callable Tryz.prog 159:=⟨_,_,Tryz.func159,by decide,rfl⟩
theorem cb160 : Callable Tryz.prog 160:=⟨_,_,Tryz.func160,by decide,rfl⟩
theorem cb161 : Callable Tryz.prog 161:=⟨_,_,Tryz.func161,by decide,rfl⟩
theorem cb162 : Callable Tryz.prog 162:=⟨_,_,Tryz.func162,by decide,rfl⟩
theorem Bg : Callable Tryz.prog 163:=⟨_,_,Tryz.func163,by decide,rfl⟩
theorem cb164 : Callable Tryz.prog 164:=⟨_,_,Tryz.func164,by decide,rfl⟩
theorem cb165 : Callable Tryz.prog 165:=⟨_,_,Tryz.func165,by decide,rfl⟩
theorem cb166 : Callable Tryz.prog 166:=⟨_,_,Tryz.func166,by decide,rfl⟩
theorem Bk : Callable Tryz.prog 167:=⟨_,_,Tryz.func167,by decide,rfl⟩
theorem cb168 : Callable Tryz.prog 168:=⟨_,_,Tryz.func168,by decide,rfl⟩
theorem cb171 : Callable Tryz.prog 171:=⟨_,_,Tryz.func171,by decide,rfl⟩
theorem cb172 : Callable Tryz.prog 172:=⟨_,_,Tryz.func172,by decide,rfl⟩
theorem cb173 : Callable Tryz.prog 173:=⟨_,_,Tryz.func173,by decide,rfl⟩
theorem cb174 : Callable Tryz.prog 174:=⟨_,_,Tryz.func174,by decide,rfl⟩
theorem cb175 : Callable Tryz.prog 175:=⟨_,_,Tryz.func175,by decide,rfl⟩
theorem cb176 : Callable Tryz.prog 176:=⟨_,_,Tryz.func176,by decide,rfl⟩
theorem cb178 : Callable Tryz.prog 178:=⟨_,_,Tryz.func178,by decide,rfl⟩
theorem cb179 : Callable Tryz.prog 179:=⟨_,_,Tryz.func179,by decide,rfl⟩
theorem cb180 : Callable Tryz.prog 180:=⟨_,_,Tryz.func180,by decide,rfl⟩
theorem cb181 : Callable Tryz.prog 181:=⟨_,_,Tryz.func181,by decide,rfl⟩
def YK (p0 : Int) (s4 : Int × Int × Int) : Option (Fl (Int × Int × Int) Int) :=
 if (decide (s4.2.2 > 0)) = true then (((if ((Int.tmod s4.2.2 2) == 1) = true then (some (T8 s4.1 s4.2.1)) else (some s4.1) : Option (Int)).bind fun j12=>(if (decide ((wr (s4.2.1 * 2)) ≥ 256)) = true then (some (T8 (wr (s4.2.1 * 2)) p0)) else (some (wr (s4.2.1 * 2))) : Option (Int)).bind fun j18=>some (j12,j18) : Option (Int × Int)).bind fun j9=>some (Fl.nx (j9.1,j9.2,wr (Int.tdiv s4.2.2 2)))) else (some (Fl.ex s4.1))
def Yt (p0 : Int) (p1 : UInt8) (p2 : UInt8) : Option (UInt8) :=
 (ZE (YK p0) (0,bI p1,bI p2)).bind fun j1=>some (Zx j1)
theorem Vn (w0 : World) (p0 : Int) (p1 : UInt8) (p2 : UInt8) (r : UInt8) (hF : Yt p0 p1 p2 = some r) :
  Calls Tryz.prog 134 [vI p0,vB p1,vB p2].toArray w0 (fun en w'=>∃ v,en = .returned v ∧ (v = (vB r) ∧ Kept (Old w0) w0 w')):=by
 refine ZB (n:=33) Tryz.func134 rfl rfl (nbl rfl) rfl ?_
 intro a hE
 have hM:=M.start w0
 unfold Yt at hF
 refine Zc (Ze hE Za ld rfl fun a hE=>Zf (Zc (Zd hE Za ld rfl fun a hE=>Yb hE Za ld rfl Tryz.underlying5 Tryz.underlying2 ?_))); intro a hE
 rw [QK] at hE
 refine Ze hE Za ld rfl fun a hE=>Ze hE Za ld rfl fun a hE=>Zf (wp_seq (Zc (Zd hE Za ld rfl fun a hE=>Yb hE Za ld rfl Tryz.underlying5 Tryz.underlying2 ?_))); intro a hE
 rw [QK] at hE
 refine Ze hE Za ld rfl fun a hE=>Zf ?_
 obtain ⟨j1,hl2,hF3⟩:=bind_some hF
 refine ZL (fun a w=>Env 33 a [(7,vI j1)] ∧ M (Old w0) w0 w []) ?_ ?_
 ·skip
  refine wp_block ?_
  refine ZC (fun (s4 : Int × Int × Int) a w=>Env 33 a [(0,vI p0),(7,vI s4.1),(8,vI s4.2.1),(9,vI s4.2.2)] ∧ M (Old w0) w0 w []) hl2 ⟨hE.sub ⟨rfl,rfl,rfl,rfl,trivial⟩,hM⟩ ?_
  rintro s4 a w ⟨hE,hM⟩ o7 hs5 hx6
  unfold YK at hs5
  refine wp_seq (Zc (Zd hE Za ld rfl fun a hE=>Zi hE Za ld rfl rfl rfl fun a hE=>Zf ?_))
  refine Zp hE rfl ?_ ?_
  ·intro hb8
   have hs5:=Zz hs5 hb8
   refine wp_skip (Zu ?_)
   obtain ⟨j9,hl10,hF11⟩:=bind_some hs5
   refine ZQ (fun a w=>Env 33 a [(0,vI p0),(7,vI j9.1),(8,vI j9.2),(9,vI s4.2.2)] ∧ M (Old w0) w0 w []) ?_ ?_
   ·skip
    refine wp_block ?_
    obtain ⟨j12,hl13,hF14⟩:=bind_some hl10
    refine ZQ (fun a w=>Env 33 a [(0,vI p0),(7,vI j12),(8,vI s4.2.1),(9,vI s4.2.2)] ∧ M (Old w0) w0 w []) ?_ ?_
    ·skip
     refine Zc (Zd hE Za ld rfl fun a hE=>Zi hE Za ld rfl rfl (TO _ _ (by decide)) fun a hE=>Zi hE Za ld rfl rfl rfl fun a hE=>Zf ?_)
     refine Zp hE rfl ?_ ?_
     ·intro hb15
      have hl13:=Zz hl13 hb15
      refine wp_region_lit (Zd hE Za ld rfl fun a hE=>Zd hE Za ld rfl fun a hE=>Zi hE Za ld rfl rfl rfl fun a hE=>Ze hE Za ld rfl fun a hE=>Zj ?_)
      have ht16:=Option.some.inj hl13
      subst ht16
      refine Zl ?_
      exact ⟨hE.sub ⟨rfl,rfl,rfl,rfl,trivial⟩,hM⟩
     ·intro hb15
      have hl13:=Zy hl13 hb15
      refine wp_skip ?_
      have ht17:=Option.some.inj hl13
      subst ht17
      refine Zl ?_
      exact ⟨hE.sub ⟨rfl,rfl,rfl,rfl,trivial⟩,hM⟩
    ·skip
     rintro a w ⟨hE,hM⟩
     refine Zc (Zd hE Za ld rfl fun a hE=>Zi hE Za ld rfl rfl rfl fun a hE=>Ze hE Za ld rfl fun a hE=>Zf (Zc (Zd hE Za ld rfl fun a hE=>Zi hE Za ld rfl rfl rfl fun a hE=>Zf ?_)))
     obtain ⟨j18,hl19,hF20⟩:=bind_some hF14
     refine ZL (fun a w=>Env 33 a [(0,vI p0),(7,vI j12),(8,vI j18),(9,vI s4.2.2)] ∧ M (Old w0) w0 w []) ?_ ?_
     ·skip
      refine Zp hE rfl ?_ ?_
      ·intro hb21
       have hl19:=Zz hl19 hb21
       refine wp_region_lit (Zd hE Za ld rfl fun a hE=>Zd hE Za ld rfl fun a hE=>Zi hE Za ld rfl rfl rfl fun a hE=>Ze hE Za ld rfl fun a hE=>Zj ?_)
       have ht22:=Option.some.inj hl19
       subst ht22
       refine Zl ?_
       exact ⟨hE.sub ⟨rfl,rfl,rfl,rfl,trivial⟩,hM⟩
      ·intro hb21
       have hl19:=Zy hl19 hb21
       refine wp_skip ?_
       have ht23:=Option.some.inj hl19
       subst ht23
       refine Zl ?_
       exact ⟨hE.sub ⟨rfl,rfl,rfl,rfl,trivial⟩,hM⟩
     ·skip
      rintro a w ⟨hE,hM⟩
      refine ZZ ?_
      have ht24:=Option.some.inj hF20
      subst ht24
      refine Zl ?_
      exact ⟨hE.sub ⟨rfl,rfl,rfl,rfl,trivial⟩,hM⟩
   ·skip
    rintro a w ⟨hE,hM⟩
    refine wp_region_lit (Zd hE Za ld rfl fun a hE=>Zi hE Za ld rfl rfl (BE _ _ (by decide)) fun a hE=>Ze hE Za ld rfl fun a hE=>Zj (Zl ?_))
    exact ⟨_,(ois hF11),hE.sub ⟨rfl,rfl,rfl,rfl,trivial⟩,hM⟩
  ·intro hb8
   have hs5:=Zy hs5 hb8
   refine wp_exit (Zm (Zm (Z0 ?_)))
   have ht25:=hx6 _ (ois hs5)
   subst ht25
   refine Zl ?_
   exact ⟨hE.sub ⟨rfl,trivial⟩,hM⟩
 ·skip
  rintro a w ⟨hE,hM⟩
  refine Zu (Zc (Zd hE Za ld rfl fun a hE=>Yb hE Za ld rfl Tryz.underlying2 Tryz.underlying5 ?_)); intro a hE
  rw [ZN] at hE
  refine Ze hE Za ld rfl fun a hE=>Zf ?_
  have hr:=Option.some.inj hF3
  subst hr
  exact wp_ret (Zt hE rfl (Zs hE rfl) ⟨_,rfl,rfl,hM.kept⟩)
def WR (p0 : Int) (s16 : UInt8 × UInt8 × Int) : Option (Fl (UInt8 × UInt8 × Int) UInt8) :=
 if (decide (s16.2.2 > 0)) = true then (((if ((Int.tmod s16.2.2 2) == 1) = true then ((Yt p0 s16.1 s16.2.1).bind fun r28=>some r28) else (some s16.1) : Option (UInt8)).bind fun j24=>(Yt p0 s16.2.1 s16.2.1).bind fun r32=>some (j24,r32) : Option (UInt8 × UInt8)).bind fun j21=>some (Fl.nx (j21.1,j21.2,wr (Int.tdiv s16.2.2 2)))) else (some (Fl.ex s16.1))
def WY (p0 : Int) (p1 : Int) (s8 : (Vector UInt8 256) × Int) : Option (Fl ((Vector UInt8 256) × Int) (Vector UInt8 256)) :=
 if (decide (s8.2 < 256)) = true then ((ZE (WR p0) (1,Zx s8.2,p1)).bind fun j13=>(ZI s8.1 s8.2).bind fun x37=>some (Fl.nx ((s8.1.setIfInBounds (s8.2).toNat j13),wr (s8.2 + 1)))) else (some (Fl.ex s8.1))
def Vq (p0 : Int) (p1 : Int) : Option ((Vector UInt8 256)) :=
 (ZE (WY p0 p1) ((Vector.replicate 256 (0 : UInt8)),0)).bind fun j5=>some j5
theorem Jy (w0 : World) (p0 : Int) (p1 : Int) (r : (Vector UInt8 256)) (hF : Vq p0 p1 = some r) :
  Calls Tryz.prog 106 [vI p0,vI p1].toArray w0 (fun en w'=>∃ v,en = .returned v ∧ (v = (Value.agg (enc r).toArray) ∧ Kept (Old w0) w0 w')):=by
 refine ZB (n:=37) Tryz.func106 rfl rfl (nbl rfl) rfl ?_
 intro a hE
 have hM:=M.start w0
 unfold Vq at hF
 refine Zc (ZH hE hM Za ld Ve fun b1 w a hM hE=>Zf (Zc (YT (parts:=[]) (vs:=[]) (cs:=enc (Vector.replicate 256 (0 : UInt8))) hE Za ld rfl rfl Ve rfl ty5 Yw fun a hE=>ZH hE hM Za ld Ve fun b3 w a hM hE=>Zv (seg:=enc (Vector.replicate 256 (0 : UInt8))) (cs':=enc (Vector.replicate 256 (0 : UInt8))) hE hM Za rfl rfl rfl Ve (Flat.len _) (zle flq) (Flat.cell _) (Zr flq) fun w a hM hE=>Zf (wp_seq (Zc (Ze hE Za ld rfl fun a hE=>Zf ?_))))))
 obtain ⟨j5,hl6,hF7⟩:=bind_some hF
 refine ZL (fun a w=>Env 37 a [(4,(ptr b1 0)),(5,(ptr b3 0))] ∧ M (Old w0) w0 w [raw b3 (enc j5),raw b1 (enc (Vector.replicate 256 (0 : UInt8)))]) ?_ ?_
 ·skip
  refine wp_block ?_
  refine ZC (fun (s8 : (Vector UInt8 256) × Int) a w=>Env 37 a [(0,vI p0),(1,vI p1),(4,(ptr b1 0)),(5,(ptr b3 0)),(6,vI s8.2)] ∧ M (Old w0) w0 w [raw b3 (enc s8.1),raw b1 (enc (Vector.replicate 256 (0 : UInt8)))]) hl6 ⟨hE.sub ⟨rfl,rfl,rfl,rfl,rfl,trivial⟩,hM⟩ ?_
  rintro s8 a w ⟨hE,hM⟩ o11 hs9 hx10
  unfold WY at hs9
  refine wp_seq (Zc (Zd hE Za ld rfl fun a hE=>Zi hE Za ld rfl rfl rfl fun a hE=>Zf ?_))
  refine Zp hE rfl ?_ ?_
  ·intro hb12
   have hs9:=Zz hs9 hb12
   refine wp_skip (Zu (wp_seq (wp_block (Zc (Zd hE Za ld rfl fun a hE=>Yb hE Za ld rfl Tryz.underlying3 Tryz.underlying5 ?_))))); intro a hE
   rw [ZN] at hE
   refine Ze hE Za ld rfl fun a hE=>Ze hE Za ld rfl fun a hE=>Zf (wp_seq (Zc (Zd hE Za ld rfl fun a hE=>Ze hE Za ld rfl fun a hE=>Zf ?_)))
   obtain ⟨j13,hl14,hF15⟩:=bind_some hs9
   refine ZL (fun a w=>Env 37 a [(0,vI p0),(1,vI p1),(4,(ptr b1 0)),(5,(ptr b3 0)),(6,vI s8.2),(7,vB j13)] ∧ M (Old w0) w0 w [raw b3 (enc s8.1),raw b1 (enc (Vector.replicate 256 (0 : UInt8)))]) ?_ ?_
   ·skip
    refine wp_block ?_
    refine ZC (fun (s16 : UInt8 × UInt8 × Int) a w=>Env 37 a [(0,vI p0),(1,vI p1),(4,(ptr b1 0)),(5,(ptr b3 0)),(6,vI s8.2),(7,vB s16.1),(8,vB s16.2.1),(9,vI s16.2.2)] ∧ M (Old w0) w0 w [raw b3 (enc s8.1),raw b1 (enc (Vector.replicate 256 (0 : UInt8)))]) hl14 ⟨hE.sub ⟨rfl,rfl,rfl,rfl,rfl,rfl,rfl,rfl,trivial⟩,hM⟩ ?_
    rintro s16 a w ⟨hE,hM⟩ o19 hs17 hx18
    unfold WR at hs17
    refine wp_seq (Zc (Zd hE Za ld rfl fun a hE=>Zi hE Za ld rfl rfl rfl fun a hE=>Zf ?_))
    refine Zp hE rfl ?_ ?_
    ·intro hb20
     have hs17:=Zz hs17 hb20
     refine wp_skip (Zu ?_)
     obtain ⟨j21,hl22,hF23⟩:=bind_some hs17
     refine ZQ (fun a w=>Env 37 a [(0,vI p0),(1,vI p1),(4,(ptr b1 0)),(5,(ptr b3 0)),(6,vI s8.2),(7,vB j21.1),(8,vB j21.2),(9,vI s16.2.2)] ∧ M (Old w0) w0 w [raw b3 (enc s8.1),raw b1 (enc (Vector.replicate 256 (0 : UInt8)))]) ?_ ?_
     ·skip
      refine wp_block ?_
      obtain ⟨j24,hl25,hF26⟩:=bind_some hl22
      refine ZQ (fun a w=>Env 37 a [(0,vI p0),(1,vI p1),(4,(ptr b1 0)),(5,(ptr b3 0)),(6,vI s8.2),(7,vB j24),(8,vB s16.2.1),(9,vI s16.2.2)] ∧ M (Old w0) w0 w [raw b3 (enc s8.1),raw b1 (enc (Vector.replicate 256 (0 : UInt8)))]) ?_ ?_
      ·skip
       refine Zc (Zd hE Za ld rfl fun a hE=>Zi hE Za ld rfl rfl (TO _ _ (by decide)) fun a hE=>Zi hE Za ld rfl rfl rfl fun a hE=>Zf ?_)
       refine Zp hE rfl ?_ ?_
       ·intro hb27
        have hl25:=Zz hl25 hb27
        refine wp_region_lit (Zd hE Za ld rfl fun a hE=>Zd hE Za ld rfl fun a hE=>Zd hE Za ld rfl ?_); intro a hE
        obtain ⟨r28,e29,hl25⟩:=bind_some hl25
        refine Zw hE Za ld rfl Am (Vn _ p0 s16.1 s16.2.1 r28 e29) ?_
        rintro v w a ⟨rfl,hK⟩ hE
        have hM:=hM.keep hK
        refine Ze hE Za ld rfl fun a hE=>Zj ?_
        have ht30:=Option.some.inj hl25
        subst ht30
        refine Zl ?_
        exact ⟨hE.sub ⟨rfl,rfl,rfl,rfl,rfl,rfl,rfl,rfl,trivial⟩,hM⟩
       ·intro hb27
        have hl25:=Zy hl25 hb27
        refine wp_skip ?_
        have ht31:=Option.some.inj hl25
        subst ht31
        refine Zl ?_
        exact ⟨hE.sub ⟨rfl,rfl,rfl,rfl,rfl,rfl,rfl,rfl,trivial⟩,hM⟩
      ·skip
       rintro a w ⟨hE,hM⟩
       refine wp_region_lit (Zd hE Za ld rfl fun a hE=>Zd hE Za ld rfl fun a hE=>Zd hE Za ld rfl ?_); intro a hE
       obtain ⟨r32,e33,hF26⟩:=bind_some hF26
       refine Zw hE Za ld rfl Am (Vn _ p0 s16.2.1 s16.2.1 r32 e33) ?_
       rintro v w a ⟨rfl,hK⟩ hE
       have hM:=hM.keep hK
       refine Ze hE Za ld rfl fun a hE=>Zj (ZZ ?_)
       have ht34:=Option.some.inj hF26
       subst ht34
       refine Zl ?_
       exact ⟨hE.sub ⟨rfl,rfl,rfl,rfl,rfl,rfl,rfl,rfl,trivial⟩,hM⟩
     ·skip
      rintro a w ⟨hE,hM⟩
      refine wp_region_lit (Zd hE Za ld rfl fun a hE=>Zi hE Za ld rfl rfl (BE _ _ (by decide)) fun a hE=>Ze hE Za ld rfl fun a hE=>Zj (Zl ?_))
      exact ⟨_,(ois hF23),hE.sub ⟨rfl,rfl,rfl,rfl,rfl,rfl,rfl,rfl,trivial⟩,hM⟩
    ·intro hb20
     have hs17:=Zy hs17 hb20
     refine wp_exit (Zm (Zm (Z0 ?_)))
     have ht35:=hx18 _ (ois hs17)
     subst ht35
     refine Zl ?_
     exact ⟨hE.sub ⟨rfl,rfl,rfl,rfl,rfl,rfl,trivial⟩,hM⟩
   ·skip
    rintro a w ⟨hE,hM⟩
    refine Zu (wp_region_lit (Zd hE Za ld rfl fun a hE=>Zd hE Za ld rfl ?_)); intro a hE
    obtain ⟨x37,hi36,hF15⟩:=bvx hF15
    refine Zk hE Za ld rfl rfl Tryz.underlying23 ty5 hi36.1 fun a hE=>Zv (seg:=[vB j13]) (cs':=enc (s8.1.setIfInBounds (s8.2).toNat j13)) hE hM Za rfl rfl rfl ty5 rfl (ZM (v:=s8.1) (x:=j13) hi36.1) (Flat.cell (j13 : UInt8)) (ZD (v:=s8.1) (x:=j13) hi36.1) fun w a hM hE=>Zj (ZZ (Zu (wp_region_lit (Zd hE Za ld rfl fun a hE=>Zi hE Za ld rfl rfl rfl fun a hE=>Ze hE Za ld rfl fun a hE=>Zj (Zl ?_)))))
    exact ⟨_,(ois hF15),hE.sub ⟨rfl,rfl,rfl,rfl,rfl,trivial⟩,hM⟩
  ·intro hb12
   have hs9:=Zy hs9 hb12
   refine wp_exit (Zm (Zm (Z0 ?_)))
   have ht39:=hx10 _ (ois hs9)
   subst ht39
   refine Zl ?_
   exact ⟨hE.sub ⟨rfl,rfl,trivial⟩,hM⟩
 ·skip
  rintro a w ⟨hE,hM⟩
  refine Zu (Zc (Zo (cs:=enc j5) hE Za ld rfl Ve rfl (hM.rawAt (pre:=[])) (Flat.len _) ?_)); intro a hE
  have hM:=hM.pull (pre:=[_])
  refine Zv (seg:=enc j5) (cs':=enc j5) hE hM Za rfl rfl rfl Ve (Flat.len _) (zle flq) (Flat.cell _) (Zr flq) fun w a hM hE=>Zf ?_
  have hr:=Option.some.inj hF7
  subst hr
  have hq40 : Yx Tryz.prog _ _ (.cell 4 23) _:=ZR hE rfl Ve rfl (hM.rawAt (pre:=[])) (Flat.len _) rfl
  have hM:=M.fst (l:=[]) hM
  exact wp_ret (Zt hE rfl hq40 ⟨_,rfl,rfl,hM.kept⟩)
def Xe (p0 : UInt8) (p1 : Int) : Option (UInt8) :=
 (Xi (IntKind.u64.wrap p1)).bind fun _=>some (Zx (Tq (orI (H2 (bI p0) (IntKind.u64.wrap p1)) (Uu (H2 (bI p0) (IntKind.u64.wrap p1)) 8)) 255))
theorem HP (w0 : World) (p0 : UInt8) (p1 : Int) (r : UInt8) (hF : Xe p0 p1 = some r) :
  Calls Tryz.prog 135 [vB p0,vI p1].toArray w0 (fun en w'=>∃ v,en = .returned v ∧ (v = (vB r) ∧ Kept (Old w0) w0 w')):=by
 refine ZB (n:=17) Tryz.func135 rfl rfl (nbl rfl) rfl ?_
 intro a hE
 have hM:=M.start w0
 unfold Xe at hF
 refine Zc (Ze hE Za ld rfl fun a hE=>Zf (Zc (Zd hE Za ld rfl fun a hE=>Yb hE Za ld rfl Tryz.underlying5 Tryz.underlying2 ?_))); intro a hE
 rw [QK] at hE
 refine Zd hE Za ld rfl fun a hE=>Yb hE Za ld rfl Tryz.underlying2 Tryz.underlying185 ?_; intro a hE
 obtain ⟨_,e1,hF⟩:=bind_some hF
 have e1:=Wm e1
 refine Jg hE Za ld rfl rfl (AV _ _ e1) fun a hE=>Ze hE Za ld rfl fun a hE=>Zf (Zc (Zd hE Za ld rfl fun a hE=>Zd hE Za ld rfl fun a hE=>Jg hE Za ld rfl rfl (Kc _ _ (by decide)) fun a hE=>Zi hE Za ld rfl rfl rfl fun a hE=>Zi hE Za ld rfl rfl rfl fun a hE=>Yb hE Za ld rfl Tryz.underlying2 Tryz.underlying5 ?_)); intro a hE
 rw [ZN] at hE
 refine Ze hE Za ld rfl fun a hE=>Zf ?_
 have hr:=Option.some.inj hF
 subst hr
 exact wp_ret (Zt hE rfl (Zs hE rfl) ⟨_,rfl,rfl,hM.kept⟩)
def Z3 (p0 : (List Int)) (s8 : (Vector UInt8 256) × Int) (s16 : UInt8 × Int) : Option (Fl (UInt8 × Int) UInt8) :=
 if (decide (s16.2 < (p0.length : Int))) = true then ((idx p0 s16.2).bind fun x21=>(Xe (Zx s8.2) x21).bind fun r24=>some (Fl.nx (s16.1 ^^^ r24,wr (s16.2 + 1)))) else (some (Fl.ex s16.1))
def Xd (p0 : (List Int)) (p1 : UInt8) (s8 : (Vector UInt8 256) × Int) : Option (Fl ((Vector UInt8 256) × Int) (Vector UInt8 256)) :=
 if (decide (s8.2 < 256)) = true then ((ZE (Z3 p0 s8) (p1,0)).bind fun j13=>(ZI s8.1 s8.2).bind fun x28=>some (Fl.nx ((s8.1.setIfInBounds (s8.2).toNat j13),wr (s8.2 + 1)))) else (some (Fl.ex s8.1))
def Xz (p0 : (List Int)) (p1 : UInt8) : Option ((Vector UInt8 256)) :=
 (ZE (Xd p0 p1) ((Vector.replicate 256 (0 : UInt8)),0)).bind fun j5=>some j5
theorem QP (w0 : World) (p0 : (List Int)) (v0_1 : Value) (hv0_1 : Ro w0 p0 [v0_1]) (p1 : UInt8) (r : (Vector UInt8 256)) (hF : Xz p0 p1 = some r) :
  Calls Tryz.prog 107 [v0_1,vB p1].toArray w0 (fun en w'=>∃ v,en = .returned v ∧ (v = (Value.agg (enc r).toArray) ∧ Kept (Old w0) w0 w')):=by
 refine ZB (n:=34) Tryz.func107 rfl rfl (nbl rfl) rfl ?_
 intro a hE
 have hM:=M.start w0
 unfold Xz at hF
 refine Zc (ZH hE hM Za ld Ve fun b1 w a hM hE=>Zf (Zc (YT (parts:=[]) (vs:=[]) (cs:=enc (Vector.replicate 256 (0 : UInt8))) hE Za ld rfl rfl Ve rfl ty5 Yw fun a hE=>ZH hE hM Za ld Ve fun b3 w a hM hE=>Zv (seg:=enc (Vector.replicate 256 (0 : UInt8))) (cs':=enc (Vector.replicate 256 (0 : UInt8))) hE hM Za rfl rfl rfl Ve (Flat.len _) (zle flq) (Flat.cell _) (Zr flq) fun w a hM hE=>Zf (wp_seq (Zc (Ze hE Za ld rfl fun a hE=>Zf ?_))))))
 obtain ⟨j5,hl6,hF7⟩:=bind_some hF
 refine ZL (fun a w=>Env 34 a [(4,(ptr b1 0)),(5,(ptr b3 0))] ∧ M (Old w0) w0 w [raw b3 (enc j5),raw b1 (enc (Vector.replicate 256 (0 : UInt8)))]) ?_ ?_
 ·skip
  refine wp_block ?_
  refine ZC (fun (s8 : (Vector UInt8 256) × Int) a w=>Env 34 a [(0,v0_1),(1,vB p1),(4,(ptr b1 0)),(5,(ptr b3 0)),(6,vI s8.2)] ∧ M (Old w0) w0 w [raw b3 (enc s8.1),raw b1 (enc (Vector.replicate 256 (0 : UInt8)))]) hl6 ⟨hE.sub ⟨rfl,rfl,rfl,rfl,rfl,trivial⟩,hM⟩ ?_
  rintro s8 a w ⟨hE,hM⟩ o11 hs9 hx10
  unfold Xd at hs9
  refine wp_seq (Zc (Zd hE Za ld rfl fun a hE=>Zi hE Za ld rfl rfl rfl fun a hE=>Zf ?_))
  refine Zp hE rfl ?_ ?_
  ·intro hb12
   have hs9:=Zz hs9 hb12
   refine wp_skip (Zu (wp_seq (wp_block (Zc (Zd hE Za ld rfl fun a hE=>Ze hE Za ld rfl fun a hE=>Zf (wp_seq (Zc (Ze hE Za ld rfl fun a hE=>Zf ?_))))))))
   obtain ⟨j13,hl14,hF15⟩:=bind_some hs9
   refine ZL (fun a w=>Env 34 a [(0,v0_1),(1,vB p1),(4,(ptr b1 0)),(5,(ptr b3 0)),(6,vI s8.2),(7,vB j13)] ∧ M (Old w0) w0 w [raw b3 (enc s8.1),raw b1 (enc (Vector.replicate 256 (0 : UInt8)))]) ?_ ?_
   ·skip
    refine wp_block ?_
    refine ZC (fun (s16 : UInt8 × Int) a w=>Env 34 a [(0,v0_1),(1,vB p1),(4,(ptr b1 0)),(5,(ptr b3 0)),(6,vI s8.2),(7,vB s16.1),(8,vI s16.2)] ∧ M (Old w0) w0 w [raw b3 (enc s8.1),raw b1 (enc (Vector.replicate 256 (0 : UInt8)))]) hl14 ⟨hE.sub ⟨rfl,rfl,rfl,rfl,rfl,rfl,rfl,trivial⟩,hM⟩ ?_
    rintro s16 a w ⟨hE,hM⟩ o19 hs17 hx18
    unfold Z3 at hs17
    refine wp_seq (Zc (Zd hE Za ld rfl fun a hE=>Zd hE Za ld rfl fun a hE=>Yf hE Za ld rfl Tryz.underlying42 (hM.rd hv0_1) fun a hE=>Zi hE Za ld rfl rfl rfl fun a hE=>Zf ?_))
    refine Zp hE rfl ?_ ?_
    ·intro hb20
     have hs17:=Zz hs17 hb20
     refine wp_skip (Zu (wp_seq (wp_block (wp_region_lit (Zd hE Za ld rfl fun a hE=>Zd hE Za ld rfl fun a hE=>Yb hE Za ld rfl Tryz.underlying3 Tryz.underlying5 ?_))))); intro a hE
     rw [ZN] at hE
     refine Zd hE Za ld rfl fun a hE=>Zd hE Za ld rfl ?_; intro a hE
     obtain ⟨x21,hi23,hs17⟩:=bix hs17
     refine ZK hE Za ld rfl rfl Tryz.underlying42 ty2 (hM.rd hv0_1) hi23.1 fun a hE=>ZA (v:=(vI x21)) hE Za ld rfl ty2 rfl (Xc (hM.rd hv0_1) hi23.2) ?_; intro a hE
     obtain ⟨r24,e25,hs17⟩:=bind_some hs17
     refine Zw hE Za ld rfl cb135 (HP _ (Zx s8.2) x21 r24 e25) ?_
     rintro v w a ⟨rfl,hK⟩ hE
     have hM:=hM.keep hK
     refine Zi hE Za ld rfl rfl (VG s16.1 r24) fun a hE=>Ze hE Za ld rfl fun a hE=>Zj (ZZ (Zu (wp_region_lit (Zd hE Za ld rfl fun a hE=>Zi hE Za ld rfl rfl rfl fun a hE=>Ze hE Za ld rfl fun a hE=>Zj (Zl ?_)))))
     exact ⟨_,(ois hs17),hE.sub ⟨rfl,rfl,rfl,rfl,rfl,rfl,rfl,trivial⟩,hM⟩
    ·intro hb20
     have hs17:=Zy hs17 hb20
     refine wp_exit (Zm (Zm (Z0 ?_)))
     have ht26:=hx18 _ (ois hs17)
     subst ht26
     refine Zl ?_
     exact ⟨hE.sub ⟨rfl,rfl,rfl,rfl,rfl,rfl,trivial⟩,hM⟩
   ·skip
    rintro a w ⟨hE,hM⟩
    refine Zu (wp_region_lit (Zd hE Za ld rfl fun a hE=>Zd hE Za ld rfl ?_)); intro a hE
    obtain ⟨x28,hi27,hF15⟩:=bvx hF15
    refine Zk hE Za ld rfl rfl Tryz.underlying23 ty5 hi27.1 fun a hE=>Zv (seg:=[vB j13]) (cs':=enc (s8.1.setIfInBounds (s8.2).toNat j13)) hE hM Za rfl rfl rfl ty5 rfl (ZM (v:=s8.1) (x:=j13) hi27.1) (Flat.cell (j13 : UInt8)) (ZD (v:=s8.1) (x:=j13) hi27.1) fun w a hM hE=>Zj (ZZ (Zu (wp_region_lit (Zd hE Za ld rfl fun a hE=>Zi hE Za ld rfl rfl rfl fun a hE=>Ze hE Za ld rfl fun a hE=>Zj (Zl ?_)))))
    exact ⟨_,(ois hF15),hE.sub ⟨rfl,rfl,rfl,rfl,rfl,trivial⟩,hM⟩
  ·intro hb12
   have hs9:=Zy hs9 hb12
   refine wp_exit (Zm (Zm (Z0 ?_)))
   have ht30:=hx10 _ (ois hs9)
   subst ht30
   refine Zl ?_
   exact ⟨hE.sub ⟨rfl,rfl,trivial⟩,hM⟩
 ·skip
  rintro a w ⟨hE,hM⟩
  refine Zu (Zc (Zo (cs:=enc j5) hE Za ld rfl Ve rfl (hM.rawAt (pre:=[])) (Flat.len _) ?_)); intro a hE
  have hM:=hM.pull (pre:=[_])
  refine Zv (seg:=enc j5) (cs':=enc j5) hE hM Za rfl rfl rfl Ve (Flat.len _) (zle flq) (Flat.cell _) (Zr flq) fun w a hM hE=>Zf ?_
  have hr:=Option.some.inj hF7
  subst hr
  have hq31 : Yx Tryz.prog _ _ (.cell 4 23) _:=ZR hE rfl Ve rfl (hM.rawAt (pre:=[])) (Flat.len _) rfl
  have hM:=M.fst (l:=[]) hM
  exact wp_ret (Zt hE rfl hq31 ⟨_,rfl,rfl,hM.kept⟩)
def Vw (p0 : (Vector UInt8 256)) (p1 : (Vector UInt8 256)) (s12 : (Vector UInt8 256) × Int) : Option (Fl ((Vector UInt8 256) × Int) (Vector UInt8 256)) :=
 if (decide (s12.2 < 256)) = true then ((ZI p0 s12.2).bind fun x18=>(ZI p1 (bI x18)).bind fun x21=>(ZI s12.1 s12.2).bind fun x24=>some (Fl.nx ((s12.1.setIfInBounds (s12.2).toNat x21),wr (s12.2 + 1)))) else (some (Fl.ex s12.1))
def VR (p0 : (Vector UInt8 256)) (p1 : (Vector UInt8 256)) : Option ((Vector UInt8 256)) :=
 (ZE (Vw p0 p1) ((Vector.replicate 256 (0 : UInt8)),0)).bind fun j9=>some j9
theorem Hr (w0 : World) (p0 : (Vector UInt8 256)) (p1 : (Vector UInt8 256)) (r : (Vector UInt8 256)) (hF : VR p0 p1 = some r) :
  Calls Tryz.prog 105 [(Value.agg (enc p0).toArray),(Value.agg (enc p1).toArray)].toArray w0 (fun en w'=>∃ v,en = .returned v ∧ (v = (Value.agg (enc r).toArray) ∧ Kept (Old w0) w0 w')):=by
 refine ZB (n:=20) Tryz.func105 rfl rfl (nbl rfl) rfl ?_
 intro a hE
 have hM:=M.start w0
 unfold VR at hF
 refine Zc (ZT (cs:=enc p0) hE hM Za ld rfl rfl fun b1 w a hM hE=>ZT (cs:=enc p1) hE hM Za ld rfl rfl fun b3 w a hM hE=>ZH hE hM Za ld Ve fun b5 w a hM hE=>Zf (Zc (YT (parts:=[]) (vs:=[]) (cs:=enc (Vector.replicate 256 (0 : UInt8))) hE Za ld rfl rfl Ve rfl ty5 Yw fun a hE=>ZH hE hM Za ld Ve fun b7 w a hM hE=>Zv (seg:=enc (Vector.replicate 256 (0 : UInt8))) (cs':=enc (Vector.replicate 256 (0 : UInt8))) hE hM Za rfl rfl rfl Ve (Flat.len _) (zle flq) (Flat.cell _) (Zr flq) fun w a hM hE=>Zf (wp_seq (Zc (Ze hE Za ld rfl fun a hE=>Zf ?_))))))
 obtain ⟨j9,hl10,hF11⟩:=bind_some hF
 refine ZL (fun a w=>Env 20 a [(4,(ptr b5 0)),(5,(ptr b7 0))] ∧ M (Old w0) w0 w [raw b7 (enc j9),raw b5 (enc (Vector.replicate 256 (0 : UInt8)))]) ?_ ?_
 ·skip
  refine wp_block ?_
  refine ZC (fun (s12 : (Vector UInt8 256) × Int) a w=>Env 20 a [(2,(ptr b1 0)),(3,(ptr b3 0)),(4,(ptr b5 0)),(5,(ptr b7 0)),(6,vI s12.2)] ∧ M (Old w0) w0 w [raw b7 (enc s12.1),raw b5 (enc (Vector.replicate 256 (0 : UInt8))),raw b3 (enc p1),raw b1 (enc p0)]) hl10 ⟨hE.sub ⟨rfl,rfl,rfl,rfl,rfl,trivial⟩,hM⟩ ?_
  rintro s12 a w ⟨hE,hM⟩ o15 hs13 hx14
  unfold Vw at hs13
  refine wp_seq (Zc (Zd hE Za ld rfl fun a hE=>Zi hE Za ld rfl rfl rfl fun a hE=>Zf ?_))
  refine Zp hE rfl ?_ ?_
  ·intro hb16
   have hs13:=Zz hs13 hb16
   refine wp_skip (Zu (wp_seq (wp_block (wp_region_lit (Zd hE Za ld rfl fun a hE=>Zd hE Za ld rfl ?_))))); intro a hE
   obtain ⟨x18,hi17,hs13⟩:=bvx hs13
   refine Zk hE Za ld rfl rfl Tryz.underlying23 ty5 hi17.1 fun a hE=>ZA (v:=(vB x18)) hE Za ld rfl ty5 rfl (At.vec (hM.rawAt (pre:=[_,_,_])) hi17.2) ?_; intro a hE
   obtain ⟨x21,hi20,hs13⟩:=bvx hs13
   refine Zk hE Za ld rfl rfl Tryz.underlying23 ty5 hi20.1 fun a hE=>ZA (v:=(vB x21)) hE Za ld rfl ty5 rfl (At.vec (hM.rawAt (pre:=[_,_])) hi20.2) ?_; intro a hE
   obtain ⟨x24,hi23,hs13⟩:=bvx hs13
   refine Zk hE Za ld rfl rfl Tryz.underlying23 ty5 hi23.1 fun a hE=>Zv (seg:=[vB x21]) (cs':=enc (s12.1.setIfInBounds (s12.2).toNat x21)) hE hM Za rfl rfl rfl ty5 rfl (ZM (v:=s12.1) (x:=x21) hi23.1) (Flat.cell (x21 : UInt8)) (ZD (v:=s12.1) (x:=x21) hi23.1) fun w a hM hE=>Zj (ZZ (Zu (wp_region_lit (Zd hE Za ld rfl fun a hE=>Zi hE Za ld rfl rfl rfl fun a hE=>Ze hE Za ld rfl fun a hE=>Zj (Zl ?_)))))
   exact ⟨_,(ois hs13),hE.sub ⟨rfl,rfl,rfl,rfl,rfl,trivial⟩,hM⟩
  ·intro hb16
   have hs13:=Zy hs13 hb16
   refine wp_exit (Zm (Zm (Z0 ?_)))
   have ht26:=hx14 _ (ois hs13)
   subst ht26
   refine Zl ?_
   have hM:=M.fst (l:=[_,_]) ((hM.pull (pre:=[_])).pull (pre:=[_]))
   exact ⟨hE.sub ⟨rfl,rfl,trivial⟩,hM⟩
 ·skip
  rintro a w ⟨hE,hM⟩
  refine Zu (Zc (Zo (cs:=enc j9) hE Za ld rfl Ve rfl (hM.rawAt (pre:=[])) (Flat.len _) ?_)); intro a hE
  have hM:=hM.pull (pre:=[_])
  refine Zv (seg:=enc j9) (cs':=enc j9) hE hM Za rfl rfl rfl Ve (Flat.len _) (zle flq) (Flat.cell _) (Zr flq) fun w a hM hE=>Zf ?_
  have hr:=Option.some.inj hF11
  subst hr
  have hq27 : Yx Tryz.prog _ _ (.cell 4 23) _:=ZR hE rfl Ve rfl (hM.rawAt (pre:=[])) (Flat.len _) rfl
  have hM:=M.fst (l:=[]) hM
  exact wp_ret (Zt hE rfl hq27 ⟨_,rfl,rfl,hM.kept⟩)
def Uf (p0 : Int) (s4 : UInt8 × Int × UInt8) : Option (Fl (UInt8 × Int × UInt8) UInt8) :=
 if (decide (s4.2.1 > 0)) = true then (((if ((Int.tmod s4.2.1 2) == 1) = true then ((Yt p0 s4.2.2 s4.1).bind fun r16=>some r16) else (some s4.2.2) : Option (UInt8)).bind fun j12=>(Yt p0 s4.1 s4.1).bind fun r20=>some (r20,j12) : Option (UInt8 × UInt8)).bind fun j9=>some (Fl.nx (j9.1,wr (Int.tdiv s4.2.1 2),j9.2))) else (some (Fl.ex s4.2.2))
def Wc (p0 : Int) (p1 : UInt8) (p2 : Int) : Option (UInt8) :=
 (ZE (Uf p0) (p1,p2,1)).bind fun j1=>some j1
theorem JF (w0 : World) (p0 : Int) (p1 : UInt8) (p2 : Int) (r : UInt8) (hF : Wc p0 p1 p2 = some r) :
  Calls Tryz.prog 136 [vI p0,vB p1,vI p2].toArray w0 (fun en w'=>∃ v,en = .returned v ∧ (v = (vB r) ∧ Kept (Old w0) w0 w')):=by
 refine ZB (n:=24) Tryz.func136 rfl rfl (nbl rfl) rfl ?_
 intro a hE
 have hM:=M.start w0
 unfold Wc at hF
 refine Zc (Ze hE Za ld rfl fun a hE=>Zf (Zc (Ze hE Za ld rfl fun a hE=>Zf ?_)))
 obtain ⟨j1,hl2,hF3⟩:=bind_some hF
 refine ZQ (fun a w=>Env 24 a [(7,vB j1)] ∧ M (Old w0) w0 w []) ?_ ?_
 ·skip
  refine wp_block ?_
  refine ZC (fun (s4 : UInt8 × Int × UInt8) a w=>Env 24 a [(0,vI p0),(1,vB s4.1),(2,vI s4.2.1),(7,vB s4.2.2)] ∧ M (Old w0) w0 w []) hl2 ⟨hE.sub ⟨rfl,rfl,rfl,rfl,trivial⟩,hM⟩ ?_
  rintro s4 a w ⟨hE,hM⟩ o7 hs5 hx6
  unfold Uf at hs5
  refine wp_seq (Zc (Zd hE Za ld rfl fun a hE=>Zi hE Za ld rfl rfl rfl fun a hE=>Zf ?_))
  refine Zp hE rfl ?_ ?_
  ·intro hb8
   have hs5:=Zz hs5 hb8
   refine wp_skip (Zu ?_)
   obtain ⟨j9,hl10,hF11⟩:=bind_some hs5
   refine ZQ (fun a w=>Env 24 a [(0,vI p0),(1,vB j9.1),(2,vI s4.2.1),(7,vB j9.2)] ∧ M (Old w0) w0 w []) ?_ ?_
   ·skip
    refine wp_block ?_
    obtain ⟨j12,hl13,hF14⟩:=bind_some hl10
    refine ZQ (fun a w=>Env 24 a [(0,vI p0),(1,vB s4.1),(2,vI s4.2.1),(7,vB j12)] ∧ M (Old w0) w0 w []) ?_ ?_
    ·skip
     refine Zc (Zd hE Za ld rfl fun a hE=>Zi hE Za ld rfl rfl (TO _ _ (by decide)) fun a hE=>Zi hE Za ld rfl rfl rfl fun a hE=>Zf ?_)
     refine Zp hE rfl ?_ ?_
     ·intro hb15
      have hl13:=Zz hl13 hb15
      refine wp_region_lit (Zd hE Za ld rfl fun a hE=>Zd hE Za ld rfl fun a hE=>Zd hE Za ld rfl ?_); intro a hE
      obtain ⟨r16,e17,hl13⟩:=bind_some hl13
      refine Zw hE Za ld rfl Am (Vn _ p0 s4.2.2 s4.1 r16 e17) ?_
      rintro v w a ⟨rfl,hK⟩ hE
      have hM:=hM.keep hK
      refine Ze hE Za ld rfl fun a hE=>Zj ?_
      have ht18:=Option.some.inj hl13
      subst ht18
      refine Zl ?_
      exact ⟨hE.sub ⟨rfl,rfl,rfl,rfl,trivial⟩,hM⟩
     ·intro hb15
      have hl13:=Zy hl13 hb15
      refine wp_skip ?_
      have ht19:=Option.some.inj hl13
      subst ht19
      refine Zl ?_
      exact ⟨hE.sub ⟨rfl,rfl,rfl,rfl,trivial⟩,hM⟩
    ·skip
     rintro a w ⟨hE,hM⟩
     refine wp_region_lit (Zd hE Za ld rfl fun a hE=>Zd hE Za ld rfl fun a hE=>Zd hE Za ld rfl ?_); intro a hE
     obtain ⟨r20,e21,hF14⟩:=bind_some hF14
     refine Zw hE Za ld rfl Am (Vn _ p0 s4.1 s4.1 r20 e21) ?_
     rintro v w a ⟨rfl,hK⟩ hE
     have hM:=hM.keep hK
     refine Ze hE Za ld rfl fun a hE=>Zj (ZZ ?_)
     have ht22:=Option.some.inj hF14
     subst ht22
     refine Zl ?_
     exact ⟨hE.sub ⟨rfl,rfl,rfl,rfl,trivial⟩,hM⟩
   ·skip
    rintro a w ⟨hE,hM⟩
    refine wp_region_lit (Zd hE Za ld rfl fun a hE=>Zi hE Za ld rfl rfl (BE _ _ (by decide)) fun a hE=>Ze hE Za ld rfl fun a hE=>Zj (Zl ?_))
    exact ⟨_,(ois hF11),hE.sub ⟨rfl,rfl,rfl,rfl,trivial⟩,hM⟩
  ·intro hb8
   have hs5:=Zy hs5 hb8
   refine wp_exit (Zm (Zm (Z0 ?_)))
   have ht23:=hx6 _ (ois hs5)
   subst ht23
   refine Zl ?_
   exact ⟨hE.sub ⟨rfl,trivial⟩,hM⟩
 ·skip
  rintro a w ⟨hE,hM⟩
  refine Zc (Zd hE Za ld rfl fun a hE=>Ze hE Za ld rfl fun a hE=>Zf ?_)
  have hr:=Option.some.inj hF3
  subst hr
  exact wp_ret (Zt hE rfl (Zs hE rfl) ⟨_,rfl,rfl,hM.kept⟩)
def WC (p0 : Int) (p1 : UInt8) : Option (UInt8) :=
 (Wc p0 p1 254).bind fun r1=>some r1
theorem HY (w0 : World) (p0 : Int) (p1 : UInt8) (r : UInt8) (hF : WC p0 p1 = some r) :
  Calls Tryz.prog 108 [vI p0,vB p1].toArray w0 (fun en w'=>∃ v,en = .returned v ∧ (v = (vB r) ∧ Kept (Old w0) w0 w')):=by
 refine ZB (n:=8) Tryz.func108 rfl rfl (nbl rfl) rfl ?_
 intro a hE
 have hM:=M.start w0
 unfold WC at hF
 refine Zc (Ze hE Za ld rfl fun a hE=>Zf (Zc (Zd hE Za ld rfl fun a hE=>Zd hE Za ld rfl ?_))); intro a hE
 obtain ⟨r1,e2,hF⟩:=bind_some hF
 refine Zw hE Za ld rfl cb136 (JF _ p0 p1 254 r1 e2) ?_
 rintro v w a ⟨rfl,hK⟩ hE
 have hM:=hM.keep hK
 refine Ze hE Za ld rfl fun a hE=>Zf ?_
 have hr:=Option.some.inj hF
 subst hr
 exact wp_ret (Zt hE rfl (Zs hE rfl) ⟨_,rfl,rfl,hM.kept⟩)
def Ua (s16 : (Vector (Vector UInt8 4) 4) × Int) (s24 : (Vector (Vector UInt8 4) 4) × Int) : Option (Fl ((Vector (Vector UInt8 4) 4) × Int) (Vector (Vector UInt8 4) 4)) :=
 if (decide (s24.2 < 4)) = true then ((WC 285 (Zx (T8 s16.2 (wr (4 + s24.2))))).bind fun r30=>(ZI s24.1 s16.2).bind fun x33=>(ZI x33 s24.2).bind fun x36=>some (Fl.nx ((s24.1.setIfInBounds (s16.2).toNat (x33.setIfInBounds (s24.2).toNat r30)),wr (s24.2 + 1)))) else (some (Fl.ex s24.1))
def Um (s16 : (Vector (Vector UInt8 4) 4) × Int) : Option (Fl ((Vector (Vector UInt8 4) 4) × Int) (Vector (Vector UInt8 4) 4)) :=
 if (decide (s16.2 < 4)) = true then ((ZE (Ua s16) (s16.1,0)).bind fun j21=>some (Fl.nx (j21,wr (s16.2 + 1)))) else (some (Fl.ex s16.1))
def V8 (s43 : (Vector UInt8 16) × Int) : Option (Fl ((Vector UInt8 16) × Int) (Vector UInt8 16)) :=
 if (decide (s43.2 < 16)) = true then ((ZI s43.1 s43.2).bind fun x49=>some (Fl.nx ((s43.1.setIfInBounds (s43.2).toNat (Zx (Int.tmod (wr ((wr (13 * s43.2)) + 4)) 16))),wr (s43.2 + 1)))) else (some (Fl.ex s43.1))
def Wh (p0 : Int) : Option (GCipher) :=
 (Vq 285 254).bind fun r5=>(Xz ([0,1,4] : List Int) 90).bind fun r9=>(VR r5 r9).bind fun r11=>(ZE (Um) ((Vector.replicate 4 (Vector.replicate 4 (0 : UInt8))),0)).bind fun j13=>(ZE (V8) ((Vector.replicate 16 (0 : UInt8)),0)).bind fun j40=>some (⟨285,r11,j13,j40,p0⟩ : GCipher)
theorem T9 (w0 : World) (p0 : Int) (r : GCipher) (hF : Wh p0 = some r) :
  Calls Tryz.prog 42 [vI p0].toArray w0 (fun en w'=>∃ v,en = .returned v ∧ (v = (Value.agg (enc r).toArray) ∧ Kept (Old w0) w0 w')):=by
 refine ZB (n:=46) Tryz.func42 rfl rfl (nbl rfl) rfl ?_
 intro a hE
 have hM:=M.start w0
 unfold Wh at hF
 refine Zc (ZH hE hM Za ld UW fun b1 w a hM hE=>Zf (Zc (Zd hE Za ld rfl fun a hE=>UI (parts:=[(0,.const (vI 285)),(4,.tmp 7)]) (vs:=[(0,vI 285),(4,vI p0)]) (cs:=cat [[vI 285],enc (Vector.replicate 256 (0 : UInt8)),enc (Vector.replicate 4 (Vector.replicate 4 (0 : UInt8))),enc (Vector.replicate 16 (0 : UInt8)),[vI p0]]) hE Za ld rfl rfl UW pl30 (Yl (pre:=[]) (seg:=[vI 0]) (seg':=[vI 285]) (post:=[enc (Vector.replicate 256 (0 : UInt8)),enc (Vector.replicate 4 (Vector.replicate 4 (0 : UInt8))),enc (Vector.replicate 16 (0 : UInt8)),[vI 0]]) rfl cl0 rfl rfl rfl (Yl (pre:=[[vI 285],enc (Vector.replicate 256 (0 : UInt8)),enc (Vector.replicate 4 (Vector.replicate 4 (0 : UInt8))),enc (Vector.replicate 16 (0 : UInt8))]) (seg:=[vI 0]) (seg':=[vI p0]) (post:=[]) rfl (cl1 (n:=1) (m:=288) rfl (cl1 (n:=256) (m:=32) (Flat.len _) (cl1 (n:=16) (m:=16) (Flat.len _) (cl1 (n:=16) (m:=0) (Flat.len _) cl0)))) rfl rfl rfl TC)) fun a hE=>ZH hE hM Za ld UW fun b3 w a hM hE=>Zv (seg:=cat [[vI 285],enc (Vector.replicate 256 (0 : UInt8)),enc (Vector.replicate 4 (Vector.replicate 4 (0 : UInt8))),enc (Vector.replicate 16 (0 : UInt8)),[vI p0]]) (cs':=cat [[vI 285],enc (Vector.replicate 256 (0 : UInt8)),enc (Vector.replicate 4 (Vector.replicate 4 (0 : UInt8))),enc (Vector.replicate 16 (0 : UInt8)),[vI p0]]) hE hM Za rfl rfl rfl UW (Zg (cl1 (n:=1) (m:=289) rfl (cl1 (n:=256) (m:=33) (Flat.len _) (cl1 (n:=16) (m:=17) (Flat.len _) (cl1 (n:=16) (m:=1) (Flat.len _) (cl1 (n:=1) (m:=0) rfl cl0)))))) (Nat.le_of_eq ((Nat.zero_add _).trans (Eq.trans (Zg (cl1 (n:=1) (m:=289) rfl (cl1 (n:=256) (m:=33) (Flat.len _) (cl1 (n:=16) (m:=17) (Flat.len _) (cl1 (n:=16) (m:=1) (Flat.len _) (cl1 (n:=1) (m:=0) rfl cl0)))))) (Eq.symm (Zg (cl1 (n:=1) (m:=289) rfl (cl1 (n:=256) (m:=33) (Flat.len _) (cl1 (n:=16) (m:=17) (Flat.len _) (cl1 (n:=16) (m:=1) (Flat.len _) (cl1 (n:=1) (m:=0) rfl cl0)))))))))) (ZV (cc1 (Flat.cell (285 : Int)) (cc1 (Flat.cell _) (cc1 (Flat.cell _) (cc1 (Flat.cell _) (cc1 (Flat.cell (p0 : Int)) cc0)))))) (Zr (Eq.trans (Zg (cl1 (n:=1) (m:=289) rfl (cl1 (n:=256) (m:=33) (Flat.len _) (cl1 (n:=16) (m:=17) (Flat.len _) (cl1 (n:=16) (m:=1) (Flat.len _) (cl1 (n:=1) (m:=0) rfl cl0)))))) (Eq.symm (Zg (cl1 (n:=1) (m:=289) rfl (cl1 (n:=256) (m:=33) (Flat.len _) (cl1 (n:=16) (m:=17) (Flat.len _) (cl1 (n:=16) (m:=1) (Flat.len _) (cl1 (n:=1) (m:=0) rfl cl0))))))))) fun w a hM hE=>Zf (Zc ?_))))
 obtain ⟨r5,e6,hF⟩:=bind_some hF
 refine Zw hE Za ld rfl cb106 (Jy _ 285 254 r5 e6) ?_
 rintro v w a ⟨rfl,hK⟩ hE
 have hM:=hM.keep hK
 refine Yj (xs:=[.const (vI 0),.const (vI 1),.const (vI 4)]) (l:=([0,1,4] : List Int)) (vs:=[vI 0,vI 1,vI 4]) hE hM Za ld rfl rfl Tryz.underlying42 ty2 rfl (by decide) rfl ?_; intro u7 w a hM hE
 obtain ⟨r9,e10,hF⟩:=bind_some hF
 refine Zw hE Za ld rfl cb107 (QP _ ([0,1,4] : List Int) u7 (hM.sl (pre:=[]) noB) 90 r9 e10) ?_
 rintro v w a ⟨rfl,hK⟩ hE
 have hM:=hM.keep hK
 obtain ⟨r11,e12,hF⟩:=bind_some hF
 refine Zw hE Za ld rfl cb105 (Hr _ r5 r9 r11 e12) ?_
 rintro v w a ⟨rfl,hK⟩ hE
 have hM:=hM.keep hK
 refine Zh hE Za ld rfl (Qw) ?_; intro a hE
 have hM:=hM.pull (pre:=[_])
 refine Zv (seg:=enc r11) hE hM Za rfl rfl rfl Ve (Flat.len _) (zg (pre:=[[vI 285]]) (cl1 (n:=1) (m:=0) rfl cl0) flq) (Flat.cell _) (Tb (pre:=[[vI 285]]) (cl1 (n:=1) (m:=0) rfl cl0) flq) fun w a hM hE=>Zf (wp_seq (Zc (Ze hE Za ld rfl fun a hE=>Zf ?_)))
 obtain ⟨j13,hl14,hF15⟩:=bind_some hF
 refine ZL (fun a w=>Env 46 a [(2,(ptr b1 0)),(3,(ptr b3 0))] ∧ M (Old w0) w0 w [raw b3 (cat [[vI 285],enc r11,enc j13,enc (Vector.replicate 16 (0 : UInt8)),[vI p0]]),raw b1 (cat [[vI 0],enc (Vector.replicate 256 (0 : UInt8)),enc (Vector.replicate 4 (Vector.replicate 4 (0 : UInt8))),enc (Vector.replicate 16 (0 : UInt8)),[vI 0]])]) ?_ ?_
 ·skip
  refine wp_block ?_
  have hM:=M.fst (l:=[_,_]) ((hM.pull (pre:=[_,_])).pull (pre:=[_]))
  refine ZC (fun (s16 : (Vector (Vector UInt8 4) 4) × Int) a w=>Env 46 a [(2,(ptr b1 0)),(3,(ptr b3 0)),(4,vI s16.2)] ∧ M (Old w0) w0 w [raw b3 (cat [[vI 285],enc r11,enc s16.1,enc (Vector.replicate 16 (0 : UInt8)),[vI p0]]),raw b1 (cat [[vI 0],enc (Vector.replicate 256 (0 : UInt8)),enc (Vector.replicate 4 (Vector.replicate 4 (0 : UInt8))),enc (Vector.replicate 16 (0 : UInt8)),[vI 0]])]) hl14 ⟨hE.sub ⟨rfl,rfl,rfl,trivial⟩,hM⟩ ?_
  rintro s16 a w ⟨hE,hM⟩ o19 hs17 hx18
  unfold Um at hs17
  refine wp_seq (Zc (Zd hE Za ld rfl fun a hE=>Zi hE Za ld rfl rfl rfl fun a hE=>Zf ?_))
  refine Zp hE rfl ?_ ?_
  ·intro hb20
   have hs17:=Zz hs17 hb20
   refine wp_skip (Zu (wp_seq (wp_block (Zc (Ze hE Za ld rfl fun a hE=>Zf ?_)))))
   obtain ⟨j21,hl22,hF23⟩:=bind_some hs17
   refine ZL (fun a w=>Env 46 a [(2,(ptr b1 0)),(3,(ptr b3 0)),(4,vI s16.2)] ∧ M (Old w0) w0 w [raw b3 (cat [[vI 285],enc r11,enc j21,enc (Vector.replicate 16 (0 : UInt8)),[vI p0]]),raw b1 (cat [[vI 0],enc (Vector.replicate 256 (0 : UInt8)),enc (Vector.replicate 4 (Vector.replicate 4 (0 : UInt8))),enc (Vector.replicate 16 (0 : UInt8)),[vI 0]])]) ?_ ?_
   ·skip
    refine wp_block ?_
    refine ZC (fun (s24 : (Vector (Vector UInt8 4) 4) × Int) a w=>Env 46 a [(2,(ptr b1 0)),(3,(ptr b3 0)),(4,vI s16.2),(5,vI s24.2)] ∧ M (Old w0) w0 w [raw b3 (cat [[vI 285],enc r11,enc s24.1,enc (Vector.replicate 16 (0 : UInt8)),[vI p0]]),raw b1 (cat [[vI 0],enc (Vector.replicate 256 (0 : UInt8)),enc (Vector.replicate 4 (Vector.replicate 4 (0 : UInt8))),enc (Vector.replicate 16 (0 : UInt8)),[vI 0]])]) hl22 ⟨hE.sub ⟨rfl,rfl,rfl,rfl,trivial⟩,hM⟩ ?_
    rintro s24 a w ⟨hE,hM⟩ o27 hs25 hx26
    unfold Ua at hs25
    refine wp_seq (Zc (Zd hE Za ld rfl fun a hE=>Zi hE Za ld rfl rfl rfl fun a hE=>Zf ?_))
    refine Zp hE rfl ?_ ?_
    ·intro hb28
     have hs25:=Zz hs25 hb28
     refine wp_skip (Zu (wp_seq (wp_block ?_)))
     obtain ⟨r30,e31,hs25⟩:=bind_some hs25
     obtain ⟨x33,hi32,hs25⟩:=bvx hs25
     obtain ⟨x36,hi35,hs25⟩:=bvx hs25
     refine Yg (n:=46) (hd:=[_,_,_,_,_,_,_,_,_,_,_]) (tl:=[_]) YN rfl rfl [22,23,24,25,26,27,28,29,30,31,32] (by decide) (fun w=>M (Old w0) w0 w [raw b3 (cat [[vI 285],enc r11,enc s24.1,enc (Vector.replicate 16 (0 : UInt8)),[vI p0]]),raw b1 (cat [[vI 0],enc (Vector.replicate 256 (0 : UInt8)),enc (Vector.replicate 4 (Vector.replicate 4 (0 : UInt8))),enc (Vector.replicate 16 (0 : UInt8)),[vI 0]])]) (fun j=>([fun v _=>v = (vI s16.2),fun v _=>v = (vI s24.2),fun v _=>v = (vI s16.2),fun v _=>v = (vI s24.2),fun v _=>v = (vI (wr (4 + s24.2))),fun v _=>v = (vI (T8 s16.2 (wr (4 + s24.2)))),fun v _=>v = (vB (Zx (T8 s16.2 (wr (4 + s24.2))))),fun v _=>v = (vB r30),fun v _=>v = (ptr b3 (0 + 257)),fun v _=>v = (ptr b3 (0 + 257 + (s16.2).toNat * 4)),fun v _=>v = (ptr b3 (0 + 257 + (s16.2).toNat * 4 + (s24.2).toNat * 1))] : List (Value → World → Prop)).getD j (fun _ _=>True)) (fun _ _ h hk=>h.keep hk) (gup (Zn (Zn (Zn (Zn (Zn (Zn (Zn (Zn (Zn (Zn (Zn Vb)))))))))))) hE hM.drew (ZJ (Zb ?_ (Zb ?_ (Zb ?_ (Zb ?_ (Zb ?_ (Zb ?_ (Zb ?_ (Zb ?_ (Zb ?_ (Zb ?_ (Zb ?_ ZF)))))))))))) ?_
     ·exact fun a w ux29 hE hM hp=>Zd hE Za ld rfl fun a hE=>⟨Kept.refl _ _,_,_,rfl,hE,rfl⟩
     ·exact fun a w ux29 hE hM hp=>Zd hE Za ld rfl fun a hE=>⟨Kept.refl _ _,_,_,rfl,hE,rfl⟩
     ·exact fun a w ux29 hE hM hp=>Zd hE Za ld rfl fun a hE=>⟨Kept.refl _ _,_,_,rfl,hE,rfl⟩
     ·exact fun a w ux29 hE hM hp=>Zd hE Za ld rfl fun a hE=>⟨Kept.refl _ _,_,_,rfl,hE,rfl⟩
     ·intro a w ux29 hE hM hp
      have f3 : ux29 3 = (vI s24.2):=hp 0 _ rfl rfl
      exact Zi hE Za ld rfl (lk rfl f3) rfl fun a hE=>⟨Kept.refl _ _,_,_,rfl,hE,rfl⟩
     ·intro a w ux29 hE hM hp
      have f2 : ux29 2 = (vI s16.2):=hp 0 _ rfl rfl
      have f4 : ux29 4 = (vI (wr (4 + s24.2))):=hp 1 _ rfl rfl
      exact Zi hE Za ld (lk rfl f2) (lk rfl f4) rfl fun a hE=>⟨Kept.refl _ _,_,_,rfl,hE,rfl⟩
     ·intro a w ux29 hE hM hp
      have f5 : ux29 5 = (vI (T8 s16.2 (wr (4 + s24.2)))):=hp 0 _ rfl rfl
      refine Yb hE Za ld (lk rfl f5) Tryz.underlying3 Tryz.underlying5 ?_; intro a hE
      rw [ZN] at hE
      exact ⟨Kept.refl _ _,_,_,rfl,hE,rfl⟩
     ·intro a w ux29 hE hM hp
      have f6 : ux29 6 = (vB (Zx (T8 s16.2 (wr (4 + s24.2))))):=hp 0 _ rfl rfl
      refine Zw hE Za ld (Z7 (Z2 rfl (Z2 (lk rfl f6) X8))) cb108 (HY _ 285 (Zx (T8 s16.2 (wr (4 + s24.2)))) r30 e31) ?_
      rintro v w a ⟨rfl,hK⟩ hE
      exact ⟨hK,_,_,rfl,hE,rfl⟩
     ·exact fun a w ux29 hE hM hp=>Zh hE Za ld rfl (Kb) fun a hE=>⟨Kept.refl _ _,_,_,rfl,hE,rfl⟩
     ·intro a w ux29 hE hM hp
      have f0 : ux29 0 = (vI s16.2):=hp 1 _ rfl rfl
      have f8 : ux29 8 = (ptr b3 (0 + 257)):=hp 0 _ rfl rfl
      exact Zk hE Za ld (lk rfl f8) (lk rfl f0) Tryz.underlying26 WE hi32.1 fun a hE=>⟨Kept.refl _ _,_,_,rfl,hE,rfl⟩
     ·intro a w ux29 hE hM hp
      have f1 : ux29 1 = (vI s24.2):=hp 1 _ rfl rfl
      have f9 : ux29 9 = (ptr b3 (0 + 257 + (s16.2).toNat * 4)):=hp 0 _ rfl rfl
      exact Zk hE Za ld (lk rfl f9) (lk rfl f1) Tryz.underlying24 ty5 hi35.1 fun a hE=>⟨Kept.refl _ _,_,_,rfl,hE,rfl⟩
     ·intro a w ux29 hE hM hg
      have hE:=hE.sub (e':=[(29,vB r30),(32,(ptr b3 (0 + 257 + (s16.2).toNat * 4 + (s24.2).toNat * 1))),(2,(ptr b1 0)),(3,(ptr b3 0)),(4,vI s16.2),(5,vI s24.2),(18,vI s24.2),(19,(vT (decide (s24.2 < 4))))]) ⟨lk rfl (hg 7 (by decide)),lk rfl (hg 10 (by decide)),rfl,rfl,rfl,rfl,rfl,rfl,trivial⟩
      refine Zv (seg:=[vB r30]) (cs':=cat [[vI 285],enc r11,enc (s24.1.setIfInBounds (s16.2).toNat (x33.setIfInBounds (s24.2).toNat r30)),enc (Vector.replicate 16 (0 : UInt8)),[vI p0]]) hE hM Za rfl rfl rfl ty5 rfl (Qo (o':=(s16.2).toNat * 4 + (0 + (s24.2).toNat * 1)) (pre:=[[vI 285],enc r11]) (seg:=enc s24.1) (post:=[enc (Vector.replicate 16 (0 : UInt8)),[vI p0]]) (cl1 (n:=1) (m:=256) rfl (cl1 (n:=256) (m:=0) (Flat.len _) cl0)) (Vk (o':=0 + (s24.2).toNat * 1) hi32 (ZM (v:=x33) (x:=r30) hi35.1) (by first | omega | (simp only [Flat.n] <;> omega))) (by first | omega | (simp only [Flat.n] <;> omega))) (Flat.cell (r30 : UInt8)) (W8 (o':=(s16.2).toNat * 4 + (0 + (s24.2).toNat * 1)) (pre:=[[vI 285],enc r11]) (seg:=enc s24.1) (post:=[enc (Vector.replicate 16 (0 : UInt8)),[vI p0]]) (cl1 (n:=1) (m:=256) rfl (cl1 (n:=256) (m:=0) (Flat.len _) cl0)) (Vk (o':=0 + (s24.2).toNat * 1) hi32 (ZM (v:=x33) (x:=r30) hi35.1) (by first | omega | (simp only [Flat.n] <;> omega))) (Wl (o':=0 + (s24.2).toNat * 1) hi32 (ZM (v:=x33) (x:=r30) hi35.1) (ZD (v:=x33) (x:=r30) hi35.1) (by first | omega | (simp only [Flat.n] <;> omega))) (by first | omega | (simp only [Flat.n] <;> omega))) fun w a hM hE=>Zj (ZZ (Zu (wp_region_lit (Zd hE Za ld rfl fun a hE=>Zi hE Za ld rfl rfl rfl fun a hE=>Ze hE Za ld rfl fun a hE=>Zj (Zl ?_)))))
      exact ⟨_,(ois hs25),hE.sub ⟨rfl,rfl,rfl,rfl,trivial⟩,hM⟩
    ·intro hb28
     have hs25:=Zy hs25 hb28
     refine wp_exit (Zm (Zm (Z0 ?_)))
     have ht38:=hx26 _ (ois hs25)
     subst ht38
     refine Zl ?_
     exact ⟨hE.sub ⟨rfl,rfl,rfl,trivial⟩,hM⟩
   ·skip
    rintro a w ⟨hE,hM⟩
    refine ZZ (Zu (wp_region_lit (Zd hE Za ld rfl fun a hE=>Zi hE Za ld rfl rfl rfl fun a hE=>Ze hE Za ld rfl fun a hE=>Zj (Zl ?_))))
    exact ⟨_,(ois hF23),hE.sub ⟨rfl,rfl,rfl,trivial⟩,hM⟩
  ·intro hb20
   have hs17:=Zy hs17 hb20
   refine wp_exit (Zm (Zm (Z0 ?_)))
   have ht39:=hx18 _ (ois hs17)
   subst ht39
   refine Zl ?_
   exact ⟨hE.sub ⟨rfl,rfl,trivial⟩,hM⟩
 ·skip
  rintro a w ⟨hE,hM⟩
  refine Zu (wp_seq (Zc (Ze hE Za ld rfl fun a hE=>Zf ?_)))
  obtain ⟨j40,hl41,hF42⟩:=bind_some hF15
  refine ZL (fun a w=>Env 46 a [(2,(ptr b1 0)),(3,(ptr b3 0))] ∧ M (Old w0) w0 w [raw b3 (cat [[vI 285],enc r11,enc j13,enc j40,[vI p0]]),raw b1 (cat [[vI 0],enc (Vector.replicate 256 (0 : UInt8)),enc (Vector.replicate 4 (Vector.replicate 4 (0 : UInt8))),enc (Vector.replicate 16 (0 : UInt8)),[vI 0]])]) ?_ ?_
  ·skip
   refine wp_block ?_
   refine ZC (fun (s43 : (Vector UInt8 16) × Int) a w=>Env 46 a [(2,(ptr b1 0)),(3,(ptr b3 0)),(6,vI s43.2)] ∧ M (Old w0) w0 w [raw b3 (cat [[vI 285],enc r11,enc j13,enc s43.1,[vI p0]]),raw b1 (cat [[vI 0],enc (Vector.replicate 256 (0 : UInt8)),enc (Vector.replicate 4 (Vector.replicate 4 (0 : UInt8))),enc (Vector.replicate 16 (0 : UInt8)),[vI 0]])]) hl41 ⟨hE.sub ⟨rfl,rfl,rfl,trivial⟩,hM⟩ ?_
   rintro s43 a w ⟨hE,hM⟩ o46 hs44 hx45
   unfold V8 at hs44
   refine wp_seq (Zc (Zd hE Za ld rfl fun a hE=>Zi hE Za ld rfl rfl rfl fun a hE=>Zf ?_))
   refine Zp hE rfl ?_ ?_
   ·intro hb47
    have hs44:=Zz hs44 hb47
    refine wp_skip (Zu (wp_seq (wp_block (wp_region_lit (Zd hE Za ld rfl fun a hE=>Zd hE Za ld rfl fun a hE=>Zi hE Za ld rfl rfl rfl fun a hE=>Zi hE Za ld rfl rfl rfl fun a hE=>Zi hE Za ld rfl rfl (TO _ _ (by decide)) fun a hE=>Yb hE Za ld rfl Tryz.underlying3 Tryz.underlying5 ?_))))); intro a hE
    rw [ZN] at hE
    refine Zh hE Za ld rfl (Q3) ?_; intro a hE
    obtain ⟨x49,hi48,hs44⟩:=bvx hs44
    refine Zk hE Za ld rfl rfl Tryz.underlying28 ty5 hi48.1 fun a hE=>Zv (seg:=[(vB (Zx (Int.tmod (wr ((wr (13 * s43.2)) + 4)) 16)))]) (cs':=cat [[vI 285],enc r11,enc j13,enc (s43.1.setIfInBounds (s43.2).toNat (Zx (Int.tmod (wr ((wr (13 * s43.2)) + 4)) 16))),[vI p0]]) hE hM Za rfl rfl rfl ty5 rfl (Qo (o':=0 + (s43.2).toNat * 1) (pre:=[[vI 285],enc r11,enc j13]) (seg:=enc s43.1) (post:=[[vI p0]]) (cl1 (n:=1) (m:=272) rfl (cl1 (n:=256) (m:=16) (Flat.len _) (cl1 (n:=16) (m:=0) (Flat.len _) cl0))) (ZM (v:=s43.1) (x:=Zx (Int.tmod (wr ((wr (13 * s43.2)) + 4)) 16)) hi48.1) (by first | omega | (simp only [Flat.n] <;> omega))) (Flat.cell (Zx (Int.tmod (wr ((wr (13 * s43.2)) + 4)) 16) : UInt8)) (W8 (o':=0 + (s43.2).toNat * 1) (pre:=[[vI 285],enc r11,enc j13]) (seg:=enc s43.1) (post:=[[vI p0]]) (cl1 (n:=1) (m:=272) rfl (cl1 (n:=256) (m:=16) (Flat.len _) (cl1 (n:=16) (m:=0) (Flat.len _) cl0))) (ZM (v:=s43.1) (x:=Zx (Int.tmod (wr ((wr (13 * s43.2)) + 4)) 16)) hi48.1) (ZD (v:=s43.1) (x:=Zx (Int.tmod (wr ((wr (13 * s43.2)) + 4)) 16)) hi48.1) (by first | omega | (simp only [Flat.n] <;> omega))) fun w a hM hE=>Zj (ZZ (Zu (wp_region_lit (Zd hE Za ld rfl fun a hE=>Zi hE Za ld rfl rfl rfl fun a hE=>Ze hE Za ld rfl fun a hE=>Zj (Zl ?_)))))
    exact ⟨_,(ois hs44),hE.sub ⟨rfl,rfl,rfl,trivial⟩,hM⟩
   ·intro hb47
    have hs44:=Zy hs44 hb47
    refine wp_exit (Zm (Zm (Z0 ?_)))
    have ht51:=hx45 _ (ois hs44)
    subst ht51
    refine Zl ?_
    exact ⟨hE.sub ⟨rfl,rfl,trivial⟩,hM⟩
  ·skip
   rintro a w ⟨hE,hM⟩
   refine Zu (Zc (Zo (cs:=enc (⟨285,r11,j13,j40,p0⟩ : GCipher)) hE Za ld rfl UW rfl (hM.rawAt (pre:=[])) (Zg (cl1 (n:=1) (m:=289) rfl (cl1 (n:=256) (m:=33) (Flat.len _) (cl1 (n:=16) (m:=17) (Flat.len _) (cl1 (n:=16) (m:=1) (Flat.len _) (cl1 (n:=1) (m:=0) rfl cl0)))))) ?_)); intro a hE
   have hM:=hM.pull (pre:=[_])
   refine Zv (seg:=cat [[(vI ((⟨285,r11,j13,j40,p0⟩ : GCipher).Field))],enc ((⟨285,r11,j13,j40,p0⟩ : GCipher).Box),enc ((⟨285,r11,j13,j40,p0⟩ : GCipher).Mix),enc ((⟨285,r11,j13,j40,p0⟩ : GCipher).Places),[(vI ((⟨285,r11,j13,j40,p0⟩ : GCipher).Rounds))]]) (cs':=cat [[(vI ((⟨285,r11,j13,j40,p0⟩ : GCipher).Field))],enc ((⟨285,r11,j13,j40,p0⟩ : GCipher).Box),enc ((⟨285,r11,j13,j40,p0⟩ : GCipher).Mix),enc ((⟨285,r11,j13,j40,p0⟩ : GCipher).Places),[(vI ((⟨285,r11,j13,j40,p0⟩ : GCipher).Rounds))]]) hE hM Za rfl rfl rfl UW (Zg (cl1 (n:=1) (m:=289) rfl (cl1 (n:=256) (m:=33) (Flat.len _) (cl1 (n:=16) (m:=17) (Flat.len _) (cl1 (n:=16) (m:=1) (Flat.len _) (cl1 (n:=1) (m:=0) rfl cl0)))))) (Nat.le_of_eq ((Nat.zero_add _).trans (Eq.trans (Zg (cl1 (n:=1) (m:=289) rfl (cl1 (n:=256) (m:=33) (Flat.len _) (cl1 (n:=16) (m:=17) (Flat.len _) (cl1 (n:=16) (m:=1) (Flat.len _) (cl1 (n:=1) (m:=0) rfl cl0)))))) (Eq.symm (Zg (cl1 (n:=1) (m:=289) rfl (cl1 (n:=256) (m:=33) (Flat.len _) (cl1 (n:=16) (m:=17) (Flat.len _) (cl1 (n:=16) (m:=1) (Flat.len _) (cl1 (n:=1) (m:=0) rfl cl0)))))))))) (ZV (cc1 (Flat.cell ((⟨285,r11,j13,j40,p0⟩ : GCipher).Field : Int)) (cc1 (Flat.cell _) (cc1 (Flat.cell _) (cc1 (Flat.cell _) (cc1 (Flat.cell ((⟨285,r11,j13,j40,p0⟩ : GCipher).Rounds : Int)) cc0)))))) (Zr (Eq.trans (Zg (cl1 (n:=1) (m:=289) rfl (cl1 (n:=256) (m:=33) (Flat.len _) (cl1 (n:=16) (m:=17) (Flat.len _) (cl1 (n:=16) (m:=1) (Flat.len _) (cl1 (n:=1) (m:=0) rfl cl0)))))) (Eq.symm (Zg (cl1 (n:=1) (m:=289) rfl (cl1 (n:=256) (m:=33) (Flat.len _) (cl1 (n:=16) (m:=17) (Flat.len _) (cl1 (n:=16) (m:=1) (Flat.len _) (cl1 (n:=1) (m:=0) rfl cl0))))))))) fun w a hM hE=>Zf ?_
   have hr:=Option.some.inj hF42
   subst hr
   have hq52 : Yx Tryz.prog _ _ (.cell 2 30) _:=ZR hE rfl UW rfl (hM.rawAt (pre:=[])) (Zg (cl1 (n:=1) (m:=289) rfl (cl1 (n:=256) (m:=33) (Flat.len _) (cl1 (n:=16) (m:=17) (Flat.len _) (cl1 (n:=16) (m:=1) (Flat.len _) (cl1 (n:=1) (m:=0) rfl cl0)))))) rfl
   have hM:=M.fst (l:=[]) hM
   exact wp_ret (Zt hE rfl hq52 ⟨_,rfl,rfl,hM.kept⟩)
def XL : Option (GCipher) :=
 (Wh 4).bind fun r3=>some r3
theorem TP (w0 : World)  (r : GCipher) (hF : XL  = some r) :
  Calls Tryz.prog 137 [].toArray w0 (fun en w'=>∃ v,en = .returned v ∧ (v = (Value.agg (enc r).toArray) ∧ Kept (Old w0) w0 w')):=by
 refine ZB (n:=2) Tryz.func137 rfl rfl (nbl rfl) rfl ?_
 intro a hE
 have hM:=M.start w0
 unfold XL at hF
 refine Zc (ZH hE hM Za ld UW fun b1 w a hM hE=>Zf (Zc ?_))
 obtain ⟨r3,e4,hF⟩:=bind_some hF
 refine Zw hE Za ld rfl cb42 (T9 _ 4 r3 e4) ?_
 rintro v w a ⟨rfl,hK⟩ hE
 have hM:=hM.keep hK
 refine Zv (seg:=cat [[vI r3.Field],enc r3.Box,enc r3.Mix,enc r3.Places,[vI r3.Rounds]]) (cs':=cat [[vI r3.Field],enc r3.Box,enc r3.Mix,enc r3.Places,[vI r3.Rounds]]) hE hM Za rfl rfl rfl UW (Zg (cl1 (n:=1) (m:=289) rfl (cl1 (n:=256) (m:=33) (Flat.len _) (cl1 (n:=16) (m:=17) (Flat.len _) (cl1 (n:=16) (m:=1) (Flat.len _) (cl1 (n:=1) (m:=0) rfl cl0)))))) (Nat.le_of_eq ((Nat.zero_add _).trans (Eq.trans (Zg (cl1 (n:=1) (m:=289) rfl (cl1 (n:=256) (m:=33) (Flat.len _) (cl1 (n:=16) (m:=17) (Flat.len _) (cl1 (n:=16) (m:=1) (Flat.len _) (cl1 (n:=1) (m:=0) rfl cl0)))))) (Eq.symm (Zg (cl1 (n:=1) (m:=289) rfl (cl1 (n:=256) (m:=33) (Flat.len _) (cl1 (n:=16) (m:=17) (Flat.len _) (cl1 (n:=16) (m:=1) (Flat.len _) (cl1 (n:=1) (m:=0) rfl cl0)))))))))) (ZV (cc1 (Flat.cell (r3.Field : Int)) (cc1 (Flat.cell _) (cc1 (Flat.cell _) (cc1 (Flat.cell _) (cc1 (Flat.cell (r3.Rounds : Int)) cc0)))))) (Zr (Eq.trans (Zg (cl1 (n:=1) (m:=289) rfl (cl1 (n:=256) (m:=33) (Flat.len _) (cl1 (n:=16) (m:=17) (Flat.len _) (cl1 (n:=16) (m:=1) (Flat.len _) (cl1 (n:=1) (m:=0) rfl cl0)))))) (Eq.symm (Zg (cl1 (n:=1) (m:=289) rfl (cl1 (n:=256) (m:=33) (Flat.len _) (cl1 (n:=16) (m:=17) (Flat.len _) (cl1 (n:=16) (m:=1) (Flat.len _) (cl1 (n:=1) (m:=0) rfl cl0))))))))) fun w a hM hE=>Zf ?_
 have hr:=Option.some.inj hF
 subst hr
 have hq5 : Yx Tryz.prog _ _ (.cell 0 30) _:=ZR hE rfl UW rfl (hM.rawAt (pre:=[])) (Zg (cl1 (n:=1) (m:=289) rfl (cl1 (n:=256) (m:=33) (Flat.len _) (cl1 (n:=16) (m:=17) (Flat.len _) (cl1 (n:=16) (m:=1) (Flat.len _) (cl1 (n:=1) (m:=0) rfl cl0)))))) rfl
 have hM:=M.fst (l:=[]) hM
 exact wp_ret (Zt hE rfl hq5 ⟨_,rfl,rfl,hM.kept⟩)
def V1 (p0 : (List UInt8)) : Option ((List UInt8)) :=
 (app 1 ([] : List UInt8) p0).bind fun l3=>some (([] : List UInt8) ++ p0)
theorem Hz (w0 : World) (p0 : (List UInt8)) (v0_1 : Value) (hv0_1 : Ro w0 p0 [v0_1]) (r : (List UInt8)) (hF : V1 p0 = some r) :
  Calls Tryz.prog 165 [v0_1].toArray w0 (fun en w'=>∃ v,en = .returned v ∧ (∃ (y1 : Value),v = y1 ∧ Fr w0 w' [osl NoB (r : List UInt8) y1] ∧ Kept (Old w0) w0 w')):=by
 refine ZB (n:=6) Tryz.func165 rfl rfl (nbl rfl) rfl ?_
 intro a hE
 have hM:=M.start w0
 unfold V1 at hF
 refine Zc (Ze hE Za ld rfl fun a hE=>Zf (Zc (Yj (xs:=[]) (l:=([] : List UInt8)) (vs:=[]) hE hM Za ld rfl rfl Tryz.underlying32 ty5 rfl (by decide) rfl fun u1 w a hM hE=>Zd hE Za ld rfl ?_))); intro a hE
 obtain ⟨l3,e4,hF⟩:=bind_some hF
 obtain ⟨e7,rfl⟩:=Y2 e4
 refine YA hE hM Za ld rfl rfl (hM.rd hv0_1) Tryz.underlying32 ty5 rfl (by decide) e7 fun u5 w a hM hE=>Ze hE Za ld rfl fun a hE=>Zf ?_
 have hr:=Option.some.inj hF
 subst hr
 exact wp_ret (Zt hE rfl (Zs hE rfl) ⟨_,rfl,u5,rfl,hM.outF (YL VT),hM.kept⟩)
def U6 (s16 : (List UInt8)) : Option (Fl (List UInt8) (List UInt8)) :=
 if ((Int.tmod (s16.length : Int) 16) != 8) = true then ((app 1 s16 ([0] : List UInt8)).bind fun l25=>some (Fl.nx (s16 ++ ([0] : List UInt8)))) else (some (Fl.ex s16))
def WN (p0 : (List UInt8)) (s36 : (List UInt8) × Int) : Option (Fl ((List UInt8) × Int) (List UInt8)) :=
 if (decide (s36.2 ≥ 0)) = true then ((Xi (IntKind.u64.wrap (wr (8 * s36.2)))).bind fun _=>(app 1 s36.1 ([Zx (Tq (Uu (p0.length : Int) (IntKind.u64.wrap (wr (8 * s36.2)))) 255)] : List UInt8)).bind fun l46=>some (Fl.nx ((s36.1 ++ ([Zx (Tq (Uu (p0.length : Int) (IntKind.u64.wrap (wr (8 * s36.2)))) 255)] : List UInt8)),wr (s36.2 - 1)))) else (some (Fl.ex s36.1))
def Uy (p0 : (List UInt8)) : Option ((List UInt8)) :=
 (V1 p0).bind fun r1=>(app 1 r1 ([128] : List UInt8)).bind fun l6=>(ZE (U6) (r1 ++ ([128] : List UInt8))).bind fun j11=>(ZE (WN p0) (j11,7)).bind fun j31=>some j31
theorem HX (w0 : World) (p0 : (List UInt8)) (v0_1 : Value) (hv0_1 : Ro w0 p0 [v0_1]) (r : (List UInt8)) (hF : Uy p0 = some r) :
  Calls Tryz.prog 149 [v0_1].toArray w0 (fun en w'=>∃ v,en = .returned v ∧ (∃ (y1 : Value),v = y1 ∧ Fr w0 w' [osl NoB (r : List UInt8) y1] ∧ Kept (Old w0) w0 w')):=by
 refine ZB (n:=32) Tryz.func149 rfl rfl (nbl rfl) rfl ?_
 intro a hE
 have hM:=M.start w0
 unfold Uy at hF
 refine Zc (Ze hE Za ld rfl fun a hE=>Zf (Zc (Zd hE Za ld rfl ?_))); intro a hE
 obtain ⟨r1,e2,hF⟩:=bind_some hF
 refine Zw hE Za ld rfl cb165 (Hz _ p0 v0_1 (hM.rdo hv0_1) r1 e2) ?_
 rintro u3 w a ⟨_,rfl,hFr,hK⟩ hE
 have hM:=hM.add hK hFr
 refine Yj (xs:=[.const (vB 128)]) (l:=([128] : List UInt8)) (vs:=[vB 128]) hE hM Za ld rfl rfl Tryz.underlying32 ty5 rfl (by decide) rfl ?_; intro u4 w a hM hE
 obtain ⟨l6,e7,hF⟩:=bind_some hF
 obtain ⟨e10,rfl⟩:=Y2 e7
 have hM:=hM.pull (pre:=[_])
 refine YA hE hM Za ld rfl rfl (hM.sl (pre:=[_]) noB) Tryz.underlying32 ty5 rfl (by decide) e10 fun u8 w a hM hE=>Ze hE Za ld rfl fun a hE=>Zf ?_
 obtain ⟨j11,hl12,hF13⟩:=bind_some hF
 refine ZQ (fun a w=>∃ (u14 : Value),Env 32 a [(0,v0_1),(3,u14)] ∧ M (Old w0) w0 w [osl NoB (j11 : List UInt8) u14]) ?_ ?_
 ·skip
  refine wp_block ?_
  have hM:=M.fst (l:=[_]) hM
  refine ZC (fun (s16 : (List UInt8)) a w=>∃ (u17 : Value),Env 32 a [(0,v0_1),(3,u17)] ∧ M (Old w0) w0 w [osl NoB (s16 : List UInt8) u17]) hl12 ⟨u8,hE.sub ⟨rfl,rfl,trivial⟩,hM⟩ ?_
  rintro s16 a w ⟨u17,hE,hM⟩ o21 hs19 hx20
  unfold U6 at hs19
  refine wp_seq (Zc (Zd hE Za ld rfl fun a hE=>Yf hE Za ld rfl Tryz.underlying32 (hM.sl (pre:=[]) noB) fun a hE=>Zi hE Za ld rfl rfl (TO _ _ (by decide)) fun a hE=>Zi hE Za ld rfl rfl rfl fun a hE=>Zf ?_))
  refine Zp hE rfl ?_ ?_
  ·intro hb22
   have hs19:=Zz hs19 hb22
   refine wp_skip (Zu (wp_block (wp_region_lit (Zd hE Za ld rfl fun a hE=>Yj (xs:=[.const (vB 0)]) (l:=([0] : List UInt8)) (vs:=[vB 0]) hE hM Za ld rfl rfl Tryz.underlying32 ty5 rfl (by decide) rfl ?_)))); intro u23 w a hM hE
   obtain ⟨l25,e26,hs19⟩:=bind_some hs19
   obtain ⟨e29,rfl⟩:=Y2 e26
   have hM:=hM.pull (pre:=[_])
   refine YA hE hM Za ld rfl rfl (hM.sl (pre:=[_]) noB) Tryz.underlying32 ty5 rfl (by decide) e29 fun u27 w a hM hE=>Ze hE Za ld rfl fun a hE=>Zj (ZZ (Zl ?_))
   have hM:=M.fst (l:=[_]) hM
   exact ⟨_,(ois hs19),u27,hE.sub ⟨rfl,rfl,trivial⟩,hM⟩
  ·intro hb22
   have hs19:=Zy hs19 hb22
   refine wp_exit (Zm (Zm (Z0 ?_)))
   have ht30:=hx20 _ (ois hs19)
   subst ht30
   refine Zl ?_
   exact ⟨u17,hE.sub ⟨rfl,rfl,trivial⟩,hM⟩
 ·skip
  rintro a w ⟨u14,hE,hM⟩
  refine wp_seq (Zc (Ze hE Za ld rfl fun a hE=>Zf ?_))
  obtain ⟨j31,hl32,hF33⟩:=bind_some hF13
  refine ZL (fun a w=>∃ (u34 : Value),Env 32 a [(3,u34)] ∧ M (Old w0) w0 w [osl NoB (j31 : List UInt8) u34]) ?_ ?_
  ·skip
   refine wp_block ?_
   refine ZC (fun (s36 : (List UInt8) × Int) a w=>∃ (u37 : Value),Env 32 a [(0,v0_1),(3,u37),(4,vI s36.2)] ∧ M (Old w0) w0 w [osl NoB (s36.1 : List UInt8) u37]) hl32 ⟨u14,hE.sub ⟨rfl,rfl,rfl,trivial⟩,hM⟩ ?_
   rintro s36 a w ⟨u37,hE,hM⟩ o41 hs39 hx40
   unfold WN at hs39
   refine wp_seq (Zc (Zd hE Za ld rfl fun a hE=>Zi hE Za ld rfl rfl rfl fun a hE=>Zf ?_))
   refine Zp hE rfl ?_ ?_
   ·intro hb42
    have hs39:=Zz hs39 hb42
    refine wp_skip (Zu (wp_seq (wp_block (wp_region_lit (Zd hE Za ld rfl fun a hE=>Zd hE Za ld rfl fun a hE=>Yf hE Za ld rfl Tryz.underlying32 (hM.rd hv0_1) fun a hE=>Zd hE Za ld rfl fun a hE=>Zi hE Za ld rfl rfl rfl fun a hE=>Yb hE Za ld rfl Tryz.underlying3 Tryz.underlying147 ?_))))); intro a hE
    obtain ⟨_,e43,hs39⟩:=bind_some hs39
    have e43:=Wm e43
    refine Jg hE Za ld rfl rfl (Kc _ _ e43) fun a hE=>Zi hE Za ld rfl rfl rfl fun a hE=>Yb hE Za ld rfl Tryz.underlying3 Tryz.underlying5 ?_; intro a hE
    rw [ZN] at hE
    refine Yj (xs:=[.tmp 28]) (l:=([Zx (Tq (Uu (p0.length : Int) (IntKind.u64.wrap (wr (8 * s36.2)))) 255)] : List UInt8)) (vs:=[(vB (Zx (Tq (Uu (p0.length : Int) (IntKind.u64.wrap (wr (8 * s36.2)))) 255)))]) hE hM Za ld rfl rfl Tryz.underlying32 ty5 rfl (by decide) rfl ?_; intro u44 w a hM hE
    obtain ⟨l46,e47,hs39⟩:=bind_some hs39
    obtain ⟨e50,rfl⟩:=Y2 e47
    have hM:=hM.pull (pre:=[_])
    refine YA hE hM Za ld rfl rfl (hM.sl (pre:=[_]) noB) Tryz.underlying32 ty5 rfl (by decide) e50 fun u48 w a hM hE=>Ze hE Za ld rfl fun a hE=>Zj (ZZ (Zu (wp_region_lit (Zd hE Za ld rfl fun a hE=>Zi hE Za ld rfl rfl rfl fun a hE=>Ze hE Za ld rfl fun a hE=>Zj (Zl ?_)))))
    have hM:=M.fst (l:=[_]) hM
    exact ⟨_,(ois hs39),u48,hE.sub ⟨rfl,rfl,rfl,trivial⟩,hM⟩
   ·intro hb42
    have hs39:=Zy hs39 hb42
    refine wp_exit (Zm (Zm (Z0 ?_)))
    have ht51:=hx40 _ (ois hs39)
    subst ht51
    refine Zl ?_
    exact ⟨u37,hE.sub ⟨rfl,trivial⟩,hM⟩
  ·skip
   rintro a w ⟨u34,hE,hM⟩
   refine Zu (Zc (Zd hE Za ld rfl fun a hE=>Ze hE Za ld rfl fun a hE=>Zf ?_))
   have hr:=Option.some.inj hF33
   subst hr
   exact wp_ret (Zt hE rfl (Zs hE rfl) ⟨_,rfl,u34,rfl,hM.outF (YL VT),hM.kept⟩)
def Xt (p0 : (List UInt8)) (s8 : (List (Vector UInt8 16)) × Int) (s20 : (Vector UInt8 16) × Int) : Option (Fl ((Vector UInt8 16) × Int) (Vector UInt8 16)) :=
 if (decide (s20.2 < 16)) = true then ((idx p0 (wr (s8.2 + s20.2))).bind fun x25=>(ZI s20.1 s20.2).bind fun x29=>some (Fl.nx ((s20.1.setIfInBounds (s20.2).toNat x25),wr (s20.2 + 1)))) else (some (Fl.ex s20.1))
def Xs (p0 : (List UInt8)) (s8 : (List (Vector UInt8 16)) × Int) : Option (Fl ((List (Vector UInt8 16)) × Int) (List (Vector UInt8 16))) :=
 if (decide ((wr (s8.2 + 16)) ≤ (p0.length : Int))) = true then ((ZE (Xt p0 s8) ((Vector.replicate 16 (0 : UInt8)),0)).bind fun j17=>(app 16 s8.1 ([j17] : List (Vector UInt8 16))).bind fun l34=>some (Fl.nx ((s8.1 ++ ([j17] : List (Vector UInt8 16))),wr (s8.2 + 16)))) else (some (Fl.ex s8.1))
def WT (p0 : (List UInt8)) : Option ((List (Vector UInt8 16))) :=
 (ZE (Xs p0) (([] : List (Vector UInt8 16)),0)).bind fun j3=>some j3
theorem KY (w0 : World) (p0 : (List UInt8)) (v0_1 : Value) (hv0_1 : Ro w0 p0 [v0_1]) (r : (List (Vector UInt8 16))) (hF : WT p0 = some r) :
  Calls Tryz.prog 148 [v0_1].toArray w0 (fun en w'=>∃ v,en = .returned v ∧ (∃ (y1 : Value),v = y1 ∧ Fr w0 w' [osl NoB (r : List (Vector UInt8 16)) y1] ∧ Kept (Old w0) w0 w')):=by
 refine ZB (n:=33) Tryz.func148 rfl rfl (nbl rfl) rfl ?_
 intro a hE
 have hM:=M.start w0
 unfold WT at hF
 refine Zc (Ze hE Za ld rfl fun a hE=>Zf (Zc (Yj (xs:=[]) (l:=([] : List (Vector UInt8 16))) (vs:=[]) hE hM Za ld rfl rfl Tryz.underlying33 ZG rfl (by decide) rfl fun u1 w a hM hE=>Ze hE Za ld rfl fun a hE=>Zf (wp_seq (Zc (Ze hE Za ld rfl fun a hE=>Zf ?_))))))
 obtain ⟨j3,hl4,hF5⟩:=bind_some hF
 refine ZL (fun a w=>∃ (u6 : Value),Env 33 a [(3,u6)] ∧ M (Old w0) w0 w [osl NoB (j3 : List (Vector UInt8 16)) u6]) ?_ ?_
 ·skip
  refine wp_block ?_
  refine ZC (fun (s8 : (List (Vector UInt8 16)) × Int) a w=>∃ (u9 : Value),Env 33 a [(0,v0_1),(3,u9),(4,vI s8.2)] ∧ M (Old w0) w0 w [osl NoB (s8.1 : List (Vector UInt8 16)) u9]) hl4 ⟨u1,hE.sub ⟨rfl,rfl,rfl,trivial⟩,hM⟩ ?_
  rintro s8 a w ⟨u9,hE,hM⟩ o13 hs11 hx12
  unfold Xs at hs11
  refine wp_seq (Zc (Zd hE Za ld rfl fun a hE=>Zi hE Za ld rfl rfl rfl fun a hE=>Zd hE Za ld rfl fun a hE=>Yf hE Za ld rfl Tryz.underlying32 (hM.rd hv0_1) fun a hE=>Zi hE Za ld rfl rfl rfl fun a hE=>Zf ?_))
  refine Zp hE rfl ?_ ?_
  ·intro hb14
   have hs11:=Zz hs11 hb14
   refine wp_skip (Zu (wp_seq (wp_block (Zc (YT (parts:=[]) (vs:=[]) (cs:=enc (Vector.replicate 16 (0 : UInt8))) hE Za ld rfl rfl ZG rfl ty5 Yw fun a hE=>ZH hE hM Za ld ZG fun b15 w a hM hE=>Zv (seg:=enc (Vector.replicate 16 (0 : UInt8))) (cs':=enc (Vector.replicate 16 (0 : UInt8))) hE hM Za rfl rfl rfl ZG (Flat.len _) (zle flq) (Flat.cell _) (Zr flq) fun w a hM hE=>Zf (wp_seq (Zc (Ze hE Za ld rfl fun a hE=>Zf ?_))))))))
   obtain ⟨j17,hl18,hF19⟩:=bind_some hs11
   refine ZL (fun a w=>Env 33 a [(0,v0_1),(3,u9),(4,vI s8.2),(5,(ptr b15 0))] ∧ M (Old w0) w0 w [raw b15 (enc j17),osl NoB (s8.1 : List (Vector UInt8 16)) u9]) ?_ ?_
   ·skip
    refine wp_block ?_
    refine ZC (fun (s20 : (Vector UInt8 16) × Int) a w=>Env 33 a [(0,v0_1),(3,u9),(4,vI s8.2),(5,(ptr b15 0)),(6,vI s20.2)] ∧ M (Old w0) w0 w [raw b15 (enc s20.1),osl NoB (s8.1 : List (Vector UInt8 16)) u9]) hl18 ⟨hE.sub ⟨rfl,rfl,rfl,rfl,rfl,trivial⟩,hM⟩ ?_
    rintro s20 a w ⟨hE,hM⟩ o23 hs21 hx22
    unfold Xt at hs21
    refine wp_seq (Zc (Zd hE Za ld rfl fun a hE=>Zi hE Za ld rfl rfl rfl fun a hE=>Zf ?_))
    refine Zp hE rfl ?_ ?_
    ·intro hb24
     have hs21:=Zz hs21 hb24
     refine wp_skip (Zu (wp_seq (wp_block (wp_region_lit (Zd hE Za ld rfl fun a hE=>Zd hE Za ld rfl fun a hE=>Zd hE Za ld rfl fun a hE=>Zd hE Za ld rfl fun a hE=>Zi hE Za ld rfl rfl rfl ?_))))); intro a hE
     obtain ⟨x25,hi27,hs21⟩:=bix hs21
     refine ZK hE Za ld rfl rfl Tryz.underlying32 ty5 (hM.rd hv0_1) hi27.1 fun a hE=>ZA (v:=(vB x25)) hE Za ld rfl ty5 rfl (Xc (hM.rd hv0_1) hi27.2) ?_; intro a hE
     obtain ⟨x29,hi28,hs21⟩:=bvx hs21
     refine Zk hE Za ld rfl rfl Tryz.underlying31 ty5 hi28.1 fun a hE=>Zv (seg:=[vB x25]) (cs':=enc (s20.1.setIfInBounds (s20.2).toNat x25)) hE hM Za rfl rfl rfl ty5 rfl (ZM (v:=s20.1) (x:=x25) hi28.1) (Flat.cell (x25 : UInt8)) (ZD (v:=s20.1) (x:=x25) hi28.1) fun w a hM hE=>Zj (ZZ (Zu (wp_region_lit (Zd hE Za ld rfl fun a hE=>Zi hE Za ld rfl rfl rfl fun a hE=>Ze hE Za ld rfl fun a hE=>Zj (Zl ?_)))))
     exact ⟨_,(ois hs21),hE.sub ⟨rfl,rfl,rfl,rfl,rfl,trivial⟩,hM⟩
    ·intro hb24
     have hs21:=Zy hs21 hb24
     refine wp_exit (Zm (Zm (Z0 ?_)))
     have ht31:=hx22 _ (ois hs21)
     subst ht31
     refine Zl ?_
     exact ⟨hE.sub ⟨rfl,rfl,rfl,rfl,trivial⟩,hM⟩
   ·skip
    rintro a w ⟨hE,hM⟩
    refine Zu (wp_region_lit (Zd hE Za ld rfl fun a hE=>Zo (cs:=enc j17) hE Za ld rfl ZG rfl (hM.rawAt (pre:=[])) (Flat.len _) fun a hE=>Yj (xs:=[.tmp 29]) (l:=([j17] : List (Vector UInt8 16))) (vs:=[(Value.agg (enc j17).toArray)]) hE hM Za ld rfl rfl Tryz.underlying33 ZG rfl (by decide) rfl ?_)); intro u32 w a hM hE
    obtain ⟨l34,e35,hF19⟩:=bind_some hF19
    obtain ⟨e38,rfl⟩:=Y2 e35
    have hM:=hM.pull (pre:=[_,_])
    refine YA hE hM Za ld rfl rfl (hM.sl (pre:=[_]) noB) Tryz.underlying33 ZG rfl (by decide) e38 fun u36 w a hM hE=>Ze hE Za ld rfl fun a hE=>Zj (ZZ (Zu (wp_region_lit (Zd hE Za ld rfl fun a hE=>Zi hE Za ld rfl rfl rfl fun a hE=>Ze hE Za ld rfl fun a hE=>Zj (Zl ?_)))))
    have hM:=M.fst (l:=[_]) hM
    exact ⟨_,(ois hF19),u36,hE.sub ⟨rfl,rfl,rfl,trivial⟩,hM⟩
  ·intro hb14
   have hs11:=Zy hs11 hb14
   refine wp_exit (Zm (Zm (Z0 ?_)))
   have ht39:=hx12 _ (ois hs11)
   subst ht39
   refine Zl ?_
   exact ⟨u9,hE.sub ⟨rfl,trivial⟩,hM⟩
 ·skip
  rintro a w ⟨u6,hE,hM⟩
  refine Zu (Zc (Zd hE Za ld rfl fun a hE=>Ze hE Za ld rfl fun a hE=>Zf ?_))
  have hr:=Option.some.inj hF5
  subst hr
  exact wp_ret (Zt hE rfl (Zs hE rfl) ⟨_,rfl,u6,rfl,hM.outF (YL VT),hM.kept⟩)
def XR (s8 : (Vector UInt8 32) × Int) : Option (Fl ((Vector UInt8 32) × Int) (Vector UInt8 32)) :=
 if (decide (s8.2 < 32)) = true then ((ZI s8.1 s8.2).bind fun x14=>some (Fl.nx ((s8.1.setIfInBounds (s8.2).toNat (Zx (Int.tmod (wr (17 * s8.2)) 256))),wr (s8.2 + 1)))) else (some (Fl.ex s8.1))
def Vs : Option ((Vector UInt8 32)) :=
 (ZE (XR) ((Vector.replicate 32 (0 : UInt8)),0)).bind fun j5=>some j5
theorem JG (w0 : World)  (r : (Vector UInt8 32)) (hF : Vs  = some r) :
  Calls Tryz.prog 150 [].toArray w0 (fun en w'=>∃ v,en = .returned v ∧ (v = (Value.agg (enc r).toArray) ∧ Kept (Old w0) w0 w')):=by
 refine ZB (n:=15) Tryz.func150 rfl rfl (nbl rfl) rfl ?_
 intro a hE
 have hM:=M.start w0
 unfold Vs at hF
 refine Zc (ZH hE hM Za ld Yi fun b1 w a hM hE=>Zf (Zc (YT (parts:=[]) (vs:=[]) (cs:=enc (Vector.replicate 32 (0 : UInt8))) hE Za ld rfl rfl Yi rfl ty5 Yw fun a hE=>ZH hE hM Za ld Yi fun b3 w a hM hE=>Zv (seg:=enc (Vector.replicate 32 (0 : UInt8))) (cs':=enc (Vector.replicate 32 (0 : UInt8))) hE hM Za rfl rfl rfl Yi (Flat.len _) (zle flq) (Flat.cell _) (Zr flq) fun w a hM hE=>Zf (wp_seq (Zc (Ze hE Za ld rfl fun a hE=>Zf ?_))))))
 obtain ⟨j5,hl6,hF7⟩:=bind_some hF
 refine ZL (fun a w=>Env 15 a [(0,(ptr b1 0)),(1,(ptr b3 0))] ∧ M (Old w0) w0 w [raw b3 (enc j5),raw b1 (enc (Vector.replicate 32 (0 : UInt8)))]) ?_ ?_
 ·skip
  refine wp_block ?_
  refine ZC (fun (s8 : (Vector UInt8 32) × Int) a w=>Env 15 a [(0,(ptr b1 0)),(1,(ptr b3 0)),(2,vI s8.2)] ∧ M (Old w0) w0 w [raw b3 (enc s8.1),raw b1 (enc (Vector.replicate 32 (0 : UInt8)))]) hl6 ⟨hE.sub ⟨rfl,rfl,rfl,trivial⟩,hM⟩ ?_
  rintro s8 a w ⟨hE,hM⟩ o11 hs9 hx10
  unfold XR at hs9
  refine wp_seq (Zc (Zd hE Za ld rfl fun a hE=>Zi hE Za ld rfl rfl rfl fun a hE=>Zf ?_))
  refine Zp hE rfl ?_ ?_
  ·intro hb12
   have hs9:=Zz hs9 hb12
   refine wp_skip (Zu (wp_seq (wp_block (wp_region_lit (Zd hE Za ld rfl fun a hE=>Zd hE Za ld rfl fun a hE=>Zi hE Za ld rfl rfl rfl fun a hE=>Zi hE Za ld rfl rfl (TO _ _ (by decide)) fun a hE=>Yb hE Za ld rfl Tryz.underlying3 Tryz.underlying5 ?_))))); intro a hE
   rw [ZN] at hE
   obtain ⟨x14,hi13,hs9⟩:=bvx hs9
   refine Zk hE Za ld rfl rfl Tryz.underlying37 ty5 hi13.1 fun a hE=>Zv (seg:=[(vB (Zx (Int.tmod (wr (17 * s8.2)) 256)))]) (cs':=enc (s8.1.setIfInBounds (s8.2).toNat (Zx (Int.tmod (wr (17 * s8.2)) 256)))) hE hM Za rfl rfl rfl ty5 rfl (ZM (v:=s8.1) (x:=Zx (Int.tmod (wr (17 * s8.2)) 256)) hi13.1) (Flat.cell (Zx (Int.tmod (wr (17 * s8.2)) 256) : UInt8)) (ZD (v:=s8.1) (x:=Zx (Int.tmod (wr (17 * s8.2)) 256)) hi13.1) fun w a hM hE=>Zj (ZZ (Zu (wp_region_lit (Zd hE Za ld rfl fun a hE=>Zi hE Za ld rfl rfl rfl fun a hE=>Ze hE Za ld rfl fun a hE=>Zj (Zl ?_)))))
   exact ⟨_,(ois hs9),hE.sub ⟨rfl,rfl,rfl,trivial⟩,hM⟩
  ·intro hb12
   have hs9:=Zy hs9 hb12
   refine wp_exit (Zm (Zm (Z0 ?_)))
   have ht16:=hx10 _ (ois hs9)
   subst ht16
   refine Zl ?_
   exact ⟨hE.sub ⟨rfl,rfl,trivial⟩,hM⟩
 ·skip
  rintro a w ⟨hE,hM⟩
  refine Zu (Zc (Zo (cs:=enc j5) hE Za ld rfl Yi rfl (hM.rawAt (pre:=[])) (Flat.len _) ?_)); intro a hE
  have hM:=hM.pull (pre:=[_])
  refine Zv (seg:=enc j5) (cs':=enc j5) hE hM Za rfl rfl rfl Yi (Flat.len _) (zle flq) (Flat.cell _) (Zr flq) fun w a hM hE=>Zf ?_
  have hr:=Option.some.inj hF7
  subst hr
  have hq17 : Yx Tryz.prog _ _ (.cell 0 37) _:=ZR hE rfl Yi rfl (hM.rawAt (pre:=[])) (Flat.len _) rfl
  have hM:=M.fst (l:=[]) hM
  exact wp_ret (Zt hE rfl hq17 ⟨_,rfl,rfl,hM.kept⟩)
def Xw (p0 : (Vector UInt8 32)) (s14 : (Vector UInt8 16) × (Vector UInt8 16) × Int) : Option (Fl ((Vector UInt8 16) × (Vector UInt8 16) × Int) ((Vector UInt8 16) × (Vector UInt8 16))) :=
 if (decide (s14.2.2 < 16)) = true then ((ZI p0 s14.2.2).bind fun x20=>(ZI s14.2.1 s14.2.2).bind fun x23=>(ZI p0 (wr (16 + s14.2.2))).bind fun x26=>(ZI s14.1 s14.2.2).bind fun x29=>some (Fl.nx ((s14.1.setIfInBounds (s14.2.2).toNat x26),(s14.2.1.setIfInBounds (s14.2.2).toNat x20),wr (s14.2.2 + 1)))) else (some (Fl.ex (s14.1,s14.2.1)))
def W3 (p0 : (Vector UInt8 32)) : Option ((Vector UInt8 16) × (Vector UInt8 16)) :=
 (ZE (Xw p0) ((Vector.replicate 16 (0 : UInt8)),(Vector.replicate 16 (0 : UInt8)),0)).bind fun j11=>(some (j11.2,j11.1) : Option ((Vector UInt8 16) × (Vector UInt8 16))).bind fun j32=>some (j32.1,j32.2)
theorem KX (w0 : World) (p0 : (Vector UInt8 32)) (r : (Vector UInt8 16) × (Vector UInt8 16)) (hF : W3 p0 = some r) :
  Calls Tryz.prog 166 [(Value.agg (enc p0).toArray)].toArray w0 (fun en w'=>∃ v,en = .returned v ∧ (v = (Value.tuple [(Value.agg (enc r.1).toArray),(Value.agg (enc r.2).toArray)].toArray) ∧ Kept (Old w0) w0 w')):=by
 refine ZB (n:=26) Tryz.func166 rfl rfl (nbl rfl) rfl ?_
 intro a hE
 have hM:=M.start w0
 unfold W3 at hF
 refine Zc (ZT (cs:=enc p0) hE hM Za ld rfl rfl fun b1 w a hM hE=>ZH hE hM Za ld ZG fun b3 w a hM hE=>ZH hE hM Za ld ZG fun b5 w a hM hE=>Zf (Zc (YT (parts:=[]) (vs:=[]) (cs:=enc (Vector.replicate 16 (0 : UInt8))) hE Za ld rfl rfl ZG rfl ty5 Yw fun a hE=>YT (parts:=[]) (vs:=[]) (cs:=enc (Vector.replicate 16 (0 : UInt8))) hE Za ld rfl rfl ZG rfl ty5 Yw fun a hE=>ZH hE hM Za ld ZG fun b7 w a hM hE=>ZH hE hM Za ld ZG ?_))); intro b9 w a hM hE
 have hM:=hM.pull (pre:=[_])
 refine Zv (seg:=enc (Vector.replicate 16 (0 : UInt8))) (cs':=enc (Vector.replicate 16 (0 : UInt8))) hE hM Za rfl rfl rfl ZG (Flat.len _) (zle flq) (Flat.cell _) (Zr flq) ?_; intro w a hM hE
 have hM:=hM.pull (pre:=[_])
 refine Zv (seg:=enc (Vector.replicate 16 (0 : UInt8))) (cs':=enc (Vector.replicate 16 (0 : UInt8))) hE hM Za rfl rfl rfl ZG (Flat.len _) (zle flq) (Flat.cell _) (Zr flq) fun w a hM hE=>Zf (wp_seq (Zc (Ze hE Za ld rfl fun a hE=>Zf ?_)))
 obtain ⟨j11,hl12,hF13⟩:=bind_some hF
 refine ZL (fun a w=>Env 26 a [(2,(ptr b3 0)),(3,(ptr b5 0)),(4,(ptr b7 0)),(5,(ptr b9 0))] ∧ M (Old w0) w0 w [raw b9 (enc j11.1),raw b7 (enc j11.2),raw b5 (enc (Vector.replicate 16 (0 : UInt8))),raw b3 (enc (Vector.replicate 16 (0 : UInt8)))]) ?_ ?_
 ·skip
  refine wp_block ?_
  refine ZC (fun (s14 : (Vector UInt8 16) × (Vector UInt8 16) × Int) a w=>Env 26 a [(1,(ptr b1 0)),(2,(ptr b3 0)),(3,(ptr b5 0)),(4,(ptr b7 0)),(5,(ptr b9 0)),(6,vI s14.2.2)] ∧ M (Old w0) w0 w [raw b9 (enc s14.1),raw b7 (enc s14.2.1),raw b5 (enc (Vector.replicate 16 (0 : UInt8))),raw b3 (enc (Vector.replicate 16 (0 : UInt8))),raw b1 (enc p0)]) hl12 ⟨hE.sub ⟨rfl,rfl,rfl,rfl,rfl,rfl,trivial⟩,hM⟩ ?_
  rintro s14 a w ⟨hE,hM⟩ o17 hs15 hx16
  unfold Xw at hs15
  refine wp_seq (Zc (Zd hE Za ld rfl fun a hE=>Zi hE Za ld rfl rfl rfl fun a hE=>Zf ?_))
  refine Zp hE rfl ?_ ?_
  ·intro hb18
   have hs15:=Zz hs15 hb18
   refine wp_skip (Zu (wp_seq (wp_block (Zc (Zd hE Za ld rfl fun a hE=>Zd hE Za ld rfl ?_))))); intro a hE
   obtain ⟨x20,hi19,hs15⟩:=bvx hs15
   refine Zk hE Za ld rfl rfl Tryz.underlying37 ty5 hi19.1 fun a hE=>ZA (v:=(vB x20)) hE Za ld rfl ty5 rfl (At.vec (hM.rawAt (pre:=[_,_,_,_])) hi19.2) ?_; intro a hE
   obtain ⟨x23,hi22,hs15⟩:=bvx hs15
   refine Zk hE Za ld rfl rfl Tryz.underlying31 ty5 hi22.1 ?_; intro a hE
   have hM:=hM.pull (pre:=[_])
   refine Zv (seg:=[vB x20]) (cs':=enc (s14.2.1.setIfInBounds (s14.2.2).toNat x20)) hE hM Za rfl rfl rfl ty5 rfl (ZM (v:=s14.2.1) (x:=x20) hi22.1) (Flat.cell (x20 : UInt8)) (ZD (v:=s14.2.1) (x:=x20) hi22.1) fun w a hM hE=>Zf (wp_region_lit (Zd hE Za ld rfl fun a hE=>Zd hE Za ld rfl fun a hE=>Zi hE Za ld rfl rfl rfl ?_)); intro a hE
   obtain ⟨x26,hi25,hs15⟩:=bvx hs15
   refine Zk hE Za ld rfl rfl Tryz.underlying37 ty5 hi25.1 fun a hE=>ZA (v:=(vB x26)) hE Za ld rfl ty5 rfl (At.vec (hM.rawAt (pre:=[_,_,_,_])) hi25.2) ?_; intro a hE
   obtain ⟨x29,hi28,hs15⟩:=bvx hs15
   refine Zk hE Za ld rfl rfl Tryz.underlying31 ty5 hi28.1 ?_; intro a hE
   have hM:=hM.pull (pre:=[_])
   refine Zv (seg:=[vB x26]) (cs':=enc (s14.1.setIfInBounds (s14.2.2).toNat x26)) hE hM Za rfl rfl rfl ty5 rfl (ZM (v:=s14.1) (x:=x26) hi28.1) (Flat.cell (x26 : UInt8)) (ZD (v:=s14.1) (x:=x26) hi28.1) fun w a hM hE=>Zj (ZZ (Zu (wp_region_lit (Zd hE Za ld rfl fun a hE=>Zi hE Za ld rfl rfl rfl fun a hE=>Ze hE Za ld rfl fun a hE=>Zj (Zl ?_)))))
   exact ⟨_,(ois hs15),hE.sub ⟨rfl,rfl,rfl,rfl,rfl,rfl,trivial⟩,hM⟩
  ·intro hb18
   have hs15:=Zy hs15 hb18
   refine wp_exit (Zm (Zm (Z0 ?_)))
   have ht31:=hx16 _ (ois hs15)
   subst ht31
   refine Zl ?_
   have hM:=M.fst (l:=[_,_,_,_]) ((((hM.pull (pre:=[_,_,_])).pull (pre:=[_,_,_])).pull (pre:=[_,_,_])).pull (pre:=[_,_,_]))
   exact ⟨hE.sub ⟨rfl,rfl,rfl,rfl,trivial⟩,hM⟩
 ·skip
  rintro a w ⟨hE,hM⟩
  refine Zu ?_
  obtain ⟨j32,hl33,hF34⟩:=bind_some hF13
  refine ZQ (fun a w=>Env 26 a [(2,(ptr b3 0)),(3,(ptr b5 0))] ∧ M (Old w0) w0 w [raw b5 (enc j32.2),raw b3 (enc j32.1)]) ?_ ?_
  ·skip
   have hM:=hM.pull (pre:=[_,_,_])
   refine Te (n:=26) (hd:=[_,_,_]) (tl:=[_]) YN rfl rfl [24,25,28] (by decide) (fun D u w=>M (Old w0) w0 w ([raw b9 (enc j11.1),raw b7 (enc j11.2),raw b5 (enc (Vector.replicate 16 (0 : UInt8)))] ++ qL ([mkT 2 (raw b3 (enc (Vector.replicate 16 (0 : UInt8)))) (raw b3 (enc j11.2))] : Mk) D u) ∧ GOk ([([],fun us v=>v = (Value.agg (enc j11.2).toArray)),([],fun us v=>v = (Value.agg (enc j11.1).toArray)),([],fun us v=>True)] : Gs) D u) hE (fun u=>⟨M.qT (M.q0 hM.drew u),HU⟩) (ZJ (Zb ?_ (Zb ?_ (Zb ?_ ZF)))) ?_
   ·intro a w ux35 D hE hI hD hdc hp
    have hM0:=hI.1
    have hM:=hI.1
    have hM:=hM.togA (pre:=[_,_,_]) (Bool.eq_false_iff.2 fun hx=>Bool.noConfusion (hD.symm.trans (hdc 2 _ _ rfl (List.mem_of_getElem? (i:=0) rfl) rfl hx)))
    exact Zo (cs:=enc j11.2) hE Za ld rfl ZG rfl (hM.rawAt (pre:=[_])) (Flat.len _) fun a hE=>⟨_,_,rfl,hE,M.qKeep hM0 rfl,hI.2.put hD rfl Z4 rfl⟩
   ·intro a w ux35 D hE hI hD hdc hp
    have hM0:=hI.1
    have hM:=hI.1
    exact Zo (cs:=enc j11.1) hE Za ld rfl ZG rfl (hM.rawAt (pre:=[])) (Flat.len _) fun a hE=>⟨_,_,rfl,hE,M.qKeep hM0 rfl,hI.2.put hD rfl Z4 rfl⟩
   ·intro a w ux35 D hE hI hD hdc hp
    have d0 : D 0 = true:=hp 0 _ rfl rfl
    have g0:=hI.2 0 d0 _ rfl
    have f0 : ux35 0 = (Value.agg (enc j11.2).toArray):=g0.2
    have hM0:=hI.1
    have hM:=(hI.1.togA (pre:=[_,_,_]) hD).pull (pre:=[_,_,_])
    exact Zv (seg:=enc j11.2) (cs':=enc j11.2) hE hM Za rfl (lk rfl f0) rfl ZG (Flat.len _) (zle flq) (Flat.cell _) (Zr flq) fun w a hM hE=>⟨undef,_,rfl,Env.dummy hE (by decide),M.qTog (mk1:=[]) (mk2:=[]) hM rfl,hI.2.put hD rfl Z4 trivial⟩
   ·intro a w ux35 D hE hI hall
    have hM:=hI.1
    have d0 : D 0 = true:=hall 0 (by decide)
    have d1 : D 1 = true:=hall 1 (by decide)
    have d2 : D 2 = true:=hall 2 (by decide)
    have f0 : ux35 0 = (Value.agg (enc j11.2).toArray):=(hI.2 0 d0 _ rfl).2
    have f1 : ux35 1 = (Value.agg (enc j11.1).toArray):=(hI.2 1 d1 _ rfl).2
    have hM:=hM.togB (pre:=[_,_,_]) d2
    have hE:=hE.sub (e':=[(25,(Value.agg (enc j11.1).toArray)),(2,(ptr b3 0)),(3,(ptr b5 0))]) ⟨lk rfl f1,rfl,rfl,trivial⟩
    have hM:=hM.pull (pre:=[_,_])
    refine Zv (seg:=enc j11.1) (cs':=enc j11.1) hE hM Za rfl rfl rfl ZG (Flat.len _) (zle flq) (Flat.cell _) (Zr flq) fun w a hM hE=>Zj ?_
    have ht36:=Option.some.inj hl33
    subst ht36
    refine Zl ?_
    have hM:=M.fst (l:=[_,_]) ((hM.pull (pre:=[_,_,_])).pull (pre:=[_]))
    exact ⟨hE.sub ⟨rfl,rfl,trivial⟩,hM⟩
  ·skip
   rintro a w ⟨hE,hM⟩
   have hr:=Option.some.inj hF34
   subst hr
   have hq37 : Yx Tryz.prog _ _ (.cell 2 31) _:=ZR hE rfl ZG rfl (hM.rawAt (pre:=[_])) (Flat.len _) rfl
   have hq38 : Yx Tryz.prog _ _ (.cell 3 31) _:=ZR hE rfl ZG rfl (hM.rawAt (pre:=[])) (Flat.len _) rfl
   have hM:=M.fst (l:=[]) hM
   exact wp_ret (AQ hE rfl hq37 hq38 ⟨_,rfl,rfl,hM.kept⟩)
def W1 (p1 : (Vector UInt8 16)) (s10 : (Vector UInt8 16) × Int) : Option (Fl ((Vector UInt8 16) × Int) (Vector UInt8 16)) :=
 if (decide (s10.2 < 16)) = true then ((ZI s10.1 s10.2).bind fun x17=>(ZI p1 s10.2).bind fun x20=>(ZI s10.1 s10.2).bind fun x23=>some (Fl.nx ((s10.1.setIfInBounds (s10.2).toNat (x17 ^^^ x20)),wr (s10.2 + 1)))) else (some (Fl.ex s10.1))
def YO (p0 : (Vector UInt8 16)) (p1 : (Vector UInt8 16)) : Option ((Vector UInt8 16)) :=
 (ZE (W1 p1) (p0,0)).bind fun j7=>some j7
theorem VF (w0 : World) (p0 : (Vector UInt8 16)) (p1 : (Vector UInt8 16)) (r : (Vector UInt8 16)) (hF : YO p0 p1 = some r) :
  Calls Tryz.prog 167 [(Value.agg (enc p0).toArray),(Value.agg (enc p1).toArray)].toArray w0 (fun en w'=>∃ v,en = .returned v ∧ (v = (Value.agg (enc r).toArray) ∧ Kept (Old w0) w0 w')):=by
 refine ZB (n:=20) Tryz.func167 rfl rfl (nbl rfl) rfl ?_
 intro a hE
 have hM:=M.start w0
 unfold YO at hF
 refine Zc (ZT (cs:=enc p0) hE hM Za ld rfl rfl fun b1 w a hM hE=>ZT (cs:=enc p1) hE hM Za ld rfl rfl fun b3 w a hM hE=>ZH hE hM Za ld ZG fun b5 w a hM hE=>Zf (wp_seq (Zc (Ze hE Za ld rfl fun a hE=>Zf ?_))))
 obtain ⟨j7,hl8,hF9⟩:=bind_some hF
 refine ZL (fun a w=>Env 20 a [(2,(ptr b1 0)),(4,(ptr b5 0))] ∧ M (Old w0) w0 w [raw b5 (enc (Vector.replicate 16 (0 : UInt8))),raw b1 (enc j7)]) ?_ ?_
 ·skip
  refine wp_block ?_
  refine ZC (fun (s10 : (Vector UInt8 16) × Int) a w=>Env 20 a [(2,(ptr b1 0)),(3,(ptr b3 0)),(4,(ptr b5 0)),(5,vI s10.2)] ∧ M (Old w0) w0 w [raw b5 (enc (Vector.replicate 16 (0 : UInt8))),raw b3 (enc p1),raw b1 (enc s10.1)]) hl8 ⟨hE.sub ⟨rfl,rfl,rfl,rfl,trivial⟩,hM⟩ ?_
  rintro s10 a w ⟨hE,hM⟩ o13 hs11 hx12
  unfold W1 at hs11
  refine wp_seq (Zc (Zd hE Za ld rfl fun a hE=>Zi hE Za ld rfl rfl rfl fun a hE=>Zf ?_))
  refine Zp hE rfl ?_ ?_
  ·intro hb14
   have hs11:=Zz hs11 hb14
   refine wp_skip (Zu (wp_seq (wp_block ?_)))
   obtain ⟨x17,hi16,hs11⟩:=bvx hs11
   obtain ⟨x20,hi19,hs11⟩:=bvx hs11
   obtain ⟨x23,hi22,hs11⟩:=bvx hs11
   refine Yg (n:=20) (hd:=[_,_,_,_,_,_,_,_,_]) (tl:=[_]) YN rfl rfl [10,11,12,13,14,15,16,17,18] (by decide) (fun w=>M (Old w0) w0 w [raw b5 (enc (Vector.replicate 16 (0 : UInt8))),raw b3 (enc p1),raw b1 (enc s10.1)]) (fun j=>([fun v _=>v = (vI s10.2),fun v _=>v = (vI s10.2),fun v _=>v = (ptr b1 (0 + (s10.2).toNat * 1)),fun v _=>v = (vB x17),fun v _=>v = (vI s10.2),fun v _=>v = (ptr b3 (0 + (s10.2).toNat * 1)),fun v _=>v = (vB x20),fun v _=>v = (vB (x17 ^^^ x20)),fun v _=>v = (ptr b1 (0 + (s10.2).toNat * 1))] : List (Value → World → Prop)).getD j (fun _ _=>True)) (fun _ _ h hk=>h.keep hk) (gup (Zn (Zn (Zn (Zn (Zn (Zn (Zn (Zn (Zn Vb)))))))))) hE hM.drew (ZJ (Zb ?_ (Zb ?_ (Zb ?_ (Zb ?_ (Zb ?_ (Zb ?_ (Zb ?_ (Zb ?_ (Zb ?_ ZF)))))))))) ?_
   ·exact fun a w ux15 hE hM hp=>Zd hE Za ld rfl fun a hE=>⟨Kept.refl _ _,_,_,rfl,hE,rfl⟩
   ·exact fun a w ux15 hE hM hp=>Zd hE Za ld rfl fun a hE=>⟨Kept.refl _ _,_,_,rfl,hE,rfl⟩
   ·intro a w ux15 hE hM hp
    have f1 : ux15 1 = (vI s10.2):=hp 0 _ rfl rfl
    exact Zk hE Za ld rfl (lk rfl f1) Tryz.underlying31 ty5 hi16.1 fun a hE=>⟨Kept.refl _ _,_,_,rfl,hE,rfl⟩
   ·intro a w ux15 hE hM hp
    have f2 : ux15 2 = (ptr b1 (0 + (s10.2).toNat * 1)):=hp 0 _ rfl rfl
    exact ZA (v:=(vB x17)) hE Za ld (lk rfl f2) ty5 rfl (At.vec (hM.rawAt (pre:=[_,_])) hi16.2) fun a hE=>⟨Kept.refl _ _,_,_,rfl,hE,rfl⟩
   ·exact fun a w ux15 hE hM hp=>Zd hE Za ld rfl fun a hE=>⟨Kept.refl _ _,_,_,rfl,hE,rfl⟩
   ·intro a w ux15 hE hM hp
    have f4 : ux15 4 = (vI s10.2):=hp 0 _ rfl rfl
    exact Zk hE Za ld rfl (lk rfl f4) Tryz.underlying31 ty5 hi19.1 fun a hE=>⟨Kept.refl _ _,_,_,rfl,hE,rfl⟩
   ·intro a w ux15 hE hM hp
    have f5 : ux15 5 = (ptr b3 (0 + (s10.2).toNat * 1)):=hp 0 _ rfl rfl
    exact ZA (v:=(vB x20)) hE Za ld (lk rfl f5) ty5 rfl (At.vec (hM.rawAt (pre:=[_])) hi19.2) fun a hE=>⟨Kept.refl _ _,_,_,rfl,hE,rfl⟩
   ·intro a w ux15 hE hM hp
    have f3 : ux15 3 = (vB x17):=hp 0 _ rfl rfl
    have f6 : ux15 6 = (vB x20):=hp 1 _ rfl rfl
    exact Zi hE Za ld (lk rfl f3) (lk rfl f6) (VG x17 x20) fun a hE=>⟨Kept.refl _ _,_,_,rfl,hE,rfl⟩
   ·intro a w ux15 hE hM hp
    have f0 : ux15 0 = (vI s10.2):=hp 0 _ rfl rfl
    exact Zk hE Za ld rfl (lk rfl f0) Tryz.underlying31 ty5 hi22.1 fun a hE=>⟨Kept.refl _ _,_,_,rfl,hE,rfl⟩
   ·intro a w ux15 hE hM hg
    have hE:=hE.sub (e':=[(17,(vB (x17 ^^^ x20))),(18,(ptr b1 (0 + (s10.2).toNat * 1))),(2,(ptr b1 0)),(3,(ptr b3 0)),(4,(ptr b5 0)),(5,vI s10.2),(6,vI s10.2),(7,(vT (decide (s10.2 < 16))))]) ⟨lk rfl (hg 7 (by decide)),lk rfl (hg 8 (by decide)),rfl,rfl,rfl,rfl,rfl,rfl,trivial⟩
    have hM:=hM.pull (pre:=[_,_])
    refine Zv (seg:=[(vB (x17 ^^^ x20))]) (cs':=enc (s10.1.setIfInBounds (s10.2).toNat (x17 ^^^ x20))) hE hM Za rfl rfl rfl ty5 rfl (ZM (v:=s10.1) (x:=x17 ^^^ x20) hi22.1) (Flat.cell (x17 ^^^ x20 : UInt8)) (ZD (v:=s10.1) (x:=x17 ^^^ x20) hi22.1) fun w a hM hE=>Zj (ZZ (Zu (wp_region_lit (Zd hE Za ld rfl fun a hE=>Zi hE Za ld rfl rfl rfl fun a hE=>Ze hE Za ld rfl fun a hE=>Zj (Zl ?_)))))
    have hM:=(hM.pull (pre:=[_,_])).pull (pre:=[_,_])
    exact ⟨_,(ois hs11),hE.sub ⟨rfl,rfl,rfl,rfl,trivial⟩,hM⟩
  ·intro hb14
   have hs11:=Zy hs11 hb14
   refine wp_exit (Zm (Zm (Z0 ?_)))
   have ht25:=hx12 _ (ois hs11)
   subst ht25
   refine Zl ?_
   have hM:=M.fst (l:=[_,_]) ((hM.pull (pre:=[_,_])).pull (pre:=[_]))
   exact ⟨hE.sub ⟨rfl,rfl,trivial⟩,hM⟩
 ·skip
  rintro a w ⟨hE,hM⟩
  refine Zu (Zc (Zo (cs:=enc j7) hE Za ld rfl ZG rfl (hM.rawAt (pre:=[_])) (Flat.len _) fun a hE=>Zv (seg:=enc j7) (cs':=enc j7) hE hM Za rfl rfl rfl ZG (Flat.len _) (zle flq) (Flat.cell _) (Zr flq) fun w a hM hE=>Zf ?_))
  have hr:=Option.some.inj hF9
  subst hr
  have hq26 : Yx Tryz.prog _ _ (.cell 4 31) _:=ZR hE rfl ZG rfl (hM.rawAt (pre:=[])) (Flat.len _) rfl
  have hM:=M.fst (l:=[]) hM
  exact wp_ret (Zt hE rfl hq26 ⟨_,rfl,rfl,hM.kept⟩)
def Wb (p0 : (Vector UInt8 256)) (p2 : Int) (s10 : (Vector UInt8 16) × Int) : Option (Fl ((Vector UInt8 16) × Int) (Vector UInt8 16)) :=
 if (decide (s10.2 < 16)) = true then (((ZI s10.1 (Int.tmod (wr (s10.2 + 15)) 16)).bind fun x19=>(if (s10.2 == 0) = true then (some (x19 ^^^ (Zx p2))) else (some x19) : Option (UInt8)).bind fun j21=>(ZI s10.1 s10.2).bind fun x29=>(ZI p0 (bI j21)).bind fun x32=>(ZI s10.1 s10.2).bind fun x35=>some (s10.1.setIfInBounds (s10.2).toNat (x29 ^^^ x32)) : Option ((Vector UInt8 16))).bind fun j15=>some (Fl.nx (j15,wr (s10.2 + 1)))) else (some (Fl.ex s10.1))
def V0 (p0 : (Vector UInt8 256)) (p1 : (Vector UInt8 16)) (p2 : Int) : Option ((Vector UInt8 16)) :=
 (ZE (Wb p0 p2) (p1,0)).bind fun j7=>some j7
theorem J9 (w0 : World) (p0 : (Vector UInt8 256)) (p1 : (Vector UInt8 16)) (p2 : Int) (r : (Vector UInt8 16)) (hF : V0 p0 p1 p2 = some r) :
  Calls Tryz.prog 181 [(Value.agg (enc p0).toArray),(Value.agg (enc p1).toArray),vI p2].toArray w0 (fun en w'=>∃ v,en = .returned v ∧ (v = (Value.agg (enc r).toArray) ∧ Kept (Old w0) w0 w')):=by
 refine ZB (n:=34) Tryz.func181 rfl rfl (nbl rfl) rfl ?_
 intro a hE
 have hM:=M.start w0
 unfold V0 at hF
 refine Zc (ZT (cs:=enc p0) hE hM Za ld rfl rfl fun b1 w a hM hE=>ZT (cs:=enc p1) hE hM Za ld rfl rfl fun b3 w a hM hE=>ZH hE hM Za ld ZG fun b5 w a hM hE=>Zf (wp_seq (Zc (Ze hE Za ld rfl fun a hE=>Zf ?_))))
 obtain ⟨j7,hl8,hF9⟩:=bind_some hF
 refine ZL (fun a w=>Env 34 a [(4,(ptr b3 0)),(6,(ptr b5 0))] ∧ M (Old w0) w0 w [raw b5 (enc (Vector.replicate 16 (0 : UInt8))),raw b3 (enc j7)]) ?_ ?_
 ·skip
  refine wp_block ?_
  refine ZC (fun (s10 : (Vector UInt8 16) × Int) a w=>Env 34 a [(2,vI p2),(3,(ptr b1 0)),(4,(ptr b3 0)),(6,(ptr b5 0)),(7,vI s10.2)] ∧ M (Old w0) w0 w [raw b5 (enc (Vector.replicate 16 (0 : UInt8))),raw b3 (enc s10.1),raw b1 (enc p0)]) hl8 ⟨hE.sub ⟨rfl,rfl,rfl,rfl,rfl,trivial⟩,hM⟩ ?_
  rintro s10 a w ⟨hE,hM⟩ o13 hs11 hx12
  unfold Wb at hs11
  refine wp_seq (Zc (Zd hE Za ld rfl fun a hE=>Zi hE Za ld rfl rfl rfl fun a hE=>Zf ?_))
  refine Zp hE rfl ?_ ?_
  ·intro hb14
   have hs11:=Zz hs11 hb14
   refine wp_skip (Zu ?_)
   obtain ⟨j15,hl16,hF17⟩:=bind_some hs11
   refine ZQ (fun a w=>Env 34 a [(2,vI p2),(3,(ptr b1 0)),(4,(ptr b3 0)),(6,(ptr b5 0)),(7,vI s10.2)] ∧ M (Old w0) w0 w [raw b5 (enc (Vector.replicate 16 (0 : UInt8))),raw b3 (enc j15),raw b1 (enc p0)]) ?_ ?_
   ·skip
    refine wp_block (Zc (Zd hE Za ld rfl fun a hE=>Zi hE Za ld rfl rfl rfl fun a hE=>Zi hE Za ld rfl rfl (TO _ _ (by decide)) ?_)); intro a hE
    obtain ⟨x19,hi18,hl16⟩:=bvx hl16
    refine Zk hE Za ld rfl rfl Tryz.underlying31 ty5 hi18.1 fun a hE=>ZA (v:=(vB x19)) hE Za ld rfl ty5 rfl (At.vec (hM.rawAt (pre:=[_])) hi18.2) fun a hE=>Ze hE Za ld rfl fun a hE=>Zf ?_
    obtain ⟨j21,hl22,hF23⟩:=bind_some hl16
    refine ZQ (fun a w=>Env 34 a [(2,vI p2),(3,(ptr b1 0)),(4,(ptr b3 0)),(6,(ptr b5 0)),(7,vI s10.2),(8,vB j21)] ∧ M (Old w0) w0 w [raw b5 (enc (Vector.replicate 16 (0 : UInt8))),raw b3 (enc s10.1),raw b1 (enc p0)]) ?_ ?_
    ·skip
     refine Zc (Zd hE Za ld rfl fun a hE=>Zi hE Za ld rfl rfl rfl fun a hE=>Zf ?_)
     refine Zp hE rfl ?_ ?_
     ·intro hb24
      have hl22:=Zz hl22 hb24
      refine wp_region_lit (Zd hE Za ld rfl fun a hE=>Zd hE Za ld rfl fun a hE=>Yb hE Za ld rfl Tryz.underlying2 Tryz.underlying5 ?_); intro a hE
      rw [ZN] at hE
      refine Zi hE Za ld rfl rfl (VG x19 (Zx p2)) fun a hE=>Ze hE Za ld rfl fun a hE=>Zj ?_
      have ht25:=Option.some.inj hl22
      subst ht25
      refine Zl ?_
      exact ⟨hE.sub ⟨rfl,rfl,rfl,rfl,rfl,rfl,trivial⟩,hM⟩
     ·intro hb24
      have hl22:=Zy hl22 hb24
      refine wp_skip ?_
      have ht26:=Option.some.inj hl22
      subst ht26
      refine Zl ?_
      exact ⟨hE.sub ⟨rfl,rfl,rfl,rfl,rfl,rfl,trivial⟩,hM⟩
    ·skip
     rintro a w ⟨hE,hM⟩
     obtain ⟨x29,hi28,hF23⟩:=bvx hF23
     obtain ⟨x32,hi31,hF23⟩:=bvx hF23
     obtain ⟨x35,hi34,hF23⟩:=bvx hF23
     refine Yg (n:=34) (hd:=[_,_,_,_,_,_,_,_,_]) (tl:=[_]) YN rfl rfl [24,25,26,27,28,29,30,31,32] (by decide) (fun w=>M (Old w0) w0 w [raw b5 (enc (Vector.replicate 16 (0 : UInt8))),raw b3 (enc s10.1),raw b1 (enc p0)]) (fun j=>([fun v _=>v = (vI s10.2),fun v _=>v = (vI s10.2),fun v _=>v = (ptr b3 (0 + (s10.2).toNat * 1)),fun v _=>v = (vB x29),fun v _=>v = (vB j21),fun v _=>v = (ptr b1 (0 + ((bI j21)).toNat * 1)),fun v _=>v = (vB x32),fun v _=>v = (vB (x29 ^^^ x32)),fun v _=>v = (ptr b3 (0 + (s10.2).toNat * 1))] : List (Value → World → Prop)).getD j (fun _ _=>True)) (fun _ _ h hk=>h.keep hk) (gup (Zn (Zn (Zn (Zn (Zn (Zn (Zn (Zn (Zn Vb)))))))))) hE hM.drew (ZJ (Zb ?_ (Zb ?_ (Zb ?_ (Zb ?_ (Zb ?_ (Zb ?_ (Zb ?_ (Zb ?_ (Zb ?_ ZF)))))))))) ?_
     ·exact fun a w ux27 hE hM hp=>Zd hE Za ld rfl fun a hE=>⟨Kept.refl _ _,_,_,rfl,hE,rfl⟩
     ·exact fun a w ux27 hE hM hp=>Zd hE Za ld rfl fun a hE=>⟨Kept.refl _ _,_,_,rfl,hE,rfl⟩
     ·intro a w ux27 hE hM hp
      have f1 : ux27 1 = (vI s10.2):=hp 0 _ rfl rfl
      exact Zk hE Za ld rfl (lk rfl f1) Tryz.underlying31 ty5 hi28.1 fun a hE=>⟨Kept.refl _ _,_,_,rfl,hE,rfl⟩
     ·intro a w ux27 hE hM hp
      have f2 : ux27 2 = (ptr b3 (0 + (s10.2).toNat * 1)):=hp 0 _ rfl rfl
      exact ZA (v:=(vB x29)) hE Za ld (lk rfl f2) ty5 rfl (At.vec (hM.rawAt (pre:=[_])) hi28.2) fun a hE=>⟨Kept.refl _ _,_,_,rfl,hE,rfl⟩
     ·exact fun a w ux27 hE hM hp=>Zd hE Za ld rfl fun a hE=>⟨Kept.refl _ _,_,_,rfl,hE,rfl⟩
     ·intro a w ux27 hE hM hp
      have f4 : ux27 4 = (vB j21):=hp 0 _ rfl rfl
      exact Zk hE Za ld rfl (lk rfl f4) Tryz.underlying23 ty5 hi31.1 fun a hE=>⟨Kept.refl _ _,_,_,rfl,hE,rfl⟩
     ·intro a w ux27 hE hM hp
      have f5 : ux27 5 = (ptr b1 (0 + ((bI j21)).toNat * 1)):=hp 0 _ rfl rfl
      exact ZA (v:=(vB x32)) hE Za ld (lk rfl f5) ty5 rfl (At.vec (hM.rawAt (pre:=[_,_])) hi31.2) fun a hE=>⟨Kept.refl _ _,_,_,rfl,hE,rfl⟩
     ·intro a w ux27 hE hM hp
      have f3 : ux27 3 = (vB x29):=hp 0 _ rfl rfl
      have f6 : ux27 6 = (vB x32):=hp 1 _ rfl rfl
      exact Zi hE Za ld (lk rfl f3) (lk rfl f6) (VG x29 x32) fun a hE=>⟨Kept.refl _ _,_,_,rfl,hE,rfl⟩
     ·intro a w ux27 hE hM hp
      have f0 : ux27 0 = (vI s10.2):=hp 0 _ rfl rfl
      exact Zk hE Za ld rfl (lk rfl f0) Tryz.underlying31 ty5 hi34.1 fun a hE=>⟨Kept.refl _ _,_,_,rfl,hE,rfl⟩
     ·intro a w ux27 hE hM hg
      have hE:=hE.sub (e':=[(31,(vB (x29 ^^^ x32))),(32,(ptr b3 (0 + (s10.2).toNat * 1))),(2,vI p2),(3,(ptr b1 0)),(4,(ptr b3 0)),(6,(ptr b5 0)),(7,vI s10.2),(8,vB j21)]) ⟨lk rfl (hg 7 (by decide)),lk rfl (hg 8 (by decide)),rfl,rfl,rfl,rfl,rfl,rfl,trivial⟩
      have hM:=hM.pull (pre:=[_])
      refine Zv (seg:=[(vB (x29 ^^^ x32))]) (cs':=enc (s10.1.setIfInBounds (s10.2).toNat (x29 ^^^ x32))) hE hM Za rfl rfl rfl ty5 rfl (ZM (v:=s10.1) (x:=x29 ^^^ x32) hi34.1) (Flat.cell (x29 ^^^ x32 : UInt8)) (ZD (v:=s10.1) (x:=x29 ^^^ x32) hi34.1) fun w a hM hE=>Zj (ZZ ?_)
      have ht37:=Option.some.inj hF23
      subst ht37
      refine Zl ?_
      have hM:=((hM.pull (pre:=[_,_])).pull (pre:=[_])).pull (pre:=[_,_])
      exact ⟨hE.sub ⟨rfl,rfl,rfl,rfl,rfl,trivial⟩,hM⟩
   ·skip
    rintro a w ⟨hE,hM⟩
    refine wp_region_lit (Zd hE Za ld rfl fun a hE=>Zi hE Za ld rfl rfl rfl fun a hE=>Ze hE Za ld rfl fun a hE=>Zj (Zl ?_))
    exact ⟨_,(ois hF17),hE.sub ⟨rfl,rfl,rfl,rfl,rfl,trivial⟩,hM⟩
  ·intro hb14
   have hs11:=Zy hs11 hb14
   refine wp_exit (Zm (Zm (Z0 ?_)))
   have ht38:=hx12 _ (ois hs11)
   subst ht38
   refine Zl ?_
   have hM:=M.fst (l:=[_,_]) ((hM.pull (pre:=[_])).pull (pre:=[_]))
   exact ⟨hE.sub ⟨rfl,rfl,trivial⟩,hM⟩
 ·skip
  rintro a w ⟨hE,hM⟩
  refine Zu (Zc (Zo (cs:=enc j7) hE Za ld rfl ZG rfl (hM.rawAt (pre:=[_])) (Flat.len _) fun a hE=>Zv (seg:=enc j7) (cs':=enc j7) hE hM Za rfl rfl rfl ZG (Flat.len _) (zle flq) (Flat.cell _) (Zr flq) fun w a hM hE=>Zf ?_))
  have hr:=Option.some.inj hF9
  subst hr
  have hq39 : Yx Tryz.prog _ _ (.cell 6 31) _:=ZR hE rfl ZG rfl (hM.rawAt (pre:=[])) (Flat.len _) rfl
  have hM:=M.fst (l:=[]) hM
  exact wp_ret (Zt hE rfl hq39 ⟨_,rfl,rfl,hM.kept⟩)
def Wf (p0 : GCipher) (p2 : Int) (s12 : (Vector UInt8 16) × (List (Vector UInt8 16)) × Int) : Option (Fl ((Vector UInt8 16) × (List (Vector UInt8 16)) × Int) (List (Vector UInt8 16))) :=
 if (decide (s12.2.2 ≤ p2)) = true then ((V0 p0.Box s12.1 s12.2.2).bind fun r19=>(app 16 s12.2.1 ([r19] : List (Vector UInt8 16))).bind fun l23=>some (Fl.nx (r19,(s12.2.1 ++ ([r19] : List (Vector UInt8 16))),wr (s12.2.2 + 1)))) else (some (Fl.ex s12.2.1))
def VU (p0 : GCipher) (p1 : (Vector UInt8 16)) (p2 : Int) : Option ((List (Vector UInt8 16))) :=
 (ZE (Wf p0 p2) (p1,([p1] : List (Vector UInt8 16)),1)).bind fun j7=>some j7
theorem Hi (w0 : World) (p0 : GCipher) (p1 : (Vector UInt8 16)) (p2 : Int) (r : (List (Vector UInt8 16))) (hF : VU p0 p1 p2 = some r) :
  Calls Tryz.prog 173 [(Value.agg (enc p0).toArray),(Value.agg (enc p1).toArray),vI p2].toArray w0 (fun en w'=>∃ v,en = .returned v ∧ (∃ (y1 : Value),v = y1 ∧ Fr w0 w' [osl NoB (r : List (Vector UInt8 16)) y1] ∧ Kept (Old w0) w0 w')):=by
 refine ZB (n:=26) Tryz.func173 rfl rfl (nbl rfl) rfl ?_
 intro a hE
 have hM:=M.start w0
 unfold VU at hF
 refine Zc (ZT (cs:=cat [[vI p0.Field],enc p0.Box,enc p0.Mix,enc p0.Places,[vI p0.Rounds]]) hE hM Za ld rfl rfl fun b1 w a hM hE=>ZT (cs:=enc p1) hE hM Za ld rfl rfl fun b3 w a hM hE=>Ze hE Za ld rfl fun a hE=>Zf (Zc (Zo (cs:=enc p1) hE Za ld rfl ZG rfl (hM.rawAt (pre:=[])) (Flat.len _) fun a hE=>Yj (xs:=[.tmp 9]) (l:=([p1] : List (Vector UInt8 16))) (vs:=[(Value.agg (enc p1).toArray)]) hE hM Za ld rfl rfl Tryz.underlying33 ZG rfl (by decide) rfl fun u5 w a hM hE=>Ze hE Za ld rfl fun a hE=>Zf (wp_seq (Zc (Ze hE Za ld rfl fun a hE=>Zf ?_))))))
 obtain ⟨j7,hl8,hF9⟩:=bind_some hF
 refine ZL (fun a w=>∃ (u10 : Value),Env 26 a [(7,u10)] ∧ M (Old w0) w0 w [osl NoB (j7 : List (Vector UInt8 16)) u10]) ?_ ?_
 ·skip
  refine wp_block ?_
  have hM:=(hM.pull (pre:=[_,_])).pull (pre:=[_,_])
  refine ZC (fun (s12 : (Vector UInt8 16) × (List (Vector UInt8 16)) × Int) a w=>∃ (u13 : Value),Env 26 a [(2,vI p2),(3,(ptr b1 0)),(4,(ptr b3 0)),(7,u13),(8,vI s12.2.2)] ∧ M (Old w0) w0 w [raw b3 (enc s12.1),raw b1 (cat [[vI p0.Field],enc p0.Box,enc p0.Mix,enc p0.Places,[vI p0.Rounds]]),osl NoB (s12.2.1 : List (Vector UInt8 16)) u13]) hl8 ⟨u5,hE.sub ⟨rfl,rfl,rfl,rfl,rfl,trivial⟩,hM⟩ ?_
  rintro s12 a w ⟨u13,hE,hM⟩ o17 hs15 hx16
  unfold Wf at hs15
  refine wp_seq (Zc (Zd hE Za ld rfl fun a hE=>Zd hE Za ld rfl fun a hE=>Zi hE Za ld rfl rfl rfl fun a hE=>Zf ?_))
  refine Zp hE rfl ?_ ?_
  ·intro hb18
   have hs15:=Zz hs15 hb18
   refine wp_skip (Zu (wp_seq (wp_block (Zc (Zh hE Za ld rfl (Qw) fun a hE=>Zo (cs:=enc p0.Box) hE Za ld rfl Ve rfl (At.cat (pre:=[[vI p0.Field]]) (hM.rawAt (pre:=[_])) (cl1 (n:=1) (m:=0) rfl cl0)) (Flat.len _) fun a hE=>Zo (cs:=enc s12.1) hE Za ld rfl ZG rfl (hM.rawAt (pre:=[])) (Flat.len _) fun a hE=>Zd hE Za ld rfl ?_))))); intro a hE
   obtain ⟨r19,e20,hs15⟩:=bind_some hs15
   refine Zw hE Za ld rfl cb181 (J9 _ p0.Box s12.1 s12.2.2 r19 e20) ?_
   rintro v w a ⟨rfl,hK⟩ hE
   have hM:=hM.keep hK
   refine Zv (seg:=enc r19) (cs':=enc r19) hE hM Za rfl rfl rfl ZG (Flat.len _) (zle flq) (Flat.cell _) (Zr flq) fun w a hM hE=>Zf (wp_region_lit (Zd hE Za ld rfl fun a hE=>Zo (cs:=enc r19) hE Za ld rfl ZG rfl (hM.rawAt (pre:=[])) (Flat.len _) fun a hE=>Yj (xs:=[.tmp 22]) (l:=([r19] : List (Vector UInt8 16))) (vs:=[(Value.agg (enc r19).toArray)]) hE hM Za ld rfl rfl Tryz.underlying33 ZG rfl (by decide) rfl ?_)); intro u21 w a hM hE
   obtain ⟨l23,e24,hs15⟩:=bind_some hs15
   obtain ⟨e27,rfl⟩:=Y2 e24
   have hM:=hM.pull (pre:=[_,_,_])
   refine YA hE hM Za ld rfl rfl (hM.sl (pre:=[_]) noB) Tryz.underlying33 ZG rfl (by decide) e27 fun u25 w a hM hE=>Ze hE Za ld rfl fun a hE=>Zj (ZZ (Zu (wp_region_lit (Zd hE Za ld rfl fun a hE=>Zi hE Za ld rfl rfl rfl fun a hE=>Ze hE Za ld rfl fun a hE=>Zj (Zl ?_)))))
   have hM:=M.fst (l:=[_,_,_]) ((hM.pull (pre:=[_,_,_])).pull (pre:=[_,_,_]))
   exact ⟨_,(ois hs15),u25,hE.sub ⟨rfl,rfl,rfl,rfl,rfl,trivial⟩,hM⟩
  ·intro hb18
   have hs15:=Zy hs15 hb18
   refine wp_exit (Zm (Zm (Z0 ?_)))
   have ht28:=hx16 _ (ois hs15)
   subst ht28
   refine Zl ?_
   have hM:=M.fst (l:=[_]) (hM.pull (pre:=[_,_]))
   exact ⟨u13,hE.sub ⟨rfl,trivial⟩,hM⟩
 ·skip
  rintro a w ⟨u10,hE,hM⟩
  refine Zu (Zc (Zd hE Za ld rfl fun a hE=>Ze hE Za ld rfl fun a hE=>Zf ?_))
  have hr:=Option.some.inj hF9
  subst hr
  exact wp_ret (Zt hE rfl (Zs hE rfl) ⟨_,rfl,u10,rfl,hM.outF (YL VT),hM.kept⟩)
def XK (p0 : (Vector UInt8 256)) (s10 : (Vector UInt8 16) × Int) : Option (Fl ((Vector UInt8 16) × Int) (Vector UInt8 16)) :=
 if (decide (s10.2 < 16)) = true then ((ZI s10.1 s10.2).bind fun x16=>(ZI p0 (bI x16)).bind fun x19=>(ZI s10.1 s10.2).bind fun x22=>some (Fl.nx ((s10.1.setIfInBounds (s10.2).toNat x19),wr (s10.2 + 1)))) else (some (Fl.ex s10.1))
def Vy (p0 : (Vector UInt8 256)) (p1 : (Vector UInt8 16)) : Option ((Vector UInt8 16)) :=
 (ZE (XK p0) (p1,0)).bind fun j7=>some j7
theorem JB (w0 : World) (p0 : (Vector UInt8 256)) (p1 : (Vector UInt8 16)) (r : (Vector UInt8 16)) (hF : Vy p0 p1 = some r) :
  Calls Tryz.prog 175 [(Value.agg (enc p0).toArray),(Value.agg (enc p1).toArray)].toArray w0 (fun en w'=>∃ v,en = .returned v ∧ (v = (Value.agg (enc r).toArray) ∧ Kept (Old w0) w0 w')):=by
 refine ZB (n:=18) Tryz.func175 rfl rfl (nbl rfl) rfl ?_
 intro a hE
 have hM:=M.start w0
 unfold Vy at hF
 refine Zc (ZT (cs:=enc p0) hE hM Za ld rfl rfl fun b1 w a hM hE=>ZT (cs:=enc p1) hE hM Za ld rfl rfl fun b3 w a hM hE=>ZH hE hM Za ld ZG fun b5 w a hM hE=>Zf (wp_seq (Zc (Ze hE Za ld rfl fun a hE=>Zf ?_))))
 obtain ⟨j7,hl8,hF9⟩:=bind_some hF
 refine ZL (fun a w=>Env 18 a [(3,(ptr b3 0)),(4,(ptr b5 0))] ∧ M (Old w0) w0 w [raw b5 (enc (Vector.replicate 16 (0 : UInt8))),raw b3 (enc j7)]) ?_ ?_
 ·skip
  refine wp_block ?_
  refine ZC (fun (s10 : (Vector UInt8 16) × Int) a w=>Env 18 a [(2,(ptr b1 0)),(3,(ptr b3 0)),(4,(ptr b5 0)),(5,vI s10.2)] ∧ M (Old w0) w0 w [raw b5 (enc (Vector.replicate 16 (0 : UInt8))),raw b3 (enc s10.1),raw b1 (enc p0)]) hl8 ⟨hE.sub ⟨rfl,rfl,rfl,rfl,trivial⟩,hM⟩ ?_
  rintro s10 a w ⟨hE,hM⟩ o13 hs11 hx12
  unfold XK at hs11
  refine wp_seq (Zc (Zd hE Za ld rfl fun a hE=>Zi hE Za ld rfl rfl rfl fun a hE=>Zf ?_))
  refine Zp hE rfl ?_ ?_
  ·intro hb14
   have hs11:=Zz hs11 hb14
   refine wp_skip (Zu (wp_seq (wp_block (wp_region_lit (Zd hE Za ld rfl fun a hE=>Zd hE Za ld rfl ?_))))); intro a hE
   obtain ⟨x16,hi15,hs11⟩:=bvx hs11
   refine Zk hE Za ld rfl rfl Tryz.underlying31 ty5 hi15.1 fun a hE=>ZA (v:=(vB x16)) hE Za ld rfl ty5 rfl (At.vec (hM.rawAt (pre:=[_])) hi15.2) ?_; intro a hE
   obtain ⟨x19,hi18,hs11⟩:=bvx hs11
   refine Zk hE Za ld rfl rfl Tryz.underlying23 ty5 hi18.1 fun a hE=>ZA (v:=(vB x19)) hE Za ld rfl ty5 rfl (At.vec (hM.rawAt (pre:=[_,_])) hi18.2) ?_; intro a hE
   obtain ⟨x22,hi21,hs11⟩:=bvx hs11
   refine Zk hE Za ld rfl rfl Tryz.underlying31 ty5 hi21.1 ?_; intro a hE
   have hM:=hM.pull (pre:=[_])
   refine Zv (seg:=[vB x19]) (cs':=enc (s10.1.setIfInBounds (s10.2).toNat x19)) hE hM Za rfl rfl rfl ty5 rfl (ZM (v:=s10.1) (x:=x19) hi21.1) (Flat.cell (x19 : UInt8)) (ZD (v:=s10.1) (x:=x19) hi21.1) fun w a hM hE=>Zj (ZZ (Zu (wp_region_lit (Zd hE Za ld rfl fun a hE=>Zi hE Za ld rfl rfl rfl fun a hE=>Ze hE Za ld rfl fun a hE=>Zj (Zl ?_)))))
   have hM:=((hM.pull (pre:=[_,_])).pull (pre:=[_])).pull (pre:=[_,_])
   exact ⟨_,(ois hs11),hE.sub ⟨rfl,rfl,rfl,rfl,trivial⟩,hM⟩
  ·intro hb14
   have hs11:=Zy hs11 hb14
   refine wp_exit (Zm (Zm (Z0 ?_)))
   have ht24:=hx12 _ (ois hs11)
   subst ht24
   refine Zl ?_
   have hM:=M.fst (l:=[_,_]) ((hM.pull (pre:=[_])).pull (pre:=[_]))
   exact ⟨hE.sub ⟨rfl,rfl,trivial⟩,hM⟩
 ·skip
  rintro a w ⟨hE,hM⟩
  refine Zu (Zc (Zo (cs:=enc j7) hE Za ld rfl ZG rfl (hM.rawAt (pre:=[_])) (Flat.len _) fun a hE=>Zv (seg:=enc j7) (cs':=enc j7) hE hM Za rfl rfl rfl ZG (Flat.len _) (zle flq) (Flat.cell _) (Zr flq) fun w a hM hE=>Zf ?_))
  have hr:=Option.some.inj hF9
  subst hr
  have hq25 : Yx Tryz.prog _ _ (.cell 4 31) _:=ZR hE rfl ZG rfl (hM.rawAt (pre:=[])) (Flat.len _) rfl
  have hM:=M.fst (l:=[]) hM
  exact wp_ret (Zt hE rfl hq25 ⟨_,rfl,rfl,hM.kept⟩)
def Wd (p0 : (Vector UInt8 16)) (p1 : (Vector UInt8 16)) (s12 : (Vector UInt8 16) × Int) : Option (Fl ((Vector UInt8 16) × Int) (Vector UInt8 16)) :=
 if (decide (s12.2 < 16)) = true then ((ZI p0 s12.2).bind fun x18=>(ZI p1 (bI x18)).bind fun x21=>(ZI s12.1 s12.2).bind fun x24=>some (Fl.nx ((s12.1.setIfInBounds (s12.2).toNat x21),wr (s12.2 + 1)))) else (some (Fl.ex s12.1))
def VQ (p0 : (Vector UInt8 16)) (p1 : (Vector UInt8 16)) : Option ((Vector UInt8 16)) :=
 (ZE (Wd p0 p1) ((Vector.replicate 16 (0 : UInt8)),0)).bind fun j9=>some j9
theorem HB (w0 : World) (p0 : (Vector UInt8 16)) (p1 : (Vector UInt8 16)) (r : (Vector UInt8 16)) (hF : VQ p0 p1 = some r) :
  Calls Tryz.prog 174 [(Value.agg (enc p0).toArray),(Value.agg (enc p1).toArray)].toArray w0 (fun en w'=>∃ v,en = .returned v ∧ (v = (Value.agg (enc r).toArray) ∧ Kept (Old w0) w0 w')):=by
 refine ZB (n:=20) Tryz.func174 rfl rfl (nbl rfl) rfl ?_
 intro a hE
 have hM:=M.start w0
 unfold VQ at hF
 refine Zc (ZT (cs:=enc p0) hE hM Za ld rfl rfl fun b1 w a hM hE=>ZT (cs:=enc p1) hE hM Za ld rfl rfl fun b3 w a hM hE=>ZH hE hM Za ld ZG fun b5 w a hM hE=>Zf (Zc (YT (parts:=[]) (vs:=[]) (cs:=enc (Vector.replicate 16 (0 : UInt8))) hE Za ld rfl rfl ZG rfl ty5 Yw fun a hE=>ZH hE hM Za ld ZG fun b7 w a hM hE=>Zv (seg:=enc (Vector.replicate 16 (0 : UInt8))) (cs':=enc (Vector.replicate 16 (0 : UInt8))) hE hM Za rfl rfl rfl ZG (Flat.len _) (zle flq) (Flat.cell _) (Zr flq) fun w a hM hE=>Zf (wp_seq (Zc (Ze hE Za ld rfl fun a hE=>Zf ?_))))))
 obtain ⟨j9,hl10,hF11⟩:=bind_some hF
 refine ZL (fun a w=>Env 20 a [(4,(ptr b5 0)),(5,(ptr b7 0))] ∧ M (Old w0) w0 w [raw b7 (enc j9),raw b5 (enc (Vector.replicate 16 (0 : UInt8)))]) ?_ ?_
 ·skip
  refine wp_block ?_
  refine ZC (fun (s12 : (Vector UInt8 16) × Int) a w=>Env 20 a [(2,(ptr b1 0)),(3,(ptr b3 0)),(4,(ptr b5 0)),(5,(ptr b7 0)),(6,vI s12.2)] ∧ M (Old w0) w0 w [raw b7 (enc s12.1),raw b5 (enc (Vector.replicate 16 (0 : UInt8))),raw b3 (enc p1),raw b1 (enc p0)]) hl10 ⟨hE.sub ⟨rfl,rfl,rfl,rfl,rfl,trivial⟩,hM⟩ ?_
  rintro s12 a w ⟨hE,hM⟩ o15 hs13 hx14
  unfold Wd at hs13
  refine wp_seq (Zc (Zd hE Za ld rfl fun a hE=>Zi hE Za ld rfl rfl rfl fun a hE=>Zf ?_))
  refine Zp hE rfl ?_ ?_
  ·intro hb16
   have hs13:=Zz hs13 hb16
   refine wp_skip (Zu (wp_seq (wp_block (wp_region_lit (Zd hE Za ld rfl fun a hE=>Zd hE Za ld rfl ?_))))); intro a hE
   obtain ⟨x18,hi17,hs13⟩:=bvx hs13
   refine Zk hE Za ld rfl rfl Tryz.underlying28 ty5 hi17.1 fun a hE=>ZA (v:=(vB x18)) hE Za ld rfl ty5 rfl (At.vec (hM.rawAt (pre:=[_,_,_])) hi17.2) ?_; intro a hE
   obtain ⟨x21,hi20,hs13⟩:=bvx hs13
   refine Zk hE Za ld rfl rfl Tryz.underlying31 ty5 hi20.1 fun a hE=>ZA (v:=(vB x21)) hE Za ld rfl ty5 rfl (At.vec (hM.rawAt (pre:=[_,_])) hi20.2) ?_; intro a hE
   obtain ⟨x24,hi23,hs13⟩:=bvx hs13
   refine Zk hE Za ld rfl rfl Tryz.underlying31 ty5 hi23.1 fun a hE=>Zv (seg:=[vB x21]) (cs':=enc (s12.1.setIfInBounds (s12.2).toNat x21)) hE hM Za rfl rfl rfl ty5 rfl (ZM (v:=s12.1) (x:=x21) hi23.1) (Flat.cell (x21 : UInt8)) (ZD (v:=s12.1) (x:=x21) hi23.1) fun w a hM hE=>Zj (ZZ (Zu (wp_region_lit (Zd hE Za ld rfl fun a hE=>Zi hE Za ld rfl rfl rfl fun a hE=>Ze hE Za ld rfl fun a hE=>Zj (Zl ?_)))))
   exact ⟨_,(ois hs13),hE.sub ⟨rfl,rfl,rfl,rfl,rfl,trivial⟩,hM⟩
  ·intro hb16
   have hs13:=Zy hs13 hb16
   refine wp_exit (Zm (Zm (Z0 ?_)))
   have ht26:=hx14 _ (ois hs13)
   subst ht26
   refine Zl ?_
   have hM:=M.fst (l:=[_,_]) ((hM.pull (pre:=[_])).pull (pre:=[_]))
   exact ⟨hE.sub ⟨rfl,rfl,trivial⟩,hM⟩
 ·skip
  rintro a w ⟨hE,hM⟩
  refine Zu (Zc (Zo (cs:=enc j9) hE Za ld rfl ZG rfl (hM.rawAt (pre:=[])) (Flat.len _) ?_)); intro a hE
  have hM:=hM.pull (pre:=[_])
  refine Zv (seg:=enc j9) (cs':=enc j9) hE hM Za rfl rfl rfl ZG (Flat.len _) (zle flq) (Flat.cell _) (Zr flq) fun w a hM hE=>Zf ?_
  have hr:=Option.some.inj hF11
  subst hr
  have hq27 : Yx Tryz.prog _ _ (.cell 4 31) _:=ZR hE rfl ZG rfl (hM.rawAt (pre:=[])) (Flat.len _) rfl
  have hM:=M.fst (l:=[]) hM
  exact wp_ret (Zt hE rfl hq27 ⟨_,rfl,rfl,hM.kept⟩)
def Xl (p0 : Int) (p1 : (Vector (Vector UInt8 4) 4)) (p2 : (Vector UInt8 16)) (s12 : (Vector UInt8 16) × Int) (s20 : (Vector UInt8 16) × Int) (s28 : (Vector UInt8 16) × Int) : Option (Fl ((Vector UInt8 16) × Int) (Vector UInt8 16)) :=
 if (decide (s28.2 < 4)) = true then ((ZI s28.1 (wr ((wr (4 * s12.2)) + s20.2))).bind fun x35=>(ZI p1 s20.2).bind fun x38=>(ZI x38 s28.2).bind fun x41=>(ZI p2 (wr ((wr (4 * s12.2)) + s28.2))).bind fun x44=>(Yt p0 x41 x44).bind fun r46=>(ZI s28.1 (wr ((wr (4 * s12.2)) + s20.2))).bind fun x49=>some (Fl.nx ((s28.1.setIfInBounds ((wr ((wr (4 * s12.2)) + s20.2))).toNat (x35 ^^^ r46)),wr (s28.2 + 1)))) else (some (Fl.ex s28.1))
def W7 (p0 : Int) (p1 : (Vector (Vector UInt8 4) 4)) (p2 : (Vector UInt8 16)) (s12 : (Vector UInt8 16) × Int) (s20 : (Vector UInt8 16) × Int) : Option (Fl ((Vector UInt8 16) × Int) (Vector UInt8 16)) :=
 if (decide (s20.2 < 4)) = true then ((ZE (Xl p0 p1 p2 s12 s20) (s20.1,0)).bind fun j25=>some (Fl.nx (j25,wr (s20.2 + 1)))) else (some (Fl.ex s20.1))
def WZ (p0 : Int) (p1 : (Vector (Vector UInt8 4) 4)) (p2 : (Vector UInt8 16)) (s12 : (Vector UInt8 16) × Int) : Option (Fl ((Vector UInt8 16) × Int) (Vector UInt8 16)) :=
 if (decide (s12.2 < 4)) = true then ((ZE (W7 p0 p1 p2 s12) (s12.1,0)).bind fun j17=>some (Fl.nx (j17,wr (s12.2 + 1)))) else (some (Fl.ex s12.1))
def UA (p0 : Int) (p1 : (Vector (Vector UInt8 4) 4)) (p2 : (Vector UInt8 16)) : Option ((Vector UInt8 16)) :=
 (ZE (WZ p0 p1 p2) ((Vector.replicate 16 (0 : UInt8)),0)).bind fun j9=>some j9
theorem H7 (w0 : World) (p0 : Int) (p1 : (Vector (Vector UInt8 4) 4)) (p2 : (Vector UInt8 16)) (r : (Vector UInt8 16)) (hF : UA p0 p1 p2 = some r) :
  Calls Tryz.prog 176 [vI p0,(Value.agg (enc p1).toArray),(Value.agg (enc p2).toArray)].toArray w0 (fun en w'=>∃ v,en = .returned v ∧ (v = (Value.agg (enc r).toArray) ∧ Kept (Old w0) w0 w')):=by
 refine ZB (n:=50) Tryz.func176 rfl rfl (nbl rfl) rfl ?_
 intro a hE
 have hM:=M.start w0
 unfold UA at hF
 refine Zc (ZT (cs:=enc p1) hE hM Za ld rfl rfl fun b1 w a hM hE=>ZT (cs:=enc p2) hE hM Za ld rfl rfl fun b3 w a hM hE=>ZH hE hM Za ld ZG fun b5 w a hM hE=>Zf (Zc (YT (parts:=[]) (vs:=[]) (cs:=enc (Vector.replicate 16 (0 : UInt8))) hE Za ld rfl rfl ZG rfl ty5 Yw fun a hE=>ZH hE hM Za ld ZG fun b7 w a hM hE=>Zv (seg:=enc (Vector.replicate 16 (0 : UInt8))) (cs':=enc (Vector.replicate 16 (0 : UInt8))) hE hM Za rfl rfl rfl ZG (Flat.len _) (zle flq) (Flat.cell _) (Zr flq) fun w a hM hE=>Zf (wp_seq (Zc (Ze hE Za ld rfl fun a hE=>Zf ?_))))))
 obtain ⟨j9,hl10,hF11⟩:=bind_some hF
 refine ZL (fun a w=>Env 50 a [(6,(ptr b5 0)),(7,(ptr b7 0))] ∧ M (Old w0) w0 w [raw b7 (enc j9),raw b5 (enc (Vector.replicate 16 (0 : UInt8)))]) ?_ ?_
 ·skip
  refine wp_block ?_
  refine ZC (fun (s12 : (Vector UInt8 16) × Int) a w=>Env 50 a [(0,vI p0),(4,(ptr b1 0)),(5,(ptr b3 0)),(6,(ptr b5 0)),(7,(ptr b7 0)),(8,vI s12.2)] ∧ M (Old w0) w0 w [raw b7 (enc s12.1),raw b5 (enc (Vector.replicate 16 (0 : UInt8))),raw b3 (enc p2),raw b1 (enc p1)]) hl10 ⟨hE.sub ⟨rfl,rfl,rfl,rfl,rfl,rfl,trivial⟩,hM⟩ ?_
  rintro s12 a w ⟨hE,hM⟩ o15 hs13 hx14
  unfold WZ at hs13
  refine wp_seq (Zc (Zd hE Za ld rfl fun a hE=>Zi hE Za ld rfl rfl rfl fun a hE=>Zf ?_))
  refine Zp hE rfl ?_ ?_
  ·intro hb16
   have hs13:=Zz hs13 hb16
   refine wp_skip (Zu (wp_seq (wp_block (Zc (Ze hE Za ld rfl fun a hE=>Zf ?_)))))
   obtain ⟨j17,hl18,hF19⟩:=bind_some hs13
   refine ZL (fun a w=>Env 50 a [(0,vI p0),(4,(ptr b1 0)),(5,(ptr b3 0)),(6,(ptr b5 0)),(7,(ptr b7 0)),(8,vI s12.2)] ∧ M (Old w0) w0 w [raw b7 (enc j17),raw b5 (enc (Vector.replicate 16 (0 : UInt8))),raw b3 (enc p2),raw b1 (enc p1)]) ?_ ?_
   ·skip
    refine wp_block ?_
    refine ZC (fun (s20 : (Vector UInt8 16) × Int) a w=>Env 50 a [(0,vI p0),(4,(ptr b1 0)),(5,(ptr b3 0)),(6,(ptr b5 0)),(7,(ptr b7 0)),(8,vI s12.2),(9,vI s20.2)] ∧ M (Old w0) w0 w [raw b7 (enc s20.1),raw b5 (enc (Vector.replicate 16 (0 : UInt8))),raw b3 (enc p2),raw b1 (enc p1)]) hl18 ⟨hE.sub ⟨rfl,rfl,rfl,rfl,rfl,rfl,rfl,trivial⟩,hM⟩ ?_
    rintro s20 a w ⟨hE,hM⟩ o23 hs21 hx22
    unfold W7 at hs21
    refine wp_seq (Zc (Zd hE Za ld rfl fun a hE=>Zi hE Za ld rfl rfl rfl fun a hE=>Zf ?_))
    refine Zp hE rfl ?_ ?_
    ·intro hb24
     have hs21:=Zz hs21 hb24
     refine wp_skip (Zu (wp_seq (wp_block (Zc (Ze hE Za ld rfl fun a hE=>Zf ?_)))))
     obtain ⟨j25,hl26,hF27⟩:=bind_some hs21
     refine ZL (fun a w=>Env 50 a [(0,vI p0),(4,(ptr b1 0)),(5,(ptr b3 0)),(6,(ptr b5 0)),(7,(ptr b7 0)),(8,vI s12.2),(9,vI s20.2)] ∧ M (Old w0) w0 w [raw b7 (enc j25),raw b5 (enc (Vector.replicate 16 (0 : UInt8))),raw b3 (enc p2),raw b1 (enc p1)]) ?_ ?_
     ·skip
      refine wp_block ?_
      refine ZC (fun (s28 : (Vector UInt8 16) × Int) a w=>Env 50 a [(0,vI p0),(4,(ptr b1 0)),(5,(ptr b3 0)),(6,(ptr b5 0)),(7,(ptr b7 0)),(8,vI s12.2),(9,vI s20.2),(10,vI s28.2)] ∧ M (Old w0) w0 w [raw b7 (enc s28.1),raw b5 (enc (Vector.replicate 16 (0 : UInt8))),raw b3 (enc p2),raw b1 (enc p1)]) hl26 ⟨hE.sub ⟨rfl,rfl,rfl,rfl,rfl,rfl,rfl,rfl,trivial⟩,hM⟩ ?_
      rintro s28 a w ⟨hE,hM⟩ o31 hs29 hx30
      unfold Xl at hs29
      refine wp_seq (Zc (Zd hE Za ld rfl fun a hE=>Zi hE Za ld rfl rfl rfl fun a hE=>Zf ?_))
      refine Zp hE rfl ?_ ?_
      ·intro hb32
       have hs29:=Zz hs29 hb32
       refine wp_skip (Zu (wp_seq (wp_block ?_)))
       obtain ⟨x35,hi34,hs29⟩:=bvx hs29
       obtain ⟨x38,hi37,hs29⟩:=bvx hs29
       obtain ⟨x41,hi40,hs29⟩:=bvx hs29
       obtain ⟨x44,hi43,hs29⟩:=bvx hs29
       obtain ⟨r46,e47,hs29⟩:=bind_some hs29
       obtain ⟨x49,hi48,hs29⟩:=bvx hs29
       refine Yg (n:=50) (hd:=[_,_,_,_,_,_,_,_,_,_,_,_,_,_,_,_,_,_,_,_,_,_,_,_,_]) (tl:=[_]) YN rfl rfl [24,25,26,27,28,29,30,31,32,33,34,35,36,37,38,39,40,41,42,43,44,45,46,47,48] (by decide) (fun w=>M (Old w0) w0 w [raw b7 (enc s28.1),raw b5 (enc (Vector.replicate 16 (0 : UInt8))),raw b3 (enc p2),raw b1 (enc p1)]) (fun j=>([fun v _=>v = (vI s12.2),fun v _=>v = (vI (wr (4 * s12.2))),fun v _=>v = (vI s20.2),fun v _=>v = (vI (wr ((wr (4 * s12.2)) + s20.2))),fun v _=>v = (vI s12.2),fun v _=>v = (vI (wr (4 * s12.2))),fun v _=>v = (vI s20.2),fun v _=>v = (vI (wr ((wr (4 * s12.2)) + s20.2))),fun v _=>v = (ptr b7 (0 + ((wr ((wr (4 * s12.2)) + s20.2))).toNat * 1)),fun v _=>v = (vB x35),fun v _=>v = (vI p0),fun v _=>v = (vI s20.2),fun v _=>v = (vI s28.2),fun v _=>v = (ptr b1 (0 + (s20.2).toNat * 4)),fun v _=>v = (ptr b1 (0 + (s20.2).toNat * 4 + (s28.2).toNat * 1)),fun v _=>v = (vB x41),fun v _=>v = (vI s12.2),fun v _=>v = (vI (wr (4 * s12.2))),fun v _=>v = (vI s28.2),fun v _=>v = (vI (wr ((wr (4 * s12.2)) + s28.2))),fun v _=>v = (ptr b3 (0 + ((wr ((wr (4 * s12.2)) + s28.2))).toNat * 1)),fun v _=>v = (vB x44),fun v _=>v = (vB r46),fun v _=>v = (vB (x35 ^^^ r46)),fun v _=>v = (ptr b7 (0 + ((wr ((wr (4 * s12.2)) + s20.2))).toNat * 1))] : List (Value → World → Prop)).getD j (fun _ _=>True)) (fun _ _ h hk=>h.keep hk) (gup (Zn (Zn (Zn (Zn (Zn (Zn (Zn (Zn (Zn (Zn (Zn (Zn (Zn (Zn (Zn (Zn (Zn (Zn (Zn (Zn (Zn (Zn (Zn (Zn (Zn Vb)))))))))))))))))))))))))) hE hM.drew (ZJ (Zb ?_ (Zb ?_ (Zb ?_ (Zb ?_ (Zb ?_ (Zb ?_ (Zb ?_ (Zb ?_ (Zb ?_ (Zb ?_ (Zb ?_ (Zb ?_ (Zb ?_ (Zb ?_ (Zb ?_ (Zb ?_ (Zb ?_ (Zb ?_ (Zb ?_ (Zb ?_ (Zb ?_ (Zb ?_ (Zb ?_ (Zb ?_ (Zb ?_ ZF)))))))))))))))))))))))))) ?_
       ·exact fun a w ux33 hE hM hp=>Zd hE Za ld rfl fun a hE=>⟨Kept.refl _ _,_,_,rfl,hE,rfl⟩
       ·intro a w ux33 hE hM hp
        have f0 : ux33 0 = (vI s12.2):=hp 0 _ rfl rfl
        exact Zi hE Za ld rfl (lk rfl f0) rfl fun a hE=>⟨Kept.refl _ _,_,_,rfl,hE,rfl⟩
       ·exact fun a w ux33 hE hM hp=>Zd hE Za ld rfl fun a hE=>⟨Kept.refl _ _,_,_,rfl,hE,rfl⟩
       ·intro a w ux33 hE hM hp
        have f1 : ux33 1 = (vI (wr (4 * s12.2))):=hp 0 _ rfl rfl
        have f2 : ux33 2 = (vI s20.2):=hp 1 _ rfl rfl
        exact Zi hE Za ld (lk rfl f1) (lk rfl f2) rfl fun a hE=>⟨Kept.refl _ _,_,_,rfl,hE,rfl⟩
       ·exact fun a w ux33 hE hM hp=>Zd hE Za ld rfl fun a hE=>⟨Kept.refl _ _,_,_,rfl,hE,rfl⟩
       ·intro a w ux33 hE hM hp
        have f4 : ux33 4 = (vI s12.2):=hp 0 _ rfl rfl
        exact Zi hE Za ld rfl (lk rfl f4) rfl fun a hE=>⟨Kept.refl _ _,_,_,rfl,hE,rfl⟩
       ·exact fun a w ux33 hE hM hp=>Zd hE Za ld rfl fun a hE=>⟨Kept.refl _ _,_,_,rfl,hE,rfl⟩
       ·intro a w ux33 hE hM hp
        have f5 : ux33 5 = (vI (wr (4 * s12.2))):=hp 0 _ rfl rfl
        have f6 : ux33 6 = (vI s20.2):=hp 1 _ rfl rfl
        exact Zi hE Za ld (lk rfl f5) (lk rfl f6) rfl fun a hE=>⟨Kept.refl _ _,_,_,rfl,hE,rfl⟩
       ·intro a w ux33 hE hM hp
        have f7 : ux33 7 = (vI (wr ((wr (4 * s12.2)) + s20.2))):=hp 0 _ rfl rfl
        exact Zk hE Za ld rfl (lk rfl f7) Tryz.underlying31 ty5 hi34.1 fun a hE=>⟨Kept.refl _ _,_,_,rfl,hE,rfl⟩
       ·intro a w ux33 hE hM hp
        have f8 : ux33 8 = (ptr b7 (0 + ((wr ((wr (4 * s12.2)) + s20.2))).toNat * 1)):=hp 0 _ rfl rfl
        exact ZA (v:=(vB x35)) hE Za ld (lk rfl f8) ty5 rfl (At.vec (hM.rawAt (pre:=[])) hi34.2) fun a hE=>⟨Kept.refl _ _,_,_,rfl,hE,rfl⟩
       ·exact fun a w ux33 hE hM hp=>Zd hE Za ld rfl fun a hE=>⟨Kept.refl _ _,_,_,rfl,hE,rfl⟩
       ·exact fun a w ux33 hE hM hp=>Zd hE Za ld rfl fun a hE=>⟨Kept.refl _ _,_,_,rfl,hE,rfl⟩
       ·exact fun a w ux33 hE hM hp=>Zd hE Za ld rfl fun a hE=>⟨Kept.refl _ _,_,_,rfl,hE,rfl⟩
       ·intro a w ux33 hE hM hp
        have f11 : ux33 11 = (vI s20.2):=hp 0 _ rfl rfl
        exact Zk hE Za ld rfl (lk rfl f11) Tryz.underlying26 WE hi37.1 fun a hE=>⟨Kept.refl _ _,_,_,rfl,hE,rfl⟩
       ·intro a w ux33 hE hM hp
        have f12 : ux33 12 = (vI s28.2):=hp 1 _ rfl rfl
        have f13 : ux33 13 = (ptr b1 (0 + (s20.2).toNat * 4)):=hp 0 _ rfl rfl
        exact Zk hE Za ld (lk rfl f13) (lk rfl f12) Tryz.underlying24 ty5 hi40.1 fun a hE=>⟨Kept.refl _ _,_,_,rfl,hE,rfl⟩
       ·intro a w ux33 hE hM hp
        have f14 : ux33 14 = (ptr b1 (0 + (s20.2).toNat * 4 + (s28.2).toNat * 1)):=hp 0 _ rfl rfl
        exact ZA (v:=(vB x41)) hE Za ld (lk rfl f14) ty5 rfl (At.vec (At.vec (hM.rawAt (pre:=[_,_,_])) hi37.2) hi40.2) fun a hE=>⟨Kept.refl _ _,_,_,rfl,hE,rfl⟩
       ·exact fun a w ux33 hE hM hp=>Zd hE Za ld rfl fun a hE=>⟨Kept.refl _ _,_,_,rfl,hE,rfl⟩
       ·intro a w ux33 hE hM hp
        have f16 : ux33 16 = (vI s12.2):=hp 0 _ rfl rfl
        exact Zi hE Za ld rfl (lk rfl f16) rfl fun a hE=>⟨Kept.refl _ _,_,_,rfl,hE,rfl⟩
       ·exact fun a w ux33 hE hM hp=>Zd hE Za ld rfl fun a hE=>⟨Kept.refl _ _,_,_,rfl,hE,rfl⟩
       ·intro a w ux33 hE hM hp
        have f17 : ux33 17 = (vI (wr (4 * s12.2))):=hp 0 _ rfl rfl
        have f18 : ux33 18 = (vI s28.2):=hp 1 _ rfl rfl
        exact Zi hE Za ld (lk rfl f17) (lk rfl f18) rfl fun a hE=>⟨Kept.refl _ _,_,_,rfl,hE,rfl⟩
       ·intro a w ux33 hE hM hp
        have f19 : ux33 19 = (vI (wr ((wr (4 * s12.2)) + s28.2))):=hp 0 _ rfl rfl
        exact Zk hE Za ld rfl (lk rfl f19) Tryz.underlying31 ty5 hi43.1 fun a hE=>⟨Kept.refl _ _,_,_,rfl,hE,rfl⟩
       ·intro a w ux33 hE hM hp
        have f20 : ux33 20 = (ptr b3 (0 + ((wr ((wr (4 * s12.2)) + s28.2))).toNat * 1)):=hp 0 _ rfl rfl
        exact ZA (v:=(vB x44)) hE Za ld (lk rfl f20) ty5 rfl (At.vec (hM.rawAt (pre:=[_,_])) hi43.2) fun a hE=>⟨Kept.refl _ _,_,_,rfl,hE,rfl⟩
       ·intro a w ux33 hE hM hp
        have f10 : ux33 10 = (vI p0):=hp 0 _ rfl rfl
        have f15 : ux33 15 = (vB x41):=hp 1 _ rfl rfl
        have f21 : ux33 21 = (vB x44):=hp 2 _ rfl rfl
        refine Zw hE Za ld (Z7 (Z2 (lk rfl f10) (Z2 (lk rfl f15) (Z2 (lk rfl f21) X8)))) Am (Vn _ p0 x41 x44 r46 e47) ?_
        rintro v w a ⟨rfl,hK⟩ hE
        exact ⟨hK,_,_,rfl,hE,rfl⟩
       ·intro a w ux33 hE hM hp
        have f9 : ux33 9 = (vB x35):=hp 0 _ rfl rfl
        have f22 : ux33 22 = (vB r46):=hp 1 _ rfl rfl
        exact Zi hE Za ld (lk rfl f9) (lk rfl f22) (VG x35 r46) fun a hE=>⟨Kept.refl _ _,_,_,rfl,hE,rfl⟩
       ·intro a w ux33 hE hM hp
        have f3 : ux33 3 = (vI (wr ((wr (4 * s12.2)) + s20.2))):=hp 0 _ rfl rfl
        exact Zk hE Za ld rfl (lk rfl f3) Tryz.underlying31 ty5 hi48.1 fun a hE=>⟨Kept.refl _ _,_,_,rfl,hE,rfl⟩
       ·intro a w ux33 hE hM hg
        have hE:=hE.sub (e':=[(47,(vB (x35 ^^^ r46))),(48,(ptr b7 (0 + ((wr ((wr (4 * s12.2)) + s20.2))).toNat * 1))),(0,vI p0),(4,(ptr b1 0)),(5,(ptr b3 0)),(6,(ptr b5 0)),(7,(ptr b7 0)),(8,vI s12.2),(9,vI s20.2),(10,vI s28.2),(20,vI s28.2),(21,(vT (decide (s28.2 < 4))))]) ⟨lk rfl (hg 23 (by decide)),lk rfl (hg 24 (by decide)),rfl,rfl,rfl,rfl,rfl,rfl,rfl,rfl,rfl,rfl,trivial⟩
        refine Zv (seg:=[(vB (x35 ^^^ r46))]) (cs':=enc (s28.1.setIfInBounds ((wr ((wr (4 * s12.2)) + s20.2))).toNat (x35 ^^^ r46))) hE hM Za rfl rfl rfl ty5 rfl (ZM (v:=s28.1) (x:=x35 ^^^ r46) hi48.1) (Flat.cell (x35 ^^^ r46 : UInt8)) (ZD (v:=s28.1) (x:=x35 ^^^ r46) hi48.1) fun w a hM hE=>Zj (ZZ (Zu (wp_region_lit (Zd hE Za ld rfl fun a hE=>Zi hE Za ld rfl rfl rfl fun a hE=>Ze hE Za ld rfl fun a hE=>Zj (Zl ?_)))))
        exact ⟨_,(ois hs29),hE.sub ⟨rfl,rfl,rfl,rfl,rfl,rfl,rfl,rfl,trivial⟩,hM⟩
      ·intro hb32
       have hs29:=Zy hs29 hb32
       refine wp_exit (Zm (Zm (Z0 ?_)))
       have ht51:=hx30 _ (ois hs29)
       subst ht51
       refine Zl ?_
       exact ⟨hE.sub ⟨rfl,rfl,rfl,rfl,rfl,rfl,rfl,trivial⟩,hM⟩
     ·skip
      rintro a w ⟨hE,hM⟩
      refine ZZ (Zu (wp_region_lit (Zd hE Za ld rfl fun a hE=>Zi hE Za ld rfl rfl rfl fun a hE=>Ze hE Za ld rfl fun a hE=>Zj (Zl ?_))))
      exact ⟨_,(ois hF27),hE.sub ⟨rfl,rfl,rfl,rfl,rfl,rfl,rfl,trivial⟩,hM⟩
    ·intro hb24
     have hs21:=Zy hs21 hb24
     refine wp_exit (Zm (Zm (Z0 ?_)))
     have ht52:=hx22 _ (ois hs21)
     subst ht52
     refine Zl ?_
     exact ⟨hE.sub ⟨rfl,rfl,rfl,rfl,rfl,rfl,trivial⟩,hM⟩
   ·skip
    rintro a w ⟨hE,hM⟩
    refine ZZ (Zu (wp_region_lit (Zd hE Za ld rfl fun a hE=>Zi hE Za ld rfl rfl rfl fun a hE=>Ze hE Za ld rfl fun a hE=>Zj (Zl ?_))))
    exact ⟨_,(ois hF19),hE.sub ⟨rfl,rfl,rfl,rfl,rfl,rfl,trivial⟩,hM⟩
  ·intro hb16
   have hs13:=Zy hs13 hb16
   refine wp_exit (Zm (Zm (Z0 ?_)))
   have ht53:=hx14 _ (ois hs13)
   subst ht53
   refine Zl ?_
   have hM:=M.fst (l:=[_,_]) ((hM.pull (pre:=[_])).pull (pre:=[_]))
   exact ⟨hE.sub ⟨rfl,rfl,trivial⟩,hM⟩
 ·skip
  rintro a w ⟨hE,hM⟩
  refine Zu (Zc (Zo (cs:=enc j9) hE Za ld rfl ZG rfl (hM.rawAt (pre:=[])) (Flat.len _) ?_)); intro a hE
  have hM:=hM.pull (pre:=[_])
  refine Zv (seg:=enc j9) (cs':=enc j9) hE hM Za rfl rfl rfl ZG (Flat.len _) (zle flq) (Flat.cell _) (Zr flq) fun w a hM hE=>Zf ?_
  have hr:=Option.some.inj hF11
  subst hr
  have hq54 : Yx Tryz.prog _ _ (.cell 6 31) _:=ZR hE rfl ZG rfl (hM.rawAt (pre:=[])) (Flat.len _) rfl
  have hM:=M.fst (l:=[]) hM
  exact wp_ret (Zt hE rfl hq54 ⟨_,rfl,rfl,hM.kept⟩)
def Y1 (p0 : GCipher) (p3 : Int) (r9 : (List (Vector UInt8 16))) (s25 : (Vector UInt8 16) × Int) : Option (Fl ((Vector UInt8 16) × Int) (Vector UInt8 16)) :=
 if (decide (s25.2 ≤ p3)) = true then ((((Vy p0.Box s25.1).bind fun r37=>(VQ p0.Places r37).bind fun r39=>some r39 : Option ((Vector UInt8 16))).bind fun j33=>(if (decide (s25.2 < p3)) = true then ((UA p0.Field p0.Mix j33).bind fun r46=>some r46) else (some j33) : Option ((Vector UInt8 16))).bind fun j42=>(idx r9 s25.2).bind fun x51=>(YO j42 x51).bind fun r54=>some r54 : Option ((Vector UInt8 16))).bind fun j30=>some (Fl.nx (j30,wr (s25.2 + 1)))) else (some (Fl.ex s25.1))
def YF (p0 : GCipher) (p1 : (Vector UInt8 16)) (p2 : (Vector UInt8 16)) (p3 : Int) : Option ((Vector UInt8 16)) :=
 (VU p0 p1 p3).bind fun r9=>((idx r9 (0 : Int)).bind fun x16=>(YO p2 x16).bind fun r19=>some r19 : Option ((Vector UInt8 16))).bind fun j12=>(ZE (Y1 p0 p3 r9) (j12,1)).bind fun j22=>some j22
theorem TG (w0 : World) (p0 : GCipher) (p1 : (Vector UInt8 16)) (p2 : (Vector UInt8 16)) (p3 : Int) (r : (Vector UInt8 16)) (hF : YF p0 p1 p2 p3 = some r) :
  Calls Tryz.prog 168 [(Value.agg (enc p0).toArray),(Value.agg (enc p1).toArray),(Value.agg (enc p2).toArray),vI p3].toArray w0 (fun en w'=>∃ v,en = .returned v ∧ (v = (Value.agg (enc r).toArray) ∧ Kept (Old w0) w0 w')):=by
 refine ZB (n:=48) Tryz.func168 rfl rfl (nbl rfl) rfl ?_
 intro a hE
 have hM:=M.start w0
 unfold YF at hF
 refine Zc (ZT (cs:=cat [[vI p0.Field],enc p0.Box,enc p0.Mix,enc p0.Places,[vI p0.Rounds]]) hE hM Za ld rfl rfl fun b1 w a hM hE=>ZT (cs:=enc p1) hE hM Za ld rfl rfl fun b3 w a hM hE=>ZT (cs:=enc p2) hE hM Za ld rfl rfl fun b5 w a hM hE=>ZH hE hM Za ld ZG fun b7 w a hM hE=>Zf (Zc (Zo (cs:=enc p0) hE Za ld rfl UW rfl (hM.rawAt (pre:=[_,_,_])) (Zg (cl1 (n:=1) (m:=289) rfl (cl1 (n:=256) (m:=33) (Flat.len _) (cl1 (n:=16) (m:=17) (Flat.len _) (cl1 (n:=16) (m:=1) (Flat.len _) (cl1 (n:=1) (m:=0) rfl cl0)))))) fun a hE=>Zo (cs:=enc p1) hE Za ld rfl ZG rfl (hM.rawAt (pre:=[_,_])) (Flat.len _) fun a hE=>Zd hE Za ld rfl ?_))); intro a hE
 obtain ⟨r9,e10,hF⟩:=bind_some hF
 refine Zw hE Za ld rfl cb173 (Hi _ p0 p1 p3 r9 e10) ?_
 rintro u11 w a ⟨_,rfl,hFr,hK⟩ hE
 have hM:=hM.add hK hFr
 refine Ze hE Za ld rfl fun a hE=>Zf ?_
 obtain ⟨j12,hl13,hF14⟩:=bind_some hF
 refine ZQ (fun a w=>Env 48 a [(3,vI p3),(4,(ptr b1 0)),(6,(ptr b5 0)),(8,(ptr b7 0)),(9,u11)] ∧ M (Old w0) w0 w [osl NoB (r9 : List (Vector UInt8 16)) u11,raw b7 (enc (Vector.replicate 16 (0 : UInt8))),raw b5 (enc j12),raw b1 (cat [[vI p0.Field],enc p0.Box,enc p0.Mix,enc p0.Places,[vI p0.Rounds]])]) ?_ ?_
 ·skip
  obtain ⟨x16,hi18,hl13⟩:=bix hl13
  obtain ⟨r19,e20,hl13⟩:=bind_some hl13
  refine Yg (n:=48) (hd:=[_,_,_,_,_]) (tl:=[_]) YN rfl rfl [15,16,17,18,19] (by decide) (fun w=>M (Old w0) w0 w [osl NoB (r9 : List (Vector UInt8 16)) u11,raw b7 (enc (Vector.replicate 16 (0 : UInt8))),raw b5 (enc p2),raw b3 (enc p1),raw b1 (cat [[vI p0.Field],enc p0.Box,enc p0.Mix,enc p0.Places,[vI p0.Rounds]])]) (fun j=>([fun v _=>v = (Value.agg (enc p2).toArray),fun v _=>v = u11,fun v _=>v = (ptr (sb u11) (so u11 + ((0 : Int)).toNat * 16)),fun v _=>v = (Value.agg (enc x16).toArray),fun v _=>v = (Value.agg (enc r19).toArray)] : List (Value → World → Prop)).getD j (fun _ _=>True)) (fun _ _ h hk=>h.keep hk) (gup (Zn (Zn (Zn (Zn (Zn Vb)))))) hE hM.drew (ZJ (Zb ?_ (Zb ?_ (Zb ?_ (Zb ?_ (Zb ?_ ZF)))))) ?_
  ·exact fun a w ux15 hE hM hp=>Zo (cs:=enc p2) hE Za ld rfl ZG rfl (hM.rawAt (pre:=[_,_])) (Flat.len _) fun a hE=>⟨Kept.refl _ _,_,_,rfl,hE,rfl⟩
  ·exact fun a w ux15 hE hM hp=>Zd hE Za ld rfl fun a hE=>⟨Kept.refl _ _,_,_,rfl,hE,rfl⟩
  ·intro a w ux15 hE hM hp
   have f1 : ux15 1 = u11:=hp 0 _ rfl rfl
   exact ZK hE Za ld (lk rfl f1) rfl Tryz.underlying33 ZG (hM.sl (pre:=[]) noB) hi18.1 fun a hE=>⟨Kept.refl _ _,_,_,rfl,hE,rfl⟩
  ·intro a w ux15 hE hM hp
   have f2 : ux15 2 = (ptr (sb u11) (so u11 + ((0 : Int)).toNat * 16)):=hp 0 _ rfl rfl
   exact Zo (cs:=enc x16) hE Za ld (lk rfl f2) ZG rfl (Xc (hM.sl (pre:=[]) noB) hi18.2) (Flat.len _) fun a hE=>⟨Kept.refl _ _,_,_,rfl,hE,rfl⟩
  ·intro a w ux15 hE hM hp
   have f0 : ux15 0 = (Value.agg (enc p2).toArray):=hp 0 _ rfl rfl
   have f3 : ux15 3 = (Value.agg (enc x16).toArray):=hp 1 _ rfl rfl
   refine Zw hE Za ld (Z7 (Z2 (lk rfl f0) (Z2 (lk rfl f3) X8))) Bk (VF _ p2 x16 r19 e20) ?_
   rintro v w a ⟨rfl,hK⟩ hE
   exact ⟨hK,_,_,rfl,hE,rfl⟩
  ·intro a w ux15 hE hM hg
   have hE:=hE.sub (e':=[(19,(Value.agg (enc r19).toArray)),(3,vI p3),(4,(ptr b1 0)),(6,(ptr b5 0)),(8,(ptr b7 0)),(9,u11)]) ⟨lk rfl (hg 4 (by decide)),rfl,rfl,rfl,rfl,rfl,trivial⟩
   have hM:=hM.pull (pre:=[_,_])
   refine Zv (seg:=enc r19) (cs':=enc r19) hE hM Za rfl rfl rfl ZG (Flat.len _) (zle flq) (Flat.cell _) (Zr flq) fun w a hM hE=>Zj ?_
   have ht21:=Option.some.inj hl13
   subst ht21
   refine Zl ?_
   have hM:=M.fst (l:=[_,_,_,_]) ((((hM.pull (pre:=[_,_,_,_])).pull (pre:=[_])).pull (pre:=[_,_,_])).pull (pre:=[_,_,_]))
   exact ⟨hE.sub ⟨rfl,rfl,rfl,rfl,rfl,trivial⟩,hM⟩
 ·skip
  rintro a w ⟨hE,hM⟩
  refine wp_seq (Zc (Ze hE Za ld rfl fun a hE=>Zf ?_))
  obtain ⟨j22,hl23,hF24⟩:=bind_some hF14
  refine ZL (fun a w=>Env 48 a [(6,(ptr b5 0)),(8,(ptr b7 0))] ∧ M (Old w0) w0 w [raw b7 (enc (Vector.replicate 16 (0 : UInt8))),raw b5 (enc j22)]) ?_ ?_
  ·skip
   refine wp_block ?_
   refine ZC (fun (s25 : (Vector UInt8 16) × Int) a w=>Env 48 a [(3,vI p3),(4,(ptr b1 0)),(6,(ptr b5 0)),(8,(ptr b7 0)),(9,u11),(10,vI s25.2)] ∧ M (Old w0) w0 w [osl NoB (r9 : List (Vector UInt8 16)) u11,raw b7 (enc (Vector.replicate 16 (0 : UInt8))),raw b5 (enc s25.1),raw b1 (cat [[vI p0.Field],enc p0.Box,enc p0.Mix,enc p0.Places,[vI p0.Rounds]])]) hl23 ⟨hE.sub ⟨rfl,rfl,rfl,rfl,rfl,rfl,trivial⟩,hM⟩ ?_
   rintro s25 a w ⟨hE,hM⟩ o28 hs26 hx27
   unfold Y1 at hs26
   refine wp_seq (Zc (Zd hE Za ld rfl fun a hE=>Zd hE Za ld rfl fun a hE=>Zi hE Za ld rfl rfl rfl fun a hE=>Zf ?_))
   refine Zp hE rfl ?_ ?_
   ·intro hb29
    have hs26:=Zz hs26 hb29
    refine wp_skip (Zu ?_)
    obtain ⟨j30,hl31,hF32⟩:=bind_some hs26
    refine ZQ (fun a w=>Env 48 a [(3,vI p3),(4,(ptr b1 0)),(6,(ptr b5 0)),(8,(ptr b7 0)),(9,u11),(10,vI s25.2)] ∧ M (Old w0) w0 w [osl NoB (r9 : List (Vector UInt8 16)) u11,raw b7 (enc (Vector.replicate 16 (0 : UInt8))),raw b5 (enc j30),raw b1 (cat [[vI p0.Field],enc p0.Box,enc p0.Mix,enc p0.Places,[vI p0.Rounds]])]) ?_ ?_
    ·skip
     refine wp_block ?_
     obtain ⟨j33,hl34,hF35⟩:=bind_some hl31
     refine ZQ (fun a w=>Env 48 a [(3,vI p3),(4,(ptr b1 0)),(6,(ptr b5 0)),(8,(ptr b7 0)),(9,u11),(10,vI s25.2)] ∧ M (Old w0) w0 w [osl NoB (r9 : List (Vector UInt8 16)) u11,raw b7 (enc (Vector.replicate 16 (0 : UInt8))),raw b5 (enc j33),raw b1 (cat [[vI p0.Field],enc p0.Box,enc p0.Mix,enc p0.Places,[vI p0.Rounds]])]) ?_ ?_
     ·skip
      obtain ⟨r37,e38,hl34⟩:=bind_some hl34
      obtain ⟨r39,e40,hl34⟩:=bind_some hl34
      refine Yg (n:=48) (hd:=[_,_,_,_,_,_,_]) (tl:=[_]) YN rfl rfl [25,26,27,28,29,30,31] (by decide) (fun w=>M (Old w0) w0 w [osl NoB (r9 : List (Vector UInt8 16)) u11,raw b7 (enc (Vector.replicate 16 (0 : UInt8))),raw b5 (enc s25.1),raw b1 (cat [[vI p0.Field],enc p0.Box,enc p0.Mix,enc p0.Places,[vI p0.Rounds]])]) (fun j=>([fun v _=>v = (ptr b1 (0 + 273)),fun v _=>v = (Value.agg (enc p0.Places).toArray),fun v _=>v = (ptr b1 (0 + 1)),fun v _=>v = (Value.agg (enc p0.Box).toArray),fun v _=>v = (Value.agg (enc s25.1).toArray),fun v _=>v = (Value.agg (enc r37).toArray),fun v _=>v = (Value.agg (enc r39).toArray)] : List (Value → World → Prop)).getD j (fun _ _=>True)) (fun _ _ h hk=>h.keep hk) (gup (Zn (Zn (Zn (Zn (Zn (Zn (Zn Vb)))))))) hE hM.drew (ZJ (Zb ?_ (Zb ?_ (Zb ?_ (Zb ?_ (Zb ?_ (Zb ?_ (Zb ?_ ZF)))))))) ?_
      ·exact fun a w ux36 hE hM hp=>Zh hE Za ld rfl (Q3) fun a hE=>⟨Kept.refl _ _,_,_,rfl,hE,rfl⟩
      ·intro a w ux36 hE hM hp
       have f0 : ux36 0 = (ptr b1 (0 + 273)):=hp 0 _ rfl rfl
       exact Zo (cs:=enc p0.Places) hE Za ld (lk rfl f0) Qg rfl (At.cat (pre:=[[vI p0.Field],enc p0.Box,enc p0.Mix]) (hM.rawAt (pre:=[_,_,_])) (cl1 (n:=1) (m:=272) rfl (cl1 (n:=256) (m:=16) (Flat.len _) (cl1 (n:=16) (m:=0) (Flat.len _) cl0)))) (Flat.len _) fun a hE=>⟨Kept.refl _ _,_,_,rfl,hE,rfl⟩
      ·exact fun a w ux36 hE hM hp=>Zh hE Za ld rfl (Qw) fun a hE=>⟨Kept.refl _ _,_,_,rfl,hE,rfl⟩
      ·intro a w ux36 hE hM hp
       have f2 : ux36 2 = (ptr b1 (0 + 1)):=hp 0 _ rfl rfl
       exact Zo (cs:=enc p0.Box) hE Za ld (lk rfl f2) Ve rfl (At.cat (pre:=[[vI p0.Field]]) (hM.rawAt (pre:=[_,_,_])) (cl1 (n:=1) (m:=0) rfl cl0)) (Flat.len _) fun a hE=>⟨Kept.refl _ _,_,_,rfl,hE,rfl⟩
      ·exact fun a w ux36 hE hM hp=>Zo (cs:=enc s25.1) hE Za ld rfl ZG rfl (hM.rawAt (pre:=[_,_])) (Flat.len _) fun a hE=>⟨Kept.refl _ _,_,_,rfl,hE,rfl⟩
      ·intro a w ux36 hE hM hp
       have f3 : ux36 3 = (Value.agg (enc p0.Box).toArray):=hp 0 _ rfl rfl
       have f4 : ux36 4 = (Value.agg (enc s25.1).toArray):=hp 1 _ rfl rfl
       refine Zw hE Za ld (Z7 (Z2 (lk rfl f3) (Z2 (lk rfl f4) X8))) cb175 (JB _ p0.Box s25.1 r37 e38) ?_
       rintro v w a ⟨rfl,hK⟩ hE
       exact ⟨hK,_,_,rfl,hE,rfl⟩
      ·intro a w ux36 hE hM hp
       have f1 : ux36 1 = (Value.agg (enc p0.Places).toArray):=hp 0 _ rfl rfl
       have f5 : ux36 5 = (Value.agg (enc r37).toArray):=hp 1 _ rfl rfl
       refine Zw hE Za ld (Z7 (Z2 (lk rfl f1) (Z2 (lk rfl f5) X8))) cb174 (HB _ p0.Places r37 r39 e40) ?_
       rintro v w a ⟨rfl,hK⟩ hE
       exact ⟨hK,_,_,rfl,hE,rfl⟩
      ·intro a w ux36 hE hM hg
       have hE:=hE.sub (e':=[(31,(Value.agg (enc r39).toArray)),(3,vI p3),(4,(ptr b1 0)),(6,(ptr b5 0)),(8,(ptr b7 0)),(9,u11),(10,vI s25.2),(20,vI s25.2),(21,vI p3),(22,(vT (decide (s25.2 ≤ p3))))]) ⟨lk rfl (hg 6 (by decide)),rfl,rfl,rfl,rfl,rfl,rfl,rfl,rfl,rfl,trivial⟩
       have hM:=hM.pull (pre:=[_,_])
       refine Zv (seg:=enc r39) (cs':=enc r39) hE hM Za rfl rfl rfl ZG (Flat.len _) (zle flq) (Flat.cell _) (Zr flq) fun w a hM hE=>Zj ?_
       have ht41:=Option.some.inj hl34
       subst ht41
       refine Zl ?_
       have hM:=(((hM.pull (pre:=[_,_,_])).pull (pre:=[_])).pull (pre:=[_,_,_])).pull (pre:=[_,_,_])
       exact ⟨hE.sub ⟨rfl,rfl,rfl,rfl,rfl,rfl,trivial⟩,hM⟩
     ·skip
      rintro a w ⟨hE,hM⟩
      obtain ⟨j42,hl43,hF44⟩:=bind_some hF35
      refine ZQ (fun a w=>Env 48 a [(3,vI p3),(4,(ptr b1 0)),(6,(ptr b5 0)),(8,(ptr b7 0)),(9,u11),(10,vI s25.2)] ∧ M (Old w0) w0 w [osl NoB (r9 : List (Vector UInt8 16)) u11,raw b7 (enc (Vector.replicate 16 (0 : UInt8))),raw b5 (enc j42),raw b1 (cat [[vI p0.Field],enc p0.Box,enc p0.Mix,enc p0.Places,[vI p0.Rounds]])]) ?_ ?_
      ·skip
       refine Zc (Zd hE Za ld rfl fun a hE=>Zd hE Za ld rfl fun a hE=>Zi hE Za ld rfl rfl rfl fun a hE=>Zf ?_)
       refine Zp hE rfl ?_ ?_
       ·intro hb45
        have hl43:=Zz hl43 hb45
        refine wp_region_lit (Zh hE Za ld rfl (K8) fun a hE=>ZA (v:=(vI p0.Field)) hE Za ld rfl ty2 rfl (At.cat (pre:=[]) (hM.rawAt (pre:=[_,_,_])) cl0) fun a hE=>Zh hE Za ld rfl (Kb) fun a hE=>Zo (cs:=enc p0.Mix) hE Za ld rfl Ti rfl (At.cat (pre:=[[vI p0.Field],enc p0.Box]) (hM.rawAt (pre:=[_,_,_])) (cl1 (n:=1) (m:=256) rfl (cl1 (n:=256) (m:=0) (Flat.len _) cl0))) (Flat.len _) fun a hE=>Zo (cs:=enc j33) hE Za ld rfl ZG rfl (hM.rawAt (pre:=[_,_])) (Flat.len _) ?_); intro a hE
        obtain ⟨r46,e47,hl43⟩:=bind_some hl43
        refine Zw hE Za ld rfl cb176 (H7 _ p0.Field p0.Mix j33 r46 e47) ?_
        rintro v w a ⟨rfl,hK⟩ hE
        have hM:=(hM.keep hK).pull (pre:=[_,_])
        refine Zv (seg:=enc r46) (cs':=enc r46) hE hM Za rfl rfl rfl ZG (Flat.len _) (zle flq) (Flat.cell _) (Zr flq) fun w a hM hE=>Zj ?_
        have ht48:=Option.some.inj hl43
        subst ht48
        refine Zl ?_
        have hM:=(((hM.pull (pre:=[_,_,_])).pull (pre:=[_])).pull (pre:=[_,_,_])).pull (pre:=[_,_,_])
        exact ⟨hE.sub ⟨rfl,rfl,rfl,rfl,rfl,rfl,trivial⟩,hM⟩
       ·intro hb45
        have hl43:=Zy hl43 hb45
        refine wp_skip ?_
        have ht49:=Option.some.inj hl43
        subst ht49
        refine Zl ?_
        exact ⟨hE.sub ⟨rfl,rfl,rfl,rfl,rfl,rfl,trivial⟩,hM⟩
      ·skip
       rintro a w ⟨hE,hM⟩
       obtain ⟨x51,hi53,hF44⟩:=bix hF44
       obtain ⟨r54,e55,hF44⟩:=bind_some hF44
       refine Yg (n:=48) (hd:=[_,_,_,_,_,_]) (tl:=[_]) YN rfl rfl [41,42,43,44,45,46] (by decide) (fun w=>M (Old w0) w0 w [osl NoB (r9 : List (Vector UInt8 16)) u11,raw b7 (enc (Vector.replicate 16 (0 : UInt8))),raw b5 (enc j42),raw b1 (cat [[vI p0.Field],enc p0.Box,enc p0.Mix,enc p0.Places,[vI p0.Rounds]])]) (fun j=>([fun v _=>v = (Value.agg (enc j42).toArray),fun v _=>v = u11,fun v _=>v = (vI s25.2),fun v _=>v = (ptr (sb u11) (so u11 + (s25.2).toNat * 16)),fun v _=>v = (Value.agg (enc x51).toArray),fun v _=>v = (Value.agg (enc r54).toArray)] : List (Value → World → Prop)).getD j (fun _ _=>True)) (fun _ _ h hk=>h.keep hk) (gup (Zn (Zn (Zn (Zn (Zn (Zn Vb))))))) hE hM.drew (ZJ (Zb ?_ (Zb ?_ (Zb ?_ (Zb ?_ (Zb ?_ (Zb ?_ ZF))))))) ?_
       ·exact fun a w ux50 hE hM hp=>Zo (cs:=enc j42) hE Za ld rfl ZG rfl (hM.rawAt (pre:=[_,_])) (Flat.len _) fun a hE=>⟨Kept.refl _ _,_,_,rfl,hE,rfl⟩
       ·exact fun a w ux50 hE hM hp=>Zd hE Za ld rfl fun a hE=>⟨Kept.refl _ _,_,_,rfl,hE,rfl⟩
       ·exact fun a w ux50 hE hM hp=>Zd hE Za ld rfl fun a hE=>⟨Kept.refl _ _,_,_,rfl,hE,rfl⟩
       ·intro a w ux50 hE hM hp
        have f1 : ux50 1 = u11:=hp 0 _ rfl rfl
        have f2 : ux50 2 = (vI s25.2):=hp 1 _ rfl rfl
        exact ZK hE Za ld (lk rfl f1) (lk rfl f2) Tryz.underlying33 ZG (hM.sl (pre:=[]) noB) hi53.1 fun a hE=>⟨Kept.refl _ _,_,_,rfl,hE,rfl⟩
       ·intro a w ux50 hE hM hp
        have f3 : ux50 3 = (ptr (sb u11) (so u11 + (s25.2).toNat * 16)):=hp 0 _ rfl rfl
        exact Zo (cs:=enc x51) hE Za ld (lk rfl f3) ZG rfl (Xc (hM.sl (pre:=[]) noB) hi53.2) (Flat.len _) fun a hE=>⟨Kept.refl _ _,_,_,rfl,hE,rfl⟩
       ·intro a w ux50 hE hM hp
        have f0 : ux50 0 = (Value.agg (enc j42).toArray):=hp 0 _ rfl rfl
        have f4 : ux50 4 = (Value.agg (enc x51).toArray):=hp 1 _ rfl rfl
        refine Zw hE Za ld (Z7 (Z2 (lk rfl f0) (Z2 (lk rfl f4) X8))) Bk (VF _ j42 x51 r54 e55) ?_
        rintro v w a ⟨rfl,hK⟩ hE
        exact ⟨hK,_,_,rfl,hE,rfl⟩
       ·intro a w ux50 hE hM hg
        have hE:=hE.sub (e':=[(46,(Value.agg (enc r54).toArray)),(3,vI p3),(4,(ptr b1 0)),(6,(ptr b5 0)),(8,(ptr b7 0)),(9,u11),(10,vI s25.2)]) ⟨lk rfl (hg 5 (by decide)),rfl,rfl,rfl,rfl,rfl,rfl,trivial⟩
        have hM:=hM.pull (pre:=[_,_])
        refine Zv (seg:=enc r54) (cs':=enc r54) hE hM Za rfl rfl rfl ZG (Flat.len _) (zle flq) (Flat.cell _) (Zr flq) fun w a hM hE=>Zj (ZZ ?_)
        have ht56:=Option.some.inj hF44
        subst ht56
        refine Zl ?_
        have hM:=(((hM.pull (pre:=[_,_,_])).pull (pre:=[_])).pull (pre:=[_,_,_])).pull (pre:=[_,_,_])
        exact ⟨hE.sub ⟨rfl,rfl,rfl,rfl,rfl,rfl,trivial⟩,hM⟩
    ·skip
     rintro a w ⟨hE,hM⟩
     refine wp_region_lit (Zd hE Za ld rfl fun a hE=>Zi hE Za ld rfl rfl rfl fun a hE=>Ze hE Za ld rfl fun a hE=>Zj (Zl ?_))
     exact ⟨_,(ois hF32),hE.sub ⟨rfl,rfl,rfl,rfl,rfl,rfl,trivial⟩,hM⟩
   ·intro hb29
    have hs26:=Zy hs26 hb29
    refine wp_exit (Zm (Zm (Z0 ?_)))
    have ht57:=hx27 _ (ois hs26)
    subst ht57
    refine Zl ?_
    have hM:=M.fst (l:=[_,_]) ((hM.pull (pre:=[_,_])).pull (pre:=[_,_]))
    exact ⟨hE.sub ⟨rfl,rfl,trivial⟩,hM⟩
  ·skip
   rintro a w ⟨hE,hM⟩
   refine Zu (Zc (Zo (cs:=enc j22) hE Za ld rfl ZG rfl (hM.rawAt (pre:=[_])) (Flat.len _) fun a hE=>Zv (seg:=enc j22) (cs':=enc j22) hE hM Za rfl rfl rfl ZG (Flat.len _) (zle flq) (Flat.cell _) (Zr flq) fun w a hM hE=>Zf ?_))
   have hr:=Option.some.inj hF24
   subst hr
   have hq58 : Yx Tryz.prog _ _ (.cell 8 31) _:=ZR hE rfl ZG rfl (hM.rawAt (pre:=[])) (Flat.len _) rfl
   have hM:=M.fst (l:=[]) hM
   exact wp_ret (Zt hE rfl hq58 ⟨_,rfl,rfl,hM.kept⟩)
def Xp (r31 : (Vector UInt8 16)) (r40 : (Vector UInt8 16)) (s51 : (Vector UInt8 32) × Int) : Option (Fl ((Vector UInt8 32) × Int) (Vector UInt8 32)) :=
 if (decide (s51.2 < 16)) = true then ((ZI r31 s51.2).bind fun x57=>(ZI s51.1 s51.2).bind fun x60=>(ZI r40 s51.2).bind fun x63=>(ZI (s51.1.setIfInBounds (s51.2).toNat x57) (wr (16 + s51.2))).bind fun x66=>some (Fl.nx (((s51.1.setIfInBounds (s51.2).toNat x57).setIfInBounds ((wr (16 + s51.2))).toNat x63),wr (s51.2 + 1)))) else (some (Fl.ex s51.1))
def XO (p0 : GCipher) (p1 : (Vector UInt8 32)) (p2 : (Vector UInt8 16)) : Option ((Vector UInt8 32)) :=
 (W3 p1).bind fun r9=>(YO r9.1 p2).bind fun r16=>(YO r9.2 p2).bind fun r18=>(YF p0 r9.2 r16 p0.Rounds).bind fun r29=>(YO r29 r16).bind fun r31=>(YF p0 r31 r18 p0.Rounds).bind fun r38=>(YO r38 r18).bind fun r40=>(ZE (Xp r31 r40) ((Vector.replicate 32 (0 : UInt8)),0)).bind fun j48=>some j48
theorem KW (w0 : World) (p0 : GCipher) (p1 : (Vector UInt8 32)) (p2 : (Vector UInt8 16)) (r : (Vector UInt8 32)) (hF : XO p0 p1 p2 = some r) :
  Calls Tryz.prog 151 [(Value.agg (enc p0).toArray),(Value.agg (enc p1).toArray),(Value.agg (enc p2).toArray)].toArray w0 (fun en w'=>∃ v,en = .returned v ∧ (v = (Value.agg (enc r).toArray) ∧ Kept (Old w0) w0 w')):=by
 refine ZB (n:=59) Tryz.func151 rfl rfl (nbl rfl) rfl ?_
 intro a hE
 have hM:=M.start w0
 unfold XO at hF
 refine Zc (ZT (cs:=cat [[vI p0.Field],enc p0.Box,enc p0.Mix,enc p0.Places,[vI p0.Rounds]]) hE hM Za ld rfl rfl fun b1 w a hM hE=>ZT (cs:=enc p1) hE hM Za ld rfl rfl fun b3 w a hM hE=>ZT (cs:=enc p2) hE hM Za ld rfl rfl fun b5 w a hM hE=>ZH hE hM Za ld Yi fun b7 w a hM hE=>Zf (Zc (Zo (cs:=enc p1) hE Za ld rfl Yi rfl (hM.rawAt (pre:=[_,_])) (Flat.len _) ?_))); intro a hE
 obtain ⟨r9,e10,hF⟩:=bind_some hF
 refine Zw hE Za ld rfl cb166 (KX _ p1 r9 e10) ?_
 rintro v w a ⟨rfl,hK⟩ hE
 have hM:=hM.keep hK
 refine Zd hE Za ld rfl fun a hE=>QG hE Za ld rfl rfl fun a hE=>QG hE Za ld rfl rfl fun a hE=>ZH hE hM Za ld ZG fun b11 w a hM hE=>ZH hE hM Za ld ZG ?_; intro b13 w a hM hE
 have hM:=hM.pull (pre:=[_])
 refine Zv (seg:=enc r9.1) (cs':=enc r9.1) hE hM Za rfl rfl rfl ZG (Flat.len _) (zle flq) (Flat.cell _) (Zr flq) ?_; intro w a hM hE
 have hM:=hM.pull (pre:=[_])
 refine Zv (seg:=enc r9.2) (cs':=enc r9.2) hE hM Za rfl rfl rfl ZG (Flat.len _) (zle flq) (Flat.cell _) (Zr flq) fun w a hM hE=>Zf (wp_seq ?_)
 obtain ⟨r16,e17,hF⟩:=bind_some hF
 obtain ⟨r18,e19,hF⟩:=bind_some hF
 refine Te (n:=59) (hd:=[_,_,_,_,_,_,_,_]) (tl:=[_,_]) YN rfl rfl [20,21,22,23,24,25,9,10] (by decide) (fun D u w=>M (Old w0) w0 w ([raw b13 (enc r9.2),raw b11 (enc r9.1),raw b7 (enc (Vector.replicate 32 (0 : UInt8))),raw b5 (enc p2),raw b3 (enc p1),raw b1 (cat [[vI p0.Field],enc p0.Box,enc p0.Mix,enc p0.Places,[vI p0.Rounds]])] ++ qL ([mkO 6 (fun v=>UV v (enc (Vector.replicate 16 (0 : UInt8)))),mkO 7 (fun v=>UV v (enc (Vector.replicate 16 (0 : UInt8))))] : Mk) D u) ∧ GOk ([([],fun us v=>v = (Value.agg (enc r9.1).toArray)),([],fun us v=>v = (Value.agg (enc p2).toArray)),([],fun us v=>v = (Value.agg (enc r16).toArray)),([],fun us v=>v = (Value.agg (enc r9.2).toArray)),([],fun us v=>v = (Value.agg (enc p2).toArray)),([],fun us v=>v = (Value.agg (enc r18).toArray)),([],fun us v=>True),([],fun us v=>True)] : Gs) D u) hE (fun u=>⟨M.qE (M.qE (M.q0 hM.drew u) emO) emO,HU⟩) (ZJ (Zb ?_ (Zb ?_ (Zb ?_ (Zb ?_ (Zb ?_ (Zb ?_ (Zb ?_ (Zb ?_ ZF))))))))) ?_
 ·intro a w ux15 D hE hI hD hdc hp
  have hM0:=hI.1
  have hM:=hI.1
  exact Zo (cs:=enc r9.1) hE Za ld rfl ZG rfl (hM.rawAt (pre:=[_])) (Flat.len _) fun a hE=>⟨_,_,rfl,hE,M.qKeep hM0 rfl,hI.2.put hD rfl Z4 rfl⟩
 ·intro a w ux15 D hE hI hD hdc hp
  have hM0:=hI.1
  have hM:=hI.1
  exact Zo (cs:=enc p2) hE Za ld rfl ZG rfl (hM.rawAt (pre:=[_,_,_])) (Flat.len _) fun a hE=>⟨_,_,rfl,hE,M.qKeep hM0 rfl,hI.2.put hD rfl Z4 rfl⟩
 ·intro a w ux15 D hE hI hD hdc hp
  have d0 : D 0 = true:=hp 0 _ rfl rfl
  have g0:=hI.2 0 d0 _ rfl
  have f0 : ux15 0 = (Value.agg (enc r9.1).toArray):=g0.2
  have d1 : D 1 = true:=hp 1 _ rfl rfl
  have g1:=hI.2 1 d1 _ rfl
  have f1 : ux15 1 = (Value.agg (enc p2).toArray):=g1.2
  have hM0:=hI.1
  refine Zw hE Za ld (Z7 (Z2 (lk rfl f0) (Z2 (lk rfl f1) X8))) Bk (VF _ r9.1 p2 r16 e17) ?_
  rintro v w a ⟨rfl,hK⟩ hE
  exact ⟨_,_,rfl,hE,M.qKeep (hM0.keep hK) rfl,hI.2.put hD rfl Z4 rfl⟩
 ·intro a w ux15 D hE hI hD hdc hp
  have hM0:=hI.1
  have hM:=hI.1
  exact Zo (cs:=enc r9.2) hE Za ld rfl ZG rfl (hM.rawAt (pre:=[])) (Flat.len _) fun a hE=>⟨_,_,rfl,hE,M.qKeep hM0 rfl,hI.2.put hD rfl Z4 rfl⟩
 ·intro a w ux15 D hE hI hD hdc hp
  have hM0:=hI.1
  have hM:=hI.1
  exact Zo (cs:=enc p2) hE Za ld rfl ZG rfl (hM.rawAt (pre:=[_,_,_])) (Flat.len _) fun a hE=>⟨_,_,rfl,hE,M.qKeep hM0 rfl,hI.2.put hD rfl Z4 rfl⟩
 ·intro a w ux15 D hE hI hD hdc hp
  have d3 : D 3 = true:=hp 0 _ rfl rfl
  have g3:=hI.2 3 d3 _ rfl
  have f3 : ux15 3 = (Value.agg (enc r9.2).toArray):=g3.2
  have d4 : D 4 = true:=hp 1 _ rfl rfl
  have g4:=hI.2 4 d4 _ rfl
  have f4 : ux15 4 = (Value.agg (enc p2).toArray):=g4.2
  have hM0:=hI.1
  refine Zw hE Za ld (Z7 (Z2 (lk rfl f3) (Z2 (lk rfl f4) X8))) Bk (VF _ r9.2 p2 r18 e19) ?_
  rintro v w a ⟨rfl,hK⟩ hE
  exact ⟨_,_,rfl,hE,M.qKeep (hM0.keep hK) rfl,hI.2.put hD rfl Z4 rfl⟩
 ·intro a w ux15 D hE hI hD hdc hp
  have hM0:=hI.1
  have hM:=hI.1
  refine ZH hE hM Za ld ZG ?_; intro b20 w a hM hE
  have hM:=hM.pack1 (it:=UV _ (enc (Vector.replicate 16 (0 : UInt8)))) (fun w w' fp ⟨b',e,k⟩ hb=>⟨b',e,X7 w w' fp k hb⟩) (fun fp k=>⟨_,rfl,k⟩)
  exact ⟨_,_,rfl,hE,M.qFill (mk1:=[]) (mk2:=[_]) (f:=fun v=>UV v (enc (Vector.replicate 16 (0 : UInt8)))) hM rfl hD,hI.2.put hD rfl Z4 trivial⟩
 ·intro a w ux15 D hE hI hD hdc hp
  have hM0:=hI.1
  have hM:=hI.1
  refine ZH hE hM Za ld ZG ?_; intro b22 w a hM hE
  have hM:=hM.pack1 (it:=UV _ (enc (Vector.replicate 16 (0 : UInt8)))) (fun w w' fp ⟨b',e,k⟩ hb=>⟨b',e,X7 w w' fp k hb⟩) (fun fp k=>⟨_,rfl,k⟩)
  exact ⟨_,_,rfl,hE,M.qFill (mk1:=[_]) (mk2:=[]) (f:=fun v=>UV v (enc (Vector.replicate 16 (0 : UInt8)))) hM rfl hD,hI.2.put hD rfl Z4 trivial⟩
 ·intro a w ux15 D hE hI hall
  have hM : M (Old w0) w0 w [raw b13 (enc r9.2),raw b11 (enc r9.1),raw b7 (enc (Vector.replicate 32 (0 : UInt8))),raw b5 (enc p2),raw b3 (enc p1),raw b1 (cat [[vI p0.Field],enc p0.Box,enc p0.Mix,enc p0.Places,[vI p0.Rounds]]),opt (D 6) (UV (ux15 6) (enc (Vector.replicate 16 (0 : UInt8)))),opt (D 7) (UV (ux15 7) (enc (Vector.replicate 16 (0 : UInt8))))]:=hI.1
  have d0 : D 0 = true:=hall 0 (by decide)
  have d1 : D 1 = true:=hall 1 (by decide)
  have d2 : D 2 = true:=hall 2 (by decide)
  have d3 : D 3 = true:=hall 3 (by decide)
  have d4 : D 4 = true:=hall 4 (by decide)
  have d5 : D 5 = true:=hall 5 (by decide)
  have d6 : D 6 = true:=hall 6 (by decide)
  have d7 : D 7 = true:=hall 7 (by decide)
  have f0 : ux15 0 = (Value.agg (enc r9.1).toArray):=(hI.2 0 d0 _ rfl).2
  have f1 : ux15 1 = (Value.agg (enc p2).toArray):=(hI.2 1 d1 _ rfl).2
  have f2 : ux15 2 = (Value.agg (enc r16).toArray):=(hI.2 2 d2 _ rfl).2
  have f3 : ux15 3 = (Value.agg (enc r9.2).toArray):=(hI.2 3 d3 _ rfl).2
  have f4 : ux15 4 = (Value.agg (enc p2).toArray):=(hI.2 4 d4 _ rfl).2
  have f5 : ux15 5 = (Value.agg (enc r18).toArray):=(hI.2 5 d5 _ rfl).2
  have hM:=(hM.sure (pre:=[_,_,_,_,_,_]) d6).pull
  obtain ⟨_,⟨b24,f25,_⟩,_⟩:=hM.head
  have hM:=((hM.pack1 X7 (it:=raw b24 (enc (Vector.replicate 16 (0 : UInt8)))) (fun fp ⟨b2,e2,k2⟩=>by rw [f25] at e2; simp [ptr] at e2; subst e2; exact k2)).sure (pre:=[_,_,_,_,_,_,_]) d7).pull
  obtain ⟨_,⟨b26,f27,_⟩,_⟩:=hM.head
  have hM:=hM.pack1 X7 (it:=raw b26 (enc (Vector.replicate 16 (0 : UInt8)))) (fun fp ⟨b2,e2,k2⟩=>by rw [f27] at e2; simp [ptr] at e2; subst e2; exact k2)
  have hE:=hE.sub (e':=[(22,(Value.agg (enc r16).toArray)),(25,(Value.agg (enc r18).toArray)),(9,(ptr b24 0)),(10,(ptr b26 0)),(3,(ptr b1 0)),(6,(ptr b7 0)),(8,(ptr b13 0))]) ⟨lk rfl f2,lk rfl f5,lk rfl f25,lk rfl f27,rfl,rfl,rfl,trivial⟩
  have hM:=hM.pull (pre:=[_])
  refine Zv (seg:=enc r16) (cs':=enc r16) hE hM Za rfl rfl rfl ZG (Flat.len _) (zle flq) (Flat.cell _) (Zr flq) ?_; intro w a hM hE
  have hM:=hM.pull (pre:=[_])
  refine Zv (seg:=enc r18) (cs':=enc r18) hE hM Za rfl rfl rfl ZG (Flat.len _) (zle flq) (Flat.cell _) (Zr flq) fun w a hM hE=>Zj (Zu (wp_seq ?_))
  obtain ⟨r29,e30,hF⟩:=bind_some hF
  obtain ⟨r31,e32,hF⟩:=bind_some hF
  refine Te (n:=59) (hd:=[_,_,_,_,_,_,_,_,_]) (tl:=[_]) YN rfl rfl [26,27,28,29,30,31,32,33,11] (by decide) (fun D u w=>M (Old w0) w0 w ([raw b26 (enc r18),raw b24 (enc r16),raw b13 (enc r9.2),raw b11 (enc r9.1),raw b7 (enc (Vector.replicate 32 (0 : UInt8))),raw b5 (enc p2),raw b3 (enc p1),raw b1 (cat [[vI p0.Field],enc p0.Box,enc p0.Mix,enc p0.Places,[vI p0.Rounds]])] ++ qL ([mkO 8 (fun v=>UV v (enc (Vector.replicate 16 (0 : UInt8))))] : Mk) D u) ∧ GOk ([([],fun us v=>v = (Value.agg (enc p0).toArray)),([],fun us v=>v = (Value.agg (enc r9.2).toArray)),([],fun us v=>v = (Value.agg (enc r16).toArray)),([],fun us v=>v = (ptr b1 (0 + 289))),([],fun us v=>v = (vI p0.Rounds)),([],fun us v=>v = (Value.agg (enc r29).toArray)),([],fun us v=>v = (Value.agg (enc r16).toArray)),([],fun us v=>v = (Value.agg (enc r31).toArray)),([],fun us v=>True)] : Gs) D u) hE (fun u=>⟨M.qE (M.q0 hM.drew u) emO,HU⟩) (ZJ (Zb ?_ (Zb ?_ (Zb ?_ (Zb ?_ (Zb ?_ (Zb ?_ (Zb ?_ (Zb ?_ (Zb ?_ ZF)))))))))) ?_
  ·intro a w ux28 D hE hI hD hdc hp
   have hM0:=hI.1
   have hM:=hI.1
   exact Zo (cs:=enc p0) hE Za ld rfl UW rfl (hM.rawAt (pre:=[_,_,_,_,_,_,_])) (Zg (cl1 (n:=1) (m:=289) rfl (cl1 (n:=256) (m:=33) (Flat.len _) (cl1 (n:=16) (m:=17) (Flat.len _) (cl1 (n:=16) (m:=1) (Flat.len _) (cl1 (n:=1) (m:=0) rfl cl0)))))) fun a hE=>⟨_,_,rfl,hE,M.qKeep hM0 rfl,hI.2.put hD rfl Z4 rfl⟩
  ·intro a w ux28 D hE hI hD hdc hp
   have hM0:=hI.1
   have hM:=hI.1
   exact Zo (cs:=enc r9.2) hE Za ld rfl ZG rfl (hM.rawAt (pre:=[_,_])) (Flat.len _) fun a hE=>⟨_,_,rfl,hE,M.qKeep hM0 rfl,hI.2.put hD rfl Z4 rfl⟩
  ·intro a w ux28 D hE hI hD hdc hp
   have hM0:=hI.1
   have hM:=hI.1
   exact Zo (cs:=enc r16) hE Za ld rfl ZG rfl (hM.rawAt (pre:=[_])) (Flat.len _) fun a hE=>⟨_,_,rfl,hE,M.qKeep hM0 rfl,hI.2.put hD rfl Z4 rfl⟩
  ·intro a w ux28 D hE hI hD hdc hp
   have hM0:=hI.1
   exact Zh hE Za ld rfl (Hx) fun a hE=>⟨_,_,rfl,hE,M.qKeep hM0 rfl,hI.2.put hD rfl Z4 rfl⟩
  ·intro a w ux28 D hE hI hD hdc hp
   have d3 : D 3 = true:=hp 0 _ rfl rfl
   have g3:=hI.2 3 d3 _ rfl
   have f3 : ux28 3 = (ptr b1 (0 + 289)):=g3.2
   have hM0:=hI.1
   have hM:=hI.1
   exact ZA (v:=(vI p0.Rounds)) hE Za ld (lk rfl f3) ty2 rfl (At.cat (pre:=[[vI p0.Field],enc p0.Box,enc p0.Mix,enc p0.Places]) (hM.rawAt (pre:=[_,_,_,_,_,_,_])) (cl1 (n:=1) (m:=288) rfl (cl1 (n:=256) (m:=32) (Flat.len _) (cl1 (n:=16) (m:=16) (Flat.len _) (cl1 (n:=16) (m:=0) (Flat.len _) cl0))))) fun a hE=>⟨_,_,rfl,hE,M.qKeep hM0 rfl,hI.2.put hD rfl Z4 rfl⟩
  ·intro a w ux28 D hE hI hD hdc hp
   have d0 : D 0 = true:=hp 0 _ rfl rfl
   have g0:=hI.2 0 d0 _ rfl
   have f0 : ux28 0 = (Value.agg (enc p0).toArray):=g0.2
   have d1 : D 1 = true:=hp 1 _ rfl rfl
   have g1:=hI.2 1 d1 _ rfl
   have f1 : ux28 1 = (Value.agg (enc r9.2).toArray):=g1.2
   have d2 : D 2 = true:=hp 2 _ rfl rfl
   have g2:=hI.2 2 d2 _ rfl
   have f2 : ux28 2 = (Value.agg (enc r16).toArray):=g2.2
   have d4 : D 4 = true:=hp 3 _ rfl rfl
   have g4:=hI.2 4 d4 _ rfl
   have f4 : ux28 4 = (vI p0.Rounds):=g4.2
   have hM0:=hI.1
   refine Zw hE Za ld (Z7 (Z2 (lk rfl f0) (Z2 (lk rfl f1) (Z2 (lk rfl f2) (Z2 (lk rfl f4) X8))))) cb168 (TG _ p0 r9.2 r16 p0.Rounds r29 e30) ?_
   rintro v w a ⟨rfl,hK⟩ hE
   exact ⟨_,_,rfl,hE,M.qKeep (hM0.keep hK) rfl,hI.2.put hD rfl Z4 rfl⟩
  ·intro a w ux28 D hE hI hD hdc hp
   have hM0:=hI.1
   have hM:=hI.1
   exact Zo (cs:=enc r16) hE Za ld rfl ZG rfl (hM.rawAt (pre:=[_])) (Flat.len _) fun a hE=>⟨_,_,rfl,hE,M.qKeep hM0 rfl,hI.2.put hD rfl Z4 rfl⟩
  ·intro a w ux28 D hE hI hD hdc hp
   have d5 : D 5 = true:=hp 0 _ rfl rfl
   have g5:=hI.2 5 d5 _ rfl
   have f5 : ux28 5 = (Value.agg (enc r29).toArray):=g5.2
   have d6 : D 6 = true:=hp 1 _ rfl rfl
   have g6:=hI.2 6 d6 _ rfl
   have f6 : ux28 6 = (Value.agg (enc r16).toArray):=g6.2
   have hM0:=hI.1
   refine Zw hE Za ld (Z7 (Z2 (lk rfl f5) (Z2 (lk rfl f6) X8))) Bk (VF _ r29 r16 r31 e32) ?_
   rintro v w a ⟨rfl,hK⟩ hE
   exact ⟨_,_,rfl,hE,M.qKeep (hM0.keep hK) rfl,hI.2.put hD rfl Z4 rfl⟩
  ·intro a w ux28 D hE hI hD hdc hp
   have hM0:=hI.1
   have hM:=hI.1
   refine ZH hE hM Za ld ZG ?_; intro b33 w a hM hE
   have hM:=hM.pack1 (it:=UV _ (enc (Vector.replicate 16 (0 : UInt8)))) (fun w w' fp ⟨b',e,k⟩ hb=>⟨b',e,X7 w w' fp k hb⟩) (fun fp k=>⟨_,rfl,k⟩)
   exact ⟨_,_,rfl,hE,M.qFill (mk1:=[]) (mk2:=[]) (f:=fun v=>UV v (enc (Vector.replicate 16 (0 : UInt8)))) hM rfl hD,hI.2.put hD rfl Z4 trivial⟩
  ·intro a w ux28 D hE hI hall
   have hM : M (Old w0) w0 w [raw b26 (enc r18),raw b24 (enc r16),raw b13 (enc r9.2),raw b11 (enc r9.1),raw b7 (enc (Vector.replicate 32 (0 : UInt8))),raw b5 (enc p2),raw b3 (enc p1),raw b1 (cat [[vI p0.Field],enc p0.Box,enc p0.Mix,enc p0.Places,[vI p0.Rounds]]),opt (D 8) (UV (ux28 8) (enc (Vector.replicate 16 (0 : UInt8))))]:=hI.1
   have d0 : D 0 = true:=hall 0 (by decide)
   have d1 : D 1 = true:=hall 1 (by decide)
   have d2 : D 2 = true:=hall 2 (by decide)
   have d3 : D 3 = true:=hall 3 (by decide)
   have d4 : D 4 = true:=hall 4 (by decide)
   have d5 : D 5 = true:=hall 5 (by decide)
   have d6 : D 6 = true:=hall 6 (by decide)
   have d7 : D 7 = true:=hall 7 (by decide)
   have d8 : D 8 = true:=hall 8 (by decide)
   have f0 : ux28 0 = (Value.agg (enc p0).toArray):=(hI.2 0 d0 _ rfl).2
   have f1 : ux28 1 = (Value.agg (enc r9.2).toArray):=(hI.2 1 d1 _ rfl).2
   have f2 : ux28 2 = (Value.agg (enc r16).toArray):=(hI.2 2 d2 _ rfl).2
   have f3 : ux28 3 = (ptr b1 (0 + 289)):=(hI.2 3 d3 _ rfl).2
   have f4 : ux28 4 = (vI p0.Rounds):=(hI.2 4 d4 _ rfl).2
   have f5 : ux28 5 = (Value.agg (enc r29).toArray):=(hI.2 5 d5 _ rfl).2
   have f6 : ux28 6 = (Value.agg (enc r16).toArray):=(hI.2 6 d6 _ rfl).2
   have f7 : ux28 7 = (Value.agg (enc r31).toArray):=(hI.2 7 d7 _ rfl).2
   have hM:=(hM.sure (pre:=[_,_,_,_,_,_,_,_]) d8).pull
   obtain ⟨_,⟨b35,f36,_⟩,_⟩:=hM.head
   have hM:=hM.pack1 X7 (it:=raw b35 (enc (Vector.replicate 16 (0 : UInt8)))) (fun fp ⟨b2,e2,k2⟩=>by rw [f36] at e2; simp [ptr] at e2; subst e2; exact k2)
   have hE:=hE.sub (e':=[(33,(Value.agg (enc r31).toArray)),(11,(ptr b35 0)),(3,(ptr b1 0)),(6,(ptr b7 0)),(10,(ptr b26 0))]) ⟨lk rfl f7,lk rfl f36,rfl,rfl,rfl,trivial⟩
   refine Zv (seg:=enc r31) (cs':=enc r31) hE hM Za rfl rfl rfl ZG (Flat.len _) (zle flq) (Flat.cell _) (Zr flq) fun w a hM hE=>Zj (Zu (wp_seq ?_))
   obtain ⟨r38,e39,hF⟩:=bind_some hF
   obtain ⟨r40,e41,hF⟩:=bind_some hF
   refine Te (n:=59) (hd:=[_,_,_,_,_,_,_,_,_]) (tl:=[_]) YN rfl rfl [34,35,36,37,38,39,40,41,12] (by decide) (fun D u w=>M (Old w0) w0 w ([raw b35 (enc r31),raw b26 (enc r18),raw b24 (enc r16),raw b13 (enc r9.2),raw b11 (enc r9.1),raw b7 (enc (Vector.replicate 32 (0 : UInt8))),raw b5 (enc p2),raw b3 (enc p1),raw b1 (cat [[vI p0.Field],enc p0.Box,enc p0.Mix,enc p0.Places,[vI p0.Rounds]])] ++ qL ([mkO 8 (fun v=>UV v (enc (Vector.replicate 16 (0 : UInt8))))] : Mk) D u) ∧ GOk ([([],fun us v=>v = (Value.agg (enc p0).toArray)),([],fun us v=>v = (Value.agg (enc r31).toArray)),([],fun us v=>v = (Value.agg (enc r18).toArray)),([],fun us v=>v = (ptr b1 (0 + 289))),([],fun us v=>v = (vI p0.Rounds)),([],fun us v=>v = (Value.agg (enc r38).toArray)),([],fun us v=>v = (Value.agg (enc r18).toArray)),([],fun us v=>v = (Value.agg (enc r40).toArray)),([],fun us v=>True)] : Gs) D u) hE (fun u=>⟨M.qE (M.q0 hM.drew u) emO,HU⟩) (ZJ (Zb ?_ (Zb ?_ (Zb ?_ (Zb ?_ (Zb ?_ (Zb ?_ (Zb ?_ (Zb ?_ (Zb ?_ ZF)))))))))) ?_
   ·intro a w ux37 D hE hI hD hdc hp
    have hM0:=hI.1
    have hM:=hI.1
    exact Zo (cs:=enc p0) hE Za ld rfl UW rfl (hM.rawAt (pre:=[_,_,_,_,_,_,_,_])) (Zg (cl1 (n:=1) (m:=289) rfl (cl1 (n:=256) (m:=33) (Flat.len _) (cl1 (n:=16) (m:=17) (Flat.len _) (cl1 (n:=16) (m:=1) (Flat.len _) (cl1 (n:=1) (m:=0) rfl cl0)))))) fun a hE=>⟨_,_,rfl,hE,M.qKeep hM0 rfl,hI.2.put hD rfl Z4 rfl⟩
   ·intro a w ux37 D hE hI hD hdc hp
    have hM0:=hI.1
    have hM:=hI.1
    exact Zo (cs:=enc r31) hE Za ld rfl ZG rfl (hM.rawAt (pre:=[])) (Flat.len _) fun a hE=>⟨_,_,rfl,hE,M.qKeep hM0 rfl,hI.2.put hD rfl Z4 rfl⟩
   ·intro a w ux37 D hE hI hD hdc hp
    have hM0:=hI.1
    have hM:=hI.1
    exact Zo (cs:=enc r18) hE Za ld rfl ZG rfl (hM.rawAt (pre:=[_])) (Flat.len _) fun a hE=>⟨_,_,rfl,hE,M.qKeep hM0 rfl,hI.2.put hD rfl Z4 rfl⟩
   ·intro a w ux37 D hE hI hD hdc hp
    have hM0:=hI.1
    exact Zh hE Za ld rfl (Hx) fun a hE=>⟨_,_,rfl,hE,M.qKeep hM0 rfl,hI.2.put hD rfl Z4 rfl⟩
   ·intro a w ux37 D hE hI hD hdc hp
    have d3 : D 3 = true:=hp 0 _ rfl rfl
    have g3:=hI.2 3 d3 _ rfl
    have f3 : ux37 3 = (ptr b1 (0 + 289)):=g3.2
    have hM0:=hI.1
    have hM:=hI.1
    exact ZA (v:=(vI p0.Rounds)) hE Za ld (lk rfl f3) ty2 rfl (At.cat (pre:=[[vI p0.Field],enc p0.Box,enc p0.Mix,enc p0.Places]) (hM.rawAt (pre:=[_,_,_,_,_,_,_,_])) (cl1 (n:=1) (m:=288) rfl (cl1 (n:=256) (m:=32) (Flat.len _) (cl1 (n:=16) (m:=16) (Flat.len _) (cl1 (n:=16) (m:=0) (Flat.len _) cl0))))) fun a hE=>⟨_,_,rfl,hE,M.qKeep hM0 rfl,hI.2.put hD rfl Z4 rfl⟩
   ·intro a w ux37 D hE hI hD hdc hp
    have d0 : D 0 = true:=hp 0 _ rfl rfl
    have g0:=hI.2 0 d0 _ rfl
    have f0 : ux37 0 = (Value.agg (enc p0).toArray):=g0.2
    have d1 : D 1 = true:=hp 1 _ rfl rfl
    have g1:=hI.2 1 d1 _ rfl
    have f1 : ux37 1 = (Value.agg (enc r31).toArray):=g1.2
    have d2 : D 2 = true:=hp 2 _ rfl rfl
    have g2:=hI.2 2 d2 _ rfl
    have f2 : ux37 2 = (Value.agg (enc r18).toArray):=g2.2
    have d4 : D 4 = true:=hp 3 _ rfl rfl
    have g4:=hI.2 4 d4 _ rfl
    have f4 : ux37 4 = (vI p0.Rounds):=g4.2
    have hM0:=hI.1
    refine Zw hE Za ld (Z7 (Z2 (lk rfl f0) (Z2 (lk rfl f1) (Z2 (lk rfl f2) (Z2 (lk rfl f4) X8))))) cb168 (TG _ p0 r31 r18 p0.Rounds r38 e39) ?_
    rintro v w a ⟨rfl,hK⟩ hE
    exact ⟨_,_,rfl,hE,M.qKeep (hM0.keep hK) rfl,hI.2.put hD rfl Z4 rfl⟩
   ·intro a w ux37 D hE hI hD hdc hp
    have hM0:=hI.1
    have hM:=hI.1
    exact Zo (cs:=enc r18) hE Za ld rfl ZG rfl (hM.rawAt (pre:=[_])) (Flat.len _) fun a hE=>⟨_,_,rfl,hE,M.qKeep hM0 rfl,hI.2.put hD rfl Z4 rfl⟩
   ·intro a w ux37 D hE hI hD hdc hp
    have d5 : D 5 = true:=hp 0 _ rfl rfl
    have g5:=hI.2 5 d5 _ rfl
    have f5 : ux37 5 = (Value.agg (enc r38).toArray):=g5.2
    have d6 : D 6 = true:=hp 1 _ rfl rfl
    have g6:=hI.2 6 d6 _ rfl
    have f6 : ux37 6 = (Value.agg (enc r18).toArray):=g6.2
    have hM0:=hI.1
    refine Zw hE Za ld (Z7 (Z2 (lk rfl f5) (Z2 (lk rfl f6) X8))) Bk (VF _ r38 r18 r40 e41) ?_
    rintro v w a ⟨rfl,hK⟩ hE
    exact ⟨_,_,rfl,hE,M.qKeep (hM0.keep hK) rfl,hI.2.put hD rfl Z4 rfl⟩
   ·intro a w ux37 D hE hI hD hdc hp
    have hM0:=hI.1
    have hM:=hI.1
    refine ZH hE hM Za ld ZG ?_; intro b42 w a hM hE
    have hM:=hM.pack1 (it:=UV _ (enc (Vector.replicate 16 (0 : UInt8)))) (fun w w' fp ⟨b',e,k⟩ hb=>⟨b',e,X7 w w' fp k hb⟩) (fun fp k=>⟨_,rfl,k⟩)
    exact ⟨_,_,rfl,hE,M.qFill (mk1:=[]) (mk2:=[]) (f:=fun v=>UV v (enc (Vector.replicate 16 (0 : UInt8)))) hM rfl hD,hI.2.put hD rfl Z4 trivial⟩
   ·intro a w ux37 D hE hI hall
    have hM : M (Old w0) w0 w [raw b35 (enc r31),raw b26 (enc r18),raw b24 (enc r16),raw b13 (enc r9.2),raw b11 (enc r9.1),raw b7 (enc (Vector.replicate 32 (0 : UInt8))),raw b5 (enc p2),raw b3 (enc p1),raw b1 (cat [[vI p0.Field],enc p0.Box,enc p0.Mix,enc p0.Places,[vI p0.Rounds]]),opt (D 8) (UV (ux37 8) (enc (Vector.replicate 16 (0 : UInt8))))]:=hI.1
    have d0 : D 0 = true:=hall 0 (by decide)
    have d1 : D 1 = true:=hall 1 (by decide)
    have d2 : D 2 = true:=hall 2 (by decide)
    have d3 : D 3 = true:=hall 3 (by decide)
    have d4 : D 4 = true:=hall 4 (by decide)
    have d5 : D 5 = true:=hall 5 (by decide)
    have d6 : D 6 = true:=hall 6 (by decide)
    have d7 : D 7 = true:=hall 7 (by decide)
    have d8 : D 8 = true:=hall 8 (by decide)
    have f0 : ux37 0 = (Value.agg (enc p0).toArray):=(hI.2 0 d0 _ rfl).2
    have f1 : ux37 1 = (Value.agg (enc r31).toArray):=(hI.2 1 d1 _ rfl).2
    have f2 : ux37 2 = (Value.agg (enc r18).toArray):=(hI.2 2 d2 _ rfl).2
    have f3 : ux37 3 = (ptr b1 (0 + 289)):=(hI.2 3 d3 _ rfl).2
    have f4 : ux37 4 = (vI p0.Rounds):=(hI.2 4 d4 _ rfl).2
    have f5 : ux37 5 = (Value.agg (enc r38).toArray):=(hI.2 5 d5 _ rfl).2
    have f6 : ux37 6 = (Value.agg (enc r18).toArray):=(hI.2 6 d6 _ rfl).2
    have f7 : ux37 7 = (Value.agg (enc r40).toArray):=(hI.2 7 d7 _ rfl).2
    have hM:=(hM.sure (pre:=[_,_,_,_,_,_,_,_,_]) d8).pull
    obtain ⟨_,⟨b44,f45,_⟩,_⟩:=hM.head
    have hM:=hM.pack1 X7 (it:=raw b44 (enc (Vector.replicate 16 (0 : UInt8)))) (fun fp ⟨b2,e2,k2⟩=>by rw [f45] at e2; simp [ptr] at e2; subst e2; exact k2)
    have hE:=hE.sub (e':=[(41,(Value.agg (enc r40).toArray)),(12,(ptr b44 0)),(6,(ptr b7 0)),(11,(ptr b35 0))]) ⟨lk rfl f7,lk rfl f45,rfl,rfl,trivial⟩
    refine Zv (seg:=enc r40) (cs':=enc r40) hE hM Za rfl rfl rfl ZG (Flat.len _) (zle flq) (Flat.cell _) (Zr flq) fun w a hM hE=>Zj (Zu (Zc (YT (parts:=[]) (vs:=[]) (cs:=enc (Vector.replicate 32 (0 : UInt8))) hE Za ld rfl rfl Yi rfl ty5 Yw fun a hE=>ZH hE hM Za ld Yi fun b46 w a hM hE=>Zv (seg:=enc (Vector.replicate 32 (0 : UInt8))) (cs':=enc (Vector.replicate 32 (0 : UInt8))) hE hM Za rfl rfl rfl Yi (Flat.len _) (zle flq) (Flat.cell _) (Zr flq) fun w a hM hE=>Zf (wp_seq (Zc (Ze hE Za ld rfl fun a hE=>Zf ?_))))))
    obtain ⟨j48,hl49,hF50⟩:=bind_some hF
    refine ZL (fun a w=>Env 59 a [(6,(ptr b7 0)),(13,(ptr b46 0))] ∧ M (Old w0) w0 w [raw b46 (enc j48),raw b7 (enc (Vector.replicate 32 (0 : UInt8)))]) ?_ ?_
    ·skip
     refine wp_block ?_
     have hM:=M.fst (l:=[_,_,_,_]) ((((hM.pull (pre:=[_,_,_,_,_,_,_])).pull (pre:=[_,_,_])).pull (pre:=[_,_,_])).pull (pre:=[_,_,_]))
     refine ZC (fun (s51 : (Vector UInt8 32) × Int) a w=>Env 59 a [(6,(ptr b7 0)),(11,(ptr b35 0)),(12,(ptr b44 0)),(13,(ptr b46 0)),(14,vI s51.2)] ∧ M (Old w0) w0 w [raw b46 (enc s51.1),raw b44 (enc r40),raw b35 (enc r31),raw b7 (enc (Vector.replicate 32 (0 : UInt8)))]) hl49 ⟨hE.sub ⟨rfl,rfl,rfl,rfl,rfl,trivial⟩,hM⟩ ?_
     rintro s51 a w ⟨hE,hM⟩ o54 hs52 hx53
     unfold Xp at hs52
     refine wp_seq (Zc (Zd hE Za ld rfl fun a hE=>Zi hE Za ld rfl rfl rfl fun a hE=>Zf ?_))
     refine Zp hE rfl ?_ ?_
     ·intro hb55
      have hs52:=Zz hs52 hb55
      refine wp_skip (Zu (wp_seq (wp_block (Zc (Zd hE Za ld rfl fun a hE=>Zd hE Za ld rfl ?_))))); intro a hE
      obtain ⟨x57,hi56,hs52⟩:=bvx hs52
      refine Zk hE Za ld rfl rfl Tryz.underlying31 ty5 hi56.1 fun a hE=>ZA (v:=(vB x57)) hE Za ld rfl ty5 rfl (At.vec (hM.rawAt (pre:=[_,_])) hi56.2) ?_; intro a hE
      obtain ⟨x60,hi59,hs52⟩:=bvx hs52
      refine Zk hE Za ld rfl rfl Tryz.underlying37 ty5 hi59.1 fun a hE=>Zv (seg:=[vB x57]) (cs':=enc (s51.1.setIfInBounds (s51.2).toNat x57)) hE hM Za rfl rfl rfl ty5 rfl (ZM (v:=s51.1) (x:=x57) hi59.1) (Flat.cell (x57 : UInt8)) (ZD (v:=s51.1) (x:=x57) hi59.1) fun w a hM hE=>Zf (wp_region_lit (Zd hE Za ld rfl fun a hE=>Zi hE Za ld rfl rfl rfl fun a hE=>Zd hE Za ld rfl ?_)); intro a hE
      obtain ⟨x63,hi62,hs52⟩:=bvx hs52
      refine Zk hE Za ld rfl rfl Tryz.underlying31 ty5 hi62.1 fun a hE=>ZA (v:=(vB x63)) hE Za ld rfl ty5 rfl (At.vec (hM.rawAt (pre:=[_])) hi62.2) ?_; intro a hE
      obtain ⟨x66,hi65,hs52⟩:=bvx hs52
      refine Zk hE Za ld rfl rfl Tryz.underlying37 ty5 hi65.1 fun a hE=>Zv (seg:=[vB x63]) (cs':=enc ((s51.1.setIfInBounds (s51.2).toNat x57).setIfInBounds ((wr (16 + s51.2))).toNat x63)) hE hM Za rfl rfl rfl ty5 rfl (ZM (v:=(s51.1.setIfInBounds (s51.2).toNat x57)) (x:=x63) hi65.1) (Flat.cell (x63 : UInt8)) (ZD (v:=(s51.1.setIfInBounds (s51.2).toNat x57)) (x:=x63) hi65.1) fun w a hM hE=>Zj (ZZ (Zu (wp_region_lit (Zd hE Za ld rfl fun a hE=>Zi hE Za ld rfl rfl rfl fun a hE=>Ze hE Za ld rfl fun a hE=>Zj (Zl ?_)))))
      exact ⟨_,(ois hs52),hE.sub ⟨rfl,rfl,rfl,rfl,rfl,trivial⟩,hM⟩
     ·intro hb55
      have hs52:=Zy hs52 hb55
      refine wp_exit (Zm (Zm (Z0 ?_)))
      have ht68:=hx53 _ (ois hs52)
      subst ht68
      refine Zl ?_
      have hM:=M.fst (l:=[_,_]) ((hM.pull (pre:=[_,_,_])).pull (pre:=[_]))
      exact ⟨hE.sub ⟨rfl,rfl,trivial⟩,hM⟩
    ·skip
     rintro a w ⟨hE,hM⟩
     refine Zu (Zc (Zo (cs:=enc j48) hE Za ld rfl Yi rfl (hM.rawAt (pre:=[])) (Flat.len _) ?_)); intro a hE
     have hM:=hM.pull (pre:=[_])
     refine Zv (seg:=enc j48) (cs':=enc j48) hE hM Za rfl rfl rfl Yi (Flat.len _) (zle flq) (Flat.cell _) (Zr flq) fun w a hM hE=>Zf ?_
     have hr:=Option.some.inj hF50
     subst hr
     have hq69 : Yx Tryz.prog _ _ (.cell 6 37) _:=ZR hE rfl Yi rfl (hM.rawAt (pre:=[])) (Flat.len _) rfl
     have hM:=M.fst (l:=[]) hM
     exact wp_ret (Zt hE rfl hq69 ⟨_,rfl,rfl,hM.kept⟩)
def VE (p0 : GCipher) (r8 : (List (Vector UInt8 16))) (s18 : (Vector UInt8 32) × Int) : Option (Fl ((Vector UInt8 32) × Int) (Vector UInt8 32)) :=
 if (decide (s18.2 < (r8.length : Int))) = true then ((idx r8 s18.2).bind fun x24=>(XO p0 s18.1 x24).bind fun r27=>some (Fl.nx (r27,wr (s18.2 + 1)))) else (some (Fl.ex s18.1))
def Vg (p0 : GCipher) (p1 : (List UInt8)) : Option ((Vector UInt8 32)) :=
 (Uy p1).bind fun r5=>(WT r5).bind fun r8=>(Vs).bind fun r11=>(ZE (VE p0 r8) (r11,0)).bind fun j15=>some j15
theorem KB (w0 : World) (p0 : GCipher) (p1 : (List UInt8)) (v1_1 : Value) (hv1_1 : Ro w0 p1 [v1_1]) (r : (Vector UInt8 32)) (hF : Vg p0 p1 = some r) :
  Calls Tryz.prog 122 [(Value.agg (enc p0).toArray),v1_1].toArray w0 (fun en w'=>∃ v,en = .returned v ∧ (v = (Value.agg (enc r).toArray) ∧ Kept (Old w0) w0 w')):=by
 refine ZB (n:=26) Tryz.func122 rfl rfl (nbl rfl) rfl ?_
 intro a hE
 have hM:=M.start w0
 unfold Vg at hF
 refine Zc (ZT (cs:=cat [[vI p0.Field],enc p0.Box,enc p0.Mix,enc p0.Places,[vI p0.Rounds]]) hE hM Za ld rfl rfl fun b1 w a hM hE=>ZH hE hM Za ld Yi fun b3 w a hM hE=>Zf (Zc (Zd hE Za ld rfl ?_))); intro a hE
 obtain ⟨r5,e6,hF⟩:=bind_some hF
 refine Zw hE Za ld rfl cb149 (HX _ p1 v1_1 (hM.rdo hv1_1) r5 e6) ?_
 rintro u7 w a ⟨_,rfl,hFr,hK⟩ hE
 have hM:=hM.add hK hFr
 obtain ⟨r8,e9,hF⟩:=bind_some hF
 refine Zw hE Za ld rfl cb148 (KY _ r5 u7 (hM.sl (pre:=[]) noB) r8 e9) ?_
 rintro u10 w a ⟨_,rfl,hFr,hK⟩ hE
 have hM:=hM.add hK hFr
 obtain ⟨r11,e12,hF⟩:=bind_some hF
 refine Zw hE Za ld rfl cb150 (JG _  r11 e12) ?_
 rintro v w a ⟨rfl,hK⟩ hE
 have hM:=hM.keep hK
 refine ZH hE hM Za ld Yi fun b13 w a hM hE=>Ze hE Za ld rfl fun a hE=>Zv (seg:=enc r11) (cs':=enc r11) hE hM Za rfl rfl rfl Yi (Flat.len _) (zle flq) (Flat.cell _) (Zr flq) fun w a hM hE=>Zf (wp_seq (Zc (Ze hE Za ld rfl fun a hE=>Zf ?_)))
 obtain ⟨j15,hl16,hF17⟩:=bind_some hF
 refine ZL (fun a w=>Env 26 a [(4,(ptr b3 0)),(6,(ptr b13 0))] ∧ M (Old w0) w0 w [raw b13 (enc j15),raw b3 (enc (Vector.replicate 32 (0 : UInt8)))]) ?_ ?_
 ·skip
  refine wp_block ?_
  have hM:=M.fst (l:=[_,_,_,_]) ((((hM.pull (pre:=[_,_,_,_])).pull (pre:=[_,_,_,_])).pull (pre:=[_,_,_])).pull (pre:=[_,_,_]))
  refine ZC (fun (s18 : (Vector UInt8 32) × Int) a w=>Env 26 a [(2,(ptr b1 0)),(4,(ptr b3 0)),(5,u10),(6,(ptr b13 0)),(7,vI s18.2)] ∧ M (Old w0) w0 w [raw b13 (enc s18.1),osl NoB (r8 : List (Vector UInt8 16)) u10,raw b3 (enc (Vector.replicate 32 (0 : UInt8))),raw b1 (cat [[vI p0.Field],enc p0.Box,enc p0.Mix,enc p0.Places,[vI p0.Rounds]])]) hl16 ⟨hE.sub ⟨rfl,rfl,rfl,rfl,rfl,trivial⟩,hM⟩ ?_
  rintro s18 a w ⟨hE,hM⟩ o21 hs19 hx20
  unfold VE at hs19
  refine wp_seq (Zc (Zd hE Za ld rfl fun a hE=>Zd hE Za ld rfl fun a hE=>Yf hE Za ld rfl Tryz.underlying33 (hM.sl (pre:=[_]) noB) fun a hE=>Zi hE Za ld rfl rfl rfl fun a hE=>Zf ?_))
  refine Zp hE rfl ?_ ?_
  ·intro hb22
   have hs19:=Zz hs19 hb22
   refine wp_skip (Zu (wp_seq (wp_block ?_)))
   obtain ⟨x24,hi26,hs19⟩:=bix hs19
   obtain ⟨r27,e28,hs19⟩:=bind_some hs19
   refine Yg (n:=26) (hd:=[_,_,_,_,_,_,_]) (tl:=[_]) YN rfl rfl [18,19,20,21,22,23,24] (by decide) (fun w=>M (Old w0) w0 w [raw b13 (enc s18.1),osl NoB (r8 : List (Vector UInt8 16)) u10,raw b3 (enc (Vector.replicate 32 (0 : UInt8))),raw b1 (cat [[vI p0.Field],enc p0.Box,enc p0.Mix,enc p0.Places,[vI p0.Rounds]])]) (fun j=>([fun v _=>v = (Value.agg (enc p0).toArray),fun v _=>v = (Value.agg (enc s18.1).toArray),fun v _=>v = u10,fun v _=>v = (vI s18.2),fun v _=>v = (ptr (sb u10) (so u10 + (s18.2).toNat * 16)),fun v _=>v = (Value.agg (enc x24).toArray),fun v _=>v = (Value.agg (enc r27).toArray)] : List (Value → World → Prop)).getD j (fun _ _=>True)) (fun _ _ h hk=>h.keep hk) (gup (Zn (Zn (Zn (Zn (Zn (Zn (Zn Vb)))))))) hE hM.drew (ZJ (Zb ?_ (Zb ?_ (Zb ?_ (Zb ?_ (Zb ?_ (Zb ?_ (Zb ?_ ZF)))))))) ?_
   ·exact fun a w ux23 hE hM hp=>Zo (cs:=enc p0) hE Za ld rfl UW rfl (hM.rawAt (pre:=[_,_,_])) (Zg (cl1 (n:=1) (m:=289) rfl (cl1 (n:=256) (m:=33) (Flat.len _) (cl1 (n:=16) (m:=17) (Flat.len _) (cl1 (n:=16) (m:=1) (Flat.len _) (cl1 (n:=1) (m:=0) rfl cl0)))))) fun a hE=>⟨Kept.refl _ _,_,_,rfl,hE,rfl⟩
   ·exact fun a w ux23 hE hM hp=>Zo (cs:=enc s18.1) hE Za ld rfl Yi rfl (hM.rawAt (pre:=[])) (Flat.len _) fun a hE=>⟨Kept.refl _ _,_,_,rfl,hE,rfl⟩
   ·exact fun a w ux23 hE hM hp=>Zd hE Za ld rfl fun a hE=>⟨Kept.refl _ _,_,_,rfl,hE,rfl⟩
   ·exact fun a w ux23 hE hM hp=>Zd hE Za ld rfl fun a hE=>⟨Kept.refl _ _,_,_,rfl,hE,rfl⟩
   ·intro a w ux23 hE hM hp
    have f2 : ux23 2 = u10:=hp 0 _ rfl rfl
    have f3 : ux23 3 = (vI s18.2):=hp 1 _ rfl rfl
    exact ZK hE Za ld (lk rfl f2) (lk rfl f3) Tryz.underlying33 ZG (hM.sl (pre:=[_]) noB) hi26.1 fun a hE=>⟨Kept.refl _ _,_,_,rfl,hE,rfl⟩
   ·intro a w ux23 hE hM hp
    have f4 : ux23 4 = (ptr (sb u10) (so u10 + (s18.2).toNat * 16)):=hp 0 _ rfl rfl
    exact Zo (cs:=enc x24) hE Za ld (lk rfl f4) ZG rfl (Xc (hM.sl (pre:=[_]) noB) hi26.2) (Flat.len _) fun a hE=>⟨Kept.refl _ _,_,_,rfl,hE,rfl⟩
   ·intro a w ux23 hE hM hp
    have f0 : ux23 0 = (Value.agg (enc p0).toArray):=hp 0 _ rfl rfl
    have f1 : ux23 1 = (Value.agg (enc s18.1).toArray):=hp 1 _ rfl rfl
    have f5 : ux23 5 = (Value.agg (enc x24).toArray):=hp 2 _ rfl rfl
    refine Zw hE Za ld (Z7 (Z2 (lk rfl f0) (Z2 (lk rfl f1) (Z2 (lk rfl f5) X8)))) cb151 (KW _ p0 s18.1 x24 r27 e28) ?_
    rintro v w a ⟨rfl,hK⟩ hE
    exact ⟨hK,_,_,rfl,hE,rfl⟩
   ·intro a w ux23 hE hM hg
    have hE:=hE.sub (e':=[(24,(Value.agg (enc r27).toArray)),(2,(ptr b1 0)),(4,(ptr b3 0)),(5,u10),(6,(ptr b13 0)),(7,vI s18.2),(12,vI s18.2),(13,u10),(14,(vI (r8.length : Int))),(15,(vT (decide (s18.2 < (r8.length : Int)))))]) ⟨lk rfl (hg 6 (by decide)),rfl,rfl,rfl,rfl,rfl,rfl,rfl,rfl,rfl,trivial⟩
    refine Zv (seg:=enc r27) (cs':=enc r27) hE hM Za rfl rfl rfl Yi (Flat.len _) (zle flq) (Flat.cell _) (Zr flq) fun w a hM hE=>Zj (ZZ (Zu (wp_region_lit (Zd hE Za ld rfl fun a hE=>Zi hE Za ld rfl rfl rfl fun a hE=>Ze hE Za ld rfl fun a hE=>Zj (Zl ?_)))))
    exact ⟨_,(ois hs19),hE.sub ⟨rfl,rfl,rfl,rfl,rfl,trivial⟩,hM⟩
  ·intro hb22
   have hs19:=Zy hs19 hb22
   refine wp_exit (Zm (Zm (Z0 ?_)))
   have ht29:=hx20 _ (ois hs19)
   subst ht29
   refine Zl ?_
   have hM:=M.fst (l:=[_,_]) ((hM.pull (pre:=[_,_])).pull (pre:=[_]))
   exact ⟨hE.sub ⟨rfl,rfl,trivial⟩,hM⟩
 ·skip
  rintro a w ⟨hE,hM⟩
  refine Zu (Zc (Zo (cs:=enc j15) hE Za ld rfl Yi rfl (hM.rawAt (pre:=[])) (Flat.len _) ?_)); intro a hE
  have hM:=hM.pull (pre:=[_])
  refine Zv (seg:=enc j15) (cs':=enc j15) hE hM Za rfl rfl rfl Yi (Flat.len _) (zle flq) (Flat.cell _) (Zr flq) fun w a hM hE=>Zf ?_
  have hr:=Option.some.inj hF17
  subst hr
  have hq30 : Yx Tryz.prog _ _ (.cell 4 37) _:=ZR hE rfl Yi rfl (hM.rawAt (pre:=[])) (Flat.len _) rfl
  have hM:=M.fst (l:=[]) hM
  exact wp_ret (Zt hE rfl hq30 ⟨_,rfl,rfl,hM.kept⟩)
def WO (p0 : (Vector UInt8 32)) (s10 : (List UInt8) × Int) : Option (Fl ((List UInt8) × Int) (List UInt8)) :=
 if (decide (s10.2 < 32)) = true then ((ZI p0 s10.2).bind fun x18=>(app 1 s10.1 ([x18] : List UInt8)).bind fun l22=>some (Fl.nx ((s10.1 ++ ([x18] : List UInt8)),wr (s10.2 + 1)))) else (some (Fl.ex s10.1))
def Wi (p0 : (Vector UInt8 32)) : Option ((List UInt8)) :=
 (ZE (WO p0) (([] : List UInt8),0)).bind fun j5=>some j5
theorem Qd (w0 : World) (p0 : (Vector UInt8 32)) (r : (List UInt8)) (hF : Wi p0 = some r) :
  Calls Tryz.prog 156 [(Value.agg (enc p0).toArray)].toArray w0 (fun en w'=>∃ v,en = .returned v ∧ (∃ (y1 : Value),v = y1 ∧ Fr w0 w' [osl NoB (r : List UInt8) y1] ∧ Kept (Old w0) w0 w')):=by
 refine ZB (n:=17) Tryz.func156 rfl rfl (nbl rfl) rfl ?_
 intro a hE
 have hM:=M.start w0
 unfold Wi at hF
 refine Zc (ZT (cs:=enc p0) hE hM Za ld rfl rfl fun b1 w a hM hE=>Ze hE Za ld rfl fun a hE=>Zf (Zc (Yj (xs:=[]) (l:=([] : List UInt8)) (vs:=[]) hE hM Za ld rfl rfl Tryz.underlying32 ty5 rfl (by decide) rfl fun u3 w a hM hE=>Ze hE Za ld rfl fun a hE=>Zf (wp_seq (Zc (Ze hE Za ld rfl fun a hE=>Zf ?_))))))
 obtain ⟨j5,hl6,hF7⟩:=bind_some hF
 refine ZL (fun a w=>∃ (u8 : Value),Env 17 a [(3,u8)] ∧ M (Old w0) w0 w [osl NoB (j5 : List UInt8) u8]) ?_ ?_
 ·skip
  refine wp_block ?_
  have hM:=hM.pull (pre:=[_])
  refine ZC (fun (s10 : (List UInt8) × Int) a w=>∃ (u11 : Value),Env 17 a [(1,(ptr b1 0)),(3,u11),(4,vI s10.2)] ∧ M (Old w0) w0 w [raw b1 (enc p0),osl NoB (s10.1 : List UInt8) u11]) hl6 ⟨u3,hE.sub ⟨rfl,rfl,rfl,trivial⟩,hM⟩ ?_
  rintro s10 a w ⟨u11,hE,hM⟩ o15 hs13 hx14
  unfold WO at hs13
  refine wp_seq (Zc (Zd hE Za ld rfl fun a hE=>Zi hE Za ld rfl rfl rfl fun a hE=>Zf ?_))
  refine Zp hE rfl ?_ ?_
  ·intro hb16
   have hs13:=Zz hs13 hb16
   refine wp_skip (Zu (wp_seq (wp_block (wp_region_lit (Zd hE Za ld rfl fun a hE=>Zd hE Za ld rfl ?_))))); intro a hE
   obtain ⟨x18,hi17,hs13⟩:=bvx hs13
   refine Zk hE Za ld rfl rfl Tryz.underlying37 ty5 hi17.1 fun a hE=>ZA (v:=(vB x18)) hE Za ld rfl ty5 rfl (At.vec (hM.rawAt (pre:=[])) hi17.2) fun a hE=>Yj (xs:=[.tmp 13]) (l:=([x18] : List UInt8)) (vs:=[vB x18]) hE hM Za ld rfl rfl Tryz.underlying32 ty5 rfl (by decide) rfl ?_; intro u20 w a hM hE
   obtain ⟨l22,e23,hs13⟩:=bind_some hs13
   obtain ⟨e26,rfl⟩:=Y2 e23
   have hM:=hM.pull (pre:=[_,_])
   refine YA hE hM Za ld rfl rfl (hM.sl (pre:=[_]) noB) Tryz.underlying32 ty5 rfl (by decide) e26 fun u24 w a hM hE=>Ze hE Za ld rfl fun a hE=>Zj (ZZ (Zu (wp_region_lit (Zd hE Za ld rfl fun a hE=>Zi hE Za ld rfl rfl rfl fun a hE=>Ze hE Za ld rfl fun a hE=>Zj (Zl ?_)))))
   have hM:=M.fst (l:=[_,_]) (hM.pull (pre:=[_,_]))
   exact ⟨_,(ois hs13),u24,hE.sub ⟨rfl,rfl,rfl,trivial⟩,hM⟩
  ·intro hb16
   have hs13:=Zy hs13 hb16
   refine wp_exit (Zm (Zm (Z0 ?_)))
   have ht27:=hx14 _ (ois hs13)
   subst ht27
   refine Zl ?_
   have hM:=M.fst (l:=[_]) (hM.pull (pre:=[_]))
   exact ⟨u11,hE.sub ⟨rfl,trivial⟩,hM⟩
 ·skip
  rintro a w ⟨u8,hE,hM⟩
  refine Zu (Zc (Zd hE Za ld rfl fun a hE=>Ze hE Za ld rfl fun a hE=>Zf ?_))
  have hr:=Option.some.inj hF7
  subst hr
  exact wp_ret (Zt hE rfl (Zs hE rfl) ⟨_,rfl,u8,rfl,hM.outF (YL VT),hM.kept⟩)
def V5 (p0 : Int) : Option ((List UInt8)) :=
 some ([Zx (Tq (Uu p0 24) 255),Zx (Tq (Uu p0 16) 255),Zx (Tq (Uu p0 8) 255),Zx (Tq p0 255)] : List UInt8)
theorem Ho (w0 : World) (p0 : Int) (r : (List UInt8)) (hF : V5 p0 = some r) :
  Calls Tryz.prog 157 [vI p0].toArray w0 (fun en w'=>∃ v,en = .returned v ∧ (∃ (y1 : Value),v = y1 ∧ Fr w0 w' [osl NoB (r : List UInt8) y1] ∧ Kept (Old w0) w0 w')):=by
 refine ZB (n:=19) Tryz.func157 rfl rfl (nbl rfl) rfl ?_
 intro a hE
 have hM:=M.start w0
 unfold V5 at hF
 refine Zc (Ze hE Za ld rfl fun a hE=>Zf (Zc (Zd hE Za ld rfl fun a hE=>Jg hE Za ld rfl rfl (Kc _ _ (by decide)) fun a hE=>Zi hE Za ld rfl rfl rfl fun a hE=>Yb hE Za ld rfl Tryz.underlying2 Tryz.underlying5 ?_))); intro a hE
 rw [ZN] at hE
 refine Zd hE Za ld rfl fun a hE=>Jg hE Za ld rfl rfl (Kc _ _ (by decide)) fun a hE=>Zi hE Za ld rfl rfl rfl fun a hE=>Yb hE Za ld rfl Tryz.underlying2 Tryz.underlying5 ?_; intro a hE
 rw [ZN] at hE
 refine Zd hE Za ld rfl fun a hE=>Jg hE Za ld rfl rfl (Kc _ _ (by decide)) fun a hE=>Zi hE Za ld rfl rfl rfl fun a hE=>Yb hE Za ld rfl Tryz.underlying2 Tryz.underlying5 ?_; intro a hE
 rw [ZN] at hE
 refine Zd hE Za ld rfl fun a hE=>Zi hE Za ld rfl rfl rfl fun a hE=>Yb hE Za ld rfl Tryz.underlying2 Tryz.underlying5 ?_; intro a hE
 rw [ZN] at hE
 refine Yj (xs:=[.tmp 6,.tmp 10,.tmp 14,.tmp 17]) (l:=([Zx (Tq (Uu p0 24) 255),Zx (Tq (Uu p0 16) 255),Zx (Tq (Uu p0 8) 255),Zx (Tq p0 255)] : List UInt8)) (vs:=[(vB (Zx (Tq (Uu p0 24) 255))),(vB (Zx (Tq (Uu p0 16) 255))),(vB (Zx (Tq (Uu p0 8) 255))),(vB (Zx (Tq p0 255)))]) hE hM Za ld rfl rfl Tryz.underlying32 ty5 rfl (by decide) rfl fun u1 w a hM hE=>Ze hE Za ld rfl fun a hE=>Zf ?_
 have hr:=Option.some.inj hF
 subst hr
 exact wp_ret (Zt hE rfl (Zs hE rfl) ⟨_,rfl,u1,rfl,hM.outF (YL VT),hM.kept⟩)
def VX (p0 : (Vector UInt8 32)) (p1 : GEvent) : Option ((Vector UInt8 32)) :=
 ((Wi p0).bind fun r13=>(app 1 r13 ([Zx p1.Kind] : List UInt8)).bind fun l18=>some (r13 ++ ([Zx p1.Kind] : List UInt8)) : Option ((List UInt8))).bind fun j7=>(V5 p1.Number).bind fun r24=>(app 1 j7 r24).bind fun l27=>((XL).bind fun r36=>(Wi p1.Tag).bind fun r38=>(app 1 (j7 ++ r24) r38).bind fun l41=>(Vg r36 ((j7 ++ r24) ++ r38)).bind fun r46=>some r46 : Option ((Vector UInt8 32))).bind fun j32=>some j32
theorem HH (w0 : World) (p0 : (Vector UInt8 32)) (p1 : GEvent) (r : (Vector UInt8 32)) (hF : VX p0 p1 = some r) :
  Calls Tryz.prog 138 [(Value.agg (enc p0).toArray),(Value.agg (enc p1).toArray)].toArray w0 (fun en w'=>∃ v,en = .returned v ∧ (v = (Value.agg (enc r).toArray) ∧ Kept (Old w0) w0 w')):=by
 refine ZB (n:=25) Tryz.func138 rfl rfl (nbl rfl) rfl ?_
 intro a hE
 have hM:=M.start w0
 unfold VX at hF
 refine Zc (ZT (cs:=enc p0) hE hM Za ld rfl rfl fun b1 w a hM hE=>ZT (cs:=cat [[vI p1.Kind],[vI p1.Number],enc p1.Tag]) hE hM Za ld rfl rfl fun b3 w a hM hE=>ZH hE hM Za ld Yi fun b5 w a hM hE=>Zf ?_)
 obtain ⟨j7,hl8,hF9⟩:=bind_some hF
 refine ZQ (fun a w=>∃ (u10 : Value),Env 25 a [(3,(ptr b3 0)),(4,(ptr b5 0)),(5,u10)] ∧ M (Old w0) w0 w [raw b5 (enc (Vector.replicate 32 (0 : UInt8))),raw b3 (cat [[vI p1.Kind],[vI p1.Number],enc p1.Tag]),osl NoB (j7 : List UInt8) u10]) ?_ ?_
 ·skip
  obtain ⟨r13,e14,hl8⟩:=bind_some hl8
  refine QF (n:=25) (hd:=[_,_,_,_,_,_]) (tl:=[_,_]) (its:=[raw b5 (enc (Vector.replicate 32 (0 : UInt8))),raw b3 (cat [[vI p1.Kind],[vI p1.Number],enc p1.Tag]),raw b1 (enc p0)]) YN rfl rfl [6,7,8,9,10,11] (by decide) [(1,fun v=>osl NoB (r13 : List UInt8) v),(5,fun v=>osl NoB (([Zx p1.Kind] : List UInt8) : List UInt8) v)] rfl (fun j=>([fun v=>v = (Value.agg (enc p0).toArray),fun v=>True,fun v=>v = (ptr b3 (0 + 0)),fun v=>v = (vI p1.Kind),fun v=>v = (vB (Zx p1.Kind)),fun v=>True] : List (Value → Prop)).getD j (fun _=>True)) hE hM.drew (ZJ (Zb ?_ (Zb ?_ (Zb ?_ (Zb ?_ (Zb ?_ (Zb ?_ ZF))))))) ?_
  ·intro a w ux12 D hE hM hD hp
   have hM0:=hM
   have hM : M (Old w0) w0 w [raw b5 (enc (Vector.replicate 32 (0 : UInt8))),raw b3 (cat [[vI p1.Kind],[vI p1.Number],enc p1.Tag]),raw b1 (enc p0),opt (D 1) (osl NoB (r13 : List UInt8) (ux12 1)),opt (D 5) (osl NoB (([Zx p1.Kind] : List UInt8) : List UInt8) (ux12 5))]:=hM
   exact Zo (cs:=enc p0) hE Za ld rfl Yi rfl (hM.rawAt (pre:=[_,_])) (Flat.len _) fun a hE=>⟨_,_,rfl,hE,rfl,hM0.optKeep rfl⟩
  ·intro a w ux12 D hE hM hD hp
   have f0 : ux12 0 = (Value.agg (enc p0).toArray):=(hp 0 _ rfl rfl).2
   have hM0:=hM
   have hM : M (Old w0) w0 w [raw b5 (enc (Vector.replicate 32 (0 : UInt8))),raw b3 (cat [[vI p1.Kind],[vI p1.Number],enc p1.Tag]),raw b1 (enc p0),opt (D 1) (osl NoB (r13 : List UInt8) (ux12 1)),opt (D 5) (osl NoB (([Zx p1.Kind] : List UInt8) : List UInt8) (ux12 5))]:=hM
   refine Zw hE Za ld (Z7 (Z2 (lk rfl f0) X8)) cb156 (Qd _ p0 r13 e14) ?_
   rintro _ w a ⟨_,rfl,hFr,hK⟩ hE
   have hM:=hM0.add hK hFr
   exact ⟨_,_,rfl,hE,trivial,M.optFill (mk1:=[]) (mk2:=[_]) (f:=(fun v=>osl NoB (r13 : List UInt8) v)) hM rfl hD⟩
  ·intro a w ux12 D hE hM hD hp
   have hM0:=hM
   exact Zh hE Za ld rfl (QC) fun a hE=>⟨_,_,rfl,hE,rfl,hM0.optKeep rfl⟩
  ·intro a w ux12 D hE hM hD hp
   have f2 : ux12 2 = (ptr b3 (0 + 0)):=(hp 0 _ rfl rfl).2
   have hM0:=hM
   have hM : M (Old w0) w0 w [raw b5 (enc (Vector.replicate 32 (0 : UInt8))),raw b3 (cat [[vI p1.Kind],[vI p1.Number],enc p1.Tag]),raw b1 (enc p0),opt (D 1) (osl NoB (r13 : List UInt8) (ux12 1)),opt (D 5) (osl NoB (([Zx p1.Kind] : List UInt8) : List UInt8) (ux12 5))]:=hM
   exact ZA (v:=(vI p1.Kind)) hE Za ld (lk rfl f2) ty2 rfl (At.cat (pre:=[]) (hM.rawAt (pre:=[_])) cl0) fun a hE=>⟨_,_,rfl,hE,rfl,hM0.optKeep rfl⟩
  ·intro a w ux12 D hE hM hD hp
   have f3 : ux12 3 = (vI p1.Kind):=(hp 0 _ rfl rfl).2
   have hM0:=hM
   refine Yb hE Za ld (lk rfl f3) Tryz.underlying2 Tryz.underlying5 ?_; intro a hE
   rw [ZN] at hE
   exact ⟨_,_,rfl,hE,rfl,hM0.optKeep rfl⟩
  ·intro a w ux12 D hE hM hD hp
   have f4 : ux12 4 = (vB (Zx p1.Kind)):=(hp 0 _ rfl rfl).2
   have hM0:=hM
   have hM : M (Old w0) w0 w [raw b5 (enc (Vector.replicate 32 (0 : UInt8))),raw b3 (cat [[vI p1.Kind],[vI p1.Number],enc p1.Tag]),raw b1 (enc p0),opt (D 1) (osl NoB (r13 : List UInt8) (ux12 1)),opt (D 5) (osl NoB (([Zx p1.Kind] : List UInt8) : List UInt8) (ux12 5))]:=hM
   exact Yj (xs:=[.tmp 10]) (l:=([Zx p1.Kind] : List UInt8)) (vs:=[(vB (Zx p1.Kind))]) hE hM Za ld (Z7 (Z2 (lk rfl f4) X8)) rfl Tryz.underlying32 ty5 rfl (by decide) rfl fun u16 w a hM hE=>⟨_,_,rfl,hE,trivial,M.optFill (mk1:=[_]) (mk2:=[]) (f:=(fun v=>osl NoB (([Zx p1.Kind] : List UInt8) : List UInt8) v)) hM rfl hD⟩
  ·intro a w ux12 hE hM hg
   have hM : M (Old w0) w0 w [raw b5 (enc (Vector.replicate 32 (0 : UInt8))),raw b3 (cat [[vI p1.Kind],[vI p1.Number],enc p1.Tag]),raw b1 (enc p0),osl NoB (r13 : List UInt8) (ux12 1),osl NoB (([Zx p1.Kind] : List UInt8) : List UInt8) (ux12 5)]:=hM
   have hE:=hE.sub (e':=[(7,(ux12 1)),(11,(ux12 5)),(3,(ptr b3 0)),(4,(ptr b5 0))]) ⟨rfl,rfl,rfl,rfl,trivial⟩
   obtain ⟨l18,e19,hl8⟩:=bind_some hl8
   obtain ⟨e22,rfl⟩:=Y2 e19
   have hM:=hM.pull (pre:=[_,_,_])
   refine YA hE hM Za ld rfl rfl (hM.sl (pre:=[_,_,_,_]) noB) Tryz.underlying32 ty5 rfl (by decide) e22 fun u20 w a hM hE=>Ze hE Za ld rfl fun a hE=>Zj ?_
   have ht23:=Option.some.inj hl8
   subst ht23
   refine Zl ?_
   have hM:=M.fst (l:=[_,_,_]) ((hM.pull (pre:=[_,_])).pull (pre:=[_,_]))
   exact ⟨u20,hE.sub ⟨rfl,rfl,rfl,trivial⟩,hM⟩
 ·skip
  rintro a w ⟨u10,hE,hM⟩
  refine Zc (Zd hE Za ld rfl fun a hE=>Zh hE Za ld rfl (QJ) fun a hE=>ZA (v:=(vI p1.Number)) hE Za ld rfl ty2 rfl (At.cat (pre:=[[vI p1.Kind]]) (hM.rawAt (pre:=[_])) (cl1 (n:=1) (m:=0) rfl cl0)) ?_); intro a hE
  obtain ⟨r24,e25,hF9⟩:=bind_some hF9
  refine Zw hE Za ld rfl cb157 (Ho _ p1.Number r24 e25) ?_
  rintro u26 w a ⟨_,rfl,hFr,hK⟩ hE
  have hM:=hM.add hK hFr
  obtain ⟨l27,e28,hF9⟩:=bind_some hF9
  obtain ⟨e31,rfl⟩:=Y2 e28
  have hM:=hM.pull (pre:=[_,_,_])
  refine YA hE hM Za ld rfl rfl (hM.sl (pre:=[_]) noB) Tryz.underlying32 ty5 rfl (by decide) e31 fun u29 w a hM hE=>Ze hE Za ld rfl fun a hE=>Zf ?_
  obtain ⟨j32,hl33,hF34⟩:=bind_some hF9
  refine ZQ (fun a w=>Env 25 a [(4,(ptr b5 0))] ∧ M (Old w0) w0 w [raw b5 (enc j32)]) ?_ ?_
  ·skip
   obtain ⟨r36,e37,hl33⟩:=bind_some hl33
   obtain ⟨r38,e39,hl33⟩:=bind_some hl33
   refine QF (n:=25) (hd:=[_,_,_,_,_]) (tl:=[_,_,_]) (its:=[osl NoB ((j7 ++ r24) : List UInt8) u29,osl NoB (r24 : List UInt8) u26,raw b5 (enc (Vector.replicate 32 (0 : UInt8))),raw b3 (cat [[vI p1.Kind],[vI p1.Number],enc p1.Tag])]) YN rfl rfl [18,19,20,21,22] (by decide) [(4,fun v=>osl NoB (r38 : List UInt8) v)] rfl (fun j=>([fun v=>v = (Value.agg (enc r36).toArray),fun v=>v = u29,fun v=>v = (ptr b3 (0 + 2)),fun v=>v = (Value.agg (enc p1.Tag).toArray),fun v=>True] : List (Value → Prop)).getD j (fun _=>True)) hE hM.drew (ZJ (Zb ?_ (Zb ?_ (Zb ?_ (Zb ?_ (Zb ?_ ZF)))))) ?_
   ·intro a w ux35 D hE hM hD hp
    have hM0:=hM
    refine Zw hE Za ld rfl cb137 (TP _  r36 e37) ?_
    rintro v w a ⟨rfl,hK⟩ hE
    exact ⟨_,_,rfl,hE,rfl,(hM0.keep hK).optKeep rfl⟩
   ·intro a w ux35 D hE hM hD hp
    have hM0:=hM
    exact Zd hE Za ld rfl fun a hE=>⟨_,_,rfl,hE,rfl,hM0.optKeep rfl⟩
   ·intro a w ux35 D hE hM hD hp
    have hM0:=hM
    exact Zh hE Za ld rfl (QD) fun a hE=>⟨_,_,rfl,hE,rfl,hM0.optKeep rfl⟩
   ·intro a w ux35 D hE hM hD hp
    have f2 : ux35 2 = (ptr b3 (0 + 2)):=(hp 0 _ rfl rfl).2
    have hM0:=hM
    have hM : M (Old w0) w0 w [osl NoB ((j7 ++ r24) : List UInt8) u29,osl NoB (r24 : List UInt8) u26,raw b5 (enc (Vector.replicate 32 (0 : UInt8))),raw b3 (cat [[vI p1.Kind],[vI p1.Number],enc p1.Tag]),opt (D 4) (osl NoB (r38 : List UInt8) (ux35 4))]:=hM
    exact Zo (cs:=enc p1.Tag) hE Za ld (lk rfl f2) Yi rfl (At.cat (pre:=[[vI p1.Kind],[vI p1.Number]]) (hM.rawAt (pre:=[_,_,_])) (cl1 (n:=1) (m:=1) rfl (cl1 (n:=1) (m:=0) rfl cl0))) (Flat.len _) fun a hE=>⟨_,_,rfl,hE,rfl,hM0.optKeep rfl⟩
   ·intro a w ux35 D hE hM hD hp
    have f3 : ux35 3 = (Value.agg (enc p1.Tag).toArray):=(hp 0 _ rfl rfl).2
    have hM0:=hM
    have hM : M (Old w0) w0 w [osl NoB ((j7 ++ r24) : List UInt8) u29,osl NoB (r24 : List UInt8) u26,raw b5 (enc (Vector.replicate 32 (0 : UInt8))),raw b3 (cat [[vI p1.Kind],[vI p1.Number],enc p1.Tag]),opt (D 4) (osl NoB (r38 : List UInt8) (ux35 4))]:=hM
    refine Zw hE Za ld (Z7 (Z2 (lk rfl f3) X8)) cb156 (Qd _ p1.Tag r38 e39) ?_
    rintro _ w a ⟨_,rfl,hFr,hK⟩ hE
    have hM:=hM0.add hK hFr
    exact ⟨_,_,rfl,hE,trivial,M.optFill (mk1:=[]) (mk2:=[]) (f:=(fun v=>osl NoB (r38 : List UInt8) v)) hM rfl hD⟩
   ·intro a w ux35 hE hM hg
    have hM : M (Old w0) w0 w [osl NoB ((j7 ++ r24) : List UInt8) u29,osl NoB (r24 : List UInt8) u26,raw b5 (enc (Vector.replicate 32 (0 : UInt8))),raw b3 (cat [[vI p1.Kind],[vI p1.Number],enc p1.Tag]),osl NoB (r38 : List UInt8) (ux35 4)]:=hM
    have hE:=hE.sub (e':=[(18,(Value.agg (enc r36).toArray)),(19,u29),(22,(ux35 4)),(4,(ptr b5 0))]) ⟨lk rfl (hg 0 (by decide)),lk rfl (hg 1 (by decide)),rfl,rfl,trivial⟩
    obtain ⟨l41,e42,hl33⟩:=bind_some hl33
    obtain ⟨e45,rfl⟩:=Y2 e42
    refine YA hE hM Za ld rfl rfl (hM.sl (pre:=[_,_,_,_]) noB) Tryz.underlying32 ty5 rfl (by decide) e45 ?_; intro u43 w a hM hE
    obtain ⟨r46,e47,hl33⟩:=bind_some hl33
    refine Zw hE Za ld rfl cb122 (KB _ r36 ((j7 ++ r24) ++ r38) u43 (hM.sl (pre:=[]) noB) r46 e47) ?_
    rintro v w a ⟨rfl,hK⟩ hE
    have hM:=(hM.keep hK).pull (pre:=[_,_])
    refine Zv (seg:=enc r46) (cs':=enc r46) hE hM Za rfl rfl rfl Yi (Flat.len _) (zle flq) (Flat.cell _) (Zr flq) fun w a hM hE=>Zj ?_
    have ht48:=Option.some.inj hl33
    subst ht48
    refine Zl ?_
    have hM:=M.fst (l:=[_]) hM
    exact ⟨hE.sub ⟨rfl,trivial⟩,hM⟩
  ·skip
   rintro a w ⟨hE,hM⟩
   have hr:=Option.some.inj hF34
   subst hr
   have hq49 : Yx Tryz.prog _ _ (.cell 4 37) _:=ZR hE rfl Yi rfl (hM.rawAt (pre:=[])) (Flat.len _) rfl
   have hM:=M.fst (l:=[]) hM
   exact wp_ret (Zt hE rfl hq49 ⟨_,rfl,rfl,hM.kept⟩)
def X9 (p0 : (List GEvent)) (s19 : (Vector UInt8 32) × Int) : Option (Fl ((Vector UInt8 32) × Int) (Vector UInt8 32)) :=
 if (decide (s19.2 < (p0.length : Int))) = true then ((idx p0 s19.2).bind fun x25=>(VX s19.1 x25).bind fun r28=>some (Fl.nx (r28,wr (s19.2 + 1)))) else (some (Fl.ex s19.1))
def V6 (p0 : (List GEvent)) : Option ((Vector UInt8 32)) :=
 (XL).bind fun r4=>(mkS 1 (0 : UInt8) 32).bind fun l6=>(Vg r4 l6).bind fun r10=>(ZE (X9 p0) (r10,0)).bind fun j16=>some j16
theorem HG (w0 : World) (p0 : (List GEvent)) (v0_1 : Value) (hv0_1 : Ro w0 p0 [v0_1]) (r : (Vector UInt8 32)) (hF : V6 p0 = some r) :
  Calls Tryz.prog 109 [v0_1].toArray w0 (fun en w'=>∃ v,en = .returned v ∧ (v = (Value.agg (enc r).toArray) ∧ Kept (Old w0) w0 w')):=by
 refine ZB (n:=21) Tryz.func109 rfl rfl (nbl rfl) rfl ?_
 intro a hE
 have hM:=M.start w0
 unfold V6 at hF
 refine Zc (ZH hE hM Za ld Yi fun b1 w a hM hE=>Zf (wp_seq ?_))
 obtain ⟨r4,e5,hF⟩:=bind_some hF
 obtain ⟨l6,e7,hF⟩:=bind_some hF
 obtain ⟨r10,e11,hF⟩:=bind_some hF
 refine Te (n:=21) (hd:=[_,_,_,_]) (tl:=[_]) YN rfl rfl [5,6,7,3] (by decide) (fun D u w=>M (Old w0) w0 w ([raw b1 (enc (Vector.replicate 32 (0 : UInt8)))] ++ qL ([mkO 1 (fun v=>osl NoB (l6 : List UInt8) v),mkO 3 (fun v=>UV v (enc (Vector.replicate 32 (0 : UInt8))))] : Mk) D u) ∧ GOk ([([],fun us v=>v = (Value.agg (enc r4).toArray)),([],fun us v=>True),([],fun us v=>v = (Value.agg (enc r10).toArray)),([],fun us v=>True)] : Gs) D u) hE (fun u=>⟨M.qE (M.qE (M.q0 hM.drew u) emO) emO,HU⟩) (ZJ (Zb ?_ (Zb ?_ (Zb ?_ (Zb ?_ ZF))))) ?_
 ·intro a w ux3 D hE hI hD hdc hp
  have hM0:=hI.1
  refine Zw hE Za ld rfl cb137 (TP _  r4 e5) ?_
  rintro v w a ⟨rfl,hK⟩ hE
  exact ⟨_,_,rfl,hE,M.qKeep (hM0.keep hK) rfl,hI.2.put hD rfl Z4 rfl⟩
 ·intro a w ux3 D hE hI hD hdc hp
  have hM0:=hI.1
  have hM:=hI.1
  exact yv hE hM Za ld rfl rfl Tryz.underlying32 ty5 rfl (by decide) (fun _=>Tv.2 ⟨rfl,rfl⟩) e7 fun u8 w a hM hE=>⟨_,_,rfl,hE,M.qFill (mk1:=[]) (mk2:=[_]) (f:=(fun v=>osl NoB (l6 : List UInt8) v)) hM rfl hD,hI.2.put hD rfl Z4 trivial⟩
 ·intro a w ux3 D hE hI hD hdc hp
  have d0 : D 0 = true:=hp 0 _ rfl rfl
  have g0:=hI.2 0 d0 _ rfl
  have f0 : ux3 0 = (Value.agg (enc r4).toArray):=g0.2
  have d1 : D 1 = true:=hp 1 _ rfl rfl
  have g1:=hI.2 1 d1 _ rfl
  have hM0:=hI.1
  have hM:=hI.1.sure (pre:=[_]) d1
  refine Zw hE Za ld (Z7 (Z2 (lk rfl f0) (Z2 rfl X8))) cb122 (KB _ r4 l6 (ux3 1) (hM.sl (pre:=[_]) noB) r10 e11) ?_
  rintro v w a ⟨rfl,hK⟩ hE
  exact ⟨_,_,rfl,hE,M.qKeep (hM0.keep hK) rfl,hI.2.put hD rfl Z4 rfl⟩
 ·intro a w ux3 D hE hI hD hdc hp
  have hM0:=hI.1
  have hM:=hI.1
  refine ZH hE hM Za ld Yi ?_; intro b12 w a hM hE
  have hM:=hM.pack1 (it:=UV _ (enc (Vector.replicate 32 (0 : UInt8)))) (fun w w' fp ⟨b',e,k⟩ hb=>⟨b',e,X7 w w' fp k hb⟩) (fun fp k=>⟨_,rfl,k⟩)
  exact ⟨_,_,rfl,hE,M.qFill (mk1:=[_]) (mk2:=[]) (f:=fun v=>UV v (enc (Vector.replicate 32 (0 : UInt8)))) hM rfl hD,hI.2.put hD rfl Z4 trivial⟩
 ·intro a w ux3 D hE hI hall
  have hM : M (Old w0) w0 w [raw b1 (enc (Vector.replicate 32 (0 : UInt8))),opt (D 1) (osl NoB (l6 : List UInt8) (ux3 1)),opt (D 3) (UV (ux3 3) (enc (Vector.replicate 32 (0 : UInt8))))]:=hI.1
  have d0 : D 0 = true:=hall 0 (by decide)
  have d1 : D 1 = true:=hall 1 (by decide)
  have d2 : D 2 = true:=hall 2 (by decide)
  have d3 : D 3 = true:=hall 3 (by decide)
  have f0 : ux3 0 = (Value.agg (enc r4).toArray):=(hI.2 0 d0 _ rfl).2
  have f2 : ux3 2 = (Value.agg (enc r10).toArray):=(hI.2 2 d2 _ rfl).2
  have hM:=((hM.sure (pre:=[_]) d1).sure (pre:=[_,_]) d3).pull
  obtain ⟨_,⟨b14,f15,_⟩,_⟩:=hM.head
  have hM:=hM.pack1 X7 (it:=raw b14 (enc (Vector.replicate 32 (0 : UInt8)))) (fun fp ⟨b2,e2,k2⟩=>by rw [f15] at e2; simp [ptr] at e2; subst e2; exact k2)
  have hE:=hE.sub (e':=[(6,(ux3 1)),(7,(Value.agg (enc r10).toArray)),(3,(ptr b14 0)),(0,v0_1),(2,(ptr b1 0))]) ⟨rfl,lk rfl f2,lk rfl f15,rfl,rfl,trivial⟩
  refine Zv (seg:=enc r10) (cs':=enc r10) hE hM Za rfl rfl rfl Yi (Flat.len _) (zle flq) (Flat.cell _) (Zr flq) fun w a hM hE=>Zj (Zu (wp_seq (Zc (Ze hE Za ld rfl fun a hE=>Zf ?_))))
  obtain ⟨j16,hl17,hF18⟩:=bind_some hF
  refine ZL (fun a w=>Env 21 a [(2,(ptr b1 0)),(3,(ptr b14 0))] ∧ M (Old w0) w0 w [raw b14 (enc j16),raw b1 (enc (Vector.replicate 32 (0 : UInt8)))]) ?_ ?_
  ·skip
   refine wp_block ?_
   have hM:=M.fst (l:=[_,_]) ((hM.pull (pre:=[_])).pull (pre:=[_]))
   refine ZC (fun (s19 : (Vector UInt8 32) × Int) a w=>Env 21 a [(0,v0_1),(2,(ptr b1 0)),(3,(ptr b14 0)),(4,vI s19.2)] ∧ M (Old w0) w0 w [raw b14 (enc s19.1),raw b1 (enc (Vector.replicate 32 (0 : UInt8)))]) hl17 ⟨hE.sub ⟨rfl,rfl,rfl,rfl,trivial⟩,hM⟩ ?_
   rintro s19 a w ⟨hE,hM⟩ o22 hs20 hx21
   unfold X9 at hs20
   refine wp_seq (Zc (Zd hE Za ld rfl fun a hE=>Zd hE Za ld rfl fun a hE=>Yf hE Za ld rfl Tryz.underlying35 (hM.rd hv0_1) fun a hE=>Zi hE Za ld rfl rfl rfl fun a hE=>Zf ?_))
   refine Zp hE rfl ?_ ?_
   ·intro hb23
    have hs20:=Zz hs20 hb23
    refine wp_skip (Zu (wp_seq (wp_block ?_)))
    obtain ⟨x25,hi27,hs20⟩:=bix hs20
    obtain ⟨r28,e29,hs20⟩:=bind_some hs20
    refine Yg (n:=21) (hd:=[_,_,_,_,_,_]) (tl:=[_]) YN rfl rfl [14,15,16,17,18,19] (by decide) (fun w=>M (Old w0) w0 w [raw b14 (enc s19.1),raw b1 (enc (Vector.replicate 32 (0 : UInt8)))]) (fun j=>([fun v _=>v = (Value.agg (enc s19.1).toArray),fun v _=>v = v0_1,fun v _=>v = (vI s19.2),fun v _=>v = (ptr (sb v0_1) (so v0_1 + (s19.2).toNat * 34)),fun v _=>v = (Value.agg (enc x25).toArray),fun v _=>v = (Value.agg (enc r28).toArray)] : List (Value → World → Prop)).getD j (fun _ _=>True)) (fun _ _ h hk=>h.keep hk) (gup (Zn (Zn (Zn (Zn (Zn (Zn Vb))))))) hE hM.drew (ZJ (Zb ?_ (Zb ?_ (Zb ?_ (Zb ?_ (Zb ?_ (Zb ?_ ZF))))))) ?_
    ·exact fun a w ux24 hE hM hp=>Zo (cs:=enc s19.1) hE Za ld rfl Yi rfl (hM.rawAt (pre:=[])) (Flat.len _) fun a hE=>⟨Kept.refl _ _,_,_,rfl,hE,rfl⟩
    ·exact fun a w ux24 hE hM hp=>Zd hE Za ld rfl fun a hE=>⟨Kept.refl _ _,_,_,rfl,hE,rfl⟩
    ·exact fun a w ux24 hE hM hp=>Zd hE Za ld rfl fun a hE=>⟨Kept.refl _ _,_,_,rfl,hE,rfl⟩
    ·intro a w ux24 hE hM hp
     have f1 : ux24 1 = v0_1:=hp 0 _ rfl rfl
     have f2 : ux24 2 = (vI s19.2):=hp 1 _ rfl rfl
     exact ZK hE Za ld (lk rfl f1) (lk rfl f2) Tryz.underlying35 U2 (hM.rd hv0_1) hi27.1 fun a hE=>⟨Kept.refl _ _,_,_,rfl,hE,rfl⟩
    ·intro a w ux24 hE hM hp
     have f3 : ux24 3 = (ptr (sb v0_1) (so v0_1 + (s19.2).toNat * 34)):=hp 0 _ rfl rfl
     exact Zo (cs:=enc x25) hE Za ld (lk rfl f3) U2 rfl (Xc (hM.rd hv0_1) hi27.2) (Zg (cl1 (n:=1) (m:=33) rfl (cl1 (n:=1) (m:=32) rfl (cl1 (n:=32) (m:=0) (Flat.len _) cl0)))) fun a hE=>⟨Kept.refl _ _,_,_,rfl,hE,rfl⟩
    ·intro a w ux24 hE hM hp
     have f0 : ux24 0 = (Value.agg (enc s19.1).toArray):=hp 0 _ rfl rfl
     have f4 : ux24 4 = (Value.agg (enc x25).toArray):=hp 1 _ rfl rfl
     refine Zw hE Za ld (Z7 (Z2 (lk rfl f0) (Z2 (lk rfl f4) X8))) cb138 (HH _ s19.1 x25 r28 e29) ?_
     rintro v w a ⟨rfl,hK⟩ hE
     exact ⟨hK,_,_,rfl,hE,rfl⟩
    ·intro a w ux24 hE hM hg
     have hE:=hE.sub (e':=[(19,(Value.agg (enc r28).toArray)),(0,v0_1),(2,(ptr b1 0)),(3,(ptr b14 0)),(4,vI s19.2),(8,vI s19.2),(9,v0_1),(10,(vI (p0.length : Int))),(11,(vT (decide (s19.2 < (p0.length : Int)))))]) ⟨lk rfl (hg 5 (by decide)),rfl,rfl,rfl,rfl,rfl,rfl,rfl,rfl,trivial⟩
     refine Zv (seg:=enc r28) (cs':=enc r28) hE hM Za rfl rfl rfl Yi (Flat.len _) (zle flq) (Flat.cell _) (Zr flq) fun w a hM hE=>Zj (ZZ (Zu (wp_region_lit (Zd hE Za ld rfl fun a hE=>Zi hE Za ld rfl rfl rfl fun a hE=>Ze hE Za ld rfl fun a hE=>Zj (Zl ?_)))))
     exact ⟨_,(ois hs20),hE.sub ⟨rfl,rfl,rfl,rfl,trivial⟩,hM⟩
   ·intro hb23
    have hs20:=Zy hs20 hb23
    refine wp_exit (Zm (Zm (Z0 ?_)))
    have ht30:=hx21 _ (ois hs20)
    subst ht30
    refine Zl ?_
    exact ⟨hE.sub ⟨rfl,rfl,trivial⟩,hM⟩
  ·skip
   rintro a w ⟨hE,hM⟩
   refine Zu (Zc (Zo (cs:=enc j16) hE Za ld rfl Yi rfl (hM.rawAt (pre:=[])) (Flat.len _) ?_)); intro a hE
   have hM:=hM.pull (pre:=[_])
   refine Zv (seg:=enc j16) (cs':=enc j16) hE hM Za rfl rfl rfl Yi (Flat.len _) (zle flq) (Flat.cell _) (Zr flq) fun w a hM hE=>Zf ?_
   have hr:=Option.some.inj hF18
   subst hr
   have hq31 : Yx Tryz.prog _ _ (.cell 2 37) _:=ZR hE rfl Yi rfl (hM.rawAt (pre:=[])) (Flat.len _) rfl
   have hM:=M.fst (l:=[]) hM
   exact wp_ret (Zt hE rfl hq31 ⟨_,rfl,rfl,hM.kept⟩)
def Vt (p0 : (Vector UInt8 16)) : Option (GVault) :=
 ((V6 ([] : (List GEvent))).bind fun r13=>some (([p0] : List (Vector UInt8 16)),1,r13) : Option ((List (Vector UInt8 16)) × Int × (Vector UInt8 32))).bind fun j5=>some (⟨j5.1,j5.2.1,[],[],j5.2.2⟩ : GVault)
theorem Jz (w0 : World) (p0 : (Vector UInt8 16)) (r : GVault) (hF : Vt p0 = some r) :
  Calls Tryz.prog 43 [(Value.agg (enc p0).toArray)].toArray w0 (fun en w'=>∃ v,en = .returned v ∧ (∃ (y1 : Value) (y2 : Value) (y3 : Value),v = (Value.agg (cat [[y1],[vI r.Next],[y2],[y3],enc r.Head]).toArray) ∧ Fr w0 w' [osl NoB (r.Keys : List (Vector UInt8 16)) y1,osl NoB (r.Records : List GRecord) y2,osl NoB (r.Events : List GEvent) y3] ∧ Kept (Old w0) w0 w')):=by
 refine ZB (n:=7) Tryz.func43 rfl rfl (nbl rfl) rfl ?_
 intro a hE
 have hM:=M.start w0
 unfold Vt at hF
 refine Zc (ZT (cs:=enc p0) hE hM Za ld rfl rfl fun b1 w a hM hE=>ZH hE hM Za ld Qj fun b3 w a hM hE=>Zf ?_)
 obtain ⟨j5,hl6,hF7⟩:=bind_some hF
 refine ZQ (fun a w=>∃ (u8 : Value),Env 7 a [(2,(ptr b3 0))] ∧ M (Old w0) w0 w [raw b3 (cat [[u8],[vI j5.2.1],[(Value.slice none 0 0)],[(Value.slice none 0 0)],enc j5.2.2]),osl NoB (j5.1 : List (Vector UInt8 16)) u8]) ?_ ?_
 ·skip
  obtain ⟨r13,e14,hl6⟩:=bind_some hl6
  refine QF (n:=7) (hd:=[_,_,_]) (tl:=[_,_]) (its:=[raw b3 (cat [[(Value.slice none 0 0)],[vI 0],[(Value.slice none 0 0)],[(Value.slice none 0 0)],enc (Vector.replicate 32 (0 : UInt8))]),raw b1 (enc p0)]) YN rfl rfl [3,4,5] (by decide) [(1,fun v=>osl NoB (([p0] : List (Vector UInt8 16)) : List (Vector UInt8 16)) v)] rfl (fun j=>([fun v=>v = (Value.agg (enc p0).toArray),fun v=>True,fun v=>v = (Value.agg (enc r13).toArray)] : List (Value → Prop)).getD j (fun _=>True)) hE hM.drew (ZJ (Zb ?_ (Zb ?_ (Zb ?_ ZF)))) ?_
  ·intro a w ux10 D hE hM hD hp
   have hM0:=hM
   have hM : M (Old w0) w0 w [raw b3 (cat [[(Value.slice none 0 0)],[vI 0],[(Value.slice none 0 0)],[(Value.slice none 0 0)],enc (Vector.replicate 32 (0 : UInt8))]),raw b1 (enc p0),opt (D 1) (osl NoB (([p0] : List (Vector UInt8 16)) : List (Vector UInt8 16)) (ux10 1))]:=hM
   exact Zo (cs:=enc p0) hE Za ld rfl ZG rfl (hM.rawAt (pre:=[_])) (Flat.len _) fun a hE=>⟨_,_,rfl,hE,rfl,hM0.optKeep rfl⟩
  ·intro a w ux10 D hE hM hD hp
   have f0 : ux10 0 = (Value.agg (enc p0).toArray):=(hp 0 _ rfl rfl).2
   have hM0:=hM
   have hM : M (Old w0) w0 w [raw b3 (cat [[(Value.slice none 0 0)],[vI 0],[(Value.slice none 0 0)],[(Value.slice none 0 0)],enc (Vector.replicate 32 (0 : UInt8))]),raw b1 (enc p0),opt (D 1) (osl NoB (([p0] : List (Vector UInt8 16)) : List (Vector UInt8 16)) (ux10 1))]:=hM
   exact Yj (xs:=[.tmp 3]) (l:=([p0] : List (Vector UInt8 16))) (vs:=[(Value.agg (enc p0).toArray)]) hE hM Za ld (Z7 (Z2 (lk rfl f0) X8)) rfl Tryz.underlying33 ZG rfl (by decide) rfl fun u11 w a hM hE=>⟨_,_,rfl,hE,trivial,M.optFill (mk1:=[]) (mk2:=[]) (f:=(fun v=>osl NoB (([p0] : List (Vector UInt8 16)) : List (Vector UInt8 16)) v)) hM rfl hD⟩
  ·intro a w ux10 D hE hM hD hp
   have hM0:=hM
   refine Zw hE Za ld rfl cb109 (HG _ ([] : (List GEvent)) (Value.slice none 0 0) yR r13 e14) ?_
   rintro v w a ⟨rfl,hK⟩ hE
   exact ⟨_,_,rfl,hE,rfl,(hM0.keep hK).optKeep rfl⟩
  ·intro a w ux10 hE hM hg
   have hM : M (Old w0) w0 w [raw b3 (cat [[(Value.slice none 0 0)],[vI 0],[(Value.slice none 0 0)],[(Value.slice none 0 0)],enc (Vector.replicate 32 (0 : UInt8))]),raw b1 (enc p0),osl NoB (([p0] : List (Vector UInt8 16)) : List (Vector UInt8 16)) (ux10 1)]:=hM
   have hE:=hE.sub (e':=[(4,(ux10 1)),(5,(Value.agg (enc r13).toArray)),(2,(ptr b3 0))]) ⟨rfl,lk rfl (hg 2 (by decide)),rfl,trivial⟩
   refine UI (parts:=[(0,.tmp 4),(1,.const (vI 1)),(4,.tmp 5)]) (vs:=[(0,(ux10 1)),(1,vI 1),(4,(Value.agg (enc r13).toArray))]) (cs:=cat [[(ux10 1)],[vI 1],[(Value.slice none 0 0)],[(Value.slice none 0 0)],enc r13]) hE Za ld rfl rfl Qj pl39 (Yl (pre:=[]) (seg:=[(Value.slice none 0 0)]) (seg':=[(ux10 1)]) (post:=[[vI 0],[(Value.slice none 0 0)],[(Value.slice none 0 0)],enc (Vector.replicate 32 (0 : UInt8))]) rfl cl0 rfl rfl (U0 (hM.sl (pre:=[_,_]) noB)) (Yl (pre:=[[(ux10 1)]]) (seg:=[vI 0]) (seg':=[vI 1]) (post:=[[(Value.slice none 0 0)],[(Value.slice none 0 0)],enc (Vector.replicate 32 (0 : UInt8))]) rfl (cl1 (n:=1) (m:=0) rfl cl0) rfl rfl rfl (Yl (pre:=[[(ux10 1)],[vI 1],[(Value.slice none 0 0)],[(Value.slice none 0 0)]]) (seg:=enc (Vector.replicate 32 (0 : UInt8))) (seg':=enc r13) (post:=[]) rfl (cl1 (n:=1) (m:=3) rfl (cl1 (n:=1) (m:=2) rfl (cl1 (n:=1) (m:=1) rfl (cl1 (n:=1) (m:=0) rfl cl0)))) (Flat.len _) (Flat.len _) rfl TC))) fun a hE=>Zv (seg:=cat [[(ux10 1)],[vI 1],[(Value.slice none 0 0)],[(Value.slice none 0 0)],enc r13]) (cs':=cat [[(ux10 1)],[vI 1],[(Value.slice none 0 0)],[(Value.slice none 0 0)],enc r13]) hE hM Za rfl rfl rfl Qj (Zg (cl1 (n:=1) (m:=35) rfl (cl1 (n:=1) (m:=34) rfl (cl1 (n:=1) (m:=33) rfl (cl1 (n:=1) (m:=32) rfl (cl1 (n:=32) (m:=0) (Flat.len _) cl0)))))) (Nat.le_of_eq ((Nat.zero_add _).trans (Eq.trans (Zg (cl1 (n:=1) (m:=35) rfl (cl1 (n:=1) (m:=34) rfl (cl1 (n:=1) (m:=33) rfl (cl1 (n:=1) (m:=32) rfl (cl1 (n:=32) (m:=0) (Flat.len _) cl0)))))) (Eq.symm (Zg (cl1 (n:=1) (m:=35) rfl (cl1 (n:=1) (m:=34) rfl (cl1 (n:=1) (m:=33) rfl (cl1 (n:=1) (m:=32) rfl (cl1 (n:=32) (m:=0) (Flat.len _) cl0)))))))))) (ZV (cc1 (Rep.cell (hM.sl (pre:=[_,_]) noB)) (cc1 (Flat.cell (1 : Int)) (cc1 UB (cc1 UB (cc1 (Flat.cell _) cc0)))))) (Zr (Eq.trans (Zg (cl1 (n:=1) (m:=35) rfl (cl1 (n:=1) (m:=34) rfl (cl1 (n:=1) (m:=33) rfl (cl1 (n:=1) (m:=32) rfl (cl1 (n:=32) (m:=0) (Flat.len _) cl0)))))) (Eq.symm (Zg (cl1 (n:=1) (m:=35) rfl (cl1 (n:=1) (m:=34) rfl (cl1 (n:=1) (m:=33) rfl (cl1 (n:=1) (m:=32) rfl (cl1 (n:=32) (m:=0) (Flat.len _) cl0))))))))) fun w a hM hE=>Zj ?_
   have ht15:=Option.some.inj hl6
   subst ht15
   refine Zl ?_
   have hM:=M.fst (l:=[_,_]) ((hM.pull (pre:=[_,_])).pull (pre:=[_]))
   exact ⟨(ux10 1),hE.sub ⟨rfl,trivial⟩,hM⟩
 ·skip
  rintro a w ⟨u8,hE,hM⟩
  have hM:=M.nilS (α:=GEvent) NoB noB (M.nilS (α:=GRecord) NoB noB hM)
  have hr:=Option.some.inj hF7
  subst hr
  have hq18 : Yx Tryz.prog _ _ (.cell 2 39) _:=ZR hE rfl Qj rfl (hM.rawAt (pre:=[_,_])) (Zg (cl1 (n:=1) (m:=35) rfl (cl1 (n:=1) (m:=34) rfl (cl1 (n:=1) (m:=33) rfl (cl1 (n:=1) (m:=32) rfl (cl1 (n:=32) (m:=0) (Flat.len _) cl0)))))) rfl
  have hM:=M.fst (l:=[_,_,_]) ((hM.pull (pre:=[_])).pull (pre:=[_,_,_]))
  exact wp_ret (Zt hE rfl hq18 ⟨_,rfl,u8,(Value.slice none 0 0),(Value.slice none 0 0),rfl,hM.outF (YL (YL (YL VT))),hM.kept⟩)
def Td : Option (GDesk) :=
 (Wh 6).bind fun r3=>(Vt (Vector.replicate 16 (0 : UInt8))).bind fun r5=>some (⟨r3,(Vector.replicate 16 (0 : UInt8)),(Vector.replicate 16 (0 : UInt8)),[],r5,(⟨[],[],[]⟩ : GBlobs)⟩ : GDesk)
theorem HS (w0 : World)  (r : GDesk) (hF : Td  = some r) :
  Calls Tryz.prog 14 [].toArray w0 (fun en w'=>∃ v,en = .returned v ∧ (∃ (y1 : Value) (y2 : Value) (y3 : Value) (y4 : Value) (y5 : Value) (y6 : Value) (y7 : Value),v = (Value.agg (cat [cat [[vI r.Cipher.Field],enc r.Cipher.Box,enc r.Cipher.Mix,enc r.Cipher.Places,[vI r.Cipher.Rounds]],enc r.Key,enc r.Start,[y1],cat [[y2],[vI r.Vault.Next],[y3],[y4],enc r.Vault.Head],cat [[y5],[y6],[y7]]]).toArray) ∧ Fr w0 w' [osl NoB (r.Data : List UInt8) y1,osl NoB (r.Vault.Keys : List (Vector UInt8 16)) y2,osl NoB (r.Vault.Records : List GRecord) y3,osl NoB (r.Vault.Events : List GEvent) y4,osl NoB (r.Blobs.Keys : List (Vector UInt8 32)) y5,osl NoB (r.Blobs.Data : List (List UInt8)) y6,osl NoB (r.Blobs.Counts : List Int) y7] ∧ Kept (Old w0) w0 w')):=by
 refine ZB (n:=5) Tryz.func14 rfl rfl (nbl rfl) rfl ?_
 intro a hE
 have hM:=M.start w0
 unfold Td at hF
 refine Zc (ZH hE hM Za ld UT fun b1 w a hM hE=>Zf (Zc ?_))
 obtain ⟨r3,e4,hF⟩:=bind_some hF
 refine Zw hE Za ld rfl cb42 (T9 _ 6 r3 e4) ?_
 rintro v w a ⟨rfl,hK⟩ hE
 have hM:=hM.keep hK
 refine YT (parts:=[]) (vs:=[]) (cs:=enc (Vector.replicate 16 (0 : UInt8))) hE Za ld rfl rfl ZG rfl ty5 Yw ?_; intro a hE
 obtain ⟨r5,e6,hF⟩:=bind_some hF
 refine Zw hE Za ld rfl cb43 (Jz _ (Vector.replicate 16 (0 : UInt8)) r5 e6) ?_
 rintro v w a ⟨u7,u8,u9,rfl,hFr,hK⟩ hE
 have hM:=hM.add hK hFr
 refine UI (parts:=[(0,.tmp 1),(4,.tmp 3)]) (vs:=[(0,(Value.agg (enc r3).toArray)),(4,(Value.agg (cat [[u7],[vI r5.Next],[u8],[u9],enc r5.Head]).toArray))]) (cs:=cat [cat [[vI r3.Field],enc r3.Box,enc r3.Mix,enc r3.Places,[vI r3.Rounds]],enc (Vector.replicate 16 (0 : UInt8)),enc (Vector.replicate 16 (0 : UInt8)),[(Value.slice none 0 0)],cat [[u7],[vI r5.Next],[u8],[u9],enc r5.Head],cat [[(Value.slice none 0 0)],[(Value.slice none 0 0)],[(Value.slice none 0 0)]]]) hE Za ld rfl rfl UT pl46 (Yl (pre:=[]) (seg:=cat [[vI 0],enc (Vector.replicate 256 (0 : UInt8)),enc (Vector.replicate 4 (Vector.replicate 4 (0 : UInt8))),enc (Vector.replicate 16 (0 : UInt8)),[vI 0]]) (seg':=cat [[vI r3.Field],enc r3.Box,enc r3.Mix,enc r3.Places,[vI r3.Rounds]]) (post:=[enc (Vector.replicate 16 (0 : UInt8)),enc (Vector.replicate 16 (0 : UInt8)),[(Value.slice none 0 0)],cat [[(Value.slice none 0 0)],[vI 0],[(Value.slice none 0 0)],[(Value.slice none 0 0)],enc (Vector.replicate 32 (0 : UInt8))],cat [[(Value.slice none 0 0)],[(Value.slice none 0 0)],[(Value.slice none 0 0)]]]) rfl cl0 (Zg (cl1 (n:=1) (m:=289) rfl (cl1 (n:=256) (m:=33) (Flat.len _) (cl1 (n:=16) (m:=17) (Flat.len _) (cl1 (n:=16) (m:=1) (Flat.len _) (cl1 (n:=1) (m:=0) rfl cl0)))))) (Zg (cl1 (n:=1) (m:=289) rfl (cl1 (n:=256) (m:=33) (Flat.len _) (cl1 (n:=16) (m:=17) (Flat.len _) (cl1 (n:=16) (m:=1) (Flat.len _) (cl1 (n:=1) (m:=0) rfl cl0)))))) rfl (Yl (pre:=[cat [[vI r3.Field],enc r3.Box,enc r3.Mix,enc r3.Places,[vI r3.Rounds]],enc (Vector.replicate 16 (0 : UInt8)),enc (Vector.replicate 16 (0 : UInt8)),[(Value.slice none 0 0)]]) (seg:=cat [[(Value.slice none 0 0)],[vI 0],[(Value.slice none 0 0)],[(Value.slice none 0 0)],enc (Vector.replicate 32 (0 : UInt8))]) (seg':=cat [[u7],[vI r5.Next],[u8],[u9],enc r5.Head]) (post:=[cat [[(Value.slice none 0 0)],[(Value.slice none 0 0)],[(Value.slice none 0 0)]]]) rfl (cl1 (n:=290) (m:=33) (Zg (cl1 (n:=1) (m:=289) rfl (cl1 (n:=256) (m:=33) (Flat.len _) (cl1 (n:=16) (m:=17) (Flat.len _) (cl1 (n:=16) (m:=1) (Flat.len _) (cl1 (n:=1) (m:=0) rfl cl0)))))) (cl1 (n:=16) (m:=17) (Flat.len _) (cl1 (n:=16) (m:=1) (Flat.len _) (cl1 (n:=1) (m:=0) rfl cl0)))) (Zg (cl1 (n:=1) (m:=35) rfl (cl1 (n:=1) (m:=34) rfl (cl1 (n:=1) (m:=33) rfl (cl1 (n:=1) (m:=32) rfl (cl1 (n:=32) (m:=0) (Flat.len _) cl0)))))) (Zg (cl1 (n:=1) (m:=35) rfl (cl1 (n:=1) (m:=34) rfl (cl1 (n:=1) (m:=33) rfl (cl1 (n:=1) (m:=32) rfl (cl1 (n:=32) (m:=0) (Flat.len _) cl0)))))) rfl TC)) ?_; intro a hE
 have hM:=hM.pull (pre:=[_,_,_])
 refine Zv (seg:=cat [cat [[vI r3.Field],enc r3.Box,enc r3.Mix,enc r3.Places,[vI r3.Rounds]],enc (Vector.replicate 16 (0 : UInt8)),enc (Vector.replicate 16 (0 : UInt8)),[(Value.slice none 0 0)],cat [[u7],[vI r5.Next],[u8],[u9],enc r5.Head],cat [[(Value.slice none 0 0)],[(Value.slice none 0 0)],[(Value.slice none 0 0)]]]) (cs':=cat [cat [[vI r3.Field],enc r3.Box,enc r3.Mix,enc r3.Places,[vI r3.Rounds]],enc (Vector.replicate 16 (0 : UInt8)),enc (Vector.replicate 16 (0 : UInt8)),[(Value.slice none 0 0)],cat [[u7],[vI r5.Next],[u8],[u9],enc r5.Head],cat [[(Value.slice none 0 0)],[(Value.slice none 0 0)],[(Value.slice none 0 0)]]]) hE hM Za rfl rfl rfl UT (Zg (cl1 (n:=290) (m:=72) (Zg (cl1 (n:=1) (m:=289) rfl (cl1 (n:=256) (m:=33) (Flat.len _) (cl1 (n:=16) (m:=17) (Flat.len _) (cl1 (n:=16) (m:=1) (Flat.len _) (cl1 (n:=1) (m:=0) rfl cl0)))))) (cl1 (n:=16) (m:=56) (Flat.len _) (cl1 (n:=16) (m:=40) (Flat.len _) (cl1 (n:=1) (m:=39) rfl (cl1 (n:=36) (m:=3) (Zg (cl1 (n:=1) (m:=35) rfl (cl1 (n:=1) (m:=34) rfl (cl1 (n:=1) (m:=33) rfl (cl1 (n:=1) (m:=32) rfl (cl1 (n:=32) (m:=0) (Flat.len _) cl0)))))) (cl1 (n:=3) (m:=0) (Zg (cl1 (n:=1) (m:=2) rfl (cl1 (n:=1) (m:=1) rfl (cl1 (n:=1) (m:=0) rfl cl0)))) cl0))))))) (Nat.le_of_eq ((Nat.zero_add _).trans (Eq.trans (Zg (cl1 (n:=290) (m:=72) (Zg (cl1 (n:=1) (m:=289) rfl (cl1 (n:=256) (m:=33) (Flat.len _) (cl1 (n:=16) (m:=17) (Flat.len _) (cl1 (n:=16) (m:=1) (Flat.len _) (cl1 (n:=1) (m:=0) rfl cl0)))))) (cl1 (n:=16) (m:=56) (Flat.len _) (cl1 (n:=16) (m:=40) (Flat.len _) (cl1 (n:=1) (m:=39) rfl (cl1 (n:=36) (m:=3) (Zg (cl1 (n:=1) (m:=35) rfl (cl1 (n:=1) (m:=34) rfl (cl1 (n:=1) (m:=33) rfl (cl1 (n:=1) (m:=32) rfl (cl1 (n:=32) (m:=0) (Flat.len _) cl0)))))) (cl1 (n:=3) (m:=0) (Zg (cl1 (n:=1) (m:=2) rfl (cl1 (n:=1) (m:=1) rfl (cl1 (n:=1) (m:=0) rfl cl0)))) cl0))))))) (Eq.symm (Zg (cl1 (n:=290) (m:=72) (Zg (cl1 (n:=1) (m:=289) rfl (cl1 (n:=256) (m:=33) (Flat.len _) (cl1 (n:=16) (m:=17) (Flat.len _) (cl1 (n:=16) (m:=1) (Flat.len _) (cl1 (n:=1) (m:=0) rfl cl0)))))) (cl1 (n:=16) (m:=56) (Flat.len _) (cl1 (n:=16) (m:=40) (Flat.len _) (cl1 (n:=1) (m:=39) rfl (cl1 (n:=36) (m:=3) (Zg (cl1 (n:=1) (m:=35) rfl (cl1 (n:=1) (m:=34) rfl (cl1 (n:=1) (m:=33) rfl (cl1 (n:=1) (m:=32) rfl (cl1 (n:=32) (m:=0) (Flat.len _) cl0)))))) (cl1 (n:=3) (m:=0) (Zg (cl1 (n:=1) (m:=2) rfl (cl1 (n:=1) (m:=1) rfl (cl1 (n:=1) (m:=0) rfl cl0)))) cl0))))))))))) (ZV (cc1 (ZV (cc1 (Flat.cell (r3.Field : Int)) (cc1 (Flat.cell _) (cc1 (Flat.cell _) (cc1 (Flat.cell _) (cc1 (Flat.cell (r3.Rounds : Int)) cc0)))))) (cc1 (Flat.cell _) (cc1 (Flat.cell _) (cc1 UB (cc1 (ZV (cc1 (Rep.cell (hM.sl (pre:=[_]) noB)) (cc1 (Flat.cell (r5.Next : Int)) (cc1 (Rep.cell (hM.sl (pre:=[_,_]) noB)) (cc1 (Rep.cell (hM.sl (pre:=[_,_,_]) noB)) (cc1 (Flat.cell _) cc0)))))) (cc1 (ZV (cc1 UB (cc1 UB (cc1 UB cc0)))) cc0))))))) (Zr (Eq.trans (Zg (cl1 (n:=290) (m:=72) (Zg (cl1 (n:=1) (m:=289) rfl (cl1 (n:=256) (m:=33) (Flat.len _) (cl1 (n:=16) (m:=17) (Flat.len _) (cl1 (n:=16) (m:=1) (Flat.len _) (cl1 (n:=1) (m:=0) rfl cl0)))))) (cl1 (n:=16) (m:=56) (Flat.len _) (cl1 (n:=16) (m:=40) (Flat.len _) (cl1 (n:=1) (m:=39) rfl (cl1 (n:=36) (m:=3) (Zg (cl1 (n:=1) (m:=35) rfl (cl1 (n:=1) (m:=34) rfl (cl1 (n:=1) (m:=33) rfl (cl1 (n:=1) (m:=32) rfl (cl1 (n:=32) (m:=0) (Flat.len _) cl0)))))) (cl1 (n:=3) (m:=0) (Zg (cl1 (n:=1) (m:=2) rfl (cl1 (n:=1) (m:=1) rfl (cl1 (n:=1) (m:=0) rfl cl0)))) cl0))))))) (Eq.symm (Zg (cl1 (n:=290) (m:=72) (Zg (cl1 (n:=1) (m:=289) rfl (cl1 (n:=256) (m:=33) (Flat.len _) (cl1 (n:=16) (m:=17) (Flat.len _) (cl1 (n:=16) (m:=1) (Flat.len _) (cl1 (n:=1) (m:=0) rfl cl0)))))) (cl1 (n:=16) (m:=56) (Flat.len _) (cl1 (n:=16) (m:=40) (Flat.len _) (cl1 (n:=1) (m:=39) rfl (cl1 (n:=36) (m:=3) (Zg (cl1 (n:=1) (m:=35) rfl (cl1 (n:=1) (m:=34) rfl (cl1 (n:=1) (m:=33) rfl (cl1 (n:=1) (m:=32) rfl (cl1 (n:=32) (m:=0) (Flat.len _) cl0)))))) (cl1 (n:=3) (m:=0) (Zg (cl1 (n:=1) (m:=2) rfl (cl1 (n:=1) (m:=1) rfl (cl1 (n:=1) (m:=0) rfl cl0)))) cl0)))))))))) fun w a hM hE=>Zf ?_
 have hM:=M.nilS (α:=Int) NoB noB (M.nilS (α:=(List UInt8)) NoB noB (M.nilS (α:=(Vector UInt8 32)) NoB noB (M.nilS (α:=UInt8) NoB noB hM)))
 have hr:=Option.some.inj hF
 subst hr
 have hq14 : Yx Tryz.prog _ _ (.cell 0 46) _:=ZR hE rfl UT rfl (hM.rawAt (pre:=[_,_,_,_])) (Zg (cl1 (n:=290) (m:=72) (Zg (cl1 (n:=1) (m:=289) rfl (cl1 (n:=256) (m:=33) (Flat.len _) (cl1 (n:=16) (m:=17) (Flat.len _) (cl1 (n:=16) (m:=1) (Flat.len _) (cl1 (n:=1) (m:=0) rfl cl0)))))) (cl1 (n:=16) (m:=56) (Flat.len _) (cl1 (n:=16) (m:=40) (Flat.len _) (cl1 (n:=1) (m:=39) rfl (cl1 (n:=36) (m:=3) (Zg (cl1 (n:=1) (m:=35) rfl (cl1 (n:=1) (m:=34) rfl (cl1 (n:=1) (m:=33) rfl (cl1 (n:=1) (m:=32) rfl (cl1 (n:=32) (m:=0) (Flat.len _) cl0)))))) (cl1 (n:=3) (m:=0) (Zg (cl1 (n:=1) (m:=2) rfl (cl1 (n:=1) (m:=1) rfl (cl1 (n:=1) (m:=0) rfl cl0)))) cl0))))))) rfl
 have hM:=M.fst (l:=[_,_,_,_,_,_,_]) ((((((hM.pull (pre:=[_])).pull (pre:=[_,_])).pull (pre:=[_,_,_,_,_,_,_])).pull (pre:=[_,_,_,_,_,_,_])).pull (pre:=[_,_,_,_,_,_,_])).pull (pre:=[_,_,_,_,_,_]))
 exact wp_ret (Zt hE rfl hq14 ⟨_,rfl,(Value.slice none 0 0),u7,u8,u9,(Value.slice none 0 0),(Value.slice none 0 0),(Value.slice none 0 0),rfl,hM.outF (YL (YL (YL (YL (YL (YL (YL VT))))))),hM.kept⟩)
def VP : Option (GDesk) :=
 (Td).bind fun r3=>some r3
theorem Hv (w0 : World)  (r : GDesk) (hF : VP  = some r) :
  Calls Tryz.prog 5 [].toArray w0 (fun en w'=>∃ v,en = .returned v ∧ (∃ (y1 : Value) (y2 : Value) (y3 : Value) (y4 : Value) (y5 : Value) (y6 : Value) (y7 : Value),v = (Value.agg (cat [cat [[vI r.Cipher.Field],enc r.Cipher.Box,enc r.Cipher.Mix,enc r.Cipher.Places,[vI r.Cipher.Rounds]],enc r.Key,enc r.Start,[y1],cat [[y2],[vI r.Vault.Next],[y3],[y4],enc r.Vault.Head],cat [[y5],[y6],[y7]]]).toArray) ∧ Fr w0 w' [osl NoB (r.Data : List UInt8) y1,osl NoB (r.Vault.Keys : List (Vector UInt8 16)) y2,osl NoB (r.Vault.Records : List GRecord) y3,osl NoB (r.Vault.Events : List GEvent) y4,osl NoB (r.Blobs.Keys : List (Vector UInt8 32)) y5,osl NoB (r.Blobs.Data : List (List UInt8)) y6,osl NoB (r.Blobs.Counts : List Int) y7] ∧ Kept (Old w0) w0 w')):=by
 refine ZB (n:=2) Tryz.func5 rfl rfl (nbl rfl) rfl ?_
 intro a hE
 have hM:=M.start w0
 unfold VP at hF
 refine Zc (ZH hE hM Za ld UT fun b1 w a hM hE=>Zf (Zc ?_))
 obtain ⟨r3,e4,hF⟩:=bind_some hF
 refine Zw hE Za ld rfl cb14 (HS _  r3 e4) ?_
 rintro v w a ⟨u5,u6,u7,u8,u9,u10,u11,rfl,hFr,hK⟩ hE
 have hM:=(hM.add hK hFr).pull (pre:=[_,_,_,_,_,_,_])
 refine Zv (seg:=cat [cat [[vI r3.Cipher.Field],enc r3.Cipher.Box,enc r3.Cipher.Mix,enc r3.Cipher.Places,[vI r3.Cipher.Rounds]],enc r3.Key,enc r3.Start,[u5],cat [[u6],[vI r3.Vault.Next],[u7],[u8],enc r3.Vault.Head],cat [[u9],[u10],[u11]]]) (cs':=cat [cat [[vI r3.Cipher.Field],enc r3.Cipher.Box,enc r3.Cipher.Mix,enc r3.Cipher.Places,[vI r3.Cipher.Rounds]],enc r3.Key,enc r3.Start,[u5],cat [[u6],[vI r3.Vault.Next],[u7],[u8],enc r3.Vault.Head],cat [[u9],[u10],[u11]]]) hE hM Za rfl rfl rfl UT (Zg (cl1 (n:=290) (m:=72) (Zg (cl1 (n:=1) (m:=289) rfl (cl1 (n:=256) (m:=33) (Flat.len _) (cl1 (n:=16) (m:=17) (Flat.len _) (cl1 (n:=16) (m:=1) (Flat.len _) (cl1 (n:=1) (m:=0) rfl cl0)))))) (cl1 (n:=16) (m:=56) (Flat.len _) (cl1 (n:=16) (m:=40) (Flat.len _) (cl1 (n:=1) (m:=39) rfl (cl1 (n:=36) (m:=3) (Zg (cl1 (n:=1) (m:=35) rfl (cl1 (n:=1) (m:=34) rfl (cl1 (n:=1) (m:=33) rfl (cl1 (n:=1) (m:=32) rfl (cl1 (n:=32) (m:=0) (Flat.len _) cl0)))))) (cl1 (n:=3) (m:=0) (Zg (cl1 (n:=1) (m:=2) rfl (cl1 (n:=1) (m:=1) rfl (cl1 (n:=1) (m:=0) rfl cl0)))) cl0))))))) (Nat.le_of_eq ((Nat.zero_add _).trans (Eq.trans (Zg (cl1 (n:=290) (m:=72) (Zg (cl1 (n:=1) (m:=289) rfl (cl1 (n:=256) (m:=33) (Flat.len _) (cl1 (n:=16) (m:=17) (Flat.len _) (cl1 (n:=16) (m:=1) (Flat.len _) (cl1 (n:=1) (m:=0) rfl cl0)))))) (cl1 (n:=16) (m:=56) (Flat.len _) (cl1 (n:=16) (m:=40) (Flat.len _) (cl1 (n:=1) (m:=39) rfl (cl1 (n:=36) (m:=3) (Zg (cl1 (n:=1) (m:=35) rfl (cl1 (n:=1) (m:=34) rfl (cl1 (n:=1) (m:=33) rfl (cl1 (n:=1) (m:=32) rfl (cl1 (n:=32) (m:=0) (Flat.len _) cl0)))))) (cl1 (n:=3) (m:=0) (Zg (cl1 (n:=1) (m:=2) rfl (cl1 (n:=1) (m:=1) rfl (cl1 (n:=1) (m:=0) rfl cl0)))) cl0))))))) (Eq.symm (Zg (cl1 (n:=290) (m:=72) (Zg (cl1 (n:=1) (m:=289) rfl (cl1 (n:=256) (m:=33) (Flat.len _) (cl1 (n:=16) (m:=17) (Flat.len _) (cl1 (n:=16) (m:=1) (Flat.len _) (cl1 (n:=1) (m:=0) rfl cl0)))))) (cl1 (n:=16) (m:=56) (Flat.len _) (cl1 (n:=16) (m:=40) (Flat.len _) (cl1 (n:=1) (m:=39) rfl (cl1 (n:=36) (m:=3) (Zg (cl1 (n:=1) (m:=35) rfl (cl1 (n:=1) (m:=34) rfl (cl1 (n:=1) (m:=33) rfl (cl1 (n:=1) (m:=32) rfl (cl1 (n:=32) (m:=0) (Flat.len _) cl0)))))) (cl1 (n:=3) (m:=0) (Zg (cl1 (n:=1) (m:=2) rfl (cl1 (n:=1) (m:=1) rfl (cl1 (n:=1) (m:=0) rfl cl0)))) cl0))))))))))) (ZV (cc1 (ZV (cc1 (Flat.cell (r3.Cipher.Field : Int)) (cc1 (Flat.cell _) (cc1 (Flat.cell _) (cc1 (Flat.cell _) (cc1 (Flat.cell (r3.Cipher.Rounds : Int)) cc0)))))) (cc1 (Flat.cell _) (cc1 (Flat.cell _) (cc1 (Rep.cell (hM.sl (pre:=[_]) noB)) (cc1 (ZV (cc1 (Rep.cell (hM.sl (pre:=[_,_]) noB)) (cc1 (Flat.cell (r3.Vault.Next : Int)) (cc1 (Rep.cell (hM.sl (pre:=[_,_,_]) noB)) (cc1 (Rep.cell (hM.sl (pre:=[_,_,_,_]) noB)) (cc1 (Flat.cell _) cc0)))))) (cc1 (ZV (cc1 (Rep.cell (hM.sl (pre:=[_,_,_,_,_]) noB)) (cc1 (Rep.cell (hM.sl (pre:=[_,_,_,_,_,_]) noB)) (cc1 (Rep.cell (hM.sl (pre:=[_,_,_,_,_,_,_]) noB)) cc0)))) cc0))))))) (Zr (Eq.trans (Zg (cl1 (n:=290) (m:=72) (Zg (cl1 (n:=1) (m:=289) rfl (cl1 (n:=256) (m:=33) (Flat.len _) (cl1 (n:=16) (m:=17) (Flat.len _) (cl1 (n:=16) (m:=1) (Flat.len _) (cl1 (n:=1) (m:=0) rfl cl0)))))) (cl1 (n:=16) (m:=56) (Flat.len _) (cl1 (n:=16) (m:=40) (Flat.len _) (cl1 (n:=1) (m:=39) rfl (cl1 (n:=36) (m:=3) (Zg (cl1 (n:=1) (m:=35) rfl (cl1 (n:=1) (m:=34) rfl (cl1 (n:=1) (m:=33) rfl (cl1 (n:=1) (m:=32) rfl (cl1 (n:=32) (m:=0) (Flat.len _) cl0)))))) (cl1 (n:=3) (m:=0) (Zg (cl1 (n:=1) (m:=2) rfl (cl1 (n:=1) (m:=1) rfl (cl1 (n:=1) (m:=0) rfl cl0)))) cl0))))))) (Eq.symm (Zg (cl1 (n:=290) (m:=72) (Zg (cl1 (n:=1) (m:=289) rfl (cl1 (n:=256) (m:=33) (Flat.len _) (cl1 (n:=16) (m:=17) (Flat.len _) (cl1 (n:=16) (m:=1) (Flat.len _) (cl1 (n:=1) (m:=0) rfl cl0)))))) (cl1 (n:=16) (m:=56) (Flat.len _) (cl1 (n:=16) (m:=40) (Flat.len _) (cl1 (n:=1) (m:=39) rfl (cl1 (n:=36) (m:=3) (Zg (cl1 (n:=1) (m:=35) rfl (cl1 (n:=1) (m:=34) rfl (cl1 (n:=1) (m:=33) rfl (cl1 (n:=1) (m:=32) rfl (cl1 (n:=32) (m:=0) (Flat.len _) cl0)))))) (cl1 (n:=3) (m:=0) (Zg (cl1 (n:=1) (m:=2) rfl (cl1 (n:=1) (m:=1) rfl (cl1 (n:=1) (m:=0) rfl cl0)))) cl0)))))))))) fun w a hM hE=>Zf ?_
 have hr:=Option.some.inj hF
 subst hr
 have hq12 : Yx Tryz.prog _ _ (.cell 0 46) _:=ZR hE rfl UT rfl (hM.rawAt (pre:=[])) (Zg (cl1 (n:=290) (m:=72) (Zg (cl1 (n:=1) (m:=289) rfl (cl1 (n:=256) (m:=33) (Flat.len _) (cl1 (n:=16) (m:=17) (Flat.len _) (cl1 (n:=16) (m:=1) (Flat.len _) (cl1 (n:=1) (m:=0) rfl cl0)))))) (cl1 (n:=16) (m:=56) (Flat.len _) (cl1 (n:=16) (m:=40) (Flat.len _) (cl1 (n:=1) (m:=39) rfl (cl1 (n:=36) (m:=3) (Zg (cl1 (n:=1) (m:=35) rfl (cl1 (n:=1) (m:=34) rfl (cl1 (n:=1) (m:=33) rfl (cl1 (n:=1) (m:=32) rfl (cl1 (n:=32) (m:=0) (Flat.len _) cl0)))))) (cl1 (n:=3) (m:=0) (Zg (cl1 (n:=1) (m:=2) rfl (cl1 (n:=1) (m:=1) rfl (cl1 (n:=1) (m:=0) rfl cl0)))) cl0))))))) rfl
 have hM:=M.fst (l:=[_,_,_,_,_,_,_]) (((((((hM.pull (pre:=[_,_,_,_,_,_,_])).pull (pre:=[_,_,_,_,_,_,_])).pull (pre:=[_,_,_,_,_,_,_])).pull (pre:=[_,_,_,_,_,_,_])).pull (pre:=[_,_,_,_,_,_,_])).pull (pre:=[_,_,_,_,_,_,_])).pull (pre:=[_,_,_,_,_,_,_]))
 exact wp_ret (Zt hE rfl hq12 ⟨_,rfl,u5,u6,u7,u8,u9,u10,u11,rfl,hM.outF (YL (YL (YL (YL (YL (YL (YL VT))))))),hM.kept⟩)
def Uj (p1 : Int) (p2 : Int) (s4 : Int × Int) : Option (Fl (Int × Int) Int) :=
 if (decide (s4.2 ≥ p2)) = true then (((Xi s4.2).bind fun _=>(if ((Tq (Uu s4.1 s4.2) 1) == 1) = true then ((Xi (wr (s4.2 - p2))).bind fun _=>some (T8 s4.1 (H2 p1 (wr (s4.2 - p2))))) else (some s4.1) : Option (Int)).bind fun j13=>some j13 : Option (Int)).bind fun j9=>some (Fl.nx (j9,wr (s4.2 - 1)))) else (some (Fl.ex s4.1))
def US (p0 : Int) (p1 : Int) (p2 : Int) : Option (Int) :=
 (ZE (Uj p1 p2) (p0,15)).bind fun j1=>some j1
theorem B8 (w0 : World) (p0 : Int) (p1 : Int) (p2 : Int) (r : Int) (hF : US p0 p1 p2 = some r) :
  Calls Tryz.prog 126 [vI p0,vI p1,vI p2].toArray w0 (fun en w'=>∃ v,en = .returned v ∧ (v = (vI r) ∧ Kept (Old w0) w0 w')):=by
 refine ZB (n:=26) Tryz.func126 rfl rfl (nbl rfl) rfl ?_
 intro a hE
 have hM:=M.start w0
 unfold US at hF
 refine Zc (Ze hE Za ld rfl fun a hE=>Zf (wp_seq (Zc (Ze hE Za ld rfl fun a hE=>Zf ?_))))
 obtain ⟨j1,hl2,hF3⟩:=bind_some hF
 refine ZL (fun a w=>Env 26 a [(0,vI j1)] ∧ M (Old w0) w0 w []) ?_ ?_
 ·skip
  refine wp_block ?_
  refine ZC (fun (s4 : Int × Int) a w=>Env 26 a [(0,vI s4.1),(1,vI p1),(2,vI p2),(7,vI s4.2)] ∧ M (Old w0) w0 w []) hl2 ⟨hE.sub ⟨rfl,rfl,rfl,rfl,trivial⟩,hM⟩ ?_
  rintro s4 a w ⟨hE,hM⟩ o7 hs5 hx6
  unfold Uj at hs5
  refine wp_seq (Zc (Zd hE Za ld rfl fun a hE=>Zd hE Za ld rfl fun a hE=>Zi hE Za ld rfl rfl rfl fun a hE=>Zf ?_))
  refine Zp hE rfl ?_ ?_
  ·intro hb8
   have hs5:=Zz hs5 hb8
   refine wp_skip (Zu ?_)
   obtain ⟨j9,hl10,hF11⟩:=bind_some hs5
   refine ZQ (fun a w=>Env 26 a [(0,vI j9),(1,vI p1),(2,vI p2),(7,vI s4.2)] ∧ M (Old w0) w0 w []) ?_ ?_
   ·skip
    refine wp_block (Zc (Zd hE Za ld rfl fun a hE=>Zd hE Za ld rfl ?_)); intro a hE
    obtain ⟨_,e12,hl10⟩:=bind_some hl10
    have e12:=Wm e12
    refine Jg hE Za ld rfl rfl (Kc _ _ e12) fun a hE=>Zi hE Za ld rfl rfl rfl fun a hE=>Zi hE Za ld rfl rfl rfl fun a hE=>Zf ?_
    obtain ⟨j13,hl14,hF15⟩:=bind_some hl10
    refine ZL (fun a w=>Env 26 a [(0,vI j13),(1,vI p1),(2,vI p2),(7,vI s4.2)] ∧ M (Old w0) w0 w []) ?_ ?_
    ·skip
     refine Zp hE rfl ?_ ?_
     ·intro hb16
      have hl14:=Zz hl14 hb16
      refine wp_region_lit (Zd hE Za ld rfl fun a hE=>Zd hE Za ld rfl fun a hE=>Zd hE Za ld rfl fun a hE=>Zd hE Za ld rfl fun a hE=>Zi hE Za ld rfl rfl rfl ?_); intro a hE
      obtain ⟨_,e17,hl14⟩:=bind_some hl14
      have e17:=Wm e17
      refine Jg hE Za ld rfl rfl (AV _ _ e17) fun a hE=>Zi hE Za ld rfl rfl rfl fun a hE=>Ze hE Za ld rfl fun a hE=>Zj ?_
      have ht18:=Option.some.inj hl14
      subst ht18
      refine Zl ?_
      exact ⟨hE.sub ⟨rfl,rfl,rfl,rfl,trivial⟩,hM⟩
     ·intro hb16
      have hl14:=Zy hl14 hb16
      refine wp_skip ?_
      have ht19:=Option.some.inj hl14
      subst ht19
      refine Zl ?_
      exact ⟨hE.sub ⟨rfl,rfl,rfl,rfl,trivial⟩,hM⟩
    ·skip
     rintro a w ⟨hE,hM⟩
     refine ZZ ?_
     have ht20:=Option.some.inj hF15
     subst ht20
     refine Zl ?_
     exact ⟨hE.sub ⟨rfl,rfl,rfl,rfl,trivial⟩,hM⟩
   ·skip
    rintro a w ⟨hE,hM⟩
    refine wp_region_lit (Zd hE Za ld rfl fun a hE=>Zi hE Za ld rfl rfl rfl fun a hE=>Ze hE Za ld rfl fun a hE=>Zj (Zl ?_))
    exact ⟨_,(ois hF11),hE.sub ⟨rfl,rfl,rfl,rfl,trivial⟩,hM⟩
  ·intro hb8
   have hs5:=Zy hs5 hb8
   refine wp_exit (Zm (Zm (Z0 ?_)))
   have ht21:=hx6 _ (ois hs5)
   subst ht21
   refine Zl ?_
   exact ⟨hE.sub ⟨rfl,trivial⟩,hM⟩
 ·skip
  rintro a w ⟨hE,hM⟩
  refine Zu (Zc (Zd hE Za ld rfl fun a hE=>Ze hE Za ld rfl fun a hE=>Zf ?_))
  have hr:=Option.some.inj hF3
  subst hr
  exact wp_ret (Zt hE rfl (Zs hE rfl) ⟨_,rfl,rfl,hM.kept⟩)
def YZ (p1 : UInt8) (p2 : UInt8) (s4 : Int × Int) : Option (Fl (Int × Int) Int) :=
 if (decide (s4.2 < 8)) = true then (((Xi s4.2).bind fun _=>(if (((HI p2 s4.2) &&& 1) == 1) = true then ((Xi s4.2).bind fun _=>some (T8 s4.1 (H2 (bI p1) s4.2))) else (some s4.1) : Option (Int)).bind fun j13=>some j13 : Option (Int)).bind fun j9=>some (Fl.nx (j9,wr (s4.2 + 1)))) else (some (Fl.ex s4.1))
def ZX (p0 : Int) (p1 : UInt8) (p2 : UInt8) : Option (UInt8) :=
 (ZE (YZ p1 p2) (0,0)).bind fun j1=>(US j1 p0 8).bind fun r22=>some (Zx r22)
theorem Yr (w0 : World) (p0 : Int) (p1 : UInt8) (p2 : UInt8) (r : UInt8) (hF : ZX p0 p1 p2 = some r) :
  Calls Tryz.prog 139 [vI p0,vB p1,vB p2].toArray w0 (fun en w'=>∃ v,en = .returned v ∧ (v = (vB r) ∧ Kept (Old w0) w0 w')):=by
 refine ZB (n:=28) Tryz.func139 rfl rfl (nbl rfl) rfl ?_
 intro a hE
 have hM:=M.start w0
 unfold ZX at hF
 refine Zc (Ze hE Za ld rfl fun a hE=>Zf (Zc (Ze hE Za ld rfl fun a hE=>Zf (wp_seq (Zc (Zd hE Za ld rfl fun a hE=>Zf ?_))))))
 obtain ⟨j1,hl2,hF3⟩:=bind_some hF
 refine ZL (fun a w=>Env 28 a [(0,vI p0),(7,vI j1)] ∧ M (Old w0) w0 w []) ?_ ?_
 ·skip
  refine wp_block ?_
  refine ZC (fun (s4 : Int × Int) a w=>Env 28 a [(0,vI p0),(1,vB p1),(2,vB p2),(7,vI s4.1),(9,vI s4.2)] ∧ M (Old w0) w0 w []) hl2 ⟨hE.sub ⟨rfl,rfl,rfl,rfl,rfl,trivial⟩,hM⟩ ?_
  rintro s4 a w ⟨hE,hM⟩ o7 hs5 hx6
  unfold YZ at hs5
  refine Zc (Zi hE Za ld rfl rfl rfl fun a hE=>Zf (wp_seq ?_))
  refine Zp hE rfl ?_ ?_
  ·intro hb8
   have hs5:=Zz hs5 hb8
   refine wp_skip (Zu ?_)
   obtain ⟨j9,hl10,hF11⟩:=bind_some hs5
   refine ZQ (fun a w=>Env 28 a [(0,vI p0),(1,vB p1),(2,vB p2),(7,vI j9),(9,vI s4.2)] ∧ M (Old w0) w0 w []) ?_ ?_
   ·skip
    refine wp_block (Zc (Zd hE Za ld rfl fun a hE=>Ze hE Za ld rfl fun a hE=>Zf (Zc (Zd hE Za ld rfl fun a hE=>Zd hE Za ld rfl ?_)))); intro a hE
    obtain ⟨_,e12,hl10⟩:=bind_some hl10
    have e12:=Wm e12
    refine Jg hE Za ld rfl rfl (ye _ _ e12) fun a hE=>Zi hE Za ld rfl rfl (bB_and (HI p2 s4.2) 1) fun a hE=>Zi hE Za ld rfl rfl (yC ((HI p2 s4.2) &&& 1) 1) fun a hE=>Zf ?_
    obtain ⟨j13,hl14,hF15⟩:=bind_some hl10
    refine ZL (fun a w=>Env 28 a [(0,vI p0),(1,vB p1),(2,vB p2),(7,vI j13),(9,vI s4.2)] ∧ M (Old w0) w0 w []) ?_ ?_
    ·skip
     refine Zp hE rfl ?_ ?_
     ·intro hb16
      have hl14:=Zz hl14 hb16
      refine wp_region_lit (Zd hE Za ld rfl fun a hE=>Zd hE Za ld rfl fun a hE=>Yb hE Za ld rfl Tryz.underlying5 Tryz.underlying2 ?_); intro a hE
      rw [QK] at hE
      refine Zd hE Za ld rfl ?_; intro a hE
      obtain ⟨_,e17,hl14⟩:=bind_some hl14
      have e17:=Wm e17
      refine Jg hE Za ld rfl rfl (AV _ _ e17) fun a hE=>Zi hE Za ld rfl rfl rfl fun a hE=>Ze hE Za ld rfl fun a hE=>Zj ?_
      have ht18:=Option.some.inj hl14
      subst ht18
      refine Zl ?_
      exact ⟨hE.sub ⟨rfl,rfl,rfl,rfl,rfl,trivial⟩,hM⟩
     ·intro hb16
      have hl14:=Zy hl14 hb16
      refine wp_skip ?_
      have ht19:=Option.some.inj hl14
      subst ht19
      refine Zl ?_
      exact ⟨hE.sub ⟨rfl,rfl,rfl,rfl,rfl,trivial⟩,hM⟩
    ·skip
     rintro a w ⟨hE,hM⟩
     refine ZZ ?_
     have ht20:=Option.some.inj hF15
     subst ht20
     refine Zl ?_
     exact ⟨hE.sub ⟨rfl,rfl,rfl,rfl,rfl,trivial⟩,hM⟩
   ·skip
    rintro a w ⟨hE,hM⟩
    refine wp_region_lit (Zi hE Za ld rfl rfl rfl fun a hE=>Zd hE Za ld rfl fun a hE=>Zj (Zl ?_))
    exact ⟨_,(ois hF11),hE.sub ⟨rfl,rfl,rfl,rfl,rfl,trivial⟩,hM⟩
  ·intro hb8
   have hs5:=Zy hs5 hb8
   refine wp_exit (Zm (Zm (Z0 ?_)))
   have ht21:=hx6 _ (ois hs5)
   subst ht21
   refine Zl ?_
   exact ⟨hE.sub ⟨rfl,rfl,trivial⟩,hM⟩
 ·skip
  rintro a w ⟨hE,hM⟩
  refine Zu (Zc (Zd hE Za ld rfl fun a hE=>Zd hE Za ld rfl ?_)); intro a hE
  obtain ⟨r22,e23,hF3⟩:=bind_some hF3
  refine Zw hE Za ld rfl cb126 (B8 _ j1 p0 8 r22 e23) ?_
  rintro v w a ⟨rfl,hK⟩ hE
  have hM:=hM.keep hK
  refine Yb hE Za ld rfl Tryz.underlying2 Tryz.underlying5 ?_; intro a hE
  rw [ZN] at hE
  refine Ze hE Za ld rfl fun a hE=>Zf ?_
  have hr:=Option.some.inj hF3
  subst hr
  exact wp_ret (Zt hE rfl (Zs hE rfl) ⟨_,rfl,rfl,hM.kept⟩)
def WJ (p0 : Int) (s4 : UInt8 × Int × UInt8) : Option (Fl (UInt8 × Int × UInt8) UInt8) :=
 if (decide (s4.2.1 > 0)) = true then (((if ((Int.tmod s4.2.1 2) == 1) = true then ((ZX p0 s4.2.2 s4.1).bind fun r16=>some r16) else (some s4.2.2) : Option (UInt8)).bind fun j12=>(ZX p0 s4.1 s4.1).bind fun r20=>some (r20,j12) : Option (UInt8 × UInt8)).bind fun j9=>some (Fl.nx (j9.1,wr (Int.tdiv s4.2.1 2),j9.2))) else (some (Fl.ex s4.2.2))
def Xb (p0 : Int) (p1 : UInt8) (p2 : Int) : Option (UInt8) :=
 (ZE (WJ p0) (p1,p2,1)).bind fun j1=>some j1
theorem Kh (w0 : World) (p0 : Int) (p1 : UInt8) (p2 : Int) (r : UInt8) (hF : Xb p0 p1 p2 = some r) :
  Calls Tryz.prog 110 [vI p0,vB p1,vI p2].toArray w0 (fun en w'=>∃ v,en = .returned v ∧ (v = (vB r) ∧ Kept (Old w0) w0 w')):=by
 refine ZB (n:=24) Tryz.func110 rfl rfl (nbl rfl) rfl ?_
 intro a hE
 have hM:=M.start w0
 unfold Xb at hF
 refine Zc (Ze hE Za ld rfl fun a hE=>Zf (Zc (Ze hE Za ld rfl fun a hE=>Zf ?_)))
 obtain ⟨j1,hl2,hF3⟩:=bind_some hF
 refine ZQ (fun a w=>Env 24 a [(7,vB j1)] ∧ M (Old w0) w0 w []) ?_ ?_
 ·skip
  refine wp_block ?_
  refine ZC (fun (s4 : UInt8 × Int × UInt8) a w=>Env 24 a [(0,vI p0),(1,vB s4.1),(2,vI s4.2.1),(7,vB s4.2.2)] ∧ M (Old w0) w0 w []) hl2 ⟨hE.sub ⟨rfl,rfl,rfl,rfl,trivial⟩,hM⟩ ?_
  rintro s4 a w ⟨hE,hM⟩ o7 hs5 hx6
  unfold WJ at hs5
  refine wp_seq (Zc (Zd hE Za ld rfl fun a hE=>Zi hE Za ld rfl rfl rfl fun a hE=>Zf ?_))
  refine Zp hE rfl ?_ ?_
  ·intro hb8
   have hs5:=Zz hs5 hb8
   refine wp_skip (Zu ?_)
   obtain ⟨j9,hl10,hF11⟩:=bind_some hs5
   refine ZQ (fun a w=>Env 24 a [(0,vI p0),(1,vB j9.1),(2,vI s4.2.1),(7,vB j9.2)] ∧ M (Old w0) w0 w []) ?_ ?_
   ·skip
    refine wp_block ?_
    obtain ⟨j12,hl13,hF14⟩:=bind_some hl10
    refine ZQ (fun a w=>Env 24 a [(0,vI p0),(1,vB s4.1),(2,vI s4.2.1),(7,vB j12)] ∧ M (Old w0) w0 w []) ?_ ?_
    ·skip
     refine Zc (Zd hE Za ld rfl fun a hE=>Zi hE Za ld rfl rfl (TO _ _ (by decide)) fun a hE=>Zi hE Za ld rfl rfl rfl fun a hE=>Zf ?_)
     refine Zp hE rfl ?_ ?_
     ·intro hb15
      have hl13:=Zz hl13 hb15
      refine wp_region_lit (Zd hE Za ld rfl fun a hE=>Zd hE Za ld rfl fun a hE=>Zd hE Za ld rfl ?_); intro a hE
      obtain ⟨r16,e17,hl13⟩:=bind_some hl13
      refine Zw hE Za ld rfl Jk (Yr _ p0 s4.2.2 s4.1 r16 e17) ?_
      rintro v w a ⟨rfl,hK⟩ hE
      have hM:=hM.keep hK
      refine Ze hE Za ld rfl fun a hE=>Zj ?_
      have ht18:=Option.some.inj hl13
      subst ht18
      refine Zl ?_
      exact ⟨hE.sub ⟨rfl,rfl,rfl,rfl,trivial⟩,hM⟩
     ·intro hb15
      have hl13:=Zy hl13 hb15
      refine wp_skip ?_
      have ht19:=Option.some.inj hl13
      subst ht19
      refine Zl ?_
      exact ⟨hE.sub ⟨rfl,rfl,rfl,rfl,trivial⟩,hM⟩
    ·skip
     rintro a w ⟨hE,hM⟩
     refine wp_region_lit (Zd hE Za ld rfl fun a hE=>Zd hE Za ld rfl fun a hE=>Zd hE Za ld rfl ?_); intro a hE
     obtain ⟨r20,e21,hF14⟩:=bind_some hF14
     refine Zw hE Za ld rfl Jk (Yr _ p0 s4.1 s4.1 r20 e21) ?_
     rintro v w a ⟨rfl,hK⟩ hE
     have hM:=hM.keep hK
     refine Ze hE Za ld rfl fun a hE=>Zj (ZZ ?_)
     have ht22:=Option.some.inj hF14
     subst ht22
     refine Zl ?_
     exact ⟨hE.sub ⟨rfl,rfl,rfl,rfl,trivial⟩,hM⟩
   ·skip
    rintro a w ⟨hE,hM⟩
    refine wp_region_lit (Zd hE Za ld rfl fun a hE=>Zi hE Za ld rfl rfl (BE _ _ (by decide)) fun a hE=>Ze hE Za ld rfl fun a hE=>Zj (Zl ?_))
    exact ⟨_,(ois hF11),hE.sub ⟨rfl,rfl,rfl,rfl,trivial⟩,hM⟩
  ·intro hb8
   have hs5:=Zy hs5 hb8
   refine wp_exit (Zm (Zm (Z0 ?_)))
   have ht23:=hx6 _ (ois hs5)
   subst ht23
   refine Zl ?_
   exact ⟨hE.sub ⟨rfl,trivial⟩,hM⟩
 ·skip
  rintro a w ⟨hE,hM⟩
  refine Zc (Zd hE Za ld rfl fun a hE=>Ze hE Za ld rfl fun a hE=>Zf ?_)
  have hr:=Option.some.inj hF3
  subst hr
  exact wp_ret (Zt hE rfl (Zs hE rfl) ⟨_,rfl,rfl,hM.kept⟩)
def Ya (p0 : Int) (p1 : UInt8) : Option (UInt8) :=
 (Xb p0 p1 254).bind fun r1=>some r1
theorem VV (w0 : World) (p0 : Int) (p1 : UInt8) (r : UInt8) (hF : Ya p0 p1 = some r) :
  Calls Tryz.prog 44 [vI p0,vB p1].toArray w0 (fun en w'=>∃ v,en = .returned v ∧ (v = (vB r) ∧ Kept (Old w0) w0 w')):=by
 refine ZB (n:=8) Tryz.func44 rfl rfl (nbl rfl) rfl ?_
 intro a hE
 have hM:=M.start w0
 unfold Ya at hF
 refine Zc (Ze hE Za ld rfl fun a hE=>Zf (Zc (Zd hE Za ld rfl fun a hE=>Zd hE Za ld rfl ?_))); intro a hE
 obtain ⟨r1,e2,hF⟩:=bind_some hF
 refine Zw hE Za ld rfl cb110 (Kh _ p0 p1 254 r1 e2) ?_
 rintro v w a ⟨rfl,hK⟩ hE
 have hM:=hM.keep hK
 refine Ze hE Za ld rfl fun a hE=>Zf ?_
 have hr:=Option.some.inj hF
 subst hr
 exact wp_ret (Zt hE rfl (Zs hE rfl) ⟨_,rfl,rfl,hM.kept⟩)
def Z6 (p0 : UInt8) (p1 : Int) : Option (UInt8) :=
 (Xi (wru (BitVec.ofInt 64 (IntKind.u64.wrap p1) &&& BitVec.ofInt 64 7).toNat)).bind fun _=>(Xi (IntKind.u64.wrap (8 - (wru (BitVec.ofInt 64 (IntKind.u64.wrap p1) &&& BitVec.ofInt 64 7).toNat)))).bind fun _=>some ((shlB p0 (wru (BitVec.ofInt 64 (IntKind.u64.wrap p1) &&& BitVec.ofInt 64 7).toNat)) ||| (HI p0 (IntKind.u64.wrap (8 - (wru (BitVec.ofInt 64 (IntKind.u64.wrap p1) &&& BitVec.ofInt 64 7).toNat)))))
theorem UR (w0 : World) (p0 : UInt8) (p1 : Int) (r : UInt8) (hF : Z6 p0 p1 = some r) :
  Calls Tryz.prog 45 [vB p0,vI p1].toArray w0 (fun en w'=>∃ v,en = .returned v ∧ (v = (vB r) ∧ Kept (Old w0) w0 w')):=by
 refine ZB (n:=17) Tryz.func45 rfl rfl (nbl rfl) rfl ?_
 intro a hE
 have hM:=M.start w0
 unfold Z6 at hF
 refine Zc (Ze hE Za ld rfl fun a hE=>Zf (Zc (Zd hE Za ld rfl fun a hE=>Yb hE Za ld rfl Tryz.underlying3 Tryz.underlying147 fun a hE=>Zi hE Za ld rfl rfl rfl fun a hE=>Ze hE Za ld rfl fun a hE=>Zf (Zc (Zd hE Za ld rfl fun a hE=>Zd hE Za ld rfl ?_))))); intro a hE
 obtain ⟨_,e1,hF⟩:=bind_some hF
 have e1:=Wm e1
 refine Jg hE Za ld rfl rfl (bB_shl _ _ e1) fun a hE=>Zd hE Za ld rfl fun a hE=>Zd hE Za ld rfl fun a hE=>Zi hE Za ld rfl rfl rfl ?_; intro a hE
 obtain ⟨_,e2,hF⟩:=bind_some hF
 have e2:=Wm e2
 refine Jg hE Za ld rfl rfl (ye _ _ e2) fun a hE=>Zi hE Za ld rfl rfl (bB_or (shlB p0 (wru (BitVec.ofInt 64 (IntKind.u64.wrap p1) &&& BitVec.ofInt 64 7).toNat)) (HI p0 (IntKind.u64.wrap (8 - (wru (BitVec.ofInt 64 (IntKind.u64.wrap p1) &&& BitVec.ofInt 64 7).toNat))))) fun a hE=>Ze hE Za ld rfl fun a hE=>Zf ?_
 have hr:=Option.some.inj hF
 subst hr
 exact wp_ret (Zt hE rfl (Zs hE rfl) ⟨_,rfl,rfl,hM.kept⟩)
def XD (s8 : (Vector UInt8 256) × Int) : Option (Fl ((Vector UInt8 256) × Int) (Vector UInt8 256)) :=
 if (decide (s8.2 < 256)) = true then ((Ya 285 (Zx s8.2)).bind fun r13=>(Z6 r13 1).bind fun r15=>(Z6 r13 4).bind fun r17=>(ZI s8.1 s8.2).bind fun x20=>some (Fl.nx ((s8.1.setIfInBounds (s8.2).toNat (((r13 ^^^ r15) ^^^ r17) ^^^ 90)),wr (s8.2 + 1)))) else (some (Fl.ex s8.1))
def WL (s26 : (Vector (Vector UInt8 4) 4) × Int) (s34 : (Vector (Vector UInt8 4) 4) × Int) : Option (Fl ((Vector (Vector UInt8 4) 4) × Int) (Vector (Vector UInt8 4) 4)) :=
 if (decide (s34.2 < 4)) = true then ((Ya 285 (Zx (T8 s26.2 (wr (4 + s34.2))))).bind fun r40=>(ZI s34.1 s26.2).bind fun x43=>(ZI x43 s34.2).bind fun x46=>some (Fl.nx ((s34.1.setIfInBounds (s26.2).toNat (x43.setIfInBounds (s34.2).toNat r40)),wr (s34.2 + 1)))) else (some (Fl.ex s34.1))
def WM (s26 : (Vector (Vector UInt8 4) 4) × Int) : Option (Fl ((Vector (Vector UInt8 4) 4) × Int) (Vector (Vector UInt8 4) 4)) :=
 if (decide (s26.2 < 4)) = true then ((ZE (WL s26) (s26.1,0)).bind fun j31=>some (Fl.nx (j31,wr (s26.2 + 1)))) else (some (Fl.ex s26.1))
def WF (s53 : (Vector UInt8 16) × Int) : Option (Fl ((Vector UInt8 16) × Int) (Vector UInt8 16)) :=
 if (decide (s53.2 < 16)) = true then ((ZI s53.1 s53.2).bind fun x59=>some (Fl.nx ((s53.1.setIfInBounds (s53.2).toNat (Zx (Int.tmod (wr ((wr (13 * s53.2)) + 4)) 16))),wr (s53.2 + 1)))) else (some (Fl.ex s53.1))
end

end Go.Proofs.YtlpppjjlffgkmaaGreat
