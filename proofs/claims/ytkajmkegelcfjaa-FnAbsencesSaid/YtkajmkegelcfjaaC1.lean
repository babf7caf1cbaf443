/- The walk of what the law reaches: contracts of functions. -/
import Derived.Test.YtkajmkegelcfjaaK2
import Derived.Test.YtkajmkegelcfjaaProg
set_option linter.unusedVariables false
set_option linter.unusedSimpArgs false
set_option maxRecDepth 20000
set_option maxHeartbeats 400000
namespace Go.Proofs.Ytkajmkegelcfjaa
open Go
open Flat (enc)
noncomputable section
structure Gl01Source where
 code : (List UInt8)
 at0 : Int
 hash : Int
 deriving DecidableEq,Inhabited
instance : Dat Gl01Source:=⟨fun x=>Dat.bd (α:=(List UInt8) × Int × Int) (x.code,x.at0,x.hash),fun x=>Dat.sz (α:=(List UInt8) × Int × Int) (x.code,x.at0,x.hash) + 1⟩
instance : Rep Gl01Source:=repIso (α:=(List UInt8) × Int × Int) (fun x=>(x.code,x.at0,x.hash))
theorem JP {S : Nat → Prop} {w : World} {x : Gl01Source} {cs : List Value} {fp : List Nat} (h : Rep.sat S w x cs fp) : ∃ (u1 : Value),∃ (g1 : List Nat),cs = cat [[u1],enc x.at0,enc x.hash] ∧ fp = g1 ∧ Rep.sat S w x.code [u1] g1:=by
 obtain ⟨c0,d0,f0,q0,rfl,rfl,h0,hr0⟩:=h
 obtain ⟨u1,rfl⟩:=U5 h0
 obtain ⟨c1,d1,f1,q1,rfl,rfl,h1,hr1⟩:=hr0
 obtain ⟨rfl,rfl⟩:=h1
 obtain ⟨rfl,rfl⟩:=hr1
 exact ⟨u1,_,rfl,by simp,h0⟩
theorem HA {S : Nat → Prop} {w : World} {x : Gl01Source} {u1 : Value} {fp : List Nat} (h : Rep.sat S w x (cat [[u1],enc x.at0,enc x.hash]) fp) : ∃ (g1 : List Nat),fp = g1 ∧ Rep.sat S w x.code [u1] g1:=by
 obtain ⟨w1,g1,hc,hf,s1⟩:=JP h
 obtain ⟨e1,k1⟩:=UW hc rfl
 obtain ⟨e2,k2⟩:=UW k1 rfl
 obtain rfl:=(List.cons.inj e1).1
 exact ⟨g1,hf,s1⟩
theorem jw {S : Nat → Prop} {w : World} {x : Gl01Source} {cs : List Value} (h : Rep.sat S w x cs []) : ∃ u1,cs = cat [[u1],enc x.at0,enc x.hash] ∧ Rep.sat S w x.code [u1] []:=by
 obtain ⟨c0,d0,f0,g0,rfl,hf0,h0,hr0⟩:=h
 obtain ⟨rfl,rfl⟩:=List.append_eq_nil_iff.1 hf0.symm
 obtain ⟨u1,rfl⟩:=U5 h0
 obtain ⟨c1,d1,f1,g1,rfl,hf1,h1,hr1⟩:=hr0
 obtain ⟨rfl,rfl⟩:=List.append_eq_nil_iff.1 hf1.symm
 obtain ⟨rfl,_⟩:=h1
 obtain ⟨rfl,_⟩:=hr1
 exact ⟨u1,rfl,h0⟩
theorem HN {S : Nat → Prop} {w : World} {x : Gl01Source} {u1 : Value} {g1 fp : List Nat} (h1 : Rep.sat S w x.code [u1] g1) (hfp : fp = g1) : Rep.sat S w x (cat [[u1],enc x.at0,enc x.hash]) fp:=by
 rw [hfp]
 refine ⟨_,_,g1,[],rfl,(by simp),h1,?_⟩
 refine ⟨_,_,[],[],rfl,(by simp),⟨rfl,rfl⟩,?_⟩
 exact ⟨rfl,rfl⟩
theorem jt {St : Nat → Prop} {w0 w : World} {its : List Item} {i1 : Item} {x : Gl01Source} {u1 : Value} (h : M St w0 w (i1 :: its)) (s1 : SatI i1 x.code u1) : M St w0 w (own NoB x (cat [[u1],enc x.at0,enc x.hash]) :: its):=h.packL (m:=[_]) (UG noB) fun fp h=>by obtain ⟨_,_,rfl,_,k1,rfl⟩:=h; exact HN (s1 _ _ k1) (by simp)
theorem ju {St : Nat → Prop} {w0 w : World} {its : List Item} {x : Gl01Source} {u1 : Value} (h : M St w0 w (own NoB x (cat [[u1],enc x.at0,enc x.hash]) :: its)) : M St w0 w (own NoB x.code [u1] :: its):=h.unpackL (m:=[own NoB x.code [u1]]) fun fp h=>by obtain ⟨_,rfl,s1⟩:=HA h; exact Xw.one (UG noB) s1
structure GAbsence where
 Place : Int
 Neighbours : (List (Vector UInt8 32))
 Proofs : (List (List (Vector UInt8 32)))
 deriving DecidableEq,Inhabited
instance : Dat GAbsence:=⟨fun x=>Dat.bd (α:=Int × (List (Vector UInt8 32)) × (List (List (Vector UInt8 32)))) (x.Place,x.Neighbours,x.Proofs),fun x=>Dat.sz (α:=Int × (List (Vector UInt8 32)) × (List (List (Vector UInt8 32)))) (x.Place,x.Neighbours,x.Proofs) + 1⟩
instance : Rep GAbsence:=repIso (α:=Int × (List (Vector UInt8 32)) × (List (List (Vector UInt8 32)))) (fun x=>(x.Place,x.Neighbours,x.Proofs))
theorem BC {S : Nat → Prop} {w : World} {x : GAbsence} {cs : List Value} {fp : List Nat} (h : Rep.sat S w x cs fp) : ∃ (u1 : Value) (u2 : Value),∃ (g1 : List Nat) (g2 : List Nat),cs = cat [enc x.Place,[u1],[u2]] ∧ fp = (g1 ++ g2) ∧ Rep.sat S w x.Neighbours [u1] g1 ∧ Rep.sat S w x.Proofs [u2] g2:=by
 obtain ⟨c0,d0,f0,q0,rfl,rfl,h0,hr0⟩:=h
 obtain ⟨rfl,rfl⟩:=h0
 obtain ⟨c1,d1,f1,q1,rfl,rfl,h1,hr1⟩:=hr0
 obtain ⟨u1,rfl⟩:=U5 h1
 obtain ⟨u2,rfl⟩:=U5 hr1
 exact ⟨u1,u2,_,_,rfl,by simp,h1,hr1⟩
theorem BB {S : Nat → Prop} {w : World} {x : GAbsence} {u1 u2 : Value} {fp : List Nat} (h : Rep.sat S w x (cat [enc x.Place,[u1],[u2]]) fp) : ∃ (g1 : List Nat) (g2 : List Nat),fp = (g1 ++ g2) ∧ Rep.sat S w x.Neighbours [u1] g1 ∧ Rep.sat S w x.Proofs [u2] g2:=by
 obtain ⟨w1,w2,g1,g2,hc,hf,s1,s2⟩:=BC h
 obtain ⟨e1,k1⟩:=UW hc rfl
 obtain ⟨e2,k2⟩:=UW k1 rfl
 obtain rfl:=(List.cons.inj e2).1
 obtain rfl:=(List.cons.inj k2).1
 exact ⟨g1,g2,hf,s1,s2⟩
theorem kg {S : Nat → Prop} {w : World} {x : GAbsence} {cs : List Value} (h : Rep.sat S w x cs []) : ∃ u1 u2,cs = cat [enc x.Place,[u1],[u2]] ∧ Rep.sat S w x.Neighbours [u1] [] ∧ Rep.sat S w x.Proofs [u2] []:=by
 obtain ⟨c0,d0,f0,g0,rfl,hf0,h0,hr0⟩:=h
 obtain ⟨rfl,rfl⟩:=List.append_eq_nil_iff.1 hf0.symm
 obtain ⟨rfl,_⟩:=h0
 obtain ⟨c1,d1,f1,g1,rfl,hf1,h1,hr1⟩:=hr0
 obtain ⟨rfl,rfl⟩:=List.append_eq_nil_iff.1 hf1.symm
 obtain ⟨u1,rfl⟩:=U5 h1
 obtain ⟨u2,rfl⟩:=U5 hr1
 exact ⟨u1,u2,rfl,h1,hr1⟩
theorem Jk {S : Nat → Prop} {w : World} {x : GAbsence} {u1 u2 : Value} {g1 g2 fp : List Nat} (h1 : Rep.sat S w x.Neighbours [u1] g1) (h2 : Rep.sat S w x.Proofs [u2] g2) (hfp : fp = (g1 ++ g2)) : Rep.sat S w x (cat [enc x.Place,[u1],[u2]]) fp:=by
 rw [hfp]
 refine ⟨_,_,[],(g1 ++ g2),rfl,(by simp),⟨rfl,rfl⟩,?_⟩
 refine ⟨_,_,g1,g2,rfl,(by simp),h1,?_⟩
 exact h2
theorem kh {St : Nat → Prop} {w0 w : World} {its : List Item} {i1 i2 : Item} {x : GAbsence} {u1 u2 : Value} (h : M St w0 w (i1 :: i2 :: its)) (s1 : SatI i1 x.Neighbours u1) (s2 : SatI i2 x.Proofs u2) : M St w0 w (own NoB x (cat [enc x.Place,[u1],[u2]]) :: its):=h.packL (m:=[_,_]) (UG noB) fun fp h=>by obtain ⟨_,_,rfl,_,k1,_,_,rfl,_,k2,rfl⟩:=h; exact Jk (s1 _ _ k1) (s2 _ _ k2) (by simp)
theorem kd {St : Nat → Prop} {w0 w : World} {its : List Item} {x : GAbsence} {u1 u2 : Value} (h : M St w0 w (own NoB x (cat [enc x.Place,[u1],[u2]]) :: its)) : M St w0 w (own NoB x.Neighbours [u1] :: own NoB x.Proofs [u2] :: its):=h.unpackL (m:=[own NoB x.Neighbours [u1],own NoB x.Proofs [u2]]) fun fp h=>by obtain ⟨_,_,rfl,s1,s2⟩:=BB h; exact (Xw.cons (UG noB) s1 (Xw.one (UG noB) s2))
theorem jv (w : World) : Rep.sat NoB w (⟨(0 : Int),([] : (List (Vector UInt8 32))),([] : (List (List (Vector UInt8 32))))⟩ : GAbsence) (cat [(enc (0 : Int)),[.slice none 0 0],[.slice none 0 0]]) []:=Jk KD KD rfl
structure Gengine where
 box : (Vector UInt8 256)
 backBox : (Vector UInt8 256)
 places : (Vector UInt8 16)
 backPlaces : (Vector UInt8 16)
 mixer : (Ref (Vector (Vector (Vector UInt8 256) 4) 4))
 backMixer : (Ref (Vector (Vector (Vector UInt8 256) 4) 4))
 rounds : Int
 deriving DecidableEq,Inhabited
instance : Dat Gengine:=⟨fun x=>Dat.bd (α:=(Vector UInt8 256) × (Vector UInt8 256) × (Vector UInt8 16) × (Vector UInt8 16) × (Ref (Vector (Vector (Vector UInt8 256) 4) 4)) × (Ref (Vector (Vector (Vector UInt8 256) 4) 4)) × Int) (x.box,x.backBox,x.places,x.backPlaces,x.mixer,x.backMixer,x.rounds),fun x=>Dat.sz (α:=(Vector UInt8 256) × (Vector UInt8 256) × (Vector UInt8 16) × (Vector UInt8 16) × (Ref (Vector (Vector (Vector UInt8 256) 4) 4)) × (Ref (Vector (Vector (Vector UInt8 256) 4) 4)) × Int) (x.box,x.backBox,x.places,x.backPlaces,x.mixer,x.backMixer,x.rounds) + 1⟩
instance : Rep Gengine:=repIso (α:=(Vector UInt8 256) × (Vector UInt8 256) × (Vector UInt8 16) × (Vector UInt8 16) × (Ref (Vector (Vector (Vector UInt8 256) 4) 4)) × (Ref (Vector (Vector (Vector UInt8 256) 4) 4)) × Int) (fun x=>(x.box,x.backBox,x.places,x.backPlaces,x.mixer,x.backMixer,x.rounds))
theorem B1 {S : Nat → Prop} {w : World} {x : Gengine} {cs : List Value} {fp : List Nat} (h : Rep.sat S w x cs fp) : ∃ (u1 : Value) (u2 : Value),∃ (g1 : List Nat) (g2 : List Nat),cs = cat [enc x.box,enc x.backBox,enc x.places,enc x.backPlaces,[u1],[u2],enc x.rounds] ∧ fp = (g1 ++ g2) ∧ Rep.sat S w x.mixer [u1] g1 ∧ Rep.sat S w x.backMixer [u2] g2:=by
 obtain ⟨c0,d0,f0,q0,rfl,rfl,h0,hr0⟩:=h
 obtain ⟨rfl,rfl⟩:=h0
 obtain ⟨c1,d1,f1,q1,rfl,rfl,h1,hr1⟩:=hr0
 obtain ⟨rfl,rfl⟩:=h1
 obtain ⟨c2,d2,f2,q2,rfl,rfl,h2,hr2⟩:=hr1
 obtain ⟨rfl,rfl⟩:=h2
 obtain ⟨c3,d3,f3,q3,rfl,rfl,h3,hr3⟩:=hr2
 obtain ⟨rfl,rfl⟩:=h3
 obtain ⟨c4,d4,f4,q4,rfl,rfl,h4,hr4⟩:=hr3
 obtain ⟨u1,rfl⟩:=Qx h4
 obtain ⟨c5,d5,f5,q5,rfl,rfl,h5,hr5⟩:=hr4
 obtain ⟨u2,rfl⟩:=Qx h5
 obtain ⟨rfl,rfl⟩:=hr5
 exact ⟨u1,u2,_,_,rfl,by simp,h4,h5⟩
theorem kf {S : Nat → Prop} {w : World} {x : Gengine} {u1 u2 : Value} {fp : List Nat} (h : Rep.sat S w x (cat [enc x.box,enc x.backBox,enc x.places,enc x.backPlaces,[u1],[u2],enc x.rounds]) fp) : ∃ (g1 : List Nat) (g2 : List Nat),fp = (g1 ++ g2) ∧ Rep.sat S w x.mixer [u1] g1 ∧ Rep.sat S w x.backMixer [u2] g2:=by
 obtain ⟨w1,w2,g1,g2,hc,hf,s1,s2⟩:=B1 h
 obtain ⟨e1,k1⟩:=UW hc rfl
 obtain ⟨e2,k2⟩:=UW k1 rfl
 obtain ⟨e3,k3⟩:=UW k2 rfl
 obtain ⟨e4,k4⟩:=UW k3 rfl
 obtain ⟨e5,k5⟩:=UW k4 rfl
 obtain ⟨e6,k6⟩:=UW k5 rfl
 obtain rfl:=(List.cons.inj e5).1
 obtain rfl:=(List.cons.inj e6).1
 exact ⟨g1,g2,hf,s1,s2⟩
theorem UQ {S : Nat → Prop} {w : World} {x : Gengine} {cs : List Value} (h : Rep.sat S w x cs []) : ∃ u1 u2,cs = cat [enc x.box,enc x.backBox,enc x.places,enc x.backPlaces,[u1],[u2],enc x.rounds] ∧ Rep.sat S w x.mixer [u1] [] ∧ Rep.sat S w x.backMixer [u2] []:=by
 obtain ⟨c0,d0,f0,g0,rfl,hf0,h0,hr0⟩:=h
 obtain ⟨rfl,rfl⟩:=List.append_eq_nil_iff.1 hf0.symm
 obtain ⟨rfl,_⟩:=h0
 obtain ⟨c1,d1,f1,g1,rfl,hf1,h1,hr1⟩:=hr0
 obtain ⟨rfl,rfl⟩:=List.append_eq_nil_iff.1 hf1.symm
 obtain ⟨rfl,_⟩:=h1
 obtain ⟨c2,d2,f2,g2,rfl,hf2,h2,hr2⟩:=hr1
 obtain ⟨rfl,rfl⟩:=List.append_eq_nil_iff.1 hf2.symm
 obtain ⟨rfl,_⟩:=h2
 obtain ⟨c3,d3,f3,g3,rfl,hf3,h3,hr3⟩:=hr2
 obtain ⟨rfl,rfl⟩:=List.append_eq_nil_iff.1 hf3.symm
 obtain ⟨rfl,_⟩:=h3
 obtain ⟨c4,d4,f4,g4,rfl,hf4,h4,hr4⟩:=hr3
 obtain ⟨rfl,rfl⟩:=List.append_eq_nil_iff.1 hf4.symm
 obtain ⟨u1,rfl⟩:=Qx h4
 obtain ⟨c5,d5,f5,g5,rfl,hf5,h5,hr5⟩:=hr4
 obtain ⟨rfl,rfl⟩:=List.append_eq_nil_iff.1 hf5.symm
 obtain ⟨u2,rfl⟩:=Qx h5
 obtain ⟨rfl,_⟩:=hr5
 exact ⟨u1,u2,rfl,h4,h5⟩
theorem A9 {S : Nat → Prop} {w : World} {x : Gengine} {u1 u2 : Value} {g1 g2 fp : List Nat} (h1 : Rep.sat S w x.mixer [u1] g1) (h2 : Rep.sat S w x.backMixer [u2] g2) (hfp : fp = (g1 ++ g2)) : Rep.sat S w x (cat [enc x.box,enc x.backBox,enc x.places,enc x.backPlaces,[u1],[u2],enc x.rounds]) fp:=by
 rw [hfp]
 refine ⟨_,_,[],(g1 ++ g2),rfl,(by simp),⟨rfl,rfl⟩,?_⟩
 refine ⟨_,_,[],(g1 ++ g2),rfl,(by simp),⟨rfl,rfl⟩,?_⟩
 refine ⟨_,_,[],(g1 ++ g2),rfl,(by simp),⟨rfl,rfl⟩,?_⟩
 refine ⟨_,_,[],(g1 ++ g2),rfl,(by simp),⟨rfl,rfl⟩,?_⟩
 refine ⟨_,_,g1,g2,rfl,(by simp),h1,?_⟩
 refine ⟨_,_,g2,[],rfl,(by simp),h2,?_⟩
 exact ⟨rfl,rfl⟩
structure Ghasher where
 engine : (Ref Gengine)
 deriving DecidableEq,Inhabited
instance : Dat Ghasher:=⟨fun x=>Dat.bd (α:=(Ref Gengine)) (x.engine),fun x=>Dat.sz (α:=(Ref Gengine)) (x.engine) + 1⟩
instance : Rep Ghasher:=repIso (α:=(Ref Gengine)) (fun x=>(x.engine))
theorem Ae {S : Nat → Prop} {w : World} {x : Ghasher} {cs : List Value} {fp : List Nat} (h : Rep.sat S w x cs fp) : ∃ (u1 : Value),∃ (g1 : List Nat),cs = cat [[u1]] ∧ fp = g1 ∧ Rep.sat S w x.engine [u1] g1:=by
 obtain ⟨u1,rfl⟩:=Qx h
 exact ⟨u1,_,rfl,by simp,h⟩
theorem ke {S : Nat → Prop} {w : World} {x : Ghasher} {u1 : Value} {fp : List Nat} (h : Rep.sat S w x (cat [[u1]]) fp) : ∃ (g1 : List Nat),fp = g1 ∧ Rep.sat S w x.engine [u1] g1:=by
 obtain ⟨w1,g1,hc,hf,s1⟩:=Ae h
 obtain rfl:=(List.cons.inj hc).1
 exact ⟨g1,hf,s1⟩
theorem un_Ghasher {S : Nat → Prop} {w : World} {x : Ghasher} {cs : List Value} (h : Rep.sat S w x cs []) : ∃ u1,cs = cat [[u1]] ∧ Rep.sat S w x.engine [u1] []:=by
 obtain ⟨u1,rfl⟩:=Qx h
 exact ⟨u1,rfl,h⟩
theorem pk_Ghasher {S : Nat → Prop} {w : World} {x : Ghasher} {u1 : Value} {g1 fp : List Nat} (h1 : Rep.sat S w x.engine [u1] g1) (hfp : fp = g1) : Rep.sat S w x (cat [[u1]]) fp:=by
 rw [hfp]
 exact h1
structure GCipher where
 Field : Int
 Box : (Vector UInt8 256)
 Mix : (Vector (Vector UInt8 4) 4)
 Places : (Vector UInt8 16)
 Rounds : Int
 deriving DecidableEq,Inhabited
instance : Dat GCipher:=⟨fun x=>Dat.bd (α:=Int × (Vector UInt8 256) × (Vector (Vector UInt8 4) 4) × (Vector UInt8 16) × Int) (x.Field,x.Box,x.Mix,x.Places,x.Rounds),fun x=>Dat.sz (α:=Int × (Vector UInt8 256) × (Vector (Vector UInt8 4) 4) × (Vector UInt8 16) × Int) (x.Field,x.Box,x.Mix,x.Places,x.Rounds) + 1⟩
instance : Flat GCipher where
 n:=290
 enc x:=cat [enc x.Field,enc x.Box,enc x.Mix,enc x.Places,enc x.Rounds]
 len x:=BN (cl1 (Flat.len _) (cl1 (Flat.len _) (cl1 (Flat.len _) (cl1 (Flat.len _) (cl1 (Flat.len _) cl0)))))
 cell x:=Y2 (cc1 (Flat.cell _) (cc1 (Flat.cell _) (cc1 (Flat.cell _) (cc1 (Flat.cell _) (cc1 (Flat.cell _) cc0)))))
theorem ty2 : Ty Try.prog 2 (.int .i64) 1 8 (enc (0 : Int)):=⟨Try.underlying2,by kernel_rfl⟩
theorem ty3 : Ty Try.prog 3 (.int .i64) 1 8 (enc (0 : Int)):=⟨Try.underlying3,by kernel_rfl⟩
theorem ty5 : Ty Try.prog 5 (.int .u8) 1 1 (enc (0 : UInt8)):=⟨Try.underlying5,by kernel_rfl⟩
theorem Bq : Ty Try.prog 22 (.slice 5) 1 24 [.slice none 0 0]:=⟨Try.underlying22,by kernel_rfl⟩
theorem ty45 : Ty Try.prog 45 (.int .u64) 1 8 [.int .u64 0]:=⟨Try.underlying45,by kernel_rfl⟩
theorem ty53 : Ty Try.prog 53 (.array 256 5) 256 256 (enc (Vector.replicate 256 (0 : UInt8))):=⟨Try.underlying53,by kernel_rfl⟩
theorem VL : Ty Try.prog 54 (.array 256 5) 256 256 (enc (Vector.replicate 256 (0 : UInt8))):=⟨Try.underlying54,by kernel_rfl⟩
theorem VA : Ty Try.prog 55 (.array 4 5) 4 4 (enc (Vector.replicate 4 (0 : UInt8))):=⟨Try.underlying55,by kernel_rfl⟩
theorem Tx : Ty Try.prog 57 (.array 4 55) 16 16 (enc (Vector.replicate 4 (Vector.replicate 4 (0 : UInt8)))):=⟨Try.underlying57,by kernel_rfl⟩
theorem QA : Ty Try.prog 59 (.array 16 5) 16 16 (enc (Vector.replicate 16 (0 : UInt8))):=⟨Try.underlying59,by kernel_rfl⟩
theorem Tl : Ty Try.prog 61 (.struct [{ name := "Field", type := 2, offset := 0, embedded := false, tag := "", pkgPath := "", byteOffset := 0 }, { name := "Box", type := 54, offset := 1, embedded := false, tag := "", pkgPath := "", byteOffset := 8 }, { name := "Mix", type := 57, offset := 257, embedded := false, tag := "", pkgPath := "", byteOffset := 264 }, { name := "Places", type := 59, offset := 273, embedded := false, tag := "", pkgPath := "", byteOffset := 280 }, { name := "Rounds", type := 2, offset := 289, embedded := false, tag := "", pkgPath := "", byteOffset := 296 }].toArray) 290 304 (enc (⟨(0 : Int), (Vector.replicate 256 (0 : UInt8)), (Vector.replicate 4 (Vector.replicate 4 (0 : UInt8))), (Vector.replicate 16 (0 : UInt8)), (0 : Int)⟩ : GCipher)) := ⟨Try.underlying61, by kernel_rfl⟩
theorem ZK : Ty Try.prog 62 (.array 16 5) 16 16 (enc (Vector.replicate 16 (0 : UInt8))):=⟨Try.underlying62,by kernel_rfl⟩
theorem VT : Ty Try.prog 80 (.slice 82) 1 24 [.slice none 0 0]:=⟨Try.underlying80,by kernel_rfl⟩
theorem Zr : Ty Try.prog 82 (.array 32 5) 32 32 (enc (Vector.replicate 32 (0 : UInt8))):=⟨Try.underlying82,by kernel_rfl⟩
theorem Kt : Ty Try.prog 85 (.slice 80) 1 24 [.slice none 0 0]:=⟨Try.underlying85,by kernel_rfl⟩
theorem Wk : Ty Try.prog 87 (.struct [{ name := "Place", type := 2, offset := 0, embedded := false, tag := "", pkgPath := "", byteOffset := 0 }, { name := "Neighbours", type := 80, offset := 1, embedded := false, tag := "", pkgPath := "", byteOffset := 8 }, { name := "Proofs", type := 85, offset := 2, embedded := false, tag := "", pkgPath := "", byteOffset := 32 }].toArray) 3 56 (cat [(enc (0 : Int)), [.slice none 0 0], [.slice none 0 0]]) := ⟨Try.underlying87, by kernel_rfl⟩
theorem yR : Ty Try.prog 129 (.pointer 196) 1 8 [.pointer none]:=⟨Try.underlying129,by kernel_rfl⟩
theorem V2 : Ty Try.prog 153 (.struct [{ name := "engine", type := 129, offset := 0, embedded := false, tag := "", pkgPath := "loop.example/g01182/impl", byteOffset := 0 }].toArray) 1 8 (cat [[.pointer none]]) := ⟨Try.underlying153, by kernel_rfl⟩
theorem ty155 : Ty Try.prog 155 (.array 2 3) 2 16 (enc (Vector.replicate 2 (0 : Int))):=⟨Try.underlying155,by kernel_rfl⟩
theorem ty162 : Ty Try.prog 162 (.array 2 2) 2 16 (enc (Vector.replicate 2 (0 : Int))):=⟨Try.underlying162,by kernel_rfl⟩
theorem zF : Ty Try.prog 169 (.struct [{ name := "code", type := 22, offset := 0, embedded := false, tag := "", pkgPath := "loop.example/g01182/spec", byteOffset := 0 }, { name := "at", type := 3, offset := 1, embedded := false, tag := "", pkgPath := "loop.example/g01182/spec", byteOffset := 24 }, { name := "hash", type := 45, offset := 2, embedded := false, tag := "", pkgPath := "loop.example/g01182/spec", byteOffset := 32 }].toArray) 3 40 (cat [[.slice none 0 0], (enc (0 : Int)), [.int .u64 0]]) := ⟨Try.underlying169, by kernel_rfl⟩
theorem jq : Ty Try.prog 193 (.pointer 231) 1 8 [.pointer none]:=⟨Try.underlying193,by kernel_rfl⟩
theorem Jh : Ty Try.prog 196 (.struct [{ name := "box", type := 54, offset := 0, embedded := false, tag := "", pkgPath := "loop.example/g01182/impl", byteOffset := 0 }, { name := "backBox", type := 54, offset := 256, embedded := false, tag := "", pkgPath := "loop.example/g01182/impl", byteOffset := 256 }, { name := "places", type := 59, offset := 512, embedded := false, tag := "", pkgPath := "loop.example/g01182/impl", byteOffset := 512 }, { name := "backPlaces", type := 59, offset := 528, embedded := false, tag := "", pkgPath := "loop.example/g01182/impl", byteOffset := 528 }, { name := "mixer", type := 193, offset := 544, embedded := false, tag := "", pkgPath := "loop.example/g01182/impl", byteOffset := 544 }, { name := "backMixer", type := 193, offset := 545, embedded := false, tag := "", pkgPath := "loop.example/g01182/impl", byteOffset := 552 }, { name := "rounds", type := 2, offset := 546, embedded := false, tag := "", pkgPath := "loop.example/g01182/impl", byteOffset := 560 }].toArray) 547 568 (cat [(enc (Vector.replicate 256 (0 : UInt8))), (enc (Vector.replicate 256 (0 : UInt8))), (enc (Vector.replicate 16 (0 : UInt8))), (enc (Vector.replicate 16 (0 : UInt8))), [.pointer none], [.pointer none], (enc (0 : Int))]) := ⟨Try.underlying196, by kernel_rfl⟩
theorem J1 : Ty Try.prog 229 (.array 4 53) 1024 1024 (enc (Vector.replicate 4 (Vector.replicate 256 (0 : UInt8)))):=⟨Try.underlying229,by kernel_rfl⟩
theorem ty231 : Ty Try.prog 231 (.array 4 229) 4096 4096 (enc (Vector.replicate 4 (Vector.replicate 4 (Vector.replicate 256 (0 : UInt8))))):=⟨Try.underlying231,by kernel_rfl⟩
theorem BW : Fd Try.prog 61 0 0:=UK Tl.und rfl rfl ty2 (by decide)
theorem K4 : Fd Try.prog 61 1 1:=UK Tl.und rfl rfl VL (by decide)
theorem J9 : Fd Try.prog 61 2 257:=UK Tl.und rfl rfl Tx (by decide)
theorem Hc : Fd Try.prog 61 3 273:=UK Tl.und rfl rfl QA (by decide)
theorem AZ : Fd Try.prog 61 4 289:=UK Tl.und rfl rfl ty2 (by decide)
theorem Xv : Fd Try.prog 87 0 0:=UK Wk.und rfl rfl ty2 (by decide)
theorem WA : Fd Try.prog 87 1 1:=UK Wk.und rfl rfl VT (by decide)
theorem UV : Fd Try.prog 87 2 2:=UK Wk.und rfl rfl Kt (by decide)
theorem zL : Fd Try.prog 153 0 0:=UK V2.und rfl rfl yR (by decide)
theorem zw : Fd Try.prog 169 0 0:=UK zF.und rfl rfl Bq (by decide)
theorem JM : Fd Try.prog 169 1 1:=UK zF.und rfl rfl ty3 (by decide)
theorem Q6 : Fd Try.prog 169 2 2:=UK zF.und rfl rfl ty45 (by decide)
theorem BK : Fd Try.prog 196 0 0:=UK Jh.und rfl rfl VL (by decide)
theorem fd196_1 : Fd Try.prog 196 1 256:=UK Jh.und rfl rfl VL (by decide)
theorem jT : Fd Try.prog 196 2 512:=UK Jh.und rfl rfl QA (by decide)
theorem fd196_3 : Fd Try.prog 196 3 528:=UK Jh.und rfl rfl QA (by decide)
theorem jQ : Fd Try.prog 196 4 544:=UK Jh.und rfl rfl jq (by decide)
theorem fd196_5 : Fd Try.prog 196 5 545:=UK Jh.und rfl rfl jq (by decide)
theorem jE : Fd Try.prog 196 6 546:=UK Jh.und rfl rfl ty2 (by decide)
theorem pl61 : Places Try.prog [{ name := "Field", type := 2, offset := 0, embedded := false, tag := "", pkgPath := "", byteOffset := 0 }, { name := "Box", type := 54, offset := 1, embedded := false, tag := "", pkgPath := "", byteOffset := 8 }, { name := "Mix", type := 57, offset := 257, embedded := false, tag := "", pkgPath := "", byteOffset := 264 }, { name := "Places", type := 59, offset := 273, embedded := false, tag := "", pkgPath := "", byteOffset := 280 }, { name := "Rounds", type := 2, offset := 289, embedded := false, tag := "", pkgPath := "", byteOffset := 296 }] [(0, 1), (1, 256), (257, 16), (273, 16), (289, 1)] := by show _ = _; kernel_rfl
theorem pl87 : Places Try.prog [{ name := "Place", type := 2, offset := 0, embedded := false, tag := "", pkgPath := "", byteOffset := 0 }, { name := "Neighbours", type := 80, offset := 1, embedded := false, tag := "", pkgPath := "", byteOffset := 8 }, { name := "Proofs", type := 85, offset := 2, embedded := false, tag := "", pkgPath := "", byteOffset := 32 }] [(0, 1), (1, 1), (2, 1)] := by show _ = _; kernel_rfl
theorem pl153 : Places Try.prog [{ name := "engine", type := 129, offset := 0, embedded := false, tag := "", pkgPath := "loop.example/g01182/impl", byteOffset := 0 }] [(0, 1)] := by show _ = _; kernel_rfl
theorem pl169 : Places Try.prog [{ name := "code", type := 22, offset := 0, embedded := false, tag := "", pkgPath := "loop.example/g01182/spec", byteOffset := 0 }, { name := "at", type := 3, offset := 1, embedded := false, tag := "", pkgPath := "loop.example/g01182/spec", byteOffset := 24 }, { name := "hash", type := 45, offset := 2, embedded := false, tag := "", pkgPath := "loop.example/g01182/spec", byteOffset := 32 }] [(0, 1), (1, 1), (2, 1)] := by show _ = _; kernel_rfl
theorem pl196 : Places Try.prog [{ name := "box", type := 54, offset := 0, embedded := false, tag := "", pkgPath := "loop.example/g01182/impl", byteOffset := 0 }, { name := "backBox", type := 54, offset := 256, embedded := false, tag := "", pkgPath := "loop.example/g01182/impl", byteOffset := 256 }, { name := "places", type := 59, offset := 512, embedded := false, tag := "", pkgPath := "loop.example/g01182/impl", byteOffset := 512 }, { name := "backPlaces", type := 59, offset := 528, embedded := false, tag := "", pkgPath := "loop.example/g01182/impl", byteOffset := 528 }, { name := "mixer", type := 193, offset := 544, embedded := false, tag := "", pkgPath := "loop.example/g01182/impl", byteOffset := 544 }, { name := "backMixer", type := 193, offset := 545, embedded := false, tag := "", pkgPath := "loop.example/g01182/impl", byteOffset := 552 }, { name := "rounds", type := 2, offset := 546, embedded := false, tag := "", pkgPath := "loop.example/g01182/impl", byteOffset := 560 }] [(0, 256), (256, 256), (512, 16), (528, 16), (544, 1), (545, 1), (546, 1)] := by show _ = _; kernel_rfl
theorem Yr : Try.prog.follows .mixedOrders = true:=by kernel_rfl
theorem cb44 : Callable Try.prog 44:=cbm Try.func44
theorem Js : Callable Try.prog 50:=cbm Try.func50
theorem cb56 : Callable Try.prog 56:=cbm Try.func56
theorem cb91 : Callable Try.prog 91:=cbm Try.func91
theorem jr : Callable Try.prog 105:=cbm Try.func105
theorem jk : Callable Try.prog 106:=cbm Try.func106
theorem yq : Callable Try.prog 108:=cbm Try.func108
theorem yS : Callable Try.prog 111:=cbm Try.func111
theorem H4 : Callable Try.prog 113:=cbm Try.func113
theorem yo : Callable Try.prog 114:=cbm Try.func114
theorem Bi : Callable Try.prog 115:=cbm Try.func115
theorem jj : Callable Try.prog 116:=cbm Try.func116
theorem JR : Callable Try.prog 118:=cbm Try.func118
theorem Jl : Callable Try.prog 132:=cbm Try.func132
theorem Bo : Callable Try.prog 154:=cbm Try.func154
theorem HU : Callable Try.prog 158:=cbm Try.func158
theorem yz : Callable Try.prog 167:=cbm Try.func167
theorem yO : Callable Try.prog 168:=cbm Try.func168
theorem jl : Callable Try.prog 169:=cbm Try.func169
theorem jf : Callable Try.prog 170:=cbm Try.func170
theorem yy : Callable Try.prog 173:=cbm Try.func173
theorem Ap : Callable Try.prog 178:=cbm Try.func178
theorem yD : Callable Try.prog 179:=cbm Try.func179
def QP (p0 : (List UInt8)) : Option (Bool) :=
 some (decide ((p0.length : Int) > 4096))
theorem A5 (w0 : World) (p0 : (List UInt8)) (v0_1 : Value) (hv0_1 : Ro w0 p0 [v0_1]) (r : Bool) (hF : QP p0 = some r) :
  Calls Try.prog 6 [v0_1].toArray w0 (Rt w0 (vT r)):=by
 refine ce Try.func6 ?_
 intro a hE
 have hM:=M.start w0
 unfold QP at hF
 refine Zb (Zc hE rfl fun a hE=>Ze (Zb (Zd hE rfl fun a hE=>Yq hE rfl Try.underlying22 (hM.rd hv0_1) fun a hE=>Zl hE rfl rfl rfl fun a hE=>Zc hE rfl fun a hE=>Ze ?_)))
 obtain rfl:=Option.some.inj hF
 exact wp_ret (kr1 hE rfl rfl hM.kept)
def Uo (p0 : (List UInt8)) (s6 : Int × Int) : Option (Fl (Int × Int) Int) :=
 (if (decide (s6.2 < (p0.length : Int))) = true then (some (decide (s6.2 < 4096))) else (some false) : Option (Bool)).bind fun j10=>if j10 = true then ((idx p0 s6.2).bind fun x18=>some (Fl.nx (IntKind.u64.wrap ((IntKind.u64.wrap ((IntKind.u64.wrap (s6.1 * 1099511628211)) + (bI x18))) + 11),wr (s6.2 + 1)))) else (some (Fl.ex s6.1))
def W5 (p0 : (List UInt8)) : Option ((Int × Int)) :=
 (ZF (Uo p0) (IntKind.u64.wrap (9001 + (IntKind.u64.wrap (p0.length : Int))),0)).bind fun j3=>some (0,j3)
theorem Qc (St : Nat → Prop) (W w0 : World) (R : Item) (p0 : (List UInt8)) (v0_1 : Value) (hv0_1 : Rep.sat St W p0 [v0_1] []) (hM : M St W w0 [R]) (r : (Int × Int)) (hF : W5 p0 = some r) :
  Calls Try.prog 47 [v0_1].toArray w0 (fun en w'=>∃ v,en = .returned v ∧ (∃ (b : Nat),v = ptr b 0 ∧ M St W w' [raw b (cat [[v0_1],[vI r.1],[(Value.int .u64 r.2)]]),R])):=by
 refine ce Try.func47 ?_
 intro a hE
 unfold W5 at hF
 refine Zb (Zc hE rfl fun a hE=>Ze (Zb (Zd hE rfl fun a hE=>Zd hE rfl fun a hE=>Yq hE rfl Try.underlying22 (hM.rd hv0_1) fun a hE=>TL hE Za ld rfl Try.underlying3 Try.underlying45 fun a hE=>Zl hE rfl rfl rfl fun a hE=>Ws (parts:=[(0,.tmp 5),(2,.tmp 9)]) (vs:=[(0,v0_1),(2,(Value.int .u64 (IntKind.u64.wrap (9001 + (IntKind.u64.wrap (p0.length : Int))))))]) (cs:=cat [[v0_1],[vI 0],[(Value.int .u64 (IntKind.u64.wrap (9001 + (IntKind.u64.wrap (p0.length : Int)))))]]) hE Za ld rfl rfl zF pl169 (Xm (pre:=[]) (seg:=[(Value.slice none 0 0)]) (seg':=[v0_1]) (post:=[[vI 0],[(Value.int .u64 0)]]) rfl cl0 rfl rfl (Ve (hM.rd hv0_1)) (Xm (pre:=[[v0_1],[vI 0]]) (seg:=[(Value.int .u64 0)]) (seg':=[(Value.int .u64 (IntKind.u64.wrap (9001 + (IntKind.u64.wrap (p0.length : Int)))))]) (post:=[]) rfl ck rfl rfl rfl V5)) fun a hE=>Z7 (cs:=cat [[v0_1],[vI 0],[(Value.int .u64 (IntKind.u64.wrap (9001 + (IntKind.u64.wrap (p0.length : Int)))))]]) hE hM Za ld rfl rfl fun b1 w a hM hE=>Zc hE rfl fun a hE=>Ze (wp_seq (Zb (Zc hE rfl fun a hE=>Ze ?_))))))
 obtain ⟨j3,hl4,hF5⟩:=bind_some hF
 refine ZW (fun a w=>Env 38 a [(3,(ptr b1 0))] ∧ M St W w [raw b1 (cat [[v0_1],[vI 0],[(Value.int .u64 j3)]]),R]) ?_ ?_
 ·skip
  refine wp_block ?_
  refine ZM (fun (s6 : Int × Int) a w=>Env 38 a [(0,v0_1),(3,(ptr b1 0)),(4,vI s6.2)] ∧ M St W w [raw b1 (cat [[v0_1],[vI 0],[(Value.int .u64 s6.1)]]),R]) hl4 ⟨hE.sub ⟨rfl,rfl,rfl,trivial⟩,hM⟩ ?_
  rintro s6 a w ⟨hE,hM⟩ o9 hs7 hx8
  unfold Uo at hs7
  refine wp_seq ?_
  obtain ⟨j10,hl11,hF12⟩:=bind_some hs7
  refine ZB (fun a w=>Env 38 a [(0,v0_1),(3,(ptr b1 0)),(4,vI s6.2),(19,vT j10)] ∧ M St W w [raw b1 (cat [[v0_1],[vI 0],[(Value.int .u64 s6.1)]]),R]) ?_ ?_
  ·skip
   refine wp_region_lit (Zd hE rfl fun a hE=>Zd hE rfl fun a hE=>Yq hE rfl Try.underlying22 (hM.rd hv0_1) fun a hE=>Zl hE rfl rfl rfl fun a hE=>Zd hE rfl ?_); intro a hE
   refine YP (decide (s6.2 < (p0.length : Int))) (fun hb13=>?_) (fun hb13=>?_)
   ·have hl11:=Zt hl11 hb13
    refine Zg hE (Zf hE rfl (lkb rfl hb13)) (by decide) rfl fun a hE=>Z1 hE (Zf hE rfl (lkb rfl hb13)) (by decide) rfl rfl rfl fun a hE=>YY hE (lkb rfl hb13) rfl fun a hE=>Zi ?_
    obtain rfl:=Option.some.inj hl11
    refine Zj ?_
    exact ⟨hE.sub ⟨rfl,rfl,rfl,rfl,trivial⟩,hM⟩
   ·have hl11:=Zs hl11 hb13
    refine Zm hE rfl (lkb rfl hb13) rfl (by decide) fun a hE=>Zm hE rfl (lkb rfl hb13) rfl (by decide) fun a hE=>YW hE (lkb rfl hb13) rfl fun a hE=>Zi ?_
    obtain rfl:=Option.some.inj hl11
    refine Zj ?_
    exact ⟨hE.sub ⟨rfl,rfl,rfl,rfl,trivial⟩,hM⟩
  ·skip
   rintro a w ⟨hE,hM⟩
   refine Zq hE rfl ?_ ?_
   ·intro hb16
    have hF12:=Zt hF12 hb16
    refine wp_skip (Zw (wp_seq (wp_block ?_)))
    obtain ⟨x18,hi20,hF12⟩:=bix hF12
    refine ZP [22,23,24,25,26,27,28,29,30,31,32,33,34,35,36] Yr rfl rfl (by decide) rfl hE hM (qsP (fun z=>Zg z.E Za ld rfl (kr0 rfl)) (qsP (fun z=>Zg z.E Za ld rfl (kr0 rfl)) (qsP (fun z=>Yh z.E Za ld rfl (kr0 rfl)) (qsP (fun z=>Zo z.E Za ld rfl (Q6) (kr0 rfl)) (qsP (fun z=>ZN (v:=(Value.int .u64 s6.1)) z.E Za ld rfl ty45 rfl (At.cat (pre:=[[v0_1],[vI 0]]) (z.M.rawAt0) ck) (kr0 rfl)) (qsP (v:=(Value.int .u64 (IntKind.u64.wrap (s6.1 * 1099511628211)))) (fun z=>Z1 z.E Za ld rfl rfl rfl (kr0 rfl)) (qsP (fun z=>Zg z.E Za ld rfl (kr0 rfl)) (qsP (fun z=>Zg z.E Za ld rfl (kr0 rfl)) (qsP (fun z=>Yi z.E Za ld rfl rfl Try.underlying22 ty5 (z.M.rd hv0_1) hi20.1 (kr0 rfl)) (qsP (fun z=>ZN (v:=(vB x18)) z.E Za ld rfl ty5 rfl (YA (z.M.rd hv0_1) hi20.2) (kr0 rfl)) (qsP (fun z=>jU z.E Za ld rfl Try.underlying5 Try.underlying45 (kr0 rfl)) (qsP (v:=(Value.int .u64 (IntKind.u64.wrap ((IntKind.u64.wrap (s6.1 * 1099511628211)) + (bI x18))))) (fun z=>Z1 z.E Za ld rfl rfl rfl (kr0 rfl)) (qsP (v:=(Value.int .u64 (IntKind.u64.wrap ((IntKind.u64.wrap ((IntKind.u64.wrap (s6.1 * 1099511628211)) + (bI x18))) + 11)))) (fun z=>Z1 z.E Za ld rfl rfl rfl (kr0 rfl)) (qsP (fun z=>Yh z.E Za ld rfl (kr0 rfl)) (qsP (fun z=>Zo z.E Za ld rfl (Q6) (kr0 rfl)) qs0))))))))))))))) ?_
    ·intro a w u hE hM
     refine Zk (seg:=[(Value.int .u64 (IntKind.u64.wrap ((IntKind.u64.wrap ((IntKind.u64.wrap (s6.1 * 1099511628211)) + (bI x18))) + 11)))]) hE hM Za rfl rfl rfl ty45 rfl (UF (pre:=[[v0_1],[vI 0]]) ck rfl) zR (Ww (pre:=[[v0_1],[vI 0]]) ck rfl) fun w a hM hE=>Zi (Yv (Zw (wp_region_lit (Zd hE rfl fun a hE=>Zl hE rfl rfl rfl fun a hE=>Zc hE rfl fun a hE=>Zi (Zj ?_)))))
     exact ⟨_,(ois hF12),hE.sub ⟨rfl,rfl,rfl,trivial⟩,hM⟩
   ·intro hb16
    have hF12:=Zs hF12 hb16
    refine wp_exit (Zn (Zn (Yy ?_)))
    obtain rfl:=hx8 _ (ois hF12)
    refine Zj ?_
    exact ⟨hE.sub ⟨rfl,trivial⟩,hM⟩
 ·skip
  rintro a w ⟨hE,hM⟩
  refine Zw (Zb (Zd hE rfl fun a hE=>Zc hE rfl fun a hE=>Ze ?_))
  obtain rfl:=Option.some.inj hF5
  exact wp_ret (ZU hE rfl (ZV hE rfl) ⟨_,rfl,b1,rfl,hM⟩)
def Yb (p0_0 : (List UInt8)) (p0 : (Int × Int)) (p1 : Int) : Option ((Int × Int) × Int) :=
 if (decide (p1 < 1)) = true then (some ((p0.1,p0.2),0)) else (((some (decide (p0.1 < (p0_0.length : Int))) : Option (Bool)).bind fun j5=>if j5 = true then (((idx p0_0 p0.1).bind fun x15=>some (wr ((IntKind.i64.wrap (wru (BitVec.ofInt 64 (Uy (IntKind.u64.wrap ((IntKind.u64.wrap (p0.2 * 6364136223846793005)) + 1442695040888963407)) 33) &&& BitVec.ofInt 64 16777215).toNat)) + (bI x15))) : Option (Int)).bind fun j11=>some (wr (p0.1 + 1),j11)) else (some (p0.1,IntKind.i64.wrap (wru (BitVec.ofInt 64 (Uy (IntKind.u64.wrap ((IntKind.u64.wrap (p0.2 * 6364136223846793005)) + 1442695040888963407)) 33) &&& BitVec.ofInt 64 16777215).toNat))) : Option (Int × Int)).bind fun j2=>(KE p1).bind fun _=>some ((j2.1,IntKind.u64.wrap ((IntKind.u64.wrap (p0.2 * 6364136223846793005)) + 1442695040888963407)),Int.tmod j2.2 p1))
theorem YD (St : Nat → Prop) (W w0 : World) (R : Item) (pb0 : Nat) (p0_0 : (List UInt8)) (v0_0 : Value) (hv0_0 : Rep.sat St W p0_0 [v0_0] []) (p0 : (Int × Int)) (p1 : Int) (hM : M St W w0 [raw pb0 (cat [[v0_0],[vI p0.1],[(Value.int .u64 p0.2)]]),R]) (r : (Int × Int) × Int) (hF : Yb p0_0 p0 p1 = some r) :
  Calls Try.prog 50 [(ptr pb0 0),vI p1].toArray w0 (fun en w'=>∃ v,en = .returned v ∧ (v = (vI r.2) ∧ M St W w' [raw pb0 (cat [[v0_0],[vI r.1.1],[(Value.int .u64 r.1.2)]]),R])):=by
 refine ce Try.func50 ?_
 intro a hE
 unfold Yb at hF
 refine Zb (Zc hE rfl fun a hE=>Ze (wp_seq (Zb (Zd hE rfl fun a hE=>Zl hE rfl rfl rfl fun a hE=>Ze ?_))))
 refine Zq hE rfl ?_ ?_
 ·intro hb1
  have hF:=Zt hF hb1
  refine Zb (Zc hE rfl fun a hE=>Ze ?_)
  obtain rfl:=Option.some.inj hF
  exact wp_ret (ZL (ZU hE rfl (ZV hE rfl) ⟨_,rfl,rfl,hM⟩))
 ·intro hb1
  have hF:=Zs hF hb1
  refine wp_skip (Zw (Zb (Zd hE rfl fun a hE=>Zd hE rfl fun a hE=>Yh hE Za ld rfl fun a hE=>ZJ hE rfl (Q6) fun a hE=>ZQ (v:=(Value.int .u64 p0.2)) hE rfl ty45 rfl (At.cat (pre:=[[v0_0],[vI p0.1]]) hM.rawAt0 ck) fun a hE=>Zl hE rfl rfl rfl fun a hE=>Zl hE rfl rfl rfl fun a hE=>Yh hE Za ld rfl fun a hE=>ZJ hE rfl (Q6) fun a hE=>Zk (seg:=[(Value.int .u64 (IntKind.u64.wrap ((IntKind.u64.wrap (p0.2 * 6364136223846793005)) + 1442695040888963407)))]) hE hM Za rfl rfl rfl ty45 rfl (UF (pre:=[[v0_0],[vI p0.1]]) ck rfl) zR (Ww (pre:=[[v0_0],[vI p0.1]]) ck rfl) fun w a hM hE=>Ze (Zb (Zd hE rfl fun a hE=>Yh hE Za ld rfl ?_))))); intro a hE
  refine ZJ hE rfl (Q6) fun a hE=>ZQ (v:=(Value.int .u64 (IntKind.u64.wrap ((IntKind.u64.wrap (p0.2 * 6364136223846793005)) + 1442695040888963407)))) hE rfl ty45 rfl (At.cat (pre:=[[v0_0],[vI p0.1]]) hM.rawAt0 ck) fun a hE=>JC hE Za ld rfl rfl (yG _ _ (by decide)) fun a hE=>Zl hE rfl rfl rfl fun a hE=>TL hE Za ld rfl Try.underlying45 Try.underlying2 fun a hE=>Zc hE rfl fun a hE=>Ze ?_
  obtain ⟨j2,hl3,hF4⟩:=bind_some hF
  refine ZB (fun a w=>Env 58 a [(1,vI p1),(5,vI j2.2)] ∧ M St W w [raw pb0 (cat [[v0_0],[vI j2.1],[(Value.int .u64 (IntKind.u64.wrap ((IntKind.u64.wrap (p0.2 * 6364136223846793005)) + 1442695040888963407)))]]),R]) ?_ ?_
  ·skip
   obtain ⟨j5,hl6,hF7⟩:=bind_some hl3
   refine ZB (fun a w=>Env 58 a [(0,(ptr pb0 0)),(1,vI p1),(5,(vI (IntKind.i64.wrap (wru (BitVec.ofInt 64 (Uy (IntKind.u64.wrap ((IntKind.u64.wrap (p0.2 * 6364136223846793005)) + 1442695040888963407)) 33) &&& BitVec.ofInt 64 16777215).toNat)))),(33,vT j5)] ∧ M St W w [raw pb0 (cat [[v0_0],[vI p0.1],[(Value.int .u64 (IntKind.u64.wrap ((IntKind.u64.wrap (p0.2 * 6364136223846793005)) + 1442695040888963407)))]]),R]) ?_ ?_
   ·skip
    refine ZP [24,25,26,27,28,29,30,31,32,33] Yr rfl rfl (by decide) rfl hE hM (qsP (fun z=>Zg z.E Za ld rfl (kr0 rfl)) (qsP (fun z=>Yh z.E Za ld rfl (kr0 rfl)) (qsP (fun z=>Zo z.E Za ld rfl (JM) (kr0 rfl)) (qsP (fun z=>ZN (v:=(vI p0.1)) z.E Za ld rfl ty3 rfl (At.cat (pre:=[[v0_0]]) (z.M.rawAt0) ck) (kr0 rfl)) (qsP (fun z=>Zg z.E Za ld rfl (kr0 rfl)) (qsP (fun z=>Yh z.E Za ld rfl (kr0 rfl)) (qsP (fun z=>Zo z.E Za ld rfl (zw) (kr0 rfl)) (qsP (fun z=>ZN (v:=v0_0) z.E Za ld rfl Bq rfl (At.cat (pre:=[]) (z.M.rawAt0) cl0) (kr0 rfl)) (qsP (fun z=>T4 z.E Za ld rfl Try.underlying22 (z.M.rd hv0_0) (kr0 rfl)) (qsP (fun z=>Z1 z.E Za ld rfl rfl rfl (kr0 rfl)) qs0)))))))))) ?_
    ·intro a w u hE hM
     refine Zi ?_
     obtain rfl:=Option.some.inj hl6
     refine Zj ?_
     exact ⟨hE.sub ⟨rfl,rfl,rfl,rfl,trivial⟩,hM⟩
   ·skip
    rintro a w ⟨hE,hM⟩
    refine Zq hE rfl ?_ ?_
    ·intro hb10
     have hF7:=Zt hF7 hb10
     obtain ⟨j11,hl12,hF13⟩:=bind_some hF7
     refine ZB (fun a w=>Env 58 a [(0,(ptr pb0 0)),(1,vI p1),(5,vI j11)] ∧ M St W w [raw pb0 (cat [[v0_0],[vI p0.1],[(Value.int .u64 (IntKind.u64.wrap ((IntKind.u64.wrap (p0.2 * 6364136223846793005)) + 1442695040888963407)))]]),R]) ?_ ?_
     ·skip
      obtain ⟨x15,hi17,hl12⟩:=bix hl12
      refine ZP [34,35,36,37,38,39,40,41,42,43,44,45,46] Yr rfl rfl (by decide) rfl hE hM (qsP (fun z=>Zg z.E Za ld rfl (kr0 rfl)) (qsP (fun z=>Zg z.E Za ld rfl (kr0 rfl)) (qsP (fun z=>Yh z.E Za ld rfl (kr0 rfl)) (qsP (fun z=>Zo z.E Za ld rfl (zw) (kr0 rfl)) (qsP (fun z=>ZN (v:=v0_0) z.E Za ld rfl Bq rfl (At.cat (pre:=[]) (z.M.rawAt0) cl0) (kr0 rfl)) (qsP (fun z=>Zg z.E Za ld rfl (kr0 rfl)) (qsP (fun z=>Yh z.E Za ld rfl (kr0 rfl)) (qsP (fun z=>Zo z.E Za ld rfl (JM) (kr0 rfl)) (qsP (fun z=>ZN (v:=(vI p0.1)) z.E Za ld rfl ty3 rfl (At.cat (pre:=[[v0_0]]) (z.M.rawAt0) ck) (kr0 rfl)) (qsP (fun z=>Yi z.E Za ld rfl rfl Try.underlying22 ty5 (z.M.rd hv0_0) hi17.1 (kr0 rfl)) (qsP (fun z=>ZN (v:=(vB x15)) z.E Za ld rfl ty5 rfl (YA (z.M.rd hv0_0) hi17.2) (kr0 rfl)) (qsP (fun z=>Q2 z.E Za ld rfl Try.underlying5 Try.underlying2 (kr0 rfl)) (qsP (v:=(vI (wr ((IntKind.i64.wrap (wru (BitVec.ofInt 64 (Uy (IntKind.u64.wrap ((IntKind.u64.wrap (p0.2 * 6364136223846793005)) + 1442695040888963407)) 33) &&& BitVec.ofInt 64 16777215).toNat)) + (bI x15))))) (fun z=>Z1 z.E Za ld rfl rfl rfl (kr0 rfl)) qs0))))))))))))) ?_
      ·intro a w u hE hM
       refine Zc hE rfl fun a hE=>Zi ?_
       obtain rfl:=Option.some.inj hl12
       refine Zj ?_
       exact ⟨hE.sub ⟨rfl,rfl,rfl,trivial⟩,hM⟩
     ·skip
      rintro a w ⟨hE,hM⟩
      refine wp_region_lit (Zd hE rfl fun a hE=>Zd hE rfl fun a hE=>Yh hE Za ld rfl fun a hE=>ZJ hE rfl (JM) fun a hE=>ZQ (v:=(vI p0.1)) hE rfl ty3 rfl (At.cat (pre:=[[v0_0]]) hM.rawAt0 ck) fun a hE=>Zl hE rfl rfl rfl fun a hE=>Yh hE Za ld rfl fun a hE=>ZJ hE rfl (JM) fun a hE=>Zk (seg:=[(vI (wr (p0.1 + 1)))]) hE hM Za rfl rfl rfl ty3 rfl (UF (pre:=[[v0_0]]) ck rfl) (Flat.cell (wr (p0.1 + 1) : Int)) (Ww (pre:=[[v0_0]]) ck rfl) fun w a hM hE=>Zi ?_)
      obtain rfl:=Option.some.inj hF13
      refine Zj ?_
      exact ⟨hE.sub ⟨rfl,rfl,trivial⟩,hM⟩
    ·intro hb10
     have hF7:=Zs hF7 hb10
     refine wp_skip ?_
     obtain rfl:=Option.some.inj hF7
     refine Zj ?_
     exact ⟨hE.sub ⟨rfl,rfl,trivial⟩,hM⟩
  ·skip
   rintro a w ⟨hE,hM⟩
   refine Zb (Zd hE rfl fun a hE=>Zd hE rfl ?_); intro a hE
   obtain ⟨_,e21,hF4⟩:=bind_some hF4
   have e21:=BX e21
   refine Zl hE rfl rfl (Tq _ _ e21) fun a hE=>Zc hE rfl fun a hE=>Ze ?_
   obtain rfl:=Option.some.inj hF4
   exact wp_ret (ZU hE rfl (ZV hE rfl) ⟨_,rfl,rfl,hM⟩)
def VQ (p0_0 : (List UInt8)) (s10 : Int × Int × (List (Vector UInt8 32)) × Int × Int) : Option (Fl (Int × Int × (List (Vector UInt8 32)) × Int × Int) (Int × Int × (List (Vector UInt8 32)))) :=
 if (decide (s10.2.2.2.1 > 0)) = true then ((Yb p0_0 (s10.1,s10.2.1) 20).bind fun r17=>(app 32 s10.2.2.1 ([(((Vector.replicate 32 (0 : UInt8)).setIfInBounds 0 0).setIfInBounds 1 (Zz (wr ((wr (s10.2.2.2.2 + 1)) + r17.2))))] : List (Vector UInt8 32))).bind fun l21=>some (Fl.nx (r17.1.1,r17.1.2,(s10.2.2.1 ++ ([(((Vector.replicate 32 (0 : UInt8)).setIfInBounds 0 0).setIfInBounds 1 (Zz (wr ((wr (s10.2.2.2.2 + 1)) + r17.2))))] : List (Vector UInt8 32))),wr (s10.2.2.2.1 - 1),wr ((wr (s10.2.2.2.2 + 1)) + r17.2)))) else (some (Fl.ex (s10.1,s10.2.1,s10.2.2.1)))
def Vh (p0_0 : (List UInt8)) (p0 : (Int × Int)) : Option ((Int × Int) × (List (Vector UInt8 32))) :=
 (Yb p0_0 (p0.1,p0.2) 10).bind fun r3=>(ZF (VQ p0_0) (r3.1.1,r3.1.2,([] : List (Vector UInt8 32)),r3.2,0)).bind fun j5=>some ((j5.1,j5.2.1),j5.2.2)
theorem KO (St : Nat → Prop) (W w0 : World) (R : Item) (pb0 : Nat) (p0_0 : (List UInt8)) (v0_0 : Value) (hv0_0 : Rep.sat St W p0_0 [v0_0] []) (p0 : (Int × Int)) (hM : M St W w0 [raw pb0 (cat [[v0_0],[vI p0.1],[(Value.int .u64 p0.2)]]),R]) (r : (Int × Int) × (List (Vector UInt8 32))) (hF : Vh p0_0 p0 = some r) :
  Calls Try.prog 101 [(ptr pb0 0)].toArray w0 (fun en w'=>∃ v,en = .returned v ∧ (∃ (y1 : Value),v = y1 ∧ M St W w' [raw pb0 (cat [[v0_0],[vI r.1.1],[(Value.int .u64 r.1.2)]]),osl NoB (r.2 : List (Vector UInt8 32)) y1,R])):=by
 refine ce Try.func101 ?_
 intro a hE
 unfold Vh at hF
 refine Zb (Zc hE rfl fun a hE=>Ze (Zb (Z3 (xs:=[]) (l:=([] : List (Vector UInt8 32))) (vs:=[]) hE hM Za ld rfl rfl Try.underlying80 Zr rfl (by decide) rfl fun u1 w a hM hE=>Zc hE rfl fun a hE=>Ze (wp_seq (Zb (Zd hE rfl ?_)))))); intro a hE
 have hM:=M.tailP (m:=[_]) hM.pull1
 obtain ⟨r3,e4,hF⟩:=bind_some hF
 refine Zy hE rfl Js (YD _ _ _ _ pb0 p0_0 v0_0 hv0_0 (p0.1,p0.2) 10 hM r3 e4) ?_
 rintro v w a ⟨rfl,hM⟩ hE
 have hM:=M.tailU (m:=[_]) hM
 simp only [List.cons_append,List.nil_append] at hM
 refine Zc hE rfl fun a hE=>Zc hE rfl fun a hE=>Ze ?_
 obtain ⟨j5,hl6,hF7⟩:=bind_some hF
 refine ZW (fun a w=>∃ (u8 : Value),Env 25 a [(3,u8)] ∧ M St W w [raw pb0 (cat [[v0_0],[vI j5.1],[(Value.int .u64 j5.2.1)]]),R,osl NoB (j5.2.2 : List (Vector UInt8 32)) u8]) ?_ ?_
 ·skip
  refine wp_block ?_
  have hM:=hM.pull1.pull2.pull2
  refine ZM (fun (s10 : Int × Int × (List (Vector UInt8 32)) × Int × Int) a w=>∃ (u11 : Value),Env 25 a [(0,(ptr pb0 0)),(3,u11),(4,vI s10.2.2.2.1),(5,vI s10.2.2.2.2)] ∧ M St W w [raw pb0 (cat [[v0_0],[vI s10.1],[(Value.int .u64 s10.2.1)]]),R,osl NoB (s10.2.2.1 : List (Vector UInt8 32)) u11]) hl6 ⟨u1,hE.sub ⟨rfl,rfl,rfl,rfl,trivial⟩,hM⟩ ?_
  rintro s10 a w ⟨u11,hE,hM⟩ o15 hs13 hx14
  unfold VQ at hs13
  refine wp_seq (Zb (Zd hE rfl fun a hE=>Zl hE rfl rfl rfl fun a hE=>Ze ?_))
  refine Zq hE rfl ?_ ?_
  ·intro hb16
   have hs13:=Zt hs13 hb16
   refine wp_skip (Zw (wp_seq (wp_block (Zb (Zd hE rfl fun a hE=>Zl hE rfl rfl rfl fun a hE=>Zd hE rfl ?_))))); intro a hE
   have hM:=M.tailP (m:=[_]) hM
   obtain ⟨r17,e18,hs13⟩:=bind_some hs13
   refine Zy hE rfl Js (YD _ _ _ _ pb0 p0_0 v0_0 hv0_0 (s10.1,s10.2.1) 20 hM r17 e18) ?_
   rintro v w a ⟨rfl,hM⟩ hE
   have hM:=M.tailU (m:=[_]) hM
   simp only [List.cons_append,List.nil_append] at hM
   refine Zl hE rfl rfl rfl fun a hE=>Zc hE rfl fun a hE=>Ze (wp_region_lit (Zd hE rfl fun a hE=>Zd hE rfl fun a hE=>Xc hE Za ld rfl Try.underlying2 Try.underlying5 fun a hE=>Yx (parts:=[(0,.const (vB 0)),(1,.tmp 20)]) (vs:=[(0,vB 0),(1,(vB (Zz (wr ((wr (s10.2.2.2.2 + 1)) + r17.2)))))]) (cs:=enc (((Vector.replicate 32 (0 : UInt8)).setIfInBounds 0 0).setIfInBounds 1 (Zz (wr ((wr (s10.2.2.2.2 + 1)) + r17.2))))) hE Za ld rfl rfl Zr rfl ty5 (Wl (v:=(Vector.replicate 32 (0 : UInt8))) (x:=0) rfl (by decide) rfl (Wl (v:=((Vector.replicate 32 (0 : UInt8)).setIfInBounds 0 0)) (x:=Zz (wr ((wr (s10.2.2.2.2 + 1)) + r17.2))) rfl (by decide) rfl Yk)) fun a hE=>Z3 (xs:=[.tmp 21]) (l:=([(((Vector.replicate 32 (0 : UInt8)).setIfInBounds 0 0).setIfInBounds 1 (Zz (wr ((wr (s10.2.2.2.2 + 1)) + r17.2))))] : List (Vector UInt8 32))) (vs:=[(Value.agg (enc (((Vector.replicate 32 (0 : UInt8)).setIfInBounds 0 0).setIfInBounds 1 (Zz (wr ((wr (s10.2.2.2.2 + 1)) + r17.2))))).toArray)]) hE hM Za ld rfl rfl Try.underlying80 Zr rfl (by decide) rfl ?_)); intro u19 w a hM hE
   obtain ⟨l21,e22,hs13⟩:=bind_some hs13
   obtain ⟨e25,rfl⟩:=Yn e22
   have hM:=hM.pull3
   refine Yf hE hM Za ld rfl rfl (hM.sl (pre:=[_]) noB) Try.underlying80 Zr rfl (by decide) e25 fun u23 w a hM hE=>Zc hE rfl fun a hE=>Zi (Yv (Zw (wp_region_lit (Zd hE rfl fun a hE=>Zl hE rfl rfl rfl fun a hE=>Zc hE rfl fun a hE=>Zi (Zj ?_)))))
   have hM:=(hM.pull3.pull3.pull3).drop
   exact ⟨_,(ois hs13),u23,hE.sub ⟨rfl,rfl,rfl,rfl,trivial⟩,hM⟩
  ·intro hb16
   have hs13:=Zs hs13 hb16
   refine wp_exit (Zn (Zn (Yy ?_)))
   obtain rfl:=hx14 _ (ois hs13)
   refine Zj ?_
   exact ⟨u11,hE.sub ⟨rfl,trivial⟩,hM⟩
 ·skip
  rintro a w ⟨u8,hE,hM⟩
  refine Zw (Zb (Zd hE rfl fun a hE=>Zc hE rfl fun a hE=>Ze ?_))
  obtain rfl:=Option.some.inj hF7
  have hM:=hM.pull1.pull2.pull2
  exact wp_ret (ZU hE rfl (ZV hE rfl) ⟨_,rfl,u8,rfl,hM⟩)
def V1 (p0_0 : (List UInt8)) (p0 : (Int × Int)) (p1 : (List Int)) : Option ((Int × Int) × Int) :=
 (Yb p0_0 (p0.1,p0.2) (p1.length : Int)).bind fun r1=>(idx p1 r1.2).bind fun x3=>some ((r1.1.1,r1.1.2),x3)
theorem Hf (St : Nat → Prop) (W w0 : World) (R : Item) (pb0 : Nat) (p0_0 : (List UInt8)) (v0_0 : Value) (hv0_0 : Rep.sat St W p0_0 [v0_0] []) (p0 : (Int × Int)) (p1 : (List Int)) (v1 : Value) (hM : M St W w0 [raw pb0 (cat [[v0_0],[vI p0.1],[(Value.int .u64 p0.2)]]),osl NoB (p1 : List Int) v1,R]) (r : (Int × Int) × Int) (hF : V1 p0_0 p0 p1 = some r) :
  Calls Try.prog 49 [(ptr pb0 0),v1].toArray w0 (fun en w'=>∃ v,en = .returned v ∧ (v = (vI r.2) ∧ M St W w' [raw pb0 (cat [[v0_0],[vI r.1.1],[(Value.int .u64 r.1.2)]]),osl NoB (p1 : List Int) v1,R])):=by
 refine ce Try.func49 ?_
 intro a hE
 unfold V1 at hF
 refine Zb (Zc hE rfl fun a hE=>Ze (Zb (Zd hE rfl fun a hE=>Zd hE rfl fun a hE=>Zd hE rfl fun a hE=>Yq hE rfl Try.underlying138 (hM.sl (pre:=[_]) noB) ?_))); intro a hE
 have hM:=M.tailP (m:=[_]) hM
 obtain ⟨r1,e2,hF⟩:=bind_some hF
 refine Zy hE rfl Js (YD _ _ _ _ pb0 p0_0 v0_0 hv0_0 (p0.1,p0.2) (p1.length : Int) hM r1 e2) ?_
 rintro v w a ⟨rfl,hM⟩ hE
 have hM:=M.tailU (m:=[_]) hM
 simp only [List.cons_append,List.nil_append] at hM
 obtain ⟨x3,hi5,hF⟩:=bix hF
 refine Wx hE rfl rfl Try.underlying138 ty2 (hM.sl (pre:=[_]) noB) hi5.1 fun a hE=>ZQ (v:=(vI x3)) hE rfl ty2 rfl (YA (hM.sl (pre:=[_]) noB) hi5.2) fun a hE=>Zc hE rfl fun a hE=>Ze ?_
 obtain rfl:=Option.some.inj hF
 exact wp_ret (ZU hE rfl (ZV hE rfl) ⟨_,rfl,rfl,hM⟩)
def VN (p0_0 : (List UInt8)) (s18 : Int × Int × (List (Vector UInt8 32)) × Int) : Option (Fl (Int × Int × (List (Vector UInt8 32)) × Int) (Int × Int × (List (Vector UInt8 32)))) :=
 if (decide (s18.2.2.2 > 0)) = true then ((Yb p0_0 (s18.1,s18.2.1) 256).bind fun r25=>(Yb p0_0 (r25.1.1,r25.1.2) 4).bind fun r27=>(app 32 s18.2.2.1 ([(((Vector.replicate 32 (0 : UInt8)).setIfInBounds 0 (Zz r25.2)).setIfInBounds 1 (Zz r27.2))] : List (Vector UInt8 32))).bind fun l33=>some (Fl.nx (r27.1.1,r27.1.2,(s18.2.2.1 ++ ([(((Vector.replicate 32 (0 : UInt8)).setIfInBounds 0 (Zz r25.2)).setIfInBounds 1 (Zz r27.2))] : List (Vector UInt8 32))),wr (s18.2.2.2 - 1)))) else (some (Fl.ex (s18.1,s18.2.1,s18.2.2.1)))
def VO (s52 : (List (Vector UInt8 32))) : Option (Fl (List (Vector UInt8 32)) (List (Vector UInt8 32))) :=
 if (decide ((s52.length : Int) ≤ 64)) = true then ((app 32 s52 ([((Vector.replicate 32 (0 : UInt8)).setIfInBounds 0 (Zz (s52.length : Int)))] : List (Vector UInt8 32))).bind fun l61=>some (Fl.nx (s52 ++ ([((Vector.replicate 32 (0 : UInt8)).setIfInBounds 0 (Zz (s52.length : Int)))] : List (Vector UInt8 32))))) else (some (Fl.ex s52))
def W7 (p0_0 : (List UInt8)) (p0 : (Int × Int)) : Option ((Int × Int) × (List (Vector UInt8 32))) :=
 (Yb p0_0 (p0.1,p0.2) 4).bind fun r3=>(Yb p0_0 (r3.1.1,r3.1.2) 9).bind fun r5=>(Yb p0_0 (r5.1.1,r5.1.2) 20).bind fun r7=>(V1 p0_0 (r7.1.1,r7.1.2) ([r3.2,r5.2,r7.2] : List Int)).bind fun r11=>(ZF (VN p0_0) (r11.1.1,r11.1.2,([] : List (Vector UInt8 32)),r11.2)).bind fun j13=>((Yb p0_0 (j13.1,j13.2.1) 40).bind fun r44=>if (r44.2 == 0) = true then ((ZF (VO) j13.2.2).bind fun j47=>some (r44.1.1,r44.1.2,j47)) else (some (r44.1.1,r44.1.2,j13.2.2)) : Option (Int × Int × (List (Vector UInt8 32)))).bind fun j39=>some ((j39.1,j39.2.1),j39.2.2)
theorem KR (St : Nat → Prop) (W w0 : World) (R : Item) (pb0 : Nat) (p0_0 : (List UInt8)) (v0_0 : Value) (hv0_0 : Rep.sat St W p0_0 [v0_0] []) (p0 : (Int × Int)) (hM : M St W w0 [raw pb0 (cat [[v0_0],[vI p0.1],[(Value.int .u64 p0.2)]]),R]) (r : (Int × Int) × (List (Vector UInt8 32))) (hF : W7 p0_0 p0 = some r) :
  Calls Try.prog 102 [(ptr pb0 0)].toArray w0 (fun en w'=>∃ v,en = .returned v ∧ (∃ (y1 : Value),v = y1 ∧ M St W w' [raw pb0 (cat [[v0_0],[vI r.1.1],[(Value.int .u64 r.1.2)]]),osl NoB (r.2 : List (Vector UInt8 32)) y1,R])):=by
 refine ce Try.func102 ?_
 intro a hE
 unfold W7 at hF
 refine Zb (Zc hE rfl fun a hE=>Ze (Zb (Z3 (xs:=[]) (l:=([] : List (Vector UInt8 32))) (vs:=[]) hE hM Za ld rfl rfl Try.underlying80 Zr rfl (by decide) rfl fun u1 w a hM hE=>Zc hE rfl fun a hE=>Ze (wp_seq (Zb (Zd hE rfl fun a hE=>Zd hE rfl ?_)))))); intro a hE
 have hM:=M.tailP (m:=[_]) hM.pull1
 obtain ⟨r3,e4,hF⟩:=bind_some hF
 refine Zy hE rfl Js (YD _ _ _ _ pb0 p0_0 v0_0 hv0_0 (p0.1,p0.2) 4 hM r3 e4) ?_
 rintro v w a ⟨rfl,hM⟩ hE
 have hM:=M.tailU (m:=[_]) hM
 simp only [List.cons_append,List.nil_append] at hM
 refine Zd hE rfl ?_; intro a hE
 have hM:=M.tailP (m:=[_]) hM
 obtain ⟨r5,e6,hF⟩:=bind_some hF
 refine Zy hE rfl Js (YD _ _ _ _ pb0 p0_0 v0_0 hv0_0 (r3.1.1,r3.1.2) 9 hM r5 e6) ?_
 rintro v w a ⟨rfl,hM⟩ hE
 have hM:=M.tailU (m:=[_]) hM
 simp only [List.cons_append,List.nil_append] at hM
 refine Zd hE rfl ?_; intro a hE
 have hM:=M.tailP (m:=[_]) hM
 obtain ⟨r7,e8,hF⟩:=bind_some hF
 refine Zy hE rfl Js (YD _ _ _ _ pb0 p0_0 v0_0 hv0_0 (r5.1.1,r5.1.2) 20 hM r7 e8) ?_
 rintro v w a ⟨rfl,hM⟩ hE
 have hM:=M.tailU (m:=[_]) hM
 simp only [List.cons_append,List.nil_append] at hM
 refine Z3 (xs:=[.tmp 9,.tmp 11,.tmp 13]) (l:=([r3.2,r5.2,r7.2] : List Int)) (vs:=[vI r3.2,vI r5.2,vI r7.2]) hE hM Za ld rfl rfl Try.underlying138 ty2 rfl (by decide) rfl ?_; intro u9 w a hM hE
 have hM:=M.tailP (m:=[_,_]) hM.pull1
 obtain ⟨r11,e12,hF⟩:=bind_some hF
 refine Zy hE rfl (cbm Try.func49) (Hf _ _ _ _ pb0 p0_0 v0_0 hv0_0 (r7.1.1,r7.1.2) ([r3.2,r5.2,r7.2] : List Int) u9 hM r11 e12) ?_
 rintro v w a ⟨rfl,hM⟩ hE
 have hM:=M.tailU (m:=[_,_]) hM
 simp only [List.cons_append,List.nil_append] at hM
 refine Zc hE rfl fun a hE=>Ze ?_
 obtain ⟨j13,hl14,hF15⟩:=bind_some hF
 refine ZW (fun a w=>∃ (u16 : Value),Env 45 a [(0,(ptr pb0 0)),(3,u16)] ∧ M St W w [raw pb0 (cat [[v0_0],[vI j13.1],[(Value.int .u64 j13.2.1)]]),R,osl NoB (j13.2.2 : List (Vector UInt8 32)) u16]) ?_ ?_
 ·skip
  refine wp_block ?_
  have hM:=(hM.pull2.pull3.pull2.pull3).drop
  refine ZM (fun (s18 : Int × Int × (List (Vector UInt8 32)) × Int) a w=>∃ (u19 : Value),Env 45 a [(0,(ptr pb0 0)),(3,u19),(4,vI s18.2.2.2)] ∧ M St W w [raw pb0 (cat [[v0_0],[vI s18.1],[(Value.int .u64 s18.2.1)]]),R,osl NoB (s18.2.2.1 : List (Vector UInt8 32)) u19]) hl14 ⟨u1,hE.sub ⟨rfl,rfl,rfl,trivial⟩,hM⟩ ?_
  rintro s18 a w ⟨u19,hE,hM⟩ o23 hs21 hx22
  unfold VN at hs21
  refine wp_seq (Zb (Zd hE rfl fun a hE=>Zl hE rfl rfl rfl fun a hE=>Ze ?_))
  refine Zq hE rfl ?_ ?_
  ·intro hb24
   have hs21:=Zt hs21 hb24
   refine wp_skip (Zw (wp_seq (wp_block (Zb (Zd hE rfl ?_))))); intro a hE
   have hM:=M.tailP (m:=[_]) hM
   obtain ⟨r25,e26,hs21⟩:=bind_some hs21
   refine Zy hE rfl Js (YD _ _ _ _ pb0 p0_0 v0_0 hv0_0 (s18.1,s18.2.1) 256 hM r25 e26) ?_
   rintro v w a ⟨rfl,hM⟩ hE
   have hM:=M.tailU (m:=[_]) hM
   simp only [List.cons_append,List.nil_append] at hM
   refine Xc hE Za ld rfl Try.underlying2 Try.underlying5 fun a hE=>Zd hE rfl ?_; intro a hE
   have hM:=M.tailP (m:=[_]) hM
   obtain ⟨r27,e28,hs21⟩:=bind_some hs21
   refine Zy hE rfl Js (YD _ _ _ _ pb0 p0_0 v0_0 hv0_0 (r25.1.1,r25.1.2) 4 hM r27 e28) ?_
   rintro v w a ⟨rfl,hM⟩ hE
   have hM:=M.tailU (m:=[_]) hM
   simp only [List.cons_append,List.nil_append] at hM
   refine Xc hE Za ld rfl Try.underlying2 Try.underlying5 fun a hE=>Yx (parts:=[(0,.tmp 22),(1,.tmp 25)]) (vs:=[(0,(vB (Zz r25.2))),(1,(vB (Zz r27.2)))]) (cs:=enc (((Vector.replicate 32 (0 : UInt8)).setIfInBounds 0 (Zz r25.2)).setIfInBounds 1 (Zz r27.2))) hE Za ld rfl rfl Zr rfl ty5 (Wl (v:=(Vector.replicate 32 (0 : UInt8))) (x:=Zz r25.2) rfl (by decide) rfl (Wl (v:=((Vector.replicate 32 (0 : UInt8)).setIfInBounds 0 (Zz r25.2))) (x:=Zz r27.2) rfl (by decide) rfl Yk)) fun a hE=>Zv hE hM Zr fun b29 w a hM hE=>Zk (seg:=enc (((Vector.replicate 32 (0 : UInt8)).setIfInBounds 0 (Zz r25.2)).setIfInBounds 1 (Zz r27.2))) (cs':=enc (((Vector.replicate 32 (0 : UInt8)).setIfInBounds 0 (Zz r25.2)).setIfInBounds 1 (Zz r27.2))) hE hM Za rfl rfl rfl Zr (Flat.len _) (zle flq) (Flat.cell _) (Zh flq) fun w a hM hE=>Ze (wp_region_lit (Zd hE rfl fun a hE=>Zp hE rfl Zr rfl hM.rawAt0 (Flat.len _) fun a hE=>Z3 (xs:=[.tmp 28]) (l:=([(((Vector.replicate 32 (0 : UInt8)).setIfInBounds 0 (Zz r25.2)).setIfInBounds 1 (Zz r27.2))] : List (Vector UInt8 32))) (vs:=[(Value.agg (enc (((Vector.replicate 32 (0 : UInt8)).setIfInBounds 0 (Zz r25.2)).setIfInBounds 1 (Zz r27.2))).toArray)]) hE hM Za ld rfl rfl Try.underlying80 Zr rfl (by decide) rfl ?_)); intro u31 w a hM hE
   obtain ⟨l33,e34,hs21⟩:=bind_some hs21
   obtain ⟨e37,rfl⟩:=Yn e34
   have hM:=hM.pull4
   refine Yf hE hM Za ld rfl rfl (hM.sl (pre:=[_]) noB) Try.underlying80 Zr rfl (by decide) e37 fun u35 w a hM hE=>Zc hE rfl fun a hE=>Zi (Yv (Zw (wp_region_lit (Zd hE rfl fun a hE=>Zl hE rfl rfl rfl fun a hE=>Zc hE rfl fun a hE=>Zi (Zj ?_)))))
   have hM:=((hM.pull4.pull4.pull4).drop.pull3).drop
   exact ⟨_,(ois hs21),u35,hE.sub ⟨rfl,rfl,rfl,trivial⟩,hM⟩
  ·intro hb24
   have hs21:=Zs hs21 hb24
   refine wp_exit (Zn (Zn (Yy ?_)))
   obtain rfl:=hx22 _ (ois hs21)
   refine Zj ?_
   exact ⟨u19,hE.sub ⟨rfl,rfl,trivial⟩,hM⟩
 ·skip
  rintro a w ⟨u16,hE,hM⟩
  refine Zw ?_
  obtain ⟨j39,hl40,hF41⟩:=bind_some hF15
  refine ZB (fun a w=>∃ (u42 : Value),Env 45 a [(3,u42)] ∧ M St W w [raw pb0 (cat [[v0_0],[vI j39.1],[(Value.int .u64 j39.2.1)]]),R,osl NoB (j39.2.2 : List (Vector UInt8 32)) u42]) ?_ ?_
  ·skip
   refine Zb (Zd hE rfl ?_); intro a hE
   have hM:=M.tailP (m:=[_]) hM
   obtain ⟨r44,e45,hl40⟩:=bind_some hl40
   refine Zy hE rfl Js (YD _ _ _ _ pb0 p0_0 v0_0 hv0_0 (j13.1,j13.2.1) 40 hM r44 e45) ?_
   rintro v w a ⟨rfl,hM⟩ hE
   have hM:=M.tailU (m:=[_]) hM
   simp only [List.cons_append,List.nil_append] at hM
   refine Zl hE rfl rfl rfl fun a hE=>Ze ?_
   refine Zq hE rfl ?_ ?_
   ·intro hb46
    have hl40:=Zt hl40 hb46
    obtain ⟨j47,hl48,hF49⟩:=bind_some hl40
    refine ZW (fun a w=>∃ (u50 : Value),Env 45 a [(3,u50)] ∧ M St W w [raw pb0 (cat [[v0_0],[vI r44.1.1],[(Value.int .u64 r44.1.2)]]),R,osl NoB (j47 : List (Vector UInt8 32)) u50]) ?_ ?_
    ·skip
     refine wp_block ?_
     refine ZM (fun (s52 : (List (Vector UInt8 32))) a w=>∃ (u53 : Value),Env 45 a [(3,u53)] ∧ M St W w [raw pb0 (cat [[v0_0],[vI r44.1.1],[(Value.int .u64 r44.1.2)]]),R,osl NoB (s52 : List (Vector UInt8 32)) u53]) hl48 ⟨u16,hE.sub ⟨rfl,trivial⟩,hM⟩ ?_
     rintro s52 a w ⟨u53,hE,hM⟩ o57 hs55 hx56
     unfold VO at hs55
     refine wp_seq (Zb (Zd hE rfl fun a hE=>Yq hE rfl Try.underlying80 (hM.sl (pre:=[_,_]) noB) fun a hE=>Zl hE rfl rfl rfl fun a hE=>Ze ?_))
     refine Zq hE rfl ?_ ?_
     ·intro hb58
      have hs55:=Zt hs55 hb58
      refine wp_skip (Zw (wp_block (wp_region_lit (Zd hE rfl fun a hE=>Zd hE rfl fun a hE=>Yq hE rfl Try.underlying80 (hM.sl (pre:=[_,_]) noB) fun a hE=>Xc hE Za ld rfl Try.underlying3 Try.underlying5 fun a hE=>Yx (parts:=[(0,.tmp 40)]) (vs:=[(0,(vB (Zz (s52.length : Int))))]) (cs:=enc ((Vector.replicate 32 (0 : UInt8)).setIfInBounds 0 (Zz (s52.length : Int)))) hE Za ld rfl rfl Zr rfl ty5 (Wl (v:=(Vector.replicate 32 (0 : UInt8))) (x:=Zz (s52.length : Int)) rfl (by decide) rfl Yk) fun a hE=>Z3 (xs:=[.tmp 41]) (l:=([((Vector.replicate 32 (0 : UInt8)).setIfInBounds 0 (Zz (s52.length : Int)))] : List (Vector UInt8 32))) (vs:=[(Value.agg (enc ((Vector.replicate 32 (0 : UInt8)).setIfInBounds 0 (Zz (s52.length : Int)))).toArray)]) hE hM Za ld rfl rfl Try.underlying80 Zr rfl (by decide) rfl ?_)))); intro u59 w a hM hE
      obtain ⟨l61,e62,hs55⟩:=bind_some hs55
      obtain ⟨e65,rfl⟩:=Yn e62
      have hM:=hM.pull3
      refine Yf hE hM Za ld rfl rfl (hM.sl (pre:=[_]) noB) Try.underlying80 Zr rfl (by decide) e65 fun u63 w a hM hE=>Zc hE rfl fun a hE=>Zi (Yv (Zj ?_))
      have hM:=(hM.pull3.pull3.pull3).drop
      exact ⟨_,(ois hs55),u63,hE.sub ⟨rfl,trivial⟩,hM⟩
     ·intro hb58
      have hs55:=Zs hs55 hb58
      refine wp_exit (Zn (Zn (Yy ?_)))
      obtain rfl:=hx56 _ (ois hs55)
      refine Zj ?_
      exact ⟨u53,hE.sub ⟨rfl,trivial⟩,hM⟩
    ·skip
     rintro a w ⟨u50,hE,hM⟩
     obtain rfl:=Option.some.inj hF49
     refine Zj ?_
     exact ⟨u50,hE.sub ⟨rfl,trivial⟩,hM⟩
   ·intro hb46
    have hl40:=Zs hl40 hb46
    refine wp_skip ?_
    obtain rfl:=Option.some.inj hl40
    refine Zj ?_
    exact ⟨u16,hE.sub ⟨rfl,trivial⟩,hM⟩
  ·skip
   rintro a w ⟨u42,hE,hM⟩
   refine Zb (Zd hE rfl fun a hE=>Zc hE rfl fun a hE=>Ze ?_)
   obtain rfl:=Option.some.inj hF41
   have hM:=hM.pull1.pull2.pull2
   exact wp_ret (ZU hE rfl (ZV hE rfl) ⟨_,rfl,u42,rfl,hM⟩)
def Xa (p0 : (List UInt8)) : Option ((List (Vector UInt8 32)) × (Vector UInt8 32)) :=
 (W5 p0).bind fun r3=>(Vh p0 (r3.1,r3.2)).bind fun r7=>(Yb p0 (r7.1.1,r7.1.2) 120).bind fun r10=>((Yb p0 (r10.1.1,r10.1.2) 10).bind fun r19=>if (r19.2 == 0) = true then ((W7 p0 (r19.1.1,r19.1.2)).bind fun r22=>some r22.2) else (some r7.2) : Option ((List (Vector UInt8 32)))).bind fun j14=>(some ((((Vector.replicate 32 (0 : UInt8)).setIfInBounds 0 0).setIfInBounds 1 (Zz r10.2)),j14) : Option ((Vector UInt8 32) × (List (Vector UInt8 32)))).bind fun j27=>some (j27.2,j27.1)
theorem UZ (w0 : World) (p0 : (List UInt8)) (v0_1 : Value) (hv0_1 : Ro w0 p0 [v0_1]) (r : (List (Vector UInt8 32)) × (Vector UInt8 32)) (hF : Xa p0 = some r) :
  Calls Try.prog 39 [v0_1].toArray w0 (fun en w'=>∃ v,en = .returned v ∧ (∃ (y1 : Value),v = (Value.tuple [y1,(Value.agg (enc r.2).toArray)].toArray) ∧ Fr w0 w' [osl NoB (r.1 : List (Vector UInt8 32)) y1] ∧ Kept (Old w0) w0 w')):=by
 refine ce Try.func39 ?_
 intro a hE
 have hM:=M.start w0
 unfold Xa at hF
 refine Zb (Zc hE rfl fun a hE=>Zv hE hM Zr fun b1 w a hM hE=>Ze (Zb (Zd hE rfl ?_))); intro a hE
 have hM:=M.tailP (m:=[]) hM
 obtain ⟨r3,e4,hF⟩:=bind_some hF
 refine Zy hE rfl (cbm Try.func47) (Qc _ _ _ _ p0 v0_1 hv0_1 hM r3 e4) ?_
 rintro v w a ⟨b5,rfl,hM⟩ hE
 have hM:=M.tailU (m:=[_]) hM
 simp only [List.cons_append,List.nil_append] at hM
 refine Zc hE rfl fun a hE=>Ze (Zb (Zd hE rfl ?_)); intro a hE
 have hM:=M.tailP (m:=[_]) hM
 obtain ⟨r7,e8,hF⟩:=bind_some hF
 refine Zy hE rfl (cbm Try.func101) (KO _ _ _ _ b5 p0 v0_1 hv0_1 (r3.1,r3.2) hM r7 e8) ?_
 rintro u9 w a ⟨_,rfl,hM⟩ hE
 have hM:=M.tailU (m:=[_,_]) hM
 simp only [List.cons_append,List.nil_append] at hM
 refine Zd hE rfl ?_; intro a hE
 have hM:=M.tailP (m:=[_]) hM
 obtain ⟨r10,e11,hF⟩:=bind_some hF
 refine Zy hE rfl Js (YD _ _ _ _ b5 p0 v0_1 hv0_1 (r7.1.1,r7.1.2) 120 hM r10 e11) ?_
 rintro v w a ⟨rfl,hM⟩ hE
 have hM:=M.tailU (m:=[_]) hM
 simp only [List.cons_append,List.nil_append] at hM
 refine Xc hE Za ld rfl Try.underlying2 Try.underlying5 fun a hE=>Yx (parts:=[(0,.const (vB 0)),(1,.tmp 13)]) (vs:=[(0,vB 0),(1,(vB (Zz r10.2)))]) (cs:=enc (((Vector.replicate 32 (0 : UInt8)).setIfInBounds 0 0).setIfInBounds 1 (Zz r10.2))) hE Za ld rfl rfl Zr rfl ty5 (Wl (v:=(Vector.replicate 32 (0 : UInt8))) (x:=0) rfl (by decide) rfl (Wl (v:=((Vector.replicate 32 (0 : UInt8)).setIfInBounds 0 0)) (x:=Zz r10.2) rfl (by decide) rfl Yk)) fun a hE=>Zv hE hM Zr fun b12 w a hM hE=>Zc hE rfl fun a hE=>Zk (seg:=enc (((Vector.replicate 32 (0 : UInt8)).setIfInBounds 0 0).setIfInBounds 1 (Zz r10.2))) (cs':=enc (((Vector.replicate 32 (0 : UInt8)).setIfInBounds 0 0).setIfInBounds 1 (Zz r10.2))) hE hM Za rfl rfl rfl Zr (Flat.len _) (zle flq) (Flat.cell _) (Zh flq) fun w a hM hE=>Ze ?_
 obtain ⟨j14,hl15,hF16⟩:=bind_some hF
 refine ZB (fun a w=>∃ (u17 : Value),Env 22 a [(3,(ptr b1 0)),(5,u17),(6,(ptr b12 0))] ∧ M (Old w0) w0 w [raw b12 (enc (((Vector.replicate 32 (0 : UInt8)).setIfInBounds 0 0).setIfInBounds 1 (Zz r10.2))),raw b1 (enc (Vector.replicate 32 (0 : UInt8))),osl NoB (j14 : List (Vector UInt8 32)) u17]) ?_ ?_
 ·skip
  refine Zb (Zd hE rfl ?_); intro a hE
  have hM:=M.tailP (m:=[_]) hM.pull1
  obtain ⟨r19,e20,hl15⟩:=bind_some hl15
  refine Zy hE rfl Js (YD _ _ _ _ b5 p0 v0_1 hv0_1 (r10.1.1,r10.1.2) 10 hM r19 e20) ?_
  rintro v w a ⟨rfl,hM⟩ hE
  have hM:=M.tailU (m:=[_]) hM
  simp only [List.cons_append,List.nil_append] at hM
  refine Zl hE rfl rfl rfl fun a hE=>Ze ?_
  refine Zq hE rfl ?_ ?_
  ·intro hb21
   have hl15:=Zt hl15 hb21
   refine wp_region_lit (Zd hE rfl ?_); intro a hE
   have hM:=M.tailP (m:=[_]) hM
   obtain ⟨r22,e23,hl15⟩:=bind_some hl15
   refine Zy hE rfl (cbm Try.func102) (KR _ _ _ _ b5 p0 v0_1 hv0_1 (r19.1.1,r19.1.2) hM r22 e23) ?_
   rintro u24 w a ⟨_,rfl,hM⟩ hE
   have hM:=M.tailU (m:=[_,_]) hM
   simp only [List.cons_append,List.nil_append] at hM
   refine Zc hE rfl fun a hE=>Zi ?_
   obtain rfl:=Option.some.inj hl15
   refine Zj ?_
   have hM:=M.fst (l:=[_,_,_]) hM.pull1.pull4.pull3
   exact ⟨u24,hE.sub ⟨rfl,rfl,rfl,trivial⟩,hM⟩
  ·intro hb21
   have hl15:=Zs hl15 hb21
   refine wp_skip ?_
   obtain rfl:=Option.some.inj hl15
   refine Zj ?_
   have hM:=M.fst (l:=[_,_,_]) hM.pull2.pull3.pull3
   exact ⟨u9,hE.sub ⟨rfl,rfl,rfl,trivial⟩,hM⟩
 ·skip
  rintro a w ⟨u17,hE,hM⟩
  obtain ⟨j27,hl28,hF29⟩:=bind_some hF16
  refine ZB (fun a w=>∃ (u30 : Value),Env 22 a [(2,u30),(3,(ptr b1 0))] ∧ M (Old w0) w0 w [raw b1 (enc j27.1),osl NoB (j27.2 : List (Vector UInt8 32)) u30]) ?_ ?_
  ·skip
   refine ZP [20,21,2] Yr rfl rfl (by decide) rfl hE hM (qsP (fun z=>Zg z.E Za ld rfl (kr0 rfl)) (qsP (fun z=>ZA z.E Za ld rfl Zr rfl (z.M.rawAt0) (Flat.len _) (kr0 rfl)) (qsP (fun z=>VD z.E Za ld rfl (kr0 rfl)) qs0))) ?_
   ·intro a w u hE hM
    have hM:=hM.pull1
    refine Zk (seg:=enc (((Vector.replicate 32 (0 : UInt8)).setIfInBounds 0 0).setIfInBounds 1 (Zz r10.2))) (cs':=enc (((Vector.replicate 32 (0 : UInt8)).setIfInBounds 0 0).setIfInBounds 1 (Zz r10.2))) hE hM Za rfl rfl rfl Zr (Flat.len _) (zle flq) (Flat.cell _) (Zh flq) fun w a hM hE=>Zi ?_
    obtain rfl:=Option.some.inj hl28
    refine Zj ?_
    have hM:=M.fst (l:=[_,_]) hM.pull2.pull1
    exact ⟨u17,hE.sub ⟨rfl,rfl,trivial⟩,hM⟩
  ·skip
   rintro a w ⟨u30,hE,hM⟩
   obtain rfl:=Option.some.inj hF29
   have hq34 : Z6 Try.prog _ _ (.cell 3 82) _:=ZD hE rfl Zr rfl hM.rawAt0 (Flat.len _) rfl
   have hM:=M.fst (l:=[_]) hM.pull1
   exact wp_ret (WR hE rfl (ZV hE rfl) hq34 ⟨_,rfl,u30,rfl,hM.outF (X2 Wy),hM.kept⟩)
def Up (p0 : (List UInt8)) (p1 : (List UInt8)) : Option (Int) :=
 some (Wz p0 p1)
theorem Jt (w0 : World) (p0 : (List UInt8)) (v0_1 : Value) (hv0_1 : Ro w0 p0 [v0_1]) (p1 : (List UInt8)) (v1_1 : Value) (hv1_1 : Ro w0 p1 [v1_1]) (r : Int) (hF : Up p0 p1 = some r) :
  Calls Try.prog 165 [v0_1,v1_1].toArray w0 (Rt w0 (vI r)):=by
 refine ce Try.func165 ?_
 intro a hE
 have hM:=M.start w0
 unfold Up at hF
 refine Zb (Zc hE rfl fun a hE=>Ze (Zb (Zd hE rfl fun a hE=>Zd hE rfl fun a hE=>JQ (xs:=[.tmp 5,.tmp 6]) hE Za ld rfl Try.func192 rfl (by decide) (by kernel_rfl) (by kernel_rfl) (hM.rd hv0_1) (hM.rd hv1_1) fun a hE=>Zc hE rfl fun a hE=>Ze ?_)))
 obtain rfl:=Option.some.inj hF
 exact wp_ret (kr1 hE rfl rfl hM.kept)
def ZT (p0 : (Vector UInt8 32)) (p1 : (Vector UInt8 32)) : Option (Int) :=
 ((slc p0.toList (0 : Int) (32 : Int)).bind fun l9=>(slc p1.toList (0 : Int) (32 : Int)).bind fun l12=>(Up l9 l12).bind fun r15=>some r15 : Option (Int)).bind fun j5=>some j5
theorem VJ (w0 : World) (p0 : (Vector UInt8 32)) (p1 : (Vector UInt8 32)) (r : Int) (hF : ZT p0 p1 = some r) :
  Calls Try.prog 105 [(Value.agg (enc p0).toArray),(Value.agg (enc p1).toArray)].toArray w0 (Rt w0 (vI r)):=by
 refine ce Try.func105 ?_
 intro a hE
 have hM:=M.start w0
 unfold ZT at hF
 refine Zb (Z7 (cs:=enc p0) hE hM Za ld rfl rfl fun b1 w a hM hE=>Z7 (cs:=enc p1) hE hM Za ld rfl rfl fun b3 w a hM hE=>Zc hE rfl fun a hE=>Ze ?_)
 obtain ⟨j5,hl6,hF7⟩:=bind_some hF
 refine ZB (fun a w=>Env 8 a [(4,vI j5)] ∧ M (Old w0) w0 w []) ?_ ?_
 ·skip
  obtain ⟨l9,e10,hl6⟩:=bind_some hl6
  have hb11:=UB e10 -- ^
  obtain ⟨l12,e13,hl6⟩:=bind_some hl6
  have hb14:=UB e13 -- ^
  obtain ⟨r15,e16,hl6⟩:=bind_some hl6
  refine ZP [5,6,7,4] Yr rfl rfl (by decide) rfl hE hM (qsP (fun z=>Wn (N:=32) z.E Za ld rfl rfl rfl rfl rfl Try.underlying82 ty5 hb11 (kr0 rfl)) (qsP (fun z=>Wn (N:=32) z.E Za ld rfl rfl rfl rfl rfl Try.underlying82 ty5 hb14 (kr0 rfl)) (qsP (fun z=>ZX z.E Za ld rfl (cbm Try.func165) (Jt _ l9 (ZO (.slice (some ⟨b1,0,none⟩) 32 32) ((0 : Int)).toNat ((32 : Int)).toNat 1) (Yg (At.sat (z.M.rawAt1) (by simp) (by decide)) e10) l12 (ZO (.slice (some ⟨b3,0,none⟩) 32 32) ((0 : Int)).toNat ((32 : Int)).toNat 1) (Yg (At.sat (z.M.rawAt0) (by simp) (by decide)) e13) r15 e16) (kc rfl)) (qsP (fun z=>VD z.E Za ld rfl (kr0 rfl)) qs0)))) ?_
  ·intro a w u hE hM
   refine Zi ?_
   obtain rfl:=Option.some.inj hl6
   refine Zj ?_
   have hM:=M.fst (l:=[]) hM
   exact ⟨hE.sub ⟨rfl,trivial⟩,hM⟩
 ·skip
  rintro a w ⟨hE,hM⟩
  obtain rfl:=Option.some.inj hF7
  exact wp_ret (kr1 hE rfl rfl hM.kept)
def U7 (p0 : (List (Vector UInt8 32))) (s5 : Int) : Option (Fl Int (Fl Unit Bool)) :=
 if (decide (s5 < (p0.length : Int))) = true then (((idx p0 (wr (s5 - 1))).bind fun x14=>(idx p0 s5).bind fun x17=>(ZT x14 x17).bind fun r20=>some (decide (r20 ≥ 0)) : Option (Bool)).bind fun j10=>if j10 = true then (some (Fl.ex (Fl.ex false))) else (some (Fl.nx (wr (s5 + 1))))) else (some (Fl.ex (Fl.nx ())))
def VY (p0 : (List (Vector UInt8 32))) : Option (Bool) :=
 (ZF (U7 p0) 1).bind fun j1=>j1.el (fun s4=>some true) (fun r=>some r)
theorem HF (w0 : World) (p0 : (List (Vector UInt8 32))) (v0_1 : Value) (hv0_1 : Ro w0 p0 [v0_1]) (r : Bool) (hF : VY p0 = some r) :
  Calls Try.prog 103 [v0_1].toArray w0 (Rt w0 (vT r)):=by
 refine ce Try.func103 ?_
 intro a hE
 have hM:=M.start w0
 unfold VY at hF
 refine Zb (Zc hE rfl fun a hE=>Ze (wp_seq (Zb (Zc hE rfl fun a hE=>Ze ?_))))
 obtain ⟨j1,hl2,hF3⟩:=bind_some hF
 refine ZW (fun a w=>∃ s4 : Unit,j1 = Fl.nx s4 ∧ Env 21 a [] ∧ M (Old w0) w0 w []) ?_ ?_
 ·skip
  refine wp_block ?_
  refine ZM (fun (s5 : Int) a w=>Env 21 a [(0,v0_1),(3,vI s5)] ∧ M (Old w0) w0 w []) hl2 ⟨hE.sub ⟨rfl,rfl,trivial⟩,hM⟩ ?_
  rintro s5 a w ⟨hE,hM⟩ o8 hs6 hx7
  unfold U7 at hs6
  refine wp_seq (Zb (Zd hE rfl fun a hE=>Zd hE rfl fun a hE=>Yq hE rfl Try.underlying80 (hM.rd hv0_1) fun a hE=>Zl hE rfl rfl rfl fun a hE=>Ze ?_))
  refine Zq hE rfl ?_ ?_
  ·intro hb9
   have hs6:=Zt hs6 hb9
   refine wp_skip (Zw (wp_seq (wp_block ?_)))
   obtain ⟨j10,hl11,hF12⟩:=bind_some hs6
   refine ZB (fun a w=>Env 21 a [(0,v0_1),(3,vI s5),(20,vT j10)] ∧ M (Old w0) w0 w []) ?_ ?_
   ·skip
    obtain ⟨x14,hi16,hl11⟩:=bix hl11
    obtain ⟨x17,hi19,hl11⟩:=bix hl11
    obtain ⟨r20,e21,hl11⟩:=bind_some hl11
    refine ZP [10,11,12,13,14,15,16,17,18,19,20] Yr rfl rfl (by decide) rfl hE hM (qsP (fun z=>Zg z.E Za ld rfl (kr0 rfl)) (qsP (fun z=>Zg z.E Za ld rfl (kr0 rfl)) (qsP (v:=(vI (wr (s5 - 1)))) (fun z=>Z1 z.E Za ld rfl rfl rfl (kr0 rfl)) (qsP (fun z=>Yi z.E Za ld rfl rfl Try.underlying80 Zr (z.M.rd hv0_1) hi16.1 (kr0 rfl)) (qsP (fun z=>ZA z.E Za ld rfl Zr rfl (YA (z.M.rd hv0_1) hi16.2) (Flat.len _) (kr0 rfl)) (qsP (fun z=>Zg z.E Za ld rfl (kr0 rfl)) (qsP (fun z=>Zg z.E Za ld rfl (kr0 rfl)) (qsP (fun z=>Yi z.E Za ld rfl rfl Try.underlying80 Zr (z.M.rd hv0_1) hi19.1 (kr0 rfl)) (qsP (fun z=>ZA z.E Za ld rfl Zr rfl (YA (z.M.rd hv0_1) hi19.2) (Flat.len _) (kr0 rfl)) (qsP (fun z=>ZX z.E Za ld rfl jr (VJ _ x14 x17 r20 e21) (kc rfl)) (qsP (fun z=>Z1 z.E Za ld rfl rfl rfl (kr0 rfl)) qs0))))))))))) ?_
    ·intro a w u hE hM
     refine Zi ?_
     obtain rfl:=Option.some.inj hl11
     refine Zj ?_
     exact ⟨hE.sub ⟨rfl,rfl,rfl,trivial⟩,hM⟩
   ·skip
    rintro a w ⟨hE,hM⟩
    refine Zq hE rfl ?_ ?_
    ·intro hb23
     have hF12:=Zt hF12 hb23
     refine Zb (Zc hE rfl fun a hE=>Ze ?_)
     obtain rfl:=hx7 _ (ois hF12)
     obtain rfl:=Option.some.inj hF3
     exact wp_ret (Vj (ZL (ZL (Vj (ZL (ZL (kr1 hE rfl rfl hM.kept)))))))
    ·intro hb23
     have hF12:=Zs hF12 hb23
     refine wp_skip (Yv (Zw (wp_region_lit (Zd hE rfl fun a hE=>Zl hE rfl rfl rfl fun a hE=>Zc hE rfl fun a hE=>Zi (Zj ?_)))))
     exact ⟨_,(ois hF12),hE.sub ⟨rfl,rfl,trivial⟩,hM⟩
  ·intro hb9
   have hs6:=Zs hs6 hb9
   refine wp_exit (Zn (Zn (Yy ?_)))
   obtain rfl:=hx7 _ (ois hs6)
   refine Zj ?_
   exact ⟨(),rfl,hE.sub trivial,hM⟩
 ·skip
  rintro a w ⟨s4,ht,hE,hM⟩
  subst ht
  have hF3:=Ki hF3
  refine Zw (Zb (Zc hE rfl fun a hE=>Ze ?_))
  obtain rfl:=Option.some.inj hF3
  exact wp_ret (kr1 hE rfl rfl hM.kept)
def Zx (p0 : (List (Vector UInt8 32))) (p1 : (Vector UInt8 32)) (p2 : (Vector UInt8 32) → (Vector UInt8 32) → Option (Int)) (s6 : Int × Int) : Option (Fl (Int × Int) Int) :=
 if (decide (s6.2 < s6.1)) = true then ((((idx p0 (IntKind.i64.wrap (Uy (IntKind.u64.wrap (wr (s6.2 + s6.1))) 1))).bind fun x18=>((p2 x18 p1)).bind fun r21=>some (decide (r21 < 0)) : Option (Bool)).bind fun j14=>(if j14 = true then (some (s6.1,wr ((IntKind.i64.wrap (Uy (IntKind.u64.wrap (wr (s6.2 + s6.1))) 1)) + 1))) else (some (IntKind.i64.wrap (Uy (IntKind.u64.wrap (wr (s6.2 + s6.1))) 1),s6.2)) : Option (Int × Int)).bind fun j24=>some (j24.1,j24.2) : Option (Int × Int)).bind fun j11=>some (Fl.nx (j11.1,j11.2))) else (some (Fl.ex s6.2))
def ZG (p0 : (List (Vector UInt8 32))) (p1 : (Vector UInt8 32)) (p2 : (Vector UInt8 32) → (Vector UInt8 32) → Option (Int)) : Option (Int × Bool) :=
 (ZF (Zx p0 p1 p2) ((p0.length : Int),0)).bind fun j3=>(if (decide (j3 < (p0.length : Int))) = true then ((idx p0 j3).bind fun x37=>((p2 x37 p1)).bind fun r40=>some (j3,r40 == 0)) else (some (j3,false)) : Option (Int × Bool)).bind fun j32=>some (j32.1,j32.2)
theorem Xo (w0 : World) (p0 : (List (Vector UInt8 32))) (v0_1 : Value) (hv0_1 : Ro w0 p0 [v0_1]) (p1 : (Vector UInt8 32)) (p2 : (Vector UInt8 32) → (Vector UInt8 32) → Option (Int)) (k2 : Nat) (q2 : List Value) (hcb2 : Callable Try.prog k2) (hg2 : ∀ (w2 : World),Kept (Old w0) w0 w2 → ∀ (z0 : (Vector UInt8 32)) (z1 : (Vector UInt8 32)) (zr : Int),p2 z0 z1 = some zr → Calls Try.prog k2 ([(Value.agg (enc z0).toArray),(Value.agg (enc z1).toArray)] ++ q2).toArray w2 (fun en w3=>∃ v,en = .returned v ∧ (v = (vI zr) ∧ Kept (Old w2) w2 w3))) (r : Int × Bool) (hF : ZG p0 p1 p2 = some r) :
  Calls Try.prog 104 [v0_1,(Value.agg (enc p1).toArray),(Value.func (.func k2) #[] q2.toArray)].toArray w0 (Rt w0 (Value.tuple [vI r.1,vT r.2].toArray)):=by
 refine ce Try.func104 ?_
 intro a hE
 have hM:=M.start w0
 unfold ZG at hF
 refine Zb (Z7 (cs:=enc p1) hE hM Za ld rfl rfl fun b1 w a hM hE=>Zc hE rfl fun a hE=>Zc hE rfl fun a hE=>Ze (Zb (Zd hE rfl fun a hE=>Yq hE rfl Try.underlying80 (hM.rd hv0_1) fun a hE=>Zc hE rfl fun a hE=>Ze (Zb (Zd hE rfl fun a hE=>Zc hE rfl fun a hE=>Zc hE rfl fun a hE=>Ze ?_)))))
 obtain ⟨j3,hl4,hF5⟩:=bind_some hF
 refine ZB (fun a w=>Env 49 a [(0,v0_1),(2,(Value.func (.func k2) #[] q2.toArray)),(4,(ptr b1 0)),(8,(vI (p0.length : Int))),(9,vI j3)] ∧ M (Old w0) w0 w [raw b1 (enc p1)]) ?_ ?_
 ·skip
  refine wp_block ?_
  refine ZM (fun (s6 : Int × Int) a w=>Env 49 a [(0,v0_1),(2,(Value.func (.func k2) #[] q2.toArray)),(4,(ptr b1 0)),(8,(vI (p0.length : Int))),(9,vI s6.2),(10,vI s6.1)] ∧ M (Old w0) w0 w [raw b1 (enc p1)]) hl4 ⟨hE.sub ⟨rfl,rfl,rfl,rfl,rfl,rfl,trivial⟩,hM⟩ ?_
  rintro s6 a w ⟨hE,hM⟩ o9 hs7 hx8
  unfold Zx at hs7
  refine wp_seq (Zb (Zd hE rfl fun a hE=>Zd hE rfl fun a hE=>Zl hE rfl rfl rfl fun a hE=>Ze ?_))
  refine Zq hE rfl ?_ ?_
  ·intro hb10
   have hs7:=Zt hs7 hb10
   refine wp_skip (Zw ?_)
   obtain ⟨j11,hl12,hF13⟩:=bind_some hs7
   refine ZW (fun a w=>Env 49 a [(0,v0_1),(2,(Value.func (.func k2) #[] q2.toArray)),(4,(ptr b1 0)),(8,(vI (p0.length : Int))),(9,vI j11.2),(10,vI j11.1)] ∧ M (Old w0) w0 w [raw b1 (enc p1)]) ?_ ?_
   ·skip
    refine wp_block (Zb (Zd hE rfl fun a hE=>Zd hE rfl fun a hE=>Zl hE rfl rfl rfl fun a hE=>TL hE Za ld rfl Try.underlying3 Try.underlying170 fun a hE=>JC hE Za ld rfl rfl (yG _ _ (by decide)) fun a hE=>TL hE Za ld rfl Try.underlying170 Try.underlying3 fun a hE=>Zc hE rfl fun a hE=>Ze ?_))
    obtain ⟨j14,hl15,hF16⟩:=bind_some hl12
    refine ZB (fun a w=>Env 49 a [(0,v0_1),(2,(Value.func (.func k2) #[] q2.toArray)),(4,(ptr b1 0)),(8,(vI (p0.length : Int))),(9,vI s6.2),(10,vI s6.1),(11,(vI (IntKind.i64.wrap (Uy (IntKind.u64.wrap (wr (s6.2 + s6.1))) 1)))),(31,vT j14)] ∧ M (Old w0) w0 w [raw b1 (enc p1)]) ?_ ?_
    ·skip
     obtain ⟨x18,hi20,hl15⟩:=bix hl15
     refine ZP [24,25,26,27,28,29] Yr rfl rfl (by decide) rfl hE hM (qsP (fun z=>Zg z.E Za ld rfl (kr0 rfl)) (qsP (fun z=>Zg z.E Za ld rfl (kr0 rfl)) (qsP (fun z=>Zg z.E Za ld rfl (kr0 rfl)) (qsP (fun z=>Yi z.E Za ld rfl rfl Try.underlying80 Zr (z.M.rd hv0_1) hi20.1 (kr0 rfl)) (qsP (fun z=>ZA z.E Za ld rfl Zr rfl (YA (z.M.rd hv0_1) hi20.2) (Flat.len _) (kr0 rfl)) (qsP (fun z=>ZA z.E Za ld rfl Zr rfl (z.M.rawAt0) (Flat.len _) (kr0 rfl)) qs0)))))) ?_
     ·intro a w u hE hM
      obtain ⟨r21,e22,hl15⟩:=bind_some hl15
      refine B3 (vs:=[(Value.agg (enc x18).toArray),(Value.agg (enc p1).toArray)]) hE Za ld rfl rfl hcb2 (hg2 _ hM.kept x18 p1 r21 e22) ?_
      rintro v w a ⟨rfl,hK⟩ hE
      have hM:=hM.keep hK
      refine Zl hE rfl rfl rfl fun a hE=>Zi ?_
      obtain rfl:=Option.some.inj hl15
      refine Zj ?_
      exact ⟨hE.sub ⟨rfl,rfl,rfl,rfl,rfl,rfl,rfl,rfl,trivial⟩,hM⟩
    ·skip
     rintro a w ⟨hE,hM⟩
     obtain ⟨j24,hl25,hF26⟩:=bind_some hF16
     refine ZW (fun a w=>Env 49 a [(0,v0_1),(2,(Value.func (.func k2) #[] q2.toArray)),(4,(ptr b1 0)),(8,(vI (p0.length : Int))),(9,vI j24.2),(10,vI j24.1)] ∧ M (Old w0) w0 w [raw b1 (enc p1)]) ?_ ?_
     ·skip
      refine Zq hE rfl ?_ ?_
      ·intro hb27
       have hl25:=Zt hl25 hb27
       refine wp_region_lit (Zd hE rfl fun a hE=>Zl hE rfl rfl rfl fun a hE=>Zc hE rfl fun a hE=>Zi ?_)
       obtain rfl:=Option.some.inj hl25
       refine Zj ?_
       exact ⟨hE.sub ⟨rfl,rfl,rfl,rfl,rfl,rfl,trivial⟩,hM⟩
      ·intro hb27
       have hl25:=Zs hl25 hb27
       refine wp_region_lit (Zd hE rfl fun a hE=>Zc hE rfl fun a hE=>Zi ?_)
       obtain rfl:=Option.some.inj hl25
       refine Zj ?_
       exact ⟨hE.sub ⟨rfl,rfl,rfl,rfl,rfl,rfl,trivial⟩,hM⟩
     ·skip
      rintro a w ⟨hE,hM⟩
      refine Yv ?_
      obtain rfl:=Option.some.inj hF26
      refine Zj ?_
      exact ⟨hE.sub ⟨rfl,rfl,rfl,rfl,rfl,rfl,trivial⟩,hM⟩
   ·skip
    rintro a w ⟨hE,hM⟩
    refine Zj ?_
    exact ⟨_,(ois hF13),hE.sub ⟨rfl,rfl,rfl,rfl,rfl,rfl,trivial⟩,hM⟩
  ·intro hb10
   have hs7:=Zs hs7 hb10
   refine wp_exit (Zn (Zn (Yy ?_)))
   obtain rfl:=hx8 _ (ois hs7)
   refine Zj ?_
   exact ⟨hE.sub ⟨rfl,rfl,rfl,rfl,rfl,trivial⟩,hM⟩
 ·skip
  rintro a w ⟨hE,hM⟩
  obtain ⟨j32,hl33,hF34⟩:=bind_some hF5
  refine ZB (fun a w=>Env 49 a [(6,vI j32.1),(7,vT j32.2)] ∧ M (Old w0) w0 w []) ?_ ?_
  ·skip
   refine YP (decide (j3 < (p0.length : Int))) (fun hb36=>?_) (fun hb36=>?_)
   ·have hl33:=Zt hl33 hb36
    obtain ⟨x37,hi39,hl33⟩:=bix hl33
    obtain ⟨r40,e41,hl33⟩:=bind_some hl33
    refine YV (its:=[raw b1 (enc p1)]) (mk:=([] : Mk)) [35,36,37,38,39,40,41,42,43,44,45,46,47,48,6] Yr rfl rfl (by decide) rfl hE (fun u=>M.q0 hM.drew u) (qsP (fun z=>Zg z.E Za ld rfl (kr0 rfl)) (qsP (fun z=>Zg z.E Za ld rfl (kr0 rfl)) (qsP (fun z=>Zg z.E Za ld rfl (kr0 rfl)) (qsP (fun z=>Z1 z.E Za ld rfl rfl rfl (kr0 rfl)) (qsP (fun z=>Zg z.E Za ld rfl (kr0 rfl)) (qsP (fun z=>Zg z.E (Zf z.E rfl (lkb rfl hb36)) (by decide) rfl (kr0 rfl)) (qsP (fun z=>Zg z.E (Zf z.E rfl (lkb rfl hb36)) (by decide) rfl (kr0 rfl)) (qsP (fun z=>Zg z.E (Zf z.E rfl (lkb rfl hb36)) (by decide) rfl (kr0 rfl)) (qsP (v:=(ptr (sb v0_1) (so v0_1 + (j3).toNat * 32))) ?_ (qsP (v:=(Value.agg (enc x37).toArray)) ?_ (qsP (v:=(Value.agg (enc p1).toArray)) ?_ (qsP (v:=(vI r40)) ?_ (qsP (fun z=>Z1 z.E (Zf z.E rfl (lkb rfl hb36)) (by decide) rfl rfl rfl (kr0 rfl)) (qsP (fun z=>Vo z.E Za ld (lkb rfl hb36) rfl (kr0 rfl)) (qsP (fun z=>VD z.E Za ld rfl (kr0 rfl)) qs0))))))))))))))) ?_
    ·intro a w ux35 D z
     have hE:=z.E
     have hM:=z.M
     exact Yi hE (Zf hE rfl (lkb rfl hb36)) (by decide) rfl rfl Try.underlying80 Zr (hM.rd hv0_1) hi39.1 fun a hE=>⟨Kept.refl _ _,_,rfl,hE⟩
    ·intro a w ux35 D z
     have hE:=z.E
     have hM:=z.M
     exact ZA hE (Zf hE rfl (lkb rfl hb36)) (by decide) rfl Zr rfl (YA (hM.rd hv0_1) hi39.2) (Flat.len _) fun a hE=>⟨Kept.refl _ _,_,rfl,hE⟩
    ·intro a w ux35 D z
     have hE:=z.E
     have hM:=z.M
     exact ZA hE (Zf hE rfl (lkb rfl hb36)) (by decide) rfl Zr rfl hM.rawAt0 (Flat.len _) fun a hE=>⟨Kept.refl _ _,_,rfl,hE⟩
    ·intro a w ux35 D z
     have hE:=z.E
     have hM:=z.M
     refine B3 (vs:=[(Value.agg (enc x37).toArray),(Value.agg (enc p1).toArray)]) hE (Zf hE rfl (lkb rfl hb36)) (by decide) rfl rfl hcb2 (hg2 _ hM.kept x37 p1 r40 e41) ?_
     rintro v w a ⟨rfl,hK⟩ hE
     exact ⟨hK,_,rfl,hE⟩
    ·intro a w ux35 D hE hM hG hall
     refine Zc hE rfl fun a hE=>Zi ?_
     obtain rfl:=Option.some.inj hl33
     refine Zj ?_
     have hM:=M.fst (l:=[]) hM
     exact ⟨hE.sub ⟨rfl,rfl,trivial⟩,hM⟩
   ·have hl33:=Zs hl33 hb36
    refine YV (its:=[raw b1 (enc p1)]) (mk:=([] : Mk)) [35,36,37,38,39,40,41,42,43,44,45,46,47,48,6] Yr rfl rfl (by decide) rfl hE (fun u=>M.q0 hM.drew u) (qsP (fun z=>Zg z.E Za ld rfl (kr0 rfl)) (qsP (fun z=>Zg z.E Za ld rfl (kr0 rfl)) (qsP (fun z=>Zg z.E Za ld rfl (kr0 rfl)) (qsP (fun z=>Z1 z.E Za ld rfl rfl rfl (kr0 rfl)) (qsP (fun z=>Zg z.E Za ld rfl (kr0 rfl)) (qsP (fun z=>Zm z.E rfl (lkb rfl hb36) rfl (by decide) (kr0 rfl)) (qsP (fun z=>Zm z.E rfl (lkb rfl hb36) rfl (by decide) (kr0 rfl)) (qsP (fun z=>Zm z.E rfl (lkb rfl hb36) rfl (by decide) (kr0 rfl)) (qsP (fun z=>Zm z.E rfl (lkb rfl hb36) rfl (by decide) (kr0 rfl)) (qsP (fun z=>Zm z.E rfl (lkb rfl hb36) rfl (by decide) (kr0 rfl)) (qsP (fun z=>Zm z.E rfl (lkb rfl hb36) rfl (by decide) (kr0 rfl)) (qsP (fun z=>Zm z.E rfl (lkb rfl hb36) rfl (by decide) (kr0 rfl)) (qsP (fun z=>Zm z.E rfl (lkb rfl hb36) rfl (by decide) (kr0 rfl)) (qsP (fun z=>WN z.E Za ld (lkb rfl hb36) rfl (kr0 rfl)) (qsP (fun z=>VD z.E Za ld rfl (kr0 rfl)) qs0))))))))))))))) ?_
    ·intro a w ux35 D hE hM hG hall
     refine Zc hE rfl fun a hE=>Zi ?_
     obtain rfl:=Option.some.inj hl33
     refine Zj ?_
     have hM:=M.fst (l:=[]) hM
     exact ⟨hE.sub ⟨rfl,rfl,trivial⟩,hM⟩
  ·skip
   rintro a w ⟨hE,hM⟩
   obtain rfl:=Option.some.inj hF34
   exact wp_ret (WR hE rfl (ZV hE rfl) (ZV hE rfl) ⟨_,rfl,rfl,hM.kept⟩)
def Ub (p1 : Int) (p2 : Int) (s4 : Int × Int) : Option (Fl (Int × Int) Int) :=
 if (decide (s4.2 ≥ p2)) = true then (((XE s4.2).bind fun _=>(if ((JB (Uy s4.1 s4.2) 1) == 1) = true then ((XE (wr (s4.2 - p2))).bind fun _=>some (KY s4.1 (HM p1 (wr (s4.2 - p2))))) else (some s4.1) : Option (Int)).bind fun j13=>some j13 : Option (Int)).bind fun j9=>some (Fl.nx (j9,wr (s4.2 - 1)))) else (some (Fl.ex s4.1))
def Ut (p0 : Int) (p1 : Int) (p2 : Int) : Option (Int) :=
 (ZF (Ub p1 p2) (p0,15)).bind fun j1=>some j1
theorem AQ (w0 : World) (p0 : Int) (p1 : Int) (p2 : Int) (r : Int) (hF : Ut p0 p1 p2 = some r) :
  Calls Try.prog 120 [vI p0,vI p1,vI p2].toArray w0 (Rt w0 (vI r)):=by
 refine ce Try.func120 ?_
 intro a hE
 have hM:=M.start w0
 unfold Ut at hF
 refine Zb (Zc hE rfl fun a hE=>Ze (wp_seq (Zb (Zc hE rfl fun a hE=>Ze ?_))))
 obtain ⟨j1,hl2,hF3⟩:=bind_some hF
 refine ZW (fun a w=>Env 26 a [(0,vI j1)] ∧ M (Old w0) w0 w []) ?_ ?_
 ·skip
  refine wp_block ?_
  refine ZM (fun (s4 : Int × Int) a w=>Env 26 a [(0,vI s4.1),(1,vI p1),(2,vI p2),(7,vI s4.2)] ∧ M (Old w0) w0 w []) hl2 ⟨hE.sub ⟨rfl,rfl,rfl,rfl,trivial⟩,hM⟩ ?_
  rintro s4 a w ⟨hE,hM⟩ o7 hs5 hx6
  unfold Ub at hs5
  refine wp_seq (Zb (Zd hE rfl fun a hE=>Zd hE rfl fun a hE=>Zl hE rfl rfl rfl fun a hE=>Ze ?_))
  refine Zq hE rfl ?_ ?_
  ·intro hb8
   have hs5:=Zt hs5 hb8
   refine wp_skip (Zw ?_)
   obtain ⟨j9,hl10,hF11⟩:=bind_some hs5
   refine ZB (fun a w=>Env 26 a [(0,vI j9),(1,vI p1),(2,vI p2),(7,vI s4.2)] ∧ M (Old w0) w0 w []) ?_ ?_
   ·skip
    refine wp_block (Zb (Zd hE rfl fun a hE=>Zd hE rfl ?_)); intro a hE
    obtain ⟨_,e12,hl10⟩:=bind_some hl10
    have e12:=WH e12
    refine JC hE Za ld rfl rfl (Bt _ _ e12) fun a hE=>Zl hE rfl rfl rfl fun a hE=>Zl hE rfl rfl rfl fun a hE=>Ze ?_
    obtain ⟨j13,hl14,hF15⟩:=bind_some hl10
    refine ZW (fun a w=>Env 26 a [(0,vI j13),(1,vI p1),(2,vI p2),(7,vI s4.2)] ∧ M (Old w0) w0 w []) ?_ ?_
    ·skip
     refine Zq hE rfl ?_ ?_
     ·intro hb16
      have hl14:=Zt hl14 hb16
      refine wp_region_lit (Zd hE rfl fun a hE=>Zd hE rfl fun a hE=>Zd hE rfl fun a hE=>Zd hE rfl fun a hE=>Zl hE rfl rfl rfl ?_); intro a hE
      obtain ⟨_,e17,hl14⟩:=bind_some hl14
      have e17:=WH e17
      refine JC hE Za ld rfl rfl (zd _ _ e17) fun a hE=>Zl hE rfl rfl rfl fun a hE=>Zc hE rfl fun a hE=>Zi ?_
      obtain rfl:=Option.some.inj hl14
      refine Zj ?_
      exact ⟨hE.sub ⟨rfl,rfl,rfl,rfl,trivial⟩,hM⟩
     ·intro hb16
      have hl14:=Zs hl14 hb16
      refine wp_skip ?_
      obtain rfl:=Option.some.inj hl14
      refine Zj ?_
      exact ⟨hE.sub ⟨rfl,rfl,rfl,rfl,trivial⟩,hM⟩
    ·skip
     rintro a w ⟨hE,hM⟩
     refine Yv ?_
     obtain rfl:=Option.some.inj hF15
     refine Zj ?_
     exact ⟨hE.sub ⟨rfl,rfl,rfl,rfl,trivial⟩,hM⟩
   ·skip
    rintro a w ⟨hE,hM⟩
    refine wp_region_lit (Zd hE rfl fun a hE=>Zl hE rfl rfl rfl fun a hE=>Zc hE rfl fun a hE=>Zi (Zj ?_))
    exact ⟨_,(ois hF11),hE.sub ⟨rfl,rfl,rfl,rfl,trivial⟩,hM⟩
  ·intro hb8
   have hs5:=Zs hs5 hb8
   refine wp_exit (Zn (Zn (Yy ?_)))
   obtain rfl:=hx6 _ (ois hs5)
   refine Zj ?_
   exact ⟨hE.sub ⟨rfl,trivial⟩,hM⟩
 ·skip
  rintro a w ⟨hE,hM⟩
  refine Zw (Zb (Zd hE rfl fun a hE=>Zc hE rfl fun a hE=>Ze ?_))
  obtain rfl:=Option.some.inj hF3
  exact wp_ret (kr1 hE rfl rfl hM.kept)
def Xk (p1 : UInt8) (p2 : UInt8) (s4 : Int × Int) : Option (Fl (Int × Int) Int) :=
 if (decide (s4.2 < 8)) = true then (((XE s4.2).bind fun _=>(if (((JU p2 s4.2) &&& 1) == 1) = true then ((XE s4.2).bind fun _=>some (KY s4.1 (HM (bI p1) s4.2))) else (some s4.1) : Option (Int)).bind fun j13=>some j13 : Option (Int)).bind fun j9=>some (Fl.nx (j9,wr (s4.2 + 1)))) else (some (Fl.ex s4.1))
def Z8 (p0 : Int) (p1 : UInt8) (p2 : UInt8) : Option (UInt8) :=
 (ZF (Xk p1 p2) (0,0)).bind fun j1=>(Ut j1 p0 8).bind fun r22=>some (Zz r22)
theorem YK (w0 : World) (p0 : Int) (p1 : UInt8) (p2 : UInt8) (r : UInt8) (hF : Z8 p0 p1 p2 = some r) :
  Calls Try.prog 132 [vI p0,vB p1,vB p2].toArray w0 (Rt w0 (vB r)):=by
 refine ce Try.func132 ?_
 intro a hE
 have hM:=M.start w0
 unfold Z8 at hF
 refine Zb (Zc hE rfl fun a hE=>Ze (Zb (Zc hE rfl fun a hE=>Ze (wp_seq (Zb (Zd hE rfl fun a hE=>Ze ?_))))))
 obtain ⟨j1,hl2,hF3⟩:=bind_some hF
 refine ZW (fun a w=>Env 28 a [(0,vI p0),(7,vI j1)] ∧ M (Old w0) w0 w []) ?_ ?_
 ·skip
  refine wp_block ?_
  refine ZM (fun (s4 : Int × Int) a w=>Env 28 a [(0,vI p0),(1,vB p1),(2,vB p2),(7,vI s4.1),(9,vI s4.2)] ∧ M (Old w0) w0 w []) hl2 ⟨hE.sub ⟨rfl,rfl,rfl,rfl,rfl,trivial⟩,hM⟩ ?_
  rintro s4 a w ⟨hE,hM⟩ o7 hs5 hx6
  unfold Xk at hs5
  refine Zb (Zl hE rfl rfl rfl fun a hE=>Ze (wp_seq ?_))
  refine Zq hE rfl ?_ ?_
  ·intro hb8
   have hs5:=Zt hs5 hb8
   refine wp_skip (Zw ?_)
   obtain ⟨j9,hl10,hF11⟩:=bind_some hs5
   refine ZB (fun a w=>Env 28 a [(0,vI p0),(1,vB p1),(2,vB p2),(7,vI j9),(9,vI s4.2)] ∧ M (Old w0) w0 w []) ?_ ?_
   ·skip
    refine wp_block (Zb (Zd hE rfl fun a hE=>Zc hE rfl fun a hE=>Ze (Zb (Zd hE rfl fun a hE=>Zd hE rfl ?_)))); intro a hE
    obtain ⟨_,e12,hl10⟩:=bind_some hl10
    have e12:=WH e12
    refine JC hE Za ld rfl rfl (y0 _ _ e12) fun a hE=>Zl hE rfl rfl (bB_and (JU p2 s4.2) 1) fun a hE=>Zl hE rfl rfl (jh ((JU p2 s4.2) &&& 1) 1) fun a hE=>Ze ?_
    obtain ⟨j13,hl14,hF15⟩:=bind_some hl10
    refine ZW (fun a w=>Env 28 a [(0,vI p0),(1,vB p1),(2,vB p2),(7,vI j13),(9,vI s4.2)] ∧ M (Old w0) w0 w []) ?_ ?_
    ·skip
     refine Zq hE rfl ?_ ?_
     ·intro hb16
      have hl14:=Zt hl14 hb16
      refine wp_region_lit (Zd hE rfl fun a hE=>Zd hE rfl fun a hE=>Q2 hE Za ld rfl Try.underlying5 Try.underlying2 fun a hE=>Zd hE rfl ?_); intro a hE
      obtain ⟨_,e17,hl14⟩:=bind_some hl14
      have e17:=WH e17
      refine JC hE Za ld rfl rfl (zd _ _ e17) fun a hE=>Zl hE rfl rfl rfl fun a hE=>Zc hE rfl fun a hE=>Zi ?_
      obtain rfl:=Option.some.inj hl14
      refine Zj ?_
      exact ⟨hE.sub ⟨rfl,rfl,rfl,rfl,rfl,trivial⟩,hM⟩
     ·intro hb16
      have hl14:=Zs hl14 hb16
      refine wp_skip ?_
      obtain rfl:=Option.some.inj hl14
      refine Zj ?_
      exact ⟨hE.sub ⟨rfl,rfl,rfl,rfl,rfl,trivial⟩,hM⟩
    ·skip
     rintro a w ⟨hE,hM⟩
     refine Yv ?_
     obtain rfl:=Option.some.inj hF15
     refine Zj ?_
     exact ⟨hE.sub ⟨rfl,rfl,rfl,rfl,rfl,trivial⟩,hM⟩
   ·skip
    rintro a w ⟨hE,hM⟩
    refine wp_region_lit (Zl hE rfl rfl rfl fun a hE=>Zd hE rfl fun a hE=>Zi (Zj ?_))
    exact ⟨_,(ois hF11),hE.sub ⟨rfl,rfl,rfl,rfl,rfl,trivial⟩,hM⟩
  ·intro hb8
   have hs5:=Zs hs5 hb8
   refine wp_exit (Zn (Zn (Yy ?_)))
   obtain rfl:=hx6 _ (ois hs5)
   refine Zj ?_
   exact ⟨hE.sub ⟨rfl,rfl,trivial⟩,hM⟩
 ·skip
  rintro a w ⟨hE,hM⟩
  refine Zw (Zb (Zd hE rfl fun a hE=>Zd hE rfl ?_)); intro a hE
  obtain ⟨r22,e23,hF3⟩:=bind_some hF3
  refine Zy hE rfl (cbm Try.func120) (AQ _ j1 p0 8 r22 e23) ?_
  rintro v w a ⟨rfl,hK⟩ hE
  have hM:=hM.keep hK
  refine Xc hE Za ld rfl Try.underlying2 Try.underlying5 fun a hE=>Zc hE rfl fun a hE=>Ze ?_
  obtain rfl:=Option.some.inj hF3
  exact wp_ret (kr1 hE rfl rfl hM.kept)
def WX (p0 : Int) (s4 : UInt8 × Int × UInt8) : Option (Fl (UInt8 × Int × UInt8) UInt8) :=
 if (decide (s4.2.1 > 0)) = true then (((if ((Int.tmod s4.2.1 2) == 1) = true then ((Z8 p0 s4.2.2 s4.1).bind fun r16=>some r16) else (some s4.2.2) : Option (UInt8)).bind fun j12=>(Z8 p0 s4.1 s4.1).bind fun r20=>some (r20,j12) : Option (UInt8 × UInt8)).bind fun j9=>some (Fl.nx (j9.1,wr (Int.tdiv s4.2.1 2),j9.2))) else (some (Fl.ex s4.2.2))
def Xz (p0 : Int) (p1 : UInt8) (p2 : Int) : Option (UInt8) :=
 (ZF (WX p0) (p1,p2,1)).bind fun j1=>some j1
theorem QW (w0 : World) (p0 : Int) (p1 : UInt8) (p2 : Int) (r : UInt8) (hF : Xz p0 p1 p2 = some r) :
  Calls Try.prog 203 [vI p0,vB p1,vI p2].toArray w0 (Rt w0 (vB r)):=by
 refine ce Try.func203 ?_
 intro a hE
 have hM:=M.start w0
 unfold Xz at hF
 refine Zb (Zc hE rfl fun a hE=>Ze (Zb (Zc hE rfl fun a hE=>Ze ?_)))
 obtain ⟨j1,hl2,hF3⟩:=bind_some hF
 refine ZB (fun a w=>Env 24 a [(7,vB j1)] ∧ M (Old w0) w0 w []) ?_ ?_
 ·skip
  refine wp_block ?_
  refine ZM (fun (s4 : UInt8 × Int × UInt8) a w=>Env 24 a [(0,vI p0),(1,vB s4.1),(2,vI s4.2.1),(7,vB s4.2.2)] ∧ M (Old w0) w0 w []) hl2 ⟨hE.sub ⟨rfl,rfl,rfl,rfl,trivial⟩,hM⟩ ?_
  rintro s4 a w ⟨hE,hM⟩ o7 hs5 hx6
  unfold WX at hs5
  refine wp_seq (Zb (Zd hE rfl fun a hE=>Zl hE rfl rfl rfl fun a hE=>Ze ?_))
  refine Zq hE rfl ?_ ?_
  ·intro hb8
   have hs5:=Zt hs5 hb8
   refine wp_skip (Zw ?_)
   obtain ⟨j9,hl10,hF11⟩:=bind_some hs5
   refine ZB (fun a w=>Env 24 a [(0,vI p0),(1,vB j9.1),(2,vI s4.2.1),(7,vB j9.2)] ∧ M (Old w0) w0 w []) ?_ ?_
   ·skip
    refine wp_block ?_
    obtain ⟨j12,hl13,hF14⟩:=bind_some hl10
    refine ZB (fun a w=>Env 24 a [(0,vI p0),(1,vB s4.1),(2,vI s4.2.1),(7,vB j12)] ∧ M (Old w0) w0 w []) ?_ ?_
    ·skip
     refine Zb (Zd hE rfl fun a hE=>Zl hE rfl rfl (Tq _ _ (by decide)) fun a hE=>Zl hE rfl rfl rfl fun a hE=>Ze ?_)
     refine Zq hE rfl ?_ ?_
     ·intro hb15
      have hl13:=Zt hl13 hb15
      refine wp_region_lit (Zd hE rfl fun a hE=>Zd hE rfl fun a hE=>Zd hE rfl ?_); intro a hE
      obtain ⟨r16,e17,hl13⟩:=bind_some hl13
      refine Zy hE rfl Jl (YK _ p0 s4.2.2 s4.1 r16 e17) ?_
      rintro v w a ⟨rfl,hK⟩ hE
      have hM:=hM.keep hK
      refine Zc hE rfl fun a hE=>Zi ?_
      obtain rfl:=Option.some.inj hl13
      refine Zj ?_
      exact ⟨hE.sub ⟨rfl,rfl,rfl,rfl,trivial⟩,hM⟩
     ·intro hb15
      have hl13:=Zs hl13 hb15
      refine wp_skip ?_
      obtain rfl:=Option.some.inj hl13
      refine Zj ?_
      exact ⟨hE.sub ⟨rfl,rfl,rfl,rfl,trivial⟩,hM⟩
    ·skip
     rintro a w ⟨hE,hM⟩
     refine wp_region_lit (Zd hE rfl fun a hE=>Zd hE rfl fun a hE=>Zd hE rfl ?_); intro a hE
     obtain ⟨r20,e21,hF14⟩:=bind_some hF14
     refine Zy hE rfl Jl (YK _ p0 s4.1 s4.1 r20 e21) ?_
     rintro v w a ⟨rfl,hK⟩ hE
     have hM:=hM.keep hK
     refine Zc hE rfl fun a hE=>Zi (Yv ?_)
     obtain rfl:=Option.some.inj hF14
     refine Zj ?_
     exact ⟨hE.sub ⟨rfl,rfl,rfl,rfl,trivial⟩,hM⟩
   ·skip
    rintro a w ⟨hE,hM⟩
    refine wp_region_lit (Zd hE rfl fun a hE=>Zl hE rfl rfl (BU _ _ (by decide)) fun a hE=>Zc hE rfl fun a hE=>Zi (Zj ?_))
    exact ⟨_,(ois hF11),hE.sub ⟨rfl,rfl,rfl,rfl,trivial⟩,hM⟩
  ·intro hb8
   have hs5:=Zs hs5 hb8
   refine wp_exit (Zn (Zn (Yy ?_)))
   obtain rfl:=hx6 _ (ois hs5)
   refine Zj ?_
   exact ⟨hE.sub ⟨rfl,trivial⟩,hM⟩
 ·skip
  rintro a w ⟨hE,hM⟩
  refine Zb (Zd hE rfl fun a hE=>Zc hE rfl fun a hE=>Ze ?_)
  obtain rfl:=Option.some.inj hF3
  exact wp_ret (kr1 hE rfl rfl hM.kept)
def Yo (p0 : Int) (p1 : UInt8) : Option (UInt8) :=
 (Xz p0 p1 254).bind fun r1=>some r1
theorem VX (w0 : World) (p0 : Int) (p1 : UInt8) (r : UInt8) (hF : Yo p0 p1 = some r) :
  Calls Try.prog 179 [vI p0,vB p1].toArray w0 (Rt w0 (vB r)):=by
 refine ce Try.func179 ?_
 intro a hE
 have hM:=M.start w0
 unfold Yo at hF
 refine Zb (Zc hE rfl fun a hE=>Ze (Zb (Zd hE rfl fun a hE=>Zd hE rfl ?_))); intro a hE
 obtain ⟨r1,e2,hF⟩:=bind_some hF
 refine Zy hE rfl (cbm Try.func203) (QW _ p0 p1 254 r1 e2) ?_
 rintro v w a ⟨rfl,hK⟩ hE
 have hM:=hM.keep hK
 refine Zc hE rfl fun a hE=>Ze ?_
 obtain rfl:=Option.some.inj hF
 exact wp_ret (kr1 hE rfl rfl hM.kept)
def Yj (p0 : UInt8) (p1 : Int) : Option (UInt8) :=
 (XE (wru (BitVec.ofInt 64 (IntKind.u64.wrap p1) &&& BitVec.ofInt 64 7).toNat)).bind fun _=>(XE (IntKind.u64.wrap (8 - (wru (BitVec.ofInt 64 (IntKind.u64.wrap p1) &&& BitVec.ofInt 64 7).toNat)))).bind fun _=>some ((shlB p0 (wru (BitVec.ofInt 64 (IntKind.u64.wrap p1) &&& BitVec.ofInt 64 7).toNat)) ||| (JU p0 (IntKind.u64.wrap (8 - (wru (BitVec.ofInt 64 (IntKind.u64.wrap p1) &&& BitVec.ofInt 64 7).toNat)))))
theorem Uv (w0 : World) (p0 : UInt8) (p1 : Int) (r : UInt8) (hF : Yj p0 p1 = some r) :
  Calls Try.prog 210 [vB p0,vI p1].toArray w0 (Rt w0 (vB r)):=by
 refine ce Try.func210 ?_
 intro a hE
 have hM:=M.start w0
 unfold Yj at hF
 refine Zb (Zc hE rfl fun a hE=>Ze (Zb (Zd hE rfl fun a hE=>TL hE Za ld rfl Try.underlying3 Try.underlying170 fun a hE=>Zl hE rfl rfl rfl fun a hE=>Zc hE rfl fun a hE=>Ze (Zb (Zd hE rfl fun a hE=>Zd hE rfl ?_))))); intro a hE
 obtain ⟨_,e1,hF⟩:=bind_some hF
 have e1:=WH e1
 refine JC hE Za ld rfl rfl (bB_shl _ _ e1) fun a hE=>Zd hE rfl fun a hE=>Zd hE rfl fun a hE=>Zl hE rfl rfl rfl ?_; intro a hE
 obtain ⟨_,e2,hF⟩:=bind_some hF
 have e2:=WH e2
 refine JC hE Za ld rfl rfl (y0 _ _ e2) fun a hE=>Zl hE rfl rfl (bB_or (shlB p0 (wru (BitVec.ofInt 64 (IntKind.u64.wrap p1) &&& BitVec.ofInt 64 7).toNat)) (JU p0 (IntKind.u64.wrap (8 - (wru (BitVec.ofInt 64 (IntKind.u64.wrap p1) &&& BitVec.ofInt 64 7).toNat))))) fun a hE=>Zc hE rfl fun a hE=>Ze ?_
 obtain rfl:=Option.some.inj hF
 exact wp_ret (kr1 hE rfl rfl hM.kept)
def X1 (s8 : (Vector UInt8 256) × Int) : Option (Fl ((Vector UInt8 256) × Int) (Vector UInt8 256)) :=
 if (decide (s8.2 < 256)) = true then ((Yo 285 (Zz s8.2)).bind fun r13=>(Yj r13 1).bind fun r15=>(Yj r13 4).bind fun r17=>(ZI s8.1 s8.2).bind fun x20=>some (Fl.nx ((s8.1.setIfInBounds (s8.2).toNat (((r13 ^^^ r15) ^^^ r17) ^^^ 90)),wr (s8.2 + 1)))) else (some (Fl.ex s8.1))
def WY (s26 : (Vector (Vector UInt8 4) 4) × Int) (s34 : (Vector (Vector UInt8 4) 4) × Int) : Option (Fl ((Vector (Vector UInt8 4) 4) × Int) (Vector (Vector UInt8 4) 4)) :=
 if (decide (s34.2 < 4)) = true then ((Yo 285 (Zz (KY s26.2 (wr (4 + s34.2))))).bind fun r40=>(ZI s34.1 s26.2).bind fun x43=>(ZI x43 s34.2).bind fun x46=>some (Fl.nx ((s34.1.setIfInBounds (s26.2).toNat (x43.setIfInBounds (s34.2).toNat r40)),wr (s34.2 + 1)))) else (some (Fl.ex s34.1))
def WV (s26 : (Vector (Vector UInt8 4) 4) × Int) : Option (Fl ((Vector (Vector UInt8 4) 4) × Int) (Vector (Vector UInt8 4) 4)) :=
 if (decide (s26.2 < 4)) = true then ((ZF (WY s26) (s26.1,0)).bind fun j31=>some (Fl.nx (j31,wr (s26.2 + 1)))) else (some (Fl.ex s26.1))
def WW (s53 : (Vector UInt8 16) × Int) : Option (Fl ((Vector UInt8 16) × Int) (Vector UInt8 16)) :=
 if (decide (s53.2 < 16)) = true then ((ZI s53.1 s53.2).bind fun x59=>some (Fl.nx ((s53.1.setIfInBounds (s53.2).toNat (Zz (Int.tmod (wr ((wr (13 * s53.2)) + 4)) 16))),wr (s53.2 + 1)))) else (some (Fl.ex s53.1))
def Wr (p0 : Int) : Option (GCipher) :=
 (ZF (X1) ((Vector.replicate 256 (0 : UInt8)),0)).bind fun j5=>(ZF (WV) ((Vector.replicate 4 (Vector.replicate 4 (0 : UInt8))),0)).bind fun j23=>(ZF (WW) ((Vector.replicate 16 (0 : UInt8)),0)).bind fun j50=>some (⟨285,j5,j23,j50,p0⟩ : GCipher)
theorem QQ (w0 : World) (p0 : Int) (r : GCipher) (hF : Wr p0 = some r) :
  Calls Try.prog 193 [vI p0].toArray w0 (Rt w0 (Value.agg (enc r).toArray)):=by
 refine ce Try.func193 ?_
 intro a hE
 have hM:=M.start w0
 unfold Wr at hF
 refine Zb (Zv hE hM Tl fun b1 w a hM hE=>Ze (Zb (Zd hE rfl fun a hE=>Ws (parts:=[(0,.const (vI 285)),(4,.tmp 9)]) (vs:=[(0,vI 285),(4,vI p0)]) (cs:=cat [[vI 285],enc (Vector.replicate 256 (0 : UInt8)),enc (Vector.replicate 4 (Vector.replicate 4 (0 : UInt8))),enc (Vector.replicate 16 (0 : UInt8)),[vI p0]]) hE Za ld rfl rfl Tl pl61 (Xm (pre:=[]) (seg:=[vI 0]) (seg':=[vI 285]) (post:=[enc (Vector.replicate 256 (0 : UInt8)),enc (Vector.replicate 4 (Vector.replicate 4 (0 : UInt8))),enc (Vector.replicate 16 (0 : UInt8)),[vI 0]]) rfl cl0 rfl rfl rfl (Xm (pre:=[[vI 285],enc (Vector.replicate 256 (0 : UInt8)),enc (Vector.replicate 4 (Vector.replicate 4 (0 : UInt8))),enc (Vector.replicate 16 (0 : UInt8))]) (seg:=[vI 0]) (seg':=[vI p0]) (post:=[]) rfl ck rfl rfl rfl V5)) fun a hE=>Zv hE hM Tl fun b3 w a hM hE=>Zk (seg:=cat [[vI 285],enc (Vector.replicate 256 (0 : UInt8)),enc (Vector.replicate 4 (Vector.replicate 4 (0 : UInt8))),enc (Vector.replicate 16 (0 : UInt8)),[vI p0]]) (cs':=cat [[vI 285],enc (Vector.replicate 256 (0 : UInt8)),enc (Vector.replicate 4 (Vector.replicate 4 (0 : UInt8))),enc (Vector.replicate 16 (0 : UInt8)),[vI p0]]) hE hM Za rfl rfl rfl Tl cq (Nat.le_of_eq ((Nat.zero_add _).trans (Eq.trans cq (Eq.symm cq)))) (Y2 (cc1 (Flat.cell (285 : Int)) (cc1 (Flat.cell _) (cc1 (Flat.cell _) (cc1 (Flat.cell _) (cc1 (Flat.cell (p0 : Int)) cc0)))))) (Zh (Eq.trans cq (Eq.symm cq))) fun w a hM hE=>Ze (wp_seq (Zb (Zd hE rfl fun a hE=>Ze ?_))))))
 obtain ⟨j5,hl6,hF7⟩:=bind_some hF
 refine ZW (fun a w=>Env 61 a [(2,(ptr b1 0)),(3,(ptr b3 0))] ∧ M (Old w0) w0 w [raw b3 (cat [[vI 285],enc j5,enc (Vector.replicate 4 (Vector.replicate 4 (0 : UInt8))),enc (Vector.replicate 16 (0 : UInt8)),[vI p0]]),raw b1 (cat [[vI 0],enc (Vector.replicate 256 (0 : UInt8)),enc (Vector.replicate 4 (Vector.replicate 4 (0 : UInt8))),enc (Vector.replicate 16 (0 : UInt8)),[vI 0]])]) ?_ ?_
 ·skip
  refine wp_block ?_
  refine ZM (fun (s8 : (Vector UInt8 256) × Int) a w=>Env 61 a [(2,(ptr b1 0)),(3,(ptr b3 0)),(11,vI s8.2)] ∧ M (Old w0) w0 w [raw b3 (cat [[vI 285],enc s8.1,enc (Vector.replicate 4 (Vector.replicate 4 (0 : UInt8))),enc (Vector.replicate 16 (0 : UInt8)),[vI p0]]),raw b1 (cat [[vI 0],enc (Vector.replicate 256 (0 : UInt8)),enc (Vector.replicate 4 (Vector.replicate 4 (0 : UInt8))),enc (Vector.replicate 16 (0 : UInt8)),[vI 0]])]) hl6 ⟨hE.sub ⟨rfl,rfl,rfl,trivial⟩,hM⟩ ?_
  rintro s8 a w ⟨hE,hM⟩ o11 hs9 hx10
  unfold X1 at hs9
  refine Zb (Zl hE rfl rfl rfl fun a hE=>Ze (wp_seq ?_))
  refine Zq hE rfl ?_ ?_
  ·intro hb12
   have hs9:=Zt hs9 hb12
   refine wp_skip (Zw (wp_seq (wp_block (Zb (Zd hE rfl fun a hE=>Zc hE rfl fun a hE=>Ze (Zb (Zd hE rfl fun a hE=>Xc hE Za ld rfl Try.underlying3 Try.underlying5 ?_))))))); intro a hE
   obtain ⟨r13,e14,hs9⟩:=bind_some hs9
   refine Zy hE rfl yD (VX _ 285 (Zz s8.2) r13 e14) ?_
   rintro v w a ⟨rfl,hK⟩ hE
   have hM:=hM.keep hK
   refine Zc hE rfl fun a hE=>Ze (wp_region_lit (Zd hE rfl fun a hE=>Zd hE rfl fun a hE=>Zd hE rfl ?_)); intro a hE
   obtain ⟨r15,e16,hs9⟩:=bind_some hs9
   refine Zy hE rfl (cbm Try.func210) (Uv _ r13 1 r15 e16) ?_
   rintro v w a ⟨rfl,hK⟩ hE
   have hM:=hM.keep hK
   refine Zl hE rfl rfl (VK r13 r15) fun a hE=>Zd hE rfl ?_; intro a hE
   obtain ⟨r17,e18,hs9⟩:=bind_some hs9
   refine Zy hE rfl (cbm Try.func210) (Uv _ r13 4 r17 e18) ?_
   rintro v w a ⟨rfl,hK⟩ hE
   have hM:=hM.keep hK
   refine Zl hE rfl rfl (VK (r13 ^^^ r15) r17) fun a hE=>Zl hE rfl rfl (VK ((r13 ^^^ r15) ^^^ r17) 90) fun a hE=>ZJ hE rfl (K4) ?_; intro a hE
   obtain ⟨x20,hi19,hs9⟩:=bvx hs9
   refine ZH hE rfl rfl Try.underlying54 ty5 hi19.1 fun a hE=>Zk (seg:=[(vB (((r13 ^^^ r15) ^^^ r17) ^^^ 90))]) (cs':=cat [[vI 285],enc (s8.1.setIfInBounds (s8.2).toNat (((r13 ^^^ r15) ^^^ r17) ^^^ 90)),enc (Vector.replicate 4 (Vector.replicate 4 (0 : UInt8))),enc (Vector.replicate 16 (0 : UInt8)),[vI p0]]) hE hM Za rfl rfl rfl ty5 rfl (Qj (o':=0 + (s8.2).toNat * 1) (pre:=[[vI 285]]) (seg:=enc s8.1) (post:=[enc (Vector.replicate 4 (Vector.replicate 4 (0 : UInt8))),enc (Vector.replicate 16 (0 : UInt8)),[vI p0]]) ck (ZR (v:=s8.1) (x:=((r13 ^^^ r15) ^^^ r17) ^^^ 90) hi19.1) (by first | omega | (simp only [Flat.n] <;> omega))) (Flat.cell (((r13 ^^^ r15) ^^^ r17) ^^^ 90 : UInt8)) (U1 (o':=0 + (s8.2).toNat * 1) (pre:=[[vI 285]]) (seg:=enc s8.1) (post:=[enc (Vector.replicate 4 (Vector.replicate 4 (0 : UInt8))),enc (Vector.replicate 16 (0 : UInt8)),[vI p0]]) ck (ZR (v:=s8.1) (x:=((r13 ^^^ r15) ^^^ r17) ^^^ 90) hi19.1) (ZE (v:=s8.1) (x:=((r13 ^^^ r15) ^^^ r17) ^^^ 90) hi19.1) (by first | omega | (simp only [Flat.n] <;> omega))) fun w a hM hE=>Zi (Yv (Zw (wp_region_lit (Zl hE rfl rfl rfl fun a hE=>Zd hE rfl fun a hE=>Zi (Zj ?_)))))
   exact ⟨_,(ois hs9),hE.sub ⟨rfl,rfl,rfl,trivial⟩,hM⟩
  ·intro hb12
   have hs9:=Zs hs9 hb12
   refine wp_exit (Zn (Zn (Yy ?_)))
   obtain rfl:=hx10 _ (ois hs9)
   refine Zj ?_
   exact ⟨hE.sub ⟨rfl,rfl,trivial⟩,hM⟩
 ·skip
  rintro a w ⟨hE,hM⟩
  refine Zw (wp_seq (Zb (Zd hE rfl fun a hE=>Ze ?_)))
  obtain ⟨j23,hl24,hF25⟩:=bind_some hF7
  refine ZW (fun a w=>Env 61 a [(2,(ptr b1 0)),(3,(ptr b3 0))] ∧ M (Old w0) w0 w [raw b3 (cat [[vI 285],enc j5,enc j23,enc (Vector.replicate 16 (0 : UInt8)),[vI p0]]),raw b1 (cat [[vI 0],enc (Vector.replicate 256 (0 : UInt8)),enc (Vector.replicate 4 (Vector.replicate 4 (0 : UInt8))),enc (Vector.replicate 16 (0 : UInt8)),[vI 0]])]) ?_ ?_
  ·skip
   refine wp_block ?_
   refine ZM (fun (s26 : (Vector (Vector UInt8 4) 4) × Int) a w=>Env 61 a [(2,(ptr b1 0)),(3,(ptr b3 0)),(29,vI s26.2)] ∧ M (Old w0) w0 w [raw b3 (cat [[vI 285],enc j5,enc s26.1,enc (Vector.replicate 16 (0 : UInt8)),[vI p0]]),raw b1 (cat [[vI 0],enc (Vector.replicate 256 (0 : UInt8)),enc (Vector.replicate 4 (Vector.replicate 4 (0 : UInt8))),enc (Vector.replicate 16 (0 : UInt8)),[vI 0]])]) hl24 ⟨hE.sub ⟨rfl,rfl,rfl,trivial⟩,hM⟩ ?_
   rintro s26 a w ⟨hE,hM⟩ o29 hs27 hx28
   unfold WV at hs27
   refine Zb (Zl hE rfl rfl rfl fun a hE=>Ze (wp_seq ?_))
   refine Zq hE rfl ?_ ?_
   ·intro hb30
    have hs27:=Zt hs27 hb30
    refine wp_skip (Zw (wp_seq (wp_block (Zb (Zd hE rfl fun a hE=>Zc hE rfl fun a hE=>Ze (Zb (Zd hE rfl fun a hE=>Ze ?_)))))))
    obtain ⟨j31,hl32,hF33⟩:=bind_some hs27
    refine ZW (fun a w=>Env 61 a [(2,(ptr b1 0)),(3,(ptr b3 0)),(29,vI s26.2)] ∧ M (Old w0) w0 w [raw b3 (cat [[vI 285],enc j5,enc j31,enc (Vector.replicate 16 (0 : UInt8)),[vI p0]]),raw b1 (cat [[vI 0],enc (Vector.replicate 256 (0 : UInt8)),enc (Vector.replicate 4 (Vector.replicate 4 (0 : UInt8))),enc (Vector.replicate 16 (0 : UInt8)),[vI 0]])]) ?_ ?_
    ·skip
     refine wp_block ?_
     refine ZM (fun (s34 : (Vector (Vector UInt8 4) 4) × Int) a w=>Env 61 a [(2,(ptr b1 0)),(3,(ptr b3 0)),(6,vI s26.2),(29,vI s26.2),(32,vI s34.2)] ∧ M (Old w0) w0 w [raw b3 (cat [[vI 285],enc j5,enc s34.1,enc (Vector.replicate 16 (0 : UInt8)),[vI p0]]),raw b1 (cat [[vI 0],enc (Vector.replicate 256 (0 : UInt8)),enc (Vector.replicate 4 (Vector.replicate 4 (0 : UInt8))),enc (Vector.replicate 16 (0 : UInt8)),[vI 0]])]) hl32 ⟨hE.sub ⟨rfl,rfl,rfl,rfl,rfl,trivial⟩,hM⟩ ?_
     rintro s34 a w ⟨hE,hM⟩ o37 hs35 hx36
     unfold WY at hs35
     refine Zb (Zl hE rfl rfl rfl fun a hE=>Ze (wp_seq ?_))
     refine Zq hE rfl ?_ ?_
     ·intro hb38
      have hs35:=Zt hs35 hb38
      refine wp_skip (Zw (wp_seq (wp_block (Zb (Zd hE rfl fun a hE=>Zc hE rfl fun a hE=>Ze ?_)))))
      obtain ⟨r40,e41,hs35⟩:=bind_some hs35
      obtain ⟨x43,hi42,hs35⟩:=bvx hs35
      obtain ⟨x46,hi45,hs35⟩:=bvx hs35
      refine ZP [35,36,37,38,39,40,41,42,43,44,45] Yr rfl rfl (by decide) rfl hE hM (qsP (fun z=>Zg z.E Za ld rfl (kr0 rfl)) (qsP (fun z=>Zg z.E Za ld rfl (kr0 rfl)) (qsP (fun z=>Zg z.E Za ld rfl (kr0 rfl)) (qsP (fun z=>Zg z.E Za ld rfl (kr0 rfl)) (qsP (v:=(vI (wr (4 + s34.2)))) (fun z=>Z1 z.E Za ld rfl rfl rfl (kr0 rfl)) (qsP (v:=(vI (KY s26.2 (wr (4 + s34.2))))) (fun z=>Z1 z.E Za ld rfl rfl rfl (kr0 rfl)) (qsP (fun z=>Xc z.E Za ld rfl Try.underlying3 Try.underlying5 (kr0 rfl)) (qsP (fun z=>ZX z.E Za ld rfl yD (VX _ 285 (Zz (KY s26.2 (wr (4 + s34.2)))) r40 e41) (kc rfl)) (qsP (fun z=>Zo z.E Za ld rfl (J9) (kr0 rfl)) (qsP (fun z=>ZC z.E Za ld rfl rfl Try.underlying57 VA hi42.1 (kr0 rfl)) (qsP (fun z=>ZC z.E Za ld rfl rfl Try.underlying55 ty5 hi45.1 (kr0 rfl)) qs0))))))))))) ?_
      ·intro a w u hE hM
       refine Zk (seg:=[vB r40]) (cs':=cat [[vI 285],enc j5,enc (s34.1.setIfInBounds (s26.2).toNat (x43.setIfInBounds (s34.2).toNat r40)),enc (Vector.replicate 16 (0 : UInt8)),[vI p0]]) hE hM Za rfl rfl rfl ty5 rfl (Qj (o':=(s26.2).toNat * 4 + (0 + (s34.2).toNat * 1)) (pre:=[[vI 285],enc j5]) (seg:=enc s34.1) (post:=[enc (Vector.replicate 16 (0 : UInt8)),[vI p0]]) ck (Vu (o':=0 + (s34.2).toNat * 1) hi42 (ZR (v:=x43) (x:=r40) hi45.1) (by first | omega | (simp only [Flat.n] <;> omega))) (by first | omega | (simp only [Flat.n] <;> omega))) (Flat.cell (r40 : UInt8)) (U1 (o':=(s26.2).toNat * 4 + (0 + (s34.2).toNat * 1)) (pre:=[[vI 285],enc j5]) (seg:=enc s34.1) (post:=[enc (Vector.replicate 16 (0 : UInt8)),[vI p0]]) ck (Vu (o':=0 + (s34.2).toNat * 1) hi42 (ZR (v:=x43) (x:=r40) hi45.1) (by first | omega | (simp only [Flat.n] <;> omega))) (WM (o':=0 + (s34.2).toNat * 1) hi42 (ZR (v:=x43) (x:=r40) hi45.1) (ZE (v:=x43) (x:=r40) hi45.1) (by first | omega | (simp only [Flat.n] <;> omega))) (by first | omega | (simp only [Flat.n] <;> omega))) fun w a hM hE=>Zi (Yv (Zw (wp_region_lit (Zl hE rfl rfl rfl fun a hE=>Zd hE rfl fun a hE=>Zi (Zj ?_)))))
       exact ⟨_,(ois hs35),hE.sub ⟨rfl,rfl,rfl,rfl,rfl,trivial⟩,hM⟩
     ·intro hb38
      have hs35:=Zs hs35 hb38
      refine wp_exit (Zn (Zn (Yy ?_)))
      obtain rfl:=hx36 _ (ois hs35)
      refine Zj ?_
      exact ⟨hE.sub ⟨rfl,rfl,rfl,trivial⟩,hM⟩
    ·skip
     rintro a w ⟨hE,hM⟩
     refine Yv (Zw (wp_region_lit (Zl hE rfl rfl rfl fun a hE=>Zd hE rfl fun a hE=>Zi (Zj ?_))))
     exact ⟨_,(ois hF33),hE.sub ⟨rfl,rfl,rfl,trivial⟩,hM⟩
   ·intro hb30
    have hs27:=Zs hs27 hb30
    refine wp_exit (Zn (Zn (Yy ?_)))
    obtain rfl:=hx28 _ (ois hs27)
    refine Zj ?_
    exact ⟨hE.sub ⟨rfl,rfl,trivial⟩,hM⟩
  ·skip
   rintro a w ⟨hE,hM⟩
   refine Zw (wp_seq (Zb (Zd hE rfl fun a hE=>Ze ?_)))
   obtain ⟨j50,hl51,hF52⟩:=bind_some hF25
   refine ZW (fun a w=>Env 61 a [(2,(ptr b1 0)),(3,(ptr b3 0))] ∧ M (Old w0) w0 w [raw b3 (cat [[vI 285],enc j5,enc j23,enc j50,[vI p0]]),raw b1 (cat [[vI 0],enc (Vector.replicate 256 (0 : UInt8)),enc (Vector.replicate 4 (Vector.replicate 4 (0 : UInt8))),enc (Vector.replicate 16 (0 : UInt8)),[vI 0]])]) ?_ ?_
   ·skip
    refine wp_block ?_
    refine ZM (fun (s53 : (Vector UInt8 16) × Int) a w=>Env 61 a [(2,(ptr b1 0)),(3,(ptr b3 0)),(48,vI s53.2)] ∧ M (Old w0) w0 w [raw b3 (cat [[vI 285],enc j5,enc j23,enc s53.1,[vI p0]]),raw b1 (cat [[vI 0],enc (Vector.replicate 256 (0 : UInt8)),enc (Vector.replicate 4 (Vector.replicate 4 (0 : UInt8))),enc (Vector.replicate 16 (0 : UInt8)),[vI 0]])]) hl51 ⟨hE.sub ⟨rfl,rfl,rfl,trivial⟩,hM⟩ ?_
    rintro s53 a w ⟨hE,hM⟩ o56 hs54 hx55
    unfold WW at hs54
    refine Zb (Zl hE rfl rfl rfl fun a hE=>Ze (wp_seq ?_))
    refine Zq hE rfl ?_ ?_
    ·intro hb57
     have hs54:=Zt hs54 hb57
     refine wp_skip (Zw (wp_seq (wp_block (Zb (Zd hE rfl fun a hE=>Zc hE rfl fun a hE=>Ze (wp_region_lit (Zd hE rfl fun a hE=>Zd hE rfl fun a hE=>Zl hE rfl rfl rfl fun a hE=>Zl hE rfl rfl rfl fun a hE=>Zl hE rfl rfl (Tq _ _ (by decide)) fun a hE=>Xc hE Za ld rfl Try.underlying3 Try.underlying5 fun a hE=>ZJ hE rfl (Hc) ?_))))))); intro a hE
     obtain ⟨x59,hi58,hs54⟩:=bvx hs54
     refine ZH hE rfl rfl Try.underlying59 ty5 hi58.1 fun a hE=>Zk (seg:=[(vB (Zz (Int.tmod (wr ((wr (13 * s53.2)) + 4)) 16)))]) (cs':=cat [[vI 285],enc j5,enc j23,enc (s53.1.setIfInBounds (s53.2).toNat (Zz (Int.tmod (wr ((wr (13 * s53.2)) + 4)) 16))),[vI p0]]) hE hM Za rfl rfl rfl ty5 rfl (Qj (o':=0 + (s53.2).toNat * 1) (pre:=[[vI 285],enc j5,enc j23]) (seg:=enc s53.1) (post:=[[vI p0]]) ck (ZR (v:=s53.1) (x:=Zz (Int.tmod (wr ((wr (13 * s53.2)) + 4)) 16)) hi58.1) (by first | omega | (simp only [Flat.n] <;> omega))) (Flat.cell (Zz (Int.tmod (wr ((wr (13 * s53.2)) + 4)) 16) : UInt8)) (U1 (o':=0 + (s53.2).toNat * 1) (pre:=[[vI 285],enc j5,enc j23]) (seg:=enc s53.1) (post:=[[vI p0]]) ck (ZR (v:=s53.1) (x:=Zz (Int.tmod (wr ((wr (13 * s53.2)) + 4)) 16)) hi58.1) (ZE (v:=s53.1) (x:=Zz (Int.tmod (wr ((wr (13 * s53.2)) + 4)) 16)) hi58.1) (by first | omega | (simp only [Flat.n] <;> omega))) fun w a hM hE=>Zi (Yv (Zw (wp_region_lit (Zl hE rfl rfl rfl fun a hE=>Zd hE rfl fun a hE=>Zi (Zj ?_)))))
     exact ⟨_,(ois hs54),hE.sub ⟨rfl,rfl,rfl,trivial⟩,hM⟩
    ·intro hb57
     have hs54:=Zs hs54 hb57
     refine wp_exit (Zn (Zn (Yy ?_)))
     obtain rfl:=hx55 _ (ois hs54)
     refine Zj ?_
     exact ⟨hE.sub ⟨rfl,rfl,trivial⟩,hM⟩
   ·skip
    rintro a w ⟨hE,hM⟩
    refine Zw (Zb (Zp hE rfl Tl rfl hM.rawAt0 cq ?_)); intro a hE
    have hM:=hM.pull1
    refine Zk (seg:=cat [[(vI ((⟨285,j5,j23,j50,p0⟩ : GCipher).Field))],enc ((⟨285,j5,j23,j50,p0⟩ : GCipher).Box),enc ((⟨285,j5,j23,j50,p0⟩ : GCipher).Mix),enc ((⟨285,j5,j23,j50,p0⟩ : GCipher).Places),[(vI ((⟨285,j5,j23,j50,p0⟩ : GCipher).Rounds))]]) (cs':=cat [[(vI ((⟨285,j5,j23,j50,p0⟩ : GCipher).Field))],enc ((⟨285,j5,j23,j50,p0⟩ : GCipher).Box),enc ((⟨285,j5,j23,j50,p0⟩ : GCipher).Mix),enc ((⟨285,j5,j23,j50,p0⟩ : GCipher).Places),[(vI ((⟨285,j5,j23,j50,p0⟩ : GCipher).Rounds))]]) hE hM Za rfl rfl rfl Tl cq (Nat.le_of_eq ((Nat.zero_add _).trans (Eq.trans cq (Eq.symm cq)))) (Y2 (cc1 (Flat.cell ((⟨285,j5,j23,j50,p0⟩ : GCipher).Field : Int)) (cc1 (Flat.cell _) (cc1 (Flat.cell _) (cc1 (Flat.cell _) (cc1 (Flat.cell ((⟨285,j5,j23,j50,p0⟩ : GCipher).Rounds : Int)) cc0)))))) (Zh (Eq.trans cq (Eq.symm cq))) fun w a hM hE=>Ze ?_
    obtain rfl:=Option.some.inj hF52
    have hq62 : Z6 Try.prog _ _ (.cell 2 61) _:=ZD hE rfl Tl rfl hM.rawAt0 cq rfl
    exact wp_ret (ZU hE rfl hq62 ⟨_,rfl,rfl,hM.kept⟩)
def Uq (s8 : (Vector (Vector UInt8 4) 4) × Int) : Option (Fl ((Vector (Vector UInt8 4) 4) × Int) (Vector (Vector UInt8 4) 4)) :=
 if (decide (s8.2 < 4)) = true then ((ZI s8.1 s8.2).bind fun x14=>(ZI x14 s8.2).bind fun x17=>some (Fl.nx ((s8.1.setIfInBounds (s8.2).toNat (x14.setIfInBounds (s8.2).toNat 1)),wr (s8.2 + 1)))) else (some (Fl.ex s8.1))
def WL : Option ((Vector (Vector UInt8 4) 4)) :=
 (ZF (Uq) ((Vector.replicate 4 (Vector.replicate 4 (0 : UInt8))),0)).bind fun j5=>some j5
theorem KF (w0 : World)  (r : (Vector (Vector UInt8 4) 4)) (hF : WL  = some r) :
  Calls Try.prog 188 [].toArray w0 (Rt w0 (Value.agg (enc r).toArray)):=by
 refine ce Try.func188 ?_
 intro a hE
 have hM:=M.start w0
 unfold WL at hF
 refine Zb (Zv hE hM Tx fun b1 w a hM hE=>Ze (Zb (Yx (parts:=[]) (vs:=[]) (cs:=enc (Vector.replicate 4 (Vector.replicate 4 (0 : UInt8)))) hE Za ld rfl rfl Tx rfl VA Yk fun a hE=>Zv hE hM Tx fun b3 w a hM hE=>Zk (seg:=enc (Vector.replicate 4 (Vector.replicate 4 (0 : UInt8)))) (cs':=enc (Vector.replicate 4 (Vector.replicate 4 (0 : UInt8)))) hE hM Za rfl rfl rfl Tx (Flat.len _) (zle flq) (Flat.cell _) (Zh flq) fun w a hM hE=>Ze (wp_seq (Zb (Zd hE rfl fun a hE=>Ze ?_))))))
 obtain ⟨j5,hl6,hF7⟩:=bind_some hF
 refine ZW (fun a w=>Env 13 a [(0,(ptr b1 0)),(1,(ptr b3 0))] ∧ M (Old w0) w0 w [raw b3 (enc j5),raw b1 (enc (Vector.replicate 4 (Vector.replicate 4 (0 : UInt8))))]) ?_ ?_
 ·skip
  refine wp_block ?_
  refine ZM (fun (s8 : (Vector (Vector UInt8 4) 4) × Int) a w=>Env 13 a [(0,(ptr b1 0)),(1,(ptr b3 0)),(4,vI s8.2)] ∧ M (Old w0) w0 w [raw b3 (enc s8.1),raw b1 (enc (Vector.replicate 4 (Vector.replicate 4 (0 : UInt8))))]) hl6 ⟨hE.sub ⟨rfl,rfl,rfl,trivial⟩,hM⟩ ?_
  rintro s8 a w ⟨hE,hM⟩ o11 hs9 hx10
  unfold Uq at hs9
  refine Zb (Zl hE rfl rfl rfl fun a hE=>Ze (wp_seq ?_))
  refine Zq hE rfl ?_ ?_
  ·intro hb12
   have hs9:=Zt hs9 hb12
   refine wp_skip (Zw (wp_seq (wp_block (Zb (Zd hE rfl fun a hE=>Zc hE rfl fun a hE=>Ze (wp_region_lit (Zd hE rfl fun a hE=>Zd hE rfl ?_))))))); intro a hE
   obtain ⟨x14,hi13,hs9⟩:=bvx hs9
   refine ZH hE rfl rfl Try.underlying57 VA hi13.1 ?_; intro a hE
   obtain ⟨x17,hi16,hs9⟩:=bvx hs9
   refine ZH hE rfl rfl Try.underlying55 ty5 hi16.1 fun a hE=>Zk (seg:=[vB 1]) (cs':=enc (s8.1.setIfInBounds (s8.2).toNat (x14.setIfInBounds (s8.2).toNat 1))) hE hM Za rfl rfl rfl ty5 rfl (Vu (o':=0 + (s8.2).toNat * 1) hi13 (ZR (v:=x14) (x:=1) hi16.1) (by first | omega | (simp only [Flat.n] <;> omega))) (Flat.cell (1 : UInt8)) (WM (o':=0 + (s8.2).toNat * 1) hi13 (ZR (v:=x14) (x:=1) hi16.1) (ZE (v:=x14) (x:=1) hi16.1) (by first | omega | (simp only [Flat.n] <;> omega))) fun w a hM hE=>Zi (Yv (Zw (wp_region_lit (Zl hE rfl rfl rfl fun a hE=>Zd hE rfl fun a hE=>Zi (Zj ?_)))))
   exact ⟨_,(ois hs9),hE.sub ⟨rfl,rfl,rfl,trivial⟩,hM⟩
  ·intro hb12
   have hs9:=Zs hs9 hb12
   refine wp_exit (Zn (Zn (Yy ?_)))
   obtain rfl:=hx10 _ (ois hs9)
   refine Zj ?_
   exact ⟨hE.sub ⟨rfl,rfl,trivial⟩,hM⟩
 ·skip
  rintro a w ⟨hE,hM⟩
  refine Zw (Zb (Zp hE rfl Tx rfl hM.rawAt0 (Flat.len _) ?_)); intro a hE
  have hM:=hM.pull1
  refine Zk (seg:=enc j5) (cs':=enc j5) hE hM Za rfl rfl rfl Tx (Flat.len _) (zle flq) (Flat.cell _) (Zh flq) fun w a hM hE=>Ze ?_
  obtain rfl:=Option.some.inj hF7
  have hq20 : Z6 Try.prog _ _ (.cell 0 57) _:=ZD hE rfl Tx rfl hM.rawAt0 (Flat.len _) rfl
  exact wp_ret (ZU hE rfl hq20 ⟨_,rfl,rfl,hM.kept⟩)
def VS (s13 : (Vector (Vector UInt8 4) 4) × (Vector (Vector UInt8 4) 4) × Int × UInt8) (s21 : Int) : Option (Fl Int Int) :=
 (if (decide (s21 < 4)) = true then ((ZI s13.1 s21).bind fun x30=>(ZI x30 s13.2.2.1).bind fun x33=>some (x33 == 0)) else (some false) : Option (Bool)).bind fun j25=>if j25 = true then (some (Fl.nx (wr (s21 + 1)))) else (some (Fl.ex s21))
def XH (p0 : Int) (s13 : (Vector (Vector UInt8 4) 4) × (Vector (Vector UInt8 4) 4) × Int × UInt8) (r90 : UInt8) (s95 : (Vector (Vector UInt8 4) 4) × (Vector (Vector UInt8 4) 4) × Int) : Option (Fl ((Vector (Vector UInt8 4) 4) × (Vector (Vector UInt8 4) 4) × Int) ((Vector (Vector UInt8 4) 4) × (Vector (Vector UInt8 4) 4))) :=
 if (decide (s95.2.2 < 4)) = true then ((ZI s95.1 s13.2.2.1).bind fun x102=>(ZI x102 s95.2.2).bind fun x105=>(Z8 p0 x105 r90).bind fun r107=>(ZI s95.2.1 s13.2.2.1).bind fun x110=>(ZI x110 s95.2.2).bind fun x113=>(Z8 p0 x113 r90).bind fun r115=>(ZI s95.1 s13.2.2.1).bind fun x118=>(ZI x118 s95.2.2).bind fun x121=>(ZI s95.2.1 s13.2.2.1).bind fun x124=>(ZI x124 s95.2.2).bind fun x127=>some (Fl.nx ((s95.1.setIfInBounds (s13.2.2.1).toNat (x118.setIfInBounds (s95.2.2).toNat r107)),(s95.2.1.setIfInBounds (s13.2.2.1).toNat (x124.setIfInBounds (s95.2.2).toNat r115)),wr (s95.2.2 + 1)))) else (some (Fl.ex (s95.1,s95.2.1)))
def XG (p0 : Int) (s13 : (Vector (Vector UInt8 4) 4) × (Vector (Vector UInt8 4) 4) × Int × UInt8) (s133 : (Vector (Vector UInt8 4) 4) × (Vector (Vector UInt8 4) 4) × Int) (x145 : UInt8) (s160 : (Vector (Vector UInt8 4) 4) × (Vector (Vector UInt8 4) 4) × Int) : Option (Fl ((Vector (Vector UInt8 4) 4) × (Vector (Vector UInt8 4) 4) × Int) ((Vector (Vector UInt8 4) 4) × (Vector (Vector UInt8 4) 4))) :=
 if (decide (s160.2.2 < 4)) = true then (((ZI s160.1 s133.2.2).bind fun x170=>(ZI x170 s160.2.2).bind fun x173=>(ZI s160.1 s13.2.2.1).bind fun x176=>(ZI x176 s160.2.2).bind fun x179=>(Z8 p0 x145 x179).bind fun r181=>(ZI s160.1 s133.2.2).bind fun x184=>(ZI x184 s160.2.2).bind fun x187=>some (s160.1.setIfInBounds (s133.2.2).toNat (x184.setIfInBounds (s160.2.2).toNat (x173 ^^^ r181))) : Option ((Vector (Vector UInt8 4) 4))).bind fun j165=>(ZI s160.2.1 s133.2.2).bind fun x192=>(ZI x192 s160.2.2).bind fun x195=>(ZI s160.2.1 s13.2.2.1).bind fun x198=>(ZI x198 s160.2.2).bind fun x201=>(Z8 p0 x145 x201).bind fun r203=>(ZI s160.2.1 s133.2.2).bind fun x206=>(ZI x206 s160.2.2).bind fun x209=>some (Fl.nx (j165,(s160.2.1.setIfInBounds (s133.2.2).toNat (x206.setIfInBounds (s160.2.2).toNat (x195 ^^^ r203))),wr (s160.2.2 + 1)))) else (some (Fl.ex (s160.1,s160.2.1)))
def XJ (p0 : Int) (s13 : (Vector (Vector UInt8 4) 4) × (Vector (Vector UInt8 4) 4) × Int × UInt8) (s133 : (Vector (Vector UInt8 4) 4) × (Vector (Vector UInt8 4) 4) × Int) : Option (Fl ((Vector (Vector UInt8 4) 4) × (Vector (Vector UInt8 4) 4) × Int) ((Vector (Vector UInt8 4) 4) × (Vector (Vector UInt8 4) 4))) :=
 if (decide (s133.2.2 < 4)) = true then (((ZI s133.1 s133.2.2).bind fun x142=>(ZI x142 s13.2.2.1).bind fun x145=>(if (s133.2.2 != s13.2.2.1) = true then (some (x145 != 0)) else (some false) : Option (Bool)).bind fun j147=>(if j147 = true then ((ZF (XG p0 s13 s133 x145) (s133.1,s133.2.1,0)).bind fun j157=>some (j157.1,j157.2)) else (some (s133.1,s133.2.1)) : Option ((Vector (Vector UInt8 4) 4) × (Vector (Vector UInt8 4) 4))).bind fun j153=>some (j153.1,j153.2) : Option ((Vector (Vector UInt8 4) 4) × (Vector (Vector UInt8 4) 4))).bind fun j138=>some (Fl.nx (j138.1,j138.2,wr (s133.2.2 + 1)))) else (some (Fl.ex (s133.1,s133.2.1)))
def YM (p0 : Int) (s13 : (Vector (Vector UInt8 4) 4) × (Vector (Vector UInt8 4) 4) × Int × UInt8) : Option (Fl ((Vector (Vector UInt8 4) 4) × (Vector (Vector UInt8 4) 4) × Int × UInt8) (Fl ((Vector (Vector UInt8 4) 4) × UInt8) (UInt8 × (Vector (Vector UInt8 4) 4)))) :=
 if (decide (s13.2.2.1 < 4)) = true then ((ZF (VS s13) s13.2.2.1).bind fun j18=>if (j18 == 4) = true then (some (Fl.ex (Fl.ex (0,(Vector.replicate 4 (Vector.replicate 4 (0 : UInt8))))))) else (((ZI s13.1 s13.2.2.1).bind fun x47=>(ZI s13.1 j18).bind fun x50=>(ZI s13.1 j18).bind fun x53=>(ZI (s13.1.setIfInBounds (j18).toNat x47) s13.2.2.1).bind fun x56=>some ((s13.1.setIfInBounds (j18).toNat x47).setIfInBounds (s13.2.2.1).toNat x50) : Option ((Vector (Vector UInt8 4) 4))).bind fun j42=>((ZI s13.2.1 s13.2.2.1).bind fun x64=>(ZI s13.2.1 j18).bind fun x67=>(ZI s13.2.1 j18).bind fun x70=>(ZI (s13.2.1.setIfInBounds (j18).toNat x64) s13.2.2.1).bind fun x73=>some ((s13.2.1.setIfInBounds (j18).toNat x64).setIfInBounds (s13.2.2.1).toNat x67) : Option ((Vector (Vector UInt8 4) 4))).bind fun j59=>(ZI j42 s13.2.2.1).bind fun x77=>(ZI x77 s13.2.2.1).bind fun x80=>(Z8 p0 s13.2.2.2 x80).bind fun r82=>(ZI j42 s13.2.2.1).bind fun x85=>(ZI x85 s13.2.2.1).bind fun x88=>(Yo p0 x88).bind fun r90=>(ZF (XH p0 s13 r90) (j42,j59,0)).bind fun j92=>(ZF (XJ p0 s13) (j92.1,j92.2,0)).bind fun j130=>some (Fl.nx (j130.1,j130.2,wr (s13.2.2.1 + 1),r82)))) else (some (Fl.ex (Fl.nx (s13.2.1,s13.2.2.2))))
def Xh (p0 : Int) (p1 : (Vector (Vector UInt8 4) 4)) : Option (UInt8 × (Vector (Vector UInt8 4) 4)) :=
 (WL).bind fun r5=>(ZF (YM p0) (p1,r5,0,1)).bind fun j9=>j9.el (fun s12=>(some (s12.1,s12.2) : Option ((Vector (Vector UInt8 4) 4) × UInt8)).bind fun j217=>some (j217.2,j217.1)) (fun r=>some r)
theorem QB (w0 : World) (p0 : Int) (p1 : (Vector (Vector UInt8 4) 4)) (r : UInt8 × (Vector (Vector UInt8 4) 4)) (hF : Xh p0 p1 = some r) :
  Calls Try.prog 145 [vI p0,(Value.agg (enc p1).toArray)].toArray w0 (Rt w0 (Value.tuple [vB r.1,(Value.agg (enc r.2).toArray)].toArray)):=by
 refine ce Try.func145 ?_
 intro a hE
 have hM:=M.start w0
 unfold Xh at hF
 refine Zb (Z7 (cs:=enc p1) hE hM Za ld rfl rfl fun b1 w a hM hE=>Zc hE rfl fun a hE=>Zv hE hM Tx fun b3 w a hM hE=>Ze (Zb ?_))
 obtain ⟨r5,e6,hF⟩:=bind_some hF
 refine Zy hE rfl (cbm Try.func188) (KF _  r5 e6) ?_
 rintro v w a ⟨rfl,hK⟩ hE
 have hM:=hM.keep hK
 refine Zv hE hM Tx fun b7 w a hM hE=>Zk (seg:=enc r5) (cs':=enc r5) hE hM Za rfl rfl rfl Tx (Flat.len _) (zle flq) (Flat.cell _) (Zh flq) fun w a hM hE=>Zc hE rfl fun a hE=>Ze (wp_seq (Zb (Zd hE rfl fun a hE=>Ze ?_)))
 obtain ⟨j9,hl10,hF11⟩:=bind_some hF
 refine ZW (fun a w=>∃ s12 : (Vector (Vector UInt8 4) 4) × UInt8,j9 = Fl.nx s12 ∧ Env 153 a [(5,(ptr b3 0)),(6,(ptr b7 0)),(7,vB s12.2)] ∧ M (Old w0) w0 w [raw b7 (enc s12.1),raw b3 (enc (Vector.replicate 4 (Vector.replicate 4 (0 : UInt8))))]) ?_ ?_
 ·skip
  refine wp_block ?_
  refine ZM (fun (s13 : (Vector (Vector UInt8 4) 4) × (Vector (Vector UInt8 4) 4) × Int × UInt8) a w=>Env 153 a [(0,vI p0),(3,(ptr b1 0)),(5,(ptr b3 0)),(6,(ptr b7 0)),(7,vB s13.2.2.2),(16,vI s13.2.2.1)] ∧ M (Old w0) w0 w [raw b7 (enc s13.2.1),raw b3 (enc (Vector.replicate 4 (Vector.replicate 4 (0 : UInt8)))),raw b1 (enc s13.1)]) hl10 ⟨hE.sub ⟨rfl,rfl,rfl,rfl,rfl,rfl,trivial⟩,hM⟩ ?_
  rintro s13 a w ⟨hE,hM⟩ o16 hs14 hx15
  unfold YM at hs14
  refine Zb (Zl hE rfl rfl rfl fun a hE=>Ze (wp_seq ?_))
  refine Zq hE rfl ?_ ?_
  ·intro hb17
   have hs14:=Zt hs14 hb17
   refine wp_skip (Zw (wp_seq (wp_block (Zb (Zd hE rfl fun a hE=>Zc hE rfl fun a hE=>Ze (Zb (Zd hE rfl fun a hE=>Zc hE rfl fun a hE=>Ze ?_)))))))
   obtain ⟨j18,hl19,hF20⟩:=bind_some hs14
   refine ZB (fun a w=>Env 153 a [(0,vI p0),(3,(ptr b1 0)),(5,(ptr b3 0)),(6,(ptr b7 0)),(7,vB s13.2.2.2),(8,vI s13.2.2.1),(9,vI j18),(16,vI s13.2.2.1)] ∧ M (Old w0) w0 w [raw b7 (enc s13.2.1),raw b3 (enc (Vector.replicate 4 (Vector.replicate 4 (0 : UInt8)))),raw b1 (enc s13.1)]) ?_ ?_
   ·skip
    refine wp_block ?_
    refine ZM (fun (s21 : Int) a w=>Env 153 a [(0,vI p0),(3,(ptr b1 0)),(5,(ptr b3 0)),(6,(ptr b7 0)),(7,vB s13.2.2.2),(8,vI s13.2.2.1),(9,vI s21),(16,vI s13.2.2.1)] ∧ M (Old w0) w0 w [raw b7 (enc s13.2.1),raw b3 (enc (Vector.replicate 4 (Vector.replicate 4 (0 : UInt8)))),raw b1 (enc s13.1)]) hl19 ⟨hE.sub ⟨rfl,rfl,rfl,rfl,rfl,rfl,rfl,rfl,trivial⟩,hM⟩ ?_
    rintro s21 a w ⟨hE,hM⟩ o24 hs22 hx23
    unfold VS at hs22
    refine wp_seq ?_
    obtain ⟨j25,hl26,hF27⟩:=bind_some hs22
    refine ZB (fun a w=>Env 153 a [(0,vI p0),(3,(ptr b1 0)),(5,(ptr b3 0)),(6,(ptr b7 0)),(7,vB s13.2.2.2),(8,vI s13.2.2.1),(9,vI s21),(16,vI s13.2.2.1),(29,vT j25)] ∧ M (Old w0) w0 w [raw b7 (enc s13.2.1),raw b3 (enc (Vector.replicate 4 (Vector.replicate 4 (0 : UInt8)))),raw b1 (enc s13.1)]) ?_ ?_
    ·skip
     refine wp_region_lit (Zd hE rfl fun a hE=>Zl hE rfl rfl rfl fun a hE=>Zd hE rfl ?_); intro a hE
     refine YP (decide (s21 < 4)) (fun hb28=>?_) (fun hb28=>?_)
     ·have hl26:=Zt hl26 hb28
      refine Zg hE (Zf hE rfl (lkb rfl hb28)) (by decide) rfl fun a hE=>Zg hE (Zf hE rfl (lkb rfl hb28)) (by decide) rfl ?_; intro a hE
      obtain ⟨x30,hi29,hl26⟩:=bvx hl26
      refine ZC hE (Zf hE rfl (lkb rfl hb28)) (by decide) rfl rfl Try.underlying57 VA hi29.1 ?_; intro a hE
      obtain ⟨x33,hi32,hl26⟩:=bvx hl26
      refine ZC hE (Zf hE rfl (lkb rfl hb28)) (by decide) rfl rfl Try.underlying55 ty5 hi32.1 fun a hE=>ZN (v:=(vB x33)) hE (Zf hE rfl (lkb rfl hb28)) (by decide) rfl ty5 rfl (At.vec (At.vec hM.rawAt2 hi29.2) hi32.2) fun a hE=>Z1 hE (Zf hE rfl (lkb rfl hb28)) (by decide) rfl rfl (jh x33 0) fun a hE=>YY hE (lkb rfl hb28) rfl fun a hE=>Zi ?_
      obtain rfl:=Option.some.inj hl26
      refine Zj ?_
      exact ⟨hE.sub ⟨rfl,rfl,rfl,rfl,rfl,rfl,rfl,rfl,rfl,trivial⟩,hM⟩
     ·have hl26:=Zs hl26 hb28
      refine Zm hE rfl (lkb rfl hb28) rfl (by decide) fun a hE=>Zm hE rfl (lkb rfl hb28) rfl (by decide) fun a hE=>Zm hE rfl (lkb rfl hb28) rfl (by decide) fun a hE=>Zm hE rfl (lkb rfl hb28) rfl (by decide) fun a hE=>Zm hE rfl (lkb rfl hb28) rfl (by decide) fun a hE=>Zm hE rfl (lkb rfl hb28) rfl (by decide) fun a hE=>YW hE (lkb rfl hb28) rfl fun a hE=>Zi ?_
      obtain rfl:=Option.some.inj hl26
      refine Zj ?_
      exact ⟨hE.sub ⟨rfl,rfl,rfl,rfl,rfl,rfl,rfl,rfl,rfl,trivial⟩,hM⟩
    ·skip
     rintro a w ⟨hE,hM⟩
     refine Zq hE rfl ?_ ?_
     ·intro hb37
      have hF27:=Zt hF27 hb37
      refine wp_skip (Zw (wp_block (wp_region_lit (Zd hE rfl fun a hE=>Zl hE rfl rfl rfl fun a hE=>Zc hE rfl fun a hE=>Zi (Yv (Zj ?_))))))
      exact ⟨_,(ois hF27),hE.sub ⟨rfl,rfl,rfl,rfl,rfl,rfl,rfl,rfl,trivial⟩,hM⟩
     ·intro hb37
      have hF27:=Zs hF27 hb37
      refine wp_exit (Zn (Zn (Yy ?_)))
      obtain rfl:=hx23 _ (ois hF27)
      refine Zj ?_
      exact ⟨hE.sub ⟨rfl,rfl,rfl,rfl,rfl,rfl,rfl,rfl,trivial⟩,hM⟩
   ·skip
    rintro a w ⟨hE,hM⟩
    refine wp_seq (Zb (Zd hE rfl fun a hE=>Zl hE rfl rfl rfl fun a hE=>Ze ?_))
    refine Zq hE rfl ?_ ?_
    ·intro hb39
     have hF20:=Zt hF20 hb39
     refine Zb (Yx (parts:=[]) (vs:=[]) (cs:=enc (Vector.replicate 4 (Vector.replicate 4 (0 : UInt8)))) hE Za ld rfl rfl Tx rfl VA Yk fun a hE=>Zc hE rfl ?_); intro a hE
     have hM:=hM.pull1
     refine Zk (seg:=enc (Vector.replicate 4 (Vector.replicate 4 (0 : UInt8)))) (cs':=enc (Vector.replicate 4 (Vector.replicate 4 (0 : UInt8)))) hE hM Za rfl rfl rfl Tx (Flat.len _) (zle flq) (Flat.cell _) (Zh flq) fun w a hM hE=>Ze ?_
     obtain rfl:=hx15 _ (ois hF20)
     obtain rfl:=Option.some.inj hF11
     have hq41 : Z6 Try.prog _ _ (.cell 5 57) _:=ZD hE rfl Tx rfl hM.rawAt0 (Flat.len _) rfl
     exact wp_ret (ZL (Vj (ZL (ZL (Vj (ZL (ZL (WR hE rfl (ZV hE rfl) hq41 ⟨_,rfl,rfl,hM.kept⟩))))))))
    ·intro hb39
     have hF20:=Zs hF20 hb39
     refine wp_skip (Zw ?_)
     obtain ⟨j42,hl43,hF44⟩:=bind_some hF20
     refine ZB (fun a w=>Env 153 a [(0,vI p0),(3,(ptr b1 0)),(5,(ptr b3 0)),(6,(ptr b7 0)),(7,vB s13.2.2.2),(8,vI s13.2.2.1),(9,vI j18),(16,vI s13.2.2.1)] ∧ M (Old w0) w0 w [raw b7 (enc s13.2.1),raw b3 (enc (Vector.replicate 4 (Vector.replicate 4 (0 : UInt8)))),raw b1 (enc j42)]) ?_ ?_
     ·skip
      have hM:=hM.pull2
      obtain ⟨x47,hi46,hl43⟩:=bvx hl43
      obtain ⟨x50,hi49,hl43⟩:=bvx hl43
      obtain ⟨x53,hi52,hl43⟩:=bvx hl43
      refine YV (its:=[raw b7 (enc s13.2.1),raw b3 (enc (Vector.replicate 4 (Vector.replicate 4 (0 : UInt8))))]) (mk:=([mkT 9 (raw b1 (enc s13.1)) (raw b1 (enc (s13.1.setIfInBounds (j18).toNat x47)))] : Mk)) [35,36,37,38,39,40,41,42,43,162] Yr rfl rfl (by decide) rfl hE (fun u=>M.qT (M.q0 hM.drew u)) (qsP (fun z=>Zg z.E Za ld rfl (kr0 rfl)) (qsP (fun z=>Zg z.E Za ld rfl (kr0 rfl)) (qsP (fun z=>Zg z.E Za ld rfl (kr0 rfl)) (qsP (fun z=>ZC z.E Za ld rfl rfl Try.underlying57 VA hi46.1 (kr0 rfl)) (qsP (v:=(Value.agg (enc x47).toArray)) ?_ (qsP (fun z=>Zg z.E Za ld rfl (kr0 rfl)) (qsP (fun z=>ZC z.E Za ld rfl rfl Try.underlying57 VA hi49.1 (kr0 rfl)) (qsP (v:=(Value.agg (enc x50).toArray)) ?_ (qsP (fun z=>ZC z.E Za ld rfl rfl Try.underlying57 VA hi52.1 (kr0 rfl)) (qsM (pr:=fun v=>True) ?_ qs0)))))))))) ?_
      ·intro a w ux45 D z
       have hE:=z.E
       have hD : D 4 = false:=z.F
       have hM:=z.M.togA (pre:=[_,_]) (Kv (j:=9) (k:=1) z.c rfl rfl rfl hD)
       exact Zp hE rfl VA rfl (At.vec hM.rawAt2 hi46.2) (Flat.len _) fun a hE=>⟨Kept.refl _ _,_,rfl,hE⟩
      ·intro a w ux45 D z
       have hE:=z.E
       have hD : D 7 = false:=z.F
       have hM:=z.M.togA (pre:=[_,_]) (Kv (j:=9) (k:=9) z.c rfl rfl rfl hD)
       exact Zp hE rfl VA rfl (At.vec hM.rawAt2 hi49.2) (Flat.len _) fun a hE=>⟨Kept.refl _ _,_,rfl,hE⟩
      ·intro a w ux45 D z
       have hE:=z.E
       have hD : D 9 = false:=z.F
       have hM:=(z.M.togA (pre:=[_,_]) hD).pull2
       exact Zk (seg:=enc x47) (cs':=enc (s13.1.setIfInBounds (j18).toNat x47)) hE hM Za rfl rfl rfl VA (Flat.len _) (ZR (v:=s13.1) (x:=x47) hi52.1) (Flat.cell _) (ZE (v:=s13.1) (x:=x47) hi52.1) fun w a hM hE=>⟨undef,_,rfl,Env.dummy hE (by decide),M.qTog (mk1:=[]) (mk2:=[]) hM rfl,trivial⟩
      ·intro a w ux45 D hE hM hG hall
       have d9:=hall 9 (by decide)
       have hM:=hM.togB (pre:=[_,_]) d9
       obtain ⟨x56,hi55,hl43⟩:=bvx hl43
       refine ZH hE rfl rfl Try.underlying57 VA hi55.1 ?_; intro a hE
       have hM:=hM.pull2
       refine Zk (seg:=enc x50) (cs':=enc ((s13.1.setIfInBounds (j18).toNat x47).setIfInBounds (s13.2.2.1).toNat x50)) hE hM Za rfl rfl rfl VA (Flat.len _) (ZR (v:=(s13.1.setIfInBounds (j18).toNat x47)) (x:=x50) hi55.1) (Flat.cell _) (ZE (v:=(s13.1.setIfInBounds (j18).toNat x47)) (x:=x50) hi55.1) fun w a hM hE=>Zi ?_
       obtain rfl:=Option.some.inj hl43
       refine Zj ?_
       have hM:=hM.pull2.pull2
       exact ⟨hE.sub ⟨rfl,rfl,rfl,rfl,rfl,rfl,rfl,rfl,trivial⟩,hM⟩
     ·skip
      rintro a w ⟨hE,hM⟩
      obtain ⟨j59,hl60,hF61⟩:=bind_some hF44
      refine ZB (fun a w=>Env 153 a [(0,vI p0),(3,(ptr b1 0)),(5,(ptr b3 0)),(6,(ptr b7 0)),(7,vB s13.2.2.2),(8,vI s13.2.2.1),(16,vI s13.2.2.1)] ∧ M (Old w0) w0 w [raw b7 (enc j59),raw b3 (enc (Vector.replicate 4 (Vector.replicate 4 (0 : UInt8)))),raw b1 (enc j42)]) ?_ ?_
      ·skip
       obtain ⟨x64,hi63,hl60⟩:=bvx hl60
       obtain ⟨x67,hi66,hl60⟩:=bvx hl60
       obtain ⟨x70,hi69,hl60⟩:=bvx hl60
       refine YV (its:=[raw b3 (enc (Vector.replicate 4 (Vector.replicate 4 (0 : UInt8)))),raw b1 (enc j42)]) (mk:=([mkT 9 (raw b7 (enc s13.2.1)) (raw b7 (enc (s13.2.1.setIfInBounds (j18).toNat x64)))] : Mk)) [45,46,47,48,49,50,51,52,53,162] Yr rfl rfl (by decide) rfl hE (fun u=>M.qT (M.q0 hM.drew u)) (qsP (fun z=>Zg z.E Za ld rfl (kr0 rfl)) (qsP (fun z=>Zg z.E Za ld rfl (kr0 rfl)) (qsP (fun z=>Zg z.E Za ld rfl (kr0 rfl)) (qsP (fun z=>ZC z.E Za ld rfl rfl Try.underlying57 VA hi63.1 (kr0 rfl)) (qsP (v:=(Value.agg (enc x64).toArray)) ?_ (qsP (fun z=>Zg z.E Za ld rfl (kr0 rfl)) (qsP (fun z=>ZC z.E Za ld rfl rfl Try.underlying57 VA hi66.1 (kr0 rfl)) (qsP (v:=(Value.agg (enc x67).toArray)) ?_ (qsP (fun z=>ZC z.E Za ld rfl rfl Try.underlying57 VA hi69.1 (kr0 rfl)) (qsM (pr:=fun v=>True) ?_ qs0)))))))))) ?_
       ·intro a w ux62 D z
        have hE:=z.E
        have hD : D 4 = false:=z.F
        have hM:=z.M.togA (pre:=[_,_]) (Kv (j:=9) (k:=1) z.c rfl rfl rfl hD)
        exact Zp hE rfl VA rfl (At.vec hM.rawAt2 hi63.2) (Flat.len _) fun a hE=>⟨Kept.refl _ _,_,rfl,hE⟩
       ·intro a w ux62 D z
        have hE:=z.E
        have hD : D 7 = false:=z.F
        have hM:=z.M.togA (pre:=[_,_]) (Kv (j:=9) (k:=9) z.c rfl rfl rfl hD)
        exact Zp hE rfl VA rfl (At.vec hM.rawAt2 hi66.2) (Flat.len _) fun a hE=>⟨Kept.refl _ _,_,rfl,hE⟩
       ·intro a w ux62 D z
        have hE:=z.E
        have hD : D 9 = false:=z.F
        have hM:=(z.M.togA (pre:=[_,_]) hD).pull2
        exact Zk (seg:=enc x64) (cs':=enc (s13.2.1.setIfInBounds (j18).toNat x64)) hE hM Za rfl rfl rfl VA (Flat.len _) (ZR (v:=s13.2.1) (x:=x64) hi69.1) (Flat.cell _) (ZE (v:=s13.2.1) (x:=x64) hi69.1) fun w a hM hE=>⟨undef,_,rfl,Env.dummy hE (by decide),M.qTog (mk1:=[]) (mk2:=[]) hM rfl,trivial⟩
       ·intro a w ux62 D hE hM hG hall
        have d9:=hall 9 (by decide)
        have hM:=hM.togB (pre:=[_,_]) d9
        obtain ⟨x73,hi72,hl60⟩:=bvx hl60
        refine ZH hE rfl rfl Try.underlying57 VA hi72.1 ?_; intro a hE
        have hM:=hM.pull2
        refine Zk (seg:=enc x67) (cs':=enc ((s13.2.1.setIfInBounds (j18).toNat x64).setIfInBounds (s13.2.2.1).toNat x67)) hE hM Za rfl rfl rfl VA (Flat.len _) (ZR (v:=(s13.2.1.setIfInBounds (j18).toNat x64)) (x:=x67) hi72.1) (Flat.cell _) (ZE (v:=(s13.2.1.setIfInBounds (j18).toNat x64)) (x:=x67) hi72.1) fun w a hM hE=>Zi ?_
        obtain rfl:=Option.some.inj hl60
        refine Zj ?_
        exact ⟨hE.sub ⟨rfl,rfl,rfl,rfl,rfl,rfl,rfl,trivial⟩,hM⟩
      ·skip
       rintro a w ⟨hE,hM⟩
       refine Zb (Zd hE rfl fun a hE=>Zd hE rfl fun a hE=>Zd hE rfl fun a hE=>Zd hE rfl ?_); intro a hE
       obtain ⟨x77,hi76,hF61⟩:=bvx hF61
       refine ZH hE rfl rfl Try.underlying57 VA hi76.1 ?_; intro a hE
       obtain ⟨x80,hi79,hF61⟩:=bvx hF61
       refine ZH hE rfl rfl Try.underlying55 ty5 hi79.1 fun a hE=>ZQ (v:=(vB x80)) hE rfl ty5 rfl (At.vec (At.vec hM.rawAt2 hi76.2) hi79.2) ?_; intro a hE
       obtain ⟨r82,e83,hF61⟩:=bind_some hF61
       refine Zy hE rfl Jl (YK _ p0 s13.2.2.2 x80 r82 e83) ?_
       rintro v w a ⟨rfl,hK⟩ hE
       have hM:=hM.keep hK
       refine Zc hE rfl fun a hE=>Ze (Zb (Zd hE rfl fun a hE=>Zd hE rfl fun a hE=>Zd hE rfl ?_)); intro a hE
       obtain ⟨x85,hi84,hF61⟩:=bvx hF61
       refine ZH hE rfl rfl Try.underlying57 VA hi84.1 ?_; intro a hE
       obtain ⟨x88,hi87,hF61⟩:=bvx hF61
       refine ZH hE rfl rfl Try.underlying55 ty5 hi87.1 fun a hE=>ZQ (v:=(vB x88)) hE rfl ty5 rfl (At.vec (At.vec hM.rawAt2 hi84.2) hi87.2) ?_; intro a hE
       obtain ⟨r90,e91,hF61⟩:=bind_some hF61
       refine Zy hE rfl yD (VX _ p0 x88 r90 e91) ?_
       rintro v w a ⟨rfl,hK⟩ hE
       have hM:=hM.keep hK
       refine Zc hE rfl fun a hE=>Ze (wp_seq (Zb (Zd hE rfl fun a hE=>Ze ?_)))
       obtain ⟨j92,hl93,hF94⟩:=bind_some hF61
       refine ZW (fun a w=>Env 153 a [(0,vI p0),(3,(ptr b1 0)),(5,(ptr b3 0)),(6,(ptr b7 0)),(7,vB r82),(8,vI s13.2.2.1),(16,vI s13.2.2.1)] ∧ M (Old w0) w0 w [raw b7 (enc j92.2),raw b3 (enc (Vector.replicate 4 (Vector.replicate 4 (0 : UInt8)))),raw b1 (enc j92.1)]) ?_ ?_
       ·skip
        refine wp_block ?_
        refine ZM (fun (s95 : (Vector (Vector UInt8 4) 4) × (Vector (Vector UInt8 4) 4) × Int) a w=>Env 153 a [(0,vI p0),(3,(ptr b1 0)),(5,(ptr b3 0)),(6,(ptr b7 0)),(7,vB r82),(8,vI s13.2.2.1),(10,vB r90),(16,vI s13.2.2.1),(70,vI s95.2.2)] ∧ M (Old w0) w0 w [raw b7 (enc s95.2.1),raw b3 (enc (Vector.replicate 4 (Vector.replicate 4 (0 : UInt8)))),raw b1 (enc s95.1)]) hl93 ⟨hE.sub ⟨rfl,rfl,rfl,rfl,rfl,rfl,rfl,rfl,rfl,trivial⟩,hM⟩ ?_
        rintro s95 a w ⟨hE,hM⟩ o98 hs96 hx97
        unfold XH at hs96
        refine Zb (Zl hE rfl rfl rfl fun a hE=>Ze (wp_seq ?_))
        refine Zq hE rfl ?_ ?_
        ·intro hb99
         have hs96:=Zt hs96 hb99
         refine wp_skip (Zw (wp_seq (wp_block (Zb (Zd hE rfl fun a hE=>Zc hE rfl fun a hE=>Ze ?_)))))
         have hM:=hM.pull2
         obtain ⟨x102,hi101,hs96⟩:=bvx hs96
         obtain ⟨x105,hi104,hs96⟩:=bvx hs96
         obtain ⟨r107,e108,hs96⟩:=bind_some hs96
         obtain ⟨x110,hi109,hs96⟩:=bvx hs96
         obtain ⟨x113,hi112,hs96⟩:=bvx hs96
         obtain ⟨r115,e116,hs96⟩:=bind_some hs96
         obtain ⟨x118,hi117,hs96⟩:=bvx hs96
         obtain ⟨x121,hi120,hs96⟩:=bvx hs96
         obtain ⟨x124,hi123,hs96⟩:=bvx hs96
         refine YV (its:=[raw b7 (enc s95.2.1),raw b3 (enc (Vector.replicate 4 (Vector.replicate 4 (0 : UInt8))))]) (mk:=([mkT 22 (raw b1 (enc s95.1)) (raw b1 (enc (s95.1.setIfInBounds (s13.2.2.1).toNat (x118.setIfInBounds (s95.2.2).toNat r107))))] : Mk)) [73,74,75,76,77,78,79,80,81,82,83,84,85,86,87,88,89,90,91,92,93,94,175,95] Yr rfl rfl (by decide) rfl hE (fun u=>M.qT (M.q0 hM.drew u)) (qsP (fun z=>Zg z.E Za ld rfl (kr0 rfl)) (qsP (fun z=>Zg z.E Za ld rfl (kr0 rfl)) (qsP (fun z=>Zg z.E Za ld rfl (kr0 rfl)) (qsP (fun z=>Zg z.E Za ld rfl (kr0 rfl)) (qsP (fun z=>Zg z.E Za ld rfl (kr0 rfl)) (qsP (fun z=>Zg z.E Za ld rfl (kr0 rfl)) (qsP (fun z=>Zg z.E Za ld rfl (kr0 rfl)) (qsP (fun z=>ZC z.E Za ld rfl rfl Try.underlying57 VA hi101.1 (kr0 rfl)) (qsP (fun z=>ZC z.E Za ld rfl rfl Try.underlying55 ty5 hi104.1 (kr0 rfl)) (qsP (v:=(vB x105)) ?_ (qsP (fun z=>Zg z.E Za ld rfl (kr0 rfl)) (qsP (fun z=>ZX z.E Za ld rfl Jl (YK _ p0 x105 r90 r107 e108) (kc rfl)) (qsP (fun z=>Zg z.E Za ld rfl (kr0 rfl)) (qsP (fun z=>Zg z.E Za ld rfl (kr0 rfl)) (qsP (fun z=>Zg z.E Za ld rfl (kr0 rfl)) (qsP (fun z=>ZC z.E Za ld rfl rfl Try.underlying57 VA hi109.1 (kr0 rfl)) (qsP (fun z=>ZC z.E Za ld rfl rfl Try.underlying55 ty5 hi112.1 (kr0 rfl)) (qsP (v:=(vB x113)) ?_ (qsP (fun z=>Zg z.E Za ld rfl (kr0 rfl)) (qsP (fun z=>ZX z.E Za ld rfl Jl (YK _ p0 x113 r90 r115 e116) (kc rfl)) (qsP (fun z=>ZC z.E Za ld rfl rfl Try.underlying57 VA hi117.1 (kr0 rfl)) (qsP (fun z=>ZC z.E Za ld rfl rfl Try.underlying55 ty5 hi120.1 (kr0 rfl)) (qsM (pr:=fun v=>True) ?_ (qsP (fun z=>ZC z.E Za ld rfl rfl Try.underlying57 VA hi123.1 (kr0 rfl)) qs0)))))))))))))))))))))))) ?_
         ·intro a w ux100 D z
          have hE:=z.E
          have hD : D 9 = false:=z.F
          have hM:=z.M.togA (pre:=[_,_]) (Kv (j:=22) (k:=12) z.c rfl rfl rfl hD)
          exact ZQ (v:=(vB x105)) hE rfl ty5 rfl (At.vec (At.vec hM.rawAt2 hi101.2) hi104.2) fun a hE=>⟨Kept.refl _ _,_,rfl,hE⟩
         ·intro a w ux100 D z
          have hE:=z.E
          have hM:=z.M
          exact ZQ (v:=(vB x113)) hE rfl ty5 rfl (At.vec (At.vec hM.rawAt0 hi109.2) hi112.2) fun a hE=>⟨Kept.refl _ _,_,rfl,hE⟩
         ·intro a w ux100 D z
          have hE:=z.E
          have hD : D 22 = false:=z.F
          have hM:=(z.M.togA (pre:=[_,_]) hD).pull2
          exact Zk (seg:=[vB r107]) (cs':=enc (s95.1.setIfInBounds (s13.2.2.1).toNat (x118.setIfInBounds (s95.2.2).toNat r107))) hE hM Za rfl rfl rfl ty5 rfl (Vu (o':=0 + (s95.2.2).toNat * 1) hi117 (ZR (v:=x118) (x:=r107) hi120.1) (by first | omega | (simp only [Flat.n] <;> omega))) (Flat.cell (r107 : UInt8)) (WM (o':=0 + (s95.2.2).toNat * 1) hi117 (ZR (v:=x118) (x:=r107) hi120.1) (ZE (v:=x118) (x:=r107) hi120.1) (by first | omega | (simp only [Flat.n] <;> omega))) fun w a hM hE=>⟨undef,_,rfl,Env.dummy hE (by decide),M.qTog (mk1:=[]) (mk2:=[]) hM rfl,trivial⟩
         ·intro a w ux100 D hE hM hG hall
          have d22:=hall 22 (by decide)
          have hM:=hM.togB (pre:=[_,_]) d22
          obtain ⟨x127,hi126,hs96⟩:=bvx hs96
          refine ZH hE rfl rfl Try.underlying55 ty5 hi126.1 fun a hE=>Zk (seg:=[vB r115]) (cs':=enc (s95.2.1.setIfInBounds (s13.2.2.1).toNat (x124.setIfInBounds (s95.2.2).toNat r115))) hE hM Za rfl rfl rfl ty5 rfl (Vu (o':=0 + (s95.2.2).toNat * 1) hi123 (ZR (v:=x124) (x:=r115) hi126.1) (by first | omega | (simp only [Flat.n] <;> omega))) (Flat.cell (r115 : UInt8)) (WM (o':=0 + (s95.2.2).toNat * 1) hi123 (ZR (v:=x124) (x:=r115) hi126.1) (ZE (v:=x124) (x:=r115) hi126.1) (by first | omega | (simp only [Flat.n] <;> omega))) fun w a hM hE=>Zi (Yv (Zw (wp_region_lit (Zl hE rfl rfl rfl fun a hE=>Zd hE rfl fun a hE=>Zi (Zj ?_)))))
          exact ⟨_,(ois hs96),hE.sub ⟨rfl,rfl,rfl,rfl,rfl,rfl,rfl,rfl,rfl,trivial⟩,hM⟩
        ·intro hb99
         have hs96:=Zs hs96 hb99
         refine wp_exit (Zn (Zn (Yy ?_)))
         obtain rfl:=hx97 _ (ois hs96)
         refine Zj ?_
         exact ⟨hE.sub ⟨rfl,rfl,rfl,rfl,rfl,rfl,rfl,trivial⟩,hM⟩
       ·skip
        rintro a w ⟨hE,hM⟩
        refine Zw (Zb (Zd hE rfl fun a hE=>Ze ?_))
        obtain ⟨j130,hl131,hF132⟩:=bind_some hF94
        refine ZW (fun a w=>Env 153 a [(0,vI p0),(3,(ptr b1 0)),(5,(ptr b3 0)),(6,(ptr b7 0)),(7,vB r82),(16,vI s13.2.2.1)] ∧ M (Old w0) w0 w [raw b7 (enc j130.2),raw b3 (enc (Vector.replicate 4 (Vector.replicate 4 (0 : UInt8)))),raw b1 (enc j130.1)]) ?_ ?_
        ·skip
         refine wp_block ?_
         refine ZM (fun (s133 : (Vector (Vector UInt8 4) 4) × (Vector (Vector UInt8 4) 4) × Int) a w=>Env 153 a [(0,vI p0),(3,(ptr b1 0)),(5,(ptr b3 0)),(6,(ptr b7 0)),(7,vB r82),(8,vI s13.2.2.1),(16,vI s13.2.2.1),(98,vI s133.2.2)] ∧ M (Old w0) w0 w [raw b7 (enc s133.2.1),raw b3 (enc (Vector.replicate 4 (Vector.replicate 4 (0 : UInt8)))),raw b1 (enc s133.1)]) hl131 ⟨hE.sub ⟨rfl,rfl,rfl,rfl,rfl,rfl,rfl,rfl,trivial⟩,hM⟩ ?_
         rintro s133 a w ⟨hE,hM⟩ o136 hs134 hx135
         unfold XJ at hs134
         refine Zb (Zl hE rfl rfl rfl fun a hE=>Ze (wp_seq ?_))
         refine Zq hE rfl ?_ ?_
         ·intro hb137
          have hs134:=Zt hs134 hb137
          refine wp_skip (Zw ?_)
          obtain ⟨j138,hl139,hF140⟩:=bind_some hs134
          refine ZB (fun a w=>Env 153 a [(0,vI p0),(3,(ptr b1 0)),(5,(ptr b3 0)),(6,(ptr b7 0)),(7,vB r82),(8,vI s13.2.2.1),(16,vI s13.2.2.1),(98,vI s133.2.2)] ∧ M (Old w0) w0 w [raw b7 (enc j138.2),raw b3 (enc (Vector.replicate 4 (Vector.replicate 4 (0 : UInt8)))),raw b1 (enc j138.1)]) ?_ ?_
          ·skip
           refine wp_block (Zb (Zd hE rfl fun a hE=>Zc hE rfl fun a hE=>Ze (Zb (Zd hE rfl fun a hE=>Zd hE rfl ?_)))); intro a hE
           obtain ⟨x142,hi141,hl139⟩:=bvx hl139
           refine ZH hE rfl rfl Try.underlying57 VA hi141.1 ?_; intro a hE
           obtain ⟨x145,hi144,hl139⟩:=bvx hl139
           refine ZH hE rfl rfl Try.underlying55 ty5 hi144.1 fun a hE=>ZQ (v:=(vB x145)) hE rfl ty5 rfl (At.vec (At.vec hM.rawAt2 hi141.2) hi144.2) fun a hE=>Zc hE rfl fun a hE=>Ze ?_
           obtain ⟨j147,hl148,hF149⟩:=bind_some hl139
           refine ZB (fun a w=>Env 153 a [(0,vI p0),(3,(ptr b1 0)),(5,(ptr b3 0)),(6,(ptr b7 0)),(7,vB r82),(8,vI s13.2.2.1),(12,vI s133.2.2),(13,vB x145),(16,vI s13.2.2.1),(98,vI s133.2.2),(112,vT j147)] ∧ M (Old w0) w0 w [raw b7 (enc s133.2.1),raw b3 (enc (Vector.replicate 4 (Vector.replicate 4 (0 : UInt8)))),raw b1 (enc s133.1)]) ?_ ?_
           ·skip
            refine wp_region_lit (Zd hE rfl fun a hE=>Zd hE rfl fun a hE=>Zl hE rfl rfl rfl fun a hE=>Zd hE rfl ?_); intro a hE
            refine YP (s133.2.2 != s13.2.2.1) (fun hb150=>?_) (fun hb150=>?_)
            ·have hl148:=Zt hl148 hb150
             refine Zg hE (Zf hE rfl (lkb rfl hb150)) (by decide) rfl fun a hE=>Z1 hE (Zf hE rfl (lkb rfl hb150)) (by decide) rfl rfl (yC x145 0) fun a hE=>YY hE (lkb rfl hb150) rfl fun a hE=>Zi ?_
             obtain rfl:=Option.some.inj hl148
             refine Zj ?_
             exact ⟨hE.sub ⟨rfl,rfl,rfl,rfl,rfl,rfl,rfl,rfl,rfl,rfl,rfl,trivial⟩,hM⟩
            ·have hl148:=Zs hl148 hb150
             refine Zm hE rfl (lkb rfl hb150) rfl (by decide) fun a hE=>Zm hE rfl (lkb rfl hb150) rfl (by decide) fun a hE=>YW hE (lkb rfl hb150) rfl fun a hE=>Zi ?_
             obtain rfl:=Option.some.inj hl148
             refine Zj ?_
             exact ⟨hE.sub ⟨rfl,rfl,rfl,rfl,rfl,rfl,rfl,rfl,rfl,rfl,rfl,trivial⟩,hM⟩
           ·skip
            rintro a w ⟨hE,hM⟩
            obtain ⟨j153,hl154,hF155⟩:=bind_some hF149
            refine ZW (fun a w=>Env 153 a [(0,vI p0),(3,(ptr b1 0)),(5,(ptr b3 0)),(6,(ptr b7 0)),(7,vB r82),(8,vI s13.2.2.1),(16,vI s13.2.2.1),(98,vI s133.2.2)] ∧ M (Old w0) w0 w [raw b7 (enc j153.2),raw b3 (enc (Vector.replicate 4 (Vector.replicate 4 (0 : UInt8)))),raw b1 (enc j153.1)]) ?_ ?_
            ·skip
             refine Zq hE rfl ?_ ?_
             ·intro hb156
              have hl154:=Zt hl154 hb156
              refine Zb (Zd hE rfl fun a hE=>Ze ?_)
              obtain ⟨j157,hl158,hF159⟩:=bind_some hl154
              refine ZW (fun a w=>Env 153 a [(0,vI p0),(3,(ptr b1 0)),(5,(ptr b3 0)),(6,(ptr b7 0)),(7,vB r82),(8,vI s13.2.2.1),(16,vI s13.2.2.1),(98,vI s133.2.2)] ∧ M (Old w0) w0 w [raw b7 (enc j157.2),raw b3 (enc (Vector.replicate 4 (Vector.replicate 4 (0 : UInt8)))),raw b1 (enc j157.1)]) ?_ ?_
              ·skip
               refine wp_block ?_
               refine ZM (fun (s160 : (Vector (Vector UInt8 4) 4) × (Vector (Vector UInt8 4) 4) × Int) a w=>Env 153 a [(0,vI p0),(3,(ptr b1 0)),(5,(ptr b3 0)),(6,(ptr b7 0)),(7,vB r82),(8,vI s13.2.2.1),(12,vI s133.2.2),(13,vB x145),(16,vI s13.2.2.1),(98,vI s133.2.2),(113,vI s160.2.2)] ∧ M (Old w0) w0 w [raw b7 (enc s160.2.1),raw b3 (enc (Vector.replicate 4 (Vector.replicate 4 (0 : UInt8)))),raw b1 (enc s160.1)]) hl158 ⟨hE.sub ⟨rfl,rfl,rfl,rfl,rfl,rfl,rfl,rfl,rfl,rfl,rfl,trivial⟩,hM⟩ ?_
               rintro s160 a w ⟨hE,hM⟩ o163 hs161 hx162
               unfold XG at hs161
               refine Zb (Zl hE rfl rfl rfl fun a hE=>Ze (wp_seq ?_))
               refine Zq hE rfl ?_ ?_
               ·intro hb164
                have hs161:=Zt hs161 hb164
                refine wp_skip (Zw (wp_seq (wp_block (Zb (Zd hE rfl fun a hE=>Zc hE rfl fun a hE=>Ze ?_)))))
                obtain ⟨j165,hl166,hF167⟩:=bind_some hs161
                refine ZB (fun a w=>Env 153 a [(0,vI p0),(3,(ptr b1 0)),(5,(ptr b3 0)),(6,(ptr b7 0)),(7,vB r82),(8,vI s13.2.2.1),(12,vI s133.2.2),(13,vB x145),(14,vI s160.2.2),(16,vI s13.2.2.1),(98,vI s133.2.2),(113,vI s160.2.2)] ∧ M (Old w0) w0 w [raw b7 (enc s160.2.1),raw b3 (enc (Vector.replicate 4 (Vector.replicate 4 (0 : UInt8)))),raw b1 (enc j165)]) ?_ ?_
                ·skip
                 obtain ⟨x170,hi169,hl166⟩:=bvx hl166
                 obtain ⟨x173,hi172,hl166⟩:=bvx hl166
                 obtain ⟨x176,hi175,hl166⟩:=bvx hl166
                 obtain ⟨x179,hi178,hl166⟩:=bvx hl166
                 obtain ⟨r181,e182,hl166⟩:=bind_some hl166
                 obtain ⟨x184,hi183,hl166⟩:=bvx hl166
                 obtain ⟨x187,hi186,hl166⟩:=bvx hl166
                 refine ZP [116,117,118,119,120,121,122,123,124,125,126,127,128,129,130,131] Yr rfl rfl (by decide) rfl hE hM (qsP (fun z=>Zg z.E Za ld rfl (kr0 rfl)) (qsP (fun z=>Zg z.E Za ld rfl (kr0 rfl)) (qsP (fun z=>ZC z.E Za ld rfl rfl Try.underlying57 VA hi169.1 (kr0 rfl)) (qsP (fun z=>ZC z.E Za ld rfl rfl Try.underlying55 ty5 hi172.1 (kr0 rfl)) (qsP (fun z=>ZN (v:=(vB x173)) z.E Za ld rfl ty5 rfl (At.vec (At.vec (z.M.rawAt2) hi169.2) hi172.2) (kr0 rfl)) (qsP (fun z=>Zg z.E Za ld rfl (kr0 rfl)) (qsP (fun z=>Zg z.E Za ld rfl (kr0 rfl)) (qsP (fun z=>Zg z.E Za ld rfl (kr0 rfl)) (qsP (fun z=>Zg z.E Za ld rfl (kr0 rfl)) (qsP (fun z=>ZC z.E Za ld rfl rfl Try.underlying57 VA hi175.1 (kr0 rfl)) (qsP (fun z=>ZC z.E Za ld rfl rfl Try.underlying55 ty5 hi178.1 (kr0 rfl)) (qsP (fun z=>ZN (v:=(vB x179)) z.E Za ld rfl ty5 rfl (At.vec (At.vec (z.M.rawAt2) hi175.2) hi178.2) (kr0 rfl)) (qsP (fun z=>ZX z.E Za ld rfl Jl (YK _ p0 x145 x179 r181 e182) (kc rfl)) (qsP (v:=(vB (x173 ^^^ r181))) (fun z=>Z1 z.E Za ld rfl rfl (VK x173 r181) (kr0 rfl)) (qsP (fun z=>ZC z.E Za ld rfl rfl Try.underlying57 VA hi183.1 (kr0 rfl)) (qsP (fun z=>ZC z.E Za ld rfl rfl Try.underlying55 ty5 hi186.1 (kr0 rfl)) qs0)))))))))))))))) ?_
                 ·intro a w u hE hM
                  have hM:=hM.pull2
                  refine Zk (seg:=[(vB (x173 ^^^ r181))]) (cs':=enc (s160.1.setIfInBounds (s133.2.2).toNat (x184.setIfInBounds (s160.2.2).toNat (x173 ^^^ r181)))) hE hM Za rfl rfl rfl ty5 rfl (Vu (o':=0 + (s160.2.2).toNat * 1) hi183 (ZR (v:=x184) (x:=x173 ^^^ r181) hi186.1) (by first | omega | (simp only [Flat.n] <;> omega))) (Flat.cell (x173 ^^^ r181 : UInt8)) (WM (o':=0 + (s160.2.2).toNat * 1) hi183 (ZR (v:=x184) (x:=x173 ^^^ r181) hi186.1) (ZE (v:=x184) (x:=x173 ^^^ r181) hi186.1) (by first | omega | (simp only [Flat.n] <;> omega))) fun w a hM hE=>Zi ?_
                  obtain rfl:=Option.some.inj hl166
                  refine Zj ?_
                  have hM:=hM.pull2.pull2
                  exact ⟨hE.sub ⟨rfl,rfl,rfl,rfl,rfl,rfl,rfl,rfl,rfl,rfl,rfl,rfl,trivial⟩,hM⟩
                ·skip
                 rintro a w ⟨hE,hM⟩
                 obtain ⟨x192,hi191,hF167⟩:=bvx hF167
                 obtain ⟨x195,hi194,hF167⟩:=bvx hF167
                 obtain ⟨x198,hi197,hF167⟩:=bvx hF167
                 obtain ⟨x201,hi200,hF167⟩:=bvx hF167
                 obtain ⟨r203,e204,hF167⟩:=bind_some hF167
                 obtain ⟨x206,hi205,hF167⟩:=bvx hF167
                 obtain ⟨x209,hi208,hF167⟩:=bvx hF167
                 refine ZP [132,133,134,135,136,137,138,139,140,141,142,143,144,145,146,147] Yr rfl rfl (by decide) rfl hE hM (qsP (fun z=>Zg z.E Za ld rfl (kr0 rfl)) (qsP (fun z=>Zg z.E Za ld rfl (kr0 rfl)) (qsP (fun z=>ZC z.E Za ld rfl rfl Try.underlying57 VA hi191.1 (kr0 rfl)) (qsP (fun z=>ZC z.E Za ld rfl rfl Try.underlying55 ty5 hi194.1 (kr0 rfl)) (qsP (fun z=>ZN (v:=(vB x195)) z.E Za ld rfl ty5 rfl (At.vec (At.vec (z.M.rawAt0) hi191.2) hi194.2) (kr0 rfl)) (qsP (fun z=>Zg z.E Za ld rfl (kr0 rfl)) (qsP (fun z=>Zg z.E Za ld rfl (kr0 rfl)) (qsP (fun z=>Zg z.E Za ld rfl (kr0 rfl)) (qsP (fun z=>Zg z.E Za ld rfl (kr0 rfl)) (qsP (fun z=>ZC z.E Za ld rfl rfl Try.underlying57 VA hi197.1 (kr0 rfl)) (qsP (fun z=>ZC z.E Za ld rfl rfl Try.underlying55 ty5 hi200.1 (kr0 rfl)) (qsP (fun z=>ZN (v:=(vB x201)) z.E Za ld rfl ty5 rfl (At.vec (At.vec (z.M.rawAt0) hi197.2) hi200.2) (kr0 rfl)) (qsP (fun z=>ZX z.E Za ld rfl Jl (YK _ p0 x145 x201 r203 e204) (kc rfl)) (qsP (v:=(vB (x195 ^^^ r203))) (fun z=>Z1 z.E Za ld rfl rfl (VK x195 r203) (kr0 rfl)) (qsP (fun z=>ZC z.E Za ld rfl rfl Try.underlying57 VA hi205.1 (kr0 rfl)) (qsP (fun z=>ZC z.E Za ld rfl rfl Try.underlying55 ty5 hi208.1 (kr0 rfl)) qs0)))))))))))))))) ?_
                 ·intro a w u hE hM
                  refine Zk (seg:=[(vB (x195 ^^^ r203))]) (cs':=enc (s160.2.1.setIfInBounds (s133.2.2).toNat (x206.setIfInBounds (s160.2.2).toNat (x195 ^^^ r203)))) hE hM Za rfl rfl rfl ty5 rfl (Vu (o':=0 + (s160.2.2).toNat * 1) hi205 (ZR (v:=x206) (x:=x195 ^^^ r203) hi208.1) (by first | omega | (simp only [Flat.n] <;> omega))) (Flat.cell (x195 ^^^ r203 : UInt8)) (WM (o':=0 + (s160.2.2).toNat * 1) hi205 (ZR (v:=x206) (x:=x195 ^^^ r203) hi208.1) (ZE (v:=x206) (x:=x195 ^^^ r203) hi208.1) (by first | omega | (simp only [Flat.n] <;> omega))) fun w a hM hE=>Zi (Yv (Zw (wp_region_lit (Zl hE rfl rfl rfl fun a hE=>Zd hE rfl fun a hE=>Zi (Zj ?_)))))
                  exact ⟨_,(ois hF167),hE.sub ⟨rfl,rfl,rfl,rfl,rfl,rfl,rfl,rfl,rfl,rfl,rfl,trivial⟩,hM⟩
               ·intro hb164
                have hs161:=Zs hs161 hb164
                refine wp_exit (Zn (Zn (Yy ?_)))
                obtain rfl:=hx162 _ (ois hs161)
                refine Zj ?_
                exact ⟨hE.sub ⟨rfl,rfl,rfl,rfl,rfl,rfl,rfl,rfl,trivial⟩,hM⟩
              ·skip
               rintro a w ⟨hE,hM⟩
               obtain rfl:=Option.some.inj hF159
               refine Zj ?_
               exact ⟨hE.sub ⟨rfl,rfl,rfl,rfl,rfl,rfl,rfl,rfl,trivial⟩,hM⟩
             ·intro hb156
              have hl154:=Zs hl154 hb156
              refine wp_skip ?_
              obtain rfl:=Option.some.inj hl154
              refine Zj ?_
              exact ⟨hE.sub ⟨rfl,rfl,rfl,rfl,rfl,rfl,rfl,rfl,trivial⟩,hM⟩
            ·skip
             rintro a w ⟨hE,hM⟩
             refine Yv ?_
             obtain rfl:=Option.some.inj hF155
             refine Zj ?_
             exact ⟨hE.sub ⟨rfl,rfl,rfl,rfl,rfl,rfl,rfl,rfl,trivial⟩,hM⟩
          ·skip
           rintro a w ⟨hE,hM⟩
           refine wp_region_lit (Zl hE rfl rfl rfl fun a hE=>Zd hE rfl fun a hE=>Zi (Zj ?_))
           exact ⟨_,(ois hF140),hE.sub ⟨rfl,rfl,rfl,rfl,rfl,rfl,rfl,rfl,trivial⟩,hM⟩
         ·intro hb137
          have hs134:=Zs hs134 hb137
          refine wp_exit (Zn (Zn (Yy ?_)))
          obtain rfl:=hx135 _ (ois hs134)
          refine Zj ?_
          exact ⟨hE.sub ⟨rfl,rfl,rfl,rfl,rfl,rfl,trivial⟩,hM⟩
        ·skip
         rintro a w ⟨hE,hM⟩
         refine Yv (Zw (wp_region_lit (Zl hE rfl rfl rfl fun a hE=>Zd hE rfl fun a hE=>Zi (Zj ?_))))
         exact ⟨_,(ois hF132),hE.sub ⟨rfl,rfl,rfl,rfl,rfl,rfl,trivial⟩,hM⟩
  ·intro hb17
   have hs14:=Zs hs14 hb17
   refine wp_exit (Zn (Zn (Yy ?_)))
   obtain rfl:=hx15 _ (ois hs14)
   refine Zj ?_
   have hM:=M.fst (l:=[_,_]) hM.pull1.pull1
   exact ⟨(s13.2.1,s13.2.2.2),rfl,hE.sub ⟨rfl,rfl,rfl,trivial⟩,hM⟩
 ·skip
  rintro a w ⟨s12,ht,hE,hM⟩
  subst ht
  have hF11:=Ki hF11
  refine Zw ?_
  obtain ⟨j217,hl218,hF219⟩:=bind_some hF11
  refine ZB (fun a w=>Env 153 a [(4,vB j217.2),(5,(ptr b3 0))] ∧ M (Old w0) w0 w [raw b3 (enc j217.1)]) ?_ ?_
  ·skip
   refine ZP [151,152,4] Yr rfl rfl (by decide) rfl hE hM (qsP (fun z=>Zg z.E Za ld rfl (kr0 rfl)) (qsP (fun z=>ZA z.E Za ld rfl Tx rfl (z.M.rawAt0) (Flat.len _) (kr0 rfl)) (qsP (fun z=>VD z.E Za ld rfl (kr0 rfl)) qs0))) ?_
   ·intro a w u hE hM
    have hM:=hM.pull1
    refine Zk (seg:=enc s12.1) (cs':=enc s12.1) hE hM Za rfl rfl rfl Tx (Flat.len _) (zle flq) (Flat.cell _) (Zh flq) fun w a hM hE=>Zi ?_
    obtain rfl:=Option.some.inj hl218
    refine Zj ?_
    have hM:=M.fst (l:=[_]) hM
    exact ⟨hE.sub ⟨rfl,rfl,trivial⟩,hM⟩
  ·skip
   rintro a w ⟨hE,hM⟩
   obtain rfl:=Option.some.inj hF219
   have hq222 : Z6 Try.prog _ _ (.cell 5 57) _:=ZD hE rfl Tx rfl hM.rawAt0 (Flat.len _) rfl
   exact wp_ret (WR hE rfl (ZV hE rfl) hq222 ⟨_,rfl,rfl,hM.kept⟩)
def Xn (p0 : (Vector UInt8 256)) (s10 : (Vector UInt8 256) × Int) : Option (Fl ((Vector UInt8 256) × Int) (Vector UInt8 256)) :=
 if (decide (s10.2 < 256)) = true then ((ZI p0 s10.2).bind fun x15=>(ZI s10.1 (bI x15)).bind fun x19=>some (Fl.nx ((s10.1.setIfInBounds ((bI x15)).toNat (Zz s10.2)),wr (s10.2 + 1)))) else (some (Fl.ex s10.1))
def Wv (p0 : (Vector UInt8 256)) : Option ((Vector UInt8 256)) :=
 (ZF (Xn p0) ((Vector.replicate 256 (0 : UInt8)),0)).bind fun j7=>some j7
theorem QN (w0 : World) (p0 : (Vector UInt8 256)) (r : (Vector UInt8 256)) (hF : Wv p0 = some r) :
  Calls Try.prog 146 [(Value.agg (enc p0).toArray)].toArray w0 (Rt w0 (Value.agg (enc r).toArray)):=by
 refine ce Try.func146 ?_
 intro a hE
 have hM:=M.start w0
 unfold Wv at hF
 refine Zb (Z7 (cs:=enc p0) hE hM Za ld rfl rfl fun b1 w a hM hE=>Zv hE hM VL fun b3 w a hM hE=>Ze (Zb (Yx (parts:=[]) (vs:=[]) (cs:=enc (Vector.replicate 256 (0 : UInt8))) hE Za ld rfl rfl VL rfl ty5 Yk fun a hE=>Zv hE hM VL fun b5 w a hM hE=>Zk (seg:=enc (Vector.replicate 256 (0 : UInt8))) (cs':=enc (Vector.replicate 256 (0 : UInt8))) hE hM Za rfl rfl rfl VL (Flat.len _) (zle flq) (Flat.cell _) (Zh flq) fun w a hM hE=>Ze (wp_seq (Zb (Zp hE rfl VL rfl hM.rawAt2 (Flat.len _) fun a hE=>Zd hE rfl fun a hE=>Ze ?_))))))
 obtain ⟨j7,hl8,hF9⟩:=bind_some hF
 refine ZW (fun a w=>Env 18 a [(2,(ptr b3 0)),(3,(ptr b5 0))] ∧ M (Old w0) w0 w [raw b5 (enc j7),raw b3 (enc (Vector.replicate 256 (0 : UInt8)))]) ?_ ?_
 ·skip
  refine wp_block ?_
  have hM:=M.fst (l:=[_,_]) hM.pull1.pull1
  refine ZM (fun (s10 : (Vector UInt8 256) × Int) a w=>Env 18 a [(2,(ptr b3 0)),(3,(ptr b5 0)),(7,(Value.agg (enc p0).toArray)),(8,vI s10.2)] ∧ M (Old w0) w0 w [raw b5 (enc s10.1),raw b3 (enc (Vector.replicate 256 (0 : UInt8)))]) hl8 ⟨hE.sub ⟨rfl,rfl,rfl,rfl,trivial⟩,hM⟩ ?_
  rintro s10 a w ⟨hE,hM⟩ o13 hs11 hx12
  unfold Xn at hs11
  refine Zb (Zl hE rfl rfl rfl fun a hE=>Ze (wp_seq ?_))
  refine Zq hE rfl ?_ ?_
  ·intro hb14
   have hs11:=Zt hs11 hb14
   refine wp_skip (Zw (wp_seq (wp_block (Zb (Zd hE rfl ?_))))); intro a hE
   obtain ⟨x15,hi17,hs11⟩:=bvx hs11
   refine To hE Za ld rfl rfl Try.underlying54 ty5 rfl rfl hi17 rfl fun a hE=>Zc hE rfl fun a hE=>Zc hE rfl fun a hE=>Ze (wp_region_lit (Zd hE rfl fun a hE=>Zd hE rfl fun a hE=>Xc hE Za ld rfl Try.underlying3 Try.underlying5 ?_)); intro a hE
   obtain ⟨x19,hi18,hs11⟩:=bvx hs11
   refine ZH hE rfl rfl Try.underlying54 ty5 hi18.1 fun a hE=>Zk (seg:=[(vB (Zz s10.2))]) (cs':=enc (s10.1.setIfInBounds ((bI x15)).toNat (Zz s10.2))) hE hM Za rfl rfl rfl ty5 rfl (ZR (v:=s10.1) (x:=Zz s10.2) hi18.1) (Flat.cell (Zz s10.2 : UInt8)) (ZE (v:=s10.1) (x:=Zz s10.2) hi18.1) fun w a hM hE=>Zi (Yv (Zw (wp_region_lit (Zl hE rfl rfl rfl fun a hE=>Zd hE rfl fun a hE=>Zi (Zj ?_)))))
   exact ⟨_,(ois hs11),hE.sub ⟨rfl,rfl,rfl,rfl,trivial⟩,hM⟩
  ·intro hb14
   have hs11:=Zs hs11 hb14
   refine wp_exit (Zn (Zn (Yy ?_)))
   obtain rfl:=hx12 _ (ois hs11)
   refine Zj ?_
   exact ⟨hE.sub ⟨rfl,rfl,trivial⟩,hM⟩
 ·skip
  rintro a w ⟨hE,hM⟩
  refine Zw (Zb (Zp hE rfl VL rfl hM.rawAt0 (Flat.len _) ?_)); intro a hE
  have hM:=hM.pull1
  refine Zk (seg:=enc j7) (cs':=enc j7) hE hM Za rfl rfl rfl VL (Flat.len _) (zle flq) (Flat.cell _) (Zh flq) fun w a hM hE=>Ze ?_
  obtain rfl:=Option.some.inj hF9
  have hq22 : Z6 Try.prog _ _ (.cell 2 54) _:=ZD hE rfl VL rfl hM.rawAt0 (Flat.len _) rfl
  exact wp_ret (ZU hE rfl hq22 ⟨_,rfl,rfl,hM.kept⟩)
def YT (p0 : (Vector UInt8 16)) (s10 : (Vector UInt8 16) × Int) : Option (Fl ((Vector UInt8 16) × Int) (Vector UInt8 16)) :=
 if (decide (s10.2 < 16)) = true then ((ZI p0 s10.2).bind fun x15=>(ZI s10.1 (bI x15)).bind fun x19=>some (Fl.nx ((s10.1.setIfInBounds ((bI x15)).toNat (Zz s10.2)),wr (s10.2 + 1)))) else (some (Fl.ex s10.1))
def Xu (p0 : (Vector UInt8 16)) : Option ((Vector UInt8 16)) :=
 (ZF (YT p0) ((Vector.replicate 16 (0 : UInt8)),0)).bind fun j7=>some j7
theorem T9 (w0 : World) (p0 : (Vector UInt8 16)) (r : (Vector UInt8 16)) (hF : Xu p0 = some r) :
  Calls Try.prog 147 [(Value.agg (enc p0).toArray)].toArray w0 (Rt w0 (Value.agg (enc r).toArray)):=by
 refine ce Try.func147 ?_
 intro a hE
 have hM:=M.start w0
 unfold Xu at hF
 refine Zb (Z7 (cs:=enc p0) hE hM Za ld rfl rfl fun b1 w a hM hE=>Zv hE hM QA fun b3 w a hM hE=>Ze (Zb (Yx (parts:=[]) (vs:=[]) (cs:=enc (Vector.replicate 16 (0 : UInt8))) hE Za ld rfl rfl QA rfl ty5 Yk fun a hE=>Zv hE hM QA fun b5 w a hM hE=>Zk (seg:=enc (Vector.replicate 16 (0 : UInt8))) (cs':=enc (Vector.replicate 16 (0 : UInt8))) hE hM Za rfl rfl rfl QA (Flat.len _) (zle flq) (Flat.cell _) (Zh flq) fun w a hM hE=>Ze (wp_seq (Zb (Zp hE rfl QA rfl hM.rawAt2 (Flat.len _) fun a hE=>Zd hE rfl fun a hE=>Ze ?_))))))
 obtain ⟨j7,hl8,hF9⟩:=bind_some hF
 refine ZW (fun a w=>Env 18 a [(2,(ptr b3 0)),(3,(ptr b5 0))] ∧ M (Old w0) w0 w [raw b5 (enc j7),raw b3 (enc (Vector.replicate 16 (0 : UInt8)))]) ?_ ?_
 ·skip
  refine wp_block ?_
  have hM:=M.fst (l:=[_,_]) hM.pull1.pull1
  refine ZM (fun (s10 : (Vector UInt8 16) × Int) a w=>Env 18 a [(2,(ptr b3 0)),(3,(ptr b5 0)),(7,(Value.agg (enc p0).toArray)),(8,vI s10.2)] ∧ M (Old w0) w0 w [raw b5 (enc s10.1),raw b3 (enc (Vector.replicate 16 (0 : UInt8)))]) hl8 ⟨hE.sub ⟨rfl,rfl,rfl,rfl,trivial⟩,hM⟩ ?_
  rintro s10 a w ⟨hE,hM⟩ o13 hs11 hx12
  unfold YT at hs11
  refine Zb (Zl hE rfl rfl rfl fun a hE=>Ze (wp_seq ?_))
  refine Zq hE rfl ?_ ?_
  ·intro hb14
   have hs11:=Zt hs11 hb14
   refine wp_skip (Zw (wp_seq (wp_block (Zb (Zd hE rfl ?_))))); intro a hE
   obtain ⟨x15,hi17,hs11⟩:=bvx hs11
   refine To hE Za ld rfl rfl Try.underlying59 ty5 rfl rfl hi17 rfl fun a hE=>Zc hE rfl fun a hE=>Zc hE rfl fun a hE=>Ze (wp_region_lit (Zd hE rfl fun a hE=>Zd hE rfl fun a hE=>Xc hE Za ld rfl Try.underlying3 Try.underlying5 ?_)); intro a hE
   obtain ⟨x19,hi18,hs11⟩:=bvx hs11
   refine ZH hE rfl rfl Try.underlying59 ty5 hi18.1 fun a hE=>Zk (seg:=[(vB (Zz s10.2))]) (cs':=enc (s10.1.setIfInBounds ((bI x15)).toNat (Zz s10.2))) hE hM Za rfl rfl rfl ty5 rfl (ZR (v:=s10.1) (x:=Zz s10.2) hi18.1) (Flat.cell (Zz s10.2 : UInt8)) (ZE (v:=s10.1) (x:=Zz s10.2) hi18.1) fun w a hM hE=>Zi (Yv (Zw (wp_region_lit (Zl hE rfl rfl rfl fun a hE=>Zd hE rfl fun a hE=>Zi (Zj ?_)))))
   exact ⟨_,(ois hs11),hE.sub ⟨rfl,rfl,rfl,rfl,trivial⟩,hM⟩
  ·intro hb14
   have hs11:=Zs hs11 hb14
   refine wp_exit (Zn (Zn (Yy ?_)))
   obtain rfl:=hx12 _ (ois hs11)
   refine Zj ?_
   exact ⟨hE.sub ⟨rfl,rfl,trivial⟩,hM⟩
 ·skip
  rintro a w ⟨hE,hM⟩
  refine Zw (Zb (Zp hE rfl QA rfl hM.rawAt0 (Flat.len _) ?_)); intro a hE
  have hM:=hM.pull1
  refine Zk (seg:=enc j7) (cs':=enc j7) hE hM Za rfl rfl rfl QA (Flat.len _) (zle flq) (Flat.cell _) (Zh flq) fun w a hM hE=>Ze ?_
  obtain rfl:=Option.some.inj hF9
  have hq22 : Z6 Try.prog _ _ (.cell 2 59) _:=ZD hE rfl QA rfl hM.rawAt0 (Flat.len _) rfl
  exact wp_ret (ZU hE rfl hq22 ⟨_,rfl,rfl,hM.kept⟩)
def X8 (s8 : (Vector (Vector (Vector UInt8 256) 4) 4) × Int) (s19 : (Vector (Vector (Vector UInt8 256) 4) 4) × Int) (s30 : (Vector (Vector (Vector UInt8 256) 4) 4) × Int) (r35 : UInt8) (s40 : (Vector (Vector (Vector UInt8 256) 4) 4) × Int) : Option (Fl ((Vector (Vector (Vector UInt8 256) 4) 4) × Int) (Vector (Vector (Vector UInt8 256) 4) 4)) :=
 if (decide (s40.2 < s30.2)) = true then ((ZI s40.1 s8.2).bind fun x47=>(ZI x47 s19.2).bind fun x50=>(ZI x50 s40.2).bind fun x53=>(ZI s40.1 s8.2).bind fun x56=>(ZI x56 s19.2).bind fun x59=>(ZI x59 (orI s30.2 s40.2)).bind fun x62=>some (Fl.nx ((s40.1.setIfInBounds (s8.2).toNat (x56.setIfInBounds (s19.2).toNat (x59.setIfInBounds ((orI s30.2 s40.2)).toNat (r35 ^^^ x53)))),wr (s40.2 + 1)))) else (some (Fl.ex s40.1))
def X6 (p0 : Int) (s8 : (Vector (Vector (Vector UInt8 256) 4) 4) × Int) (s19 : (Vector (Vector (Vector UInt8 256) 4) 4) × Int) (x24 : UInt8) (s30 : (Vector (Vector (Vector UInt8 256) 4) 4) × Int) : Option (Fl ((Vector (Vector (Vector UInt8 256) 4) 4) × Int) (Vector (Vector (Vector UInt8 256) 4) 4)) :=
 if (decide (s30.2 < 256)) = true then ((Z8 p0 x24 (Zz s30.2)).bind fun r35=>(ZF (X8 s8 s19 s30 r35) (s30.1,0)).bind fun j37=>some (Fl.nx (j37,wr (s30.2 * 2)))) else (some (Fl.ex s30.1))
def Wc (p0 : Int) (s8 : (Vector (Vector (Vector UInt8 256) 4) 4) × Int) (x14 : (Vector UInt8 4)) (s19 : (Vector (Vector (Vector UInt8 256) 4) 4) × Int) : Option (Fl ((Vector (Vector (Vector UInt8 256) 4) 4) × Int) (Vector (Vector (Vector UInt8 256) 4) 4)) :=
 if (decide (s19.2 < 4)) = true then ((ZI x14 s19.2).bind fun x24=>(ZF (X6 p0 s8 s19 x24) (s19.1,1)).bind fun j27=>some (Fl.nx (j27,wr (s19.2 + 1)))) else (some (Fl.ex s19.1))
def Wb (p0 : Int) (p1 : (Vector (Vector UInt8 4) 4)) (s8 : (Vector (Vector (Vector UInt8 256) 4) 4) × Int) : Option (Fl ((Vector (Vector (Vector UInt8 256) 4) 4) × Int) (Vector (Vector (Vector UInt8 256) 4) 4)) :=
 if (decide (s8.2 < 4)) = true then ((ZI p1 s8.2).bind fun x14=>(ZF (Wc p0 s8 x14) (s8.1,0)).bind fun j16=>some (Fl.nx (j16,wr (s8.2 + 1)))) else (some (Fl.ex s8.1))
def WB (p0 : Int) (p1 : (Vector (Vector UInt8 4) 4)) : Option ((Ref (Vector (Vector (Vector UInt8 256) 4) 4))) :=
 (ZF (Wb p0 p1) ((Vector.replicate 4 (Vector.replicate 4 (Vector.replicate 256 (0 : UInt8)))),0)).bind fun j5=>some (⟨j5⟩ : (Ref (Vector (Vector (Vector UInt8 256) 4) 4)))
theorem T5 (w0 : World) (p0 : Int) (p1 : (Vector (Vector UInt8 4) 4)) (r : (Ref (Vector (Vector (Vector UInt8 256) 4) 4))) (hF : WB p0 p1 = some r) :
  Calls Try.prog 148 [vI p0,(Value.agg (enc p1).toArray)].toArray w0 (fun en w'=>∃ v,en = .returned v ∧ (∃ (y1 : Value),v = y1 ∧ Fr w0 w' [own NoB (r : (Ref (Vector (Vector (Vector UInt8 256) 4) 4))) [y1]] ∧ Kept (Old w0) w0 w')):=by
 refine ce Try.func148 ?_
 intro a hE
 have hM:=M.start w0
 unfold WB at hF
 refine Zb (Z7 (cs:=enc p1) hE hM Za ld rfl rfl fun b1 w a hM hE=>Zc hE rfl fun a hE=>Ze (Zb (Yx (parts:=[]) (vs:=[]) (cs:=enc (Vector.replicate 4 (Vector.replicate 4 (Vector.replicate 256 (0 : UInt8))))) hE Za ld rfl rfl ty231 rfl J1 Yk fun a hE=>Z7 (cs:=enc (Vector.replicate 4 (Vector.replicate 4 (Vector.replicate 256 (0 : UInt8))))) hE hM Za ld rfl rfl fun b3 w a hM hE=>Zc hE rfl fun a hE=>Ze (wp_seq (Zb (Zd hE rfl fun a hE=>Ze ?_))))))
 obtain ⟨j5,hl6,hF7⟩:=bind_some hF
 refine ZW (fun a w=>Env 62 a [(5,(ptr b3 0))] ∧ M (Old w0) w0 w [raw b3 (enc j5)]) ?_ ?_
 ·skip
  refine wp_block ?_
  refine ZM (fun (s8 : (Vector (Vector (Vector UInt8 256) 4) 4) × Int) a w=>Env 62 a [(0,vI p0),(3,(ptr b1 0)),(5,(ptr b3 0)),(14,vI s8.2)] ∧ M (Old w0) w0 w [raw b3 (enc s8.1),raw b1 (enc p1)]) hl6 ⟨hE.sub ⟨rfl,rfl,rfl,rfl,trivial⟩,hM⟩ ?_
  rintro s8 a w ⟨hE,hM⟩ o11 hs9 hx10
  unfold Wb at hs9
  refine Zb (Zl hE rfl rfl rfl fun a hE=>Ze (wp_seq ?_))
  refine Zq hE rfl ?_ ?_
  ·intro hb12
   have hs9:=Zt hs9 hb12
   refine wp_skip (Zw (wp_seq (wp_block (Zb (Zd hE rfl fun a hE=>Zc hE rfl fun a hE=>Ze (Zb (Zd hE rfl ?_))))))); intro a hE
   obtain ⟨x14,hi13,hs9⟩:=bvx hs9
   refine ZH hE rfl rfl Try.underlying57 VA hi13.1 fun a hE=>Zp hE rfl VA rfl (At.vec hM.rawAt1 hi13.2) (Flat.len _) fun a hE=>Zd hE rfl fun a hE=>Ze ?_
   obtain ⟨j16,hl17,hF18⟩:=bind_some hs9
   refine ZW (fun a w=>Env 62 a [(0,vI p0),(3,(ptr b1 0)),(5,(ptr b3 0)),(14,vI s8.2)] ∧ M (Old w0) w0 w [raw b3 (enc j16),raw b1 (enc p1)]) ?_ ?_
   ·skip
    refine wp_block ?_
    refine ZM (fun (s19 : (Vector (Vector (Vector UInt8 256) 4) 4) × Int) a w=>Env 62 a [(0,vI p0),(3,(ptr b1 0)),(5,(ptr b3 0)),(6,vI s8.2),(14,vI s8.2),(19,(Value.agg (enc x14).toArray)),(20,vI s19.2)] ∧ M (Old w0) w0 w [raw b3 (enc s19.1),raw b1 (enc p1)]) hl17 ⟨hE.sub ⟨rfl,rfl,rfl,rfl,rfl,rfl,rfl,trivial⟩,hM⟩ ?_
    rintro s19 a w ⟨hE,hM⟩ o22 hs20 hx21
    unfold Wc at hs20
    refine Zb (Zl hE rfl rfl rfl fun a hE=>Ze (wp_seq ?_))
    refine Zq hE rfl ?_ ?_
    ·intro hb23
     have hs20:=Zt hs20 hb23
     refine wp_skip (Zw (wp_seq (wp_block (Zb (Zd hE rfl ?_))))); intro a hE
     obtain ⟨x24,hi26,hs20⟩:=bvx hs20
     refine To hE Za ld rfl rfl Try.underlying55 ty5 rfl rfl hi26 rfl fun a hE=>Zc hE rfl fun a hE=>Zc hE rfl fun a hE=>Ze (Zb (Zc hE rfl fun a hE=>Ze ?_))
     obtain ⟨j27,hl28,hF29⟩:=bind_some hs20
     refine ZW (fun a w=>Env 62 a [(0,vI p0),(3,(ptr b1 0)),(5,(ptr b3 0)),(6,vI s8.2),(14,vI s8.2),(19,(Value.agg (enc x14).toArray)),(20,vI s19.2)] ∧ M (Old w0) w0 w [raw b3 (enc j27),raw b1 (enc p1)]) ?_ ?_
     ·skip
      refine wp_block ?_
      refine ZM (fun (s30 : (Vector (Vector (Vector UInt8 256) 4) 4) × Int) a w=>Env 62 a [(0,vI p0),(3,(ptr b1 0)),(5,(ptr b3 0)),(6,vI s8.2),(7,vI s19.2),(8,vB x24),(9,vI s30.2),(14,vI s8.2),(19,(Value.agg (enc x14).toArray)),(20,vI s19.2)] ∧ M (Old w0) w0 w [raw b3 (enc s30.1),raw b1 (enc p1)]) hl28 ⟨hE.sub ⟨rfl,rfl,rfl,rfl,rfl,rfl,rfl,rfl,rfl,rfl,trivial⟩,hM⟩ ?_
      rintro s30 a w ⟨hE,hM⟩ o33 hs31 hx32
      unfold X6 at hs31
      refine wp_seq (Zb (Zd hE rfl fun a hE=>Zl hE rfl rfl rfl fun a hE=>Ze ?_))
      refine Zq hE rfl ?_ ?_
      ·intro hb34
       have hs31:=Zt hs31 hb34
       refine wp_skip (Zw (wp_seq (wp_block (Zb (Zd hE rfl fun a hE=>Zd hE rfl fun a hE=>Zd hE rfl fun a hE=>Xc hE Za ld rfl Try.underlying3 Try.underlying5 ?_))))); intro a hE
       obtain ⟨r35,e36,hs31⟩:=bind_some hs31
       refine Zy hE rfl Jl (YK _ p0 x24 (Zz s30.2) r35 e36) ?_
       rintro v w a ⟨rfl,hK⟩ hE
       have hM:=hM.keep hK
       refine Zc hE rfl fun a hE=>Ze (Zb (Zd hE rfl fun a hE=>Zd hE rfl fun a hE=>Ze ?_))
       obtain ⟨j37,hl38,hF39⟩:=bind_some hs31
       refine ZW (fun a w=>Env 62 a [(0,vI p0),(3,(ptr b1 0)),(5,(ptr b3 0)),(6,vI s8.2),(7,vI s19.2),(8,vB x24),(9,vI s30.2),(14,vI s8.2),(19,(Value.agg (enc x14).toArray)),(20,vI s19.2)] ∧ M (Old w0) w0 w [raw b3 (enc j37),raw b1 (enc p1)]) ?_ ?_
       ·skip
        refine wp_block ?_
        refine ZM (fun (s40 : (Vector (Vector (Vector UInt8 256) 4) 4) × Int) a w=>Env 62 a [(0,vI p0),(3,(ptr b1 0)),(5,(ptr b3 0)),(6,vI s8.2),(7,vI s19.2),(8,vB x24),(9,vI s30.2),(10,vB r35),(14,vI s8.2),(19,(Value.agg (enc x14).toArray)),(20,vI s19.2),(33,vI s30.2),(34,vI s40.2)] ∧ M (Old w0) w0 w [raw b3 (enc s40.1),raw b1 (enc p1)]) hl38 ⟨hE.sub ⟨rfl,rfl,rfl,rfl,rfl,rfl,rfl,rfl,rfl,rfl,rfl,rfl,rfl,trivial⟩,hM⟩ ?_
        rintro s40 a w ⟨hE,hM⟩ o43 hs41 hx42
        unfold X8 at hs41
        refine Zb (Zl hE rfl rfl rfl fun a hE=>Ze (wp_seq ?_))
        refine Zq hE rfl ?_ ?_
        ·intro hb44
         have hs41:=Zt hs41 hb44
         refine wp_skip (Zw (wp_seq (wp_block (Zb (Zd hE rfl fun a hE=>Zc hE rfl fun a hE=>Ze ?_)))))
         obtain ⟨x47,hi46,hs41⟩:=bvx hs41
         obtain ⟨x50,hi49,hs41⟩:=bvx hs41
         obtain ⟨x53,hi52,hs41⟩:=bvx hs41
         obtain ⟨x56,hi55,hs41⟩:=bvx hs41
         obtain ⟨x59,hi58,hs41⟩:=bvx hs41
         obtain ⟨x62,hi61,hs41⟩:=bvx hs41
         refine ZP [37,38,39,40,41,42,43,44,45,46,47,48,49,50,51,52,53,54,55,56,57] Yr rfl rfl (by decide) rfl hE hM (qsP (fun z=>Zg z.E Za ld rfl (kr0 rfl)) (qsP (fun z=>Zg z.E Za ld rfl (kr0 rfl)) (qsP (fun z=>Zg z.E Za ld rfl (kr0 rfl)) (qsP (fun z=>Zg z.E Za ld rfl (kr0 rfl)) (qsP (fun z=>Zg z.E Za ld rfl (kr0 rfl)) (qsP (v:=(vI (orI s30.2 s40.2))) (fun z=>Z1 z.E Za ld rfl rfl rfl (kr0 rfl)) (qsP (fun z=>Zg z.E Za ld rfl (kr0 rfl)) (qsP (fun z=>Zg z.E Za ld rfl (kr0 rfl)) (qsP (fun z=>Zg z.E Za ld rfl (kr0 rfl)) (qsP (fun z=>Zg z.E Za ld rfl (kr0 rfl)) (qsP (fun z=>Zg z.E Za ld rfl (kr0 rfl)) (qsP (fun z=>Yh z.E Za ld rfl (kr0 rfl)) (qsP (fun z=>ZC z.E Za ld rfl rfl Try.underlying231 J1 hi46.1 (kr0 rfl)) (qsP (fun z=>ZC z.E Za ld rfl rfl Try.underlying229 ty53 hi49.1 (kr0 rfl)) (qsP (fun z=>ZC z.E Za ld rfl rfl Try.underlying53 ty5 hi52.1 (kr0 rfl)) (qsP (fun z=>ZN (v:=(vB x53)) z.E Za ld rfl ty5 rfl (At.vec (At.vec (At.vec (z.M.rawAt0) hi46.2) hi49.2) hi52.2) (kr0 rfl)) (qsP (v:=(vB (r35 ^^^ x53))) (fun z=>Z1 z.E Za ld rfl rfl (VK r35 x53) (kr0 rfl)) (qsP (fun z=>Yh z.E Za ld rfl (kr0 rfl)) (qsP (fun z=>ZC z.E Za ld rfl rfl Try.underlying231 J1 hi55.1 (kr0 rfl)) (qsP (fun z=>ZC z.E Za ld rfl rfl Try.underlying229 ty53 hi58.1 (kr0 rfl)) (qsP (fun z=>ZC z.E Za ld rfl rfl Try.underlying53 ty5 hi61.1 (kr0 rfl)) qs0))))))))))))))))))))) ?_
         ·intro a w u hE hM
          refine Zk (seg:=[(vB (r35 ^^^ x53))]) (cs':=enc (s40.1.setIfInBounds (s8.2).toNat (x56.setIfInBounds (s19.2).toNat (x59.setIfInBounds ((orI s30.2 s40.2)).toNat (r35 ^^^ x53))))) hE hM Za rfl rfl rfl ty5 rfl (Vu (o':=(s19.2).toNat * 256 + (0 + ((orI s30.2 s40.2)).toNat * 1)) hi55 (Vu (o':=0 + ((orI s30.2 s40.2)).toNat * 1) hi58 (ZR (v:=x59) (x:=r35 ^^^ x53) hi61.1) (by first | omega | (simp only [Flat.n] <;> omega))) (by first | omega | (simp only [Flat.n] <;> omega))) (Flat.cell (r35 ^^^ x53 : UInt8)) (WM (o':=(s19.2).toNat * 256 + (0 + ((orI s30.2 s40.2)).toNat * 1)) hi55 (Vu (o':=0 + ((orI s30.2 s40.2)).toNat * 1) hi58 (ZR (v:=x59) (x:=r35 ^^^ x53) hi61.1) (by first | omega | (simp only [Flat.n] <;> omega))) (WM (o':=0 + ((orI s30.2 s40.2)).toNat * 1) hi58 (ZR (v:=x59) (x:=r35 ^^^ x53) hi61.1) (ZE (v:=x59) (x:=r35 ^^^ x53) hi61.1) (by first | omega | (simp only [Flat.n] <;> omega))) (by first | omega | (simp only [Flat.n] <;> omega))) fun w a hM hE=>Zi (Yv (Zw (wp_region_lit (Zl hE rfl rfl rfl fun a hE=>Zd hE rfl fun a hE=>Zi (Zj ?_)))))
          exact ⟨_,(ois hs41),hE.sub ⟨rfl,rfl,rfl,rfl,rfl,rfl,rfl,rfl,rfl,rfl,rfl,rfl,rfl,trivial⟩,hM⟩
        ·intro hb44
         have hs41:=Zs hs41 hb44
         refine wp_exit (Zn (Zn (Yy ?_)))
         obtain rfl:=hx42 _ (ois hs41)
         refine Zj ?_
         exact ⟨hE.sub ⟨rfl,rfl,rfl,rfl,rfl,rfl,rfl,rfl,rfl,rfl,trivial⟩,hM⟩
       ·skip
        rintro a w ⟨hE,hM⟩
        refine Yv (Zw (wp_region_lit (Zd hE rfl fun a hE=>Zl hE rfl rfl rfl fun a hE=>Zc hE rfl fun a hE=>Zi (Zj ?_))))
        exact ⟨_,(ois hF39),hE.sub ⟨rfl,rfl,rfl,rfl,rfl,rfl,rfl,rfl,rfl,rfl,trivial⟩,hM⟩
      ·intro hb34
       have hs31:=Zs hs31 hb34
       refine wp_exit (Zn (Zn (Yy ?_)))
       obtain rfl:=hx32 _ (ois hs31)
       refine Zj ?_
       exact ⟨hE.sub ⟨rfl,rfl,rfl,rfl,rfl,rfl,rfl,trivial⟩,hM⟩
     ·skip
      rintro a w ⟨hE,hM⟩
      refine Yv (Zw (wp_region_lit (Zl hE rfl rfl rfl fun a hE=>Zd hE rfl fun a hE=>Zi (Zj ?_))))
      exact ⟨_,(ois hF29),hE.sub ⟨rfl,rfl,rfl,rfl,rfl,rfl,rfl,trivial⟩,hM⟩
    ·intro hb23
     have hs20:=Zs hs20 hb23
     refine wp_exit (Zn (Zn (Yy ?_)))
     obtain rfl:=hx21 _ (ois hs20)
     refine Zj ?_
     exact ⟨hE.sub ⟨rfl,rfl,rfl,rfl,trivial⟩,hM⟩
   ·skip
    rintro a w ⟨hE,hM⟩
    refine Yv (Zw (wp_region_lit (Zl hE rfl rfl rfl fun a hE=>Zd hE rfl fun a hE=>Zi (Zj ?_))))
    exact ⟨_,(ois hF18),hE.sub ⟨rfl,rfl,rfl,rfl,trivial⟩,hM⟩
  ·intro hb12
   have hs9:=Zs hs9 hb12
   refine wp_exit (Zn (Zn (Yy ?_)))
   obtain rfl:=hx10 _ (ois hs9)
   refine Zj ?_
   have hM:=M.fst (l:=[_]) hM
   exact ⟨hE.sub ⟨rfl,trivial⟩,hM⟩
 ·skip
  rintro a w ⟨hE,hM⟩
  refine Zw (Zb (Zd hE rfl fun a hE=>Zc hE rfl fun a hE=>Ze ?_))
  have hM:=M.toRefF (x:=j5) hM
  obtain rfl:=Option.some.inj hF7
  exact wp_ret (ZU hE rfl (ZV hE rfl) ⟨_,rfl,(ptr b3 0),rfl,hM.outF (zp Wy),hM.kept⟩)
def Vi (p0 : GCipher) : Option ((Ref Gengine)) :=
 (Xh p0.Field p0.Mix).bind fun r3=>(Wv p0.Box).bind fun r8=>(Xu p0.Places).bind fun r10=>(WB p0.Field p0.Mix).bind fun r12=>(WB p0.Field r3.2).bind fun r15=>some (⟨(⟨p0.Box,r8,p0.Places,r10,r12,r15,p0.Rounds⟩ : Gengine)⟩ : (Ref Gengine))
theorem K3 (w0 : World) (p0 : GCipher) (r : (Ref Gengine)) (hF : Vi p0 = some r) :
  Calls Try.prog 87 [(Value.agg (enc p0).toArray)].toArray w0 (fun en w'=>∃ v,en = .returned v ∧ (∃ (y1 : Value),v = y1 ∧ Fr w0 w' [own NoB (r : (Ref Gengine)) [y1]] ∧ Kept (Old w0) w0 w')):=by
 refine ce Try.func87 ?_
 intro a hE
 have hM:=M.start w0
 unfold Vi at hF
 refine Zb (Z7 (cs:=cat [[vI p0.Field],enc p0.Box,enc p0.Mix,enc p0.Places,[vI p0.Rounds]]) hE hM Za ld rfl rfl fun b1 w a hM hE=>Zc hE rfl fun a hE=>Ze (Zb (ZJ hE rfl (BW) fun a hE=>ZQ (v:=(vI p0.Field)) hE rfl ty2 rfl (At.cat (pre:=[]) hM.rawAt0 cl0) fun a hE=>ZJ hE rfl (J9) fun a hE=>Zp hE rfl Tx rfl (At.cat (pre:=[[vI p0.Field],enc p0.Box]) hM.rawAt0 ck) (Flat.len _) ?_))); intro a hE
 obtain ⟨r3,e4,hF⟩:=bind_some hF
 refine Zy hE rfl (cbm Try.func145) (QB _ p0.Field p0.Mix r3 e4) ?_
 rintro v w a ⟨rfl,hK⟩ hE
 have hM:=hM.keep hK
 refine Zd hE rfl fun a hE=>ZZ hE Za ld rfl rfl fun a hE=>ZZ hE Za ld rfl rfl fun a hE=>Zv hE hM Tx fun b5 w a hM hE=>Zc hE rfl fun a hE=>Zk (seg:=enc r3.2) (cs':=enc r3.2) hE hM Za rfl rfl rfl Tx (Flat.len _) (zle flq) (Flat.cell _) (Zh flq) fun w a hM hE=>Ze (wp_seq ?_)
 obtain ⟨r8,e9,hF⟩:=bind_some hF
 obtain ⟨r10,e11,hF⟩:=bind_some hF
 obtain ⟨r12,e13,hF⟩:=bind_some hF
 obtain ⟨r15,e16,hF⟩:=bind_some hF
 refine YV (its:=[raw b5 (enc r3.2),raw b1 (cat [[vI p0.Field],enc p0.Box,enc p0.Mix,enc p0.Places,[vI p0.Rounds]])]) (mk:=([mkO 14 (fun v=>own NoB (r12 : (Ref (Vector (Vector (Vector UInt8 256) 4) 4))) [v]),mkO 18 (fun v=>own NoB (r15 : (Ref (Vector (Vector (Vector UInt8 256) 4) 4))) [v])] : Mk)) [13,14,15,16,17,18,19,20,21,22,23,24,25,26,27,28,29,30,31,32,33] Yr rfl rfl (by decide) rfl hE (fun u=>M.qE (M.qE (M.q0 hM.drew u) emO) emO) (qsP (fun z=>Zo z.E Za ld rfl (K4) (kr0 rfl)) (qsP (v:=(Value.agg (enc p0.Box).toArray)) ?_ (qsP (fun z=>Zo z.E Za ld rfl (K4) (kr0 rfl)) (qsP (v:=(Value.agg (enc p0.Box).toArray)) ?_ (qsP (fun z=>ZX z.E Za ld rfl (cbm Try.func146) (QN _ p0.Box r8 e9) (kc rfl)) (qsP (fun z=>Zo z.E Za ld rfl (Hc) (kr0 rfl)) (qsP (v:=(Value.agg (enc p0.Places).toArray)) ?_ (qsP (fun z=>Zo z.E Za ld rfl (Hc) (kr0 rfl)) (qsP (v:=(Value.agg (enc p0.Places).toArray)) ?_ (qsP (fun z=>ZX z.E Za ld rfl (cbm Try.func147) (T9 _ p0.Places r10 e11) (kc rfl)) (qsP (fun z=>Zo z.E Za ld rfl (BW) (kr0 rfl)) (qsP (v:=(vI p0.Field)) ?_ (qsP (fun z=>Zo z.E Za ld rfl (J9) (kr0 rfl)) (qsP (v:=(Value.agg (enc p0.Mix).toArray)) ?_ (qsM (pr:=fun v=>True) ?_ (qsP (fun z=>Zo z.E Za ld rfl (BW) (kr0 rfl)) (qsP (v:=(vI p0.Field)) ?_ (qsP (v:=(Value.agg (enc r3.2).toArray)) ?_ (qsM (pr:=fun v=>True) ?_ (qsP (fun z=>Zo z.E Za ld rfl (AZ) (kr0 rfl)) (qsP (v:=(vI p0.Rounds)) ?_ qs0))))))))))))))))))))) ?_
 ·intro a w ux7 D z
  have hE:=z.E
  have hM:=z.M
  exact Zp hE rfl VL rfl (At.cat (pre:=[[vI p0.Field]]) hM.rawAt1 ck) (Flat.len _) fun a hE=>⟨Kept.refl _ _,_,rfl,hE⟩
 ·intro a w ux7 D z
  have hE:=z.E
  have hM:=z.M
  exact Zp hE rfl VL rfl (At.cat (pre:=[[vI p0.Field]]) hM.rawAt1 ck) (Flat.len _) fun a hE=>⟨Kept.refl _ _,_,rfl,hE⟩
 ·intro a w ux7 D z
  have hE:=z.E
  have hM:=z.M
  exact Zp hE rfl QA rfl (At.cat (pre:=[[vI p0.Field],enc p0.Box,enc p0.Mix]) hM.rawAt1 ck) (Flat.len _) fun a hE=>⟨Kept.refl _ _,_,rfl,hE⟩
 ·intro a w ux7 D z
  have hE:=z.E
  have hM:=z.M
  exact Zp hE rfl QA rfl (At.cat (pre:=[[vI p0.Field],enc p0.Box,enc p0.Mix]) hM.rawAt1 ck) (Flat.len _) fun a hE=>⟨Kept.refl _ _,_,rfl,hE⟩
 ·intro a w ux7 D z
  have hE:=z.E
  have hM:=z.M
  exact ZQ (v:=(vI p0.Field)) hE rfl ty2 rfl (At.cat (pre:=[]) hM.rawAt1 cl0) fun a hE=>⟨Kept.refl _ _,_,rfl,hE⟩
 ·intro a w ux7 D z
  have hE:=z.E
  have hM:=z.M
  exact Zp hE rfl Tx rfl (At.cat (pre:=[[vI p0.Field],enc p0.Box]) hM.rawAt1 ck) (Flat.len _) fun a hE=>⟨Kept.refl _ _,_,rfl,hE⟩
 ·intro a w ux7 D z
  have hE:=z.E
  have hD : D 14 = false:=z.F
  have hM0:=z.M
  have hM:=z.M
  refine Zy hE rfl (cbm Try.func148) (T5 _ p0.Field p0.Mix r12 e13) ?_
  rintro _ w a ⟨_,rfl,hFr,hK⟩ hE
  have hM:=hM0.add hK hFr
  exact ⟨_,_,rfl,hE,M.qFill (mk1:=[]) (mk2:=[_]) (f:=(fun v=>own NoB (r12 : (Ref (Vector (Vector (Vector UInt8 256) 4) 4))) [v])) hM rfl hD,trivial⟩
 ·intro a w ux7 D z
  have hE:=z.E
  have hM:=z.M
  exact ZQ (v:=(vI p0.Field)) hE rfl ty2 rfl (At.cat (pre:=[]) hM.rawAt1 cl0) fun a hE=>⟨Kept.refl _ _,_,rfl,hE⟩
 ·intro a w ux7 D z
  have hE:=z.E
  have hM:=z.M
  exact Zp hE rfl Tx rfl hM.rawAt0 (Flat.len _) fun a hE=>⟨Kept.refl _ _,_,rfl,hE⟩
 ·intro a w ux7 D z
  have hE:=z.E
  have hD : D 18 = false:=z.F
  have hM0:=z.M
  have hM:=z.M
  refine Zy hE rfl (cbm Try.func148) (T5 _ p0.Field r3.2 r15 e16) ?_
  rintro _ w a ⟨_,rfl,hFr,hK⟩ hE
  have hM:=hM0.add hK hFr
  exact ⟨_,_,rfl,hE,M.qFill (mk1:=[_]) (mk2:=[]) (f:=(fun v=>own NoB (r15 : (Ref (Vector (Vector (Vector UInt8 256) 4) 4))) [v])) hM rfl hD,trivial⟩
 ·intro a w ux7 D z
  have hE:=z.E
  have hM:=z.M
  exact ZQ (v:=(vI p0.Rounds)) hE rfl ty2 rfl (At.cat (pre:=[[vI p0.Field],enc p0.Box,enc p0.Mix,enc p0.Places]) hM.rawAt1 ck) fun a hE=>⟨Kept.refl _ _,_,rfl,hE⟩
 ·intro a w ux7 D hE hM hG hall
  have d14:=hall 14 (by decide)
  have d18:=hall 18 (by decide)
  have hM:=(hM.sure (pre:=[_,_]) d14).sure (pre:=[_,_,_]) d18
  refine Ws (parts:=[(0,.tmp 14),(1,.tmp 17),(2,.tmp 19),(3,.tmp 22),(4,.tmp 27),(5,.tmp 31),(6,.tmp 33)]) (vs:=[(0,(Value.agg (enc p0.Box).toArray)),(1,(Value.agg (enc r8).toArray)),(2,(Value.agg (enc p0.Places).toArray)),(3,(Value.agg (enc r10).toArray)),(4,(ux7 14)),(5,(ux7 18)),(6,vI p0.Rounds)]) (cs:=cat [enc p0.Box,enc r8,enc p0.Places,enc r10,[(ux7 14)],[(ux7 18)],[vI p0.Rounds]]) hE Za ld rfl rfl Jh pl196 (Xm (pre:=[]) (seg:=enc (Vector.replicate 256 (0 : UInt8))) (seg':=enc p0.Box) (post:=[enc (Vector.replicate 256 (0 : UInt8)),enc (Vector.replicate 16 (0 : UInt8)),enc (Vector.replicate 16 (0 : UInt8)),[(Value.pointer none)],[(Value.pointer none)],[vI 0]]) rfl cl0 (Flat.len _) (Flat.len _) rfl (Xm (pre:=[enc p0.Box]) (seg:=enc (Vector.replicate 256 (0 : UInt8))) (seg':=enc r8) (post:=[enc (Vector.replicate 16 (0 : UInt8)),enc (Vector.replicate 16 (0 : UInt8)),[(Value.pointer none)],[(Value.pointer none)],[vI 0]]) rfl ck (Flat.len _) (Flat.len _) rfl (Xm (pre:=[enc p0.Box,enc r8]) (seg:=enc (Vector.replicate 16 (0 : UInt8))) (seg':=enc p0.Places) (post:=[enc (Vector.replicate 16 (0 : UInt8)),[(Value.pointer none)],[(Value.pointer none)],[vI 0]]) rfl ck (Flat.len _) (Flat.len _) rfl (Xm (pre:=[enc p0.Box,enc r8,enc p0.Places]) (seg:=enc (Vector.replicate 16 (0 : UInt8))) (seg':=enc r10) (post:=[[(Value.pointer none)],[(Value.pointer none)],[vI 0]]) rfl ck (Flat.len _) (Flat.len _) rfl (Xm (pre:=[enc p0.Box,enc r8,enc p0.Places,enc r10]) (seg:=[(Value.pointer none)]) (seg':=[(ux7 14)]) (post:=[[(Value.pointer none)],[vI 0]]) rfl ck rfl rfl (KM (hM.ro (pre:=[_,_]) noB)) (Xm (pre:=[enc p0.Box,enc r8,enc p0.Places,enc r10,[(ux7 14)]]) (seg:=[(Value.pointer none)]) (seg':=[(ux7 18)]) (post:=[[vI 0]]) rfl ck rfl rfl (KM (hM.ro (pre:=[_,_,_]) noB)) (Xm (pre:=[enc p0.Box,enc r8,enc p0.Places,enc r10,[(ux7 14)],[(ux7 18)]]) (seg:=[vI 0]) (seg':=[vI p0.Rounds]) (post:=[]) rfl ck rfl rfl rfl V5))))))) fun a hE=>Z7 (cs:=cat [enc p0.Box,enc r8,enc p0.Places,enc r10,[(ux7 14)],[(ux7 18)],[vI p0.Rounds]]) hE hM Za ld rfl rfl fun b18 w a hM hE=>Zc hE rfl fun a hE=>Zi (Zw ?_)
  have hM:=hM.pull4.pull4
  have hM:=(((hM.pack2 (it:=own NoB (⟨p0.Box,r8,p0.Places,r10,r12,r15,p0.Rounds⟩ : Gengine) (cat [enc p0.Box,enc r8,enc p0.Places,enc r10,[(ux7 14)],[(ux7 18)],[vI p0.Rounds]])) (UG noB) (fun f0 f1 q0 q1=>(A9 q0 q1 (by simp)))).pull1).pull1).pull1
  have hM:=M.toRef hM noB
  obtain rfl:=Option.some.inj hF
  have hM:=M.fst (l:=[_]) hM
  exact wp_ret (ZU hE rfl (ZV hE rfl) ⟨_,rfl,(ptr b18 0),rfl,hM.outF (zp Wy),hM.kept⟩)
def UA (p0 : Int) : Option ((Ref Gengine)) :=
 (Wr p0).bind fun r1=>(Vi r1).bind fun r3=>some r3
theorem Br (w0 : World) (p0 : Int) (r : (Ref Gengine)) (hF : UA p0 = some r) :
  Calls Try.prog 166 [vI p0].toArray w0 (fun en w'=>∃ v,en = .returned v ∧ (∃ (y1 : Value),v = y1 ∧ Fr w0 w' [own NoB (r : (Ref Gengine)) [y1]] ∧ Kept (Old w0) w0 w')):=by
 refine ce Try.func166 ?_
 intro a hE
 have hM:=M.start w0
 unfold UA at hF
 refine Zb (Zc hE rfl fun a hE=>Ze (Zb (Zd hE rfl ?_))); intro a hE
 obtain ⟨r1,e2,hF⟩:=bind_some hF
 refine Zy hE rfl (cbm Try.func193) (QQ _ p0 r1 e2) ?_
 rintro v w a ⟨rfl,hK⟩ hE
 have hM:=hM.keep hK
 obtain ⟨r3,e4,hF⟩:=bind_some hF
 refine Zy hE rfl (cbm Try.func87) (K3 _ r1 r3 e4) ?_
 rintro u5 w a ⟨_,rfl,hFr,hK⟩ hE
 have hM:=hM.add hK hFr
 refine Zc hE rfl fun a hE=>Ze ?_
 obtain rfl:=Option.some.inj hF
 exact wp_ret (ZU hE rfl (ZV hE rfl) ⟨_,rfl,u5,rfl,hM.outF (zp Wy),hM.kept⟩)
def XB : Option (Ghasher) :=
 (UA 8).bind fun r3=>some (⟨r3⟩ : Ghasher)
theorem UN (w0 : World)  (r : Ghasher) (hF : XB  = some r) :
  Calls Try.prog 106 [].toArray w0 (fun en w'=>∃ v,en = .returned v ∧ (∃ (y1 : Value),v = (Value.agg (cat [[y1]]).toArray) ∧ Fr w0 w' [own NoB (r.engine : (Ref Gengine)) [y1]] ∧ Kept (Old w0) w0 w')):=by
 refine ce Try.func106 ?_
 intro a hE
 have hM:=M.start w0
 unfold XB at hF
 refine Zb (Zv hE hM V2 fun b1 w a hM hE=>Ze (Zb ?_))
 obtain ⟨r3,e4,hF⟩:=bind_some hF
 refine Zy hE rfl (cbm Try.func166) (Br _ 8 r3 e4) ?_
 rintro u5 w a ⟨_,rfl,hFr,hK⟩ hE
 have hM:=hM.add hK hFr
 refine Ws (parts:=[(0,.tmp 1)]) (vs:=[(0,u5)]) (cs:=cat [[u5]]) hE Za ld rfl rfl V2 pl153 (Xm (pre:=[]) (seg:=[(Value.pointer none)]) (seg':=[u5]) (post:=[]) rfl cl0 rfl rfl (KM (hM.ro (pre:=[]) noB)) V5) ?_; intro a hE
 have hM:=hM.pull1
 refine Zk (seg:=cat [[u5]]) (cs':=cat [[u5]]) hE hM Za rfl rfl rfl V2 cq (Nat.le_of_eq ((Nat.zero_add _).trans (Eq.trans cq (Eq.symm cq)))) (Y2 (cc1 (Rep.cell (hM.ro (pre:=[_]) noB)) cc0)) (Zh (Eq.trans cq (Eq.symm cq))) fun w a hM hE=>Ze ?_
 obtain rfl:=Option.some.inj hF
 have hq6 : Z6 Try.prog _ _ (.cell 0 153) _:=ZD hE rfl V2 rfl hM.rawAt0 cq rfl
 have hM:=M.fst (l:=[_]) hM.pull1
 exact wp_ret (ZU hE rfl hq6 ⟨_,rfl,u5,rfl,hM.outF (zp Wy),hM.kept⟩)
def YU (p0 : (List (Vector UInt8 32))) : Option (Int) :=
 some (p0.length : Int)
theorem TD (w0 : World) (p0 : (List (Vector UInt8 32))) (v0_1 : Value) (hv0_1 : Ro w0 p0 [v0_1]) (r : Int) (hF : YU p0 = some r) :
  Calls Try.prog 107 [v0_1].toArray w0 (Rt w0 (vI r)):=by
 refine ce Try.func107 ?_
 intro a hE
 have hM:=M.start w0
 unfold YU at hF
 refine Zb (Zc hE rfl fun a hE=>Ze (Zb (Zd hE rfl fun a hE=>Yq hE rfl Try.underlying80 (hM.rd hv0_1) fun a hE=>Zc hE rfl fun a hE=>Ze ?_)))
 obtain rfl:=Option.some.inj hF
 exact wp_ret (kr1 hE rfl rfl hM.kept)
def XK (p0 : Int) (p1 : Int) (p2 : Int) : Option (Bool) :=
 (if (decide (p1 ≤ p0)) = true then (some (decide (p0 ≤ p2))) else (some false) : Option (Bool)).bind fun j1=>some j1
theorem UE (w0 : World) (p0 : Int) (p1 : Int) (p2 : Int) (r : Bool) (hF : XK p0 p1 p2 = some r) :
  Calls Try.prog 56 [vI p0,vI p1,vI p2].toArray w0 (Rt w0 (vT r)):=by
 refine ce Try.func56 ?_
 intro a hE
 have hM:=M.start w0
 unfold XK at hF
 refine Zb (Zc hE rfl fun a hE=>Ze ?_)
 obtain ⟨j1,hl2,hF3⟩:=bind_some hF
 refine ZB (fun a w=>Env 15 a [(6,vT j1)] ∧ M (Old w0) w0 w []) ?_ ?_
 ·skip
  refine wp_region_lit (Zd hE rfl fun a hE=>Zd hE rfl fun a hE=>Zl hE rfl rfl rfl fun a hE=>Zd hE rfl ?_); intro a hE
  refine YP (decide (p1 ≤ p0)) (fun hb4=>?_) (fun hb4=>?_)
  ·have hl2:=Zt hl2 hb4
   refine Zg hE (Zf hE rfl (lkb rfl hb4)) (by decide) rfl fun a hE=>Zg hE (Zf hE rfl (lkb rfl hb4)) (by decide) rfl fun a hE=>Z1 hE (Zf hE rfl (lkb rfl hb4)) (by decide) rfl rfl rfl fun a hE=>YY hE (lkb rfl hb4) rfl fun a hE=>Zc hE rfl fun a hE=>Zi ?_
   obtain rfl:=Option.some.inj hl2
   refine Zj ?_
   exact ⟨hE.sub ⟨rfl,trivial⟩,hM⟩
  ·have hl2:=Zs hl2 hb4
   refine Zm hE rfl (lkb rfl hb4) rfl (by decide) fun a hE=>Zm hE rfl (lkb rfl hb4) rfl (by decide) fun a hE=>Zm hE rfl (lkb rfl hb4) rfl (by decide) fun a hE=>YW hE (lkb rfl hb4) rfl fun a hE=>Zc hE rfl fun a hE=>Zi ?_
   obtain rfl:=Option.some.inj hl2
   refine Zj ?_
   exact ⟨hE.sub ⟨rfl,trivial⟩,hM⟩
 ·skip
  rintro a w ⟨hE,hM⟩
  obtain rfl:=Option.some.inj hF3
  exact wp_ret (kr1 hE rfl rfl hM.kept)
def Tb (p0 : Int) (s4 : Int) : Option (Fl Int Int) :=
 if (decide ((wr (2 * s4)) < p0)) = true then (some (Fl.nx (wr (s4 * 2)))) else (some (Fl.ex s4))
def VW (p0 : Int) : Option (Int) :=
 (ZF (Tb p0) 1).bind fun j1=>some j1
theorem Qs (w0 : World) (p0 : Int) (r : Int) (hF : VW p0 = some r) :
  Calls Try.prog 167 [vI p0].toArray w0 (Rt w0 (vI r)):=by
 refine ce Try.func167 ?_
 intro a hE
 have hM:=M.start w0
 unfold VW at hF
 refine Zb (Zc hE rfl fun a hE=>Ze (Zb (Zc hE rfl fun a hE=>Ze ?_)))
 obtain ⟨j1,hl2,hF3⟩:=bind_some hF
 refine ZB (fun a w=>Env 11 a [(3,vI j1)] ∧ M (Old w0) w0 w []) ?_ ?_
 ·skip
  refine wp_block ?_
  refine ZM (fun (s4 : Int) a w=>Env 11 a [(0,vI p0),(3,vI s4)] ∧ M (Old w0) w0 w []) hl2 ⟨hE.sub ⟨rfl,rfl,trivial⟩,hM⟩ ?_
  rintro s4 a w ⟨hE,hM⟩ o7 hs5 hx6
  unfold Tb at hs5
  refine wp_seq (Zb (Zd hE rfl fun a hE=>Zl hE rfl rfl rfl fun a hE=>Zd hE rfl fun a hE=>Zl hE rfl rfl rfl fun a hE=>Ze ?_))
  refine Zq hE rfl ?_ ?_
  ·intro hb8
   have hs5:=Zt hs5 hb8
   refine wp_skip (Zw (wp_block (wp_region_lit (Zd hE rfl fun a hE=>Zl hE rfl rfl rfl fun a hE=>Zc hE rfl fun a hE=>Zi (Yv (Zj ?_))))))
   exact ⟨_,(ois hs5),hE.sub ⟨rfl,rfl,trivial⟩,hM⟩
  ·intro hb8
   have hs5:=Zs hs5 hb8
   refine wp_exit (Zn (Zn (Yy ?_)))
   obtain rfl:=hx6 _ (ois hs5)
   refine Zj ?_
   exact ⟨hE.sub ⟨rfl,trivial⟩,hM⟩
 ·skip
  rintro a w ⟨hE,hM⟩
  refine Zb (Zd hE rfl fun a hE=>Zc hE rfl fun a hE=>Ze ?_)
  obtain rfl:=Option.some.inj hF3
  exact wp_ret (kr1 hE rfl rfl hM.kept)
def Y0 (s8 : (Vector UInt8 32) × Int) : Option (Fl ((Vector UInt8 32) × Int) (Vector UInt8 32)) :=
 if (decide (s8.2 < 32)) = true then ((ZI s8.1 s8.2).bind fun x14=>some (Fl.nx ((s8.1.setIfInBounds (s8.2).toNat (Zz (wr (17 * s8.2)))),wr (s8.2 + 1)))) else (some (Fl.ex s8.1))
def XL : Option ((Vector UInt8 32)) :=
 (ZF (Y0) ((Vector.replicate 32 (0 : UInt8)),0)).bind fun j5=>some j5
theorem Qg (w0 : World)  (r : (Vector UInt8 32)) (hF : XL  = some r) :
  Calls Try.prog 194 [].toArray w0 (Rt w0 (Value.agg (enc r).toArray)):=by
 refine ce Try.func194 ?_
 intro a hE
 have hM:=M.start w0
 unfold XL at hF
 refine Zb (Zv hE hM Zr fun b1 w a hM hE=>Ze (Zb (Yx (parts:=[]) (vs:=[]) (cs:=enc (Vector.replicate 32 (0 : UInt8))) hE Za ld rfl rfl Zr rfl ty5 Yk fun a hE=>Zv hE hM Zr fun b3 w a hM hE=>Zk (seg:=enc (Vector.replicate 32 (0 : UInt8))) (cs':=enc (Vector.replicate 32 (0 : UInt8))) hE hM Za rfl rfl rfl Zr (Flat.len _) (zle flq) (Flat.cell _) (Zh flq) fun w a hM hE=>Ze (wp_seq (Zb (Zd hE rfl fun a hE=>Ze ?_))))))
 obtain ⟨j5,hl6,hF7⟩:=bind_some hF
 refine ZW (fun a w=>Env 14 a [(0,(ptr b1 0)),(1,(ptr b3 0))] ∧ M (Old w0) w0 w [raw b3 (enc j5),raw b1 (enc (Vector.replicate 32 (0 : UInt8)))]) ?_ ?_
 ·skip
  refine wp_block ?_
  refine ZM (fun (s8 : (Vector UInt8 32) × Int) a w=>Env 14 a [(0,(ptr b1 0)),(1,(ptr b3 0)),(4,vI s8.2)] ∧ M (Old w0) w0 w [raw b3 (enc s8.1),raw b1 (enc (Vector.replicate 32 (0 : UInt8)))]) hl6 ⟨hE.sub ⟨rfl,rfl,rfl,trivial⟩,hM⟩ ?_
  rintro s8 a w ⟨hE,hM⟩ o11 hs9 hx10
  unfold Y0 at hs9
  refine Zb (Zl hE rfl rfl rfl fun a hE=>Ze (wp_seq ?_))
  refine Zq hE rfl ?_ ?_
  ·intro hb12
   have hs9:=Zt hs9 hb12
   refine wp_skip (Zw (wp_seq (wp_block (Zb (Zd hE rfl fun a hE=>Zc hE rfl fun a hE=>Ze (wp_region_lit (Zd hE rfl fun a hE=>Zd hE rfl fun a hE=>Zl hE rfl rfl rfl fun a hE=>Xc hE Za ld rfl Try.underlying3 Try.underlying5 ?_))))))); intro a hE
   obtain ⟨x14,hi13,hs9⟩:=bvx hs9
   refine ZH hE rfl rfl Try.underlying82 ty5 hi13.1 fun a hE=>Zk (seg:=[(vB (Zz (wr (17 * s8.2))))]) (cs':=enc (s8.1.setIfInBounds (s8.2).toNat (Zz (wr (17 * s8.2))))) hE hM Za rfl rfl rfl ty5 rfl (ZR (v:=s8.1) (x:=Zz (wr (17 * s8.2))) hi13.1) (Flat.cell (Zz (wr (17 * s8.2)) : UInt8)) (ZE (v:=s8.1) (x:=Zz (wr (17 * s8.2))) hi13.1) fun w a hM hE=>Zi (Yv (Zw (wp_region_lit (Zl hE rfl rfl rfl fun a hE=>Zd hE rfl fun a hE=>Zi (Zj ?_)))))
   exact ⟨_,(ois hs9),hE.sub ⟨rfl,rfl,rfl,trivial⟩,hM⟩
  ·intro hb12
   have hs9:=Zs hs9 hb12
   refine wp_exit (Zn (Zn (Yy ?_)))
   obtain rfl:=hx10 _ (ois hs9)
   refine Zj ?_
   exact ⟨hE.sub ⟨rfl,rfl,trivial⟩,hM⟩
 ·skip
  rintro a w ⟨hE,hM⟩
  refine Zw (Zb (Zp hE rfl Zr rfl hM.rawAt0 (Flat.len _) ?_)); intro a hE
  have hM:=hM.pull1
  refine Zk (seg:=enc j5) (cs':=enc j5) hE hM Za rfl rfl rfl Zr (Flat.len _) (zle flq) (Flat.cell _) (Zh flq) fun w a hM hE=>Ze ?_
  obtain rfl:=Option.some.inj hF7
  have hq17 : Z6 Try.prog _ _ (.cell 0 82) _:=ZD hE rfl Zr rfl hM.rawAt0 (Flat.len _) rfl
  exact wp_ret (ZU hE rfl hq17 ⟨_,rfl,rfl,hM.kept⟩)
def YF (p1 : Int) : Option ((List UInt8)) :=
 (if (decide (p1 < 0)) = true then (none) else (some ()) : Option (Unit)).bind fun j1=>(if (decide ((wr (p1 - (wr (0 - 0)))) > 0)) = true then ((mkS 1 (0 : UInt8) (wr (p1 - (wr (0 - 0))))).bind fun l14=>(slc l14 (0 : Int) (0 : Int)).bind fun l16=>some l16) else (some ([])) : Option ((List UInt8))).bind fun j6=>some j6
theorem Td (w0 : World) (p1 : Int) (r : (List UInt8)) (hF : YF p1 = some r) :
  Calls Try.prog 212 [(Value.slice none 0 0),vI p1].toArray w0 (fun en w'=>∃ v,en = .returned v ∧ (∃ (y1 : Value),v = y1 ∧ Fr w0 w' [osl NoB (r : List UInt8) y1] ∧ Kept (Old w0) w0 w')):=by
 refine ce Try.func212 ?_
 intro a hE
 have hM:=M.start w0
 unfold YF at hF
 refine Zb (Zc hE rfl fun a hE=>Ze ?_)
 obtain ⟨j1,hl2,hF3⟩:=bind_some hF
 refine ZB (fun a w=>Env 27 a [(0,(Value.slice none 0 0)),(1,vI p1)] ∧ M (Old w0) w0 w []) ?_ ?_
 ·skip
  refine Zb (Zd hE rfl fun a hE=>Zl hE rfl rfl rfl fun a hE=>Ze ?_)
  refine Zq hE rfl ?_ ?_
  ·intro hb4
   have hl2:=Zt hl2 hb4
   cases hl2
  ·intro hb4
   have hl2:=Zs hl2 hb4
   refine wp_skip ?_
   obtain rfl:=Option.some.inj hl2
   refine Zj ?_
   exact ⟨hE.sub ⟨rfl,rfl,trivial⟩,hM⟩
 ·skip
  rintro a w ⟨hE,hM⟩
  obtain ⟨j6,hl7,hF8⟩:=bind_some hF3
  refine ZB (fun a w=>∃ (u9 : Value),Env 27 a [(0,u9)] ∧ M (Old w0) w0 w [osl NoB (j6 : List UInt8) u9]) ?_ ?_
  ·skip
   refine Zb (Zd hE rfl fun a hE=>Zd hE rfl fun a hE=>B6 hE Za ld rfl Try.underlying22 fun a hE=>Zd hE rfl fun a hE=>Av hE Za ld rfl Try.underlying22 fun a hE=>Zl hE rfl rfl rfl fun a hE=>Zl hE rfl rfl rfl fun a hE=>Zc hE rfl fun a hE=>Ze (Zb (Zd hE rfl fun a hE=>Zl hE rfl rfl rfl fun a hE=>Ze ?_)))
   refine Zq hE rfl ?_ ?_
   ·intro hb11
    have hl7:=Zt hl7 hb11
    refine wp_region_lit (Zd hE rfl fun a hE=>Zd hE rfl fun a hE=>B6 hE Za ld rfl Try.underlying22 fun a hE=>zh hE Za ld rfl rfl Try.underlying22 ty5 fun a hE=>Zd hE rfl ?_); intro a hE
    obtain ⟨l14,e15,hl7⟩:=bind_some hl7
    refine z8 hE hM Za ld rfl rfl Try.underlying22 Try.underlying3 ty5 rfl (by decide) (by decide) (fun _=>Qd.2 ⟨rfl,rfl⟩) e15 fun u12 w a hM hE=>Zd hE rfl fun a hE=>Av hE Za ld rfl Try.underlying22 ?_; intro a hE
    obtain ⟨l16,e17,hl7⟩:=bind_some hl7
    refine WK hE Za ld rfl rfl rfl rfl rfl Try.underlying22 ty5 (hM.sl (pre:=[]) noB) e17 ?_; intro a hE
    have hM:=hM.cut noB e17
    refine Zc hE rfl fun a hE=>Zi ?_
    obtain rfl:=Option.some.inj hl7
    refine Zj ?_
    exact ⟨(ZO u12 ((0 : Int)).toNat ((0 : Int)).toNat 1),hE.sub ⟨rfl,trivial⟩,hM⟩
   ·intro hb11
    have hl7:=Zs hl7 hb11
    refine wp_skip ?_
    obtain rfl:=Option.some.inj hl7
    refine Zj ?_
    have hM:=M.nilS (α:=UInt8) NoB noB hM
    exact ⟨(Value.slice none 0 0),hE.sub ⟨rfl,trivial⟩,hM⟩
  ·skip
   rintro a w ⟨u9,hE,hM⟩
   refine Zb (Zd hE rfl fun a hE=>Zc hE rfl fun a hE=>Ze ?_)
   obtain rfl:=Option.some.inj hF8
   exact wp_ret (ZU hE rfl (ZV hE rfl) ⟨_,rfl,u9,rfl,hM.outF (X2 Wy),hM.kept⟩)
def Xe (p0 : (List (List UInt8))) (s4 : Int × Int) : Option (Fl (Int × Int) Int) :=
 if (decide (s4.1 < (p0.length : Int))) = true then (((idx p0 s4.1).bind fun x12=>(if (decide ((wr (s4.2 + (x12.length : Int))) < 0)) = true then (none) else (some ()) : Option (Unit)).bind fun j20=>some (wr (s4.2 + (x12.length : Int))) : Option (Int)).bind fun j9=>some (Fl.nx (wr (s4.1 + 1),j9))) else (some (Fl.ex s4.2))
def Xf (p0 : (List (List UInt8))) (s35 : Int × (List UInt8)) : Option (Fl (Int × (List UInt8)) (List UInt8)) :=
 if (decide (s35.1 < (p0.length : Int))) = true then ((idx p0 s35.1).bind fun x42=>(app 1 s35.2 x42).bind fun l50=>some (Fl.nx (wr (s35.1 + 1),(s35.2 ++ x42)))) else (some (Fl.ex s35.2))
def Ya (p0 : (List (List UInt8))) : Option ((List UInt8)) :=
 (ZF (Xe p0) (0,0)).bind fun j1=>(YF j1).bind fun r27=>(ZF (Xf p0) (0,r27)).bind fun j30=>some j30
theorem Ud (w0 : World) (p0 : (List (List UInt8))) (v0_1 : Value) (hv0_1 : Ro w0 p0 [v0_1]) (r : (List UInt8)) (hF : Ya p0 = some r) :
  Calls Try.prog 197 [v0_1].toArray w0 (fun en w'=>∃ v,en = .returned v ∧ (∃ (y1 : Value),v = y1 ∧ Fr w0 w' [osl NoB (r : List UInt8) y1] ∧ Kept (Old w0) w0 w')):=by
 refine ce Try.func197 ?_
 intro a hE
 have hM:=M.start w0
 unfold Ya at hF
 refine Zb (Zc hE rfl fun a hE=>Ze (Zb (Zc hE rfl fun a hE=>Ze (wp_seq (Zb (Zd hE rfl fun a hE=>Yq hE rfl Try.underlying24 (hM.rd hv0_1) fun a hE=>Zd hE rfl fun a hE=>Ze ?_))))))
 obtain ⟨j1,hl2,hF3⟩:=bind_some hF
 refine ZW (fun a w=>Env 36 a [(0,v0_1),(3,vI j1)] ∧ M (Old w0) w0 w []) ?_ ?_
 ·skip
  refine wp_block ?_
  refine ZM (fun (s4 : Int × Int) a w=>Env 36 a [(0,v0_1),(3,vI s4.2),(9,v0_1),(10,(vI (p0.length : Int))),(11,vI s4.1)] ∧ M (Old w0) w0 w []) hl2 ⟨hE.sub ⟨rfl,rfl,rfl,rfl,rfl,trivial⟩,hM⟩ ?_
  rintro s4 a w ⟨hE,hM⟩ o7 hs5 hx6
  unfold Xe at hs5
  refine Zb (Zl hE rfl rfl rfl fun a hE=>Ze (wp_seq ?_))
  refine Zq hE rfl ?_ ?_
  ·intro hb8
   have hs5:=Zt hs5 hb8
   refine wp_skip (Zw ?_)
   obtain ⟨j9,hl10,hF11⟩:=bind_some hs5
   refine ZB (fun a w=>Env 36 a [(0,v0_1),(3,vI j9),(9,v0_1),(10,(vI (p0.length : Int))),(11,vI s4.1)] ∧ M (Old w0) w0 w []) ?_ ?_
   ·skip
    refine wp_block (Zb ?_)
    obtain ⟨x12,hi14,hl10⟩:=bix hl10
    refine Wx hE rfl rfl Try.underlying24 Bq (hM.rd hv0_1) hi14.1 ?_; intro a hE
    obtain ⟨cs15,hs16,hA17⟩:=Qt hv0_1 hi14.2 -- ^
    obtain ⟨u18,rfl⟩:=U5 hs16 -- ^
    have h19:=hs16 -- ^
    refine ZQ (v:=u18) hE rfl Bq rfl (hM.atk hA17 (KJ hv0_1 hi14.2)) fun a hE=>Zc hE rfl fun a hE=>Ze (Zb (Zd hE rfl fun a hE=>Zd hE rfl fun a hE=>Yq hE rfl Try.underlying22 (hM.rd h19) fun a hE=>Zl hE rfl rfl rfl fun a hE=>Zc hE rfl fun a hE=>Ze (Zb (Zd hE rfl fun a hE=>Zl hE rfl rfl rfl fun a hE=>Ze ?_))))
    obtain ⟨j20,hl21,hF22⟩:=bind_some hl10
    refine ZW (fun a w=>Env 36 a [(0,v0_1),(3,(vI (wr (s4.2 + (x12.length : Int))))),(9,v0_1),(10,(vI (p0.length : Int))),(11,vI s4.1)] ∧ M (Old w0) w0 w []) ?_ ?_
    ·skip
     refine Zq hE rfl ?_ ?_
     ·intro hb23
      have hl21:=Zt hl21 hb23
      cases hl21
     ·intro hb23
      have hl21:=Zs hl21 hb23
      refine wp_skip ?_
      obtain rfl:=Option.some.inj hl21
      refine Zj ?_
      exact ⟨hE.sub ⟨rfl,rfl,rfl,rfl,rfl,trivial⟩,hM⟩
    ·skip
     rintro a w ⟨hE,hM⟩
     refine Yv ?_
     obtain rfl:=Option.some.inj hF22
     refine Zj ?_
     exact ⟨hE.sub ⟨rfl,rfl,rfl,rfl,rfl,trivial⟩,hM⟩
   ·skip
    rintro a w ⟨hE,hM⟩
    refine wp_region_lit (Zl hE rfl rfl rfl fun a hE=>Zd hE rfl fun a hE=>Zi (Zj ?_))
    exact ⟨_,(ois hF11),hE.sub ⟨rfl,rfl,rfl,rfl,rfl,trivial⟩,hM⟩
  ·intro hb8
   have hs5:=Zs hs5 hb8
   refine wp_exit (Zn (Zn (Yy ?_)))
   obtain rfl:=hx6 _ (ois hs5)
   refine Zj ?_
   exact ⟨hE.sub ⟨rfl,rfl,trivial⟩,hM⟩
 ·skip
  rintro a w ⟨hE,hM⟩
  refine Zw (Zb (Zd hE rfl ?_)); intro a hE
  obtain ⟨r27,e28,hF3⟩:=bind_some hF3
  refine Zy hE rfl (cbm Try.func212) (Td _ j1 r27 e28) ?_
  rintro u29 w a ⟨_,rfl,hFr,hK⟩ hE
  have hM:=hM.add hK hFr
  refine Zc hE rfl fun a hE=>Ze (wp_seq (Zb (Zd hE rfl fun a hE=>Yq hE rfl Try.underlying24 (hM.rd hv0_1) fun a hE=>Zd hE rfl fun a hE=>Ze ?_)))
  obtain ⟨j30,hl31,hF32⟩:=bind_some hF3
  refine ZW (fun a w=>∃ (u33 : Value),Env 36 a [(6,u33)] ∧ M (Old w0) w0 w [osl NoB (j30 : List UInt8) u33]) ?_ ?_
  ·skip
   refine wp_block ?_
   refine ZM (fun (s35 : Int × (List UInt8)) a w=>∃ (u36 : Value),Env 36 a [(6,u36),(25,v0_1),(26,(vI (p0.length : Int))),(27,vI s35.1)] ∧ M (Old w0) w0 w [osl NoB (s35.2 : List UInt8) u36]) hl31 ⟨u29,hE.sub ⟨rfl,rfl,rfl,rfl,trivial⟩,hM⟩ ?_
   rintro s35 a w ⟨u36,hE,hM⟩ o40 hs38 hx39
   unfold Xf at hs38
   refine Zb (Zl hE rfl rfl rfl fun a hE=>Ze (wp_seq ?_))
   refine Zq hE rfl ?_ ?_
   ·intro hb41
    have hs38:=Zt hs38 hb41
    refine wp_skip (Zw (wp_seq (wp_block (Zb ?_))))
    obtain ⟨x42,hi44,hs38⟩:=bix hs38
    refine Wx hE rfl rfl Try.underlying24 Bq (hM.rd hv0_1) hi44.1 ?_; intro a hE
    obtain ⟨cs45,hs46,hA47⟩:=Qt hv0_1 hi44.2 -- ^
    obtain ⟨u48,rfl⟩:=U5 hs46 -- ^
    have h49:=hs46 -- ^
    refine ZQ (v:=u48) hE rfl Bq rfl (hM.atk hA47 (KJ hv0_1 hi44.2)) fun a hE=>Zc hE rfl fun a hE=>Ze (wp_region_lit (Zd hE rfl fun a hE=>Zd hE rfl ?_)); intro a hE
    obtain ⟨l50,e51,hs38⟩:=bind_some hs38
    obtain ⟨e54,rfl⟩:=Yn e51
    refine Yf hE hM Za ld rfl rfl (hM.rd h49) Try.underlying22 ty5 rfl (by decide) e54 fun u52 w a hM hE=>Zc hE rfl fun a hE=>Zi (Yv (Zw (wp_region_lit (Zl hE rfl rfl rfl fun a hE=>Zd hE rfl fun a hE=>Zi (Zj ?_)))))
    exact ⟨_,(ois hs38),u52,hE.sub ⟨rfl,rfl,rfl,rfl,trivial⟩,hM⟩
   ·intro hb41
    have hs38:=Zs hs38 hb41
    refine wp_exit (Zn (Zn (Yy ?_)))
    obtain rfl:=hx39 _ (ois hs38)
    refine Zj ?_
    exact ⟨u36,hE.sub ⟨rfl,trivial⟩,hM⟩
  ·skip
   rintro a w ⟨u33,hE,hM⟩
   refine Zw (Zb (Zd hE rfl fun a hE=>Zc hE rfl fun a hE=>Ze ?_))
   obtain rfl:=Option.some.inj hF32
   exact wp_ret (ZU hE rfl (ZV hE rfl) ⟨_,rfl,u33,rfl,hM.outF (X2 Wy),hM.kept⟩)
def Y1 (p0 : (List UInt8)) : Option ((List UInt8)) :=
 (app 1 ([] : List UInt8) p0).bind fun l7=>some (([] : List UInt8) ++ p0)
theorem TM (w0 : World) (p0 : (List UInt8)) (v0_1 : Value) (hv0_1 : Ro w0 p0 [v0_1]) (r : (List UInt8)) (hF : Y1 p0 = some r) :
  Calls Try.prog 139 [v0_1].toArray w0 (fun en w'=>∃ v,en = .returned v ∧ (∃ (y1 : Value),v = y1 ∧ Fr w0 w' [osl NoB (r : List UInt8) y1] ∧ Kept (Old w0) w0 w')):=by
 refine ce Try.func139 ?_
 intro a hE
 have hM:=M.start w0
 unfold Y1 at hF
 refine Zb (Zc hE rfl fun a hE=>Ze (wp_seq (Zb (Zd hE rfl fun a hE=>jA hE Za ld rfl rfl Try.underlying22 (hM.rd hv0_1) fun bn1 a hn2 hE=>Ze ?_))))
 refine Zq hE rfl ?_ ?_
 ·intro hb3
  have h0:=hn2 hb3
  have hF : some ([]) = some r:=by rw [h0] at hF; simpa [app] using hF
  refine Zb (Zc hE rfl fun a hE=>Ze ?_)
  have hM:=M.nilS (α:=UInt8) NoB noB hM
  obtain rfl:=Option.some.inj hF
  exact wp_ret (ZL (ZU hE rfl (ZV hE rfl) ⟨_,rfl,(Value.slice none 0 0),rfl,hM.outF (X2 Wy),hM.kept⟩))
 ·intro hb3
  refine wp_skip (Zw (Zb (Z3 (xs:=[]) (l:=([] : List UInt8)) (vs:=[]) hE hM Za ld rfl rfl Try.underlying22 ty5 rfl (by decide) rfl fun u5 w a hM hE=>Zd hE rfl ?_))); intro a hE
  obtain ⟨l7,e8,hF⟩:=bind_some hF
  obtain ⟨e11,rfl⟩:=Yn e8
  refine Yf hE hM Za ld rfl rfl (hM.rd hv0_1) Try.underlying22 ty5 rfl (by decide) e11 fun u9 w a hM hE=>Zc hE rfl fun a hE=>Ze ?_
  obtain rfl:=Option.some.inj hF
  exact wp_ret (ZU hE rfl (ZV hE rfl) ⟨_,rfl,u9,rfl,hM.outF (X2 Wy),hM.kept⟩)
def WP (p0 : Int) (s8 : (List UInt8) × Int) : Option (Fl ((List UInt8) × Int) (List UInt8)) :=
 if (decide (s8.2 ≥ 0)) = true then ((XE (wr (8 * s8.2))).bind fun _=>(app 1 s8.1 ([Zz (Uy p0 (wr (8 * s8.2)))] : List UInt8)).bind fun l18=>some (Fl.nx ((s8.1 ++ ([Zz (Uy p0 (wr (8 * s8.2)))] : List UInt8)),wr (s8.2 - 1)))) else (some (Fl.ex s8.1))
def Wd (p0 : Int) (p1 : Int) : Option ((List UInt8)) :=
 (ZF (WP p0) (([] : List UInt8),wr (p1 - 1))).bind fun j3=>some j3
theorem KV (w0 : World) (p0 : Int) (p1 : Int) (r : (List UInt8)) (hF : Wd p0 p1 = some r) :
  Calls Try.prog 211 [vI p0,vI p1].toArray w0 (fun en w'=>∃ v,en = .returned v ∧ (∃ (y1 : Value),v = y1 ∧ Fr w0 w' [osl NoB (r : List UInt8) y1] ∧ Kept (Old w0) w0 w')):=by
 refine ce Try.func211 ?_
 intro a hE
 have hM:=M.start w0
 unfold Wd at hF
 refine Zb (Zc hE rfl fun a hE=>Ze (Zb (Z3 (xs:=[]) (l:=([] : List UInt8)) (vs:=[]) hE hM Za ld rfl rfl Try.underlying22 ty5 rfl (by decide) rfl fun u1 w a hM hE=>Zc hE rfl fun a hE=>Ze (wp_seq (Zb (Zd hE rfl fun a hE=>Zl hE rfl rfl rfl fun a hE=>Zc hE rfl fun a hE=>Ze ?_))))))
 obtain ⟨j3,hl4,hF5⟩:=bind_some hF
 refine ZW (fun a w=>∃ (u6 : Value),Env 23 a [(5,u6)] ∧ M (Old w0) w0 w [osl NoB (j3 : List UInt8) u6]) ?_ ?_
 ·skip
  refine wp_block ?_
  refine ZM (fun (s8 : (List UInt8) × Int) a w=>∃ (u9 : Value),Env 23 a [(0,vI p0),(5,u9),(6,vI s8.2)] ∧ M (Old w0) w0 w [osl NoB (s8.1 : List UInt8) u9]) hl4 ⟨u1,hE.sub ⟨rfl,rfl,rfl,trivial⟩,hM⟩ ?_
  rintro s8 a w ⟨u9,hE,hM⟩ o13 hs11 hx12
  unfold WP at hs11
  refine wp_seq (Zb (Zd hE rfl fun a hE=>Zl hE rfl rfl rfl fun a hE=>Ze ?_))
  refine Zq hE rfl ?_ ?_
  ·intro hb14
   have hs11:=Zt hs11 hb14
   refine wp_skip (Zw (wp_seq (wp_block (wp_region_lit (Zd hE rfl fun a hE=>Zd hE rfl fun a hE=>Zd hE rfl fun a hE=>Zl hE rfl rfl rfl ?_))))); intro a hE
   obtain ⟨_,e15,hs11⟩:=bind_some hs11
   have e15:=WH e15
   refine JC hE Za ld rfl rfl (Bt _ _ e15) fun a hE=>Xc hE Za ld rfl Try.underlying2 Try.underlying5 fun a hE=>Z3 (xs:=[.tmp 19]) (l:=([Zz (Uy p0 (wr (8 * s8.2)))] : List UInt8)) (vs:=[(vB (Zz (Uy p0 (wr (8 * s8.2)))))]) hE hM Za ld rfl rfl Try.underlying22 ty5 rfl (by decide) rfl ?_; intro u16 w a hM hE
   obtain ⟨l18,e19,hs11⟩:=bind_some hs11
   obtain ⟨e22,rfl⟩:=Yn e19
   have hM:=hM.pull1
   refine Yf hE hM Za ld rfl rfl (hM.sl (pre:=[_]) noB) Try.underlying22 ty5 rfl (by decide) e22 fun u20 w a hM hE=>Zc hE rfl fun a hE=>Zi (Yv (Zw (wp_region_lit (Zd hE rfl fun a hE=>Zl hE rfl rfl rfl fun a hE=>Zc hE rfl fun a hE=>Zi (Zj ?_)))))
   have hM:=M.fst (l:=[_]) hM
   exact ⟨_,(ois hs11),u20,hE.sub ⟨rfl,rfl,rfl,trivial⟩,hM⟩
  ·intro hb14
   have hs11:=Zs hs11 hb14
   refine wp_exit (Zn (Zn (Yy ?_)))
   obtain rfl:=hx12 _ (ois hs11)
   refine Zj ?_
   exact ⟨u9,hE.sub ⟨rfl,trivial⟩,hM⟩
 ·skip
  rintro a w ⟨u6,hE,hM⟩
  refine Zw (Zb (Zd hE rfl fun a hE=>Zc hE rfl fun a hE=>Ze ?_))
  obtain rfl:=Option.some.inj hF5
  exact wp_ret (ZU hE rfl (ZV hE rfl) ⟨_,rfl,u6,rfl,hM.outF (X2 Wy),hM.kept⟩)
def Vl (s16 : (List UInt8)) : Option (Fl (List UInt8) (List UInt8)) :=
 if ((Int.tmod (s16.length : Int) 16) != 8) = true then ((app 1 s16 ([0] : List UInt8)).bind fun l25=>some (Fl.nx (s16 ++ ([0] : List UInt8)))) else (some (Fl.ex s16))
def WI (p0 : (List UInt8)) : Option ((List UInt8)) :=
 (Y1 p0).bind fun r1=>(app 1 r1 ([128] : List UInt8)).bind fun l6=>(ZF (Vl) (r1 ++ ([128] : List UInt8))).bind fun j11=>(Wd (p0.length : Int) 8).bind fun r31=>(app 1 j11 r31).bind fun l34=>some (j11 ++ r31)
theorem Ka (w0 : World) (p0 : (List UInt8)) (v0_1 : Value) (hv0_1 : Ro w0 p0 [v0_1]) (r : (List UInt8)) (hF : WI p0 = some r) :
  Calls Try.prog 196 [v0_1].toArray w0 (fun en w'=>∃ v,en = .returned v ∧ (∃ (y1 : Value),v = y1 ∧ Fr w0 w' [osl NoB (r : List UInt8) y1] ∧ Kept (Old w0) w0 w')):=by
 refine ce Try.func196 ?_
 intro a hE
 have hM:=M.start w0
 unfold WI at hF
 refine Zb (Zc hE rfl fun a hE=>Ze (Zb (Zd hE rfl ?_))); intro a hE
 obtain ⟨r1,e2,hF⟩:=bind_some hF
 refine Zy hE rfl (cbm Try.func139) (TM _ p0 v0_1 (hM.rdo hv0_1) r1 e2) ?_
 rintro u3 w a ⟨_,rfl,hFr,hK⟩ hE
 have hM:=hM.add hK hFr
 refine Z3 (xs:=[.const (vB 128)]) (l:=([128] : List UInt8)) (vs:=[vB 128]) hE hM Za ld rfl rfl Try.underlying22 ty5 rfl (by decide) rfl ?_; intro u4 w a hM hE
 obtain ⟨l6,e7,hF⟩:=bind_some hF
 obtain ⟨e10,rfl⟩:=Yn e7
 have hM:=hM.pull1
 refine Yf hE hM Za ld rfl rfl (hM.sl (pre:=[_]) noB) Try.underlying22 ty5 rfl (by decide) e10 fun u8 w a hM hE=>Zc hE rfl fun a hE=>Ze ?_
 obtain ⟨j11,hl12,hF13⟩:=bind_some hF
 refine ZB (fun a w=>∃ (u14 : Value),Env 20 a [(0,v0_1),(3,u14)] ∧ M (Old w0) w0 w [osl NoB (j11 : List UInt8) u14]) ?_ ?_
 ·skip
  refine wp_block ?_
  have hM:=M.fst (l:=[_]) hM
  refine ZM (fun (s16 : (List UInt8)) a w=>∃ (u17 : Value),Env 20 a [(0,v0_1),(3,u17)] ∧ M (Old w0) w0 w [osl NoB (s16 : List UInt8) u17]) hl12 ⟨u8,hE.sub ⟨rfl,rfl,trivial⟩,hM⟩ ?_
  rintro s16 a w ⟨u17,hE,hM⟩ o21 hs19 hx20
  unfold Vl at hs19
  refine wp_seq (Zb (Zd hE rfl fun a hE=>Yq hE rfl Try.underlying22 (hM.sl (pre:=[]) noB) fun a hE=>Zl hE rfl rfl (Tq _ _ (by decide)) fun a hE=>Zl hE rfl rfl rfl fun a hE=>Ze ?_))
  refine Zq hE rfl ?_ ?_
  ·intro hb22
   have hs19:=Zt hs19 hb22
   refine wp_skip (Zw (wp_block (wp_region_lit (Zd hE rfl fun a hE=>Z3 (xs:=[.const (vB 0)]) (l:=([0] : List UInt8)) (vs:=[vB 0]) hE hM Za ld rfl rfl Try.underlying22 ty5 rfl (by decide) rfl ?_)))); intro u23 w a hM hE
   obtain ⟨l25,e26,hs19⟩:=bind_some hs19
   obtain ⟨e29,rfl⟩:=Yn e26
   have hM:=hM.pull1
   refine Yf hE hM Za ld rfl rfl (hM.sl (pre:=[_]) noB) Try.underlying22 ty5 rfl (by decide) e29 fun u27 w a hM hE=>Zc hE rfl fun a hE=>Zi (Yv (Zj ?_))
   have hM:=M.fst (l:=[_]) hM
   exact ⟨_,(ois hs19),u27,hE.sub ⟨rfl,rfl,trivial⟩,hM⟩
  ·intro hb22
   have hs19:=Zs hs19 hb22
   refine wp_exit (Zn (Zn (Yy ?_)))
   obtain rfl:=hx20 _ (ois hs19)
   refine Zj ?_
   exact ⟨u17,hE.sub ⟨rfl,rfl,trivial⟩,hM⟩
 ·skip
  rintro a w ⟨u14,hE,hM⟩
  refine Zb (Zd hE rfl fun a hE=>Zd hE rfl fun a hE=>Yq hE rfl Try.underlying22 (hM.rd hv0_1) ?_); intro a hE
  obtain ⟨r31,e32,hF13⟩:=bind_some hF13
  refine Zy hE rfl (cbm Try.func211) (KV _ (p0.length : Int) 8 r31 e32) ?_
  rintro u33 w a ⟨_,rfl,hFr,hK⟩ hE
  have hM:=hM.add hK hFr
  obtain ⟨l34,e35,hF13⟩:=bind_some hF13
  obtain ⟨e38,rfl⟩:=Yn e35
  have hM:=hM.pull1
  refine Yf hE hM Za ld rfl rfl (hM.sl (pre:=[_]) noB) Try.underlying22 ty5 rfl (by decide) e38 fun u36 w a hM hE=>Zc hE rfl fun a hE=>Ze ?_
  obtain rfl:=Option.some.inj hF13
  have hM:=M.fst (l:=[_]) hM
  exact wp_ret (ZU hE rfl (ZV hE rfl) ⟨_,rfl,u36,rfl,hM.outF (X2 Wy),hM.kept⟩)
def Wg (p0 : (List UInt8)) (s8 : (List (Vector UInt8 16)) × Int) : Option (Fl ((List (Vector UInt8 16)) × Int) (List (Vector UInt8 16))) :=
 if (decide (s8.2 < (p0.length : Int))) = true then ((slc p0 s8.2 (wr (s8.2 + 16))).bind fun l15=>(Tt 16 l15).bind fun x18=>(app 16 s8.1 ([x18] : List (Vector UInt8 16))).bind fun l22=>some (Fl.nx ((s8.1 ++ ([x18] : List (Vector UInt8 16))),wr (s8.2 + 16)))) else (some (Fl.ex s8.1))
def Vs (p0 : (List UInt8)) : Option ((List (Vector UInt8 16))) :=
 (ZF (Wg p0) (([] : List (Vector UInt8 16)),0)).bind fun j3=>some j3
theorem Jz (w0 : World) (p0 : (List UInt8)) (v0_1 : Value) (hv0_1 : Ro w0 p0 [v0_1]) (r : (List (Vector UInt8 16))) (hF : Vs p0 = some r) :
  Calls Try.prog 195 [v0_1].toArray w0 (fun en w'=>∃ v,en = .returned v ∧ (∃ (y1 : Value),v = y1 ∧ Fr w0 w' [osl NoB (r : List (Vector UInt8 16)) y1] ∧ Kept (Old w0) w0 w')):=by
 refine ce Try.func195 ?_
 intro a hE
 have hM:=M.start w0
 unfold Vs at hF
 refine Zb (Zc hE rfl fun a hE=>Ze (Zb (Z3 (xs:=[]) (l:=([] : List (Vector UInt8 16))) (vs:=[]) hE hM Za ld rfl rfl Try.underlying136 ZK rfl (by decide) rfl fun u1 w a hM hE=>Zc hE rfl fun a hE=>Ze (wp_seq (Zb (Zc hE rfl fun a hE=>Ze ?_))))))
 obtain ⟨j3,hl4,hF5⟩:=bind_some hF
 refine ZW (fun a w=>∃ (u6 : Value),Env 23 a [(3,u6)] ∧ M (Old w0) w0 w [osl NoB (j3 : List (Vector UInt8 16)) u6]) ?_ ?_
 ·skip
  refine wp_block ?_
  refine ZM (fun (s8 : (List (Vector UInt8 16)) × Int) a w=>∃ (u9 : Value),Env 23 a [(0,v0_1),(3,u9),(4,vI s8.2)] ∧ M (Old w0) w0 w [osl NoB (s8.1 : List (Vector UInt8 16)) u9]) hl4 ⟨u1,hE.sub ⟨rfl,rfl,rfl,trivial⟩,hM⟩ ?_
  rintro s8 a w ⟨u9,hE,hM⟩ o13 hs11 hx12
  unfold Wg at hs11
  refine wp_seq (Zb (Zd hE rfl fun a hE=>Zd hE rfl fun a hE=>Yq hE rfl Try.underlying22 (hM.rd hv0_1) fun a hE=>Zl hE rfl rfl rfl fun a hE=>Ze ?_))
  refine Zq hE rfl ?_ ?_
  ·intro hb14
   have hs11:=Zt hs11 hb14
   refine wp_skip (Zw (wp_seq (wp_block (wp_region_lit (Zd hE rfl fun a hE=>Zd hE rfl fun a hE=>Zd hE rfl fun a hE=>Zd hE rfl fun a hE=>Zl hE rfl rfl rfl ?_))))); intro a hE
   obtain ⟨l15,e16,hs11⟩:=bind_some hs11
   refine WK hE Za ld rfl rfl rfl rfl rfl Try.underlying22 ty5 (hM.rd hv0_1) e16 ?_; intro a hE
   have h17 : Rep.sat (Old w0) w0 l15 [(ZO v0_1 (s8.2).toNat ((wr (s8.2 + 16))).toNat 1)] []:=Yg hv0_1 e16 -- ^
   obtain ⟨x18,e19,hs11⟩:=bind_some hs11
   refine JG hE Za ld rfl Try.underlying62 (hM.rd h17) (Tn e19).1 (by decide) fun a hE=>Zp hE rfl ZK rfl (BF (hM.rd h17) e19 (by decide)) (Flat.len _) fun a hE=>Z3 (xs:=[.tmp 19]) (l:=([x18] : List (Vector UInt8 16))) (vs:=[(Value.agg (enc x18).toArray)]) hE hM Za ld rfl rfl Try.underlying136 ZK rfl (by decide) rfl ?_; intro u20 w a hM hE
   obtain ⟨l22,e23,hs11⟩:=bind_some hs11
   obtain ⟨e26,rfl⟩:=Yn e23
   have hM:=hM.pull1
   refine Yf hE hM Za ld rfl rfl (hM.sl (pre:=[_]) noB) Try.underlying136 ZK rfl (by decide) e26 fun u24 w a hM hE=>Zc hE rfl fun a hE=>Zi (Yv (Zw (wp_region_lit (Zd hE rfl fun a hE=>Zl hE rfl rfl rfl fun a hE=>Zc hE rfl fun a hE=>Zi (Zj ?_)))))
   have hM:=M.fst (l:=[_]) hM
   exact ⟨_,(ois hs11),u24,hE.sub ⟨rfl,rfl,rfl,trivial⟩,hM⟩
  ·intro hb14
   have hs11:=Zs hs11 hb14
   refine wp_exit (Zn (Zn (Yy ?_)))
   obtain rfl:=hx12 _ (ois hs11)
   refine Zj ?_
   exact ⟨u9,hE.sub ⟨rfl,trivial⟩,hM⟩
 ·skip
  rintro a w ⟨u6,hE,hM⟩
  refine Zw (Zb (Zd hE rfl fun a hE=>Zc hE rfl fun a hE=>Ze ?_))
  obtain rfl:=Option.some.inj hF5
  exact wp_ret (ZU hE rfl (ZV hE rfl) ⟨_,rfl,u6,rfl,hM.outF (X2 Wy),hM.kept⟩)
def XP (p1 : (Vector UInt8 16)) (s10 : (Vector UInt8 16) × Int) : Option (Fl ((Vector UInt8 16) × Int) (Vector UInt8 16)) :=
 if (decide (s10.2 < 16)) = true then ((ZI s10.1 s10.2).bind fun x17=>(ZI p1 s10.2).bind fun x20=>(ZI s10.1 s10.2).bind fun x23=>some (Fl.nx ((s10.1.setIfInBounds (s10.2).toNat (x17 ^^^ x20)),wr (s10.2 + 1)))) else (some (Fl.ex s10.1))
def Yw (p0 : (Vector UInt8 16)) (p1 : (Vector UInt8 16)) : Option ((Vector UInt8 16)) :=
 (ZF (XP p1) (p0,0)).bind fun j7=>some j7
theorem We (w0 : World) (p0 : (Vector UInt8 16)) (p1 : (Vector UInt8 16)) (r : (Vector UInt8 16)) (hF : Yw p0 p1 = some r) :
  Calls Try.prog 158 [(Value.agg (enc p0).toArray),(Value.agg (enc p1).toArray)].toArray w0 (Rt w0 (Value.agg (enc r).toArray)):=by
 refine ce Try.func158 ?_
 intro a hE
 have hM:=M.start w0
 unfold Yw at hF
 refine Zb (Z7 (cs:=enc p0) hE hM Za ld rfl rfl fun b1 w a hM hE=>Z7 (cs:=enc p1) hE hM Za ld rfl rfl fun b3 w a hM hE=>Zv hE hM ZK fun b5 w a hM hE=>Ze (wp_seq (Zb (Zd hE rfl fun a hE=>Ze ?_))))
 obtain ⟨j7,hl8,hF9⟩:=bind_some hF
 refine ZW (fun a w=>Env 19 a [(2,(ptr b1 0)),(4,(ptr b5 0))] ∧ M (Old w0) w0 w [raw b5 (enc (Vector.replicate 16 (0 : UInt8))),raw b1 (enc j7)]) ?_ ?_
 ·skip
  refine wp_block ?_
  refine ZM (fun (s10 : (Vector UInt8 16) × Int) a w=>Env 19 a [(2,(ptr b1 0)),(3,(ptr b3 0)),(4,(ptr b5 0)),(6,vI s10.2)] ∧ M (Old w0) w0 w [raw b5 (enc (Vector.replicate 16 (0 : UInt8))),raw b3 (enc p1),raw b1 (enc s10.1)]) hl8 ⟨hE.sub ⟨rfl,rfl,rfl,rfl,trivial⟩,hM⟩ ?_
  rintro s10 a w ⟨hE,hM⟩ o13 hs11 hx12
  unfold XP at hs11
  refine Zb (Zl hE rfl rfl rfl fun a hE=>Ze (wp_seq ?_))
  refine Zq hE rfl ?_ ?_
  ·intro hb14
   have hs11:=Zt hs11 hb14
   refine wp_skip (Zw (wp_seq (wp_block (Zb (Zd hE rfl fun a hE=>Zc hE rfl fun a hE=>Ze ?_)))))
   obtain ⟨x17,hi16,hs11⟩:=bvx hs11
   obtain ⟨x20,hi19,hs11⟩:=bvx hs11
   obtain ⟨x23,hi22,hs11⟩:=bvx hs11
   refine ZP [9,10,11,12,13,14,15,16] Yr rfl rfl (by decide) rfl hE hM (qsP (fun z=>Zg z.E Za ld rfl (kr0 rfl)) (qsP (fun z=>ZC z.E Za ld rfl rfl Try.underlying62 ty5 hi16.1 (kr0 rfl)) (qsP (fun z=>ZN (v:=(vB x17)) z.E Za ld rfl ty5 rfl (At.vec (z.M.rawAt2) hi16.2) (kr0 rfl)) (qsP (fun z=>Zg z.E Za ld rfl (kr0 rfl)) (qsP (fun z=>ZC z.E Za ld rfl rfl Try.underlying62 ty5 hi19.1 (kr0 rfl)) (qsP (fun z=>ZN (v:=(vB x20)) z.E Za ld rfl ty5 rfl (At.vec (z.M.rawAt1) hi19.2) (kr0 rfl)) (qsP (v:=(vB (x17 ^^^ x20))) (fun z=>Z1 z.E Za ld rfl rfl (VK x17 x20) (kr0 rfl)) (qsP (fun z=>ZC z.E Za ld rfl rfl Try.underlying62 ty5 hi22.1 (kr0 rfl)) qs0)))))))) ?_
   ·intro a w u hE hM
    have hM:=hM.pull2
    refine Zk (seg:=[(vB (x17 ^^^ x20))]) (cs':=enc (s10.1.setIfInBounds (s10.2).toNat (x17 ^^^ x20))) hE hM Za rfl rfl rfl ty5 rfl (ZR (v:=s10.1) (x:=x17 ^^^ x20) hi22.1) (Flat.cell (x17 ^^^ x20 : UInt8)) (ZE (v:=s10.1) (x:=x17 ^^^ x20) hi22.1) fun w a hM hE=>Zi (Yv (Zw (wp_region_lit (Zl hE rfl rfl rfl fun a hE=>Zd hE rfl fun a hE=>Zi (Zj ?_)))))
    have hM:=hM.pull2.pull2
    exact ⟨_,(ois hs11),hE.sub ⟨rfl,rfl,rfl,rfl,trivial⟩,hM⟩
  ·intro hb14
   have hs11:=Zs hs11 hb14
   refine wp_exit (Zn (Zn (Yy ?_)))
   obtain rfl:=hx12 _ (ois hs11)
   refine Zj ?_
   have hM:=M.fst (l:=[_,_]) hM.pull2.pull1
   exact ⟨hE.sub ⟨rfl,rfl,trivial⟩,hM⟩
 ·skip
  rintro a w ⟨hE,hM⟩
  refine Zw (Zb (Zp hE rfl ZK rfl hM.rawAt1 (Flat.len _) fun a hE=>Zk (seg:=enc j7) (cs':=enc j7) hE hM Za rfl rfl rfl ZK (Flat.len _) (zle flq) (Flat.cell _) (Zh flq) fun w a hM hE=>Ze ?_))
  obtain rfl:=Option.some.inj hF9
  have hq26 : Z6 Try.prog _ _ (.cell 4 62) _:=ZD hE rfl ZK rfl hM.rawAt0 (Flat.len _) rfl
  exact wp_ret (ZU hE rfl hq26 ⟨_,rfl,rfl,hM.kept⟩)
def YR (p0 : (Ref Gengine)) (s35 : (Vector UInt8 16) × Int) : Option (Fl ((Vector UInt8 16) × Int) (Vector UInt8 16)) :=
 if (decide (s35.2 < 16)) = true then ((ZI s35.1 s35.2).bind fun x42=>(ZI s35.1 (wr (s35.2 - 1))).bind fun x45=>(ZI p0.v.box (bI x45)).bind fun x58=>(ZI s35.1 s35.2).bind fun x61=>some (Fl.nx ((s35.1.setIfInBounds (s35.2).toNat (x42 ^^^ x58)),wr (s35.2 + 1)))) else (some (Fl.ex s35.1))
def Xt (p0 : (Ref Gengine)) (p1 : (Vector UInt8 16)) (p2 : Int) : Option ((Vector UInt8 16)) :=
 ((ZI p1 (0 : Int)).bind fun x10=>(ZI p1 (15 : Int)).bind fun x13=>(ZI p0.v.box (bI (x13 ^^^ (Zz p2)))).bind fun x26=>(ZI p1 (0 : Int)).bind fun x29=>some (p1.setIfInBounds ((0 : Int)).toNat (x10 ^^^ x26)) : Option ((Vector UInt8 16))).bind fun j5=>(ZF (YR p0) (j5,1)).bind fun j32=>some j32
theorem Qa (w0 : World) (p0 : (Ref Gengine)) (v0_1 : Value) (hv0_1 : Ro w0 p0 [v0_1]) (p1 : (Vector UInt8 16)) (p2 : Int) (r : (Vector UInt8 16)) (hF : Xt p0 p1 p2 = some r) :
  Calls Try.prog 161 [v0_1,(Value.agg (enc p1).toArray),vI p2].toArray w0 (Rt w0 (Value.agg (enc r).toArray)):=by
 refine ce Try.func161 ?_
 intro a hE
 have hM:=M.start w0
 unfold Xt at hF
 refine Zb (Z7 (cs:=enc p1) hE hM Za ld rfl rfl fun b1 w a hM hE=>Zv hE hM ZK fun b3 w a hM hE=>Ze ?_)
 obtain ⟨j5,hl6,hF7⟩:=bind_some hF
 refine ZB (fun a w=>Env 41 a [(0,v0_1),(4,(ptr b1 0)),(6,(ptr b3 0))] ∧ M (Old w0) w0 w [raw b3 (enc (Vector.replicate 16 (0 : UInt8))),raw b1 (enc j5)]) ?_ ?_
 ·skip
  obtain ⟨x10,hi9,hl6⟩:=bvx hl6
  obtain ⟨x13,hi12,hl6⟩:=bvx hl6
  obtain ⟨pb15,ds16,hv17,hx18,hA19,hB20⟩:=Uk hv0_1 -- ^
  obtain ⟨u21,u23,rfl,h22,h24⟩:=UQ hx18 -- ^
  obtain ⟨x26,hi25,hl6⟩:=bvx hl6
  obtain ⟨x29,hi28,hl6⟩:=bvx hl6
  refine ZP [8,9,10,11,12,13,14,15,16,17,18,19,20,21] Yr rfl rfl (by decide) rfl hE hM (qsP (fun z=>ZC z.E Za ld rfl rfl Try.underlying62 ty5 hi9.1 (kr0 rfl)) (qsP (fun z=>ZN (v:=(vB x10)) z.E Za ld rfl ty5 rfl (At.vec (z.M.rawAt1) hi9.2) (kr0 rfl)) (qsP (fun z=>Zg z.E Za ld rfl (kr0 rfl)) (qsP (fun z=>ZC z.E Za ld rfl rfl Try.underlying62 ty5 hi12.1 (kr0 rfl)) (qsP (fun z=>ZN (v:=(vB x13)) z.E Za ld rfl ty5 rfl (At.vec (z.M.rawAt1) hi12.2) (kr0 rfl)) (qsP (fun z=>Zg z.E Za ld rfl (kr0 rfl)) (qsP (fun z=>Xc z.E Za ld rfl Try.underlying2 Try.underlying5 (kr0 rfl)) (qsP (v:=(vB (x13 ^^^ (Zz p2)))) (fun z=>Z1 z.E Za ld rfl rfl (VK x13 (Zz p2)) (kr0 rfl)) (qsP (fun z=>Yh z.E Za ld (lk rfl hv17) (kr0 rfl)) (qsP (fun z=>Zo z.E Za ld rfl (BK) (kr0 rfl)) (qsP (fun z=>ZC z.E Za ld rfl rfl Try.underlying54 ty5 hi25.1 (kr0 rfl)) (qsP (fun z=>ZN (v:=(vB x26)) z.E Za ld rfl ty5 rfl (At.vec (At.cat (pre:=[]) (z.M.atk hA19 hB20) cl0) hi25.2) (kr0 rfl)) (qsP (v:=(vB (x10 ^^^ x26))) (fun z=>Z1 z.E Za ld rfl rfl (VK x10 x26) (kr0 rfl)) (qsP (fun z=>ZC z.E Za ld rfl rfl Try.underlying62 ty5 hi28.1 (kr0 rfl)) qs0)))))))))))))) ?_
  ·intro a w u hE hM
   have hM:=hM.pull1
   refine Zk (seg:=[(vB (x10 ^^^ x26))]) (cs':=enc (p1.setIfInBounds ((0 : Int)).toNat (x10 ^^^ x26))) hE hM Za rfl rfl rfl ty5 rfl (ZR (v:=p1) (x:=x10 ^^^ x26) hi28.1) (Flat.cell (x10 ^^^ x26 : UInt8)) (ZE (v:=p1) (x:=x10 ^^^ x26) hi28.1) fun w a hM hE=>Zi ?_
   obtain rfl:=Option.some.inj hl6
   refine Zj ?_
   have hM:=hM.pull1
   exact ⟨hE.sub ⟨rfl,rfl,rfl,trivial⟩,hM⟩
 ·skip
  rintro a w ⟨hE,hM⟩
  refine wp_seq (Zb (Zc hE rfl fun a hE=>Ze ?_))
  obtain ⟨j32,hl33,hF34⟩:=bind_some hF7
  refine ZW (fun a w=>Env 41 a [(4,(ptr b1 0)),(6,(ptr b3 0))] ∧ M (Old w0) w0 w [raw b3 (enc (Vector.replicate 16 (0 : UInt8))),raw b1 (enc j32)]) ?_ ?_
  ·skip
   refine wp_block ?_
   refine ZM (fun (s35 : (Vector UInt8 16) × Int) a w=>Env 41 a [(0,v0_1),(4,(ptr b1 0)),(6,(ptr b3 0)),(7,vI s35.2)] ∧ M (Old w0) w0 w [raw b3 (enc (Vector.replicate 16 (0 : UInt8))),raw b1 (enc s35.1)]) hl33 ⟨hE.sub ⟨rfl,rfl,rfl,rfl,trivial⟩,hM⟩ ?_
   rintro s35 a w ⟨hE,hM⟩ o38 hs36 hx37
   unfold YR at hs36
   refine wp_seq (Zb (Zd hE rfl fun a hE=>Zl hE rfl rfl rfl fun a hE=>Ze ?_))
   refine Zq hE rfl ?_ ?_
   ·intro hb39
    have hs36:=Zt hs36 hb39
    refine wp_skip (Zw (wp_seq (wp_block ?_)))
    obtain ⟨x42,hi41,hs36⟩:=bvx hs36
    obtain ⟨x45,hi44,hs36⟩:=bvx hs36
    obtain ⟨pb47,ds48,hv49,hx50,hA51,hB52⟩:=Uk hv0_1 -- ^
    obtain ⟨u53,u55,rfl,h54,h56⟩:=UQ hx50 -- ^
    obtain ⟨x58,hi57,hs36⟩:=bvx hs36
    obtain ⟨x61,hi60,hs36⟩:=bvx hs36
    refine ZP [26,27,28,29,30,31,32,33,34,35,36,37,38,39] Yr rfl rfl (by decide) rfl hE hM (qsP (fun z=>Zg z.E Za ld rfl (kr0 rfl)) (qsP (fun z=>ZC z.E Za ld rfl rfl Try.underlying62 ty5 hi41.1 (kr0 rfl)) (qsP (fun z=>ZN (v:=(vB x42)) z.E Za ld rfl ty5 rfl (At.vec (z.M.rawAt1) hi41.2) (kr0 rfl)) (qsP (fun z=>Zg z.E Za ld rfl (kr0 rfl)) (qsP (fun z=>Zg z.E Za ld rfl (kr0 rfl)) (qsP (v:=(vI (wr (s35.2 - 1)))) (fun z=>Z1 z.E Za ld rfl rfl rfl (kr0 rfl)) (qsP (fun z=>ZC z.E Za ld rfl rfl Try.underlying62 ty5 hi44.1 (kr0 rfl)) (qsP (fun z=>ZN (v:=(vB x45)) z.E Za ld rfl ty5 rfl (At.vec (z.M.rawAt1) hi44.2) (kr0 rfl)) (qsP (fun z=>Yh z.E Za ld (lk rfl hv49) (kr0 rfl)) (qsP (fun z=>Zo z.E Za ld rfl (BK) (kr0 rfl)) (qsP (fun z=>ZC z.E Za ld rfl rfl Try.underlying54 ty5 hi57.1 (kr0 rfl)) (qsP (fun z=>ZN (v:=(vB x58)) z.E Za ld rfl ty5 rfl (At.vec (At.cat (pre:=[]) (z.M.atk hA51 hB52) cl0) hi57.2) (kr0 rfl)) (qsP (v:=(vB (x42 ^^^ x58))) (fun z=>Z1 z.E Za ld rfl rfl (VK x42 x58) (kr0 rfl)) (qsP (fun z=>ZC z.E Za ld rfl rfl Try.underlying62 ty5 hi60.1 (kr0 rfl)) qs0)))))))))))))) ?_
    ·intro a w u hE hM
     have hM:=hM.pull1
     refine Zk (seg:=[(vB (x42 ^^^ x58))]) (cs':=enc (s35.1.setIfInBounds (s35.2).toNat (x42 ^^^ x58))) hE hM Za rfl rfl rfl ty5 rfl (ZR (v:=s35.1) (x:=x42 ^^^ x58) hi60.1) (Flat.cell (x42 ^^^ x58 : UInt8)) (ZE (v:=s35.1) (x:=x42 ^^^ x58) hi60.1) fun w a hM hE=>Zi (Yv (Zw (wp_region_lit (Zd hE rfl fun a hE=>Zl hE rfl rfl rfl fun a hE=>Zc hE rfl fun a hE=>Zi (Zj ?_)))))
     have hM:=hM.pull1
     exact ⟨_,(ois hs36),hE.sub ⟨rfl,rfl,rfl,rfl,trivial⟩,hM⟩
   ·intro hb39
    have hs36:=Zs hs36 hb39
    refine wp_exit (Zn (Zn (Yy ?_)))
    obtain rfl:=hx37 _ (ois hs36)
    refine Zj ?_
    exact ⟨hE.sub ⟨rfl,rfl,trivial⟩,hM⟩
  ·skip
   rintro a w ⟨hE,hM⟩
   refine Zw (Zb (Zp hE rfl ZK rfl hM.rawAt1 (Flat.len _) fun a hE=>Zk (seg:=enc j32) (cs':=enc j32) hE hM Za rfl rfl rfl ZK (Flat.len _) (zle flq) (Flat.cell _) (Zh flq) fun w a hM hE=>Ze ?_))
   obtain rfl:=Option.some.inj hF34
   have hq64 : Z6 Try.prog _ _ (.cell 6 62) _:=ZD hE rfl ZK rfl hM.rawAt0 (Flat.len _) rfl
   exact wp_ret (ZU hE rfl hq64 ⟨_,rfl,rfl,hM.kept⟩)
def Xi (p0 : (Ref Gengine)) (p2 : Int) (s10 : (Vector UInt8 16) × (List (Vector UInt8 16)) × Int) : Option (Fl ((Vector UInt8 16) × (List (Vector UInt8 16)) × Int) (List (Vector UInt8 16))) :=
 if (decide (s10.2.2 ≤ p2)) = true then ((Xt p0 s10.1 s10.2.2).bind fun r17=>(app 16 s10.2.1 ([r17] : List (Vector UInt8 16))).bind fun l21=>some (Fl.nx (r17,(s10.2.1 ++ ([r17] : List (Vector UInt8 16))),wr (s10.2.2 + 1)))) else (some (Fl.ex s10.2.1))
def Wq (p0 : (Ref Gengine)) (p1 : (Vector UInt8 16)) (p2 : Int) : Option ((List (Vector UInt8 16))) :=
 (ZF (Xi p0 p2) (p1,([p1] : List (Vector UInt8 16)),1)).bind fun j5=>some j5
theorem QV (w0 : World) (p0 : (Ref Gengine)) (v0_1 : Value) (hv0_1 : Ro w0 p0 [v0_1]) (p1 : (Vector UInt8 16)) (p2 : Int) (r : (List (Vector UInt8 16))) (hF : Wq p0 p1 p2 = some r) :
  Calls Try.prog 94 [v0_1,(Value.agg (enc p1).toArray),vI p2].toArray w0 (fun en w'=>∃ v,en = .returned v ∧ (∃ (y1 : Value),v = y1 ∧ Fr w0 w' [osl NoB (r : List (Vector UInt8 16)) y1] ∧ Kept (Old w0) w0 w')):=by
 refine ce Try.func94 ?_
 intro a hE
 have hM:=M.start w0
 unfold Wq at hF
 refine Zb (Z7 (cs:=enc p1) hE hM Za ld rfl rfl fun b1 w a hM hE=>Zc hE rfl fun a hE=>Ze (Zb (Zp hE rfl ZK rfl hM.rawAt0 (Flat.len _) fun a hE=>Z3 (xs:=[.tmp 9]) (l:=([p1] : List (Vector UInt8 16))) (vs:=[(Value.agg (enc p1).toArray)]) hE hM Za ld rfl rfl Try.underlying136 ZK rfl (by decide) rfl fun u3 w a hM hE=>Zc hE rfl fun a hE=>Ze (wp_seq (Zb (Zc hE rfl fun a hE=>Ze ?_))))))
 obtain ⟨j5,hl6,hF7⟩:=bind_some hF
 refine ZW (fun a w=>∃ (u8 : Value),Env 25 a [(7,u8)] ∧ M (Old w0) w0 w [osl NoB (j5 : List (Vector UInt8 16)) u8]) ?_ ?_
 ·skip
  refine wp_block ?_
  have hM:=hM.pull1
  refine ZM (fun (s10 : (Vector UInt8 16) × (List (Vector UInt8 16)) × Int) a w=>∃ (u11 : Value),Env 25 a [(0,v0_1),(2,vI p2),(4,(ptr b1 0)),(7,u11),(8,vI s10.2.2)] ∧ M (Old w0) w0 w [raw b1 (enc s10.1),osl NoB (s10.2.1 : List (Vector UInt8 16)) u11]) hl6 ⟨u3,hE.sub ⟨rfl,rfl,rfl,rfl,rfl,trivial⟩,hM⟩ ?_
  rintro s10 a w ⟨u11,hE,hM⟩ o15 hs13 hx14
  unfold Xi at hs13
  refine wp_seq (Zb (Zd hE rfl fun a hE=>Zd hE rfl fun a hE=>Zl hE rfl rfl rfl fun a hE=>Ze ?_))
  refine Zq hE rfl ?_ ?_
  ·intro hb16
   have hs13:=Zt hs13 hb16
   refine wp_skip (Zw (wp_seq (wp_block (Zb (Zd hE rfl fun a hE=>Zp hE rfl ZK rfl hM.rawAt0 (Flat.len _) fun a hE=>Zd hE rfl ?_))))); intro a hE
   obtain ⟨r17,e18,hs13⟩:=bind_some hs13
   refine Zy hE rfl (cbm Try.func161) (Qa _ p0 v0_1 (hM.rdo hv0_1) s10.1 s10.2.2 r17 e18) ?_
   rintro v w a ⟨rfl,hK⟩ hE
   have hM:=hM.keep hK
   refine Zk (seg:=enc r17) (cs':=enc r17) hE hM Za rfl rfl rfl ZK (Flat.len _) (zle flq) (Flat.cell _) (Zh flq) fun w a hM hE=>Ze (wp_region_lit (Zd hE rfl fun a hE=>Zp hE rfl ZK rfl hM.rawAt0 (Flat.len _) fun a hE=>Z3 (xs:=[.tmp 21]) (l:=([r17] : List (Vector UInt8 16))) (vs:=[(Value.agg (enc r17).toArray)]) hE hM Za ld rfl rfl Try.underlying136 ZK rfl (by decide) rfl ?_)); intro u19 w a hM hE
   obtain ⟨l21,e22,hs13⟩:=bind_some hs13
   obtain ⟨e25,rfl⟩:=Yn e22
   have hM:=hM.pull2
   refine Yf hE hM Za ld rfl rfl (hM.sl (pre:=[_]) noB) Try.underlying136 ZK rfl (by decide) e25 fun u23 w a hM hE=>Zc hE rfl fun a hE=>Zi (Yv (Zw (wp_region_lit (Zd hE rfl fun a hE=>Zl hE rfl rfl rfl fun a hE=>Zc hE rfl fun a hE=>Zi (Zj ?_)))))
   have hM:=M.fst (l:=[_,_]) hM.pull2
   exact ⟨_,(ois hs13),u23,hE.sub ⟨rfl,rfl,rfl,rfl,rfl,trivial⟩,hM⟩
  ·intro hb16
   have hs13:=Zs hs13 hb16
   refine wp_exit (Zn (Zn (Yy ?_)))
   obtain rfl:=hx14 _ (ois hs13)
   refine Zj ?_
   have hM:=M.fst (l:=[_]) hM.pull1
   exact ⟨u11,hE.sub ⟨rfl,trivial⟩,hM⟩
 ·skip
  rintro a w ⟨u8,hE,hM⟩
  refine Zw (Zb (Zd hE rfl fun a hE=>Zc hE rfl fun a hE=>Ze ?_))
  obtain rfl:=Option.some.inj hF7
  exact wp_ret (ZU hE rfl (ZV hE rfl) ⟨_,rfl,u8,rfl,hM.outF (X2 Wy),hM.kept⟩)
def Xl (p0 : (Vector UInt8 16)) (p1 : (Vector UInt8 16)) (s12 : (Vector UInt8 16) × Int) : Option (Fl ((Vector UInt8 16) × Int) (Vector UInt8 16)) :=
 if (decide (s12.2 < 16)) = true then ((ZI p0 s12.2).bind fun x17=>(ZI p1 (bI x17)).bind fun x21=>(ZI s12.1 s12.2).bind fun x24=>some (Fl.nx ((s12.1.setIfInBounds (s12.2).toNat x21),wr (s12.2 + 1)))) else (some (Fl.ex s12.1))
def Wp (p0 : (Vector UInt8 16)) (p1 : (Vector UInt8 16)) : Option ((Vector UInt8 16)) :=
 (ZF (Xl p0 p1) ((Vector.replicate 16 (0 : UInt8)),0)).bind fun j9=>some j9
theorem QO (w0 : World) (p0 : (Vector UInt8 16)) (p1 : (Vector UInt8 16)) (r : (Vector UInt8 16)) (hF : Wp p0 p1 = some r) :
  Calls Try.prog 160 [(Value.agg (enc p0).toArray),(Value.agg (enc p1).toArray)].toArray w0 (Rt w0 (Value.agg (enc r).toArray)):=by
 refine ce Try.func160 ?_
 intro a hE
 have hM:=M.start w0
 unfold Wp at hF
 refine Zb (Z7 (cs:=enc p0) hE hM Za ld rfl rfl fun b1 w a hM hE=>Z7 (cs:=enc p1) hE hM Za ld rfl rfl fun b3 w a hM hE=>Zv hE hM ZK fun b5 w a hM hE=>Ze (Zb (Yx (parts:=[]) (vs:=[]) (cs:=enc (Vector.replicate 16 (0 : UInt8))) hE Za ld rfl rfl ZK rfl ty5 Yk fun a hE=>Zv hE hM ZK fun b7 w a hM hE=>Zk (seg:=enc (Vector.replicate 16 (0 : UInt8))) (cs':=enc (Vector.replicate 16 (0 : UInt8))) hE hM Za rfl rfl rfl ZK (Flat.len _) (zle flq) (Flat.cell _) (Zh flq) fun w a hM hE=>Ze (wp_seq (Zb (Zp hE rfl QA rfl hM.rawAt3 (Flat.len _) fun a hE=>Zd hE rfl fun a hE=>Ze ?_))))))
 obtain ⟨j9,hl10,hF11⟩:=bind_some hF
 refine ZW (fun a w=>Env 21 a [(4,(ptr b5 0)),(5,(ptr b7 0))] ∧ M (Old w0) w0 w [raw b7 (enc j9),raw b5 (enc (Vector.replicate 16 (0 : UInt8)))]) ?_ ?_
 ·skip
  refine wp_block ?_
  have hM:=M.fst (l:=[_,_,_]) hM.pull2.pull2.pull2
  refine ZM (fun (s12 : (Vector UInt8 16) × Int) a w=>Env 21 a [(3,(ptr b3 0)),(4,(ptr b5 0)),(5,(ptr b7 0)),(9,(Value.agg (enc p0).toArray)),(10,vI s12.2)] ∧ M (Old w0) w0 w [raw b7 (enc s12.1),raw b5 (enc (Vector.replicate 16 (0 : UInt8))),raw b3 (enc p1)]) hl10 ⟨hE.sub ⟨rfl,rfl,rfl,rfl,rfl,trivial⟩,hM⟩ ?_
  rintro s12 a w ⟨hE,hM⟩ o15 hs13 hx14
  unfold Xl at hs13
  refine Zb (Zl hE rfl rfl rfl fun a hE=>Ze (wp_seq ?_))
  refine Zq hE rfl ?_ ?_
  ·intro hb16
   have hs13:=Zt hs13 hb16
   refine wp_skip (Zw (wp_seq (wp_block (Zb (Zd hE rfl ?_))))); intro a hE
   obtain ⟨x17,hi19,hs13⟩:=bvx hs13
   refine To hE Za ld rfl rfl Try.underlying59 ty5 rfl rfl hi19 rfl fun a hE=>Zc hE rfl fun a hE=>Zc hE rfl fun a hE=>Ze (wp_region_lit (Zd hE rfl fun a hE=>Zd hE rfl ?_)); intro a hE
   obtain ⟨x21,hi20,hs13⟩:=bvx hs13
   refine ZH hE rfl rfl Try.underlying62 ty5 hi20.1 fun a hE=>ZQ (v:=(vB x21)) hE rfl ty5 rfl (At.vec hM.rawAt2 hi20.2) ?_; intro a hE
   obtain ⟨x24,hi23,hs13⟩:=bvx hs13
   refine ZH hE rfl rfl Try.underlying62 ty5 hi23.1 fun a hE=>Zk (seg:=[vB x21]) (cs':=enc (s12.1.setIfInBounds (s12.2).toNat x21)) hE hM Za rfl rfl rfl ty5 rfl (ZR (v:=s12.1) (x:=x21) hi23.1) (Flat.cell (x21 : UInt8)) (ZE (v:=s12.1) (x:=x21) hi23.1) fun w a hM hE=>Zi (Yv (Zw (wp_region_lit (Zl hE rfl rfl rfl fun a hE=>Zd hE rfl fun a hE=>Zi (Zj ?_)))))
   exact ⟨_,(ois hs13),hE.sub ⟨rfl,rfl,rfl,rfl,rfl,trivial⟩,hM⟩
  ·intro hb16
   have hs13:=Zs hs13 hb16
   refine wp_exit (Zn (Zn (Yy ?_)))
   obtain rfl:=hx14 _ (ois hs13)
   refine Zj ?_
   have hM:=M.fst (l:=[_,_]) hM.pull1.pull1
   exact ⟨hE.sub ⟨rfl,rfl,trivial⟩,hM⟩
 ·skip
  rintro a w ⟨hE,hM⟩
  refine Zw (Zb (Zp hE rfl ZK rfl hM.rawAt0 (Flat.len _) ?_)); intro a hE
  have hM:=hM.pull1
  refine Zk (seg:=enc j9) (cs':=enc j9) hE hM Za rfl rfl rfl ZK (Flat.len _) (zle flq) (Flat.cell _) (Zh flq) fun w a hM hE=>Ze ?_
  obtain rfl:=Option.some.inj hF11
  have hq27 : Z6 Try.prog _ _ (.cell 4 62) _:=ZD hE rfl ZK rfl hM.rawAt0 (Flat.len _) rfl
  exact wp_ret (ZU hE rfl hq27 ⟨_,rfl,rfl,hM.kept⟩)
def XW (p0 : (Ref (Vector (Vector (Vector UInt8 256) 4) 4))) (s4 : (Vector UInt8 16) × Int) (j9 : UInt8 × UInt8 × UInt8 × UInt8) (s29 : (Vector UInt8 16) × Int) : Option (Fl ((Vector UInt8 16) × Int) (Vector UInt8 16)) :=
 if (decide (s29.2 < 4)) = true then ((ZI p0.v s29.2).bind fun x42=>(ZI x42 (0 : Int)).bind fun x45=>(ZI x45 (bI j9.1)).bind fun x48=>(ZI p0.v s29.2).bind fun x57=>(ZI x57 (1 : Int)).bind fun x60=>(ZI x60 (bI j9.2.1)).bind fun x63=>(ZI p0.v s29.2).bind fun x72=>(ZI x72 (2 : Int)).bind fun x75=>(ZI x75 (bI j9.2.2.1)).bind fun x78=>(ZI p0.v s29.2).bind fun x87=>(ZI x87 (3 : Int)).bind fun x90=>(ZI x90 (bI j9.2.2.2)).bind fun x93=>(ZI s29.1 (wr (s4.2 + s29.2))).bind fun x95=>some (Fl.nx ((s29.1.setIfInBounds ((wr (s4.2 + s29.2))).toNat (((x48 ^^^ x63) ^^^ x78) ^^^ x93)),wr (s29.2 + 1)))) else (some (Fl.ex s29.1))
def XX (p0 : (Ref (Vector (Vector (Vector UInt8 256) 4) 4))) (s4 : (Vector UInt8 16) × Int) : Option (Fl ((Vector UInt8 16) × Int) (Vector UInt8 16)) :=
 if (decide (s4.2 < (s4.1.toList.length : Int))) = true then (((ZI s4.1 s4.2).bind fun x13=>(ZI s4.1 (wr (s4.2 + 1))).bind fun x16=>(ZI s4.1 (wr (s4.2 + 2))).bind fun x19=>(ZI s4.1 (wr (s4.2 + 3))).bind fun x22=>some (x13,x16,x19,x22) : Option (UInt8 × UInt8 × UInt8 × UInt8)).bind fun j9=>(ZF (XW p0 s4 j9) (s4.1,0)).bind fun j26=>some (Fl.nx (j26,wr (s4.2 + 4)))) else (some (Fl.ex s4.1))
def Vf (p0 : (Ref (Vector (Vector (Vector UInt8 256) 4) 4))) (p1 : (Vector UInt8 16)) : Option ((Vector UInt8 16)) :=
 (ZF (XX p0) (p1,0)).bind fun j1=>some j1
theorem KN (St : Nat → Prop) (W w0 : World) (its : List Item) (p0 : (Ref (Vector (Vector (Vector UInt8 256) 4) 4))) (v0_1 : Value) (hv0_1 : Rep.sat St W p0 [v0_1] []) (pb1 : Nat) (p1 : (Vector UInt8 16)) (hM : M St W w0 (raw pb1 (enc p1) :: its)) (r : (Vector UInt8 16)) (hF : Vf p0 p1 = some r) :
  Calls Try.prog 159 [v0_1,(Value.slice (some ⟨pb1,0,none⟩) 16 16)].toArray w0 (fun en w'=>∃ v,en = .returned v ∧ (v = (Value.tuple [].toArray) ∧ M St W w' (raw pb1 (enc r) :: its))):=by
 refine ce Try.func159 ?_
 intro a hE
 unfold Vf at hF
 refine Zb (Zc hE rfl fun a hE=>Ze ?_)
 obtain ⟨j1,hl2,hF3⟩:=bind_some hF
 refine ZW (fun a w=>Env 79 a [(1,(Value.slice (some ⟨pb1,0,none⟩) 16 16))] ∧ M St W w (raw pb1 (enc j1) :: its)) ?_ ?_
 ·skip
  refine wp_block ?_
  refine ZM (fun (s4 : (Vector UInt8 16) × Int) a w=>Env 79 a [(0,v0_1),(1,(Value.slice (some ⟨pb1,0,none⟩) 16 16)),(4,vI s4.2)] ∧ M St W w (raw pb1 (enc s4.1) :: its)) hl2 ⟨hE.sub ⟨rfl,rfl,rfl,trivial⟩,hM⟩ ?_
  rintro s4 a w ⟨hE,hM⟩ o7 hs5 hx6
  unfold XX at hs5
  refine wp_seq (Zb (Zd hE rfl fun a hE=>Zd hE rfl fun a hE=>Yq hE rfl Try.underlying22 (ys hM.rawAt0) fun a hE=>Zl hE rfl rfl rfl fun a hE=>Ze ?_))
  refine Zq hE rfl ?_ ?_
  ·intro hb8
   have hs5:=Zt hs5 hb8
   refine wp_skip (Zw (wp_seq (wp_block ?_)))
   obtain ⟨j9,hl10,hF11⟩:=bind_some hs5
   refine ZB (fun a w=>Env 79 a [(0,v0_1),(1,(Value.slice (some ⟨pb1,0,none⟩) 16 16)),(4,vI s4.2),(5,vB j9.1),(6,vB j9.2.1),(7,vB j9.2.2.1),(8,vB j9.2.2.2)] ∧ M St W w (raw pb1 (enc s4.1) :: its)) ?_ ?_
   ·skip
    obtain ⟨x13,hi15,hl10⟩:=bvx hl10
    obtain ⟨x16,hi18,hl10⟩:=bvx hl10
    obtain ⟨x19,hi21,hl10⟩:=bvx hl10
    obtain ⟨x22,hi24,hl10⟩:=bvx hl10
    refine y6 (n:=79) (hd:=[_,_,_,_,_,_,_,_,_,_,_,_,_,_,_,_,_,_,_,_,_,_,_]) (tl:=[]) Yr rfl rfl [16,17,18,19,20,21,22,23,24,25,26,27,28,29,30,31,32,33,34,5,6,7,8] (by decide) (fun w=>M St W w (raw pb1 (enc s4.1) :: its)) (fun j=>([fun v _=>v = (Value.slice (some ⟨pb1,0,none⟩) 16 16),fun v _=>v = (vI s4.2),fun v _=>v = (ptr pb1 (0 + (s4.2).toNat * 1)),fun v _=>v = (vB x13),fun v _=>v = (Value.slice (some ⟨pb1,0,none⟩) 16 16),fun v _=>v = (vI s4.2),fun v _=>v = (vI (wr (s4.2 + 1))),fun v _=>v = (ptr pb1 (0 + ((wr (s4.2 + 1))).toNat * 1)),fun v _=>v = (vB x16),fun v _=>v = (Value.slice (some ⟨pb1,0,none⟩) 16 16),fun v _=>v = (vI s4.2),fun v _=>v = (vI (wr (s4.2 + 2))),fun v _=>v = (ptr pb1 (0 + ((wr (s4.2 + 2))).toNat * 1)),fun v _=>v = (vB x19),fun v _=>v = (Value.slice (some ⟨pb1,0,none⟩) 16 16),fun v _=>v = (vI s4.2),fun v _=>v = (vI (wr (s4.2 + 3))),fun v _=>v = (ptr pb1 (0 + ((wr (s4.2 + 3))).toNat * 1)),fun v _=>v = (vB x22),fun v _=>v = (vB x13),fun v _=>v = (vB x16),fun v _=>v = (vB x19),fun v _=>v = (vB x22)] : List (Value → World → Prop)).getD j (fun _ _=>True)) (fun _ _ h hk=>h.keep hk) (gup gu23) hE hM.drew (st23 ?_ ?_ ?_ ?_ ?_ ?_ ?_ ?_ ?_ ?_ ?_ ?_ ?_ ?_ ?_ ?_ ?_ ?_ ?_ ?_ ?_ ?_ ?_) ?_
    ·exact qm
    ·exact qm
    ·intro a w ux12 hE hM hp
     have f0 : ux12 0 = (Value.slice (some ⟨pb1,0,none⟩) 16 16):=hp 0 _ rfl rfl
     have f1 : ux12 1 = (vI s4.2):=hp 1 _ rfl rfl
     exact U0 hE Za ld (lk rfl f0) (lk rfl f1) Try.underlying22 ty5 hi15.1 fun a hE=>kq rfl hE rfl
    ·intro a w ux12 hE hM hp
     have f2 : ux12 2 = (ptr pb1 (0 + (s4.2).toNat * 1)):=hp 0 _ rfl rfl
     exact ZQ (v:=(vB x13)) hE (lk rfl f2) ty5 rfl (At.vec hM.rawAt0 hi15.2) fun a hE=>kq rfl hE rfl
    ·exact qm
    ·exact qm
    ·intro a w ux12 hE hM hp
     have f5 : ux12 5 = (vI s4.2):=hp 0 _ rfl rfl
     exact Zl hE (lk rfl f5) rfl rfl fun a hE=>kq rfl hE rfl
    ·intro a w ux12 hE hM hp
     have f4 : ux12 4 = (Value.slice (some ⟨pb1,0,none⟩) 16 16):=hp 0 _ rfl rfl
     have f6 : ux12 6 = (vI (wr (s4.2 + 1))):=hp 1 _ rfl rfl
     exact U0 hE Za ld (lk rfl f4) (lk rfl f6) Try.underlying22 ty5 hi18.1 fun a hE=>kq rfl hE rfl
    ·intro a w ux12 hE hM hp
     have f7 : ux12 7 = (ptr pb1 (0 + ((wr (s4.2 + 1))).toNat * 1)):=hp 0 _ rfl rfl
     exact ZQ (v:=(vB x16)) hE (lk rfl f7) ty5 rfl (At.vec hM.rawAt0 hi18.2) fun a hE=>kq rfl hE rfl
    ·exact qm
    ·exact qm
    ·intro a w ux12 hE hM hp
     have f10 : ux12 10 = (vI s4.2):=hp 0 _ rfl rfl
     exact Zl hE (lk rfl f10) rfl rfl fun a hE=>kq rfl hE rfl
    ·intro a w ux12 hE hM hp
     have f9 : ux12 9 = (Value.slice (some ⟨pb1,0,none⟩) 16 16):=hp 0 _ rfl rfl
     have f11 : ux12 11 = (vI (wr (s4.2 + 2))):=hp 1 _ rfl rfl
     exact U0 hE Za ld (lk rfl f9) (lk rfl f11) Try.underlying22 ty5 hi21.1 fun a hE=>kq rfl hE rfl
    ·intro a w ux12 hE hM hp
     have f12 : ux12 12 = (ptr pb1 (0 + ((wr (s4.2 + 2))).toNat * 1)):=hp 0 _ rfl rfl
     exact ZQ (v:=(vB x19)) hE (lk rfl f12) ty5 rfl (At.vec hM.rawAt0 hi21.2) fun a hE=>kq rfl hE rfl
    ·exact qm
    ·exact qm
    ·intro a w ux12 hE hM hp
     have f15 : ux12 15 = (vI s4.2):=hp 0 _ rfl rfl
     exact Zl hE (lk rfl f15) rfl rfl fun a hE=>kq rfl hE rfl
    ·intro a w ux12 hE hM hp
     have f14 : ux12 14 = (Value.slice (some ⟨pb1,0,none⟩) 16 16):=hp 0 _ rfl rfl
     have f16 : ux12 16 = (vI (wr (s4.2 + 3))):=hp 1 _ rfl rfl
     exact U0 hE Za ld (lk rfl f14) (lk rfl f16) Try.underlying22 ty5 hi24.1 fun a hE=>kq rfl hE rfl
    ·intro a w ux12 hE hM hp
     have f17 : ux12 17 = (ptr pb1 (0 + ((wr (s4.2 + 3))).toNat * 1)):=hp 0 _ rfl rfl
     exact ZQ (v:=(vB x22)) hE (lk rfl f17) ty5 rfl (At.vec hM.rawAt0 hi24.2) fun a hE=>kq rfl hE rfl
    ·intro a w ux12 hE hM hp
     have f3 : ux12 3 = (vB x13):=hp 0 _ rfl rfl
     exact Zc hE (lk rfl f3) fun a hE=>kq rfl hE rfl
    ·intro a w ux12 hE hM hp
     have f8 : ux12 8 = (vB x16):=hp 0 _ rfl rfl
     exact Zc hE (lk rfl f8) fun a hE=>kq rfl hE rfl
    ·intro a w ux12 hE hM hp
     have f13 : ux12 13 = (vB x19):=hp 0 _ rfl rfl
     exact Zc hE (lk rfl f13) fun a hE=>kq rfl hE rfl
    ·intro a w ux12 hE hM hp
     have f18 : ux12 18 = (vB x22):=hp 0 _ rfl rfl
     exact Zc hE (lk rfl f18) fun a hE=>kq rfl hE rfl
    ·intro a w ux12 hE hM hg
     have hE:=hE.sub (e':=[(5,vB x13),(6,vB x16),(7,vB x19),(8,vB x22),(0,v0_1),(1,(Value.slice (some ⟨pb1,0,none⟩) 16 16)),(4,vI s4.2),(10,vI s4.2),(11,(Value.slice (some ⟨pb1,0,none⟩) 16 16)),(12,(vI (s4.1.toList.length : Int))),(13,(vT (decide (s4.2 < (s4.1.toList.length : Int)))))]) ⟨lk rfl (hg 19 (by decide)),lk rfl (hg 20 (by decide)),lk rfl (hg 21 (by decide)),lk rfl (hg 22 (by decide)),rfl,rfl,rfl,rfl,rfl,rfl,rfl,trivial⟩
     refine Zi ?_
     obtain rfl:=Option.some.inj hl10
     refine Zj ?_
     exact ⟨hE.sub ⟨rfl,rfl,rfl,rfl,rfl,rfl,rfl,trivial⟩,hM⟩
   ·skip
    rintro a w ⟨hE,hM⟩
    refine Zb (Zd hE rfl fun a hE=>Ze ?_)
    obtain ⟨j26,hl27,hF28⟩:=bind_some hF11
    refine ZW (fun a w=>Env 79 a [(0,v0_1),(1,(Value.slice (some ⟨pb1,0,none⟩) 16 16)),(4,vI s4.2)] ∧ M St W w (raw pb1 (enc j26) :: its)) ?_ ?_
    ·skip
     refine wp_block ?_
     refine ZM (fun (s29 : (Vector UInt8 16) × Int) a w=>Env 79 a [(0,v0_1),(1,(Value.slice (some ⟨pb1,0,none⟩) 16 16)),(4,vI s4.2),(5,vB j9.1),(6,vB j9.2.1),(7,vB j9.2.2.1),(8,vB j9.2.2.2),(35,vI s29.2)] ∧ M St W w (raw pb1 (enc s29.1) :: its)) hl27 ⟨hE.sub ⟨rfl,rfl,rfl,rfl,rfl,rfl,rfl,rfl,trivial⟩,hM⟩ ?_
     rintro s29 a w ⟨hE,hM⟩ o32 hs30 hx31
     unfold XW at hs30
     refine Zb (Zl hE rfl rfl rfl fun a hE=>Ze (wp_seq ?_))
     refine Zq hE rfl ?_ ?_
     ·intro hb33
      have hs30:=Zt hs30 hb33
      refine wp_skip (Zw (wp_seq (wp_block (Zb (Zd hE rfl fun a hE=>Zc hE rfl fun a hE=>Ze ?_)))))
      obtain ⟨pb35,ds36,hv37,hx38,hA39,hB40⟩:=Uk hv0_1 -- ^
      obtain ⟨rfl,_⟩:=Qd.1 hx38 -- ^
      obtain ⟨x42,hi41,hs30⟩:=bvx hs30
      obtain ⟨x45,hi44,hs30⟩:=bvx hs30
      obtain ⟨x48,hi47,hs30⟩:=bvx hs30
      obtain ⟨pb50,ds51,hv52,hx53,hA54,hB55⟩:=Uk hv0_1 -- ^
      obtain ⟨rfl,_⟩:=Qd.1 hx53 -- ^
      obtain ⟨x57,hi56,hs30⟩:=bvx hs30
      obtain ⟨x60,hi59,hs30⟩:=bvx hs30
      obtain ⟨x63,hi62,hs30⟩:=bvx hs30
      obtain ⟨pb65,ds66,hv67,hx68,hA69,hB70⟩:=Uk hv0_1 -- ^
      obtain ⟨rfl,_⟩:=Qd.1 hx68 -- ^
      obtain ⟨x72,hi71,hs30⟩:=bvx hs30
      obtain ⟨x75,hi74,hs30⟩:=bvx hs30
      obtain ⟨x78,hi77,hs30⟩:=bvx hs30
      obtain ⟨pb80,ds81,hv82,hx83,hA84,hB85⟩:=Uk hv0_1 -- ^
      obtain ⟨rfl,_⟩:=Qd.1 hx83 -- ^
      obtain ⟨x87,hi86,hs30⟩:=bvx hs30
      obtain ⟨x90,hi89,hs30⟩:=bvx hs30
      obtain ⟨x93,hi92,hs30⟩:=bvx hs30
      obtain ⟨x95,hi97,hs30⟩:=bvx hs30
      refine y6 (n:=79) (hd:=[_,_,_,_,_,_,_,_,_,_,_,_,_,_,_,_,_,_,_,_,_,_,_,_,_,_,_,_,_,_,_,_,_,_,_,_,_,_,_,_]) (tl:=[_]) Yr rfl rfl [38,39,40,41,42,43,44,45,46,47,48,49,50,51,52,53,54,55,56,57,58,59,60,61,62,63,64,65,66,67,68,69,70,71,72,73,74,75,76,77] (by decide) (fun w=>M St W w (raw pb1 (enc s29.1) :: its)) (fun j=>([fun v _=>v = (Value.slice (some ⟨pb1,0,none⟩) 16 16),fun v _=>v = (vI s4.2),fun v _=>v = (vI s29.2),fun v _=>v = (vI (wr (s4.2 + s29.2))),fun v _=>v = v0_1,fun v _=>v = (vI s29.2),fun v _=>v = (vB j9.1),fun v _=>v = (ptr pb35 0),fun v _=>v = (ptr pb35 (0 + (s29.2).toNat * 1024)),fun v _=>v = (ptr pb35 (0 + (s29.2).toNat * 1024 + ((0 : Int)).toNat * 256)),fun v _=>v = (ptr pb35 (0 + (s29.2).toNat * 1024 + ((0 : Int)).toNat * 256 + ((bI j9.1)).toNat * 1)),fun v _=>v = (vB x48),fun v _=>v = v0_1,fun v _=>v = (vI s29.2),fun v _=>v = (vB j9.2.1),fun v _=>v = (ptr pb50 0),fun v _=>v = (ptr pb50 (0 + (s29.2).toNat * 1024)),fun v _=>v = (ptr pb50 (0 + (s29.2).toNat * 1024 + ((1 : Int)).toNat * 256)),fun v _=>v = (ptr pb50 (0 + (s29.2).toNat * 1024 + ((1 : Int)).toNat * 256 + ((bI j9.2.1)).toNat * 1)),fun v _=>v = (vB x63),fun v _=>v = (vB (x48 ^^^ x63)),fun v _=>v = v0_1,fun v _=>v = (vI s29.2),fun v _=>v = (vB j9.2.2.1),fun v _=>v = (ptr pb65 0),fun v _=>v = (ptr pb65 (0 + (s29.2).toNat * 1024)),fun v _=>v = (ptr pb65 (0 + (s29.2).toNat * 1024 + ((2 : Int)).toNat * 256)),fun v _=>v = (ptr pb65 (0 + (s29.2).toNat * 1024 + ((2 : Int)).toNat * 256 + ((bI j9.2.2.1)).toNat * 1)),fun v _=>v = (vB x78),fun v _=>v = (vB ((x48 ^^^ x63) ^^^ x78)),fun v _=>v = v0_1,fun v _=>v = (vI s29.2),fun v _=>v = (vB j9.2.2.2),fun v _=>v = (ptr pb80 0),fun v _=>v = (ptr pb80 (0 + (s29.2).toNat * 1024)),fun v _=>v = (ptr pb80 (0 + (s29.2).toNat * 1024 + ((3 : Int)).toNat * 256)),fun v _=>v = (ptr pb80 (0 + (s29.2).toNat * 1024 + ((3 : Int)).toNat * 256 + ((bI j9.2.2.2)).toNat * 1)),fun v _=>v = (vB x93),fun v _=>v = (vB (((x48 ^^^ x63) ^^^ x78) ^^^ x93)),fun v _=>v = (ptr pb1 (0 + ((wr (s4.2 + s29.2))).toNat * 1))] : List (Value → World → Prop)).getD j (fun _ _=>True)) (fun _ _ h hk=>h.keep hk) (gup (Y4 (Y4 (Y4 (Y4 (Y4 (Y4 (Y4 (Y4 (Y4 (Y4 (Y4 (Y4 (Y4 (Y4 (Y4 (Y4 (Y4 (Y4 (Y4 (Y4 (Y4 (Y4 (Y4 (Y4 (Y4 (Y4 (Y4 (Y4 (Y4 (Y4 (Y4 (Y4 (Y4 (Y4 (Y4 (Y4 (Y4 (Y4 (Y4 (Y4 gupN))))))))))))))))))))))))))))))))))))))))) hE hM.drew (AD (Zu ?_ (Zu ?_ (Zu ?_ (Zu ?_ (Zu ?_ (Zu ?_ (Zu ?_ (Zu ?_ (Zu ?_ (Zu ?_ (Zu ?_ (Zu ?_ (Zu ?_ (Zu ?_ (Zu ?_ (Zu ?_ (Zu ?_ (Zu ?_ (Zu ?_ (Zu ?_ (Zu ?_ (Zu ?_ (Zu ?_ (Zu ?_ (Zu ?_ (Zu ?_ (Zu ?_ (Zu ?_ (Zu ?_ (Zu ?_ (Zu ?_ (Zu ?_ (Zu ?_ (Zu ?_ (Zu ?_ (Zu ?_ (Zu ?_ (Zu ?_ (Zu ?_ (Zu ?_ Bf))))))))))))))))))))))))))))))))))))))))) ?_
      ·exact qm
      ·exact qm
      ·exact qm
      ·intro a w ux34 hE hM hp
       have f1 : ux34 1 = (vI s4.2):=hp 0 _ rfl rfl
       have f2 : ux34 2 = (vI s29.2):=hp 1 _ rfl rfl
       exact Zl hE (lk rfl f1) (lk rfl f2) rfl fun a hE=>kq rfl hE rfl
      ·exact qm
      ·exact qm
      ·exact qm
      ·intro a w ux34 hE hM hp
       have f4 : ux34 4 = v0_1:=hp 0 _ rfl rfl
       exact Yh hE Za ld (lk (lk rfl f4) hv37) fun a hE=>kq rfl hE rfl
      ·intro a w ux34 hE hM hp
       have f5 : ux34 5 = (vI s29.2):=hp 1 _ rfl rfl
       have f7 : ux34 7 = (ptr pb35 0):=hp 0 _ rfl rfl
       exact ZH hE (lk rfl f7) (lk rfl f5) Try.underlying231 J1 hi41.1 fun a hE=>kq rfl hE rfl
      ·intro a w ux34 hE hM hp
       have f8 : ux34 8 = (ptr pb35 (0 + (s29.2).toNat * 1024)):=hp 0 _ rfl rfl
       exact ZH hE (lk rfl f8) rfl Try.underlying229 ty53 hi44.1 fun a hE=>kq rfl hE rfl
      ·intro a w ux34 hE hM hp
       have f6 : ux34 6 = (vB j9.1):=hp 1 _ rfl rfl
       have f9 : ux34 9 = (ptr pb35 (0 + (s29.2).toNat * 1024 + ((0 : Int)).toNat * 256)):=hp 0 _ rfl rfl
       exact ZH hE (lk rfl f9) (lk rfl f6) Try.underlying53 ty5 hi47.1 fun a hE=>kq rfl hE rfl
      ·intro a w ux34 hE hM hp
       have f10 : ux34 10 = (ptr pb35 (0 + (s29.2).toNat * 1024 + ((0 : Int)).toNat * 256 + ((bI j9.1)).toNat * 1)):=hp 0 _ rfl rfl
       exact ZQ (v:=(vB x48)) hE (lk rfl f10) ty5 rfl (At.vec (At.vec (At.vec (hM.atk hA39 hB40) hi41.2) hi44.2) hi47.2) fun a hE=>kq rfl hE rfl
      ·exact qm
      ·exact qm
      ·exact qm
      ·intro a w ux34 hE hM hp
       have f12 : ux34 12 = v0_1:=hp 0 _ rfl rfl
       exact Yh hE Za ld (lk (lk rfl f12) hv52) fun a hE=>kq rfl hE rfl
      ·intro a w ux34 hE hM hp
       have f13 : ux34 13 = (vI s29.2):=hp 1 _ rfl rfl
       have f15 : ux34 15 = (ptr pb50 0):=hp 0 _ rfl rfl
       exact ZH hE (lk rfl f15) (lk rfl f13) Try.underlying231 J1 hi56.1 fun a hE=>kq rfl hE rfl
      ·intro a w ux34 hE hM hp
       have f16 : ux34 16 = (ptr pb50 (0 + (s29.2).toNat * 1024)):=hp 0 _ rfl rfl
       exact ZH hE (lk rfl f16) rfl Try.underlying229 ty53 hi59.1 fun a hE=>kq rfl hE rfl
      ·intro a w ux34 hE hM hp
       have f14 : ux34 14 = (vB j9.2.1):=hp 1 _ rfl rfl
       have f17 : ux34 17 = (ptr pb50 (0 + (s29.2).toNat * 1024 + ((1 : Int)).toNat * 256)):=hp 0 _ rfl rfl
       exact ZH hE (lk rfl f17) (lk rfl f14) Try.underlying53 ty5 hi62.1 fun a hE=>kq rfl hE rfl
      ·intro a w ux34 hE hM hp
       have f18 : ux34 18 = (ptr pb50 (0 + (s29.2).toNat * 1024 + ((1 : Int)).toNat * 256 + ((bI j9.2.1)).toNat * 1)):=hp 0 _ rfl rfl
       exact ZQ (v:=(vB x63)) hE (lk rfl f18) ty5 rfl (At.vec (At.vec (At.vec (hM.atk hA54 hB55) hi56.2) hi59.2) hi62.2) fun a hE=>kq rfl hE rfl
      ·intro a w ux34 hE hM hp
       have f11 : ux34 11 = (vB x48):=hp 0 _ rfl rfl
       have f19 : ux34 19 = (vB x63):=hp 1 _ rfl rfl
       exact Zl hE (lk rfl f11) (lk rfl f19) (VK x48 x63) fun a hE=>kq rfl hE rfl
      ·exact qm
      ·exact qm
      ·exact qm
      ·intro a w ux34 hE hM hp
       have f21 : ux34 21 = v0_1:=hp 0 _ rfl rfl
       exact Yh hE Za ld (lk (lk rfl f21) hv67) fun a hE=>kq rfl hE rfl
      ·intro a w ux34 hE hM hp
       have f22 : ux34 22 = (vI s29.2):=hp 1 _ rfl rfl
       have f24 : ux34 24 = (ptr pb65 0):=hp 0 _ rfl rfl
       exact ZH hE (lk rfl f24) (lk rfl f22) Try.underlying231 J1 hi71.1 fun a hE=>kq rfl hE rfl
      ·intro a w ux34 hE hM hp
       have f25 : ux34 25 = (ptr pb65 (0 + (s29.2).toNat * 1024)):=hp 0 _ rfl rfl
       exact ZH hE (lk rfl f25) rfl Try.underlying229 ty53 hi74.1 fun a hE=>kq rfl hE rfl
      ·intro a w ux34 hE hM hp
       have f23 : ux34 23 = (vB j9.2.2.1):=hp 1 _ rfl rfl
       have f26 : ux34 26 = (ptr pb65 (0 + (s29.2).toNat * 1024 + ((2 : Int)).toNat * 256)):=hp 0 _ rfl rfl
       exact ZH hE (lk rfl f26) (lk rfl f23) Try.underlying53 ty5 hi77.1 fun a hE=>kq rfl hE rfl
      ·intro a w ux34 hE hM hp
       have f27 : ux34 27 = (ptr pb65 (0 + (s29.2).toNat * 1024 + ((2 : Int)).toNat * 256 + ((bI j9.2.2.1)).toNat * 1)):=hp 0 _ rfl rfl
       exact ZQ (v:=(vB x78)) hE (lk rfl f27) ty5 rfl (At.vec (At.vec (At.vec (hM.atk hA69 hB70) hi71.2) hi74.2) hi77.2) fun a hE=>kq rfl hE rfl
      ·intro a w ux34 hE hM hp
       have f20 : ux34 20 = (vB (x48 ^^^ x63)):=hp 0 _ rfl rfl
       have f28 : ux34 28 = (vB x78):=hp 1 _ rfl rfl
       exact Zl hE (lk rfl f20) (lk rfl f28) (VK (x48 ^^^ x63) x78) fun a hE=>kq rfl hE rfl
      ·exact qm
      ·exact qm
      ·exact qm
      ·intro a w ux34 hE hM hp
       have f30 : ux34 30 = v0_1:=hp 0 _ rfl rfl
       exact Yh hE Za ld (lk (lk rfl f30) hv82) fun a hE=>kq rfl hE rfl
      ·intro a w ux34 hE hM hp
       have f31 : ux34 31 = (vI s29.2):=hp 1 _ rfl rfl
       have f33 : ux34 33 = (ptr pb80 0):=hp 0 _ rfl rfl
       exact ZH hE (lk rfl f33) (lk rfl f31) Try.underlying231 J1 hi86.1 fun a hE=>kq rfl hE rfl
      ·intro a w ux34 hE hM hp
       have f34 : ux34 34 = (ptr pb80 (0 + (s29.2).toNat * 1024)):=hp 0 _ rfl rfl
       exact ZH hE (lk rfl f34) rfl Try.underlying229 ty53 hi89.1 fun a hE=>kq rfl hE rfl
      ·intro a w ux34 hE hM hp
       have f32 : ux34 32 = (vB j9.2.2.2):=hp 1 _ rfl rfl
       have f35 : ux34 35 = (ptr pb80 (0 + (s29.2).toNat * 1024 + ((3 : Int)).toNat * 256)):=hp 0 _ rfl rfl
       exact ZH hE (lk rfl f35) (lk rfl f32) Try.underlying53 ty5 hi92.1 fun a hE=>kq rfl hE rfl
      ·intro a w ux34 hE hM hp
       have f36 : ux34 36 = (ptr pb80 (0 + (s29.2).toNat * 1024 + ((3 : Int)).toNat * 256 + ((bI j9.2.2.2)).toNat * 1)):=hp 0 _ rfl rfl
       exact ZQ (v:=(vB x93)) hE (lk rfl f36) ty5 rfl (At.vec (At.vec (At.vec (hM.atk hA84 hB85) hi86.2) hi89.2) hi92.2) fun a hE=>kq rfl hE rfl
      ·intro a w ux34 hE hM hp
       have f29 : ux34 29 = (vB ((x48 ^^^ x63) ^^^ x78)):=hp 0 _ rfl rfl
       have f37 : ux34 37 = (vB x93):=hp 1 _ rfl rfl
       exact Zl hE (lk rfl f29) (lk rfl f37) (VK ((x48 ^^^ x63) ^^^ x78) x93) fun a hE=>kq rfl hE rfl
      ·intro a w ux34 hE hM hp
       have f0 : ux34 0 = (Value.slice (some ⟨pb1,0,none⟩) 16 16):=hp 0 _ rfl rfl
       have f3 : ux34 3 = (vI (wr (s4.2 + s29.2))):=hp 1 _ rfl rfl
       exact U0 hE Za ld (lk rfl f0) (lk rfl f3) Try.underlying22 ty5 hi97.1 fun a hE=>kq rfl hE rfl
      ·intro a w ux34 hE hM hg
       have hE:=hE.sub (e':=[(76,(vB (((x48 ^^^ x63) ^^^ x78) ^^^ x93))),(77,(ptr pb1 (0 + ((wr (s4.2 + s29.2))).toNat * 1))),(0,v0_1),(1,(Value.slice (some ⟨pb1,0,none⟩) 16 16)),(4,vI s4.2),(5,vB j9.1),(6,vB j9.2.1),(7,vB j9.2.2.1),(8,vB j9.2.2.2),(9,vI s29.2),(35,vI s29.2),(36,(vT (decide (s29.2 < 4)))),(37,vI s29.2)]) ⟨lk rfl (hg 38 (by decide)),lk rfl (hg 39 (by decide)),rfl,rfl,rfl,rfl,rfl,rfl,rfl,rfl,rfl,rfl,rfl,trivial⟩
       refine Zk (seg:=[(vB (((x48 ^^^ x63) ^^^ x78) ^^^ x93))]) (cs':=enc (s29.1.setIfInBounds ((wr (s4.2 + s29.2))).toNat (((x48 ^^^ x63) ^^^ x78) ^^^ x93))) hE hM Za rfl rfl rfl ty5 rfl (ZR (v:=s29.1) (x:=((x48 ^^^ x63) ^^^ x78) ^^^ x93) hi97.1) (Flat.cell (((x48 ^^^ x63) ^^^ x78) ^^^ x93 : UInt8)) (ZE (v:=s29.1) (x:=((x48 ^^^ x63) ^^^ x78) ^^^ x93) hi97.1) fun w a hM hE=>Zi (Yv (Zw (wp_region_lit (Zl hE rfl rfl rfl fun a hE=>Zd hE rfl fun a hE=>Zi (Zj ?_)))))
       exact ⟨_,(ois hs30),hE.sub ⟨rfl,rfl,rfl,rfl,rfl,rfl,rfl,rfl,trivial⟩,hM⟩
     ·intro hb33
      have hs30:=Zs hs30 hb33
      refine wp_exit (Zn (Zn (Yy ?_)))
      obtain rfl:=hx31 _ (ois hs30)
      refine Zj ?_
      exact ⟨hE.sub ⟨rfl,rfl,rfl,trivial⟩,hM⟩
    ·skip
     rintro a w ⟨hE,hM⟩
     refine Yv (Zw (wp_region_lit (Zd hE rfl fun a hE=>Zl hE rfl rfl rfl fun a hE=>Zc hE rfl fun a hE=>Zi (Zj ?_))))
     exact ⟨_,(ois hF28),hE.sub ⟨rfl,rfl,rfl,trivial⟩,hM⟩
  ·intro hb8
   have hs5:=Zs hs5 hb8
   refine wp_exit (Zn (Zn (Yy ?_)))
   obtain rfl:=hx6 _ (ois hs5)
   refine Zj ?_
   exact ⟨hE.sub ⟨rfl,trivial⟩,hM⟩
 ·skip
  rintro a w ⟨hE,hM⟩
  obtain rfl:=Option.some.inj hF3
  exact jM hE (by rfl) ⟨_,rfl,rfl,hM⟩
def Yt (p0 : (Ref Gengine)) (s18 : (Vector UInt8 16) × Int) (s29 : (Vector UInt8 16) × Int) : Option (Fl ((Vector UInt8 16) × Int) (Vector UInt8 16)) :=
 if (decide (s29.2 < 16)) = true then ((ZI s18.1 s29.2).bind fun x34=>(ZI p0.v.box (bI x34)).bind fun x48=>(ZI s29.1 s29.2).bind fun x51=>some (Fl.nx ((s29.1.setIfInBounds (s29.2).toNat x48),wr (s29.2 + 1)))) else (some (Fl.ex s29.1))
def Ys (p0 : (Ref Gengine)) (p1 : (List (Vector UInt8 16))) (s18 : (Vector UInt8 16) × Int) : Option (Fl ((Vector UInt8 16) × Int) (Vector UInt8 16)) :=
 if (decide (s18.2 < (p1.length : Int))) = true then (((ZF (Yt p0 s18) (s18.1,0)).bind fun j26=>((Wp p0.v.places j26).bind fun r68=>some r68 : Option ((Vector UInt8 16))).bind fun j54=>(if (decide (s18.2 < (wr ((p1.length : Int) - 1)))) = true then ((slc j54.toList (0 : Int) (16 : Int)).bind fun l86=>(Vf p0.v.mixer j54).bind fun r89=>some r89) else (some j54) : Option ((Vector UInt8 16))).bind fun j71=>(idx p1 s18.2).bind fun x94=>(Yw j71 x94).bind fun r97=>some r97 : Option ((Vector UInt8 16))).bind fun j23=>some (Fl.nx (j23,wr (s18.2 + 1)))) else (some (Fl.ex s18.1))
def YO (p0 : (Ref Gengine)) (p1 : (List (Vector UInt8 16))) (p2 : (Vector UInt8 16)) : Option ((Vector UInt8 16)) :=
 ((idx p1 (0 : Int)).bind fun x9=>(Yw p2 x9).bind fun r12=>some r12 : Option ((Vector UInt8 16))).bind fun j5=>(ZF (Ys p0 p1) (j5,1)).bind fun j15=>some j15
theorem Tp (w0 : World) (p0 : (Ref Gengine)) (v0_1 : Value) (hv0_1 : Ro w0 p0 [v0_1]) (p1 : (List (Vector UInt8 16))) (v1_1 : Value) (hv1_1 : Ro w0 p1 [v1_1]) (p2 : (Vector UInt8 16)) (r : (Vector UInt8 16)) (hF : YO p0 p1 p2 = some r) :
  Calls Try.prog 149 [v0_1,v1_1,(Value.agg (enc p2).toArray)].toArray w0 (Rt w0 (Value.agg (enc r).toArray)):=by
 refine ce Try.func149 ?_
 intro a hE
 have hM:=M.start w0
 unfold YO at hF
 refine Zb (Z7 (cs:=enc p2) hE hM Za ld rfl rfl fun b1 w a hM hE=>Zv hE hM ZK fun b3 w a hM hE=>Ze ?_)
 obtain ⟨j5,hl6,hF7⟩:=bind_some hF
 refine ZB (fun a w=>Env 59 a [(0,v0_1),(1,v1_1),(5,(ptr b1 0)),(6,(ptr b3 0))] ∧ M (Old w0) w0 w [raw b3 (enc (Vector.replicate 16 (0 : UInt8))),raw b1 (enc j5)]) ?_ ?_
 ·skip
  obtain ⟨x9,hi11,hl6⟩:=bix hl6
  obtain ⟨r12,e13,hl6⟩:=bind_some hl6
  refine ZP [10,11,12,13,14] Yr rfl rfl (by decide) rfl hE hM (qsP (fun z=>ZA z.E Za ld rfl ZK rfl (z.M.rawAt1) (Flat.len _) (kr0 rfl)) (qsP (fun z=>Zg z.E Za ld rfl (kr0 rfl)) (qsP (fun z=>Yi z.E Za ld rfl rfl Try.underlying136 ZK (z.M.rd hv1_1) hi11.1 (kr0 rfl)) (qsP (fun z=>ZA z.E Za ld rfl ZK rfl (YA (z.M.rd hv1_1) hi11.2) (Flat.len _) (kr0 rfl)) (qsP (fun z=>ZX z.E Za ld rfl HU (We _ p2 x9 r12 e13) (kc rfl)) qs0))))) ?_
  ·intro a w u hE hM
   have hM:=hM.pull1
   refine Zk (seg:=enc r12) (cs':=enc r12) hE hM Za rfl rfl rfl ZK (Flat.len _) (zle flq) (Flat.cell _) (Zh flq) fun w a hM hE=>Zi ?_
   obtain rfl:=Option.some.inj hl6
   refine Zj ?_
   have hM:=hM.pull1
   exact ⟨hE.sub ⟨rfl,rfl,rfl,rfl,trivial⟩,hM⟩
 ·skip
  rintro a w ⟨hE,hM⟩
  refine wp_seq (Zb (Zc hE rfl fun a hE=>Ze ?_))
  obtain ⟨j15,hl16,hF17⟩:=bind_some hF7
  refine ZW (fun a w=>Env 59 a [(5,(ptr b1 0)),(6,(ptr b3 0))] ∧ M (Old w0) w0 w [raw b3 (enc (Vector.replicate 16 (0 : UInt8))),raw b1 (enc j15)]) ?_ ?_
  ·skip
   refine wp_block ?_
   refine ZM (fun (s18 : (Vector UInt8 16) × Int) a w=>Env 59 a [(0,v0_1),(1,v1_1),(5,(ptr b1 0)),(6,(ptr b3 0)),(7,vI s18.2)] ∧ M (Old w0) w0 w [raw b3 (enc (Vector.replicate 16 (0 : UInt8))),raw b1 (enc s18.1)]) hl16 ⟨hE.sub ⟨rfl,rfl,rfl,rfl,rfl,trivial⟩,hM⟩ ?_
   rintro s18 a w ⟨hE,hM⟩ o21 hs19 hx20
   unfold Ys at hs19
   refine wp_seq (Zb (Zd hE rfl fun a hE=>Zd hE rfl fun a hE=>Yq hE rfl Try.underlying136 (hM.rd hv1_1) fun a hE=>Zl hE rfl rfl rfl fun a hE=>Ze ?_))
   refine Zq hE rfl ?_ ?_
   ·intro hb22
    have hs19:=Zt hs19 hb22
    refine wp_skip (Zw ?_)
    obtain ⟨j23,hl24,hF25⟩:=bind_some hs19
    refine ZB (fun a w=>Env 59 a [(0,v0_1),(1,v1_1),(5,(ptr b1 0)),(6,(ptr b3 0)),(7,vI s18.2)] ∧ M (Old w0) w0 w [raw b3 (enc (Vector.replicate 16 (0 : UInt8))),raw b1 (enc j23)]) ?_ ?_
    ·skip
     refine wp_block (wp_seq (Zb (Zp hE rfl ZK rfl hM.rawAt1 (Flat.len _) fun a hE=>Zd hE rfl fun a hE=>Ze ?_)))
     obtain ⟨j26,hl27,hF28⟩:=bind_some hl24
     refine ZW (fun a w=>Env 59 a [(0,v0_1),(1,v1_1),(5,(ptr b1 0)),(6,(ptr b3 0)),(7,vI s18.2)] ∧ M (Old w0) w0 w [raw b3 (enc (Vector.replicate 16 (0 : UInt8))),raw b1 (enc j26)]) ?_ ?_
     ·skip
      refine wp_block ?_
      refine ZM (fun (s29 : (Vector UInt8 16) × Int) a w=>Env 59 a [(0,v0_1),(1,v1_1),(5,(ptr b1 0)),(6,(ptr b3 0)),(7,vI s18.2),(21,(Value.agg (enc s18.1).toArray)),(22,vI s29.2)] ∧ M (Old w0) w0 w [raw b3 (enc (Vector.replicate 16 (0 : UInt8))),raw b1 (enc s29.1)]) hl27 ⟨hE.sub ⟨rfl,rfl,rfl,rfl,rfl,rfl,rfl,trivial⟩,hM⟩ ?_
      rintro s29 a w ⟨hE,hM⟩ o32 hs30 hx31
      unfold Yt at hs30
      refine Zb (Zl hE rfl rfl rfl fun a hE=>Ze (wp_seq ?_))
      refine Zq hE rfl ?_ ?_
      ·intro hb33
       have hs30:=Zt hs30 hb33
       refine wp_skip (Zw (wp_seq (wp_block (Zb (Zd hE rfl ?_))))); intro a hE
       obtain ⟨x34,hi36,hs30⟩:=bvx hs30
       refine To hE Za ld rfl rfl Try.underlying62 ty5 rfl rfl hi36 rfl fun a hE=>Zc hE rfl fun a hE=>Zc hE rfl fun a hE=>Ze (wp_region_lit (Zd hE rfl fun a hE=>Zd hE rfl fun a hE=>Zd hE rfl ?_)); intro a hE
       obtain ⟨pb37,ds38,hv39,hx40,hA41,hB42⟩:=Uk hv0_1 -- ^
       obtain ⟨u43,u45,rfl,h44,h46⟩:=UQ hx40 -- ^
       refine Yh hE Za ld (lk rfl hv39) fun a hE=>ZJ hE rfl (BK) ?_; intro a hE
       obtain ⟨x48,hi47,hs30⟩:=bvx hs30
       refine ZH hE rfl rfl Try.underlying54 ty5 hi47.1 fun a hE=>ZQ (v:=(vB x48)) hE rfl ty5 rfl (At.vec (At.cat (pre:=[]) (hM.atk hA41 hB42) cl0) hi47.2) ?_; intro a hE
       obtain ⟨x51,hi50,hs30⟩:=bvx hs30
       refine ZH hE rfl rfl Try.underlying62 ty5 hi50.1 ?_; intro a hE
       have hM:=hM.pull1
       refine Zk (seg:=[vB x48]) (cs':=enc (s29.1.setIfInBounds (s29.2).toNat x48)) hE hM Za rfl rfl rfl ty5 rfl (ZR (v:=s29.1) (x:=x48) hi50.1) (Flat.cell (x48 : UInt8)) (ZE (v:=s29.1) (x:=x48) hi50.1) fun w a hM hE=>Zi (Yv (Zw (wp_region_lit (Zl hE rfl rfl rfl fun a hE=>Zd hE rfl fun a hE=>Zi (Zj ?_)))))
       have hM:=hM.pull1
       exact ⟨_,(ois hs30),hE.sub ⟨rfl,rfl,rfl,rfl,rfl,rfl,rfl,trivial⟩,hM⟩
      ·intro hb33
       have hs30:=Zs hs30 hb33
       refine wp_exit (Zn (Zn (Yy ?_)))
       obtain rfl:=hx31 _ (ois hs30)
       refine Zj ?_
       exact ⟨hE.sub ⟨rfl,rfl,rfl,rfl,rfl,trivial⟩,hM⟩
     ·skip
      rintro a w ⟨hE,hM⟩
      refine Zw ?_
      obtain ⟨j54,hl55,hF56⟩:=bind_some hF28
      refine ZB (fun a w=>Env 59 a [(0,v0_1),(1,v1_1),(5,(ptr b1 0)),(6,(ptr b3 0)),(7,vI s18.2)] ∧ M (Old w0) w0 w [raw b3 (enc (Vector.replicate 16 (0 : UInt8))),raw b1 (enc j54)]) ?_ ?_
      ·skip
       obtain ⟨pb58,ds59,hv60,hx61,hA62,hB63⟩:=Uk hv0_1 -- ^
       obtain ⟨u64,u66,rfl,h65,h67⟩:=UQ hx61 -- ^
       obtain ⟨r68,e69,hl55⟩:=bind_some hl55
       refine ZP [35,36,37,38,39,40] Yr rfl rfl (by decide) rfl hE hM (qsP (fun z=>Zg z.E Za ld rfl (kr0 rfl)) (qsP (fun z=>Yh z.E Za ld (lk rfl hv60) (kr0 rfl)) (qsP (fun z=>Zo z.E Za ld rfl (jT) (kr0 rfl)) (qsP (fun z=>ZA z.E Za ld rfl QA rfl (At.cat (pre:=[enc p0.v.box,enc p0.v.backBox]) (z.M.atk hA62 hB63) ck) (Flat.len _) (kr0 rfl)) (qsP (fun z=>ZA z.E Za ld rfl ZK rfl (z.M.rawAt1) (Flat.len _) (kr0 rfl)) (qsP (fun z=>ZX z.E Za ld rfl (cbm Try.func160) (QO _ p0.v.places j26 r68 e69) (kc rfl)) qs0)))))) ?_
       ·intro a w u hE hM
        have hM:=hM.pull1
        refine Zk (seg:=enc r68) (cs':=enc r68) hE hM Za rfl rfl rfl ZK (Flat.len _) (zle flq) (Flat.cell _) (Zh flq) fun w a hM hE=>Zi ?_
        obtain rfl:=Option.some.inj hl55
        refine Zj ?_
        have hM:=hM.pull1
        exact ⟨hE.sub ⟨rfl,rfl,rfl,rfl,rfl,trivial⟩,hM⟩
      ·skip
       rintro a w ⟨hE,hM⟩
       obtain ⟨j71,hl72,hF73⟩:=bind_some hF56
       refine ZB (fun a w=>Env 59 a [(0,v0_1),(1,v1_1),(5,(ptr b1 0)),(6,(ptr b3 0)),(7,vI s18.2)] ∧ M (Old w0) w0 w [raw b3 (enc (Vector.replicate 16 (0 : UInt8))),raw b1 (enc j71)]) ?_ ?_
       ·skip
        refine Zb (Zd hE rfl fun a hE=>Zd hE rfl fun a hE=>Yq hE rfl Try.underlying136 (hM.rd hv1_1) fun a hE=>Zl hE rfl rfl rfl fun a hE=>Zl hE rfl rfl rfl fun a hE=>Ze ?_)
        refine Zq hE rfl ?_ ?_
        ·intro hb74
         have hl72:=Zt hl72 hb74
         obtain ⟨pb76,ds77,hv78,hx79,hA80,hB81⟩:=Uk hv0_1 -- ^
         obtain ⟨u82,u84,rfl,h83,h85⟩:=UQ hx79 -- ^
         obtain ⟨l86,e87,hl72⟩:=bind_some hl72
         have hb88:=UB e87 -- ^
         refine ZP [46,47,48,49,50] Yr rfl rfl (by decide) rfl hE hM (qsP (fun z=>Zg z.E Za ld rfl (kr0 rfl)) (qsP (fun z=>Yh z.E Za ld (lk rfl hv78) (kr0 rfl)) (qsP (fun z=>Zo z.E Za ld rfl (jQ) (kr0 rfl)) (qsP (fun z=>ZN (v:=u82) z.E Za ld rfl jq rfl (At.cat (pre:=[enc p0.v.box,enc p0.v.backBox,enc p0.v.places,enc p0.v.backPlaces]) (z.M.atk hA80 hB81) ck) (kr0 rfl)) (qsP (fun z=>Wn (N:=16) z.E Za ld rfl rfl rfl rfl rfl Try.underlying62 ty5 hb88 (kr0 rfl)) qs0))))) ?_
         ·intro a w u hE hM
          have hM:=hM.pull1
          obtain ⟨r89,e90,hl72⟩:=bind_some hl72
          refine Zy hE rfl (cbm Try.func159) (KN _ _ _ _ p0.v.mixer u82 h83 b1 j54 hM r89 e90) ?_
          rintro v w a ⟨rfl,hM⟩ hE
          refine Zi ?_
          obtain rfl:=Option.some.inj hl72
          refine Zj ?_
          have hM:=hM.pull1
          exact ⟨hE.sub ⟨rfl,rfl,rfl,rfl,rfl,trivial⟩,hM⟩
        ·intro hb74
         have hl72:=Zs hl72 hb74
         refine wp_skip ?_
         obtain rfl:=Option.some.inj hl72
         refine Zj ?_
         exact ⟨hE.sub ⟨rfl,rfl,rfl,rfl,rfl,trivial⟩,hM⟩
       ·skip
        rintro a w ⟨hE,hM⟩
        obtain ⟨x94,hi96,hF73⟩:=bix hF73
        obtain ⟨r97,e98,hF73⟩:=bind_some hF73
        refine ZP [52,53,54,55,56,57] Yr rfl rfl (by decide) rfl hE hM (qsP (fun z=>ZA z.E Za ld rfl ZK rfl (z.M.rawAt1) (Flat.len _) (kr0 rfl)) (qsP (fun z=>Zg z.E Za ld rfl (kr0 rfl)) (qsP (fun z=>Zg z.E Za ld rfl (kr0 rfl)) (qsP (fun z=>Yi z.E Za ld rfl rfl Try.underlying136 ZK (z.M.rd hv1_1) hi96.1 (kr0 rfl)) (qsP (fun z=>ZA z.E Za ld rfl ZK rfl (YA (z.M.rd hv1_1) hi96.2) (Flat.len _) (kr0 rfl)) (qsP (fun z=>ZX z.E Za ld rfl HU (We _ j71 x94 r97 e98) (kc rfl)) qs0)))))) ?_
        ·intro a w u hE hM
         have hM:=hM.pull1
         refine Zk (seg:=enc r97) (cs':=enc r97) hE hM Za rfl rfl rfl ZK (Flat.len _) (zle flq) (Flat.cell _) (Zh flq) fun w a hM hE=>Zi (Yv ?_)
         obtain rfl:=Option.some.inj hF73
         refine Zj ?_
         have hM:=hM.pull1
         exact ⟨hE.sub ⟨rfl,rfl,rfl,rfl,rfl,trivial⟩,hM⟩
    ·skip
     rintro a w ⟨hE,hM⟩
     refine wp_region_lit (Zd hE rfl fun a hE=>Zl hE rfl rfl rfl fun a hE=>Zc hE rfl fun a hE=>Zi (Zj ?_))
     exact ⟨_,(ois hF25),hE.sub ⟨rfl,rfl,rfl,rfl,rfl,trivial⟩,hM⟩
   ·intro hb22
    have hs19:=Zs hs19 hb22
    refine wp_exit (Zn (Zn (Yy ?_)))
    obtain rfl:=hx20 _ (ois hs19)
    refine Zj ?_
    exact ⟨hE.sub ⟨rfl,rfl,trivial⟩,hM⟩
  ·skip
   rintro a w ⟨hE,hM⟩
   refine Zw (Zb (Zp hE rfl ZK rfl hM.rawAt1 (Flat.len _) fun a hE=>Zk (seg:=enc j15) (cs':=enc j15) hE hM Za rfl rfl rfl ZK (Flat.len _) (zle flq) (Flat.cell _) (Zh flq) fun w a hM hE=>Ze ?_))
   obtain rfl:=Option.some.inj hF17
   have hq101 : Z6 Try.prog _ _ (.cell 6 62) _:=ZD hE rfl ZK rfl hM.rawAt0 (Flat.len _) rfl
   exact wp_ret (ZU hE rfl hq101 ⟨_,rfl,rfl,hM.kept⟩)
def Yz (p0 : (Ref Gengine)) (p1 : (Vector UInt8 16)) (p2 : (Vector UInt8 16)) : Option ((Vector UInt8 16)) :=
 ((Wq p0 p1 p0.v.rounds).bind fun r21=>(YO p0 r21 p2).bind fun r24=>some r24 : Option ((Vector UInt8 16))).bind fun j7=>some j7
theorem UI (w0 : World) (p0 : (Ref Gengine)) (v0_1 : Value) (hv0_1 : Ro w0 p0 [v0_1]) (p1 : (Vector UInt8 16)) (p2 : (Vector UInt8 16)) (r : (Vector UInt8 16)) (hF : Yz p0 p1 p2 = some r) :
  Calls Try.prog 88 [v0_1,(Value.agg (enc p1).toArray),(Value.agg (enc p2).toArray)].toArray w0 (Rt w0 (Value.agg (enc r).toArray)):=by
 refine ce Try.func88 ?_
 intro a hE
 have hM:=M.start w0
 unfold Yz at hF
 refine Zb (Z7 (cs:=enc p1) hE hM Za ld rfl rfl fun b1 w a hM hE=>Z7 (cs:=enc p2) hE hM Za ld rfl rfl fun b3 w a hM hE=>Zv hE hM ZK fun b5 w a hM hE=>Ze ?_)
 obtain ⟨j7,hl8,hF9⟩:=bind_some hF
 refine ZB (fun a w=>Env 17 a [(6,(ptr b5 0))] ∧ M (Old w0) w0 w [raw b5 (enc j7)]) ?_ ?_
 ·skip
  obtain ⟨pb11,ds12,hv13,hx14,hA15,hB16⟩:=Uk hv0_1 -- ^
  obtain ⟨u17,u19,rfl,h18,h20⟩:=UQ hx14 -- ^
  obtain ⟨r21,e22,hl8⟩:=bind_some hl8
  refine YV (its:=[raw b5 (enc (Vector.replicate 16 (0 : UInt8))),raw b3 (enc p2),raw b1 (enc p1)]) (mk:=([mkO 7 (fun v=>osl NoB (r21 : List (Vector UInt8 16)) v)] : Mk)) [7,8,9,10,11,12,13,14,15] Yr rfl rfl (by decide) rfl hE (fun u=>M.qE (M.q0 hM.drew u) emO) (qsP (fun z=>Zg z.E Za ld rfl (kr0 rfl)) (qsP (fun z=>Zg z.E Za ld rfl (kr0 rfl)) (qsP (v:=(Value.agg (enc p1).toArray)) ?_ (qsP (fun z=>Zg z.E Za ld rfl (kr0 rfl)) (qsP (fun z=>Yh z.E Za ld (lk rfl hv13) (kr0 rfl)) (qsP (fun z=>Zo z.E Za ld rfl (jE) (kr0 rfl)) (qsP (v:=(vI p0.v.rounds)) ?_ (qsM (pr:=fun v=>True) ?_ (qsP (v:=(Value.agg (enc p2).toArray)) ?_ qs0))))))))) ?_
  ·intro a w ux10 D z
   have hE:=z.E
   have hM:=z.M
   exact Zp hE rfl ZK rfl hM.rawAt2 (Flat.len _) fun a hE=>⟨Kept.refl _ _,_,rfl,hE⟩
  ·intro a w ux10 D z
   have hE:=z.E
   have hM:=z.M
   exact ZQ (v:=(vI p0.v.rounds)) hE rfl ty2 rfl (At.cat (pre:=[enc p0.v.box,enc p0.v.backBox,enc p0.v.places,enc p0.v.backPlaces,[u17],[u19]]) (hM.atk hA15 hB16) ck) fun a hE=>⟨Kept.refl _ _,_,rfl,hE⟩
  ·intro a w ux10 D z
   have hE:=z.E
   have hD : D 7 = false:=z.F
   have hM0:=z.M
   have hM:=z.M
   refine Zy hE rfl (cbm Try.func94) (QV _ p0 v0_1 (hM.rdo hv0_1) p1 p0.v.rounds r21 e22) ?_
   rintro _ w a ⟨_,rfl,hFr,hK⟩ hE
   have hM:=hM0.add hK hFr
   exact ⟨_,_,rfl,hE,M.qFill (mk1:=[]) (mk2:=[]) (f:=(fun v=>osl NoB (r21 : List (Vector UInt8 16)) v)) hM rfl hD,trivial⟩
  ·intro a w ux10 D z
   have hE:=z.E
   have hM:=z.M
   exact Zp hE rfl ZK rfl hM.rawAt1 (Flat.len _) fun a hE=>⟨Kept.refl _ _,_,rfl,hE⟩
  ·intro a w ux10 D hE hM hG hall
   have d7:=hall 7 (by decide)
   have hM:=hM.sure (pre:=[_,_,_]) d7
   obtain ⟨r24,e25,hl8⟩:=bind_some hl8
   refine Zy hE rfl (cbm Try.func149) (Tp _ p0 v0_1 (hM.rdo hv0_1) r21 (ux10 7) (hM.sl (pre:=[_,_,_]) noB) p2 r24 e25) ?_
   rintro v w a ⟨rfl,hK⟩ hE
   have hM:=hM.keep hK
   refine Zk (seg:=enc r24) (cs':=enc r24) hE hM Za rfl rfl rfl ZK (Flat.len _) (zle flq) (Flat.cell _) (Zh flq) fun w a hM hE=>Zi ?_
   obtain rfl:=Option.some.inj hl8
   refine Zj ?_
   have hM:=M.fst (l:=[_]) hM
   exact ⟨hE.sub ⟨rfl,trivial⟩,hM⟩
 ·skip
  rintro a w ⟨hE,hM⟩
  obtain rfl:=Option.some.inj hF9
  have hq27 : Z6 Try.prog _ _ (.cell 6 62) _:=ZD hE rfl ZK rfl hM.rawAt0 (Flat.len _) rfl
  exact wp_ret (ZU hE rfl hq27 ⟨_,rfl,rfl,hM.kept⟩)
def Xb (p0 : (Ref Gengine)) (p1 : (Vector UInt8 32)) (p2 : (Vector UInt8 16)) : Option ((Vector UInt8 32)) :=
 (slc p1.toList (0 : Int) (16 : Int)).bind fun l8=>(Tt 16 l8).bind fun x11=>(slc p1.toList (16 : Int) (32 : Int)).bind fun l13=>(Tt 16 l13).bind fun x16=>(Yw x11 p2).bind fun r26=>((Yz p0 x16 r26).bind fun r34=>(Yw r34 r26).bind fun r36=>some r36 : Option ((Vector UInt8 16))).bind fun j30=>(Yw x16 p2).bind fun r39=>((Yz p0 j30 r39).bind fun r47=>(Yw r47 r39).bind fun r49=>some r49 : Option ((Vector UInt8 16))).bind fun j43=>((slc j30.toList (0 : Int) (16 : Int)).bind fun l56=>(slc j43.toList (0 : Int) (16 : Int)).bind fun l59=>(Ya ([l56,l59] : (List (List UInt8)))).bind fun r64=>(Tt 32 r64).bind fun x67=>some x67 : Option ((Vector UInt8 32))).bind fun j52=>some j52
theorem Qo (w0 : World) (p0 : (Ref Gengine)) (v0_1 : Value) (hv0_1 : Ro w0 p0 [v0_1]) (p1 : (Vector UInt8 32)) (p2 : (Vector UInt8 16)) (r : (Vector UInt8 32)) (hF : Xb p0 p1 p2 = some r) :
  Calls Try.prog 198 [v0_1,(Value.agg (enc p1).toArray),(Value.agg (enc p2).toArray)].toArray w0 (Rt w0 (Value.agg (enc r).toArray)):=by
 refine ce Try.func198 ?_
 intro a hE
 have hM:=M.start w0
 unfold Xb at hF
 refine Zb (Z7 (cs:=enc p1) hE hM Za ld rfl rfl fun b1 w a hM hE=>Z7 (cs:=enc p2) hE hM Za ld rfl rfl fun b3 w a hM hE=>Zv hE hM Zr fun b5 w a hM hE=>Ze (wp_seq ?_))
 obtain ⟨l8,e9,hF⟩:=bind_some hF
 have hb10:=UB e9 -- ^
 obtain ⟨x11,e12,hF⟩:=bind_some hF
 obtain ⟨l13,e14,hF⟩:=bind_some hF
 have hb15:=UB e14 -- ^
 obtain ⟨x16,e17,hF⟩:=bind_some hF
 refine YV (its:=[raw b5 (enc (Vector.replicate 32 (0 : UInt8))),raw b3 (enc p2),raw b1 (enc p1)]) (mk:=([mkO 6 (fun v=>UM v (enc (Vector.replicate 16 (0 : UInt8)))),mkO 7 (fun v=>UM v (enc (Vector.replicate 16 (0 : UInt8))))] : Mk)) [11,12,13,14,15,16,7,8] Yr rfl rfl (by decide) rfl hE (fun u=>M.qE (M.qE (M.q0 hM.drew u) emO) emO) (qsP (fun z=>Wn (N:=32) z.E Za ld rfl rfl rfl rfl rfl Try.underlying82 ty5 hb10 (kr0 rfl)) (qsP (v:=(ptr (sb (ZO (.slice (some ⟨b1,0,none⟩) 32 32) ((0 : Int)).toNat ((16 : Int)).toNat 1)) (so (ZO (.slice (some ⟨b1,0,none⟩) 32 32) ((0 : Int)).toNat ((16 : Int)).toNat 1)))) ?_ (qsP (v:=(Value.agg (enc x11).toArray)) ?_ (qsP (fun z=>Wn (N:=32) z.E Za ld rfl rfl rfl rfl rfl Try.underlying82 ty5 hb15 (kr0 rfl)) (qsP (v:=(ptr (sb (ZO (.slice (some ⟨b1,0,none⟩) 32 32) ((16 : Int)).toNat ((32 : Int)).toNat 1)) (so (ZO (.slice (some ⟨b1,0,none⟩) 32 32) ((16 : Int)).toNat ((32 : Int)).toNat 1)))) ?_ (qsP (v:=(Value.agg (enc x16).toArray)) ?_ (qsM (pr:=fun v=>True) ?_ (qsM (pr:=fun v=>True) ?_ qs0)))))))) ?_
 ·intro a w ux7 D z
  have hE:=z.E
  have hM:=z.M
  exact JG hE Za ld rfl Try.underlying62 (Yg (At.sat hM.rawAt2 (by simp) (by decide)) e9) (Tn e12).1 (by decide) fun a hE=>⟨Kept.refl _ _,_,rfl,hE⟩
 ·intro a w ux7 D z
  have hE:=z.E
  have hM:=z.M
  exact Zp hE rfl ZK rfl (BF (Yg (At.sat hM.rawAt2 (by simp) (by decide)) e9) e12 (by decide)) (Flat.len _) fun a hE=>⟨Kept.refl _ _,_,rfl,hE⟩
 ·intro a w ux7 D z
  have hE:=z.E
  have hM:=z.M
  exact JG hE Za ld rfl Try.underlying62 (Yg (At.sat hM.rawAt2 (by simp) (by decide)) e14) (Tn e17).1 (by decide) fun a hE=>⟨Kept.refl _ _,_,rfl,hE⟩
 ·intro a w ux7 D z
  have hE:=z.E
  have hM:=z.M
  exact Zp hE rfl ZK rfl (BF (Yg (At.sat hM.rawAt2 (by simp) (by decide)) e14) e17 (by decide)) (Flat.len _) fun a hE=>⟨Kept.refl _ _,_,rfl,hE⟩
 ·intro a w ux7 D z
  have hE:=z.E
  have hD : D 6 = false:=z.F
  have hM:=z.M
  refine Zv hE hM ZK ?_; intro b18 w a hM hE
  have hM:=hM.pack1 (it:=UM _ (enc (Vector.replicate 16 (0 : UInt8)))) (fun w w' fp ⟨b',e,k⟩ hb=>⟨b',e,XC w w' fp k hb⟩) (fun fp k=>⟨_,rfl,k⟩)
  exact ⟨_,_,rfl,hE,M.qFill (mk1:=[]) (mk2:=[_]) (f:=fun v=>UM v (enc (Vector.replicate 16 (0 : UInt8)))) hM rfl hD,trivial⟩
 ·intro a w ux7 D z
  have hE:=z.E
  have hD : D 7 = false:=z.F
  have hM:=z.M
  refine Zv hE hM ZK ?_; intro b20 w a hM hE
  have hM:=hM.pack1 (it:=UM _ (enc (Vector.replicate 16 (0 : UInt8)))) (fun w w' fp ⟨b',e,k⟩ hb=>⟨b',e,XC w w' fp k hb⟩) (fun fp k=>⟨_,rfl,k⟩)
  exact ⟨_,_,rfl,hE,M.qFill (mk1:=[_]) (mk2:=[]) (f:=fun v=>UM v (enc (Vector.replicate 16 (0 : UInt8)))) hM rfl hD,trivial⟩
 ·intro a w ux7 D hE hM hG hall
  have d6:=hall 6 (by decide)
  have d7:=hall 7 (by decide)
  have hM:=(hM.sure (pre:=[_,_,_]) d6).pull
  obtain ⟨_,⟨b22,f23,_⟩,_⟩:=hM.head
  have hM:=((hM.pack1 XC (it:=raw b22 (enc (Vector.replicate 16 (0 : UInt8)))) (fun fp ⟨b2,e2,k2⟩=>by rw [f23] at e2; simp [ptr] at e2; subst e2; exact k2)).sure (pre:=[_,_,_,_]) d7).pull
  obtain ⟨_,⟨b24,f25,_⟩,_⟩:=hM.head
  have hM:=hM.pack1 XC (it:=raw b24 (enc (Vector.replicate 16 (0 : UInt8)))) (fun fp ⟨b2,e2,k2⟩=>by rw [f25] at e2; simp [ptr] at e2; subst e2; exact k2)
  have hE:=hE.setq (t:=7) rfl f23
  have hE:=hE.setq (t:=8) rfl f25
  have hM:=hM.pull1
  refine Zk (seg:=enc x11) (cs':=enc x11) hE hM Za rfl rfl rfl ZK (Flat.len _) (zle flq) (Flat.cell _) (Zh flq) ?_; intro w a hM hE
  have hM:=hM.pull1
  refine Zk (seg:=enc x16) (cs':=enc x16) hE hM Za rfl rfl rfl ZK (Flat.len _) (zle flq) (Flat.cell _) (Zh flq) fun w a hM hE=>Zi (Zw (Zb (Zp hE rfl ZK rfl hM.rawAt1 (Flat.len _) fun a hE=>Zp hE rfl ZK rfl hM.rawAt3 (Flat.len _) ?_))); intro a hE
  obtain ⟨r26,e27,hF⟩:=bind_some hF
  refine Zy hE rfl HU (We _ x11 p2 r26 e27) ?_
  rintro v w a ⟨rfl,hK⟩ hE
  have hM:=hM.keep hK
  refine Zv hE hM ZK fun b28 w a hM hE=>Zk (seg:=enc r26) (cs':=enc r26) hE hM Za rfl rfl rfl ZK (Flat.len _) (zle flq) (Flat.cell _) (Zh flq) fun w a hM hE=>Ze ?_
  obtain ⟨j30,hl31,hF32⟩:=bind_some hF
  refine ZB (fun a w=>Env 41 a [(0,v0_1),(5,(ptr b3 0)),(6,(ptr b5 0)),(7,(ptr b22 0)),(8,(ptr b24 0))] ∧ M (Old w0) w0 w [raw b24 (enc x16),raw b22 (enc j30),raw b5 (enc (Vector.replicate 32 (0 : UInt8))),raw b3 (enc p2)]) ?_ ?_
  ·skip
   obtain ⟨r34,e35,hl31⟩:=bind_some hl31
   obtain ⟨r36,e37,hl31⟩:=bind_some hl31
   refine ZP [20,21,22,23,24,25] Yr rfl rfl (by decide) rfl hE hM (qsP (fun z=>Zg z.E Za ld rfl (kr0 rfl)) (qsP (fun z=>ZA z.E Za ld rfl ZK rfl (z.M.rawAt1) (Flat.len _) (kr0 rfl)) (qsP (fun z=>ZA z.E Za ld rfl ZK rfl (z.M.rawAt0) (Flat.len _) (kr0 rfl)) (qsP (fun z=>ZX z.E Za ld rfl (cbm Try.func88) (UI _ p0 v0_1 (z.M.rdo hv0_1) x16 r26 r34 e35) (kc rfl)) (qsP (fun z=>ZA z.E Za ld rfl ZK rfl (z.M.rawAt0) (Flat.len _) (kr0 rfl)) (qsP (fun z=>ZX z.E Za ld rfl HU (We _ r34 r26 r36 e37) (kc rfl)) qs0)))))) ?_
   ·intro a w u hE hM
    have hM:=hM.pull2
    refine Zk (seg:=enc r36) (cs':=enc r36) hE hM Za rfl rfl rfl ZK (Flat.len _) (zle flq) (Flat.cell _) (Zh flq) fun w a hM hE=>Zi ?_
    obtain rfl:=Option.some.inj hl31
    refine Zj ?_
    have hM:=M.fst (l:=[_,_,_,_]) hM.pull4.pull4.pull2.pull4
    exact ⟨hE.sub ⟨rfl,rfl,rfl,rfl,rfl,trivial⟩,hM⟩
  ·skip
   rintro a w ⟨hE,hM⟩
   refine Zb (Zp hE rfl ZK rfl hM.rawAt0 (Flat.len _) fun a hE=>Zp hE rfl ZK rfl hM.rawAt3 (Flat.len _) ?_); intro a hE
   obtain ⟨r39,e40,hF32⟩:=bind_some hF32
   refine Zy hE rfl HU (We _ x16 p2 r39 e40) ?_
   rintro v w a ⟨rfl,hK⟩ hE
   have hM:=hM.keep hK
   refine Zv hE hM ZK fun b41 w a hM hE=>Zk (seg:=enc r39) (cs':=enc r39) hE hM Za rfl rfl rfl ZK (Flat.len _) (zle flq) (Flat.cell _) (Zh flq) fun w a hM hE=>Ze ?_
   obtain ⟨j43,hl44,hF45⟩:=bind_some hF32
   refine ZB (fun a w=>Env 41 a [(6,(ptr b5 0)),(7,(ptr b22 0)),(8,(ptr b24 0))] ∧ M (Old w0) w0 w [raw b24 (enc j43),raw b22 (enc j30),raw b5 (enc (Vector.replicate 32 (0 : UInt8)))]) ?_ ?_
   ·skip
    obtain ⟨r47,e48,hl44⟩:=bind_some hl44
    obtain ⟨r49,e50,hl44⟩:=bind_some hl44
    refine ZP [29,30,31,32,33,34] Yr rfl rfl (by decide) rfl hE hM (qsP (fun z=>Zg z.E Za ld rfl (kr0 rfl)) (qsP (fun z=>ZA z.E Za ld rfl ZK rfl (z.M.rawAt2) (Flat.len _) (kr0 rfl)) (qsP (fun z=>ZA z.E Za ld rfl ZK rfl (z.M.rawAt0) (Flat.len _) (kr0 rfl)) (qsP (fun z=>ZX z.E Za ld rfl (cbm Try.func88) (UI _ p0 v0_1 (z.M.rdo hv0_1) j30 r39 r47 e48) (kc rfl)) (qsP (fun z=>ZA z.E Za ld rfl ZK rfl (z.M.rawAt0) (Flat.len _) (kr0 rfl)) (qsP (fun z=>ZX z.E Za ld rfl HU (We _ r47 r39 r49 e50) (kc rfl)) qs0)))))) ?_
    ·intro a w u hE hM
     have hM:=hM.pull1
     refine Zk (seg:=enc r49) (cs':=enc r49) hE hM Za rfl rfl rfl ZK (Flat.len _) (zle flq) (Flat.cell _) (Zh flq) fun w a hM hE=>Zi ?_
     obtain rfl:=Option.some.inj hl44
     refine Zj ?_
     have hM:=M.fst (l:=[_,_,_]) hM.pull3.pull3.pull2
     exact ⟨hE.sub ⟨rfl,rfl,rfl,trivial⟩,hM⟩
   ·skip
    rintro a w ⟨hE,hM⟩
    obtain ⟨j52,hl53,hF54⟩:=bind_some hF45
    refine ZB (fun a w=>Env 41 a [(6,(ptr b5 0))] ∧ M (Old w0) w0 w [raw b5 (enc j52)]) ?_ ?_
    ·skip
     obtain ⟨l56,e57,hl53⟩:=bind_some hl53
     have hb58:=UB e57 -- ^
     obtain ⟨l59,e60,hl53⟩:=bind_some hl53
     have hb61:=UB e60 -- ^
     refine ZP [35,36] Yr rfl rfl (by decide) rfl hE hM (qsP (fun z=>Wn (N:=16) z.E Za ld rfl rfl rfl rfl rfl Try.underlying62 ty5 hb58 (kr0 rfl)) (qsP (fun z=>Wn (N:=16) z.E Za ld rfl rfl rfl rfl rfl Try.underlying62 ty5 hb61 (kr0 rfl)) qs0)) ?_
     ·intro a w u hE hM
      refine Hb (xs:=[.tmp 35,.tmp 36]) (vs:=[(ZO (.slice (some ⟨b22,0,none⟩) 16 16) ((0 : Int)).toNat ((16 : Int)).toNat 1),(ZO (.slice (some ⟨b24,0,none⟩) 16 16) ((0 : Int)).toNat ((16 : Int)).toNat 1)]) hE hM Za ld rfl rfl Try.underlying24 Bq (by decide) (Kp (Ve (Yg (At.sat hM.rawAt1 (by simp) (by decide)) e57)) (Kp (Ve (Yg (At.sat hM.rawAt0 (by simp) (by decide)) e60)) yQ)) ?_; intro b62 w a hM hE
      obtain ⟨r64,e65,hl53⟩:=bind_some hl53
      refine Zy hE rfl (cbm Try.func197) (Ud _ ([l56,l59] : (List (List UInt8))) (Value.slice (some ⟨b62,0,none⟩) 2 2) (yv hM.rawAt0 (hM.rawLt (pre:=[])) ⟨(Yg (At.sat hM.rawAt2 (by simp) (by decide)) e57),(Yg (At.sat hM.rawAt1 (by simp) (by decide)) e60),trivial⟩ rfl) r64 e65) ?_
      rintro u66 w a ⟨_,rfl,hFr,hK⟩ hE
      have hM:=hM.add hK hFr
      obtain ⟨x67,e68,hl53⟩:=bind_some hl53
      refine JG hE Za ld rfl Try.underlying82 (hM.sl (pre:=[]) noB) (Tn e68).1 (by decide) fun a hE=>Zp hE rfl Zr rfl (BF (hM.sl (pre:=[]) noB) e68 (by decide)) (Flat.len _) ?_; intro a hE
      have hM:=hM.pull4
      refine Zk (seg:=enc x67) (cs':=enc x67) hE hM Za rfl rfl rfl Zr (Flat.len _) (zle flq) (Flat.cell _) (Zh flq) fun w a hM hE=>Zi ?_
      obtain rfl:=Option.some.inj hl53
      refine Zj ?_
      have hM:=M.fst (l:=[_]) hM
      exact ⟨hE.sub ⟨rfl,trivial⟩,hM⟩
    ·skip
     rintro a w ⟨hE,hM⟩
     obtain rfl:=Option.some.inj hF54
     have hq70 : Z6 Try.prog _ _ (.cell 6 82) _:=ZD hE rfl Zr rfl hM.rawAt0 (Flat.len _) rfl
     exact wp_ret (ZU hE rfl hq70 ⟨_,rfl,rfl,hM.kept⟩)
end

end Go.Proofs.Ytkajmkegelcfjaa
