/- The walk of what the law reaches: contracts of functions. -/
import Derived.Test.YtkajmkegelcfjaaC2
set_option linter.unusedVariables false
set_option linter.unusedSimpArgs false
set_option maxRecDepth 20000
set_option maxHeartbeats 400000
namespace Go.Proofs.Ytkajmkegelcfjaa
open Go
open Flat (enc)
noncomputable section
theorem Qw (St : Nat → Prop) (W w0 : World) (its : List Item) (p0 : (Ref (Vector (Vector (Vector UInt8 256) 4) 4))) (v0_1 : Value) (hv0_1 : Rep.sat St W p0 [v0_1] []) (pb1 : Nat) (p1 : (Vector UInt8 16)) (hM : M St W w0 (raw pb1 (enc p1) :: its)) (r : (Vector UInt8 16)) (hF : Wy p0 p1 = some r) :
  Calls Try.prog 159 [v0_1,(Value.slice (some ⟨pb1,0,none⟩) 16 16)].toArray w0 (fun en w'=>∃ v,en = .returned v ∧ (v = (Value.tuple [].toArray) ∧ M St W w' (raw pb1 (enc r) :: its))):=by
 refine ZJ (n:=79) Try.func159 rfl rfl (nbl rfl) rfl ?_
 intro a hE
 unfold Wy at hF
 refine Zd (Ze hE Za ld rfl fun a hE=>Zf ?_)
 obtain ⟨j1,hl2,hF3⟩:=bind_some hF
 refine Z0 (fun a w=>Env 79 a [(1,(Value.slice (some ⟨pb1,0,none⟩) 16 16))] ∧ M St W w (raw pb1 (enc j1) :: its)) ?_ ?_
 ·skip
  refine wp_block ?_
  refine ZV (fun (s4 : (Vector UInt8 16) × Int) a w=>Env 79 a [(0,v0_1),(1,(Value.slice (some ⟨pb1,0,none⟩) 16 16)),(4,vI s4.2)] ∧ M St W w (raw pb1 (enc s4.1) :: its)) hl2 ⟨hE.sub ⟨rfl,rfl,rfl,trivial⟩,hM⟩ ?_
  rintro s4 a w ⟨hE,hM⟩ o7 hs5 hx6
  unfold Wj at hs5
  refine wp_seq (Zd (Zc hE Za ld rfl fun a hE=>Zc hE Za ld rfl fun a hE=>UU hE Za ld rfl Try.underlying22 (jB (hM.rawAt (pre:=[]))) fun a hE=>Zm hE Za ld rfl rfl rfl fun a hE=>Zf ?_))
  refine Zv hE rfl ?_ ?_
  ·intro hb8
   have hs5:=ZB hs5 hb8
   refine wp_skip (ZG (wp_seq (wp_block ?_)))
   obtain ⟨j9,hl10,hF11⟩:=bind_some hs5
   refine ZT (fun a w=>Env 79 a [(0,v0_1),(1,(Value.slice (some ⟨pb1,0,none⟩) 16 16)),(4,vI s4.2),(5,vB j9.1),(6,vB j9.2.1),(7,vB j9.2.2.1),(8,vB j9.2.2.2)] ∧ M St W w (raw pb1 (enc s4.1) :: its)) ?_ ?_
   ·skip
    obtain ⟨x13,hi15,hl10⟩:=bvx hl10
    obtain ⟨x16,hi18,hl10⟩:=bvx hl10
    obtain ⟨x19,hi21,hl10⟩:=bvx hl10
    obtain ⟨x22,hi24,hl10⟩:=bvx hl10
    refine Yw (n:=79) (hd:=[_,_,_,_,_,_,_,_,_,_,_,_,_,_,_,_,_,_,_,_,_,_,_]) (tl:=[]) YS rfl rfl [16,17,18,19,20,21,22,23,24,25,26,27,28,29,30,31,32,33,34,5,6,7,8] (by decide) (fun w=>M St W w (raw pb1 (enc s4.1) :: its)) (fun j=>([fun v _=>v = (Value.slice (some ⟨pb1,0,none⟩) 16 16),fun v _=>v = (vI s4.2),fun v _=>v = (ptr pb1 (0 + (s4.2).toNat * 1)),fun v _=>v = (vB x13),fun v _=>v = (Value.slice (some ⟨pb1,0,none⟩) 16 16),fun v _=>v = (vI s4.2),fun v _=>v = (vI (wr (s4.2 + 1))),fun v _=>v = (ptr pb1 (0 + ((wr (s4.2 + 1))).toNat * 1)),fun v _=>v = (vB x16),fun v _=>v = (Value.slice (some ⟨pb1,0,none⟩) 16 16),fun v _=>v = (vI s4.2),fun v _=>v = (vI (wr (s4.2 + 2))),fun v _=>v = (ptr pb1 (0 + ((wr (s4.2 + 2))).toNat * 1)),fun v _=>v = (vB x19),fun v _=>v = (Value.slice (some ⟨pb1,0,none⟩) 16 16),fun v _=>v = (vI s4.2),fun v _=>v = (vI (wr (s4.2 + 3))),fun v _=>v = (ptr pb1 (0 + ((wr (s4.2 + 3))).toNat * 1)),fun v _=>v = (vB x22),fun v _=>v = (vB x13),fun v _=>v = (vB x16),fun v _=>v = (vB x19),fun v _=>v = (vB x22)] : List (Value → World → Prop)).getD j (fun _ _=>True)) (fun _ _ h hk=>h.keep hk) (gup (Zp (Zp (Zp (Zp (Zp (Zp (Zp (Zp (Zp (Zp (Zp (Zp (Zp (Zp (Zp (Zp (Zp (Zp (Zp (Zp (Zp (Zp (Zp Vq)))))))))))))))))))))))) hE hM.drew (ZS (Zb ?_ (Zb ?_ (Zb ?_ (Zb ?_ (Zb ?_ (Zb ?_ (Zb ?_ (Zb ?_ (Zb ?_ (Zb ?_ (Zb ?_ (Zb ?_ (Zb ?_ (Zb ?_ (Zb ?_ (Zb ?_ (Zb ?_ (Zb ?_ (Zb ?_ (Zb ?_ (Zb ?_ (Zb ?_ (Zb ?_ ZL)))))))))))))))))))))))) ?_
    ·exact fun a w ux12 hE hM hp=>Zc hE Za ld rfl fun a hE=>⟨Kept.refl _ _,_,_,rfl,hE,rfl⟩
    ·exact fun a w ux12 hE hM hp=>Zc hE Za ld rfl fun a hE=>⟨Kept.refl _ _,_,_,rfl,hE,rfl⟩
    ·intro a w ux12 hE hM hp
     have f0 : ux12 0 = (Value.slice (some ⟨pb1,0,none⟩) 16 16):=hp 0 _ rfl rfl
     have f1 : ux12 1 = (vI s4.2):=hp 1 _ rfl rfl
     exact Tz hE Za ld (lk rfl f0) (lk rfl f1) Try.underlying22 ty5 hi15.1 fun a hE=>⟨Kept.refl _ _,_,_,rfl,hE,rfl⟩
    ·intro a w ux12 hE hM hp
     have f2 : ux12 2 = (ptr pb1 (0 + (s4.2).toNat * 1)):=hp 0 _ rfl rfl
     exact ZF (v:=(vB x13)) hE Za ld (lk rfl f2) ty5 rfl (At.vec (hM.rawAt (pre:=[])) hi15.2) fun a hE=>⟨Kept.refl _ _,_,_,rfl,hE,rfl⟩
    ·exact fun a w ux12 hE hM hp=>Zc hE Za ld rfl fun a hE=>⟨Kept.refl _ _,_,_,rfl,hE,rfl⟩
    ·exact fun a w ux12 hE hM hp=>Zc hE Za ld rfl fun a hE=>⟨Kept.refl _ _,_,_,rfl,hE,rfl⟩
    ·intro a w ux12 hE hM hp
     have f5 : ux12 5 = (vI s4.2):=hp 0 _ rfl rfl
     exact Zm hE Za ld (lk rfl f5) rfl rfl fun a hE=>⟨Kept.refl _ _,_,_,rfl,hE,rfl⟩
    ·intro a w ux12 hE hM hp
     have f4 : ux12 4 = (Value.slice (some ⟨pb1,0,none⟩) 16 16):=hp 0 _ rfl rfl
     have f6 : ux12 6 = (vI (wr (s4.2 + 1))):=hp 1 _ rfl rfl
     exact Tz hE Za ld (lk rfl f4) (lk rfl f6) Try.underlying22 ty5 hi18.1 fun a hE=>⟨Kept.refl _ _,_,_,rfl,hE,rfl⟩
    ·intro a w ux12 hE hM hp
     have f7 : ux12 7 = (ptr pb1 (0 + ((wr (s4.2 + 1))).toNat * 1)):=hp 0 _ rfl rfl
     exact ZF (v:=(vB x16)) hE Za ld (lk rfl f7) ty5 rfl (At.vec (hM.rawAt (pre:=[])) hi18.2) fun a hE=>⟨Kept.refl _ _,_,_,rfl,hE,rfl⟩
    ·exact fun a w ux12 hE hM hp=>Zc hE Za ld rfl fun a hE=>⟨Kept.refl _ _,_,_,rfl,hE,rfl⟩
    ·exact fun a w ux12 hE hM hp=>Zc hE Za ld rfl fun a hE=>⟨Kept.refl _ _,_,_,rfl,hE,rfl⟩
    ·intro a w ux12 hE hM hp
     have f10 : ux12 10 = (vI s4.2):=hp 0 _ rfl rfl
     exact Zm hE Za ld (lk rfl f10) rfl rfl fun a hE=>⟨Kept.refl _ _,_,_,rfl,hE,rfl⟩
    ·intro a w ux12 hE hM hp
     have f9 : ux12 9 = (Value.slice (some ⟨pb1,0,none⟩) 16 16):=hp 0 _ rfl rfl
     have f11 : ux12 11 = (vI (wr (s4.2 + 2))):=hp 1 _ rfl rfl
     exact Tz hE Za ld (lk rfl f9) (lk rfl f11) Try.underlying22 ty5 hi21.1 fun a hE=>⟨Kept.refl _ _,_,_,rfl,hE,rfl⟩
    ·intro a w ux12 hE hM hp
     have f12 : ux12 12 = (ptr pb1 (0 + ((wr (s4.2 + 2))).toNat * 1)):=hp 0 _ rfl rfl
     exact ZF (v:=(vB x19)) hE Za ld (lk rfl f12) ty5 rfl (At.vec (hM.rawAt (pre:=[])) hi21.2) fun a hE=>⟨Kept.refl _ _,_,_,rfl,hE,rfl⟩
    ·exact fun a w ux12 hE hM hp=>Zc hE Za ld rfl fun a hE=>⟨Kept.refl _ _,_,_,rfl,hE,rfl⟩
    ·exact fun a w ux12 hE hM hp=>Zc hE Za ld rfl fun a hE=>⟨Kept.refl _ _,_,_,rfl,hE,rfl⟩
    ·intro a w ux12 hE hM hp
     have f15 : ux12 15 = (vI s4.2):=hp 0 _ rfl rfl
     exact Zm hE Za ld (lk rfl f15) rfl rfl fun a hE=>⟨Kept.refl _ _,_,_,rfl,hE,rfl⟩
    ·intro a w ux12 hE hM hp
     have f14 : ux12 14 = (Value.slice (some ⟨pb1,0,none⟩) 16 16):=hp 0 _ rfl rfl
     have f16 : ux12 16 = (vI (wr (s4.2 + 3))):=hp 1 _ rfl rfl
     exact Tz hE Za ld (lk rfl f14) (lk rfl f16) Try.underlying22 ty5 hi24.1 fun a hE=>⟨Kept.refl _ _,_,_,rfl,hE,rfl⟩
    ·intro a w ux12 hE hM hp
     have f17 : ux12 17 = (ptr pb1 (0 + ((wr (s4.2 + 3))).toNat * 1)):=hp 0 _ rfl rfl
     exact ZF (v:=(vB x22)) hE Za ld (lk rfl f17) ty5 rfl (At.vec (hM.rawAt (pre:=[])) hi24.2) fun a hE=>⟨Kept.refl _ _,_,_,rfl,hE,rfl⟩
    ·intro a w ux12 hE hM hp
     have f3 : ux12 3 = (vB x13):=hp 0 _ rfl rfl
     exact Ze hE Za ld (lk rfl f3) fun a hE=>⟨Kept.refl _ _,_,_,rfl,hE,rfl⟩
    ·intro a w ux12 hE hM hp
     have f8 : ux12 8 = (vB x16):=hp 0 _ rfl rfl
     exact Ze hE Za ld (lk rfl f8) fun a hE=>⟨Kept.refl _ _,_,_,rfl,hE,rfl⟩
    ·intro a w ux12 hE hM hp
     have f13 : ux12 13 = (vB x19):=hp 0 _ rfl rfl
     exact Ze hE Za ld (lk rfl f13) fun a hE=>⟨Kept.refl _ _,_,_,rfl,hE,rfl⟩
    ·intro a w ux12 hE hM hp
     have f18 : ux12 18 = (vB x22):=hp 0 _ rfl rfl
     exact Ze hE Za ld (lk rfl f18) fun a hE=>⟨Kept.refl _ _,_,_,rfl,hE,rfl⟩
    ·intro a w ux12 hE hM hg
     have hE:=hE.sub (e':=[(5,vB x13),(6,vB x16),(7,vB x19),(8,vB x22),(0,v0_1),(1,(Value.slice (some ⟨pb1,0,none⟩) 16 16)),(4,vI s4.2),(10,vI s4.2),(11,(Value.slice (some ⟨pb1,0,none⟩) 16 16)),(12,(vI (s4.1.toList.length : Int))),(13,(vT (decide (s4.2 < (s4.1.toList.length : Int)))))]) ⟨lk rfl (hg 19 (by decide)),lk rfl (hg 20 (by decide)),lk rfl (hg 21 (by decide)),lk rfl (hg 22 (by decide)),rfl,rfl,rfl,rfl,rfl,rfl,rfl,trivial⟩
     refine Zk ?_
     have ht25:=Option.some.inj hl10
     subst ht25
     refine Zn ?_
     exact ⟨hE.sub ⟨rfl,rfl,rfl,rfl,rfl,rfl,rfl,trivial⟩,hM⟩
   ·skip
    rintro a w ⟨hE,hM⟩
    refine Zd (Zc hE Za ld rfl fun a hE=>Zf ?_)
    obtain ⟨j26,hl27,hF28⟩:=bind_some hF11
    refine Z0 (fun a w=>Env 79 a [(0,v0_1),(1,(Value.slice (some ⟨pb1,0,none⟩) 16 16)),(4,vI s4.2)] ∧ M St W w (raw pb1 (enc j26) :: its)) ?_ ?_
    ·skip
     refine wp_block ?_
     refine ZV (fun (s29 : (Vector UInt8 16) × Int) a w=>Env 79 a [(0,v0_1),(1,(Value.slice (some ⟨pb1,0,none⟩) 16 16)),(4,vI s4.2),(5,vB j9.1),(6,vB j9.2.1),(7,vB j9.2.2.1),(8,vB j9.2.2.2),(35,vI s29.2)] ∧ M St W w (raw pb1 (enc s29.1) :: its)) hl27 ⟨hE.sub ⟨rfl,rfl,rfl,rfl,rfl,rfl,rfl,rfl,trivial⟩,hM⟩ ?_
     rintro s29 a w ⟨hE,hM⟩ o32 hs30 hx31
     unfold Wk at hs30
     refine Zd (Zm hE Za ld rfl rfl rfl fun a hE=>Zf (wp_seq ?_))
     refine Zv hE rfl ?_ ?_
     ·intro hb33
      have hs30:=ZB hs30 hb33
      refine wp_skip (ZG (wp_seq (wp_block (Zd (Zc hE Za ld rfl fun a hE=>Ze hE Za ld rfl fun a hE=>Zf ?_)))))
      obtain ⟨pb35,ds36,hv37,hx38,hA39,hB40⟩:=Vt hv0_1 -- ^
      obtain ⟨rfl,_⟩:=T7.1 hx38 -- ^
      obtain ⟨x42,hi41,hs30⟩:=bvx hs30
      obtain ⟨x45,hi44,hs30⟩:=bvx hs30
      obtain ⟨x48,hi47,hs30⟩:=bvx hs30
      obtain ⟨pb50,ds51,hv52,hx53,hA54,hB55⟩:=Vt hv0_1 -- ^
      obtain ⟨rfl,_⟩:=T7.1 hx53 -- ^
      obtain ⟨x57,hi56,hs30⟩:=bvx hs30
      obtain ⟨x60,hi59,hs30⟩:=bvx hs30
      obtain ⟨x63,hi62,hs30⟩:=bvx hs30
      obtain ⟨pb65,ds66,hv67,hx68,hA69,hB70⟩:=Vt hv0_1 -- ^
      obtain ⟨rfl,_⟩:=T7.1 hx68 -- ^
      obtain ⟨x72,hi71,hs30⟩:=bvx hs30
      obtain ⟨x75,hi74,hs30⟩:=bvx hs30
      obtain ⟨x78,hi77,hs30⟩:=bvx hs30
      obtain ⟨pb80,ds81,hv82,hx83,hA84,hB85⟩:=Vt hv0_1 -- ^
      obtain ⟨rfl,_⟩:=T7.1 hx83 -- ^
      obtain ⟨x87,hi86,hs30⟩:=bvx hs30
      obtain ⟨x90,hi89,hs30⟩:=bvx hs30
      obtain ⟨x93,hi92,hs30⟩:=bvx hs30
      obtain ⟨x95,hi97,hs30⟩:=bvx hs30
      refine Yw (n:=79) (hd:=[_,_,_,_,_,_,_,_,_,_,_,_,_,_,_,_,_,_,_,_,_,_,_,_,_,_,_,_,_,_,_,_,_,_,_,_,_,_,_,_]) (tl:=[_]) YS rfl rfl [38,39,40,41,42,43,44,45,46,47,48,49,50,51,52,53,54,55,56,57,58,59,60,61,62,63,64,65,66,67,68,69,70,71,72,73,74,75,76,77] (by decide) (fun w=>M St W w (raw pb1 (enc s29.1) :: its)) (fun j=>([fun v _=>v = (Value.slice (some ⟨pb1,0,none⟩) 16 16),fun v _=>v = (vI s4.2),fun v _=>v = (vI s29.2),fun v _=>v = (vI (wr (s4.2 + s29.2))),fun v _=>v = v0_1,fun v _=>v = (vI s29.2),fun v _=>v = (vB j9.1),fun v _=>v = (ptr pb35 0),fun v _=>v = (ptr pb35 (0 + (s29.2).toNat * 1024)),fun v _=>v = (ptr pb35 (0 + (s29.2).toNat * 1024 + ((0 : Int)).toNat * 256)),fun v _=>v = (ptr pb35 (0 + (s29.2).toNat * 1024 + ((0 : Int)).toNat * 256 + ((bI j9.1)).toNat * 1)),fun v _=>v = (vB x48),fun v _=>v = v0_1,fun v _=>v = (vI s29.2),fun v _=>v = (vB j9.2.1),fun v _=>v = (ptr pb50 0),fun v _=>v = (ptr pb50 (0 + (s29.2).toNat * 1024)),fun v _=>v = (ptr pb50 (0 + (s29.2).toNat * 1024 + ((1 : Int)).toNat * 256)),fun v _=>v = (ptr pb50 (0 + (s29.2).toNat * 1024 + ((1 : Int)).toNat * 256 + ((bI j9.2.1)).toNat * 1)),fun v _=>v = (vB x63),fun v _=>v = (vB (x48 ^^^ x63)),fun v _=>v = v0_1,fun v _=>v = (vI s29.2),fun v _=>v = (vB j9.2.2.1),fun v _=>v = (ptr pb65 0),fun v _=>v = (ptr pb65 (0 + (s29.2).toNat * 1024)),fun v _=>v = (ptr pb65 (0 + (s29.2).toNat * 1024 + ((2 : Int)).toNat * 256)),fun v _=>v = (ptr pb65 (0 + (s29.2).toNat * 1024 + ((2 : Int)).toNat * 256 + ((bI j9.2.2.1)).toNat * 1)),fun v _=>v = (vB x78),fun v _=>v = (vB ((x48 ^^^ x63) ^^^ x78)),fun v _=>v = v0_1,fun v _=>v = (vI s29.2),fun v _=>v = (vB j9.2.2.2),fun v _=>v = (ptr pb80 0),fun v _=>v = (ptr pb80 (0 + (s29.2).toNat * 1024)),fun v _=>v = (ptr pb80 (0 + (s29.2).toNat * 1024 + ((3 : Int)).toNat * 256)),fun v _=>v = (ptr pb80 (0 + (s29.2).toNat * 1024 + ((3 : Int)).toNat * 256 + ((bI j9.2.2.2)).toNat * 1)),fun v _=>v = (vB x93),fun v _=>v = (vB (((x48 ^^^ x63) ^^^ x78) ^^^ x93)),fun v _=>v = (ptr pb1 (0 + ((wr (s4.2 + s29.2))).toNat * 1))] : List (Value → World → Prop)).getD j (fun _ _=>True)) (fun _ _ h hk=>h.keep hk) (gup (Zp (Zp (Zp (Zp (Zp (Zp (Zp (Zp (Zp (Zp (Zp (Zp (Zp (Zp (Zp (Zp (Zp (Zp (Zp (Zp (Zp (Zp (Zp (Zp (Zp (Zp (Zp (Zp (Zp (Zp (Zp (Zp (Zp (Zp (Zp (Zp (Zp (Zp (Zp (Zp Vq))))))))))))))))))))))))))))))))))))))))) hE hM.drew (ZS (Zb ?_ (Zb ?_ (Zb ?_ (Zb ?_ (Zb ?_ (Zb ?_ (Zb ?_ (Zb ?_ (Zb ?_ (Zb ?_ (Zb ?_ (Zb ?_ (Zb ?_ (Zb ?_ (Zb ?_ (Zb ?_ (Zb ?_ (Zb ?_ (Zb ?_ (Zb ?_ (Zb ?_ (Zb ?_ (Zb ?_ (Zb ?_ (Zb ?_ (Zb ?_ (Zb ?_ (Zb ?_ (Zb ?_ (Zb ?_ (Zb ?_ (Zb ?_ (Zb ?_ (Zb ?_ (Zb ?_ (Zb ?_ (Zb ?_ (Zb ?_ (Zb ?_ (Zb ?_ ZL))))))))))))))))))))))))))))))))))))))))) ?_
      ·exact fun a w ux34 hE hM hp=>Zc hE Za ld rfl fun a hE=>⟨Kept.refl _ _,_,_,rfl,hE,rfl⟩
      ·exact fun a w ux34 hE hM hp=>Zc hE Za ld rfl fun a hE=>⟨Kept.refl _ _,_,_,rfl,hE,rfl⟩
      ·exact fun a w ux34 hE hM hp=>Zc hE Za ld rfl fun a hE=>⟨Kept.refl _ _,_,_,rfl,hE,rfl⟩
      ·intro a w ux34 hE hM hp
       have f1 : ux34 1 = (vI s4.2):=hp 0 _ rfl rfl
       have f2 : ux34 2 = (vI s29.2):=hp 1 _ rfl rfl
       exact Zm hE Za ld (lk rfl f1) (lk rfl f2) rfl fun a hE=>⟨Kept.refl _ _,_,_,rfl,hE,rfl⟩
      ·exact fun a w ux34 hE hM hp=>Zc hE Za ld rfl fun a hE=>⟨Kept.refl _ _,_,_,rfl,hE,rfl⟩
      ·exact fun a w ux34 hE hM hp=>Zc hE Za ld rfl fun a hE=>⟨Kept.refl _ _,_,_,rfl,hE,rfl⟩
      ·exact fun a w ux34 hE hM hp=>Zc hE Za ld rfl fun a hE=>⟨Kept.refl _ _,_,_,rfl,hE,rfl⟩
      ·intro a w ux34 hE hM hp
       have f4 : ux34 4 = v0_1:=hp 0 _ rfl rfl
       exact Z9 hE Za ld (lk (lk rfl f4) hv37) fun a hE=>⟨Kept.refl _ _,_,_,rfl,hE,rfl⟩
      ·intro a w ux34 hE hM hp
       have f5 : ux34 5 = (vI s29.2):=hp 1 _ rfl rfl
       have f7 : ux34 7 = (ptr pb35 0):=hp 0 _ rfl rfl
       exact Zh hE Za ld (lk rfl f7) (lk rfl f5) Try.underlying231 Bq hi41.1 fun a hE=>⟨Kept.refl _ _,_,_,rfl,hE,rfl⟩
      ·intro a w ux34 hE hM hp
       have f8 : ux34 8 = (ptr pb35 (0 + (s29.2).toNat * 1024)):=hp 0 _ rfl rfl
       exact Zh hE Za ld (lk rfl f8) rfl Try.underlying229 ty53 hi44.1 fun a hE=>⟨Kept.refl _ _,_,_,rfl,hE,rfl⟩
      ·intro a w ux34 hE hM hp
       have f6 : ux34 6 = (vB j9.1):=hp 1 _ rfl rfl
       have f9 : ux34 9 = (ptr pb35 (0 + (s29.2).toNat * 1024 + ((0 : Int)).toNat * 256)):=hp 0 _ rfl rfl
       exact Zh hE Za ld (lk rfl f9) (lk rfl f6) Try.underlying53 ty5 hi47.1 fun a hE=>⟨Kept.refl _ _,_,_,rfl,hE,rfl⟩
      ·intro a w ux34 hE hM hp
       have f10 : ux34 10 = (ptr pb35 (0 + (s29.2).toNat * 1024 + ((0 : Int)).toNat * 256 + ((bI j9.1)).toNat * 1)):=hp 0 _ rfl rfl
       exact ZF (v:=(vB x48)) hE Za ld (lk rfl f10) ty5 rfl (At.vec (At.vec (At.vec (hM.atk hA39 hB40) hi41.2) hi44.2) hi47.2) fun a hE=>⟨Kept.refl _ _,_,_,rfl,hE,rfl⟩
      ·exact fun a w ux34 hE hM hp=>Zc hE Za ld rfl fun a hE=>⟨Kept.refl _ _,_,_,rfl,hE,rfl⟩
      ·exact fun a w ux34 hE hM hp=>Zc hE Za ld rfl fun a hE=>⟨Kept.refl _ _,_,_,rfl,hE,rfl⟩
      ·exact fun a w ux34 hE hM hp=>Zc hE Za ld rfl fun a hE=>⟨Kept.refl _ _,_,_,rfl,hE,rfl⟩
      ·intro a w ux34 hE hM hp
       have f12 : ux34 12 = v0_1:=hp 0 _ rfl rfl
       exact Z9 hE Za ld (lk (lk rfl f12) hv52) fun a hE=>⟨Kept.refl _ _,_,_,rfl,hE,rfl⟩
      ·intro a w ux34 hE hM hp
       have f13 : ux34 13 = (vI s29.2):=hp 1 _ rfl rfl
       have f15 : ux34 15 = (ptr pb50 0):=hp 0 _ rfl rfl
       exact Zh hE Za ld (lk rfl f15) (lk rfl f13) Try.underlying231 Bq hi56.1 fun a hE=>⟨Kept.refl _ _,_,_,rfl,hE,rfl⟩
      ·intro a w ux34 hE hM hp
       have f16 : ux34 16 = (ptr pb50 (0 + (s29.2).toNat * 1024)):=hp 0 _ rfl rfl
       exact Zh hE Za ld (lk rfl f16) rfl Try.underlying229 ty53 hi59.1 fun a hE=>⟨Kept.refl _ _,_,_,rfl,hE,rfl⟩
      ·intro a w ux34 hE hM hp
       have f14 : ux34 14 = (vB j9.2.1):=hp 1 _ rfl rfl
       have f17 : ux34 17 = (ptr pb50 (0 + (s29.2).toNat * 1024 + ((1 : Int)).toNat * 256)):=hp 0 _ rfl rfl
       exact Zh hE Za ld (lk rfl f17) (lk rfl f14) Try.underlying53 ty5 hi62.1 fun a hE=>⟨Kept.refl _ _,_,_,rfl,hE,rfl⟩
      ·intro a w ux34 hE hM hp
       have f18 : ux34 18 = (ptr pb50 (0 + (s29.2).toNat * 1024 + ((1 : Int)).toNat * 256 + ((bI j9.2.1)).toNat * 1)):=hp 0 _ rfl rfl
       exact ZF (v:=(vB x63)) hE Za ld (lk rfl f18) ty5 rfl (At.vec (At.vec (At.vec (hM.atk hA54 hB55) hi56.2) hi59.2) hi62.2) fun a hE=>⟨Kept.refl _ _,_,_,rfl,hE,rfl⟩
      ·intro a w ux34 hE hM hp
       have f11 : ux34 11 = (vB x48):=hp 0 _ rfl rfl
       have f19 : ux34 19 = (vB x63):=hp 1 _ rfl rfl
       exact Zm hE Za ld (lk rfl f11) (lk rfl f19) (Ug x48 x63) fun a hE=>⟨Kept.refl _ _,_,_,rfl,hE,rfl⟩
      ·exact fun a w ux34 hE hM hp=>Zc hE Za ld rfl fun a hE=>⟨Kept.refl _ _,_,_,rfl,hE,rfl⟩
      ·exact fun a w ux34 hE hM hp=>Zc hE Za ld rfl fun a hE=>⟨Kept.refl _ _,_,_,rfl,hE,rfl⟩
      ·exact fun a w ux34 hE hM hp=>Zc hE Za ld rfl fun a hE=>⟨Kept.refl _ _,_,_,rfl,hE,rfl⟩
      ·intro a w ux34 hE hM hp
       have f21 : ux34 21 = v0_1:=hp 0 _ rfl rfl
       exact Z9 hE Za ld (lk (lk rfl f21) hv67) fun a hE=>⟨Kept.refl _ _,_,_,rfl,hE,rfl⟩
      ·intro a w ux34 hE hM hp
       have f22 : ux34 22 = (vI s29.2):=hp 1 _ rfl rfl
       have f24 : ux34 24 = (ptr pb65 0):=hp 0 _ rfl rfl
       exact Zh hE Za ld (lk rfl f24) (lk rfl f22) Try.underlying231 Bq hi71.1 fun a hE=>⟨Kept.refl _ _,_,_,rfl,hE,rfl⟩
      ·intro a w ux34 hE hM hp
       have f25 : ux34 25 = (ptr pb65 (0 + (s29.2).toNat * 1024)):=hp 0 _ rfl rfl
       exact Zh hE Za ld (lk rfl f25) rfl Try.underlying229 ty53 hi74.1 fun a hE=>⟨Kept.refl _ _,_,_,rfl,hE,rfl⟩
      ·intro a w ux34 hE hM hp
       have f23 : ux34 23 = (vB j9.2.2.1):=hp 1 _ rfl rfl
       have f26 : ux34 26 = (ptr pb65 (0 + (s29.2).toNat * 1024 + ((2 : Int)).toNat * 256)):=hp 0 _ rfl rfl
       exact Zh hE Za ld (lk rfl f26) (lk rfl f23) Try.underlying53 ty5 hi77.1 fun a hE=>⟨Kept.refl _ _,_,_,rfl,hE,rfl⟩
      ·intro a w ux34 hE hM hp
       have f27 : ux34 27 = (ptr pb65 (0 + (s29.2).toNat * 1024 + ((2 : Int)).toNat * 256 + ((bI j9.2.2.1)).toNat * 1)):=hp 0 _ rfl rfl
       exact ZF (v:=(vB x78)) hE Za ld (lk rfl f27) ty5 rfl (At.vec (At.vec (At.vec (hM.atk hA69 hB70) hi71.2) hi74.2) hi77.2) fun a hE=>⟨Kept.refl _ _,_,_,rfl,hE,rfl⟩
      ·intro a w ux34 hE hM hp
       have f20 : ux34 20 = (vB (x48 ^^^ x63)):=hp 0 _ rfl rfl
       have f28 : ux34 28 = (vB x78):=hp 1 _ rfl rfl
       exact Zm hE Za ld (lk rfl f20) (lk rfl f28) (Ug (x48 ^^^ x63) x78) fun a hE=>⟨Kept.refl _ _,_,_,rfl,hE,rfl⟩
      ·exact fun a w ux34 hE hM hp=>Zc hE Za ld rfl fun a hE=>⟨Kept.refl _ _,_,_,rfl,hE,rfl⟩
      ·exact fun a w ux34 hE hM hp=>Zc hE Za ld rfl fun a hE=>⟨Kept.refl _ _,_,_,rfl,hE,rfl⟩
      ·exact fun a w ux34 hE hM hp=>Zc hE Za ld rfl fun a hE=>⟨Kept.refl _ _,_,_,rfl,hE,rfl⟩
      ·intro a w ux34 hE hM hp
       have f30 : ux34 30 = v0_1:=hp 0 _ rfl rfl
       exact Z9 hE Za ld (lk (lk rfl f30) hv82) fun a hE=>⟨Kept.refl _ _,_,_,rfl,hE,rfl⟩
      ·intro a w ux34 hE hM hp
       have f31 : ux34 31 = (vI s29.2):=hp 1 _ rfl rfl
       have f33 : ux34 33 = (ptr pb80 0):=hp 0 _ rfl rfl
       exact Zh hE Za ld (lk rfl f33) (lk rfl f31) Try.underlying231 Bq hi86.1 fun a hE=>⟨Kept.refl _ _,_,_,rfl,hE,rfl⟩
      ·intro a w ux34 hE hM hp
       have f34 : ux34 34 = (ptr pb80 (0 + (s29.2).toNat * 1024)):=hp 0 _ rfl rfl
       exact Zh hE Za ld (lk rfl f34) rfl Try.underlying229 ty53 hi89.1 fun a hE=>⟨Kept.refl _ _,_,_,rfl,hE,rfl⟩
      ·intro a w ux34 hE hM hp
       have f32 : ux34 32 = (vB j9.2.2.2):=hp 1 _ rfl rfl
       have f35 : ux34 35 = (ptr pb80 (0 + (s29.2).toNat * 1024 + ((3 : Int)).toNat * 256)):=hp 0 _ rfl rfl
       exact Zh hE Za ld (lk rfl f35) (lk rfl f32) Try.underlying53 ty5 hi92.1 fun a hE=>⟨Kept.refl _ _,_,_,rfl,hE,rfl⟩
      ·intro a w ux34 hE hM hp
       have f36 : ux34 36 = (ptr pb80 (0 + (s29.2).toNat * 1024 + ((3 : Int)).toNat * 256 + ((bI j9.2.2.2)).toNat * 1)):=hp 0 _ rfl rfl
       exact ZF (v:=(vB x93)) hE Za ld (lk rfl f36) ty5 rfl (At.vec (At.vec (At.vec (hM.atk hA84 hB85) hi86.2) hi89.2) hi92.2) fun a hE=>⟨Kept.refl _ _,_,_,rfl,hE,rfl⟩
      ·intro a w ux34 hE hM hp
       have f29 : ux34 29 = (vB ((x48 ^^^ x63) ^^^ x78)):=hp 0 _ rfl rfl
       have f37 : ux34 37 = (vB x93):=hp 1 _ rfl rfl
       exact Zm hE Za ld (lk rfl f29) (lk rfl f37) (Ug ((x48 ^^^ x63) ^^^ x78) x93) fun a hE=>⟨Kept.refl _ _,_,_,rfl,hE,rfl⟩
      ·intro a w ux34 hE hM hp
       have f0 : ux34 0 = (Value.slice (some ⟨pb1,0,none⟩) 16 16):=hp 0 _ rfl rfl
       have f3 : ux34 3 = (vI (wr (s4.2 + s29.2))):=hp 1 _ rfl rfl
       exact Tz hE Za ld (lk rfl f0) (lk rfl f3) Try.underlying22 ty5 hi97.1 fun a hE=>⟨Kept.refl _ _,_,_,rfl,hE,rfl⟩
      ·intro a w ux34 hE hM hg
       have hE:=hE.sub (e':=[(76,(vB (((x48 ^^^ x63) ^^^ x78) ^^^ x93))),(77,(ptr pb1 (0 + ((wr (s4.2 + s29.2))).toNat * 1))),(0,v0_1),(1,(Value.slice (some ⟨pb1,0,none⟩) 16 16)),(4,vI s4.2),(5,vB j9.1),(6,vB j9.2.1),(7,vB j9.2.2.1),(8,vB j9.2.2.2),(9,vI s29.2),(35,vI s29.2),(36,(vT (decide (s29.2 < 4)))),(37,vI s29.2)]) ⟨lk rfl (hg 38 (by decide)),lk rfl (hg 39 (by decide)),rfl,rfl,rfl,rfl,rfl,rfl,rfl,rfl,rfl,rfl,rfl,trivial⟩
       refine Zi (seg:=[(vB (((x48 ^^^ x63) ^^^ x78) ^^^ x93))]) (cs':=enc (s29.1.setIfInBounds ((wr (s4.2 + s29.2))).toNat (((x48 ^^^ x63) ^^^ x78) ^^^ x93))) hE hM Za rfl rfl rfl ty5 rfl (ZN (v:=s29.1) (x:=((x48 ^^^ x63) ^^^ x78) ^^^ x93) hi97.1) (Flat.cell (((x48 ^^^ x63) ^^^ x78) ^^^ x93 : UInt8)) (ZD (v:=s29.1) (x:=((x48 ^^^ x63) ^^^ x78) ^^^ x93) hi97.1) fun w a hM hE=>Zk (Yj (ZG (wp_region_lit (Zm hE Za ld rfl rfl rfl fun a hE=>Zc hE Za ld rfl fun a hE=>Zk (Zn ?_)))))
       exact ⟨_,(ois hs30),hE.sub ⟨rfl,rfl,rfl,rfl,rfl,rfl,rfl,rfl,trivial⟩,hM⟩
     ·intro hb33
      have hs30:=ZA hs30 hb33
      refine wp_exit (Zs (Zs (Yz ?_)))
      have ht98:=hx31 _ (ois hs30)
      subst ht98
      refine Zn ?_
      exact ⟨hE.sub ⟨rfl,rfl,rfl,trivial⟩,hM⟩
    ·skip
     rintro a w ⟨hE,hM⟩
     refine Yj (ZG (wp_region_lit (Zc hE Za ld rfl fun a hE=>Zm hE Za ld rfl rfl rfl fun a hE=>Ze hE Za ld rfl fun a hE=>Zk (Zn ?_))))
     exact ⟨_,(ois hF28),hE.sub ⟨rfl,rfl,rfl,trivial⟩,hM⟩
  ·intro hb8
   have hs5:=ZA hs5 hb8
   refine wp_exit (Zs (Zs (Yz ?_)))
   have ht99:=hx6 _ (ois hs5)
   subst ht99
   refine Zn ?_
   exact ⟨hE.sub ⟨rfl,trivial⟩,hM⟩
 ·skip
  rintro a w ⟨hE,hM⟩
  have hr:=Option.some.inj hF3
  subst hr
  exact j0 hE (by rfl) ⟨_,rfl,rfl,hM⟩
def Ym (p0 : (Ref Gengine)) (s18 : (Vector UInt8 16) × Int) (s29 : (Vector UInt8 16) × Int) : Option (Fl ((Vector UInt8 16) × Int) (Vector UInt8 16)) :=
 if (decide (s29.2 < 16)) = true then ((ZI s18.1 s29.2).bind fun x34=>(ZI p0.v.box (bI x34)).bind fun x48=>(ZI s29.1 s29.2).bind fun x51=>some (Fl.nx ((s29.1.setIfInBounds (s29.2).toNat x48),wr (s29.2 + 1)))) else (some (Fl.ex s29.1))
def Yn (p0 : (Ref Gengine)) (p1 : (List (Vector UInt8 16))) (s18 : (Vector UInt8 16) × Int) : Option (Fl ((Vector UInt8 16) × Int) (Vector UInt8 16)) :=
 if (decide (s18.2 < (p1.length : Int))) = true then (((ZQ (Ym p0 s18) (s18.1,0)).bind fun j26=>((YL p0.v.places j26).bind fun r68=>some r68 : Option ((Vector UInt8 16))).bind fun j54=>(if (decide (s18.2 < (wr ((p1.length : Int) - 1)))) = true then ((slc j54.toList (0 : Int) (16 : Int)).bind fun l86=>(Wy p0.v.mixer j54).bind fun r89=>some r89) else (some j54) : Option ((Vector UInt8 16))).bind fun j71=>(idx p1 s18.2).bind fun x94=>(Xe j71 x94).bind fun r97=>some r97 : Option ((Vector UInt8 16))).bind fun j23=>some (Fl.nx (j23,wr (s18.2 + 1)))) else (some (Fl.ex s18.1))
def Yx (p0 : (Ref Gengine)) (p1 : (List (Vector UInt8 16))) (p2 : (Vector UInt8 16)) : Option ((Vector UInt8 16)) :=
 ((idx p1 (0 : Int)).bind fun x9=>(Xe p2 x9).bind fun r12=>some r12 : Option ((Vector UInt8 16))).bind fun j5=>(ZQ (Yn p0 p1) (j5,1)).bind fun j15=>some j15
theorem Ua (w0 : World) (p0 : (Ref Gengine)) (v0_1 : Value) (hv0_1 : Ro w0 p0 [v0_1]) (p1 : (List (Vector UInt8 16))) (v1_1 : Value) (hv1_1 : Ro w0 p1 [v1_1]) (p2 : (Vector UInt8 16)) (r : (Vector UInt8 16)) (hF : Yx p0 p1 p2 = some r) :
  Calls Try.prog 149 [v0_1,v1_1,(Value.agg (enc p2).toArray)].toArray w0 (fun en w'=>∃ v,en = .returned v ∧ (v = (Value.agg (enc r).toArray) ∧ Kept (Old w0) w0 w')):=by
 refine ZJ (n:=59) Try.func149 rfl rfl (nbl rfl) rfl ?_
 intro a hE
 have hM:=M.start w0
 unfold Yx at hF
 refine Zd (Z3 (cs:=enc p2) hE hM Za ld rfl rfl fun b1 w a hM hE=>Zu hE hM Za ld Zw fun b3 w a hM hE=>Zf ?_)
 obtain ⟨j5,hl6,hF7⟩:=bind_some hF
 refine ZT (fun a w=>Env 59 a [(0,v0_1),(1,v1_1),(5,(ptr b1 0)),(6,(ptr b3 0))] ∧ M (Old w0) w0 w [raw b3 (enc (Vector.replicate 16 (0 : UInt8))),raw b1 (enc j5)]) ?_ ?_
 ·skip
  obtain ⟨x9,hi11,hl6⟩:=bix hl6
  obtain ⟨r12,e13,hl6⟩:=bind_some hl6
  refine Yw (n:=59) (hd:=[_,_,_,_,_]) (tl:=[_]) YS rfl rfl [10,11,12,13,14] (by decide) (fun w=>M (Old w0) w0 w [raw b3 (enc (Vector.replicate 16 (0 : UInt8))),raw b1 (enc p2)]) (fun j=>([fun v _=>v = (Value.agg (enc p2).toArray),fun v _=>v = v1_1,fun v _=>v = (ptr (sb v1_1) (so v1_1 + ((0 : Int)).toNat * 16)),fun v _=>v = (Value.agg (enc x9).toArray),fun v _=>v = (Value.agg (enc r12).toArray)] : List (Value → World → Prop)).getD j (fun _ _=>True)) (fun _ _ h hk=>h.keep hk) (gup (Zp (Zp (Zp (Zp (Zp Vq)))))) hE hM.drew (ZS (Zb ?_ (Zb ?_ (Zb ?_ (Zb ?_ (Zb ?_ ZL)))))) ?_
  ·exact fun a w ux8 hE hM hp=>Zj (cs:=enc p2) hE Za ld rfl Zw rfl (hM.rawAt (pre:=[_])) (Flat.len _) fun a hE=>⟨Kept.refl _ _,_,_,rfl,hE,rfl⟩
  ·exact fun a w ux8 hE hM hp=>Zc hE Za ld rfl fun a hE=>⟨Kept.refl _ _,_,_,rfl,hE,rfl⟩
  ·intro a w ux8 hE hM hp
   have f1 : ux8 1 = v1_1:=hp 0 _ rfl rfl
   exact Yv hE Za ld (lk rfl f1) rfl Try.underlying136 Zw (hM.rd hv1_1) hi11.1 fun a hE=>⟨Kept.refl _ _,_,_,rfl,hE,rfl⟩
  ·intro a w ux8 hE hM hp
   have f2 : ux8 2 = (ptr (sb v1_1) (so v1_1 + ((0 : Int)).toNat * 16)):=hp 0 _ rfl rfl
   exact Zj (cs:=enc x9) hE Za ld (lk rfl f2) Zw rfl (X9 (hM.rd hv1_1) hi11.2) (Flat.len _) fun a hE=>⟨Kept.refl _ _,_,_,rfl,hE,rfl⟩
  ·intro a w ux8 hE hM hp
   have f0 : ux8 0 = (Value.agg (enc p2).toArray):=hp 0 _ rfl rfl
   have f3 : ux8 3 = (Value.agg (enc x9).toArray):=hp 1 _ rfl rfl
   refine Zo hE Za ld (Z1 (ZX (lk rfl f0) (ZX (lk rfl f3) Xg))) z4 (Uv _ p2 x9 r12 e13) ?_
   rintro v w a ⟨rfl,hK⟩ hE
   exact ⟨hK,_,_,rfl,hE,rfl⟩
  ·intro a w ux8 hE hM hg
   have hE:=hE.sub (e':=[(14,(Value.agg (enc r12).toArray)),(0,v0_1),(1,v1_1),(5,(ptr b1 0)),(6,(ptr b3 0))]) ⟨lk rfl (hg 4 (by decide)),rfl,rfl,rfl,rfl,trivial⟩
   have hM:=hM.pull (pre:=[_])
   refine Zi (seg:=enc r12) (cs':=enc r12) hE hM Za rfl rfl rfl Zw (Flat.len _) (zle flq) (Flat.cell _) (Zg flq) fun w a hM hE=>Zk ?_
   have ht14:=Option.some.inj hl6
   subst ht14
   refine Zn ?_
   have hM:=hM.pull (pre:=[_])
   exact ⟨hE.sub ⟨rfl,rfl,rfl,rfl,trivial⟩,hM⟩
 ·skip
  rintro a w ⟨hE,hM⟩
  refine wp_seq (Zd (Ze hE Za ld rfl fun a hE=>Zf ?_))
  obtain ⟨j15,hl16,hF17⟩:=bind_some hF7
  refine Z0 (fun a w=>Env 59 a [(5,(ptr b1 0)),(6,(ptr b3 0))] ∧ M (Old w0) w0 w [raw b3 (enc (Vector.replicate 16 (0 : UInt8))),raw b1 (enc j15)]) ?_ ?_
  ·skip
   refine wp_block ?_
   refine ZV (fun (s18 : (Vector UInt8 16) × Int) a w=>Env 59 a [(0,v0_1),(1,v1_1),(5,(ptr b1 0)),(6,(ptr b3 0)),(7,vI s18.2)] ∧ M (Old w0) w0 w [raw b3 (enc (Vector.replicate 16 (0 : UInt8))),raw b1 (enc s18.1)]) hl16 ⟨hE.sub ⟨rfl,rfl,rfl,rfl,rfl,trivial⟩,hM⟩ ?_
   rintro s18 a w ⟨hE,hM⟩ o21 hs19 hx20
   unfold Yn at hs19
   refine wp_seq (Zd (Zc hE Za ld rfl fun a hE=>Zc hE Za ld rfl fun a hE=>UU hE Za ld rfl Try.underlying136 (hM.rd hv1_1) fun a hE=>Zm hE Za ld rfl rfl rfl fun a hE=>Zf ?_))
   refine Zv hE rfl ?_ ?_
   ·intro hb22
    have hs19:=ZB hs19 hb22
    refine wp_skip (ZG ?_)
    obtain ⟨j23,hl24,hF25⟩:=bind_some hs19
    refine ZT (fun a w=>Env 59 a [(0,v0_1),(1,v1_1),(5,(ptr b1 0)),(6,(ptr b3 0)),(7,vI s18.2)] ∧ M (Old w0) w0 w [raw b3 (enc (Vector.replicate 16 (0 : UInt8))),raw b1 (enc j23)]) ?_ ?_
    ·skip
     refine wp_block (wp_seq (Zd (Zj (cs:=enc s18.1) hE Za ld rfl Zw rfl (hM.rawAt (pre:=[_])) (Flat.len _) fun a hE=>Zc hE Za ld rfl fun a hE=>Zf ?_)))
     obtain ⟨j26,hl27,hF28⟩:=bind_some hl24
     refine Z0 (fun a w=>Env 59 a [(0,v0_1),(1,v1_1),(5,(ptr b1 0)),(6,(ptr b3 0)),(7,vI s18.2)] ∧ M (Old w0) w0 w [raw b3 (enc (Vector.replicate 16 (0 : UInt8))),raw b1 (enc j26)]) ?_ ?_
     ·skip
      refine wp_block ?_
      refine ZV (fun (s29 : (Vector UInt8 16) × Int) a w=>Env 59 a [(0,v0_1),(1,v1_1),(5,(ptr b1 0)),(6,(ptr b3 0)),(7,vI s18.2),(21,(Value.agg (enc s18.1).toArray)),(22,vI s29.2)] ∧ M (Old w0) w0 w [raw b3 (enc (Vector.replicate 16 (0 : UInt8))),raw b1 (enc s29.1)]) hl27 ⟨hE.sub ⟨rfl,rfl,rfl,rfl,rfl,rfl,rfl,trivial⟩,hM⟩ ?_
      rintro s29 a w ⟨hE,hM⟩ o32 hs30 hx31
      unfold Ym at hs30
      refine Zd (Zm hE Za ld rfl rfl rfl fun a hE=>Zf (wp_seq ?_))
      refine Zv hE rfl ?_ ?_
      ·intro hb33
       have hs30:=ZB hs30 hb33
       refine wp_skip (ZG (wp_seq (wp_block (Zd (Zc hE Za ld rfl ?_))))); intro a hE
       obtain ⟨x34,hi36,hs30⟩:=bvx hs30
       refine Ts hE Za ld rfl rfl Try.underlying62 ty5 rfl rfl hi36 rfl fun a hE=>Ze hE Za ld rfl fun a hE=>Ze hE Za ld rfl fun a hE=>Zf (wp_region_lit (Zc hE Za ld rfl fun a hE=>Zc hE Za ld rfl fun a hE=>Zc hE Za ld rfl ?_)); intro a hE
       obtain ⟨pb37,ds38,hv39,hx40,hA41,hB42⟩:=Vt hv0_1 -- ^
       obtain ⟨u43,u45,rfl,h44,h46⟩:=VE hx40 -- ^
       refine Z9 hE Za ld (lk rfl hv39) fun a hE=>Zr hE Za ld rfl (Al) ?_; intro a hE
       obtain ⟨x48,hi47,hs30⟩:=bvx hs30
       refine Zh hE Za ld rfl rfl Try.underlying54 ty5 hi47.1 fun a hE=>ZF (v:=(vB x48)) hE Za ld rfl ty5 rfl (At.vec (At.cat (pre:=[]) (hM.atk hA41 hB42) cl0) hi47.2) ?_; intro a hE
       obtain ⟨x51,hi50,hs30⟩:=bvx hs30
       refine Zh hE Za ld rfl rfl Try.underlying62 ty5 hi50.1 ?_; intro a hE
       have hM:=hM.pull (pre:=[_])
       refine Zi (seg:=[vB x48]) (cs':=enc (s29.1.setIfInBounds (s29.2).toNat x48)) hE hM Za rfl rfl rfl ty5 rfl (ZN (v:=s29.1) (x:=x48) hi50.1) (Flat.cell (x48 : UInt8)) (ZD (v:=s29.1) (x:=x48) hi50.1) fun w a hM hE=>Zk (Yj (ZG (wp_region_lit (Zm hE Za ld rfl rfl rfl fun a hE=>Zc hE Za ld rfl fun a hE=>Zk (Zn ?_)))))
       have hM:=hM.pull (pre:=[_])
       exact ⟨_,(ois hs30),hE.sub ⟨rfl,rfl,rfl,rfl,rfl,rfl,rfl,trivial⟩,hM⟩
      ·intro hb33
       have hs30:=ZA hs30 hb33
       refine wp_exit (Zs (Zs (Yz ?_)))
       have ht53:=hx31 _ (ois hs30)
       subst ht53
       refine Zn ?_
       exact ⟨hE.sub ⟨rfl,rfl,rfl,rfl,rfl,trivial⟩,hM⟩
     ·skip
      rintro a w ⟨hE,hM⟩
      refine ZG ?_
      obtain ⟨j54,hl55,hF56⟩:=bind_some hF28
      refine ZT (fun a w=>Env 59 a [(0,v0_1),(1,v1_1),(5,(ptr b1 0)),(6,(ptr b3 0)),(7,vI s18.2)] ∧ M (Old w0) w0 w [raw b3 (enc (Vector.replicate 16 (0 : UInt8))),raw b1 (enc j54)]) ?_ ?_
      ·skip
       obtain ⟨pb58,ds59,hv60,hx61,hA62,hB63⟩:=Vt hv0_1 -- ^
       obtain ⟨u64,u66,rfl,h65,h67⟩:=VE hx61 -- ^
       obtain ⟨r68,e69,hl55⟩:=bind_some hl55
       refine Yw (n:=59) (hd:=[_,_,_,_,_,_]) (tl:=[_]) YS rfl rfl [35,36,37,38,39,40] (by decide) (fun w=>M (Old w0) w0 w [raw b3 (enc (Vector.replicate 16 (0 : UInt8))),raw b1 (enc j26)]) (fun j=>([fun v _=>v = v0_1,fun v _=>v = (ptr pb58 0),fun v _=>v = (ptr pb58 (0 + 512)),fun v _=>v = (Value.agg (enc p0.v.places).toArray),fun v _=>v = (Value.agg (enc j26).toArray),fun v _=>v = (Value.agg (enc r68).toArray)] : List (Value → World → Prop)).getD j (fun _ _=>True)) (fun _ _ h hk=>h.keep hk) (gup (Zp (Zp (Zp (Zp (Zp (Zp Vq))))))) hE hM.drew (ZS (Zb ?_ (Zb ?_ (Zb ?_ (Zb ?_ (Zb ?_ (Zb ?_ ZL))))))) ?_
       ·exact fun a w ux57 hE hM hp=>Zc hE Za ld rfl fun a hE=>⟨Kept.refl _ _,_,_,rfl,hE,rfl⟩
       ·intro a w ux57 hE hM hp
        have f0 : ux57 0 = v0_1:=hp 0 _ rfl rfl
        exact Z9 hE Za ld (lk (lk rfl f0) hv60) fun a hE=>⟨Kept.refl _ _,_,_,rfl,hE,rfl⟩
       ·intro a w ux57 hE hM hp
        have f1 : ux57 1 = (ptr pb58 0):=hp 0 _ rfl rfl
        exact Zr hE Za ld (lk rfl f1) (kc) fun a hE=>⟨Kept.refl _ _,_,_,rfl,hE,rfl⟩
       ·intro a w ux57 hE hM hp
        have f2 : ux57 2 = (ptr pb58 (0 + 512)):=hp 0 _ rfl rfl
        exact Zj (cs:=enc p0.v.places) hE Za ld (lk rfl f2) UY rfl (At.cat (pre:=[enc p0.v.box,enc p0.v.backBox]) (hM.atk hA62 hB63) (cl1 (n:=256) (m:=256) (Flat.len _) (cl1 (n:=256) (m:=0) (Flat.len _) cl0))) (Flat.len _) fun a hE=>⟨Kept.refl _ _,_,_,rfl,hE,rfl⟩
       ·exact fun a w ux57 hE hM hp=>Zj (cs:=enc j26) hE Za ld rfl Zw rfl (hM.rawAt (pre:=[_])) (Flat.len _) fun a hE=>⟨Kept.refl _ _,_,_,rfl,hE,rfl⟩
       ·intro a w ux57 hE hM hp
        have f3 : ux57 3 = (Value.agg (enc p0.v.places).toArray):=hp 0 _ rfl rfl
        have f4 : ux57 4 = (Value.agg (enc j26).toArray):=hp 1 _ rfl rfl
        refine Zo hE Za ld (Z1 (ZX (lk rfl f3) (ZX (lk rfl f4) Xg))) cb160 (T3 _ p0.v.places j26 r68 e69) ?_
        rintro v w a ⟨rfl,hK⟩ hE
        exact ⟨hK,_,_,rfl,hE,rfl⟩
       ·intro a w ux57 hE hM hg
        have hE:=hE.sub (e':=[(40,(Value.agg (enc r68).toArray)),(0,v0_1),(1,v1_1),(5,(ptr b1 0)),(6,(ptr b3 0)),(7,vI s18.2)]) ⟨lk rfl (hg 5 (by decide)),rfl,rfl,rfl,rfl,rfl,trivial⟩
        have hM:=hM.pull (pre:=[_])
        refine Zi (seg:=enc r68) (cs':=enc r68) hE hM Za rfl rfl rfl Zw (Flat.len _) (zle flq) (Flat.cell _) (Zg flq) fun w a hM hE=>Zk ?_
        have ht70:=Option.some.inj hl55
        subst ht70
        refine Zn ?_
        have hM:=hM.pull (pre:=[_])
        exact ⟨hE.sub ⟨rfl,rfl,rfl,rfl,rfl,trivial⟩,hM⟩
      ·skip
       rintro a w ⟨hE,hM⟩
       obtain ⟨j71,hl72,hF73⟩:=bind_some hF56
       refine ZT (fun a w=>Env 59 a [(0,v0_1),(1,v1_1),(5,(ptr b1 0)),(6,(ptr b3 0)),(7,vI s18.2)] ∧ M (Old w0) w0 w [raw b3 (enc (Vector.replicate 16 (0 : UInt8))),raw b1 (enc j71)]) ?_ ?_
       ·skip
        refine Zd (Zc hE Za ld rfl fun a hE=>Zc hE Za ld rfl fun a hE=>UU hE Za ld rfl Try.underlying136 (hM.rd hv1_1) fun a hE=>Zm hE Za ld rfl rfl rfl fun a hE=>Zm hE Za ld rfl rfl rfl fun a hE=>Zf ?_)
        refine Zv hE rfl ?_ ?_
        ·intro hb74
         have hl72:=ZB hl72 hb74
         obtain ⟨pb76,ds77,hv78,hx79,hA80,hB81⟩:=Vt hv0_1 -- ^
         obtain ⟨u82,u84,rfl,h83,h85⟩:=VE hx79 -- ^
         obtain ⟨l86,e87,hl72⟩:=bind_some hl72
         have hb88:=Hy e87 -- ^
         refine Yw (n:=59) (hd:=[_,_,_,_,_]) (tl:=[_]) YS rfl rfl [46,47,48,49,50] (by decide) (fun w=>M (Old w0) w0 w [raw b3 (enc (Vector.replicate 16 (0 : UInt8))),raw b1 (enc j54)]) (fun j=>([fun v _=>v = v0_1,fun v _=>v = (ptr pb76 0),fun v _=>v = (ptr pb76 (0 + 544)),fun v _=>v = u82,fun v _=>v = (VG (.slice (some ⟨b1,0,none⟩) 16 16) ((0 : Int)).toNat ((16 : Int)).toNat 1)] : List (Value → World → Prop)).getD j (fun _ _=>True)) (fun _ _ h hk=>h.keep hk) (gup (Zp (Zp (Zp (Zp (Zp Vq)))))) hE hM.drew (ZS (Zb ?_ (Zb ?_ (Zb ?_ (Zb ?_ (Zb ?_ ZL)))))) ?_
         ·exact fun a w ux75 hE hM hp=>Zc hE Za ld rfl fun a hE=>⟨Kept.refl _ _,_,_,rfl,hE,rfl⟩
         ·intro a w ux75 hE hM hp
          have f0 : ux75 0 = v0_1:=hp 0 _ rfl rfl
          exact Z9 hE Za ld (lk (lk rfl f0) hv78) fun a hE=>⟨Kept.refl _ _,_,_,rfl,hE,rfl⟩
         ·intro a w ux75 hE hM hp
          have f1 : ux75 1 = (ptr pb76 0):=hp 0 _ rfl rfl
          exact Zr hE Za ld (lk rfl f1) (jP) fun a hE=>⟨Kept.refl _ _,_,_,rfl,hE,rfl⟩
         ·intro a w ux75 hE hM hp
          have f2 : ux75 2 = (ptr pb76 (0 + 544)):=hp 0 _ rfl rfl
          exact ZF (v:=u82) hE Za ld (lk rfl f2) ya rfl (At.cat (pre:=[enc p0.v.box,enc p0.v.backBox,enc p0.v.places,enc p0.v.backPlaces]) (hM.atk hA80 hB81) (cl1 (n:=256) (m:=288) (Flat.len _) (cl1 (n:=256) (m:=32) (Flat.len _) (cl1 (n:=16) (m:=16) (Flat.len _) (cl1 (n:=16) (m:=0) (Flat.len _) cl0))))) fun a hE=>⟨Kept.refl _ _,_,_,rfl,hE,rfl⟩
         ·exact fun a w ux75 hE hM hp=>QL (N:=16) hE Za ld rfl rfl rfl rfl rfl Try.underlying62 ty5 hb88 fun a hE=>⟨Kept.refl _ _,_,_,rfl,hE,rfl⟩
         ·intro a w ux75 hE hM hg
          have hE:=hE.sub (e':=[(49,u82),(50,(VG (.slice (some ⟨b1,0,none⟩) 16 16) ((0 : Int)).toNat ((16 : Int)).toNat 1)),(0,v0_1),(1,v1_1),(5,(ptr b1 0)),(6,(ptr b3 0)),(7,vI s18.2),(41,vI s18.2),(42,v1_1),(43,(vI (p1.length : Int))),(44,(vI (wr ((p1.length : Int) - 1)))),(45,(vT (decide (s18.2 < (wr ((p1.length : Int) - 1))))))]) ⟨lk rfl (hg 3 (by decide)),lk rfl (hg 4 (by decide)),rfl,rfl,rfl,rfl,rfl,rfl,rfl,rfl,rfl,rfl,trivial⟩
          have hM:=hM.pull (pre:=[_])
          obtain ⟨r89,e90,hl72⟩:=bind_some hl72
          refine Zo hE Za ld rfl cb159 (Qw _ _ _ _ p0.v.mixer u82 h83 b1 j54 hM r89 e90) ?_
          rintro v w a ⟨rfl,hM⟩ hE
          refine Zk ?_
          have ht91:=Option.some.inj hl72
          subst ht91
          refine Zn ?_
          have hM:=hM.pull (pre:=[_])
          exact ⟨hE.sub ⟨rfl,rfl,rfl,rfl,rfl,trivial⟩,hM⟩
        ·intro hb74
         have hl72:=ZA hl72 hb74
         refine wp_skip ?_
         have ht92:=Option.some.inj hl72
         subst ht92
         refine Zn ?_
         exact ⟨hE.sub ⟨rfl,rfl,rfl,rfl,rfl,trivial⟩,hM⟩
       ·skip
        rintro a w ⟨hE,hM⟩
        obtain ⟨x94,hi96,hF73⟩:=bix hF73
        obtain ⟨r97,e98,hF73⟩:=bind_some hF73
        refine Yw (n:=59) (hd:=[_,_,_,_,_,_]) (tl:=[_]) YS rfl rfl [52,53,54,55,56,57] (by decide) (fun w=>M (Old w0) w0 w [raw b3 (enc (Vector.replicate 16 (0 : UInt8))),raw b1 (enc j71)]) (fun j=>([fun v _=>v = (Value.agg (enc j71).toArray),fun v _=>v = v1_1,fun v _=>v = (vI s18.2),fun v _=>v = (ptr (sb v1_1) (so v1_1 + (s18.2).toNat * 16)),fun v _=>v = (Value.agg (enc x94).toArray),fun v _=>v = (Value.agg (enc r97).toArray)] : List (Value → World → Prop)).getD j (fun _ _=>True)) (fun _ _ h hk=>h.keep hk) (gup (Zp (Zp (Zp (Zp (Zp (Zp Vq))))))) hE hM.drew (ZS (Zb ?_ (Zb ?_ (Zb ?_ (Zb ?_ (Zb ?_ (Zb ?_ ZL))))))) ?_
        ·exact fun a w ux93 hE hM hp=>Zj (cs:=enc j71) hE Za ld rfl Zw rfl (hM.rawAt (pre:=[_])) (Flat.len _) fun a hE=>⟨Kept.refl _ _,_,_,rfl,hE,rfl⟩
        ·exact fun a w ux93 hE hM hp=>Zc hE Za ld rfl fun a hE=>⟨Kept.refl _ _,_,_,rfl,hE,rfl⟩
        ·exact fun a w ux93 hE hM hp=>Zc hE Za ld rfl fun a hE=>⟨Kept.refl _ _,_,_,rfl,hE,rfl⟩
        ·intro a w ux93 hE hM hp
         have f1 : ux93 1 = v1_1:=hp 0 _ rfl rfl
         have f2 : ux93 2 = (vI s18.2):=hp 1 _ rfl rfl
         exact Yv hE Za ld (lk rfl f1) (lk rfl f2) Try.underlying136 Zw (hM.rd hv1_1) hi96.1 fun a hE=>⟨Kept.refl _ _,_,_,rfl,hE,rfl⟩
        ·intro a w ux93 hE hM hp
         have f3 : ux93 3 = (ptr (sb v1_1) (so v1_1 + (s18.2).toNat * 16)):=hp 0 _ rfl rfl
         exact Zj (cs:=enc x94) hE Za ld (lk rfl f3) Zw rfl (X9 (hM.rd hv1_1) hi96.2) (Flat.len _) fun a hE=>⟨Kept.refl _ _,_,_,rfl,hE,rfl⟩
        ·intro a w ux93 hE hM hp
         have f0 : ux93 0 = (Value.agg (enc j71).toArray):=hp 0 _ rfl rfl
         have f4 : ux93 4 = (Value.agg (enc x94).toArray):=hp 1 _ rfl rfl
         refine Zo hE Za ld (Z1 (ZX (lk rfl f0) (ZX (lk rfl f4) Xg))) z4 (Uv _ j71 x94 r97 e98) ?_
         rintro v w a ⟨rfl,hK⟩ hE
         exact ⟨hK,_,_,rfl,hE,rfl⟩
        ·intro a w ux93 hE hM hg
         have hE:=hE.sub (e':=[(57,(Value.agg (enc r97).toArray)),(0,v0_1),(1,v1_1),(5,(ptr b1 0)),(6,(ptr b3 0)),(7,vI s18.2)]) ⟨lk rfl (hg 5 (by decide)),rfl,rfl,rfl,rfl,rfl,trivial⟩
         have hM:=hM.pull (pre:=[_])
         refine Zi (seg:=enc r97) (cs':=enc r97) hE hM Za rfl rfl rfl Zw (Flat.len _) (zle flq) (Flat.cell _) (Zg flq) fun w a hM hE=>Zk (Yj ?_)
         have ht99:=Option.some.inj hF73
         subst ht99
         refine Zn ?_
         have hM:=hM.pull (pre:=[_])
         exact ⟨hE.sub ⟨rfl,rfl,rfl,rfl,rfl,trivial⟩,hM⟩
    ·skip
     rintro a w ⟨hE,hM⟩
     refine wp_region_lit (Zc hE Za ld rfl fun a hE=>Zm hE Za ld rfl rfl rfl fun a hE=>Ze hE Za ld rfl fun a hE=>Zk (Zn ?_))
     exact ⟨_,(ois hF25),hE.sub ⟨rfl,rfl,rfl,rfl,rfl,trivial⟩,hM⟩
   ·intro hb22
    have hs19:=ZA hs19 hb22
    refine wp_exit (Zs (Zs (Yz ?_)))
    have ht100:=hx20 _ (ois hs19)
    subst ht100
    refine Zn ?_
    exact ⟨hE.sub ⟨rfl,rfl,trivial⟩,hM⟩
  ·skip
   rintro a w ⟨hE,hM⟩
   refine ZG (Zd (Zj (cs:=enc j15) hE Za ld rfl Zw rfl (hM.rawAt (pre:=[_])) (Flat.len _) fun a hE=>Zi (seg:=enc j15) (cs':=enc j15) hE hM Za rfl rfl rfl Zw (Flat.len _) (zle flq) (Flat.cell _) (Zg flq) fun w a hM hE=>Zf ?_))
   have hr:=Option.some.inj hF17
   subst hr
   have hq101 : ZY Try.prog _ _ (.cell 6 62) _:=ZM hE rfl Zw rfl (hM.rawAt (pre:=[])) (Flat.len _) rfl
   have hM:=M.fst (l:=[]) hM
   exact wp_ret (ZK hE rfl hq101 ⟨_,rfl,rfl,hM.kept⟩)
def Yi (p0 : (Ref Gengine)) (p1 : (Vector UInt8 16)) (p2 : (Vector UInt8 16)) : Option ((Vector UInt8 16)) :=
 ((Y6 p0 p1 p0.v.rounds).bind fun r21=>(Yx p0 r21 p2).bind fun r24=>some r24 : Option ((Vector UInt8 16))).bind fun j7=>some j7
theorem VI (w0 : World) (p0 : (Ref Gengine)) (v0_1 : Value) (hv0_1 : Ro w0 p0 [v0_1]) (p1 : (Vector UInt8 16)) (p2 : (Vector UInt8 16)) (r : (Vector UInt8 16)) (hF : Yi p0 p1 p2 = some r) :
  Calls Try.prog 88 [v0_1,(Value.agg (enc p1).toArray),(Value.agg (enc p2).toArray)].toArray w0 (fun en w'=>∃ v,en = .returned v ∧ (v = (Value.agg (enc r).toArray) ∧ Kept (Old w0) w0 w')):=by
 refine ZJ (n:=17) Try.func88 rfl rfl (nbl rfl) rfl ?_
 intro a hE
 have hM:=M.start w0
 unfold Yi at hF
 refine Zd (Z3 (cs:=enc p1) hE hM Za ld rfl rfl fun b1 w a hM hE=>Z3 (cs:=enc p2) hE hM Za ld rfl rfl fun b3 w a hM hE=>Zu hE hM Za ld Zw fun b5 w a hM hE=>Zf ?_)
 obtain ⟨j7,hl8,hF9⟩:=bind_some hF
 refine ZT (fun a w=>Env 17 a [(6,(ptr b5 0))] ∧ M (Old w0) w0 w [raw b5 (enc j7)]) ?_ ?_
 ·skip
  obtain ⟨pb11,ds12,hv13,hx14,hA15,hB16⟩:=Vt hv0_1 -- ^
  obtain ⟨u17,u19,rfl,h18,h20⟩:=VE hx14 -- ^
  obtain ⟨r21,e22,hl8⟩:=bind_some hl8
  refine zY (n:=17) (hd:=[_,_,_,_,_,_,_,_,_]) (tl:=[_,_]) (its:=[raw b5 (enc (Vector.replicate 16 (0 : UInt8))),raw b3 (enc p2),raw b1 (enc p1)]) YS rfl rfl [7,8,9,10,11,12,13,14,15] (by decide) [(7,fun v=>osl NoB (r21 : List (Vector UInt8 16)) v)] rfl (fun j=>([fun v=>v = v0_1,fun v=>v = v0_1,fun v=>v = (Value.agg (enc p1).toArray),fun v=>v = v0_1,fun v=>v = (ptr pb11 0),fun v=>v = (ptr pb11 (0 + 546)),fun v=>v = (vI p0.v.rounds),fun v=>True,fun v=>v = (Value.agg (enc p2).toArray)] : List (Value → Prop)).getD j (fun _=>True)) hE hM.drew (ZS (Zb ?_ (Zb ?_ (Zb ?_ (Zb ?_ (Zb ?_ (Zb ?_ (Zb ?_ (Zb ?_ (Zb ?_ ZL)))))))))) ?_
  ·intro a w ux10 D hE hM hD hp
   have hM0:=hM
   exact Zc hE Za ld rfl fun a hE=>⟨_,_,rfl,hE,rfl,hM0.optKeep rfl⟩
  ·intro a w ux10 D hE hM hD hp
   have hM0:=hM
   exact Zc hE Za ld rfl fun a hE=>⟨_,_,rfl,hE,rfl,hM0.optKeep rfl⟩
  ·intro a w ux10 D hE hM hD hp
   have hM0:=hM
   have hM : M (Old w0) w0 w [raw b5 (enc (Vector.replicate 16 (0 : UInt8))),raw b3 (enc p2),raw b1 (enc p1),opt (D 7) (osl NoB (r21 : List (Vector UInt8 16)) (ux10 7))]:=hM
   exact Zj (cs:=enc p1) hE Za ld rfl Zw rfl (hM.rawAt (pre:=[_,_])) (Flat.len _) fun a hE=>⟨_,_,rfl,hE,rfl,hM0.optKeep rfl⟩
  ·intro a w ux10 D hE hM hD hp
   have hM0:=hM
   exact Zc hE Za ld rfl fun a hE=>⟨_,_,rfl,hE,rfl,hM0.optKeep rfl⟩
  ·intro a w ux10 D hE hM hD hp
   have f3 : ux10 3 = v0_1:=(hp 0 _ rfl rfl).2
   have hM0:=hM
   exact Z9 hE Za ld (lk (lk rfl f3) hv13) fun a hE=>⟨_,_,rfl,hE,rfl,hM0.optKeep rfl⟩
  ·intro a w ux10 D hE hM hD hp
   have f4 : ux10 4 = (ptr pb11 0):=(hp 0 _ rfl rfl).2
   have hM0:=hM
   exact Zr hE Za ld (lk rfl f4) (jX) fun a hE=>⟨_,_,rfl,hE,rfl,hM0.optKeep rfl⟩
  ·intro a w ux10 D hE hM hD hp
   have f5 : ux10 5 = (ptr pb11 (0 + 546)):=(hp 0 _ rfl rfl).2
   have hM0:=hM
   have hM : M (Old w0) w0 w [raw b5 (enc (Vector.replicate 16 (0 : UInt8))),raw b3 (enc p2),raw b1 (enc p1),opt (D 7) (osl NoB (r21 : List (Vector UInt8 16)) (ux10 7))]:=hM
   exact ZF (v:=(vI p0.v.rounds)) hE Za ld (lk rfl f5) ty2 rfl (At.cat (pre:=[enc p0.v.box,enc p0.v.backBox,enc p0.v.places,enc p0.v.backPlaces,[u17],[u19]]) (hM.atk hA15 hB16) (cl1 (n:=256) (m:=290) (Flat.len _) (cl1 (n:=256) (m:=34) (Flat.len _) (cl1 (n:=16) (m:=18) (Flat.len _) (cl1 (n:=16) (m:=2) (Flat.len _) (cl1 (n:=1) (m:=1) rfl (cl1 (n:=1) (m:=0) rfl cl0))))))) fun a hE=>⟨_,_,rfl,hE,rfl,hM0.optKeep rfl⟩
  ·intro a w ux10 D hE hM hD hp
   have f1 : ux10 1 = v0_1:=(hp 0 _ rfl rfl).2
   have f2 : ux10 2 = (Value.agg (enc p1).toArray):=(hp 1 _ rfl rfl).2
   have f6 : ux10 6 = (vI p0.v.rounds):=(hp 2 _ rfl rfl).2
   have hM0:=hM
   have hM : M (Old w0) w0 w [raw b5 (enc (Vector.replicate 16 (0 : UInt8))),raw b3 (enc p2),raw b1 (enc p1),opt (D 7) (osl NoB (r21 : List (Vector UInt8 16)) (ux10 7))]:=hM
   refine Zo hE Za ld (Z1 (ZX (lk rfl f1) (ZX (lk rfl f2) (ZX (lk rfl f6) Xg)))) cb94 (UO _ p0 v0_1 (hM.rdo hv0_1) p1 p0.v.rounds r21 e22) ?_
   rintro _ w a ⟨_,rfl,hFr,hK⟩ hE
   have hM:=hM0.add hK hFr
   exact ⟨_,_,rfl,hE,trivial,M.optFill (mk1:=[]) (mk2:=[]) (f:=(fun v=>osl NoB (r21 : List (Vector UInt8 16)) v)) hM rfl hD⟩
  ·intro a w ux10 D hE hM hD hp
   have hM0:=hM
   have hM : M (Old w0) w0 w [raw b5 (enc (Vector.replicate 16 (0 : UInt8))),raw b3 (enc p2),raw b1 (enc p1),opt (D 7) (osl NoB (r21 : List (Vector UInt8 16)) (ux10 7))]:=hM
   exact Zj (cs:=enc p2) hE Za ld rfl Zw rfl (hM.rawAt (pre:=[_])) (Flat.len _) fun a hE=>⟨_,_,rfl,hE,rfl,hM0.optKeep rfl⟩
  ·intro a w ux10 hE hM hg
   have hM : M (Old w0) w0 w [raw b5 (enc (Vector.replicate 16 (0 : UInt8))),raw b3 (enc p2),raw b1 (enc p1),osl NoB (r21 : List (Vector UInt8 16)) (ux10 7)]:=hM
   have hE:=hE.sub (e':=[(7,v0_1),(14,(ux10 7)),(15,(Value.agg (enc p2).toArray)),(6,(ptr b5 0))]) ⟨lk rfl (hg 0 (by decide)),rfl,lk rfl (hg 8 (by decide)),rfl,trivial⟩
   obtain ⟨r24,e25,hl8⟩:=bind_some hl8
   refine Zo hE Za ld rfl cb149 (Ua _ p0 v0_1 (hM.rdo hv0_1) r21 (ux10 7) (hM.sl (pre:=[_,_,_]) noB) p2 r24 e25) ?_
   rintro v w a ⟨rfl,hK⟩ hE
   have hM:=hM.keep hK
   refine Zi (seg:=enc r24) (cs':=enc r24) hE hM Za rfl rfl rfl Zw (Flat.len _) (zle flq) (Flat.cell _) (Zg flq) fun w a hM hE=>Zk ?_
   have ht26:=Option.some.inj hl8
   subst ht26
   refine Zn ?_
   have hM:=M.fst (l:=[_]) hM
   exact ⟨hE.sub ⟨rfl,trivial⟩,hM⟩
 ·skip
  rintro a w ⟨hE,hM⟩
  have hr:=Option.some.inj hF9
  subst hr
  have hq27 : ZY Try.prog _ _ (.cell 6 62) _:=ZM hE rfl Zw rfl (hM.rawAt (pre:=[])) (Flat.len _) rfl
  have hM:=M.fst (l:=[]) hM
  exact wp_ret (ZK hE rfl hq27 ⟨_,rfl,rfl,hM.kept⟩)
def Y9 (p0 : GCipher) (p1 : Int) (p2 : Int) (p3 : (Vector UInt8 16)) : Option ((Vector UInt8 16) × Int) :=
 (Wm p0).bind fun r7=>if (!r7) = true then (some ((Vector.replicate 16 (0 : UInt8)),1)) else (((Xn p1 0 255).bind fun r14=>if (!r14) = true then (some true) else ((Xn p2 0 255).bind fun r18=>some (!r18)) : Option (Bool)).bind fun j11=>if j11 = true then (some ((Vector.replicate 16 (0 : UInt8)),2)) else ((XR p0).bind fun r23=>((Y2 p2).bind fun r30=>(Y2 p1).bind fun r32=>(Yi r23 r32 p3).bind fun r34=>(Yi r23 r30 r34).bind fun r36=>some (r36,0) : Option ((Vector UInt8 16) × Int)).bind fun j26=>some (j26.1,j26.2)))
theorem TB (w0 : World) (p0 : GCipher) (p1 : Int) (p2 : Int) (p3 : (Vector UInt8 16)) (r : (Vector UInt8 16) × Int) (hF : Y9 p0 p1 p2 p3 = some r) :
  Calls Try.prog 28 [(Value.agg (enc p0).toArray),vI p1,vI p2,(Value.agg (enc p3).toArray)].toArray w0 (fun en w'=>∃ v,en = .returned v ∧ (v = (Value.tuple [(Value.agg (enc r.1).toArray),vI r.2].toArray) ∧ Kept (Old w0) w0 w')):=by
 refine ZJ (n:=37) Try.func28 rfl rfl (nbl rfl) rfl ?_
 intro a hE
 have hM:=M.start w0
 unfold Y9 at hF
 refine Zd (Z3 (cs:=cat [[vI p0.Field],enc p0.Box,enc p0.Mix,enc p0.Places,[vI p0.Rounds]]) hE hM Za ld rfl rfl fun b1 w a hM hE=>Z3 (cs:=enc p3) hE hM Za ld rfl rfl fun b3 w a hM hE=>Zu hE hM Za ld Zw fun b5 w a hM hE=>Ze hE Za ld rfl fun a hE=>Zf (wp_seq (wp_block (Zd (Zj (cs:=enc p0) hE Za ld rfl Z8 rfl (hM.rawAt (pre:=[_,_])) (Zl (cl1 (n:=1) (m:=289) rfl (cl1 (n:=256) (m:=33) (Flat.len _) (cl1 (n:=16) (m:=17) (Flat.len _) (cl1 (n:=16) (m:=1) (Flat.len _) (cl1 (n:=1) (m:=0) rfl cl0)))))) ?_))))); intro a hE
 obtain ⟨r7,e8,hF⟩:=bind_some hF
 refine Zo hE Za ld rfl cb86 (TC _ p0 r7 e8) ?_
 rintro v w a ⟨rfl,hK⟩ hE
 have hM:=hM.keep hK
 refine UT hE Za ld rfl fun a hE=>Ze hE Za ld rfl fun a hE=>Zf ?_
 refine Zv hE rfl ?_ ?_
 ·intro hb9
  have hF:=ZB hF hb9
  refine Zd (Z7 (parts:=[]) (vs:=[]) (cs:=enc (Vector.replicate 16 (0 : UInt8))) hE Za ld rfl rfl Zw rfl ty5 ZZ fun a hE=>Zi (seg:=enc (Vector.replicate 16 (0 : UInt8))) (cs':=enc (Vector.replicate 16 (0 : UInt8))) hE hM Za rfl rfl rfl Zw (Flat.len _) (zle flq) (Flat.cell _) (Zg flq) fun w a hM hE=>Ze hE Za ld rfl fun a hE=>Zf ?_)
  have hr:=Option.some.inj hF
  subst hr
  have hq10 : ZY Try.prog _ _ (.cell 8 62) _:=ZM hE rfl Zw rfl (hM.rawAt (pre:=[])) (Flat.len _) rfl
  have hM:=M.fst (l:=[]) hM
  exact wp_ret (Y4 (ZP (VH hE rfl hq10 (Zx hE rfl) ⟨_,rfl,rfl,hM.kept⟩)))
 ·intro hb9
  have hF:=ZA hF hb9
  obtain ⟨j11,hl12,hF13⟩:=bind_some hF
  refine ZT (fun a w=>Env 37 a [(1,vI p1),(2,vI p2),(4,(ptr b1 0)),(7,(ptr b3 0)),(8,(ptr b5 0)),(16,vT j11)] ∧ M (Old w0) w0 w [raw b5 (enc (Vector.replicate 16 (0 : UInt8))),raw b3 (enc p3),raw b1 (cat [[vI p0.Field],enc p0.Box,enc p0.Mix,enc p0.Places,[vI p0.Rounds]])]) ?_ ?_
  ·skip
   refine wp_region_lit (Zc hE Za ld rfl ?_); intro a hE
   obtain ⟨r14,e15,hl12⟩:=bind_some hl12
   refine Zo hE Za ld rfl cb56 (Uj _ p1 0 255 r14 e15) ?_
   rintro v w a ⟨rfl,hK⟩ hE
   have hM:=hM.keep hK
   refine UT hE Za ld rfl fun a hE=>Zc hE Za ld rfl ?_; intro a hE
   refine Xy (!r14) (fun hb16=>?_) (fun hb16=>?_)
   ·have hl12:=ZB hl12 hb16
    refine Zz hE rfl (lkb rfl hb16) rfl (by decide) fun a hE=>Zz hE rfl (lkb rfl hb16) rfl (by decide) fun a hE=>Zz hE rfl (lkb rfl hb16) rfl (by decide) fun a hE=>Yy hE Za ld (lkb rfl hb16) rfl fun a hE=>Ze hE Za ld rfl fun a hE=>Zk ?_
    have ht17:=Option.some.inj hl12
    subst ht17
    refine Zn ?_
    exact ⟨hE.sub ⟨rfl,rfl,rfl,rfl,rfl,rfl,trivial⟩,hM⟩
   ·have hl12:=ZA hl12 hb16
    refine Zc hE (Zt hE rfl (lkb rfl hb16)) (by decide) rfl ?_; intro a hE
    obtain ⟨r18,e19,hl12⟩:=bind_some hl12
    refine Zo hE (Zt hE rfl (lkb rfl hb16)) (by decide) rfl cb56 (Uj _ p2 0 255 r18 e19) ?_
    rintro v w a ⟨rfl,hK⟩ hE
    have hM:=hM.keep hK
    refine UT hE (Zt hE rfl (lkb rfl hb16)) (by decide) rfl fun a hE=>Yh hE Za ld (lkb rfl hb16) rfl fun a hE=>Ze hE Za ld rfl fun a hE=>Zk ?_
    have ht20:=Option.some.inj hl12
    subst ht20
    refine Zn ?_
    exact ⟨hE.sub ⟨rfl,rfl,rfl,rfl,rfl,rfl,trivial⟩,hM⟩
  ·skip
   rintro a w ⟨hE,hM⟩
   refine Zv hE rfl ?_ ?_
   ·intro hb21
    have hF13:=ZB hF13 hb21
    refine Zd (Z7 (parts:=[]) (vs:=[]) (cs:=enc (Vector.replicate 16 (0 : UInt8))) hE Za ld rfl rfl Zw rfl ty5 ZZ fun a hE=>Zi (seg:=enc (Vector.replicate 16 (0 : UInt8))) (cs':=enc (Vector.replicate 16 (0 : UInt8))) hE hM Za rfl rfl rfl Zw (Flat.len _) (zle flq) (Flat.cell _) (Zg flq) fun w a hM hE=>Ze hE Za ld rfl fun a hE=>Zf ?_)
    have hr:=Option.some.inj hF13
    subst hr
    have hq22 : ZY Try.prog _ _ (.cell 8 62) _:=ZM hE rfl Zw rfl (hM.rawAt (pre:=[])) (Flat.len _) rfl
    have hM:=M.fst (l:=[]) hM
    exact wp_ret (Y4 (ZP (VH hE rfl hq22 (Zx hE rfl) ⟨_,rfl,rfl,hM.kept⟩)))
   ·intro hb21
    have hF13:=ZA hF13 hb21
    refine wp_skip (Yj (ZG (Zd (Zj (cs:=enc p0) hE Za ld rfl Z8 rfl (hM.rawAt (pre:=[_,_])) (Zl (cl1 (n:=1) (m:=289) rfl (cl1 (n:=256) (m:=33) (Flat.len _) (cl1 (n:=16) (m:=17) (Flat.len _) (cl1 (n:=16) (m:=1) (Flat.len _) (cl1 (n:=1) (m:=0) rfl cl0)))))) ?_)))); intro a hE
    obtain ⟨r23,e24,hF13⟩:=bind_some hF13
    refine Zo hE Za ld rfl cb87 (Ti _ p0 r23 e24) ?_
    rintro u25 w a ⟨_,rfl,hFr,hK⟩ hE
    have hM:=hM.add hK hFr
    refine Ze hE Za ld rfl fun a hE=>Zf ?_
    obtain ⟨j26,hl27,hF28⟩:=bind_some hF13
    refine ZT (fun a w=>Env 37 a [(8,(ptr b5 0)),(9,vI j26.2)] ∧ M (Old w0) w0 w [raw b5 (enc j26.1)]) ?_ ?_
    ·skip
     obtain ⟨r30,e31,hl27⟩:=bind_some hl27
     obtain ⟨r32,e33,hl27⟩:=bind_some hl27
     obtain ⟨r34,e35,hl27⟩:=bind_some hl27
     obtain ⟨r36,e37,hl27⟩:=bind_some hl27
     refine Yw (n:=37) (hd:=[_,_,_,_,_,_,_,_,_]) (tl:=[_,_]) YS rfl rfl [28,29,30,31,32,33,34,35,36] (by decide) (fun w=>M (Old w0) w0 w [own NoB (r23 : (Ref Gengine)) [u25],raw b5 (enc (Vector.replicate 16 (0 : UInt8))),raw b3 (enc p3),raw b1 (cat [[vI p0.Field],enc p0.Box,enc p0.Mix,enc p0.Places,[vI p0.Rounds]])]) (fun j=>([fun v _=>v = u25,fun v _=>v = (vI p2),fun v _=>v = (Value.agg (enc r30).toArray),fun v _=>v = u25,fun v _=>v = (vI p1),fun v _=>v = (Value.agg (enc r32).toArray),fun v _=>v = (Value.agg (enc p3).toArray),fun v _=>v = (Value.agg (enc r34).toArray),fun v _=>v = (Value.agg (enc r36).toArray)] : List (Value → World → Prop)).getD j (fun _ _=>True)) (fun _ _ h hk=>h.keep hk) (gup (Zp (Zp (Zp (Zp (Zp (Zp (Zp (Zp (Zp Vq)))))))))) hE hM.drew (ZS (Zb ?_ (Zb ?_ (Zb ?_ (Zb ?_ (Zb ?_ (Zb ?_ (Zb ?_ (Zb ?_ (Zb ?_ ZL)))))))))) ?_
     ·exact fun a w ux29 hE hM hp=>Zc hE Za ld rfl fun a hE=>⟨Kept.refl _ _,_,_,rfl,hE,rfl⟩
     ·exact fun a w ux29 hE hM hp=>Zc hE Za ld rfl fun a hE=>⟨Kept.refl _ _,_,_,rfl,hE,rfl⟩
     ·intro a w ux29 hE hM hp
      have f1 : ux29 1 = (vI p2):=hp 0 _ rfl rfl
      refine Zo hE Za ld (Z1 (ZX (lk rfl f1) Xg)) cb89 (UK _ p2 r30 e31) ?_
      rintro v w a ⟨rfl,hK⟩ hE
      exact ⟨hK,_,_,rfl,hE,rfl⟩
     ·exact fun a w ux29 hE hM hp=>Zc hE Za ld rfl fun a hE=>⟨Kept.refl _ _,_,_,rfl,hE,rfl⟩
     ·exact fun a w ux29 hE hM hp=>Zc hE Za ld rfl fun a hE=>⟨Kept.refl _ _,_,_,rfl,hE,rfl⟩
     ·intro a w ux29 hE hM hp
      have f4 : ux29 4 = (vI p1):=hp 0 _ rfl rfl
      refine Zo hE Za ld (Z1 (ZX (lk rfl f4) Xg)) cb89 (UK _ p1 r32 e33) ?_
      rintro v w a ⟨rfl,hK⟩ hE
      exact ⟨hK,_,_,rfl,hE,rfl⟩
     ·exact fun a w ux29 hE hM hp=>Zj (cs:=enc p3) hE Za ld rfl Zw rfl (hM.rawAt (pre:=[_,_])) (Flat.len _) fun a hE=>⟨Kept.refl _ _,_,_,rfl,hE,rfl⟩
     ·intro a w ux29 hE hM hp
      have f3 : ux29 3 = u25:=hp 0 _ rfl rfl
      have f5 : ux29 5 = (Value.agg (enc r32).toArray):=hp 1 _ rfl rfl
      have f6 : ux29 6 = (Value.agg (enc p3).toArray):=hp 2 _ rfl rfl
      refine Zo hE Za ld (Z1 (ZX (lk rfl f3) (ZX (lk rfl f5) (ZX (lk rfl f6) Xg)))) cb88 (VI _ r23 u25 (hM.ro (pre:=[]) noB) r32 p3 r34 e35) ?_
      rintro v w a ⟨rfl,hK⟩ hE
      exact ⟨hK,_,_,rfl,hE,rfl⟩
     ·intro a w ux29 hE hM hp
      have f0 : ux29 0 = u25:=hp 0 _ rfl rfl
      have f2 : ux29 2 = (Value.agg (enc r30).toArray):=hp 1 _ rfl rfl
      have f7 : ux29 7 = (Value.agg (enc r34).toArray):=hp 2 _ rfl rfl
      refine Zo hE Za ld (Z1 (ZX (lk rfl f0) (ZX (lk rfl f2) (ZX (lk rfl f7) Xg)))) cb88 (VI _ r23 u25 (hM.ro (pre:=[]) noB) r30 r34 r36 e37) ?_
      rintro v w a ⟨rfl,hK⟩ hE
      exact ⟨hK,_,_,rfl,hE,rfl⟩
     ·intro a w ux29 hE hM hg
      have hE:=hE.sub (e':=[(36,(Value.agg (enc r36).toArray)),(8,(ptr b5 0))]) ⟨lk rfl (hg 8 (by decide)),rfl,trivial⟩
      have hM:=hM.pull (pre:=[_])
      refine Zi (seg:=enc r36) (cs':=enc r36) hE hM Za rfl rfl rfl Zw (Flat.len _) (zle flq) (Flat.cell _) (Zg flq) fun w a hM hE=>Ze hE Za ld rfl fun a hE=>Zk ?_
      have ht38:=Option.some.inj hl27
      subst ht38
      refine Zn ?_
      have hM:=M.fst (l:=[_]) hM
      exact ⟨hE.sub ⟨rfl,rfl,trivial⟩,hM⟩
    ·skip
     rintro a w ⟨hE,hM⟩
     have hr:=Option.some.inj hF28
     subst hr
     have hq39 : ZY Try.prog _ _ (.cell 8 62) _:=ZM hE rfl Zw rfl (hM.rawAt (pre:=[])) (Flat.len _) rfl
     have hM:=M.fst (l:=[]) hM
     exact wp_ret (VH hE rfl hq39 (Zx hE rfl) ⟨_,rfl,rfl,hM.kept⟩)
def VX (p0 : (Vector UInt8 256)) (s9 : (Vector Bool 256) × Int) : Option (Fl ((Vector Bool 256) × Int) (Fl Unit Bool)) :=
 if (decide (s9.2 < 256)) = true then ((ZI p0 s9.2).bind fun x15=>(ZI s9.1 (bI x15)).bind fun x18=>if x18 = true then (some (Fl.ex (Fl.ex false))) else ((ZI p0 s9.2).bind fun x23=>(ZI s9.1 (bI x23)).bind fun x26=>some (Fl.nx ((s9.1.setIfInBounds ((bI x23)).toNat true),wr (s9.2 + 1))))) else (some (Fl.ex (Fl.nx ())))
def U9 (p0 : (Vector UInt8 256)) : Option (Bool) :=
 (ZQ (VX p0) ((Vector.replicate 256 false),0)).bind fun j5=>j5.el (fun s8=>some true) (fun r=>some r)
theorem Av (w0 : World) (p0 : (Vector UInt8 256)) (r : Bool) (hF : U9 p0 = some r) :
  Calls Try.prog 150 [(Value.agg (enc p0).toArray)].toArray w0 (fun en w'=>∃ v,en = .returned v ∧ (v = (vT r) ∧ Kept (Old w0) w0 w')):=by
 refine ZJ (n:=19) Try.func150 rfl rfl (nbl rfl) rfl ?_
 intro a hE
 have hM:=M.start w0
 unfold U9 at hF
 refine Zd (Z3 (cs:=enc p0) hE hM Za ld rfl rfl fun b1 w a hM hE=>Ze hE Za ld rfl fun a hE=>Zf (Zd (Z7 (parts:=[]) (vs:=[]) (cs:=enc (Vector.replicate 256 false)) hE Za ld rfl rfl BW rfl ty4 ZZ fun a hE=>Zu hE hM Za ld BW fun b3 w a hM hE=>Zi (seg:=enc (Vector.replicate 256 false)) (cs':=enc (Vector.replicate 256 false)) hE hM Za rfl rfl rfl BW (Flat.len _) (zle flq) (Flat.cell _) (Zg flq) fun w a hM hE=>Zf (wp_seq (Zd (Ze hE Za ld rfl fun a hE=>Zf ?_))))))
 obtain ⟨j5,hl6,hF7⟩:=bind_some hF
 refine Z0 (fun a w=>∃ s8 : Unit,j5 = Fl.nx s8 ∧ Env 19 a [] ∧ M (Old w0) w0 w []) ?_ ?_
 ·skip
  refine wp_block ?_
  refine ZV (fun (s9 : (Vector Bool 256) × Int) a w=>Env 19 a [(1,(ptr b1 0)),(3,(ptr b3 0)),(4,vI s9.2)] ∧ M (Old w0) w0 w [raw b3 (enc s9.1),raw b1 (enc p0)]) hl6 ⟨hE.sub ⟨rfl,rfl,rfl,trivial⟩,hM⟩ ?_
  rintro s9 a w ⟨hE,hM⟩ o12 hs10 hx11
  unfold VX at hs10
  refine wp_seq (Zd (Zc hE Za ld rfl fun a hE=>Zm hE Za ld rfl rfl rfl fun a hE=>Zf ?_))
  refine Zv hE rfl ?_ ?_
  ·intro hb13
   have hs10:=ZB hs10 hb13
   refine wp_skip (ZG (wp_seq (wp_block (wp_seq (Zd (Zc hE Za ld rfl ?_)))))); intro a hE
   obtain ⟨x15,hi14,hs10⟩:=bvx hs10
   refine Zh hE Za ld rfl rfl Try.underlying54 ty5 hi14.1 fun a hE=>ZF (v:=(vB x15)) hE Za ld rfl ty5 rfl (At.vec (hM.rawAt (pre:=[_])) hi14.2) ?_; intro a hE
   obtain ⟨x18,hi17,hs10⟩:=bvx hs10
   refine Zh hE Za ld rfl rfl Try.underlying225 ty4 hi17.1 fun a hE=>ZF (v:=(vT x18)) hE Za ld rfl ty4 rfl (At.vec (hM.rawAt (pre:=[])) hi17.2) fun a hE=>Zf ?_
   refine Zv hE rfl ?_ ?_
   ·intro hb20
    have hs10:=ZB hs10 hb20
    refine Zd (Ze hE Za ld rfl fun a hE=>Zf ?_)
    have ht21:=hx11 _ (ois hs10)
    subst ht21
    have hr:=Option.some.inj hF7
    subst hr
    have hM:=M.fst (l:=[]) hM
    exact wp_ret (ZP (Y4 (ZP (ZP (Y4 (ZP (ZP (ZK hE rfl (Zx hE rfl) ⟨_,rfl,rfl,hM.kept⟩))))))))
   ·intro hb20
    have hs10:=ZA hs10 hb20
    refine wp_skip (ZG (wp_region_lit (Zc hE Za ld rfl ?_))); intro a hE
    obtain ⟨x23,hi22,hs10⟩:=bvx hs10
    refine Zh hE Za ld rfl rfl Try.underlying54 ty5 hi22.1 fun a hE=>ZF (v:=(vB x23)) hE Za ld rfl ty5 rfl (At.vec (hM.rawAt (pre:=[_])) hi22.2) ?_; intro a hE
    obtain ⟨x26,hi25,hs10⟩:=bvx hs10
    refine Zh hE Za ld rfl rfl Try.underlying225 ty4 hi25.1 fun a hE=>Zi (seg:=[vT true]) (cs':=enc (s9.1.setIfInBounds ((bI x23)).toNat true)) hE hM Za rfl rfl rfl ty4 rfl (ZN (v:=s9.1) (x:=true) hi25.1) (Flat.cell (true : Bool)) (ZD (v:=s9.1) (x:=true) hi25.1) fun w a hM hE=>Zk (Yj (ZG (wp_region_lit (Zc hE Za ld rfl fun a hE=>Zm hE Za ld rfl rfl rfl fun a hE=>Ze hE Za ld rfl fun a hE=>Zk (Zn ?_)))))
    exact ⟨_,(ois hs10),hE.sub ⟨rfl,rfl,rfl,trivial⟩,hM⟩
  ·intro hb13
   have hs10:=ZA hs10 hb13
   refine wp_exit (Zs (Zs (Yz ?_)))
   have ht28:=hx11 _ (ois hs10)
   subst ht28
   refine Zn ?_
   have hM:=M.fst (l:=[]) hM
   exact ⟨(),rfl,hE.sub trivial,hM⟩
 ·skip
  rintro a w ⟨s8,ht,hE,hM⟩
  subst ht
  have hF7:=Qp hF7
  refine ZG (Zd (Ze hE Za ld rfl fun a hE=>Zf ?_))
  have hr:=Option.some.inj hF7
  subst hr
  exact wp_ret (ZK hE rfl (Zx hE rfl) ⟨_,rfl,rfl,hM.kept⟩)
def WX (p0 : (Vector UInt8 16)) (s9 : (Vector Bool 16) × Int) : Option (Fl ((Vector Bool 16) × Int) (Fl Unit Bool)) :=
 if (decide (s9.2 < 16)) = true then (((ZI p0 s9.2).bind fun x18=>if (decide (x18 ≥ 16)) = true then (some true) else ((ZI p0 s9.2).bind fun x23=>(ZI s9.1 (bI x23)).bind fun x26=>some x26) : Option (Bool)).bind fun j14=>if j14 = true then (some (Fl.ex (Fl.ex false))) else ((ZI p0 s9.2).bind fun x32=>(ZI s9.1 (bI x32)).bind fun x35=>some (Fl.nx ((s9.1.setIfInBounds ((bI x32)).toNat true),wr (s9.2 + 1))))) else (some (Fl.ex (Fl.nx ())))
def V8 (p0 : (Vector UInt8 16)) : Option (Bool) :=
 (ZQ (WX p0) ((Vector.replicate 16 false),0)).bind fun j5=>j5.el (fun s8=>some true) (fun r=>some r)
theorem Bl (w0 : World) (p0 : (Vector UInt8 16)) (r : Bool) (hF : V8 p0 = some r) :
  Calls Try.prog 151 [(Value.agg (enc p0).toArray)].toArray w0 (fun en w'=>∃ v,en = .returned v ∧ (v = (vT r) ∧ Kept (Old w0) w0 w')):=by
 refine ZJ (n:=25) Try.func151 rfl rfl (nbl rfl) rfl ?_
 intro a hE
 have hM:=M.start w0
 unfold V8 at hF
 refine Zd (Z3 (cs:=enc p0) hE hM Za ld rfl rfl fun b1 w a hM hE=>Ze hE Za ld rfl fun a hE=>Zf (Zd (Z7 (parts:=[]) (vs:=[]) (cs:=enc (Vector.replicate 16 false)) hE Za ld rfl rfl yV rfl ty4 ZZ fun a hE=>Zu hE hM Za ld yV fun b3 w a hM hE=>Zi (seg:=enc (Vector.replicate 16 false)) (cs':=enc (Vector.replicate 16 false)) hE hM Za rfl rfl rfl yV (Flat.len _) (zle flq) (Flat.cell _) (Zg flq) fun w a hM hE=>Zf (wp_seq (Zd (Ze hE Za ld rfl fun a hE=>Zf ?_))))))
 obtain ⟨j5,hl6,hF7⟩:=bind_some hF
 refine Z0 (fun a w=>∃ s8 : Unit,j5 = Fl.nx s8 ∧ Env 25 a [] ∧ M (Old w0) w0 w []) ?_ ?_
 ·skip
  refine wp_block ?_
  refine ZV (fun (s9 : (Vector Bool 16) × Int) a w=>Env 25 a [(1,(ptr b1 0)),(3,(ptr b3 0)),(4,vI s9.2)] ∧ M (Old w0) w0 w [raw b3 (enc s9.1),raw b1 (enc p0)]) hl6 ⟨hE.sub ⟨rfl,rfl,rfl,trivial⟩,hM⟩ ?_
  rintro s9 a w ⟨hE,hM⟩ o12 hs10 hx11
  unfold WX at hs10
  refine wp_seq (Zd (Zc hE Za ld rfl fun a hE=>Zm hE Za ld rfl rfl rfl fun a hE=>Zf ?_))
  refine Zv hE rfl ?_ ?_
  ·intro hb13
   have hs10:=ZB hs10 hb13
   refine wp_skip (ZG (wp_seq (wp_block (wp_seq ?_))))
   obtain ⟨j14,hl15,hF16⟩:=bind_some hs10
   refine ZT (fun a w=>Env 25 a [(1,(ptr b1 0)),(3,(ptr b3 0)),(4,vI s9.2),(20,vT j14)] ∧ M (Old w0) w0 w [raw b3 (enc s9.1),raw b1 (enc p0)]) ?_ ?_
   ·skip
    refine wp_region_lit (Zc hE Za ld rfl ?_); intro a hE
    obtain ⟨x18,hi17,hl15⟩:=bvx hl15
    refine Zh hE Za ld rfl rfl Try.underlying59 ty5 hi17.1 fun a hE=>ZF (v:=(vB x18)) hE Za ld rfl ty5 rfl (At.vec (hM.rawAt (pre:=[_])) hi17.2) fun a hE=>Zm hE Za ld rfl rfl (bB_geq x18 16) fun a hE=>Zc hE Za ld rfl ?_; intro a hE
    refine Xy (decide (x18 ≥ 16)) (fun hb20=>?_) (fun hb20=>?_)
    ·have hl15:=ZB hl15 hb20
     refine Zz hE rfl (lkb rfl hb20) rfl (by decide) fun a hE=>Zz hE rfl (lkb rfl hb20) rfl (by decide) fun a hE=>Zz hE rfl (lkb rfl hb20) rfl (by decide) fun a hE=>Zz hE rfl (lkb rfl hb20) rfl (by decide) fun a hE=>Zz hE rfl (lkb rfl hb20) rfl (by decide) fun a hE=>Yy hE Za ld (lkb rfl hb20) rfl fun a hE=>Zk ?_
     have ht21:=Option.some.inj hl15
     subst ht21
     refine Zn ?_
     exact ⟨hE.sub ⟨rfl,rfl,rfl,rfl,trivial⟩,hM⟩
    ·have hl15:=ZA hl15 hb20
     refine Zc hE (Zt hE rfl (lkb rfl hb20)) (by decide) rfl ?_; intro a hE
     obtain ⟨x23,hi22,hl15⟩:=bvx hl15
     refine Zh hE (Zt hE rfl (lkb rfl hb20)) (by decide) rfl rfl Try.underlying59 ty5 hi22.1 fun a hE=>ZF (v:=(vB x23)) hE (Zt hE rfl (lkb rfl hb20)) (by decide) rfl ty5 rfl (At.vec (hM.rawAt (pre:=[_])) hi22.2) ?_; intro a hE
     obtain ⟨x26,hi25,hl15⟩:=bvx hl15
     refine Zh hE (Zt hE rfl (lkb rfl hb20)) (by decide) rfl rfl Try.underlying232 ty4 hi25.1 fun a hE=>ZF (v:=(vT x26)) hE (Zt hE rfl (lkb rfl hb20)) (by decide) rfl ty4 rfl (At.vec (hM.rawAt (pre:=[])) hi25.2) fun a hE=>Yh hE Za ld (lkb rfl hb20) rfl fun a hE=>Zk ?_
     have ht28:=Option.some.inj hl15
     subst ht28
     refine Zn ?_
     exact ⟨hE.sub ⟨rfl,rfl,rfl,rfl,trivial⟩,hM⟩
   ·skip
    rintro a w ⟨hE,hM⟩
    refine Zv hE rfl ?_ ?_
    ·intro hb29
     have hF16:=ZB hF16 hb29
     refine Zd (Ze hE Za ld rfl fun a hE=>Zf ?_)
     have ht30:=hx11 _ (ois hF16)
     subst ht30
     have hr:=Option.some.inj hF7
     subst hr
     have hM:=M.fst (l:=[]) hM
     exact wp_ret (ZP (Y4 (ZP (ZP (Y4 (ZP (ZP (ZK hE rfl (Zx hE rfl) ⟨_,rfl,rfl,hM.kept⟩))))))))
    ·intro hb29
     have hF16:=ZA hF16 hb29
     refine wp_skip (ZG (wp_region_lit (Zc hE Za ld rfl ?_))); intro a hE
     obtain ⟨x32,hi31,hF16⟩:=bvx hF16
     refine Zh hE Za ld rfl rfl Try.underlying59 ty5 hi31.1 fun a hE=>ZF (v:=(vB x32)) hE Za ld rfl ty5 rfl (At.vec (hM.rawAt (pre:=[_])) hi31.2) ?_; intro a hE
     obtain ⟨x35,hi34,hF16⟩:=bvx hF16
     refine Zh hE Za ld rfl rfl Try.underlying232 ty4 hi34.1 fun a hE=>Zi (seg:=[vT true]) (cs':=enc (s9.1.setIfInBounds ((bI x32)).toNat true)) hE hM Za rfl rfl rfl ty4 rfl (ZN (v:=s9.1) (x:=true) hi34.1) (Flat.cell (true : Bool)) (ZD (v:=s9.1) (x:=true) hi34.1) fun w a hM hE=>Zk (Yj (ZG (wp_region_lit (Zc hE Za ld rfl fun a hE=>Zm hE Za ld rfl rfl rfl fun a hE=>Ze hE Za ld rfl fun a hE=>Zk (Zn ?_)))))
     exact ⟨_,(ois hF16),hE.sub ⟨rfl,rfl,rfl,trivial⟩,hM⟩
  ·intro hb13
   have hs10:=ZA hs10 hb13
   refine wp_exit (Zs (Zs (Yz ?_)))
   have ht37:=hx11 _ (ois hs10)
   subst ht37
   refine Zn ?_
   have hM:=M.fst (l:=[]) hM
   exact ⟨(),rfl,hE.sub trivial,hM⟩
 ·skip
  rintro a w ⟨s8,ht,hE,hM⟩
  subst ht
  have hF7:=Qp hF7
  refine ZG (Zd (Ze hE Za ld rfl fun a hE=>Zf ?_))
  have hr:=Option.some.inj hF7
  subst hr
  exact wp_ret (ZK hE rfl (Zx hE rfl) ⟨_,rfl,rfl,hM.kept⟩)
def VC (p0 : GCipher) : Option (Bool) :=
 ((W3 p0.Field).bind fun r6=>if (!r6) = true then (some true) else ((U9 p0.Box).bind fun r10=>if (!r10) = true then (some true) else ((V8 p0.Places).bind fun r14=>if (!r14) = true then (some true) else ((Wq p0.Rounds 1 20).bind fun r18=>some (!r18)))) : Option (Bool)).bind fun j3=>if j3 = true then (some false) else ((Xj p0.Field p0.Mix).bind fun r22=>some r22.2)
theorem QN (w0 : World) (p0 : GCipher) (r : Bool) (hF : VC p0 = some r) :
  Calls Try.prog 90 [(Value.agg (enc p0).toArray)].toArray w0 (fun en w'=>∃ v,en = .returned v ∧ (v = (vT r) ∧ Kept (Old w0) w0 w')):=by
 refine ZJ (n:=36) Try.func90 rfl rfl (nbl rfl) rfl ?_
 intro a hE
 have hM:=M.start w0
 unfold VC at hF
 refine Zd (Z3 (cs:=cat [[vI p0.Field],enc p0.Box,enc p0.Mix,enc p0.Places,[vI p0.Rounds]]) hE hM Za ld rfl rfl fun b1 w a hM hE=>Ze hE Za ld rfl fun a hE=>Zf (wp_seq ?_))
 obtain ⟨j3,hl4,hF5⟩:=bind_some hF
 refine ZT (fun a w=>Env 36 a [(1,(ptr b1 0)),(26,vT j3)] ∧ M (Old w0) w0 w [raw b1 (cat [[vI p0.Field],enc p0.Box,enc p0.Mix,enc p0.Places,[vI p0.Rounds]])]) ?_ ?_
 ·skip
  refine wp_region_lit (Zr hE Za ld rfl (Tg) fun a hE=>ZF (v:=(vI p0.Field)) hE Za ld rfl ty2 rfl (At.cat (pre:=[]) (hM.rawAt (pre:=[])) cl0) ?_); intro a hE
  obtain ⟨r6,e7,hl4⟩:=bind_some hl4
  refine Zo hE Za ld rfl cb60 (QO _ p0.Field r6 e7) ?_
  rintro v w a ⟨rfl,hK⟩ hE
  have hM:=hM.keep hK
  refine UT hE Za ld rfl fun a hE=>Zc hE Za ld rfl ?_; intro a hE
  refine Xy (!r6) (fun hb8=>?_) (fun hb8=>?_)
  ·have hl4:=ZB hl4 hb8
   refine Zz hE rfl (lkb rfl hb8) rfl (by decide) fun a hE=>Zz hE rfl (lkb rfl hb8) rfl (by decide) fun a hE=>Zz hE rfl (lkb rfl hb8) rfl (by decide) fun a hE=>Zz hE rfl (lkb rfl hb8) rfl (by decide) fun a hE=>Yy hE Za ld (lkb rfl hb8) rfl fun a hE=>Zc hE Za ld rfl fun a hE=>Zz hE rfl rfl rfl (by decide) fun a hE=>Zz hE rfl rfl rfl (by decide) fun a hE=>Zz hE rfl rfl rfl (by decide) fun a hE=>Zz hE rfl rfl rfl (by decide) fun a hE=>Yy hE Za ld rfl rfl fun a hE=>Zc hE Za ld rfl ?_; intro a hE
   refine Zz hE rfl rfl rfl (by decide) fun a hE=>Zz hE rfl rfl rfl (by decide) fun a hE=>Zz hE rfl rfl rfl (by decide) fun a hE=>Zz hE rfl rfl rfl (by decide) fun a hE=>Yy hE Za ld rfl rfl fun a hE=>Zk ?_
   have ht9:=Option.some.inj hl4
   subst ht9
   refine Zn ?_
   exact ⟨hE.sub ⟨rfl,rfl,trivial⟩,hM⟩
  ·have hl4:=ZA hl4 hb8
   refine Zr hE (Zt hE rfl (lkb rfl hb8)) (by decide) rfl (TX) fun a hE=>Zj (cs:=enc p0.Box) hE (Zt hE rfl (lkb rfl hb8)) (by decide) rfl YC rfl (At.cat (pre:=[[vI p0.Field]]) (hM.rawAt (pre:=[])) (cl1 (n:=1) (m:=0) rfl cl0)) (Flat.len _) ?_; intro a hE
   obtain ⟨r10,e11,hl4⟩:=bind_some hl4
   refine Zo hE (Zt hE rfl (lkb rfl hb8)) (by decide) rfl cb150 (Av _ p0.Box r10 e11) ?_
   rintro v w a ⟨rfl,hK⟩ hE
   have hM:=hM.keep hK
   refine UT hE (Zt hE rfl (lkb rfl hb8)) (by decide) rfl fun a hE=>Yh hE Za ld (lkb rfl hb8) rfl fun a hE=>Zc hE Za ld rfl ?_; intro a hE
   refine Xy (!r10) (fun hb12=>?_) (fun hb12=>?_)
   ·have hl4:=ZB hl4 hb12
    refine Zz hE rfl (lkb rfl hb12) rfl (by decide) fun a hE=>Zz hE rfl (lkb rfl hb12) rfl (by decide) fun a hE=>Zz hE rfl (lkb rfl hb12) rfl (by decide) fun a hE=>Zz hE rfl (lkb rfl hb12) rfl (by decide) fun a hE=>Yy hE Za ld (lkb rfl hb12) rfl fun a hE=>Zc hE Za ld rfl fun a hE=>Zz hE rfl rfl rfl (by decide) fun a hE=>Zz hE rfl rfl rfl (by decide) fun a hE=>Zz hE rfl rfl rfl (by decide) fun a hE=>Zz hE rfl rfl rfl (by decide) fun a hE=>Yy hE Za ld rfl rfl fun a hE=>Zk ?_
    have ht13:=Option.some.inj hl4
    subst ht13
    refine Zn ?_
    exact ⟨hE.sub ⟨rfl,rfl,trivial⟩,hM⟩
   ·have hl4:=ZA hl4 hb12
    refine Zr hE (Zt hE rfl (lkb rfl hb12)) (by decide) rfl (U6) fun a hE=>Zj (cs:=enc p0.Places) hE (Zt hE rfl (lkb rfl hb12)) (by decide) rfl UY rfl (At.cat (pre:=[[vI p0.Field],enc p0.Box,enc p0.Mix]) (hM.rawAt (pre:=[])) (cl1 (n:=1) (m:=272) rfl (cl1 (n:=256) (m:=16) (Flat.len _) (cl1 (n:=16) (m:=0) (Flat.len _) cl0)))) (Flat.len _) ?_; intro a hE
    obtain ⟨r14,e15,hl4⟩:=bind_some hl4
    refine Zo hE (Zt hE rfl (lkb rfl hb12)) (by decide) rfl cb151 (Bl _ p0.Places r14 e15) ?_
    rintro v w a ⟨rfl,hK⟩ hE
    have hM:=hM.keep hK
    refine UT hE (Zt hE rfl (lkb rfl hb12)) (by decide) rfl fun a hE=>Yh hE Za ld (lkb rfl hb12) rfl fun a hE=>Zc hE Za ld rfl ?_; intro a hE
    refine Xy (!r14) (fun hb16=>?_) (fun hb16=>?_)
    ·have hl4:=ZB hl4 hb16
     refine Zz hE rfl (lkb rfl hb16) rfl (by decide) fun a hE=>Zz hE rfl (lkb rfl hb16) rfl (by decide) fun a hE=>Zz hE rfl (lkb rfl hb16) rfl (by decide) fun a hE=>Zz hE rfl (lkb rfl hb16) rfl (by decide) fun a hE=>Yy hE Za ld (lkb rfl hb16) rfl fun a hE=>Zk ?_
     have ht17:=Option.some.inj hl4
     subst ht17
     refine Zn ?_
     exact ⟨hE.sub ⟨rfl,rfl,trivial⟩,hM⟩
    ·have hl4:=ZA hl4 hb16
     refine Zr hE (Zt hE rfl (lkb rfl hb16)) (by decide) rfl (UL) fun a hE=>ZF (v:=(vI p0.Rounds)) hE (Zt hE rfl (lkb rfl hb16)) (by decide) rfl ty2 rfl (At.cat (pre:=[[vI p0.Field],enc p0.Box,enc p0.Mix,enc p0.Places]) (hM.rawAt (pre:=[])) (cl1 (n:=1) (m:=288) rfl (cl1 (n:=256) (m:=32) (Flat.len _) (cl1 (n:=16) (m:=16) (Flat.len _) (cl1 (n:=16) (m:=0) (Flat.len _) cl0))))) ?_; intro a hE
     obtain ⟨r18,e19,hl4⟩:=bind_some hl4
     refine Zo hE (Zt hE rfl (lkb rfl hb16)) (by decide) rfl cb91 (UW _ p0.Rounds 1 20 r18 e19) ?_
     rintro v w a ⟨rfl,hK⟩ hE
     have hM:=hM.keep hK
     refine UT hE (Zt hE rfl (lkb rfl hb16)) (by decide) rfl fun a hE=>Yh hE Za ld (lkb rfl hb16) rfl fun a hE=>Zk ?_
     have ht20:=Option.some.inj hl4
     subst ht20
     refine Zn ?_
     exact ⟨hE.sub ⟨rfl,rfl,trivial⟩,hM⟩
 ·skip
  rintro a w ⟨hE,hM⟩
  refine Zv hE rfl ?_ ?_
  ·intro hb21
   have hF5:=ZB hF5 hb21
   refine Zd (Ze hE Za ld rfl fun a hE=>Zf ?_)
   have hr:=Option.some.inj hF5
   subst hr
   have hM:=M.fst (l:=[]) hM
   exact wp_ret (ZP (ZK hE rfl (Zx hE rfl) ⟨_,rfl,rfl,hM.kept⟩))
  ·intro hb21
   have hF5:=ZA hF5 hb21
   refine wp_skip (ZG (Zd (Zr hE Za ld rfl (Tg) fun a hE=>ZF (v:=(vI p0.Field)) hE Za ld rfl ty2 rfl (At.cat (pre:=[]) (hM.rawAt (pre:=[])) cl0) fun a hE=>Zr hE Za ld rfl (TF) fun a hE=>Zj (cs:=enc p0.Mix) hE Za ld rfl Y7 rfl (At.cat (pre:=[[vI p0.Field],enc p0.Box]) (hM.rawAt (pre:=[])) (cl1 (n:=1) (m:=256) rfl (cl1 (n:=256) (m:=0) (Flat.len _) cl0))) (Flat.len _) ?_))); intro a hE
   obtain ⟨r22,e23,hF5⟩:=bind_some hF5
   refine Zo hE Za ld rfl y0 (Ta _ p0.Field p0.Mix r22 e23) ?_
   rintro v w a ⟨rfl,hK⟩ hE
   have hM:=hM.keep hK
   refine Zc hE Za ld rfl fun a hE=>Zy hE Za ld rfl rfl fun a hE=>Zy hE Za ld rfl rfl fun a hE=>Zu hE hM Za ld Y7 fun b24 w a hM hE=>Zi (seg:=enc r22.1) (cs':=enc r22.1) hE hM Za rfl rfl rfl Y7 (Flat.len _) (zle flq) (Flat.cell _) (Zg flq) fun w a hM hE=>Ze hE Za ld rfl fun a hE=>Zf (Zd (Zc hE Za ld rfl fun a hE=>Ze hE Za ld rfl fun a hE=>Zf ?_))
   have hr:=Option.some.inj hF5
   subst hr
   have hM:=M.fst (l:=[]) hM
   exact wp_ret (ZK hE rfl (Zx hE rfl) ⟨_,rfl,rfl,hM.kept⟩)
def WZ (p0 : (Vector UInt8 256)) (p2 : Int) (s10 : (Vector UInt8 16) × Int) : Option (Fl ((Vector UInt8 16) × Int) (Vector UInt8 16)) :=
 if (decide (s10.2 < 16)) = true then (((ZI s10.1 (Int.tmod (wr (s10.2 + 15)) 16)).bind fun x19=>(if (s10.2 == 0) = true then (some (x19 ^^^ (ZE p2))) else (some x19) : Option (UInt8)).bind fun j21=>(ZI s10.1 s10.2).bind fun x29=>(ZI p0 (bI j21)).bind fun x32=>(ZI s10.1 s10.2).bind fun x35=>some (s10.1.setIfInBounds (s10.2).toNat (x29 ^^^ x32)) : Option ((Vector UInt8 16))).bind fun j15=>some (Fl.nx (j15,wr (s10.2 + 1)))) else (some (Fl.ex s10.1))
def Um (p0 : (Vector UInt8 256)) (p1 : (Vector UInt8 16)) (p2 : Int) : Option ((Vector UInt8 16)) :=
 (ZQ (WZ p0 p2) (p1,0)).bind fun j7=>some j7
theorem HP (w0 : World) (p0 : (Vector UInt8 256)) (p1 : (Vector UInt8 16)) (p2 : Int) (r : (Vector UInt8 16)) (hF : Um p0 p1 p2 = some r) :
  Calls Try.prog 190 [(Value.agg (enc p0).toArray),(Value.agg (enc p1).toArray),vI p2].toArray w0 (fun en w'=>∃ v,en = .returned v ∧ (v = (Value.agg (enc r).toArray) ∧ Kept (Old w0) w0 w')):=by
 refine ZJ (n:=34) Try.func190 rfl rfl (nbl rfl) rfl ?_
 intro a hE
 have hM:=M.start w0
 unfold Um at hF
 refine Zd (Z3 (cs:=enc p0) hE hM Za ld rfl rfl fun b1 w a hM hE=>Z3 (cs:=enc p1) hE hM Za ld rfl rfl fun b3 w a hM hE=>Zu hE hM Za ld Zw fun b5 w a hM hE=>Zf (wp_seq (Zd (Ze hE Za ld rfl fun a hE=>Zf ?_))))
 obtain ⟨j7,hl8,hF9⟩:=bind_some hF
 refine Z0 (fun a w=>Env 34 a [(4,(ptr b3 0)),(6,(ptr b5 0))] ∧ M (Old w0) w0 w [raw b5 (enc (Vector.replicate 16 (0 : UInt8))),raw b3 (enc j7)]) ?_ ?_
 ·skip
  refine wp_block ?_
  refine ZV (fun (s10 : (Vector UInt8 16) × Int) a w=>Env 34 a [(2,vI p2),(3,(ptr b1 0)),(4,(ptr b3 0)),(6,(ptr b5 0)),(7,vI s10.2)] ∧ M (Old w0) w0 w [raw b5 (enc (Vector.replicate 16 (0 : UInt8))),raw b3 (enc s10.1),raw b1 (enc p0)]) hl8 ⟨hE.sub ⟨rfl,rfl,rfl,rfl,rfl,trivial⟩,hM⟩ ?_
  rintro s10 a w ⟨hE,hM⟩ o13 hs11 hx12
  unfold WZ at hs11
  refine wp_seq (Zd (Zc hE Za ld rfl fun a hE=>Zm hE Za ld rfl rfl rfl fun a hE=>Zf ?_))
  refine Zv hE rfl ?_ ?_
  ·intro hb14
   have hs11:=ZB hs11 hb14
   refine wp_skip (ZG ?_)
   obtain ⟨j15,hl16,hF17⟩:=bind_some hs11
   refine ZT (fun a w=>Env 34 a [(2,vI p2),(3,(ptr b1 0)),(4,(ptr b3 0)),(6,(ptr b5 0)),(7,vI s10.2)] ∧ M (Old w0) w0 w [raw b5 (enc (Vector.replicate 16 (0 : UInt8))),raw b3 (enc j15),raw b1 (enc p0)]) ?_ ?_
   ·skip
    refine wp_block (Zd (Zc hE Za ld rfl fun a hE=>Zm hE Za ld rfl rfl rfl fun a hE=>Zm hE Za ld rfl rfl (Kc _ _ (by decide)) ?_)); intro a hE
    obtain ⟨x19,hi18,hl16⟩:=bvx hl16
    refine Zh hE Za ld rfl rfl Try.underlying62 ty5 hi18.1 fun a hE=>ZF (v:=(vB x19)) hE Za ld rfl ty5 rfl (At.vec (hM.rawAt (pre:=[_])) hi18.2) fun a hE=>Ze hE Za ld rfl fun a hE=>Zf ?_
    obtain ⟨j21,hl22,hF23⟩:=bind_some hl16
    refine ZT (fun a w=>Env 34 a [(2,vI p2),(3,(ptr b1 0)),(4,(ptr b3 0)),(6,(ptr b5 0)),(7,vI s10.2),(8,vB j21)] ∧ M (Old w0) w0 w [raw b5 (enc (Vector.replicate 16 (0 : UInt8))),raw b3 (enc s10.1),raw b1 (enc p0)]) ?_ ?_
    ·skip
     refine Zd (Zc hE Za ld rfl fun a hE=>Zm hE Za ld rfl rfl rfl fun a hE=>Zf ?_)
     refine Zv hE rfl ?_ ?_
     ·intro hb24
      have hl22:=ZB hl22 hb24
      refine wp_region_lit (Zc hE Za ld rfl fun a hE=>Zc hE Za ld rfl fun a hE=>Yg hE Za ld rfl Try.underlying2 Try.underlying5 ?_); intro a hE
      rw [Z6] at hE
      refine Zm hE Za ld rfl rfl (Ug x19 (ZE p2)) fun a hE=>Ze hE Za ld rfl fun a hE=>Zk ?_
      have ht25:=Option.some.inj hl22
      subst ht25
      refine Zn ?_
      exact ⟨hE.sub ⟨rfl,rfl,rfl,rfl,rfl,rfl,trivial⟩,hM⟩
     ·intro hb24
      have hl22:=ZA hl22 hb24
      refine wp_skip ?_
      have ht26:=Option.some.inj hl22
      subst ht26
      refine Zn ?_
      exact ⟨hE.sub ⟨rfl,rfl,rfl,rfl,rfl,rfl,trivial⟩,hM⟩
    ·skip
     rintro a w ⟨hE,hM⟩
     obtain ⟨x29,hi28,hF23⟩:=bvx hF23
     obtain ⟨x32,hi31,hF23⟩:=bvx hF23
     obtain ⟨x35,hi34,hF23⟩:=bvx hF23
     refine Yw (n:=34) (hd:=[_,_,_,_,_,_,_,_,_]) (tl:=[_]) YS rfl rfl [24,25,26,27,28,29,30,31,32] (by decide) (fun w=>M (Old w0) w0 w [raw b5 (enc (Vector.replicate 16 (0 : UInt8))),raw b3 (enc s10.1),raw b1 (enc p0)]) (fun j=>([fun v _=>v = (vI s10.2),fun v _=>v = (vI s10.2),fun v _=>v = (ptr b3 (0 + (s10.2).toNat * 1)),fun v _=>v = (vB x29),fun v _=>v = (vB j21),fun v _=>v = (ptr b1 (0 + ((bI j21)).toNat * 1)),fun v _=>v = (vB x32),fun v _=>v = (vB (x29 ^^^ x32)),fun v _=>v = (ptr b3 (0 + (s10.2).toNat * 1))] : List (Value → World → Prop)).getD j (fun _ _=>True)) (fun _ _ h hk=>h.keep hk) (gup (Zp (Zp (Zp (Zp (Zp (Zp (Zp (Zp (Zp Vq)))))))))) hE hM.drew (ZS (Zb ?_ (Zb ?_ (Zb ?_ (Zb ?_ (Zb ?_ (Zb ?_ (Zb ?_ (Zb ?_ (Zb ?_ ZL)))))))))) ?_
     ·exact fun a w ux27 hE hM hp=>Zc hE Za ld rfl fun a hE=>⟨Kept.refl _ _,_,_,rfl,hE,rfl⟩
     ·exact fun a w ux27 hE hM hp=>Zc hE Za ld rfl fun a hE=>⟨Kept.refl _ _,_,_,rfl,hE,rfl⟩
     ·intro a w ux27 hE hM hp
      have f1 : ux27 1 = (vI s10.2):=hp 0 _ rfl rfl
      exact Zh hE Za ld rfl (lk rfl f1) Try.underlying62 ty5 hi28.1 fun a hE=>⟨Kept.refl _ _,_,_,rfl,hE,rfl⟩
     ·intro a w ux27 hE hM hp
      have f2 : ux27 2 = (ptr b3 (0 + (s10.2).toNat * 1)):=hp 0 _ rfl rfl
      exact ZF (v:=(vB x29)) hE Za ld (lk rfl f2) ty5 rfl (At.vec (hM.rawAt (pre:=[_])) hi28.2) fun a hE=>⟨Kept.refl _ _,_,_,rfl,hE,rfl⟩
     ·exact fun a w ux27 hE hM hp=>Zc hE Za ld rfl fun a hE=>⟨Kept.refl _ _,_,_,rfl,hE,rfl⟩
     ·intro a w ux27 hE hM hp
      have f4 : ux27 4 = (vB j21):=hp 0 _ rfl rfl
      exact Zh hE Za ld rfl (lk rfl f4) Try.underlying54 ty5 hi31.1 fun a hE=>⟨Kept.refl _ _,_,_,rfl,hE,rfl⟩
     ·intro a w ux27 hE hM hp
      have f5 : ux27 5 = (ptr b1 (0 + ((bI j21)).toNat * 1)):=hp 0 _ rfl rfl
      exact ZF (v:=(vB x32)) hE Za ld (lk rfl f5) ty5 rfl (At.vec (hM.rawAt (pre:=[_,_])) hi31.2) fun a hE=>⟨Kept.refl _ _,_,_,rfl,hE,rfl⟩
     ·intro a w ux27 hE hM hp
      have f3 : ux27 3 = (vB x29):=hp 0 _ rfl rfl
      have f6 : ux27 6 = (vB x32):=hp 1 _ rfl rfl
      exact Zm hE Za ld (lk rfl f3) (lk rfl f6) (Ug x29 x32) fun a hE=>⟨Kept.refl _ _,_,_,rfl,hE,rfl⟩
     ·intro a w ux27 hE hM hp
      have f0 : ux27 0 = (vI s10.2):=hp 0 _ rfl rfl
      exact Zh hE Za ld rfl (lk rfl f0) Try.underlying62 ty5 hi34.1 fun a hE=>⟨Kept.refl _ _,_,_,rfl,hE,rfl⟩
     ·intro a w ux27 hE hM hg
      have hE:=hE.sub (e':=[(31,(vB (x29 ^^^ x32))),(32,(ptr b3 (0 + (s10.2).toNat * 1))),(2,vI p2),(3,(ptr b1 0)),(4,(ptr b3 0)),(6,(ptr b5 0)),(7,vI s10.2),(8,vB j21)]) ⟨lk rfl (hg 7 (by decide)),lk rfl (hg 8 (by decide)),rfl,rfl,rfl,rfl,rfl,rfl,trivial⟩
      have hM:=hM.pull (pre:=[_])
      refine Zi (seg:=[(vB (x29 ^^^ x32))]) (cs':=enc (s10.1.setIfInBounds (s10.2).toNat (x29 ^^^ x32))) hE hM Za rfl rfl rfl ty5 rfl (ZN (v:=s10.1) (x:=x29 ^^^ x32) hi34.1) (Flat.cell (x29 ^^^ x32 : UInt8)) (ZD (v:=s10.1) (x:=x29 ^^^ x32) hi34.1) fun w a hM hE=>Zk (Yj ?_)
      have ht37:=Option.some.inj hF23
      subst ht37
      refine Zn ?_
      have hM:=((hM.pull (pre:=[_,_])).pull (pre:=[_])).pull (pre:=[_,_])
      exact ⟨hE.sub ⟨rfl,rfl,rfl,rfl,rfl,trivial⟩,hM⟩
   ·skip
    rintro a w ⟨hE,hM⟩
    refine wp_region_lit (Zc hE Za ld rfl fun a hE=>Zm hE Za ld rfl rfl rfl fun a hE=>Ze hE Za ld rfl fun a hE=>Zk (Zn ?_))
    exact ⟨_,(ois hF17),hE.sub ⟨rfl,rfl,rfl,rfl,rfl,trivial⟩,hM⟩
  ·intro hb14
   have hs11:=ZA hs11 hb14
   refine wp_exit (Zs (Zs (Yz ?_)))
   have ht38:=hx12 _ (ois hs11)
   subst ht38
   refine Zn ?_
   have hM:=M.fst (l:=[_,_]) ((hM.pull (pre:=[_])).pull (pre:=[_]))
   exact ⟨hE.sub ⟨rfl,rfl,trivial⟩,hM⟩
 ·skip
  rintro a w ⟨hE,hM⟩
  refine ZG (Zd (Zj (cs:=enc j7) hE Za ld rfl Zw rfl (hM.rawAt (pre:=[_])) (Flat.len _) fun a hE=>Zi (seg:=enc j7) (cs':=enc j7) hE hM Za rfl rfl rfl Zw (Flat.len _) (zle flq) (Flat.cell _) (Zg flq) fun w a hM hE=>Zf ?_))
  have hr:=Option.some.inj hF9
  subst hr
  have hq39 : ZY Try.prog _ _ (.cell 6 62) _:=ZM hE rfl Zw rfl (hM.rawAt (pre:=[])) (Flat.len _) rfl
  have hM:=M.fst (l:=[]) hM
  exact wp_ret (ZK hE rfl hq39 ⟨_,rfl,rfl,hM.kept⟩)
def WS (p0 : GCipher) (p2 : Int) (s12 : (Vector UInt8 16) × (List (Vector UInt8 16)) × Int) : Option (Fl ((Vector UInt8 16) × (List (Vector UInt8 16)) × Int) (List (Vector UInt8 16))) :=
 if (decide (s12.2.2 ≤ p2)) = true then ((Um p0.Box s12.1 s12.2.2).bind fun r19=>(app 16 s12.2.1 ([r19] : List (Vector UInt8 16))).bind fun l23=>some (Fl.nx (r19,(s12.2.1 ++ ([r19] : List (Vector UInt8 16))),wr (s12.2.2 + 1)))) else (some (Fl.ex s12.2.1))
def Vv (p0 : GCipher) (p1 : (Vector UInt8 16)) (p2 : Int) : Option ((List (Vector UInt8 16))) :=
 (ZQ (WS p0 p2) (p1,([p1] : List (Vector UInt8 16)),1)).bind fun j7=>some j7
theorem Ko (w0 : World) (p0 : GCipher) (p1 : (Vector UInt8 16)) (p2 : Int) (r : (List (Vector UInt8 16))) (hF : Vv p0 p1 p2 = some r) :
  Calls Try.prog 153 [(Value.agg (enc p0).toArray),(Value.agg (enc p1).toArray),vI p2].toArray w0 (fun en w'=>∃ v,en = .returned v ∧ (∃ (y1 : Value),v = y1 ∧ Fr w0 w' [osl NoB (r : List (Vector UInt8 16)) y1] ∧ Kept (Old w0) w0 w')):=by
 refine ZJ (n:=26) Try.func153 rfl rfl (nbl rfl) rfl ?_
 intro a hE
 have hM:=M.start w0
 unfold Vv at hF
 refine Zd (Z3 (cs:=cat [[vI p0.Field],enc p0.Box,enc p0.Mix,enc p0.Places,[vI p0.Rounds]]) hE hM Za ld rfl rfl fun b1 w a hM hE=>Z3 (cs:=enc p1) hE hM Za ld rfl rfl fun b3 w a hM hE=>Ze hE Za ld rfl fun a hE=>Zf (Zd (Zj (cs:=enc p1) hE Za ld rfl Zw rfl (hM.rawAt (pre:=[])) (Flat.len _) fun a hE=>YM (xs:=[.tmp 9]) (l:=([p1] : List (Vector UInt8 16))) (vs:=[(Value.agg (enc p1).toArray)]) hE hM Za ld rfl rfl Try.underlying136 Zw rfl (by decide) rfl fun u5 w a hM hE=>Ze hE Za ld rfl fun a hE=>Zf (wp_seq (Zd (Ze hE Za ld rfl fun a hE=>Zf ?_))))))
 obtain ⟨j7,hl8,hF9⟩:=bind_some hF
 refine Z0 (fun a w=>∃ (u10 : Value),Env 26 a [(7,u10)] ∧ M (Old w0) w0 w [osl NoB (j7 : List (Vector UInt8 16)) u10]) ?_ ?_
 ·skip
  refine wp_block ?_
  have hM:=(hM.pull (pre:=[_,_])).pull (pre:=[_,_])
  refine ZV (fun (s12 : (Vector UInt8 16) × (List (Vector UInt8 16)) × Int) a w=>∃ (u13 : Value),Env 26 a [(2,vI p2),(3,(ptr b1 0)),(4,(ptr b3 0)),(7,u13),(8,vI s12.2.2)] ∧ M (Old w0) w0 w [raw b3 (enc s12.1),raw b1 (cat [[vI p0.Field],enc p0.Box,enc p0.Mix,enc p0.Places,[vI p0.Rounds]]),osl NoB (s12.2.1 : List (Vector UInt8 16)) u13]) hl8 ⟨u5,hE.sub ⟨rfl,rfl,rfl,rfl,rfl,trivial⟩,hM⟩ ?_
  rintro s12 a w ⟨u13,hE,hM⟩ o17 hs15 hx16
  unfold WS at hs15
  refine wp_seq (Zd (Zc hE Za ld rfl fun a hE=>Zc hE Za ld rfl fun a hE=>Zm hE Za ld rfl rfl rfl fun a hE=>Zf ?_))
  refine Zv hE rfl ?_ ?_
  ·intro hb18
   have hs15:=ZB hs15 hb18
   refine wp_skip (ZG (wp_seq (wp_block (Zd (Zr hE Za ld rfl (TX) fun a hE=>Zj (cs:=enc p0.Box) hE Za ld rfl YC rfl (At.cat (pre:=[[vI p0.Field]]) (hM.rawAt (pre:=[_])) (cl1 (n:=1) (m:=0) rfl cl0)) (Flat.len _) fun a hE=>Zj (cs:=enc s12.1) hE Za ld rfl Zw rfl (hM.rawAt (pre:=[])) (Flat.len _) fun a hE=>Zc hE Za ld rfl ?_))))); intro a hE
   obtain ⟨r19,e20,hs15⟩:=bind_some hs15
   refine Zo hE Za ld rfl cb190 (HP _ p0.Box s12.1 s12.2.2 r19 e20) ?_
   rintro v w a ⟨rfl,hK⟩ hE
   have hM:=hM.keep hK
   refine Zi (seg:=enc r19) (cs':=enc r19) hE hM Za rfl rfl rfl Zw (Flat.len _) (zle flq) (Flat.cell _) (Zg flq) fun w a hM hE=>Zf (wp_region_lit (Zc hE Za ld rfl fun a hE=>Zj (cs:=enc r19) hE Za ld rfl Zw rfl (hM.rawAt (pre:=[])) (Flat.len _) fun a hE=>YM (xs:=[.tmp 22]) (l:=([r19] : List (Vector UInt8 16))) (vs:=[(Value.agg (enc r19).toArray)]) hE hM Za ld rfl rfl Try.underlying136 Zw rfl (by decide) rfl ?_)); intro u21 w a hM hE
   obtain ⟨l23,e24,hs15⟩:=bind_some hs15
   obtain ⟨e27,rfl⟩:=T0 e24
   have hM:=hM.pull (pre:=[_,_,_])
   refine Td hE hM Za ld rfl rfl (hM.sl (pre:=[_]) noB) Try.underlying136 Zw rfl (by decide) e27 fun u25 w a hM hE=>Ze hE Za ld rfl fun a hE=>Zk (Yj (ZG (wp_region_lit (Zc hE Za ld rfl fun a hE=>Zm hE Za ld rfl rfl rfl fun a hE=>Ze hE Za ld rfl fun a hE=>Zk (Zn ?_)))))
   have hM:=M.fst (l:=[_,_,_]) ((hM.pull (pre:=[_,_,_])).pull (pre:=[_,_,_]))
   exact ⟨_,(ois hs15),u25,hE.sub ⟨rfl,rfl,rfl,rfl,rfl,trivial⟩,hM⟩
  ·intro hb18
   have hs15:=ZA hs15 hb18
   refine wp_exit (Zs (Zs (Yz ?_)))
   have ht28:=hx16 _ (ois hs15)
   subst ht28
   refine Zn ?_
   have hM:=M.fst (l:=[_]) (hM.pull (pre:=[_,_]))
   exact ⟨u13,hE.sub ⟨rfl,trivial⟩,hM⟩
 ·skip
  rintro a w ⟨u10,hE,hM⟩
  refine ZG (Zd (Zc hE Za ld rfl fun a hE=>Ze hE Za ld rfl fun a hE=>Zf ?_))
  have hr:=Option.some.inj hF9
  subst hr
  exact wp_ret (ZK hE rfl (Zx hE rfl) ⟨_,rfl,u10,rfl,hM.outF (Hb KR),hM.kept⟩)
def Vl (p1 : (Vector UInt8 16)) (s10 : (Vector UInt8 16) × Int) : Option (Fl ((Vector UInt8 16) × Int) (Vector UInt8 16)) :=
 if (decide (s10.2 < 16)) = true then ((ZI s10.1 s10.2).bind fun x17=>(ZI p1 s10.2).bind fun x20=>(ZI s10.1 s10.2).bind fun x23=>some (Fl.nx ((s10.1.setIfInBounds (s10.2).toNat (x17 ^^^ x20)),wr (s10.2 + 1)))) else (some (Fl.ex s10.1))
def Wr (p0 : (Vector UInt8 16)) (p1 : (Vector UInt8 16)) : Option ((Vector UInt8 16)) :=
 (ZQ (Vl p1) (p0,0)).bind fun j7=>some j7
theorem Tp (w0 : World) (p0 : (Vector UInt8 16)) (p1 : (Vector UInt8 16)) (r : (Vector UInt8 16)) (hF : Wr p0 p1 = some r) :
  Calls Try.prog 154 [(Value.agg (enc p0).toArray),(Value.agg (enc p1).toArray)].toArray w0 (fun en w'=>∃ v,en = .returned v ∧ (v = (Value.agg (enc r).toArray) ∧ Kept (Old w0) w0 w')):=by
 refine ZJ (n:=20) Try.func154 rfl rfl (nbl rfl) rfl ?_
 intro a hE
 have hM:=M.start w0
 unfold Wr at hF
 refine Zd (Z3 (cs:=enc p0) hE hM Za ld rfl rfl fun b1 w a hM hE=>Z3 (cs:=enc p1) hE hM Za ld rfl rfl fun b3 w a hM hE=>Zu hE hM Za ld Zw fun b5 w a hM hE=>Zf (wp_seq (Zd (Ze hE Za ld rfl fun a hE=>Zf ?_))))
 obtain ⟨j7,hl8,hF9⟩:=bind_some hF
 refine Z0 (fun a w=>Env 20 a [(2,(ptr b1 0)),(4,(ptr b5 0))] ∧ M (Old w0) w0 w [raw b5 (enc (Vector.replicate 16 (0 : UInt8))),raw b1 (enc j7)]) ?_ ?_
 ·skip
  refine wp_block ?_
  refine ZV (fun (s10 : (Vector UInt8 16) × Int) a w=>Env 20 a [(2,(ptr b1 0)),(3,(ptr b3 0)),(4,(ptr b5 0)),(5,vI s10.2)] ∧ M (Old w0) w0 w [raw b5 (enc (Vector.replicate 16 (0 : UInt8))),raw b3 (enc p1),raw b1 (enc s10.1)]) hl8 ⟨hE.sub ⟨rfl,rfl,rfl,rfl,trivial⟩,hM⟩ ?_
  rintro s10 a w ⟨hE,hM⟩ o13 hs11 hx12
  unfold Vl at hs11
  refine wp_seq (Zd (Zc hE Za ld rfl fun a hE=>Zm hE Za ld rfl rfl rfl fun a hE=>Zf ?_))
  refine Zv hE rfl ?_ ?_
  ·intro hb14
   have hs11:=ZB hs11 hb14
   refine wp_skip (ZG (wp_seq (wp_block ?_)))
   obtain ⟨x17,hi16,hs11⟩:=bvx hs11
   obtain ⟨x20,hi19,hs11⟩:=bvx hs11
   obtain ⟨x23,hi22,hs11⟩:=bvx hs11
   refine Yw (n:=20) (hd:=[_,_,_,_,_,_,_,_,_]) (tl:=[_]) YS rfl rfl [10,11,12,13,14,15,16,17,18] (by decide) (fun w=>M (Old w0) w0 w [raw b5 (enc (Vector.replicate 16 (0 : UInt8))),raw b3 (enc p1),raw b1 (enc s10.1)]) (fun j=>([fun v _=>v = (vI s10.2),fun v _=>v = (vI s10.2),fun v _=>v = (ptr b1 (0 + (s10.2).toNat * 1)),fun v _=>v = (vB x17),fun v _=>v = (vI s10.2),fun v _=>v = (ptr b3 (0 + (s10.2).toNat * 1)),fun v _=>v = (vB x20),fun v _=>v = (vB (x17 ^^^ x20)),fun v _=>v = (ptr b1 (0 + (s10.2).toNat * 1))] : List (Value → World → Prop)).getD j (fun _ _=>True)) (fun _ _ h hk=>h.keep hk) (gup (Zp (Zp (Zp (Zp (Zp (Zp (Zp (Zp (Zp Vq)))))))))) hE hM.drew (ZS (Zb ?_ (Zb ?_ (Zb ?_ (Zb ?_ (Zb ?_ (Zb ?_ (Zb ?_ (Zb ?_ (Zb ?_ ZL)))))))))) ?_
   ·exact fun a w ux15 hE hM hp=>Zc hE Za ld rfl fun a hE=>⟨Kept.refl _ _,_,_,rfl,hE,rfl⟩
   ·exact fun a w ux15 hE hM hp=>Zc hE Za ld rfl fun a hE=>⟨Kept.refl _ _,_,_,rfl,hE,rfl⟩
   ·intro a w ux15 hE hM hp
    have f1 : ux15 1 = (vI s10.2):=hp 0 _ rfl rfl
    exact Zh hE Za ld rfl (lk rfl f1) Try.underlying62 ty5 hi16.1 fun a hE=>⟨Kept.refl _ _,_,_,rfl,hE,rfl⟩
   ·intro a w ux15 hE hM hp
    have f2 : ux15 2 = (ptr b1 (0 + (s10.2).toNat * 1)):=hp 0 _ rfl rfl
    exact ZF (v:=(vB x17)) hE Za ld (lk rfl f2) ty5 rfl (At.vec (hM.rawAt (pre:=[_,_])) hi16.2) fun a hE=>⟨Kept.refl _ _,_,_,rfl,hE,rfl⟩
   ·exact fun a w ux15 hE hM hp=>Zc hE Za ld rfl fun a hE=>⟨Kept.refl _ _,_,_,rfl,hE,rfl⟩
   ·intro a w ux15 hE hM hp
    have f4 : ux15 4 = (vI s10.2):=hp 0 _ rfl rfl
    exact Zh hE Za ld rfl (lk rfl f4) Try.underlying62 ty5 hi19.1 fun a hE=>⟨Kept.refl _ _,_,_,rfl,hE,rfl⟩
   ·intro a w ux15 hE hM hp
    have f5 : ux15 5 = (ptr b3 (0 + (s10.2).toNat * 1)):=hp 0 _ rfl rfl
    exact ZF (v:=(vB x20)) hE Za ld (lk rfl f5) ty5 rfl (At.vec (hM.rawAt (pre:=[_])) hi19.2) fun a hE=>⟨Kept.refl _ _,_,_,rfl,hE,rfl⟩
   ·intro a w ux15 hE hM hp
    have f3 : ux15 3 = (vB x17):=hp 0 _ rfl rfl
    have f6 : ux15 6 = (vB x20):=hp 1 _ rfl rfl
    exact Zm hE Za ld (lk rfl f3) (lk rfl f6) (Ug x17 x20) fun a hE=>⟨Kept.refl _ _,_,_,rfl,hE,rfl⟩
   ·intro a w ux15 hE hM hp
    have f0 : ux15 0 = (vI s10.2):=hp 0 _ rfl rfl
    exact Zh hE Za ld rfl (lk rfl f0) Try.underlying62 ty5 hi22.1 fun a hE=>⟨Kept.refl _ _,_,_,rfl,hE,rfl⟩
   ·intro a w ux15 hE hM hg
    have hE:=hE.sub (e':=[(17,(vB (x17 ^^^ x20))),(18,(ptr b1 (0 + (s10.2).toNat * 1))),(2,(ptr b1 0)),(3,(ptr b3 0)),(4,(ptr b5 0)),(5,vI s10.2),(6,vI s10.2),(7,(vT (decide (s10.2 < 16))))]) ⟨lk rfl (hg 7 (by decide)),lk rfl (hg 8 (by decide)),rfl,rfl,rfl,rfl,rfl,rfl,trivial⟩
    have hM:=hM.pull (pre:=[_,_])
    refine Zi (seg:=[(vB (x17 ^^^ x20))]) (cs':=enc (s10.1.setIfInBounds (s10.2).toNat (x17 ^^^ x20))) hE hM Za rfl rfl rfl ty5 rfl (ZN (v:=s10.1) (x:=x17 ^^^ x20) hi22.1) (Flat.cell (x17 ^^^ x20 : UInt8)) (ZD (v:=s10.1) (x:=x17 ^^^ x20) hi22.1) fun w a hM hE=>Zk (Yj (ZG (wp_region_lit (Zc hE Za ld rfl fun a hE=>Zm hE Za ld rfl rfl rfl fun a hE=>Ze hE Za ld rfl fun a hE=>Zk (Zn ?_)))))
    have hM:=(hM.pull (pre:=[_,_])).pull (pre:=[_,_])
    exact ⟨_,(ois hs11),hE.sub ⟨rfl,rfl,rfl,rfl,trivial⟩,hM⟩
  ·intro hb14
   have hs11:=ZA hs11 hb14
   refine wp_exit (Zs (Zs (Yz ?_)))
   have ht25:=hx12 _ (ois hs11)
   subst ht25
   refine Zn ?_
   have hM:=M.fst (l:=[_,_]) ((hM.pull (pre:=[_,_])).pull (pre:=[_]))
   exact ⟨hE.sub ⟨rfl,rfl,trivial⟩,hM⟩
 ·skip
  rintro a w ⟨hE,hM⟩
  refine ZG (Zd (Zj (cs:=enc j7) hE Za ld rfl Zw rfl (hM.rawAt (pre:=[_])) (Flat.len _) fun a hE=>Zi (seg:=enc j7) (cs':=enc j7) hE hM Za rfl rfl rfl Zw (Flat.len _) (zle flq) (Flat.cell _) (Zg flq) fun w a hM hE=>Zf ?_))
  have hr:=Option.some.inj hF9
  subst hr
  have hq26 : ZY Try.prog _ _ (.cell 4 62) _:=ZM hE rfl Zw rfl (hM.rawAt (pre:=[])) (Flat.len _) rfl
  have hM:=M.fst (l:=[]) hM
  exact wp_ret (ZK hE rfl hq26 ⟨_,rfl,rfl,hM.kept⟩)
def WC (p0 : (Vector UInt8 256)) (s10 : (Vector UInt8 16) × Int) : Option (Fl ((Vector UInt8 16) × Int) (Vector UInt8 16)) :=
 if (decide (s10.2 < 16)) = true then ((ZI s10.1 s10.2).bind fun x16=>(ZI p0 (bI x16)).bind fun x19=>(ZI s10.1 s10.2).bind fun x22=>some (Fl.nx ((s10.1.setIfInBounds (s10.2).toNat x19),wr (s10.2 + 1)))) else (some (Fl.ex s10.1))
def WV (p0 : (Vector UInt8 256)) (p1 : (Vector UInt8 16)) : Option ((Vector UInt8 16)) :=
 (ZQ (WC p0) (p1,0)).bind fun j7=>some j7
theorem QP (w0 : World) (p0 : (Vector UInt8 256)) (p1 : (Vector UInt8 16)) (r : (Vector UInt8 16)) (hF : WV p0 p1 = some r) :
  Calls Try.prog 156 [(Value.agg (enc p0).toArray),(Value.agg (enc p1).toArray)].toArray w0 (fun en w'=>∃ v,en = .returned v ∧ (v = (Value.agg (enc r).toArray) ∧ Kept (Old w0) w0 w')):=by
 refine ZJ (n:=18) Try.func156 rfl rfl (nbl rfl) rfl ?_
 intro a hE
 have hM:=M.start w0
 unfold WV at hF
 refine Zd (Z3 (cs:=enc p0) hE hM Za ld rfl rfl fun b1 w a hM hE=>Z3 (cs:=enc p1) hE hM Za ld rfl rfl fun b3 w a hM hE=>Zu hE hM Za ld Zw fun b5 w a hM hE=>Zf (wp_seq (Zd (Ze hE Za ld rfl fun a hE=>Zf ?_))))
 obtain ⟨j7,hl8,hF9⟩:=bind_some hF
 refine Z0 (fun a w=>Env 18 a [(3,(ptr b3 0)),(4,(ptr b5 0))] ∧ M (Old w0) w0 w [raw b5 (enc (Vector.replicate 16 (0 : UInt8))),raw b3 (enc j7)]) ?_ ?_
 ·skip
  refine wp_block ?_
  refine ZV (fun (s10 : (Vector UInt8 16) × Int) a w=>Env 18 a [(2,(ptr b1 0)),(3,(ptr b3 0)),(4,(ptr b5 0)),(5,vI s10.2)] ∧ M (Old w0) w0 w [raw b5 (enc (Vector.replicate 16 (0 : UInt8))),raw b3 (enc s10.1),raw b1 (enc p0)]) hl8 ⟨hE.sub ⟨rfl,rfl,rfl,rfl,trivial⟩,hM⟩ ?_
  rintro s10 a w ⟨hE,hM⟩ o13 hs11 hx12
  unfold WC at hs11
  refine wp_seq (Zd (Zc hE Za ld rfl fun a hE=>Zm hE Za ld rfl rfl rfl fun a hE=>Zf ?_))
  refine Zv hE rfl ?_ ?_
  ·intro hb14
   have hs11:=ZB hs11 hb14
   refine wp_skip (ZG (wp_seq (wp_block (wp_region_lit (Zc hE Za ld rfl fun a hE=>Zc hE Za ld rfl ?_))))); intro a hE
   obtain ⟨x16,hi15,hs11⟩:=bvx hs11
   refine Zh hE Za ld rfl rfl Try.underlying62 ty5 hi15.1 fun a hE=>ZF (v:=(vB x16)) hE Za ld rfl ty5 rfl (At.vec (hM.rawAt (pre:=[_])) hi15.2) ?_; intro a hE
   obtain ⟨x19,hi18,hs11⟩:=bvx hs11
   refine Zh hE Za ld rfl rfl Try.underlying54 ty5 hi18.1 fun a hE=>ZF (v:=(vB x19)) hE Za ld rfl ty5 rfl (At.vec (hM.rawAt (pre:=[_,_])) hi18.2) ?_; intro a hE
   obtain ⟨x22,hi21,hs11⟩:=bvx hs11
   refine Zh hE Za ld rfl rfl Try.underlying62 ty5 hi21.1 ?_; intro a hE
   have hM:=hM.pull (pre:=[_])
   refine Zi (seg:=[vB x19]) (cs':=enc (s10.1.setIfInBounds (s10.2).toNat x19)) hE hM Za rfl rfl rfl ty5 rfl (ZN (v:=s10.1) (x:=x19) hi21.1) (Flat.cell (x19 : UInt8)) (ZD (v:=s10.1) (x:=x19) hi21.1) fun w a hM hE=>Zk (Yj (ZG (wp_region_lit (Zc hE Za ld rfl fun a hE=>Zm hE Za ld rfl rfl rfl fun a hE=>Ze hE Za ld rfl fun a hE=>Zk (Zn ?_)))))
   have hM:=((hM.pull (pre:=[_,_])).pull (pre:=[_])).pull (pre:=[_,_])
   exact ⟨_,(ois hs11),hE.sub ⟨rfl,rfl,rfl,rfl,trivial⟩,hM⟩
  ·intro hb14
   have hs11:=ZA hs11 hb14
   refine wp_exit (Zs (Zs (Yz ?_)))
   have ht24:=hx12 _ (ois hs11)
   subst ht24
   refine Zn ?_
   have hM:=M.fst (l:=[_,_]) ((hM.pull (pre:=[_])).pull (pre:=[_]))
   exact ⟨hE.sub ⟨rfl,rfl,trivial⟩,hM⟩
 ·skip
  rintro a w ⟨hE,hM⟩
  refine ZG (Zd (Zj (cs:=enc j7) hE Za ld rfl Zw rfl (hM.rawAt (pre:=[_])) (Flat.len _) fun a hE=>Zi (seg:=enc j7) (cs':=enc j7) hE hM Za rfl rfl rfl Zw (Flat.len _) (zle flq) (Flat.cell _) (Zg flq) fun w a hM hE=>Zf ?_))
  have hr:=Option.some.inj hF9
  subst hr
  have hq25 : ZY Try.prog _ _ (.cell 4 62) _:=ZM hE rfl Zw rfl (hM.rawAt (pre:=[])) (Flat.len _) rfl
  have hM:=M.fst (l:=[]) hM
  exact wp_ret (ZK hE rfl hq25 ⟨_,rfl,rfl,hM.kept⟩)
def YP (p0 : (Vector UInt8 16)) (p1 : (Vector UInt8 16)) (s12 : (Vector UInt8 16) × Int) : Option (Fl ((Vector UInt8 16) × Int) (Vector UInt8 16)) :=
 if (decide (s12.2 < 16)) = true then ((ZI p0 s12.2).bind fun x18=>(ZI p1 (bI x18)).bind fun x21=>(ZI s12.1 s12.2).bind fun x24=>some (Fl.nx ((s12.1.setIfInBounds (s12.2).toNat x21),wr (s12.2 + 1)))) else (some (Fl.ex s12.1))
def Wb (p0 : (Vector UInt8 16)) (p1 : (Vector UInt8 16)) : Option ((Vector UInt8 16)) :=
 (ZQ (YP p0 p1) ((Vector.replicate 16 (0 : UInt8)),0)).bind fun j9=>some j9
theorem Kl (w0 : World) (p0 : (Vector UInt8 16)) (p1 : (Vector UInt8 16)) (r : (Vector UInt8 16)) (hF : Wb p0 p1 = some r) :
  Calls Try.prog 155 [(Value.agg (enc p0).toArray),(Value.agg (enc p1).toArray)].toArray w0 (fun en w'=>∃ v,en = .returned v ∧ (v = (Value.agg (enc r).toArray) ∧ Kept (Old w0) w0 w')):=by
 refine ZJ (n:=20) Try.func155 rfl rfl (nbl rfl) rfl ?_
 intro a hE
 have hM:=M.start w0
 unfold Wb at hF
 refine Zd (Z3 (cs:=enc p0) hE hM Za ld rfl rfl fun b1 w a hM hE=>Z3 (cs:=enc p1) hE hM Za ld rfl rfl fun b3 w a hM hE=>Zu hE hM Za ld Zw fun b5 w a hM hE=>Zf (Zd (Z7 (parts:=[]) (vs:=[]) (cs:=enc (Vector.replicate 16 (0 : UInt8))) hE Za ld rfl rfl Zw rfl ty5 ZZ fun a hE=>Zu hE hM Za ld Zw fun b7 w a hM hE=>Zi (seg:=enc (Vector.replicate 16 (0 : UInt8))) (cs':=enc (Vector.replicate 16 (0 : UInt8))) hE hM Za rfl rfl rfl Zw (Flat.len _) (zle flq) (Flat.cell _) (Zg flq) fun w a hM hE=>Zf (wp_seq (Zd (Ze hE Za ld rfl fun a hE=>Zf ?_))))))
 obtain ⟨j9,hl10,hF11⟩:=bind_some hF
 refine Z0 (fun a w=>Env 20 a [(4,(ptr b5 0)),(5,(ptr b7 0))] ∧ M (Old w0) w0 w [raw b7 (enc j9),raw b5 (enc (Vector.replicate 16 (0 : UInt8)))]) ?_ ?_
 ·skip
  refine wp_block ?_
  refine ZV (fun (s12 : (Vector UInt8 16) × Int) a w=>Env 20 a [(2,(ptr b1 0)),(3,(ptr b3 0)),(4,(ptr b5 0)),(5,(ptr b7 0)),(6,vI s12.2)] ∧ M (Old w0) w0 w [raw b7 (enc s12.1),raw b5 (enc (Vector.replicate 16 (0 : UInt8))),raw b3 (enc p1),raw b1 (enc p0)]) hl10 ⟨hE.sub ⟨rfl,rfl,rfl,rfl,rfl,trivial⟩,hM⟩ ?_
  rintro s12 a w ⟨hE,hM⟩ o15 hs13 hx14
  unfold YP at hs13
  refine wp_seq (Zd (Zc hE Za ld rfl fun a hE=>Zm hE Za ld rfl rfl rfl fun a hE=>Zf ?_))
  refine Zv hE rfl ?_ ?_
  ·intro hb16
   have hs13:=ZB hs13 hb16
   refine wp_skip (ZG (wp_seq (wp_block (wp_region_lit (Zc hE Za ld rfl fun a hE=>Zc hE Za ld rfl ?_))))); intro a hE
   obtain ⟨x18,hi17,hs13⟩:=bvx hs13
   refine Zh hE Za ld rfl rfl Try.underlying59 ty5 hi17.1 fun a hE=>ZF (v:=(vB x18)) hE Za ld rfl ty5 rfl (At.vec (hM.rawAt (pre:=[_,_,_])) hi17.2) ?_; intro a hE
   obtain ⟨x21,hi20,hs13⟩:=bvx hs13
   refine Zh hE Za ld rfl rfl Try.underlying62 ty5 hi20.1 fun a hE=>ZF (v:=(vB x21)) hE Za ld rfl ty5 rfl (At.vec (hM.rawAt (pre:=[_,_])) hi20.2) ?_; intro a hE
   obtain ⟨x24,hi23,hs13⟩:=bvx hs13
   refine Zh hE Za ld rfl rfl Try.underlying62 ty5 hi23.1 fun a hE=>Zi (seg:=[vB x21]) (cs':=enc (s12.1.setIfInBounds (s12.2).toNat x21)) hE hM Za rfl rfl rfl ty5 rfl (ZN (v:=s12.1) (x:=x21) hi23.1) (Flat.cell (x21 : UInt8)) (ZD (v:=s12.1) (x:=x21) hi23.1) fun w a hM hE=>Zk (Yj (ZG (wp_region_lit (Zc hE Za ld rfl fun a hE=>Zm hE Za ld rfl rfl rfl fun a hE=>Ze hE Za ld rfl fun a hE=>Zk (Zn ?_)))))
   exact ⟨_,(ois hs13),hE.sub ⟨rfl,rfl,rfl,rfl,rfl,trivial⟩,hM⟩
  ·intro hb16
   have hs13:=ZA hs13 hb16
   refine wp_exit (Zs (Zs (Yz ?_)))
   have ht26:=hx14 _ (ois hs13)
   subst ht26
   refine Zn ?_
   have hM:=M.fst (l:=[_,_]) ((hM.pull (pre:=[_])).pull (pre:=[_]))
   exact ⟨hE.sub ⟨rfl,rfl,trivial⟩,hM⟩
 ·skip
  rintro a w ⟨hE,hM⟩
  refine ZG (Zd (Zj (cs:=enc j9) hE Za ld rfl Zw rfl (hM.rawAt (pre:=[])) (Flat.len _) ?_)); intro a hE
  have hM:=hM.pull (pre:=[_])
  refine Zi (seg:=enc j9) (cs':=enc j9) hE hM Za rfl rfl rfl Zw (Flat.len _) (zle flq) (Flat.cell _) (Zg flq) fun w a hM hE=>Zf ?_
  have hr:=Option.some.inj hF11
  subst hr
  have hq27 : ZY Try.prog _ _ (.cell 4 62) _:=ZM hE rfl Zw rfl (hM.rawAt (pre:=[])) (Flat.len _) rfl
  have hM:=M.fst (l:=[]) hM
  exact wp_ret (ZK hE rfl hq27 ⟨_,rfl,rfl,hM.kept⟩)
def Wf (p0 : Int) (p1 : (Vector (Vector UInt8 4) 4)) (p2 : (Vector UInt8 16)) (s12 : (Vector UInt8 16) × Int) (s20 : (Vector UInt8 16) × Int) (s28 : (Vector UInt8 16) × Int) : Option (Fl ((Vector UInt8 16) × Int) (Vector UInt8 16)) :=
 if (decide (s28.2 < 4)) = true then ((ZI s28.1 (wr ((wr (4 * s12.2)) + s20.2))).bind fun x35=>(ZI p1 s20.2).bind fun x38=>(ZI x38 s28.2).bind fun x41=>(ZI p2 (wr ((wr (4 * s12.2)) + s28.2))).bind fun x44=>(Yd p0 x41 x44).bind fun r46=>(ZI s28.1 (wr ((wr (4 * s12.2)) + s20.2))).bind fun x49=>some (Fl.nx ((s28.1.setIfInBounds ((wr ((wr (4 * s12.2)) + s20.2))).toNat (x35 ^^^ r46)),wr (s28.2 + 1)))) else (some (Fl.ex s28.1))
def Vk (p0 : Int) (p1 : (Vector (Vector UInt8 4) 4)) (p2 : (Vector UInt8 16)) (s12 : (Vector UInt8 16) × Int) (s20 : (Vector UInt8 16) × Int) : Option (Fl ((Vector UInt8 16) × Int) (Vector UInt8 16)) :=
 if (decide (s20.2 < 4)) = true then ((ZQ (Wf p0 p1 p2 s12 s20) (s20.1,0)).bind fun j25=>some (Fl.nx (j25,wr (s20.2 + 1)))) else (some (Fl.ex s20.1))
def Vu (p0 : Int) (p1 : (Vector (Vector UInt8 4) 4)) (p2 : (Vector UInt8 16)) (s12 : (Vector UInt8 16) × Int) : Option (Fl ((Vector UInt8 16) × Int) (Vector UInt8 16)) :=
 if (decide (s12.2 < 4)) = true then ((ZQ (Vk p0 p1 p2 s12) (s12.1,0)).bind fun j17=>some (Fl.nx (j17,wr (s12.2 + 1)))) else (some (Fl.ex s12.1))
def VY (p0 : Int) (p1 : (Vector (Vector UInt8 4) 4)) (p2 : (Vector UInt8 16)) : Option ((Vector UInt8 16)) :=
 (ZQ (Vu p0 p1 p2) ((Vector.replicate 16 (0 : UInt8)),0)).bind fun j9=>some j9
theorem KQ (w0 : World) (p0 : Int) (p1 : (Vector (Vector UInt8 4) 4)) (p2 : (Vector UInt8 16)) (r : (Vector UInt8 16)) (hF : VY p0 p1 p2 = some r) :
  Calls Try.prog 157 [vI p0,(Value.agg (enc p1).toArray),(Value.agg (enc p2).toArray)].toArray w0 (fun en w'=>∃ v,en = .returned v ∧ (v = (Value.agg (enc r).toArray) ∧ Kept (Old w0) w0 w')):=by
 refine ZJ (n:=50) Try.func157 rfl rfl (nbl rfl) rfl ?_
 intro a hE
 have hM:=M.start w0
 unfold VY at hF
 refine Zd (Z3 (cs:=enc p1) hE hM Za ld rfl rfl fun b1 w a hM hE=>Z3 (cs:=enc p2) hE hM Za ld rfl rfl fun b3 w a hM hE=>Zu hE hM Za ld Zw fun b5 w a hM hE=>Zf (Zd (Z7 (parts:=[]) (vs:=[]) (cs:=enc (Vector.replicate 16 (0 : UInt8))) hE Za ld rfl rfl Zw rfl ty5 ZZ fun a hE=>Zu hE hM Za ld Zw fun b7 w a hM hE=>Zi (seg:=enc (Vector.replicate 16 (0 : UInt8))) (cs':=enc (Vector.replicate 16 (0 : UInt8))) hE hM Za rfl rfl rfl Zw (Flat.len _) (zle flq) (Flat.cell _) (Zg flq) fun w a hM hE=>Zf (wp_seq (Zd (Ze hE Za ld rfl fun a hE=>Zf ?_))))))
 obtain ⟨j9,hl10,hF11⟩:=bind_some hF
 refine Z0 (fun a w=>Env 50 a [(6,(ptr b5 0)),(7,(ptr b7 0))] ∧ M (Old w0) w0 w [raw b7 (enc j9),raw b5 (enc (Vector.replicate 16 (0 : UInt8)))]) ?_ ?_
 ·skip
  refine wp_block ?_
  refine ZV (fun (s12 : (Vector UInt8 16) × Int) a w=>Env 50 a [(0,vI p0),(4,(ptr b1 0)),(5,(ptr b3 0)),(6,(ptr b5 0)),(7,(ptr b7 0)),(8,vI s12.2)] ∧ M (Old w0) w0 w [raw b7 (enc s12.1),raw b5 (enc (Vector.replicate 16 (0 : UInt8))),raw b3 (enc p2),raw b1 (enc p1)]) hl10 ⟨hE.sub ⟨rfl,rfl,rfl,rfl,rfl,rfl,trivial⟩,hM⟩ ?_
  rintro s12 a w ⟨hE,hM⟩ o15 hs13 hx14
  unfold Vu at hs13
  refine wp_seq (Zd (Zc hE Za ld rfl fun a hE=>Zm hE Za ld rfl rfl rfl fun a hE=>Zf ?_))
  refine Zv hE rfl ?_ ?_
  ·intro hb16
   have hs13:=ZB hs13 hb16
   refine wp_skip (ZG (wp_seq (wp_block (Zd (Ze hE Za ld rfl fun a hE=>Zf ?_)))))
   obtain ⟨j17,hl18,hF19⟩:=bind_some hs13
   refine Z0 (fun a w=>Env 50 a [(0,vI p0),(4,(ptr b1 0)),(5,(ptr b3 0)),(6,(ptr b5 0)),(7,(ptr b7 0)),(8,vI s12.2)] ∧ M (Old w0) w0 w [raw b7 (enc j17),raw b5 (enc (Vector.replicate 16 (0 : UInt8))),raw b3 (enc p2),raw b1 (enc p1)]) ?_ ?_
   ·skip
    refine wp_block ?_
    refine ZV (fun (s20 : (Vector UInt8 16) × Int) a w=>Env 50 a [(0,vI p0),(4,(ptr b1 0)),(5,(ptr b3 0)),(6,(ptr b5 0)),(7,(ptr b7 0)),(8,vI s12.2),(9,vI s20.2)] ∧ M (Old w0) w0 w [raw b7 (enc s20.1),raw b5 (enc (Vector.replicate 16 (0 : UInt8))),raw b3 (enc p2),raw b1 (enc p1)]) hl18 ⟨hE.sub ⟨rfl,rfl,rfl,rfl,rfl,rfl,rfl,trivial⟩,hM⟩ ?_
    rintro s20 a w ⟨hE,hM⟩ o23 hs21 hx22
    unfold Vk at hs21
    refine wp_seq (Zd (Zc hE Za ld rfl fun a hE=>Zm hE Za ld rfl rfl rfl fun a hE=>Zf ?_))
    refine Zv hE rfl ?_ ?_
    ·intro hb24
     have hs21:=ZB hs21 hb24
     refine wp_skip (ZG (wp_seq (wp_block (Zd (Ze hE Za ld rfl fun a hE=>Zf ?_)))))
     obtain ⟨j25,hl26,hF27⟩:=bind_some hs21
     refine Z0 (fun a w=>Env 50 a [(0,vI p0),(4,(ptr b1 0)),(5,(ptr b3 0)),(6,(ptr b5 0)),(7,(ptr b7 0)),(8,vI s12.2),(9,vI s20.2)] ∧ M (Old w0) w0 w [raw b7 (enc j25),raw b5 (enc (Vector.replicate 16 (0 : UInt8))),raw b3 (enc p2),raw b1 (enc p1)]) ?_ ?_
     ·skip
      refine wp_block ?_
      refine ZV (fun (s28 : (Vector UInt8 16) × Int) a w=>Env 50 a [(0,vI p0),(4,(ptr b1 0)),(5,(ptr b3 0)),(6,(ptr b5 0)),(7,(ptr b7 0)),(8,vI s12.2),(9,vI s20.2),(10,vI s28.2)] ∧ M (Old w0) w0 w [raw b7 (enc s28.1),raw b5 (enc (Vector.replicate 16 (0 : UInt8))),raw b3 (enc p2),raw b1 (enc p1)]) hl26 ⟨hE.sub ⟨rfl,rfl,rfl,rfl,rfl,rfl,rfl,rfl,trivial⟩,hM⟩ ?_
      rintro s28 a w ⟨hE,hM⟩ o31 hs29 hx30
      unfold Wf at hs29
      refine wp_seq (Zd (Zc hE Za ld rfl fun a hE=>Zm hE Za ld rfl rfl rfl fun a hE=>Zf ?_))
      refine Zv hE rfl ?_ ?_
      ·intro hb32
       have hs29:=ZB hs29 hb32
       refine wp_skip (ZG (wp_seq (wp_block ?_)))
       obtain ⟨x35,hi34,hs29⟩:=bvx hs29
       obtain ⟨x38,hi37,hs29⟩:=bvx hs29
       obtain ⟨x41,hi40,hs29⟩:=bvx hs29
       obtain ⟨x44,hi43,hs29⟩:=bvx hs29
       obtain ⟨r46,e47,hs29⟩:=bind_some hs29
       obtain ⟨x49,hi48,hs29⟩:=bvx hs29
       refine Yw (n:=50) (hd:=[_,_,_,_,_,_,_,_,_,_,_,_,_,_,_,_,_,_,_,_,_,_,_,_,_]) (tl:=[_]) YS rfl rfl [24,25,26,27,28,29,30,31,32,33,34,35,36,37,38,39,40,41,42,43,44,45,46,47,48] (by decide) (fun w=>M (Old w0) w0 w [raw b7 (enc s28.1),raw b5 (enc (Vector.replicate 16 (0 : UInt8))),raw b3 (enc p2),raw b1 (enc p1)]) (fun j=>([fun v _=>v = (vI s12.2),fun v _=>v = (vI (wr (4 * s12.2))),fun v _=>v = (vI s20.2),fun v _=>v = (vI (wr ((wr (4 * s12.2)) + s20.2))),fun v _=>v = (vI s12.2),fun v _=>v = (vI (wr (4 * s12.2))),fun v _=>v = (vI s20.2),fun v _=>v = (vI (wr ((wr (4 * s12.2)) + s20.2))),fun v _=>v = (ptr b7 (0 + ((wr ((wr (4 * s12.2)) + s20.2))).toNat * 1)),fun v _=>v = (vB x35),fun v _=>v = (vI p0),fun v _=>v = (vI s20.2),fun v _=>v = (vI s28.2),fun v _=>v = (ptr b1 (0 + (s20.2).toNat * 4)),fun v _=>v = (ptr b1 (0 + (s20.2).toNat * 4 + (s28.2).toNat * 1)),fun v _=>v = (vB x41),fun v _=>v = (vI s12.2),fun v _=>v = (vI (wr (4 * s12.2))),fun v _=>v = (vI s28.2),fun v _=>v = (vI (wr ((wr (4 * s12.2)) + s28.2))),fun v _=>v = (ptr b3 (0 + ((wr ((wr (4 * s12.2)) + s28.2))).toNat * 1)),fun v _=>v = (vB x44),fun v _=>v = (vB r46),fun v _=>v = (vB (x35 ^^^ r46)),fun v _=>v = (ptr b7 (0 + ((wr ((wr (4 * s12.2)) + s20.2))).toNat * 1))] : List (Value → World → Prop)).getD j (fun _ _=>True)) (fun _ _ h hk=>h.keep hk) (gup (Zp (Zp (Zp (Zp (Zp (Zp (Zp (Zp (Zp (Zp (Zp (Zp (Zp (Zp (Zp (Zp (Zp (Zp (Zp (Zp (Zp (Zp (Zp (Zp (Zp Vq)))))))))))))))))))))))))) hE hM.drew (ZS (Zb ?_ (Zb ?_ (Zb ?_ (Zb ?_ (Zb ?_ (Zb ?_ (Zb ?_ (Zb ?_ (Zb ?_ (Zb ?_ (Zb ?_ (Zb ?_ (Zb ?_ (Zb ?_ (Zb ?_ (Zb ?_ (Zb ?_ (Zb ?_ (Zb ?_ (Zb ?_ (Zb ?_ (Zb ?_ (Zb ?_ (Zb ?_ (Zb ?_ ZL)))))))))))))))))))))))))) ?_
       ·exact fun a w ux33 hE hM hp=>Zc hE Za ld rfl fun a hE=>⟨Kept.refl _ _,_,_,rfl,hE,rfl⟩
       ·intro a w ux33 hE hM hp
        have f0 : ux33 0 = (vI s12.2):=hp 0 _ rfl rfl
        exact Zm hE Za ld rfl (lk rfl f0) rfl fun a hE=>⟨Kept.refl _ _,_,_,rfl,hE,rfl⟩
       ·exact fun a w ux33 hE hM hp=>Zc hE Za ld rfl fun a hE=>⟨Kept.refl _ _,_,_,rfl,hE,rfl⟩
       ·intro a w ux33 hE hM hp
        have f1 : ux33 1 = (vI (wr (4 * s12.2))):=hp 0 _ rfl rfl
        have f2 : ux33 2 = (vI s20.2):=hp 1 _ rfl rfl
        exact Zm hE Za ld (lk rfl f1) (lk rfl f2) rfl fun a hE=>⟨Kept.refl _ _,_,_,rfl,hE,rfl⟩
       ·exact fun a w ux33 hE hM hp=>Zc hE Za ld rfl fun a hE=>⟨Kept.refl _ _,_,_,rfl,hE,rfl⟩
       ·intro a w ux33 hE hM hp
        have f4 : ux33 4 = (vI s12.2):=hp 0 _ rfl rfl
        exact Zm hE Za ld rfl (lk rfl f4) rfl fun a hE=>⟨Kept.refl _ _,_,_,rfl,hE,rfl⟩
       ·exact fun a w ux33 hE hM hp=>Zc hE Za ld rfl fun a hE=>⟨Kept.refl _ _,_,_,rfl,hE,rfl⟩
       ·intro a w ux33 hE hM hp
        have f5 : ux33 5 = (vI (wr (4 * s12.2))):=hp 0 _ rfl rfl
        have f6 : ux33 6 = (vI s20.2):=hp 1 _ rfl rfl
        exact Zm hE Za ld (lk rfl f5) (lk rfl f6) rfl fun a hE=>⟨Kept.refl _ _,_,_,rfl,hE,rfl⟩
       ·intro a w ux33 hE hM hp
        have f7 : ux33 7 = (vI (wr ((wr (4 * s12.2)) + s20.2))):=hp 0 _ rfl rfl
        exact Zh hE Za ld rfl (lk rfl f7) Try.underlying62 ty5 hi34.1 fun a hE=>⟨Kept.refl _ _,_,_,rfl,hE,rfl⟩
       ·intro a w ux33 hE hM hp
        have f8 : ux33 8 = (ptr b7 (0 + ((wr ((wr (4 * s12.2)) + s20.2))).toNat * 1)):=hp 0 _ rfl rfl
        exact ZF (v:=(vB x35)) hE Za ld (lk rfl f8) ty5 rfl (At.vec (hM.rawAt (pre:=[])) hi34.2) fun a hE=>⟨Kept.refl _ _,_,_,rfl,hE,rfl⟩
       ·exact fun a w ux33 hE hM hp=>Zc hE Za ld rfl fun a hE=>⟨Kept.refl _ _,_,_,rfl,hE,rfl⟩
       ·exact fun a w ux33 hE hM hp=>Zc hE Za ld rfl fun a hE=>⟨Kept.refl _ _,_,_,rfl,hE,rfl⟩
       ·exact fun a w ux33 hE hM hp=>Zc hE Za ld rfl fun a hE=>⟨Kept.refl _ _,_,_,rfl,hE,rfl⟩
       ·intro a w ux33 hE hM hp
        have f11 : ux33 11 = (vI s20.2):=hp 0 _ rfl rfl
        exact Zh hE Za ld rfl (lk rfl f11) Try.underlying57 Yr hi37.1 fun a hE=>⟨Kept.refl _ _,_,_,rfl,hE,rfl⟩
       ·intro a w ux33 hE hM hp
        have f12 : ux33 12 = (vI s28.2):=hp 1 _ rfl rfl
        have f13 : ux33 13 = (ptr b1 (0 + (s20.2).toNat * 4)):=hp 0 _ rfl rfl
        exact Zh hE Za ld (lk rfl f13) (lk rfl f12) Try.underlying55 ty5 hi40.1 fun a hE=>⟨Kept.refl _ _,_,_,rfl,hE,rfl⟩
       ·intro a w ux33 hE hM hp
        have f14 : ux33 14 = (ptr b1 (0 + (s20.2).toNat * 4 + (s28.2).toNat * 1)):=hp 0 _ rfl rfl
        exact ZF (v:=(vB x41)) hE Za ld (lk rfl f14) ty5 rfl (At.vec (At.vec (hM.rawAt (pre:=[_,_,_])) hi37.2) hi40.2) fun a hE=>⟨Kept.refl _ _,_,_,rfl,hE,rfl⟩
       ·exact fun a w ux33 hE hM hp=>Zc hE Za ld rfl fun a hE=>⟨Kept.refl _ _,_,_,rfl,hE,rfl⟩
       ·intro a w ux33 hE hM hp
        have f16 : ux33 16 = (vI s12.2):=hp 0 _ rfl rfl
        exact Zm hE Za ld rfl (lk rfl f16) rfl fun a hE=>⟨Kept.refl _ _,_,_,rfl,hE,rfl⟩
       ·exact fun a w ux33 hE hM hp=>Zc hE Za ld rfl fun a hE=>⟨Kept.refl _ _,_,_,rfl,hE,rfl⟩
       ·intro a w ux33 hE hM hp
        have f17 : ux33 17 = (vI (wr (4 * s12.2))):=hp 0 _ rfl rfl
        have f18 : ux33 18 = (vI s28.2):=hp 1 _ rfl rfl
        exact Zm hE Za ld (lk rfl f17) (lk rfl f18) rfl fun a hE=>⟨Kept.refl _ _,_,_,rfl,hE,rfl⟩
       ·intro a w ux33 hE hM hp
        have f19 : ux33 19 = (vI (wr ((wr (4 * s12.2)) + s28.2))):=hp 0 _ rfl rfl
        exact Zh hE Za ld rfl (lk rfl f19) Try.underlying62 ty5 hi43.1 fun a hE=>⟨Kept.refl _ _,_,_,rfl,hE,rfl⟩
       ·intro a w ux33 hE hM hp
        have f20 : ux33 20 = (ptr b3 (0 + ((wr ((wr (4 * s12.2)) + s28.2))).toNat * 1)):=hp 0 _ rfl rfl
        exact ZF (v:=(vB x44)) hE Za ld (lk rfl f20) ty5 rfl (At.vec (hM.rawAt (pre:=[_,_])) hi43.2) fun a hE=>⟨Kept.refl _ _,_,_,rfl,hE,rfl⟩
       ·intro a w ux33 hE hM hp
        have f10 : ux33 10 = (vI p0):=hp 0 _ rfl rfl
        have f15 : ux33 15 = (vB x41):=hp 1 _ rfl rfl
        have f21 : ux33 21 = (vB x44):=hp 2 _ rfl rfl
        refine Zo hE Za ld (Z1 (ZX (lk rfl f10) (ZX (lk rfl f15) (ZX (lk rfl f21) Xg)))) KP (YO _ p0 x41 x44 r46 e47) ?_
        rintro v w a ⟨rfl,hK⟩ hE
        exact ⟨hK,_,_,rfl,hE,rfl⟩
       ·intro a w ux33 hE hM hp
        have f9 : ux33 9 = (vB x35):=hp 0 _ rfl rfl
        have f22 : ux33 22 = (vB r46):=hp 1 _ rfl rfl
        exact Zm hE Za ld (lk rfl f9) (lk rfl f22) (Ug x35 r46) fun a hE=>⟨Kept.refl _ _,_,_,rfl,hE,rfl⟩
       ·intro a w ux33 hE hM hp
        have f3 : ux33 3 = (vI (wr ((wr (4 * s12.2)) + s20.2))):=hp 0 _ rfl rfl
        exact Zh hE Za ld rfl (lk rfl f3) Try.underlying62 ty5 hi48.1 fun a hE=>⟨Kept.refl _ _,_,_,rfl,hE,rfl⟩
       ·intro a w ux33 hE hM hg
        have hE:=hE.sub (e':=[(47,(vB (x35 ^^^ r46))),(48,(ptr b7 (0 + ((wr ((wr (4 * s12.2)) + s20.2))).toNat * 1))),(0,vI p0),(4,(ptr b1 0)),(5,(ptr b3 0)),(6,(ptr b5 0)),(7,(ptr b7 0)),(8,vI s12.2),(9,vI s20.2),(10,vI s28.2),(20,vI s28.2),(21,(vT (decide (s28.2 < 4))))]) ⟨lk rfl (hg 23 (by decide)),lk rfl (hg 24 (by decide)),rfl,rfl,rfl,rfl,rfl,rfl,rfl,rfl,rfl,rfl,trivial⟩
        refine Zi (seg:=[(vB (x35 ^^^ r46))]) (cs':=enc (s28.1.setIfInBounds ((wr ((wr (4 * s12.2)) + s20.2))).toNat (x35 ^^^ r46))) hE hM Za rfl rfl rfl ty5 rfl (ZN (v:=s28.1) (x:=x35 ^^^ r46) hi48.1) (Flat.cell (x35 ^^^ r46 : UInt8)) (ZD (v:=s28.1) (x:=x35 ^^^ r46) hi48.1) fun w a hM hE=>Zk (Yj (ZG (wp_region_lit (Zc hE Za ld rfl fun a hE=>Zm hE Za ld rfl rfl rfl fun a hE=>Ze hE Za ld rfl fun a hE=>Zk (Zn ?_)))))
        exact ⟨_,(ois hs29),hE.sub ⟨rfl,rfl,rfl,rfl,rfl,rfl,rfl,rfl,trivial⟩,hM⟩
      ·intro hb32
       have hs29:=ZA hs29 hb32
       refine wp_exit (Zs (Zs (Yz ?_)))
       have ht51:=hx30 _ (ois hs29)
       subst ht51
       refine Zn ?_
       exact ⟨hE.sub ⟨rfl,rfl,rfl,rfl,rfl,rfl,rfl,trivial⟩,hM⟩
     ·skip
      rintro a w ⟨hE,hM⟩
      refine Yj (ZG (wp_region_lit (Zc hE Za ld rfl fun a hE=>Zm hE Za ld rfl rfl rfl fun a hE=>Ze hE Za ld rfl fun a hE=>Zk (Zn ?_))))
      exact ⟨_,(ois hF27),hE.sub ⟨rfl,rfl,rfl,rfl,rfl,rfl,rfl,trivial⟩,hM⟩
    ·intro hb24
     have hs21:=ZA hs21 hb24
     refine wp_exit (Zs (Zs (Yz ?_)))
     have ht52:=hx22 _ (ois hs21)
     subst ht52
     refine Zn ?_
     exact ⟨hE.sub ⟨rfl,rfl,rfl,rfl,rfl,rfl,trivial⟩,hM⟩
   ·skip
    rintro a w ⟨hE,hM⟩
    refine Yj (ZG (wp_region_lit (Zc hE Za ld rfl fun a hE=>Zm hE Za ld rfl rfl rfl fun a hE=>Ze hE Za ld rfl fun a hE=>Zk (Zn ?_))))
    exact ⟨_,(ois hF19),hE.sub ⟨rfl,rfl,rfl,rfl,rfl,rfl,trivial⟩,hM⟩
  ·intro hb16
   have hs13:=ZA hs13 hb16
   refine wp_exit (Zs (Zs (Yz ?_)))
   have ht53:=hx14 _ (ois hs13)
   subst ht53
   refine Zn ?_
   have hM:=M.fst (l:=[_,_]) ((hM.pull (pre:=[_])).pull (pre:=[_]))
   exact ⟨hE.sub ⟨rfl,rfl,trivial⟩,hM⟩
 ·skip
  rintro a w ⟨hE,hM⟩
  refine ZG (Zd (Zj (cs:=enc j9) hE Za ld rfl Zw rfl (hM.rawAt (pre:=[])) (Flat.len _) ?_)); intro a hE
  have hM:=hM.pull (pre:=[_])
  refine Zi (seg:=enc j9) (cs':=enc j9) hE hM Za rfl rfl rfl Zw (Flat.len _) (zle flq) (Flat.cell _) (Zg flq) fun w a hM hE=>Zf ?_
  have hr:=Option.some.inj hF11
  subst hr
  have hq54 : ZY Try.prog _ _ (.cell 6 62) _:=ZM hE rfl Zw rfl (hM.rawAt (pre:=[])) (Flat.len _) rfl
  have hM:=M.fst (l:=[]) hM
  exact wp_ret (ZK hE rfl hq54 ⟨_,rfl,rfl,hM.kept⟩)
def Xq (p0 : GCipher) (p3 : Int) (r9 : (List (Vector UInt8 16))) (s25 : (Vector UInt8 16) × Int) : Option (Fl ((Vector UInt8 16) × Int) (Vector UInt8 16)) :=
 if (decide (s25.2 ≤ p3)) = true then ((((WV p0.Box s25.1).bind fun r37=>(Wb p0.Places r37).bind fun r39=>some r39 : Option ((Vector UInt8 16))).bind fun j33=>(if (decide (s25.2 < p3)) = true then ((VY p0.Field p0.Mix j33).bind fun r46=>some r46) else (some j33) : Option ((Vector UInt8 16))).bind fun j42=>(idx r9 s25.2).bind fun x51=>(Wr j42 x51).bind fun r54=>some r54 : Option ((Vector UInt8 16))).bind fun j30=>some (Fl.nx (j30,wr (s25.2 + 1)))) else (some (Fl.ex s25.1))
def Yk (p0 : GCipher) (p1 : (Vector UInt8 16)) (p2 : (Vector UInt8 16)) (p3 : Int) : Option ((Vector UInt8 16)) :=
 (Vv p0 p1 p3).bind fun r9=>((idx r9 (0 : Int)).bind fun x16=>(Wr p2 x16).bind fun r19=>some r19 : Option ((Vector UInt8 16))).bind fun j12=>(ZQ (Xq p0 p3 r9) (j12,1)).bind fun j22=>some j22
theorem VJ (w0 : World) (p0 : GCipher) (p1 : (Vector UInt8 16)) (p2 : (Vector UInt8 16)) (p3 : Int) (r : (Vector UInt8 16)) (hF : Yk p0 p1 p2 p3 = some r) :
  Calls Try.prog 92 [(Value.agg (enc p0).toArray),(Value.agg (enc p1).toArray),(Value.agg (enc p2).toArray),vI p3].toArray w0 (fun en w'=>∃ v,en = .returned v ∧ (v = (Value.agg (enc r).toArray) ∧ Kept (Old w0) w0 w')):=by
 refine ZJ (n:=48) Try.func92 rfl rfl (nbl rfl) rfl ?_
 intro a hE
 have hM:=M.start w0
 unfold Yk at hF
 refine Zd (Z3 (cs:=cat [[vI p0.Field],enc p0.Box,enc p0.Mix,enc p0.Places,[vI p0.Rounds]]) hE hM Za ld rfl rfl fun b1 w a hM hE=>Z3 (cs:=enc p1) hE hM Za ld rfl rfl fun b3 w a hM hE=>Z3 (cs:=enc p2) hE hM Za ld rfl rfl fun b5 w a hM hE=>Zu hE hM Za ld Zw fun b7 w a hM hE=>Zf (Zd (Zj (cs:=enc p0) hE Za ld rfl Z8 rfl (hM.rawAt (pre:=[_,_,_])) (Zl (cl1 (n:=1) (m:=289) rfl (cl1 (n:=256) (m:=33) (Flat.len _) (cl1 (n:=16) (m:=17) (Flat.len _) (cl1 (n:=16) (m:=1) (Flat.len _) (cl1 (n:=1) (m:=0) rfl cl0)))))) fun a hE=>Zj (cs:=enc p1) hE Za ld rfl Zw rfl (hM.rawAt (pre:=[_,_])) (Flat.len _) fun a hE=>Zc hE Za ld rfl ?_))); intro a hE
 obtain ⟨r9,e10,hF⟩:=bind_some hF
 refine Zo hE Za ld rfl cb153 (Ko _ p0 p1 p3 r9 e10) ?_
 rintro u11 w a ⟨_,rfl,hFr,hK⟩ hE
 have hM:=hM.add hK hFr
 refine Ze hE Za ld rfl fun a hE=>Zf ?_
 obtain ⟨j12,hl13,hF14⟩:=bind_some hF
 refine ZT (fun a w=>Env 48 a [(3,vI p3),(4,(ptr b1 0)),(6,(ptr b5 0)),(8,(ptr b7 0)),(9,u11)] ∧ M (Old w0) w0 w [osl NoB (r9 : List (Vector UInt8 16)) u11,raw b7 (enc (Vector.replicate 16 (0 : UInt8))),raw b5 (enc j12),raw b1 (cat [[vI p0.Field],enc p0.Box,enc p0.Mix,enc p0.Places,[vI p0.Rounds]])]) ?_ ?_
 ·skip
  obtain ⟨x16,hi18,hl13⟩:=bix hl13
  obtain ⟨r19,e20,hl13⟩:=bind_some hl13
  refine Yw (n:=48) (hd:=[_,_,_,_,_]) (tl:=[_]) YS rfl rfl [15,16,17,18,19] (by decide) (fun w=>M (Old w0) w0 w [osl NoB (r9 : List (Vector UInt8 16)) u11,raw b7 (enc (Vector.replicate 16 (0 : UInt8))),raw b5 (enc p2),raw b3 (enc p1),raw b1 (cat [[vI p0.Field],enc p0.Box,enc p0.Mix,enc p0.Places,[vI p0.Rounds]])]) (fun j=>([fun v _=>v = (Value.agg (enc p2).toArray),fun v _=>v = u11,fun v _=>v = (ptr (sb u11) (so u11 + ((0 : Int)).toNat * 16)),fun v _=>v = (Value.agg (enc x16).toArray),fun v _=>v = (Value.agg (enc r19).toArray)] : List (Value → World → Prop)).getD j (fun _ _=>True)) (fun _ _ h hk=>h.keep hk) (gup (Zp (Zp (Zp (Zp (Zp Vq)))))) hE hM.drew (ZS (Zb ?_ (Zb ?_ (Zb ?_ (Zb ?_ (Zb ?_ ZL)))))) ?_
  ·exact fun a w ux15 hE hM hp=>Zj (cs:=enc p2) hE Za ld rfl Zw rfl (hM.rawAt (pre:=[_,_])) (Flat.len _) fun a hE=>⟨Kept.refl _ _,_,_,rfl,hE,rfl⟩
  ·exact fun a w ux15 hE hM hp=>Zc hE Za ld rfl fun a hE=>⟨Kept.refl _ _,_,_,rfl,hE,rfl⟩
  ·intro a w ux15 hE hM hp
   have f1 : ux15 1 = u11:=hp 0 _ rfl rfl
   exact Yv hE Za ld (lk rfl f1) rfl Try.underlying136 Zw (hM.sl (pre:=[]) noB) hi18.1 fun a hE=>⟨Kept.refl _ _,_,_,rfl,hE,rfl⟩
  ·intro a w ux15 hE hM hp
   have f2 : ux15 2 = (ptr (sb u11) (so u11 + ((0 : Int)).toNat * 16)):=hp 0 _ rfl rfl
   exact Zj (cs:=enc x16) hE Za ld (lk rfl f2) Zw rfl (X9 (hM.sl (pre:=[]) noB) hi18.2) (Flat.len _) fun a hE=>⟨Kept.refl _ _,_,_,rfl,hE,rfl⟩
  ·intro a w ux15 hE hM hp
   have f0 : ux15 0 = (Value.agg (enc p2).toArray):=hp 0 _ rfl rfl
   have f3 : ux15 3 = (Value.agg (enc x16).toArray):=hp 1 _ rfl rfl
   refine Zo hE Za ld (Z1 (ZX (lk rfl f0) (ZX (lk rfl f3) Xg))) z8 (Tp _ p2 x16 r19 e20) ?_
   rintro v w a ⟨rfl,hK⟩ hE
   exact ⟨hK,_,_,rfl,hE,rfl⟩
  ·intro a w ux15 hE hM hg
   have hE:=hE.sub (e':=[(19,(Value.agg (enc r19).toArray)),(3,vI p3),(4,(ptr b1 0)),(6,(ptr b5 0)),(8,(ptr b7 0)),(9,u11)]) ⟨lk rfl (hg 4 (by decide)),rfl,rfl,rfl,rfl,rfl,trivial⟩
   have hM:=hM.pull (pre:=[_,_])
   refine Zi (seg:=enc r19) (cs':=enc r19) hE hM Za rfl rfl rfl Zw (Flat.len _) (zle flq) (Flat.cell _) (Zg flq) fun w a hM hE=>Zk ?_
   have ht21:=Option.some.inj hl13
   subst ht21
   refine Zn ?_
   have hM:=M.fst (l:=[_,_,_,_]) ((((hM.pull (pre:=[_,_,_,_])).pull (pre:=[_])).pull (pre:=[_,_,_])).pull (pre:=[_,_,_]))
   exact ⟨hE.sub ⟨rfl,rfl,rfl,rfl,rfl,trivial⟩,hM⟩
 ·skip
  rintro a w ⟨hE,hM⟩
  refine wp_seq (Zd (Ze hE Za ld rfl fun a hE=>Zf ?_))
  obtain ⟨j22,hl23,hF24⟩:=bind_some hF14
  refine Z0 (fun a w=>Env 48 a [(6,(ptr b5 0)),(8,(ptr b7 0))] ∧ M (Old w0) w0 w [raw b7 (enc (Vector.replicate 16 (0 : UInt8))),raw b5 (enc j22)]) ?_ ?_
  ·skip
   refine wp_block ?_
   refine ZV (fun (s25 : (Vector UInt8 16) × Int) a w=>Env 48 a [(3,vI p3),(4,(ptr b1 0)),(6,(ptr b5 0)),(8,(ptr b7 0)),(9,u11),(10,vI s25.2)] ∧ M (Old w0) w0 w [osl NoB (r9 : List (Vector UInt8 16)) u11,raw b7 (enc (Vector.replicate 16 (0 : UInt8))),raw b5 (enc s25.1),raw b1 (cat [[vI p0.Field],enc p0.Box,enc p0.Mix,enc p0.Places,[vI p0.Rounds]])]) hl23 ⟨hE.sub ⟨rfl,rfl,rfl,rfl,rfl,rfl,trivial⟩,hM⟩ ?_
   rintro s25 a w ⟨hE,hM⟩ o28 hs26 hx27
   unfold Xq at hs26
   refine wp_seq (Zd (Zc hE Za ld rfl fun a hE=>Zc hE Za ld rfl fun a hE=>Zm hE Za ld rfl rfl rfl fun a hE=>Zf ?_))
   refine Zv hE rfl ?_ ?_
   ·intro hb29
    have hs26:=ZB hs26 hb29
    refine wp_skip (ZG ?_)
    obtain ⟨j30,hl31,hF32⟩:=bind_some hs26
    refine ZT (fun a w=>Env 48 a [(3,vI p3),(4,(ptr b1 0)),(6,(ptr b5 0)),(8,(ptr b7 0)),(9,u11),(10,vI s25.2)] ∧ M (Old w0) w0 w [osl NoB (r9 : List (Vector UInt8 16)) u11,raw b7 (enc (Vector.replicate 16 (0 : UInt8))),raw b5 (enc j30),raw b1 (cat [[vI p0.Field],enc p0.Box,enc p0.Mix,enc p0.Places,[vI p0.Rounds]])]) ?_ ?_
    ·skip
     refine wp_block ?_
     obtain ⟨j33,hl34,hF35⟩:=bind_some hl31
     refine ZT (fun a w=>Env 48 a [(3,vI p3),(4,(ptr b1 0)),(6,(ptr b5 0)),(8,(ptr b7 0)),(9,u11),(10,vI s25.2)] ∧ M (Old w0) w0 w [osl NoB (r9 : List (Vector UInt8 16)) u11,raw b7 (enc (Vector.replicate 16 (0 : UInt8))),raw b5 (enc j33),raw b1 (cat [[vI p0.Field],enc p0.Box,enc p0.Mix,enc p0.Places,[vI p0.Rounds]])]) ?_ ?_
     ·skip
      obtain ⟨r37,e38,hl34⟩:=bind_some hl34
      obtain ⟨r39,e40,hl34⟩:=bind_some hl34
      refine Yw (n:=48) (hd:=[_,_,_,_,_,_,_]) (tl:=[_]) YS rfl rfl [25,26,27,28,29,30,31] (by decide) (fun w=>M (Old w0) w0 w [osl NoB (r9 : List (Vector UInt8 16)) u11,raw b7 (enc (Vector.replicate 16 (0 : UInt8))),raw b5 (enc s25.1),raw b1 (cat [[vI p0.Field],enc p0.Box,enc p0.Mix,enc p0.Places,[vI p0.Rounds]])]) (fun j=>([fun v _=>v = (ptr b1 (0 + 273)),fun v _=>v = (Value.agg (enc p0.Places).toArray),fun v _=>v = (ptr b1 (0 + 1)),fun v _=>v = (Value.agg (enc p0.Box).toArray),fun v _=>v = (Value.agg (enc s25.1).toArray),fun v _=>v = (Value.agg (enc r37).toArray),fun v _=>v = (Value.agg (enc r39).toArray)] : List (Value → World → Prop)).getD j (fun _ _=>True)) (fun _ _ h hk=>h.keep hk) (gup (Zp (Zp (Zp (Zp (Zp (Zp (Zp Vq)))))))) hE hM.drew (ZS (Zb ?_ (Zb ?_ (Zb ?_ (Zb ?_ (Zb ?_ (Zb ?_ (Zb ?_ ZL)))))))) ?_
      ·exact fun a w ux36 hE hM hp=>Zr hE Za ld rfl (U6) fun a hE=>⟨Kept.refl _ _,_,_,rfl,hE,rfl⟩
      ·intro a w ux36 hE hM hp
       have f0 : ux36 0 = (ptr b1 (0 + 273)):=hp 0 _ rfl rfl
       exact Zj (cs:=enc p0.Places) hE Za ld (lk rfl f0) UY rfl (At.cat (pre:=[[vI p0.Field],enc p0.Box,enc p0.Mix]) (hM.rawAt (pre:=[_,_,_])) (cl1 (n:=1) (m:=272) rfl (cl1 (n:=256) (m:=16) (Flat.len _) (cl1 (n:=16) (m:=0) (Flat.len _) cl0)))) (Flat.len _) fun a hE=>⟨Kept.refl _ _,_,_,rfl,hE,rfl⟩
      ·exact fun a w ux36 hE hM hp=>Zr hE Za ld rfl (TX) fun a hE=>⟨Kept.refl _ _,_,_,rfl,hE,rfl⟩
      ·intro a w ux36 hE hM hp
       have f2 : ux36 2 = (ptr b1 (0 + 1)):=hp 0 _ rfl rfl
       exact Zj (cs:=enc p0.Box) hE Za ld (lk rfl f2) YC rfl (At.cat (pre:=[[vI p0.Field]]) (hM.rawAt (pre:=[_,_,_])) (cl1 (n:=1) (m:=0) rfl cl0)) (Flat.len _) fun a hE=>⟨Kept.refl _ _,_,_,rfl,hE,rfl⟩
      ·exact fun a w ux36 hE hM hp=>Zj (cs:=enc s25.1) hE Za ld rfl Zw rfl (hM.rawAt (pre:=[_,_])) (Flat.len _) fun a hE=>⟨Kept.refl _ _,_,_,rfl,hE,rfl⟩
      ·intro a w ux36 hE hM hp
       have f3 : ux36 3 = (Value.agg (enc p0.Box).toArray):=hp 0 _ rfl rfl
       have f4 : ux36 4 = (Value.agg (enc s25.1).toArray):=hp 1 _ rfl rfl
       refine Zo hE Za ld (Z1 (ZX (lk rfl f3) (ZX (lk rfl f4) Xg))) cb156 (QP _ p0.Box s25.1 r37 e38) ?_
       rintro v w a ⟨rfl,hK⟩ hE
       exact ⟨hK,_,_,rfl,hE,rfl⟩
      ·intro a w ux36 hE hM hp
       have f1 : ux36 1 = (Value.agg (enc p0.Places).toArray):=hp 0 _ rfl rfl
       have f5 : ux36 5 = (Value.agg (enc r37).toArray):=hp 1 _ rfl rfl
       refine Zo hE Za ld (Z1 (ZX (lk rfl f1) (ZX (lk rfl f5) Xg))) cb155 (Kl _ p0.Places r37 r39 e40) ?_
       rintro v w a ⟨rfl,hK⟩ hE
       exact ⟨hK,_,_,rfl,hE,rfl⟩
      ·intro a w ux36 hE hM hg
       have hE:=hE.sub (e':=[(31,(Value.agg (enc r39).toArray)),(3,vI p3),(4,(ptr b1 0)),(6,(ptr b5 0)),(8,(ptr b7 0)),(9,u11),(10,vI s25.2),(20,vI s25.2),(21,vI p3),(22,(vT (decide (s25.2 ≤ p3))))]) ⟨lk rfl (hg 6 (by decide)),rfl,rfl,rfl,rfl,rfl,rfl,rfl,rfl,rfl,trivial⟩
       have hM:=hM.pull (pre:=[_,_])
       refine Zi (seg:=enc r39) (cs':=enc r39) hE hM Za rfl rfl rfl Zw (Flat.len _) (zle flq) (Flat.cell _) (Zg flq) fun w a hM hE=>Zk ?_
       have ht41:=Option.some.inj hl34
       subst ht41
       refine Zn ?_
       have hM:=(((hM.pull (pre:=[_,_,_])).pull (pre:=[_])).pull (pre:=[_,_,_])).pull (pre:=[_,_,_])
       exact ⟨hE.sub ⟨rfl,rfl,rfl,rfl,rfl,rfl,trivial⟩,hM⟩
     ·skip
      rintro a w ⟨hE,hM⟩
      obtain ⟨j42,hl43,hF44⟩:=bind_some hF35
      refine ZT (fun a w=>Env 48 a [(3,vI p3),(4,(ptr b1 0)),(6,(ptr b5 0)),(8,(ptr b7 0)),(9,u11),(10,vI s25.2)] ∧ M (Old w0) w0 w [osl NoB (r9 : List (Vector UInt8 16)) u11,raw b7 (enc (Vector.replicate 16 (0 : UInt8))),raw b5 (enc j42),raw b1 (cat [[vI p0.Field],enc p0.Box,enc p0.Mix,enc p0.Places,[vI p0.Rounds]])]) ?_ ?_
      ·skip
       refine Zd (Zc hE Za ld rfl fun a hE=>Zc hE Za ld rfl fun a hE=>Zm hE Za ld rfl rfl rfl fun a hE=>Zf ?_)
       refine Zv hE rfl ?_ ?_
       ·intro hb45
        have hl43:=ZB hl43 hb45
        refine wp_region_lit (Zr hE Za ld rfl (Tg) fun a hE=>ZF (v:=(vI p0.Field)) hE Za ld rfl ty2 rfl (At.cat (pre:=[]) (hM.rawAt (pre:=[_,_,_])) cl0) fun a hE=>Zr hE Za ld rfl (TF) fun a hE=>Zj (cs:=enc p0.Mix) hE Za ld rfl Y7 rfl (At.cat (pre:=[[vI p0.Field],enc p0.Box]) (hM.rawAt (pre:=[_,_,_])) (cl1 (n:=1) (m:=256) rfl (cl1 (n:=256) (m:=0) (Flat.len _) cl0))) (Flat.len _) fun a hE=>Zj (cs:=enc j33) hE Za ld rfl Zw rfl (hM.rawAt (pre:=[_,_])) (Flat.len _) ?_); intro a hE
        obtain ⟨r46,e47,hl43⟩:=bind_some hl43
        refine Zo hE Za ld rfl cb157 (KQ _ p0.Field p0.Mix j33 r46 e47) ?_
        rintro v w a ⟨rfl,hK⟩ hE
        have hM:=(hM.keep hK).pull (pre:=[_,_])
        refine Zi (seg:=enc r46) (cs':=enc r46) hE hM Za rfl rfl rfl Zw (Flat.len _) (zle flq) (Flat.cell _) (Zg flq) fun w a hM hE=>Zk ?_
        have ht48:=Option.some.inj hl43
        subst ht48
        refine Zn ?_
        have hM:=(((hM.pull (pre:=[_,_,_])).pull (pre:=[_])).pull (pre:=[_,_,_])).pull (pre:=[_,_,_])
        exact ⟨hE.sub ⟨rfl,rfl,rfl,rfl,rfl,rfl,trivial⟩,hM⟩
       ·intro hb45
        have hl43:=ZA hl43 hb45
        refine wp_skip ?_
        have ht49:=Option.some.inj hl43
        subst ht49
        refine Zn ?_
        exact ⟨hE.sub ⟨rfl,rfl,rfl,rfl,rfl,rfl,trivial⟩,hM⟩
      ·skip
       rintro a w ⟨hE,hM⟩
       obtain ⟨x51,hi53,hF44⟩:=bix hF44
       obtain ⟨r54,e55,hF44⟩:=bind_some hF44
       refine Yw (n:=48) (hd:=[_,_,_,_,_,_]) (tl:=[_]) YS rfl rfl [41,42,43,44,45,46] (by decide) (fun w=>M (Old w0) w0 w [osl NoB (r9 : List (Vector UInt8 16)) u11,raw b7 (enc (Vector.replicate 16 (0 : UInt8))),raw b5 (enc j42),raw b1 (cat [[vI p0.Field],enc p0.Box,enc p0.Mix,enc p0.Places,[vI p0.Rounds]])]) (fun j=>([fun v _=>v = (Value.agg (enc j42).toArray),fun v _=>v = u11,fun v _=>v = (vI s25.2),fun v _=>v = (ptr (sb u11) (so u11 + (s25.2).toNat * 16)),fun v _=>v = (Value.agg (enc x51).toArray),fun v _=>v = (Value.agg (enc r54).toArray)] : List (Value → World → Prop)).getD j (fun _ _=>True)) (fun _ _ h hk=>h.keep hk) (gup (Zp (Zp (Zp (Zp (Zp (Zp Vq))))))) hE hM.drew (ZS (Zb ?_ (Zb ?_ (Zb ?_ (Zb ?_ (Zb ?_ (Zb ?_ ZL))))))) ?_
       ·exact fun a w ux50 hE hM hp=>Zj (cs:=enc j42) hE Za ld rfl Zw rfl (hM.rawAt (pre:=[_,_])) (Flat.len _) fun a hE=>⟨Kept.refl _ _,_,_,rfl,hE,rfl⟩
       ·exact fun a w ux50 hE hM hp=>Zc hE Za ld rfl fun a hE=>⟨Kept.refl _ _,_,_,rfl,hE,rfl⟩
       ·exact fun a w ux50 hE hM hp=>Zc hE Za ld rfl fun a hE=>⟨Kept.refl _ _,_,_,rfl,hE,rfl⟩
       ·intro a w ux50 hE hM hp
        have f1 : ux50 1 = u11:=hp 0 _ rfl rfl
        have f2 : ux50 2 = (vI s25.2):=hp 1 _ rfl rfl
        exact Yv hE Za ld (lk rfl f1) (lk rfl f2) Try.underlying136 Zw (hM.sl (pre:=[]) noB) hi53.1 fun a hE=>⟨Kept.refl _ _,_,_,rfl,hE,rfl⟩
       ·intro a w ux50 hE hM hp
        have f3 : ux50 3 = (ptr (sb u11) (so u11 + (s25.2).toNat * 16)):=hp 0 _ rfl rfl
        exact Zj (cs:=enc x51) hE Za ld (lk rfl f3) Zw rfl (X9 (hM.sl (pre:=[]) noB) hi53.2) (Flat.len _) fun a hE=>⟨Kept.refl _ _,_,_,rfl,hE,rfl⟩
       ·intro a w ux50 hE hM hp
        have f0 : ux50 0 = (Value.agg (enc j42).toArray):=hp 0 _ rfl rfl
        have f4 : ux50 4 = (Value.agg (enc x51).toArray):=hp 1 _ rfl rfl
        refine Zo hE Za ld (Z1 (ZX (lk rfl f0) (ZX (lk rfl f4) Xg))) z8 (Tp _ j42 x51 r54 e55) ?_
        rintro v w a ⟨rfl,hK⟩ hE
        exact ⟨hK,_,_,rfl,hE,rfl⟩
       ·intro a w ux50 hE hM hg
        have hE:=hE.sub (e':=[(46,(Value.agg (enc r54).toArray)),(3,vI p3),(4,(ptr b1 0)),(6,(ptr b5 0)),(8,(ptr b7 0)),(9,u11),(10,vI s25.2)]) ⟨lk rfl (hg 5 (by decide)),rfl,rfl,rfl,rfl,rfl,rfl,trivial⟩
        have hM:=hM.pull (pre:=[_,_])
        refine Zi (seg:=enc r54) (cs':=enc r54) hE hM Za rfl rfl rfl Zw (Flat.len _) (zle flq) (Flat.cell _) (Zg flq) fun w a hM hE=>Zk (Yj ?_)
        have ht56:=Option.some.inj hF44
        subst ht56
        refine Zn ?_
        have hM:=(((hM.pull (pre:=[_,_,_])).pull (pre:=[_])).pull (pre:=[_,_,_])).pull (pre:=[_,_,_])
        exact ⟨hE.sub ⟨rfl,rfl,rfl,rfl,rfl,rfl,trivial⟩,hM⟩
    ·skip
     rintro a w ⟨hE,hM⟩
     refine wp_region_lit (Zc hE Za ld rfl fun a hE=>Zm hE Za ld rfl rfl rfl fun a hE=>Ze hE Za ld rfl fun a hE=>Zk (Zn ?_))
     exact ⟨_,(ois hF32),hE.sub ⟨rfl,rfl,rfl,rfl,rfl,rfl,trivial⟩,hM⟩
   ·intro hb29
    have hs26:=ZA hs26 hb29
    refine wp_exit (Zs (Zs (Yz ?_)))
    have ht57:=hx27 _ (ois hs26)
    subst ht57
    refine Zn ?_
    have hM:=M.fst (l:=[_,_]) ((hM.pull (pre:=[_,_])).pull (pre:=[_,_]))
    exact ⟨hE.sub ⟨rfl,rfl,trivial⟩,hM⟩
  ·skip
   rintro a w ⟨hE,hM⟩
   refine ZG (Zd (Zj (cs:=enc j22) hE Za ld rfl Zw rfl (hM.rawAt (pre:=[_])) (Flat.len _) fun a hE=>Zi (seg:=enc j22) (cs':=enc j22) hE hM Za rfl rfl rfl Zw (Flat.len _) (zle flq) (Flat.cell _) (Zg flq) fun w a hM hE=>Zf ?_))
   have hr:=Option.some.inj hF24
   subst hr
   have hq58 : ZY Try.prog _ _ (.cell 8 62) _:=ZM hE rfl Zw rfl (hM.rawAt (pre:=[])) (Flat.len _) rfl
   have hM:=M.fst (l:=[]) hM
   exact wp_ret (ZK hE rfl hq58 ⟨_,rfl,rfl,hM.kept⟩)
def Xa (p0 : GCipher) (p1 : Int) (p2 : Int) (p3 : (Vector UInt8 16)) : Option ((Vector UInt8 16) × Int) :=
 (VC p0).bind fun r7=>if (!r7) = true then (some ((Vector.replicate 16 (0 : UInt8)),1)) else (((Wq p1 0 255).bind fun r14=>if (!r14) = true then (some true) else ((Wq p2 0 255).bind fun r18=>some (!r18)) : Option (Bool)).bind fun j11=>if j11 = true then (some ((Vector.replicate 16 (0 : UInt8)),2)) else ((Yk p0 ((Vector.replicate 16 (0 : UInt8)).setIfInBounds 0 (ZE p1)) p3 p0.Rounds).bind fun r23=>(Yk p0 ((Vector.replicate 16 (0 : UInt8)).setIfInBounds 0 (ZE p2)) r23 p0.Rounds).bind fun r27=>some (r27,0)))
theorem Tw (w0 : World) (p0 : GCipher) (p1 : Int) (p2 : Int) (p3 : (Vector UInt8 16)) (r : (Vector UInt8 16) × Int) (hF : Xa p0 p1 p2 p3 = some r) :
  Calls Try.prog 29 [(Value.agg (enc p0).toArray),vI p1,vI p2,(Value.agg (enc p3).toArray)].toArray w0 (fun en w'=>∃ v,en = .returned v ∧ (v = (Value.tuple [(Value.agg (enc r.1).toArray),vI r.2].toArray) ∧ Kept (Old w0) w0 w')):=by
 refine ZJ (n:=42) Try.func29 rfl rfl (nbl rfl) rfl ?_
 intro a hE
 have hM:=M.start w0
 unfold Xa at hF
 refine Zd (Z3 (cs:=cat [[vI p0.Field],enc p0.Box,enc p0.Mix,enc p0.Places,[vI p0.Rounds]]) hE hM Za ld rfl rfl fun b1 w a hM hE=>Z3 (cs:=enc p3) hE hM Za ld rfl rfl fun b3 w a hM hE=>Zu hE hM Za ld Zw fun b5 w a hM hE=>Ze hE Za ld rfl fun a hE=>Zf (wp_seq (wp_block (Zd (Zj (cs:=enc p0) hE Za ld rfl Z8 rfl (hM.rawAt (pre:=[_,_])) (Zl (cl1 (n:=1) (m:=289) rfl (cl1 (n:=256) (m:=33) (Flat.len _) (cl1 (n:=16) (m:=17) (Flat.len _) (cl1 (n:=16) (m:=1) (Flat.len _) (cl1 (n:=1) (m:=0) rfl cl0)))))) ?_))))); intro a hE
 obtain ⟨r7,e8,hF⟩:=bind_some hF
 refine Zo hE Za ld rfl cb90 (QN _ p0 r7 e8) ?_
 rintro v w a ⟨rfl,hK⟩ hE
 have hM:=hM.keep hK
 refine UT hE Za ld rfl fun a hE=>Ze hE Za ld rfl fun a hE=>Zf ?_
 refine Zv hE rfl ?_ ?_
 ·intro hb9
  have hF:=ZB hF hb9
  refine Zd (Z7 (parts:=[]) (vs:=[]) (cs:=enc (Vector.replicate 16 (0 : UInt8))) hE Za ld rfl rfl Zw rfl ty5 ZZ fun a hE=>Zi (seg:=enc (Vector.replicate 16 (0 : UInt8))) (cs':=enc (Vector.replicate 16 (0 : UInt8))) hE hM Za rfl rfl rfl Zw (Flat.len _) (zle flq) (Flat.cell _) (Zg flq) fun w a hM hE=>Ze hE Za ld rfl fun a hE=>Zf ?_)
  have hr:=Option.some.inj hF
  subst hr
  have hq10 : ZY Try.prog _ _ (.cell 8 62) _:=ZM hE rfl Zw rfl (hM.rawAt (pre:=[])) (Flat.len _) rfl
  have hM:=M.fst (l:=[]) hM
  exact wp_ret (Y4 (ZP (VH hE rfl hq10 (Zx hE rfl) ⟨_,rfl,rfl,hM.kept⟩)))
 ·intro hb9
  have hF:=ZA hF hb9
  obtain ⟨j11,hl12,hF13⟩:=bind_some hF
  refine ZT (fun a w=>Env 42 a [(1,vI p1),(2,vI p2),(4,(ptr b1 0)),(7,(ptr b3 0)),(8,(ptr b5 0)),(16,vT j11)] ∧ M (Old w0) w0 w [raw b5 (enc (Vector.replicate 16 (0 : UInt8))),raw b3 (enc p3),raw b1 (cat [[vI p0.Field],enc p0.Box,enc p0.Mix,enc p0.Places,[vI p0.Rounds]])]) ?_ ?_
  ·skip
   refine wp_region_lit (Zc hE Za ld rfl ?_); intro a hE
   obtain ⟨r14,e15,hl12⟩:=bind_some hl12
   refine Zo hE Za ld rfl cb91 (UW _ p1 0 255 r14 e15) ?_
   rintro v w a ⟨rfl,hK⟩ hE
   have hM:=hM.keep hK
   refine UT hE Za ld rfl fun a hE=>Zc hE Za ld rfl ?_; intro a hE
   refine Xy (!r14) (fun hb16=>?_) (fun hb16=>?_)
   ·have hl12:=ZB hl12 hb16
    refine Zz hE rfl (lkb rfl hb16) rfl (by decide) fun a hE=>Zz hE rfl (lkb rfl hb16) rfl (by decide) fun a hE=>Zz hE rfl (lkb rfl hb16) rfl (by decide) fun a hE=>Yy hE Za ld (lkb rfl hb16) rfl fun a hE=>Ze hE Za ld rfl fun a hE=>Zk ?_
    have ht17:=Option.some.inj hl12
    subst ht17
    refine Zn ?_
    exact ⟨hE.sub ⟨rfl,rfl,rfl,rfl,rfl,rfl,trivial⟩,hM⟩
   ·have hl12:=ZA hl12 hb16
    refine Zc hE (Zt hE rfl (lkb rfl hb16)) (by decide) rfl ?_; intro a hE
    obtain ⟨r18,e19,hl12⟩:=bind_some hl12
    refine Zo hE (Zt hE rfl (lkb rfl hb16)) (by decide) rfl cb91 (UW _ p2 0 255 r18 e19) ?_
    rintro v w a ⟨rfl,hK⟩ hE
    have hM:=hM.keep hK
    refine UT hE (Zt hE rfl (lkb rfl hb16)) (by decide) rfl fun a hE=>Yh hE Za ld (lkb rfl hb16) rfl fun a hE=>Ze hE Za ld rfl fun a hE=>Zk ?_
    have ht20:=Option.some.inj hl12
    subst ht20
    refine Zn ?_
    exact ⟨hE.sub ⟨rfl,rfl,rfl,rfl,rfl,rfl,trivial⟩,hM⟩
  ·skip
   rintro a w ⟨hE,hM⟩
   refine Zv hE rfl ?_ ?_
   ·intro hb21
    have hF13:=ZB hF13 hb21
    refine Zd (Z7 (parts:=[]) (vs:=[]) (cs:=enc (Vector.replicate 16 (0 : UInt8))) hE Za ld rfl rfl Zw rfl ty5 ZZ fun a hE=>Zi (seg:=enc (Vector.replicate 16 (0 : UInt8))) (cs':=enc (Vector.replicate 16 (0 : UInt8))) hE hM Za rfl rfl rfl Zw (Flat.len _) (zle flq) (Flat.cell _) (Zg flq) fun w a hM hE=>Ze hE Za ld rfl fun a hE=>Zf ?_)
    have hr:=Option.some.inj hF13
    subst hr
    have hq22 : ZY Try.prog _ _ (.cell 8 62) _:=ZM hE rfl Zw rfl (hM.rawAt (pre:=[])) (Flat.len _) rfl
    have hM:=M.fst (l:=[]) hM
    exact wp_ret (Y4 (ZP (VH hE rfl hq22 (Zx hE rfl) ⟨_,rfl,rfl,hM.kept⟩)))
   ·intro hb21
    have hF13:=ZA hF13 hb21
    refine wp_skip (Yj (ZG (Zd (Zj (cs:=enc p0) hE Za ld rfl Z8 rfl (hM.rawAt (pre:=[_,_])) (Zl (cl1 (n:=1) (m:=289) rfl (cl1 (n:=256) (m:=33) (Flat.len _) (cl1 (n:=16) (m:=17) (Flat.len _) (cl1 (n:=16) (m:=1) (Flat.len _) (cl1 (n:=1) (m:=0) rfl cl0)))))) fun a hE=>Zc hE Za ld rfl fun a hE=>Yg hE Za ld rfl Try.underlying2 Try.underlying5 ?_)))); intro a hE
    rw [Z6] at hE
    refine Z7 (parts:=[(0,.tmp 28)]) (vs:=[(0,(vB (ZE p1)))]) (cs:=enc ((Vector.replicate 16 (0 : UInt8)).setIfInBounds 0 (ZE p1))) hE Za ld rfl rfl Zw rfl ty5 (Ye (v:=(Vector.replicate 16 (0 : UInt8))) (x:=ZE p1) rfl (by decide) rfl ZZ) fun a hE=>Zj (cs:=enc p3) hE Za ld rfl Zw rfl (hM.rawAt (pre:=[_])) (Flat.len _) fun a hE=>Zr hE Za ld rfl (UL) fun a hE=>ZF (v:=(vI p0.Rounds)) hE Za ld rfl ty2 rfl (At.cat (pre:=[[vI p0.Field],enc p0.Box,enc p0.Mix,enc p0.Places]) (hM.rawAt (pre:=[_,_])) (cl1 (n:=1) (m:=288) rfl (cl1 (n:=256) (m:=32) (Flat.len _) (cl1 (n:=16) (m:=16) (Flat.len _) (cl1 (n:=16) (m:=0) (Flat.len _) cl0))))) ?_; intro a hE
    obtain ⟨r23,e24,hF13⟩:=bind_some hF13
    refine Zo hE Za ld rfl cb92 (VJ _ p0 ((Vector.replicate 16 (0 : UInt8)).setIfInBounds 0 (ZE p1)) p3 p0.Rounds r23 e24) ?_
    rintro v w a ⟨rfl,hK⟩ hE
    have hM:=hM.keep hK
    refine Zu hE hM Za ld Zw fun b25 w a hM hE=>Zi (seg:=enc r23) (cs':=enc r23) hE hM Za rfl rfl rfl Zw (Flat.len _) (zle flq) (Flat.cell _) (Zg flq) fun w a hM hE=>Zf (Zd (Zj (cs:=enc p0) hE Za ld rfl Z8 rfl (hM.rawAt (pre:=[_,_,_])) (Zl (cl1 (n:=1) (m:=289) rfl (cl1 (n:=256) (m:=33) (Flat.len _) (cl1 (n:=16) (m:=17) (Flat.len _) (cl1 (n:=16) (m:=1) (Flat.len _) (cl1 (n:=1) (m:=0) rfl cl0)))))) fun a hE=>Zc hE Za ld rfl fun a hE=>Yg hE Za ld rfl Try.underlying2 Try.underlying5 ?_)); intro a hE
    rw [Z6] at hE
    refine Z7 (parts:=[(0,.tmp 36)]) (vs:=[(0,(vB (ZE p2)))]) (cs:=enc ((Vector.replicate 16 (0 : UInt8)).setIfInBounds 0 (ZE p2))) hE Za ld rfl rfl Zw rfl ty5 (Ye (v:=(Vector.replicate 16 (0 : UInt8))) (x:=ZE p2) rfl (by decide) rfl ZZ) fun a hE=>Zj (cs:=enc r23) hE Za ld rfl Zw rfl (hM.rawAt (pre:=[])) (Flat.len _) fun a hE=>Zr hE Za ld rfl (UL) fun a hE=>ZF (v:=(vI p0.Rounds)) hE Za ld rfl ty2 rfl (At.cat (pre:=[[vI p0.Field],enc p0.Box,enc p0.Mix,enc p0.Places]) (hM.rawAt (pre:=[_,_,_])) (cl1 (n:=1) (m:=288) rfl (cl1 (n:=256) (m:=32) (Flat.len _) (cl1 (n:=16) (m:=16) (Flat.len _) (cl1 (n:=16) (m:=0) (Flat.len _) cl0))))) ?_; intro a hE
    obtain ⟨r27,e28,hF13⟩:=bind_some hF13
    refine Zo hE Za ld rfl cb92 (VJ _ p0 ((Vector.replicate 16 (0 : UInt8)).setIfInBounds 0 (ZE p2)) r23 p0.Rounds r27 e28) ?_
    rintro v w a ⟨rfl,hK⟩ hE
    have hM:=(hM.keep hK).pull (pre:=[_])
    refine Zi (seg:=enc r27) (cs':=enc r27) hE hM Za rfl rfl rfl Zw (Flat.len _) (zle flq) (Flat.cell _) (Zg flq) fun w a hM hE=>Ze hE Za ld rfl fun a hE=>Zf ?_
    have hr:=Option.some.inj hF13
    subst hr
    have hq29 : ZY Try.prog _ _ (.cell 8 62) _:=ZM hE rfl Zw rfl (hM.rawAt (pre:=[])) (Flat.len _) rfl
    have hM:=M.fst (l:=[]) hM
    exact wp_ret (VH hE rfl hq29 (Zx hE rfl) ⟨_,rfl,rfl,hM.kept⟩)
def XB (p0 : (List UInt8)) : Option (GCipher × (Vector UInt8 16) × (Vector UInt8 16)) :=
 (Xk p0).bind fun r7=>(WJ p0).bind fun r11=>(ZC p0 (r7.1,r7.2) 256).bind fun r20=>(ZC p0 (r20.1.1,r20.1.2) 256).bind fun r22=>(Xa r11.1 r20.2 r22.2 r11.2.2.1).bind fun r24=>if (r24.2 == 0) = true then ((some (r11.1.Field,r11.1.Box,r11.1.Mix,r11.1.Places,r11.1.Rounds,r11.2.2.1,r24.1) : Option (Int × (Vector UInt8 256) × (Vector (Vector UInt8 4) 4) × (Vector UInt8 16) × Int × (Vector UInt8 16) × (Vector UInt8 16))).bind fun j33=>some ((⟨j33.1,j33.2.1,j33.2.2.1,j33.2.2.2.1,j33.2.2.2.2.1⟩ : GCipher),j33.2.2.2.2.2.1,j33.2.2.2.2.2.2)) else ((some (r11.1.Field,r11.1.Box,r11.1.Mix,r11.1.Places,r11.1.Rounds,r11.2.2.1,r11.2.1) : Option (Int × (Vector UInt8 256) × (Vector (Vector UInt8 4) 4) × (Vector UInt8 16) × Int × (Vector UInt8 16) × (Vector UInt8 16))).bind fun j41=>some ((⟨j41.1,j41.2.1,j41.2.2.1,j41.2.2.2.1,j41.2.2.2.2.1⟩ : GCipher),j41.2.2.2.2.2.1,j41.2.2.2.2.2.2))
theorem Q2 (w0 : World) (p0 : (List UInt8)) (v0_1 : Value) (hv0_1 : Ro w0 p0 [v0_1]) (r : GCipher × (Vector UInt8 16) × (Vector UInt8 16)) (hF : XB p0 = some r) :
  Calls Try.prog 30 [v0_1].toArray w0 (fun en w'=>∃ v,en = .returned v ∧ (v = (Value.tuple [(Value.agg (enc r.1).toArray),(Value.agg (enc r.2.1).toArray),(Value.agg (enc r.2.2).toArray)].toArray) ∧ Kept (Old w0) w0 w')):=by
 refine ZJ (n:=41) Try.func30 rfl rfl (nbl rfl) rfl ?_
 intro a hE
 have hM:=M.start w0
 unfold XB at hF
 refine Zd (Zu hE hM Za ld Z8 fun b1 w a hM hE=>Zu hE hM Za ld Zw fun b3 w a hM hE=>Zu hE hM Za ld Zw fun b5 w a hM hE=>Zf (Zd (Zc hE Za ld rfl ?_))); intro a hE
 have hM:=M.tailP (m:=[]) hM
 obtain ⟨r7,e8,hF⟩:=bind_some hF
 refine Zo hE Za ld rfl cb47 (V9 _ _ _ _ p0 v0_1 hv0_1 hM r7 e8) ?_
 rintro v w a ⟨b9,rfl,hM⟩ hE
 have hM:=M.tailU (m:=[_]) hM
 simp only [List.cons_append,List.nil_append] at hM
 refine Ze hE Za ld rfl fun a hE=>Zf (Zd (Zc hE Za ld rfl ?_)); intro a hE
 obtain ⟨r11,e12,hF⟩:=bind_some hF
 refine Zo hE Za ld rfl cb85 (TY _ p0 v0_1 (hM.rdo hv0_1) r11 e12) ?_
 rintro v w a ⟨rfl,hK⟩ hE
 have hM:=hM.keep hK
 refine Zc hE Za ld rfl fun a hE=>Zy hE Za ld rfl rfl fun a hE=>Zy hE Za ld rfl rfl fun a hE=>Zy hE Za ld rfl rfl fun a hE=>Zy hE Za ld rfl rfl fun a hE=>Zy hE Za ld rfl rfl fun a hE=>Zu hE hM Za ld Z8 fun b13 w a hM hE=>Zu hE hM Za ld Zw fun b15 w a hM hE=>Zu hE hM Za ld Zw ?_; intro b17 w a hM hE
 have hM:=hM.pull (pre:=[_,_])
 refine Zi (seg:=cat [[vI r11.1.Field],enc r11.1.Box,enc r11.1.Mix,enc r11.1.Places,[vI r11.1.Rounds]]) (cs':=cat [[vI r11.1.Field],enc r11.1.Box,enc r11.1.Mix,enc r11.1.Places,[vI r11.1.Rounds]]) hE hM Za rfl rfl rfl Z8 (Zl (cl1 (n:=1) (m:=289) rfl (cl1 (n:=256) (m:=33) (Flat.len _) (cl1 (n:=16) (m:=17) (Flat.len _) (cl1 (n:=16) (m:=1) (Flat.len _) (cl1 (n:=1) (m:=0) rfl cl0)))))) (Nat.le_of_eq ((Nat.zero_add _).trans (Eq.trans (Zl (cl1 (n:=1) (m:=289) rfl (cl1 (n:=256) (m:=33) (Flat.len _) (cl1 (n:=16) (m:=17) (Flat.len _) (cl1 (n:=16) (m:=1) (Flat.len _) (cl1 (n:=1) (m:=0) rfl cl0)))))) (Eq.symm (Zl (cl1 (n:=1) (m:=289) rfl (cl1 (n:=256) (m:=33) (Flat.len _) (cl1 (n:=16) (m:=17) (Flat.len _) (cl1 (n:=16) (m:=1) (Flat.len _) (cl1 (n:=1) (m:=0) rfl cl0)))))))))) (Yq (cc1 (Flat.cell (r11.1.Field : Int)) (cc1 (Flat.cell _) (cc1 (Flat.cell _) (cc1 (Flat.cell _) (cc1 (Flat.cell (r11.1.Rounds : Int)) cc0)))))) (Zg (Eq.trans (Zl (cl1 (n:=1) (m:=289) rfl (cl1 (n:=256) (m:=33) (Flat.len _) (cl1 (n:=16) (m:=17) (Flat.len _) (cl1 (n:=16) (m:=1) (Flat.len _) (cl1 (n:=1) (m:=0) rfl cl0)))))) (Eq.symm (Zl (cl1 (n:=1) (m:=289) rfl (cl1 (n:=256) (m:=33) (Flat.len _) (cl1 (n:=16) (m:=17) (Flat.len _) (cl1 (n:=16) (m:=1) (Flat.len _) (cl1 (n:=1) (m:=0) rfl cl0))))))))) ?_; intro w a hM hE
 have hM:=hM.pull (pre:=[_,_])
 refine Zi (seg:=enc r11.2.1) (cs':=enc r11.2.1) hE hM Za rfl rfl rfl Zw (Flat.len _) (zle flq) (Flat.cell _) (Zg flq) ?_; intro w a hM hE
 have hM:=hM.pull (pre:=[_,_])
 refine Zi (seg:=enc r11.2.2.1) (cs':=enc r11.2.2.1) hE hM Za rfl rfl rfl Zw (Flat.len _) (zle flq) (Flat.cell _) (Zg flq) fun w a hM hE=>Ze hE Za ld rfl fun a hE=>Ze hE Za ld rfl fun a hE=>Zf (wp_seq (wp_seq ?_))
 have hM:=hM.pull (pre:=[_,_,_])
 obtain ⟨r20,e21,hF⟩:=bind_some hF
 obtain ⟨r22,e23,hF⟩:=bind_some hF
 obtain ⟨r24,e25,hF⟩:=bind_some hF
 refine Vj (n:=41) (hd:=[_,_,_,_,_,_,_,_,_,_,_,_]) (tl:=[_]) YS rfl rfl [24,25,26,27,28,29,30,23,31,32,11,52] (by decide) (fun D u w=>M (Old w0) w0 w ([raw b17 (enc r11.2.2.1),raw b15 (enc r11.2.1),raw b13 (cat [[vI r11.1.Field],enc r11.1.Box,enc r11.1.Mix,enc r11.1.Places,[vI r11.1.Rounds]]),raw b5 (enc (Vector.replicate 16 (0 : UInt8))),raw b3 (enc (Vector.replicate 16 (0 : UInt8))),raw b1 (cat [[vI 0],enc (Vector.replicate 256 (0 : UInt8)),enc (Vector.replicate 4 (Vector.replicate 4 (0 : UInt8))),enc (Vector.replicate 16 (0 : UInt8)),[vI 0]])] ++ qL ([([2,4],fun bs _=>(tog (bs.getD 0 false) (raw b9 (cat [[v0_1],[vI r7.1],[(Value.int .u64 r7.2)]])) (tog (bs.getD 1 false) (raw b9 (cat [[v0_1],[vI r20.1.1],[(Value.int .u64 r20.1.2)]])) (raw b9 (cat [[v0_1],[vI r22.1.1],[(Value.int .u64 r22.1.2)]]))))),mkC 10 11 (enc (Vector.replicate 16 (0 : UInt8))) (enc r24.1)] : Mk) D u) ∧ GOk ([([],fun us v=>v = (Value.agg (enc r11.1).toArray)),([],fun us v=>v = (ptr b9 0)),([],fun us v=>v = (vI r20.2)),([],fun us v=>v = (ptr b9 0)),([],fun us v=>v = (vI r22.2)),([],fun us v=>v = (Value.agg (enc r11.2.2.1).toArray)),([],fun us v=>v = (Value.tuple [(Value.agg (enc r24.1).toArray),vI r24.2].toArray)),([],fun us v=>v = (Value.tuple [(Value.agg (enc r24.1).toArray),vI r24.2].toArray)),([],fun us v=>v = (Value.agg (enc r24.1).toArray)),([],fun us v=>v = (vI r24.2)),([],fun us v=>True),([],fun us v=>True)] : Gs) D u) hE (fun u=>⟨M.qS (M.qE (M.q0 hM.drew u) emC) fun _=>rfl,KH⟩) (ZS (Zb ?_ (Zb ?_ (Zb ?_ (Zb ?_ (Zb ?_ (Zb ?_ (Zb ?_ (Zb ?_ (Zb ?_ (Zb ?_ (Zb ?_ (Zb ?_ ZL))))))))))))) ?_
 ·intro a w ux19 D hE hI hD hdc hp
  have hM0:=hI.1
  have hM:=hI.1
  exact Zj (cs:=enc r11.1) hE Za ld rfl Z8 rfl (hM.rawAt (pre:=[_,_])) (Zl (cl1 (n:=1) (m:=289) rfl (cl1 (n:=256) (m:=33) (Flat.len _) (cl1 (n:=16) (m:=17) (Flat.len _) (cl1 (n:=16) (m:=1) (Flat.len _) (cl1 (n:=1) (m:=0) rfl cl0)))))) fun a hE=>⟨_,_,rfl,hE,M.qKeep hM0 rfl,hI.2.put hD rfl ZR rfl⟩
 ·intro a w ux19 D hE hI hD hdc hp
  have hM0:=hI.1
  exact Zc hE Za ld rfl fun a hE=>⟨_,_,rfl,hE,M.qKeep hM0 rfl,hI.2.put hD rfl ZR rfl⟩
 ·intro a w ux19 D hE hI hD hdc hp
  have d1 : D 1 = true:=hp 0 _ rfl rfl
  have g1:=hI.2 1 d1 _ rfl
  have f1 : ux19 1 = (ptr b9 0):=g1.2
  have hM0:=hI.1
  have hM : M (Old w0) w0 w [raw b17 (enc r11.2.2.1),raw b15 (enc r11.2.1),raw b13 (cat [[vI r11.1.Field],enc r11.1.Box,enc r11.1.Mix,enc r11.1.Places,[vI r11.1.Rounds]]),raw b5 (enc (Vector.replicate 16 (0 : UInt8))),raw b3 (enc (Vector.replicate 16 (0 : UInt8))),raw b1 (cat [[vI 0],enc (Vector.replicate 256 (0 : UInt8)),enc (Vector.replicate 4 (Vector.replicate 4 (0 : UInt8))),enc (Vector.replicate 16 (0 : UInt8)),[vI 0]]),tog (D 2) (raw b9 (cat [[v0_1],[vI r7.1],[(Value.int .u64 r7.2)]])) (tog (D 4) (raw b9 (cat [[v0_1],[vI r20.1.1],[(Value.int .u64 r20.1.2)]])) (raw b9 (cat [[v0_1],[vI r22.1.1],[(Value.int .u64 r22.1.2)]]))),T6 (D 10) (D 11) (ux19 10) (enc (Vector.replicate 16 (0 : UInt8))) (enc r24.1)]:=hI.1
  have hM:=hM.togA (pre:=[_,_,_,_,_,_]) hD
  have hNx : D 4 = false:=Bool.eq_false_iff.2 fun hx=>Bool.noConfusion (hD.symm.trans (hdc 4 _ _ rfl (List.mem_of_getElem? (i:=1) rfl) rfl hx))
  have hM:=M.tailP (m:=[_]) (hM.pull (pre:=[_,_,_,_,_,_]))
  refine Zo hE Za ld (Z1 (ZX (lk rfl f1) (ZX rfl Xg))) VD (ZH _ _ _ _ b9 p0 v0_1 hv0_1 (r7.1,r7.2) 256 hM r20 e21) ?_
  rintro v w a ⟨rfl,hM⟩ hE
  have hM:=M.tailU (m:=[_]) hM
  simp only [List.cons_append,List.nil_append] at hM
  exact ⟨_,_,rfl,hE,M.qTogS (p:=([2,4],fun bs _=>(tog (bs.getD 0 false) (raw b9 (cat [[v0_1],[vI r7.1],[(Value.int .u64 r7.2)]])) (tog (bs.getD 1 false) (raw b9 (cat [[v0_1],[vI r20.1.1],[(Value.int .u64 r20.1.2)]])) (raw b9 (cat [[v0_1],[vI r22.1.1],[(Value.int .u64 r22.1.2)]])))))) (mk1:=[]) (mk2:=[_]) hM rfl (by show tog (Yl D 2 2) (raw b9 (cat [[v0_1],[vI r7.1],[(Value.int .u64 r7.2)]])) (tog (Yl D 2 4) (raw b9 (cat [[v0_1],[vI r20.1.1],[(Value.int .u64 r20.1.2)]])) (raw b9 (cat [[v0_1],[vI r22.1.1],[(Value.int .u64 r22.1.2)]]))) = _; rw [tg1 KF,tg0 (Bx (i:=2) hNx (by decide))]),hI.2.put hD rfl ZR rfl⟩
 ·intro a w ux19 D hE hI hD hdc hp
  have hM0:=hI.1
  exact Zc hE Za ld rfl fun a hE=>⟨_,_,rfl,hE,M.qKeep hM0 rfl,hI.2.put hD rfl ZR rfl⟩
 ·intro a w ux19 D hE hI hD hdc hp
  have d3 : D 3 = true:=hp 0 _ rfl rfl
  have g3:=hI.2 3 d3 _ rfl
  have f3 : ux19 3 = (ptr b9 0):=g3.2
  have hM0:=hI.1
  have hM : M (Old w0) w0 w [raw b17 (enc r11.2.2.1),raw b15 (enc r11.2.1),raw b13 (cat [[vI r11.1.Field],enc r11.1.Box,enc r11.1.Mix,enc r11.1.Places,[vI r11.1.Rounds]]),raw b5 (enc (Vector.replicate 16 (0 : UInt8))),raw b3 (enc (Vector.replicate 16 (0 : UInt8))),raw b1 (cat [[vI 0],enc (Vector.replicate 256 (0 : UInt8)),enc (Vector.replicate 4 (Vector.replicate 4 (0 : UInt8))),enc (Vector.replicate 16 (0 : UInt8)),[vI 0]]),tog (D 2) (raw b9 (cat [[v0_1],[vI r7.1],[(Value.int .u64 r7.2)]])) (tog (D 4) (raw b9 (cat [[v0_1],[vI r20.1.1],[(Value.int .u64 r20.1.2)]])) (raw b9 (cat [[v0_1],[vI r22.1.1],[(Value.int .u64 r22.1.2)]]))),T6 (D 10) (D 11) (ux19 10) (enc (Vector.replicate 16 (0 : UInt8))) (enc r24.1)]:=hI.1
  have dC2 : D 2 = true:=hp 1 _ rfl rfl
  have hM:=M.tailP (m:=[_]) (((hM.togB (pre:=[_,_,_,_,_,_]) dC2).togA (pre:=[_,_,_,_,_,_]) hD).pull (pre:=[_,_,_,_,_,_]))
  refine Zo hE Za ld (Z1 (ZX (lk rfl f3) (ZX rfl Xg))) VD (ZH _ _ _ _ b9 p0 v0_1 hv0_1 (r20.1.1,r20.1.2) 256 hM r22 e23) ?_
  rintro v w a ⟨rfl,hM⟩ hE
  have hM:=M.tailU (m:=[_]) hM
  simp only [List.cons_append,List.nil_append] at hM
  exact ⟨_,_,rfl,hE,M.qTogS (p:=([2,4],fun bs _=>(tog (bs.getD 0 false) (raw b9 (cat [[v0_1],[vI r7.1],[(Value.int .u64 r7.2)]])) (tog (bs.getD 1 false) (raw b9 (cat [[v0_1],[vI r20.1.1],[(Value.int .u64 r20.1.2)]])) (raw b9 (cat [[v0_1],[vI r22.1.1],[(Value.int .u64 r22.1.2)]])))))) (mk1:=[]) (mk2:=[_]) hM rfl (by show tog (Yl D 4 2) (raw b9 (cat [[v0_1],[vI r7.1],[(Value.int .u64 r7.2)]])) (tog (Yl D 4 4) (raw b9 (cat [[v0_1],[vI r20.1.1],[(Value.int .u64 r20.1.2)]])) (raw b9 (cat [[v0_1],[vI r22.1.1],[(Value.int .u64 r22.1.2)]]))) = _; rw [tg1 (K8 dC2),tg1 KF]),hI.2.put hD rfl ZR rfl⟩
 ·intro a w ux19 D hE hI hD hdc hp
  have hM0:=hI.1
  have hM:=hI.1
  exact Zj (cs:=enc r11.2.2.1) hE Za ld rfl Zw rfl (hM.rawAt (pre:=[])) (Flat.len _) fun a hE=>⟨_,_,rfl,hE,M.qKeep hM0 rfl,hI.2.put hD rfl ZR rfl⟩
 ·intro a w ux19 D hE hI hD hdc hp
  have d0 : D 0 = true:=hp 0 _ rfl rfl
  have g0:=hI.2 0 d0 _ rfl
  have f0 : ux19 0 = (Value.agg (enc r11.1).toArray):=g0.2
  have d2 : D 2 = true:=hp 1 _ rfl rfl
  have g2:=hI.2 2 d2 _ rfl
  have f2 : ux19 2 = (vI r20.2):=g2.2
  have d4 : D 4 = true:=hp 2 _ rfl rfl
  have g4:=hI.2 4 d4 _ rfl
  have f4 : ux19 4 = (vI r22.2):=g4.2
  have d5 : D 5 = true:=hp 3 _ rfl rfl
  have g5:=hI.2 5 d5 _ rfl
  have f5 : ux19 5 = (Value.agg (enc r11.2.2.1).toArray):=g5.2
  have hM0:=hI.1
  refine Zo hE Za ld (Z1 (ZX (lk rfl f0) (ZX (lk rfl f2) (ZX (lk rfl f4) (ZX (lk rfl f5) Xg))))) cb29 (Tw _ r11.1 r20.2 r22.2 r11.2.2.1 r24 e25) ?_
  rintro v w a ⟨rfl,hK⟩ hE
  exact ⟨_,_,rfl,hE,M.qKeep (hM0.keep hK) rfl,hI.2.put hD rfl ZR rfl⟩
 ·intro a w ux19 D hE hI hD hdc hp
  have d6 : D 6 = true:=hp 0 _ rfl rfl
  have g6:=hI.2 6 d6 _ rfl
  have f6 : ux19 6 = (Value.tuple [(Value.agg (enc r24.1).toArray),vI r24.2].toArray):=g6.2
  have hM0:=hI.1
  exact Zc hE Za ld (lk rfl f6) fun a hE=>⟨_,_,rfl,hE,M.qKeep hM0 rfl,hI.2.put hD rfl ZR rfl⟩
 ·intro a w ux19 D hE hI hD hdc hp
  have d7 : D 7 = true:=hp 0 _ rfl rfl
  have g7:=hI.2 7 d7 _ rfl
  have f7 : ux19 7 = (Value.tuple [(Value.agg (enc r24.1).toArray),vI r24.2].toArray):=g7.2
  have hM0:=hI.1
  exact Zy hE Za ld (lk rfl f7) rfl fun a hE=>⟨_,_,rfl,hE,M.qKeep hM0 rfl,hI.2.put hD rfl ZR rfl⟩
 ·intro a w ux19 D hE hI hD hdc hp
  have d7 : D 7 = true:=hp 0 _ rfl rfl
  have g7:=hI.2 7 d7 _ rfl
  have f7 : ux19 7 = (Value.tuple [(Value.agg (enc r24.1).toArray),vI r24.2].toArray):=g7.2
  have hM0:=hI.1
  exact Zy hE Za ld (lk rfl f7) rfl fun a hE=>⟨_,_,rfl,hE,M.qKeep hM0 rfl,hI.2.put hD rfl ZR rfl⟩
 ·intro a w ux19 D hE hI hD hdc hp
  have hM0:=hI.1
  have hM:=hI.1
  refine Zu hE hM Za ld Zw ?_; intro b26 w a hM hE
  have hs : D 11 = false:=Bool.eq_false_iff.2 fun hx=>Bool.noConfusion (hD.symm.trans (hdc 11 _ _ rfl (List.mem_of_getElem? (i:=0) rfl) rfl hx))
  exact ⟨_,_,rfl,hE,M.qAlloc (mk1:=[_]) (mk2:=[]) hM rfl hD hs (by decide),hI.2.put hD rfl ZR trivial⟩
 ·intro a w ux19 D hE hI hD hdc hp
  have d10 : D 10 = true:=hp 0 _ rfl rfl
  have d8 : D 8 = true:=hp 1 _ rfl rfl
  have g8:=hI.2 8 d8 _ rfl
  have f8 : ux19 8 = (Value.agg (enc r24.1).toArray):=g8.2
  have hM0:=hI.1
  have hM : M (Old w0) w0 w [raw b17 (enc r11.2.2.1),raw b15 (enc r11.2.1),raw b13 (cat [[vI r11.1.Field],enc r11.1.Box,enc r11.1.Mix,enc r11.1.Places,[vI r11.1.Rounds]]),raw b5 (enc (Vector.replicate 16 (0 : UInt8))),raw b3 (enc (Vector.replicate 16 (0 : UInt8))),raw b1 (cat [[vI 0],enc (Vector.replicate 256 (0 : UInt8)),enc (Vector.replicate 4 (Vector.replicate 4 (0 : UInt8))),enc (Vector.replicate 16 (0 : UInt8)),[vI 0]]),tog (D 2) (raw b9 (cat [[v0_1],[vI r7.1],[(Value.int .u64 r7.2)]])) (tog (D 4) (raw b9 (cat [[v0_1],[vI r20.1.1],[(Value.int .u64 r20.1.2)]])) (raw b9 (cat [[v0_1],[vI r22.1.1],[(Value.int .u64 r22.1.2)]]))),T6 (D 10) (D 11) (ux19 10) (enc (Vector.replicate 16 (0 : UInt8))) (enc r24.1)]:=hI.1
  obtain ⟨b28,hb29,hM⟩:=M.openCell (pre:=[_,_,_,_,_,_,_]) hM d10
  rw [hD,if_neg (by decide)] at hM
  exact Zi (seg:=enc r24.1) (cs':=enc r24.1) hE hM Za (lk rfl hb29) (lk rfl f8) rfl Zw (Flat.len _) (zle flq) (Flat.cell _) (Zg flq) fun w a hM hE=>⟨undef,_,rfl,Env.dummy hE (by decide),M.qStore (i:=10) (mk1:=[_]) (mk2:=[]) hM rfl d10 hb29 (by decide),hI.2.put hD rfl ZR trivial⟩
 ·intro a w ux19 D hE hI hall
  have hM : M (Old w0) w0 w [raw b17 (enc r11.2.2.1),raw b15 (enc r11.2.1),raw b13 (cat [[vI r11.1.Field],enc r11.1.Box,enc r11.1.Mix,enc r11.1.Places,[vI r11.1.Rounds]]),raw b5 (enc (Vector.replicate 16 (0 : UInt8))),raw b3 (enc (Vector.replicate 16 (0 : UInt8))),raw b1 (cat [[vI 0],enc (Vector.replicate 256 (0 : UInt8)),enc (Vector.replicate 4 (Vector.replicate 4 (0 : UInt8))),enc (Vector.replicate 16 (0 : UInt8)),[vI 0]]),tog (D 2) (raw b9 (cat [[v0_1],[vI r7.1],[(Value.int .u64 r7.2)]])) (tog (D 4) (raw b9 (cat [[v0_1],[vI r20.1.1],[(Value.int .u64 r20.1.2)]])) (raw b9 (cat [[v0_1],[vI r22.1.1],[(Value.int .u64 r22.1.2)]]))),T6 (D 10) (D 11) (ux19 10) (enc (Vector.replicate 16 (0 : UInt8))) (enc r24.1)]:=hI.1
  have d0 : D 0 = true:=hall 0 (by decide)
  have d1 : D 1 = true:=hall 1 (by decide)
  have d2 : D 2 = true:=hall 2 (by decide)
  have d3 : D 3 = true:=hall 3 (by decide)
  have d4 : D 4 = true:=hall 4 (by decide)
  have d5 : D 5 = true:=hall 5 (by decide)
  have d6 : D 6 = true:=hall 6 (by decide)
  have d7 : D 7 = true:=hall 7 (by decide)
  have d8 : D 8 = true:=hall 8 (by decide)
  have d9 : D 9 = true:=hall 9 (by decide)
  have d10 : D 10 = true:=hall 10 (by decide)
  have d11 : D 11 = true:=hall 11 (by decide)
  have f0 : ux19 0 = (Value.agg (enc r11.1).toArray):=(hI.2 0 d0 _ rfl).2
  have f1 : ux19 1 = (ptr b9 0):=(hI.2 1 d1 _ rfl).2
  have f2 : ux19 2 = (vI r20.2):=(hI.2 2 d2 _ rfl).2
  have f3 : ux19 3 = (ptr b9 0):=(hI.2 3 d3 _ rfl).2
  have f4 : ux19 4 = (vI r22.2):=(hI.2 4 d4 _ rfl).2
  have f5 : ux19 5 = (Value.agg (enc r11.2.2.1).toArray):=(hI.2 5 d5 _ rfl).2
  have f6 : ux19 6 = (Value.tuple [(Value.agg (enc r24.1).toArray),vI r24.2].toArray):=(hI.2 6 d6 _ rfl).2
  have f7 : ux19 7 = (Value.tuple [(Value.agg (enc r24.1).toArray),vI r24.2].toArray):=(hI.2 7 d7 _ rfl).2
  have f8 : ux19 8 = (Value.agg (enc r24.1).toArray):=(hI.2 8 d8 _ rfl).2
  have f9 : ux19 9 = (vI r24.2):=(hI.2 9 d9 _ rfl).2
  have hM:=(hM.togB (pre:=[_,_,_,_,_,_]) d2).togB (pre:=[_,_,_,_,_,_]) d4
  obtain ⟨b30,f31,hM⟩:=M.openCell (pre:=[_,_,_,_,_,_,_]) hM d10
  rw [if_pos d11] at hM
  have hE:=hE.sub (e':=[(32,vI r24.2),(11,(ptr b30 0)),(2,(ptr b1 0)),(3,(ptr b3 0)),(4,(ptr b5 0)),(6,(ptr b13 0)),(7,(ptr b15 0)),(8,(ptr b17 0))]) ⟨lk rfl f9,lk rfl f31,rfl,rfl,rfl,rfl,rfl,rfl,trivial⟩
  refine Ze hE Za ld rfl fun a hE=>Zk (ZG (Zd (Zc hE Za ld rfl fun a hE=>Zm hE Za ld rfl rfl rfl fun a hE=>Zf ?_)))
  refine Zv hE rfl ?_ ?_
  ·intro hb32
   have hF:=ZB hF hb32
   obtain ⟨j33,hl34,hF35⟩:=bind_some hF
   refine ZT (fun a w=>Env 41 a [(2,(ptr b1 0)),(3,(ptr b3 0)),(4,(ptr b5 0))] ∧ M (Old w0) w0 w [raw b5 (enc j33.2.2.2.2.2.2),raw b3 (enc j33.2.2.2.2.2.1),raw b1 (cat [[vI j33.1],enc j33.2.1,enc j33.2.2.1,enc j33.2.2.2.1,[vI j33.2.2.2.2.1]])]) ?_ ?_
   ·skip
    have hM:=(hM.pull (pre:=[_,_,_,_,_,_])).pull (pre:=[_,_,_,_,_,_])
    refine Vj (n:=41) (hd:=[_,_,_,_,_]) (tl:=[_]) YS rfl rfl [35,36,37,44,45] (by decide) (fun D u w=>M (Old w0) w0 w ([raw b30 (enc r24.1),raw b17 (enc r11.2.2.1),raw b15 (enc r11.2.1),raw b13 (cat [[vI r11.1.Field],enc r11.1.Box,enc r11.1.Mix,enc r11.1.Places,[vI r11.1.Rounds]]),raw b5 (enc (Vector.replicate 16 (0 : UInt8))),raw b9 (cat [[v0_1],[vI r22.1.1],[(Value.int .u64 r22.1.2)]])] ++ qL ([mkT 3 (raw b1 (cat [[vI 0],enc (Vector.replicate 256 (0 : UInt8)),enc (Vector.replicate 4 (Vector.replicate 4 (0 : UInt8))),enc (Vector.replicate 16 (0 : UInt8)),[vI 0]])) (raw b1 (cat [[vI r11.1.Field],enc r11.1.Box,enc r11.1.Mix,enc r11.1.Places,[vI r11.1.Rounds]])),mkT 4 (raw b3 (enc (Vector.replicate 16 (0 : UInt8)))) (raw b3 (enc r11.2.2.1))] : Mk) D u) ∧ GOk ([([],fun us v=>v = (Value.agg (enc r11.1).toArray)),([],fun us v=>v = (Value.agg (enc r11.2.2.1).toArray)),([],fun us v=>v = (Value.agg (enc r24.1).toArray)),([],fun us v=>True),([],fun us v=>True)] : Gs) D u) hE (fun u=>⟨M.qT (M.qT (M.q0 hM.drew u)),KH⟩) (ZS (Zb ?_ (Zb ?_ (Zb ?_ (Zb ?_ (Zb ?_ ZL)))))) ?_
    ·intro a w ux36 D hE hI hD hdc hp
     have hM0:=hI.1
     have hM:=hI.1
     have hM:=hM.togA (pre:=[_,_,_,_,_,_]) (Bool.eq_false_iff.2 fun hx=>Bool.noConfusion (hD.symm.trans (hdc 3 _ _ rfl (List.mem_of_getElem? (i:=0) rfl) rfl hx)))
     have hM:=hM.togA (pre:=[_,_,_,_,_,_,_]) (Bool.eq_false_iff.2 fun hx=>Bool.noConfusion (hD.symm.trans (hdc 4 _ _ rfl (List.mem_of_getElem? (i:=2) rfl) rfl hx)))
     exact Zj (cs:=enc r11.1) hE Za ld rfl Z8 rfl (hM.rawAt (pre:=[_,_,_])) (Zl (cl1 (n:=1) (m:=289) rfl (cl1 (n:=256) (m:=33) (Flat.len _) (cl1 (n:=16) (m:=17) (Flat.len _) (cl1 (n:=16) (m:=1) (Flat.len _) (cl1 (n:=1) (m:=0) rfl cl0)))))) fun a hE=>⟨_,_,rfl,hE,M.qKeep hM0 rfl,hI.2.put hD rfl ZR rfl⟩
    ·intro a w ux36 D hE hI hD hdc hp
     have hM0:=hI.1
     have hM:=hI.1
     have hM:=hM.togA (pre:=[_,_,_,_,_,_,_]) (Bool.eq_false_iff.2 fun hx=>Bool.noConfusion (hD.symm.trans (hdc 4 _ _ rfl (List.mem_of_getElem? (i:=0) rfl) rfl hx)))
     exact Zj (cs:=enc r11.2.2.1) hE Za ld rfl Zw rfl (hM.rawAt (pre:=[_])) (Flat.len _) fun a hE=>⟨_,_,rfl,hE,M.qKeep hM0 rfl,hI.2.put hD rfl ZR rfl⟩
    ·intro a w ux36 D hE hI hD hdc hp
     have hM0:=hI.1
     have hM:=hI.1
     exact Zj (cs:=enc r24.1) hE Za ld rfl Zw rfl (hM.rawAt (pre:=[])) (Flat.len _) fun a hE=>⟨_,_,rfl,hE,M.qKeep hM0 rfl,hI.2.put hD rfl ZR rfl⟩
    ·intro a w ux36 D hE hI hD hdc hp
     have d0 : D 0 = true:=hp 0 _ rfl rfl
     have g0:=hI.2 0 d0 _ rfl
     have f0 : ux36 0 = (Value.agg (enc r11.1).toArray):=g0.2
     have hM0:=hI.1
     have hM:=(hI.1.togA (pre:=[_,_,_,_,_,_]) hD).pull (pre:=[_,_,_,_,_,_])
     exact Zi (seg:=cat [[vI r11.1.Field],enc r11.1.Box,enc r11.1.Mix,enc r11.1.Places,[vI r11.1.Rounds]]) (cs':=cat [[vI r11.1.Field],enc r11.1.Box,enc r11.1.Mix,enc r11.1.Places,[vI r11.1.Rounds]]) hE hM Za rfl (lk rfl f0) rfl Z8 (Zl (cl1 (n:=1) (m:=289) rfl (cl1 (n:=256) (m:=33) (Flat.len _) (cl1 (n:=16) (m:=17) (Flat.len _) (cl1 (n:=16) (m:=1) (Flat.len _) (cl1 (n:=1) (m:=0) rfl cl0)))))) (Nat.le_of_eq ((Nat.zero_add _).trans (Eq.trans (Zl (cl1 (n:=1) (m:=289) rfl (cl1 (n:=256) (m:=33) (Flat.len _) (cl1 (n:=16) (m:=17) (Flat.len _) (cl1 (n:=16) (m:=1) (Flat.len _) (cl1 (n:=1) (m:=0) rfl cl0)))))) (Eq.symm (Zl (cl1 (n:=1) (m:=289) rfl (cl1 (n:=256) (m:=33) (Flat.len _) (cl1 (n:=16) (m:=17) (Flat.len _) (cl1 (n:=16) (m:=1) (Flat.len _) (cl1 (n:=1) (m:=0) rfl cl0)))))))))) (Yq (cc1 (Flat.cell (r11.1.Field : Int)) (cc1 (Flat.cell _) (cc1 (Flat.cell _) (cc1 (Flat.cell _) (cc1 (Flat.cell (r11.1.Rounds : Int)) cc0)))))) (Zg (Eq.trans (Zl (cl1 (n:=1) (m:=289) rfl (cl1 (n:=256) (m:=33) (Flat.len _) (cl1 (n:=16) (m:=17) (Flat.len _) (cl1 (n:=16) (m:=1) (Flat.len _) (cl1 (n:=1) (m:=0) rfl cl0)))))) (Eq.symm (Zl (cl1 (n:=1) (m:=289) rfl (cl1 (n:=256) (m:=33) (Flat.len _) (cl1 (n:=16) (m:=17) (Flat.len _) (cl1 (n:=16) (m:=1) (Flat.len _) (cl1 (n:=1) (m:=0) rfl cl0))))))))) fun w a hM hE=>⟨undef,_,rfl,Env.dummy hE (by decide),M.qTog (mk1:=[]) (mk2:=[_]) hM rfl,hI.2.put hD rfl ZR trivial⟩
    ·intro a w ux36 D hE hI hD hdc hp
     have d1 : D 1 = true:=hp 0 _ rfl rfl
     have g1:=hI.2 1 d1 _ rfl
     have f1 : ux36 1 = (Value.agg (enc r11.2.2.1).toArray):=g1.2
     have hM0:=hI.1
     have hM:=(hI.1.togA (pre:=[_,_,_,_,_,_,_]) hD).pull (pre:=[_,_,_,_,_,_,_])
     exact Zi (seg:=enc r11.2.2.1) (cs':=enc r11.2.2.1) hE hM Za rfl (lk rfl f1) rfl Zw (Flat.len _) (zle flq) (Flat.cell _) (Zg flq) fun w a hM hE=>⟨undef,_,rfl,Env.dummy hE (by decide),M.qTog (mk1:=[_]) (mk2:=[]) hM rfl,hI.2.put hD rfl ZR trivial⟩
    ·intro a w ux36 D hE hI hall
     have hM:=hI.1
     have d0 : D 0 = true:=hall 0 (by decide)
     have d1 : D 1 = true:=hall 1 (by decide)
     have d2 : D 2 = true:=hall 2 (by decide)
     have d3 : D 3 = true:=hall 3 (by decide)
     have d4 : D 4 = true:=hall 4 (by decide)
     have f0 : ux36 0 = (Value.agg (enc r11.1).toArray):=(hI.2 0 d0 _ rfl).2
     have f1 : ux36 1 = (Value.agg (enc r11.2.2.1).toArray):=(hI.2 1 d1 _ rfl).2
     have f2 : ux36 2 = (Value.agg (enc r24.1).toArray):=(hI.2 2 d2 _ rfl).2
     have hM:=(hM.togB (pre:=[_,_,_,_,_,_]) d3).togB (pre:=[_,_,_,_,_,_,_]) d4
     have hE:=hE.sub (e':=[(37,(Value.agg (enc r24.1).toArray)),(2,(ptr b1 0)),(3,(ptr b3 0)),(4,(ptr b5 0)),(6,(ptr b13 0)),(7,(ptr b15 0)),(8,(ptr b17 0))]) ⟨lk rfl f2,rfl,rfl,rfl,rfl,rfl,rfl,trivial⟩
     have hM:=hM.pull (pre:=[_,_,_,_])
     refine Zi (seg:=enc r24.1) (cs':=enc r24.1) hE hM Za rfl rfl rfl Zw (Flat.len _) (zle flq) (Flat.cell _) (Zg flq) fun w a hM hE=>Zk ?_
     have ht37:=Option.some.inj hl34
     subst ht37
     refine Zn ?_
     have hM:=M.fst (l:=[_,_,_]) (((hM.pull (pre:=[_,_,_,_,_,_])).pull (pre:=[_,_,_,_,_,_,_])).pull (pre:=[_,_]))
     exact ⟨hE.sub ⟨rfl,rfl,rfl,trivial⟩,hM⟩
   ·skip
    rintro a w ⟨hE,hM⟩
    have hr:=Option.some.inj hF35
    subst hr
    have hq38 : ZY Try.prog _ _ (.cell 2 61) _:=ZM hE rfl Z8 rfl (hM.rawAt (pre:=[_,_])) (Zl (cl1 (n:=1) (m:=289) rfl (cl1 (n:=256) (m:=33) (Flat.len _) (cl1 (n:=16) (m:=17) (Flat.len _) (cl1 (n:=16) (m:=1) (Flat.len _) (cl1 (n:=1) (m:=0) rfl cl0)))))) rfl
    have hq39 : ZY Try.prog _ _ (.cell 3 62) _:=ZM hE rfl Zw rfl (hM.rawAt (pre:=[_])) (Flat.len _) rfl
    have hq40 : ZY Try.prog _ _ (.cell 4 62) _:=ZM hE rfl Zw rfl (hM.rawAt (pre:=[])) (Flat.len _) rfl
    have hM:=M.fst (l:=[]) hM
    exact wp_ret (ZP (QH hE rfl hq38 hq39 hq40 ⟨_,rfl,rfl,hM.kept⟩))
  ·intro hb32
   have hF:=ZA hF hb32
   refine wp_skip (ZG ?_)
   obtain ⟨j41,hl42,hF43⟩:=bind_some hF
   refine ZT (fun a w=>Env 41 a [(2,(ptr b1 0)),(3,(ptr b3 0)),(4,(ptr b5 0))] ∧ M (Old w0) w0 w [raw b5 (enc j41.2.2.2.2.2.2),raw b3 (enc j41.2.2.2.2.2.1),raw b1 (cat [[vI j41.1],enc j41.2.1,enc j41.2.2.1,enc j41.2.2.2.1,[vI j41.2.2.2.2.1]])]) ?_ ?_
   ·skip
    have hM:=(hM.pull (pre:=[_,_,_,_,_,_])).pull (pre:=[_,_,_,_,_,_])
    refine Vj (n:=41) (hd:=[_,_,_,_,_]) (tl:=[_]) YS rfl rfl [38,39,40,44,45] (by decide) (fun D u w=>M (Old w0) w0 w ([raw b30 (enc r24.1),raw b17 (enc r11.2.2.1),raw b15 (enc r11.2.1),raw b13 (cat [[vI r11.1.Field],enc r11.1.Box,enc r11.1.Mix,enc r11.1.Places,[vI r11.1.Rounds]]),raw b5 (enc (Vector.replicate 16 (0 : UInt8))),raw b9 (cat [[v0_1],[vI r22.1.1],[(Value.int .u64 r22.1.2)]])] ++ qL ([mkT 3 (raw b1 (cat [[vI 0],enc (Vector.replicate 256 (0 : UInt8)),enc (Vector.replicate 4 (Vector.replicate 4 (0 : UInt8))),enc (Vector.replicate 16 (0 : UInt8)),[vI 0]])) (raw b1 (cat [[vI r11.1.Field],enc r11.1.Box,enc r11.1.Mix,enc r11.1.Places,[vI r11.1.Rounds]])),mkT 4 (raw b3 (enc (Vector.replicate 16 (0 : UInt8)))) (raw b3 (enc r11.2.2.1))] : Mk) D u) ∧ GOk ([([],fun us v=>v = (Value.agg (enc r11.1).toArray)),([],fun us v=>v = (Value.agg (enc r11.2.2.1).toArray)),([],fun us v=>v = (Value.agg (enc r11.2.1).toArray)),([],fun us v=>True),([],fun us v=>True)] : Gs) D u) hE (fun u=>⟨M.qT (M.qT (M.q0 hM.drew u)),KH⟩) (ZS (Zb ?_ (Zb ?_ (Zb ?_ (Zb ?_ (Zb ?_ ZL)))))) ?_
    ·intro a w ux44 D hE hI hD hdc hp
     have hM0:=hI.1
     have hM:=hI.1
     have hM:=hM.togA (pre:=[_,_,_,_,_,_]) (Bool.eq_false_iff.2 fun hx=>Bool.noConfusion (hD.symm.trans (hdc 3 _ _ rfl (List.mem_of_getElem? (i:=0) rfl) rfl hx)))
     have hM:=hM.togA (pre:=[_,_,_,_,_,_,_]) (Bool.eq_false_iff.2 fun hx=>Bool.noConfusion (hD.symm.trans (hdc 4 _ _ rfl (List.mem_of_getElem? (i:=2) rfl) rfl hx)))
     exact Zj (cs:=enc r11.1) hE Za ld rfl Z8 rfl (hM.rawAt (pre:=[_,_,_])) (Zl (cl1 (n:=1) (m:=289) rfl (cl1 (n:=256) (m:=33) (Flat.len _) (cl1 (n:=16) (m:=17) (Flat.len _) (cl1 (n:=16) (m:=1) (Flat.len _) (cl1 (n:=1) (m:=0) rfl cl0)))))) fun a hE=>⟨_,_,rfl,hE,M.qKeep hM0 rfl,hI.2.put hD rfl ZR rfl⟩
    ·intro a w ux44 D hE hI hD hdc hp
     have hM0:=hI.1
     have hM:=hI.1
     have hM:=hM.togA (pre:=[_,_,_,_,_,_,_]) (Bool.eq_false_iff.2 fun hx=>Bool.noConfusion (hD.symm.trans (hdc 4 _ _ rfl (List.mem_of_getElem? (i:=0) rfl) rfl hx)))
     exact Zj (cs:=enc r11.2.2.1) hE Za ld rfl Zw rfl (hM.rawAt (pre:=[_])) (Flat.len _) fun a hE=>⟨_,_,rfl,hE,M.qKeep hM0 rfl,hI.2.put hD rfl ZR rfl⟩
    ·intro a w ux44 D hE hI hD hdc hp
     have hM0:=hI.1
     have hM:=hI.1
     exact Zj (cs:=enc r11.2.1) hE Za ld rfl Zw rfl (hM.rawAt (pre:=[_,_])) (Flat.len _) fun a hE=>⟨_,_,rfl,hE,M.qKeep hM0 rfl,hI.2.put hD rfl ZR rfl⟩
    ·intro a w ux44 D hE hI hD hdc hp
     have d0 : D 0 = true:=hp 0 _ rfl rfl
     have g0:=hI.2 0 d0 _ rfl
     have f0 : ux44 0 = (Value.agg (enc r11.1).toArray):=g0.2
     have hM0:=hI.1
     have hM:=(hI.1.togA (pre:=[_,_,_,_,_,_]) hD).pull (pre:=[_,_,_,_,_,_])
     exact Zi (seg:=cat [[vI r11.1.Field],enc r11.1.Box,enc r11.1.Mix,enc r11.1.Places,[vI r11.1.Rounds]]) (cs':=cat [[vI r11.1.Field],enc r11.1.Box,enc r11.1.Mix,enc r11.1.Places,[vI r11.1.Rounds]]) hE hM Za rfl (lk rfl f0) rfl Z8 (Zl (cl1 (n:=1) (m:=289) rfl (cl1 (n:=256) (m:=33) (Flat.len _) (cl1 (n:=16) (m:=17) (Flat.len _) (cl1 (n:=16) (m:=1) (Flat.len _) (cl1 (n:=1) (m:=0) rfl cl0)))))) (Nat.le_of_eq ((Nat.zero_add _).trans (Eq.trans (Zl (cl1 (n:=1) (m:=289) rfl (cl1 (n:=256) (m:=33) (Flat.len _) (cl1 (n:=16) (m:=17) (Flat.len _) (cl1 (n:=16) (m:=1) (Flat.len _) (cl1 (n:=1) (m:=0) rfl cl0)))))) (Eq.symm (Zl (cl1 (n:=1) (m:=289) rfl (cl1 (n:=256) (m:=33) (Flat.len _) (cl1 (n:=16) (m:=17) (Flat.len _) (cl1 (n:=16) (m:=1) (Flat.len _) (cl1 (n:=1) (m:=0) rfl cl0)))))))))) (Yq (cc1 (Flat.cell (r11.1.Field : Int)) (cc1 (Flat.cell _) (cc1 (Flat.cell _) (cc1 (Flat.cell _) (cc1 (Flat.cell (r11.1.Rounds : Int)) cc0)))))) (Zg (Eq.trans (Zl (cl1 (n:=1) (m:=289) rfl (cl1 (n:=256) (m:=33) (Flat.len _) (cl1 (n:=16) (m:=17) (Flat.len _) (cl1 (n:=16) (m:=1) (Flat.len _) (cl1 (n:=1) (m:=0) rfl cl0)))))) (Eq.symm (Zl (cl1 (n:=1) (m:=289) rfl (cl1 (n:=256) (m:=33) (Flat.len _) (cl1 (n:=16) (m:=17) (Flat.len _) (cl1 (n:=16) (m:=1) (Flat.len _) (cl1 (n:=1) (m:=0) rfl cl0))))))))) fun w a hM hE=>⟨undef,_,rfl,Env.dummy hE (by decide),M.qTog (mk1:=[]) (mk2:=[_]) hM rfl,hI.2.put hD rfl ZR trivial⟩
    ·intro a w ux44 D hE hI hD hdc hp
     have d1 : D 1 = true:=hp 0 _ rfl rfl
     have g1:=hI.2 1 d1 _ rfl
     have f1 : ux44 1 = (Value.agg (enc r11.2.2.1).toArray):=g1.2
     have hM0:=hI.1
     have hM:=(hI.1.togA (pre:=[_,_,_,_,_,_,_]) hD).pull (pre:=[_,_,_,_,_,_,_])
     exact Zi (seg:=enc r11.2.2.1) (cs':=enc r11.2.2.1) hE hM Za rfl (lk rfl f1) rfl Zw (Flat.len _) (zle flq) (Flat.cell _) (Zg flq) fun w a hM hE=>⟨undef,_,rfl,Env.dummy hE (by decide),M.qTog (mk1:=[_]) (mk2:=[]) hM rfl,hI.2.put hD rfl ZR trivial⟩
    ·intro a w ux44 D hE hI hall
     have hM:=hI.1
     have d0 : D 0 = true:=hall 0 (by decide)
     have d1 : D 1 = true:=hall 1 (by decide)
     have d2 : D 2 = true:=hall 2 (by decide)
     have d3 : D 3 = true:=hall 3 (by decide)
     have d4 : D 4 = true:=hall 4 (by decide)
     have f0 : ux44 0 = (Value.agg (enc r11.1).toArray):=(hI.2 0 d0 _ rfl).2
     have f1 : ux44 1 = (Value.agg (enc r11.2.2.1).toArray):=(hI.2 1 d1 _ rfl).2
     have f2 : ux44 2 = (Value.agg (enc r11.2.1).toArray):=(hI.2 2 d2 _ rfl).2
     have hM:=(hM.togB (pre:=[_,_,_,_,_,_]) d3).togB (pre:=[_,_,_,_,_,_,_]) d4
     have hE:=hE.sub (e':=[(40,(Value.agg (enc r11.2.1).toArray)),(2,(ptr b1 0)),(3,(ptr b3 0)),(4,(ptr b5 0))]) ⟨lk rfl f2,rfl,rfl,rfl,trivial⟩
     have hM:=hM.pull (pre:=[_,_,_,_])
     refine Zi (seg:=enc r11.2.1) (cs':=enc r11.2.1) hE hM Za rfl rfl rfl Zw (Flat.len _) (zle flq) (Flat.cell _) (Zg flq) fun w a hM hE=>Zk ?_
     have ht45:=Option.some.inj hl42
     subst ht45
     refine Zn ?_
     have hM:=M.fst (l:=[_,_,_]) (((hM.pull (pre:=[_,_,_,_,_,_])).pull (pre:=[_,_,_,_,_,_,_])).pull (pre:=[_,_]))
     exact ⟨hE.sub ⟨rfl,rfl,rfl,trivial⟩,hM⟩
   ·skip
    rintro a w ⟨hE,hM⟩
    have hr:=Option.some.inj hF43
    subst hr
    have hq46 : ZY Try.prog _ _ (.cell 2 61) _:=ZM hE rfl Z8 rfl (hM.rawAt (pre:=[_,_])) (Zl (cl1 (n:=1) (m:=289) rfl (cl1 (n:=256) (m:=33) (Flat.len _) (cl1 (n:=16) (m:=17) (Flat.len _) (cl1 (n:=16) (m:=1) (Flat.len _) (cl1 (n:=1) (m:=0) rfl cl0)))))) rfl
    have hq47 : ZY Try.prog _ _ (.cell 3 62) _:=ZM hE rfl Zw rfl (hM.rawAt (pre:=[_])) (Flat.len _) rfl
    have hq48 : ZY Try.prog _ _ (.cell 4 62) _:=ZM hE rfl Zw rfl (hM.rawAt (pre:=[])) (Flat.len _) rfl
    have hM:=M.fst (l:=[]) hM
    exact wp_ret (QH hE rfl hq46 hq47 hq48 ⟨_,rfl,rfl,hM.kept⟩)
def Yo (p0 : (Ref Gengine)) (j48 : (Vector UInt8 16)) (s68 : (Vector UInt8 16) × Int) : Option (Fl ((Vector UInt8 16) × Int) (Vector UInt8 16)) :=
 if (decide (s68.2 < 16)) = true then ((ZI j48 s68.2).bind fun x73=>(ZI p0.v.backBox (bI x73)).bind fun x87=>(ZI s68.1 s68.2).bind fun x90=>some (Fl.nx ((s68.1.setIfInBounds (s68.2).toNat x87),wr (s68.2 + 1)))) else (some (Fl.ex s68.1))
def Yp (p0 : (Ref Gengine)) (p1 : (List (Vector UInt8 16))) (s8 : (Vector UInt8 16) × Int) : Option (Fl ((Vector UInt8 16) × Int) (Vector UInt8 16)) :=
 if (decide (s8.2 > 0)) = true then ((((idx p1 s8.2).bind fun x20=>(Xe s8.1 x20).bind fun r23=>some r23 : Option ((Vector UInt8 16))).bind fun j16=>(if (decide (s8.2 < (wr ((p1.length : Int) - 1)))) = true then ((slc j16.toList (0 : Int) (16 : Int)).bind fun l41=>(Wy p0.v.backMixer j16).bind fun r44=>some r44) else (some j16) : Option ((Vector UInt8 16))).bind fun j26=>((YL p0.v.backPlaces j26).bind fun r62=>some r62 : Option ((Vector UInt8 16))).bind fun j48=>(ZQ (Yo p0 j48) (j48,0)).bind fun j65=>some j65 : Option ((Vector UInt8 16))).bind fun j13=>some (Fl.nx (j13,wr (s8.2 - 1)))) else (some (Fl.ex s8.1))
def Yu (p0 : (Ref Gengine)) (p1 : (List (Vector UInt8 16))) (p2 : (Vector UInt8 16)) : Option ((Vector UInt8 16)) :=
 (ZQ (Yp p0 p1) (p2,wr ((p1.length : Int) - 1))).bind fun j5=>((idx p1 (0 : Int)).bind fun x99=>(Xe j5 x99).bind fun r102=>some r102 : Option ((Vector UInt8 16))).bind fun j95=>some j95
theorem T4 (w0 : World) (p0 : (Ref Gengine)) (v0_1 : Value) (hv0_1 : Ro w0 p0 [v0_1]) (p1 : (List (Vector UInt8 16))) (v1_1 : Value) (hv1_1 : Ro w0 p1 [v1_1]) (p2 : (Vector UInt8 16)) (r : (Vector UInt8 16)) (hF : Yu p0 p1 p2 = some r) :
  Calls Try.prog 93 [v0_1,v1_1,(Value.agg (enc p2).toArray)].toArray w0 (fun en w'=>∃ v,en = .returned v ∧ (v = (Value.agg (enc r).toArray) ∧ Kept (Old w0) w0 w')):=by
 refine ZJ (n:=59) Try.func93 rfl rfl (nbl rfl) rfl ?_
 intro a hE
 have hM:=M.start w0
 unfold Yu at hF
 refine Zd (Z3 (cs:=enc p2) hE hM Za ld rfl rfl fun b1 w a hM hE=>Zu hE hM Za ld Zw fun b3 w a hM hE=>Zf (wp_seq (Zd (Zc hE Za ld rfl fun a hE=>UU hE Za ld rfl Try.underlying136 (hM.rd hv1_1) fun a hE=>Zm hE Za ld rfl rfl rfl fun a hE=>Ze hE Za ld rfl fun a hE=>Zf ?_))))
 obtain ⟨j5,hl6,hF7⟩:=bind_some hF
 refine Z0 (fun a w=>Env 59 a [(1,v1_1),(5,(ptr b1 0)),(6,(ptr b3 0))] ∧ M (Old w0) w0 w [raw b3 (enc (Vector.replicate 16 (0 : UInt8))),raw b1 (enc j5)]) ?_ ?_
 ·skip
  refine wp_block ?_
  refine ZV (fun (s8 : (Vector UInt8 16) × Int) a w=>Env 59 a [(0,v0_1),(1,v1_1),(5,(ptr b1 0)),(6,(ptr b3 0)),(7,vI s8.2)] ∧ M (Old w0) w0 w [raw b3 (enc (Vector.replicate 16 (0 : UInt8))),raw b1 (enc s8.1)]) hl6 ⟨hE.sub ⟨rfl,rfl,rfl,rfl,rfl,trivial⟩,hM⟩ ?_
  rintro s8 a w ⟨hE,hM⟩ o11 hs9 hx10
  unfold Yp at hs9
  refine wp_seq (Zd (Zc hE Za ld rfl fun a hE=>Zm hE Za ld rfl rfl rfl fun a hE=>Zf ?_))
  refine Zv hE rfl ?_ ?_
  ·intro hb12
   have hs9:=ZB hs9 hb12
   refine wp_skip (ZG ?_)
   obtain ⟨j13,hl14,hF15⟩:=bind_some hs9
   refine ZT (fun a w=>Env 59 a [(0,v0_1),(1,v1_1),(5,(ptr b1 0)),(6,(ptr b3 0)),(7,vI s8.2)] ∧ M (Old w0) w0 w [raw b3 (enc (Vector.replicate 16 (0 : UInt8))),raw b1 (enc j13)]) ?_ ?_
   ·skip
    refine wp_block ?_
    obtain ⟨j16,hl17,hF18⟩:=bind_some hl14
    refine ZT (fun a w=>Env 59 a [(0,v0_1),(1,v1_1),(5,(ptr b1 0)),(6,(ptr b3 0)),(7,vI s8.2)] ∧ M (Old w0) w0 w [raw b3 (enc (Vector.replicate 16 (0 : UInt8))),raw b1 (enc j16)]) ?_ ?_
    ·skip
     obtain ⟨x20,hi22,hl17⟩:=bix hl17
     obtain ⟨r23,e24,hl17⟩:=bind_some hl17
     refine Yw (n:=59) (hd:=[_,_,_,_,_,_]) (tl:=[_]) YS rfl rfl [17,18,19,20,21,22] (by decide) (fun w=>M (Old w0) w0 w [raw b3 (enc (Vector.replicate 16 (0 : UInt8))),raw b1 (enc s8.1)]) (fun j=>([fun v _=>v = (Value.agg (enc s8.1).toArray),fun v _=>v = v1_1,fun v _=>v = (vI s8.2),fun v _=>v = (ptr (sb v1_1) (so v1_1 + (s8.2).toNat * 16)),fun v _=>v = (Value.agg (enc x20).toArray),fun v _=>v = (Value.agg (enc r23).toArray)] : List (Value → World → Prop)).getD j (fun _ _=>True)) (fun _ _ h hk=>h.keep hk) (gup (Zp (Zp (Zp (Zp (Zp (Zp Vq))))))) hE hM.drew (ZS (Zb ?_ (Zb ?_ (Zb ?_ (Zb ?_ (Zb ?_ (Zb ?_ ZL))))))) ?_
     ·exact fun a w ux19 hE hM hp=>Zj (cs:=enc s8.1) hE Za ld rfl Zw rfl (hM.rawAt (pre:=[_])) (Flat.len _) fun a hE=>⟨Kept.refl _ _,_,_,rfl,hE,rfl⟩
     ·exact fun a w ux19 hE hM hp=>Zc hE Za ld rfl fun a hE=>⟨Kept.refl _ _,_,_,rfl,hE,rfl⟩
     ·exact fun a w ux19 hE hM hp=>Zc hE Za ld rfl fun a hE=>⟨Kept.refl _ _,_,_,rfl,hE,rfl⟩
     ·intro a w ux19 hE hM hp
      have f1 : ux19 1 = v1_1:=hp 0 _ rfl rfl
      have f2 : ux19 2 = (vI s8.2):=hp 1 _ rfl rfl
      exact Yv hE Za ld (lk rfl f1) (lk rfl f2) Try.underlying136 Zw (hM.rd hv1_1) hi22.1 fun a hE=>⟨Kept.refl _ _,_,_,rfl,hE,rfl⟩
     ·intro a w ux19 hE hM hp
      have f3 : ux19 3 = (ptr (sb v1_1) (so v1_1 + (s8.2).toNat * 16)):=hp 0 _ rfl rfl
      exact Zj (cs:=enc x20) hE Za ld (lk rfl f3) Zw rfl (X9 (hM.rd hv1_1) hi22.2) (Flat.len _) fun a hE=>⟨Kept.refl _ _,_,_,rfl,hE,rfl⟩
     ·intro a w ux19 hE hM hp
      have f0 : ux19 0 = (Value.agg (enc s8.1).toArray):=hp 0 _ rfl rfl
      have f4 : ux19 4 = (Value.agg (enc x20).toArray):=hp 1 _ rfl rfl
      refine Zo hE Za ld (Z1 (ZX (lk rfl f0) (ZX (lk rfl f4) Xg))) z4 (Uv _ s8.1 x20 r23 e24) ?_
      rintro v w a ⟨rfl,hK⟩ hE
      exact ⟨hK,_,_,rfl,hE,rfl⟩
     ·intro a w ux19 hE hM hg
      have hE:=hE.sub (e':=[(22,(Value.agg (enc r23).toArray)),(0,v0_1),(1,v1_1),(5,(ptr b1 0)),(6,(ptr b3 0)),(7,vI s8.2),(13,vI s8.2),(14,(vT (decide (s8.2 > 0))))]) ⟨lk rfl (hg 5 (by decide)),rfl,rfl,rfl,rfl,rfl,rfl,rfl,trivial⟩
      have hM:=hM.pull (pre:=[_])
      refine Zi (seg:=enc r23) (cs':=enc r23) hE hM Za rfl rfl rfl Zw (Flat.len _) (zle flq) (Flat.cell _) (Zg flq) fun w a hM hE=>Zk ?_
      have ht25:=Option.some.inj hl17
      subst ht25
      refine Zn ?_
      have hM:=hM.pull (pre:=[_])
      exact ⟨hE.sub ⟨rfl,rfl,rfl,rfl,rfl,trivial⟩,hM⟩
    ·skip
     rintro a w ⟨hE,hM⟩
     obtain ⟨j26,hl27,hF28⟩:=bind_some hF18
     refine ZT (fun a w=>Env 59 a [(0,v0_1),(1,v1_1),(5,(ptr b1 0)),(6,(ptr b3 0)),(7,vI s8.2)] ∧ M (Old w0) w0 w [raw b3 (enc (Vector.replicate 16 (0 : UInt8))),raw b1 (enc j26)]) ?_ ?_
     ·skip
      refine Zd (Zc hE Za ld rfl fun a hE=>Zc hE Za ld rfl fun a hE=>UU hE Za ld rfl Try.underlying136 (hM.rd hv1_1) fun a hE=>Zm hE Za ld rfl rfl rfl fun a hE=>Zm hE Za ld rfl rfl rfl fun a hE=>Zf ?_)
      refine Zv hE rfl ?_ ?_
      ·intro hb29
       have hl27:=ZB hl27 hb29
       obtain ⟨pb31,ds32,hv33,hx34,hA35,hB36⟩:=Vt hv0_1 -- ^
       obtain ⟨u37,u39,rfl,h38,h40⟩:=VE hx34 -- ^
       obtain ⟨l41,e42,hl27⟩:=bind_some hl27
       have hb43:=Hy e42 -- ^
       refine Yw (n:=59) (hd:=[_,_,_,_,_]) (tl:=[_]) YS rfl rfl [28,29,30,31,32] (by decide) (fun w=>M (Old w0) w0 w [raw b3 (enc (Vector.replicate 16 (0 : UInt8))),raw b1 (enc j16)]) (fun j=>([fun v _=>v = v0_1,fun v _=>v = (ptr pb31 0),fun v _=>v = (ptr pb31 (0 + 545)),fun v _=>v = u39,fun v _=>v = (VG (.slice (some ⟨b1,0,none⟩) 16 16) ((0 : Int)).toNat ((16 : Int)).toNat 1)] : List (Value → World → Prop)).getD j (fun _ _=>True)) (fun _ _ h hk=>h.keep hk) (gup (Zp (Zp (Zp (Zp (Zp Vq)))))) hE hM.drew (ZS (Zb ?_ (Zb ?_ (Zb ?_ (Zb ?_ (Zb ?_ ZL)))))) ?_
       ·exact fun a w ux30 hE hM hp=>Zc hE Za ld rfl fun a hE=>⟨Kept.refl _ _,_,_,rfl,hE,rfl⟩
       ·intro a w ux30 hE hM hp
        have f0 : ux30 0 = v0_1:=hp 0 _ rfl rfl
        exact Z9 hE Za ld (lk (lk rfl f0) hv33) fun a hE=>⟨Kept.refl _ _,_,_,rfl,hE,rfl⟩
       ·intro a w ux30 hE hM hp
        have f1 : ux30 1 = (ptr pb31 0):=hp 0 _ rfl rfl
        exact Zr hE Za ld (lk rfl f1) (jL) fun a hE=>⟨Kept.refl _ _,_,_,rfl,hE,rfl⟩
       ·intro a w ux30 hE hM hp
        have f2 : ux30 2 = (ptr pb31 (0 + 545)):=hp 0 _ rfl rfl
        exact ZF (v:=u39) hE Za ld (lk rfl f2) ya rfl (At.cat (pre:=[enc p0.v.box,enc p0.v.backBox,enc p0.v.places,enc p0.v.backPlaces,[u37]]) (hM.atk hA35 hB36) (cl1 (n:=256) (m:=289) (Flat.len _) (cl1 (n:=256) (m:=33) (Flat.len _) (cl1 (n:=16) (m:=17) (Flat.len _) (cl1 (n:=16) (m:=1) (Flat.len _) (cl1 (n:=1) (m:=0) rfl cl0)))))) fun a hE=>⟨Kept.refl _ _,_,_,rfl,hE,rfl⟩
       ·exact fun a w ux30 hE hM hp=>QL (N:=16) hE Za ld rfl rfl rfl rfl rfl Try.underlying62 ty5 hb43 fun a hE=>⟨Kept.refl _ _,_,_,rfl,hE,rfl⟩
       ·intro a w ux30 hE hM hg
        have hE:=hE.sub (e':=[(31,u39),(32,(VG (.slice (some ⟨b1,0,none⟩) 16 16) ((0 : Int)).toNat ((16 : Int)).toNat 1)),(0,v0_1),(1,v1_1),(5,(ptr b1 0)),(6,(ptr b3 0)),(7,vI s8.2),(23,vI s8.2),(24,v1_1),(25,(vI (p1.length : Int))),(26,(vI (wr ((p1.length : Int) - 1)))),(27,(vT (decide (s8.2 < (wr ((p1.length : Int) - 1))))))]) ⟨lk rfl (hg 3 (by decide)),lk rfl (hg 4 (by decide)),rfl,rfl,rfl,rfl,rfl,rfl,rfl,rfl,rfl,rfl,trivial⟩
        have hM:=hM.pull (pre:=[_])
        obtain ⟨r44,e45,hl27⟩:=bind_some hl27
        refine Zo hE Za ld rfl cb159 (Qw _ _ _ _ p0.v.backMixer u39 h40 b1 j16 hM r44 e45) ?_
        rintro v w a ⟨rfl,hM⟩ hE
        refine Zk ?_
        have ht46:=Option.some.inj hl27
        subst ht46
        refine Zn ?_
        have hM:=hM.pull (pre:=[_])
        exact ⟨hE.sub ⟨rfl,rfl,rfl,rfl,rfl,trivial⟩,hM⟩
      ·intro hb29
       have hl27:=ZA hl27 hb29
       refine wp_skip ?_
       have ht47:=Option.some.inj hl27
       subst ht47
       refine Zn ?_
       exact ⟨hE.sub ⟨rfl,rfl,rfl,rfl,rfl,trivial⟩,hM⟩
     ·skip
      rintro a w ⟨hE,hM⟩
      obtain ⟨j48,hl49,hF50⟩:=bind_some hF28
      refine ZT (fun a w=>Env 59 a [(0,v0_1),(1,v1_1),(5,(ptr b1 0)),(6,(ptr b3 0)),(7,vI s8.2)] ∧ M (Old w0) w0 w [raw b3 (enc (Vector.replicate 16 (0 : UInt8))),raw b1 (enc j48)]) ?_ ?_
      ·skip
       obtain ⟨pb52,ds53,hv54,hx55,hA56,hB57⟩:=Vt hv0_1 -- ^
       obtain ⟨u58,u60,rfl,h59,h61⟩:=VE hx55 -- ^
       obtain ⟨r62,e63,hl49⟩:=bind_some hl49
       refine Yw (n:=59) (hd:=[_,_,_,_,_,_]) (tl:=[_]) YS rfl rfl [34,35,36,37,38,39] (by decide) (fun w=>M (Old w0) w0 w [raw b3 (enc (Vector.replicate 16 (0 : UInt8))),raw b1 (enc j26)]) (fun j=>([fun v _=>v = v0_1,fun v _=>v = (ptr pb52 0),fun v _=>v = (ptr pb52 (0 + 528)),fun v _=>v = (Value.agg (enc p0.v.backPlaces).toArray),fun v _=>v = (Value.agg (enc j26).toArray),fun v _=>v = (Value.agg (enc r62).toArray)] : List (Value → World → Prop)).getD j (fun _ _=>True)) (fun _ _ h hk=>h.keep hk) (gup (Zp (Zp (Zp (Zp (Zp (Zp Vq))))))) hE hM.drew (ZS (Zb ?_ (Zb ?_ (Zb ?_ (Zb ?_ (Zb ?_ (Zb ?_ ZL))))))) ?_
       ·exact fun a w ux51 hE hM hp=>Zc hE Za ld rfl fun a hE=>⟨Kept.refl _ _,_,_,rfl,hE,rfl⟩
       ·intro a w ux51 hE hM hp
        have f0 : ux51 0 = v0_1:=hp 0 _ rfl rfl
        exact Z9 hE Za ld (lk (lk rfl f0) hv54) fun a hE=>⟨Kept.refl _ _,_,_,rfl,hE,rfl⟩
       ·intro a w ux51 hE hM hp
        have f1 : ux51 1 = (ptr pb52 0):=hp 0 _ rfl rfl
        exact Zr hE Za ld (lk rfl f1) (jK) fun a hE=>⟨Kept.refl _ _,_,_,rfl,hE,rfl⟩
       ·intro a w ux51 hE hM hp
        have f2 : ux51 2 = (ptr pb52 (0 + 528)):=hp 0 _ rfl rfl
        exact Zj (cs:=enc p0.v.backPlaces) hE Za ld (lk rfl f2) UY rfl (At.cat (pre:=[enc p0.v.box,enc p0.v.backBox,enc p0.v.places]) (hM.atk hA56 hB57) (cl1 (n:=256) (m:=272) (Flat.len _) (cl1 (n:=256) (m:=16) (Flat.len _) (cl1 (n:=16) (m:=0) (Flat.len _) cl0)))) (Flat.len _) fun a hE=>⟨Kept.refl _ _,_,_,rfl,hE,rfl⟩
       ·exact fun a w ux51 hE hM hp=>Zj (cs:=enc j26) hE Za ld rfl Zw rfl (hM.rawAt (pre:=[_])) (Flat.len _) fun a hE=>⟨Kept.refl _ _,_,_,rfl,hE,rfl⟩
       ·intro a w ux51 hE hM hp
        have f3 : ux51 3 = (Value.agg (enc p0.v.backPlaces).toArray):=hp 0 _ rfl rfl
        have f4 : ux51 4 = (Value.agg (enc j26).toArray):=hp 1 _ rfl rfl
        refine Zo hE Za ld (Z1 (ZX (lk rfl f3) (ZX (lk rfl f4) Xg))) cb160 (T3 _ p0.v.backPlaces j26 r62 e63) ?_
        rintro v w a ⟨rfl,hK⟩ hE
        exact ⟨hK,_,_,rfl,hE,rfl⟩
       ·intro a w ux51 hE hM hg
        have hE:=hE.sub (e':=[(39,(Value.agg (enc r62).toArray)),(0,v0_1),(1,v1_1),(5,(ptr b1 0)),(6,(ptr b3 0)),(7,vI s8.2)]) ⟨lk rfl (hg 5 (by decide)),rfl,rfl,rfl,rfl,rfl,trivial⟩
        have hM:=hM.pull (pre:=[_])
        refine Zi (seg:=enc r62) (cs':=enc r62) hE hM Za rfl rfl rfl Zw (Flat.len _) (zle flq) (Flat.cell _) (Zg flq) fun w a hM hE=>Zk ?_
        have ht64:=Option.some.inj hl49
        subst ht64
        refine Zn ?_
        have hM:=hM.pull (pre:=[_])
        exact ⟨hE.sub ⟨rfl,rfl,rfl,rfl,rfl,trivial⟩,hM⟩
      ·skip
       rintro a w ⟨hE,hM⟩
       refine Zd (Zj (cs:=enc j48) hE Za ld rfl Zw rfl (hM.rawAt (pre:=[_])) (Flat.len _) fun a hE=>Zc hE Za ld rfl fun a hE=>Zf ?_)
       obtain ⟨j65,hl66,hF67⟩:=bind_some hF50
       refine Z0 (fun a w=>Env 59 a [(0,v0_1),(1,v1_1),(5,(ptr b1 0)),(6,(ptr b3 0)),(7,vI s8.2)] ∧ M (Old w0) w0 w [raw b3 (enc (Vector.replicate 16 (0 : UInt8))),raw b1 (enc j65)]) ?_ ?_
       ·skip
        refine wp_block ?_
        refine ZV (fun (s68 : (Vector UInt8 16) × Int) a w=>Env 59 a [(0,v0_1),(1,v1_1),(5,(ptr b1 0)),(6,(ptr b3 0)),(7,vI s8.2),(40,(Value.agg (enc j48).toArray)),(41,vI s68.2)] ∧ M (Old w0) w0 w [raw b3 (enc (Vector.replicate 16 (0 : UInt8))),raw b1 (enc s68.1)]) hl66 ⟨hE.sub ⟨rfl,rfl,rfl,rfl,rfl,rfl,rfl,trivial⟩,hM⟩ ?_
        rintro s68 a w ⟨hE,hM⟩ o71 hs69 hx70
        unfold Yo at hs69
        refine Zd (Zm hE Za ld rfl rfl rfl fun a hE=>Zf (wp_seq ?_))
        refine Zv hE rfl ?_ ?_
        ·intro hb72
         have hs69:=ZB hs69 hb72
         refine wp_skip (ZG (wp_seq (wp_block (Zd (Zc hE Za ld rfl ?_))))); intro a hE
         obtain ⟨x73,hi75,hs69⟩:=bvx hs69
         refine Ts hE Za ld rfl rfl Try.underlying62 ty5 rfl rfl hi75 rfl fun a hE=>Ze hE Za ld rfl fun a hE=>Ze hE Za ld rfl fun a hE=>Zf (wp_region_lit (Zc hE Za ld rfl fun a hE=>Zc hE Za ld rfl fun a hE=>Zc hE Za ld rfl ?_)); intro a hE
         obtain ⟨pb76,ds77,hv78,hx79,hA80,hB81⟩:=Vt hv0_1 -- ^
         obtain ⟨u82,u84,rfl,h83,h85⟩:=VE hx79 -- ^
         refine Z9 hE Za ld (lk rfl hv78) fun a hE=>Zr hE Za ld rfl (jN) ?_; intro a hE
         obtain ⟨x87,hi86,hs69⟩:=bvx hs69
         refine Zh hE Za ld rfl rfl Try.underlying54 ty5 hi86.1 fun a hE=>ZF (v:=(vB x87)) hE Za ld rfl ty5 rfl (At.vec (At.cat (pre:=[enc p0.v.box]) (hM.atk hA80 hB81) (cl1 (n:=256) (m:=0) (Flat.len _) cl0)) hi86.2) ?_; intro a hE
         obtain ⟨x90,hi89,hs69⟩:=bvx hs69
         refine Zh hE Za ld rfl rfl Try.underlying62 ty5 hi89.1 ?_; intro a hE
         have hM:=hM.pull (pre:=[_])
         refine Zi (seg:=[vB x87]) (cs':=enc (s68.1.setIfInBounds (s68.2).toNat x87)) hE hM Za rfl rfl rfl ty5 rfl (ZN (v:=s68.1) (x:=x87) hi89.1) (Flat.cell (x87 : UInt8)) (ZD (v:=s68.1) (x:=x87) hi89.1) fun w a hM hE=>Zk (Yj (ZG (wp_region_lit (Zm hE Za ld rfl rfl rfl fun a hE=>Zc hE Za ld rfl fun a hE=>Zk (Zn ?_)))))
         have hM:=hM.pull (pre:=[_])
         exact ⟨_,(ois hs69),hE.sub ⟨rfl,rfl,rfl,rfl,rfl,rfl,rfl,trivial⟩,hM⟩
        ·intro hb72
         have hs69:=ZA hs69 hb72
         refine wp_exit (Zs (Zs (Yz ?_)))
         have ht92:=hx70 _ (ois hs69)
         subst ht92
         refine Zn ?_
         exact ⟨hE.sub ⟨rfl,rfl,rfl,rfl,rfl,trivial⟩,hM⟩
       ·skip
        rintro a w ⟨hE,hM⟩
        refine Yj ?_
        have ht93:=Option.some.inj hF67
        subst ht93
        refine Zn ?_
        exact ⟨hE.sub ⟨rfl,rfl,rfl,rfl,rfl,trivial⟩,hM⟩
   ·skip
    rintro a w ⟨hE,hM⟩
    refine wp_region_lit (Zc hE Za ld rfl fun a hE=>Zm hE Za ld rfl rfl rfl fun a hE=>Ze hE Za ld rfl fun a hE=>Zk (Zn ?_))
    exact ⟨_,(ois hF15),hE.sub ⟨rfl,rfl,rfl,rfl,rfl,trivial⟩,hM⟩
  ·intro hb12
   have hs9:=ZA hs9 hb12
   refine wp_exit (Zs (Zs (Yz ?_)))
   have ht94:=hx10 _ (ois hs9)
   subst ht94
   refine Zn ?_
   exact ⟨hE.sub ⟨rfl,rfl,rfl,trivial⟩,hM⟩
 ·skip
  rintro a w ⟨hE,hM⟩
  refine ZG ?_
  obtain ⟨j95,hl96,hF97⟩:=bind_some hF7
  refine ZT (fun a w=>Env 59 a [(6,(ptr b3 0))] ∧ M (Old w0) w0 w [raw b3 (enc j95)]) ?_ ?_
  ·skip
   obtain ⟨x99,hi101,hl96⟩:=bix hl96
   obtain ⟨r102,e103,hl96⟩:=bind_some hl96
   refine Yw (n:=59) (hd:=[_,_,_,_,_]) (tl:=[_]) YS rfl rfl [54,55,56,57,58] (by decide) (fun w=>M (Old w0) w0 w [raw b3 (enc (Vector.replicate 16 (0 : UInt8))),raw b1 (enc j5)]) (fun j=>([fun v _=>v = (Value.agg (enc j5).toArray),fun v _=>v = v1_1,fun v _=>v = (ptr (sb v1_1) (so v1_1 + ((0 : Int)).toNat * 16)),fun v _=>v = (Value.agg (enc x99).toArray),fun v _=>v = (Value.agg (enc r102).toArray)] : List (Value → World → Prop)).getD j (fun _ _=>True)) (fun _ _ h hk=>h.keep hk) (gup (Zp (Zp (Zp (Zp (Zp Vq)))))) hE hM.drew (ZS (Zb ?_ (Zb ?_ (Zb ?_ (Zb ?_ (Zb ?_ ZL)))))) ?_
   ·exact fun a w ux98 hE hM hp=>Zj (cs:=enc j5) hE Za ld rfl Zw rfl (hM.rawAt (pre:=[_])) (Flat.len _) fun a hE=>⟨Kept.refl _ _,_,_,rfl,hE,rfl⟩
   ·exact fun a w ux98 hE hM hp=>Zc hE Za ld rfl fun a hE=>⟨Kept.refl _ _,_,_,rfl,hE,rfl⟩
   ·intro a w ux98 hE hM hp
    have f1 : ux98 1 = v1_1:=hp 0 _ rfl rfl
    exact Yv hE Za ld (lk rfl f1) rfl Try.underlying136 Zw (hM.rd hv1_1) hi101.1 fun a hE=>⟨Kept.refl _ _,_,_,rfl,hE,rfl⟩
   ·intro a w ux98 hE hM hp
    have f2 : ux98 2 = (ptr (sb v1_1) (so v1_1 + ((0 : Int)).toNat * 16)):=hp 0 _ rfl rfl
    exact Zj (cs:=enc x99) hE Za ld (lk rfl f2) Zw rfl (X9 (hM.rd hv1_1) hi101.2) (Flat.len _) fun a hE=>⟨Kept.refl _ _,_,_,rfl,hE,rfl⟩
   ·intro a w ux98 hE hM hp
    have f0 : ux98 0 = (Value.agg (enc j5).toArray):=hp 0 _ rfl rfl
    have f3 : ux98 3 = (Value.agg (enc x99).toArray):=hp 1 _ rfl rfl
    refine Zo hE Za ld (Z1 (ZX (lk rfl f0) (ZX (lk rfl f3) Xg))) z4 (Uv _ j5 x99 r102 e103) ?_
    rintro v w a ⟨rfl,hK⟩ hE
    exact ⟨hK,_,_,rfl,hE,rfl⟩
   ·intro a w ux98 hE hM hg
    have hE:=hE.sub (e':=[(58,(Value.agg (enc r102).toArray)),(6,(ptr b3 0))]) ⟨lk rfl (hg 4 (by decide)),rfl,trivial⟩
    refine Zi (seg:=enc r102) (cs':=enc r102) hE hM Za rfl rfl rfl Zw (Flat.len _) (zle flq) (Flat.cell _) (Zg flq) fun w a hM hE=>Zk ?_
    have ht104:=Option.some.inj hl96
    subst ht104
    refine Zn ?_
    have hM:=M.fst (l:=[_]) hM
    exact ⟨hE.sub ⟨rfl,trivial⟩,hM⟩
  ·skip
   rintro a w ⟨hE,hM⟩
   have hr:=Option.some.inj hF97
   subst hr
   have hq105 : ZY Try.prog _ _ (.cell 6 62) _:=ZM hE rfl Zw rfl (hM.rawAt (pre:=[])) (Flat.len _) rfl
   have hM:=M.fst (l:=[]) hM
   exact wp_ret (ZK hE rfl hq105 ⟨_,rfl,rfl,hM.kept⟩)
def XL (p0 : GCipher) (p2 : (Vector UInt8 16)) (r11 : (Ref Gengine)) (s19 : (List ((Vector UInt8 16) × (List Int))) × Int) : Option (Fl ((List ((Vector UInt8 16) × (List Int))) × Int) (List ((Vector UInt8 16) × (List Int)))) :=
 if (decide (s19.2 < 256)) = true then ((Y2 s19.2).bind fun r25=>(Y6 r11 r25 p0.Rounds).bind fun r27=>(Yu r11 r27 p2).bind fun r30=>(app 8 ((WN s19.1 r30).getD []) ([s19.2] : List Int)).bind fun l41=>some (Fl.nx ((U2 s19.1 r30 (((WN s19.1 r30).getD []) ++ ([s19.2] : List Int))),wr (s19.2 + 1)))) else (some (Fl.ex s19.1))
def XJ (s54 : (List GMeeting) × Int) (j61 : (List Int) × Int × Int) (s76 : (List GMeeting) × Int) : Option (Fl ((List GMeeting) × Int) (List GMeeting)) :=
 if (decide (s76.2 < j61.2.1)) = true then ((idx j61.1 s76.2).bind fun x83=>(app 16 s76.1 ([(⟨s54.2,x83⟩ : GMeeting)] : List GMeeting)).bind fun l88=>some (Fl.nx ((s76.1 ++ ([(⟨s54.2,x83⟩ : GMeeting)] : List GMeeting)),wr (s76.2 + 1)))) else (some (Fl.ex s76.1))
def XF (p1 : (Vector UInt8 16)) (r11 : (Ref Gengine)) (j16 : (List ((Vector UInt8 16) × (List Int)))) (s54 : (List GMeeting) × Int) : Option (Fl ((List GMeeting) × Int) (List GMeeting)) :=
 if (decide (s54.2 < 256)) = true then (((Y2 s54.2).bind fun r66=>(Yi r11 r66 p1).bind fun r68=>some (((WN j16 r68).getD []),(((WN j16 r68).getD []).length : Int),0) : Option ((List Int) × Int × Int)).bind fun j61=>(ZQ (XJ s54 j61) (s54.1,j61.2.2)).bind fun j71=>some (Fl.nx (j71,wr (s54.2 + 1)))) else (some (Fl.ex s54.1))
def W9 (p0 : GCipher) (p1 : (Vector UInt8 16)) (p2 : (Vector UInt8 16)) : Option ((List GMeeting) × Int) :=
 (Wm p0).bind fun r7=>if (!r7) = true then (some ([],1)) else ((XR p0).bind fun r11=>(ZQ (XL p0 p2 r11) (([] : (List ((Vector UInt8 16) × (List Int)))),0)).bind fun j16=>(ZQ (XF p1 r11 j16) (([] : List GMeeting),0)).bind fun j49=>some (j49,0))
theorem Jp (w0 : World) (p0 : GCipher) (p1 : (Vector UInt8 16)) (p2 : (Vector UInt8 16)) (r : (List GMeeting) × Int) (hF : W9 p0 p1 p2 = some r) :
  Calls Try.prog 31 [(Value.agg (enc p0).toArray),(Value.agg (enc p1).toArray),(Value.agg (enc p2).toArray)].toArray w0 (fun en w'=>∃ v,en = .returned v ∧ (∃ (y1 : Value),v = (Value.tuple [y1,vI r.2].toArray) ∧ Fr w0 w' [osl NoB (r.1 : List GMeeting) y1] ∧ Kept (Old w0) w0 w')):=by
 refine ZJ (n:=68) Try.func31 rfl rfl (nbl rfl) rfl ?_
 intro a hE
 have hM:=M.start w0
 unfold W9 at hF
 refine Zd (Z3 (cs:=cat [[vI p0.Field],enc p0.Box,enc p0.Mix,enc p0.Places,[vI p0.Rounds]]) hE hM Za ld rfl rfl fun b1 w a hM hE=>Z3 (cs:=enc p1) hE hM Za ld rfl rfl fun b3 w a hM hE=>Z3 (cs:=enc p2) hE hM Za ld rfl rfl fun b5 w a hM hE=>Ze hE Za ld rfl fun a hE=>Ze hE Za ld rfl fun a hE=>Zf (wp_seq (Zd (Zj (cs:=enc p0) hE Za ld rfl Z8 rfl (hM.rawAt (pre:=[_,_])) (Zl (cl1 (n:=1) (m:=289) rfl (cl1 (n:=256) (m:=33) (Flat.len _) (cl1 (n:=16) (m:=17) (Flat.len _) (cl1 (n:=16) (m:=1) (Flat.len _) (cl1 (n:=1) (m:=0) rfl cl0)))))) ?_)))); intro a hE
 obtain ⟨r7,e8,hF⟩:=bind_some hF
 refine Zo hE Za ld rfl cb86 (TC _ p0 r7 e8) ?_
 rintro v w a ⟨rfl,hK⟩ hE
 have hM:=hM.keep hK
 refine UT hE Za ld rfl fun a hE=>Zf ?_
 refine Zv hE rfl ?_ ?_
 ·intro hb9
  have hF:=ZB hF hb9
  refine Zd (Ze hE Za ld rfl fun a hE=>Ze hE Za ld rfl fun a hE=>Zf ?_)
  have hM:=M.nilS (α:=GMeeting) NoB noB hM
  have hr:=Option.some.inj hF
  subst hr
  have hM:=M.fst (l:=[_]) hM
  exact wp_ret (ZP (VH hE rfl (Zx hE rfl) (Zx hE rfl) ⟨_,rfl,(Value.slice none 0 0),rfl,hM.outF (Hb KR),hM.kept⟩))
 ·intro hb9
  have hF:=ZA hF hb9
  refine wp_skip (ZG (Zd (Zj (cs:=enc p0) hE Za ld rfl Z8 rfl (hM.rawAt (pre:=[_,_])) (Zl (cl1 (n:=1) (m:=289) rfl (cl1 (n:=256) (m:=33) (Flat.len _) (cl1 (n:=16) (m:=17) (Flat.len _) (cl1 (n:=16) (m:=1) (Flat.len _) (cl1 (n:=1) (m:=0) rfl cl0)))))) ?_))); intro a hE
  obtain ⟨r11,e12,hF⟩:=bind_some hF
  refine Zo hE Za ld rfl cb87 (Ti _ p0 r11 e12) ?_
  rintro u13 w a ⟨_,rfl,hFr,hK⟩ hE
  have hM:=hM.add hK hFr
  refine BO (κ:=(Vector UInt8 16)) (α:=(List Int)) (S:=NoB) (fun x : Vector UInt8 16=>Value.agg (enc x).toArray) KD hE hM noB Za ld fun b14 w a hM hE=>Ze hE Za ld rfl fun a hE=>Ze hE Za ld rfl fun a hE=>Zf (wp_seq (Zd (Zc hE Za ld rfl fun a hE=>Zf ?_)))
  obtain ⟨j16,hl17,hF18⟩:=bind_some hF
  refine Z0 (fun a w=>Env 68 a [(4,(ptr b3 0)),(8,u13),(9,(Value.map (some b14)))] ∧ M (Old w0) w0 w [Tj (fun x : Vector UInt8 16=>Value.agg (enc x).toArray) (Qd NoB) (j16 : (List ((Vector UInt8 16) × (List Int)))) b14,own NoB (r11 : (Ref Gengine)) [u13],raw b3 (enc p1)]) ?_ ?_
  ·skip
   refine wp_block ?_
   refine ZV (fun (s19 : (List ((Vector UInt8 16) × (List Int))) × Int) a w=>Env 68 a [(3,(ptr b1 0)),(4,(ptr b3 0)),(5,(ptr b5 0)),(8,u13),(9,(Value.map (some b14))),(22,vI s19.2)] ∧ M (Old w0) w0 w [Tj (fun x : Vector UInt8 16=>Value.agg (enc x).toArray) (Qd NoB) (s19.1 : (List ((Vector UInt8 16) × (List Int)))) b14,own NoB (r11 : (Ref Gengine)) [u13],raw b5 (enc p2),raw b3 (enc p1),raw b1 (cat [[vI p0.Field],enc p0.Box,enc p0.Mix,enc p0.Places,[vI p0.Rounds]])]) hl17 ⟨hE.sub ⟨rfl,rfl,rfl,rfl,rfl,rfl,trivial⟩,hM⟩ ?_
   rintro s19 a w ⟨hE,hM⟩ o22 hs20 hx21
   unfold XL at hs20
   refine Zd (Zm hE Za ld rfl rfl rfl fun a hE=>Zf (wp_seq ?_))
   refine Zv hE rfl ?_ ?_
   ·intro hb23
    have hs20:=ZB hs20 hb23
    refine wp_skip (ZG (wp_seq (wp_block (Zd (Zc hE Za ld rfl fun a hE=>Ze hE Za ld rfl fun a hE=>Zf (wp_seq ?_))))))
    obtain ⟨r25,e26,hs20⟩:=bind_some hs20
    obtain ⟨r27,e28,hs20⟩:=bind_some hs20
    obtain ⟨r30,e31,hs20⟩:=bind_some hs20
    refine Vj (n:=68) (hd:=[_,_,_,_,_,_,_,_,_,_]) (tl:=[_]) YS rfl rfl [25,26,27,28,29,30,31,32,33,11] (by decide) (fun D u w=>M (Old w0) w0 w ([Tj (fun x : Vector UInt8 16=>Value.agg (enc x).toArray) (Qd NoB) (s19.1 : (List ((Vector UInt8 16) × (List Int)))) b14,own NoB (r11 : (Ref Gengine)) [u13],raw b5 (enc p2),raw b3 (enc p1),raw b1 (cat [[vI p0.Field],enc p0.Box,enc p0.Mix,enc p0.Places,[vI p0.Rounds]])] ++ qL ([mkO 6 (fun v=>osl NoB (r27 : List (Vector UInt8 16)) v),mkO 9 (fun v=>Qk v (enc (Vector.replicate 16 (0 : UInt8))))] : Mk) D u) ∧ GOk ([([],fun us v=>v = u13),([],fun us v=>v = u13),([],fun us v=>v = (vI s19.2)),([],fun us v=>v = (Value.agg (enc r25).toArray)),([],fun us v=>v = (ptr b1 (0 + 289))),([],fun us v=>v = (vI p0.Rounds)),([],fun us v=>True),([],fun us v=>v = (Value.agg (enc p2).toArray)),([],fun us v=>v = (Value.agg (enc r30).toArray)),([],fun us v=>True)] : Gs) D u) hE (fun u=>⟨M.qE (M.qE (M.q0 hM.drew u) emO) emO,KH⟩) (ZS (Zb ?_ (Zb ?_ (Zb ?_ (Zb ?_ (Zb ?_ (Zb ?_ (Zb ?_ (Zb ?_ (Zb ?_ (Zb ?_ ZL))))))))))) ?_
    ·intro a w ux24 D hE hI hD hdc hp
     have hM0:=hI.1
     exact Zc hE Za ld rfl fun a hE=>⟨_,_,rfl,hE,M.qKeep hM0 rfl,hI.2.put hD rfl ZR rfl⟩
    ·intro a w ux24 D hE hI hD hdc hp
     have hM0:=hI.1
     exact Zc hE Za ld rfl fun a hE=>⟨_,_,rfl,hE,M.qKeep hM0 rfl,hI.2.put hD rfl ZR rfl⟩
    ·intro a w ux24 D hE hI hD hdc hp
     have hM0:=hI.1
     exact Zc hE Za ld rfl fun a hE=>⟨_,_,rfl,hE,M.qKeep hM0 rfl,hI.2.put hD rfl ZR rfl⟩
    ·intro a w ux24 D hE hI hD hdc hp
     have d2 : D 2 = true:=hp 0 _ rfl rfl
     have g2:=hI.2 2 d2 _ rfl
     have f2 : ux24 2 = (vI s19.2):=g2.2
     have hM0:=hI.1
     refine Zo hE Za ld (Z1 (ZX (lk rfl f2) Xg)) cb89 (UK _ s19.2 r25 e26) ?_
     rintro v w a ⟨rfl,hK⟩ hE
     exact ⟨_,_,rfl,hE,M.qKeep (hM0.keep hK) rfl,hI.2.put hD rfl ZR rfl⟩
    ·intro a w ux24 D hE hI hD hdc hp
     have hM0:=hI.1
     exact Zr hE Za ld rfl (UL) fun a hE=>⟨_,_,rfl,hE,M.qKeep hM0 rfl,hI.2.put hD rfl ZR rfl⟩
    ·intro a w ux24 D hE hI hD hdc hp
     have d4 : D 4 = true:=hp 0 _ rfl rfl
     have g4:=hI.2 4 d4 _ rfl
     have f4 : ux24 4 = (ptr b1 (0 + 289)):=g4.2
     have hM0:=hI.1
     have hM:=hI.1
     exact ZF (v:=(vI p0.Rounds)) hE Za ld (lk rfl f4) ty2 rfl (At.cat (pre:=[[vI p0.Field],enc p0.Box,enc p0.Mix,enc p0.Places]) (hM.rawAt (pre:=[_,_,_,_])) (cl1 (n:=1) (m:=288) rfl (cl1 (n:=256) (m:=32) (Flat.len _) (cl1 (n:=16) (m:=16) (Flat.len _) (cl1 (n:=16) (m:=0) (Flat.len _) cl0))))) fun a hE=>⟨_,_,rfl,hE,M.qKeep hM0 rfl,hI.2.put hD rfl ZR rfl⟩
    ·intro a w ux24 D hE hI hD hdc hp
     have d1 : D 1 = true:=hp 0 _ rfl rfl
     have g1:=hI.2 1 d1 _ rfl
     have f1 : ux24 1 = u13:=g1.2
     have d3 : D 3 = true:=hp 1 _ rfl rfl
     have g3:=hI.2 3 d3 _ rfl
     have f3 : ux24 3 = (Value.agg (enc r25).toArray):=g3.2
     have d5 : D 5 = true:=hp 2 _ rfl rfl
     have g5:=hI.2 5 d5 _ rfl
     have f5 : ux24 5 = (vI p0.Rounds):=g5.2
     have hM0:=hI.1
     have hM:=hI.1
     refine Zo hE Za ld (Z1 (ZX (lk rfl f1) (ZX (lk rfl f3) (ZX (lk rfl f5) Xg)))) cb94 (UO _ r11 u13 (hM.ro (pre:=[_]) noB) r25 p0.Rounds r27 e28) ?_
     rintro _ w a ⟨_,rfl,hFr,hK⟩ hE
     have hM:=hM0.add hK hFr
     exact ⟨_,_,rfl,hE,M.qFill (mk1:=[]) (mk2:=[_]) (f:=(fun v=>osl NoB (r27 : List (Vector UInt8 16)) v)) hM rfl hD,hI.2.put hD rfl ZR trivial⟩
    ·intro a w ux24 D hE hI hD hdc hp
     have hM0:=hI.1
     have hM:=hI.1
     exact Zj (cs:=enc p2) hE Za ld rfl Zw rfl (hM.rawAt (pre:=[_,_])) (Flat.len _) fun a hE=>⟨_,_,rfl,hE,M.qKeep hM0 rfl,hI.2.put hD rfl ZR rfl⟩
    ·intro a w ux24 D hE hI hD hdc hp
     have d0 : D 0 = true:=hp 0 _ rfl rfl
     have g0:=hI.2 0 d0 _ rfl
     have f0 : ux24 0 = u13:=g0.2
     have d6 : D 6 = true:=hp 1 _ rfl rfl
     have g6:=hI.2 6 d6 _ rfl
     have d7 : D 7 = true:=hp 2 _ rfl rfl
     have g7:=hI.2 7 d7 _ rfl
     have f7 : ux24 7 = (Value.agg (enc p2).toArray):=g7.2
     have hM0:=hI.1
     have hM:=hI.1.sure (pre:=[_,_,_,_,_]) d6
     refine Zo hE Za ld (Z1 (ZX (lk rfl f0) (ZX rfl (ZX (lk rfl f7) Xg)))) cb93 (T4 _ r11 u13 (hM.ro (pre:=[_]) noB) r27 (ux24 6) (hM.sl (pre:=[_,_,_,_,_]) noB) p2 r30 e31) ?_
     rintro v w a ⟨rfl,hK⟩ hE
     exact ⟨_,_,rfl,hE,M.qKeep (hM0.keep hK) rfl,hI.2.put hD rfl ZR rfl⟩
    ·intro a w ux24 D hE hI hD hdc hp
     have hM0:=hI.1
     have hM:=hI.1
     refine Zu hE hM Za ld Zw ?_; intro b32 w a hM hE
     have hM:=hM.pack1 (it:=Qk _ (enc (Vector.replicate 16 (0 : UInt8)))) (fun w w' fp ⟨b',e,k⟩ hb=>⟨b',e,U1 w w' fp k hb⟩) (fun fp k=>⟨_,rfl,k⟩)
     exact ⟨_,_,rfl,hE,M.qFill (mk1:=[_]) (mk2:=[]) (f:=fun v=>Qk v (enc (Vector.replicate 16 (0 : UInt8)))) hM rfl hD,hI.2.put hD rfl ZR trivial⟩
    ·intro a w ux24 D hE hI hall
     have hM : M (Old w0) w0 w [Tj (fun x : Vector UInt8 16=>Value.agg (enc x).toArray) (Qd NoB) (s19.1 : (List ((Vector UInt8 16) × (List Int)))) b14,own NoB (r11 : (Ref Gengine)) [u13],raw b5 (enc p2),raw b3 (enc p1),raw b1 (cat [[vI p0.Field],enc p0.Box,enc p0.Mix,enc p0.Places,[vI p0.Rounds]]),opt (D 6) (osl NoB (r27 : List (Vector UInt8 16)) (ux24 6)),opt (D 9) (Qk (ux24 9) (enc (Vector.replicate 16 (0 : UInt8))))]:=hI.1
     have d0 : D 0 = true:=hall 0 (by decide)
     have d1 : D 1 = true:=hall 1 (by decide)
     have d2 : D 2 = true:=hall 2 (by decide)
     have d3 : D 3 = true:=hall 3 (by decide)
     have d4 : D 4 = true:=hall 4 (by decide)
     have d5 : D 5 = true:=hall 5 (by decide)
     have d6 : D 6 = true:=hall 6 (by decide)
     have d7 : D 7 = true:=hall 7 (by decide)
     have d8 : D 8 = true:=hall 8 (by decide)
     have d9 : D 9 = true:=hall 9 (by decide)
     have f0 : ux24 0 = u13:=(hI.2 0 d0 _ rfl).2
     have f1 : ux24 1 = u13:=(hI.2 1 d1 _ rfl).2
     have f2 : ux24 2 = (vI s19.2):=(hI.2 2 d2 _ rfl).2
     have f3 : ux24 3 = (Value.agg (enc r25).toArray):=(hI.2 3 d3 _ rfl).2
     have f4 : ux24 4 = (ptr b1 (0 + 289)):=(hI.2 4 d4 _ rfl).2
     have f5 : ux24 5 = (vI p0.Rounds):=(hI.2 5 d5 _ rfl).2
     have f7 : ux24 7 = (Value.agg (enc p2).toArray):=(hI.2 7 d7 _ rfl).2
     have f8 : ux24 8 = (Value.agg (enc r30).toArray):=(hI.2 8 d8 _ rfl).2
     have hM:=((hM.sure (pre:=[_,_,_,_,_]) d6).sure (pre:=[_,_,_,_,_,_]) d9).pull
     obtain ⟨_,⟨b34,f35,_⟩,_⟩:=hM.head
     have hM:=hM.pack1 U1 (it:=raw b34 (enc (Vector.replicate 16 (0 : UInt8)))) (fun fp ⟨b2,e2,k2⟩=>by rw [f35] at e2; simp [ptr] at e2; subst e2; exact k2)
     have hE:=hE.sub (e':=[(31,(ux24 6)),(33,(Value.agg (enc r30).toArray)),(11,(ptr b34 0)),(3,(ptr b1 0)),(4,(ptr b3 0)),(5,(ptr b5 0)),(8,u13),(9,(Value.map (some b14))),(10,vI s19.2),(22,vI s19.2),(23,(vT (decide (s19.2 < 256)))),(24,vI s19.2)]) ⟨rfl,lk rfl f8,lk rfl f35,rfl,rfl,rfl,rfl,rfl,rfl,rfl,rfl,rfl,trivial⟩
     refine Zi (seg:=enc r30) (cs':=enc r30) hE hM Za rfl rfl rfl Zw (Flat.len _) (zle flq) (Flat.cell _) (Zg flq) fun w a hM hE=>Zk (ZG (wp_region_lit (Zc hE Za ld rfl fun a hE=>Zj (cs:=enc r30) hE Za ld rfl Zw rfl (hM.rawAt (pre:=[])) (Flat.len _) fun a hE=>Zc hE Za ld rfl fun a hE=>YM (xs:=[.tmp 37]) (l:=([s19.2] : List Int)) (vs:=[vI s19.2]) hE hM Za ld rfl rfl Try.underlying138 ty2 rfl (by decide) rfl ?_))); intro u36 w a hM hE
     have hM:=hM.pull (pre:=[_,_])
     refine A8 (Hm Try.underlying62 Try.underlying5 ty5 rfl (Q6 Try.underlying62 ty5 rfl false rfl (by decide) (Qn Try.underlying5)) (by decide)) hE hM Za ld rfl rfl Try.underlying134 (fun _=>jr (by kernel_rfl) _) fun u38 n40 w a hM hE=>Zy hE Za ld rfl rfl ?_; intro a hE
     obtain ⟨l41,e42,hs20⟩:=bind_some hs20
     obtain ⟨e45,rfl⟩:=T0 e42
     refine Td hE hM Za ld rfl rfl (hM.sl (pre:=[_,_]) noB) Try.underlying138 ty2 rfl (by decide) e45 fun u43 w a hM hE=>Zy hE Za ld rfl rfl ?_; intro a hE
     have hM:=(hM.pull (pre:=[_])).pull (pre:=[_])
     refine Ak hE hM Za rfl rfl rfl fun w a hM hE=>Zk (Yj (ZG (wp_region_lit (Zm hE Za ld rfl rfl rfl fun a hE=>Zc hE Za ld rfl fun a hE=>Zk (Zn ?_)))))
     have hM:=M.fst (l:=[_,_,_,_,_]) (((((hM.pull (pre:=[_,_,_,_,_,_])).pull (pre:=[_,_,_,_,_,_])).pull (pre:=[_,_,_,_,_,_])).pull (pre:=[_,_,_,_,_,_])).pull (pre:=[_,_,_,_]))
     exact ⟨_,(ois hs20),hE.sub ⟨rfl,rfl,rfl,rfl,rfl,rfl,trivial⟩,hM⟩
   ·intro hb23
    have hs20:=ZA hs20 hb23
    refine wp_exit (Zs (Zs (Yz ?_)))
    have ht46:=hx21 _ (ois hs20)
    subst ht46
    refine Zn ?_
    have hM:=M.fst (l:=[_,_,_]) (((hM.pull (pre:=[_,_,_])).pull (pre:=[_,_])).pull (pre:=[_,_]))
    exact ⟨hE.sub ⟨rfl,rfl,rfl,trivial⟩,hM⟩
  ·skip
   rintro a w ⟨hE,hM⟩
   refine ZG (Zd (YM (xs:=[]) (l:=([] : List GMeeting)) (vs:=[]) hE hM Za ld rfl rfl Try.underlying69 Kr rfl (by decide) rfl fun u47 w a hM hE=>Ze hE Za ld rfl fun a hE=>Zf (wp_seq (Zd (Zc hE Za ld rfl fun a hE=>Zf ?_)))))
   obtain ⟨j49,hl50,hF51⟩:=bind_some hF18
   refine Z0 (fun a w=>∃ (u52 : Value),Env 68 a [(12,u52)] ∧ M (Old w0) w0 w [osl NoB (j49 : List GMeeting) u52]) ?_ ?_
   ·skip
    refine wp_block ?_
    have hM:=((hM.pull (pre:=[_,_,_])).pull (pre:=[_,_,_])).pull (pre:=[_,_,_])
    refine ZV (fun (s54 : (List GMeeting) × Int) a w=>∃ (u55 : Value),Env 68 a [(4,(ptr b3 0)),(8,u13),(9,(Value.map (some b14))),(12,u55),(44,vI s54.2)] ∧ M (Old w0) w0 w [Tj (fun x : Vector UInt8 16=>Value.agg (enc x).toArray) (Qd NoB) (j16 : (List ((Vector UInt8 16) × (List Int)))) b14,own NoB (r11 : (Ref Gengine)) [u13],raw b3 (enc p1),osl NoB (s54.1 : List GMeeting) u55]) hl50 ⟨u47,hE.sub ⟨rfl,rfl,rfl,rfl,rfl,trivial⟩,hM⟩ ?_
    rintro s54 a w ⟨u55,hE,hM⟩ o59 hs57 hx58
    unfold XF at hs57
    refine Zd (Zm hE Za ld rfl rfl rfl fun a hE=>Zf (wp_seq ?_))
    refine Zv hE rfl ?_ ?_
    ·intro hb60
     have hs57:=ZB hs57 hb60
     refine wp_skip (ZG (wp_seq (wp_block (Zd (Zc hE Za ld rfl fun a hE=>Ze hE Za ld rfl fun a hE=>Zf ?_)))))
     obtain ⟨j61,hl62,hF63⟩:=bind_some hs57
     refine ZT (fun a w=>∃ (u64 : Value),Env 68 a [(4,(ptr b3 0)),(8,u13),(9,(Value.map (some b14))),(12,u55),(13,vI s54.2),(44,vI s54.2),(53,u64),(54,vI j61.2.1),(55,vI j61.2.2)] ∧ M (Old w0) w0 w [mapV (fun x : Vector UInt8 16=>Value.agg (enc x).toArray) (Qd NoB) (j16 : (List ((Vector UInt8 16) × (List Int)))) j61.1 u64 b14,own NoB (r11 : (Ref Gengine)) [u13],raw b3 (enc p1),osl NoB (s54.1 : List GMeeting) u55]) ?_ ?_
     ·skip
      obtain ⟨r66,e67,hl62⟩:=bind_some hl62
      obtain ⟨r68,e69,hl62⟩:=bind_some hl62
      refine Yw (n:=68) (hd:=[_,_,_,_,_,_,_,_,_]) (tl:=[]) YS rfl rfl [47,48,49,50,51,52,53,54,55] (by decide) (fun w=>M (Old w0) w0 w [Tj (fun x : Vector UInt8 16=>Value.agg (enc x).toArray) (Qd NoB) (j16 : (List ((Vector UInt8 16) × (List Int)))) b14,own NoB (r11 : (Ref Gengine)) [u13],raw b3 (enc p1),osl NoB (s54.1 : List GMeeting) u55]) (fun j=>([fun v _=>v = (Value.map (some b14)),fun v _=>v = u13,fun v _=>v = (vI s54.2),fun v _=>v = (Value.agg (enc r66).toArray),fun v _=>v = (Value.agg (enc p1).toArray),fun v _=>v = (Value.agg (enc r68).toArray),fun v w=>T1 j16 r68 b14 v w,fun v _=>v = (vI (((WN j16 r68).getD []).length : Int)),fun v _=>v = (vI 0)] : List (Value → World → Prop)).getD j (fun _ _=>True)) (fun _ _ h hk=>h.keep hk) (gup (Zp (Zp (Zp (Zp (Zp (Zp (gupK (Zp (Zp Vq)))))))))) hE hM.drew (ZS (Zb ?_ (Zb ?_ (Zb ?_ (Zb ?_ (Zb ?_ (Zb ?_ (Zb ?_ (Zb ?_ (Zb ?_ ZL)))))))))) ?_
      ·exact fun a w ux65 hE hM hp=>Zc hE Za ld rfl fun a hE=>⟨Kept.refl _ _,_,_,rfl,hE,rfl⟩
      ·exact fun a w ux65 hE hM hp=>Zc hE Za ld rfl fun a hE=>⟨Kept.refl _ _,_,_,rfl,hE,rfl⟩
      ·exact fun a w ux65 hE hM hp=>Zc hE Za ld rfl fun a hE=>⟨Kept.refl _ _,_,_,rfl,hE,rfl⟩
      ·intro a w ux65 hE hM hp
       have f2 : ux65 2 = (vI s54.2):=hp 0 _ rfl rfl
       refine Zo hE Za ld (Z1 (ZX (lk rfl f2) Xg)) cb89 (UK _ s54.2 r66 e67) ?_
       rintro v w a ⟨rfl,hK⟩ hE
       exact ⟨hK,_,_,rfl,hE,rfl⟩
      ·exact fun a w ux65 hE hM hp=>Zj (cs:=enc p1) hE Za ld rfl Zw rfl (hM.rawAt (pre:=[_,_])) (Flat.len _) fun a hE=>⟨Kept.refl _ _,_,_,rfl,hE,rfl⟩
      ·intro a w ux65 hE hM hp
       have f1 : ux65 1 = u13:=hp 0 _ rfl rfl
       have f3 : ux65 3 = (Value.agg (enc r66).toArray):=hp 1 _ rfl rfl
       have f4 : ux65 4 = (Value.agg (enc p1).toArray):=hp 2 _ rfl rfl
       refine Zo hE Za ld (Z1 (ZX (lk rfl f1) (ZX (lk rfl f3) (ZX (lk rfl f4) Xg)))) cb88 (VI _ r11 u13 (hM.ro (pre:=[_]) noB) r66 p1 r68 e69) ?_
       rintro v w a ⟨rfl,hK⟩ hE
       exact ⟨hK,_,_,rfl,hE,rfl⟩
      ·intro a w ux65 hE hM hp
       have f0 : ux65 0 = (Value.map (some b14)):=hp 0 _ rfl rfl
       have f5 : ux65 5 = (Value.agg (enc r68).toArray):=hp 1 _ rfl rfl
       exact yk (pre:=[]) (Hm Try.underlying62 Try.underlying5 ty5 rfl (Q6 Try.underlying62 ty5 rfl false rfl (by decide) (Qn Try.underlying5)) (by decide)) hE hM Za ld (lk rfl f0) (lk rfl f5) Try.underlying134 (jr (by kernel_rfl) _) fun v a hL hE=>⟨Kept.refl _ _,_,_,rfl,hE,hL⟩
      ·intro a w ux65 hE hM hp
       have L6 : T1 j16 r68 b14 (ux65 6) w:=hp 0 _ rfl rfl
       exact UU hE Za ld rfl Try.underlying138 (hM.lookRo (pre:=[]) L6) fun a hE=>⟨Kept.refl _ _,_,_,rfl,hE,rfl⟩
      ·exact fun a w ux65 hE hM hp=>Zc hE Za ld rfl fun a hE=>⟨Kept.refl _ _,_,_,rfl,hE,rfl⟩
      ·intro a w ux65 hE hM hg
       have L6 : T1 j16 r68 b14 (ux65 6) w:=hg 6 (by decide)
       have hM:=hM.see (pre:=[]) KD noB L6
       have hE:=hE.sub (e':=[(53,(ux65 6)),(54,(vI (((WN j16 r68).getD []).length : Int))),(55,vI 0),(4,(ptr b3 0)),(8,u13),(9,(Value.map (some b14))),(12,u55),(13,vI s54.2),(44,vI s54.2),(45,(vT (decide (s54.2 < 256)))),(46,vI s54.2)]) ⟨rfl,lk rfl (hg 7 (by decide)),lk rfl (hg 8 (by decide)),rfl,rfl,rfl,rfl,rfl,rfl,rfl,rfl,trivial⟩
       refine Zk ?_
       have ht70:=Option.some.inj hl62
       subst ht70
       refine Zn ?_
       exact ⟨(ux65 6),hE.sub ⟨rfl,rfl,rfl,rfl,rfl,rfl,rfl,rfl,rfl,trivial⟩,hM⟩
     ·skip
      rintro a w ⟨u64,hE,hM⟩
      obtain ⟨j71,hl72,hF73⟩:=bind_some hF63
      refine Z0 (fun a w=>∃ (u74 : Value),Env 68 a [(4,(ptr b3 0)),(8,u13),(9,(Value.map (some b14))),(12,u74),(44,vI s54.2)] ∧ M (Old w0) w0 w [mapV (fun x : Vector UInt8 16=>Value.agg (enc x).toArray) (Qd NoB) (j16 : (List ((Vector UInt8 16) × (List Int)))) j61.1 u64 b14,own NoB (r11 : (Ref Gengine)) [u13],raw b3 (enc p1),osl NoB (j71 : List GMeeting) u74]) ?_ ?_
      ·skip
       refine wp_block ?_
       refine ZV (fun (s76 : (List GMeeting) × Int) a w=>∃ (u77 : Value),Env 68 a [(4,(ptr b3 0)),(8,u13),(9,(Value.map (some b14))),(12,u77),(13,vI s54.2),(44,vI s54.2),(53,u64),(54,vI j61.2.1),(55,vI s76.2)] ∧ M (Old w0) w0 w [mapV (fun x : Vector UInt8 16=>Value.agg (enc x).toArray) (Qd NoB) (j16 : (List ((Vector UInt8 16) × (List Int)))) j61.1 u64 b14,own NoB (r11 : (Ref Gengine)) [u13],raw b3 (enc p1),osl NoB (s76.1 : List GMeeting) u77]) hl72 ⟨u55,hE.sub ⟨rfl,rfl,rfl,rfl,rfl,rfl,rfl,rfl,rfl,trivial⟩,hM⟩ ?_
       rintro s76 a w ⟨u77,hE,hM⟩ o81 hs79 hx80
       unfold XJ at hs79
       refine Zd (Zm hE Za ld rfl rfl rfl fun a hE=>Zf (wp_seq ?_))
       refine Zv hE rfl ?_ ?_
       ·intro hb82
        have hs79:=ZB hs79 hb82
        refine wp_skip (ZG (wp_seq (wp_block (Zd ?_))))
        obtain ⟨x83,hi85,hs79⟩:=bix hs79
        refine Yv hE Za ld rfl rfl Try.underlying138 ty2 (hM.seeRo (pre:=[])) hi85.1 fun a hE=>ZF (v:=(vI x83)) hE Za ld rfl ty2 rfl (X9 (hM.seeRo (pre:=[])) hi85.2) fun a hE=>Ze hE Za ld rfl fun a hE=>Zf (wp_region_lit (Zc hE Za ld rfl fun a hE=>Zc hE Za ld rfl fun a hE=>Zc hE Za ld rfl fun a hE=>Te (parts:=[(0,.tmp 60),(1,.tmp 61)]) (vs:=[(0,vI s54.2),(1,vI x83)]) (cs:=cat [[vI s54.2],[vI x83]]) hE Za ld rfl rfl Kr pl73 (Xd (pre:=[]) (seg:=[vI 0]) (seg':=[vI s54.2]) (post:=[[vI 0]]) rfl cl0 rfl rfl rfl (Xd (pre:=[[vI s54.2]]) (seg:=[vI 0]) (seg':=[vI x83]) (post:=[]) rfl (cl1 (n:=1) (m:=0) rfl cl0) rfl rfl rfl Qj)) fun a hE=>YM (xs:=[.tmp 62]) (l:=([(⟨s54.2,x83⟩ : GMeeting)] : List GMeeting)) (vs:=[(Value.agg (enc (⟨s54.2,x83⟩ : GMeeting)).toArray)]) hE hM Za ld rfl rfl Try.underlying69 Kr rfl (by decide) rfl ?_)); intro u86 w a hM hE
        obtain ⟨l88,e89,hs79⟩:=bind_some hs79
        obtain ⟨e92,rfl⟩:=T0 e89
        have hM:=hM.pull (pre:=[_,_,_,_])
        refine Td hE hM Za ld rfl rfl (hM.sl (pre:=[_]) noB) Try.underlying69 Kr rfl (by decide) e92 fun u90 w a hM hE=>Ze hE Za ld rfl fun a hE=>Zk (Yj (ZG (wp_region_lit (Zm hE Za ld rfl rfl rfl fun a hE=>Zc hE Za ld rfl fun a hE=>Zk (Zn ?_)))))
        have hM:=M.fst (l:=[_,_,_,_]) (((hM.pull (pre:=[_,_,_,_])).pull (pre:=[_,_,_,_])).pull (pre:=[_,_,_,_]))
        exact ⟨_,(ois hs79),u90,hE.sub ⟨rfl,rfl,rfl,rfl,rfl,rfl,rfl,rfl,rfl,trivial⟩,hM⟩
       ·intro hb82
        have hs79:=ZA hs79 hb82
        refine wp_exit (Zs (Zs (Yz ?_)))
        have ht93:=hx80 _ (ois hs79)
        subst ht93
        refine Zn ?_
        exact ⟨u77,hE.sub ⟨rfl,rfl,rfl,rfl,rfl,trivial⟩,hM⟩
      ·skip
       rintro a w ⟨u74,hE,hM⟩
       refine Yj (ZG (wp_region_lit (Zm hE Za ld rfl rfl rfl fun a hE=>Zc hE Za ld rfl fun a hE=>Zk (Zn ?_))))
       have hM:=hM.unsee KD noB
       exact ⟨_,(ois hF73),u74,hE.sub ⟨rfl,rfl,rfl,rfl,rfl,trivial⟩,hM⟩
    ·intro hb60
     have hs57:=ZA hs57 hb60
     refine wp_exit (Zs (Zs (Yz ?_)))
     have ht94:=hx58 _ (ois hs57)
     subst ht94
     refine Zn ?_
     have hM:=M.fst (l:=[_]) (hM.pull (pre:=[_,_,_]))
     exact ⟨u55,hE.sub ⟨rfl,trivial⟩,hM⟩
   ·skip
    rintro a w ⟨u52,hE,hM⟩
    refine ZG (Zd (Zc hE Za ld rfl fun a hE=>Ze hE Za ld rfl fun a hE=>Ze hE Za ld rfl fun a hE=>Zf ?_))
    have hr:=Option.some.inj hF51
    subst hr
    exact wp_ret (VH hE rfl (Zx hE rfl) (Zx hE rfl) ⟨_,rfl,u52,rfl,hM.outF (Hb KR),hM.kept⟩)
def XK (p0 : (Vector UInt8 256)) (s10 : (Vector UInt8 256) × Int) : Option (Fl ((Vector UInt8 256) × Int) (Vector UInt8 256)) :=
 if (decide (s10.2 < 256)) = true then ((ZI p0 s10.2).bind fun x16=>(ZI s10.1 (bI x16)).bind fun x19=>some (Fl.nx ((s10.1.setIfInBounds ((bI x16)).toNat (ZE s10.2)),wr (s10.2 + 1)))) else (some (Fl.ex s10.1))
def W5 (p0 : (Vector UInt8 256)) : Option ((Vector UInt8 256)) :=
 (ZQ (XK p0) ((Vector.replicate 256 (0 : UInt8)),0)).bind fun j7=>some j7
theorem Ju (w0 : World) (p0 : (Vector UInt8 256)) (r : (Vector UInt8 256)) (hF : W5 p0 = some r) :
  Calls Try.prog 162 [(Value.agg (enc p0).toArray)].toArray w0 (fun en w'=>∃ v,en = .returned v ∧ (v = (Value.agg (enc r).toArray) ∧ Kept (Old w0) w0 w')):=by
 refine ZJ (n:=17) Try.func162 rfl rfl (nbl rfl) rfl ?_
 intro a hE
 have hM:=M.start w0
 unfold W5 at hF
 refine Zd (Z3 (cs:=enc p0) hE hM Za ld rfl rfl fun b1 w a hM hE=>Zu hE hM Za ld YC fun b3 w a hM hE=>Zf (Zd (Z7 (parts:=[]) (vs:=[]) (cs:=enc (Vector.replicate 256 (0 : UInt8))) hE Za ld rfl rfl YC rfl ty5 ZZ fun a hE=>Zu hE hM Za ld YC fun b5 w a hM hE=>Zi (seg:=enc (Vector.replicate 256 (0 : UInt8))) (cs':=enc (Vector.replicate 256 (0 : UInt8))) hE hM Za rfl rfl rfl YC (Flat.len _) (zle flq) (Flat.cell _) (Zg flq) fun w a hM hE=>Zf (wp_seq (Zd (Ze hE Za ld rfl fun a hE=>Zf ?_))))))
 obtain ⟨j7,hl8,hF9⟩:=bind_some hF
 refine Z0 (fun a w=>Env 17 a [(2,(ptr b3 0)),(3,(ptr b5 0))] ∧ M (Old w0) w0 w [raw b5 (enc j7),raw b3 (enc (Vector.replicate 256 (0 : UInt8)))]) ?_ ?_
 ·skip
  refine wp_block ?_
  refine ZV (fun (s10 : (Vector UInt8 256) × Int) a w=>Env 17 a [(1,(ptr b1 0)),(2,(ptr b3 0)),(3,(ptr b5 0)),(4,vI s10.2)] ∧ M (Old w0) w0 w [raw b5 (enc s10.1),raw b3 (enc (Vector.replicate 256 (0 : UInt8))),raw b1 (enc p0)]) hl8 ⟨hE.sub ⟨rfl,rfl,rfl,rfl,trivial⟩,hM⟩ ?_
  rintro s10 a w ⟨hE,hM⟩ o13 hs11 hx12
  unfold XK at hs11
  refine wp_seq (Zd (Zc hE Za ld rfl fun a hE=>Zm hE Za ld rfl rfl rfl fun a hE=>Zf ?_))
  refine Zv hE rfl ?_ ?_
  ·intro hb14
   have hs11:=ZB hs11 hb14
   refine wp_skip (ZG (wp_seq (wp_block (wp_region_lit (Zc hE Za ld rfl ?_))))); intro a hE
   obtain ⟨x16,hi15,hs11⟩:=bvx hs11
   refine Zh hE Za ld rfl rfl Try.underlying54 ty5 hi15.1 fun a hE=>ZF (v:=(vB x16)) hE Za ld rfl ty5 rfl (At.vec (hM.rawAt (pre:=[_,_])) hi15.2) fun a hE=>Zc hE Za ld rfl fun a hE=>Yg hE Za ld rfl Try.underlying3 Try.underlying5 ?_; intro a hE
   rw [Z6] at hE
   obtain ⟨x19,hi18,hs11⟩:=bvx hs11
   refine Zh hE Za ld rfl rfl Try.underlying54 ty5 hi18.1 fun a hE=>Zi (seg:=[(vB (ZE s10.2))]) (cs':=enc (s10.1.setIfInBounds ((bI x16)).toNat (ZE s10.2))) hE hM Za rfl rfl rfl ty5 rfl (ZN (v:=s10.1) (x:=ZE s10.2) hi18.1) (Flat.cell (ZE s10.2 : UInt8)) (ZD (v:=s10.1) (x:=ZE s10.2) hi18.1) fun w a hM hE=>Zk (Yj (ZG (wp_region_lit (Zc hE Za ld rfl fun a hE=>Zm hE Za ld rfl rfl rfl fun a hE=>Ze hE Za ld rfl fun a hE=>Zk (Zn ?_)))))
   exact ⟨_,(ois hs11),hE.sub ⟨rfl,rfl,rfl,rfl,trivial⟩,hM⟩
  ·intro hb14
   have hs11:=ZA hs11 hb14
   refine wp_exit (Zs (Zs (Yz ?_)))
   have ht21:=hx12 _ (ois hs11)
   subst ht21
   refine Zn ?_
   have hM:=M.fst (l:=[_,_]) ((hM.pull (pre:=[_])).pull (pre:=[_]))
   exact ⟨hE.sub ⟨rfl,rfl,trivial⟩,hM⟩
 ·skip
  rintro a w ⟨hE,hM⟩
  refine ZG (Zd (Zj (cs:=enc j7) hE Za ld rfl YC rfl (hM.rawAt (pre:=[])) (Flat.len _) ?_)); intro a hE
  have hM:=hM.pull (pre:=[_])
  refine Zi (seg:=enc j7) (cs':=enc j7) hE hM Za rfl rfl rfl YC (Flat.len _) (zle flq) (Flat.cell _) (Zg flq) fun w a hM hE=>Zf ?_
  have hr:=Option.some.inj hF9
  subst hr
  have hq22 : ZY Try.prog _ _ (.cell 2 54) _:=ZM hE rfl YC rfl (hM.rawAt (pre:=[])) (Flat.len _) rfl
  have hM:=M.fst (l:=[]) hM
  exact wp_ret (ZK hE rfl hq22 ⟨_,rfl,rfl,hM.kept⟩)
def WT (p0 : (Vector UInt8 16)) (s10 : (Vector UInt8 16) × Int) : Option (Fl ((Vector UInt8 16) × Int) (Vector UInt8 16)) :=
 if (decide (s10.2 < 16)) = true then ((ZI p0 s10.2).bind fun x16=>(ZI s10.1 (bI x16)).bind fun x19=>some (Fl.nx ((s10.1.setIfInBounds ((bI x16)).toNat (ZE s10.2)),wr (s10.2 + 1)))) else (some (Fl.ex s10.1))
def Uh (p0 : (Vector UInt8 16)) : Option ((Vector UInt8 16)) :=
 (ZQ (WT p0) ((Vector.replicate 16 (0 : UInt8)),0)).bind fun j7=>some j7
theorem HN (w0 : World) (p0 : (Vector UInt8 16)) (r : (Vector UInt8 16)) (hF : Uh p0 = some r) :
  Calls Try.prog 191 [(Value.agg (enc p0).toArray)].toArray w0 (fun en w'=>∃ v,en = .returned v ∧ (v = (Value.agg (enc r).toArray) ∧ Kept (Old w0) w0 w')):=by
 refine ZJ (n:=17) Try.func191 rfl rfl (nbl rfl) rfl ?_
 intro a hE
 have hM:=M.start w0
 unfold Uh at hF
 refine Zd (Z3 (cs:=enc p0) hE hM Za ld rfl rfl fun b1 w a hM hE=>Zu hE hM Za ld UY fun b3 w a hM hE=>Zf (Zd (Z7 (parts:=[]) (vs:=[]) (cs:=enc (Vector.replicate 16 (0 : UInt8))) hE Za ld rfl rfl UY rfl ty5 ZZ fun a hE=>Zu hE hM Za ld UY fun b5 w a hM hE=>Zi (seg:=enc (Vector.replicate 16 (0 : UInt8))) (cs':=enc (Vector.replicate 16 (0 : UInt8))) hE hM Za rfl rfl rfl UY (Flat.len _) (zle flq) (Flat.cell _) (Zg flq) fun w a hM hE=>Zf (wp_seq (Zd (Ze hE Za ld rfl fun a hE=>Zf ?_))))))
 obtain ⟨j7,hl8,hF9⟩:=bind_some hF
 refine Z0 (fun a w=>Env 17 a [(2,(ptr b3 0)),(3,(ptr b5 0))] ∧ M (Old w0) w0 w [raw b5 (enc j7),raw b3 (enc (Vector.replicate 16 (0 : UInt8)))]) ?_ ?_
 ·skip
  refine wp_block ?_
  refine ZV (fun (s10 : (Vector UInt8 16) × Int) a w=>Env 17 a [(1,(ptr b1 0)),(2,(ptr b3 0)),(3,(ptr b5 0)),(4,vI s10.2)] ∧ M (Old w0) w0 w [raw b5 (enc s10.1),raw b3 (enc (Vector.replicate 16 (0 : UInt8))),raw b1 (enc p0)]) hl8 ⟨hE.sub ⟨rfl,rfl,rfl,rfl,trivial⟩,hM⟩ ?_
  rintro s10 a w ⟨hE,hM⟩ o13 hs11 hx12
  unfold WT at hs11
  refine wp_seq (Zd (Zc hE Za ld rfl fun a hE=>Zm hE Za ld rfl rfl rfl fun a hE=>Zf ?_))
  refine Zv hE rfl ?_ ?_
  ·intro hb14
   have hs11:=ZB hs11 hb14
   refine wp_skip (ZG (wp_seq (wp_block (wp_region_lit (Zc hE Za ld rfl ?_))))); intro a hE
   obtain ⟨x16,hi15,hs11⟩:=bvx hs11
   refine Zh hE Za ld rfl rfl Try.underlying59 ty5 hi15.1 fun a hE=>ZF (v:=(vB x16)) hE Za ld rfl ty5 rfl (At.vec (hM.rawAt (pre:=[_,_])) hi15.2) fun a hE=>Zc hE Za ld rfl fun a hE=>Yg hE Za ld rfl Try.underlying3 Try.underlying5 ?_; intro a hE
   rw [Z6] at hE
   obtain ⟨x19,hi18,hs11⟩:=bvx hs11
   refine Zh hE Za ld rfl rfl Try.underlying59 ty5 hi18.1 fun a hE=>Zi (seg:=[(vB (ZE s10.2))]) (cs':=enc (s10.1.setIfInBounds ((bI x16)).toNat (ZE s10.2))) hE hM Za rfl rfl rfl ty5 rfl (ZN (v:=s10.1) (x:=ZE s10.2) hi18.1) (Flat.cell (ZE s10.2 : UInt8)) (ZD (v:=s10.1) (x:=ZE s10.2) hi18.1) fun w a hM hE=>Zk (Yj (ZG (wp_region_lit (Zc hE Za ld rfl fun a hE=>Zm hE Za ld rfl rfl rfl fun a hE=>Ze hE Za ld rfl fun a hE=>Zk (Zn ?_)))))
   exact ⟨_,(ois hs11),hE.sub ⟨rfl,rfl,rfl,rfl,trivial⟩,hM⟩
  ·intro hb14
   have hs11:=ZA hs11 hb14
   refine wp_exit (Zs (Zs (Yz ?_)))
   have ht21:=hx12 _ (ois hs11)
   subst ht21
   refine Zn ?_
   have hM:=M.fst (l:=[_,_]) ((hM.pull (pre:=[_])).pull (pre:=[_]))
   exact ⟨hE.sub ⟨rfl,rfl,trivial⟩,hM⟩
 ·skip
  rintro a w ⟨hE,hM⟩
  refine ZG (Zd (Zj (cs:=enc j7) hE Za ld rfl UY rfl (hM.rawAt (pre:=[])) (Flat.len _) ?_)); intro a hE
  have hM:=hM.pull (pre:=[_])
  refine Zi (seg:=enc j7) (cs':=enc j7) hE hM Za rfl rfl rfl UY (Flat.len _) (zle flq) (Flat.cell _) (Zg flq) fun w a hM hE=>Zf ?_
  have hr:=Option.some.inj hF9
  subst hr
  have hq22 : ZY Try.prog _ _ (.cell 2 59) _:=ZM hE rfl UY rfl (hM.rawAt (pre:=[])) (Flat.len _) rfl
  have hM:=M.fst (l:=[]) hM
  exact wp_ret (ZK hE rfl hq22 ⟨_,rfl,rfl,hM.kept⟩)
def Un (p0 : (Vector UInt8 16)) (p1 : (Vector UInt8 16)) : Option ((Vector UInt8 16)) :=
 ((Uh p0).bind fun r11=>(Wb r11 p1).bind fun r13=>some r13 : Option ((Vector UInt8 16))).bind fun j7=>some j7
theorem Bw (w0 : World) (p0 : (Vector UInt8 16)) (p1 : (Vector UInt8 16)) (r : (Vector UInt8 16)) (hF : Un p0 p1 = some r) :
  Calls Try.prog 163 [(Value.agg (enc p0).toArray),(Value.agg (enc p1).toArray)].toArray w0 (fun en w'=>∃ v,en = .returned v ∧ (v = (Value.agg (enc r).toArray) ∧ Kept (Old w0) w0 w')):=by
 refine ZJ (n:=9) Try.func163 rfl rfl (nbl rfl) rfl ?_
 intro a hE
 have hM:=M.start w0
 unfold Un at hF
 refine Zd (Z3 (cs:=enc p0) hE hM Za ld rfl rfl fun b1 w a hM hE=>Z3 (cs:=enc p1) hE hM Za ld rfl rfl fun b3 w a hM hE=>Zu hE hM Za ld Zw fun b5 w a hM hE=>Zf ?_)
 obtain ⟨j7,hl8,hF9⟩:=bind_some hF
 refine ZT (fun a w=>Env 9 a [(4,(ptr b5 0))] ∧ M (Old w0) w0 w [raw b5 (enc j7)]) ?_ ?_
 ·skip
  obtain ⟨r11,e12,hl8⟩:=bind_some hl8
  obtain ⟨r13,e14,hl8⟩:=bind_some hl8
  refine Yw (n:=9) (hd:=[_,_,_,_]) (tl:=[_]) YS rfl rfl [5,6,7,8] (by decide) (fun w=>M (Old w0) w0 w [raw b5 (enc (Vector.replicate 16 (0 : UInt8))),raw b3 (enc p1),raw b1 (enc p0)]) (fun j=>([fun v _=>v = (Value.agg (enc p0).toArray),fun v _=>v = (Value.agg (enc r11).toArray),fun v _=>v = (Value.agg (enc p1).toArray),fun v _=>v = (Value.agg (enc r13).toArray)] : List (Value → World → Prop)).getD j (fun _ _=>True)) (fun _ _ h hk=>h.keep hk) (gup (Zp (Zp (Zp (Zp Vq))))) hE hM.drew (ZS (Zb ?_ (Zb ?_ (Zb ?_ (Zb ?_ ZL))))) ?_
  ·exact fun a w ux10 hE hM hp=>Zj (cs:=enc p0) hE Za ld rfl UY rfl (hM.rawAt (pre:=[_,_])) (Flat.len _) fun a hE=>⟨Kept.refl _ _,_,_,rfl,hE,rfl⟩
  ·intro a w ux10 hE hM hp
   have f0 : ux10 0 = (Value.agg (enc p0).toArray):=hp 0 _ rfl rfl
   refine Zo hE Za ld (Z1 (ZX (lk rfl f0) Xg)) cb191 (HN _ p0 r11 e12) ?_
   rintro v w a ⟨rfl,hK⟩ hE
   exact ⟨hK,_,_,rfl,hE,rfl⟩
  ·exact fun a w ux10 hE hM hp=>Zj (cs:=enc p1) hE Za ld rfl Zw rfl (hM.rawAt (pre:=[_])) (Flat.len _) fun a hE=>⟨Kept.refl _ _,_,_,rfl,hE,rfl⟩
  ·intro a w ux10 hE hM hp
   have f1 : ux10 1 = (Value.agg (enc r11).toArray):=hp 0 _ rfl rfl
   have f2 : ux10 2 = (Value.agg (enc p1).toArray):=hp 1 _ rfl rfl
   refine Zo hE Za ld (Z1 (ZX (lk rfl f1) (ZX (lk rfl f2) Xg))) cb155 (Kl _ r11 p1 r13 e14) ?_
   rintro v w a ⟨rfl,hK⟩ hE
   exact ⟨hK,_,_,rfl,hE,rfl⟩
  ·intro a w ux10 hE hM hg
   have hE:=hE.sub (e':=[(8,(Value.agg (enc r13).toArray)),(4,(ptr b5 0))]) ⟨lk rfl (hg 3 (by decide)),rfl,trivial⟩
   refine Zi (seg:=enc r13) (cs':=enc r13) hE hM Za rfl rfl rfl Zw (Flat.len _) (zle flq) (Flat.cell _) (Zg flq) fun w a hM hE=>Zk ?_
   have ht15:=Option.some.inj hl8
   subst ht15
   refine Zn ?_
   have hM:=M.fst (l:=[_]) hM
   exact ⟨hE.sub ⟨rfl,trivial⟩,hM⟩
 ·skip
  rintro a w ⟨hE,hM⟩
  have hr:=Option.some.inj hF9
  subst hr
  have hq16 : ZY Try.prog _ _ (.cell 4 62) _:=ZM hE rfl Zw rfl (hM.rawAt (pre:=[])) (Flat.len _) rfl
  have hM:=M.fst (l:=[]) hM
  exact wp_ret (ZK hE rfl hq16 ⟨_,rfl,rfl,hM.kept⟩)
def Xr (p0 : GCipher) (p3 : Int) (r10 : (List (Vector UInt8 16))) (r13 : (Vector UInt8 256)) (r19 : (Vector (Vector UInt8 4) 4) × Bool) (s26 : (Vector UInt8 16) × Int) : Option (Fl ((Vector UInt8 16) × Int) (Vector UInt8 16)) :=
 if (decide (s26.2 ≥ 1)) = true then ((((idx r10 s26.2).bind fun x38=>(Wr s26.1 x38).bind fun r41=>some r41 : Option ((Vector UInt8 16))).bind fun j34=>(if (decide (s26.2 < p3)) = true then ((VY p0.Field r19.1 j34).bind fun r48=>some r48) else (some j34) : Option ((Vector UInt8 16))).bind fun j44=>(Un p0.Places j44).bind fun r53=>(WV r13 r53).bind fun r55=>some r55 : Option ((Vector UInt8 16))).bind fun j31=>some (Fl.nx (j31,wr (s26.2 - 1)))) else (some (Fl.ex s26.1))
def XS (p0 : GCipher) (p1 : (Vector UInt8 16)) (p2 : (Vector UInt8 16)) (p3 : Int) : Option ((Vector UInt8 16)) :=
 (Vv p0 p1 p3).bind fun r10=>(W5 p0.Box).bind fun r13=>(Xj p0.Field p0.Mix).bind fun r19=>(ZQ (Xr p0 p3 r10 r13 r19) (p2,p3)).bind fun j23=>((idx r10 (0 : Int)).bind fun x63=>(Wr j23 x63).bind fun r66=>some r66 : Option ((Vector UInt8 16))).bind fun j59=>some j59
theorem KW (w0 : World) (p0 : GCipher) (p1 : (Vector UInt8 16)) (p2 : (Vector UInt8 16)) (p3 : Int) (r : (Vector UInt8 16)) (hF : XS p0 p1 p2 p3 = some r) :
  Calls Try.prog 95 [(Value.agg (enc p0).toArray),(Value.agg (enc p1).toArray),(Value.agg (enc p2).toArray),vI p3].toArray w0 (fun en w'=>∃ v,en = .returned v ∧ (v = (Value.agg (enc r).toArray) ∧ Kept (Old w0) w0 w')):=by
 refine ZJ (n:=59) Try.func95 rfl rfl (nbl rfl) rfl ?_
 intro a hE
 have hM:=M.start w0
 unfold XS at hF
 refine Zd (Z3 (cs:=cat [[vI p0.Field],enc p0.Box,enc p0.Mix,enc p0.Places,[vI p0.Rounds]]) hE hM Za ld rfl rfl fun b1 w a hM hE=>Z3 (cs:=enc p1) hE hM Za ld rfl rfl fun b3 w a hM hE=>Z3 (cs:=enc p2) hE hM Za ld rfl rfl fun b5 w a hM hE=>Zu hE hM Za ld Zw fun b7 w a hM hE=>Zf (wp_seq ?_))
 obtain ⟨r10,e11,hF⟩:=bind_some hF
 obtain ⟨r13,e14,hF⟩:=bind_some hF
 refine Vj (n:=59) (hd:=[_,_,_,_,_,_,_,_]) (tl:=[_,_]) YS rfl rfl [14,15,16,17,18,19,20,10] (by decide) (fun D u w=>M (Old w0) w0 w ([raw b7 (enc (Vector.replicate 16 (0 : UInt8))),raw b5 (enc p2),raw b3 (enc p1),raw b1 (cat [[vI p0.Field],enc p0.Box,enc p0.Mix,enc p0.Places,[vI p0.Rounds]])] ++ qL ([mkO 3 (fun v=>osl NoB (r10 : List (Vector UInt8 16)) v),mkO 7 (fun v=>Qk v (enc (Vector.replicate 256 (0 : UInt8))))] : Mk) D u) ∧ GOk ([([],fun us v=>v = (Value.agg (enc p0).toArray)),([],fun us v=>v = (Value.agg (enc p1).toArray)),([],fun us v=>v = (vI p3)),([],fun us v=>True),([],fun us v=>v = (ptr b1 (0 + 1))),([],fun us v=>v = (Value.agg (enc p0.Box).toArray)),([],fun us v=>v = (Value.agg (enc r13).toArray)),([],fun us v=>True)] : Gs) D u) hE (fun u=>⟨M.qE (M.qE (M.q0 hM.drew u) emO) emO,KH⟩) (ZS (Zb ?_ (Zb ?_ (Zb ?_ (Zb ?_ (Zb ?_ (Zb ?_ (Zb ?_ (Zb ?_ ZL))))))))) ?_
 ·intro a w ux9 D hE hI hD hdc hp
  have hM0:=hI.1
  have hM:=hI.1
  exact Zj (cs:=enc p0) hE Za ld rfl Z8 rfl (hM.rawAt (pre:=[_,_,_])) (Zl (cl1 (n:=1) (m:=289) rfl (cl1 (n:=256) (m:=33) (Flat.len _) (cl1 (n:=16) (m:=17) (Flat.len _) (cl1 (n:=16) (m:=1) (Flat.len _) (cl1 (n:=1) (m:=0) rfl cl0)))))) fun a hE=>⟨_,_,rfl,hE,M.qKeep hM0 rfl,hI.2.put hD rfl ZR rfl⟩
 ·intro a w ux9 D hE hI hD hdc hp
  have hM0:=hI.1
  have hM:=hI.1
  exact Zj (cs:=enc p1) hE Za ld rfl Zw rfl (hM.rawAt (pre:=[_,_])) (Flat.len _) fun a hE=>⟨_,_,rfl,hE,M.qKeep hM0 rfl,hI.2.put hD rfl ZR rfl⟩
 ·intro a w ux9 D hE hI hD hdc hp
  have hM0:=hI.1
  exact Zc hE Za ld rfl fun a hE=>⟨_,_,rfl,hE,M.qKeep hM0 rfl,hI.2.put hD rfl ZR rfl⟩
 ·intro a w ux9 D hE hI hD hdc hp
  have d0 : D 0 = true:=hp 0 _ rfl rfl
  have g0:=hI.2 0 d0 _ rfl
  have f0 : ux9 0 = (Value.agg (enc p0).toArray):=g0.2
  have d1 : D 1 = true:=hp 1 _ rfl rfl
  have g1:=hI.2 1 d1 _ rfl
  have f1 : ux9 1 = (Value.agg (enc p1).toArray):=g1.2
  have d2 : D 2 = true:=hp 2 _ rfl rfl
  have g2:=hI.2 2 d2 _ rfl
  have f2 : ux9 2 = (vI p3):=g2.2
  have hM0:=hI.1
  have hM:=hI.1
  refine Zo hE Za ld (Z1 (ZX (lk rfl f0) (ZX (lk rfl f1) (ZX (lk rfl f2) Xg)))) cb153 (Ko _ p0 p1 p3 r10 e11) ?_
  rintro _ w a ⟨_,rfl,hFr,hK⟩ hE
  have hM:=hM0.add hK hFr
  exact ⟨_,_,rfl,hE,M.qFill (mk1:=[]) (mk2:=[_]) (f:=(fun v=>osl NoB (r10 : List (Vector UInt8 16)) v)) hM rfl hD,hI.2.put hD rfl ZR trivial⟩
 ·intro a w ux9 D hE hI hD hdc hp
  have hM0:=hI.1
  exact Zr hE Za ld rfl (TX) fun a hE=>⟨_,_,rfl,hE,M.qKeep hM0 rfl,hI.2.put hD rfl ZR rfl⟩
 ·intro a w ux9 D hE hI hD hdc hp
  have d4 : D 4 = true:=hp 0 _ rfl rfl
  have g4:=hI.2 4 d4 _ rfl
  have f4 : ux9 4 = (ptr b1 (0 + 1)):=g4.2
  have hM0:=hI.1
  have hM:=hI.1
  exact Zj (cs:=enc p0.Box) hE Za ld (lk rfl f4) YC rfl (At.cat (pre:=[[vI p0.Field]]) (hM.rawAt (pre:=[_,_,_])) (cl1 (n:=1) (m:=0) rfl cl0)) (Flat.len _) fun a hE=>⟨_,_,rfl,hE,M.qKeep hM0 rfl,hI.2.put hD rfl ZR rfl⟩
 ·intro a w ux9 D hE hI hD hdc hp
  have d5 : D 5 = true:=hp 0 _ rfl rfl
  have g5:=hI.2 5 d5 _ rfl
  have f5 : ux9 5 = (Value.agg (enc p0.Box).toArray):=g5.2
  have hM0:=hI.1
  refine Zo hE Za ld (Z1 (ZX (lk rfl f5) Xg)) cb162 (Ju _ p0.Box r13 e14) ?_
  rintro v w a ⟨rfl,hK⟩ hE
  exact ⟨_,_,rfl,hE,M.qKeep (hM0.keep hK) rfl,hI.2.put hD rfl ZR rfl⟩
 ·intro a w ux9 D hE hI hD hdc hp
  have hM0:=hI.1
  have hM:=hI.1
  refine Zu hE hM Za ld YC ?_; intro b15 w a hM hE
  have hM:=hM.pack1 (it:=Qk _ (enc (Vector.replicate 256 (0 : UInt8)))) (fun w w' fp ⟨b',e,k⟩ hb=>⟨b',e,U1 w w' fp k hb⟩) (fun fp k=>⟨_,rfl,k⟩)
  exact ⟨_,_,rfl,hE,M.qFill (mk1:=[_]) (mk2:=[]) (f:=fun v=>Qk v (enc (Vector.replicate 256 (0 : UInt8)))) hM rfl hD,hI.2.put hD rfl ZR trivial⟩
 ·intro a w ux9 D hE hI hall
  have hM : M (Old w0) w0 w [raw b7 (enc (Vector.replicate 16 (0 : UInt8))),raw b5 (enc p2),raw b3 (enc p1),raw b1 (cat [[vI p0.Field],enc p0.Box,enc p0.Mix,enc p0.Places,[vI p0.Rounds]]),opt (D 3) (osl NoB (r10 : List (Vector UInt8 16)) (ux9 3)),opt (D 7) (Qk (ux9 7) (enc (Vector.replicate 256 (0 : UInt8))))]:=hI.1
  have d0 : D 0 = true:=hall 0 (by decide)
  have d1 : D 1 = true:=hall 1 (by decide)
  have d2 : D 2 = true:=hall 2 (by decide)
  have d3 : D 3 = true:=hall 3 (by decide)
  have d4 : D 4 = true:=hall 4 (by decide)
  have d5 : D 5 = true:=hall 5 (by decide)
  have d6 : D 6 = true:=hall 6 (by decide)
  have d7 : D 7 = true:=hall 7 (by decide)
  have f0 : ux9 0 = (Value.agg (enc p0).toArray):=(hI.2 0 d0 _ rfl).2
  have f1 : ux9 1 = (Value.agg (enc p1).toArray):=(hI.2 1 d1 _ rfl).2
  have f2 : ux9 2 = (vI p3):=(hI.2 2 d2 _ rfl).2
  have f4 : ux9 4 = (ptr b1 (0 + 1)):=(hI.2 4 d4 _ rfl).2
  have f5 : ux9 5 = (Value.agg (enc p0.Box).toArray):=(hI.2 5 d5 _ rfl).2
  have f6 : ux9 6 = (Value.agg (enc r13).toArray):=(hI.2 6 d6 _ rfl).2
  have hM:=((hM.sure (pre:=[_,_,_,_]) d3).sure (pre:=[_,_,_,_,_]) d7).pull
  obtain ⟨_,⟨b17,f18,_⟩,_⟩:=hM.head
  have hM:=hM.pack1 U1 (it:=raw b17 (enc (Vector.replicate 256 (0 : UInt8)))) (fun fp ⟨b2,e2,k2⟩=>by rw [f18] at e2; simp [ptr] at e2; subst e2; exact k2)
  have hE:=hE.sub (e':=[(17,(ux9 3)),(20,(Value.agg (enc r13).toArray)),(10,(ptr b17 0)),(3,vI p3),(4,(ptr b1 0)),(6,(ptr b5 0)),(8,(ptr b7 0))]) ⟨rfl,lk rfl f6,lk rfl f18,rfl,rfl,rfl,rfl,trivial⟩
  refine Ze hE Za ld rfl fun a hE=>Zi (seg:=enc r13) (cs':=enc r13) hE hM Za rfl rfl rfl YC (Flat.len _) (zle flq) (Flat.cell _) (Zg flq) fun w a hM hE=>Zk (ZG (Zd (Zr hE Za ld rfl (Tg) fun a hE=>ZF (v:=(vI p0.Field)) hE Za ld rfl ty2 rfl (At.cat (pre:=[]) (hM.rawAt (pre:=[_,_,_,_])) cl0) fun a hE=>Zr hE Za ld rfl (TF) fun a hE=>Zj (cs:=enc p0.Mix) hE Za ld rfl Y7 rfl (At.cat (pre:=[[vI p0.Field],enc p0.Box]) (hM.rawAt (pre:=[_,_,_,_])) (cl1 (n:=1) (m:=256) rfl (cl1 (n:=256) (m:=0) (Flat.len _) cl0))) (Flat.len _) ?_))); intro a hE
  obtain ⟨r19,e20,hF⟩:=bind_some hF
  refine Zo hE Za ld rfl y0 (Ta _ p0.Field p0.Mix r19 e20) ?_
  rintro v w a ⟨rfl,hK⟩ hE
  have hM:=hM.keep hK
  refine Zc hE Za ld rfl fun a hE=>Zy hE Za ld rfl rfl fun a hE=>Zy hE Za ld rfl rfl fun a hE=>Zu hE hM Za ld Y7 fun b21 w a hM hE=>Zi (seg:=enc r19.1) (cs':=enc r19.1) hE hM Za rfl rfl rfl Y7 (Flat.len _) (zle flq) (Flat.cell _) (Zg flq) fun w a hM hE=>Ze hE Za ld rfl fun a hE=>Zf (wp_seq (Zd (Zc hE Za ld rfl fun a hE=>Ze hE Za ld rfl fun a hE=>Zf ?_)))
  obtain ⟨j23,hl24,hF25⟩:=bind_some hF
  refine Z0 (fun a w=>Env 59 a [(6,(ptr b5 0)),(8,(ptr b7 0)),(9,(ux9 3))] ∧ M (Old w0) w0 w [raw b7 (enc (Vector.replicate 16 (0 : UInt8))),raw b5 (enc j23),osl NoB (r10 : List (Vector UInt8 16)) (ux9 3)]) ?_ ?_
  ·skip
   refine wp_block ?_
   have hM:=M.fst (l:=[_,_,_,_,_,_]) ((((((hM.pull (pre:=[_,_,_,_,_,_])).pull (pre:=[_,_,_,_,_,_])).pull (pre:=[_,_,_,_,_])).pull (pre:=[_,_,_,_,_])).pull (pre:=[_,_,_,_,_])).pull (pre:=[_,_,_,_,_]))
   refine ZV (fun (s26 : (Vector UInt8 16) × Int) a w=>Env 59 a [(3,vI p3),(4,(ptr b1 0)),(6,(ptr b5 0)),(8,(ptr b7 0)),(9,(ux9 3)),(10,(ptr b17 0)),(11,(ptr b21 0)),(13,vI s26.2)] ∧ M (Old w0) w0 w [raw b21 (enc r19.1),raw b17 (enc r13),raw b7 (enc (Vector.replicate 16 (0 : UInt8))),raw b5 (enc s26.1),raw b1 (cat [[vI p0.Field],enc p0.Box,enc p0.Mix,enc p0.Places,[vI p0.Rounds]]),osl NoB (r10 : List (Vector UInt8 16)) (ux9 3)]) hl24 ⟨hE.sub ⟨rfl,rfl,rfl,rfl,rfl,rfl,rfl,rfl,trivial⟩,hM⟩ ?_
   rintro s26 a w ⟨hE,hM⟩ o29 hs27 hx28
   unfold Xr at hs27
   refine wp_seq (Zd (Zc hE Za ld rfl fun a hE=>Zm hE Za ld rfl rfl rfl fun a hE=>Zf ?_))
   refine Zv hE rfl ?_ ?_
   ·intro hb30
    have hs27:=ZB hs27 hb30
    refine wp_skip (ZG ?_)
    obtain ⟨j31,hl32,hF33⟩:=bind_some hs27
    refine ZT (fun a w=>Env 59 a [(3,vI p3),(4,(ptr b1 0)),(6,(ptr b5 0)),(8,(ptr b7 0)),(9,(ux9 3)),(10,(ptr b17 0)),(11,(ptr b21 0)),(13,vI s26.2)] ∧ M (Old w0) w0 w [raw b21 (enc r19.1),raw b17 (enc r13),raw b7 (enc (Vector.replicate 16 (0 : UInt8))),raw b5 (enc j31),raw b1 (cat [[vI p0.Field],enc p0.Box,enc p0.Mix,enc p0.Places,[vI p0.Rounds]]),osl NoB (r10 : List (Vector UInt8 16)) (ux9 3)]) ?_ ?_
    ·skip
     refine wp_block ?_
     obtain ⟨j34,hl35,hF36⟩:=bind_some hl32
     refine ZT (fun a w=>Env 59 a [(3,vI p3),(4,(ptr b1 0)),(6,(ptr b5 0)),(8,(ptr b7 0)),(9,(ux9 3)),(10,(ptr b17 0)),(11,(ptr b21 0)),(13,vI s26.2)] ∧ M (Old w0) w0 w [raw b21 (enc r19.1),raw b17 (enc r13),raw b7 (enc (Vector.replicate 16 (0 : UInt8))),raw b5 (enc j34),raw b1 (cat [[vI p0.Field],enc p0.Box,enc p0.Mix,enc p0.Places,[vI p0.Rounds]]),osl NoB (r10 : List (Vector UInt8 16)) (ux9 3)]) ?_ ?_
     ·skip
      obtain ⟨x38,hi40,hl35⟩:=bix hl35
      obtain ⟨r41,e42,hl35⟩:=bind_some hl35
      refine Yw (n:=59) (hd:=[_,_,_,_,_,_]) (tl:=[_]) YS rfl rfl [34,35,36,37,38,39] (by decide) (fun w=>M (Old w0) w0 w [raw b21 (enc r19.1),raw b17 (enc r13),raw b7 (enc (Vector.replicate 16 (0 : UInt8))),raw b5 (enc s26.1),raw b1 (cat [[vI p0.Field],enc p0.Box,enc p0.Mix,enc p0.Places,[vI p0.Rounds]]),osl NoB (r10 : List (Vector UInt8 16)) (ux9 3)]) (fun j=>([fun v _=>v = (Value.agg (enc s26.1).toArray),fun v _=>v = (ux9 3),fun v _=>v = (vI s26.2),fun v _=>v = (ptr (sb (ux9 3)) (so (ux9 3) + (s26.2).toNat * 16)),fun v _=>v = (Value.agg (enc x38).toArray),fun v _=>v = (Value.agg (enc r41).toArray)] : List (Value → World → Prop)).getD j (fun _ _=>True)) (fun _ _ h hk=>h.keep hk) (gup (Zp (Zp (Zp (Zp (Zp (Zp Vq))))))) hE hM.drew (ZS (Zb ?_ (Zb ?_ (Zb ?_ (Zb ?_ (Zb ?_ (Zb ?_ ZL))))))) ?_
      ·exact fun a w ux37 hE hM hp=>Zj (cs:=enc s26.1) hE Za ld rfl Zw rfl (hM.rawAt (pre:=[_,_,_])) (Flat.len _) fun a hE=>⟨Kept.refl _ _,_,_,rfl,hE,rfl⟩
      ·exact fun a w ux37 hE hM hp=>Zc hE Za ld rfl fun a hE=>⟨Kept.refl _ _,_,_,rfl,hE,rfl⟩
      ·exact fun a w ux37 hE hM hp=>Zc hE Za ld rfl fun a hE=>⟨Kept.refl _ _,_,_,rfl,hE,rfl⟩
      ·intro a w ux37 hE hM hp
       have f1 : ux37 1 = (ux9 3):=hp 0 _ rfl rfl
       have f2 : ux37 2 = (vI s26.2):=hp 1 _ rfl rfl
       exact Yv hE Za ld (lk rfl f1) (lk rfl f2) Try.underlying136 Zw (hM.sl (pre:=[_,_,_,_,_]) noB) hi40.1 fun a hE=>⟨Kept.refl _ _,_,_,rfl,hE,rfl⟩
      ·intro a w ux37 hE hM hp
       have f3 : ux37 3 = (ptr (sb (ux9 3)) (so (ux9 3) + (s26.2).toNat * 16)):=hp 0 _ rfl rfl
       exact Zj (cs:=enc x38) hE Za ld (lk rfl f3) Zw rfl (X9 (hM.sl (pre:=[_,_,_,_,_]) noB) hi40.2) (Flat.len _) fun a hE=>⟨Kept.refl _ _,_,_,rfl,hE,rfl⟩
      ·intro a w ux37 hE hM hp
       have f0 : ux37 0 = (Value.agg (enc s26.1).toArray):=hp 0 _ rfl rfl
       have f4 : ux37 4 = (Value.agg (enc x38).toArray):=hp 1 _ rfl rfl
       refine Zo hE Za ld (Z1 (ZX (lk rfl f0) (ZX (lk rfl f4) Xg))) z8 (Tp _ s26.1 x38 r41 e42) ?_
       rintro v w a ⟨rfl,hK⟩ hE
       exact ⟨hK,_,_,rfl,hE,rfl⟩
      ·intro a w ux37 hE hM hg
       have hE:=hE.sub (e':=[(39,(Value.agg (enc r41).toArray)),(3,vI p3),(4,(ptr b1 0)),(6,(ptr b5 0)),(8,(ptr b7 0)),(9,(ux9 3)),(10,(ptr b17 0)),(11,(ptr b21 0)),(13,vI s26.2),(30,vI s26.2),(31,(vT (decide (s26.2 ≥ 1))))]) ⟨lk rfl (hg 5 (by decide)),rfl,rfl,rfl,rfl,rfl,rfl,rfl,rfl,rfl,rfl,trivial⟩
       have hM:=hM.pull (pre:=[_,_,_])
       refine Zi (seg:=enc r41) (cs':=enc r41) hE hM Za rfl rfl rfl Zw (Flat.len _) (zle flq) (Flat.cell _) (Zg flq) fun w a hM hE=>Zk ?_
       have ht43:=Option.some.inj hl35
       subst ht43
       refine Zn ?_
       have hM:=(((((hM.pull (pre:=[_,_,_,_,_])).pull (pre:=[_,_,_,_,_])).pull (pre:=[_,_])).pull (pre:=[_,_,_,_,_])).pull (pre:=[_,_,_,_,_])).pull (pre:=[_,_,_,_,_])
       exact ⟨hE.sub ⟨rfl,rfl,rfl,rfl,rfl,rfl,rfl,rfl,trivial⟩,hM⟩
     ·skip
      rintro a w ⟨hE,hM⟩
      obtain ⟨j44,hl45,hF46⟩:=bind_some hF36
      refine ZT (fun a w=>Env 59 a [(3,vI p3),(4,(ptr b1 0)),(6,(ptr b5 0)),(8,(ptr b7 0)),(9,(ux9 3)),(10,(ptr b17 0)),(11,(ptr b21 0)),(13,vI s26.2)] ∧ M (Old w0) w0 w [raw b21 (enc r19.1),raw b17 (enc r13),raw b7 (enc (Vector.replicate 16 (0 : UInt8))),raw b5 (enc j44),raw b1 (cat [[vI p0.Field],enc p0.Box,enc p0.Mix,enc p0.Places,[vI p0.Rounds]]),osl NoB (r10 : List (Vector UInt8 16)) (ux9 3)]) ?_ ?_
      ·skip
       refine Zd (Zc hE Za ld rfl fun a hE=>Zc hE Za ld rfl fun a hE=>Zm hE Za ld rfl rfl rfl fun a hE=>Zf ?_)
       refine Zv hE rfl ?_ ?_
       ·intro hb47
        have hl45:=ZB hl45 hb47
        refine wp_region_lit (Zr hE Za ld rfl (Tg) fun a hE=>ZF (v:=(vI p0.Field)) hE Za ld rfl ty2 rfl (At.cat (pre:=[]) (hM.rawAt (pre:=[_,_,_,_])) cl0) fun a hE=>Zj (cs:=enc r19.1) hE Za ld rfl Y7 rfl (hM.rawAt (pre:=[])) (Flat.len _) fun a hE=>Zj (cs:=enc j34) hE Za ld rfl Zw rfl (hM.rawAt (pre:=[_,_,_])) (Flat.len _) ?_); intro a hE
        obtain ⟨r48,e49,hl45⟩:=bind_some hl45
        refine Zo hE Za ld rfl cb157 (KQ _ p0.Field r19.1 j34 r48 e49) ?_
        rintro v w a ⟨rfl,hK⟩ hE
        have hM:=(hM.keep hK).pull (pre:=[_,_,_])
        refine Zi (seg:=enc r48) (cs':=enc r48) hE hM Za rfl rfl rfl Zw (Flat.len _) (zle flq) (Flat.cell _) (Zg flq) fun w a hM hE=>Zk ?_
        have ht50:=Option.some.inj hl45
        subst ht50
        refine Zn ?_
        have hM:=(((((hM.pull (pre:=[_,_,_,_,_])).pull (pre:=[_,_,_,_,_])).pull (pre:=[_,_])).pull (pre:=[_,_,_,_,_])).pull (pre:=[_,_,_,_,_])).pull (pre:=[_,_,_,_,_])
        exact ⟨hE.sub ⟨rfl,rfl,rfl,rfl,rfl,rfl,rfl,rfl,trivial⟩,hM⟩
       ·intro hb47
        have hl45:=ZA hl45 hb47
        refine wp_skip ?_
        have ht51:=Option.some.inj hl45
        subst ht51
        refine Zn ?_
        exact ⟨hE.sub ⟨rfl,rfl,rfl,rfl,rfl,rfl,rfl,rfl,trivial⟩,hM⟩
      ·skip
       rintro a w ⟨hE,hM⟩
       obtain ⟨r53,e54,hF46⟩:=bind_some hF46
       obtain ⟨r55,e56,hF46⟩:=bind_some hF46
       refine Yw (n:=59) (hd:=[_,_,_,_,_,_]) (tl:=[_]) YS rfl rfl [48,49,50,51,52,53] (by decide) (fun w=>M (Old w0) w0 w [raw b21 (enc r19.1),raw b17 (enc r13),raw b7 (enc (Vector.replicate 16 (0 : UInt8))),raw b5 (enc j44),raw b1 (cat [[vI p0.Field],enc p0.Box,enc p0.Mix,enc p0.Places,[vI p0.Rounds]]),osl NoB (r10 : List (Vector UInt8 16)) (ux9 3)]) (fun j=>([fun v _=>v = (Value.agg (enc r13).toArray),fun v _=>v = (ptr b1 (0 + 273)),fun v _=>v = (Value.agg (enc p0.Places).toArray),fun v _=>v = (Value.agg (enc j44).toArray),fun v _=>v = (Value.agg (enc r53).toArray),fun v _=>v = (Value.agg (enc r55).toArray)] : List (Value → World → Prop)).getD j (fun _ _=>True)) (fun _ _ h hk=>h.keep hk) (gup (Zp (Zp (Zp (Zp (Zp (Zp Vq))))))) hE hM.drew (ZS (Zb ?_ (Zb ?_ (Zb ?_ (Zb ?_ (Zb ?_ (Zb ?_ ZL))))))) ?_
       ·exact fun a w ux52 hE hM hp=>Zj (cs:=enc r13) hE Za ld rfl YC rfl (hM.rawAt (pre:=[_])) (Flat.len _) fun a hE=>⟨Kept.refl _ _,_,_,rfl,hE,rfl⟩
       ·exact fun a w ux52 hE hM hp=>Zr hE Za ld rfl (U6) fun a hE=>⟨Kept.refl _ _,_,_,rfl,hE,rfl⟩
       ·intro a w ux52 hE hM hp
        have f1 : ux52 1 = (ptr b1 (0 + 273)):=hp 0 _ rfl rfl
        exact Zj (cs:=enc p0.Places) hE Za ld (lk rfl f1) UY rfl (At.cat (pre:=[[vI p0.Field],enc p0.Box,enc p0.Mix]) (hM.rawAt (pre:=[_,_,_,_])) (cl1 (n:=1) (m:=272) rfl (cl1 (n:=256) (m:=16) (Flat.len _) (cl1 (n:=16) (m:=0) (Flat.len _) cl0)))) (Flat.len _) fun a hE=>⟨Kept.refl _ _,_,_,rfl,hE,rfl⟩
       ·exact fun a w ux52 hE hM hp=>Zj (cs:=enc j44) hE Za ld rfl Zw rfl (hM.rawAt (pre:=[_,_,_])) (Flat.len _) fun a hE=>⟨Kept.refl _ _,_,_,rfl,hE,rfl⟩
       ·intro a w ux52 hE hM hp
        have f2 : ux52 2 = (Value.agg (enc p0.Places).toArray):=hp 0 _ rfl rfl
        have f3 : ux52 3 = (Value.agg (enc j44).toArray):=hp 1 _ rfl rfl
        refine Zo hE Za ld (Z1 (ZX (lk rfl f2) (ZX (lk rfl f3) Xg))) cb163 (Bw _ p0.Places j44 r53 e54) ?_
        rintro v w a ⟨rfl,hK⟩ hE
        exact ⟨hK,_,_,rfl,hE,rfl⟩
       ·intro a w ux52 hE hM hp
        have f0 : ux52 0 = (Value.agg (enc r13).toArray):=hp 0 _ rfl rfl
        have f4 : ux52 4 = (Value.agg (enc r53).toArray):=hp 1 _ rfl rfl
        refine Zo hE Za ld (Z1 (ZX (lk rfl f0) (ZX (lk rfl f4) Xg))) cb156 (QP _ r13 r53 r55 e56) ?_
        rintro v w a ⟨rfl,hK⟩ hE
        exact ⟨hK,_,_,rfl,hE,rfl⟩
       ·intro a w ux52 hE hM hg
        have hE:=hE.sub (e':=[(53,(Value.agg (enc r55).toArray)),(3,vI p3),(4,(ptr b1 0)),(6,(ptr b5 0)),(8,(ptr b7 0)),(9,(ux9 3)),(10,(ptr b17 0)),(11,(ptr b21 0)),(13,vI s26.2)]) ⟨lk rfl (hg 5 (by decide)),rfl,rfl,rfl,rfl,rfl,rfl,rfl,rfl,trivial⟩
        have hM:=hM.pull (pre:=[_,_,_])
        refine Zi (seg:=enc r55) (cs':=enc r55) hE hM Za rfl rfl rfl Zw (Flat.len _) (zle flq) (Flat.cell _) (Zg flq) fun w a hM hE=>Zk (Yj ?_)
        have ht57:=Option.some.inj hF46
        subst ht57
        refine Zn ?_
        have hM:=(((((hM.pull (pre:=[_,_,_,_,_])).pull (pre:=[_,_,_,_,_])).pull (pre:=[_,_])).pull (pre:=[_,_,_,_,_])).pull (pre:=[_,_,_,_,_])).pull (pre:=[_,_,_,_,_])
        exact ⟨hE.sub ⟨rfl,rfl,rfl,rfl,rfl,rfl,rfl,rfl,trivial⟩,hM⟩
    ·skip
     rintro a w ⟨hE,hM⟩
     refine wp_region_lit (Zc hE Za ld rfl fun a hE=>Zm hE Za ld rfl rfl rfl fun a hE=>Ze hE Za ld rfl fun a hE=>Zk (Zn ?_))
     exact ⟨_,(ois hF33),hE.sub ⟨rfl,rfl,rfl,rfl,rfl,rfl,rfl,rfl,trivial⟩,hM⟩
   ·intro hb30
    have hs27:=ZA hs27 hb30
    refine wp_exit (Zs (Zs (Yz ?_)))
    have ht58:=hx28 _ (ois hs27)
    subst ht58
    refine Zn ?_
    have hM:=M.fst (l:=[_,_,_]) (((hM.pull (pre:=[_,_,_,_,_])).pull (pre:=[_,_,_,_])).pull (pre:=[_,_,_,_]))
    exact ⟨hE.sub ⟨rfl,rfl,rfl,trivial⟩,hM⟩
  ·skip
   rintro a w ⟨hE,hM⟩
   refine ZG ?_
   obtain ⟨j59,hl60,hF61⟩:=bind_some hF25
   refine ZT (fun a w=>Env 59 a [(8,(ptr b7 0))] ∧ M (Old w0) w0 w [raw b7 (enc j59)]) ?_ ?_
   ·skip
    obtain ⟨x63,hi65,hl60⟩:=bix hl60
    obtain ⟨r66,e67,hl60⟩:=bind_some hl60
    refine Yw (n:=59) (hd:=[_,_,_,_,_]) (tl:=[_]) YS rfl rfl [54,55,56,57,58] (by decide) (fun w=>M (Old w0) w0 w [raw b7 (enc (Vector.replicate 16 (0 : UInt8))),raw b5 (enc j23),osl NoB (r10 : List (Vector UInt8 16)) (ux9 3)]) (fun j=>([fun v _=>v = (Value.agg (enc j23).toArray),fun v _=>v = (ux9 3),fun v _=>v = (ptr (sb (ux9 3)) (so (ux9 3) + ((0 : Int)).toNat * 16)),fun v _=>v = (Value.agg (enc x63).toArray),fun v _=>v = (Value.agg (enc r66).toArray)] : List (Value → World → Prop)).getD j (fun _ _=>True)) (fun _ _ h hk=>h.keep hk) (gup (Zp (Zp (Zp (Zp (Zp Vq)))))) hE hM.drew (ZS (Zb ?_ (Zb ?_ (Zb ?_ (Zb ?_ (Zb ?_ ZL)))))) ?_
    ·exact fun a w ux62 hE hM hp=>Zj (cs:=enc j23) hE Za ld rfl Zw rfl (hM.rawAt (pre:=[_])) (Flat.len _) fun a hE=>⟨Kept.refl _ _,_,_,rfl,hE,rfl⟩
    ·exact fun a w ux62 hE hM hp=>Zc hE Za ld rfl fun a hE=>⟨Kept.refl _ _,_,_,rfl,hE,rfl⟩
    ·intro a w ux62 hE hM hp
     have f1 : ux62 1 = (ux9 3):=hp 0 _ rfl rfl
     exact Yv hE Za ld (lk rfl f1) rfl Try.underlying136 Zw (hM.sl (pre:=[_,_]) noB) hi65.1 fun a hE=>⟨Kept.refl _ _,_,_,rfl,hE,rfl⟩
    ·intro a w ux62 hE hM hp
     have f2 : ux62 2 = (ptr (sb (ux9 3)) (so (ux9 3) + ((0 : Int)).toNat * 16)):=hp 0 _ rfl rfl
     exact Zj (cs:=enc x63) hE Za ld (lk rfl f2) Zw rfl (X9 (hM.sl (pre:=[_,_]) noB) hi65.2) (Flat.len _) fun a hE=>⟨Kept.refl _ _,_,_,rfl,hE,rfl⟩
    ·intro a w ux62 hE hM hp
     have f0 : ux62 0 = (Value.agg (enc j23).toArray):=hp 0 _ rfl rfl
     have f3 : ux62 3 = (Value.agg (enc x63).toArray):=hp 1 _ rfl rfl
     refine Zo hE Za ld (Z1 (ZX (lk rfl f0) (ZX (lk rfl f3) Xg))) z8 (Tp _ j23 x63 r66 e67) ?_
     rintro v w a ⟨rfl,hK⟩ hE
     exact ⟨hK,_,_,rfl,hE,rfl⟩
    ·intro a w ux62 hE hM hg
     have hE:=hE.sub (e':=[(58,(Value.agg (enc r66).toArray)),(8,(ptr b7 0))]) ⟨lk rfl (hg 4 (by decide)),rfl,trivial⟩
     refine Zi (seg:=enc r66) (cs':=enc r66) hE hM Za rfl rfl rfl Zw (Flat.len _) (zle flq) (Flat.cell _) (Zg flq) fun w a hM hE=>Zk ?_
     have ht68:=Option.some.inj hl60
     subst ht68
     refine Zn ?_
     have hM:=M.fst (l:=[_]) hM
     exact ⟨hE.sub ⟨rfl,trivial⟩,hM⟩
   ·skip
    rintro a w ⟨hE,hM⟩
    have hr:=Option.some.inj hF61
    subst hr
    have hq69 : ZY Try.prog _ _ (.cell 8 62) _:=ZM hE rfl Zw rfl (hM.rawAt (pre:=[])) (Flat.len _) rfl
    have hM:=M.fst (l:=[]) hM
    exact wp_ret (ZK hE rfl hq69 ⟨_,rfl,rfl,hM.kept⟩)
def XX (p0 : GCipher) (p2 : (Vector UInt8 16)) (s20 : Int × (List (Vector UInt8 16))) : Option (Fl (Int × (List (Vector UInt8 16))) (List (Vector UInt8 16))) :=
 if (decide (s20.1 < 256)) = true then ((XS p0 ((Vector.replicate 16 (0 : UInt8)).setIfInBounds 0 (ZE s20.1)) p2 p0.Rounds).bind fun r27=>(app 16 s20.2 ([r27] : List (Vector UInt8 16))).bind fun l31=>some (Fl.nx (wr (s20.1 + 1),(s20.2 ++ ([r27] : List (Vector UInt8 16)))))) else (some (Fl.ex s20.2))
def XI (j15 : (List (Vector UInt8 16))) (s42 : Int × (List GMeeting)) (r49 : (Vector UInt8 16)) (s58 : Int × (List GMeeting)) : Option (Fl (Int × (List GMeeting)) (List GMeeting)) :=
 if (decide (s58.1 < 256)) = true then ((((idx j15 s58.1).bind fun x74=>some (decide (x74 = r49)) : Option (Bool)).bind fun j70=>(if j70 = true then ((app 16 s58.2 ([(⟨s42.1,s58.1⟩ : GMeeting)] : List GMeeting)).bind fun l86=>some (s58.2 ++ ([(⟨s42.1,s58.1⟩ : GMeeting)] : List GMeeting))) else (some s58.2) : Option ((List GMeeting))).bind fun j78=>some j78 : Option ((List GMeeting))).bind fun j65=>some (Fl.nx (wr (s58.1 + 1),j65))) else (some (Fl.ex s58.2))
def XT (p0 : GCipher) (p1 : (Vector UInt8 16)) (j15 : (List (Vector UInt8 16))) (s42 : Int × (List GMeeting)) : Option (Fl (Int × (List GMeeting)) (List GMeeting)) :=
 if (decide (s42.1 < 256)) = true then ((Yk p0 ((Vector.replicate 16 (0 : UInt8)).setIfInBounds 0 (ZE s42.1)) p1 p0.Rounds).bind fun r49=>(ZQ (XI j15 s42 r49) (0,s42.2)).bind fun j53=>some (Fl.nx (wr (s42.1 + 1),j53))) else (some (Fl.ex s42.2))
def Ve (p0 : GCipher) (p1 : (Vector UInt8 16)) (p2 : (Vector UInt8 16)) : Option ((List GMeeting) × Int) :=
 (VC p0).bind fun r7=>if (!r7) = true then (some ([],1)) else ((ZQ (XX p0 p2) (0,([] : List (Vector UInt8 16)))).bind fun j15=>(ZQ (XT p0 p1 j15) (0,([] : List GMeeting))).bind fun j37=>some (j37,0))
theorem Jj (w0 : World) (p0 : GCipher) (p1 : (Vector UInt8 16)) (p2 : (Vector UInt8 16)) (r : (List GMeeting) × Int) (hF : Ve p0 p1 p2 = some r) :
  Calls Try.prog 32 [(Value.agg (enc p0).toArray),(Value.agg (enc p1).toArray),(Value.agg (enc p2).toArray)].toArray w0 (fun en w'=>∃ v,en = .returned v ∧ (∃ (y1 : Value),v = (Value.tuple [y1,vI r.2].toArray) ∧ Fr w0 w' [osl NoB (r.1 : List GMeeting) y1] ∧ Kept (Old w0) w0 w')):=by
 refine ZJ (n:=63) Try.func32 rfl rfl (nbl rfl) rfl ?_
 intro a hE
 have hM:=M.start w0
 unfold Ve at hF
 refine Zd (Z3 (cs:=cat [[vI p0.Field],enc p0.Box,enc p0.Mix,enc p0.Places,[vI p0.Rounds]]) hE hM Za ld rfl rfl fun b1 w a hM hE=>Z3 (cs:=enc p1) hE hM Za ld rfl rfl fun b3 w a hM hE=>Z3 (cs:=enc p2) hE hM Za ld rfl rfl fun b5 w a hM hE=>Ze hE Za ld rfl fun a hE=>Ze hE Za ld rfl fun a hE=>Zf (wp_seq (Zd (Zj (cs:=enc p0) hE Za ld rfl Z8 rfl (hM.rawAt (pre:=[_,_])) (Zl (cl1 (n:=1) (m:=289) rfl (cl1 (n:=256) (m:=33) (Flat.len _) (cl1 (n:=16) (m:=17) (Flat.len _) (cl1 (n:=16) (m:=1) (Flat.len _) (cl1 (n:=1) (m:=0) rfl cl0)))))) ?_)))); intro a hE
 obtain ⟨r7,e8,hF⟩:=bind_some hF
 refine Zo hE Za ld rfl cb90 (QN _ p0 r7 e8) ?_
 rintro v w a ⟨rfl,hK⟩ hE
 have hM:=hM.keep hK
 refine UT hE Za ld rfl fun a hE=>Zf ?_
 refine Zv hE rfl ?_ ?_
 ·intro hb9
  have hF:=ZB hF hb9
  refine Zd (Ze hE Za ld rfl fun a hE=>Ze hE Za ld rfl fun a hE=>Zf ?_)
  have hM:=M.nilS (α:=GMeeting) NoB noB hM
  have hr:=Option.some.inj hF
  subst hr
  have hM:=M.fst (l:=[_]) hM
  exact wp_ret (ZP (VH hE rfl (Zx hE rfl) (Zx hE rfl) ⟨_,rfl,(Value.slice none 0 0),rfl,hM.outF (Hb KR),hM.kept⟩))
 ·intro hb9
  have hF:=ZA hF hb9
  refine wp_skip (ZG (Zd (YM (xs:=[]) (l:=([] : List (Vector UInt8 16))) (vs:=[]) hE hM Za ld rfl rfl Try.underlying136 Zw rfl (by decide) rfl fun u11 w a hM hE=>YM (xs:=[]) (l:=([] : List GMeeting)) (vs:=[]) hE hM Za ld rfl rfl Try.underlying69 Kr rfl (by decide) rfl fun u13 w a hM hE=>Ze hE Za ld rfl fun a hE=>Ze hE Za ld rfl fun a hE=>Zf (wp_seq (Zd (Ze hE Za ld rfl fun a hE=>Zf ?_))))))
  obtain ⟨j15,hl16,hF17⟩:=bind_some hF
  refine Z0 (fun a w=>∃ (u18 : Value),Env 63 a [(3,(ptr b1 0)),(4,(ptr b3 0)),(8,u18),(9,u13)] ∧ M (Old w0) w0 w [osl NoB (([] : List GMeeting) : List GMeeting) u13,raw b3 (enc p1),raw b1 (cat [[vI p0.Field],enc p0.Box,enc p0.Mix,enc p0.Places,[vI p0.Rounds]]),osl NoB (j15 : List (Vector UInt8 16)) u18]) ?_ ?_
  ·skip
   refine wp_block ?_
   have hM:=((((hM.pull (pre:=[_])).pull (pre:=[_,_,_,_])).pull (pre:=[_,_,_,_])).pull (pre:=[_,_,_,_])).pull (pre:=[_,_,_,_])
   refine ZV (fun (s20 : Int × (List (Vector UInt8 16))) a w=>∃ (u21 : Value),Env 63 a [(3,(ptr b1 0)),(4,(ptr b3 0)),(5,(ptr b5 0)),(8,u21),(9,u13),(10,vI s20.1)] ∧ M (Old w0) w0 w [osl NoB (([] : List GMeeting) : List GMeeting) u13,raw b5 (enc p2),raw b3 (enc p1),raw b1 (cat [[vI p0.Field],enc p0.Box,enc p0.Mix,enc p0.Places,[vI p0.Rounds]]),osl NoB (s20.2 : List (Vector UInt8 16)) u21]) hl16 ⟨u11,hE.sub ⟨rfl,rfl,rfl,rfl,rfl,rfl,trivial⟩,hM⟩ ?_
   rintro s20 a w ⟨u21,hE,hM⟩ o25 hs23 hx24
   unfold XX at hs23
   refine wp_seq (Zd (Zc hE Za ld rfl fun a hE=>Zm hE Za ld rfl rfl rfl fun a hE=>Zf ?_))
   refine Zv hE rfl ?_ ?_
   ·intro hb26
    have hs23:=ZB hs23 hb26
    refine wp_skip (ZG (wp_seq (wp_block (wp_region_lit (Zc hE Za ld rfl fun a hE=>Zj (cs:=enc p0) hE Za ld rfl Z8 rfl (hM.rawAt (pre:=[_,_,_])) (Zl (cl1 (n:=1) (m:=289) rfl (cl1 (n:=256) (m:=33) (Flat.len _) (cl1 (n:=16) (m:=17) (Flat.len _) (cl1 (n:=16) (m:=1) (Flat.len _) (cl1 (n:=1) (m:=0) rfl cl0)))))) fun a hE=>Zc hE Za ld rfl fun a hE=>Yg hE Za ld rfl Try.underlying3 Try.underlying5 ?_))))); intro a hE
    rw [Z6] at hE
    refine Z7 (parts:=[(0,.tmp 26)]) (vs:=[(0,(vB (ZE s20.1)))]) (cs:=enc ((Vector.replicate 16 (0 : UInt8)).setIfInBounds 0 (ZE s20.1))) hE Za ld rfl rfl Zw rfl ty5 (Ye (v:=(Vector.replicate 16 (0 : UInt8))) (x:=ZE s20.1) rfl (by decide) rfl ZZ) fun a hE=>Zj (cs:=enc p2) hE Za ld rfl Zw rfl (hM.rawAt (pre:=[_])) (Flat.len _) fun a hE=>Zr hE Za ld rfl (UL) fun a hE=>ZF (v:=(vI p0.Rounds)) hE Za ld rfl ty2 rfl (At.cat (pre:=[[vI p0.Field],enc p0.Box,enc p0.Mix,enc p0.Places]) (hM.rawAt (pre:=[_,_,_])) (cl1 (n:=1) (m:=288) rfl (cl1 (n:=256) (m:=32) (Flat.len _) (cl1 (n:=16) (m:=16) (Flat.len _) (cl1 (n:=16) (m:=0) (Flat.len _) cl0))))) ?_; intro a hE
    obtain ⟨r27,e28,hs23⟩:=bind_some hs23
    refine Zo hE Za ld rfl cb95 (KW _ p0 ((Vector.replicate 16 (0 : UInt8)).setIfInBounds 0 (ZE s20.1)) p2 p0.Rounds r27 e28) ?_
    rintro v w a ⟨rfl,hK⟩ hE
    have hM:=hM.keep hK
    refine YM (xs:=[.tmp 31]) (l:=([r27] : List (Vector UInt8 16))) (vs:=[(Value.agg (enc r27).toArray)]) hE hM Za ld rfl rfl Try.underlying136 Zw rfl (by decide) rfl ?_; intro u29 w a hM hE
    obtain ⟨l31,e32,hs23⟩:=bind_some hs23
    obtain ⟨e35,rfl⟩:=T0 e32
    have hM:=hM.pull (pre:=[_,_,_,_,_])
    refine Td hE hM Za ld rfl rfl (hM.sl (pre:=[_]) noB) Try.underlying136 Zw rfl (by decide) e35 fun u33 w a hM hE=>Ze hE Za ld rfl fun a hE=>Zk (Yj (ZG (wp_region_lit (Zc hE Za ld rfl fun a hE=>Zm hE Za ld rfl rfl rfl fun a hE=>Ze hE Za ld rfl fun a hE=>Zk (Zn ?_)))))
    have hM:=M.fst (l:=[_,_,_,_,_]) ((((hM.pull (pre:=[_,_,_,_,_])).pull (pre:=[_,_,_,_,_])).pull (pre:=[_,_,_,_,_])).pull (pre:=[_,_,_,_,_]))
    exact ⟨_,(ois hs23),u33,hE.sub ⟨rfl,rfl,rfl,rfl,rfl,rfl,trivial⟩,hM⟩
   ·intro hb26
    have hs23:=ZA hs23 hb26
    refine wp_exit (Zs (Zs (Yz ?_)))
    have ht36:=hx24 _ (ois hs23)
    subst ht36
    refine Zn ?_
    have hM:=M.fst (l:=[_,_,_,_]) ((((hM.pull (pre:=[_,_,_,_])).pull (pre:=[_,_,_,_])).pull (pre:=[_,_,_,_])).pull (pre:=[_,_,_]))
    exact ⟨u21,hE.sub ⟨rfl,rfl,rfl,rfl,trivial⟩,hM⟩
  ·skip
   rintro a w ⟨u18,hE,hM⟩
   refine ZG (wp_seq (Zd (Ze hE Za ld rfl fun a hE=>Zf ?_)))
   obtain ⟨j37,hl38,hF39⟩:=bind_some hF17
   refine Z0 (fun a w=>∃ (u40 : Value),Env 63 a [(9,u40)] ∧ M (Old w0) w0 w [osl NoB (j37 : List GMeeting) u40]) ?_ ?_
   ·skip
    refine wp_block ?_
    have hM:=((hM.pull (pre:=[_,_,_])).pull (pre:=[_,_,_])).pull (pre:=[_,_,_])
    refine ZV (fun (s42 : Int × (List GMeeting)) a w=>∃ (u43 : Value),Env 63 a [(3,(ptr b1 0)),(4,(ptr b3 0)),(8,u18),(9,u43),(11,vI s42.1)] ∧ M (Old w0) w0 w [raw b3 (enc p1),raw b1 (cat [[vI p0.Field],enc p0.Box,enc p0.Mix,enc p0.Places,[vI p0.Rounds]]),osl NoB (j15 : List (Vector UInt8 16)) u18,osl NoB (s42.2 : List GMeeting) u43]) hl38 ⟨u13,hE.sub ⟨rfl,rfl,rfl,rfl,rfl,trivial⟩,hM⟩ ?_
    rintro s42 a w ⟨u43,hE,hM⟩ o47 hs45 hx46
    unfold XT at hs45
    refine wp_seq (Zd (Zc hE Za ld rfl fun a hE=>Zm hE Za ld rfl rfl rfl fun a hE=>Zf ?_))
    refine Zv hE rfl ?_ ?_
    ·intro hb48
     have hs45:=ZB hs45 hb48
     refine wp_skip (ZG (wp_seq (wp_block (Zd (Zj (cs:=enc p0) hE Za ld rfl Z8 rfl (hM.rawAt (pre:=[_])) (Zl (cl1 (n:=1) (m:=289) rfl (cl1 (n:=256) (m:=33) (Flat.len _) (cl1 (n:=16) (m:=17) (Flat.len _) (cl1 (n:=16) (m:=1) (Flat.len _) (cl1 (n:=1) (m:=0) rfl cl0)))))) fun a hE=>Zc hE Za ld rfl fun a hE=>Yg hE Za ld rfl Try.underlying2 Try.underlying5 ?_))))); intro a hE
     rw [Z6] at hE
     refine Z7 (parts:=[(0,.tmp 40)]) (vs:=[(0,(vB (ZE s42.1)))]) (cs:=enc ((Vector.replicate 16 (0 : UInt8)).setIfInBounds 0 (ZE s42.1))) hE Za ld rfl rfl Zw rfl ty5 (Ye (v:=(Vector.replicate 16 (0 : UInt8))) (x:=ZE s42.1) rfl (by decide) rfl ZZ) fun a hE=>Zj (cs:=enc p1) hE Za ld rfl Zw rfl (hM.rawAt (pre:=[])) (Flat.len _) fun a hE=>Zr hE Za ld rfl (UL) fun a hE=>ZF (v:=(vI p0.Rounds)) hE Za ld rfl ty2 rfl (At.cat (pre:=[[vI p0.Field],enc p0.Box,enc p0.Mix,enc p0.Places]) (hM.rawAt (pre:=[_])) (cl1 (n:=1) (m:=288) rfl (cl1 (n:=256) (m:=32) (Flat.len _) (cl1 (n:=16) (m:=16) (Flat.len _) (cl1 (n:=16) (m:=0) (Flat.len _) cl0))))) ?_; intro a hE
     obtain ⟨r49,e50,hs45⟩:=bind_some hs45
     refine Zo hE Za ld rfl cb92 (VJ _ p0 ((Vector.replicate 16 (0 : UInt8)).setIfInBounds 0 (ZE s42.1)) p1 p0.Rounds r49 e50) ?_
     rintro v w a ⟨rfl,hK⟩ hE
     have hM:=hM.keep hK
     refine Zu hE hM Za ld Zw fun b51 w a hM hE=>Zi (seg:=enc r49) (cs':=enc r49) hE hM Za rfl rfl rfl Zw (Flat.len _) (zle flq) (Flat.cell _) (Zg flq) fun w a hM hE=>Zf (Zd (Ze hE Za ld rfl fun a hE=>Zf ?_))
     obtain ⟨j53,hl54,hF55⟩:=bind_some hs45
     refine Z0 (fun a w=>∃ (u56 : Value),Env 63 a [(3,(ptr b1 0)),(4,(ptr b3 0)),(8,u18),(9,u56),(11,vI s42.1)] ∧ M (Old w0) w0 w [raw b3 (enc p1),raw b1 (cat [[vI p0.Field],enc p0.Box,enc p0.Mix,enc p0.Places,[vI p0.Rounds]]),osl NoB (j15 : List (Vector UInt8 16)) u18,osl NoB (j53 : List GMeeting) u56]) ?_ ?_
     ·skip
      refine wp_block ?_
      refine ZV (fun (s58 : Int × (List GMeeting)) a w=>∃ (u59 : Value),Env 63 a [(3,(ptr b1 0)),(4,(ptr b3 0)),(8,u18),(9,u59),(11,vI s42.1),(12,(ptr b51 0)),(13,vI s58.1)] ∧ M (Old w0) w0 w [raw b51 (enc r49),raw b3 (enc p1),raw b1 (cat [[vI p0.Field],enc p0.Box,enc p0.Mix,enc p0.Places,[vI p0.Rounds]]),osl NoB (j15 : List (Vector UInt8 16)) u18,osl NoB (s58.2 : List GMeeting) u59]) hl54 ⟨u43,hE.sub ⟨rfl,rfl,rfl,rfl,rfl,rfl,rfl,trivial⟩,hM⟩ ?_
      rintro s58 a w ⟨u59,hE,hM⟩ o63 hs61 hx62
      unfold XI at hs61
      refine wp_seq (Zd (Zc hE Za ld rfl fun a hE=>Zm hE Za ld rfl rfl rfl fun a hE=>Zf ?_))
      refine Zv hE rfl ?_ ?_
      ·intro hb64
       have hs61:=ZB hs61 hb64
       refine wp_skip (ZG ?_)
       obtain ⟨j65,hl66,hF67⟩:=bind_some hs61
       refine ZT (fun a w=>∃ (u68 : Value),Env 63 a [(3,(ptr b1 0)),(4,(ptr b3 0)),(8,u18),(9,u68),(11,vI s42.1),(12,(ptr b51 0)),(13,vI s58.1)] ∧ M (Old w0) w0 w [raw b51 (enc r49),raw b3 (enc p1),raw b1 (cat [[vI p0.Field],enc p0.Box,enc p0.Mix,enc p0.Places,[vI p0.Rounds]]),osl NoB (j15 : List (Vector UInt8 16)) u18,osl NoB (j65 : List GMeeting) u68]) ?_ ?_
       ·skip
        refine wp_block ?_
        obtain ⟨j70,hl71,hF72⟩:=bind_some hl66
        refine ZT (fun a w=>Env 63 a [(3,(ptr b1 0)),(4,(ptr b3 0)),(8,u18),(9,u59),(11,vI s42.1),(12,(ptr b51 0)),(13,vI s58.1),(55,vT j70)] ∧ M (Old w0) w0 w [raw b51 (enc r49),raw b3 (enc p1),raw b1 (cat [[vI p0.Field],enc p0.Box,enc p0.Mix,enc p0.Places,[vI p0.Rounds]]),osl NoB (j15 : List (Vector UInt8 16)) u18,osl NoB (s58.2 : List GMeeting) u59]) ?_ ?_
        ·skip
         obtain ⟨x74,hi76,hl71⟩:=bix hl71
         refine Yw (n:=63) (hd:=[_,_,_,_,_,_]) (tl:=[]) YS rfl rfl [50,51,52,53,54,55] (by decide) (fun w=>M (Old w0) w0 w [raw b51 (enc r49),raw b3 (enc p1),raw b1 (cat [[vI p0.Field],enc p0.Box,enc p0.Mix,enc p0.Places,[vI p0.Rounds]]),osl NoB (j15 : List (Vector UInt8 16)) u18,osl NoB (s58.2 : List GMeeting) u59]) (fun j=>([fun v _=>v = u18,fun v _=>v = (vI s58.1),fun v _=>v = (ptr (sb u18) (so u18 + (s58.1).toNat * 16)),fun v _=>v = (Value.agg (enc x74).toArray),fun v _=>v = (Value.agg (enc r49).toArray),fun v _=>v = (vT (decide (x74 = r49)))] : List (Value → World → Prop)).getD j (fun _ _=>True)) (fun _ _ h hk=>h.keep hk) (gup (Zp (Zp (Zp (Zp (Zp (Zp Vq))))))) hE hM.drew (ZS (Zb ?_ (Zb ?_ (Zb ?_ (Zb ?_ (Zb ?_ (Zb ?_ ZL))))))) ?_
         ·exact fun a w ux73 hE hM hp=>Zc hE Za ld rfl fun a hE=>⟨Kept.refl _ _,_,_,rfl,hE,rfl⟩
         ·exact fun a w ux73 hE hM hp=>Zc hE Za ld rfl fun a hE=>⟨Kept.refl _ _,_,_,rfl,hE,rfl⟩
         ·intro a w ux73 hE hM hp
          have f0 : ux73 0 = u18:=hp 0 _ rfl rfl
          have f1 : ux73 1 = (vI s58.1):=hp 1 _ rfl rfl
          exact Yv hE Za ld (lk rfl f0) (lk rfl f1) Try.underlying136 Zw (hM.sl (pre:=[_,_,_]) noB) hi76.1 fun a hE=>⟨Kept.refl _ _,_,_,rfl,hE,rfl⟩
         ·intro a w ux73 hE hM hp
          have f2 : ux73 2 = (ptr (sb u18) (so u18 + (s58.1).toNat * 16)):=hp 0 _ rfl rfl
          exact Zj (cs:=enc x74) hE Za ld (lk rfl f2) Zw rfl (X9 (hM.sl (pre:=[_,_,_]) noB) hi76.2) (Flat.len _) fun a hE=>⟨Kept.refl _ _,_,_,rfl,hE,rfl⟩
         ·exact fun a w ux73 hE hM hp=>Zj (cs:=enc r49) hE Za ld rfl Zw rfl (hM.rawAt (pre:=[])) (Flat.len _) fun a hE=>⟨Kept.refl _ _,_,_,rfl,hE,rfl⟩
         ·intro a w ux73 hE hM hp
          have f3 : ux73 3 = (Value.agg (enc x74).toArray):=hp 0 _ rfl rfl
          have f4 : ux73 4 = (Value.agg (enc r49).toArray):=hp 1 _ rfl rfl
          exact s_eqA hE Za ld (lk rfl f3) (lk rfl f4) (Q6 Try.underlying62 ty5 rfl false rfl (by decide) (Qn Try.underlying5)) (by decide) (by kernel_rfl) fun a hE=>⟨Kept.refl _ _,_,_,rfl,hE,rfl⟩
         ·intro a w ux73 hE hM hg
          have hE:=hE.sub (e':=[(55,(vT (decide (x74 = r49)))),(3,(ptr b1 0)),(4,(ptr b3 0)),(8,u18),(9,u59),(11,vI s42.1),(12,(ptr b51 0)),(13,vI s58.1),(46,vI s58.1),(47,(vT (decide (s58.1 < 256))))]) ⟨lk rfl (hg 5 (by decide)),rfl,rfl,rfl,rfl,rfl,rfl,rfl,rfl,rfl,trivial⟩
          refine Zk ?_
          have ht77:=Option.some.inj hl71
          subst ht77
          refine Zn ?_
          exact ⟨hE.sub ⟨rfl,rfl,rfl,rfl,rfl,rfl,rfl,rfl,trivial⟩,hM⟩
        ·skip
         rintro a w ⟨hE,hM⟩
         obtain ⟨j78,hl79,hF80⟩:=bind_some hF72
         refine Z0 (fun a w=>∃ (u81 : Value),Env 63 a [(3,(ptr b1 0)),(4,(ptr b3 0)),(8,u18),(9,u81),(11,vI s42.1),(12,(ptr b51 0)),(13,vI s58.1)] ∧ M (Old w0) w0 w [raw b51 (enc r49),raw b3 (enc p1),raw b1 (cat [[vI p0.Field],enc p0.Box,enc p0.Mix,enc p0.Places,[vI p0.Rounds]]),osl NoB (j15 : List (Vector UInt8 16)) u18,osl NoB (j78 : List GMeeting) u81]) ?_ ?_
         ·skip
          refine Zv hE rfl ?_ ?_
          ·intro hb83
           have hl79:=ZB hl79 hb83
           refine wp_region_lit (Zc hE Za ld rfl fun a hE=>Zc hE Za ld rfl fun a hE=>Zc hE Za ld rfl fun a hE=>Te (parts:=[(0,.tmp 57),(1,.tmp 58)]) (vs:=[(0,vI s42.1),(1,vI s58.1)]) (cs:=cat [[vI s42.1],[vI s58.1]]) hE Za ld rfl rfl Kr pl73 (Xd (pre:=[]) (seg:=[vI 0]) (seg':=[vI s42.1]) (post:=[[vI 0]]) rfl cl0 rfl rfl rfl (Xd (pre:=[[vI s42.1]]) (seg:=[vI 0]) (seg':=[vI s58.1]) (post:=[]) rfl (cl1 (n:=1) (m:=0) rfl cl0) rfl rfl rfl Qj)) fun a hE=>YM (xs:=[.tmp 59]) (l:=([(⟨s42.1,s58.1⟩ : GMeeting)] : List GMeeting)) (vs:=[(Value.agg (enc (⟨s42.1,s58.1⟩ : GMeeting)).toArray)]) hE hM Za ld rfl rfl Try.underlying69 Kr rfl (by decide) rfl ?_); intro u84 w a hM hE
           obtain ⟨l86,e87,hl79⟩:=bind_some hl79
           obtain ⟨e90,rfl⟩:=T0 e87
           have hM:=hM.pull (pre:=[_,_,_,_,_])
           refine Td hE hM Za ld rfl rfl (hM.sl (pre:=[_]) noB) Try.underlying69 Kr rfl (by decide) e90 fun u88 w a hM hE=>Ze hE Za ld rfl fun a hE=>Zk ?_
           have ht91:=Option.some.inj hl79
           subst ht91
           refine Zn ?_
           have hM:=M.fst (l:=[_,_,_,_,_]) ((((hM.pull (pre:=[_,_,_,_,_])).pull (pre:=[_,_,_,_,_])).pull (pre:=[_,_,_,_,_])).pull (pre:=[_,_,_,_,_]))
           exact ⟨u88,hE.sub ⟨rfl,rfl,rfl,rfl,rfl,rfl,rfl,trivial⟩,hM⟩
          ·intro hb83
           have hl79:=ZA hl79 hb83
           refine wp_skip ?_
           have ht92:=Option.some.inj hl79
           subst ht92
           refine Zn ?_
           exact ⟨u59,hE.sub ⟨rfl,rfl,rfl,rfl,rfl,rfl,rfl,trivial⟩,hM⟩
         ·skip
          rintro a w ⟨u81,hE,hM⟩
          refine Yj ?_
          have ht93:=Option.some.inj hF80
          subst ht93
          refine Zn ?_
          exact ⟨u81,hE.sub ⟨rfl,rfl,rfl,rfl,rfl,rfl,rfl,trivial⟩,hM⟩
       ·skip
        rintro a w ⟨u68,hE,hM⟩
        refine wp_region_lit (Zc hE Za ld rfl fun a hE=>Zm hE Za ld rfl rfl rfl fun a hE=>Ze hE Za ld rfl fun a hE=>Zk (Zn ?_))
        exact ⟨_,(ois hF67),u68,hE.sub ⟨rfl,rfl,rfl,rfl,rfl,rfl,rfl,trivial⟩,hM⟩
      ·intro hb64
       have hs61:=ZA hs61 hb64
       refine wp_exit (Zs (Zs (Yz ?_)))
       have ht94:=hx62 _ (ois hs61)
       subst ht94
       refine Zn ?_
       have hM:=M.fst (l:=[_,_,_,_]) ((((hM.pull (pre:=[_,_,_,_])).pull (pre:=[_,_,_,_])).pull (pre:=[_,_,_,_])).pull (pre:=[_,_,_,_]))
       exact ⟨u59,hE.sub ⟨rfl,rfl,rfl,rfl,rfl,trivial⟩,hM⟩
     ·skip
      rintro a w ⟨u56,hE,hM⟩
      refine Yj (ZG (wp_region_lit (Zc hE Za ld rfl fun a hE=>Zm hE Za ld rfl rfl rfl fun a hE=>Ze hE Za ld rfl fun a hE=>Zk (Zn ?_))))
      exact ⟨_,(ois hF55),u56,hE.sub ⟨rfl,rfl,rfl,rfl,rfl,trivial⟩,hM⟩
    ·intro hb48
     have hs45:=ZA hs45 hb48
     refine wp_exit (Zs (Zs (Yz ?_)))
     have ht95:=hx46 _ (ois hs45)
     subst ht95
     refine Zn ?_
     have hM:=M.fst (l:=[_]) (hM.pull (pre:=[_,_,_]))
     exact ⟨u43,hE.sub ⟨rfl,trivial⟩,hM⟩
   ·skip
    rintro a w ⟨u40,hE,hM⟩
    refine ZG (Zd (Zc hE Za ld rfl fun a hE=>Ze hE Za ld rfl fun a hE=>Ze hE Za ld rfl fun a hE=>Zf ?_))
    have hr:=Option.some.inj hF39
    subst hr
    exact wp_ret (VH hE rfl (Zx hE rfl) (Zx hE rfl) ⟨_,rfl,u40,rfl,hM.outF (Hb KR),hM.kept⟩)
def Xp (p0 : (List UInt8)) : Option (GCipher × (Vector UInt8 16) × Int) :=
 (Xk p0).bind fun r5=>(WJ p0).bind fun r9=>((ZC p0 (r5.1,r5.2) 65537).bind fun r21=>(ZC p0 (r21.1.1,r21.1.2) 24).bind fun r23=>some (r9.1.Field,r9.1.Box,r9.1.Mix,r9.1.Places,r9.1.Rounds,r9.2.1,wr (r21.2 - (wr (Int.tdiv r23.2 23)))) : Option (Int × (Vector UInt8 256) × (Vector (Vector UInt8 4) 4) × (Vector UInt8 16) × Int × (Vector UInt8 16) × Int)).bind fun j17=>some ((⟨j17.1,j17.2.1,j17.2.2.1,j17.2.2.2.1,j17.2.2.2.2.1⟩ : GCipher),j17.2.2.2.2.2.1,j17.2.2.2.2.2.2)
end

end Go.Proofs.Ytkajmkegelcfjaa
