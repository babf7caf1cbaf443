/- The walk of what the law reaches: contracts of functions. -/
import Derived.Test.YtlpppjjlffgkmaaGreatC3
set_option linter.unusedVariables false
set_option linter.unusedSimpArgs false
set_option maxRecDepth 20000
set_option maxHeartbeats 400000
namespace Go.Proofs.YtlpppjjlffgkmaaGreat
open Go
open Flat (enc)
noncomputable section
theorem Bc (St : Nat → Prop) (W w0 : World) (its : List Item) (p0 : (Ref (Vector (Vector (Vector UInt8 256) 4) 4))) (v0_1 : Value) (hv0_1 : Rep.sat St W p0 [v0_1] []) (pb1 : Nat) (p1 : (Vector UInt8 16)) (hM : M St W w0 (raw pb1 (enc p1) :: its)) (r : (Vector UInt8 16)) (hF : VE p0 p1 = some r) :
  Calls Tryz.prog 179 [v0_1,(Value.slice (some ⟨pb1,0,none⟩) 16 16)].toArray w0 (fun en w'=>∃ v,en = .returned v ∧ (v = (Value.tuple [].toArray) ∧ M St W w' (raw pb1 (enc r) :: its))):=by
 refine ce Tryz.func179 ?_
 intro a hE
 unfold VE at hF
 refine Za (Zb hE rfl fun a hE=>Zf ?_)
 obtain ⟨j1,hl2,hF3⟩:=bind_some hF
 refine ZJ (fun a w=>Env 79 a [(1,(Value.slice (some ⟨pb1,0,none⟩) 16 16))] ∧ M St W w (raw pb1 (enc j1) :: its)) ?_ ?_
 ·skip
  refine wp_block ?_
  refine ZE (fun (s4 : (Vector UInt8 16) × Int) a w=>Env 79 a [(0,v0_1),(1,(Value.slice (some ⟨pb1,0,none⟩) 16 16)),(4,vI s4.2)] ∧ M St W w (raw pb1 (enc s4.1) :: its)) hl2 ⟨hE.sub ⟨rfl,rfl,rfl,trivial⟩,hM⟩ ?_
  rintro s4 a w ⟨hE,hM⟩ o7 hs5 hx6
  unfold We at hs5
  refine wp_seq (Za (Ze hE rfl fun a hE=>Ze hE rfl fun a hE=>ZZ hE rfl Tryz.underlying32 (Zcl hM.rawAt0) fun a hE=>Zk hE rfl rfl rfl fun a hE=>Zf ?_))
  refine Zq hE rfl ?_ ?_
  ·intro hb8
   have hs5:=Zu hs5 hb8
   refine wp_skip (Zy (wp_seq (wp_block ?_)))
   obtain ⟨j9,hl10,hF11⟩:=bind_some hs5
   refine ZI (fun a w=>Env 79 a [(0,v0_1),(1,(Value.slice (some ⟨pb1,0,none⟩) 16 16)),(4,vI s4.2),(5,vB j9.1),(6,vB j9.2.1),(7,vB j9.2.2.1),(8,vB j9.2.2.2)] ∧ M St W w (raw pb1 (enc s4.1) :: its)) ?_ ?_
   ·skip
    obtain ⟨x13,hi15,hl10⟩:=bvx hl10
    obtain ⟨x16,hi18,hl10⟩:=bvx hl10
    obtain ⟨x19,hi21,hl10⟩:=bvx hl10
    obtain ⟨x22,hi24,hl10⟩:=bvx hl10
    refine ZX (n:=79) (hd:=[_,_,_,_,_,_,_,_,_,_,_,_,_,_,_,_,_,_,_,_,_,_,_]) (tl:=[]) Yx rfl rfl [16,17,18,19,20,21,22,23,24,25,26,27,28,29,30,31,32,33,34,5,6,7,8] (by decide) (fun w=>M St W w (raw pb1 (enc s4.1) :: its)) (fun j=>([fun v _=>v = (Value.slice (some ⟨pb1,0,none⟩) 16 16),fun v _=>v = (vI s4.2),fun v _=>v = (ptr pb1 (0 + (s4.2).toNat * 1)),fun v _=>v = (vB x13),fun v _=>v = (Value.slice (some ⟨pb1,0,none⟩) 16 16),fun v _=>v = (vI s4.2),fun v _=>v = (vI (wr (s4.2 + 1))),fun v _=>v = (ptr pb1 (0 + ((wr (s4.2 + 1))).toNat * 1)),fun v _=>v = (vB x16),fun v _=>v = (Value.slice (some ⟨pb1,0,none⟩) 16 16),fun v _=>v = (vI s4.2),fun v _=>v = (vI (wr (s4.2 + 2))),fun v _=>v = (ptr pb1 (0 + ((wr (s4.2 + 2))).toNat * 1)),fun v _=>v = (vB x19),fun v _=>v = (Value.slice (some ⟨pb1,0,none⟩) 16 16),fun v _=>v = (vI s4.2),fun v _=>v = (vI (wr (s4.2 + 3))),fun v _=>v = (ptr pb1 (0 + ((wr (s4.2 + 3))).toNat * 1)),fun v _=>v = (vB x22),fun v _=>v = (vB x13),fun v _=>v = (vB x16),fun v _=>v = (vB x19),fun v _=>v = (vB x22)] : List (Value → World → Prop)).getD j (fun _ _=>True)) (fun _ _ h hk=>h.keep hk) (gup gu23) hE hM.drew (kh ?_ ?_ ?_ ?_ ?_ ?_ ?_ ?_ ?_ ?_ ?_ ?_ ?_ ?_ ?_ ?_ ?_ ?_ ?_ ?_ ?_ ?_ ?_) ?_
    ·exact qm
    ·exact qm
    ·intro a w ux12 hE hM hp
     have f0 : ux12 0 = (Value.slice (some ⟨pb1,0,none⟩) 16 16):=hp 0 _ rfl rfl
     have f1 : ux12 1 = (vI s4.2):=hp 1 _ rfl rfl
     exact QJ hE Zd ld (lk rfl f0) (lk rfl f1) Tryz.underlying32 ty5 hi15.1 fun a hE=>kq rfl hE rfl
    ·intro a w ux12 hE hM hp
     have f2 : ux12 2 = (ptr pb1 (0 + (s4.2).toNat * 1)):=hp 0 _ rfl rfl
     exact Zx (v:=(vB x13)) hE (lk rfl f2) ty5 rfl (At.vec hM.rawAt0 hi15.2) fun a hE=>kq rfl hE rfl
    ·exact qm
    ·exact qm
    ·intro a w ux12 hE hM hp
     have f5 : ux12 5 = (vI s4.2):=hp 0 _ rfl rfl
     exact Zk hE (lk rfl f5) rfl rfl fun a hE=>kq rfl hE rfl
    ·intro a w ux12 hE hM hp
     have f4 : ux12 4 = (Value.slice (some ⟨pb1,0,none⟩) 16 16):=hp 0 _ rfl rfl
     have f6 : ux12 6 = (vI (wr (s4.2 + 1))):=hp 1 _ rfl rfl
     exact QJ hE Zd ld (lk rfl f4) (lk rfl f6) Tryz.underlying32 ty5 hi18.1 fun a hE=>kq rfl hE rfl
    ·intro a w ux12 hE hM hp
     have f7 : ux12 7 = (ptr pb1 (0 + ((wr (s4.2 + 1))).toNat * 1)):=hp 0 _ rfl rfl
     exact Zx (v:=(vB x16)) hE (lk rfl f7) ty5 rfl (At.vec hM.rawAt0 hi18.2) fun a hE=>kq rfl hE rfl
    ·exact qm
    ·exact qm
    ·intro a w ux12 hE hM hp
     have f10 : ux12 10 = (vI s4.2):=hp 0 _ rfl rfl
     exact Zk hE (lk rfl f10) rfl rfl fun a hE=>kq rfl hE rfl
    ·intro a w ux12 hE hM hp
     have f9 : ux12 9 = (Value.slice (some ⟨pb1,0,none⟩) 16 16):=hp 0 _ rfl rfl
     have f11 : ux12 11 = (vI (wr (s4.2 + 2))):=hp 1 _ rfl rfl
     exact QJ hE Zd ld (lk rfl f9) (lk rfl f11) Tryz.underlying32 ty5 hi21.1 fun a hE=>kq rfl hE rfl
    ·intro a w ux12 hE hM hp
     have f12 : ux12 12 = (ptr pb1 (0 + ((wr (s4.2 + 2))).toNat * 1)):=hp 0 _ rfl rfl
     exact Zx (v:=(vB x19)) hE (lk rfl f12) ty5 rfl (At.vec hM.rawAt0 hi21.2) fun a hE=>kq rfl hE rfl
    ·exact qm
    ·exact qm
    ·intro a w ux12 hE hM hp
     have f15 : ux12 15 = (vI s4.2):=hp 0 _ rfl rfl
     exact Zk hE (lk rfl f15) rfl rfl fun a hE=>kq rfl hE rfl
    ·intro a w ux12 hE hM hp
     have f14 : ux12 14 = (Value.slice (some ⟨pb1,0,none⟩) 16 16):=hp 0 _ rfl rfl
     have f16 : ux12 16 = (vI (wr (s4.2 + 3))):=hp 1 _ rfl rfl
     exact QJ hE Zd ld (lk rfl f14) (lk rfl f16) Tryz.underlying32 ty5 hi24.1 fun a hE=>kq rfl hE rfl
    ·intro a w ux12 hE hM hp
     have f17 : ux12 17 = (ptr pb1 (0 + ((wr (s4.2 + 3))).toNat * 1)):=hp 0 _ rfl rfl
     exact Zx (v:=(vB x22)) hE (lk rfl f17) ty5 rfl (At.vec hM.rawAt0 hi24.2) fun a hE=>kq rfl hE rfl
    ·intro a w ux12 hE hM hp
     have f3 : ux12 3 = (vB x13):=hp 0 _ rfl rfl
     exact Zb hE (lk rfl f3) fun a hE=>kq rfl hE rfl
    ·intro a w ux12 hE hM hp
     have f8 : ux12 8 = (vB x16):=hp 0 _ rfl rfl
     exact Zb hE (lk rfl f8) fun a hE=>kq rfl hE rfl
    ·intro a w ux12 hE hM hp
     have f13 : ux12 13 = (vB x19):=hp 0 _ rfl rfl
     exact Zb hE (lk rfl f13) fun a hE=>kq rfl hE rfl
    ·intro a w ux12 hE hM hp
     have f18 : ux12 18 = (vB x22):=hp 0 _ rfl rfl
     exact Zb hE (lk rfl f18) fun a hE=>kq rfl hE rfl
    ·intro a w ux12 hE hM hg
     have hE:=hE.sub (e':=[(5,vB x13),(6,vB x16),(7,vB x19),(8,vB x22),(0,v0_1),(1,(Value.slice (some ⟨pb1,0,none⟩) 16 16)),(4,vI s4.2),(10,vI s4.2),(11,(Value.slice (some ⟨pb1,0,none⟩) 16 16)),(12,(vI (s4.1.toList.length : Int))),(13,(vT (decide (s4.2 < (s4.1.toList.length : Int)))))]) ⟨lk rfl (hg 19 (by decide)),lk rfl (hg 20 (by decide)),lk rfl (hg 21 (by decide)),lk rfl (hg 22 (by decide)),rfl,rfl,rfl,rfl,rfl,rfl,rfl,trivial⟩
     refine Zj ?_
     obtain rfl:=Option.some.inj hl10
     refine Zl ?_
     exact ⟨hE.sub ⟨rfl,rfl,rfl,rfl,rfl,rfl,rfl,trivial⟩,hM⟩
   ·skip
    rintro a w ⟨hE,hM⟩
    refine Za (Ze hE rfl fun a hE=>Zf ?_)
    obtain ⟨j26,hl27,hF28⟩:=bind_some hF11
    refine ZJ (fun a w=>Env 79 a [(0,v0_1),(1,(Value.slice (some ⟨pb1,0,none⟩) 16 16)),(4,vI s4.2)] ∧ M St W w (raw pb1 (enc j26) :: its)) ?_ ?_
    ·skip
     refine wp_block ?_
     refine ZE (fun (s29 : (Vector UInt8 16) × Int) a w=>Env 79 a [(0,v0_1),(1,(Value.slice (some ⟨pb1,0,none⟩) 16 16)),(4,vI s4.2),(5,vB j9.1),(6,vB j9.2.1),(7,vB j9.2.2.1),(8,vB j9.2.2.2),(35,vI s29.2)] ∧ M St W w (raw pb1 (enc s29.1) :: its)) hl27 ⟨hE.sub ⟨rfl,rfl,rfl,rfl,rfl,rfl,rfl,rfl,trivial⟩,hM⟩ ?_
     rintro s29 a w ⟨hE,hM⟩ o32 hs30 hx31
     unfold X8 at hs30
     refine Za (Zk hE rfl rfl rfl fun a hE=>Zf (wp_seq ?_))
     refine Zq hE rfl ?_ ?_
     ·intro hb33
      have hs30:=Zu hs30 hb33
      refine wp_skip (Zy (wp_seq (wp_block (Za (Ze hE rfl fun a hE=>Zb hE rfl fun a hE=>Zf ?_)))))
      obtain ⟨pb35,ds36,hv37,hx38,hA39,hB40⟩:=TP hv0_1 -- ^
      obtain ⟨rfl,_⟩:=TR.1 hx38 -- ^
      obtain ⟨x42,hi41,hs30⟩:=bvx hs30
      obtain ⟨x45,hi44,hs30⟩:=bvx hs30
      obtain ⟨x48,hi47,hs30⟩:=bvx hs30
      obtain ⟨pb50,ds51,hv52,hx53,hA54,hB55⟩:=TP hv0_1 -- ^
      obtain ⟨rfl,_⟩:=TR.1 hx53 -- ^
      obtain ⟨x57,hi56,hs30⟩:=bvx hs30
      obtain ⟨x60,hi59,hs30⟩:=bvx hs30
      obtain ⟨x63,hi62,hs30⟩:=bvx hs30
      obtain ⟨pb65,ds66,hv67,hx68,hA69,hB70⟩:=TP hv0_1 -- ^
      obtain ⟨rfl,_⟩:=TR.1 hx68 -- ^
      obtain ⟨x72,hi71,hs30⟩:=bvx hs30
      obtain ⟨x75,hi74,hs30⟩:=bvx hs30
      obtain ⟨x78,hi77,hs30⟩:=bvx hs30
      obtain ⟨pb80,ds81,hv82,hx83,hA84,hB85⟩:=TP hv0_1 -- ^
      obtain ⟨rfl,_⟩:=TR.1 hx83 -- ^
      obtain ⟨x87,hi86,hs30⟩:=bvx hs30
      obtain ⟨x90,hi89,hs30⟩:=bvx hs30
      obtain ⟨x93,hi92,hs30⟩:=bvx hs30
      obtain ⟨x95,hi97,hs30⟩:=bvx hs30
      refine ZX (n:=79) (hd:=[_,_,_,_,_,_,_,_,_,_,_,_,_,_,_,_,_,_,_,_,_,_,_,_,_,_,_,_,_,_,_,_,_,_,_,_,_,_,_,_]) (tl:=[_]) Yx rfl rfl [38,39,40,41,42,43,44,45,46,47,48,49,50,51,52,53,54,55,56,57,58,59,60,61,62,63,64,65,66,67,68,69,70,71,72,73,74,75,76,77] (by decide) (fun w=>M St W w (raw pb1 (enc s29.1) :: its)) (fun j=>([fun v _=>v = (Value.slice (some ⟨pb1,0,none⟩) 16 16),fun v _=>v = (vI s4.2),fun v _=>v = (vI s29.2),fun v _=>v = (vI (wr (s4.2 + s29.2))),fun v _=>v = v0_1,fun v _=>v = (vI s29.2),fun v _=>v = (vB j9.1),fun v _=>v = (ptr pb35 0),fun v _=>v = (ptr pb35 (0 + (s29.2).toNat * 1024)),fun v _=>v = (ptr pb35 (0 + (s29.2).toNat * 1024 + ((0 : Int)).toNat * 256)),fun v _=>v = (ptr pb35 (0 + (s29.2).toNat * 1024 + ((0 : Int)).toNat * 256 + ((bI j9.1)).toNat * 1)),fun v _=>v = (vB x48),fun v _=>v = v0_1,fun v _=>v = (vI s29.2),fun v _=>v = (vB j9.2.1),fun v _=>v = (ptr pb50 0),fun v _=>v = (ptr pb50 (0 + (s29.2).toNat * 1024)),fun v _=>v = (ptr pb50 (0 + (s29.2).toNat * 1024 + ((1 : Int)).toNat * 256)),fun v _=>v = (ptr pb50 (0 + (s29.2).toNat * 1024 + ((1 : Int)).toNat * 256 + ((bI j9.2.1)).toNat * 1)),fun v _=>v = (vB x63),fun v _=>v = (vB (x48 ^^^ x63)),fun v _=>v = v0_1,fun v _=>v = (vI s29.2),fun v _=>v = (vB j9.2.2.1),fun v _=>v = (ptr pb65 0),fun v _=>v = (ptr pb65 (0 + (s29.2).toNat * 1024)),fun v _=>v = (ptr pb65 (0 + (s29.2).toNat * 1024 + ((2 : Int)).toNat * 256)),fun v _=>v = (ptr pb65 (0 + (s29.2).toNat * 1024 + ((2 : Int)).toNat * 256 + ((bI j9.2.2.1)).toNat * 1)),fun v _=>v = (vB x78),fun v _=>v = (vB ((x48 ^^^ x63) ^^^ x78)),fun v _=>v = v0_1,fun v _=>v = (vI s29.2),fun v _=>v = (vB j9.2.2.2),fun v _=>v = (ptr pb80 0),fun v _=>v = (ptr pb80 (0 + (s29.2).toNat * 1024)),fun v _=>v = (ptr pb80 (0 + (s29.2).toNat * 1024 + ((3 : Int)).toNat * 256)),fun v _=>v = (ptr pb80 (0 + (s29.2).toNat * 1024 + ((3 : Int)).toNat * 256 + ((bI j9.2.2.2)).toNat * 1)),fun v _=>v = (vB x93),fun v _=>v = (vB (((x48 ^^^ x63) ^^^ x78) ^^^ x93)),fun v _=>v = (ptr pb1 (0 + ((wr (s4.2 + s29.2))).toNat * 1))] : List (Value → World → Prop)).getD j (fun _ _=>True)) (fun _ _ h hk=>h.keep hk) (gup (Zw (Zw (Zw (Zw (Zw (Zw (Zw (Zw (Zw (Zw (Zw (Zw (Zw (Zw (Zw (Zw (Zw (Zw (Zw (Zw (Zw (Zw (Zw (Zw (Zw (Zw (Zw (Zw (Zw (Zw (Zw (Zw (Zw (Zw (Zw (Zw (Zw (Zw (Zw (Zw Kg))))))))))))))))))))))))))))))))))))))))) hE hM.drew (YE (Zc ?_ (Zc ?_ (Zc ?_ (Zc ?_ (Zc ?_ (Zc ?_ (Zc ?_ (Zc ?_ (Zc ?_ (Zc ?_ (Zc ?_ (Zc ?_ (Zc ?_ (Zc ?_ (Zc ?_ (Zc ?_ (Zc ?_ (Zc ?_ (Zc ?_ (Zc ?_ (Zc ?_ (Zc ?_ (Zc ?_ (Zc ?_ (Zc ?_ (Zc ?_ (Zc ?_ (Zc ?_ (Zc ?_ (Zc ?_ (Zc ?_ (Zc ?_ (Zc ?_ (Zc ?_ (Zc ?_ (Zc ?_ (Zc ?_ (Zc ?_ (Zc ?_ (Zc ?_ Yl))))))))))))))))))))))))))))))))))))))))) ?_
      ·exact qm
      ·exact qm
      ·exact qm
      ·intro a w ux34 hE hM hp
       have f1 : ux34 1 = (vI s4.2):=hp 0 _ rfl rfl
       have f2 : ux34 2 = (vI s29.2):=hp 1 _ rfl rfl
       exact Zk hE (lk rfl f1) (lk rfl f2) rfl fun a hE=>kq rfl hE rfl
      ·exact qm
      ·exact qm
      ·exact qm
      ·intro a w ux34 hE hM hp
       have f4 : ux34 4 = v0_1:=hp 0 _ rfl rfl
       exact Wh hE Zd ld (lk (lk rfl f4) hv37) fun a hE=>kq rfl hE rfl
      ·intro a w ux34 hE hM hp
       have f5 : ux34 5 = (vI s29.2):=hp 1 _ rfl rfl
       have f7 : ux34 7 = (ptr pb35 0):=hp 0 _ rfl rfl
       exact Zm hE (lk rfl f7) (lk rfl f5) Tryz.underlying207 A5 hi41.1 fun a hE=>kq rfl hE rfl
      ·intro a w ux34 hE hM hp
       have f8 : ux34 8 = (ptr pb35 (0 + (s29.2).toNat * 1024)):=hp 0 _ rfl rfl
       exact Zm hE (lk rfl f8) rfl Tryz.underlying205 jb hi44.1 fun a hE=>kq rfl hE rfl
      ·intro a w ux34 hE hM hp
       have f6 : ux34 6 = (vB j9.1):=hp 1 _ rfl rfl
       have f9 : ux34 9 = (ptr pb35 (0 + (s29.2).toNat * 1024 + ((0 : Int)).toNat * 256)):=hp 0 _ rfl rfl
       exact Zm hE (lk rfl f9) (lk rfl f6) Tryz.underlying22 ty5 hi47.1 fun a hE=>kq rfl hE rfl
      ·intro a w ux34 hE hM hp
       have f10 : ux34 10 = (ptr pb35 (0 + (s29.2).toNat * 1024 + ((0 : Int)).toNat * 256 + ((bI j9.1)).toNat * 1)):=hp 0 _ rfl rfl
       exact Zx (v:=(vB x48)) hE (lk rfl f10) ty5 rfl (At.vec (At.vec (At.vec (hM.atk hA39 hB40) hi41.2) hi44.2) hi47.2) fun a hE=>kq rfl hE rfl
      ·exact qm
      ·exact qm
      ·exact qm
      ·intro a w ux34 hE hM hp
       have f12 : ux34 12 = v0_1:=hp 0 _ rfl rfl
       exact Wh hE Zd ld (lk (lk rfl f12) hv52) fun a hE=>kq rfl hE rfl
      ·intro a w ux34 hE hM hp
       have f13 : ux34 13 = (vI s29.2):=hp 1 _ rfl rfl
       have f15 : ux34 15 = (ptr pb50 0):=hp 0 _ rfl rfl
       exact Zm hE (lk rfl f15) (lk rfl f13) Tryz.underlying207 A5 hi56.1 fun a hE=>kq rfl hE rfl
      ·intro a w ux34 hE hM hp
       have f16 : ux34 16 = (ptr pb50 (0 + (s29.2).toNat * 1024)):=hp 0 _ rfl rfl
       exact Zm hE (lk rfl f16) rfl Tryz.underlying205 jb hi59.1 fun a hE=>kq rfl hE rfl
      ·intro a w ux34 hE hM hp
       have f14 : ux34 14 = (vB j9.2.1):=hp 1 _ rfl rfl
       have f17 : ux34 17 = (ptr pb50 (0 + (s29.2).toNat * 1024 + ((1 : Int)).toNat * 256)):=hp 0 _ rfl rfl
       exact Zm hE (lk rfl f17) (lk rfl f14) Tryz.underlying22 ty5 hi62.1 fun a hE=>kq rfl hE rfl
      ·intro a w ux34 hE hM hp
       have f18 : ux34 18 = (ptr pb50 (0 + (s29.2).toNat * 1024 + ((1 : Int)).toNat * 256 + ((bI j9.2.1)).toNat * 1)):=hp 0 _ rfl rfl
       exact Zx (v:=(vB x63)) hE (lk rfl f18) ty5 rfl (At.vec (At.vec (At.vec (hM.atk hA54 hB55) hi56.2) hi59.2) hi62.2) fun a hE=>kq rfl hE rfl
      ·intro a w ux34 hE hM hp
       have f11 : ux34 11 = (vB x48):=hp 0 _ rfl rfl
       have f19 : ux34 19 = (vB x63):=hp 1 _ rfl rfl
       exact Zk hE (lk rfl f11) (lk rfl f19) (VA x48 x63) fun a hE=>kq rfl hE rfl
      ·exact qm
      ·exact qm
      ·exact qm
      ·intro a w ux34 hE hM hp
       have f21 : ux34 21 = v0_1:=hp 0 _ rfl rfl
       exact Wh hE Zd ld (lk (lk rfl f21) hv67) fun a hE=>kq rfl hE rfl
      ·intro a w ux34 hE hM hp
       have f22 : ux34 22 = (vI s29.2):=hp 1 _ rfl rfl
       have f24 : ux34 24 = (ptr pb65 0):=hp 0 _ rfl rfl
       exact Zm hE (lk rfl f24) (lk rfl f22) Tryz.underlying207 A5 hi71.1 fun a hE=>kq rfl hE rfl
      ·intro a w ux34 hE hM hp
       have f25 : ux34 25 = (ptr pb65 (0 + (s29.2).toNat * 1024)):=hp 0 _ rfl rfl
       exact Zm hE (lk rfl f25) rfl Tryz.underlying205 jb hi74.1 fun a hE=>kq rfl hE rfl
      ·intro a w ux34 hE hM hp
       have f23 : ux34 23 = (vB j9.2.2.1):=hp 1 _ rfl rfl
       have f26 : ux34 26 = (ptr pb65 (0 + (s29.2).toNat * 1024 + ((2 : Int)).toNat * 256)):=hp 0 _ rfl rfl
       exact Zm hE (lk rfl f26) (lk rfl f23) Tryz.underlying22 ty5 hi77.1 fun a hE=>kq rfl hE rfl
      ·intro a w ux34 hE hM hp
       have f27 : ux34 27 = (ptr pb65 (0 + (s29.2).toNat * 1024 + ((2 : Int)).toNat * 256 + ((bI j9.2.2.1)).toNat * 1)):=hp 0 _ rfl rfl
       exact Zx (v:=(vB x78)) hE (lk rfl f27) ty5 rfl (At.vec (At.vec (At.vec (hM.atk hA69 hB70) hi71.2) hi74.2) hi77.2) fun a hE=>kq rfl hE rfl
      ·intro a w ux34 hE hM hp
       have f20 : ux34 20 = (vB (x48 ^^^ x63)):=hp 0 _ rfl rfl
       have f28 : ux34 28 = (vB x78):=hp 1 _ rfl rfl
       exact Zk hE (lk rfl f20) (lk rfl f28) (VA (x48 ^^^ x63) x78) fun a hE=>kq rfl hE rfl
      ·exact qm
      ·exact qm
      ·exact qm
      ·intro a w ux34 hE hM hp
       have f30 : ux34 30 = v0_1:=hp 0 _ rfl rfl
       exact Wh hE Zd ld (lk (lk rfl f30) hv82) fun a hE=>kq rfl hE rfl
      ·intro a w ux34 hE hM hp
       have f31 : ux34 31 = (vI s29.2):=hp 1 _ rfl rfl
       have f33 : ux34 33 = (ptr pb80 0):=hp 0 _ rfl rfl
       exact Zm hE (lk rfl f33) (lk rfl f31) Tryz.underlying207 A5 hi86.1 fun a hE=>kq rfl hE rfl
      ·intro a w ux34 hE hM hp
       have f34 : ux34 34 = (ptr pb80 (0 + (s29.2).toNat * 1024)):=hp 0 _ rfl rfl
       exact Zm hE (lk rfl f34) rfl Tryz.underlying205 jb hi89.1 fun a hE=>kq rfl hE rfl
      ·intro a w ux34 hE hM hp
       have f32 : ux34 32 = (vB j9.2.2.2):=hp 1 _ rfl rfl
       have f35 : ux34 35 = (ptr pb80 (0 + (s29.2).toNat * 1024 + ((3 : Int)).toNat * 256)):=hp 0 _ rfl rfl
       exact Zm hE (lk rfl f35) (lk rfl f32) Tryz.underlying22 ty5 hi92.1 fun a hE=>kq rfl hE rfl
      ·intro a w ux34 hE hM hp
       have f36 : ux34 36 = (ptr pb80 (0 + (s29.2).toNat * 1024 + ((3 : Int)).toNat * 256 + ((bI j9.2.2.2)).toNat * 1)):=hp 0 _ rfl rfl
       exact Zx (v:=(vB x93)) hE (lk rfl f36) ty5 rfl (At.vec (At.vec (At.vec (hM.atk hA84 hB85) hi86.2) hi89.2) hi92.2) fun a hE=>kq rfl hE rfl
      ·intro a w ux34 hE hM hp
       have f29 : ux34 29 = (vB ((x48 ^^^ x63) ^^^ x78)):=hp 0 _ rfl rfl
       have f37 : ux34 37 = (vB x93):=hp 1 _ rfl rfl
       exact Zk hE (lk rfl f29) (lk rfl f37) (VA ((x48 ^^^ x63) ^^^ x78) x93) fun a hE=>kq rfl hE rfl
      ·intro a w ux34 hE hM hp
       have f0 : ux34 0 = (Value.slice (some ⟨pb1,0,none⟩) 16 16):=hp 0 _ rfl rfl
       have f3 : ux34 3 = (vI (wr (s4.2 + s29.2))):=hp 1 _ rfl rfl
       exact QJ hE Zd ld (lk rfl f0) (lk rfl f3) Tryz.underlying32 ty5 hi97.1 fun a hE=>kq rfl hE rfl
      ·intro a w ux34 hE hM hg
       have hE:=hE.sub (e':=[(76,(vB (((x48 ^^^ x63) ^^^ x78) ^^^ x93))),(77,(ptr pb1 (0 + ((wr (s4.2 + s29.2))).toNat * 1))),(0,v0_1),(1,(Value.slice (some ⟨pb1,0,none⟩) 16 16)),(4,vI s4.2),(5,vB j9.1),(6,vB j9.2.1),(7,vB j9.2.2.1),(8,vB j9.2.2.2),(9,vI s29.2),(35,vI s29.2),(36,(vT (decide (s29.2 < 4)))),(37,vI s29.2)]) ⟨lk rfl (hg 38 (by decide)),lk rfl (hg 39 (by decide)),rfl,rfl,rfl,rfl,rfl,rfl,rfl,rfl,rfl,rfl,rfl,trivial⟩
       refine Zo (seg:=[(vB (((x48 ^^^ x63) ^^^ x78) ^^^ x93))]) (cs':=enc (s29.1.setIfInBounds ((wr (s4.2 + s29.2))).toNat (((x48 ^^^ x63) ^^^ x78) ^^^ x93))) hE hM Zd rfl rfl rfl ty5 rfl (ZH (v:=s29.1) (x:=((x48 ^^^ x63) ^^^ x78) ^^^ x93) hi97.1) (Flat.cell (((x48 ^^^ x63) ^^^ x78) ^^^ x93 : UInt8)) (ZA (v:=s29.1) (x:=((x48 ^^^ x63) ^^^ x78) ^^^ x93) hi97.1) fun w a hM hE=>Zj (Z0 (Zy (wp_region_lit (Zk hE rfl rfl rfl fun a hE=>Ze hE rfl fun a hE=>Zj (Zl ?_)))))
       exact ⟨_,(ois hs30),hE.sub ⟨rfl,rfl,rfl,rfl,rfl,rfl,rfl,rfl,trivial⟩,hM⟩
     ·intro hb33
      have hs30:=Zt hs30 hb33
      refine wp_exit (Zp (Zp (Z1 ?_)))
      obtain rfl:=hx31 _ (ois hs30)
      refine Zl ?_
      exact ⟨hE.sub ⟨rfl,rfl,rfl,trivial⟩,hM⟩
    ·skip
     rintro a w ⟨hE,hM⟩
     refine Z0 (Zy (wp_region_lit (Ze hE rfl fun a hE=>Zk hE rfl rfl rfl fun a hE=>Zb hE rfl fun a hE=>Zj (Zl ?_))))
     exact ⟨_,(ois hF28),hE.sub ⟨rfl,rfl,rfl,trivial⟩,hM⟩
  ·intro hb8
   have hs5:=Zt hs5 hb8
   refine wp_exit (Zp (Zp (Z1 ?_)))
   obtain rfl:=hx6 _ (ois hs5)
   refine Zl ?_
   exact ⟨hE.sub ⟨rfl,trivial⟩,hM⟩
 ·skip
  rintro a w ⟨hE,hM⟩
  obtain rfl:=Option.some.inj hF3
  exact Zds hE (by rfl) ⟨_,rfl,rfl,hM⟩
def Ym (p0 : (Ref Gengine)) (s18 : (Vector UInt8 16) × Int) (s29 : (Vector UInt8 16) × Int) : Option (Fl ((Vector UInt8 16) × Int) (Vector UInt8 16)) :=
 if (decide (s29.2 < 16)) = true then ((ZC s18.1 s29.2).bind fun x34=>(ZC p0.v.box (bI x34)).bind fun x48=>(ZC s29.1 s29.2).bind fun x51=>some (Fl.nx ((s29.1.setIfInBounds (s29.2).toNat x48),wr (s29.2 + 1)))) else (some (Fl.ex s29.1))
def Yn (p0 : (Ref Gengine)) (p1 : (List (Vector UInt8 16))) (s18 : (Vector UInt8 16) × Int) : Option (Fl ((Vector UInt8 16) × Int) (Vector UInt8 16)) :=
 if (decide (s18.2 < (p1.length : Int))) = true then (((ZD (Ym p0 s18) (s18.1,0)).bind fun j26=>((WM p0.v.places j26).bind fun r68=>some r68 : Option ((Vector UInt8 16))).bind fun j54=>(if (decide (s18.2 < (wr ((p1.length : Int) - 1)))) = true then ((slc j54.toList (0 : Int) (16 : Int)).bind fun l86=>(VE p0.v.mixer j54).bind fun r89=>some r89) else (some j54) : Option ((Vector UInt8 16))).bind fun j71=>(idx p1 s18.2).bind fun x94=>(Yo j71 x94).bind fun r97=>some r97 : Option ((Vector UInt8 16))).bind fun j23=>some (Fl.nx (j23,wr (s18.2 + 1)))) else (some (Fl.ex s18.1))
def YK (p0 : (Ref Gengine)) (p1 : (List (Vector UInt8 16))) (p2 : (Vector UInt8 16)) : Option ((Vector UInt8 16)) :=
 ((idx p1 (0 : Int)).bind fun x9=>(Yo p2 x9).bind fun r12=>some r12 : Option ((Vector UInt8 16))).bind fun j5=>(ZD (Yn p0 p1) (j5,1)).bind fun j15=>some j15
theorem Kf (w0 : World) (p0 : (Ref Gengine)) (v0_1 : Value) (hv0_1 : Ro w0 p0 [v0_1]) (p1 : (List (Vector UInt8 16))) (v1_1 : Value) (hv1_1 : Ro w0 p1 [v1_1]) (p2 : (Vector UInt8 16)) (r : (Vector UInt8 16)) (hF : YK p0 p1 p2 = some r) :
  Calls Tryz.prog 171 [v0_1,v1_1,(Value.agg (enc p2).toArray)].toArray w0 (Rt w0 (Value.agg (enc r).toArray)):=by
 refine ce Tryz.func171 ?_
 intro a hE
 have hM:=M.start w0
 unfold YK at hF
 refine Za (ZM (cs:=enc p2) hE hM Zd ld rfl rfl fun b1 w a hM hE=>Zz hE hM ZF fun b3 w a hM hE=>Zf ?_)
 obtain ⟨j5,hl6,hF7⟩:=bind_some hF
 refine ZI (fun a w=>Env 59 a [(0,v0_1),(1,v1_1),(5,(ptr b1 0)),(6,(ptr b3 0))] ∧ M (Old w0) w0 w [raw b3 (enc (Vector.replicate 16 (0 : UInt8))),raw b1 (enc j5)]) ?_ ?_
 ·skip
  obtain ⟨x9,hi11,hl6⟩:=bix hl6
  obtain ⟨r12,e13,hl6⟩:=bind_some hl6
  refine ZX (n:=59) (hd:=[_,_,_,_,_]) (tl:=[_]) Yx rfl rfl [10,11,12,13,14] (by decide) (fun w=>M (Old w0) w0 w [raw b3 (enc (Vector.replicate 16 (0 : UInt8))),raw b1 (enc p2)]) (fun j=>([fun v _=>v = (Value.agg (enc p2).toArray),fun v _=>v = v1_1,fun v _=>v = (ptr (sb v1_1) (so v1_1 + ((0 : Int)).toNat * 16)),fun v _=>v = (Value.agg (enc x9).toArray),fun v _=>v = (Value.agg (enc r12).toArray)] : List (Value → World → Prop)).getD j (fun _ _=>True)) (fun _ _ h hk=>h.keep hk) (gup gu5) hE hM.drew (st5 ?_ ?_ ?_ ?_ ?_) ?_
  ·exact fun a w ux8 hE hM hp=>Zn hE rfl ZF rfl hM.rawAt1 (Flat.len _) fun a hE=>kq rfl hE rfl
  ·exact qm
  ·intro a w ux8 hE hM hp
   have f1 : ux8 1 = v1_1:=hp 0 _ rfl rfl
   exact ZK hE (lk rfl f1) rfl Tryz.underlying33 ZF (hM.rd hv1_1) hi11.1 fun a hE=>kq rfl hE rfl
  ·intro a w ux8 hE hM hp
   have f2 : ux8 2 = (ptr (sb v1_1) (so v1_1 + ((0 : Int)).toNat * 16)):=hp 0 _ rfl rfl
   exact Zn hE (lk rfl f2) ZF rfl (Ys (hM.rd hv1_1) hi11.2) (Flat.len _) fun a hE=>kq rfl hE rfl
  ·intro a w ux8 hE hM hp
   have f0 : ux8 0 = (Value.agg (enc p2).toArray):=hp 0 _ rfl rfl
   have f3 : ux8 3 = (Value.agg (enc x9).toArray):=hp 1 _ rfl rfl
   refine Zv hE (ZU (ZR (lk rfl f0) (ZR (lk rfl f3) Xf))) yj (WG _ p2 x9 r12 e13) ?_
   rintro v w a ⟨rfl,hK⟩ hE
   exact ⟨hK,_,_,rfl,hE,rfl⟩
  ·intro a w ux8 hE hM hg
   have hE:=hE.sub (e':=[(14,(Value.agg (enc r12).toArray)),(0,v0_1),(1,v1_1),(5,(ptr b1 0)),(6,(ptr b3 0))]) ⟨lk rfl (hg 4 (by decide)),rfl,rfl,rfl,rfl,trivial⟩
   have hM:=hM.pull1
   refine Zo (seg:=enc r12) (cs':=enc r12) hE hM Zd rfl rfl rfl ZF (Flat.len _) (zle flq) (Flat.cell _) (Zr flq) fun w a hM hE=>Zj ?_
   obtain rfl:=Option.some.inj hl6
   refine Zl ?_
   have hM:=hM.pull1
   exact ⟨hE.sub ⟨rfl,rfl,rfl,rfl,trivial⟩,hM⟩
 ·skip
  rintro a w ⟨hE,hM⟩
  refine wp_seq (Za (Zb hE rfl fun a hE=>Zf ?_))
  obtain ⟨j15,hl16,hF17⟩:=bind_some hF7
  refine ZJ (fun a w=>Env 59 a [(5,(ptr b1 0)),(6,(ptr b3 0))] ∧ M (Old w0) w0 w [raw b3 (enc (Vector.replicate 16 (0 : UInt8))),raw b1 (enc j15)]) ?_ ?_
  ·skip
   refine wp_block ?_
   refine ZE (fun (s18 : (Vector UInt8 16) × Int) a w=>Env 59 a [(0,v0_1),(1,v1_1),(5,(ptr b1 0)),(6,(ptr b3 0)),(7,vI s18.2)] ∧ M (Old w0) w0 w [raw b3 (enc (Vector.replicate 16 (0 : UInt8))),raw b1 (enc s18.1)]) hl16 ⟨hE.sub ⟨rfl,rfl,rfl,rfl,rfl,trivial⟩,hM⟩ ?_
   rintro s18 a w ⟨hE,hM⟩ o21 hs19 hx20
   unfold Yn at hs19
   refine wp_seq (Za (Ze hE rfl fun a hE=>Ze hE rfl fun a hE=>ZZ hE rfl Tryz.underlying33 (hM.rd hv1_1) fun a hE=>Zk hE rfl rfl rfl fun a hE=>Zf ?_))
   refine Zq hE rfl ?_ ?_
   ·intro hb22
    have hs19:=Zu hs19 hb22
    refine wp_skip (Zy ?_)
    obtain ⟨j23,hl24,hF25⟩:=bind_some hs19
    refine ZI (fun a w=>Env 59 a [(0,v0_1),(1,v1_1),(5,(ptr b1 0)),(6,(ptr b3 0)),(7,vI s18.2)] ∧ M (Old w0) w0 w [raw b3 (enc (Vector.replicate 16 (0 : UInt8))),raw b1 (enc j23)]) ?_ ?_
    ·skip
     refine wp_block (wp_seq (Za (Zn hE rfl ZF rfl hM.rawAt1 (Flat.len _) fun a hE=>Ze hE rfl fun a hE=>Zf ?_)))
     obtain ⟨j26,hl27,hF28⟩:=bind_some hl24
     refine ZJ (fun a w=>Env 59 a [(0,v0_1),(1,v1_1),(5,(ptr b1 0)),(6,(ptr b3 0)),(7,vI s18.2)] ∧ M (Old w0) w0 w [raw b3 (enc (Vector.replicate 16 (0 : UInt8))),raw b1 (enc j26)]) ?_ ?_
     ·skip
      refine wp_block ?_
      refine ZE (fun (s29 : (Vector UInt8 16) × Int) a w=>Env 59 a [(0,v0_1),(1,v1_1),(5,(ptr b1 0)),(6,(ptr b3 0)),(7,vI s18.2),(21,(Value.agg (enc s18.1).toArray)),(22,vI s29.2)] ∧ M (Old w0) w0 w [raw b3 (enc (Vector.replicate 16 (0 : UInt8))),raw b1 (enc s29.1)]) hl27 ⟨hE.sub ⟨rfl,rfl,rfl,rfl,rfl,rfl,rfl,trivial⟩,hM⟩ ?_
      rintro s29 a w ⟨hE,hM⟩ o32 hs30 hx31
      unfold Ym at hs30
      refine Za (Zk hE rfl rfl rfl fun a hE=>Zf (wp_seq ?_))
      refine Zq hE rfl ?_ ?_
      ·intro hb33
       have hs30:=Zu hs30 hb33
       refine wp_skip (Zy (wp_seq (wp_block (Za (Ze hE rfl ?_))))); intro a hE
       obtain ⟨x34,hi36,hs30⟩:=bvx hs30
       refine Q6 hE Zd ld rfl rfl Tryz.underlying31 ty5 rfl rfl hi36 rfl fun a hE=>Zb hE rfl fun a hE=>Zb hE rfl fun a hE=>Zf (wp_region_lit (Ze hE rfl fun a hE=>Ze hE rfl fun a hE=>Ze hE rfl ?_)); intro a hE
       obtain ⟨pb37,ds38,hv39,hx40,hA41,hB42⟩:=TP hv0_1 -- ^
       obtain ⟨u43,u45,rfl,h44,h46⟩:=QB hx40 -- ^
       refine Wh hE Zd ld (lk rfl hv39) fun a hE=>Zg hE rfl (yp) ?_; intro a hE
       obtain ⟨x48,hi47,hs30⟩:=bvx hs30
       refine Zm hE rfl rfl Tryz.underlying23 ty5 hi47.1 fun a hE=>Zx (v:=(vB x48)) hE rfl ty5 rfl (At.vec (At.cat (pre:=[]) (hM.atk hA41 hB42) cl0) hi47.2) ?_; intro a hE
       obtain ⟨x51,hi50,hs30⟩:=bvx hs30
       refine Zm hE rfl rfl Tryz.underlying31 ty5 hi50.1 ?_; intro a hE
       have hM:=hM.pull1
       refine Zo (seg:=[vB x48]) (cs':=enc (s29.1.setIfInBounds (s29.2).toNat x48)) hE hM Zd rfl rfl rfl ty5 rfl (ZH (v:=s29.1) (x:=x48) hi50.1) (Flat.cell (x48 : UInt8)) (ZA (v:=s29.1) (x:=x48) hi50.1) fun w a hM hE=>Zj (Z0 (Zy (wp_region_lit (Zk hE rfl rfl rfl fun a hE=>Ze hE rfl fun a hE=>Zj (Zl ?_)))))
       have hM:=hM.pull1
       exact ⟨_,(ois hs30),hE.sub ⟨rfl,rfl,rfl,rfl,rfl,rfl,rfl,trivial⟩,hM⟩
      ·intro hb33
       have hs30:=Zt hs30 hb33
       refine wp_exit (Zp (Zp (Z1 ?_)))
       obtain rfl:=hx31 _ (ois hs30)
       refine Zl ?_
       exact ⟨hE.sub ⟨rfl,rfl,rfl,rfl,rfl,trivial⟩,hM⟩
     ·skip
      rintro a w ⟨hE,hM⟩
      refine Zy ?_
      obtain ⟨j54,hl55,hF56⟩:=bind_some hF28
      refine ZI (fun a w=>Env 59 a [(0,v0_1),(1,v1_1),(5,(ptr b1 0)),(6,(ptr b3 0)),(7,vI s18.2)] ∧ M (Old w0) w0 w [raw b3 (enc (Vector.replicate 16 (0 : UInt8))),raw b1 (enc j54)]) ?_ ?_
      ·skip
       obtain ⟨pb58,ds59,hv60,hx61,hA62,hB63⟩:=TP hv0_1 -- ^
       obtain ⟨u64,u66,rfl,h65,h67⟩:=QB hx61 -- ^
       obtain ⟨r68,e69,hl55⟩:=bind_some hl55
       refine ZX (n:=59) (hd:=[_,_,_,_,_,_]) (tl:=[_]) Yx rfl rfl [35,36,37,38,39,40] (by decide) (fun w=>M (Old w0) w0 w [raw b3 (enc (Vector.replicate 16 (0 : UInt8))),raw b1 (enc j26)]) (fun j=>([fun v _=>v = v0_1,fun v _=>v = (ptr pb58 0),fun v _=>v = (ptr pb58 (0 + 512)),fun v _=>v = (Value.agg (enc p0.v.places).toArray),fun v _=>v = (Value.agg (enc j26).toArray),fun v _=>v = (Value.agg (enc r68).toArray)] : List (Value → World → Prop)).getD j (fun _ _=>True)) (fun _ _ h hk=>h.keep hk) (gup gu6) hE hM.drew (st6 ?_ ?_ ?_ ?_ ?_ ?_) ?_
       ·exact qm
       ·intro a w ux57 hE hM hp
        have f0 : ux57 0 = v0_1:=hp 0 _ rfl rfl
        exact Wh hE Zd ld (lk (lk rfl f0) hv60) fun a hE=>kq rfl hE rfl
       ·intro a w ux57 hE hM hp
        have f1 : ux57 1 = (ptr pb58 0):=hp 0 _ rfl rfl
        exact Zg hE (lk rfl f1) (Zc0) fun a hE=>kq rfl hE rfl
       ·intro a w ux57 hE hM hp
        have f2 : ux57 2 = (ptr pb58 (0 + 512)):=hp 0 _ rfl rfl
        exact Zn hE (lk rfl f2) Qz rfl (At.cat (pre:=[enc p0.v.box,enc p0.v.backBox]) (hM.atk hA62 hB63) ck) (Flat.len _) fun a hE=>kq rfl hE rfl
       ·exact fun a w ux57 hE hM hp=>Zn hE rfl ZF rfl hM.rawAt1 (Flat.len _) fun a hE=>kq rfl hE rfl
       ·intro a w ux57 hE hM hp
        have f3 : ux57 3 = (Value.agg (enc p0.v.places).toArray):=hp 0 _ rfl rfl
        have f4 : ux57 4 = (Value.agg (enc j26).toArray):=hp 1 _ rfl rfl
        refine Zv hE (ZU (ZR (lk rfl f3) (ZR (lk rfl f4) Xf))) (cbm Tryz.func178) (J1 _ p0.v.places j26 r68 e69) ?_
        rintro v w a ⟨rfl,hK⟩ hE
        exact ⟨hK,_,_,rfl,hE,rfl⟩
       ·intro a w ux57 hE hM hg
        have hE:=hE.sub (e':=[(40,(Value.agg (enc r68).toArray)),(0,v0_1),(1,v1_1),(5,(ptr b1 0)),(6,(ptr b3 0)),(7,vI s18.2)]) ⟨lk rfl (hg 5 (by decide)),rfl,rfl,rfl,rfl,rfl,trivial⟩
        have hM:=hM.pull1
        refine Zo (seg:=enc r68) (cs':=enc r68) hE hM Zd rfl rfl rfl ZF (Flat.len _) (zle flq) (Flat.cell _) (Zr flq) fun w a hM hE=>Zj ?_
        obtain rfl:=Option.some.inj hl55
        refine Zl ?_
        have hM:=hM.pull1
        exact ⟨hE.sub ⟨rfl,rfl,rfl,rfl,rfl,trivial⟩,hM⟩
      ·skip
       rintro a w ⟨hE,hM⟩
       obtain ⟨j71,hl72,hF73⟩:=bind_some hF56
       refine ZI (fun a w=>Env 59 a [(0,v0_1),(1,v1_1),(5,(ptr b1 0)),(6,(ptr b3 0)),(7,vI s18.2)] ∧ M (Old w0) w0 w [raw b3 (enc (Vector.replicate 16 (0 : UInt8))),raw b1 (enc j71)]) ?_ ?_
       ·skip
        refine Za (Ze hE rfl fun a hE=>Ze hE rfl fun a hE=>ZZ hE rfl Tryz.underlying33 (hM.rd hv1_1) fun a hE=>Zk hE rfl rfl rfl fun a hE=>Zk hE rfl rfl rfl fun a hE=>Zf ?_)
        refine Zq hE rfl ?_ ?_
        ·intro hb74
         have hl72:=Zu hl72 hb74
         obtain ⟨pb76,ds77,hv78,hx79,hA80,hB81⟩:=TP hv0_1 -- ^
         obtain ⟨u82,u84,rfl,h83,h85⟩:=QB hx79 -- ^
         obtain ⟨l86,e87,hl72⟩:=bind_some hl72
         have hb88:=QV e87 -- ^
         refine ZX (n:=59) (hd:=[_,_,_,_,_]) (tl:=[_]) Yx rfl rfl [46,47,48,49,50] (by decide) (fun w=>M (Old w0) w0 w [raw b3 (enc (Vector.replicate 16 (0 : UInt8))),raw b1 (enc j54)]) (fun j=>([fun v _=>v = v0_1,fun v _=>v = (ptr pb76 0),fun v _=>v = (ptr pb76 (0 + 544)),fun v _=>v = u82,fun v _=>v = (Z9 (.slice (some ⟨b1,0,none⟩) 16 16) ((0 : Int)).toNat ((16 : Int)).toNat 1)] : List (Value → World → Prop)).getD j (fun _ _=>True)) (fun _ _ h hk=>h.keep hk) (gup gu5) hE hM.drew (st5 ?_ ?_ ?_ ?_ ?_) ?_
         ·exact qm
         ·intro a w ux75 hE hM hp
          have f0 : ux75 0 = v0_1:=hp 0 _ rfl rfl
          exact Wh hE Zd ld (lk (lk rfl f0) hv78) fun a hE=>kq rfl hE rfl
         ·intro a w ux75 hE hM hp
          have f1 : ux75 1 = (ptr pb76 0):=hp 0 _ rfl rfl
          exact Zg hE (lk rfl f1) (Zdt) fun a hE=>kq rfl hE rfl
         ·intro a w ux75 hE hM hp
          have f2 : ux75 2 = (ptr pb76 (0 + 544)):=hp 0 _ rfl rfl
          exact Zx (v:=u82) hE (lk rfl f2) Zba rfl (At.cat (pre:=[enc p0.v.box,enc p0.v.backBox,enc p0.v.places,enc p0.v.backPlaces]) (hM.atk hA80 hB81) ck) fun a hE=>kq rfl hE rfl
         ·exact fun a w ux75 hE hM hp=>VZ (N:=16) hE Zd ld rfl rfl rfl rfl rfl Tryz.underlying31 ty5 hb88 fun a hE=>kq rfl hE rfl
         ·intro a w ux75 hE hM hg
          have hE:=hE.sub (e':=[(49,u82),(50,(Z9 (.slice (some ⟨b1,0,none⟩) 16 16) ((0 : Int)).toNat ((16 : Int)).toNat 1)),(0,v0_1),(1,v1_1),(5,(ptr b1 0)),(6,(ptr b3 0)),(7,vI s18.2),(41,vI s18.2),(42,v1_1),(43,(vI (p1.length : Int))),(44,(vI (wr ((p1.length : Int) - 1)))),(45,(vT (decide (s18.2 < (wr ((p1.length : Int) - 1))))))]) ⟨lk rfl (hg 3 (by decide)),lk rfl (hg 4 (by decide)),rfl,rfl,rfl,rfl,rfl,rfl,rfl,rfl,rfl,rfl,trivial⟩
          have hM:=hM.pull1
          obtain ⟨r89,e90,hl72⟩:=bind_some hl72
          refine Zv hE rfl (cbm Tryz.func179) (Bc _ _ _ _ p0.v.mixer u82 h83 b1 j54 hM r89 e90) ?_
          rintro v w a ⟨rfl,hM⟩ hE
          refine Zj ?_
          obtain rfl:=Option.some.inj hl72
          refine Zl ?_
          have hM:=hM.pull1
          exact ⟨hE.sub ⟨rfl,rfl,rfl,rfl,rfl,trivial⟩,hM⟩
        ·intro hb74
         have hl72:=Zt hl72 hb74
         refine wp_skip ?_
         obtain rfl:=Option.some.inj hl72
         refine Zl ?_
         exact ⟨hE.sub ⟨rfl,rfl,rfl,rfl,rfl,trivial⟩,hM⟩
       ·skip
        rintro a w ⟨hE,hM⟩
        obtain ⟨x94,hi96,hF73⟩:=bix hF73
        obtain ⟨r97,e98,hF73⟩:=bind_some hF73
        refine ZX (n:=59) (hd:=[_,_,_,_,_,_]) (tl:=[_]) Yx rfl rfl [52,53,54,55,56,57] (by decide) (fun w=>M (Old w0) w0 w [raw b3 (enc (Vector.replicate 16 (0 : UInt8))),raw b1 (enc j71)]) (fun j=>([fun v _=>v = (Value.agg (enc j71).toArray),fun v _=>v = v1_1,fun v _=>v = (vI s18.2),fun v _=>v = (ptr (sb v1_1) (so v1_1 + (s18.2).toNat * 16)),fun v _=>v = (Value.agg (enc x94).toArray),fun v _=>v = (Value.agg (enc r97).toArray)] : List (Value → World → Prop)).getD j (fun _ _=>True)) (fun _ _ h hk=>h.keep hk) (gup gu6) hE hM.drew (st6 ?_ ?_ ?_ ?_ ?_ ?_) ?_
        ·exact fun a w ux93 hE hM hp=>Zn hE rfl ZF rfl hM.rawAt1 (Flat.len _) fun a hE=>kq rfl hE rfl
        ·exact qm
        ·exact qm
        ·intro a w ux93 hE hM hp
         have f1 : ux93 1 = v1_1:=hp 0 _ rfl rfl
         have f2 : ux93 2 = (vI s18.2):=hp 1 _ rfl rfl
         exact ZK hE (lk rfl f1) (lk rfl f2) Tryz.underlying33 ZF (hM.rd hv1_1) hi96.1 fun a hE=>kq rfl hE rfl
        ·intro a w ux93 hE hM hp
         have f3 : ux93 3 = (ptr (sb v1_1) (so v1_1 + (s18.2).toNat * 16)):=hp 0 _ rfl rfl
         exact Zn hE (lk rfl f3) ZF rfl (Ys (hM.rd hv1_1) hi96.2) (Flat.len _) fun a hE=>kq rfl hE rfl
        ·intro a w ux93 hE hM hp
         have f0 : ux93 0 = (Value.agg (enc j71).toArray):=hp 0 _ rfl rfl
         have f4 : ux93 4 = (Value.agg (enc x94).toArray):=hp 1 _ rfl rfl
         refine Zv hE (ZU (ZR (lk rfl f0) (ZR (lk rfl f4) Xf))) yj (WG _ j71 x94 r97 e98) ?_
         rintro v w a ⟨rfl,hK⟩ hE
         exact ⟨hK,_,_,rfl,hE,rfl⟩
        ·intro a w ux93 hE hM hg
         have hE:=hE.sub (e':=[(57,(Value.agg (enc r97).toArray)),(0,v0_1),(1,v1_1),(5,(ptr b1 0)),(6,(ptr b3 0)),(7,vI s18.2)]) ⟨lk rfl (hg 5 (by decide)),rfl,rfl,rfl,rfl,rfl,trivial⟩
         have hM:=hM.pull1
         refine Zo (seg:=enc r97) (cs':=enc r97) hE hM Zd rfl rfl rfl ZF (Flat.len _) (zle flq) (Flat.cell _) (Zr flq) fun w a hM hE=>Zj (Z0 ?_)
         obtain rfl:=Option.some.inj hF73
         refine Zl ?_
         have hM:=hM.pull1
         exact ⟨hE.sub ⟨rfl,rfl,rfl,rfl,rfl,trivial⟩,hM⟩
    ·skip
     rintro a w ⟨hE,hM⟩
     refine wp_region_lit (Ze hE rfl fun a hE=>Zk hE rfl rfl rfl fun a hE=>Zb hE rfl fun a hE=>Zj (Zl ?_))
     exact ⟨_,(ois hF25),hE.sub ⟨rfl,rfl,rfl,rfl,rfl,trivial⟩,hM⟩
   ·intro hb22
    have hs19:=Zt hs19 hb22
    refine wp_exit (Zp (Zp (Z1 ?_)))
    obtain rfl:=hx20 _ (ois hs19)
    refine Zl ?_
    exact ⟨hE.sub ⟨rfl,rfl,trivial⟩,hM⟩
  ·skip
   rintro a w ⟨hE,hM⟩
   refine Zy (Za (Zn hE rfl ZF rfl hM.rawAt1 (Flat.len _) fun a hE=>Zo (seg:=enc j15) (cs':=enc j15) hE hM Zd rfl rfl rfl ZF (Flat.len _) (zle flq) (Flat.cell _) (Zr flq) fun w a hM hE=>Zf ?_))
   obtain rfl:=Option.some.inj hF17
   have hq101 : Yq Tryz.prog _ _ (.cell 6 31) _:=ZQ hE rfl ZF rfl hM.rawAt0 (Flat.len _) rfl
   exact wp_ret (ZS hE rfl hq101 ⟨_,rfl,rfl,hM.kept⟩)
def Yw (p0 : (Ref Gengine)) (p1 : (Vector UInt8 16)) (p2 : (Vector UInt8 16)) : Option ((Vector UInt8 16)) :=
 ((WO p0 p1 p0.v.rounds).bind fun r21=>(YK p0 r21 p2).bind fun r24=>some r24 : Option ((Vector UInt8 16))).bind fun j7=>some j7
theorem Qm (w0 : World) (p0 : (Ref Gengine)) (v0_1 : Value) (hv0_1 : Ro w0 p0 [v0_1]) (p1 : (Vector UInt8 16)) (p2 : (Vector UInt8 16)) (r : (Vector UInt8 16)) (hF : Yw p0 p1 p2 = some r) :
  Calls Tryz.prog 164 [v0_1,(Value.agg (enc p1).toArray),(Value.agg (enc p2).toArray)].toArray w0 (Rt w0 (Value.agg (enc r).toArray)):=by
 refine ce Tryz.func164 ?_
 intro a hE
 have hM:=M.start w0
 unfold Yw at hF
 refine Za (ZM (cs:=enc p1) hE hM Zd ld rfl rfl fun b1 w a hM hE=>ZM (cs:=enc p2) hE hM Zd ld rfl rfl fun b3 w a hM hE=>Zz hE hM ZF fun b5 w a hM hE=>Zf ?_)
 obtain ⟨j7,hl8,hF9⟩:=bind_some hF
 refine ZI (fun a w=>Env 17 a [(6,(ptr b5 0))] ∧ M (Old w0) w0 w [raw b5 (enc j7)]) ?_ ?_
 ·skip
  obtain ⟨pb11,ds12,hv13,hx14,hA15,hB16⟩:=TP hv0_1 -- ^
  obtain ⟨u17,u19,rfl,h18,h20⟩:=QB hx14 -- ^
  obtain ⟨r21,e22,hl8⟩:=bind_some hl8
  refine Aq (n:=17) (hd:=[_,_,_,_,_,_,_,_,_]) (tl:=[_,_]) (its:=[raw b5 (enc (Vector.replicate 16 (0 : UInt8))),raw b3 (enc p2),raw b1 (enc p1)]) Yx rfl rfl [7,8,9,10,11,12,13,14,15] (by decide) [(7,fun v=>osl NoB (r21 : List (Vector UInt8 16)) v)] rfl (fun j=>([fun v=>v = v0_1,fun v=>v = v0_1,fun v=>v = (Value.agg (enc p1).toArray),fun v=>v = v0_1,fun v=>v = (ptr pb11 0),fun v=>v = (ptr pb11 (0 + 546)),fun v=>v = (vI p0.v.rounds),fun v=>True,fun v=>v = (Value.agg (enc p2).toArray)] : List (Value → Prop)).getD j (fun _=>True)) hE hM.drew (st9 ?_ ?_ ?_ ?_ ?_ ?_ ?_ ?_ ?_) ?_
  ·intro a w ux10 D hE hM hD hp
   have hM0:=hM
   exact Ze hE rfl fun a hE=>⟨_,_,rfl,hE,rfl,hM0.optKeep rfl⟩
  ·intro a w ux10 D hE hM hD hp
   have hM0:=hM
   exact Ze hE rfl fun a hE=>⟨_,_,rfl,hE,rfl,hM0.optKeep rfl⟩
  ·intro a w ux10 D hE hM hD hp
   have hM0:=hM
   have hM : M (Old w0) w0 w [raw b5 (enc (Vector.replicate 16 (0 : UInt8))),raw b3 (enc p2),raw b1 (enc p1),opt (D 7) (osl NoB (r21 : List (Vector UInt8 16)) (ux10 7))]:=hM
   exact Zn hE rfl ZF rfl hM.rawAt2 (Flat.len _) fun a hE=>⟨_,_,rfl,hE,rfl,hM0.optKeep rfl⟩
  ·intro a w ux10 D hE hM hD hp
   have hM0:=hM
   exact Ze hE rfl fun a hE=>⟨_,_,rfl,hE,rfl,hM0.optKeep rfl⟩
  ·intro a w ux10 D hE hM hD hp
   have f3 : ux10 3 = v0_1:=(hp 0 _ rfl rfl).2
   have hM0:=hM
   exact Wh hE Zd ld (lk (lk rfl f3) hv13) fun a hE=>⟨_,_,rfl,hE,rfl,hM0.optKeep rfl⟩
  ·intro a w ux10 D hE hM hD hp
   have f4 : ux10 4 = (ptr pb11 0):=(hp 0 _ rfl rfl).2
   have hM0:=hM
   exact Zg hE (lk rfl f4) (Zc7) fun a hE=>⟨_,_,rfl,hE,rfl,hM0.optKeep rfl⟩
  ·intro a w ux10 D hE hM hD hp
   have f5 : ux10 5 = (ptr pb11 (0 + 546)):=(hp 0 _ rfl rfl).2
   have hM0:=hM
   have hM : M (Old w0) w0 w [raw b5 (enc (Vector.replicate 16 (0 : UInt8))),raw b3 (enc p2),raw b1 (enc p1),opt (D 7) (osl NoB (r21 : List (Vector UInt8 16)) (ux10 7))]:=hM
   exact Zx (v:=(vI p0.v.rounds)) hE (lk rfl f5) ty2 rfl (At.cat (pre:=[enc p0.v.box,enc p0.v.backBox,enc p0.v.places,enc p0.v.backPlaces,[u17],[u19]]) (hM.atk hA15 hB16) ck) fun a hE=>⟨_,_,rfl,hE,rfl,hM0.optKeep rfl⟩
  ·intro a w ux10 D hE hM hD hp
   have f1 : ux10 1 = v0_1:=(hp 0 _ rfl rfl).2
   have f2 : ux10 2 = (Value.agg (enc p1).toArray):=(hp 1 _ rfl rfl).2
   have f6 : ux10 6 = (vI p0.v.rounds):=(hp 2 _ rfl rfl).2
   have hM0:=hM
   have hM : M (Old w0) w0 w [raw b5 (enc (Vector.replicate 16 (0 : UInt8))),raw b3 (enc p2),raw b1 (enc p1),opt (D 7) (osl NoB (r21 : List (Vector UInt8 16)) (ux10 7))]:=hM
   refine Zv hE (ZU (ZR (lk rfl f1) (ZR (lk rfl f2) (ZR (lk rfl f6) Xf)))) (cbm Tryz.func172) (Hd _ p0 v0_1 (hM.rdo hv0_1) p1 p0.v.rounds r21 e22) ?_
   rintro _ w a ⟨_,rfl,hFr,hK⟩ hE
   have hM:=hM0.add hK hFr
   exact ⟨_,_,rfl,hE,trivial,M.optFill (mk1:=[]) (mk2:=[]) (f:=(fun v=>osl NoB (r21 : List (Vector UInt8 16)) v)) hM rfl hD⟩
  ·intro a w ux10 D hE hM hD hp
   have hM0:=hM
   have hM : M (Old w0) w0 w [raw b5 (enc (Vector.replicate 16 (0 : UInt8))),raw b3 (enc p2),raw b1 (enc p1),opt (D 7) (osl NoB (r21 : List (Vector UInt8 16)) (ux10 7))]:=hM
   exact Zn hE rfl ZF rfl hM.rawAt1 (Flat.len _) fun a hE=>⟨_,_,rfl,hE,rfl,hM0.optKeep rfl⟩
  ·intro a w ux10 hE hM hg
   have hM : M (Old w0) w0 w [raw b5 (enc (Vector.replicate 16 (0 : UInt8))),raw b3 (enc p2),raw b1 (enc p1),osl NoB (r21 : List (Vector UInt8 16)) (ux10 7)]:=hM
   have hE:=hE.sub (e':=[(7,v0_1),(14,(ux10 7)),(15,(Value.agg (enc p2).toArray)),(6,(ptr b5 0))]) ⟨lk rfl (hg 0 (by decide)),rfl,lk rfl (hg 8 (by decide)),rfl,trivial⟩
   obtain ⟨r24,e25,hl8⟩:=bind_some hl8
   refine Zv hE rfl (cbm Tryz.func171) (Kf _ p0 v0_1 (hM.rdo hv0_1) r21 (ux10 7) (hM.sl (pre:=[_,_,_]) noB) p2 r24 e25) ?_
   rintro v w a ⟨rfl,hK⟩ hE
   have hM:=hM.keep hK
   refine Zo (seg:=enc r24) (cs':=enc r24) hE hM Zd rfl rfl rfl ZF (Flat.len _) (zle flq) (Flat.cell _) (Zr flq) fun w a hM hE=>Zj ?_
   obtain rfl:=Option.some.inj hl8
   refine Zl ?_
   have hM:=M.fst (l:=[_]) hM
   exact ⟨hE.sub ⟨rfl,trivial⟩,hM⟩
 ·skip
  rintro a w ⟨hE,hM⟩
  obtain rfl:=Option.some.inj hF9
  have hq27 : Yq Tryz.prog _ _ (.cell 6 31) _:=ZQ hE rfl ZF rfl hM.rawAt0 (Flat.len _) rfl
  exact wp_ret (ZS hE rfl hq27 ⟨_,rfl,rfl,hM.kept⟩)
def Y8 (p0 : (Ref Gengine)) (p1 : (Vector UInt8 32)) (p2 : (Vector UInt8 16)) : Option ((Vector UInt8 32)) :=
 (slc p1.toList (0 : Int) (16 : Int)).bind fun l8=>(Q7 16 l8).bind fun x11=>(slc p1.toList (16 : Int) (32 : Int)).bind fun l13=>(Q7 16 l13).bind fun x16=>(Yo x11 p2).bind fun r26=>((Yw p0 x16 r26).bind fun r34=>(Yo r34 r26).bind fun r36=>some r36 : Option ((Vector UInt8 16))).bind fun j30=>(Yo x16 p2).bind fun r39=>((Yw p0 j30 r39).bind fun r47=>(Yo r47 r39).bind fun r49=>some r49 : Option ((Vector UInt8 16))).bind fun j43=>((slc j30.toList (0 : Int) (16 : Int)).bind fun l56=>(slc j43.toList (0 : Int) (16 : Int)).bind fun l59=>(Z7 ([l56,l59] : (List (List UInt8)))).bind fun r64=>(Q7 32 r64).bind fun x67=>some x67 : Option ((Vector UInt8 32))).bind fun j52=>some j52
theorem Jw (w0 : World) (p0 : (Ref Gengine)) (v0_1 : Value) (hv0_1 : Ro w0 p0 [v0_1]) (p1 : (Vector UInt8 32)) (p2 : (Vector UInt8 16)) (r : (Vector UInt8 32)) (hF : Y8 p0 p1 p2 = some r) :
  Calls Tryz.prog 145 [v0_1,(Value.agg (enc p1).toArray),(Value.agg (enc p2).toArray)].toArray w0 (Rt w0 (Value.agg (enc r).toArray)):=by
 refine ce Tryz.func145 ?_
 intro a hE
 have hM:=M.start w0
 unfold Y8 at hF
 refine Za (ZM (cs:=enc p1) hE hM Zd ld rfl rfl fun b1 w a hM hE=>ZM (cs:=enc p2) hE hM Zd ld rfl rfl fun b3 w a hM hE=>Zz hE hM Yr fun b5 w a hM hE=>Zf (wp_seq ?_))
 obtain ⟨l8,e9,hF⟩:=bind_some hF
 have hb10:=QV e9 -- ^
 obtain ⟨x11,e12,hF⟩:=bind_some hF
 obtain ⟨l13,e14,hF⟩:=bind_some hF
 have hb15:=QV e14 -- ^
 obtain ⟨x16,e17,hF⟩:=bind_some hF
 refine TU (n:=41) (hd:=[_,_,_,_,_,_,_,_]) (tl:=[_,_]) Yx rfl rfl [11,12,13,14,15,16,7,8] (by decide) (fun D u w=>M (Old w0) w0 w ([raw b5 (enc (Vector.replicate 32 (0 : UInt8))),raw b3 (enc p2),raw b1 (enc p1)] ++ qL ([mkO 6 (fun v=>UI v (enc (Vector.replicate 16 (0 : UInt8)))),mkO 7 (fun v=>UI v (enc (Vector.replicate 16 (0 : UInt8))))] : Mk) D u) ∧ GOk ([([],fun us v=>v = (Z9 (.slice (some ⟨b1,0,none⟩) 32 32) ((0 : Int)).toNat ((16 : Int)).toNat 1)),([],fun us v=>v = (ptr (sb (Z9 (.slice (some ⟨b1,0,none⟩) 32 32) ((0 : Int)).toNat ((16 : Int)).toNat 1)) (so (Z9 (.slice (some ⟨b1,0,none⟩) 32 32) ((0 : Int)).toNat ((16 : Int)).toNat 1)))),([],fun us v=>v = (Value.agg (enc x11).toArray)),([],fun us v=>v = (Z9 (.slice (some ⟨b1,0,none⟩) 32 32) ((16 : Int)).toNat ((32 : Int)).toNat 1)),([],fun us v=>v = (ptr (sb (Z9 (.slice (some ⟨b1,0,none⟩) 32 32) ((16 : Int)).toNat ((32 : Int)).toNat 1)) (so (Z9 (.slice (some ⟨b1,0,none⟩) 32 32) ((16 : Int)).toNat ((32 : Int)).toNat 1)))),([],fun us v=>v = (Value.agg (enc x16).toArray)),([],fun us v=>True),([],fun us v=>True)] : Gs) D u) hE (fun u=>⟨M.qE (M.qE (M.q0 hM.drew u) emO) emO,Ae⟩) (st8 ?_ ?_ ?_ ?_ ?_ ?_ ?_ ?_) ?_
 ·intro a w ux7 D hE hI hD hdc hp
  have hM0:=hI.1
  exact VZ (N:=32) hE Zd ld rfl rfl rfl rfl rfl Tryz.underlying37 ty5 hb10 fun a hE=>⟨_,_,rfl,hE,M.qKeep hM0 rfl,hI.2.put hD rfl ZN rfl⟩
 ·intro a w ux7 D hE hI hD hdc hp
  have d0 : D 0 = true:=hp 0 _ rfl rfl
  have g0:=hI.2 0 d0 _ rfl
  have f0 : ux7 0 = (Z9 (.slice (some ⟨b1,0,none⟩) 32 32) ((0 : Int)).toNat ((16 : Int)).toNat 1):=g0.2
  have hM0:=hI.1
  have hM:=hI.1
  exact Ar hE Zd ld (lk rfl f0) Tryz.underlying31 (W9 (At.sat hM.rawAt2 (by simp) (by decide)) e9) (Kb e12).1 (by decide) fun a hE=>⟨_,_,rfl,hE,M.qKeep hM0 rfl,hI.2.put hD rfl ZN rfl⟩
 ·intro a w ux7 D hE hI hD hdc hp
  have d1 : D 1 = true:=hp 0 _ rfl rfl
  have g1:=hI.2 1 d1 _ rfl
  have f1 : ux7 1 = (ptr (sb (Z9 (.slice (some ⟨b1,0,none⟩) 32 32) ((0 : Int)).toNat ((16 : Int)).toNat 1)) (so (Z9 (.slice (some ⟨b1,0,none⟩) 32 32) ((0 : Int)).toNat ((16 : Int)).toNat 1))):=g1.2
  have hM0:=hI.1
  have hM:=hI.1
  exact Zn hE (lk rfl f1) ZF rfl (yC (W9 (At.sat hM.rawAt2 (by simp) (by decide)) e9) e12 (by decide)) (Flat.len _) fun a hE=>⟨_,_,rfl,hE,M.qKeep hM0 rfl,hI.2.put hD rfl ZN rfl⟩
 ·intro a w ux7 D hE hI hD hdc hp
  have hM0:=hI.1
  exact VZ (N:=32) hE Zd ld rfl rfl rfl rfl rfl Tryz.underlying37 ty5 hb15 fun a hE=>⟨_,_,rfl,hE,M.qKeep hM0 rfl,hI.2.put hD rfl ZN rfl⟩
 ·intro a w ux7 D hE hI hD hdc hp
  have d3 : D 3 = true:=hp 0 _ rfl rfl
  have g3:=hI.2 3 d3 _ rfl
  have f3 : ux7 3 = (Z9 (.slice (some ⟨b1,0,none⟩) 32 32) ((16 : Int)).toNat ((32 : Int)).toNat 1):=g3.2
  have hM0:=hI.1
  have hM:=hI.1
  exact Ar hE Zd ld (lk rfl f3) Tryz.underlying31 (W9 (At.sat hM.rawAt2 (by simp) (by decide)) e14) (Kb e17).1 (by decide) fun a hE=>⟨_,_,rfl,hE,M.qKeep hM0 rfl,hI.2.put hD rfl ZN rfl⟩
 ·intro a w ux7 D hE hI hD hdc hp
  have d4 : D 4 = true:=hp 0 _ rfl rfl
  have g4:=hI.2 4 d4 _ rfl
  have f4 : ux7 4 = (ptr (sb (Z9 (.slice (some ⟨b1,0,none⟩) 32 32) ((16 : Int)).toNat ((32 : Int)).toNat 1)) (so (Z9 (.slice (some ⟨b1,0,none⟩) 32 32) ((16 : Int)).toNat ((32 : Int)).toNat 1))):=g4.2
  have hM0:=hI.1
  have hM:=hI.1
  exact Zn hE (lk rfl f4) ZF rfl (yC (W9 (At.sat hM.rawAt2 (by simp) (by decide)) e14) e17 (by decide)) (Flat.len _) fun a hE=>⟨_,_,rfl,hE,M.qKeep hM0 rfl,hI.2.put hD rfl ZN rfl⟩
 ·intro a w ux7 D hE hI hD hdc hp
  have hM0:=hI.1
  have hM:=hI.1
  refine Zz hE hM ZF ?_; intro b18 w a hM hE
  have hM:=hM.pack1 (it:=UI _ (enc (Vector.replicate 16 (0 : UInt8)))) (fun w w' fp ⟨b',e,k⟩ hb=>⟨b',e,XQ w w' fp k hb⟩) (fun fp k=>⟨_,rfl,k⟩)
  exact ⟨_,_,rfl,hE,M.qFill (mk1:=[]) (mk2:=[_]) (f:=fun v=>UI v (enc (Vector.replicate 16 (0 : UInt8)))) hM rfl hD,hI.2.put hD rfl ZN trivial⟩
 ·intro a w ux7 D hE hI hD hdc hp
  have hM0:=hI.1
  have hM:=hI.1
  refine Zz hE hM ZF ?_; intro b20 w a hM hE
  have hM:=hM.pack1 (it:=UI _ (enc (Vector.replicate 16 (0 : UInt8)))) (fun w w' fp ⟨b',e,k⟩ hb=>⟨b',e,XQ w w' fp k hb⟩) (fun fp k=>⟨_,rfl,k⟩)
  exact ⟨_,_,rfl,hE,M.qFill (mk1:=[_]) (mk2:=[]) (f:=fun v=>UI v (enc (Vector.replicate 16 (0 : UInt8)))) hM rfl hD,hI.2.put hD rfl ZN trivial⟩
 ·intro a w ux7 D hE hI hall
  have hM : M (Old w0) w0 w [raw b5 (enc (Vector.replicate 32 (0 : UInt8))),raw b3 (enc p2),raw b1 (enc p1),opt (D 6) (UI (ux7 6) (enc (Vector.replicate 16 (0 : UInt8)))),opt (D 7) (UI (ux7 7) (enc (Vector.replicate 16 (0 : UInt8))))]:=hI.1
  have d0:=hall 0 (by decide)
  have d1:=hall 1 (by decide)
  have d2:=hall 2 (by decide)
  have d3:=hall 3 (by decide)
  have d4:=hall 4 (by decide)
  have d5:=hall 5 (by decide)
  have d6:=hall 6 (by decide)
  have d7:=hall 7 (by decide)
  have f0 : ux7 0 = (Z9 (.slice (some ⟨b1,0,none⟩) 32 32) ((0 : Int)).toNat ((16 : Int)).toNat 1):=(hI.2 0 d0 _ rfl).2
  have f1 : ux7 1 = (ptr (sb (Z9 (.slice (some ⟨b1,0,none⟩) 32 32) ((0 : Int)).toNat ((16 : Int)).toNat 1)) (so (Z9 (.slice (some ⟨b1,0,none⟩) 32 32) ((0 : Int)).toNat ((16 : Int)).toNat 1))):=(hI.2 1 d1 _ rfl).2
  have f2 : ux7 2 = (Value.agg (enc x11).toArray):=(hI.2 2 d2 _ rfl).2
  have f3 : ux7 3 = (Z9 (.slice (some ⟨b1,0,none⟩) 32 32) ((16 : Int)).toNat ((32 : Int)).toNat 1):=(hI.2 3 d3 _ rfl).2
  have f4 : ux7 4 = (ptr (sb (Z9 (.slice (some ⟨b1,0,none⟩) 32 32) ((16 : Int)).toNat ((32 : Int)).toNat 1)) (so (Z9 (.slice (some ⟨b1,0,none⟩) 32 32) ((16 : Int)).toNat ((32 : Int)).toNat 1))):=(hI.2 4 d4 _ rfl).2
  have f5 : ux7 5 = (Value.agg (enc x16).toArray):=(hI.2 5 d5 _ rfl).2
  have hM:=(hM.sure (pre:=[_,_,_]) d6).pull
  obtain ⟨_,⟨b22,f23,_⟩,_⟩:=hM.head
  have hM:=((hM.pack1 XQ (it:=raw b22 (enc (Vector.replicate 16 (0 : UInt8)))) (fun fp ⟨b2,e2,k2⟩=>by rw [f23] at e2; simp [ptr] at e2; subst e2; exact k2)).sure (pre:=[_,_,_,_]) d7).pull
  obtain ⟨_,⟨b24,f25,_⟩,_⟩:=hM.head
  have hM:=hM.pack1 XQ (it:=raw b24 (enc (Vector.replicate 16 (0 : UInt8)))) (fun fp ⟨b2,e2,k2⟩=>by rw [f25] at e2; simp [ptr] at e2; subst e2; exact k2)
  have hE:=hE.sub (e':=[(13,(Value.agg (enc x11).toArray)),(16,(Value.agg (enc x16).toArray)),(7,(ptr b22 0)),(8,(ptr b24 0)),(0,v0_1),(5,(ptr b3 0)),(6,(ptr b5 0))]) ⟨lk rfl f2,lk rfl f5,lk rfl f23,lk rfl f25,rfl,rfl,rfl,trivial⟩
  have hM:=hM.pull1
  refine Zo (seg:=enc x11) (cs':=enc x11) hE hM Zd rfl rfl rfl ZF (Flat.len _) (zle flq) (Flat.cell _) (Zr flq) ?_; intro w a hM hE
  have hM:=hM.pull1
  refine Zo (seg:=enc x16) (cs':=enc x16) hE hM Zd rfl rfl rfl ZF (Flat.len _) (zle flq) (Flat.cell _) (Zr flq) fun w a hM hE=>Zj (Zy (Za (Zn hE rfl ZF rfl hM.rawAt1 (Flat.len _) fun a hE=>Zn hE rfl ZF rfl hM.rawAt3 (Flat.len _) ?_))); intro a hE
  obtain ⟨r26,e27,hF⟩:=bind_some hF
  refine Zv hE rfl yj (WG _ x11 p2 r26 e27) ?_
  rintro v w a ⟨rfl,hK⟩ hE
  have hM:=hM.keep hK
  refine Zz hE hM ZF fun b28 w a hM hE=>Zo (seg:=enc r26) (cs':=enc r26) hE hM Zd rfl rfl rfl ZF (Flat.len _) (zle flq) (Flat.cell _) (Zr flq) fun w a hM hE=>Zf ?_
  obtain ⟨j30,hl31,hF32⟩:=bind_some hF
  refine ZI (fun a w=>Env 41 a [(0,v0_1),(5,(ptr b3 0)),(6,(ptr b5 0)),(7,(ptr b22 0)),(8,(ptr b24 0))] ∧ M (Old w0) w0 w [raw b24 (enc x16),raw b22 (enc j30),raw b5 (enc (Vector.replicate 32 (0 : UInt8))),raw b3 (enc p2)]) ?_ ?_
  ·skip
   obtain ⟨r34,e35,hl31⟩:=bind_some hl31
   obtain ⟨r36,e37,hl31⟩:=bind_some hl31
   refine ZX (n:=41) (hd:=[_,_,_,_,_,_]) (tl:=[_]) Yx rfl rfl [20,21,22,23,24,25] (by decide) (fun w=>M (Old w0) w0 w [raw b28 (enc r26),raw b24 (enc x16),raw b22 (enc x11),raw b5 (enc (Vector.replicate 32 (0 : UInt8))),raw b3 (enc p2),raw b1 (enc p1)]) (fun j=>([fun v _=>v = v0_1,fun v _=>v = (Value.agg (enc x16).toArray),fun v _=>v = (Value.agg (enc r26).toArray),fun v _=>v = (Value.agg (enc r34).toArray),fun v _=>v = (Value.agg (enc r26).toArray),fun v _=>v = (Value.agg (enc r36).toArray)] : List (Value → World → Prop)).getD j (fun _ _=>True)) (fun _ _ h hk=>h.keep hk) (gup gu6) hE hM.drew (st6 ?_ ?_ ?_ ?_ ?_ ?_) ?_
   ·exact qm
   ·exact fun a w ux33 hE hM hp=>Zn hE rfl ZF rfl hM.rawAt1 (Flat.len _) fun a hE=>kq rfl hE rfl
   ·exact fun a w ux33 hE hM hp=>Zn hE rfl ZF rfl hM.rawAt0 (Flat.len _) fun a hE=>kq rfl hE rfl
   ·intro a w ux33 hE hM hp
    have f0 : ux33 0 = v0_1:=hp 0 _ rfl rfl
    have f1 : ux33 1 = (Value.agg (enc x16).toArray):=hp 1 _ rfl rfl
    have f2 : ux33 2 = (Value.agg (enc r26).toArray):=hp 2 _ rfl rfl
    refine Zv hE (ZU (ZR (lk rfl f0) (ZR (lk rfl f1) (ZR (lk rfl f2) Xf)))) (cbm Tryz.func164) (Qm _ p0 v0_1 (hM.rdo hv0_1) x16 r26 r34 e35) ?_
    rintro v w a ⟨rfl,hK⟩ hE
    exact ⟨hK,_,_,rfl,hE,rfl⟩
   ·exact fun a w ux33 hE hM hp=>Zn hE rfl ZF rfl hM.rawAt0 (Flat.len _) fun a hE=>kq rfl hE rfl
   ·intro a w ux33 hE hM hp
    have f3 : ux33 3 = (Value.agg (enc r34).toArray):=hp 0 _ rfl rfl
    have f4 : ux33 4 = (Value.agg (enc r26).toArray):=hp 1 _ rfl rfl
    refine Zv hE (ZU (ZR (lk rfl f3) (ZR (lk rfl f4) Xf))) yj (WG _ r34 r26 r36 e37) ?_
    rintro v w a ⟨rfl,hK⟩ hE
    exact ⟨hK,_,_,rfl,hE,rfl⟩
   ·intro a w ux33 hE hM hg
    have hE:=hE.sub (e':=[(25,(Value.agg (enc r36).toArray)),(0,v0_1),(5,(ptr b3 0)),(6,(ptr b5 0)),(7,(ptr b22 0)),(8,(ptr b24 0))]) ⟨lk rfl (hg 5 (by decide)),rfl,rfl,rfl,rfl,rfl,trivial⟩
    have hM:=hM.pull2
    refine Zo (seg:=enc r36) (cs':=enc r36) hE hM Zd rfl rfl rfl ZF (Flat.len _) (zle flq) (Flat.cell _) (Zr flq) fun w a hM hE=>Zj ?_
    obtain rfl:=Option.some.inj hl31
    refine Zl ?_
    have hM:=M.fst (l:=[_,_,_,_]) hM.pull4.pull4.pull2.pull4
    exact ⟨hE.sub ⟨rfl,rfl,rfl,rfl,rfl,trivial⟩,hM⟩
  ·skip
   rintro a w ⟨hE,hM⟩
   refine Za (Zn hE rfl ZF rfl hM.rawAt0 (Flat.len _) fun a hE=>Zn hE rfl ZF rfl hM.rawAt3 (Flat.len _) ?_); intro a hE
   obtain ⟨r39,e40,hF32⟩:=bind_some hF32
   refine Zv hE rfl yj (WG _ x16 p2 r39 e40) ?_
   rintro v w a ⟨rfl,hK⟩ hE
   have hM:=hM.keep hK
   refine Zz hE hM ZF fun b41 w a hM hE=>Zo (seg:=enc r39) (cs':=enc r39) hE hM Zd rfl rfl rfl ZF (Flat.len _) (zle flq) (Flat.cell _) (Zr flq) fun w a hM hE=>Zf ?_
   obtain ⟨j43,hl44,hF45⟩:=bind_some hF32
   refine ZI (fun a w=>Env 41 a [(6,(ptr b5 0)),(7,(ptr b22 0)),(8,(ptr b24 0))] ∧ M (Old w0) w0 w [raw b24 (enc j43),raw b22 (enc j30),raw b5 (enc (Vector.replicate 32 (0 : UInt8)))]) ?_ ?_
   ·skip
    obtain ⟨r47,e48,hl44⟩:=bind_some hl44
    obtain ⟨r49,e50,hl44⟩:=bind_some hl44
    refine ZX (n:=41) (hd:=[_,_,_,_,_,_]) (tl:=[_]) Yx rfl rfl [29,30,31,32,33,34] (by decide) (fun w=>M (Old w0) w0 w [raw b41 (enc r39),raw b24 (enc x16),raw b22 (enc j30),raw b5 (enc (Vector.replicate 32 (0 : UInt8))),raw b3 (enc p2)]) (fun j=>([fun v _=>v = v0_1,fun v _=>v = (Value.agg (enc j30).toArray),fun v _=>v = (Value.agg (enc r39).toArray),fun v _=>v = (Value.agg (enc r47).toArray),fun v _=>v = (Value.agg (enc r39).toArray),fun v _=>v = (Value.agg (enc r49).toArray)] : List (Value → World → Prop)).getD j (fun _ _=>True)) (fun _ _ h hk=>h.keep hk) (gup gu6) hE hM.drew (st6 ?_ ?_ ?_ ?_ ?_ ?_) ?_
    ·exact qm
    ·exact fun a w ux46 hE hM hp=>Zn hE rfl ZF rfl hM.rawAt2 (Flat.len _) fun a hE=>kq rfl hE rfl
    ·exact fun a w ux46 hE hM hp=>Zn hE rfl ZF rfl hM.rawAt0 (Flat.len _) fun a hE=>kq rfl hE rfl
    ·intro a w ux46 hE hM hp
     have f0 : ux46 0 = v0_1:=hp 0 _ rfl rfl
     have f1 : ux46 1 = (Value.agg (enc j30).toArray):=hp 1 _ rfl rfl
     have f2 : ux46 2 = (Value.agg (enc r39).toArray):=hp 2 _ rfl rfl
     refine Zv hE (ZU (ZR (lk rfl f0) (ZR (lk rfl f1) (ZR (lk rfl f2) Xf)))) (cbm Tryz.func164) (Qm _ p0 v0_1 (hM.rdo hv0_1) j30 r39 r47 e48) ?_
     rintro v w a ⟨rfl,hK⟩ hE
     exact ⟨hK,_,_,rfl,hE,rfl⟩
    ·exact fun a w ux46 hE hM hp=>Zn hE rfl ZF rfl hM.rawAt0 (Flat.len _) fun a hE=>kq rfl hE rfl
    ·intro a w ux46 hE hM hp
     have f3 : ux46 3 = (Value.agg (enc r47).toArray):=hp 0 _ rfl rfl
     have f4 : ux46 4 = (Value.agg (enc r39).toArray):=hp 1 _ rfl rfl
     refine Zv hE (ZU (ZR (lk rfl f3) (ZR (lk rfl f4) Xf))) yj (WG _ r47 r39 r49 e50) ?_
     rintro v w a ⟨rfl,hK⟩ hE
     exact ⟨hK,_,_,rfl,hE,rfl⟩
    ·intro a w ux46 hE hM hg
     have hE:=hE.sub (e':=[(34,(Value.agg (enc r49).toArray)),(6,(ptr b5 0)),(7,(ptr b22 0)),(8,(ptr b24 0))]) ⟨lk rfl (hg 5 (by decide)),rfl,rfl,rfl,trivial⟩
     have hM:=hM.pull1
     refine Zo (seg:=enc r49) (cs':=enc r49) hE hM Zd rfl rfl rfl ZF (Flat.len _) (zle flq) (Flat.cell _) (Zr flq) fun w a hM hE=>Zj ?_
     obtain rfl:=Option.some.inj hl44
     refine Zl ?_
     have hM:=M.fst (l:=[_,_,_]) hM.pull3.pull3.pull2
     exact ⟨hE.sub ⟨rfl,rfl,rfl,trivial⟩,hM⟩
   ·skip
    rintro a w ⟨hE,hM⟩
    obtain ⟨j52,hl53,hF54⟩:=bind_some hF45
    refine ZI (fun a w=>Env 41 a [(6,(ptr b5 0))] ∧ M (Old w0) w0 w [raw b5 (enc j52)]) ?_ ?_
    ·skip
     obtain ⟨l56,e57,hl53⟩:=bind_some hl53
     have hb58:=QV e57 -- ^
     obtain ⟨l59,e60,hl53⟩:=bind_some hl53
     have hb61:=QV e60 -- ^
     refine ZX (n:=41) (hd:=[_,_]) (tl:=[_,_,_,_,_]) Yx rfl rfl [35,36] (by decide) (fun w=>M (Old w0) w0 w [raw b24 (enc j43),raw b22 (enc j30),raw b5 (enc (Vector.replicate 32 (0 : UInt8)))]) (fun j=>([fun v _=>v = (Z9 (.slice (some ⟨b22,0,none⟩) 16 16) ((0 : Int)).toNat ((16 : Int)).toNat 1),fun v _=>v = (Z9 (.slice (some ⟨b24,0,none⟩) 16 16) ((0 : Int)).toNat ((16 : Int)).toNat 1)] : List (Value → World → Prop)).getD j (fun _ _=>True)) (fun _ _ h hk=>h.keep hk) (gup gu2) hE hM.drew (st2 ?_ ?_) ?_
     ·exact fun a w ux55 hE hM hp=>VZ (N:=16) hE Zd ld rfl rfl rfl rfl rfl Tryz.underlying31 ty5 hb58 fun a hE=>kq rfl hE rfl
     ·exact fun a w ux55 hE hM hp=>VZ (N:=16) hE Zd ld rfl rfl rfl rfl rfl Tryz.underlying31 ty5 hb61 fun a hE=>kq rfl hE rfl
     ·intro a w ux55 hE hM hg
      have hE:=hE.sub (e':=[(35,(Z9 (.slice (some ⟨b22,0,none⟩) 16 16) ((0 : Int)).toNat ((16 : Int)).toNat 1)),(36,(Z9 (.slice (some ⟨b24,0,none⟩) 16 16) ((0 : Int)).toNat ((16 : Int)).toNat 1)),(6,(ptr b5 0))]) ⟨lk rfl (hg 0 (by decide)),lk rfl (hg 1 (by decide)),rfl,trivial⟩
      refine zE (xs:=[.tmp 35,.tmp 36]) (vs:=[(Z9 (.slice (some ⟨b22,0,none⟩) 16 16) ((0 : Int)).toNat ((16 : Int)).toNat 1),(Z9 (.slice (some ⟨b24,0,none⟩) 16 16) ((0 : Int)).toNat ((16 : Int)).toNat 1)]) hE hM Zd ld rfl rfl Tryz.underlying41 XB (by decide) (yX (Vq (W9 (At.sat hM.rawAt1 (by simp) (by decide)) e57)) (yX (Vq (W9 (At.sat hM.rawAt0 (by simp) (by decide)) e60)) Zbq)) ?_; intro b62 w a hM hE
      obtain ⟨r64,e65,hl53⟩:=bind_some hl53
      refine Zv hE rfl (cbm Tryz.func144) (TC _ ([l56,l59] : (List (List UInt8))) (Value.slice (some ⟨b62,0,none⟩) 2 2) (Zbn hM.rawAt0 (hM.rawLt (pre:=[])) ⟨(W9 (At.sat hM.rawAt2 (by simp) (by decide)) e57),(W9 (At.sat hM.rawAt1 (by simp) (by decide)) e60),trivial⟩ rfl) r64 e65) ?_
      rintro u66 w a ⟨_,rfl,hFr,hK⟩ hE
      have hM:=hM.add hK hFr
      obtain ⟨x67,e68,hl53⟩:=bind_some hl53
      refine Ar hE Zd ld rfl Tryz.underlying37 (hM.sl (pre:=[]) noB) (Kb e68).1 (by decide) fun a hE=>Zn hE rfl Yr rfl (yC (hM.sl (pre:=[]) noB) e68 (by decide)) (Flat.len _) ?_; intro a hE
      have hM:=hM.pull4
      refine Zo (seg:=enc x67) (cs':=enc x67) hE hM Zd rfl rfl rfl Yr (Flat.len _) (zle flq) (Flat.cell _) (Zr flq) fun w a hM hE=>Zj ?_
      obtain rfl:=Option.some.inj hl53
      refine Zl ?_
      have hM:=M.fst (l:=[_]) hM
      exact ⟨hE.sub ⟨rfl,trivial⟩,hM⟩
    ·skip
     rintro a w ⟨hE,hM⟩
     obtain rfl:=Option.some.inj hF54
     have hq70 : Yq Tryz.prog _ _ (.cell 6 37) _:=ZQ hE rfl Yr rfl hM.rawAt0 (Flat.len _) rfl
     exact wp_ret (ZS hE rfl hq70 ⟨_,rfl,rfl,hM.kept⟩)
def Y1 (p0 : (Ref Gengine)) (r13 : (List (Vector UInt8 16))) (s19 : (Vector UInt8 32) × Int) : Option (Fl ((Vector UInt8 32) × Int) (Vector UInt8 32)) :=
 if (decide (s19.2 < (r13.length : Int))) = true then ((idx r13 s19.2).bind fun x24=>(Y8 p0 s19.1 x24).bind fun r29=>some (Fl.nx (r29,wr (s19.2 + 1)))) else (some (Fl.ex s19.1))
def X1 (p0 : (Ref Gengine)) (p1 : (List (List UInt8))) : Option ((Vector UInt8 32)) :=
 (X0).bind fun r3=>(Z7 p1).bind fun r7=>(Vb r7).bind fun r10=>(Ub r10).bind fun r13=>(ZD (Y1 p0 r13) (r3,0)).bind fun j16=>some j16
theorem Je (w0 : World) (p0 : (Ref Gengine)) (v0_1 : Value) (hv0_1 : Ro w0 p0 [v0_1]) (p1 : (List (List UInt8))) (v1_1 : Value) (hv1_1 : Ro w0 p1 [v1_1]) (r : (Vector UInt8 32)) (hF : X1 p0 p1 = some r) :
  Calls Tryz.prog 112 [v0_1,v1_1].toArray w0 (Rt w0 (Value.agg (enc r).toArray)):=by
 refine ce Tryz.func112 ?_
 intro a hE
 have hM:=M.start w0
 unfold X1 at hF
 refine Za (Zz hE hM Yr fun b1 w a hM hE=>Zf (Za ?_))
 obtain ⟨r3,e4,hF⟩:=bind_some hF
 refine Zv hE rfl (cbm Tryz.func141) (Jz _  r3 e4) ?_
 rintro v w a ⟨rfl,hK⟩ hE
 have hM:=hM.keep hK
 refine Zz hE hM Yr fun b5 w a hM hE=>Zo (seg:=enc r3) (cs':=enc r3) hE hM Zd rfl rfl rfl Yr (Flat.len _) (zle flq) (Flat.cell _) (Zr flq) fun w a hM hE=>Zf (wp_seq (Za (Ze hE rfl ?_))); intro a hE
 obtain ⟨r7,e8,hF⟩:=bind_some hF
 refine Zv hE rfl (cbm Tryz.func144) (TC _ p1 v1_1 (hM.rdo hv1_1) r7 e8) ?_
 rintro u9 w a ⟨_,rfl,hFr,hK⟩ hE
 have hM:=hM.add hK hFr
 obtain ⟨r10,e11,hF⟩:=bind_some hF
 refine Zv hE rfl (cbm Tryz.func143) (HA _ r7 u9 (hM.sl (pre:=[]) noB) r10 e11) ?_
 rintro u12 w a ⟨_,rfl,hFr,hK⟩ hE
 have hM:=hM.add hK hFr
 obtain ⟨r13,e14,hF⟩:=bind_some hF
 refine Zv hE rfl (cbm Tryz.func142) (B4 _ r10 u12 (hM.sl (pre:=[]) noB) r13 e14) ?_
 rintro u15 w a ⟨_,rfl,hFr,hK⟩ hE
 have hM:=hM.add hK hFr
 refine ZZ hE rfl Tryz.underlying33 (hM.sl (pre:=[]) noB) fun a hE=>Ze hE rfl fun a hE=>Zf ?_
 obtain ⟨j16,hl17,hF18⟩:=bind_some hF
 refine ZJ (fun a w=>Env 24 a [(4,(ptr b1 0)),(5,(ptr b5 0))] ∧ M (Old w0) w0 w [raw b5 (enc j16),raw b1 (enc (Vector.replicate 32 (0 : UInt8)))]) ?_ ?_
 ·skip
  refine wp_block ?_
  have hM:=M.fst (l:=[_,_,_]) hM.pull4.pull4.pull2
  refine ZE (fun (s19 : (Vector UInt8 32) × Int) a w=>Env 24 a [(0,v0_1),(4,(ptr b1 0)),(5,(ptr b5 0)),(12,u15),(13,(vI (r13.length : Int))),(14,vI s19.2)] ∧ M (Old w0) w0 w [osl NoB (r13 : List (Vector UInt8 16)) u15,raw b5 (enc s19.1),raw b1 (enc (Vector.replicate 32 (0 : UInt8)))]) hl17 ⟨hE.sub ⟨rfl,rfl,rfl,rfl,rfl,rfl,trivial⟩,hM⟩ ?_
  rintro s19 a w ⟨hE,hM⟩ o22 hs20 hx21
  unfold Y1 at hs20
  refine Za (Zk hE rfl rfl rfl fun a hE=>Zf (wp_seq ?_))
  refine Zq hE rfl ?_ ?_
  ·intro hb23
   have hs20:=Zu hs20 hb23
   refine wp_skip (Zy (wp_seq (wp_block (Za ?_))))
   obtain ⟨x24,hi26,hs20⟩:=bix hs20
   refine ZK hE rfl rfl Tryz.underlying33 ZF (hM.sl (pre:=[]) noB) hi26.1 fun a hE=>Zn hE rfl ZF rfl (Ys (hM.sl (pre:=[]) noB) hi26.2) (Flat.len _) fun a hE=>Zz hE hM ZF fun b27 w a hM hE=>Zo (seg:=enc x24) (cs':=enc x24) hE hM Zd rfl rfl rfl ZF (Flat.len _) (zle flq) (Flat.cell _) (Zr flq) fun w a hM hE=>Zf (wp_region_lit (Ze hE rfl fun a hE=>Zn hE rfl Yr rfl hM.rawAt2 (Flat.len _) fun a hE=>Zn hE rfl ZF rfl hM.rawAt0 (Flat.len _) ?_)); intro a hE
   obtain ⟨r29,e30,hs20⟩:=bind_some hs20
   refine Zv hE rfl (cbm Tryz.func145) (Jw _ p0 v0_1 (hM.rdo hv0_1) s19.1 x24 r29 e30) ?_
   rintro v w a ⟨rfl,hK⟩ hE
   have hM:=(hM.keep hK).pull2
   refine Zo (seg:=enc r29) (cs':=enc r29) hE hM Zd rfl rfl rfl Yr (Flat.len _) (zle flq) (Flat.cell _) (Zr flq) fun w a hM hE=>Zj (Z0 (Zy (wp_region_lit (Zk hE rfl rfl rfl fun a hE=>Ze hE rfl fun a hE=>Zj (Zl ?_)))))
   have hM:=M.fst (l:=[_,_,_]) hM.pull3.pull1.pull3
   exact ⟨_,(ois hs20),hE.sub ⟨rfl,rfl,rfl,rfl,rfl,rfl,trivial⟩,hM⟩
  ·intro hb23
   have hs20:=Zt hs20 hb23
   refine wp_exit (Zp (Zp (Z1 ?_)))
   obtain rfl:=hx21 _ (ois hs20)
   refine Zl ?_
   have hM:=M.fst (l:=[_,_]) hM.pull2.pull2
   exact ⟨hE.sub ⟨rfl,rfl,trivial⟩,hM⟩
 ·skip
  rintro a w ⟨hE,hM⟩
  refine Zy (Za (Zn hE rfl Yr rfl hM.rawAt0 (Flat.len _) ?_)); intro a hE
  have hM:=hM.pull1
  refine Zo (seg:=enc j16) (cs':=enc j16) hE hM Zd rfl rfl rfl Yr (Flat.len _) (zle flq) (Flat.cell _) (Zr flq) fun w a hM hE=>Zf ?_
  obtain rfl:=Option.some.inj hF18
  have hq32 : Yq Tryz.prog _ _ (.cell 4 37) _:=ZQ hE rfl Yr rfl hM.rawAt0 (Flat.len _) rfl
  exact wp_ret (ZS hE rfl hq32 ⟨_,rfl,rfl,hM.kept⟩)
def YS (p0 : Ghasher) (p1 : GBlobs) (s22 : Int) : Option (Fl Int (Fl Unit Bool)) :=
 if (decide (s22 < (p1.Data.length : Int))) = true then ((idx p1.Data s22).bind fun x27=>((QE x27).bind fun r39=>if (!r39) = true then (some true) else ((idx p1.Counts s22).bind fun x43=>(Yp x43 1 1000000).bind fun r46=>if (!r46) = true then (some true) else ((X1 p0.engine ([x27] : (List (List UInt8)))).bind fun r54=>(idx p1.Keys s22).bind fun x56=>some (!decide (r54 = x56)))) : Option (Bool)).bind fun j35=>if j35 = true then (some (Fl.ex (Fl.ex false))) else (some (Fl.nx (wr (s22 + 1))))) else (some (Fl.ex (Fl.nx ())))
def XE (p0 : Ghasher) (p1 : GBlobs) : Option (Bool) :=
 (if (decide ((p1.Keys.length : Int) > 32)) = true then (some true) else (if ((p1.Data.length : Int) != (p1.Keys.length : Int)) = true then (some true) else (if ((p1.Counts.length : Int) != (p1.Keys.length : Int)) = true then (some true) else ((UT p1.Keys).bind fun r14=>some (!r14)))) : Option (Bool)).bind fun j5=>if j5 = true then (some false) else ((ZD (YS p0 p1) 0).bind fun j18=>j18.el (fun s21=>some true) (fun r=>some r))
theorem K4 (w0 : World) (p0 : Ghasher) (v0_1 : Value) (hv0_1 : Ro w0 p0.engine [v0_1]) (p1 : GBlobs) (v1_1 : Value) (hv1_1 : Ro w0 p1.Keys [v1_1]) (v1_2 : Value) (hv1_2 : Ro w0 p1.Data [v1_2]) (v1_3 : Value) (hv1_3 : Ro w0 p1.Counts [v1_3]) (r : Bool) (hF : XE p0 p1 = some r) :
  Calls Tryz.prog 104 [(Value.agg (cat [[v0_1]]).toArray),(Value.agg (cat [[v1_1],[v1_2],[v1_3]]).toArray)].toArray w0 (Rt w0 (vT r)):=by
 refine ce Tryz.func104 ?_
 intro a hE
 have hM:=M.start w0
 unfold XE at hF
 refine Za (ZM (cs:=cat [[v0_1]]) hE hM Zd ld rfl rfl fun b1 w a hM hE=>ZM (cs:=cat [[v1_1],[v1_2],[v1_3]]) hE hM Zd ld rfl rfl fun b3 w a hM hE=>Zb hE rfl fun a hE=>Zf (wp_seq ?_))
 obtain ⟨j5,hl6,hF7⟩:=bind_some hF
 refine ZI (fun a w=>Env 69 a [(2,(ptr b1 0)),(3,(ptr b3 0)),(34,vT j5)] ∧ M (Old w0) w0 w [raw b3 (cat [[v1_1],[v1_2],[v1_3]]),raw b1 (cat [[v0_1]])]) ?_ ?_
 ·skip
  refine wp_region_lit (Zg hE rfl (Q3) fun a hE=>Zx (v:=v1_1) hE rfl BR rfl (At.cat (pre:=[]) hM.rawAt0 cl0) fun a hE=>ZZ hE rfl Tryz.underlying40 (hM.rd hv1_1) fun a hE=>Zk hE rfl rfl rfl fun a hE=>Ze hE rfl ?_); intro a hE
  refine Yb (decide ((p1.Keys.length : Int) > 32)) (fun hb8=>?_) (fun hb8=>?_)
  ·have hl6:=Zu hl6 hb8
   refine Zh hE rfl (lkb rfl hb8) rfl (by decide) fun a hE=>Zh hE rfl (lkb rfl hb8) rfl (by decide) fun a hE=>Zh hE rfl (lkb rfl hb8) rfl (by decide) fun a hE=>Zh hE rfl (lkb rfl hb8) rfl (by decide) fun a hE=>Zh hE rfl (lkb rfl hb8) rfl (by decide) fun a hE=>Zh hE rfl (lkb rfl hb8) rfl (by decide) fun a hE=>Zh hE rfl (lkb rfl hb8) rfl (by decide) fun a hE=>ZG hE (lkb rfl hb8) rfl fun a hE=>Ze hE rfl fun a hE=>Zh hE rfl rfl rfl (by decide) fun a hE=>Zh hE rfl rfl rfl (by decide) fun a hE=>Zh hE rfl rfl rfl (by decide) ?_; intro a hE
   refine Zh hE rfl rfl rfl (by decide) fun a hE=>Zh hE rfl rfl rfl (by decide) fun a hE=>Zh hE rfl rfl rfl (by decide) fun a hE=>Zh hE rfl rfl rfl (by decide) fun a hE=>ZG hE rfl rfl fun a hE=>Ze hE rfl fun a hE=>Zh hE rfl rfl rfl (by decide) fun a hE=>Zh hE rfl rfl rfl (by decide) fun a hE=>Zh hE rfl rfl rfl (by decide) fun a hE=>Zh hE rfl rfl rfl (by decide) fun a hE=>ZG hE rfl rfl fun a hE=>Zj ?_
   obtain rfl:=Option.some.inj hl6
   refine Zl ?_
   exact ⟨hE.sub ⟨rfl,rfl,rfl,trivial⟩,hM⟩
  ·have hl6:=Zt hl6 hb8
   refine ZB hE (Zi hE rfl (lkb rfl hb8)) (by decide) rfl (Q8) fun a hE=>ZY (v:=v1_2) hE (Zi hE rfl (lkb rfl hb8)) (by decide) rfl JZ rfl (At.cat (pre:=[[v1_1]]) hM.rawAt0 ck) fun a hE=>TQ hE (Zi hE rfl (lkb rfl hb8)) (by decide) rfl Tryz.underlying41 (hM.rd hv1_2) fun a hE=>ZB hE (Zi hE rfl (lkb rfl hb8)) (by decide) rfl (Q3) fun a hE=>ZY (v:=v1_1) hE (Zi hE rfl (lkb rfl hb8)) (by decide) rfl BR rfl (At.cat (pre:=[]) hM.rawAt0 cl0) fun a hE=>TQ hE (Zi hE rfl (lkb rfl hb8)) (by decide) rfl Tryz.underlying40 (hM.rd hv1_1) fun a hE=>Wa hE (Zi hE rfl (lkb rfl hb8)) (by decide) rfl rfl rfl fun a hE=>ZL hE (lkb rfl hb8) rfl fun a hE=>Ze hE rfl ?_; intro a hE
   refine Yb ((p1.Data.length : Int) != (p1.Keys.length : Int)) (fun hb10=>?_) (fun hb10=>?_)
   ·have hl6:=Zu hl6 hb10
    refine Zh hE rfl (lkb rfl hb10) rfl (by decide) fun a hE=>Zh hE rfl (lkb rfl hb10) rfl (by decide) fun a hE=>Zh hE rfl (lkb rfl hb10) rfl (by decide) fun a hE=>Zh hE rfl (lkb rfl hb10) rfl (by decide) fun a hE=>Zh hE rfl (lkb rfl hb10) rfl (by decide) fun a hE=>Zh hE rfl (lkb rfl hb10) rfl (by decide) fun a hE=>Zh hE rfl (lkb rfl hb10) rfl (by decide) fun a hE=>ZG hE (lkb rfl hb10) rfl fun a hE=>Ze hE rfl fun a hE=>Zh hE rfl rfl rfl (by decide) fun a hE=>Zh hE rfl rfl rfl (by decide) fun a hE=>Zh hE rfl rfl rfl (by decide) ?_; intro a hE
    refine Zh hE rfl rfl rfl (by decide) fun a hE=>ZG hE rfl rfl fun a hE=>Zj ?_
    obtain rfl:=Option.some.inj hl6
    refine Zl ?_
    exact ⟨hE.sub ⟨rfl,rfl,rfl,trivial⟩,hM⟩
   ·have hl6:=Zt hl6 hb10
    refine ZB hE (Zi hE rfl (lkb rfl hb10)) (by decide) rfl (QN) fun a hE=>ZY (v:=v1_3) hE (Zi hE rfl (lkb rfl hb10)) (by decide) rfl JO rfl (At.cat (pre:=[[v1_1],[v1_2]]) hM.rawAt0 ck) fun a hE=>TQ hE (Zi hE rfl (lkb rfl hb10)) (by decide) rfl Tryz.underlying42 (hM.rd hv1_3) fun a hE=>ZB hE (Zi hE rfl (lkb rfl hb10)) (by decide) rfl (Q3) fun a hE=>ZY (v:=v1_1) hE (Zi hE rfl (lkb rfl hb10)) (by decide) rfl BR rfl (At.cat (pre:=[]) hM.rawAt0 cl0) fun a hE=>TQ hE (Zi hE rfl (lkb rfl hb10)) (by decide) rfl Tryz.underlying40 (hM.rd hv1_1) fun a hE=>Wa hE (Zi hE rfl (lkb rfl hb10)) (by decide) rfl rfl rfl fun a hE=>ZL hE (lkb rfl hb10) rfl fun a hE=>Ze hE rfl ?_; intro a hE
    refine Yb ((p1.Counts.length : Int) != (p1.Keys.length : Int)) (fun hb12=>?_) (fun hb12=>?_)
    ·have hl6:=Zu hl6 hb12
     refine Zh hE rfl (lkb rfl hb12) rfl (by decide) fun a hE=>Zh hE rfl (lkb rfl hb12) rfl (by decide) fun a hE=>Zh hE rfl (lkb rfl hb12) rfl (by decide) fun a hE=>Zh hE rfl (lkb rfl hb12) rfl (by decide) fun a hE=>ZG hE (lkb rfl hb12) rfl fun a hE=>Zj ?_
     obtain rfl:=Option.some.inj hl6
     refine Zl ?_
     exact ⟨hE.sub ⟨rfl,rfl,rfl,trivial⟩,hM⟩
    ·have hl6:=Zt hl6 hb12
     refine ZB hE (Zi hE rfl (lkb rfl hb12)) (by decide) rfl (Q3) fun a hE=>ZY (v:=v1_1) hE (Zi hE rfl (lkb rfl hb12)) (by decide) rfl BR rfl (At.cat (pre:=[]) hM.rawAt0 cl0) ?_; intro a hE
     obtain ⟨r14,e15,hl6⟩:=bind_some hl6
     refine WL hE (Zi hE rfl (lkb rfl hb12)) (by decide) rfl (cbm Tryz.func132) (AH _ p1.Keys v1_1 (hM.rdo hv1_1) r14 e15) ?_
     rintro v w a ⟨rfl,hK⟩ hE
     have hM:=hM.keep hK
     refine Jt hE (Zi hE rfl (lkb rfl hb12)) (by decide) rfl fun a hE=>ZL hE (lkb rfl hb12) rfl fun a hE=>Zj ?_
     obtain rfl:=Option.some.inj hl6
     refine Zl ?_
     exact ⟨hE.sub ⟨rfl,rfl,rfl,trivial⟩,hM⟩
 ·skip
  rintro a w ⟨hE,hM⟩
  refine Zq hE rfl ?_ ?_
  ·intro hb17
   have hF7:=Zu hF7 hb17
   refine Za (Zb hE rfl fun a hE=>Zf ?_)
   obtain rfl:=Option.some.inj hF7
   exact wp_ret (Zs (kr1 hE rfl rfl hM.kept))
  ·intro hb17
   have hF7:=Zt hF7 hb17
   refine wp_skip (Zy (wp_seq (Za (Zg hE rfl (Q8) fun a hE=>Zx (v:=v1_2) hE rfl JZ rfl (At.cat (pre:=[[v1_1]]) hM.rawAt0 ck) fun a hE=>ZZ hE rfl Tryz.underlying41 (hM.rd hv1_2) fun a hE=>Ze hE rfl fun a hE=>Zf ?_))))
   obtain ⟨j18,hl19,hF20⟩:=bind_some hF7
   refine ZJ (fun a w=>∃ s21 : Unit,j18 = Fl.nx s21 ∧ Env 69 a [] ∧ M (Old w0) w0 w []) ?_ ?_
   ·skip
    refine wp_block ?_
    refine ZE (fun (s22 : Int) a w=>Env 69 a [(2,(ptr b1 0)),(3,(ptr b3 0)),(36,v1_2),(37,(vI (p1.Data.length : Int))),(38,vI s22)] ∧ M (Old w0) w0 w [raw b3 (cat [[v1_1],[v1_2],[v1_3]]),raw b1 (cat [[v0_1]])]) hl19 ⟨hE.sub ⟨rfl,rfl,rfl,rfl,rfl,trivial⟩,hM⟩ ?_
    rintro s22 a w ⟨hE,hM⟩ o25 hs23 hx24
    unfold YS at hs23
    refine Za (Zk hE rfl rfl rfl fun a hE=>Zf (wp_seq ?_))
    refine Zq hE rfl ?_ ?_
    ·intro hb26
     have hs23:=Zu hs23 hb26
     refine wp_skip (Zy (wp_seq (wp_block (Za (Ze hE rfl ?_))))); intro a hE
     obtain ⟨x27,hi29,hs23⟩:=bix hs23
     refine ZK hE rfl rfl Tryz.underlying41 XB (hM.rd hv1_2) hi29.1 ?_; intro a hE
     obtain ⟨cs30,hs31,hA32⟩:=Vl hv1_2 hi29.2 -- ^
     obtain ⟨u33,rfl⟩:=XL hs31 -- ^
     have h34:=hs31 -- ^
     refine Zx (v:=u33) hE rfl XB rfl (hM.atk hA32 (VY hv1_2 hi29.2)) fun a hE=>Zb hE rfl fun a hE=>Zb hE rfl fun a hE=>Zf ?_
     obtain ⟨j35,hl36,hF37⟩:=bind_some hs23
     refine ZI (fun a w=>Env 69 a [(2,(ptr b1 0)),(3,(ptr b3 0)),(36,v1_2),(37,(vI (p1.Data.length : Int))),(38,vI s22),(67,vT j35)] ∧ M (Old w0) w0 w [raw b3 (cat [[v1_1],[v1_2],[v1_3]]),raw b1 (cat [[v0_1]])]) ?_ ?_
     ·skip
      obtain ⟨r39,e40,hl36⟩:=bind_some hl36
      refine Yb (!r39) (fun hb41=>?_) (fun hb41=>?_)
      ·have hl36:=Zu hl36 hb41
       refine TU (n:=69) (hd:=[_,_,_,_,_,_,_,_,_,_,_,_,_,_,_,_,_,_,_,_,_,_,_]) (tl:=[_,_]) Yx rfl rfl [43,44,45,46,47,48,49,50,51,52,53,54,55,56,57,58,59,60,61,62,63,64,65] (by decide) (fun D u w=>M (Old w0) w0 w ([raw b3 (cat [[v1_1],[v1_2],[v1_3]]),raw b1 (cat [[v0_1]])] ++ qL ([] : Mk) D u) ∧ GOk ([([],fun us v=>v = u33),([],fun us v=>v = (vT r39)),([],fun us v=>v = (vT (!r39))),([],fun us v=>v = (vT (!r39))),([],fun us v=>v = undef),([],fun us v=>v = undef),([],fun us v=>v = undef),([],fun us v=>v = undef),([],fun us v=>v = undef),([],fun us v=>v = undef),([],fun us v=>v = undef),([],fun us v=>v = (vT true)),([],fun us v=>v = (vT true)),([],fun us v=>v = undef),([],fun us v=>v = undef),([],fun us v=>v = undef),([],fun us v=>v = undef),([],fun us v=>v = undef),([],fun us v=>v = undef),([],fun us v=>v = undef),([],fun us v=>v = undef),([],fun us v=>v = undef),([],fun us v=>v = undef)] : Gs) D u) hE (fun u=>⟨M.q0 hM.drew u,Ae⟩) (kh ?_ ?_ ?_ ?_ ?_ ?_ ?_ ?_ ?_ ?_ ?_ ?_ ?_ ?_ ?_ ?_ ?_ ?_ ?_ ?_ ?_ ?_ ?_) ?_
       ·intro a w ux38 D hE hI hD hdc hp
        have hM0:=hI.1
        exact Ze hE rfl fun a hE=>⟨_,_,rfl,hE,M.qKeep hM0 rfl,hI.2.put hD rfl ZN rfl⟩
       ·intro a w ux38 D hE hI hD hdc hp
        have d0 : D 0 = true:=hp 0 _ rfl rfl
        have g0:=hI.2 0 d0 _ rfl
        have f0 : ux38 0 = u33:=g0.2
        have hM0:=hI.1
        have hM:=hI.1
        refine Zv hE (ZU (ZR (lk rfl f0) Xf)) Zbb (Ko _ x27 u33 (hM.rdo h34) r39 e40) ?_
        rintro v w a ⟨rfl,hK⟩ hE
        exact ⟨_,_,rfl,hE,M.qKeep (hM0.keep hK) rfl,hI.2.put hD rfl ZN rfl⟩
       ·intro a w ux38 D hE hI hD hdc hp
        have d1 : D 1 = true:=hp 0 _ rfl rfl
        have g1:=hI.2 1 d1 _ rfl
        have f1 : ux38 1 = (vT r39):=g1.2
        have hM0:=hI.1
        exact YO hE (lk rfl f1) fun a hE=>⟨_,_,rfl,hE,M.qKeep hM0 rfl,hI.2.put hD rfl ZN rfl⟩
       ·intro a w ux38 D hE hI hD hdc hp
        have d2 : D 2 = true:=hp 0 _ rfl rfl
        have g2:=hI.2 2 d2 _ rfl
        have f2 : ux38 2 = (vT (!r39)):=g2.2
        have hM0:=hI.1
        exact Ze hE (lk rfl f2) fun a hE=>⟨_,_,rfl,hE,M.qKeep hM0 rfl,hI.2.put hD rfl ZN rfl⟩
       ·intro a w ux38 D hE hI hD hdc hp
        have d3 : D 3 = true:=hp 0 _ rfl rfl
        have g3:=hI.2 3 d3 _ rfl
        have f3 : ux38 3 = (vT (!r39)):=g3.2
        have hM0:=hI.1
        exact Zh hE rfl (lkb (lk rfl f3) hb41) rfl (by decide) fun a hE=>⟨_,_,rfl,hE,M.qKeep hM0 rfl,hI.2.put hD rfl ZN rfl⟩
       ·intro a w ux38 D hE hI hD hdc hp
        have d3 : D 3 = true:=hp 1 _ rfl rfl
        have g3:=hI.2 3 d3 _ rfl
        have f3 : ux38 3 = (vT (!r39)):=g3.2
        have d4 : D 4 = true:=hp 0 _ rfl rfl
        have g4:=hI.2 4 d4 _ rfl
        have f4 : ux38 4 = undef:=g4.2
        have hM0:=hI.1
        exact Zh hE rfl (lkb (lk rfl f3) hb41) rfl (by decide) fun a hE=>⟨_,_,rfl,hE,M.qKeep hM0 rfl,hI.2.put hD rfl ZN rfl⟩
       ·intro a w ux38 D hE hI hD hdc hp
        have d3 : D 3 = true:=hp 0 _ rfl rfl
        have g3:=hI.2 3 d3 _ rfl
        have f3 : ux38 3 = (vT (!r39)):=g3.2
        have hM0:=hI.1
        exact Zh hE rfl (lkb (lk rfl f3) hb41) rfl (by decide) fun a hE=>⟨_,_,rfl,hE,M.qKeep hM0 rfl,hI.2.put hD rfl ZN rfl⟩
       ·intro a w ux38 D hE hI hD hdc hp
        have d3 : D 3 = true:=hp 2 _ rfl rfl
        have g3:=hI.2 3 d3 _ rfl
        have f3 : ux38 3 = (vT (!r39)):=g3.2
        have d5 : D 5 = true:=hp 0 _ rfl rfl
        have g5:=hI.2 5 d5 _ rfl
        have f5 : ux38 5 = undef:=g5.2
        have d6 : D 6 = true:=hp 1 _ rfl rfl
        have g6:=hI.2 6 d6 _ rfl
        have f6 : ux38 6 = undef:=g6.2
        have hM0:=hI.1
        exact Zh hE rfl (lkb (lk rfl f3) hb41) rfl (by decide) fun a hE=>⟨_,_,rfl,hE,M.qKeep hM0 rfl,hI.2.put hD rfl ZN rfl⟩
       ·intro a w ux38 D hE hI hD hdc hp
        have d3 : D 3 = true:=hp 1 _ rfl rfl
        have g3:=hI.2 3 d3 _ rfl
        have f3 : ux38 3 = (vT (!r39)):=g3.2
        have d7 : D 7 = true:=hp 0 _ rfl rfl
        have g7:=hI.2 7 d7 _ rfl
        have f7 : ux38 7 = undef:=g7.2
        have hM0:=hI.1
        exact Zh hE rfl (lkb (lk rfl f3) hb41) rfl (by decide) fun a hE=>⟨_,_,rfl,hE,M.qKeep hM0 rfl,hI.2.put hD rfl ZN rfl⟩
       ·intro a w ux38 D hE hI hD hdc hp
        have d3 : D 3 = true:=hp 1 _ rfl rfl
        have g3:=hI.2 3 d3 _ rfl
        have f3 : ux38 3 = (vT (!r39)):=g3.2
        have d8 : D 8 = true:=hp 0 _ rfl rfl
        have g8:=hI.2 8 d8 _ rfl
        have f8 : ux38 8 = undef:=g8.2
        have hM0:=hI.1
        exact Zh hE rfl (lkb (lk rfl f3) hb41) rfl (by decide) fun a hE=>⟨_,_,rfl,hE,M.qKeep hM0 rfl,hI.2.put hD rfl ZN rfl⟩
       ·intro a w ux38 D hE hI hD hdc hp
        have d3 : D 3 = true:=hp 1 _ rfl rfl
        have g3:=hI.2 3 d3 _ rfl
        have f3 : ux38 3 = (vT (!r39)):=g3.2
        have d9 : D 9 = true:=hp 0 _ rfl rfl
        have g9:=hI.2 9 d9 _ rfl
        have f9 : ux38 9 = undef:=g9.2
        have hM0:=hI.1
        exact Zh hE rfl (lkb (lk rfl f3) hb41) rfl (by decide) fun a hE=>⟨_,_,rfl,hE,M.qKeep hM0 rfl,hI.2.put hD rfl ZN rfl⟩
       ·intro a w ux38 D hE hI hD hdc hp
        have d3 : D 3 = true:=hp 0 _ rfl rfl
        have g3:=hI.2 3 d3 _ rfl
        have f3 : ux38 3 = (vT (!r39)):=g3.2
        have d10 : D 10 = true:=hp 1 _ rfl rfl
        have g10:=hI.2 10 d10 _ rfl
        have f10 : ux38 10 = undef:=g10.2
        have hM0:=hI.1
        exact ZG hE (lkb (lk rfl f3) hb41) rfl fun a hE=>⟨_,_,rfl,hE,M.qKeep hM0 rfl,hI.2.put hD rfl ZN rfl⟩
       ·intro a w ux38 D hE hI hD hdc hp
        have d11 : D 11 = true:=hp 0 _ rfl rfl
        have g11:=hI.2 11 d11 _ rfl
        have f11 : ux38 11 = (vT true):=g11.2
        have hM0:=hI.1
        exact Ze hE (lk rfl f11) fun a hE=>⟨_,_,rfl,hE,M.qKeep hM0 rfl,hI.2.put hD rfl ZN rfl⟩
       ·intro a w ux38 D hE hI hD hdc hp
        have d12 : D 12 = true:=hp 0 _ rfl rfl
        have g12:=hI.2 12 d12 _ rfl
        have f12 : ux38 12 = (vT true):=g12.2
        have hM0:=hI.1
        exact Zh hE rfl (lk rfl f12) rfl (by decide) fun a hE=>⟨_,_,rfl,hE,M.qKeep hM0 rfl,hI.2.put hD rfl ZN rfl⟩
       ·intro a w ux38 D hE hI hD hdc hp
        have d12 : D 12 = true:=hp 1 _ rfl rfl
        have g12:=hI.2 12 d12 _ rfl
        have f12 : ux38 12 = (vT true):=g12.2
        have d13 : D 13 = true:=hp 0 _ rfl rfl
        have g13:=hI.2 13 d13 _ rfl
        have f13 : ux38 13 = undef:=g13.2
        have hM0:=hI.1
        exact Zh hE rfl (lk rfl f12) rfl (by decide) fun a hE=>⟨_,_,rfl,hE,M.qKeep hM0 rfl,hI.2.put hD rfl ZN rfl⟩
       ·intro a w ux38 D hE hI hD hdc hp
        have d12 : D 12 = true:=hp 0 _ rfl rfl
        have g12:=hI.2 12 d12 _ rfl
        have f12 : ux38 12 = (vT true):=g12.2
        have hM0:=hI.1
        exact Zh hE rfl (lk rfl f12) rfl (by decide) fun a hE=>⟨_,_,rfl,hE,M.qKeep hM0 rfl,hI.2.put hD rfl ZN rfl⟩
       ·intro a w ux38 D hE hI hD hdc hp
        have d12 : D 12 = true:=hp 1 _ rfl rfl
        have g12:=hI.2 12 d12 _ rfl
        have f12 : ux38 12 = (vT true):=g12.2
        have d15 : D 15 = true:=hp 0 _ rfl rfl
        have g15:=hI.2 15 d15 _ rfl
        have f15 : ux38 15 = undef:=g15.2
        have hM0:=hI.1
        exact Zh hE rfl (lk rfl f12) rfl (by decide) fun a hE=>⟨_,_,rfl,hE,M.qKeep hM0 rfl,hI.2.put hD rfl ZN rfl⟩
       ·intro a w ux38 D hE hI hD hdc hp
        have d12 : D 12 = true:=hp 2 _ rfl rfl
        have g12:=hI.2 12 d12 _ rfl
        have f12 : ux38 12 = (vT true):=g12.2
        have d14 : D 14 = true:=hp 0 _ rfl rfl
        have g14:=hI.2 14 d14 _ rfl
        have f14 : ux38 14 = undef:=g14.2
        have d16 : D 16 = true:=hp 1 _ rfl rfl
        have g16:=hI.2 16 d16 _ rfl
        have f16 : ux38 16 = undef:=g16.2
        have hM0:=hI.1
        exact Zh hE rfl (lk rfl f12) rfl (by decide) fun a hE=>⟨_,_,rfl,hE,M.qKeep hM0 rfl,hI.2.put hD rfl ZN rfl⟩
       ·intro a w ux38 D hE hI hD hdc hp
        have d12 : D 12 = true:=hp 0 _ rfl rfl
        have g12:=hI.2 12 d12 _ rfl
        have f12 : ux38 12 = (vT true):=g12.2
        have hM0:=hI.1
        exact Zh hE rfl (lk rfl f12) rfl (by decide) fun a hE=>⟨_,_,rfl,hE,M.qKeep hM0 rfl,hI.2.put hD rfl ZN rfl⟩
       ·intro a w ux38 D hE hI hD hdc hp
        have d12 : D 12 = true:=hp 1 _ rfl rfl
        have g12:=hI.2 12 d12 _ rfl
        have f12 : ux38 12 = (vT true):=g12.2
        have d18 : D 18 = true:=hp 0 _ rfl rfl
        have g18:=hI.2 18 d18 _ rfl
        have f18 : ux38 18 = undef:=g18.2
        have hM0:=hI.1
        exact Zh hE rfl (lk rfl f12) rfl (by decide) fun a hE=>⟨_,_,rfl,hE,M.qKeep hM0 rfl,hI.2.put hD rfl ZN rfl⟩
       ·intro a w ux38 D hE hI hD hdc hp
        have d12 : D 12 = true:=hp 0 _ rfl rfl
        have g12:=hI.2 12 d12 _ rfl
        have f12 : ux38 12 = (vT true):=g12.2
        have hM0:=hI.1
        exact Zh hE rfl (lk rfl f12) rfl (by decide) fun a hE=>⟨_,_,rfl,hE,M.qKeep hM0 rfl,hI.2.put hD rfl ZN rfl⟩
       ·intro a w ux38 D hE hI hD hdc hp
        have d12 : D 12 = true:=hp 2 _ rfl rfl
        have g12:=hI.2 12 d12 _ rfl
        have f12 : ux38 12 = (vT true):=g12.2
        have d19 : D 19 = true:=hp 0 _ rfl rfl
        have g19:=hI.2 19 d19 _ rfl
        have f19 : ux38 19 = undef:=g19.2
        have d20 : D 20 = true:=hp 1 _ rfl rfl
        have g20:=hI.2 20 d20 _ rfl
        have f20 : ux38 20 = undef:=g20.2
        have hM0:=hI.1
        exact Zh hE rfl (lk rfl f12) rfl (by decide) fun a hE=>⟨_,_,rfl,hE,M.qKeep hM0 rfl,hI.2.put hD rfl ZN rfl⟩
       ·intro a w ux38 D hE hI hD hdc hp
        have d12 : D 12 = true:=hp 1 _ rfl rfl
        have g12:=hI.2 12 d12 _ rfl
        have f12 : ux38 12 = (vT true):=g12.2
        have d21 : D 21 = true:=hp 0 _ rfl rfl
        have g21:=hI.2 21 d21 _ rfl
        have f21 : ux38 21 = undef:=g21.2
        have hM0:=hI.1
        exact Zh hE rfl (lk rfl f12) rfl (by decide) fun a hE=>⟨_,_,rfl,hE,M.qKeep hM0 rfl,hI.2.put hD rfl ZN rfl⟩
       ·intro a w ux38 D hE hI hall
        have hM:=hI.1
        have d0:=hall 0 (by decide)
        have d1:=hall 1 (by decide)
        have d2:=hall 2 (by decide)
        have d3:=hall 3 (by decide)
        have d4:=hall 4 (by decide)
        have d5:=hall 5 (by decide)
        have d6:=hall 6 (by decide)
        have d7:=hall 7 (by decide)
        have d8:=hall 8 (by decide)
        have d9:=hall 9 (by decide)
        have d10:=hall 10 (by decide)
        have d11:=hall 11 (by decide)
        have d12:=hall 12 (by decide)
        have d13:=hall 13 (by decide)
        have d14:=hall 14 (by decide)
        have d15:=hall 15 (by decide)
        have d16:=hall 16 (by decide)
        have d17:=hall 17 (by decide)
        have d18:=hall 18 (by decide)
        have d19:=hall 19 (by decide)
        have d20:=hall 20 (by decide)
        have d21:=hall 21 (by decide)
        have d22:=hall 22 (by decide)
        have f0 : ux38 0 = u33:=(hI.2 0 d0 _ rfl).2
        have f1 : ux38 1 = (vT r39):=(hI.2 1 d1 _ rfl).2
        have f2 : ux38 2 = (vT (!r39)):=(hI.2 2 d2 _ rfl).2
        have f3 : ux38 3 = (vT (!r39)):=(hI.2 3 d3 _ rfl).2
        have f4 : ux38 4 = undef:=(hI.2 4 d4 _ rfl).2
        have f5 : ux38 5 = undef:=(hI.2 5 d5 _ rfl).2
        have f6 : ux38 6 = undef:=(hI.2 6 d6 _ rfl).2
        have f7 : ux38 7 = undef:=(hI.2 7 d7 _ rfl).2
        have f8 : ux38 8 = undef:=(hI.2 8 d8 _ rfl).2
        have f9 : ux38 9 = undef:=(hI.2 9 d9 _ rfl).2
        have f10 : ux38 10 = undef:=(hI.2 10 d10 _ rfl).2
        have f11 : ux38 11 = (vT true):=(hI.2 11 d11 _ rfl).2
        have f12 : ux38 12 = (vT true):=(hI.2 12 d12 _ rfl).2
        have f13 : ux38 13 = undef:=(hI.2 13 d13 _ rfl).2
        have f14 : ux38 14 = undef:=(hI.2 14 d14 _ rfl).2
        have f15 : ux38 15 = undef:=(hI.2 15 d15 _ rfl).2
        have f16 : ux38 16 = undef:=(hI.2 16 d16 _ rfl).2
        have f17 : ux38 17 = undef:=(hI.2 17 d17 _ rfl).2
        have f18 : ux38 18 = undef:=(hI.2 18 d18 _ rfl).2
        have f19 : ux38 19 = undef:=(hI.2 19 d19 _ rfl).2
        have f20 : ux38 20 = undef:=(hI.2 20 d20 _ rfl).2
        have f21 : ux38 21 = undef:=(hI.2 21 d21 _ rfl).2
        have f22 : ux38 22 = undef:=(hI.2 22 d22 _ rfl).2
        have hE:=hE.sub (e':=[(55,vT true),(60,undef),(65,undef),(2,(ptr b1 0)),(3,(ptr b3 0)),(5,vI s22),(6,u33),(36,v1_2),(37,(vI (p1.Data.length : Int))),(38,vI s22),(39,(vT (decide (s22 < (p1.Data.length : Int))))),(40,vI s22),(41,(ptr (sb v1_2) (so v1_2 + (s22).toNat * 1))),(42,u33)]) ⟨lk rfl f12,lk rfl f17,lk rfl f22,rfl,rfl,rfl,rfl,rfl,rfl,rfl,rfl,rfl,rfl,rfl,trivial⟩
        refine Zh hE rfl rfl rfl (by decide) fun a hE=>ZG hE rfl rfl fun a hE=>Zj ?_
        obtain rfl:=Option.some.inj hl36
        refine Zl ?_
        exact ⟨hE.sub ⟨rfl,rfl,rfl,rfl,rfl,rfl,trivial⟩,hM⟩
      ·have hl36:=Zt hl36 hb41
       obtain ⟨x43,hi45,hl36⟩:=bix hl36
       obtain ⟨r46,e47,hl36⟩:=bind_some hl36
       refine Yb (!r46) (fun hb48=>?_) (fun hb48=>?_)
       ·have hl36:=Zu hl36 hb48
        refine TU (n:=69) (hd:=[_,_,_,_,_,_,_,_,_,_,_,_,_,_,_,_,_,_,_,_,_,_,_]) (tl:=[_,_]) Yx rfl rfl [43,44,45,46,47,48,49,50,51,52,53,54,55,56,57,58,59,60,61,62,63,64,65] (by decide) (fun D u w=>M (Old w0) w0 w ([raw b3 (cat [[v1_1],[v1_2],[v1_3]]),raw b1 (cat [[v0_1]])] ++ qL ([] : Mk) D u) ∧ GOk ([([],fun us v=>v = u33),([],fun us v=>v = (vT r39)),([],fun us v=>v = (vT (!r39))),([],fun us v=>v = (vT (!r39))),([],fun us v=>v = (ptr b3 (0 + 2))),([],fun us v=>v = v1_3),([],fun us v=>v = (vI s22)),([],fun us v=>v = (ptr (sb v1_3) (so v1_3 + (s22).toNat * 1))),([],fun us v=>v = (vI x43)),([],fun us v=>v = (vT r46)),([],fun us v=>v = (vT (!r46))),([],fun us v=>v = (vT (!r46))),([],fun us v=>v = (vT (!r46))),([],fun us v=>v = undef),([],fun us v=>v = undef),([],fun us v=>v = undef),([],fun us v=>v = undef),([],fun us v=>v = undef),([],fun us v=>v = undef),([],fun us v=>v = undef),([],fun us v=>v = undef),([],fun us v=>v = undef),([],fun us v=>v = undef)] : Gs) D u) hE (fun u=>⟨M.q0 hM.drew u,Ae⟩) (kh ?_ ?_ ?_ ?_ ?_ ?_ ?_ ?_ ?_ ?_ ?_ ?_ ?_ ?_ ?_ ?_ ?_ ?_ ?_ ?_ ?_ ?_ ?_) ?_
        ·intro a w ux38 D hE hI hD hdc hp
         have hM0:=hI.1
         exact Ze hE rfl fun a hE=>⟨_,_,rfl,hE,M.qKeep hM0 rfl,hI.2.put hD rfl ZN rfl⟩
        ·intro a w ux38 D hE hI hD hdc hp
         have d0 : D 0 = true:=hp 0 _ rfl rfl
         have g0:=hI.2 0 d0 _ rfl
         have f0 : ux38 0 = u33:=g0.2
         have hM0:=hI.1
         have hM:=hI.1
         refine Zv hE (ZU (ZR (lk rfl f0) Xf)) Zbb (Ko _ x27 u33 (hM.rdo h34) r39 e40) ?_
         rintro v w a ⟨rfl,hK⟩ hE
         exact ⟨_,_,rfl,hE,M.qKeep (hM0.keep hK) rfl,hI.2.put hD rfl ZN rfl⟩
        ·intro a w ux38 D hE hI hD hdc hp
         have d1 : D 1 = true:=hp 0 _ rfl rfl
         have g1:=hI.2 1 d1 _ rfl
         have f1 : ux38 1 = (vT r39):=g1.2
         have hM0:=hI.1
         exact YO hE (lk rfl f1) fun a hE=>⟨_,_,rfl,hE,M.qKeep hM0 rfl,hI.2.put hD rfl ZN rfl⟩
        ·intro a w ux38 D hE hI hD hdc hp
         have d2 : D 2 = true:=hp 0 _ rfl rfl
         have g2:=hI.2 2 d2 _ rfl
         have f2 : ux38 2 = (vT (!r39)):=g2.2
         have hM0:=hI.1
         exact Ze hE (lk rfl f2) fun a hE=>⟨_,_,rfl,hE,M.qKeep hM0 rfl,hI.2.put hD rfl ZN rfl⟩
        ·intro a w ux38 D hE hI hD hdc hp
         have d3 : D 3 = true:=hp 0 _ rfl rfl
         have g3:=hI.2 3 d3 _ rfl
         have f3 : ux38 3 = (vT (!r39)):=g3.2
         have hM0:=hI.1
         exact ZB hE (Zi hE rfl (lkb (lk rfl f3) hb41)) (by decide) rfl (QN) fun a hE=>⟨_,_,rfl,hE,M.qKeep hM0 rfl,hI.2.put hD rfl ZN rfl⟩
        ·intro a w ux38 D hE hI hD hdc hp
         have d3 : D 3 = true:=hp 1 _ rfl rfl
         have g3:=hI.2 3 d3 _ rfl
         have f3 : ux38 3 = (vT (!r39)):=g3.2
         have d4 : D 4 = true:=hp 0 _ rfl rfl
         have g4:=hI.2 4 d4 _ rfl
         have f4 : ux38 4 = (ptr b3 (0 + 2)):=g4.2
         have hM0:=hI.1
         have hM:=hI.1
         exact ZY (v:=v1_3) hE (Zi hE rfl (lkb (lk rfl f3) hb41)) (by decide) (lk rfl f4) JO rfl (At.cat (pre:=[[v1_1],[v1_2]]) hM.rawAt0 ck) fun a hE=>⟨_,_,rfl,hE,M.qKeep hM0 rfl,hI.2.put hD rfl ZN rfl⟩
        ·intro a w ux38 D hE hI hD hdc hp
         have d3 : D 3 = true:=hp 0 _ rfl rfl
         have g3:=hI.2 3 d3 _ rfl
         have f3 : ux38 3 = (vT (!r39)):=g3.2
         have hM0:=hI.1
         exact Y3 hE (Zi hE rfl (lkb (lk rfl f3) hb41)) (by decide) rfl fun a hE=>⟨_,_,rfl,hE,M.qKeep hM0 rfl,hI.2.put hD rfl ZN rfl⟩
        ·intro a w ux38 D hE hI hD hdc hp
         have d3 : D 3 = true:=hp 2 _ rfl rfl
         have g3:=hI.2 3 d3 _ rfl
         have f3 : ux38 3 = (vT (!r39)):=g3.2
         have d5 : D 5 = true:=hp 0 _ rfl rfl
         have g5:=hI.2 5 d5 _ rfl
         have f5 : ux38 5 = v1_3:=g5.2
         have d6 : D 6 = true:=hp 1 _ rfl rfl
         have g6:=hI.2 6 d6 _ rfl
         have f6 : ux38 6 = (vI s22):=g6.2
         have hM0:=hI.1
         have hM:=hI.1
         exact V3 hE (Zi hE rfl (lkb (lk rfl f3) hb41)) (by decide) (lk rfl f5) (lk rfl f6) Tryz.underlying42 ty2 (hM.rd hv1_3) hi45.1 fun a hE=>⟨_,_,rfl,hE,M.qKeep hM0 rfl,hI.2.put hD rfl ZN rfl⟩
        ·intro a w ux38 D hE hI hD hdc hp
         have d3 : D 3 = true:=hp 1 _ rfl rfl
         have g3:=hI.2 3 d3 _ rfl
         have f3 : ux38 3 = (vT (!r39)):=g3.2
         have d7 : D 7 = true:=hp 0 _ rfl rfl
         have g7:=hI.2 7 d7 _ rfl
         have f7 : ux38 7 = (ptr (sb v1_3) (so v1_3 + (s22).toNat * 1)):=g7.2
         have hM0:=hI.1
         have hM:=hI.1
         exact ZY (v:=(vI x43)) hE (Zi hE rfl (lkb (lk rfl f3) hb41)) (by decide) (lk rfl f7) ty2 rfl (Ys (hM.rd hv1_3) hi45.2) fun a hE=>⟨_,_,rfl,hE,M.qKeep hM0 rfl,hI.2.put hD rfl ZN rfl⟩
        ·intro a w ux38 D hE hI hD hdc hp
         have d3 : D 3 = true:=hp 1 _ rfl rfl
         have g3:=hI.2 3 d3 _ rfl
         have f3 : ux38 3 = (vT (!r39)):=g3.2
         have d8 : D 8 = true:=hp 0 _ rfl rfl
         have g8:=hI.2 8 d8 _ rfl
         have f8 : ux38 8 = (vI x43):=g8.2
         have hM0:=hI.1
         refine WL hE (Zi hE rfl (lkb (lk rfl f3) hb41)) (by decide) (ZU (ZR (lk rfl f8) (ZR rfl (ZR rfl Xf)))) HI (Yi _ x43 1 1000000 r46 e47) ?_
         rintro v w a ⟨rfl,hK⟩ hE
         exact ⟨_,_,rfl,hE,M.qKeep (hM0.keep hK) rfl,hI.2.put hD rfl ZN rfl⟩
        ·intro a w ux38 D hE hI hD hdc hp
         have d3 : D 3 = true:=hp 1 _ rfl rfl
         have g3:=hI.2 3 d3 _ rfl
         have f3 : ux38 3 = (vT (!r39)):=g3.2
         have d9 : D 9 = true:=hp 0 _ rfl rfl
         have g9:=hI.2 9 d9 _ rfl
         have f9 : ux38 9 = (vT r46):=g9.2
         have hM0:=hI.1
         exact Jt hE (Zi hE rfl (lkb (lk rfl f3) hb41)) (by decide) (lk rfl f9) fun a hE=>⟨_,_,rfl,hE,M.qKeep hM0 rfl,hI.2.put hD rfl ZN rfl⟩
        ·intro a w ux38 D hE hI hD hdc hp
         have d3 : D 3 = true:=hp 0 _ rfl rfl
         have g3:=hI.2 3 d3 _ rfl
         have f3 : ux38 3 = (vT (!r39)):=g3.2
         have d10 : D 10 = true:=hp 1 _ rfl rfl
         have g10:=hI.2 10 d10 _ rfl
         have f10 : ux38 10 = (vT (!r46)):=g10.2
         have hM0:=hI.1
         exact ZL hE (lkb (lk rfl f3) hb41) (lk rfl f10) fun a hE=>⟨_,_,rfl,hE,M.qKeep hM0 rfl,hI.2.put hD rfl ZN rfl⟩
        ·intro a w ux38 D hE hI hD hdc hp
         have d11 : D 11 = true:=hp 0 _ rfl rfl
         have g11:=hI.2 11 d11 _ rfl
         have f11 : ux38 11 = (vT (!r46)):=g11.2
         have hM0:=hI.1
         exact Ze hE (lk rfl f11) fun a hE=>⟨_,_,rfl,hE,M.qKeep hM0 rfl,hI.2.put hD rfl ZN rfl⟩
        ·intro a w ux38 D hE hI hD hdc hp
         have d12 : D 12 = true:=hp 0 _ rfl rfl
         have g12:=hI.2 12 d12 _ rfl
         have f12 : ux38 12 = (vT (!r46)):=g12.2
         have hM0:=hI.1
         exact Zh hE rfl (lkb (lk rfl f12) hb48) rfl (by decide) fun a hE=>⟨_,_,rfl,hE,M.qKeep hM0 rfl,hI.2.put hD rfl ZN rfl⟩
        ·intro a w ux38 D hE hI hD hdc hp
         have d12 : D 12 = true:=hp 1 _ rfl rfl
         have g12:=hI.2 12 d12 _ rfl
         have f12 : ux38 12 = (vT (!r46)):=g12.2
         have d13 : D 13 = true:=hp 0 _ rfl rfl
         have g13:=hI.2 13 d13 _ rfl
         have f13 : ux38 13 = undef:=g13.2
         have hM0:=hI.1
         exact Zh hE rfl (lkb (lk rfl f12) hb48) rfl (by decide) fun a hE=>⟨_,_,rfl,hE,M.qKeep hM0 rfl,hI.2.put hD rfl ZN rfl⟩
        ·intro a w ux38 D hE hI hD hdc hp
         have d12 : D 12 = true:=hp 0 _ rfl rfl
         have g12:=hI.2 12 d12 _ rfl
         have f12 : ux38 12 = (vT (!r46)):=g12.2
         have hM0:=hI.1
         exact Zh hE rfl (lkb (lk rfl f12) hb48) rfl (by decide) fun a hE=>⟨_,_,rfl,hE,M.qKeep hM0 rfl,hI.2.put hD rfl ZN rfl⟩
        ·intro a w ux38 D hE hI hD hdc hp
         have d12 : D 12 = true:=hp 1 _ rfl rfl
         have g12:=hI.2 12 d12 _ rfl
         have f12 : ux38 12 = (vT (!r46)):=g12.2
         have d15 : D 15 = true:=hp 0 _ rfl rfl
         have g15:=hI.2 15 d15 _ rfl
         have f15 : ux38 15 = undef:=g15.2
         have hM0:=hI.1
         exact Zh hE rfl (lkb (lk rfl f12) hb48) rfl (by decide) fun a hE=>⟨_,_,rfl,hE,M.qKeep hM0 rfl,hI.2.put hD rfl ZN rfl⟩
        ·intro a w ux38 D hE hI hD hdc hp
         have d12 : D 12 = true:=hp 2 _ rfl rfl
         have g12:=hI.2 12 d12 _ rfl
         have f12 : ux38 12 = (vT (!r46)):=g12.2
         have d14 : D 14 = true:=hp 0 _ rfl rfl
         have g14:=hI.2 14 d14 _ rfl
         have f14 : ux38 14 = undef:=g14.2
         have d16 : D 16 = true:=hp 1 _ rfl rfl
         have g16:=hI.2 16 d16 _ rfl
         have f16 : ux38 16 = undef:=g16.2
         have hM0:=hI.1
         exact Zh hE rfl (lkb (lk rfl f12) hb48) rfl (by decide) fun a hE=>⟨_,_,rfl,hE,M.qKeep hM0 rfl,hI.2.put hD rfl ZN rfl⟩
        ·intro a w ux38 D hE hI hD hdc hp
         have d12 : D 12 = true:=hp 0 _ rfl rfl
         have g12:=hI.2 12 d12 _ rfl
         have f12 : ux38 12 = (vT (!r46)):=g12.2
         have hM0:=hI.1
         exact Zh hE rfl (lkb (lk rfl f12) hb48) rfl (by decide) fun a hE=>⟨_,_,rfl,hE,M.qKeep hM0 rfl,hI.2.put hD rfl ZN rfl⟩
        ·intro a w ux38 D hE hI hD hdc hp
         have d12 : D 12 = true:=hp 1 _ rfl rfl
         have g12:=hI.2 12 d12 _ rfl
         have f12 : ux38 12 = (vT (!r46)):=g12.2
         have d18 : D 18 = true:=hp 0 _ rfl rfl
         have g18:=hI.2 18 d18 _ rfl
         have f18 : ux38 18 = undef:=g18.2
         have hM0:=hI.1
         exact Zh hE rfl (lkb (lk rfl f12) hb48) rfl (by decide) fun a hE=>⟨_,_,rfl,hE,M.qKeep hM0 rfl,hI.2.put hD rfl ZN rfl⟩
        ·intro a w ux38 D hE hI hD hdc hp
         have d12 : D 12 = true:=hp 0 _ rfl rfl
         have g12:=hI.2 12 d12 _ rfl
         have f12 : ux38 12 = (vT (!r46)):=g12.2
         have hM0:=hI.1
         exact Zh hE rfl (lkb (lk rfl f12) hb48) rfl (by decide) fun a hE=>⟨_,_,rfl,hE,M.qKeep hM0 rfl,hI.2.put hD rfl ZN rfl⟩
        ·intro a w ux38 D hE hI hD hdc hp
         have d12 : D 12 = true:=hp 2 _ rfl rfl
         have g12:=hI.2 12 d12 _ rfl
         have f12 : ux38 12 = (vT (!r46)):=g12.2
         have d19 : D 19 = true:=hp 0 _ rfl rfl
         have g19:=hI.2 19 d19 _ rfl
         have f19 : ux38 19 = undef:=g19.2
         have d20 : D 20 = true:=hp 1 _ rfl rfl
         have g20:=hI.2 20 d20 _ rfl
         have f20 : ux38 20 = undef:=g20.2
         have hM0:=hI.1
         exact Zh hE rfl (lkb (lk rfl f12) hb48) rfl (by decide) fun a hE=>⟨_,_,rfl,hE,M.qKeep hM0 rfl,hI.2.put hD rfl ZN rfl⟩
        ·intro a w ux38 D hE hI hD hdc hp
         have d12 : D 12 = true:=hp 1 _ rfl rfl
         have g12:=hI.2 12 d12 _ rfl
         have f12 : ux38 12 = (vT (!r46)):=g12.2
         have d21 : D 21 = true:=hp 0 _ rfl rfl
         have g21:=hI.2 21 d21 _ rfl
         have f21 : ux38 21 = undef:=g21.2
         have hM0:=hI.1
         exact Zh hE rfl (lkb (lk rfl f12) hb48) rfl (by decide) fun a hE=>⟨_,_,rfl,hE,M.qKeep hM0 rfl,hI.2.put hD rfl ZN rfl⟩
        ·intro a w ux38 D hE hI hall
         have hM:=hI.1
         have d0:=hall 0 (by decide)
         have d1:=hall 1 (by decide)
         have d2:=hall 2 (by decide)
         have d3:=hall 3 (by decide)
         have d4:=hall 4 (by decide)
         have d5:=hall 5 (by decide)
         have d6:=hall 6 (by decide)
         have d7:=hall 7 (by decide)
         have d8:=hall 8 (by decide)
         have d9:=hall 9 (by decide)
         have d10:=hall 10 (by decide)
         have d11:=hall 11 (by decide)
         have d12:=hall 12 (by decide)
         have d13:=hall 13 (by decide)
         have d14:=hall 14 (by decide)
         have d15:=hall 15 (by decide)
         have d16:=hall 16 (by decide)
         have d17:=hall 17 (by decide)
         have d18:=hall 18 (by decide)
         have d19:=hall 19 (by decide)
         have d20:=hall 20 (by decide)
         have d21:=hall 21 (by decide)
         have d22:=hall 22 (by decide)
         have f0 : ux38 0 = u33:=(hI.2 0 d0 _ rfl).2
         have f1 : ux38 1 = (vT r39):=(hI.2 1 d1 _ rfl).2
         have f2 : ux38 2 = (vT (!r39)):=(hI.2 2 d2 _ rfl).2
         have f3 : ux38 3 = (vT (!r39)):=(hI.2 3 d3 _ rfl).2
         have f4 : ux38 4 = (ptr b3 (0 + 2)):=(hI.2 4 d4 _ rfl).2
         have f5 : ux38 5 = v1_3:=(hI.2 5 d5 _ rfl).2
         have f6 : ux38 6 = (vI s22):=(hI.2 6 d6 _ rfl).2
         have f7 : ux38 7 = (ptr (sb v1_3) (so v1_3 + (s22).toNat * 1)):=(hI.2 7 d7 _ rfl).2
         have f8 : ux38 8 = (vI x43):=(hI.2 8 d8 _ rfl).2
         have f9 : ux38 9 = (vT r46):=(hI.2 9 d9 _ rfl).2
         have f10 : ux38 10 = (vT (!r46)):=(hI.2 10 d10 _ rfl).2
         have f11 : ux38 11 = (vT (!r46)):=(hI.2 11 d11 _ rfl).2
         have f12 : ux38 12 = (vT (!r46)):=(hI.2 12 d12 _ rfl).2
         have f13 : ux38 13 = undef:=(hI.2 13 d13 _ rfl).2
         have f14 : ux38 14 = undef:=(hI.2 14 d14 _ rfl).2
         have f15 : ux38 15 = undef:=(hI.2 15 d15 _ rfl).2
         have f16 : ux38 16 = undef:=(hI.2 16 d16 _ rfl).2
         have f17 : ux38 17 = undef:=(hI.2 17 d17 _ rfl).2
         have f18 : ux38 18 = undef:=(hI.2 18 d18 _ rfl).2
         have f19 : ux38 19 = undef:=(hI.2 19 d19 _ rfl).2
         have f20 : ux38 20 = undef:=(hI.2 20 d20 _ rfl).2
         have f21 : ux38 21 = undef:=(hI.2 21 d21 _ rfl).2
         have f22 : ux38 22 = undef:=(hI.2 22 d22 _ rfl).2
         have hE:=hE.sub (e':=[(55,(vT (!r46))),(60,undef),(65,undef),(2,(ptr b1 0)),(3,(ptr b3 0)),(5,vI s22),(6,u33),(36,v1_2),(37,(vI (p1.Data.length : Int))),(38,vI s22),(39,(vT (decide (s22 < (p1.Data.length : Int))))),(40,vI s22),(41,(ptr (sb v1_2) (so v1_2 + (s22).toNat * 1))),(42,u33)]) ⟨lk rfl f12,lk rfl f17,lk rfl f22,rfl,rfl,rfl,rfl,rfl,rfl,rfl,rfl,rfl,rfl,rfl,trivial⟩
         refine Zh hE rfl (lkb rfl hb48) rfl (by decide) fun a hE=>ZG hE (lkb rfl hb48) rfl fun a hE=>Zj ?_
         obtain rfl:=Option.some.inj hl36
         refine Zl ?_
         exact ⟨hE.sub ⟨rfl,rfl,rfl,rfl,rfl,rfl,trivial⟩,hM⟩
       ·have hl36:=Zt hl36 hb48
        obtain ⟨r54,e55,hl36⟩:=bind_some hl36
        obtain ⟨x56,hi58,hl36⟩:=bix hl36
        refine TU (n:=69) (hd:=[_,_,_,_,_,_,_,_,_,_,_,_,_,_,_,_,_,_,_,_,_,_,_]) (tl:=[_,_]) Yx rfl rfl [43,44,45,46,47,48,49,50,51,52,53,54,55,56,57,58,59,60,61,62,63,64,65] (by decide) (fun D u w=>M (Old w0) w0 w ([raw b3 (cat [[v1_1],[v1_2],[v1_3]]),raw b1 (cat [[v0_1]])] ++ qL ([mkL 16 [] 1 (fun us=>[u33])] : Mk) D u) ∧ GOk ([([],fun us v=>v = u33),([],fun us v=>v = (vT r39)),([],fun us v=>v = (vT (!r39))),([],fun us v=>v = (vT (!r39))),([],fun us v=>v = (ptr b3 (0 + 2))),([],fun us v=>v = v1_3),([],fun us v=>v = (vI s22)),([],fun us v=>v = (ptr (sb v1_3) (so v1_3 + (s22).toNat * 1))),([],fun us v=>v = (vI x43)),([],fun us v=>v = (vT r46)),([],fun us v=>v = (vT (!r46))),([],fun us v=>v = (vT (!r46))),([],fun us v=>v = (vT (!r46))),([],fun us v=>v = (ptr b1 (0 + 0))),([],fun us v=>v = v0_1),([],fun us v=>v = u33),([],fun us v=>True),([],fun us v=>v = (Value.agg (enc r54).toArray)),([],fun us v=>v = (ptr b3 (0 + 0))),([],fun us v=>v = v1_1),([],fun us v=>v = (vI s22)),([],fun us v=>v = (ptr (sb v1_1) (so v1_1 + (s22).toNat * 32))),([],fun us v=>v = (Value.agg (enc x56).toArray))] : Gs) D u) hE (fun u=>⟨M.qE (M.q0 hM.drew u) emL,Ae⟩) (kh ?_ ?_ ?_ ?_ ?_ ?_ ?_ ?_ ?_ ?_ ?_ ?_ ?_ ?_ ?_ ?_ ?_ ?_ ?_ ?_ ?_ ?_ ?_) ?_
        ·intro a w ux38 D hE hI hD hdc hp
         have hM0:=hI.1
         exact Ze hE rfl fun a hE=>⟨_,_,rfl,hE,M.qKeep hM0 rfl,hI.2.put hD rfl ZN rfl⟩
        ·intro a w ux38 D hE hI hD hdc hp
         have d0 : D 0 = true:=hp 0 _ rfl rfl
         have g0:=hI.2 0 d0 _ rfl
         have f0 : ux38 0 = u33:=g0.2
         have hM0:=hI.1
         have hM:=hI.1
         refine Zv hE (ZU (ZR (lk rfl f0) Xf)) Zbb (Ko _ x27 u33 (hM.rdo h34) r39 e40) ?_
         rintro v w a ⟨rfl,hK⟩ hE
         exact ⟨_,_,rfl,hE,M.qKeep (hM0.keep hK) rfl,hI.2.put hD rfl ZN rfl⟩
        ·intro a w ux38 D hE hI hD hdc hp
         have d1 : D 1 = true:=hp 0 _ rfl rfl
         have g1:=hI.2 1 d1 _ rfl
         have f1 : ux38 1 = (vT r39):=g1.2
         have hM0:=hI.1
         exact YO hE (lk rfl f1) fun a hE=>⟨_,_,rfl,hE,M.qKeep hM0 rfl,hI.2.put hD rfl ZN rfl⟩
        ·intro a w ux38 D hE hI hD hdc hp
         have d2 : D 2 = true:=hp 0 _ rfl rfl
         have g2:=hI.2 2 d2 _ rfl
         have f2 : ux38 2 = (vT (!r39)):=g2.2
         have hM0:=hI.1
         exact Ze hE (lk rfl f2) fun a hE=>⟨_,_,rfl,hE,M.qKeep hM0 rfl,hI.2.put hD rfl ZN rfl⟩
        ·intro a w ux38 D hE hI hD hdc hp
         have d3 : D 3 = true:=hp 0 _ rfl rfl
         have g3:=hI.2 3 d3 _ rfl
         have f3 : ux38 3 = (vT (!r39)):=g3.2
         have hM0:=hI.1
         exact ZB hE (Zi hE rfl (lkb (lk rfl f3) hb41)) (by decide) rfl (QN) fun a hE=>⟨_,_,rfl,hE,M.qKeep hM0 rfl,hI.2.put hD rfl ZN rfl⟩
        ·intro a w ux38 D hE hI hD hdc hp
         have d3 : D 3 = true:=hp 1 _ rfl rfl
         have g3:=hI.2 3 d3 _ rfl
         have f3 : ux38 3 = (vT (!r39)):=g3.2
         have d4 : D 4 = true:=hp 0 _ rfl rfl
         have g4:=hI.2 4 d4 _ rfl
         have f4 : ux38 4 = (ptr b3 (0 + 2)):=g4.2
         have hM0:=hI.1
         have hM:=hI.1
         exact ZY (v:=v1_3) hE (Zi hE rfl (lkb (lk rfl f3) hb41)) (by decide) (lk rfl f4) JO rfl (At.cat (pre:=[[v1_1],[v1_2]]) hM.rawAt0 ck) fun a hE=>⟨_,_,rfl,hE,M.qKeep hM0 rfl,hI.2.put hD rfl ZN rfl⟩
        ·intro a w ux38 D hE hI hD hdc hp
         have d3 : D 3 = true:=hp 0 _ rfl rfl
         have g3:=hI.2 3 d3 _ rfl
         have f3 : ux38 3 = (vT (!r39)):=g3.2
         have hM0:=hI.1
         exact Y3 hE (Zi hE rfl (lkb (lk rfl f3) hb41)) (by decide) rfl fun a hE=>⟨_,_,rfl,hE,M.qKeep hM0 rfl,hI.2.put hD rfl ZN rfl⟩
        ·intro a w ux38 D hE hI hD hdc hp
         have d3 : D 3 = true:=hp 2 _ rfl rfl
         have g3:=hI.2 3 d3 _ rfl
         have f3 : ux38 3 = (vT (!r39)):=g3.2
         have d5 : D 5 = true:=hp 0 _ rfl rfl
         have g5:=hI.2 5 d5 _ rfl
         have f5 : ux38 5 = v1_3:=g5.2
         have d6 : D 6 = true:=hp 1 _ rfl rfl
         have g6:=hI.2 6 d6 _ rfl
         have f6 : ux38 6 = (vI s22):=g6.2
         have hM0:=hI.1
         have hM:=hI.1
         exact V3 hE (Zi hE rfl (lkb (lk rfl f3) hb41)) (by decide) (lk rfl f5) (lk rfl f6) Tryz.underlying42 ty2 (hM.rd hv1_3) hi45.1 fun a hE=>⟨_,_,rfl,hE,M.qKeep hM0 rfl,hI.2.put hD rfl ZN rfl⟩
        ·intro a w ux38 D hE hI hD hdc hp
         have d3 : D 3 = true:=hp 1 _ rfl rfl
         have g3:=hI.2 3 d3 _ rfl
         have f3 : ux38 3 = (vT (!r39)):=g3.2
         have d7 : D 7 = true:=hp 0 _ rfl rfl
         have g7:=hI.2 7 d7 _ rfl
         have f7 : ux38 7 = (ptr (sb v1_3) (so v1_3 + (s22).toNat * 1)):=g7.2
         have hM0:=hI.1
         have hM:=hI.1
         exact ZY (v:=(vI x43)) hE (Zi hE rfl (lkb (lk rfl f3) hb41)) (by decide) (lk rfl f7) ty2 rfl (Ys (hM.rd hv1_3) hi45.2) fun a hE=>⟨_,_,rfl,hE,M.qKeep hM0 rfl,hI.2.put hD rfl ZN rfl⟩
        ·intro a w ux38 D hE hI hD hdc hp
         have d3 : D 3 = true:=hp 1 _ rfl rfl
         have g3:=hI.2 3 d3 _ rfl
         have f3 : ux38 3 = (vT (!r39)):=g3.2
         have d8 : D 8 = true:=hp 0 _ rfl rfl
         have g8:=hI.2 8 d8 _ rfl
         have f8 : ux38 8 = (vI x43):=g8.2
         have hM0:=hI.1
         refine WL hE (Zi hE rfl (lkb (lk rfl f3) hb41)) (by decide) (ZU (ZR (lk rfl f8) (ZR rfl (ZR rfl Xf)))) HI (Yi _ x43 1 1000000 r46 e47) ?_
         rintro v w a ⟨rfl,hK⟩ hE
         exact ⟨_,_,rfl,hE,M.qKeep (hM0.keep hK) rfl,hI.2.put hD rfl ZN rfl⟩
        ·intro a w ux38 D hE hI hD hdc hp
         have d3 : D 3 = true:=hp 1 _ rfl rfl
         have g3:=hI.2 3 d3 _ rfl
         have f3 : ux38 3 = (vT (!r39)):=g3.2
         have d9 : D 9 = true:=hp 0 _ rfl rfl
         have g9:=hI.2 9 d9 _ rfl
         have f9 : ux38 9 = (vT r46):=g9.2
         have hM0:=hI.1
         exact Jt hE (Zi hE rfl (lkb (lk rfl f3) hb41)) (by decide) (lk rfl f9) fun a hE=>⟨_,_,rfl,hE,M.qKeep hM0 rfl,hI.2.put hD rfl ZN rfl⟩
        ·intro a w ux38 D hE hI hD hdc hp
         have d3 : D 3 = true:=hp 0 _ rfl rfl
         have g3:=hI.2 3 d3 _ rfl
         have f3 : ux38 3 = (vT (!r39)):=g3.2
         have d10 : D 10 = true:=hp 1 _ rfl rfl
         have g10:=hI.2 10 d10 _ rfl
         have f10 : ux38 10 = (vT (!r46)):=g10.2
         have hM0:=hI.1
         exact ZL hE (lkb (lk rfl f3) hb41) (lk rfl f10) fun a hE=>⟨_,_,rfl,hE,M.qKeep hM0 rfl,hI.2.put hD rfl ZN rfl⟩
        ·intro a w ux38 D hE hI hD hdc hp
         have d11 : D 11 = true:=hp 0 _ rfl rfl
         have g11:=hI.2 11 d11 _ rfl
         have f11 : ux38 11 = (vT (!r46)):=g11.2
         have hM0:=hI.1
         exact Ze hE (lk rfl f11) fun a hE=>⟨_,_,rfl,hE,M.qKeep hM0 rfl,hI.2.put hD rfl ZN rfl⟩
        ·intro a w ux38 D hE hI hD hdc hp
         have d12 : D 12 = true:=hp 0 _ rfl rfl
         have g12:=hI.2 12 d12 _ rfl
         have f12 : ux38 12 = (vT (!r46)):=g12.2
         have hM0:=hI.1
         exact ZB hE (Zi hE rfl (lkb (lk rfl f12) hb48)) (by decide) rfl (Zdj) fun a hE=>⟨_,_,rfl,hE,M.qKeep hM0 rfl,hI.2.put hD rfl ZN rfl⟩
        ·intro a w ux38 D hE hI hD hdc hp
         have d12 : D 12 = true:=hp 1 _ rfl rfl
         have g12:=hI.2 12 d12 _ rfl
         have f12 : ux38 12 = (vT (!r46)):=g12.2
         have d13 : D 13 = true:=hp 0 _ rfl rfl
         have g13:=hI.2 13 d13 _ rfl
         have f13 : ux38 13 = (ptr b1 (0 + 0)):=g13.2
         have hM0:=hI.1
         have hM:=hI.1
         exact ZY (v:=v0_1) hE (Zi hE rfl (lkb (lk rfl f12) hb48)) (by decide) (lk rfl f13) ty90 rfl (At.cat (pre:=[]) hM.rawAt1 cl0) fun a hE=>⟨_,_,rfl,hE,M.qKeep hM0 rfl,hI.2.put hD rfl ZN rfl⟩
        ·intro a w ux38 D hE hI hD hdc hp
         have d12 : D 12 = true:=hp 0 _ rfl rfl
         have g12:=hI.2 12 d12 _ rfl
         have f12 : ux38 12 = (vT (!r46)):=g12.2
         have hM0:=hI.1
         exact Y3 hE (Zi hE rfl (lkb (lk rfl f12) hb48)) (by decide) rfl fun a hE=>⟨_,_,rfl,hE,M.qKeep hM0 rfl,hI.2.put hD rfl ZN rfl⟩
        ·intro a w ux38 D hE hI hD hdc hp
         have d12 : D 12 = true:=hp 1 _ rfl rfl
         have g12:=hI.2 12 d12 _ rfl
         have f12 : ux38 12 = (vT (!r46)):=g12.2
         have d15 : D 15 = true:=hp 0 _ rfl rfl
         have g15:=hI.2 15 d15 _ rfl
         have f15 : ux38 15 = u33:=g15.2
         have hM0:=hI.1
         have hM:=hI.1
         exact zE (xs:=[.tmp 58]) (vs:=[u33]) hE hM (Zi hE rfl (lkb (lk rfl f12) hb48)) (by decide) (ZU (ZR (lk rfl f15) Xf)) rfl Tryz.underlying41 XB (by decide) (yX (Vq (hM.rd h34)) Zbq) fun b50 w a hM hE=>⟨_,_,rfl,hE,M.litFill (its:=[raw b3 (cat [[v1_1],[v1_2],[v1_3]]),raw b1 (cat [[v0_1]])]) (mk:=([] : Mk)) (i:=16) (ds:=[]) (m:=1) (f:=(fun us=>[u33])) hM rfl hD (by decide),hI.2.put hD rfl ZN trivial⟩
        ·intro a w ux38 D hE hI hD hdc hp
         have d12 : D 12 = true:=hp 2 _ rfl rfl
         have g12:=hI.2 12 d12 _ rfl
         have f12 : ux38 12 = (vT (!r46)):=g12.2
         have d14 : D 14 = true:=hp 0 _ rfl rfl
         have g14:=hI.2 14 d14 _ rfl
         have f14 : ux38 14 = v0_1:=g14.2
         have d16 : D 16 = true:=hp 1 _ rfl rfl
         have g16:=hI.2 16 d16 _ rfl
         have hM0:=hI.1
         have hM:=(hI.1.sure (pre:=[_,_]) d16).pull
         obtain ⟨b52,f53,hM⟩:=M.litOpen hM
         refine WL hE (Zi hE rfl (lkb (lk rfl f12) hb48)) (by decide) (ZU (ZR (lk rfl f14) (ZR (lk rfl f53) Xf))) (cbm Tryz.func112) (Je _ p0.engine v0_1 (hM.rdo hv0_1) ([x27] : (List (List UInt8))) (Value.slice (some ⟨b52,0,none⟩) 1 1) (Zbn hM.rawAt0 (hM.rawLt (pre:=[])) ⟨(hM.rdo h34),trivial⟩ rfl) r54 e55) ?_
         rintro v w a ⟨rfl,hK⟩ hE
         exact ⟨_,_,rfl,hE,M.qKeep (hM0.keep hK) rfl,hI.2.put hD rfl ZN rfl⟩
        ·intro a w ux38 D hE hI hD hdc hp
         have d12 : D 12 = true:=hp 0 _ rfl rfl
         have g12:=hI.2 12 d12 _ rfl
         have f12 : ux38 12 = (vT (!r46)):=g12.2
         have hM0:=hI.1
         exact ZB hE (Zi hE rfl (lkb (lk rfl f12) hb48)) (by decide) rfl (Q3) fun a hE=>⟨_,_,rfl,hE,M.qKeep hM0 rfl,hI.2.put hD rfl ZN rfl⟩
        ·intro a w ux38 D hE hI hD hdc hp
         have d12 : D 12 = true:=hp 1 _ rfl rfl
         have g12:=hI.2 12 d12 _ rfl
         have f12 : ux38 12 = (vT (!r46)):=g12.2
         have d18 : D 18 = true:=hp 0 _ rfl rfl
         have g18:=hI.2 18 d18 _ rfl
         have f18 : ux38 18 = (ptr b3 (0 + 0)):=g18.2
         have hM0:=hI.1
         have hM:=hI.1
         exact ZY (v:=v1_1) hE (Zi hE rfl (lkb (lk rfl f12) hb48)) (by decide) (lk rfl f18) BR rfl (At.cat (pre:=[]) hM.rawAt0 cl0) fun a hE=>⟨_,_,rfl,hE,M.qKeep hM0 rfl,hI.2.put hD rfl ZN rfl⟩
        ·intro a w ux38 D hE hI hD hdc hp
         have d12 : D 12 = true:=hp 0 _ rfl rfl
         have g12:=hI.2 12 d12 _ rfl
         have f12 : ux38 12 = (vT (!r46)):=g12.2
         have hM0:=hI.1
         exact Y3 hE (Zi hE rfl (lkb (lk rfl f12) hb48)) (by decide) rfl fun a hE=>⟨_,_,rfl,hE,M.qKeep hM0 rfl,hI.2.put hD rfl ZN rfl⟩
        ·intro a w ux38 D hE hI hD hdc hp
         have d12 : D 12 = true:=hp 2 _ rfl rfl
         have g12:=hI.2 12 d12 _ rfl
         have f12 : ux38 12 = (vT (!r46)):=g12.2
         have d19 : D 19 = true:=hp 0 _ rfl rfl
         have g19:=hI.2 19 d19 _ rfl
         have f19 : ux38 19 = v1_1:=g19.2
         have d20 : D 20 = true:=hp 1 _ rfl rfl
         have g20:=hI.2 20 d20 _ rfl
         have f20 : ux38 20 = (vI s22):=g20.2
         have hM0:=hI.1
         have hM:=hI.1
         exact V3 hE (Zi hE rfl (lkb (lk rfl f12) hb48)) (by decide) (lk rfl f19) (lk rfl f20) Tryz.underlying40 Yr (hM.rd hv1_1) hi58.1 fun a hE=>⟨_,_,rfl,hE,M.qKeep hM0 rfl,hI.2.put hD rfl ZN rfl⟩
        ·intro a w ux38 D hE hI hD hdc hp
         have d12 : D 12 = true:=hp 1 _ rfl rfl
         have g12:=hI.2 12 d12 _ rfl
         have f12 : ux38 12 = (vT (!r46)):=g12.2
         have d21 : D 21 = true:=hp 0 _ rfl rfl
         have g21:=hI.2 21 d21 _ rfl
         have f21 : ux38 21 = (ptr (sb v1_1) (so v1_1 + (s22).toNat * 32)):=g21.2
         have hM0:=hI.1
         have hM:=hI.1
         exact TY hE (Zi hE rfl (lkb (lk rfl f12) hb48)) (by decide) (lk rfl f21) Yr rfl (Ys (hM.rd hv1_1) hi58.2) (Flat.len _) fun a hE=>⟨_,_,rfl,hE,M.qKeep hM0 rfl,hI.2.put hD rfl ZN rfl⟩
        ·intro a w ux38 D hE hI hall
         have hM:=hI.1
         have d0:=hall 0 (by decide)
         have d1:=hall 1 (by decide)
         have d2:=hall 2 (by decide)
         have d3:=hall 3 (by decide)
         have d4:=hall 4 (by decide)
         have d5:=hall 5 (by decide)
         have d6:=hall 6 (by decide)
         have d7:=hall 7 (by decide)
         have d8:=hall 8 (by decide)
         have d9:=hall 9 (by decide)
         have d10:=hall 10 (by decide)
         have d11:=hall 11 (by decide)
         have d12:=hall 12 (by decide)
         have d13:=hall 13 (by decide)
         have d14:=hall 14 (by decide)
         have d15:=hall 15 (by decide)
         have d16:=hall 16 (by decide)
         have d17:=hall 17 (by decide)
         have d18:=hall 18 (by decide)
         have d19:=hall 19 (by decide)
         have d20:=hall 20 (by decide)
         have d21:=hall 21 (by decide)
         have d22:=hall 22 (by decide)
         have f0 : ux38 0 = u33:=(hI.2 0 d0 _ rfl).2
         have f1 : ux38 1 = (vT r39):=(hI.2 1 d1 _ rfl).2
         have f2 : ux38 2 = (vT (!r39)):=(hI.2 2 d2 _ rfl).2
         have f3 : ux38 3 = (vT (!r39)):=(hI.2 3 d3 _ rfl).2
         have f4 : ux38 4 = (ptr b3 (0 + 2)):=(hI.2 4 d4 _ rfl).2
         have f5 : ux38 5 = v1_3:=(hI.2 5 d5 _ rfl).2
         have f6 : ux38 6 = (vI s22):=(hI.2 6 d6 _ rfl).2
         have f7 : ux38 7 = (ptr (sb v1_3) (so v1_3 + (s22).toNat * 1)):=(hI.2 7 d7 _ rfl).2
         have f8 : ux38 8 = (vI x43):=(hI.2 8 d8 _ rfl).2
         have f9 : ux38 9 = (vT r46):=(hI.2 9 d9 _ rfl).2
         have f10 : ux38 10 = (vT (!r46)):=(hI.2 10 d10 _ rfl).2
         have f11 : ux38 11 = (vT (!r46)):=(hI.2 11 d11 _ rfl).2
         have f12 : ux38 12 = (vT (!r46)):=(hI.2 12 d12 _ rfl).2
         have f13 : ux38 13 = (ptr b1 (0 + 0)):=(hI.2 13 d13 _ rfl).2
         have f14 : ux38 14 = v0_1:=(hI.2 14 d14 _ rfl).2
         have f15 : ux38 15 = u33:=(hI.2 15 d15 _ rfl).2
         have f17 : ux38 17 = (Value.agg (enc r54).toArray):=(hI.2 17 d17 _ rfl).2
         have f18 : ux38 18 = (ptr b3 (0 + 0)):=(hI.2 18 d18 _ rfl).2
         have f19 : ux38 19 = v1_1:=(hI.2 19 d19 _ rfl).2
         have f20 : ux38 20 = (vI s22):=(hI.2 20 d20 _ rfl).2
         have f21 : ux38 21 = (ptr (sb v1_1) (so v1_1 + (s22).toNat * 32)):=(hI.2 21 d21 _ rfl).2
         have f22 : ux38 22 = (Value.agg (enc x56).toArray):=(hI.2 22 d22 _ rfl).2
         have hM:=(hM.sure (pre:=[_,_]) d16).pull
         obtain ⟨b59,f60,hM⟩:=M.litOpen hM
         have hE:=hE.sub (e':=[(55,(vT (!r46))),(59,(Value.slice (some ⟨b59,0,none⟩) 1 1)),(60,(Value.agg (enc r54).toArray)),(65,(Value.agg (enc x56).toArray)),(2,(ptr b1 0)),(3,(ptr b3 0)),(5,vI s22),(6,u33),(36,v1_2),(37,(vI (p1.Data.length : Int))),(38,vI s22),(39,(vT (decide (s22 < (p1.Data.length : Int))))),(40,vI s22),(41,(ptr (sb v1_2) (so v1_2 + (s22).toNat * 1))),(42,u33)]) ⟨lk rfl f12,lk rfl f60,lk rfl f17,lk rfl f22,rfl,rfl,rfl,rfl,rfl,rfl,rfl,rfl,rfl,rfl,rfl,trivial⟩
         refine s_neA hE (Zi hE rfl (lkb rfl hb48)) (by decide) rfl rfl (ji Tryz.underlying37 ty5 rfl false rfl (by decide) (z9 Tryz.underlying5)) (by decide) (by kernel_rfl) fun a hE=>ZL hE (lkb rfl hb48) rfl fun a hE=>Zj ?_
         obtain rfl:=Option.some.inj hl36
         refine Zl ?_
         have hM:=M.fst (l:=[_,_]) hM.pull2.pull2
         exact ⟨hE.sub ⟨rfl,rfl,rfl,rfl,rfl,rfl,trivial⟩,hM⟩
     ·skip
      rintro a w ⟨hE,hM⟩
      refine Zq hE rfl ?_ ?_
      ·intro hb62
       have hF37:=Zu hF37 hb62
       refine Za (Zb hE rfl fun a hE=>Zf ?_)
       obtain rfl:=hx24 _ (ois hF37)
       obtain rfl:=Option.some.inj hF20
       exact wp_ret (Z4 (Zs (Zs (Z4 (Zs (Zs (kr1 hE rfl rfl hM.kept)))))))
      ·intro hb62
       have hF37:=Zt hF37 hb62
       refine wp_skip (Z0 (Zy (wp_region_lit (Zk hE rfl rfl rfl fun a hE=>Ze hE rfl fun a hE=>Zj (Zl ?_)))))
       exact ⟨_,(ois hF37),hE.sub ⟨rfl,rfl,rfl,rfl,rfl,trivial⟩,hM⟩
    ·intro hb26
     have hs23:=Zt hs23 hb26
     refine wp_exit (Zp (Zp (Z1 ?_)))
     obtain rfl:=hx24 _ (ois hs23)
     refine Zl ?_
     have hM:=M.fst (l:=[]) hM
     exact ⟨(),rfl,hE.sub trivial,hM⟩
   ·skip
    rintro a w ⟨s21,ht,hE,hM⟩
    subst ht
    have hF20:=X7 hF20
    refine Zy (Za (Zb hE rfl fun a hE=>Zf ?_))
    obtain rfl:=Option.some.inj hF20
    exact wp_ret (kr1 hE rfl rfl hM.kept)
def UW (p0 : GBlobs) : Option (Bool) :=
 ((Tx).bind fun r7=>(XE r7 p0).bind fun r12=>some r12 : Option (Bool)).bind fun j3=>some j3
theorem A9 (w0 : World) (p0 : GBlobs) (v0_1 : Value) (hv0_1 : Ro w0 p0.Keys [v0_1]) (v0_2 : Value) (hv0_2 : Ro w0 p0.Data [v0_2]) (v0_3 : Value) (hv0_3 : Ro w0 p0.Counts [v0_3]) (r : Bool) (hF : UW p0 = some r) :
  Calls Tryz.prog 41 [(Value.agg (cat [[v0_1],[v0_2],[v0_3]]).toArray)].toArray w0 (Rt w0 (vT r)):=by
 refine ce Tryz.func41 ?_
 intro a hE
 have hM:=M.start w0
 unfold UW at hF
 refine Za (ZM (cs:=cat [[v0_1],[v0_2],[v0_3]]) hE hM Zd ld rfl rfl fun b1 w a hM hE=>Zb hE rfl fun a hE=>Zf ?_)
 obtain ⟨j3,hl4,hF5⟩:=bind_some hF
 refine ZI (fun a w=>Env 6 a [(2,vT j3)] ∧ M (Old w0) w0 w []) ?_ ?_
 ·skip
  obtain ⟨r7,e8,hl4⟩:=bind_some hl4
  refine Aq (n:=6) (hd:=[_,_]) (tl:=[_,_]) (its:=[raw b1 (cat [[v0_1],[v0_2],[v0_3]])]) Yx rfl rfl [3,4] (by decide) [(0,fun v=>own NoB r7 (Value.cells v).toList)] rfl (fun j=>([fun v=>∃ cs,v = .agg cs,fun v=>v = (Value.agg (cat [[v0_1],[v0_2],[v0_3]]).toArray)] : List (Value → Prop)).getD j (fun _=>True)) hE hM.drew (st2 ?_ ?_) ?_
  ·intro a w ux6 D hE hM hD hp
   have hM0:=hM
   have hM : M (Old w0) w0 w [raw b1 (cat [[v0_1],[v0_2],[v0_3]]),opt (D 0) (own NoB r7 (Value.cells (ux6 0)).toList)]:=hM
   refine Zv hE rfl (cbm Tryz.func103) (HY _  r7 e8) ?_
   rintro _ w a ⟨u9,rfl,hFr,hK⟩ hE
   have hM:=hM0.add hK hFr
   have hM:=hM.packL (m:=[own NoB (r7.engine : (Ref Gengine)) [u9]]) (it:=own NoB r7 (cat [[u9]])) (Vo noB) (fun fp h=>by obtain ⟨_,_,rfl,_,s1,rfl⟩:=h; exact kD s1 (by simp))
   exact ⟨_,_,rfl,hE,⟨_,rfl⟩,M.optFill (mk1:=[]) (mk2:=[]) (f:=(fun v=>own NoB r7 (Value.cells v).toList)) hM rfl hD⟩
  ·intro a w ux6 D hE hM hD hp
   have hM0:=hM
   have hM : M (Old w0) w0 w [raw b1 (cat [[v0_1],[v0_2],[v0_3]]),opt (D 0) (own NoB r7 (Value.cells (ux6 0)).toList)]:=hM
   exact Zn hE rfl Hc rfl hM.rawAt0 cq fun a hE=>⟨_,_,rfl,hE,rfl,hM0.optKeep rfl⟩
  ·intro a w ux6 hE hM hg
   have hM : M (Old w0) w0 w [raw b1 (cat [[v0_1],[v0_2],[v0_3]]),own NoB r7 (Value.cells (ux6 0)).toList]:=hM
   obtain ⟨q0_1,hcz,hq0_1⟩:=kJ (hM.ro (pre:=[_]) noB)
   obtain ⟨cz,hvz⟩:=hg 0 (by decide)
   have f0 : ux6 0 = (Value.agg (cat [[q0_1]]).toArray):=by rw [hvz] at hcz ⊢; exact congrArg Value.agg (HT hcz)
   have hM:=hM.pull1
   rw [f0] at hM
   have hM:=hM.unpackL (m:=[own NoB (r7.engine : (Ref Gengine)) [q0_1]]) (fun fp h=>by obtain ⟨_,rfl,s1⟩:=jd h; exact XS.one (Vo noB) s1)
   simp only [List.cons_append,List.nil_append] at hM
   have hE:=hE.sub (e':=[(3,(Value.agg (cat [[q0_1]]).toArray)),(4,(Value.agg (cat [[v0_1],[v0_2],[v0_3]]).toArray)),(2,vT false)]) ⟨lk rfl f0,lk rfl (hg 1 (by decide)),rfl,trivial⟩
   obtain ⟨r12,e13,hl4⟩:=bind_some hl4
   refine Zv hE rfl (cbm Tryz.func104) (K4 _ r7 q0_1 (hM.ro (pre:=[]) noB) p0 v0_1 (hM.rdo hv0_1) v0_2 (hM.rdo hv0_2) v0_3 (hM.rdo hv0_3) r12 e13) ?_
   rintro v w a ⟨rfl,hK⟩ hE
   have hM:=hM.keep hK
   refine Zb hE rfl fun a hE=>Zj ?_
   obtain rfl:=Option.some.inj hl4
   refine Zl ?_
   have hM:=M.fst (l:=[]) hM
   exact ⟨hE.sub ⟨rfl,trivial⟩,hM⟩
 ·skip
  rintro a w ⟨hE,hM⟩
  obtain rfl:=Option.some.inj hF5
  exact wp_ret (kr1 hE rfl rfl hM.kept)
def TM (p0 : GDesk) : Option (Bool) :=
 ((V5 p0.Cipher).bind fun r6=>if r6 = true then (if (decide ((p0.Data.length : Int) ≤ 200)) = true then ((UQ p0.Vault).bind fun r10=>if r10 = true then ((UW p0.Blobs).bind fun r13=>some r13) else (some false)) else (some false)) else (some false) : Option (Bool)).bind fun j3=>some j3
theorem zM (w0 : World) (p0 : GDesk) (v0_1 : Value) (hv0_1 : Ro w0 p0.Data [v0_1]) (v0_2 : Value) (hv0_2 : Ro w0 p0.Vault.Keys [v0_2]) (v0_3 : Value) (hv0_3 : Ro w0 p0.Vault.Records [v0_3]) (v0_4 : Value) (hv0_4 : Ro w0 p0.Vault.Events [v0_4]) (v0_5 : Value) (hv0_5 : Ro w0 p0.Blobs.Keys [v0_5]) (v0_6 : Value) (hv0_6 : Ro w0 p0.Blobs.Data [v0_6]) (v0_7 : Value) (hv0_7 : Ro w0 p0.Blobs.Counts [v0_7]) (r : Bool) (hF : TM p0 = some r) :
  Calls Tryz.prog 13 [(Value.agg (cat [cat [[vI p0.Cipher.Field],enc p0.Cipher.Box,enc p0.Cipher.Mix,enc p0.Cipher.Places,[vI p0.Cipher.Rounds]],enc p0.Key,enc p0.Start,[v0_1],cat [[v0_2],[vI p0.Vault.Next],[v0_3],[v0_4],enc p0.Vault.Head],cat [[v0_5],[v0_6],[v0_7]]]).toArray)].toArray w0 (Rt w0 (vT r)):=by
 refine ce Tryz.func13 ?_
 intro a hE
 have hM:=M.start w0
 unfold TM at hF
 refine Za (ZM (cs:=cat [cat [[vI p0.Cipher.Field],enc p0.Cipher.Box,enc p0.Cipher.Mix,enc p0.Cipher.Places,[vI p0.Cipher.Rounds]],enc p0.Key,enc p0.Start,[v0_1],cat [[v0_2],[vI p0.Vault.Next],[v0_3],[v0_4],enc p0.Vault.Head],cat [[v0_5],[v0_6],[v0_7]]]) hE hM Zd ld rfl rfl fun b1 w a hM hE=>Zb hE rfl fun a hE=>Zf ?_)
 obtain ⟨j3,hl4,hF5⟩:=bind_some hF
 refine ZI (fun a w=>Env 22 a [(2,vT j3)] ∧ M (Old w0) w0 w []) ?_ ?_
 ·skip
  refine wp_region_lit (Zg hE rfl (zi) fun a hE=>Zn hE rfl Te rfl (At.cat (pre:=[]) hM.rawAt0 cl0) cq ?_); intro a hE
  obtain ⟨r6,e7,hl4⟩:=bind_some hl4
  refine Zv hE rfl (cbm Tryz.func39) (Ah _ p0.Cipher r6 e7) ?_
  rintro v w a ⟨rfl,hK⟩ hE
  have hM:=hM.keep hK
  refine Ze hE rfl ?_; intro a hE
  refine Yb r6 (fun hb8=>?_) (fun hb8=>?_)
  ·have hl4:=Zu hl4 hb8
   refine ZB hE (Zi hE rfl (lkb rfl hb8)) (by decide) rfl (zn) fun a hE=>ZY (v:=v0_1) hE (Zi hE rfl (lkb rfl hb8)) (by decide) rfl XB rfl (At.cat (pre:=[cat [[vI p0.Cipher.Field],enc p0.Cipher.Box,enc p0.Cipher.Mix,enc p0.Cipher.Places,[vI p0.Cipher.Rounds]],enc p0.Key,enc p0.Start]) hM.rawAt0 ck) fun a hE=>TQ hE (Zi hE rfl (lkb rfl hb8)) (by decide) rfl Tryz.underlying32 (hM.rd hv0_1) fun a hE=>Wa hE (Zi hE rfl (lkb rfl hb8)) (by decide) rfl rfl rfl fun a hE=>ZG hE (lkb rfl hb8) rfl fun a hE=>Ze hE rfl ?_; intro a hE
   refine Yb (decide ((p0.Data.length : Int) ≤ 200)) (fun hb9=>?_) (fun hb9=>?_)
   ·have hl4:=Zu hl4 hb9
    refine ZB hE (Zi hE rfl (lkb rfl hb9)) (by decide) rfl (zA) fun a hE=>TY hE (Zi hE rfl (lkb rfl hb9)) (by decide) rfl K9 rfl (At.cat (pre:=[cat [[vI p0.Cipher.Field],enc p0.Cipher.Box,enc p0.Cipher.Mix,enc p0.Cipher.Places,[vI p0.Cipher.Rounds]],enc p0.Key,enc p0.Start,[v0_1]]) hM.rawAt0 ck) cq ?_; intro a hE
    obtain ⟨r10,e11,hl4⟩:=bind_some hl4
    refine WL hE (Zi hE rfl (lkb rfl hb9)) (by decide) rfl (cbm Tryz.func40) (zj _ p0.Vault v0_2 (hM.rdo hv0_2) v0_3 (hM.rdo hv0_3) v0_4 (hM.rdo hv0_4) r10 e11) ?_
    rintro v w a ⟨rfl,hK⟩ hE
    have hM:=hM.keep hK
    refine ZG hE (lkb rfl hb9) rfl fun a hE=>Ze hE rfl ?_; intro a hE
    refine Yb r10 (fun hb12=>?_) (fun hb12=>?_)
    ·have hl4:=Zu hl4 hb12
     refine ZB hE (Zi hE rfl (lkb rfl hb12)) (by decide) rfl (AB) fun a hE=>TY hE (Zi hE rfl (lkb rfl hb12)) (by decide) rfl Hc rfl (At.cat (pre:=[cat [[vI p0.Cipher.Field],enc p0.Cipher.Box,enc p0.Cipher.Mix,enc p0.Cipher.Places,[vI p0.Cipher.Rounds]],enc p0.Key,enc p0.Start,[v0_1],cat [[v0_2],[vI p0.Vault.Next],[v0_3],[v0_4],enc p0.Vault.Head]]) hM.rawAt0 ck) cq ?_; intro a hE
     obtain ⟨r13,e14,hl4⟩:=bind_some hl4
     refine WL hE (Zi hE rfl (lkb rfl hb12)) (by decide) rfl (cbm Tryz.func41) (A9 _ p0.Blobs v0_5 (hM.rdo hv0_5) v0_6 (hM.rdo hv0_6) v0_7 (hM.rdo hv0_7) r13 e14) ?_
     rintro v w a ⟨rfl,hK⟩ hE
     have hM:=hM.keep hK
     refine ZG hE (lkb rfl hb12) rfl fun a hE=>Zb hE rfl fun a hE=>Zj ?_
     obtain rfl:=Option.some.inj hl4
     refine Zl ?_
     have hM:=M.fst (l:=[]) hM
     exact ⟨hE.sub ⟨rfl,trivial⟩,hM⟩
    ·have hl4:=Zt hl4 hb12
     refine Zh hE rfl (lkb rfl hb12) rfl (by decide) fun a hE=>Zh hE rfl (lkb rfl hb12) rfl (by decide) fun a hE=>Zh hE rfl (lkb rfl hb12) rfl (by decide) fun a hE=>ZL hE (lkb rfl hb12) rfl fun a hE=>Zb hE rfl fun a hE=>Zj ?_
     obtain rfl:=Option.some.inj hl4
     refine Zl ?_
     have hM:=M.fst (l:=[]) hM
     exact ⟨hE.sub ⟨rfl,trivial⟩,hM⟩
   ·have hl4:=Zt hl4 hb9
    refine Zh hE rfl (lkb rfl hb9) rfl (by decide) fun a hE=>Zh hE rfl (lkb rfl hb9) rfl (by decide) fun a hE=>Zh hE rfl (lkb rfl hb9) rfl (by decide) fun a hE=>ZL hE (lkb rfl hb9) rfl fun a hE=>Ze hE rfl fun a hE=>Zh hE rfl rfl rfl (by decide) fun a hE=>Zh hE rfl rfl rfl (by decide) fun a hE=>Zh hE rfl rfl rfl (by decide) fun a hE=>ZL hE rfl rfl fun a hE=>Zb hE rfl fun a hE=>Zj ?_
    obtain rfl:=Option.some.inj hl4
    refine Zl ?_
    have hM:=M.fst (l:=[]) hM
    exact ⟨hE.sub ⟨rfl,trivial⟩,hM⟩
  ·have hl4:=Zt hl4 hb8
   refine Zh hE rfl (lkb rfl hb8) rfl (by decide) fun a hE=>Zh hE rfl (lkb rfl hb8) rfl (by decide) fun a hE=>Zh hE rfl (lkb rfl hb8) rfl (by decide) fun a hE=>Zh hE rfl (lkb rfl hb8) rfl (by decide) fun a hE=>ZL hE (lkb rfl hb8) rfl fun a hE=>Ze hE rfl fun a hE=>Zh hE rfl rfl rfl (by decide) fun a hE=>Zh hE rfl rfl rfl (by decide) fun a hE=>Zh hE rfl rfl rfl (by decide) fun a hE=>ZL hE rfl rfl fun a hE=>Ze hE rfl fun a hE=>Zh hE rfl rfl rfl (by decide) ?_; intro a hE
   refine Zh hE rfl rfl rfl (by decide) fun a hE=>Zh hE rfl rfl rfl (by decide) fun a hE=>ZL hE rfl rfl fun a hE=>Zb hE rfl fun a hE=>Zj ?_
   obtain rfl:=Option.some.inj hl4
   refine Zl ?_
   have hM:=M.fst (l:=[]) hM
   exact ⟨hE.sub ⟨rfl,trivial⟩,hM⟩
 ·skip
  rintro a w ⟨hE,hM⟩
  obtain rfl:=Option.some.inj hF5
  exact wp_ret (kr1 hE rfl rfl hM.kept)
def QG (p0 : (Vector UInt8 256)) (p1 : (Vector UInt8 256)) (s9 : Int) : Option (Fl Int (Fl Unit Bool)) :=
 if (decide (s9 < 256)) = true then (((ZC p0 s9).bind fun x19=>(ZC p1 s9).bind fun x22=>some (x19 != x22) : Option (Bool)).bind fun j14=>if j14 = true then (some (Fl.ex (Fl.ex false))) else (some (Fl.nx (wr (s9 + 1))))) else (some (Fl.ex (Fl.nx ())))
def Qk (p0 : (Vector UInt8 256)) (p1 : (Vector UInt8 256)) : Option (Bool) :=
 (ZD (QG p0 p1) 0).bind fun j5=>j5.el (fun s8=>some true) (fun r=>some r)
theorem yq (w0 : World) (p0 : (Vector UInt8 256)) (p1 : (Vector UInt8 256)) (r : Bool) (hF : Qk p0 p1 = some r) :
  Calls Tryz.prog 48 [(Value.agg (enc p0).toArray),(Value.agg (enc p1).toArray)].toArray w0 (Rt w0 (vT r)):=by
 refine ce Tryz.func48 ?_
 intro a hE
 have hM:=M.start w0
 unfold Qk at hF
 refine Za (ZM (cs:=enc p0) hE hM Zd ld rfl rfl fun b1 w a hM hE=>ZM (cs:=enc p1) hE hM Zd ld rfl rfl fun b3 w a hM hE=>Zb hE rfl fun a hE=>Zf (wp_seq (Za (Zb hE rfl fun a hE=>Zf ?_))))
 obtain ⟨j5,hl6,hF7⟩:=bind_some hF
 refine ZJ (fun a w=>∃ s8 : Unit,j5 = Fl.nx s8 ∧ Env 17 a [] ∧ M (Old w0) w0 w []) ?_ ?_
 ·skip
  refine wp_block ?_
  refine ZE (fun (s9 : Int) a w=>Env 17 a [(2,(ptr b1 0)),(3,(ptr b3 0)),(5,vI s9)] ∧ M (Old w0) w0 w [raw b3 (enc p1),raw b1 (enc p0)]) hl6 ⟨hE.sub ⟨rfl,rfl,rfl,trivial⟩,hM⟩ ?_
  rintro s9 a w ⟨hE,hM⟩ o12 hs10 hx11
  unfold QG at hs10
  refine wp_seq (Za (Ze hE rfl fun a hE=>Zk hE rfl rfl rfl fun a hE=>Zf ?_))
  refine Zq hE rfl ?_ ?_
  ·intro hb13
   have hs10:=Zu hs10 hb13
   refine wp_skip (Zy (wp_seq (wp_block ?_)))
   obtain ⟨j14,hl15,hF16⟩:=bind_some hs10
   refine ZI (fun a w=>Env 17 a [(2,(ptr b1 0)),(3,(ptr b3 0)),(5,vI s9),(16,vT j14)] ∧ M (Old w0) w0 w [raw b3 (enc p1),raw b1 (enc p0)]) ?_ ?_
   ·skip
    obtain ⟨x19,hi18,hl15⟩:=bvx hl15
    obtain ⟨x22,hi21,hl15⟩:=bvx hl15
    refine ZX (n:=17) (hd:=[_,_,_,_,_,_,_]) (tl:=[]) Yx rfl rfl [10,11,12,13,14,15,16] (by decide) (fun w=>M (Old w0) w0 w [raw b3 (enc p1),raw b1 (enc p0)]) (fun j=>([fun v _=>v = (vI s9),fun v _=>v = (ptr b1 (0 + (s9).toNat * 1)),fun v _=>v = (vB x19),fun v _=>v = (vI s9),fun v _=>v = (ptr b3 (0 + (s9).toNat * 1)),fun v _=>v = (vB x22),fun v _=>v = (vT (x19 != x22))] : List (Value → World → Prop)).getD j (fun _ _=>True)) (fun _ _ h hk=>h.keep hk) (gup gu7) hE hM.drew (st7 ?_ ?_ ?_ ?_ ?_ ?_ ?_) ?_
    ·exact qm
    ·intro a w ux17 hE hM hp
     have f0 : ux17 0 = (vI s9):=hp 0 _ rfl rfl
     exact Zm hE rfl (lk rfl f0) Tryz.underlying23 ty5 hi18.1 fun a hE=>kq rfl hE rfl
    ·intro a w ux17 hE hM hp
     have f1 : ux17 1 = (ptr b1 (0 + (s9).toNat * 1)):=hp 0 _ rfl rfl
     exact Zx (v:=(vB x19)) hE (lk rfl f1) ty5 rfl (At.vec hM.rawAt1 hi18.2) fun a hE=>kq rfl hE rfl
    ·exact qm
    ·intro a w ux17 hE hM hp
     have f3 : ux17 3 = (vI s9):=hp 0 _ rfl rfl
     exact Zm hE rfl (lk rfl f3) Tryz.underlying23 ty5 hi21.1 fun a hE=>kq rfl hE rfl
    ·intro a w ux17 hE hM hp
     have f4 : ux17 4 = (ptr b3 (0 + (s9).toNat * 1)):=hp 0 _ rfl rfl
     exact Zx (v:=(vB x22)) hE (lk rfl f4) ty5 rfl (At.vec hM.rawAt0 hi21.2) fun a hE=>kq rfl hE rfl
    ·intro a w ux17 hE hM hp
     have f2 : ux17 2 = (vB x19):=hp 0 _ rfl rfl
     have f5 : ux17 5 = (vB x22):=hp 1 _ rfl rfl
     exact Zk hE (lk rfl f2) (lk rfl f5) (Kq x19 x22) fun a hE=>kq rfl hE rfl
    ·intro a w ux17 hE hM hg
     have hE:=hE.sub (e':=[(16,(vT (x19 != x22))),(2,(ptr b1 0)),(3,(ptr b3 0)),(5,vI s9),(6,vI s9),(7,(vT (decide (s9 < 256))))]) ⟨lk rfl (hg 6 (by decide)),rfl,rfl,rfl,rfl,rfl,trivial⟩
     refine Zj ?_
     obtain rfl:=Option.some.inj hl15
     refine Zl ?_
     exact ⟨hE.sub ⟨rfl,rfl,rfl,rfl,trivial⟩,hM⟩
   ·skip
    rintro a w ⟨hE,hM⟩
    refine Zq hE rfl ?_ ?_
    ·intro hb25
     have hF16:=Zu hF16 hb25
     refine Za (Zb hE rfl fun a hE=>Zf ?_)
     obtain rfl:=hx11 _ (ois hF16)
     obtain rfl:=Option.some.inj hF7
     exact wp_ret (Z4 (Zs (Zs (Z4 (Zs (Zs (kr1 hE rfl rfl hM.kept)))))))
    ·intro hb25
     have hF16:=Zt hF16 hb25
     refine wp_skip (Z0 (Zy (wp_region_lit (Ze hE rfl fun a hE=>Zk hE rfl rfl rfl fun a hE=>Zb hE rfl fun a hE=>Zj (Zl ?_)))))
     exact ⟨_,(ois hF16),hE.sub ⟨rfl,rfl,rfl,trivial⟩,hM⟩
  ·intro hb13
   have hs10:=Zt hs10 hb13
   refine wp_exit (Zp (Zp (Z1 ?_)))
   obtain rfl:=hx11 _ (ois hs10)
   refine Zl ?_
   have hM:=M.fst (l:=[]) hM
   exact ⟨(),rfl,hE.sub trivial,hM⟩
 ·skip
  rintro a w ⟨s8,ht,hE,hM⟩
  subst ht
  have hF7:=X7 hF7
  refine Zy (Za (Zb hE rfl fun a hE=>Zf ?_))
  obtain rfl:=Option.some.inj hF7
  exact wp_ret (kr1 hE rfl rfl hM.kept)
def Tz (p0 : (Vector UInt8 4)) (p1 : (Vector UInt8 4)) (s9 : Int) : Option (Fl Int (Fl Unit Bool)) :=
 if (decide (s9 < 4)) = true then (((ZC p0 s9).bind fun x19=>(ZC p1 s9).bind fun x22=>some (x19 != x22) : Option (Bool)).bind fun j14=>if j14 = true then (some (Fl.ex (Fl.ex false))) else (some (Fl.nx (wr (s9 + 1))))) else (some (Fl.ex (Fl.nx ())))
def Uk (p0 : (Vector UInt8 4)) (p1 : (Vector UInt8 4)) : Option (Bool) :=
 (ZD (Tz p0 p1) 0).bind fun j5=>j5.el (fun s8=>some true) (fun r=>some r)
theorem BF (w0 : World) (p0 : (Vector UInt8 4)) (p1 : (Vector UInt8 4)) (r : Bool) (hF : Uk p0 p1 = some r) :
  Calls Tryz.prog 114 [(Value.agg (enc p0).toArray),(Value.agg (enc p1).toArray)].toArray w0 (Rt w0 (vT r)):=by
 refine ce Tryz.func114 ?_
 intro a hE
 have hM:=M.start w0
 unfold Uk at hF
 refine Za (ZM (cs:=enc p0) hE hM Zd ld rfl rfl fun b1 w a hM hE=>ZM (cs:=enc p1) hE hM Zd ld rfl rfl fun b3 w a hM hE=>Zb hE rfl fun a hE=>Zf (wp_seq (Za (Zb hE rfl fun a hE=>Zf ?_))))
 obtain ⟨j5,hl6,hF7⟩:=bind_some hF
 refine ZJ (fun a w=>∃ s8 : Unit,j5 = Fl.nx s8 ∧ Env 17 a [] ∧ M (Old w0) w0 w []) ?_ ?_
 ·skip
  refine wp_block ?_
  refine ZE (fun (s9 : Int) a w=>Env 17 a [(2,(ptr b1 0)),(3,(ptr b3 0)),(5,vI s9)] ∧ M (Old w0) w0 w [raw b3 (enc p1),raw b1 (enc p0)]) hl6 ⟨hE.sub ⟨rfl,rfl,rfl,trivial⟩,hM⟩ ?_
  rintro s9 a w ⟨hE,hM⟩ o12 hs10 hx11
  unfold Tz at hs10
  refine wp_seq (Za (Ze hE rfl fun a hE=>Zk hE rfl rfl rfl fun a hE=>Zf ?_))
  refine Zq hE rfl ?_ ?_
  ·intro hb13
   have hs10:=Zu hs10 hb13
   refine wp_skip (Zy (wp_seq (wp_block ?_)))
   obtain ⟨j14,hl15,hF16⟩:=bind_some hs10
   refine ZI (fun a w=>Env 17 a [(2,(ptr b1 0)),(3,(ptr b3 0)),(5,vI s9),(16,vT j14)] ∧ M (Old w0) w0 w [raw b3 (enc p1),raw b1 (enc p0)]) ?_ ?_
   ·skip
    obtain ⟨x19,hi18,hl15⟩:=bvx hl15
    obtain ⟨x22,hi21,hl15⟩:=bvx hl15
    refine ZX (n:=17) (hd:=[_,_,_,_,_,_,_]) (tl:=[]) Yx rfl rfl [10,11,12,13,14,15,16] (by decide) (fun w=>M (Old w0) w0 w [raw b3 (enc p1),raw b1 (enc p0)]) (fun j=>([fun v _=>v = (vI s9),fun v _=>v = (ptr b1 (0 + (s9).toNat * 1)),fun v _=>v = (vB x19),fun v _=>v = (vI s9),fun v _=>v = (ptr b3 (0 + (s9).toNat * 1)),fun v _=>v = (vB x22),fun v _=>v = (vT (x19 != x22))] : List (Value → World → Prop)).getD j (fun _ _=>True)) (fun _ _ h hk=>h.keep hk) (gup gu7) hE hM.drew (st7 ?_ ?_ ?_ ?_ ?_ ?_ ?_) ?_
    ·exact qm
    ·intro a w ux17 hE hM hp
     have f0 : ux17 0 = (vI s9):=hp 0 _ rfl rfl
     exact Zm hE rfl (lk rfl f0) Tryz.underlying24 ty5 hi18.1 fun a hE=>kq rfl hE rfl
    ·intro a w ux17 hE hM hp
     have f1 : ux17 1 = (ptr b1 (0 + (s9).toNat * 1)):=hp 0 _ rfl rfl
     exact Zx (v:=(vB x19)) hE (lk rfl f1) ty5 rfl (At.vec hM.rawAt1 hi18.2) fun a hE=>kq rfl hE rfl
    ·exact qm
    ·intro a w ux17 hE hM hp
     have f3 : ux17 3 = (vI s9):=hp 0 _ rfl rfl
     exact Zm hE rfl (lk rfl f3) Tryz.underlying24 ty5 hi21.1 fun a hE=>kq rfl hE rfl
    ·intro a w ux17 hE hM hp
     have f4 : ux17 4 = (ptr b3 (0 + (s9).toNat * 1)):=hp 0 _ rfl rfl
     exact Zx (v:=(vB x22)) hE (lk rfl f4) ty5 rfl (At.vec hM.rawAt0 hi21.2) fun a hE=>kq rfl hE rfl
    ·intro a w ux17 hE hM hp
     have f2 : ux17 2 = (vB x19):=hp 0 _ rfl rfl
     have f5 : ux17 5 = (vB x22):=hp 1 _ rfl rfl
     exact Zk hE (lk rfl f2) (lk rfl f5) (Kq x19 x22) fun a hE=>kq rfl hE rfl
    ·intro a w ux17 hE hM hg
     have hE:=hE.sub (e':=[(16,(vT (x19 != x22))),(2,(ptr b1 0)),(3,(ptr b3 0)),(5,vI s9),(6,vI s9),(7,(vT (decide (s9 < 4))))]) ⟨lk rfl (hg 6 (by decide)),rfl,rfl,rfl,rfl,rfl,trivial⟩
     refine Zj ?_
     obtain rfl:=Option.some.inj hl15
     refine Zl ?_
     exact ⟨hE.sub ⟨rfl,rfl,rfl,rfl,trivial⟩,hM⟩
   ·skip
    rintro a w ⟨hE,hM⟩
    refine Zq hE rfl ?_ ?_
    ·intro hb25
     have hF16:=Zu hF16 hb25
     refine Za (Zb hE rfl fun a hE=>Zf ?_)
     obtain rfl:=hx11 _ (ois hF16)
     obtain rfl:=Option.some.inj hF7
     exact wp_ret (Z4 (Zs (Zs (Z4 (Zs (Zs (kr1 hE rfl rfl hM.kept)))))))
    ·intro hb25
     have hF16:=Zt hF16 hb25
     refine wp_skip (Z0 (Zy (wp_region_lit (Ze hE rfl fun a hE=>Zk hE rfl rfl rfl fun a hE=>Zb hE rfl fun a hE=>Zj (Zl ?_)))))
     exact ⟨_,(ois hF16),hE.sub ⟨rfl,rfl,rfl,trivial⟩,hM⟩
  ·intro hb13
   have hs10:=Zt hs10 hb13
   refine wp_exit (Zp (Zp (Z1 ?_)))
   obtain rfl:=hx11 _ (ois hs10)
   refine Zl ?_
   have hM:=M.fst (l:=[]) hM
   exact ⟨(),rfl,hE.sub trivial,hM⟩
 ·skip
  rintro a w ⟨s8,ht,hE,hM⟩
  subst ht
  have hF7:=X7 hF7
  refine Zy (Za (Zb hE rfl fun a hE=>Zf ?_))
  obtain rfl:=Option.some.inj hF7
  exact wp_ret (kr1 hE rfl rfl hM.kept)
def WE (p0 : (Vector (Vector UInt8 4) 4)) (p1 : (Vector (Vector UInt8 4) 4)) (s9 : Int) : Option (Fl Int (Fl Unit Bool)) :=
 if (decide (s9 < 4)) = true then (((ZC p0 s9).bind fun x19=>(ZC p1 s9).bind fun x22=>(Uk x19 x22).bind fun r24=>some (!r24) : Option (Bool)).bind fun j14=>if j14 = true then (some (Fl.ex (Fl.ex false))) else (some (Fl.nx (wr (s9 + 1))))) else (some (Fl.ex (Fl.nx ())))
def V9 (p0 : (Vector (Vector UInt8 4) 4)) (p1 : (Vector (Vector UInt8 4) 4)) : Option (Bool) :=
 (ZD (WE p0 p1) 0).bind fun j5=>j5.el (fun s8=>some true) (fun r=>some r)
theorem Ag (w0 : World) (p0 : (Vector (Vector UInt8 4) 4)) (p1 : (Vector (Vector UInt8 4) 4)) (r : Bool) (hF : V9 p0 p1 = some r) :
  Calls Tryz.prog 49 [(Value.agg (enc p0).toArray),(Value.agg (enc p1).toArray)].toArray w0 (Rt w0 (vT r)):=by
 refine ce Tryz.func49 ?_
 intro a hE
 have hM:=M.start w0
 unfold V9 at hF
 refine Za (ZM (cs:=enc p0) hE hM Zd ld rfl rfl fun b1 w a hM hE=>ZM (cs:=enc p1) hE hM Zd ld rfl rfl fun b3 w a hM hE=>Zb hE rfl fun a hE=>Zf (wp_seq (Za (Zb hE rfl fun a hE=>Zf ?_))))
 obtain ⟨j5,hl6,hF7⟩:=bind_some hF
 refine ZJ (fun a w=>∃ s8 : Unit,j5 = Fl.nx s8 ∧ Env 18 a [] ∧ M (Old w0) w0 w []) ?_ ?_
 ·skip
  refine wp_block ?_
  refine ZE (fun (s9 : Int) a w=>Env 18 a [(2,(ptr b1 0)),(3,(ptr b3 0)),(5,vI s9)] ∧ M (Old w0) w0 w [raw b3 (enc p1),raw b1 (enc p0)]) hl6 ⟨hE.sub ⟨rfl,rfl,rfl,trivial⟩,hM⟩ ?_
  rintro s9 a w ⟨hE,hM⟩ o12 hs10 hx11
  unfold WE at hs10
  refine wp_seq (Za (Ze hE rfl fun a hE=>Zk hE rfl rfl rfl fun a hE=>Zf ?_))
  refine Zq hE rfl ?_ ?_
  ·intro hb13
   have hs10:=Zu hs10 hb13
   refine wp_skip (Zy (wp_seq (wp_block ?_)))
   obtain ⟨j14,hl15,hF16⟩:=bind_some hs10
   refine ZI (fun a w=>Env 18 a [(2,(ptr b1 0)),(3,(ptr b3 0)),(5,vI s9),(17,vT j14)] ∧ M (Old w0) w0 w [raw b3 (enc p1),raw b1 (enc p0)]) ?_ ?_
   ·skip
    obtain ⟨x19,hi18,hl15⟩:=bvx hl15
    obtain ⟨x22,hi21,hl15⟩:=bvx hl15
    obtain ⟨r24,e25,hl15⟩:=bind_some hl15
    refine ZX (n:=18) (hd:=[_,_,_,_,_,_,_,_]) (tl:=[]) Yx rfl rfl [10,11,12,13,14,15,16,17] (by decide) (fun w=>M (Old w0) w0 w [raw b3 (enc p1),raw b1 (enc p0)]) (fun j=>([fun v _=>v = (vI s9),fun v _=>v = (ptr b1 (0 + (s9).toNat * 4)),fun v _=>v = (Value.agg (enc x19).toArray),fun v _=>v = (vI s9),fun v _=>v = (ptr b3 (0 + (s9).toNat * 4)),fun v _=>v = (Value.agg (enc x22).toArray),fun v _=>v = (vT r24),fun v _=>v = (vT (!r24))] : List (Value → World → Prop)).getD j (fun _ _=>True)) (fun _ _ h hk=>h.keep hk) (gup gu8) hE hM.drew (st8 ?_ ?_ ?_ ?_ ?_ ?_ ?_ ?_) ?_
    ·exact qm
    ·intro a w ux17 hE hM hp
     have f0 : ux17 0 = (vI s9):=hp 0 _ rfl rfl
     exact Zm hE rfl (lk rfl f0) Tryz.underlying26 Yh hi18.1 fun a hE=>kq rfl hE rfl
    ·intro a w ux17 hE hM hp
     have f1 : ux17 1 = (ptr b1 (0 + (s9).toNat * 4)):=hp 0 _ rfl rfl
     exact Zn hE (lk rfl f1) Yh rfl (At.vec hM.rawAt1 hi18.2) (Flat.len _) fun a hE=>kq rfl hE rfl
    ·exact qm
    ·intro a w ux17 hE hM hp
     have f3 : ux17 3 = (vI s9):=hp 0 _ rfl rfl
     exact Zm hE rfl (lk rfl f3) Tryz.underlying26 Yh hi21.1 fun a hE=>kq rfl hE rfl
    ·intro a w ux17 hE hM hp
     have f4 : ux17 4 = (ptr b3 (0 + (s9).toNat * 4)):=hp 0 _ rfl rfl
     exact Zn hE (lk rfl f4) Yh rfl (At.vec hM.rawAt0 hi21.2) (Flat.len _) fun a hE=>kq rfl hE rfl
    ·intro a w ux17 hE hM hp
     have f2 : ux17 2 = (Value.agg (enc x19).toArray):=hp 0 _ rfl rfl
     have f5 : ux17 5 = (Value.agg (enc x22).toArray):=hp 1 _ rfl rfl
     refine Zv hE (ZU (ZR (lk rfl f2) (ZR (lk rfl f5) Xf))) (cbm Tryz.func114) (BF _ x19 x22 r24 e25) ?_
     rintro v w a ⟨rfl,hK⟩ hE
     exact ⟨hK,_,_,rfl,hE,rfl⟩
    ·intro a w ux17 hE hM hp
     have f6 : ux17 6 = (vT r24):=hp 0 _ rfl rfl
     exact YO hE (lk rfl f6) fun a hE=>kq rfl hE rfl
    ·intro a w ux17 hE hM hg
     have hE:=hE.sub (e':=[(17,(vT (!r24))),(2,(ptr b1 0)),(3,(ptr b3 0)),(5,vI s9),(6,vI s9),(7,(vT (decide (s9 < 4))))]) ⟨lk rfl (hg 7 (by decide)),rfl,rfl,rfl,rfl,rfl,trivial⟩
     refine Zj ?_
     obtain rfl:=Option.some.inj hl15
     refine Zl ?_
     exact ⟨hE.sub ⟨rfl,rfl,rfl,rfl,trivial⟩,hM⟩
   ·skip
    rintro a w ⟨hE,hM⟩
    refine Zq hE rfl ?_ ?_
    ·intro hb27
     have hF16:=Zu hF16 hb27
     refine Za (Zb hE rfl fun a hE=>Zf ?_)
     obtain rfl:=hx11 _ (ois hF16)
     obtain rfl:=Option.some.inj hF7
     exact wp_ret (Z4 (Zs (Zs (Z4 (Zs (Zs (kr1 hE rfl rfl hM.kept)))))))
    ·intro hb27
     have hF16:=Zt hF16 hb27
     refine wp_skip (Z0 (Zy (wp_region_lit (Ze hE rfl fun a hE=>Zk hE rfl rfl rfl fun a hE=>Zb hE rfl fun a hE=>Zj (Zl ?_)))))
     exact ⟨_,(ois hF16),hE.sub ⟨rfl,rfl,rfl,trivial⟩,hM⟩
  ·intro hb13
   have hs10:=Zt hs10 hb13
   refine wp_exit (Zp (Zp (Z1 ?_)))
   obtain rfl:=hx11 _ (ois hs10)
   refine Zl ?_
   have hM:=M.fst (l:=[]) hM
   exact ⟨(),rfl,hE.sub trivial,hM⟩
 ·skip
  rintro a w ⟨s8,ht,hE,hM⟩
  subst ht
  have hF7:=X7 hF7
  refine Zy (Za (Zb hE rfl fun a hE=>Zf ?_))
  obtain rfl:=Option.some.inj hF7
  exact wp_ret (kr1 hE rfl rfl hM.kept)
def Tw (p0 : (Vector UInt8 16)) (p1 : (Vector UInt8 16)) (s9 : Int) : Option (Fl Int (Fl Unit Bool)) :=
 if (decide (s9 < 16)) = true then (((ZC p0 s9).bind fun x19=>(ZC p1 s9).bind fun x22=>some (x19 != x22) : Option (Bool)).bind fun j14=>if j14 = true then (some (Fl.ex (Fl.ex false))) else (some (Fl.nx (wr (s9 + 1))))) else (some (Fl.ex (Fl.nx ())))
def Ug (p0 : (Vector UInt8 16)) (p1 : (Vector UInt8 16)) : Option (Bool) :=
 (ZD (Tw p0 p1) 0).bind fun j5=>j5.el (fun s8=>some true) (fun r=>some r)
theorem BE (w0 : World) (p0 : (Vector UInt8 16)) (p1 : (Vector UInt8 16)) (r : Bool) (hF : Ug p0 p1 = some r) :
  Calls Tryz.prog 50 [(Value.agg (enc p0).toArray),(Value.agg (enc p1).toArray)].toArray w0 (Rt w0 (vT r)):=by
 refine ce Tryz.func50 ?_
 intro a hE
 have hM:=M.start w0
 unfold Ug at hF
 refine Za (ZM (cs:=enc p0) hE hM Zd ld rfl rfl fun b1 w a hM hE=>ZM (cs:=enc p1) hE hM Zd ld rfl rfl fun b3 w a hM hE=>Zb hE rfl fun a hE=>Zf (wp_seq (Za (Zb hE rfl fun a hE=>Zf ?_))))
 obtain ⟨j5,hl6,hF7⟩:=bind_some hF
 refine ZJ (fun a w=>∃ s8 : Unit,j5 = Fl.nx s8 ∧ Env 17 a [] ∧ M (Old w0) w0 w []) ?_ ?_
 ·skip
  refine wp_block ?_
  refine ZE (fun (s9 : Int) a w=>Env 17 a [(2,(ptr b1 0)),(3,(ptr b3 0)),(5,vI s9)] ∧ M (Old w0) w0 w [raw b3 (enc p1),raw b1 (enc p0)]) hl6 ⟨hE.sub ⟨rfl,rfl,rfl,trivial⟩,hM⟩ ?_
  rintro s9 a w ⟨hE,hM⟩ o12 hs10 hx11
  unfold Tw at hs10
  refine wp_seq (Za (Ze hE rfl fun a hE=>Zk hE rfl rfl rfl fun a hE=>Zf ?_))
  refine Zq hE rfl ?_ ?_
  ·intro hb13
   have hs10:=Zu hs10 hb13
   refine wp_skip (Zy (wp_seq (wp_block ?_)))
   obtain ⟨j14,hl15,hF16⟩:=bind_some hs10
   refine ZI (fun a w=>Env 17 a [(2,(ptr b1 0)),(3,(ptr b3 0)),(5,vI s9),(16,vT j14)] ∧ M (Old w0) w0 w [raw b3 (enc p1),raw b1 (enc p0)]) ?_ ?_
   ·skip
    obtain ⟨x19,hi18,hl15⟩:=bvx hl15
    obtain ⟨x22,hi21,hl15⟩:=bvx hl15
    refine ZX (n:=17) (hd:=[_,_,_,_,_,_,_]) (tl:=[]) Yx rfl rfl [10,11,12,13,14,15,16] (by decide) (fun w=>M (Old w0) w0 w [raw b3 (enc p1),raw b1 (enc p0)]) (fun j=>([fun v _=>v = (vI s9),fun v _=>v = (ptr b1 (0 + (s9).toNat * 1)),fun v _=>v = (vB x19),fun v _=>v = (vI s9),fun v _=>v = (ptr b3 (0 + (s9).toNat * 1)),fun v _=>v = (vB x22),fun v _=>v = (vT (x19 != x22))] : List (Value → World → Prop)).getD j (fun _ _=>True)) (fun _ _ h hk=>h.keep hk) (gup gu7) hE hM.drew (st7 ?_ ?_ ?_ ?_ ?_ ?_ ?_) ?_
    ·exact qm
    ·intro a w ux17 hE hM hp
     have f0 : ux17 0 = (vI s9):=hp 0 _ rfl rfl
     exact Zm hE rfl (lk rfl f0) Tryz.underlying28 ty5 hi18.1 fun a hE=>kq rfl hE rfl
    ·intro a w ux17 hE hM hp
     have f1 : ux17 1 = (ptr b1 (0 + (s9).toNat * 1)):=hp 0 _ rfl rfl
     exact Zx (v:=(vB x19)) hE (lk rfl f1) ty5 rfl (At.vec hM.rawAt1 hi18.2) fun a hE=>kq rfl hE rfl
    ·exact qm
    ·intro a w ux17 hE hM hp
     have f3 : ux17 3 = (vI s9):=hp 0 _ rfl rfl
     exact Zm hE rfl (lk rfl f3) Tryz.underlying28 ty5 hi21.1 fun a hE=>kq rfl hE rfl
    ·intro a w ux17 hE hM hp
     have f4 : ux17 4 = (ptr b3 (0 + (s9).toNat * 1)):=hp 0 _ rfl rfl
     exact Zx (v:=(vB x22)) hE (lk rfl f4) ty5 rfl (At.vec hM.rawAt0 hi21.2) fun a hE=>kq rfl hE rfl
    ·intro a w ux17 hE hM hp
     have f2 : ux17 2 = (vB x19):=hp 0 _ rfl rfl
     have f5 : ux17 5 = (vB x22):=hp 1 _ rfl rfl
     exact Zk hE (lk rfl f2) (lk rfl f5) (Kq x19 x22) fun a hE=>kq rfl hE rfl
    ·intro a w ux17 hE hM hg
     have hE:=hE.sub (e':=[(16,(vT (x19 != x22))),(2,(ptr b1 0)),(3,(ptr b3 0)),(5,vI s9),(6,vI s9),(7,(vT (decide (s9 < 16))))]) ⟨lk rfl (hg 6 (by decide)),rfl,rfl,rfl,rfl,rfl,trivial⟩
     refine Zj ?_
     obtain rfl:=Option.some.inj hl15
     refine Zl ?_
     exact ⟨hE.sub ⟨rfl,rfl,rfl,rfl,trivial⟩,hM⟩
   ·skip
    rintro a w ⟨hE,hM⟩
    refine Zq hE rfl ?_ ?_
    ·intro hb25
     have hF16:=Zu hF16 hb25
     refine Za (Zb hE rfl fun a hE=>Zf ?_)
     obtain rfl:=hx11 _ (ois hF16)
     obtain rfl:=Option.some.inj hF7
     exact wp_ret (Z4 (Zs (Zs (Z4 (Zs (Zs (kr1 hE rfl rfl hM.kept)))))))
    ·intro hb25
     have hF16:=Zt hF16 hb25
     refine wp_skip (Z0 (Zy (wp_region_lit (Ze hE rfl fun a hE=>Zk hE rfl rfl rfl fun a hE=>Zb hE rfl fun a hE=>Zj (Zl ?_)))))
     exact ⟨_,(ois hF16),hE.sub ⟨rfl,rfl,rfl,trivial⟩,hM⟩
  ·intro hb13
   have hs10:=Zt hs10 hb13
   refine wp_exit (Zp (Zp (Z1 ?_)))
   obtain rfl:=hx11 _ (ois hs10)
   refine Zl ?_
   have hM:=M.fst (l:=[]) hM
   exact ⟨(),rfl,hE.sub trivial,hM⟩
 ·skip
  rintro a w ⟨s8,ht,hE,hM⟩
  subst ht
  have hF7:=X7 hF7
  refine Zy (Za (Zb hE rfl fun a hE=>Zf ?_))
  obtain rfl:=Option.some.inj hF7
  exact wp_ret (kr1 hE rfl rfl hM.kept)
def V2 (p0 : GCipher) (p1 : GCipher) : Option (Bool) :=
 if (p0.Field != p1.Field) = true then (some false) else ((Qk p0.Box p1.Box).bind fun r6=>if (!r6) = true then (some false) else ((V9 p0.Mix p1.Mix).bind fun r9=>if (!r9) = true then (some false) else ((Ug p0.Places p1.Places).bind fun r12=>if (!r12) = true then (some false) else (if (p0.Rounds != p1.Rounds) = true then (some false) else (some true)))))
theorem Af (w0 : World) (p0 : GCipher) (p1 : GCipher) (r : Bool) (hF : V2 p0 p1 = some r) :
  Calls Tryz.prog 17 [(Value.agg (enc p0).toArray),(Value.agg (enc p1).toArray)].toArray w0 (Rt w0 (vT r)):=by
 refine ce Tryz.func17 ?_
 intro a hE
 have hM:=M.start w0
 unfold V2 at hF
 refine Za (ZM (cs:=cat [[vI p0.Field],enc p0.Box,enc p0.Mix,enc p0.Places,[vI p0.Rounds]]) hE hM Zd ld rfl rfl fun b1 w a hM hE=>ZM (cs:=cat [[vI p1.Field],enc p1.Box,enc p1.Mix,enc p1.Places,[vI p1.Rounds]]) hE hM Zd ld rfl rfl fun b3 w a hM hE=>Zb hE rfl fun a hE=>Zf (wp_seq (Za (Zg hE rfl (Kc) fun a hE=>Zx (v:=(vI p0.Field)) hE rfl ty2 rfl (At.cat (pre:=[]) hM.rawAt1 cl0) fun a hE=>Zg hE rfl (Kc) fun a hE=>Zx (v:=(vI p1.Field)) hE rfl ty2 rfl (At.cat (pre:=[]) hM.rawAt0 cl0) fun a hE=>Zk hE rfl rfl rfl fun a hE=>Zf ?_))))
 refine Zq hE rfl ?_ ?_
 ·intro hb5
  have hF:=Zu hF hb5
  refine Za (Zb hE rfl fun a hE=>Zf ?_)
  obtain rfl:=Option.some.inj hF
  exact wp_ret (Zs (kr1 hE rfl rfl hM.kept))
 ·intro hb5
  have hF:=Zt hF hb5
  refine wp_skip (Zy (wp_seq (Za (Zg hE rfl (Q9) fun a hE=>Zn hE rfl Wu rfl (At.cat (pre:=[[vI p0.Field]]) hM.rawAt1 ck) (Flat.len _) fun a hE=>Zg hE rfl (Q9) fun a hE=>Zn hE rfl Wu rfl (At.cat (pre:=[[vI p1.Field]]) hM.rawAt0 ck) (Flat.len _) ?_)))); intro a hE
  obtain ⟨r6,e7,hF⟩:=bind_some hF
  refine Zv hE rfl (cbm Tryz.func48) (yq _ p0.Box p1.Box r6 e7) ?_
  rintro v w a ⟨rfl,hK⟩ hE
  have hM:=hM.keep hK
  refine YO hE rfl fun a hE=>Zf ?_
  refine Zq hE rfl ?_ ?_
  ·intro hb8
   have hF:=Zu hF hb8
   refine Za (Zb hE rfl fun a hE=>Zf ?_)
   obtain rfl:=Option.some.inj hF
   exact wp_ret (Zs (kr1 hE rfl rfl hM.kept))
  ·intro hb8
   have hF:=Zt hF hb8
   refine wp_skip (Zy (wp_seq (Za (Zg hE rfl (Kr) fun a hE=>Zn hE rfl Xc rfl (At.cat (pre:=[[vI p0.Field],enc p0.Box]) hM.rawAt1 ck) (Flat.len _) fun a hE=>Zg hE rfl (Kr) fun a hE=>Zn hE rfl Xc rfl (At.cat (pre:=[[vI p1.Field],enc p1.Box]) hM.rawAt0 ck) (Flat.len _) ?_)))); intro a hE
   obtain ⟨r9,e10,hF⟩:=bind_some hF
   refine Zv hE rfl (cbm Tryz.func49) (Ag _ p0.Mix p1.Mix r9 e10) ?_
   rintro v w a ⟨rfl,hK⟩ hE
   have hM:=hM.keep hK
   refine YO hE rfl fun a hE=>Zf ?_
   refine Zq hE rfl ?_ ?_
   ·intro hb11
    have hF:=Zu hF hb11
    refine Za (Zb hE rfl fun a hE=>Zf ?_)
    obtain rfl:=Option.some.inj hF
    exact wp_ret (Zs (kr1 hE rfl rfl hM.kept))
   ·intro hb11
    have hF:=Zt hF hb11
    refine wp_skip (Zy (wp_seq (Za (Zg hE rfl (Kn) fun a hE=>Zn hE rfl Qz rfl (At.cat (pre:=[[vI p0.Field],enc p0.Box,enc p0.Mix]) hM.rawAt1 ck) (Flat.len _) fun a hE=>Zg hE rfl (Kn) fun a hE=>Zn hE rfl Qz rfl (At.cat (pre:=[[vI p1.Field],enc p1.Box,enc p1.Mix]) hM.rawAt0 ck) (Flat.len _) ?_)))); intro a hE
    obtain ⟨r12,e13,hF⟩:=bind_some hF
    refine Zv hE rfl (cbm Tryz.func50) (BE _ p0.Places p1.Places r12 e13) ?_
    rintro v w a ⟨rfl,hK⟩ hE
    have hM:=hM.keep hK
    refine YO hE rfl fun a hE=>Zf ?_
    refine Zq hE rfl ?_ ?_
    ·intro hb14
     have hF:=Zu hF hb14
     refine Za (Zb hE rfl fun a hE=>Zf ?_)
     obtain rfl:=Option.some.inj hF
     exact wp_ret (Zs (kr1 hE rfl rfl hM.kept))
    ·intro hb14
     have hF:=Zt hF hb14
     refine wp_skip (Zy (wp_seq (Za (Zg hE rfl (Jj) fun a hE=>Zx (v:=(vI p0.Rounds)) hE rfl ty2 rfl (At.cat (pre:=[[vI p0.Field],enc p0.Box,enc p0.Mix,enc p0.Places]) hM.rawAt1 ck) fun a hE=>Zg hE rfl (Jj) fun a hE=>Zx (v:=(vI p1.Rounds)) hE rfl ty2 rfl (At.cat (pre:=[[vI p1.Field],enc p1.Box,enc p1.Mix,enc p1.Places]) hM.rawAt0 ck) fun a hE=>Zk hE rfl rfl rfl fun a hE=>Zf ?_))))
     refine Zq hE rfl ?_ ?_
     ·intro hb15
      have hF:=Zu hF hb15
      refine Za (Zb hE rfl fun a hE=>Zf ?_)
      obtain rfl:=Option.some.inj hF
      exact wp_ret (Zs (kr1 hE rfl rfl hM.kept))
     ·intro hb15
      have hF:=Zt hF hb15
      refine wp_skip (Zy (Za (Zb hE rfl fun a hE=>Zf ?_)))
      obtain rfl:=Option.some.inj hF
      exact wp_ret (kr1 hE rfl rfl hM.kept)
def TW (p0 : (Vector UInt8 16)) (p1 : (Vector UInt8 16)) (s9 : Int) : Option (Fl Int (Fl Unit Bool)) :=
 if (decide (s9 < 16)) = true then (((ZC p0 s9).bind fun x19=>(ZC p1 s9).bind fun x22=>some (x19 != x22) : Option (Bool)).bind fun j14=>if j14 = true then (some (Fl.ex (Fl.ex false))) else (some (Fl.nx (wr (s9 + 1))))) else (some (Fl.ex (Fl.nx ())))
def Xk (p0 : (Vector UInt8 16)) (p1 : (Vector UInt8 16)) : Option (Bool) :=
 (ZD (TW p0 p1) 0).bind fun j5=>j5.el (fun s8=>some true) (fun r=>some r)
theorem Qh (w0 : World) (p0 : (Vector UInt8 16)) (p1 : (Vector UInt8 16)) (r : Bool) (hF : Xk p0 p1 = some r) :
  Calls Tryz.prog 18 [(Value.agg (enc p0).toArray),(Value.agg (enc p1).toArray)].toArray w0 (Rt w0 (vT r)):=by
 refine ce Tryz.func18 ?_
 intro a hE
 have hM:=M.start w0
 unfold Xk at hF
 refine Za (ZM (cs:=enc p0) hE hM Zd ld rfl rfl fun b1 w a hM hE=>ZM (cs:=enc p1) hE hM Zd ld rfl rfl fun b3 w a hM hE=>Zb hE rfl fun a hE=>Zf (wp_seq (Za (Zb hE rfl fun a hE=>Zf ?_))))
 obtain ⟨j5,hl6,hF7⟩:=bind_some hF
 refine ZJ (fun a w=>∃ s8 : Unit,j5 = Fl.nx s8 ∧ Env 17 a [] ∧ M (Old w0) w0 w []) ?_ ?_
 ·skip
  refine wp_block ?_
  refine ZE (fun (s9 : Int) a w=>Env 17 a [(2,(ptr b1 0)),(3,(ptr b3 0)),(5,vI s9)] ∧ M (Old w0) w0 w [raw b3 (enc p1),raw b1 (enc p0)]) hl6 ⟨hE.sub ⟨rfl,rfl,rfl,trivial⟩,hM⟩ ?_
  rintro s9 a w ⟨hE,hM⟩ o12 hs10 hx11
  unfold TW at hs10
  refine wp_seq (Za (Ze hE rfl fun a hE=>Zk hE rfl rfl rfl fun a hE=>Zf ?_))
  refine Zq hE rfl ?_ ?_
  ·intro hb13
   have hs10:=Zu hs10 hb13
   refine wp_skip (Zy (wp_seq (wp_block ?_)))
   obtain ⟨j14,hl15,hF16⟩:=bind_some hs10
   refine ZI (fun a w=>Env 17 a [(2,(ptr b1 0)),(3,(ptr b3 0)),(5,vI s9),(16,vT j14)] ∧ M (Old w0) w0 w [raw b3 (enc p1),raw b1 (enc p0)]) ?_ ?_
   ·skip
    obtain ⟨x19,hi18,hl15⟩:=bvx hl15
    obtain ⟨x22,hi21,hl15⟩:=bvx hl15
    refine ZX (n:=17) (hd:=[_,_,_,_,_,_,_]) (tl:=[]) Yx rfl rfl [10,11,12,13,14,15,16] (by decide) (fun w=>M (Old w0) w0 w [raw b3 (enc p1),raw b1 (enc p0)]) (fun j=>([fun v _=>v = (vI s9),fun v _=>v = (ptr b1 (0 + (s9).toNat * 1)),fun v _=>v = (vB x19),fun v _=>v = (vI s9),fun v _=>v = (ptr b3 (0 + (s9).toNat * 1)),fun v _=>v = (vB x22),fun v _=>v = (vT (x19 != x22))] : List (Value → World → Prop)).getD j (fun _ _=>True)) (fun _ _ h hk=>h.keep hk) (gup gu7) hE hM.drew (st7 ?_ ?_ ?_ ?_ ?_ ?_ ?_) ?_
    ·exact qm
    ·intro a w ux17 hE hM hp
     have f0 : ux17 0 = (vI s9):=hp 0 _ rfl rfl
     exact Zm hE rfl (lk rfl f0) Tryz.underlying31 ty5 hi18.1 fun a hE=>kq rfl hE rfl
    ·intro a w ux17 hE hM hp
     have f1 : ux17 1 = (ptr b1 (0 + (s9).toNat * 1)):=hp 0 _ rfl rfl
     exact Zx (v:=(vB x19)) hE (lk rfl f1) ty5 rfl (At.vec hM.rawAt1 hi18.2) fun a hE=>kq rfl hE rfl
    ·exact qm
    ·intro a w ux17 hE hM hp
     have f3 : ux17 3 = (vI s9):=hp 0 _ rfl rfl
     exact Zm hE rfl (lk rfl f3) Tryz.underlying31 ty5 hi21.1 fun a hE=>kq rfl hE rfl
    ·intro a w ux17 hE hM hp
     have f4 : ux17 4 = (ptr b3 (0 + (s9).toNat * 1)):=hp 0 _ rfl rfl
     exact Zx (v:=(vB x22)) hE (lk rfl f4) ty5 rfl (At.vec hM.rawAt0 hi21.2) fun a hE=>kq rfl hE rfl
    ·intro a w ux17 hE hM hp
     have f2 : ux17 2 = (vB x19):=hp 0 _ rfl rfl
     have f5 : ux17 5 = (vB x22):=hp 1 _ rfl rfl
     exact Zk hE (lk rfl f2) (lk rfl f5) (Kq x19 x22) fun a hE=>kq rfl hE rfl
    ·intro a w ux17 hE hM hg
     have hE:=hE.sub (e':=[(16,(vT (x19 != x22))),(2,(ptr b1 0)),(3,(ptr b3 0)),(5,vI s9),(6,vI s9),(7,(vT (decide (s9 < 16))))]) ⟨lk rfl (hg 6 (by decide)),rfl,rfl,rfl,rfl,rfl,trivial⟩
     refine Zj ?_
     obtain rfl:=Option.some.inj hl15
     refine Zl ?_
     exact ⟨hE.sub ⟨rfl,rfl,rfl,rfl,trivial⟩,hM⟩
   ·skip
    rintro a w ⟨hE,hM⟩
    refine Zq hE rfl ?_ ?_
    ·intro hb25
     have hF16:=Zu hF16 hb25
     refine Za (Zb hE rfl fun a hE=>Zf ?_)
     obtain rfl:=hx11 _ (ois hF16)
     obtain rfl:=Option.some.inj hF7
     exact wp_ret (Z4 (Zs (Zs (Z4 (Zs (Zs (kr1 hE rfl rfl hM.kept)))))))
    ·intro hb25
     have hF16:=Zt hF16 hb25
     refine wp_skip (Z0 (Zy (wp_region_lit (Ze hE rfl fun a hE=>Zk hE rfl rfl rfl fun a hE=>Zb hE rfl fun a hE=>Zj (Zl ?_)))))
     exact ⟨_,(ois hF16),hE.sub ⟨rfl,rfl,rfl,trivial⟩,hM⟩
  ·intro hb13
   have hs10:=Zt hs10 hb13
   refine wp_exit (Zp (Zp (Z1 ?_)))
   obtain rfl:=hx11 _ (ois hs10)
   refine Zl ?_
   have hM:=M.fst (l:=[]) hM
   exact ⟨(),rfl,hE.sub trivial,hM⟩
 ·skip
  rintro a w ⟨s8,ht,hE,hM⟩
  subst ht
  have hF7:=X7 hF7
  refine Zy (Za (Zb hE rfl fun a hE=>Zf ?_))
  obtain rfl:=Option.some.inj hF7
  exact wp_ret (kr1 hE rfl rfl hM.kept)
def TX (p0 : (List UInt8)) (p1 : (List UInt8)) (s6 : Int) : Option (Fl Int (Fl Unit Bool)) :=
 if (decide (s6 < (p0.length : Int))) = true then (((idx p0 s6).bind fun x15=>(idx p1 s6).bind fun x18=>some (x15 != x18) : Option (Bool)).bind fun j11=>if j11 = true then (some (Fl.ex (Fl.ex false))) else (some (Fl.nx (wr (s6 + 1))))) else (some (Fl.ex (Fl.nx ())))
def Xo (p0 : (List UInt8)) (p1 : (List UInt8)) : Option (Bool) :=
 if ((p0.length : Int) != (p1.length : Int)) = true then (some false) else ((ZD (TX p0 p1) 0).bind fun j2=>j2.el (fun s5=>some true) (fun r=>some r))
theorem Qq (w0 : World) (p0 : (List UInt8)) (v0_1 : Value) (hv0_1 : Ro w0 p0 [v0_1]) (p1 : (List UInt8)) (v1_1 : Value) (hv1_1 : Ro w0 p1 [v1_1]) (r : Bool) (hF : Xo p0 p1 = some r) :
  Calls Tryz.prog 19 [v0_1,v1_1].toArray w0 (Rt w0 (vT r)):=by
 refine ce Tryz.func19 ?_
 intro a hE
 have hM:=M.start w0
 unfold Xo at hF
 refine Za (Zb hE rfl fun a hE=>Zf (wp_seq (Za (Ze hE rfl fun a hE=>ZZ hE rfl Tryz.underlying32 (hM.rd hv0_1) fun a hE=>Ze hE rfl fun a hE=>ZZ hE rfl Tryz.underlying32 (hM.rd hv1_1) fun a hE=>Zk hE rfl rfl rfl fun a hE=>Zf ?_))))
 refine Zq hE rfl ?_ ?_
 ·intro hb1
  have hF:=Zu hF hb1
  refine Za (Zb hE rfl fun a hE=>Zf ?_)
  obtain rfl:=Option.some.inj hF
  exact wp_ret (Zs (kr1 hE rfl rfl hM.kept))
 ·intro hb1
  have hF:=Zt hF hb1
  refine wp_skip (Zy (wp_seq (Za (Zb hE rfl fun a hE=>Zf ?_))))
  obtain ⟨j2,hl3,hF4⟩:=bind_some hF
  refine ZJ (fun a w=>∃ s5 : Unit,j2 = Fl.nx s5 ∧ Env 26 a [] ∧ M (Old w0) w0 w []) ?_ ?_
  ·skip
   refine wp_block ?_
   refine ZE (fun (s6 : Int) a w=>Env 26 a [(0,v0_1),(1,v1_1),(5,vI s6)] ∧ M (Old w0) w0 w []) hl3 ⟨hE.sub ⟨rfl,rfl,rfl,trivial⟩,hM⟩ ?_
   rintro s6 a w ⟨hE,hM⟩ o9 hs7 hx8
   unfold TX at hs7
   refine wp_seq (Za (Ze hE rfl fun a hE=>Ze hE rfl fun a hE=>ZZ hE rfl Tryz.underlying32 (hM.rd hv0_1) fun a hE=>Zk hE rfl rfl rfl fun a hE=>Zf ?_))
   refine Zq hE rfl ?_ ?_
   ·intro hb10
    have hs7:=Zu hs7 hb10
    refine wp_skip (Zy (wp_seq (wp_block ?_)))
    obtain ⟨j11,hl12,hF13⟩:=bind_some hs7
    refine ZI (fun a w=>Env 26 a [(0,v0_1),(1,v1_1),(5,vI s6),(25,vT j11)] ∧ M (Old w0) w0 w []) ?_ ?_
    ·skip
     obtain ⟨x15,hi17,hl12⟩:=bix hl12
     obtain ⟨x18,hi20,hl12⟩:=bix hl12
     refine ZX (n:=26) (hd:=[_,_,_,_,_,_,_,_,_]) (tl:=[]) Yx rfl rfl [17,18,19,20,21,22,23,24,25] (by decide) (fun w=>M (Old w0) w0 w []) (fun j=>([fun v _=>v = v0_1,fun v _=>v = (vI s6),fun v _=>v = (ptr (sb v0_1) (so v0_1 + (s6).toNat * 1)),fun v _=>v = (vB x15),fun v _=>v = v1_1,fun v _=>v = (vI s6),fun v _=>v = (ptr (sb v1_1) (so v1_1 + (s6).toNat * 1)),fun v _=>v = (vB x18),fun v _=>v = (vT (x15 != x18))] : List (Value → World → Prop)).getD j (fun _ _=>True)) (fun _ _ h hk=>h.keep hk) (gup gu9) hE hM.drew (st9 ?_ ?_ ?_ ?_ ?_ ?_ ?_ ?_ ?_) ?_
     ·exact qm
     ·exact qm
     ·intro a w ux14 hE hM hp
      have f0 : ux14 0 = v0_1:=hp 0 _ rfl rfl
      have f1 : ux14 1 = (vI s6):=hp 1 _ rfl rfl
      exact ZK hE (lk rfl f0) (lk rfl f1) Tryz.underlying32 ty5 (hM.rd hv0_1) hi17.1 fun a hE=>kq rfl hE rfl
     ·intro a w ux14 hE hM hp
      have f2 : ux14 2 = (ptr (sb v0_1) (so v0_1 + (s6).toNat * 1)):=hp 0 _ rfl rfl
      exact Zx (v:=(vB x15)) hE (lk rfl f2) ty5 rfl (Ys (hM.rd hv0_1) hi17.2) fun a hE=>kq rfl hE rfl
     ·exact qm
     ·exact qm
     ·intro a w ux14 hE hM hp
      have f4 : ux14 4 = v1_1:=hp 0 _ rfl rfl
      have f5 : ux14 5 = (vI s6):=hp 1 _ rfl rfl
      exact ZK hE (lk rfl f4) (lk rfl f5) Tryz.underlying32 ty5 (hM.rd hv1_1) hi20.1 fun a hE=>kq rfl hE rfl
     ·intro a w ux14 hE hM hp
      have f6 : ux14 6 = (ptr (sb v1_1) (so v1_1 + (s6).toNat * 1)):=hp 0 _ rfl rfl
      exact Zx (v:=(vB x18)) hE (lk rfl f6) ty5 rfl (Ys (hM.rd hv1_1) hi20.2) fun a hE=>kq rfl hE rfl
     ·intro a w ux14 hE hM hp
      have f3 : ux14 3 = (vB x15):=hp 0 _ rfl rfl
      have f7 : ux14 7 = (vB x18):=hp 1 _ rfl rfl
      exact Zk hE (lk rfl f3) (lk rfl f7) (Kq x15 x18) fun a hE=>kq rfl hE rfl
     ·intro a w ux14 hE hM hg
      have hE:=hE.sub (e':=[(25,(vT (x15 != x18))),(0,v0_1),(1,v1_1),(5,vI s6),(11,vI s6),(12,v0_1),(13,(vI (p0.length : Int))),(14,(vT (decide (s6 < (p0.length : Int)))))]) ⟨lk rfl (hg 8 (by decide)),rfl,rfl,rfl,rfl,rfl,rfl,rfl,trivial⟩
      refine Zj ?_
      obtain rfl:=Option.some.inj hl12
      refine Zl ?_
      exact ⟨hE.sub ⟨rfl,rfl,rfl,rfl,trivial⟩,hM⟩
    ·skip
     rintro a w ⟨hE,hM⟩
     refine Zq hE rfl ?_ ?_
     ·intro hb22
      have hF13:=Zu hF13 hb22
      refine Za (Zb hE rfl fun a hE=>Zf ?_)
      obtain rfl:=hx8 _ (ois hF13)
      obtain rfl:=Option.some.inj hF4
      exact wp_ret (Z4 (Zs (Zs (Z4 (Zs (Zs (kr1 hE rfl rfl hM.kept)))))))
     ·intro hb22
      have hF13:=Zt hF13 hb22
      refine wp_skip (Z0 (Zy (wp_region_lit (Ze hE rfl fun a hE=>Zk hE rfl rfl rfl fun a hE=>Zb hE rfl fun a hE=>Zj (Zl ?_)))))
      exact ⟨_,(ois hF13),hE.sub ⟨rfl,rfl,rfl,trivial⟩,hM⟩
   ·intro hb10
    have hs7:=Zt hs7 hb10
    refine wp_exit (Zp (Zp (Z1 ?_)))
    obtain rfl:=hx8 _ (ois hs7)
    refine Zl ?_
    exact ⟨(),rfl,hE.sub trivial,hM⟩
  ·skip
   rintro a w ⟨s5,ht,hE,hM⟩
   subst ht
   have hF4:=X7 hF4
   refine Zy (Za (Zb hE rfl fun a hE=>Zf ?_))
   obtain rfl:=Option.some.inj hF4
   exact wp_ret (kr1 hE rfl rfl hM.kept)
def Tn (p0 : (List (Vector UInt8 16))) (p1 : (List (Vector UInt8 16))) (s6 : Int) : Option (Fl Int (Fl Unit Bool)) :=
 if (decide (s6 < (p0.length : Int))) = true then (((idx p0 s6).bind fun x15=>(idx p1 s6).bind fun x18=>(Xk x15 x18).bind fun r21=>some (!r21) : Option (Bool)).bind fun j11=>if j11 = true then (some (Fl.ex (Fl.ex false))) else (some (Fl.nx (wr (s6 + 1))))) else (some (Fl.ex (Fl.nx ())))
def Un (p0 : (List (Vector UInt8 16))) (p1 : (List (Vector UInt8 16))) : Option (Bool) :=
 if ((p0.length : Int) != (p1.length : Int)) = true then (some false) else ((ZD (Tn p0 p1) 0).bind fun j2=>j2.el (fun s5=>some true) (fun r=>some r))
theorem B8 (w0 : World) (p0 : (List (Vector UInt8 16))) (v0_1 : Value) (hv0_1 : Ro w0 p0 [v0_1]) (p1 : (List (Vector UInt8 16))) (v1_1 : Value) (hv1_1 : Ro w0 p1 [v1_1]) (r : Bool) (hF : Un p0 p1 = some r) :
  Calls Tryz.prog 51 [v0_1,v1_1].toArray w0 (Rt w0 (vT r)):=by
 refine ce Tryz.func51 ?_
 intro a hE
 have hM:=M.start w0
 unfold Un at hF
 refine Za (Zb hE rfl fun a hE=>Zf (wp_seq (Za (Ze hE rfl fun a hE=>ZZ hE rfl Tryz.underlying33 (hM.rd hv0_1) fun a hE=>Ze hE rfl fun a hE=>ZZ hE rfl Tryz.underlying33 (hM.rd hv1_1) fun a hE=>Zk hE rfl rfl rfl fun a hE=>Zf ?_))))
 refine Zq hE rfl ?_ ?_
 ·intro hb1
  have hF:=Zu hF hb1
  refine Za (Zb hE rfl fun a hE=>Zf ?_)
  obtain rfl:=Option.some.inj hF
  exact wp_ret (Zs (kr1 hE rfl rfl hM.kept))
 ·intro hb1
  have hF:=Zt hF hb1
  refine wp_skip (Zy (wp_seq (Za (Zb hE rfl fun a hE=>Zf ?_))))
  obtain ⟨j2,hl3,hF4⟩:=bind_some hF
  refine ZJ (fun a w=>∃ s5 : Unit,j2 = Fl.nx s5 ∧ Env 27 a [] ∧ M (Old w0) w0 w []) ?_ ?_
  ·skip
   refine wp_block ?_
   refine ZE (fun (s6 : Int) a w=>Env 27 a [(0,v0_1),(1,v1_1),(5,vI s6)] ∧ M (Old w0) w0 w []) hl3 ⟨hE.sub ⟨rfl,rfl,rfl,trivial⟩,hM⟩ ?_
   rintro s6 a w ⟨hE,hM⟩ o9 hs7 hx8
   unfold Tn at hs7
   refine wp_seq (Za (Ze hE rfl fun a hE=>Ze hE rfl fun a hE=>ZZ hE rfl Tryz.underlying33 (hM.rd hv0_1) fun a hE=>Zk hE rfl rfl rfl fun a hE=>Zf ?_))
   refine Zq hE rfl ?_ ?_
   ·intro hb10
    have hs7:=Zu hs7 hb10
    refine wp_skip (Zy (wp_seq (wp_block ?_)))
    obtain ⟨j11,hl12,hF13⟩:=bind_some hs7
    refine ZI (fun a w=>Env 27 a [(0,v0_1),(1,v1_1),(5,vI s6),(26,vT j11)] ∧ M (Old w0) w0 w []) ?_ ?_
    ·skip
     obtain ⟨x15,hi17,hl12⟩:=bix hl12
     obtain ⟨x18,hi20,hl12⟩:=bix hl12
     obtain ⟨r21,e22,hl12⟩:=bind_some hl12
     refine ZX (n:=27) (hd:=[_,_,_,_,_,_,_,_,_,_]) (tl:=[]) Yx rfl rfl [17,18,19,20,21,22,23,24,25,26] (by decide) (fun w=>M (Old w0) w0 w []) (fun j=>([fun v _=>v = v0_1,fun v _=>v = (vI s6),fun v _=>v = (ptr (sb v0_1) (so v0_1 + (s6).toNat * 16)),fun v _=>v = (Value.agg (enc x15).toArray),fun v _=>v = v1_1,fun v _=>v = (vI s6),fun v _=>v = (ptr (sb v1_1) (so v1_1 + (s6).toNat * 16)),fun v _=>v = (Value.agg (enc x18).toArray),fun v _=>v = (vT r21),fun v _=>v = (vT (!r21))] : List (Value → World → Prop)).getD j (fun _ _=>True)) (fun _ _ h hk=>h.keep hk) (gup gu10) hE hM.drew (ky ?_ ?_ ?_ ?_ ?_ ?_ ?_ ?_ ?_ ?_) ?_
     ·exact qm
     ·exact qm
     ·intro a w ux14 hE hM hp
      have f0 : ux14 0 = v0_1:=hp 0 _ rfl rfl
      have f1 : ux14 1 = (vI s6):=hp 1 _ rfl rfl
      exact ZK hE (lk rfl f0) (lk rfl f1) Tryz.underlying33 ZF (hM.rd hv0_1) hi17.1 fun a hE=>kq rfl hE rfl
     ·intro a w ux14 hE hM hp
      have f2 : ux14 2 = (ptr (sb v0_1) (so v0_1 + (s6).toNat * 16)):=hp 0 _ rfl rfl
      exact Zn hE (lk rfl f2) ZF rfl (Ys (hM.rd hv0_1) hi17.2) (Flat.len _) fun a hE=>kq rfl hE rfl
     ·exact qm
     ·exact qm
     ·intro a w ux14 hE hM hp
      have f4 : ux14 4 = v1_1:=hp 0 _ rfl rfl
      have f5 : ux14 5 = (vI s6):=hp 1 _ rfl rfl
      exact ZK hE (lk rfl f4) (lk rfl f5) Tryz.underlying33 ZF (hM.rd hv1_1) hi20.1 fun a hE=>kq rfl hE rfl
     ·intro a w ux14 hE hM hp
      have f6 : ux14 6 = (ptr (sb v1_1) (so v1_1 + (s6).toNat * 16)):=hp 0 _ rfl rfl
      exact Zn hE (lk rfl f6) ZF rfl (Ys (hM.rd hv1_1) hi20.2) (Flat.len _) fun a hE=>kq rfl hE rfl
     ·intro a w ux14 hE hM hp
      have f3 : ux14 3 = (Value.agg (enc x15).toArray):=hp 0 _ rfl rfl
      have f7 : ux14 7 = (Value.agg (enc x18).toArray):=hp 1 _ rfl rfl
      refine Zv hE (ZU (ZR (lk rfl f3) (ZR (lk rfl f7) Xf))) cb18 (Qh _ x15 x18 r21 e22) ?_
      rintro v w a ⟨rfl,hK⟩ hE
      exact ⟨hK,_,_,rfl,hE,rfl⟩
     ·intro a w ux14 hE hM hp
      have f8 : ux14 8 = (vT r21):=hp 0 _ rfl rfl
      exact YO hE (lk rfl f8) fun a hE=>kq rfl hE rfl
     ·intro a w ux14 hE hM hg
      have hE:=hE.sub (e':=[(26,(vT (!r21))),(0,v0_1),(1,v1_1),(5,vI s6),(11,vI s6),(12,v0_1),(13,(vI (p0.length : Int))),(14,(vT (decide (s6 < (p0.length : Int)))))]) ⟨lk rfl (hg 9 (by decide)),rfl,rfl,rfl,rfl,rfl,rfl,rfl,trivial⟩
      refine Zj ?_
      obtain rfl:=Option.some.inj hl12
      refine Zl ?_
      exact ⟨hE.sub ⟨rfl,rfl,rfl,rfl,trivial⟩,hM⟩
    ·skip
     rintro a w ⟨hE,hM⟩
     refine Zq hE rfl ?_ ?_
     ·intro hb24
      have hF13:=Zu hF13 hb24
      refine Za (Zb hE rfl fun a hE=>Zf ?_)
      obtain rfl:=hx8 _ (ois hF13)
      obtain rfl:=Option.some.inj hF4
      exact wp_ret (Z4 (Zs (Zs (Z4 (Zs (Zs (kr1 hE rfl rfl hM.kept)))))))
     ·intro hb24
      have hF13:=Zt hF13 hb24
      refine wp_skip (Z0 (Zy (wp_region_lit (Ze hE rfl fun a hE=>Zk hE rfl rfl rfl fun a hE=>Zb hE rfl fun a hE=>Zj (Zl ?_)))))
      exact ⟨_,(ois hF13),hE.sub ⟨rfl,rfl,rfl,trivial⟩,hM⟩
   ·intro hb10
    have hs7:=Zt hs7 hb10
    refine wp_exit (Zp (Zp (Z1 ?_)))
    obtain rfl:=hx8 _ (ois hs7)
    refine Zl ?_
    exact ⟨(),rfl,hE.sub trivial,hM⟩
  ·skip
   rintro a w ⟨s5,ht,hE,hM⟩
   subst ht
   have hF4:=X7 hF4
   refine Zy (Za (Zb hE rfl fun a hE=>Zf ?_))
   obtain rfl:=Option.some.inj hF4
   exact wp_ret (kr1 hE rfl rfl hM.kept)
def TB (p0 : (Vector UInt8 32)) (p1 : (Vector UInt8 32)) (s9 : Int) : Option (Fl Int (Fl Unit Bool)) :=
 if (decide (s9 < 32)) = true then (((ZC p0 s9).bind fun x19=>(ZC p1 s9).bind fun x22=>some (x19 != x22) : Option (Bool)).bind fun j14=>if j14 = true then (some (Fl.ex (Fl.ex false))) else (some (Fl.nx (wr (s9 + 1))))) else (some (Fl.ex (Fl.nx ())))
def Y5 (p0 : (Vector UInt8 32)) (p1 : (Vector UInt8 32)) : Option (Bool) :=
 (ZD (TB p0 p1) 0).bind fun j5=>j5.el (fun s8=>some true) (fun r=>some r)
theorem TS (w0 : World) (p0 : (Vector UInt8 32)) (p1 : (Vector UInt8 32)) (r : Bool) (hF : Y5 p0 p1 = some r) :
  Calls Tryz.prog 54 [(Value.agg (enc p0).toArray),(Value.agg (enc p1).toArray)].toArray w0 (Rt w0 (vT r)):=by
 refine ce Tryz.func54 ?_
 intro a hE
 have hM:=M.start w0
 unfold Y5 at hF
 refine Za (ZM (cs:=enc p0) hE hM Zd ld rfl rfl fun b1 w a hM hE=>ZM (cs:=enc p1) hE hM Zd ld rfl rfl fun b3 w a hM hE=>Zb hE rfl fun a hE=>Zf (wp_seq (Za (Zb hE rfl fun a hE=>Zf ?_))))
 obtain ⟨j5,hl6,hF7⟩:=bind_some hF
 refine ZJ (fun a w=>∃ s8 : Unit,j5 = Fl.nx s8 ∧ Env 17 a [] ∧ M (Old w0) w0 w []) ?_ ?_
 ·skip
  refine wp_block ?_
  refine ZE (fun (s9 : Int) a w=>Env 17 a [(2,(ptr b1 0)),(3,(ptr b3 0)),(5,vI s9)] ∧ M (Old w0) w0 w [raw b3 (enc p1),raw b1 (enc p0)]) hl6 ⟨hE.sub ⟨rfl,rfl,rfl,trivial⟩,hM⟩ ?_
  rintro s9 a w ⟨hE,hM⟩ o12 hs10 hx11
  unfold TB at hs10
  refine wp_seq (Za (Ze hE rfl fun a hE=>Zk hE rfl rfl rfl fun a hE=>Zf ?_))
  refine Zq hE rfl ?_ ?_
  ·intro hb13
   have hs10:=Zu hs10 hb13
   refine wp_skip (Zy (wp_seq (wp_block ?_)))
   obtain ⟨j14,hl15,hF16⟩:=bind_some hs10
   refine ZI (fun a w=>Env 17 a [(2,(ptr b1 0)),(3,(ptr b3 0)),(5,vI s9),(16,vT j14)] ∧ M (Old w0) w0 w [raw b3 (enc p1),raw b1 (enc p0)]) ?_ ?_
   ·skip
    obtain ⟨x19,hi18,hl15⟩:=bvx hl15
    obtain ⟨x22,hi21,hl15⟩:=bvx hl15
    refine ZX (n:=17) (hd:=[_,_,_,_,_,_,_]) (tl:=[]) Yx rfl rfl [10,11,12,13,14,15,16] (by decide) (fun w=>M (Old w0) w0 w [raw b3 (enc p1),raw b1 (enc p0)]) (fun j=>([fun v _=>v = (vI s9),fun v _=>v = (ptr b1 (0 + (s9).toNat * 1)),fun v _=>v = (vB x19),fun v _=>v = (vI s9),fun v _=>v = (ptr b3 (0 + (s9).toNat * 1)),fun v _=>v = (vB x22),fun v _=>v = (vT (x19 != x22))] : List (Value → World → Prop)).getD j (fun _ _=>True)) (fun _ _ h hk=>h.keep hk) (gup gu7) hE hM.drew (st7 ?_ ?_ ?_ ?_ ?_ ?_ ?_) ?_
    ·exact qm
    ·intro a w ux17 hE hM hp
     have f0 : ux17 0 = (vI s9):=hp 0 _ rfl rfl
     exact Zm hE rfl (lk rfl f0) Tryz.underlying37 ty5 hi18.1 fun a hE=>kq rfl hE rfl
    ·intro a w ux17 hE hM hp
     have f1 : ux17 1 = (ptr b1 (0 + (s9).toNat * 1)):=hp 0 _ rfl rfl
     exact Zx (v:=(vB x19)) hE (lk rfl f1) ty5 rfl (At.vec hM.rawAt1 hi18.2) fun a hE=>kq rfl hE rfl
    ·exact qm
    ·intro a w ux17 hE hM hp
     have f3 : ux17 3 = (vI s9):=hp 0 _ rfl rfl
     exact Zm hE rfl (lk rfl f3) Tryz.underlying37 ty5 hi21.1 fun a hE=>kq rfl hE rfl
    ·intro a w ux17 hE hM hp
     have f4 : ux17 4 = (ptr b3 (0 + (s9).toNat * 1)):=hp 0 _ rfl rfl
     exact Zx (v:=(vB x22)) hE (lk rfl f4) ty5 rfl (At.vec hM.rawAt0 hi21.2) fun a hE=>kq rfl hE rfl
    ·intro a w ux17 hE hM hp
     have f2 : ux17 2 = (vB x19):=hp 0 _ rfl rfl
     have f5 : ux17 5 = (vB x22):=hp 1 _ rfl rfl
     exact Zk hE (lk rfl f2) (lk rfl f5) (Kq x19 x22) fun a hE=>kq rfl hE rfl
    ·intro a w ux17 hE hM hg
     have hE:=hE.sub (e':=[(16,(vT (x19 != x22))),(2,(ptr b1 0)),(3,(ptr b3 0)),(5,vI s9),(6,vI s9),(7,(vT (decide (s9 < 32))))]) ⟨lk rfl (hg 6 (by decide)),rfl,rfl,rfl,rfl,rfl,trivial⟩
     refine Zj ?_
     obtain rfl:=Option.some.inj hl15
     refine Zl ?_
     exact ⟨hE.sub ⟨rfl,rfl,rfl,rfl,trivial⟩,hM⟩
   ·skip
    rintro a w ⟨hE,hM⟩
    refine Zq hE rfl ?_ ?_
    ·intro hb25
     have hF16:=Zu hF16 hb25
     refine Za (Zb hE rfl fun a hE=>Zf ?_)
     obtain rfl:=hx11 _ (ois hF16)
     obtain rfl:=Option.some.inj hF7
     exact wp_ret (Z4 (Zs (Zs (Z4 (Zs (Zs (kr1 hE rfl rfl hM.kept)))))))
    ·intro hb25
     have hF16:=Zt hF16 hb25
     refine wp_skip (Z0 (Zy (wp_region_lit (Ze hE rfl fun a hE=>Zk hE rfl rfl rfl fun a hE=>Zb hE rfl fun a hE=>Zj (Zl ?_)))))
     exact ⟨_,(ois hF16),hE.sub ⟨rfl,rfl,rfl,trivial⟩,hM⟩
  ·intro hb13
   have hs10:=Zt hs10 hb13
   refine wp_exit (Zp (Zp (Z1 ?_)))
   obtain rfl:=hx11 _ (ois hs10)
   refine Zl ?_
   have hM:=M.fst (l:=[]) hM
   exact ⟨(),rfl,hE.sub trivial,hM⟩
 ·skip
  rintro a w ⟨s8,ht,hE,hM⟩
  subst ht
  have hF7:=X7 hF7
  refine Zy (Za (Zb hE rfl fun a hE=>Zf ?_))
  obtain rfl:=Option.some.inj hF7
  exact wp_ret (kr1 hE rfl rfl hM.kept)
def WZ (p0 : GRecord) (p1 : GRecord) : Option (Bool) :=
 if (p0.Number != p1.Number) = true then (some false) else (if (p0.Version != p1.Version) = true then (some false) else ((Xk p0.Nonce p1.Nonce).bind fun r7=>if (!r7) = true then (some false) else ((Xo p0.Label p1.Label).bind fun r10=>if (!r10) = true then (some false) else ((Xo p0.Body p1.Body).bind fun r13=>if (!r13) = true then (some false) else ((Y5 p0.Tag p1.Tag).bind fun r16=>if (!r16) = true then (some false) else (some true))))))
theorem Aj (w0 : World) (p0 : GRecord) (v0_1 : Value) (hv0_1 : Ro w0 p0.Label [v0_1]) (v0_2 : Value) (hv0_2 : Ro w0 p0.Body [v0_2]) (p1 : GRecord) (v1_1 : Value) (hv1_1 : Ro w0 p1.Label [v1_1]) (v1_2 : Value) (hv1_2 : Ro w0 p1.Body [v1_2]) (r : Bool) (hF : WZ p0 p1 = some r) :
  Calls Tryz.prog 115 [(Value.agg (cat [[vI p0.Number],[vI p0.Version],enc p0.Nonce,[v0_1],[v0_2],enc p0.Tag]).toArray),(Value.agg (cat [[vI p1.Number],[vI p1.Version],enc p1.Nonce,[v1_1],[v1_2],enc p1.Tag]).toArray)].toArray w0 (Rt w0 (vT r)):=by
 refine ce Tryz.func115 ?_
 intro a hE
 have hM:=M.start w0
 unfold WZ at hF
 refine Za (ZM (cs:=cat [[vI p0.Number],[vI p0.Version],enc p0.Nonce,[v0_1],[v0_2],enc p0.Tag]) hE hM Zd ld rfl rfl fun b1 w a hM hE=>ZM (cs:=cat [[vI p1.Number],[vI p1.Version],enc p1.Nonce,[v1_1],[v1_2],enc p1.Tag]) hE hM Zd ld rfl rfl fun b3 w a hM hE=>Zb hE rfl fun a hE=>Zf (wp_seq (Za (Zg hE rfl (Qi) fun a hE=>Zx (v:=(vI p0.Number)) hE rfl ty2 rfl (At.cat (pre:=[]) hM.rawAt1 cl0) fun a hE=>Zg hE rfl (Qi) fun a hE=>Zx (v:=(vI p1.Number)) hE rfl ty2 rfl (At.cat (pre:=[]) hM.rawAt0 cl0) fun a hE=>Zk hE rfl rfl rfl fun a hE=>Zf ?_))))
 refine Zq hE rfl ?_ ?_
 ·intro hb5
  have hF:=Zu hF hb5
  refine Za (Zb hE rfl fun a hE=>Zf ?_)
  obtain rfl:=Option.some.inj hF
  exact wp_ret (Zs (kr1 hE rfl rfl hM.kept))
 ·intro hb5
  have hF:=Zt hF hb5
  refine wp_skip (Zy (wp_seq (Za (Zg hE rfl (KK) fun a hE=>Zx (v:=(vI p0.Version)) hE rfl ty2 rfl (At.cat (pre:=[[vI p0.Number]]) hM.rawAt1 ck) fun a hE=>Zg hE rfl (KK) fun a hE=>Zx (v:=(vI p1.Version)) hE rfl ty2 rfl (At.cat (pre:=[[vI p1.Number]]) hM.rawAt0 ck) fun a hE=>Zk hE rfl rfl rfl fun a hE=>Zf ?_))))
  refine Zq hE rfl ?_ ?_
  ·intro hb6
   have hF:=Zu hF hb6
   refine Za (Zb hE rfl fun a hE=>Zf ?_)
   obtain rfl:=Option.some.inj hF
   exact wp_ret (Zs (kr1 hE rfl rfl hM.kept))
  ·intro hb6
   have hF:=Zt hF hb6
   refine wp_skip (Zy (wp_seq (Za (Zg hE rfl (yW) fun a hE=>Zn hE rfl ZF rfl (At.cat (pre:=[[vI p0.Number],[vI p0.Version]]) hM.rawAt1 ck) (Flat.len _) fun a hE=>Zg hE rfl (yW) fun a hE=>Zn hE rfl ZF rfl (At.cat (pre:=[[vI p1.Number],[vI p1.Version]]) hM.rawAt0 ck) (Flat.len _) ?_)))); intro a hE
   obtain ⟨r7,e8,hF⟩:=bind_some hF
   refine Zv hE rfl cb18 (Qh _ p0.Nonce p1.Nonce r7 e8) ?_
   rintro v w a ⟨rfl,hK⟩ hE
   have hM:=hM.keep hK
   refine YO hE rfl fun a hE=>Zf ?_
   refine Zq hE rfl ?_ ?_
   ·intro hb9
    have hF:=Zu hF hb9
    refine Za (Zb hE rfl fun a hE=>Zf ?_)
    obtain rfl:=Option.some.inj hF
    exact wp_ret (Zs (kr1 hE rfl rfl hM.kept))
   ·intro hb9
    have hF:=Zt hF hb9
    refine wp_skip (Zy (wp_seq (Za (Zg hE rfl (JJ) fun a hE=>Zx (v:=v0_1) hE rfl XB rfl (At.cat (pre:=[[vI p0.Number],[vI p0.Version],enc p0.Nonce]) hM.rawAt1 ck) fun a hE=>Zg hE rfl (JJ) fun a hE=>Zx (v:=v1_1) hE rfl XB rfl (At.cat (pre:=[[vI p1.Number],[vI p1.Version],enc p1.Nonce]) hM.rawAt0 ck) ?_)))); intro a hE
    obtain ⟨r10,e11,hF⟩:=bind_some hF
    refine Zv hE rfl cb19 (Qq _ p0.Label v0_1 (hM.rdo hv0_1) p1.Label v1_1 (hM.rdo hv1_1) r10 e11) ?_
    rintro v w a ⟨rfl,hK⟩ hE
    have hM:=hM.keep hK
    refine YO hE rfl fun a hE=>Zf ?_
    refine Zq hE rfl ?_ ?_
    ·intro hb12
     have hF:=Zu hF hb12
     refine Za (Zb hE rfl fun a hE=>Zf ?_)
     obtain rfl:=Option.some.inj hF
     exact wp_ret (Zs (kr1 hE rfl rfl hM.kept))
    ·intro hb12
     have hF:=Zt hF hb12
     refine wp_skip (Zy (wp_seq (Za (Zg hE rfl (HK) fun a hE=>Zx (v:=v0_2) hE rfl XB rfl (At.cat (pre:=[[vI p0.Number],[vI p0.Version],enc p0.Nonce,[v0_1]]) hM.rawAt1 ck) fun a hE=>Zg hE rfl (HK) fun a hE=>Zx (v:=v1_2) hE rfl XB rfl (At.cat (pre:=[[vI p1.Number],[vI p1.Version],enc p1.Nonce,[v1_1]]) hM.rawAt0 ck) ?_)))); intro a hE
     obtain ⟨r13,e14,hF⟩:=bind_some hF
     refine Zv hE rfl cb19 (Qq _ p0.Body v0_2 (hM.rdo hv0_2) p1.Body v1_2 (hM.rdo hv1_2) r13 e14) ?_
     rintro v w a ⟨rfl,hK⟩ hE
     have hM:=hM.keep hK
     refine YO hE rfl fun a hE=>Zf ?_
     refine Zq hE rfl ?_ ?_
     ·intro hb15
      have hF:=Zu hF hb15
      refine Za (Zb hE rfl fun a hE=>Zf ?_)
      obtain rfl:=Option.some.inj hF
      exact wp_ret (Zs (kr1 hE rfl rfl hM.kept))
     ·intro hb15
      have hF:=Zt hF hb15
      refine wp_skip (Zy (wp_seq (Za (Zg hE rfl (yD) fun a hE=>Zn hE rfl Yr rfl (At.cat (pre:=[[vI p0.Number],[vI p0.Version],enc p0.Nonce,[v0_1],[v0_2]]) hM.rawAt1 ck) (Flat.len _) fun a hE=>Zg hE rfl (yD) fun a hE=>Zn hE rfl Yr rfl (At.cat (pre:=[[vI p1.Number],[vI p1.Version],enc p1.Nonce,[v1_1],[v1_2]]) hM.rawAt0 ck) (Flat.len _) ?_)))); intro a hE
      obtain ⟨r16,e17,hF⟩:=bind_some hF
      refine Zv hE rfl cb54 (TS _ p0.Tag p1.Tag r16 e17) ?_
      rintro v w a ⟨rfl,hK⟩ hE
      have hM:=hM.keep hK
      refine YO hE rfl fun a hE=>Zf ?_
      refine Zq hE rfl ?_ ?_
      ·intro hb18
       have hF:=Zu hF hb18
       refine Za (Zb hE rfl fun a hE=>Zf ?_)
       obtain rfl:=Option.some.inj hF
       exact wp_ret (Zs (kr1 hE rfl rfl hM.kept))
      ·intro hb18
       have hF:=Zt hF hb18
       refine wp_skip (Zy (Za (Zb hE rfl fun a hE=>Zf ?_)))
       obtain rfl:=Option.some.inj hF
       exact wp_ret (kr1 hE rfl rfl hM.kept)
def UF (p0 : (List GRecord)) (p1 : (List GRecord)) (s6 : Int) : Option (Fl Int (Fl Unit Bool)) :=
 if (decide (s6 < (p0.length : Int))) = true then (((idx p0 s6).bind fun x15=>(idx p1 s6).bind fun x25=>(WZ x15 x25).bind fun r35=>some (!r35) : Option (Bool)).bind fun j11=>if j11 = true then (some (Fl.ex (Fl.ex false))) else (some (Fl.nx (wr (s6 + 1))))) else (some (Fl.ex (Fl.nx ())))
def VC (p0 : (List GRecord)) (p1 : (List GRecord)) : Option (Bool) :=
 if ((p0.length : Int) != (p1.length : Int)) = true then (some false) else ((ZD (UF p0 p1) 0).bind fun j2=>j2.el (fun s5=>some true) (fun r=>some r))
theorem H7 (w0 : World) (p0 : (List GRecord)) (v0_1 : Value) (hv0_1 : Ro w0 p0 [v0_1]) (p1 : (List GRecord)) (v1_1 : Value) (hv1_1 : Ro w0 p1 [v1_1]) (r : Bool) (hF : VC p0 p1 = some r) :
  Calls Tryz.prog 52 [v0_1,v1_1].toArray w0 (Rt w0 (vT r)):=by
 refine ce Tryz.func52 ?_
 intro a hE
 have hM:=M.start w0
 unfold VC at hF
 refine Za (Zb hE rfl fun a hE=>Zf (wp_seq (Za (Ze hE rfl fun a hE=>ZZ hE rfl Tryz.underlying34 (hM.rd hv0_1) fun a hE=>Ze hE rfl fun a hE=>ZZ hE rfl Tryz.underlying34 (hM.rd hv1_1) fun a hE=>Zk hE rfl rfl rfl fun a hE=>Zf ?_))))
 refine Zq hE rfl ?_ ?_
 ·intro hb1
  have hF:=Zu hF hb1
  refine Za (Zb hE rfl fun a hE=>Zf ?_)
  obtain rfl:=Option.some.inj hF
  exact wp_ret (Zs (kr1 hE rfl rfl hM.kept))
 ·intro hb1
  have hF:=Zt hF hb1
  refine wp_skip (Zy (wp_seq (Za (Zb hE rfl fun a hE=>Zf ?_))))
  obtain ⟨j2,hl3,hF4⟩:=bind_some hF
  refine ZJ (fun a w=>∃ s5 : Unit,j2 = Fl.nx s5 ∧ Env 27 a [] ∧ M (Old w0) w0 w []) ?_ ?_
  ·skip
   refine wp_block ?_
   refine ZE (fun (s6 : Int) a w=>Env 27 a [(0,v0_1),(1,v1_1),(5,vI s6)] ∧ M (Old w0) w0 w []) hl3 ⟨hE.sub ⟨rfl,rfl,rfl,trivial⟩,hM⟩ ?_
   rintro s6 a w ⟨hE,hM⟩ o9 hs7 hx8
   unfold UF at hs7
   refine wp_seq (Za (Ze hE rfl fun a hE=>Ze hE rfl fun a hE=>ZZ hE rfl Tryz.underlying34 (hM.rd hv0_1) fun a hE=>Zk hE rfl rfl rfl fun a hE=>Zf ?_))
   refine Zq hE rfl ?_ ?_
   ·intro hb10
    have hs7:=Zu hs7 hb10
    refine wp_skip (Zy (wp_seq (wp_block ?_)))
    obtain ⟨j11,hl12,hF13⟩:=bind_some hs7
    refine ZI (fun a w=>Env 27 a [(0,v0_1),(1,v1_1),(5,vI s6),(26,vT j11)] ∧ M (Old w0) w0 w []) ?_ ?_
    ·skip
     obtain ⟨x15,hi17,hl12⟩:=bix hl12
     obtain ⟨cs18,hs19,hA20⟩:=Vl hv0_1 hi17.2 -- ^
     obtain ⟨u21,u23,rfl,h22,h24⟩:=T2 hs19 -- ^
     obtain ⟨x25,hi27,hl12⟩:=bix hl12
     obtain ⟨cs28,hs29,hA30⟩:=Vl hv1_1 hi27.2 -- ^
     obtain ⟨u31,u33,rfl,h32,h34⟩:=T2 hs29 -- ^
     obtain ⟨r35,e36,hl12⟩:=bind_some hl12
     refine ZX (n:=27) (hd:=[_,_,_,_,_,_,_,_,_,_]) (tl:=[]) Yx rfl rfl [17,18,19,20,21,22,23,24,25,26] (by decide) (fun w=>M (Old w0) w0 w []) (fun j=>([fun v _=>v = v0_1,fun v _=>v = (vI s6),fun v _=>v = (ptr (sb v0_1) (so v0_1 + (s6).toNat * 52)),fun v _=>v = (Value.agg (cat [[vI x15.Number],[vI x15.Version],enc x15.Nonce,[u21],[u23],enc x15.Tag]).toArray),fun v _=>v = v1_1,fun v _=>v = (vI s6),fun v _=>v = (ptr (sb v1_1) (so v1_1 + (s6).toNat * 52)),fun v _=>v = (Value.agg (cat [[vI x25.Number],[vI x25.Version],enc x25.Nonce,[u31],[u33],enc x25.Tag]).toArray),fun v _=>v = (vT r35),fun v _=>v = (vT (!r35))] : List (Value → World → Prop)).getD j (fun _ _=>True)) (fun _ _ h hk=>h.keep hk) (gup gu10) hE hM.drew (ky ?_ ?_ ?_ ?_ ?_ ?_ ?_ ?_ ?_ ?_) ?_
     ·exact qm
     ·exact qm
     ·intro a w ux14 hE hM hp
      have f0 : ux14 0 = v0_1:=hp 0 _ rfl rfl
      have f1 : ux14 1 = (vI s6):=hp 1 _ rfl rfl
      exact ZK hE (lk rfl f0) (lk rfl f1) Tryz.underlying34 Vx (hM.rd hv0_1) hi17.1 fun a hE=>kq rfl hE rfl
     ·intro a w ux14 hE hM hp
      have f2 : ux14 2 = (ptr (sb v0_1) (so v0_1 + (s6).toNat * 52)):=hp 0 _ rfl rfl
      exact Zn hE (lk rfl f2) Vx rfl (hM.atk hA20 (VY hv0_1 hi17.2)) cq fun a hE=>kq rfl hE rfl
     ·exact qm
     ·exact qm
     ·intro a w ux14 hE hM hp
      have f4 : ux14 4 = v1_1:=hp 0 _ rfl rfl
      have f5 : ux14 5 = (vI s6):=hp 1 _ rfl rfl
      exact ZK hE (lk rfl f4) (lk rfl f5) Tryz.underlying34 Vx (hM.rd hv1_1) hi27.1 fun a hE=>kq rfl hE rfl
     ·intro a w ux14 hE hM hp
      have f6 : ux14 6 = (ptr (sb v1_1) (so v1_1 + (s6).toNat * 52)):=hp 0 _ rfl rfl
      exact Zn hE (lk rfl f6) Vx rfl (hM.atk hA30 (VY hv1_1 hi27.2)) cq fun a hE=>kq rfl hE rfl
     ·intro a w ux14 hE hM hp
      have f3 : ux14 3 = (Value.agg (cat [[vI x15.Number],[vI x15.Version],enc x15.Nonce,[u21],[u23],enc x15.Tag]).toArray):=hp 0 _ rfl rfl
      have f7 : ux14 7 = (Value.agg (cat [[vI x25.Number],[vI x25.Version],enc x25.Nonce,[u31],[u33],enc x25.Tag]).toArray):=hp 1 _ rfl rfl
      refine Zv hE (ZU (ZR (lk rfl f3) (ZR (lk rfl f7) Xf))) (cbm Tryz.func115) (Aj _ x15 u21 (hM.rdo h22) u23 (hM.rdo h24) x25 u31 (hM.rdo h32) u33 (hM.rdo h34) r35 e36) ?_
      rintro v w a ⟨rfl,hK⟩ hE
      exact ⟨hK,_,_,rfl,hE,rfl⟩
     ·intro a w ux14 hE hM hp
      have f8 : ux14 8 = (vT r35):=hp 0 _ rfl rfl
      exact YO hE (lk rfl f8) fun a hE=>kq rfl hE rfl
     ·intro a w ux14 hE hM hg
      have hE:=hE.sub (e':=[(26,(vT (!r35))),(0,v0_1),(1,v1_1),(5,vI s6),(11,vI s6),(12,v0_1),(13,(vI (p0.length : Int))),(14,(vT (decide (s6 < (p0.length : Int)))))]) ⟨lk rfl (hg 9 (by decide)),rfl,rfl,rfl,rfl,rfl,rfl,rfl,trivial⟩
      refine Zj ?_
      obtain rfl:=Option.some.inj hl12
      refine Zl ?_
      exact ⟨hE.sub ⟨rfl,rfl,rfl,rfl,trivial⟩,hM⟩
    ·skip
     rintro a w ⟨hE,hM⟩
     refine Zq hE rfl ?_ ?_
     ·intro hb38
      have hF13:=Zu hF13 hb38
      refine Za (Zb hE rfl fun a hE=>Zf ?_)
      obtain rfl:=hx8 _ (ois hF13)
      obtain rfl:=Option.some.inj hF4
      exact wp_ret (Z4 (Zs (Zs (Z4 (Zs (Zs (kr1 hE rfl rfl hM.kept)))))))
     ·intro hb38
      have hF13:=Zt hF13 hb38
      refine wp_skip (Z0 (Zy (wp_region_lit (Ze hE rfl fun a hE=>Zk hE rfl rfl rfl fun a hE=>Zb hE rfl fun a hE=>Zj (Zl ?_)))))
      exact ⟨_,(ois hF13),hE.sub ⟨rfl,rfl,rfl,trivial⟩,hM⟩
   ·intro hb10
    have hs7:=Zt hs7 hb10
    refine wp_exit (Zp (Zp (Z1 ?_)))
    obtain rfl:=hx8 _ (ois hs7)
    refine Zl ?_
    exact ⟨(),rfl,hE.sub trivial,hM⟩
  ·skip
   rintro a w ⟨s5,ht,hE,hM⟩
   subst ht
   have hF4:=X7 hF4
   refine Zy (Za (Zb hE rfl fun a hE=>Zf ?_))
   obtain rfl:=Option.some.inj hF4
   exact wp_ret (kr1 hE rfl rfl hM.kept)
def VN (p0 : GEvent) (p1 : GEvent) : Option (Bool) :=
 if (p0.Kind != p1.Kind) = true then (some false) else (if (p0.Number != p1.Number) = true then (some false) else ((Y5 p0.Tag p1.Tag).bind fun r7=>if (!r7) = true then (some false) else (some true)))
theorem zH (w0 : World) (p0 : GEvent) (p1 : GEvent) (r : Bool) (hF : VN p0 p1 = some r) :
  Calls Tryz.prog 116 [(Value.agg (enc p0).toArray),(Value.agg (enc p1).toArray)].toArray w0 (Rt w0 (vT r)):=by
 refine ce Tryz.func116 ?_
 intro a hE
 have hM:=M.start w0
 unfold VN at hF
 refine Za (ZM (cs:=cat [[vI p0.Kind],[vI p0.Number],enc p0.Tag]) hE hM Zd ld rfl rfl fun b1 w a hM hE=>ZM (cs:=cat [[vI p1.Kind],[vI p1.Number],enc p1.Tag]) hE hM Zd ld rfl rfl fun b3 w a hM hE=>Zb hE rfl fun a hE=>Zf (wp_seq (Za (Zg hE rfl (Hv) fun a hE=>Zx (v:=(vI p0.Kind)) hE rfl ty2 rfl (At.cat (pre:=[]) hM.rawAt1 cl0) fun a hE=>Zg hE rfl (Hv) fun a hE=>Zx (v:=(vI p1.Kind)) hE rfl ty2 rfl (At.cat (pre:=[]) hM.rawAt0 cl0) fun a hE=>Zk hE rfl rfl rfl fun a hE=>Zf ?_))))
 refine Zq hE rfl ?_ ?_
 ·intro hb5
  have hF:=Zu hF hb5
  refine Za (Zb hE rfl fun a hE=>Zf ?_)
  obtain rfl:=Option.some.inj hF
  exact wp_ret (Zs (kr1 hE rfl rfl hM.kept))
 ·intro hb5
  have hF:=Zt hF hb5
  refine wp_skip (Zy (wp_seq (Za (Zg hE rfl (Hl) fun a hE=>Zx (v:=(vI p0.Number)) hE rfl ty2 rfl (At.cat (pre:=[[vI p0.Kind]]) hM.rawAt1 ck) fun a hE=>Zg hE rfl (Hl) fun a hE=>Zx (v:=(vI p1.Number)) hE rfl ty2 rfl (At.cat (pre:=[[vI p1.Kind]]) hM.rawAt0 ck) fun a hE=>Zk hE rfl rfl rfl fun a hE=>Zf ?_))))
  refine Zq hE rfl ?_ ?_
  ·intro hb6
   have hF:=Zu hF hb6
   refine Za (Zb hE rfl fun a hE=>Zf ?_)
   obtain rfl:=Option.some.inj hF
   exact wp_ret (Zs (kr1 hE rfl rfl hM.kept))
  ·intro hb6
   have hF:=Zt hF hb6
   refine wp_skip (Zy (wp_seq (Za (Zg hE rfl (yr) fun a hE=>Zn hE rfl Yr rfl (At.cat (pre:=[[vI p0.Kind],[vI p0.Number]]) hM.rawAt1 ck) (Flat.len _) fun a hE=>Zg hE rfl (yr) fun a hE=>Zn hE rfl Yr rfl (At.cat (pre:=[[vI p1.Kind],[vI p1.Number]]) hM.rawAt0 ck) (Flat.len _) ?_)))); intro a hE
   obtain ⟨r7,e8,hF⟩:=bind_some hF
   refine Zv hE rfl cb54 (TS _ p0.Tag p1.Tag r7 e8) ?_
   rintro v w a ⟨rfl,hK⟩ hE
   have hM:=hM.keep hK
   refine YO hE rfl fun a hE=>Zf ?_
   refine Zq hE rfl ?_ ?_
   ·intro hb9
    have hF:=Zu hF hb9
    refine Za (Zb hE rfl fun a hE=>Zf ?_)
    obtain rfl:=Option.some.inj hF
    exact wp_ret (Zs (kr1 hE rfl rfl hM.kept))
   ·intro hb9
    have hF:=Zt hF hb9
    refine wp_skip (Zy (Za (Zb hE rfl fun a hE=>Zf ?_)))
    obtain rfl:=Option.some.inj hF
    exact wp_ret (kr1 hE rfl rfl hM.kept)
def TA (p0 : (List GEvent)) (p1 : (List GEvent)) (s6 : Int) : Option (Fl Int (Fl Unit Bool)) :=
 if (decide (s6 < (p0.length : Int))) = true then (((idx p0 s6).bind fun x15=>(idx p1 s6).bind fun x18=>(VN x15 x18).bind fun r21=>some (!r21) : Option (Bool)).bind fun j11=>if j11 = true then (some (Fl.ex (Fl.ex false))) else (some (Fl.nx (wr (s6 + 1))))) else (some (Fl.ex (Fl.nx ())))
def Ud (p0 : (List GEvent)) (p1 : (List GEvent)) : Option (Bool) :=
 if ((p0.length : Int) != (p1.length : Int)) = true then (some false) else ((ZD (TA p0 p1) 0).bind fun j2=>j2.el (fun s5=>some true) (fun r=>some r))
theorem B1 (w0 : World) (p0 : (List GEvent)) (v0_1 : Value) (hv0_1 : Ro w0 p0 [v0_1]) (p1 : (List GEvent)) (v1_1 : Value) (hv1_1 : Ro w0 p1 [v1_1]) (r : Bool) (hF : Ud p0 p1 = some r) :
  Calls Tryz.prog 53 [v0_1,v1_1].toArray w0 (Rt w0 (vT r)):=by
 refine ce Tryz.func53 ?_
 intro a hE
 have hM:=M.start w0
 unfold Ud at hF
 refine Za (Zb hE rfl fun a hE=>Zf (wp_seq (Za (Ze hE rfl fun a hE=>ZZ hE rfl Tryz.underlying35 (hM.rd hv0_1) fun a hE=>Ze hE rfl fun a hE=>ZZ hE rfl Tryz.underlying35 (hM.rd hv1_1) fun a hE=>Zk hE rfl rfl rfl fun a hE=>Zf ?_))))
 refine Zq hE rfl ?_ ?_
 ·intro hb1
  have hF:=Zu hF hb1
  refine Za (Zb hE rfl fun a hE=>Zf ?_)
  obtain rfl:=Option.some.inj hF
  exact wp_ret (Zs (kr1 hE rfl rfl hM.kept))
 ·intro hb1
  have hF:=Zt hF hb1
  refine wp_skip (Zy (wp_seq (Za (Zb hE rfl fun a hE=>Zf ?_))))
  obtain ⟨j2,hl3,hF4⟩:=bind_some hF
  refine ZJ (fun a w=>∃ s5 : Unit,j2 = Fl.nx s5 ∧ Env 27 a [] ∧ M (Old w0) w0 w []) ?_ ?_
  ·skip
   refine wp_block ?_
   refine ZE (fun (s6 : Int) a w=>Env 27 a [(0,v0_1),(1,v1_1),(5,vI s6)] ∧ M (Old w0) w0 w []) hl3 ⟨hE.sub ⟨rfl,rfl,rfl,trivial⟩,hM⟩ ?_
   rintro s6 a w ⟨hE,hM⟩ o9 hs7 hx8
   unfold TA at hs7
   refine wp_seq (Za (Ze hE rfl fun a hE=>Ze hE rfl fun a hE=>ZZ hE rfl Tryz.underlying35 (hM.rd hv0_1) fun a hE=>Zk hE rfl rfl rfl fun a hE=>Zf ?_))
   refine Zq hE rfl ?_ ?_
   ·intro hb10
    have hs7:=Zu hs7 hb10
    refine wp_skip (Zy (wp_seq (wp_block ?_)))
    obtain ⟨j11,hl12,hF13⟩:=bind_some hs7
    refine ZI (fun a w=>Env 27 a [(0,v0_1),(1,v1_1),(5,vI s6),(26,vT j11)] ∧ M (Old w0) w0 w []) ?_ ?_
    ·skip
     obtain ⟨x15,hi17,hl12⟩:=bix hl12
     obtain ⟨x18,hi20,hl12⟩:=bix hl12
     obtain ⟨r21,e22,hl12⟩:=bind_some hl12
     refine ZX (n:=27) (hd:=[_,_,_,_,_,_,_,_,_,_]) (tl:=[]) Yx rfl rfl [17,18,19,20,21,22,23,24,25,26] (by decide) (fun w=>M (Old w0) w0 w []) (fun j=>([fun v _=>v = v0_1,fun v _=>v = (vI s6),fun v _=>v = (ptr (sb v0_1) (so v0_1 + (s6).toNat * 34)),fun v _=>v = (Value.agg (enc x15).toArray),fun v _=>v = v1_1,fun v _=>v = (vI s6),fun v _=>v = (ptr (sb v1_1) (so v1_1 + (s6).toNat * 34)),fun v _=>v = (Value.agg (enc x18).toArray),fun v _=>v = (vT r21),fun v _=>v = (vT (!r21))] : List (Value → World → Prop)).getD j (fun _ _=>True)) (fun _ _ h hk=>h.keep hk) (gup gu10) hE hM.drew (ky ?_ ?_ ?_ ?_ ?_ ?_ ?_ ?_ ?_ ?_) ?_
     ·exact qm
     ·exact qm
     ·intro a w ux14 hE hM hp
      have f0 : ux14 0 = v0_1:=hp 0 _ rfl rfl
      have f1 : ux14 1 = (vI s6):=hp 1 _ rfl rfl
      exact ZK hE (lk rfl f0) (lk rfl f1) Tryz.underlying35 T6 (hM.rd hv0_1) hi17.1 fun a hE=>kq rfl hE rfl
     ·intro a w ux14 hE hM hp
      have f2 : ux14 2 = (ptr (sb v0_1) (so v0_1 + (s6).toNat * 34)):=hp 0 _ rfl rfl
      exact Zn hE (lk rfl f2) T6 rfl (Ys (hM.rd hv0_1) hi17.2) cq fun a hE=>kq rfl hE rfl
     ·exact qm
     ·exact qm
     ·intro a w ux14 hE hM hp
      have f4 : ux14 4 = v1_1:=hp 0 _ rfl rfl
      have f5 : ux14 5 = (vI s6):=hp 1 _ rfl rfl
      exact ZK hE (lk rfl f4) (lk rfl f5) Tryz.underlying35 T6 (hM.rd hv1_1) hi20.1 fun a hE=>kq rfl hE rfl
     ·intro a w ux14 hE hM hp
      have f6 : ux14 6 = (ptr (sb v1_1) (so v1_1 + (s6).toNat * 34)):=hp 0 _ rfl rfl
      exact Zn hE (lk rfl f6) T6 rfl (Ys (hM.rd hv1_1) hi20.2) cq fun a hE=>kq rfl hE rfl
     ·intro a w ux14 hE hM hp
      have f3 : ux14 3 = (Value.agg (enc x15).toArray):=hp 0 _ rfl rfl
      have f7 : ux14 7 = (Value.agg (enc x18).toArray):=hp 1 _ rfl rfl
      refine Zv hE (ZU (ZR (lk rfl f3) (ZR (lk rfl f7) Xf))) (cbm Tryz.func116) (zH _ x15 x18 r21 e22) ?_
      rintro v w a ⟨rfl,hK⟩ hE
      exact ⟨hK,_,_,rfl,hE,rfl⟩
     ·intro a w ux14 hE hM hp
      have f8 : ux14 8 = (vT r21):=hp 0 _ rfl rfl
      exact YO hE (lk rfl f8) fun a hE=>kq rfl hE rfl
     ·intro a w ux14 hE hM hg
      have hE:=hE.sub (e':=[(26,(vT (!r21))),(0,v0_1),(1,v1_1),(5,vI s6),(11,vI s6),(12,v0_1),(13,(vI (p0.length : Int))),(14,(vT (decide (s6 < (p0.length : Int)))))]) ⟨lk rfl (hg 9 (by decide)),rfl,rfl,rfl,rfl,rfl,rfl,rfl,trivial⟩
      refine Zj ?_
      obtain rfl:=Option.some.inj hl12
      refine Zl ?_
      exact ⟨hE.sub ⟨rfl,rfl,rfl,rfl,trivial⟩,hM⟩
    ·skip
     rintro a w ⟨hE,hM⟩
     refine Zq hE rfl ?_ ?_
     ·intro hb24
      have hF13:=Zu hF13 hb24
      refine Za (Zb hE rfl fun a hE=>Zf ?_)
      obtain rfl:=hx8 _ (ois hF13)
      obtain rfl:=Option.some.inj hF4
      exact wp_ret (Z4 (Zs (Zs (Z4 (Zs (Zs (kr1 hE rfl rfl hM.kept)))))))
     ·intro hb24
      have hF13:=Zt hF13 hb24
      refine wp_skip (Z0 (Zy (wp_region_lit (Ze hE rfl fun a hE=>Zk hE rfl rfl rfl fun a hE=>Zb hE rfl fun a hE=>Zj (Zl ?_)))))
      exact ⟨_,(ois hF13),hE.sub ⟨rfl,rfl,rfl,trivial⟩,hM⟩
   ·intro hb10
    have hs7:=Zt hs7 hb10
    refine wp_exit (Zp (Zp (Z1 ?_)))
    obtain rfl:=hx8 _ (ois hs7)
    refine Zl ?_
    exact ⟨(),rfl,hE.sub trivial,hM⟩
  ·skip
   rintro a w ⟨s5,ht,hE,hM⟩
   subst ht
   have hF4:=X7 hF4
   refine Zy (Za (Zb hE rfl fun a hE=>Zf ?_))
   obtain rfl:=Option.some.inj hF4
   exact wp_ret (kr1 hE rfl rfl hM.kept)
def UO (p0 : GVault) (p1 : GVault) : Option (Bool) :=
 (Un p0.Keys p1.Keys).bind fun r5=>if (!r5) = true then (some false) else (if (p0.Next != p1.Next) = true then (some false) else ((VC p0.Records p1.Records).bind fun r9=>if (!r9) = true then (some false) else ((Ud p0.Events p1.Events).bind fun r12=>if (!r12) = true then (some false) else ((Y5 p0.Head p1.Head).bind fun r15=>if (!r15) = true then (some false) else (some true)))))
theorem A4 (w0 : World) (p0 : GVault) (v0_1 : Value) (hv0_1 : Ro w0 p0.Keys [v0_1]) (v0_2 : Value) (hv0_2 : Ro w0 p0.Records [v0_2]) (v0_3 : Value) (hv0_3 : Ro w0 p0.Events [v0_3]) (p1 : GVault) (v1_1 : Value) (hv1_1 : Ro w0 p1.Keys [v1_1]) (v1_2 : Value) (hv1_2 : Ro w0 p1.Records [v1_2]) (v1_3 : Value) (hv1_3 : Ro w0 p1.Events [v1_3]) (r : Bool) (hF : UO p0 p1 = some r) :
  Calls Tryz.prog 20 [(Value.agg (cat [[v0_1],[vI p0.Next],[v0_2],[v0_3],enc p0.Head]).toArray),(Value.agg (cat [[v1_1],[vI p1.Next],[v1_2],[v1_3],enc p1.Head]).toArray)].toArray w0 (Rt w0 (vT r)):=by
 refine ce Tryz.func20 ?_
 intro a hE
 have hM:=M.start w0
 unfold UO at hF
 refine Za (ZM (cs:=cat [[v0_1],[vI p0.Next],[v0_2],[v0_3],enc p0.Head]) hE hM Zd ld rfl rfl fun b1 w a hM hE=>ZM (cs:=cat [[v1_1],[vI p1.Next],[v1_2],[v1_3],enc p1.Head]) hE hM Zd ld rfl rfl fun b3 w a hM hE=>Zb hE rfl fun a hE=>Zf (wp_seq (Za (Zg hE rfl (Ks) fun a hE=>Zx (v:=v0_1) hE rfl zl rfl (At.cat (pre:=[]) hM.rawAt1 cl0) fun a hE=>Zg hE rfl (Ks) fun a hE=>Zx (v:=v1_1) hE rfl zl rfl (At.cat (pre:=[]) hM.rawAt0 cl0) ?_)))); intro a hE
 obtain ⟨r5,e6,hF⟩:=bind_some hF
 refine Zv hE rfl (cbm Tryz.func51) (B8 _ p0.Keys v0_1 (hM.rdo hv0_1) p1.Keys v1_1 (hM.rdo hv1_1) r5 e6) ?_
 rintro v w a ⟨rfl,hK⟩ hE
 have hM:=hM.keep hK
 refine YO hE rfl fun a hE=>Zf ?_
 refine Zq hE rfl ?_ ?_
 ·intro hb7
  have hF:=Zu hF hb7
  refine Za (Zb hE rfl fun a hE=>Zf ?_)
  obtain rfl:=Option.some.inj hF
  exact wp_ret (Zs (kr1 hE rfl rfl hM.kept))
 ·intro hb7
  have hF:=Zt hF hb7
  refine wp_skip (Zy (wp_seq (Za (Zg hE rfl (K1) fun a hE=>Zx (v:=(vI p0.Next)) hE rfl ty2 rfl (At.cat (pre:=[[v0_1]]) hM.rawAt1 ck) fun a hE=>Zg hE rfl (K1) fun a hE=>Zx (v:=(vI p1.Next)) hE rfl ty2 rfl (At.cat (pre:=[[v1_1]]) hM.rawAt0 ck) fun a hE=>Zk hE rfl rfl rfl fun a hE=>Zf ?_))))
  refine Zq hE rfl ?_ ?_
  ·intro hb8
   have hF:=Zu hF hb8
   refine Za (Zb hE rfl fun a hE=>Zf ?_)
   obtain rfl:=Option.some.inj hF
   exact wp_ret (Zs (kr1 hE rfl rfl hM.kept))
  ·intro hb8
   have hF:=Zt hF hb8
   refine wp_skip (Zy (wp_seq (Za (Zg hE rfl (KP) fun a hE=>Zx (v:=v0_2) hE rfl zO rfl (At.cat (pre:=[[v0_1],[vI p0.Next]]) hM.rawAt1 ck) fun a hE=>Zg hE rfl (KP) fun a hE=>Zx (v:=v1_2) hE rfl zO rfl (At.cat (pre:=[[v1_1],[vI p1.Next]]) hM.rawAt0 ck) ?_)))); intro a hE
   obtain ⟨r9,e10,hF⟩:=bind_some hF
   refine Zv hE rfl (cbm Tryz.func52) (H7 _ p0.Records v0_2 (hM.rdo hv0_2) p1.Records v1_2 (hM.rdo hv1_2) r9 e10) ?_
   rintro v w a ⟨rfl,hK⟩ hE
   have hM:=hM.keep hK
   refine YO hE rfl fun a hE=>Zf ?_
   refine Zq hE rfl ?_ ?_
   ·intro hb11
    have hF:=Zu hF hb11
    refine Za (Zb hE rfl fun a hE=>Zf ?_)
    obtain rfl:=Option.some.inj hF
    exact wp_ret (Zs (kr1 hE rfl rfl hM.kept))
   ·intro hb11
    have hF:=Zt hF hb11
    refine wp_skip (Zy (wp_seq (Za (Zg hE rfl (Ju) fun a hE=>Zx (v:=v0_3) hE rfl yS rfl (At.cat (pre:=[[v0_1],[vI p0.Next],[v0_2]]) hM.rawAt1 ck) fun a hE=>Zg hE rfl (Ju) fun a hE=>Zx (v:=v1_3) hE rfl yS rfl (At.cat (pre:=[[v1_1],[vI p1.Next],[v1_2]]) hM.rawAt0 ck) ?_)))); intro a hE
    obtain ⟨r12,e13,hF⟩:=bind_some hF
    refine Zv hE rfl (cbm Tryz.func53) (B1 _ p0.Events v0_3 (hM.rdo hv0_3) p1.Events v1_3 (hM.rdo hv1_3) r12 e13) ?_
    rintro v w a ⟨rfl,hK⟩ hE
    have hM:=hM.keep hK
    refine YO hE rfl fun a hE=>Zf ?_
    refine Zq hE rfl ?_ ?_
    ·intro hb14
     have hF:=Zu hF hb14
     refine Za (Zb hE rfl fun a hE=>Zf ?_)
     obtain rfl:=Option.some.inj hF
     exact wp_ret (Zs (kr1 hE rfl rfl hM.kept))
    ·intro hb14
     have hF:=Zt hF hb14
     refine wp_skip (Zy (wp_seq (Za (Zg hE rfl (qd) fun a hE=>Zn hE rfl Yr rfl (At.cat (pre:=[[v0_1],[vI p0.Next],[v0_2],[v0_3]]) hM.rawAt1 ck) (Flat.len _) fun a hE=>Zg hE rfl (qd) fun a hE=>Zn hE rfl Yr rfl (At.cat (pre:=[[v1_1],[vI p1.Next],[v1_2],[v1_3]]) hM.rawAt0 ck) (Flat.len _) ?_)))); intro a hE
     obtain ⟨r15,e16,hF⟩:=bind_some hF
     refine Zv hE rfl cb54 (TS _ p0.Head p1.Head r15 e16) ?_
     rintro v w a ⟨rfl,hK⟩ hE
     have hM:=hM.keep hK
     refine YO hE rfl fun a hE=>Zf ?_
     refine Zq hE rfl ?_ ?_
     ·intro hb17
      have hF:=Zu hF hb17
      refine Za (Zb hE rfl fun a hE=>Zf ?_)
      obtain rfl:=Option.some.inj hF
      exact wp_ret (Zs (kr1 hE rfl rfl hM.kept))
     ·intro hb17
      have hF:=Zt hF hb17
      refine wp_skip (Zy (Za (Zb hE rfl fun a hE=>Zf ?_)))
      obtain rfl:=Option.some.inj hF
      exact wp_ret (kr1 hE rfl rfl hM.kept)
def UC (p0 : (List (Vector UInt8 32))) (p1 : (List (Vector UInt8 32))) (s6 : Int) : Option (Fl Int (Fl Unit Bool)) :=
 if (decide (s6 < (p0.length : Int))) = true then (((idx p0 s6).bind fun x15=>(idx p1 s6).bind fun x18=>(Y5 x15 x18).bind fun r21=>some (!r21) : Option (Bool)).bind fun j11=>if j11 = true then (some (Fl.ex (Fl.ex false))) else (some (Fl.nx (wr (s6 + 1))))) else (some (Fl.ex (Fl.nx ())))
def VI (p0 : (List (Vector UInt8 32))) (p1 : (List (Vector UInt8 32))) : Option (Bool) :=
 if ((p0.length : Int) != (p1.length : Int)) = true then (some false) else ((ZD (UC p0 p1) 0).bind fun j2=>j2.el (fun s5=>some true) (fun r=>some r))
theorem Bh (w0 : World) (p0 : (List (Vector UInt8 32))) (v0_1 : Value) (hv0_1 : Ro w0 p0 [v0_1]) (p1 : (List (Vector UInt8 32))) (v1_1 : Value) (hv1_1 : Ro w0 p1 [v1_1]) (r : Bool) (hF : VI p0 p1 = some r) :
  Calls Tryz.prog 55 [v0_1,v1_1].toArray w0 (Rt w0 (vT r)):=by
 refine ce Tryz.func55 ?_
 intro a hE
 have hM:=M.start w0
 unfold VI at hF
 refine Za (Zb hE rfl fun a hE=>Zf (wp_seq (Za (Ze hE rfl fun a hE=>ZZ hE rfl Tryz.underlying40 (hM.rd hv0_1) fun a hE=>Ze hE rfl fun a hE=>ZZ hE rfl Tryz.underlying40 (hM.rd hv1_1) fun a hE=>Zk hE rfl rfl rfl fun a hE=>Zf ?_))))
 refine Zq hE rfl ?_ ?_
 ·intro hb1
  have hF:=Zu hF hb1
  refine Za (Zb hE rfl fun a hE=>Zf ?_)
  obtain rfl:=Option.some.inj hF
  exact wp_ret (Zs (kr1 hE rfl rfl hM.kept))
 ·intro hb1
  have hF:=Zt hF hb1
  refine wp_skip (Zy (wp_seq (Za (Zb hE rfl fun a hE=>Zf ?_))))
  obtain ⟨j2,hl3,hF4⟩:=bind_some hF
  refine ZJ (fun a w=>∃ s5 : Unit,j2 = Fl.nx s5 ∧ Env 27 a [] ∧ M (Old w0) w0 w []) ?_ ?_
  ·skip
   refine wp_block ?_
   refine ZE (fun (s6 : Int) a w=>Env 27 a [(0,v0_1),(1,v1_1),(5,vI s6)] ∧ M (Old w0) w0 w []) hl3 ⟨hE.sub ⟨rfl,rfl,rfl,trivial⟩,hM⟩ ?_
   rintro s6 a w ⟨hE,hM⟩ o9 hs7 hx8
   unfold UC at hs7
   refine wp_seq (Za (Ze hE rfl fun a hE=>Ze hE rfl fun a hE=>ZZ hE rfl Tryz.underlying40 (hM.rd hv0_1) fun a hE=>Zk hE rfl rfl rfl fun a hE=>Zf ?_))
   refine Zq hE rfl ?_ ?_
   ·intro hb10
    have hs7:=Zu hs7 hb10
    refine wp_skip (Zy (wp_seq (wp_block ?_)))
    obtain ⟨j11,hl12,hF13⟩:=bind_some hs7
    refine ZI (fun a w=>Env 27 a [(0,v0_1),(1,v1_1),(5,vI s6),(26,vT j11)] ∧ M (Old w0) w0 w []) ?_ ?_
    ·skip
     obtain ⟨x15,hi17,hl12⟩:=bix hl12
     obtain ⟨x18,hi20,hl12⟩:=bix hl12
     obtain ⟨r21,e22,hl12⟩:=bind_some hl12
     refine ZX (n:=27) (hd:=[_,_,_,_,_,_,_,_,_,_]) (tl:=[]) Yx rfl rfl [17,18,19,20,21,22,23,24,25,26] (by decide) (fun w=>M (Old w0) w0 w []) (fun j=>([fun v _=>v = v0_1,fun v _=>v = (vI s6),fun v _=>v = (ptr (sb v0_1) (so v0_1 + (s6).toNat * 32)),fun v _=>v = (Value.agg (enc x15).toArray),fun v _=>v = v1_1,fun v _=>v = (vI s6),fun v _=>v = (ptr (sb v1_1) (so v1_1 + (s6).toNat * 32)),fun v _=>v = (Value.agg (enc x18).toArray),fun v _=>v = (vT r21),fun v _=>v = (vT (!r21))] : List (Value → World → Prop)).getD j (fun _ _=>True)) (fun _ _ h hk=>h.keep hk) (gup gu10) hE hM.drew (ky ?_ ?_ ?_ ?_ ?_ ?_ ?_ ?_ ?_ ?_) ?_
     ·exact qm
     ·exact qm
     ·intro a w ux14 hE hM hp
      have f0 : ux14 0 = v0_1:=hp 0 _ rfl rfl
      have f1 : ux14 1 = (vI s6):=hp 1 _ rfl rfl
      exact ZK hE (lk rfl f0) (lk rfl f1) Tryz.underlying40 Yr (hM.rd hv0_1) hi17.1 fun a hE=>kq rfl hE rfl
     ·intro a w ux14 hE hM hp
      have f2 : ux14 2 = (ptr (sb v0_1) (so v0_1 + (s6).toNat * 32)):=hp 0 _ rfl rfl
      exact Zn hE (lk rfl f2) Yr rfl (Ys (hM.rd hv0_1) hi17.2) (Flat.len _) fun a hE=>kq rfl hE rfl
     ·exact qm
     ·exact qm
     ·intro a w ux14 hE hM hp
      have f4 : ux14 4 = v1_1:=hp 0 _ rfl rfl
      have f5 : ux14 5 = (vI s6):=hp 1 _ rfl rfl
      exact ZK hE (lk rfl f4) (lk rfl f5) Tryz.underlying40 Yr (hM.rd hv1_1) hi20.1 fun a hE=>kq rfl hE rfl
     ·intro a w ux14 hE hM hp
      have f6 : ux14 6 = (ptr (sb v1_1) (so v1_1 + (s6).toNat * 32)):=hp 0 _ rfl rfl
      exact Zn hE (lk rfl f6) Yr rfl (Ys (hM.rd hv1_1) hi20.2) (Flat.len _) fun a hE=>kq rfl hE rfl
     ·intro a w ux14 hE hM hp
      have f3 : ux14 3 = (Value.agg (enc x15).toArray):=hp 0 _ rfl rfl
      have f7 : ux14 7 = (Value.agg (enc x18).toArray):=hp 1 _ rfl rfl
      refine Zv hE (ZU (ZR (lk rfl f3) (ZR (lk rfl f7) Xf))) cb54 (TS _ x15 x18 r21 e22) ?_
      rintro v w a ⟨rfl,hK⟩ hE
      exact ⟨hK,_,_,rfl,hE,rfl⟩
     ·intro a w ux14 hE hM hp
      have f8 : ux14 8 = (vT r21):=hp 0 _ rfl rfl
      exact YO hE (lk rfl f8) fun a hE=>kq rfl hE rfl
     ·intro a w ux14 hE hM hg
      have hE:=hE.sub (e':=[(26,(vT (!r21))),(0,v0_1),(1,v1_1),(5,vI s6),(11,vI s6),(12,v0_1),(13,(vI (p0.length : Int))),(14,(vT (decide (s6 < (p0.length : Int)))))]) ⟨lk rfl (hg 9 (by decide)),rfl,rfl,rfl,rfl,rfl,rfl,rfl,trivial⟩
      refine Zj ?_
      obtain rfl:=Option.some.inj hl12
      refine Zl ?_
      exact ⟨hE.sub ⟨rfl,rfl,rfl,rfl,trivial⟩,hM⟩
    ·skip
     rintro a w ⟨hE,hM⟩
     refine Zq hE rfl ?_ ?_
     ·intro hb24
      have hF13:=Zu hF13 hb24
      refine Za (Zb hE rfl fun a hE=>Zf ?_)
      obtain rfl:=hx8 _ (ois hF13)
      obtain rfl:=Option.some.inj hF4
      exact wp_ret (Z4 (Zs (Zs (Z4 (Zs (Zs (kr1 hE rfl rfl hM.kept)))))))
     ·intro hb24
      have hF13:=Zt hF13 hb24
      refine wp_skip (Z0 (Zy (wp_region_lit (Ze hE rfl fun a hE=>Zk hE rfl rfl rfl fun a hE=>Zb hE rfl fun a hE=>Zj (Zl ?_)))))
      exact ⟨_,(ois hF13),hE.sub ⟨rfl,rfl,rfl,trivial⟩,hM⟩
   ·intro hb10
    have hs7:=Zt hs7 hb10
    refine wp_exit (Zp (Zp (Z1 ?_)))
    obtain rfl:=hx8 _ (ois hs7)
    refine Zl ?_
    exact ⟨(),rfl,hE.sub trivial,hM⟩
  ·skip
   rintro a w ⟨s5,ht,hE,hM⟩
   subst ht
   have hF4:=X7 hF4
   refine Zy (Za (Zb hE rfl fun a hE=>Zf ?_))
   obtain rfl:=Option.some.inj hF4
   exact wp_ret (kr1 hE rfl rfl hM.kept)
def Tf (p0 : (List (List UInt8))) (p1 : (List (List UInt8))) (s6 : Int) : Option (Fl Int (Fl Unit Bool)) :=
 if (decide (s6 < (p0.length : Int))) = true then (((idx p0 s6).bind fun x15=>(idx p1 s6).bind fun x23=>(Xo x15 x23).bind fun r31=>some (!r31) : Option (Bool)).bind fun j11=>if j11 = true then (some (Fl.ex (Fl.ex false))) else (some (Fl.nx (wr (s6 + 1))))) else (some (Fl.ex (Fl.nx ())))
def V6 (p0 : (List (List UInt8))) (p1 : (List (List UInt8))) : Option (Bool) :=
 if ((p0.length : Int) != (p1.length : Int)) = true then (some false) else ((ZD (Tf p0 p1) 0).bind fun j2=>j2.el (fun s5=>some true) (fun r=>some r))
theorem B6 (w0 : World) (p0 : (List (List UInt8))) (v0_1 : Value) (hv0_1 : Ro w0 p0 [v0_1]) (p1 : (List (List UInt8))) (v1_1 : Value) (hv1_1 : Ro w0 p1 [v1_1]) (r : Bool) (hF : V6 p0 p1 = some r) :
  Calls Tryz.prog 56 [v0_1,v1_1].toArray w0 (Rt w0 (vT r)):=by
 refine ce Tryz.func56 ?_
 intro a hE
 have hM:=M.start w0
 unfold V6 at hF
 refine Za (Zb hE rfl fun a hE=>Zf (wp_seq (Za (Ze hE rfl fun a hE=>ZZ hE rfl Tryz.underlying41 (hM.rd hv0_1) fun a hE=>Ze hE rfl fun a hE=>ZZ hE rfl Tryz.underlying41 (hM.rd hv1_1) fun a hE=>Zk hE rfl rfl rfl fun a hE=>Zf ?_))))
 refine Zq hE rfl ?_ ?_
 ·intro hb1
  have hF:=Zu hF hb1
  refine Za (Zb hE rfl fun a hE=>Zf ?_)
  obtain rfl:=Option.some.inj hF
  exact wp_ret (Zs (kr1 hE rfl rfl hM.kept))
 ·intro hb1
  have hF:=Zt hF hb1
  refine wp_skip (Zy (wp_seq (Za (Zb hE rfl fun a hE=>Zf ?_))))
  obtain ⟨j2,hl3,hF4⟩:=bind_some hF
  refine ZJ (fun a w=>∃ s5 : Unit,j2 = Fl.nx s5 ∧ Env 27 a [] ∧ M (Old w0) w0 w []) ?_ ?_
  ·skip
   refine wp_block ?_
   refine ZE (fun (s6 : Int) a w=>Env 27 a [(0,v0_1),(1,v1_1),(5,vI s6)] ∧ M (Old w0) w0 w []) hl3 ⟨hE.sub ⟨rfl,rfl,rfl,trivial⟩,hM⟩ ?_
   rintro s6 a w ⟨hE,hM⟩ o9 hs7 hx8
   unfold Tf at hs7
   refine wp_seq (Za (Ze hE rfl fun a hE=>Ze hE rfl fun a hE=>ZZ hE rfl Tryz.underlying41 (hM.rd hv0_1) fun a hE=>Zk hE rfl rfl rfl fun a hE=>Zf ?_))
   refine Zq hE rfl ?_ ?_
   ·intro hb10
    have hs7:=Zu hs7 hb10
    refine wp_skip (Zy (wp_seq (wp_block ?_)))
    obtain ⟨j11,hl12,hF13⟩:=bind_some hs7
    refine ZI (fun a w=>Env 27 a [(0,v0_1),(1,v1_1),(5,vI s6),(26,vT j11)] ∧ M (Old w0) w0 w []) ?_ ?_
    ·skip
     obtain ⟨x15,hi17,hl12⟩:=bix hl12
     obtain ⟨cs18,hs19,hA20⟩:=Vl hv0_1 hi17.2 -- ^
     obtain ⟨u21,rfl⟩:=XL hs19 -- ^
     have h22:=hs19 -- ^
     obtain ⟨x23,hi25,hl12⟩:=bix hl12
     obtain ⟨cs26,hs27,hA28⟩:=Vl hv1_1 hi25.2 -- ^
     obtain ⟨u29,rfl⟩:=XL hs27 -- ^
     have h30:=hs27 -- ^
     obtain ⟨r31,e32,hl12⟩:=bind_some hl12
     refine ZX (n:=27) (hd:=[_,_,_,_,_,_,_,_,_,_]) (tl:=[]) Yx rfl rfl [17,18,19,20,21,22,23,24,25,26] (by decide) (fun w=>M (Old w0) w0 w []) (fun j=>([fun v _=>v = v0_1,fun v _=>v = (vI s6),fun v _=>v = (ptr (sb v0_1) (so v0_1 + (s6).toNat * 1)),fun v _=>v = u21,fun v _=>v = v1_1,fun v _=>v = (vI s6),fun v _=>v = (ptr (sb v1_1) (so v1_1 + (s6).toNat * 1)),fun v _=>v = u29,fun v _=>v = (vT r31),fun v _=>v = (vT (!r31))] : List (Value → World → Prop)).getD j (fun _ _=>True)) (fun _ _ h hk=>h.keep hk) (gup gu10) hE hM.drew (ky ?_ ?_ ?_ ?_ ?_ ?_ ?_ ?_ ?_ ?_) ?_
     ·exact qm
     ·exact qm
     ·intro a w ux14 hE hM hp
      have f0 : ux14 0 = v0_1:=hp 0 _ rfl rfl
      have f1 : ux14 1 = (vI s6):=hp 1 _ rfl rfl
      exact ZK hE (lk rfl f0) (lk rfl f1) Tryz.underlying41 XB (hM.rd hv0_1) hi17.1 fun a hE=>kq rfl hE rfl
     ·intro a w ux14 hE hM hp
      have f2 : ux14 2 = (ptr (sb v0_1) (so v0_1 + (s6).toNat * 1)):=hp 0 _ rfl rfl
      exact Zx (v:=u21) hE (lk rfl f2) XB rfl (hM.atk hA20 (VY hv0_1 hi17.2)) fun a hE=>kq rfl hE rfl
     ·exact qm
     ·exact qm
     ·intro a w ux14 hE hM hp
      have f4 : ux14 4 = v1_1:=hp 0 _ rfl rfl
      have f5 : ux14 5 = (vI s6):=hp 1 _ rfl rfl
      exact ZK hE (lk rfl f4) (lk rfl f5) Tryz.underlying41 XB (hM.rd hv1_1) hi25.1 fun a hE=>kq rfl hE rfl
     ·intro a w ux14 hE hM hp
      have f6 : ux14 6 = (ptr (sb v1_1) (so v1_1 + (s6).toNat * 1)):=hp 0 _ rfl rfl
      exact Zx (v:=u29) hE (lk rfl f6) XB rfl (hM.atk hA28 (VY hv1_1 hi25.2)) fun a hE=>kq rfl hE rfl
     ·intro a w ux14 hE hM hp
      have f3 : ux14 3 = u21:=hp 0 _ rfl rfl
      have f7 : ux14 7 = u29:=hp 1 _ rfl rfl
      refine Zv hE (ZU (ZR (lk rfl f3) (ZR (lk rfl f7) Xf))) cb19 (Qq _ x15 u21 (hM.rdo h22) x23 u29 (hM.rdo h30) r31 e32) ?_
      rintro v w a ⟨rfl,hK⟩ hE
      exact ⟨hK,_,_,rfl,hE,rfl⟩
     ·intro a w ux14 hE hM hp
      have f8 : ux14 8 = (vT r31):=hp 0 _ rfl rfl
      exact YO hE (lk rfl f8) fun a hE=>kq rfl hE rfl
     ·intro a w ux14 hE hM hg
      have hE:=hE.sub (e':=[(26,(vT (!r31))),(0,v0_1),(1,v1_1),(5,vI s6),(11,vI s6),(12,v0_1),(13,(vI (p0.length : Int))),(14,(vT (decide (s6 < (p0.length : Int)))))]) ⟨lk rfl (hg 9 (by decide)),rfl,rfl,rfl,rfl,rfl,rfl,rfl,trivial⟩
      refine Zj ?_
      obtain rfl:=Option.some.inj hl12
      refine Zl ?_
      exact ⟨hE.sub ⟨rfl,rfl,rfl,rfl,trivial⟩,hM⟩
    ·skip
     rintro a w ⟨hE,hM⟩
     refine Zq hE rfl ?_ ?_
     ·intro hb34
      have hF13:=Zu hF13 hb34
      refine Za (Zb hE rfl fun a hE=>Zf ?_)
      obtain rfl:=hx8 _ (ois hF13)
      obtain rfl:=Option.some.inj hF4
      exact wp_ret (Z4 (Zs (Zs (Z4 (Zs (Zs (kr1 hE rfl rfl hM.kept)))))))
     ·intro hb34
      have hF13:=Zt hF13 hb34
      refine wp_skip (Z0 (Zy (wp_region_lit (Ze hE rfl fun a hE=>Zk hE rfl rfl rfl fun a hE=>Zb hE rfl fun a hE=>Zj (Zl ?_)))))
      exact ⟨_,(ois hF13),hE.sub ⟨rfl,rfl,rfl,trivial⟩,hM⟩
   ·intro hb10
    have hs7:=Zt hs7 hb10
    refine wp_exit (Zp (Zp (Z1 ?_)))
    obtain rfl:=hx8 _ (ois hs7)
    refine Zl ?_
    exact ⟨(),rfl,hE.sub trivial,hM⟩
  ·skip
   rintro a w ⟨s5,ht,hE,hM⟩
   subst ht
   have hF4:=X7 hF4
   refine Zy (Za (Zb hE rfl fun a hE=>Zf ?_))
   obtain rfl:=Option.some.inj hF4
   exact wp_ret (kr1 hE rfl rfl hM.kept)
def To (p0 : (List Int)) (p1 : (List Int)) (s6 : Int) : Option (Fl Int (Fl Unit Bool)) :=
 if (decide (s6 < (p0.length : Int))) = true then (((idx p0 s6).bind fun x15=>(idx p1 s6).bind fun x18=>some (x15 != x18) : Option (Bool)).bind fun j11=>if j11 = true then (some (Fl.ex (Fl.ex false))) else (some (Fl.nx (wr (s6 + 1))))) else (some (Fl.ex (Fl.nx ())))
def V4 (p0 : (List Int)) (p1 : (List Int)) : Option (Bool) :=
 if ((p0.length : Int) != (p1.length : Int)) = true then (some false) else ((ZD (To p0 p1) 0).bind fun j2=>j2.el (fun s5=>some true) (fun r=>some r))
theorem B3 (w0 : World) (p0 : (List Int)) (v0_1 : Value) (hv0_1 : Ro w0 p0 [v0_1]) (p1 : (List Int)) (v1_1 : Value) (hv1_1 : Ro w0 p1 [v1_1]) (r : Bool) (hF : V4 p0 p1 = some r) :
  Calls Tryz.prog 57 [v0_1,v1_1].toArray w0 (Rt w0 (vT r)):=by
 refine ce Tryz.func57 ?_
 intro a hE
 have hM:=M.start w0
 unfold V4 at hF
 refine Za (Zb hE rfl fun a hE=>Zf (wp_seq (Za (Ze hE rfl fun a hE=>ZZ hE rfl Tryz.underlying42 (hM.rd hv0_1) fun a hE=>Ze hE rfl fun a hE=>ZZ hE rfl Tryz.underlying42 (hM.rd hv1_1) fun a hE=>Zk hE rfl rfl rfl fun a hE=>Zf ?_))))
 refine Zq hE rfl ?_ ?_
 ·intro hb1
  have hF:=Zu hF hb1
  refine Za (Zb hE rfl fun a hE=>Zf ?_)
  obtain rfl:=Option.some.inj hF
  exact wp_ret (Zs (kr1 hE rfl rfl hM.kept))
 ·intro hb1
  have hF:=Zt hF hb1
  refine wp_skip (Zy (wp_seq (Za (Zb hE rfl fun a hE=>Zf ?_))))
  obtain ⟨j2,hl3,hF4⟩:=bind_some hF
  refine ZJ (fun a w=>∃ s5 : Unit,j2 = Fl.nx s5 ∧ Env 26 a [] ∧ M (Old w0) w0 w []) ?_ ?_
  ·skip
   refine wp_block ?_
   refine ZE (fun (s6 : Int) a w=>Env 26 a [(0,v0_1),(1,v1_1),(5,vI s6)] ∧ M (Old w0) w0 w []) hl3 ⟨hE.sub ⟨rfl,rfl,rfl,trivial⟩,hM⟩ ?_
   rintro s6 a w ⟨hE,hM⟩ o9 hs7 hx8
   unfold To at hs7
   refine wp_seq (Za (Ze hE rfl fun a hE=>Ze hE rfl fun a hE=>ZZ hE rfl Tryz.underlying42 (hM.rd hv0_1) fun a hE=>Zk hE rfl rfl rfl fun a hE=>Zf ?_))
   refine Zq hE rfl ?_ ?_
   ·intro hb10
    have hs7:=Zu hs7 hb10
    refine wp_skip (Zy (wp_seq (wp_block ?_)))
    obtain ⟨j11,hl12,hF13⟩:=bind_some hs7
    refine ZI (fun a w=>Env 26 a [(0,v0_1),(1,v1_1),(5,vI s6),(25,vT j11)] ∧ M (Old w0) w0 w []) ?_ ?_
    ·skip
     obtain ⟨x15,hi17,hl12⟩:=bix hl12
     obtain ⟨x18,hi20,hl12⟩:=bix hl12
     refine ZX (n:=26) (hd:=[_,_,_,_,_,_,_,_,_]) (tl:=[]) Yx rfl rfl [17,18,19,20,21,22,23,24,25] (by decide) (fun w=>M (Old w0) w0 w []) (fun j=>([fun v _=>v = v0_1,fun v _=>v = (vI s6),fun v _=>v = (ptr (sb v0_1) (so v0_1 + (s6).toNat * 1)),fun v _=>v = (vI x15),fun v _=>v = v1_1,fun v _=>v = (vI s6),fun v _=>v = (ptr (sb v1_1) (so v1_1 + (s6).toNat * 1)),fun v _=>v = (vI x18),fun v _=>v = (vT (x15 != x18))] : List (Value → World → Prop)).getD j (fun _ _=>True)) (fun _ _ h hk=>h.keep hk) (gup gu9) hE hM.drew (st9 ?_ ?_ ?_ ?_ ?_ ?_ ?_ ?_ ?_) ?_
     ·exact qm
     ·exact qm
     ·intro a w ux14 hE hM hp
      have f0 : ux14 0 = v0_1:=hp 0 _ rfl rfl
      have f1 : ux14 1 = (vI s6):=hp 1 _ rfl rfl
      exact ZK hE (lk rfl f0) (lk rfl f1) Tryz.underlying42 ty2 (hM.rd hv0_1) hi17.1 fun a hE=>kq rfl hE rfl
     ·intro a w ux14 hE hM hp
      have f2 : ux14 2 = (ptr (sb v0_1) (so v0_1 + (s6).toNat * 1)):=hp 0 _ rfl rfl
      exact Zx (v:=(vI x15)) hE (lk rfl f2) ty2 rfl (Ys (hM.rd hv0_1) hi17.2) fun a hE=>kq rfl hE rfl
     ·exact qm
     ·exact qm
     ·intro a w ux14 hE hM hp
      have f4 : ux14 4 = v1_1:=hp 0 _ rfl rfl
      have f5 : ux14 5 = (vI s6):=hp 1 _ rfl rfl
      exact ZK hE (lk rfl f4) (lk rfl f5) Tryz.underlying42 ty2 (hM.rd hv1_1) hi20.1 fun a hE=>kq rfl hE rfl
     ·intro a w ux14 hE hM hp
      have f6 : ux14 6 = (ptr (sb v1_1) (so v1_1 + (s6).toNat * 1)):=hp 0 _ rfl rfl
      exact Zx (v:=(vI x18)) hE (lk rfl f6) ty2 rfl (Ys (hM.rd hv1_1) hi20.2) fun a hE=>kq rfl hE rfl
     ·intro a w ux14 hE hM hp
      have f3 : ux14 3 = (vI x15):=hp 0 _ rfl rfl
      have f7 : ux14 7 = (vI x18):=hp 1 _ rfl rfl
      exact Zk hE (lk rfl f3) (lk rfl f7) rfl fun a hE=>kq rfl hE rfl
     ·intro a w ux14 hE hM hg
      have hE:=hE.sub (e':=[(25,(vT (x15 != x18))),(0,v0_1),(1,v1_1),(5,vI s6),(11,vI s6),(12,v0_1),(13,(vI (p0.length : Int))),(14,(vT (decide (s6 < (p0.length : Int)))))]) ⟨lk rfl (hg 8 (by decide)),rfl,rfl,rfl,rfl,rfl,rfl,rfl,trivial⟩
      refine Zj ?_
      obtain rfl:=Option.some.inj hl12
      refine Zl ?_
      exact ⟨hE.sub ⟨rfl,rfl,rfl,rfl,trivial⟩,hM⟩
    ·skip
     rintro a w ⟨hE,hM⟩
     refine Zq hE rfl ?_ ?_
     ·intro hb22
      have hF13:=Zu hF13 hb22
      refine Za (Zb hE rfl fun a hE=>Zf ?_)
      obtain rfl:=hx8 _ (ois hF13)
      obtain rfl:=Option.some.inj hF4
      exact wp_ret (Z4 (Zs (Zs (Z4 (Zs (Zs (kr1 hE rfl rfl hM.kept)))))))
     ·intro hb22
      have hF13:=Zt hF13 hb22
      refine wp_skip (Z0 (Zy (wp_region_lit (Ze hE rfl fun a hE=>Zk hE rfl rfl rfl fun a hE=>Zb hE rfl fun a hE=>Zj (Zl ?_)))))
      exact ⟨_,(ois hF13),hE.sub ⟨rfl,rfl,rfl,trivial⟩,hM⟩
   ·intro hb10
    have hs7:=Zt hs7 hb10
    refine wp_exit (Zp (Zp (Z1 ?_)))
    obtain rfl:=hx8 _ (ois hs7)
    refine Zl ?_
    exact ⟨(),rfl,hE.sub trivial,hM⟩
  ·skip
   rintro a w ⟨s5,ht,hE,hM⟩
   subst ht
   have hF4:=X7 hF4
   refine Zy (Za (Zb hE rfl fun a hE=>Zf ?_))
   obtain rfl:=Option.some.inj hF4
   exact wp_ret (kr1 hE rfl rfl hM.kept)
def UR (p0 : GBlobs) (p1 : GBlobs) : Option (Bool) :=
 (VI p0.Keys p1.Keys).bind fun r5=>if (!r5) = true then (some false) else ((V6 p0.Data p1.Data).bind fun r8=>if (!r8) = true then (some false) else ((V4 p0.Counts p1.Counts).bind fun r11=>if (!r11) = true then (some false) else (some true)))
theorem A3 (w0 : World) (p0 : GBlobs) (v0_1 : Value) (hv0_1 : Ro w0 p0.Keys [v0_1]) (v0_2 : Value) (hv0_2 : Ro w0 p0.Data [v0_2]) (v0_3 : Value) (hv0_3 : Ro w0 p0.Counts [v0_3]) (p1 : GBlobs) (v1_1 : Value) (hv1_1 : Ro w0 p1.Keys [v1_1]) (v1_2 : Value) (hv1_2 : Ro w0 p1.Data [v1_2]) (v1_3 : Value) (hv1_3 : Ro w0 p1.Counts [v1_3]) (r : Bool) (hF : UR p0 p1 = some r) :
  Calls Tryz.prog 21 [(Value.agg (cat [[v0_1],[v0_2],[v0_3]]).toArray),(Value.agg (cat [[v1_1],[v1_2],[v1_3]]).toArray)].toArray w0 (Rt w0 (vT r)):=by
 refine ce Tryz.func21 ?_
 intro a hE
 have hM:=M.start w0
 unfold UR at hF
 refine Za (ZM (cs:=cat [[v0_1],[v0_2],[v0_3]]) hE hM Zd ld rfl rfl fun b1 w a hM hE=>ZM (cs:=cat [[v1_1],[v1_2],[v1_3]]) hE hM Zd ld rfl rfl fun b3 w a hM hE=>Zb hE rfl fun a hE=>Zf (wp_seq (Za (Zg hE rfl (Q3) fun a hE=>Zx (v:=v0_1) hE rfl BR rfl (At.cat (pre:=[]) hM.rawAt1 cl0) fun a hE=>Zg hE rfl (Q3) fun a hE=>Zx (v:=v1_1) hE rfl BR rfl (At.cat (pre:=[]) hM.rawAt0 cl0) ?_)))); intro a hE
 obtain ⟨r5,e6,hF⟩:=bind_some hF
 refine Zv hE rfl (cbm Tryz.func55) (Bh _ p0.Keys v0_1 (hM.rdo hv0_1) p1.Keys v1_1 (hM.rdo hv1_1) r5 e6) ?_
 rintro v w a ⟨rfl,hK⟩ hE
 have hM:=hM.keep hK
 refine YO hE rfl fun a hE=>Zf ?_
 refine Zq hE rfl ?_ ?_
 ·intro hb7
  have hF:=Zu hF hb7
  refine Za (Zb hE rfl fun a hE=>Zf ?_)
  obtain rfl:=Option.some.inj hF
  exact wp_ret (Zs (kr1 hE rfl rfl hM.kept))
 ·intro hb7
  have hF:=Zt hF hb7
  refine wp_skip (Zy (wp_seq (Za (Zg hE rfl (Q8) fun a hE=>Zx (v:=v0_2) hE rfl JZ rfl (At.cat (pre:=[[v0_1]]) hM.rawAt1 ck) fun a hE=>Zg hE rfl (Q8) fun a hE=>Zx (v:=v1_2) hE rfl JZ rfl (At.cat (pre:=[[v1_1]]) hM.rawAt0 ck) ?_)))); intro a hE
  obtain ⟨r8,e9,hF⟩:=bind_some hF
  refine Zv hE rfl (cbm Tryz.func56) (B6 _ p0.Data v0_2 (hM.rdo hv0_2) p1.Data v1_2 (hM.rdo hv1_2) r8 e9) ?_
  rintro v w a ⟨rfl,hK⟩ hE
  have hM:=hM.keep hK
  refine YO hE rfl fun a hE=>Zf ?_
  refine Zq hE rfl ?_ ?_
  ·intro hb10
   have hF:=Zu hF hb10
   refine Za (Zb hE rfl fun a hE=>Zf ?_)
   obtain rfl:=Option.some.inj hF
   exact wp_ret (Zs (kr1 hE rfl rfl hM.kept))
  ·intro hb10
   have hF:=Zt hF hb10
   refine wp_skip (Zy (wp_seq (Za (Zg hE rfl (QN) fun a hE=>Zx (v:=v0_3) hE rfl JO rfl (At.cat (pre:=[[v0_1],[v0_2]]) hM.rawAt1 ck) fun a hE=>Zg hE rfl (QN) fun a hE=>Zx (v:=v1_3) hE rfl JO rfl (At.cat (pre:=[[v1_1],[v1_2]]) hM.rawAt0 ck) ?_)))); intro a hE
   obtain ⟨r11,e12,hF⟩:=bind_some hF
   refine Zv hE rfl (cbm Tryz.func57) (B3 _ p0.Counts v0_3 (hM.rdo hv0_3) p1.Counts v1_3 (hM.rdo hv1_3) r11 e12) ?_
   rintro v w a ⟨rfl,hK⟩ hE
   have hM:=hM.keep hK
   refine YO hE rfl fun a hE=>Zf ?_
   refine Zq hE rfl ?_ ?_
   ·intro hb13
    have hF:=Zu hF hb13
    refine Za (Zb hE rfl fun a hE=>Zf ?_)
    obtain rfl:=Option.some.inj hF
    exact wp_ret (Zs (kr1 hE rfl rfl hM.kept))
   ·intro hb13
    have hF:=Zt hF hb13
    refine wp_skip (Zy (Za (Zb hE rfl fun a hE=>Zf ?_)))
    obtain rfl:=Option.some.inj hF
    exact wp_ret (kr1 hE rfl rfl hM.kept)
def TJ (p0 : GDesk) (p1 : GDesk) : Option (Bool) :=
 (V2 p0.Cipher p1.Cipher).bind fun r5=>if (!r5) = true then (some false) else ((Xk p0.Key p1.Key).bind fun r8=>if (!r8) = true then (some false) else ((Xk p0.Start p1.Start).bind fun r11=>if (!r11) = true then (some false) else ((Xo p0.Data p1.Data).bind fun r14=>if (!r14) = true then (some false) else ((UO p0.Vault p1.Vault).bind fun r17=>if (!r17) = true then (some false) else ((UR p0.Blobs p1.Blobs).bind fun r20=>if (!r20) = true then (some false) else (some true))))))
theorem zP (w0 : World) (p0 : GDesk) (v0_1 : Value) (hv0_1 : Ro w0 p0.Data [v0_1]) (v0_2 : Value) (hv0_2 : Ro w0 p0.Vault.Keys [v0_2]) (v0_3 : Value) (hv0_3 : Ro w0 p0.Vault.Records [v0_3]) (v0_4 : Value) (hv0_4 : Ro w0 p0.Vault.Events [v0_4]) (v0_5 : Value) (hv0_5 : Ro w0 p0.Blobs.Keys [v0_5]) (v0_6 : Value) (hv0_6 : Ro w0 p0.Blobs.Data [v0_6]) (v0_7 : Value) (hv0_7 : Ro w0 p0.Blobs.Counts [v0_7]) (p1 : GDesk) (v1_1 : Value) (hv1_1 : Ro w0 p1.Data [v1_1]) (v1_2 : Value) (hv1_2 : Ro w0 p1.Vault.Keys [v1_2]) (v1_3 : Value) (hv1_3 : Ro w0 p1.Vault.Records [v1_3]) (v1_4 : Value) (hv1_4 : Ro w0 p1.Vault.Events [v1_4]) (v1_5 : Value) (hv1_5 : Ro w0 p1.Blobs.Keys [v1_5]) (v1_6 : Value) (hv1_6 : Ro w0 p1.Blobs.Data [v1_6]) (v1_7 : Value) (hv1_7 : Ro w0 p1.Blobs.Counts [v1_7]) (r : Bool) (hF : TJ p0 p1 = some r) :
  Calls Tryz.prog 7 [(Value.agg (cat [cat [[vI p0.Cipher.Field],enc p0.Cipher.Box,enc p0.Cipher.Mix,enc p0.Cipher.Places,[vI p0.Cipher.Rounds]],enc p0.Key,enc p0.Start,[v0_1],cat [[v0_2],[vI p0.Vault.Next],[v0_3],[v0_4],enc p0.Vault.Head],cat [[v0_5],[v0_6],[v0_7]]]).toArray),(Value.agg (cat [cat [[vI p1.Cipher.Field],enc p1.Cipher.Box,enc p1.Cipher.Mix,enc p1.Cipher.Places,[vI p1.Cipher.Rounds]],enc p1.Key,enc p1.Start,[v1_1],cat [[v1_2],[vI p1.Vault.Next],[v1_3],[v1_4],enc p1.Vault.Head],cat [[v1_5],[v1_6],[v1_7]]]).toArray)].toArray w0 (Rt w0 (vT r)):=by
 refine ce Tryz.func7 ?_
 intro a hE
 have hM:=M.start w0
 unfold TJ at hF
 refine Za (ZM (cs:=cat [cat [[vI p0.Cipher.Field],enc p0.Cipher.Box,enc p0.Cipher.Mix,enc p0.Cipher.Places,[vI p0.Cipher.Rounds]],enc p0.Key,enc p0.Start,[v0_1],cat [[v0_2],[vI p0.Vault.Next],[v0_3],[v0_4],enc p0.Vault.Head],cat [[v0_5],[v0_6],[v0_7]]]) hE hM Zd ld rfl rfl fun b1 w a hM hE=>ZM (cs:=cat [cat [[vI p1.Cipher.Field],enc p1.Cipher.Box,enc p1.Cipher.Mix,enc p1.Cipher.Places,[vI p1.Cipher.Rounds]],enc p1.Key,enc p1.Start,[v1_1],cat [[v1_2],[vI p1.Vault.Next],[v1_3],[v1_4],enc p1.Vault.Head],cat [[v1_5],[v1_6],[v1_7]]]) hE hM Zd ld rfl rfl fun b3 w a hM hE=>Zb hE rfl fun a hE=>Zf (wp_seq (Za (Zg hE rfl (zi) fun a hE=>Zn hE rfl Te rfl (At.cat (pre:=[]) hM.rawAt1 cl0) cq fun a hE=>Zg hE rfl (zi) fun a hE=>Zn hE rfl Te rfl (At.cat (pre:=[]) hM.rawAt0 cl0) cq ?_)))); intro a hE
 obtain ⟨r5,e6,hF⟩:=bind_some hF
 refine Zv hE rfl (cbm Tryz.func17) (Af _ p0.Cipher p1.Cipher r5 e6) ?_
 rintro v w a ⟨rfl,hK⟩ hE
 have hM:=hM.keep hK
 refine YO hE rfl fun a hE=>Zf ?_
 refine Zq hE rfl ?_ ?_
 ·intro hb7
  have hF:=Zu hF hb7
  refine Za (Zb hE rfl fun a hE=>Zf ?_)
  obtain rfl:=Option.some.inj hF
  exact wp_ret (Zs (kr1 hE rfl rfl hM.kept))
 ·intro hb7
  have hF:=Zt hF hb7
  refine wp_skip (Zy (wp_seq (Za (Zg hE rfl (kf) fun a hE=>Zn hE rfl ZF rfl (At.cat (pre:=[cat [[vI p0.Cipher.Field],enc p0.Cipher.Box,enc p0.Cipher.Mix,enc p0.Cipher.Places,[vI p0.Cipher.Rounds]]]) hM.rawAt1 ck) (Flat.len _) fun a hE=>Zg hE rfl (kf) fun a hE=>Zn hE rfl ZF rfl (At.cat (pre:=[cat [[vI p1.Cipher.Field],enc p1.Cipher.Box,enc p1.Cipher.Mix,enc p1.Cipher.Places,[vI p1.Cipher.Rounds]]]) hM.rawAt0 ck) (Flat.len _) ?_)))); intro a hE
  obtain ⟨r8,e9,hF⟩:=bind_some hF
  refine Zv hE rfl cb18 (Qh _ p0.Key p1.Key r8 e9) ?_
  rintro v w a ⟨rfl,hK⟩ hE
  have hM:=hM.keep hK
  refine YO hE rfl fun a hE=>Zf ?_
  refine Zq hE rfl ?_ ?_
  ·intro hb10
   have hF:=Zu hF hb10
   refine Za (Zb hE rfl fun a hE=>Zf ?_)
   obtain rfl:=Option.some.inj hF
   exact wp_ret (Zs (kr1 hE rfl rfl hM.kept))
  ·intro hb10
   have hF:=Zt hF hb10
   refine wp_skip (Zy (wp_seq (Za (Zg hE rfl (kY) fun a hE=>Zn hE rfl ZF rfl (At.cat (pre:=[cat [[vI p0.Cipher.Field],enc p0.Cipher.Box,enc p0.Cipher.Mix,enc p0.Cipher.Places,[vI p0.Cipher.Rounds]],enc p0.Key]) hM.rawAt1 ck) (Flat.len _) fun a hE=>Zg hE rfl (kY) fun a hE=>Zn hE rfl ZF rfl (At.cat (pre:=[cat [[vI p1.Cipher.Field],enc p1.Cipher.Box,enc p1.Cipher.Mix,enc p1.Cipher.Places,[vI p1.Cipher.Rounds]],enc p1.Key]) hM.rawAt0 ck) (Flat.len _) ?_)))); intro a hE
   obtain ⟨r11,e12,hF⟩:=bind_some hF
   refine Zv hE rfl cb18 (Qh _ p0.Start p1.Start r11 e12) ?_
   rintro v w a ⟨rfl,hK⟩ hE
   have hM:=hM.keep hK
   refine YO hE rfl fun a hE=>Zf ?_
   refine Zq hE rfl ?_ ?_
   ·intro hb13
    have hF:=Zu hF hb13
    refine Za (Zb hE rfl fun a hE=>Zf ?_)
    obtain rfl:=Option.some.inj hF
    exact wp_ret (Zs (kr1 hE rfl rfl hM.kept))
   ·intro hb13
    have hF:=Zt hF hb13
    refine wp_skip (Zy (wp_seq (Za (Zg hE rfl (zn) fun a hE=>Zx (v:=v0_1) hE rfl XB rfl (At.cat (pre:=[cat [[vI p0.Cipher.Field],enc p0.Cipher.Box,enc p0.Cipher.Mix,enc p0.Cipher.Places,[vI p0.Cipher.Rounds]],enc p0.Key,enc p0.Start]) hM.rawAt1 ck) fun a hE=>Zg hE rfl (zn) fun a hE=>Zx (v:=v1_1) hE rfl XB rfl (At.cat (pre:=[cat [[vI p1.Cipher.Field],enc p1.Cipher.Box,enc p1.Cipher.Mix,enc p1.Cipher.Places,[vI p1.Cipher.Rounds]],enc p1.Key,enc p1.Start]) hM.rawAt0 ck) ?_)))); intro a hE
    obtain ⟨r14,e15,hF⟩:=bind_some hF
    refine Zv hE rfl cb19 (Qq _ p0.Data v0_1 (hM.rdo hv0_1) p1.Data v1_1 (hM.rdo hv1_1) r14 e15) ?_
    rintro v w a ⟨rfl,hK⟩ hE
    have hM:=hM.keep hK
    refine YO hE rfl fun a hE=>Zf ?_
    refine Zq hE rfl ?_ ?_
    ·intro hb16
     have hF:=Zu hF hb16
     refine Za (Zb hE rfl fun a hE=>Zf ?_)
     obtain rfl:=Option.some.inj hF
     exact wp_ret (Zs (kr1 hE rfl rfl hM.kept))
    ·intro hb16
     have hF:=Zt hF hb16
     refine wp_skip (Zy (wp_seq (Za (Zg hE rfl (zA) fun a hE=>Zn hE rfl K9 rfl (At.cat (pre:=[cat [[vI p0.Cipher.Field],enc p0.Cipher.Box,enc p0.Cipher.Mix,enc p0.Cipher.Places,[vI p0.Cipher.Rounds]],enc p0.Key,enc p0.Start,[v0_1]]) hM.rawAt1 ck) cq fun a hE=>Zg hE rfl (zA) fun a hE=>Zn hE rfl K9 rfl (At.cat (pre:=[cat [[vI p1.Cipher.Field],enc p1.Cipher.Box,enc p1.Cipher.Mix,enc p1.Cipher.Places,[vI p1.Cipher.Rounds]],enc p1.Key,enc p1.Start,[v1_1]]) hM.rawAt0 ck) cq ?_)))); intro a hE
     obtain ⟨r17,e18,hF⟩:=bind_some hF
     refine Zv hE rfl (cbm Tryz.func20) (A4 _ p0.Vault v0_2 (hM.rdo hv0_2) v0_3 (hM.rdo hv0_3) v0_4 (hM.rdo hv0_4) p1.Vault v1_2 (hM.rdo hv1_2) v1_3 (hM.rdo hv1_3) v1_4 (hM.rdo hv1_4) r17 e18) ?_
     rintro v w a ⟨rfl,hK⟩ hE
     have hM:=hM.keep hK
     refine YO hE rfl fun a hE=>Zf ?_
     refine Zq hE rfl ?_ ?_
     ·intro hb19
      have hF:=Zu hF hb19
      refine Za (Zb hE rfl fun a hE=>Zf ?_)
      obtain rfl:=Option.some.inj hF
      exact wp_ret (Zs (kr1 hE rfl rfl hM.kept))
     ·intro hb19
      have hF:=Zt hF hb19
      refine wp_skip (Zy (wp_seq (Za (Zg hE rfl (AB) fun a hE=>Zn hE rfl Hc rfl (At.cat (pre:=[cat [[vI p0.Cipher.Field],enc p0.Cipher.Box,enc p0.Cipher.Mix,enc p0.Cipher.Places,[vI p0.Cipher.Rounds]],enc p0.Key,enc p0.Start,[v0_1],cat [[v0_2],[vI p0.Vault.Next],[v0_3],[v0_4],enc p0.Vault.Head]]) hM.rawAt1 ck) cq fun a hE=>Zg hE rfl (AB) fun a hE=>Zn hE rfl Hc rfl (At.cat (pre:=[cat [[vI p1.Cipher.Field],enc p1.Cipher.Box,enc p1.Cipher.Mix,enc p1.Cipher.Places,[vI p1.Cipher.Rounds]],enc p1.Key,enc p1.Start,[v1_1],cat [[v1_2],[vI p1.Vault.Next],[v1_3],[v1_4],enc p1.Vault.Head]]) hM.rawAt0 ck) cq ?_)))); intro a hE
      obtain ⟨r20,e21,hF⟩:=bind_some hF
      refine Zv hE rfl (cbm Tryz.func21) (A3 _ p0.Blobs v0_5 (hM.rdo hv0_5) v0_6 (hM.rdo hv0_6) v0_7 (hM.rdo hv0_7) p1.Blobs v1_5 (hM.rdo hv1_5) v1_6 (hM.rdo hv1_6) v1_7 (hM.rdo hv1_7) r20 e21) ?_
      rintro v w a ⟨rfl,hK⟩ hE
      have hM:=hM.keep hK
      refine YO hE rfl fun a hE=>Zf ?_
      refine Zq hE rfl ?_ ?_
      ·intro hb22
       have hF:=Zu hF hb22
       refine Za (Zb hE rfl fun a hE=>Zf ?_)
       obtain rfl:=Option.some.inj hF
       exact wp_ret (Zs (kr1 hE rfl rfl hM.kept))
      ·intro hb22
       have hF:=Zt hF hb22
       refine wp_skip (Zy (Za (Zb hE rfl fun a hE=>Zf ?_)))
       obtain rfl:=Option.some.inj hF
       exact wp_ret (kr1 hE rfl rfl hM.kept)
def Vc (p0 : GDesk) : Option (Bool) :=
 (QF p0 1048576).bind fun r3=>if (decide (r3 < 0)) = true then (some true) else ((Vi p0).bind fun r6=>(TL r6).bind fun r15=>(Vi p0).bind fun r17=>(TM r17).bind fun r28=>if (r28 != r15) = true then (some false) else (((Vi p0).bind fun r35=>(TJ r17 r35).bind fun r52=>some (!r52) : Option (Bool)).bind fun j31=>if j31 = true then (some false) else (some true)))
theorem Jg (w0 : World) (p0 : GDesk) (v0_1 : Value) (hv0_1 : Ro w0 p0.Data [v0_1]) (v0_2 : Value) (hv0_2 : Ro w0 p0.Vault.Keys [v0_2]) (v0_3 : Value) (hv0_3 : Ro w0 p0.Vault.Records [v0_3]) (v0_4 : Value) (hv0_4 : Ro w0 p0.Vault.Events [v0_4]) (v0_5 : Value) (hv0_5 : Ro w0 p0.Blobs.Keys [v0_5]) (v0_6 : Value) (hv0_6 : Ro w0 p0.Blobs.Data [v0_6]) (v0_7 : Value) (hv0_7 : Ro w0 p0.Blobs.Counts [v0_7]) (r : Bool) (hF : Vc p0 = some r) :
  Calls Tryz.prog 4 [(Value.agg (cat [cat [[vI p0.Cipher.Field],enc p0.Cipher.Box,enc p0.Cipher.Mix,enc p0.Cipher.Places,[vI p0.Cipher.Rounds]],enc p0.Key,enc p0.Start,[v0_1],cat [[v0_2],[vI p0.Vault.Next],[v0_3],[v0_4],enc p0.Vault.Head],cat [[v0_5],[v0_6],[v0_7]]]).toArray)].toArray w0 (Rt w0 (vT r)):=by
 refine ce Tryz.func4 ?_
 intro a hE
 have hM:=M.start w0
 unfold Vc at hF
 refine Za (ZM (cs:=cat [cat [[vI p0.Cipher.Field],enc p0.Cipher.Box,enc p0.Cipher.Mix,enc p0.Cipher.Places,[vI p0.Cipher.Rounds]],enc p0.Key,enc p0.Start,[v0_1],cat [[v0_2],[vI p0.Vault.Next],[v0_3],[v0_4],enc p0.Vault.Head],cat [[v0_5],[v0_6],[v0_7]]]) hE hM Zd ld rfl rfl fun b1 w a hM hE=>Zb hE rfl fun a hE=>Zf (Za (Zb hE rfl fun a hE=>Zf (Za (Zn hE rfl zX rfl hM.rawAt0 cq fun a hE=>Ze hE rfl ?_))))); intro a hE
 obtain ⟨r3,e4,hF⟩:=bind_some hF
 refine Zv hE rfl (cbm Tryz.func10) (zU _ p0 v0_1 (hM.rdo hv0_1) v0_2 (hM.rdo hv0_2) v0_3 (hM.rdo hv0_3) v0_4 (hM.rdo hv0_4) v0_5 (hM.rdo hv0_5) v0_6 (hM.rdo hv0_6) v0_7 (hM.rdo hv0_7) 1048576 r3 e4) ?_
 rintro v w a ⟨rfl,hK⟩ hE
 have hM:=hM.keep hK
 refine Zb hE rfl fun a hE=>Zf (wp_seq (Za (Ze hE rfl fun a hE=>Zk hE rfl rfl rfl fun a hE=>Zf ?_)))
 refine Zq hE rfl ?_ ?_
 ·intro hb5
  have hF:=Zu hF hb5
  refine Za (Zb hE rfl fun a hE=>Zf ?_)
  obtain rfl:=Option.some.inj hF
  exact wp_ret (Zs (kr1 hE rfl rfl hM.kept))
 ·intro hb5
  have hF:=Zt hF hb5
  refine wp_skip (Zy (Za (Zn hE rfl zX rfl hM.rawAt0 cq ?_))); intro a hE
  obtain ⟨r6,e7,hF⟩:=bind_some hF
  refine Zv hE rfl cb12 (Kv _ p0 v0_1 (hM.rdo hv0_1) v0_2 (hM.rdo hv0_2) v0_3 (hM.rdo hv0_3) v0_4 (hM.rdo hv0_4) v0_5 (hM.rdo hv0_5) v0_6 (hM.rdo hv0_6) v0_7 (hM.rdo hv0_7) r6 e7) ?_
  rintro v w a ⟨u8,u9,u10,u11,u12,u13,u14,rfl,hFr,hK⟩ hE
  have hM:=hM.add hK hFr
  obtain ⟨r15,e16,hF⟩:=bind_some hF
  refine Zv hE rfl (cbm Tryz.func11) (zS _ r6 u8 (hM.sl (pre:=[]) noB) u9 (hM.sl (pre:=[_]) noB) u10 (hM.sl (pre:=[_,_]) noB) u11 (hM.sl (pre:=[_,_,_]) noB) u12 (hM.sl (pre:=[_,_,_,_]) noB) u13 (hM.sl (pre:=[_,_,_,_,_]) noB) u14 (hM.sl (pre:=[_,_,_,_,_,_]) noB) r15 e16) ?_
  rintro v w a ⟨rfl,hK⟩ hE
  have hM:=hM.keep hK
  refine Zb hE rfl fun a hE=>Zf (Za (Zn hE rfl zX rfl hM.rawAt7 cq ?_)); intro a hE
  obtain ⟨r17,e18,hF⟩:=bind_some hF
  refine Zv hE rfl cb12 (Kv _ p0 v0_1 (hM.rdo hv0_1) v0_2 (hM.rdo hv0_2) v0_3 (hM.rdo hv0_3) v0_4 (hM.rdo hv0_4) v0_5 (hM.rdo hv0_5) v0_6 (hM.rdo hv0_6) v0_7 (hM.rdo hv0_7) r17 e18) ?_
  rintro v w a ⟨u19,u20,u21,u22,u23,u24,u25,rfl,hFr,hK⟩ hE
  have hM:=hM.add hK hFr
  refine Zz hE hM JX fun b26 w a hM hE=>Zo (seg:=cat [cat [[vI r17.Cipher.Field],enc r17.Cipher.Box,enc r17.Cipher.Mix,enc r17.Cipher.Places,[vI r17.Cipher.Rounds]],enc r17.Key,enc r17.Start,[u19],cat [[u20],[vI r17.Vault.Next],[u21],[u22],enc r17.Vault.Head],cat [[u23],[u24],[u25]]]) (cs':=cat [cat [[vI r17.Cipher.Field],enc r17.Cipher.Box,enc r17.Cipher.Mix,enc r17.Cipher.Places,[vI r17.Cipher.Rounds]],enc r17.Key,enc r17.Start,[u19],cat [[u20],[vI r17.Vault.Next],[u21],[u22],enc r17.Vault.Head],cat [[u23],[u24],[u25]]]) hE hM Zd rfl rfl rfl JX cq (Nat.le_of_eq ((Nat.zero_add _).trans (Eq.trans cq (Eq.symm cq)))) (Yt (cc1 (Yt (cc1 (Flat.cell (r17.Cipher.Field : Int)) (cc1 (Flat.cell _) (cc1 (Flat.cell _) (cc1 (Flat.cell _) (cc1 (Flat.cell (r17.Cipher.Rounds : Int)) cc0)))))) (cc1 (Flat.cell _) (cc1 (Flat.cell _) (cc1 (Rep.cell (hM.sl (pre:=[_]) noB)) (cc1 (Yt (cc1 (Rep.cell (hM.sl (pre:=[_,_]) noB)) (cc1 (Flat.cell (r17.Vault.Next : Int)) (cc1 (Rep.cell (hM.sl (pre:=[_,_,_]) noB)) (cc1 (Rep.cell (hM.sl (pre:=[_,_,_,_]) noB)) (cc1 (Flat.cell _) cc0)))))) (cc1 (Yt (cc1 (Rep.cell (hM.sl (pre:=[_,_,_,_,_]) noB)) (cc1 (Rep.cell (hM.sl (pre:=[_,_,_,_,_,_]) noB)) (cc1 (Rep.cell (hM.sl (pre:=[_,_,_,_,_,_,_]) noB)) cc0)))) cc0))))))) (Zr (Eq.trans cq (Eq.symm cq))) fun w a hM hE=>Zf (Za (Zn hE rfl JX rfl hM.rawAt0 cq ?_)); intro a hE
  obtain ⟨r28,e29,hF⟩:=bind_some hF
  refine Zv hE rfl (cbm Tryz.func13) (zM _ r17 u19 (hM.sl (pre:=[_]) noB) u20 (hM.sl (pre:=[_,_]) noB) u21 (hM.sl (pre:=[_,_,_]) noB) u22 (hM.sl (pre:=[_,_,_,_]) noB) u23 (hM.sl (pre:=[_,_,_,_,_]) noB) u24 (hM.sl (pre:=[_,_,_,_,_,_]) noB) u25 (hM.sl (pre:=[_,_,_,_,_,_,_]) noB) r28 e29) ?_
  rintro v w a ⟨rfl,hK⟩ hE
  have hM:=hM.keep hK
  refine Zb hE rfl fun a hE=>Zf (wp_seq (Za (Ze hE rfl fun a hE=>Ze hE rfl fun a hE=>s_neT hE Zd ld rfl rfl Tryz.underlying4 fun a hE=>Zf ?_)))
  refine Zq hE rfl ?_ ?_
  ·intro hb30
   have hF:=Zu hF hb30
   refine Za (Zb hE rfl fun a hE=>Zf ?_)
   obtain rfl:=Option.some.inj hF
   exact wp_ret (Zs (kr1 hE rfl rfl hM.kept))
  ·intro hb30
   have hF:=Zt hF hb30
   refine wp_skip (Zy (wp_seq ?_))
   obtain ⟨j31,hl32,hF33⟩:=bind_some hF
   refine ZI (fun a w=>Env 27 a [(26,vT j31)] ∧ M (Old w0) w0 w []) ?_ ?_
   ·skip
    obtain ⟨r35,e36,hl32⟩:=bind_some hl32
    refine Aq (n:=27) (hd:=[_,_,_]) (tl:=[_,_]) (its:=[raw b26 (cat [cat [[vI r17.Cipher.Field],enc r17.Cipher.Box,enc r17.Cipher.Mix,enc r17.Cipher.Places,[vI r17.Cipher.Rounds]],enc r17.Key,enc r17.Start,[u19],cat [[u20],[vI r17.Vault.Next],[u21],[u22],enc r17.Vault.Head],cat [[u23],[u24],[u25]]]),osl NoB (r17.Data : List UInt8) u19,osl NoB (r17.Vault.Keys : List (Vector UInt8 16)) u20,osl NoB (r17.Vault.Records : List GRecord) u21,osl NoB (r17.Vault.Events : List GEvent) u22,osl NoB (r17.Blobs.Keys : List (Vector UInt8 32)) u23,osl NoB (r17.Blobs.Data : List (List UInt8)) u24,osl NoB (r17.Blobs.Counts : List Int) u25,osl NoB (r6.Data : List UInt8) u8,osl NoB (r6.Vault.Keys : List (Vector UInt8 16)) u9,osl NoB (r6.Vault.Records : List GRecord) u10,osl NoB (r6.Vault.Events : List GEvent) u11,osl NoB (r6.Blobs.Keys : List (Vector UInt8 32)) u12,osl NoB (r6.Blobs.Data : List (List UInt8)) u13,osl NoB (r6.Blobs.Counts : List Int) u14,raw b1 (cat [cat [[vI p0.Cipher.Field],enc p0.Cipher.Box,enc p0.Cipher.Mix,enc p0.Cipher.Places,[vI p0.Cipher.Rounds]],enc p0.Key,enc p0.Start,[v0_1],cat [[v0_2],[vI p0.Vault.Next],[v0_3],[v0_4],enc p0.Vault.Head],cat [[v0_5],[v0_6],[v0_7]]])]) Yx rfl rfl [22,23,24] (by decide) [(2,fun v=>own NoB r35 (Value.cells v).toList)] rfl (fun j=>([fun v=>v = (Value.agg (cat [cat [[vI r17.Cipher.Field],enc r17.Cipher.Box,enc r17.Cipher.Mix,enc r17.Cipher.Places,[vI r17.Cipher.Rounds]],enc r17.Key,enc r17.Start,[u19],cat [[u20],[vI r17.Vault.Next],[u21],[u22],enc r17.Vault.Head],cat [[u23],[u24],[u25]]]).toArray),fun v=>v = (Value.agg (cat [cat [[vI p0.Cipher.Field],enc p0.Cipher.Box,enc p0.Cipher.Mix,enc p0.Cipher.Places,[vI p0.Cipher.Rounds]],enc p0.Key,enc p0.Start,[v0_1],cat [[v0_2],[vI p0.Vault.Next],[v0_3],[v0_4],enc p0.Vault.Head],cat [[v0_5],[v0_6],[v0_7]]]).toArray),fun v=>∃ cs,v = .agg cs] : List (Value → Prop)).getD j (fun _=>True)) hE hM.drew (st3 ?_ ?_ ?_) ?_
    ·intro a w ux34 D hE hM hD hp
     have hM0:=hM
     have hM : M (Old w0) w0 w [raw b26 (cat [cat [[vI r17.Cipher.Field],enc r17.Cipher.Box,enc r17.Cipher.Mix,enc r17.Cipher.Places,[vI r17.Cipher.Rounds]],enc r17.Key,enc r17.Start,[u19],cat [[u20],[vI r17.Vault.Next],[u21],[u22],enc r17.Vault.Head],cat [[u23],[u24],[u25]]]),osl NoB (r17.Data : List UInt8) u19,osl NoB (r17.Vault.Keys : List (Vector UInt8 16)) u20,osl NoB (r17.Vault.Records : List GRecord) u21,osl NoB (r17.Vault.Events : List GEvent) u22,osl NoB (r17.Blobs.Keys : List (Vector UInt8 32)) u23,osl NoB (r17.Blobs.Data : List (List UInt8)) u24,osl NoB (r17.Blobs.Counts : List Int) u25,osl NoB (r6.Data : List UInt8) u8,osl NoB (r6.Vault.Keys : List (Vector UInt8 16)) u9,osl NoB (r6.Vault.Records : List GRecord) u10,osl NoB (r6.Vault.Events : List GEvent) u11,osl NoB (r6.Blobs.Keys : List (Vector UInt8 32)) u12,osl NoB (r6.Blobs.Data : List (List UInt8)) u13,osl NoB (r6.Blobs.Counts : List Int) u14,raw b1 (cat [cat [[vI p0.Cipher.Field],enc p0.Cipher.Box,enc p0.Cipher.Mix,enc p0.Cipher.Places,[vI p0.Cipher.Rounds]],enc p0.Key,enc p0.Start,[v0_1],cat [[v0_2],[vI p0.Vault.Next],[v0_3],[v0_4],enc p0.Vault.Head],cat [[v0_5],[v0_6],[v0_7]]]),opt (D 2) (own NoB r35 (Value.cells (ux34 2)).toList)]:=hM
     exact Zn hE rfl JX rfl hM.rawAt0 cq fun a hE=>⟨_,_,rfl,hE,rfl,hM0.optKeep rfl⟩
    ·intro a w ux34 D hE hM hD hp
     have hM0:=hM
     have hM : M (Old w0) w0 w [raw b26 (cat [cat [[vI r17.Cipher.Field],enc r17.Cipher.Box,enc r17.Cipher.Mix,enc r17.Cipher.Places,[vI r17.Cipher.Rounds]],enc r17.Key,enc r17.Start,[u19],cat [[u20],[vI r17.Vault.Next],[u21],[u22],enc r17.Vault.Head],cat [[u23],[u24],[u25]]]),osl NoB (r17.Data : List UInt8) u19,osl NoB (r17.Vault.Keys : List (Vector UInt8 16)) u20,osl NoB (r17.Vault.Records : List GRecord) u21,osl NoB (r17.Vault.Events : List GEvent) u22,osl NoB (r17.Blobs.Keys : List (Vector UInt8 32)) u23,osl NoB (r17.Blobs.Data : List (List UInt8)) u24,osl NoB (r17.Blobs.Counts : List Int) u25,osl NoB (r6.Data : List UInt8) u8,osl NoB (r6.Vault.Keys : List (Vector UInt8 16)) u9,osl NoB (r6.Vault.Records : List GRecord) u10,osl NoB (r6.Vault.Events : List GEvent) u11,osl NoB (r6.Blobs.Keys : List (Vector UInt8 32)) u12,osl NoB (r6.Blobs.Data : List (List UInt8)) u13,osl NoB (r6.Blobs.Counts : List Int) u14,raw b1 (cat [cat [[vI p0.Cipher.Field],enc p0.Cipher.Box,enc p0.Cipher.Mix,enc p0.Cipher.Places,[vI p0.Cipher.Rounds]],enc p0.Key,enc p0.Start,[v0_1],cat [[v0_2],[vI p0.Vault.Next],[v0_3],[v0_4],enc p0.Vault.Head],cat [[v0_5],[v0_6],[v0_7]]]),opt (D 2) (own NoB r35 (Value.cells (ux34 2)).toList)]:=hM
     exact Zn hE rfl zX rfl (hM.rawAt (pre:=[_,_,_,_,_,_,_,_,_,_,_,_,_,_,_])) cq fun a hE=>⟨_,_,rfl,hE,rfl,hM0.optKeep rfl⟩
    ·intro a w ux34 D hE hM hD hp
     have f1 : ux34 1 = (Value.agg (cat [cat [[vI p0.Cipher.Field],enc p0.Cipher.Box,enc p0.Cipher.Mix,enc p0.Cipher.Places,[vI p0.Cipher.Rounds]],enc p0.Key,enc p0.Start,[v0_1],cat [[v0_2],[vI p0.Vault.Next],[v0_3],[v0_4],enc p0.Vault.Head],cat [[v0_5],[v0_6],[v0_7]]]).toArray):=(hp 0 _ rfl rfl).2
     have hM0:=hM
     have hM : M (Old w0) w0 w [raw b26 (cat [cat [[vI r17.Cipher.Field],enc r17.Cipher.Box,enc r17.Cipher.Mix,enc r17.Cipher.Places,[vI r17.Cipher.Rounds]],enc r17.Key,enc r17.Start,[u19],cat [[u20],[vI r17.Vault.Next],[u21],[u22],enc r17.Vault.Head],cat [[u23],[u24],[u25]]]),osl NoB (r17.Data : List UInt8) u19,osl NoB (r17.Vault.Keys : List (Vector UInt8 16)) u20,osl NoB (r17.Vault.Records : List GRecord) u21,osl NoB (r17.Vault.Events : List GEvent) u22,osl NoB (r17.Blobs.Keys : List (Vector UInt8 32)) u23,osl NoB (r17.Blobs.Data : List (List UInt8)) u24,osl NoB (r17.Blobs.Counts : List Int) u25,osl NoB (r6.Data : List UInt8) u8,osl NoB (r6.Vault.Keys : List (Vector UInt8 16)) u9,osl NoB (r6.Vault.Records : List GRecord) u10,osl NoB (r6.Vault.Events : List GEvent) u11,osl NoB (r6.Blobs.Keys : List (Vector UInt8 32)) u12,osl NoB (r6.Blobs.Data : List (List UInt8)) u13,osl NoB (r6.Blobs.Counts : List Int) u14,raw b1 (cat [cat [[vI p0.Cipher.Field],enc p0.Cipher.Box,enc p0.Cipher.Mix,enc p0.Cipher.Places,[vI p0.Cipher.Rounds]],enc p0.Key,enc p0.Start,[v0_1],cat [[v0_2],[vI p0.Vault.Next],[v0_3],[v0_4],enc p0.Vault.Head],cat [[v0_5],[v0_6],[v0_7]]]),opt (D 2) (own NoB r35 (Value.cells (ux34 2)).toList)]:=hM
     refine Zv hE (ZU (ZR (lk rfl f1) Xf)) cb12 (Kv _ p0 v0_1 (hM.rdo hv0_1) v0_2 (hM.rdo hv0_2) v0_3 (hM.rdo hv0_3) v0_4 (hM.rdo hv0_4) v0_5 (hM.rdo hv0_5) v0_6 (hM.rdo hv0_6) v0_7 (hM.rdo hv0_7) r35 e36) ?_
     rintro _ w a ⟨u37,u38,u39,u40,u41,u42,u43,rfl,hFr,hK⟩ hE
     have hM:=hM0.add hK hFr
     have hM:=hM.packL (m:=[osl NoB (r35.Data : List UInt8) u37,osl NoB (r35.Vault.Keys : List (Vector UInt8 16)) u38,osl NoB (r35.Vault.Records : List GRecord) u39,osl NoB (r35.Vault.Events : List GEvent) u40,osl NoB (r35.Blobs.Keys : List (Vector UInt8 32)) u41,osl NoB (r35.Blobs.Data : List (List UInt8)) u42,osl NoB (r35.Blobs.Counts : List Int) u43]) (it:=own NoB r35 (cat [cat [[vI r35.Cipher.Field],enc r35.Cipher.Box,enc r35.Cipher.Mix,enc r35.Cipher.Places,[vI r35.Cipher.Rounds]],enc r35.Key,enc r35.Start,[u37],cat [[u38],[vI r35.Vault.Next],[u39],[u40],enc r35.Vault.Head],cat [[u41],[u42],[u43]]])) (Vo noB) (fun fp h=>by obtain ⟨_,_,rfl,_,s1,_,_,rfl,_,s2,_,_,rfl,_,s3,_,_,rfl,_,s4,_,_,rfl,_,s5,_,_,rfl,_,s6,_,_,rfl,_,s7,rfl⟩:=h; exact ju (Wq.sat s1) (Wq.sat s2) (Wq.sat s3) (Wq.sat s4) (Wq.sat s5) (Wq.sat s6) (Wq.sat s7) (by simp))
     exact ⟨_,_,rfl,hE,⟨_,rfl⟩,M.optFill (mk1:=[]) (mk2:=[]) (f:=(fun v=>own NoB r35 (Value.cells v).toList)) hM rfl hD⟩
    ·intro a w ux34 hE hM hg
     have hM : M (Old w0) w0 w [raw b26 (cat [cat [[vI r17.Cipher.Field],enc r17.Cipher.Box,enc r17.Cipher.Mix,enc r17.Cipher.Places,[vI r17.Cipher.Rounds]],enc r17.Key,enc r17.Start,[u19],cat [[u20],[vI r17.Vault.Next],[u21],[u22],enc r17.Vault.Head],cat [[u23],[u24],[u25]]]),osl NoB (r17.Data : List UInt8) u19,osl NoB (r17.Vault.Keys : List (Vector UInt8 16)) u20,osl NoB (r17.Vault.Records : List GRecord) u21,osl NoB (r17.Vault.Events : List GEvent) u22,osl NoB (r17.Blobs.Keys : List (Vector UInt8 32)) u23,osl NoB (r17.Blobs.Data : List (List UInt8)) u24,osl NoB (r17.Blobs.Counts : List Int) u25,osl NoB (r6.Data : List UInt8) u8,osl NoB (r6.Vault.Keys : List (Vector UInt8 16)) u9,osl NoB (r6.Vault.Records : List GRecord) u10,osl NoB (r6.Vault.Events : List GEvent) u11,osl NoB (r6.Blobs.Keys : List (Vector UInt8 32)) u12,osl NoB (r6.Blobs.Data : List (List UInt8)) u13,osl NoB (r6.Blobs.Counts : List Int) u14,raw b1 (cat [cat [[vI p0.Cipher.Field],enc p0.Cipher.Box,enc p0.Cipher.Mix,enc p0.Cipher.Places,[vI p0.Cipher.Rounds]],enc p0.Key,enc p0.Start,[v0_1],cat [[v0_2],[vI p0.Vault.Next],[v0_3],[v0_4],enc p0.Vault.Head],cat [[v0_5],[v0_6],[v0_7]]]),own NoB r35 (Value.cells (ux34 2)).toList]:=hM
     obtain ⟨q2_1,q2_2,q2_3,q2_4,q2_5,q2_6,q2_7,hcz,hq2_1,hq2_2,hq2_3,hq2_4,hq2_5,hq2_6,hq2_7⟩:=jn (hM.ro (pre:=[_,_,_,_,_,_,_,_,_,_,_,_,_,_,_,_]) noB)
     obtain ⟨cz,hvz⟩:=hg 2 (by decide)
     have f2 : ux34 2 = (Value.agg (cat [cat [[vI r35.Cipher.Field],enc r35.Cipher.Box,enc r35.Cipher.Mix,enc r35.Cipher.Places,[vI r35.Cipher.Rounds]],enc r35.Key,enc r35.Start,[q2_1],cat [[q2_2],[vI r35.Vault.Next],[q2_3],[q2_4],enc r35.Vault.Head],cat [[q2_5],[q2_6],[q2_7]]]).toArray):=by rw [hvz] at hcz ⊢; exact congrArg Value.agg (HT hcz)
     have hM:=hM.pull (pre:=[_,_,_,_,_,_,_,_,_,_,_,_,_,_,_,_])
     rw [f2] at hM
     have hM:=hM.unpackL (m:=[own NoB (r35.Data : (List UInt8)) [q2_1],own NoB (r35.Vault.Keys : (List (Vector UInt8 16))) [q2_2],own NoB (r35.Vault.Records : (List GRecord)) [q2_3],own NoB (r35.Vault.Events : (List GEvent)) [q2_4],own NoB (r35.Blobs.Keys : (List (Vector UInt8 32))) [q2_5],own NoB (r35.Blobs.Data : (List (List UInt8))) [q2_6],own NoB (r35.Blobs.Counts : (List Int)) [q2_7]]) (fun fp h=>by obtain ⟨_,_,_,_,_,_,_,rfl,s1,s2,s3,s4,s5,s6,s7⟩:=Zan h; exact (XS.cons (Vo noB) s1 (XS.cons (Vo noB) s2 (XS.cons (Vo noB) s3 (XS.cons (Vo noB) s4 (XS.cons (Vo noB) s5 (XS.cons (Vo noB) s6 (XS.one (Vo noB) s7))))))))
     simp only [List.cons_append,List.nil_append] at hM
     have hE:=hE.sub (e':=[(22,(Value.agg (cat [cat [[vI r17.Cipher.Field],enc r17.Cipher.Box,enc r17.Cipher.Mix,enc r17.Cipher.Places,[vI r17.Cipher.Rounds]],enc r17.Key,enc r17.Start,[u19],cat [[u20],[vI r17.Vault.Next],[u21],[u22],enc r17.Vault.Head],cat [[u23],[u24],[u25]]]).toArray)),(24,(Value.agg (cat [cat [[vI r35.Cipher.Field],enc r35.Cipher.Box,enc r35.Cipher.Mix,enc r35.Cipher.Places,[vI r35.Cipher.Rounds]],enc r35.Key,enc r35.Start,[q2_1],cat [[q2_2],[vI r35.Vault.Next],[q2_3],[q2_4],enc r35.Vault.Head],cat [[q2_5],[q2_6],[q2_7]]]).toArray)),(2,vT false)]) ⟨lk rfl (hg 0 (by decide)),lk rfl f2,rfl,trivial⟩
     obtain ⟨r52,e53,hl32⟩:=bind_some hl32
     refine Zv hE rfl (cbm Tryz.func7) (zP _ r17 u19 (hM.sl (pre:=[_,_,_,_,_,_,_,_]) noB) u20 (hM.sl (pre:=[_,_,_,_,_,_,_,_,_]) noB) u21 (hM.sl (pre:=[_,_,_,_,_,_,_,_,_,_]) noB) u22 (hM.sl (pre:=[_,_,_,_,_,_,_,_,_,_,_]) noB) u23 (hM.sl (pre:=[_,_,_,_,_,_,_,_,_,_,_,_]) noB) u24 (hM.sl (pre:=[_,_,_,_,_,_,_,_,_,_,_,_,_]) noB) u25 (hM.sl (pre:=[_,_,_,_,_,_,_,_,_,_,_,_,_,_]) noB) r35 q2_1 (hM.ro (pre:=[]) noB) q2_2 (hM.ro (pre:=[_]) noB) q2_3 (hM.ro (pre:=[_,_]) noB) q2_4 (hM.ro (pre:=[_,_,_]) noB) q2_5 (hM.ro (pre:=[_,_,_,_]) noB) q2_6 (hM.ro (pre:=[_,_,_,_,_]) noB) q2_7 (hM.ro (pre:=[_,_,_,_,_,_]) noB) r52 e53) ?_
     rintro v w a ⟨rfl,hK⟩ hE
     have hM:=hM.keep hK
     refine YO hE rfl fun a hE=>Zj ?_
     obtain rfl:=Option.some.inj hl32
     refine Zl ?_
     have hM:=M.fst (l:=[]) hM
     exact ⟨hE.sub ⟨rfl,trivial⟩,hM⟩
   ·skip
    rintro a w ⟨hE,hM⟩
    refine Zq hE rfl ?_ ?_
    ·intro hb55
     have hF33:=Zu hF33 hb55
     refine Za (Zb hE rfl fun a hE=>Zf ?_)
     obtain rfl:=Option.some.inj hF33
     exact wp_ret (Zs (kr1 hE rfl rfl hM.kept))
    ·intro hb55
     have hF33:=Zt hF33 hb55
     refine wp_skip (Zy (Za (Zb hE rfl fun a hE=>Zf ?_)))
     obtain rfl:=Option.some.inj hF33
     exact wp_ret (kr1 hE rfl rfl hM.kept)
end

end Go.Proofs.YtlpppjjlffgkmaaGreat
