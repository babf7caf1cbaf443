/- The walk of what the law reaches: contracts of functions. -/
import Derived.Test.YtifdeoikcebbjaaGreatC1
set_option linter.unusedVariables false
set_option linter.unusedSimpArgs false
set_option maxRecDepth 20000
set_option maxHeartbeats 400000
namespace Go.Proofs.YtifdeoikcebbjaaGreat
open Go
open Flat (enc)
noncomputable section
theorem Qt (w0 : World) (p0 : GCipher) (p1 : (Vector UInt8 16)) (p2 : (Vector UInt8 16)) (p3 : Int) (r : (Vector UInt8 16)) (hF : Xh p0 p1 p2 p3 = some r) :
  Calls Tryz.prog 223 [(Value.agg (enc p0).toArray),(Value.agg (enc p1).toArray),(Value.agg (enc p2).toArray),vI p3].toArray w0 (fun en w'=>∃ v,en = .returned v ∧ (v = (Value.agg (enc r).toArray) ∧ Kept (Old w0) w0 w')):=by
 refine ZD (n:=48) Tryz.func223 rfl rfl (nbl rfl) rfl ?_
 intro a hE
 have hM:=M.start w0
 unfold Xh at hF
 refine Zc (ZY (cs:=cat [[vI p0.Field],enc p0.Box,enc p0.Mix,enc p0.Places,[vI p0.Rounds]]) hE hM Za ld rfl rfl fun b1 w a hM hE=>ZY (cs:=enc p1) hE hM Za ld rfl rfl fun b3 w a hM hE=>ZY (cs:=enc p2) hE hM Za ld rfl rfl fun b5 w a hM hE=>ZE hE hM Za ld ZH fun b7 w a hM hE=>Zf (Zc (Zm (cs:=enc p0) hE Za ld rfl V4 rfl (hM.rawAt (pre:=[_,_,_])) (Zh (cl1 (n:=1) (m:=289) rfl (cl1 (n:=256) (m:=33) (Flat.len _) (cl1 (n:=16) (m:=17) (Flat.len _) (cl1 (n:=16) (m:=1) (Flat.len _) (cl1 (n:=1) (m:=0) rfl cl0)))))) fun a hE=>Zm (cs:=enc p1) hE Za ld rfl ZH rfl (hM.rawAt (pre:=[_,_])) (Flat.len _) fun a hE=>Zd hE Za ld rfl ?_))); intro a hE
 obtain ⟨r9,e10,hF⟩:=bind_some hF
 refine Zt hE Za ld rfl cb241 (BL _ p0 p1 p3 r9 e10) ?_
 rintro u11 w a ⟨_,rfl,hFr,hK⟩ hE
 have hM:=hM.add hK hFr
 refine Ze hE Za ld rfl fun a hE=>Zf ?_
 obtain ⟨j12,hl13,hF14⟩:=bind_some hF
 refine ZS (fun a w=>Env 48 a [(3,vI p3),(4,(ptr b1 0)),(6,(ptr b5 0)),(8,(ptr b7 0)),(9,u11)] ∧ M (Old w0) w0 w [osl NoB (r9 : List (Vector UInt8 16)) u11,raw b7 (enc (Vector.replicate 16 (0 : UInt8))),raw b5 (enc j12),raw b1 (cat [[vI p0.Field],enc p0.Box,enc p0.Mix,enc p0.Places,[vI p0.Rounds]])]) ?_ ?_
 ·skip
  obtain ⟨x16,hi18,hl13⟩:=bix hl13
  obtain ⟨r19,e20,hl13⟩:=bind_some hl13
  refine YC (n:=48) (hd:=[_,_,_,_,_]) (tl:=[_]) Y0 rfl rfl [15,16,17,18,19] (by decide) (fun w=>M (Old w0) w0 w [osl NoB (r9 : List (Vector UInt8 16)) u11,raw b7 (enc (Vector.replicate 16 (0 : UInt8))),raw b5 (enc p2),raw b3 (enc p1),raw b1 (cat [[vI p0.Field],enc p0.Box,enc p0.Mix,enc p0.Places,[vI p0.Rounds]])]) (fun j=>([fun v _=>v = (Value.agg (enc p2).toArray),fun v _=>v = u11,fun v _=>v = (ptr (sb u11) (so u11 + ((0 : Int)).toNat * 16)),fun v _=>v = (Value.agg (enc x16).toArray),fun v _=>v = (Value.agg (enc r19).toArray)] : List (Value → World → Prop)).getD j (fun _ _=>True)) (fun _ _ h hk=>h.keep hk) (gup (Zk (Zk (Zk (Zk (Zk V1)))))) hE hM.drew (ZK (Zb ?_ (Zb ?_ (Zb ?_ (Zb ?_ (Zb ?_ ZF)))))) ?_
  ·exact fun a w ux15 hE hM hp=>Zm (cs:=enc p2) hE Za ld rfl ZH rfl (hM.rawAt (pre:=[_,_])) (Flat.len _) fun a hE=>⟨Kept.refl _ _,_,_,rfl,hE,rfl⟩
  ·exact fun a w ux15 hE hM hp=>Zd hE Za ld rfl fun a hE=>⟨Kept.refl _ _,_,_,rfl,hE,rfl⟩
  ·intro a w ux15 hE hM hp
   have f1 : ux15 1 = u11:=hp 0 _ rfl rfl
   exact ZL hE Za ld (lk rfl f1) rfl Tryz.underlying32 ZH (hM.sl (pre:=[]) noB) hi18.1 fun a hE=>⟨Kept.refl _ _,_,_,rfl,hE,rfl⟩
  ·intro a w ux15 hE hM hp
   have f2 : ux15 2 = (ptr (sb u11) (so u11 + ((0 : Int)).toNat * 16)):=hp 0 _ rfl rfl
   exact Zm (cs:=enc x16) hE Za ld (lk rfl f2) ZH rfl (XE (hM.sl (pre:=[]) noB) hi18.2) (Flat.len _) fun a hE=>⟨Kept.refl _ _,_,_,rfl,hE,rfl⟩
  ·intro a w ux15 hE hM hp
   have f0 : ux15 0 = (Value.agg (enc p2).toArray):=hp 0 _ rfl rfl
   have f3 : ux15 3 = (Value.agg (enc x16).toArray):=hp 1 _ rfl rfl
   refine Zt hE Za ld (ZV (ZT (lk rfl f0) (ZT (lk rfl f3) YZ))) As (Uw _ p2 x16 r19 e20) ?_
   rintro v w a ⟨rfl,hK⟩ hE
   exact ⟨hK,_,_,rfl,hE,rfl⟩
  ·intro a w ux15 hE hM hg
   have hE:=hE.sub (e':=[(19,(Value.agg (enc r19).toArray)),(3,vI p3),(4,(ptr b1 0)),(6,(ptr b5 0)),(8,(ptr b7 0)),(9,u11)]) ⟨lk rfl (hg 4 (by decide)),rfl,rfl,rfl,rfl,rfl,trivial⟩
   have hM:=hM.pull (pre:=[_,_])
   refine Zo (seg:=enc r19) (cs':=enc r19) hE hM Za rfl rfl rfl ZH (Flat.len _) (zle flq) (Flat.cell _) (Zl flq) fun w a hM hE=>Zj ?_
   have ht21:=Option.some.inj hl13
   subst ht21
   refine Zn ?_
   have hM:=M.fst (l:=[_,_,_,_]) ((((hM.pull (pre:=[_,_,_,_])).pull (pre:=[_])).pull (pre:=[_,_,_])).pull (pre:=[_,_,_]))
   exact ⟨hE.sub ⟨rfl,rfl,rfl,rfl,rfl,trivial⟩,hM⟩
 ·skip
  rintro a w ⟨hE,hM⟩
  refine wp_seq (Zc (Ze hE Za ld rfl fun a hE=>Zf ?_))
  obtain ⟨j22,hl23,hF24⟩:=bind_some hF14
  refine ZP (fun a w=>Env 48 a [(6,(ptr b5 0)),(8,(ptr b7 0))] ∧ M (Old w0) w0 w [raw b7 (enc (Vector.replicate 16 (0 : UInt8))),raw b5 (enc j22)]) ?_ ?_
  ·skip
   refine wp_block ?_
   refine ZI (fun (s25 : (Vector UInt8 16) × Int) a w=>Env 48 a [(3,vI p3),(4,(ptr b1 0)),(6,(ptr b5 0)),(8,(ptr b7 0)),(9,u11),(10,vI s25.2)] ∧ M (Old w0) w0 w [osl NoB (r9 : List (Vector UInt8 16)) u11,raw b7 (enc (Vector.replicate 16 (0 : UInt8))),raw b5 (enc s25.1),raw b1 (cat [[vI p0.Field],enc p0.Box,enc p0.Mix,enc p0.Places,[vI p0.Rounds]])]) hl23 ⟨hE.sub ⟨rfl,rfl,rfl,rfl,rfl,rfl,trivial⟩,hM⟩ ?_
   rintro s25 a w ⟨hE,hM⟩ o28 hs26 hx27
   unfold Xu at hs26
   refine wp_seq (Zc (Zd hE Za ld rfl fun a hE=>Zd hE Za ld rfl fun a hE=>Zi hE Za ld rfl rfl rfl fun a hE=>Zf ?_))
   refine Zs hE rfl ?_ ?_
   ·intro hb29
    have hs26:=ZA hs26 hb29
    refine wp_skip (Zz ?_)
    obtain ⟨j30,hl31,hF32⟩:=bind_some hs26
    refine ZS (fun a w=>Env 48 a [(3,vI p3),(4,(ptr b1 0)),(6,(ptr b5 0)),(8,(ptr b7 0)),(9,u11),(10,vI s25.2)] ∧ M (Old w0) w0 w [osl NoB (r9 : List (Vector UInt8 16)) u11,raw b7 (enc (Vector.replicate 16 (0 : UInt8))),raw b5 (enc j30),raw b1 (cat [[vI p0.Field],enc p0.Box,enc p0.Mix,enc p0.Places,[vI p0.Rounds]])]) ?_ ?_
    ·skip
     refine wp_block ?_
     obtain ⟨j33,hl34,hF35⟩:=bind_some hl31
     refine ZS (fun a w=>Env 48 a [(3,vI p3),(4,(ptr b1 0)),(6,(ptr b5 0)),(8,(ptr b7 0)),(9,u11),(10,vI s25.2)] ∧ M (Old w0) w0 w [osl NoB (r9 : List (Vector UInt8 16)) u11,raw b7 (enc (Vector.replicate 16 (0 : UInt8))),raw b5 (enc j33),raw b1 (cat [[vI p0.Field],enc p0.Box,enc p0.Mix,enc p0.Places,[vI p0.Rounds]])]) ?_ ?_
     ·skip
      obtain ⟨r37,e38,hl34⟩:=bind_some hl34
      obtain ⟨r39,e40,hl34⟩:=bind_some hl34
      refine YC (n:=48) (hd:=[_,_,_,_,_,_,_]) (tl:=[_]) Y0 rfl rfl [25,26,27,28,29,30,31] (by decide) (fun w=>M (Old w0) w0 w [osl NoB (r9 : List (Vector UInt8 16)) u11,raw b7 (enc (Vector.replicate 16 (0 : UInt8))),raw b5 (enc s25.1),raw b1 (cat [[vI p0.Field],enc p0.Box,enc p0.Mix,enc p0.Places,[vI p0.Rounds]])]) (fun j=>([fun v _=>v = (ptr b1 (0 + 273)),fun v _=>v = (Value.agg (enc p0.Places).toArray),fun v _=>v = (ptr b1 (0 + 1)),fun v _=>v = (Value.agg (enc p0.Box).toArray),fun v _=>v = (Value.agg (enc s25.1).toArray),fun v _=>v = (Value.agg (enc r37).toArray),fun v _=>v = (Value.agg (enc r39).toArray)] : List (Value → World → Prop)).getD j (fun _ _=>True)) (fun _ _ h hk=>h.keep hk) (gup (Zk (Zk (Zk (Zk (Zk (Zk (Zk V1)))))))) hE hM.drew (ZK (Zb ?_ (Zb ?_ (Zb ?_ (Zb ?_ (Zb ?_ (Zb ?_ (Zb ?_ ZF)))))))) ?_
      ·exact fun a w ux36 hE hM hp=>Zg hE Za ld rfl (JD) fun a hE=>⟨Kept.refl _ _,_,_,rfl,hE,rfl⟩
      ·intro a w ux36 hE hM hp
       have f0 : ux36 0 = (ptr b1 (0 + 273)):=hp 0 _ rfl rfl
       exact Zm (cs:=enc p0.Places) hE Za ld (lk rfl f0) Qc rfl (At.cat (pre:=[[vI p0.Field],enc p0.Box,enc p0.Mix]) (hM.rawAt (pre:=[_,_,_])) (cl1 (n:=1) (m:=272) rfl (cl1 (n:=256) (m:=16) (Flat.len _) (cl1 (n:=16) (m:=0) (Flat.len _) cl0)))) (Flat.len _) fun a hE=>⟨Kept.refl _ _,_,_,rfl,hE,rfl⟩
      ·exact fun a w ux36 hE hM hp=>Zg hE Za ld rfl (KO) fun a hE=>⟨Kept.refl _ _,_,_,rfl,hE,rfl⟩
      ·intro a w ux36 hE hM hp
       have f2 : ux36 2 = (ptr b1 (0 + 1)):=hp 0 _ rfl rfl
       exact Zm (cs:=enc p0.Box) hE Za ld (lk rfl f2) XG rfl (At.cat (pre:=[[vI p0.Field]]) (hM.rawAt (pre:=[_,_,_])) (cl1 (n:=1) (m:=0) rfl cl0)) (Flat.len _) fun a hE=>⟨Kept.refl _ _,_,_,rfl,hE,rfl⟩
      ·exact fun a w ux36 hE hM hp=>Zm (cs:=enc s25.1) hE Za ld rfl ZH rfl (hM.rawAt (pre:=[_,_])) (Flat.len _) fun a hE=>⟨Kept.refl _ _,_,_,rfl,hE,rfl⟩
      ·intro a w ux36 hE hM hp
       have f3 : ux36 3 = (Value.agg (enc p0.Box).toArray):=hp 0 _ rfl rfl
       have f4 : ux36 4 = (Value.agg (enc s25.1).toArray):=hp 1 _ rfl rfl
       refine Zt hE Za ld (ZV (ZT (lk rfl f3) (ZT (lk rfl f4) YZ))) cb243 (H5 _ p0.Box s25.1 r37 e38) ?_
       rintro v w a ⟨rfl,hK⟩ hE
       exact ⟨hK,_,_,rfl,hE,rfl⟩
      ·intro a w ux36 hE hM hp
       have f1 : ux36 1 = (Value.agg (enc p0.Places).toArray):=hp 0 _ rfl rfl
       have f5 : ux36 5 = (Value.agg (enc r37).toArray):=hp 1 _ rfl rfl
       refine Zt hE Za ld (ZV (ZT (lk rfl f1) (ZT (lk rfl f5) YZ))) cb242 (BO _ p0.Places r37 r39 e40) ?_
       rintro v w a ⟨rfl,hK⟩ hE
       exact ⟨hK,_,_,rfl,hE,rfl⟩
      ·intro a w ux36 hE hM hg
       have hE:=hE.sub (e':=[(31,(Value.agg (enc r39).toArray)),(3,vI p3),(4,(ptr b1 0)),(6,(ptr b5 0)),(8,(ptr b7 0)),(9,u11),(10,vI s25.2),(20,vI s25.2),(21,vI p3),(22,(vT (decide (s25.2 ≤ p3))))]) ⟨lk rfl (hg 6 (by decide)),rfl,rfl,rfl,rfl,rfl,rfl,rfl,rfl,rfl,trivial⟩
       have hM:=hM.pull (pre:=[_,_])
       refine Zo (seg:=enc r39) (cs':=enc r39) hE hM Za rfl rfl rfl ZH (Flat.len _) (zle flq) (Flat.cell _) (Zl flq) fun w a hM hE=>Zj ?_
       have ht41:=Option.some.inj hl34
       subst ht41
       refine Zn ?_
       have hM:=(((hM.pull (pre:=[_,_,_])).pull (pre:=[_])).pull (pre:=[_,_,_])).pull (pre:=[_,_,_])
       exact ⟨hE.sub ⟨rfl,rfl,rfl,rfl,rfl,rfl,trivial⟩,hM⟩
     ·skip
      rintro a w ⟨hE,hM⟩
      obtain ⟨j42,hl43,hF44⟩:=bind_some hF35
      refine ZS (fun a w=>Env 48 a [(3,vI p3),(4,(ptr b1 0)),(6,(ptr b5 0)),(8,(ptr b7 0)),(9,u11),(10,vI s25.2)] ∧ M (Old w0) w0 w [osl NoB (r9 : List (Vector UInt8 16)) u11,raw b7 (enc (Vector.replicate 16 (0 : UInt8))),raw b5 (enc j42),raw b1 (cat [[vI p0.Field],enc p0.Box,enc p0.Mix,enc p0.Places,[vI p0.Rounds]])]) ?_ ?_
      ·skip
       refine Zc (Zd hE Za ld rfl fun a hE=>Zd hE Za ld rfl fun a hE=>Zi hE Za ld rfl rfl rfl fun a hE=>Zf ?_)
       refine Zs hE rfl ?_ ?_
       ·intro hb45
        have hl43:=ZA hl43 hb45
        refine wp_region_lit (Zg hE Za ld rfl (Bd) fun a hE=>Zp (v:=(vI p0.Field)) hE Za ld rfl ty2 rfl (At.cat (pre:=[]) (hM.rawAt (pre:=[_,_,_])) cl0) fun a hE=>Zg hE Za ld rfl (JS) fun a hE=>Zm (cs:=enc p0.Mix) hE Za ld rfl UP rfl (At.cat (pre:=[[vI p0.Field],enc p0.Box]) (hM.rawAt (pre:=[_,_,_])) (cl1 (n:=1) (m:=256) rfl (cl1 (n:=256) (m:=0) (Flat.len _) cl0))) (Flat.len _) fun a hE=>Zm (cs:=enc j33) hE Za ld rfl ZH rfl (hM.rawAt (pre:=[_,_])) (Flat.len _) ?_); intro a hE
        obtain ⟨r46,e47,hl43⟩:=bind_some hl43
        refine Zt hE Za ld rfl cb244 (Aj _ p0.Field p0.Mix j33 r46 e47) ?_
        rintro v w a ⟨rfl,hK⟩ hE
        have hM:=(hM.keep hK).pull (pre:=[_,_])
        refine Zo (seg:=enc r46) (cs':=enc r46) hE hM Za rfl rfl rfl ZH (Flat.len _) (zle flq) (Flat.cell _) (Zl flq) fun w a hM hE=>Zj ?_
        have ht48:=Option.some.inj hl43
        subst ht48
        refine Zn ?_
        have hM:=(((hM.pull (pre:=[_,_,_])).pull (pre:=[_])).pull (pre:=[_,_,_])).pull (pre:=[_,_,_])
        exact ⟨hE.sub ⟨rfl,rfl,rfl,rfl,rfl,rfl,trivial⟩,hM⟩
       ·intro hb45
        have hl43:=ZB hl43 hb45
        refine wp_skip ?_
        have ht49:=Option.some.inj hl43
        subst ht49
        refine Zn ?_
        exact ⟨hE.sub ⟨rfl,rfl,rfl,rfl,rfl,rfl,trivial⟩,hM⟩
      ·skip
       rintro a w ⟨hE,hM⟩
       obtain ⟨x51,hi53,hF44⟩:=bix hF44
       obtain ⟨r54,e55,hF44⟩:=bind_some hF44
       refine YC (n:=48) (hd:=[_,_,_,_,_,_]) (tl:=[_]) Y0 rfl rfl [41,42,43,44,45,46] (by decide) (fun w=>M (Old w0) w0 w [osl NoB (r9 : List (Vector UInt8 16)) u11,raw b7 (enc (Vector.replicate 16 (0 : UInt8))),raw b5 (enc j42),raw b1 (cat [[vI p0.Field],enc p0.Box,enc p0.Mix,enc p0.Places,[vI p0.Rounds]])]) (fun j=>([fun v _=>v = (Value.agg (enc j42).toArray),fun v _=>v = u11,fun v _=>v = (vI s25.2),fun v _=>v = (ptr (sb u11) (so u11 + (s25.2).toNat * 16)),fun v _=>v = (Value.agg (enc x51).toArray),fun v _=>v = (Value.agg (enc r54).toArray)] : List (Value → World → Prop)).getD j (fun _ _=>True)) (fun _ _ h hk=>h.keep hk) (gup (Zk (Zk (Zk (Zk (Zk (Zk V1))))))) hE hM.drew (ZK (Zb ?_ (Zb ?_ (Zb ?_ (Zb ?_ (Zb ?_ (Zb ?_ ZF))))))) ?_
       ·exact fun a w ux50 hE hM hp=>Zm (cs:=enc j42) hE Za ld rfl ZH rfl (hM.rawAt (pre:=[_,_])) (Flat.len _) fun a hE=>⟨Kept.refl _ _,_,_,rfl,hE,rfl⟩
       ·exact fun a w ux50 hE hM hp=>Zd hE Za ld rfl fun a hE=>⟨Kept.refl _ _,_,_,rfl,hE,rfl⟩
       ·exact fun a w ux50 hE hM hp=>Zd hE Za ld rfl fun a hE=>⟨Kept.refl _ _,_,_,rfl,hE,rfl⟩
       ·intro a w ux50 hE hM hp
        have f1 : ux50 1 = u11:=hp 0 _ rfl rfl
        have f2 : ux50 2 = (vI s25.2):=hp 1 _ rfl rfl
        exact ZL hE Za ld (lk rfl f1) (lk rfl f2) Tryz.underlying32 ZH (hM.sl (pre:=[]) noB) hi53.1 fun a hE=>⟨Kept.refl _ _,_,_,rfl,hE,rfl⟩
       ·intro a w ux50 hE hM hp
        have f3 : ux50 3 = (ptr (sb u11) (so u11 + (s25.2).toNat * 16)):=hp 0 _ rfl rfl
        exact Zm (cs:=enc x51) hE Za ld (lk rfl f3) ZH rfl (XE (hM.sl (pre:=[]) noB) hi53.2) (Flat.len _) fun a hE=>⟨Kept.refl _ _,_,_,rfl,hE,rfl⟩
       ·intro a w ux50 hE hM hp
        have f0 : ux50 0 = (Value.agg (enc j42).toArray):=hp 0 _ rfl rfl
        have f4 : ux50 4 = (Value.agg (enc x51).toArray):=hp 1 _ rfl rfl
        refine Zt hE Za ld (ZV (ZT (lk rfl f0) (ZT (lk rfl f4) YZ))) As (Uw _ j42 x51 r54 e55) ?_
        rintro v w a ⟨rfl,hK⟩ hE
        exact ⟨hK,_,_,rfl,hE,rfl⟩
       ·intro a w ux50 hE hM hg
        have hE:=hE.sub (e':=[(46,(Value.agg (enc r54).toArray)),(3,vI p3),(4,(ptr b1 0)),(6,(ptr b5 0)),(8,(ptr b7 0)),(9,u11),(10,vI s25.2)]) ⟨lk rfl (hg 5 (by decide)),rfl,rfl,rfl,rfl,rfl,rfl,trivial⟩
        have hM:=hM.pull (pre:=[_,_])
        refine Zo (seg:=enc r54) (cs':=enc r54) hE hM Za rfl rfl rfl ZH (Flat.len _) (zle flq) (Flat.cell _) (Zl flq) fun w a hM hE=>Zj (Yb ?_)
        have ht56:=Option.some.inj hF44
        subst ht56
        refine Zn ?_
        have hM:=(((hM.pull (pre:=[_,_,_])).pull (pre:=[_])).pull (pre:=[_,_,_])).pull (pre:=[_,_,_])
        exact ⟨hE.sub ⟨rfl,rfl,rfl,rfl,rfl,rfl,trivial⟩,hM⟩
    ·skip
     rintro a w ⟨hE,hM⟩
     refine wp_region_lit (Zd hE Za ld rfl fun a hE=>Zi hE Za ld rfl rfl rfl fun a hE=>Ze hE Za ld rfl fun a hE=>Zj (Zn ?_))
     exact ⟨_,(ois hF32),hE.sub ⟨rfl,rfl,rfl,rfl,rfl,rfl,trivial⟩,hM⟩
   ·intro hb29
    have hs26:=ZB hs26 hb29
    refine wp_exit (Zq (Zq (Yf ?_)))
    have ht57:=hx27 _ (ois hs26)
    subst ht57
    refine Zn ?_
    have hM:=M.fst (l:=[_,_]) ((hM.pull (pre:=[_,_])).pull (pre:=[_,_]))
    exact ⟨hE.sub ⟨rfl,rfl,trivial⟩,hM⟩
  ·skip
   rintro a w ⟨hE,hM⟩
   refine Zz (Zc (Zm (cs:=enc j22) hE Za ld rfl ZH rfl (hM.rawAt (pre:=[_])) (Flat.len _) fun a hE=>Zo (seg:=enc j22) (cs':=enc j22) hE hM Za rfl rfl rfl ZH (Flat.len _) (zle flq) (Flat.cell _) (Zl flq) fun w a hM hE=>Zf ?_))
   have hr:=Option.some.inj hF24
   subst hr
   have hq58 : Yw Tryz.prog _ _ (.cell 8 70) _:=ZO hE rfl ZH rfl (hM.rawAt (pre:=[])) (Flat.len _) rfl
   have hM:=M.fst (l:=[]) hM
   exact wp_ret (Zy hE rfl hq58 ⟨_,rfl,rfl,hM.kept⟩)
def Wb (r31 : (Vector UInt8 16)) (r40 : (Vector UInt8 16)) (s51 : (Vector UInt8 32) × Int) : Option (Fl ((Vector UInt8 32) × Int) (Vector UInt8 32)) :=
 if (decide (s51.2 < 16)) = true then ((ZM r31 s51.2).bind fun x57=>(ZM s51.1 s51.2).bind fun x60=>(ZM r40 s51.2).bind fun x63=>(ZM (s51.1.setIfInBounds (s51.2).toNat x57) (wr (16 + s51.2))).bind fun x66=>some (Fl.nx (((s51.1.setIfInBounds (s51.2).toNat x57).setIfInBounds ((wr (16 + s51.2))).toNat x63),wr (s51.2 + 1)))) else (some (Fl.ex s51.1))
def WH (p0 : GCipher) (p1 : (Vector UInt8 32)) (p2 : (Vector UInt8 16)) : Option ((Vector UInt8 32)) :=
 (VM p1).bind fun r9=>(Xo r9.1 p2).bind fun r16=>(Xo r9.2 p2).bind fun r18=>(Xh p0 r9.2 r16 p0.Rounds).bind fun r29=>(Xo r29 r16).bind fun r31=>(Xh p0 r31 r18 p0.Rounds).bind fun r38=>(Xo r38 r18).bind fun r40=>(ZG (Wb r31 r40) ((Vector.replicate 32 (0 : UInt8)),0)).bind fun j48=>some j48
theorem Hn (w0 : World) (p0 : GCipher) (p1 : (Vector UInt8 32)) (p2 : (Vector UInt8 16)) (r : (Vector UInt8 32)) (hF : WH p0 p1 p2 = some r) :
  Calls Tryz.prog 190 [(Value.agg (enc p0).toArray),(Value.agg (enc p1).toArray),(Value.agg (enc p2).toArray)].toArray w0 (fun en w'=>∃ v,en = .returned v ∧ (v = (Value.agg (enc r).toArray) ∧ Kept (Old w0) w0 w')):=by
 refine ZD (n:=59) Tryz.func190 rfl rfl (nbl rfl) rfl ?_
 intro a hE
 have hM:=M.start w0
 unfold WH at hF
 refine Zc (ZY (cs:=cat [[vI p0.Field],enc p0.Box,enc p0.Mix,enc p0.Places,[vI p0.Rounds]]) hE hM Za ld rfl rfl fun b1 w a hM hE=>ZY (cs:=enc p1) hE hM Za ld rfl rfl fun b3 w a hM hE=>ZY (cs:=enc p2) hE hM Za ld rfl rfl fun b5 w a hM hE=>ZE hE hM Za ld Yy fun b7 w a hM hE=>Zf (Zc (Zm (cs:=enc p1) hE Za ld rfl Yy rfl (hM.rawAt (pre:=[_,_])) (Flat.len _) ?_))); intro a hE
 obtain ⟨r9,e10,hF⟩:=bind_some hF
 refine Zt hE Za ld rfl cb221 (Hr _ p1 r9 e10) ?_
 rintro v w a ⟨rfl,hK⟩ hE
 have hM:=hM.keep hK
 refine Zd hE Za ld rfl fun a hE=>Uz hE Za ld rfl rfl fun a hE=>Uz hE Za ld rfl rfl fun a hE=>ZE hE hM Za ld ZH fun b11 w a hM hE=>ZE hE hM Za ld ZH ?_; intro b13 w a hM hE
 have hM:=hM.pull (pre:=[_])
 refine Zo (seg:=enc r9.1) (cs':=enc r9.1) hE hM Za rfl rfl rfl ZH (Flat.len _) (zle flq) (Flat.cell _) (Zl flq) ?_; intro w a hM hE
 have hM:=hM.pull (pre:=[_])
 refine Zo (seg:=enc r9.2) (cs':=enc r9.2) hE hM Za rfl rfl rfl ZH (Flat.len _) (zle flq) (Flat.cell _) (Zl flq) fun w a hM hE=>Zf (wp_seq ?_)
 obtain ⟨r16,e17,hF⟩:=bind_some hF
 obtain ⟨r18,e19,hF⟩:=bind_some hF
 refine Ub (n:=59) (hd:=[_,_,_,_,_,_,_,_]) (tl:=[_,_]) Y0 rfl rfl [20,21,22,23,24,25,9,10] (by decide) (fun D u w=>M (Old w0) w0 w ([raw b13 (enc r9.2),raw b11 (enc r9.1),raw b7 (enc (Vector.replicate 32 (0 : UInt8))),raw b5 (enc p2),raw b3 (enc p1),raw b1 (cat [[vI p0.Field],enc p0.Box,enc p0.Mix,enc p0.Places,[vI p0.Rounds]])] ++ qL ([mkO 6 (fun v=>Vq v (enc (Vector.replicate 16 (0 : UInt8)))),mkO 7 (fun v=>Vq v (enc (Vector.replicate 16 (0 : UInt8))))] : Mk) D u) ∧ GOk ([([],fun us v=>v = (Value.agg (enc r9.1).toArray)),([],fun us v=>v = (Value.agg (enc p2).toArray)),([],fun us v=>v = (Value.agg (enc r16).toArray)),([],fun us v=>v = (Value.agg (enc r9.2).toArray)),([],fun us v=>v = (Value.agg (enc p2).toArray)),([],fun us v=>v = (Value.agg (enc r18).toArray)),([],fun us v=>True),([],fun us v=>True)] : Gs) D u) hE (fun u=>⟨M.qE (M.qE (M.q0 hM.drew u) emO) emO,Jg⟩) (ZK (Zb ?_ (Zb ?_ (Zb ?_ (Zb ?_ (Zb ?_ (Zb ?_ (Zb ?_ (Zb ?_ ZF))))))))) ?_
 ·intro a w ux15 D hE hI hD hdc hp
  have hM0:=hI.1
  have hM:=hI.1
  exact Zm (cs:=enc r9.1) hE Za ld rfl ZH rfl (hM.rawAt (pre:=[_])) (Flat.len _) fun a hE=>⟨_,_,rfl,hE,M.qKeep hM0 rfl,hI.2.put hD rfl ZQ rfl⟩
 ·intro a w ux15 D hE hI hD hdc hp
  have hM0:=hI.1
  have hM:=hI.1
  exact Zm (cs:=enc p2) hE Za ld rfl ZH rfl (hM.rawAt (pre:=[_,_,_])) (Flat.len _) fun a hE=>⟨_,_,rfl,hE,M.qKeep hM0 rfl,hI.2.put hD rfl ZQ rfl⟩
 ·intro a w ux15 D hE hI hD hdc hp
  have d0 : D 0 = true:=hp 0 _ rfl rfl
  have g0:=hI.2 0 d0 _ rfl
  have f0 : ux15 0 = (Value.agg (enc r9.1).toArray):=g0.2
  have d1 : D 1 = true:=hp 1 _ rfl rfl
  have g1:=hI.2 1 d1 _ rfl
  have f1 : ux15 1 = (Value.agg (enc p2).toArray):=g1.2
  have hM0:=hI.1
  refine Zt hE Za ld (ZV (ZT (lk rfl f0) (ZT (lk rfl f1) YZ))) As (Uw _ r9.1 p2 r16 e17) ?_
  rintro v w a ⟨rfl,hK⟩ hE
  exact ⟨_,_,rfl,hE,M.qKeep (hM0.keep hK) rfl,hI.2.put hD rfl ZQ rfl⟩
 ·intro a w ux15 D hE hI hD hdc hp
  have hM0:=hI.1
  have hM:=hI.1
  exact Zm (cs:=enc r9.2) hE Za ld rfl ZH rfl (hM.rawAt (pre:=[])) (Flat.len _) fun a hE=>⟨_,_,rfl,hE,M.qKeep hM0 rfl,hI.2.put hD rfl ZQ rfl⟩
 ·intro a w ux15 D hE hI hD hdc hp
  have hM0:=hI.1
  have hM:=hI.1
  exact Zm (cs:=enc p2) hE Za ld rfl ZH rfl (hM.rawAt (pre:=[_,_,_])) (Flat.len _) fun a hE=>⟨_,_,rfl,hE,M.qKeep hM0 rfl,hI.2.put hD rfl ZQ rfl⟩
 ·intro a w ux15 D hE hI hD hdc hp
  have d3 : D 3 = true:=hp 0 _ rfl rfl
  have g3:=hI.2 3 d3 _ rfl
  have f3 : ux15 3 = (Value.agg (enc r9.2).toArray):=g3.2
  have d4 : D 4 = true:=hp 1 _ rfl rfl
  have g4:=hI.2 4 d4 _ rfl
  have f4 : ux15 4 = (Value.agg (enc p2).toArray):=g4.2
  have hM0:=hI.1
  refine Zt hE Za ld (ZV (ZT (lk rfl f3) (ZT (lk rfl f4) YZ))) As (Uw _ r9.2 p2 r18 e19) ?_
  rintro v w a ⟨rfl,hK⟩ hE
  exact ⟨_,_,rfl,hE,M.qKeep (hM0.keep hK) rfl,hI.2.put hD rfl ZQ rfl⟩
 ·intro a w ux15 D hE hI hD hdc hp
  have hM0:=hI.1
  have hM:=hI.1
  refine ZE hE hM Za ld ZH ?_; intro b20 w a hM hE
  have hM:=hM.pack1 (it:=Vq _ (enc (Vector.replicate 16 (0 : UInt8)))) (fun w w' fp ⟨b',e,k⟩ hb=>⟨b',e,Xc w w' fp k hb⟩) (fun fp k=>⟨_,rfl,k⟩)
  exact ⟨_,_,rfl,hE,M.qFill (mk1:=[]) (mk2:=[_]) (f:=fun v=>Vq v (enc (Vector.replicate 16 (0 : UInt8)))) hM rfl hD,hI.2.put hD rfl ZQ trivial⟩
 ·intro a w ux15 D hE hI hD hdc hp
  have hM0:=hI.1
  have hM:=hI.1
  refine ZE hE hM Za ld ZH ?_; intro b22 w a hM hE
  have hM:=hM.pack1 (it:=Vq _ (enc (Vector.replicate 16 (0 : UInt8)))) (fun w w' fp ⟨b',e,k⟩ hb=>⟨b',e,Xc w w' fp k hb⟩) (fun fp k=>⟨_,rfl,k⟩)
  exact ⟨_,_,rfl,hE,M.qFill (mk1:=[_]) (mk2:=[]) (f:=fun v=>Vq v (enc (Vector.replicate 16 (0 : UInt8)))) hM rfl hD,hI.2.put hD rfl ZQ trivial⟩
 ·intro a w ux15 D hE hI hall
  have hM : M (Old w0) w0 w [raw b13 (enc r9.2),raw b11 (enc r9.1),raw b7 (enc (Vector.replicate 32 (0 : UInt8))),raw b5 (enc p2),raw b3 (enc p1),raw b1 (cat [[vI p0.Field],enc p0.Box,enc p0.Mix,enc p0.Places,[vI p0.Rounds]]),opt (D 6) (Vq (ux15 6) (enc (Vector.replicate 16 (0 : UInt8)))),opt (D 7) (Vq (ux15 7) (enc (Vector.replicate 16 (0 : UInt8))))]:=hI.1
  have d0 : D 0 = true:=hall 0 (by decide)
  have d1 : D 1 = true:=hall 1 (by decide)
  have d2 : D 2 = true:=hall 2 (by decide)
  have d3 : D 3 = true:=hall 3 (by decide)
  have d4 : D 4 = true:=hall 4 (by decide)
  have d5 : D 5 = true:=hall 5 (by decide)
  have d6 : D 6 = true:=hall 6 (by decide)
  have d7 : D 7 = true:=hall 7 (by decide)
  have f0 : ux15 0 = (Value.agg (enc r9.1).toArray):=(hI.2 0 d0 _ rfl).2
  have f1 : ux15 1 = (Value.agg (enc p2).toArray):=(hI.2 1 d1 _ rfl).2
  have f2 : ux15 2 = (Value.agg (enc r16).toArray):=(hI.2 2 d2 _ rfl).2
  have f3 : ux15 3 = (Value.agg (enc r9.2).toArray):=(hI.2 3 d3 _ rfl).2
  have f4 : ux15 4 = (Value.agg (enc p2).toArray):=(hI.2 4 d4 _ rfl).2
  have f5 : ux15 5 = (Value.agg (enc r18).toArray):=(hI.2 5 d5 _ rfl).2
  have hM:=(hM.sure (pre:=[_,_,_,_,_,_]) d6).pull
  obtain ⟨_,⟨b24,f25,_⟩,_⟩:=hM.head
  have hM:=((hM.pack1 Xc (it:=raw b24 (enc (Vector.replicate 16 (0 : UInt8)))) (fun fp ⟨b2,e2,k2⟩=>by rw [f25] at e2; simp [ptr] at e2; subst e2; exact k2)).sure (pre:=[_,_,_,_,_,_,_]) d7).pull
  obtain ⟨_,⟨b26,f27,_⟩,_⟩:=hM.head
  have hM:=hM.pack1 Xc (it:=raw b26 (enc (Vector.replicate 16 (0 : UInt8)))) (fun fp ⟨b2,e2,k2⟩=>by rw [f27] at e2; simp [ptr] at e2; subst e2; exact k2)
  have hE:=hE.sub (e':=[(22,(Value.agg (enc r16).toArray)),(25,(Value.agg (enc r18).toArray)),(9,(ptr b24 0)),(10,(ptr b26 0)),(3,(ptr b1 0)),(6,(ptr b7 0)),(8,(ptr b13 0))]) ⟨lk rfl f2,lk rfl f5,lk rfl f25,lk rfl f27,rfl,rfl,rfl,trivial⟩
  have hM:=hM.pull (pre:=[_])
  refine Zo (seg:=enc r16) (cs':=enc r16) hE hM Za rfl rfl rfl ZH (Flat.len _) (zle flq) (Flat.cell _) (Zl flq) ?_; intro w a hM hE
  have hM:=hM.pull (pre:=[_])
  refine Zo (seg:=enc r18) (cs':=enc r18) hE hM Za rfl rfl rfl ZH (Flat.len _) (zle flq) (Flat.cell _) (Zl flq) fun w a hM hE=>Zj (Zz (wp_seq ?_))
  obtain ⟨r29,e30,hF⟩:=bind_some hF
  obtain ⟨r31,e32,hF⟩:=bind_some hF
  refine Ub (n:=59) (hd:=[_,_,_,_,_,_,_,_,_]) (tl:=[_]) Y0 rfl rfl [26,27,28,29,30,31,32,33,11] (by decide) (fun D u w=>M (Old w0) w0 w ([raw b26 (enc r18),raw b24 (enc r16),raw b13 (enc r9.2),raw b11 (enc r9.1),raw b7 (enc (Vector.replicate 32 (0 : UInt8))),raw b5 (enc p2),raw b3 (enc p1),raw b1 (cat [[vI p0.Field],enc p0.Box,enc p0.Mix,enc p0.Places,[vI p0.Rounds]])] ++ qL ([mkO 8 (fun v=>Vq v (enc (Vector.replicate 16 (0 : UInt8))))] : Mk) D u) ∧ GOk ([([],fun us v=>v = (Value.agg (enc p0).toArray)),([],fun us v=>v = (Value.agg (enc r9.2).toArray)),([],fun us v=>v = (Value.agg (enc r16).toArray)),([],fun us v=>v = (ptr b1 (0 + 289))),([],fun us v=>v = (vI p0.Rounds)),([],fun us v=>v = (Value.agg (enc r29).toArray)),([],fun us v=>v = (Value.agg (enc r16).toArray)),([],fun us v=>v = (Value.agg (enc r31).toArray)),([],fun us v=>True)] : Gs) D u) hE (fun u=>⟨M.qE (M.q0 hM.drew u) emO,Jg⟩) (ZK (Zb ?_ (Zb ?_ (Zb ?_ (Zb ?_ (Zb ?_ (Zb ?_ (Zb ?_ (Zb ?_ (Zb ?_ ZF)))))))))) ?_
  ·intro a w ux28 D hE hI hD hdc hp
   have hM0:=hI.1
   have hM:=hI.1
   exact Zm (cs:=enc p0) hE Za ld rfl V4 rfl (hM.rawAt (pre:=[_,_,_,_,_,_,_])) (Zh (cl1 (n:=1) (m:=289) rfl (cl1 (n:=256) (m:=33) (Flat.len _) (cl1 (n:=16) (m:=17) (Flat.len _) (cl1 (n:=16) (m:=1) (Flat.len _) (cl1 (n:=1) (m:=0) rfl cl0)))))) fun a hE=>⟨_,_,rfl,hE,M.qKeep hM0 rfl,hI.2.put hD rfl ZQ rfl⟩
  ·intro a w ux28 D hE hI hD hdc hp
   have hM0:=hI.1
   have hM:=hI.1
   exact Zm (cs:=enc r9.2) hE Za ld rfl ZH rfl (hM.rawAt (pre:=[_,_])) (Flat.len _) fun a hE=>⟨_,_,rfl,hE,M.qKeep hM0 rfl,hI.2.put hD rfl ZQ rfl⟩
  ·intro a w ux28 D hE hI hD hdc hp
   have hM0:=hI.1
   have hM:=hI.1
   exact Zm (cs:=enc r16) hE Za ld rfl ZH rfl (hM.rawAt (pre:=[_])) (Flat.len _) fun a hE=>⟨_,_,rfl,hE,M.qKeep hM0 rfl,hI.2.put hD rfl ZQ rfl⟩
  ·intro a w ux28 D hE hI hD hdc hp
   have hM0:=hI.1
   exact Zg hE Za ld rfl (zx) fun a hE=>⟨_,_,rfl,hE,M.qKeep hM0 rfl,hI.2.put hD rfl ZQ rfl⟩
  ·intro a w ux28 D hE hI hD hdc hp
   have d3 : D 3 = true:=hp 0 _ rfl rfl
   have g3:=hI.2 3 d3 _ rfl
   have f3 : ux28 3 = (ptr b1 (0 + 289)):=g3.2
   have hM0:=hI.1
   have hM:=hI.1
   exact Zp (v:=(vI p0.Rounds)) hE Za ld (lk rfl f3) ty2 rfl (At.cat (pre:=[[vI p0.Field],enc p0.Box,enc p0.Mix,enc p0.Places]) (hM.rawAt (pre:=[_,_,_,_,_,_,_])) (cl1 (n:=1) (m:=288) rfl (cl1 (n:=256) (m:=32) (Flat.len _) (cl1 (n:=16) (m:=16) (Flat.len _) (cl1 (n:=16) (m:=0) (Flat.len _) cl0))))) fun a hE=>⟨_,_,rfl,hE,M.qKeep hM0 rfl,hI.2.put hD rfl ZQ rfl⟩
  ·intro a w ux28 D hE hI hD hdc hp
   have d0 : D 0 = true:=hp 0 _ rfl rfl
   have g0:=hI.2 0 d0 _ rfl
   have f0 : ux28 0 = (Value.agg (enc p0).toArray):=g0.2
   have d1 : D 1 = true:=hp 1 _ rfl rfl
   have g1:=hI.2 1 d1 _ rfl
   have f1 : ux28 1 = (Value.agg (enc r9.2).toArray):=g1.2
   have d2 : D 2 = true:=hp 2 _ rfl rfl
   have g2:=hI.2 2 d2 _ rfl
   have f2 : ux28 2 = (Value.agg (enc r16).toArray):=g2.2
   have d4 : D 4 = true:=hp 3 _ rfl rfl
   have g4:=hI.2 4 d4 _ rfl
   have f4 : ux28 4 = (vI p0.Rounds):=g4.2
   have hM0:=hI.1
   refine Zt hE Za ld (ZV (ZT (lk rfl f0) (ZT (lk rfl f1) (ZT (lk rfl f2) (ZT (lk rfl f4) YZ))))) cb223 (Qt _ p0 r9.2 r16 p0.Rounds r29 e30) ?_
   rintro v w a ⟨rfl,hK⟩ hE
   exact ⟨_,_,rfl,hE,M.qKeep (hM0.keep hK) rfl,hI.2.put hD rfl ZQ rfl⟩
  ·intro a w ux28 D hE hI hD hdc hp
   have hM0:=hI.1
   have hM:=hI.1
   exact Zm (cs:=enc r16) hE Za ld rfl ZH rfl (hM.rawAt (pre:=[_])) (Flat.len _) fun a hE=>⟨_,_,rfl,hE,M.qKeep hM0 rfl,hI.2.put hD rfl ZQ rfl⟩
  ·intro a w ux28 D hE hI hD hdc hp
   have d5 : D 5 = true:=hp 0 _ rfl rfl
   have g5:=hI.2 5 d5 _ rfl
   have f5 : ux28 5 = (Value.agg (enc r29).toArray):=g5.2
   have d6 : D 6 = true:=hp 1 _ rfl rfl
   have g6:=hI.2 6 d6 _ rfl
   have f6 : ux28 6 = (Value.agg (enc r16).toArray):=g6.2
   have hM0:=hI.1
   refine Zt hE Za ld (ZV (ZT (lk rfl f5) (ZT (lk rfl f6) YZ))) As (Uw _ r29 r16 r31 e32) ?_
   rintro v w a ⟨rfl,hK⟩ hE
   exact ⟨_,_,rfl,hE,M.qKeep (hM0.keep hK) rfl,hI.2.put hD rfl ZQ rfl⟩
  ·intro a w ux28 D hE hI hD hdc hp
   have hM0:=hI.1
   have hM:=hI.1
   refine ZE hE hM Za ld ZH ?_; intro b33 w a hM hE
   have hM:=hM.pack1 (it:=Vq _ (enc (Vector.replicate 16 (0 : UInt8)))) (fun w w' fp ⟨b',e,k⟩ hb=>⟨b',e,Xc w w' fp k hb⟩) (fun fp k=>⟨_,rfl,k⟩)
   exact ⟨_,_,rfl,hE,M.qFill (mk1:=[]) (mk2:=[]) (f:=fun v=>Vq v (enc (Vector.replicate 16 (0 : UInt8)))) hM rfl hD,hI.2.put hD rfl ZQ trivial⟩
  ·intro a w ux28 D hE hI hall
   have hM : M (Old w0) w0 w [raw b26 (enc r18),raw b24 (enc r16),raw b13 (enc r9.2),raw b11 (enc r9.1),raw b7 (enc (Vector.replicate 32 (0 : UInt8))),raw b5 (enc p2),raw b3 (enc p1),raw b1 (cat [[vI p0.Field],enc p0.Box,enc p0.Mix,enc p0.Places,[vI p0.Rounds]]),opt (D 8) (Vq (ux28 8) (enc (Vector.replicate 16 (0 : UInt8))))]:=hI.1
   have d0 : D 0 = true:=hall 0 (by decide)
   have d1 : D 1 = true:=hall 1 (by decide)
   have d2 : D 2 = true:=hall 2 (by decide)
   have d3 : D 3 = true:=hall 3 (by decide)
   have d4 : D 4 = true:=hall 4 (by decide)
   have d5 : D 5 = true:=hall 5 (by decide)
   have d6 : D 6 = true:=hall 6 (by decide)
   have d7 : D 7 = true:=hall 7 (by decide)
   have d8 : D 8 = true:=hall 8 (by decide)
   have f0 : ux28 0 = (Value.agg (enc p0).toArray):=(hI.2 0 d0 _ rfl).2
   have f1 : ux28 1 = (Value.agg (enc r9.2).toArray):=(hI.2 1 d1 _ rfl).2
   have f2 : ux28 2 = (Value.agg (enc r16).toArray):=(hI.2 2 d2 _ rfl).2
   have f3 : ux28 3 = (ptr b1 (0 + 289)):=(hI.2 3 d3 _ rfl).2
   have f4 : ux28 4 = (vI p0.Rounds):=(hI.2 4 d4 _ rfl).2
   have f5 : ux28 5 = (Value.agg (enc r29).toArray):=(hI.2 5 d5 _ rfl).2
   have f6 : ux28 6 = (Value.agg (enc r16).toArray):=(hI.2 6 d6 _ rfl).2
   have f7 : ux28 7 = (Value.agg (enc r31).toArray):=(hI.2 7 d7 _ rfl).2
   have hM:=(hM.sure (pre:=[_,_,_,_,_,_,_,_]) d8).pull
   obtain ⟨_,⟨b35,f36,_⟩,_⟩:=hM.head
   have hM:=hM.pack1 Xc (it:=raw b35 (enc (Vector.replicate 16 (0 : UInt8)))) (fun fp ⟨b2,e2,k2⟩=>by rw [f36] at e2; simp [ptr] at e2; subst e2; exact k2)
   have hE:=hE.sub (e':=[(33,(Value.agg (enc r31).toArray)),(11,(ptr b35 0)),(3,(ptr b1 0)),(6,(ptr b7 0)),(10,(ptr b26 0))]) ⟨lk rfl f7,lk rfl f36,rfl,rfl,rfl,trivial⟩
   refine Zo (seg:=enc r31) (cs':=enc r31) hE hM Za rfl rfl rfl ZH (Flat.len _) (zle flq) (Flat.cell _) (Zl flq) fun w a hM hE=>Zj (Zz (wp_seq ?_))
   obtain ⟨r38,e39,hF⟩:=bind_some hF
   obtain ⟨r40,e41,hF⟩:=bind_some hF
   refine Ub (n:=59) (hd:=[_,_,_,_,_,_,_,_,_]) (tl:=[_]) Y0 rfl rfl [34,35,36,37,38,39,40,41,12] (by decide) (fun D u w=>M (Old w0) w0 w ([raw b35 (enc r31),raw b26 (enc r18),raw b24 (enc r16),raw b13 (enc r9.2),raw b11 (enc r9.1),raw b7 (enc (Vector.replicate 32 (0 : UInt8))),raw b5 (enc p2),raw b3 (enc p1),raw b1 (cat [[vI p0.Field],enc p0.Box,enc p0.Mix,enc p0.Places,[vI p0.Rounds]])] ++ qL ([mkO 8 (fun v=>Vq v (enc (Vector.replicate 16 (0 : UInt8))))] : Mk) D u) ∧ GOk ([([],fun us v=>v = (Value.agg (enc p0).toArray)),([],fun us v=>v = (Value.agg (enc r31).toArray)),([],fun us v=>v = (Value.agg (enc r18).toArray)),([],fun us v=>v = (ptr b1 (0 + 289))),([],fun us v=>v = (vI p0.Rounds)),([],fun us v=>v = (Value.agg (enc r38).toArray)),([],fun us v=>v = (Value.agg (enc r18).toArray)),([],fun us v=>v = (Value.agg (enc r40).toArray)),([],fun us v=>True)] : Gs) D u) hE (fun u=>⟨M.qE (M.q0 hM.drew u) emO,Jg⟩) (ZK (Zb ?_ (Zb ?_ (Zb ?_ (Zb ?_ (Zb ?_ (Zb ?_ (Zb ?_ (Zb ?_ (Zb ?_ ZF)))))))))) ?_
   ·intro a w ux37 D hE hI hD hdc hp
    have hM0:=hI.1
    have hM:=hI.1
    exact Zm (cs:=enc p0) hE Za ld rfl V4 rfl (hM.rawAt (pre:=[_,_,_,_,_,_,_,_])) (Zh (cl1 (n:=1) (m:=289) rfl (cl1 (n:=256) (m:=33) (Flat.len _) (cl1 (n:=16) (m:=17) (Flat.len _) (cl1 (n:=16) (m:=1) (Flat.len _) (cl1 (n:=1) (m:=0) rfl cl0)))))) fun a hE=>⟨_,_,rfl,hE,M.qKeep hM0 rfl,hI.2.put hD rfl ZQ rfl⟩
   ·intro a w ux37 D hE hI hD hdc hp
    have hM0:=hI.1
    have hM:=hI.1
    exact Zm (cs:=enc r31) hE Za ld rfl ZH rfl (hM.rawAt (pre:=[])) (Flat.len _) fun a hE=>⟨_,_,rfl,hE,M.qKeep hM0 rfl,hI.2.put hD rfl ZQ rfl⟩
   ·intro a w ux37 D hE hI hD hdc hp
    have hM0:=hI.1
    have hM:=hI.1
    exact Zm (cs:=enc r18) hE Za ld rfl ZH rfl (hM.rawAt (pre:=[_])) (Flat.len _) fun a hE=>⟨_,_,rfl,hE,M.qKeep hM0 rfl,hI.2.put hD rfl ZQ rfl⟩
   ·intro a w ux37 D hE hI hD hdc hp
    have hM0:=hI.1
    exact Zg hE Za ld rfl (zx) fun a hE=>⟨_,_,rfl,hE,M.qKeep hM0 rfl,hI.2.put hD rfl ZQ rfl⟩
   ·intro a w ux37 D hE hI hD hdc hp
    have d3 : D 3 = true:=hp 0 _ rfl rfl
    have g3:=hI.2 3 d3 _ rfl
    have f3 : ux37 3 = (ptr b1 (0 + 289)):=g3.2
    have hM0:=hI.1
    have hM:=hI.1
    exact Zp (v:=(vI p0.Rounds)) hE Za ld (lk rfl f3) ty2 rfl (At.cat (pre:=[[vI p0.Field],enc p0.Box,enc p0.Mix,enc p0.Places]) (hM.rawAt (pre:=[_,_,_,_,_,_,_,_])) (cl1 (n:=1) (m:=288) rfl (cl1 (n:=256) (m:=32) (Flat.len _) (cl1 (n:=16) (m:=16) (Flat.len _) (cl1 (n:=16) (m:=0) (Flat.len _) cl0))))) fun a hE=>⟨_,_,rfl,hE,M.qKeep hM0 rfl,hI.2.put hD rfl ZQ rfl⟩
   ·intro a w ux37 D hE hI hD hdc hp
    have d0 : D 0 = true:=hp 0 _ rfl rfl
    have g0:=hI.2 0 d0 _ rfl
    have f0 : ux37 0 = (Value.agg (enc p0).toArray):=g0.2
    have d1 : D 1 = true:=hp 1 _ rfl rfl
    have g1:=hI.2 1 d1 _ rfl
    have f1 : ux37 1 = (Value.agg (enc r31).toArray):=g1.2
    have d2 : D 2 = true:=hp 2 _ rfl rfl
    have g2:=hI.2 2 d2 _ rfl
    have f2 : ux37 2 = (Value.agg (enc r18).toArray):=g2.2
    have d4 : D 4 = true:=hp 3 _ rfl rfl
    have g4:=hI.2 4 d4 _ rfl
    have f4 : ux37 4 = (vI p0.Rounds):=g4.2
    have hM0:=hI.1
    refine Zt hE Za ld (ZV (ZT (lk rfl f0) (ZT (lk rfl f1) (ZT (lk rfl f2) (ZT (lk rfl f4) YZ))))) cb223 (Qt _ p0 r31 r18 p0.Rounds r38 e39) ?_
    rintro v w a ⟨rfl,hK⟩ hE
    exact ⟨_,_,rfl,hE,M.qKeep (hM0.keep hK) rfl,hI.2.put hD rfl ZQ rfl⟩
   ·intro a w ux37 D hE hI hD hdc hp
    have hM0:=hI.1
    have hM:=hI.1
    exact Zm (cs:=enc r18) hE Za ld rfl ZH rfl (hM.rawAt (pre:=[_])) (Flat.len _) fun a hE=>⟨_,_,rfl,hE,M.qKeep hM0 rfl,hI.2.put hD rfl ZQ rfl⟩
   ·intro a w ux37 D hE hI hD hdc hp
    have d5 : D 5 = true:=hp 0 _ rfl rfl
    have g5:=hI.2 5 d5 _ rfl
    have f5 : ux37 5 = (Value.agg (enc r38).toArray):=g5.2
    have d6 : D 6 = true:=hp 1 _ rfl rfl
    have g6:=hI.2 6 d6 _ rfl
    have f6 : ux37 6 = (Value.agg (enc r18).toArray):=g6.2
    have hM0:=hI.1
    refine Zt hE Za ld (ZV (ZT (lk rfl f5) (ZT (lk rfl f6) YZ))) As (Uw _ r38 r18 r40 e41) ?_
    rintro v w a ⟨rfl,hK⟩ hE
    exact ⟨_,_,rfl,hE,M.qKeep (hM0.keep hK) rfl,hI.2.put hD rfl ZQ rfl⟩
   ·intro a w ux37 D hE hI hD hdc hp
    have hM0:=hI.1
    have hM:=hI.1
    refine ZE hE hM Za ld ZH ?_; intro b42 w a hM hE
    have hM:=hM.pack1 (it:=Vq _ (enc (Vector.replicate 16 (0 : UInt8)))) (fun w w' fp ⟨b',e,k⟩ hb=>⟨b',e,Xc w w' fp k hb⟩) (fun fp k=>⟨_,rfl,k⟩)
    exact ⟨_,_,rfl,hE,M.qFill (mk1:=[]) (mk2:=[]) (f:=fun v=>Vq v (enc (Vector.replicate 16 (0 : UInt8)))) hM rfl hD,hI.2.put hD rfl ZQ trivial⟩
   ·intro a w ux37 D hE hI hall
    have hM : M (Old w0) w0 w [raw b35 (enc r31),raw b26 (enc r18),raw b24 (enc r16),raw b13 (enc r9.2),raw b11 (enc r9.1),raw b7 (enc (Vector.replicate 32 (0 : UInt8))),raw b5 (enc p2),raw b3 (enc p1),raw b1 (cat [[vI p0.Field],enc p0.Box,enc p0.Mix,enc p0.Places,[vI p0.Rounds]]),opt (D 8) (Vq (ux37 8) (enc (Vector.replicate 16 (0 : UInt8))))]:=hI.1
    have d0 : D 0 = true:=hall 0 (by decide)
    have d1 : D 1 = true:=hall 1 (by decide)
    have d2 : D 2 = true:=hall 2 (by decide)
    have d3 : D 3 = true:=hall 3 (by decide)
    have d4 : D 4 = true:=hall 4 (by decide)
    have d5 : D 5 = true:=hall 5 (by decide)
    have d6 : D 6 = true:=hall 6 (by decide)
    have d7 : D 7 = true:=hall 7 (by decide)
    have d8 : D 8 = true:=hall 8 (by decide)
    have f0 : ux37 0 = (Value.agg (enc p0).toArray):=(hI.2 0 d0 _ rfl).2
    have f1 : ux37 1 = (Value.agg (enc r31).toArray):=(hI.2 1 d1 _ rfl).2
    have f2 : ux37 2 = (Value.agg (enc r18).toArray):=(hI.2 2 d2 _ rfl).2
    have f3 : ux37 3 = (ptr b1 (0 + 289)):=(hI.2 3 d3 _ rfl).2
    have f4 : ux37 4 = (vI p0.Rounds):=(hI.2 4 d4 _ rfl).2
    have f5 : ux37 5 = (Value.agg (enc r38).toArray):=(hI.2 5 d5 _ rfl).2
    have f6 : ux37 6 = (Value.agg (enc r18).toArray):=(hI.2 6 d6 _ rfl).2
    have f7 : ux37 7 = (Value.agg (enc r40).toArray):=(hI.2 7 d7 _ rfl).2
    have hM:=(hM.sure (pre:=[_,_,_,_,_,_,_,_,_]) d8).pull
    obtain ⟨_,⟨b44,f45,_⟩,_⟩:=hM.head
    have hM:=hM.pack1 Xc (it:=raw b44 (enc (Vector.replicate 16 (0 : UInt8)))) (fun fp ⟨b2,e2,k2⟩=>by rw [f45] at e2; simp [ptr] at e2; subst e2; exact k2)
    have hE:=hE.sub (e':=[(41,(Value.agg (enc r40).toArray)),(12,(ptr b44 0)),(6,(ptr b7 0)),(11,(ptr b35 0))]) ⟨lk rfl f7,lk rfl f45,rfl,rfl,trivial⟩
    refine Zo (seg:=enc r40) (cs':=enc r40) hE hM Za rfl rfl rfl ZH (Flat.len _) (zle flq) (Flat.cell _) (Zl flq) fun w a hM hE=>Zj (Zz (Zc (XI (parts:=[]) (vs:=[]) (cs:=enc (Vector.replicate 32 (0 : UInt8))) hE Za ld rfl rfl Yy rfl ty5 Y5 fun a hE=>ZE hE hM Za ld Yy fun b46 w a hM hE=>Zo (seg:=enc (Vector.replicate 32 (0 : UInt8))) (cs':=enc (Vector.replicate 32 (0 : UInt8))) hE hM Za rfl rfl rfl Yy (Flat.len _) (zle flq) (Flat.cell _) (Zl flq) fun w a hM hE=>Zf (wp_seq (Zc (Ze hE Za ld rfl fun a hE=>Zf ?_))))))
    obtain ⟨j48,hl49,hF50⟩:=bind_some hF
    refine ZP (fun a w=>Env 59 a [(6,(ptr b7 0)),(13,(ptr b46 0))] ∧ M (Old w0) w0 w [raw b46 (enc j48),raw b7 (enc (Vector.replicate 32 (0 : UInt8)))]) ?_ ?_
    ·skip
     refine wp_block ?_
     have hM:=M.fst (l:=[_,_,_,_]) ((((hM.pull (pre:=[_,_,_,_,_,_,_])).pull (pre:=[_,_,_])).pull (pre:=[_,_,_])).pull (pre:=[_,_,_]))
     refine ZI (fun (s51 : (Vector UInt8 32) × Int) a w=>Env 59 a [(6,(ptr b7 0)),(11,(ptr b35 0)),(12,(ptr b44 0)),(13,(ptr b46 0)),(14,vI s51.2)] ∧ M (Old w0) w0 w [raw b46 (enc s51.1),raw b44 (enc r40),raw b35 (enc r31),raw b7 (enc (Vector.replicate 32 (0 : UInt8)))]) hl49 ⟨hE.sub ⟨rfl,rfl,rfl,rfl,rfl,trivial⟩,hM⟩ ?_
     rintro s51 a w ⟨hE,hM⟩ o54 hs52 hx53
     unfold Wb at hs52
     refine wp_seq (Zc (Zd hE Za ld rfl fun a hE=>Zi hE Za ld rfl rfl rfl fun a hE=>Zf ?_))
     refine Zs hE rfl ?_ ?_
     ·intro hb55
      have hs52:=ZA hs52 hb55
      refine wp_skip (Zz (wp_seq (wp_block (Zc (Zd hE Za ld rfl fun a hE=>Zd hE Za ld rfl ?_))))); intro a hE
      obtain ⟨x57,hi56,hs52⟩:=bvx hs52
      refine Zr hE Za ld rfl rfl Tryz.underlying70 ty5 hi56.1 fun a hE=>Zp (v:=(vB x57)) hE Za ld rfl ty5 rfl (At.vec (hM.rawAt (pre:=[_,_])) hi56.2) ?_; intro a hE
      obtain ⟨x60,hi59,hs52⟩:=bvx hs52
      refine Zr hE Za ld rfl rfl Tryz.underlying29 ty5 hi59.1 fun a hE=>Zo (seg:=[vB x57]) (cs':=enc (s51.1.setIfInBounds (s51.2).toNat x57)) hE hM Za rfl rfl rfl ty5 rfl (ZR (v:=s51.1) (x:=x57) hi59.1) (Flat.cell (x57 : UInt8)) (ZJ (v:=s51.1) (x:=x57) hi59.1) fun w a hM hE=>Zf (wp_region_lit (Zd hE Za ld rfl fun a hE=>Zi hE Za ld rfl rfl rfl fun a hE=>Zd hE Za ld rfl ?_)); intro a hE
      obtain ⟨x63,hi62,hs52⟩:=bvx hs52
      refine Zr hE Za ld rfl rfl Tryz.underlying70 ty5 hi62.1 fun a hE=>Zp (v:=(vB x63)) hE Za ld rfl ty5 rfl (At.vec (hM.rawAt (pre:=[_])) hi62.2) ?_; intro a hE
      obtain ⟨x66,hi65,hs52⟩:=bvx hs52
      refine Zr hE Za ld rfl rfl Tryz.underlying29 ty5 hi65.1 fun a hE=>Zo (seg:=[vB x63]) (cs':=enc ((s51.1.setIfInBounds (s51.2).toNat x57).setIfInBounds ((wr (16 + s51.2))).toNat x63)) hE hM Za rfl rfl rfl ty5 rfl (ZR (v:=(s51.1.setIfInBounds (s51.2).toNat x57)) (x:=x63) hi65.1) (Flat.cell (x63 : UInt8)) (ZJ (v:=(s51.1.setIfInBounds (s51.2).toNat x57)) (x:=x63) hi65.1) fun w a hM hE=>Zj (Yb (Zz (wp_region_lit (Zd hE Za ld rfl fun a hE=>Zi hE Za ld rfl rfl rfl fun a hE=>Ze hE Za ld rfl fun a hE=>Zj (Zn ?_)))))
      exact ⟨_,(ois hs52),hE.sub ⟨rfl,rfl,rfl,rfl,rfl,trivial⟩,hM⟩
     ·intro hb55
      have hs52:=ZB hs52 hb55
      refine wp_exit (Zq (Zq (Yf ?_)))
      have ht68:=hx53 _ (ois hs52)
      subst ht68
      refine Zn ?_
      have hM:=M.fst (l:=[_,_]) ((hM.pull (pre:=[_,_,_])).pull (pre:=[_]))
      exact ⟨hE.sub ⟨rfl,rfl,trivial⟩,hM⟩
    ·skip
     rintro a w ⟨hE,hM⟩
     refine Zz (Zc (Zm (cs:=enc j48) hE Za ld rfl Yy rfl (hM.rawAt (pre:=[])) (Flat.len _) ?_)); intro a hE
     have hM:=hM.pull (pre:=[_])
     refine Zo (seg:=enc j48) (cs':=enc j48) hE hM Za rfl rfl rfl Yy (Flat.len _) (zle flq) (Flat.cell _) (Zl flq) fun w a hM hE=>Zf ?_
     have hr:=Option.some.inj hF50
     subst hr
     have hq69 : Yw Tryz.prog _ _ (.cell 6 29) _:=ZO hE rfl Yy rfl (hM.rawAt (pre:=[])) (Flat.len _) rfl
     have hM:=M.fst (l:=[]) hM
     exact wp_ret (Zy hE rfl hq69 ⟨_,rfl,rfl,hM.kept⟩)
def UA (p0 : GCipher) (r8 : (List (Vector UInt8 16))) (s18 : (Vector UInt8 32) × Int) : Option (Fl ((Vector UInt8 32) × Int) (Vector UInt8 32)) :=
 if (decide (s18.2 < (r8.length : Int))) = true then ((idx r8 s18.2).bind fun x24=>(WH p0 s18.1 x24).bind fun r27=>some (Fl.nx (r27,wr (s18.2 + 1)))) else (some (Fl.ex s18.1))
def V5 (p0 : GCipher) (p1 : (List UInt8)) : Option ((Vector UInt8 32)) :=
 (To p1).bind fun r5=>(VF r5).bind fun r8=>(Ur).bind fun r11=>(ZG (UA p0 r8) (r11,0)).bind fun j15=>some j15
theorem JN (w0 : World) (p0 : GCipher) (p1 : (List UInt8)) (v1_1 : Value) (hv1_1 : Ro w0 p1 [v1_1]) (r : (Vector UInt8 32)) (hF : V5 p0 p1 = some r) :
  Calls Tryz.prog 153 [(Value.agg (enc p0).toArray),v1_1].toArray w0 (fun en w'=>∃ v,en = .returned v ∧ (v = (Value.agg (enc r).toArray) ∧ Kept (Old w0) w0 w')):=by
 refine ZD (n:=26) Tryz.func153 rfl rfl (nbl rfl) rfl ?_
 intro a hE
 have hM:=M.start w0
 unfold V5 at hF
 refine Zc (ZY (cs:=cat [[vI p0.Field],enc p0.Box,enc p0.Mix,enc p0.Places,[vI p0.Rounds]]) hE hM Za ld rfl rfl fun b1 w a hM hE=>ZE hE hM Za ld Yy fun b3 w a hM hE=>Zf (Zc (Zd hE Za ld rfl ?_))); intro a hE
 obtain ⟨r5,e6,hF⟩:=bind_some hF
 refine Zt hE Za ld rfl cb188 (Ah _ p1 v1_1 (hM.rdo hv1_1) r5 e6) ?_
 rintro u7 w a ⟨_,rfl,hFr,hK⟩ hE
 have hM:=hM.add hK hFr
 obtain ⟨r8,e9,hF⟩:=bind_some hF
 refine Zt hE Za ld rfl cb187 (Hb _ r5 u7 (hM.sl (pre:=[]) noB) r8 e9) ?_
 rintro u10 w a ⟨_,rfl,hFr,hK⟩ hE
 have hM:=hM.add hK hFr
 obtain ⟨r11,e12,hF⟩:=bind_some hF
 refine Zt hE Za ld rfl cb189 (HP _  r11 e12) ?_
 rintro v w a ⟨rfl,hK⟩ hE
 have hM:=hM.keep hK
 refine ZE hE hM Za ld Yy fun b13 w a hM hE=>Ze hE Za ld rfl fun a hE=>Zo (seg:=enc r11) (cs':=enc r11) hE hM Za rfl rfl rfl Yy (Flat.len _) (zle flq) (Flat.cell _) (Zl flq) fun w a hM hE=>Zf (wp_seq (Zc (Ze hE Za ld rfl fun a hE=>Zf ?_)))
 obtain ⟨j15,hl16,hF17⟩:=bind_some hF
 refine ZP (fun a w=>Env 26 a [(4,(ptr b3 0)),(6,(ptr b13 0))] ∧ M (Old w0) w0 w [raw b13 (enc j15),raw b3 (enc (Vector.replicate 32 (0 : UInt8)))]) ?_ ?_
 ·skip
  refine wp_block ?_
  have hM:=M.fst (l:=[_,_,_,_]) ((((hM.pull (pre:=[_,_,_,_])).pull (pre:=[_,_,_,_])).pull (pre:=[_,_,_])).pull (pre:=[_,_,_]))
  refine ZI (fun (s18 : (Vector UInt8 32) × Int) a w=>Env 26 a [(2,(ptr b1 0)),(4,(ptr b3 0)),(5,u10),(6,(ptr b13 0)),(7,vI s18.2)] ∧ M (Old w0) w0 w [raw b13 (enc s18.1),osl NoB (r8 : List (Vector UInt8 16)) u10,raw b3 (enc (Vector.replicate 32 (0 : UInt8))),raw b1 (cat [[vI p0.Field],enc p0.Box,enc p0.Mix,enc p0.Places,[vI p0.Rounds]])]) hl16 ⟨hE.sub ⟨rfl,rfl,rfl,rfl,rfl,trivial⟩,hM⟩ ?_
  rintro s18 a w ⟨hE,hM⟩ o21 hs19 hx20
  unfold UA at hs19
  refine wp_seq (Zc (Zd hE Za ld rfl fun a hE=>Zd hE Za ld rfl fun a hE=>Z3 hE Za ld rfl Tryz.underlying32 (hM.sl (pre:=[_]) noB) fun a hE=>Zi hE Za ld rfl rfl rfl fun a hE=>Zf ?_))
  refine Zs hE rfl ?_ ?_
  ·intro hb22
   have hs19:=ZA hs19 hb22
   refine wp_skip (Zz (wp_seq (wp_block ?_)))
   obtain ⟨x24,hi26,hs19⟩:=bix hs19
   obtain ⟨r27,e28,hs19⟩:=bind_some hs19
   refine YC (n:=26) (hd:=[_,_,_,_,_,_,_]) (tl:=[_]) Y0 rfl rfl [18,19,20,21,22,23,24] (by decide) (fun w=>M (Old w0) w0 w [raw b13 (enc s18.1),osl NoB (r8 : List (Vector UInt8 16)) u10,raw b3 (enc (Vector.replicate 32 (0 : UInt8))),raw b1 (cat [[vI p0.Field],enc p0.Box,enc p0.Mix,enc p0.Places,[vI p0.Rounds]])]) (fun j=>([fun v _=>v = (Value.agg (enc p0).toArray),fun v _=>v = (Value.agg (enc s18.1).toArray),fun v _=>v = u10,fun v _=>v = (vI s18.2),fun v _=>v = (ptr (sb u10) (so u10 + (s18.2).toNat * 16)),fun v _=>v = (Value.agg (enc x24).toArray),fun v _=>v = (Value.agg (enc r27).toArray)] : List (Value → World → Prop)).getD j (fun _ _=>True)) (fun _ _ h hk=>h.keep hk) (gup (Zk (Zk (Zk (Zk (Zk (Zk (Zk V1)))))))) hE hM.drew (ZK (Zb ?_ (Zb ?_ (Zb ?_ (Zb ?_ (Zb ?_ (Zb ?_ (Zb ?_ ZF)))))))) ?_
   ·exact fun a w ux23 hE hM hp=>Zm (cs:=enc p0) hE Za ld rfl V4 rfl (hM.rawAt (pre:=[_,_,_])) (Zh (cl1 (n:=1) (m:=289) rfl (cl1 (n:=256) (m:=33) (Flat.len _) (cl1 (n:=16) (m:=17) (Flat.len _) (cl1 (n:=16) (m:=1) (Flat.len _) (cl1 (n:=1) (m:=0) rfl cl0)))))) fun a hE=>⟨Kept.refl _ _,_,_,rfl,hE,rfl⟩
   ·exact fun a w ux23 hE hM hp=>Zm (cs:=enc s18.1) hE Za ld rfl Yy rfl (hM.rawAt (pre:=[])) (Flat.len _) fun a hE=>⟨Kept.refl _ _,_,_,rfl,hE,rfl⟩
   ·exact fun a w ux23 hE hM hp=>Zd hE Za ld rfl fun a hE=>⟨Kept.refl _ _,_,_,rfl,hE,rfl⟩
   ·exact fun a w ux23 hE hM hp=>Zd hE Za ld rfl fun a hE=>⟨Kept.refl _ _,_,_,rfl,hE,rfl⟩
   ·intro a w ux23 hE hM hp
    have f2 : ux23 2 = u10:=hp 0 _ rfl rfl
    have f3 : ux23 3 = (vI s18.2):=hp 1 _ rfl rfl
    exact ZL hE Za ld (lk rfl f2) (lk rfl f3) Tryz.underlying32 ZH (hM.sl (pre:=[_]) noB) hi26.1 fun a hE=>⟨Kept.refl _ _,_,_,rfl,hE,rfl⟩
   ·intro a w ux23 hE hM hp
    have f4 : ux23 4 = (ptr (sb u10) (so u10 + (s18.2).toNat * 16)):=hp 0 _ rfl rfl
    exact Zm (cs:=enc x24) hE Za ld (lk rfl f4) ZH rfl (XE (hM.sl (pre:=[_]) noB) hi26.2) (Flat.len _) fun a hE=>⟨Kept.refl _ _,_,_,rfl,hE,rfl⟩
   ·intro a w ux23 hE hM hp
    have f0 : ux23 0 = (Value.agg (enc p0).toArray):=hp 0 _ rfl rfl
    have f1 : ux23 1 = (Value.agg (enc s18.1).toArray):=hp 1 _ rfl rfl
    have f5 : ux23 5 = (Value.agg (enc x24).toArray):=hp 2 _ rfl rfl
    refine Zt hE Za ld (ZV (ZT (lk rfl f0) (ZT (lk rfl f1) (ZT (lk rfl f5) YZ)))) cb190 (Hn _ p0 s18.1 x24 r27 e28) ?_
    rintro v w a ⟨rfl,hK⟩ hE
    exact ⟨hK,_,_,rfl,hE,rfl⟩
   ·intro a w ux23 hE hM hg
    have hE:=hE.sub (e':=[(24,(Value.agg (enc r27).toArray)),(2,(ptr b1 0)),(4,(ptr b3 0)),(5,u10),(6,(ptr b13 0)),(7,vI s18.2),(12,vI s18.2),(13,u10),(14,(vI (r8.length : Int))),(15,(vT (decide (s18.2 < (r8.length : Int)))))]) ⟨lk rfl (hg 6 (by decide)),rfl,rfl,rfl,rfl,rfl,rfl,rfl,rfl,rfl,trivial⟩
    refine Zo (seg:=enc r27) (cs':=enc r27) hE hM Za rfl rfl rfl Yy (Flat.len _) (zle flq) (Flat.cell _) (Zl flq) fun w a hM hE=>Zj (Yb (Zz (wp_region_lit (Zd hE Za ld rfl fun a hE=>Zi hE Za ld rfl rfl rfl fun a hE=>Ze hE Za ld rfl fun a hE=>Zj (Zn ?_)))))
    exact ⟨_,(ois hs19),hE.sub ⟨rfl,rfl,rfl,rfl,rfl,trivial⟩,hM⟩
  ·intro hb22
   have hs19:=ZB hs19 hb22
   refine wp_exit (Zq (Zq (Yf ?_)))
   have ht29:=hx20 _ (ois hs19)
   subst ht29
   refine Zn ?_
   have hM:=M.fst (l:=[_,_]) ((hM.pull (pre:=[_,_])).pull (pre:=[_]))
   exact ⟨hE.sub ⟨rfl,rfl,trivial⟩,hM⟩
 ·skip
  rintro a w ⟨hE,hM⟩
  refine Zz (Zc (Zm (cs:=enc j15) hE Za ld rfl Yy rfl (hM.rawAt (pre:=[])) (Flat.len _) ?_)); intro a hE
  have hM:=hM.pull (pre:=[_])
  refine Zo (seg:=enc j15) (cs':=enc j15) hE hM Za rfl rfl rfl Yy (Flat.len _) (zle flq) (Flat.cell _) (Zl flq) fun w a hM hE=>Zf ?_
  have hr:=Option.some.inj hF17
  subst hr
  have hq30 : Yw Tryz.prog _ _ (.cell 4 29) _:=ZO hE rfl Yy rfl (hM.rawAt (pre:=[])) (Flat.len _) rfl
  have hM:=M.fst (l:=[]) hM
  exact wp_ret (Zy hE rfl hq30 ⟨_,rfl,rfl,hM.kept⟩)
def VR (p0 : (Vector UInt8 32)) (s10 : (List UInt8) × Int) : Option (Fl ((List UInt8) × Int) (List UInt8)) :=
 if (decide (s10.2 < 32)) = true then ((ZM p0 s10.2).bind fun x18=>(app 1 s10.1 ([x18] : List UInt8)).bind fun l22=>some (Fl.nx ((s10.1 ++ ([x18] : List UInt8)),wr (s10.2 + 1)))) else (some (Fl.ex s10.1))
def W6 (p0 : (Vector UInt8 32)) : Option ((List UInt8)) :=
 (ZG (VR p0) (([] : List UInt8),0)).bind fun j5=>some j5
theorem Ki (w0 : World) (p0 : (Vector UInt8 32)) (r : (List UInt8)) (hF : W6 p0 = some r) :
  Calls Tryz.prog 182 [(Value.agg (enc p0).toArray)].toArray w0 (fun en w'=>∃ v,en = .returned v ∧ (∃ (y1 : Value),v = y1 ∧ Fr w0 w' [osl NoB (r : List UInt8) y1] ∧ Kept (Old w0) w0 w')):=by
 refine ZD (n:=17) Tryz.func182 rfl rfl (nbl rfl) rfl ?_
 intro a hE
 have hM:=M.start w0
 unfold W6 at hF
 refine Zc (ZY (cs:=enc p0) hE hM Za ld rfl rfl fun b1 w a hM hE=>Ze hE Za ld rfl fun a hE=>Zf (Zc (Yk (xs:=[]) (l:=([] : List UInt8)) (vs:=[]) hE hM Za ld rfl rfl Tryz.underlying57 ty5 rfl (by decide) rfl fun u3 w a hM hE=>Ze hE Za ld rfl fun a hE=>Zf (wp_seq (Zc (Ze hE Za ld rfl fun a hE=>Zf ?_))))))
 obtain ⟨j5,hl6,hF7⟩:=bind_some hF
 refine ZP (fun a w=>∃ (u8 : Value),Env 17 a [(3,u8)] ∧ M (Old w0) w0 w [osl NoB (j5 : List UInt8) u8]) ?_ ?_
 ·skip
  refine wp_block ?_
  have hM:=hM.pull (pre:=[_])
  refine ZI (fun (s10 : (List UInt8) × Int) a w=>∃ (u11 : Value),Env 17 a [(1,(ptr b1 0)),(3,u11),(4,vI s10.2)] ∧ M (Old w0) w0 w [raw b1 (enc p0),osl NoB (s10.1 : List UInt8) u11]) hl6 ⟨u3,hE.sub ⟨rfl,rfl,rfl,trivial⟩,hM⟩ ?_
  rintro s10 a w ⟨u11,hE,hM⟩ o15 hs13 hx14
  unfold VR at hs13
  refine wp_seq (Zc (Zd hE Za ld rfl fun a hE=>Zi hE Za ld rfl rfl rfl fun a hE=>Zf ?_))
  refine Zs hE rfl ?_ ?_
  ·intro hb16
   have hs13:=ZA hs13 hb16
   refine wp_skip (Zz (wp_seq (wp_block (wp_region_lit (Zd hE Za ld rfl fun a hE=>Zd hE Za ld rfl ?_))))); intro a hE
   obtain ⟨x18,hi17,hs13⟩:=bvx hs13
   refine Zr hE Za ld rfl rfl Tryz.underlying29 ty5 hi17.1 fun a hE=>Zp (v:=(vB x18)) hE Za ld rfl ty5 rfl (At.vec (hM.rawAt (pre:=[])) hi17.2) fun a hE=>Yk (xs:=[.tmp 13]) (l:=([x18] : List UInt8)) (vs:=[vB x18]) hE hM Za ld rfl rfl Tryz.underlying57 ty5 rfl (by decide) rfl ?_; intro u20 w a hM hE
   obtain ⟨l22,e23,hs13⟩:=bind_some hs13
   obtain ⟨e26,rfl⟩:=Yv e23
   have hM:=hM.pull (pre:=[_,_])
   refine Yn hE hM Za ld rfl rfl (hM.sl (pre:=[_]) noB) Tryz.underlying57 ty5 rfl (by decide) e26 fun u24 w a hM hE=>Ze hE Za ld rfl fun a hE=>Zj (Yb (Zz (wp_region_lit (Zd hE Za ld rfl fun a hE=>Zi hE Za ld rfl rfl rfl fun a hE=>Ze hE Za ld rfl fun a hE=>Zj (Zn ?_)))))
   have hM:=M.fst (l:=[_,_]) (hM.pull (pre:=[_,_]))
   exact ⟨_,(ois hs13),u24,hE.sub ⟨rfl,rfl,rfl,trivial⟩,hM⟩
  ·intro hb16
   have hs13:=ZB hs13 hb16
   refine wp_exit (Zq (Zq (Yf ?_)))
   have ht27:=hx14 _ (ois hs13)
   subst ht27
   refine Zn ?_
   have hM:=M.fst (l:=[_]) (hM.pull (pre:=[_]))
   exact ⟨u11,hE.sub ⟨rfl,trivial⟩,hM⟩
 ·skip
  rintro a w ⟨u8,hE,hM⟩
  refine Zz (Zc (Zd hE Za ld rfl fun a hE=>Ze hE Za ld rfl fun a hE=>Zf ?_))
  have hr:=Option.some.inj hF7
  subst hr
  exact wp_ret (Zy hE rfl (Zu hE rfl) ⟨_,rfl,u8,rfl,hM.outF (Yo Xs),hM.kept⟩)
def UT (p0 : Int) : Option ((List UInt8)) :=
 some ([ZC (Qi (Tj p0 24) 255),ZC (Qi (Tj p0 16) 255),ZC (Qi (Tj p0 8) 255),ZC (Qi p0 255)] : List UInt8)
theorem BY (w0 : World) (p0 : Int) (r : (List UInt8)) (hF : UT p0 = some r) :
  Calls Tryz.prog 130 [vI p0].toArray w0 (fun en w'=>∃ v,en = .returned v ∧ (∃ (y1 : Value),v = y1 ∧ Fr w0 w' [osl NoB (r : List UInt8) y1] ∧ Kept (Old w0) w0 w')):=by
 refine ZD (n:=19) Tryz.func130 rfl rfl (nbl rfl) rfl ?_
 intro a hE
 have hM:=M.start w0
 unfold UT at hF
 refine Zc (Ze hE Za ld rfl fun a hE=>Zf (Zc (Zd hE Za ld rfl fun a hE=>Hh hE Za ld rfl rfl (Jk _ _ (by decide)) fun a hE=>Zi hE Za ld rfl rfl rfl fun a hE=>Yz hE Za ld rfl Tryz.underlying2 Tryz.underlying5 ?_))); intro a hE
 rw [ZW] at hE
 refine Zd hE Za ld rfl fun a hE=>Hh hE Za ld rfl rfl (Jk _ _ (by decide)) fun a hE=>Zi hE Za ld rfl rfl rfl fun a hE=>Yz hE Za ld rfl Tryz.underlying2 Tryz.underlying5 ?_; intro a hE
 rw [ZW] at hE
 refine Zd hE Za ld rfl fun a hE=>Hh hE Za ld rfl rfl (Jk _ _ (by decide)) fun a hE=>Zi hE Za ld rfl rfl rfl fun a hE=>Yz hE Za ld rfl Tryz.underlying2 Tryz.underlying5 ?_; intro a hE
 rw [ZW] at hE
 refine Zd hE Za ld rfl fun a hE=>Zi hE Za ld rfl rfl rfl fun a hE=>Yz hE Za ld rfl Tryz.underlying2 Tryz.underlying5 ?_; intro a hE
 rw [ZW] at hE
 refine Yk (xs:=[.tmp 6,.tmp 10,.tmp 14,.tmp 17]) (l:=([ZC (Qi (Tj p0 24) 255),ZC (Qi (Tj p0 16) 255),ZC (Qi (Tj p0 8) 255),ZC (Qi p0 255)] : List UInt8)) (vs:=[(vB (ZC (Qi (Tj p0 24) 255))),(vB (ZC (Qi (Tj p0 16) 255))),(vB (ZC (Qi (Tj p0 8) 255))),(vB (ZC (Qi p0 255)))]) hE hM Za ld rfl rfl Tryz.underlying57 ty5 rfl (by decide) rfl fun u1 w a hM hE=>Ze hE Za ld rfl fun a hE=>Zf ?_
 have hr:=Option.some.inj hF
 subst hr
 exact wp_ret (Zy hE rfl (Zu hE rfl) ⟨_,rfl,u1,rfl,hM.outF (Yo Xs),hM.kept⟩)
def UY (p0 : (Vector UInt8 32)) (p1 : GEvent) : Option ((Vector UInt8 32)) :=
 ((W6 p0).bind fun r13=>(app 1 r13 ([ZC p1.Kind] : List UInt8)).bind fun l18=>some (r13 ++ ([ZC p1.Kind] : List UInt8)) : Option ((List UInt8))).bind fun j7=>(UT p1.Number).bind fun r24=>(app 1 j7 r24).bind fun l27=>((WE).bind fun r36=>(W6 p1.Tag).bind fun r38=>(app 1 (j7 ++ r24) r38).bind fun l41=>(V5 r36 ((j7 ++ r24) ++ r38)).bind fun r46=>some r46 : Option ((Vector UInt8 32))).bind fun j32=>some j32
theorem BX (w0 : World) (p0 : (Vector UInt8 32)) (p1 : GEvent) (r : (Vector UInt8 32)) (hF : UY p0 p1 = some r) :
  Calls Tryz.prog 178 [(Value.agg (enc p0).toArray),(Value.agg (enc p1).toArray)].toArray w0 (fun en w'=>∃ v,en = .returned v ∧ (v = (Value.agg (enc r).toArray) ∧ Kept (Old w0) w0 w')):=by
 refine ZD (n:=25) Tryz.func178 rfl rfl (nbl rfl) rfl ?_
 intro a hE
 have hM:=M.start w0
 unfold UY at hF
 refine Zc (ZY (cs:=enc p0) hE hM Za ld rfl rfl fun b1 w a hM hE=>ZY (cs:=cat [[vI p1.Kind],[vI p1.Number],enc p1.Tag]) hE hM Za ld rfl rfl fun b3 w a hM hE=>ZE hE hM Za ld Yy fun b5 w a hM hE=>Zf ?_)
 obtain ⟨j7,hl8,hF9⟩:=bind_some hF
 refine ZS (fun a w=>∃ (u10 : Value),Env 25 a [(3,(ptr b3 0)),(4,(ptr b5 0)),(5,u10)] ∧ M (Old w0) w0 w [raw b5 (enc (Vector.replicate 32 (0 : UInt8))),raw b3 (cat [[vI p1.Kind],[vI p1.Number],enc p1.Tag]),osl NoB (j7 : List UInt8) u10]) ?_ ?_
 ·skip
  obtain ⟨r13,e14,hl8⟩:=bind_some hl8
  refine QY (n:=25) (hd:=[_,_,_,_,_,_]) (tl:=[_,_]) (its:=[raw b5 (enc (Vector.replicate 32 (0 : UInt8))),raw b3 (cat [[vI p1.Kind],[vI p1.Number],enc p1.Tag]),raw b1 (enc p0)]) Y0 rfl rfl [6,7,8,9,10,11] (by decide) [(1,fun v=>osl NoB (r13 : List UInt8) v),(5,fun v=>osl NoB (([ZC p1.Kind] : List UInt8) : List UInt8) v)] rfl (fun j=>([fun v=>v = (Value.agg (enc p0).toArray),fun v=>True,fun v=>v = (ptr b3 (0 + 0)),fun v=>v = (vI p1.Kind),fun v=>v = (vB (ZC p1.Kind)),fun v=>True] : List (Value → Prop)).getD j (fun _=>True)) hE hM.drew (ZK (Zb ?_ (Zb ?_ (Zb ?_ (Zb ?_ (Zb ?_ (Zb ?_ ZF))))))) ?_
  ·intro a w ux12 D hE hM hD hp
   have hM0:=hM
   have hM : M (Old w0) w0 w [raw b5 (enc (Vector.replicate 32 (0 : UInt8))),raw b3 (cat [[vI p1.Kind],[vI p1.Number],enc p1.Tag]),raw b1 (enc p0),opt (D 1) (osl NoB (r13 : List UInt8) (ux12 1)),opt (D 5) (osl NoB (([ZC p1.Kind] : List UInt8) : List UInt8) (ux12 5))]:=hM
   exact Zm (cs:=enc p0) hE Za ld rfl Yy rfl (hM.rawAt (pre:=[_,_])) (Flat.len _) fun a hE=>⟨_,_,rfl,hE,rfl,hM0.optKeep rfl⟩
  ·intro a w ux12 D hE hM hD hp
   have f0 : ux12 0 = (Value.agg (enc p0).toArray):=(hp 0 _ rfl rfl).2
   have hM0:=hM
   have hM : M (Old w0) w0 w [raw b5 (enc (Vector.replicate 32 (0 : UInt8))),raw b3 (cat [[vI p1.Kind],[vI p1.Number],enc p1.Tag]),raw b1 (enc p0),opt (D 1) (osl NoB (r13 : List UInt8) (ux12 1)),opt (D 5) (osl NoB (([ZC p1.Kind] : List UInt8) : List UInt8) (ux12 5))]:=hM
   refine Zt hE Za ld (ZV (ZT (lk rfl f0) YZ)) cb182 (Ki _ p0 r13 e14) ?_
   rintro _ w a ⟨_,rfl,hFr,hK⟩ hE
   have hM:=hM0.add hK hFr
   exact ⟨_,_,rfl,hE,trivial,M.optFill (mk1:=[]) (mk2:=[_]) (f:=(fun v=>osl NoB (r13 : List UInt8) v)) hM rfl hD⟩
  ·intro a w ux12 D hE hM hD hp
   have hM0:=hM
   exact Zg hE Za ld rfl (Qf) fun a hE=>⟨_,_,rfl,hE,rfl,hM0.optKeep rfl⟩
  ·intro a w ux12 D hE hM hD hp
   have f2 : ux12 2 = (ptr b3 (0 + 0)):=(hp 0 _ rfl rfl).2
   have hM0:=hM
   have hM : M (Old w0) w0 w [raw b5 (enc (Vector.replicate 32 (0 : UInt8))),raw b3 (cat [[vI p1.Kind],[vI p1.Number],enc p1.Tag]),raw b1 (enc p0),opt (D 1) (osl NoB (r13 : List UInt8) (ux12 1)),opt (D 5) (osl NoB (([ZC p1.Kind] : List UInt8) : List UInt8) (ux12 5))]:=hM
   exact Zp (v:=(vI p1.Kind)) hE Za ld (lk rfl f2) ty2 rfl (At.cat (pre:=[]) (hM.rawAt (pre:=[_])) cl0) fun a hE=>⟨_,_,rfl,hE,rfl,hM0.optKeep rfl⟩
  ·intro a w ux12 D hE hM hD hp
   have f3 : ux12 3 = (vI p1.Kind):=(hp 0 _ rfl rfl).2
   have hM0:=hM
   refine Yz hE Za ld (lk rfl f3) Tryz.underlying2 Tryz.underlying5 ?_; intro a hE
   rw [ZW] at hE
   exact ⟨_,_,rfl,hE,rfl,hM0.optKeep rfl⟩
  ·intro a w ux12 D hE hM hD hp
   have f4 : ux12 4 = (vB (ZC p1.Kind)):=(hp 0 _ rfl rfl).2
   have hM0:=hM
   have hM : M (Old w0) w0 w [raw b5 (enc (Vector.replicate 32 (0 : UInt8))),raw b3 (cat [[vI p1.Kind],[vI p1.Number],enc p1.Tag]),raw b1 (enc p0),opt (D 1) (osl NoB (r13 : List UInt8) (ux12 1)),opt (D 5) (osl NoB (([ZC p1.Kind] : List UInt8) : List UInt8) (ux12 5))]:=hM
   exact Yk (xs:=[.tmp 10]) (l:=([ZC p1.Kind] : List UInt8)) (vs:=[(vB (ZC p1.Kind))]) hE hM Za ld (ZV (ZT (lk rfl f4) YZ)) rfl Tryz.underlying57 ty5 rfl (by decide) rfl fun u16 w a hM hE=>⟨_,_,rfl,hE,trivial,M.optFill (mk1:=[_]) (mk2:=[]) (f:=(fun v=>osl NoB (([ZC p1.Kind] : List UInt8) : List UInt8) v)) hM rfl hD⟩
  ·intro a w ux12 hE hM hg
   have hM : M (Old w0) w0 w [raw b5 (enc (Vector.replicate 32 (0 : UInt8))),raw b3 (cat [[vI p1.Kind],[vI p1.Number],enc p1.Tag]),raw b1 (enc p0),osl NoB (r13 : List UInt8) (ux12 1),osl NoB (([ZC p1.Kind] : List UInt8) : List UInt8) (ux12 5)]:=hM
   have hE:=hE.sub (e':=[(7,(ux12 1)),(11,(ux12 5)),(3,(ptr b3 0)),(4,(ptr b5 0))]) ⟨rfl,rfl,rfl,rfl,trivial⟩
   obtain ⟨l18,e19,hl8⟩:=bind_some hl8
   obtain ⟨e22,rfl⟩:=Yv e19
   have hM:=hM.pull (pre:=[_,_,_])
   refine Yn hE hM Za ld rfl rfl (hM.sl (pre:=[_,_,_,_]) noB) Tryz.underlying57 ty5 rfl (by decide) e22 fun u20 w a hM hE=>Ze hE Za ld rfl fun a hE=>Zj ?_
   have ht23:=Option.some.inj hl8
   subst ht23
   refine Zn ?_
   have hM:=M.fst (l:=[_,_,_]) ((hM.pull (pre:=[_,_])).pull (pre:=[_,_]))
   exact ⟨u20,hE.sub ⟨rfl,rfl,rfl,trivial⟩,hM⟩
 ·skip
  rintro a w ⟨u10,hE,hM⟩
  refine Zc (Zd hE Za ld rfl fun a hE=>Zg hE Za ld rfl (Qe) fun a hE=>Zp (v:=(vI p1.Number)) hE Za ld rfl ty2 rfl (At.cat (pre:=[[vI p1.Kind]]) (hM.rawAt (pre:=[_])) (cl1 (n:=1) (m:=0) rfl cl0)) ?_); intro a hE
  obtain ⟨r24,e25,hF9⟩:=bind_some hF9
  refine Zt hE Za ld rfl cb130 (BY _ p1.Number r24 e25) ?_
  rintro u26 w a ⟨_,rfl,hFr,hK⟩ hE
  have hM:=hM.add hK hFr
  obtain ⟨l27,e28,hF9⟩:=bind_some hF9
  obtain ⟨e31,rfl⟩:=Yv e28
  have hM:=hM.pull (pre:=[_,_,_])
  refine Yn hE hM Za ld rfl rfl (hM.sl (pre:=[_]) noB) Tryz.underlying57 ty5 rfl (by decide) e31 fun u29 w a hM hE=>Ze hE Za ld rfl fun a hE=>Zf ?_
  obtain ⟨j32,hl33,hF34⟩:=bind_some hF9
  refine ZS (fun a w=>Env 25 a [(4,(ptr b5 0))] ∧ M (Old w0) w0 w [raw b5 (enc j32)]) ?_ ?_
  ·skip
   obtain ⟨r36,e37,hl33⟩:=bind_some hl33
   obtain ⟨r38,e39,hl33⟩:=bind_some hl33
   refine QY (n:=25) (hd:=[_,_,_,_,_]) (tl:=[_,_,_]) (its:=[osl NoB ((j7 ++ r24) : List UInt8) u29,osl NoB (r24 : List UInt8) u26,raw b5 (enc (Vector.replicate 32 (0 : UInt8))),raw b3 (cat [[vI p1.Kind],[vI p1.Number],enc p1.Tag])]) Y0 rfl rfl [18,19,20,21,22] (by decide) [(4,fun v=>osl NoB (r38 : List UInt8) v)] rfl (fun j=>([fun v=>v = (Value.agg (enc r36).toArray),fun v=>v = u29,fun v=>v = (ptr b3 (0 + 2)),fun v=>v = (Value.agg (enc p1.Tag).toArray),fun v=>True] : List (Value → Prop)).getD j (fun _=>True)) hE hM.drew (ZK (Zb ?_ (Zb ?_ (Zb ?_ (Zb ?_ (Zb ?_ ZF)))))) ?_
   ·intro a w ux35 D hE hM hD hp
    have hM0:=hM
    refine Zt hE Za ld rfl cb133 (QS _  r36 e37) ?_
    rintro v w a ⟨rfl,hK⟩ hE
    exact ⟨_,_,rfl,hE,rfl,(hM0.keep hK).optKeep rfl⟩
   ·intro a w ux35 D hE hM hD hp
    have hM0:=hM
    exact Zd hE Za ld rfl fun a hE=>⟨_,_,rfl,hE,rfl,hM0.optKeep rfl⟩
   ·intro a w ux35 D hE hM hD hp
    have hM0:=hM
    exact Zg hE Za ld rfl (Q8) fun a hE=>⟨_,_,rfl,hE,rfl,hM0.optKeep rfl⟩
   ·intro a w ux35 D hE hM hD hp
    have f2 : ux35 2 = (ptr b3 (0 + 2)):=(hp 0 _ rfl rfl).2
    have hM0:=hM
    have hM : M (Old w0) w0 w [osl NoB ((j7 ++ r24) : List UInt8) u29,osl NoB (r24 : List UInt8) u26,raw b5 (enc (Vector.replicate 32 (0 : UInt8))),raw b3 (cat [[vI p1.Kind],[vI p1.Number],enc p1.Tag]),opt (D 4) (osl NoB (r38 : List UInt8) (ux35 4))]:=hM
    exact Zm (cs:=enc p1.Tag) hE Za ld (lk rfl f2) Yy rfl (At.cat (pre:=[[vI p1.Kind],[vI p1.Number]]) (hM.rawAt (pre:=[_,_,_])) (cl1 (n:=1) (m:=1) rfl (cl1 (n:=1) (m:=0) rfl cl0))) (Flat.len _) fun a hE=>⟨_,_,rfl,hE,rfl,hM0.optKeep rfl⟩
   ·intro a w ux35 D hE hM hD hp
    have f3 : ux35 3 = (Value.agg (enc p1.Tag).toArray):=(hp 0 _ rfl rfl).2
    have hM0:=hM
    have hM : M (Old w0) w0 w [osl NoB ((j7 ++ r24) : List UInt8) u29,osl NoB (r24 : List UInt8) u26,raw b5 (enc (Vector.replicate 32 (0 : UInt8))),raw b3 (cat [[vI p1.Kind],[vI p1.Number],enc p1.Tag]),opt (D 4) (osl NoB (r38 : List UInt8) (ux35 4))]:=hM
    refine Zt hE Za ld (ZV (ZT (lk rfl f3) YZ)) cb182 (Ki _ p1.Tag r38 e39) ?_
    rintro _ w a ⟨_,rfl,hFr,hK⟩ hE
    have hM:=hM0.add hK hFr
    exact ⟨_,_,rfl,hE,trivial,M.optFill (mk1:=[]) (mk2:=[]) (f:=(fun v=>osl NoB (r38 : List UInt8) v)) hM rfl hD⟩
   ·intro a w ux35 hE hM hg
    have hM : M (Old w0) w0 w [osl NoB ((j7 ++ r24) : List UInt8) u29,osl NoB (r24 : List UInt8) u26,raw b5 (enc (Vector.replicate 32 (0 : UInt8))),raw b3 (cat [[vI p1.Kind],[vI p1.Number],enc p1.Tag]),osl NoB (r38 : List UInt8) (ux35 4)]:=hM
    have hE:=hE.sub (e':=[(18,(Value.agg (enc r36).toArray)),(19,u29),(22,(ux35 4)),(4,(ptr b5 0))]) ⟨lk rfl (hg 0 (by decide)),lk rfl (hg 1 (by decide)),rfl,rfl,trivial⟩
    obtain ⟨l41,e42,hl33⟩:=bind_some hl33
    obtain ⟨e45,rfl⟩:=Yv e42
    refine Yn hE hM Za ld rfl rfl (hM.sl (pre:=[_,_,_,_]) noB) Tryz.underlying57 ty5 rfl (by decide) e45 ?_; intro u43 w a hM hE
    obtain ⟨r46,e47,hl33⟩:=bind_some hl33
    refine Zt hE Za ld rfl cb153 (JN _ r36 ((j7 ++ r24) ++ r38) u43 (hM.sl (pre:=[]) noB) r46 e47) ?_
    rintro v w a ⟨rfl,hK⟩ hE
    have hM:=(hM.keep hK).pull (pre:=[_,_])
    refine Zo (seg:=enc r46) (cs':=enc r46) hE hM Za rfl rfl rfl Yy (Flat.len _) (zle flq) (Flat.cell _) (Zl flq) fun w a hM hE=>Zj ?_
    have ht48:=Option.some.inj hl33
    subst ht48
    refine Zn ?_
    have hM:=M.fst (l:=[_]) hM
    exact ⟨hE.sub ⟨rfl,trivial⟩,hM⟩
  ·skip
   rintro a w ⟨hE,hM⟩
   have hr:=Option.some.inj hF34
   subst hr
   have hq49 : Yw Tryz.prog _ _ (.cell 4 29) _:=ZO hE rfl Yy rfl (hM.rawAt (pre:=[])) (Flat.len _) rfl
   have hM:=M.fst (l:=[]) hM
   exact wp_ret (Zy hE rfl hq49 ⟨_,rfl,rfl,hM.kept⟩)
def Vb (p0 : (List GEvent)) (s19 : (Vector UInt8 32) × Int) : Option (Fl ((Vector UInt8 32) × Int) (Vector UInt8 32)) :=
 if (decide (s19.2 < (p0.length : Int))) = true then ((idx p0 s19.2).bind fun x25=>(UY s19.1 x25).bind fun r28=>some (Fl.nx (r28,wr (s19.2 + 1)))) else (some (Fl.ex s19.1))
def UU (p0 : (List GEvent)) : Option ((Vector UInt8 32)) :=
 (WE).bind fun r4=>(mkS 1 (0 : UInt8) 32).bind fun l6=>(V5 r4 l6).bind fun r10=>(ZG (Vb p0) (r10,0)).bind fun j16=>some j16
theorem BA (w0 : World) (p0 : (List GEvent)) (v0_1 : Value) (hv0_1 : Ro w0 p0 [v0_1]) (r : (Vector UInt8 32)) (hF : UU p0 = some r) :
  Calls Tryz.prog 120 [v0_1].toArray w0 (fun en w'=>∃ v,en = .returned v ∧ (v = (Value.agg (enc r).toArray) ∧ Kept (Old w0) w0 w')):=by
 refine ZD (n:=21) Tryz.func120 rfl rfl (nbl rfl) rfl ?_
 intro a hE
 have hM:=M.start w0
 unfold UU at hF
 refine Zc (ZE hE hM Za ld Yy fun b1 w a hM hE=>Zf (wp_seq ?_))
 obtain ⟨r4,e5,hF⟩:=bind_some hF
 obtain ⟨l6,e7,hF⟩:=bind_some hF
 obtain ⟨r10,e11,hF⟩:=bind_some hF
 refine Ub (n:=21) (hd:=[_,_,_,_]) (tl:=[_]) Y0 rfl rfl [5,6,7,3] (by decide) (fun D u w=>M (Old w0) w0 w ([raw b1 (enc (Vector.replicate 32 (0 : UInt8)))] ++ qL ([mkO 1 (fun v=>osl NoB (l6 : List UInt8) v),mkO 3 (fun v=>Vq v (enc (Vector.replicate 32 (0 : UInt8))))] : Mk) D u) ∧ GOk ([([],fun us v=>v = (Value.agg (enc r4).toArray)),([],fun us v=>True),([],fun us v=>v = (Value.agg (enc r10).toArray)),([],fun us v=>True)] : Gs) D u) hE (fun u=>⟨M.qE (M.qE (M.q0 hM.drew u) emO) emO,Jg⟩) (ZK (Zb ?_ (Zb ?_ (Zb ?_ (Zb ?_ ZF))))) ?_
 ·intro a w ux3 D hE hI hD hdc hp
  have hM0:=hI.1
  refine Zt hE Za ld rfl cb133 (QS _  r4 e5) ?_
  rintro v w a ⟨rfl,hK⟩ hE
  exact ⟨_,_,rfl,hE,M.qKeep (hM0.keep hK) rfl,hI.2.put hD rfl ZQ rfl⟩
 ·intro a w ux3 D hE hI hD hdc hp
  have hM0:=hI.1
  have hM:=hI.1
  exact Ho hE hM Za ld rfl rfl Tryz.underlying57 ty5 rfl (by decide) (fun _=>Tr.2 ⟨rfl,rfl⟩) e7 fun u8 w a hM hE=>⟨_,_,rfl,hE,M.qFill (mk1:=[]) (mk2:=[_]) (f:=(fun v=>osl NoB (l6 : List UInt8) v)) hM rfl hD,hI.2.put hD rfl ZQ trivial⟩
 ·intro a w ux3 D hE hI hD hdc hp
  have d0 : D 0 = true:=hp 0 _ rfl rfl
  have g0:=hI.2 0 d0 _ rfl
  have f0 : ux3 0 = (Value.agg (enc r4).toArray):=g0.2
  have d1 : D 1 = true:=hp 1 _ rfl rfl
  have g1:=hI.2 1 d1 _ rfl
  have hM0:=hI.1
  have hM:=hI.1.sure (pre:=[_]) d1
  refine Zt hE Za ld (ZV (ZT (lk rfl f0) (ZT rfl YZ))) cb153 (JN _ r4 l6 (ux3 1) (hM.sl (pre:=[_]) noB) r10 e11) ?_
  rintro v w a ⟨rfl,hK⟩ hE
  exact ⟨_,_,rfl,hE,M.qKeep (hM0.keep hK) rfl,hI.2.put hD rfl ZQ rfl⟩
 ·intro a w ux3 D hE hI hD hdc hp
  have hM0:=hI.1
  have hM:=hI.1
  refine ZE hE hM Za ld Yy ?_; intro b12 w a hM hE
  have hM:=hM.pack1 (it:=Vq _ (enc (Vector.replicate 32 (0 : UInt8)))) (fun w w' fp ⟨b',e,k⟩ hb=>⟨b',e,Xc w w' fp k hb⟩) (fun fp k=>⟨_,rfl,k⟩)
  exact ⟨_,_,rfl,hE,M.qFill (mk1:=[_]) (mk2:=[]) (f:=fun v=>Vq v (enc (Vector.replicate 32 (0 : UInt8)))) hM rfl hD,hI.2.put hD rfl ZQ trivial⟩
 ·intro a w ux3 D hE hI hall
  have hM : M (Old w0) w0 w [raw b1 (enc (Vector.replicate 32 (0 : UInt8))),opt (D 1) (osl NoB (l6 : List UInt8) (ux3 1)),opt (D 3) (Vq (ux3 3) (enc (Vector.replicate 32 (0 : UInt8))))]:=hI.1
  have d0 : D 0 = true:=hall 0 (by decide)
  have d1 : D 1 = true:=hall 1 (by decide)
  have d2 : D 2 = true:=hall 2 (by decide)
  have d3 : D 3 = true:=hall 3 (by decide)
  have f0 : ux3 0 = (Value.agg (enc r4).toArray):=(hI.2 0 d0 _ rfl).2
  have f2 : ux3 2 = (Value.agg (enc r10).toArray):=(hI.2 2 d2 _ rfl).2
  have hM:=((hM.sure (pre:=[_]) d1).sure (pre:=[_,_]) d3).pull
  obtain ⟨_,⟨b14,f15,_⟩,_⟩:=hM.head
  have hM:=hM.pack1 Xc (it:=raw b14 (enc (Vector.replicate 32 (0 : UInt8)))) (fun fp ⟨b2,e2,k2⟩=>by rw [f15] at e2; simp [ptr] at e2; subst e2; exact k2)
  have hE:=hE.sub (e':=[(6,(ux3 1)),(7,(Value.agg (enc r10).toArray)),(3,(ptr b14 0)),(0,v0_1),(2,(ptr b1 0))]) ⟨rfl,lk rfl f2,lk rfl f15,rfl,rfl,trivial⟩
  refine Zo (seg:=enc r10) (cs':=enc r10) hE hM Za rfl rfl rfl Yy (Flat.len _) (zle flq) (Flat.cell _) (Zl flq) fun w a hM hE=>Zj (Zz (wp_seq (Zc (Ze hE Za ld rfl fun a hE=>Zf ?_))))
  obtain ⟨j16,hl17,hF18⟩:=bind_some hF
  refine ZP (fun a w=>Env 21 a [(2,(ptr b1 0)),(3,(ptr b14 0))] ∧ M (Old w0) w0 w [raw b14 (enc j16),raw b1 (enc (Vector.replicate 32 (0 : UInt8)))]) ?_ ?_
  ·skip
   refine wp_block ?_
   have hM:=M.fst (l:=[_,_]) ((hM.pull (pre:=[_])).pull (pre:=[_]))
   refine ZI (fun (s19 : (Vector UInt8 32) × Int) a w=>Env 21 a [(0,v0_1),(2,(ptr b1 0)),(3,(ptr b14 0)),(4,vI s19.2)] ∧ M (Old w0) w0 w [raw b14 (enc s19.1),raw b1 (enc (Vector.replicate 32 (0 : UInt8)))]) hl17 ⟨hE.sub ⟨rfl,rfl,rfl,rfl,trivial⟩,hM⟩ ?_
   rintro s19 a w ⟨hE,hM⟩ o22 hs20 hx21
   unfold Vb at hs20
   refine wp_seq (Zc (Zd hE Za ld rfl fun a hE=>Zd hE Za ld rfl fun a hE=>Z3 hE Za ld rfl Tryz.underlying34 (hM.rd hv0_1) fun a hE=>Zi hE Za ld rfl rfl rfl fun a hE=>Zf ?_))
   refine Zs hE rfl ?_ ?_
   ·intro hb23
    have hs20:=ZA hs20 hb23
    refine wp_skip (Zz (wp_seq (wp_block ?_)))
    obtain ⟨x25,hi27,hs20⟩:=bix hs20
    obtain ⟨r28,e29,hs20⟩:=bind_some hs20
    refine YC (n:=21) (hd:=[_,_,_,_,_,_]) (tl:=[_]) Y0 rfl rfl [14,15,16,17,18,19] (by decide) (fun w=>M (Old w0) w0 w [raw b14 (enc s19.1),raw b1 (enc (Vector.replicate 32 (0 : UInt8)))]) (fun j=>([fun v _=>v = (Value.agg (enc s19.1).toArray),fun v _=>v = v0_1,fun v _=>v = (vI s19.2),fun v _=>v = (ptr (sb v0_1) (so v0_1 + (s19.2).toNat * 34)),fun v _=>v = (Value.agg (enc x25).toArray),fun v _=>v = (Value.agg (enc r28).toArray)] : List (Value → World → Prop)).getD j (fun _ _=>True)) (fun _ _ h hk=>h.keep hk) (gup (Zk (Zk (Zk (Zk (Zk (Zk V1))))))) hE hM.drew (ZK (Zb ?_ (Zb ?_ (Zb ?_ (Zb ?_ (Zb ?_ (Zb ?_ ZF))))))) ?_
    ·exact fun a w ux24 hE hM hp=>Zm (cs:=enc s19.1) hE Za ld rfl Yy rfl (hM.rawAt (pre:=[])) (Flat.len _) fun a hE=>⟨Kept.refl _ _,_,_,rfl,hE,rfl⟩
    ·exact fun a w ux24 hE hM hp=>Zd hE Za ld rfl fun a hE=>⟨Kept.refl _ _,_,_,rfl,hE,rfl⟩
    ·exact fun a w ux24 hE hM hp=>Zd hE Za ld rfl fun a hE=>⟨Kept.refl _ _,_,_,rfl,hE,rfl⟩
    ·intro a w ux24 hE hM hp
     have f1 : ux24 1 = v0_1:=hp 0 _ rfl rfl
     have f2 : ux24 2 = (vI s19.2):=hp 1 _ rfl rfl
     exact ZL hE Za ld (lk rfl f1) (lk rfl f2) Tryz.underlying34 Y9 (hM.rd hv0_1) hi27.1 fun a hE=>⟨Kept.refl _ _,_,_,rfl,hE,rfl⟩
    ·intro a w ux24 hE hM hp
     have f3 : ux24 3 = (ptr (sb v0_1) (so v0_1 + (s19.2).toNat * 34)):=hp 0 _ rfl rfl
     exact Zm (cs:=enc x25) hE Za ld (lk rfl f3) Y9 rfl (XE (hM.rd hv0_1) hi27.2) (Zh (cl1 (n:=1) (m:=33) rfl (cl1 (n:=1) (m:=32) rfl (cl1 (n:=32) (m:=0) (Flat.len _) cl0)))) fun a hE=>⟨Kept.refl _ _,_,_,rfl,hE,rfl⟩
    ·intro a w ux24 hE hM hp
     have f0 : ux24 0 = (Value.agg (enc s19.1).toArray):=hp 0 _ rfl rfl
     have f4 : ux24 4 = (Value.agg (enc x25).toArray):=hp 1 _ rfl rfl
     refine Zt hE Za ld (ZV (ZT (lk rfl f0) (ZT (lk rfl f4) YZ))) cb178 (BX _ s19.1 x25 r28 e29) ?_
     rintro v w a ⟨rfl,hK⟩ hE
     exact ⟨hK,_,_,rfl,hE,rfl⟩
    ·intro a w ux24 hE hM hg
     have hE:=hE.sub (e':=[(19,(Value.agg (enc r28).toArray)),(0,v0_1),(2,(ptr b1 0)),(3,(ptr b14 0)),(4,vI s19.2),(8,vI s19.2),(9,v0_1),(10,(vI (p0.length : Int))),(11,(vT (decide (s19.2 < (p0.length : Int)))))]) ⟨lk rfl (hg 5 (by decide)),rfl,rfl,rfl,rfl,rfl,rfl,rfl,rfl,trivial⟩
     refine Zo (seg:=enc r28) (cs':=enc r28) hE hM Za rfl rfl rfl Yy (Flat.len _) (zle flq) (Flat.cell _) (Zl flq) fun w a hM hE=>Zj (Yb (Zz (wp_region_lit (Zd hE Za ld rfl fun a hE=>Zi hE Za ld rfl rfl rfl fun a hE=>Ze hE Za ld rfl fun a hE=>Zj (Zn ?_)))))
     exact ⟨_,(ois hs20),hE.sub ⟨rfl,rfl,rfl,rfl,trivial⟩,hM⟩
   ·intro hb23
    have hs20:=ZB hs20 hb23
    refine wp_exit (Zq (Zq (Yf ?_)))
    have ht30:=hx21 _ (ois hs20)
    subst ht30
    refine Zn ?_
    exact ⟨hE.sub ⟨rfl,rfl,trivial⟩,hM⟩
  ·skip
   rintro a w ⟨hE,hM⟩
   refine Zz (Zc (Zm (cs:=enc j16) hE Za ld rfl Yy rfl (hM.rawAt (pre:=[])) (Flat.len _) ?_)); intro a hE
   have hM:=hM.pull (pre:=[_])
   refine Zo (seg:=enc j16) (cs':=enc j16) hE hM Za rfl rfl rfl Yy (Flat.len _) (zle flq) (Flat.cell _) (Zl flq) fun w a hM hE=>Zf ?_
   have hr:=Option.some.inj hF18
   subst hr
   have hq31 : Yw Tryz.prog _ _ (.cell 2 29) _:=ZO hE rfl Yy rfl (hM.rawAt (pre:=[])) (Flat.len _) rfl
   have hM:=M.fst (l:=[]) hM
   exact wp_ret (Zy hE rfl hq31 ⟨_,rfl,rfl,hM.kept⟩)
def VK (p0 : GVault) (p1 : Int) (p2 : Int) (p3 : (Vector UInt8 32)) : Option (GVault) :=
 (app 48 p0.Events ([(⟨p1,p2,p3⟩ : GEvent)] : List GEvent)).bind fun l9=>(UU (p0.Events ++ ([(⟨p1,p2,p3⟩ : GEvent)] : List GEvent))).bind fun r14=>some (⟨p0.Keys,p0.Next,p0.Records,(p0.Events ++ ([(⟨p1,p2,p3⟩ : GEvent)] : List GEvent)),r14⟩ : GVault)
theorem BI (St : Nat → Prop) (W w0 : World) (its : List Item) (p0 : GVault) (v0_1 : Value) (v0_2 : Value) (v0_3 : Value) (p1 : Int) (p2 : Int) (p3 : (Vector UInt8 32)) (hM : M St W w0 (osl NoB (p0.Keys : List (Vector UInt8 16)) v0_1 :: osl NoB (p0.Records : List GRecord) v0_2 :: osl NoB (p0.Events : List GEvent) v0_3 :: its)) (r : GVault) (hF : VK p0 p1 p2 p3 = some r) :
  Calls Tryz.prog 107 [(Value.agg (cat [[v0_1],[vI p0.Next],[v0_2],[v0_3],enc p0.Head]).toArray),vI p1,vI p2,(Value.agg (enc p3).toArray)].toArray w0 (fun en w'=>∃ v,en = .returned v ∧ (∃ (y1 : Value) (y2 : Value) (y3 : Value),v = (Value.agg (cat [[y1],[vI r.Next],[y2],[y3],enc r.Head]).toArray) ∧ M St W w' (osl NoB (r.Keys : List (Vector UInt8 16)) y1 :: osl NoB (r.Records : List GRecord) y2 :: osl NoB (r.Events : List GEvent) y3 :: its))):=by
 refine ZD (n:=23) Tryz.func107 rfl rfl (nbl rfl) rfl ?_
 intro a hE
 unfold VK at hF
 refine Zc (ZY (cs:=cat [[v0_1],[vI p0.Next],[v0_2],[v0_3],enc p0.Head]) hE hM Za ld rfl rfl fun b1 w a hM hE=>ZY (cs:=enc p3) hE hM Za ld rfl rfl fun b3 w a hM hE=>ZE hE hM Za ld Yx fun b5 w a hM hE=>Zf (Zc (Zg hE Za ld rfl (VH) fun a hE=>Zp (v:=v0_3) hE Za ld rfl QI rfl (At.cat (pre:=[[v0_1],[vI p0.Next],[v0_2]]) (hM.rawAt (pre:=[_,_])) (cl1 (n:=1) (m:=2) rfl (cl1 (n:=1) (m:=1) rfl (cl1 (n:=1) (m:=0) rfl cl0)))) fun a hE=>Zd hE Za ld rfl fun a hE=>Zd hE Za ld rfl fun a hE=>Zm (cs:=enc p3) hE Za ld rfl Yy rfl (hM.rawAt (pre:=[_])) (Flat.len _) fun a hE=>XO (parts:=[(0,.tmp 11),(1,.tmp 12),(2,.tmp 13)]) (vs:=[(0,vI p1),(1,vI p2),(2,(Value.agg (enc p3).toArray))]) (cs:=cat [[vI p1],[vI p2],enc p3]) hE Za ld rfl rfl Y9 pl146 (Yt (pre:=[]) (seg:=[vI 0]) (seg':=[vI p1]) (post:=[[vI 0],enc (Vector.replicate 32 (0 : UInt8))]) rfl cl0 rfl rfl rfl (Yt (pre:=[[vI p1]]) (seg:=[vI 0]) (seg':=[vI p2]) (post:=[enc (Vector.replicate 32 (0 : UInt8))]) rfl (cl1 (n:=1) (m:=0) rfl cl0) rfl rfl rfl (Yt (pre:=[[vI p1],[vI p2]]) (seg:=enc (Vector.replicate 32 (0 : UInt8))) (seg':=enc p3) (post:=[]) rfl (cl1 (n:=1) (m:=1) rfl (cl1 (n:=1) (m:=0) rfl cl0)) (Flat.len _) (Flat.len _) rfl VU))) fun a hE=>Yk (xs:=[.tmp 14]) (l:=([(⟨p1,p2,p3⟩ : GEvent)] : List GEvent)) (vs:=[(Value.agg (enc (⟨p1,p2,p3⟩ : GEvent)).toArray)]) hE hM Za ld rfl rfl Tryz.underlying34 Y9 rfl (by decide) rfl ?_))); intro u7 w a hM hE
 obtain ⟨l9,e10,hF⟩:=bind_some hF
 obtain ⟨e13,rfl⟩:=Yv e10
 have hM:=hM.pull (pre:=[_,_,_,_,_,_])
 refine Yn hE hM Za ld rfl rfl (hM.sl (pre:=[_]) noB) Tryz.underlying34 Y9 rfl (by decide) e13 fun u11 w a hM hE=>Zg hE Za ld rfl (VH) ?_; intro a hE
 have hM:=hM.pull (pre:=[_,_,_,_])
 refine Zo (seg:=[u11]) hE hM Za rfl rfl (YD (hM.sl (pre:=[_]) noB)) QI rfl (YO (pre:=[[v0_1],[vI p0.Next],[v0_2]]) (cl1 (n:=1) (m:=2) rfl (cl1 (n:=1) (m:=1) rfl (cl1 (n:=1) (m:=0) rfl cl0))) rfl) (Rep.cell (hM.sl (pre:=[_]) noB)) (ZX (pre:=[[v0_1],[vI p0.Next],[v0_2]]) (cl1 (n:=1) (m:=2) rfl (cl1 (n:=1) (m:=1) rfl (cl1 (n:=1) (m:=0) rfl cl0))) rfl) fun w a hM hE=>Zf (Zc (Zg hE Za ld rfl (VH) fun a hE=>Zp (v:=u11) hE Za ld rfl QI rfl (At.cat (pre:=[[v0_1],[vI p0.Next],[v0_2]]) (hM.rawAt (pre:=[])) (cl1 (n:=1) (m:=2) rfl (cl1 (n:=1) (m:=1) rfl (cl1 (n:=1) (m:=0) rfl cl0)))) ?_)); intro a hE
 obtain ⟨r14,e15,hF⟩:=bind_some hF
 refine Zt hE Za ld rfl cb120 (BA _ (p0.Events ++ ([(⟨p1,p2,p3⟩ : GEvent)] : List GEvent)) u11 (hM.sl (pre:=[_]) noB) r14 e15) ?_
 rintro v w a ⟨rfl,hK⟩ hE
 have hM:=hM.keep hK
 refine Zg hE Za ld rfl (Jm) fun a hE=>Zo (seg:=enc r14) hE hM Za rfl rfl rfl Yy (Flat.len _) (YO (pre:=[[v0_1],[vI p0.Next],[v0_2],[u11]]) (cl1 (n:=1) (m:=3) rfl (cl1 (n:=1) (m:=2) rfl (cl1 (n:=1) (m:=1) rfl (cl1 (n:=1) (m:=0) rfl cl0)))) flq) (Flat.cell _) (ZX (pre:=[[v0_1],[vI p0.Next],[v0_2],[u11]]) (cl1 (n:=1) (m:=3) rfl (cl1 (n:=1) (m:=2) rfl (cl1 (n:=1) (m:=1) rfl (cl1 (n:=1) (m:=0) rfl cl0)))) flq) fun w a hM hE=>Zf (Zc (Zm (cs:=cat [[v0_1],[vI p0.Next],[v0_2],[u11],enc r14]) hE Za ld rfl Yx rfl (hM.rawAt (pre:=[])) (Zh (cl1 (n:=1) (m:=35) rfl (cl1 (n:=1) (m:=34) rfl (cl1 (n:=1) (m:=33) rfl (cl1 (n:=1) (m:=32) rfl (cl1 (n:=32) (m:=0) (Flat.len _) cl0)))))) ?_)); intro a hE
 have hM:=hM.pull (pre:=[_,_,_])
 refine Zo (seg:=cat [[v0_1],[vI p0.Next],[v0_2],[u11],enc r14]) (cs':=cat [[v0_1],[vI p0.Next],[v0_2],[u11],enc r14]) hE hM Za rfl rfl rfl Yx (Zh (cl1 (n:=1) (m:=35) rfl (cl1 (n:=1) (m:=34) rfl (cl1 (n:=1) (m:=33) rfl (cl1 (n:=1) (m:=32) rfl (cl1 (n:=32) (m:=0) (Flat.len _) cl0)))))) (Nat.le_of_eq ((Nat.zero_add _).trans (Eq.trans (Zh (cl1 (n:=1) (m:=35) rfl (cl1 (n:=1) (m:=34) rfl (cl1 (n:=1) (m:=33) rfl (cl1 (n:=1) (m:=32) rfl (cl1 (n:=32) (m:=0) (Flat.len _) cl0)))))) (Eq.symm (Zh (cl1 (n:=1) (m:=35) rfl (cl1 (n:=1) (m:=34) rfl (cl1 (n:=1) (m:=33) rfl (cl1 (n:=1) (m:=32) rfl (cl1 (n:=32) (m:=0) (Flat.len _) cl0)))))))))) (Z5 (cc1 (Rep.cell (hM.sl (pre:=[_,_,_,_,_]) noB)) (cc1 (Flat.cell (p0.Next : Int)) (cc1 (Rep.cell (hM.sl (pre:=[_,_,_,_,_,_]) noB)) (cc1 (Rep.cell (hM.sl (pre:=[_,_]) noB)) (cc1 (Flat.cell _) cc0)))))) (Zl (Eq.trans (Zh (cl1 (n:=1) (m:=35) rfl (cl1 (n:=1) (m:=34) rfl (cl1 (n:=1) (m:=33) rfl (cl1 (n:=1) (m:=32) rfl (cl1 (n:=32) (m:=0) (Flat.len _) cl0)))))) (Eq.symm (Zh (cl1 (n:=1) (m:=35) rfl (cl1 (n:=1) (m:=34) rfl (cl1 (n:=1) (m:=33) rfl (cl1 (n:=1) (m:=32) rfl (cl1 (n:=32) (m:=0) (Flat.len _) cl0))))))))) fun w a hM hE=>Zf ?_
 have hr:=Option.some.inj hF
 subst hr
 have hq16 : Yw Tryz.prog _ _ (.cell 8 36) _:=ZO hE rfl Yx rfl (hM.rawAt (pre:=[])) (Zh (cl1 (n:=1) (m:=35) rfl (cl1 (n:=1) (m:=34) rfl (cl1 (n:=1) (m:=33) rfl (cl1 (n:=1) (m:=32) rfl (cl1 (n:=32) (m:=0) (Flat.len _) cl0)))))) rfl
 have hM:=((((((((((hM.pull (pre:=[_,_])).pull (pre:=[_,_,_,_,_,_])).pull (pre:=[_,_,_,_,_,_])).pull (pre:=[_,_,_,_,_,_])).drop).pull (pre:=[_,_,_,_,_])).drop).pull (pre:=[_,_,_,_])).drop).pull (pre:=[_,_,_])).drop
 exact wp_ret (Zy hE rfl hq16 ⟨_,rfl,v0_1,v0_2,u11,rfl,hM⟩)
def Vh (p0 : GVault) (p1 : (Vector UInt8 16)) (s18 : Int) : Option (Fl Int (Fl Unit (GVault × Int))) :=
 if (decide (s18 < (p0.Keys.length : Int))) = true then (((idx p0.Keys s18).bind fun x27=>some (decide (x27 = p1)) : Option (Bool)).bind fun j23=>if j23 = true then (some (Fl.ex (Fl.ex ((⟨[],0,[],[],(Vector.replicate 32 (0 : UInt8))⟩ : GVault),5)))) else (some (Fl.nx (wr (s18 + 1))))) else (some (Fl.ex (Fl.nx ())))
def VX (p0 : GVault) (p1 : (Vector UInt8 16)) : Option (GVault × Int) :=
 (TM p0).bind fun r7=>if (!r7) = true then (some ((⟨[],0,[],[],(Vector.replicate 32 (0 : UInt8))⟩ : GVault),1)) else ((ZG (Vh p0 p1) 0).bind fun j14=>j14.el (fun s17=>(if ((p0.Keys.length : Int) == 8) = true then (some true) else (some ((p0.Events.length : Int) == 60)) : Option (Bool)).bind fun j38=>if j38 = true then (some ((⟨[],0,[],[],(Vector.replicate 32 (0 : UInt8))⟩ : GVault),3)) else ((Tn p0).bind fun r49=>(app 16 r49.Keys ([p1] : List (Vector UInt8 16))).bind fun l58=>(VK (⟨(r49.Keys ++ ([p1] : List (Vector UInt8 16))),r49.Next,r49.Records,r49.Events,r49.Head⟩ : GVault) 3 (p0.Keys.length : Int) (Vector.replicate 32 (0 : UInt8))).bind fun r63=>some (r63,0))) (fun r=>some r))
theorem J6 (w0 : World) (p0 : GVault) (v0_1 : Value) (hv0_1 : Ro w0 p0.Keys [v0_1]) (v0_2 : Value) (hv0_2 : Ro w0 p0.Records [v0_2]) (v0_3 : Value) (hv0_3 : Ro w0 p0.Events [v0_3]) (p1 : (Vector UInt8 16)) (r : GVault × Int) (hF : VX p0 p1 = some r) :
  Calls Tryz.prog 35 [(Value.agg (cat [[v0_1],[vI p0.Next],[v0_2],[v0_3],enc p0.Head]).toArray),(Value.agg (enc p1).toArray)].toArray w0 (fun en w'=>∃ v,en = .returned v ∧ (∃ (y1 : Value) (y2 : Value) (y3 : Value),v = (Value.tuple [(Value.agg (cat [[y1],[vI r.1.Next],[y2],[y3],enc r.1.Head]).toArray),vI r.2].toArray) ∧ Fr w0 w' [osl NoB (r.1.Keys : List (Vector UInt8 16)) y1,osl NoB (r.1.Records : List GRecord) y2,osl NoB (r.1.Events : List GEvent) y3] ∧ Kept (Old w0) w0 w')):=by
 refine ZD (n:=52) Tryz.func35 rfl rfl (nbl rfl) rfl ?_
 intro a hE
 have hM:=M.start w0
 unfold VX at hF
 refine Zc (ZY (cs:=cat [[v0_1],[vI p0.Next],[v0_2],[v0_3],enc p0.Head]) hE hM Za ld rfl rfl fun b1 w a hM hE=>ZY (cs:=enc p1) hE hM Za ld rfl rfl fun b3 w a hM hE=>ZE hE hM Za ld Yx fun b5 w a hM hE=>Ze hE Za ld rfl fun a hE=>Zf (wp_seq (Zc (Zm (cs:=cat [[v0_1],[vI p0.Next],[v0_2],[v0_3],enc p0.Head]) hE Za ld rfl Yx rfl (hM.rawAt (pre:=[_,_])) (Zh (cl1 (n:=1) (m:=35) rfl (cl1 (n:=1) (m:=34) rfl (cl1 (n:=1) (m:=33) rfl (cl1 (n:=1) (m:=32) rfl (cl1 (n:=32) (m:=0) (Flat.len _) cl0)))))) ?_)))); intro a hE
 obtain ⟨r7,e8,hF⟩:=bind_some hF
 refine Zt hE Za ld rfl cb53 (zp _ p0 v0_1 (hM.rdo hv0_1) v0_2 (hM.rdo hv0_2) v0_3 (hM.rdo hv0_3) r7 e8) ?_
 rintro v w a ⟨rfl,hK⟩ hE
 have hM:=hM.keep hK
 refine WJ hE Za ld rfl fun a hE=>Zf ?_
 refine Zs hE rfl ?_ ?_
 ·intro hb9
  have hF:=ZA hF hb9
  refine Zc (XO (parts:=[]) (vs:=[]) (cs:=cat [[(Value.slice none 0 0)],[vI 0],[(Value.slice none 0 0)],[(Value.slice none 0 0)],enc (Vector.replicate 32 (0 : UInt8))]) hE Za ld rfl rfl Yx yl VU fun a hE=>Zo (seg:=cat [[(Value.slice none 0 0)],[vI 0],[(Value.slice none 0 0)],[(Value.slice none 0 0)],enc (Vector.replicate 32 (0 : UInt8))]) (cs':=cat [[(Value.slice none 0 0)],[vI 0],[(Value.slice none 0 0)],[(Value.slice none 0 0)],enc (Vector.replicate 32 (0 : UInt8))]) hE hM Za rfl rfl rfl Yx (Zh (cl1 (n:=1) (m:=35) rfl (cl1 (n:=1) (m:=34) rfl (cl1 (n:=1) (m:=33) rfl (cl1 (n:=1) (m:=32) rfl (cl1 (n:=32) (m:=0) (Flat.len _) cl0)))))) (Nat.le_of_eq ((Nat.zero_add _).trans (Eq.trans (Zh (cl1 (n:=1) (m:=35) rfl (cl1 (n:=1) (m:=34) rfl (cl1 (n:=1) (m:=33) rfl (cl1 (n:=1) (m:=32) rfl (cl1 (n:=32) (m:=0) (Flat.len _) cl0)))))) (Eq.symm (Zh (cl1 (n:=1) (m:=35) rfl (cl1 (n:=1) (m:=34) rfl (cl1 (n:=1) (m:=33) rfl (cl1 (n:=1) (m:=32) rfl (cl1 (n:=32) (m:=0) (Flat.len _) cl0)))))))))) (Z5 (cc1 X9 (cc1 (Flat.cell (0 : Int)) (cc1 X9 (cc1 X9 (cc1 (Flat.cell _) cc0)))))) (Zl (Eq.trans (Zh (cl1 (n:=1) (m:=35) rfl (cl1 (n:=1) (m:=34) rfl (cl1 (n:=1) (m:=33) rfl (cl1 (n:=1) (m:=32) rfl (cl1 (n:=32) (m:=0) (Flat.len _) cl0)))))) (Eq.symm (Zh (cl1 (n:=1) (m:=35) rfl (cl1 (n:=1) (m:=34) rfl (cl1 (n:=1) (m:=33) rfl (cl1 (n:=1) (m:=32) rfl (cl1 (n:=32) (m:=0) (Flat.len _) cl0))))))))) fun w a hM hE=>Ze hE Za ld rfl fun a hE=>Zf ?_)
  have hM:=M.nilS (α:=GEvent) NoB noB (M.nilS (α:=GRecord) NoB noB (M.nilS (α:=(Vector UInt8 16)) NoB noB hM))
  have hr:=Option.some.inj hF
  subst hr
  have hq13 : Yw Tryz.prog _ _ (.cell 4 36) _:=ZO hE rfl Yx rfl (hM.rawAt (pre:=[_,_,_])) (Zh (cl1 (n:=1) (m:=35) rfl (cl1 (n:=1) (m:=34) rfl (cl1 (n:=1) (m:=33) rfl (cl1 (n:=1) (m:=32) rfl (cl1 (n:=32) (m:=0) (Flat.len _) cl0)))))) rfl
  have hM:=M.fst (l:=[_,_,_]) ((hM.pull (pre:=[_])).pull (pre:=[_,_]))
  exact wp_ret (Zx (Qv hE rfl hq13 (Zu hE rfl) ⟨_,rfl,(Value.slice none 0 0),(Value.slice none 0 0),(Value.slice none 0 0),rfl,hM.outF (Yo (Yo (Yo Xs))),hM.kept⟩))
 ·intro hb9
  have hF:=ZB hF hb9
  refine wp_skip (Zz (wp_seq (Zc (Ze hE Za ld rfl fun a hE=>Zf ?_))))
  obtain ⟨j14,hl15,hF16⟩:=bind_some hF
  refine ZP (fun a w=>∃ s17 : Unit,j14 = Fl.nx s17 ∧ Env 52 a [(2,(ptr b1 0)),(3,(ptr b3 0)),(4,(ptr b5 0))] ∧ M (Old w0) w0 w [raw b5 (cat [[(Value.slice none 0 0)],[vI 0],[(Value.slice none 0 0)],[(Value.slice none 0 0)],enc (Vector.replicate 32 (0 : UInt8))]),raw b3 (enc p1),raw b1 (cat [[v0_1],[vI p0.Next],[v0_2],[v0_3],enc p0.Head])]) ?_ ?_
  ·skip
   refine wp_block ?_
   refine ZI (fun (s18 : Int) a w=>Env 52 a [(2,(ptr b1 0)),(3,(ptr b3 0)),(4,(ptr b5 0)),(6,vI s18)] ∧ M (Old w0) w0 w [raw b5 (cat [[(Value.slice none 0 0)],[vI 0],[(Value.slice none 0 0)],[(Value.slice none 0 0)],enc (Vector.replicate 32 (0 : UInt8))]),raw b3 (enc p1),raw b1 (cat [[v0_1],[vI p0.Next],[v0_2],[v0_3],enc p0.Head])]) hl15 ⟨hE.sub ⟨rfl,rfl,rfl,rfl,trivial⟩,hM⟩ ?_
   rintro s18 a w ⟨hE,hM⟩ o21 hs19 hx20
   unfold Vh at hs19
   refine wp_seq (Zc (Zd hE Za ld rfl fun a hE=>Zg hE Za ld rfl (Wl) fun a hE=>Zp (v:=v0_1) hE Za ld rfl T1 rfl (At.cat (pre:=[]) (hM.rawAt (pre:=[_,_])) cl0) fun a hE=>Z3 hE Za ld rfl Tryz.underlying32 (hM.rd hv0_1) fun a hE=>Zi hE Za ld rfl rfl rfl fun a hE=>Zf ?_))
   refine Zs hE rfl ?_ ?_
   ·intro hb22
    have hs19:=ZA hs19 hb22
    refine wp_skip (Zz (wp_seq (wp_block ?_)))
    obtain ⟨j23,hl24,hF25⟩:=bind_some hs19
    refine ZS (fun a w=>Env 52 a [(2,(ptr b1 0)),(3,(ptr b3 0)),(4,(ptr b5 0)),(6,vI s18),(25,vT j23)] ∧ M (Old w0) w0 w [raw b5 (cat [[(Value.slice none 0 0)],[vI 0],[(Value.slice none 0 0)],[(Value.slice none 0 0)],enc (Vector.replicate 32 (0 : UInt8))]),raw b3 (enc p1),raw b1 (cat [[v0_1],[vI p0.Next],[v0_2],[v0_3],enc p0.Head])]) ?_ ?_
    ·skip
     obtain ⟨x27,hi29,hl24⟩:=bix hl24
     refine YC (n:=52) (hd:=[_,_,_,_,_,_,_]) (tl:=[]) Y0 rfl rfl [19,20,21,22,23,24,25] (by decide) (fun w=>M (Old w0) w0 w [raw b5 (cat [[(Value.slice none 0 0)],[vI 0],[(Value.slice none 0 0)],[(Value.slice none 0 0)],enc (Vector.replicate 32 (0 : UInt8))]),raw b3 (enc p1),raw b1 (cat [[v0_1],[vI p0.Next],[v0_2],[v0_3],enc p0.Head])]) (fun j=>([fun v _=>v = (ptr b1 (0 + 0)),fun v _=>v = v0_1,fun v _=>v = (vI s18),fun v _=>v = (ptr (sb v0_1) (so v0_1 + (s18).toNat * 16)),fun v _=>v = (Value.agg (enc x27).toArray),fun v _=>v = (Value.agg (enc p1).toArray),fun v _=>v = (vT (decide (x27 = p1)))] : List (Value → World → Prop)).getD j (fun _ _=>True)) (fun _ _ h hk=>h.keep hk) (gup (Zk (Zk (Zk (Zk (Zk (Zk (Zk V1)))))))) hE hM.drew (ZK (Zb ?_ (Zb ?_ (Zb ?_ (Zb ?_ (Zb ?_ (Zb ?_ (Zb ?_ ZF)))))))) ?_
     ·exact fun a w ux26 hE hM hp=>Zg hE Za ld rfl (Wl) fun a hE=>⟨Kept.refl _ _,_,_,rfl,hE,rfl⟩
     ·intro a w ux26 hE hM hp
      have f0 : ux26 0 = (ptr b1 (0 + 0)):=hp 0 _ rfl rfl
      exact Zp (v:=v0_1) hE Za ld (lk rfl f0) T1 rfl (At.cat (pre:=[]) (hM.rawAt (pre:=[_,_])) cl0) fun a hE=>⟨Kept.refl _ _,_,_,rfl,hE,rfl⟩
     ·exact fun a w ux26 hE hM hp=>Zd hE Za ld rfl fun a hE=>⟨Kept.refl _ _,_,_,rfl,hE,rfl⟩
     ·intro a w ux26 hE hM hp
      have f1 : ux26 1 = v0_1:=hp 0 _ rfl rfl
      have f2 : ux26 2 = (vI s18):=hp 1 _ rfl rfl
      exact ZL hE Za ld (lk rfl f1) (lk rfl f2) Tryz.underlying32 ZH (hM.rd hv0_1) hi29.1 fun a hE=>⟨Kept.refl _ _,_,_,rfl,hE,rfl⟩
     ·intro a w ux26 hE hM hp
      have f3 : ux26 3 = (ptr (sb v0_1) (so v0_1 + (s18).toNat * 16)):=hp 0 _ rfl rfl
      exact Zm (cs:=enc x27) hE Za ld (lk rfl f3) ZH rfl (XE (hM.rd hv0_1) hi29.2) (Flat.len _) fun a hE=>⟨Kept.refl _ _,_,_,rfl,hE,rfl⟩
     ·exact fun a w ux26 hE hM hp=>Zm (cs:=enc p1) hE Za ld rfl ZH rfl (hM.rawAt (pre:=[_])) (Flat.len _) fun a hE=>⟨Kept.refl _ _,_,_,rfl,hE,rfl⟩
     ·intro a w ux26 hE hM hp
      have f4 : ux26 4 = (Value.agg (enc x27).toArray):=hp 0 _ rfl rfl
      have f5 : ux26 5 = (Value.agg (enc p1).toArray):=hp 1 _ rfl rfl
      exact s_eqA hE Za ld (lk rfl f4) (lk rfl f5) (yb Tryz.underlying70 ty5 rfl false rfl (by decide) (Av Tryz.underlying5)) (by decide) (by kernel_rfl) fun a hE=>⟨Kept.refl _ _,_,_,rfl,hE,rfl⟩
     ·intro a w ux26 hE hM hg
      have hE:=hE.sub (e':=[(25,(vT (decide (x27 = p1)))),(2,(ptr b1 0)),(3,(ptr b3 0)),(4,(ptr b5 0)),(6,vI s18),(12,vI s18),(13,(ptr b1 (0 + 0))),(14,v0_1),(15,(vI (p0.Keys.length : Int))),(16,(vT (decide (s18 < (p0.Keys.length : Int)))))]) ⟨lk rfl (hg 6 (by decide)),rfl,rfl,rfl,rfl,rfl,rfl,rfl,rfl,rfl,trivial⟩
      refine Zj ?_
      have ht30:=Option.some.inj hl24
      subst ht30
      refine Zn ?_
      exact ⟨hE.sub ⟨rfl,rfl,rfl,rfl,rfl,trivial⟩,hM⟩
    ·skip
     rintro a w ⟨hE,hM⟩
     refine Zs hE rfl ?_ ?_
     ·intro hb31
      have hF25:=ZA hF25 hb31
      refine Zc (XO (parts:=[]) (vs:=[]) (cs:=cat [[(Value.slice none 0 0)],[vI 0],[(Value.slice none 0 0)],[(Value.slice none 0 0)],enc (Vector.replicate 32 (0 : UInt8))]) hE Za ld rfl rfl Yx yl VU fun a hE=>Zo (seg:=cat [[(Value.slice none 0 0)],[vI 0],[(Value.slice none 0 0)],[(Value.slice none 0 0)],enc (Vector.replicate 32 (0 : UInt8))]) (cs':=cat [[(Value.slice none 0 0)],[vI 0],[(Value.slice none 0 0)],[(Value.slice none 0 0)],enc (Vector.replicate 32 (0 : UInt8))]) hE hM Za rfl rfl rfl Yx (Zh (cl1 (n:=1) (m:=35) rfl (cl1 (n:=1) (m:=34) rfl (cl1 (n:=1) (m:=33) rfl (cl1 (n:=1) (m:=32) rfl (cl1 (n:=32) (m:=0) (Flat.len _) cl0)))))) (Nat.le_of_eq ((Nat.zero_add _).trans (Eq.trans (Zh (cl1 (n:=1) (m:=35) rfl (cl1 (n:=1) (m:=34) rfl (cl1 (n:=1) (m:=33) rfl (cl1 (n:=1) (m:=32) rfl (cl1 (n:=32) (m:=0) (Flat.len _) cl0)))))) (Eq.symm (Zh (cl1 (n:=1) (m:=35) rfl (cl1 (n:=1) (m:=34) rfl (cl1 (n:=1) (m:=33) rfl (cl1 (n:=1) (m:=32) rfl (cl1 (n:=32) (m:=0) (Flat.len _) cl0)))))))))) (Z5 (cc1 X9 (cc1 (Flat.cell (0 : Int)) (cc1 X9 (cc1 X9 (cc1 (Flat.cell _) cc0)))))) (Zl (Eq.trans (Zh (cl1 (n:=1) (m:=35) rfl (cl1 (n:=1) (m:=34) rfl (cl1 (n:=1) (m:=33) rfl (cl1 (n:=1) (m:=32) rfl (cl1 (n:=32) (m:=0) (Flat.len _) cl0)))))) (Eq.symm (Zh (cl1 (n:=1) (m:=35) rfl (cl1 (n:=1) (m:=34) rfl (cl1 (n:=1) (m:=33) rfl (cl1 (n:=1) (m:=32) rfl (cl1 (n:=32) (m:=0) (Flat.len _) cl0))))))))) fun w a hM hE=>Ze hE Za ld rfl fun a hE=>Zf ?_)
      have hM:=M.nilS (α:=GEvent) NoB noB (M.nilS (α:=GRecord) NoB noB (M.nilS (α:=(Vector UInt8 16)) NoB noB hM))
      have ht35:=hx20 _ (ois hF25)
      subst ht35
      have hr:=Option.some.inj hF16
      subst hr
      have hq36 : Yw Tryz.prog _ _ (.cell 4 36) _:=ZO hE rfl Yx rfl (hM.rawAt (pre:=[_,_,_])) (Zh (cl1 (n:=1) (m:=35) rfl (cl1 (n:=1) (m:=34) rfl (cl1 (n:=1) (m:=33) rfl (cl1 (n:=1) (m:=32) rfl (cl1 (n:=32) (m:=0) (Flat.len _) cl0)))))) rfl
      have hM:=M.fst (l:=[_,_,_]) ((hM.pull (pre:=[_])).pull (pre:=[_,_]))
      exact wp_ret (Yj (Zx (Zx (Yj (Zx (Zx (Qv hE rfl hq36 (Zu hE rfl) ⟨_,rfl,(Value.slice none 0 0),(Value.slice none 0 0),(Value.slice none 0 0),rfl,hM.outF (Yo (Yo (Yo Xs))),hM.kept⟩)))))))
     ·intro hb31
      have hF25:=ZB hF25 hb31
      refine wp_skip (Yb (Zz (wp_region_lit (Zd hE Za ld rfl fun a hE=>Zi hE Za ld rfl rfl rfl fun a hE=>Ze hE Za ld rfl fun a hE=>Zj (Zn ?_)))))
      exact ⟨_,(ois hF25),hE.sub ⟨rfl,rfl,rfl,rfl,trivial⟩,hM⟩
   ·intro hb22
    have hs19:=ZB hs19 hb22
    refine wp_exit (Zq (Zq (Yf ?_)))
    have ht37:=hx20 _ (ois hs19)
    subst ht37
    refine Zn ?_
    exact ⟨(),rfl,hE.sub ⟨rfl,rfl,rfl,trivial⟩,hM⟩
  ·skip
   rintro a w ⟨s17,ht,hE,hM⟩
   subst ht
   have hF16:=Tg hF16
   refine Zz (wp_seq ?_)
   obtain ⟨j38,hl39,hF40⟩:=bind_some hF16
   refine ZS (fun a w=>Env 52 a [(2,(ptr b1 0)),(3,(ptr b3 0)),(4,(ptr b5 0)),(36,vT j38)] ∧ M (Old w0) w0 w [raw b5 (cat [[(Value.slice none 0 0)],[vI 0],[(Value.slice none 0 0)],[(Value.slice none 0 0)],enc (Vector.replicate 32 (0 : UInt8))]),raw b3 (enc p1),raw b1 (cat [[v0_1],[vI p0.Next],[v0_2],[v0_3],enc p0.Head])]) ?_ ?_
   ·skip
    refine wp_region_lit (Zg hE Za ld rfl (Wl) fun a hE=>Zp (v:=v0_1) hE Za ld rfl T1 rfl (At.cat (pre:=[]) (hM.rawAt (pre:=[_,_])) cl0) fun a hE=>Z3 hE Za ld rfl Tryz.underlying32 (hM.rd hv0_1) fun a hE=>Zi hE Za ld rfl rfl rfl fun a hE=>Zd hE Za ld rfl ?_); intro a hE
    refine XL ((p0.Keys.length : Int) == 8) (fun hb41=>?_) (fun hb41=>?_)
    ·have hl39:=ZA hl39 hb41
     refine Zv hE rfl (lkb rfl hb41) rfl (by decide) fun a hE=>Zv hE rfl (lkb rfl hb41) rfl (by decide) fun a hE=>Zv hE rfl (lkb rfl hb41) rfl (by decide) fun a hE=>Zv hE rfl (lkb rfl hb41) rfl (by decide) fun a hE=>Z4 hE Za ld (lkb rfl hb41) rfl fun a hE=>Zj ?_
     have ht42:=Option.some.inj hl39
     subst ht42
     refine Zn ?_
     exact ⟨hE.sub ⟨rfl,rfl,rfl,rfl,trivial⟩,hM⟩
    ·have hl39:=ZB hl39 hb41
     refine Zg hE (Zw hE rfl (lkb rfl hb41)) (by decide) rfl (VH) fun a hE=>Zp (v:=v0_3) hE (Zw hE rfl (lkb rfl hb41)) (by decide) rfl QI rfl (At.cat (pre:=[[v0_1],[vI p0.Next],[v0_2]]) (hM.rawAt (pre:=[_,_])) (cl1 (n:=1) (m:=2) rfl (cl1 (n:=1) (m:=1) rfl (cl1 (n:=1) (m:=0) rfl cl0)))) fun a hE=>Z3 hE (Zw hE rfl (lkb rfl hb41)) (by decide) rfl Tryz.underlying34 (hM.rd hv0_3) fun a hE=>Zi hE (Zw hE rfl (lkb rfl hb41)) (by decide) rfl rfl rfl fun a hE=>YM hE Za ld (lkb rfl hb41) rfl fun a hE=>Zj ?_
     have ht43:=Option.some.inj hl39
     subst ht43
     refine Zn ?_
     exact ⟨hE.sub ⟨rfl,rfl,rfl,rfl,trivial⟩,hM⟩
   ·skip
    rintro a w ⟨hE,hM⟩
    refine Zs hE rfl ?_ ?_
    ·intro hb44
     have hF40:=ZA hF40 hb44
     refine Zc (XO (parts:=[]) (vs:=[]) (cs:=cat [[(Value.slice none 0 0)],[vI 0],[(Value.slice none 0 0)],[(Value.slice none 0 0)],enc (Vector.replicate 32 (0 : UInt8))]) hE Za ld rfl rfl Yx yl VU fun a hE=>Zo (seg:=cat [[(Value.slice none 0 0)],[vI 0],[(Value.slice none 0 0)],[(Value.slice none 0 0)],enc (Vector.replicate 32 (0 : UInt8))]) (cs':=cat [[(Value.slice none 0 0)],[vI 0],[(Value.slice none 0 0)],[(Value.slice none 0 0)],enc (Vector.replicate 32 (0 : UInt8))]) hE hM Za rfl rfl rfl Yx (Zh (cl1 (n:=1) (m:=35) rfl (cl1 (n:=1) (m:=34) rfl (cl1 (n:=1) (m:=33) rfl (cl1 (n:=1) (m:=32) rfl (cl1 (n:=32) (m:=0) (Flat.len _) cl0)))))) (Nat.le_of_eq ((Nat.zero_add _).trans (Eq.trans (Zh (cl1 (n:=1) (m:=35) rfl (cl1 (n:=1) (m:=34) rfl (cl1 (n:=1) (m:=33) rfl (cl1 (n:=1) (m:=32) rfl (cl1 (n:=32) (m:=0) (Flat.len _) cl0)))))) (Eq.symm (Zh (cl1 (n:=1) (m:=35) rfl (cl1 (n:=1) (m:=34) rfl (cl1 (n:=1) (m:=33) rfl (cl1 (n:=1) (m:=32) rfl (cl1 (n:=32) (m:=0) (Flat.len _) cl0)))))))))) (Z5 (cc1 X9 (cc1 (Flat.cell (0 : Int)) (cc1 X9 (cc1 X9 (cc1 (Flat.cell _) cc0)))))) (Zl (Eq.trans (Zh (cl1 (n:=1) (m:=35) rfl (cl1 (n:=1) (m:=34) rfl (cl1 (n:=1) (m:=33) rfl (cl1 (n:=1) (m:=32) rfl (cl1 (n:=32) (m:=0) (Flat.len _) cl0)))))) (Eq.symm (Zh (cl1 (n:=1) (m:=35) rfl (cl1 (n:=1) (m:=34) rfl (cl1 (n:=1) (m:=33) rfl (cl1 (n:=1) (m:=32) rfl (cl1 (n:=32) (m:=0) (Flat.len _) cl0))))))))) fun w a hM hE=>Ze hE Za ld rfl fun a hE=>Zf ?_)
     have hM:=M.nilS (α:=GEvent) NoB noB (M.nilS (α:=GRecord) NoB noB (M.nilS (α:=(Vector UInt8 16)) NoB noB hM))
     have hr:=Option.some.inj hF40
     subst hr
     have hq48 : Yw Tryz.prog _ _ (.cell 4 36) _:=ZO hE rfl Yx rfl (hM.rawAt (pre:=[_,_,_])) (Zh (cl1 (n:=1) (m:=35) rfl (cl1 (n:=1) (m:=34) rfl (cl1 (n:=1) (m:=33) rfl (cl1 (n:=1) (m:=32) rfl (cl1 (n:=32) (m:=0) (Flat.len _) cl0)))))) rfl
     have hM:=M.fst (l:=[_,_,_]) ((hM.pull (pre:=[_])).pull (pre:=[_,_]))
     exact wp_ret (Zx (Qv hE rfl hq48 (Zu hE rfl) ⟨_,rfl,(Value.slice none 0 0),(Value.slice none 0 0),(Value.slice none 0 0),rfl,hM.outF (Yo (Yo (Yo Xs))),hM.kept⟩))
    ·intro hb44
     have hF40:=ZB hF40 hb44
     refine wp_skip (Zz (Zc (Zm (cs:=cat [[v0_1],[vI p0.Next],[v0_2],[v0_3],enc p0.Head]) hE Za ld rfl Yx rfl (hM.rawAt (pre:=[_,_])) (Zh (cl1 (n:=1) (m:=35) rfl (cl1 (n:=1) (m:=34) rfl (cl1 (n:=1) (m:=33) rfl (cl1 (n:=1) (m:=32) rfl (cl1 (n:=32) (m:=0) (Flat.len _) cl0)))))) ?_))); intro a hE
     obtain ⟨r49,e50,hF40⟩:=bind_some hF40
     refine Zt hE Za ld rfl cb106 (Ao _ p0 v0_1 (hM.rdo hv0_1) v0_2 (hM.rdo hv0_2) v0_3 (hM.rdo hv0_3) r49 e50) ?_
     rintro v w a ⟨u51,u52,u53,rfl,hFr,hK⟩ hE
     have hM:=hM.add hK hFr
     refine ZE hE hM Za ld Yx fun b54 w a hM hE=>Zo (seg:=cat [[u51],[vI r49.Next],[u52],[u53],enc r49.Head]) (cs':=cat [[u51],[vI r49.Next],[u52],[u53],enc r49.Head]) hE hM Za rfl rfl rfl Yx (Zh (cl1 (n:=1) (m:=35) rfl (cl1 (n:=1) (m:=34) rfl (cl1 (n:=1) (m:=33) rfl (cl1 (n:=1) (m:=32) rfl (cl1 (n:=32) (m:=0) (Flat.len _) cl0)))))) (Nat.le_of_eq ((Nat.zero_add _).trans (Eq.trans (Zh (cl1 (n:=1) (m:=35) rfl (cl1 (n:=1) (m:=34) rfl (cl1 (n:=1) (m:=33) rfl (cl1 (n:=1) (m:=32) rfl (cl1 (n:=32) (m:=0) (Flat.len _) cl0)))))) (Eq.symm (Zh (cl1 (n:=1) (m:=35) rfl (cl1 (n:=1) (m:=34) rfl (cl1 (n:=1) (m:=33) rfl (cl1 (n:=1) (m:=32) rfl (cl1 (n:=32) (m:=0) (Flat.len _) cl0)))))))))) (Z5 (cc1 (Rep.cell (hM.sl (pre:=[_]) noB)) (cc1 (Flat.cell (r49.Next : Int)) (cc1 (Rep.cell (hM.sl (pre:=[_,_]) noB)) (cc1 (Rep.cell (hM.sl (pre:=[_,_,_]) noB)) (cc1 (Flat.cell _) cc0)))))) (Zl (Eq.trans (Zh (cl1 (n:=1) (m:=35) rfl (cl1 (n:=1) (m:=34) rfl (cl1 (n:=1) (m:=33) rfl (cl1 (n:=1) (m:=32) rfl (cl1 (n:=32) (m:=0) (Flat.len _) cl0)))))) (Eq.symm (Zh (cl1 (n:=1) (m:=35) rfl (cl1 (n:=1) (m:=34) rfl (cl1 (n:=1) (m:=33) rfl (cl1 (n:=1) (m:=32) rfl (cl1 (n:=32) (m:=0) (Flat.len _) cl0))))))))) fun w a hM hE=>Zf (Zc (Zg hE Za ld rfl (Wl) fun a hE=>Zp (v:=u51) hE Za ld rfl T1 rfl (At.cat (pre:=[]) (hM.rawAt (pre:=[])) cl0) fun a hE=>Zm (cs:=enc p1) hE Za ld rfl ZH rfl (hM.rawAt (pre:=[_,_,_,_,_])) (Flat.len _) fun a hE=>Yk (xs:=[.tmp 42]) (l:=([p1] : List (Vector UInt8 16))) (vs:=[(Value.agg (enc p1).toArray)]) hE hM Za ld rfl rfl Tryz.underlying32 ZH rfl (by decide) rfl ?_)); intro u56 w a hM hE
     obtain ⟨l58,e59,hF40⟩:=bind_some hF40
     obtain ⟨e62,rfl⟩:=Yv e59
     have hM:=hM.pull (pre:=[_,_])
     refine Yn hE hM Za ld rfl rfl (hM.sl (pre:=[_]) noB) Tryz.underlying32 ZH rfl (by decide) e62 fun u60 w a hM hE=>Zg hE Za ld rfl (Wl) ?_; intro a hE
     have hM:=hM.pull (pre:=[_,_])
     refine Zo (seg:=[u60]) hE hM Za rfl rfl (YD (hM.sl (pre:=[_]) noB)) T1 rfl (YO (pre:=[]) cl0 rfl) (Rep.cell (hM.sl (pre:=[_]) noB)) (ZX (pre:=[]) cl0 rfl) fun w a hM hE=>Zf (Zc (Zm (cs:=cat [[u60],[vI r49.Next],[u52],[u53],enc r49.Head]) hE Za ld rfl Yx rfl (hM.rawAt (pre:=[])) (Zh (cl1 (n:=1) (m:=35) rfl (cl1 (n:=1) (m:=34) rfl (cl1 (n:=1) (m:=33) rfl (cl1 (n:=1) (m:=32) rfl (cl1 (n:=32) (m:=0) (Flat.len _) cl0)))))) fun a hE=>Zg hE Za ld rfl (Wl) fun a hE=>Zp (v:=v0_1) hE Za ld rfl T1 rfl (At.cat (pre:=[]) (hM.rawAt (pre:=[_,_,_,_,_,_,_])) cl0) fun a hE=>Z3 hE Za ld rfl Tryz.underlying32 (hM.rd hv0_1) fun a hE=>XI (parts:=[]) (vs:=[]) (cs:=enc (Vector.replicate 32 (0 : UInt8))) hE Za ld rfl rfl Yy rfl ty5 Y5 ?_)); intro a hE
     have hM:=((hM.pull (pre:=[_,_,_,_])).pull (pre:=[_,_,_,_])).pull (pre:=[_,_,_])
     have hM0:=hM
     obtain ⟨r63,e64,hF40⟩:=bind_some hF40
     refine Zt hE Za ld rfl cb107 (BI _ _ _ _ (⟨(r49.Keys ++ ([p1] : List (Vector UInt8 16))),r49.Next,r49.Records,r49.Events,r49.Head⟩ : GVault) u60 u52 u53 3 (p0.Keys.length : Int) (Vector.replicate 32 (0 : UInt8)) hM r63 e64) ?_
     rintro v w a ⟨u65,u66,u67,rfl,hM⟩ hE
     have hM:=hM.pull (pre:=[_,_,_,_,_])
     refine Zo (seg:=cat [[u65],[vI r63.Next],[u66],[u67],enc r63.Head]) (cs':=cat [[u65],[vI r63.Next],[u66],[u67],enc r63.Head]) hE hM Za rfl rfl rfl Yx (Zh (cl1 (n:=1) (m:=35) rfl (cl1 (n:=1) (m:=34) rfl (cl1 (n:=1) (m:=33) rfl (cl1 (n:=1) (m:=32) rfl (cl1 (n:=32) (m:=0) (Flat.len _) cl0)))))) (Nat.le_of_eq ((Nat.zero_add _).trans (Eq.trans (Zh (cl1 (n:=1) (m:=35) rfl (cl1 (n:=1) (m:=34) rfl (cl1 (n:=1) (m:=33) rfl (cl1 (n:=1) (m:=32) rfl (cl1 (n:=32) (m:=0) (Flat.len _) cl0)))))) (Eq.symm (Zh (cl1 (n:=1) (m:=35) rfl (cl1 (n:=1) (m:=34) rfl (cl1 (n:=1) (m:=33) rfl (cl1 (n:=1) (m:=32) rfl (cl1 (n:=32) (m:=0) (Flat.len _) cl0)))))))))) (Z5 (cc1 (Rep.cell (hM.sl (pre:=[_]) noB)) (cc1 (Flat.cell (r63.Next : Int)) (cc1 (Rep.cell (hM.sl (pre:=[_,_]) noB)) (cc1 (Rep.cell (hM.sl (pre:=[_,_,_]) noB)) (cc1 (Flat.cell _) cc0)))))) (Zl (Eq.trans (Zh (cl1 (n:=1) (m:=35) rfl (cl1 (n:=1) (m:=34) rfl (cl1 (n:=1) (m:=33) rfl (cl1 (n:=1) (m:=32) rfl (cl1 (n:=32) (m:=0) (Flat.len _) cl0)))))) (Eq.symm (Zh (cl1 (n:=1) (m:=35) rfl (cl1 (n:=1) (m:=34) rfl (cl1 (n:=1) (m:=33) rfl (cl1 (n:=1) (m:=32) rfl (cl1 (n:=32) (m:=0) (Flat.len _) cl0))))))))) fun w a hM hE=>Ze hE Za ld rfl fun a hE=>Zf ?_
     have hr:=Option.some.inj hF40
     subst hr
     have hq68 : Yw Tryz.prog _ _ (.cell 4 36) _:=ZO hE rfl Yx rfl (hM.rawAt (pre:=[])) (Zh (cl1 (n:=1) (m:=35) rfl (cl1 (n:=1) (m:=34) rfl (cl1 (n:=1) (m:=33) rfl (cl1 (n:=1) (m:=32) rfl (cl1 (n:=32) (m:=0) (Flat.len _) cl0)))))) rfl
     have hM:=M.fst (l:=[_,_,_]) (((hM.pull (pre:=[_,_,_])).pull (pre:=[_,_,_])).pull (pre:=[_,_,_]))
     exact wp_ret (Qv hE rfl hq68 (Zu hE rfl) ⟨_,rfl,u65,u66,u67,rfl,hM.outF (Yo (Yo (Yo Xs))),hM.kept⟩)
def Yg (p0 : (List (Vector UInt8 16))) : Option (Int) :=
 some (p0.length : Int)
theorem Y7 (w0 : World) (p0 : (List (Vector UInt8 16))) (v0_1 : Value) (hv0_1 : Ro w0 p0 [v0_1]) (r : Int) (hF : Yg p0 = some r) :
  Calls Tryz.prog 112 [v0_1].toArray w0 (fun en w'=>∃ v,en = .returned v ∧ (v = (vI r) ∧ Kept (Old w0) w0 w')):=by
 refine ZD (n:=5) Tryz.func112 rfl rfl (nbl rfl) rfl ?_
 intro a hE
 have hM:=M.start w0
 unfold Yg at hF
 refine Zc (Ze hE Za ld rfl fun a hE=>Zf (Zc (Zd hE Za ld rfl fun a hE=>Z3 hE Za ld rfl Tryz.underlying32 (hM.rd hv0_1) fun a hE=>Ze hE Za ld rfl fun a hE=>Zf ?_)))
 have hr:=Option.some.inj hF
 subst hr
 exact wp_ret (Zy hE rfl (Zu hE rfl) ⟨_,rfl,rfl,hM.kept⟩)
def Y8 (p0 : Int) (p1 : Int) (p2 : Int) : Option (Bool) :=
 (if (decide (p1 ≤ p0)) = true then (some (decide (p0 ≤ p2))) else (some false) : Option (Bool)).bind fun j1=>some j1
theorem Xa (w0 : World) (p0 : Int) (p1 : Int) (p2 : Int) (r : Bool) (hF : Y8 p0 p1 p2 = some r) :
  Calls Tryz.prog 157 [vI p0,vI p1,vI p2].toArray w0 (fun en w'=>∃ v,en = .returned v ∧ (v = (vT r) ∧ Kept (Old w0) w0 w')):=by
 refine ZD (n:=15) Tryz.func157 rfl rfl (nbl rfl) rfl ?_
 intro a hE
 have hM:=M.start w0
 unfold Y8 at hF
 refine Zc (Ze hE Za ld rfl fun a hE=>Zf ?_)
 obtain ⟨j1,hl2,hF3⟩:=bind_some hF
 refine ZS (fun a w=>Env 15 a [(6,vT j1)] ∧ M (Old w0) w0 w []) ?_ ?_
 ·skip
  refine wp_region_lit (Zd hE Za ld rfl fun a hE=>Zd hE Za ld rfl fun a hE=>Zi hE Za ld rfl rfl rfl fun a hE=>Zd hE Za ld rfl ?_); intro a hE
  refine XL (decide (p1 ≤ p0)) (fun hb4=>?_) (fun hb4=>?_)
  ·have hl2:=ZA hl2 hb4
   refine Zd hE (Zw hE rfl (lkb rfl hb4)) (by decide) rfl fun a hE=>Zd hE (Zw hE rfl (lkb rfl hb4)) (by decide) rfl fun a hE=>Zi hE (Zw hE rfl (lkb rfl hb4)) (by decide) rfl rfl rfl fun a hE=>Z4 hE Za ld (lkb rfl hb4) rfl fun a hE=>Ze hE Za ld rfl fun a hE=>Zj ?_
   have ht5:=Option.some.inj hl2
   subst ht5
   refine Zn ?_
   exact ⟨hE.sub ⟨rfl,trivial⟩,hM⟩
  ·have hl2:=ZB hl2 hb4
   refine Zv hE rfl (lkb rfl hb4) rfl (by decide) fun a hE=>Zv hE rfl (lkb rfl hb4) rfl (by decide) fun a hE=>Zv hE rfl (lkb rfl hb4) rfl (by decide) fun a hE=>YM hE Za ld (lkb rfl hb4) rfl fun a hE=>Ze hE Za ld rfl fun a hE=>Zj ?_
   have ht6:=Option.some.inj hl2
   subst ht6
   refine Zn ?_
   exact ⟨hE.sub ⟨rfl,trivial⟩,hM⟩
 ·skip
  rintro a w ⟨hE,hM⟩
  have hr:=Option.some.inj hF3
  subst hr
  exact wp_ret (Zy hE rfl (Zu hE rfl) ⟨_,rfl,rfl,hM.kept⟩)
def YH (p0 : (List GEvent)) (p1 : GEvent → Option (Bool)) (s5 : Int) : Option (Fl Int (Fl Unit Int)) :=
 if (decide (s5 < (p0.length : Int))) = true then ((idx p0 s5).bind fun x10=>((p1 x10)).bind fun r13=>if r13 = true then (some (Fl.ex (Fl.ex s5))) else (some (Fl.nx (wr (s5 + 1))))) else (some (Fl.ex (Fl.nx ())))
def Yl (p0 : (List GEvent)) (p1 : GEvent → Option (Bool)) : Option (Int) :=
 (ZG (YH p0 p1) 0).bind fun j1=>j1.el (fun s4=>some (-1)) (fun r=>some r)
theorem UB (w0 : World) (p0 : (List GEvent)) (v0_1 : Value) (hv0_1 : Ro w0 p0 [v0_1]) (p1 : GEvent → Option (Bool)) (k1 : Nat) (q1 : List Value) (hcb1 : Callable Tryz.prog k1) (hg1 : ∀ (w2 : World),Kept (Old w0) w0 w2 → ∀ (z0 : GEvent) (zr : Bool),p1 z0 = some zr → Calls Tryz.prog k1 ([(Value.agg (enc z0).toArray)] ++ q1).toArray w2 (fun en w3=>∃ v,en = .returned v ∧ (v = (vT zr) ∧ Kept (Old w2) w2 w3))) (r : Int) (hF : Yl p0 p1 = some r) :
  Calls Tryz.prog 202 [v0_1,(Value.func (.func k1) #[] q1.toArray)].toArray w0 (fun en w'=>∃ v,en = .returned v ∧ (v = (vI r) ∧ Kept (Old w0) w0 w')):=by
 refine ZD (n:=19) Tryz.func202 rfl rfl (nbl rfl) rfl ?_
 intro a hE
 have hM:=M.start w0
 unfold Yl at hF
 refine Zc (Ze hE Za ld rfl fun a hE=>Zf (wp_seq (Zc (Zd hE Za ld rfl fun a hE=>Z3 hE Za ld rfl Tryz.underlying34 (hM.rd hv0_1) fun a hE=>Zd hE Za ld rfl fun a hE=>Zf ?_))))
 obtain ⟨j1,hl2,hF3⟩:=bind_some hF
 refine ZP (fun a w=>∃ s4 : Unit,j1 = Fl.nx s4 ∧ Env 19 a [] ∧ M (Old w0) w0 w []) ?_ ?_
 ·skip
  refine wp_block ?_
  refine ZI (fun (s5 : Int) a w=>Env 19 a [(0,v0_1),(1,(Value.func (.func k1) #[] q1.toArray)),(7,(vI (p0.length : Int))),(8,vI s5)] ∧ M (Old w0) w0 w []) hl2 ⟨hE.sub ⟨rfl,rfl,rfl,rfl,trivial⟩,hM⟩ ?_
  rintro s5 a w ⟨hE,hM⟩ o8 hs6 hx7
  unfold YH at hs6
  refine Zc (Zi hE Za ld rfl rfl rfl fun a hE=>Zf (wp_seq ?_))
  refine Zs hE rfl ?_ ?_
  ·intro hb9
   have hs6:=ZA hs6 hb9
   refine wp_skip (Zz (wp_seq (wp_block (Zc (Zd hE Za ld rfl fun a hE=>Ze hE Za ld rfl fun a hE=>Zf (Zc (Zd hE Za ld rfl fun a hE=>Zd hE Za ld rfl fun a hE=>Zd hE Za ld rfl ?_))))))); intro a hE
   obtain ⟨x10,hi12,hs6⟩:=bix hs6
   refine ZL hE Za ld rfl rfl Tryz.underlying34 Y9 (hM.rd hv0_1) hi12.1 fun a hE=>Zm (cs:=enc x10) hE Za ld rfl Y9 rfl (XE (hM.rd hv0_1) hi12.2) (Zh (cl1 (n:=1) (m:=33) rfl (cl1 (n:=1) (m:=32) rfl (cl1 (n:=32) (m:=0) (Flat.len _) cl0)))) ?_; intro a hE
   obtain ⟨r13,e14,hs6⟩:=bind_some hs6
   refine jR (vs:=[(Value.agg (enc x10).toArray)]) hE Za ld rfl rfl hcb1 (hg1 _ hM.kept x10 r13 e14) ?_
   rintro v w a ⟨rfl,hK⟩ hE
   have hM:=hM.keep hK
   refine Zf ?_
   refine Zs hE rfl ?_ ?_
   ·intro hb15
    have hs6:=ZA hs6 hb15
    refine Zc (Zd hE Za ld rfl fun a hE=>Ze hE Za ld rfl fun a hE=>Zf ?_)
    have ht16:=hx7 _ (ois hs6)
    subst ht16
    have hr:=Option.some.inj hF3
    subst hr
    exact wp_ret (Yj (Zx (Zx (Yj (Zx (Zx (Zy hE rfl (Zu hE rfl) ⟨_,rfl,rfl,hM.kept⟩)))))))
   ·intro hb15
    have hs6:=ZB hs6 hb15
    refine wp_skip (Yb (Zz (wp_region_lit (Zi hE Za ld rfl rfl rfl fun a hE=>Zd hE Za ld rfl fun a hE=>Zj (Zn ?_)))))
    exact ⟨_,(ois hs6),hE.sub ⟨rfl,rfl,rfl,rfl,trivial⟩,hM⟩
  ·intro hb9
   have hs6:=ZB hs6 hb9
   refine wp_exit (Zq (Zq (Yf ?_)))
   have ht17:=hx7 _ (ois hs6)
   subst ht17
   refine Zn ?_
   exact ⟨(),rfl,hE.sub trivial,hM⟩
 ·skip
  rintro a w ⟨s4,ht,hE,hM⟩
  subst ht
  have hF3:=Tg hF3
  refine Zz (Zc (Ze hE Za ld rfl fun a hE=>Zf ?_))
  have hr:=Option.some.inj hF3
  subst hr
  exact wp_ret (Zy hE rfl (Zu hE rfl) ⟨_,rfl,rfl,hM.kept⟩)
def ZZ (p0 : (List GEvent)) (p1 : GEvent → Option (Bool)) : Option (Bool) :=
 (Yl p0 p1).bind fun r1=>some (decide (r1 ≥ 0))
theorem V0 (w0 : World) (p0 : (List GEvent)) (v0_1 : Value) (hv0_1 : Ro w0 p0 [v0_1]) (p1 : GEvent → Option (Bool)) (k1 : Nat) (q1 : List Value) (hcb1 : Callable Tryz.prog k1) (hg1 : ∀ (w2 : World),Kept (Old w0) w0 w2 → ∀ (z0 : GEvent) (zr : Bool),p1 z0 = some zr → Calls Tryz.prog k1 ([(Value.agg (enc z0).toArray)] ++ q1).toArray w2 (fun en w3=>∃ v,en = .returned v ∧ (v = (vT zr) ∧ Kept (Old w2) w2 w3))) (r : Bool) (hF : ZZ p0 p1 = some r) :
  Calls Tryz.prog 170 [v0_1,(Value.func (.func k1) #[] q1.toArray)].toArray w0 (fun en w'=>∃ v,en = .returned v ∧ (v = (vT r) ∧ Kept (Old w0) w0 w')):=by
 refine ZD (n:=9) Tryz.func170 rfl rfl (nbl rfl) rfl ?_
 intro a hE
 have hM:=M.start w0
 unfold ZZ at hF
 refine Zc (Ze hE Za ld rfl fun a hE=>Zf (Zc (Zd hE Za ld rfl fun a hE=>Zd hE Za ld rfl ?_))); intro a hE
 obtain ⟨r1,e2,hF⟩:=bind_some hF
 refine Zt hE Za ld rfl cb202 (UB _ p0 v0_1 (hM.rdo hv0_1) p1 k1 q1 hcb1 (fun w2 hk2=>hg1 w2 (hM.kept.trans hk2)) r1 e2) ?_
 rintro v w a ⟨rfl,hK⟩ hE
 have hM:=hM.keep hK
 refine Zi hE Za ld rfl rfl rfl fun a hE=>Ze hE Za ld rfl fun a hE=>Zf ?_
 have hr:=Option.some.inj hF
 subst hr
 exact wp_ret (Zy hE rfl (Zu hE rfl) ⟨_,rfl,rfl,hM.kept⟩)
def Tz (p0 : Int) : Option (Bool) :=
 (Y8 p0 0 1000000).bind fun r1=>some r1
theorem HW (w0 : World) (p0 : Int) (r : Bool) (hF : Tz p0 = some r) :
  Calls Tryz.prog 203 [vI p0].toArray w0 (fun en w'=>∃ v,en = .returned v ∧ (v = (vT r) ∧ Kept (Old w0) w0 w')):=by
 refine ZD (n:=5) Tryz.func203 rfl rfl (nbl rfl) rfl ?_
 intro a hE
 have hM:=M.start w0
 unfold Tz at hF
 refine Zc (Ze hE Za ld rfl fun a hE=>Zf (Zc (Zd hE Za ld rfl ?_))); intro a hE
 obtain ⟨r1,e2,hF⟩:=bind_some hF
 refine Zt hE Za ld rfl KU (Xa _ p0 0 1000000 r1 e2) ?_
 rintro v w a ⟨rfl,hK⟩ hE
 have hM:=hM.keep hK
 refine Ze hE Za ld rfl fun a hE=>Zf ?_
 have hr:=Option.some.inj hF
 subst hr
 exact wp_ret (Zy hE rfl (Zu hE rfl) ⟨_,rfl,rfl,hM.kept⟩)
def UK (p0 : GEvent) : Option (Bool) :=
 ((Y8 p0.Kind 1 4).bind fun r6=>if r6 = true then ((Tz p0.Number).bind fun r9=>some r9) else (some false) : Option (Bool)).bind fun j3=>some j3
theorem BQ (w0 : World) (p0 : GEvent) (r : Bool) (hF : UK p0 = some r) :
  Calls Tryz.prog 172 [(Value.agg (enc p0).toArray)].toArray w0 (fun en w'=>∃ v,en = .returned v ∧ (v = (vT r) ∧ Kept (Old w0) w0 w')):=by
 refine ZD (n:=11) Tryz.func172 rfl rfl (nbl rfl) rfl ?_
 intro a hE
 have hM:=M.start w0
 unfold UK at hF
 refine Zc (ZY (cs:=cat [[vI p0.Kind],[vI p0.Number],enc p0.Tag]) hE hM Za ld rfl rfl fun b1 w a hM hE=>Ze hE Za ld rfl fun a hE=>Zf ?_)
 obtain ⟨j3,hl4,hF5⟩:=bind_some hF
 refine ZS (fun a w=>Env 11 a [(2,vT j3)] ∧ M (Old w0) w0 w []) ?_ ?_
 ·skip
  refine wp_region_lit (Zg hE Za ld rfl (Qf) fun a hE=>Zp (v:=(vI p0.Kind)) hE Za ld rfl ty2 rfl (At.cat (pre:=[]) (hM.rawAt (pre:=[])) cl0) ?_); intro a hE
  obtain ⟨r6,e7,hl4⟩:=bind_some hl4
  refine Zt hE Za ld rfl KU (Xa _ p0.Kind 1 4 r6 e7) ?_
  rintro v w a ⟨rfl,hK⟩ hE
  have hM:=hM.keep hK
  refine Zd hE Za ld rfl ?_; intro a hE
  refine XL r6 (fun hb8=>?_) (fun hb8=>?_)
  ·have hl4:=ZA hl4 hb8
   refine Zg hE (Zw hE rfl (lkb rfl hb8)) (by decide) rfl (Qe) fun a hE=>Zp (v:=(vI p0.Number)) hE (Zw hE rfl (lkb rfl hb8)) (by decide) rfl ty2 rfl (At.cat (pre:=[[vI p0.Kind]]) (hM.rawAt (pre:=[])) (cl1 (n:=1) (m:=0) rfl cl0)) ?_; intro a hE
   obtain ⟨r9,e10,hl4⟩:=bind_some hl4
   refine Zt hE (Zw hE rfl (lkb rfl hb8)) (by decide) rfl cb203 (HW _ p0.Number r9 e10) ?_
   rintro v w a ⟨rfl,hK⟩ hE
   have hM:=hM.keep hK
   refine Z4 hE Za ld (lkb rfl hb8) rfl fun a hE=>Ze hE Za ld rfl fun a hE=>Zj ?_
   have ht11:=Option.some.inj hl4
   subst ht11
   refine Zn ?_
   have hM:=M.fst (l:=[]) hM
   exact ⟨hE.sub ⟨rfl,trivial⟩,hM⟩
  ·have hl4:=ZB hl4 hb8
   refine Zv hE rfl (lkb rfl hb8) rfl (by decide) fun a hE=>Zv hE rfl (lkb rfl hb8) rfl (by decide) fun a hE=>Zv hE rfl (lkb rfl hb8) rfl (by decide) fun a hE=>YM hE Za ld (lkb rfl hb8) rfl fun a hE=>Ze hE Za ld rfl fun a hE=>Zj ?_
   have ht12:=Option.some.inj hl4
   subst ht12
   refine Zn ?_
   have hM:=M.fst (l:=[]) hM
   exact ⟨hE.sub ⟨rfl,trivial⟩,hM⟩
 ·skip
  rintro a w ⟨hE,hM⟩
  have hr:=Option.some.inj hF5
  subst hr
  exact wp_ret (Zy hE rfl (Zu hE rfl) ⟨_,rfl,rfl,hM.kept⟩)
def VN (p0 : GEvent) : Option (Bool) :=
 (UK p0).bind fun r3=>some (!r3)
theorem Hw (w0 : World) (p0 : GEvent) (r : Bool) (hF : VN p0 = some r) :
  Calls Tryz.prog 171 [(Value.agg (enc p0).toArray)].toArray w0 (fun en w'=>∃ v,en = .returned v ∧ (v = (vT r) ∧ Kept (Old w0) w0 w')):=by
 refine ZD (n:=6) Tryz.func171 rfl rfl (nbl rfl) rfl ?_
 intro a hE
 have hM:=M.start w0
 unfold VN at hF
 refine Zc (ZY (cs:=cat [[vI p0.Kind],[vI p0.Number],enc p0.Tag]) hE hM Za ld rfl rfl fun b1 w a hM hE=>Ze hE Za ld rfl fun a hE=>Zf (Zc (Zm (cs:=enc p0) hE Za ld rfl Y9 rfl (hM.rawAt (pre:=[])) (Zh (cl1 (n:=1) (m:=33) rfl (cl1 (n:=1) (m:=32) rfl (cl1 (n:=32) (m:=0) (Flat.len _) cl0)))) ?_))); intro a hE
 obtain ⟨r3,e4,hF⟩:=bind_some hF
 refine Zt hE Za ld rfl cb172 (BQ _ p0 r3 e4) ?_
 rintro v w a ⟨rfl,hK⟩ hE
 have hM:=hM.keep hK
 refine WJ hE Za ld rfl fun a hE=>Ze hE Za ld rfl fun a hE=>Zf ?_
 have hr:=Option.some.inj hF
 subst hr
 have hM:=M.fst (l:=[]) hM
 exact wp_ret (Zy hE rfl (Zu hE rfl) ⟨_,rfl,rfl,hM.kept⟩)
def Vd (p0 : GVault) (s24 : Int) : Option (Fl Int (Fl Unit Bool)) :=
 if (decide (s24 < (p0.Records.length : Int))) = true then ((idx p0.Records s24).bind fun x29=>((Y8 x29.Number 1 (wr (p0.Next - 1))).bind fun r45=>if (!r45) = true then (some true) else (if (decide (s24 > 0)) = true then ((idx p0.Records (wr (s24 - 1))).bind fun x50=>some (decide (x50.Number ≥ x29.Number))) else (some false)) : Option (Bool)).bind fun j41=>if j41 = true then (some (Fl.ex (Fl.ex false))) else (((Yg p0.Keys).bind fun r68=>(Y8 x29.Version 0 (wr (r68 - 1))).bind fun r70=>if (!r70) = true then (some true) else (if (decide ((x29.Label.length : Int) > 32)) = true then (some true) else (some (decide ((x29.Body.length : Int) > 200)))) : Option (Bool)).bind fun j64=>if j64 = true then (some (Fl.ex (Fl.ex false))) else (some (Fl.nx (wr (s24 + 1)))))) else (some (Fl.ex (Fl.nx ())))
def UV (p0 : GVault) : Option (Bool) :=
 ((Yg p0.Keys).bind fun r6=>(Y8 r6 1 8).bind fun r8=>if (!r8) = true then (some true) else ((Y8 p0.Next 1 1000000).bind fun r12=>if (!r12) = true then (some true) else (if (decide ((p0.Records.length : Int) > 12)) = true then (some true) else (some (decide ((p0.Events.length : Int) > 60))))) : Option (Bool)).bind fun j3=>if j3 = true then (some false) else ((ZG (Vd p0) 0).bind fun j20=>j20.el (fun s23=>(ZZ p0.Events (fun z0=>VN z0)).bind fun r80=>some (!r80)) (fun r=>some r))
theorem Bu (w0 : World) (p0 : GVault) (v0_1 : Value) (hv0_1 : Ro w0 p0.Keys [v0_1]) (v0_2 : Value) (hv0_2 : Ro w0 p0.Records [v0_2]) (v0_3 : Value) (hv0_3 : Ro w0 p0.Events [v0_3]) (r : Bool) (hF : UV p0 = some r) :
  Calls Tryz.prog 108 [(Value.agg (cat [[v0_1],[vI p0.Next],[v0_2],[v0_3],enc p0.Head]).toArray)].toArray w0 (fun en w'=>∃ v,en = .returned v ∧ (v = (vT r) ∧ Kept (Old w0) w0 w')):=by
 refine ZD (n:=84) Tryz.func108 rfl rfl (nbl rfl) rfl ?_
 intro a hE
 have hM:=M.start w0
 unfold UV at hF
 refine Zc (ZY (cs:=cat [[v0_1],[vI p0.Next],[v0_2],[v0_3],enc p0.Head]) hE hM Za ld rfl rfl fun b1 w a hM hE=>Ze hE Za ld rfl fun a hE=>Zf (wp_seq ?_))
 obtain ⟨j3,hl4,hF5⟩:=bind_some hF
 refine ZS (fun a w=>Env 84 a [(1,(ptr b1 0)),(27,vT j3)] ∧ M (Old w0) w0 w [raw b1 (cat [[v0_1],[vI p0.Next],[v0_2],[v0_3],enc p0.Head])]) ?_ ?_
 ·skip
  refine wp_region_lit (Zg hE Za ld rfl (Wl) fun a hE=>Zp (v:=v0_1) hE Za ld rfl T1 rfl (At.cat (pre:=[]) (hM.rawAt (pre:=[])) cl0) ?_); intro a hE
  obtain ⟨r6,e7,hl4⟩:=bind_some hl4
  refine Zt hE Za ld rfl zY (Y7 _ p0.Keys v0_1 (hM.rdo hv0_1) r6 e7) ?_
  rintro v w a ⟨rfl,hK⟩ hE
  have hM:=hM.keep hK
  obtain ⟨r8,e9,hl4⟩:=bind_some hl4
  refine Zt hE Za ld rfl KU (Xa _ r6 1 8 r8 e9) ?_
  rintro v w a ⟨rfl,hK⟩ hE
  have hM:=hM.keep hK
  refine WJ hE Za ld rfl fun a hE=>Zd hE Za ld rfl ?_; intro a hE
  refine XL (!r8) (fun hb10=>?_) (fun hb10=>?_)
  ·have hl4:=ZA hl4 hb10
   refine Zv hE rfl (lkb rfl hb10) rfl (by decide) fun a hE=>Zv hE rfl (lkb rfl hb10) rfl (by decide) fun a hE=>Zv hE rfl (lkb rfl hb10) rfl (by decide) fun a hE=>Zv hE rfl (lkb rfl hb10) rfl (by decide) fun a hE=>Z4 hE Za ld (lkb rfl hb10) rfl fun a hE=>Zd hE Za ld rfl fun a hE=>Zv hE rfl rfl rfl (by decide) fun a hE=>Zv hE rfl rfl rfl (by decide) fun a hE=>Zv hE rfl rfl rfl (by decide) fun a hE=>Zv hE rfl rfl rfl (by decide) fun a hE=>Z4 hE Za ld rfl rfl fun a hE=>Zd hE Za ld rfl ?_; intro a hE
   refine Zv hE rfl rfl rfl (by decide) fun a hE=>Zv hE rfl rfl rfl (by decide) fun a hE=>Zv hE rfl rfl rfl (by decide) fun a hE=>Zv hE rfl rfl rfl (by decide) fun a hE=>Z4 hE Za ld rfl rfl fun a hE=>Zj ?_
   have ht11:=Option.some.inj hl4
   subst ht11
   refine Zn ?_
   exact ⟨hE.sub ⟨rfl,rfl,trivial⟩,hM⟩
  ·have hl4:=ZB hl4 hb10
   refine Zg hE (Zw hE rfl (lkb rfl hb10)) (by decide) rfl (Qo) fun a hE=>Zp (v:=(vI p0.Next)) hE (Zw hE rfl (lkb rfl hb10)) (by decide) rfl ty2 rfl (At.cat (pre:=[[v0_1]]) (hM.rawAt (pre:=[])) (cl1 (n:=1) (m:=0) rfl cl0)) ?_; intro a hE
   obtain ⟨r12,e13,hl4⟩:=bind_some hl4
   refine Zt hE (Zw hE rfl (lkb rfl hb10)) (by decide) rfl KU (Xa _ p0.Next 1 1000000 r12 e13) ?_
   rintro v w a ⟨rfl,hK⟩ hE
   have hM:=hM.keep hK
   refine WJ hE (Zw hE rfl (lkb rfl hb10)) (by decide) rfl fun a hE=>YM hE Za ld (lkb rfl hb10) rfl fun a hE=>Zd hE Za ld rfl ?_; intro a hE
   refine XL (!r12) (fun hb14=>?_) (fun hb14=>?_)
   ·have hl4:=ZA hl4 hb14
    refine Zv hE rfl (lkb rfl hb14) rfl (by decide) fun a hE=>Zv hE rfl (lkb rfl hb14) rfl (by decide) fun a hE=>Zv hE rfl (lkb rfl hb14) rfl (by decide) fun a hE=>Zv hE rfl (lkb rfl hb14) rfl (by decide) fun a hE=>Z4 hE Za ld (lkb rfl hb14) rfl fun a hE=>Zd hE Za ld rfl fun a hE=>Zv hE rfl rfl rfl (by decide) fun a hE=>Zv hE rfl rfl rfl (by decide) fun a hE=>Zv hE rfl rfl rfl (by decide) fun a hE=>Zv hE rfl rfl rfl (by decide) fun a hE=>Z4 hE Za ld rfl rfl fun a hE=>Zj ?_
    have ht15:=Option.some.inj hl4
    subst ht15
    refine Zn ?_
    exact ⟨hE.sub ⟨rfl,rfl,trivial⟩,hM⟩
   ·have hl4:=ZB hl4 hb14
    refine Zg hE (Zw hE rfl (lkb rfl hb14)) (by decide) rfl (UC) fun a hE=>Zp (v:=v0_2) hE (Zw hE rfl (lkb rfl hb14)) (by decide) rfl QX rfl (At.cat (pre:=[[v0_1],[vI p0.Next]]) (hM.rawAt (pre:=[])) (cl1 (n:=1) (m:=1) rfl (cl1 (n:=1) (m:=0) rfl cl0))) fun a hE=>Z3 hE (Zw hE rfl (lkb rfl hb14)) (by decide) rfl Tryz.underlying33 (hM.rd hv0_2) fun a hE=>Zi hE (Zw hE rfl (lkb rfl hb14)) (by decide) rfl rfl rfl fun a hE=>YM hE Za ld (lkb rfl hb14) rfl fun a hE=>Zd hE Za ld rfl ?_; intro a hE
    refine XL (decide ((p0.Records.length : Int) > 12)) (fun hb16=>?_) (fun hb16=>?_)
    ·have hl4:=ZA hl4 hb16
     refine Zv hE rfl (lkb rfl hb16) rfl (by decide) fun a hE=>Zv hE rfl (lkb rfl hb16) rfl (by decide) fun a hE=>Zv hE rfl (lkb rfl hb16) rfl (by decide) fun a hE=>Zv hE rfl (lkb rfl hb16) rfl (by decide) fun a hE=>Z4 hE Za ld (lkb rfl hb16) rfl fun a hE=>Zj ?_
     have ht17:=Option.some.inj hl4
     subst ht17
     refine Zn ?_
     exact ⟨hE.sub ⟨rfl,rfl,trivial⟩,hM⟩
    ·have hl4:=ZB hl4 hb16
     refine Zg hE (Zw hE rfl (lkb rfl hb16)) (by decide) rfl (VH) fun a hE=>Zp (v:=v0_3) hE (Zw hE rfl (lkb rfl hb16)) (by decide) rfl QI rfl (At.cat (pre:=[[v0_1],[vI p0.Next],[v0_2]]) (hM.rawAt (pre:=[])) (cl1 (n:=1) (m:=2) rfl (cl1 (n:=1) (m:=1) rfl (cl1 (n:=1) (m:=0) rfl cl0)))) fun a hE=>Z3 hE (Zw hE rfl (lkb rfl hb16)) (by decide) rfl Tryz.underlying34 (hM.rd hv0_3) fun a hE=>Zi hE (Zw hE rfl (lkb rfl hb16)) (by decide) rfl rfl rfl fun a hE=>YM hE Za ld (lkb rfl hb16) rfl fun a hE=>Zj ?_
     have ht18:=Option.some.inj hl4
     subst ht18
     refine Zn ?_
     exact ⟨hE.sub ⟨rfl,rfl,trivial⟩,hM⟩
 ·skip
  rintro a w ⟨hE,hM⟩
  refine Zs hE rfl ?_ ?_
  ·intro hb19
   have hF5:=ZA hF5 hb19
   refine Zc (Ze hE Za ld rfl fun a hE=>Zf ?_)
   have hr:=Option.some.inj hF5
   subst hr
   have hM:=M.fst (l:=[]) hM
   exact wp_ret (Zx (Zy hE rfl (Zu hE rfl) ⟨_,rfl,rfl,hM.kept⟩))
  ·intro hb19
   have hF5:=ZB hF5 hb19
   refine wp_skip (Zz (wp_seq (Zc (Zg hE Za ld rfl (UC) fun a hE=>Zp (v:=v0_2) hE Za ld rfl QX rfl (At.cat (pre:=[[v0_1],[vI p0.Next]]) (hM.rawAt (pre:=[])) (cl1 (n:=1) (m:=1) rfl (cl1 (n:=1) (m:=0) rfl cl0))) fun a hE=>Z3 hE Za ld rfl Tryz.underlying33 (hM.rd hv0_2) fun a hE=>Zd hE Za ld rfl fun a hE=>Zf ?_))))
   obtain ⟨j20,hl21,hF22⟩:=bind_some hF5
   refine ZP (fun a w=>∃ s23 : Unit,j20 = Fl.nx s23 ∧ Env 84 a [(1,(ptr b1 0))] ∧ M (Old w0) w0 w [raw b1 (cat [[v0_1],[vI p0.Next],[v0_2],[v0_3],enc p0.Head])]) ?_ ?_
   ·skip
    refine wp_block ?_
    refine ZI (fun (s24 : Int) a w=>Env 84 a [(1,(ptr b1 0)),(29,v0_2),(30,(vI (p0.Records.length : Int))),(31,vI s24)] ∧ M (Old w0) w0 w [raw b1 (cat [[v0_1],[vI p0.Next],[v0_2],[v0_3],enc p0.Head])]) hl21 ⟨hE.sub ⟨rfl,rfl,rfl,rfl,trivial⟩,hM⟩ ?_
    rintro s24 a w ⟨hE,hM⟩ o27 hs25 hx26
    unfold Vd at hs25
    refine Zc (Zi hE Za ld rfl rfl rfl fun a hE=>Zf (wp_seq ?_))
    refine Zs hE rfl ?_ ?_
    ·intro hb28
     have hs25:=ZA hs25 hb28
     refine wp_skip (Zz (wp_seq (wp_block (Zc (Zd hE Za ld rfl ?_))))); intro a hE
     obtain ⟨x29,hi31,hs25⟩:=bix hs25
     refine ZL hE Za ld rfl rfl Tryz.underlying33 XZ (hM.rd hv0_2) hi31.1 ?_; intro a hE
     obtain ⟨cs32,hs33,hA34⟩:=Vj hv0_2 hi31.2 -- ^
     obtain ⟨u35,u37,rfl,h36,h38⟩:=Xe hs33 -- ^
     refine Zm (cs:=cat [[vI x29.Number],[vI x29.Version],enc x29.Nonce,[u35],[u37],enc x29.Tag]) hE Za ld rfl XZ rfl (hM.atk hA34 (UZ hv0_2 hi31.2)) (Zh (cl1 (n:=1) (m:=51) rfl (cl1 (n:=1) (m:=50) rfl (cl1 (n:=16) (m:=34) (Flat.len _) (cl1 (n:=1) (m:=33) rfl (cl1 (n:=1) (m:=32) rfl (cl1 (n:=32) (m:=0) (Flat.len _) cl0))))))) fun a hE=>ZE hE hM Za ld XZ fun b39 w a hM hE=>Ze hE Za ld rfl fun a hE=>Zo (seg:=cat [[vI x29.Number],[vI x29.Version],enc x29.Nonce,[u35],[u37],enc x29.Tag]) (cs':=cat [[vI x29.Number],[vI x29.Version],enc x29.Nonce,[u35],[u37],enc x29.Tag]) hE hM Za rfl rfl rfl XZ (Zh (cl1 (n:=1) (m:=51) rfl (cl1 (n:=1) (m:=50) rfl (cl1 (n:=16) (m:=34) (Flat.len _) (cl1 (n:=1) (m:=33) rfl (cl1 (n:=1) (m:=32) rfl (cl1 (n:=32) (m:=0) (Flat.len _) cl0))))))) (Nat.le_of_eq ((Nat.zero_add _).trans (Eq.trans (Zh (cl1 (n:=1) (m:=51) rfl (cl1 (n:=1) (m:=50) rfl (cl1 (n:=16) (m:=34) (Flat.len _) (cl1 (n:=1) (m:=33) rfl (cl1 (n:=1) (m:=32) rfl (cl1 (n:=32) (m:=0) (Flat.len _) cl0))))))) (Eq.symm (Zh (cl1 (n:=1) (m:=51) rfl (cl1 (n:=1) (m:=50) rfl (cl1 (n:=16) (m:=34) (Flat.len _) (cl1 (n:=1) (m:=33) rfl (cl1 (n:=1) (m:=32) rfl (cl1 (n:=32) (m:=0) (Flat.len _) cl0))))))))))) (Z5 (cc1 (Flat.cell (x29.Number : Int)) (cc1 (Flat.cell (x29.Version : Int)) (cc1 (Flat.cell _) (cc1 (Rep.cell (hM.rd h36)) (cc1 (Rep.cell (hM.rd h38)) (cc1 (Flat.cell _) cc0))))))) (Zl (Eq.trans (Zh (cl1 (n:=1) (m:=51) rfl (cl1 (n:=1) (m:=50) rfl (cl1 (n:=16) (m:=34) (Flat.len _) (cl1 (n:=1) (m:=33) rfl (cl1 (n:=1) (m:=32) rfl (cl1 (n:=32) (m:=0) (Flat.len _) cl0))))))) (Eq.symm (Zh (cl1 (n:=1) (m:=51) rfl (cl1 (n:=1) (m:=50) rfl (cl1 (n:=16) (m:=34) (Flat.len _) (cl1 (n:=1) (m:=33) rfl (cl1 (n:=1) (m:=32) rfl (cl1 (n:=32) (m:=0) (Flat.len _) cl0)))))))))) fun w a hM hE=>Zf (wp_seq ?_)
     obtain ⟨j41,hl42,hF43⟩:=bind_some hs25
     refine ZS (fun a w=>Env 84 a [(1,(ptr b1 0)),(4,(ptr b39 0)),(29,v0_2),(30,(vI (p0.Records.length : Int))),(31,vI s24),(58,vT j41)] ∧ M (Old w0) w0 w [raw b39 (cat [[vI x29.Number],[vI x29.Version],enc x29.Nonce,[u35],[u37],enc x29.Tag]),raw b1 (cat [[v0_1],[vI p0.Next],[v0_2],[v0_3],enc p0.Head])]) ?_ ?_
     ·skip
      obtain ⟨r45,e46,hl42⟩:=bind_some hl42
      refine XL (!r45) (fun hb47=>?_) (fun hb47=>?_)
      ·have hl42:=ZA hl42 hb47
       refine YC (n:=84) (hd:=[_,_,_,_,_,_,_,_,_,_,_,_,_,_,_,_,_,_,_,_,_,_,_]) (tl:=[]) Y0 rfl rfl [36,37,38,39,40,41,42,43,44,45,46,47,48,49,50,51,52,53,54,55,56,57,58] (by decide) (fun w=>M (Old w0) w0 w [raw b39 (cat [[vI x29.Number],[vI x29.Version],enc x29.Nonce,[u35],[u37],enc x29.Tag]),raw b1 (cat [[v0_1],[vI p0.Next],[v0_2],[v0_3],enc p0.Head])]) (fun j=>([fun v _=>v = (ptr b39 (0 + 0)),fun v _=>v = (vI x29.Number),fun v _=>v = (ptr b1 (0 + 1)),fun v _=>v = (vI p0.Next),fun v _=>v = (vI (wr (p0.Next - 1))),fun v _=>v = (vT r45),fun v _=>v = (vT (!r45)),fun v _=>v = (vT (!r45)),fun v _=>v = undef,fun v _=>v = undef,fun v _=>v = undef,fun v _=>v = undef,fun v _=>v = undef,fun v _=>v = undef,fun v _=>v = undef,fun v _=>v = undef,fun v _=>v = undef,fun v _=>v = undef,fun v _=>v = undef,fun v _=>v = undef,fun v _=>v = undef,fun v _=>v = undef,fun v _=>v = (vT true)] : List (Value → World → Prop)).getD j (fun _ _=>True)) (fun _ _ h hk=>h.keep hk) (gup (Zk (Zk (Zk (Zk (Zk (Zk (Zk (Zk (Zk (Zk (Zk (Zk (Zk (Zk (Zk (Zk (Zk (Zk (Zk (Zk (Zk (Zk (Zk V1)))))))))))))))))))))))) hE hM.drew (ZK (Zb ?_ (Zb ?_ (Zb ?_ (Zb ?_ (Zb ?_ (Zb ?_ (Zb ?_ (Zb ?_ (Zb ?_ (Zb ?_ (Zb ?_ (Zb ?_ (Zb ?_ (Zb ?_ (Zb ?_ (Zb ?_ (Zb ?_ (Zb ?_ (Zb ?_ (Zb ?_ (Zb ?_ (Zb ?_ (Zb ?_ ZF)))))))))))))))))))))))) ?_
       ·exact fun a w ux44 hE hM hp=>Zg hE Za ld rfl (TU) fun a hE=>⟨Kept.refl _ _,_,_,rfl,hE,rfl⟩
       ·intro a w ux44 hE hM hp
        have f0 : ux44 0 = (ptr b39 (0 + 0)):=hp 0 _ rfl rfl
        exact Zp (v:=(vI x29.Number)) hE Za ld (lk rfl f0) ty2 rfl (At.cat (pre:=[]) (hM.rawAt (pre:=[])) cl0) fun a hE=>⟨Kept.refl _ _,_,_,rfl,hE,rfl⟩
       ·exact fun a w ux44 hE hM hp=>Zg hE Za ld rfl (Qo) fun a hE=>⟨Kept.refl _ _,_,_,rfl,hE,rfl⟩
       ·intro a w ux44 hE hM hp
        have f2 : ux44 2 = (ptr b1 (0 + 1)):=hp 0 _ rfl rfl
        exact Zp (v:=(vI p0.Next)) hE Za ld (lk rfl f2) ty2 rfl (At.cat (pre:=[[v0_1]]) (hM.rawAt (pre:=[_])) (cl1 (n:=1) (m:=0) rfl cl0)) fun a hE=>⟨Kept.refl _ _,_,_,rfl,hE,rfl⟩
       ·intro a w ux44 hE hM hp
        have f3 : ux44 3 = (vI p0.Next):=hp 0 _ rfl rfl
        exact Zi hE Za ld (lk rfl f3) rfl rfl fun a hE=>⟨Kept.refl _ _,_,_,rfl,hE,rfl⟩
       ·intro a w ux44 hE hM hp
        have f1 : ux44 1 = (vI x29.Number):=hp 0 _ rfl rfl
        have f4 : ux44 4 = (vI (wr (p0.Next - 1))):=hp 1 _ rfl rfl
        refine Zt hE Za ld (ZV (ZT (lk rfl f1) (ZT rfl (ZT (lk rfl f4) YZ)))) KU (Xa _ x29.Number 1 (wr (p0.Next - 1)) r45 e46) ?_
        rintro v w a ⟨rfl,hK⟩ hE
        exact ⟨hK,_,_,rfl,hE,rfl⟩
       ·intro a w ux44 hE hM hp
        have f5 : ux44 5 = (vT r45):=hp 0 _ rfl rfl
        exact WJ hE Za ld (lk rfl f5) fun a hE=>⟨Kept.refl _ _,_,_,rfl,hE,rfl⟩
       ·intro a w ux44 hE hM hp
        have f6 : ux44 6 = (vT (!r45)):=hp 0 _ rfl rfl
        exact Zd hE Za ld (lk rfl f6) fun a hE=>⟨Kept.refl _ _,_,_,rfl,hE,rfl⟩
       ·intro a w ux44 hE hM hp
        have f7 : ux44 7 = (vT (!r45)):=hp 0 _ rfl rfl
        exact Zv hE rfl (lkb (lk rfl f7) hb47) rfl (by decide) fun a hE=>⟨Kept.refl _ _,_,_,rfl,hE,rfl⟩
       ·intro a w ux44 hE hM hp
        have f7 : ux44 7 = (vT (!r45)):=hp 1 _ rfl rfl
        have f8 : ux44 8 = undef:=hp 0 _ rfl rfl
        exact Zv hE rfl (lkb (lk rfl f7) hb47) rfl (by decide) fun a hE=>⟨Kept.refl _ _,_,_,rfl,hE,rfl⟩
       ·intro a w ux44 hE hM hp
        have f7 : ux44 7 = (vT (!r45)):=hp 1 _ rfl rfl
        have f9 : ux44 9 = undef:=hp 0 _ rfl rfl
        exact Zv hE rfl (lkb (lk rfl f7) hb47) rfl (by decide) fun a hE=>⟨Kept.refl _ _,_,_,rfl,hE,rfl⟩
       ·intro a w ux44 hE hM hp
        have f10 : ux44 10 = undef:=hp 0 _ rfl rfl
        exact TY hE rfl (lk rfl f10) (by decide) fun a hE=>⟨Kept.refl _ _,_,_,rfl,hE,rfl⟩
       ·intro a w ux44 hE hM hp
        have f10 : ux44 10 = undef:=hp 1 _ rfl rfl
        have f11 : ux44 11 = undef:=hp 0 _ rfl rfl
        exact TY hE rfl (lk rfl f10) (by decide) fun a hE=>⟨Kept.refl _ _,_,_,rfl,hE,rfl⟩
       ·intro a w ux44 hE hM hp
        have f10 : ux44 10 = undef:=hp 0 _ rfl rfl
        exact TY hE rfl (lk rfl f10) (by decide) fun a hE=>⟨Kept.refl _ _,_,_,rfl,hE,rfl⟩
       ·intro a w ux44 hE hM hp
        have f10 : ux44 10 = undef:=hp 1 _ rfl rfl
        have f13 : ux44 13 = undef:=hp 0 _ rfl rfl
        exact TY hE rfl (lk rfl f10) (by decide) fun a hE=>⟨Kept.refl _ _,_,_,rfl,hE,rfl⟩
       ·intro a w ux44 hE hM hp
        have f10 : ux44 10 = undef:=hp 2 _ rfl rfl
        have f12 : ux44 12 = undef:=hp 0 _ rfl rfl
        have f14 : ux44 14 = undef:=hp 1 _ rfl rfl
        exact TY hE rfl (lk rfl f10) (by decide) fun a hE=>⟨Kept.refl _ _,_,_,rfl,hE,rfl⟩
       ·intro a w ux44 hE hM hp
        have f10 : ux44 10 = undef:=hp 1 _ rfl rfl
        have f15 : ux44 15 = undef:=hp 0 _ rfl rfl
        exact TY hE rfl (lk rfl f10) (by decide) fun a hE=>⟨Kept.refl _ _,_,_,rfl,hE,rfl⟩
       ·intro a w ux44 hE hM hp
        have f10 : ux44 10 = undef:=hp 1 _ rfl rfl
        have f16 : ux44 16 = undef:=hp 0 _ rfl rfl
        exact TY hE rfl (lk rfl f10) (by decide) fun a hE=>⟨Kept.refl _ _,_,_,rfl,hE,rfl⟩
       ·intro a w ux44 hE hM hp
        have f10 : ux44 10 = undef:=hp 0 _ rfl rfl
        exact TY hE rfl (lk rfl f10) (by decide) fun a hE=>⟨Kept.refl _ _,_,_,rfl,hE,rfl⟩
       ·intro a w ux44 hE hM hp
        have f10 : ux44 10 = undef:=hp 1 _ rfl rfl
        have f18 : ux44 18 = undef:=hp 0 _ rfl rfl
        exact TY hE rfl (lk rfl f10) (by decide) fun a hE=>⟨Kept.refl _ _,_,_,rfl,hE,rfl⟩
       ·intro a w ux44 hE hM hp
        have f10 : ux44 10 = undef:=hp 2 _ rfl rfl
        have f17 : ux44 17 = undef:=hp 0 _ rfl rfl
        have f19 : ux44 19 = undef:=hp 1 _ rfl rfl
        exact TY hE rfl (lk rfl f10) (by decide) fun a hE=>⟨Kept.refl _ _,_,_,rfl,hE,rfl⟩
       ·intro a w ux44 hE hM hp
        have f7 : ux44 7 = (vT (!r45)):=hp 2 _ rfl rfl
        have f10 : ux44 10 = undef:=hp 0 _ rfl rfl
        have f20 : ux44 20 = undef:=hp 1 _ rfl rfl
        exact Zv hE rfl (lkb (lk rfl f7) hb47) rfl (by decide) fun a hE=>⟨Kept.refl _ _,_,_,rfl,hE,rfl⟩
       ·intro a w ux44 hE hM hp
        have f7 : ux44 7 = (vT (!r45)):=hp 0 _ rfl rfl
        have f21 : ux44 21 = undef:=hp 1 _ rfl rfl
        exact Z4 hE Za ld (lkb (lk rfl f7) hb47) rfl fun a hE=>⟨Kept.refl _ _,_,_,rfl,hE,rfl⟩
       ·intro a w ux44 hE hM hg
        have hE:=hE.sub (e':=[(58,vT true),(1,(ptr b1 0)),(3,vI s24),(4,(ptr b39 0)),(29,v0_2),(30,(vI (p0.Records.length : Int))),(31,vI s24),(32,(vT (decide (s24 < (p0.Records.length : Int))))),(33,vI s24),(34,(ptr (sb v0_2) (so v0_2 + (s24).toNat * 52))),(35,(Value.agg (cat [[vI x29.Number],[vI x29.Version],enc x29.Nonce,[u35],[u37],enc x29.Tag]).toArray))]) ⟨lk rfl (hg 22 (by decide)),rfl,rfl,rfl,rfl,rfl,rfl,rfl,rfl,rfl,rfl,trivial⟩
        refine Zj ?_
        have ht48:=Option.some.inj hl42
        subst ht48
        refine Zn ?_
        exact ⟨hE.sub ⟨rfl,rfl,rfl,rfl,rfl,rfl,trivial⟩,hM⟩
      ·have hl42:=ZB hl42 hb47
       refine XL (decide (s24 > 0)) (fun hb49=>?_) (fun hb49=>?_)
       ·have hl42:=ZA hl42 hb49
        obtain ⟨x50,hi52,hl42⟩:=bix hl42
        obtain ⟨cs53,hs54,hA55⟩:=Vj hv0_2 hi52.2 -- ^
        obtain ⟨u56,u58,rfl,h57,h59⟩:=Xe hs54 -- ^
        refine YC (n:=84) (hd:=[_,_,_,_,_,_,_,_,_,_,_,_,_,_,_,_,_,_,_,_,_,_,_]) (tl:=[]) Y0 rfl rfl [36,37,38,39,40,41,42,43,44,45,46,47,48,49,50,51,52,53,54,55,56,57,58] (by decide) (fun w=>M (Old w0) w0 w [raw b39 (cat [[vI x29.Number],[vI x29.Version],enc x29.Nonce,[u35],[u37],enc x29.Tag]),raw b1 (cat [[v0_1],[vI p0.Next],[v0_2],[v0_3],enc p0.Head])]) (fun j=>([fun v _=>v = (ptr b39 (0 + 0)),fun v _=>v = (vI x29.Number),fun v _=>v = (ptr b1 (0 + 1)),fun v _=>v = (vI p0.Next),fun v _=>v = (vI (wr (p0.Next - 1))),fun v _=>v = (vT r45),fun v _=>v = (vT (!r45)),fun v _=>v = (vT (!r45)),fun v _=>v = (vI s24),fun v _=>v = (vT (decide (s24 > 0))),fun v _=>v = (vT (decide (s24 > 0))),fun v _=>v = (ptr b1 (0 + 2)),fun v _=>v = v0_2,fun v _=>v = (vI s24),fun v _=>v = (vI (wr (s24 - 1))),fun v _=>v = (ptr (sb v0_2) (so v0_2 + ((wr (s24 - 1))).toNat * 52)),fun v _=>v = (ptr (sb v0_2) (so v0_2 + ((wr (s24 - 1))).toNat * 52 + 0)),fun v _=>v = (vI x50.Number),fun v _=>v = (ptr b39 (0 + 0)),fun v _=>v = (vI x29.Number),fun v _=>v = (vT (decide (x50.Number ≥ x29.Number))),fun v _=>v = (vT (decide (x50.Number ≥ x29.Number))),fun v _=>v = (vT (decide (x50.Number ≥ x29.Number)))] : List (Value → World → Prop)).getD j (fun _ _=>True)) (fun _ _ h hk=>h.keep hk) (gup (Zk (Zk (Zk (Zk (Zk (Zk (Zk (Zk (Zk (Zk (Zk (Zk (Zk (Zk (Zk (Zk (Zk (Zk (Zk (Zk (Zk (Zk (Zk V1)))))))))))))))))))))))) hE hM.drew (ZK (Zb ?_ (Zb ?_ (Zb ?_ (Zb ?_ (Zb ?_ (Zb ?_ (Zb ?_ (Zb ?_ (Zb ?_ (Zb ?_ (Zb ?_ (Zb ?_ (Zb ?_ (Zb ?_ (Zb ?_ (Zb ?_ (Zb ?_ (Zb ?_ (Zb ?_ (Zb ?_ (Zb ?_ (Zb ?_ (Zb ?_ ZF)))))))))))))))))))))))) ?_
        ·exact fun a w ux44 hE hM hp=>Zg hE Za ld rfl (TU) fun a hE=>⟨Kept.refl _ _,_,_,rfl,hE,rfl⟩
        ·intro a w ux44 hE hM hp
         have f0 : ux44 0 = (ptr b39 (0 + 0)):=hp 0 _ rfl rfl
         exact Zp (v:=(vI x29.Number)) hE Za ld (lk rfl f0) ty2 rfl (At.cat (pre:=[]) (hM.rawAt (pre:=[])) cl0) fun a hE=>⟨Kept.refl _ _,_,_,rfl,hE,rfl⟩
        ·exact fun a w ux44 hE hM hp=>Zg hE Za ld rfl (Qo) fun a hE=>⟨Kept.refl _ _,_,_,rfl,hE,rfl⟩
        ·intro a w ux44 hE hM hp
         have f2 : ux44 2 = (ptr b1 (0 + 1)):=hp 0 _ rfl rfl
         exact Zp (v:=(vI p0.Next)) hE Za ld (lk rfl f2) ty2 rfl (At.cat (pre:=[[v0_1]]) (hM.rawAt (pre:=[_])) (cl1 (n:=1) (m:=0) rfl cl0)) fun a hE=>⟨Kept.refl _ _,_,_,rfl,hE,rfl⟩
        ·intro a w ux44 hE hM hp
         have f3 : ux44 3 = (vI p0.Next):=hp 0 _ rfl rfl
         exact Zi hE Za ld (lk rfl f3) rfl rfl fun a hE=>⟨Kept.refl _ _,_,_,rfl,hE,rfl⟩
        ·intro a w ux44 hE hM hp
         have f1 : ux44 1 = (vI x29.Number):=hp 0 _ rfl rfl
         have f4 : ux44 4 = (vI (wr (p0.Next - 1))):=hp 1 _ rfl rfl
         refine Zt hE Za ld (ZV (ZT (lk rfl f1) (ZT rfl (ZT (lk rfl f4) YZ)))) KU (Xa _ x29.Number 1 (wr (p0.Next - 1)) r45 e46) ?_
         rintro v w a ⟨rfl,hK⟩ hE
         exact ⟨hK,_,_,rfl,hE,rfl⟩
        ·intro a w ux44 hE hM hp
         have f5 : ux44 5 = (vT r45):=hp 0 _ rfl rfl
         exact WJ hE Za ld (lk rfl f5) fun a hE=>⟨Kept.refl _ _,_,_,rfl,hE,rfl⟩
        ·intro a w ux44 hE hM hp
         have f6 : ux44 6 = (vT (!r45)):=hp 0 _ rfl rfl
         exact Zd hE Za ld (lk rfl f6) fun a hE=>⟨Kept.refl _ _,_,_,rfl,hE,rfl⟩
        ·intro a w ux44 hE hM hp
         have f7 : ux44 7 = (vT (!r45)):=hp 0 _ rfl rfl
         exact Zd hE (Zw hE rfl (lkb (lk rfl f7) hb47)) (by decide) rfl fun a hE=>⟨Kept.refl _ _,_,_,rfl,hE,rfl⟩
        ·intro a w ux44 hE hM hp
         have f7 : ux44 7 = (vT (!r45)):=hp 1 _ rfl rfl
         have f8 : ux44 8 = (vI s24):=hp 0 _ rfl rfl
         exact Zi hE (Zw hE rfl (lkb (lk rfl f7) hb47)) (by decide) (lk rfl f8) rfl rfl fun a hE=>⟨Kept.refl _ _,_,_,rfl,hE,rfl⟩
        ·intro a w ux44 hE hM hp
         have f7 : ux44 7 = (vT (!r45)):=hp 1 _ rfl rfl
         have f9 : ux44 9 = (vT (decide (s24 > 0))):=hp 0 _ rfl rfl
         exact Zd hE (Zw hE rfl (lkb (lk rfl f7) hb47)) (by decide) (lk rfl f9) fun a hE=>⟨Kept.refl _ _,_,_,rfl,hE,rfl⟩
        ·intro a w ux44 hE hM hp
         have f10 : ux44 10 = (vT (decide (s24 > 0))):=hp 0 _ rfl rfl
         exact Zg hE (Zw hE rfl (lkb (lk rfl f10) hb49)) (by decide) rfl (UC) fun a hE=>⟨Kept.refl _ _,_,_,rfl,hE,rfl⟩
        ·intro a w ux44 hE hM hp
         have f10 : ux44 10 = (vT (decide (s24 > 0))):=hp 1 _ rfl rfl
         have f11 : ux44 11 = (ptr b1 (0 + 2)):=hp 0 _ rfl rfl
         exact Zp (v:=v0_2) hE (Zw hE rfl (lkb (lk rfl f10) hb49)) (by decide) (lk rfl f11) QX rfl (At.cat (pre:=[[v0_1],[vI p0.Next]]) (hM.rawAt (pre:=[_])) (cl1 (n:=1) (m:=1) rfl (cl1 (n:=1) (m:=0) rfl cl0))) fun a hE=>⟨Kept.refl _ _,_,_,rfl,hE,rfl⟩
        ·intro a w ux44 hE hM hp
         have f10 : ux44 10 = (vT (decide (s24 > 0))):=hp 0 _ rfl rfl
         exact Zd hE (Zw hE rfl (lkb (lk rfl f10) hb49)) (by decide) rfl fun a hE=>⟨Kept.refl _ _,_,_,rfl,hE,rfl⟩
        ·intro a w ux44 hE hM hp
         have f10 : ux44 10 = (vT (decide (s24 > 0))):=hp 1 _ rfl rfl
         have f13 : ux44 13 = (vI s24):=hp 0 _ rfl rfl
         exact Zi hE (Zw hE rfl (lkb (lk rfl f10) hb49)) (by decide) (lk rfl f13) rfl rfl fun a hE=>⟨Kept.refl _ _,_,_,rfl,hE,rfl⟩
        ·intro a w ux44 hE hM hp
         have f10 : ux44 10 = (vT (decide (s24 > 0))):=hp 2 _ rfl rfl
         have f12 : ux44 12 = v0_2:=hp 0 _ rfl rfl
         have f14 : ux44 14 = (vI (wr (s24 - 1))):=hp 1 _ rfl rfl
         exact ZL hE (Zw hE rfl (lkb (lk rfl f10) hb49)) (by decide) (lk rfl f12) (lk rfl f14) Tryz.underlying33 XZ (hM.rd hv0_2) hi52.1 fun a hE=>⟨Kept.refl _ _,_,_,rfl,hE,rfl⟩
        ·intro a w ux44 hE hM hp
         have f10 : ux44 10 = (vT (decide (s24 > 0))):=hp 1 _ rfl rfl
         have f15 : ux44 15 = (ptr (sb v0_2) (so v0_2 + ((wr (s24 - 1))).toNat * 52)):=hp 0 _ rfl rfl
         exact Zg hE (Zw hE rfl (lkb (lk rfl f10) hb49)) (by decide) (lk rfl f15) (TU) fun a hE=>⟨Kept.refl _ _,_,_,rfl,hE,rfl⟩
        ·intro a w ux44 hE hM hp
         have f10 : ux44 10 = (vT (decide (s24 > 0))):=hp 1 _ rfl rfl
         have f16 : ux44 16 = (ptr (sb v0_2) (so v0_2 + ((wr (s24 - 1))).toNat * 52 + 0)):=hp 0 _ rfl rfl
         exact Zp (v:=(vI x50.Number)) hE (Zw hE rfl (lkb (lk rfl f10) hb49)) (by decide) (lk rfl f16) ty2 rfl (At.cat (pre:=[]) (hM.atk hA55 (UZ hv0_2 hi52.2)) cl0) fun a hE=>⟨Kept.refl _ _,_,_,rfl,hE,rfl⟩
        ·intro a w ux44 hE hM hp
         have f10 : ux44 10 = (vT (decide (s24 > 0))):=hp 0 _ rfl rfl
         exact Zg hE (Zw hE rfl (lkb (lk rfl f10) hb49)) (by decide) rfl (TU) fun a hE=>⟨Kept.refl _ _,_,_,rfl,hE,rfl⟩
        ·intro a w ux44 hE hM hp
         have f10 : ux44 10 = (vT (decide (s24 > 0))):=hp 1 _ rfl rfl
         have f18 : ux44 18 = (ptr b39 (0 + 0)):=hp 0 _ rfl rfl
         exact Zp (v:=(vI x29.Number)) hE (Zw hE rfl (lkb (lk rfl f10) hb49)) (by decide) (lk rfl f18) ty2 rfl (At.cat (pre:=[]) (hM.rawAt (pre:=[])) cl0) fun a hE=>⟨Kept.refl _ _,_,_,rfl,hE,rfl⟩
        ·intro a w ux44 hE hM hp
         have f10 : ux44 10 = (vT (decide (s24 > 0))):=hp 2 _ rfl rfl
         have f17 : ux44 17 = (vI x50.Number):=hp 0 _ rfl rfl
         have f19 : ux44 19 = (vI x29.Number):=hp 1 _ rfl rfl
         exact Zi hE (Zw hE rfl (lkb (lk rfl f10) hb49)) (by decide) (lk rfl f17) (lk rfl f19) rfl fun a hE=>⟨Kept.refl _ _,_,_,rfl,hE,rfl⟩
        ·intro a w ux44 hE hM hp
         have f7 : ux44 7 = (vT (!r45)):=hp 2 _ rfl rfl
         have f10 : ux44 10 = (vT (decide (s24 > 0))):=hp 0 _ rfl rfl
         have f20 : ux44 20 = (vT (decide (x50.Number ≥ x29.Number))):=hp 1 _ rfl rfl
         exact Z4 hE (Zw hE rfl (lkb (lk rfl f7) hb47)) (by decide) (lkb (lk rfl f10) hb49) (lk rfl f20) fun a hE=>⟨Kept.refl _ _,_,_,rfl,hE,rfl⟩
        ·intro a w ux44 hE hM hp
         have f7 : ux44 7 = (vT (!r45)):=hp 0 _ rfl rfl
         have f21 : ux44 21 = (vT (decide (x50.Number ≥ x29.Number))):=hp 1 _ rfl rfl
         exact YM hE Za ld (lkb (lk rfl f7) hb47) (lk rfl f21) fun a hE=>⟨Kept.refl _ _,_,_,rfl,hE,rfl⟩
        ·intro a w ux44 hE hM hg
         have hE:=hE.sub (e':=[(58,(vT (decide (x50.Number ≥ x29.Number)))),(1,(ptr b1 0)),(3,vI s24),(4,(ptr b39 0)),(29,v0_2),(30,(vI (p0.Records.length : Int))),(31,vI s24),(32,(vT (decide (s24 < (p0.Records.length : Int))))),(33,vI s24),(34,(ptr (sb v0_2) (so v0_2 + (s24).toNat * 52))),(35,(Value.agg (cat [[vI x29.Number],[vI x29.Version],enc x29.Nonce,[u35],[u37],enc x29.Tag]).toArray))]) ⟨lk rfl (hg 22 (by decide)),rfl,rfl,rfl,rfl,rfl,rfl,rfl,rfl,rfl,rfl,trivial⟩
         refine Zj ?_
         have ht60:=Option.some.inj hl42
         subst ht60
         refine Zn ?_
         exact ⟨hE.sub ⟨rfl,rfl,rfl,rfl,rfl,rfl,trivial⟩,hM⟩
       ·have hl42:=ZB hl42 hb49
        refine YC (n:=84) (hd:=[_,_,_,_,_,_,_,_,_,_,_,_,_,_,_,_,_,_,_,_,_,_,_]) (tl:=[]) Y0 rfl rfl [36,37,38,39,40,41,42,43,44,45,46,47,48,49,50,51,52,53,54,55,56,57,58] (by decide) (fun w=>M (Old w0) w0 w [raw b39 (cat [[vI x29.Number],[vI x29.Version],enc x29.Nonce,[u35],[u37],enc x29.Tag]),raw b1 (cat [[v0_1],[vI p0.Next],[v0_2],[v0_3],enc p0.Head])]) (fun j=>([fun v _=>v = (ptr b39 (0 + 0)),fun v _=>v = (vI x29.Number),fun v _=>v = (ptr b1 (0 + 1)),fun v _=>v = (vI p0.Next),fun v _=>v = (vI (wr (p0.Next - 1))),fun v _=>v = (vT r45),fun v _=>v = (vT (!r45)),fun v _=>v = (vT (!r45)),fun v _=>v = (vI s24),fun v _=>v = (vT (decide (s24 > 0))),fun v _=>v = (vT (decide (s24 > 0))),fun v _=>v = undef,fun v _=>v = undef,fun v _=>v = undef,fun v _=>v = undef,fun v _=>v = undef,fun v _=>v = undef,fun v _=>v = undef,fun v _=>v = undef,fun v _=>v = undef,fun v _=>v = undef,fun v _=>v = (vT false),fun v _=>v = (vT false)] : List (Value → World → Prop)).getD j (fun _ _=>True)) (fun _ _ h hk=>h.keep hk) (gup (Zk (Zk (Zk (Zk (Zk (Zk (Zk (Zk (Zk (Zk (Zk (Zk (Zk (Zk (Zk (Zk (Zk (Zk (Zk (Zk (Zk (Zk (Zk V1)))))))))))))))))))))))) hE hM.drew (ZK (Zb ?_ (Zb ?_ (Zb ?_ (Zb ?_ (Zb ?_ (Zb ?_ (Zb ?_ (Zb ?_ (Zb ?_ (Zb ?_ (Zb ?_ (Zb ?_ (Zb ?_ (Zb ?_ (Zb ?_ (Zb ?_ (Zb ?_ (Zb ?_ (Zb ?_ (Zb ?_ (Zb ?_ (Zb ?_ (Zb ?_ ZF)))))))))))))))))))))))) ?_
        ·exact fun a w ux44 hE hM hp=>Zg hE Za ld rfl (TU) fun a hE=>⟨Kept.refl _ _,_,_,rfl,hE,rfl⟩
        ·intro a w ux44 hE hM hp
         have f0 : ux44 0 = (ptr b39 (0 + 0)):=hp 0 _ rfl rfl
         exact Zp (v:=(vI x29.Number)) hE Za ld (lk rfl f0) ty2 rfl (At.cat (pre:=[]) (hM.rawAt (pre:=[])) cl0) fun a hE=>⟨Kept.refl _ _,_,_,rfl,hE,rfl⟩
        ·exact fun a w ux44 hE hM hp=>Zg hE Za ld rfl (Qo) fun a hE=>⟨Kept.refl _ _,_,_,rfl,hE,rfl⟩
        ·intro a w ux44 hE hM hp
         have f2 : ux44 2 = (ptr b1 (0 + 1)):=hp 0 _ rfl rfl
         exact Zp (v:=(vI p0.Next)) hE Za ld (lk rfl f2) ty2 rfl (At.cat (pre:=[[v0_1]]) (hM.rawAt (pre:=[_])) (cl1 (n:=1) (m:=0) rfl cl0)) fun a hE=>⟨Kept.refl _ _,_,_,rfl,hE,rfl⟩
        ·intro a w ux44 hE hM hp
         have f3 : ux44 3 = (vI p0.Next):=hp 0 _ rfl rfl
         exact Zi hE Za ld (lk rfl f3) rfl rfl fun a hE=>⟨Kept.refl _ _,_,_,rfl,hE,rfl⟩
        ·intro a w ux44 hE hM hp
         have f1 : ux44 1 = (vI x29.Number):=hp 0 _ rfl rfl
         have f4 : ux44 4 = (vI (wr (p0.Next - 1))):=hp 1 _ rfl rfl
         refine Zt hE Za ld (ZV (ZT (lk rfl f1) (ZT rfl (ZT (lk rfl f4) YZ)))) KU (Xa _ x29.Number 1 (wr (p0.Next - 1)) r45 e46) ?_
         rintro v w a ⟨rfl,hK⟩ hE
         exact ⟨hK,_,_,rfl,hE,rfl⟩
        ·intro a w ux44 hE hM hp
         have f5 : ux44 5 = (vT r45):=hp 0 _ rfl rfl
         exact WJ hE Za ld (lk rfl f5) fun a hE=>⟨Kept.refl _ _,_,_,rfl,hE,rfl⟩
        ·intro a w ux44 hE hM hp
         have f6 : ux44 6 = (vT (!r45)):=hp 0 _ rfl rfl
         exact Zd hE Za ld (lk rfl f6) fun a hE=>⟨Kept.refl _ _,_,_,rfl,hE,rfl⟩
        ·intro a w ux44 hE hM hp
         have f7 : ux44 7 = (vT (!r45)):=hp 0 _ rfl rfl
         exact Zd hE (Zw hE rfl (lkb (lk rfl f7) hb47)) (by decide) rfl fun a hE=>⟨Kept.refl _ _,_,_,rfl,hE,rfl⟩
        ·intro a w ux44 hE hM hp
         have f7 : ux44 7 = (vT (!r45)):=hp 1 _ rfl rfl
         have f8 : ux44 8 = (vI s24):=hp 0 _ rfl rfl
         exact Zi hE (Zw hE rfl (lkb (lk rfl f7) hb47)) (by decide) (lk rfl f8) rfl rfl fun a hE=>⟨Kept.refl _ _,_,_,rfl,hE,rfl⟩
        ·intro a w ux44 hE hM hp
         have f7 : ux44 7 = (vT (!r45)):=hp 1 _ rfl rfl
         have f9 : ux44 9 = (vT (decide (s24 > 0))):=hp 0 _ rfl rfl
         exact Zd hE (Zw hE rfl (lkb (lk rfl f7) hb47)) (by decide) (lk rfl f9) fun a hE=>⟨Kept.refl _ _,_,_,rfl,hE,rfl⟩
        ·intro a w ux44 hE hM hp
         have f10 : ux44 10 = (vT (decide (s24 > 0))):=hp 0 _ rfl rfl
         exact Zv hE rfl (lkb (lk rfl f10) hb49) rfl (by decide) fun a hE=>⟨Kept.refl _ _,_,_,rfl,hE,rfl⟩
        ·intro a w ux44 hE hM hp
         have f10 : ux44 10 = (vT (decide (s24 > 0))):=hp 1 _ rfl rfl
         have f11 : ux44 11 = undef:=hp 0 _ rfl rfl
         exact Zv hE rfl (lkb (lk rfl f10) hb49) rfl (by decide) fun a hE=>⟨Kept.refl _ _,_,_,rfl,hE,rfl⟩
        ·intro a w ux44 hE hM hp
         have f10 : ux44 10 = (vT (decide (s24 > 0))):=hp 0 _ rfl rfl
         exact Zv hE rfl (lkb (lk rfl f10) hb49) rfl (by decide) fun a hE=>⟨Kept.refl _ _,_,_,rfl,hE,rfl⟩
        ·intro a w ux44 hE hM hp
         have f10 : ux44 10 = (vT (decide (s24 > 0))):=hp 1 _ rfl rfl
         have f13 : ux44 13 = undef:=hp 0 _ rfl rfl
         exact Zv hE rfl (lkb (lk rfl f10) hb49) rfl (by decide) fun a hE=>⟨Kept.refl _ _,_,_,rfl,hE,rfl⟩
        ·intro a w ux44 hE hM hp
         have f10 : ux44 10 = (vT (decide (s24 > 0))):=hp 2 _ rfl rfl
         have f12 : ux44 12 = undef:=hp 0 _ rfl rfl
         have f14 : ux44 14 = undef:=hp 1 _ rfl rfl
         exact Zv hE rfl (lkb (lk rfl f10) hb49) rfl (by decide) fun a hE=>⟨Kept.refl _ _,_,_,rfl,hE,rfl⟩
        ·intro a w ux44 hE hM hp
         have f10 : ux44 10 = (vT (decide (s24 > 0))):=hp 1 _ rfl rfl
         have f15 : ux44 15 = undef:=hp 0 _ rfl rfl
         exact Zv hE rfl (lkb (lk rfl f10) hb49) rfl (by decide) fun a hE=>⟨Kept.refl _ _,_,_,rfl,hE,rfl⟩
        ·intro a w ux44 hE hM hp
         have f10 : ux44 10 = (vT (decide (s24 > 0))):=hp 1 _ rfl rfl
         have f16 : ux44 16 = undef:=hp 0 _ rfl rfl
         exact Zv hE rfl (lkb (lk rfl f10) hb49) rfl (by decide) fun a hE=>⟨Kept.refl _ _,_,_,rfl,hE,rfl⟩
        ·intro a w ux44 hE hM hp
         have f10 : ux44 10 = (vT (decide (s24 > 0))):=hp 0 _ rfl rfl
         exact Zv hE rfl (lkb (lk rfl f10) hb49) rfl (by decide) fun a hE=>⟨Kept.refl _ _,_,_,rfl,hE,rfl⟩
        ·intro a w ux44 hE hM hp
         have f10 : ux44 10 = (vT (decide (s24 > 0))):=hp 1 _ rfl rfl
         have f18 : ux44 18 = undef:=hp 0 _ rfl rfl
         exact Zv hE rfl (lkb (lk rfl f10) hb49) rfl (by decide) fun a hE=>⟨Kept.refl _ _,_,_,rfl,hE,rfl⟩
        ·intro a w ux44 hE hM hp
         have f10 : ux44 10 = (vT (decide (s24 > 0))):=hp 2 _ rfl rfl
         have f17 : ux44 17 = undef:=hp 0 _ rfl rfl
         have f19 : ux44 19 = undef:=hp 1 _ rfl rfl
         exact Zv hE rfl (lkb (lk rfl f10) hb49) rfl (by decide) fun a hE=>⟨Kept.refl _ _,_,_,rfl,hE,rfl⟩
        ·intro a w ux44 hE hM hp
         have f7 : ux44 7 = (vT (!r45)):=hp 2 _ rfl rfl
         have f10 : ux44 10 = (vT (decide (s24 > 0))):=hp 0 _ rfl rfl
         have f20 : ux44 20 = undef:=hp 1 _ rfl rfl
         exact YM hE (Zw hE rfl (lkb (lk rfl f7) hb47)) (by decide) (lkb (lk rfl f10) hb49) rfl fun a hE=>⟨Kept.refl _ _,_,_,rfl,hE,rfl⟩
        ·intro a w ux44 hE hM hp
         have f7 : ux44 7 = (vT (!r45)):=hp 0 _ rfl rfl
         have f21 : ux44 21 = (vT false):=hp 1 _ rfl rfl
         exact YM hE Za ld (lkb (lk rfl f7) hb47) (lk rfl f21) fun a hE=>⟨Kept.refl _ _,_,_,rfl,hE,rfl⟩
        ·intro a w ux44 hE hM hg
         have hE:=hE.sub (e':=[(58,vT false),(1,(ptr b1 0)),(3,vI s24),(4,(ptr b39 0)),(29,v0_2),(30,(vI (p0.Records.length : Int))),(31,vI s24),(32,(vT (decide (s24 < (p0.Records.length : Int))))),(33,vI s24),(34,(ptr (sb v0_2) (so v0_2 + (s24).toNat * 52))),(35,(Value.agg (cat [[vI x29.Number],[vI x29.Version],enc x29.Nonce,[u35],[u37],enc x29.Tag]).toArray))]) ⟨lk rfl (hg 22 (by decide)),rfl,rfl,rfl,rfl,rfl,rfl,rfl,rfl,rfl,rfl,trivial⟩
         refine Zj ?_
         have ht61:=Option.some.inj hl42
         subst ht61
         refine Zn ?_
         exact ⟨hE.sub ⟨rfl,rfl,rfl,rfl,rfl,rfl,trivial⟩,hM⟩
     ·skip
      rintro a w ⟨hE,hM⟩
      refine Zs hE rfl ?_ ?_
      ·intro hb62
       have hF43:=ZA hF43 hb62
       refine Zc (Ze hE Za ld rfl fun a hE=>Zf ?_)
       have ht63:=hx26 _ (ois hF43)
       subst ht63
       have hr:=Option.some.inj hF22
       subst hr
       have hM:=M.fst (l:=[]) hM
       exact wp_ret (Zx (Yj (Zx (Zx (Yj (Zx (Zx (Zy hE rfl (Zu hE rfl) ⟨_,rfl,rfl,hM.kept⟩))))))))
      ·intro hb62
       have hF43:=ZB hF43 hb62
       refine wp_skip (Zz ?_)
       obtain ⟨j64,hl65,hF66⟩:=bind_some hF43
       refine ZS (fun a w=>Env 84 a [(1,(ptr b1 0)),(29,v0_2),(30,(vI (p0.Records.length : Int))),(31,vI s24),(78,vT j64)] ∧ M (Old w0) w0 w [raw b1 (cat [[v0_1],[vI p0.Next],[v0_2],[v0_3],enc p0.Head])]) ?_ ?_
       ·skip
        obtain ⟨r68,e69,hl65⟩:=bind_some hl65
        obtain ⟨r70,e71,hl65⟩:=bind_some hl65
        refine XL (!r70) (fun hb72=>?_) (fun hb72=>?_)
        ·have hl65:=ZA hl65 hb72
         refine YC (n:=84) (hd:=[_,_,_,_,_,_,_,_,_,_,_,_,_,_,_,_,_,_,_,_]) (tl:=[]) Y0 rfl rfl [59,60,61,62,63,64,65,66,67,68,69,70,71,72,73,74,75,76,77,78] (by decide) (fun w=>M (Old w0) w0 w [raw b39 (cat [[vI x29.Number],[vI x29.Version],enc x29.Nonce,[u35],[u37],enc x29.Tag]),raw b1 (cat [[v0_1],[vI p0.Next],[v0_2],[v0_3],enc p0.Head])]) (fun j=>([fun v _=>v = (ptr b39 (0 + 1)),fun v _=>v = (vI x29.Version),fun v _=>v = (ptr b1 (0 + 0)),fun v _=>v = v0_1,fun v _=>v = (vI r68),fun v _=>v = (vI (wr (r68 - 1))),fun v _=>v = (vT r70),fun v _=>v = (vT (!r70)),fun v _=>v = (vT (!r70)),fun v _=>v = undef,fun v _=>v = undef,fun v _=>v = undef,fun v _=>v = undef,fun v _=>v = (vT true),fun v _=>v = (vT true),fun v _=>v = undef,fun v _=>v = undef,fun v _=>v = undef,fun v _=>v = undef,fun v _=>v = (vT true)] : List (Value → World → Prop)).getD j (fun _ _=>True)) (fun _ _ h hk=>h.keep hk) (gup (Zk (Zk (Zk (Zk (Zk (Zk (Zk (Zk (Zk (Zk (Zk (Zk (Zk (Zk (Zk (Zk (Zk (Zk (Zk (Zk V1))))))))))))))))))))) hE hM.drew (ZK (Zb ?_ (Zb ?_ (Zb ?_ (Zb ?_ (Zb ?_ (Zb ?_ (Zb ?_ (Zb ?_ (Zb ?_ (Zb ?_ (Zb ?_ (Zb ?_ (Zb ?_ (Zb ?_ (Zb ?_ (Zb ?_ (Zb ?_ (Zb ?_ (Zb ?_ (Zb ?_ ZF))))))))))))))))))))) ?_
         ·exact fun a w ux67 hE hM hp=>Zg hE Za ld rfl (Q5) fun a hE=>⟨Kept.refl _ _,_,_,rfl,hE,rfl⟩
         ·intro a w ux67 hE hM hp
          have f0 : ux67 0 = (ptr b39 (0 + 1)):=hp 0 _ rfl rfl
          exact Zp (v:=(vI x29.Version)) hE Za ld (lk rfl f0) ty2 rfl (At.cat (pre:=[[vI x29.Number]]) (hM.rawAt (pre:=[])) (cl1 (n:=1) (m:=0) rfl cl0)) fun a hE=>⟨Kept.refl _ _,_,_,rfl,hE,rfl⟩
         ·exact fun a w ux67 hE hM hp=>Zg hE Za ld rfl (Wl) fun a hE=>⟨Kept.refl _ _,_,_,rfl,hE,rfl⟩
         ·intro a w ux67 hE hM hp
          have f2 : ux67 2 = (ptr b1 (0 + 0)):=hp 0 _ rfl rfl
          exact Zp (v:=v0_1) hE Za ld (lk rfl f2) T1 rfl (At.cat (pre:=[]) (hM.rawAt (pre:=[_])) cl0) fun a hE=>⟨Kept.refl _ _,_,_,rfl,hE,rfl⟩
         ·intro a w ux67 hE hM hp
          have f3 : ux67 3 = v0_1:=hp 0 _ rfl rfl
          refine Zt hE Za ld (ZV (ZT (lk rfl f3) YZ)) zY (Y7 _ p0.Keys v0_1 (hM.rdo hv0_1) r68 e69) ?_
          rintro v w a ⟨rfl,hK⟩ hE
          exact ⟨hK,_,_,rfl,hE,rfl⟩
         ·intro a w ux67 hE hM hp
          have f4 : ux67 4 = (vI r68):=hp 0 _ rfl rfl
          exact Zi hE Za ld (lk rfl f4) rfl rfl fun a hE=>⟨Kept.refl _ _,_,_,rfl,hE,rfl⟩
         ·intro a w ux67 hE hM hp
          have f1 : ux67 1 = (vI x29.Version):=hp 0 _ rfl rfl
          have f5 : ux67 5 = (vI (wr (r68 - 1))):=hp 1 _ rfl rfl
          refine Zt hE Za ld (ZV (ZT (lk rfl f1) (ZT rfl (ZT (lk rfl f5) YZ)))) KU (Xa _ x29.Version 0 (wr (r68 - 1)) r70 e71) ?_
          rintro v w a ⟨rfl,hK⟩ hE
          exact ⟨hK,_,_,rfl,hE,rfl⟩
         ·intro a w ux67 hE hM hp
          have f6 : ux67 6 = (vT r70):=hp 0 _ rfl rfl
          exact WJ hE Za ld (lk rfl f6) fun a hE=>⟨Kept.refl _ _,_,_,rfl,hE,rfl⟩
         ·intro a w ux67 hE hM hp
          have f7 : ux67 7 = (vT (!r70)):=hp 0 _ rfl rfl
          exact Zd hE Za ld (lk rfl f7) fun a hE=>⟨Kept.refl _ _,_,_,rfl,hE,rfl⟩
         ·intro a w ux67 hE hM hp
          have f8 : ux67 8 = (vT (!r70)):=hp 0 _ rfl rfl
          exact Zv hE rfl (lkb (lk rfl f8) hb72) rfl (by decide) fun a hE=>⟨Kept.refl _ _,_,_,rfl,hE,rfl⟩
         ·intro a w ux67 hE hM hp
          have f8 : ux67 8 = (vT (!r70)):=hp 1 _ rfl rfl
          have f9 : ux67 9 = undef:=hp 0 _ rfl rfl
          exact Zv hE rfl (lkb (lk rfl f8) hb72) rfl (by decide) fun a hE=>⟨Kept.refl _ _,_,_,rfl,hE,rfl⟩
         ·intro a w ux67 hE hM hp
          have f8 : ux67 8 = (vT (!r70)):=hp 1 _ rfl rfl
          have f10 : ux67 10 = undef:=hp 0 _ rfl rfl
          exact Zv hE rfl (lkb (lk rfl f8) hb72) rfl (by decide) fun a hE=>⟨Kept.refl _ _,_,_,rfl,hE,rfl⟩
         ·intro a w ux67 hE hM hp
          have f8 : ux67 8 = (vT (!r70)):=hp 1 _ rfl rfl
          have f11 : ux67 11 = undef:=hp 0 _ rfl rfl
          exact Zv hE rfl (lkb (lk rfl f8) hb72) rfl (by decide) fun a hE=>⟨Kept.refl _ _,_,_,rfl,hE,rfl⟩
         ·intro a w ux67 hE hM hp
          have f8 : ux67 8 = (vT (!r70)):=hp 0 _ rfl rfl
          have f12 : ux67 12 = undef:=hp 1 _ rfl rfl
          exact Z4 hE Za ld (lkb (lk rfl f8) hb72) rfl fun a hE=>⟨Kept.refl _ _,_,_,rfl,hE,rfl⟩
         ·intro a w ux67 hE hM hp
          have f13 : ux67 13 = (vT true):=hp 0 _ rfl rfl
          exact Zd hE Za ld (lk rfl f13) fun a hE=>⟨Kept.refl _ _,_,_,rfl,hE,rfl⟩
         ·intro a w ux67 hE hM hp
          have f14 : ux67 14 = (vT true):=hp 0 _ rfl rfl
          exact Zv hE rfl (lk rfl f14) rfl (by decide) fun a hE=>⟨Kept.refl _ _,_,_,rfl,hE,rfl⟩
         ·intro a w ux67 hE hM hp
          have f14 : ux67 14 = (vT true):=hp 1 _ rfl rfl
          have f15 : ux67 15 = undef:=hp 0 _ rfl rfl
          exact Zv hE rfl (lk rfl f14) rfl (by decide) fun a hE=>⟨Kept.refl _ _,_,_,rfl,hE,rfl⟩
         ·intro a w ux67 hE hM hp
          have f14 : ux67 14 = (vT true):=hp 1 _ rfl rfl
          have f16 : ux67 16 = undef:=hp 0 _ rfl rfl
          exact Zv hE rfl (lk rfl f14) rfl (by decide) fun a hE=>⟨Kept.refl _ _,_,_,rfl,hE,rfl⟩
         ·intro a w ux67 hE hM hp
          have f14 : ux67 14 = (vT true):=hp 1 _ rfl rfl
          have f17 : ux67 17 = undef:=hp 0 _ rfl rfl
          exact Zv hE rfl (lk rfl f14) rfl (by decide) fun a hE=>⟨Kept.refl _ _,_,_,rfl,hE,rfl⟩
         ·intro a w ux67 hE hM hp
          have f14 : ux67 14 = (vT true):=hp 0 _ rfl rfl
          have f18 : ux67 18 = undef:=hp 1 _ rfl rfl
          exact Z4 hE Za ld (lk rfl f14) rfl fun a hE=>⟨Kept.refl _ _,_,_,rfl,hE,rfl⟩
         ·intro a w ux67 hE hM hg
          have hE:=hE.sub (e':=[(78,vT true),(1,(ptr b1 0)),(4,(ptr b39 0)),(29,v0_2),(30,(vI (p0.Records.length : Int))),(31,vI s24),(58,vT j41)]) ⟨lk rfl (hg 19 (by decide)),rfl,rfl,rfl,rfl,rfl,rfl,trivial⟩
          refine Zj ?_
          have ht73:=Option.some.inj hl65
          subst ht73
          refine Zn ?_
          have hM:=M.fst (l:=[_]) (hM.pull (pre:=[_]))
          exact ⟨hE.sub ⟨rfl,rfl,rfl,rfl,rfl,trivial⟩,hM⟩
        ·have hl65:=ZB hl65 hb72
         refine XL (decide ((x29.Label.length : Int) > 32)) (fun hb74=>?_) (fun hb74=>?_)
         ·have hl65:=ZA hl65 hb74
          refine YC (n:=84) (hd:=[_,_,_,_,_,_,_,_,_,_,_,_,_,_,_,_,_,_,_,_]) (tl:=[]) Y0 rfl rfl [59,60,61,62,63,64,65,66,67,68,69,70,71,72,73,74,75,76,77,78] (by decide) (fun w=>M (Old w0) w0 w [raw b39 (cat [[vI x29.Number],[vI x29.Version],enc x29.Nonce,[u35],[u37],enc x29.Tag]),raw b1 (cat [[v0_1],[vI p0.Next],[v0_2],[v0_3],enc p0.Head])]) (fun j=>([fun v _=>v = (ptr b39 (0 + 1)),fun v _=>v = (vI x29.Version),fun v _=>v = (ptr b1 (0 + 0)),fun v _=>v = v0_1,fun v _=>v = (vI r68),fun v _=>v = (vI (wr (r68 - 1))),fun v _=>v = (vT r70),fun v _=>v = (vT (!r70)),fun v _=>v = (vT (!r70)),fun v _=>v = (ptr b39 (0 + 18)),fun v _=>v = u35,fun v _=>v = (vI (x29.Label.length : Int)),fun v _=>v = (vT (decide ((x29.Label.length : Int) > 32))),fun v _=>v = (vT (decide ((x29.Label.length : Int) > 32))),fun v _=>v = (vT (decide ((x29.Label.length : Int) > 32))),fun v _=>v = undef,fun v _=>v = undef,fun v _=>v = undef,fun v _=>v = undef,fun v _=>v = (vT true)] : List (Value → World → Prop)).getD j (fun _ _=>True)) (fun _ _ h hk=>h.keep hk) (gup (Zk (Zk (Zk (Zk (Zk (Zk (Zk (Zk (Zk (Zk (Zk (Zk (Zk (Zk (Zk (Zk (Zk (Zk (Zk (Zk V1))))))))))))))))))))) hE hM.drew (ZK (Zb ?_ (Zb ?_ (Zb ?_ (Zb ?_ (Zb ?_ (Zb ?_ (Zb ?_ (Zb ?_ (Zb ?_ (Zb ?_ (Zb ?_ (Zb ?_ (Zb ?_ (Zb ?_ (Zb ?_ (Zb ?_ (Zb ?_ (Zb ?_ (Zb ?_ (Zb ?_ ZF))))))))))))))))))))) ?_
          ·exact fun a w ux67 hE hM hp=>Zg hE Za ld rfl (Q5) fun a hE=>⟨Kept.refl _ _,_,_,rfl,hE,rfl⟩
          ·intro a w ux67 hE hM hp
           have f0 : ux67 0 = (ptr b39 (0 + 1)):=hp 0 _ rfl rfl
           exact Zp (v:=(vI x29.Version)) hE Za ld (lk rfl f0) ty2 rfl (At.cat (pre:=[[vI x29.Number]]) (hM.rawAt (pre:=[])) (cl1 (n:=1) (m:=0) rfl cl0)) fun a hE=>⟨Kept.refl _ _,_,_,rfl,hE,rfl⟩
          ·exact fun a w ux67 hE hM hp=>Zg hE Za ld rfl (Wl) fun a hE=>⟨Kept.refl _ _,_,_,rfl,hE,rfl⟩
          ·intro a w ux67 hE hM hp
           have f2 : ux67 2 = (ptr b1 (0 + 0)):=hp 0 _ rfl rfl
           exact Zp (v:=v0_1) hE Za ld (lk rfl f2) T1 rfl (At.cat (pre:=[]) (hM.rawAt (pre:=[_])) cl0) fun a hE=>⟨Kept.refl _ _,_,_,rfl,hE,rfl⟩
          ·intro a w ux67 hE hM hp
           have f3 : ux67 3 = v0_1:=hp 0 _ rfl rfl
           refine Zt hE Za ld (ZV (ZT (lk rfl f3) YZ)) zY (Y7 _ p0.Keys v0_1 (hM.rdo hv0_1) r68 e69) ?_
           rintro v w a ⟨rfl,hK⟩ hE
           exact ⟨hK,_,_,rfl,hE,rfl⟩
          ·intro a w ux67 hE hM hp
           have f4 : ux67 4 = (vI r68):=hp 0 _ rfl rfl
           exact Zi hE Za ld (lk rfl f4) rfl rfl fun a hE=>⟨Kept.refl _ _,_,_,rfl,hE,rfl⟩
          ·intro a w ux67 hE hM hp
           have f1 : ux67 1 = (vI x29.Version):=hp 0 _ rfl rfl
           have f5 : ux67 5 = (vI (wr (r68 - 1))):=hp 1 _ rfl rfl
           refine Zt hE Za ld (ZV (ZT (lk rfl f1) (ZT rfl (ZT (lk rfl f5) YZ)))) KU (Xa _ x29.Version 0 (wr (r68 - 1)) r70 e71) ?_
           rintro v w a ⟨rfl,hK⟩ hE
           exact ⟨hK,_,_,rfl,hE,rfl⟩
          ·intro a w ux67 hE hM hp
           have f6 : ux67 6 = (vT r70):=hp 0 _ rfl rfl
           exact WJ hE Za ld (lk rfl f6) fun a hE=>⟨Kept.refl _ _,_,_,rfl,hE,rfl⟩
          ·intro a w ux67 hE hM hp
           have f7 : ux67 7 = (vT (!r70)):=hp 0 _ rfl rfl
           exact Zd hE Za ld (lk rfl f7) fun a hE=>⟨Kept.refl _ _,_,_,rfl,hE,rfl⟩
          ·intro a w ux67 hE hM hp
           have f8 : ux67 8 = (vT (!r70)):=hp 0 _ rfl rfl
           exact Zg hE (Zw hE rfl (lkb (lk rfl f8) hb72)) (by decide) rfl (T9) fun a hE=>⟨Kept.refl _ _,_,_,rfl,hE,rfl⟩
          ·intro a w ux67 hE hM hp
           have f8 : ux67 8 = (vT (!r70)):=hp 1 _ rfl rfl
           have f9 : ux67 9 = (ptr b39 (0 + 18)):=hp 0 _ rfl rfl
           exact Zp (v:=u35) hE (Zw hE rfl (lkb (lk rfl f8) hb72)) (by decide) (lk rfl f9) Uu rfl (At.cat (pre:=[[vI x29.Number],[vI x29.Version],enc x29.Nonce]) (hM.rawAt (pre:=[])) (cl1 (n:=1) (m:=17) rfl (cl1 (n:=1) (m:=16) rfl (cl1 (n:=16) (m:=0) (Flat.len _) cl0)))) fun a hE=>⟨Kept.refl _ _,_,_,rfl,hE,rfl⟩
          ·intro a w ux67 hE hM hp
           have f8 : ux67 8 = (vT (!r70)):=hp 1 _ rfl rfl
           have f10 : ux67 10 = u35:=hp 0 _ rfl rfl
           exact Z3 hE (Zw hE rfl (lkb (lk rfl f8) hb72)) (by decide) (lk rfl f10) Tryz.underlying57 (hM.rd h36) fun a hE=>⟨Kept.refl _ _,_,_,rfl,hE,rfl⟩
          ·intro a w ux67 hE hM hp
           have f8 : ux67 8 = (vT (!r70)):=hp 1 _ rfl rfl
           have f11 : ux67 11 = (vI (x29.Label.length : Int)):=hp 0 _ rfl rfl
           exact Zi hE (Zw hE rfl (lkb (lk rfl f8) hb72)) (by decide) (lk rfl f11) rfl rfl fun a hE=>⟨Kept.refl _ _,_,_,rfl,hE,rfl⟩
          ·intro a w ux67 hE hM hp
           have f8 : ux67 8 = (vT (!r70)):=hp 0 _ rfl rfl
           have f12 : ux67 12 = (vT (decide ((x29.Label.length : Int) > 32))):=hp 1 _ rfl rfl
           exact YM hE Za ld (lkb (lk rfl f8) hb72) (lk rfl f12) fun a hE=>⟨Kept.refl _ _,_,_,rfl,hE,rfl⟩
          ·intro a w ux67 hE hM hp
           have f13 : ux67 13 = (vT (decide ((x29.Label.length : Int) > 32))):=hp 0 _ rfl rfl
           exact Zd hE Za ld (lk rfl f13) fun a hE=>⟨Kept.refl _ _,_,_,rfl,hE,rfl⟩
          ·intro a w ux67 hE hM hp
           have f14 : ux67 14 = (vT (decide ((x29.Label.length : Int) > 32))):=hp 0 _ rfl rfl
           exact Zv hE rfl (lkb (lk rfl f14) hb74) rfl (by decide) fun a hE=>⟨Kept.refl _ _,_,_,rfl,hE,rfl⟩
          ·intro a w ux67 hE hM hp
           have f14 : ux67 14 = (vT (decide ((x29.Label.length : Int) > 32))):=hp 1 _ rfl rfl
           have f15 : ux67 15 = undef:=hp 0 _ rfl rfl
           exact Zv hE rfl (lkb (lk rfl f14) hb74) rfl (by decide) fun a hE=>⟨Kept.refl _ _,_,_,rfl,hE,rfl⟩
          ·intro a w ux67 hE hM hp
           have f14 : ux67 14 = (vT (decide ((x29.Label.length : Int) > 32))):=hp 1 _ rfl rfl
           have f16 : ux67 16 = undef:=hp 0 _ rfl rfl
           exact Zv hE rfl (lkb (lk rfl f14) hb74) rfl (by decide) fun a hE=>⟨Kept.refl _ _,_,_,rfl,hE,rfl⟩
          ·intro a w ux67 hE hM hp
           have f14 : ux67 14 = (vT (decide ((x29.Label.length : Int) > 32))):=hp 1 _ rfl rfl
           have f17 : ux67 17 = undef:=hp 0 _ rfl rfl
           exact Zv hE rfl (lkb (lk rfl f14) hb74) rfl (by decide) fun a hE=>⟨Kept.refl _ _,_,_,rfl,hE,rfl⟩
          ·intro a w ux67 hE hM hp
           have f14 : ux67 14 = (vT (decide ((x29.Label.length : Int) > 32))):=hp 0 _ rfl rfl
           have f18 : ux67 18 = undef:=hp 1 _ rfl rfl
           exact Z4 hE Za ld (lkb (lk rfl f14) hb74) rfl fun a hE=>⟨Kept.refl _ _,_,_,rfl,hE,rfl⟩
          ·intro a w ux67 hE hM hg
           have hE:=hE.sub (e':=[(78,vT true),(1,(ptr b1 0)),(4,(ptr b39 0)),(29,v0_2),(30,(vI (p0.Records.length : Int))),(31,vI s24),(58,vT j41)]) ⟨lk rfl (hg 19 (by decide)),rfl,rfl,rfl,rfl,rfl,rfl,trivial⟩
           refine Zj ?_
           have ht75:=Option.some.inj hl65
           subst ht75
           refine Zn ?_
           have hM:=M.fst (l:=[_]) (hM.pull (pre:=[_]))
           exact ⟨hE.sub ⟨rfl,rfl,rfl,rfl,rfl,trivial⟩,hM⟩
         ·have hl65:=ZB hl65 hb74
          refine YC (n:=84) (hd:=[_,_,_,_,_,_,_,_,_,_,_,_,_,_,_,_,_,_,_,_]) (tl:=[]) Y0 rfl rfl [59,60,61,62,63,64,65,66,67,68,69,70,71,72,73,74,75,76,77,78] (by decide) (fun w=>M (Old w0) w0 w [raw b39 (cat [[vI x29.Number],[vI x29.Version],enc x29.Nonce,[u35],[u37],enc x29.Tag]),raw b1 (cat [[v0_1],[vI p0.Next],[v0_2],[v0_3],enc p0.Head])]) (fun j=>([fun v _=>v = (ptr b39 (0 + 1)),fun v _=>v = (vI x29.Version),fun v _=>v = (ptr b1 (0 + 0)),fun v _=>v = v0_1,fun v _=>v = (vI r68),fun v _=>v = (vI (wr (r68 - 1))),fun v _=>v = (vT r70),fun v _=>v = (vT (!r70)),fun v _=>v = (vT (!r70)),fun v _=>v = (ptr b39 (0 + 18)),fun v _=>v = u35,fun v _=>v = (vI (x29.Label.length : Int)),fun v _=>v = (vT (decide ((x29.Label.length : Int) > 32))),fun v _=>v = (vT (decide ((x29.Label.length : Int) > 32))),fun v _=>v = (vT (decide ((x29.Label.length : Int) > 32))),fun v _=>v = (ptr b39 (0 + 19)),fun v _=>v = u37,fun v _=>v = (vI (x29.Body.length : Int)),fun v _=>v = (vT (decide ((x29.Body.length : Int) > 200))),fun v _=>v = (vT (decide ((x29.Body.length : Int) > 200)))] : List (Value → World → Prop)).getD j (fun _ _=>True)) (fun _ _ h hk=>h.keep hk) (gup (Zk (Zk (Zk (Zk (Zk (Zk (Zk (Zk (Zk (Zk (Zk (Zk (Zk (Zk (Zk (Zk (Zk (Zk (Zk (Zk V1))))))))))))))))))))) hE hM.drew (ZK (Zb ?_ (Zb ?_ (Zb ?_ (Zb ?_ (Zb ?_ (Zb ?_ (Zb ?_ (Zb ?_ (Zb ?_ (Zb ?_ (Zb ?_ (Zb ?_ (Zb ?_ (Zb ?_ (Zb ?_ (Zb ?_ (Zb ?_ (Zb ?_ (Zb ?_ (Zb ?_ ZF))))))))))))))))))))) ?_
          ·exact fun a w ux67 hE hM hp=>Zg hE Za ld rfl (Q5) fun a hE=>⟨Kept.refl _ _,_,_,rfl,hE,rfl⟩
          ·intro a w ux67 hE hM hp
           have f0 : ux67 0 = (ptr b39 (0 + 1)):=hp 0 _ rfl rfl
           exact Zp (v:=(vI x29.Version)) hE Za ld (lk rfl f0) ty2 rfl (At.cat (pre:=[[vI x29.Number]]) (hM.rawAt (pre:=[])) (cl1 (n:=1) (m:=0) rfl cl0)) fun a hE=>⟨Kept.refl _ _,_,_,rfl,hE,rfl⟩
          ·exact fun a w ux67 hE hM hp=>Zg hE Za ld rfl (Wl) fun a hE=>⟨Kept.refl _ _,_,_,rfl,hE,rfl⟩
          ·intro a w ux67 hE hM hp
           have f2 : ux67 2 = (ptr b1 (0 + 0)):=hp 0 _ rfl rfl
           exact Zp (v:=v0_1) hE Za ld (lk rfl f2) T1 rfl (At.cat (pre:=[]) (hM.rawAt (pre:=[_])) cl0) fun a hE=>⟨Kept.refl _ _,_,_,rfl,hE,rfl⟩
          ·intro a w ux67 hE hM hp
           have f3 : ux67 3 = v0_1:=hp 0 _ rfl rfl
           refine Zt hE Za ld (ZV (ZT (lk rfl f3) YZ)) zY (Y7 _ p0.Keys v0_1 (hM.rdo hv0_1) r68 e69) ?_
           rintro v w a ⟨rfl,hK⟩ hE
           exact ⟨hK,_,_,rfl,hE,rfl⟩
          ·intro a w ux67 hE hM hp
           have f4 : ux67 4 = (vI r68):=hp 0 _ rfl rfl
           exact Zi hE Za ld (lk rfl f4) rfl rfl fun a hE=>⟨Kept.refl _ _,_,_,rfl,hE,rfl⟩
          ·intro a w ux67 hE hM hp
           have f1 : ux67 1 = (vI x29.Version):=hp 0 _ rfl rfl
           have f5 : ux67 5 = (vI (wr (r68 - 1))):=hp 1 _ rfl rfl
           refine Zt hE Za ld (ZV (ZT (lk rfl f1) (ZT rfl (ZT (lk rfl f5) YZ)))) KU (Xa _ x29.Version 0 (wr (r68 - 1)) r70 e71) ?_
           rintro v w a ⟨rfl,hK⟩ hE
           exact ⟨hK,_,_,rfl,hE,rfl⟩
          ·intro a w ux67 hE hM hp
           have f6 : ux67 6 = (vT r70):=hp 0 _ rfl rfl
           exact WJ hE Za ld (lk rfl f6) fun a hE=>⟨Kept.refl _ _,_,_,rfl,hE,rfl⟩
          ·intro a w ux67 hE hM hp
           have f7 : ux67 7 = (vT (!r70)):=hp 0 _ rfl rfl
           exact Zd hE Za ld (lk rfl f7) fun a hE=>⟨Kept.refl _ _,_,_,rfl,hE,rfl⟩
          ·intro a w ux67 hE hM hp
           have f8 : ux67 8 = (vT (!r70)):=hp 0 _ rfl rfl
           exact Zg hE (Zw hE rfl (lkb (lk rfl f8) hb72)) (by decide) rfl (T9) fun a hE=>⟨Kept.refl _ _,_,_,rfl,hE,rfl⟩
          ·intro a w ux67 hE hM hp
           have f8 : ux67 8 = (vT (!r70)):=hp 1 _ rfl rfl
           have f9 : ux67 9 = (ptr b39 (0 + 18)):=hp 0 _ rfl rfl
           exact Zp (v:=u35) hE (Zw hE rfl (lkb (lk rfl f8) hb72)) (by decide) (lk rfl f9) Uu rfl (At.cat (pre:=[[vI x29.Number],[vI x29.Version],enc x29.Nonce]) (hM.rawAt (pre:=[])) (cl1 (n:=1) (m:=17) rfl (cl1 (n:=1) (m:=16) rfl (cl1 (n:=16) (m:=0) (Flat.len _) cl0)))) fun a hE=>⟨Kept.refl _ _,_,_,rfl,hE,rfl⟩
          ·intro a w ux67 hE hM hp
           have f8 : ux67 8 = (vT (!r70)):=hp 1 _ rfl rfl
           have f10 : ux67 10 = u35:=hp 0 _ rfl rfl
           exact Z3 hE (Zw hE rfl (lkb (lk rfl f8) hb72)) (by decide) (lk rfl f10) Tryz.underlying57 (hM.rd h36) fun a hE=>⟨Kept.refl _ _,_,_,rfl,hE,rfl⟩
          ·intro a w ux67 hE hM hp
           have f8 : ux67 8 = (vT (!r70)):=hp 1 _ rfl rfl
           have f11 : ux67 11 = (vI (x29.Label.length : Int)):=hp 0 _ rfl rfl
           exact Zi hE (Zw hE rfl (lkb (lk rfl f8) hb72)) (by decide) (lk rfl f11) rfl rfl fun a hE=>⟨Kept.refl _ _,_,_,rfl,hE,rfl⟩
          ·intro a w ux67 hE hM hp
           have f8 : ux67 8 = (vT (!r70)):=hp 0 _ rfl rfl
           have f12 : ux67 12 = (vT (decide ((x29.Label.length : Int) > 32))):=hp 1 _ rfl rfl
           exact YM hE Za ld (lkb (lk rfl f8) hb72) (lk rfl f12) fun a hE=>⟨Kept.refl _ _,_,_,rfl,hE,rfl⟩
          ·intro a w ux67 hE hM hp
           have f13 : ux67 13 = (vT (decide ((x29.Label.length : Int) > 32))):=hp 0 _ rfl rfl
           exact Zd hE Za ld (lk rfl f13) fun a hE=>⟨Kept.refl _ _,_,_,rfl,hE,rfl⟩
          ·intro a w ux67 hE hM hp
           have f14 : ux67 14 = (vT (decide ((x29.Label.length : Int) > 32))):=hp 0 _ rfl rfl
           exact Zg hE (Zw hE rfl (lkb (lk rfl f14) hb74)) (by decide) rfl (Qr) fun a hE=>⟨Kept.refl _ _,_,_,rfl,hE,rfl⟩
          ·intro a w ux67 hE hM hp
           have f14 : ux67 14 = (vT (decide ((x29.Label.length : Int) > 32))):=hp 1 _ rfl rfl
           have f15 : ux67 15 = (ptr b39 (0 + 19)):=hp 0 _ rfl rfl
           exact Zp (v:=u37) hE (Zw hE rfl (lkb (lk rfl f14) hb74)) (by decide) (lk rfl f15) Uu rfl (At.cat (pre:=[[vI x29.Number],[vI x29.Version],enc x29.Nonce,[u35]]) (hM.rawAt (pre:=[])) (cl1 (n:=1) (m:=18) rfl (cl1 (n:=1) (m:=17) rfl (cl1 (n:=16) (m:=1) (Flat.len _) (cl1 (n:=1) (m:=0) rfl cl0))))) fun a hE=>⟨Kept.refl _ _,_,_,rfl,hE,rfl⟩
          ·intro a w ux67 hE hM hp
           have f14 : ux67 14 = (vT (decide ((x29.Label.length : Int) > 32))):=hp 1 _ rfl rfl
           have f16 : ux67 16 = u37:=hp 0 _ rfl rfl
           exact Z3 hE (Zw hE rfl (lkb (lk rfl f14) hb74)) (by decide) (lk rfl f16) Tryz.underlying57 (hM.rd h38) fun a hE=>⟨Kept.refl _ _,_,_,rfl,hE,rfl⟩
          ·intro a w ux67 hE hM hp
           have f14 : ux67 14 = (vT (decide ((x29.Label.length : Int) > 32))):=hp 1 _ rfl rfl
           have f17 : ux67 17 = (vI (x29.Body.length : Int)):=hp 0 _ rfl rfl
           exact Zi hE (Zw hE rfl (lkb (lk rfl f14) hb74)) (by decide) (lk rfl f17) rfl rfl fun a hE=>⟨Kept.refl _ _,_,_,rfl,hE,rfl⟩
          ·intro a w ux67 hE hM hp
           have f14 : ux67 14 = (vT (decide ((x29.Label.length : Int) > 32))):=hp 0 _ rfl rfl
           have f18 : ux67 18 = (vT (decide ((x29.Body.length : Int) > 200))):=hp 1 _ rfl rfl
           exact YM hE Za ld (lkb (lk rfl f14) hb74) (lk rfl f18) fun a hE=>⟨Kept.refl _ _,_,_,rfl,hE,rfl⟩
          ·intro a w ux67 hE hM hg
           have hE:=hE.sub (e':=[(78,(vT (decide ((x29.Body.length : Int) > 200)))),(1,(ptr b1 0)),(4,(ptr b39 0)),(29,v0_2),(30,(vI (p0.Records.length : Int))),(31,vI s24),(58,vT j41)]) ⟨lk rfl (hg 19 (by decide)),rfl,rfl,rfl,rfl,rfl,rfl,trivial⟩
           refine Zj ?_
           have ht76:=Option.some.inj hl65
           subst ht76
           refine Zn ?_
           have hM:=M.fst (l:=[_]) (hM.pull (pre:=[_]))
           exact ⟨hE.sub ⟨rfl,rfl,rfl,rfl,rfl,trivial⟩,hM⟩
       ·skip
        rintro a w ⟨hE,hM⟩
        refine Zs hE rfl ?_ ?_
        ·intro hb77
         have hF66:=ZA hF66 hb77
         refine Zc (Ze hE Za ld rfl fun a hE=>Zf ?_)
         have ht78:=hx26 _ (ois hF66)
         subst ht78
         have hr:=Option.some.inj hF22
         subst hr
         have hM:=M.fst (l:=[]) hM
         exact wp_ret (Yj (Zx (Zx (Yj (Zx (Zx (Zy hE rfl (Zu hE rfl) ⟨_,rfl,rfl,hM.kept⟩)))))))
        ·intro hb77
         have hF66:=ZB hF66 hb77
         refine wp_skip (Yb (Zz (wp_region_lit (Zi hE Za ld rfl rfl rfl fun a hE=>Zd hE Za ld rfl fun a hE=>Zj (Zn ?_)))))
         exact ⟨_,(ois hF66),hE.sub ⟨rfl,rfl,rfl,rfl,trivial⟩,hM⟩
    ·intro hb28
     have hs25:=ZB hs25 hb28
     refine wp_exit (Zq (Zq (Yf ?_)))
     have ht79:=hx26 _ (ois hs25)
     subst ht79
     refine Zn ?_
     exact ⟨(),rfl,hE.sub ⟨rfl,trivial⟩,hM⟩
   ·skip
    rintro a w ⟨s23,ht,hE,hM⟩
    subst ht
    have hF22:=Tg hF22
    refine Zz (Zc (Zg hE Za ld rfl (VH) fun a hE=>Zp (v:=v0_3) hE Za ld rfl QI rfl (At.cat (pre:=[[v0_1],[vI p0.Next],[v0_2]]) (hM.rawAt (pre:=[])) (cl1 (n:=1) (m:=2) rfl (cl1 (n:=1) (m:=1) rfl (cl1 (n:=1) (m:=0) rfl cl0)))) ?_)); intro a hE
    obtain ⟨r80,e81,hF22⟩:=bind_some hF22
    refine Zt hE Za ld rfl cb170 (V0 _ p0.Events v0_3 (hM.rdo hv0_3) (fun z0=>VN z0) 171 [] cb171 (fun w2 hk2 z0 zr zhr=>Hw w2 z0 zr zhr) r80 e81) ?_
    rintro v w a ⟨rfl,hK⟩ hE
    have hM:=hM.keep hK
    refine WJ hE Za ld rfl fun a hE=>Ze hE Za ld rfl fun a hE=>Zf ?_
    have hr:=Option.some.inj hF22
    subst hr
    have hM:=M.fst (l:=[]) hM
    exact wp_ret (Zy hE rfl (Zu hE rfl) ⟨_,rfl,rfl,hM.kept⟩)
def Yr (p0 : (List (Vector UInt8 16))) (p1 : (Vector UInt8 16)) (s7 : Int) : Option (Fl Int (Fl Unit Int)) :=
 if (decide (s7 < (p0.length : Int))) = true then (((idx p0 s7).bind fun x16=>some (decide (p1 = x16)) : Option (Bool)).bind fun j12=>if j12 = true then (some (Fl.ex (Fl.ex s7))) else (some (Fl.nx (wr (s7 + 1))))) else (some (Fl.ex (Fl.nx ())))
def YA (p0 : (List (Vector UInt8 16))) (p1 : (Vector UInt8 16)) : Option (Int) :=
 (ZG (Yr p0 p1) 0).bind fun j3=>j3.el (fun s6=>some (-1)) (fun r=>some r)
theorem Ti (w0 : World) (p0 : (List (Vector UInt8 16))) (v0_1 : Value) (hv0_1 : Ro w0 p0 [v0_1]) (p1 : (Vector UInt8 16)) (r : Int) (hF : YA p0 p1 = some r) :
  Calls Tryz.prog 173 [v0_1,(Value.agg (enc p1).toArray)].toArray w0 (fun en w'=>∃ v,en = .returned v ∧ (v = (vI r) ∧ Kept (Old w0) w0 w')):=by
 refine ZD (n:=19) Tryz.func173 rfl rfl (nbl rfl) rfl ?_
 intro a hE
 have hM:=M.start w0
 unfold YA at hF
 refine Zc (ZY (cs:=enc p1) hE hM Za ld rfl rfl fun b1 w a hM hE=>Ze hE Za ld rfl fun a hE=>Zf (wp_seq (Zc (Zd hE Za ld rfl fun a hE=>Z3 hE Za ld rfl Tryz.underlying32 (hM.rd hv0_1) fun a hE=>Zd hE Za ld rfl fun a hE=>Zf ?_))))
 obtain ⟨j3,hl4,hF5⟩:=bind_some hF
 refine ZP (fun a w=>∃ s6 : Unit,j3 = Fl.nx s6 ∧ Env 19 a [] ∧ M (Old w0) w0 w []) ?_ ?_
 ·skip
  refine wp_block ?_
  refine ZI (fun (s7 : Int) a w=>Env 19 a [(0,v0_1),(3,(ptr b1 0)),(7,(vI (p0.length : Int))),(8,vI s7)] ∧ M (Old w0) w0 w [raw b1 (enc p1)]) hl4 ⟨hE.sub ⟨rfl,rfl,rfl,rfl,trivial⟩,hM⟩ ?_
  rintro s7 a w ⟨hE,hM⟩ o10 hs8 hx9
  unfold Yr at hs8
  refine Zc (Zi hE Za ld rfl rfl rfl fun a hE=>Zf (wp_seq ?_))
  refine Zs hE rfl ?_ ?_
  ·intro hb11
   have hs8:=ZA hs8 hb11
   refine wp_skip (Zz (wp_seq (wp_block (Zc (Zd hE Za ld rfl fun a hE=>Ze hE Za ld rfl fun a hE=>Zf ?_)))))
   obtain ⟨j12,hl13,hF14⟩:=bind_some hs8
   refine ZS (fun a w=>Env 19 a [(0,v0_1),(3,(ptr b1 0)),(5,vI s7),(7,(vI (p0.length : Int))),(8,vI s7),(16,vT j12)] ∧ M (Old w0) w0 w [raw b1 (enc p1)]) ?_ ?_
   ·skip
    obtain ⟨x16,hi18,hl13⟩:=bix hl13
    refine YC (n:=19) (hd:=[_,_,_,_,_,_]) (tl:=[]) Y0 rfl rfl [11,12,13,14,15,16] (by decide) (fun w=>M (Old w0) w0 w [raw b1 (enc p1)]) (fun j=>([fun v _=>v = (Value.agg (enc p1).toArray),fun v _=>v = v0_1,fun v _=>v = (vI s7),fun v _=>v = (ptr (sb v0_1) (so v0_1 + (s7).toNat * 16)),fun v _=>v = (Value.agg (enc x16).toArray),fun v _=>v = (vT (decide (p1 = x16)))] : List (Value → World → Prop)).getD j (fun _ _=>True)) (fun _ _ h hk=>h.keep hk) (gup (Zk (Zk (Zk (Zk (Zk (Zk V1))))))) hE hM.drew (ZK (Zb ?_ (Zb ?_ (Zb ?_ (Zb ?_ (Zb ?_ (Zb ?_ ZF))))))) ?_
    ·exact fun a w ux15 hE hM hp=>Zm (cs:=enc p1) hE Za ld rfl ZH rfl (hM.rawAt (pre:=[])) (Flat.len _) fun a hE=>⟨Kept.refl _ _,_,_,rfl,hE,rfl⟩
    ·exact fun a w ux15 hE hM hp=>Zd hE Za ld rfl fun a hE=>⟨Kept.refl _ _,_,_,rfl,hE,rfl⟩
    ·exact fun a w ux15 hE hM hp=>Zd hE Za ld rfl fun a hE=>⟨Kept.refl _ _,_,_,rfl,hE,rfl⟩
    ·intro a w ux15 hE hM hp
     have f1 : ux15 1 = v0_1:=hp 0 _ rfl rfl
     have f2 : ux15 2 = (vI s7):=hp 1 _ rfl rfl
     exact ZL hE Za ld (lk rfl f1) (lk rfl f2) Tryz.underlying32 ZH (hM.rd hv0_1) hi18.1 fun a hE=>⟨Kept.refl _ _,_,_,rfl,hE,rfl⟩
    ·intro a w ux15 hE hM hp
     have f3 : ux15 3 = (ptr (sb v0_1) (so v0_1 + (s7).toNat * 16)):=hp 0 _ rfl rfl
     exact Zm (cs:=enc x16) hE Za ld (lk rfl f3) ZH rfl (XE (hM.rd hv0_1) hi18.2) (Flat.len _) fun a hE=>⟨Kept.refl _ _,_,_,rfl,hE,rfl⟩
    ·intro a w ux15 hE hM hp
     have f0 : ux15 0 = (Value.agg (enc p1).toArray):=hp 0 _ rfl rfl
     have f4 : ux15 4 = (Value.agg (enc x16).toArray):=hp 1 _ rfl rfl
     exact s_eqA hE Za ld (lk rfl f0) (lk rfl f4) (yb Tryz.underlying70 ty5 rfl false rfl (by decide) (Av Tryz.underlying5)) (by decide) (by kernel_rfl) fun a hE=>⟨Kept.refl _ _,_,_,rfl,hE,rfl⟩
    ·intro a w ux15 hE hM hg
     have hE:=hE.sub (e':=[(16,(vT (decide (p1 = x16)))),(0,v0_1),(3,(ptr b1 0)),(5,vI s7),(7,(vI (p0.length : Int))),(8,vI s7),(9,(vT (decide (s7 < (p0.length : Int))))),(10,vI s7)]) ⟨lk rfl (hg 5 (by decide)),rfl,rfl,rfl,rfl,rfl,rfl,rfl,trivial⟩
     refine Zj ?_
     have ht19:=Option.some.inj hl13
     subst ht19
     refine Zn ?_
     exact ⟨hE.sub ⟨rfl,rfl,rfl,rfl,rfl,rfl,trivial⟩,hM⟩
   ·skip
    rintro a w ⟨hE,hM⟩
    refine Zs hE rfl ?_ ?_
    ·intro hb20
     have hF14:=ZA hF14 hb20
     refine Zc (Zd hE Za ld rfl fun a hE=>Ze hE Za ld rfl fun a hE=>Zf ?_)
     have ht21:=hx9 _ (ois hF14)
     subst ht21
     have hr:=Option.some.inj hF5
     subst hr
     have hM:=M.fst (l:=[]) hM
     exact wp_ret (Yj (Zx (Zx (Yj (Zx (Zx (Zy hE rfl (Zu hE rfl) ⟨_,rfl,rfl,hM.kept⟩)))))))
    ·intro hb20
     have hF14:=ZB hF14 hb20
     refine wp_skip (Yb (Zz (wp_region_lit (Zi hE Za ld rfl rfl rfl fun a hE=>Zd hE Za ld rfl fun a hE=>Zj (Zn ?_)))))
     exact ⟨_,(ois hF14),hE.sub ⟨rfl,rfl,rfl,rfl,trivial⟩,hM⟩
  ·intro hb11
   have hs8:=ZB hs8 hb11
   refine wp_exit (Zq (Zq (Yf ?_)))
   have ht22:=hx9 _ (ois hs8)
   subst ht22
   refine Zn ?_
   have hM:=M.fst (l:=[]) hM
   exact ⟨(),rfl,hE.sub trivial,hM⟩
 ·skip
  rintro a w ⟨s6,ht,hE,hM⟩
  subst ht
  have hF5:=Tg hF5
  refine Zz (Zc (Ze hE Za ld rfl fun a hE=>Zf ?_))
  have hr:=Option.some.inj hF5
  subst hr
  exact wp_ret (Zy hE rfl (Zu hE rfl) ⟨_,rfl,rfl,hM.kept⟩)
def Z6 (p0 : (List (Vector UInt8 16))) (p1 : (Vector UInt8 16)) : Option (Bool) :=
 (YA p0 p1).bind fun r3=>some (decide (r3 ≥ 0))
theorem UI (w0 : World) (p0 : (List (Vector UInt8 16))) (v0_1 : Value) (hv0_1 : Ro w0 p0 [v0_1]) (p1 : (Vector UInt8 16)) (r : Bool) (hF : Z6 p0 p1 = some r) :
  Calls Tryz.prog 109 [v0_1,(Value.agg (enc p1).toArray)].toArray w0 (fun en w'=>∃ v,en = .returned v ∧ (v = (vT r) ∧ Kept (Old w0) w0 w')):=by
 refine ZD (n:=9) Tryz.func109 rfl rfl (nbl rfl) rfl ?_
 intro a hE
 have hM:=M.start w0
 unfold Z6 at hF
 refine Zc (ZY (cs:=enc p1) hE hM Za ld rfl rfl fun b1 w a hM hE=>Ze hE Za ld rfl fun a hE=>Zf (Zc (Zd hE Za ld rfl fun a hE=>Zm (cs:=enc p1) hE Za ld rfl ZH rfl (hM.rawAt (pre:=[])) (Flat.len _) ?_))); intro a hE
 obtain ⟨r3,e4,hF⟩:=bind_some hF
 refine Zt hE Za ld rfl cb173 (Ti _ p0 v0_1 (hM.rdo hv0_1) p1 r3 e4) ?_
 rintro v w a ⟨rfl,hK⟩ hE
 have hM:=hM.keep hK
 refine Zi hE Za ld rfl rfl rfl fun a hE=>Ze hE Za ld rfl fun a hE=>Zf ?_
 have hr:=Option.some.inj hF
 subst hr
 have hM:=M.fst (l:=[]) hM
 exact wp_ret (Zy hE rfl (Zu hE rfl) ⟨_,rfl,rfl,hM.kept⟩)
def Yd (p0 : (List (Vector UInt8 16))) : Option ((List (Vector UInt8 16))) :=
 (app 16 ([] : List (Vector UInt8 16)) p0).bind fun l7=>some (([] : List (Vector UInt8 16)) ++ p0)
theorem Tl (w0 : World) (p0 : (List (Vector UInt8 16))) (v0_1 : Value) (hv0_1 : Ro w0 p0 [v0_1]) (r : (List (Vector UInt8 16))) (hF : Yd p0 = some r) :
  Calls Tryz.prog 174 [v0_1].toArray w0 (fun en w'=>∃ v,en = .returned v ∧ (∃ (y1 : Value),v = y1 ∧ Fr w0 w' [osl NoB (r : List (Vector UInt8 16)) y1] ∧ Kept (Old w0) w0 w')):=by
 refine ZD (n:=8) Tryz.func174 rfl rfl (nbl rfl) rfl ?_
 intro a hE
 have hM:=M.start w0
 unfold Yd at hF
 refine Zc (Ze hE Za ld rfl fun a hE=>Zf (wp_seq (Zc (Zd hE Za ld rfl fun a hE=>A4 hE Za ld rfl rfl Tryz.underlying32 (hM.rd hv0_1) fun bn1 a hn2 hE=>Zf ?_))))
 refine Zs hE rfl ?_ ?_
 ·intro hb3
  have h0:=hn2 hb3
  have hF : some ([]) = some r:=by rw [h0] at hF; simpa [app] using hF
  refine Zc (Ze hE Za ld rfl fun a hE=>Zf ?_)
  have hM:=M.nilS (α:=(Vector UInt8 16)) NoB noB hM
  have hr:=Option.some.inj hF
  subst hr
  exact wp_ret (Zx (Zy hE rfl (Zu hE rfl) ⟨_,rfl,(Value.slice none 0 0),rfl,hM.outF (Yo Xs),hM.kept⟩))
 ·intro hb3
  refine wp_skip (Zz (Zc (Yk (xs:=[]) (l:=([] : List (Vector UInt8 16))) (vs:=[]) hE hM Za ld rfl rfl Tryz.underlying32 ZH rfl (by decide) rfl fun u5 w a hM hE=>Zd hE Za ld rfl ?_))); intro a hE
  obtain ⟨l7,e8,hF⟩:=bind_some hF
  obtain ⟨e11,rfl⟩:=Yv e8
  refine Yn hE hM Za ld rfl rfl (hM.rd hv0_1) Tryz.underlying32 ZH rfl (by decide) e11 fun u9 w a hM hE=>Ze hE Za ld rfl fun a hE=>Zf ?_
  have hr:=Option.some.inj hF
  subst hr
  exact wp_ret (Zy hE rfl (Zu hE rfl) ⟨_,rfl,u9,rfl,hM.outF (Yo Xs),hM.kept⟩)
def Ye (p0 : (List GEvent)) : Option ((List GEvent)) :=
 (app 48 ([] : List GEvent) p0).bind fun l7=>some (([] : List GEvent) ++ p0)
theorem Tk (w0 : World) (p0 : (List GEvent)) (v0_1 : Value) (hv0_1 : Ro w0 p0 [v0_1]) (r : (List GEvent)) (hF : Ye p0 = some r) :
  Calls Tryz.prog 175 [v0_1].toArray w0 (fun en w'=>∃ v,en = .returned v ∧ (∃ (y1 : Value),v = y1 ∧ Fr w0 w' [osl NoB (r : List GEvent) y1] ∧ Kept (Old w0) w0 w')):=by
 refine ZD (n:=8) Tryz.func175 rfl rfl (nbl rfl) rfl ?_
 intro a hE
 have hM:=M.start w0
 unfold Ye at hF
 refine Zc (Ze hE Za ld rfl fun a hE=>Zf (wp_seq (Zc (Zd hE Za ld rfl fun a hE=>A4 hE Za ld rfl rfl Tryz.underlying34 (hM.rd hv0_1) fun bn1 a hn2 hE=>Zf ?_))))
 refine Zs hE rfl ?_ ?_
 ·intro hb3
  have h0:=hn2 hb3
  have hF : some ([]) = some r:=by rw [h0] at hF; simpa [app] using hF
  refine Zc (Ze hE Za ld rfl fun a hE=>Zf ?_)
  have hM:=M.nilS (α:=GEvent) NoB noB hM
  have hr:=Option.some.inj hF
  subst hr
  exact wp_ret (Zx (Zy hE rfl (Zu hE rfl) ⟨_,rfl,(Value.slice none 0 0),rfl,hM.outF (Yo Xs),hM.kept⟩))
 ·intro hb3
  refine wp_skip (Zz (Zc (Yk (xs:=[]) (l:=([] : List GEvent)) (vs:=[]) hE hM Za ld rfl rfl Tryz.underlying34 Y9 rfl (by decide) rfl fun u5 w a hM hE=>Zd hE Za ld rfl ?_))); intro a hE
  obtain ⟨l7,e8,hF⟩:=bind_some hF
  obtain ⟨e11,rfl⟩:=Yv e8
  refine Yn hE hM Za ld rfl rfl (hM.rd hv0_1) Tryz.underlying34 Y9 rfl (by decide) e11 fun u9 w a hM hE=>Ze hE Za ld rfl fun a hE=>Zf ?_
  have hr:=Option.some.inj hF
  subst hr
  exact wp_ret (Zy hE rfl (Zu hE rfl) ⟨_,rfl,u9,rfl,hM.outF (Yo Xs),hM.kept⟩)
def Yq (p0 : (List UInt8)) : Option ((List UInt8)) :=
 (app 1 ([] : List UInt8) p0).bind fun l7=>some (([] : List UInt8) ++ p0)
theorem Vt (w0 : World) (p0 : (List UInt8)) (v0_1 : Value) (hv0_1 : Ro w0 p0 [v0_1]) (r : (List UInt8)) (hF : Yq p0 = some r) :
  Calls Tryz.prog 105 [v0_1].toArray w0 (fun en w'=>∃ v,en = .returned v ∧ (∃ (y1 : Value),v = y1 ∧ Fr w0 w' [osl NoB (r : List UInt8) y1] ∧ Kept (Old w0) w0 w')):=by
 refine ZD (n:=8) Tryz.func105 rfl rfl (nbl rfl) rfl ?_
 intro a hE
 have hM:=M.start w0
 unfold Yq at hF
 refine Zc (Ze hE Za ld rfl fun a hE=>Zf (wp_seq (Zc (Zd hE Za ld rfl fun a hE=>A4 hE Za ld rfl rfl Tryz.underlying57 (hM.rd hv0_1) fun bn1 a hn2 hE=>Zf ?_))))
 refine Zs hE rfl ?_ ?_
 ·intro hb3
  have h0:=hn2 hb3
  have hF : some ([]) = some r:=by rw [h0] at hF; simpa [app] using hF
  refine Zc (Ze hE Za ld rfl fun a hE=>Zf ?_)
  have hM:=M.nilS (α:=UInt8) NoB noB hM
  have hr:=Option.some.inj hF
  subst hr
  exact wp_ret (Zx (Zy hE rfl (Zu hE rfl) ⟨_,rfl,(Value.slice none 0 0),rfl,hM.outF (Yo Xs),hM.kept⟩))
 ·intro hb3
  refine wp_skip (Zz (Zc (Yk (xs:=[]) (l:=([] : List UInt8)) (vs:=[]) hE hM Za ld rfl rfl Tryz.underlying57 ty5 rfl (by decide) rfl fun u5 w a hM hE=>Zd hE Za ld rfl ?_))); intro a hE
  obtain ⟨l7,e8,hF⟩:=bind_some hF
  obtain ⟨e11,rfl⟩:=Yv e8
  refine Yn hE hM Za ld rfl rfl (hM.rd hv0_1) Tryz.underlying57 ty5 rfl (by decide) e11 fun u9 w a hM hE=>Ze hE Za ld rfl fun a hE=>Zf ?_
  have hr:=Option.some.inj hF
  subst hr
  exact wp_ret (Zy hE rfl (Zu hE rfl) ⟨_,rfl,u9,rfl,hM.outF (Yo Xs),hM.kept⟩)
def Wp (p0 : GVault) (s21 : (List GRecord) × Int) : Option (Fl ((List GRecord) × Int) (List GRecord)) :=
 if (decide (s21.2 < (p0.Records.length : Int))) = true then ((idx p0.Records s21.2).bind fun x29=>((Yq x29.Label).bind fun r49=>(Yq x29.Body).bind fun r52=>some (r49,r52) : Option ((List UInt8) × (List UInt8))).bind fun j41=>(app 112 s21.1 ([(⟨x29.Number,x29.Version,x29.Nonce,j41.1,j41.2,x29.Tag⟩ : GRecord)] : List GRecord)).bind fun l58=>some (Fl.nx ((s21.1 ++ ([(⟨x29.Number,x29.Version,x29.Nonce,j41.1,j41.2,x29.Tag⟩ : GRecord)] : List GRecord)),wr (s21.2 + 1)))) else (some (Fl.ex s21.1))
def WN (p0 : GVault) : Option (GVault) :=
 (Yd p0.Keys).bind fun r6=>(Ye p0.Events).bind fun r9=>(ZG (Wp p0) ([],0)).bind fun j16=>some (⟨r6,p0.Next,j16,r9,p0.Head⟩ : GVault)
theorem Jf (w0 : World) (p0 : GVault) (v0_1 : Value) (hv0_1 : Ro w0 p0.Keys [v0_1]) (v0_2 : Value) (hv0_2 : Ro w0 p0.Records [v0_2]) (v0_3 : Value) (hv0_3 : Ro w0 p0.Events [v0_3]) (r : GVault) (hF : WN p0 = some r) :
  Calls Tryz.prog 110 [(Value.agg (cat [[v0_1],[vI p0.Next],[v0_2],[v0_3],enc p0.Head]).toArray)].toArray w0 (fun en w'=>∃ v,en = .returned v ∧ (∃ (y1 : Value) (y2 : Value) (y3 : Value),v = (Value.agg (cat [[y1],[vI r.Next],[y2],[y3],enc r.Head]).toArray) ∧ Fr w0 w' [osl NoB (r.Keys : List (Vector UInt8 16)) y1,osl NoB (r.Records : List GRecord) y2,osl NoB (r.Events : List GEvent) y3] ∧ Kept (Old w0) w0 w')):=by
 refine ZD (n:=40) Tryz.func110 rfl rfl (nbl rfl) rfl ?_
 intro a hE
 have hM:=M.start w0
 unfold WN at hF
 refine Zc (ZY (cs:=cat [[v0_1],[vI p0.Next],[v0_2],[v0_3],enc p0.Head]) hE hM Za ld rfl rfl fun b1 w a hM hE=>ZE hE hM Za ld Yx fun b3 w a hM hE=>Zf (wp_seq ?_))
 obtain ⟨r6,e7,hF⟩:=bind_some hF
 obtain ⟨r9,e10,hF⟩:=bind_some hF
 refine Ub (n:=40) (hd:=[_,_,_,_,_,_,_,_,_,_,_,_]) (tl:=[_]) Y0 rfl rfl [6,7,8,9,10,11,12,13,14,15,16,3] (by decide) (fun D u w=>M (Old w0) w0 w ([raw b3 (cat [[(Value.slice none 0 0)],[vI 0],[(Value.slice none 0 0)],[(Value.slice none 0 0)],enc (Vector.replicate 32 (0 : UInt8))]),raw b1 (cat [[v0_1],[vI p0.Next],[v0_2],[v0_3],enc p0.Head])] ++ qL ([mkO 2 (fun v=>osl NoB (r6 : List (Vector UInt8 16)) v),mkO 7 (fun v=>osl NoB (r9 : List GEvent) v),mkO 11 (fun v=>Vq v (cat [[(Value.slice none 0 0)],[vI 0],[(Value.slice none 0 0)],[(Value.slice none 0 0)],enc (Vector.replicate 32 (0 : UInt8))]))] : Mk) D u) ∧ GOk ([([],fun us v=>v = (ptr b1 (0 + 0))),([],fun us v=>v = v0_1),([],fun us v=>True),([],fun us v=>v = (ptr b1 (0 + 1))),([],fun us v=>v = (vI p0.Next)),([],fun us v=>v = (ptr b1 (0 + 3))),([],fun us v=>v = v0_3),([],fun us v=>True),([],fun us v=>v = (ptr b1 (0 + 4))),([],fun us v=>v = (Value.agg (enc p0.Head).toArray)),([2,7],fun us v=>v = (Value.agg (cat [[(us.getD 0 undef)],[vI p0.Next],[(Value.slice none 0 0)],[(us.getD 1 undef)],enc p0.Head]).toArray)),([],fun us v=>True)] : Gs) D u) hE (fun u=>⟨M.qE (M.qE (M.qE (M.q0 hM.drew u) emO) emO) emO,Jg⟩) (ZK (Zb ?_ (Zb ?_ (Zb ?_ (Zb ?_ (Zb ?_ (Zb ?_ (Zb ?_ (Zb ?_ (Zb ?_ (Zb ?_ (Zb ?_ (Zb ?_ ZF))))))))))))) ?_
 ·intro a w ux5 D hE hI hD hdc hp
  have hM0:=hI.1
  exact Zg hE Za ld rfl (Wl) fun a hE=>⟨_,_,rfl,hE,M.qKeep hM0 rfl,hI.2.put hD rfl ZQ rfl⟩
 ·intro a w ux5 D hE hI hD hdc hp
  have d0 : D 0 = true:=hp 0 _ rfl rfl
  have g0:=hI.2 0 d0 _ rfl
  have f0 : ux5 0 = (ptr b1 (0 + 0)):=g0.2
  have hM0:=hI.1
  have hM:=hI.1
  exact Zp (v:=v0_1) hE Za ld (lk rfl f0) T1 rfl (At.cat (pre:=[]) (hM.rawAt (pre:=[_])) cl0) fun a hE=>⟨_,_,rfl,hE,M.qKeep hM0 rfl,hI.2.put hD rfl ZQ rfl⟩
 ·intro a w ux5 D hE hI hD hdc hp
  have d1 : D 1 = true:=hp 0 _ rfl rfl
  have g1:=hI.2 1 d1 _ rfl
  have f1 : ux5 1 = v0_1:=g1.2
  have hM0:=hI.1
  have hM:=hI.1
  refine Zt hE Za ld (ZV (ZT (lk rfl f1) YZ)) cb174 (Tl _ p0.Keys v0_1 (hM.rdo hv0_1) r6 e7) ?_
  rintro _ w a ⟨_,rfl,hFr,hK⟩ hE
  have hM:=hM0.add hK hFr
  exact ⟨_,_,rfl,hE,M.qFill (mk1:=[]) (mk2:=[_,_]) (f:=(fun v=>osl NoB (r6 : List (Vector UInt8 16)) v)) hM rfl hD,hI.2.put hD rfl ZQ trivial⟩
 ·intro a w ux5 D hE hI hD hdc hp
  have hM0:=hI.1
  exact Zg hE Za ld rfl (Qo) fun a hE=>⟨_,_,rfl,hE,M.qKeep hM0 rfl,hI.2.put hD rfl ZQ rfl⟩
 ·intro a w ux5 D hE hI hD hdc hp
  have d3 : D 3 = true:=hp 0 _ rfl rfl
  have g3:=hI.2 3 d3 _ rfl
  have f3 : ux5 3 = (ptr b1 (0 + 1)):=g3.2
  have hM0:=hI.1
  have hM:=hI.1
  exact Zp (v:=(vI p0.Next)) hE Za ld (lk rfl f3) ty2 rfl (At.cat (pre:=[[v0_1]]) (hM.rawAt (pre:=[_])) (cl1 (n:=1) (m:=0) rfl cl0)) fun a hE=>⟨_,_,rfl,hE,M.qKeep hM0 rfl,hI.2.put hD rfl ZQ rfl⟩
 ·intro a w ux5 D hE hI hD hdc hp
  have hM0:=hI.1
  exact Zg hE Za ld rfl (VH) fun a hE=>⟨_,_,rfl,hE,M.qKeep hM0 rfl,hI.2.put hD rfl ZQ rfl⟩
 ·intro a w ux5 D hE hI hD hdc hp
  have d5 : D 5 = true:=hp 0 _ rfl rfl
  have g5:=hI.2 5 d5 _ rfl
  have f5 : ux5 5 = (ptr b1 (0 + 3)):=g5.2
  have hM0:=hI.1
  have hM:=hI.1
  exact Zp (v:=v0_3) hE Za ld (lk rfl f5) QI rfl (At.cat (pre:=[[v0_1],[vI p0.Next],[v0_2]]) (hM.rawAt (pre:=[_])) (cl1 (n:=1) (m:=2) rfl (cl1 (n:=1) (m:=1) rfl (cl1 (n:=1) (m:=0) rfl cl0)))) fun a hE=>⟨_,_,rfl,hE,M.qKeep hM0 rfl,hI.2.put hD rfl ZQ rfl⟩
 ·intro a w ux5 D hE hI hD hdc hp
  have d6 : D 6 = true:=hp 0 _ rfl rfl
  have g6:=hI.2 6 d6 _ rfl
  have f6 : ux5 6 = v0_3:=g6.2
  have hM0:=hI.1
  have hM:=hI.1
  refine Zt hE Za ld (ZV (ZT (lk rfl f6) YZ)) cb175 (Tk _ p0.Events v0_3 (hM.rdo hv0_3) r9 e10) ?_
  rintro _ w a ⟨_,rfl,hFr,hK⟩ hE
  have hM:=hM0.add hK hFr
  exact ⟨_,_,rfl,hE,M.qFill (mk1:=[_]) (mk2:=[_]) (f:=(fun v=>osl NoB (r9 : List GEvent) v)) hM rfl hD,hI.2.put hD rfl ZQ trivial⟩
 ·intro a w ux5 D hE hI hD hdc hp
  have hM0:=hI.1
  exact Zg hE Za ld rfl (Jm) fun a hE=>⟨_,_,rfl,hE,M.qKeep hM0 rfl,hI.2.put hD rfl ZQ rfl⟩
 ·intro a w ux5 D hE hI hD hdc hp
  have d8 : D 8 = true:=hp 0 _ rfl rfl
  have g8:=hI.2 8 d8 _ rfl
  have f8 : ux5 8 = (ptr b1 (0 + 4)):=g8.2
  have hM0:=hI.1
  have hM:=hI.1
  exact Zm (cs:=enc p0.Head) hE Za ld (lk rfl f8) Yy rfl (At.cat (pre:=[[v0_1],[vI p0.Next],[v0_2],[v0_3]]) (hM.rawAt (pre:=[_])) (cl1 (n:=1) (m:=3) rfl (cl1 (n:=1) (m:=2) rfl (cl1 (n:=1) (m:=1) rfl (cl1 (n:=1) (m:=0) rfl cl0))))) (Flat.len _) fun a hE=>⟨_,_,rfl,hE,M.qKeep hM0 rfl,hI.2.put hD rfl ZQ rfl⟩
 ·intro a w ux5 D hE hI hD hdc hp
  have d2 : D 2 = true:=hp 0 _ rfl rfl
  have g2:=hI.2 2 d2 _ rfl
  have d4 : D 4 = true:=hp 1 _ rfl rfl
  have g4:=hI.2 4 d4 _ rfl
  have f4 : ux5 4 = (vI p0.Next):=g4.2
  have d7 : D 7 = true:=hp 2 _ rfl rfl
  have g7:=hI.2 7 d7 _ rfl
  have d9 : D 9 = true:=hp 3 _ rfl rfl
  have g9:=hI.2 9 d9 _ rfl
  have f9 : ux5 9 = (Value.agg (enc p0.Head).toArray):=g9.2
  have hM0:=hI.1
  have hM:=(hI.1.sure (pre:=[_,_]) d2).sure (pre:=[_,_,_]) d7
  exact XO (parts:=[(0,.tmp 8),(1,.tmp 10),(3,.tmp 13),(4,.tmp 15)]) (vs:=[(0,(ux5 2)),(1,vI p0.Next),(3,(ux5 7)),(4,(Value.agg (enc p0.Head).toArray))]) (cs:=cat [[(ux5 2)],[vI p0.Next],[(Value.slice none 0 0)],[(ux5 7)],enc p0.Head]) hE Za ld (ZV (ZT rfl (ZT (lk rfl f4) (ZT rfl (ZT (lk rfl f9) YZ))))) rfl Yx yl (Yt (pre:=[]) (seg:=[(Value.slice none 0 0)]) (seg':=[(ux5 2)]) (post:=[[vI 0],[(Value.slice none 0 0)],[(Value.slice none 0 0)],enc (Vector.replicate 32 (0 : UInt8))]) rfl cl0 rfl rfl (YD (hM.sl (pre:=[_,_]) noB)) (Yt (pre:=[[(ux5 2)]]) (seg:=[vI 0]) (seg':=[vI p0.Next]) (post:=[[(Value.slice none 0 0)],[(Value.slice none 0 0)],enc (Vector.replicate 32 (0 : UInt8))]) rfl (cl1 (n:=1) (m:=0) rfl cl0) rfl rfl rfl (Yt (pre:=[[(ux5 2)],[vI p0.Next],[(Value.slice none 0 0)]]) (seg:=[(Value.slice none 0 0)]) (seg':=[(ux5 7)]) (post:=[enc (Vector.replicate 32 (0 : UInt8))]) rfl (cl1 (n:=1) (m:=2) rfl (cl1 (n:=1) (m:=1) rfl (cl1 (n:=1) (m:=0) rfl cl0))) rfl rfl (YD (hM.sl (pre:=[_,_,_]) noB)) (Yt (pre:=[[(ux5 2)],[vI p0.Next],[(Value.slice none 0 0)],[(ux5 7)]]) (seg:=enc (Vector.replicate 32 (0 : UInt8))) (seg':=enc p0.Head) (post:=[]) rfl (cl1 (n:=1) (m:=3) rfl (cl1 (n:=1) (m:=2) rfl (cl1 (n:=1) (m:=1) rfl (cl1 (n:=1) (m:=0) rfl cl0)))) (Flat.len _) (Flat.len _) rfl VU)))) fun a hE=>⟨_,_,rfl,hE,M.qKeep hM0 rfl,hI.2.put hD rfl (HK d2 (HK d7 ZQ)) rfl⟩
 ·intro a w ux5 D hE hI hD hdc hp
  have hM0:=hI.1
  have hM:=hI.1
  refine ZE hE hM Za ld Yx ?_; intro b12 w a hM hE
  have hM:=hM.pack1 (it:=Vq _ (cat [[(Value.slice none 0 0)],[vI 0],[(Value.slice none 0 0)],[(Value.slice none 0 0)],enc (Vector.replicate 32 (0 : UInt8))])) (fun w w' fp ⟨b',e,k⟩ hb=>⟨b',e,Xc w w' fp k hb⟩) (fun fp k=>⟨_,rfl,k⟩)
  exact ⟨_,_,rfl,hE,M.qFill (mk1:=[_,_]) (mk2:=[]) (f:=fun v=>Vq v (cat [[(Value.slice none 0 0)],[vI 0],[(Value.slice none 0 0)],[(Value.slice none 0 0)],enc (Vector.replicate 32 (0 : UInt8))])) hM rfl hD,hI.2.put hD rfl ZQ trivial⟩
 ·intro a w ux5 D hE hI hall
  have hM : M (Old w0) w0 w [raw b3 (cat [[(Value.slice none 0 0)],[vI 0],[(Value.slice none 0 0)],[(Value.slice none 0 0)],enc (Vector.replicate 32 (0 : UInt8))]),raw b1 (cat [[v0_1],[vI p0.Next],[v0_2],[v0_3],enc p0.Head]),opt (D 2) (osl NoB (r6 : List (Vector UInt8 16)) (ux5 2)),opt (D 7) (osl NoB (r9 : List GEvent) (ux5 7)),opt (D 11) (Vq (ux5 11) (cat [[(Value.slice none 0 0)],[vI 0],[(Value.slice none 0 0)],[(Value.slice none 0 0)],enc (Vector.replicate 32 (0 : UInt8))]))]:=hI.1
  have d0 : D 0 = true:=hall 0 (by decide)
  have d1 : D 1 = true:=hall 1 (by decide)
  have d2 : D 2 = true:=hall 2 (by decide)
  have d3 : D 3 = true:=hall 3 (by decide)
  have d4 : D 4 = true:=hall 4 (by decide)
  have d5 : D 5 = true:=hall 5 (by decide)
  have d6 : D 6 = true:=hall 6 (by decide)
  have d7 : D 7 = true:=hall 7 (by decide)
  have d8 : D 8 = true:=hall 8 (by decide)
  have d9 : D 9 = true:=hall 9 (by decide)
  have d10 : D 10 = true:=hall 10 (by decide)
  have d11 : D 11 = true:=hall 11 (by decide)
  have f0 : ux5 0 = (ptr b1 (0 + 0)):=(hI.2 0 d0 _ rfl).2
  have f1 : ux5 1 = v0_1:=(hI.2 1 d1 _ rfl).2
  have f3 : ux5 3 = (ptr b1 (0 + 1)):=(hI.2 3 d3 _ rfl).2
  have f4 : ux5 4 = (vI p0.Next):=(hI.2 4 d4 _ rfl).2
  have f5 : ux5 5 = (ptr b1 (0 + 3)):=(hI.2 5 d5 _ rfl).2
  have f6 : ux5 6 = v0_3:=(hI.2 6 d6 _ rfl).2
  have f8 : ux5 8 = (ptr b1 (0 + 4)):=(hI.2 8 d8 _ rfl).2
  have f9 : ux5 9 = (Value.agg (enc p0.Head).toArray):=(hI.2 9 d9 _ rfl).2
  have f10 : ux5 10 = (Value.agg (cat [[(ux5 2)],[vI p0.Next],[(Value.slice none 0 0)],[(ux5 7)],enc p0.Head]).toArray):=(hI.2 10 d10 _ rfl).2
  have hM:=(((hM.sure (pre:=[_,_]) d2).sure (pre:=[_,_,_]) d7).sure (pre:=[_,_,_,_]) d11).pull
  obtain ⟨_,⟨b14,f15,_⟩,_⟩:=hM.head
  have hM:=hM.pack1 Xc (it:=raw b14 (cat [[(Value.slice none 0 0)],[vI 0],[(Value.slice none 0 0)],[(Value.slice none 0 0)],enc (Vector.replicate 32 (0 : UInt8))])) (fun fp ⟨b2,e2,k2⟩=>by rw [f15] at e2; simp [ptr] at e2; subst e2; exact k2)
  have hE:=hE.sub (e':=[(8,(ux5 2)),(13,(ux5 7)),(16,(Value.agg (cat [[(ux5 2)],[vI p0.Next],[(Value.slice none 0 0)],[(ux5 7)],enc p0.Head]).toArray)),(3,(ptr b14 0)),(1,(ptr b1 0)),(2,(ptr b3 0))]) ⟨rfl,rfl,lk rfl f10,lk rfl f15,rfl,rfl,trivial⟩
  refine Zo (seg:=cat [[(ux5 2)],[vI p0.Next],[(Value.slice none 0 0)],[(ux5 7)],enc p0.Head]) (cs':=cat [[(ux5 2)],[vI p0.Next],[(Value.slice none 0 0)],[(ux5 7)],enc p0.Head]) hE hM Za rfl rfl rfl Yx (Zh (cl1 (n:=1) (m:=35) rfl (cl1 (n:=1) (m:=34) rfl (cl1 (n:=1) (m:=33) rfl (cl1 (n:=1) (m:=32) rfl (cl1 (n:=32) (m:=0) (Flat.len _) cl0)))))) (Nat.le_of_eq ((Nat.zero_add _).trans (Eq.trans (Zh (cl1 (n:=1) (m:=35) rfl (cl1 (n:=1) (m:=34) rfl (cl1 (n:=1) (m:=33) rfl (cl1 (n:=1) (m:=32) rfl (cl1 (n:=32) (m:=0) (Flat.len _) cl0)))))) (Eq.symm (Zh (cl1 (n:=1) (m:=35) rfl (cl1 (n:=1) (m:=34) rfl (cl1 (n:=1) (m:=33) rfl (cl1 (n:=1) (m:=32) rfl (cl1 (n:=32) (m:=0) (Flat.len _) cl0)))))))))) (Z5 (cc1 (Rep.cell (hM.sl (pre:=[_,_,_]) noB)) (cc1 (Flat.cell (p0.Next : Int)) (cc1 X9 (cc1 (Rep.cell (hM.sl (pre:=[_,_,_,_]) noB)) (cc1 (Flat.cell _) cc0)))))) (Zl (Eq.trans (Zh (cl1 (n:=1) (m:=35) rfl (cl1 (n:=1) (m:=34) rfl (cl1 (n:=1) (m:=33) rfl (cl1 (n:=1) (m:=32) rfl (cl1 (n:=32) (m:=0) (Flat.len _) cl0)))))) (Eq.symm (Zh (cl1 (n:=1) (m:=35) rfl (cl1 (n:=1) (m:=34) rfl (cl1 (n:=1) (m:=33) rfl (cl1 (n:=1) (m:=32) rfl (cl1 (n:=32) (m:=0) (Flat.len _) cl0))))))))) fun w a hM hE=>Zj (Zz (wp_seq (Zc (Zg hE Za ld rfl (UC) fun a hE=>Zp (v:=v0_2) hE Za ld rfl QX rfl (At.cat (pre:=[[v0_1],[vI p0.Next]]) (hM.rawAt (pre:=[_,_])) (cl1 (n:=1) (m:=1) rfl (cl1 (n:=1) (m:=0) rfl cl0))) fun a hE=>Z3 hE Za ld rfl Tryz.underlying33 (hM.rd hv0_2) fun a hE=>Zd hE Za ld rfl fun a hE=>Zf ?_))))
  obtain ⟨j16,hl17,hF18⟩:=bind_some hF
  refine ZP (fun a w=>∃ (u19 : Value),Env 40 a [(2,(ptr b3 0)),(3,(ptr b14 0))] ∧ M (Old w0) w0 w [raw b14 (cat [[(ux5 2)],[vI p0.Next],[u19],[(ux5 7)],enc p0.Head]),raw b3 (cat [[(Value.slice none 0 0)],[vI 0],[(Value.slice none 0 0)],[(Value.slice none 0 0)],enc (Vector.replicate 32 (0 : UInt8))]),osl NoB (r6 : List (Vector UInt8 16)) (ux5 2),osl NoB (r9 : List GEvent) (ux5 7),osl NoB (j16 : List GRecord) u19]) ?_ ?_
  ·skip
   refine wp_block ?_
   have hM:=M.fst (l:=[_,_,_,_,_]) (((((M.nilS (α:=GRecord) NoB noB hM).pull (pre:=[_,_,_,_,_])).pull (pre:=[_,_,_,_,_])).pull (pre:=[_,_,_,_])).pull (pre:=[_,_,_,_]))
   refine ZI (fun (s21 : (List GRecord) × Int) a w=>∃ (u22 : Value),Env 40 a [(2,(ptr b3 0)),(3,(ptr b14 0)),(18,v0_2),(19,(vI (p0.Records.length : Int))),(20,vI s21.2)] ∧ M (Old w0) w0 w [raw b14 (cat [[(ux5 2)],[vI p0.Next],[u22],[(ux5 7)],enc p0.Head]),raw b3 (cat [[(Value.slice none 0 0)],[vI 0],[(Value.slice none 0 0)],[(Value.slice none 0 0)],enc (Vector.replicate 32 (0 : UInt8))]),osl NoB (r6 : List (Vector UInt8 16)) (ux5 2),osl NoB (r9 : List GEvent) (ux5 7),osl NoB (s21.1 : List GRecord) u22]) hl17 ⟨(Value.slice none 0 0),hE.sub ⟨rfl,rfl,rfl,rfl,rfl,trivial⟩,hM⟩ ?_
   rintro s21 a w ⟨u22,hE,hM⟩ o26 hs24 hx25
   unfold Wp at hs24
   refine Zc (Zi hE Za ld rfl rfl rfl fun a hE=>Zf (wp_seq ?_))
   refine Zs hE rfl ?_ ?_
   ·intro hb28
    have hs24:=ZA hs24 hb28
    refine wp_skip (Zz (wp_seq (wp_block (Zc ?_))))
    obtain ⟨x29,hi31,hs24⟩:=bix hs24
    refine ZL hE Za ld rfl rfl Tryz.underlying33 XZ (hM.rd hv0_2) hi31.1 ?_; intro a hE
    obtain ⟨cs32,hs33,hA34⟩:=Vj hv0_2 hi31.2 -- ^
    obtain ⟨u35,u37,rfl,h36,h38⟩:=Xe hs33 -- ^
    refine Zm (cs:=cat [[vI x29.Number],[vI x29.Version],enc x29.Nonce,[u35],[u37],enc x29.Tag]) hE Za ld rfl XZ rfl (hM.atk hA34 (UZ hv0_2 hi31.2)) (Zh (cl1 (n:=1) (m:=51) rfl (cl1 (n:=1) (m:=50) rfl (cl1 (n:=16) (m:=34) (Flat.len _) (cl1 (n:=1) (m:=33) rfl (cl1 (n:=1) (m:=32) rfl (cl1 (n:=32) (m:=0) (Flat.len _) cl0))))))) fun a hE=>ZE hE hM Za ld XZ fun b39 w a hM hE=>Zo (seg:=cat [[vI x29.Number],[vI x29.Version],enc x29.Nonce,[u35],[u37],enc x29.Tag]) (cs':=cat [[vI x29.Number],[vI x29.Version],enc x29.Nonce,[u35],[u37],enc x29.Tag]) hE hM Za rfl rfl rfl XZ (Zh (cl1 (n:=1) (m:=51) rfl (cl1 (n:=1) (m:=50) rfl (cl1 (n:=16) (m:=34) (Flat.len _) (cl1 (n:=1) (m:=33) rfl (cl1 (n:=1) (m:=32) rfl (cl1 (n:=32) (m:=0) (Flat.len _) cl0))))))) (Nat.le_of_eq ((Nat.zero_add _).trans (Eq.trans (Zh (cl1 (n:=1) (m:=51) rfl (cl1 (n:=1) (m:=50) rfl (cl1 (n:=16) (m:=34) (Flat.len _) (cl1 (n:=1) (m:=33) rfl (cl1 (n:=1) (m:=32) rfl (cl1 (n:=32) (m:=0) (Flat.len _) cl0))))))) (Eq.symm (Zh (cl1 (n:=1) (m:=51) rfl (cl1 (n:=1) (m:=50) rfl (cl1 (n:=16) (m:=34) (Flat.len _) (cl1 (n:=1) (m:=33) rfl (cl1 (n:=1) (m:=32) rfl (cl1 (n:=32) (m:=0) (Flat.len _) cl0))))))))))) (Z5 (cc1 (Flat.cell (x29.Number : Int)) (cc1 (Flat.cell (x29.Version : Int)) (cc1 (Flat.cell _) (cc1 (Rep.cell (hM.rd h36)) (cc1 (Rep.cell (hM.rd h38)) (cc1 (Flat.cell _) cc0))))))) (Zl (Eq.trans (Zh (cl1 (n:=1) (m:=51) rfl (cl1 (n:=1) (m:=50) rfl (cl1 (n:=16) (m:=34) (Flat.len _) (cl1 (n:=1) (m:=33) rfl (cl1 (n:=1) (m:=32) rfl (cl1 (n:=32) (m:=0) (Flat.len _) cl0))))))) (Eq.symm (Zh (cl1 (n:=1) (m:=51) rfl (cl1 (n:=1) (m:=50) rfl (cl1 (n:=16) (m:=34) (Flat.len _) (cl1 (n:=1) (m:=33) rfl (cl1 (n:=1) (m:=32) rfl (cl1 (n:=32) (m:=0) (Flat.len _) cl0)))))))))) fun w a hM hE=>Zf ?_
    obtain ⟨j41,hl42,hF43⟩:=bind_some hs24
    refine ZS (fun a w=>∃ (u44 : Value) (u46 : Value),Env 40 a [(2,(ptr b3 0)),(3,(ptr b14 0)),(5,(ptr b39 0)),(18,v0_2),(19,(vI (p0.Records.length : Int))),(20,vI s21.2)] ∧ M (Old w0) w0 w [raw b39 (cat [[vI x29.Number],[vI x29.Version],enc x29.Nonce,[u44],[u46],enc x29.Tag]),raw b14 (cat [[(ux5 2)],[vI p0.Next],[u22],[(ux5 7)],enc p0.Head]),raw b3 (cat [[(Value.slice none 0 0)],[vI 0],[(Value.slice none 0 0)],[(Value.slice none 0 0)],enc (Vector.replicate 32 (0 : UInt8))]),osl NoB (r6 : List (Vector UInt8 16)) (ux5 2),osl NoB (r9 : List GEvent) (ux5 7),osl NoB (s21.1 : List GRecord) u22,osl NoB (j41.1 : List UInt8) u44,osl NoB (j41.2 : List UInt8) u46]) ?_ ?_
    ·skip
     obtain ⟨r49,e50,hl42⟩:=bind_some hl42
     obtain ⟨r52,e53,hl42⟩:=bind_some hl42
     refine QY (n:=40) (hd:=[_,_,_,_,_,_,_]) (tl:=[_,_,_]) (its:=[raw b39 (cat [[vI x29.Number],[vI x29.Version],enc x29.Nonce,[u35],[u37],enc x29.Tag]),raw b14 (cat [[(ux5 2)],[vI p0.Next],[u22],[(ux5 7)],enc p0.Head]),raw b3 (cat [[(Value.slice none 0 0)],[vI 0],[(Value.slice none 0 0)],[(Value.slice none 0 0)],enc (Vector.replicate 32 (0 : UInt8))]),osl NoB (r6 : List (Vector UInt8 16)) (ux5 2),osl NoB (r9 : List GEvent) (ux5 7),osl NoB (s21.1 : List GRecord) u22]) Y0 rfl rfl [24,25,26,27,28,29,30] (by decide) [(2,fun v=>osl NoB (r49 : List UInt8) v),(5,fun v=>osl NoB (r52 : List UInt8) v)] rfl (fun j=>([fun v=>v = (ptr b39 (0 + 18)),fun v=>v = u35,fun v=>True,fun v=>v = (ptr b39 (0 + 19)),fun v=>v = u37,fun v=>True,fun v=>v = (ptr b39 (0 + 18))] : List (Value → Prop)).getD j (fun _=>True)) hE hM.drew (ZK (Zb ?_ (Zb ?_ (Zb ?_ (Zb ?_ (Zb ?_ (Zb ?_ (Zb ?_ ZF)))))))) ?_
     ·intro a w ux48 D hE hM hD hp
      have hM0:=hM
      exact Zg hE Za ld rfl (T9) fun a hE=>⟨_,_,rfl,hE,rfl,hM0.optKeep rfl⟩
     ·intro a w ux48 D hE hM hD hp
      have f0 : ux48 0 = (ptr b39 (0 + 18)):=(hp 0 _ rfl rfl).2
      have hM0:=hM
      have hM : M (Old w0) w0 w [raw b39 (cat [[vI x29.Number],[vI x29.Version],enc x29.Nonce,[u35],[u37],enc x29.Tag]),raw b14 (cat [[(ux5 2)],[vI p0.Next],[u22],[(ux5 7)],enc p0.Head]),raw b3 (cat [[(Value.slice none 0 0)],[vI 0],[(Value.slice none 0 0)],[(Value.slice none 0 0)],enc (Vector.replicate 32 (0 : UInt8))]),osl NoB (r6 : List (Vector UInt8 16)) (ux5 2),osl NoB (r9 : List GEvent) (ux5 7),osl NoB (s21.1 : List GRecord) u22,opt (D 2) (osl NoB (r49 : List UInt8) (ux48 2)),opt (D 5) (osl NoB (r52 : List UInt8) (ux48 5))]:=hM
      exact Zp (v:=u35) hE Za ld (lk rfl f0) Uu rfl (At.cat (pre:=[[vI x29.Number],[vI x29.Version],enc x29.Nonce]) (hM.rawAt (pre:=[])) (cl1 (n:=1) (m:=17) rfl (cl1 (n:=1) (m:=16) rfl (cl1 (n:=16) (m:=0) (Flat.len _) cl0)))) fun a hE=>⟨_,_,rfl,hE,rfl,hM0.optKeep rfl⟩
     ·intro a w ux48 D hE hM hD hp
      have f1 : ux48 1 = u35:=(hp 0 _ rfl rfl).2
      have hM0:=hM
      have hM : M (Old w0) w0 w [raw b39 (cat [[vI x29.Number],[vI x29.Version],enc x29.Nonce,[u35],[u37],enc x29.Tag]),raw b14 (cat [[(ux5 2)],[vI p0.Next],[u22],[(ux5 7)],enc p0.Head]),raw b3 (cat [[(Value.slice none 0 0)],[vI 0],[(Value.slice none 0 0)],[(Value.slice none 0 0)],enc (Vector.replicate 32 (0 : UInt8))]),osl NoB (r6 : List (Vector UInt8 16)) (ux5 2),osl NoB (r9 : List GEvent) (ux5 7),osl NoB (s21.1 : List GRecord) u22,opt (D 2) (osl NoB (r49 : List UInt8) (ux48 2)),opt (D 5) (osl NoB (r52 : List UInt8) (ux48 5))]:=hM
      refine Zt hE Za ld (ZV (ZT (lk rfl f1) YZ)) jZ (Vt _ x29.Label u35 (hM.rdo h36) r49 e50) ?_
      rintro _ w a ⟨_,rfl,hFr,hK⟩ hE
      have hM:=hM0.add hK hFr
      exact ⟨_,_,rfl,hE,trivial,M.optFill (mk1:=[]) (mk2:=[_]) (f:=(fun v=>osl NoB (r49 : List UInt8) v)) hM rfl hD⟩
     ·intro a w ux48 D hE hM hD hp
      have hM0:=hM
      exact Zg hE Za ld rfl (Qr) fun a hE=>⟨_,_,rfl,hE,rfl,hM0.optKeep rfl⟩
     ·intro a w ux48 D hE hM hD hp
      have f3 : ux48 3 = (ptr b39 (0 + 19)):=(hp 0 _ rfl rfl).2
      have hM0:=hM
      have hM : M (Old w0) w0 w [raw b39 (cat [[vI x29.Number],[vI x29.Version],enc x29.Nonce,[u35],[u37],enc x29.Tag]),raw b14 (cat [[(ux5 2)],[vI p0.Next],[u22],[(ux5 7)],enc p0.Head]),raw b3 (cat [[(Value.slice none 0 0)],[vI 0],[(Value.slice none 0 0)],[(Value.slice none 0 0)],enc (Vector.replicate 32 (0 : UInt8))]),osl NoB (r6 : List (Vector UInt8 16)) (ux5 2),osl NoB (r9 : List GEvent) (ux5 7),osl NoB (s21.1 : List GRecord) u22,opt (D 2) (osl NoB (r49 : List UInt8) (ux48 2)),opt (D 5) (osl NoB (r52 : List UInt8) (ux48 5))]:=hM
      exact Zp (v:=u37) hE Za ld (lk rfl f3) Uu rfl (At.cat (pre:=[[vI x29.Number],[vI x29.Version],enc x29.Nonce,[u35]]) (hM.rawAt (pre:=[])) (cl1 (n:=1) (m:=18) rfl (cl1 (n:=1) (m:=17) rfl (cl1 (n:=16) (m:=1) (Flat.len _) (cl1 (n:=1) (m:=0) rfl cl0))))) fun a hE=>⟨_,_,rfl,hE,rfl,hM0.optKeep rfl⟩
     ·intro a w ux48 D hE hM hD hp
      have f4 : ux48 4 = u37:=(hp 0 _ rfl rfl).2
      have hM0:=hM
      have hM : M (Old w0) w0 w [raw b39 (cat [[vI x29.Number],[vI x29.Version],enc x29.Nonce,[u35],[u37],enc x29.Tag]),raw b14 (cat [[(ux5 2)],[vI p0.Next],[u22],[(ux5 7)],enc p0.Head]),raw b3 (cat [[(Value.slice none 0 0)],[vI 0],[(Value.slice none 0 0)],[(Value.slice none 0 0)],enc (Vector.replicate 32 (0 : UInt8))]),osl NoB (r6 : List (Vector UInt8 16)) (ux5 2),osl NoB (r9 : List GEvent) (ux5 7),osl NoB (s21.1 : List GRecord) u22,opt (D 2) (osl NoB (r49 : List UInt8) (ux48 2)),opt (D 5) (osl NoB (r52 : List UInt8) (ux48 5))]:=hM
      refine Zt hE Za ld (ZV (ZT (lk rfl f4) YZ)) jZ (Vt _ x29.Body u37 (hM.rdo h38) r52 e53) ?_
      rintro _ w a ⟨_,rfl,hFr,hK⟩ hE
      have hM:=hM0.add hK hFr
      exact ⟨_,_,rfl,hE,trivial,M.optFill (mk1:=[_]) (mk2:=[]) (f:=(fun v=>osl NoB (r52 : List UInt8) v)) hM rfl hD⟩
     ·intro a w ux48 D hE hM hD hp
      have hM0:=hM
      exact Zg hE Za ld rfl (T9) fun a hE=>⟨_,_,rfl,hE,rfl,hM0.optKeep rfl⟩
     ·intro a w ux48 hE hM hg
      have hM : M (Old w0) w0 w [raw b39 (cat [[vI x29.Number],[vI x29.Version],enc x29.Nonce,[u35],[u37],enc x29.Tag]),raw b14 (cat [[(ux5 2)],[vI p0.Next],[u22],[(ux5 7)],enc p0.Head]),raw b3 (cat [[(Value.slice none 0 0)],[vI 0],[(Value.slice none 0 0)],[(Value.slice none 0 0)],enc (Vector.replicate 32 (0 : UInt8))]),osl NoB (r6 : List (Vector UInt8 16)) (ux5 2),osl NoB (r9 : List GEvent) (ux5 7),osl NoB (s21.1 : List GRecord) u22,osl NoB (r49 : List UInt8) (ux48 2),osl NoB (r52 : List UInt8) (ux48 5)]:=hM
      have hE:=hE.sub (e':=[(26,(ux48 2)),(29,(ux48 5)),(30,(ptr b39 (0 + 18))),(2,(ptr b3 0)),(3,(ptr b14 0)),(5,(ptr b39 0)),(18,v0_2),(19,(vI (p0.Records.length : Int))),(20,vI s21.2),(21,(vT (decide (s21.2 < (p0.Records.length : Int))))),(22,(ptr (sb v0_2) (so v0_2 + (s21.2).toNat * 52))),(23,(Value.agg (cat [[vI x29.Number],[vI x29.Version],enc x29.Nonce,[u35],[u37],enc x29.Tag]).toArray))]) ⟨rfl,rfl,lk rfl (hg 6 (by decide)),rfl,rfl,rfl,rfl,rfl,rfl,rfl,rfl,rfl,trivial⟩
      refine Zo (seg:=[(ux48 2)]) hE hM Za rfl rfl (YD (hM.sl (pre:=[_,_,_,_,_,_]) noB)) Uu rfl (YO (pre:=[[vI x29.Number],[vI x29.Version],enc x29.Nonce]) (cl1 (n:=1) (m:=17) rfl (cl1 (n:=1) (m:=16) rfl (cl1 (n:=16) (m:=0) (Flat.len _) cl0))) rfl) (Rep.cell (hM.sl (pre:=[_,_,_,_,_,_]) noB)) (ZX (pre:=[[vI x29.Number],[vI x29.Version],enc x29.Nonce]) (cl1 (n:=1) (m:=17) rfl (cl1 (n:=1) (m:=16) rfl (cl1 (n:=16) (m:=0) (Flat.len _) cl0))) rfl) fun w a hM hE=>Zg hE Za ld rfl (Qr) fun a hE=>Zo (seg:=[(ux48 5)]) hE hM Za rfl rfl (YD (hM.sl (pre:=[_,_,_,_,_,_,_]) noB)) Uu rfl (YO (pre:=[[vI x29.Number],[vI x29.Version],enc x29.Nonce,[(ux48 2)]]) (cl1 (n:=1) (m:=18) rfl (cl1 (n:=1) (m:=17) rfl (cl1 (n:=16) (m:=1) (Flat.len _) (cl1 (n:=1) (m:=0) rfl cl0)))) rfl) (Rep.cell (hM.sl (pre:=[_,_,_,_,_,_,_]) noB)) (ZX (pre:=[[vI x29.Number],[vI x29.Version],enc x29.Nonce,[(ux48 2)]]) (cl1 (n:=1) (m:=18) rfl (cl1 (n:=1) (m:=17) rfl (cl1 (n:=16) (m:=1) (Flat.len _) (cl1 (n:=1) (m:=0) rfl cl0)))) rfl) fun w a hM hE=>Zj ?_
      have ht55:=Option.some.inj hl42
      subst ht55
      refine Zn ?_
      exact ⟨(ux48 2),(ux48 5),hE.sub ⟨rfl,rfl,rfl,rfl,rfl,rfl,trivial⟩,hM⟩
    ·skip
     rintro a w ⟨u44,u46,hE,hM⟩
     refine wp_region_lit (Zg hE Za ld rfl (UC) fun a hE=>Zp (v:=u22) hE Za ld rfl QX rfl (At.cat (pre:=[[(ux5 2)],[vI p0.Next]]) (hM.rawAt (pre:=[_])) (cl1 (n:=1) (m:=1) rfl (cl1 (n:=1) (m:=0) rfl cl0))) fun a hE=>Zm (cs:=cat [[vI x29.Number],[vI x29.Version],enc x29.Nonce,[u44],[u46],enc x29.Tag]) hE Za ld rfl XZ rfl (hM.rawAt (pre:=[])) (Zh (cl1 (n:=1) (m:=51) rfl (cl1 (n:=1) (m:=50) rfl (cl1 (n:=16) (m:=34) (Flat.len _) (cl1 (n:=1) (m:=33) rfl (cl1 (n:=1) (m:=32) rfl (cl1 (n:=32) (m:=0) (Flat.len _) cl0))))))) ?_); intro a hE
     have hM:=(hM.pull (pre:=[_,_,_,_,_,_,_])).pull (pre:=[_,_,_,_,_,_,_])
     have hM:=hM.pack2 (it:=own NoB (⟨x29.Number,x29.Version,x29.Nonce,j41.1,j41.2,x29.Tag⟩ : GRecord) (cat [[vI x29.Number],[vI x29.Version],enc x29.Nonce,[u44],[u46],enc x29.Tag])) (Yc noB) (fun f0 f1 q0 q1=>(Vp (YG.sat q0) (YG.sat q1) (by simp)))
     refine zJ (xs:=[.tmp 34]) (seg:=cat [[vI x29.Number],[vI x29.Version],enc x29.Nonce,[u44],[u46],enc x29.Tag]) hE hM noB Za ld rfl rfl Tryz.underlying33 XZ rfl (by decide) ?_; intro u56 w a hM hE
     obtain ⟨l58,e59,hF43⟩:=bind_some hF43
     obtain ⟨e62,rfl⟩:=Yv e59
     have hM:=hM.pull (pre:=[_,_,_,_,_,_])
     refine AK hE hM noB Za ld rfl rfl Tryz.underlying33 XZ rfl (by decide) e62 fun u60 w a hM hE=>Zg hE Za ld rfl (UC) ?_; intro a hE
     have hM:=hM.pull (pre:=[_,_])
     refine Zo (seg:=[u60]) hE hM Za rfl rfl (YD (hM.sl (pre:=[_]) noB)) QX rfl (YO (pre:=[[(ux5 2)],[vI p0.Next]]) (cl1 (n:=1) (m:=1) rfl (cl1 (n:=1) (m:=0) rfl cl0)) rfl) (Rep.cell (hM.sl (pre:=[_]) noB)) (ZX (pre:=[[(ux5 2)],[vI p0.Next]]) (cl1 (n:=1) (m:=1) rfl (cl1 (n:=1) (m:=0) rfl cl0)) rfl) fun w a hM hE=>Zj (Yb (Zz (wp_region_lit (Zi hE Za ld rfl rfl rfl fun a hE=>Zd hE Za ld rfl fun a hE=>Zj (Zn ?_)))))
     have hM:=M.fst (l:=[_,_,_,_,_]) (((((hM.pull (pre:=[_])).pull (pre:=[_,_,_,_,_])).pull (pre:=[_,_,_,_,_])).pull (pre:=[_,_,_,_,_])).pull (pre:=[_,_,_,_]))
     exact ⟨_,(ois hF43),u60,hE.sub ⟨rfl,rfl,rfl,rfl,rfl,trivial⟩,hM⟩
   ·intro hb28
    have hs24:=ZB hs24 hb28
    refine wp_exit (Zq (Zq (Yf ?_)))
    have ht63:=hx25 _ (ois hs24)
    subst ht63
    refine Zn ?_
    exact ⟨u22,hE.sub ⟨rfl,rfl,trivial⟩,hM⟩
  ·skip
   rintro a w ⟨u19,hE,hM⟩
   refine Zz (Zc (Zm (cs:=cat [[(ux5 2)],[vI p0.Next],[u19],[(ux5 7)],enc p0.Head]) hE Za ld rfl Yx rfl (hM.rawAt (pre:=[])) (Zh (cl1 (n:=1) (m:=35) rfl (cl1 (n:=1) (m:=34) rfl (cl1 (n:=1) (m:=33) rfl (cl1 (n:=1) (m:=32) rfl (cl1 (n:=32) (m:=0) (Flat.len _) cl0)))))) ?_)); intro a hE
   have hM:=hM.pull (pre:=[_])
   refine Zo (seg:=cat [[(ux5 2)],[vI p0.Next],[u19],[(ux5 7)],enc p0.Head]) (cs':=cat [[(ux5 2)],[vI p0.Next],[u19],[(ux5 7)],enc p0.Head]) hE hM Za rfl rfl rfl Yx (Zh (cl1 (n:=1) (m:=35) rfl (cl1 (n:=1) (m:=34) rfl (cl1 (n:=1) (m:=33) rfl (cl1 (n:=1) (m:=32) rfl (cl1 (n:=32) (m:=0) (Flat.len _) cl0)))))) (Nat.le_of_eq ((Nat.zero_add _).trans (Eq.trans (Zh (cl1 (n:=1) (m:=35) rfl (cl1 (n:=1) (m:=34) rfl (cl1 (n:=1) (m:=33) rfl (cl1 (n:=1) (m:=32) rfl (cl1 (n:=32) (m:=0) (Flat.len _) cl0)))))) (Eq.symm (Zh (cl1 (n:=1) (m:=35) rfl (cl1 (n:=1) (m:=34) rfl (cl1 (n:=1) (m:=33) rfl (cl1 (n:=1) (m:=32) rfl (cl1 (n:=32) (m:=0) (Flat.len _) cl0)))))))))) (Z5 (cc1 (Rep.cell (hM.sl (pre:=[_,_]) noB)) (cc1 (Flat.cell (p0.Next : Int)) (cc1 (Rep.cell (hM.sl (pre:=[_,_,_,_]) noB)) (cc1 (Rep.cell (hM.sl (pre:=[_,_,_]) noB)) (cc1 (Flat.cell _) cc0)))))) (Zl (Eq.trans (Zh (cl1 (n:=1) (m:=35) rfl (cl1 (n:=1) (m:=34) rfl (cl1 (n:=1) (m:=33) rfl (cl1 (n:=1) (m:=32) rfl (cl1 (n:=32) (m:=0) (Flat.len _) cl0)))))) (Eq.symm (Zh (cl1 (n:=1) (m:=35) rfl (cl1 (n:=1) (m:=34) rfl (cl1 (n:=1) (m:=33) rfl (cl1 (n:=1) (m:=32) rfl (cl1 (n:=32) (m:=0) (Flat.len _) cl0))))))))) fun w a hM hE=>Zf ?_
   have hr:=Option.some.inj hF18
   subst hr
   have hq64 : Yw Tryz.prog _ _ (.cell 2 36) _:=ZO hE rfl Yx rfl (hM.rawAt (pre:=[])) (Zh (cl1 (n:=1) (m:=35) rfl (cl1 (n:=1) (m:=34) rfl (cl1 (n:=1) (m:=33) rfl (cl1 (n:=1) (m:=32) rfl (cl1 (n:=32) (m:=0) (Flat.len _) cl0)))))) rfl
   have hM:=M.fst (l:=[_,_,_]) (((hM.pull (pre:=[_,_,_])).pull (pre:=[_,_,_,_])).pull (pre:=[_,_,_,_]))
   exact wp_ret (Zy hE rfl hq64 ⟨_,rfl,(ux5 2),u19,(ux5 7),rfl,hM.outF (Yo (Yo (Yo Xs))),hM.kept⟩)
def Td (p1 : Int) (p2 : Int) (s4 : Int × Int) : Option (Fl (Int × Int) Int) :=
 if (decide (s4.2 ≥ p2)) = true then (((XS s4.2).bind fun _=>(if ((Qi (Tj s4.1 s4.2) 1) == 1) = true then ((XS (wr (s4.2 - p2))).bind fun _=>some (Q0 s4.1 (Af p1 (wr (s4.2 - p2))))) else (some s4.1) : Option (Int)).bind fun j13=>some j13 : Option (Int)).bind fun j9=>some (Fl.nx (j9,wr (s4.2 - 1)))) else (some (Fl.ex s4.1))
def TG (p0 : Int) (p1 : Int) (p2 : Int) : Option (Int) :=
 (ZG (Td p1 p2) (p0,15)).bind fun j1=>some j1
theorem z5 (w0 : World) (p0 : Int) (p1 : Int) (p2 : Int) (r : Int) (hF : TG p0 p1 p2 = some r) :
  Calls Tryz.prog 249 [vI p0,vI p1,vI p2].toArray w0 (fun en w'=>∃ v,en = .returned v ∧ (v = (vI r) ∧ Kept (Old w0) w0 w')):=by
 refine ZD (n:=26) Tryz.func249 rfl rfl (nbl rfl) rfl ?_
 intro a hE
 have hM:=M.start w0
 unfold TG at hF
 refine Zc (Ze hE Za ld rfl fun a hE=>Zf (wp_seq (Zc (Ze hE Za ld rfl fun a hE=>Zf ?_))))
 obtain ⟨j1,hl2,hF3⟩:=bind_some hF
 refine ZP (fun a w=>Env 26 a [(0,vI j1)] ∧ M (Old w0) w0 w []) ?_ ?_
 ·skip
  refine wp_block ?_
  refine ZI (fun (s4 : Int × Int) a w=>Env 26 a [(0,vI s4.1),(1,vI p1),(2,vI p2),(7,vI s4.2)] ∧ M (Old w0) w0 w []) hl2 ⟨hE.sub ⟨rfl,rfl,rfl,rfl,trivial⟩,hM⟩ ?_
  rintro s4 a w ⟨hE,hM⟩ o7 hs5 hx6
  unfold Td at hs5
  refine wp_seq (Zc (Zd hE Za ld rfl fun a hE=>Zd hE Za ld rfl fun a hE=>Zi hE Za ld rfl rfl rfl fun a hE=>Zf ?_))
  refine Zs hE rfl ?_ ?_
  ·intro hb8
   have hs5:=ZA hs5 hb8
   refine wp_skip (Zz ?_)
   obtain ⟨j9,hl10,hF11⟩:=bind_some hs5
   refine ZS (fun a w=>Env 26 a [(0,vI j9),(1,vI p1),(2,vI p2),(7,vI s4.2)] ∧ M (Old w0) w0 w []) ?_ ?_
   ·skip
    refine wp_block (Zc (Zd hE Za ld rfl fun a hE=>Zd hE Za ld rfl ?_)); intro a hE
    obtain ⟨_,e12,hl10⟩:=bind_some hl10
    have e12:=Vm e12
    refine Hh hE Za ld rfl rfl (Jk _ _ e12) fun a hE=>Zi hE Za ld rfl rfl rfl fun a hE=>Zi hE Za ld rfl rfl rfl fun a hE=>Zf ?_
    obtain ⟨j13,hl14,hF15⟩:=bind_some hl10
    refine ZP (fun a w=>Env 26 a [(0,vI j13),(1,vI p1),(2,vI p2),(7,vI s4.2)] ∧ M (Old w0) w0 w []) ?_ ?_
    ·skip
     refine Zs hE rfl ?_ ?_
     ·intro hb16
      have hl14:=ZA hl14 hb16
      refine wp_region_lit (Zd hE Za ld rfl fun a hE=>Zd hE Za ld rfl fun a hE=>Zd hE Za ld rfl fun a hE=>Zd hE Za ld rfl fun a hE=>Zi hE Za ld rfl rfl rfl ?_); intro a hE
      obtain ⟨_,e17,hl14⟩:=bind_some hl14
      have e17:=Vm e17
      refine Hh hE Za ld rfl rfl (yR _ _ e17) fun a hE=>Zi hE Za ld rfl rfl rfl fun a hE=>Ze hE Za ld rfl fun a hE=>Zj ?_
      have ht18:=Option.some.inj hl14
      subst ht18
      refine Zn ?_
      exact ⟨hE.sub ⟨rfl,rfl,rfl,rfl,trivial⟩,hM⟩
     ·intro hb16
      have hl14:=ZB hl14 hb16
      refine wp_skip ?_
      have ht19:=Option.some.inj hl14
      subst ht19
      refine Zn ?_
      exact ⟨hE.sub ⟨rfl,rfl,rfl,rfl,trivial⟩,hM⟩
    ·skip
     rintro a w ⟨hE,hM⟩
     refine Yb ?_
     have ht20:=Option.some.inj hF15
     subst ht20
     refine Zn ?_
     exact ⟨hE.sub ⟨rfl,rfl,rfl,rfl,trivial⟩,hM⟩
   ·skip
    rintro a w ⟨hE,hM⟩
    refine wp_region_lit (Zd hE Za ld rfl fun a hE=>Zi hE Za ld rfl rfl rfl fun a hE=>Ze hE Za ld rfl fun a hE=>Zj (Zn ?_))
    exact ⟨_,(ois hF11),hE.sub ⟨rfl,rfl,rfl,rfl,trivial⟩,hM⟩
  ·intro hb8
   have hs5:=ZB hs5 hb8
   refine wp_exit (Zq (Zq (Yf ?_)))
   have ht21:=hx6 _ (ois hs5)
   subst ht21
   refine Zn ?_
   exact ⟨hE.sub ⟨rfl,trivial⟩,hM⟩
 ·skip
  rintro a w ⟨hE,hM⟩
  refine Zz (Zc (Zd hE Za ld rfl fun a hE=>Ze hE Za ld rfl fun a hE=>Zf ?_))
  have hr:=Option.some.inj hF3
  subst hr
  exact wp_ret (Zy hE rfl (Zu hE rfl) ⟨_,rfl,rfl,hM.kept⟩)
def Xz (p1 : UInt8) (p2 : UInt8) (s4 : Int × Int) : Option (Fl (Int × Int) Int) :=
 if (decide (s4.2 < 8)) = true then (((XS s4.2).bind fun _=>(if (((BF p2 s4.2) &&& 1) == 1) = true then ((XS s4.2).bind fun _=>some (Q0 s4.1 (Af (bI p1) s4.2))) else (some s4.1) : Option (Int)).bind fun j13=>some j13 : Option (Int)).bind fun j9=>some (Fl.nx (j9,wr (s4.2 + 1)))) else (some (Fl.ex s4.1))
def Z9 (p0 : Int) (p1 : UInt8) (p2 : UInt8) : Option (UInt8) :=
 (ZG (Xz p1 p2) (0,0)).bind fun j1=>(TG j1 p0 8).bind fun r22=>some (ZC r22)
theorem YR (w0 : World) (p0 : Int) (p1 : UInt8) (p2 : UInt8) (r : UInt8) (hF : Z9 p0 p1 p2 = some r) :
  Calls Tryz.prog 239 [vI p0,vB p1,vB p2].toArray w0 (fun en w'=>∃ v,en = .returned v ∧ (v = (vB r) ∧ Kept (Old w0) w0 w')):=by
 refine ZD (n:=28) Tryz.func239 rfl rfl (nbl rfl) rfl ?_
 intro a hE
 have hM:=M.start w0
 unfold Z9 at hF
 refine Zc (Ze hE Za ld rfl fun a hE=>Zf (Zc (Ze hE Za ld rfl fun a hE=>Zf (wp_seq (Zc (Zd hE Za ld rfl fun a hE=>Zf ?_))))))
 obtain ⟨j1,hl2,hF3⟩:=bind_some hF
 refine ZP (fun a w=>Env 28 a [(0,vI p0),(7,vI j1)] ∧ M (Old w0) w0 w []) ?_ ?_
 ·skip
  refine wp_block ?_
  refine ZI (fun (s4 : Int × Int) a w=>Env 28 a [(0,vI p0),(1,vB p1),(2,vB p2),(7,vI s4.1),(9,vI s4.2)] ∧ M (Old w0) w0 w []) hl2 ⟨hE.sub ⟨rfl,rfl,rfl,rfl,rfl,trivial⟩,hM⟩ ?_
  rintro s4 a w ⟨hE,hM⟩ o7 hs5 hx6
  unfold Xz at hs5
  refine Zc (Zi hE Za ld rfl rfl rfl fun a hE=>Zf (wp_seq ?_))
  refine Zs hE rfl ?_ ?_
  ·intro hb8
   have hs5:=ZA hs5 hb8
   refine wp_skip (Zz ?_)
   obtain ⟨j9,hl10,hF11⟩:=bind_some hs5
   refine ZS (fun a w=>Env 28 a [(0,vI p0),(1,vB p1),(2,vB p2),(7,vI j9),(9,vI s4.2)] ∧ M (Old w0) w0 w []) ?_ ?_
   ·skip
    refine wp_block (Zc (Zd hE Za ld rfl fun a hE=>Ze hE Za ld rfl fun a hE=>Zf (Zc (Zd hE Za ld rfl fun a hE=>Zd hE Za ld rfl ?_)))); intro a hE
    obtain ⟨_,e12,hl10⟩:=bind_some hl10
    have e12:=Vm e12
    refine Hh hE Za ld rfl rfl (kf _ _ e12) fun a hE=>Zi hE Za ld rfl rfl (bB_and (BF p2 s4.2) 1) fun a hE=>Zi hE Za ld rfl rfl (kB ((BF p2 s4.2) &&& 1) 1) fun a hE=>Zf ?_
    obtain ⟨j13,hl14,hF15⟩:=bind_some hl10
    refine ZP (fun a w=>Env 28 a [(0,vI p0),(1,vB p1),(2,vB p2),(7,vI j13),(9,vI s4.2)] ∧ M (Old w0) w0 w []) ?_ ?_
    ·skip
     refine Zs hE rfl ?_ ?_
     ·intro hb16
      have hl14:=ZA hl14 hb16
      refine wp_region_lit (Zd hE Za ld rfl fun a hE=>Zd hE Za ld rfl fun a hE=>Yz hE Za ld rfl Tryz.underlying5 Tryz.underlying2 ?_); intro a hE
      rw [KN] at hE
      refine Zd hE Za ld rfl ?_; intro a hE
      obtain ⟨_,e17,hl14⟩:=bind_some hl14
      have e17:=Vm e17
      refine Hh hE Za ld rfl rfl (yR _ _ e17) fun a hE=>Zi hE Za ld rfl rfl rfl fun a hE=>Ze hE Za ld rfl fun a hE=>Zj ?_
      have ht18:=Option.some.inj hl14
      subst ht18
      refine Zn ?_
      exact ⟨hE.sub ⟨rfl,rfl,rfl,rfl,rfl,trivial⟩,hM⟩
     ·intro hb16
      have hl14:=ZB hl14 hb16
      refine wp_skip ?_
      have ht19:=Option.some.inj hl14
      subst ht19
      refine Zn ?_
      exact ⟨hE.sub ⟨rfl,rfl,rfl,rfl,rfl,trivial⟩,hM⟩
    ·skip
     rintro a w ⟨hE,hM⟩
     refine Yb ?_
     have ht20:=Option.some.inj hF15
     subst ht20
     refine Zn ?_
     exact ⟨hE.sub ⟨rfl,rfl,rfl,rfl,rfl,trivial⟩,hM⟩
   ·skip
    rintro a w ⟨hE,hM⟩
    refine wp_region_lit (Zi hE Za ld rfl rfl rfl fun a hE=>Zd hE Za ld rfl fun a hE=>Zj (Zn ?_))
    exact ⟨_,(ois hF11),hE.sub ⟨rfl,rfl,rfl,rfl,rfl,trivial⟩,hM⟩
  ·intro hb8
   have hs5:=ZB hs5 hb8
   refine wp_exit (Zq (Zq (Yf ?_)))
   have ht21:=hx6 _ (ois hs5)
   subst ht21
   refine Zn ?_
   exact ⟨hE.sub ⟨rfl,rfl,trivial⟩,hM⟩
 ·skip
  rintro a w ⟨hE,hM⟩
  refine Zz (Zc (Zd hE Za ld rfl fun a hE=>Zd hE Za ld rfl ?_)); intro a hE
  obtain ⟨r22,e23,hF3⟩:=bind_some hF3
  refine Zt hE Za ld rfl cb249 (z5 _ j1 p0 8 r22 e23) ?_
  rintro v w a ⟨rfl,hK⟩ hE
  have hM:=hM.keep hK
  refine Yz hE Za ld rfl Tryz.underlying2 Tryz.underlying5 ?_; intro a hE
  rw [ZW] at hE
  refine Ze hE Za ld rfl fun a hE=>Zf ?_
  have hr:=Option.some.inj hF3
  subst hr
  exact wp_ret (Zy hE rfl (Zu hE rfl) ⟨_,rfl,rfl,hM.kept⟩)
def Vz (p0 : Int) (s4 : UInt8 × Int × UInt8) : Option (Fl (UInt8 × Int × UInt8) UInt8) :=
 if (decide (s4.2.1 > 0)) = true then (((if ((Int.tmod s4.2.1 2) == 1) = true then ((Z9 p0 s4.2.2 s4.1).bind fun r16=>some r16) else (some s4.2.2) : Option (UInt8)).bind fun j12=>(Z9 p0 s4.1 s4.1).bind fun r20=>some (r20,j12) : Option (UInt8 × UInt8)).bind fun j9=>some (Fl.nx (j9.1,wr (Int.tdiv s4.2.1 2),j9.2))) else (some (Fl.ex s4.2.2))
def XP (p0 : Int) (p1 : UInt8) (p2 : Int) : Option (UInt8) :=
 (ZG (Vz p0) (p1,p2,1)).bind fun j1=>some j1
theorem Js (w0 : World) (p0 : Int) (p1 : UInt8) (p2 : Int) (r : UInt8) (hF : XP p0 p1 p2 = some r) :
  Calls Tryz.prog 240 [vI p0,vB p1,vI p2].toArray w0 (fun en w'=>∃ v,en = .returned v ∧ (v = (vB r) ∧ Kept (Old w0) w0 w')):=by
 refine ZD (n:=24) Tryz.func240 rfl rfl (nbl rfl) rfl ?_
 intro a hE
 have hM:=M.start w0
 unfold XP at hF
 refine Zc (Ze hE Za ld rfl fun a hE=>Zf (Zc (Ze hE Za ld rfl fun a hE=>Zf ?_)))
 obtain ⟨j1,hl2,hF3⟩:=bind_some hF
 refine ZS (fun a w=>Env 24 a [(7,vB j1)] ∧ M (Old w0) w0 w []) ?_ ?_
 ·skip
  refine wp_block ?_
  refine ZI (fun (s4 : UInt8 × Int × UInt8) a w=>Env 24 a [(0,vI p0),(1,vB s4.1),(2,vI s4.2.1),(7,vB s4.2.2)] ∧ M (Old w0) w0 w []) hl2 ⟨hE.sub ⟨rfl,rfl,rfl,rfl,trivial⟩,hM⟩ ?_
  rintro s4 a w ⟨hE,hM⟩ o7 hs5 hx6
  unfold Vz at hs5
  refine wp_seq (Zc (Zd hE Za ld rfl fun a hE=>Zi hE Za ld rfl rfl rfl fun a hE=>Zf ?_))
  refine Zs hE rfl ?_ ?_
  ·intro hb8
   have hs5:=ZA hs5 hb8
   refine wp_skip (Zz ?_)
   obtain ⟨j9,hl10,hF11⟩:=bind_some hs5
   refine ZS (fun a w=>Env 24 a [(0,vI p0),(1,vB j9.1),(2,vI s4.2.1),(7,vB j9.2)] ∧ M (Old w0) w0 w []) ?_ ?_
   ·skip
    refine wp_block ?_
    obtain ⟨j12,hl13,hF14⟩:=bind_some hl10
    refine ZS (fun a w=>Env 24 a [(0,vI p0),(1,vB s4.1),(2,vI s4.2.1),(7,vB j12)] ∧ M (Old w0) w0 w []) ?_ ?_
    ·skip
     refine Zc (Zd hE Za ld rfl fun a hE=>Zi hE Za ld rfl rfl (QH _ _ (by decide)) fun a hE=>Zi hE Za ld rfl rfl rfl fun a hE=>Zf ?_)
     refine Zs hE rfl ?_ ?_
     ·intro hb15
      have hl13:=ZA hl13 hb15
      refine wp_region_lit (Zd hE Za ld rfl fun a hE=>Zd hE Za ld rfl fun a hE=>Zd hE Za ld rfl ?_); intro a hE
      obtain ⟨r16,e17,hl13⟩:=bind_some hl13
      refine Zt hE Za ld rfl HD (YR _ p0 s4.2.2 s4.1 r16 e17) ?_
      rintro v w a ⟨rfl,hK⟩ hE
      have hM:=hM.keep hK
      refine Ze hE Za ld rfl fun a hE=>Zj ?_
      have ht18:=Option.some.inj hl13
      subst ht18
      refine Zn ?_
      exact ⟨hE.sub ⟨rfl,rfl,rfl,rfl,trivial⟩,hM⟩
     ·intro hb15
      have hl13:=ZB hl13 hb15
      refine wp_skip ?_
      have ht19:=Option.some.inj hl13
      subst ht19
      refine Zn ?_
      exact ⟨hE.sub ⟨rfl,rfl,rfl,rfl,trivial⟩,hM⟩
    ·skip
     rintro a w ⟨hE,hM⟩
     refine wp_region_lit (Zd hE Za ld rfl fun a hE=>Zd hE Za ld rfl fun a hE=>Zd hE Za ld rfl ?_); intro a hE
     obtain ⟨r20,e21,hF14⟩:=bind_some hF14
     refine Zt hE Za ld rfl HD (YR _ p0 s4.1 s4.1 r20 e21) ?_
     rintro v w a ⟨rfl,hK⟩ hE
     have hM:=hM.keep hK
     refine Ze hE Za ld rfl fun a hE=>Zj (Yb ?_)
     have ht22:=Option.some.inj hF14
     subst ht22
     refine Zn ?_
     exact ⟨hE.sub ⟨rfl,rfl,rfl,rfl,trivial⟩,hM⟩
   ·skip
    rintro a w ⟨hE,hM⟩
    refine wp_region_lit (Zd hE Za ld rfl fun a hE=>Zi hE Za ld rfl rfl (A9 _ _ (by decide)) fun a hE=>Ze hE Za ld rfl fun a hE=>Zj (Zn ?_))
    exact ⟨_,(ois hF11),hE.sub ⟨rfl,rfl,rfl,rfl,trivial⟩,hM⟩
  ·intro hb8
   have hs5:=ZB hs5 hb8
   refine wp_exit (Zq (Zq (Yf ?_)))
   have ht23:=hx6 _ (ois hs5)
   subst ht23
   refine Zn ?_
   exact ⟨hE.sub ⟨rfl,trivial⟩,hM⟩
 ·skip
  rintro a w ⟨hE,hM⟩
  refine Zc (Zd hE Za ld rfl fun a hE=>Ze hE Za ld rfl fun a hE=>Zf ?_)
  have hr:=Option.some.inj hF3
  subst hr
  exact wp_ret (Zy hE rfl (Zu hE rfl) ⟨_,rfl,rfl,hM.kept⟩)
def Yp (p0 : Int) (p1 : UInt8) : Option (UInt8) :=
 (XP p0 p1 254).bind fun r1=>some r1
theorem UQ (w0 : World) (p0 : Int) (p1 : UInt8) (r : UInt8) (hF : Yp p0 p1 = some r) :
  Calls Tryz.prog 219 [vI p0,vB p1].toArray w0 (fun en w'=>∃ v,en = .returned v ∧ (v = (vB r) ∧ Kept (Old w0) w0 w')):=by
 refine ZD (n:=8) Tryz.func219 rfl rfl (nbl rfl) rfl ?_
 intro a hE
 have hM:=M.start w0
 unfold Yp at hF
 refine Zc (Ze hE Za ld rfl fun a hE=>Zf (Zc (Zd hE Za ld rfl fun a hE=>Zd hE Za ld rfl ?_))); intro a hE
 obtain ⟨r1,e2,hF⟩:=bind_some hF
 refine Zt hE Za ld rfl cb240 (Js _ p0 p1 254 r1 e2) ?_
 rintro v w a ⟨rfl,hK⟩ hE
 have hM:=hM.keep hK
 refine Ze hE Za ld rfl fun a hE=>Zf ?_
 have hr:=Option.some.inj hF
 subst hr
 exact wp_ret (Zy hE rfl (Zu hE rfl) ⟨_,rfl,rfl,hM.kept⟩)
def Ym (p0 : UInt8) (p1 : Int) : Option (UInt8) :=
 (XS (wru (BitVec.ofInt 64 (IntKind.u64.wrap p1) &&& BitVec.ofInt 64 7).toNat)).bind fun _=>(XS (IntKind.u64.wrap (8 - (wru (BitVec.ofInt 64 (IntKind.u64.wrap p1) &&& BitVec.ofInt 64 7).toNat)))).bind fun _=>some ((shlB p0 (wru (BitVec.ofInt 64 (IntKind.u64.wrap p1) &&& BitVec.ofInt 64 7).toNat)) ||| (BF p0 (IntKind.u64.wrap (8 - (wru (BitVec.ofInt 64 (IntKind.u64.wrap p1) &&& BitVec.ofInt 64 7).toNat)))))
theorem TH (w0 : World) (p0 : UInt8) (p1 : Int) (r : UInt8) (hF : Ym p0 p1 = some r) :
  Calls Tryz.prog 220 [vB p0,vI p1].toArray w0 (fun en w'=>∃ v,en = .returned v ∧ (v = (vB r) ∧ Kept (Old w0) w0 w')):=by
 refine ZD (n:=17) Tryz.func220 rfl rfl (nbl rfl) rfl ?_
 intro a hE
 have hM:=M.start w0
 unfold Ym at hF
 refine Zc (Ze hE Za ld rfl fun a hE=>Zf (Zc (Zd hE Za ld rfl fun a hE=>Yz hE Za ld rfl Tryz.underlying3 Tryz.underlying198 fun a hE=>Zi hE Za ld rfl rfl rfl fun a hE=>Ze hE Za ld rfl fun a hE=>Zf (Zc (Zd hE Za ld rfl fun a hE=>Zd hE Za ld rfl ?_))))); intro a hE
 obtain ⟨_,e1,hF⟩:=bind_some hF
 have e1:=Vm e1
 refine Hh hE Za ld rfl rfl (bB_shl _ _ e1) fun a hE=>Zd hE Za ld rfl fun a hE=>Zd hE Za ld rfl fun a hE=>Zi hE Za ld rfl rfl rfl ?_; intro a hE
 obtain ⟨_,e2,hF⟩:=bind_some hF
 have e2:=Vm e2
 refine Hh hE Za ld rfl rfl (kf _ _ e2) fun a hE=>Zi hE Za ld rfl rfl (bB_or (shlB p0 (wru (BitVec.ofInt 64 (IntKind.u64.wrap p1) &&& BitVec.ofInt 64 7).toNat)) (BF p0 (IntKind.u64.wrap (8 - (wru (BitVec.ofInt 64 (IntKind.u64.wrap p1) &&& BitVec.ofInt 64 7).toNat))))) fun a hE=>Ze hE Za ld rfl fun a hE=>Zf ?_
 have hr:=Option.some.inj hF
 subst hr
 exact wp_ret (Zy hE rfl (Zu hE rfl) ⟨_,rfl,rfl,hM.kept⟩)
def Wm (s8 : (Vector UInt8 256) × Int) : Option (Fl ((Vector UInt8 256) × Int) (Vector UInt8 256)) :=
 if (decide (s8.2 < 256)) = true then ((Yp 285 (ZC s8.2)).bind fun r13=>(Ym r13 1).bind fun r15=>(Ym r13 4).bind fun r17=>(ZM s8.1 s8.2).bind fun x20=>some (Fl.nx ((s8.1.setIfInBounds (s8.2).toNat (((r13 ^^^ r15) ^^^ r17) ^^^ 90)),wr (s8.2 + 1)))) else (some (Fl.ex s8.1))
def Vu (s26 : (Vector (Vector UInt8 4) 4) × Int) (s34 : (Vector (Vector UInt8 4) 4) × Int) : Option (Fl ((Vector (Vector UInt8 4) 4) × Int) (Vector (Vector UInt8 4) 4)) :=
 if (decide (s34.2 < 4)) = true then ((Yp 285 (ZC (Q0 s26.2 (wr (4 + s34.2))))).bind fun r40=>(ZM s34.1 s26.2).bind fun x43=>(ZM x43 s34.2).bind fun x46=>some (Fl.nx ((s34.1.setIfInBounds (s26.2).toNat (x43.setIfInBounds (s34.2).toNat r40)),wr (s34.2 + 1)))) else (some (Fl.ex s34.1))
def Vx (s26 : (Vector (Vector UInt8 4) 4) × Int) : Option (Fl ((Vector (Vector UInt8 4) 4) × Int) (Vector (Vector UInt8 4) 4)) :=
 if (decide (s26.2 < 4)) = true then ((ZG (Vu s26) (s26.1,0)).bind fun j31=>some (Fl.nx (j31,wr (s26.2 + 1)))) else (some (Fl.ex s26.1))
def VB (s53 : (Vector UInt8 16) × Int) : Option (Fl ((Vector UInt8 16) × Int) (Vector UInt8 16)) :=
 if (decide (s53.2 < 16)) = true then ((ZM s53.1 s53.2).bind fun x59=>some (Fl.nx ((s53.1.setIfInBounds (s53.2).toNat (ZC (Int.tmod (wr ((wr (13 * s53.2)) + 4)) 16))),wr (s53.2 + 1)))) else (some (Fl.ex s53.1))
def WU (p0 : Int) : Option (GCipher) :=
 (ZG (Wm) ((Vector.replicate 256 (0 : UInt8)),0)).bind fun j5=>(ZG (Vx) ((Vector.replicate 4 (Vector.replicate 4 (0 : UInt8))),0)).bind fun j23=>(ZG (VB) ((Vector.replicate 16 (0 : UInt8)),0)).bind fun j50=>some (⟨285,j5,j23,j50,p0⟩ : GCipher)
theorem K3 (w0 : World) (p0 : Int) (r : GCipher) (hF : WU p0 = some r) :
  Calls Tryz.prog 186 [vI p0].toArray w0 (fun en w'=>∃ v,en = .returned v ∧ (v = (Value.agg (enc r).toArray) ∧ Kept (Old w0) w0 w')):=by
 refine ZD (n:=61) Tryz.func186 rfl rfl (nbl rfl) rfl ?_
 intro a hE
 have hM:=M.start w0
 unfold WU at hF
 refine Zc (ZE hE hM Za ld V4 fun b1 w a hM hE=>Zf (Zc (Zd hE Za ld rfl fun a hE=>XO (parts:=[(0,.const (vI 285)),(4,.tmp 9)]) (vs:=[(0,vI 285),(4,vI p0)]) (cs:=cat [[vI 285],enc (Vector.replicate 256 (0 : UInt8)),enc (Vector.replicate 4 (Vector.replicate 4 (0 : UInt8))),enc (Vector.replicate 16 (0 : UInt8)),[vI p0]]) hE Za ld rfl rfl V4 pl173 (Yt (pre:=[]) (seg:=[vI 0]) (seg':=[vI 285]) (post:=[enc (Vector.replicate 256 (0 : UInt8)),enc (Vector.replicate 4 (Vector.replicate 4 (0 : UInt8))),enc (Vector.replicate 16 (0 : UInt8)),[vI 0]]) rfl cl0 rfl rfl rfl (Yt (pre:=[[vI 285],enc (Vector.replicate 256 (0 : UInt8)),enc (Vector.replicate 4 (Vector.replicate 4 (0 : UInt8))),enc (Vector.replicate 16 (0 : UInt8))]) (seg:=[vI 0]) (seg':=[vI p0]) (post:=[]) rfl (cl1 (n:=1) (m:=288) rfl (cl1 (n:=256) (m:=32) (Flat.len _) (cl1 (n:=16) (m:=16) (Flat.len _) (cl1 (n:=16) (m:=0) (Flat.len _) cl0)))) rfl rfl rfl VU)) fun a hE=>ZE hE hM Za ld V4 fun b3 w a hM hE=>Zo (seg:=cat [[vI 285],enc (Vector.replicate 256 (0 : UInt8)),enc (Vector.replicate 4 (Vector.replicate 4 (0 : UInt8))),enc (Vector.replicate 16 (0 : UInt8)),[vI p0]]) (cs':=cat [[vI 285],enc (Vector.replicate 256 (0 : UInt8)),enc (Vector.replicate 4 (Vector.replicate 4 (0 : UInt8))),enc (Vector.replicate 16 (0 : UInt8)),[vI p0]]) hE hM Za rfl rfl rfl V4 (Zh (cl1 (n:=1) (m:=289) rfl (cl1 (n:=256) (m:=33) (Flat.len _) (cl1 (n:=16) (m:=17) (Flat.len _) (cl1 (n:=16) (m:=1) (Flat.len _) (cl1 (n:=1) (m:=0) rfl cl0)))))) (Nat.le_of_eq ((Nat.zero_add _).trans (Eq.trans (Zh (cl1 (n:=1) (m:=289) rfl (cl1 (n:=256) (m:=33) (Flat.len _) (cl1 (n:=16) (m:=17) (Flat.len _) (cl1 (n:=16) (m:=1) (Flat.len _) (cl1 (n:=1) (m:=0) rfl cl0)))))) (Eq.symm (Zh (cl1 (n:=1) (m:=289) rfl (cl1 (n:=256) (m:=33) (Flat.len _) (cl1 (n:=16) (m:=17) (Flat.len _) (cl1 (n:=16) (m:=1) (Flat.len _) (cl1 (n:=1) (m:=0) rfl cl0)))))))))) (Z5 (cc1 (Flat.cell (285 : Int)) (cc1 (Flat.cell _) (cc1 (Flat.cell _) (cc1 (Flat.cell _) (cc1 (Flat.cell (p0 : Int)) cc0)))))) (Zl (Eq.trans (Zh (cl1 (n:=1) (m:=289) rfl (cl1 (n:=256) (m:=33) (Flat.len _) (cl1 (n:=16) (m:=17) (Flat.len _) (cl1 (n:=16) (m:=1) (Flat.len _) (cl1 (n:=1) (m:=0) rfl cl0)))))) (Eq.symm (Zh (cl1 (n:=1) (m:=289) rfl (cl1 (n:=256) (m:=33) (Flat.len _) (cl1 (n:=16) (m:=17) (Flat.len _) (cl1 (n:=16) (m:=1) (Flat.len _) (cl1 (n:=1) (m:=0) rfl cl0))))))))) fun w a hM hE=>Zf (wp_seq (Zc (Zd hE Za ld rfl fun a hE=>Zf ?_))))))
 obtain ⟨j5,hl6,hF7⟩:=bind_some hF
 refine ZP (fun a w=>Env 61 a [(2,(ptr b1 0)),(3,(ptr b3 0))] ∧ M (Old w0) w0 w [raw b3 (cat [[vI 285],enc j5,enc (Vector.replicate 4 (Vector.replicate 4 (0 : UInt8))),enc (Vector.replicate 16 (0 : UInt8)),[vI p0]]),raw b1 (cat [[vI 0],enc (Vector.replicate 256 (0 : UInt8)),enc (Vector.replicate 4 (Vector.replicate 4 (0 : UInt8))),enc (Vector.replicate 16 (0 : UInt8)),[vI 0]])]) ?_ ?_
 ·skip
  refine wp_block ?_
  refine ZI (fun (s8 : (Vector UInt8 256) × Int) a w=>Env 61 a [(2,(ptr b1 0)),(3,(ptr b3 0)),(11,vI s8.2)] ∧ M (Old w0) w0 w [raw b3 (cat [[vI 285],enc s8.1,enc (Vector.replicate 4 (Vector.replicate 4 (0 : UInt8))),enc (Vector.replicate 16 (0 : UInt8)),[vI p0]]),raw b1 (cat [[vI 0],enc (Vector.replicate 256 (0 : UInt8)),enc (Vector.replicate 4 (Vector.replicate 4 (0 : UInt8))),enc (Vector.replicate 16 (0 : UInt8)),[vI 0]])]) hl6 ⟨hE.sub ⟨rfl,rfl,rfl,trivial⟩,hM⟩ ?_
  rintro s8 a w ⟨hE,hM⟩ o11 hs9 hx10
  unfold Wm at hs9
  refine Zc (Zi hE Za ld rfl rfl rfl fun a hE=>Zf (wp_seq ?_))
  refine Zs hE rfl ?_ ?_
  ·intro hb12
   have hs9:=ZA hs9 hb12
   refine wp_skip (Zz (wp_seq (wp_block (Zc (Zd hE Za ld rfl fun a hE=>Ze hE Za ld rfl fun a hE=>Zf (Zc (Zd hE Za ld rfl fun a hE=>Yz hE Za ld rfl Tryz.underlying3 Tryz.underlying5 ?_))))))); intro a hE
   rw [ZW] at hE
   obtain ⟨r13,e14,hs9⟩:=bind_some hs9
   refine Zt hE Za ld rfl kF (UQ _ 285 (ZC s8.2) r13 e14) ?_
   rintro v w a ⟨rfl,hK⟩ hE
   have hM:=hM.keep hK
   refine Ze hE Za ld rfl fun a hE=>Zf (wp_region_lit (Zd hE Za ld rfl fun a hE=>Zd hE Za ld rfl fun a hE=>Zd hE Za ld rfl ?_)); intro a hE
   obtain ⟨r15,e16,hs9⟩:=bind_some hs9
   refine Zt hE Za ld rfl cb220 (TH _ r13 1 r15 e16) ?_
   rintro v w a ⟨rfl,hK⟩ hE
   have hM:=hM.keep hK
   refine Zi hE Za ld rfl rfl (UD r13 r15) fun a hE=>Zd hE Za ld rfl ?_; intro a hE
   obtain ⟨r17,e18,hs9⟩:=bind_some hs9
   refine Zt hE Za ld rfl cb220 (TH _ r13 4 r17 e18) ?_
   rintro v w a ⟨rfl,hK⟩ hE
   have hM:=hM.keep hK
   refine Zi hE Za ld rfl rfl (UD (r13 ^^^ r15) r17) fun a hE=>Zi hE Za ld rfl rfl (UD ((r13 ^^^ r15) ^^^ r17) 90) fun a hE=>Zg hE Za ld rfl (KO) ?_; intro a hE
   obtain ⟨x20,hi19,hs9⟩:=bvx hs9
   refine Zr hE Za ld rfl rfl Tryz.underlying167 ty5 hi19.1 fun a hE=>Zo (seg:=[(vB (((r13 ^^^ r15) ^^^ r17) ^^^ 90))]) (cs':=cat [[vI 285],enc (s8.1.setIfInBounds (s8.2).toNat (((r13 ^^^ r15) ^^^ r17) ^^^ 90)),enc (Vector.replicate 4 (Vector.replicate 4 (0 : UInt8))),enc (Vector.replicate 16 (0 : UInt8)),[vI p0]]) hE hM Za rfl rfl rfl ty5 rfl (KG (o':=0 + (s8.2).toNat * 1) (pre:=[[vI 285]]) (seg:=enc s8.1) (post:=[enc (Vector.replicate 4 (Vector.replicate 4 (0 : UInt8))),enc (Vector.replicate 16 (0 : UInt8)),[vI p0]]) (cl1 (n:=1) (m:=0) rfl cl0) (ZR (v:=s8.1) (x:=((r13 ^^^ r15) ^^^ r17) ^^^ 90) hi19.1) (by first | omega | (simp only [Flat.n] <;> omega))) (Flat.cell (((r13 ^^^ r15) ^^^ r17) ^^^ 90 : UInt8)) (V3 (o':=0 + (s8.2).toNat * 1) (pre:=[[vI 285]]) (seg:=enc s8.1) (post:=[enc (Vector.replicate 4 (Vector.replicate 4 (0 : UInt8))),enc (Vector.replicate 16 (0 : UInt8)),[vI p0]]) (cl1 (n:=1) (m:=0) rfl cl0) (ZR (v:=s8.1) (x:=((r13 ^^^ r15) ^^^ r17) ^^^ 90) hi19.1) (ZJ (v:=s8.1) (x:=((r13 ^^^ r15) ^^^ r17) ^^^ 90) hi19.1) (by first | omega | (simp only [Flat.n] <;> omega))) fun w a hM hE=>Zj (Yb (Zz (wp_region_lit (Zi hE Za ld rfl rfl rfl fun a hE=>Zd hE Za ld rfl fun a hE=>Zj (Zn ?_)))))
   exact ⟨_,(ois hs9),hE.sub ⟨rfl,rfl,rfl,trivial⟩,hM⟩
  ·intro hb12
   have hs9:=ZB hs9 hb12
   refine wp_exit (Zq (Zq (Yf ?_)))
   have ht22:=hx10 _ (ois hs9)
   subst ht22
   refine Zn ?_
   exact ⟨hE.sub ⟨rfl,rfl,trivial⟩,hM⟩
 ·skip
  rintro a w ⟨hE,hM⟩
  refine Zz (wp_seq (Zc (Zd hE Za ld rfl fun a hE=>Zf ?_)))
  obtain ⟨j23,hl24,hF25⟩:=bind_some hF7
  refine ZP (fun a w=>Env 61 a [(2,(ptr b1 0)),(3,(ptr b3 0))] ∧ M (Old w0) w0 w [raw b3 (cat [[vI 285],enc j5,enc j23,enc (Vector.replicate 16 (0 : UInt8)),[vI p0]]),raw b1 (cat [[vI 0],enc (Vector.replicate 256 (0 : UInt8)),enc (Vector.replicate 4 (Vector.replicate 4 (0 : UInt8))),enc (Vector.replicate 16 (0 : UInt8)),[vI 0]])]) ?_ ?_
  ·skip
   refine wp_block ?_
   refine ZI (fun (s26 : (Vector (Vector UInt8 4) 4) × Int) a w=>Env 61 a [(2,(ptr b1 0)),(3,(ptr b3 0)),(29,vI s26.2)] ∧ M (Old w0) w0 w [raw b3 (cat [[vI 285],enc j5,enc s26.1,enc (Vector.replicate 16 (0 : UInt8)),[vI p0]]),raw b1 (cat [[vI 0],enc (Vector.replicate 256 (0 : UInt8)),enc (Vector.replicate 4 (Vector.replicate 4 (0 : UInt8))),enc (Vector.replicate 16 (0 : UInt8)),[vI 0]])]) hl24 ⟨hE.sub ⟨rfl,rfl,rfl,trivial⟩,hM⟩ ?_
   rintro s26 a w ⟨hE,hM⟩ o29 hs27 hx28
   unfold Vx at hs27
   refine Zc (Zi hE Za ld rfl rfl rfl fun a hE=>Zf (wp_seq ?_))
   refine Zs hE rfl ?_ ?_
   ·intro hb30
    have hs27:=ZA hs27 hb30
    refine wp_skip (Zz (wp_seq (wp_block (Zc (Zd hE Za ld rfl fun a hE=>Ze hE Za ld rfl fun a hE=>Zf (Zc (Zd hE Za ld rfl fun a hE=>Zf ?_)))))))
    obtain ⟨j31,hl32,hF33⟩:=bind_some hs27
    refine ZP (fun a w=>Env 61 a [(2,(ptr b1 0)),(3,(ptr b3 0)),(29,vI s26.2)] ∧ M (Old w0) w0 w [raw b3 (cat [[vI 285],enc j5,enc j31,enc (Vector.replicate 16 (0 : UInt8)),[vI p0]]),raw b1 (cat [[vI 0],enc (Vector.replicate 256 (0 : UInt8)),enc (Vector.replicate 4 (Vector.replicate 4 (0 : UInt8))),enc (Vector.replicate 16 (0 : UInt8)),[vI 0]])]) ?_ ?_
    ·skip
     refine wp_block ?_
     refine ZI (fun (s34 : (Vector (Vector UInt8 4) 4) × Int) a w=>Env 61 a [(2,(ptr b1 0)),(3,(ptr b3 0)),(6,vI s26.2),(29,vI s26.2),(32,vI s34.2)] ∧ M (Old w0) w0 w [raw b3 (cat [[vI 285],enc j5,enc s34.1,enc (Vector.replicate 16 (0 : UInt8)),[vI p0]]),raw b1 (cat [[vI 0],enc (Vector.replicate 256 (0 : UInt8)),enc (Vector.replicate 4 (Vector.replicate 4 (0 : UInt8))),enc (Vector.replicate 16 (0 : UInt8)),[vI 0]])]) hl32 ⟨hE.sub ⟨rfl,rfl,rfl,rfl,rfl,trivial⟩,hM⟩ ?_
     rintro s34 a w ⟨hE,hM⟩ o37 hs35 hx36
     unfold Vu at hs35
     refine Zc (Zi hE Za ld rfl rfl rfl fun a hE=>Zf (wp_seq ?_))
     refine Zs hE rfl ?_ ?_
     ·intro hb38
      have hs35:=ZA hs35 hb38
      refine wp_skip (Zz (wp_seq (wp_block (Zc (Zd hE Za ld rfl fun a hE=>Ze hE Za ld rfl fun a hE=>Zf ?_)))))
      obtain ⟨r40,e41,hs35⟩:=bind_some hs35
      obtain ⟨x43,hi42,hs35⟩:=bvx hs35
      obtain ⟨x46,hi45,hs35⟩:=bvx hs35
      refine YC (n:=61) (hd:=[_,_,_,_,_,_,_,_,_,_,_]) (tl:=[_]) Y0 rfl rfl [35,36,37,38,39,40,41,42,43,44,45] (by decide) (fun w=>M (Old w0) w0 w [raw b3 (cat [[vI 285],enc j5,enc s34.1,enc (Vector.replicate 16 (0 : UInt8)),[vI p0]]),raw b1 (cat [[vI 0],enc (Vector.replicate 256 (0 : UInt8)),enc (Vector.replicate 4 (Vector.replicate 4 (0 : UInt8))),enc (Vector.replicate 16 (0 : UInt8)),[vI 0]])]) (fun j=>([fun v _=>v = (vI s26.2),fun v _=>v = (vI s34.2),fun v _=>v = (vI s26.2),fun v _=>v = (vI s34.2),fun v _=>v = (vI (wr (4 + s34.2))),fun v _=>v = (vI (Q0 s26.2 (wr (4 + s34.2)))),fun v _=>v = (vB (ZC (Q0 s26.2 (wr (4 + s34.2))))),fun v _=>v = (vB r40),fun v _=>v = (ptr b3 (0 + 257)),fun v _=>v = (ptr b3 (0 + 257 + (s26.2).toNat * 4)),fun v _=>v = (ptr b3 (0 + 257 + (s26.2).toNat * 4 + (s34.2).toNat * 1))] : List (Value → World → Prop)).getD j (fun _ _=>True)) (fun _ _ h hk=>h.keep hk) (gup (Zk (Zk (Zk (Zk (Zk (Zk (Zk (Zk (Zk (Zk (Zk V1)))))))))))) hE hM.drew (ZK (Zb ?_ (Zb ?_ (Zb ?_ (Zb ?_ (Zb ?_ (Zb ?_ (Zb ?_ (Zb ?_ (Zb ?_ (Zb ?_ (Zb ?_ ZF)))))))))))) ?_
      ·exact fun a w ux39 hE hM hp=>Zd hE Za ld rfl fun a hE=>⟨Kept.refl _ _,_,_,rfl,hE,rfl⟩
      ·exact fun a w ux39 hE hM hp=>Zd hE Za ld rfl fun a hE=>⟨Kept.refl _ _,_,_,rfl,hE,rfl⟩
      ·exact fun a w ux39 hE hM hp=>Zd hE Za ld rfl fun a hE=>⟨Kept.refl _ _,_,_,rfl,hE,rfl⟩
      ·exact fun a w ux39 hE hM hp=>Zd hE Za ld rfl fun a hE=>⟨Kept.refl _ _,_,_,rfl,hE,rfl⟩
      ·intro a w ux39 hE hM hp
       have f3 : ux39 3 = (vI s34.2):=hp 0 _ rfl rfl
       exact Zi hE Za ld rfl (lk rfl f3) rfl fun a hE=>⟨Kept.refl _ _,_,_,rfl,hE,rfl⟩
      ·intro a w ux39 hE hM hp
       have f2 : ux39 2 = (vI s26.2):=hp 0 _ rfl rfl
       have f4 : ux39 4 = (vI (wr (4 + s34.2))):=hp 1 _ rfl rfl
       exact Zi hE Za ld (lk rfl f2) (lk rfl f4) rfl fun a hE=>⟨Kept.refl _ _,_,_,rfl,hE,rfl⟩
      ·intro a w ux39 hE hM hp
       have f5 : ux39 5 = (vI (Q0 s26.2 (wr (4 + s34.2)))):=hp 0 _ rfl rfl
       refine Yz hE Za ld (lk rfl f5) Tryz.underlying3 Tryz.underlying5 ?_; intro a hE
       rw [ZW] at hE
       exact ⟨Kept.refl _ _,_,_,rfl,hE,rfl⟩
      ·intro a w ux39 hE hM hp
       have f6 : ux39 6 = (vB (ZC (Q0 s26.2 (wr (4 + s34.2))))):=hp 0 _ rfl rfl
       refine Zt hE Za ld (ZV (ZT rfl (ZT (lk rfl f6) YZ))) kF (UQ _ 285 (ZC (Q0 s26.2 (wr (4 + s34.2)))) r40 e41) ?_
       rintro v w a ⟨rfl,hK⟩ hE
       exact ⟨hK,_,_,rfl,hE,rfl⟩
      ·exact fun a w ux39 hE hM hp=>Zg hE Za ld rfl (JS) fun a hE=>⟨Kept.refl _ _,_,_,rfl,hE,rfl⟩
      ·intro a w ux39 hE hM hp
       have f0 : ux39 0 = (vI s26.2):=hp 1 _ rfl rfl
       have f8 : ux39 8 = (ptr b3 (0 + 257)):=hp 0 _ rfl rfl
       exact Zr hE Za ld (lk rfl f8) (lk rfl f0) Tryz.underlying170 XC hi42.1 fun a hE=>⟨Kept.refl _ _,_,_,rfl,hE,rfl⟩
      ·intro a w ux39 hE hM hp
       have f1 : ux39 1 = (vI s34.2):=hp 1 _ rfl rfl
       have f9 : ux39 9 = (ptr b3 (0 + 257 + (s26.2).toNat * 4)):=hp 0 _ rfl rfl
       exact Zr hE Za ld (lk rfl f9) (lk rfl f1) Tryz.underlying168 ty5 hi45.1 fun a hE=>⟨Kept.refl _ _,_,_,rfl,hE,rfl⟩
      ·intro a w ux39 hE hM hg
       have hE:=hE.sub (e':=[(42,vB r40),(45,(ptr b3 (0 + 257 + (s26.2).toNat * 4 + (s34.2).toNat * 1))),(2,(ptr b1 0)),(3,(ptr b3 0)),(6,vI s26.2),(7,vI s34.2),(29,vI s26.2),(32,vI s34.2),(33,(vT (decide (s34.2 < 4)))),(34,vI s34.2)]) ⟨lk rfl (hg 7 (by decide)),lk rfl (hg 10 (by decide)),rfl,rfl,rfl,rfl,rfl,rfl,rfl,rfl,trivial⟩
       refine Zo (seg:=[vB r40]) (cs':=cat [[vI 285],enc j5,enc (s34.1.setIfInBounds (s26.2).toNat (x43.setIfInBounds (s34.2).toNat r40)),enc (Vector.replicate 16 (0 : UInt8)),[vI p0]]) hE hM Za rfl rfl rfl ty5 rfl (KG (o':=(s26.2).toNat * 4 + (0 + (s34.2).toNat * 1)) (pre:=[[vI 285],enc j5]) (seg:=enc s34.1) (post:=[enc (Vector.replicate 16 (0 : UInt8)),[vI p0]]) (cl1 (n:=1) (m:=256) rfl (cl1 (n:=256) (m:=0) (Flat.len _) cl0)) (Ui (o':=0 + (s34.2).toNat * 1) hi42 (ZR (v:=x43) (x:=r40) hi45.1) (by first | omega | (simp only [Flat.n] <;> omega))) (by first | omega | (simp only [Flat.n] <;> omega))) (Flat.cell (r40 : UInt8)) (V3 (o':=(s26.2).toNat * 4 + (0 + (s34.2).toNat * 1)) (pre:=[[vI 285],enc j5]) (seg:=enc s34.1) (post:=[enc (Vector.replicate 16 (0 : UInt8)),[vI p0]]) (cl1 (n:=1) (m:=256) rfl (cl1 (n:=256) (m:=0) (Flat.len _) cl0)) (Ui (o':=0 + (s34.2).toNat * 1) hi42 (ZR (v:=x43) (x:=r40) hi45.1) (by first | omega | (simp only [Flat.n] <;> omega))) (Vn (o':=0 + (s34.2).toNat * 1) hi42 (ZR (v:=x43) (x:=r40) hi45.1) (ZJ (v:=x43) (x:=r40) hi45.1) (by first | omega | (simp only [Flat.n] <;> omega))) (by first | omega | (simp only [Flat.n] <;> omega))) fun w a hM hE=>Zj (Yb (Zz (wp_region_lit (Zi hE Za ld rfl rfl rfl fun a hE=>Zd hE Za ld rfl fun a hE=>Zj (Zn ?_)))))
       exact ⟨_,(ois hs35),hE.sub ⟨rfl,rfl,rfl,rfl,rfl,trivial⟩,hM⟩
     ·intro hb38
      have hs35:=ZB hs35 hb38
      refine wp_exit (Zq (Zq (Yf ?_)))
      have ht48:=hx36 _ (ois hs35)
      subst ht48
      refine Zn ?_
      exact ⟨hE.sub ⟨rfl,rfl,rfl,trivial⟩,hM⟩
    ·skip
     rintro a w ⟨hE,hM⟩
     refine Yb (Zz (wp_region_lit (Zi hE Za ld rfl rfl rfl fun a hE=>Zd hE Za ld rfl fun a hE=>Zj (Zn ?_))))
     exact ⟨_,(ois hF33),hE.sub ⟨rfl,rfl,rfl,trivial⟩,hM⟩
   ·intro hb30
    have hs27:=ZB hs27 hb30
    refine wp_exit (Zq (Zq (Yf ?_)))
    have ht49:=hx28 _ (ois hs27)
    subst ht49
    refine Zn ?_
    exact ⟨hE.sub ⟨rfl,rfl,trivial⟩,hM⟩
  ·skip
   rintro a w ⟨hE,hM⟩
   refine Zz (wp_seq (Zc (Zd hE Za ld rfl fun a hE=>Zf ?_)))
   obtain ⟨j50,hl51,hF52⟩:=bind_some hF25
   refine ZP (fun a w=>Env 61 a [(2,(ptr b1 0)),(3,(ptr b3 0))] ∧ M (Old w0) w0 w [raw b3 (cat [[vI 285],enc j5,enc j23,enc j50,[vI p0]]),raw b1 (cat [[vI 0],enc (Vector.replicate 256 (0 : UInt8)),enc (Vector.replicate 4 (Vector.replicate 4 (0 : UInt8))),enc (Vector.replicate 16 (0 : UInt8)),[vI 0]])]) ?_ ?_
   ·skip
    refine wp_block ?_
    refine ZI (fun (s53 : (Vector UInt8 16) × Int) a w=>Env 61 a [(2,(ptr b1 0)),(3,(ptr b3 0)),(48,vI s53.2)] ∧ M (Old w0) w0 w [raw b3 (cat [[vI 285],enc j5,enc j23,enc s53.1,[vI p0]]),raw b1 (cat [[vI 0],enc (Vector.replicate 256 (0 : UInt8)),enc (Vector.replicate 4 (Vector.replicate 4 (0 : UInt8))),enc (Vector.replicate 16 (0 : UInt8)),[vI 0]])]) hl51 ⟨hE.sub ⟨rfl,rfl,rfl,trivial⟩,hM⟩ ?_
    rintro s53 a w ⟨hE,hM⟩ o56 hs54 hx55
    unfold VB at hs54
    refine Zc (Zi hE Za ld rfl rfl rfl fun a hE=>Zf (wp_seq ?_))
    refine Zs hE rfl ?_ ?_
    ·intro hb57
     have hs54:=ZA hs54 hb57
     refine wp_skip (Zz (wp_seq (wp_block (Zc (Zd hE Za ld rfl fun a hE=>Ze hE Za ld rfl fun a hE=>Zf (wp_region_lit (Zd hE Za ld rfl fun a hE=>Zd hE Za ld rfl fun a hE=>Zi hE Za ld rfl rfl rfl fun a hE=>Zi hE Za ld rfl rfl rfl fun a hE=>Zi hE Za ld rfl rfl (QH _ _ (by decide)) fun a hE=>Yz hE Za ld rfl Tryz.underlying3 Tryz.underlying5 ?_))))))); intro a hE
     rw [ZW] at hE
     refine Zg hE Za ld rfl (JD) ?_; intro a hE
     obtain ⟨x59,hi58,hs54⟩:=bvx hs54
     refine Zr hE Za ld rfl rfl Tryz.underlying171 ty5 hi58.1 fun a hE=>Zo (seg:=[(vB (ZC (Int.tmod (wr ((wr (13 * s53.2)) + 4)) 16)))]) (cs':=cat [[vI 285],enc j5,enc j23,enc (s53.1.setIfInBounds (s53.2).toNat (ZC (Int.tmod (wr ((wr (13 * s53.2)) + 4)) 16))),[vI p0]]) hE hM Za rfl rfl rfl ty5 rfl (KG (o':=0 + (s53.2).toNat * 1) (pre:=[[vI 285],enc j5,enc j23]) (seg:=enc s53.1) (post:=[[vI p0]]) (cl1 (n:=1) (m:=272) rfl (cl1 (n:=256) (m:=16) (Flat.len _) (cl1 (n:=16) (m:=0) (Flat.len _) cl0))) (ZR (v:=s53.1) (x:=ZC (Int.tmod (wr ((wr (13 * s53.2)) + 4)) 16)) hi58.1) (by first | omega | (simp only [Flat.n] <;> omega))) (Flat.cell (ZC (Int.tmod (wr ((wr (13 * s53.2)) + 4)) 16) : UInt8)) (V3 (o':=0 + (s53.2).toNat * 1) (pre:=[[vI 285],enc j5,enc j23]) (seg:=enc s53.1) (post:=[[vI p0]]) (cl1 (n:=1) (m:=272) rfl (cl1 (n:=256) (m:=16) (Flat.len _) (cl1 (n:=16) (m:=0) (Flat.len _) cl0))) (ZR (v:=s53.1) (x:=ZC (Int.tmod (wr ((wr (13 * s53.2)) + 4)) 16)) hi58.1) (ZJ (v:=s53.1) (x:=ZC (Int.tmod (wr ((wr (13 * s53.2)) + 4)) 16)) hi58.1) (by first | omega | (simp only [Flat.n] <;> omega))) fun w a hM hE=>Zj (Yb (Zz (wp_region_lit (Zi hE Za ld rfl rfl rfl fun a hE=>Zd hE Za ld rfl fun a hE=>Zj (Zn ?_)))))
     exact ⟨_,(ois hs54),hE.sub ⟨rfl,rfl,rfl,trivial⟩,hM⟩
    ·intro hb57
     have hs54:=ZB hs54 hb57
     refine wp_exit (Zq (Zq (Yf ?_)))
     have ht61:=hx55 _ (ois hs54)
     subst ht61
     refine Zn ?_
     exact ⟨hE.sub ⟨rfl,rfl,trivial⟩,hM⟩
   ·skip
    rintro a w ⟨hE,hM⟩
    refine Zz (Zc (Zm (cs:=enc (⟨285,j5,j23,j50,p0⟩ : GCipher)) hE Za ld rfl V4 rfl (hM.rawAt (pre:=[])) (Zh (cl1 (n:=1) (m:=289) rfl (cl1 (n:=256) (m:=33) (Flat.len _) (cl1 (n:=16) (m:=17) (Flat.len _) (cl1 (n:=16) (m:=1) (Flat.len _) (cl1 (n:=1) (m:=0) rfl cl0)))))) ?_)); intro a hE
    have hM:=hM.pull (pre:=[_])
    refine Zo (seg:=cat [[(vI ((⟨285,j5,j23,j50,p0⟩ : GCipher).Field))],enc ((⟨285,j5,j23,j50,p0⟩ : GCipher).Box),enc ((⟨285,j5,j23,j50,p0⟩ : GCipher).Mix),enc ((⟨285,j5,j23,j50,p0⟩ : GCipher).Places),[(vI ((⟨285,j5,j23,j50,p0⟩ : GCipher).Rounds))]]) (cs':=cat [[(vI ((⟨285,j5,j23,j50,p0⟩ : GCipher).Field))],enc ((⟨285,j5,j23,j50,p0⟩ : GCipher).Box),enc ((⟨285,j5,j23,j50,p0⟩ : GCipher).Mix),enc ((⟨285,j5,j23,j50,p0⟩ : GCipher).Places),[(vI ((⟨285,j5,j23,j50,p0⟩ : GCipher).Rounds))]]) hE hM Za rfl rfl rfl V4 (Zh (cl1 (n:=1) (m:=289) rfl (cl1 (n:=256) (m:=33) (Flat.len _) (cl1 (n:=16) (m:=17) (Flat.len _) (cl1 (n:=16) (m:=1) (Flat.len _) (cl1 (n:=1) (m:=0) rfl cl0)))))) (Nat.le_of_eq ((Nat.zero_add _).trans (Eq.trans (Zh (cl1 (n:=1) (m:=289) rfl (cl1 (n:=256) (m:=33) (Flat.len _) (cl1 (n:=16) (m:=17) (Flat.len _) (cl1 (n:=16) (m:=1) (Flat.len _) (cl1 (n:=1) (m:=0) rfl cl0)))))) (Eq.symm (Zh (cl1 (n:=1) (m:=289) rfl (cl1 (n:=256) (m:=33) (Flat.len _) (cl1 (n:=16) (m:=17) (Flat.len _) (cl1 (n:=16) (m:=1) (Flat.len _) (cl1 (n:=1) (m:=0) rfl cl0)))))))))) (Z5 (cc1 (Flat.cell ((⟨285,j5,j23,j50,p0⟩ : GCipher).Field : Int)) (cc1 (Flat.cell _) (cc1 (Flat.cell _) (cc1 (Flat.cell _) (cc1 (Flat.cell ((⟨285,j5,j23,j50,p0⟩ : GCipher).Rounds : Int)) cc0)))))) (Zl (Eq.trans (Zh (cl1 (n:=1) (m:=289) rfl (cl1 (n:=256) (m:=33) (Flat.len _) (cl1 (n:=16) (m:=17) (Flat.len _) (cl1 (n:=16) (m:=1) (Flat.len _) (cl1 (n:=1) (m:=0) rfl cl0)))))) (Eq.symm (Zh (cl1 (n:=1) (m:=289) rfl (cl1 (n:=256) (m:=33) (Flat.len _) (cl1 (n:=16) (m:=17) (Flat.len _) (cl1 (n:=16) (m:=1) (Flat.len _) (cl1 (n:=1) (m:=0) rfl cl0))))))))) fun w a hM hE=>Zf ?_
    have hr:=Option.some.inj hF52
    subst hr
    have hq62 : Yw Tryz.prog _ _ (.cell 2 173) _:=ZO hE rfl V4 rfl (hM.rawAt (pre:=[])) (Zh (cl1 (n:=1) (m:=289) rfl (cl1 (n:=256) (m:=33) (Flat.len _) (cl1 (n:=16) (m:=17) (Flat.len _) (cl1 (n:=16) (m:=1) (Flat.len _) (cl1 (n:=1) (m:=0) rfl cl0)))))) rfl
    have hM:=M.fst (l:=[]) hM
    exact wp_ret (Zy hE rfl hq62 ⟨_,rfl,rfl,hM.kept⟩)
def TA (s8 : (Vector (Vector UInt8 4) 4) × Int) : Option (Fl ((Vector (Vector UInt8 4) 4) × Int) (Vector (Vector UInt8 4) 4)) :=
 if (decide (s8.2 < 4)) = true then ((ZM s8.1 s8.2).bind fun x14=>(ZM x14 s8.2).bind fun x17=>some (Fl.nx ((s8.1.setIfInBounds (s8.2).toNat (x14.setIfInBounds (s8.2).toNat 1)),wr (s8.2 + 1)))) else (some (Fl.ex s8.1))
def Vk : Option ((Vector (Vector UInt8 4) 4)) :=
 (ZG (TA) ((Vector.replicate 4 (Vector.replicate 4 (0 : UInt8))),0)).bind fun j5=>some j5
theorem JP (w0 : World)  (r : (Vector (Vector UInt8 4) 4)) (hF : Vk  = some r) :
  Calls Tryz.prog 238 [].toArray w0 (fun en w'=>∃ v,en = .returned v ∧ (v = (Value.agg (enc r).toArray) ∧ Kept (Old w0) w0 w')):=by
 refine ZD (n:=13) Tryz.func238 rfl rfl (nbl rfl) rfl ?_
 intro a hE
 have hM:=M.start w0
 unfold Vk at hF
 refine Zc (ZE hE hM Za ld UP fun b1 w a hM hE=>Zf (Zc (XI (parts:=[]) (vs:=[]) (cs:=enc (Vector.replicate 4 (Vector.replicate 4 (0 : UInt8)))) hE Za ld rfl rfl UP rfl XC Y5 fun a hE=>ZE hE hM Za ld UP fun b3 w a hM hE=>Zo (seg:=enc (Vector.replicate 4 (Vector.replicate 4 (0 : UInt8)))) (cs':=enc (Vector.replicate 4 (Vector.replicate 4 (0 : UInt8)))) hE hM Za rfl rfl rfl UP (Flat.len _) (zle flq) (Flat.cell _) (Zl flq) fun w a hM hE=>Zf (wp_seq (Zc (Zd hE Za ld rfl fun a hE=>Zf ?_))))))
 obtain ⟨j5,hl6,hF7⟩:=bind_some hF
 refine ZP (fun a w=>Env 13 a [(0,(ptr b1 0)),(1,(ptr b3 0))] ∧ M (Old w0) w0 w [raw b3 (enc j5),raw b1 (enc (Vector.replicate 4 (Vector.replicate 4 (0 : UInt8))))]) ?_ ?_
 ·skip
  refine wp_block ?_
  refine ZI (fun (s8 : (Vector (Vector UInt8 4) 4) × Int) a w=>Env 13 a [(0,(ptr b1 0)),(1,(ptr b3 0)),(4,vI s8.2)] ∧ M (Old w0) w0 w [raw b3 (enc s8.1),raw b1 (enc (Vector.replicate 4 (Vector.replicate 4 (0 : UInt8))))]) hl6 ⟨hE.sub ⟨rfl,rfl,rfl,trivial⟩,hM⟩ ?_
  rintro s8 a w ⟨hE,hM⟩ o11 hs9 hx10
  unfold TA at hs9
  refine Zc (Zi hE Za ld rfl rfl rfl fun a hE=>Zf (wp_seq ?_))
  refine Zs hE rfl ?_ ?_
  ·intro hb12
   have hs9:=ZA hs9 hb12
   refine wp_skip (Zz (wp_seq (wp_block (Zc (Zd hE Za ld rfl fun a hE=>Ze hE Za ld rfl fun a hE=>Zf (wp_region_lit (Zd hE Za ld rfl fun a hE=>Zd hE Za ld rfl ?_))))))); intro a hE
   obtain ⟨x14,hi13,hs9⟩:=bvx hs9
   refine Zr hE Za ld rfl rfl Tryz.underlying170 XC hi13.1 ?_; intro a hE
   obtain ⟨x17,hi16,hs9⟩:=bvx hs9
   refine Zr hE Za ld rfl rfl Tryz.underlying168 ty5 hi16.1 fun a hE=>Zo (seg:=[vB 1]) (cs':=enc (s8.1.setIfInBounds (s8.2).toNat (x14.setIfInBounds (s8.2).toNat 1))) hE hM Za rfl rfl rfl ty5 rfl (Ui (o':=0 + (s8.2).toNat * 1) hi13 (ZR (v:=x14) (x:=1) hi16.1) (by first | omega | (simp only [Flat.n] <;> omega))) (Flat.cell (1 : UInt8)) (Vn (o':=0 + (s8.2).toNat * 1) hi13 (ZR (v:=x14) (x:=1) hi16.1) (ZJ (v:=x14) (x:=1) hi16.1) (by first | omega | (simp only [Flat.n] <;> omega))) fun w a hM hE=>Zj (Yb (Zz (wp_region_lit (Zi hE Za ld rfl rfl rfl fun a hE=>Zd hE Za ld rfl fun a hE=>Zj (Zn ?_)))))
   exact ⟨_,(ois hs9),hE.sub ⟨rfl,rfl,rfl,trivial⟩,hM⟩
  ·intro hb12
   have hs9:=ZB hs9 hb12
   refine wp_exit (Zq (Zq (Yf ?_)))
   have ht19:=hx10 _ (ois hs9)
   subst ht19
   refine Zn ?_
   exact ⟨hE.sub ⟨rfl,rfl,trivial⟩,hM⟩
 ·skip
  rintro a w ⟨hE,hM⟩
  refine Zz (Zc (Zm (cs:=enc j5) hE Za ld rfl UP rfl (hM.rawAt (pre:=[])) (Flat.len _) ?_)); intro a hE
  have hM:=hM.pull (pre:=[_])
  refine Zo (seg:=enc j5) (cs':=enc j5) hE hM Za rfl rfl rfl UP (Flat.len _) (zle flq) (Flat.cell _) (Zl flq) fun w a hM hE=>Zf ?_
  have hr:=Option.some.inj hF7
  subst hr
  have hq20 : Yw Tryz.prog _ _ (.cell 0 170) _:=ZO hE rfl UP rfl (hM.rawAt (pre:=[])) (Flat.len _) rfl
  have hM:=M.fst (l:=[]) hM
  exact wp_ret (Zy hE rfl hq20 ⟨_,rfl,rfl,hM.kept⟩)
def UR (s13 : (Vector (Vector UInt8 4) 4) × (Vector (Vector UInt8 4) 4) × Int × UInt8) (s21 : Int) : Option (Fl Int Int) :=
 (if (decide (s21 < 4)) = true then ((ZM s13.1 s21).bind fun x30=>(ZM x30 s13.2.2.1).bind fun x33=>some (x33 == 0)) else (some false) : Option (Bool)).bind fun j25=>if j25 = true then (some (Fl.nx (wr (s21 + 1)))) else (some (Fl.ex s21))
def XV (p0 : Int) (s13 : (Vector (Vector UInt8 4) 4) × (Vector (Vector UInt8 4) 4) × Int × UInt8) (r90 : UInt8) (s95 : (Vector (Vector UInt8 4) 4) × (Vector (Vector UInt8 4) 4) × Int) : Option (Fl ((Vector (Vector UInt8 4) 4) × (Vector (Vector UInt8 4) 4) × Int) ((Vector (Vector UInt8 4) 4) × (Vector (Vector UInt8 4) 4))) :=
 if (decide (s95.2.2 < 4)) = true then ((ZM s95.1 s13.2.2.1).bind fun x102=>(ZM x102 s95.2.2).bind fun x105=>(Z9 p0 x105 r90).bind fun r107=>(ZM s95.2.1 s13.2.2.1).bind fun x110=>(ZM x110 s95.2.2).bind fun x113=>(Z9 p0 x113 r90).bind fun r115=>(ZM s95.1 s13.2.2.1).bind fun x118=>(ZM x118 s95.2.2).bind fun x121=>(ZM s95.2.1 s13.2.2.1).bind fun x124=>(ZM x124 s95.2.2).bind fun x127=>some (Fl.nx ((s95.1.setIfInBounds (s13.2.2.1).toNat (x118.setIfInBounds (s95.2.2).toNat r107)),(s95.2.1.setIfInBounds (s13.2.2.1).toNat (x124.setIfInBounds (s95.2.2).toNat r115)),wr (s95.2.2 + 1)))) else (some (Fl.ex (s95.1,s95.2.1)))
def X2 (p0 : Int) (s13 : (Vector (Vector UInt8 4) 4) × (Vector (Vector UInt8 4) 4) × Int × UInt8) (s133 : (Vector (Vector UInt8 4) 4) × (Vector (Vector UInt8 4) 4) × Int) (x145 : UInt8) (s160 : (Vector (Vector UInt8 4) 4) × (Vector (Vector UInt8 4) 4) × Int) : Option (Fl ((Vector (Vector UInt8 4) 4) × (Vector (Vector UInt8 4) 4) × Int) ((Vector (Vector UInt8 4) 4) × (Vector (Vector UInt8 4) 4))) :=
 if (decide (s160.2.2 < 4)) = true then (((ZM s160.1 s133.2.2).bind fun x170=>(ZM x170 s160.2.2).bind fun x173=>(ZM s160.1 s13.2.2.1).bind fun x176=>(ZM x176 s160.2.2).bind fun x179=>(Z9 p0 x145 x179).bind fun r181=>(ZM s160.1 s133.2.2).bind fun x184=>(ZM x184 s160.2.2).bind fun x187=>some (s160.1.setIfInBounds (s133.2.2).toNat (x184.setIfInBounds (s160.2.2).toNat (x173 ^^^ r181))) : Option ((Vector (Vector UInt8 4) 4))).bind fun j165=>(ZM s160.2.1 s133.2.2).bind fun x192=>(ZM x192 s160.2.2).bind fun x195=>(ZM s160.2.1 s13.2.2.1).bind fun x198=>(ZM x198 s160.2.2).bind fun x201=>(Z9 p0 x145 x201).bind fun r203=>(ZM s160.2.1 s133.2.2).bind fun x206=>(ZM x206 s160.2.2).bind fun x209=>some (Fl.nx (j165,(s160.2.1.setIfInBounds (s133.2.2).toNat (x206.setIfInBounds (s160.2.2).toNat (x195 ^^^ r203))),wr (s160.2.2 + 1)))) else (some (Fl.ex (s160.1,s160.2.1)))
def X4 (p0 : Int) (s13 : (Vector (Vector UInt8 4) 4) × (Vector (Vector UInt8 4) 4) × Int × UInt8) (s133 : (Vector (Vector UInt8 4) 4) × (Vector (Vector UInt8 4) 4) × Int) : Option (Fl ((Vector (Vector UInt8 4) 4) × (Vector (Vector UInt8 4) 4) × Int) ((Vector (Vector UInt8 4) 4) × (Vector (Vector UInt8 4) 4))) :=
 if (decide (s133.2.2 < 4)) = true then (((ZM s133.1 s133.2.2).bind fun x142=>(ZM x142 s13.2.2.1).bind fun x145=>(if (s133.2.2 != s13.2.2.1) = true then (some (x145 != 0)) else (some false) : Option (Bool)).bind fun j147=>(if j147 = true then ((ZG (X2 p0 s13 s133 x145) (s133.1,s133.2.1,0)).bind fun j157=>some (j157.1,j157.2)) else (some (s133.1,s133.2.1)) : Option ((Vector (Vector UInt8 4) 4) × (Vector (Vector UInt8 4) 4))).bind fun j153=>some (j153.1,j153.2) : Option ((Vector (Vector UInt8 4) 4) × (Vector (Vector UInt8 4) 4))).bind fun j138=>some (Fl.nx (j138.1,j138.2,wr (s133.2.2 + 1)))) else (some (Fl.ex (s133.1,s133.2.1)))
def YQ (p0 : Int) (s13 : (Vector (Vector UInt8 4) 4) × (Vector (Vector UInt8 4) 4) × Int × UInt8) : Option (Fl ((Vector (Vector UInt8 4) 4) × (Vector (Vector UInt8 4) 4) × Int × UInt8) (Fl ((Vector (Vector UInt8 4) 4) × UInt8) (UInt8 × (Vector (Vector UInt8 4) 4)))) :=
 if (decide (s13.2.2.1 < 4)) = true then ((ZG (UR s13) s13.2.2.1).bind fun j18=>if (j18 == 4) = true then (some (Fl.ex (Fl.ex (0,(Vector.replicate 4 (Vector.replicate 4 (0 : UInt8))))))) else (((ZM s13.1 s13.2.2.1).bind fun x47=>(ZM s13.1 j18).bind fun x50=>(ZM s13.1 j18).bind fun x53=>(ZM (s13.1.setIfInBounds (j18).toNat x47) s13.2.2.1).bind fun x56=>some ((s13.1.setIfInBounds (j18).toNat x47).setIfInBounds (s13.2.2.1).toNat x50) : Option ((Vector (Vector UInt8 4) 4))).bind fun j42=>((ZM s13.2.1 s13.2.2.1).bind fun x64=>(ZM s13.2.1 j18).bind fun x67=>(ZM s13.2.1 j18).bind fun x70=>(ZM (s13.2.1.setIfInBounds (j18).toNat x64) s13.2.2.1).bind fun x73=>some ((s13.2.1.setIfInBounds (j18).toNat x64).setIfInBounds (s13.2.2.1).toNat x67) : Option ((Vector (Vector UInt8 4) 4))).bind fun j59=>(ZM j42 s13.2.2.1).bind fun x77=>(ZM x77 s13.2.2.1).bind fun x80=>(Z9 p0 s13.2.2.2 x80).bind fun r82=>(ZM j42 s13.2.2.1).bind fun x85=>(ZM x85 s13.2.2.1).bind fun x88=>(Yp p0 x88).bind fun r90=>(ZG (XV p0 s13 r90) (j42,j59,0)).bind fun j92=>(ZG (X4 p0 s13) (j92.1,j92.2,0)).bind fun j130=>some (Fl.nx (j130.1,j130.2,wr (s13.2.2.1 + 1),r82)))) else (some (Fl.ex (Fl.nx (s13.2.1,s13.2.2.2))))
def Xw (p0 : Int) (p1 : (Vector (Vector UInt8 4) 4)) : Option (UInt8 × (Vector (Vector UInt8 4) 4)) :=
 (Vk).bind fun r5=>(ZG (YQ p0) (p1,r5,0,1)).bind fun j9=>j9.el (fun s12=>(some (s12.1,s12.2) : Option ((Vector (Vector UInt8 4) 4) × UInt8)).bind fun j217=>some (j217.2,j217.1)) (fun r=>some r)
end

end Go.Proofs.YtifdeoikcebbjaaGreat
