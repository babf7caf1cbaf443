/- The walk of what the law reaches: contracts of functions. -/
import Derived.Test.YtlpppjjlffgkmaaGreatC1
set_option linter.unusedVariables false
set_option linter.unusedSimpArgs false
set_option maxRecDepth 20000
set_option maxHeartbeats 400000
namespace Go.Proofs.YtlpppjjlffgkmaaGreat
open Go
open Flat (enc)
noncomputable section
theorem Al (w0 : World) (p0 : Int) (p1 : Int) (r : (Vector UInt8 256)) (hF : V1 p0 p1 = some r) :
  Calls Tryz.prog 106 [vI p0,vI p1].toArray w0 (Rt w0 (Value.agg (enc r).toArray)):=by
 refine ce Tryz.func106 ?_
 intro a hE
 have hM:=M.start w0
 unfold V1 at hF
 refine Za (Zz hE hM Wu fun b1 w a hM hE=>Zf (Za (YU (parts:=[]) (vs:=[]) (cs:=enc (Vector.replicate 256 (0 : UInt8))) hE Zd ld rfl rfl Wu rfl ty5 Yu fun a hE=>Zz hE hM Wu fun b3 w a hM hE=>Zo (seg:=enc (Vector.replicate 256 (0 : UInt8))) (cs':=enc (Vector.replicate 256 (0 : UInt8))) hE hM Zd rfl rfl rfl Wu (Flat.len _) (zle flq) (Flat.cell _) (Zr flq) fun w a hM hE=>Zf (wp_seq (Za (Zb hE rfl fun a hE=>Zf ?_))))))
 obtain ⟨j5,hl6,hF7⟩:=bind_some hF
 refine ZJ (fun a w=>Env 37 a [(4,(ptr b1 0)),(5,(ptr b3 0))] ∧ M (Old w0) w0 w [raw b3 (enc j5),raw b1 (enc (Vector.replicate 256 (0 : UInt8)))]) ?_ ?_
 ·skip
  refine wp_block ?_
  refine ZE (fun (s8 : (Vector UInt8 256) × Int) a w=>Env 37 a [(0,vI p0),(1,vI p1),(4,(ptr b1 0)),(5,(ptr b3 0)),(6,vI s8.2)] ∧ M (Old w0) w0 w [raw b3 (enc s8.1),raw b1 (enc (Vector.replicate 256 (0 : UInt8)))]) hl6 ⟨hE.sub ⟨rfl,rfl,rfl,rfl,rfl,trivial⟩,hM⟩ ?_
  rintro s8 a w ⟨hE,hM⟩ o11 hs9 hx10
  unfold VL at hs9
  refine wp_seq (Za (Ze hE rfl fun a hE=>Zk hE rfl rfl rfl fun a hE=>Zf ?_))
  refine Zq hE rfl ?_ ?_
  ·intro hb12
   have hs9:=Zu hs9 hb12
   refine wp_skip (Zy (wp_seq (wp_block (Za (Ze hE rfl fun a hE=>XM hE Zd ld rfl Tryz.underlying3 Tryz.underlying5 ?_))))); intro a hE
   rw [YB] at hE
   refine Zb hE rfl fun a hE=>Zb hE rfl fun a hE=>Zf (wp_seq (Za (Ze hE rfl fun a hE=>Zb hE rfl fun a hE=>Zf ?_)))
   obtain ⟨j13,hl14,hF15⟩:=bind_some hs9
   refine ZJ (fun a w=>Env 37 a [(0,vI p0),(1,vI p1),(4,(ptr b1 0)),(5,(ptr b3 0)),(6,vI s8.2),(7,vB j13)] ∧ M (Old w0) w0 w [raw b3 (enc s8.1),raw b1 (enc (Vector.replicate 256 (0 : UInt8)))]) ?_ ?_
   ·skip
    refine wp_block ?_
    refine ZE (fun (s16 : UInt8 × UInt8 × Int) a w=>Env 37 a [(0,vI p0),(1,vI p1),(4,(ptr b1 0)),(5,(ptr b3 0)),(6,vI s8.2),(7,vB s16.1),(8,vB s16.2.1),(9,vI s16.2.2)] ∧ M (Old w0) w0 w [raw b3 (enc s8.1),raw b1 (enc (Vector.replicate 256 (0 : UInt8)))]) hl14 ⟨hE.sub ⟨rfl,rfl,rfl,rfl,rfl,rfl,rfl,rfl,trivial⟩,hM⟩ ?_
    rintro s16 a w ⟨hE,hM⟩ o19 hs17 hx18
    unfold Vy at hs17
    refine wp_seq (Za (Ze hE rfl fun a hE=>Zk hE rfl rfl rfl fun a hE=>Zf ?_))
    refine Zq hE rfl ?_ ?_
    ·intro hb20
     have hs17:=Zu hs17 hb20
     refine wp_skip (Zy ?_)
     obtain ⟨j21,hl22,hF23⟩:=bind_some hs17
     refine ZI (fun a w=>Env 37 a [(0,vI p0),(1,vI p1),(4,(ptr b1 0)),(5,(ptr b3 0)),(6,vI s8.2),(7,vB j21.1),(8,vB j21.2),(9,vI s16.2.2)] ∧ M (Old w0) w0 w [raw b3 (enc s8.1),raw b1 (enc (Vector.replicate 256 (0 : UInt8)))]) ?_ ?_
     ·skip
      refine wp_block ?_
      obtain ⟨j24,hl25,hF26⟩:=bind_some hl22
      refine ZI (fun a w=>Env 37 a [(0,vI p0),(1,vI p1),(4,(ptr b1 0)),(5,(ptr b3 0)),(6,vI s8.2),(7,vB j24),(8,vB s16.2.1),(9,vI s16.2.2)] ∧ M (Old w0) w0 w [raw b3 (enc s8.1),raw b1 (enc (Vector.replicate 256 (0 : UInt8)))]) ?_ ?_
      ·skip
       refine Za (Ze hE rfl fun a hE=>Zk hE rfl rfl (Kt _ _ (by decide)) fun a hE=>Zk hE rfl rfl rfl fun a hE=>Zf ?_)
       refine Zq hE rfl ?_ ?_
       ·intro hb27
        have hl25:=Zu hl25 hb27
        refine wp_region_lit (Ze hE rfl fun a hE=>Ze hE rfl fun a hE=>Ze hE rfl ?_); intro a hE
        obtain ⟨r28,e29,hl25⟩:=bind_some hl25
        refine Zv hE rfl JT (YN _ p0 s16.1 s16.2.1 r28 e29) ?_
        rintro v w a ⟨rfl,hK⟩ hE
        have hM:=hM.keep hK
        refine Zb hE rfl fun a hE=>Zj ?_
        obtain rfl:=Option.some.inj hl25
        refine Zl ?_
        exact ⟨hE.sub ⟨rfl,rfl,rfl,rfl,rfl,rfl,rfl,rfl,trivial⟩,hM⟩
       ·intro hb27
        have hl25:=Zt hl25 hb27
        refine wp_skip ?_
        obtain rfl:=Option.some.inj hl25
        refine Zl ?_
        exact ⟨hE.sub ⟨rfl,rfl,rfl,rfl,rfl,rfl,rfl,rfl,trivial⟩,hM⟩
      ·skip
       rintro a w ⟨hE,hM⟩
       refine wp_region_lit (Ze hE rfl fun a hE=>Ze hE rfl fun a hE=>Ze hE rfl ?_); intro a hE
       obtain ⟨r32,e33,hF26⟩:=bind_some hF26
       refine Zv hE rfl JT (YN _ p0 s16.2.1 s16.2.1 r32 e33) ?_
       rintro v w a ⟨rfl,hK⟩ hE
       have hM:=hM.keep hK
       refine Zb hE rfl fun a hE=>Zj (Z0 ?_)
       obtain rfl:=Option.some.inj hF26
       refine Zl ?_
       exact ⟨hE.sub ⟨rfl,rfl,rfl,rfl,rfl,rfl,rfl,rfl,trivial⟩,hM⟩
     ·skip
      rintro a w ⟨hE,hM⟩
      refine wp_region_lit (Ze hE rfl fun a hE=>Zk hE rfl rfl (AL _ _ (by decide)) fun a hE=>Zb hE rfl fun a hE=>Zj (Zl ?_))
      exact ⟨_,(ois hF23),hE.sub ⟨rfl,rfl,rfl,rfl,rfl,rfl,rfl,rfl,trivial⟩,hM⟩
    ·intro hb20
     have hs17:=Zt hs17 hb20
     refine wp_exit (Zp (Zp (Z1 ?_)))
     obtain rfl:=hx18 _ (ois hs17)
     refine Zl ?_
     exact ⟨hE.sub ⟨rfl,rfl,rfl,rfl,rfl,rfl,trivial⟩,hM⟩
   ·skip
    rintro a w ⟨hE,hM⟩
    refine Zy (wp_region_lit (Ze hE rfl fun a hE=>Ze hE rfl ?_)); intro a hE
    obtain ⟨x37,hi36,hF15⟩:=bvx hF15
    refine Zm hE rfl rfl Tryz.underlying23 ty5 hi36.1 fun a hE=>Zo (seg:=[vB j13]) (cs':=enc (s8.1.setIfInBounds (s8.2).toNat j13)) hE hM Zd rfl rfl rfl ty5 rfl (ZH (v:=s8.1) (x:=j13) hi36.1) (Flat.cell (j13 : UInt8)) (ZA (v:=s8.1) (x:=j13) hi36.1) fun w a hM hE=>Zj (Z0 (Zy (wp_region_lit (Ze hE rfl fun a hE=>Zk hE rfl rfl rfl fun a hE=>Zb hE rfl fun a hE=>Zj (Zl ?_)))))
    exact ⟨_,(ois hF15),hE.sub ⟨rfl,rfl,rfl,rfl,rfl,trivial⟩,hM⟩
  ·intro hb12
   have hs9:=Zt hs9 hb12
   refine wp_exit (Zp (Zp (Z1 ?_)))
   obtain rfl:=hx10 _ (ois hs9)
   refine Zl ?_
   exact ⟨hE.sub ⟨rfl,rfl,trivial⟩,hM⟩
 ·skip
  rintro a w ⟨hE,hM⟩
  refine Zy (Za (Zn hE rfl Wu rfl hM.rawAt0 (Flat.len _) ?_)); intro a hE
  have hM:=hM.pull1
  refine Zo (seg:=enc j5) (cs':=enc j5) hE hM Zd rfl rfl rfl Wu (Flat.len _) (zle flq) (Flat.cell _) (Zr flq) fun w a hM hE=>Zf ?_
  obtain rfl:=Option.some.inj hF7
  have hq40 : Yq Tryz.prog _ _ (.cell 4 23) _:=ZQ hE rfl Wu rfl hM.rawAt0 (Flat.len _) rfl
  exact wp_ret (ZS hE rfl hq40 ⟨_,rfl,rfl,hM.kept⟩)
def XU (p0 : UInt8) (p1 : Int) : Option (UInt8) :=
 (YI (IntKind.u64.wrap p1)).bind fun _=>some (ZO (BO (orI (Jq (bI p0) (IntKind.u64.wrap p1)) (K5 (Jq (bI p0) (IntKind.u64.wrap p1)) 8)) 255))
theorem zh (w0 : World) (p0 : UInt8) (p1 : Int) (r : UInt8) (hF : XU p0 p1 = some r) :
  Calls Tryz.prog 135 [vB p0,vI p1].toArray w0 (Rt w0 (vB r)):=by
 refine ce Tryz.func135 ?_
 intro a hE
 have hM:=M.start w0
 unfold XU at hF
 refine Za (Zb hE rfl fun a hE=>Zf (Za (Ze hE rfl fun a hE=>XM hE Zd ld rfl Tryz.underlying5 Tryz.underlying2 ?_))); intro a hE
 rw [JF] at hE
 refine Ze hE rfl fun a hE=>XM hE Zd ld rfl Tryz.underlying2 Tryz.underlying185 ?_; intro a hE
 obtain ⟨_,e1,hF⟩:=bind_some hF
 have e1:=Xz e1
 refine HX hE Zd ld rfl rfl (Ba _ _ e1) fun a hE=>Zb hE rfl fun a hE=>Zf (Za (Ze hE rfl fun a hE=>Ze hE rfl fun a hE=>HX hE Zd ld rfl rfl (yF _ _ (by decide)) fun a hE=>Zk hE rfl rfl rfl fun a hE=>Zk hE rfl rfl rfl fun a hE=>XM hE Zd ld rfl Tryz.underlying2 Tryz.underlying5 ?_)); intro a hE
 rw [YB] at hE
 refine Zb hE rfl fun a hE=>Zf ?_
 obtain rfl:=Option.some.inj hF
 exact wp_ret (kr1 hE rfl rfl hM.kept)
def Ya (p0 : (List Int)) (s8 : (Vector UInt8 256) × Int) (s16 : UInt8 × Int) : Option (Fl (UInt8 × Int) UInt8) :=
 if (decide (s16.2 < (p0.length : Int))) = true then ((idx p0 s16.2).bind fun x21=>(XU (ZO s8.2) x21).bind fun r24=>some (Fl.nx (s16.1 ^^^ r24,wr (s16.2 + 1)))) else (some (Fl.ex s16.1))
def X3 (p0 : (List Int)) (p1 : UInt8) (s8 : (Vector UInt8 256) × Int) : Option (Fl ((Vector UInt8 256) × Int) (Vector UInt8 256)) :=
 if (decide (s8.2 < 256)) = true then ((ZD (Ya p0 s8) (p1,0)).bind fun j13=>(ZC s8.1 s8.2).bind fun x28=>some (Fl.nx ((s8.1.setIfInBounds (s8.2).toNat j13),wr (s8.2 + 1)))) else (some (Fl.ex s8.1))
def Wn (p0 : (List Int)) (p1 : UInt8) : Option ((Vector UInt8 256)) :=
 (ZD (X3 p0 p1) ((Vector.replicate 256 (0 : UInt8)),0)).bind fun j5=>some j5
theorem JN (w0 : World) (p0 : (List Int)) (v0_1 : Value) (hv0_1 : Ro w0 p0 [v0_1]) (p1 : UInt8) (r : (Vector UInt8 256)) (hF : Wn p0 p1 = some r) :
  Calls Tryz.prog 107 [v0_1,vB p1].toArray w0 (Rt w0 (Value.agg (enc r).toArray)):=by
 refine ce Tryz.func107 ?_
 intro a hE
 have hM:=M.start w0
 unfold Wn at hF
 refine Za (Zz hE hM Wu fun b1 w a hM hE=>Zf (Za (YU (parts:=[]) (vs:=[]) (cs:=enc (Vector.replicate 256 (0 : UInt8))) hE Zd ld rfl rfl Wu rfl ty5 Yu fun a hE=>Zz hE hM Wu fun b3 w a hM hE=>Zo (seg:=enc (Vector.replicate 256 (0 : UInt8))) (cs':=enc (Vector.replicate 256 (0 : UInt8))) hE hM Zd rfl rfl rfl Wu (Flat.len _) (zle flq) (Flat.cell _) (Zr flq) fun w a hM hE=>Zf (wp_seq (Za (Zb hE rfl fun a hE=>Zf ?_))))))
 obtain ⟨j5,hl6,hF7⟩:=bind_some hF
 refine ZJ (fun a w=>Env 34 a [(4,(ptr b1 0)),(5,(ptr b3 0))] ∧ M (Old w0) w0 w [raw b3 (enc j5),raw b1 (enc (Vector.replicate 256 (0 : UInt8)))]) ?_ ?_
 ·skip
  refine wp_block ?_
  refine ZE (fun (s8 : (Vector UInt8 256) × Int) a w=>Env 34 a [(0,v0_1),(1,vB p1),(4,(ptr b1 0)),(5,(ptr b3 0)),(6,vI s8.2)] ∧ M (Old w0) w0 w [raw b3 (enc s8.1),raw b1 (enc (Vector.replicate 256 (0 : UInt8)))]) hl6 ⟨hE.sub ⟨rfl,rfl,rfl,rfl,rfl,trivial⟩,hM⟩ ?_
  rintro s8 a w ⟨hE,hM⟩ o11 hs9 hx10
  unfold X3 at hs9
  refine wp_seq (Za (Ze hE rfl fun a hE=>Zk hE rfl rfl rfl fun a hE=>Zf ?_))
  refine Zq hE rfl ?_ ?_
  ·intro hb12
   have hs9:=Zu hs9 hb12
   refine wp_skip (Zy (wp_seq (wp_block (Za (Ze hE rfl fun a hE=>Zb hE rfl fun a hE=>Zf (wp_seq (Za (Zb hE rfl fun a hE=>Zf ?_))))))))
   obtain ⟨j13,hl14,hF15⟩:=bind_some hs9
   refine ZJ (fun a w=>Env 34 a [(0,v0_1),(1,vB p1),(4,(ptr b1 0)),(5,(ptr b3 0)),(6,vI s8.2),(7,vB j13)] ∧ M (Old w0) w0 w [raw b3 (enc s8.1),raw b1 (enc (Vector.replicate 256 (0 : UInt8)))]) ?_ ?_
   ·skip
    refine wp_block ?_
    refine ZE (fun (s16 : UInt8 × Int) a w=>Env 34 a [(0,v0_1),(1,vB p1),(4,(ptr b1 0)),(5,(ptr b3 0)),(6,vI s8.2),(7,vB s16.1),(8,vI s16.2)] ∧ M (Old w0) w0 w [raw b3 (enc s8.1),raw b1 (enc (Vector.replicate 256 (0 : UInt8)))]) hl14 ⟨hE.sub ⟨rfl,rfl,rfl,rfl,rfl,rfl,rfl,trivial⟩,hM⟩ ?_
    rintro s16 a w ⟨hE,hM⟩ o19 hs17 hx18
    unfold Ya at hs17
    refine wp_seq (Za (Ze hE rfl fun a hE=>Ze hE rfl fun a hE=>ZZ hE rfl Tryz.underlying42 (hM.rd hv0_1) fun a hE=>Zk hE rfl rfl rfl fun a hE=>Zf ?_))
    refine Zq hE rfl ?_ ?_
    ·intro hb20
     have hs17:=Zu hs17 hb20
     refine wp_skip (Zy (wp_seq (wp_block (wp_region_lit (Ze hE rfl fun a hE=>Ze hE rfl fun a hE=>XM hE Zd ld rfl Tryz.underlying3 Tryz.underlying5 ?_))))); intro a hE
     rw [YB] at hE
     refine Ze hE rfl fun a hE=>Ze hE rfl ?_; intro a hE
     obtain ⟨x21,hi23,hs17⟩:=bix hs17
     refine ZK hE rfl rfl Tryz.underlying42 ty2 (hM.rd hv0_1) hi23.1 fun a hE=>Zx (v:=(vI x21)) hE rfl ty2 rfl (Ys (hM.rd hv0_1) hi23.2) ?_; intro a hE
     obtain ⟨r24,e25,hs17⟩:=bind_some hs17
     refine Zv hE rfl (cbm Tryz.func135) (zh _ (ZO s8.2) x21 r24 e25) ?_
     rintro v w a ⟨rfl,hK⟩ hE
     have hM:=hM.keep hK
     refine Zk hE rfl rfl (VA s16.1 r24) fun a hE=>Zb hE rfl fun a hE=>Zj (Z0 (Zy (wp_region_lit (Ze hE rfl fun a hE=>Zk hE rfl rfl rfl fun a hE=>Zb hE rfl fun a hE=>Zj (Zl ?_)))))
     exact ⟨_,(ois hs17),hE.sub ⟨rfl,rfl,rfl,rfl,rfl,rfl,rfl,trivial⟩,hM⟩
    ·intro hb20
     have hs17:=Zt hs17 hb20
     refine wp_exit (Zp (Zp (Z1 ?_)))
     obtain rfl:=hx18 _ (ois hs17)
     refine Zl ?_
     exact ⟨hE.sub ⟨rfl,rfl,rfl,rfl,rfl,rfl,trivial⟩,hM⟩
   ·skip
    rintro a w ⟨hE,hM⟩
    refine Zy (wp_region_lit (Ze hE rfl fun a hE=>Ze hE rfl ?_)); intro a hE
    obtain ⟨x28,hi27,hF15⟩:=bvx hF15
    refine Zm hE rfl rfl Tryz.underlying23 ty5 hi27.1 fun a hE=>Zo (seg:=[vB j13]) (cs':=enc (s8.1.setIfInBounds (s8.2).toNat j13)) hE hM Zd rfl rfl rfl ty5 rfl (ZH (v:=s8.1) (x:=j13) hi27.1) (Flat.cell (j13 : UInt8)) (ZA (v:=s8.1) (x:=j13) hi27.1) fun w a hM hE=>Zj (Z0 (Zy (wp_region_lit (Ze hE rfl fun a hE=>Zk hE rfl rfl rfl fun a hE=>Zb hE rfl fun a hE=>Zj (Zl ?_)))))
    exact ⟨_,(ois hF15),hE.sub ⟨rfl,rfl,rfl,rfl,rfl,trivial⟩,hM⟩
  ·intro hb12
   have hs9:=Zt hs9 hb12
   refine wp_exit (Zp (Zp (Z1 ?_)))
   obtain rfl:=hx10 _ (ois hs9)
   refine Zl ?_
   exact ⟨hE.sub ⟨rfl,rfl,trivial⟩,hM⟩
 ·skip
  rintro a w ⟨hE,hM⟩
  refine Zy (Za (Zn hE rfl Wu rfl hM.rawAt0 (Flat.len _) ?_)); intro a hE
  have hM:=hM.pull1
  refine Zo (seg:=enc j5) (cs':=enc j5) hE hM Zd rfl rfl rfl Wu (Flat.len _) (zle flq) (Flat.cell _) (Zr flq) fun w a hM hE=>Zf ?_
  obtain rfl:=Option.some.inj hF7
  have hq31 : Yq Tryz.prog _ _ (.cell 4 23) _:=ZQ hE rfl Wu rfl hM.rawAt0 (Flat.len _) rfl
  exact wp_ret (ZS hE rfl hq31 ⟨_,rfl,rfl,hM.kept⟩)
def Ua (p0 : (Vector UInt8 256)) (p1 : (Vector UInt8 256)) (s12 : (Vector UInt8 256) × Int) : Option (Fl ((Vector UInt8 256) × Int) (Vector UInt8 256)) :=
 if (decide (s12.2 < 256)) = true then ((ZC p0 s12.2).bind fun x18=>(ZC p1 (bI x18)).bind fun x21=>(ZC s12.1 s12.2).bind fun x24=>some (Fl.nx ((s12.1.setIfInBounds (s12.2).toNat x21),wr (s12.2 + 1)))) else (some (Fl.ex s12.1))
def UV (p0 : (Vector UInt8 256)) (p1 : (Vector UInt8 256)) : Option ((Vector UInt8 256)) :=
 (ZD (Ua p0 p1) ((Vector.replicate 256 (0 : UInt8)),0)).bind fun j9=>some j9
theorem A0 (w0 : World) (p0 : (Vector UInt8 256)) (p1 : (Vector UInt8 256)) (r : (Vector UInt8 256)) (hF : UV p0 p1 = some r) :
  Calls Tryz.prog 105 [(Value.agg (enc p0).toArray),(Value.agg (enc p1).toArray)].toArray w0 (Rt w0 (Value.agg (enc r).toArray)):=by
 refine ce Tryz.func105 ?_
 intro a hE
 have hM:=M.start w0
 unfold UV at hF
 refine Za (ZM (cs:=enc p0) hE hM Zd ld rfl rfl fun b1 w a hM hE=>ZM (cs:=enc p1) hE hM Zd ld rfl rfl fun b3 w a hM hE=>Zz hE hM Wu fun b5 w a hM hE=>Zf (Za (YU (parts:=[]) (vs:=[]) (cs:=enc (Vector.replicate 256 (0 : UInt8))) hE Zd ld rfl rfl Wu rfl ty5 Yu fun a hE=>Zz hE hM Wu fun b7 w a hM hE=>Zo (seg:=enc (Vector.replicate 256 (0 : UInt8))) (cs':=enc (Vector.replicate 256 (0 : UInt8))) hE hM Zd rfl rfl rfl Wu (Flat.len _) (zle flq) (Flat.cell _) (Zr flq) fun w a hM hE=>Zf (wp_seq (Za (Zb hE rfl fun a hE=>Zf ?_))))))
 obtain ⟨j9,hl10,hF11⟩:=bind_some hF
 refine ZJ (fun a w=>Env 20 a [(4,(ptr b5 0)),(5,(ptr b7 0))] ∧ M (Old w0) w0 w [raw b7 (enc j9),raw b5 (enc (Vector.replicate 256 (0 : UInt8)))]) ?_ ?_
 ·skip
  refine wp_block ?_
  refine ZE (fun (s12 : (Vector UInt8 256) × Int) a w=>Env 20 a [(2,(ptr b1 0)),(3,(ptr b3 0)),(4,(ptr b5 0)),(5,(ptr b7 0)),(6,vI s12.2)] ∧ M (Old w0) w0 w [raw b7 (enc s12.1),raw b5 (enc (Vector.replicate 256 (0 : UInt8))),raw b3 (enc p1),raw b1 (enc p0)]) hl10 ⟨hE.sub ⟨rfl,rfl,rfl,rfl,rfl,trivial⟩,hM⟩ ?_
  rintro s12 a w ⟨hE,hM⟩ o15 hs13 hx14
  unfold Ua at hs13
  refine wp_seq (Za (Ze hE rfl fun a hE=>Zk hE rfl rfl rfl fun a hE=>Zf ?_))
  refine Zq hE rfl ?_ ?_
  ·intro hb16
   have hs13:=Zu hs13 hb16
   refine wp_skip (Zy (wp_seq (wp_block (wp_region_lit (Ze hE rfl fun a hE=>Ze hE rfl ?_))))); intro a hE
   obtain ⟨x18,hi17,hs13⟩:=bvx hs13
   refine Zm hE rfl rfl Tryz.underlying23 ty5 hi17.1 fun a hE=>Zx (v:=(vB x18)) hE rfl ty5 rfl (At.vec hM.rawAt3 hi17.2) ?_; intro a hE
   obtain ⟨x21,hi20,hs13⟩:=bvx hs13
   refine Zm hE rfl rfl Tryz.underlying23 ty5 hi20.1 fun a hE=>Zx (v:=(vB x21)) hE rfl ty5 rfl (At.vec hM.rawAt2 hi20.2) ?_; intro a hE
   obtain ⟨x24,hi23,hs13⟩:=bvx hs13
   refine Zm hE rfl rfl Tryz.underlying23 ty5 hi23.1 fun a hE=>Zo (seg:=[vB x21]) (cs':=enc (s12.1.setIfInBounds (s12.2).toNat x21)) hE hM Zd rfl rfl rfl ty5 rfl (ZH (v:=s12.1) (x:=x21) hi23.1) (Flat.cell (x21 : UInt8)) (ZA (v:=s12.1) (x:=x21) hi23.1) fun w a hM hE=>Zj (Z0 (Zy (wp_region_lit (Ze hE rfl fun a hE=>Zk hE rfl rfl rfl fun a hE=>Zb hE rfl fun a hE=>Zj (Zl ?_)))))
   exact ⟨_,(ois hs13),hE.sub ⟨rfl,rfl,rfl,rfl,rfl,trivial⟩,hM⟩
  ·intro hb16
   have hs13:=Zt hs13 hb16
   refine wp_exit (Zp (Zp (Z1 ?_)))
   obtain rfl:=hx14 _ (ois hs13)
   refine Zl ?_
   have hM:=M.fst (l:=[_,_]) hM.pull1.pull1
   exact ⟨hE.sub ⟨rfl,rfl,trivial⟩,hM⟩
 ·skip
  rintro a w ⟨hE,hM⟩
  refine Zy (Za (Zn hE rfl Wu rfl hM.rawAt0 (Flat.len _) ?_)); intro a hE
  have hM:=hM.pull1
  refine Zo (seg:=enc j9) (cs':=enc j9) hE hM Zd rfl rfl rfl Wu (Flat.len _) (zle flq) (Flat.cell _) (Zr flq) fun w a hM hE=>Zf ?_
  obtain rfl:=Option.some.inj hF11
  have hq27 : Yq Tryz.prog _ _ (.cell 4 23) _:=ZQ hE rfl Wu rfl hM.rawAt0 (Flat.len _) rfl
  exact wp_ret (ZS hE rfl hq27 ⟨_,rfl,rfl,hM.kept⟩)
def Tm (s16 : (Vector (Vector UInt8 4) 4) × Int) (s24 : (Vector (Vector UInt8 4) 4) × Int) : Option (Fl ((Vector (Vector UInt8 4) 4) × Int) (Vector (Vector UInt8 4) 4)) :=
 if (decide (s24.2 < 4)) = true then ((Wr 285 (ZO (Ki s16.2 (wr (4 + s24.2))))).bind fun r30=>(ZC s24.1 s16.2).bind fun x33=>(ZC x33 s24.2).bind fun x36=>some (Fl.nx ((s24.1.setIfInBounds (s16.2).toNat (x33.setIfInBounds (s24.2).toNat r30)),wr (s24.2 + 1)))) else (some (Fl.ex s24.1))
def Tt (s16 : (Vector (Vector UInt8 4) 4) × Int) : Option (Fl ((Vector (Vector UInt8 4) 4) × Int) (Vector (Vector UInt8 4) 4)) :=
 if (decide (s16.2 < 4)) = true then ((ZD (Tm s16) (s16.1,0)).bind fun j21=>some (Fl.nx (j21,wr (s16.2 + 1)))) else (some (Fl.ex s16.1))
def Tv (s43 : (Vector UInt8 16) × Int) : Option (Fl ((Vector UInt8 16) × Int) (Vector UInt8 16)) :=
 if (decide (s43.2 < 16)) = true then ((ZC s43.1 s43.2).bind fun x49=>some (Fl.nx ((s43.1.setIfInBounds (s43.2).toNat (ZO (Int.tmod (wr ((wr (13 * s43.2)) + 4)) 16))),wr (s43.2 + 1)))) else (some (Fl.ex s43.1))
def Uo (p0 : Int) : Option (GCipher) :=
 (V1 285 254).bind fun r5=>(Wn ([0,1,4] : List Int) 90).bind fun r9=>(UV r5 r9).bind fun r11=>(ZD (Tt) ((Vector.replicate 4 (Vector.replicate 4 (0 : UInt8))),0)).bind fun j13=>(ZD (Tv) ((Vector.replicate 16 (0 : UInt8)),0)).bind fun j40=>some (⟨285,r11,j13,j40,p0⟩ : GCipher)
theorem BN (w0 : World) (p0 : Int) (r : GCipher) (hF : Uo p0 = some r) :
  Calls Tryz.prog 42 [vI p0].toArray w0 (Rt w0 (Value.agg (enc r).toArray)):=by
 refine ce Tryz.func42 ?_
 intro a hE
 have hM:=M.start w0
 unfold Uo at hF
 refine Za (Zz hE hM Te fun b1 w a hM hE=>Zf (Za (Ze hE rfl fun a hE=>K0 (parts:=[(0,.const (vI 285)),(4,.tmp 7)]) (vs:=[(0,vI 285),(4,vI p0)]) (cs:=cat [[vI 285],enc (Vector.replicate 256 (0 : UInt8)),enc (Vector.replicate 4 (Vector.replicate 4 (0 : UInt8))),enc (Vector.replicate 16 (0 : UInt8)),[vI p0]]) hE Zd ld rfl rfl Te pl30 (WW (pre:=[]) (seg:=[vI 0]) (seg':=[vI 285]) (post:=[enc (Vector.replicate 256 (0 : UInt8)),enc (Vector.replicate 4 (Vector.replicate 4 (0 : UInt8))),enc (Vector.replicate 16 (0 : UInt8)),[vI 0]]) rfl cl0 rfl rfl rfl (WW (pre:=[[vI 285],enc (Vector.replicate 256 (0 : UInt8)),enc (Vector.replicate 4 (Vector.replicate 4 (0 : UInt8))),enc (Vector.replicate 16 (0 : UInt8))]) (seg:=[vI 0]) (seg':=[vI p0]) (post:=[]) rfl ck rfl rfl rfl HN)) fun a hE=>Zz hE hM Te fun b3 w a hM hE=>Zo (seg:=cat [[vI 285],enc (Vector.replicate 256 (0 : UInt8)),enc (Vector.replicate 4 (Vector.replicate 4 (0 : UInt8))),enc (Vector.replicate 16 (0 : UInt8)),[vI p0]]) (cs':=cat [[vI 285],enc (Vector.replicate 256 (0 : UInt8)),enc (Vector.replicate 4 (Vector.replicate 4 (0 : UInt8))),enc (Vector.replicate 16 (0 : UInt8)),[vI p0]]) hE hM Zd rfl rfl rfl Te cq (Nat.le_of_eq ((Nat.zero_add _).trans (Eq.trans cq (Eq.symm cq)))) (Yt (cc1 (Flat.cell (285 : Int)) (cc1 (Flat.cell _) (cc1 (Flat.cell _) (cc1 (Flat.cell _) (cc1 (Flat.cell (p0 : Int)) cc0)))))) (Zr (Eq.trans cq (Eq.symm cq))) fun w a hM hE=>Zf (Za ?_))))
 obtain ⟨r5,e6,hF⟩:=bind_some hF
 refine Zv hE rfl (cbm Tryz.func106) (Al _ 285 254 r5 e6) ?_
 rintro v w a ⟨rfl,hK⟩ hE
 have hM:=hM.keep hK
 refine XH (xs:=[.const (vI 0),.const (vI 1),.const (vI 4)]) (l:=([0,1,4] : List Int)) (vs:=[vI 0,vI 1,vI 4]) hE hM Zd ld rfl rfl Tryz.underlying42 ty2 rfl (by decide) rfl ?_; intro u7 w a hM hE
 obtain ⟨r9,e10,hF⟩:=bind_some hF
 refine Zv hE rfl (cbm Tryz.func107) (JN _ ([0,1,4] : List Int) u7 (hM.sl (pre:=[]) noB) 90 r9 e10) ?_
 rintro v w a ⟨rfl,hK⟩ hE
 have hM:=hM.keep hK
 obtain ⟨r11,e12,hF⟩:=bind_some hF
 refine Zv hE rfl (cbm Tryz.func105) (A0 _ r5 r9 r11 e12) ?_
 rintro v w a ⟨rfl,hK⟩ hE
 have hM:=hM.keep hK
 refine Zg hE rfl (Q9) ?_; intro a hE
 have hM:=hM.pull1
 refine Zo (seg:=enc r11) hE hM Zd rfl rfl rfl Wu (Flat.len _) (YA (pre:=[[vI 285]]) ck flq) (Flat.cell _) (ZT (pre:=[[vI 285]]) ck flq) fun w a hM hE=>Zf (wp_seq (Za (Zb hE rfl fun a hE=>Zf ?_)))
 obtain ⟨j13,hl14,hF15⟩:=bind_some hF
 refine ZJ (fun a w=>Env 46 a [(2,(ptr b1 0)),(3,(ptr b3 0))] ∧ M (Old w0) w0 w [raw b3 (cat [[vI 285],enc r11,enc j13,enc (Vector.replicate 16 (0 : UInt8)),[vI p0]]),raw b1 (cat [[vI 0],enc (Vector.replicate 256 (0 : UInt8)),enc (Vector.replicate 4 (Vector.replicate 4 (0 : UInt8))),enc (Vector.replicate 16 (0 : UInt8)),[vI 0]])]) ?_ ?_
 ·skip
  refine wp_block ?_
  have hM:=M.fst (l:=[_,_]) hM.pull2.pull1
  refine ZE (fun (s16 : (Vector (Vector UInt8 4) 4) × Int) a w=>Env 46 a [(2,(ptr b1 0)),(3,(ptr b3 0)),(4,vI s16.2)] ∧ M (Old w0) w0 w [raw b3 (cat [[vI 285],enc r11,enc s16.1,enc (Vector.replicate 16 (0 : UInt8)),[vI p0]]),raw b1 (cat [[vI 0],enc (Vector.replicate 256 (0 : UInt8)),enc (Vector.replicate 4 (Vector.replicate 4 (0 : UInt8))),enc (Vector.replicate 16 (0 : UInt8)),[vI 0]])]) hl14 ⟨hE.sub ⟨rfl,rfl,rfl,trivial⟩,hM⟩ ?_
  rintro s16 a w ⟨hE,hM⟩ o19 hs17 hx18
  unfold Tt at hs17
  refine wp_seq (Za (Ze hE rfl fun a hE=>Zk hE rfl rfl rfl fun a hE=>Zf ?_))
  refine Zq hE rfl ?_ ?_
  ·intro hb20
   have hs17:=Zu hs17 hb20
   refine wp_skip (Zy (wp_seq (wp_block (Za (Zb hE rfl fun a hE=>Zf ?_)))))
   obtain ⟨j21,hl22,hF23⟩:=bind_some hs17
   refine ZJ (fun a w=>Env 46 a [(2,(ptr b1 0)),(3,(ptr b3 0)),(4,vI s16.2)] ∧ M (Old w0) w0 w [raw b3 (cat [[vI 285],enc r11,enc j21,enc (Vector.replicate 16 (0 : UInt8)),[vI p0]]),raw b1 (cat [[vI 0],enc (Vector.replicate 256 (0 : UInt8)),enc (Vector.replicate 4 (Vector.replicate 4 (0 : UInt8))),enc (Vector.replicate 16 (0 : UInt8)),[vI 0]])]) ?_ ?_
   ·skip
    refine wp_block ?_
    refine ZE (fun (s24 : (Vector (Vector UInt8 4) 4) × Int) a w=>Env 46 a [(2,(ptr b1 0)),(3,(ptr b3 0)),(4,vI s16.2),(5,vI s24.2)] ∧ M (Old w0) w0 w [raw b3 (cat [[vI 285],enc r11,enc s24.1,enc (Vector.replicate 16 (0 : UInt8)),[vI p0]]),raw b1 (cat [[vI 0],enc (Vector.replicate 256 (0 : UInt8)),enc (Vector.replicate 4 (Vector.replicate 4 (0 : UInt8))),enc (Vector.replicate 16 (0 : UInt8)),[vI 0]])]) hl22 ⟨hE.sub ⟨rfl,rfl,rfl,rfl,trivial⟩,hM⟩ ?_
    rintro s24 a w ⟨hE,hM⟩ o27 hs25 hx26
    unfold Tm at hs25
    refine wp_seq (Za (Ze hE rfl fun a hE=>Zk hE rfl rfl rfl fun a hE=>Zf ?_))
    refine Zq hE rfl ?_ ?_
    ·intro hb28
     have hs25:=Zu hs25 hb28
     refine wp_skip (Zy (wp_seq (wp_block ?_)))
     obtain ⟨r30,e31,hs25⟩:=bind_some hs25
     obtain ⟨x33,hi32,hs25⟩:=bvx hs25
     obtain ⟨x36,hi35,hs25⟩:=bvx hs25
     refine ZX (n:=46) (hd:=[_,_,_,_,_,_,_,_,_,_,_]) (tl:=[_]) Yx rfl rfl [22,23,24,25,26,27,28,29,30,31,32] (by decide) (fun w=>M (Old w0) w0 w [raw b3 (cat [[vI 285],enc r11,enc s24.1,enc (Vector.replicate 16 (0 : UInt8)),[vI p0]]),raw b1 (cat [[vI 0],enc (Vector.replicate 256 (0 : UInt8)),enc (Vector.replicate 4 (Vector.replicate 4 (0 : UInt8))),enc (Vector.replicate 16 (0 : UInt8)),[vI 0]])]) (fun j=>([fun v _=>v = (vI s16.2),fun v _=>v = (vI s24.2),fun v _=>v = (vI s16.2),fun v _=>v = (vI s24.2),fun v _=>v = (vI (wr (4 + s24.2))),fun v _=>v = (vI (Ki s16.2 (wr (4 + s24.2)))),fun v _=>v = (vB (ZO (Ki s16.2 (wr (4 + s24.2))))),fun v _=>v = (vB r30),fun v _=>v = (ptr b3 (0 + 257)),fun v _=>v = (ptr b3 (0 + 257 + (s16.2).toNat * 4)),fun v _=>v = (ptr b3 (0 + 257 + (s16.2).toNat * 4 + (s24.2).toNat * 1))] : List (Value → World → Prop)).getD j (fun _ _=>True)) (fun _ _ h hk=>h.keep hk) (gup gu11) hE hM.drew (st11 ?_ ?_ ?_ ?_ ?_ ?_ ?_ ?_ ?_ ?_ ?_) ?_
     ·exact qm
     ·exact qm
     ·exact qm
     ·exact qm
     ·intro a w ux29 hE hM hp
      have f3 : ux29 3 = (vI s24.2):=hp 0 _ rfl rfl
      exact Zk hE rfl (lk rfl f3) rfl fun a hE=>kq rfl hE rfl
     ·intro a w ux29 hE hM hp
      have f2 : ux29 2 = (vI s16.2):=hp 0 _ rfl rfl
      have f4 : ux29 4 = (vI (wr (4 + s24.2))):=hp 1 _ rfl rfl
      exact Zk hE (lk rfl f2) (lk rfl f4) rfl fun a hE=>kq rfl hE rfl
     ·intro a w ux29 hE hM hp
      have f5 : ux29 5 = (vI (Ki s16.2 (wr (4 + s24.2)))):=hp 0 _ rfl rfl
      refine XM hE Zd ld (lk rfl f5) Tryz.underlying3 Tryz.underlying5 ?_; intro a hE
      rw [YB] at hE
      exact kq rfl hE rfl
     ·intro a w ux29 hE hM hp
      have f6 : ux29 6 = (vB (ZO (Ki s16.2 (wr (4 + s24.2))))):=hp 0 _ rfl rfl
      refine Zv hE (ZU (ZR rfl (ZR (lk rfl f6) Xf))) (cbm Tryz.func108) (JU _ 285 (ZO (Ki s16.2 (wr (4 + s24.2)))) r30 e31) ?_
      rintro v w a ⟨rfl,hK⟩ hE
      exact ⟨hK,_,_,rfl,hE,rfl⟩
     ·exact fun a w ux29 hE hM hp=>Zg hE rfl (Kr) fun a hE=>kq rfl hE rfl
     ·intro a w ux29 hE hM hp
      have f0 : ux29 0 = (vI s16.2):=hp 1 _ rfl rfl
      have f8 : ux29 8 = (ptr b3 (0 + 257)):=hp 0 _ rfl rfl
      exact Zm hE (lk rfl f8) (lk rfl f0) Tryz.underlying26 Yh hi32.1 fun a hE=>kq rfl hE rfl
     ·intro a w ux29 hE hM hp
      have f1 : ux29 1 = (vI s24.2):=hp 1 _ rfl rfl
      have f9 : ux29 9 = (ptr b3 (0 + 257 + (s16.2).toNat * 4)):=hp 0 _ rfl rfl
      exact Zm hE (lk rfl f9) (lk rfl f1) Tryz.underlying24 ty5 hi35.1 fun a hE=>kq rfl hE rfl
     ·intro a w ux29 hE hM hg
      have hE:=hE.sub (e':=[(29,vB r30),(32,(ptr b3 (0 + 257 + (s16.2).toNat * 4 + (s24.2).toNat * 1))),(2,(ptr b1 0)),(3,(ptr b3 0)),(4,vI s16.2),(5,vI s24.2),(18,vI s24.2),(19,(vT (decide (s24.2 < 4))))]) ⟨lk rfl (hg 7 (by decide)),lk rfl (hg 10 (by decide)),rfl,rfl,rfl,rfl,rfl,rfl,trivial⟩
      refine Zo (seg:=[vB r30]) (cs':=cat [[vI 285],enc r11,enc (s24.1.setIfInBounds (s16.2).toNat (x33.setIfInBounds (s24.2).toNat r30)),enc (Vector.replicate 16 (0 : UInt8)),[vI p0]]) hE hM Zd rfl rfl rfl ty5 rfl (Jl (o':=(s16.2).toNat * 4 + (0 + (s24.2).toNat * 1)) (pre:=[[vI 285],enc r11]) (seg:=enc s24.1) (post:=[enc (Vector.replicate 16 (0 : UInt8)),[vI p0]]) ck (XX (o':=0 + (s24.2).toNat * 1) hi32 (ZH (v:=x33) (x:=r30) hi35.1) (by first | omega | (simp only [Flat.n] <;> omega))) (by first | omega | (simp only [Flat.n] <;> omega))) (Flat.cell (r30 : UInt8)) (QL (o':=(s16.2).toNat * 4 + (0 + (s24.2).toNat * 1)) (pre:=[[vI 285],enc r11]) (seg:=enc s24.1) (post:=[enc (Vector.replicate 16 (0 : UInt8)),[vI p0]]) ck (XX (o':=0 + (s24.2).toNat * 1) hi32 (ZH (v:=x33) (x:=r30) hi35.1) (by first | omega | (simp only [Flat.n] <;> omega))) (YW (o':=0 + (s24.2).toNat * 1) hi32 (ZH (v:=x33) (x:=r30) hi35.1) (ZA (v:=x33) (x:=r30) hi35.1) (by first | omega | (simp only [Flat.n] <;> omega))) (by first | omega | (simp only [Flat.n] <;> omega))) fun w a hM hE=>Zj (Z0 (Zy (wp_region_lit (Ze hE rfl fun a hE=>Zk hE rfl rfl rfl fun a hE=>Zb hE rfl fun a hE=>Zj (Zl ?_)))))
      exact ⟨_,(ois hs25),hE.sub ⟨rfl,rfl,rfl,rfl,trivial⟩,hM⟩
    ·intro hb28
     have hs25:=Zt hs25 hb28
     refine wp_exit (Zp (Zp (Z1 ?_)))
     obtain rfl:=hx26 _ (ois hs25)
     refine Zl ?_
     exact ⟨hE.sub ⟨rfl,rfl,rfl,trivial⟩,hM⟩
   ·skip
    rintro a w ⟨hE,hM⟩
    refine Z0 (Zy (wp_region_lit (Ze hE rfl fun a hE=>Zk hE rfl rfl rfl fun a hE=>Zb hE rfl fun a hE=>Zj (Zl ?_))))
    exact ⟨_,(ois hF23),hE.sub ⟨rfl,rfl,rfl,trivial⟩,hM⟩
  ·intro hb20
   have hs17:=Zt hs17 hb20
   refine wp_exit (Zp (Zp (Z1 ?_)))
   obtain rfl:=hx18 _ (ois hs17)
   refine Zl ?_
   exact ⟨hE.sub ⟨rfl,rfl,trivial⟩,hM⟩
 ·skip
  rintro a w ⟨hE,hM⟩
  refine Zy (wp_seq (Za (Zb hE rfl fun a hE=>Zf ?_)))
  obtain ⟨j40,hl41,hF42⟩:=bind_some hF15
  refine ZJ (fun a w=>Env 46 a [(2,(ptr b1 0)),(3,(ptr b3 0))] ∧ M (Old w0) w0 w [raw b3 (cat [[vI 285],enc r11,enc j13,enc j40,[vI p0]]),raw b1 (cat [[vI 0],enc (Vector.replicate 256 (0 : UInt8)),enc (Vector.replicate 4 (Vector.replicate 4 (0 : UInt8))),enc (Vector.replicate 16 (0 : UInt8)),[vI 0]])]) ?_ ?_
  ·skip
   refine wp_block ?_
   refine ZE (fun (s43 : (Vector UInt8 16) × Int) a w=>Env 46 a [(2,(ptr b1 0)),(3,(ptr b3 0)),(6,vI s43.2)] ∧ M (Old w0) w0 w [raw b3 (cat [[vI 285],enc r11,enc j13,enc s43.1,[vI p0]]),raw b1 (cat [[vI 0],enc (Vector.replicate 256 (0 : UInt8)),enc (Vector.replicate 4 (Vector.replicate 4 (0 : UInt8))),enc (Vector.replicate 16 (0 : UInt8)),[vI 0]])]) hl41 ⟨hE.sub ⟨rfl,rfl,rfl,trivial⟩,hM⟩ ?_
   rintro s43 a w ⟨hE,hM⟩ o46 hs44 hx45
   unfold Tv at hs44
   refine wp_seq (Za (Ze hE rfl fun a hE=>Zk hE rfl rfl rfl fun a hE=>Zf ?_))
   refine Zq hE rfl ?_ ?_
   ·intro hb47
    have hs44:=Zu hs44 hb47
    refine wp_skip (Zy (wp_seq (wp_block (wp_region_lit (Ze hE rfl fun a hE=>Ze hE rfl fun a hE=>Zk hE rfl rfl rfl fun a hE=>Zk hE rfl rfl rfl fun a hE=>Zk hE rfl rfl (Kt _ _ (by decide)) fun a hE=>XM hE Zd ld rfl Tryz.underlying3 Tryz.underlying5 ?_))))); intro a hE
    rw [YB] at hE
    refine Zg hE rfl (Kn) ?_; intro a hE
    obtain ⟨x49,hi48,hs44⟩:=bvx hs44
    refine Zm hE rfl rfl Tryz.underlying28 ty5 hi48.1 fun a hE=>Zo (seg:=[(vB (ZO (Int.tmod (wr ((wr (13 * s43.2)) + 4)) 16)))]) (cs':=cat [[vI 285],enc r11,enc j13,enc (s43.1.setIfInBounds (s43.2).toNat (ZO (Int.tmod (wr ((wr (13 * s43.2)) + 4)) 16))),[vI p0]]) hE hM Zd rfl rfl rfl ty5 rfl (Jl (o':=0 + (s43.2).toNat * 1) (pre:=[[vI 285],enc r11,enc j13]) (seg:=enc s43.1) (post:=[[vI p0]]) ck (ZH (v:=s43.1) (x:=ZO (Int.tmod (wr ((wr (13 * s43.2)) + 4)) 16)) hi48.1) (by first | omega | (simp only [Flat.n] <;> omega))) (Flat.cell (ZO (Int.tmod (wr ((wr (13 * s43.2)) + 4)) 16) : UInt8)) (QL (o':=0 + (s43.2).toNat * 1) (pre:=[[vI 285],enc r11,enc j13]) (seg:=enc s43.1) (post:=[[vI p0]]) ck (ZH (v:=s43.1) (x:=ZO (Int.tmod (wr ((wr (13 * s43.2)) + 4)) 16)) hi48.1) (ZA (v:=s43.1) (x:=ZO (Int.tmod (wr ((wr (13 * s43.2)) + 4)) 16)) hi48.1) (by first | omega | (simp only [Flat.n] <;> omega))) fun w a hM hE=>Zj (Z0 (Zy (wp_region_lit (Ze hE rfl fun a hE=>Zk hE rfl rfl rfl fun a hE=>Zb hE rfl fun a hE=>Zj (Zl ?_)))))
    exact ⟨_,(ois hs44),hE.sub ⟨rfl,rfl,rfl,trivial⟩,hM⟩
   ·intro hb47
    have hs44:=Zt hs44 hb47
    refine wp_exit (Zp (Zp (Z1 ?_)))
    obtain rfl:=hx45 _ (ois hs44)
    refine Zl ?_
    exact ⟨hE.sub ⟨rfl,rfl,trivial⟩,hM⟩
  ·skip
   rintro a w ⟨hE,hM⟩
   refine Zy (Za (Zn hE rfl Te rfl hM.rawAt0 cq ?_)); intro a hE
   have hM:=hM.pull1
   refine Zo (seg:=cat [[(vI ((⟨285,r11,j13,j40,p0⟩ : GCipher).Field))],enc ((⟨285,r11,j13,j40,p0⟩ : GCipher).Box),enc ((⟨285,r11,j13,j40,p0⟩ : GCipher).Mix),enc ((⟨285,r11,j13,j40,p0⟩ : GCipher).Places),[(vI ((⟨285,r11,j13,j40,p0⟩ : GCipher).Rounds))]]) (cs':=cat [[(vI ((⟨285,r11,j13,j40,p0⟩ : GCipher).Field))],enc ((⟨285,r11,j13,j40,p0⟩ : GCipher).Box),enc ((⟨285,r11,j13,j40,p0⟩ : GCipher).Mix),enc ((⟨285,r11,j13,j40,p0⟩ : GCipher).Places),[(vI ((⟨285,r11,j13,j40,p0⟩ : GCipher).Rounds))]]) hE hM Zd rfl rfl rfl Te cq (Nat.le_of_eq ((Nat.zero_add _).trans (Eq.trans cq (Eq.symm cq)))) (Yt (cc1 (Flat.cell ((⟨285,r11,j13,j40,p0⟩ : GCipher).Field : Int)) (cc1 (Flat.cell _) (cc1 (Flat.cell _) (cc1 (Flat.cell _) (cc1 (Flat.cell ((⟨285,r11,j13,j40,p0⟩ : GCipher).Rounds : Int)) cc0)))))) (Zr (Eq.trans cq (Eq.symm cq))) fun w a hM hE=>Zf ?_
   obtain rfl:=Option.some.inj hF42
   have hq52 : Yq Tryz.prog _ _ (.cell 2 30) _:=ZQ hE rfl Te rfl hM.rawAt0 cq rfl
   exact wp_ret (ZS hE rfl hq52 ⟨_,rfl,rfl,hM.kept⟩)
def UY (p0 : (List UInt8)) : Option ((List UInt8)) :=
 (app 1 ([] : List UInt8) p0).bind fun l3=>some (([] : List UInt8) ++ p0)
theorem AE (w0 : World) (p0 : (List UInt8)) (v0_1 : Value) (hv0_1 : Ro w0 p0 [v0_1]) (r : (List UInt8)) (hF : UY p0 = some r) :
  Calls Tryz.prog 165 [v0_1].toArray w0 (fun en w'=>∃ v,en = .returned v ∧ (∃ (y1 : Value),v = y1 ∧ Fr w0 w' [osl NoB (r : List UInt8) y1] ∧ Kept (Old w0) w0 w')):=by
 refine ce Tryz.func165 ?_
 intro a hE
 have hM:=M.start w0
 unfold UY at hF
 refine Za (Zb hE rfl fun a hE=>Zf (Za (XH (xs:=[]) (l:=([] : List UInt8)) (vs:=[]) hE hM Zd ld rfl rfl Tryz.underlying32 ty5 rfl (by decide) rfl fun u1 w a hM hE=>Ze hE rfl ?_))); intro a hE
 obtain ⟨l3,e4,hF⟩:=bind_some hF
 obtain ⟨e7,rfl⟩:=Ve e4
 refine X6 hE hM Zd ld rfl rfl (hM.rd hv0_1) Tryz.underlying32 ty5 rfl (by decide) e7 fun u5 w a hM hE=>Zb hE rfl fun a hE=>Zf ?_
 obtain rfl:=Option.some.inj hF
 exact wp_ret (ZS hE rfl (YH hE rfl) ⟨_,rfl,u5,rfl,hM.outF (Wc VD),hM.kept⟩)
def Qd (s16 : (List UInt8)) : Option (Fl (List UInt8) (List UInt8)) :=
 if ((Int.tmod (s16.length : Int) 16) != 8) = true then ((app 1 s16 ([0] : List UInt8)).bind fun l25=>some (Fl.nx (s16 ++ ([0] : List UInt8)))) else (some (Fl.ex s16))
def VJ (p0 : (List UInt8)) (s36 : (List UInt8) × Int) : Option (Fl ((List UInt8) × Int) (List UInt8)) :=
 if (decide (s36.2 ≥ 0)) = true then ((YI (IntKind.u64.wrap (wr (8 * s36.2)))).bind fun _=>(app 1 s36.1 ([ZO (BO (K5 (p0.length : Int) (IntKind.u64.wrap (wr (8 * s36.2)))) 255)] : List UInt8)).bind fun l46=>some (Fl.nx ((s36.1 ++ ([ZO (BO (K5 (p0.length : Int) (IntKind.u64.wrap (wr (8 * s36.2)))) 255)] : List UInt8)),wr (s36.2 - 1)))) else (some (Fl.ex s36.1))
def TK (p0 : (List UInt8)) : Option ((List UInt8)) :=
 (UY p0).bind fun r1=>(app 1 r1 ([128] : List UInt8)).bind fun l6=>(ZD (Qd) (r1 ++ ([128] : List UInt8))).bind fun j11=>(ZD (VJ p0) (j11,7)).bind fun j31=>some j31
theorem zQ (w0 : World) (p0 : (List UInt8)) (v0_1 : Value) (hv0_1 : Ro w0 p0 [v0_1]) (r : (List UInt8)) (hF : TK p0 = some r) :
  Calls Tryz.prog 149 [v0_1].toArray w0 (fun en w'=>∃ v,en = .returned v ∧ (∃ (y1 : Value),v = y1 ∧ Fr w0 w' [osl NoB (r : List UInt8) y1] ∧ Kept (Old w0) w0 w')):=by
 refine ce Tryz.func149 ?_
 intro a hE
 have hM:=M.start w0
 unfold TK at hF
 refine Za (Zb hE rfl fun a hE=>Zf (Za (Ze hE rfl ?_))); intro a hE
 obtain ⟨r1,e2,hF⟩:=bind_some hF
 refine Zv hE rfl (cbm Tryz.func165) (AE _ p0 v0_1 (hM.rdo hv0_1) r1 e2) ?_
 rintro u3 w a ⟨_,rfl,hFr,hK⟩ hE
 have hM:=hM.add hK hFr
 refine XH (xs:=[.const (vB 128)]) (l:=([128] : List UInt8)) (vs:=[vB 128]) hE hM Zd ld rfl rfl Tryz.underlying32 ty5 rfl (by decide) rfl ?_; intro u4 w a hM hE
 obtain ⟨l6,e7,hF⟩:=bind_some hF
 obtain ⟨e10,rfl⟩:=Ve e7
 have hM:=hM.pull1
 refine X6 hE hM Zd ld rfl rfl (hM.sl (pre:=[_]) noB) Tryz.underlying32 ty5 rfl (by decide) e10 fun u8 w a hM hE=>Zb hE rfl fun a hE=>Zf ?_
 obtain ⟨j11,hl12,hF13⟩:=bind_some hF
 refine ZI (fun a w=>∃ (u14 : Value),Env 32 a [(0,v0_1),(3,u14)] ∧ M (Old w0) w0 w [osl NoB (j11 : List UInt8) u14]) ?_ ?_
 ·skip
  refine wp_block ?_
  have hM:=M.fst (l:=[_]) hM
  refine ZE (fun (s16 : (List UInt8)) a w=>∃ (u17 : Value),Env 32 a [(0,v0_1),(3,u17)] ∧ M (Old w0) w0 w [osl NoB (s16 : List UInt8) u17]) hl12 ⟨u8,hE.sub ⟨rfl,rfl,trivial⟩,hM⟩ ?_
  rintro s16 a w ⟨u17,hE,hM⟩ o21 hs19 hx20
  unfold Qd at hs19
  refine wp_seq (Za (Ze hE rfl fun a hE=>ZZ hE rfl Tryz.underlying32 (hM.sl (pre:=[]) noB) fun a hE=>Zk hE rfl rfl (Kt _ _ (by decide)) fun a hE=>Zk hE rfl rfl rfl fun a hE=>Zf ?_))
  refine Zq hE rfl ?_ ?_
  ·intro hb22
   have hs19:=Zu hs19 hb22
   refine wp_skip (Zy (wp_block (wp_region_lit (Ze hE rfl fun a hE=>XH (xs:=[.const (vB 0)]) (l:=([0] : List UInt8)) (vs:=[vB 0]) hE hM Zd ld rfl rfl Tryz.underlying32 ty5 rfl (by decide) rfl ?_)))); intro u23 w a hM hE
   obtain ⟨l25,e26,hs19⟩:=bind_some hs19
   obtain ⟨e29,rfl⟩:=Ve e26
   have hM:=hM.pull1
   refine X6 hE hM Zd ld rfl rfl (hM.sl (pre:=[_]) noB) Tryz.underlying32 ty5 rfl (by decide) e29 fun u27 w a hM hE=>Zb hE rfl fun a hE=>Zj (Z0 (Zl ?_))
   have hM:=M.fst (l:=[_]) hM
   exact ⟨_,(ois hs19),u27,hE.sub ⟨rfl,rfl,trivial⟩,hM⟩
  ·intro hb22
   have hs19:=Zt hs19 hb22
   refine wp_exit (Zp (Zp (Z1 ?_)))
   obtain rfl:=hx20 _ (ois hs19)
   refine Zl ?_
   exact ⟨u17,hE.sub ⟨rfl,rfl,trivial⟩,hM⟩
 ·skip
  rintro a w ⟨u14,hE,hM⟩
  refine wp_seq (Za (Zb hE rfl fun a hE=>Zf ?_))
  obtain ⟨j31,hl32,hF33⟩:=bind_some hF13
  refine ZJ (fun a w=>∃ (u34 : Value),Env 32 a [(3,u34)] ∧ M (Old w0) w0 w [osl NoB (j31 : List UInt8) u34]) ?_ ?_
  ·skip
   refine wp_block ?_
   refine ZE (fun (s36 : (List UInt8) × Int) a w=>∃ (u37 : Value),Env 32 a [(0,v0_1),(3,u37),(4,vI s36.2)] ∧ M (Old w0) w0 w [osl NoB (s36.1 : List UInt8) u37]) hl32 ⟨u14,hE.sub ⟨rfl,rfl,rfl,trivial⟩,hM⟩ ?_
   rintro s36 a w ⟨u37,hE,hM⟩ o41 hs39 hx40
   unfold VJ at hs39
   refine wp_seq (Za (Ze hE rfl fun a hE=>Zk hE rfl rfl rfl fun a hE=>Zf ?_))
   refine Zq hE rfl ?_ ?_
   ·intro hb42
    have hs39:=Zu hs39 hb42
    refine wp_skip (Zy (wp_seq (wp_block (wp_region_lit (Ze hE rfl fun a hE=>Ze hE rfl fun a hE=>ZZ hE rfl Tryz.underlying32 (hM.rd hv0_1) fun a hE=>Ze hE rfl fun a hE=>Zk hE rfl rfl rfl fun a hE=>XM hE Zd ld rfl Tryz.underlying3 Tryz.underlying147 ?_))))); intro a hE
    obtain ⟨_,e43,hs39⟩:=bind_some hs39
    have e43:=Xz e43
    refine HX hE Zd ld rfl rfl (yF _ _ e43) fun a hE=>Zk hE rfl rfl rfl fun a hE=>XM hE Zd ld rfl Tryz.underlying3 Tryz.underlying5 ?_; intro a hE
    rw [YB] at hE
    refine XH (xs:=[.tmp 28]) (l:=([ZO (BO (K5 (p0.length : Int) (IntKind.u64.wrap (wr (8 * s36.2)))) 255)] : List UInt8)) (vs:=[(vB (ZO (BO (K5 (p0.length : Int) (IntKind.u64.wrap (wr (8 * s36.2)))) 255)))]) hE hM Zd ld rfl rfl Tryz.underlying32 ty5 rfl (by decide) rfl ?_; intro u44 w a hM hE
    obtain ⟨l46,e47,hs39⟩:=bind_some hs39
    obtain ⟨e50,rfl⟩:=Ve e47
    have hM:=hM.pull1
    refine X6 hE hM Zd ld rfl rfl (hM.sl (pre:=[_]) noB) Tryz.underlying32 ty5 rfl (by decide) e50 fun u48 w a hM hE=>Zb hE rfl fun a hE=>Zj (Z0 (Zy (wp_region_lit (Ze hE rfl fun a hE=>Zk hE rfl rfl rfl fun a hE=>Zb hE rfl fun a hE=>Zj (Zl ?_)))))
    have hM:=M.fst (l:=[_]) hM
    exact ⟨_,(ois hs39),u48,hE.sub ⟨rfl,rfl,rfl,trivial⟩,hM⟩
   ·intro hb42
    have hs39:=Zt hs39 hb42
    refine wp_exit (Zp (Zp (Z1 ?_)))
    obtain rfl:=hx40 _ (ois hs39)
    refine Zl ?_
    exact ⟨u37,hE.sub ⟨rfl,trivial⟩,hM⟩
  ·skip
   rintro a w ⟨u34,hE,hM⟩
   refine Zy (Za (Ze hE rfl fun a hE=>Zb hE rfl fun a hE=>Zf ?_))
   obtain rfl:=Option.some.inj hF33
   exact wp_ret (ZS hE rfl (YH hE rfl) ⟨_,rfl,u34,rfl,hM.outF (Wc VD),hM.kept⟩)
def Wd (p0 : (List UInt8)) (s8 : (List (Vector UInt8 16)) × Int) (s20 : (Vector UInt8 16) × Int) : Option (Fl ((Vector UInt8 16) × Int) (Vector UInt8 16)) :=
 if (decide (s20.2 < 16)) = true then ((idx p0 (wr (s8.2 + s20.2))).bind fun x25=>(ZC s20.1 s20.2).bind fun x29=>some (Fl.nx ((s20.1.setIfInBounds (s20.2).toNat x25),wr (s20.2 + 1)))) else (some (Fl.ex s20.1))
def Wg (p0 : (List UInt8)) (s8 : (List (Vector UInt8 16)) × Int) : Option (Fl ((List (Vector UInt8 16)) × Int) (List (Vector UInt8 16))) :=
 if (decide ((wr (s8.2 + 16)) ≤ (p0.length : Int))) = true then ((ZD (Wd p0 s8) ((Vector.replicate 16 (0 : UInt8)),0)).bind fun j17=>(app 16 s8.1 ([j17] : List (Vector UInt8 16))).bind fun l34=>some (Fl.nx ((s8.1 ++ ([j17] : List (Vector UInt8 16))),wr (s8.2 + 16)))) else (some (Fl.ex s8.1))
def VO (p0 : (List UInt8)) : Option ((List (Vector UInt8 16))) :=
 (ZD (Wg p0) (([] : List (Vector UInt8 16)),0)).bind fun j3=>some j3
theorem Bi (w0 : World) (p0 : (List UInt8)) (v0_1 : Value) (hv0_1 : Ro w0 p0 [v0_1]) (r : (List (Vector UInt8 16))) (hF : VO p0 = some r) :
  Calls Tryz.prog 148 [v0_1].toArray w0 (fun en w'=>∃ v,en = .returned v ∧ (∃ (y1 : Value),v = y1 ∧ Fr w0 w' [osl NoB (r : List (Vector UInt8 16)) y1] ∧ Kept (Old w0) w0 w')):=by
 refine ce Tryz.func148 ?_
 intro a hE
 have hM:=M.start w0
 unfold VO at hF
 refine Za (Zb hE rfl fun a hE=>Zf (Za (XH (xs:=[]) (l:=([] : List (Vector UInt8 16))) (vs:=[]) hE hM Zd ld rfl rfl Tryz.underlying33 ZF rfl (by decide) rfl fun u1 w a hM hE=>Zb hE rfl fun a hE=>Zf (wp_seq (Za (Zb hE rfl fun a hE=>Zf ?_))))))
 obtain ⟨j3,hl4,hF5⟩:=bind_some hF
 refine ZJ (fun a w=>∃ (u6 : Value),Env 33 a [(3,u6)] ∧ M (Old w0) w0 w [osl NoB (j3 : List (Vector UInt8 16)) u6]) ?_ ?_
 ·skip
  refine wp_block ?_
  refine ZE (fun (s8 : (List (Vector UInt8 16)) × Int) a w=>∃ (u9 : Value),Env 33 a [(0,v0_1),(3,u9),(4,vI s8.2)] ∧ M (Old w0) w0 w [osl NoB (s8.1 : List (Vector UInt8 16)) u9]) hl4 ⟨u1,hE.sub ⟨rfl,rfl,rfl,trivial⟩,hM⟩ ?_
  rintro s8 a w ⟨u9,hE,hM⟩ o13 hs11 hx12
  unfold Wg at hs11
  refine wp_seq (Za (Ze hE rfl fun a hE=>Zk hE rfl rfl rfl fun a hE=>Ze hE rfl fun a hE=>ZZ hE rfl Tryz.underlying32 (hM.rd hv0_1) fun a hE=>Zk hE rfl rfl rfl fun a hE=>Zf ?_))
  refine Zq hE rfl ?_ ?_
  ·intro hb14
   have hs11:=Zu hs11 hb14
   refine wp_skip (Zy (wp_seq (wp_block (Za (YU (parts:=[]) (vs:=[]) (cs:=enc (Vector.replicate 16 (0 : UInt8))) hE Zd ld rfl rfl ZF rfl ty5 Yu fun a hE=>Zz hE hM ZF fun b15 w a hM hE=>Zo (seg:=enc (Vector.replicate 16 (0 : UInt8))) (cs':=enc (Vector.replicate 16 (0 : UInt8))) hE hM Zd rfl rfl rfl ZF (Flat.len _) (zle flq) (Flat.cell _) (Zr flq) fun w a hM hE=>Zf (wp_seq (Za (Zb hE rfl fun a hE=>Zf ?_))))))))
   obtain ⟨j17,hl18,hF19⟩:=bind_some hs11
   refine ZJ (fun a w=>Env 33 a [(0,v0_1),(3,u9),(4,vI s8.2),(5,(ptr b15 0))] ∧ M (Old w0) w0 w [raw b15 (enc j17),osl NoB (s8.1 : List (Vector UInt8 16)) u9]) ?_ ?_
   ·skip
    refine wp_block ?_
    refine ZE (fun (s20 : (Vector UInt8 16) × Int) a w=>Env 33 a [(0,v0_1),(3,u9),(4,vI s8.2),(5,(ptr b15 0)),(6,vI s20.2)] ∧ M (Old w0) w0 w [raw b15 (enc s20.1),osl NoB (s8.1 : List (Vector UInt8 16)) u9]) hl18 ⟨hE.sub ⟨rfl,rfl,rfl,rfl,rfl,trivial⟩,hM⟩ ?_
    rintro s20 a w ⟨hE,hM⟩ o23 hs21 hx22
    unfold Wd at hs21
    refine wp_seq (Za (Ze hE rfl fun a hE=>Zk hE rfl rfl rfl fun a hE=>Zf ?_))
    refine Zq hE rfl ?_ ?_
    ·intro hb24
     have hs21:=Zu hs21 hb24
     refine wp_skip (Zy (wp_seq (wp_block (wp_region_lit (Ze hE rfl fun a hE=>Ze hE rfl fun a hE=>Ze hE rfl fun a hE=>Ze hE rfl fun a hE=>Zk hE rfl rfl rfl ?_))))); intro a hE
     obtain ⟨x25,hi27,hs21⟩:=bix hs21
     refine ZK hE rfl rfl Tryz.underlying32 ty5 (hM.rd hv0_1) hi27.1 fun a hE=>Zx (v:=(vB x25)) hE rfl ty5 rfl (Ys (hM.rd hv0_1) hi27.2) ?_; intro a hE
     obtain ⟨x29,hi28,hs21⟩:=bvx hs21
     refine Zm hE rfl rfl Tryz.underlying31 ty5 hi28.1 fun a hE=>Zo (seg:=[vB x25]) (cs':=enc (s20.1.setIfInBounds (s20.2).toNat x25)) hE hM Zd rfl rfl rfl ty5 rfl (ZH (v:=s20.1) (x:=x25) hi28.1) (Flat.cell (x25 : UInt8)) (ZA (v:=s20.1) (x:=x25) hi28.1) fun w a hM hE=>Zj (Z0 (Zy (wp_region_lit (Ze hE rfl fun a hE=>Zk hE rfl rfl rfl fun a hE=>Zb hE rfl fun a hE=>Zj (Zl ?_)))))
     exact ⟨_,(ois hs21),hE.sub ⟨rfl,rfl,rfl,rfl,rfl,trivial⟩,hM⟩
    ·intro hb24
     have hs21:=Zt hs21 hb24
     refine wp_exit (Zp (Zp (Z1 ?_)))
     obtain rfl:=hx22 _ (ois hs21)
     refine Zl ?_
     exact ⟨hE.sub ⟨rfl,rfl,rfl,rfl,trivial⟩,hM⟩
   ·skip
    rintro a w ⟨hE,hM⟩
    refine Zy (wp_region_lit (Ze hE rfl fun a hE=>Zn hE rfl ZF rfl hM.rawAt0 (Flat.len _) fun a hE=>XH (xs:=[.tmp 29]) (l:=([j17] : List (Vector UInt8 16))) (vs:=[(Value.agg (enc j17).toArray)]) hE hM Zd ld rfl rfl Tryz.underlying33 ZF rfl (by decide) rfl ?_)); intro u32 w a hM hE
    obtain ⟨l34,e35,hF19⟩:=bind_some hF19
    obtain ⟨e38,rfl⟩:=Ve e35
    have hM:=hM.pull2
    refine X6 hE hM Zd ld rfl rfl (hM.sl (pre:=[_]) noB) Tryz.underlying33 ZF rfl (by decide) e38 fun u36 w a hM hE=>Zb hE rfl fun a hE=>Zj (Z0 (Zy (wp_region_lit (Ze hE rfl fun a hE=>Zk hE rfl rfl rfl fun a hE=>Zb hE rfl fun a hE=>Zj (Zl ?_)))))
    have hM:=M.fst (l:=[_]) hM
    exact ⟨_,(ois hF19),u36,hE.sub ⟨rfl,rfl,rfl,trivial⟩,hM⟩
  ·intro hb14
   have hs11:=Zt hs11 hb14
   refine wp_exit (Zp (Zp (Z1 ?_)))
   obtain rfl:=hx12 _ (ois hs11)
   refine Zl ?_
   exact ⟨u9,hE.sub ⟨rfl,trivial⟩,hM⟩
 ·skip
  rintro a w ⟨u6,hE,hM⟩
  refine Zy (Za (Ze hE rfl fun a hE=>Zb hE rfl fun a hE=>Zf ?_))
  obtain rfl:=Option.some.inj hF5
  exact wp_ret (ZS hE rfl (YH hE rfl) ⟨_,rfl,u6,rfl,hM.outF (Wc VD),hM.kept⟩)
def WF (s8 : (Vector UInt8 32) × Int) : Option (Fl ((Vector UInt8 32) × Int) (Vector UInt8 32)) :=
 if (decide (s8.2 < 32)) = true then ((ZC s8.1 s8.2).bind fun x14=>some (Fl.nx ((s8.1.setIfInBounds (s8.2).toNat (ZO (Int.tmod (wr (17 * s8.2)) 256))),wr (s8.2 + 1)))) else (some (Fl.ex s8.1))
def Uj : Option ((Vector UInt8 32)) :=
 (ZD (WF) ((Vector.replicate 32 (0 : UInt8)),0)).bind fun j5=>some j5
theorem B9 (w0 : World)  (r : (Vector UInt8 32)) (hF : Uj  = some r) :
  Calls Tryz.prog 150 [].toArray w0 (Rt w0 (Value.agg (enc r).toArray)):=by
 refine ce Tryz.func150 ?_
 intro a hE
 have hM:=M.start w0
 unfold Uj at hF
 refine Za (Zz hE hM Yr fun b1 w a hM hE=>Zf (Za (YU (parts:=[]) (vs:=[]) (cs:=enc (Vector.replicate 32 (0 : UInt8))) hE Zd ld rfl rfl Yr rfl ty5 Yu fun a hE=>Zz hE hM Yr fun b3 w a hM hE=>Zo (seg:=enc (Vector.replicate 32 (0 : UInt8))) (cs':=enc (Vector.replicate 32 (0 : UInt8))) hE hM Zd rfl rfl rfl Yr (Flat.len _) (zle flq) (Flat.cell _) (Zr flq) fun w a hM hE=>Zf (wp_seq (Za (Zb hE rfl fun a hE=>Zf ?_))))))
 obtain ⟨j5,hl6,hF7⟩:=bind_some hF
 refine ZJ (fun a w=>Env 15 a [(0,(ptr b1 0)),(1,(ptr b3 0))] ∧ M (Old w0) w0 w [raw b3 (enc j5),raw b1 (enc (Vector.replicate 32 (0 : UInt8)))]) ?_ ?_
 ·skip
  refine wp_block ?_
  refine ZE (fun (s8 : (Vector UInt8 32) × Int) a w=>Env 15 a [(0,(ptr b1 0)),(1,(ptr b3 0)),(2,vI s8.2)] ∧ M (Old w0) w0 w [raw b3 (enc s8.1),raw b1 (enc (Vector.replicate 32 (0 : UInt8)))]) hl6 ⟨hE.sub ⟨rfl,rfl,rfl,trivial⟩,hM⟩ ?_
  rintro s8 a w ⟨hE,hM⟩ o11 hs9 hx10
  unfold WF at hs9
  refine wp_seq (Za (Ze hE rfl fun a hE=>Zk hE rfl rfl rfl fun a hE=>Zf ?_))
  refine Zq hE rfl ?_ ?_
  ·intro hb12
   have hs9:=Zu hs9 hb12
   refine wp_skip (Zy (wp_seq (wp_block (wp_region_lit (Ze hE rfl fun a hE=>Ze hE rfl fun a hE=>Zk hE rfl rfl rfl fun a hE=>Zk hE rfl rfl (Kt _ _ (by decide)) fun a hE=>XM hE Zd ld rfl Tryz.underlying3 Tryz.underlying5 ?_))))); intro a hE
   rw [YB] at hE
   obtain ⟨x14,hi13,hs9⟩:=bvx hs9
   refine Zm hE rfl rfl Tryz.underlying37 ty5 hi13.1 fun a hE=>Zo (seg:=[(vB (ZO (Int.tmod (wr (17 * s8.2)) 256)))]) (cs':=enc (s8.1.setIfInBounds (s8.2).toNat (ZO (Int.tmod (wr (17 * s8.2)) 256)))) hE hM Zd rfl rfl rfl ty5 rfl (ZH (v:=s8.1) (x:=ZO (Int.tmod (wr (17 * s8.2)) 256)) hi13.1) (Flat.cell (ZO (Int.tmod (wr (17 * s8.2)) 256) : UInt8)) (ZA (v:=s8.1) (x:=ZO (Int.tmod (wr (17 * s8.2)) 256)) hi13.1) fun w a hM hE=>Zj (Z0 (Zy (wp_region_lit (Ze hE rfl fun a hE=>Zk hE rfl rfl rfl fun a hE=>Zb hE rfl fun a hE=>Zj (Zl ?_)))))
   exact ⟨_,(ois hs9),hE.sub ⟨rfl,rfl,rfl,trivial⟩,hM⟩
  ·intro hb12
   have hs9:=Zt hs9 hb12
   refine wp_exit (Zp (Zp (Z1 ?_)))
   obtain rfl:=hx10 _ (ois hs9)
   refine Zl ?_
   exact ⟨hE.sub ⟨rfl,rfl,trivial⟩,hM⟩
 ·skip
  rintro a w ⟨hE,hM⟩
  refine Zy (Za (Zn hE rfl Yr rfl hM.rawAt0 (Flat.len _) ?_)); intro a hE
  have hM:=hM.pull1
  refine Zo (seg:=enc j5) (cs':=enc j5) hE hM Zd rfl rfl rfl Yr (Flat.len _) (zle flq) (Flat.cell _) (Zr flq) fun w a hM hE=>Zf ?_
  obtain rfl:=Option.some.inj hF7
  have hq17 : Yq Tryz.prog _ _ (.cell 0 37) _:=ZQ hE rfl Yr rfl hM.rawAt0 (Flat.len _) rfl
  exact wp_ret (ZS hE rfl hq17 ⟨_,rfl,rfl,hM.kept⟩)
def X9 (p0 : (Vector UInt8 32)) (s14 : (Vector UInt8 16) × (Vector UInt8 16) × Int) : Option (Fl ((Vector UInt8 16) × (Vector UInt8 16) × Int) ((Vector UInt8 16) × (Vector UInt8 16))) :=
 if (decide (s14.2.2 < 16)) = true then ((ZC p0 s14.2.2).bind fun x20=>(ZC s14.2.1 s14.2.2).bind fun x23=>(ZC p0 (wr (16 + s14.2.2))).bind fun x26=>(ZC s14.1 s14.2.2).bind fun x29=>some (Fl.nx ((s14.1.setIfInBounds (s14.2.2).toNat x26),(s14.2.1.setIfInBounds (s14.2.2).toNat x20),wr (s14.2.2 + 1)))) else (some (Fl.ex (s14.1,s14.2.1)))
def Vs (p0 : (Vector UInt8 32)) : Option ((Vector UInt8 16) × (Vector UInt8 16)) :=
 (ZD (X9 p0) ((Vector.replicate 16 (0 : UInt8)),(Vector.replicate 16 (0 : UInt8)),0)).bind fun j11=>(some (j11.2,j11.1) : Option ((Vector UInt8 16) × (Vector UInt8 16))).bind fun j32=>some (j32.1,j32.2)
theorem Bf (w0 : World) (p0 : (Vector UInt8 32)) (r : (Vector UInt8 16) × (Vector UInt8 16)) (hF : Vs p0 = some r) :
  Calls Tryz.prog 166 [(Value.agg (enc p0).toArray)].toArray w0 (Rt w0 (Value.tuple [(Value.agg (enc r.1).toArray),(Value.agg (enc r.2).toArray)].toArray)):=by
 refine ce Tryz.func166 ?_
 intro a hE
 have hM:=M.start w0
 unfold Vs at hF
 refine Za (ZM (cs:=enc p0) hE hM Zd ld rfl rfl fun b1 w a hM hE=>Zz hE hM ZF fun b3 w a hM hE=>Zz hE hM ZF fun b5 w a hM hE=>Zf (Za (YU (parts:=[]) (vs:=[]) (cs:=enc (Vector.replicate 16 (0 : UInt8))) hE Zd ld rfl rfl ZF rfl ty5 Yu fun a hE=>YU (parts:=[]) (vs:=[]) (cs:=enc (Vector.replicate 16 (0 : UInt8))) hE Zd ld rfl rfl ZF rfl ty5 Yu fun a hE=>Zz hE hM ZF fun b7 w a hM hE=>Zz hE hM ZF ?_))); intro b9 w a hM hE
 have hM:=hM.pull1
 refine Zo (seg:=enc (Vector.replicate 16 (0 : UInt8))) (cs':=enc (Vector.replicate 16 (0 : UInt8))) hE hM Zd rfl rfl rfl ZF (Flat.len _) (zle flq) (Flat.cell _) (Zr flq) ?_; intro w a hM hE
 have hM:=hM.pull1
 refine Zo (seg:=enc (Vector.replicate 16 (0 : UInt8))) (cs':=enc (Vector.replicate 16 (0 : UInt8))) hE hM Zd rfl rfl rfl ZF (Flat.len _) (zle flq) (Flat.cell _) (Zr flq) fun w a hM hE=>Zf (wp_seq (Za (Zb hE rfl fun a hE=>Zf ?_)))
 obtain ⟨j11,hl12,hF13⟩:=bind_some hF
 refine ZJ (fun a w=>Env 26 a [(2,(ptr b3 0)),(3,(ptr b5 0)),(4,(ptr b7 0)),(5,(ptr b9 0))] ∧ M (Old w0) w0 w [raw b9 (enc j11.1),raw b7 (enc j11.2),raw b5 (enc (Vector.replicate 16 (0 : UInt8))),raw b3 (enc (Vector.replicate 16 (0 : UInt8)))]) ?_ ?_
 ·skip
  refine wp_block ?_
  refine ZE (fun (s14 : (Vector UInt8 16) × (Vector UInt8 16) × Int) a w=>Env 26 a [(1,(ptr b1 0)),(2,(ptr b3 0)),(3,(ptr b5 0)),(4,(ptr b7 0)),(5,(ptr b9 0)),(6,vI s14.2.2)] ∧ M (Old w0) w0 w [raw b9 (enc s14.1),raw b7 (enc s14.2.1),raw b5 (enc (Vector.replicate 16 (0 : UInt8))),raw b3 (enc (Vector.replicate 16 (0 : UInt8))),raw b1 (enc p0)]) hl12 ⟨hE.sub ⟨rfl,rfl,rfl,rfl,rfl,rfl,trivial⟩,hM⟩ ?_
  rintro s14 a w ⟨hE,hM⟩ o17 hs15 hx16
  unfold X9 at hs15
  refine wp_seq (Za (Ze hE rfl fun a hE=>Zk hE rfl rfl rfl fun a hE=>Zf ?_))
  refine Zq hE rfl ?_ ?_
  ·intro hb18
   have hs15:=Zu hs15 hb18
   refine wp_skip (Zy (wp_seq (wp_block (Za (Ze hE rfl fun a hE=>Ze hE rfl ?_))))); intro a hE
   obtain ⟨x20,hi19,hs15⟩:=bvx hs15
   refine Zm hE rfl rfl Tryz.underlying37 ty5 hi19.1 fun a hE=>Zx (v:=(vB x20)) hE rfl ty5 rfl (At.vec hM.rawAt4 hi19.2) ?_; intro a hE
   obtain ⟨x23,hi22,hs15⟩:=bvx hs15
   refine Zm hE rfl rfl Tryz.underlying31 ty5 hi22.1 ?_; intro a hE
   have hM:=hM.pull1
   refine Zo (seg:=[vB x20]) (cs':=enc (s14.2.1.setIfInBounds (s14.2.2).toNat x20)) hE hM Zd rfl rfl rfl ty5 rfl (ZH (v:=s14.2.1) (x:=x20) hi22.1) (Flat.cell (x20 : UInt8)) (ZA (v:=s14.2.1) (x:=x20) hi22.1) fun w a hM hE=>Zf (wp_region_lit (Ze hE rfl fun a hE=>Ze hE rfl fun a hE=>Zk hE rfl rfl rfl ?_)); intro a hE
   obtain ⟨x26,hi25,hs15⟩:=bvx hs15
   refine Zm hE rfl rfl Tryz.underlying37 ty5 hi25.1 fun a hE=>Zx (v:=(vB x26)) hE rfl ty5 rfl (At.vec hM.rawAt4 hi25.2) ?_; intro a hE
   obtain ⟨x29,hi28,hs15⟩:=bvx hs15
   refine Zm hE rfl rfl Tryz.underlying31 ty5 hi28.1 ?_; intro a hE
   have hM:=hM.pull1
   refine Zo (seg:=[vB x26]) (cs':=enc (s14.1.setIfInBounds (s14.2.2).toNat x26)) hE hM Zd rfl rfl rfl ty5 rfl (ZH (v:=s14.1) (x:=x26) hi28.1) (Flat.cell (x26 : UInt8)) (ZA (v:=s14.1) (x:=x26) hi28.1) fun w a hM hE=>Zj (Z0 (Zy (wp_region_lit (Ze hE rfl fun a hE=>Zk hE rfl rfl rfl fun a hE=>Zb hE rfl fun a hE=>Zj (Zl ?_)))))
   exact ⟨_,(ois hs15),hE.sub ⟨rfl,rfl,rfl,rfl,rfl,rfl,trivial⟩,hM⟩
  ·intro hb18
   have hs15:=Zt hs15 hb18
   refine wp_exit (Zp (Zp (Z1 ?_)))
   obtain rfl:=hx16 _ (ois hs15)
   refine Zl ?_
   have hM:=M.fst (l:=[_,_,_,_]) hM.pull3.pull3.pull3.pull3
   exact ⟨hE.sub ⟨rfl,rfl,rfl,rfl,trivial⟩,hM⟩
 ·skip
  rintro a w ⟨hE,hM⟩
  refine Zy ?_
  obtain ⟨j32,hl33,hF34⟩:=bind_some hF13
  refine ZI (fun a w=>Env 26 a [(2,(ptr b3 0)),(3,(ptr b5 0))] ∧ M (Old w0) w0 w [raw b5 (enc j32.2),raw b3 (enc j32.1)]) ?_ ?_
  ·skip
   have hM:=hM.pull3
   refine TU (n:=26) (hd:=[_,_,_]) (tl:=[_]) Yx rfl rfl [24,25,28] (by decide) (fun D u w=>M (Old w0) w0 w ([raw b9 (enc j11.1),raw b7 (enc j11.2),raw b5 (enc (Vector.replicate 16 (0 : UInt8)))] ++ qL ([mkT 2 (raw b3 (enc (Vector.replicate 16 (0 : UInt8)))) (raw b3 (enc j11.2))] : Mk) D u) ∧ GOk ([([],fun us v=>v = (Value.agg (enc j11.2).toArray)),([],fun us v=>v = (Value.agg (enc j11.1).toArray)),([],fun us v=>True)] : Gs) D u) hE (fun u=>⟨M.qT (M.q0 hM.drew u),Ae⟩) (st3 ?_ ?_ ?_) ?_
   ·intro a w ux35 D hE hI hD hdc hp
    have hM0:=hI.1
    have hM:=hI.1
    have hM:=hM.togA (pre:=[_,_,_]) (Bool.eq_false_iff.2 fun hx=>Bool.noConfusion (hD.symm.trans (hdc 2 _ _ rfl (List.mem_of_getElem? (i:=0) rfl) rfl hx)))
    exact Zn hE rfl ZF rfl hM.rawAt1 (Flat.len _) fun a hE=>⟨_,_,rfl,hE,M.qKeep hM0 rfl,hI.2.put hD rfl ZN rfl⟩
   ·intro a w ux35 D hE hI hD hdc hp
    have hM0:=hI.1
    have hM:=hI.1
    exact Zn hE rfl ZF rfl hM.rawAt0 (Flat.len _) fun a hE=>⟨_,_,rfl,hE,M.qKeep hM0 rfl,hI.2.put hD rfl ZN rfl⟩
   ·intro a w ux35 D hE hI hD hdc hp
    have d0 : D 0 = true:=hp 0 _ rfl rfl
    have g0:=hI.2 0 d0 _ rfl
    have f0 : ux35 0 = (Value.agg (enc j11.2).toArray):=g0.2
    have hM0:=hI.1
    have hM:=(hI.1.togA (pre:=[_,_,_]) hD).pull3
    exact Zo (seg:=enc j11.2) (cs':=enc j11.2) hE hM Zd rfl (lk rfl f0) rfl ZF (Flat.len _) (zle flq) (Flat.cell _) (Zr flq) fun w a hM hE=>⟨undef,_,rfl,Env.dummy hE (by decide),M.qTog (mk1:=[]) (mk2:=[]) hM rfl,hI.2.put hD rfl ZN trivial⟩
   ·intro a w ux35 D hE hI hall
    have hM:=hI.1
    have d0:=hall 0 (by decide)
    have d1:=hall 1 (by decide)
    have d2:=hall 2 (by decide)
    have f0 : ux35 0 = (Value.agg (enc j11.2).toArray):=(hI.2 0 d0 _ rfl).2
    have f1 : ux35 1 = (Value.agg (enc j11.1).toArray):=(hI.2 1 d1 _ rfl).2
    have hM:=hM.togB (pre:=[_,_,_]) d2
    have hE:=hE.sub (e':=[(25,(Value.agg (enc j11.1).toArray)),(2,(ptr b3 0)),(3,(ptr b5 0))]) ⟨lk rfl f1,rfl,rfl,trivial⟩
    have hM:=hM.pull2
    refine Zo (seg:=enc j11.1) (cs':=enc j11.1) hE hM Zd rfl rfl rfl ZF (Flat.len _) (zle flq) (Flat.cell _) (Zr flq) fun w a hM hE=>Zj ?_
    obtain rfl:=Option.some.inj hl33
    refine Zl ?_
    have hM:=M.fst (l:=[_,_]) hM.pull3.pull1
    exact ⟨hE.sub ⟨rfl,rfl,trivial⟩,hM⟩
  ·skip
   rintro a w ⟨hE,hM⟩
   obtain rfl:=Option.some.inj hF34
   have hq37 : Yq Tryz.prog _ _ (.cell 2 31) _:=ZQ hE rfl ZF rfl hM.rawAt1 (Flat.len _) rfl
   have hq38 : Yq Tryz.prog _ _ (.cell 3 31) _:=ZQ hE rfl ZF rfl hM.rawAt0 (Flat.len _) rfl
   exact wp_ret (H5 hE rfl hq37 hq38 ⟨_,rfl,rfl,hM.kept⟩)
def Vu (p1 : (Vector UInt8 16)) (s10 : (Vector UInt8 16) × Int) : Option (Fl ((Vector UInt8 16) × Int) (Vector UInt8 16)) :=
 if (decide (s10.2 < 16)) = true then ((ZC s10.1 s10.2).bind fun x17=>(ZC p1 s10.2).bind fun x20=>(ZC s10.1 s10.2).bind fun x23=>some (Fl.nx ((s10.1.setIfInBounds (s10.2).toNat (x17 ^^^ x20)),wr (s10.2 + 1)))) else (some (Fl.ex s10.1))
def Xg (p0 : (Vector UInt8 16)) (p1 : (Vector UInt8 16)) : Option ((Vector UInt8 16)) :=
 (ZD (Vu p1) (p0,0)).bind fun j7=>some j7
theorem Uz (w0 : World) (p0 : (Vector UInt8 16)) (p1 : (Vector UInt8 16)) (r : (Vector UInt8 16)) (hF : Xg p0 p1 = some r) :
  Calls Tryz.prog 167 [(Value.agg (enc p0).toArray),(Value.agg (enc p1).toArray)].toArray w0 (Rt w0 (Value.agg (enc r).toArray)):=by
 refine ce Tryz.func167 ?_
 intro a hE
 have hM:=M.start w0
 unfold Xg at hF
 refine Za (ZM (cs:=enc p0) hE hM Zd ld rfl rfl fun b1 w a hM hE=>ZM (cs:=enc p1) hE hM Zd ld rfl rfl fun b3 w a hM hE=>Zz hE hM ZF fun b5 w a hM hE=>Zf (wp_seq (Za (Zb hE rfl fun a hE=>Zf ?_))))
 obtain ⟨j7,hl8,hF9⟩:=bind_some hF
 refine ZJ (fun a w=>Env 20 a [(2,(ptr b1 0)),(4,(ptr b5 0))] ∧ M (Old w0) w0 w [raw b5 (enc (Vector.replicate 16 (0 : UInt8))),raw b1 (enc j7)]) ?_ ?_
 ·skip
  refine wp_block ?_
  refine ZE (fun (s10 : (Vector UInt8 16) × Int) a w=>Env 20 a [(2,(ptr b1 0)),(3,(ptr b3 0)),(4,(ptr b5 0)),(5,vI s10.2)] ∧ M (Old w0) w0 w [raw b5 (enc (Vector.replicate 16 (0 : UInt8))),raw b3 (enc p1),raw b1 (enc s10.1)]) hl8 ⟨hE.sub ⟨rfl,rfl,rfl,rfl,trivial⟩,hM⟩ ?_
  rintro s10 a w ⟨hE,hM⟩ o13 hs11 hx12
  unfold Vu at hs11
  refine wp_seq (Za (Ze hE rfl fun a hE=>Zk hE rfl rfl rfl fun a hE=>Zf ?_))
  refine Zq hE rfl ?_ ?_
  ·intro hb14
   have hs11:=Zu hs11 hb14
   refine wp_skip (Zy (wp_seq (wp_block ?_)))
   obtain ⟨x17,hi16,hs11⟩:=bvx hs11
   obtain ⟨x20,hi19,hs11⟩:=bvx hs11
   obtain ⟨x23,hi22,hs11⟩:=bvx hs11
   refine ZX (n:=20) (hd:=[_,_,_,_,_,_,_,_,_]) (tl:=[_]) Yx rfl rfl [10,11,12,13,14,15,16,17,18] (by decide) (fun w=>M (Old w0) w0 w [raw b5 (enc (Vector.replicate 16 (0 : UInt8))),raw b3 (enc p1),raw b1 (enc s10.1)]) (fun j=>([fun v _=>v = (vI s10.2),fun v _=>v = (vI s10.2),fun v _=>v = (ptr b1 (0 + (s10.2).toNat * 1)),fun v _=>v = (vB x17),fun v _=>v = (vI s10.2),fun v _=>v = (ptr b3 (0 + (s10.2).toNat * 1)),fun v _=>v = (vB x20),fun v _=>v = (vB (x17 ^^^ x20)),fun v _=>v = (ptr b1 (0 + (s10.2).toNat * 1))] : List (Value → World → Prop)).getD j (fun _ _=>True)) (fun _ _ h hk=>h.keep hk) (gup gu9) hE hM.drew (st9 ?_ ?_ ?_ ?_ ?_ ?_ ?_ ?_ ?_) ?_
   ·exact qm
   ·exact qm
   ·intro a w ux15 hE hM hp
    have f1 : ux15 1 = (vI s10.2):=hp 0 _ rfl rfl
    exact Zm hE rfl (lk rfl f1) Tryz.underlying31 ty5 hi16.1 fun a hE=>kq rfl hE rfl
   ·intro a w ux15 hE hM hp
    have f2 : ux15 2 = (ptr b1 (0 + (s10.2).toNat * 1)):=hp 0 _ rfl rfl
    exact Zx (v:=(vB x17)) hE (lk rfl f2) ty5 rfl (At.vec hM.rawAt2 hi16.2) fun a hE=>kq rfl hE rfl
   ·exact qm
   ·intro a w ux15 hE hM hp
    have f4 : ux15 4 = (vI s10.2):=hp 0 _ rfl rfl
    exact Zm hE rfl (lk rfl f4) Tryz.underlying31 ty5 hi19.1 fun a hE=>kq rfl hE rfl
   ·intro a w ux15 hE hM hp
    have f5 : ux15 5 = (ptr b3 (0 + (s10.2).toNat * 1)):=hp 0 _ rfl rfl
    exact Zx (v:=(vB x20)) hE (lk rfl f5) ty5 rfl (At.vec hM.rawAt1 hi19.2) fun a hE=>kq rfl hE rfl
   ·intro a w ux15 hE hM hp
    have f3 : ux15 3 = (vB x17):=hp 0 _ rfl rfl
    have f6 : ux15 6 = (vB x20):=hp 1 _ rfl rfl
    exact Zk hE (lk rfl f3) (lk rfl f6) (VA x17 x20) fun a hE=>kq rfl hE rfl
   ·intro a w ux15 hE hM hp
    have f0 : ux15 0 = (vI s10.2):=hp 0 _ rfl rfl
    exact Zm hE rfl (lk rfl f0) Tryz.underlying31 ty5 hi22.1 fun a hE=>kq rfl hE rfl
   ·intro a w ux15 hE hM hg
    have hE:=hE.sub (e':=[(17,(vB (x17 ^^^ x20))),(18,(ptr b1 (0 + (s10.2).toNat * 1))),(2,(ptr b1 0)),(3,(ptr b3 0)),(4,(ptr b5 0)),(5,vI s10.2),(6,vI s10.2),(7,(vT (decide (s10.2 < 16))))]) ⟨lk rfl (hg 7 (by decide)),lk rfl (hg 8 (by decide)),rfl,rfl,rfl,rfl,rfl,rfl,trivial⟩
    have hM:=hM.pull2
    refine Zo (seg:=[(vB (x17 ^^^ x20))]) (cs':=enc (s10.1.setIfInBounds (s10.2).toNat (x17 ^^^ x20))) hE hM Zd rfl rfl rfl ty5 rfl (ZH (v:=s10.1) (x:=x17 ^^^ x20) hi22.1) (Flat.cell (x17 ^^^ x20 : UInt8)) (ZA (v:=s10.1) (x:=x17 ^^^ x20) hi22.1) fun w a hM hE=>Zj (Z0 (Zy (wp_region_lit (Ze hE rfl fun a hE=>Zk hE rfl rfl rfl fun a hE=>Zb hE rfl fun a hE=>Zj (Zl ?_)))))
    have hM:=hM.pull2.pull2
    exact ⟨_,(ois hs11),hE.sub ⟨rfl,rfl,rfl,rfl,trivial⟩,hM⟩
  ·intro hb14
   have hs11:=Zt hs11 hb14
   refine wp_exit (Zp (Zp (Z1 ?_)))
   obtain rfl:=hx12 _ (ois hs11)
   refine Zl ?_
   have hM:=M.fst (l:=[_,_]) hM.pull2.pull1
   exact ⟨hE.sub ⟨rfl,rfl,trivial⟩,hM⟩
 ·skip
  rintro a w ⟨hE,hM⟩
  refine Zy (Za (Zn hE rfl ZF rfl hM.rawAt1 (Flat.len _) fun a hE=>Zo (seg:=enc j7) (cs':=enc j7) hE hM Zd rfl rfl rfl ZF (Flat.len _) (zle flq) (Flat.cell _) (Zr flq) fun w a hM hE=>Zf ?_))
  obtain rfl:=Option.some.inj hF9
  have hq26 : Yq Tryz.prog _ _ (.cell 4 31) _:=ZQ hE rfl ZF rfl hM.rawAt0 (Flat.len _) rfl
  exact wp_ret (ZS hE rfl hq26 ⟨_,rfl,rfl,hM.kept⟩)
def WY (p0 : (Vector UInt8 256)) (p2 : Int) (s10 : (Vector UInt8 16) × Int) : Option (Fl ((Vector UInt8 16) × Int) (Vector UInt8 16)) :=
 if (decide (s10.2 < 16)) = true then (((ZC s10.1 (Int.tmod (wr (s10.2 + 15)) 16)).bind fun x19=>(if (s10.2 == 0) = true then (some (x19 ^^^ (ZO p2))) else (some x19) : Option (UInt8)).bind fun j21=>(ZC s10.1 s10.2).bind fun x29=>(ZC p0 (bI j21)).bind fun x32=>(ZC s10.1 s10.2).bind fun x35=>some (s10.1.setIfInBounds (s10.2).toNat (x29 ^^^ x32)) : Option ((Vector UInt8 16))).bind fun j15=>some (Fl.nx (j15,wr (s10.2 + 1)))) else (some (Fl.ex s10.1))
def U9 (p0 : (Vector UInt8 256)) (p1 : (Vector UInt8 16)) (p2 : Int) : Option ((Vector UInt8 16)) :=
 (ZD (WY p0 p2) (p1,0)).bind fun j7=>some j7
theorem A8 (w0 : World) (p0 : (Vector UInt8 256)) (p1 : (Vector UInt8 16)) (p2 : Int) (r : (Vector UInt8 16)) (hF : U9 p0 p1 p2 = some r) :
  Calls Tryz.prog 181 [(Value.agg (enc p0).toArray),(Value.agg (enc p1).toArray),vI p2].toArray w0 (Rt w0 (Value.agg (enc r).toArray)):=by
 refine ce Tryz.func181 ?_
 intro a hE
 have hM:=M.start w0
 unfold U9 at hF
 refine Za (ZM (cs:=enc p0) hE hM Zd ld rfl rfl fun b1 w a hM hE=>ZM (cs:=enc p1) hE hM Zd ld rfl rfl fun b3 w a hM hE=>Zz hE hM ZF fun b5 w a hM hE=>Zf (wp_seq (Za (Zb hE rfl fun a hE=>Zf ?_))))
 obtain ⟨j7,hl8,hF9⟩:=bind_some hF
 refine ZJ (fun a w=>Env 34 a [(4,(ptr b3 0)),(6,(ptr b5 0))] ∧ M (Old w0) w0 w [raw b5 (enc (Vector.replicate 16 (0 : UInt8))),raw b3 (enc j7)]) ?_ ?_
 ·skip
  refine wp_block ?_
  refine ZE (fun (s10 : (Vector UInt8 16) × Int) a w=>Env 34 a [(2,vI p2),(3,(ptr b1 0)),(4,(ptr b3 0)),(6,(ptr b5 0)),(7,vI s10.2)] ∧ M (Old w0) w0 w [raw b5 (enc (Vector.replicate 16 (0 : UInt8))),raw b3 (enc s10.1),raw b1 (enc p0)]) hl8 ⟨hE.sub ⟨rfl,rfl,rfl,rfl,rfl,trivial⟩,hM⟩ ?_
  rintro s10 a w ⟨hE,hM⟩ o13 hs11 hx12
  unfold WY at hs11
  refine wp_seq (Za (Ze hE rfl fun a hE=>Zk hE rfl rfl rfl fun a hE=>Zf ?_))
  refine Zq hE rfl ?_ ?_
  ·intro hb14
   have hs11:=Zu hs11 hb14
   refine wp_skip (Zy ?_)
   obtain ⟨j15,hl16,hF17⟩:=bind_some hs11
   refine ZI (fun a w=>Env 34 a [(2,vI p2),(3,(ptr b1 0)),(4,(ptr b3 0)),(6,(ptr b5 0)),(7,vI s10.2)] ∧ M (Old w0) w0 w [raw b5 (enc (Vector.replicate 16 (0 : UInt8))),raw b3 (enc j15),raw b1 (enc p0)]) ?_ ?_
   ·skip
    refine wp_block (Za (Ze hE rfl fun a hE=>Zk hE rfl rfl rfl fun a hE=>Zk hE rfl rfl (Kt _ _ (by decide)) ?_)); intro a hE
    obtain ⟨x19,hi18,hl16⟩:=bvx hl16
    refine Zm hE rfl rfl Tryz.underlying31 ty5 hi18.1 fun a hE=>Zx (v:=(vB x19)) hE rfl ty5 rfl (At.vec hM.rawAt1 hi18.2) fun a hE=>Zb hE rfl fun a hE=>Zf ?_
    obtain ⟨j21,hl22,hF23⟩:=bind_some hl16
    refine ZI (fun a w=>Env 34 a [(2,vI p2),(3,(ptr b1 0)),(4,(ptr b3 0)),(6,(ptr b5 0)),(7,vI s10.2),(8,vB j21)] ∧ M (Old w0) w0 w [raw b5 (enc (Vector.replicate 16 (0 : UInt8))),raw b3 (enc s10.1),raw b1 (enc p0)]) ?_ ?_
    ·skip
     refine Za (Ze hE rfl fun a hE=>Zk hE rfl rfl rfl fun a hE=>Zf ?_)
     refine Zq hE rfl ?_ ?_
     ·intro hb24
      have hl22:=Zu hl22 hb24
      refine wp_region_lit (Ze hE rfl fun a hE=>Ze hE rfl fun a hE=>XM hE Zd ld rfl Tryz.underlying2 Tryz.underlying5 ?_); intro a hE
      rw [YB] at hE
      refine Zk hE rfl rfl (VA x19 (ZO p2)) fun a hE=>Zb hE rfl fun a hE=>Zj ?_
      obtain rfl:=Option.some.inj hl22
      refine Zl ?_
      exact ⟨hE.sub ⟨rfl,rfl,rfl,rfl,rfl,rfl,trivial⟩,hM⟩
     ·intro hb24
      have hl22:=Zt hl22 hb24
      refine wp_skip ?_
      obtain rfl:=Option.some.inj hl22
      refine Zl ?_
      exact ⟨hE.sub ⟨rfl,rfl,rfl,rfl,rfl,rfl,trivial⟩,hM⟩
    ·skip
     rintro a w ⟨hE,hM⟩
     obtain ⟨x29,hi28,hF23⟩:=bvx hF23
     obtain ⟨x32,hi31,hF23⟩:=bvx hF23
     obtain ⟨x35,hi34,hF23⟩:=bvx hF23
     refine ZX (n:=34) (hd:=[_,_,_,_,_,_,_,_,_]) (tl:=[_]) Yx rfl rfl [24,25,26,27,28,29,30,31,32] (by decide) (fun w=>M (Old w0) w0 w [raw b5 (enc (Vector.replicate 16 (0 : UInt8))),raw b3 (enc s10.1),raw b1 (enc p0)]) (fun j=>([fun v _=>v = (vI s10.2),fun v _=>v = (vI s10.2),fun v _=>v = (ptr b3 (0 + (s10.2).toNat * 1)),fun v _=>v = (vB x29),fun v _=>v = (vB j21),fun v _=>v = (ptr b1 (0 + ((bI j21)).toNat * 1)),fun v _=>v = (vB x32),fun v _=>v = (vB (x29 ^^^ x32)),fun v _=>v = (ptr b3 (0 + (s10.2).toNat * 1))] : List (Value → World → Prop)).getD j (fun _ _=>True)) (fun _ _ h hk=>h.keep hk) (gup gu9) hE hM.drew (st9 ?_ ?_ ?_ ?_ ?_ ?_ ?_ ?_ ?_) ?_
     ·exact qm
     ·exact qm
     ·intro a w ux27 hE hM hp
      have f1 : ux27 1 = (vI s10.2):=hp 0 _ rfl rfl
      exact Zm hE rfl (lk rfl f1) Tryz.underlying31 ty5 hi28.1 fun a hE=>kq rfl hE rfl
     ·intro a w ux27 hE hM hp
      have f2 : ux27 2 = (ptr b3 (0 + (s10.2).toNat * 1)):=hp 0 _ rfl rfl
      exact Zx (v:=(vB x29)) hE (lk rfl f2) ty5 rfl (At.vec hM.rawAt1 hi28.2) fun a hE=>kq rfl hE rfl
     ·exact qm
     ·intro a w ux27 hE hM hp
      have f4 : ux27 4 = (vB j21):=hp 0 _ rfl rfl
      exact Zm hE rfl (lk rfl f4) Tryz.underlying23 ty5 hi31.1 fun a hE=>kq rfl hE rfl
     ·intro a w ux27 hE hM hp
      have f5 : ux27 5 = (ptr b1 (0 + ((bI j21)).toNat * 1)):=hp 0 _ rfl rfl
      exact Zx (v:=(vB x32)) hE (lk rfl f5) ty5 rfl (At.vec hM.rawAt2 hi31.2) fun a hE=>kq rfl hE rfl
     ·intro a w ux27 hE hM hp
      have f3 : ux27 3 = (vB x29):=hp 0 _ rfl rfl
      have f6 : ux27 6 = (vB x32):=hp 1 _ rfl rfl
      exact Zk hE (lk rfl f3) (lk rfl f6) (VA x29 x32) fun a hE=>kq rfl hE rfl
     ·intro a w ux27 hE hM hp
      have f0 : ux27 0 = (vI s10.2):=hp 0 _ rfl rfl
      exact Zm hE rfl (lk rfl f0) Tryz.underlying31 ty5 hi34.1 fun a hE=>kq rfl hE rfl
     ·intro a w ux27 hE hM hg
      have hE:=hE.sub (e':=[(31,(vB (x29 ^^^ x32))),(32,(ptr b3 (0 + (s10.2).toNat * 1))),(2,vI p2),(3,(ptr b1 0)),(4,(ptr b3 0)),(6,(ptr b5 0)),(7,vI s10.2),(8,vB j21)]) ⟨lk rfl (hg 7 (by decide)),lk rfl (hg 8 (by decide)),rfl,rfl,rfl,rfl,rfl,rfl,trivial⟩
      have hM:=hM.pull1
      refine Zo (seg:=[(vB (x29 ^^^ x32))]) (cs':=enc (s10.1.setIfInBounds (s10.2).toNat (x29 ^^^ x32))) hE hM Zd rfl rfl rfl ty5 rfl (ZH (v:=s10.1) (x:=x29 ^^^ x32) hi34.1) (Flat.cell (x29 ^^^ x32 : UInt8)) (ZA (v:=s10.1) (x:=x29 ^^^ x32) hi34.1) fun w a hM hE=>Zj (Z0 ?_)
      obtain rfl:=Option.some.inj hF23
      refine Zl ?_
      have hM:=hM.pull2.pull1.pull2
      exact ⟨hE.sub ⟨rfl,rfl,rfl,rfl,rfl,trivial⟩,hM⟩
   ·skip
    rintro a w ⟨hE,hM⟩
    refine wp_region_lit (Ze hE rfl fun a hE=>Zk hE rfl rfl rfl fun a hE=>Zb hE rfl fun a hE=>Zj (Zl ?_))
    exact ⟨_,(ois hF17),hE.sub ⟨rfl,rfl,rfl,rfl,rfl,trivial⟩,hM⟩
  ·intro hb14
   have hs11:=Zt hs11 hb14
   refine wp_exit (Zp (Zp (Z1 ?_)))
   obtain rfl:=hx12 _ (ois hs11)
   refine Zl ?_
   have hM:=M.fst (l:=[_,_]) hM.pull1.pull1
   exact ⟨hE.sub ⟨rfl,rfl,trivial⟩,hM⟩
 ·skip
  rintro a w ⟨hE,hM⟩
  refine Zy (Za (Zn hE rfl ZF rfl hM.rawAt1 (Flat.len _) fun a hE=>Zo (seg:=enc j7) (cs':=enc j7) hE hM Zd rfl rfl rfl ZF (Flat.len _) (zle flq) (Flat.cell _) (Zr flq) fun w a hM hE=>Zf ?_))
  obtain rfl:=Option.some.inj hF9
  have hq39 : Yq Tryz.prog _ _ (.cell 6 31) _:=ZQ hE rfl ZF rfl hM.rawAt0 (Flat.len _) rfl
  exact wp_ret (ZS hE rfl hq39 ⟨_,rfl,rfl,hM.kept⟩)
def W6 (p0 : GCipher) (p2 : Int) (s12 : (Vector UInt8 16) × (List (Vector UInt8 16)) × Int) : Option (Fl ((Vector UInt8 16) × (List (Vector UInt8 16)) × Int) (List (Vector UInt8 16))) :=
 if (decide (s12.2.2 ≤ p2)) = true then ((U9 p0.Box s12.1 s12.2.2).bind fun r19=>(app 16 s12.2.1 ([r19] : List (Vector UInt8 16))).bind fun l23=>some (Fl.nx (r19,(s12.2.1 ++ ([r19] : List (Vector UInt8 16))),wr (s12.2.2 + 1)))) else (some (Fl.ex s12.2.1))
def U3 (p0 : GCipher) (p1 : (Vector UInt8 16)) (p2 : Int) : Option ((List (Vector UInt8 16))) :=
 (ZD (W6 p0 p2) (p1,([p1] : List (Vector UInt8 16)),1)).bind fun j7=>some j7
theorem zq (w0 : World) (p0 : GCipher) (p1 : (Vector UInt8 16)) (p2 : Int) (r : (List (Vector UInt8 16))) (hF : U3 p0 p1 p2 = some r) :
  Calls Tryz.prog 173 [(Value.agg (enc p0).toArray),(Value.agg (enc p1).toArray),vI p2].toArray w0 (fun en w'=>∃ v,en = .returned v ∧ (∃ (y1 : Value),v = y1 ∧ Fr w0 w' [osl NoB (r : List (Vector UInt8 16)) y1] ∧ Kept (Old w0) w0 w')):=by
 refine ce Tryz.func173 ?_
 intro a hE
 have hM:=M.start w0
 unfold U3 at hF
 refine Za (ZM (cs:=cat [[vI p0.Field],enc p0.Box,enc p0.Mix,enc p0.Places,[vI p0.Rounds]]) hE hM Zd ld rfl rfl fun b1 w a hM hE=>ZM (cs:=enc p1) hE hM Zd ld rfl rfl fun b3 w a hM hE=>Zb hE rfl fun a hE=>Zf (Za (Zn hE rfl ZF rfl hM.rawAt0 (Flat.len _) fun a hE=>XH (xs:=[.tmp 9]) (l:=([p1] : List (Vector UInt8 16))) (vs:=[(Value.agg (enc p1).toArray)]) hE hM Zd ld rfl rfl Tryz.underlying33 ZF rfl (by decide) rfl fun u5 w a hM hE=>Zb hE rfl fun a hE=>Zf (wp_seq (Za (Zb hE rfl fun a hE=>Zf ?_))))))
 obtain ⟨j7,hl8,hF9⟩:=bind_some hF
 refine ZJ (fun a w=>∃ (u10 : Value),Env 26 a [(7,u10)] ∧ M (Old w0) w0 w [osl NoB (j7 : List (Vector UInt8 16)) u10]) ?_ ?_
 ·skip
  refine wp_block ?_
  have hM:=hM.pull2.pull2
  refine ZE (fun (s12 : (Vector UInt8 16) × (List (Vector UInt8 16)) × Int) a w=>∃ (u13 : Value),Env 26 a [(2,vI p2),(3,(ptr b1 0)),(4,(ptr b3 0)),(7,u13),(8,vI s12.2.2)] ∧ M (Old w0) w0 w [raw b3 (enc s12.1),raw b1 (cat [[vI p0.Field],enc p0.Box,enc p0.Mix,enc p0.Places,[vI p0.Rounds]]),osl NoB (s12.2.1 : List (Vector UInt8 16)) u13]) hl8 ⟨u5,hE.sub ⟨rfl,rfl,rfl,rfl,rfl,trivial⟩,hM⟩ ?_
  rintro s12 a w ⟨u13,hE,hM⟩ o17 hs15 hx16
  unfold W6 at hs15
  refine wp_seq (Za (Ze hE rfl fun a hE=>Ze hE rfl fun a hE=>Zk hE rfl rfl rfl fun a hE=>Zf ?_))
  refine Zq hE rfl ?_ ?_
  ·intro hb18
   have hs15:=Zu hs15 hb18
   refine wp_skip (Zy (wp_seq (wp_block (Za (Zg hE rfl (Q9) fun a hE=>Zn hE rfl Wu rfl (At.cat (pre:=[[vI p0.Field]]) hM.rawAt1 ck) (Flat.len _) fun a hE=>Zn hE rfl ZF rfl hM.rawAt0 (Flat.len _) fun a hE=>Ze hE rfl ?_))))); intro a hE
   obtain ⟨r19,e20,hs15⟩:=bind_some hs15
   refine Zv hE rfl (cbm Tryz.func181) (A8 _ p0.Box s12.1 s12.2.2 r19 e20) ?_
   rintro v w a ⟨rfl,hK⟩ hE
   have hM:=hM.keep hK
   refine Zo (seg:=enc r19) (cs':=enc r19) hE hM Zd rfl rfl rfl ZF (Flat.len _) (zle flq) (Flat.cell _) (Zr flq) fun w a hM hE=>Zf (wp_region_lit (Ze hE rfl fun a hE=>Zn hE rfl ZF rfl hM.rawAt0 (Flat.len _) fun a hE=>XH (xs:=[.tmp 22]) (l:=([r19] : List (Vector UInt8 16))) (vs:=[(Value.agg (enc r19).toArray)]) hE hM Zd ld rfl rfl Tryz.underlying33 ZF rfl (by decide) rfl ?_)); intro u21 w a hM hE
   obtain ⟨l23,e24,hs15⟩:=bind_some hs15
   obtain ⟨e27,rfl⟩:=Ve e24
   have hM:=hM.pull3
   refine X6 hE hM Zd ld rfl rfl (hM.sl (pre:=[_]) noB) Tryz.underlying33 ZF rfl (by decide) e27 fun u25 w a hM hE=>Zb hE rfl fun a hE=>Zj (Z0 (Zy (wp_region_lit (Ze hE rfl fun a hE=>Zk hE rfl rfl rfl fun a hE=>Zb hE rfl fun a hE=>Zj (Zl ?_)))))
   have hM:=M.fst (l:=[_,_,_]) hM.pull3.pull3
   exact ⟨_,(ois hs15),u25,hE.sub ⟨rfl,rfl,rfl,rfl,rfl,trivial⟩,hM⟩
  ·intro hb18
   have hs15:=Zt hs15 hb18
   refine wp_exit (Zp (Zp (Z1 ?_)))
   obtain rfl:=hx16 _ (ois hs15)
   refine Zl ?_
   have hM:=M.fst (l:=[_]) hM.pull2
   exact ⟨u13,hE.sub ⟨rfl,trivial⟩,hM⟩
 ·skip
  rintro a w ⟨u10,hE,hM⟩
  refine Zy (Za (Ze hE rfl fun a hE=>Zb hE rfl fun a hE=>Zf ?_))
  obtain rfl:=Option.some.inj hF9
  exact wp_ret (ZS hE rfl (YH hE rfl) ⟨_,rfl,u10,rfl,hM.outF (Wc VD),hM.kept⟩)
def WH (p0 : (Vector UInt8 256)) (s10 : (Vector UInt8 16) × Int) : Option (Fl ((Vector UInt8 16) × Int) (Vector UInt8 16)) :=
 if (decide (s10.2 < 16)) = true then ((ZC s10.1 s10.2).bind fun x16=>(ZC p0 (bI x16)).bind fun x19=>(ZC s10.1 s10.2).bind fun x22=>some (Fl.nx ((s10.1.setIfInBounds (s10.2).toNat x19),wr (s10.2 + 1)))) else (some (Fl.ex s10.1))
def Uu (p0 : (Vector UInt8 256)) (p1 : (Vector UInt8 16)) : Option ((Vector UInt8 16)) :=
 (ZD (WH p0) (p1,0)).bind fun j7=>some j7
theorem BY (w0 : World) (p0 : (Vector UInt8 256)) (p1 : (Vector UInt8 16)) (r : (Vector UInt8 16)) (hF : Uu p0 p1 = some r) :
  Calls Tryz.prog 175 [(Value.agg (enc p0).toArray),(Value.agg (enc p1).toArray)].toArray w0 (Rt w0 (Value.agg (enc r).toArray)):=by
 refine ce Tryz.func175 ?_
 intro a hE
 have hM:=M.start w0
 unfold Uu at hF
 refine Za (ZM (cs:=enc p0) hE hM Zd ld rfl rfl fun b1 w a hM hE=>ZM (cs:=enc p1) hE hM Zd ld rfl rfl fun b3 w a hM hE=>Zz hE hM ZF fun b5 w a hM hE=>Zf (wp_seq (Za (Zb hE rfl fun a hE=>Zf ?_))))
 obtain ⟨j7,hl8,hF9⟩:=bind_some hF
 refine ZJ (fun a w=>Env 18 a [(3,(ptr b3 0)),(4,(ptr b5 0))] ∧ M (Old w0) w0 w [raw b5 (enc (Vector.replicate 16 (0 : UInt8))),raw b3 (enc j7)]) ?_ ?_
 ·skip
  refine wp_block ?_
  refine ZE (fun (s10 : (Vector UInt8 16) × Int) a w=>Env 18 a [(2,(ptr b1 0)),(3,(ptr b3 0)),(4,(ptr b5 0)),(5,vI s10.2)] ∧ M (Old w0) w0 w [raw b5 (enc (Vector.replicate 16 (0 : UInt8))),raw b3 (enc s10.1),raw b1 (enc p0)]) hl8 ⟨hE.sub ⟨rfl,rfl,rfl,rfl,trivial⟩,hM⟩ ?_
  rintro s10 a w ⟨hE,hM⟩ o13 hs11 hx12
  unfold WH at hs11
  refine wp_seq (Za (Ze hE rfl fun a hE=>Zk hE rfl rfl rfl fun a hE=>Zf ?_))
  refine Zq hE rfl ?_ ?_
  ·intro hb14
   have hs11:=Zu hs11 hb14
   refine wp_skip (Zy (wp_seq (wp_block (wp_region_lit (Ze hE rfl fun a hE=>Ze hE rfl ?_))))); intro a hE
   obtain ⟨x16,hi15,hs11⟩:=bvx hs11
   refine Zm hE rfl rfl Tryz.underlying31 ty5 hi15.1 fun a hE=>Zx (v:=(vB x16)) hE rfl ty5 rfl (At.vec hM.rawAt1 hi15.2) ?_; intro a hE
   obtain ⟨x19,hi18,hs11⟩:=bvx hs11
   refine Zm hE rfl rfl Tryz.underlying23 ty5 hi18.1 fun a hE=>Zx (v:=(vB x19)) hE rfl ty5 rfl (At.vec hM.rawAt2 hi18.2) ?_; intro a hE
   obtain ⟨x22,hi21,hs11⟩:=bvx hs11
   refine Zm hE rfl rfl Tryz.underlying31 ty5 hi21.1 ?_; intro a hE
   have hM:=hM.pull1
   refine Zo (seg:=[vB x19]) (cs':=enc (s10.1.setIfInBounds (s10.2).toNat x19)) hE hM Zd rfl rfl rfl ty5 rfl (ZH (v:=s10.1) (x:=x19) hi21.1) (Flat.cell (x19 : UInt8)) (ZA (v:=s10.1) (x:=x19) hi21.1) fun w a hM hE=>Zj (Z0 (Zy (wp_region_lit (Ze hE rfl fun a hE=>Zk hE rfl rfl rfl fun a hE=>Zb hE rfl fun a hE=>Zj (Zl ?_)))))
   have hM:=hM.pull2.pull1.pull2
   exact ⟨_,(ois hs11),hE.sub ⟨rfl,rfl,rfl,rfl,trivial⟩,hM⟩
  ·intro hb14
   have hs11:=Zt hs11 hb14
   refine wp_exit (Zp (Zp (Z1 ?_)))
   obtain rfl:=hx12 _ (ois hs11)
   refine Zl ?_
   have hM:=M.fst (l:=[_,_]) hM.pull1.pull1
   exact ⟨hE.sub ⟨rfl,rfl,trivial⟩,hM⟩
 ·skip
  rintro a w ⟨hE,hM⟩
  refine Zy (Za (Zn hE rfl ZF rfl hM.rawAt1 (Flat.len _) fun a hE=>Zo (seg:=enc j7) (cs':=enc j7) hE hM Zd rfl rfl rfl ZF (Flat.len _) (zle flq) (Flat.cell _) (Zr flq) fun w a hM hE=>Zf ?_))
  obtain rfl:=Option.some.inj hF9
  have hq25 : Yq Tryz.prog _ _ (.cell 4 31) _:=ZQ hE rfl ZF rfl hM.rawAt0 (Flat.len _) rfl
  exact wp_ret (ZS hE rfl hq25 ⟨_,rfl,rfl,hM.kept⟩)
def W1 (p0 : (Vector UInt8 16)) (p1 : (Vector UInt8 16)) (s12 : (Vector UInt8 16) × Int) : Option (Fl ((Vector UInt8 16) × Int) (Vector UInt8 16)) :=
 if (decide (s12.2 < 16)) = true then ((ZC p0 s12.2).bind fun x18=>(ZC p1 (bI x18)).bind fun x21=>(ZC s12.1 s12.2).bind fun x24=>some (Fl.nx ((s12.1.setIfInBounds (s12.2).toNat x21),wr (s12.2 + 1)))) else (some (Fl.ex s12.1))
def U8 (p0 : (Vector UInt8 16)) (p1 : (Vector UInt8 16)) : Option ((Vector UInt8 16)) :=
 (ZD (W1 p0 p1) ((Vector.replicate 16 (0 : UInt8)),0)).bind fun j9=>some j9
theorem AZ (w0 : World) (p0 : (Vector UInt8 16)) (p1 : (Vector UInt8 16)) (r : (Vector UInt8 16)) (hF : U8 p0 p1 = some r) :
  Calls Tryz.prog 174 [(Value.agg (enc p0).toArray),(Value.agg (enc p1).toArray)].toArray w0 (Rt w0 (Value.agg (enc r).toArray)):=by
 refine ce Tryz.func174 ?_
 intro a hE
 have hM:=M.start w0
 unfold U8 at hF
 refine Za (ZM (cs:=enc p0) hE hM Zd ld rfl rfl fun b1 w a hM hE=>ZM (cs:=enc p1) hE hM Zd ld rfl rfl fun b3 w a hM hE=>Zz hE hM ZF fun b5 w a hM hE=>Zf (Za (YU (parts:=[]) (vs:=[]) (cs:=enc (Vector.replicate 16 (0 : UInt8))) hE Zd ld rfl rfl ZF rfl ty5 Yu fun a hE=>Zz hE hM ZF fun b7 w a hM hE=>Zo (seg:=enc (Vector.replicate 16 (0 : UInt8))) (cs':=enc (Vector.replicate 16 (0 : UInt8))) hE hM Zd rfl rfl rfl ZF (Flat.len _) (zle flq) (Flat.cell _) (Zr flq) fun w a hM hE=>Zf (wp_seq (Za (Zb hE rfl fun a hE=>Zf ?_))))))
 obtain ⟨j9,hl10,hF11⟩:=bind_some hF
 refine ZJ (fun a w=>Env 20 a [(4,(ptr b5 0)),(5,(ptr b7 0))] ∧ M (Old w0) w0 w [raw b7 (enc j9),raw b5 (enc (Vector.replicate 16 (0 : UInt8)))]) ?_ ?_
 ·skip
  refine wp_block ?_
  refine ZE (fun (s12 : (Vector UInt8 16) × Int) a w=>Env 20 a [(2,(ptr b1 0)),(3,(ptr b3 0)),(4,(ptr b5 0)),(5,(ptr b7 0)),(6,vI s12.2)] ∧ M (Old w0) w0 w [raw b7 (enc s12.1),raw b5 (enc (Vector.replicate 16 (0 : UInt8))),raw b3 (enc p1),raw b1 (enc p0)]) hl10 ⟨hE.sub ⟨rfl,rfl,rfl,rfl,rfl,trivial⟩,hM⟩ ?_
  rintro s12 a w ⟨hE,hM⟩ o15 hs13 hx14
  unfold W1 at hs13
  refine wp_seq (Za (Ze hE rfl fun a hE=>Zk hE rfl rfl rfl fun a hE=>Zf ?_))
  refine Zq hE rfl ?_ ?_
  ·intro hb16
   have hs13:=Zu hs13 hb16
   refine wp_skip (Zy (wp_seq (wp_block (wp_region_lit (Ze hE rfl fun a hE=>Ze hE rfl ?_))))); intro a hE
   obtain ⟨x18,hi17,hs13⟩:=bvx hs13
   refine Zm hE rfl rfl Tryz.underlying28 ty5 hi17.1 fun a hE=>Zx (v:=(vB x18)) hE rfl ty5 rfl (At.vec hM.rawAt3 hi17.2) ?_; intro a hE
   obtain ⟨x21,hi20,hs13⟩:=bvx hs13
   refine Zm hE rfl rfl Tryz.underlying31 ty5 hi20.1 fun a hE=>Zx (v:=(vB x21)) hE rfl ty5 rfl (At.vec hM.rawAt2 hi20.2) ?_; intro a hE
   obtain ⟨x24,hi23,hs13⟩:=bvx hs13
   refine Zm hE rfl rfl Tryz.underlying31 ty5 hi23.1 fun a hE=>Zo (seg:=[vB x21]) (cs':=enc (s12.1.setIfInBounds (s12.2).toNat x21)) hE hM Zd rfl rfl rfl ty5 rfl (ZH (v:=s12.1) (x:=x21) hi23.1) (Flat.cell (x21 : UInt8)) (ZA (v:=s12.1) (x:=x21) hi23.1) fun w a hM hE=>Zj (Z0 (Zy (wp_region_lit (Ze hE rfl fun a hE=>Zk hE rfl rfl rfl fun a hE=>Zb hE rfl fun a hE=>Zj (Zl ?_)))))
   exact ⟨_,(ois hs13),hE.sub ⟨rfl,rfl,rfl,rfl,rfl,trivial⟩,hM⟩
  ·intro hb16
   have hs13:=Zt hs13 hb16
   refine wp_exit (Zp (Zp (Z1 ?_)))
   obtain rfl:=hx14 _ (ois hs13)
   refine Zl ?_
   have hM:=M.fst (l:=[_,_]) hM.pull1.pull1
   exact ⟨hE.sub ⟨rfl,rfl,trivial⟩,hM⟩
 ·skip
  rintro a w ⟨hE,hM⟩
  refine Zy (Za (Zn hE rfl ZF rfl hM.rawAt0 (Flat.len _) ?_)); intro a hE
  have hM:=hM.pull1
  refine Zo (seg:=enc j9) (cs':=enc j9) hE hM Zd rfl rfl rfl ZF (Flat.len _) (zle flq) (Flat.cell _) (Zr flq) fun w a hM hE=>Zf ?_
  obtain rfl:=Option.some.inj hF11
  have hq27 : Yq Tryz.prog _ _ (.cell 4 31) _:=ZQ hE rfl ZF rfl hM.rawAt0 (Flat.len _) rfl
  exact wp_ret (ZS hE rfl hq27 ⟨_,rfl,rfl,hM.kept⟩)
def XZ (p0 : Int) (p1 : (Vector (Vector UInt8 4) 4)) (p2 : (Vector UInt8 16)) (s12 : (Vector UInt8 16) × Int) (s20 : (Vector UInt8 16) × Int) (s28 : (Vector UInt8 16) × Int) : Option (Fl ((Vector UInt8 16) × Int) (Vector UInt8 16)) :=
 if (decide (s28.2 < 4)) = true then ((ZC s28.1 (wr ((wr (4 * s12.2)) + s20.2))).bind fun x35=>(ZC p1 s20.2).bind fun x38=>(ZC x38 s28.2).bind fun x41=>(ZC p2 (wr ((wr (4 * s12.2)) + s28.2))).bind fun x44=>(Z5 p0 x41 x44).bind fun r46=>(ZC s28.1 (wr ((wr (4 * s12.2)) + s20.2))).bind fun x49=>some (Fl.nx ((s28.1.setIfInBounds ((wr ((wr (4 * s12.2)) + s20.2))).toNat (x35 ^^^ r46)),wr (s28.2 + 1)))) else (some (Fl.ex s28.1))
def VP (p0 : Int) (p1 : (Vector (Vector UInt8 4) 4)) (p2 : (Vector UInt8 16)) (s12 : (Vector UInt8 16) × Int) (s20 : (Vector UInt8 16) × Int) : Option (Fl ((Vector UInt8 16) × Int) (Vector UInt8 16)) :=
 if (decide (s20.2 < 4)) = true then ((ZD (XZ p0 p1 p2 s12 s20) (s20.1,0)).bind fun j25=>some (Fl.nx (j25,wr (s20.2 + 1)))) else (some (Fl.ex s20.1))
def VT (p0 : Int) (p1 : (Vector (Vector UInt8 4) 4)) (p2 : (Vector UInt8 16)) (s12 : (Vector UInt8 16) × Int) : Option (Fl ((Vector UInt8 16) × Int) (Vector UInt8 16)) :=
 if (decide (s12.2 < 4)) = true then ((ZD (VP p0 p1 p2 s12) (s12.1,0)).bind fun j17=>some (Fl.nx (j17,wr (s12.2 + 1)))) else (some (Fl.ex s12.1))
def TN (p0 : Int) (p1 : (Vector (Vector UInt8 4) 4)) (p2 : (Vector UInt8 16)) : Option ((Vector UInt8 16)) :=
 (ZD (VT p0 p1 p2) ((Vector.replicate 16 (0 : UInt8)),0)).bind fun j9=>some j9
theorem zJ (w0 : World) (p0 : Int) (p1 : (Vector (Vector UInt8 4) 4)) (p2 : (Vector UInt8 16)) (r : (Vector UInt8 16)) (hF : TN p0 p1 p2 = some r) :
  Calls Tryz.prog 176 [vI p0,(Value.agg (enc p1).toArray),(Value.agg (enc p2).toArray)].toArray w0 (Rt w0 (Value.agg (enc r).toArray)):=by
 refine ce Tryz.func176 ?_
 intro a hE
 have hM:=M.start w0
 unfold TN at hF
 refine Za (ZM (cs:=enc p1) hE hM Zd ld rfl rfl fun b1 w a hM hE=>ZM (cs:=enc p2) hE hM Zd ld rfl rfl fun b3 w a hM hE=>Zz hE hM ZF fun b5 w a hM hE=>Zf (Za (YU (parts:=[]) (vs:=[]) (cs:=enc (Vector.replicate 16 (0 : UInt8))) hE Zd ld rfl rfl ZF rfl ty5 Yu fun a hE=>Zz hE hM ZF fun b7 w a hM hE=>Zo (seg:=enc (Vector.replicate 16 (0 : UInt8))) (cs':=enc (Vector.replicate 16 (0 : UInt8))) hE hM Zd rfl rfl rfl ZF (Flat.len _) (zle flq) (Flat.cell _) (Zr flq) fun w a hM hE=>Zf (wp_seq (Za (Zb hE rfl fun a hE=>Zf ?_))))))
 obtain ⟨j9,hl10,hF11⟩:=bind_some hF
 refine ZJ (fun a w=>Env 50 a [(6,(ptr b5 0)),(7,(ptr b7 0))] ∧ M (Old w0) w0 w [raw b7 (enc j9),raw b5 (enc (Vector.replicate 16 (0 : UInt8)))]) ?_ ?_
 ·skip
  refine wp_block ?_
  refine ZE (fun (s12 : (Vector UInt8 16) × Int) a w=>Env 50 a [(0,vI p0),(4,(ptr b1 0)),(5,(ptr b3 0)),(6,(ptr b5 0)),(7,(ptr b7 0)),(8,vI s12.2)] ∧ M (Old w0) w0 w [raw b7 (enc s12.1),raw b5 (enc (Vector.replicate 16 (0 : UInt8))),raw b3 (enc p2),raw b1 (enc p1)]) hl10 ⟨hE.sub ⟨rfl,rfl,rfl,rfl,rfl,rfl,trivial⟩,hM⟩ ?_
  rintro s12 a w ⟨hE,hM⟩ o15 hs13 hx14
  unfold VT at hs13
  refine wp_seq (Za (Ze hE rfl fun a hE=>Zk hE rfl rfl rfl fun a hE=>Zf ?_))
  refine Zq hE rfl ?_ ?_
  ·intro hb16
   have hs13:=Zu hs13 hb16
   refine wp_skip (Zy (wp_seq (wp_block (Za (Zb hE rfl fun a hE=>Zf ?_)))))
   obtain ⟨j17,hl18,hF19⟩:=bind_some hs13
   refine ZJ (fun a w=>Env 50 a [(0,vI p0),(4,(ptr b1 0)),(5,(ptr b3 0)),(6,(ptr b5 0)),(7,(ptr b7 0)),(8,vI s12.2)] ∧ M (Old w0) w0 w [raw b7 (enc j17),raw b5 (enc (Vector.replicate 16 (0 : UInt8))),raw b3 (enc p2),raw b1 (enc p1)]) ?_ ?_
   ·skip
    refine wp_block ?_
    refine ZE (fun (s20 : (Vector UInt8 16) × Int) a w=>Env 50 a [(0,vI p0),(4,(ptr b1 0)),(5,(ptr b3 0)),(6,(ptr b5 0)),(7,(ptr b7 0)),(8,vI s12.2),(9,vI s20.2)] ∧ M (Old w0) w0 w [raw b7 (enc s20.1),raw b5 (enc (Vector.replicate 16 (0 : UInt8))),raw b3 (enc p2),raw b1 (enc p1)]) hl18 ⟨hE.sub ⟨rfl,rfl,rfl,rfl,rfl,rfl,rfl,trivial⟩,hM⟩ ?_
    rintro s20 a w ⟨hE,hM⟩ o23 hs21 hx22
    unfold VP at hs21
    refine wp_seq (Za (Ze hE rfl fun a hE=>Zk hE rfl rfl rfl fun a hE=>Zf ?_))
    refine Zq hE rfl ?_ ?_
    ·intro hb24
     have hs21:=Zu hs21 hb24
     refine wp_skip (Zy (wp_seq (wp_block (Za (Zb hE rfl fun a hE=>Zf ?_)))))
     obtain ⟨j25,hl26,hF27⟩:=bind_some hs21
     refine ZJ (fun a w=>Env 50 a [(0,vI p0),(4,(ptr b1 0)),(5,(ptr b3 0)),(6,(ptr b5 0)),(7,(ptr b7 0)),(8,vI s12.2),(9,vI s20.2)] ∧ M (Old w0) w0 w [raw b7 (enc j25),raw b5 (enc (Vector.replicate 16 (0 : UInt8))),raw b3 (enc p2),raw b1 (enc p1)]) ?_ ?_
     ·skip
      refine wp_block ?_
      refine ZE (fun (s28 : (Vector UInt8 16) × Int) a w=>Env 50 a [(0,vI p0),(4,(ptr b1 0)),(5,(ptr b3 0)),(6,(ptr b5 0)),(7,(ptr b7 0)),(8,vI s12.2),(9,vI s20.2),(10,vI s28.2)] ∧ M (Old w0) w0 w [raw b7 (enc s28.1),raw b5 (enc (Vector.replicate 16 (0 : UInt8))),raw b3 (enc p2),raw b1 (enc p1)]) hl26 ⟨hE.sub ⟨rfl,rfl,rfl,rfl,rfl,rfl,rfl,rfl,trivial⟩,hM⟩ ?_
      rintro s28 a w ⟨hE,hM⟩ o31 hs29 hx30
      unfold XZ at hs29
      refine wp_seq (Za (Ze hE rfl fun a hE=>Zk hE rfl rfl rfl fun a hE=>Zf ?_))
      refine Zq hE rfl ?_ ?_
      ·intro hb32
       have hs29:=Zu hs29 hb32
       refine wp_skip (Zy (wp_seq (wp_block ?_)))
       obtain ⟨x35,hi34,hs29⟩:=bvx hs29
       obtain ⟨x38,hi37,hs29⟩:=bvx hs29
       obtain ⟨x41,hi40,hs29⟩:=bvx hs29
       obtain ⟨x44,hi43,hs29⟩:=bvx hs29
       obtain ⟨r46,e47,hs29⟩:=bind_some hs29
       obtain ⟨x49,hi48,hs29⟩:=bvx hs29
       refine ZX (n:=50) (hd:=[_,_,_,_,_,_,_,_,_,_,_,_,_,_,_,_,_,_,_,_,_,_,_,_,_]) (tl:=[_]) Yx rfl rfl [24,25,26,27,28,29,30,31,32,33,34,35,36,37,38,39,40,41,42,43,44,45,46,47,48] (by decide) (fun w=>M (Old w0) w0 w [raw b7 (enc s28.1),raw b5 (enc (Vector.replicate 16 (0 : UInt8))),raw b3 (enc p2),raw b1 (enc p1)]) (fun j=>([fun v _=>v = (vI s12.2),fun v _=>v = (vI (wr (4 * s12.2))),fun v _=>v = (vI s20.2),fun v _=>v = (vI (wr ((wr (4 * s12.2)) + s20.2))),fun v _=>v = (vI s12.2),fun v _=>v = (vI (wr (4 * s12.2))),fun v _=>v = (vI s20.2),fun v _=>v = (vI (wr ((wr (4 * s12.2)) + s20.2))),fun v _=>v = (ptr b7 (0 + ((wr ((wr (4 * s12.2)) + s20.2))).toNat * 1)),fun v _=>v = (vB x35),fun v _=>v = (vI p0),fun v _=>v = (vI s20.2),fun v _=>v = (vI s28.2),fun v _=>v = (ptr b1 (0 + (s20.2).toNat * 4)),fun v _=>v = (ptr b1 (0 + (s20.2).toNat * 4 + (s28.2).toNat * 1)),fun v _=>v = (vB x41),fun v _=>v = (vI s12.2),fun v _=>v = (vI (wr (4 * s12.2))),fun v _=>v = (vI s28.2),fun v _=>v = (vI (wr ((wr (4 * s12.2)) + s28.2))),fun v _=>v = (ptr b3 (0 + ((wr ((wr (4 * s12.2)) + s28.2))).toNat * 1)),fun v _=>v = (vB x44),fun v _=>v = (vB r46),fun v _=>v = (vB (x35 ^^^ r46)),fun v _=>v = (ptr b7 (0 + ((wr ((wr (4 * s12.2)) + s20.2))).toNat * 1))] : List (Value → World → Prop)).getD j (fun _ _=>True)) (fun _ _ h hk=>h.keep hk) (gup gu25) hE hM.drew (st25 ?_ ?_ ?_ ?_ ?_ ?_ ?_ ?_ ?_ ?_ ?_ ?_ ?_ ?_ ?_ ?_ ?_ ?_ ?_ ?_ ?_ ?_ ?_ ?_ ?_) ?_
       ·exact qm
       ·intro a w ux33 hE hM hp
        have f0 : ux33 0 = (vI s12.2):=hp 0 _ rfl rfl
        exact Zk hE rfl (lk rfl f0) rfl fun a hE=>kq rfl hE rfl
       ·exact qm
       ·intro a w ux33 hE hM hp
        have f1 : ux33 1 = (vI (wr (4 * s12.2))):=hp 0 _ rfl rfl
        have f2 : ux33 2 = (vI s20.2):=hp 1 _ rfl rfl
        exact Zk hE (lk rfl f1) (lk rfl f2) rfl fun a hE=>kq rfl hE rfl
       ·exact qm
       ·intro a w ux33 hE hM hp
        have f4 : ux33 4 = (vI s12.2):=hp 0 _ rfl rfl
        exact Zk hE rfl (lk rfl f4) rfl fun a hE=>kq rfl hE rfl
       ·exact qm
       ·intro a w ux33 hE hM hp
        have f5 : ux33 5 = (vI (wr (4 * s12.2))):=hp 0 _ rfl rfl
        have f6 : ux33 6 = (vI s20.2):=hp 1 _ rfl rfl
        exact Zk hE (lk rfl f5) (lk rfl f6) rfl fun a hE=>kq rfl hE rfl
       ·intro a w ux33 hE hM hp
        have f7 : ux33 7 = (vI (wr ((wr (4 * s12.2)) + s20.2))):=hp 0 _ rfl rfl
        exact Zm hE rfl (lk rfl f7) Tryz.underlying31 ty5 hi34.1 fun a hE=>kq rfl hE rfl
       ·intro a w ux33 hE hM hp
        have f8 : ux33 8 = (ptr b7 (0 + ((wr ((wr (4 * s12.2)) + s20.2))).toNat * 1)):=hp 0 _ rfl rfl
        exact Zx (v:=(vB x35)) hE (lk rfl f8) ty5 rfl (At.vec hM.rawAt0 hi34.2) fun a hE=>kq rfl hE rfl
       ·exact qm
       ·exact qm
       ·exact qm
       ·intro a w ux33 hE hM hp
        have f11 : ux33 11 = (vI s20.2):=hp 0 _ rfl rfl
        exact Zm hE rfl (lk rfl f11) Tryz.underlying26 Yh hi37.1 fun a hE=>kq rfl hE rfl
       ·intro a w ux33 hE hM hp
        have f12 : ux33 12 = (vI s28.2):=hp 1 _ rfl rfl
        have f13 : ux33 13 = (ptr b1 (0 + (s20.2).toNat * 4)):=hp 0 _ rfl rfl
        exact Zm hE (lk rfl f13) (lk rfl f12) Tryz.underlying24 ty5 hi40.1 fun a hE=>kq rfl hE rfl
       ·intro a w ux33 hE hM hp
        have f14 : ux33 14 = (ptr b1 (0 + (s20.2).toNat * 4 + (s28.2).toNat * 1)):=hp 0 _ rfl rfl
        exact Zx (v:=(vB x41)) hE (lk rfl f14) ty5 rfl (At.vec (At.vec hM.rawAt3 hi37.2) hi40.2) fun a hE=>kq rfl hE rfl
       ·exact qm
       ·intro a w ux33 hE hM hp
        have f16 : ux33 16 = (vI s12.2):=hp 0 _ rfl rfl
        exact Zk hE rfl (lk rfl f16) rfl fun a hE=>kq rfl hE rfl
       ·exact qm
       ·intro a w ux33 hE hM hp
        have f17 : ux33 17 = (vI (wr (4 * s12.2))):=hp 0 _ rfl rfl
        have f18 : ux33 18 = (vI s28.2):=hp 1 _ rfl rfl
        exact Zk hE (lk rfl f17) (lk rfl f18) rfl fun a hE=>kq rfl hE rfl
       ·intro a w ux33 hE hM hp
        have f19 : ux33 19 = (vI (wr ((wr (4 * s12.2)) + s28.2))):=hp 0 _ rfl rfl
        exact Zm hE rfl (lk rfl f19) Tryz.underlying31 ty5 hi43.1 fun a hE=>kq rfl hE rfl
       ·intro a w ux33 hE hM hp
        have f20 : ux33 20 = (ptr b3 (0 + ((wr ((wr (4 * s12.2)) + s28.2))).toNat * 1)):=hp 0 _ rfl rfl
        exact Zx (v:=(vB x44)) hE (lk rfl f20) ty5 rfl (At.vec hM.rawAt2 hi43.2) fun a hE=>kq rfl hE rfl
       ·intro a w ux33 hE hM hp
        have f10 : ux33 10 = (vI p0):=hp 0 _ rfl rfl
        have f15 : ux33 15 = (vB x41):=hp 1 _ rfl rfl
        have f21 : ux33 21 = (vB x44):=hp 2 _ rfl rfl
        refine Zv hE (ZU (ZR (lk rfl f10) (ZR (lk rfl f15) (ZR (lk rfl f21) Xf)))) JT (YN _ p0 x41 x44 r46 e47) ?_
        rintro v w a ⟨rfl,hK⟩ hE
        exact ⟨hK,_,_,rfl,hE,rfl⟩
       ·intro a w ux33 hE hM hp
        have f9 : ux33 9 = (vB x35):=hp 0 _ rfl rfl
        have f22 : ux33 22 = (vB r46):=hp 1 _ rfl rfl
        exact Zk hE (lk rfl f9) (lk rfl f22) (VA x35 r46) fun a hE=>kq rfl hE rfl
       ·intro a w ux33 hE hM hp
        have f3 : ux33 3 = (vI (wr ((wr (4 * s12.2)) + s20.2))):=hp 0 _ rfl rfl
        exact Zm hE rfl (lk rfl f3) Tryz.underlying31 ty5 hi48.1 fun a hE=>kq rfl hE rfl
       ·intro a w ux33 hE hM hg
        have hE:=hE.sub (e':=[(47,(vB (x35 ^^^ r46))),(48,(ptr b7 (0 + ((wr ((wr (4 * s12.2)) + s20.2))).toNat * 1))),(0,vI p0),(4,(ptr b1 0)),(5,(ptr b3 0)),(6,(ptr b5 0)),(7,(ptr b7 0)),(8,vI s12.2),(9,vI s20.2),(10,vI s28.2),(20,vI s28.2),(21,(vT (decide (s28.2 < 4))))]) ⟨lk rfl (hg 23 (by decide)),lk rfl (hg 24 (by decide)),rfl,rfl,rfl,rfl,rfl,rfl,rfl,rfl,rfl,rfl,trivial⟩
        refine Zo (seg:=[(vB (x35 ^^^ r46))]) (cs':=enc (s28.1.setIfInBounds ((wr ((wr (4 * s12.2)) + s20.2))).toNat (x35 ^^^ r46))) hE hM Zd rfl rfl rfl ty5 rfl (ZH (v:=s28.1) (x:=x35 ^^^ r46) hi48.1) (Flat.cell (x35 ^^^ r46 : UInt8)) (ZA (v:=s28.1) (x:=x35 ^^^ r46) hi48.1) fun w a hM hE=>Zj (Z0 (Zy (wp_region_lit (Ze hE rfl fun a hE=>Zk hE rfl rfl rfl fun a hE=>Zb hE rfl fun a hE=>Zj (Zl ?_)))))
        exact ⟨_,(ois hs29),hE.sub ⟨rfl,rfl,rfl,rfl,rfl,rfl,rfl,rfl,trivial⟩,hM⟩
      ·intro hb32
       have hs29:=Zt hs29 hb32
       refine wp_exit (Zp (Zp (Z1 ?_)))
       obtain rfl:=hx30 _ (ois hs29)
       refine Zl ?_
       exact ⟨hE.sub ⟨rfl,rfl,rfl,rfl,rfl,rfl,rfl,trivial⟩,hM⟩
     ·skip
      rintro a w ⟨hE,hM⟩
      refine Z0 (Zy (wp_region_lit (Ze hE rfl fun a hE=>Zk hE rfl rfl rfl fun a hE=>Zb hE rfl fun a hE=>Zj (Zl ?_))))
      exact ⟨_,(ois hF27),hE.sub ⟨rfl,rfl,rfl,rfl,rfl,rfl,rfl,trivial⟩,hM⟩
    ·intro hb24
     have hs21:=Zt hs21 hb24
     refine wp_exit (Zp (Zp (Z1 ?_)))
     obtain rfl:=hx22 _ (ois hs21)
     refine Zl ?_
     exact ⟨hE.sub ⟨rfl,rfl,rfl,rfl,rfl,rfl,trivial⟩,hM⟩
   ·skip
    rintro a w ⟨hE,hM⟩
    refine Z0 (Zy (wp_region_lit (Ze hE rfl fun a hE=>Zk hE rfl rfl rfl fun a hE=>Zb hE rfl fun a hE=>Zj (Zl ?_))))
    exact ⟨_,(ois hF19),hE.sub ⟨rfl,rfl,rfl,rfl,rfl,rfl,trivial⟩,hM⟩
  ·intro hb16
   have hs13:=Zt hs13 hb16
   refine wp_exit (Zp (Zp (Z1 ?_)))
   obtain rfl:=hx14 _ (ois hs13)
   refine Zl ?_
   have hM:=M.fst (l:=[_,_]) hM.pull1.pull1
   exact ⟨hE.sub ⟨rfl,rfl,trivial⟩,hM⟩
 ·skip
  rintro a w ⟨hE,hM⟩
  refine Zy (Za (Zn hE rfl ZF rfl hM.rawAt0 (Flat.len _) ?_)); intro a hE
  have hM:=hM.pull1
  refine Zo (seg:=enc j9) (cs':=enc j9) hE hM Zd rfl rfl rfl ZF (Flat.len _) (zle flq) (Flat.cell _) (Zr flq) fun w a hM hE=>Zf ?_
  obtain rfl:=Option.some.inj hF11
  have hq54 : Yq Tryz.prog _ _ (.cell 6 31) _:=ZQ hE rfl ZF rfl hM.rawAt0 (Flat.len _) rfl
  exact wp_ret (ZS hE rfl hq54 ⟨_,rfl,rfl,hM.kept⟩)
def Xs (p0 : GCipher) (p3 : Int) (r9 : (List (Vector UInt8 16))) (s25 : (Vector UInt8 16) × Int) : Option (Fl ((Vector UInt8 16) × Int) (Vector UInt8 16)) :=
 if (decide (s25.2 ≤ p3)) = true then ((((Uu p0.Box s25.1).bind fun r37=>(U8 p0.Places r37).bind fun r39=>some r39 : Option ((Vector UInt8 16))).bind fun j33=>(if (decide (s25.2 < p3)) = true then ((TN p0.Field p0.Mix j33).bind fun r46=>some r46) else (some j33) : Option ((Vector UInt8 16))).bind fun j42=>(idx r9 s25.2).bind fun x51=>(Xg j42 x51).bind fun r54=>some r54 : Option ((Vector UInt8 16))).bind fun j30=>some (Fl.nx (j30,wr (s25.2 + 1)))) else (some (Fl.ex s25.1))
def Y7 (p0 : GCipher) (p1 : (Vector UInt8 16)) (p2 : (Vector UInt8 16)) (p3 : Int) : Option ((Vector UInt8 16)) :=
 (U3 p0 p1 p3).bind fun r9=>((idx r9 (0 : Int)).bind fun x16=>(Xg p2 x16).bind fun r19=>some r19 : Option ((Vector UInt8 16))).bind fun j12=>(ZD (Xs p0 p3 r9) (j12,1)).bind fun j22=>some j22
theorem Q5 (w0 : World) (p0 : GCipher) (p1 : (Vector UInt8 16)) (p2 : (Vector UInt8 16)) (p3 : Int) (r : (Vector UInt8 16)) (hF : Y7 p0 p1 p2 p3 = some r) :
  Calls Tryz.prog 168 [(Value.agg (enc p0).toArray),(Value.agg (enc p1).toArray),(Value.agg (enc p2).toArray),vI p3].toArray w0 (Rt w0 (Value.agg (enc r).toArray)):=by
 refine ce Tryz.func168 ?_
 intro a hE
 have hM:=M.start w0
 unfold Y7 at hF
 refine Za (ZM (cs:=cat [[vI p0.Field],enc p0.Box,enc p0.Mix,enc p0.Places,[vI p0.Rounds]]) hE hM Zd ld rfl rfl fun b1 w a hM hE=>ZM (cs:=enc p1) hE hM Zd ld rfl rfl fun b3 w a hM hE=>ZM (cs:=enc p2) hE hM Zd ld rfl rfl fun b5 w a hM hE=>Zz hE hM ZF fun b7 w a hM hE=>Zf (Za (Zn hE rfl Te rfl hM.rawAt3 cq fun a hE=>Zn hE rfl ZF rfl hM.rawAt2 (Flat.len _) fun a hE=>Ze hE rfl ?_))); intro a hE
 obtain ⟨r9,e10,hF⟩:=bind_some hF
 refine Zv hE rfl (cbm Tryz.func173) (zq _ p0 p1 p3 r9 e10) ?_
 rintro u11 w a ⟨_,rfl,hFr,hK⟩ hE
 have hM:=hM.add hK hFr
 refine Zb hE rfl fun a hE=>Zf ?_
 obtain ⟨j12,hl13,hF14⟩:=bind_some hF
 refine ZI (fun a w=>Env 48 a [(3,vI p3),(4,(ptr b1 0)),(6,(ptr b5 0)),(8,(ptr b7 0)),(9,u11)] ∧ M (Old w0) w0 w [osl NoB (r9 : List (Vector UInt8 16)) u11,raw b7 (enc (Vector.replicate 16 (0 : UInt8))),raw b5 (enc j12),raw b1 (cat [[vI p0.Field],enc p0.Box,enc p0.Mix,enc p0.Places,[vI p0.Rounds]])]) ?_ ?_
 ·skip
  obtain ⟨x16,hi18,hl13⟩:=bix hl13
  obtain ⟨r19,e20,hl13⟩:=bind_some hl13
  refine ZX (n:=48) (hd:=[_,_,_,_,_]) (tl:=[_]) Yx rfl rfl [15,16,17,18,19] (by decide) (fun w=>M (Old w0) w0 w [osl NoB (r9 : List (Vector UInt8 16)) u11,raw b7 (enc (Vector.replicate 16 (0 : UInt8))),raw b5 (enc p2),raw b3 (enc p1),raw b1 (cat [[vI p0.Field],enc p0.Box,enc p0.Mix,enc p0.Places,[vI p0.Rounds]])]) (fun j=>([fun v _=>v = (Value.agg (enc p2).toArray),fun v _=>v = u11,fun v _=>v = (ptr (sb u11) (so u11 + ((0 : Int)).toNat * 16)),fun v _=>v = (Value.agg (enc x16).toArray),fun v _=>v = (Value.agg (enc r19).toArray)] : List (Value → World → Prop)).getD j (fun _ _=>True)) (fun _ _ h hk=>h.keep hk) (gup gu5) hE hM.drew (st5 ?_ ?_ ?_ ?_ ?_) ?_
  ·exact fun a w ux15 hE hM hp=>Zn hE rfl ZF rfl hM.rawAt2 (Flat.len _) fun a hE=>kq rfl hE rfl
  ·exact qm
  ·intro a w ux15 hE hM hp
   have f1 : ux15 1 = u11:=hp 0 _ rfl rfl
   exact ZK hE (lk rfl f1) rfl Tryz.underlying33 ZF (hM.sl (pre:=[]) noB) hi18.1 fun a hE=>kq rfl hE rfl
  ·intro a w ux15 hE hM hp
   have f2 : ux15 2 = (ptr (sb u11) (so u11 + ((0 : Int)).toNat * 16)):=hp 0 _ rfl rfl
   exact Zn hE (lk rfl f2) ZF rfl (Ys (hM.sl (pre:=[]) noB) hi18.2) (Flat.len _) fun a hE=>kq rfl hE rfl
  ·intro a w ux15 hE hM hp
   have f0 : ux15 0 = (Value.agg (enc p2).toArray):=hp 0 _ rfl rfl
   have f3 : ux15 3 = (Value.agg (enc x16).toArray):=hp 1 _ rfl rfl
   refine Zv hE (ZU (ZR (lk rfl f0) (ZR (lk rfl f3) Xf))) z5 (Uz _ p2 x16 r19 e20) ?_
   rintro v w a ⟨rfl,hK⟩ hE
   exact ⟨hK,_,_,rfl,hE,rfl⟩
  ·intro a w ux15 hE hM hg
   have hE:=hE.sub (e':=[(19,(Value.agg (enc r19).toArray)),(3,vI p3),(4,(ptr b1 0)),(6,(ptr b5 0)),(8,(ptr b7 0)),(9,u11)]) ⟨lk rfl (hg 4 (by decide)),rfl,rfl,rfl,rfl,rfl,trivial⟩
   have hM:=hM.pull2
   refine Zo (seg:=enc r19) (cs':=enc r19) hE hM Zd rfl rfl rfl ZF (Flat.len _) (zle flq) (Flat.cell _) (Zr flq) fun w a hM hE=>Zj ?_
   obtain rfl:=Option.some.inj hl13
   refine Zl ?_
   have hM:=M.fst (l:=[_,_,_,_]) hM.pull4.pull1.pull3.pull3
   exact ⟨hE.sub ⟨rfl,rfl,rfl,rfl,rfl,trivial⟩,hM⟩
 ·skip
  rintro a w ⟨hE,hM⟩
  refine wp_seq (Za (Zb hE rfl fun a hE=>Zf ?_))
  obtain ⟨j22,hl23,hF24⟩:=bind_some hF14
  refine ZJ (fun a w=>Env 48 a [(6,(ptr b5 0)),(8,(ptr b7 0))] ∧ M (Old w0) w0 w [raw b7 (enc (Vector.replicate 16 (0 : UInt8))),raw b5 (enc j22)]) ?_ ?_
  ·skip
   refine wp_block ?_
   refine ZE (fun (s25 : (Vector UInt8 16) × Int) a w=>Env 48 a [(3,vI p3),(4,(ptr b1 0)),(6,(ptr b5 0)),(8,(ptr b7 0)),(9,u11),(10,vI s25.2)] ∧ M (Old w0) w0 w [osl NoB (r9 : List (Vector UInt8 16)) u11,raw b7 (enc (Vector.replicate 16 (0 : UInt8))),raw b5 (enc s25.1),raw b1 (cat [[vI p0.Field],enc p0.Box,enc p0.Mix,enc p0.Places,[vI p0.Rounds]])]) hl23 ⟨hE.sub ⟨rfl,rfl,rfl,rfl,rfl,rfl,trivial⟩,hM⟩ ?_
   rintro s25 a w ⟨hE,hM⟩ o28 hs26 hx27
   unfold Xs at hs26
   refine wp_seq (Za (Ze hE rfl fun a hE=>Ze hE rfl fun a hE=>Zk hE rfl rfl rfl fun a hE=>Zf ?_))
   refine Zq hE rfl ?_ ?_
   ·intro hb29
    have hs26:=Zu hs26 hb29
    refine wp_skip (Zy ?_)
    obtain ⟨j30,hl31,hF32⟩:=bind_some hs26
    refine ZI (fun a w=>Env 48 a [(3,vI p3),(4,(ptr b1 0)),(6,(ptr b5 0)),(8,(ptr b7 0)),(9,u11),(10,vI s25.2)] ∧ M (Old w0) w0 w [osl NoB (r9 : List (Vector UInt8 16)) u11,raw b7 (enc (Vector.replicate 16 (0 : UInt8))),raw b5 (enc j30),raw b1 (cat [[vI p0.Field],enc p0.Box,enc p0.Mix,enc p0.Places,[vI p0.Rounds]])]) ?_ ?_
    ·skip
     refine wp_block ?_
     obtain ⟨j33,hl34,hF35⟩:=bind_some hl31
     refine ZI (fun a w=>Env 48 a [(3,vI p3),(4,(ptr b1 0)),(6,(ptr b5 0)),(8,(ptr b7 0)),(9,u11),(10,vI s25.2)] ∧ M (Old w0) w0 w [osl NoB (r9 : List (Vector UInt8 16)) u11,raw b7 (enc (Vector.replicate 16 (0 : UInt8))),raw b5 (enc j33),raw b1 (cat [[vI p0.Field],enc p0.Box,enc p0.Mix,enc p0.Places,[vI p0.Rounds]])]) ?_ ?_
     ·skip
      obtain ⟨r37,e38,hl34⟩:=bind_some hl34
      obtain ⟨r39,e40,hl34⟩:=bind_some hl34
      refine ZX (n:=48) (hd:=[_,_,_,_,_,_,_]) (tl:=[_]) Yx rfl rfl [25,26,27,28,29,30,31] (by decide) (fun w=>M (Old w0) w0 w [osl NoB (r9 : List (Vector UInt8 16)) u11,raw b7 (enc (Vector.replicate 16 (0 : UInt8))),raw b5 (enc s25.1),raw b1 (cat [[vI p0.Field],enc p0.Box,enc p0.Mix,enc p0.Places,[vI p0.Rounds]])]) (fun j=>([fun v _=>v = (ptr b1 (0 + 273)),fun v _=>v = (Value.agg (enc p0.Places).toArray),fun v _=>v = (ptr b1 (0 + 1)),fun v _=>v = (Value.agg (enc p0.Box).toArray),fun v _=>v = (Value.agg (enc s25.1).toArray),fun v _=>v = (Value.agg (enc r37).toArray),fun v _=>v = (Value.agg (enc r39).toArray)] : List (Value → World → Prop)).getD j (fun _ _=>True)) (fun _ _ h hk=>h.keep hk) (gup gu7) hE hM.drew (st7 ?_ ?_ ?_ ?_ ?_ ?_ ?_) ?_
      ·exact fun a w ux36 hE hM hp=>Zg hE rfl (Kn) fun a hE=>kq rfl hE rfl
      ·intro a w ux36 hE hM hp
       have f0 : ux36 0 = (ptr b1 (0 + 273)):=hp 0 _ rfl rfl
       exact Zn hE (lk rfl f0) Qz rfl (At.cat (pre:=[[vI p0.Field],enc p0.Box,enc p0.Mix]) hM.rawAt3 ck) (Flat.len _) fun a hE=>kq rfl hE rfl
      ·exact fun a w ux36 hE hM hp=>Zg hE rfl (Q9) fun a hE=>kq rfl hE rfl
      ·intro a w ux36 hE hM hp
       have f2 : ux36 2 = (ptr b1 (0 + 1)):=hp 0 _ rfl rfl
       exact Zn hE (lk rfl f2) Wu rfl (At.cat (pre:=[[vI p0.Field]]) hM.rawAt3 ck) (Flat.len _) fun a hE=>kq rfl hE rfl
      ·exact fun a w ux36 hE hM hp=>Zn hE rfl ZF rfl hM.rawAt2 (Flat.len _) fun a hE=>kq rfl hE rfl
      ·intro a w ux36 hE hM hp
       have f3 : ux36 3 = (Value.agg (enc p0.Box).toArray):=hp 0 _ rfl rfl
       have f4 : ux36 4 = (Value.agg (enc s25.1).toArray):=hp 1 _ rfl rfl
       refine Zv hE (ZU (ZR (lk rfl f3) (ZR (lk rfl f4) Xf))) (cbm Tryz.func175) (BY _ p0.Box s25.1 r37 e38) ?_
       rintro v w a ⟨rfl,hK⟩ hE
       exact ⟨hK,_,_,rfl,hE,rfl⟩
      ·intro a w ux36 hE hM hp
       have f1 : ux36 1 = (Value.agg (enc p0.Places).toArray):=hp 0 _ rfl rfl
       have f5 : ux36 5 = (Value.agg (enc r37).toArray):=hp 1 _ rfl rfl
       refine Zv hE (ZU (ZR (lk rfl f1) (ZR (lk rfl f5) Xf))) (cbm Tryz.func174) (AZ _ p0.Places r37 r39 e40) ?_
       rintro v w a ⟨rfl,hK⟩ hE
       exact ⟨hK,_,_,rfl,hE,rfl⟩
      ·intro a w ux36 hE hM hg
       have hE:=hE.sub (e':=[(31,(Value.agg (enc r39).toArray)),(3,vI p3),(4,(ptr b1 0)),(6,(ptr b5 0)),(8,(ptr b7 0)),(9,u11),(10,vI s25.2),(20,vI s25.2),(21,vI p3),(22,(vT (decide (s25.2 ≤ p3))))]) ⟨lk rfl (hg 6 (by decide)),rfl,rfl,rfl,rfl,rfl,rfl,rfl,rfl,rfl,trivial⟩
       have hM:=hM.pull2
       refine Zo (seg:=enc r39) (cs':=enc r39) hE hM Zd rfl rfl rfl ZF (Flat.len _) (zle flq) (Flat.cell _) (Zr flq) fun w a hM hE=>Zj ?_
       obtain rfl:=Option.some.inj hl34
       refine Zl ?_
       have hM:=hM.pull3.pull1.pull3.pull3
       exact ⟨hE.sub ⟨rfl,rfl,rfl,rfl,rfl,rfl,trivial⟩,hM⟩
     ·skip
      rintro a w ⟨hE,hM⟩
      obtain ⟨j42,hl43,hF44⟩:=bind_some hF35
      refine ZI (fun a w=>Env 48 a [(3,vI p3),(4,(ptr b1 0)),(6,(ptr b5 0)),(8,(ptr b7 0)),(9,u11),(10,vI s25.2)] ∧ M (Old w0) w0 w [osl NoB (r9 : List (Vector UInt8 16)) u11,raw b7 (enc (Vector.replicate 16 (0 : UInt8))),raw b5 (enc j42),raw b1 (cat [[vI p0.Field],enc p0.Box,enc p0.Mix,enc p0.Places,[vI p0.Rounds]])]) ?_ ?_
      ·skip
       refine Za (Ze hE rfl fun a hE=>Ze hE rfl fun a hE=>Zk hE rfl rfl rfl fun a hE=>Zf ?_)
       refine Zq hE rfl ?_ ?_
       ·intro hb45
        have hl43:=Zu hl43 hb45
        refine wp_region_lit (Zg hE rfl (Kc) fun a hE=>Zx (v:=(vI p0.Field)) hE rfl ty2 rfl (At.cat (pre:=[]) hM.rawAt3 cl0) fun a hE=>Zg hE rfl (Kr) fun a hE=>Zn hE rfl Xc rfl (At.cat (pre:=[[vI p0.Field],enc p0.Box]) hM.rawAt3 ck) (Flat.len _) fun a hE=>Zn hE rfl ZF rfl hM.rawAt2 (Flat.len _) ?_); intro a hE
        obtain ⟨r46,e47,hl43⟩:=bind_some hl43
        refine Zv hE rfl (cbm Tryz.func176) (zJ _ p0.Field p0.Mix j33 r46 e47) ?_
        rintro v w a ⟨rfl,hK⟩ hE
        have hM:=(hM.keep hK).pull2
        refine Zo (seg:=enc r46) (cs':=enc r46) hE hM Zd rfl rfl rfl ZF (Flat.len _) (zle flq) (Flat.cell _) (Zr flq) fun w a hM hE=>Zj ?_
        obtain rfl:=Option.some.inj hl43
        refine Zl ?_
        have hM:=hM.pull3.pull1.pull3.pull3
        exact ⟨hE.sub ⟨rfl,rfl,rfl,rfl,rfl,rfl,trivial⟩,hM⟩
       ·intro hb45
        have hl43:=Zt hl43 hb45
        refine wp_skip ?_
        obtain rfl:=Option.some.inj hl43
        refine Zl ?_
        exact ⟨hE.sub ⟨rfl,rfl,rfl,rfl,rfl,rfl,trivial⟩,hM⟩
      ·skip
       rintro a w ⟨hE,hM⟩
       obtain ⟨x51,hi53,hF44⟩:=bix hF44
       obtain ⟨r54,e55,hF44⟩:=bind_some hF44
       refine ZX (n:=48) (hd:=[_,_,_,_,_,_]) (tl:=[_]) Yx rfl rfl [41,42,43,44,45,46] (by decide) (fun w=>M (Old w0) w0 w [osl NoB (r9 : List (Vector UInt8 16)) u11,raw b7 (enc (Vector.replicate 16 (0 : UInt8))),raw b5 (enc j42),raw b1 (cat [[vI p0.Field],enc p0.Box,enc p0.Mix,enc p0.Places,[vI p0.Rounds]])]) (fun j=>([fun v _=>v = (Value.agg (enc j42).toArray),fun v _=>v = u11,fun v _=>v = (vI s25.2),fun v _=>v = (ptr (sb u11) (so u11 + (s25.2).toNat * 16)),fun v _=>v = (Value.agg (enc x51).toArray),fun v _=>v = (Value.agg (enc r54).toArray)] : List (Value → World → Prop)).getD j (fun _ _=>True)) (fun _ _ h hk=>h.keep hk) (gup gu6) hE hM.drew (st6 ?_ ?_ ?_ ?_ ?_ ?_) ?_
       ·exact fun a w ux50 hE hM hp=>Zn hE rfl ZF rfl hM.rawAt2 (Flat.len _) fun a hE=>kq rfl hE rfl
       ·exact qm
       ·exact qm
       ·intro a w ux50 hE hM hp
        have f1 : ux50 1 = u11:=hp 0 _ rfl rfl
        have f2 : ux50 2 = (vI s25.2):=hp 1 _ rfl rfl
        exact ZK hE (lk rfl f1) (lk rfl f2) Tryz.underlying33 ZF (hM.sl (pre:=[]) noB) hi53.1 fun a hE=>kq rfl hE rfl
       ·intro a w ux50 hE hM hp
        have f3 : ux50 3 = (ptr (sb u11) (so u11 + (s25.2).toNat * 16)):=hp 0 _ rfl rfl
        exact Zn hE (lk rfl f3) ZF rfl (Ys (hM.sl (pre:=[]) noB) hi53.2) (Flat.len _) fun a hE=>kq rfl hE rfl
       ·intro a w ux50 hE hM hp
        have f0 : ux50 0 = (Value.agg (enc j42).toArray):=hp 0 _ rfl rfl
        have f4 : ux50 4 = (Value.agg (enc x51).toArray):=hp 1 _ rfl rfl
        refine Zv hE (ZU (ZR (lk rfl f0) (ZR (lk rfl f4) Xf))) z5 (Uz _ j42 x51 r54 e55) ?_
        rintro v w a ⟨rfl,hK⟩ hE
        exact ⟨hK,_,_,rfl,hE,rfl⟩
       ·intro a w ux50 hE hM hg
        have hE:=hE.sub (e':=[(46,(Value.agg (enc r54).toArray)),(3,vI p3),(4,(ptr b1 0)),(6,(ptr b5 0)),(8,(ptr b7 0)),(9,u11),(10,vI s25.2)]) ⟨lk rfl (hg 5 (by decide)),rfl,rfl,rfl,rfl,rfl,rfl,trivial⟩
        have hM:=hM.pull2
        refine Zo (seg:=enc r54) (cs':=enc r54) hE hM Zd rfl rfl rfl ZF (Flat.len _) (zle flq) (Flat.cell _) (Zr flq) fun w a hM hE=>Zj (Z0 ?_)
        obtain rfl:=Option.some.inj hF44
        refine Zl ?_
        have hM:=hM.pull3.pull1.pull3.pull3
        exact ⟨hE.sub ⟨rfl,rfl,rfl,rfl,rfl,rfl,trivial⟩,hM⟩
    ·skip
     rintro a w ⟨hE,hM⟩
     refine wp_region_lit (Ze hE rfl fun a hE=>Zk hE rfl rfl rfl fun a hE=>Zb hE rfl fun a hE=>Zj (Zl ?_))
     exact ⟨_,(ois hF32),hE.sub ⟨rfl,rfl,rfl,rfl,rfl,rfl,trivial⟩,hM⟩
   ·intro hb29
    have hs26:=Zt hs26 hb29
    refine wp_exit (Zp (Zp (Z1 ?_)))
    obtain rfl:=hx27 _ (ois hs26)
    refine Zl ?_
    have hM:=M.fst (l:=[_,_]) hM.pull2.pull2
    exact ⟨hE.sub ⟨rfl,rfl,trivial⟩,hM⟩
  ·skip
   rintro a w ⟨hE,hM⟩
   refine Zy (Za (Zn hE rfl ZF rfl hM.rawAt1 (Flat.len _) fun a hE=>Zo (seg:=enc j22) (cs':=enc j22) hE hM Zd rfl rfl rfl ZF (Flat.len _) (zle flq) (Flat.cell _) (Zr flq) fun w a hM hE=>Zf ?_))
   obtain rfl:=Option.some.inj hF24
   have hq58 : Yq Tryz.prog _ _ (.cell 8 31) _:=ZQ hE rfl ZF rfl hM.rawAt0 (Flat.len _) rfl
   exact wp_ret (ZS hE rfl hq58 ⟨_,rfl,rfl,hM.kept⟩)
def Wb (r31 : (Vector UInt8 16)) (r40 : (Vector UInt8 16)) (s51 : (Vector UInt8 32) × Int) : Option (Fl ((Vector UInt8 32) × Int) (Vector UInt8 32)) :=
 if (decide (s51.2 < 16)) = true then ((ZC r31 s51.2).bind fun x57=>(ZC s51.1 s51.2).bind fun x60=>(ZC r40 s51.2).bind fun x63=>(ZC (s51.1.setIfInBounds (s51.2).toNat x57) (wr (16 + s51.2))).bind fun x66=>some (Fl.nx (((s51.1.setIfInBounds (s51.2).toNat x57).setIfInBounds ((wr (16 + s51.2))).toNat x63),wr (s51.2 + 1)))) else (some (Fl.ex s51.1))
def Wy (p0 : GCipher) (p1 : (Vector UInt8 32)) (p2 : (Vector UInt8 16)) : Option ((Vector UInt8 32)) :=
 (Vs p1).bind fun r9=>(Xg r9.1 p2).bind fun r16=>(Xg r9.2 p2).bind fun r18=>(Y7 p0 r9.2 r16 p0.Rounds).bind fun r29=>(Xg r29 r16).bind fun r31=>(Y7 p0 r31 r18 p0.Rounds).bind fun r38=>(Xg r38 r18).bind fun r40=>(ZD (Wb r31 r40) ((Vector.replicate 32 (0 : UInt8)),0)).bind fun j48=>some j48
theorem HQ (w0 : World) (p0 : GCipher) (p1 : (Vector UInt8 32)) (p2 : (Vector UInt8 16)) (r : (Vector UInt8 32)) (hF : Wy p0 p1 p2 = some r) :
  Calls Tryz.prog 151 [(Value.agg (enc p0).toArray),(Value.agg (enc p1).toArray),(Value.agg (enc p2).toArray)].toArray w0 (Rt w0 (Value.agg (enc r).toArray)):=by
 refine ce Tryz.func151 ?_
 intro a hE
 have hM:=M.start w0
 unfold Wy at hF
 refine Za (ZM (cs:=cat [[vI p0.Field],enc p0.Box,enc p0.Mix,enc p0.Places,[vI p0.Rounds]]) hE hM Zd ld rfl rfl fun b1 w a hM hE=>ZM (cs:=enc p1) hE hM Zd ld rfl rfl fun b3 w a hM hE=>ZM (cs:=enc p2) hE hM Zd ld rfl rfl fun b5 w a hM hE=>Zz hE hM Yr fun b7 w a hM hE=>Zf (Za (Zn hE rfl Yr rfl hM.rawAt2 (Flat.len _) ?_))); intro a hE
 obtain ⟨r9,e10,hF⟩:=bind_some hF
 refine Zv hE rfl (cbm Tryz.func166) (Bf _ p1 r9 e10) ?_
 rintro v w a ⟨rfl,hK⟩ hE
 have hM:=hM.keep hK
 refine Ze hE rfl fun a hE=>Ux hE Zd ld rfl rfl fun a hE=>Ux hE Zd ld rfl rfl fun a hE=>Zz hE hM ZF fun b11 w a hM hE=>Zz hE hM ZF ?_; intro b13 w a hM hE
 have hM:=hM.pull1
 refine Zo (seg:=enc r9.1) (cs':=enc r9.1) hE hM Zd rfl rfl rfl ZF (Flat.len _) (zle flq) (Flat.cell _) (Zr flq) ?_; intro w a hM hE
 have hM:=hM.pull1
 refine Zo (seg:=enc r9.2) (cs':=enc r9.2) hE hM Zd rfl rfl rfl ZF (Flat.len _) (zle flq) (Flat.cell _) (Zr flq) fun w a hM hE=>Zf (wp_seq ?_)
 obtain ⟨r16,e17,hF⟩:=bind_some hF
 obtain ⟨r18,e19,hF⟩:=bind_some hF
 refine TU (n:=59) (hd:=[_,_,_,_,_,_,_,_]) (tl:=[_,_]) Yx rfl rfl [20,21,22,23,24,25,9,10] (by decide) (fun D u w=>M (Old w0) w0 w ([raw b13 (enc r9.2),raw b11 (enc r9.1),raw b7 (enc (Vector.replicate 32 (0 : UInt8))),raw b5 (enc p2),raw b3 (enc p1),raw b1 (cat [[vI p0.Field],enc p0.Box,enc p0.Mix,enc p0.Places,[vI p0.Rounds]])] ++ qL ([mkO 6 (fun v=>UI v (enc (Vector.replicate 16 (0 : UInt8)))),mkO 7 (fun v=>UI v (enc (Vector.replicate 16 (0 : UInt8))))] : Mk) D u) ∧ GOk ([([],fun us v=>v = (Value.agg (enc r9.1).toArray)),([],fun us v=>v = (Value.agg (enc p2).toArray)),([],fun us v=>v = (Value.agg (enc r16).toArray)),([],fun us v=>v = (Value.agg (enc r9.2).toArray)),([],fun us v=>v = (Value.agg (enc p2).toArray)),([],fun us v=>v = (Value.agg (enc r18).toArray)),([],fun us v=>True),([],fun us v=>True)] : Gs) D u) hE (fun u=>⟨M.qE (M.qE (M.q0 hM.drew u) emO) emO,Ae⟩) (st8 ?_ ?_ ?_ ?_ ?_ ?_ ?_ ?_) ?_
 ·intro a w ux15 D hE hI hD hdc hp
  have hM0:=hI.1
  have hM:=hI.1
  exact Zn hE rfl ZF rfl hM.rawAt1 (Flat.len _) fun a hE=>⟨_,_,rfl,hE,M.qKeep hM0 rfl,hI.2.put hD rfl ZN rfl⟩
 ·intro a w ux15 D hE hI hD hdc hp
  have hM0:=hI.1
  have hM:=hI.1
  exact Zn hE rfl ZF rfl hM.rawAt3 (Flat.len _) fun a hE=>⟨_,_,rfl,hE,M.qKeep hM0 rfl,hI.2.put hD rfl ZN rfl⟩
 ·intro a w ux15 D hE hI hD hdc hp
  have d0 : D 0 = true:=hp 0 _ rfl rfl
  have g0:=hI.2 0 d0 _ rfl
  have f0 : ux15 0 = (Value.agg (enc r9.1).toArray):=g0.2
  have d1 : D 1 = true:=hp 1 _ rfl rfl
  have g1:=hI.2 1 d1 _ rfl
  have f1 : ux15 1 = (Value.agg (enc p2).toArray):=g1.2
  have hM0:=hI.1
  refine Zv hE (ZU (ZR (lk rfl f0) (ZR (lk rfl f1) Xf))) z5 (Uz _ r9.1 p2 r16 e17) ?_
  rintro v w a ⟨rfl,hK⟩ hE
  exact ⟨_,_,rfl,hE,M.qKeep (hM0.keep hK) rfl,hI.2.put hD rfl ZN rfl⟩
 ·intro a w ux15 D hE hI hD hdc hp
  have hM0:=hI.1
  have hM:=hI.1
  exact Zn hE rfl ZF rfl hM.rawAt0 (Flat.len _) fun a hE=>⟨_,_,rfl,hE,M.qKeep hM0 rfl,hI.2.put hD rfl ZN rfl⟩
 ·intro a w ux15 D hE hI hD hdc hp
  have hM0:=hI.1
  have hM:=hI.1
  exact Zn hE rfl ZF rfl hM.rawAt3 (Flat.len _) fun a hE=>⟨_,_,rfl,hE,M.qKeep hM0 rfl,hI.2.put hD rfl ZN rfl⟩
 ·intro a w ux15 D hE hI hD hdc hp
  have d3 : D 3 = true:=hp 0 _ rfl rfl
  have g3:=hI.2 3 d3 _ rfl
  have f3 : ux15 3 = (Value.agg (enc r9.2).toArray):=g3.2
  have d4 : D 4 = true:=hp 1 _ rfl rfl
  have g4:=hI.2 4 d4 _ rfl
  have f4 : ux15 4 = (Value.agg (enc p2).toArray):=g4.2
  have hM0:=hI.1
  refine Zv hE (ZU (ZR (lk rfl f3) (ZR (lk rfl f4) Xf))) z5 (Uz _ r9.2 p2 r18 e19) ?_
  rintro v w a ⟨rfl,hK⟩ hE
  exact ⟨_,_,rfl,hE,M.qKeep (hM0.keep hK) rfl,hI.2.put hD rfl ZN rfl⟩
 ·intro a w ux15 D hE hI hD hdc hp
  have hM0:=hI.1
  have hM:=hI.1
  refine Zz hE hM ZF ?_; intro b20 w a hM hE
  have hM:=hM.pack1 (it:=UI _ (enc (Vector.replicate 16 (0 : UInt8)))) (fun w w' fp ⟨b',e,k⟩ hb=>⟨b',e,XQ w w' fp k hb⟩) (fun fp k=>⟨_,rfl,k⟩)
  exact ⟨_,_,rfl,hE,M.qFill (mk1:=[]) (mk2:=[_]) (f:=fun v=>UI v (enc (Vector.replicate 16 (0 : UInt8)))) hM rfl hD,hI.2.put hD rfl ZN trivial⟩
 ·intro a w ux15 D hE hI hD hdc hp
  have hM0:=hI.1
  have hM:=hI.1
  refine Zz hE hM ZF ?_; intro b22 w a hM hE
  have hM:=hM.pack1 (it:=UI _ (enc (Vector.replicate 16 (0 : UInt8)))) (fun w w' fp ⟨b',e,k⟩ hb=>⟨b',e,XQ w w' fp k hb⟩) (fun fp k=>⟨_,rfl,k⟩)
  exact ⟨_,_,rfl,hE,M.qFill (mk1:=[_]) (mk2:=[]) (f:=fun v=>UI v (enc (Vector.replicate 16 (0 : UInt8)))) hM rfl hD,hI.2.put hD rfl ZN trivial⟩
 ·intro a w ux15 D hE hI hall
  have hM : M (Old w0) w0 w [raw b13 (enc r9.2),raw b11 (enc r9.1),raw b7 (enc (Vector.replicate 32 (0 : UInt8))),raw b5 (enc p2),raw b3 (enc p1),raw b1 (cat [[vI p0.Field],enc p0.Box,enc p0.Mix,enc p0.Places,[vI p0.Rounds]]),opt (D 6) (UI (ux15 6) (enc (Vector.replicate 16 (0 : UInt8)))),opt (D 7) (UI (ux15 7) (enc (Vector.replicate 16 (0 : UInt8))))]:=hI.1
  have d0:=hall 0 (by decide)
  have d1:=hall 1 (by decide)
  have d2:=hall 2 (by decide)
  have d3:=hall 3 (by decide)
  have d4:=hall 4 (by decide)
  have d5:=hall 5 (by decide)
  have d6:=hall 6 (by decide)
  have d7:=hall 7 (by decide)
  have f0 : ux15 0 = (Value.agg (enc r9.1).toArray):=(hI.2 0 d0 _ rfl).2
  have f1 : ux15 1 = (Value.agg (enc p2).toArray):=(hI.2 1 d1 _ rfl).2
  have f2 : ux15 2 = (Value.agg (enc r16).toArray):=(hI.2 2 d2 _ rfl).2
  have f3 : ux15 3 = (Value.agg (enc r9.2).toArray):=(hI.2 3 d3 _ rfl).2
  have f4 : ux15 4 = (Value.agg (enc p2).toArray):=(hI.2 4 d4 _ rfl).2
  have f5 : ux15 5 = (Value.agg (enc r18).toArray):=(hI.2 5 d5 _ rfl).2
  have hM:=(hM.sure (pre:=[_,_,_,_,_,_]) d6).pull
  obtain ⟨_,⟨b24,f25,_⟩,_⟩:=hM.head
  have hM:=((hM.pack1 XQ (it:=raw b24 (enc (Vector.replicate 16 (0 : UInt8)))) (fun fp ⟨b2,e2,k2⟩=>by rw [f25] at e2; simp [ptr] at e2; subst e2; exact k2)).sure (pre:=[_,_,_,_,_,_,_]) d7).pull
  obtain ⟨_,⟨b26,f27,_⟩,_⟩:=hM.head
  have hM:=hM.pack1 XQ (it:=raw b26 (enc (Vector.replicate 16 (0 : UInt8)))) (fun fp ⟨b2,e2,k2⟩=>by rw [f27] at e2; simp [ptr] at e2; subst e2; exact k2)
  have hE:=hE.sub (e':=[(22,(Value.agg (enc r16).toArray)),(25,(Value.agg (enc r18).toArray)),(9,(ptr b24 0)),(10,(ptr b26 0)),(3,(ptr b1 0)),(6,(ptr b7 0)),(8,(ptr b13 0))]) ⟨lk rfl f2,lk rfl f5,lk rfl f25,lk rfl f27,rfl,rfl,rfl,trivial⟩
  have hM:=hM.pull1
  refine Zo (seg:=enc r16) (cs':=enc r16) hE hM Zd rfl rfl rfl ZF (Flat.len _) (zle flq) (Flat.cell _) (Zr flq) ?_; intro w a hM hE
  have hM:=hM.pull1
  refine Zo (seg:=enc r18) (cs':=enc r18) hE hM Zd rfl rfl rfl ZF (Flat.len _) (zle flq) (Flat.cell _) (Zr flq) fun w a hM hE=>Zj (Zy (wp_seq ?_))
  obtain ⟨r29,e30,hF⟩:=bind_some hF
  obtain ⟨r31,e32,hF⟩:=bind_some hF
  refine TU (n:=59) (hd:=[_,_,_,_,_,_,_,_,_]) (tl:=[_]) Yx rfl rfl [26,27,28,29,30,31,32,33,11] (by decide) (fun D u w=>M (Old w0) w0 w ([raw b26 (enc r18),raw b24 (enc r16),raw b13 (enc r9.2),raw b11 (enc r9.1),raw b7 (enc (Vector.replicate 32 (0 : UInt8))),raw b5 (enc p2),raw b3 (enc p1),raw b1 (cat [[vI p0.Field],enc p0.Box,enc p0.Mix,enc p0.Places,[vI p0.Rounds]])] ++ qL ([mkO 8 (fun v=>UI v (enc (Vector.replicate 16 (0 : UInt8))))] : Mk) D u) ∧ GOk ([([],fun us v=>v = (Value.agg (enc p0).toArray)),([],fun us v=>v = (Value.agg (enc r9.2).toArray)),([],fun us v=>v = (Value.agg (enc r16).toArray)),([],fun us v=>v = (ptr b1 (0 + 289))),([],fun us v=>v = (vI p0.Rounds)),([],fun us v=>v = (Value.agg (enc r29).toArray)),([],fun us v=>v = (Value.agg (enc r16).toArray)),([],fun us v=>v = (Value.agg (enc r31).toArray)),([],fun us v=>True)] : Gs) D u) hE (fun u=>⟨M.qE (M.q0 hM.drew u) emO,Ae⟩) (st9 ?_ ?_ ?_ ?_ ?_ ?_ ?_ ?_ ?_) ?_
  ·intro a w ux28 D hE hI hD hdc hp
   have hM0:=hI.1
   have hM:=hI.1
   exact Zn hE rfl Te rfl hM.rawAt7 cq fun a hE=>⟨_,_,rfl,hE,M.qKeep hM0 rfl,hI.2.put hD rfl ZN rfl⟩
  ·intro a w ux28 D hE hI hD hdc hp
   have hM0:=hI.1
   have hM:=hI.1
   exact Zn hE rfl ZF rfl hM.rawAt2 (Flat.len _) fun a hE=>⟨_,_,rfl,hE,M.qKeep hM0 rfl,hI.2.put hD rfl ZN rfl⟩
  ·intro a w ux28 D hE hI hD hdc hp
   have hM0:=hI.1
   have hM:=hI.1
   exact Zn hE rfl ZF rfl hM.rawAt1 (Flat.len _) fun a hE=>⟨_,_,rfl,hE,M.qKeep hM0 rfl,hI.2.put hD rfl ZN rfl⟩
  ·intro a w ux28 D hE hI hD hdc hp
   have hM0:=hI.1
   exact Zg hE rfl (Jj) fun a hE=>⟨_,_,rfl,hE,M.qKeep hM0 rfl,hI.2.put hD rfl ZN rfl⟩
  ·intro a w ux28 D hE hI hD hdc hp
   have d3 : D 3 = true:=hp 0 _ rfl rfl
   have g3:=hI.2 3 d3 _ rfl
   have f3 : ux28 3 = (ptr b1 (0 + 289)):=g3.2
   have hM0:=hI.1
   have hM:=hI.1
   exact Zx (v:=(vI p0.Rounds)) hE (lk rfl f3) ty2 rfl (At.cat (pre:=[[vI p0.Field],enc p0.Box,enc p0.Mix,enc p0.Places]) hM.rawAt7 ck) fun a hE=>⟨_,_,rfl,hE,M.qKeep hM0 rfl,hI.2.put hD rfl ZN rfl⟩
  ·intro a w ux28 D hE hI hD hdc hp
   have d0 : D 0 = true:=hp 0 _ rfl rfl
   have g0:=hI.2 0 d0 _ rfl
   have f0 : ux28 0 = (Value.agg (enc p0).toArray):=g0.2
   have d1 : D 1 = true:=hp 1 _ rfl rfl
   have g1:=hI.2 1 d1 _ rfl
   have f1 : ux28 1 = (Value.agg (enc r9.2).toArray):=g1.2
   have d2 : D 2 = true:=hp 2 _ rfl rfl
   have g2:=hI.2 2 d2 _ rfl
   have f2 : ux28 2 = (Value.agg (enc r16).toArray):=g2.2
   have d4 : D 4 = true:=hp 3 _ rfl rfl
   have g4:=hI.2 4 d4 _ rfl
   have f4 : ux28 4 = (vI p0.Rounds):=g4.2
   have hM0:=hI.1
   refine Zv hE (ZU (ZR (lk rfl f0) (ZR (lk rfl f1) (ZR (lk rfl f2) (ZR (lk rfl f4) Xf))))) (cbm Tryz.func168) (Q5 _ p0 r9.2 r16 p0.Rounds r29 e30) ?_
   rintro v w a ⟨rfl,hK⟩ hE
   exact ⟨_,_,rfl,hE,M.qKeep (hM0.keep hK) rfl,hI.2.put hD rfl ZN rfl⟩
  ·intro a w ux28 D hE hI hD hdc hp
   have hM0:=hI.1
   have hM:=hI.1
   exact Zn hE rfl ZF rfl hM.rawAt1 (Flat.len _) fun a hE=>⟨_,_,rfl,hE,M.qKeep hM0 rfl,hI.2.put hD rfl ZN rfl⟩
  ·intro a w ux28 D hE hI hD hdc hp
   have d5 : D 5 = true:=hp 0 _ rfl rfl
   have g5:=hI.2 5 d5 _ rfl
   have f5 : ux28 5 = (Value.agg (enc r29).toArray):=g5.2
   have d6 : D 6 = true:=hp 1 _ rfl rfl
   have g6:=hI.2 6 d6 _ rfl
   have f6 : ux28 6 = (Value.agg (enc r16).toArray):=g6.2
   have hM0:=hI.1
   refine Zv hE (ZU (ZR (lk rfl f5) (ZR (lk rfl f6) Xf))) z5 (Uz _ r29 r16 r31 e32) ?_
   rintro v w a ⟨rfl,hK⟩ hE
   exact ⟨_,_,rfl,hE,M.qKeep (hM0.keep hK) rfl,hI.2.put hD rfl ZN rfl⟩
  ·intro a w ux28 D hE hI hD hdc hp
   have hM0:=hI.1
   have hM:=hI.1
   refine Zz hE hM ZF ?_; intro b33 w a hM hE
   have hM:=hM.pack1 (it:=UI _ (enc (Vector.replicate 16 (0 : UInt8)))) (fun w w' fp ⟨b',e,k⟩ hb=>⟨b',e,XQ w w' fp k hb⟩) (fun fp k=>⟨_,rfl,k⟩)
   exact ⟨_,_,rfl,hE,M.qFill (mk1:=[]) (mk2:=[]) (f:=fun v=>UI v (enc (Vector.replicate 16 (0 : UInt8)))) hM rfl hD,hI.2.put hD rfl ZN trivial⟩
  ·intro a w ux28 D hE hI hall
   have hM : M (Old w0) w0 w [raw b26 (enc r18),raw b24 (enc r16),raw b13 (enc r9.2),raw b11 (enc r9.1),raw b7 (enc (Vector.replicate 32 (0 : UInt8))),raw b5 (enc p2),raw b3 (enc p1),raw b1 (cat [[vI p0.Field],enc p0.Box,enc p0.Mix,enc p0.Places,[vI p0.Rounds]]),opt (D 8) (UI (ux28 8) (enc (Vector.replicate 16 (0 : UInt8))))]:=hI.1
   have d0:=hall 0 (by decide)
   have d1:=hall 1 (by decide)
   have d2:=hall 2 (by decide)
   have d3:=hall 3 (by decide)
   have d4:=hall 4 (by decide)
   have d5:=hall 5 (by decide)
   have d6:=hall 6 (by decide)
   have d7:=hall 7 (by decide)
   have d8:=hall 8 (by decide)
   have f0 : ux28 0 = (Value.agg (enc p0).toArray):=(hI.2 0 d0 _ rfl).2
   have f1 : ux28 1 = (Value.agg (enc r9.2).toArray):=(hI.2 1 d1 _ rfl).2
   have f2 : ux28 2 = (Value.agg (enc r16).toArray):=(hI.2 2 d2 _ rfl).2
   have f3 : ux28 3 = (ptr b1 (0 + 289)):=(hI.2 3 d3 _ rfl).2
   have f4 : ux28 4 = (vI p0.Rounds):=(hI.2 4 d4 _ rfl).2
   have f5 : ux28 5 = (Value.agg (enc r29).toArray):=(hI.2 5 d5 _ rfl).2
   have f6 : ux28 6 = (Value.agg (enc r16).toArray):=(hI.2 6 d6 _ rfl).2
   have f7 : ux28 7 = (Value.agg (enc r31).toArray):=(hI.2 7 d7 _ rfl).2
   have hM:=(hM.sure (pre:=[_,_,_,_,_,_,_,_]) d8).pull
   obtain ⟨_,⟨b35,f36,_⟩,_⟩:=hM.head
   have hM:=hM.pack1 XQ (it:=raw b35 (enc (Vector.replicate 16 (0 : UInt8)))) (fun fp ⟨b2,e2,k2⟩=>by rw [f36] at e2; simp [ptr] at e2; subst e2; exact k2)
   have hE:=hE.sub (e':=[(33,(Value.agg (enc r31).toArray)),(11,(ptr b35 0)),(3,(ptr b1 0)),(6,(ptr b7 0)),(10,(ptr b26 0))]) ⟨lk rfl f7,lk rfl f36,rfl,rfl,rfl,trivial⟩
   refine Zo (seg:=enc r31) (cs':=enc r31) hE hM Zd rfl rfl rfl ZF (Flat.len _) (zle flq) (Flat.cell _) (Zr flq) fun w a hM hE=>Zj (Zy (wp_seq ?_))
   obtain ⟨r38,e39,hF⟩:=bind_some hF
   obtain ⟨r40,e41,hF⟩:=bind_some hF
   refine TU (n:=59) (hd:=[_,_,_,_,_,_,_,_,_]) (tl:=[_]) Yx rfl rfl [34,35,36,37,38,39,40,41,12] (by decide) (fun D u w=>M (Old w0) w0 w ([raw b35 (enc r31),raw b26 (enc r18),raw b24 (enc r16),raw b13 (enc r9.2),raw b11 (enc r9.1),raw b7 (enc (Vector.replicate 32 (0 : UInt8))),raw b5 (enc p2),raw b3 (enc p1),raw b1 (cat [[vI p0.Field],enc p0.Box,enc p0.Mix,enc p0.Places,[vI p0.Rounds]])] ++ qL ([mkO 8 (fun v=>UI v (enc (Vector.replicate 16 (0 : UInt8))))] : Mk) D u) ∧ GOk ([([],fun us v=>v = (Value.agg (enc p0).toArray)),([],fun us v=>v = (Value.agg (enc r31).toArray)),([],fun us v=>v = (Value.agg (enc r18).toArray)),([],fun us v=>v = (ptr b1 (0 + 289))),([],fun us v=>v = (vI p0.Rounds)),([],fun us v=>v = (Value.agg (enc r38).toArray)),([],fun us v=>v = (Value.agg (enc r18).toArray)),([],fun us v=>v = (Value.agg (enc r40).toArray)),([],fun us v=>True)] : Gs) D u) hE (fun u=>⟨M.qE (M.q0 hM.drew u) emO,Ae⟩) (st9 ?_ ?_ ?_ ?_ ?_ ?_ ?_ ?_ ?_) ?_
   ·intro a w ux37 D hE hI hD hdc hp
    have hM0:=hI.1
    have hM:=hI.1
    exact Zn hE rfl Te rfl hM.rawAt8 cq fun a hE=>⟨_,_,rfl,hE,M.qKeep hM0 rfl,hI.2.put hD rfl ZN rfl⟩
   ·intro a w ux37 D hE hI hD hdc hp
    have hM0:=hI.1
    have hM:=hI.1
    exact Zn hE rfl ZF rfl hM.rawAt0 (Flat.len _) fun a hE=>⟨_,_,rfl,hE,M.qKeep hM0 rfl,hI.2.put hD rfl ZN rfl⟩
   ·intro a w ux37 D hE hI hD hdc hp
    have hM0:=hI.1
    have hM:=hI.1
    exact Zn hE rfl ZF rfl hM.rawAt1 (Flat.len _) fun a hE=>⟨_,_,rfl,hE,M.qKeep hM0 rfl,hI.2.put hD rfl ZN rfl⟩
   ·intro a w ux37 D hE hI hD hdc hp
    have hM0:=hI.1
    exact Zg hE rfl (Jj) fun a hE=>⟨_,_,rfl,hE,M.qKeep hM0 rfl,hI.2.put hD rfl ZN rfl⟩
   ·intro a w ux37 D hE hI hD hdc hp
    have d3 : D 3 = true:=hp 0 _ rfl rfl
    have g3:=hI.2 3 d3 _ rfl
    have f3 : ux37 3 = (ptr b1 (0 + 289)):=g3.2
    have hM0:=hI.1
    have hM:=hI.1
    exact Zx (v:=(vI p0.Rounds)) hE (lk rfl f3) ty2 rfl (At.cat (pre:=[[vI p0.Field],enc p0.Box,enc p0.Mix,enc p0.Places]) hM.rawAt8 ck) fun a hE=>⟨_,_,rfl,hE,M.qKeep hM0 rfl,hI.2.put hD rfl ZN rfl⟩
   ·intro a w ux37 D hE hI hD hdc hp
    have d0 : D 0 = true:=hp 0 _ rfl rfl
    have g0:=hI.2 0 d0 _ rfl
    have f0 : ux37 0 = (Value.agg (enc p0).toArray):=g0.2
    have d1 : D 1 = true:=hp 1 _ rfl rfl
    have g1:=hI.2 1 d1 _ rfl
    have f1 : ux37 1 = (Value.agg (enc r31).toArray):=g1.2
    have d2 : D 2 = true:=hp 2 _ rfl rfl
    have g2:=hI.2 2 d2 _ rfl
    have f2 : ux37 2 = (Value.agg (enc r18).toArray):=g2.2
    have d4 : D 4 = true:=hp 3 _ rfl rfl
    have g4:=hI.2 4 d4 _ rfl
    have f4 : ux37 4 = (vI p0.Rounds):=g4.2
    have hM0:=hI.1
    refine Zv hE (ZU (ZR (lk rfl f0) (ZR (lk rfl f1) (ZR (lk rfl f2) (ZR (lk rfl f4) Xf))))) (cbm Tryz.func168) (Q5 _ p0 r31 r18 p0.Rounds r38 e39) ?_
    rintro v w a ⟨rfl,hK⟩ hE
    exact ⟨_,_,rfl,hE,M.qKeep (hM0.keep hK) rfl,hI.2.put hD rfl ZN rfl⟩
   ·intro a w ux37 D hE hI hD hdc hp
    have hM0:=hI.1
    have hM:=hI.1
    exact Zn hE rfl ZF rfl hM.rawAt1 (Flat.len _) fun a hE=>⟨_,_,rfl,hE,M.qKeep hM0 rfl,hI.2.put hD rfl ZN rfl⟩
   ·intro a w ux37 D hE hI hD hdc hp
    have d5 : D 5 = true:=hp 0 _ rfl rfl
    have g5:=hI.2 5 d5 _ rfl
    have f5 : ux37 5 = (Value.agg (enc r38).toArray):=g5.2
    have d6 : D 6 = true:=hp 1 _ rfl rfl
    have g6:=hI.2 6 d6 _ rfl
    have f6 : ux37 6 = (Value.agg (enc r18).toArray):=g6.2
    have hM0:=hI.1
    refine Zv hE (ZU (ZR (lk rfl f5) (ZR (lk rfl f6) Xf))) z5 (Uz _ r38 r18 r40 e41) ?_
    rintro v w a ⟨rfl,hK⟩ hE
    exact ⟨_,_,rfl,hE,M.qKeep (hM0.keep hK) rfl,hI.2.put hD rfl ZN rfl⟩
   ·intro a w ux37 D hE hI hD hdc hp
    have hM0:=hI.1
    have hM:=hI.1
    refine Zz hE hM ZF ?_; intro b42 w a hM hE
    have hM:=hM.pack1 (it:=UI _ (enc (Vector.replicate 16 (0 : UInt8)))) (fun w w' fp ⟨b',e,k⟩ hb=>⟨b',e,XQ w w' fp k hb⟩) (fun fp k=>⟨_,rfl,k⟩)
    exact ⟨_,_,rfl,hE,M.qFill (mk1:=[]) (mk2:=[]) (f:=fun v=>UI v (enc (Vector.replicate 16 (0 : UInt8)))) hM rfl hD,hI.2.put hD rfl ZN trivial⟩
   ·intro a w ux37 D hE hI hall
    have hM : M (Old w0) w0 w [raw b35 (enc r31),raw b26 (enc r18),raw b24 (enc r16),raw b13 (enc r9.2),raw b11 (enc r9.1),raw b7 (enc (Vector.replicate 32 (0 : UInt8))),raw b5 (enc p2),raw b3 (enc p1),raw b1 (cat [[vI p0.Field],enc p0.Box,enc p0.Mix,enc p0.Places,[vI p0.Rounds]]),opt (D 8) (UI (ux37 8) (enc (Vector.replicate 16 (0 : UInt8))))]:=hI.1
    have d0:=hall 0 (by decide)
    have d1:=hall 1 (by decide)
    have d2:=hall 2 (by decide)
    have d3:=hall 3 (by decide)
    have d4:=hall 4 (by decide)
    have d5:=hall 5 (by decide)
    have d6:=hall 6 (by decide)
    have d7:=hall 7 (by decide)
    have d8:=hall 8 (by decide)
    have f0 : ux37 0 = (Value.agg (enc p0).toArray):=(hI.2 0 d0 _ rfl).2
    have f1 : ux37 1 = (Value.agg (enc r31).toArray):=(hI.2 1 d1 _ rfl).2
    have f2 : ux37 2 = (Value.agg (enc r18).toArray):=(hI.2 2 d2 _ rfl).2
    have f3 : ux37 3 = (ptr b1 (0 + 289)):=(hI.2 3 d3 _ rfl).2
    have f4 : ux37 4 = (vI p0.Rounds):=(hI.2 4 d4 _ rfl).2
    have f5 : ux37 5 = (Value.agg (enc r38).toArray):=(hI.2 5 d5 _ rfl).2
    have f6 : ux37 6 = (Value.agg (enc r18).toArray):=(hI.2 6 d6 _ rfl).2
    have f7 : ux37 7 = (Value.agg (enc r40).toArray):=(hI.2 7 d7 _ rfl).2
    have hM:=(hM.sure (pre:=[_,_,_,_,_,_,_,_,_]) d8).pull
    obtain ⟨_,⟨b44,f45,_⟩,_⟩:=hM.head
    have hM:=hM.pack1 XQ (it:=raw b44 (enc (Vector.replicate 16 (0 : UInt8)))) (fun fp ⟨b2,e2,k2⟩=>by rw [f45] at e2; simp [ptr] at e2; subst e2; exact k2)
    have hE:=hE.sub (e':=[(41,(Value.agg (enc r40).toArray)),(12,(ptr b44 0)),(6,(ptr b7 0)),(11,(ptr b35 0))]) ⟨lk rfl f7,lk rfl f45,rfl,rfl,trivial⟩
    refine Zo (seg:=enc r40) (cs':=enc r40) hE hM Zd rfl rfl rfl ZF (Flat.len _) (zle flq) (Flat.cell _) (Zr flq) fun w a hM hE=>Zj (Zy (Za (YU (parts:=[]) (vs:=[]) (cs:=enc (Vector.replicate 32 (0 : UInt8))) hE Zd ld rfl rfl Yr rfl ty5 Yu fun a hE=>Zz hE hM Yr fun b46 w a hM hE=>Zo (seg:=enc (Vector.replicate 32 (0 : UInt8))) (cs':=enc (Vector.replicate 32 (0 : UInt8))) hE hM Zd rfl rfl rfl Yr (Flat.len _) (zle flq) (Flat.cell _) (Zr flq) fun w a hM hE=>Zf (wp_seq (Za (Zb hE rfl fun a hE=>Zf ?_))))))
    obtain ⟨j48,hl49,hF50⟩:=bind_some hF
    refine ZJ (fun a w=>Env 59 a [(6,(ptr b7 0)),(13,(ptr b46 0))] ∧ M (Old w0) w0 w [raw b46 (enc j48),raw b7 (enc (Vector.replicate 32 (0 : UInt8)))]) ?_ ?_
    ·skip
     refine wp_block ?_
     have hM:=M.fst (l:=[_,_,_,_]) hM.pull7.pull3.pull3.pull3
     refine ZE (fun (s51 : (Vector UInt8 32) × Int) a w=>Env 59 a [(6,(ptr b7 0)),(11,(ptr b35 0)),(12,(ptr b44 0)),(13,(ptr b46 0)),(14,vI s51.2)] ∧ M (Old w0) w0 w [raw b46 (enc s51.1),raw b44 (enc r40),raw b35 (enc r31),raw b7 (enc (Vector.replicate 32 (0 : UInt8)))]) hl49 ⟨hE.sub ⟨rfl,rfl,rfl,rfl,rfl,trivial⟩,hM⟩ ?_
     rintro s51 a w ⟨hE,hM⟩ o54 hs52 hx53
     unfold Wb at hs52
     refine wp_seq (Za (Ze hE rfl fun a hE=>Zk hE rfl rfl rfl fun a hE=>Zf ?_))
     refine Zq hE rfl ?_ ?_
     ·intro hb55
      have hs52:=Zu hs52 hb55
      refine wp_skip (Zy (wp_seq (wp_block (Za (Ze hE rfl fun a hE=>Ze hE rfl ?_))))); intro a hE
      obtain ⟨x57,hi56,hs52⟩:=bvx hs52
      refine Zm hE rfl rfl Tryz.underlying31 ty5 hi56.1 fun a hE=>Zx (v:=(vB x57)) hE rfl ty5 rfl (At.vec hM.rawAt2 hi56.2) ?_; intro a hE
      obtain ⟨x60,hi59,hs52⟩:=bvx hs52
      refine Zm hE rfl rfl Tryz.underlying37 ty5 hi59.1 fun a hE=>Zo (seg:=[vB x57]) (cs':=enc (s51.1.setIfInBounds (s51.2).toNat x57)) hE hM Zd rfl rfl rfl ty5 rfl (ZH (v:=s51.1) (x:=x57) hi59.1) (Flat.cell (x57 : UInt8)) (ZA (v:=s51.1) (x:=x57) hi59.1) fun w a hM hE=>Zf (wp_region_lit (Ze hE rfl fun a hE=>Zk hE rfl rfl rfl fun a hE=>Ze hE rfl ?_)); intro a hE
      obtain ⟨x63,hi62,hs52⟩:=bvx hs52
      refine Zm hE rfl rfl Tryz.underlying31 ty5 hi62.1 fun a hE=>Zx (v:=(vB x63)) hE rfl ty5 rfl (At.vec hM.rawAt1 hi62.2) ?_; intro a hE
      obtain ⟨x66,hi65,hs52⟩:=bvx hs52
      refine Zm hE rfl rfl Tryz.underlying37 ty5 hi65.1 fun a hE=>Zo (seg:=[vB x63]) (cs':=enc ((s51.1.setIfInBounds (s51.2).toNat x57).setIfInBounds ((wr (16 + s51.2))).toNat x63)) hE hM Zd rfl rfl rfl ty5 rfl (ZH (v:=(s51.1.setIfInBounds (s51.2).toNat x57)) (x:=x63) hi65.1) (Flat.cell (x63 : UInt8)) (ZA (v:=(s51.1.setIfInBounds (s51.2).toNat x57)) (x:=x63) hi65.1) fun w a hM hE=>Zj (Z0 (Zy (wp_region_lit (Ze hE rfl fun a hE=>Zk hE rfl rfl rfl fun a hE=>Zb hE rfl fun a hE=>Zj (Zl ?_)))))
      exact ⟨_,(ois hs52),hE.sub ⟨rfl,rfl,rfl,rfl,rfl,trivial⟩,hM⟩
     ·intro hb55
      have hs52:=Zt hs52 hb55
      refine wp_exit (Zp (Zp (Z1 ?_)))
      obtain rfl:=hx53 _ (ois hs52)
      refine Zl ?_
      have hM:=M.fst (l:=[_,_]) hM.pull3.pull1
      exact ⟨hE.sub ⟨rfl,rfl,trivial⟩,hM⟩
    ·skip
     rintro a w ⟨hE,hM⟩
     refine Zy (Za (Zn hE rfl Yr rfl hM.rawAt0 (Flat.len _) ?_)); intro a hE
     have hM:=hM.pull1
     refine Zo (seg:=enc j48) (cs':=enc j48) hE hM Zd rfl rfl rfl Yr (Flat.len _) (zle flq) (Flat.cell _) (Zr flq) fun w a hM hE=>Zf ?_
     obtain rfl:=Option.some.inj hF50
     have hq69 : Yq Tryz.prog _ _ (.cell 6 37) _:=ZQ hE rfl Yr rfl hM.rawAt0 (Flat.len _) rfl
     exact wp_ret (ZS hE rfl hq69 ⟨_,rfl,rfl,hM.kept⟩)
def Uy (p0 : GCipher) (r8 : (List (Vector UInt8 16))) (s18 : (Vector UInt8 32) × Int) : Option (Fl ((Vector UInt8 32) × Int) (Vector UInt8 32)) :=
 if (decide (s18.2 < (r8.length : Int))) = true then ((idx r8 s18.2).bind fun x24=>(Wy p0 s18.1 x24).bind fun r27=>some (Fl.nx (r27,wr (s18.2 + 1)))) else (some (Fl.ex s18.1))
def Ql (p0 : GCipher) (p1 : (List UInt8)) : Option ((Vector UInt8 32)) :=
 (TK p1).bind fun r5=>(VO r5).bind fun r8=>(Uj).bind fun r11=>(ZD (Uy p0 r8) (r11,0)).bind fun j15=>some j15
theorem yG (w0 : World) (p0 : GCipher) (p1 : (List UInt8)) (v1_1 : Value) (hv1_1 : Ro w0 p1 [v1_1]) (r : (Vector UInt8 32)) (hF : Ql p0 p1 = some r) :
  Calls Tryz.prog 122 [(Value.agg (enc p0).toArray),v1_1].toArray w0 (Rt w0 (Value.agg (enc r).toArray)):=by
 refine ce Tryz.func122 ?_
 intro a hE
 have hM:=M.start w0
 unfold Ql at hF
 refine Za (ZM (cs:=cat [[vI p0.Field],enc p0.Box,enc p0.Mix,enc p0.Places,[vI p0.Rounds]]) hE hM Zd ld rfl rfl fun b1 w a hM hE=>Zz hE hM Yr fun b3 w a hM hE=>Zf (Za (Ze hE rfl ?_))); intro a hE
 obtain ⟨r5,e6,hF⟩:=bind_some hF
 refine Zv hE rfl (cbm Tryz.func149) (zQ _ p1 v1_1 (hM.rdo hv1_1) r5 e6) ?_
 rintro u7 w a ⟨_,rfl,hFr,hK⟩ hE
 have hM:=hM.add hK hFr
 obtain ⟨r8,e9,hF⟩:=bind_some hF
 refine Zv hE rfl (cbm Tryz.func148) (Bi _ r5 u7 (hM.sl (pre:=[]) noB) r8 e9) ?_
 rintro u10 w a ⟨_,rfl,hFr,hK⟩ hE
 have hM:=hM.add hK hFr
 obtain ⟨r11,e12,hF⟩:=bind_some hF
 refine Zv hE rfl (cbm Tryz.func150) (B9 _  r11 e12) ?_
 rintro v w a ⟨rfl,hK⟩ hE
 have hM:=hM.keep hK
 refine Zz hE hM Yr fun b13 w a hM hE=>Zb hE rfl fun a hE=>Zo (seg:=enc r11) (cs':=enc r11) hE hM Zd rfl rfl rfl Yr (Flat.len _) (zle flq) (Flat.cell _) (Zr flq) fun w a hM hE=>Zf (wp_seq (Za (Zb hE rfl fun a hE=>Zf ?_)))
 obtain ⟨j15,hl16,hF17⟩:=bind_some hF
 refine ZJ (fun a w=>Env 26 a [(4,(ptr b3 0)),(6,(ptr b13 0))] ∧ M (Old w0) w0 w [raw b13 (enc j15),raw b3 (enc (Vector.replicate 32 (0 : UInt8)))]) ?_ ?_
 ·skip
  refine wp_block ?_
  have hM:=M.fst (l:=[_,_,_,_]) hM.pull4.pull4.pull3.pull3
  refine ZE (fun (s18 : (Vector UInt8 32) × Int) a w=>Env 26 a [(2,(ptr b1 0)),(4,(ptr b3 0)),(5,u10),(6,(ptr b13 0)),(7,vI s18.2)] ∧ M (Old w0) w0 w [raw b13 (enc s18.1),osl NoB (r8 : List (Vector UInt8 16)) u10,raw b3 (enc (Vector.replicate 32 (0 : UInt8))),raw b1 (cat [[vI p0.Field],enc p0.Box,enc p0.Mix,enc p0.Places,[vI p0.Rounds]])]) hl16 ⟨hE.sub ⟨rfl,rfl,rfl,rfl,rfl,trivial⟩,hM⟩ ?_
  rintro s18 a w ⟨hE,hM⟩ o21 hs19 hx20
  unfold Uy at hs19
  refine wp_seq (Za (Ze hE rfl fun a hE=>Ze hE rfl fun a hE=>ZZ hE rfl Tryz.underlying33 (hM.sl (pre:=[_]) noB) fun a hE=>Zk hE rfl rfl rfl fun a hE=>Zf ?_))
  refine Zq hE rfl ?_ ?_
  ·intro hb22
   have hs19:=Zu hs19 hb22
   refine wp_skip (Zy (wp_seq (wp_block ?_)))
   obtain ⟨x24,hi26,hs19⟩:=bix hs19
   obtain ⟨r27,e28,hs19⟩:=bind_some hs19
   refine ZX (n:=26) (hd:=[_,_,_,_,_,_,_]) (tl:=[_]) Yx rfl rfl [18,19,20,21,22,23,24] (by decide) (fun w=>M (Old w0) w0 w [raw b13 (enc s18.1),osl NoB (r8 : List (Vector UInt8 16)) u10,raw b3 (enc (Vector.replicate 32 (0 : UInt8))),raw b1 (cat [[vI p0.Field],enc p0.Box,enc p0.Mix,enc p0.Places,[vI p0.Rounds]])]) (fun j=>([fun v _=>v = (Value.agg (enc p0).toArray),fun v _=>v = (Value.agg (enc s18.1).toArray),fun v _=>v = u10,fun v _=>v = (vI s18.2),fun v _=>v = (ptr (sb u10) (so u10 + (s18.2).toNat * 16)),fun v _=>v = (Value.agg (enc x24).toArray),fun v _=>v = (Value.agg (enc r27).toArray)] : List (Value → World → Prop)).getD j (fun _ _=>True)) (fun _ _ h hk=>h.keep hk) (gup gu7) hE hM.drew (st7 ?_ ?_ ?_ ?_ ?_ ?_ ?_) ?_
   ·exact fun a w ux23 hE hM hp=>Zn hE rfl Te rfl hM.rawAt3 cq fun a hE=>kq rfl hE rfl
   ·exact fun a w ux23 hE hM hp=>Zn hE rfl Yr rfl hM.rawAt0 (Flat.len _) fun a hE=>kq rfl hE rfl
   ·exact qm
   ·exact qm
   ·intro a w ux23 hE hM hp
    have f2 : ux23 2 = u10:=hp 0 _ rfl rfl
    have f3 : ux23 3 = (vI s18.2):=hp 1 _ rfl rfl
    exact ZK hE (lk rfl f2) (lk rfl f3) Tryz.underlying33 ZF (hM.sl (pre:=[_]) noB) hi26.1 fun a hE=>kq rfl hE rfl
   ·intro a w ux23 hE hM hp
    have f4 : ux23 4 = (ptr (sb u10) (so u10 + (s18.2).toNat * 16)):=hp 0 _ rfl rfl
    exact Zn hE (lk rfl f4) ZF rfl (Ys (hM.sl (pre:=[_]) noB) hi26.2) (Flat.len _) fun a hE=>kq rfl hE rfl
   ·intro a w ux23 hE hM hp
    have f0 : ux23 0 = (Value.agg (enc p0).toArray):=hp 0 _ rfl rfl
    have f1 : ux23 1 = (Value.agg (enc s18.1).toArray):=hp 1 _ rfl rfl
    have f5 : ux23 5 = (Value.agg (enc x24).toArray):=hp 2 _ rfl rfl
    refine Zv hE (ZU (ZR (lk rfl f0) (ZR (lk rfl f1) (ZR (lk rfl f5) Xf)))) (cbm Tryz.func151) (HQ _ p0 s18.1 x24 r27 e28) ?_
    rintro v w a ⟨rfl,hK⟩ hE
    exact ⟨hK,_,_,rfl,hE,rfl⟩
   ·intro a w ux23 hE hM hg
    have hE:=hE.sub (e':=[(24,(Value.agg (enc r27).toArray)),(2,(ptr b1 0)),(4,(ptr b3 0)),(5,u10),(6,(ptr b13 0)),(7,vI s18.2),(12,vI s18.2),(13,u10),(14,(vI (r8.length : Int))),(15,(vT (decide (s18.2 < (r8.length : Int)))))]) ⟨lk rfl (hg 6 (by decide)),rfl,rfl,rfl,rfl,rfl,rfl,rfl,rfl,rfl,trivial⟩
    refine Zo (seg:=enc r27) (cs':=enc r27) hE hM Zd rfl rfl rfl Yr (Flat.len _) (zle flq) (Flat.cell _) (Zr flq) fun w a hM hE=>Zj (Z0 (Zy (wp_region_lit (Ze hE rfl fun a hE=>Zk hE rfl rfl rfl fun a hE=>Zb hE rfl fun a hE=>Zj (Zl ?_)))))
    exact ⟨_,(ois hs19),hE.sub ⟨rfl,rfl,rfl,rfl,rfl,trivial⟩,hM⟩
  ·intro hb22
   have hs19:=Zt hs19 hb22
   refine wp_exit (Zp (Zp (Z1 ?_)))
   obtain rfl:=hx20 _ (ois hs19)
   refine Zl ?_
   have hM:=M.fst (l:=[_,_]) hM.pull2.pull1
   exact ⟨hE.sub ⟨rfl,rfl,trivial⟩,hM⟩
 ·skip
  rintro a w ⟨hE,hM⟩
  refine Zy (Za (Zn hE rfl Yr rfl hM.rawAt0 (Flat.len _) ?_)); intro a hE
  have hM:=hM.pull1
  refine Zo (seg:=enc j15) (cs':=enc j15) hE hM Zd rfl rfl rfl Yr (Flat.len _) (zle flq) (Flat.cell _) (Zr flq) fun w a hM hE=>Zf ?_
  obtain rfl:=Option.some.inj hF17
  have hq30 : Yq Tryz.prog _ _ (.cell 4 37) _:=ZQ hE rfl Yr rfl hM.rawAt0 (Flat.len _) rfl
  exact wp_ret (ZS hE rfl hq30 ⟨_,rfl,rfl,hM.kept⟩)
def Vt (p0 : (List UInt8)) : Option ((Vector UInt8 32)) :=
 (Uo 8).bind fun r3=>(Ql r3 p0).bind fun r5=>some r5
theorem Bd (w0 : World) (p0 : (List UInt8)) (v0_1 : Value) (hv0_1 : Ro w0 p0 [v0_1]) (r : (Vector UInt8 32)) (hF : Vt p0 = some r) :
  Calls Tryz.prog 83 [v0_1].toArray w0 (Rt w0 (Value.agg (enc r).toArray)):=by
 refine ce Tryz.func83 ?_
 intro a hE
 have hM:=M.start w0
 unfold Vt at hF
 refine Za (Zz hE hM Yr fun b1 w a hM hE=>Zf (Za ?_))
 obtain ⟨r3,e4,hF⟩:=bind_some hF
 refine Zv hE rfl (cbm Tryz.func42) (BN _ 8 r3 e4) ?_
 rintro v w a ⟨rfl,hK⟩ hE
 have hM:=hM.keep hK
 refine Ze hE rfl ?_; intro a hE
 obtain ⟨r5,e6,hF⟩:=bind_some hF
 refine Zv hE rfl (cbm Tryz.func122) (yG _ r3 p0 v0_1 (hM.rdo hv0_1) r5 e6) ?_
 rintro v w a ⟨rfl,hK⟩ hE
 have hM:=hM.keep hK
 refine Zo (seg:=enc r5) (cs':=enc r5) hE hM Zd rfl rfl rfl Yr (Flat.len _) (zle flq) (Flat.cell _) (Zr flq) fun w a hM hE=>Zf ?_
 obtain rfl:=Option.some.inj hF
 have hq7 : Yq Tryz.prog _ _ (.cell 2 37) _:=ZQ hE rfl Yr rfl hM.rawAt0 (Flat.len _) rfl
 exact wp_ret (ZS hE rfl hq7 ⟨_,rfl,rfl,hM.kept⟩)
def UA (p0 : GBlobs) (s20 : Int) : Option (Fl Int (Fl Unit Bool)) :=
 if (decide (s20 < (p0.Keys.length : Int))) = true then (((idx p0.Data s20).bind fun x29=>if (decide ((x29.length : Int) > 2000)) = true then (some true) else ((idx p0.Counts s20).bind fun x39=>if (decide (x39 < 1)) = true then (some true) else ((idx p0.Counts s20).bind fun x44=>if (decide (x44 > 1000000)) = true then (some true) else ((idx p0.Data s20).bind fun x49=>(Vt x49).bind fun r57=>(idx p0.Keys s20).bind fun x59=>some (!decide (r57 = x59))))) : Option (Bool)).bind fun j25=>if j25 = true then (some (Fl.ex (Fl.ex false))) else (some (Fl.nx (wr (s20 + 1))))) else (some (Fl.ex (Fl.nx ())))
def Qe (p0 : GBlobs) : Option (Bool) :=
 (if (decide ((p0.Keys.length : Int) > 32)) = true then (some true) else (if ((p0.Data.length : Int) != (p0.Keys.length : Int)) = true then (some true) else (if ((p0.Counts.length : Int) != (p0.Keys.length : Int)) = true then (some true) else ((Wl p0.Keys).bind fun r12=>some (!r12)))) : Option (Bool)).bind fun j3=>if j3 = true then (some false) else ((ZD (UA p0) 0).bind fun j16=>j16.el (fun s19=>some true) (fun r=>some r))
theorem yE (w0 : World) (p0 : GBlobs) (v0_1 : Value) (hv0_1 : Ro w0 p0.Keys [v0_1]) (v0_2 : Value) (hv0_2 : Ro w0 p0.Data [v0_2]) (v0_3 : Value) (hv0_3 : Ro w0 p0.Counts [v0_3]) (r : Bool) (hF : Qe p0 = some r) :
  Calls Tryz.prog 33 [(Value.agg (cat [[v0_1],[v0_2],[v0_3]]).toArray)].toArray w0 (Rt w0 (vT r)):=by
 refine ce Tryz.func33 ?_
 intro a hE
 have hM:=M.start w0
 unfold Qe at hF
 refine Za (ZM (cs:=cat [[v0_1],[v0_2],[v0_3]]) hE hM Zd ld rfl rfl fun b1 w a hM hE=>Zb hE rfl fun a hE=>Zf (Za (Zg hE rfl (Q3) fun a hE=>Zx (v:=v0_1) hE rfl BR rfl (At.cat (pre:=[]) hM.rawAt0 cl0) fun a hE=>ZZ hE rfl Tryz.underlying40 (hM.rd hv0_1) fun a hE=>Zb hE rfl fun a hE=>Zf (wp_seq ?_))))
 obtain ⟨j3,hl4,hF5⟩:=bind_some hF
 refine ZI (fun a w=>Env 72 a [(1,(ptr b1 0)),(3,(vI (p0.Keys.length : Int))),(29,vT j3)] ∧ M (Old w0) w0 w [raw b1 (cat [[v0_1],[v0_2],[v0_3]])]) ?_ ?_
 ·skip
  refine wp_region_lit (Ze hE rfl fun a hE=>Zk hE rfl rfl rfl fun a hE=>Ze hE rfl ?_); intro a hE
  refine Yb (decide ((p0.Keys.length : Int) > 32)) (fun hb6=>?_) (fun hb6=>?_)
  ·have hl4:=Zu hl4 hb6
   refine Zh hE rfl (lkb rfl hb6) rfl (by decide) fun a hE=>Zh hE rfl (lkb rfl hb6) rfl (by decide) fun a hE=>Zh hE rfl (lkb rfl hb6) rfl (by decide) fun a hE=>Zh hE rfl (lkb rfl hb6) rfl (by decide) fun a hE=>Zh hE rfl (lkb rfl hb6) rfl (by decide) fun a hE=>ZG hE (lkb rfl hb6) rfl fun a hE=>Ze hE rfl fun a hE=>Zh hE rfl rfl rfl (by decide) fun a hE=>Zh hE rfl rfl rfl (by decide) fun a hE=>Zh hE rfl rfl rfl (by decide) fun a hE=>Zh hE rfl rfl rfl (by decide) fun a hE=>Zh hE rfl rfl rfl (by decide) ?_; intro a hE
   refine ZG hE rfl rfl fun a hE=>Ze hE rfl fun a hE=>Zh hE rfl rfl rfl (by decide) fun a hE=>Zh hE rfl rfl rfl (by decide) fun a hE=>Zh hE rfl rfl rfl (by decide) fun a hE=>Zh hE rfl rfl rfl (by decide) fun a hE=>ZG hE rfl rfl fun a hE=>Zj ?_
   obtain rfl:=Option.some.inj hl4
   refine Zl ?_
   exact ⟨hE.sub ⟨rfl,rfl,rfl,trivial⟩,hM⟩
  ·have hl4:=Zt hl4 hb6
   refine ZB hE (Zi hE rfl (lkb rfl hb6)) (by decide) rfl (Q8) fun a hE=>ZY (v:=v0_2) hE (Zi hE rfl (lkb rfl hb6)) (by decide) rfl JZ rfl (At.cat (pre:=[[v0_1]]) hM.rawAt0 ck) fun a hE=>TQ hE (Zi hE rfl (lkb rfl hb6)) (by decide) rfl Tryz.underlying41 (hM.rd hv0_2) fun a hE=>Y3 hE (Zi hE rfl (lkb rfl hb6)) (by decide) rfl fun a hE=>Wa hE (Zi hE rfl (lkb rfl hb6)) (by decide) rfl rfl rfl fun a hE=>ZL hE (lkb rfl hb6) rfl fun a hE=>Ze hE rfl ?_; intro a hE
   refine Yb ((p0.Data.length : Int) != (p0.Keys.length : Int)) (fun hb8=>?_) (fun hb8=>?_)
   ·have hl4:=Zu hl4 hb8
    refine Zh hE rfl (lkb rfl hb8) rfl (by decide) fun a hE=>Zh hE rfl (lkb rfl hb8) rfl (by decide) fun a hE=>Zh hE rfl (lkb rfl hb8) rfl (by decide) fun a hE=>Zh hE rfl (lkb rfl hb8) rfl (by decide) fun a hE=>Zh hE rfl (lkb rfl hb8) rfl (by decide) fun a hE=>ZG hE (lkb rfl hb8) rfl fun a hE=>Ze hE rfl fun a hE=>Zh hE rfl rfl rfl (by decide) fun a hE=>Zh hE rfl rfl rfl (by decide) fun a hE=>Zh hE rfl rfl rfl (by decide) fun a hE=>Zh hE rfl rfl rfl (by decide) fun a hE=>ZG hE rfl rfl ?_; intro a hE
    refine Zj ?_
    obtain rfl:=Option.some.inj hl4
    refine Zl ?_
    exact ⟨hE.sub ⟨rfl,rfl,rfl,trivial⟩,hM⟩
   ·have hl4:=Zt hl4 hb8
    refine ZB hE (Zi hE rfl (lkb rfl hb8)) (by decide) rfl (QN) fun a hE=>ZY (v:=v0_3) hE (Zi hE rfl (lkb rfl hb8)) (by decide) rfl JO rfl (At.cat (pre:=[[v0_1],[v0_2]]) hM.rawAt0 ck) fun a hE=>TQ hE (Zi hE rfl (lkb rfl hb8)) (by decide) rfl Tryz.underlying42 (hM.rd hv0_3) fun a hE=>Y3 hE (Zi hE rfl (lkb rfl hb8)) (by decide) rfl fun a hE=>Wa hE (Zi hE rfl (lkb rfl hb8)) (by decide) rfl rfl rfl fun a hE=>ZL hE (lkb rfl hb8) rfl fun a hE=>Ze hE rfl ?_; intro a hE
    refine Yb ((p0.Counts.length : Int) != (p0.Keys.length : Int)) (fun hb10=>?_) (fun hb10=>?_)
    ·have hl4:=Zu hl4 hb10
     refine Zh hE rfl (lkb rfl hb10) rfl (by decide) fun a hE=>Zh hE rfl (lkb rfl hb10) rfl (by decide) fun a hE=>Zh hE rfl (lkb rfl hb10) rfl (by decide) fun a hE=>Zh hE rfl (lkb rfl hb10) rfl (by decide) fun a hE=>ZG hE (lkb rfl hb10) rfl fun a hE=>Zj ?_
     obtain rfl:=Option.some.inj hl4
     refine Zl ?_
     exact ⟨hE.sub ⟨rfl,rfl,rfl,trivial⟩,hM⟩
    ·have hl4:=Zt hl4 hb10
     refine ZB hE (Zi hE rfl (lkb rfl hb10)) (by decide) rfl (Q3) fun a hE=>ZY (v:=v0_1) hE (Zi hE rfl (lkb rfl hb10)) (by decide) rfl BR rfl (At.cat (pre:=[]) hM.rawAt0 cl0) ?_; intro a hE
     obtain ⟨r12,e13,hl4⟩:=bind_some hl4
     refine WL hE (Zi hE rfl (lkb rfl hb10)) (by decide) rfl (cbm Tryz.func82) (JQ _ p0.Keys v0_1 (hM.rdo hv0_1) r12 e13) ?_
     rintro v w a ⟨rfl,hK⟩ hE
     have hM:=hM.keep hK
     refine Jt hE (Zi hE rfl (lkb rfl hb10)) (by decide) rfl fun a hE=>ZL hE (lkb rfl hb10) rfl fun a hE=>Zj ?_
     obtain rfl:=Option.some.inj hl4
     refine Zl ?_
     exact ⟨hE.sub ⟨rfl,rfl,rfl,trivial⟩,hM⟩
 ·skip
  rintro a w ⟨hE,hM⟩
  refine Zq hE rfl ?_ ?_
  ·intro hb15
   have hF5:=Zu hF5 hb15
   refine Za (Zb hE rfl fun a hE=>Zf ?_)
   obtain rfl:=Option.some.inj hF5
   exact wp_ret (Zs (kr1 hE rfl rfl hM.kept))
  ·intro hb15
   have hF5:=Zt hF5 hb15
   refine wp_skip (Zy (wp_seq (Za (Zb hE rfl fun a hE=>Zf ?_))))
   obtain ⟨j16,hl17,hF18⟩:=bind_some hF5
   refine ZJ (fun a w=>∃ s19 : Unit,j16 = Fl.nx s19 ∧ Env 72 a [] ∧ M (Old w0) w0 w []) ?_ ?_
   ·skip
    refine wp_block ?_
    refine ZE (fun (s20 : Int) a w=>Env 72 a [(1,(ptr b1 0)),(3,(vI (p0.Keys.length : Int))),(4,vI s20)] ∧ M (Old w0) w0 w [raw b1 (cat [[v0_1],[v0_2],[v0_3]])]) hl17 ⟨hE.sub ⟨rfl,rfl,rfl,trivial⟩,hM⟩ ?_
    rintro s20 a w ⟨hE,hM⟩ o23 hs21 hx22
    unfold UA at hs21
    refine wp_seq (Za (Ze hE rfl fun a hE=>Ze hE rfl fun a hE=>Zk hE rfl rfl rfl fun a hE=>Zf ?_))
    refine Zq hE rfl ?_ ?_
    ·intro hb24
     have hs21:=Zu hs21 hb24
     refine wp_skip (Zy (wp_seq (wp_block ?_)))
     obtain ⟨j25,hl26,hF27⟩:=bind_some hs21
     refine ZI (fun a w=>Env 72 a [(1,(ptr b1 0)),(3,(vI (p0.Keys.length : Int))),(4,vI s20),(71,vT j25)] ∧ M (Old w0) w0 w [raw b1 (cat [[v0_1],[v0_2],[v0_3]])]) ?_ ?_
     ·skip
      obtain ⟨x29,hi31,hl26⟩:=bix hl26
      obtain ⟨cs32,hs33,hA34⟩:=Vl hv0_2 hi31.2 -- ^
      obtain ⟨u35,rfl⟩:=XL hs33 -- ^
      have h36:=hs33 -- ^
      refine Yb (decide ((x29.length : Int) > 2000)) (fun hb37=>?_) (fun hb37=>?_)
      ·have hl26:=Zu hl26 hb37
       refine ZX (n:=72) (hd:=[_,_,_,_,_,_,_,_,_,_,_,_,_,_,_,_,_,_,_,_,_,_,_,_,_,_,_,_,_,_,_,_,_,_,_,_,_]) (tl:=[]) Yx rfl rfl [35,36,37,38,39,40,41,42,43,44,45,46,47,48,49,50,51,52,53,54,55,56,57,58,59,60,61,62,63,64,65,66,67,68,69,70,71] (by decide) (fun w=>M (Old w0) w0 w [raw b1 (cat [[v0_1],[v0_2],[v0_3]])]) (fun j=>([fun v _=>v = (ptr b1 (0 + 1)),fun v _=>v = v0_2,fun v _=>v = (vI s20),fun v _=>v = (ptr (sb v0_2) (so v0_2 + (s20).toNat * 1)),fun v _=>v = u35,fun v _=>v = (vI (x29.length : Int)),fun v _=>v = (vT (decide ((x29.length : Int) > 2000))),fun v _=>v = (vT (decide ((x29.length : Int) > 2000))),fun v _=>v = undef,fun v _=>v = undef,fun v _=>v = undef,fun v _=>v = undef,fun v _=>v = undef,fun v _=>v = undef,fun v _=>v = (vT true),fun v _=>v = (vT true),fun v _=>v = undef,fun v _=>v = undef,fun v _=>v = undef,fun v _=>v = undef,fun v _=>v = undef,fun v _=>v = undef,fun v _=>v = (vT true),fun v _=>v = (vT true),fun v _=>v = undef,fun v _=>v = undef,fun v _=>v = undef,fun v _=>v = undef,fun v _=>v = undef,fun v _=>v = undef,fun v _=>v = undef,fun v _=>v = undef,fun v _=>v = undef,fun v _=>v = undef,fun v _=>v = undef,fun v _=>v = undef,fun v _=>v = (vT true)] : List (Value → World → Prop)).getD j (fun _ _=>True)) (fun _ _ h hk=>h.keep hk) (gup (Zw (Zw (Zw (Zw (Zw (Zw (Zw (Zw (Zw (Zw (Zw (Zw (Zw (Zw (Zw (Zw (Zw (Zw (Zw (Zw (Zw (Zw (Zw (Zw (Zw (Zw (Zw (Zw (Zw (Zw (Zw (Zw (Zw (Zw (Zw (Zw (Zw Kg)))))))))))))))))))))))))))))))))))))) hE hM.drew (YE (Zc ?_ (Zc ?_ (Zc ?_ (Zc ?_ (Zc ?_ (Zc ?_ (Zc ?_ (Zc ?_ (Zc ?_ (Zc ?_ (Zc ?_ (Zc ?_ (Zc ?_ (Zc ?_ (Zc ?_ (Zc ?_ (Zc ?_ (Zc ?_ (Zc ?_ (Zc ?_ (Zc ?_ (Zc ?_ (Zc ?_ (Zc ?_ (Zc ?_ (Zc ?_ (Zc ?_ (Zc ?_ (Zc ?_ (Zc ?_ (Zc ?_ (Zc ?_ (Zc ?_ (Zc ?_ (Zc ?_ (Zc ?_ (Zc ?_ Yl)))))))))))))))))))))))))))))))))))))) ?_
       ·exact fun a w ux28 hE hM hp=>Zg hE rfl (Q8) fun a hE=>kq rfl hE rfl
       ·intro a w ux28 hE hM hp
        have f0 : ux28 0 = (ptr b1 (0 + 1)):=hp 0 _ rfl rfl
        exact Zx (v:=v0_2) hE (lk rfl f0) JZ rfl (At.cat (pre:=[[v0_1]]) hM.rawAt0 ck) fun a hE=>kq rfl hE rfl
       ·exact qm
       ·intro a w ux28 hE hM hp
        have f1 : ux28 1 = v0_2:=hp 0 _ rfl rfl
        have f2 : ux28 2 = (vI s20):=hp 1 _ rfl rfl
        exact ZK hE (lk rfl f1) (lk rfl f2) Tryz.underlying41 XB (hM.rd hv0_2) hi31.1 fun a hE=>kq rfl hE rfl
       ·intro a w ux28 hE hM hp
        have f3 : ux28 3 = (ptr (sb v0_2) (so v0_2 + (s20).toNat * 1)):=hp 0 _ rfl rfl
        exact Zx (v:=u35) hE (lk rfl f3) XB rfl (hM.atk hA34 (VY hv0_2 hi31.2)) fun a hE=>kq rfl hE rfl
       ·intro a w ux28 hE hM hp
        have f4 : ux28 4 = u35:=hp 0 _ rfl rfl
        exact ZZ hE (lk rfl f4) Tryz.underlying32 (hM.rd h36) fun a hE=>kq rfl hE rfl
       ·intro a w ux28 hE hM hp
        have f5 : ux28 5 = (vI (x29.length : Int)):=hp 0 _ rfl rfl
        exact Zk hE (lk rfl f5) rfl rfl fun a hE=>kq rfl hE rfl
       ·intro a w ux28 hE hM hp
        have f6 : ux28 6 = (vT (decide ((x29.length : Int) > 2000))):=hp 0 _ rfl rfl
        exact Ze hE (lk rfl f6) fun a hE=>kq rfl hE rfl
       ·intro a w ux28 hE hM hp
        have f7 : ux28 7 = (vT (decide ((x29.length : Int) > 2000))):=hp 0 _ rfl rfl
        exact Zh hE rfl (lkb (lk rfl f7) hb37) rfl (by decide) fun a hE=>kq rfl hE rfl
       ·intro a w ux28 hE hM hp
        have f7 : ux28 7 = (vT (decide ((x29.length : Int) > 2000))):=hp 1 _ rfl rfl
        have f8 : ux28 8 = undef:=hp 0 _ rfl rfl
        exact Zh hE rfl (lkb (lk rfl f7) hb37) rfl (by decide) fun a hE=>kq rfl hE rfl
       ·intro a w ux28 hE hM hp
        have f7 : ux28 7 = (vT (decide ((x29.length : Int) > 2000))):=hp 0 _ rfl rfl
        exact Zh hE rfl (lkb (lk rfl f7) hb37) rfl (by decide) fun a hE=>kq rfl hE rfl
       ·intro a w ux28 hE hM hp
        have f7 : ux28 7 = (vT (decide ((x29.length : Int) > 2000))):=hp 2 _ rfl rfl
        have f9 : ux28 9 = undef:=hp 0 _ rfl rfl
        have f10 : ux28 10 = undef:=hp 1 _ rfl rfl
        exact Zh hE rfl (lkb (lk rfl f7) hb37) rfl (by decide) fun a hE=>kq rfl hE rfl
       ·intro a w ux28 hE hM hp
        have f7 : ux28 7 = (vT (decide ((x29.length : Int) > 2000))):=hp 1 _ rfl rfl
        have f11 : ux28 11 = undef:=hp 0 _ rfl rfl
        exact Zh hE rfl (lkb (lk rfl f7) hb37) rfl (by decide) fun a hE=>kq rfl hE rfl
       ·intro a w ux28 hE hM hp
        have f7 : ux28 7 = (vT (decide ((x29.length : Int) > 2000))):=hp 1 _ rfl rfl
        have f12 : ux28 12 = undef:=hp 0 _ rfl rfl
        exact Zh hE rfl (lkb (lk rfl f7) hb37) rfl (by decide) fun a hE=>kq rfl hE rfl
       ·intro a w ux28 hE hM hp
        have f7 : ux28 7 = (vT (decide ((x29.length : Int) > 2000))):=hp 0 _ rfl rfl
        have f13 : ux28 13 = undef:=hp 1 _ rfl rfl
        exact ZG hE (lkb (lk rfl f7) hb37) rfl fun a hE=>kq rfl hE rfl
       ·intro a w ux28 hE hM hp
        have f14 : ux28 14 = (vT true):=hp 0 _ rfl rfl
        exact Ze hE (lk rfl f14) fun a hE=>kq rfl hE rfl
       ·intro a w ux28 hE hM hp
        have f15 : ux28 15 = (vT true):=hp 0 _ rfl rfl
        exact Zh hE rfl (lk rfl f15) rfl (by decide) fun a hE=>kq rfl hE rfl
       ·intro a w ux28 hE hM hp
        have f15 : ux28 15 = (vT true):=hp 1 _ rfl rfl
        have f16 : ux28 16 = undef:=hp 0 _ rfl rfl
        exact Zh hE rfl (lk rfl f15) rfl (by decide) fun a hE=>kq rfl hE rfl
       ·intro a w ux28 hE hM hp
        have f15 : ux28 15 = (vT true):=hp 0 _ rfl rfl
        exact Zh hE rfl (lk rfl f15) rfl (by decide) fun a hE=>kq rfl hE rfl
       ·intro a w ux28 hE hM hp
        have f15 : ux28 15 = (vT true):=hp 2 _ rfl rfl
        have f17 : ux28 17 = undef:=hp 0 _ rfl rfl
        have f18 : ux28 18 = undef:=hp 1 _ rfl rfl
        exact Zh hE rfl (lk rfl f15) rfl (by decide) fun a hE=>kq rfl hE rfl
       ·intro a w ux28 hE hM hp
        have f15 : ux28 15 = (vT true):=hp 1 _ rfl rfl
        have f19 : ux28 19 = undef:=hp 0 _ rfl rfl
        exact Zh hE rfl (lk rfl f15) rfl (by decide) fun a hE=>kq rfl hE rfl
       ·intro a w ux28 hE hM hp
        have f15 : ux28 15 = (vT true):=hp 1 _ rfl rfl
        have f20 : ux28 20 = undef:=hp 0 _ rfl rfl
        exact Zh hE rfl (lk rfl f15) rfl (by decide) fun a hE=>kq rfl hE rfl
       ·intro a w ux28 hE hM hp
        have f15 : ux28 15 = (vT true):=hp 0 _ rfl rfl
        have f21 : ux28 21 = undef:=hp 1 _ rfl rfl
        exact ZG hE (lk rfl f15) rfl fun a hE=>kq rfl hE rfl
       ·intro a w ux28 hE hM hp
        have f22 : ux28 22 = (vT true):=hp 0 _ rfl rfl
        exact Ze hE (lk rfl f22) fun a hE=>kq rfl hE rfl
       ·intro a w ux28 hE hM hp
        have f23 : ux28 23 = (vT true):=hp 0 _ rfl rfl
        exact Zh hE rfl (lk rfl f23) rfl (by decide) fun a hE=>kq rfl hE rfl
       ·intro a w ux28 hE hM hp
        have f23 : ux28 23 = (vT true):=hp 1 _ rfl rfl
        have f24 : ux28 24 = undef:=hp 0 _ rfl rfl
        exact Zh hE rfl (lk rfl f23) rfl (by decide) fun a hE=>kq rfl hE rfl
       ·intro a w ux28 hE hM hp
        have f23 : ux28 23 = (vT true):=hp 0 _ rfl rfl
        exact Zh hE rfl (lk rfl f23) rfl (by decide) fun a hE=>kq rfl hE rfl
       ·intro a w ux28 hE hM hp
        have f23 : ux28 23 = (vT true):=hp 2 _ rfl rfl
        have f25 : ux28 25 = undef:=hp 0 _ rfl rfl
        have f26 : ux28 26 = undef:=hp 1 _ rfl rfl
        exact Zh hE rfl (lk rfl f23) rfl (by decide) fun a hE=>kq rfl hE rfl
       ·intro a w ux28 hE hM hp
        have f23 : ux28 23 = (vT true):=hp 1 _ rfl rfl
        have f27 : ux28 27 = undef:=hp 0 _ rfl rfl
        exact Zh hE rfl (lk rfl f23) rfl (by decide) fun a hE=>kq rfl hE rfl
       ·intro a w ux28 hE hM hp
        have f23 : ux28 23 = (vT true):=hp 1 _ rfl rfl
        have f28 : ux28 28 = undef:=hp 0 _ rfl rfl
        exact Zh hE rfl (lk rfl f23) rfl (by decide) fun a hE=>kq rfl hE rfl
       ·intro a w ux28 hE hM hp
        have f23 : ux28 23 = (vT true):=hp 0 _ rfl rfl
        exact Zh hE rfl (lk rfl f23) rfl (by decide) fun a hE=>kq rfl hE rfl
       ·intro a w ux28 hE hM hp
        have f23 : ux28 23 = (vT true):=hp 1 _ rfl rfl
        have f30 : ux28 30 = undef:=hp 0 _ rfl rfl
        exact Zh hE rfl (lk rfl f23) rfl (by decide) fun a hE=>kq rfl hE rfl
       ·intro a w ux28 hE hM hp
        have f23 : ux28 23 = (vT true):=hp 0 _ rfl rfl
        exact Zh hE rfl (lk rfl f23) rfl (by decide) fun a hE=>kq rfl hE rfl
       ·intro a w ux28 hE hM hp
        have f23 : ux28 23 = (vT true):=hp 2 _ rfl rfl
        have f31 : ux28 31 = undef:=hp 0 _ rfl rfl
        have f32 : ux28 32 = undef:=hp 1 _ rfl rfl
        exact Zh hE rfl (lk rfl f23) rfl (by decide) fun a hE=>kq rfl hE rfl
       ·intro a w ux28 hE hM hp
        have f23 : ux28 23 = (vT true):=hp 1 _ rfl rfl
        have f33 : ux28 33 = undef:=hp 0 _ rfl rfl
        exact Zh hE rfl (lk rfl f23) rfl (by decide) fun a hE=>kq rfl hE rfl
       ·intro a w ux28 hE hM hp
        have f23 : ux28 23 = (vT true):=hp 2 _ rfl rfl
        have f29 : ux28 29 = undef:=hp 0 _ rfl rfl
        have f34 : ux28 34 = undef:=hp 1 _ rfl rfl
        exact Zh hE rfl (lk rfl f23) rfl (by decide) fun a hE=>kq rfl hE rfl
       ·intro a w ux28 hE hM hp
        have f23 : ux28 23 = (vT true):=hp 0 _ rfl rfl
        have f35 : ux28 35 = undef:=hp 1 _ rfl rfl
        exact ZG hE (lk rfl f23) rfl fun a hE=>kq rfl hE rfl
       ·intro a w ux28 hE hM hg
        have hE:=hE.sub (e':=[(71,vT true),(1,(ptr b1 0)),(3,(vI (p0.Keys.length : Int))),(4,vI s20),(30,vI s20),(31,(vI (p0.Keys.length : Int))),(32,(vT (decide (s20 < (p0.Keys.length : Int)))))]) ⟨lk rfl (hg 36 (by decide)),rfl,rfl,rfl,rfl,rfl,rfl,trivial⟩
        refine Zj ?_
        obtain rfl:=Option.some.inj hl26
        refine Zl ?_
        exact ⟨hE.sub ⟨rfl,rfl,rfl,rfl,trivial⟩,hM⟩
      ·have hl26:=Zt hl26 hb37
       obtain ⟨x39,hi41,hl26⟩:=bix hl26
       refine Yb (decide (x39 < 1)) (fun hb42=>?_) (fun hb42=>?_)
       ·have hl26:=Zu hl26 hb42
        refine ZX (n:=72) (hd:=[_,_,_,_,_,_,_,_,_,_,_,_,_,_,_,_,_,_,_,_,_,_,_,_,_,_,_,_,_,_,_,_,_,_,_,_,_]) (tl:=[]) Yx rfl rfl [35,36,37,38,39,40,41,42,43,44,45,46,47,48,49,50,51,52,53,54,55,56,57,58,59,60,61,62,63,64,65,66,67,68,69,70,71] (by decide) (fun w=>M (Old w0) w0 w [raw b1 (cat [[v0_1],[v0_2],[v0_3]])]) (fun j=>([fun v _=>v = (ptr b1 (0 + 1)),fun v _=>v = v0_2,fun v _=>v = (vI s20),fun v _=>v = (ptr (sb v0_2) (so v0_2 + (s20).toNat * 1)),fun v _=>v = u35,fun v _=>v = (vI (x29.length : Int)),fun v _=>v = (vT (decide ((x29.length : Int) > 2000))),fun v _=>v = (vT (decide ((x29.length : Int) > 2000))),fun v _=>v = (ptr b1 (0 + 2)),fun v _=>v = v0_3,fun v _=>v = (vI s20),fun v _=>v = (ptr (sb v0_3) (so v0_3 + (s20).toNat * 1)),fun v _=>v = (vI x39),fun v _=>v = (vT (decide (x39 < 1))),fun v _=>v = (vT (decide (x39 < 1))),fun v _=>v = (vT (decide (x39 < 1))),fun v _=>v = undef,fun v _=>v = undef,fun v _=>v = undef,fun v _=>v = undef,fun v _=>v = undef,fun v _=>v = undef,fun v _=>v = (vT true),fun v _=>v = (vT true),fun v _=>v = undef,fun v _=>v = undef,fun v _=>v = undef,fun v _=>v = undef,fun v _=>v = undef,fun v _=>v = undef,fun v _=>v = undef,fun v _=>v = undef,fun v _=>v = undef,fun v _=>v = undef,fun v _=>v = undef,fun v _=>v = undef,fun v _=>v = (vT true)] : List (Value → World → Prop)).getD j (fun _ _=>True)) (fun _ _ h hk=>h.keep hk) (gup (Zw (Zw (Zw (Zw (Zw (Zw (Zw (Zw (Zw (Zw (Zw (Zw (Zw (Zw (Zw (Zw (Zw (Zw (Zw (Zw (Zw (Zw (Zw (Zw (Zw (Zw (Zw (Zw (Zw (Zw (Zw (Zw (Zw (Zw (Zw (Zw (Zw Kg)))))))))))))))))))))))))))))))))))))) hE hM.drew (YE (Zc ?_ (Zc ?_ (Zc ?_ (Zc ?_ (Zc ?_ (Zc ?_ (Zc ?_ (Zc ?_ (Zc ?_ (Zc ?_ (Zc ?_ (Zc ?_ (Zc ?_ (Zc ?_ (Zc ?_ (Zc ?_ (Zc ?_ (Zc ?_ (Zc ?_ (Zc ?_ (Zc ?_ (Zc ?_ (Zc ?_ (Zc ?_ (Zc ?_ (Zc ?_ (Zc ?_ (Zc ?_ (Zc ?_ (Zc ?_ (Zc ?_ (Zc ?_ (Zc ?_ (Zc ?_ (Zc ?_ (Zc ?_ (Zc ?_ Yl)))))))))))))))))))))))))))))))))))))) ?_
        ·exact fun a w ux28 hE hM hp=>Zg hE rfl (Q8) fun a hE=>kq rfl hE rfl
        ·intro a w ux28 hE hM hp
         have f0 : ux28 0 = (ptr b1 (0 + 1)):=hp 0 _ rfl rfl
         exact Zx (v:=v0_2) hE (lk rfl f0) JZ rfl (At.cat (pre:=[[v0_1]]) hM.rawAt0 ck) fun a hE=>kq rfl hE rfl
        ·exact qm
        ·intro a w ux28 hE hM hp
         have f1 : ux28 1 = v0_2:=hp 0 _ rfl rfl
         have f2 : ux28 2 = (vI s20):=hp 1 _ rfl rfl
         exact ZK hE (lk rfl f1) (lk rfl f2) Tryz.underlying41 XB (hM.rd hv0_2) hi31.1 fun a hE=>kq rfl hE rfl
        ·intro a w ux28 hE hM hp
         have f3 : ux28 3 = (ptr (sb v0_2) (so v0_2 + (s20).toNat * 1)):=hp 0 _ rfl rfl
         exact Zx (v:=u35) hE (lk rfl f3) XB rfl (hM.atk hA34 (VY hv0_2 hi31.2)) fun a hE=>kq rfl hE rfl
        ·intro a w ux28 hE hM hp
         have f4 : ux28 4 = u35:=hp 0 _ rfl rfl
         exact ZZ hE (lk rfl f4) Tryz.underlying32 (hM.rd h36) fun a hE=>kq rfl hE rfl
        ·intro a w ux28 hE hM hp
         have f5 : ux28 5 = (vI (x29.length : Int)):=hp 0 _ rfl rfl
         exact Zk hE (lk rfl f5) rfl rfl fun a hE=>kq rfl hE rfl
        ·intro a w ux28 hE hM hp
         have f6 : ux28 6 = (vT (decide ((x29.length : Int) > 2000))):=hp 0 _ rfl rfl
         exact Ze hE (lk rfl f6) fun a hE=>kq rfl hE rfl
        ·intro a w ux28 hE hM hp
         have f7 : ux28 7 = (vT (decide ((x29.length : Int) > 2000))):=hp 0 _ rfl rfl
         exact ZB hE (Zi hE rfl (lkb (lk rfl f7) hb37)) (by decide) rfl (QN) fun a hE=>kq rfl hE rfl
        ·intro a w ux28 hE hM hp
         have f7 : ux28 7 = (vT (decide ((x29.length : Int) > 2000))):=hp 1 _ rfl rfl
         have f8 : ux28 8 = (ptr b1 (0 + 2)):=hp 0 _ rfl rfl
         exact ZY (v:=v0_3) hE (Zi hE rfl (lkb (lk rfl f7) hb37)) (by decide) (lk rfl f8) JO rfl (At.cat (pre:=[[v0_1],[v0_2]]) hM.rawAt0 ck) fun a hE=>kq rfl hE rfl
        ·intro a w ux28 hE hM hp
         have f7 : ux28 7 = (vT (decide ((x29.length : Int) > 2000))):=hp 0 _ rfl rfl
         exact Y3 hE (Zi hE rfl (lkb (lk rfl f7) hb37)) (by decide) rfl fun a hE=>kq rfl hE rfl
        ·intro a w ux28 hE hM hp
         have f7 : ux28 7 = (vT (decide ((x29.length : Int) > 2000))):=hp 2 _ rfl rfl
         have f9 : ux28 9 = v0_3:=hp 0 _ rfl rfl
         have f10 : ux28 10 = (vI s20):=hp 1 _ rfl rfl
         exact V3 hE (Zi hE rfl (lkb (lk rfl f7) hb37)) (by decide) (lk rfl f9) (lk rfl f10) Tryz.underlying42 ty2 (hM.rd hv0_3) hi41.1 fun a hE=>kq rfl hE rfl
        ·intro a w ux28 hE hM hp
         have f7 : ux28 7 = (vT (decide ((x29.length : Int) > 2000))):=hp 1 _ rfl rfl
         have f11 : ux28 11 = (ptr (sb v0_3) (so v0_3 + (s20).toNat * 1)):=hp 0 _ rfl rfl
         exact ZY (v:=(vI x39)) hE (Zi hE rfl (lkb (lk rfl f7) hb37)) (by decide) (lk rfl f11) ty2 rfl (Ys (hM.rd hv0_3) hi41.2) fun a hE=>kq rfl hE rfl
        ·intro a w ux28 hE hM hp
         have f7 : ux28 7 = (vT (decide ((x29.length : Int) > 2000))):=hp 1 _ rfl rfl
         have f12 : ux28 12 = (vI x39):=hp 0 _ rfl rfl
         exact Wa hE (Zi hE rfl (lkb (lk rfl f7) hb37)) (by decide) (lk rfl f12) rfl rfl fun a hE=>kq rfl hE rfl
        ·intro a w ux28 hE hM hp
         have f7 : ux28 7 = (vT (decide ((x29.length : Int) > 2000))):=hp 0 _ rfl rfl
         have f13 : ux28 13 = (vT (decide (x39 < 1))):=hp 1 _ rfl rfl
         exact ZL hE (lkb (lk rfl f7) hb37) (lk rfl f13) fun a hE=>kq rfl hE rfl
        ·intro a w ux28 hE hM hp
         have f14 : ux28 14 = (vT (decide (x39 < 1))):=hp 0 _ rfl rfl
         exact Ze hE (lk rfl f14) fun a hE=>kq rfl hE rfl
        ·intro a w ux28 hE hM hp
         have f15 : ux28 15 = (vT (decide (x39 < 1))):=hp 0 _ rfl rfl
         exact Zh hE rfl (lkb (lk rfl f15) hb42) rfl (by decide) fun a hE=>kq rfl hE rfl
        ·intro a w ux28 hE hM hp
         have f15 : ux28 15 = (vT (decide (x39 < 1))):=hp 1 _ rfl rfl
         have f16 : ux28 16 = undef:=hp 0 _ rfl rfl
         exact Zh hE rfl (lkb (lk rfl f15) hb42) rfl (by decide) fun a hE=>kq rfl hE rfl
        ·intro a w ux28 hE hM hp
         have f15 : ux28 15 = (vT (decide (x39 < 1))):=hp 0 _ rfl rfl
         exact Zh hE rfl (lkb (lk rfl f15) hb42) rfl (by decide) fun a hE=>kq rfl hE rfl
        ·intro a w ux28 hE hM hp
         have f15 : ux28 15 = (vT (decide (x39 < 1))):=hp 2 _ rfl rfl
         have f17 : ux28 17 = undef:=hp 0 _ rfl rfl
         have f18 : ux28 18 = undef:=hp 1 _ rfl rfl
         exact Zh hE rfl (lkb (lk rfl f15) hb42) rfl (by decide) fun a hE=>kq rfl hE rfl
        ·intro a w ux28 hE hM hp
         have f15 : ux28 15 = (vT (decide (x39 < 1))):=hp 1 _ rfl rfl
         have f19 : ux28 19 = undef:=hp 0 _ rfl rfl
         exact Zh hE rfl (lkb (lk rfl f15) hb42) rfl (by decide) fun a hE=>kq rfl hE rfl
        ·intro a w ux28 hE hM hp
         have f15 : ux28 15 = (vT (decide (x39 < 1))):=hp 1 _ rfl rfl
         have f20 : ux28 20 = undef:=hp 0 _ rfl rfl
         exact Zh hE rfl (lkb (lk rfl f15) hb42) rfl (by decide) fun a hE=>kq rfl hE rfl
        ·intro a w ux28 hE hM hp
         have f15 : ux28 15 = (vT (decide (x39 < 1))):=hp 0 _ rfl rfl
         have f21 : ux28 21 = undef:=hp 1 _ rfl rfl
         exact ZG hE (lkb (lk rfl f15) hb42) rfl fun a hE=>kq rfl hE rfl
        ·intro a w ux28 hE hM hp
         have f22 : ux28 22 = (vT true):=hp 0 _ rfl rfl
         exact Ze hE (lk rfl f22) fun a hE=>kq rfl hE rfl
        ·intro a w ux28 hE hM hp
         have f23 : ux28 23 = (vT true):=hp 0 _ rfl rfl
         exact Zh hE rfl (lk rfl f23) rfl (by decide) fun a hE=>kq rfl hE rfl
        ·intro a w ux28 hE hM hp
         have f23 : ux28 23 = (vT true):=hp 1 _ rfl rfl
         have f24 : ux28 24 = undef:=hp 0 _ rfl rfl
         exact Zh hE rfl (lk rfl f23) rfl (by decide) fun a hE=>kq rfl hE rfl
        ·intro a w ux28 hE hM hp
         have f23 : ux28 23 = (vT true):=hp 0 _ rfl rfl
         exact Zh hE rfl (lk rfl f23) rfl (by decide) fun a hE=>kq rfl hE rfl
        ·intro a w ux28 hE hM hp
         have f23 : ux28 23 = (vT true):=hp 2 _ rfl rfl
         have f25 : ux28 25 = undef:=hp 0 _ rfl rfl
         have f26 : ux28 26 = undef:=hp 1 _ rfl rfl
         exact Zh hE rfl (lk rfl f23) rfl (by decide) fun a hE=>kq rfl hE rfl
        ·intro a w ux28 hE hM hp
         have f23 : ux28 23 = (vT true):=hp 1 _ rfl rfl
         have f27 : ux28 27 = undef:=hp 0 _ rfl rfl
         exact Zh hE rfl (lk rfl f23) rfl (by decide) fun a hE=>kq rfl hE rfl
        ·intro a w ux28 hE hM hp
         have f23 : ux28 23 = (vT true):=hp 1 _ rfl rfl
         have f28 : ux28 28 = undef:=hp 0 _ rfl rfl
         exact Zh hE rfl (lk rfl f23) rfl (by decide) fun a hE=>kq rfl hE rfl
        ·intro a w ux28 hE hM hp
         have f23 : ux28 23 = (vT true):=hp 0 _ rfl rfl
         exact Zh hE rfl (lk rfl f23) rfl (by decide) fun a hE=>kq rfl hE rfl
        ·intro a w ux28 hE hM hp
         have f23 : ux28 23 = (vT true):=hp 1 _ rfl rfl
         have f30 : ux28 30 = undef:=hp 0 _ rfl rfl
         exact Zh hE rfl (lk rfl f23) rfl (by decide) fun a hE=>kq rfl hE rfl
        ·intro a w ux28 hE hM hp
         have f23 : ux28 23 = (vT true):=hp 0 _ rfl rfl
         exact Zh hE rfl (lk rfl f23) rfl (by decide) fun a hE=>kq rfl hE rfl
        ·intro a w ux28 hE hM hp
         have f23 : ux28 23 = (vT true):=hp 2 _ rfl rfl
         have f31 : ux28 31 = undef:=hp 0 _ rfl rfl
         have f32 : ux28 32 = undef:=hp 1 _ rfl rfl
         exact Zh hE rfl (lk rfl f23) rfl (by decide) fun a hE=>kq rfl hE rfl
        ·intro a w ux28 hE hM hp
         have f23 : ux28 23 = (vT true):=hp 1 _ rfl rfl
         have f33 : ux28 33 = undef:=hp 0 _ rfl rfl
         exact Zh hE rfl (lk rfl f23) rfl (by decide) fun a hE=>kq rfl hE rfl
        ·intro a w ux28 hE hM hp
         have f23 : ux28 23 = (vT true):=hp 2 _ rfl rfl
         have f29 : ux28 29 = undef:=hp 0 _ rfl rfl
         have f34 : ux28 34 = undef:=hp 1 _ rfl rfl
         exact Zh hE rfl (lk rfl f23) rfl (by decide) fun a hE=>kq rfl hE rfl
        ·intro a w ux28 hE hM hp
         have f23 : ux28 23 = (vT true):=hp 0 _ rfl rfl
         have f35 : ux28 35 = undef:=hp 1 _ rfl rfl
         exact ZG hE (lk rfl f23) rfl fun a hE=>kq rfl hE rfl
        ·intro a w ux28 hE hM hg
         have hE:=hE.sub (e':=[(71,vT true),(1,(ptr b1 0)),(3,(vI (p0.Keys.length : Int))),(4,vI s20),(30,vI s20),(31,(vI (p0.Keys.length : Int))),(32,(vT (decide (s20 < (p0.Keys.length : Int)))))]) ⟨lk rfl (hg 36 (by decide)),rfl,rfl,rfl,rfl,rfl,rfl,trivial⟩
         refine Zj ?_
         obtain rfl:=Option.some.inj hl26
         refine Zl ?_
         exact ⟨hE.sub ⟨rfl,rfl,rfl,rfl,trivial⟩,hM⟩
       ·have hl26:=Zt hl26 hb42
        obtain ⟨x44,hi46,hl26⟩:=bix hl26
        refine Yb (decide (x44 > 1000000)) (fun hb47=>?_) (fun hb47=>?_)
        ·have hl26:=Zu hl26 hb47
         refine ZX (n:=72) (hd:=[_,_,_,_,_,_,_,_,_,_,_,_,_,_,_,_,_,_,_,_,_,_,_,_,_,_,_,_,_,_,_,_,_,_,_,_,_]) (tl:=[]) Yx rfl rfl [35,36,37,38,39,40,41,42,43,44,45,46,47,48,49,50,51,52,53,54,55,56,57,58,59,60,61,62,63,64,65,66,67,68,69,70,71] (by decide) (fun w=>M (Old w0) w0 w [raw b1 (cat [[v0_1],[v0_2],[v0_3]])]) (fun j=>([fun v _=>v = (ptr b1 (0 + 1)),fun v _=>v = v0_2,fun v _=>v = (vI s20),fun v _=>v = (ptr (sb v0_2) (so v0_2 + (s20).toNat * 1)),fun v _=>v = u35,fun v _=>v = (vI (x29.length : Int)),fun v _=>v = (vT (decide ((x29.length : Int) > 2000))),fun v _=>v = (vT (decide ((x29.length : Int) > 2000))),fun v _=>v = (ptr b1 (0 + 2)),fun v _=>v = v0_3,fun v _=>v = (vI s20),fun v _=>v = (ptr (sb v0_3) (so v0_3 + (s20).toNat * 1)),fun v _=>v = (vI x39),fun v _=>v = (vT (decide (x39 < 1))),fun v _=>v = (vT (decide (x39 < 1))),fun v _=>v = (vT (decide (x39 < 1))),fun v _=>v = (ptr b1 (0 + 2)),fun v _=>v = v0_3,fun v _=>v = (vI s20),fun v _=>v = (ptr (sb v0_3) (so v0_3 + (s20).toNat * 1)),fun v _=>v = (vI x44),fun v _=>v = (vT (decide (x44 > 1000000))),fun v _=>v = (vT (decide (x44 > 1000000))),fun v _=>v = (vT (decide (x44 > 1000000))),fun v _=>v = undef,fun v _=>v = undef,fun v _=>v = undef,fun v _=>v = undef,fun v _=>v = undef,fun v _=>v = undef,fun v _=>v = undef,fun v _=>v = undef,fun v _=>v = undef,fun v _=>v = undef,fun v _=>v = undef,fun v _=>v = undef,fun v _=>v = (vT true)] : List (Value → World → Prop)).getD j (fun _ _=>True)) (fun _ _ h hk=>h.keep hk) (gup (Zw (Zw (Zw (Zw (Zw (Zw (Zw (Zw (Zw (Zw (Zw (Zw (Zw (Zw (Zw (Zw (Zw (Zw (Zw (Zw (Zw (Zw (Zw (Zw (Zw (Zw (Zw (Zw (Zw (Zw (Zw (Zw (Zw (Zw (Zw (Zw (Zw Kg)))))))))))))))))))))))))))))))))))))) hE hM.drew (YE (Zc ?_ (Zc ?_ (Zc ?_ (Zc ?_ (Zc ?_ (Zc ?_ (Zc ?_ (Zc ?_ (Zc ?_ (Zc ?_ (Zc ?_ (Zc ?_ (Zc ?_ (Zc ?_ (Zc ?_ (Zc ?_ (Zc ?_ (Zc ?_ (Zc ?_ (Zc ?_ (Zc ?_ (Zc ?_ (Zc ?_ (Zc ?_ (Zc ?_ (Zc ?_ (Zc ?_ (Zc ?_ (Zc ?_ (Zc ?_ (Zc ?_ (Zc ?_ (Zc ?_ (Zc ?_ (Zc ?_ (Zc ?_ (Zc ?_ Yl)))))))))))))))))))))))))))))))))))))) ?_
         ·exact fun a w ux28 hE hM hp=>Zg hE rfl (Q8) fun a hE=>kq rfl hE rfl
         ·intro a w ux28 hE hM hp
          have f0 : ux28 0 = (ptr b1 (0 + 1)):=hp 0 _ rfl rfl
          exact Zx (v:=v0_2) hE (lk rfl f0) JZ rfl (At.cat (pre:=[[v0_1]]) hM.rawAt0 ck) fun a hE=>kq rfl hE rfl
         ·exact qm
         ·intro a w ux28 hE hM hp
          have f1 : ux28 1 = v0_2:=hp 0 _ rfl rfl
          have f2 : ux28 2 = (vI s20):=hp 1 _ rfl rfl
          exact ZK hE (lk rfl f1) (lk rfl f2) Tryz.underlying41 XB (hM.rd hv0_2) hi31.1 fun a hE=>kq rfl hE rfl
         ·intro a w ux28 hE hM hp
          have f3 : ux28 3 = (ptr (sb v0_2) (so v0_2 + (s20).toNat * 1)):=hp 0 _ rfl rfl
          exact Zx (v:=u35) hE (lk rfl f3) XB rfl (hM.atk hA34 (VY hv0_2 hi31.2)) fun a hE=>kq rfl hE rfl
         ·intro a w ux28 hE hM hp
          have f4 : ux28 4 = u35:=hp 0 _ rfl rfl
          exact ZZ hE (lk rfl f4) Tryz.underlying32 (hM.rd h36) fun a hE=>kq rfl hE rfl
         ·intro a w ux28 hE hM hp
          have f5 : ux28 5 = (vI (x29.length : Int)):=hp 0 _ rfl rfl
          exact Zk hE (lk rfl f5) rfl rfl fun a hE=>kq rfl hE rfl
         ·intro a w ux28 hE hM hp
          have f6 : ux28 6 = (vT (decide ((x29.length : Int) > 2000))):=hp 0 _ rfl rfl
          exact Ze hE (lk rfl f6) fun a hE=>kq rfl hE rfl
         ·intro a w ux28 hE hM hp
          have f7 : ux28 7 = (vT (decide ((x29.length : Int) > 2000))):=hp 0 _ rfl rfl
          exact ZB hE (Zi hE rfl (lkb (lk rfl f7) hb37)) (by decide) rfl (QN) fun a hE=>kq rfl hE rfl
         ·intro a w ux28 hE hM hp
          have f7 : ux28 7 = (vT (decide ((x29.length : Int) > 2000))):=hp 1 _ rfl rfl
          have f8 : ux28 8 = (ptr b1 (0 + 2)):=hp 0 _ rfl rfl
          exact ZY (v:=v0_3) hE (Zi hE rfl (lkb (lk rfl f7) hb37)) (by decide) (lk rfl f8) JO rfl (At.cat (pre:=[[v0_1],[v0_2]]) hM.rawAt0 ck) fun a hE=>kq rfl hE rfl
         ·intro a w ux28 hE hM hp
          have f7 : ux28 7 = (vT (decide ((x29.length : Int) > 2000))):=hp 0 _ rfl rfl
          exact Y3 hE (Zi hE rfl (lkb (lk rfl f7) hb37)) (by decide) rfl fun a hE=>kq rfl hE rfl
         ·intro a w ux28 hE hM hp
          have f7 : ux28 7 = (vT (decide ((x29.length : Int) > 2000))):=hp 2 _ rfl rfl
          have f9 : ux28 9 = v0_3:=hp 0 _ rfl rfl
          have f10 : ux28 10 = (vI s20):=hp 1 _ rfl rfl
          exact V3 hE (Zi hE rfl (lkb (lk rfl f7) hb37)) (by decide) (lk rfl f9) (lk rfl f10) Tryz.underlying42 ty2 (hM.rd hv0_3) hi41.1 fun a hE=>kq rfl hE rfl
         ·intro a w ux28 hE hM hp
          have f7 : ux28 7 = (vT (decide ((x29.length : Int) > 2000))):=hp 1 _ rfl rfl
          have f11 : ux28 11 = (ptr (sb v0_3) (so v0_3 + (s20).toNat * 1)):=hp 0 _ rfl rfl
          exact ZY (v:=(vI x39)) hE (Zi hE rfl (lkb (lk rfl f7) hb37)) (by decide) (lk rfl f11) ty2 rfl (Ys (hM.rd hv0_3) hi41.2) fun a hE=>kq rfl hE rfl
         ·intro a w ux28 hE hM hp
          have f7 : ux28 7 = (vT (decide ((x29.length : Int) > 2000))):=hp 1 _ rfl rfl
          have f12 : ux28 12 = (vI x39):=hp 0 _ rfl rfl
          exact Wa hE (Zi hE rfl (lkb (lk rfl f7) hb37)) (by decide) (lk rfl f12) rfl rfl fun a hE=>kq rfl hE rfl
         ·intro a w ux28 hE hM hp
          have f7 : ux28 7 = (vT (decide ((x29.length : Int) > 2000))):=hp 0 _ rfl rfl
          have f13 : ux28 13 = (vT (decide (x39 < 1))):=hp 1 _ rfl rfl
          exact ZL hE (lkb (lk rfl f7) hb37) (lk rfl f13) fun a hE=>kq rfl hE rfl
         ·intro a w ux28 hE hM hp
          have f14 : ux28 14 = (vT (decide (x39 < 1))):=hp 0 _ rfl rfl
          exact Ze hE (lk rfl f14) fun a hE=>kq rfl hE rfl
         ·intro a w ux28 hE hM hp
          have f15 : ux28 15 = (vT (decide (x39 < 1))):=hp 0 _ rfl rfl
          exact ZB hE (Zi hE rfl (lkb (lk rfl f15) hb42)) (by decide) rfl (QN) fun a hE=>kq rfl hE rfl
         ·intro a w ux28 hE hM hp
          have f15 : ux28 15 = (vT (decide (x39 < 1))):=hp 1 _ rfl rfl
          have f16 : ux28 16 = (ptr b1 (0 + 2)):=hp 0 _ rfl rfl
          exact ZY (v:=v0_3) hE (Zi hE rfl (lkb (lk rfl f15) hb42)) (by decide) (lk rfl f16) JO rfl (At.cat (pre:=[[v0_1],[v0_2]]) hM.rawAt0 ck) fun a hE=>kq rfl hE rfl
         ·intro a w ux28 hE hM hp
          have f15 : ux28 15 = (vT (decide (x39 < 1))):=hp 0 _ rfl rfl
          exact Y3 hE (Zi hE rfl (lkb (lk rfl f15) hb42)) (by decide) rfl fun a hE=>kq rfl hE rfl
         ·intro a w ux28 hE hM hp
          have f15 : ux28 15 = (vT (decide (x39 < 1))):=hp 2 _ rfl rfl
          have f17 : ux28 17 = v0_3:=hp 0 _ rfl rfl
          have f18 : ux28 18 = (vI s20):=hp 1 _ rfl rfl
          exact V3 hE (Zi hE rfl (lkb (lk rfl f15) hb42)) (by decide) (lk rfl f17) (lk rfl f18) Tryz.underlying42 ty2 (hM.rd hv0_3) hi46.1 fun a hE=>kq rfl hE rfl
         ·intro a w ux28 hE hM hp
          have f15 : ux28 15 = (vT (decide (x39 < 1))):=hp 1 _ rfl rfl
          have f19 : ux28 19 = (ptr (sb v0_3) (so v0_3 + (s20).toNat * 1)):=hp 0 _ rfl rfl
          exact ZY (v:=(vI x44)) hE (Zi hE rfl (lkb (lk rfl f15) hb42)) (by decide) (lk rfl f19) ty2 rfl (Ys (hM.rd hv0_3) hi46.2) fun a hE=>kq rfl hE rfl
         ·intro a w ux28 hE hM hp
          have f15 : ux28 15 = (vT (decide (x39 < 1))):=hp 1 _ rfl rfl
          have f20 : ux28 20 = (vI x44):=hp 0 _ rfl rfl
          exact Wa hE (Zi hE rfl (lkb (lk rfl f15) hb42)) (by decide) (lk rfl f20) rfl rfl fun a hE=>kq rfl hE rfl
         ·intro a w ux28 hE hM hp
          have f15 : ux28 15 = (vT (decide (x39 < 1))):=hp 0 _ rfl rfl
          have f21 : ux28 21 = (vT (decide (x44 > 1000000))):=hp 1 _ rfl rfl
          exact ZL hE (lkb (lk rfl f15) hb42) (lk rfl f21) fun a hE=>kq rfl hE rfl
         ·intro a w ux28 hE hM hp
          have f22 : ux28 22 = (vT (decide (x44 > 1000000))):=hp 0 _ rfl rfl
          exact Ze hE (lk rfl f22) fun a hE=>kq rfl hE rfl
         ·intro a w ux28 hE hM hp
          have f23 : ux28 23 = (vT (decide (x44 > 1000000))):=hp 0 _ rfl rfl
          exact Zh hE rfl (lkb (lk rfl f23) hb47) rfl (by decide) fun a hE=>kq rfl hE rfl
         ·intro a w ux28 hE hM hp
          have f23 : ux28 23 = (vT (decide (x44 > 1000000))):=hp 1 _ rfl rfl
          have f24 : ux28 24 = undef:=hp 0 _ rfl rfl
          exact Zh hE rfl (lkb (lk rfl f23) hb47) rfl (by decide) fun a hE=>kq rfl hE rfl
         ·intro a w ux28 hE hM hp
          have f23 : ux28 23 = (vT (decide (x44 > 1000000))):=hp 0 _ rfl rfl
          exact Zh hE rfl (lkb (lk rfl f23) hb47) rfl (by decide) fun a hE=>kq rfl hE rfl
         ·intro a w ux28 hE hM hp
          have f23 : ux28 23 = (vT (decide (x44 > 1000000))):=hp 2 _ rfl rfl
          have f25 : ux28 25 = undef:=hp 0 _ rfl rfl
          have f26 : ux28 26 = undef:=hp 1 _ rfl rfl
          exact Zh hE rfl (lkb (lk rfl f23) hb47) rfl (by decide) fun a hE=>kq rfl hE rfl
         ·intro a w ux28 hE hM hp
          have f23 : ux28 23 = (vT (decide (x44 > 1000000))):=hp 1 _ rfl rfl
          have f27 : ux28 27 = undef:=hp 0 _ rfl rfl
          exact Zh hE rfl (lkb (lk rfl f23) hb47) rfl (by decide) fun a hE=>kq rfl hE rfl
         ·intro a w ux28 hE hM hp
          have f23 : ux28 23 = (vT (decide (x44 > 1000000))):=hp 1 _ rfl rfl
          have f28 : ux28 28 = undef:=hp 0 _ rfl rfl
          exact Zh hE rfl (lkb (lk rfl f23) hb47) rfl (by decide) fun a hE=>kq rfl hE rfl
         ·intro a w ux28 hE hM hp
          have f23 : ux28 23 = (vT (decide (x44 > 1000000))):=hp 0 _ rfl rfl
          exact Zh hE rfl (lkb (lk rfl f23) hb47) rfl (by decide) fun a hE=>kq rfl hE rfl
         ·intro a w ux28 hE hM hp
          have f23 : ux28 23 = (vT (decide (x44 > 1000000))):=hp 1 _ rfl rfl
          have f30 : ux28 30 = undef:=hp 0 _ rfl rfl
          exact Zh hE rfl (lkb (lk rfl f23) hb47) rfl (by decide) fun a hE=>kq rfl hE rfl
         ·intro a w ux28 hE hM hp
          have f23 : ux28 23 = (vT (decide (x44 > 1000000))):=hp 0 _ rfl rfl
          exact Zh hE rfl (lkb (lk rfl f23) hb47) rfl (by decide) fun a hE=>kq rfl hE rfl
         ·intro a w ux28 hE hM hp
          have f23 : ux28 23 = (vT (decide (x44 > 1000000))):=hp 2 _ rfl rfl
          have f31 : ux28 31 = undef:=hp 0 _ rfl rfl
          have f32 : ux28 32 = undef:=hp 1 _ rfl rfl
          exact Zh hE rfl (lkb (lk rfl f23) hb47) rfl (by decide) fun a hE=>kq rfl hE rfl
         ·intro a w ux28 hE hM hp
          have f23 : ux28 23 = (vT (decide (x44 > 1000000))):=hp 1 _ rfl rfl
          have f33 : ux28 33 = undef:=hp 0 _ rfl rfl
          exact Zh hE rfl (lkb (lk rfl f23) hb47) rfl (by decide) fun a hE=>kq rfl hE rfl
         ·intro a w ux28 hE hM hp
          have f23 : ux28 23 = (vT (decide (x44 > 1000000))):=hp 2 _ rfl rfl
          have f29 : ux28 29 = undef:=hp 0 _ rfl rfl
          have f34 : ux28 34 = undef:=hp 1 _ rfl rfl
          exact Zh hE rfl (lkb (lk rfl f23) hb47) rfl (by decide) fun a hE=>kq rfl hE rfl
         ·intro a w ux28 hE hM hp
          have f23 : ux28 23 = (vT (decide (x44 > 1000000))):=hp 0 _ rfl rfl
          have f35 : ux28 35 = undef:=hp 1 _ rfl rfl
          exact ZG hE (lkb (lk rfl f23) hb47) rfl fun a hE=>kq rfl hE rfl
         ·intro a w ux28 hE hM hg
          have hE:=hE.sub (e':=[(71,vT true),(1,(ptr b1 0)),(3,(vI (p0.Keys.length : Int))),(4,vI s20),(30,vI s20),(31,(vI (p0.Keys.length : Int))),(32,(vT (decide (s20 < (p0.Keys.length : Int)))))]) ⟨lk rfl (hg 36 (by decide)),rfl,rfl,rfl,rfl,rfl,rfl,trivial⟩
          refine Zj ?_
          obtain rfl:=Option.some.inj hl26
          refine Zl ?_
          exact ⟨hE.sub ⟨rfl,rfl,rfl,rfl,trivial⟩,hM⟩
        ·have hl26:=Zt hl26 hb47
         obtain ⟨x49,hi51,hl26⟩:=bix hl26
         obtain ⟨cs52,hs53,hA54⟩:=Vl hv0_2 hi51.2 -- ^
         obtain ⟨u55,rfl⟩:=XL hs53 -- ^
         have h56:=hs53 -- ^
         obtain ⟨r57,e58,hl26⟩:=bind_some hl26
         obtain ⟨x59,hi61,hl26⟩:=bix hl26
         refine ZX (n:=72) (hd:=[_,_,_,_,_,_,_,_,_,_,_,_,_,_,_,_,_,_,_,_,_,_,_,_,_,_,_,_,_,_,_,_,_,_,_,_,_]) (tl:=[]) Yx rfl rfl [35,36,37,38,39,40,41,42,43,44,45,46,47,48,49,50,51,52,53,54,55,56,57,58,59,60,61,62,63,64,65,66,67,68,69,70,71] (by decide) (fun w=>M (Old w0) w0 w [raw b1 (cat [[v0_1],[v0_2],[v0_3]])]) (fun j=>([fun v _=>v = (ptr b1 (0 + 1)),fun v _=>v = v0_2,fun v _=>v = (vI s20),fun v _=>v = (ptr (sb v0_2) (so v0_2 + (s20).toNat * 1)),fun v _=>v = u35,fun v _=>v = (vI (x29.length : Int)),fun v _=>v = (vT (decide ((x29.length : Int) > 2000))),fun v _=>v = (vT (decide ((x29.length : Int) > 2000))),fun v _=>v = (ptr b1 (0 + 2)),fun v _=>v = v0_3,fun v _=>v = (vI s20),fun v _=>v = (ptr (sb v0_3) (so v0_3 + (s20).toNat * 1)),fun v _=>v = (vI x39),fun v _=>v = (vT (decide (x39 < 1))),fun v _=>v = (vT (decide (x39 < 1))),fun v _=>v = (vT (decide (x39 < 1))),fun v _=>v = (ptr b1 (0 + 2)),fun v _=>v = v0_3,fun v _=>v = (vI s20),fun v _=>v = (ptr (sb v0_3) (so v0_3 + (s20).toNat * 1)),fun v _=>v = (vI x44),fun v _=>v = (vT (decide (x44 > 1000000))),fun v _=>v = (vT (decide (x44 > 1000000))),fun v _=>v = (vT (decide (x44 > 1000000))),fun v _=>v = (ptr b1 (0 + 1)),fun v _=>v = v0_2,fun v _=>v = (vI s20),fun v _=>v = (ptr (sb v0_2) (so v0_2 + (s20).toNat * 1)),fun v _=>v = u55,fun v _=>v = (Value.agg (enc r57).toArray),fun v _=>v = (ptr b1 (0 + 0)),fun v _=>v = v0_1,fun v _=>v = (vI s20),fun v _=>v = (ptr (sb v0_1) (so v0_1 + (s20).toNat * 32)),fun v _=>v = (Value.agg (enc x59).toArray),fun v _=>v = (vT (!decide (r57 = x59))),fun v _=>v = (vT (!decide (r57 = x59)))] : List (Value → World → Prop)).getD j (fun _ _=>True)) (fun _ _ h hk=>h.keep hk) (gup (Zw (Zw (Zw (Zw (Zw (Zw (Zw (Zw (Zw (Zw (Zw (Zw (Zw (Zw (Zw (Zw (Zw (Zw (Zw (Zw (Zw (Zw (Zw (Zw (Zw (Zw (Zw (Zw (Zw (Zw (Zw (Zw (Zw (Zw (Zw (Zw (Zw Kg)))))))))))))))))))))))))))))))))))))) hE hM.drew (YE (Zc ?_ (Zc ?_ (Zc ?_ (Zc ?_ (Zc ?_ (Zc ?_ (Zc ?_ (Zc ?_ (Zc ?_ (Zc ?_ (Zc ?_ (Zc ?_ (Zc ?_ (Zc ?_ (Zc ?_ (Zc ?_ (Zc ?_ (Zc ?_ (Zc ?_ (Zc ?_ (Zc ?_ (Zc ?_ (Zc ?_ (Zc ?_ (Zc ?_ (Zc ?_ (Zc ?_ (Zc ?_ (Zc ?_ (Zc ?_ (Zc ?_ (Zc ?_ (Zc ?_ (Zc ?_ (Zc ?_ (Zc ?_ (Zc ?_ Yl)))))))))))))))))))))))))))))))))))))) ?_
         ·exact fun a w ux28 hE hM hp=>Zg hE rfl (Q8) fun a hE=>kq rfl hE rfl
         ·intro a w ux28 hE hM hp
          have f0 : ux28 0 = (ptr b1 (0 + 1)):=hp 0 _ rfl rfl
          exact Zx (v:=v0_2) hE (lk rfl f0) JZ rfl (At.cat (pre:=[[v0_1]]) hM.rawAt0 ck) fun a hE=>kq rfl hE rfl
         ·exact qm
         ·intro a w ux28 hE hM hp
          have f1 : ux28 1 = v0_2:=hp 0 _ rfl rfl
          have f2 : ux28 2 = (vI s20):=hp 1 _ rfl rfl
          exact ZK hE (lk rfl f1) (lk rfl f2) Tryz.underlying41 XB (hM.rd hv0_2) hi31.1 fun a hE=>kq rfl hE rfl
         ·intro a w ux28 hE hM hp
          have f3 : ux28 3 = (ptr (sb v0_2) (so v0_2 + (s20).toNat * 1)):=hp 0 _ rfl rfl
          exact Zx (v:=u35) hE (lk rfl f3) XB rfl (hM.atk hA34 (VY hv0_2 hi31.2)) fun a hE=>kq rfl hE rfl
         ·intro a w ux28 hE hM hp
          have f4 : ux28 4 = u35:=hp 0 _ rfl rfl
          exact ZZ hE (lk rfl f4) Tryz.underlying32 (hM.rd h36) fun a hE=>kq rfl hE rfl
         ·intro a w ux28 hE hM hp
          have f5 : ux28 5 = (vI (x29.length : Int)):=hp 0 _ rfl rfl
          exact Zk hE (lk rfl f5) rfl rfl fun a hE=>kq rfl hE rfl
         ·intro a w ux28 hE hM hp
          have f6 : ux28 6 = (vT (decide ((x29.length : Int) > 2000))):=hp 0 _ rfl rfl
          exact Ze hE (lk rfl f6) fun a hE=>kq rfl hE rfl
         ·intro a w ux28 hE hM hp
          have f7 : ux28 7 = (vT (decide ((x29.length : Int) > 2000))):=hp 0 _ rfl rfl
          exact ZB hE (Zi hE rfl (lkb (lk rfl f7) hb37)) (by decide) rfl (QN) fun a hE=>kq rfl hE rfl
         ·intro a w ux28 hE hM hp
          have f7 : ux28 7 = (vT (decide ((x29.length : Int) > 2000))):=hp 1 _ rfl rfl
          have f8 : ux28 8 = (ptr b1 (0 + 2)):=hp 0 _ rfl rfl
          exact ZY (v:=v0_3) hE (Zi hE rfl (lkb (lk rfl f7) hb37)) (by decide) (lk rfl f8) JO rfl (At.cat (pre:=[[v0_1],[v0_2]]) hM.rawAt0 ck) fun a hE=>kq rfl hE rfl
         ·intro a w ux28 hE hM hp
          have f7 : ux28 7 = (vT (decide ((x29.length : Int) > 2000))):=hp 0 _ rfl rfl
          exact Y3 hE (Zi hE rfl (lkb (lk rfl f7) hb37)) (by decide) rfl fun a hE=>kq rfl hE rfl
         ·intro a w ux28 hE hM hp
          have f7 : ux28 7 = (vT (decide ((x29.length : Int) > 2000))):=hp 2 _ rfl rfl
          have f9 : ux28 9 = v0_3:=hp 0 _ rfl rfl
          have f10 : ux28 10 = (vI s20):=hp 1 _ rfl rfl
          exact V3 hE (Zi hE rfl (lkb (lk rfl f7) hb37)) (by decide) (lk rfl f9) (lk rfl f10) Tryz.underlying42 ty2 (hM.rd hv0_3) hi41.1 fun a hE=>kq rfl hE rfl
         ·intro a w ux28 hE hM hp
          have f7 : ux28 7 = (vT (decide ((x29.length : Int) > 2000))):=hp 1 _ rfl rfl
          have f11 : ux28 11 = (ptr (sb v0_3) (so v0_3 + (s20).toNat * 1)):=hp 0 _ rfl rfl
          exact ZY (v:=(vI x39)) hE (Zi hE rfl (lkb (lk rfl f7) hb37)) (by decide) (lk rfl f11) ty2 rfl (Ys (hM.rd hv0_3) hi41.2) fun a hE=>kq rfl hE rfl
         ·intro a w ux28 hE hM hp
          have f7 : ux28 7 = (vT (decide ((x29.length : Int) > 2000))):=hp 1 _ rfl rfl
          have f12 : ux28 12 = (vI x39):=hp 0 _ rfl rfl
          exact Wa hE (Zi hE rfl (lkb (lk rfl f7) hb37)) (by decide) (lk rfl f12) rfl rfl fun a hE=>kq rfl hE rfl
         ·intro a w ux28 hE hM hp
          have f7 : ux28 7 = (vT (decide ((x29.length : Int) > 2000))):=hp 0 _ rfl rfl
          have f13 : ux28 13 = (vT (decide (x39 < 1))):=hp 1 _ rfl rfl
          exact ZL hE (lkb (lk rfl f7) hb37) (lk rfl f13) fun a hE=>kq rfl hE rfl
         ·intro a w ux28 hE hM hp
          have f14 : ux28 14 = (vT (decide (x39 < 1))):=hp 0 _ rfl rfl
          exact Ze hE (lk rfl f14) fun a hE=>kq rfl hE rfl
         ·intro a w ux28 hE hM hp
          have f15 : ux28 15 = (vT (decide (x39 < 1))):=hp 0 _ rfl rfl
          exact ZB hE (Zi hE rfl (lkb (lk rfl f15) hb42)) (by decide) rfl (QN) fun a hE=>kq rfl hE rfl
         ·intro a w ux28 hE hM hp
          have f15 : ux28 15 = (vT (decide (x39 < 1))):=hp 1 _ rfl rfl
          have f16 : ux28 16 = (ptr b1 (0 + 2)):=hp 0 _ rfl rfl
          exact ZY (v:=v0_3) hE (Zi hE rfl (lkb (lk rfl f15) hb42)) (by decide) (lk rfl f16) JO rfl (At.cat (pre:=[[v0_1],[v0_2]]) hM.rawAt0 ck) fun a hE=>kq rfl hE rfl
         ·intro a w ux28 hE hM hp
          have f15 : ux28 15 = (vT (decide (x39 < 1))):=hp 0 _ rfl rfl
          exact Y3 hE (Zi hE rfl (lkb (lk rfl f15) hb42)) (by decide) rfl fun a hE=>kq rfl hE rfl
         ·intro a w ux28 hE hM hp
          have f15 : ux28 15 = (vT (decide (x39 < 1))):=hp 2 _ rfl rfl
          have f17 : ux28 17 = v0_3:=hp 0 _ rfl rfl
          have f18 : ux28 18 = (vI s20):=hp 1 _ rfl rfl
          exact V3 hE (Zi hE rfl (lkb (lk rfl f15) hb42)) (by decide) (lk rfl f17) (lk rfl f18) Tryz.underlying42 ty2 (hM.rd hv0_3) hi46.1 fun a hE=>kq rfl hE rfl
         ·intro a w ux28 hE hM hp
          have f15 : ux28 15 = (vT (decide (x39 < 1))):=hp 1 _ rfl rfl
          have f19 : ux28 19 = (ptr (sb v0_3) (so v0_3 + (s20).toNat * 1)):=hp 0 _ rfl rfl
          exact ZY (v:=(vI x44)) hE (Zi hE rfl (lkb (lk rfl f15) hb42)) (by decide) (lk rfl f19) ty2 rfl (Ys (hM.rd hv0_3) hi46.2) fun a hE=>kq rfl hE rfl
         ·intro a w ux28 hE hM hp
          have f15 : ux28 15 = (vT (decide (x39 < 1))):=hp 1 _ rfl rfl
          have f20 : ux28 20 = (vI x44):=hp 0 _ rfl rfl
          exact Wa hE (Zi hE rfl (lkb (lk rfl f15) hb42)) (by decide) (lk rfl f20) rfl rfl fun a hE=>kq rfl hE rfl
         ·intro a w ux28 hE hM hp
          have f15 : ux28 15 = (vT (decide (x39 < 1))):=hp 0 _ rfl rfl
          have f21 : ux28 21 = (vT (decide (x44 > 1000000))):=hp 1 _ rfl rfl
          exact ZL hE (lkb (lk rfl f15) hb42) (lk rfl f21) fun a hE=>kq rfl hE rfl
         ·intro a w ux28 hE hM hp
          have f22 : ux28 22 = (vT (decide (x44 > 1000000))):=hp 0 _ rfl rfl
          exact Ze hE (lk rfl f22) fun a hE=>kq rfl hE rfl
         ·intro a w ux28 hE hM hp
          have f23 : ux28 23 = (vT (decide (x44 > 1000000))):=hp 0 _ rfl rfl
          exact ZB hE (Zi hE rfl (lkb (lk rfl f23) hb47)) (by decide) rfl (Q8) fun a hE=>kq rfl hE rfl
         ·intro a w ux28 hE hM hp
          have f23 : ux28 23 = (vT (decide (x44 > 1000000))):=hp 1 _ rfl rfl
          have f24 : ux28 24 = (ptr b1 (0 + 1)):=hp 0 _ rfl rfl
          exact ZY (v:=v0_2) hE (Zi hE rfl (lkb (lk rfl f23) hb47)) (by decide) (lk rfl f24) JZ rfl (At.cat (pre:=[[v0_1]]) hM.rawAt0 ck) fun a hE=>kq rfl hE rfl
         ·intro a w ux28 hE hM hp
          have f23 : ux28 23 = (vT (decide (x44 > 1000000))):=hp 0 _ rfl rfl
          exact Y3 hE (Zi hE rfl (lkb (lk rfl f23) hb47)) (by decide) rfl fun a hE=>kq rfl hE rfl
         ·intro a w ux28 hE hM hp
          have f23 : ux28 23 = (vT (decide (x44 > 1000000))):=hp 2 _ rfl rfl
          have f25 : ux28 25 = v0_2:=hp 0 _ rfl rfl
          have f26 : ux28 26 = (vI s20):=hp 1 _ rfl rfl
          exact V3 hE (Zi hE rfl (lkb (lk rfl f23) hb47)) (by decide) (lk rfl f25) (lk rfl f26) Tryz.underlying41 XB (hM.rd hv0_2) hi51.1 fun a hE=>kq rfl hE rfl
         ·intro a w ux28 hE hM hp
          have f23 : ux28 23 = (vT (decide (x44 > 1000000))):=hp 1 _ rfl rfl
          have f27 : ux28 27 = (ptr (sb v0_2) (so v0_2 + (s20).toNat * 1)):=hp 0 _ rfl rfl
          exact ZY (v:=u55) hE (Zi hE rfl (lkb (lk rfl f23) hb47)) (by decide) (lk rfl f27) XB rfl (hM.atk hA54 (VY hv0_2 hi51.2)) fun a hE=>kq rfl hE rfl
         ·intro a w ux28 hE hM hp
          have f23 : ux28 23 = (vT (decide (x44 > 1000000))):=hp 1 _ rfl rfl
          have f28 : ux28 28 = u55:=hp 0 _ rfl rfl
          refine WL hE (Zi hE rfl (lkb (lk rfl f23) hb47)) (by decide) (ZU (ZR (lk rfl f28) Xf)) (cbm Tryz.func83) (Bd _ x49 u55 (hM.rdo h56) r57 e58) ?_
          rintro v w a ⟨rfl,hK⟩ hE
          exact ⟨hK,_,_,rfl,hE,rfl⟩
         ·intro a w ux28 hE hM hp
          have f23 : ux28 23 = (vT (decide (x44 > 1000000))):=hp 0 _ rfl rfl
          exact ZB hE (Zi hE rfl (lkb (lk rfl f23) hb47)) (by decide) rfl (Q3) fun a hE=>kq rfl hE rfl
         ·intro a w ux28 hE hM hp
          have f23 : ux28 23 = (vT (decide (x44 > 1000000))):=hp 1 _ rfl rfl
          have f30 : ux28 30 = (ptr b1 (0 + 0)):=hp 0 _ rfl rfl
          exact ZY (v:=v0_1) hE (Zi hE rfl (lkb (lk rfl f23) hb47)) (by decide) (lk rfl f30) BR rfl (At.cat (pre:=[]) hM.rawAt0 cl0) fun a hE=>kq rfl hE rfl
         ·intro a w ux28 hE hM hp
          have f23 : ux28 23 = (vT (decide (x44 > 1000000))):=hp 0 _ rfl rfl
          exact Y3 hE (Zi hE rfl (lkb (lk rfl f23) hb47)) (by decide) rfl fun a hE=>kq rfl hE rfl
         ·intro a w ux28 hE hM hp
          have f23 : ux28 23 = (vT (decide (x44 > 1000000))):=hp 2 _ rfl rfl
          have f31 : ux28 31 = v0_1:=hp 0 _ rfl rfl
          have f32 : ux28 32 = (vI s20):=hp 1 _ rfl rfl
          exact V3 hE (Zi hE rfl (lkb (lk rfl f23) hb47)) (by decide) (lk rfl f31) (lk rfl f32) Tryz.underlying40 Yr (hM.rd hv0_1) hi61.1 fun a hE=>kq rfl hE rfl
         ·intro a w ux28 hE hM hp
          have f23 : ux28 23 = (vT (decide (x44 > 1000000))):=hp 1 _ rfl rfl
          have f33 : ux28 33 = (ptr (sb v0_1) (so v0_1 + (s20).toNat * 32)):=hp 0 _ rfl rfl
          exact TY hE (Zi hE rfl (lkb (lk rfl f23) hb47)) (by decide) (lk rfl f33) Yr rfl (Ys (hM.rd hv0_1) hi61.2) (Flat.len _) fun a hE=>kq rfl hE rfl
         ·intro a w ux28 hE hM hp
          have f23 : ux28 23 = (vT (decide (x44 > 1000000))):=hp 2 _ rfl rfl
          have f29 : ux28 29 = (Value.agg (enc r57).toArray):=hp 0 _ rfl rfl
          have f34 : ux28 34 = (Value.agg (enc x59).toArray):=hp 1 _ rfl rfl
          exact s_neA hE (Zi hE rfl (lkb (lk rfl f23) hb47)) (by decide) (lk rfl f29) (lk rfl f34) (ji Tryz.underlying37 ty5 rfl false rfl (by decide) (z9 Tryz.underlying5)) (by decide) (by kernel_rfl) fun a hE=>kq rfl hE rfl
         ·intro a w ux28 hE hM hp
          have f23 : ux28 23 = (vT (decide (x44 > 1000000))):=hp 0 _ rfl rfl
          have f35 : ux28 35 = (vT (!decide (r57 = x59))):=hp 1 _ rfl rfl
          exact ZL hE (lkb (lk rfl f23) hb47) (lk rfl f35) fun a hE=>kq rfl hE rfl
         ·intro a w ux28 hE hM hg
          have hE:=hE.sub (e':=[(71,(vT (!decide (r57 = x59)))),(1,(ptr b1 0)),(3,(vI (p0.Keys.length : Int))),(4,vI s20),(30,vI s20),(31,(vI (p0.Keys.length : Int))),(32,(vT (decide (s20 < (p0.Keys.length : Int)))))]) ⟨lk rfl (hg 36 (by decide)),rfl,rfl,rfl,rfl,rfl,rfl,trivial⟩
          refine Zj ?_
          obtain rfl:=Option.some.inj hl26
          refine Zl ?_
          exact ⟨hE.sub ⟨rfl,rfl,rfl,rfl,trivial⟩,hM⟩
     ·skip
      rintro a w ⟨hE,hM⟩
      refine Zq hE rfl ?_ ?_
      ·intro hb63
       have hF27:=Zu hF27 hb63
       refine Za (Zb hE rfl fun a hE=>Zf ?_)
       obtain rfl:=hx22 _ (ois hF27)
       obtain rfl:=Option.some.inj hF18
       exact wp_ret (Z4 (Zs (Zs (Z4 (Zs (Zs (kr1 hE rfl rfl hM.kept)))))))
      ·intro hb63
       have hF27:=Zt hF27 hb63
       refine wp_skip (Z0 (Zy (wp_region_lit (Ze hE rfl fun a hE=>Zk hE rfl rfl rfl fun a hE=>Zb hE rfl fun a hE=>Zj (Zl ?_)))))
       exact ⟨_,(ois hF27),hE.sub ⟨rfl,rfl,rfl,trivial⟩,hM⟩
    ·intro hb24
     have hs21:=Zt hs21 hb24
     refine wp_exit (Zp (Zp (Z1 ?_)))
     obtain rfl:=hx22 _ (ois hs21)
     refine Zl ?_
     have hM:=M.fst (l:=[]) hM
     exact ⟨(),rfl,hE.sub trivial,hM⟩
   ·skip
    rintro a w ⟨s19,ht,hE,hM⟩
    subst ht
    have hF18:=X7 hF18
    refine Zy (Za (Zb hE rfl fun a hE=>Zf ?_))
    obtain rfl:=Option.some.inj hF18
    exact wp_ret (kr1 hE rfl rfl hM.kept)
def TL (p0 : GDesk) : Option (Bool) :=
 ((Qr p0.Cipher).bind fun r6=>if r6 = true then (if (decide ((p0.Data.length : Int) ≤ 200)) = true then ((Ta p0.Vault).bind fun r10=>if r10 = true then ((Qe p0.Blobs).bind fun r13=>some r13) else (some false)) else (some false)) else (some false) : Option (Bool)).bind fun j3=>some j3
theorem zS (w0 : World) (p0 : GDesk) (v0_1 : Value) (hv0_1 : Ro w0 p0.Data [v0_1]) (v0_2 : Value) (hv0_2 : Ro w0 p0.Vault.Keys [v0_2]) (v0_3 : Value) (hv0_3 : Ro w0 p0.Vault.Records [v0_3]) (v0_4 : Value) (hv0_4 : Ro w0 p0.Vault.Events [v0_4]) (v0_5 : Value) (hv0_5 : Ro w0 p0.Blobs.Keys [v0_5]) (v0_6 : Value) (hv0_6 : Ro w0 p0.Blobs.Data [v0_6]) (v0_7 : Value) (hv0_7 : Ro w0 p0.Blobs.Counts [v0_7]) (r : Bool) (hF : TL p0 = some r) :
  Calls Tryz.prog 11 [(Value.agg (cat [cat [[vI p0.Cipher.Field],enc p0.Cipher.Box,enc p0.Cipher.Mix,enc p0.Cipher.Places,[vI p0.Cipher.Rounds]],enc p0.Key,enc p0.Start,[v0_1],cat [[v0_2],[vI p0.Vault.Next],[v0_3],[v0_4],enc p0.Vault.Head],cat [[v0_5],[v0_6],[v0_7]]]).toArray)].toArray w0 (Rt w0 (vT r)):=by
 refine ce Tryz.func11 ?_
 intro a hE
 have hM:=M.start w0
 unfold TL at hF
 refine Za (ZM (cs:=cat [cat [[vI p0.Cipher.Field],enc p0.Cipher.Box,enc p0.Cipher.Mix,enc p0.Cipher.Places,[vI p0.Cipher.Rounds]],enc p0.Key,enc p0.Start,[v0_1],cat [[v0_2],[vI p0.Vault.Next],[v0_3],[v0_4],enc p0.Vault.Head],cat [[v0_5],[v0_6],[v0_7]]]) hE hM Zd ld rfl rfl fun b1 w a hM hE=>Zb hE rfl fun a hE=>Zf ?_)
 obtain ⟨j3,hl4,hF5⟩:=bind_some hF
 refine ZI (fun a w=>Env 22 a [(2,vT j3)] ∧ M (Old w0) w0 w []) ?_ ?_
 ·skip
  refine wp_region_lit (Zg hE rfl (zi) fun a hE=>Zn hE rfl Te rfl (At.cat (pre:=[]) hM.rawAt0 cl0) cq ?_); intro a hE
  obtain ⟨r6,e7,hl4⟩:=bind_some hl4
  refine Zv hE rfl (cbm Tryz.func31) (yx _ p0.Cipher r6 e7) ?_
  rintro v w a ⟨rfl,hK⟩ hE
  have hM:=hM.keep hK
  refine Ze hE rfl ?_; intro a hE
  refine Yb r6 (fun hb8=>?_) (fun hb8=>?_)
  ·have hl4:=Zu hl4 hb8
   refine ZB hE (Zi hE rfl (lkb rfl hb8)) (by decide) rfl (zn) fun a hE=>ZY (v:=v0_1) hE (Zi hE rfl (lkb rfl hb8)) (by decide) rfl XB rfl (At.cat (pre:=[cat [[vI p0.Cipher.Field],enc p0.Cipher.Box,enc p0.Cipher.Mix,enc p0.Cipher.Places,[vI p0.Cipher.Rounds]],enc p0.Key,enc p0.Start]) hM.rawAt0 ck) fun a hE=>TQ hE (Zi hE rfl (lkb rfl hb8)) (by decide) rfl Tryz.underlying32 (hM.rd hv0_1) fun a hE=>Wa hE (Zi hE rfl (lkb rfl hb8)) (by decide) rfl rfl rfl fun a hE=>ZG hE (lkb rfl hb8) rfl fun a hE=>Ze hE rfl ?_; intro a hE
   refine Yb (decide ((p0.Data.length : Int) ≤ 200)) (fun hb9=>?_) (fun hb9=>?_)
   ·have hl4:=Zu hl4 hb9
    refine ZB hE (Zi hE rfl (lkb rfl hb9)) (by decide) rfl (zA) fun a hE=>TY hE (Zi hE rfl (lkb rfl hb9)) (by decide) rfl K9 rfl (At.cat (pre:=[cat [[vI p0.Cipher.Field],enc p0.Cipher.Box,enc p0.Cipher.Mix,enc p0.Cipher.Places,[vI p0.Cipher.Rounds]],enc p0.Key,enc p0.Start,[v0_1]]) hM.rawAt0 ck) cq ?_; intro a hE
    obtain ⟨r10,e11,hl4⟩:=bind_some hl4
    refine WL hE (Zi hE rfl (lkb rfl hb9)) (by decide) rfl (cbm Tryz.func32) (AR _ p0.Vault v0_2 (hM.rdo hv0_2) v0_3 (hM.rdo hv0_3) v0_4 (hM.rdo hv0_4) r10 e11) ?_
    rintro v w a ⟨rfl,hK⟩ hE
    have hM:=hM.keep hK
    refine ZG hE (lkb rfl hb9) rfl fun a hE=>Ze hE rfl ?_; intro a hE
    refine Yb r10 (fun hb12=>?_) (fun hb12=>?_)
    ·have hl4:=Zu hl4 hb12
     refine ZB hE (Zi hE rfl (lkb rfl hb12)) (by decide) rfl (AB) fun a hE=>TY hE (Zi hE rfl (lkb rfl hb12)) (by decide) rfl Hc rfl (At.cat (pre:=[cat [[vI p0.Cipher.Field],enc p0.Cipher.Box,enc p0.Cipher.Mix,enc p0.Cipher.Places,[vI p0.Cipher.Rounds]],enc p0.Key,enc p0.Start,[v0_1],cat [[v0_2],[vI p0.Vault.Next],[v0_3],[v0_4],enc p0.Vault.Head]]) hM.rawAt0 ck) cq ?_; intro a hE
     obtain ⟨r13,e14,hl4⟩:=bind_some hl4
     refine WL hE (Zi hE rfl (lkb rfl hb12)) (by decide) rfl (cbm Tryz.func33) (yE _ p0.Blobs v0_5 (hM.rdo hv0_5) v0_6 (hM.rdo hv0_6) v0_7 (hM.rdo hv0_7) r13 e14) ?_
     rintro v w a ⟨rfl,hK⟩ hE
     have hM:=hM.keep hK
     refine ZG hE (lkb rfl hb12) rfl fun a hE=>Zb hE rfl fun a hE=>Zj ?_
     obtain rfl:=Option.some.inj hl4
     refine Zl ?_
     have hM:=M.fst (l:=[]) hM
     exact ⟨hE.sub ⟨rfl,trivial⟩,hM⟩
    ·have hl4:=Zt hl4 hb12
     refine Zh hE rfl (lkb rfl hb12) rfl (by decide) fun a hE=>Zh hE rfl (lkb rfl hb12) rfl (by decide) fun a hE=>Zh hE rfl (lkb rfl hb12) rfl (by decide) fun a hE=>ZL hE (lkb rfl hb12) rfl fun a hE=>Zb hE rfl fun a hE=>Zj ?_
     obtain rfl:=Option.some.inj hl4
     refine Zl ?_
     have hM:=M.fst (l:=[]) hM
     exact ⟨hE.sub ⟨rfl,trivial⟩,hM⟩
   ·have hl4:=Zt hl4 hb9
    refine Zh hE rfl (lkb rfl hb9) rfl (by decide) fun a hE=>Zh hE rfl (lkb rfl hb9) rfl (by decide) fun a hE=>Zh hE rfl (lkb rfl hb9) rfl (by decide) fun a hE=>ZL hE (lkb rfl hb9) rfl fun a hE=>Ze hE rfl fun a hE=>Zh hE rfl rfl rfl (by decide) fun a hE=>Zh hE rfl rfl rfl (by decide) fun a hE=>Zh hE rfl rfl rfl (by decide) fun a hE=>ZL hE rfl rfl fun a hE=>Zb hE rfl fun a hE=>Zj ?_
    obtain rfl:=Option.some.inj hl4
    refine Zl ?_
    have hM:=M.fst (l:=[]) hM
    exact ⟨hE.sub ⟨rfl,trivial⟩,hM⟩
  ·have hl4:=Zt hl4 hb8
   refine Zh hE rfl (lkb rfl hb8) rfl (by decide) fun a hE=>Zh hE rfl (lkb rfl hb8) rfl (by decide) fun a hE=>Zh hE rfl (lkb rfl hb8) rfl (by decide) fun a hE=>Zh hE rfl (lkb rfl hb8) rfl (by decide) fun a hE=>ZL hE (lkb rfl hb8) rfl fun a hE=>Ze hE rfl fun a hE=>Zh hE rfl rfl rfl (by decide) fun a hE=>Zh hE rfl rfl rfl (by decide) fun a hE=>Zh hE rfl rfl rfl (by decide) fun a hE=>ZL hE rfl rfl fun a hE=>Ze hE rfl fun a hE=>Zh hE rfl rfl rfl (by decide) ?_; intro a hE
   refine Zh hE rfl rfl rfl (by decide) fun a hE=>Zh hE rfl rfl rfl (by decide) fun a hE=>ZL hE rfl rfl fun a hE=>Zb hE rfl fun a hE=>Zj ?_
   obtain rfl:=Option.some.inj hl4
   refine Zl ?_
   have hM:=M.fst (l:=[]) hM
   exact ⟨hE.sub ⟨rfl,trivial⟩,hM⟩
 ·skip
  rintro a w ⟨hE,hM⟩
  obtain rfl:=Option.some.inj hF5
  exact wp_ret (kr1 hE rfl rfl hM.kept)
def Yp (p0 : Int) (p1 : Int) (p2 : Int) : Option (Bool) :=
 (if (decide (p1 ≤ p0)) = true then (some (decide (p0 ≤ p2))) else (some false) : Option (Bool)).bind fun j1=>some j1
theorem Yi (w0 : World) (p0 : Int) (p1 : Int) (p2 : Int) (r : Bool) (hF : Yp p0 p1 p2 = some r) :
  Calls Tryz.prog 98 [vI p0,vI p1,vI p2].toArray w0 (Rt w0 (vT r)):=by
 refine ce Tryz.func98 ?_
 intro a hE
 have hM:=M.start w0
 unfold Yp at hF
 refine Za (Zb hE rfl fun a hE=>Zf ?_)
 obtain ⟨j1,hl2,hF3⟩:=bind_some hF
 refine ZI (fun a w=>Env 15 a [(6,vT j1)] ∧ M (Old w0) w0 w []) ?_ ?_
 ·skip
  refine wp_region_lit (Ze hE rfl fun a hE=>Ze hE rfl fun a hE=>Zk hE rfl rfl rfl fun a hE=>Ze hE rfl ?_); intro a hE
  refine Yb (decide (p1 ≤ p0)) (fun hb4=>?_) (fun hb4=>?_)
  ·have hl2:=Zu hl2 hb4
   refine Y3 hE (Zi hE rfl (lkb rfl hb4)) (by decide) rfl fun a hE=>Y3 hE (Zi hE rfl (lkb rfl hb4)) (by decide) rfl fun a hE=>Wa hE (Zi hE rfl (lkb rfl hb4)) (by decide) rfl rfl rfl fun a hE=>ZG hE (lkb rfl hb4) rfl fun a hE=>Zb hE rfl fun a hE=>Zj ?_
   obtain rfl:=Option.some.inj hl2
   refine Zl ?_
   exact ⟨hE.sub ⟨rfl,trivial⟩,hM⟩
  ·have hl2:=Zt hl2 hb4
   refine Zh hE rfl (lkb rfl hb4) rfl (by decide) fun a hE=>Zh hE rfl (lkb rfl hb4) rfl (by decide) fun a hE=>Zh hE rfl (lkb rfl hb4) rfl (by decide) fun a hE=>ZL hE (lkb rfl hb4) rfl fun a hE=>Zb hE rfl fun a hE=>Zj ?_
   obtain rfl:=Option.some.inj hl2
   refine Zl ?_
   exact ⟨hE.sub ⟨rfl,trivial⟩,hM⟩
 ·skip
  rintro a w ⟨hE,hM⟩
  obtain rfl:=Option.some.inj hF3
  exact wp_ret (kr1 hE rfl rfl hM.kept)
def Tr (p1 : Int) (p2 : Int) (s4 : Int × Int) : Option (Fl (Int × Int) Int) :=
 if (decide (s4.2 ≥ p2)) = true then (((YI s4.2).bind fun _=>(if ((BO (K5 s4.1 s4.2) 1) == 1) = true then ((YI (wr (s4.2 - p2))).bind fun _=>some (Ki s4.1 (Jq p1 (wr (s4.2 - p2))))) else (some s4.1) : Option (Int)).bind fun j13=>some j13 : Option (Int)).bind fun j9=>some (Fl.nx (j9,wr (s4.2 - 1)))) else (some (Fl.ex s4.1))
def U5 (p0 : Int) (p1 : Int) (p2 : Int) : Option (Int) :=
 (ZD (Tr p1 p2) (p0,15)).bind fun j1=>some j1
theorem BC (w0 : World) (p0 : Int) (p1 : Int) (p2 : Int) (r : Int) (hF : U5 p0 p1 p2 = some r) :
  Calls Tryz.prog 126 [vI p0,vI p1,vI p2].toArray w0 (Rt w0 (vI r)):=by
 refine ce Tryz.func126 ?_
 intro a hE
 have hM:=M.start w0
 unfold U5 at hF
 refine Za (Zb hE rfl fun a hE=>Zf (wp_seq (Za (Zb hE rfl fun a hE=>Zf ?_))))
 obtain ⟨j1,hl2,hF3⟩:=bind_some hF
 refine ZJ (fun a w=>Env 26 a [(0,vI j1)] ∧ M (Old w0) w0 w []) ?_ ?_
 ·skip
  refine wp_block ?_
  refine ZE (fun (s4 : Int × Int) a w=>Env 26 a [(0,vI s4.1),(1,vI p1),(2,vI p2),(7,vI s4.2)] ∧ M (Old w0) w0 w []) hl2 ⟨hE.sub ⟨rfl,rfl,rfl,rfl,trivial⟩,hM⟩ ?_
  rintro s4 a w ⟨hE,hM⟩ o7 hs5 hx6
  unfold Tr at hs5
  refine wp_seq (Za (Ze hE rfl fun a hE=>Ze hE rfl fun a hE=>Zk hE rfl rfl rfl fun a hE=>Zf ?_))
  refine Zq hE rfl ?_ ?_
  ·intro hb8
   have hs5:=Zu hs5 hb8
   refine wp_skip (Zy ?_)
   obtain ⟨j9,hl10,hF11⟩:=bind_some hs5
   refine ZI (fun a w=>Env 26 a [(0,vI j9),(1,vI p1),(2,vI p2),(7,vI s4.2)] ∧ M (Old w0) w0 w []) ?_ ?_
   ·skip
    refine wp_block (Za (Ze hE rfl fun a hE=>Ze hE rfl ?_)); intro a hE
    obtain ⟨_,e12,hl10⟩:=bind_some hl10
    have e12:=Xz e12
    refine HX hE Zd ld rfl rfl (yF _ _ e12) fun a hE=>Zk hE rfl rfl rfl fun a hE=>Zk hE rfl rfl rfl fun a hE=>Zf ?_
    obtain ⟨j13,hl14,hF15⟩:=bind_some hl10
    refine ZJ (fun a w=>Env 26 a [(0,vI j13),(1,vI p1),(2,vI p2),(7,vI s4.2)] ∧ M (Old w0) w0 w []) ?_ ?_
    ·skip
     refine Zq hE rfl ?_ ?_
     ·intro hb16
      have hl14:=Zu hl14 hb16
      refine wp_region_lit (Ze hE rfl fun a hE=>Ze hE rfl fun a hE=>Ze hE rfl fun a hE=>Ze hE rfl fun a hE=>Zk hE rfl rfl rfl ?_); intro a hE
      obtain ⟨_,e17,hl14⟩:=bind_some hl14
      have e17:=Xz e17
      refine HX hE Zd ld rfl rfl (Ba _ _ e17) fun a hE=>Zk hE rfl rfl rfl fun a hE=>Zb hE rfl fun a hE=>Zj ?_
      obtain rfl:=Option.some.inj hl14
      refine Zl ?_
      exact ⟨hE.sub ⟨rfl,rfl,rfl,rfl,trivial⟩,hM⟩
     ·intro hb16
      have hl14:=Zt hl14 hb16
      refine wp_skip ?_
      obtain rfl:=Option.some.inj hl14
      refine Zl ?_
      exact ⟨hE.sub ⟨rfl,rfl,rfl,rfl,trivial⟩,hM⟩
    ·skip
     rintro a w ⟨hE,hM⟩
     refine Z0 ?_
     obtain rfl:=Option.some.inj hF15
     refine Zl ?_
     exact ⟨hE.sub ⟨rfl,rfl,rfl,rfl,trivial⟩,hM⟩
   ·skip
    rintro a w ⟨hE,hM⟩
    refine wp_region_lit (Ze hE rfl fun a hE=>Zk hE rfl rfl rfl fun a hE=>Zb hE rfl fun a hE=>Zj (Zl ?_))
    exact ⟨_,(ois hF11),hE.sub ⟨rfl,rfl,rfl,rfl,trivial⟩,hM⟩
  ·intro hb8
   have hs5:=Zt hs5 hb8
   refine wp_exit (Zp (Zp (Z1 ?_)))
   obtain rfl:=hx6 _ (ois hs5)
   refine Zl ?_
   exact ⟨hE.sub ⟨rfl,trivial⟩,hM⟩
 ·skip
  rintro a w ⟨hE,hM⟩
  refine Zy (Za (Ze hE rfl fun a hE=>Zb hE rfl fun a hE=>Zf ?_))
  obtain rfl:=Option.some.inj hF3
  exact wp_ret (kr1 hE rfl rfl hM.kept)
def WU (p0 : Int) (s8 : Int) (s18 : Int) : Option (Fl Int (Fl Unit Bool)) :=
 (YI s8).bind fun _=>if (decide (s18 < (Jq 2 s8))) = true then ((U5 p0 s18 s8).bind fun r24=>if (r24 == 0) = true then (some (Fl.ex (Fl.ex false))) else (some (Fl.nx (wr (s18 + 1))))) else (some (Fl.ex (Fl.nx ())))
def WV (p0 : Int) (s8 : Int) : Option (Fl Int (Fl Unit Bool)) :=
 if (decide (s8 ≤ 4)) = true then ((YI s8).bind fun _=>(ZD (WU p0 s8) (Jq 1 s8)).bind fun j14=>j14.el (fun s17=>some (Fl.nx (wr (s8 + 1)))) (fun r=>some (Fl.ex (Fl.ex r)))) else (some (Fl.ex (Fl.nx ())))
def Tb (p0 : Int) : Option (Bool) :=
 (Yp p0 256 511).bind fun r1=>if (!r1) = true then (some false) else ((ZD (WV p0) 1).bind fun j4=>j4.el (fun s7=>some true) (fun r=>some r))
theorem zu (w0 : World) (p0 : Int) (r : Bool) (hF : Tb p0 = some r) :
  Calls Tryz.prog 94 [vI p0].toArray w0 (Rt w0 (vT r)):=by
 refine ce Tryz.func94 ?_
 intro a hE
 have hM:=M.start w0
 unfold Tb at hF
 refine Za (Zb hE rfl fun a hE=>Zf (wp_seq (Za (Ze hE rfl ?_)))); intro a hE
 obtain ⟨r1,e2,hF⟩:=bind_some hF
 refine Zv hE rfl HI (Yi _ p0 256 511 r1 e2) ?_
 rintro v w a ⟨rfl,hK⟩ hE
 have hM:=hM.keep hK
 refine YO hE rfl fun a hE=>Zf ?_
 refine Zq hE rfl ?_ ?_
 ·intro hb3
  have hF:=Zu hF hb3
  refine Za (Zb hE rfl fun a hE=>Zf ?_)
  obtain rfl:=Option.some.inj hF
  exact wp_ret (Zs (kr1 hE rfl rfl hM.kept))
 ·intro hb3
  have hF:=Zt hF hb3
  refine wp_skip (Zy (wp_seq (Za (Zb hE rfl fun a hE=>Zf ?_))))
  obtain ⟨j4,hl5,hF6⟩:=bind_some hF
  refine ZJ (fun a w=>∃ s7 : Unit,j4 = Fl.nx s7 ∧ Env 25 a [] ∧ M (Old w0) w0 w []) ?_ ?_
  ·skip
   refine wp_block ?_
   refine ZE (fun (s8 : Int) a w=>Env 25 a [(0,vI p0),(3,vI s8)] ∧ M (Old w0) w0 w []) hl5 ⟨hE.sub ⟨rfl,rfl,trivial⟩,hM⟩ ?_
   rintro s8 a w ⟨hE,hM⟩ o11 hs9 hx10
   unfold WV at hs9
   refine wp_seq (Za (Ze hE rfl fun a hE=>Zk hE rfl rfl rfl fun a hE=>Zf ?_))
   refine Zq hE rfl ?_ ?_
   ·intro hb12
    have hs9:=Zu hs9 hb12
    refine wp_skip (Zy (wp_seq (wp_block (Za (Ze hE rfl ?_))))); intro a hE
    obtain ⟨_,e13,hs9⟩:=bind_some hs9
    have e13:=Xz e13
    refine HX hE Zd ld rfl rfl (Ba _ _ e13) fun a hE=>Zb hE rfl fun a hE=>Zf ?_
    obtain ⟨j14,hl15,hF16⟩:=bind_some hs9
    refine ZJ (fun a w=>∃ s17 : Unit,j14 = Fl.nx s17 ∧ Env 25 a [(0,vI p0),(3,vI s8)] ∧ M (Old w0) w0 w []) ?_ ?_
    ·skip
     refine wp_block ?_
     refine ZE (fun (s18 : Int) a w=>Env 25 a [(0,vI p0),(3,vI s8),(4,vI s18)] ∧ M (Old w0) w0 w []) hl15 ⟨hE.sub ⟨rfl,rfl,rfl,trivial⟩,hM⟩ ?_
     rintro s18 a w ⟨hE,hM⟩ o21 hs19 hx20
     unfold WU at hs19
     refine wp_seq (Za (Ze hE rfl fun a hE=>Ze hE rfl ?_)); intro a hE
     obtain ⟨_,e22,hs19⟩:=bind_some hs19
     have e22:=Xz e22
     refine HX hE Zd ld rfl rfl (Ba _ _ e22) fun a hE=>Zk hE rfl rfl rfl fun a hE=>Zf ?_
     refine Zq hE rfl ?_ ?_
     ·intro hb23
      have hs19:=Zu hs19 hb23
      refine wp_skip (Zy (wp_seq (wp_block (Za (Ze hE rfl fun a hE=>Ze hE rfl fun a hE=>Ze hE rfl ?_))))); intro a hE
      obtain ⟨r24,e25,hs19⟩:=bind_some hs19
      refine Zv hE rfl (cbm Tryz.func126) (BC _ p0 s18 s8 r24 e25) ?_
      rintro v w a ⟨rfl,hK⟩ hE
      have hM:=hM.keep hK
      refine Zk hE rfl rfl rfl fun a hE=>Zf ?_
      refine Zq hE rfl ?_ ?_
      ·intro hb26
       have hs19:=Zu hs19 hb26
       refine Za (Zb hE rfl fun a hE=>Zf ?_)
       obtain rfl:=hx20 _ (ois hs19)
       obtain rfl:=hx10 _ (ois hF16)
       obtain rfl:=Option.some.inj hF6
       exact wp_ret (Z4 (Zs (Zs (Z4 (Zs (Z4 (Zs (Zs (Z4 (Zs (Zs (kr1 hE rfl rfl hM.kept))))))))))))
      ·intro hb26
       have hs19:=Zt hs19 hb26
       refine wp_skip (Z0 (Zy (wp_region_lit (Ze hE rfl fun a hE=>Zk hE rfl rfl rfl fun a hE=>Zb hE rfl fun a hE=>Zj (Zl ?_)))))
       exact ⟨_,(ois hs19),hE.sub ⟨rfl,rfl,rfl,trivial⟩,hM⟩
     ·intro hb23
      have hs19:=Zt hs19 hb23
      refine wp_exit (Zp (Zp (Z1 ?_)))
      obtain rfl:=hx20 _ (ois hs19)
      refine Zl ?_
      exact ⟨(),rfl,hE.sub ⟨rfl,rfl,trivial⟩,hM⟩
    ·skip
     rintro a w ⟨s17,ht,hE,hM⟩
     subst ht
     have hF16:=X7 hF16
     refine Z0 (Zy (wp_region_lit (Ze hE rfl fun a hE=>Zk hE rfl rfl rfl fun a hE=>Zb hE rfl fun a hE=>Zj (Zl ?_))))
     exact ⟨_,(ois hF16),hE.sub ⟨rfl,rfl,trivial⟩,hM⟩
   ·intro hb12
    have hs9:=Zt hs9 hb12
    refine wp_exit (Zp (Zp (Z1 ?_)))
    obtain rfl:=hx10 _ (ois hs9)
    refine Zl ?_
    exact ⟨(),rfl,hE.sub trivial,hM⟩
  ·skip
   rintro a w ⟨s7,ht,hE,hM⟩
   subst ht
   have hF6:=X7 hF6
   refine Zy (Za (Zb hE rfl fun a hE=>Zf ?_))
   obtain rfl:=Option.some.inj hF6
   exact wp_ret (kr1 hE rfl rfl hM.kept)
def Yv (p0 : (List Bool)) (p1 : Bool) (s5 : Int) : Option (Fl Int (Fl Unit Int)) :=
 if (decide (s5 < (p0.length : Int))) = true then ((idx p0 s5).bind fun x10=>if (p1 == x10) = true then (some (Fl.ex (Fl.ex s5))) else (some (Fl.nx (wr (s5 + 1))))) else (some (Fl.ex (Fl.nx ())))
def XP (p0 : (List Bool)) (p1 : Bool) : Option (Int) :=
 (ZD (Yv p0 p1) 0).bind fun j1=>j1.el (fun s4=>some (-1)) (fun r=>some r)
theorem Kw (w0 : World) (p0 : (List Bool)) (v0_1 : Value) (hv0_1 : Ro w0 p0 [v0_1]) (p1 : Bool) (r : Int) (hF : XP p0 p1 = some r) :
  Calls Tryz.prog 152 [v0_1,vT p1].toArray w0 (Rt w0 (vI r)):=by
 refine ce Tryz.func152 ?_
 intro a hE
 have hM:=M.start w0
 unfold XP at hF
 refine Za (Zb hE rfl fun a hE=>Zf (wp_seq (Za (Ze hE rfl fun a hE=>ZZ hE rfl Tryz.underlying170 (hM.rd hv0_1) fun a hE=>Ze hE rfl fun a hE=>Zf ?_))))
 obtain ⟨j1,hl2,hF3⟩:=bind_some hF
 refine ZJ (fun a w=>∃ s4 : Unit,j1 = Fl.nx s4 ∧ Env 19 a [] ∧ M (Old w0) w0 w []) ?_ ?_
 ·skip
  refine wp_block ?_
  refine ZE (fun (s5 : Int) a w=>Env 19 a [(0,v0_1),(1,vT p1),(7,(vI (p0.length : Int))),(8,vI s5)] ∧ M (Old w0) w0 w []) hl2 ⟨hE.sub ⟨rfl,rfl,rfl,rfl,trivial⟩,hM⟩ ?_
  rintro s5 a w ⟨hE,hM⟩ o8 hs6 hx7
  unfold Yv at hs6
  refine Za (Zk hE rfl rfl rfl fun a hE=>Zf (wp_seq ?_))
  refine Zq hE rfl ?_ ?_
  ·intro hb9
   have hs6:=Zu hs6 hb9
   refine wp_skip (Zy (wp_seq (wp_block (Za (Ze hE rfl fun a hE=>Zb hE rfl fun a hE=>Zf (Za (Ze hE rfl fun a hE=>Ze hE rfl fun a hE=>Ze hE rfl ?_))))))); intro a hE
   obtain ⟨x10,hi12,hs6⟩:=bix hs6
   refine ZK hE rfl rfl Tryz.underlying170 ty4 (hM.rd hv0_1) hi12.1 fun a hE=>Zx (v:=(vT x10)) hE rfl ty4 rfl (Ys (hM.rd hv0_1) hi12.2) fun a hE=>s_eqT hE Zd ld rfl rfl Tryz.underlying4 fun a hE=>Zf ?_
   refine Zq hE rfl ?_ ?_
   ·intro hb13
    have hs6:=Zu hs6 hb13
    refine Za (Ze hE rfl fun a hE=>Zb hE rfl fun a hE=>Zf ?_)
    obtain rfl:=hx7 _ (ois hs6)
    obtain rfl:=Option.some.inj hF3
    exact wp_ret (Z4 (Zs (Zs (Z4 (Zs (Zs (kr1 hE rfl rfl hM.kept)))))))
   ·intro hb13
    have hs6:=Zt hs6 hb13
    refine wp_skip (Z0 (Zy (wp_region_lit (Zk hE rfl rfl rfl fun a hE=>Ze hE rfl fun a hE=>Zj (Zl ?_)))))
    exact ⟨_,(ois hs6),hE.sub ⟨rfl,rfl,rfl,rfl,trivial⟩,hM⟩
  ·intro hb9
   have hs6:=Zt hs6 hb9
   refine wp_exit (Zp (Zp (Z1 ?_)))
   obtain rfl:=hx7 _ (ois hs6)
   refine Zl ?_
   exact ⟨(),rfl,hE.sub trivial,hM⟩
 ·skip
  rintro a w ⟨s4,ht,hE,hM⟩
  subst ht
  have hF3:=X7 hF3
  refine Zy (Za (Zb hE rfl fun a hE=>Zf ?_))
  obtain rfl:=Option.some.inj hF3
  exact wp_ret (kr1 hE rfl rfl hM.kept)
def YF (p0 : (List Bool)) (p1 : Bool) : Option (Bool) :=
 (XP p0 p1).bind fun r1=>some (decide (r1 ≥ 0))
theorem QW (w0 : World) (p0 : (List Bool)) (v0_1 : Value) (hv0_1 : Ro w0 p0 [v0_1]) (p1 : Bool) (r : Bool) (hF : YF p0 p1 = some r) :
  Calls Tryz.prog 127 [v0_1,vT p1].toArray w0 (Rt w0 (vT r)):=by
 refine ce Tryz.func127 ?_
 intro a hE
 have hM:=M.start w0
 unfold YF at hF
 refine Za (Zb hE rfl fun a hE=>Zf (Za (Ze hE rfl fun a hE=>Ze hE rfl ?_))); intro a hE
 obtain ⟨r1,e2,hF⟩:=bind_some hF
 refine Zv hE rfl (cbm Tryz.func152) (Kw _ p0 v0_1 (hM.rdo hv0_1) p1 r1 e2) ?_
 rintro v w a ⟨rfl,hK⟩ hE
 have hM:=hM.keep hK
 refine Zk hE rfl rfl rfl fun a hE=>Zb hE rfl fun a hE=>Zf ?_
 obtain rfl:=Option.some.inj hF
 exact wp_ret (kr1 hE rfl rfl hM.kept)
def Y0 (p0 : (Vector UInt8 256)) (s8 : (Vector Bool 256) × Int) : Option (Fl ((Vector Bool 256) × Int) (Vector Bool 256)) :=
 if (decide (s8.2 < 256)) = true then ((ZC p0 s8.2).bind fun x13=>(ZC s8.1 (bI x13)).bind fun x17=>some (Fl.nx ((s8.1.setIfInBounds ((bI x13)).toNat true),wr (s8.2 + 1)))) else (some (Fl.ex s8.1))
def XT (p0 : (Vector UInt8 256)) : Option (Bool) :=
 (ZD (Y0 p0) ((Vector.replicate 256 false),0)).bind fun j5=>(slc j5.toList (0 : Int) (256 : Int)).bind fun l20=>(YF l20 false).bind fun r23=>some (!r23)
theorem Jo (w0 : World) (p0 : (Vector UInt8 256)) (r : Bool) (hF : XT p0 = some r) :
  Calls Tryz.prog 95 [(Value.agg (enc p0).toArray)].toArray w0 (Rt w0 (vT r)):=by
 refine ce Tryz.func95 ?_
 intro a hE
 have hM:=M.start w0
 unfold XT at hF
 refine Za (ZM (cs:=enc p0) hE hM Zd ld rfl rfl fun b1 w a hM hE=>Zb hE rfl fun a hE=>Zf (Za (YU (parts:=[]) (vs:=[]) (cs:=enc (Vector.replicate 256 false)) hE Zd ld rfl rfl z2 rfl ty4 Yu fun a hE=>Zz hE hM z2 fun b3 w a hM hE=>Zo (seg:=enc (Vector.replicate 256 false)) (cs':=enc (Vector.replicate 256 false)) hE hM Zd rfl rfl rfl z2 (Flat.len _) (zle flq) (Flat.cell _) (Zr flq) fun w a hM hE=>Zf (wp_seq (Za (Zn hE rfl Wu rfl hM.rawAt1 (Flat.len _) fun a hE=>Ze hE rfl fun a hE=>Zf ?_))))))
 obtain ⟨j5,hl6,hF7⟩:=bind_some hF
 refine ZJ (fun a w=>Env 17 a [(3,(ptr b3 0))] ∧ M (Old w0) w0 w [raw b3 (enc j5)]) ?_ ?_
 ·skip
  refine wp_block ?_
  have hM:=M.fst (l:=[_]) hM
  refine ZE (fun (s8 : (Vector Bool 256) × Int) a w=>Env 17 a [(3,(ptr b3 0)),(7,(Value.agg (enc p0).toArray)),(8,vI s8.2)] ∧ M (Old w0) w0 w [raw b3 (enc s8.1)]) hl6 ⟨hE.sub ⟨rfl,rfl,rfl,trivial⟩,hM⟩ ?_
  rintro s8 a w ⟨hE,hM⟩ o11 hs9 hx10
  unfold Y0 at hs9
  refine Za (Zk hE rfl rfl rfl fun a hE=>Zf (wp_seq ?_))
  refine Zq hE rfl ?_ ?_
  ·intro hb12
   have hs9:=Zu hs9 hb12
   refine wp_skip (Zy (wp_seq (wp_block (Za ?_))))
   obtain ⟨x13,hi15,hs9⟩:=bvx hs9
   refine Q6 hE Zd ld rfl rfl Tryz.underlying23 ty5 rfl rfl hi15 rfl fun a hE=>Zb hE rfl fun a hE=>Zf (wp_region_lit (Ze hE rfl ?_)); intro a hE
   obtain ⟨x17,hi16,hs9⟩:=bvx hs9
   refine Zm hE rfl rfl Tryz.underlying158 ty4 hi16.1 fun a hE=>Zo (seg:=[vT true]) (cs':=enc (s8.1.setIfInBounds ((bI x13)).toNat true)) hE hM Zd rfl rfl rfl ty4 rfl (ZH (v:=s8.1) (x:=true) hi16.1) (Flat.cell (true : Bool)) (ZA (v:=s8.1) (x:=true) hi16.1) fun w a hM hE=>Zj (Z0 (Zy (wp_region_lit (Zk hE rfl rfl rfl fun a hE=>Ze hE rfl fun a hE=>Zj (Zl ?_)))))
   exact ⟨_,(ois hs9),hE.sub ⟨rfl,rfl,rfl,trivial⟩,hM⟩
  ·intro hb12
   have hs9:=Zt hs9 hb12
   refine wp_exit (Zp (Zp (Z1 ?_)))
   obtain rfl:=hx10 _ (ois hs9)
   refine Zl ?_
   exact ⟨hE.sub ⟨rfl,trivial⟩,hM⟩
 ·skip
  rintro a w ⟨hE,hM⟩
  refine Zy (Za ?_)
  obtain ⟨l20,e21,hF7⟩:=bind_some hF7
  have hb22:=QV e21 -- ^
  refine VZ (N:=256) hE Zd ld rfl rfl rfl rfl rfl Tryz.underlying158 ty4 hb22 ?_; intro a hE
  obtain ⟨r23,e24,hF7⟩:=bind_some hF7
  refine Zv hE rfl (cbm Tryz.func127) (QW _ l20 (Z9 (.slice (some ⟨b3,0,none⟩) 256 256) ((0 : Int)).toNat ((256 : Int)).toNat 1) (W9 (At.sat hM.rawAt0 (by simp) (by decide)) e21) false r23 e24) ?_
  rintro v w a ⟨rfl,hK⟩ hE
  have hM:=hM.keep hK
  refine YO hE rfl fun a hE=>Zb hE rfl fun a hE=>Zf ?_
  obtain rfl:=Option.some.inj hF7
  exact wp_ret (kr1 hE rfl rfl hM.kept)
def T3 (s8 : (Vector (Vector UInt8 4) 4) × Int) : Option (Fl ((Vector (Vector UInt8 4) 4) × Int) (Vector (Vector UInt8 4) 4)) :=
 if (decide (s8.2 < 4)) = true then ((ZC s8.1 s8.2).bind fun x14=>(ZC x14 s8.2).bind fun x17=>some (Fl.nx ((s8.1.setIfInBounds (s8.2).toNat (x14.setIfInBounds (s8.2).toNat 1)),wr (s8.2 + 1)))) else (some (Fl.ex s8.1))
def Vf : Option ((Vector (Vector UInt8 4) 4)) :=
 (ZD (T3) ((Vector.replicate 4 (Vector.replicate 4 (0 : UInt8))),0)).bind fun j5=>some j5
theorem Hy (w0 : World)  (r : (Vector (Vector UInt8 4) 4)) (hF : Vf  = some r) :
  Calls Tryz.prog 153 [].toArray w0 (Rt w0 (Value.agg (enc r).toArray)):=by
 refine ce Tryz.func153 ?_
 intro a hE
 have hM:=M.start w0
 unfold Vf at hF
 refine Za (Zz hE hM Xc fun b1 w a hM hE=>Zf (Za (YU (parts:=[]) (vs:=[]) (cs:=enc (Vector.replicate 4 (Vector.replicate 4 (0 : UInt8)))) hE Zd ld rfl rfl Xc rfl Yh Yu fun a hE=>Zz hE hM Xc fun b3 w a hM hE=>Zo (seg:=enc (Vector.replicate 4 (Vector.replicate 4 (0 : UInt8)))) (cs':=enc (Vector.replicate 4 (Vector.replicate 4 (0 : UInt8)))) hE hM Zd rfl rfl rfl Xc (Flat.len _) (zle flq) (Flat.cell _) (Zr flq) fun w a hM hE=>Zf (wp_seq (Za (Ze hE rfl fun a hE=>Zf ?_))))))
 obtain ⟨j5,hl6,hF7⟩:=bind_some hF
 refine ZJ (fun a w=>Env 13 a [(0,(ptr b1 0)),(1,(ptr b3 0))] ∧ M (Old w0) w0 w [raw b3 (enc j5),raw b1 (enc (Vector.replicate 4 (Vector.replicate 4 (0 : UInt8))))]) ?_ ?_
 ·skip
  refine wp_block ?_
  refine ZE (fun (s8 : (Vector (Vector UInt8 4) 4) × Int) a w=>Env 13 a [(0,(ptr b1 0)),(1,(ptr b3 0)),(4,vI s8.2)] ∧ M (Old w0) w0 w [raw b3 (enc s8.1),raw b1 (enc (Vector.replicate 4 (Vector.replicate 4 (0 : UInt8))))]) hl6 ⟨hE.sub ⟨rfl,rfl,rfl,trivial⟩,hM⟩ ?_
  rintro s8 a w ⟨hE,hM⟩ o11 hs9 hx10
  unfold T3 at hs9
  refine Za (Zk hE rfl rfl rfl fun a hE=>Zf (wp_seq ?_))
  refine Zq hE rfl ?_ ?_
  ·intro hb12
   have hs9:=Zu hs9 hb12
   refine wp_skip (Zy (wp_seq (wp_block (Za (Ze hE rfl fun a hE=>Zb hE rfl fun a hE=>Zf (wp_region_lit (Ze hE rfl fun a hE=>Ze hE rfl ?_))))))); intro a hE
   obtain ⟨x14,hi13,hs9⟩:=bvx hs9
   refine Zm hE rfl rfl Tryz.underlying26 Yh hi13.1 ?_; intro a hE
   obtain ⟨x17,hi16,hs9⟩:=bvx hs9
   refine Zm hE rfl rfl Tryz.underlying24 ty5 hi16.1 fun a hE=>Zo (seg:=[vB 1]) (cs':=enc (s8.1.setIfInBounds (s8.2).toNat (x14.setIfInBounds (s8.2).toNat 1))) hE hM Zd rfl rfl rfl ty5 rfl (XX (o':=0 + (s8.2).toNat * 1) hi13 (ZH (v:=x14) (x:=1) hi16.1) (by first | omega | (simp only [Flat.n] <;> omega))) (Flat.cell (1 : UInt8)) (YW (o':=0 + (s8.2).toNat * 1) hi13 (ZH (v:=x14) (x:=1) hi16.1) (ZA (v:=x14) (x:=1) hi16.1) (by first | omega | (simp only [Flat.n] <;> omega))) fun w a hM hE=>Zj (Z0 (Zy (wp_region_lit (Zk hE rfl rfl rfl fun a hE=>Ze hE rfl fun a hE=>Zj (Zl ?_)))))
   exact ⟨_,(ois hs9),hE.sub ⟨rfl,rfl,rfl,trivial⟩,hM⟩
  ·intro hb12
   have hs9:=Zt hs9 hb12
   refine wp_exit (Zp (Zp (Z1 ?_)))
   obtain rfl:=hx10 _ (ois hs9)
   refine Zl ?_
   exact ⟨hE.sub ⟨rfl,rfl,trivial⟩,hM⟩
 ·skip
  rintro a w ⟨hE,hM⟩
  refine Zy (Za (Zn hE rfl Xc rfl hM.rawAt0 (Flat.len _) ?_)); intro a hE
  have hM:=hM.pull1
  refine Zo (seg:=enc j5) (cs':=enc j5) hE hM Zd rfl rfl rfl Xc (Flat.len _) (zle flq) (Flat.cell _) (Zr flq) fun w a hM hE=>Zf ?_
  obtain rfl:=Option.some.inj hF7
  have hq20 : Yq Tryz.prog _ _ (.cell 0 26) _:=ZQ hE rfl Xc rfl hM.rawAt0 (Flat.len _) rfl
  exact wp_ret (ZS hE rfl hq20 ⟨_,rfl,rfl,hM.kept⟩)
def Xw (p1 : UInt8) (p2 : UInt8) (s4 : Int × Int) : Option (Fl (Int × Int) Int) :=
 if (decide (s4.2 < 8)) = true then (((YI s4.2).bind fun _=>(if (((zp p2 s4.2) &&& 1) == 1) = true then ((YI s4.2).bind fun _=>some (Ki s4.1 (Jq (bI p1) s4.2))) else (some s4.1) : Option (Int)).bind fun j13=>some j13 : Option (Int)).bind fun j9=>some (Fl.nx (j9,wr (s4.2 + 1)))) else (some (Fl.ex s4.1))
def Z6 (p0 : Int) (p1 : UInt8) (p2 : UInt8) : Option (UInt8) :=
 (ZD (Xw p1 p2) (0,0)).bind fun j1=>(U5 j1 p0 8).bind fun r22=>some (ZO r22)
theorem YJ (w0 : World) (p0 : Int) (p1 : UInt8) (p2 : UInt8) (r : UInt8) (hF : Z6 p0 p1 p2 = some r) :
  Calls Tryz.prog 139 [vI p0,vB p1,vB p2].toArray w0 (Rt w0 (vB r)):=by
 refine ce Tryz.func139 ?_
 intro a hE
 have hM:=M.start w0
 unfold Z6 at hF
 refine Za (Zb hE rfl fun a hE=>Zf (Za (Zb hE rfl fun a hE=>Zf (wp_seq (Za (Ze hE rfl fun a hE=>Zf ?_))))))
 obtain ⟨j1,hl2,hF3⟩:=bind_some hF
 refine ZJ (fun a w=>Env 28 a [(0,vI p0),(7,vI j1)] ∧ M (Old w0) w0 w []) ?_ ?_
 ·skip
  refine wp_block ?_
  refine ZE (fun (s4 : Int × Int) a w=>Env 28 a [(0,vI p0),(1,vB p1),(2,vB p2),(7,vI s4.1),(9,vI s4.2)] ∧ M (Old w0) w0 w []) hl2 ⟨hE.sub ⟨rfl,rfl,rfl,rfl,rfl,trivial⟩,hM⟩ ?_
  rintro s4 a w ⟨hE,hM⟩ o7 hs5 hx6
  unfold Xw at hs5
  refine Za (Zk hE rfl rfl rfl fun a hE=>Zf (wp_seq ?_))
  refine Zq hE rfl ?_ ?_
  ·intro hb8
   have hs5:=Zu hs5 hb8
   refine wp_skip (Zy ?_)
   obtain ⟨j9,hl10,hF11⟩:=bind_some hs5
   refine ZI (fun a w=>Env 28 a [(0,vI p0),(1,vB p1),(2,vB p2),(7,vI j9),(9,vI s4.2)] ∧ M (Old w0) w0 w []) ?_ ?_
   ·skip
    refine wp_block (Za (Ze hE rfl fun a hE=>Zb hE rfl fun a hE=>Zf (Za (Ze hE rfl fun a hE=>Ze hE rfl ?_)))); intro a hE
    obtain ⟨_,e12,hl10⟩:=bind_some hl10
    have e12:=Xz e12
    refine HX hE Zd ld rfl rfl (Zb1 _ _ e12) fun a hE=>Zk hE rfl rfl (bB_and (zp p2 s4.2) 1) fun a hE=>Zk hE rfl rfl (kH ((zp p2 s4.2) &&& 1) 1) fun a hE=>Zf ?_
    obtain ⟨j13,hl14,hF15⟩:=bind_some hl10
    refine ZJ (fun a w=>Env 28 a [(0,vI p0),(1,vB p1),(2,vB p2),(7,vI j13),(9,vI s4.2)] ∧ M (Old w0) w0 w []) ?_ ?_
    ·skip
     refine Zq hE rfl ?_ ?_
     ·intro hb16
      have hl14:=Zu hl14 hb16
      refine wp_region_lit (Ze hE rfl fun a hE=>Ze hE rfl fun a hE=>XM hE Zd ld rfl Tryz.underlying5 Tryz.underlying2 ?_); intro a hE
      rw [JF] at hE
      refine Ze hE rfl ?_; intro a hE
      obtain ⟨_,e17,hl14⟩:=bind_some hl14
      have e17:=Xz e17
      refine HX hE Zd ld rfl rfl (Ba _ _ e17) fun a hE=>Zk hE rfl rfl rfl fun a hE=>Zb hE rfl fun a hE=>Zj ?_
      obtain rfl:=Option.some.inj hl14
      refine Zl ?_
      exact ⟨hE.sub ⟨rfl,rfl,rfl,rfl,rfl,trivial⟩,hM⟩
     ·intro hb16
      have hl14:=Zt hl14 hb16
      refine wp_skip ?_
      obtain rfl:=Option.some.inj hl14
      refine Zl ?_
      exact ⟨hE.sub ⟨rfl,rfl,rfl,rfl,rfl,trivial⟩,hM⟩
    ·skip
     rintro a w ⟨hE,hM⟩
     refine Z0 ?_
     obtain rfl:=Option.some.inj hF15
     refine Zl ?_
     exact ⟨hE.sub ⟨rfl,rfl,rfl,rfl,rfl,trivial⟩,hM⟩
   ·skip
    rintro a w ⟨hE,hM⟩
    refine wp_region_lit (Zk hE rfl rfl rfl fun a hE=>Ze hE rfl fun a hE=>Zj (Zl ?_))
    exact ⟨_,(ois hF11),hE.sub ⟨rfl,rfl,rfl,rfl,rfl,trivial⟩,hM⟩
  ·intro hb8
   have hs5:=Zt hs5 hb8
   refine wp_exit (Zp (Zp (Z1 ?_)))
   obtain rfl:=hx6 _ (ois hs5)
   refine Zl ?_
   exact ⟨hE.sub ⟨rfl,rfl,trivial⟩,hM⟩
 ·skip
  rintro a w ⟨hE,hM⟩
  refine Zy (Za (Ze hE rfl fun a hE=>Ze hE rfl ?_)); intro a hE
  obtain ⟨r22,e23,hF3⟩:=bind_some hF3
  refine Zv hE rfl (cbm Tryz.func126) (BC _ j1 p0 8 r22 e23) ?_
  rintro v w a ⟨rfl,hK⟩ hE
  have hM:=hM.keep hK
  refine XM hE Zd ld rfl Tryz.underlying2 Tryz.underlying5 ?_; intro a hE
  rw [YB] at hE
  refine Zb hE rfl fun a hE=>Zf ?_
  obtain rfl:=Option.some.inj hF3
  exact wp_ret (kr1 hE rfl rfl hM.kept)
def Vn (p0 : Int) (s4 : UInt8 × Int × UInt8) : Option (Fl (UInt8 × Int × UInt8) UInt8) :=
 if (decide (s4.2.1 > 0)) = true then (((if ((Int.tmod s4.2.1 2) == 1) = true then ((Z6 p0 s4.2.2 s4.1).bind fun r16=>some r16) else (some s4.2.2) : Option (UInt8)).bind fun j12=>(Z6 p0 s4.1 s4.1).bind fun r20=>some (r20,j12) : Option (UInt8 × UInt8)).bind fun j9=>some (Fl.nx (j9.1,wr (Int.tdiv s4.2.1 2),j9.2))) else (some (Fl.ex s4.2.2))
def XJ (p0 : Int) (p1 : UInt8) (p2 : Int) : Option (UInt8) :=
 (ZD (Vn p0) (p1,p2,1)).bind fun j1=>some j1
theorem J4 (w0 : World) (p0 : Int) (p1 : UInt8) (p2 : Int) (r : UInt8) (hF : XJ p0 p1 p2 = some r) :
  Calls Tryz.prog 110 [vI p0,vB p1,vI p2].toArray w0 (Rt w0 (vB r)):=by
 refine ce Tryz.func110 ?_
 intro a hE
 have hM:=M.start w0
 unfold XJ at hF
 refine Za (Zb hE rfl fun a hE=>Zf (Za (Zb hE rfl fun a hE=>Zf ?_)))
 obtain ⟨j1,hl2,hF3⟩:=bind_some hF
 refine ZI (fun a w=>Env 24 a [(7,vB j1)] ∧ M (Old w0) w0 w []) ?_ ?_
 ·skip
  refine wp_block ?_
  refine ZE (fun (s4 : UInt8 × Int × UInt8) a w=>Env 24 a [(0,vI p0),(1,vB s4.1),(2,vI s4.2.1),(7,vB s4.2.2)] ∧ M (Old w0) w0 w []) hl2 ⟨hE.sub ⟨rfl,rfl,rfl,rfl,trivial⟩,hM⟩ ?_
  rintro s4 a w ⟨hE,hM⟩ o7 hs5 hx6
  unfold Vn at hs5
  refine wp_seq (Za (Ze hE rfl fun a hE=>Zk hE rfl rfl rfl fun a hE=>Zf ?_))
  refine Zq hE rfl ?_ ?_
  ·intro hb8
   have hs5:=Zu hs5 hb8
   refine wp_skip (Zy ?_)
   obtain ⟨j9,hl10,hF11⟩:=bind_some hs5
   refine ZI (fun a w=>Env 24 a [(0,vI p0),(1,vB j9.1),(2,vI s4.2.1),(7,vB j9.2)] ∧ M (Old w0) w0 w []) ?_ ?_
   ·skip
    refine wp_block ?_
    obtain ⟨j12,hl13,hF14⟩:=bind_some hl10
    refine ZI (fun a w=>Env 24 a [(0,vI p0),(1,vB s4.1),(2,vI s4.2.1),(7,vB j12)] ∧ M (Old w0) w0 w []) ?_ ?_
    ·skip
     refine Za (Ze hE rfl fun a hE=>Zk hE rfl rfl (Kt _ _ (by decide)) fun a hE=>Zk hE rfl rfl rfl fun a hE=>Zf ?_)
     refine Zq hE rfl ?_ ?_
     ·intro hb15
      have hl13:=Zu hl13 hb15
      refine wp_region_lit (Ze hE rfl fun a hE=>Ze hE rfl fun a hE=>Ze hE rfl ?_); intro a hE
      obtain ⟨r16,e17,hl13⟩:=bind_some hl13
      refine Zv hE rfl By (YJ _ p0 s4.2.2 s4.1 r16 e17) ?_
      rintro v w a ⟨rfl,hK⟩ hE
      have hM:=hM.keep hK
      refine Zb hE rfl fun a hE=>Zj ?_
      obtain rfl:=Option.some.inj hl13
      refine Zl ?_
      exact ⟨hE.sub ⟨rfl,rfl,rfl,rfl,trivial⟩,hM⟩
     ·intro hb15
      have hl13:=Zt hl13 hb15
      refine wp_skip ?_
      obtain rfl:=Option.some.inj hl13
      refine Zl ?_
      exact ⟨hE.sub ⟨rfl,rfl,rfl,rfl,trivial⟩,hM⟩
    ·skip
     rintro a w ⟨hE,hM⟩
     refine wp_region_lit (Ze hE rfl fun a hE=>Ze hE rfl fun a hE=>Ze hE rfl ?_); intro a hE
     obtain ⟨r20,e21,hF14⟩:=bind_some hF14
     refine Zv hE rfl By (YJ _ p0 s4.1 s4.1 r20 e21) ?_
     rintro v w a ⟨rfl,hK⟩ hE
     have hM:=hM.keep hK
     refine Zb hE rfl fun a hE=>Zj (Z0 ?_)
     obtain rfl:=Option.some.inj hF14
     refine Zl ?_
     exact ⟨hE.sub ⟨rfl,rfl,rfl,rfl,trivial⟩,hM⟩
   ·skip
    rintro a w ⟨hE,hM⟩
    refine wp_region_lit (Ze hE rfl fun a hE=>Zk hE rfl rfl (AL _ _ (by decide)) fun a hE=>Zb hE rfl fun a hE=>Zj (Zl ?_))
    exact ⟨_,(ois hF11),hE.sub ⟨rfl,rfl,rfl,rfl,trivial⟩,hM⟩
  ·intro hb8
   have hs5:=Zt hs5 hb8
   refine wp_exit (Zp (Zp (Z1 ?_)))
   obtain rfl:=hx6 _ (ois hs5)
   refine Zl ?_
   exact ⟨hE.sub ⟨rfl,trivial⟩,hM⟩
 ·skip
  rintro a w ⟨hE,hM⟩
  refine Za (Ze hE rfl fun a hE=>Zb hE rfl fun a hE=>Zf ?_)
  obtain rfl:=Option.some.inj hF3
  exact wp_ret (kr1 hE rfl rfl hM.kept)
def Yj (p0 : Int) (p1 : UInt8) : Option (UInt8) :=
 (XJ p0 p1 254).bind fun r1=>some r1
theorem U7 (w0 : World) (p0 : Int) (p1 : UInt8) (r : UInt8) (hF : Yj p0 p1 = some r) :
  Calls Tryz.prog 44 [vI p0,vB p1].toArray w0 (Rt w0 (vB r)):=by
 refine ce Tryz.func44 ?_
 intro a hE
 have hM:=M.start w0
 unfold Yj at hF
 refine Za (Zb hE rfl fun a hE=>Zf (Za (Ze hE rfl fun a hE=>Ze hE rfl ?_))); intro a hE
 obtain ⟨r1,e2,hF⟩:=bind_some hF
 refine Zv hE rfl (cbm Tryz.func110) (J4 _ p0 p1 254 r1 e2) ?_
 rintro v w a ⟨rfl,hK⟩ hE
 have hM:=hM.keep hK
 refine Zb hE rfl fun a hE=>Zf ?_
 obtain rfl:=Option.some.inj hF
 exact wp_ret (kr1 hE rfl rfl hM.kept)
def UL (s13 : (Vector (Vector UInt8 4) 4) × (Vector (Vector UInt8 4) 4) × Int × UInt8) (s21 : Int) : Option (Fl Int Int) :=
 (if (decide (s21 < 4)) = true then ((ZC s13.1 s21).bind fun x30=>(ZC x30 s13.2.2.1).bind fun x33=>some (x33 == 0)) else (some false) : Option (Bool)).bind fun j25=>if j25 = true then (some (Fl.nx (wr (s21 + 1)))) else (some (Fl.ex s21))
def XW (p0 : Int) (s13 : (Vector (Vector UInt8 4) 4) × (Vector (Vector UInt8 4) 4) × Int × UInt8) (r90 : UInt8) (s95 : (Vector (Vector UInt8 4) 4) × (Vector (Vector UInt8 4) 4) × Int) : Option (Fl ((Vector (Vector UInt8 4) 4) × (Vector (Vector UInt8 4) 4) × Int) ((Vector (Vector UInt8 4) 4) × (Vector (Vector UInt8 4) 4))) :=
 if (decide (s95.2.2 < 4)) = true then ((ZC s95.1 s13.2.2.1).bind fun x102=>(ZC x102 s95.2.2).bind fun x105=>(Z6 p0 x105 r90).bind fun r107=>(ZC s95.2.1 s13.2.2.1).bind fun x110=>(ZC x110 s95.2.2).bind fun x113=>(Z6 p0 x113 r90).bind fun r115=>(ZC s95.1 s13.2.2.1).bind fun x118=>(ZC x118 s95.2.2).bind fun x121=>(ZC s95.2.1 s13.2.2.1).bind fun x124=>(ZC x124 s95.2.2).bind fun x127=>some (Fl.nx ((s95.1.setIfInBounds (s13.2.2.1).toNat (x118.setIfInBounds (s95.2.2).toNat r107)),(s95.2.1.setIfInBounds (s13.2.2.1).toNat (x124.setIfInBounds (s95.2.2).toNat r115)),wr (s95.2.2 + 1)))) else (some (Fl.ex (s95.1,s95.2.1)))
def XY (p0 : Int) (s13 : (Vector (Vector UInt8 4) 4) × (Vector (Vector UInt8 4) 4) × Int × UInt8) (s133 : (Vector (Vector UInt8 4) 4) × (Vector (Vector UInt8 4) 4) × Int) (x145 : UInt8) (s160 : (Vector (Vector UInt8 4) 4) × (Vector (Vector UInt8 4) 4) × Int) : Option (Fl ((Vector (Vector UInt8 4) 4) × (Vector (Vector UInt8 4) 4) × Int) ((Vector (Vector UInt8 4) 4) × (Vector (Vector UInt8 4) 4))) :=
 if (decide (s160.2.2 < 4)) = true then (((ZC s160.1 s133.2.2).bind fun x170=>(ZC x170 s160.2.2).bind fun x173=>(ZC s160.1 s13.2.2.1).bind fun x176=>(ZC x176 s160.2.2).bind fun x179=>(Z6 p0 x145 x179).bind fun r181=>(ZC s160.1 s133.2.2).bind fun x184=>(ZC x184 s160.2.2).bind fun x187=>some (s160.1.setIfInBounds (s133.2.2).toNat (x184.setIfInBounds (s160.2.2).toNat (x173 ^^^ r181))) : Option ((Vector (Vector UInt8 4) 4))).bind fun j165=>(ZC s160.2.1 s133.2.2).bind fun x192=>(ZC x192 s160.2.2).bind fun x195=>(ZC s160.2.1 s13.2.2.1).bind fun x198=>(ZC x198 s160.2.2).bind fun x201=>(Z6 p0 x145 x201).bind fun r203=>(ZC s160.2.1 s133.2.2).bind fun x206=>(ZC x206 s160.2.2).bind fun x209=>some (Fl.nx (j165,(s160.2.1.setIfInBounds (s133.2.2).toNat (x206.setIfInBounds (s160.2.2).toNat (x195 ^^^ r203))),wr (s160.2.2 + 1)))) else (some (Fl.ex (s160.1,s160.2.1)))
def X2 (p0 : Int) (s13 : (Vector (Vector UInt8 4) 4) × (Vector (Vector UInt8 4) 4) × Int × UInt8) (s133 : (Vector (Vector UInt8 4) 4) × (Vector (Vector UInt8 4) 4) × Int) : Option (Fl ((Vector (Vector UInt8 4) 4) × (Vector (Vector UInt8 4) 4) × Int) ((Vector (Vector UInt8 4) 4) × (Vector (Vector UInt8 4) 4))) :=
 if (decide (s133.2.2 < 4)) = true then (((ZC s133.1 s133.2.2).bind fun x142=>(ZC x142 s13.2.2.1).bind fun x145=>(if (s133.2.2 != s13.2.2.1) = true then (some (x145 != 0)) else (some false) : Option (Bool)).bind fun j147=>(if j147 = true then ((ZD (XY p0 s13 s133 x145) (s133.1,s133.2.1,0)).bind fun j157=>some (j157.1,j157.2)) else (some (s133.1,s133.2.1)) : Option ((Vector (Vector UInt8 4) 4) × (Vector (Vector UInt8 4) 4))).bind fun j153=>some (j153.1,j153.2) : Option ((Vector (Vector UInt8 4) 4) × (Vector (Vector UInt8 4) 4))).bind fun j138=>some (Fl.nx (j138.1,j138.2,wr (s133.2.2 + 1)))) else (some (Fl.ex (s133.1,s133.2.1)))
def YM (p0 : Int) (s13 : (Vector (Vector UInt8 4) 4) × (Vector (Vector UInt8 4) 4) × Int × UInt8) : Option (Fl ((Vector (Vector UInt8 4) 4) × (Vector (Vector UInt8 4) 4) × Int × UInt8) (Fl ((Vector (Vector UInt8 4) 4) × UInt8) (UInt8 × (Vector (Vector UInt8 4) 4)))) :=
 if (decide (s13.2.2.1 < 4)) = true then ((ZD (UL s13) s13.2.2.1).bind fun j18=>if (j18 == 4) = true then (some (Fl.ex (Fl.ex (0,(Vector.replicate 4 (Vector.replicate 4 (0 : UInt8))))))) else (((ZC s13.1 s13.2.2.1).bind fun x47=>(ZC s13.1 j18).bind fun x50=>(ZC s13.1 j18).bind fun x53=>(ZC (s13.1.setIfInBounds (j18).toNat x47) s13.2.2.1).bind fun x56=>some ((s13.1.setIfInBounds (j18).toNat x47).setIfInBounds (s13.2.2.1).toNat x50) : Option ((Vector (Vector UInt8 4) 4))).bind fun j42=>((ZC s13.2.1 s13.2.2.1).bind fun x64=>(ZC s13.2.1 j18).bind fun x67=>(ZC s13.2.1 j18).bind fun x70=>(ZC (s13.2.1.setIfInBounds (j18).toNat x64) s13.2.2.1).bind fun x73=>some ((s13.2.1.setIfInBounds (j18).toNat x64).setIfInBounds (s13.2.2.1).toNat x67) : Option ((Vector (Vector UInt8 4) 4))).bind fun j59=>(ZC j42 s13.2.2.1).bind fun x77=>(ZC x77 s13.2.2.1).bind fun x80=>(Z6 p0 s13.2.2.2 x80).bind fun r82=>(ZC j42 s13.2.2.1).bind fun x85=>(ZC x85 s13.2.2.1).bind fun x88=>(Yj p0 x88).bind fun r90=>(ZD (XW p0 s13 r90) (j42,j59,0)).bind fun j92=>(ZD (X2 p0 s13) (j92.1,j92.2,0)).bind fun j130=>some (Fl.nx (j130.1,j130.2,wr (s13.2.2.1 + 1),r82)))) else (some (Fl.ex (Fl.nx (s13.2.1,s13.2.2.2))))
def YV (p0 : Int) (p1 : (Vector (Vector UInt8 4) 4)) : Option (UInt8 × (Vector (Vector UInt8 4) 4)) :=
 (Vf).bind fun r5=>(ZD (YM p0) (p1,r5,0,1)).bind fun j9=>j9.el (fun s12=>(some (s12.1,s12.2) : Option ((Vector (Vector UInt8 4) 4) × UInt8)).bind fun j217=>some (j217.2,j217.1)) (fun r=>some r)
end

end Go.Proofs.YtlpppjjlffgkmaaGreat
