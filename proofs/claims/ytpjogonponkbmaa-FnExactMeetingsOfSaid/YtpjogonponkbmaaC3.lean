/- The walk of what the law reaches: contracts of functions. -/
import Derived.Test.YtpjogonponkbmaaC2
set_option linter.unusedVariables false
set_option linter.unusedSimpArgs false
set_option maxRecDepth 20000
set_option maxHeartbeats 400000
namespace Go.Proofs.Ytpjogonponkbmaa
open Go
open Flat (enc)
noncomputable section
theorem VZ (w0 : World) (p0 : (List GMeeting)) (v0_1 : Value) (hv0_1 : Ro w0 p0 [v0_1]) (p1 : Int) (r : Int) (hF : YF p0 p1 = some r) :
  Calls Try.prog 32 [v0_1,vI p1].toArray w0 (fun en w'=>∃ v,en = .returned v ∧ (v = (vI r) ∧ Kept (Old w0) w0 w')):=by
 refine ZC (n:=31) Try.func32 rfl rfl (nbl rfl) rfl ?_
 intro a hE
 have hM:=M.start w0
 unfold YF at hF
 refine Zc (Ze hE Za ld rfl fun a hE=>Zf (wp_seq (Zc (Ze hE Za ld rfl fun a hE=>Zf ?_))))
 obtain ⟨j1,hl2,hF3⟩:=bind_some hF
 refine ZP (fun a w=>∃ s4 : Int,j1 = Fl.nx s4 ∧ Env 31 a [(1,vI s4)] ∧ M (Old w0) w0 w []) ?_ ?_
 ·skip
  refine wp_block ?_
  refine ZJ (fun (s5 : Int × Int) a w=>Env 31 a [(0,v0_1),(1,vI s5.1),(5,vI s5.2)] ∧ M (Old w0) w0 w []) hl2 ⟨hE.sub ⟨rfl,rfl,rfl,trivial⟩,hM⟩ ?_
  rintro s5 a w ⟨hE,hM⟩ o8 hs6 hx7
  unfold Xb at hs6
  refine wp_seq (Zc (Zd hE Za ld rfl fun a hE=>Zd hE Za ld rfl fun a hE=>UC hE Za ld rfl Try.underlying58 (hM.rd hv0_1) fun a hE=>Zk hE Za ld rfl rfl rfl fun a hE=>Zf ?_))
  refine Zr hE rfl ?_ ?_
  ·intro hb9
   have hs6:=Zw hs6 hb9
   refine wp_skip (Zt (wp_seq (wp_block (wp_seq (Zc (Zd hE Za ld rfl fun a hE=>Zd hE Za ld rfl ?_)))))); intro a hE
   obtain ⟨x10,hi12,hs6⟩:=bix hs6
   refine YT hE Za ld rfl rfl Try.underlying58 VE (hM.rd hv0_1) hi12.1 fun a hE=>Zo hE Za ld rfl (Kj) fun a hE=>Zv (v:=(vI x10.First)) hE Za ld rfl ty2 rfl (At.cat (pre:=[]) (Vb (hM.rd hv0_1) hi12.2) cl0) fun a hE=>Zd hE Za ld rfl fun a hE=>Zk hE Za ld rfl rfl rfl fun a hE=>Zf ?_
   refine Zr hE rfl ?_ ?_
   ·intro hb13
    have hs6:=Zw hs6 hb13
    refine Zc (Ze hE Za ld rfl fun a hE=>Zf ?_)
    have ht14:=hx7 _ (ois hs6)
    subst ht14
    have hr:=Option.some.inj hF3
    subst hr
    exact wp_ret (ZH (Wq (ZH (ZH (Wq (ZH (ZH (ZD hE rfl (ZA hE rfl) ⟨_,rfl,rfl,hM.kept⟩))))))))
   ·intro hb13
    have hs6:=Zx hs6 hb13
    refine wp_skip (Zt (Zc (Zd hE Za ld rfl fun a hE=>Zk hE Za ld rfl rfl rfl fun a hE=>Ze hE Za ld rfl fun a hE=>Zf (wp_seq (Zc (Zd hE Za ld rfl fun a hE=>Zd hE Za ld rfl ?_)))))); intro a hE
    obtain ⟨x15,hi17,hs6⟩:=bix hs6
    refine YT hE Za ld rfl rfl Try.underlying58 VE (hM.rd hv0_1) hi17.1 fun a hE=>Zo hE Za ld rfl (Kn) fun a hE=>Zv (v:=(vI x15.Second)) hE Za ld rfl ty2 rfl (At.cat (pre:=[[vI x15.First]]) (Vb (hM.rd hv0_1) hi17.2) (cl1 (n:=1) (m:=0) rfl cl0)) fun a hE=>Zd hE Za ld rfl fun a hE=>Zk hE Za ld rfl rfl rfl fun a hE=>Zf ?_
    refine Zr hE rfl ?_ ?_
    ·intro hb18
     have hs6:=Zw hs6 hb18
     refine Zc (Ze hE Za ld rfl fun a hE=>Zf ?_)
     have ht19:=hx7 _ (ois hs6)
     subst ht19
     have hr:=Option.some.inj hF3
     subst hr
     exact wp_ret (ZH (Wq (ZH (ZH (Wq (ZH (ZH (ZD hE rfl (ZA hE rfl) ⟨_,rfl,rfl,hM.kept⟩))))))))
    ·intro hb18
     have hs6:=Zx hs6 hb18
     refine wp_skip (Zt (wp_region_lit (Zd hE Za ld rfl fun a hE=>Zk hE Za ld rfl rfl rfl fun a hE=>Ze hE Za ld rfl fun a hE=>Zi (Yi (Zt (wp_region_lit (Zd hE Za ld rfl fun a hE=>Zk hE Za ld rfl rfl rfl fun a hE=>Ze hE Za ld rfl fun a hE=>Zi (Zj ?_))))))))
     exact ⟨_,(ois hs6),hE.sub ⟨rfl,rfl,rfl,trivial⟩,hM⟩
  ·intro hb9
   have hs6:=Zx hs6 hb9
   refine wp_exit (Zp (Zp (Yj ?_)))
   have ht20:=hx7 _ (ois hs6)
   subst ht20
   refine Zj ?_
   exact ⟨s5.1,rfl,hE.sub ⟨rfl,trivial⟩,hM⟩
 ·skip
  rintro a w ⟨s4,ht,hE,hM⟩
  subst ht
  have hF3:=UU hF3
  refine Zt (Zc (Zd hE Za ld rfl fun a hE=>Ze hE Za ld rfl fun a hE=>Zf ?_))
  have hr:=Option.some.inj hF3
  subst hr
  exact wp_ret (ZD hE rfl (ZA hE rfl) ⟨_,rfl,rfl,hM.kept⟩)
def Y6 (p0 : GCipher) (p1 : (Vector UInt8 16)) (p2 : (Vector UInt8 16)) : Option (Bool) :=
 ((Xr p0).bind fun r13=>(Yu p1).bind fun r15=>(Yu p2).bind fun r17=>(X1 r13 r15 r17).bind fun r19=>some (r19.1,r19.2) : Option ((List GMeeting) × Int)).bind fun j7=>((Xr p0).bind fun r29=>(Yu p1).bind fun r31=>(Yu p2).bind fun r33=>(Xl r29 r31 r33).bind fun r35=>some (r35.2,r35.1) : Option (Int × (List GMeeting))).bind fun j23=>((Xq j23.2 j7.1).bind fun r42=>if (!r42) = true then (some true) else (some (j23.1 != j7.2)) : Option (Bool)).bind fun j39=>if j39 = true then (some false) else ((Xv j23.2 1).bind fun r48=>(YF r48.1 1).bind fun r50=>if (decide (r50 < 0)) = true then (some false) else (if (r50 != r48.2) = true then (some false) else (((Xr p0).bind fun r60=>(Yu p1).bind fun r62=>(Yu p2).bind fun r64=>(Xl r60 r62 r64).bind fun r66=>some (r66.1,r66.2) : Option ((List GMeeting) × Int)).bind fun j54=>((Xq j54.1 j7.1).bind fun r73=>if (!r73) = true then (some true) else (some (j54.2 != j7.2)) : Option (Bool)).bind fun j70=>if j70 = true then (some false) else ((YF r48.1 1).bind fun r79=>if (decide (r79 < 0)) = true then (some false) else (if (r79 != r48.2) = true then (some false) else (some true))))))
theorem Us (w0 : World) (p0 : GCipher) (p1 : (Vector UInt8 16)) (p2 : (Vector UInt8 16)) (r : Bool) (hF : Y6 p0 p1 p2 = some r) :
  Calls Try.prog 6 [(Value.agg (enc p0).toArray),(Value.agg (enc p1).toArray),(Value.agg (enc p2).toArray)].toArray w0 (fun en w'=>∃ v,en = .returned v ∧ (v = (vT r) ∧ Kept (Old w0) w0 w')):=by
 refine ZC (n:=82) Try.func6 rfl rfl (nbl rfl) rfl ?_
 intro a hE
 have hM:=M.start w0
 unfold Y6 at hF
 refine Zc (ZX (cs:=cat [[vI p0.Field],enc p0.Box,enc p0.Mix,enc p0.Places,[vI p0.Rounds]]) hE hM Za ld rfl rfl fun b1 w a hM hE=>ZX (cs:=enc p1) hE hM Za ld rfl rfl fun b3 w a hM hE=>ZX (cs:=enc p2) hE hM Za ld rfl rfl fun b5 w a hM hE=>Ze hE Za ld rfl fun a hE=>Zf ?_)
 obtain ⟨j7,hl8,hF9⟩:=bind_some hF
 refine ZL (fun a w=>∃ (u10 : Value),Env 82 a [(3,(ptr b1 0)),(4,(ptr b3 0)),(5,(ptr b5 0)),(7,u10),(8,vI j7.2)] ∧ M (Old w0) w0 w [raw b5 (enc p2),raw b3 (enc p1),raw b1 (cat [[vI p0.Field],enc p0.Box,enc p0.Mix,enc p0.Places,[vI p0.Rounds]]),osl NoB (j7.1 : List GMeeting) u10]) ?_ ?_
 ·skip
  obtain ⟨r13,e14,hl8⟩:=bind_some hl8
  obtain ⟨r15,e16,hl8⟩:=bind_some hl8
  obtain ⟨r17,e18,hl8⟩:=bind_some hl8
  obtain ⟨r19,e20,hl8⟩:=bind_some hl8
  refine V3 (n:=82) (hd:=[_,_,_,_,_,_,_,_,_,_,_]) (tl:=[_]) YR rfl rfl [16,17,18,19,20,21,22,15,23,24,7] (by decide) (fun D u w=>M (Old w0) w0 w ([raw b5 (enc p2),raw b3 (enc p1),raw b1 (cat [[vI p0.Field],enc p0.Box,enc p0.Mix,enc p0.Places,[vI p0.Rounds]])] ++ qL ([mkO 6 (fun v=>osl NoB (r19.1 : List GMeeting) (ZY v 0))] : Mk) D u) ∧ GOk ([([],fun us v=>v = (Value.agg (enc p0).toArray)),([],fun us v=>v = (Value.agg (enc r13).toArray)),([],fun us v=>v = (Value.agg (enc p1).toArray)),([],fun us v=>v = (Value.agg (enc r15).toArray)),([],fun us v=>v = (Value.agg (enc p2).toArray)),([],fun us v=>v = (Value.agg (enc r17).toArray)),([],fun us v=>v = (Value.tuple [(ZY v 0),vI r19.2].toArray)),([6],fun us v=>v = (Value.tuple [(ZY (us.getD 0 undef) 0),vI r19.2].toArray)),([6],fun us v=>v = (ZY (us.getD 0 undef) 0)),([],fun us v=>v = (vI r19.2)),([6],fun us v=>v = (ZY (us.getD 0 undef) 0))] : Gs) D u) hE (fun u=>⟨M.qE (M.q0 hM.drew u) emO,JH⟩) (ZK (Zb ?_ (Zb ?_ (Zb ?_ (Zb ?_ (Zb ?_ (Zb ?_ (Zb ?_ (Zb ?_ (Zb ?_ (Zb ?_ (Zb ?_ ZE)))))))))))) ?_
  ·intro a w ux12 D hE hI hD hdc hp
   have hM0:=hI.1
   have hM:=hI.1
   exact Zl (cs:=enc p0) hE Za ld rfl J9 rfl (hM.rawAt (pre:=[_,_])) (Y8 (cl1 (n:=1) (m:=289) rfl (cl1 (n:=256) (m:=33) (Flat.len _) (cl1 (n:=16) (m:=17) (Flat.len _) (cl1 (n:=16) (m:=1) (Flat.len _) (cl1 (n:=1) (m:=0) rfl cl0)))))) fun a hE=>⟨_,_,rfl,hE,M.qKeep hM0 rfl,hI.2.put hD rfl ZQ rfl⟩
  ·intro a w ux12 D hE hI hD hdc hp
   have d0 : D 0 = true:=hp 0 _ rfl rfl
   have g0:=hI.2 0 d0 _ rfl
   have f0 : ux12 0 = (Value.agg (enc p0).toArray):=g0.2
   have hM0:=hI.1
   refine Zq hE Za ld (ZV (ZT (lk rfl f0) Xw)) cb25 (VW _ p0 r13 e14) ?_
   rintro v w a ⟨rfl,hK⟩ hE
   exact ⟨_,_,rfl,hE,M.qKeep (hM0.keep hK) rfl,hI.2.put hD rfl ZQ rfl⟩
  ·intro a w ux12 D hE hI hD hdc hp
   have hM0:=hI.1
   have hM:=hI.1
   exact Zl (cs:=enc p1) hE Za ld rfl Hm rfl (hM.rawAt (pre:=[_])) (Flat.len _) fun a hE=>⟨_,_,rfl,hE,M.qKeep hM0 rfl,hI.2.put hD rfl ZQ rfl⟩
  ·intro a w ux12 D hE hI hD hdc hp
   have d2 : D 2 = true:=hp 0 _ rfl rfl
   have g2:=hI.2 2 d2 _ rfl
   have f2 : ux12 2 = (Value.agg (enc p1).toArray):=g2.2
   have hM0:=hI.1
   refine Zq hE Za ld (ZV (ZT (lk rfl f2) Xw)) cb26 (Wj _ p1 r15 e16) ?_
   rintro v w a ⟨rfl,hK⟩ hE
   exact ⟨_,_,rfl,hE,M.qKeep (hM0.keep hK) rfl,hI.2.put hD rfl ZQ rfl⟩
  ·intro a w ux12 D hE hI hD hdc hp
   have hM0:=hI.1
   have hM:=hI.1
   exact Zl (cs:=enc p2) hE Za ld rfl Hm rfl (hM.rawAt (pre:=[])) (Flat.len _) fun a hE=>⟨_,_,rfl,hE,M.qKeep hM0 rfl,hI.2.put hD rfl ZQ rfl⟩
  ·intro a w ux12 D hE hI hD hdc hp
   have d4 : D 4 = true:=hp 0 _ rfl rfl
   have g4:=hI.2 4 d4 _ rfl
   have f4 : ux12 4 = (Value.agg (enc p2).toArray):=g4.2
   have hM0:=hI.1
   refine Zq hE Za ld (ZV (ZT (lk rfl f4) Xw)) cb26 (Wj _ p2 r17 e18) ?_
   rintro v w a ⟨rfl,hK⟩ hE
   exact ⟨_,_,rfl,hE,M.qKeep (hM0.keep hK) rfl,hI.2.put hD rfl ZQ rfl⟩
  ·intro a w ux12 D hE hI hD hdc hp
   have d1 : D 1 = true:=hp 0 _ rfl rfl
   have g1:=hI.2 1 d1 _ rfl
   have f1 : ux12 1 = (Value.agg (enc r13).toArray):=g1.2
   have d3 : D 3 = true:=hp 1 _ rfl rfl
   have g3:=hI.2 3 d3 _ rfl
   have f3 : ux12 3 = (Value.agg (enc r15).toArray):=g3.2
   have d5 : D 5 = true:=hp 2 _ rfl rfl
   have g5:=hI.2 5 d5 _ rfl
   have f5 : ux12 5 = (Value.agg (enc r17).toArray):=g5.2
   have hM0:=hI.1
   have hM:=hI.1
   refine Zq hE Za ld (ZV (ZT (lk rfl f1) (ZT (lk rfl f3) (ZT (lk rfl f5) Xw)))) cb28 (T3 _ r13 r15 r17 r19 e20) ?_
   rintro _ w a ⟨u21,rfl,hFr,hK⟩ hE
   have hM:=hM0.add hK hFr
   exact ⟨_,_,rfl,hE,M.qFill (mk1:=[]) (mk2:=[]) (f:=(fun v=>osl NoB (r19.1 : List GMeeting) (ZY v 0))) hM rfl hD,hI.2.put hD rfl ZQ rfl⟩
  ·intro a w ux12 D hE hI hD hdc hp
   have d6 : D 6 = true:=hp 0 _ rfl rfl
   have g6:=hI.2 6 d6 _ rfl
   have f6 : ux12 6 = (Value.tuple [(ZY (ux12 6) 0),vI r19.2].toArray):=g6.2
   have hM0:=hI.1
   exact Zd hE Za ld (lk rfl f6) fun a hE=>⟨_,_,rfl,hE,M.qKeep hM0 rfl,hI.2.put hD rfl (Jx d6 ZQ) rfl⟩
  ·intro a w ux12 D hE hI hD hdc hp
   have d7 : D 7 = true:=hp 0 _ rfl rfl
   have g7:=hI.2 7 d7 _ rfl
   have d6 : D 6 = true:=g7.1 6 (show 6 ∈ [6] by decide)
   have f7 : ux12 7 = (Value.tuple [(ZY (ux12 6) 0),vI r19.2].toArray):=g7.2
   have hM0:=hI.1
   exact Yt hE Za ld (lk rfl f7) rfl fun a hE=>⟨_,_,rfl,hE,M.qKeep hM0 rfl,hI.2.put hD rfl (Jx d6 ZQ) rfl⟩
  ·intro a w ux12 D hE hI hD hdc hp
   have d7 : D 7 = true:=hp 0 _ rfl rfl
   have g7:=hI.2 7 d7 _ rfl
   have d6 : D 6 = true:=g7.1 6 (show 6 ∈ [6] by decide)
   have f7 : ux12 7 = (Value.tuple [(ZY (ux12 6) 0),vI r19.2].toArray):=g7.2
   have hM0:=hI.1
   exact Yt hE Za ld (lk rfl f7) rfl fun a hE=>⟨_,_,rfl,hE,M.qKeep hM0 rfl,hI.2.put hD rfl ZQ rfl⟩
  ·intro a w ux12 D hE hI hD hdc hp
   have d8 : D 8 = true:=hp 0 _ rfl rfl
   have g8:=hI.2 8 d8 _ rfl
   have d6 : D 6 = true:=g8.1 6 (show 6 ∈ [6] by decide)
   have f8 : ux12 8 = (ZY (ux12 6) 0):=g8.2
   have hM0:=hI.1
   exact Ze hE Za ld (lk rfl f8) fun a hE=>⟨_,_,rfl,hE,M.qKeep hM0 rfl,hI.2.put hD rfl (Jx d6 ZQ) rfl⟩
  ·intro a w ux12 D hE hI hall
   have hM:=hI.1
   have d0 : D 0 = true:=hall 0 (by decide)
   have d1 : D 1 = true:=hall 1 (by decide)
   have d2 : D 2 = true:=hall 2 (by decide)
   have d3 : D 3 = true:=hall 3 (by decide)
   have d4 : D 4 = true:=hall 4 (by decide)
   have d5 : D 5 = true:=hall 5 (by decide)
   have d6 : D 6 = true:=hall 6 (by decide)
   have d7 : D 7 = true:=hall 7 (by decide)
   have d8 : D 8 = true:=hall 8 (by decide)
   have d9 : D 9 = true:=hall 9 (by decide)
   have d10 : D 10 = true:=hall 10 (by decide)
   have f0 : ux12 0 = (Value.agg (enc p0).toArray):=(hI.2 0 d0 _ rfl).2
   have f1 : ux12 1 = (Value.agg (enc r13).toArray):=(hI.2 1 d1 _ rfl).2
   have f2 : ux12 2 = (Value.agg (enc p1).toArray):=(hI.2 2 d2 _ rfl).2
   have f3 : ux12 3 = (Value.agg (enc r15).toArray):=(hI.2 3 d3 _ rfl).2
   have f4 : ux12 4 = (Value.agg (enc p2).toArray):=(hI.2 4 d4 _ rfl).2
   have f5 : ux12 5 = (Value.agg (enc r17).toArray):=(hI.2 5 d5 _ rfl).2
   have f6 : ux12 6 = (Value.tuple [(ZY (ux12 6) 0),vI r19.2].toArray):=(hI.2 6 d6 _ rfl).2
   have f7 : ux12 7 = (Value.tuple [(ZY (ux12 6) 0),vI r19.2].toArray):=(hI.2 7 d7 _ rfl).2
   have f8 : ux12 8 = (ZY (ux12 6) 0):=(hI.2 8 d8 _ rfl).2
   have f9 : ux12 9 = (vI r19.2):=(hI.2 9 d9 _ rfl).2
   have f10 : ux12 10 = (ZY (ux12 6) 0):=(hI.2 10 d10 _ rfl).2
   have hM:=hM.sure (pre:=[_,_,_]) d6
   have hE:=hE.sub (e':=[(24,vI r19.2),(7,(ZY (ux12 6) 0)),(3,(ptr b1 0)),(4,(ptr b3 0)),(5,(ptr b5 0)),(6,vT false)]) ⟨lk rfl f9,lk rfl f10,rfl,rfl,rfl,rfl,trivial⟩
   refine Ze hE Za ld rfl fun a hE=>Zi ?_
   have ht22:=Option.some.inj hl8
   subst ht22
   refine Zj ?_
   exact ⟨(ZY (ux12 6) 0),hE.sub ⟨rfl,rfl,rfl,rfl,rfl,trivial⟩,hM⟩
 ·skip
  rintro a w ⟨u10,hE,hM⟩
  obtain ⟨j23,hl24,hF25⟩:=bind_some hF9
  refine ZL (fun a w=>∃ (u26 : Value),Env 82 a [(3,(ptr b1 0)),(4,(ptr b3 0)),(5,(ptr b5 0)),(7,u10),(8,vI j7.2),(9,u26),(10,vI j23.1)] ∧ M (Old w0) w0 w [raw b5 (enc p2),raw b3 (enc p1),raw b1 (cat [[vI p0.Field],enc p0.Box,enc p0.Mix,enc p0.Places,[vI p0.Rounds]]),osl NoB (j7.1 : List GMeeting) u10,osl NoB (j23.2 : List GMeeting) u26]) ?_ ?_
  ·skip
   obtain ⟨r29,e30,hl24⟩:=bind_some hl24
   obtain ⟨r31,e32,hl24⟩:=bind_some hl24
   obtain ⟨r33,e34,hl24⟩:=bind_some hl24
   obtain ⟨r35,e36,hl24⟩:=bind_some hl24
   refine V3 (n:=82) (hd:=[_,_,_,_,_,_,_,_,_,_,_]) (tl:=[_]) YR rfl rfl [26,27,28,29,30,31,32,25,33,34,9] (by decide) (fun D u w=>M (Old w0) w0 w ([raw b5 (enc p2),raw b3 (enc p1),raw b1 (cat [[vI p0.Field],enc p0.Box,enc p0.Mix,enc p0.Places,[vI p0.Rounds]]),osl NoB (j7.1 : List GMeeting) u10] ++ qL ([mkO 6 (fun v=>osl NoB (r35.1 : List GMeeting) (ZY v 0))] : Mk) D u) ∧ GOk ([([],fun us v=>v = (Value.agg (enc p0).toArray)),([],fun us v=>v = (Value.agg (enc r29).toArray)),([],fun us v=>v = (Value.agg (enc p1).toArray)),([],fun us v=>v = (Value.agg (enc r31).toArray)),([],fun us v=>v = (Value.agg (enc p2).toArray)),([],fun us v=>v = (Value.agg (enc r33).toArray)),([],fun us v=>v = (Value.tuple [(ZY v 0),vI r35.2].toArray)),([6],fun us v=>v = (Value.tuple [(ZY (us.getD 0 undef) 0),vI r35.2].toArray)),([6],fun us v=>v = (ZY (us.getD 0 undef) 0)),([],fun us v=>v = (vI r35.2)),([6],fun us v=>v = (ZY (us.getD 0 undef) 0))] : Gs) D u) hE (fun u=>⟨M.qE (M.q0 hM.drew u) emO,JH⟩) (ZK (Zb ?_ (Zb ?_ (Zb ?_ (Zb ?_ (Zb ?_ (Zb ?_ (Zb ?_ (Zb ?_ (Zb ?_ (Zb ?_ (Zb ?_ ZE)))))))))))) ?_
   ·intro a w ux28 D hE hI hD hdc hp
    have hM0:=hI.1
    have hM:=hI.1
    exact Zl (cs:=enc p0) hE Za ld rfl J9 rfl (hM.rawAt (pre:=[_,_])) (Y8 (cl1 (n:=1) (m:=289) rfl (cl1 (n:=256) (m:=33) (Flat.len _) (cl1 (n:=16) (m:=17) (Flat.len _) (cl1 (n:=16) (m:=1) (Flat.len _) (cl1 (n:=1) (m:=0) rfl cl0)))))) fun a hE=>⟨_,_,rfl,hE,M.qKeep hM0 rfl,hI.2.put hD rfl ZQ rfl⟩
   ·intro a w ux28 D hE hI hD hdc hp
    have d0 : D 0 = true:=hp 0 _ rfl rfl
    have g0:=hI.2 0 d0 _ rfl
    have f0 : ux28 0 = (Value.agg (enc p0).toArray):=g0.2
    have hM0:=hI.1
    refine Zq hE Za ld (ZV (ZT (lk rfl f0) Xw)) cb25 (VW _ p0 r29 e30) ?_
    rintro v w a ⟨rfl,hK⟩ hE
    exact ⟨_,_,rfl,hE,M.qKeep (hM0.keep hK) rfl,hI.2.put hD rfl ZQ rfl⟩
   ·intro a w ux28 D hE hI hD hdc hp
    have hM0:=hI.1
    have hM:=hI.1
    exact Zl (cs:=enc p1) hE Za ld rfl Hm rfl (hM.rawAt (pre:=[_])) (Flat.len _) fun a hE=>⟨_,_,rfl,hE,M.qKeep hM0 rfl,hI.2.put hD rfl ZQ rfl⟩
   ·intro a w ux28 D hE hI hD hdc hp
    have d2 : D 2 = true:=hp 0 _ rfl rfl
    have g2:=hI.2 2 d2 _ rfl
    have f2 : ux28 2 = (Value.agg (enc p1).toArray):=g2.2
    have hM0:=hI.1
    refine Zq hE Za ld (ZV (ZT (lk rfl f2) Xw)) cb26 (Wj _ p1 r31 e32) ?_
    rintro v w a ⟨rfl,hK⟩ hE
    exact ⟨_,_,rfl,hE,M.qKeep (hM0.keep hK) rfl,hI.2.put hD rfl ZQ rfl⟩
   ·intro a w ux28 D hE hI hD hdc hp
    have hM0:=hI.1
    have hM:=hI.1
    exact Zl (cs:=enc p2) hE Za ld rfl Hm rfl (hM.rawAt (pre:=[])) (Flat.len _) fun a hE=>⟨_,_,rfl,hE,M.qKeep hM0 rfl,hI.2.put hD rfl ZQ rfl⟩
   ·intro a w ux28 D hE hI hD hdc hp
    have d4 : D 4 = true:=hp 0 _ rfl rfl
    have g4:=hI.2 4 d4 _ rfl
    have f4 : ux28 4 = (Value.agg (enc p2).toArray):=g4.2
    have hM0:=hI.1
    refine Zq hE Za ld (ZV (ZT (lk rfl f4) Xw)) cb26 (Wj _ p2 r33 e34) ?_
    rintro v w a ⟨rfl,hK⟩ hE
    exact ⟨_,_,rfl,hE,M.qKeep (hM0.keep hK) rfl,hI.2.put hD rfl ZQ rfl⟩
   ·intro a w ux28 D hE hI hD hdc hp
    have d1 : D 1 = true:=hp 0 _ rfl rfl
    have g1:=hI.2 1 d1 _ rfl
    have f1 : ux28 1 = (Value.agg (enc r29).toArray):=g1.2
    have d3 : D 3 = true:=hp 1 _ rfl rfl
    have g3:=hI.2 3 d3 _ rfl
    have f3 : ux28 3 = (Value.agg (enc r31).toArray):=g3.2
    have d5 : D 5 = true:=hp 2 _ rfl rfl
    have g5:=hI.2 5 d5 _ rfl
    have f5 : ux28 5 = (Value.agg (enc r33).toArray):=g5.2
    have hM0:=hI.1
    have hM:=hI.1
    refine Zq hE Za ld (ZV (ZT (lk rfl f1) (ZT (lk rfl f3) (ZT (lk rfl f5) Xw)))) cb29 (Up _ r29 r31 r33 r35 e36) ?_
    rintro _ w a ⟨u37,rfl,hFr,hK⟩ hE
    have hM:=hM0.add hK hFr
    exact ⟨_,_,rfl,hE,M.qFill (mk1:=[]) (mk2:=[]) (f:=(fun v=>osl NoB (r35.1 : List GMeeting) (ZY v 0))) hM rfl hD,hI.2.put hD rfl ZQ rfl⟩
   ·intro a w ux28 D hE hI hD hdc hp
    have d6 : D 6 = true:=hp 0 _ rfl rfl
    have g6:=hI.2 6 d6 _ rfl
    have f6 : ux28 6 = (Value.tuple [(ZY (ux28 6) 0),vI r35.2].toArray):=g6.2
    have hM0:=hI.1
    exact Zd hE Za ld (lk rfl f6) fun a hE=>⟨_,_,rfl,hE,M.qKeep hM0 rfl,hI.2.put hD rfl (Jx d6 ZQ) rfl⟩
   ·intro a w ux28 D hE hI hD hdc hp
    have d7 : D 7 = true:=hp 0 _ rfl rfl
    have g7:=hI.2 7 d7 _ rfl
    have d6 : D 6 = true:=g7.1 6 (show 6 ∈ [6] by decide)
    have f7 : ux28 7 = (Value.tuple [(ZY (ux28 6) 0),vI r35.2].toArray):=g7.2
    have hM0:=hI.1
    exact Yt hE Za ld (lk rfl f7) rfl fun a hE=>⟨_,_,rfl,hE,M.qKeep hM0 rfl,hI.2.put hD rfl (Jx d6 ZQ) rfl⟩
   ·intro a w ux28 D hE hI hD hdc hp
    have d7 : D 7 = true:=hp 0 _ rfl rfl
    have g7:=hI.2 7 d7 _ rfl
    have d6 : D 6 = true:=g7.1 6 (show 6 ∈ [6] by decide)
    have f7 : ux28 7 = (Value.tuple [(ZY (ux28 6) 0),vI r35.2].toArray):=g7.2
    have hM0:=hI.1
    exact Yt hE Za ld (lk rfl f7) rfl fun a hE=>⟨_,_,rfl,hE,M.qKeep hM0 rfl,hI.2.put hD rfl ZQ rfl⟩
   ·intro a w ux28 D hE hI hD hdc hp
    have d8 : D 8 = true:=hp 0 _ rfl rfl
    have g8:=hI.2 8 d8 _ rfl
    have d6 : D 6 = true:=g8.1 6 (show 6 ∈ [6] by decide)
    have f8 : ux28 8 = (ZY (ux28 6) 0):=g8.2
    have hM0:=hI.1
    exact Ze hE Za ld (lk rfl f8) fun a hE=>⟨_,_,rfl,hE,M.qKeep hM0 rfl,hI.2.put hD rfl (Jx d6 ZQ) rfl⟩
   ·intro a w ux28 D hE hI hall
    have hM:=hI.1
    have d0 : D 0 = true:=hall 0 (by decide)
    have d1 : D 1 = true:=hall 1 (by decide)
    have d2 : D 2 = true:=hall 2 (by decide)
    have d3 : D 3 = true:=hall 3 (by decide)
    have d4 : D 4 = true:=hall 4 (by decide)
    have d5 : D 5 = true:=hall 5 (by decide)
    have d6 : D 6 = true:=hall 6 (by decide)
    have d7 : D 7 = true:=hall 7 (by decide)
    have d8 : D 8 = true:=hall 8 (by decide)
    have d9 : D 9 = true:=hall 9 (by decide)
    have d10 : D 10 = true:=hall 10 (by decide)
    have f0 : ux28 0 = (Value.agg (enc p0).toArray):=(hI.2 0 d0 _ rfl).2
    have f1 : ux28 1 = (Value.agg (enc r29).toArray):=(hI.2 1 d1 _ rfl).2
    have f2 : ux28 2 = (Value.agg (enc p1).toArray):=(hI.2 2 d2 _ rfl).2
    have f3 : ux28 3 = (Value.agg (enc r31).toArray):=(hI.2 3 d3 _ rfl).2
    have f4 : ux28 4 = (Value.agg (enc p2).toArray):=(hI.2 4 d4 _ rfl).2
    have f5 : ux28 5 = (Value.agg (enc r33).toArray):=(hI.2 5 d5 _ rfl).2
    have f6 : ux28 6 = (Value.tuple [(ZY (ux28 6) 0),vI r35.2].toArray):=(hI.2 6 d6 _ rfl).2
    have f7 : ux28 7 = (Value.tuple [(ZY (ux28 6) 0),vI r35.2].toArray):=(hI.2 7 d7 _ rfl).2
    have f8 : ux28 8 = (ZY (ux28 6) 0):=(hI.2 8 d8 _ rfl).2
    have f9 : ux28 9 = (vI r35.2):=(hI.2 9 d9 _ rfl).2
    have f10 : ux28 10 = (ZY (ux28 6) 0):=(hI.2 10 d10 _ rfl).2
    have hM:=hM.sure (pre:=[_,_,_,_]) d6
    have hE:=hE.sub (e':=[(34,vI r35.2),(9,(ZY (ux28 6) 0)),(3,(ptr b1 0)),(4,(ptr b3 0)),(5,(ptr b5 0)),(7,u10),(8,vI j7.2)]) ⟨lk rfl f9,lk rfl f10,rfl,rfl,rfl,rfl,rfl,trivial⟩
    refine Ze hE Za ld rfl fun a hE=>Zi ?_
    have ht38:=Option.some.inj hl24
    subst ht38
    refine Zj ?_
    exact ⟨(ZY (ux28 6) 0),hE.sub ⟨rfl,rfl,rfl,rfl,rfl,rfl,rfl,trivial⟩,hM⟩
  ·skip
   rintro a w ⟨u26,hE,hM⟩
   refine wp_seq ?_
   obtain ⟨j39,hl40,hF41⟩:=bind_some hF25
   refine ZL (fun a w=>Env 82 a [(3,(ptr b1 0)),(4,(ptr b3 0)),(5,(ptr b5 0)),(7,u10),(8,vI j7.2),(9,u26),(43,vT j39)] ∧ M (Old w0) w0 w [raw b5 (enc p2),raw b3 (enc p1),raw b1 (cat [[vI p0.Field],enc p0.Box,enc p0.Mix,enc p0.Places,[vI p0.Rounds]]),osl NoB (j7.1 : List GMeeting) u10,osl NoB (j23.2 : List GMeeting) u26]) ?_ ?_
   ·skip
    refine wp_region_lit (Zd hE Za ld rfl fun a hE=>Zd hE Za ld rfl ?_); intro a hE
    obtain ⟨r42,e43,hl40⟩:=bind_some hl40
    refine Zq hE Za ld rfl cb30 (Um _ j23.2 u26 (hM.sl (pre:=[_,_,_,_]) noB) j7.1 u10 (hM.sl (pre:=[_,_,_]) noB) r42 e43) ?_
    rintro v w a ⟨rfl,hK⟩ hE
    have hM:=hM.keep hK
    refine UV hE Za ld rfl fun a hE=>Zd hE Za ld rfl ?_; intro a hE
    refine Va (!r42) (fun hb44=>?_) (fun hb44=>?_)
    ·have hl40:=Zw hl40 hb44
     refine Zy hE rfl (lkb rfl hb44) rfl (by decide) fun a hE=>Zy hE rfl (lkb rfl hb44) rfl (by decide) fun a hE=>Zy hE rfl (lkb rfl hb44) rfl (by decide) fun a hE=>Xx hE Za ld (lkb rfl hb44) rfl fun a hE=>Zi ?_
     have ht45:=Option.some.inj hl40
     subst ht45
     refine Zj ?_
     exact ⟨hE.sub ⟨rfl,rfl,rfl,rfl,rfl,rfl,rfl,trivial⟩,hM⟩
    ·have hl40:=Zx hl40 hb44
     refine Zd hE (Zz hE rfl (lkb rfl hb44)) (by decide) rfl fun a hE=>Zd hE (Zz hE rfl (lkb rfl hb44)) (by decide) rfl fun a hE=>Zk hE (Zz hE rfl (lkb rfl hb44)) (by decide) rfl rfl rfl fun a hE=>YO hE Za ld (lkb rfl hb44) rfl fun a hE=>Zi ?_
     have ht46:=Option.some.inj hl40
     subst ht46
     refine Zj ?_
     exact ⟨hE.sub ⟨rfl,rfl,rfl,rfl,rfl,rfl,rfl,trivial⟩,hM⟩
   ·skip
    rintro a w ⟨hE,hM⟩
    refine Zr hE rfl ?_ ?_
    ·intro hb47
     have hF41:=Zw hF41 hb47
     refine Zc (Ze hE Za ld rfl fun a hE=>Zf ?_)
     have hr:=Option.some.inj hF41
     subst hr
     have hM:=M.fst (l:=[]) hM
     exact wp_ret (ZH (ZD hE rfl (ZA hE rfl) ⟨_,rfl,rfl,hM.kept⟩))
    ·intro hb47
     have hF41:=Zx hF41 hb47
     refine wp_skip (Zt (Zc (Ze hE Za ld rfl fun a hE=>Zf (Zc (Zd hE Za ld rfl fun a hE=>Zd hE Za ld rfl ?_))))); intro a hE
     have hM:=(hM.pull (pre:=[_,_,_,_])).toOwn noB
     obtain ⟨r48,e49,hF41⟩:=bind_some hF41
     refine Zq hE Za ld rfl cb31 (TC _ _ _ _ j23.2 u26 1 hM r48 e49) ?_
     rintro v w a ⟨rfl,hM⟩ hE
     refine Ze hE Za ld rfl fun a hE=>Zf (Zc (Ze hE Za ld rfl fun a hE=>Zf (Zc (Zd hE Za ld rfl fun a hE=>Zd hE Za ld rfl ?_)))); intro a hE
     obtain ⟨r50,e51,hF41⟩:=bind_some hF41
     refine Zq hE Za ld rfl cb32 (VZ _ r48.1 u26 (hM.ro (pre:=[]) noB) 1 r50 e51) ?_
     rintro v w a ⟨rfl,hK⟩ hE
     have hM:=hM.keep hK
     refine Ze hE Za ld rfl fun a hE=>Zf (wp_seq (Zc (Zd hE Za ld rfl fun a hE=>Zk hE Za ld rfl rfl rfl fun a hE=>Zf ?_)))
     refine Zr hE rfl ?_ ?_
     ·intro hb52
      have hF41:=Zw hF41 hb52
      refine Zc (Ze hE Za ld rfl fun a hE=>Zf ?_)
      have hr:=Option.some.inj hF41
      subst hr
      have hM:=M.fst (l:=[]) hM
      exact wp_ret (ZH (ZD hE rfl (ZA hE rfl) ⟨_,rfl,rfl,hM.kept⟩))
     ·intro hb52
      have hF41:=Zx hF41 hb52
      refine wp_skip (Zt (wp_seq (Zc (Zd hE Za ld rfl fun a hE=>Zd hE Za ld rfl fun a hE=>Zk hE Za ld rfl rfl rfl fun a hE=>Zf ?_))))
      refine Zr hE rfl ?_ ?_
      ·intro hb53
       have hF41:=Zw hF41 hb53
       refine Zc (Ze hE Za ld rfl fun a hE=>Zf ?_)
       have hr:=Option.some.inj hF41
       subst hr
       have hM:=M.fst (l:=[]) hM
       exact wp_ret (ZH (ZD hE rfl (ZA hE rfl) ⟨_,rfl,rfl,hM.kept⟩))
      ·intro hb53
       have hF41:=Zx hF41 hb53
       refine wp_skip (Zt ?_)
       obtain ⟨j54,hl55,hF56⟩:=bind_some hF41
       refine ZL (fun a w=>∃ (u57 : Value),Env 82 a [(7,u10),(8,vI j7.2),(9,u26),(11,vI r48.2),(13,u57),(14,vI j54.2)] ∧ M (Old w0) w0 w [own NoB (r48.1 : (List GMeeting)) [u26],osl NoB (j7.1 : List GMeeting) u10,osl NoB (j54.1 : List GMeeting) u57]) ?_ ?_
       ·skip
        obtain ⟨r60,e61,hl55⟩:=bind_some hl55
        obtain ⟨r62,e63,hl55⟩:=bind_some hl55
        obtain ⟨r64,e65,hl55⟩:=bind_some hl55
        obtain ⟨r66,e67,hl55⟩:=bind_some hl55
        refine V3 (n:=82) (hd:=[_,_,_,_,_,_,_,_,_,_,_]) (tl:=[_]) YR rfl rfl [56,57,58,59,60,61,62,55,63,64,13] (by decide) (fun D u w=>M (Old w0) w0 w ([own NoB (r48.1 : (List GMeeting)) [u26],raw b5 (enc p2),raw b3 (enc p1),raw b1 (cat [[vI p0.Field],enc p0.Box,enc p0.Mix,enc p0.Places,[vI p0.Rounds]]),osl NoB (j7.1 : List GMeeting) u10] ++ qL ([mkO 6 (fun v=>osl NoB (r66.1 : List GMeeting) (ZY v 0))] : Mk) D u) ∧ GOk ([([],fun us v=>v = (Value.agg (enc p0).toArray)),([],fun us v=>v = (Value.agg (enc r60).toArray)),([],fun us v=>v = (Value.agg (enc p1).toArray)),([],fun us v=>v = (Value.agg (enc r62).toArray)),([],fun us v=>v = (Value.agg (enc p2).toArray)),([],fun us v=>v = (Value.agg (enc r64).toArray)),([],fun us v=>v = (Value.tuple [(ZY v 0),vI r66.2].toArray)),([6],fun us v=>v = (Value.tuple [(ZY (us.getD 0 undef) 0),vI r66.2].toArray)),([6],fun us v=>v = (ZY (us.getD 0 undef) 0)),([],fun us v=>v = (vI r66.2)),([6],fun us v=>v = (ZY (us.getD 0 undef) 0))] : Gs) D u) hE (fun u=>⟨M.qE (M.q0 hM.drew u) emO,JH⟩) (ZK (Zb ?_ (Zb ?_ (Zb ?_ (Zb ?_ (Zb ?_ (Zb ?_ (Zb ?_ (Zb ?_ (Zb ?_ (Zb ?_ (Zb ?_ ZE)))))))))))) ?_
        ·intro a w ux59 D hE hI hD hdc hp
         have hM0:=hI.1
         have hM:=hI.1
         exact Zl (cs:=enc p0) hE Za ld rfl J9 rfl (hM.rawAt (pre:=[_,_,_])) (Y8 (cl1 (n:=1) (m:=289) rfl (cl1 (n:=256) (m:=33) (Flat.len _) (cl1 (n:=16) (m:=17) (Flat.len _) (cl1 (n:=16) (m:=1) (Flat.len _) (cl1 (n:=1) (m:=0) rfl cl0)))))) fun a hE=>⟨_,_,rfl,hE,M.qKeep hM0 rfl,hI.2.put hD rfl ZQ rfl⟩
        ·intro a w ux59 D hE hI hD hdc hp
         have d0 : D 0 = true:=hp 0 _ rfl rfl
         have g0:=hI.2 0 d0 _ rfl
         have f0 : ux59 0 = (Value.agg (enc p0).toArray):=g0.2
         have hM0:=hI.1
         refine Zq hE Za ld (ZV (ZT (lk rfl f0) Xw)) cb25 (VW _ p0 r60 e61) ?_
         rintro v w a ⟨rfl,hK⟩ hE
         exact ⟨_,_,rfl,hE,M.qKeep (hM0.keep hK) rfl,hI.2.put hD rfl ZQ rfl⟩
        ·intro a w ux59 D hE hI hD hdc hp
         have hM0:=hI.1
         have hM:=hI.1
         exact Zl (cs:=enc p1) hE Za ld rfl Hm rfl (hM.rawAt (pre:=[_,_])) (Flat.len _) fun a hE=>⟨_,_,rfl,hE,M.qKeep hM0 rfl,hI.2.put hD rfl ZQ rfl⟩
        ·intro a w ux59 D hE hI hD hdc hp
         have d2 : D 2 = true:=hp 0 _ rfl rfl
         have g2:=hI.2 2 d2 _ rfl
         have f2 : ux59 2 = (Value.agg (enc p1).toArray):=g2.2
         have hM0:=hI.1
         refine Zq hE Za ld (ZV (ZT (lk rfl f2) Xw)) cb26 (Wj _ p1 r62 e63) ?_
         rintro v w a ⟨rfl,hK⟩ hE
         exact ⟨_,_,rfl,hE,M.qKeep (hM0.keep hK) rfl,hI.2.put hD rfl ZQ rfl⟩
        ·intro a w ux59 D hE hI hD hdc hp
         have hM0:=hI.1
         have hM:=hI.1
         exact Zl (cs:=enc p2) hE Za ld rfl Hm rfl (hM.rawAt (pre:=[_])) (Flat.len _) fun a hE=>⟨_,_,rfl,hE,M.qKeep hM0 rfl,hI.2.put hD rfl ZQ rfl⟩
        ·intro a w ux59 D hE hI hD hdc hp
         have d4 : D 4 = true:=hp 0 _ rfl rfl
         have g4:=hI.2 4 d4 _ rfl
         have f4 : ux59 4 = (Value.agg (enc p2).toArray):=g4.2
         have hM0:=hI.1
         refine Zq hE Za ld (ZV (ZT (lk rfl f4) Xw)) cb26 (Wj _ p2 r64 e65) ?_
         rintro v w a ⟨rfl,hK⟩ hE
         exact ⟨_,_,rfl,hE,M.qKeep (hM0.keep hK) rfl,hI.2.put hD rfl ZQ rfl⟩
        ·intro a w ux59 D hE hI hD hdc hp
         have d1 : D 1 = true:=hp 0 _ rfl rfl
         have g1:=hI.2 1 d1 _ rfl
         have f1 : ux59 1 = (Value.agg (enc r60).toArray):=g1.2
         have d3 : D 3 = true:=hp 1 _ rfl rfl
         have g3:=hI.2 3 d3 _ rfl
         have f3 : ux59 3 = (Value.agg (enc r62).toArray):=g3.2
         have d5 : D 5 = true:=hp 2 _ rfl rfl
         have g5:=hI.2 5 d5 _ rfl
         have f5 : ux59 5 = (Value.agg (enc r64).toArray):=g5.2
         have hM0:=hI.1
         have hM:=hI.1
         refine Zq hE Za ld (ZV (ZT (lk rfl f1) (ZT (lk rfl f3) (ZT (lk rfl f5) Xw)))) cb29 (Up _ r60 r62 r64 r66 e67) ?_
         rintro _ w a ⟨u68,rfl,hFr,hK⟩ hE
         have hM:=hM0.add hK hFr
         exact ⟨_,_,rfl,hE,M.qFill (mk1:=[]) (mk2:=[]) (f:=(fun v=>osl NoB (r66.1 : List GMeeting) (ZY v 0))) hM rfl hD,hI.2.put hD rfl ZQ rfl⟩
        ·intro a w ux59 D hE hI hD hdc hp
         have d6 : D 6 = true:=hp 0 _ rfl rfl
         have g6:=hI.2 6 d6 _ rfl
         have f6 : ux59 6 = (Value.tuple [(ZY (ux59 6) 0),vI r66.2].toArray):=g6.2
         have hM0:=hI.1
         exact Zd hE Za ld (lk rfl f6) fun a hE=>⟨_,_,rfl,hE,M.qKeep hM0 rfl,hI.2.put hD rfl (Jx d6 ZQ) rfl⟩
        ·intro a w ux59 D hE hI hD hdc hp
         have d7 : D 7 = true:=hp 0 _ rfl rfl
         have g7:=hI.2 7 d7 _ rfl
         have d6 : D 6 = true:=g7.1 6 (show 6 ∈ [6] by decide)
         have f7 : ux59 7 = (Value.tuple [(ZY (ux59 6) 0),vI r66.2].toArray):=g7.2
         have hM0:=hI.1
         exact Yt hE Za ld (lk rfl f7) rfl fun a hE=>⟨_,_,rfl,hE,M.qKeep hM0 rfl,hI.2.put hD rfl (Jx d6 ZQ) rfl⟩
        ·intro a w ux59 D hE hI hD hdc hp
         have d7 : D 7 = true:=hp 0 _ rfl rfl
         have g7:=hI.2 7 d7 _ rfl
         have d6 : D 6 = true:=g7.1 6 (show 6 ∈ [6] by decide)
         have f7 : ux59 7 = (Value.tuple [(ZY (ux59 6) 0),vI r66.2].toArray):=g7.2
         have hM0:=hI.1
         exact Yt hE Za ld (lk rfl f7) rfl fun a hE=>⟨_,_,rfl,hE,M.qKeep hM0 rfl,hI.2.put hD rfl ZQ rfl⟩
        ·intro a w ux59 D hE hI hD hdc hp
         have d8 : D 8 = true:=hp 0 _ rfl rfl
         have g8:=hI.2 8 d8 _ rfl
         have d6 : D 6 = true:=g8.1 6 (show 6 ∈ [6] by decide)
         have f8 : ux59 8 = (ZY (ux59 6) 0):=g8.2
         have hM0:=hI.1
         exact Ze hE Za ld (lk rfl f8) fun a hE=>⟨_,_,rfl,hE,M.qKeep hM0 rfl,hI.2.put hD rfl (Jx d6 ZQ) rfl⟩
        ·intro a w ux59 D hE hI hall
         have hM:=hI.1
         have d0 : D 0 = true:=hall 0 (by decide)
         have d1 : D 1 = true:=hall 1 (by decide)
         have d2 : D 2 = true:=hall 2 (by decide)
         have d3 : D 3 = true:=hall 3 (by decide)
         have d4 : D 4 = true:=hall 4 (by decide)
         have d5 : D 5 = true:=hall 5 (by decide)
         have d6 : D 6 = true:=hall 6 (by decide)
         have d7 : D 7 = true:=hall 7 (by decide)
         have d8 : D 8 = true:=hall 8 (by decide)
         have d9 : D 9 = true:=hall 9 (by decide)
         have d10 : D 10 = true:=hall 10 (by decide)
         have f0 : ux59 0 = (Value.agg (enc p0).toArray):=(hI.2 0 d0 _ rfl).2
         have f1 : ux59 1 = (Value.agg (enc r60).toArray):=(hI.2 1 d1 _ rfl).2
         have f2 : ux59 2 = (Value.agg (enc p1).toArray):=(hI.2 2 d2 _ rfl).2
         have f3 : ux59 3 = (Value.agg (enc r62).toArray):=(hI.2 3 d3 _ rfl).2
         have f4 : ux59 4 = (Value.agg (enc p2).toArray):=(hI.2 4 d4 _ rfl).2
         have f5 : ux59 5 = (Value.agg (enc r64).toArray):=(hI.2 5 d5 _ rfl).2
         have f6 : ux59 6 = (Value.tuple [(ZY (ux59 6) 0),vI r66.2].toArray):=(hI.2 6 d6 _ rfl).2
         have f7 : ux59 7 = (Value.tuple [(ZY (ux59 6) 0),vI r66.2].toArray):=(hI.2 7 d7 _ rfl).2
         have f8 : ux59 8 = (ZY (ux59 6) 0):=(hI.2 8 d8 _ rfl).2
         have f9 : ux59 9 = (vI r66.2):=(hI.2 9 d9 _ rfl).2
         have f10 : ux59 10 = (ZY (ux59 6) 0):=(hI.2 10 d10 _ rfl).2
         have hM:=hM.sure (pre:=[_,_,_,_,_]) d6
         have hE:=hE.sub (e':=[(64,vI r66.2),(13,(ZY (ux59 6) 0)),(7,u10),(8,vI j7.2),(9,u26),(11,vI r48.2),(12,vI r50)]) ⟨lk rfl f9,lk rfl f10,rfl,rfl,rfl,rfl,rfl,trivial⟩
         refine Ze hE Za ld rfl fun a hE=>Zi ?_
         have ht69:=Option.some.inj hl55
         subst ht69
         refine Zj ?_
         have hM:=M.fst (l:=[_,_,_]) (((hM.pull (pre:=[_,_,_,_,_])).pull (pre:=[_,_,_,_,_])).pull (pre:=[_,_]))
         exact ⟨(ZY (ux59 6) 0),hE.sub ⟨rfl,rfl,rfl,rfl,rfl,rfl,trivial⟩,hM⟩
       ·skip
        rintro a w ⟨u57,hE,hM⟩
        refine wp_seq ?_
        obtain ⟨j70,hl71,hF72⟩:=bind_some hF56
        refine ZL (fun a w=>Env 82 a [(9,u26),(11,vI r48.2),(73,vT j70)] ∧ M (Old w0) w0 w [own NoB (r48.1 : (List GMeeting)) [u26]]) ?_ ?_
        ·skip
         refine wp_region_lit (Zd hE Za ld rfl fun a hE=>Zd hE Za ld rfl ?_); intro a hE
         obtain ⟨r73,e74,hl71⟩:=bind_some hl71
         refine Zq hE Za ld rfl cb30 (Um _ j54.1 u57 (hM.sl (pre:=[_,_]) noB) j7.1 u10 (hM.sl (pre:=[_]) noB) r73 e74) ?_
         rintro v w a ⟨rfl,hK⟩ hE
         have hM:=hM.keep hK
         refine UV hE Za ld rfl fun a hE=>Zd hE Za ld rfl ?_; intro a hE
         refine Va (!r73) (fun hb75=>?_) (fun hb75=>?_)
         ·have hl71:=Zw hl71 hb75
          refine Zy hE rfl (lkb rfl hb75) rfl (by decide) fun a hE=>Zy hE rfl (lkb rfl hb75) rfl (by decide) fun a hE=>Zy hE rfl (lkb rfl hb75) rfl (by decide) fun a hE=>Xx hE Za ld (lkb rfl hb75) rfl fun a hE=>Zi ?_
          have ht76:=Option.some.inj hl71
          subst ht76
          refine Zj ?_
          have hM:=M.fst (l:=[_]) hM
          exact ⟨hE.sub ⟨rfl,rfl,rfl,trivial⟩,hM⟩
         ·have hl71:=Zx hl71 hb75
          refine Zd hE (Zz hE rfl (lkb rfl hb75)) (by decide) rfl fun a hE=>Zd hE (Zz hE rfl (lkb rfl hb75)) (by decide) rfl fun a hE=>Zk hE (Zz hE rfl (lkb rfl hb75)) (by decide) rfl rfl rfl fun a hE=>YO hE Za ld (lkb rfl hb75) rfl fun a hE=>Zi ?_
          have ht77:=Option.some.inj hl71
          subst ht77
          refine Zj ?_
          have hM:=M.fst (l:=[_]) hM
          exact ⟨hE.sub ⟨rfl,rfl,rfl,trivial⟩,hM⟩
        ·skip
         rintro a w ⟨hE,hM⟩
         refine Zr hE rfl ?_ ?_
         ·intro hb78
          have hF72:=Zw hF72 hb78
          refine Zc (Ze hE Za ld rfl fun a hE=>Zf ?_)
          have hr:=Option.some.inj hF72
          subst hr
          have hM:=M.fst (l:=[]) hM
          exact wp_ret (ZH (ZD hE rfl (ZA hE rfl) ⟨_,rfl,rfl,hM.kept⟩))
         ·intro hb78
          have hF72:=Zx hF72 hb78
          refine wp_skip (Zt (Zc (Ze hE Za ld rfl fun a hE=>Zf (Zc (Zd hE Za ld rfl fun a hE=>Zd hE Za ld rfl ?_))))); intro a hE
          obtain ⟨r79,e80,hF72⟩:=bind_some hF72
          refine Zq hE Za ld rfl cb32 (VZ _ r48.1 u26 (hM.ro (pre:=[]) noB) 1 r79 e80) ?_
          rintro v w a ⟨rfl,hK⟩ hE
          have hM:=hM.keep hK
          refine Ze hE Za ld rfl fun a hE=>Zf (wp_seq (Zc (Zd hE Za ld rfl fun a hE=>Zk hE Za ld rfl rfl rfl fun a hE=>Zf ?_)))
          refine Zr hE rfl ?_ ?_
          ·intro hb81
           have hF72:=Zw hF72 hb81
           refine Zc (Ze hE Za ld rfl fun a hE=>Zf ?_)
           have hr:=Option.some.inj hF72
           subst hr
           have hM:=M.fst (l:=[]) hM
           exact wp_ret (ZH (ZD hE rfl (ZA hE rfl) ⟨_,rfl,rfl,hM.kept⟩))
          ·intro hb81
           have hF72:=Zx hF72 hb81
           refine wp_skip (Zt (wp_seq (Zc (Zd hE Za ld rfl fun a hE=>Zd hE Za ld rfl fun a hE=>Zk hE Za ld rfl rfl rfl fun a hE=>Zf ?_))))
           refine Zr hE rfl ?_ ?_
           ·intro hb82
            have hF72:=Zw hF72 hb82
            refine Zc (Ze hE Za ld rfl fun a hE=>Zf ?_)
            have hr:=Option.some.inj hF72
            subst hr
            have hM:=M.fst (l:=[]) hM
            exact wp_ret (ZH (ZD hE rfl (ZA hE rfl) ⟨_,rfl,rfl,hM.kept⟩))
           ·intro hb82
            have hF72:=Zx hF72 hb82
            refine wp_skip (Zt (Zc (Ze hE Za ld rfl fun a hE=>Zf ?_)))
            have hr:=Option.some.inj hF72
            subst hr
            have hM:=M.fst (l:=[]) hM
            exact wp_ret (ZD hE rfl (ZA hE rfl) ⟨_,rfl,rfl,hM.kept⟩)
end

end Go.Proofs.Ytpjogonponkbmaa
