/- The walk of what the law reaches: contracts of functions. -/
import Derived.Test.YtkajmkegelcfjaaC3
set_option linter.unusedVariables false
set_option linter.unusedSimpArgs false
set_option maxRecDepth 20000
set_option maxHeartbeats 400000
namespace Go.Proofs.Ytkajmkegelcfjaa
open Go
open Flat (enc)
noncomputable section
theorem TK (w0 : World) (p0 : (List UInt8)) (v0_1 : Value) (hv0_1 : Ro w0 p0 [v0_1]) (r : GCipher × (Vector UInt8 16) × Int) (hF : Xp p0 = some r) :
  Calls Try.prog 33 [v0_1].toArray w0 (fun en w'=>∃ v,en = .returned v ∧ (v = (Value.tuple [(Value.agg (enc r.1).toArray),(Value.agg (enc r.2.1).toArray),vI r.2.2].toArray) ∧ Kept (Old w0) w0 w')):=by
 refine ZJ (n:=29) Try.func33 rfl rfl (nbl rfl) rfl ?_
 intro a hE
 have hM:=M.start w0
 unfold Xp at hF
 refine Zd (Zu hE hM Za ld Z8 fun b1 w a hM hE=>Zu hE hM Za ld Zw fun b3 w a hM hE=>Ze hE Za ld rfl fun a hE=>Zf (Zd (Zc hE Za ld rfl ?_))); intro a hE
 have hM:=M.tailP (m:=[]) hM
 obtain ⟨r5,e6,hF⟩:=bind_some hF
 refine Zo hE Za ld rfl cb47 (V9 _ _ _ _ p0 v0_1 hv0_1 hM r5 e6) ?_
 rintro v w a ⟨b7,rfl,hM⟩ hE
 have hM:=M.tailU (m:=[_]) hM
 simp only [List.cons_append,List.nil_append] at hM
 refine Ze hE Za ld rfl fun a hE=>Zf (Zd (Zc hE Za ld rfl ?_)); intro a hE
 obtain ⟨r9,e10,hF⟩:=bind_some hF
 refine Zo hE Za ld rfl cb85 (TY _ p0 v0_1 (hM.rdo hv0_1) r9 e10) ?_
 rintro v w a ⟨rfl,hK⟩ hE
 have hM:=hM.keep hK
 refine Zc hE Za ld rfl fun a hE=>Zy hE Za ld rfl rfl fun a hE=>Zy hE Za ld rfl rfl fun a hE=>Zy hE Za ld rfl rfl fun a hE=>Zy hE Za ld rfl rfl fun a hE=>Zy hE Za ld rfl rfl fun a hE=>Zu hE hM Za ld Z8 fun b11 w a hM hE=>Zu hE hM Za ld Zw fun b13 w a hM hE=>Zu hE hM Za ld Zw ?_; intro b15 w a hM hE
 have hM:=hM.pull (pre:=[_,_])
 refine Zi (seg:=cat [[vI r9.1.Field],enc r9.1.Box,enc r9.1.Mix,enc r9.1.Places,[vI r9.1.Rounds]]) (cs':=cat [[vI r9.1.Field],enc r9.1.Box,enc r9.1.Mix,enc r9.1.Places,[vI r9.1.Rounds]]) hE hM Za rfl rfl rfl Z8 (Zl (cl1 (n:=1) (m:=289) rfl (cl1 (n:=256) (m:=33) (Flat.len _) (cl1 (n:=16) (m:=17) (Flat.len _) (cl1 (n:=16) (m:=1) (Flat.len _) (cl1 (n:=1) (m:=0) rfl cl0)))))) (Nat.le_of_eq ((Nat.zero_add _).trans (Eq.trans (Zl (cl1 (n:=1) (m:=289) rfl (cl1 (n:=256) (m:=33) (Flat.len _) (cl1 (n:=16) (m:=17) (Flat.len _) (cl1 (n:=16) (m:=1) (Flat.len _) (cl1 (n:=1) (m:=0) rfl cl0)))))) (Eq.symm (Zl (cl1 (n:=1) (m:=289) rfl (cl1 (n:=256) (m:=33) (Flat.len _) (cl1 (n:=16) (m:=17) (Flat.len _) (cl1 (n:=16) (m:=1) (Flat.len _) (cl1 (n:=1) (m:=0) rfl cl0)))))))))) (Yq (cc1 (Flat.cell (r9.1.Field : Int)) (cc1 (Flat.cell _) (cc1 (Flat.cell _) (cc1 (Flat.cell _) (cc1 (Flat.cell (r9.1.Rounds : Int)) cc0)))))) (Zg (Eq.trans (Zl (cl1 (n:=1) (m:=289) rfl (cl1 (n:=256) (m:=33) (Flat.len _) (cl1 (n:=16) (m:=17) (Flat.len _) (cl1 (n:=16) (m:=1) (Flat.len _) (cl1 (n:=1) (m:=0) rfl cl0)))))) (Eq.symm (Zl (cl1 (n:=1) (m:=289) rfl (cl1 (n:=256) (m:=33) (Flat.len _) (cl1 (n:=16) (m:=17) (Flat.len _) (cl1 (n:=16) (m:=1) (Flat.len _) (cl1 (n:=1) (m:=0) rfl cl0))))))))) ?_; intro w a hM hE
 have hM:=hM.pull (pre:=[_,_])
 refine Zi (seg:=enc r9.2.1) (cs':=enc r9.2.1) hE hM Za rfl rfl rfl Zw (Flat.len _) (zle flq) (Flat.cell _) (Zg flq) ?_; intro w a hM hE
 have hM:=hM.pull (pre:=[_,_])
 refine Zi (seg:=enc r9.2.2.1) (cs':=enc r9.2.2.1) hE hM Za rfl rfl rfl Zw (Flat.len _) (zle flq) (Flat.cell _) (Zg flq) fun w a hM hE=>Ze hE Za ld rfl fun a hE=>Ze hE Za ld rfl fun a hE=>Zf ?_
 obtain ⟨j17,hl18,hF19⟩:=bind_some hF
 refine ZT (fun a w=>Env 29 a [(2,(ptr b1 0)),(3,(ptr b3 0)),(4,vI j17.2.2.2.2.2.2)] ∧ M (Old w0) w0 w [raw b3 (enc j17.2.2.2.2.2.1),raw b1 (cat [[vI j17.1],enc j17.2.1,enc j17.2.2.1,enc j17.2.2.2.1,[vI j17.2.2.2.2.1]])]) ?_ ?_
 ·skip
  have hM:=((hM.pull (pre:=[_,_,_,_,_])).pull (pre:=[_,_,_,_,_])).pull (pre:=[_,_,_,_,_])
  obtain ⟨r21,e22,hl18⟩:=bind_some hl18
  obtain ⟨r23,e24,hl18⟩:=bind_some hl18
  refine Vj (n:=29) (hd:=[_,_,_,_,_,_,_,_,_,_]) (tl:=[_]) YS rfl rfl [21,22,23,24,25,26,27,28,37,38] (by decide) (fun D u w=>M (Old w0) w0 w ([raw b15 (enc r9.2.2.1),raw b13 (enc r9.2.1),raw b11 (cat [[vI r9.1.Field],enc r9.1.Box,enc r9.1.Mix,enc r9.1.Places,[vI r9.1.Rounds]])] ++ qL ([mkT 8 (raw b1 (cat [[vI 0],enc (Vector.replicate 256 (0 : UInt8)),enc (Vector.replicate 4 (Vector.replicate 4 (0 : UInt8))),enc (Vector.replicate 16 (0 : UInt8)),[vI 0]])) (raw b1 (cat [[vI r9.1.Field],enc r9.1.Box,enc r9.1.Mix,enc r9.1.Places,[vI r9.1.Rounds]])),mkT 9 (raw b3 (enc (Vector.replicate 16 (0 : UInt8)))) (raw b3 (enc r9.2.1)),([3,5],fun bs _=>(tog (bs.getD 0 false) (raw b7 (cat [[v0_1],[vI r5.1],[(Value.int .u64 r5.2)]])) (tog (bs.getD 1 false) (raw b7 (cat [[v0_1],[vI r21.1.1],[(Value.int .u64 r21.1.2)]])) (raw b7 (cat [[v0_1],[vI r23.1.1],[(Value.int .u64 r23.1.2)]])))))] : Mk) D u) ∧ GOk ([([],fun us v=>v = (Value.agg (enc r9.1).toArray)),([],fun us v=>v = (Value.agg (enc r9.2.1).toArray)),([],fun us v=>v = (ptr b7 0)),([],fun us v=>v = (vI r21.2)),([],fun us v=>v = (ptr b7 0)),([],fun us v=>v = (vI r23.2)),([],fun us v=>v = (vI (wr (Int.tdiv r23.2 23)))),([],fun us v=>v = (vI (wr (r21.2 - (wr (Int.tdiv r23.2 23)))))),([],fun us v=>True),([],fun us v=>True)] : Gs) D u) hE (fun u=>⟨M.qT (M.qT (M.qS (M.q0 hM.drew u) fun _=>rfl)),KH⟩) (ZS (Zb ?_ (Zb ?_ (Zb ?_ (Zb ?_ (Zb ?_ (Zb ?_ (Zb ?_ (Zb ?_ (Zb ?_ (Zb ?_ ZL))))))))))) ?_
  ·intro a w ux20 D hE hI hD hdc hp
   have hM0:=hI.1
   have hM:=hI.1
   have hM:=hM.togA (pre:=[_,_,_]) (Bool.eq_false_iff.2 fun hx=>Bool.noConfusion (hD.symm.trans (hdc 8 _ _ rfl (List.mem_of_getElem? (i:=0) rfl) rfl hx)))
   have hM:=hM.togA (pre:=[_,_,_,_]) (Bool.eq_false_iff.2 fun hx=>Bool.noConfusion (hD.symm.trans (hdc 9 _ _ rfl (List.mem_of_getElem? (i:=2) rfl) rfl hx)))
   exact Zj (cs:=enc r9.1) hE Za ld rfl Z8 rfl (hM.rawAt (pre:=[_,_])) (Zl (cl1 (n:=1) (m:=289) rfl (cl1 (n:=256) (m:=33) (Flat.len _) (cl1 (n:=16) (m:=17) (Flat.len _) (cl1 (n:=16) (m:=1) (Flat.len _) (cl1 (n:=1) (m:=0) rfl cl0)))))) fun a hE=>⟨_,_,rfl,hE,M.qKeep hM0 rfl,hI.2.put hD rfl ZR rfl⟩
  ·intro a w ux20 D hE hI hD hdc hp
   have hM0:=hI.1
   have hM:=hI.1
   have hM:=hM.togA (pre:=[_,_,_,_]) (Bool.eq_false_iff.2 fun hx=>Bool.noConfusion (hD.symm.trans (hdc 9 _ _ rfl (List.mem_of_getElem? (i:=0) rfl) rfl hx)))
   exact Zj (cs:=enc r9.2.1) hE Za ld rfl Zw rfl (hM.rawAt (pre:=[_])) (Flat.len _) fun a hE=>⟨_,_,rfl,hE,M.qKeep hM0 rfl,hI.2.put hD rfl ZR rfl⟩
  ·intro a w ux20 D hE hI hD hdc hp
   have hM0:=hI.1
   exact Zc hE Za ld rfl fun a hE=>⟨_,_,rfl,hE,M.qKeep hM0 rfl,hI.2.put hD rfl ZR rfl⟩
  ·intro a w ux20 D hE hI hD hdc hp
   have d2 : D 2 = true:=hp 0 _ rfl rfl
   have g2:=hI.2 2 d2 _ rfl
   have f2 : ux20 2 = (ptr b7 0):=g2.2
   have hM0:=hI.1
   have hM : M (Old w0) w0 w [raw b15 (enc r9.2.2.1),raw b13 (enc r9.2.1),raw b11 (cat [[vI r9.1.Field],enc r9.1.Box,enc r9.1.Mix,enc r9.1.Places,[vI r9.1.Rounds]]),tog (D 8) (raw b1 (cat [[vI 0],enc (Vector.replicate 256 (0 : UInt8)),enc (Vector.replicate 4 (Vector.replicate 4 (0 : UInt8))),enc (Vector.replicate 16 (0 : UInt8)),[vI 0]])) (raw b1 (cat [[vI r9.1.Field],enc r9.1.Box,enc r9.1.Mix,enc r9.1.Places,[vI r9.1.Rounds]])),tog (D 9) (raw b3 (enc (Vector.replicate 16 (0 : UInt8)))) (raw b3 (enc r9.2.1)),tog (D 3) (raw b7 (cat [[v0_1],[vI r5.1],[(Value.int .u64 r5.2)]])) (tog (D 5) (raw b7 (cat [[v0_1],[vI r21.1.1],[(Value.int .u64 r21.1.2)]])) (raw b7 (cat [[v0_1],[vI r23.1.1],[(Value.int .u64 r23.1.2)]])))]:=hI.1
   have hM:=hM.togA (pre:=[_,_,_,_,_]) hD
   have hNx : D 5 = false:=Bool.eq_false_iff.2 fun hx=>Bool.noConfusion (hD.symm.trans (hdc 5 _ _ rfl (List.mem_of_getElem? (i:=1) rfl) rfl hx))
   have hM:=M.tailP (m:=[_]) (hM.pull (pre:=[_,_,_,_,_]))
   refine Zo hE Za ld (Z1 (ZX (lk rfl f2) (ZX rfl Xg))) VD (ZH _ _ _ _ b7 p0 v0_1 hv0_1 (r5.1,r5.2) 65537 hM r21 e22) ?_
   rintro v w a ⟨rfl,hM⟩ hE
   have hM:=M.tailU (m:=[_]) hM
   simp only [List.cons_append,List.nil_append] at hM
   exact ⟨_,_,rfl,hE,M.qTogS (p:=([3,5],fun bs _=>(tog (bs.getD 0 false) (raw b7 (cat [[v0_1],[vI r5.1],[(Value.int .u64 r5.2)]])) (tog (bs.getD 1 false) (raw b7 (cat [[v0_1],[vI r21.1.1],[(Value.int .u64 r21.1.2)]])) (raw b7 (cat [[v0_1],[vI r23.1.1],[(Value.int .u64 r23.1.2)]])))))) (mk1:=[_,_]) (mk2:=[]) hM rfl (by show tog (Yl D 3 3) (raw b7 (cat [[v0_1],[vI r5.1],[(Value.int .u64 r5.2)]])) (tog (Yl D 3 5) (raw b7 (cat [[v0_1],[vI r21.1.1],[(Value.int .u64 r21.1.2)]])) (raw b7 (cat [[v0_1],[vI r23.1.1],[(Value.int .u64 r23.1.2)]]))) = _; rw [tg1 KF,tg0 (Bx (i:=3) hNx (by decide))]),hI.2.put hD rfl ZR rfl⟩
  ·intro a w ux20 D hE hI hD hdc hp
   have hM0:=hI.1
   exact Zc hE Za ld rfl fun a hE=>⟨_,_,rfl,hE,M.qKeep hM0 rfl,hI.2.put hD rfl ZR rfl⟩
  ·intro a w ux20 D hE hI hD hdc hp
   have d4 : D 4 = true:=hp 0 _ rfl rfl
   have g4:=hI.2 4 d4 _ rfl
   have f4 : ux20 4 = (ptr b7 0):=g4.2
   have hM0:=hI.1
   have hM : M (Old w0) w0 w [raw b15 (enc r9.2.2.1),raw b13 (enc r9.2.1),raw b11 (cat [[vI r9.1.Field],enc r9.1.Box,enc r9.1.Mix,enc r9.1.Places,[vI r9.1.Rounds]]),tog (D 8) (raw b1 (cat [[vI 0],enc (Vector.replicate 256 (0 : UInt8)),enc (Vector.replicate 4 (Vector.replicate 4 (0 : UInt8))),enc (Vector.replicate 16 (0 : UInt8)),[vI 0]])) (raw b1 (cat [[vI r9.1.Field],enc r9.1.Box,enc r9.1.Mix,enc r9.1.Places,[vI r9.1.Rounds]])),tog (D 9) (raw b3 (enc (Vector.replicate 16 (0 : UInt8)))) (raw b3 (enc r9.2.1)),tog (D 3) (raw b7 (cat [[v0_1],[vI r5.1],[(Value.int .u64 r5.2)]])) (tog (D 5) (raw b7 (cat [[v0_1],[vI r21.1.1],[(Value.int .u64 r21.1.2)]])) (raw b7 (cat [[v0_1],[vI r23.1.1],[(Value.int .u64 r23.1.2)]])))]:=hI.1
   have dC3 : D 3 = true:=hp 1 _ rfl rfl
   have hM:=M.tailP (m:=[_]) (((hM.togB (pre:=[_,_,_,_,_]) dC3).togA (pre:=[_,_,_,_,_]) hD).pull (pre:=[_,_,_,_,_]))
   refine Zo hE Za ld (Z1 (ZX (lk rfl f4) (ZX rfl Xg))) VD (ZH _ _ _ _ b7 p0 v0_1 hv0_1 (r21.1.1,r21.1.2) 24 hM r23 e24) ?_
   rintro v w a ⟨rfl,hM⟩ hE
   have hM:=M.tailU (m:=[_]) hM
   simp only [List.cons_append,List.nil_append] at hM
   exact ⟨_,_,rfl,hE,M.qTogS (p:=([3,5],fun bs _=>(tog (bs.getD 0 false) (raw b7 (cat [[v0_1],[vI r5.1],[(Value.int .u64 r5.2)]])) (tog (bs.getD 1 false) (raw b7 (cat [[v0_1],[vI r21.1.1],[(Value.int .u64 r21.1.2)]])) (raw b7 (cat [[v0_1],[vI r23.1.1],[(Value.int .u64 r23.1.2)]])))))) (mk1:=[_,_]) (mk2:=[]) hM rfl (by show tog (Yl D 5 3) (raw b7 (cat [[v0_1],[vI r5.1],[(Value.int .u64 r5.2)]])) (tog (Yl D 5 5) (raw b7 (cat [[v0_1],[vI r21.1.1],[(Value.int .u64 r21.1.2)]])) (raw b7 (cat [[v0_1],[vI r23.1.1],[(Value.int .u64 r23.1.2)]]))) = _; rw [tg1 (K8 dC3),tg1 KF]),hI.2.put hD rfl ZR rfl⟩
  ·intro a w ux20 D hE hI hD hdc hp
   have d5 : D 5 = true:=hp 0 _ rfl rfl
   have g5:=hI.2 5 d5 _ rfl
   have f5 : ux20 5 = (vI r23.2):=g5.2
   have hM0:=hI.1
   exact Zm hE Za ld (lk rfl f5) rfl (Qf _ _ (by decide)) fun a hE=>⟨_,_,rfl,hE,M.qKeep hM0 rfl,hI.2.put hD rfl ZR rfl⟩
  ·intro a w ux20 D hE hI hD hdc hp
   have d3 : D 3 = true:=hp 0 _ rfl rfl
   have g3:=hI.2 3 d3 _ rfl
   have f3 : ux20 3 = (vI r21.2):=g3.2
   have d6 : D 6 = true:=hp 1 _ rfl rfl
   have g6:=hI.2 6 d6 _ rfl
   have f6 : ux20 6 = (vI (wr (Int.tdiv r23.2 23))):=g6.2
   have hM0:=hI.1
   exact Zm hE Za ld (lk rfl f3) (lk rfl f6) rfl fun a hE=>⟨_,_,rfl,hE,M.qKeep hM0 rfl,hI.2.put hD rfl ZR rfl⟩
  ·intro a w ux20 D hE hI hD hdc hp
   have d0 : D 0 = true:=hp 0 _ rfl rfl
   have g0:=hI.2 0 d0 _ rfl
   have f0 : ux20 0 = (Value.agg (enc r9.1).toArray):=g0.2
   have hM0:=hI.1
   have hM:=(hI.1.togA (pre:=[_,_,_]) hD).pull (pre:=[_,_,_])
   exact Zi (seg:=cat [[vI r9.1.Field],enc r9.1.Box,enc r9.1.Mix,enc r9.1.Places,[vI r9.1.Rounds]]) (cs':=cat [[vI r9.1.Field],enc r9.1.Box,enc r9.1.Mix,enc r9.1.Places,[vI r9.1.Rounds]]) hE hM Za rfl (lk rfl f0) rfl Z8 (Zl (cl1 (n:=1) (m:=289) rfl (cl1 (n:=256) (m:=33) (Flat.len _) (cl1 (n:=16) (m:=17) (Flat.len _) (cl1 (n:=16) (m:=1) (Flat.len _) (cl1 (n:=1) (m:=0) rfl cl0)))))) (Nat.le_of_eq ((Nat.zero_add _).trans (Eq.trans (Zl (cl1 (n:=1) (m:=289) rfl (cl1 (n:=256) (m:=33) (Flat.len _) (cl1 (n:=16) (m:=17) (Flat.len _) (cl1 (n:=16) (m:=1) (Flat.len _) (cl1 (n:=1) (m:=0) rfl cl0)))))) (Eq.symm (Zl (cl1 (n:=1) (m:=289) rfl (cl1 (n:=256) (m:=33) (Flat.len _) (cl1 (n:=16) (m:=17) (Flat.len _) (cl1 (n:=16) (m:=1) (Flat.len _) (cl1 (n:=1) (m:=0) rfl cl0)))))))))) (Yq (cc1 (Flat.cell (r9.1.Field : Int)) (cc1 (Flat.cell _) (cc1 (Flat.cell _) (cc1 (Flat.cell _) (cc1 (Flat.cell (r9.1.Rounds : Int)) cc0)))))) (Zg (Eq.trans (Zl (cl1 (n:=1) (m:=289) rfl (cl1 (n:=256) (m:=33) (Flat.len _) (cl1 (n:=16) (m:=17) (Flat.len _) (cl1 (n:=16) (m:=1) (Flat.len _) (cl1 (n:=1) (m:=0) rfl cl0)))))) (Eq.symm (Zl (cl1 (n:=1) (m:=289) rfl (cl1 (n:=256) (m:=33) (Flat.len _) (cl1 (n:=16) (m:=17) (Flat.len _) (cl1 (n:=16) (m:=1) (Flat.len _) (cl1 (n:=1) (m:=0) rfl cl0))))))))) fun w a hM hE=>⟨undef,_,rfl,Env.dummy hE (by decide),M.qTog (mk1:=[]) (mk2:=[_,_]) hM rfl,hI.2.put hD rfl ZR trivial⟩
  ·intro a w ux20 D hE hI hD hdc hp
   have d1 : D 1 = true:=hp 0 _ rfl rfl
   have g1:=hI.2 1 d1 _ rfl
   have f1 : ux20 1 = (Value.agg (enc r9.2.1).toArray):=g1.2
   have hM0:=hI.1
   have hM:=(hI.1.togA (pre:=[_,_,_,_]) hD).pull (pre:=[_,_,_,_])
   exact Zi (seg:=enc r9.2.1) (cs':=enc r9.2.1) hE hM Za rfl (lk rfl f1) rfl Zw (Flat.len _) (zle flq) (Flat.cell _) (Zg flq) fun w a hM hE=>⟨undef,_,rfl,Env.dummy hE (by decide),M.qTog (mk1:=[_]) (mk2:=[_]) hM rfl,hI.2.put hD rfl ZR trivial⟩
  ·intro a w ux20 D hE hI hall
   have hM:=hI.1
   have d0 : D 0 = true:=hall 0 (by decide)
   have d1 : D 1 = true:=hall 1 (by decide)
   have d2 : D 2 = true:=hall 2 (by decide)
   have d3 : D 3 = true:=hall 3 (by decide)
   have d4 : D 4 = true:=hall 4 (by decide)
   have d5 : D 5 = true:=hall 5 (by decide)
   have d6 : D 6 = true:=hall 6 (by decide)
   have d7 : D 7 = true:=hall 7 (by decide)
   have d8 : D 8 = true:=hall 8 (by decide)
   have d9 : D 9 = true:=hall 9 (by decide)
   have f0 : ux20 0 = (Value.agg (enc r9.1).toArray):=(hI.2 0 d0 _ rfl).2
   have f1 : ux20 1 = (Value.agg (enc r9.2.1).toArray):=(hI.2 1 d1 _ rfl).2
   have f2 : ux20 2 = (ptr b7 0):=(hI.2 2 d2 _ rfl).2
   have f3 : ux20 3 = (vI r21.2):=(hI.2 3 d3 _ rfl).2
   have f4 : ux20 4 = (ptr b7 0):=(hI.2 4 d4 _ rfl).2
   have f5 : ux20 5 = (vI r23.2):=(hI.2 5 d5 _ rfl).2
   have f6 : ux20 6 = (vI (wr (Int.tdiv r23.2 23))):=(hI.2 6 d6 _ rfl).2
   have f7 : ux20 7 = (vI (wr (r21.2 - (wr (Int.tdiv r23.2 23))))):=(hI.2 7 d7 _ rfl).2
   have hM:=(((hM.togB (pre:=[_,_,_]) d8).togB (pre:=[_,_,_,_]) d9).togB (pre:=[_,_,_,_,_]) d3).togB (pre:=[_,_,_,_,_]) d5
   have hE:=hE.sub (e':=[(28,(vI (wr (r21.2 - (wr (Int.tdiv r23.2 23)))))),(2,(ptr b1 0)),(3,(ptr b3 0)),(4,vI 0)]) ⟨lk rfl f7,rfl,rfl,rfl,trivial⟩
   refine Ze hE Za ld rfl fun a hE=>Zk ?_
   have ht25:=Option.some.inj hl18
   subst ht25
   refine Zn ?_
   have hM:=M.fst (l:=[_,_]) ((hM.pull (pre:=[_,_,_])).pull (pre:=[_,_,_,_]))
   exact ⟨hE.sub ⟨rfl,rfl,rfl,trivial⟩,hM⟩
 ·skip
  rintro a w ⟨hE,hM⟩
  have hr:=Option.some.inj hF19
  subst hr
  have hq26 : ZY Try.prog _ _ (.cell 2 61) _:=ZM hE rfl Z8 rfl (hM.rawAt (pre:=[_])) (Zl (cl1 (n:=1) (m:=289) rfl (cl1 (n:=256) (m:=33) (Flat.len _) (cl1 (n:=16) (m:=17) (Flat.len _) (cl1 (n:=16) (m:=1) (Flat.len _) (cl1 (n:=1) (m:=0) rfl cl0)))))) rfl
  have hq27 : ZY Try.prog _ _ (.cell 3 62) _:=ZM hE rfl Zw rfl (hM.rawAt (pre:=[])) (Flat.len _) rfl
  have hM:=M.fst (l:=[]) hM
  exact wp_ret (QH hE rfl hq26 hq27 (Zx hE rfl) ⟨_,rfl,rfl,hM.kept⟩)
def WU (p0 : GCipher) (p1 : Int) : Option (Int) :=
 (Wm p0).bind fun r3=>if (!r3) = true then (some 1) else ((Xn p1 0 65535).bind fun r6=>if (!r6) = true then (some 2) else (some 0))
theorem QV (w0 : World) (p0 : GCipher) (p1 : Int) (r : Int) (hF : WU p0 p1 = some r) :
  Calls Try.prog 96 [(Value.agg (enc p0).toArray),vI p1].toArray w0 (fun en w'=>∃ v,en = .returned v ∧ (v = (vI r) ∧ Kept (Old w0) w0 w')):=by
 refine ZJ (n:=13) Try.func96 rfl rfl (nbl rfl) rfl ?_
 intro a hE
 have hM:=M.start w0
 unfold WU at hF
 refine Zd (Z3 (cs:=cat [[vI p0.Field],enc p0.Box,enc p0.Mix,enc p0.Places,[vI p0.Rounds]]) hE hM Za ld rfl rfl fun b1 w a hM hE=>Ze hE Za ld rfl fun a hE=>Zf (wp_seq (wp_block (Zd (Zj (cs:=enc p0) hE Za ld rfl Z8 rfl (hM.rawAt (pre:=[])) (Zl (cl1 (n:=1) (m:=289) rfl (cl1 (n:=256) (m:=33) (Flat.len _) (cl1 (n:=16) (m:=17) (Flat.len _) (cl1 (n:=16) (m:=1) (Flat.len _) (cl1 (n:=1) (m:=0) rfl cl0)))))) ?_))))); intro a hE
 obtain ⟨r3,e4,hF⟩:=bind_some hF
 refine Zo hE Za ld rfl cb86 (TC _ p0 r3 e4) ?_
 rintro v w a ⟨rfl,hK⟩ hE
 have hM:=hM.keep hK
 refine UT hE Za ld rfl fun a hE=>Ze hE Za ld rfl fun a hE=>Zf ?_
 refine Zv hE rfl ?_ ?_
 ·intro hb5
  have hF:=ZB hF hb5
  refine Zd (Ze hE Za ld rfl fun a hE=>Zf ?_)
  have hr:=Option.some.inj hF
  subst hr
  have hM:=M.fst (l:=[]) hM
  exact wp_ret (Y4 (ZP (ZK hE rfl (Zx hE rfl) ⟨_,rfl,rfl,hM.kept⟩)))
 ·intro hb5
  have hF:=ZA hF hb5
  refine Zd (Zc hE Za ld rfl ?_); intro a hE
  obtain ⟨r6,e7,hF⟩:=bind_some hF
  refine Zo hE Za ld rfl cb56 (Uj _ p1 0 65535 r6 e7) ?_
  rintro v w a ⟨rfl,hK⟩ hE
  have hM:=hM.keep hK
  refine UT hE Za ld rfl fun a hE=>Ze hE Za ld rfl fun a hE=>Zf ?_
  refine Zv hE rfl ?_ ?_
  ·intro hb8
   have hF:=ZB hF hb8
   refine Zd (Ze hE Za ld rfl fun a hE=>Zf ?_)
   have hr:=Option.some.inj hF
   subst hr
   have hM:=M.fst (l:=[]) hM
   exact wp_ret (Y4 (ZP (ZK hE rfl (Zx hE rfl) ⟨_,rfl,rfl,hM.kept⟩)))
  ·intro hb8
   have hF:=ZA hF hb8
   refine wp_skip (Yj (ZG (Zd (Ze hE Za ld rfl fun a hE=>Zf ?_))))
   have hr:=Option.some.inj hF
   subst hr
   have hM:=M.fst (l:=[]) hM
   exact wp_ret (ZK hE rfl (Zx hE rfl) ⟨_,rfl,rfl,hM.kept⟩)
def W2 (p0 : GCipher) (p1 : (Vector UInt8 16)) : Option (Gkeyed) :=
 (XR p0).bind fun r7=>(Y6 r7 p1 p0.Rounds).bind fun r10=>some (⟨r7,r10⟩ : Gkeyed)
theorem QR (w0 : World) (p0 : GCipher) (p1 : (Vector UInt8 16)) (r : Gkeyed) (hF : W2 p0 p1 = some r) :
  Calls Try.prog 97 [(Value.agg (enc p0).toArray),(Value.agg (enc p1).toArray)].toArray w0 (fun en w'=>∃ v,en = .returned v ∧ (∃ (y1 : Value) (y2 : Value),v = (Value.agg (cat [[y1],[y2]]).toArray) ∧ Fr w0 w' [own NoB (r.engine : (Ref Gengine)) [y1],osl NoB (r.keys : List (Vector UInt8 16)) y2] ∧ Kept (Old w0) w0 w')):=by
 refine ZJ (n:=15) Try.func97 rfl rfl (nbl rfl) rfl ?_
 intro a hE
 have hM:=M.start w0
 unfold W2 at hF
 refine Zd (Z3 (cs:=cat [[vI p0.Field],enc p0.Box,enc p0.Mix,enc p0.Places,[vI p0.Rounds]]) hE hM Za ld rfl rfl fun b1 w a hM hE=>Z3 (cs:=enc p1) hE hM Za ld rfl rfl fun b3 w a hM hE=>Zu hE hM Za ld KN fun b5 w a hM hE=>Zf (Zd (Zj (cs:=enc p0) hE Za ld rfl Z8 rfl (hM.rawAt (pre:=[_,_])) (Zl (cl1 (n:=1) (m:=289) rfl (cl1 (n:=256) (m:=33) (Flat.len _) (cl1 (n:=16) (m:=17) (Flat.len _) (cl1 (n:=16) (m:=1) (Flat.len _) (cl1 (n:=1) (m:=0) rfl cl0)))))) ?_))); intro a hE
 obtain ⟨r7,e8,hF⟩:=bind_some hF
 refine Zo hE Za ld rfl cb87 (Ti _ p0 r7 e8) ?_
 rintro u9 w a ⟨_,rfl,hFr,hK⟩ hE
 have hM:=hM.add hK hFr
 refine Ze hE Za ld rfl fun a hE=>Zf (Zd (Zc hE Za ld rfl fun a hE=>Zc hE Za ld rfl fun a hE=>Zj (cs:=enc p1) hE Za ld rfl Zw rfl (hM.rawAt (pre:=[_,_])) (Flat.len _) fun a hE=>Zr hE Za ld rfl (UL) fun a hE=>ZF (v:=(vI p0.Rounds)) hE Za ld rfl ty2 rfl (At.cat (pre:=[[vI p0.Field],enc p0.Box,enc p0.Mix,enc p0.Places]) (hM.rawAt (pre:=[_,_,_])) (cl1 (n:=1) (m:=288) rfl (cl1 (n:=256) (m:=32) (Flat.len _) (cl1 (n:=16) (m:=16) (Flat.len _) (cl1 (n:=16) (m:=0) (Flat.len _) cl0))))) ?_)); intro a hE
 obtain ⟨r10,e11,hF⟩:=bind_some hF
 refine Zo hE Za ld rfl cb94 (UO _ r7 u9 (hM.ro (pre:=[]) noB) p1 p0.Rounds r10 e11) ?_
 rintro u12 w a ⟨_,rfl,hFr,hK⟩ hE
 have hM:=hM.add hK hFr
 refine Te (parts:=[(0,.tmp 8),(1,.tmp 13)]) (vs:=[(0,u9),(1,u12)]) (cs:=cat [[u9],[u12]]) hE Za ld rfl rfl KN pl141 (Xd (pre:=[]) (seg:=[(Value.pointer none)]) (seg':=[u9]) (post:=[[(Value.slice none 0 0)]]) rfl cl0 rfl rfl (J7 (hM.ro (pre:=[_]) noB)) (Xd (pre:=[[u9]]) (seg:=[(Value.slice none 0 0)]) (seg':=[u12]) (post:=[]) rfl (cl1 (n:=1) (m:=0) rfl cl0) rfl rfl (AD (hM.sl (pre:=[]) noB)) Qj)) ?_; intro a hE
 have hM:=hM.pull (pre:=[_,_])
 refine Zi (seg:=cat [[u9],[u12]]) (cs':=cat [[u9],[u12]]) hE hM Za rfl rfl rfl KN (Zl (cl1 (n:=1) (m:=1) rfl (cl1 (n:=1) (m:=0) rfl cl0))) (Nat.le_of_eq ((Nat.zero_add _).trans (Eq.trans (Zl (cl1 (n:=1) (m:=1) rfl (cl1 (n:=1) (m:=0) rfl cl0))) (Eq.symm (Zl (cl1 (n:=1) (m:=1) rfl (cl1 (n:=1) (m:=0) rfl cl0))))))) (Yq (cc1 (Rep.cell (hM.ro (pre:=[_,_]) noB)) (cc1 (Rep.cell (hM.sl (pre:=[_]) noB)) cc0))) (Zg (Eq.trans (Zl (cl1 (n:=1) (m:=1) rfl (cl1 (n:=1) (m:=0) rfl cl0))) (Eq.symm (Zl (cl1 (n:=1) (m:=1) rfl (cl1 (n:=1) (m:=0) rfl cl0)))))) fun w a hM hE=>Zf ?_
 have hr:=Option.some.inj hF
 subst hr
 have hq13 : ZY Try.prog _ _ (.cell 4 141) _:=ZM hE rfl KN rfl (hM.rawAt (pre:=[])) (Zl (cl1 (n:=1) (m:=1) rfl (cl1 (n:=1) (m:=0) rfl cl0))) rfl
 have hM:=M.fst (l:=[_,_]) ((hM.pull (pre:=[_])).pull (pre:=[_,_]))
 exact wp_ret (ZK hE rfl hq13 ⟨_,rfl,u9,u12,rfl,hM.outF (y8 (Hb KR)),hM.kept⟩)
def XE (p0 : Gkeyed) (p1 : (Vector UInt8 16)) : Option ((Vector UInt8 16)) :=
 (Yx p0.engine p0.keys p1).bind fun r7=>some r7
theorem Q3 (w0 : World) (p0 : Gkeyed) (v0_1 : Value) (hv0_1 : Ro w0 p0.engine [v0_1]) (v0_2 : Value) (hv0_2 : Ro w0 p0.keys [v0_2]) (p1 : (Vector UInt8 16)) (r : (Vector UInt8 16)) (hF : XE p0 p1 = some r) :
  Calls Try.prog 164 [(Value.agg (cat [[v0_1],[v0_2]]).toArray),(Value.agg (enc p1).toArray)].toArray w0 (fun en w'=>∃ v,en = .returned v ∧ (v = (Value.agg (enc r).toArray) ∧ Kept (Old w0) w0 w')):=by
 refine ZJ (n:=11) Try.func164 rfl rfl (nbl rfl) rfl ?_
 intro a hE
 have hM:=M.start w0
 unfold XE at hF
 refine Zd (Z3 (cs:=cat [[v0_1],[v0_2]]) hE hM Za ld rfl rfl fun b1 w a hM hE=>Z3 (cs:=enc p1) hE hM Za ld rfl rfl fun b3 w a hM hE=>Zu hE hM Za ld Zw fun b5 w a hM hE=>Zf (Zd (Zr hE Za ld rfl (ka) fun a hE=>ZF (v:=v0_1) hE Za ld rfl ty129 rfl (At.cat (pre:=[]) (hM.rawAt (pre:=[_,_])) cl0) fun a hE=>Zr hE Za ld rfl (kk) fun a hE=>ZF (v:=v0_2) hE Za ld rfl ty136 rfl (At.cat (pre:=[[v0_1]]) (hM.rawAt (pre:=[_,_])) (cl1 (n:=1) (m:=0) rfl cl0)) fun a hE=>Zj (cs:=enc p1) hE Za ld rfl Zw rfl (hM.rawAt (pre:=[_])) (Flat.len _) ?_))); intro a hE
 obtain ⟨r7,e8,hF⟩:=bind_some hF
 refine Zo hE Za ld rfl cb149 (Ua _ p0.engine v0_1 (hM.rdo hv0_1) p0.keys v0_2 (hM.rdo hv0_2) p1 r7 e8) ?_
 rintro v w a ⟨rfl,hK⟩ hE
 have hM:=hM.keep hK
 refine Zi (seg:=enc r7) (cs':=enc r7) hE hM Za rfl rfl rfl Zw (Flat.len _) (zle flq) (Flat.cell _) (Zg flq) fun w a hM hE=>Zf ?_
 have hr:=Option.some.inj hF
 subst hr
 have hq9 : ZY Try.prog _ _ (.cell 4 62) _:=ZM hE rfl Zw rfl (hM.rawAt (pre:=[])) (Flat.len _) rfl
 have hM:=M.fst (l:=[]) hM
 exact wp_ret (ZK hE rfl hq9 ⟨_,rfl,rfl,hM.kept⟩)
def XP (p0 : Gkeyed) (p1 : Int) : Option (Int) :=
 (XE p0 (((Vector.replicate 16 (0 : UInt8)).setIfInBounds 0 (ZE p1)).setIfInBounds 1 (ZE (Tc p1 8)))).bind fun r3=>(ZI r3 (0 : Int)).bind fun x8=>(ZI r3 (1 : Int)).bind fun x11=>some (wr ((bI x8) + (wr (256 * (bI x11)))))
theorem T8 (w0 : World) (p0 : Gkeyed) (v0_1 : Value) (hv0_1 : Ro w0 p0.engine [v0_1]) (v0_2 : Value) (hv0_2 : Ro w0 p0.keys [v0_2]) (p1 : Int) (r : Int) (hF : XP p0 p1 = some r) :
  Calls Try.prog 98 [(Value.agg (cat [[v0_1],[v0_2]]).toArray),vI p1].toArray w0 (fun en w'=>∃ v,en = .returned v ∧ (v = (vI r) ∧ Kept (Old w0) w0 w')):=by
 refine ZJ (n:=22) Try.func98 rfl rfl (nbl rfl) rfl ?_
 intro a hE
 have hM:=M.start w0
 unfold XP at hF
 refine Zd (Z3 (cs:=cat [[v0_1],[v0_2]]) hE hM Za ld rfl rfl fun b1 w a hM hE=>Ze hE Za ld rfl fun a hE=>Zf (Zd (Zj (cs:=cat [[v0_1],[v0_2]]) hE Za ld rfl KN rfl (hM.rawAt (pre:=[])) (Zl (cl1 (n:=1) (m:=1) rfl (cl1 (n:=1) (m:=0) rfl cl0))) fun a hE=>Zc hE Za ld rfl fun a hE=>Yg hE Za ld rfl Try.underlying2 Try.underlying5 ?_))); intro a hE
 rw [Z6] at hE
 refine Zc hE Za ld rfl fun a hE=>Bf hE Za ld rfl rfl (zw _ _ (by decide)) fun a hE=>Yg hE Za ld rfl Try.underlying2 Try.underlying5 ?_; intro a hE
 rw [Z6] at hE
 refine Z7 (parts:=[(0,.tmp 8),(1,.tmp 11)]) (vs:=[(0,(vB (ZE p1))),(1,(vB (ZE (Tc p1 8))))]) (cs:=enc (((Vector.replicate 16 (0 : UInt8)).setIfInBounds 0 (ZE p1)).setIfInBounds 1 (ZE (Tc p1 8)))) hE Za ld rfl rfl Zw rfl ty5 (Ye (v:=(Vector.replicate 16 (0 : UInt8))) (x:=ZE p1) rfl (by decide) rfl (Ye (v:=((Vector.replicate 16 (0 : UInt8)).setIfInBounds 0 (ZE p1))) (x:=ZE (Tc p1 8)) rfl (by decide) rfl ZZ)) ?_; intro a hE
 obtain ⟨r3,e4,hF⟩:=bind_some hF
 refine Zo hE Za ld rfl cb164 (Q3 _ p0 v0_1 (hM.rdo hv0_1) v0_2 (hM.rdo hv0_2) (((Vector.replicate 16 (0 : UInt8)).setIfInBounds 0 (ZE p1)).setIfInBounds 1 (ZE (Tc p1 8))) r3 e4) ?_
 rintro v w a ⟨rfl,hK⟩ hE
 have hM:=hM.keep hK
 refine Zu hE hM Za ld Zw fun b5 w a hM hE=>Zi (seg:=enc r3) (cs':=enc r3) hE hM Za rfl rfl rfl Zw (Flat.len _) (zle flq) (Flat.cell _) (Zg flq) fun w a hM hE=>Zf (Zd ?_)
 obtain ⟨x8,hi7,hF⟩:=bvx hF
 refine Zh hE Za ld rfl rfl Try.underlying62 ty5 hi7.1 fun a hE=>ZF (v:=(vB x8)) hE Za ld rfl ty5 rfl (At.vec (hM.rawAt (pre:=[])) hi7.2) fun a hE=>Yg hE Za ld rfl Try.underlying5 Try.underlying2 ?_; intro a hE
 rw [Uy] at hE
 obtain ⟨x11,hi10,hF⟩:=bvx hF
 refine Zh hE Za ld rfl rfl Try.underlying62 ty5 hi10.1 fun a hE=>ZF (v:=(vB x11)) hE Za ld rfl ty5 rfl (At.vec (hM.rawAt (pre:=[])) hi10.2) fun a hE=>Yg hE Za ld rfl Try.underlying5 Try.underlying2 ?_; intro a hE
 rw [Uy] at hE
 refine Zm hE Za ld rfl rfl rfl fun a hE=>Zm hE Za ld rfl rfl rfl fun a hE=>Ze hE Za ld rfl fun a hE=>Zf ?_
 have hr:=Option.some.inj hF
 subst hr
 have hM:=M.fst (l:=[]) hM
 exact wp_ret (ZK hE rfl (Zx hE rfl) ⟨_,rfl,rfl,hM.kept⟩)
def Xx (p0 : GCipher) (p1 : (Vector UInt8 16)) (p2 : Int) : Option (Int × Int) :=
 (WU p0 p2).bind fun r5=>if (r5 != 0) = true then (some (0,r5)) else ((W2 p0 p1).bind fun r8=>(XP r8 p2).bind fun r12=>some (r12,0))
theorem TD (w0 : World) (p0 : GCipher) (p1 : (Vector UInt8 16)) (p2 : Int) (r : Int × Int) (hF : Xx p0 p1 p2 = some r) :
  Calls Try.prog 34 [(Value.agg (enc p0).toArray),(Value.agg (enc p1).toArray),vI p2].toArray w0 (fun en w'=>∃ v,en = .returned v ∧ (v = (Value.tuple [vI r.1,vI r.2].toArray) ∧ Kept (Old w0) w0 w')):=by
 refine ZJ (n:=20) Try.func34 rfl rfl (nbl rfl) rfl ?_
 intro a hE
 have hM:=M.start w0
 unfold Xx at hF
 refine Zd (Z3 (cs:=cat [[vI p0.Field],enc p0.Box,enc p0.Mix,enc p0.Places,[vI p0.Rounds]]) hE hM Za ld rfl rfl fun b1 w a hM hE=>Z3 (cs:=enc p1) hE hM Za ld rfl rfl fun b3 w a hM hE=>Ze hE Za ld rfl fun a hE=>Ze hE Za ld rfl fun a hE=>Zf (wp_seq (Zd (Zj (cs:=enc p0) hE Za ld rfl Z8 rfl (hM.rawAt (pre:=[_])) (Zl (cl1 (n:=1) (m:=289) rfl (cl1 (n:=256) (m:=33) (Flat.len _) (cl1 (n:=16) (m:=17) (Flat.len _) (cl1 (n:=16) (m:=1) (Flat.len _) (cl1 (n:=1) (m:=0) rfl cl0)))))) fun a hE=>Zc hE Za ld rfl ?_)))); intro a hE
 obtain ⟨r5,e6,hF⟩:=bind_some hF
 refine Zo hE Za ld rfl cb96 (QV _ p0 p2 r5 e6) ?_
 rintro v w a ⟨rfl,hK⟩ hE
 have hM:=hM.keep hK
 refine Ze hE Za ld rfl fun a hE=>Zf (Zd (Zc hE Za ld rfl fun a hE=>Zm hE Za ld rfl rfl rfl fun a hE=>Zf ?_))
 refine Zv hE rfl ?_ ?_
 ·intro hb7
  have hF:=ZB hF hb7
  refine Zd (Zc hE Za ld rfl fun a hE=>Ze hE Za ld rfl fun a hE=>Ze hE Za ld rfl fun a hE=>Zf ?_)
  have hr:=Option.some.inj hF
  subst hr
  have hM:=M.fst (l:=[]) hM
  exact wp_ret (ZP (VH hE rfl (Zx hE rfl) (Zx hE rfl) ⟨_,rfl,rfl,hM.kept⟩))
 ·intro hb7
  have hF:=ZA hF hb7
  refine wp_skip (ZG (Zd (Zj (cs:=enc p0) hE Za ld rfl Z8 rfl (hM.rawAt (pre:=[_])) (Zl (cl1 (n:=1) (m:=289) rfl (cl1 (n:=256) (m:=33) (Flat.len _) (cl1 (n:=16) (m:=17) (Flat.len _) (cl1 (n:=16) (m:=1) (Flat.len _) (cl1 (n:=1) (m:=0) rfl cl0)))))) fun a hE=>Zj (cs:=enc p1) hE Za ld rfl Zw rfl (hM.rawAt (pre:=[])) (Flat.len _) ?_))); intro a hE
  obtain ⟨r8,e9,hF⟩:=bind_some hF
  refine Zo hE Za ld rfl cb97 (QR _ p0 p1 r8 e9) ?_
  rintro v w a ⟨u10,u11,rfl,hFr,hK⟩ hE
  have hM:=hM.add hK hFr
  refine Zc hE Za ld rfl ?_; intro a hE
  obtain ⟨r12,e13,hF⟩:=bind_some hF
  refine Zo hE Za ld rfl cb98 (T8 _ r8 u10 (hM.ro (pre:=[]) noB) u11 (hM.sl (pre:=[_]) noB) p2 r12 e13) ?_
  rintro v w a ⟨rfl,hK⟩ hE
  have hM:=hM.keep hK
  refine Ze hE Za ld rfl fun a hE=>Ze hE Za ld rfl fun a hE=>Zf ?_
  have hr:=Option.some.inj hF
  subst hr
  have hM:=M.fst (l:=[]) hM
  exact wp_ret (VH hE rfl (Zx hE rfl) (Zx hE rfl) ⟨_,rfl,rfl,hM.kept⟩)
def Vx (p0 : GCipher) (p1 : Int) : Option (Int) :=
 (VC p0).bind fun r3=>if (!r3) = true then (some 1) else ((Wq p1 0 65535).bind fun r6=>if (!r6) = true then (some 2) else (some 0))
theorem Kj (w0 : World) (p0 : GCipher) (p1 : Int) (r : Int) (hF : Vx p0 p1 = some r) :
  Calls Try.prog 99 [(Value.agg (enc p0).toArray),vI p1].toArray w0 (fun en w'=>∃ v,en = .returned v ∧ (v = (vI r) ∧ Kept (Old w0) w0 w')):=by
 refine ZJ (n:=13) Try.func99 rfl rfl (nbl rfl) rfl ?_
 intro a hE
 have hM:=M.start w0
 unfold Vx at hF
 refine Zd (Z3 (cs:=cat [[vI p0.Field],enc p0.Box,enc p0.Mix,enc p0.Places,[vI p0.Rounds]]) hE hM Za ld rfl rfl fun b1 w a hM hE=>Ze hE Za ld rfl fun a hE=>Zf (wp_seq (wp_block (Zd (Zj (cs:=enc p0) hE Za ld rfl Z8 rfl (hM.rawAt (pre:=[])) (Zl (cl1 (n:=1) (m:=289) rfl (cl1 (n:=256) (m:=33) (Flat.len _) (cl1 (n:=16) (m:=17) (Flat.len _) (cl1 (n:=16) (m:=1) (Flat.len _) (cl1 (n:=1) (m:=0) rfl cl0)))))) ?_))))); intro a hE
 obtain ⟨r3,e4,hF⟩:=bind_some hF
 refine Zo hE Za ld rfl cb90 (QN _ p0 r3 e4) ?_
 rintro v w a ⟨rfl,hK⟩ hE
 have hM:=hM.keep hK
 refine UT hE Za ld rfl fun a hE=>Ze hE Za ld rfl fun a hE=>Zf ?_
 refine Zv hE rfl ?_ ?_
 ·intro hb5
  have hF:=ZB hF hb5
  refine Zd (Ze hE Za ld rfl fun a hE=>Zf ?_)
  have hr:=Option.some.inj hF
  subst hr
  have hM:=M.fst (l:=[]) hM
  exact wp_ret (Y4 (ZP (ZK hE rfl (Zx hE rfl) ⟨_,rfl,rfl,hM.kept⟩)))
 ·intro hb5
  have hF:=ZA hF hb5
  refine Zd (Zc hE Za ld rfl ?_); intro a hE
  obtain ⟨r6,e7,hF⟩:=bind_some hF
  refine Zo hE Za ld rfl cb91 (UW _ p1 0 65535 r6 e7) ?_
  rintro v w a ⟨rfl,hK⟩ hE
  have hM:=hM.keep hK
  refine UT hE Za ld rfl fun a hE=>Ze hE Za ld rfl fun a hE=>Zf ?_
  refine Zv hE rfl ?_ ?_
  ·intro hb8
   have hF:=ZB hF hb8
   refine Zd (Ze hE Za ld rfl fun a hE=>Zf ?_)
   have hr:=Option.some.inj hF
   subst hr
   have hM:=M.fst (l:=[]) hM
   exact wp_ret (Y4 (ZP (ZK hE rfl (Zx hE rfl) ⟨_,rfl,rfl,hM.kept⟩)))
  ·intro hb8
   have hF:=ZA hF hb8
   refine wp_skip (Yj (ZG (Zd (Ze hE Za ld rfl fun a hE=>Zf ?_))))
   have hr:=Option.some.inj hF
   subst hr
   have hM:=M.fst (l:=[]) hM
   exact wp_ret (ZK hE rfl (Zx hE rfl) ⟨_,rfl,rfl,hM.kept⟩)
def W0 (p0 : GCipher) (p1 : (Vector UInt8 16)) (p2 : Int) : Option (Int) :=
 (Yk p0 p1 (((Vector.replicate 16 (0 : UInt8)).setIfInBounds 0 (ZE (Int.tmod p2 256))).setIfInBounds 1 (ZE (wr (Int.tdiv p2 256)))) p0.Rounds).bind fun r5=>(ZI r5 (0 : Int)).bind fun x10=>(ZI r5 (1 : Int)).bind fun x13=>some (wr ((bI x10) + (wr (256 * (bI x13)))))
theorem QS (w0 : World) (p0 : GCipher) (p1 : (Vector UInt8 16)) (p2 : Int) (r : Int) (hF : W0 p0 p1 p2 = some r) :
  Calls Try.prog 100 [(Value.agg (enc p0).toArray),(Value.agg (enc p1).toArray),vI p2].toArray w0 (fun en w'=>∃ v,en = .returned v ∧ (v = (vI r) ∧ Kept (Old w0) w0 w')):=by
 refine ZJ (n:=28) Try.func100 rfl rfl (nbl rfl) rfl ?_
 intro a hE
 have hM:=M.start w0
 unfold W0 at hF
 refine Zd (Z3 (cs:=cat [[vI p0.Field],enc p0.Box,enc p0.Mix,enc p0.Places,[vI p0.Rounds]]) hE hM Za ld rfl rfl fun b1 w a hM hE=>Z3 (cs:=enc p1) hE hM Za ld rfl rfl fun b3 w a hM hE=>Ze hE Za ld rfl fun a hE=>Zf (Zd (Zj (cs:=enc p0) hE Za ld rfl Z8 rfl (hM.rawAt (pre:=[_])) (Zl (cl1 (n:=1) (m:=289) rfl (cl1 (n:=256) (m:=33) (Flat.len _) (cl1 (n:=16) (m:=17) (Flat.len _) (cl1 (n:=16) (m:=1) (Flat.len _) (cl1 (n:=1) (m:=0) rfl cl0)))))) fun a hE=>Zj (cs:=enc p1) hE Za ld rfl Zw rfl (hM.rawAt (pre:=[])) (Flat.len _) fun a hE=>Zc hE Za ld rfl fun a hE=>Zm hE Za ld rfl rfl (Kc _ _ (by decide)) fun a hE=>Yg hE Za ld rfl Try.underlying2 Try.underlying5 ?_))); intro a hE
 rw [Z6] at hE
 refine Zc hE Za ld rfl fun a hE=>Zm hE Za ld rfl rfl (Qf _ _ (by decide)) fun a hE=>Yg hE Za ld rfl Try.underlying2 Try.underlying5 ?_; intro a hE
 rw [Z6] at hE
 refine Z7 (parts:=[(0,.tmp 12),(1,.tmp 15)]) (vs:=[(0,(vB (ZE (Int.tmod p2 256)))),(1,(vB (ZE (wr (Int.tdiv p2 256)))))]) (cs:=enc (((Vector.replicate 16 (0 : UInt8)).setIfInBounds 0 (ZE (Int.tmod p2 256))).setIfInBounds 1 (ZE (wr (Int.tdiv p2 256))))) hE Za ld rfl rfl Zw rfl ty5 (Ye (v:=(Vector.replicate 16 (0 : UInt8))) (x:=ZE (Int.tmod p2 256)) rfl (by decide) rfl (Ye (v:=((Vector.replicate 16 (0 : UInt8)).setIfInBounds 0 (ZE (Int.tmod p2 256)))) (x:=ZE (wr (Int.tdiv p2 256))) rfl (by decide) rfl ZZ)) fun a hE=>Zr hE Za ld rfl (UL) fun a hE=>ZF (v:=(vI p0.Rounds)) hE Za ld rfl ty2 rfl (At.cat (pre:=[[vI p0.Field],enc p0.Box,enc p0.Mix,enc p0.Places]) (hM.rawAt (pre:=[_])) (cl1 (n:=1) (m:=288) rfl (cl1 (n:=256) (m:=32) (Flat.len _) (cl1 (n:=16) (m:=16) (Flat.len _) (cl1 (n:=16) (m:=0) (Flat.len _) cl0))))) ?_; intro a hE
 obtain ⟨r5,e6,hF⟩:=bind_some hF
 refine Zo hE Za ld rfl cb92 (VJ _ p0 p1 (((Vector.replicate 16 (0 : UInt8)).setIfInBounds 0 (ZE (Int.tmod p2 256))).setIfInBounds 1 (ZE (wr (Int.tdiv p2 256)))) p0.Rounds r5 e6) ?_
 rintro v w a ⟨rfl,hK⟩ hE
 have hM:=hM.keep hK
 refine Zu hE hM Za ld Zw fun b7 w a hM hE=>Zi (seg:=enc r5) (cs':=enc r5) hE hM Za rfl rfl rfl Zw (Flat.len _) (zle flq) (Flat.cell _) (Zg flq) fun w a hM hE=>Zf (Zd ?_)
 obtain ⟨x10,hi9,hF⟩:=bvx hF
 refine Zh hE Za ld rfl rfl Try.underlying62 ty5 hi9.1 fun a hE=>ZF (v:=(vB x10)) hE Za ld rfl ty5 rfl (At.vec (hM.rawAt (pre:=[])) hi9.2) fun a hE=>Yg hE Za ld rfl Try.underlying5 Try.underlying2 ?_; intro a hE
 rw [Uy] at hE
 obtain ⟨x13,hi12,hF⟩:=bvx hF
 refine Zh hE Za ld rfl rfl Try.underlying62 ty5 hi12.1 fun a hE=>ZF (v:=(vB x13)) hE Za ld rfl ty5 rfl (At.vec (hM.rawAt (pre:=[])) hi12.2) fun a hE=>Yg hE Za ld rfl Try.underlying5 Try.underlying2 ?_; intro a hE
 rw [Uy] at hE
 refine Zm hE Za ld rfl rfl rfl fun a hE=>Zm hE Za ld rfl rfl rfl fun a hE=>Ze hE Za ld rfl fun a hE=>Zf ?_
 have hr:=Option.some.inj hF
 subst hr
 have hM:=M.fst (l:=[]) hM
 exact wp_ret (ZK hE rfl (Zx hE rfl) ⟨_,rfl,rfl,hM.kept⟩)
def VT (p0 : GCipher) (p1 : (Vector UInt8 16)) (p2 : Int) : Option (Int × Int) :=
 (Vx p0 p2).bind fun r5=>if (r5 != 0) = true then (some (0,r5)) else ((W0 p0 p1 p2).bind fun r8=>some (r8,0))
theorem Hu (w0 : World) (p0 : GCipher) (p1 : (Vector UInt8 16)) (p2 : Int) (r : Int × Int) (hF : VT p0 p1 p2 = some r) :
  Calls Try.prog 35 [(Value.agg (enc p0).toArray),(Value.agg (enc p1).toArray),vI p2].toArray w0 (fun en w'=>∃ v,en = .returned v ∧ (v = (Value.tuple [vI r.1,vI r.2].toArray) ∧ Kept (Old w0) w0 w')):=by
 refine ZJ (n:=19) Try.func35 rfl rfl (nbl rfl) rfl ?_
 intro a hE
 have hM:=M.start w0
 unfold VT at hF
 refine Zd (Z3 (cs:=cat [[vI p0.Field],enc p0.Box,enc p0.Mix,enc p0.Places,[vI p0.Rounds]]) hE hM Za ld rfl rfl fun b1 w a hM hE=>Z3 (cs:=enc p1) hE hM Za ld rfl rfl fun b3 w a hM hE=>Ze hE Za ld rfl fun a hE=>Ze hE Za ld rfl fun a hE=>Zf (wp_seq (Zd (Zj (cs:=enc p0) hE Za ld rfl Z8 rfl (hM.rawAt (pre:=[_])) (Zl (cl1 (n:=1) (m:=289) rfl (cl1 (n:=256) (m:=33) (Flat.len _) (cl1 (n:=16) (m:=17) (Flat.len _) (cl1 (n:=16) (m:=1) (Flat.len _) (cl1 (n:=1) (m:=0) rfl cl0)))))) fun a hE=>Zc hE Za ld rfl ?_)))); intro a hE
 obtain ⟨r5,e6,hF⟩:=bind_some hF
 refine Zo hE Za ld rfl cb99 (Kj _ p0 p2 r5 e6) ?_
 rintro v w a ⟨rfl,hK⟩ hE
 have hM:=hM.keep hK
 refine Ze hE Za ld rfl fun a hE=>Zf (Zd (Zc hE Za ld rfl fun a hE=>Zm hE Za ld rfl rfl rfl fun a hE=>Zf ?_))
 refine Zv hE rfl ?_ ?_
 ·intro hb7
  have hF:=ZB hF hb7
  refine Zd (Zc hE Za ld rfl fun a hE=>Ze hE Za ld rfl fun a hE=>Ze hE Za ld rfl fun a hE=>Zf ?_)
  have hr:=Option.some.inj hF
  subst hr
  have hM:=M.fst (l:=[]) hM
  exact wp_ret (ZP (VH hE rfl (Zx hE rfl) (Zx hE rfl) ⟨_,rfl,rfl,hM.kept⟩))
 ·intro hb7
  have hF:=ZA hF hb7
  refine wp_skip (ZG (Zd (Zj (cs:=enc p0) hE Za ld rfl Z8 rfl (hM.rawAt (pre:=[_])) (Zl (cl1 (n:=1) (m:=289) rfl (cl1 (n:=256) (m:=33) (Flat.len _) (cl1 (n:=16) (m:=17) (Flat.len _) (cl1 (n:=16) (m:=1) (Flat.len _) (cl1 (n:=1) (m:=0) rfl cl0)))))) fun a hE=>Zj (cs:=enc p1) hE Za ld rfl Zw rfl (hM.rawAt (pre:=[])) (Flat.len _) fun a hE=>Zc hE Za ld rfl ?_))); intro a hE
  obtain ⟨r8,e9,hF⟩:=bind_some hF
  refine Zo hE Za ld rfl cb100 (QS _ p0 p1 p2 r8 e9) ?_
  rintro v w a ⟨rfl,hK⟩ hE
  have hM:=hM.keep hK
  refine Ze hE Za ld rfl fun a hE=>Ze hE Za ld rfl fun a hE=>Zf ?_
  have hr:=Option.some.inj hF
  subst hr
  have hM:=M.fst (l:=[]) hM
  exact wp_ret (VH hE rfl (Zx hE rfl) (Zx hE rfl) ⟨_,rfl,rfl,hM.kept⟩)
def W4 (p0 : (List UInt8)) : Option (GCipher × (Vector UInt8 16) × Int) :=
 (Xp p0).bind fun r5=>(some (r5.1.Field,r5.1.Box,r5.1.Mix,r5.1.Places,r5.1.Rounds,r5.2.1,r5.2.2) : Option (Int × (Vector UInt8 256) × (Vector (Vector UInt8 4) 4) × (Vector UInt8 16) × Int × (Vector UInt8 16) × Int)).bind fun j11=>some ((⟨j11.1,j11.2.1,j11.2.2.1,j11.2.2.2.1,j11.2.2.2.2.1⟩ : GCipher),j11.2.2.2.2.2.1,j11.2.2.2.2.2.2)
theorem JG (w0 : World) (p0 : (List UInt8)) (v0_1 : Value) (hv0_1 : Ro w0 p0 [v0_1]) (r : GCipher × (Vector UInt8 16) × Int) (hF : W4 p0 = some r) :
  Calls Try.prog 36 [v0_1].toArray w0 (fun en w'=>∃ v,en = .returned v ∧ (v = (Value.tuple [(Value.agg (enc r.1).toArray),(Value.agg (enc r.2.1).toArray),vI r.2.2].toArray) ∧ Kept (Old w0) w0 w')):=by
 refine ZJ (n:=17) Try.func36 rfl rfl (nbl rfl) rfl ?_
 intro a hE
 have hM:=M.start w0
 unfold W4 at hF
 refine Zd (Zu hE hM Za ld Z8 fun b1 w a hM hE=>Zu hE hM Za ld Zw fun b3 w a hM hE=>Ze hE Za ld rfl fun a hE=>Zf (Zd (Zc hE Za ld rfl ?_))); intro a hE
 obtain ⟨r5,e6,hF⟩:=bind_some hF
 refine Zo hE Za ld rfl cb33 (TK _ p0 v0_1 (hM.rdo hv0_1) r5 e6) ?_
 rintro v w a ⟨rfl,hK⟩ hE
 have hM:=hM.keep hK
 refine Zc hE Za ld rfl fun a hE=>Zy hE Za ld rfl rfl fun a hE=>Zy hE Za ld rfl rfl fun a hE=>Zy hE Za ld rfl rfl fun a hE=>Zu hE hM Za ld Z8 fun b7 w a hM hE=>Zu hE hM Za ld Zw ?_; intro b9 w a hM hE
 have hM:=hM.pull (pre:=[_])
 refine Zi (seg:=cat [[vI r5.1.Field],enc r5.1.Box,enc r5.1.Mix,enc r5.1.Places,[vI r5.1.Rounds]]) (cs':=cat [[vI r5.1.Field],enc r5.1.Box,enc r5.1.Mix,enc r5.1.Places,[vI r5.1.Rounds]]) hE hM Za rfl rfl rfl Z8 (Zl (cl1 (n:=1) (m:=289) rfl (cl1 (n:=256) (m:=33) (Flat.len _) (cl1 (n:=16) (m:=17) (Flat.len _) (cl1 (n:=16) (m:=1) (Flat.len _) (cl1 (n:=1) (m:=0) rfl cl0)))))) (Nat.le_of_eq ((Nat.zero_add _).trans (Eq.trans (Zl (cl1 (n:=1) (m:=289) rfl (cl1 (n:=256) (m:=33) (Flat.len _) (cl1 (n:=16) (m:=17) (Flat.len _) (cl1 (n:=16) (m:=1) (Flat.len _) (cl1 (n:=1) (m:=0) rfl cl0)))))) (Eq.symm (Zl (cl1 (n:=1) (m:=289) rfl (cl1 (n:=256) (m:=33) (Flat.len _) (cl1 (n:=16) (m:=17) (Flat.len _) (cl1 (n:=16) (m:=1) (Flat.len _) (cl1 (n:=1) (m:=0) rfl cl0)))))))))) (Yq (cc1 (Flat.cell (r5.1.Field : Int)) (cc1 (Flat.cell _) (cc1 (Flat.cell _) (cc1 (Flat.cell _) (cc1 (Flat.cell (r5.1.Rounds : Int)) cc0)))))) (Zg (Eq.trans (Zl (cl1 (n:=1) (m:=289) rfl (cl1 (n:=256) (m:=33) (Flat.len _) (cl1 (n:=16) (m:=17) (Flat.len _) (cl1 (n:=16) (m:=1) (Flat.len _) (cl1 (n:=1) (m:=0) rfl cl0)))))) (Eq.symm (Zl (cl1 (n:=1) (m:=289) rfl (cl1 (n:=256) (m:=33) (Flat.len _) (cl1 (n:=16) (m:=17) (Flat.len _) (cl1 (n:=16) (m:=1) (Flat.len _) (cl1 (n:=1) (m:=0) rfl cl0))))))))) ?_; intro w a hM hE
 have hM:=hM.pull (pre:=[_])
 refine Zi (seg:=enc r5.2.1) (cs':=enc r5.2.1) hE hM Za rfl rfl rfl Zw (Flat.len _) (zle flq) (Flat.cell _) (Zg flq) fun w a hM hE=>Ze hE Za ld rfl fun a hE=>Zf ?_
 obtain ⟨j11,hl12,hF13⟩:=bind_some hF
 refine ZT (fun a w=>Env 17 a [(2,(ptr b1 0)),(3,(ptr b3 0)),(4,vI j11.2.2.2.2.2.2)] ∧ M (Old w0) w0 w [raw b3 (enc j11.2.2.2.2.2.1),raw b1 (cat [[vI j11.1],enc j11.2.1,enc j11.2.2.1,enc j11.2.2.2.1,[vI j11.2.2.2.2.1]])]) ?_ ?_
 ·skip
  have hM:=(hM.pull (pre:=[_,_,_])).pull (pre:=[_,_,_])
  refine Vj (n:=17) (hd:=[_,_,_,_,_]) (tl:=[_]) YS rfl rfl [14,15,16,20,21] (by decide) (fun D u w=>M (Old w0) w0 w ([raw b9 (enc r5.2.1),raw b7 (cat [[vI r5.1.Field],enc r5.1.Box,enc r5.1.Mix,enc r5.1.Places,[vI r5.1.Rounds]])] ++ qL ([mkT 3 (raw b1 (cat [[vI 0],enc (Vector.replicate 256 (0 : UInt8)),enc (Vector.replicate 4 (Vector.replicate 4 (0 : UInt8))),enc (Vector.replicate 16 (0 : UInt8)),[vI 0]])) (raw b1 (cat [[vI r5.1.Field],enc r5.1.Box,enc r5.1.Mix,enc r5.1.Places,[vI r5.1.Rounds]])),mkT 4 (raw b3 (enc (Vector.replicate 16 (0 : UInt8)))) (raw b3 (enc r5.2.1))] : Mk) D u) ∧ GOk ([([],fun us v=>v = (Value.agg (enc r5.1).toArray)),([],fun us v=>v = (Value.agg (enc r5.2.1).toArray)),([],fun us v=>v = (vI r5.2.2)),([],fun us v=>True),([],fun us v=>True)] : Gs) D u) hE (fun u=>⟨M.qT (M.qT (M.q0 hM.drew u)),KH⟩) (ZS (Zb ?_ (Zb ?_ (Zb ?_ (Zb ?_ (Zb ?_ ZL)))))) ?_
  ·intro a w ux14 D hE hI hD hdc hp
   have hM0:=hI.1
   have hM:=hI.1
   have hM:=hM.togA (pre:=[_,_]) (Bool.eq_false_iff.2 fun hx=>Bool.noConfusion (hD.symm.trans (hdc 3 _ _ rfl (List.mem_of_getElem? (i:=0) rfl) rfl hx)))
   have hM:=hM.togA (pre:=[_,_,_]) (Bool.eq_false_iff.2 fun hx=>Bool.noConfusion (hD.symm.trans (hdc 4 _ _ rfl (List.mem_of_getElem? (i:=2) rfl) rfl hx)))
   exact Zj (cs:=enc r5.1) hE Za ld rfl Z8 rfl (hM.rawAt (pre:=[_])) (Zl (cl1 (n:=1) (m:=289) rfl (cl1 (n:=256) (m:=33) (Flat.len _) (cl1 (n:=16) (m:=17) (Flat.len _) (cl1 (n:=16) (m:=1) (Flat.len _) (cl1 (n:=1) (m:=0) rfl cl0)))))) fun a hE=>⟨_,_,rfl,hE,M.qKeep hM0 rfl,hI.2.put hD rfl ZR rfl⟩
  ·intro a w ux14 D hE hI hD hdc hp
   have hM0:=hI.1
   have hM:=hI.1
   have hM:=hM.togA (pre:=[_,_,_]) (Bool.eq_false_iff.2 fun hx=>Bool.noConfusion (hD.symm.trans (hdc 4 _ _ rfl (List.mem_of_getElem? (i:=0) rfl) rfl hx)))
   exact Zj (cs:=enc r5.2.1) hE Za ld rfl Zw rfl (hM.rawAt (pre:=[])) (Flat.len _) fun a hE=>⟨_,_,rfl,hE,M.qKeep hM0 rfl,hI.2.put hD rfl ZR rfl⟩
  ·intro a w ux14 D hE hI hD hdc hp
   have hM0:=hI.1
   exact Zc hE Za ld rfl fun a hE=>⟨_,_,rfl,hE,M.qKeep hM0 rfl,hI.2.put hD rfl ZR rfl⟩
  ·intro a w ux14 D hE hI hD hdc hp
   have d0 : D 0 = true:=hp 0 _ rfl rfl
   have g0:=hI.2 0 d0 _ rfl
   have f0 : ux14 0 = (Value.agg (enc r5.1).toArray):=g0.2
   have hM0:=hI.1
   have hM:=(hI.1.togA (pre:=[_,_]) hD).pull (pre:=[_,_])
   exact Zi (seg:=cat [[vI r5.1.Field],enc r5.1.Box,enc r5.1.Mix,enc r5.1.Places,[vI r5.1.Rounds]]) (cs':=cat [[vI r5.1.Field],enc r5.1.Box,enc r5.1.Mix,enc r5.1.Places,[vI r5.1.Rounds]]) hE hM Za rfl (lk rfl f0) rfl Z8 (Zl (cl1 (n:=1) (m:=289) rfl (cl1 (n:=256) (m:=33) (Flat.len _) (cl1 (n:=16) (m:=17) (Flat.len _) (cl1 (n:=16) (m:=1) (Flat.len _) (cl1 (n:=1) (m:=0) rfl cl0)))))) (Nat.le_of_eq ((Nat.zero_add _).trans (Eq.trans (Zl (cl1 (n:=1) (m:=289) rfl (cl1 (n:=256) (m:=33) (Flat.len _) (cl1 (n:=16) (m:=17) (Flat.len _) (cl1 (n:=16) (m:=1) (Flat.len _) (cl1 (n:=1) (m:=0) rfl cl0)))))) (Eq.symm (Zl (cl1 (n:=1) (m:=289) rfl (cl1 (n:=256) (m:=33) (Flat.len _) (cl1 (n:=16) (m:=17) (Flat.len _) (cl1 (n:=16) (m:=1) (Flat.len _) (cl1 (n:=1) (m:=0) rfl cl0)))))))))) (Yq (cc1 (Flat.cell (r5.1.Field : Int)) (cc1 (Flat.cell _) (cc1 (Flat.cell _) (cc1 (Flat.cell _) (cc1 (Flat.cell (r5.1.Rounds : Int)) cc0)))))) (Zg (Eq.trans (Zl (cl1 (n:=1) (m:=289) rfl (cl1 (n:=256) (m:=33) (Flat.len _) (cl1 (n:=16) (m:=17) (Flat.len _) (cl1 (n:=16) (m:=1) (Flat.len _) (cl1 (n:=1) (m:=0) rfl cl0)))))) (Eq.symm (Zl (cl1 (n:=1) (m:=289) rfl (cl1 (n:=256) (m:=33) (Flat.len _) (cl1 (n:=16) (m:=17) (Flat.len _) (cl1 (n:=16) (m:=1) (Flat.len _) (cl1 (n:=1) (m:=0) rfl cl0))))))))) fun w a hM hE=>⟨undef,_,rfl,Env.dummy hE (by decide),M.qTog (mk1:=[]) (mk2:=[_]) hM rfl,hI.2.put hD rfl ZR trivial⟩
  ·intro a w ux14 D hE hI hD hdc hp
   have d1 : D 1 = true:=hp 0 _ rfl rfl
   have g1:=hI.2 1 d1 _ rfl
   have f1 : ux14 1 = (Value.agg (enc r5.2.1).toArray):=g1.2
   have hM0:=hI.1
   have hM:=(hI.1.togA (pre:=[_,_,_]) hD).pull (pre:=[_,_,_])
   exact Zi (seg:=enc r5.2.1) (cs':=enc r5.2.1) hE hM Za rfl (lk rfl f1) rfl Zw (Flat.len _) (zle flq) (Flat.cell _) (Zg flq) fun w a hM hE=>⟨undef,_,rfl,Env.dummy hE (by decide),M.qTog (mk1:=[_]) (mk2:=[]) hM rfl,hI.2.put hD rfl ZR trivial⟩
  ·intro a w ux14 D hE hI hall
   have hM:=hI.1
   have d0 : D 0 = true:=hall 0 (by decide)
   have d1 : D 1 = true:=hall 1 (by decide)
   have d2 : D 2 = true:=hall 2 (by decide)
   have d3 : D 3 = true:=hall 3 (by decide)
   have d4 : D 4 = true:=hall 4 (by decide)
   have f0 : ux14 0 = (Value.agg (enc r5.1).toArray):=(hI.2 0 d0 _ rfl).2
   have f1 : ux14 1 = (Value.agg (enc r5.2.1).toArray):=(hI.2 1 d1 _ rfl).2
   have f2 : ux14 2 = (vI r5.2.2):=(hI.2 2 d2 _ rfl).2
   have hM:=(hM.togB (pre:=[_,_]) d3).togB (pre:=[_,_,_]) d4
   have hE:=hE.sub (e':=[(16,vI r5.2.2),(2,(ptr b1 0)),(3,(ptr b3 0)),(4,vI 0)]) ⟨lk rfl f2,rfl,rfl,rfl,trivial⟩
   refine Ze hE Za ld rfl fun a hE=>Zk ?_
   have ht15:=Option.some.inj hl12
   subst ht15
   refine Zn ?_
   have hM:=M.fst (l:=[_,_]) ((hM.pull (pre:=[_,_])).pull (pre:=[_,_,_]))
   exact ⟨hE.sub ⟨rfl,rfl,rfl,trivial⟩,hM⟩
 ·skip
  rintro a w ⟨hE,hM⟩
  have hr:=Option.some.inj hF13
  subst hr
  have hq16 : ZY Try.prog _ _ (.cell 2 61) _:=ZM hE rfl Z8 rfl (hM.rawAt (pre:=[_])) (Zl (cl1 (n:=1) (m:=289) rfl (cl1 (n:=256) (m:=33) (Flat.len _) (cl1 (n:=16) (m:=17) (Flat.len _) (cl1 (n:=16) (m:=1) (Flat.len _) (cl1 (n:=1) (m:=0) rfl cl0)))))) rfl
  have hq17 : ZY Try.prog _ _ (.cell 3 62) _:=ZM hE rfl Zw rfl (hM.rawAt (pre:=[])) (Flat.len _) rfl
  have hM:=M.fst (l:=[]) hM
  exact wp_ret (QH hE rfl hq16 hq17 (Zx hE rfl) ⟨_,rfl,rfl,hM.kept⟩)
def WH (r8 : Gkeyed) (s19 : (List (Int × Int)) × Int × Int) : Option (Fl ((List (Int × Int)) × Int × Int) (Int × Int × Int)) :=
 if ((WN s19.1 s19.2.2).isSome) = true then (some (Fl.ex ((WN s19.1 s19.2.2).getD 0,wr (s19.2.1 - ((WN s19.1 s19.2.2).getD 0)),0))) else ((XP r8 s19.2.2).bind fun r25=>some (Fl.nx ((U2 s19.1 s19.2.2 s19.2.1),wr (s19.2.1 + 1),r25)))
def UD (p0 : GCipher) (p1 : (Vector UInt8 16)) (p2 : Int) : Option (Int × Int × Int) :=
 (WU p0 p2).bind fun r5=>if (r5 != 0) = true then (some (0,0,r5)) else ((W2 p0 p1).bind fun r8=>(ZQ (WH r8) (([] : (List (Int × Int))),0,p2)).bind fun r=>some r)
theorem BE (w0 : World) (p0 : GCipher) (p1 : (Vector UInt8 16)) (p2 : Int) (r : Int × Int × Int) (hF : UD p0 p1 p2 = some r) :
  Calls Try.prog 37 [(Value.agg (enc p0).toArray),(Value.agg (enc p1).toArray),vI p2].toArray w0 (fun en w'=>∃ v,en = .returned v ∧ (v = (Value.tuple [vI r.1,vI r.2.1,vI r.2.2].toArray) ∧ Kept (Old w0) w0 w')):=by
 refine ZJ (n:=44) Try.func37 rfl rfl (nbl rfl) rfl ?_
 intro a hE
 have hM:=M.start w0
 unfold UD at hF
 refine Zd (Z3 (cs:=cat [[vI p0.Field],enc p0.Box,enc p0.Mix,enc p0.Places,[vI p0.Rounds]]) hE hM Za ld rfl rfl fun b1 w a hM hE=>Z3 (cs:=enc p1) hE hM Za ld rfl rfl fun b3 w a hM hE=>Ze hE Za ld rfl fun a hE=>Ze hE Za ld rfl fun a hE=>Ze hE Za ld rfl fun a hE=>Zf (wp_seq (Zd (Zj (cs:=enc p0) hE Za ld rfl Z8 rfl (hM.rawAt (pre:=[_])) (Zl (cl1 (n:=1) (m:=289) rfl (cl1 (n:=256) (m:=33) (Flat.len _) (cl1 (n:=16) (m:=17) (Flat.len _) (cl1 (n:=16) (m:=1) (Flat.len _) (cl1 (n:=1) (m:=0) rfl cl0)))))) fun a hE=>Zc hE Za ld rfl ?_)))); intro a hE
 obtain ⟨r5,e6,hF⟩:=bind_some hF
 refine Zo hE Za ld rfl cb96 (QV _ p0 p2 r5 e6) ?_
 rintro v w a ⟨rfl,hK⟩ hE
 have hM:=hM.keep hK
 refine Ze hE Za ld rfl fun a hE=>Zf (Zd (Zc hE Za ld rfl fun a hE=>Zm hE Za ld rfl rfl rfl fun a hE=>Zf ?_))
 refine Zv hE rfl ?_ ?_
 ·intro hb7
  have hF:=ZB hF hb7
  refine Zd (Zc hE Za ld rfl fun a hE=>Ze hE Za ld rfl fun a hE=>Ze hE Za ld rfl fun a hE=>Ze hE Za ld rfl fun a hE=>Zf ?_)
  have hr:=Option.some.inj hF
  subst hr
  have hM:=M.fst (l:=[]) hM
  exact wp_ret (ZP (QH hE rfl (Zx hE rfl) (Zx hE rfl) (Zx hE rfl) ⟨_,rfl,rfl,hM.kept⟩))
 ·intro hb7
  have hF:=ZA hF hb7
  refine wp_skip (ZG (Zd (Zj (cs:=enc p0) hE Za ld rfl Z8 rfl (hM.rawAt (pre:=[_])) (Zl (cl1 (n:=1) (m:=289) rfl (cl1 (n:=256) (m:=33) (Flat.len _) (cl1 (n:=16) (m:=17) (Flat.len _) (cl1 (n:=16) (m:=1) (Flat.len _) (cl1 (n:=1) (m:=0) rfl cl0)))))) fun a hE=>Zj (cs:=enc p1) hE Za ld rfl Zw rfl (hM.rawAt (pre:=[])) (Flat.len _) ?_))); intro a hE
  obtain ⟨r8,e9,hF⟩:=bind_some hF
  refine Zo hE Za ld rfl cb97 (QR _ p0 p1 r8 e9) ?_
  rintro v w a ⟨u10,u11,rfl,hFr,hK⟩ hE
  have hM:=hM.add hK hFr
  refine BO (κ:=Int) (α:=Int) (S:=NoB) (Value.int .i64) zQ hE hM noB Za ld fun b12 w a hM hE=>Zu hE hM Za ld KN fun b14 w a hM hE=>Zi (seg:=cat [[u10],[u11]]) (cs':=cat [[u10],[u11]]) hE hM Za rfl rfl rfl KN (Zl (cl1 (n:=1) (m:=1) rfl (cl1 (n:=1) (m:=0) rfl cl0))) (Nat.le_of_eq ((Nat.zero_add _).trans (Eq.trans (Zl (cl1 (n:=1) (m:=1) rfl (cl1 (n:=1) (m:=0) rfl cl0))) (Eq.symm (Zl (cl1 (n:=1) (m:=1) rfl (cl1 (n:=1) (m:=0) rfl cl0))))))) (Yq (cc1 (Rep.cell (hM.ro (pre:=[_,_]) noB)) (cc1 (Rep.cell (hM.sl (pre:=[_,_,_]) noB)) cc0))) (Zg (Eq.trans (Zl (cl1 (n:=1) (m:=1) rfl (cl1 (n:=1) (m:=0) rfl cl0))) (Eq.symm (Zl (cl1 (n:=1) (m:=1) rfl (cl1 (n:=1) (m:=0) rfl cl0)))))) fun w a hM hE=>Ze hE Za ld rfl fun a hE=>Zf (Zd (Ze hE Za ld rfl fun a hE=>Zf ?_))
  obtain ⟨j16,hl17,hF18⟩:=bind_some hF
  refine Z0 (fun _ _=>False) ?_ (fun _ _ h=>h.elim)
  ·skip
   refine wp_block ?_
   have hM:=M.fst (l:=[_,_,_,_]) ((((hM.pull (pre:=[_,_,_])).pull (pre:=[_,_,_])).pull (pre:=[_,_,_])).pull (pre:=[_,_,_]))
   refine ZV (fun (s19 : (List (Int × Int)) × Int × Int) a w=>Env 44 a [(2,vI s19.2.2),(10,(ptr b14 0)),(11,(Value.map (some b12))),(12,vI s19.2.1)] ∧ M (Old w0) w0 w [raw b14 (cat [[u10],[u11]]),Tj (Value.int .i64) (Jw NoB) (s19.1 : (List (Int × Int))) b12,own NoB (r8.engine : (Ref Gengine)) [u10],osl NoB (r8.keys : List (Vector UInt8 16)) u11]) hl17 ⟨hE.sub ⟨rfl,rfl,rfl,rfl,trivial⟩,hM⟩ ?_
   rintro s19 a w ⟨hE,hM⟩ o22 hs20 hx21
   unfold WH at hs20
   refine wp_seq (wp_block (wp_seq (Zd (Zc hE Za ld rfl fun a hE=>Zc hE Za ld rfl fun a hE=>zy (pre:=[_]) (vv:=vI) (zero:=(0 : Int)) (BT Try.underlying2) hE hM Za ld rfl rfl Try.underlying144 (fun _=>rfl) (jr (by kernel_rfl) _) fun a hE=>Zc hE Za ld rfl fun a hE=>Zy hE Za ld rfl rfl fun a hE=>Zy hE Za ld rfl rfl fun a hE=>Ze hE Za ld rfl fun a hE=>Ze hE Za ld rfl fun a hE=>Zf (Zd (Zc hE Za ld rfl fun a hE=>Zf ?_))))))
   refine Zv hE rfl ?_ ?_
   ·intro hb23
    have hs20:=ZB hs20 hb23
    refine Zd (Zc hE Za ld rfl fun a hE=>Zc hE Za ld rfl fun a hE=>Zc hE Za ld rfl fun a hE=>Zm hE Za ld rfl rfl rfl fun a hE=>Ze hE Za ld rfl fun a hE=>Ze hE Za ld rfl fun a hE=>Ze hE Za ld rfl fun a hE=>Zf ?_)
    have ht24:=hx21 _ (ois hs20)
    subst ht24
    have hr:=Option.some.inj hF18
    subst hr
    have hM:=M.fst (l:=[]) hM
    exact wp_ret (ZP (Y4 (ZP (ZP (Y4 (ZP (QH hE rfl (Zx hE rfl) (Zx hE rfl) (Zx hE rfl) ⟨_,rfl,rfl,hM.kept⟩)))))))
   ·intro hb23
    have hs20:=ZA hs20 hb23
    refine wp_skip (ZG (Zd (Zc hE Za ld rfl fun a hE=>Zc hE Za ld rfl fun a hE=>Zc hE Za ld rfl ?_))); intro a hE
    have hM:=hM.pull (pre:=[_])
    refine Am (vv:=vI) (BT Try.underlying2) hE hM Za rfl rfl rfl Try.underlying144 (fun _=>rfl) fun w a hM hE=>Zf (wp_region_lit (Zj (cs:=cat [[u10],[u11]]) hE Za ld rfl KN rfl (hM.rawAt (pre:=[_])) (Zl (cl1 (n:=1) (m:=1) rfl (cl1 (n:=1) (m:=0) rfl cl0))) fun a hE=>Zc hE Za ld rfl ?_)); intro a hE
    obtain ⟨r25,e26,hs20⟩:=bind_some hs20
    refine Zo hE Za ld rfl cb98 (T8 _ r8 u10 (hM.ro (pre:=[_,_]) noB) u11 (hM.sl (pre:=[_,_,_]) noB) s19.2.2 r25 e26) ?_
    rintro v w a ⟨rfl,hK⟩ hE
    have hM:=hM.keep hK
    refine Ze hE Za ld rfl fun a hE=>Zk (Yj (ZG (wp_region_lit (Zc hE Za ld rfl fun a hE=>Zm hE Za ld rfl rfl rfl fun a hE=>Ze hE Za ld rfl fun a hE=>Zk (Zn ?_)))))
    have hM:=(((hM.pull (pre:=[_,_,_])).pull (pre:=[_,_,_])).pull (pre:=[_,_])).pull (pre:=[_,_,_])
    exact ⟨_,(ois hs20),hE.sub ⟨rfl,rfl,rfl,rfl,trivial⟩,hM⟩
def WG (p0 : GCipher) (p1 : (Vector UInt8 16)) (s17 : (List Int) × Int × Int) : Option (Fl ((List Int) × Int × Int) ((List Int) × Int × Int)) :=
 (idx s17.1 s17.2.2).bind fun x23=>if (x23 == 0) = true then ((idx s17.1 s17.2.2).bind fun x27=>(W0 p0 p1 s17.2.2).bind fun r30=>some (Fl.nx ((s17.1.set (s17.2.2).toNat s17.2.1),wr (s17.2.1 + 1),r30))) else (some (Fl.ex (s17.1,s17.2.1,s17.2.2)))
def UE (p0 : GCipher) (p1 : (Vector UInt8 16)) (p2 : Int) : Option (Int × Int × Int) :=
 (Vx p0 p2).bind fun r5=>if (r5 != 0) = true then (some (0,0,r5)) else ((mkS 8 (0 : Int) 65536).bind fun l8=>(ZQ (WG p0 p1) (l8,1,p2)).bind fun j12=>((idx j12.1 j12.2.2).bind fun x37=>(idx j12.1 j12.2.2).bind fun x40=>some (wr (x37 - 1),wr (j12.2.1 - x40),0) : Option (Int × Int × Int)).bind fun j33=>some (j33.1,j33.2.1,j33.2.2))
theorem BG (w0 : World) (p0 : GCipher) (p1 : (Vector UInt8 16)) (p2 : Int) (r : Int × Int × Int) (hF : UE p0 p1 p2 = some r) :
  Calls Try.prog 38 [(Value.agg (enc p0).toArray),(Value.agg (enc p1).toArray),vI p2].toArray w0 (fun en w'=>∃ v,en = .returned v ∧ (v = (Value.tuple [vI r.1,vI r.2.1,vI r.2.2].toArray) ∧ Kept (Old w0) w0 w')):=by
 refine ZJ (n:=45) Try.func38 rfl rfl (nbl rfl) rfl ?_
 intro a hE
 have hM:=M.start w0
 unfold UE at hF
 refine Zd (Z3 (cs:=cat [[vI p0.Field],enc p0.Box,enc p0.Mix,enc p0.Places,[vI p0.Rounds]]) hE hM Za ld rfl rfl fun b1 w a hM hE=>Z3 (cs:=enc p1) hE hM Za ld rfl rfl fun b3 w a hM hE=>Ze hE Za ld rfl fun a hE=>Ze hE Za ld rfl fun a hE=>Ze hE Za ld rfl fun a hE=>Zf (wp_seq (Zd (Zj (cs:=enc p0) hE Za ld rfl Z8 rfl (hM.rawAt (pre:=[_])) (Zl (cl1 (n:=1) (m:=289) rfl (cl1 (n:=256) (m:=33) (Flat.len _) (cl1 (n:=16) (m:=17) (Flat.len _) (cl1 (n:=16) (m:=1) (Flat.len _) (cl1 (n:=1) (m:=0) rfl cl0)))))) fun a hE=>Zc hE Za ld rfl ?_)))); intro a hE
 obtain ⟨r5,e6,hF⟩:=bind_some hF
 refine Zo hE Za ld rfl cb99 (Kj _ p0 p2 r5 e6) ?_
 rintro v w a ⟨rfl,hK⟩ hE
 have hM:=hM.keep hK
 refine Ze hE Za ld rfl fun a hE=>Zf (Zd (Zc hE Za ld rfl fun a hE=>Zm hE Za ld rfl rfl rfl fun a hE=>Zf ?_))
 refine Zv hE rfl ?_ ?_
 ·intro hb7
  have hF:=ZB hF hb7
  refine Zd (Zc hE Za ld rfl fun a hE=>Ze hE Za ld rfl fun a hE=>Ze hE Za ld rfl fun a hE=>Ze hE Za ld rfl fun a hE=>Zf ?_)
  have hr:=Option.some.inj hF
  subst hr
  have hM:=M.fst (l:=[]) hM
  exact wp_ret (ZP (QH hE rfl (Zx hE rfl) (Zx hE rfl) (Zx hE rfl) ⟨_,rfl,rfl,hM.kept⟩))
 ·intro hb7
  have hF:=ZA hF hb7
  refine wp_skip (ZG (Zd ?_))
  obtain ⟨l8,e9,hF⟩:=bind_some hF
  refine s_make hE hM Za ld rfl rfl Try.underlying138 ty2 rfl (by decide) (fun _=>T7.2 ⟨rfl,rfl⟩) e9 fun u10 w a hM hE=>Ze hE Za ld rfl fun a hE=>Zf (Zd (Ze hE Za ld rfl fun a hE=>Zf ?_))
  obtain ⟨j12,hl13,hF14⟩:=bind_some hF
  refine ZT (fun a w=>∃ (u15 : Value),Env 45 a [(2,vI j12.2.2),(10,u15),(11,vI j12.2.1)] ∧ M (Old w0) w0 w [osl NoB (j12.1 : List Int) u15]) ?_ ?_
  ·skip
   refine wp_block ?_
   have hM:=(hM.pull (pre:=[_,_])).pull (pre:=[_,_])
   refine ZV (fun (s17 : (List Int) × Int × Int) a w=>∃ (u18 : Value),Env 45 a [(2,vI s17.2.2),(3,(ptr b1 0)),(4,(ptr b3 0)),(10,u18),(11,vI s17.2.1)] ∧ M (Old w0) w0 w [raw b3 (enc p1),raw b1 (cat [[vI p0.Field],enc p0.Box,enc p0.Mix,enc p0.Places,[vI p0.Rounds]]),osl NoB (s17.1 : List Int) u18]) hl13 ⟨u10,hE.sub ⟨rfl,rfl,rfl,rfl,rfl,trivial⟩,hM⟩ ?_
   rintro s17 a w ⟨u18,hE,hM⟩ o22 hs20 hx21
   unfold WG at hs20
   refine wp_seq (Zd (Zc hE Za ld rfl fun a hE=>Zc hE Za ld rfl ?_)); intro a hE
   obtain ⟨x23,hi25,hs20⟩:=bix hs20
   refine Yv hE Za ld rfl rfl Try.underlying138 ty2 (hM.sl (pre:=[_,_]) noB) hi25.1 fun a hE=>ZF (v:=(vI x23)) hE Za ld rfl ty2 rfl (X9 (hM.sl (pre:=[_,_]) noB) hi25.2) fun a hE=>Zm hE Za ld rfl rfl rfl fun a hE=>Zf ?_
   refine Zv hE rfl ?_ ?_
   ·intro hb26
    have hs20:=ZB hs20 hb26
    refine wp_skip (ZG (wp_block (Zd (Zc hE Za ld rfl fun a hE=>Zc hE Za ld rfl fun a hE=>Zc hE Za ld rfl ?_)))); intro a hE
    obtain ⟨x27,hi29,hs20⟩:=bix hs20
    refine Yv hE Za ld rfl rfl Try.underlying138 ty2 (hM.sl (pre:=[_,_]) noB) hi29.1 ?_; intro a hE
    have hM:=hM.pull (pre:=[_,_])
    refine jl (i:=(s17.2.2).toNat) (k0:=0) (seg:=[vI s17.2.1]) (xo:=x27) (xn:=s17.2.1) hE hM Za rfl rfl rfl ty2 rfl (Flat.cell (s17.2.1 : Int)) hi29.2 (jS (m:=1) rfl (by decide)) (Zg rfl) fun w a hM hE=>Zf (Zd (Zj (cs:=enc p0) hE Za ld rfl Z8 rfl (hM.rawAt (pre:=[_,_])) (Zl (cl1 (n:=1) (m:=289) rfl (cl1 (n:=256) (m:=33) (Flat.len _) (cl1 (n:=16) (m:=17) (Flat.len _) (cl1 (n:=16) (m:=1) (Flat.len _) (cl1 (n:=1) (m:=0) rfl cl0)))))) fun a hE=>Zj (cs:=enc p1) hE Za ld rfl Zw rfl (hM.rawAt (pre:=[_])) (Flat.len _) fun a hE=>Zc hE Za ld rfl ?_)); intro a hE
    obtain ⟨r30,e31,hs20⟩:=bind_some hs20
    refine Zo hE Za ld rfl cb100 (QS _ p0 p1 s17.2.2 r30 e31) ?_
    rintro v w a ⟨rfl,hK⟩ hE
    have hM:=hM.keep hK
    refine Ze hE Za ld rfl fun a hE=>Zf (wp_region_lit (Zc hE Za ld rfl fun a hE=>Zm hE Za ld rfl rfl rfl fun a hE=>Ze hE Za ld rfl fun a hE=>Zk (Yj (Zn ?_))))
    have hM:=(hM.pull (pre:=[_,_])).pull (pre:=[_,_])
    exact ⟨_,(ois hs20),u18,hE.sub ⟨rfl,rfl,rfl,rfl,rfl,trivial⟩,hM⟩
   ·intro hb26
    have hs20:=ZA hs20 hb26
    refine wp_exit (Zs (Zs (Yz ?_)))
    have ht32:=hx21 _ (ois hs20)
    subst ht32
    refine Zn ?_
    have hM:=M.fst (l:=[_]) (hM.pull (pre:=[_,_]))
    exact ⟨u18,hE.sub ⟨rfl,rfl,rfl,trivial⟩,hM⟩
  ·skip
   rintro a w ⟨u15,hE,hM⟩
   obtain ⟨j33,hl34,hF35⟩:=bind_some hF14
   refine ZT (fun a w=>Env 45 a [(6,vI j33.1),(7,vI j33.2.1),(8,vI j33.2.2)] ∧ M (Old w0) w0 w []) ?_ ?_
   ·skip
    obtain ⟨x37,hi39,hl34⟩:=bix hl34
    obtain ⟨x40,hi42,hl34⟩:=bix hl34
    refine Yw (n:=45) (hd:=[_,_,_,_,_,_,_,_,_,_,_,_,_,_]) (tl:=[]) YS rfl rfl [34,35,36,37,38,39,40,41,42,43,44,6,7,8] (by decide) (fun w=>M (Old w0) w0 w [osl NoB (j12.1 : List Int) u15]) (fun j=>([fun v _=>v = u15,fun v _=>v = (vI j12.2.2),fun v _=>v = (ptr (sb u15) (so u15 + (j12.2.2).toNat * 1)),fun v _=>v = (vI x37),fun v _=>v = (vI (wr (x37 - 1))),fun v _=>v = (vI j12.2.1),fun v _=>v = u15,fun v _=>v = (vI j12.2.2),fun v _=>v = (ptr (sb u15) (so u15 + (j12.2.2).toNat * 1)),fun v _=>v = (vI x40),fun v _=>v = (vI (wr (j12.2.1 - x40))),fun v _=>v = (vI (wr (x37 - 1))),fun v _=>v = (vI (wr (j12.2.1 - x40))),fun v _=>v = (vI 0)] : List (Value → World → Prop)).getD j (fun _ _=>True)) (fun _ _ h hk=>h.keep hk) (gup (Zp (Zp (Zp (Zp (Zp (Zp (Zp (Zp (Zp (Zp (Zp (Zp (Zp (Zp Vq))))))))))))))) hE hM.drew (ZS (Zb ?_ (Zb ?_ (Zb ?_ (Zb ?_ (Zb ?_ (Zb ?_ (Zb ?_ (Zb ?_ (Zb ?_ (Zb ?_ (Zb ?_ (Zb ?_ (Zb ?_ (Zb ?_ ZL))))))))))))))) ?_
    ·exact fun a w ux36 hE hM hp=>Zc hE Za ld rfl fun a hE=>⟨Kept.refl _ _,_,_,rfl,hE,rfl⟩
    ·exact fun a w ux36 hE hM hp=>Zc hE Za ld rfl fun a hE=>⟨Kept.refl _ _,_,_,rfl,hE,rfl⟩
    ·intro a w ux36 hE hM hp
     have f0 : ux36 0 = u15:=hp 0 _ rfl rfl
     have f1 : ux36 1 = (vI j12.2.2):=hp 1 _ rfl rfl
     exact Yv hE Za ld (lk rfl f0) (lk rfl f1) Try.underlying138 ty2 (hM.sl (pre:=[]) noB) hi39.1 fun a hE=>⟨Kept.refl _ _,_,_,rfl,hE,rfl⟩
    ·intro a w ux36 hE hM hp
     have f2 : ux36 2 = (ptr (sb u15) (so u15 + (j12.2.2).toNat * 1)):=hp 0 _ rfl rfl
     exact ZF (v:=(vI x37)) hE Za ld (lk rfl f2) ty2 rfl (X9 (hM.sl (pre:=[]) noB) hi39.2) fun a hE=>⟨Kept.refl _ _,_,_,rfl,hE,rfl⟩
    ·intro a w ux36 hE hM hp
     have f3 : ux36 3 = (vI x37):=hp 0 _ rfl rfl
     exact Zm hE Za ld (lk rfl f3) rfl rfl fun a hE=>⟨Kept.refl _ _,_,_,rfl,hE,rfl⟩
    ·exact fun a w ux36 hE hM hp=>Zc hE Za ld rfl fun a hE=>⟨Kept.refl _ _,_,_,rfl,hE,rfl⟩
    ·exact fun a w ux36 hE hM hp=>Zc hE Za ld rfl fun a hE=>⟨Kept.refl _ _,_,_,rfl,hE,rfl⟩
    ·exact fun a w ux36 hE hM hp=>Zc hE Za ld rfl fun a hE=>⟨Kept.refl _ _,_,_,rfl,hE,rfl⟩
    ·intro a w ux36 hE hM hp
     have f6 : ux36 6 = u15:=hp 0 _ rfl rfl
     have f7 : ux36 7 = (vI j12.2.2):=hp 1 _ rfl rfl
     exact Yv hE Za ld (lk rfl f6) (lk rfl f7) Try.underlying138 ty2 (hM.sl (pre:=[]) noB) hi42.1 fun a hE=>⟨Kept.refl _ _,_,_,rfl,hE,rfl⟩
    ·intro a w ux36 hE hM hp
     have f8 : ux36 8 = (ptr (sb u15) (so u15 + (j12.2.2).toNat * 1)):=hp 0 _ rfl rfl
     exact ZF (v:=(vI x40)) hE Za ld (lk rfl f8) ty2 rfl (X9 (hM.sl (pre:=[]) noB) hi42.2) fun a hE=>⟨Kept.refl _ _,_,_,rfl,hE,rfl⟩
    ·intro a w ux36 hE hM hp
     have f5 : ux36 5 = (vI j12.2.1):=hp 0 _ rfl rfl
     have f9 : ux36 9 = (vI x40):=hp 1 _ rfl rfl
     exact Zm hE Za ld (lk rfl f5) (lk rfl f9) rfl fun a hE=>⟨Kept.refl _ _,_,_,rfl,hE,rfl⟩
    ·intro a w ux36 hE hM hp
     have f4 : ux36 4 = (vI (wr (x37 - 1))):=hp 0 _ rfl rfl
     exact Ze hE Za ld (lk rfl f4) fun a hE=>⟨Kept.refl _ _,_,_,rfl,hE,rfl⟩
    ·intro a w ux36 hE hM hp
     have f10 : ux36 10 = (vI (wr (j12.2.1 - x40))):=hp 0 _ rfl rfl
     exact Ze hE Za ld (lk rfl f10) fun a hE=>⟨Kept.refl _ _,_,_,rfl,hE,rfl⟩
    ·exact fun a w ux36 hE hM hp=>Ze hE Za ld rfl fun a hE=>⟨Kept.refl _ _,_,_,rfl,hE,rfl⟩
    ·intro a w ux36 hE hM hg
     have hE:=hE.sub (e':=[(6,(vI (wr (x37 - 1)))),(7,(vI (wr (j12.2.1 - x40)))),(8,vI 0)]) ⟨lk rfl (hg 11 (by decide)),lk rfl (hg 12 (by decide)),lk rfl (hg 13 (by decide)),trivial⟩
     refine Zk ?_
     have ht43:=Option.some.inj hl34
     subst ht43
     refine Zn ?_
     have hM:=M.fst (l:=[]) hM
     exact ⟨hE.sub ⟨rfl,rfl,rfl,trivial⟩,hM⟩
   ·skip
    rintro a w ⟨hE,hM⟩
    have hr:=Option.some.inj hF35
    subst hr
    exact wp_ret (QH hE rfl (Zx hE rfl) (Zx hE rfl) (Zx hE rfl) ⟨_,rfl,rfl,hM.kept⟩)
def XN (r25 : GCipher × (Vector UInt8 16) × (Vector UInt8 16)) (r33 : (List GMeeting) × Int) (r36 : (List GMeeting) × Int) (s50 : Int) : Option (Fl Int (Fl Unit Bool)) :=
 if (decide (s50 < (r33.1.length : Int))) = true then (((idx r33.1 s50).bind fun x59=>(idx r36.1 s50).bind fun x62=>some (!decide (x59 = x62)) : Option (Bool)).bind fun j55=>if j55 = true then (some (Fl.ex (Fl.ex false))) else ((idx r33.1 s50).bind fun x69=>(idx r33.1 s50).bind fun x72=>(Y9 r25.1 x69.First x72.Second r25.2.1).bind fun r75=>(if (r75.2 != 0) = true then (some true) else (some (!decide (r75.1 = r25.2.2))) : Option (Bool)).bind fun j83=>if j83 = true then (some (Fl.ex (Fl.ex false))) else (some (Fl.nx (wr (s50 + 1)))))) else (some (Fl.ex (Fl.nx ())))
def XW (r109 : GCipher × (Vector UInt8 16) × Int) (r115 : Int × Int × Int) (s139 : Int × Int) : Option (Fl (Int × Int) (Fl Int Bool)) :=
 if (decide (s139.2 < r115.1)) = true then ((Xx r109.1 r109.2.1 s139.1).bind fun r144=>if (r144.2 != 0) = true then (some (Fl.ex (Fl.ex false))) else (some (Fl.nx (r144.1,wr (s139.2 + 1))))) else (some (Fl.ex (Fl.nx s139.1)))
def XH (r109 : GCipher × (Vector UInt8 16) × Int) (r115 : Int × Int × Int) (s138 : Int) (s153 : Int × Int) : Option (Fl (Int × Int) (Fl Int Bool)) :=
 if (decide (s153.2 < r115.2.1)) = true then ((Xx r109.1 r109.2.1 s153.1).bind fun r158=>(if (r158.2 != 0) = true then (some true) else (if (decide ((wr (s153.2 + 1)) < r115.2.1)) = true then (some (r158.1 == s138)) else (some false)) : Option (Bool)).bind fun j160=>if j160 = true then (some (Fl.ex (Fl.ex false))) else (some (Fl.nx (r158.1,wr (s153.2 + 1))))) else (some (Fl.ex (Fl.nx s153.1)))
def V3 (p0 : (List UInt8)) : Option (Bool) :=
 (QE p0).bind fun r1=>if r1 = true then (some true) else ((Y0 p0).bind fun r4=>(Y9 r4.1 r4.2.1 r4.2.2.1 r4.2.2.2).bind fun r10=>(Xa r4.1 r4.2.1 r4.2.2.1 r4.2.2.2).bind fun r14=>(if (r10.2 != r14.2) = true then (some true) else (some (!decide (r10.1 = r14.1))) : Option (Bool)).bind fun j18=>if j18 = true then (some false) else ((XB p0).bind fun r25=>(W9 r25.1 r25.2.1 r25.2.2).bind fun r33=>(Ve r25.1 r25.2.1 r25.2.2).bind fun r36=>(if (r33.2 != r36.2) = true then (some true) else (some ((r33.1.length : Int) != (r36.1.length : Int))) : Option (Bool)).bind fun j39=>if j39 = true then (some false) else ((ZQ (XN r25 r33 r36) 0).bind fun j46=>j46.el (fun s49=>(Xp p0).bind fun r92=>(Xx r92.1 r92.2.1 r92.2.2).bind fun r98=>(VT r92.1 r92.2.1 r92.2.2).bind fun r100=>(if (r98.2 != r100.2) = true then (some true) else (some (r98.1 != r100.1)) : Option (Bool)).bind fun j102=>if j102 = true then (some false) else ((W4 p0).bind fun r109=>(UD r109.1 r109.2.1 r109.2.2).bind fun r115=>(UE r109.1 r109.2.1 r109.2.2).bind fun r117=>(if (r115.2.2 != r117.2.2) = true then (some true) else (if (r115.1 != r117.1) = true then (some true) else (some (r115.2.1 != r117.2.1))) : Option (Bool)).bind fun j119=>if j119 = true then (some false) else (if (r115.2.2 != 0) = true then ((if (r115.1 == 0) = true then (some (r115.2.1 == 0)) else (some false) : Option (Bool)).bind fun j129=>some j129) else ((ZQ (XW r109 r115) (r109.2.2,0)).bind fun j135=>j135.el (fun s138=>(ZQ (XH r109 r115 s138) (s138,0)).bind fun j149=>j149.el (fun s152=>(if (s152 == s138) = true then (some (decide (r115.2.1 > 0))) else (some false) : Option (Bool)).bind fun j171=>some j171) (fun r=>some r)) (fun r=>some r))))) (fun r=>some r))))
theorem Jh (w0 : World) (p0 : (List UInt8)) (v0_1 : Value) (hv0_1 : Ro w0 p0 [v0_1]) (r : Bool) (hF : V3 p0 = some r) :
  Calls Try.prog 4 [v0_1].toArray w0 (fun en w'=>∃ v,en = .returned v ∧ (v = (vT r) ∧ Kept (Old w0) w0 w')):=by
 refine ZJ (n:=265) Try.func4 rfl rfl (nbl rfl) rfl ?_
 intro a hE
 have hM:=M.start w0
 unfold V3 at hF
 refine Zd (Ze hE Za ld rfl fun a hE=>Zf (wp_seq (Zd (Zc hE Za ld rfl ?_)))); intro a hE
 obtain ⟨r1,e2,hF⟩:=bind_some hF
 refine Zo hE Za ld rfl cb6 (zx _ p0 v0_1 (hM.rdo hv0_1) r1 e2) ?_
 rintro v w a ⟨rfl,hK⟩ hE
 have hM:=hM.keep hK
 refine Zf ?_
 refine Zv hE rfl ?_ ?_
 ·intro hb3
  have hF:=ZB hF hb3
  refine Zd (Ze hE Za ld rfl fun a hE=>Zf ?_)
  have hr:=Option.some.inj hF
  subst hr
  exact wp_ret (ZP (ZK hE rfl (Zx hE rfl) ⟨_,rfl,rfl,hM.kept⟩))
 ·intro hb3
  have hF:=ZA hF hb3
  refine wp_skip (ZG (Zd (Zc hE Za ld rfl ?_))); intro a hE
  obtain ⟨r4,e5,hF⟩:=bind_some hF
  refine Zo hE Za ld rfl cb27 (Qg _ p0 v0_1 (hM.rdo hv0_1) r4 e5) ?_
  rintro v w a ⟨rfl,hK⟩ hE
  have hM:=hM.keep hK
  refine Zc hE Za ld rfl fun a hE=>Zy hE Za ld rfl rfl fun a hE=>Zy hE Za ld rfl rfl fun a hE=>Zy hE Za ld rfl rfl fun a hE=>Zy hE Za ld rfl rfl fun a hE=>Zu hE hM Za ld Z8 fun b6 w a hM hE=>Zu hE hM Za ld Zw ?_; intro b8 w a hM hE
  have hM:=hM.pull (pre:=[_])
  refine Zi (seg:=cat [[vI r4.1.Field],enc r4.1.Box,enc r4.1.Mix,enc r4.1.Places,[vI r4.1.Rounds]]) (cs':=cat [[vI r4.1.Field],enc r4.1.Box,enc r4.1.Mix,enc r4.1.Places,[vI r4.1.Rounds]]) hE hM Za rfl rfl rfl Z8 (Zl (cl1 (n:=1) (m:=289) rfl (cl1 (n:=256) (m:=33) (Flat.len _) (cl1 (n:=16) (m:=17) (Flat.len _) (cl1 (n:=16) (m:=1) (Flat.len _) (cl1 (n:=1) (m:=0) rfl cl0)))))) (Nat.le_of_eq ((Nat.zero_add _).trans (Eq.trans (Zl (cl1 (n:=1) (m:=289) rfl (cl1 (n:=256) (m:=33) (Flat.len _) (cl1 (n:=16) (m:=17) (Flat.len _) (cl1 (n:=16) (m:=1) (Flat.len _) (cl1 (n:=1) (m:=0) rfl cl0)))))) (Eq.symm (Zl (cl1 (n:=1) (m:=289) rfl (cl1 (n:=256) (m:=33) (Flat.len _) (cl1 (n:=16) (m:=17) (Flat.len _) (cl1 (n:=16) (m:=1) (Flat.len _) (cl1 (n:=1) (m:=0) rfl cl0)))))))))) (Yq (cc1 (Flat.cell (r4.1.Field : Int)) (cc1 (Flat.cell _) (cc1 (Flat.cell _) (cc1 (Flat.cell _) (cc1 (Flat.cell (r4.1.Rounds : Int)) cc0)))))) (Zg (Eq.trans (Zl (cl1 (n:=1) (m:=289) rfl (cl1 (n:=256) (m:=33) (Flat.len _) (cl1 (n:=16) (m:=17) (Flat.len _) (cl1 (n:=16) (m:=1) (Flat.len _) (cl1 (n:=1) (m:=0) rfl cl0)))))) (Eq.symm (Zl (cl1 (n:=1) (m:=289) rfl (cl1 (n:=256) (m:=33) (Flat.len _) (cl1 (n:=16) (m:=17) (Flat.len _) (cl1 (n:=16) (m:=1) (Flat.len _) (cl1 (n:=1) (m:=0) rfl cl0))))))))) fun w a hM hE=>Ze hE Za ld rfl fun a hE=>Ze hE Za ld rfl ?_; intro a hE
  have hM:=hM.pull (pre:=[_])
  refine Zi (seg:=enc r4.2.2.2) (cs':=enc r4.2.2.2) hE hM Za rfl rfl rfl Zw (Flat.len _) (zle flq) (Flat.cell _) (Zg flq) fun w a hM hE=>Zf (Zd (Zj (cs:=enc r4.1) hE Za ld rfl Z8 rfl (hM.rawAt (pre:=[_])) (Zl (cl1 (n:=1) (m:=289) rfl (cl1 (n:=256) (m:=33) (Flat.len _) (cl1 (n:=16) (m:=17) (Flat.len _) (cl1 (n:=16) (m:=1) (Flat.len _) (cl1 (n:=1) (m:=0) rfl cl0)))))) fun a hE=>Zc hE Za ld rfl fun a hE=>Zc hE Za ld rfl fun a hE=>Zj (cs:=enc r4.2.2.2) hE Za ld rfl Zw rfl (hM.rawAt (pre:=[])) (Flat.len _) ?_)); intro a hE
  obtain ⟨r10,e11,hF⟩:=bind_some hF
  refine Zo hE Za ld rfl cb28 (TB _ r4.1 r4.2.1 r4.2.2.1 r4.2.2.2 r10 e11) ?_
  rintro v w a ⟨rfl,hK⟩ hE
  have hM:=hM.keep hK
  refine Zc hE Za ld rfl fun a hE=>Zy hE Za ld rfl rfl fun a hE=>Zy hE Za ld rfl rfl fun a hE=>Zu hE hM Za ld Zw fun b12 w a hM hE=>Zi (seg:=enc r10.1) (cs':=enc r10.1) hE hM Za rfl rfl rfl Zw (Flat.len _) (zle flq) (Flat.cell _) (Zg flq) fun w a hM hE=>Ze hE Za ld rfl fun a hE=>Zf (wp_seq (Zd (Zj (cs:=enc r4.1) hE Za ld rfl Z8 rfl (hM.rawAt (pre:=[_,_])) (Zl (cl1 (n:=1) (m:=289) rfl (cl1 (n:=256) (m:=33) (Flat.len _) (cl1 (n:=16) (m:=17) (Flat.len _) (cl1 (n:=16) (m:=1) (Flat.len _) (cl1 (n:=1) (m:=0) rfl cl0)))))) fun a hE=>Zc hE Za ld rfl fun a hE=>Zc hE Za ld rfl fun a hE=>Zj (cs:=enc r4.2.2.2) hE Za ld rfl Zw rfl (hM.rawAt (pre:=[_])) (Flat.len _) ?_))); intro a hE
  obtain ⟨r14,e15,hF⟩:=bind_some hF
  refine Zo hE Za ld rfl cb29 (Tw _ r4.1 r4.2.1 r4.2.2.1 r4.2.2.2 r14 e15) ?_
  rintro v w a ⟨rfl,hK⟩ hE
  have hM:=hM.keep hK
  refine Zc hE Za ld rfl fun a hE=>Zy hE Za ld rfl rfl fun a hE=>Zy hE Za ld rfl rfl fun a hE=>Zu hE hM Za ld Zw fun b16 w a hM hE=>Zi (seg:=enc r14.1) (cs':=enc r14.1) hE hM Za rfl rfl rfl Zw (Flat.len _) (zle flq) (Flat.cell _) (Zg flq) fun w a hM hE=>Ze hE Za ld rfl fun a hE=>Zf ?_
  obtain ⟨j18,hl19,hF20⟩:=bind_some hF
  refine ZT (fun a w=>Env 265 a [(0,v0_1),(76,vT j18)] ∧ M (Old w0) w0 w []) ?_ ?_
  ·skip
   refine wp_region_lit (Zc hE Za ld rfl fun a hE=>Zc hE Za ld rfl fun a hE=>Zm hE Za ld rfl rfl rfl fun a hE=>Zc hE Za ld rfl ?_); intro a hE
   refine Xy (r10.2 != r14.2) (fun hb21=>?_) (fun hb21=>?_)
   ·have hl19:=ZB hl19 hb21
    refine Zz hE rfl (lkb rfl hb21) rfl (by decide) fun a hE=>Zz hE rfl (lkb rfl hb21) rfl (by decide) fun a hE=>Zz hE rfl (lkb rfl hb21) rfl (by decide) fun a hE=>Yy hE Za ld (lkb rfl hb21) rfl fun a hE=>Zk ?_
    have ht22:=Option.some.inj hl19
    subst ht22
    refine Zn ?_
    have hM:=M.fst (l:=[]) hM
    exact ⟨hE.sub ⟨rfl,rfl,trivial⟩,hM⟩
   ·have hl19:=ZA hl19 hb21
    refine Zj (cs:=enc r10.1) hE (Zt hE rfl (lkb rfl hb21)) (by decide) rfl Zw rfl (hM.rawAt (pre:=[_])) (Flat.len _) fun a hE=>Zj (cs:=enc r14.1) hE (Zt hE rfl (lkb rfl hb21)) (by decide) rfl Zw rfl (hM.rawAt (pre:=[])) (Flat.len _) fun a hE=>jp hE (Zt hE rfl (lkb rfl hb21)) (by decide) rfl rfl (Q6 Try.underlying62 ty5 rfl false rfl (by decide) (Qn Try.underlying5)) (by decide) (by kernel_rfl) fun a hE=>Yh hE Za ld (lkb rfl hb21) rfl fun a hE=>Zk ?_
    have ht23:=Option.some.inj hl19
    subst ht23
    refine Zn ?_
    have hM:=M.fst (l:=[]) hM
    exact ⟨hE.sub ⟨rfl,rfl,trivial⟩,hM⟩
  ·skip
   rintro a w ⟨hE,hM⟩
   refine Zv hE rfl ?_ ?_
   ·intro hb24
    have hF20:=ZB hF20 hb24
    refine Zd (Ze hE Za ld rfl fun a hE=>Zf ?_)
    have hr:=Option.some.inj hF20
    subst hr
    exact wp_ret (ZP (ZK hE rfl (Zx hE rfl) ⟨_,rfl,rfl,hM.kept⟩))
   ·intro hb24
    have hF20:=ZA hF20 hb24
    refine wp_skip (ZG (Zd (Zc hE Za ld rfl ?_))); intro a hE
    obtain ⟨r25,e26,hF20⟩:=bind_some hF20
    refine Zo hE Za ld rfl cb30 (Q2 _ p0 v0_1 (hM.rdo hv0_1) r25 e26) ?_
    rintro v w a ⟨rfl,hK⟩ hE
    have hM:=hM.keep hK
    refine Zc hE Za ld rfl fun a hE=>Zy hE Za ld rfl rfl fun a hE=>Zy hE Za ld rfl rfl fun a hE=>Zy hE Za ld rfl rfl fun a hE=>Zu hE hM Za ld Z8 fun b27 w a hM hE=>Zu hE hM Za ld Zw fun b29 w a hM hE=>Zu hE hM Za ld Zw ?_; intro b31 w a hM hE
    have hM:=hM.pull (pre:=[_,_])
    refine Zi (seg:=cat [[vI r25.1.Field],enc r25.1.Box,enc r25.1.Mix,enc r25.1.Places,[vI r25.1.Rounds]]) (cs':=cat [[vI r25.1.Field],enc r25.1.Box,enc r25.1.Mix,enc r25.1.Places,[vI r25.1.Rounds]]) hE hM Za rfl rfl rfl Z8 (Zl (cl1 (n:=1) (m:=289) rfl (cl1 (n:=256) (m:=33) (Flat.len _) (cl1 (n:=16) (m:=17) (Flat.len _) (cl1 (n:=16) (m:=1) (Flat.len _) (cl1 (n:=1) (m:=0) rfl cl0)))))) (Nat.le_of_eq ((Nat.zero_add _).trans (Eq.trans (Zl (cl1 (n:=1) (m:=289) rfl (cl1 (n:=256) (m:=33) (Flat.len _) (cl1 (n:=16) (m:=17) (Flat.len _) (cl1 (n:=16) (m:=1) (Flat.len _) (cl1 (n:=1) (m:=0) rfl cl0)))))) (Eq.symm (Zl (cl1 (n:=1) (m:=289) rfl (cl1 (n:=256) (m:=33) (Flat.len _) (cl1 (n:=16) (m:=17) (Flat.len _) (cl1 (n:=16) (m:=1) (Flat.len _) (cl1 (n:=1) (m:=0) rfl cl0)))))))))) (Yq (cc1 (Flat.cell (r25.1.Field : Int)) (cc1 (Flat.cell _) (cc1 (Flat.cell _) (cc1 (Flat.cell _) (cc1 (Flat.cell (r25.1.Rounds : Int)) cc0)))))) (Zg (Eq.trans (Zl (cl1 (n:=1) (m:=289) rfl (cl1 (n:=256) (m:=33) (Flat.len _) (cl1 (n:=16) (m:=17) (Flat.len _) (cl1 (n:=16) (m:=1) (Flat.len _) (cl1 (n:=1) (m:=0) rfl cl0)))))) (Eq.symm (Zl (cl1 (n:=1) (m:=289) rfl (cl1 (n:=256) (m:=33) (Flat.len _) (cl1 (n:=16) (m:=17) (Flat.len _) (cl1 (n:=16) (m:=1) (Flat.len _) (cl1 (n:=1) (m:=0) rfl cl0))))))))) ?_; intro w a hM hE
    have hM:=hM.pull (pre:=[_,_])
    refine Zi (seg:=enc r25.2.1) (cs':=enc r25.2.1) hE hM Za rfl rfl rfl Zw (Flat.len _) (zle flq) (Flat.cell _) (Zg flq) ?_; intro w a hM hE
    have hM:=hM.pull (pre:=[_,_])
    refine Zi (seg:=enc r25.2.2) (cs':=enc r25.2.2) hE hM Za rfl rfl rfl Zw (Flat.len _) (zle flq) (Flat.cell _) (Zg flq) fun w a hM hE=>Zf (Zd (Zj (cs:=enc r25.1) hE Za ld rfl Z8 rfl (hM.rawAt (pre:=[_,_])) (Zl (cl1 (n:=1) (m:=289) rfl (cl1 (n:=256) (m:=33) (Flat.len _) (cl1 (n:=16) (m:=17) (Flat.len _) (cl1 (n:=16) (m:=1) (Flat.len _) (cl1 (n:=1) (m:=0) rfl cl0)))))) fun a hE=>Zj (cs:=enc r25.2.1) hE Za ld rfl Zw rfl (hM.rawAt (pre:=[_])) (Flat.len _) fun a hE=>Zj (cs:=enc r25.2.2) hE Za ld rfl Zw rfl (hM.rawAt (pre:=[])) (Flat.len _) ?_)); intro a hE
    obtain ⟨r33,e34,hF20⟩:=bind_some hF20
    refine Zo hE Za ld rfl cb31 (Jp _ r25.1 r25.2.1 r25.2.2 r33 e34) ?_
    rintro v w a ⟨u35,rfl,hFr,hK⟩ hE
    have hM:=hM.add hK hFr
    refine Zc hE Za ld rfl fun a hE=>Zy hE Za ld rfl rfl fun a hE=>Zy hE Za ld rfl rfl fun a hE=>Ze hE Za ld rfl fun a hE=>Ze hE Za ld rfl fun a hE=>Zf (Zd (Zj (cs:=enc r25.1) hE Za ld rfl Z8 rfl (hM.rawAt (pre:=[_,_,_])) (Zl (cl1 (n:=1) (m:=289) rfl (cl1 (n:=256) (m:=33) (Flat.len _) (cl1 (n:=16) (m:=17) (Flat.len _) (cl1 (n:=16) (m:=1) (Flat.len _) (cl1 (n:=1) (m:=0) rfl cl0)))))) fun a hE=>Zj (cs:=enc r25.2.1) hE Za ld rfl Zw rfl (hM.rawAt (pre:=[_,_])) (Flat.len _) fun a hE=>Zj (cs:=enc r25.2.2) hE Za ld rfl Zw rfl (hM.rawAt (pre:=[_])) (Flat.len _) ?_)); intro a hE
    obtain ⟨r36,e37,hF20⟩:=bind_some hF20
    refine Zo hE Za ld rfl cb32 (Jj _ r25.1 r25.2.1 r25.2.2 r36 e37) ?_
    rintro v w a ⟨u38,rfl,hFr,hK⟩ hE
    have hM:=hM.add hK hFr
    refine Zc hE Za ld rfl fun a hE=>Zy hE Za ld rfl rfl fun a hE=>Zy hE Za ld rfl rfl fun a hE=>Ze hE Za ld rfl fun a hE=>Ze hE Za ld rfl fun a hE=>Zf (wp_seq ?_)
    obtain ⟨j39,hl40,hF41⟩:=bind_some hF20
    refine ZT (fun a w=>Env 265 a [(0,v0_1),(11,(ptr b27 0)),(12,(ptr b29 0)),(13,(ptr b31 0)),(14,u35),(16,u38),(106,vT j39)] ∧ M (Old w0) w0 w [osl NoB (r36.1 : List GMeeting) u38,osl NoB (r33.1 : List GMeeting) u35,raw b31 (enc r25.2.2),raw b29 (enc r25.2.1),raw b27 (cat [[vI r25.1.Field],enc r25.1.Box,enc r25.1.Mix,enc r25.1.Places,[vI r25.1.Rounds]])]) ?_ ?_
    ·skip
     refine wp_region_lit (Zc hE Za ld rfl fun a hE=>Zc hE Za ld rfl fun a hE=>Zm hE Za ld rfl rfl rfl fun a hE=>Zc hE Za ld rfl ?_); intro a hE
     refine Xy (r33.2 != r36.2) (fun hb42=>?_) (fun hb42=>?_)
     ·have hl40:=ZB hl40 hb42
      refine Zz hE rfl (lkb rfl hb42) rfl (by decide) fun a hE=>Zz hE rfl (lkb rfl hb42) rfl (by decide) fun a hE=>Zz hE rfl (lkb rfl hb42) rfl (by decide) fun a hE=>Zz hE rfl (lkb rfl hb42) rfl (by decide) fun a hE=>Zz hE rfl (lkb rfl hb42) rfl (by decide) fun a hE=>Yy hE Za ld (lkb rfl hb42) rfl fun a hE=>Zk ?_
      have ht43:=Option.some.inj hl40
      subst ht43
      refine Zn ?_
      exact ⟨hE.sub ⟨rfl,rfl,rfl,rfl,rfl,rfl,rfl,trivial⟩,hM⟩
     ·have hl40:=ZA hl40 hb42
      refine Zc hE (Zt hE rfl (lkb rfl hb42)) (by decide) rfl fun a hE=>UU hE (Zt hE rfl (lkb rfl hb42)) (by decide) rfl Try.underlying69 (hM.sl (pre:=[_]) noB) fun a hE=>Zc hE (Zt hE rfl (lkb rfl hb42)) (by decide) rfl fun a hE=>UU hE (Zt hE rfl (lkb rfl hb42)) (by decide) rfl Try.underlying69 (hM.sl (pre:=[]) noB) fun a hE=>Zm hE (Zt hE rfl (lkb rfl hb42)) (by decide) rfl rfl rfl fun a hE=>Yh hE Za ld (lkb rfl hb42) rfl fun a hE=>Zk ?_
      have ht44:=Option.some.inj hl40
      subst ht44
      refine Zn ?_
      exact ⟨hE.sub ⟨rfl,rfl,rfl,rfl,rfl,rfl,rfl,trivial⟩,hM⟩
    ·skip
     rintro a w ⟨hE,hM⟩
     refine Zv hE rfl ?_ ?_
     ·intro hb45
      have hF41:=ZB hF41 hb45
      refine Zd (Ze hE Za ld rfl fun a hE=>Zf ?_)
      have hr:=Option.some.inj hF41
      subst hr
      have hM:=M.fst (l:=[]) hM
      exact wp_ret (ZP (ZK hE rfl (Zx hE rfl) ⟨_,rfl,rfl,hM.kept⟩))
     ·intro hb45
      have hF41:=ZA hF41 hb45
      refine wp_skip (ZG (wp_seq (Zd (Ze hE Za ld rfl fun a hE=>Zf ?_))))
      obtain ⟨j46,hl47,hF48⟩:=bind_some hF41
      refine Z0 (fun a w=>∃ s49 : Unit,j46 = Fl.nx s49 ∧ Env 265 a [(0,v0_1)] ∧ M (Old w0) w0 w []) ?_ ?_
      ·skip
       refine wp_block ?_
       refine ZV (fun (s50 : Int) a w=>Env 265 a [(0,v0_1),(11,(ptr b27 0)),(12,(ptr b29 0)),(13,(ptr b31 0)),(14,u35),(16,u38),(18,vI s50)] ∧ M (Old w0) w0 w [osl NoB (r36.1 : List GMeeting) u38,osl NoB (r33.1 : List GMeeting) u35,raw b31 (enc r25.2.2),raw b29 (enc r25.2.1),raw b27 (cat [[vI r25.1.Field],enc r25.1.Box,enc r25.1.Mix,enc r25.1.Places,[vI r25.1.Rounds]])]) hl47 ⟨hE.sub ⟨rfl,rfl,rfl,rfl,rfl,rfl,rfl,trivial⟩,hM⟩ ?_
       rintro s50 a w ⟨hE,hM⟩ o53 hs51 hx52
       unfold XN at hs51
       refine wp_seq (Zd (Zc hE Za ld rfl fun a hE=>Zc hE Za ld rfl fun a hE=>UU hE Za ld rfl Try.underlying69 (hM.sl (pre:=[_]) noB) fun a hE=>Zm hE Za ld rfl rfl rfl fun a hE=>Zf ?_))
       refine Zv hE rfl ?_ ?_
       ·intro hb54
        have hs51:=ZB hs51 hb54
        refine wp_skip (ZG (wp_seq (wp_block (wp_seq ?_))))
        obtain ⟨j55,hl56,hF57⟩:=bind_some hs51
        refine ZT (fun a w=>Env 265 a [(0,v0_1),(11,(ptr b27 0)),(12,(ptr b29 0)),(13,(ptr b31 0)),(14,u35),(16,u38),(18,vI s50),(121,vT j55)] ∧ M (Old w0) w0 w [osl NoB (r36.1 : List GMeeting) u38,osl NoB (r33.1 : List GMeeting) u35,raw b31 (enc r25.2.2),raw b29 (enc r25.2.1),raw b27 (cat [[vI r25.1.Field],enc r25.1.Box,enc r25.1.Mix,enc r25.1.Places,[vI r25.1.Rounds]])]) ?_ ?_
        ·skip
         obtain ⟨x59,hi61,hl56⟩:=bix hl56
         obtain ⟨x62,hi64,hl56⟩:=bix hl56
         refine Yw (n:=265) (hd:=[_,_,_,_,_,_,_,_,_]) (tl:=[]) YS rfl rfl [113,114,115,116,117,118,119,120,121] (by decide) (fun w=>M (Old w0) w0 w [osl NoB (r36.1 : List GMeeting) u38,osl NoB (r33.1 : List GMeeting) u35,raw b31 (enc r25.2.2),raw b29 (enc r25.2.1),raw b27 (cat [[vI r25.1.Field],enc r25.1.Box,enc r25.1.Mix,enc r25.1.Places,[vI r25.1.Rounds]])]) (fun j=>([fun v _=>v = u35,fun v _=>v = (vI s50),fun v _=>v = (ptr (sb u35) (so u35 + (s50).toNat * 2)),fun v _=>v = (Value.agg (enc x59).toArray),fun v _=>v = u38,fun v _=>v = (vI s50),fun v _=>v = (ptr (sb u38) (so u38 + (s50).toNat * 2)),fun v _=>v = (Value.agg (enc x62).toArray),fun v _=>v = (vT (!decide (x59 = x62)))] : List (Value → World → Prop)).getD j (fun _ _=>True)) (fun _ _ h hk=>h.keep hk) (gup (Zp (Zp (Zp (Zp (Zp (Zp (Zp (Zp (Zp Vq)))))))))) hE hM.drew (ZS (Zb ?_ (Zb ?_ (Zb ?_ (Zb ?_ (Zb ?_ (Zb ?_ (Zb ?_ (Zb ?_ (Zb ?_ ZL)))))))))) ?_
         ·exact fun a w ux58 hE hM hp=>Zc hE Za ld rfl fun a hE=>⟨Kept.refl _ _,_,_,rfl,hE,rfl⟩
         ·exact fun a w ux58 hE hM hp=>Zc hE Za ld rfl fun a hE=>⟨Kept.refl _ _,_,_,rfl,hE,rfl⟩
         ·intro a w ux58 hE hM hp
          have f0 : ux58 0 = u35:=hp 0 _ rfl rfl
          have f1 : ux58 1 = (vI s50):=hp 1 _ rfl rfl
          exact Yv hE Za ld (lk rfl f0) (lk rfl f1) Try.underlying69 Kr (hM.sl (pre:=[_]) noB) hi61.1 fun a hE=>⟨Kept.refl _ _,_,_,rfl,hE,rfl⟩
         ·intro a w ux58 hE hM hp
          have f2 : ux58 2 = (ptr (sb u35) (so u35 + (s50).toNat * 2)):=hp 0 _ rfl rfl
          exact Zj (cs:=enc x59) hE Za ld (lk rfl f2) Kr rfl (X9 (hM.sl (pre:=[_]) noB) hi61.2) (Zl (cl1 (n:=1) (m:=1) rfl (cl1 (n:=1) (m:=0) rfl cl0))) fun a hE=>⟨Kept.refl _ _,_,_,rfl,hE,rfl⟩
         ·exact fun a w ux58 hE hM hp=>Zc hE Za ld rfl fun a hE=>⟨Kept.refl _ _,_,_,rfl,hE,rfl⟩
         ·exact fun a w ux58 hE hM hp=>Zc hE Za ld rfl fun a hE=>⟨Kept.refl _ _,_,_,rfl,hE,rfl⟩
         ·intro a w ux58 hE hM hp
          have f4 : ux58 4 = u38:=hp 0 _ rfl rfl
          have f5 : ux58 5 = (vI s50):=hp 1 _ rfl rfl
          exact Yv hE Za ld (lk rfl f4) (lk rfl f5) Try.underlying69 Kr (hM.sl (pre:=[]) noB) hi64.1 fun a hE=>⟨Kept.refl _ _,_,_,rfl,hE,rfl⟩
         ·intro a w ux58 hE hM hp
          have f6 : ux58 6 = (ptr (sb u38) (so u38 + (s50).toNat * 2)):=hp 0 _ rfl rfl
          exact Zj (cs:=enc x62) hE Za ld (lk rfl f6) Kr rfl (X9 (hM.sl (pre:=[]) noB) hi64.2) (Zl (cl1 (n:=1) (m:=1) rfl (cl1 (n:=1) (m:=0) rfl cl0))) fun a hE=>⟨Kept.refl _ _,_,_,rfl,hE,rfl⟩
         ·intro a w ux58 hE hM hp
          have f3 : ux58 3 = (Value.agg (enc x59).toArray):=hp 0 _ rfl rfl
          have f7 : ux58 7 = (Value.agg (enc x62).toArray):=hp 1 _ rfl rfl
          exact jp hE Za ld (lk rfl f3) (lk rfl f7) (jv (fun x : GMeeting=>x.First) (fun x=>x.Second) Kr.und (by kernel_rfl) (by kernel_rfl) (by kernel_rfl) rfl rfl ty2 ty2 (fun _=>rfl) (fun x y h1 h2=>by cases x; cases y; simp only at h1 h2; subst h1; subst h2; rfl)) (by decide) (by kernel_rfl) fun a hE=>⟨Kept.refl _ _,_,_,rfl,hE,rfl⟩
         ·intro a w ux58 hE hM hg
          have hE:=hE.sub (e':=[(121,(vT (!decide (x59 = x62)))),(0,v0_1),(11,(ptr b27 0)),(12,(ptr b29 0)),(13,(ptr b31 0)),(14,u35),(16,u38),(18,vI s50),(107,vI s50),(108,u35),(109,(vI (r33.1.length : Int))),(110,(vT (decide (s50 < (r33.1.length : Int)))))]) ⟨lk rfl (hg 8 (by decide)),rfl,rfl,rfl,rfl,rfl,rfl,rfl,rfl,rfl,rfl,rfl,trivial⟩
          refine Zk ?_
          have ht65:=Option.some.inj hl56
          subst ht65
          refine Zn ?_
          exact ⟨hE.sub ⟨rfl,rfl,rfl,rfl,rfl,rfl,rfl,rfl,trivial⟩,hM⟩
        ·skip
         rintro a w ⟨hE,hM⟩
         refine Zv hE rfl ?_ ?_
         ·intro hb66
          have hF57:=ZB hF57 hb66
          refine Zd (Ze hE Za ld rfl fun a hE=>Zf ?_)
          have ht67:=hx52 _ (ois hF57)
          subst ht67
          have hr:=Option.some.inj hF48
          subst hr
          have hM:=M.fst (l:=[]) hM
          exact wp_ret (ZP (Y4 (ZP (ZP (Y4 (ZP (ZP (ZK hE rfl (Zx hE rfl) ⟨_,rfl,rfl,hM.kept⟩))))))))
         ·intro hb66
          have hF57:=ZA hF57 hb66
          refine wp_skip (ZG (wp_seq ?_))
          obtain ⟨x69,hi71,hF57⟩:=bix hF57
          obtain ⟨x72,hi74,hF57⟩:=bix hF57
          obtain ⟨r75,e76,hF57⟩:=bind_some hF57
          refine Vj (n:=265) (hd:=[_,_,_,_,_,_,_,_,_,_,_,_,_,_,_,_,_,_]) (tl:=[_]) YS rfl rfl [123,124,125,126,127,128,129,130,131,132,133,134,135,122,136,137,19,282] (by decide) (fun D u w=>M (Old w0) w0 w ([osl NoB (r36.1 : List GMeeting) u38,osl NoB (r33.1 : List GMeeting) u35,raw b31 (enc r25.2.2),raw b29 (enc r25.2.1),raw b27 (cat [[vI r25.1.Field],enc r25.1.Box,enc r25.1.Mix,enc r25.1.Places,[vI r25.1.Rounds]])] ++ qL ([mkC 16 17 (enc (Vector.replicate 16 (0 : UInt8))) (enc r75.1)] : Mk) D u) ∧ GOk ([([],fun us v=>v = (Value.agg (enc r25.1).toArray)),([],fun us v=>v = u35),([],fun us v=>v = (vI s50)),([],fun us v=>v = (ptr (sb u35) (so u35 + (s50).toNat * 2))),([],fun us v=>v = (ptr (sb u35) (so u35 + (s50).toNat * 2 + 0))),([],fun us v=>v = (vI x69.First)),([],fun us v=>v = u35),([],fun us v=>v = (vI s50)),([],fun us v=>v = (ptr (sb u35) (so u35 + (s50).toNat * 2))),([],fun us v=>v = (ptr (sb u35) (so u35 + (s50).toNat * 2 + 1))),([],fun us v=>v = (vI x72.Second)),([],fun us v=>v = (Value.agg (enc r25.2.1).toArray)),([],fun us v=>v = (Value.tuple [(Value.agg (enc r75.1).toArray),vI r75.2].toArray)),([],fun us v=>v = (Value.tuple [(Value.agg (enc r75.1).toArray),vI r75.2].toArray)),([],fun us v=>v = (Value.agg (enc r75.1).toArray)),([],fun us v=>v = (vI r75.2)),([],fun us v=>True),([],fun us v=>True)] : Gs) D u) hE (fun u=>⟨M.qE (M.q0 hM.drew u) emC,KH⟩) (ZS (Zb ?_ (Zb ?_ (Zb ?_ (Zb ?_ (Zb ?_ (Zb ?_ (Zb ?_ (Zb ?_ (Zb ?_ (Zb ?_ (Zb ?_ (Zb ?_ (Zb ?_ (Zb ?_ (Zb ?_ (Zb ?_ (Zb ?_ (Zb ?_ ZL))))))))))))))))))) ?_
          ·intro a w ux68 D hE hI hD hdc hp
           have hM0:=hI.1
           have hM:=hI.1
           exact Zj (cs:=enc r25.1) hE Za ld rfl Z8 rfl (hM.rawAt (pre:=[_,_,_,_])) (Zl (cl1 (n:=1) (m:=289) rfl (cl1 (n:=256) (m:=33) (Flat.len _) (cl1 (n:=16) (m:=17) (Flat.len _) (cl1 (n:=16) (m:=1) (Flat.len _) (cl1 (n:=1) (m:=0) rfl cl0)))))) fun a hE=>⟨_,_,rfl,hE,M.qKeep hM0 rfl,hI.2.put hD rfl ZR rfl⟩
          ·intro a w ux68 D hE hI hD hdc hp
           have hM0:=hI.1
           exact Zc hE Za ld rfl fun a hE=>⟨_,_,rfl,hE,M.qKeep hM0 rfl,hI.2.put hD rfl ZR rfl⟩
          ·intro a w ux68 D hE hI hD hdc hp
           have hM0:=hI.1
           exact Zc hE Za ld rfl fun a hE=>⟨_,_,rfl,hE,M.qKeep hM0 rfl,hI.2.put hD rfl ZR rfl⟩
          ·intro a w ux68 D hE hI hD hdc hp
           have d1 : D 1 = true:=hp 0 _ rfl rfl
           have g1:=hI.2 1 d1 _ rfl
           have f1 : ux68 1 = u35:=g1.2
           have d2 : D 2 = true:=hp 1 _ rfl rfl
           have g2:=hI.2 2 d2 _ rfl
           have f2 : ux68 2 = (vI s50):=g2.2
           have hM0:=hI.1
           have hM:=hI.1
           exact Yv hE Za ld (lk rfl f1) (lk rfl f2) Try.underlying69 Kr (hM.sl (pre:=[_]) noB) hi71.1 fun a hE=>⟨_,_,rfl,hE,M.qKeep hM0 rfl,hI.2.put hD rfl ZR rfl⟩
          ·intro a w ux68 D hE hI hD hdc hp
           have d3 : D 3 = true:=hp 0 _ rfl rfl
           have g3:=hI.2 3 d3 _ rfl
           have f3 : ux68 3 = (ptr (sb u35) (so u35 + (s50).toNat * 2)):=g3.2
           have hM0:=hI.1
           exact Zr hE Za ld (lk rfl f3) (fd73_0) fun a hE=>⟨_,_,rfl,hE,M.qKeep hM0 rfl,hI.2.put hD rfl ZR rfl⟩
          ·intro a w ux68 D hE hI hD hdc hp
           have d4 : D 4 = true:=hp 0 _ rfl rfl
           have g4:=hI.2 4 d4 _ rfl
           have f4 : ux68 4 = (ptr (sb u35) (so u35 + (s50).toNat * 2 + 0)):=g4.2
           have hM0:=hI.1
           have hM:=hI.1
           exact ZF (v:=(vI x69.First)) hE Za ld (lk rfl f4) ty2 rfl (At.cat (pre:=[]) (X9 (hM.sl (pre:=[_]) noB) hi71.2) cl0) fun a hE=>⟨_,_,rfl,hE,M.qKeep hM0 rfl,hI.2.put hD rfl ZR rfl⟩
          ·intro a w ux68 D hE hI hD hdc hp
           have hM0:=hI.1
           exact Zc hE Za ld rfl fun a hE=>⟨_,_,rfl,hE,M.qKeep hM0 rfl,hI.2.put hD rfl ZR rfl⟩
          ·intro a w ux68 D hE hI hD hdc hp
           have hM0:=hI.1
           exact Zc hE Za ld rfl fun a hE=>⟨_,_,rfl,hE,M.qKeep hM0 rfl,hI.2.put hD rfl ZR rfl⟩
          ·intro a w ux68 D hE hI hD hdc hp
           have d6 : D 6 = true:=hp 0 _ rfl rfl
           have g6:=hI.2 6 d6 _ rfl
           have f6 : ux68 6 = u35:=g6.2
           have d7 : D 7 = true:=hp 1 _ rfl rfl
           have g7:=hI.2 7 d7 _ rfl
           have f7 : ux68 7 = (vI s50):=g7.2
           have hM0:=hI.1
           have hM:=hI.1
           exact Yv hE Za ld (lk rfl f6) (lk rfl f7) Try.underlying69 Kr (hM.sl (pre:=[_]) noB) hi74.1 fun a hE=>⟨_,_,rfl,hE,M.qKeep hM0 rfl,hI.2.put hD rfl ZR rfl⟩
          ·intro a w ux68 D hE hI hD hdc hp
           have d8 : D 8 = true:=hp 0 _ rfl rfl
           have g8:=hI.2 8 d8 _ rfl
           have f8 : ux68 8 = (ptr (sb u35) (so u35 + (s50).toNat * 2)):=g8.2
           have hM0:=hI.1
           exact Zr hE Za ld (lk rfl f8) (fd73_1) fun a hE=>⟨_,_,rfl,hE,M.qKeep hM0 rfl,hI.2.put hD rfl ZR rfl⟩
          ·intro a w ux68 D hE hI hD hdc hp
           have d9 : D 9 = true:=hp 0 _ rfl rfl
           have g9:=hI.2 9 d9 _ rfl
           have f9 : ux68 9 = (ptr (sb u35) (so u35 + (s50).toNat * 2 + 1)):=g9.2
           have hM0:=hI.1
           have hM:=hI.1
           exact ZF (v:=(vI x72.Second)) hE Za ld (lk rfl f9) ty2 rfl (At.cat (pre:=[[vI x72.First]]) (X9 (hM.sl (pre:=[_]) noB) hi74.2) (cl1 (n:=1) (m:=0) rfl cl0)) fun a hE=>⟨_,_,rfl,hE,M.qKeep hM0 rfl,hI.2.put hD rfl ZR rfl⟩
          ·intro a w ux68 D hE hI hD hdc hp
           have hM0:=hI.1
           have hM:=hI.1
           exact Zj (cs:=enc r25.2.1) hE Za ld rfl Zw rfl (hM.rawAt (pre:=[_,_,_])) (Flat.len _) fun a hE=>⟨_,_,rfl,hE,M.qKeep hM0 rfl,hI.2.put hD rfl ZR rfl⟩
          ·intro a w ux68 D hE hI hD hdc hp
           have d0 : D 0 = true:=hp 0 _ rfl rfl
           have g0:=hI.2 0 d0 _ rfl
           have f0 : ux68 0 = (Value.agg (enc r25.1).toArray):=g0.2
           have d5 : D 5 = true:=hp 1 _ rfl rfl
           have g5:=hI.2 5 d5 _ rfl
           have f5 : ux68 5 = (vI x69.First):=g5.2
           have d10 : D 10 = true:=hp 2 _ rfl rfl
           have g10:=hI.2 10 d10 _ rfl
           have f10 : ux68 10 = (vI x72.Second):=g10.2
           have d11 : D 11 = true:=hp 3 _ rfl rfl
           have g11:=hI.2 11 d11 _ rfl
           have f11 : ux68 11 = (Value.agg (enc r25.2.1).toArray):=g11.2
           have hM0:=hI.1
           refine Zo hE Za ld (Z1 (ZX (lk rfl f0) (ZX (lk rfl f5) (ZX (lk rfl f10) (ZX (lk rfl f11) Xg))))) cb28 (TB _ r25.1 x69.First x72.Second r25.2.1 r75 e76) ?_
           rintro v w a ⟨rfl,hK⟩ hE
           exact ⟨_,_,rfl,hE,M.qKeep (hM0.keep hK) rfl,hI.2.put hD rfl ZR rfl⟩
          ·intro a w ux68 D hE hI hD hdc hp
           have d12 : D 12 = true:=hp 0 _ rfl rfl
           have g12:=hI.2 12 d12 _ rfl
           have f12 : ux68 12 = (Value.tuple [(Value.agg (enc r75.1).toArray),vI r75.2].toArray):=g12.2
           have hM0:=hI.1
           exact Zc hE Za ld (lk rfl f12) fun a hE=>⟨_,_,rfl,hE,M.qKeep hM0 rfl,hI.2.put hD rfl ZR rfl⟩
          ·intro a w ux68 D hE hI hD hdc hp
           have d13 : D 13 = true:=hp 0 _ rfl rfl
           have g13:=hI.2 13 d13 _ rfl
           have f13 : ux68 13 = (Value.tuple [(Value.agg (enc r75.1).toArray),vI r75.2].toArray):=g13.2
           have hM0:=hI.1
           exact Zy hE Za ld (lk rfl f13) rfl fun a hE=>⟨_,_,rfl,hE,M.qKeep hM0 rfl,hI.2.put hD rfl ZR rfl⟩
          ·intro a w ux68 D hE hI hD hdc hp
           have d13 : D 13 = true:=hp 0 _ rfl rfl
           have g13:=hI.2 13 d13 _ rfl
           have f13 : ux68 13 = (Value.tuple [(Value.agg (enc r75.1).toArray),vI r75.2].toArray):=g13.2
           have hM0:=hI.1
           exact Zy hE Za ld (lk rfl f13) rfl fun a hE=>⟨_,_,rfl,hE,M.qKeep hM0 rfl,hI.2.put hD rfl ZR rfl⟩
          ·intro a w ux68 D hE hI hD hdc hp
           have hM0:=hI.1
           have hM:=hI.1
           refine Zu hE hM Za ld Zw ?_; intro b77 w a hM hE
           have hs : D 17 = false:=Bool.eq_false_iff.2 fun hx=>Bool.noConfusion (hD.symm.trans (hdc 17 _ _ rfl (List.mem_of_getElem? (i:=0) rfl) rfl hx))
           exact ⟨_,_,rfl,hE,M.qAlloc (mk1:=[]) (mk2:=[]) hM rfl hD hs (by decide),hI.2.put hD rfl ZR trivial⟩
          ·intro a w ux68 D hE hI hD hdc hp
           have d16 : D 16 = true:=hp 0 _ rfl rfl
           have d14 : D 14 = true:=hp 1 _ rfl rfl
           have g14:=hI.2 14 d14 _ rfl
           have f14 : ux68 14 = (Value.agg (enc r75.1).toArray):=g14.2
           have hM0:=hI.1
           have hM : M (Old w0) w0 w [osl NoB (r36.1 : List GMeeting) u38,osl NoB (r33.1 : List GMeeting) u35,raw b31 (enc r25.2.2),raw b29 (enc r25.2.1),raw b27 (cat [[vI r25.1.Field],enc r25.1.Box,enc r25.1.Mix,enc r25.1.Places,[vI r25.1.Rounds]]),T6 (D 16) (D 17) (ux68 16) (enc (Vector.replicate 16 (0 : UInt8))) (enc r75.1)]:=hI.1
           obtain ⟨b79,hb80,hM⟩:=M.openCell (pre:=[_,_,_,_,_]) hM d16
           rw [hD,if_neg (by decide)] at hM
           exact Zi (seg:=enc r75.1) (cs':=enc r75.1) hE hM Za (lk rfl hb80) (lk rfl f14) rfl Zw (Flat.len _) (zle flq) (Flat.cell _) (Zg flq) fun w a hM hE=>⟨undef,_,rfl,Env.dummy hE (by decide),M.qStore (i:=16) (mk1:=[]) (mk2:=[]) hM rfl d16 hb80 (by decide),hI.2.put hD rfl ZR trivial⟩
          ·intro a w ux68 D hE hI hall
           have hM : M (Old w0) w0 w [osl NoB (r36.1 : List GMeeting) u38,osl NoB (r33.1 : List GMeeting) u35,raw b31 (enc r25.2.2),raw b29 (enc r25.2.1),raw b27 (cat [[vI r25.1.Field],enc r25.1.Box,enc r25.1.Mix,enc r25.1.Places,[vI r25.1.Rounds]]),T6 (D 16) (D 17) (ux68 16) (enc (Vector.replicate 16 (0 : UInt8))) (enc r75.1)]:=hI.1
           have d0 : D 0 = true:=hall 0 (by decide)
           have d1 : D 1 = true:=hall 1 (by decide)
           have d2 : D 2 = true:=hall 2 (by decide)
           have d3 : D 3 = true:=hall 3 (by decide)
           have d4 : D 4 = true:=hall 4 (by decide)
           have d5 : D 5 = true:=hall 5 (by decide)
           have d6 : D 6 = true:=hall 6 (by decide)
           have d7 : D 7 = true:=hall 7 (by decide)
           have d8 : D 8 = true:=hall 8 (by decide)
           have d9 : D 9 = true:=hall 9 (by decide)
           have d10 : D 10 = true:=hall 10 (by decide)
           have d11 : D 11 = true:=hall 11 (by decide)
           have d12 : D 12 = true:=hall 12 (by decide)
           have d13 : D 13 = true:=hall 13 (by decide)
           have d14 : D 14 = true:=hall 14 (by decide)
           have d15 : D 15 = true:=hall 15 (by decide)
           have d16 : D 16 = true:=hall 16 (by decide)
           have d17 : D 17 = true:=hall 17 (by decide)
           have f0 : ux68 0 = (Value.agg (enc r25.1).toArray):=(hI.2 0 d0 _ rfl).2
           have f1 : ux68 1 = u35:=(hI.2 1 d1 _ rfl).2
           have f2 : ux68 2 = (vI s50):=(hI.2 2 d2 _ rfl).2
           have f3 : ux68 3 = (ptr (sb u35) (so u35 + (s50).toNat * 2)):=(hI.2 3 d3 _ rfl).2
           have f4 : ux68 4 = (ptr (sb u35) (so u35 + (s50).toNat * 2 + 0)):=(hI.2 4 d4 _ rfl).2
           have f5 : ux68 5 = (vI x69.First):=(hI.2 5 d5 _ rfl).2
           have f6 : ux68 6 = u35:=(hI.2 6 d6 _ rfl).2
           have f7 : ux68 7 = (vI s50):=(hI.2 7 d7 _ rfl).2
           have f8 : ux68 8 = (ptr (sb u35) (so u35 + (s50).toNat * 2)):=(hI.2 8 d8 _ rfl).2
           have f9 : ux68 9 = (ptr (sb u35) (so u35 + (s50).toNat * 2 + 1)):=(hI.2 9 d9 _ rfl).2
           have f10 : ux68 10 = (vI x72.Second):=(hI.2 10 d10 _ rfl).2
           have f11 : ux68 11 = (Value.agg (enc r25.2.1).toArray):=(hI.2 11 d11 _ rfl).2
           have f12 : ux68 12 = (Value.tuple [(Value.agg (enc r75.1).toArray),vI r75.2].toArray):=(hI.2 12 d12 _ rfl).2
           have f13 : ux68 13 = (Value.tuple [(Value.agg (enc r75.1).toArray),vI r75.2].toArray):=(hI.2 13 d13 _ rfl).2
           have f14 : ux68 14 = (Value.agg (enc r75.1).toArray):=(hI.2 14 d14 _ rfl).2
           have f15 : ux68 15 = (vI r75.2):=(hI.2 15 d15 _ rfl).2
           obtain ⟨b81,f82,hM⟩:=M.openCell (pre:=[_,_,_,_,_]) hM d16
           rw [if_pos d17] at hM
           have hE:=hE.sub (e':=[(137,vI r75.2),(19,(ptr b81 0)),(0,v0_1),(11,(ptr b27 0)),(12,(ptr b29 0)),(13,(ptr b31 0)),(14,u35),(16,u38),(18,vI s50),(121,vT j55)]) ⟨lk rfl f15,lk rfl f82,rfl,rfl,rfl,rfl,rfl,rfl,rfl,rfl,trivial⟩
           refine Ze hE Za ld rfl fun a hE=>Zk (ZG ?_)
           obtain ⟨j83,hl84,hF85⟩:=bind_some hF57
           refine ZT (fun a w=>Env 265 a [(0,v0_1),(11,(ptr b27 0)),(12,(ptr b29 0)),(13,(ptr b31 0)),(14,u35),(16,u38),(18,vI s50),(144,vT j83)] ∧ M (Old w0) w0 w [osl NoB (r36.1 : List GMeeting) u38,osl NoB (r33.1 : List GMeeting) u35,raw b31 (enc r25.2.2),raw b29 (enc r25.2.1),raw b27 (cat [[vI r25.1.Field],enc r25.1.Box,enc r25.1.Mix,enc r25.1.Places,[vI r25.1.Rounds]])]) ?_ ?_
           ·skip
            refine wp_region_lit (Zc hE Za ld rfl fun a hE=>Zm hE Za ld rfl rfl rfl fun a hE=>Zc hE Za ld rfl ?_); intro a hE
            refine Xy (r75.2 != 0) (fun hb86=>?_) (fun hb86=>?_)
            ·have hl84:=ZB hl84 hb86
             refine Zz hE rfl (lkb rfl hb86) rfl (by decide) fun a hE=>Zz hE rfl (lkb rfl hb86) rfl (by decide) fun a hE=>Zz hE rfl (lkb rfl hb86) rfl (by decide) fun a hE=>Yy hE Za ld (lkb rfl hb86) rfl fun a hE=>Zk ?_
             have ht87:=Option.some.inj hl84
             subst ht87
             refine Zn ?_
             have hM:=M.fst (l:=[_,_,_,_,_]) (((((hM.pull (pre:=[_,_,_,_,_])).pull (pre:=[_,_,_,_,_])).pull (pre:=[_,_,_,_,_])).pull (pre:=[_,_,_,_,_])).pull (pre:=[_,_,_,_,_]))
             exact ⟨hE.sub ⟨rfl,rfl,rfl,rfl,rfl,rfl,rfl,rfl,trivial⟩,hM⟩
            ·have hl84:=ZA hl84 hb86
             refine Zj (cs:=enc r75.1) hE (Zt hE rfl (lkb rfl hb86)) (by decide) rfl Zw rfl (hM.rawAt (pre:=[])) (Flat.len _) fun a hE=>Zj (cs:=enc r25.2.2) hE (Zt hE rfl (lkb rfl hb86)) (by decide) rfl Zw rfl (hM.rawAt (pre:=[_,_,_])) (Flat.len _) fun a hE=>jp hE (Zt hE rfl (lkb rfl hb86)) (by decide) rfl rfl (Q6 Try.underlying62 ty5 rfl false rfl (by decide) (Qn Try.underlying5)) (by decide) (by kernel_rfl) fun a hE=>Yh hE Za ld (lkb rfl hb86) rfl fun a hE=>Zk ?_
             have ht88:=Option.some.inj hl84
             subst ht88
             refine Zn ?_
             have hM:=M.fst (l:=[_,_,_,_,_]) (((((hM.pull (pre:=[_,_,_,_,_])).pull (pre:=[_,_,_,_,_])).pull (pre:=[_,_,_,_,_])).pull (pre:=[_,_,_,_,_])).pull (pre:=[_,_,_,_,_]))
             exact ⟨hE.sub ⟨rfl,rfl,rfl,rfl,rfl,rfl,rfl,rfl,trivial⟩,hM⟩
           ·skip
            rintro a w ⟨hE,hM⟩
            refine Zv hE rfl ?_ ?_
            ·intro hb89
             have hF85:=ZB hF85 hb89
             refine Zd (Ze hE Za ld rfl fun a hE=>Zf ?_)
             have ht90:=hx52 _ (ois hF85)
             subst ht90
             have hr:=Option.some.inj hF48
             subst hr
             have hM:=M.fst (l:=[]) hM
             exact wp_ret (Y4 (ZP (ZP (Y4 (ZP (ZP (ZK hE rfl (Zx hE rfl) ⟨_,rfl,rfl,hM.kept⟩)))))))
            ·intro hb89
             have hF85:=ZA hF85 hb89
             refine wp_skip (Yj (ZG (wp_region_lit (Zc hE Za ld rfl fun a hE=>Zm hE Za ld rfl rfl rfl fun a hE=>Ze hE Za ld rfl fun a hE=>Zk (Zn ?_)))))
             exact ⟨_,(ois hF85),hE.sub ⟨rfl,rfl,rfl,rfl,rfl,rfl,rfl,trivial⟩,hM⟩
       ·intro hb54
        have hs51:=ZA hs51 hb54
        refine wp_exit (Zs (Zs (Yz ?_)))
        have ht91:=hx52 _ (ois hs51)
        subst ht91
        refine Zn ?_
        have hM:=M.fst (l:=[]) hM
        exact ⟨(),rfl,hE.sub ⟨rfl,trivial⟩,hM⟩
      ·skip
       rintro a w ⟨s49,ht,hE,hM⟩
       subst ht
       have hF48:=Qp hF48
       refine ZG (Zd (Zc hE Za ld rfl ?_)); intro a hE
       obtain ⟨r92,e93,hF48⟩:=bind_some hF48
       refine Zo hE Za ld rfl cb33 (TK _ p0 v0_1 (hM.rdo hv0_1) r92 e93) ?_
       rintro v w a ⟨rfl,hK⟩ hE
       have hM:=hM.keep hK
       refine Zc hE Za ld rfl fun a hE=>Zy hE Za ld rfl rfl fun a hE=>Zy hE Za ld rfl rfl fun a hE=>Zy hE Za ld rfl rfl fun a hE=>Zu hE hM Za ld Z8 fun b94 w a hM hE=>Zu hE hM Za ld Zw ?_; intro b96 w a hM hE
       have hM:=hM.pull (pre:=[_])
       refine Zi (seg:=cat [[vI r92.1.Field],enc r92.1.Box,enc r92.1.Mix,enc r92.1.Places,[vI r92.1.Rounds]]) (cs':=cat [[vI r92.1.Field],enc r92.1.Box,enc r92.1.Mix,enc r92.1.Places,[vI r92.1.Rounds]]) hE hM Za rfl rfl rfl Z8 (Zl (cl1 (n:=1) (m:=289) rfl (cl1 (n:=256) (m:=33) (Flat.len _) (cl1 (n:=16) (m:=17) (Flat.len _) (cl1 (n:=16) (m:=1) (Flat.len _) (cl1 (n:=1) (m:=0) rfl cl0)))))) (Nat.le_of_eq ((Nat.zero_add _).trans (Eq.trans (Zl (cl1 (n:=1) (m:=289) rfl (cl1 (n:=256) (m:=33) (Flat.len _) (cl1 (n:=16) (m:=17) (Flat.len _) (cl1 (n:=16) (m:=1) (Flat.len _) (cl1 (n:=1) (m:=0) rfl cl0)))))) (Eq.symm (Zl (cl1 (n:=1) (m:=289) rfl (cl1 (n:=256) (m:=33) (Flat.len _) (cl1 (n:=16) (m:=17) (Flat.len _) (cl1 (n:=16) (m:=1) (Flat.len _) (cl1 (n:=1) (m:=0) rfl cl0)))))))))) (Yq (cc1 (Flat.cell (r92.1.Field : Int)) (cc1 (Flat.cell _) (cc1 (Flat.cell _) (cc1 (Flat.cell _) (cc1 (Flat.cell (r92.1.Rounds : Int)) cc0)))))) (Zg (Eq.trans (Zl (cl1 (n:=1) (m:=289) rfl (cl1 (n:=256) (m:=33) (Flat.len _) (cl1 (n:=16) (m:=17) (Flat.len _) (cl1 (n:=16) (m:=1) (Flat.len _) (cl1 (n:=1) (m:=0) rfl cl0)))))) (Eq.symm (Zl (cl1 (n:=1) (m:=289) rfl (cl1 (n:=256) (m:=33) (Flat.len _) (cl1 (n:=16) (m:=17) (Flat.len _) (cl1 (n:=16) (m:=1) (Flat.len _) (cl1 (n:=1) (m:=0) rfl cl0))))))))) ?_; intro w a hM hE
       have hM:=hM.pull (pre:=[_])
       refine Zi (seg:=enc r92.2.1) (cs':=enc r92.2.1) hE hM Za rfl rfl rfl Zw (Flat.len _) (zle flq) (Flat.cell _) (Zg flq) fun w a hM hE=>Ze hE Za ld rfl fun a hE=>Zf (Zd (Zj (cs:=enc r92.1) hE Za ld rfl Z8 rfl (hM.rawAt (pre:=[_])) (Zl (cl1 (n:=1) (m:=289) rfl (cl1 (n:=256) (m:=33) (Flat.len _) (cl1 (n:=16) (m:=17) (Flat.len _) (cl1 (n:=16) (m:=1) (Flat.len _) (cl1 (n:=1) (m:=0) rfl cl0)))))) fun a hE=>Zj (cs:=enc r92.2.1) hE Za ld rfl Zw rfl (hM.rawAt (pre:=[])) (Flat.len _) fun a hE=>Zc hE Za ld rfl ?_)); intro a hE
       obtain ⟨r98,e99,hF48⟩:=bind_some hF48
       refine Zo hE Za ld rfl cb34 (TD _ r92.1 r92.2.1 r92.2.2 r98 e99) ?_
       rintro v w a ⟨rfl,hK⟩ hE
       have hM:=hM.keep hK
       refine Zc hE Za ld rfl fun a hE=>Zy hE Za ld rfl rfl fun a hE=>Zy hE Za ld rfl rfl fun a hE=>Ze hE Za ld rfl fun a hE=>Ze hE Za ld rfl fun a hE=>Zf (wp_seq (Zd (Zj (cs:=enc r92.1) hE Za ld rfl Z8 rfl (hM.rawAt (pre:=[_])) (Zl (cl1 (n:=1) (m:=289) rfl (cl1 (n:=256) (m:=33) (Flat.len _) (cl1 (n:=16) (m:=17) (Flat.len _) (cl1 (n:=16) (m:=1) (Flat.len _) (cl1 (n:=1) (m:=0) rfl cl0)))))) fun a hE=>Zj (cs:=enc r92.2.1) hE Za ld rfl Zw rfl (hM.rawAt (pre:=[])) (Flat.len _) fun a hE=>Zc hE Za ld rfl ?_))); intro a hE
       obtain ⟨r100,e101,hF48⟩:=bind_some hF48
       refine Zo hE Za ld rfl cb35 (Hu _ r92.1 r92.2.1 r92.2.2 r100 e101) ?_
       rintro v w a ⟨rfl,hK⟩ hE
       have hM:=hM.keep hK
       refine Zc hE Za ld rfl fun a hE=>Zy hE Za ld rfl rfl fun a hE=>Zy hE Za ld rfl rfl fun a hE=>Ze hE Za ld rfl fun a hE=>Ze hE Za ld rfl fun a hE=>Zf ?_
       obtain ⟨j102,hl103,hF104⟩:=bind_some hF48
       refine ZT (fun a w=>Env 265 a [(0,v0_1),(172,vT j102)] ∧ M (Old w0) w0 w []) ?_ ?_
       ·skip
        refine wp_region_lit (Zc hE Za ld rfl fun a hE=>Zc hE Za ld rfl fun a hE=>Zm hE Za ld rfl rfl rfl fun a hE=>Zc hE Za ld rfl ?_); intro a hE
        refine Xy (r98.2 != r100.2) (fun hb105=>?_) (fun hb105=>?_)
        ·have hl103:=ZB hl103 hb105
         refine Zz hE rfl (lkb rfl hb105) rfl (by decide) fun a hE=>Zz hE rfl (lkb rfl hb105) rfl (by decide) fun a hE=>Zz hE rfl (lkb rfl hb105) rfl (by decide) fun a hE=>Yy hE Za ld (lkb rfl hb105) rfl fun a hE=>Zk ?_
         have ht106:=Option.some.inj hl103
         subst ht106
         refine Zn ?_
         have hM:=M.fst (l:=[]) hM
         exact ⟨hE.sub ⟨rfl,rfl,trivial⟩,hM⟩
        ·have hl103:=ZA hl103 hb105
         refine Zc hE (Zt hE rfl (lkb rfl hb105)) (by decide) rfl fun a hE=>Zc hE (Zt hE rfl (lkb rfl hb105)) (by decide) rfl fun a hE=>Zm hE (Zt hE rfl (lkb rfl hb105)) (by decide) rfl rfl rfl fun a hE=>Yh hE Za ld (lkb rfl hb105) rfl fun a hE=>Zk ?_
         have ht107:=Option.some.inj hl103
         subst ht107
         refine Zn ?_
         have hM:=M.fst (l:=[]) hM
         exact ⟨hE.sub ⟨rfl,rfl,trivial⟩,hM⟩
       ·skip
        rintro a w ⟨hE,hM⟩
        refine Zv hE rfl ?_ ?_
        ·intro hb108
         have hF104:=ZB hF104 hb108
         refine Zd (Ze hE Za ld rfl fun a hE=>Zf ?_)
         have hr:=Option.some.inj hF104
         subst hr
         exact wp_ret (ZP (ZK hE rfl (Zx hE rfl) ⟨_,rfl,rfl,hM.kept⟩))
        ·intro hb108
         have hF104:=ZA hF104 hb108
         refine wp_skip (ZG (Zd (Zc hE Za ld rfl ?_))); intro a hE
         obtain ⟨r109,e110,hF104⟩:=bind_some hF104
         refine Zo hE Za ld rfl cb36 (JG _ p0 v0_1 (hM.rdo hv0_1) r109 e110) ?_
         rintro v w a ⟨rfl,hK⟩ hE
         have hM:=hM.keep hK
         refine Zc hE Za ld rfl fun a hE=>Zy hE Za ld rfl rfl fun a hE=>Zy hE Za ld rfl rfl fun a hE=>Zy hE Za ld rfl rfl fun a hE=>Zu hE hM Za ld Z8 fun b111 w a hM hE=>Zu hE hM Za ld Zw ?_; intro b113 w a hM hE
         have hM:=hM.pull (pre:=[_])
         refine Zi (seg:=cat [[vI r109.1.Field],enc r109.1.Box,enc r109.1.Mix,enc r109.1.Places,[vI r109.1.Rounds]]) (cs':=cat [[vI r109.1.Field],enc r109.1.Box,enc r109.1.Mix,enc r109.1.Places,[vI r109.1.Rounds]]) hE hM Za rfl rfl rfl Z8 (Zl (cl1 (n:=1) (m:=289) rfl (cl1 (n:=256) (m:=33) (Flat.len _) (cl1 (n:=16) (m:=17) (Flat.len _) (cl1 (n:=16) (m:=1) (Flat.len _) (cl1 (n:=1) (m:=0) rfl cl0)))))) (Nat.le_of_eq ((Nat.zero_add _).trans (Eq.trans (Zl (cl1 (n:=1) (m:=289) rfl (cl1 (n:=256) (m:=33) (Flat.len _) (cl1 (n:=16) (m:=17) (Flat.len _) (cl1 (n:=16) (m:=1) (Flat.len _) (cl1 (n:=1) (m:=0) rfl cl0)))))) (Eq.symm (Zl (cl1 (n:=1) (m:=289) rfl (cl1 (n:=256) (m:=33) (Flat.len _) (cl1 (n:=16) (m:=17) (Flat.len _) (cl1 (n:=16) (m:=1) (Flat.len _) (cl1 (n:=1) (m:=0) rfl cl0)))))))))) (Yq (cc1 (Flat.cell (r109.1.Field : Int)) (cc1 (Flat.cell _) (cc1 (Flat.cell _) (cc1 (Flat.cell _) (cc1 (Flat.cell (r109.1.Rounds : Int)) cc0)))))) (Zg (Eq.trans (Zl (cl1 (n:=1) (m:=289) rfl (cl1 (n:=256) (m:=33) (Flat.len _) (cl1 (n:=16) (m:=17) (Flat.len _) (cl1 (n:=16) (m:=1) (Flat.len _) (cl1 (n:=1) (m:=0) rfl cl0)))))) (Eq.symm (Zl (cl1 (n:=1) (m:=289) rfl (cl1 (n:=256) (m:=33) (Flat.len _) (cl1 (n:=16) (m:=17) (Flat.len _) (cl1 (n:=16) (m:=1) (Flat.len _) (cl1 (n:=1) (m:=0) rfl cl0))))))))) ?_; intro w a hM hE
         have hM:=hM.pull (pre:=[_])
         refine Zi (seg:=enc r109.2.1) (cs':=enc r109.2.1) hE hM Za rfl rfl rfl Zw (Flat.len _) (zle flq) (Flat.cell _) (Zg flq) fun w a hM hE=>Ze hE Za ld rfl fun a hE=>Zf (Zd (Zj (cs:=enc r109.1) hE Za ld rfl Z8 rfl (hM.rawAt (pre:=[_])) (Zl (cl1 (n:=1) (m:=289) rfl (cl1 (n:=256) (m:=33) (Flat.len _) (cl1 (n:=16) (m:=17) (Flat.len _) (cl1 (n:=16) (m:=1) (Flat.len _) (cl1 (n:=1) (m:=0) rfl cl0)))))) fun a hE=>Zj (cs:=enc r109.2.1) hE Za ld rfl Zw rfl (hM.rawAt (pre:=[])) (Flat.len _) fun a hE=>Zc hE Za ld rfl ?_)); intro a hE
         obtain ⟨r115,e116,hF104⟩:=bind_some hF104
         refine Zo hE Za ld rfl cb37 (BE _ r109.1 r109.2.1 r109.2.2 r115 e116) ?_
         rintro v w a ⟨rfl,hK⟩ hE
         have hM:=hM.keep hK
         refine Zc hE Za ld rfl fun a hE=>Zy hE Za ld rfl rfl fun a hE=>Zy hE Za ld rfl rfl fun a hE=>Zy hE Za ld rfl rfl fun a hE=>Ze hE Za ld rfl fun a hE=>Ze hE Za ld rfl fun a hE=>Ze hE Za ld rfl fun a hE=>Zf (wp_seq (Zd (Zj (cs:=enc r109.1) hE Za ld rfl Z8 rfl (hM.rawAt (pre:=[_])) (Zl (cl1 (n:=1) (m:=289) rfl (cl1 (n:=256) (m:=33) (Flat.len _) (cl1 (n:=16) (m:=17) (Flat.len _) (cl1 (n:=16) (m:=1) (Flat.len _) (cl1 (n:=1) (m:=0) rfl cl0)))))) fun a hE=>Zj (cs:=enc r109.2.1) hE Za ld rfl Zw rfl (hM.rawAt (pre:=[])) (Flat.len _) fun a hE=>Zc hE Za ld rfl ?_))); intro a hE
         obtain ⟨r117,e118,hF104⟩:=bind_some hF104
         refine Zo hE Za ld rfl cb38 (BG _ r109.1 r109.2.1 r109.2.2 r117 e118) ?_
         rintro v w a ⟨rfl,hK⟩ hE
         have hM:=hM.keep hK
         refine Zc hE Za ld rfl fun a hE=>Zy hE Za ld rfl rfl fun a hE=>Zy hE Za ld rfl rfl fun a hE=>Zy hE Za ld rfl rfl fun a hE=>Ze hE Za ld rfl fun a hE=>Ze hE Za ld rfl fun a hE=>Ze hE Za ld rfl fun a hE=>Zf ?_
         obtain ⟨j119,hl120,hF121⟩:=bind_some hF104
         refine ZT (fun a w=>Env 265 a [(28,(ptr b111 0)),(29,(ptr b113 0)),(30,vI r109.2.2),(31,vI r115.1),(32,vI r115.2.1),(33,vI r115.2.2),(207,vT j119)] ∧ M (Old w0) w0 w [raw b113 (enc r109.2.1),raw b111 (cat [[vI r109.1.Field],enc r109.1.Box,enc r109.1.Mix,enc r109.1.Places,[vI r109.1.Rounds]])]) ?_ ?_
         ·skip
          refine wp_region_lit (Zc hE Za ld rfl fun a hE=>Zc hE Za ld rfl fun a hE=>Zm hE Za ld rfl rfl rfl fun a hE=>Zc hE Za ld rfl ?_); intro a hE
          refine Xy (r115.2.2 != r117.2.2) (fun hb122=>?_) (fun hb122=>?_)
          ·have hl120:=ZB hl120 hb122
           refine Zz hE rfl (lkb rfl hb122) rfl (by decide) fun a hE=>Zz hE rfl (lkb rfl hb122) rfl (by decide) fun a hE=>Zz hE rfl (lkb rfl hb122) rfl (by decide) fun a hE=>Yy hE Za ld (lkb rfl hb122) rfl fun a hE=>Zc hE Za ld rfl fun a hE=>Zz hE rfl rfl rfl (by decide) fun a hE=>Zz hE rfl rfl rfl (by decide) fun a hE=>Zz hE rfl rfl rfl (by decide) fun a hE=>Yy hE Za ld rfl rfl fun a hE=>Zk ?_
           have ht123:=Option.some.inj hl120
           subst ht123
           refine Zn ?_
           exact ⟨hE.sub ⟨rfl,rfl,rfl,rfl,rfl,rfl,rfl,trivial⟩,hM⟩
          ·have hl120:=ZA hl120 hb122
           refine Zc hE (Zt hE rfl (lkb rfl hb122)) (by decide) rfl fun a hE=>Zc hE (Zt hE rfl (lkb rfl hb122)) (by decide) rfl fun a hE=>Zm hE (Zt hE rfl (lkb rfl hb122)) (by decide) rfl rfl rfl fun a hE=>Yh hE Za ld (lkb rfl hb122) rfl fun a hE=>Zc hE Za ld rfl ?_; intro a hE
           refine Xy (r115.1 != r117.1) (fun hb124=>?_) (fun hb124=>?_)
           ·have hl120:=ZB hl120 hb124
            refine Zz hE rfl (lkb rfl hb124) rfl (by decide) fun a hE=>Zz hE rfl (lkb rfl hb124) rfl (by decide) fun a hE=>Zz hE rfl (lkb rfl hb124) rfl (by decide) fun a hE=>Yy hE Za ld (lkb rfl hb124) rfl fun a hE=>Zk ?_
            have ht125:=Option.some.inj hl120
            subst ht125
            refine Zn ?_
            exact ⟨hE.sub ⟨rfl,rfl,rfl,rfl,rfl,rfl,rfl,trivial⟩,hM⟩
           ·have hl120:=ZA hl120 hb124
            refine Zc hE (Zt hE rfl (lkb rfl hb124)) (by decide) rfl fun a hE=>Zc hE (Zt hE rfl (lkb rfl hb124)) (by decide) rfl fun a hE=>Zm hE (Zt hE rfl (lkb rfl hb124)) (by decide) rfl rfl rfl fun a hE=>Yh hE Za ld (lkb rfl hb124) rfl fun a hE=>Zk ?_
            have ht126:=Option.some.inj hl120
            subst ht126
            refine Zn ?_
            exact ⟨hE.sub ⟨rfl,rfl,rfl,rfl,rfl,rfl,rfl,trivial⟩,hM⟩
         ·skip
          rintro a w ⟨hE,hM⟩
          refine Zv hE rfl ?_ ?_
          ·intro hb127
           have hF121:=ZB hF121 hb127
           refine Zd (Ze hE Za ld rfl fun a hE=>Zf ?_)
           have hr:=Option.some.inj hF121
           subst hr
           have hM:=M.fst (l:=[]) hM
           exact wp_ret (ZP (ZK hE rfl (Zx hE rfl) ⟨_,rfl,rfl,hM.kept⟩))
          ·intro hb127
           have hF121:=ZA hF121 hb127
           refine wp_skip (ZG (wp_seq (Zd (Zc hE Za ld rfl fun a hE=>Zm hE Za ld rfl rfl rfl fun a hE=>Zf ?_))))
           refine Zv hE rfl ?_ ?_
           ·intro hb128
            have hF121:=ZB hF121 hb128
            obtain ⟨j129,hl130,hF131⟩:=bind_some hF121
            refine ZT (fun a w=>Env 265 a [(2,vT j129)] ∧ M (Old w0) w0 w []) ?_ ?_
            ·skip
             refine wp_region_lit (Zc hE Za ld rfl fun a hE=>Zm hE Za ld rfl rfl rfl fun a hE=>Zc hE Za ld rfl ?_); intro a hE
             refine Xy (r115.1 == 0) (fun hb132=>?_) (fun hb132=>?_)
             ·have hl130:=ZB hl130 hb132
              refine Zc hE (Zt hE rfl (lkb rfl hb132)) (by decide) rfl fun a hE=>Zm hE (Zt hE rfl (lkb rfl hb132)) (by decide) rfl rfl rfl fun a hE=>Yy hE Za ld (lkb rfl hb132) rfl fun a hE=>Ze hE Za ld rfl fun a hE=>Zk ?_
              have ht133:=Option.some.inj hl130
              subst ht133
              refine Zn ?_
              have hM:=M.fst (l:=[]) hM
              exact ⟨hE.sub ⟨rfl,trivial⟩,hM⟩
             ·have hl130:=ZA hl130 hb132
              refine Zz hE rfl (lkb rfl hb132) rfl (by decide) fun a hE=>Zz hE rfl (lkb rfl hb132) rfl (by decide) fun a hE=>Yh hE Za ld (lkb rfl hb132) rfl fun a hE=>Ze hE Za ld rfl fun a hE=>Zk ?_
              have ht134:=Option.some.inj hl130
              subst ht134
              refine Zn ?_
              have hM:=M.fst (l:=[]) hM
              exact ⟨hE.sub ⟨rfl,trivial⟩,hM⟩
            ·skip
             rintro a w ⟨hE,hM⟩
             have hr:=Option.some.inj hF131
             subst hr
             exact wp_ret (ZP (ZK hE rfl (Zx hE rfl) ⟨_,rfl,rfl,hM.kept⟩))
           ·intro hb128
            have hF121:=ZA hF121 hb128
            refine wp_skip (ZG (wp_seq (Zd (Ze hE Za ld rfl fun a hE=>Zf ?_))))
            obtain ⟨j135,hl136,hF137⟩:=bind_some hF121
            refine Z0 (fun a w=>∃ s138 : Int,j135 = Fl.nx s138 ∧ Env 265 a [(28,(ptr b111 0)),(29,(ptr b113 0)),(30,vI s138),(32,vI r115.2.1)] ∧ M (Old w0) w0 w [raw b113 (enc r109.2.1),raw b111 (cat [[vI r109.1.Field],enc r109.1.Box,enc r109.1.Mix,enc r109.1.Places,[vI r109.1.Rounds]])]) ?_ ?_
            ·skip
             refine wp_block ?_
             refine ZV (fun (s139 : Int × Int) a w=>Env 265 a [(28,(ptr b111 0)),(29,(ptr b113 0)),(30,vI s139.1),(31,vI r115.1),(32,vI r115.2.1),(37,vI s139.2)] ∧ M (Old w0) w0 w [raw b113 (enc r109.2.1),raw b111 (cat [[vI r109.1.Field],enc r109.1.Box,enc r109.1.Mix,enc r109.1.Places,[vI r109.1.Rounds]])]) hl136 ⟨hE.sub ⟨rfl,rfl,rfl,rfl,rfl,rfl,trivial⟩,hM⟩ ?_
             rintro s139 a w ⟨hE,hM⟩ o142 hs140 hx141
             unfold XW at hs140
             refine wp_seq (Zd (Zc hE Za ld rfl fun a hE=>Zc hE Za ld rfl fun a hE=>Zm hE Za ld rfl rfl rfl fun a hE=>Zf ?_))
             refine Zv hE rfl ?_ ?_
             ·intro hb143
              have hs140:=ZB hs140 hb143
              refine wp_skip (ZG (wp_seq (wp_block (Zd (Zj (cs:=enc r109.1) hE Za ld rfl Z8 rfl (hM.rawAt (pre:=[_])) (Zl (cl1 (n:=1) (m:=289) rfl (cl1 (n:=256) (m:=33) (Flat.len _) (cl1 (n:=16) (m:=17) (Flat.len _) (cl1 (n:=16) (m:=1) (Flat.len _) (cl1 (n:=1) (m:=0) rfl cl0)))))) fun a hE=>Zj (cs:=enc r109.2.1) hE Za ld rfl Zw rfl (hM.rawAt (pre:=[])) (Flat.len _) fun a hE=>Zc hE Za ld rfl ?_))))); intro a hE
              obtain ⟨r144,e145,hs140⟩:=bind_some hs140
              refine Zo hE Za ld rfl cb34 (TD _ r109.1 r109.2.1 s139.1 r144 e145) ?_
              rintro v w a ⟨rfl,hK⟩ hE
              have hM:=hM.keep hK
              refine Zc hE Za ld rfl fun a hE=>Zy hE Za ld rfl rfl fun a hE=>Zy hE Za ld rfl rfl fun a hE=>Ze hE Za ld rfl fun a hE=>Ze hE Za ld rfl fun a hE=>Zf (wp_seq (Zd (Zc hE Za ld rfl fun a hE=>Zm hE Za ld rfl rfl rfl fun a hE=>Zf ?_)))
              refine Zv hE rfl ?_ ?_
              ·intro hb146
               have hs140:=ZB hs140 hb146
               refine Zd (Ze hE Za ld rfl fun a hE=>Zf ?_)
               have ht147:=hx141 _ (ois hs140)
               subst ht147
               have hr:=Option.some.inj hF137
               subst hr
               have hM:=M.fst (l:=[]) hM
               exact wp_ret (ZP (Y4 (ZP (ZP (Y4 (ZP (ZP (ZK hE rfl (Zx hE rfl) ⟨_,rfl,rfl,hM.kept⟩))))))))
              ·intro hb146
               have hs140:=ZA hs140 hb146
               refine wp_skip (ZG (wp_region_lit (Zc hE Za ld rfl fun a hE=>Ze hE Za ld rfl fun a hE=>Zk (Yj (ZG (wp_region_lit (Zc hE Za ld rfl fun a hE=>Zm hE Za ld rfl rfl rfl fun a hE=>Ze hE Za ld rfl fun a hE=>Zk (Zn ?_))))))))
               exact ⟨_,(ois hs140),hE.sub ⟨rfl,rfl,rfl,rfl,rfl,rfl,trivial⟩,hM⟩
             ·intro hb143
              have hs140:=ZA hs140 hb143
              refine wp_exit (Zs (Zs (Yz ?_)))
              have ht148:=hx141 _ (ois hs140)
              subst ht148
              refine Zn ?_
              exact ⟨s139.1,rfl,hE.sub ⟨rfl,rfl,rfl,rfl,trivial⟩,hM⟩
            ·skip
             rintro a w ⟨s138,ht,hE,hM⟩
             subst ht
             have hF137:=Qp hF137
             refine ZG (Zd (Zc hE Za ld rfl fun a hE=>Ze hE Za ld rfl fun a hE=>Zf (wp_seq (Zd (Ze hE Za ld rfl fun a hE=>Zf ?_)))))
             obtain ⟨j149,hl150,hF151⟩:=bind_some hF137
             refine Z0 (fun a w=>∃ s152 : Int,j149 = Fl.nx s152 ∧ Env 265 a [(30,vI s138),(32,vI r115.2.1),(40,vI s152)] ∧ M (Old w0) w0 w []) ?_ ?_
             ·skip
              refine wp_block ?_
              refine ZV (fun (s153 : Int × Int) a w=>Env 265 a [(28,(ptr b111 0)),(29,(ptr b113 0)),(30,vI s138),(32,vI r115.2.1),(40,vI s153.1),(41,vI s153.2)] ∧ M (Old w0) w0 w [raw b113 (enc r109.2.1),raw b111 (cat [[vI r109.1.Field],enc r109.1.Box,enc r109.1.Mix,enc r109.1.Places,[vI r109.1.Rounds]])]) hl150 ⟨hE.sub ⟨rfl,rfl,rfl,rfl,rfl,rfl,trivial⟩,hM⟩ ?_
              rintro s153 a w ⟨hE,hM⟩ o156 hs154 hx155
              unfold XH at hs154
              refine wp_seq (Zd (Zc hE Za ld rfl fun a hE=>Zc hE Za ld rfl fun a hE=>Zm hE Za ld rfl rfl rfl fun a hE=>Zf ?_))
              refine Zv hE rfl ?_ ?_
              ·intro hb157
               have hs154:=ZB hs154 hb157
               refine wp_skip (ZG (wp_seq (wp_block (Zd (Zj (cs:=enc r109.1) hE Za ld rfl Z8 rfl (hM.rawAt (pre:=[_])) (Zl (cl1 (n:=1) (m:=289) rfl (cl1 (n:=256) (m:=33) (Flat.len _) (cl1 (n:=16) (m:=17) (Flat.len _) (cl1 (n:=16) (m:=1) (Flat.len _) (cl1 (n:=1) (m:=0) rfl cl0)))))) fun a hE=>Zj (cs:=enc r109.2.1) hE Za ld rfl Zw rfl (hM.rawAt (pre:=[])) (Flat.len _) fun a hE=>Zc hE Za ld rfl ?_))))); intro a hE
               obtain ⟨r158,e159,hs154⟩:=bind_some hs154
               refine Zo hE Za ld rfl cb34 (TD _ r109.1 r109.2.1 s153.1 r158 e159) ?_
               rintro v w a ⟨rfl,hK⟩ hE
               have hM:=hM.keep hK
               refine Zc hE Za ld rfl fun a hE=>Zy hE Za ld rfl rfl fun a hE=>Zy hE Za ld rfl rfl fun a hE=>Ze hE Za ld rfl fun a hE=>Ze hE Za ld rfl fun a hE=>Zf (wp_seq ?_)
               obtain ⟨j160,hl161,hF162⟩:=bind_some hs154
               refine ZT (fun a w=>Env 265 a [(28,(ptr b111 0)),(29,(ptr b113 0)),(30,vI s138),(32,vI r115.2.1),(41,vI s153.2),(42,vI r158.1),(256,vT j160)] ∧ M (Old w0) w0 w [raw b113 (enc r109.2.1),raw b111 (cat [[vI r109.1.Field],enc r109.1.Box,enc r109.1.Mix,enc r109.1.Places,[vI r109.1.Rounds]])]) ?_ ?_
               ·skip
                refine wp_region_lit (Zc hE Za ld rfl fun a hE=>Zm hE Za ld rfl rfl rfl fun a hE=>Zc hE Za ld rfl ?_); intro a hE
                refine Xy (r158.2 != 0) (fun hb163=>?_) (fun hb163=>?_)
                ·have hl161:=ZB hl161 hb163
                 refine Zz hE rfl (lkb rfl hb163) rfl (by decide) fun a hE=>Zz hE rfl (lkb rfl hb163) rfl (by decide) fun a hE=>Zz hE rfl (lkb rfl hb163) rfl (by decide) fun a hE=>Zz hE rfl (lkb rfl hb163) rfl (by decide) fun a hE=>Zz hE rfl (lkb rfl hb163) rfl (by decide) fun a hE=>Af hE rfl rfl (by decide) fun a hE=>Af hE rfl rfl (by decide) fun a hE=>Af hE rfl rfl (by decide) fun a hE=>Zz hE rfl (lkb rfl hb163) rfl (by decide) fun a hE=>Yy hE Za ld (lkb rfl hb163) rfl fun a hE=>Zk ?_
                 have ht164:=Option.some.inj hl161
                 subst ht164
                 refine Zn ?_
                 exact ⟨hE.sub ⟨rfl,rfl,rfl,rfl,rfl,rfl,rfl,trivial⟩,hM⟩
                ·have hl161:=ZA hl161 hb163
                 refine Zc hE (Zt hE rfl (lkb rfl hb163)) (by decide) rfl fun a hE=>Zm hE (Zt hE rfl (lkb rfl hb163)) (by decide) rfl rfl rfl fun a hE=>Zc hE (Zt hE rfl (lkb rfl hb163)) (by decide) rfl fun a hE=>Zm hE (Zt hE rfl (lkb rfl hb163)) (by decide) rfl rfl rfl fun a hE=>Zc hE (Zt hE rfl (lkb rfl hb163)) (by decide) rfl ?_; intro a hE
                 refine Xy (decide ((wr (s153.2 + 1)) < r115.2.1)) (fun hb165=>?_) (fun hb165=>?_)
                 ·have hl161:=ZB hl161 hb165
                  refine Zc hE (Zt hE rfl (lkb rfl hb165)) (by decide) rfl fun a hE=>Zc hE (Zt hE rfl (lkb rfl hb165)) (by decide) rfl fun a hE=>Zm hE (Zt hE rfl (lkb rfl hb165)) (by decide) rfl rfl rfl fun a hE=>Yy hE (Zt hE rfl (lkb rfl hb163)) (by decide) (lkb rfl hb165) rfl fun a hE=>Yh hE Za ld (lkb rfl hb163) rfl fun a hE=>Zk ?_
                  have ht166:=Option.some.inj hl161
                  subst ht166
                  refine Zn ?_
                  exact ⟨hE.sub ⟨rfl,rfl,rfl,rfl,rfl,rfl,rfl,trivial⟩,hM⟩
                 ·have hl161:=ZA hl161 hb165
                  refine Zz hE rfl (lkb rfl hb165) rfl (by decide) fun a hE=>Zz hE rfl (lkb rfl hb165) rfl (by decide) fun a hE=>Zz hE rfl (lkb rfl hb165) rfl (by decide) fun a hE=>Yh hE (Zt hE rfl (lkb rfl hb163)) (by decide) (lkb rfl hb165) rfl fun a hE=>Yh hE Za ld (lkb rfl hb163) rfl fun a hE=>Zk ?_
                  have ht167:=Option.some.inj hl161
                  subst ht167
                  refine Zn ?_
                  exact ⟨hE.sub ⟨rfl,rfl,rfl,rfl,rfl,rfl,rfl,trivial⟩,hM⟩
               ·skip
                rintro a w ⟨hE,hM⟩
                refine Zv hE rfl ?_ ?_
                ·intro hb168
                 have hF162:=ZB hF162 hb168
                 refine Zd (Ze hE Za ld rfl fun a hE=>Zf ?_)
                 have ht169:=hx155 _ (ois hF162)
                 subst ht169
                 have hr:=Option.some.inj hF151
                 subst hr
                 have hM:=M.fst (l:=[]) hM
                 exact wp_ret (ZP (Y4 (ZP (ZP (Y4 (ZP (ZP (ZK hE rfl (Zx hE rfl) ⟨_,rfl,rfl,hM.kept⟩))))))))
                ·intro hb168
                 have hF162:=ZA hF162 hb168
                 refine wp_skip (ZG (wp_region_lit (Zc hE Za ld rfl fun a hE=>Ze hE Za ld rfl fun a hE=>Zk (Yj (ZG (wp_region_lit (Zc hE Za ld rfl fun a hE=>Zm hE Za ld rfl rfl rfl fun a hE=>Ze hE Za ld rfl fun a hE=>Zk (Zn ?_))))))))
                 exact ⟨_,(ois hF162),hE.sub ⟨rfl,rfl,rfl,rfl,rfl,rfl,trivial⟩,hM⟩
              ·intro hb157
               have hs154:=ZA hs154 hb157
               refine wp_exit (Zs (Zs (Yz ?_)))
               have ht170:=hx155 _ (ois hs154)
               subst ht170
               refine Zn ?_
               have hM:=M.fst (l:=[]) hM
               exact ⟨s153.1,rfl,hE.sub ⟨rfl,rfl,rfl,trivial⟩,hM⟩
             ·skip
              rintro a w ⟨s152,ht,hE,hM⟩
              subst ht
              have hF151:=Qp hF151
              refine ZG ?_
              obtain ⟨j171,hl172,hF173⟩:=bind_some hF151
              refine ZT (fun a w=>Env 265 a [(2,vT j171)] ∧ M (Old w0) w0 w []) ?_ ?_
              ·skip
               refine wp_region_lit (Zc hE Za ld rfl fun a hE=>Zc hE Za ld rfl fun a hE=>Zm hE Za ld rfl rfl rfl fun a hE=>Zc hE Za ld rfl ?_); intro a hE
               refine Xy (s152 == s138) (fun hb174=>?_) (fun hb174=>?_)
               ·have hl172:=ZB hl172 hb174
                refine Zc hE (Zt hE rfl (lkb rfl hb174)) (by decide) rfl fun a hE=>Zm hE (Zt hE rfl (lkb rfl hb174)) (by decide) rfl rfl rfl fun a hE=>Yy hE Za ld (lkb rfl hb174) rfl fun a hE=>Ze hE Za ld rfl fun a hE=>Zk ?_
                have ht175:=Option.some.inj hl172
                subst ht175
                refine Zn ?_
                exact ⟨hE.sub ⟨rfl,trivial⟩,hM⟩
               ·have hl172:=ZA hl172 hb174
                refine Zz hE rfl (lkb rfl hb174) rfl (by decide) fun a hE=>Zz hE rfl (lkb rfl hb174) rfl (by decide) fun a hE=>Yh hE Za ld (lkb rfl hb174) rfl fun a hE=>Ze hE Za ld rfl fun a hE=>Zk ?_
                have ht176:=Option.some.inj hl172
                subst ht176
                refine Zn ?_
                exact ⟨hE.sub ⟨rfl,trivial⟩,hM⟩
              ·skip
               rintro a w ⟨hE,hM⟩
               have hr:=Option.some.inj hF173
               subst hr
               exact wp_ret (ZK hE rfl (Zx hE rfl) ⟨_,rfl,rfl,hM.kept⟩)
end

end Go.Proofs.Ytkajmkegelcfjaa
