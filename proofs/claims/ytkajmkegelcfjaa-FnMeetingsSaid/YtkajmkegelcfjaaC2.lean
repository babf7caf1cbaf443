/- The walk of what the law reaches: contracts of functions. -/
import Derived.Test.YtkajmkegelcfjaaC1
set_option linter.unusedVariables false
set_option linter.unusedSimpArgs false
set_option maxRecDepth 20000
set_option maxHeartbeats 400000
namespace Go.Proofs.Ytkajmkegelcfjaa
open Go
open Flat (enc)
noncomputable section
theorem TI (St : Nat → Prop) (W w0 : World) (R : Item) (pb0 : Nat) (p0_0 : (List UInt8)) (v0_0 : Value) (hv0_0 : Rep.sat St W p0_0 [v0_0] []) (p0 : (Int × Int)) (hM : M St W w0 [raw pb0 (cat [[v0_0],[vI p0.1],[(Value.int .u64 p0.2)]]),R]) (r : (Int × Int) × (Vector UInt8 16)) (hF : Xo p0_0 p0 = some r) :
  Calls Try.prog 183 [(ptr pb0 0)].toArray w0 (fun en w'=>∃ v,en = .returned v ∧ (v = (Value.agg (enc r.2).toArray) ∧ M St W w' [raw pb0 (cat [[v0_0],[vI r.1.1],[(Value.int .u64 r.1.2)]]),R])):=by
 refine ZJ (n:=25) Try.func183 rfl rfl (nbl rfl) rfl ?_
 intro a hE
 unfold Xo at hF
 refine Zd (Zu hE hM Za ld Zw fun b1 w a hM hE=>Zf (Zd (Z7 (parts:=[]) (vs:=[]) (cs:=enc (Vector.replicate 16 (0 : UInt8))) hE Za ld rfl rfl Zw rfl ty5 ZZ fun a hE=>Zu hE hM Za ld Zw fun b3 w a hM hE=>Zi (seg:=enc (Vector.replicate 16 (0 : UInt8))) (cs':=enc (Vector.replicate 16 (0 : UInt8))) hE hM Za rfl rfl rfl Zw (Flat.len _) (zle flq) (Flat.cell _) (Zg flq) fun w a hM hE=>Zf (wp_seq (Zd (Zc hE Za ld rfl ?_)))))); intro a hE
 have hM:=M.tailP (m:=[_]) (hM.pull (pre:=[_,_]))
 obtain ⟨r5,e6,hF⟩:=bind_some hF
 refine Zo hE Za ld rfl VD (ZH _ _ _ _ pb0 p0_0 v0_0 hv0_0 (p0.1,p0.2) 5 hM r5 e6) ?_
 rintro v w a ⟨rfl,hM⟩ hE
 have hM:=M.tailU (m:=[_]) hM
 simp only [List.cons_append,List.nil_append] at hM
 refine Zm hE Za ld rfl rfl rfl fun a hE=>Zf ?_
 refine Zv hE rfl ?_ ?_
 ·intro hb7
  have hF:=ZB hF hb7
  refine Zd (Zc hE Za ld rfl ?_); intro a hE
  have hM:=M.tailP (m:=[_]) hM
  obtain ⟨r8,e9,hF⟩:=bind_some hF
  refine Zo hE Za ld rfl VD (ZH _ _ _ _ pb0 p0_0 v0_0 hv0_0 (r5.1.1,r5.1.2) 16 hM r8 e9) ?_
  rintro v w a ⟨rfl,hM⟩ hE
  have hM:=M.tailU (m:=[_]) hM
  simp only [List.cons_append,List.nil_append] at hM
  refine Zc hE Za ld rfl ?_; intro a hE
  have hM:=M.tailP (m:=[_]) hM
  obtain ⟨r10,e11,hF⟩:=bind_some hF
  refine Zo hE Za ld rfl cb84 (K4 _ _ _ _ pb0 p0_0 v0_0 hv0_0 (r8.1.1,r8.1.2) hM r10 e11) ?_
  rintro v w a ⟨rfl,hM⟩ hE
  have hM:=M.tailU (m:=[_]) hM
  simp only [List.cons_append,List.nil_append] at hM
  obtain ⟨x13,hi12,hF⟩:=bvx hF
  refine Zh hE Za ld rfl rfl Try.underlying62 ty5 hi12.1 ?_; intro a hE
  have hM:=hM.pull (pre:=[_])
  refine Zi (seg:=[vB r10.2]) (cs':=enc ((Vector.replicate 16 (0 : UInt8)).setIfInBounds (r8.2).toNat r10.2)) hE hM Za rfl rfl rfl ty5 rfl (ZN (v:=(Vector.replicate 16 (0 : UInt8))) (x:=r10.2) hi12.1) (Flat.cell (r10.2 : UInt8)) (ZD (v:=(Vector.replicate 16 (0 : UInt8))) (x:=r10.2) hi12.1) fun w a hM hE=>Zf (Zd (Zj (cs:=enc ((Vector.replicate 16 (0 : UInt8)).setIfInBounds (r8.2).toNat r10.2)) hE Za ld rfl Zw rfl (hM.rawAt (pre:=[])) (Flat.len _) ?_)); intro a hE
  have hM:=hM.pull (pre:=[_,_])
  refine Zi (seg:=enc ((Vector.replicate 16 (0 : UInt8)).setIfInBounds (r8.2).toNat r10.2)) (cs':=enc ((Vector.replicate 16 (0 : UInt8)).setIfInBounds (r8.2).toNat r10.2)) hE hM Za rfl rfl rfl Zw (Flat.len _) (zle flq) (Flat.cell _) (Zg flq) fun w a hM hE=>Zf ?_
  have hr:=Option.some.inj hF
  subst hr
  have hq15 : ZY Try.prog _ _ (.cell 2 62) _:=ZM hE rfl Zw rfl (hM.rawAt (pre:=[])) (Flat.len _) rfl
  have hM:=(((((hM.pull (pre:=[_,_,_])).pull (pre:=[_,_,_])).pull (pre:=[_,_,_])).drop).pull (pre:=[_,_])).drop
  exact wp_ret (ZP (ZK hE rfl hq15 ⟨_,rfl,rfl,hM⟩))
 ·intro hb7
  have hF:=ZA hF hb7
  refine wp_skip (ZG (wp_seq (Zd (Ze hE Za ld rfl fun a hE=>Zf ?_))))
  obtain ⟨j16,hl17,hF18⟩:=bind_some hF
  refine Z0 (fun a w=>Env 25 a [(2,(ptr b1 0)),(3,(ptr b3 0))] ∧ M St W w [raw pb0 (cat [[v0_0],[vI j16.2.1],[(Value.int .u64 j16.2.2)]]),raw b3 (enc j16.1),raw b1 (enc (Vector.replicate 16 (0 : UInt8))),R]) ?_ ?_
  ·skip
   refine wp_block ?_
   refine ZV (fun (s19 : (Vector UInt8 16) × Int × Int × Int) a w=>Env 25 a [(0,(ptr pb0 0)),(2,(ptr b1 0)),(3,(ptr b3 0)),(4,vI s19.2.2.2)] ∧ M St W w [raw pb0 (cat [[v0_0],[vI s19.2.1],[(Value.int .u64 s19.2.2.1)]]),raw b3 (enc s19.1),raw b1 (enc (Vector.replicate 16 (0 : UInt8))),R]) hl17 ⟨hE.sub ⟨rfl,rfl,rfl,rfl,trivial⟩,hM⟩ ?_
   rintro s19 a w ⟨hE,hM⟩ o22 hs20 hx21
   unfold Vb at hs20
   refine wp_seq (Zd (Zc hE Za ld rfl fun a hE=>Zm hE Za ld rfl rfl rfl fun a hE=>Zf ?_))
   refine Zv hE rfl ?_ ?_
   ·intro hb23
    have hs20:=ZB hs20 hb23
    refine wp_skip (ZG (wp_seq (wp_block (wp_region_lit (Zc hE Za ld rfl fun a hE=>Zc hE Za ld rfl ?_))))); intro a hE
    have hM:=M.tailP (m:=[_]) hM
    obtain ⟨r24,e25,hs20⟩:=bind_some hs20
    refine Zo hE Za ld rfl VD (ZH _ _ _ _ pb0 p0_0 v0_0 hv0_0 (s19.2.1,s19.2.2.1) 256 hM r24 e25) ?_
    rintro v w a ⟨rfl,hM⟩ hE
    have hM:=M.tailU (m:=[_]) hM
    simp only [List.cons_append,List.nil_append] at hM
    refine Yg hE Za ld rfl Try.underlying2 Try.underlying5 ?_; intro a hE
    rw [Z6] at hE
    obtain ⟨x27,hi26,hs20⟩:=bvx hs20
    refine Zh hE Za ld rfl rfl Try.underlying62 ty5 hi26.1 ?_; intro a hE
    have hM:=hM.pull (pre:=[_])
    refine Zi (seg:=[(vB (ZE r24.2))]) (cs':=enc (s19.1.setIfInBounds (s19.2.2.2).toNat (ZE r24.2))) hE hM Za rfl rfl rfl ty5 rfl (ZN (v:=s19.1) (x:=ZE r24.2) hi26.1) (Flat.cell (ZE r24.2 : UInt8)) (ZD (v:=s19.1) (x:=ZE r24.2) hi26.1) fun w a hM hE=>Zk (Yj (ZG (wp_region_lit (Zc hE Za ld rfl fun a hE=>Zm hE Za ld rfl rfl rfl fun a hE=>Ze hE Za ld rfl fun a hE=>Zk (Zn ?_)))))
    have hM:=(((hM.pull (pre:=[_,_,_])).pull (pre:=[_,_,_])).pull (pre:=[_,_])).pull (pre:=[_,_,_])
    exact ⟨_,(ois hs20),hE.sub ⟨rfl,rfl,rfl,rfl,trivial⟩,hM⟩
   ·intro hb23
    have hs20:=ZA hs20 hb23
    refine wp_exit (Zs (Zs (Yz ?_)))
    have ht29:=hx21 _ (ois hs20)
    subst ht29
    refine Zn ?_
    exact ⟨hE.sub ⟨rfl,rfl,trivial⟩,hM⟩
  ·skip
   rintro a w ⟨hE,hM⟩
   refine ZG (Zd (Zj (cs:=enc j16.1) hE Za ld rfl Zw rfl (hM.rawAt (pre:=[_])) (Flat.len _) ?_)); intro a hE
   have hM:=hM.pull (pre:=[_,_])
   refine Zi (seg:=enc j16.1) (cs':=enc j16.1) hE hM Za rfl rfl rfl Zw (Flat.len _) (zle flq) (Flat.cell _) (Zg flq) fun w a hM hE=>Zf ?_
   have hr:=Option.some.inj hF18
   subst hr
   have hq30 : ZY Try.prog _ _ (.cell 2 62) _:=ZM hE rfl Zw rfl (hM.rawAt (pre:=[])) (Flat.len _) rfl
   have hM:=(((((hM.pull (pre:=[_,_,_])).pull (pre:=[_,_])).pull (pre:=[_,_,_])).drop).pull (pre:=[_,_])).drop
   exact wp_ret (ZK hE rfl hq30 ⟨_,rfl,rfl,hM⟩)
def VR (p0 : (List UInt8)) : Option (GCipher × (Vector UInt8 16) × (Vector UInt8 16)) :=
 (Xk p0).bind fun r7=>(VP p0 (r7.1,r7.2)).bind fun r11=>(Xo p0 (r11.1.1,r11.1.2)).bind fun r13=>(Xo p0 (r13.1.1,r13.1.2)).bind fun r15=>some (r11.2,r13.2,r15.2)
theorem Hw (w0 : World) (p0 : (List UInt8)) (v0_1 : Value) (hv0_1 : Ro w0 p0 [v0_1]) (r : GCipher × (Vector UInt8 16) × (Vector UInt8 16)) (hF : VR p0 = some r) :
  Calls Try.prog 140 [v0_1].toArray w0 (fun en w'=>∃ v,en = .returned v ∧ (v = (Value.tuple [(Value.agg (enc r.1).toArray),(Value.agg (enc r.2.1).toArray),(Value.agg (enc r.2.2).toArray)].toArray) ∧ Kept (Old w0) w0 w')):=by
 refine ZJ (n:=14) Try.func140 rfl rfl (nbl rfl) rfl ?_
 intro a hE
 have hM:=M.start w0
 unfold VR at hF
 refine Zd (Zu hE hM Za ld Z8 fun b1 w a hM hE=>Zu hE hM Za ld Zw fun b3 w a hM hE=>Zu hE hM Za ld Zw fun b5 w a hM hE=>Zf (Zd (Zc hE Za ld rfl ?_))); intro a hE
 have hM:=M.tailP (m:=[]) hM
 obtain ⟨r7,e8,hF⟩:=bind_some hF
 refine Zo hE Za ld rfl cb47 (V9 _ _ _ _ p0 v0_1 hv0_1 hM r7 e8) ?_
 rintro v w a ⟨b9,rfl,hM⟩ hE
 have hM:=M.tailU (m:=[_]) hM
 simp only [List.cons_append,List.nil_append] at hM
 refine Ze hE Za ld rfl fun a hE=>Zf (Zd (Zc hE Za ld rfl ?_)); intro a hE
 have hM:=M.tailP (m:=[_]) hM
 obtain ⟨r11,e12,hF⟩:=bind_some hF
 refine Zo hE Za ld rfl cb182 (Ht _ _ _ _ b9 p0 v0_1 hv0_1 (r7.1,r7.2) hM r11 e12) ?_
 rintro v w a ⟨rfl,hM⟩ hE
 have hM:=M.tailU (m:=[_]) hM
 simp only [List.cons_append,List.nil_append] at hM
 refine Zc hE Za ld rfl ?_; intro a hE
 have hM:=M.tailP (m:=[_]) hM
 obtain ⟨r13,e14,hF⟩:=bind_some hF
 refine Zo hE Za ld rfl cb183 (TI _ _ _ _ b9 p0 v0_1 hv0_1 (r11.1.1,r11.1.2) hM r13 e14) ?_
 rintro v w a ⟨rfl,hM⟩ hE
 have hM:=M.tailU (m:=[_]) hM
 simp only [List.cons_append,List.nil_append] at hM
 refine Zc hE Za ld rfl ?_; intro a hE
 have hM:=M.tailP (m:=[_]) hM
 obtain ⟨r15,e16,hF⟩:=bind_some hF
 refine Zo hE Za ld rfl cb183 (TI _ _ _ _ b9 p0 v0_1 hv0_1 (r13.1.1,r13.1.2) hM r15 e16) ?_
 rintro v w a ⟨rfl,hM⟩ hE
 have hM:=M.tailU (m:=[_]) hM
 simp only [List.cons_append,List.nil_append] at hM
 have hM:=hM.pull (pre:=[_,_,_])
 refine Zi (seg:=cat [[vI r11.2.Field],enc r11.2.Box,enc r11.2.Mix,enc r11.2.Places,[vI r11.2.Rounds]]) (cs':=cat [[vI r11.2.Field],enc r11.2.Box,enc r11.2.Mix,enc r11.2.Places,[vI r11.2.Rounds]]) hE hM Za rfl rfl rfl Z8 (Zl (cl1 (n:=1) (m:=289) rfl (cl1 (n:=256) (m:=33) (Flat.len _) (cl1 (n:=16) (m:=17) (Flat.len _) (cl1 (n:=16) (m:=1) (Flat.len _) (cl1 (n:=1) (m:=0) rfl cl0)))))) (Nat.le_of_eq ((Nat.zero_add _).trans (Eq.trans (Zl (cl1 (n:=1) (m:=289) rfl (cl1 (n:=256) (m:=33) (Flat.len _) (cl1 (n:=16) (m:=17) (Flat.len _) (cl1 (n:=16) (m:=1) (Flat.len _) (cl1 (n:=1) (m:=0) rfl cl0)))))) (Eq.symm (Zl (cl1 (n:=1) (m:=289) rfl (cl1 (n:=256) (m:=33) (Flat.len _) (cl1 (n:=16) (m:=17) (Flat.len _) (cl1 (n:=16) (m:=1) (Flat.len _) (cl1 (n:=1) (m:=0) rfl cl0)))))))))) (Yq (cc1 (Flat.cell (r11.2.Field : Int)) (cc1 (Flat.cell _) (cc1 (Flat.cell _) (cc1 (Flat.cell _) (cc1 (Flat.cell (r11.2.Rounds : Int)) cc0)))))) (Zg (Eq.trans (Zl (cl1 (n:=1) (m:=289) rfl (cl1 (n:=256) (m:=33) (Flat.len _) (cl1 (n:=16) (m:=17) (Flat.len _) (cl1 (n:=16) (m:=1) (Flat.len _) (cl1 (n:=1) (m:=0) rfl cl0)))))) (Eq.symm (Zl (cl1 (n:=1) (m:=289) rfl (cl1 (n:=256) (m:=33) (Flat.len _) (cl1 (n:=16) (m:=17) (Flat.len _) (cl1 (n:=16) (m:=1) (Flat.len _) (cl1 (n:=1) (m:=0) rfl cl0))))))))) ?_; intro w a hM hE
 have hM:=hM.pull (pre:=[_,_,_])
 refine Zi (seg:=enc r13.2) (cs':=enc r13.2) hE hM Za rfl rfl rfl Zw (Flat.len _) (zle flq) (Flat.cell _) (Zg flq) ?_; intro w a hM hE
 have hM:=hM.pull (pre:=[_,_,_])
 refine Zi (seg:=enc r15.2) (cs':=enc r15.2) hE hM Za rfl rfl rfl Zw (Flat.len _) (zle flq) (Flat.cell _) (Zg flq) fun w a hM hE=>Zf ?_
 have hr:=Option.some.inj hF
 subst hr
 have hq17 : ZY Try.prog _ _ (.cell 2 61) _:=ZM hE rfl Z8 rfl (hM.rawAt (pre:=[_,_])) (Zl (cl1 (n:=1) (m:=289) rfl (cl1 (n:=256) (m:=33) (Flat.len _) (cl1 (n:=16) (m:=17) (Flat.len _) (cl1 (n:=16) (m:=1) (Flat.len _) (cl1 (n:=1) (m:=0) rfl cl0)))))) rfl
 have hq18 : ZY Try.prog _ _ (.cell 3 62) _:=ZM hE rfl Zw rfl (hM.rawAt (pre:=[_])) (Flat.len _) rfl
 have hq19 : ZY Try.prog _ _ (.cell 4 62) _:=ZM hE rfl Zw rfl (hM.rawAt (pre:=[])) (Flat.len _) rfl
 have hM:=M.fst (l:=[]) hM
 exact wp_ret (QH hE rfl hq17 hq18 hq19 ⟨_,rfl,rfl,hM.kept⟩)
def WJ (p0 : (List UInt8)) : Option (GCipher × (Vector UInt8 16) × (Vector UInt8 16) × Int × Int) :=
 (Xk p0).bind fun r7=>(VR p0).bind fun r11=>((ZC p0 (r7.1,r7.2) 2).bind fun r22=>if (r22.2 == 0) = true then ((ZC p0 (r22.1.1,r22.1.2) 5).bind fun r25=>(WW (wr (1 + r25.2))).bind fun r27=>some (r25.1.1,r25.1.2,r27.Field,r27.Box,r27.Mix,r27.Places,r27.Rounds)) else (some (r22.1.1,r22.1.2,r11.1.Field,r11.1.Box,r11.1.Mix,r11.1.Places,r11.1.Rounds)) : Option (Int × Int × Int × (Vector UInt8 256) × (Vector (Vector UInt8 4) 4) × (Vector UInt8 16) × Int)).bind fun j19=>((if (decide (j19.2.2.2.2.2.2 > 5)) = true then (some (decide (j19.2.2.2.2.2.2 ≤ 20))) else (some false) : Option (Bool)).bind fun j34=>if j34 = true then (some 5) else (some j19.2.2.2.2.2.2) : Option (Int)).bind fun j31=>((ZC p0 (j19.1,j19.2.1) 16).bind fun r47=>(ZC p0 (r47.1.1,r47.1.2) 30).bind fun r49=>(ZC p0 (r49.1.1,r49.1.2) (if (wr (j31 + 1)) > 1 then (wr (j31 + 1)) else 1)).bind fun r51=>(ZC p0 (r51.1.1,r51.1.2) 30).bind fun r53=>some ((⟨j19.2.2.1,j19.2.2.2.1,j19.2.2.2.2.1,j19.2.2.2.2.2.1,j31⟩ : GCipher).Field,(⟨j19.2.2.1,j19.2.2.2.1,j19.2.2.2.2.1,j19.2.2.2.2.2.1,j31⟩ : GCipher).Box,(⟨j19.2.2.1,j19.2.2.2.1,j19.2.2.2.2.1,j19.2.2.2.2.2.1,j31⟩ : GCipher).Mix,(⟨j19.2.2.1,j19.2.2.2.1,j19.2.2.2.2.1,j19.2.2.2.2.2.1,j31⟩ : GCipher).Places,(⟨j19.2.2.1,j19.2.2.2.1,j19.2.2.2.2.1,j19.2.2.2.2.2.1,j31⟩ : GCipher).Rounds,r11.2.1,r11.2.2,wr (r47.2 - (wr (Int.tdiv r49.2 29))),wr (r51.2 - (wr (Int.tdiv r53.2 29)))) : Option (Int × (Vector UInt8 256) × (Vector (Vector UInt8 4) 4) × (Vector UInt8 16) × Int × (Vector UInt8 16) × (Vector UInt8 16) × Int × Int)).bind fun j43=>some ((⟨j43.1,j43.2.1,j43.2.2.1,j43.2.2.2.1,j43.2.2.2.2.1⟩ : GCipher),j43.2.2.2.2.2.1,j43.2.2.2.2.2.2.1,j43.2.2.2.2.2.2.2.1,j43.2.2.2.2.2.2.2.2)
theorem TY (w0 : World) (p0 : (List UInt8)) (v0_1 : Value) (hv0_1 : Ro w0 p0 [v0_1]) (r : GCipher × (Vector UInt8 16) × (Vector UInt8 16) × Int × Int) (hF : WJ p0 = some r) :
  Calls Try.prog 85 [v0_1].toArray w0 (fun en w'=>∃ v,en = .returned v ∧ (v = (Value.tuple [(Value.agg (enc r.1).toArray),(Value.agg (enc r.2.1).toArray),(Value.agg (enc r.2.2.1).toArray),vI r.2.2.2.1,vI r.2.2.2.2].toArray) ∧ Kept (Old w0) w0 w')):=by
 refine ZJ (n:=54) Try.func85 rfl rfl (nbl rfl) rfl ?_
 intro a hE
 have hM:=M.start w0
 unfold WJ at hF
 refine Zd (Zu hE hM Za ld Z8 fun b1 w a hM hE=>Zu hE hM Za ld Zw fun b3 w a hM hE=>Zu hE hM Za ld Zw fun b5 w a hM hE=>Ze hE Za ld rfl fun a hE=>Ze hE Za ld rfl fun a hE=>Zf (Zd (Zc hE Za ld rfl ?_))); intro a hE
 have hM:=M.tailP (m:=[]) hM
 obtain ⟨r7,e8,hF⟩:=bind_some hF
 refine Zo hE Za ld rfl cb47 (V9 _ _ _ _ p0 v0_1 hv0_1 hM r7 e8) ?_
 rintro v w a ⟨b9,rfl,hM⟩ hE
 have hM:=M.tailU (m:=[_]) hM
 simp only [List.cons_append,List.nil_append] at hM
 refine Ze hE Za ld rfl fun a hE=>Zf (Zd (Zc hE Za ld rfl ?_)); intro a hE
 obtain ⟨r11,e12,hF⟩:=bind_some hF
 refine Zo hE Za ld rfl cb140 (Hw _ p0 v0_1 (hM.rdo hv0_1) r11 e12) ?_
 rintro v w a ⟨rfl,hK⟩ hE
 have hM:=hM.keep hK
 refine Zc hE Za ld rfl fun a hE=>Zy hE Za ld rfl rfl fun a hE=>Zy hE Za ld rfl rfl fun a hE=>Zy hE Za ld rfl rfl fun a hE=>Zu hE hM Za ld Z8 fun b13 w a hM hE=>Zu hE hM Za ld Zw fun b15 w a hM hE=>Zu hE hM Za ld Zw ?_; intro b17 w a hM hE
 have hM:=hM.pull (pre:=[_,_])
 refine Zi (seg:=cat [[vI r11.1.Field],enc r11.1.Box,enc r11.1.Mix,enc r11.1.Places,[vI r11.1.Rounds]]) (cs':=cat [[vI r11.1.Field],enc r11.1.Box,enc r11.1.Mix,enc r11.1.Places,[vI r11.1.Rounds]]) hE hM Za rfl rfl rfl Z8 (Zl (cl1 (n:=1) (m:=289) rfl (cl1 (n:=256) (m:=33) (Flat.len _) (cl1 (n:=16) (m:=17) (Flat.len _) (cl1 (n:=16) (m:=1) (Flat.len _) (cl1 (n:=1) (m:=0) rfl cl0)))))) (Nat.le_of_eq ((Nat.zero_add _).trans (Eq.trans (Zl (cl1 (n:=1) (m:=289) rfl (cl1 (n:=256) (m:=33) (Flat.len _) (cl1 (n:=16) (m:=17) (Flat.len _) (cl1 (n:=16) (m:=1) (Flat.len _) (cl1 (n:=1) (m:=0) rfl cl0)))))) (Eq.symm (Zl (cl1 (n:=1) (m:=289) rfl (cl1 (n:=256) (m:=33) (Flat.len _) (cl1 (n:=16) (m:=17) (Flat.len _) (cl1 (n:=16) (m:=1) (Flat.len _) (cl1 (n:=1) (m:=0) rfl cl0)))))))))) (Yq (cc1 (Flat.cell (r11.1.Field : Int)) (cc1 (Flat.cell _) (cc1 (Flat.cell _) (cc1 (Flat.cell _) (cc1 (Flat.cell (r11.1.Rounds : Int)) cc0)))))) (Zg (Eq.trans (Zl (cl1 (n:=1) (m:=289) rfl (cl1 (n:=256) (m:=33) (Flat.len _) (cl1 (n:=16) (m:=17) (Flat.len _) (cl1 (n:=16) (m:=1) (Flat.len _) (cl1 (n:=1) (m:=0) rfl cl0)))))) (Eq.symm (Zl (cl1 (n:=1) (m:=289) rfl (cl1 (n:=256) (m:=33) (Flat.len _) (cl1 (n:=16) (m:=17) (Flat.len _) (cl1 (n:=16) (m:=1) (Flat.len _) (cl1 (n:=1) (m:=0) rfl cl0))))))))) ?_; intro w a hM hE
 have hM:=hM.pull (pre:=[_,_])
 refine Zi (seg:=enc r11.2.1) (cs':=enc r11.2.1) hE hM Za rfl rfl rfl Zw (Flat.len _) (zle flq) (Flat.cell _) (Zg flq) ?_; intro w a hM hE
 have hM:=hM.pull (pre:=[_,_])
 refine Zi (seg:=enc r11.2.2) (cs':=enc r11.2.2) hE hM Za rfl rfl rfl Zw (Flat.len _) (zle flq) (Flat.cell _) (Zg flq) fun w a hM hE=>Zf ?_
 obtain ⟨j19,hl20,hF21⟩:=bind_some hF
 refine ZT (fun a w=>Env 54 a [(2,(ptr b1 0)),(3,(ptr b3 0)),(4,(ptr b5 0)),(7,(ptr b9 0)),(8,(ptr b13 0)),(9,(ptr b15 0)),(10,(ptr b17 0))] ∧ M (Old w0) w0 w [raw b17 (enc r11.2.2),raw b15 (enc r11.2.1),raw b13 (cat [[vI j19.2.2.1],enc j19.2.2.2.1,enc j19.2.2.2.2.1,enc j19.2.2.2.2.2.1,[vI j19.2.2.2.2.2.2]]),raw b9 (cat [[v0_1],[vI j19.1],[(Value.int .u64 j19.2.1)]]),raw b5 (enc (Vector.replicate 16 (0 : UInt8))),raw b3 (enc (Vector.replicate 16 (0 : UInt8))),raw b1 (cat [[vI 0],enc (Vector.replicate 256 (0 : UInt8)),enc (Vector.replicate 4 (Vector.replicate 4 (0 : UInt8))),enc (Vector.replicate 16 (0 : UInt8)),[vI 0]])]) ?_ ?_
 ·skip
  refine Zd (Zc hE Za ld rfl ?_); intro a hE
  have hM:=M.tailP (m:=[_]) (hM.pull (pre:=[_,_,_]))
  obtain ⟨r22,e23,hl20⟩:=bind_some hl20
  refine Zo hE Za ld rfl VD (ZH _ _ _ _ b9 p0 v0_1 hv0_1 (r7.1,r7.2) 2 hM r22 e23) ?_
  rintro v w a ⟨rfl,hM⟩ hE
  have hM:=M.tailU (m:=[_]) hM
  simp only [List.cons_append,List.nil_append] at hM
  refine Zm hE Za ld rfl rfl rfl fun a hE=>Zf ?_
  refine Zv hE rfl ?_ ?_
  ·intro hb24
   have hl20:=ZB hl20 hb24
   refine wp_region_lit (Zc hE Za ld rfl ?_); intro a hE
   have hM:=M.tailP (m:=[_]) hM
   obtain ⟨r25,e26,hl20⟩:=bind_some hl20
   refine Zo hE Za ld rfl VD (ZH _ _ _ _ b9 p0 v0_1 hv0_1 (r22.1.1,r22.1.2) 5 hM r25 e26) ?_
   rintro v w a ⟨rfl,hM⟩ hE
   have hM:=M.tailU (m:=[_]) hM
   simp only [List.cons_append,List.nil_append] at hM
   refine Zm hE Za ld rfl rfl rfl ?_; intro a hE
   obtain ⟨r27,e28,hl20⟩:=bind_some hl20
   refine Zo hE Za ld rfl cb141 (QT _ (wr (1 + r25.2)) r27 e28) ?_
   rintro v w a ⟨rfl,hK⟩ hE
   have hM:=(hM.keep hK).pull (pre:=[_,_,_])
   refine Zi (seg:=cat [[vI r27.Field],enc r27.Box,enc r27.Mix,enc r27.Places,[vI r27.Rounds]]) (cs':=cat [[vI r27.Field],enc r27.Box,enc r27.Mix,enc r27.Places,[vI r27.Rounds]]) hE hM Za rfl rfl rfl Z8 (Zl (cl1 (n:=1) (m:=289) rfl (cl1 (n:=256) (m:=33) (Flat.len _) (cl1 (n:=16) (m:=17) (Flat.len _) (cl1 (n:=16) (m:=1) (Flat.len _) (cl1 (n:=1) (m:=0) rfl cl0)))))) (Nat.le_of_eq ((Nat.zero_add _).trans (Eq.trans (Zl (cl1 (n:=1) (m:=289) rfl (cl1 (n:=256) (m:=33) (Flat.len _) (cl1 (n:=16) (m:=17) (Flat.len _) (cl1 (n:=16) (m:=1) (Flat.len _) (cl1 (n:=1) (m:=0) rfl cl0)))))) (Eq.symm (Zl (cl1 (n:=1) (m:=289) rfl (cl1 (n:=256) (m:=33) (Flat.len _) (cl1 (n:=16) (m:=17) (Flat.len _) (cl1 (n:=16) (m:=1) (Flat.len _) (cl1 (n:=1) (m:=0) rfl cl0)))))))))) (Yq (cc1 (Flat.cell (r27.Field : Int)) (cc1 (Flat.cell _) (cc1 (Flat.cell _) (cc1 (Flat.cell _) (cc1 (Flat.cell (r27.Rounds : Int)) cc0)))))) (Zg (Eq.trans (Zl (cl1 (n:=1) (m:=289) rfl (cl1 (n:=256) (m:=33) (Flat.len _) (cl1 (n:=16) (m:=17) (Flat.len _) (cl1 (n:=16) (m:=1) (Flat.len _) (cl1 (n:=1) (m:=0) rfl cl0)))))) (Eq.symm (Zl (cl1 (n:=1) (m:=289) rfl (cl1 (n:=256) (m:=33) (Flat.len _) (cl1 (n:=16) (m:=17) (Flat.len _) (cl1 (n:=16) (m:=1) (Flat.len _) (cl1 (n:=1) (m:=0) rfl cl0))))))))) fun w a hM hE=>Zk ?_
   have ht29:=Option.some.inj hl20
   subst ht29
   refine Zn ?_
   have hM:=((((((hM.pull (pre:=[_,_,_,_,_,_])).pull (pre:=[_,_,_,_,_,_])).pull (pre:=[_,_,_,_,_,_])).pull (pre:=[_,_,_,_])).pull (pre:=[_,_,_,_])).pull (pre:=[_,_,_,_,_,_])).pull (pre:=[_,_,_,_,_,_])
   exact ⟨hE.sub ⟨rfl,rfl,rfl,rfl,rfl,rfl,rfl,trivial⟩,hM⟩
  ·intro hb24
   have hl20:=ZA hl20 hb24
   refine wp_skip ?_
   have ht30:=Option.some.inj hl20
   subst ht30
   refine Zn ?_
   have hM:=((((((hM.pull (pre:=[_,_,_,_,_,_])).pull (pre:=[_,_,_,_,_,_])).pull (pre:=[_,_,_,_,_,_])).pull (pre:=[_,_,_])).pull (pre:=[_,_,_,_,_,_])).pull (pre:=[_,_,_,_,_,_])).pull (pre:=[_,_,_,_,_,_])
   exact ⟨hE.sub ⟨rfl,rfl,rfl,rfl,rfl,rfl,rfl,trivial⟩,hM⟩
 ·skip
  rintro a w ⟨hE,hM⟩
  obtain ⟨j31,hl32,hF33⟩:=bind_some hF21
  refine ZT (fun a w=>Env 54 a [(2,(ptr b1 0)),(3,(ptr b3 0)),(4,(ptr b5 0)),(7,(ptr b9 0)),(8,(ptr b13 0)),(9,(ptr b15 0)),(10,(ptr b17 0))] ∧ M (Old w0) w0 w [raw b17 (enc r11.2.2),raw b15 (enc r11.2.1),raw b13 (cat [[vI j19.2.2.1],enc j19.2.2.2.1,enc j19.2.2.2.2.1,enc j19.2.2.2.2.2.1,[vI j31]]),raw b9 (cat [[v0_1],[vI j19.1],[(Value.int .u64 j19.2.1)]]),raw b5 (enc (Vector.replicate 16 (0 : UInt8))),raw b3 (enc (Vector.replicate 16 (0 : UInt8))),raw b1 (cat [[vI 0],enc (Vector.replicate 256 (0 : UInt8)),enc (Vector.replicate 4 (Vector.replicate 4 (0 : UInt8))),enc (Vector.replicate 16 (0 : UInt8)),[vI 0]])]) ?_ ?_
  ·skip
   obtain ⟨j34,hl35,hF36⟩:=bind_some hl32
   refine ZT (fun a w=>Env 54 a [(2,(ptr b1 0)),(3,(ptr b3 0)),(4,(ptr b5 0)),(7,(ptr b9 0)),(8,(ptr b13 0)),(9,(ptr b15 0)),(10,(ptr b17 0)),(33,vT j34)] ∧ M (Old w0) w0 w [raw b17 (enc r11.2.2),raw b15 (enc r11.2.1),raw b13 (cat [[vI j19.2.2.1],enc j19.2.2.2.1,enc j19.2.2.2.2.1,enc j19.2.2.2.2.2.1,[vI j19.2.2.2.2.2.2]]),raw b9 (cat [[v0_1],[vI j19.1],[(Value.int .u64 j19.2.1)]]),raw b5 (enc (Vector.replicate 16 (0 : UInt8))),raw b3 (enc (Vector.replicate 16 (0 : UInt8))),raw b1 (cat [[vI 0],enc (Vector.replicate 256 (0 : UInt8)),enc (Vector.replicate 4 (Vector.replicate 4 (0 : UInt8))),enc (Vector.replicate 16 (0 : UInt8)),[vI 0]])]) ?_ ?_
   ·skip
    refine wp_region_lit (Zr hE Za ld rfl (UL) fun a hE=>ZF (v:=(vI j19.2.2.2.2.2.2)) hE Za ld rfl ty2 rfl (At.cat (pre:=[[vI j19.2.2.1],enc j19.2.2.2.1,enc j19.2.2.2.2.1,enc j19.2.2.2.2.2.1]) (hM.rawAt (pre:=[_,_])) (cl1 (n:=1) (m:=288) rfl (cl1 (n:=256) (m:=32) (Flat.len _) (cl1 (n:=16) (m:=16) (Flat.len _) (cl1 (n:=16) (m:=0) (Flat.len _) cl0))))) fun a hE=>Zm hE Za ld rfl rfl rfl fun a hE=>Zc hE Za ld rfl ?_); intro a hE
    refine Xy (decide (j19.2.2.2.2.2.2 > 5)) (fun hb37=>?_) (fun hb37=>?_)
    ·have hl35:=ZB hl35 hb37
     refine Zr hE (Zt hE rfl (lkb rfl hb37)) (by decide) rfl (UL) fun a hE=>ZF (v:=(vI j19.2.2.2.2.2.2)) hE (Zt hE rfl (lkb rfl hb37)) (by decide) rfl ty2 rfl (At.cat (pre:=[[vI j19.2.2.1],enc j19.2.2.2.1,enc j19.2.2.2.2.1,enc j19.2.2.2.2.2.1]) (hM.rawAt (pre:=[_,_])) (cl1 (n:=1) (m:=288) rfl (cl1 (n:=256) (m:=32) (Flat.len _) (cl1 (n:=16) (m:=16) (Flat.len _) (cl1 (n:=16) (m:=0) (Flat.len _) cl0))))) fun a hE=>Zm hE (Zt hE rfl (lkb rfl hb37)) (by decide) rfl rfl rfl fun a hE=>Yy hE Za ld (lkb rfl hb37) rfl fun a hE=>Zk ?_
     have ht38:=Option.some.inj hl35
     subst ht38
     refine Zn ?_
     exact ⟨hE.sub ⟨rfl,rfl,rfl,rfl,rfl,rfl,rfl,rfl,trivial⟩,hM⟩
    ·have hl35:=ZA hl35 hb37
     refine Zz hE rfl (lkb rfl hb37) rfl (by decide) fun a hE=>Zz hE rfl (lkb rfl hb37) rfl (by decide) fun a hE=>Zz hE rfl (lkb rfl hb37) rfl (by decide) fun a hE=>Yh hE Za ld (lkb rfl hb37) rfl fun a hE=>Zk ?_
     have ht39:=Option.some.inj hl35
     subst ht39
     refine Zn ?_
     exact ⟨hE.sub ⟨rfl,rfl,rfl,rfl,rfl,rfl,rfl,rfl,trivial⟩,hM⟩
   ·skip
    rintro a w ⟨hE,hM⟩
    refine Zv hE rfl ?_ ?_
    ·intro hb40
     have hF36:=ZB hF36 hb40
     refine wp_region_lit (Zr hE Za ld rfl (UL) ?_); intro a hE
     have hM:=hM.pull (pre:=[_,_])
     refine Zi (seg:=[vI 5]) hE hM Za rfl rfl rfl ty2 rfl (UX (pre:=[[vI j19.2.2.1],enc j19.2.2.2.1,enc j19.2.2.2.2.1,enc j19.2.2.2.2.2.1]) (cl1 (n:=1) (m:=288) rfl (cl1 (n:=256) (m:=32) (Flat.len _) (cl1 (n:=16) (m:=16) (Flat.len _) (cl1 (n:=16) (m:=0) (Flat.len _) cl0)))) rfl) (Flat.cell (5 : Int)) (WL (pre:=[[vI j19.2.2.1],enc j19.2.2.2.1,enc j19.2.2.2.2.1,enc j19.2.2.2.2.2.1]) (cl1 (n:=1) (m:=288) rfl (cl1 (n:=256) (m:=32) (Flat.len _) (cl1 (n:=16) (m:=16) (Flat.len _) (cl1 (n:=16) (m:=0) (Flat.len _) cl0)))) rfl) fun w a hM hE=>Zk ?_
     have ht41:=Option.some.inj hF36
     subst ht41
     refine Zn ?_
     have hM:=((((((hM.pull (pre:=[_,_,_,_,_,_])).pull (pre:=[_,_,_,_,_,_])).pull (pre:=[_,_,_,_,_,_])).pull (pre:=[_,_,_,_,_,_])).pull (pre:=[_,_,_,_])).pull (pre:=[_,_,_,_,_,_])).pull (pre:=[_,_,_,_,_,_])
     exact ⟨hE.sub ⟨rfl,rfl,rfl,rfl,rfl,rfl,rfl,trivial⟩,hM⟩
    ·intro hb40
     have hF36:=ZA hF36 hb40
     refine wp_skip ?_
     have ht42:=Option.some.inj hF36
     subst ht42
     refine Zn ?_
     exact ⟨hE.sub ⟨rfl,rfl,rfl,rfl,rfl,rfl,rfl,trivial⟩,hM⟩
  ·skip
   rintro a w ⟨hE,hM⟩
   obtain ⟨j43,hl44,hF45⟩:=bind_some hF33
   refine ZT (fun a w=>Env 54 a [(2,(ptr b1 0)),(3,(ptr b3 0)),(4,(ptr b5 0)),(5,vI j43.2.2.2.2.2.2.2.1),(6,vI j43.2.2.2.2.2.2.2.2)] ∧ M (Old w0) w0 w [raw b5 (enc j43.2.2.2.2.2.2.1),raw b3 (enc j43.2.2.2.2.2.1),raw b1 (cat [[vI j43.1],enc j43.2.1,enc j43.2.2.1,enc j43.2.2.2.1,[vI j43.2.2.2.2.1]])]) ?_ ?_
   ·skip
    have hM:=(((hM.pull (pre:=[_,_,_,_,_,_])).pull (pre:=[_,_,_,_,_,_])).pull (pre:=[_,_,_,_,_,_])).pull (pre:=[_,_,_,_,_,_])
    obtain ⟨r47,e48,hl44⟩:=bind_some hl44
    obtain ⟨r49,e50,hl44⟩:=bind_some hl44
    obtain ⟨r51,e52,hl44⟩:=bind_some hl44
    obtain ⟨r53,e54,hl44⟩:=bind_some hl44
    refine Vj (n:=54) (hd:=[_,_,_,_,_,_,_,_,_,_,_,_,_,_,_,_,_,_,_,_,_,_,_]) (tl:=[_]) YS rfl rfl [35,36,37,38,39,40,41,42,43,44,45,46,47,48,49,50,51,52,53,73,74,75,5] (by decide) (fun D u w=>M (Old w0) w0 w ([raw b17 (enc r11.2.2),raw b15 (enc r11.2.1),raw b13 (cat [[vI j19.2.2.1],enc j19.2.2.2.1,enc j19.2.2.2.2.1,enc j19.2.2.2.2.2.1,[vI j31]])] ++ qL ([mkT 19 (raw b1 (cat [[vI 0],enc (Vector.replicate 256 (0 : UInt8)),enc (Vector.replicate 4 (Vector.replicate 4 (0 : UInt8))),enc (Vector.replicate 16 (0 : UInt8)),[vI 0]])) (raw b1 (cat [[(vI ((⟨j19.2.2.1,j19.2.2.2.1,j19.2.2.2.2.1,j19.2.2.2.2.2.1,j31⟩ : GCipher).Field))],enc ((⟨j19.2.2.1,j19.2.2.2.1,j19.2.2.2.2.1,j19.2.2.2.2.2.1,j31⟩ : GCipher).Box),enc ((⟨j19.2.2.1,j19.2.2.2.1,j19.2.2.2.2.1,j19.2.2.2.2.2.1,j31⟩ : GCipher).Mix),enc ((⟨j19.2.2.1,j19.2.2.2.1,j19.2.2.2.2.1,j19.2.2.2.2.2.1,j31⟩ : GCipher).Places),[(vI ((⟨j19.2.2.1,j19.2.2.2.1,j19.2.2.2.2.1,j19.2.2.2.2.2.1,j31⟩ : GCipher).Rounds))]])),mkT 20 (raw b3 (enc (Vector.replicate 16 (0 : UInt8)))) (raw b3 (enc r11.2.1)),mkT 21 (raw b5 (enc (Vector.replicate 16 (0 : UInt8)))) (raw b5 (enc r11.2.2)),([4,6,14,16],fun bs _=>(tog (bs.getD 0 false) (raw b9 (cat [[v0_1],[vI j19.1],[(Value.int .u64 j19.2.1)]])) (tog (bs.getD 1 false) (raw b9 (cat [[v0_1],[vI r47.1.1],[(Value.int .u64 r47.1.2)]])) (tog (bs.getD 2 false) (raw b9 (cat [[v0_1],[vI r49.1.1],[(Value.int .u64 r49.1.2)]])) (tog (bs.getD 3 false) (raw b9 (cat [[v0_1],[vI r51.1.1],[(Value.int .u64 r51.1.2)]])) (raw b9 (cat [[v0_1],[vI r53.1.1],[(Value.int .u64 r53.1.2)]])))))))] : Mk) D u) ∧ GOk ([([],fun us v=>v = (Value.agg (enc (⟨j19.2.2.1,j19.2.2.2.1,j19.2.2.2.2.1,j19.2.2.2.2.2.1,j31⟩ : GCipher)).toArray)),([],fun us v=>v = (Value.agg (enc r11.2.1).toArray)),([],fun us v=>v = (Value.agg (enc r11.2.2).toArray)),([],fun us v=>v = (ptr b9 0)),([],fun us v=>v = (vI r47.2)),([],fun us v=>v = (ptr b9 0)),([],fun us v=>v = (vI r49.2)),([],fun us v=>v = (vI (wr (Int.tdiv r49.2 29)))),([],fun us v=>v = (vI (wr (r47.2 - (wr (Int.tdiv r49.2 29)))))),([],fun us v=>v = (ptr b9 0)),([],fun us v=>v = (ptr b13 (0 + 289))),([],fun us v=>v = (vI j31)),([],fun us v=>v = (vI (wr (j31 + 1)))),([],fun us v=>v = (vI (if (wr (j31 + 1)) > 1 then (wr (j31 + 1)) else 1))),([],fun us v=>v = (vI r51.2)),([],fun us v=>v = (ptr b9 0)),([],fun us v=>v = (vI r53.2)),([],fun us v=>v = (vI (wr (Int.tdiv r53.2 29)))),([],fun us v=>v = (vI (wr (r51.2 - (wr (Int.tdiv r53.2 29)))))),([],fun us v=>True),([],fun us v=>True),([],fun us v=>True),([],fun us v=>v = (vI (wr (r47.2 - (wr (Int.tdiv r49.2 29))))))] : Gs) D u) hE (fun u=>⟨M.qT (M.qT (M.qT (M.qS (M.q0 hM.drew u) fun _=>rfl))),KH⟩) (ZS (Zb ?_ (Zb ?_ (Zb ?_ (Zb ?_ (Zb ?_ (Zb ?_ (Zb ?_ (Zb ?_ (Zb ?_ (Zb ?_ (Zb ?_ (Zb ?_ (Zb ?_ (Zb ?_ (Zb ?_ (Zb ?_ (Zb ?_ (Zb ?_ (Zb ?_ (Zb ?_ (Zb ?_ (Zb ?_ (Zb ?_ ZL)))))))))))))))))))))))) ?_
    ·intro a w ux46 D hE hI hD hdc hp
     have hM0:=hI.1
     have hM:=hI.1
     have hM:=hM.togA (pre:=[_,_,_]) (Bool.eq_false_iff.2 fun hx=>Bool.noConfusion (hD.symm.trans (hdc 19 _ _ rfl (List.mem_of_getElem? (i:=0) rfl) rfl hx)))
     have hM:=hM.togA (pre:=[_,_,_,_]) (Bool.eq_false_iff.2 fun hx=>Bool.noConfusion (hD.symm.trans (hdc 20 _ _ rfl (List.mem_of_getElem? (i:=2) rfl) rfl hx)))
     have hM:=hM.togA (pre:=[_,_,_,_,_]) (Bool.eq_false_iff.2 fun hx=>Bool.noConfusion (hD.symm.trans (hdc 21 _ _ rfl (List.mem_of_getElem? (i:=2) rfl) rfl hx)))
     exact Zj (cs:=enc (⟨j19.2.2.1,j19.2.2.2.1,j19.2.2.2.2.1,j19.2.2.2.2.2.1,j31⟩ : GCipher)) hE Za ld rfl Z8 rfl (hM.rawAt (pre:=[_,_])) (Zl (cl1 (n:=1) (m:=289) rfl (cl1 (n:=256) (m:=33) (Flat.len _) (cl1 (n:=16) (m:=17) (Flat.len _) (cl1 (n:=16) (m:=1) (Flat.len _) (cl1 (n:=1) (m:=0) rfl cl0)))))) fun a hE=>⟨_,_,rfl,hE,M.qKeep hM0 rfl,hI.2.put hD rfl ZR rfl⟩
    ·intro a w ux46 D hE hI hD hdc hp
     have hM0:=hI.1
     have hM:=hI.1
     have hM:=hM.togA (pre:=[_,_,_,_]) (Bool.eq_false_iff.2 fun hx=>Bool.noConfusion (hD.symm.trans (hdc 20 _ _ rfl (List.mem_of_getElem? (i:=0) rfl) rfl hx)))
     have hM:=hM.togA (pre:=[_,_,_,_,_]) (Bool.eq_false_iff.2 fun hx=>Bool.noConfusion (hD.symm.trans (hdc 21 _ _ rfl (List.mem_of_getElem? (i:=3) rfl) rfl hx)))
     exact Zj (cs:=enc r11.2.1) hE Za ld rfl Zw rfl (hM.rawAt (pre:=[_])) (Flat.len _) fun a hE=>⟨_,_,rfl,hE,M.qKeep hM0 rfl,hI.2.put hD rfl ZR rfl⟩
    ·intro a w ux46 D hE hI hD hdc hp
     have hM0:=hI.1
     have hM:=hI.1
     have hM:=hM.togA (pre:=[_,_,_,_,_]) (Bool.eq_false_iff.2 fun hx=>Bool.noConfusion (hD.symm.trans (hdc 21 _ _ rfl (List.mem_of_getElem? (i:=0) rfl) rfl hx)))
     exact Zj (cs:=enc r11.2.2) hE Za ld rfl Zw rfl (hM.rawAt (pre:=[])) (Flat.len _) fun a hE=>⟨_,_,rfl,hE,M.qKeep hM0 rfl,hI.2.put hD rfl ZR rfl⟩
    ·intro a w ux46 D hE hI hD hdc hp
     have hM0:=hI.1
     exact Zc hE Za ld rfl fun a hE=>⟨_,_,rfl,hE,M.qKeep hM0 rfl,hI.2.put hD rfl ZR rfl⟩
    ·intro a w ux46 D hE hI hD hdc hp
     have d3 : D 3 = true:=hp 0 _ rfl rfl
     have g3:=hI.2 3 d3 _ rfl
     have f3 : ux46 3 = (ptr b9 0):=g3.2
     have hM0:=hI.1
     have hM : M (Old w0) w0 w [raw b17 (enc r11.2.2),raw b15 (enc r11.2.1),raw b13 (cat [[vI j19.2.2.1],enc j19.2.2.2.1,enc j19.2.2.2.2.1,enc j19.2.2.2.2.2.1,[vI j31]]),tog (D 19) (raw b1 (cat [[vI 0],enc (Vector.replicate 256 (0 : UInt8)),enc (Vector.replicate 4 (Vector.replicate 4 (0 : UInt8))),enc (Vector.replicate 16 (0 : UInt8)),[vI 0]])) (raw b1 (cat [[(vI ((⟨j19.2.2.1,j19.2.2.2.1,j19.2.2.2.2.1,j19.2.2.2.2.2.1,j31⟩ : GCipher).Field))],enc ((⟨j19.2.2.1,j19.2.2.2.1,j19.2.2.2.2.1,j19.2.2.2.2.2.1,j31⟩ : GCipher).Box),enc ((⟨j19.2.2.1,j19.2.2.2.1,j19.2.2.2.2.1,j19.2.2.2.2.2.1,j31⟩ : GCipher).Mix),enc ((⟨j19.2.2.1,j19.2.2.2.1,j19.2.2.2.2.1,j19.2.2.2.2.2.1,j31⟩ : GCipher).Places),[(vI ((⟨j19.2.2.1,j19.2.2.2.1,j19.2.2.2.2.1,j19.2.2.2.2.2.1,j31⟩ : GCipher).Rounds))]])),tog (D 20) (raw b3 (enc (Vector.replicate 16 (0 : UInt8)))) (raw b3 (enc r11.2.1)),tog (D 21) (raw b5 (enc (Vector.replicate 16 (0 : UInt8)))) (raw b5 (enc r11.2.2)),tog (D 4) (raw b9 (cat [[v0_1],[vI j19.1],[(Value.int .u64 j19.2.1)]])) (tog (D 6) (raw b9 (cat [[v0_1],[vI r47.1.1],[(Value.int .u64 r47.1.2)]])) (tog (D 14) (raw b9 (cat [[v0_1],[vI r49.1.1],[(Value.int .u64 r49.1.2)]])) (tog (D 16) (raw b9 (cat [[v0_1],[vI r51.1.1],[(Value.int .u64 r51.1.2)]])) (raw b9 (cat [[v0_1],[vI r53.1.1],[(Value.int .u64 r53.1.2)]])))))]:=hI.1
     have hM:=hM.togA (pre:=[_,_,_,_,_,_]) hD
     have hNx : D 6 = false:=Bool.eq_false_iff.2 fun hx=>Bool.noConfusion (hD.symm.trans (hdc 6 _ _ rfl (List.mem_of_getElem? (i:=1) rfl) rfl hx))
     have hM:=M.tailP (m:=[_]) (hM.pull (pre:=[_,_,_,_,_,_]))
     refine Zo hE Za ld (Z1 (ZX (lk rfl f3) (ZX rfl Xg))) VD (ZH _ _ _ _ b9 p0 v0_1 hv0_1 (j19.1,j19.2.1) 16 hM r47 e48) ?_
     rintro v w a ⟨rfl,hM⟩ hE
     have hM:=M.tailU (m:=[_]) hM
     simp only [List.cons_append,List.nil_append] at hM
     exact ⟨_,_,rfl,hE,M.qTogS (p:=([4,6,14,16],fun bs _=>(tog (bs.getD 0 false) (raw b9 (cat [[v0_1],[vI j19.1],[(Value.int .u64 j19.2.1)]])) (tog (bs.getD 1 false) (raw b9 (cat [[v0_1],[vI r47.1.1],[(Value.int .u64 r47.1.2)]])) (tog (bs.getD 2 false) (raw b9 (cat [[v0_1],[vI r49.1.1],[(Value.int .u64 r49.1.2)]])) (tog (bs.getD 3 false) (raw b9 (cat [[v0_1],[vI r51.1.1],[(Value.int .u64 r51.1.2)]])) (raw b9 (cat [[v0_1],[vI r53.1.1],[(Value.int .u64 r53.1.2)]])))))))) (mk1:=[_,_,_]) (mk2:=[]) hM rfl (by show tog (Yl D 4 4) (raw b9 (cat [[v0_1],[vI j19.1],[(Value.int .u64 j19.2.1)]])) (tog (Yl D 4 6) (raw b9 (cat [[v0_1],[vI r47.1.1],[(Value.int .u64 r47.1.2)]])) (tog (Yl D 4 14) (raw b9 (cat [[v0_1],[vI r49.1.1],[(Value.int .u64 r49.1.2)]])) (tog (Yl D 4 16) (raw b9 (cat [[v0_1],[vI r51.1.1],[(Value.int .u64 r51.1.2)]])) (raw b9 (cat [[v0_1],[vI r53.1.1],[(Value.int .u64 r53.1.2)]]))))) = _; rw [tg1 KF,tg0 (Bx (i:=4) hNx (by decide))]),hI.2.put hD rfl ZR rfl⟩
    ·intro a w ux46 D hE hI hD hdc hp
     have hM0:=hI.1
     exact Zc hE Za ld rfl fun a hE=>⟨_,_,rfl,hE,M.qKeep hM0 rfl,hI.2.put hD rfl ZR rfl⟩
    ·intro a w ux46 D hE hI hD hdc hp
     have d5 : D 5 = true:=hp 0 _ rfl rfl
     have g5:=hI.2 5 d5 _ rfl
     have f5 : ux46 5 = (ptr b9 0):=g5.2
     have hM0:=hI.1
     have hM : M (Old w0) w0 w [raw b17 (enc r11.2.2),raw b15 (enc r11.2.1),raw b13 (cat [[vI j19.2.2.1],enc j19.2.2.2.1,enc j19.2.2.2.2.1,enc j19.2.2.2.2.2.1,[vI j31]]),tog (D 19) (raw b1 (cat [[vI 0],enc (Vector.replicate 256 (0 : UInt8)),enc (Vector.replicate 4 (Vector.replicate 4 (0 : UInt8))),enc (Vector.replicate 16 (0 : UInt8)),[vI 0]])) (raw b1 (cat [[(vI ((⟨j19.2.2.1,j19.2.2.2.1,j19.2.2.2.2.1,j19.2.2.2.2.2.1,j31⟩ : GCipher).Field))],enc ((⟨j19.2.2.1,j19.2.2.2.1,j19.2.2.2.2.1,j19.2.2.2.2.2.1,j31⟩ : GCipher).Box),enc ((⟨j19.2.2.1,j19.2.2.2.1,j19.2.2.2.2.1,j19.2.2.2.2.2.1,j31⟩ : GCipher).Mix),enc ((⟨j19.2.2.1,j19.2.2.2.1,j19.2.2.2.2.1,j19.2.2.2.2.2.1,j31⟩ : GCipher).Places),[(vI ((⟨j19.2.2.1,j19.2.2.2.1,j19.2.2.2.2.1,j19.2.2.2.2.2.1,j31⟩ : GCipher).Rounds))]])),tog (D 20) (raw b3 (enc (Vector.replicate 16 (0 : UInt8)))) (raw b3 (enc r11.2.1)),tog (D 21) (raw b5 (enc (Vector.replicate 16 (0 : UInt8)))) (raw b5 (enc r11.2.2)),tog (D 4) (raw b9 (cat [[v0_1],[vI j19.1],[(Value.int .u64 j19.2.1)]])) (tog (D 6) (raw b9 (cat [[v0_1],[vI r47.1.1],[(Value.int .u64 r47.1.2)]])) (tog (D 14) (raw b9 (cat [[v0_1],[vI r49.1.1],[(Value.int .u64 r49.1.2)]])) (tog (D 16) (raw b9 (cat [[v0_1],[vI r51.1.1],[(Value.int .u64 r51.1.2)]])) (raw b9 (cat [[v0_1],[vI r53.1.1],[(Value.int .u64 r53.1.2)]])))))]:=hI.1
     have dC4 : D 4 = true:=hp 1 _ rfl rfl
     have hM:=(hM.togB (pre:=[_,_,_,_,_,_]) dC4).togA (pre:=[_,_,_,_,_,_]) hD
     have hNx : D 14 = false:=Bool.eq_false_iff.2 fun hx=>Bool.noConfusion (hD.symm.trans (hdc 14 _ _ rfl (List.mem_of_getElem? (i:=2) rfl) rfl hx))
     have hM:=M.tailP (m:=[_]) (hM.pull (pre:=[_,_,_,_,_,_]))
     refine Zo hE Za ld (Z1 (ZX (lk rfl f5) (ZX rfl Xg))) VD (ZH _ _ _ _ b9 p0 v0_1 hv0_1 (r47.1.1,r47.1.2) 30 hM r49 e50) ?_
     rintro v w a ⟨rfl,hM⟩ hE
     have hM:=M.tailU (m:=[_]) hM
     simp only [List.cons_append,List.nil_append] at hM
     exact ⟨_,_,rfl,hE,M.qTogS (p:=([4,6,14,16],fun bs _=>(tog (bs.getD 0 false) (raw b9 (cat [[v0_1],[vI j19.1],[(Value.int .u64 j19.2.1)]])) (tog (bs.getD 1 false) (raw b9 (cat [[v0_1],[vI r47.1.1],[(Value.int .u64 r47.1.2)]])) (tog (bs.getD 2 false) (raw b9 (cat [[v0_1],[vI r49.1.1],[(Value.int .u64 r49.1.2)]])) (tog (bs.getD 3 false) (raw b9 (cat [[v0_1],[vI r51.1.1],[(Value.int .u64 r51.1.2)]])) (raw b9 (cat [[v0_1],[vI r53.1.1],[(Value.int .u64 r53.1.2)]])))))))) (mk1:=[_,_,_]) (mk2:=[]) hM rfl (by show tog (Yl D 6 4) (raw b9 (cat [[v0_1],[vI j19.1],[(Value.int .u64 j19.2.1)]])) (tog (Yl D 6 6) (raw b9 (cat [[v0_1],[vI r47.1.1],[(Value.int .u64 r47.1.2)]])) (tog (Yl D 6 14) (raw b9 (cat [[v0_1],[vI r49.1.1],[(Value.int .u64 r49.1.2)]])) (tog (Yl D 6 16) (raw b9 (cat [[v0_1],[vI r51.1.1],[(Value.int .u64 r51.1.2)]])) (raw b9 (cat [[v0_1],[vI r53.1.1],[(Value.int .u64 r53.1.2)]]))))) = _; rw [tg1 (K8 dC4),tg1 KF,tg0 (Bx (i:=6) hNx (by decide))]),hI.2.put hD rfl ZR rfl⟩
    ·intro a w ux46 D hE hI hD hdc hp
     have d6 : D 6 = true:=hp 0 _ rfl rfl
     have g6:=hI.2 6 d6 _ rfl
     have f6 : ux46 6 = (vI r49.2):=g6.2
     have hM0:=hI.1
     exact Zm hE Za ld (lk rfl f6) rfl (Qf _ _ (by decide)) fun a hE=>⟨_,_,rfl,hE,M.qKeep hM0 rfl,hI.2.put hD rfl ZR rfl⟩
    ·intro a w ux46 D hE hI hD hdc hp
     have d4 : D 4 = true:=hp 0 _ rfl rfl
     have g4:=hI.2 4 d4 _ rfl
     have f4 : ux46 4 = (vI r47.2):=g4.2
     have d7 : D 7 = true:=hp 1 _ rfl rfl
     have g7:=hI.2 7 d7 _ rfl
     have f7 : ux46 7 = (vI (wr (Int.tdiv r49.2 29))):=g7.2
     have hM0:=hI.1
     exact Zm hE Za ld (lk rfl f4) (lk rfl f7) rfl fun a hE=>⟨_,_,rfl,hE,M.qKeep hM0 rfl,hI.2.put hD rfl ZR rfl⟩
    ·intro a w ux46 D hE hI hD hdc hp
     have hM0:=hI.1
     exact Zc hE Za ld rfl fun a hE=>⟨_,_,rfl,hE,M.qKeep hM0 rfl,hI.2.put hD rfl ZR rfl⟩
    ·intro a w ux46 D hE hI hD hdc hp
     have hM0:=hI.1
     exact Zr hE Za ld rfl (UL) fun a hE=>⟨_,_,rfl,hE,M.qKeep hM0 rfl,hI.2.put hD rfl ZR rfl⟩
    ·intro a w ux46 D hE hI hD hdc hp
     have d10 : D 10 = true:=hp 0 _ rfl rfl
     have g10:=hI.2 10 d10 _ rfl
     have f10 : ux46 10 = (ptr b13 (0 + 289)):=g10.2
     have hM0:=hI.1
     have hM:=hI.1
     exact ZF (v:=(vI j31)) hE Za ld (lk rfl f10) ty2 rfl (At.cat (pre:=[[vI j19.2.2.1],enc j19.2.2.2.1,enc j19.2.2.2.2.1,enc j19.2.2.2.2.2.1]) (hM.rawAt (pre:=[_,_])) (cl1 (n:=1) (m:=288) rfl (cl1 (n:=256) (m:=32) (Flat.len _) (cl1 (n:=16) (m:=16) (Flat.len _) (cl1 (n:=16) (m:=0) (Flat.len _) cl0))))) fun a hE=>⟨_,_,rfl,hE,M.qKeep hM0 rfl,hI.2.put hD rfl ZR rfl⟩
    ·intro a w ux46 D hE hI hD hdc hp
     have d11 : D 11 = true:=hp 0 _ rfl rfl
     have g11:=hI.2 11 d11 _ rfl
     have f11 : ux46 11 = (vI j31):=g11.2
     have hM0:=hI.1
     exact Zm hE Za ld (lk rfl f11) rfl rfl fun a hE=>⟨_,_,rfl,hE,M.qKeep hM0 rfl,hI.2.put hD rfl ZR rfl⟩
    ·intro a w ux46 D hE hI hD hdc hp
     have d12 : D 12 = true:=hp 0 _ rfl rfl
     have g12:=hI.2 12 d12 _ rfl
     have f12 : ux46 12 = (vI (wr (j31 + 1))):=g12.2
     have hM0:=hI.1
     exact s_max hE Za ld rfl (lk rfl f12) fun a hE=>⟨_,_,rfl,hE,M.qKeep hM0 rfl,hI.2.put hD rfl ZR rfl⟩
    ·intro a w ux46 D hE hI hD hdc hp
     have d9 : D 9 = true:=hp 0 _ rfl rfl
     have g9:=hI.2 9 d9 _ rfl
     have f9 : ux46 9 = (ptr b9 0):=g9.2
     have d13 : D 13 = true:=hp 1 _ rfl rfl
     have g13:=hI.2 13 d13 _ rfl
     have f13 : ux46 13 = (vI (if (wr (j31 + 1)) > 1 then (wr (j31 + 1)) else 1)):=g13.2
     have hM0:=hI.1
     have hM : M (Old w0) w0 w [raw b17 (enc r11.2.2),raw b15 (enc r11.2.1),raw b13 (cat [[vI j19.2.2.1],enc j19.2.2.2.1,enc j19.2.2.2.2.1,enc j19.2.2.2.2.2.1,[vI j31]]),tog (D 19) (raw b1 (cat [[vI 0],enc (Vector.replicate 256 (0 : UInt8)),enc (Vector.replicate 4 (Vector.replicate 4 (0 : UInt8))),enc (Vector.replicate 16 (0 : UInt8)),[vI 0]])) (raw b1 (cat [[(vI ((⟨j19.2.2.1,j19.2.2.2.1,j19.2.2.2.2.1,j19.2.2.2.2.2.1,j31⟩ : GCipher).Field))],enc ((⟨j19.2.2.1,j19.2.2.2.1,j19.2.2.2.2.1,j19.2.2.2.2.2.1,j31⟩ : GCipher).Box),enc ((⟨j19.2.2.1,j19.2.2.2.1,j19.2.2.2.2.1,j19.2.2.2.2.2.1,j31⟩ : GCipher).Mix),enc ((⟨j19.2.2.1,j19.2.2.2.1,j19.2.2.2.2.1,j19.2.2.2.2.2.1,j31⟩ : GCipher).Places),[(vI ((⟨j19.2.2.1,j19.2.2.2.1,j19.2.2.2.2.1,j19.2.2.2.2.2.1,j31⟩ : GCipher).Rounds))]])),tog (D 20) (raw b3 (enc (Vector.replicate 16 (0 : UInt8)))) (raw b3 (enc r11.2.1)),tog (D 21) (raw b5 (enc (Vector.replicate 16 (0 : UInt8)))) (raw b5 (enc r11.2.2)),tog (D 4) (raw b9 (cat [[v0_1],[vI j19.1],[(Value.int .u64 j19.2.1)]])) (tog (D 6) (raw b9 (cat [[v0_1],[vI r47.1.1],[(Value.int .u64 r47.1.2)]])) (tog (D 14) (raw b9 (cat [[v0_1],[vI r49.1.1],[(Value.int .u64 r49.1.2)]])) (tog (D 16) (raw b9 (cat [[v0_1],[vI r51.1.1],[(Value.int .u64 r51.1.2)]])) (raw b9 (cat [[v0_1],[vI r53.1.1],[(Value.int .u64 r53.1.2)]])))))]:=hI.1
     have dC6 : D 6 = true:=hp 2 _ rfl rfl
     have dC4 : D 4 = true:=hdc 6 _ _ rfl (List.mem_of_getElem? (i:=1) rfl) rfl dC6
     have hM:=((hM.togB (pre:=[_,_,_,_,_,_]) dC4).togB (pre:=[_,_,_,_,_,_]) dC6).togA (pre:=[_,_,_,_,_,_]) hD
     have hNx : D 16 = false:=Bool.eq_false_iff.2 fun hx=>Bool.noConfusion (hD.symm.trans (hdc 16 _ _ rfl (List.mem_of_getElem? (i:=1) rfl) rfl hx))
     have hM:=M.tailP (m:=[_]) (hM.pull (pre:=[_,_,_,_,_,_]))
     refine Zo hE Za ld (Z1 (ZX (lk rfl f9) (ZX (lk rfl f13) Xg))) VD (ZH _ _ _ _ b9 p0 v0_1 hv0_1 (r49.1.1,r49.1.2) (if (wr (j31 + 1)) > 1 then (wr (j31 + 1)) else 1) hM r51 e52) ?_
     rintro v w a ⟨rfl,hM⟩ hE
     have hM:=M.tailU (m:=[_]) hM
     simp only [List.cons_append,List.nil_append] at hM
     exact ⟨_,_,rfl,hE,M.qTogS (p:=([4,6,14,16],fun bs _=>(tog (bs.getD 0 false) (raw b9 (cat [[v0_1],[vI j19.1],[(Value.int .u64 j19.2.1)]])) (tog (bs.getD 1 false) (raw b9 (cat [[v0_1],[vI r47.1.1],[(Value.int .u64 r47.1.2)]])) (tog (bs.getD 2 false) (raw b9 (cat [[v0_1],[vI r49.1.1],[(Value.int .u64 r49.1.2)]])) (tog (bs.getD 3 false) (raw b9 (cat [[v0_1],[vI r51.1.1],[(Value.int .u64 r51.1.2)]])) (raw b9 (cat [[v0_1],[vI r53.1.1],[(Value.int .u64 r53.1.2)]])))))))) (mk1:=[_,_,_]) (mk2:=[]) hM rfl (by show tog (Yl D 14 4) (raw b9 (cat [[v0_1],[vI j19.1],[(Value.int .u64 j19.2.1)]])) (tog (Yl D 14 6) (raw b9 (cat [[v0_1],[vI r47.1.1],[(Value.int .u64 r47.1.2)]])) (tog (Yl D 14 14) (raw b9 (cat [[v0_1],[vI r49.1.1],[(Value.int .u64 r49.1.2)]])) (tog (Yl D 14 16) (raw b9 (cat [[v0_1],[vI r51.1.1],[(Value.int .u64 r51.1.2)]])) (raw b9 (cat [[v0_1],[vI r53.1.1],[(Value.int .u64 r53.1.2)]]))))) = _; rw [tg1 (K8 dC4),tg1 (K8 dC6),tg1 KF,tg0 (Bx (i:=14) hNx (by decide))]),hI.2.put hD rfl ZR rfl⟩
    ·intro a w ux46 D hE hI hD hdc hp
     have hM0:=hI.1
     exact Zc hE Za ld rfl fun a hE=>⟨_,_,rfl,hE,M.qKeep hM0 rfl,hI.2.put hD rfl ZR rfl⟩
    ·intro a w ux46 D hE hI hD hdc hp
     have d15 : D 15 = true:=hp 0 _ rfl rfl
     have g15:=hI.2 15 d15 _ rfl
     have f15 : ux46 15 = (ptr b9 0):=g15.2
     have hM0:=hI.1
     have hM : M (Old w0) w0 w [raw b17 (enc r11.2.2),raw b15 (enc r11.2.1),raw b13 (cat [[vI j19.2.2.1],enc j19.2.2.2.1,enc j19.2.2.2.2.1,enc j19.2.2.2.2.2.1,[vI j31]]),tog (D 19) (raw b1 (cat [[vI 0],enc (Vector.replicate 256 (0 : UInt8)),enc (Vector.replicate 4 (Vector.replicate 4 (0 : UInt8))),enc (Vector.replicate 16 (0 : UInt8)),[vI 0]])) (raw b1 (cat [[(vI ((⟨j19.2.2.1,j19.2.2.2.1,j19.2.2.2.2.1,j19.2.2.2.2.2.1,j31⟩ : GCipher).Field))],enc ((⟨j19.2.2.1,j19.2.2.2.1,j19.2.2.2.2.1,j19.2.2.2.2.2.1,j31⟩ : GCipher).Box),enc ((⟨j19.2.2.1,j19.2.2.2.1,j19.2.2.2.2.1,j19.2.2.2.2.2.1,j31⟩ : GCipher).Mix),enc ((⟨j19.2.2.1,j19.2.2.2.1,j19.2.2.2.2.1,j19.2.2.2.2.2.1,j31⟩ : GCipher).Places),[(vI ((⟨j19.2.2.1,j19.2.2.2.1,j19.2.2.2.2.1,j19.2.2.2.2.2.1,j31⟩ : GCipher).Rounds))]])),tog (D 20) (raw b3 (enc (Vector.replicate 16 (0 : UInt8)))) (raw b3 (enc r11.2.1)),tog (D 21) (raw b5 (enc (Vector.replicate 16 (0 : UInt8)))) (raw b5 (enc r11.2.2)),tog (D 4) (raw b9 (cat [[v0_1],[vI j19.1],[(Value.int .u64 j19.2.1)]])) (tog (D 6) (raw b9 (cat [[v0_1],[vI r47.1.1],[(Value.int .u64 r47.1.2)]])) (tog (D 14) (raw b9 (cat [[v0_1],[vI r49.1.1],[(Value.int .u64 r49.1.2)]])) (tog (D 16) (raw b9 (cat [[v0_1],[vI r51.1.1],[(Value.int .u64 r51.1.2)]])) (raw b9 (cat [[v0_1],[vI r53.1.1],[(Value.int .u64 r53.1.2)]])))))]:=hI.1
     have dC14 : D 14 = true:=hp 1 _ rfl rfl
     have dC6 : D 6 = true:=hdc 14 _ _ rfl (List.mem_of_getElem? (i:=2) rfl) rfl dC14
     have dC4 : D 4 = true:=hdc 6 _ _ rfl (List.mem_of_getElem? (i:=1) rfl) rfl dC6
     have hM:=M.tailP (m:=[_]) (((((hM.togB (pre:=[_,_,_,_,_,_]) dC4).togB (pre:=[_,_,_,_,_,_]) dC6).togB (pre:=[_,_,_,_,_,_]) dC14).togA (pre:=[_,_,_,_,_,_]) hD).pull (pre:=[_,_,_,_,_,_]))
     refine Zo hE Za ld (Z1 (ZX (lk rfl f15) (ZX rfl Xg))) VD (ZH _ _ _ _ b9 p0 v0_1 hv0_1 (r51.1.1,r51.1.2) 30 hM r53 e54) ?_
     rintro v w a ⟨rfl,hM⟩ hE
     have hM:=M.tailU (m:=[_]) hM
     simp only [List.cons_append,List.nil_append] at hM
     exact ⟨_,_,rfl,hE,M.qTogS (p:=([4,6,14,16],fun bs _=>(tog (bs.getD 0 false) (raw b9 (cat [[v0_1],[vI j19.1],[(Value.int .u64 j19.2.1)]])) (tog (bs.getD 1 false) (raw b9 (cat [[v0_1],[vI r47.1.1],[(Value.int .u64 r47.1.2)]])) (tog (bs.getD 2 false) (raw b9 (cat [[v0_1],[vI r49.1.1],[(Value.int .u64 r49.1.2)]])) (tog (bs.getD 3 false) (raw b9 (cat [[v0_1],[vI r51.1.1],[(Value.int .u64 r51.1.2)]])) (raw b9 (cat [[v0_1],[vI r53.1.1],[(Value.int .u64 r53.1.2)]])))))))) (mk1:=[_,_,_]) (mk2:=[]) hM rfl (by show tog (Yl D 16 4) (raw b9 (cat [[v0_1],[vI j19.1],[(Value.int .u64 j19.2.1)]])) (tog (Yl D 16 6) (raw b9 (cat [[v0_1],[vI r47.1.1],[(Value.int .u64 r47.1.2)]])) (tog (Yl D 16 14) (raw b9 (cat [[v0_1],[vI r49.1.1],[(Value.int .u64 r49.1.2)]])) (tog (Yl D 16 16) (raw b9 (cat [[v0_1],[vI r51.1.1],[(Value.int .u64 r51.1.2)]])) (raw b9 (cat [[v0_1],[vI r53.1.1],[(Value.int .u64 r53.1.2)]]))))) = _; rw [tg1 (K8 dC4),tg1 (K8 dC6),tg1 (K8 dC14),tg1 KF]),hI.2.put hD rfl ZR rfl⟩
    ·intro a w ux46 D hE hI hD hdc hp
     have d16 : D 16 = true:=hp 0 _ rfl rfl
     have g16:=hI.2 16 d16 _ rfl
     have f16 : ux46 16 = (vI r53.2):=g16.2
     have hM0:=hI.1
     exact Zm hE Za ld (lk rfl f16) rfl (Qf _ _ (by decide)) fun a hE=>⟨_,_,rfl,hE,M.qKeep hM0 rfl,hI.2.put hD rfl ZR rfl⟩
    ·intro a w ux46 D hE hI hD hdc hp
     have d14 : D 14 = true:=hp 0 _ rfl rfl
     have g14:=hI.2 14 d14 _ rfl
     have f14 : ux46 14 = (vI r51.2):=g14.2
     have d17 : D 17 = true:=hp 1 _ rfl rfl
     have g17:=hI.2 17 d17 _ rfl
     have f17 : ux46 17 = (vI (wr (Int.tdiv r53.2 29))):=g17.2
     have hM0:=hI.1
     exact Zm hE Za ld (lk rfl f14) (lk rfl f17) rfl fun a hE=>⟨_,_,rfl,hE,M.qKeep hM0 rfl,hI.2.put hD rfl ZR rfl⟩
    ·intro a w ux46 D hE hI hD hdc hp
     have d0 : D 0 = true:=hp 0 _ rfl rfl
     have g0:=hI.2 0 d0 _ rfl
     have f0 : ux46 0 = (Value.agg (enc (⟨j19.2.2.1,j19.2.2.2.1,j19.2.2.2.2.1,j19.2.2.2.2.2.1,j31⟩ : GCipher)).toArray):=g0.2
     have hM0:=hI.1
     have hM:=(hI.1.togA (pre:=[_,_,_]) hD).pull (pre:=[_,_,_])
     exact Zi (seg:=cat [[(vI ((⟨j19.2.2.1,j19.2.2.2.1,j19.2.2.2.2.1,j19.2.2.2.2.2.1,j31⟩ : GCipher).Field))],enc ((⟨j19.2.2.1,j19.2.2.2.1,j19.2.2.2.2.1,j19.2.2.2.2.2.1,j31⟩ : GCipher).Box),enc ((⟨j19.2.2.1,j19.2.2.2.1,j19.2.2.2.2.1,j19.2.2.2.2.2.1,j31⟩ : GCipher).Mix),enc ((⟨j19.2.2.1,j19.2.2.2.1,j19.2.2.2.2.1,j19.2.2.2.2.2.1,j31⟩ : GCipher).Places),[(vI ((⟨j19.2.2.1,j19.2.2.2.1,j19.2.2.2.2.1,j19.2.2.2.2.2.1,j31⟩ : GCipher).Rounds))]]) (cs':=cat [[(vI ((⟨j19.2.2.1,j19.2.2.2.1,j19.2.2.2.2.1,j19.2.2.2.2.2.1,j31⟩ : GCipher).Field))],enc ((⟨j19.2.2.1,j19.2.2.2.1,j19.2.2.2.2.1,j19.2.2.2.2.2.1,j31⟩ : GCipher).Box),enc ((⟨j19.2.2.1,j19.2.2.2.1,j19.2.2.2.2.1,j19.2.2.2.2.2.1,j31⟩ : GCipher).Mix),enc ((⟨j19.2.2.1,j19.2.2.2.1,j19.2.2.2.2.1,j19.2.2.2.2.2.1,j31⟩ : GCipher).Places),[(vI ((⟨j19.2.2.1,j19.2.2.2.1,j19.2.2.2.2.1,j19.2.2.2.2.2.1,j31⟩ : GCipher).Rounds))]]) hE hM Za rfl (lk rfl f0) rfl Z8 (Zl (cl1 (n:=1) (m:=289) rfl (cl1 (n:=256) (m:=33) (Flat.len _) (cl1 (n:=16) (m:=17) (Flat.len _) (cl1 (n:=16) (m:=1) (Flat.len _) (cl1 (n:=1) (m:=0) rfl cl0)))))) (Nat.le_of_eq ((Nat.zero_add _).trans (Eq.trans (Zl (cl1 (n:=1) (m:=289) rfl (cl1 (n:=256) (m:=33) (Flat.len _) (cl1 (n:=16) (m:=17) (Flat.len _) (cl1 (n:=16) (m:=1) (Flat.len _) (cl1 (n:=1) (m:=0) rfl cl0)))))) (Eq.symm (Zl (cl1 (n:=1) (m:=289) rfl (cl1 (n:=256) (m:=33) (Flat.len _) (cl1 (n:=16) (m:=17) (Flat.len _) (cl1 (n:=16) (m:=1) (Flat.len _) (cl1 (n:=1) (m:=0) rfl cl0)))))))))) (Yq (cc1 (Flat.cell ((⟨j19.2.2.1,j19.2.2.2.1,j19.2.2.2.2.1,j19.2.2.2.2.2.1,j31⟩ : GCipher).Field : Int)) (cc1 (Flat.cell _) (cc1 (Flat.cell _) (cc1 (Flat.cell _) (cc1 (Flat.cell ((⟨j19.2.2.1,j19.2.2.2.1,j19.2.2.2.2.1,j19.2.2.2.2.2.1,j31⟩ : GCipher).Rounds : Int)) cc0)))))) (Zg (Eq.trans (Zl (cl1 (n:=1) (m:=289) rfl (cl1 (n:=256) (m:=33) (Flat.len _) (cl1 (n:=16) (m:=17) (Flat.len _) (cl1 (n:=16) (m:=1) (Flat.len _) (cl1 (n:=1) (m:=0) rfl cl0)))))) (Eq.symm (Zl (cl1 (n:=1) (m:=289) rfl (cl1 (n:=256) (m:=33) (Flat.len _) (cl1 (n:=16) (m:=17) (Flat.len _) (cl1 (n:=16) (m:=1) (Flat.len _) (cl1 (n:=1) (m:=0) rfl cl0))))))))) fun w a hM hE=>⟨undef,_,rfl,Env.dummy hE (by decide),M.qTog (mk1:=[]) (mk2:=[_,_,_]) hM rfl,hI.2.put hD rfl ZR trivial⟩
    ·intro a w ux46 D hE hI hD hdc hp
     have d1 : D 1 = true:=hp 0 _ rfl rfl
     have g1:=hI.2 1 d1 _ rfl
     have f1 : ux46 1 = (Value.agg (enc r11.2.1).toArray):=g1.2
     have hM0:=hI.1
     have hM:=(hI.1.togA (pre:=[_,_,_,_]) hD).pull (pre:=[_,_,_,_])
     exact Zi (seg:=enc r11.2.1) (cs':=enc r11.2.1) hE hM Za rfl (lk rfl f1) rfl Zw (Flat.len _) (zle flq) (Flat.cell _) (Zg flq) fun w a hM hE=>⟨undef,_,rfl,Env.dummy hE (by decide),M.qTog (mk1:=[_]) (mk2:=[_,_]) hM rfl,hI.2.put hD rfl ZR trivial⟩
    ·intro a w ux46 D hE hI hD hdc hp
     have d2 : D 2 = true:=hp 0 _ rfl rfl
     have g2:=hI.2 2 d2 _ rfl
     have f2 : ux46 2 = (Value.agg (enc r11.2.2).toArray):=g2.2
     have hM0:=hI.1
     have hM:=(hI.1.togA (pre:=[_,_,_,_,_]) hD).pull (pre:=[_,_,_,_,_])
     exact Zi (seg:=enc r11.2.2) (cs':=enc r11.2.2) hE hM Za rfl (lk rfl f2) rfl Zw (Flat.len _) (zle flq) (Flat.cell _) (Zg flq) fun w a hM hE=>⟨undef,_,rfl,Env.dummy hE (by decide),M.qTog (mk1:=[_,_]) (mk2:=[_]) hM rfl,hI.2.put hD rfl ZR trivial⟩
    ·intro a w ux46 D hE hI hD hdc hp
     have d8 : D 8 = true:=hp 0 _ rfl rfl
     have g8:=hI.2 8 d8 _ rfl
     have f8 : ux46 8 = (vI (wr (r47.2 - (wr (Int.tdiv r49.2 29))))):=g8.2
     have hM0:=hI.1
     have hM:=((hI.1.togB (pre:=[_,_,_]) (hp 21 _ rfl rfl)).togB (pre:=[_,_,_,_]) (hp 22 _ rfl rfl)).togB (pre:=[_,_,_,_,_]) (hp 1 _ rfl rfl)
     exact Ze hE Za ld (lk rfl f8) fun a hE=>⟨_,_,rfl,hE,M.qKeep hM0 rfl,hI.2.put hD rfl ZR rfl⟩
    ·intro a w ux46 D hE hI hall
     have hM:=hI.1
     have d0 : D 0 = true:=hall 0 (by decide)
     have d1 : D 1 = true:=hall 1 (by decide)
     have d2 : D 2 = true:=hall 2 (by decide)
     have d3 : D 3 = true:=hall 3 (by decide)
     have d4 : D 4 = true:=hall 4 (by decide)
     have d5 : D 5 = true:=hall 5 (by decide)
     have d6 : D 6 = true:=hall 6 (by decide)
     have d7 : D 7 = true:=hall 7 (by decide)
     have d8 : D 8 = true:=hall 8 (by decide)
     have d9 : D 9 = true:=hall 9 (by decide)
     have d10 : D 10 = true:=hall 10 (by decide)
     have d11 : D 11 = true:=hall 11 (by decide)
     have d12 : D 12 = true:=hall 12 (by decide)
     have d13 : D 13 = true:=hall 13 (by decide)
     have d14 : D 14 = true:=hall 14 (by decide)
     have d15 : D 15 = true:=hall 15 (by decide)
     have d16 : D 16 = true:=hall 16 (by decide)
     have d17 : D 17 = true:=hall 17 (by decide)
     have d18 : D 18 = true:=hall 18 (by decide)
     have d19 : D 19 = true:=hall 19 (by decide)
     have d20 : D 20 = true:=hall 20 (by decide)
     have d21 : D 21 = true:=hall 21 (by decide)
     have d22 : D 22 = true:=hall 22 (by decide)
     have f0 : ux46 0 = (Value.agg (enc (⟨j19.2.2.1,j19.2.2.2.1,j19.2.2.2.2.1,j19.2.2.2.2.2.1,j31⟩ : GCipher)).toArray):=(hI.2 0 d0 _ rfl).2
     have f1 : ux46 1 = (Value.agg (enc r11.2.1).toArray):=(hI.2 1 d1 _ rfl).2
     have f2 : ux46 2 = (Value.agg (enc r11.2.2).toArray):=(hI.2 2 d2 _ rfl).2
     have f3 : ux46 3 = (ptr b9 0):=(hI.2 3 d3 _ rfl).2
     have f4 : ux46 4 = (vI r47.2):=(hI.2 4 d4 _ rfl).2
     have f5 : ux46 5 = (ptr b9 0):=(hI.2 5 d5 _ rfl).2
     have f6 : ux46 6 = (vI r49.2):=(hI.2 6 d6 _ rfl).2
     have f7 : ux46 7 = (vI (wr (Int.tdiv r49.2 29))):=(hI.2 7 d7 _ rfl).2
     have f8 : ux46 8 = (vI (wr (r47.2 - (wr (Int.tdiv r49.2 29))))):=(hI.2 8 d8 _ rfl).2
     have f9 : ux46 9 = (ptr b9 0):=(hI.2 9 d9 _ rfl).2
     have f10 : ux46 10 = (ptr b13 (0 + 289)):=(hI.2 10 d10 _ rfl).2
     have f11 : ux46 11 = (vI j31):=(hI.2 11 d11 _ rfl).2
     have f12 : ux46 12 = (vI (wr (j31 + 1))):=(hI.2 12 d12 _ rfl).2
     have f13 : ux46 13 = (vI (if (wr (j31 + 1)) > 1 then (wr (j31 + 1)) else 1)):=(hI.2 13 d13 _ rfl).2
     have f14 : ux46 14 = (vI r51.2):=(hI.2 14 d14 _ rfl).2
     have f15 : ux46 15 = (ptr b9 0):=(hI.2 15 d15 _ rfl).2
     have f16 : ux46 16 = (vI r53.2):=(hI.2 16 d16 _ rfl).2
     have f17 : ux46 17 = (vI (wr (Int.tdiv r53.2 29))):=(hI.2 17 d17 _ rfl).2
     have f18 : ux46 18 = (vI (wr (r51.2 - (wr (Int.tdiv r53.2 29))))):=(hI.2 18 d18 _ rfl).2
     have f22 : ux46 22 = (vI (wr (r47.2 - (wr (Int.tdiv r49.2 29))))):=(hI.2 22 d22 _ rfl).2
     have hM:=((((((hM.togB (pre:=[_,_,_]) d19).togB (pre:=[_,_,_,_]) d20).togB (pre:=[_,_,_,_,_]) d21).togB (pre:=[_,_,_,_,_,_]) d4).togB (pre:=[_,_,_,_,_,_]) d6).togB (pre:=[_,_,_,_,_,_]) d14).togB (pre:=[_,_,_,_,_,_]) d16
     have hE:=hE.sub (e':=[(53,(vI (wr (r51.2 - (wr (Int.tdiv r53.2 29)))))),(5,(vI (wr (r47.2 - (wr (Int.tdiv r49.2 29)))))),(2,(ptr b1 0)),(3,(ptr b3 0)),(4,(ptr b5 0))]) ⟨lk rfl f18,lk rfl f22,rfl,rfl,rfl,trivial⟩
     refine Ze hE Za ld rfl fun a hE=>Zk ?_
     have ht55:=Option.some.inj hl44
     subst ht55
     refine Zn ?_
     have hM:=M.fst (l:=[_,_,_]) (((hM.pull (pre:=[_,_,_])).pull (pre:=[_,_,_,_])).pull (pre:=[_,_,_,_,_]))
     exact ⟨hE.sub ⟨rfl,rfl,rfl,rfl,rfl,trivial⟩,hM⟩
   ·skip
    rintro a w ⟨hE,hM⟩
    have hr:=Option.some.inj hF45
    subst hr
    have hq56 : ZY Try.prog _ _ (.cell 2 61) _:=ZM hE rfl Z8 rfl (hM.rawAt (pre:=[_,_])) (Zl (cl1 (n:=1) (m:=289) rfl (cl1 (n:=256) (m:=33) (Flat.len _) (cl1 (n:=16) (m:=17) (Flat.len _) (cl1 (n:=16) (m:=1) (Flat.len _) (cl1 (n:=1) (m:=0) rfl cl0)))))) rfl
    have hq57 : ZY Try.prog _ _ (.cell 3 62) _:=ZM hE rfl Zw rfl (hM.rawAt (pre:=[_])) (Flat.len _) rfl
    have hq58 : ZY Try.prog _ _ (.cell 4 62) _:=ZM hE rfl Zw rfl (hM.rawAt (pre:=[])) (Flat.len _) rfl
    have hM:=M.fst (l:=[]) hM
    exact wp_ret (k_ret5 hE rfl hq56 hq57 hq58 (Zx hE rfl) (Zx hE rfl) ⟨_,rfl,rfl,hM.kept⟩)
def Y0 (p0 : (List UInt8)) : Option (GCipher × Int × Int × (Vector UInt8 16)) :=
 (Xk p0).bind fun r5=>(WJ p0).bind fun r9=>((ZC p0 (r5.1,r5.2) 257).bind fun r21=>(ZC p0 (r21.1.1,r21.1.2) 257).bind fun r23=>(ZC p0 (r23.1.1,r23.1.2) 24).bind fun r25=>some (r9.1.Field,r9.1.Box,r9.1.Mix,r9.1.Places,r9.1.Rounds,r9.2.2.1,r21.2,wr (r23.2 - (wr (Int.tdiv r25.2 23)))) : Option (Int × (Vector UInt8 256) × (Vector (Vector UInt8 4) 4) × (Vector UInt8 16) × Int × (Vector UInt8 16) × Int × Int)).bind fun j17=>some ((⟨j17.1,j17.2.1,j17.2.2.1,j17.2.2.2.1,j17.2.2.2.2.1⟩ : GCipher),j17.2.2.2.2.2.2.1,j17.2.2.2.2.2.2.2,j17.2.2.2.2.2.1)
theorem Qg (w0 : World) (p0 : (List UInt8)) (v0_1 : Value) (hv0_1 : Ro w0 p0 [v0_1]) (r : GCipher × Int × Int × (Vector UInt8 16)) (hF : Y0 p0 = some r) :
  Calls Try.prog 27 [v0_1].toArray w0 (fun en w'=>∃ v,en = .returned v ∧ (v = (Value.tuple [(Value.agg (enc r.1).toArray),vI r.2.1,vI r.2.2.1,(Value.agg (enc r.2.2.2).toArray)].toArray) ∧ Kept (Old w0) w0 w')):=by
 refine ZJ (n:=32) Try.func27 rfl rfl (nbl rfl) rfl ?_
 intro a hE
 have hM:=M.start w0
 unfold Y0 at hF
 refine Zd (Zu hE hM Za ld Z8 fun b1 w a hM hE=>Ze hE Za ld rfl fun a hE=>Ze hE Za ld rfl fun a hE=>Zu hE hM Za ld Zw fun b3 w a hM hE=>Zf (Zd (Zc hE Za ld rfl ?_))); intro a hE
 have hM:=M.tailP (m:=[]) hM
 obtain ⟨r5,e6,hF⟩:=bind_some hF
 refine Zo hE Za ld rfl cb47 (V9 _ _ _ _ p0 v0_1 hv0_1 hM r5 e6) ?_
 rintro v w a ⟨b7,rfl,hM⟩ hE
 have hM:=M.tailU (m:=[_]) hM
 simp only [List.cons_append,List.nil_append] at hM
 refine Ze hE Za ld rfl fun a hE=>Zf (Zd (Zc hE Za ld rfl ?_)); intro a hE
 obtain ⟨r9,e10,hF⟩:=bind_some hF
 refine Zo hE Za ld rfl cb85 (TY _ p0 v0_1 (hM.rdo hv0_1) r9 e10) ?_
 rintro v w a ⟨rfl,hK⟩ hE
 have hM:=hM.keep hK
 refine Zc hE Za ld rfl fun a hE=>Zy hE Za ld rfl rfl fun a hE=>Zy hE Za ld rfl rfl fun a hE=>Zy hE Za ld rfl rfl fun a hE=>Zy hE Za ld rfl rfl fun a hE=>Zy hE Za ld rfl rfl fun a hE=>Zu hE hM Za ld Z8 fun b11 w a hM hE=>Zu hE hM Za ld Zw fun b13 w a hM hE=>Zu hE hM Za ld Zw ?_; intro b15 w a hM hE
 have hM:=hM.pull (pre:=[_,_])
 refine Zi (seg:=cat [[vI r9.1.Field],enc r9.1.Box,enc r9.1.Mix,enc r9.1.Places,[vI r9.1.Rounds]]) (cs':=cat [[vI r9.1.Field],enc r9.1.Box,enc r9.1.Mix,enc r9.1.Places,[vI r9.1.Rounds]]) hE hM Za rfl rfl rfl Z8 (Zl (cl1 (n:=1) (m:=289) rfl (cl1 (n:=256) (m:=33) (Flat.len _) (cl1 (n:=16) (m:=17) (Flat.len _) (cl1 (n:=16) (m:=1) (Flat.len _) (cl1 (n:=1) (m:=0) rfl cl0)))))) (Nat.le_of_eq ((Nat.zero_add _).trans (Eq.trans (Zl (cl1 (n:=1) (m:=289) rfl (cl1 (n:=256) (m:=33) (Flat.len _) (cl1 (n:=16) (m:=17) (Flat.len _) (cl1 (n:=16) (m:=1) (Flat.len _) (cl1 (n:=1) (m:=0) rfl cl0)))))) (Eq.symm (Zl (cl1 (n:=1) (m:=289) rfl (cl1 (n:=256) (m:=33) (Flat.len _) (cl1 (n:=16) (m:=17) (Flat.len _) (cl1 (n:=16) (m:=1) (Flat.len _) (cl1 (n:=1) (m:=0) rfl cl0)))))))))) (Yq (cc1 (Flat.cell (r9.1.Field : Int)) (cc1 (Flat.cell _) (cc1 (Flat.cell _) (cc1 (Flat.cell _) (cc1 (Flat.cell (r9.1.Rounds : Int)) cc0)))))) (Zg (Eq.trans (Zl (cl1 (n:=1) (m:=289) rfl (cl1 (n:=256) (m:=33) (Flat.len _) (cl1 (n:=16) (m:=17) (Flat.len _) (cl1 (n:=16) (m:=1) (Flat.len _) (cl1 (n:=1) (m:=0) rfl cl0)))))) (Eq.symm (Zl (cl1 (n:=1) (m:=289) rfl (cl1 (n:=256) (m:=33) (Flat.len _) (cl1 (n:=16) (m:=17) (Flat.len _) (cl1 (n:=16) (m:=1) (Flat.len _) (cl1 (n:=1) (m:=0) rfl cl0))))))))) ?_; intro w a hM hE
 have hM:=hM.pull (pre:=[_,_])
 refine Zi (seg:=enc r9.2.1) (cs':=enc r9.2.1) hE hM Za rfl rfl rfl Zw (Flat.len _) (zle flq) (Flat.cell _) (Zg flq) ?_; intro w a hM hE
 have hM:=hM.pull (pre:=[_,_])
 refine Zi (seg:=enc r9.2.2.1) (cs':=enc r9.2.2.1) hE hM Za rfl rfl rfl Zw (Flat.len _) (zle flq) (Flat.cell _) (Zg flq) fun w a hM hE=>Ze hE Za ld rfl fun a hE=>Ze hE Za ld rfl fun a hE=>Zf ?_
 obtain ⟨j17,hl18,hF19⟩:=bind_some hF
 refine ZT (fun a w=>Env 32 a [(2,(ptr b1 0)),(3,vI j17.2.2.2.2.2.2.1),(4,vI j17.2.2.2.2.2.2.2),(5,(ptr b3 0))] ∧ M (Old w0) w0 w [raw b3 (enc j17.2.2.2.2.2.1),raw b1 (cat [[vI j17.1],enc j17.2.1,enc j17.2.2.1,enc j17.2.2.2.1,[vI j17.2.2.2.2.1]])]) ?_ ?_
 ·skip
  have hM:=(hM.pull (pre:=[_,_,_,_,_])).pull (pre:=[_,_,_,_])
  obtain ⟨r21,e22,hl18⟩:=bind_some hl18
  obtain ⟨r23,e24,hl18⟩:=bind_some hl18
  obtain ⟨r25,e26,hl18⟩:=bind_some hl18
  refine Vj (n:=32) (hd:=[_,_,_,_,_,_,_,_,_,_,_,_,_]) (tl:=[_]) YS rfl rfl [22,23,24,25,26,27,28,29,30,31,42,3,4] (by decide) (fun D u w=>M (Old w0) w0 w ([raw b15 (enc r9.2.2.1),raw b13 (enc r9.2.1),raw b11 (cat [[vI r9.1.Field],enc r9.1.Box,enc r9.1.Mix,enc r9.1.Places,[vI r9.1.Rounds]]),raw b3 (enc (Vector.replicate 16 (0 : UInt8)))] ++ qL ([mkT 10 (raw b1 (cat [[vI 0],enc (Vector.replicate 256 (0 : UInt8)),enc (Vector.replicate 4 (Vector.replicate 4 (0 : UInt8))),enc (Vector.replicate 16 (0 : UInt8)),[vI 0]])) (raw b1 (cat [[vI r9.1.Field],enc r9.1.Box,enc r9.1.Mix,enc r9.1.Places,[vI r9.1.Rounds]])),([2,4,6],fun bs _=>(tog (bs.getD 0 false) (raw b7 (cat [[v0_1],[vI r5.1],[(Value.int .u64 r5.2)]])) (tog (bs.getD 1 false) (raw b7 (cat [[v0_1],[vI r21.1.1],[(Value.int .u64 r21.1.2)]])) (tog (bs.getD 2 false) (raw b7 (cat [[v0_1],[vI r23.1.1],[(Value.int .u64 r23.1.2)]])) (raw b7 (cat [[v0_1],[vI r25.1.1],[(Value.int .u64 r25.1.2)]]))))))] : Mk) D u) ∧ GOk ([([],fun us v=>v = (Value.agg (enc r9.1).toArray)),([],fun us v=>v = (ptr b7 0)),([],fun us v=>v = (vI r21.2)),([],fun us v=>v = (ptr b7 0)),([],fun us v=>v = (vI r23.2)),([],fun us v=>v = (ptr b7 0)),([],fun us v=>v = (vI r25.2)),([],fun us v=>v = (vI (wr (Int.tdiv r25.2 23)))),([],fun us v=>v = (vI (wr (r23.2 - (wr (Int.tdiv r25.2 23)))))),([],fun us v=>v = (Value.agg (enc r9.2.2.1).toArray)),([],fun us v=>True),([],fun us v=>v = (vI r21.2)),([],fun us v=>v = (vI (wr (r23.2 - (wr (Int.tdiv r25.2 23))))))] : Gs) D u) hE (fun u=>⟨M.qT (M.qS (M.q0 hM.drew u) fun _=>rfl),KH⟩) (ZS (Zb ?_ (Zb ?_ (Zb ?_ (Zb ?_ (Zb ?_ (Zb ?_ (Zb ?_ (Zb ?_ (Zb ?_ (Zb ?_ (Zb ?_ (Zb ?_ (Zb ?_ ZL)))))))))))))) ?_
  ·intro a w ux20 D hE hI hD hdc hp
   have hM0:=hI.1
   have hM:=hI.1
   have hM:=hM.togA (pre:=[_,_,_,_]) (Bool.eq_false_iff.2 fun hx=>Bool.noConfusion (hD.symm.trans (hdc 10 _ _ rfl (List.mem_of_getElem? (i:=0) rfl) rfl hx)))
   exact Zj (cs:=enc r9.1) hE Za ld rfl Z8 rfl (hM.rawAt (pre:=[_,_])) (Zl (cl1 (n:=1) (m:=289) rfl (cl1 (n:=256) (m:=33) (Flat.len _) (cl1 (n:=16) (m:=17) (Flat.len _) (cl1 (n:=16) (m:=1) (Flat.len _) (cl1 (n:=1) (m:=0) rfl cl0)))))) fun a hE=>⟨_,_,rfl,hE,M.qKeep hM0 rfl,hI.2.put hD rfl ZR rfl⟩
  ·intro a w ux20 D hE hI hD hdc hp
   have hM0:=hI.1
   exact Zc hE Za ld rfl fun a hE=>⟨_,_,rfl,hE,M.qKeep hM0 rfl,hI.2.put hD rfl ZR rfl⟩
  ·intro a w ux20 D hE hI hD hdc hp
   have d1 : D 1 = true:=hp 0 _ rfl rfl
   have g1:=hI.2 1 d1 _ rfl
   have f1 : ux20 1 = (ptr b7 0):=g1.2
   have hM0:=hI.1
   have hM : M (Old w0) w0 w [raw b15 (enc r9.2.2.1),raw b13 (enc r9.2.1),raw b11 (cat [[vI r9.1.Field],enc r9.1.Box,enc r9.1.Mix,enc r9.1.Places,[vI r9.1.Rounds]]),raw b3 (enc (Vector.replicate 16 (0 : UInt8))),tog (D 10) (raw b1 (cat [[vI 0],enc (Vector.replicate 256 (0 : UInt8)),enc (Vector.replicate 4 (Vector.replicate 4 (0 : UInt8))),enc (Vector.replicate 16 (0 : UInt8)),[vI 0]])) (raw b1 (cat [[vI r9.1.Field],enc r9.1.Box,enc r9.1.Mix,enc r9.1.Places,[vI r9.1.Rounds]])),tog (D 2) (raw b7 (cat [[v0_1],[vI r5.1],[(Value.int .u64 r5.2)]])) (tog (D 4) (raw b7 (cat [[v0_1],[vI r21.1.1],[(Value.int .u64 r21.1.2)]])) (tog (D 6) (raw b7 (cat [[v0_1],[vI r23.1.1],[(Value.int .u64 r23.1.2)]])) (raw b7 (cat [[v0_1],[vI r25.1.1],[(Value.int .u64 r25.1.2)]]))))]:=hI.1
   have hM:=hM.togA (pre:=[_,_,_,_,_]) hD
   have hNx : D 4 = false:=Bool.eq_false_iff.2 fun hx=>Bool.noConfusion (hD.symm.trans (hdc 4 _ _ rfl (List.mem_of_getElem? (i:=1) rfl) rfl hx))
   have hM:=M.tailP (m:=[_]) (hM.pull (pre:=[_,_,_,_,_]))
   refine Zo hE Za ld (Z1 (ZX (lk rfl f1) (ZX rfl Xg))) VD (ZH _ _ _ _ b7 p0 v0_1 hv0_1 (r5.1,r5.2) 257 hM r21 e22) ?_
   rintro v w a ⟨rfl,hM⟩ hE
   have hM:=M.tailU (m:=[_]) hM
   simp only [List.cons_append,List.nil_append] at hM
   exact ⟨_,_,rfl,hE,M.qTogS (p:=([2,4,6],fun bs _=>(tog (bs.getD 0 false) (raw b7 (cat [[v0_1],[vI r5.1],[(Value.int .u64 r5.2)]])) (tog (bs.getD 1 false) (raw b7 (cat [[v0_1],[vI r21.1.1],[(Value.int .u64 r21.1.2)]])) (tog (bs.getD 2 false) (raw b7 (cat [[v0_1],[vI r23.1.1],[(Value.int .u64 r23.1.2)]])) (raw b7 (cat [[v0_1],[vI r25.1.1],[(Value.int .u64 r25.1.2)]]))))))) (mk1:=[_]) (mk2:=[]) hM rfl (by show tog (Yl D 2 2) (raw b7 (cat [[v0_1],[vI r5.1],[(Value.int .u64 r5.2)]])) (tog (Yl D 2 4) (raw b7 (cat [[v0_1],[vI r21.1.1],[(Value.int .u64 r21.1.2)]])) (tog (Yl D 2 6) (raw b7 (cat [[v0_1],[vI r23.1.1],[(Value.int .u64 r23.1.2)]])) (raw b7 (cat [[v0_1],[vI r25.1.1],[(Value.int .u64 r25.1.2)]])))) = _; rw [tg1 KF,tg0 (Bx (i:=2) hNx (by decide))]),hI.2.put hD rfl ZR rfl⟩
  ·intro a w ux20 D hE hI hD hdc hp
   have hM0:=hI.1
   exact Zc hE Za ld rfl fun a hE=>⟨_,_,rfl,hE,M.qKeep hM0 rfl,hI.2.put hD rfl ZR rfl⟩
  ·intro a w ux20 D hE hI hD hdc hp
   have d3 : D 3 = true:=hp 0 _ rfl rfl
   have g3:=hI.2 3 d3 _ rfl
   have f3 : ux20 3 = (ptr b7 0):=g3.2
   have hM0:=hI.1
   have hM : M (Old w0) w0 w [raw b15 (enc r9.2.2.1),raw b13 (enc r9.2.1),raw b11 (cat [[vI r9.1.Field],enc r9.1.Box,enc r9.1.Mix,enc r9.1.Places,[vI r9.1.Rounds]]),raw b3 (enc (Vector.replicate 16 (0 : UInt8))),tog (D 10) (raw b1 (cat [[vI 0],enc (Vector.replicate 256 (0 : UInt8)),enc (Vector.replicate 4 (Vector.replicate 4 (0 : UInt8))),enc (Vector.replicate 16 (0 : UInt8)),[vI 0]])) (raw b1 (cat [[vI r9.1.Field],enc r9.1.Box,enc r9.1.Mix,enc r9.1.Places,[vI r9.1.Rounds]])),tog (D 2) (raw b7 (cat [[v0_1],[vI r5.1],[(Value.int .u64 r5.2)]])) (tog (D 4) (raw b7 (cat [[v0_1],[vI r21.1.1],[(Value.int .u64 r21.1.2)]])) (tog (D 6) (raw b7 (cat [[v0_1],[vI r23.1.1],[(Value.int .u64 r23.1.2)]])) (raw b7 (cat [[v0_1],[vI r25.1.1],[(Value.int .u64 r25.1.2)]]))))]:=hI.1
   have dC2 : D 2 = true:=hp 1 _ rfl rfl
   have hM:=(hM.togB (pre:=[_,_,_,_,_]) dC2).togA (pre:=[_,_,_,_,_]) hD
   have hNx : D 6 = false:=Bool.eq_false_iff.2 fun hx=>Bool.noConfusion (hD.symm.trans (hdc 6 _ _ rfl (List.mem_of_getElem? (i:=1) rfl) rfl hx))
   have hM:=M.tailP (m:=[_]) (hM.pull (pre:=[_,_,_,_,_]))
   refine Zo hE Za ld (Z1 (ZX (lk rfl f3) (ZX rfl Xg))) VD (ZH _ _ _ _ b7 p0 v0_1 hv0_1 (r21.1.1,r21.1.2) 257 hM r23 e24) ?_
   rintro v w a ⟨rfl,hM⟩ hE
   have hM:=M.tailU (m:=[_]) hM
   simp only [List.cons_append,List.nil_append] at hM
   exact ⟨_,_,rfl,hE,M.qTogS (p:=([2,4,6],fun bs _=>(tog (bs.getD 0 false) (raw b7 (cat [[v0_1],[vI r5.1],[(Value.int .u64 r5.2)]])) (tog (bs.getD 1 false) (raw b7 (cat [[v0_1],[vI r21.1.1],[(Value.int .u64 r21.1.2)]])) (tog (bs.getD 2 false) (raw b7 (cat [[v0_1],[vI r23.1.1],[(Value.int .u64 r23.1.2)]])) (raw b7 (cat [[v0_1],[vI r25.1.1],[(Value.int .u64 r25.1.2)]]))))))) (mk1:=[_]) (mk2:=[]) hM rfl (by show tog (Yl D 4 2) (raw b7 (cat [[v0_1],[vI r5.1],[(Value.int .u64 r5.2)]])) (tog (Yl D 4 4) (raw b7 (cat [[v0_1],[vI r21.1.1],[(Value.int .u64 r21.1.2)]])) (tog (Yl D 4 6) (raw b7 (cat [[v0_1],[vI r23.1.1],[(Value.int .u64 r23.1.2)]])) (raw b7 (cat [[v0_1],[vI r25.1.1],[(Value.int .u64 r25.1.2)]])))) = _; rw [tg1 (K8 dC2),tg1 KF,tg0 (Bx (i:=4) hNx (by decide))]),hI.2.put hD rfl ZR rfl⟩
  ·intro a w ux20 D hE hI hD hdc hp
   have hM0:=hI.1
   exact Zc hE Za ld rfl fun a hE=>⟨_,_,rfl,hE,M.qKeep hM0 rfl,hI.2.put hD rfl ZR rfl⟩
  ·intro a w ux20 D hE hI hD hdc hp
   have d5 : D 5 = true:=hp 0 _ rfl rfl
   have g5:=hI.2 5 d5 _ rfl
   have f5 : ux20 5 = (ptr b7 0):=g5.2
   have hM0:=hI.1
   have hM : M (Old w0) w0 w [raw b15 (enc r9.2.2.1),raw b13 (enc r9.2.1),raw b11 (cat [[vI r9.1.Field],enc r9.1.Box,enc r9.1.Mix,enc r9.1.Places,[vI r9.1.Rounds]]),raw b3 (enc (Vector.replicate 16 (0 : UInt8))),tog (D 10) (raw b1 (cat [[vI 0],enc (Vector.replicate 256 (0 : UInt8)),enc (Vector.replicate 4 (Vector.replicate 4 (0 : UInt8))),enc (Vector.replicate 16 (0 : UInt8)),[vI 0]])) (raw b1 (cat [[vI r9.1.Field],enc r9.1.Box,enc r9.1.Mix,enc r9.1.Places,[vI r9.1.Rounds]])),tog (D 2) (raw b7 (cat [[v0_1],[vI r5.1],[(Value.int .u64 r5.2)]])) (tog (D 4) (raw b7 (cat [[v0_1],[vI r21.1.1],[(Value.int .u64 r21.1.2)]])) (tog (D 6) (raw b7 (cat [[v0_1],[vI r23.1.1],[(Value.int .u64 r23.1.2)]])) (raw b7 (cat [[v0_1],[vI r25.1.1],[(Value.int .u64 r25.1.2)]]))))]:=hI.1
   have dC4 : D 4 = true:=hp 1 _ rfl rfl
   have dC2 : D 2 = true:=hdc 4 _ _ rfl (List.mem_of_getElem? (i:=1) rfl) rfl dC4
   have hM:=M.tailP (m:=[_]) ((((hM.togB (pre:=[_,_,_,_,_]) dC2).togB (pre:=[_,_,_,_,_]) dC4).togA (pre:=[_,_,_,_,_]) hD).pull (pre:=[_,_,_,_,_]))
   refine Zo hE Za ld (Z1 (ZX (lk rfl f5) (ZX rfl Xg))) VD (ZH _ _ _ _ b7 p0 v0_1 hv0_1 (r23.1.1,r23.1.2) 24 hM r25 e26) ?_
   rintro v w a ⟨rfl,hM⟩ hE
   have hM:=M.tailU (m:=[_]) hM
   simp only [List.cons_append,List.nil_append] at hM
   exact ⟨_,_,rfl,hE,M.qTogS (p:=([2,4,6],fun bs _=>(tog (bs.getD 0 false) (raw b7 (cat [[v0_1],[vI r5.1],[(Value.int .u64 r5.2)]])) (tog (bs.getD 1 false) (raw b7 (cat [[v0_1],[vI r21.1.1],[(Value.int .u64 r21.1.2)]])) (tog (bs.getD 2 false) (raw b7 (cat [[v0_1],[vI r23.1.1],[(Value.int .u64 r23.1.2)]])) (raw b7 (cat [[v0_1],[vI r25.1.1],[(Value.int .u64 r25.1.2)]]))))))) (mk1:=[_]) (mk2:=[]) hM rfl (by show tog (Yl D 6 2) (raw b7 (cat [[v0_1],[vI r5.1],[(Value.int .u64 r5.2)]])) (tog (Yl D 6 4) (raw b7 (cat [[v0_1],[vI r21.1.1],[(Value.int .u64 r21.1.2)]])) (tog (Yl D 6 6) (raw b7 (cat [[v0_1],[vI r23.1.1],[(Value.int .u64 r23.1.2)]])) (raw b7 (cat [[v0_1],[vI r25.1.1],[(Value.int .u64 r25.1.2)]])))) = _; rw [tg1 (K8 dC2),tg1 (K8 dC4),tg1 KF]),hI.2.put hD rfl ZR rfl⟩
  ·intro a w ux20 D hE hI hD hdc hp
   have d6 : D 6 = true:=hp 0 _ rfl rfl
   have g6:=hI.2 6 d6 _ rfl
   have f6 : ux20 6 = (vI r25.2):=g6.2
   have hM0:=hI.1
   exact Zm hE Za ld (lk rfl f6) rfl (Qf _ _ (by decide)) fun a hE=>⟨_,_,rfl,hE,M.qKeep hM0 rfl,hI.2.put hD rfl ZR rfl⟩
  ·intro a w ux20 D hE hI hD hdc hp
   have d4 : D 4 = true:=hp 0 _ rfl rfl
   have g4:=hI.2 4 d4 _ rfl
   have f4 : ux20 4 = (vI r23.2):=g4.2
   have d7 : D 7 = true:=hp 1 _ rfl rfl
   have g7:=hI.2 7 d7 _ rfl
   have f7 : ux20 7 = (vI (wr (Int.tdiv r25.2 23))):=g7.2
   have hM0:=hI.1
   exact Zm hE Za ld (lk rfl f4) (lk rfl f7) rfl fun a hE=>⟨_,_,rfl,hE,M.qKeep hM0 rfl,hI.2.put hD rfl ZR rfl⟩
  ·intro a w ux20 D hE hI hD hdc hp
   have hM0:=hI.1
   have hM:=hI.1
   exact Zj (cs:=enc r9.2.2.1) hE Za ld rfl Zw rfl (hM.rawAt (pre:=[])) (Flat.len _) fun a hE=>⟨_,_,rfl,hE,M.qKeep hM0 rfl,hI.2.put hD rfl ZR rfl⟩
  ·intro a w ux20 D hE hI hD hdc hp
   have d0 : D 0 = true:=hp 0 _ rfl rfl
   have g0:=hI.2 0 d0 _ rfl
   have f0 : ux20 0 = (Value.agg (enc r9.1).toArray):=g0.2
   have hM0:=hI.1
   have hM:=(hI.1.togA (pre:=[_,_,_,_]) hD).pull (pre:=[_,_,_,_])
   exact Zi (seg:=cat [[vI r9.1.Field],enc r9.1.Box,enc r9.1.Mix,enc r9.1.Places,[vI r9.1.Rounds]]) (cs':=cat [[vI r9.1.Field],enc r9.1.Box,enc r9.1.Mix,enc r9.1.Places,[vI r9.1.Rounds]]) hE hM Za rfl (lk rfl f0) rfl Z8 (Zl (cl1 (n:=1) (m:=289) rfl (cl1 (n:=256) (m:=33) (Flat.len _) (cl1 (n:=16) (m:=17) (Flat.len _) (cl1 (n:=16) (m:=1) (Flat.len _) (cl1 (n:=1) (m:=0) rfl cl0)))))) (Nat.le_of_eq ((Nat.zero_add _).trans (Eq.trans (Zl (cl1 (n:=1) (m:=289) rfl (cl1 (n:=256) (m:=33) (Flat.len _) (cl1 (n:=16) (m:=17) (Flat.len _) (cl1 (n:=16) (m:=1) (Flat.len _) (cl1 (n:=1) (m:=0) rfl cl0)))))) (Eq.symm (Zl (cl1 (n:=1) (m:=289) rfl (cl1 (n:=256) (m:=33) (Flat.len _) (cl1 (n:=16) (m:=17) (Flat.len _) (cl1 (n:=16) (m:=1) (Flat.len _) (cl1 (n:=1) (m:=0) rfl cl0)))))))))) (Yq (cc1 (Flat.cell (r9.1.Field : Int)) (cc1 (Flat.cell _) (cc1 (Flat.cell _) (cc1 (Flat.cell _) (cc1 (Flat.cell (r9.1.Rounds : Int)) cc0)))))) (Zg (Eq.trans (Zl (cl1 (n:=1) (m:=289) rfl (cl1 (n:=256) (m:=33) (Flat.len _) (cl1 (n:=16) (m:=17) (Flat.len _) (cl1 (n:=16) (m:=1) (Flat.len _) (cl1 (n:=1) (m:=0) rfl cl0)))))) (Eq.symm (Zl (cl1 (n:=1) (m:=289) rfl (cl1 (n:=256) (m:=33) (Flat.len _) (cl1 (n:=16) (m:=17) (Flat.len _) (cl1 (n:=16) (m:=1) (Flat.len _) (cl1 (n:=1) (m:=0) rfl cl0))))))))) fun w a hM hE=>⟨undef,_,rfl,Env.dummy hE (by decide),M.qTog (mk1:=[]) (mk2:=[_]) hM rfl,hI.2.put hD rfl ZR trivial⟩
  ·intro a w ux20 D hE hI hD hdc hp
   have d2 : D 2 = true:=hp 0 _ rfl rfl
   have g2:=hI.2 2 d2 _ rfl
   have f2 : ux20 2 = (vI r21.2):=g2.2
   have hM0:=hI.1
   have hM:=hI.1.togB (pre:=[_,_,_,_]) (hp 1 _ rfl rfl)
   exact Ze hE Za ld (lk rfl f2) fun a hE=>⟨_,_,rfl,hE,M.qKeep hM0 rfl,hI.2.put hD rfl ZR rfl⟩
  ·intro a w ux20 D hE hI hD hdc hp
   have d8 : D 8 = true:=hp 0 _ rfl rfl
   have g8:=hI.2 8 d8 _ rfl
   have f8 : ux20 8 = (vI (wr (r23.2 - (wr (Int.tdiv r25.2 23))))):=g8.2
   have hM0:=hI.1
   have hM:=hI.1.togB (pre:=[_,_,_,_]) (hp 12 _ rfl rfl)
   exact Ze hE Za ld (lk rfl f8) fun a hE=>⟨_,_,rfl,hE,M.qKeep hM0 rfl,hI.2.put hD rfl ZR rfl⟩
  ·intro a w ux20 D hE hI hall
   have hM:=hI.1
   have d0 : D 0 = true:=hall 0 (by decide)
   have d1 : D 1 = true:=hall 1 (by decide)
   have d2 : D 2 = true:=hall 2 (by decide)
   have d3 : D 3 = true:=hall 3 (by decide)
   have d4 : D 4 = true:=hall 4 (by decide)
   have d5 : D 5 = true:=hall 5 (by decide)
   have d6 : D 6 = true:=hall 6 (by decide)
   have d7 : D 7 = true:=hall 7 (by decide)
   have d8 : D 8 = true:=hall 8 (by decide)
   have d9 : D 9 = true:=hall 9 (by decide)
   have d10 : D 10 = true:=hall 10 (by decide)
   have d11 : D 11 = true:=hall 11 (by decide)
   have d12 : D 12 = true:=hall 12 (by decide)
   have f0 : ux20 0 = (Value.agg (enc r9.1).toArray):=(hI.2 0 d0 _ rfl).2
   have f1 : ux20 1 = (ptr b7 0):=(hI.2 1 d1 _ rfl).2
   have f2 : ux20 2 = (vI r21.2):=(hI.2 2 d2 _ rfl).2
   have f3 : ux20 3 = (ptr b7 0):=(hI.2 3 d3 _ rfl).2
   have f4 : ux20 4 = (vI r23.2):=(hI.2 4 d4 _ rfl).2
   have f5 : ux20 5 = (ptr b7 0):=(hI.2 5 d5 _ rfl).2
   have f6 : ux20 6 = (vI r25.2):=(hI.2 6 d6 _ rfl).2
   have f7 : ux20 7 = (vI (wr (Int.tdiv r25.2 23))):=(hI.2 7 d7 _ rfl).2
   have f8 : ux20 8 = (vI (wr (r23.2 - (wr (Int.tdiv r25.2 23))))):=(hI.2 8 d8 _ rfl).2
   have f9 : ux20 9 = (Value.agg (enc r9.2.2.1).toArray):=(hI.2 9 d9 _ rfl).2
   have f11 : ux20 11 = (vI r21.2):=(hI.2 11 d11 _ rfl).2
   have f12 : ux20 12 = (vI (wr (r23.2 - (wr (Int.tdiv r25.2 23))))):=(hI.2 12 d12 _ rfl).2
   have hM:=(((hM.togB (pre:=[_,_,_,_]) d10).togB (pre:=[_,_,_,_,_]) d2).togB (pre:=[_,_,_,_,_]) d4).togB (pre:=[_,_,_,_,_]) d6
   have hE:=hE.sub (e':=[(31,(Value.agg (enc r9.2.2.1).toArray)),(3,vI r21.2),(4,(vI (wr (r23.2 - (wr (Int.tdiv r25.2 23)))))),(2,(ptr b1 0)),(5,(ptr b3 0))]) ⟨lk rfl f9,lk rfl f11,lk rfl f12,rfl,rfl,trivial⟩
   have hM:=hM.pull (pre:=[_,_,_])
   refine Zi (seg:=enc r9.2.2.1) (cs':=enc r9.2.2.1) hE hM Za rfl rfl rfl Zw (Flat.len _) (zle flq) (Flat.cell _) (Zg flq) fun w a hM hE=>Zk ?_
   have ht27:=Option.some.inj hl18
   subst ht27
   refine Zn ?_
   have hM:=M.fst (l:=[_,_]) ((hM.pull (pre:=[_,_,_,_])).pull (pre:=[_]))
   exact ⟨hE.sub ⟨rfl,rfl,rfl,rfl,trivial⟩,hM⟩
 ·skip
  rintro a w ⟨hE,hM⟩
  have hr:=Option.some.inj hF19
  subst hr
  have hq28 : ZY Try.prog _ _ (.cell 2 61) _:=ZM hE rfl Z8 rfl (hM.rawAt (pre:=[_])) (Zl (cl1 (n:=1) (m:=289) rfl (cl1 (n:=256) (m:=33) (Flat.len _) (cl1 (n:=16) (m:=17) (Flat.len _) (cl1 (n:=16) (m:=1) (Flat.len _) (cl1 (n:=1) (m:=0) rfl cl0)))))) rfl
  have hq29 : ZY Try.prog _ _ (.cell 5 62) _:=ZM hE rfl Zw rfl (hM.rawAt (pre:=[])) (Flat.len _) rfl
  have hM:=M.fst (l:=[]) hM
  exact wp_ret (k_ret4 hE rfl hq28 (Zx hE rfl) (Zx hE rfl) hq29 ⟨_,rfl,rfl,hM.kept⟩)
def Xn (p0 : Int) (p1 : Int) (p2 : Int) : Option (Bool) :=
 (if (decide (p1 ≤ p0)) = true then (some (decide (p0 ≤ p2))) else (some false) : Option (Bool)).bind fun j1=>some j1
theorem Uj (w0 : World) (p0 : Int) (p1 : Int) (p2 : Int) (r : Bool) (hF : Xn p0 p1 p2 = some r) :
  Calls Try.prog 56 [vI p0,vI p1,vI p2].toArray w0 (fun en w'=>∃ v,en = .returned v ∧ (v = (vT r) ∧ Kept (Old w0) w0 w')):=by
 refine ZJ (n:=15) Try.func56 rfl rfl (nbl rfl) rfl ?_
 intro a hE
 have hM:=M.start w0
 unfold Xn at hF
 refine Zd (Ze hE Za ld rfl fun a hE=>Zf ?_)
 obtain ⟨j1,hl2,hF3⟩:=bind_some hF
 refine ZT (fun a w=>Env 15 a [(6,vT j1)] ∧ M (Old w0) w0 w []) ?_ ?_
 ·skip
  refine wp_region_lit (Zc hE Za ld rfl fun a hE=>Zc hE Za ld rfl fun a hE=>Zm hE Za ld rfl rfl rfl fun a hE=>Zc hE Za ld rfl ?_); intro a hE
  refine Xy (decide (p1 ≤ p0)) (fun hb4=>?_) (fun hb4=>?_)
  ·have hl2:=ZB hl2 hb4
   refine Zc hE (Zt hE rfl (lkb rfl hb4)) (by decide) rfl fun a hE=>Zc hE (Zt hE rfl (lkb rfl hb4)) (by decide) rfl fun a hE=>Zm hE (Zt hE rfl (lkb rfl hb4)) (by decide) rfl rfl rfl fun a hE=>Yy hE Za ld (lkb rfl hb4) rfl fun a hE=>Ze hE Za ld rfl fun a hE=>Zk ?_
   have ht5:=Option.some.inj hl2
   subst ht5
   refine Zn ?_
   exact ⟨hE.sub ⟨rfl,trivial⟩,hM⟩
  ·have hl2:=ZA hl2 hb4
   refine Zz hE rfl (lkb rfl hb4) rfl (by decide) fun a hE=>Zz hE rfl (lkb rfl hb4) rfl (by decide) fun a hE=>Zz hE rfl (lkb rfl hb4) rfl (by decide) fun a hE=>Yh hE Za ld (lkb rfl hb4) rfl fun a hE=>Ze hE Za ld rfl fun a hE=>Zk ?_
   have ht6:=Option.some.inj hl2
   subst ht6
   refine Zn ?_
   exact ⟨hE.sub ⟨rfl,trivial⟩,hM⟩
 ·skip
  rintro a w ⟨hE,hM⟩
  have hr:=Option.some.inj hF3
  subst hr
  exact wp_ret (ZK hE rfl (Zx hE rfl) ⟨_,rfl,rfl,hM.kept⟩)
def Uw (p1 : Int) (p2 : Int) (s4 : Int × Int) : Option (Fl (Int × Int) Int) :=
 if (decide (s4.2 ≥ p2)) = true then (((Wp s4.2).bind fun _=>(if ((andI (Tc s4.1 s4.2) 1) == 1) = true then ((Wp (wr (s4.2 - p2))).bind fun _=>some (KE s4.1 (Ka p1 (wr (s4.2 - p2))))) else (some s4.1) : Option (Int)).bind fun j13=>some j13 : Option (Int)).bind fun j9=>some (Fl.nx (j9,wr (s4.2 - 1)))) else (some (Fl.ex s4.1))
def Uo (p0 : Int) (p1 : Int) (p2 : Int) : Option (Int) :=
 (ZQ (Uw p1 p2) (p0,15)).bind fun j1=>some j1
theorem Ho (w0 : World) (p0 : Int) (p1 : Int) (p2 : Int) (r : Int) (hF : Uo p0 p1 p2 = some r) :
  Calls Try.prog 120 [vI p0,vI p1,vI p2].toArray w0 (fun en w'=>∃ v,en = .returned v ∧ (v = (vI r) ∧ Kept (Old w0) w0 w')):=by
 refine ZJ (n:=26) Try.func120 rfl rfl (nbl rfl) rfl ?_
 intro a hE
 have hM:=M.start w0
 unfold Uo at hF
 refine Zd (Ze hE Za ld rfl fun a hE=>Zf (wp_seq (Zd (Ze hE Za ld rfl fun a hE=>Zf ?_))))
 obtain ⟨j1,hl2,hF3⟩:=bind_some hF
 refine Z0 (fun a w=>Env 26 a [(0,vI j1)] ∧ M (Old w0) w0 w []) ?_ ?_
 ·skip
  refine wp_block ?_
  refine ZV (fun (s4 : Int × Int) a w=>Env 26 a [(0,vI s4.1),(1,vI p1),(2,vI p2),(7,vI s4.2)] ∧ M (Old w0) w0 w []) hl2 ⟨hE.sub ⟨rfl,rfl,rfl,rfl,trivial⟩,hM⟩ ?_
  rintro s4 a w ⟨hE,hM⟩ o7 hs5 hx6
  unfold Uw at hs5
  refine wp_seq (Zd (Zc hE Za ld rfl fun a hE=>Zc hE Za ld rfl fun a hE=>Zm hE Za ld rfl rfl rfl fun a hE=>Zf ?_))
  refine Zv hE rfl ?_ ?_
  ·intro hb8
   have hs5:=ZB hs5 hb8
   refine wp_skip (ZG ?_)
   obtain ⟨j9,hl10,hF11⟩:=bind_some hs5
   refine ZT (fun a w=>Env 26 a [(0,vI j9),(1,vI p1),(2,vI p2),(7,vI s4.2)] ∧ M (Old w0) w0 w []) ?_ ?_
   ·skip
    refine wp_block (Zd (Zc hE Za ld rfl fun a hE=>Zc hE Za ld rfl ?_)); intro a hE
    obtain ⟨_,e12,hl10⟩:=bind_some hl10
    have e12:=VA e12
    refine Bf hE Za ld rfl rfl (zw _ _ e12) fun a hE=>Zm hE Za ld rfl rfl rfl fun a hE=>Zm hE Za ld rfl rfl rfl fun a hE=>Zf ?_
    obtain ⟨j13,hl14,hF15⟩:=bind_some hl10
    refine Z0 (fun a w=>Env 26 a [(0,vI j13),(1,vI p1),(2,vI p2),(7,vI s4.2)] ∧ M (Old w0) w0 w []) ?_ ?_
    ·skip
     refine Zv hE rfl ?_ ?_
     ·intro hb16
      have hl14:=ZB hl14 hb16
      refine wp_region_lit (Zc hE Za ld rfl fun a hE=>Zc hE Za ld rfl fun a hE=>Zc hE Za ld rfl fun a hE=>Zc hE Za ld rfl fun a hE=>Zm hE Za ld rfl rfl rfl ?_); intro a hE
      obtain ⟨_,e17,hl14⟩:=bind_some hl14
      have e17:=VA e17
      refine Bf hE Za ld rfl rfl (JK _ _ e17) fun a hE=>Zm hE Za ld rfl rfl rfl fun a hE=>Ze hE Za ld rfl fun a hE=>Zk ?_
      have ht18:=Option.some.inj hl14
      subst ht18
      refine Zn ?_
      exact ⟨hE.sub ⟨rfl,rfl,rfl,rfl,trivial⟩,hM⟩
     ·intro hb16
      have hl14:=ZA hl14 hb16
      refine wp_skip ?_
      have ht19:=Option.some.inj hl14
      subst ht19
      refine Zn ?_
      exact ⟨hE.sub ⟨rfl,rfl,rfl,rfl,trivial⟩,hM⟩
    ·skip
     rintro a w ⟨hE,hM⟩
     refine Yj ?_
     have ht20:=Option.some.inj hF15
     subst ht20
     refine Zn ?_
     exact ⟨hE.sub ⟨rfl,rfl,rfl,rfl,trivial⟩,hM⟩
   ·skip
    rintro a w ⟨hE,hM⟩
    refine wp_region_lit (Zc hE Za ld rfl fun a hE=>Zm hE Za ld rfl rfl rfl fun a hE=>Ze hE Za ld rfl fun a hE=>Zk (Zn ?_))
    exact ⟨_,(ois hF11),hE.sub ⟨rfl,rfl,rfl,rfl,trivial⟩,hM⟩
  ·intro hb8
   have hs5:=ZA hs5 hb8
   refine wp_exit (Zs (Zs (Yz ?_)))
   have ht21:=hx6 _ (ois hs5)
   subst ht21
   refine Zn ?_
   exact ⟨hE.sub ⟨rfl,trivial⟩,hM⟩
 ·skip
  rintro a w ⟨hE,hM⟩
  refine ZG (Zd (Zc hE Za ld rfl fun a hE=>Ze hE Za ld rfl fun a hE=>Zf ?_))
  have hr:=Option.some.inj hF3
  subst hr
  exact wp_ret (ZK hE rfl (Zx hE rfl) ⟨_,rfl,rfl,hM.kept⟩)
def WP (p0 : Int) (s8 : Int) (s18 : Int) : Option (Fl Int (Fl Unit Bool)) :=
 (Wp s8).bind fun _=>if (decide (s18 < (Ka 2 s8))) = true then ((Uo p0 s18 s8).bind fun r24=>if (r24 == 0) = true then (some (Fl.ex (Fl.ex false))) else (some (Fl.nx (wr (s18 + 1))))) else (some (Fl.ex (Fl.nx ())))
def WQ (p0 : Int) (s8 : Int) : Option (Fl Int (Fl Unit Bool)) :=
 if (decide (s8 ≤ 4)) = true then ((Wp s8).bind fun _=>(ZQ (WP p0 s8) (Ka 1 s8)).bind fun j14=>j14.el (fun s17=>some (Fl.nx (wr (s8 + 1)))) (fun r=>some (Fl.ex (Fl.ex r)))) else (some (Fl.ex (Fl.nx ())))
def Up (p0 : Int) : Option (Bool) :=
 (Xn p0 256 511).bind fun r1=>if (!r1) = true then (some false) else ((ZQ (WQ p0) 1).bind fun j4=>j4.el (fun s7=>some true) (fun r=>some r))
theorem Bm (w0 : World) (p0 : Int) (r : Bool) (hF : Up p0 = some r) :
  Calls Try.prog 54 [vI p0].toArray w0 (fun en w'=>∃ v,en = .returned v ∧ (v = (vT r) ∧ Kept (Old w0) w0 w')):=by
 refine ZJ (n:=25) Try.func54 rfl rfl (nbl rfl) rfl ?_
 intro a hE
 have hM:=M.start w0
 unfold Up at hF
 refine Zd (Ze hE Za ld rfl fun a hE=>Zf (wp_seq (Zd (Zc hE Za ld rfl ?_)))); intro a hE
 obtain ⟨r1,e2,hF⟩:=bind_some hF
 refine Zo hE Za ld rfl cb56 (Uj _ p0 256 511 r1 e2) ?_
 rintro v w a ⟨rfl,hK⟩ hE
 have hM:=hM.keep hK
 refine UT hE Za ld rfl fun a hE=>Zf ?_
 refine Zv hE rfl ?_ ?_
 ·intro hb3
  have hF:=ZB hF hb3
  refine Zd (Ze hE Za ld rfl fun a hE=>Zf ?_)
  have hr:=Option.some.inj hF
  subst hr
  exact wp_ret (ZP (ZK hE rfl (Zx hE rfl) ⟨_,rfl,rfl,hM.kept⟩))
 ·intro hb3
  have hF:=ZA hF hb3
  refine wp_skip (ZG (wp_seq (Zd (Ze hE Za ld rfl fun a hE=>Zf ?_))))
  obtain ⟨j4,hl5,hF6⟩:=bind_some hF
  refine Z0 (fun a w=>∃ s7 : Unit,j4 = Fl.nx s7 ∧ Env 25 a [] ∧ M (Old w0) w0 w []) ?_ ?_
  ·skip
   refine wp_block ?_
   refine ZV (fun (s8 : Int) a w=>Env 25 a [(0,vI p0),(3,vI s8)] ∧ M (Old w0) w0 w []) hl5 ⟨hE.sub ⟨rfl,rfl,trivial⟩,hM⟩ ?_
   rintro s8 a w ⟨hE,hM⟩ o11 hs9 hx10
   unfold WQ at hs9
   refine wp_seq (Zd (Zc hE Za ld rfl fun a hE=>Zm hE Za ld rfl rfl rfl fun a hE=>Zf ?_))
   refine Zv hE rfl ?_ ?_
   ·intro hb12
    have hs9:=ZB hs9 hb12
    refine wp_skip (ZG (wp_seq (wp_block (Zd (Zc hE Za ld rfl ?_))))); intro a hE
    obtain ⟨_,e13,hs9⟩:=bind_some hs9
    have e13:=VA e13
    refine Bf hE Za ld rfl rfl (JK _ _ e13) fun a hE=>Ze hE Za ld rfl fun a hE=>Zf ?_
    obtain ⟨j14,hl15,hF16⟩:=bind_some hs9
    refine Z0 (fun a w=>∃ s17 : Unit,j14 = Fl.nx s17 ∧ Env 25 a [(0,vI p0),(3,vI s8)] ∧ M (Old w0) w0 w []) ?_ ?_
    ·skip
     refine wp_block ?_
     refine ZV (fun (s18 : Int) a w=>Env 25 a [(0,vI p0),(3,vI s8),(4,vI s18)] ∧ M (Old w0) w0 w []) hl15 ⟨hE.sub ⟨rfl,rfl,rfl,trivial⟩,hM⟩ ?_
     rintro s18 a w ⟨hE,hM⟩ o21 hs19 hx20
     unfold WP at hs19
     refine wp_seq (Zd (Zc hE Za ld rfl fun a hE=>Zc hE Za ld rfl ?_)); intro a hE
     obtain ⟨_,e22,hs19⟩:=bind_some hs19
     have e22:=VA e22
     refine Bf hE Za ld rfl rfl (JK _ _ e22) fun a hE=>Zm hE Za ld rfl rfl rfl fun a hE=>Zf ?_
     refine Zv hE rfl ?_ ?_
     ·intro hb23
      have hs19:=ZB hs19 hb23
      refine wp_skip (ZG (wp_seq (wp_block (Zd (Zc hE Za ld rfl fun a hE=>Zc hE Za ld rfl fun a hE=>Zc hE Za ld rfl ?_))))); intro a hE
      obtain ⟨r24,e25,hs19⟩:=bind_some hs19
      refine Zo hE Za ld rfl cb120 (Ho _ p0 s18 s8 r24 e25) ?_
      rintro v w a ⟨rfl,hK⟩ hE
      have hM:=hM.keep hK
      refine Zm hE Za ld rfl rfl rfl fun a hE=>Zf ?_
      refine Zv hE rfl ?_ ?_
      ·intro hb26
       have hs19:=ZB hs19 hb26
       refine Zd (Ze hE Za ld rfl fun a hE=>Zf ?_)
       have ht27:=hx20 _ (ois hs19)
       subst ht27
       have ht28:=hx10 _ (ois hF16)
       subst ht28
       have hr:=Option.some.inj hF6
       subst hr
       exact wp_ret (Y4 (ZP (ZP (Y4 (ZP (Y4 (ZP (ZP (Y4 (ZP (ZP (ZK hE rfl (Zx hE rfl) ⟨_,rfl,rfl,hM.kept⟩))))))))))))
      ·intro hb26
       have hs19:=ZA hs19 hb26
       refine wp_skip (Yj (ZG (wp_region_lit (Zc hE Za ld rfl fun a hE=>Zm hE Za ld rfl rfl rfl fun a hE=>Ze hE Za ld rfl fun a hE=>Zk (Zn ?_)))))
       exact ⟨_,(ois hs19),hE.sub ⟨rfl,rfl,rfl,trivial⟩,hM⟩
     ·intro hb23
      have hs19:=ZA hs19 hb23
      refine wp_exit (Zs (Zs (Yz ?_)))
      have ht29:=hx20 _ (ois hs19)
      subst ht29
      refine Zn ?_
      exact ⟨(),rfl,hE.sub ⟨rfl,rfl,trivial⟩,hM⟩
    ·skip
     rintro a w ⟨s17,ht,hE,hM⟩
     subst ht
     have hF16:=Qp hF16
     refine Yj (ZG (wp_region_lit (Zc hE Za ld rfl fun a hE=>Zm hE Za ld rfl rfl rfl fun a hE=>Ze hE Za ld rfl fun a hE=>Zk (Zn ?_))))
     exact ⟨_,(ois hF16),hE.sub ⟨rfl,rfl,trivial⟩,hM⟩
   ·intro hb12
    have hs9:=ZA hs9 hb12
    refine wp_exit (Zs (Zs (Yz ?_)))
    have ht30:=hx10 _ (ois hs9)
    subst ht30
    refine Zn ?_
    exact ⟨(),rfl,hE.sub trivial,hM⟩
  ·skip
   rintro a w ⟨s7,ht,hE,hM⟩
   subst ht
   have hF6:=Qp hF6
   refine ZG (Zd (Ze hE Za ld rfl fun a hE=>Zf ?_))
   have hr:=Option.some.inj hF6
   subst hr
   exact wp_ret (ZK hE rfl (Zx hE rfl) ⟨_,rfl,rfl,hM.kept⟩)
def YB (p0 : (List Bool)) (p1 : Bool) (s5 : Int) : Option (Fl Int (Fl Unit Int)) :=
 if (decide (s5 < (p0.length : Int))) = true then ((idx p0 s5).bind fun x10=>if (p1 == x10) = true then (some (Fl.ex (Fl.ex s5))) else (some (Fl.nx (wr (s5 + 1))))) else (some (Fl.ex (Fl.nx ())))
def XY (p0 : (List Bool)) (p1 : Bool) : Option (Int) :=
 (ZQ (YB p0 p1) 0).bind fun j1=>j1.el (fun s4=>some (-1)) (fun r=>some r)
theorem Qb (w0 : World) (p0 : (List Bool)) (v0_1 : Value) (hv0_1 : Ro w0 p0 [v0_1]) (p1 : Bool) (r : Int) (hF : XY p0 p1 = some r) :
  Calls Try.prog 208 [v0_1,vT p1].toArray w0 (fun en w'=>∃ v,en = .returned v ∧ (v = (vI r) ∧ Kept (Old w0) w0 w')):=by
 refine ZJ (n:=19) Try.func208 rfl rfl (nbl rfl) rfl ?_
 intro a hE
 have hM:=M.start w0
 unfold XY at hF
 refine Zd (Ze hE Za ld rfl fun a hE=>Zf (wp_seq (Zd (Zc hE Za ld rfl fun a hE=>UU hE Za ld rfl Try.underlying227 (hM.rd hv0_1) fun a hE=>Zc hE Za ld rfl fun a hE=>Zf ?_))))
 obtain ⟨j1,hl2,hF3⟩:=bind_some hF
 refine Z0 (fun a w=>∃ s4 : Unit,j1 = Fl.nx s4 ∧ Env 19 a [] ∧ M (Old w0) w0 w []) ?_ ?_
 ·skip
  refine wp_block ?_
  refine ZV (fun (s5 : Int) a w=>Env 19 a [(0,v0_1),(1,vT p1),(7,(vI (p0.length : Int))),(8,vI s5)] ∧ M (Old w0) w0 w []) hl2 ⟨hE.sub ⟨rfl,rfl,rfl,rfl,trivial⟩,hM⟩ ?_
  rintro s5 a w ⟨hE,hM⟩ o8 hs6 hx7
  unfold YB at hs6
  refine Zd (Zm hE Za ld rfl rfl rfl fun a hE=>Zf (wp_seq ?_))
  refine Zv hE rfl ?_ ?_
  ·intro hb9
   have hs6:=ZB hs6 hb9
   refine wp_skip (ZG (wp_seq (wp_block (Zd (Zc hE Za ld rfl fun a hE=>Ze hE Za ld rfl fun a hE=>Zf (Zd (Zc hE Za ld rfl fun a hE=>Zc hE Za ld rfl fun a hE=>Zc hE Za ld rfl ?_))))))); intro a hE
   obtain ⟨x10,hi12,hs6⟩:=bix hs6
   refine Yv hE Za ld rfl rfl Try.underlying227 ty4 (hM.rd hv0_1) hi12.1 fun a hE=>ZF (v:=(vT x10)) hE Za ld rfl ty4 rfl (X9 (hM.rd hv0_1) hi12.2) fun a hE=>s_eqT hE Za ld rfl rfl Try.underlying4 fun a hE=>Zf ?_
   refine Zv hE rfl ?_ ?_
   ·intro hb13
    have hs6:=ZB hs6 hb13
    refine Zd (Zc hE Za ld rfl fun a hE=>Ze hE Za ld rfl fun a hE=>Zf ?_)
    have ht14:=hx7 _ (ois hs6)
    subst ht14
    have hr:=Option.some.inj hF3
    subst hr
    exact wp_ret (Y4 (ZP (ZP (Y4 (ZP (ZP (ZK hE rfl (Zx hE rfl) ⟨_,rfl,rfl,hM.kept⟩)))))))
   ·intro hb13
    have hs6:=ZA hs6 hb13
    refine wp_skip (Yj (ZG (wp_region_lit (Zm hE Za ld rfl rfl rfl fun a hE=>Zc hE Za ld rfl fun a hE=>Zk (Zn ?_)))))
    exact ⟨_,(ois hs6),hE.sub ⟨rfl,rfl,rfl,rfl,trivial⟩,hM⟩
  ·intro hb9
   have hs6:=ZA hs6 hb9
   refine wp_exit (Zs (Zs (Yz ?_)))
   have ht15:=hx7 _ (ois hs6)
   subst ht15
   refine Zn ?_
   exact ⟨(),rfl,hE.sub trivial,hM⟩
 ·skip
  rintro a w ⟨s4,ht,hE,hM⟩
  subst ht
  have hF3:=Qp hF3
  refine ZG (Zd (Ze hE Za ld rfl fun a hE=>Zf ?_))
  have hr:=Option.some.inj hF3
  subst hr
  exact wp_ret (ZK hE rfl (Zx hE rfl) ⟨_,rfl,rfl,hM.kept⟩)
def YJ (p0 : (List Bool)) (p1 : Bool) : Option (Bool) :=
 (XY p0 p1).bind fun r1=>some (decide (r1 ≥ 0))
theorem TN (w0 : World) (p0 : (List Bool)) (v0_1 : Value) (hv0_1 : Ro w0 p0 [v0_1]) (p1 : Bool) (r : Bool) (hF : YJ p0 p1 = some r) :
  Calls Try.prog 187 [v0_1,vT p1].toArray w0 (fun en w'=>∃ v,en = .returned v ∧ (v = (vT r) ∧ Kept (Old w0) w0 w')):=by
 refine ZJ (n:=9) Try.func187 rfl rfl (nbl rfl) rfl ?_
 intro a hE
 have hM:=M.start w0
 unfold YJ at hF
 refine Zd (Ze hE Za ld rfl fun a hE=>Zf (Zd (Zc hE Za ld rfl fun a hE=>Zc hE Za ld rfl ?_))); intro a hE
 obtain ⟨r1,e2,hF⟩:=bind_some hF
 refine Zo hE Za ld rfl cb208 (Qb _ p0 v0_1 (hM.rdo hv0_1) p1 r1 e2) ?_
 rintro v w a ⟨rfl,hK⟩ hE
 have hM:=hM.keep hK
 refine Zm hE Za ld rfl rfl rfl fun a hE=>Ze hE Za ld rfl fun a hE=>Zf ?_
 have hr:=Option.some.inj hF
 subst hr
 exact wp_ret (ZK hE rfl (Zx hE rfl) ⟨_,rfl,rfl,hM.kept⟩)
def YY (p0 : (Vector UInt8 256)) (s8 : (Vector Bool 256) × Int) : Option (Fl ((Vector Bool 256) × Int) (Vector Bool 256)) :=
 if (decide (s8.2 < 256)) = true then ((ZI p0 s8.2).bind fun x13=>(ZI s8.1 (bI x13)).bind fun x17=>some (Fl.nx ((s8.1.setIfInBounds ((bI x13)).toNat true),wr (s8.2 + 1)))) else (some (Fl.ex s8.1))
def Wc (p0 : (Vector UInt8 256)) : Option (Bool) :=
 (ZQ (YY p0) ((Vector.replicate 256 false),0)).bind fun j5=>(slc j5.toList (0 : Int) (256 : Int)).bind fun l20=>(YJ l20 false).bind fun r23=>some (!r23)
theorem Q5 (w0 : World) (p0 : (Vector UInt8 256)) (r : Bool) (hF : Wc p0 = some r) :
  Calls Try.prog 142 [(Value.agg (enc p0).toArray)].toArray w0 (fun en w'=>∃ v,en = .returned v ∧ (v = (vT r) ∧ Kept (Old w0) w0 w')):=by
 refine ZJ (n:=17) Try.func142 rfl rfl (nbl rfl) rfl ?_
 intro a hE
 have hM:=M.start w0
 unfold Wc at hF
 refine Zd (Z3 (cs:=enc p0) hE hM Za ld rfl rfl fun b1 w a hM hE=>Ze hE Za ld rfl fun a hE=>Zf (Zd (Z7 (parts:=[]) (vs:=[]) (cs:=enc (Vector.replicate 256 false)) hE Za ld rfl rfl BW rfl ty4 ZZ fun a hE=>Zu hE hM Za ld BW fun b3 w a hM hE=>Zi (seg:=enc (Vector.replicate 256 false)) (cs':=enc (Vector.replicate 256 false)) hE hM Za rfl rfl rfl BW (Flat.len _) (zle flq) (Flat.cell _) (Zg flq) fun w a hM hE=>Zf (wp_seq (Zd (Zj (cs:=enc p0) hE Za ld rfl YC rfl (hM.rawAt (pre:=[_])) (Flat.len _) fun a hE=>Zc hE Za ld rfl fun a hE=>Zf ?_))))))
 obtain ⟨j5,hl6,hF7⟩:=bind_some hF
 refine Z0 (fun a w=>Env 17 a [(3,(ptr b3 0))] ∧ M (Old w0) w0 w [raw b3 (enc j5)]) ?_ ?_
 ·skip
  refine wp_block ?_
  have hM:=M.fst (l:=[_]) hM
  refine ZV (fun (s8 : (Vector Bool 256) × Int) a w=>Env 17 a [(3,(ptr b3 0)),(7,(Value.agg (enc p0).toArray)),(8,vI s8.2)] ∧ M (Old w0) w0 w [raw b3 (enc s8.1)]) hl6 ⟨hE.sub ⟨rfl,rfl,rfl,trivial⟩,hM⟩ ?_
  rintro s8 a w ⟨hE,hM⟩ o11 hs9 hx10
  unfold YY at hs9
  refine Zd (Zm hE Za ld rfl rfl rfl fun a hE=>Zf (wp_seq ?_))
  refine Zv hE rfl ?_ ?_
  ·intro hb12
   have hs9:=ZB hs9 hb12
   refine wp_skip (ZG (wp_seq (wp_block (Zd ?_))))
   obtain ⟨x13,hi15,hs9⟩:=bvx hs9
   refine Ts hE Za ld rfl rfl Try.underlying54 ty5 rfl rfl hi15 rfl fun a hE=>Ze hE Za ld rfl fun a hE=>Zf (wp_region_lit (Zc hE Za ld rfl ?_)); intro a hE
   obtain ⟨x17,hi16,hs9⟩:=bvx hs9
   refine Zh hE Za ld rfl rfl Try.underlying225 ty4 hi16.1 fun a hE=>Zi (seg:=[vT true]) (cs':=enc (s8.1.setIfInBounds ((bI x13)).toNat true)) hE hM Za rfl rfl rfl ty4 rfl (ZN (v:=s8.1) (x:=true) hi16.1) (Flat.cell (true : Bool)) (ZD (v:=s8.1) (x:=true) hi16.1) fun w a hM hE=>Zk (Yj (ZG (wp_region_lit (Zm hE Za ld rfl rfl rfl fun a hE=>Zc hE Za ld rfl fun a hE=>Zk (Zn ?_)))))
   exact ⟨_,(ois hs9),hE.sub ⟨rfl,rfl,rfl,trivial⟩,hM⟩
  ·intro hb12
   have hs9:=ZA hs9 hb12
   refine wp_exit (Zs (Zs (Yz ?_)))
   have ht19:=hx10 _ (ois hs9)
   subst ht19
   refine Zn ?_
   exact ⟨hE.sub ⟨rfl,trivial⟩,hM⟩
 ·skip
  rintro a w ⟨hE,hM⟩
  refine ZG (Zd ?_)
  obtain ⟨l20,e21,hF7⟩:=bind_some hF7
  have hb22:=Hy e21 -- ^
  refine QL (N:=256) hE Za ld rfl rfl rfl rfl rfl Try.underlying225 ty4 hb22 ?_; intro a hE
  obtain ⟨r23,e24,hF7⟩:=bind_some hF7
  refine Zo hE Za ld rfl cb187 (TN _ l20 (VG (.slice (some ⟨b3,0,none⟩) 256 256) ((0 : Int)).toNat ((256 : Int)).toNat 1) (HW (At.sat (hM.rawAt (pre:=[])) (by simp) (by decide)) e21) false r23 e24) ?_
  rintro v w a ⟨rfl,hK⟩ hE
  have hM:=hM.keep hK
  refine UT hE Za ld rfl fun a hE=>Ze hE Za ld rfl fun a hE=>Zf ?_
  have hr:=Option.some.inj hF7
  subst hr
  have hM:=M.fst (l:=[]) hM
  exact wp_ret (ZK hE rfl (Zx hE rfl) ⟨_,rfl,rfl,hM.kept⟩)
def UQ (s8 : (Vector (Vector UInt8 4) 4) × Int) : Option (Fl ((Vector (Vector UInt8 4) 4) × Int) (Vector (Vector UInt8 4) 4)) :=
 if (decide (s8.2 < 4)) = true then ((ZI s8.1 s8.2).bind fun x14=>(ZI x14 s8.2).bind fun x17=>some (Fl.nx ((s8.1.setIfInBounds (s8.2).toNat (x14.setIfInBounds (s8.2).toNat 1)),wr (s8.2 + 1)))) else (some (Fl.ex s8.1))
def Vc : Option ((Vector (Vector UInt8 4) 4)) :=
 (ZQ (UQ) ((Vector.replicate 4 (Vector.replicate 4 (0 : UInt8))),0)).bind fun j5=>some j5
theorem JE (w0 : World)  (r : (Vector (Vector UInt8 4) 4)) (hF : Vc  = some r) :
  Calls Try.prog 188 [].toArray w0 (fun en w'=>∃ v,en = .returned v ∧ (v = (Value.agg (enc r).toArray) ∧ Kept (Old w0) w0 w')):=by
 refine ZJ (n:=13) Try.func188 rfl rfl (nbl rfl) rfl ?_
 intro a hE
 have hM:=M.start w0
 unfold Vc at hF
 refine Zd (Zu hE hM Za ld Y7 fun b1 w a hM hE=>Zf (Zd (Z7 (parts:=[]) (vs:=[]) (cs:=enc (Vector.replicate 4 (Vector.replicate 4 (0 : UInt8)))) hE Za ld rfl rfl Y7 rfl Yr ZZ fun a hE=>Zu hE hM Za ld Y7 fun b3 w a hM hE=>Zi (seg:=enc (Vector.replicate 4 (Vector.replicate 4 (0 : UInt8)))) (cs':=enc (Vector.replicate 4 (Vector.replicate 4 (0 : UInt8)))) hE hM Za rfl rfl rfl Y7 (Flat.len _) (zle flq) (Flat.cell _) (Zg flq) fun w a hM hE=>Zf (wp_seq (Zd (Zc hE Za ld rfl fun a hE=>Zf ?_))))))
 obtain ⟨j5,hl6,hF7⟩:=bind_some hF
 refine Z0 (fun a w=>Env 13 a [(0,(ptr b1 0)),(1,(ptr b3 0))] ∧ M (Old w0) w0 w [raw b3 (enc j5),raw b1 (enc (Vector.replicate 4 (Vector.replicate 4 (0 : UInt8))))]) ?_ ?_
 ·skip
  refine wp_block ?_
  refine ZV (fun (s8 : (Vector (Vector UInt8 4) 4) × Int) a w=>Env 13 a [(0,(ptr b1 0)),(1,(ptr b3 0)),(4,vI s8.2)] ∧ M (Old w0) w0 w [raw b3 (enc s8.1),raw b1 (enc (Vector.replicate 4 (Vector.replicate 4 (0 : UInt8))))]) hl6 ⟨hE.sub ⟨rfl,rfl,rfl,trivial⟩,hM⟩ ?_
  rintro s8 a w ⟨hE,hM⟩ o11 hs9 hx10
  unfold UQ at hs9
  refine Zd (Zm hE Za ld rfl rfl rfl fun a hE=>Zf (wp_seq ?_))
  refine Zv hE rfl ?_ ?_
  ·intro hb12
   have hs9:=ZB hs9 hb12
   refine wp_skip (ZG (wp_seq (wp_block (Zd (Zc hE Za ld rfl fun a hE=>Ze hE Za ld rfl fun a hE=>Zf (wp_region_lit (Zc hE Za ld rfl fun a hE=>Zc hE Za ld rfl ?_))))))); intro a hE
   obtain ⟨x14,hi13,hs9⟩:=bvx hs9
   refine Zh hE Za ld rfl rfl Try.underlying57 Yr hi13.1 ?_; intro a hE
   obtain ⟨x17,hi16,hs9⟩:=bvx hs9
   refine Zh hE Za ld rfl rfl Try.underlying55 ty5 hi16.1 fun a hE=>Zi (seg:=[vB 1]) (cs':=enc (s8.1.setIfInBounds (s8.2).toNat (x14.setIfInBounds (s8.2).toNat 1))) hE hM Za rfl rfl rfl ty5 rfl (We (o':=0 + (s8.2).toNat * 1) hi13 (ZN (v:=x14) (x:=1) hi16.1) (by first | omega | (simp only [Flat.n] <;> omega))) (Flat.cell (1 : UInt8)) (YX (o':=0 + (s8.2).toNat * 1) hi13 (ZN (v:=x14) (x:=1) hi16.1) (ZD (v:=x14) (x:=1) hi16.1) (by first | omega | (simp only [Flat.n] <;> omega))) fun w a hM hE=>Zk (Yj (ZG (wp_region_lit (Zm hE Za ld rfl rfl rfl fun a hE=>Zc hE Za ld rfl fun a hE=>Zk (Zn ?_)))))
   exact ⟨_,(ois hs9),hE.sub ⟨rfl,rfl,rfl,trivial⟩,hM⟩
  ·intro hb12
   have hs9:=ZA hs9 hb12
   refine wp_exit (Zs (Zs (Yz ?_)))
   have ht19:=hx10 _ (ois hs9)
   subst ht19
   refine Zn ?_
   exact ⟨hE.sub ⟨rfl,rfl,trivial⟩,hM⟩
 ·skip
  rintro a w ⟨hE,hM⟩
  refine ZG (Zd (Zj (cs:=enc j5) hE Za ld rfl Y7 rfl (hM.rawAt (pre:=[])) (Flat.len _) ?_)); intro a hE
  have hM:=hM.pull (pre:=[_])
  refine Zi (seg:=enc j5) (cs':=enc j5) hE hM Za rfl rfl rfl Y7 (Flat.len _) (zle flq) (Flat.cell _) (Zg flq) fun w a hM hE=>Zf ?_
  have hr:=Option.some.inj hF7
  subst hr
  have hq20 : ZY Try.prog _ _ (.cell 0 57) _:=ZM hE rfl Y7 rfl (hM.rawAt (pre:=[])) (Flat.len _) rfl
  have hM:=M.fst (l:=[]) hM
  exact wp_ret (ZK hE rfl hq20 ⟨_,rfl,rfl,hM.kept⟩)
def Xv (p1 : UInt8) (p2 : UInt8) (s4 : Int × Int) : Option (Fl (Int × Int) Int) :=
 if (decide (s4.2 < 8)) = true then (((Wp s4.2).bind fun _=>(if (((As p2 s4.2) &&& 1) == 1) = true then ((Wp s4.2).bind fun _=>some (KE s4.1 (Ka (bI p1) s4.2))) else (some s4.1) : Option (Int)).bind fun j13=>some j13 : Option (Int)).bind fun j9=>some (Fl.nx (j9,wr (s4.2 + 1)))) else (some (Fl.ex s4.1))
def Yc (p0 : Int) (p1 : UInt8) (p2 : UInt8) : Option (UInt8) :=
 (ZQ (Xv p1 p2) (0,0)).bind fun j1=>(Uo j1 p0 8).bind fun r22=>some (ZE r22)
theorem YK (w0 : World) (p0 : Int) (p1 : UInt8) (p2 : UInt8) (r : UInt8) (hF : Yc p0 p1 p2 = some r) :
  Calls Try.prog 132 [vI p0,vB p1,vB p2].toArray w0 (fun en w'=>∃ v,en = .returned v ∧ (v = (vB r) ∧ Kept (Old w0) w0 w')):=by
 refine ZJ (n:=28) Try.func132 rfl rfl (nbl rfl) rfl ?_
 intro a hE
 have hM:=M.start w0
 unfold Yc at hF
 refine Zd (Ze hE Za ld rfl fun a hE=>Zf (Zd (Ze hE Za ld rfl fun a hE=>Zf (wp_seq (Zd (Zc hE Za ld rfl fun a hE=>Zf ?_))))))
 obtain ⟨j1,hl2,hF3⟩:=bind_some hF
 refine Z0 (fun a w=>Env 28 a [(0,vI p0),(7,vI j1)] ∧ M (Old w0) w0 w []) ?_ ?_
 ·skip
  refine wp_block ?_
  refine ZV (fun (s4 : Int × Int) a w=>Env 28 a [(0,vI p0),(1,vB p1),(2,vB p2),(7,vI s4.1),(9,vI s4.2)] ∧ M (Old w0) w0 w []) hl2 ⟨hE.sub ⟨rfl,rfl,rfl,rfl,rfl,trivial⟩,hM⟩ ?_
  rintro s4 a w ⟨hE,hM⟩ o7 hs5 hx6
  unfold Xv at hs5
  refine Zd (Zm hE Za ld rfl rfl rfl fun a hE=>Zf (wp_seq ?_))
  refine Zv hE rfl ?_ ?_
  ·intro hb8
   have hs5:=ZB hs5 hb8
   refine wp_skip (ZG ?_)
   obtain ⟨j9,hl10,hF11⟩:=bind_some hs5
   refine ZT (fun a w=>Env 28 a [(0,vI p0),(1,vB p1),(2,vB p2),(7,vI j9),(9,vI s4.2)] ∧ M (Old w0) w0 w []) ?_ ?_
   ·skip
    refine wp_block (Zd (Zc hE Za ld rfl fun a hE=>Ze hE Za ld rfl fun a hE=>Zf (Zd (Zc hE Za ld rfl fun a hE=>Zc hE Za ld rfl ?_)))); intro a hE
    obtain ⟨_,e12,hl10⟩:=bind_some hl10
    have e12:=VA e12
    refine Bf hE Za ld rfl rfl (bB_shr _ _ e12) fun a hE=>Zm hE Za ld rfl rfl (bB_and (As p2 s4.2) 1) fun a hE=>Zm hE Za ld rfl rfl (zF ((As p2 s4.2) &&& 1) 1) fun a hE=>Zf ?_
    obtain ⟨j13,hl14,hF15⟩:=bind_some hl10
    refine Z0 (fun a w=>Env 28 a [(0,vI p0),(1,vB p1),(2,vB p2),(7,vI j13),(9,vI s4.2)] ∧ M (Old w0) w0 w []) ?_ ?_
    ·skip
     refine Zv hE rfl ?_ ?_
     ·intro hb16
      have hl14:=ZB hl14 hb16
      refine wp_region_lit (Zc hE Za ld rfl fun a hE=>Zc hE Za ld rfl fun a hE=>Yg hE Za ld rfl Try.underlying5 Try.underlying2 ?_); intro a hE
      rw [Uy] at hE
      refine Zc hE Za ld rfl ?_; intro a hE
      obtain ⟨_,e17,hl14⟩:=bind_some hl14
      have e17:=VA e17
      refine Bf hE Za ld rfl rfl (JK _ _ e17) fun a hE=>Zm hE Za ld rfl rfl rfl fun a hE=>Ze hE Za ld rfl fun a hE=>Zk ?_
      have ht18:=Option.some.inj hl14
      subst ht18
      refine Zn ?_
      exact ⟨hE.sub ⟨rfl,rfl,rfl,rfl,rfl,trivial⟩,hM⟩
     ·intro hb16
      have hl14:=ZA hl14 hb16
      refine wp_skip ?_
      have ht19:=Option.some.inj hl14
      subst ht19
      refine Zn ?_
      exact ⟨hE.sub ⟨rfl,rfl,rfl,rfl,rfl,trivial⟩,hM⟩
    ·skip
     rintro a w ⟨hE,hM⟩
     refine Yj ?_
     have ht20:=Option.some.inj hF15
     subst ht20
     refine Zn ?_
     exact ⟨hE.sub ⟨rfl,rfl,rfl,rfl,rfl,trivial⟩,hM⟩
   ·skip
    rintro a w ⟨hE,hM⟩
    refine wp_region_lit (Zm hE Za ld rfl rfl rfl fun a hE=>Zc hE Za ld rfl fun a hE=>Zk (Zn ?_))
    exact ⟨_,(ois hF11),hE.sub ⟨rfl,rfl,rfl,rfl,rfl,trivial⟩,hM⟩
  ·intro hb8
   have hs5:=ZA hs5 hb8
   refine wp_exit (Zs (Zs (Yz ?_)))
   have ht21:=hx6 _ (ois hs5)
   subst ht21
   refine Zn ?_
   exact ⟨hE.sub ⟨rfl,rfl,trivial⟩,hM⟩
 ·skip
  rintro a w ⟨hE,hM⟩
  refine ZG (Zd (Zc hE Za ld rfl fun a hE=>Zc hE Za ld rfl ?_)); intro a hE
  obtain ⟨r22,e23,hF3⟩:=bind_some hF3
  refine Zo hE Za ld rfl cb120 (Ho _ j1 p0 8 r22 e23) ?_
  rintro v w a ⟨rfl,hK⟩ hE
  have hM:=hM.keep hK
  refine Yg hE Za ld rfl Try.underlying2 Try.underlying5 ?_; intro a hE
  rw [Z6] at hE
  refine Ze hE Za ld rfl fun a hE=>Zf ?_
  have hr:=Option.some.inj hF3
  subst hr
  exact wp_ret (ZK hE rfl (Zx hE rfl) ⟨_,rfl,rfl,hM.kept⟩)
def Vi (p0 : Int) (s4 : UInt8 × Int × UInt8) : Option (Fl (UInt8 × Int × UInt8) UInt8) :=
 if (decide (s4.2.1 > 0)) = true then (((if ((Int.tmod s4.2.1 2) == 1) = true then ((Yc p0 s4.2.2 s4.1).bind fun r16=>some r16) else (some s4.2.2) : Option (UInt8)).bind fun j12=>(Yc p0 s4.1 s4.1).bind fun r20=>some (r20,j12) : Option (UInt8 × UInt8)).bind fun j9=>some (Fl.nx (j9.1,wr (Int.tdiv s4.2.1 2),j9.2))) else (some (Fl.ex s4.2.2))
def XO (p0 : Int) (p1 : UInt8) (p2 : Int) : Option (UInt8) :=
 (ZQ (Vi p0) (p1,p2,1)).bind fun j1=>some j1
theorem KV (w0 : World) (p0 : Int) (p1 : UInt8) (p2 : Int) (r : UInt8) (hF : XO p0 p1 p2 = some r) :
  Calls Try.prog 203 [vI p0,vB p1,vI p2].toArray w0 (fun en w'=>∃ v,en = .returned v ∧ (v = (vB r) ∧ Kept (Old w0) w0 w')):=by
 refine ZJ (n:=24) Try.func203 rfl rfl (nbl rfl) rfl ?_
 intro a hE
 have hM:=M.start w0
 unfold XO at hF
 refine Zd (Ze hE Za ld rfl fun a hE=>Zf (Zd (Ze hE Za ld rfl fun a hE=>Zf ?_)))
 obtain ⟨j1,hl2,hF3⟩:=bind_some hF
 refine ZT (fun a w=>Env 24 a [(7,vB j1)] ∧ M (Old w0) w0 w []) ?_ ?_
 ·skip
  refine wp_block ?_
  refine ZV (fun (s4 : UInt8 × Int × UInt8) a w=>Env 24 a [(0,vI p0),(1,vB s4.1),(2,vI s4.2.1),(7,vB s4.2.2)] ∧ M (Old w0) w0 w []) hl2 ⟨hE.sub ⟨rfl,rfl,rfl,rfl,trivial⟩,hM⟩ ?_
  rintro s4 a w ⟨hE,hM⟩ o7 hs5 hx6
  unfold Vi at hs5
  refine wp_seq (Zd (Zc hE Za ld rfl fun a hE=>Zm hE Za ld rfl rfl rfl fun a hE=>Zf ?_))
  refine Zv hE rfl ?_ ?_
  ·intro hb8
   have hs5:=ZB hs5 hb8
   refine wp_skip (ZG ?_)
   obtain ⟨j9,hl10,hF11⟩:=bind_some hs5
   refine ZT (fun a w=>Env 24 a [(0,vI p0),(1,vB j9.1),(2,vI s4.2.1),(7,vB j9.2)] ∧ M (Old w0) w0 w []) ?_ ?_
   ·skip
    refine wp_block ?_
    obtain ⟨j12,hl13,hF14⟩:=bind_some hl10
    refine ZT (fun a w=>Env 24 a [(0,vI p0),(1,vB s4.1),(2,vI s4.2.1),(7,vB j12)] ∧ M (Old w0) w0 w []) ?_ ?_
    ·skip
     refine Zd (Zc hE Za ld rfl fun a hE=>Zm hE Za ld rfl rfl (Kc _ _ (by decide)) fun a hE=>Zm hE Za ld rfl rfl rfl fun a hE=>Zf ?_)
     refine Zv hE rfl ?_ ?_
     ·intro hb15
      have hl13:=ZB hl13 hb15
      refine wp_region_lit (Zc hE Za ld rfl fun a hE=>Zc hE Za ld rfl fun a hE=>Zc hE Za ld rfl ?_); intro a hE
      obtain ⟨r16,e17,hl13⟩:=bind_some hl13
      refine Zo hE Za ld rfl Hl (YK _ p0 s4.2.2 s4.1 r16 e17) ?_
      rintro v w a ⟨rfl,hK⟩ hE
      have hM:=hM.keep hK
      refine Ze hE Za ld rfl fun a hE=>Zk ?_
      have ht18:=Option.some.inj hl13
      subst ht18
      refine Zn ?_
      exact ⟨hE.sub ⟨rfl,rfl,rfl,rfl,trivial⟩,hM⟩
     ·intro hb15
      have hl13:=ZA hl13 hb15
      refine wp_skip ?_
      have ht19:=Option.some.inj hl13
      subst ht19
      refine Zn ?_
      exact ⟨hE.sub ⟨rfl,rfl,rfl,rfl,trivial⟩,hM⟩
    ·skip
     rintro a w ⟨hE,hM⟩
     refine wp_region_lit (Zc hE Za ld rfl fun a hE=>Zc hE Za ld rfl fun a hE=>Zc hE Za ld rfl ?_); intro a hE
     obtain ⟨r20,e21,hF14⟩:=bind_some hF14
     refine Zo hE Za ld rfl Hl (YK _ p0 s4.1 s4.1 r20 e21) ?_
     rintro v w a ⟨rfl,hK⟩ hE
     have hM:=hM.keep hK
     refine Ze hE Za ld rfl fun a hE=>Zk (Yj ?_)
     have ht22:=Option.some.inj hF14
     subst ht22
     refine Zn ?_
     exact ⟨hE.sub ⟨rfl,rfl,rfl,rfl,trivial⟩,hM⟩
   ·skip
    rintro a w ⟨hE,hM⟩
    refine wp_region_lit (Zc hE Za ld rfl fun a hE=>Zm hE Za ld rfl rfl (Qf _ _ (by decide)) fun a hE=>Ze hE Za ld rfl fun a hE=>Zk (Zn ?_))
    exact ⟨_,(ois hF11),hE.sub ⟨rfl,rfl,rfl,rfl,trivial⟩,hM⟩
  ·intro hb8
   have hs5:=ZA hs5 hb8
   refine wp_exit (Zs (Zs (Yz ?_)))
   have ht23:=hx6 _ (ois hs5)
   subst ht23
   refine Zn ?_
   exact ⟨hE.sub ⟨rfl,trivial⟩,hM⟩
 ·skip
  rintro a w ⟨hE,hM⟩
  refine Zd (Zc hE Za ld rfl fun a hE=>Ze hE Za ld rfl fun a hE=>Zf ?_)
  have hr:=Option.some.inj hF3
  subst hr
  exact wp_ret (ZK hE rfl (Zx hE rfl) ⟨_,rfl,rfl,hM.kept⟩)
def X5 (p0 : Int) (p1 : UInt8) : Option (UInt8) :=
 (XO p0 p1 254).bind fun r1=>some r1
theorem Kp (w0 : World) (p0 : Int) (p1 : UInt8) (r : UInt8) (hF : X5 p0 p1 = some r) :
  Calls Try.prog 179 [vI p0,vB p1].toArray w0 (fun en w'=>∃ v,en = .returned v ∧ (v = (vB r) ∧ Kept (Old w0) w0 w')):=by
 refine ZJ (n:=8) Try.func179 rfl rfl (nbl rfl) rfl ?_
 intro a hE
 have hM:=M.start w0
 unfold X5 at hF
 refine Zd (Ze hE Za ld rfl fun a hE=>Zf (Zd (Zc hE Za ld rfl fun a hE=>Zc hE Za ld rfl ?_))); intro a hE
 obtain ⟨r1,e2,hF⟩:=bind_some hF
 refine Zo hE Za ld rfl cb203 (KV _ p0 p1 254 r1 e2) ?_
 rintro v w a ⟨rfl,hK⟩ hE
 have hM:=hM.keep hK
 refine Ze hE Za ld rfl fun a hE=>Zf ?_
 have hr:=Option.some.inj hF
 subst hr
 exact wp_ret (ZK hE rfl (Zx hE rfl) ⟨_,rfl,rfl,hM.kept⟩)
def Ue (s13 : (Vector (Vector UInt8 4) 4) × (Vector (Vector UInt8 4) 4) × Int × UInt8) (s21 : Int) : Option (Fl Int Int) :=
 (if (decide (s21 < 4)) = true then ((ZI s13.1 s21).bind fun x30=>(ZI x30 s13.2.2.1).bind fun x33=>some (x33 == 0)) else (some false) : Option (Bool)).bind fun j25=>if j25 = true then (some (Fl.nx (wr (s21 + 1)))) else (some (Fl.ex s21))
def X8 (p0 : Int) (s13 : (Vector (Vector UInt8 4) 4) × (Vector (Vector UInt8 4) 4) × Int × UInt8) (r90 : UInt8) (s95 : (Vector (Vector UInt8 4) 4) × (Vector (Vector UInt8 4) 4) × Int) : Option (Fl ((Vector (Vector UInt8 4) 4) × (Vector (Vector UInt8 4) 4) × Int) ((Vector (Vector UInt8 4) 4) × (Vector (Vector UInt8 4) 4))) :=
 if (decide (s95.2.2 < 4)) = true then ((ZI s95.1 s13.2.2.1).bind fun x102=>(ZI x102 s95.2.2).bind fun x105=>(Yc p0 x105 r90).bind fun r107=>(ZI s95.2.1 s13.2.2.1).bind fun x110=>(ZI x110 s95.2.2).bind fun x113=>(Yc p0 x113 r90).bind fun r115=>(ZI s95.1 s13.2.2.1).bind fun x118=>(ZI x118 s95.2.2).bind fun x121=>(ZI s95.2.1 s13.2.2.1).bind fun x124=>(ZI x124 s95.2.2).bind fun x127=>some (Fl.nx ((s95.1.setIfInBounds (s13.2.2.1).toNat (x118.setIfInBounds (s95.2.2).toNat r107)),(s95.2.1.setIfInBounds (s13.2.2.1).toNat (x124.setIfInBounds (s95.2.2).toNat r115)),wr (s95.2.2 + 1)))) else (some (Fl.ex (s95.1,s95.2.1)))
def X4 (p0 : Int) (s13 : (Vector (Vector UInt8 4) 4) × (Vector (Vector UInt8 4) 4) × Int × UInt8) (s133 : (Vector (Vector UInt8 4) 4) × (Vector (Vector UInt8 4) 4) × Int) (x145 : UInt8) (s160 : (Vector (Vector UInt8 4) 4) × (Vector (Vector UInt8 4) 4) × Int) : Option (Fl ((Vector (Vector UInt8 4) 4) × (Vector (Vector UInt8 4) 4) × Int) ((Vector (Vector UInt8 4) 4) × (Vector (Vector UInt8 4) 4))) :=
 if (decide (s160.2.2 < 4)) = true then (((ZI s160.1 s133.2.2).bind fun x170=>(ZI x170 s160.2.2).bind fun x173=>(ZI s160.1 s13.2.2.1).bind fun x176=>(ZI x176 s160.2.2).bind fun x179=>(Yc p0 x145 x179).bind fun r181=>(ZI s160.1 s133.2.2).bind fun x184=>(ZI x184 s160.2.2).bind fun x187=>some (s160.1.setIfInBounds (s133.2.2).toNat (x184.setIfInBounds (s160.2.2).toNat (x173 ^^^ r181))) : Option ((Vector (Vector UInt8 4) 4))).bind fun j165=>(ZI s160.2.1 s133.2.2).bind fun x192=>(ZI x192 s160.2.2).bind fun x195=>(ZI s160.2.1 s13.2.2.1).bind fun x198=>(ZI x198 s160.2.2).bind fun x201=>(Yc p0 x145 x201).bind fun r203=>(ZI s160.2.1 s133.2.2).bind fun x206=>(ZI x206 s160.2.2).bind fun x209=>some (Fl.nx (j165,(s160.2.1.setIfInBounds (s133.2.2).toNat (x206.setIfInBounds (s160.2.2).toNat (x195 ^^^ r203))),wr (s160.2.2 + 1)))) else (some (Fl.ex (s160.1,s160.2.1)))
def Wa (p0 : Int) (s13 : (Vector (Vector UInt8 4) 4) × (Vector (Vector UInt8 4) 4) × Int × UInt8) (s133 : (Vector (Vector UInt8 4) 4) × (Vector (Vector UInt8 4) 4) × Int) : Option (Fl ((Vector (Vector UInt8 4) 4) × (Vector (Vector UInt8 4) 4) × Int) ((Vector (Vector UInt8 4) 4) × (Vector (Vector UInt8 4) 4))) :=
 if (decide (s133.2.2 < 4)) = true then (((ZI s133.1 s133.2.2).bind fun x142=>(ZI x142 s13.2.2.1).bind fun x145=>(if (s133.2.2 != s13.2.2.1) = true then (some (x145 != 0)) else (some false) : Option (Bool)).bind fun j147=>(if j147 = true then ((ZQ (X4 p0 s13 s133 x145) (s133.1,s133.2.1,0)).bind fun j157=>some (j157.1,j157.2)) else (some (s133.1,s133.2.1)) : Option ((Vector (Vector UInt8 4) 4) × (Vector (Vector UInt8 4) 4))).bind fun j153=>some (j153.1,j153.2) : Option ((Vector (Vector UInt8 4) 4) × (Vector (Vector UInt8 4) 4))).bind fun j138=>some (Fl.nx (j138.1,j138.2,wr (s133.2.2 + 1)))) else (some (Fl.ex (s133.1,s133.2.1)))
def YN (p0 : Int) (s13 : (Vector (Vector UInt8 4) 4) × (Vector (Vector UInt8 4) 4) × Int × UInt8) : Option (Fl ((Vector (Vector UInt8 4) 4) × (Vector (Vector UInt8 4) 4) × Int × UInt8) (Fl ((Vector (Vector UInt8 4) 4) × UInt8) (UInt8 × (Vector (Vector UInt8 4) 4)))) :=
 if (decide (s13.2.2.1 < 4)) = true then ((ZQ (Ue s13) s13.2.2.1).bind fun j18=>if (j18 == 4) = true then (some (Fl.ex (Fl.ex (0,(Vector.replicate 4 (Vector.replicate 4 (0 : UInt8))))))) else (((ZI s13.1 s13.2.2.1).bind fun x47=>(ZI s13.1 j18).bind fun x50=>(ZI s13.1 j18).bind fun x53=>(ZI (s13.1.setIfInBounds (j18).toNat x47) s13.2.2.1).bind fun x56=>some ((s13.1.setIfInBounds (j18).toNat x47).setIfInBounds (s13.2.2.1).toNat x50) : Option ((Vector (Vector UInt8 4) 4))).bind fun j42=>((ZI s13.2.1 s13.2.2.1).bind fun x64=>(ZI s13.2.1 j18).bind fun x67=>(ZI s13.2.1 j18).bind fun x70=>(ZI (s13.2.1.setIfInBounds (j18).toNat x64) s13.2.2.1).bind fun x73=>some ((s13.2.1.setIfInBounds (j18).toNat x64).setIfInBounds (s13.2.2.1).toNat x67) : Option ((Vector (Vector UInt8 4) 4))).bind fun j59=>(ZI j42 s13.2.2.1).bind fun x77=>(ZI x77 s13.2.2.1).bind fun x80=>(Yc p0 s13.2.2.2 x80).bind fun r82=>(ZI j42 s13.2.2.1).bind fun x85=>(ZI x85 s13.2.2.1).bind fun x88=>(X5 p0 x88).bind fun r90=>(ZQ (X8 p0 s13 r90) (j42,j59,0)).bind fun j92=>(ZQ (Wa p0 s13) (j92.1,j92.2,0)).bind fun j130=>some (Fl.nx (j130.1,j130.2,wr (s13.2.2.1 + 1),r82)))) else (some (Fl.ex (Fl.nx (s13.2.1,s13.2.2.2))))
def YV (p0 : Int) (p1 : (Vector (Vector UInt8 4) 4)) : Option (UInt8 × (Vector (Vector UInt8 4) 4)) :=
 (Vc).bind fun r5=>(ZQ (YN p0) (p1,r5,0,1)).bind fun j9=>j9.el (fun s12=>(some (s12.1,s12.2) : Option ((Vector (Vector UInt8 4) 4) × UInt8)).bind fun j217=>some (j217.2,j217.1)) (fun r=>some r)
theorem TJ (w0 : World) (p0 : Int) (p1 : (Vector (Vector UInt8 4) 4)) (r : UInt8 × (Vector (Vector UInt8 4) 4)) (hF : YV p0 p1 = some r) :
  Calls Try.prog 145 [vI p0,(Value.agg (enc p1).toArray)].toArray w0 (fun en w'=>∃ v,en = .returned v ∧ (v = (Value.tuple [vB r.1,(Value.agg (enc r.2).toArray)].toArray) ∧ Kept (Old w0) w0 w')):=by
 refine ZJ (n:=153) Try.func145 rfl rfl (nbl rfl) rfl ?_
 intro a hE
 have hM:=M.start w0
 unfold YV at hF
 refine Zd (Z3 (cs:=enc p1) hE hM Za ld rfl rfl fun b1 w a hM hE=>Ze hE Za ld rfl fun a hE=>Zu hE hM Za ld Y7 fun b3 w a hM hE=>Zf (Zd ?_))
 obtain ⟨r5,e6,hF⟩:=bind_some hF
 refine Zo hE Za ld rfl cb188 (JE _  r5 e6) ?_
 rintro v w a ⟨rfl,hK⟩ hE
 have hM:=hM.keep hK
 refine Zu hE hM Za ld Y7 fun b7 w a hM hE=>Zi (seg:=enc r5) (cs':=enc r5) hE hM Za rfl rfl rfl Y7 (Flat.len _) (zle flq) (Flat.cell _) (Zg flq) fun w a hM hE=>Ze hE Za ld rfl fun a hE=>Zf (wp_seq (Zd (Zc hE Za ld rfl fun a hE=>Zf ?_)))
 obtain ⟨j9,hl10,hF11⟩:=bind_some hF
 refine Z0 (fun a w=>∃ s12 : (Vector (Vector UInt8 4) 4) × UInt8,j9 = Fl.nx s12 ∧ Env 153 a [(5,(ptr b3 0)),(6,(ptr b7 0)),(7,vB s12.2)] ∧ M (Old w0) w0 w [raw b7 (enc s12.1),raw b3 (enc (Vector.replicate 4 (Vector.replicate 4 (0 : UInt8))))]) ?_ ?_
 ·skip
  refine wp_block ?_
  refine ZV (fun (s13 : (Vector (Vector UInt8 4) 4) × (Vector (Vector UInt8 4) 4) × Int × UInt8) a w=>Env 153 a [(0,vI p0),(3,(ptr b1 0)),(5,(ptr b3 0)),(6,(ptr b7 0)),(7,vB s13.2.2.2),(16,vI s13.2.2.1)] ∧ M (Old w0) w0 w [raw b7 (enc s13.2.1),raw b3 (enc (Vector.replicate 4 (Vector.replicate 4 (0 : UInt8)))),raw b1 (enc s13.1)]) hl10 ⟨hE.sub ⟨rfl,rfl,rfl,rfl,rfl,rfl,trivial⟩,hM⟩ ?_
  rintro s13 a w ⟨hE,hM⟩ o16 hs14 hx15
  unfold YN at hs14
  refine Zd (Zm hE Za ld rfl rfl rfl fun a hE=>Zf (wp_seq ?_))
  refine Zv hE rfl ?_ ?_
  ·intro hb17
   have hs14:=ZB hs14 hb17
   refine wp_skip (ZG (wp_seq (wp_block (Zd (Zc hE Za ld rfl fun a hE=>Ze hE Za ld rfl fun a hE=>Zf (Zd (Zc hE Za ld rfl fun a hE=>Ze hE Za ld rfl fun a hE=>Zf ?_)))))))
   obtain ⟨j18,hl19,hF20⟩:=bind_some hs14
   refine ZT (fun a w=>Env 153 a [(0,vI p0),(3,(ptr b1 0)),(5,(ptr b3 0)),(6,(ptr b7 0)),(7,vB s13.2.2.2),(8,vI s13.2.2.1),(9,vI j18),(16,vI s13.2.2.1)] ∧ M (Old w0) w0 w [raw b7 (enc s13.2.1),raw b3 (enc (Vector.replicate 4 (Vector.replicate 4 (0 : UInt8)))),raw b1 (enc s13.1)]) ?_ ?_
   ·skip
    refine wp_block ?_
    refine ZV (fun (s21 : Int) a w=>Env 153 a [(0,vI p0),(3,(ptr b1 0)),(5,(ptr b3 0)),(6,(ptr b7 0)),(7,vB s13.2.2.2),(8,vI s13.2.2.1),(9,vI s21),(16,vI s13.2.2.1)] ∧ M (Old w0) w0 w [raw b7 (enc s13.2.1),raw b3 (enc (Vector.replicate 4 (Vector.replicate 4 (0 : UInt8)))),raw b1 (enc s13.1)]) hl19 ⟨hE.sub ⟨rfl,rfl,rfl,rfl,rfl,rfl,rfl,rfl,trivial⟩,hM⟩ ?_
    rintro s21 a w ⟨hE,hM⟩ o24 hs22 hx23
    unfold Ue at hs22
    refine wp_seq ?_
    obtain ⟨j25,hl26,hF27⟩:=bind_some hs22
    refine ZT (fun a w=>Env 153 a [(0,vI p0),(3,(ptr b1 0)),(5,(ptr b3 0)),(6,(ptr b7 0)),(7,vB s13.2.2.2),(8,vI s13.2.2.1),(9,vI s21),(16,vI s13.2.2.1),(29,vT j25)] ∧ M (Old w0) w0 w [raw b7 (enc s13.2.1),raw b3 (enc (Vector.replicate 4 (Vector.replicate 4 (0 : UInt8)))),raw b1 (enc s13.1)]) ?_ ?_
    ·skip
     refine wp_region_lit (Zc hE Za ld rfl fun a hE=>Zm hE Za ld rfl rfl rfl fun a hE=>Zc hE Za ld rfl ?_); intro a hE
     refine Xy (decide (s21 < 4)) (fun hb28=>?_) (fun hb28=>?_)
     ·have hl26:=ZB hl26 hb28
      refine Zc hE (Zt hE rfl (lkb rfl hb28)) (by decide) rfl fun a hE=>Zc hE (Zt hE rfl (lkb rfl hb28)) (by decide) rfl ?_; intro a hE
      obtain ⟨x30,hi29,hl26⟩:=bvx hl26
      refine Zh hE (Zt hE rfl (lkb rfl hb28)) (by decide) rfl rfl Try.underlying57 Yr hi29.1 ?_; intro a hE
      obtain ⟨x33,hi32,hl26⟩:=bvx hl26
      refine Zh hE (Zt hE rfl (lkb rfl hb28)) (by decide) rfl rfl Try.underlying55 ty5 hi32.1 fun a hE=>ZF (v:=(vB x33)) hE (Zt hE rfl (lkb rfl hb28)) (by decide) rfl ty5 rfl (At.vec (At.vec (hM.rawAt (pre:=[_,_])) hi29.2) hi32.2) fun a hE=>Zm hE (Zt hE rfl (lkb rfl hb28)) (by decide) rfl rfl (zF x33 0) fun a hE=>Yy hE Za ld (lkb rfl hb28) rfl fun a hE=>Zk ?_
      have ht35:=Option.some.inj hl26
      subst ht35
      refine Zn ?_
      exact ⟨hE.sub ⟨rfl,rfl,rfl,rfl,rfl,rfl,rfl,rfl,rfl,trivial⟩,hM⟩
     ·have hl26:=ZA hl26 hb28
      refine Zz hE rfl (lkb rfl hb28) rfl (by decide) fun a hE=>Zz hE rfl (lkb rfl hb28) rfl (by decide) fun a hE=>Zz hE rfl (lkb rfl hb28) rfl (by decide) fun a hE=>Zz hE rfl (lkb rfl hb28) rfl (by decide) fun a hE=>Zz hE rfl (lkb rfl hb28) rfl (by decide) fun a hE=>Zz hE rfl (lkb rfl hb28) rfl (by decide) fun a hE=>Yh hE Za ld (lkb rfl hb28) rfl fun a hE=>Zk ?_
      have ht36:=Option.some.inj hl26
      subst ht36
      refine Zn ?_
      exact ⟨hE.sub ⟨rfl,rfl,rfl,rfl,rfl,rfl,rfl,rfl,rfl,trivial⟩,hM⟩
    ·skip
     rintro a w ⟨hE,hM⟩
     refine Zv hE rfl ?_ ?_
     ·intro hb37
      have hF27:=ZB hF27 hb37
      refine wp_skip (ZG (wp_block (wp_region_lit (Zc hE Za ld rfl fun a hE=>Zm hE Za ld rfl rfl rfl fun a hE=>Ze hE Za ld rfl fun a hE=>Zk (Yj (Zn ?_))))))
      exact ⟨_,(ois hF27),hE.sub ⟨rfl,rfl,rfl,rfl,rfl,rfl,rfl,rfl,trivial⟩,hM⟩
     ·intro hb37
      have hF27:=ZA hF27 hb37
      refine wp_exit (Zs (Zs (Yz ?_)))
      have ht38:=hx23 _ (ois hF27)
      subst ht38
      refine Zn ?_
      exact ⟨hE.sub ⟨rfl,rfl,rfl,rfl,rfl,rfl,rfl,rfl,trivial⟩,hM⟩
   ·skip
    rintro a w ⟨hE,hM⟩
    refine wp_seq (Zd (Zc hE Za ld rfl fun a hE=>Zm hE Za ld rfl rfl rfl fun a hE=>Zf ?_))
    refine Zv hE rfl ?_ ?_
    ·intro hb39
     have hF20:=ZB hF20 hb39
     refine Zd (Z7 (parts:=[]) (vs:=[]) (cs:=enc (Vector.replicate 4 (Vector.replicate 4 (0 : UInt8)))) hE Za ld rfl rfl Y7 rfl Yr ZZ fun a hE=>Ze hE Za ld rfl ?_); intro a hE
     have hM:=hM.pull (pre:=[_])
     refine Zi (seg:=enc (Vector.replicate 4 (Vector.replicate 4 (0 : UInt8)))) (cs':=enc (Vector.replicate 4 (Vector.replicate 4 (0 : UInt8)))) hE hM Za rfl rfl rfl Y7 (Flat.len _) (zle flq) (Flat.cell _) (Zg flq) fun w a hM hE=>Zf ?_
     have ht40:=hx15 _ (ois hF20)
     subst ht40
     have hr:=Option.some.inj hF11
     subst hr
     have hq41 : ZY Try.prog _ _ (.cell 5 57) _:=ZM hE rfl Y7 rfl (hM.rawAt (pre:=[])) (Flat.len _) rfl
     have hM:=M.fst (l:=[]) hM
     exact wp_ret (ZP (Y4 (ZP (ZP (Y4 (ZP (ZP (VH hE rfl (Zx hE rfl) hq41 ⟨_,rfl,rfl,hM.kept⟩))))))))
    ·intro hb39
     have hF20:=ZA hF20 hb39
     refine wp_skip (ZG ?_)
     obtain ⟨j42,hl43,hF44⟩:=bind_some hF20
     refine ZT (fun a w=>Env 153 a [(0,vI p0),(3,(ptr b1 0)),(5,(ptr b3 0)),(6,(ptr b7 0)),(7,vB s13.2.2.2),(8,vI s13.2.2.1),(9,vI j18),(16,vI s13.2.2.1)] ∧ M (Old w0) w0 w [raw b7 (enc s13.2.1),raw b3 (enc (Vector.replicate 4 (Vector.replicate 4 (0 : UInt8)))),raw b1 (enc j42)]) ?_ ?_
     ·skip
      have hM:=hM.pull (pre:=[_,_])
      obtain ⟨x47,hi46,hl43⟩:=bvx hl43
      obtain ⟨x50,hi49,hl43⟩:=bvx hl43
      obtain ⟨x53,hi52,hl43⟩:=bvx hl43
      refine Vj (n:=153) (hd:=[_,_,_,_,_,_,_,_,_,_]) (tl:=[_,_]) YS rfl rfl [35,36,37,38,39,40,41,42,43,162] (by decide) (fun D u w=>M (Old w0) w0 w ([raw b7 (enc s13.2.1),raw b3 (enc (Vector.replicate 4 (Vector.replicate 4 (0 : UInt8))))] ++ qL ([mkT 9 (raw b1 (enc s13.1)) (raw b1 (enc (s13.1.setIfInBounds (j18).toNat x47)))] : Mk) D u) ∧ GOk ([([],fun us v=>v = (vI j18)),([],fun us v=>v = (vI s13.2.2.1)),([],fun us v=>v = (vI s13.2.2.1)),([],fun us v=>v = (ptr b1 (0 + (s13.2.2.1).toNat * 4))),([],fun us v=>v = (Value.agg (enc x47).toArray)),([],fun us v=>v = (vI j18)),([],fun us v=>v = (ptr b1 (0 + (j18).toNat * 4))),([],fun us v=>v = (Value.agg (enc x50).toArray)),([],fun us v=>v = (ptr b1 (0 + (j18).toNat * 4))),([],fun us v=>True)] : Gs) D u) hE (fun u=>⟨M.qT (M.q0 hM.drew u),KH⟩) (ZS (Zb ?_ (Zb ?_ (Zb ?_ (Zb ?_ (Zb ?_ (Zb ?_ (Zb ?_ (Zb ?_ (Zb ?_ (Zb ?_ ZL))))))))))) ?_
      ·intro a w ux45 D hE hI hD hdc hp
       have hM0:=hI.1
       have hM:=hI.1
       have hM:=hM.togA (pre:=[_,_]) (Bool.eq_false_iff.2 fun hx=>Bool.noConfusion (hD.symm.trans (hdc 9 _ _ rfl (List.mem_of_getElem? (i:=2) rfl) rfl hx)))
       exact Zc hE Za ld rfl fun a hE=>⟨_,_,rfl,hE,M.qKeep hM0 rfl,hI.2.put hD rfl ZR rfl⟩
      ·intro a w ux45 D hE hI hD hdc hp
       have hM0:=hI.1
       exact Zc hE Za ld rfl fun a hE=>⟨_,_,rfl,hE,M.qKeep hM0 rfl,hI.2.put hD rfl ZR rfl⟩
      ·intro a w ux45 D hE hI hD hdc hp
       have hM0:=hI.1
       have hM:=hI.1
       have hM:=hM.togA (pre:=[_,_]) (Bool.eq_false_iff.2 fun hx=>Bool.noConfusion (hD.symm.trans (hdc 9 _ _ rfl (List.mem_of_getElem? (i:=4) rfl) rfl hx)))
       exact Zc hE Za ld rfl fun a hE=>⟨_,_,rfl,hE,M.qKeep hM0 rfl,hI.2.put hD rfl ZR rfl⟩
      ·intro a w ux45 D hE hI hD hdc hp
       have d2 : D 2 = true:=hp 0 _ rfl rfl
       have g2:=hI.2 2 d2 _ rfl
       have f2 : ux45 2 = (vI s13.2.2.1):=g2.2
       have hM0:=hI.1
       have hM:=hI.1
       have hM:=hM.togA (pre:=[_,_]) (Bool.eq_false_iff.2 fun hx=>Bool.noConfusion (hD.symm.trans (hdc 9 _ _ rfl (List.mem_of_getElem? (i:=5) rfl) rfl hx)))
       exact Zh hE Za ld rfl (lk rfl f2) Try.underlying57 Yr hi46.1 fun a hE=>⟨_,_,rfl,hE,M.qKeep hM0 rfl,hI.2.put hD rfl ZR rfl⟩
      ·intro a w ux45 D hE hI hD hdc hp
       have d3 : D 3 = true:=hp 0 _ rfl rfl
       have g3:=hI.2 3 d3 _ rfl
       have f3 : ux45 3 = (ptr b1 (0 + (s13.2.2.1).toNat * 4)):=g3.2
       have hM0:=hI.1
       have hM:=hI.1
       have hM:=hM.togA (pre:=[_,_]) (Bool.eq_false_iff.2 fun hx=>Bool.noConfusion (hD.symm.trans (hdc 9 _ _ rfl (List.mem_of_getElem? (i:=1) rfl) rfl hx)))
       exact Zj (cs:=enc x47) hE Za ld (lk rfl f3) Yr rfl (At.vec (hM.rawAt (pre:=[_,_])) hi46.2) (Flat.len _) fun a hE=>⟨_,_,rfl,hE,M.qKeep hM0 rfl,hI.2.put hD rfl ZR rfl⟩
      ·intro a w ux45 D hE hI hD hdc hp
       have hM0:=hI.1
       exact Zc hE Za ld rfl fun a hE=>⟨_,_,rfl,hE,M.qKeep hM0 rfl,hI.2.put hD rfl ZR rfl⟩
      ·intro a w ux45 D hE hI hD hdc hp
       have d5 : D 5 = true:=hp 0 _ rfl rfl
       have g5:=hI.2 5 d5 _ rfl
       have f5 : ux45 5 = (vI j18):=g5.2
       have hM0:=hI.1
       have hM:=hI.1
       have hM:=hM.togA (pre:=[_,_]) (Bool.eq_false_iff.2 fun hx=>Bool.noConfusion (hD.symm.trans (hdc 9 _ _ rfl (List.mem_of_getElem? (i:=8) rfl) rfl hx)))
       exact Zh hE Za ld rfl (lk rfl f5) Try.underlying57 Yr hi49.1 fun a hE=>⟨_,_,rfl,hE,M.qKeep hM0 rfl,hI.2.put hD rfl ZR rfl⟩
      ·intro a w ux45 D hE hI hD hdc hp
       have d6 : D 6 = true:=hp 0 _ rfl rfl
       have g6:=hI.2 6 d6 _ rfl
       have f6 : ux45 6 = (ptr b1 (0 + (j18).toNat * 4)):=g6.2
       have hM0:=hI.1
       have hM:=hI.1
       have hM:=hM.togA (pre:=[_,_]) (Bool.eq_false_iff.2 fun hx=>Bool.noConfusion (hD.symm.trans (hdc 9 _ _ rfl (List.mem_of_getElem? (i:=9) rfl) rfl hx)))
       exact Zj (cs:=enc x50) hE Za ld (lk rfl f6) Yr rfl (At.vec (hM.rawAt (pre:=[_,_])) hi49.2) (Flat.len _) fun a hE=>⟨_,_,rfl,hE,M.qKeep hM0 rfl,hI.2.put hD rfl ZR rfl⟩
      ·intro a w ux45 D hE hI hD hdc hp
       have d0 : D 0 = true:=hp 0 _ rfl rfl
       have g0:=hI.2 0 d0 _ rfl
       have f0 : ux45 0 = (vI j18):=g0.2
       have hM0:=hI.1
       have hM:=hI.1
       have hM:=hM.togA (pre:=[_,_]) (Bool.eq_false_iff.2 fun hx=>Bool.noConfusion (hD.symm.trans (hdc 9 _ _ rfl (List.mem_of_getElem? (i:=0) rfl) rfl hx)))
       exact Zh hE Za ld rfl (lk rfl f0) Try.underlying57 Yr hi52.1 fun a hE=>⟨_,_,rfl,hE,M.qKeep hM0 rfl,hI.2.put hD rfl ZR rfl⟩
      ·intro a w ux45 D hE hI hD hdc hp
       have d4 : D 4 = true:=hp 1 _ rfl rfl
       have g4:=hI.2 4 d4 _ rfl
       have f4 : ux45 4 = (Value.agg (enc x47).toArray):=g4.2
       have d8 : D 8 = true:=hp 0 _ rfl rfl
       have g8:=hI.2 8 d8 _ rfl
       have f8 : ux45 8 = (ptr b1 (0 + (j18).toNat * 4)):=g8.2
       have hM0:=hI.1
       have hM:=(hI.1.togA (pre:=[_,_]) hD).pull (pre:=[_,_])
       exact Zi (seg:=enc x47) (cs':=enc (s13.1.setIfInBounds (j18).toNat x47)) hE hM Za (lk rfl f8) (lk rfl f4) rfl Yr (Flat.len _) (ZN (v:=s13.1) (x:=x47) hi52.1) (Flat.cell _) (ZD (v:=s13.1) (x:=x47) hi52.1) fun w a hM hE=>⟨undef,_,rfl,Env.dummy hE (by decide),M.qTog (mk1:=[]) (mk2:=[]) hM rfl,hI.2.put hD rfl ZR trivial⟩
      ·intro a w ux45 D hE hI hall
       have hM:=hI.1
       have d0 : D 0 = true:=hall 0 (by decide)
       have d1 : D 1 = true:=hall 1 (by decide)
       have d2 : D 2 = true:=hall 2 (by decide)
       have d3 : D 3 = true:=hall 3 (by decide)
       have d4 : D 4 = true:=hall 4 (by decide)
       have d5 : D 5 = true:=hall 5 (by decide)
       have d6 : D 6 = true:=hall 6 (by decide)
       have d7 : D 7 = true:=hall 7 (by decide)
       have d8 : D 8 = true:=hall 8 (by decide)
       have d9 : D 9 = true:=hall 9 (by decide)
       have f0 : ux45 0 = (vI j18):=(hI.2 0 d0 _ rfl).2
       have f1 : ux45 1 = (vI s13.2.2.1):=(hI.2 1 d1 _ rfl).2
       have f2 : ux45 2 = (vI s13.2.2.1):=(hI.2 2 d2 _ rfl).2
       have f3 : ux45 3 = (ptr b1 (0 + (s13.2.2.1).toNat * 4)):=(hI.2 3 d3 _ rfl).2
       have f4 : ux45 4 = (Value.agg (enc x47).toArray):=(hI.2 4 d4 _ rfl).2
       have f5 : ux45 5 = (vI j18):=(hI.2 5 d5 _ rfl).2
       have f6 : ux45 6 = (ptr b1 (0 + (j18).toNat * 4)):=(hI.2 6 d6 _ rfl).2
       have f7 : ux45 7 = (Value.agg (enc x50).toArray):=(hI.2 7 d7 _ rfl).2
       have f8 : ux45 8 = (ptr b1 (0 + (j18).toNat * 4)):=(hI.2 8 d8 _ rfl).2
       have hM:=hM.togB (pre:=[_,_]) d9
       have hE:=hE.sub (e':=[(36,vI s13.2.2.1),(42,(Value.agg (enc x50).toArray)),(0,vI p0),(3,(ptr b1 0)),(5,(ptr b3 0)),(6,(ptr b7 0)),(7,vB s13.2.2.2),(8,vI s13.2.2.1),(9,vI j18),(16,vI s13.2.2.1),(32,vI j18),(33,(vT (j18 == 4)))]) ⟨lk rfl f1,lk rfl f7,rfl,rfl,rfl,rfl,rfl,rfl,rfl,rfl,rfl,rfl,trivial⟩
       obtain ⟨x56,hi55,hl43⟩:=bvx hl43
       refine Zh hE Za ld rfl rfl Try.underlying57 Yr hi55.1 ?_; intro a hE
       have hM:=hM.pull (pre:=[_,_])
       refine Zi (seg:=enc x50) (cs':=enc ((s13.1.setIfInBounds (j18).toNat x47).setIfInBounds (s13.2.2.1).toNat x50)) hE hM Za rfl rfl rfl Yr (Flat.len _) (ZN (v:=(s13.1.setIfInBounds (j18).toNat x47)) (x:=x50) hi55.1) (Flat.cell _) (ZD (v:=(s13.1.setIfInBounds (j18).toNat x47)) (x:=x50) hi55.1) fun w a hM hE=>Zk ?_
       have ht58:=Option.some.inj hl43
       subst ht58
       refine Zn ?_
       have hM:=(hM.pull (pre:=[_,_])).pull (pre:=[_,_])
       exact ⟨hE.sub ⟨rfl,rfl,rfl,rfl,rfl,rfl,rfl,rfl,trivial⟩,hM⟩
     ·skip
      rintro a w ⟨hE,hM⟩
      obtain ⟨j59,hl60,hF61⟩:=bind_some hF44
      refine ZT (fun a w=>Env 153 a [(0,vI p0),(3,(ptr b1 0)),(5,(ptr b3 0)),(6,(ptr b7 0)),(7,vB s13.2.2.2),(8,vI s13.2.2.1),(16,vI s13.2.2.1)] ∧ M (Old w0) w0 w [raw b7 (enc j59),raw b3 (enc (Vector.replicate 4 (Vector.replicate 4 (0 : UInt8)))),raw b1 (enc j42)]) ?_ ?_
      ·skip
       obtain ⟨x64,hi63,hl60⟩:=bvx hl60
       obtain ⟨x67,hi66,hl60⟩:=bvx hl60
       obtain ⟨x70,hi69,hl60⟩:=bvx hl60
       refine Vj (n:=153) (hd:=[_,_,_,_,_,_,_,_,_,_]) (tl:=[_,_]) YS rfl rfl [45,46,47,48,49,50,51,52,53,162] (by decide) (fun D u w=>M (Old w0) w0 w ([raw b3 (enc (Vector.replicate 4 (Vector.replicate 4 (0 : UInt8)))),raw b1 (enc j42)] ++ qL ([mkT 9 (raw b7 (enc s13.2.1)) (raw b7 (enc (s13.2.1.setIfInBounds (j18).toNat x64)))] : Mk) D u) ∧ GOk ([([],fun us v=>v = (vI j18)),([],fun us v=>v = (vI s13.2.2.1)),([],fun us v=>v = (vI s13.2.2.1)),([],fun us v=>v = (ptr b7 (0 + (s13.2.2.1).toNat * 4))),([],fun us v=>v = (Value.agg (enc x64).toArray)),([],fun us v=>v = (vI j18)),([],fun us v=>v = (ptr b7 (0 + (j18).toNat * 4))),([],fun us v=>v = (Value.agg (enc x67).toArray)),([],fun us v=>v = (ptr b7 (0 + (j18).toNat * 4))),([],fun us v=>True)] : Gs) D u) hE (fun u=>⟨M.qT (M.q0 hM.drew u),KH⟩) (ZS (Zb ?_ (Zb ?_ (Zb ?_ (Zb ?_ (Zb ?_ (Zb ?_ (Zb ?_ (Zb ?_ (Zb ?_ (Zb ?_ ZL))))))))))) ?_
       ·intro a w ux62 D hE hI hD hdc hp
        have hM0:=hI.1
        have hM:=hI.1
        have hM:=hM.togA (pre:=[_,_]) (Bool.eq_false_iff.2 fun hx=>Bool.noConfusion (hD.symm.trans (hdc 9 _ _ rfl (List.mem_of_getElem? (i:=2) rfl) rfl hx)))
        exact Zc hE Za ld rfl fun a hE=>⟨_,_,rfl,hE,M.qKeep hM0 rfl,hI.2.put hD rfl ZR rfl⟩
       ·intro a w ux62 D hE hI hD hdc hp
        have hM0:=hI.1
        exact Zc hE Za ld rfl fun a hE=>⟨_,_,rfl,hE,M.qKeep hM0 rfl,hI.2.put hD rfl ZR rfl⟩
       ·intro a w ux62 D hE hI hD hdc hp
        have hM0:=hI.1
        have hM:=hI.1
        have hM:=hM.togA (pre:=[_,_]) (Bool.eq_false_iff.2 fun hx=>Bool.noConfusion (hD.symm.trans (hdc 9 _ _ rfl (List.mem_of_getElem? (i:=4) rfl) rfl hx)))
        exact Zc hE Za ld rfl fun a hE=>⟨_,_,rfl,hE,M.qKeep hM0 rfl,hI.2.put hD rfl ZR rfl⟩
       ·intro a w ux62 D hE hI hD hdc hp
        have d2 : D 2 = true:=hp 0 _ rfl rfl
        have g2:=hI.2 2 d2 _ rfl
        have f2 : ux62 2 = (vI s13.2.2.1):=g2.2
        have hM0:=hI.1
        have hM:=hI.1
        have hM:=hM.togA (pre:=[_,_]) (Bool.eq_false_iff.2 fun hx=>Bool.noConfusion (hD.symm.trans (hdc 9 _ _ rfl (List.mem_of_getElem? (i:=5) rfl) rfl hx)))
        exact Zh hE Za ld rfl (lk rfl f2) Try.underlying57 Yr hi63.1 fun a hE=>⟨_,_,rfl,hE,M.qKeep hM0 rfl,hI.2.put hD rfl ZR rfl⟩
       ·intro a w ux62 D hE hI hD hdc hp
        have d3 : D 3 = true:=hp 0 _ rfl rfl
        have g3:=hI.2 3 d3 _ rfl
        have f3 : ux62 3 = (ptr b7 (0 + (s13.2.2.1).toNat * 4)):=g3.2
        have hM0:=hI.1
        have hM:=hI.1
        have hM:=hM.togA (pre:=[_,_]) (Bool.eq_false_iff.2 fun hx=>Bool.noConfusion (hD.symm.trans (hdc 9 _ _ rfl (List.mem_of_getElem? (i:=1) rfl) rfl hx)))
        exact Zj (cs:=enc x64) hE Za ld (lk rfl f3) Yr rfl (At.vec (hM.rawAt (pre:=[_,_])) hi63.2) (Flat.len _) fun a hE=>⟨_,_,rfl,hE,M.qKeep hM0 rfl,hI.2.put hD rfl ZR rfl⟩
       ·intro a w ux62 D hE hI hD hdc hp
        have hM0:=hI.1
        exact Zc hE Za ld rfl fun a hE=>⟨_,_,rfl,hE,M.qKeep hM0 rfl,hI.2.put hD rfl ZR rfl⟩
       ·intro a w ux62 D hE hI hD hdc hp
        have d5 : D 5 = true:=hp 0 _ rfl rfl
        have g5:=hI.2 5 d5 _ rfl
        have f5 : ux62 5 = (vI j18):=g5.2
        have hM0:=hI.1
        have hM:=hI.1
        have hM:=hM.togA (pre:=[_,_]) (Bool.eq_false_iff.2 fun hx=>Bool.noConfusion (hD.symm.trans (hdc 9 _ _ rfl (List.mem_of_getElem? (i:=8) rfl) rfl hx)))
        exact Zh hE Za ld rfl (lk rfl f5) Try.underlying57 Yr hi66.1 fun a hE=>⟨_,_,rfl,hE,M.qKeep hM0 rfl,hI.2.put hD rfl ZR rfl⟩
       ·intro a w ux62 D hE hI hD hdc hp
        have d6 : D 6 = true:=hp 0 _ rfl rfl
        have g6:=hI.2 6 d6 _ rfl
        have f6 : ux62 6 = (ptr b7 (0 + (j18).toNat * 4)):=g6.2
        have hM0:=hI.1
        have hM:=hI.1
        have hM:=hM.togA (pre:=[_,_]) (Bool.eq_false_iff.2 fun hx=>Bool.noConfusion (hD.symm.trans (hdc 9 _ _ rfl (List.mem_of_getElem? (i:=9) rfl) rfl hx)))
        exact Zj (cs:=enc x67) hE Za ld (lk rfl f6) Yr rfl (At.vec (hM.rawAt (pre:=[_,_])) hi66.2) (Flat.len _) fun a hE=>⟨_,_,rfl,hE,M.qKeep hM0 rfl,hI.2.put hD rfl ZR rfl⟩
       ·intro a w ux62 D hE hI hD hdc hp
        have d0 : D 0 = true:=hp 0 _ rfl rfl
        have g0:=hI.2 0 d0 _ rfl
        have f0 : ux62 0 = (vI j18):=g0.2
        have hM0:=hI.1
        have hM:=hI.1
        have hM:=hM.togA (pre:=[_,_]) (Bool.eq_false_iff.2 fun hx=>Bool.noConfusion (hD.symm.trans (hdc 9 _ _ rfl (List.mem_of_getElem? (i:=0) rfl) rfl hx)))
        exact Zh hE Za ld rfl (lk rfl f0) Try.underlying57 Yr hi69.1 fun a hE=>⟨_,_,rfl,hE,M.qKeep hM0 rfl,hI.2.put hD rfl ZR rfl⟩
       ·intro a w ux62 D hE hI hD hdc hp
        have d4 : D 4 = true:=hp 1 _ rfl rfl
        have g4:=hI.2 4 d4 _ rfl
        have f4 : ux62 4 = (Value.agg (enc x64).toArray):=g4.2
        have d8 : D 8 = true:=hp 0 _ rfl rfl
        have g8:=hI.2 8 d8 _ rfl
        have f8 : ux62 8 = (ptr b7 (0 + (j18).toNat * 4)):=g8.2
        have hM0:=hI.1
        have hM:=(hI.1.togA (pre:=[_,_]) hD).pull (pre:=[_,_])
        exact Zi (seg:=enc x64) (cs':=enc (s13.2.1.setIfInBounds (j18).toNat x64)) hE hM Za (lk rfl f8) (lk rfl f4) rfl Yr (Flat.len _) (ZN (v:=s13.2.1) (x:=x64) hi69.1) (Flat.cell _) (ZD (v:=s13.2.1) (x:=x64) hi69.1) fun w a hM hE=>⟨undef,_,rfl,Env.dummy hE (by decide),M.qTog (mk1:=[]) (mk2:=[]) hM rfl,hI.2.put hD rfl ZR trivial⟩
       ·intro a w ux62 D hE hI hall
        have hM:=hI.1
        have d0 : D 0 = true:=hall 0 (by decide)
        have d1 : D 1 = true:=hall 1 (by decide)
        have d2 : D 2 = true:=hall 2 (by decide)
        have d3 : D 3 = true:=hall 3 (by decide)
        have d4 : D 4 = true:=hall 4 (by decide)
        have d5 : D 5 = true:=hall 5 (by decide)
        have d6 : D 6 = true:=hall 6 (by decide)
        have d7 : D 7 = true:=hall 7 (by decide)
        have d8 : D 8 = true:=hall 8 (by decide)
        have d9 : D 9 = true:=hall 9 (by decide)
        have f0 : ux62 0 = (vI j18):=(hI.2 0 d0 _ rfl).2
        have f1 : ux62 1 = (vI s13.2.2.1):=(hI.2 1 d1 _ rfl).2
        have f2 : ux62 2 = (vI s13.2.2.1):=(hI.2 2 d2 _ rfl).2
        have f3 : ux62 3 = (ptr b7 (0 + (s13.2.2.1).toNat * 4)):=(hI.2 3 d3 _ rfl).2
        have f4 : ux62 4 = (Value.agg (enc x64).toArray):=(hI.2 4 d4 _ rfl).2
        have f5 : ux62 5 = (vI j18):=(hI.2 5 d5 _ rfl).2
        have f6 : ux62 6 = (ptr b7 (0 + (j18).toNat * 4)):=(hI.2 6 d6 _ rfl).2
        have f7 : ux62 7 = (Value.agg (enc x67).toArray):=(hI.2 7 d7 _ rfl).2
        have f8 : ux62 8 = (ptr b7 (0 + (j18).toNat * 4)):=(hI.2 8 d8 _ rfl).2
        have hM:=hM.togB (pre:=[_,_]) d9
        have hE:=hE.sub (e':=[(46,vI s13.2.2.1),(52,(Value.agg (enc x67).toArray)),(0,vI p0),(3,(ptr b1 0)),(5,(ptr b3 0)),(6,(ptr b7 0)),(7,vB s13.2.2.2),(8,vI s13.2.2.1),(9,vI j18),(16,vI s13.2.2.1)]) ⟨lk rfl f1,lk rfl f7,rfl,rfl,rfl,rfl,rfl,rfl,rfl,rfl,trivial⟩
        obtain ⟨x73,hi72,hl60⟩:=bvx hl60
        refine Zh hE Za ld rfl rfl Try.underlying57 Yr hi72.1 ?_; intro a hE
        have hM:=hM.pull (pre:=[_,_])
        refine Zi (seg:=enc x67) (cs':=enc ((s13.2.1.setIfInBounds (j18).toNat x64).setIfInBounds (s13.2.2.1).toNat x67)) hE hM Za rfl rfl rfl Yr (Flat.len _) (ZN (v:=(s13.2.1.setIfInBounds (j18).toNat x64)) (x:=x67) hi72.1) (Flat.cell _) (ZD (v:=(s13.2.1.setIfInBounds (j18).toNat x64)) (x:=x67) hi72.1) fun w a hM hE=>Zk ?_
        have ht75:=Option.some.inj hl60
        subst ht75
        refine Zn ?_
        exact ⟨hE.sub ⟨rfl,rfl,rfl,rfl,rfl,rfl,rfl,trivial⟩,hM⟩
      ·skip
       rintro a w ⟨hE,hM⟩
       refine Zd (Zc hE Za ld rfl fun a hE=>Zc hE Za ld rfl fun a hE=>Zc hE Za ld rfl fun a hE=>Zc hE Za ld rfl ?_); intro a hE
       obtain ⟨x77,hi76,hF61⟩:=bvx hF61
       refine Zh hE Za ld rfl rfl Try.underlying57 Yr hi76.1 ?_; intro a hE
       obtain ⟨x80,hi79,hF61⟩:=bvx hF61
       refine Zh hE Za ld rfl rfl Try.underlying55 ty5 hi79.1 fun a hE=>ZF (v:=(vB x80)) hE Za ld rfl ty5 rfl (At.vec (At.vec (hM.rawAt (pre:=[_,_])) hi76.2) hi79.2) ?_; intro a hE
       obtain ⟨r82,e83,hF61⟩:=bind_some hF61
       refine Zo hE Za ld rfl Hl (YK _ p0 s13.2.2.2 x80 r82 e83) ?_
       rintro v w a ⟨rfl,hK⟩ hE
       have hM:=hM.keep hK
       refine Ze hE Za ld rfl fun a hE=>Zf (Zd (Zc hE Za ld rfl fun a hE=>Zc hE Za ld rfl fun a hE=>Zc hE Za ld rfl ?_)); intro a hE
       obtain ⟨x85,hi84,hF61⟩:=bvx hF61
       refine Zh hE Za ld rfl rfl Try.underlying57 Yr hi84.1 ?_; intro a hE
       obtain ⟨x88,hi87,hF61⟩:=bvx hF61
       refine Zh hE Za ld rfl rfl Try.underlying55 ty5 hi87.1 fun a hE=>ZF (v:=(vB x88)) hE Za ld rfl ty5 rfl (At.vec (At.vec (hM.rawAt (pre:=[_,_])) hi84.2) hi87.2) ?_; intro a hE
       obtain ⟨r90,e91,hF61⟩:=bind_some hF61
       refine Zo hE Za ld rfl cb179 (Kp _ p0 x88 r90 e91) ?_
       rintro v w a ⟨rfl,hK⟩ hE
       have hM:=hM.keep hK
       refine Ze hE Za ld rfl fun a hE=>Zf (wp_seq (Zd (Zc hE Za ld rfl fun a hE=>Zf ?_)))
       obtain ⟨j92,hl93,hF94⟩:=bind_some hF61
       refine Z0 (fun a w=>Env 153 a [(0,vI p0),(3,(ptr b1 0)),(5,(ptr b3 0)),(6,(ptr b7 0)),(7,vB r82),(8,vI s13.2.2.1),(16,vI s13.2.2.1)] ∧ M (Old w0) w0 w [raw b7 (enc j92.2),raw b3 (enc (Vector.replicate 4 (Vector.replicate 4 (0 : UInt8)))),raw b1 (enc j92.1)]) ?_ ?_
       ·skip
        refine wp_block ?_
        refine ZV (fun (s95 : (Vector (Vector UInt8 4) 4) × (Vector (Vector UInt8 4) 4) × Int) a w=>Env 153 a [(0,vI p0),(3,(ptr b1 0)),(5,(ptr b3 0)),(6,(ptr b7 0)),(7,vB r82),(8,vI s13.2.2.1),(10,vB r90),(16,vI s13.2.2.1),(70,vI s95.2.2)] ∧ M (Old w0) w0 w [raw b7 (enc s95.2.1),raw b3 (enc (Vector.replicate 4 (Vector.replicate 4 (0 : UInt8)))),raw b1 (enc s95.1)]) hl93 ⟨hE.sub ⟨rfl,rfl,rfl,rfl,rfl,rfl,rfl,rfl,rfl,trivial⟩,hM⟩ ?_
        rintro s95 a w ⟨hE,hM⟩ o98 hs96 hx97
        unfold X8 at hs96
        refine Zd (Zm hE Za ld rfl rfl rfl fun a hE=>Zf (wp_seq ?_))
        refine Zv hE rfl ?_ ?_
        ·intro hb99
         have hs96:=ZB hs96 hb99
         refine wp_skip (ZG (wp_seq (wp_block (Zd (Zc hE Za ld rfl fun a hE=>Ze hE Za ld rfl fun a hE=>Zf ?_)))))
         have hM:=hM.pull (pre:=[_,_])
         obtain ⟨x102,hi101,hs96⟩:=bvx hs96
         obtain ⟨x105,hi104,hs96⟩:=bvx hs96
         obtain ⟨r107,e108,hs96⟩:=bind_some hs96
         obtain ⟨x110,hi109,hs96⟩:=bvx hs96
         obtain ⟨x113,hi112,hs96⟩:=bvx hs96
         obtain ⟨r115,e116,hs96⟩:=bind_some hs96
         obtain ⟨x118,hi117,hs96⟩:=bvx hs96
         obtain ⟨x121,hi120,hs96⟩:=bvx hs96
         obtain ⟨x124,hi123,hs96⟩:=bvx hs96
         refine Vj (n:=153) (hd:=[_,_,_,_,_,_,_,_,_,_,_,_,_,_,_,_,_,_,_,_,_,_,_,_]) (tl:=[_,_]) YS rfl rfl [73,74,75,76,77,78,79,80,81,82,83,84,85,86,87,88,89,90,91,92,93,94,175,95] (by decide) (fun D u w=>M (Old w0) w0 w ([raw b7 (enc s95.2.1),raw b3 (enc (Vector.replicate 4 (Vector.replicate 4 (0 : UInt8))))] ++ qL ([mkT 22 (raw b1 (enc s95.1)) (raw b1 (enc (s95.1.setIfInBounds (s13.2.2.1).toNat (x118.setIfInBounds (s95.2.2).toNat r107))))] : Mk) D u) ∧ GOk ([([],fun us v=>v = (vI s13.2.2.1)),([],fun us v=>v = (vI s95.2.2)),([],fun us v=>v = (vI s13.2.2.1)),([],fun us v=>v = (vI s95.2.2)),([],fun us v=>v = (vI p0)),([],fun us v=>v = (vI s13.2.2.1)),([],fun us v=>v = (vI s95.2.2)),([],fun us v=>v = (ptr b1 (0 + (s13.2.2.1).toNat * 4))),([],fun us v=>v = (ptr b1 (0 + (s13.2.2.1).toNat * 4 + (s95.2.2).toNat * 1))),([],fun us v=>v = (vB x105)),([],fun us v=>v = (vB r90)),([],fun us v=>v = (vB r107)),([],fun us v=>v = (vI p0)),([],fun us v=>v = (vI s13.2.2.1)),([],fun us v=>v = (vI s95.2.2)),([],fun us v=>v = (ptr b7 (0 + (s13.2.2.1).toNat * 4))),([],fun us v=>v = (ptr b7 (0 + (s13.2.2.1).toNat * 4 + (s95.2.2).toNat * 1))),([],fun us v=>v = (vB x113)),([],fun us v=>v = (vB r90)),([],fun us v=>v = (vB r115)),([],fun us v=>v = (ptr b1 (0 + (s13.2.2.1).toNat * 4))),([],fun us v=>v = (ptr b1 (0 + (s13.2.2.1).toNat * 4 + (s95.2.2).toNat * 1))),([],fun us v=>True),([],fun us v=>v = (ptr b7 (0 + (s13.2.2.1).toNat * 4)))] : Gs) D u) hE (fun u=>⟨M.qT (M.q0 hM.drew u),KH⟩) (ZS (Zb ?_ (Zb ?_ (Zb ?_ (Zb ?_ (Zb ?_ (Zb ?_ (Zb ?_ (Zb ?_ (Zb ?_ (Zb ?_ (Zb ?_ (Zb ?_ (Zb ?_ (Zb ?_ (Zb ?_ (Zb ?_ (Zb ?_ (Zb ?_ (Zb ?_ (Zb ?_ (Zb ?_ (Zb ?_ (Zb ?_ (Zb ?_ ZL))))))))))))))))))))))))) ?_
         ·intro a w ux100 D hE hI hD hdc hp
          have hM0:=hI.1
          have hM:=hI.1
          have hM:=hM.togA (pre:=[_,_]) (Bool.eq_false_iff.2 fun hx=>Bool.noConfusion (hD.symm.trans (hdc 22 _ _ rfl (List.mem_of_getElem? (i:=3) rfl) rfl hx)))
          exact Zc hE Za ld rfl fun a hE=>⟨_,_,rfl,hE,M.qKeep hM0 rfl,hI.2.put hD rfl ZR rfl⟩
         ·intro a w ux100 D hE hI hD hdc hp
          have hM0:=hI.1
          have hM:=hI.1
          have hM:=hM.togA (pre:=[_,_]) (Bool.eq_false_iff.2 fun hx=>Bool.noConfusion (hD.symm.trans (hdc 22 _ _ rfl (List.mem_of_getElem? (i:=4) rfl) rfl hx)))
          exact Zc hE Za ld rfl fun a hE=>⟨_,_,rfl,hE,M.qKeep hM0 rfl,hI.2.put hD rfl ZR rfl⟩
         ·intro a w ux100 D hE hI hD hdc hp
          have hM0:=hI.1
          exact Zc hE Za ld rfl fun a hE=>⟨_,_,rfl,hE,M.qKeep hM0 rfl,hI.2.put hD rfl ZR rfl⟩
         ·intro a w ux100 D hE hI hD hdc hp
          have hM0:=hI.1
          exact Zc hE Za ld rfl fun a hE=>⟨_,_,rfl,hE,M.qKeep hM0 rfl,hI.2.put hD rfl ZR rfl⟩
         ·intro a w ux100 D hE hI hD hdc hp
          have hM0:=hI.1
          have hM:=hI.1
          have hM:=hM.togA (pre:=[_,_]) (Bool.eq_false_iff.2 fun hx=>Bool.noConfusion (hD.symm.trans (hdc 22 _ _ rfl (List.mem_of_getElem? (i:=7) rfl) rfl hx)))
          exact Zc hE Za ld rfl fun a hE=>⟨_,_,rfl,hE,M.qKeep hM0 rfl,hI.2.put hD rfl ZR rfl⟩
         ·intro a w ux100 D hE hI hD hdc hp
          have hM0:=hI.1
          have hM:=hI.1
          have hM:=hM.togA (pre:=[_,_]) (Bool.eq_false_iff.2 fun hx=>Bool.noConfusion (hD.symm.trans (hdc 22 _ _ rfl (List.mem_of_getElem? (i:=8) rfl) rfl hx)))
          exact Zc hE Za ld rfl fun a hE=>⟨_,_,rfl,hE,M.qKeep hM0 rfl,hI.2.put hD rfl ZR rfl⟩
         ·intro a w ux100 D hE hI hD hdc hp
          have hM0:=hI.1
          have hM:=hI.1
          have hM:=hM.togA (pre:=[_,_]) (Bool.eq_false_iff.2 fun hx=>Bool.noConfusion (hD.symm.trans (hdc 22 _ _ rfl (List.mem_of_getElem? (i:=9) rfl) rfl hx)))
          exact Zc hE Za ld rfl fun a hE=>⟨_,_,rfl,hE,M.qKeep hM0 rfl,hI.2.put hD rfl ZR rfl⟩
         ·intro a w ux100 D hE hI hD hdc hp
          have d5 : D 5 = true:=hp 0 _ rfl rfl
          have g5:=hI.2 5 d5 _ rfl
          have f5 : ux100 5 = (vI s13.2.2.1):=g5.2
          have hM0:=hI.1
          have hM:=hI.1
          have hM:=hM.togA (pre:=[_,_]) (Bool.eq_false_iff.2 fun hx=>Bool.noConfusion (hD.symm.trans (hdc 22 _ _ rfl (List.mem_of_getElem? (i:=10) rfl) rfl hx)))
          exact Zh hE Za ld rfl (lk rfl f5) Try.underlying57 Yr hi101.1 fun a hE=>⟨_,_,rfl,hE,M.qKeep hM0 rfl,hI.2.put hD rfl ZR rfl⟩
         ·intro a w ux100 D hE hI hD hdc hp
          have d6 : D 6 = true:=hp 1 _ rfl rfl
          have g6:=hI.2 6 d6 _ rfl
          have f6 : ux100 6 = (vI s95.2.2):=g6.2
          have d7 : D 7 = true:=hp 0 _ rfl rfl
          have g7:=hI.2 7 d7 _ rfl
          have f7 : ux100 7 = (ptr b1 (0 + (s13.2.2.1).toNat * 4)):=g7.2
          have hM0:=hI.1
          have hM:=hI.1
          have hM:=hM.togA (pre:=[_,_]) (Bool.eq_false_iff.2 fun hx=>Bool.noConfusion (hD.symm.trans (hdc 22 _ _ rfl (List.mem_of_getElem? (i:=11) rfl) rfl hx)))
          exact Zh hE Za ld (lk rfl f7) (lk rfl f6) Try.underlying55 ty5 hi104.1 fun a hE=>⟨_,_,rfl,hE,M.qKeep hM0 rfl,hI.2.put hD rfl ZR rfl⟩
         ·intro a w ux100 D hE hI hD hdc hp
          have d8 : D 8 = true:=hp 0 _ rfl rfl
          have g8:=hI.2 8 d8 _ rfl
          have f8 : ux100 8 = (ptr b1 (0 + (s13.2.2.1).toNat * 4 + (s95.2.2).toNat * 1)):=g8.2
          have hM0:=hI.1
          have hM:=hI.1
          have hM:=hM.togA (pre:=[_,_]) (Bool.eq_false_iff.2 fun hx=>Bool.noConfusion (hD.symm.trans (hdc 22 _ _ rfl (List.mem_of_getElem? (i:=12) rfl) rfl hx)))
          exact ZF (v:=(vB x105)) hE Za ld (lk rfl f8) ty5 rfl (At.vec (At.vec (hM.rawAt (pre:=[_,_])) hi101.2) hi104.2) fun a hE=>⟨_,_,rfl,hE,M.qKeep hM0 rfl,hI.2.put hD rfl ZR rfl⟩
         ·intro a w ux100 D hE hI hD hdc hp
          have hM0:=hI.1
          have hM:=hI.1
          have hM:=hM.togA (pre:=[_,_]) (Bool.eq_false_iff.2 fun hx=>Bool.noConfusion (hD.symm.trans (hdc 22 _ _ rfl (List.mem_of_getElem? (i:=13) rfl) rfl hx)))
          exact Zc hE Za ld rfl fun a hE=>⟨_,_,rfl,hE,M.qKeep hM0 rfl,hI.2.put hD rfl ZR rfl⟩
         ·intro a w ux100 D hE hI hD hdc hp
          have d4 : D 4 = true:=hp 0 _ rfl rfl
          have g4:=hI.2 4 d4 _ rfl
          have f4 : ux100 4 = (vI p0):=g4.2
          have d9 : D 9 = true:=hp 1 _ rfl rfl
          have g9:=hI.2 9 d9 _ rfl
          have f9 : ux100 9 = (vB x105):=g9.2
          have d10 : D 10 = true:=hp 2 _ rfl rfl
          have g10:=hI.2 10 d10 _ rfl
          have f10 : ux100 10 = (vB r90):=g10.2
          have hM0:=hI.1
          have hM:=hI.1
          have hM:=hM.togA (pre:=[_,_]) (Bool.eq_false_iff.2 fun hx=>Bool.noConfusion (hD.symm.trans (hdc 22 _ _ rfl (List.mem_of_getElem? (i:=1) rfl) rfl hx)))
          refine Zo hE Za ld (Z1 (ZX (lk rfl f4) (ZX (lk rfl f9) (ZX (lk rfl f10) Xg)))) Hl (YK _ p0 x105 r90 r107 e108) ?_
          rintro v w a ⟨rfl,hK⟩ hE
          exact ⟨_,_,rfl,hE,M.qKeep (hM0.keep hK) rfl,hI.2.put hD rfl ZR rfl⟩
         ·intro a w ux100 D hE hI hD hdc hp
          have hM0:=hI.1
          exact Zc hE Za ld rfl fun a hE=>⟨_,_,rfl,hE,M.qKeep hM0 rfl,hI.2.put hD rfl ZR rfl⟩
         ·intro a w ux100 D hE hI hD hdc hp
          have hM0:=hI.1
          exact Zc hE Za ld rfl fun a hE=>⟨_,_,rfl,hE,M.qKeep hM0 rfl,hI.2.put hD rfl ZR rfl⟩
         ·intro a w ux100 D hE hI hD hdc hp
          have hM0:=hI.1
          exact Zc hE Za ld rfl fun a hE=>⟨_,_,rfl,hE,M.qKeep hM0 rfl,hI.2.put hD rfl ZR rfl⟩
         ·intro a w ux100 D hE hI hD hdc hp
          have d13 : D 13 = true:=hp 0 _ rfl rfl
          have g13:=hI.2 13 d13 _ rfl
          have f13 : ux100 13 = (vI s13.2.2.1):=g13.2
          have hM0:=hI.1
          exact Zh hE Za ld rfl (lk rfl f13) Try.underlying57 Yr hi109.1 fun a hE=>⟨_,_,rfl,hE,M.qKeep hM0 rfl,hI.2.put hD rfl ZR rfl⟩
         ·intro a w ux100 D hE hI hD hdc hp
          have d14 : D 14 = true:=hp 1 _ rfl rfl
          have g14:=hI.2 14 d14 _ rfl
          have f14 : ux100 14 = (vI s95.2.2):=g14.2
          have d15 : D 15 = true:=hp 0 _ rfl rfl
          have g15:=hI.2 15 d15 _ rfl
          have f15 : ux100 15 = (ptr b7 (0 + (s13.2.2.1).toNat * 4)):=g15.2
          have hM0:=hI.1
          exact Zh hE Za ld (lk rfl f15) (lk rfl f14) Try.underlying55 ty5 hi112.1 fun a hE=>⟨_,_,rfl,hE,M.qKeep hM0 rfl,hI.2.put hD rfl ZR rfl⟩
         ·intro a w ux100 D hE hI hD hdc hp
          have d16 : D 16 = true:=hp 0 _ rfl rfl
          have g16:=hI.2 16 d16 _ rfl
          have f16 : ux100 16 = (ptr b7 (0 + (s13.2.2.1).toNat * 4 + (s95.2.2).toNat * 1)):=g16.2
          have hM0:=hI.1
          have hM:=hI.1
          exact ZF (v:=(vB x113)) hE Za ld (lk rfl f16) ty5 rfl (At.vec (At.vec (hM.rawAt (pre:=[])) hi109.2) hi112.2) fun a hE=>⟨_,_,rfl,hE,M.qKeep hM0 rfl,hI.2.put hD rfl ZR rfl⟩
         ·intro a w ux100 D hE hI hD hdc hp
          have hM0:=hI.1
          exact Zc hE Za ld rfl fun a hE=>⟨_,_,rfl,hE,M.qKeep hM0 rfl,hI.2.put hD rfl ZR rfl⟩
         ·intro a w ux100 D hE hI hD hdc hp
          have d12 : D 12 = true:=hp 0 _ rfl rfl
          have g12:=hI.2 12 d12 _ rfl
          have f12 : ux100 12 = (vI p0):=g12.2
          have d17 : D 17 = true:=hp 1 _ rfl rfl
          have g17:=hI.2 17 d17 _ rfl
          have f17 : ux100 17 = (vB x113):=g17.2
          have d18 : D 18 = true:=hp 2 _ rfl rfl
          have g18:=hI.2 18 d18 _ rfl
          have f18 : ux100 18 = (vB r90):=g18.2
          have hM0:=hI.1
          have hM:=hI.1
          have hM:=hM.togA (pre:=[_,_]) (Bool.eq_false_iff.2 fun hx=>Bool.noConfusion (hD.symm.trans (hdc 22 _ _ rfl (List.mem_of_getElem? (i:=2) rfl) rfl hx)))
          refine Zo hE Za ld (Z1 (ZX (lk rfl f12) (ZX (lk rfl f17) (ZX (lk rfl f18) Xg)))) Hl (YK _ p0 x113 r90 r115 e116) ?_
          rintro v w a ⟨rfl,hK⟩ hE
          exact ⟨_,_,rfl,hE,M.qKeep (hM0.keep hK) rfl,hI.2.put hD rfl ZR rfl⟩
         ·intro a w ux100 D hE hI hD hdc hp
          have d0 : D 0 = true:=hp 0 _ rfl rfl
          have g0:=hI.2 0 d0 _ rfl
          have f0 : ux100 0 = (vI s13.2.2.1):=g0.2
          have hM0:=hI.1
          exact Zh hE Za ld rfl (lk rfl f0) Try.underlying57 Yr hi117.1 fun a hE=>⟨_,_,rfl,hE,M.qKeep hM0 rfl,hI.2.put hD rfl ZR rfl⟩
         ·intro a w ux100 D hE hI hD hdc hp
          have d1 : D 1 = true:=hp 1 _ rfl rfl
          have g1:=hI.2 1 d1 _ rfl
          have f1 : ux100 1 = (vI s95.2.2):=g1.2
          have d20 : D 20 = true:=hp 0 _ rfl rfl
          have g20:=hI.2 20 d20 _ rfl
          have f20 : ux100 20 = (ptr b1 (0 + (s13.2.2.1).toNat * 4)):=g20.2
          have hM0:=hI.1
          have hM:=hI.1
          have hM:=hM.togA (pre:=[_,_]) (Bool.eq_false_iff.2 fun hx=>Bool.noConfusion (hD.symm.trans (hdc 22 _ _ rfl (List.mem_of_getElem? (i:=0) rfl) rfl hx)))
          exact Zh hE Za ld (lk rfl f20) (lk rfl f1) Try.underlying55 ty5 hi120.1 fun a hE=>⟨_,_,rfl,hE,M.qKeep hM0 rfl,hI.2.put hD rfl ZR rfl⟩
         ·intro a w ux100 D hE hI hD hdc hp
          have d11 : D 11 = true:=hp 1 _ rfl rfl
          have g11:=hI.2 11 d11 _ rfl
          have f11 : ux100 11 = (vB r107):=g11.2
          have d21 : D 21 = true:=hp 0 _ rfl rfl
          have g21:=hI.2 21 d21 _ rfl
          have f21 : ux100 21 = (ptr b1 (0 + (s13.2.2.1).toNat * 4 + (s95.2.2).toNat * 1)):=g21.2
          have hM0:=hI.1
          have hM:=(hI.1.togA (pre:=[_,_]) hD).pull (pre:=[_,_])
          exact Zi (seg:=[vB r107]) (cs':=enc (s95.1.setIfInBounds (s13.2.2.1).toNat (x118.setIfInBounds (s95.2.2).toNat r107))) hE hM Za (lk rfl f21) (lk rfl f11) rfl ty5 rfl (We (o':=0 + (s95.2.2).toNat * 1) hi117 (ZN (v:=x118) (x:=r107) hi120.1) (by first | omega | (simp only [Flat.n] <;> omega))) (Flat.cell (r107 : UInt8)) (YX (o':=0 + (s95.2.2).toNat * 1) hi117 (ZN (v:=x118) (x:=r107) hi120.1) (ZD (v:=x118) (x:=r107) hi120.1) (by first | omega | (simp only [Flat.n] <;> omega))) fun w a hM hE=>⟨undef,_,rfl,Env.dummy hE (by decide),M.qTog (mk1:=[]) (mk2:=[]) hM rfl,hI.2.put hD rfl ZR trivial⟩
         ·intro a w ux100 D hE hI hD hdc hp
          have d2 : D 2 = true:=hp 0 _ rfl rfl
          have g2:=hI.2 2 d2 _ rfl
          have f2 : ux100 2 = (vI s13.2.2.1):=g2.2
          have hM0:=hI.1
          exact Zh hE Za ld rfl (lk rfl f2) Try.underlying57 Yr hi123.1 fun a hE=>⟨_,_,rfl,hE,M.qKeep hM0 rfl,hI.2.put hD rfl ZR rfl⟩
         ·intro a w ux100 D hE hI hall
          have hM:=hI.1
          have d0 : D 0 = true:=hall 0 (by decide)
          have d1 : D 1 = true:=hall 1 (by decide)
          have d2 : D 2 = true:=hall 2 (by decide)
          have d3 : D 3 = true:=hall 3 (by decide)
          have d4 : D 4 = true:=hall 4 (by decide)
          have d5 : D 5 = true:=hall 5 (by decide)
          have d6 : D 6 = true:=hall 6 (by decide)
          have d7 : D 7 = true:=hall 7 (by decide)
          have d8 : D 8 = true:=hall 8 (by decide)
          have d9 : D 9 = true:=hall 9 (by decide)
          have d10 : D 10 = true:=hall 10 (by decide)
          have d11 : D 11 = true:=hall 11 (by decide)
          have d12 : D 12 = true:=hall 12 (by decide)
          have d13 : D 13 = true:=hall 13 (by decide)
          have d14 : D 14 = true:=hall 14 (by decide)
          have d15 : D 15 = true:=hall 15 (by decide)
          have d16 : D 16 = true:=hall 16 (by decide)
          have d17 : D 17 = true:=hall 17 (by decide)
          have d18 : D 18 = true:=hall 18 (by decide)
          have d19 : D 19 = true:=hall 19 (by decide)
          have d20 : D 20 = true:=hall 20 (by decide)
          have d21 : D 21 = true:=hall 21 (by decide)
          have d22 : D 22 = true:=hall 22 (by decide)
          have d23 : D 23 = true:=hall 23 (by decide)
          have f0 : ux100 0 = (vI s13.2.2.1):=(hI.2 0 d0 _ rfl).2
          have f1 : ux100 1 = (vI s95.2.2):=(hI.2 1 d1 _ rfl).2
          have f2 : ux100 2 = (vI s13.2.2.1):=(hI.2 2 d2 _ rfl).2
          have f3 : ux100 3 = (vI s95.2.2):=(hI.2 3 d3 _ rfl).2
          have f4 : ux100 4 = (vI p0):=(hI.2 4 d4 _ rfl).2
          have f5 : ux100 5 = (vI s13.2.2.1):=(hI.2 5 d5 _ rfl).2
          have f6 : ux100 6 = (vI s95.2.2):=(hI.2 6 d6 _ rfl).2
          have f7 : ux100 7 = (ptr b1 (0 + (s13.2.2.1).toNat * 4)):=(hI.2 7 d7 _ rfl).2
          have f8 : ux100 8 = (ptr b1 (0 + (s13.2.2.1).toNat * 4 + (s95.2.2).toNat * 1)):=(hI.2 8 d8 _ rfl).2
          have f9 : ux100 9 = (vB x105):=(hI.2 9 d9 _ rfl).2
          have f10 : ux100 10 = (vB r90):=(hI.2 10 d10 _ rfl).2
          have f11 : ux100 11 = (vB r107):=(hI.2 11 d11 _ rfl).2
          have f12 : ux100 12 = (vI p0):=(hI.2 12 d12 _ rfl).2
          have f13 : ux100 13 = (vI s13.2.2.1):=(hI.2 13 d13 _ rfl).2
          have f14 : ux100 14 = (vI s95.2.2):=(hI.2 14 d14 _ rfl).2
          have f15 : ux100 15 = (ptr b7 (0 + (s13.2.2.1).toNat * 4)):=(hI.2 15 d15 _ rfl).2
          have f16 : ux100 16 = (ptr b7 (0 + (s13.2.2.1).toNat * 4 + (s95.2.2).toNat * 1)):=(hI.2 16 d16 _ rfl).2
          have f17 : ux100 17 = (vB x113):=(hI.2 17 d17 _ rfl).2
          have f18 : ux100 18 = (vB r90):=(hI.2 18 d18 _ rfl).2
          have f19 : ux100 19 = (vB r115):=(hI.2 19 d19 _ rfl).2
          have f20 : ux100 20 = (ptr b1 (0 + (s13.2.2.1).toNat * 4)):=(hI.2 20 d20 _ rfl).2
          have f21 : ux100 21 = (ptr b1 (0 + (s13.2.2.1).toNat * 4 + (s95.2.2).toNat * 1)):=(hI.2 21 d21 _ rfl).2
          have f23 : ux100 23 = (ptr b7 (0 + (s13.2.2.1).toNat * 4)):=(hI.2 23 d23 _ rfl).2
          have hM:=hM.togB (pre:=[_,_]) d22
          have hE:=hE.sub (e':=[(76,vI s95.2.2),(92,vB r115),(95,(ptr b7 (0 + (s13.2.2.1).toNat * 4))),(0,vI p0),(3,(ptr b1 0)),(5,(ptr b3 0)),(6,(ptr b7 0)),(7,vB r82),(8,vI s13.2.2.1),(10,vB r90),(11,vI s95.2.2),(16,vI s13.2.2.1),(70,vI s95.2.2),(71,(vT (decide (s95.2.2 < 4)))),(72,vI s95.2.2)]) ⟨lk rfl f3,lk rfl f19,lk rfl f23,rfl,rfl,rfl,rfl,rfl,rfl,rfl,rfl,rfl,rfl,rfl,rfl,trivial⟩
          obtain ⟨x127,hi126,hs96⟩:=bvx hs96
          refine Zh hE Za ld rfl rfl Try.underlying55 ty5 hi126.1 fun a hE=>Zi (seg:=[vB r115]) (cs':=enc (s95.2.1.setIfInBounds (s13.2.2.1).toNat (x124.setIfInBounds (s95.2.2).toNat r115))) hE hM Za rfl rfl rfl ty5 rfl (We (o':=0 + (s95.2.2).toNat * 1) hi123 (ZN (v:=x124) (x:=r115) hi126.1) (by first | omega | (simp only [Flat.n] <;> omega))) (Flat.cell (r115 : UInt8)) (YX (o':=0 + (s95.2.2).toNat * 1) hi123 (ZN (v:=x124) (x:=r115) hi126.1) (ZD (v:=x124) (x:=r115) hi126.1) (by first | omega | (simp only [Flat.n] <;> omega))) fun w a hM hE=>Zk (Yj (ZG (wp_region_lit (Zm hE Za ld rfl rfl rfl fun a hE=>Zc hE Za ld rfl fun a hE=>Zk (Zn ?_)))))
          exact ⟨_,(ois hs96),hE.sub ⟨rfl,rfl,rfl,rfl,rfl,rfl,rfl,rfl,rfl,trivial⟩,hM⟩
        ·intro hb99
         have hs96:=ZA hs96 hb99
         refine wp_exit (Zs (Zs (Yz ?_)))
         have ht129:=hx97 _ (ois hs96)
         subst ht129
         refine Zn ?_
         exact ⟨hE.sub ⟨rfl,rfl,rfl,rfl,rfl,rfl,rfl,trivial⟩,hM⟩
       ·skip
        rintro a w ⟨hE,hM⟩
        refine ZG (Zd (Zc hE Za ld rfl fun a hE=>Zf ?_))
        obtain ⟨j130,hl131,hF132⟩:=bind_some hF94
        refine Z0 (fun a w=>Env 153 a [(0,vI p0),(3,(ptr b1 0)),(5,(ptr b3 0)),(6,(ptr b7 0)),(7,vB r82),(16,vI s13.2.2.1)] ∧ M (Old w0) w0 w [raw b7 (enc j130.2),raw b3 (enc (Vector.replicate 4 (Vector.replicate 4 (0 : UInt8)))),raw b1 (enc j130.1)]) ?_ ?_
        ·skip
         refine wp_block ?_
         refine ZV (fun (s133 : (Vector (Vector UInt8 4) 4) × (Vector (Vector UInt8 4) 4) × Int) a w=>Env 153 a [(0,vI p0),(3,(ptr b1 0)),(5,(ptr b3 0)),(6,(ptr b7 0)),(7,vB r82),(8,vI s13.2.2.1),(16,vI s13.2.2.1),(98,vI s133.2.2)] ∧ M (Old w0) w0 w [raw b7 (enc s133.2.1),raw b3 (enc (Vector.replicate 4 (Vector.replicate 4 (0 : UInt8)))),raw b1 (enc s133.1)]) hl131 ⟨hE.sub ⟨rfl,rfl,rfl,rfl,rfl,rfl,rfl,rfl,trivial⟩,hM⟩ ?_
         rintro s133 a w ⟨hE,hM⟩ o136 hs134 hx135
         unfold Wa at hs134
         refine Zd (Zm hE Za ld rfl rfl rfl fun a hE=>Zf (wp_seq ?_))
         refine Zv hE rfl ?_ ?_
         ·intro hb137
          have hs134:=ZB hs134 hb137
          refine wp_skip (ZG ?_)
          obtain ⟨j138,hl139,hF140⟩:=bind_some hs134
          refine ZT (fun a w=>Env 153 a [(0,vI p0),(3,(ptr b1 0)),(5,(ptr b3 0)),(6,(ptr b7 0)),(7,vB r82),(8,vI s13.2.2.1),(16,vI s13.2.2.1),(98,vI s133.2.2)] ∧ M (Old w0) w0 w [raw b7 (enc j138.2),raw b3 (enc (Vector.replicate 4 (Vector.replicate 4 (0 : UInt8)))),raw b1 (enc j138.1)]) ?_ ?_
          ·skip
           refine wp_block (Zd (Zc hE Za ld rfl fun a hE=>Ze hE Za ld rfl fun a hE=>Zf (Zd (Zc hE Za ld rfl fun a hE=>Zc hE Za ld rfl ?_)))); intro a hE
           obtain ⟨x142,hi141,hl139⟩:=bvx hl139
           refine Zh hE Za ld rfl rfl Try.underlying57 Yr hi141.1 ?_; intro a hE
           obtain ⟨x145,hi144,hl139⟩:=bvx hl139
           refine Zh hE Za ld rfl rfl Try.underlying55 ty5 hi144.1 fun a hE=>ZF (v:=(vB x145)) hE Za ld rfl ty5 rfl (At.vec (At.vec (hM.rawAt (pre:=[_,_])) hi141.2) hi144.2) fun a hE=>Ze hE Za ld rfl fun a hE=>Zf ?_
           obtain ⟨j147,hl148,hF149⟩:=bind_some hl139
           refine ZT (fun a w=>Env 153 a [(0,vI p0),(3,(ptr b1 0)),(5,(ptr b3 0)),(6,(ptr b7 0)),(7,vB r82),(8,vI s13.2.2.1),(12,vI s133.2.2),(13,vB x145),(16,vI s13.2.2.1),(98,vI s133.2.2),(112,vT j147)] ∧ M (Old w0) w0 w [raw b7 (enc s133.2.1),raw b3 (enc (Vector.replicate 4 (Vector.replicate 4 (0 : UInt8)))),raw b1 (enc s133.1)]) ?_ ?_
           ·skip
            refine wp_region_lit (Zc hE Za ld rfl fun a hE=>Zc hE Za ld rfl fun a hE=>Zm hE Za ld rfl rfl rfl fun a hE=>Zc hE Za ld rfl ?_); intro a hE
            refine Xy (s133.2.2 != s13.2.2.1) (fun hb150=>?_) (fun hb150=>?_)
            ·have hl148:=ZB hl148 hb150
             refine Zc hE (Zt hE rfl (lkb rfl hb150)) (by decide) rfl fun a hE=>Zm hE (Zt hE rfl (lkb rfl hb150)) (by decide) rfl rfl (zt x145 0) fun a hE=>Yy hE Za ld (lkb rfl hb150) rfl fun a hE=>Zk ?_
             have ht151:=Option.some.inj hl148
             subst ht151
             refine Zn ?_
             exact ⟨hE.sub ⟨rfl,rfl,rfl,rfl,rfl,rfl,rfl,rfl,rfl,rfl,rfl,trivial⟩,hM⟩
            ·have hl148:=ZA hl148 hb150
             refine Zz hE rfl (lkb rfl hb150) rfl (by decide) fun a hE=>Zz hE rfl (lkb rfl hb150) rfl (by decide) fun a hE=>Yh hE Za ld (lkb rfl hb150) rfl fun a hE=>Zk ?_
             have ht152:=Option.some.inj hl148
             subst ht152
             refine Zn ?_
             exact ⟨hE.sub ⟨rfl,rfl,rfl,rfl,rfl,rfl,rfl,rfl,rfl,rfl,rfl,trivial⟩,hM⟩
           ·skip
            rintro a w ⟨hE,hM⟩
            obtain ⟨j153,hl154,hF155⟩:=bind_some hF149
            refine Z0 (fun a w=>Env 153 a [(0,vI p0),(3,(ptr b1 0)),(5,(ptr b3 0)),(6,(ptr b7 0)),(7,vB r82),(8,vI s13.2.2.1),(16,vI s13.2.2.1),(98,vI s133.2.2)] ∧ M (Old w0) w0 w [raw b7 (enc j153.2),raw b3 (enc (Vector.replicate 4 (Vector.replicate 4 (0 : UInt8)))),raw b1 (enc j153.1)]) ?_ ?_
            ·skip
             refine Zv hE rfl ?_ ?_
             ·intro hb156
              have hl154:=ZB hl154 hb156
              refine Zd (Zc hE Za ld rfl fun a hE=>Zf ?_)
              obtain ⟨j157,hl158,hF159⟩:=bind_some hl154
              refine Z0 (fun a w=>Env 153 a [(0,vI p0),(3,(ptr b1 0)),(5,(ptr b3 0)),(6,(ptr b7 0)),(7,vB r82),(8,vI s13.2.2.1),(16,vI s13.2.2.1),(98,vI s133.2.2)] ∧ M (Old w0) w0 w [raw b7 (enc j157.2),raw b3 (enc (Vector.replicate 4 (Vector.replicate 4 (0 : UInt8)))),raw b1 (enc j157.1)]) ?_ ?_
              ·skip
               refine wp_block ?_
               refine ZV (fun (s160 : (Vector (Vector UInt8 4) 4) × (Vector (Vector UInt8 4) 4) × Int) a w=>Env 153 a [(0,vI p0),(3,(ptr b1 0)),(5,(ptr b3 0)),(6,(ptr b7 0)),(7,vB r82),(8,vI s13.2.2.1),(12,vI s133.2.2),(13,vB x145),(16,vI s13.2.2.1),(98,vI s133.2.2),(113,vI s160.2.2)] ∧ M (Old w0) w0 w [raw b7 (enc s160.2.1),raw b3 (enc (Vector.replicate 4 (Vector.replicate 4 (0 : UInt8)))),raw b1 (enc s160.1)]) hl158 ⟨hE.sub ⟨rfl,rfl,rfl,rfl,rfl,rfl,rfl,rfl,rfl,rfl,rfl,trivial⟩,hM⟩ ?_
               rintro s160 a w ⟨hE,hM⟩ o163 hs161 hx162
               unfold X4 at hs161
               refine Zd (Zm hE Za ld rfl rfl rfl fun a hE=>Zf (wp_seq ?_))
               refine Zv hE rfl ?_ ?_
               ·intro hb164
                have hs161:=ZB hs161 hb164
                refine wp_skip (ZG (wp_seq (wp_block (Zd (Zc hE Za ld rfl fun a hE=>Ze hE Za ld rfl fun a hE=>Zf ?_)))))
                obtain ⟨j165,hl166,hF167⟩:=bind_some hs161
                refine ZT (fun a w=>Env 153 a [(0,vI p0),(3,(ptr b1 0)),(5,(ptr b3 0)),(6,(ptr b7 0)),(7,vB r82),(8,vI s13.2.2.1),(12,vI s133.2.2),(13,vB x145),(14,vI s160.2.2),(16,vI s13.2.2.1),(98,vI s133.2.2),(113,vI s160.2.2)] ∧ M (Old w0) w0 w [raw b7 (enc s160.2.1),raw b3 (enc (Vector.replicate 4 (Vector.replicate 4 (0 : UInt8)))),raw b1 (enc j165)]) ?_ ?_
                ·skip
                 obtain ⟨x170,hi169,hl166⟩:=bvx hl166
                 obtain ⟨x173,hi172,hl166⟩:=bvx hl166
                 obtain ⟨x176,hi175,hl166⟩:=bvx hl166
                 obtain ⟨x179,hi178,hl166⟩:=bvx hl166
                 obtain ⟨r181,e182,hl166⟩:=bind_some hl166
                 obtain ⟨x184,hi183,hl166⟩:=bvx hl166
                 obtain ⟨x187,hi186,hl166⟩:=bvx hl166
                 refine Yw (n:=153) (hd:=[_,_,_,_,_,_,_,_,_,_,_,_,_,_,_,_]) (tl:=[_]) YS rfl rfl [116,117,118,119,120,121,122,123,124,125,126,127,128,129,130,131] (by decide) (fun w=>M (Old w0) w0 w [raw b7 (enc s160.2.1),raw b3 (enc (Vector.replicate 4 (Vector.replicate 4 (0 : UInt8)))),raw b1 (enc s160.1)]) (fun j=>([fun v _=>v = (vI s133.2.2),fun v _=>v = (vI s160.2.2),fun v _=>v = (ptr b1 (0 + (s133.2.2).toNat * 4)),fun v _=>v = (ptr b1 (0 + (s133.2.2).toNat * 4 + (s160.2.2).toNat * 1)),fun v _=>v = (vB x173),fun v _=>v = (vI p0),fun v _=>v = (vB x145),fun v _=>v = (vI s13.2.2.1),fun v _=>v = (vI s160.2.2),fun v _=>v = (ptr b1 (0 + (s13.2.2.1).toNat * 4)),fun v _=>v = (ptr b1 (0 + (s13.2.2.1).toNat * 4 + (s160.2.2).toNat * 1)),fun v _=>v = (vB x179),fun v _=>v = (vB r181),fun v _=>v = (vB (x173 ^^^ r181)),fun v _=>v = (ptr b1 (0 + (s133.2.2).toNat * 4)),fun v _=>v = (ptr b1 (0 + (s133.2.2).toNat * 4 + (s160.2.2).toNat * 1))] : List (Value → World → Prop)).getD j (fun _ _=>True)) (fun _ _ h hk=>h.keep hk) (gup (Zp (Zp (Zp (Zp (Zp (Zp (Zp (Zp (Zp (Zp (Zp (Zp (Zp (Zp (Zp (Zp Vq))))))))))))))))) hE hM.drew (ZS (Zb ?_ (Zb ?_ (Zb ?_ (Zb ?_ (Zb ?_ (Zb ?_ (Zb ?_ (Zb ?_ (Zb ?_ (Zb ?_ (Zb ?_ (Zb ?_ (Zb ?_ (Zb ?_ (Zb ?_ (Zb ?_ ZL))))))))))))))))) ?_
                 ·exact fun a w ux168 hE hM hp=>Zc hE Za ld rfl fun a hE=>⟨Kept.refl _ _,_,_,rfl,hE,rfl⟩
                 ·exact fun a w ux168 hE hM hp=>Zc hE Za ld rfl fun a hE=>⟨Kept.refl _ _,_,_,rfl,hE,rfl⟩
                 ·intro a w ux168 hE hM hp
                  have f0 : ux168 0 = (vI s133.2.2):=hp 0 _ rfl rfl
                  exact Zh hE Za ld rfl (lk rfl f0) Try.underlying57 Yr hi169.1 fun a hE=>⟨Kept.refl _ _,_,_,rfl,hE,rfl⟩
                 ·intro a w ux168 hE hM hp
                  have f1 : ux168 1 = (vI s160.2.2):=hp 1 _ rfl rfl
                  have f2 : ux168 2 = (ptr b1 (0 + (s133.2.2).toNat * 4)):=hp 0 _ rfl rfl
                  exact Zh hE Za ld (lk rfl f2) (lk rfl f1) Try.underlying55 ty5 hi172.1 fun a hE=>⟨Kept.refl _ _,_,_,rfl,hE,rfl⟩
                 ·intro a w ux168 hE hM hp
                  have f3 : ux168 3 = (ptr b1 (0 + (s133.2.2).toNat * 4 + (s160.2.2).toNat * 1)):=hp 0 _ rfl rfl
                  exact ZF (v:=(vB x173)) hE Za ld (lk rfl f3) ty5 rfl (At.vec (At.vec (hM.rawAt (pre:=[_,_])) hi169.2) hi172.2) fun a hE=>⟨Kept.refl _ _,_,_,rfl,hE,rfl⟩
                 ·exact fun a w ux168 hE hM hp=>Zc hE Za ld rfl fun a hE=>⟨Kept.refl _ _,_,_,rfl,hE,rfl⟩
                 ·exact fun a w ux168 hE hM hp=>Zc hE Za ld rfl fun a hE=>⟨Kept.refl _ _,_,_,rfl,hE,rfl⟩
                 ·exact fun a w ux168 hE hM hp=>Zc hE Za ld rfl fun a hE=>⟨Kept.refl _ _,_,_,rfl,hE,rfl⟩
                 ·exact fun a w ux168 hE hM hp=>Zc hE Za ld rfl fun a hE=>⟨Kept.refl _ _,_,_,rfl,hE,rfl⟩
                 ·intro a w ux168 hE hM hp
                  have f7 : ux168 7 = (vI s13.2.2.1):=hp 0 _ rfl rfl
                  exact Zh hE Za ld rfl (lk rfl f7) Try.underlying57 Yr hi175.1 fun a hE=>⟨Kept.refl _ _,_,_,rfl,hE,rfl⟩
                 ·intro a w ux168 hE hM hp
                  have f8 : ux168 8 = (vI s160.2.2):=hp 1 _ rfl rfl
                  have f9 : ux168 9 = (ptr b1 (0 + (s13.2.2.1).toNat * 4)):=hp 0 _ rfl rfl
                  exact Zh hE Za ld (lk rfl f9) (lk rfl f8) Try.underlying55 ty5 hi178.1 fun a hE=>⟨Kept.refl _ _,_,_,rfl,hE,rfl⟩
                 ·intro a w ux168 hE hM hp
                  have f10 : ux168 10 = (ptr b1 (0 + (s13.2.2.1).toNat * 4 + (s160.2.2).toNat * 1)):=hp 0 _ rfl rfl
                  exact ZF (v:=(vB x179)) hE Za ld (lk rfl f10) ty5 rfl (At.vec (At.vec (hM.rawAt (pre:=[_,_])) hi175.2) hi178.2) fun a hE=>⟨Kept.refl _ _,_,_,rfl,hE,rfl⟩
                 ·intro a w ux168 hE hM hp
                  have f5 : ux168 5 = (vI p0):=hp 0 _ rfl rfl
                  have f6 : ux168 6 = (vB x145):=hp 1 _ rfl rfl
                  have f11 : ux168 11 = (vB x179):=hp 2 _ rfl rfl
                  refine Zo hE Za ld (Z1 (ZX (lk rfl f5) (ZX (lk rfl f6) (ZX (lk rfl f11) Xg)))) Hl (YK _ p0 x145 x179 r181 e182) ?_
                  rintro v w a ⟨rfl,hK⟩ hE
                  exact ⟨hK,_,_,rfl,hE,rfl⟩
                 ·intro a w ux168 hE hM hp
                  have f4 : ux168 4 = (vB x173):=hp 0 _ rfl rfl
                  have f12 : ux168 12 = (vB r181):=hp 1 _ rfl rfl
                  exact Zm hE Za ld (lk rfl f4) (lk rfl f12) (Ug x173 r181) fun a hE=>⟨Kept.refl _ _,_,_,rfl,hE,rfl⟩
                 ·intro a w ux168 hE hM hp
                  have f0 : ux168 0 = (vI s133.2.2):=hp 0 _ rfl rfl
                  exact Zh hE Za ld rfl (lk rfl f0) Try.underlying57 Yr hi183.1 fun a hE=>⟨Kept.refl _ _,_,_,rfl,hE,rfl⟩
                 ·intro a w ux168 hE hM hp
                  have f1 : ux168 1 = (vI s160.2.2):=hp 1 _ rfl rfl
                  have f14 : ux168 14 = (ptr b1 (0 + (s133.2.2).toNat * 4)):=hp 0 _ rfl rfl
                  exact Zh hE Za ld (lk rfl f14) (lk rfl f1) Try.underlying55 ty5 hi186.1 fun a hE=>⟨Kept.refl _ _,_,_,rfl,hE,rfl⟩
                 ·intro a w ux168 hE hM hg
                  have hE:=hE.sub (e':=[(129,(vB (x173 ^^^ r181))),(131,(ptr b1 (0 + (s133.2.2).toNat * 4 + (s160.2.2).toNat * 1))),(0,vI p0),(3,(ptr b1 0)),(5,(ptr b3 0)),(6,(ptr b7 0)),(7,vB r82),(8,vI s13.2.2.1),(12,vI s133.2.2),(13,vB x145),(14,vI s160.2.2),(16,vI s13.2.2.1),(98,vI s133.2.2),(113,vI s160.2.2),(114,(vT (decide (s160.2.2 < 4)))),(115,vI s160.2.2)]) ⟨lk rfl (hg 13 (by decide)),lk rfl (hg 15 (by decide)),rfl,rfl,rfl,rfl,rfl,rfl,rfl,rfl,rfl,rfl,rfl,rfl,rfl,rfl,trivial⟩
                  have hM:=hM.pull (pre:=[_,_])
                  refine Zi (seg:=[(vB (x173 ^^^ r181))]) (cs':=enc (s160.1.setIfInBounds (s133.2.2).toNat (x184.setIfInBounds (s160.2.2).toNat (x173 ^^^ r181)))) hE hM Za rfl rfl rfl ty5 rfl (We (o':=0 + (s160.2.2).toNat * 1) hi183 (ZN (v:=x184) (x:=x173 ^^^ r181) hi186.1) (by first | omega | (simp only [Flat.n] <;> omega))) (Flat.cell (x173 ^^^ r181 : UInt8)) (YX (o':=0 + (s160.2.2).toNat * 1) hi183 (ZN (v:=x184) (x:=x173 ^^^ r181) hi186.1) (ZD (v:=x184) (x:=x173 ^^^ r181) hi186.1) (by first | omega | (simp only [Flat.n] <;> omega))) fun w a hM hE=>Zk ?_
                  have ht189:=Option.some.inj hl166
                  subst ht189
                  refine Zn ?_
                  have hM:=(hM.pull (pre:=[_,_])).pull (pre:=[_,_])
                  exact ⟨hE.sub ⟨rfl,rfl,rfl,rfl,rfl,rfl,rfl,rfl,rfl,rfl,rfl,rfl,trivial⟩,hM⟩
                ·skip
                 rintro a w ⟨hE,hM⟩
                 obtain ⟨x192,hi191,hF167⟩:=bvx hF167
                 obtain ⟨x195,hi194,hF167⟩:=bvx hF167
                 obtain ⟨x198,hi197,hF167⟩:=bvx hF167
                 obtain ⟨x201,hi200,hF167⟩:=bvx hF167
                 obtain ⟨r203,e204,hF167⟩:=bind_some hF167
                 obtain ⟨x206,hi205,hF167⟩:=bvx hF167
                 obtain ⟨x209,hi208,hF167⟩:=bvx hF167
                 refine Yw (n:=153) (hd:=[_,_,_,_,_,_,_,_,_,_,_,_,_,_,_,_]) (tl:=[_]) YS rfl rfl [132,133,134,135,136,137,138,139,140,141,142,143,144,145,146,147] (by decide) (fun w=>M (Old w0) w0 w [raw b7 (enc s160.2.1),raw b3 (enc (Vector.replicate 4 (Vector.replicate 4 (0 : UInt8)))),raw b1 (enc j165)]) (fun j=>([fun v _=>v = (vI s133.2.2),fun v _=>v = (vI s160.2.2),fun v _=>v = (ptr b7 (0 + (s133.2.2).toNat * 4)),fun v _=>v = (ptr b7 (0 + (s133.2.2).toNat * 4 + (s160.2.2).toNat * 1)),fun v _=>v = (vB x195),fun v _=>v = (vI p0),fun v _=>v = (vB x145),fun v _=>v = (vI s13.2.2.1),fun v _=>v = (vI s160.2.2),fun v _=>v = (ptr b7 (0 + (s13.2.2.1).toNat * 4)),fun v _=>v = (ptr b7 (0 + (s13.2.2.1).toNat * 4 + (s160.2.2).toNat * 1)),fun v _=>v = (vB x201),fun v _=>v = (vB r203),fun v _=>v = (vB (x195 ^^^ r203)),fun v _=>v = (ptr b7 (0 + (s133.2.2).toNat * 4)),fun v _=>v = (ptr b7 (0 + (s133.2.2).toNat * 4 + (s160.2.2).toNat * 1))] : List (Value → World → Prop)).getD j (fun _ _=>True)) (fun _ _ h hk=>h.keep hk) (gup (Zp (Zp (Zp (Zp (Zp (Zp (Zp (Zp (Zp (Zp (Zp (Zp (Zp (Zp (Zp (Zp Vq))))))))))))))))) hE hM.drew (ZS (Zb ?_ (Zb ?_ (Zb ?_ (Zb ?_ (Zb ?_ (Zb ?_ (Zb ?_ (Zb ?_ (Zb ?_ (Zb ?_ (Zb ?_ (Zb ?_ (Zb ?_ (Zb ?_ (Zb ?_ (Zb ?_ ZL))))))))))))))))) ?_
                 ·exact fun a w ux190 hE hM hp=>Zc hE Za ld rfl fun a hE=>⟨Kept.refl _ _,_,_,rfl,hE,rfl⟩
                 ·exact fun a w ux190 hE hM hp=>Zc hE Za ld rfl fun a hE=>⟨Kept.refl _ _,_,_,rfl,hE,rfl⟩
                 ·intro a w ux190 hE hM hp
                  have f0 : ux190 0 = (vI s133.2.2):=hp 0 _ rfl rfl
                  exact Zh hE Za ld rfl (lk rfl f0) Try.underlying57 Yr hi191.1 fun a hE=>⟨Kept.refl _ _,_,_,rfl,hE,rfl⟩
                 ·intro a w ux190 hE hM hp
                  have f1 : ux190 1 = (vI s160.2.2):=hp 1 _ rfl rfl
                  have f2 : ux190 2 = (ptr b7 (0 + (s133.2.2).toNat * 4)):=hp 0 _ rfl rfl
                  exact Zh hE Za ld (lk rfl f2) (lk rfl f1) Try.underlying55 ty5 hi194.1 fun a hE=>⟨Kept.refl _ _,_,_,rfl,hE,rfl⟩
                 ·intro a w ux190 hE hM hp
                  have f3 : ux190 3 = (ptr b7 (0 + (s133.2.2).toNat * 4 + (s160.2.2).toNat * 1)):=hp 0 _ rfl rfl
                  exact ZF (v:=(vB x195)) hE Za ld (lk rfl f3) ty5 rfl (At.vec (At.vec (hM.rawAt (pre:=[])) hi191.2) hi194.2) fun a hE=>⟨Kept.refl _ _,_,_,rfl,hE,rfl⟩
                 ·exact fun a w ux190 hE hM hp=>Zc hE Za ld rfl fun a hE=>⟨Kept.refl _ _,_,_,rfl,hE,rfl⟩
                 ·exact fun a w ux190 hE hM hp=>Zc hE Za ld rfl fun a hE=>⟨Kept.refl _ _,_,_,rfl,hE,rfl⟩
                 ·exact fun a w ux190 hE hM hp=>Zc hE Za ld rfl fun a hE=>⟨Kept.refl _ _,_,_,rfl,hE,rfl⟩
                 ·exact fun a w ux190 hE hM hp=>Zc hE Za ld rfl fun a hE=>⟨Kept.refl _ _,_,_,rfl,hE,rfl⟩
                 ·intro a w ux190 hE hM hp
                  have f7 : ux190 7 = (vI s13.2.2.1):=hp 0 _ rfl rfl
                  exact Zh hE Za ld rfl (lk rfl f7) Try.underlying57 Yr hi197.1 fun a hE=>⟨Kept.refl _ _,_,_,rfl,hE,rfl⟩
                 ·intro a w ux190 hE hM hp
                  have f8 : ux190 8 = (vI s160.2.2):=hp 1 _ rfl rfl
                  have f9 : ux190 9 = (ptr b7 (0 + (s13.2.2.1).toNat * 4)):=hp 0 _ rfl rfl
                  exact Zh hE Za ld (lk rfl f9) (lk rfl f8) Try.underlying55 ty5 hi200.1 fun a hE=>⟨Kept.refl _ _,_,_,rfl,hE,rfl⟩
                 ·intro a w ux190 hE hM hp
                  have f10 : ux190 10 = (ptr b7 (0 + (s13.2.2.1).toNat * 4 + (s160.2.2).toNat * 1)):=hp 0 _ rfl rfl
                  exact ZF (v:=(vB x201)) hE Za ld (lk rfl f10) ty5 rfl (At.vec (At.vec (hM.rawAt (pre:=[])) hi197.2) hi200.2) fun a hE=>⟨Kept.refl _ _,_,_,rfl,hE,rfl⟩
                 ·intro a w ux190 hE hM hp
                  have f5 : ux190 5 = (vI p0):=hp 0 _ rfl rfl
                  have f6 : ux190 6 = (vB x145):=hp 1 _ rfl rfl
                  have f11 : ux190 11 = (vB x201):=hp 2 _ rfl rfl
                  refine Zo hE Za ld (Z1 (ZX (lk rfl f5) (ZX (lk rfl f6) (ZX (lk rfl f11) Xg)))) Hl (YK _ p0 x145 x201 r203 e204) ?_
                  rintro v w a ⟨rfl,hK⟩ hE
                  exact ⟨hK,_,_,rfl,hE,rfl⟩
                 ·intro a w ux190 hE hM hp
                  have f4 : ux190 4 = (vB x195):=hp 0 _ rfl rfl
                  have f12 : ux190 12 = (vB r203):=hp 1 _ rfl rfl
                  exact Zm hE Za ld (lk rfl f4) (lk rfl f12) (Ug x195 r203) fun a hE=>⟨Kept.refl _ _,_,_,rfl,hE,rfl⟩
                 ·intro a w ux190 hE hM hp
                  have f0 : ux190 0 = (vI s133.2.2):=hp 0 _ rfl rfl
                  exact Zh hE Za ld rfl (lk rfl f0) Try.underlying57 Yr hi205.1 fun a hE=>⟨Kept.refl _ _,_,_,rfl,hE,rfl⟩
                 ·intro a w ux190 hE hM hp
                  have f1 : ux190 1 = (vI s160.2.2):=hp 1 _ rfl rfl
                  have f14 : ux190 14 = (ptr b7 (0 + (s133.2.2).toNat * 4)):=hp 0 _ rfl rfl
                  exact Zh hE Za ld (lk rfl f14) (lk rfl f1) Try.underlying55 ty5 hi208.1 fun a hE=>⟨Kept.refl _ _,_,_,rfl,hE,rfl⟩
                 ·intro a w ux190 hE hM hg
                  have hE:=hE.sub (e':=[(145,(vB (x195 ^^^ r203))),(147,(ptr b7 (0 + (s133.2.2).toNat * 4 + (s160.2.2).toNat * 1))),(0,vI p0),(3,(ptr b1 0)),(5,(ptr b3 0)),(6,(ptr b7 0)),(7,vB r82),(8,vI s13.2.2.1),(12,vI s133.2.2),(13,vB x145),(14,vI s160.2.2),(16,vI s13.2.2.1),(98,vI s133.2.2),(113,vI s160.2.2)]) ⟨lk rfl (hg 13 (by decide)),lk rfl (hg 15 (by decide)),rfl,rfl,rfl,rfl,rfl,rfl,rfl,rfl,rfl,rfl,rfl,rfl,trivial⟩
                  refine Zi (seg:=[(vB (x195 ^^^ r203))]) (cs':=enc (s160.2.1.setIfInBounds (s133.2.2).toNat (x206.setIfInBounds (s160.2.2).toNat (x195 ^^^ r203)))) hE hM Za rfl rfl rfl ty5 rfl (We (o':=0 + (s160.2.2).toNat * 1) hi205 (ZN (v:=x206) (x:=x195 ^^^ r203) hi208.1) (by first | omega | (simp only [Flat.n] <;> omega))) (Flat.cell (x195 ^^^ r203 : UInt8)) (YX (o':=0 + (s160.2.2).toNat * 1) hi205 (ZN (v:=x206) (x:=x195 ^^^ r203) hi208.1) (ZD (v:=x206) (x:=x195 ^^^ r203) hi208.1) (by first | omega | (simp only [Flat.n] <;> omega))) fun w a hM hE=>Zk (Yj (ZG (wp_region_lit (Zm hE Za ld rfl rfl rfl fun a hE=>Zc hE Za ld rfl fun a hE=>Zk (Zn ?_)))))
                  exact ⟨_,(ois hF167),hE.sub ⟨rfl,rfl,rfl,rfl,rfl,rfl,rfl,rfl,rfl,rfl,rfl,trivial⟩,hM⟩
               ·intro hb164
                have hs161:=ZA hs161 hb164
                refine wp_exit (Zs (Zs (Yz ?_)))
                have ht211:=hx162 _ (ois hs161)
                subst ht211
                refine Zn ?_
                exact ⟨hE.sub ⟨rfl,rfl,rfl,rfl,rfl,rfl,rfl,rfl,trivial⟩,hM⟩
              ·skip
               rintro a w ⟨hE,hM⟩
               have ht212:=Option.some.inj hF159
               subst ht212
               refine Zn ?_
               exact ⟨hE.sub ⟨rfl,rfl,rfl,rfl,rfl,rfl,rfl,rfl,trivial⟩,hM⟩
             ·intro hb156
              have hl154:=ZA hl154 hb156
              refine wp_skip ?_
              have ht213:=Option.some.inj hl154
              subst ht213
              refine Zn ?_
              exact ⟨hE.sub ⟨rfl,rfl,rfl,rfl,rfl,rfl,rfl,rfl,trivial⟩,hM⟩
            ·skip
             rintro a w ⟨hE,hM⟩
             refine Yj ?_
             have ht214:=Option.some.inj hF155
             subst ht214
             refine Zn ?_
             exact ⟨hE.sub ⟨rfl,rfl,rfl,rfl,rfl,rfl,rfl,rfl,trivial⟩,hM⟩
          ·skip
           rintro a w ⟨hE,hM⟩
           refine wp_region_lit (Zm hE Za ld rfl rfl rfl fun a hE=>Zc hE Za ld rfl fun a hE=>Zk (Zn ?_))
           exact ⟨_,(ois hF140),hE.sub ⟨rfl,rfl,rfl,rfl,rfl,rfl,rfl,rfl,trivial⟩,hM⟩
         ·intro hb137
          have hs134:=ZA hs134 hb137
          refine wp_exit (Zs (Zs (Yz ?_)))
          have ht215:=hx135 _ (ois hs134)
          subst ht215
          refine Zn ?_
          exact ⟨hE.sub ⟨rfl,rfl,rfl,rfl,rfl,rfl,trivial⟩,hM⟩
        ·skip
         rintro a w ⟨hE,hM⟩
         refine Yj (ZG (wp_region_lit (Zm hE Za ld rfl rfl rfl fun a hE=>Zc hE Za ld rfl fun a hE=>Zk (Zn ?_))))
         exact ⟨_,(ois hF132),hE.sub ⟨rfl,rfl,rfl,rfl,rfl,rfl,trivial⟩,hM⟩
  ·intro hb17
   have hs14:=ZA hs14 hb17
   refine wp_exit (Zs (Zs (Yz ?_)))
   have ht216:=hx15 _ (ois hs14)
   subst ht216
   refine Zn ?_
   have hM:=M.fst (l:=[_,_]) ((hM.pull (pre:=[_])).pull (pre:=[_]))
   exact ⟨(s13.2.1,s13.2.2.2),rfl,hE.sub ⟨rfl,rfl,rfl,trivial⟩,hM⟩
 ·skip
  rintro a w ⟨s12,ht,hE,hM⟩
  subst ht
  have hF11:=Qp hF11
  refine ZG ?_
  obtain ⟨j217,hl218,hF219⟩:=bind_some hF11
  refine ZT (fun a w=>Env 153 a [(4,vB j217.2),(5,(ptr b3 0))] ∧ M (Old w0) w0 w [raw b3 (enc j217.1)]) ?_ ?_
  ·skip
   refine Yw (n:=153) (hd:=[_,_,_]) (tl:=[_]) YS rfl rfl [151,152,4] (by decide) (fun w=>M (Old w0) w0 w [raw b7 (enc s12.1),raw b3 (enc (Vector.replicate 4 (Vector.replicate 4 (0 : UInt8))))]) (fun j=>([fun v _=>v = (vB s12.2),fun v _=>v = (Value.agg (enc s12.1).toArray),fun v _=>v = (vB s12.2)] : List (Value → World → Prop)).getD j (fun _ _=>True)) (fun _ _ h hk=>h.keep hk) (gup (Zp (Zp (Zp Vq)))) hE hM.drew (ZS (Zb ?_ (Zb ?_ (Zb ?_ ZL)))) ?_
   ·exact fun a w ux220 hE hM hp=>Zc hE Za ld rfl fun a hE=>⟨Kept.refl _ _,_,_,rfl,hE,rfl⟩
   ·exact fun a w ux220 hE hM hp=>Zj (cs:=enc s12.1) hE Za ld rfl Y7 rfl (hM.rawAt (pre:=[])) (Flat.len _) fun a hE=>⟨Kept.refl _ _,_,_,rfl,hE,rfl⟩
   ·intro a w ux220 hE hM hp
    have f0 : ux220 0 = (vB s12.2):=hp 0 _ rfl rfl
    exact Ze hE Za ld (lk rfl f0) fun a hE=>⟨Kept.refl _ _,_,_,rfl,hE,rfl⟩
   ·intro a w ux220 hE hM hg
    have hE:=hE.sub (e':=[(152,(Value.agg (enc s12.1).toArray)),(4,vB s12.2),(5,(ptr b3 0))]) ⟨lk rfl (hg 1 (by decide)),lk rfl (hg 2 (by decide)),rfl,trivial⟩
    have hM:=hM.pull (pre:=[_])
    refine Zi (seg:=enc s12.1) (cs':=enc s12.1) hE hM Za rfl rfl rfl Y7 (Flat.len _) (zle flq) (Flat.cell _) (Zg flq) fun w a hM hE=>Zk ?_
    have ht221:=Option.some.inj hl218
    subst ht221
    refine Zn ?_
    have hM:=M.fst (l:=[_]) hM
    exact ⟨hE.sub ⟨rfl,rfl,trivial⟩,hM⟩
  ·skip
   rintro a w ⟨hE,hM⟩
   have hr:=Option.some.inj hF219
   subst hr
   have hq222 : ZY Try.prog _ _ (.cell 5 57) _:=ZM hE rfl Y7 rfl (hM.rawAt (pre:=[])) (Flat.len _) rfl
   have hM:=M.fst (l:=[]) hM
   exact wp_ret (VH hE rfl (Zx hE rfl) hq222 ⟨_,rfl,rfl,hM.kept⟩)
def Vh (p0 : Int) (p1 : (Vector (Vector UInt8 4) 4)) : Option (Bool) :=
 (YV p0 p1).bind fun r3=>some (r3.1 != 0)
theorem KG (w0 : World) (p0 : Int) (p1 : (Vector (Vector UInt8 4) 4)) (r : Bool) (hF : Vh p0 p1 = some r) :
  Calls Try.prog 143 [vI p0,(Value.agg (enc p1).toArray)].toArray w0 (fun en w'=>∃ v,en = .returned v ∧ (v = (vT r) ∧ Kept (Old w0) w0 w')):=by
 refine ZJ (n:=15) Try.func143 rfl rfl (nbl rfl) rfl ?_
 intro a hE
 have hM:=M.start w0
 unfold Vh at hF
 refine Zd (Z3 (cs:=enc p1) hE hM Za ld rfl rfl fun b1 w a hM hE=>Ze hE Za ld rfl fun a hE=>Zf (Zd (Zc hE Za ld rfl fun a hE=>Zj (cs:=enc p1) hE Za ld rfl Y7 rfl (hM.rawAt (pre:=[])) (Flat.len _) ?_))); intro a hE
 obtain ⟨r3,e4,hF⟩:=bind_some hF
 refine Zo hE Za ld rfl cb145 (TJ _ p0 p1 r3 e4) ?_
 rintro v w a ⟨rfl,hK⟩ hE
 have hM:=hM.keep hK
 refine Zc hE Za ld rfl fun a hE=>Zy hE Za ld rfl rfl fun a hE=>Zy hE Za ld rfl rfl fun a hE=>Zu hE hM Za ld Y7 fun b5 w a hM hE=>Ze hE Za ld rfl fun a hE=>Zi (seg:=enc r3.2) (cs':=enc r3.2) hE hM Za rfl rfl rfl Y7 (Flat.len _) (zle flq) (Flat.cell _) (Zg flq) fun w a hM hE=>Zf (Zd (Zc hE Za ld rfl fun a hE=>Zm hE Za ld rfl rfl (zt r3.1 0) fun a hE=>Ze hE Za ld rfl fun a hE=>Zf ?_))
 have hr:=Option.some.inj hF
 subst hr
 have hM:=M.fst (l:=[]) hM
 exact wp_ret (ZK hE rfl (Zx hE rfl) ⟨_,rfl,rfl,hM.kept⟩)
def V4 (p0 : (List UInt8)) (p1 : UInt8) : Option (Int) :=
 some (indexByte p0 p1)
theorem Jn (w0 : World) (p0 : (List UInt8)) (v0_1 : Value) (hv0_1 : Ro w0 p0 [v0_1]) (p1 : UInt8) (r : Int) (hF : V4 p0 p1 = some r) :
  Calls Try.prog 123 [v0_1,vB p1].toArray w0 (fun en w'=>∃ v,en = .returned v ∧ (v = (vI r) ∧ Kept (Old w0) w0 w')):=by
 refine ZJ (n:=8) Try.func123 rfl rfl (nbl rfl) rfl ?_
 intro a hE
 have hM:=M.start w0
 unfold V4 at hF
 refine Zd (Ze hE Za ld rfl fun a hE=>Zf (Zd (Zc hE Za ld rfl fun a hE=>Zc hE Za ld rfl fun a hE=>A7 hE Za ld rfl Try.func176 rfl (by decide) (by kernel_rfl) (by kernel_rfl) (hM.rd hv0_1) fun a hE=>Ze hE Za ld rfl fun a hE=>Zf ?_)))
 have hr:=Option.some.inj hF
 subst hr
 exact wp_ret (ZK hE rfl (Zx hE rfl) ⟨_,rfl,rfl,hM.kept⟩)
def Y8 (p0 : (List UInt8)) (s5 : Int) : Option (Fl Int (Fl Unit Bool)) :=
 if (decide (s5 < (p0.length : Int))) = true then ((idx p0 s5).bind fun x10=>(slc p0 (0 : Int) s5).bind fun l13=>(V4 l13 x10).bind fun r16=>if (decide (r16 ≥ 0)) = true then (some (Fl.ex (Fl.ex false))) else (some (Fl.nx (wr (s5 + 1))))) else (some (Fl.ex (Fl.nx ())))
def Wo (p0 : (List UInt8)) : Option (Bool) :=
 (ZQ (Y8 p0) 0).bind fun j1=>j1.el (fun s4=>some true) (fun r=>some r)
theorem KI (w0 : World) (p0 : (List UInt8)) (v0_1 : Value) (hv0_1 : Ro w0 p0 [v0_1]) (r : Bool) (hF : Wo p0 = some r) :
  Calls Try.prog 70 [v0_1].toArray w0 (fun en w'=>∃ v,en = .returned v ∧ (v = (vT r) ∧ Kept (Old w0) w0 w')):=by
 refine ZJ (n:=19) Try.func70 rfl rfl (nbl rfl) rfl ?_
 intro a hE
 have hM:=M.start w0
 unfold Wo at hF
 refine Zd (Ze hE Za ld rfl fun a hE=>Zf (wp_seq (Zd (Zc hE Za ld rfl fun a hE=>UU hE Za ld rfl Try.underlying22 (hM.rd hv0_1) fun a hE=>Zc hE Za ld rfl fun a hE=>Zf ?_))))
 obtain ⟨j1,hl2,hF3⟩:=bind_some hF
 refine Z0 (fun a w=>∃ s4 : Unit,j1 = Fl.nx s4 ∧ Env 19 a [] ∧ M (Old w0) w0 w []) ?_ ?_
 ·skip
  refine wp_block ?_
  refine ZV (fun (s5 : Int) a w=>Env 19 a [(0,v0_1),(5,v0_1),(6,(vI (p0.length : Int))),(7,vI s5)] ∧ M (Old w0) w0 w []) hl2 ⟨hE.sub ⟨rfl,rfl,rfl,rfl,trivial⟩,hM⟩ ?_
  rintro s5 a w ⟨hE,hM⟩ o8 hs6 hx7
  unfold Y8 at hs6
  refine Zd (Zm hE Za ld rfl rfl rfl fun a hE=>Zf (wp_seq ?_))
  refine Zv hE rfl ?_ ?_
  ·intro hb9
   have hs6:=ZB hs6 hb9
   refine wp_skip (ZG (wp_seq (wp_block (Zd (Zc hE Za ld rfl ?_))))); intro a hE
   obtain ⟨x10,hi12,hs6⟩:=bix hs6
   refine Yv hE Za ld rfl rfl Try.underlying22 ty5 (hM.rd hv0_1) hi12.1 fun a hE=>ZF (v:=(vB x10)) hE Za ld rfl ty5 rfl (X9 (hM.rd hv0_1) hi12.2) fun a hE=>Ze hE Za ld rfl fun a hE=>Ze hE Za ld rfl fun a hE=>Zf (Zd (Zc hE Za ld rfl fun a hE=>Zc hE Za ld rfl ?_)); intro a hE
   obtain ⟨l13,e14,hs6⟩:=bind_some hs6
   refine jH hE Za ld rfl rfl rfl rfl rfl Try.underlying22 ty5 (hM.rd hv0_1) e14 ?_; intro a hE
   have h15 : Rep.sat (Old w0) w0 l13 [(VG v0_1 ((0 : Int)).toNat (s5).toNat 1)] []:=HW hv0_1 e14 -- ^
   refine Zc hE Za ld rfl ?_; intro a hE
   obtain ⟨r16,e17,hs6⟩:=bind_some hs6
   refine Zo hE Za ld rfl cb123 (Jn _ l13 (VG v0_1 ((0 : Int)).toNat (s5).toNat 1) (hM.rdo h15) x10 r16 e17) ?_
   rintro v w a ⟨rfl,hK⟩ hE
   have hM:=hM.keep hK
   refine Zm hE Za ld rfl rfl rfl fun a hE=>Zf ?_
   refine Zv hE rfl ?_ ?_
   ·intro hb18
    have hs6:=ZB hs6 hb18
    refine Zd (Ze hE Za ld rfl fun a hE=>Zf ?_)
    have ht19:=hx7 _ (ois hs6)
    subst ht19
    have hr:=Option.some.inj hF3
    subst hr
    exact wp_ret (Y4 (ZP (ZP (Y4 (ZP (ZP (ZK hE rfl (Zx hE rfl) ⟨_,rfl,rfl,hM.kept⟩)))))))
   ·intro hb18
    have hs6:=ZA hs6 hb18
    refine wp_skip (Yj (ZG (wp_region_lit (Zm hE Za ld rfl rfl rfl fun a hE=>Zc hE Za ld rfl fun a hE=>Zk (Zn ?_)))))
    exact ⟨_,(ois hs6),hE.sub ⟨rfl,rfl,rfl,rfl,trivial⟩,hM⟩
  ·intro hb9
   have hs6:=ZA hs6 hb9
   refine wp_exit (Zs (Zs (Yz ?_)))
   have ht20:=hx7 _ (ois hs6)
   subst ht20
   refine Zn ?_
   exact ⟨(),rfl,hE.sub trivial,hM⟩
 ·skip
  rintro a w ⟨s4,ht,hE,hM⟩
  subst ht
  have hF3:=Qp hF3
  refine ZG (Zd (Ze hE Za ld rfl fun a hE=>Zf ?_))
  have hr:=Option.some.inj hF3
  subst hr
  exact wp_ret (ZK hE rfl (Zx hE rfl) ⟨_,rfl,rfl,hM.kept⟩)
def Wi (p0 : (Vector UInt8 16)) (s7 : Int) : Option (Fl Int (Fl Unit Bool)) :=
 if (decide (s7 < 16)) = true then ((ZI p0 s7).bind fun x12=>if (decide (x12 > 15)) = true then (some (Fl.ex (Fl.ex false))) else (some (Fl.nx (wr (s7 + 1))))) else (some (Fl.ex (Fl.nx ())))
def Vo (p0 : (Vector UInt8 16)) : Option (Bool) :=
 (ZQ (Wi p0) 0).bind fun j3=>j3.el (fun s6=>(slc p0.toList (0 : Int) (16 : Int)).bind fun l18=>(Wo l18).bind fun r21=>some r21) (fun r=>some r)
theorem J1 (w0 : World) (p0 : (Vector UInt8 16)) (r : Bool) (hF : Vo p0 = some r) :
  Calls Try.prog 144 [(Value.agg (enc p0).toArray)].toArray w0 (fun en w'=>∃ v,en = .returned v ∧ (v = (vT r) ∧ Kept (Old w0) w0 w')):=by
 refine ZJ (n:=14) Try.func144 rfl rfl (nbl rfl) rfl ?_
 intro a hE
 have hM:=M.start w0
 unfold Vo at hF
 refine Zd (Z3 (cs:=enc p0) hE hM Za ld rfl rfl fun b1 w a hM hE=>Ze hE Za ld rfl fun a hE=>Zf (wp_seq (Zd (Zj (cs:=enc p0) hE Za ld rfl UY rfl (hM.rawAt (pre:=[])) (Flat.len _) fun a hE=>Zc hE Za ld rfl fun a hE=>Zf ?_))))
 obtain ⟨j3,hl4,hF5⟩:=bind_some hF
 refine Z0 (fun a w=>∃ s6 : Unit,j3 = Fl.nx s6 ∧ Env 14 a [(1,(ptr b1 0))] ∧ M (Old w0) w0 w [raw b1 (enc p0)]) ?_ ?_
 ·skip
  refine wp_block ?_
  refine ZV (fun (s7 : Int) a w=>Env 14 a [(1,(ptr b1 0)),(5,(Value.agg (enc p0).toArray)),(6,vI s7)] ∧ M (Old w0) w0 w [raw b1 (enc p0)]) hl4 ⟨hE.sub ⟨rfl,rfl,rfl,trivial⟩,hM⟩ ?_
  rintro s7 a w ⟨hE,hM⟩ o10 hs8 hx9
  unfold Wi at hs8
  refine Zd (Zm hE Za ld rfl rfl rfl fun a hE=>Zf (wp_seq ?_))
  refine Zv hE rfl ?_ ?_
  ·intro hb11
   have hs8:=ZB hs8 hb11
   refine wp_skip (ZG (wp_seq (wp_block (Zd ?_))))
   obtain ⟨x12,hi14,hs8⟩:=bvx hs8
   refine Ts hE Za ld rfl rfl Try.underlying59 ty5 rfl rfl hi14 rfl fun a hE=>Ze hE Za ld rfl fun a hE=>Zf (Zd (Zc hE Za ld rfl fun a hE=>Zm hE Za ld rfl rfl (bB_gtr x12 15) fun a hE=>Zf ?_))
   refine Zv hE rfl ?_ ?_
   ·intro hb15
    have hs8:=ZB hs8 hb15
    refine Zd (Ze hE Za ld rfl fun a hE=>Zf ?_)
    have ht16:=hx9 _ (ois hs8)
    subst ht16
    have hr:=Option.some.inj hF5
    subst hr
    have hM:=M.fst (l:=[]) hM
    exact wp_ret (Y4 (ZP (ZP (Y4 (ZP (ZP (ZK hE rfl (Zx hE rfl) ⟨_,rfl,rfl,hM.kept⟩)))))))
   ·intro hb15
    have hs8:=ZA hs8 hb15
    refine wp_skip (Yj (ZG (wp_region_lit (Zm hE Za ld rfl rfl rfl fun a hE=>Zc hE Za ld rfl fun a hE=>Zk (Zn ?_)))))
    exact ⟨_,(ois hs8),hE.sub ⟨rfl,rfl,rfl,trivial⟩,hM⟩
  ·intro hb11
   have hs8:=ZA hs8 hb11
   refine wp_exit (Zs (Zs (Yz ?_)))
   have ht17:=hx9 _ (ois hs8)
   subst ht17
   refine Zn ?_
   exact ⟨(),rfl,hE.sub ⟨rfl,trivial⟩,hM⟩
 ·skip
  rintro a w ⟨s6,ht,hE,hM⟩
  subst ht
  have hF5:=Qp hF5
  refine ZG (Zd ?_)
  obtain ⟨l18,e19,hF5⟩:=bind_some hF5
  have hb20:=Hy e19 -- ^
  refine QL (N:=16) hE Za ld rfl rfl rfl rfl rfl Try.underlying59 ty5 hb20 ?_; intro a hE
  obtain ⟨r21,e22,hF5⟩:=bind_some hF5
  refine Zo hE Za ld rfl cb70 (KI _ l18 (VG (.slice (some ⟨b1,0,none⟩) 16 16) ((0 : Int)).toNat ((16 : Int)).toNat 1) (HW (At.sat (hM.rawAt (pre:=[])) (by simp) (by decide)) e19) r21 e22) ?_
  rintro v w a ⟨rfl,hK⟩ hE
  have hM:=hM.keep hK
  refine Ze hE Za ld rfl fun a hE=>Zf ?_
  have hr:=Option.some.inj hF5
  subst hr
  have hM:=M.fst (l:=[]) hM
  exact wp_ret (ZK hE rfl (Zx hE rfl) ⟨_,rfl,rfl,hM.kept⟩)
def Wm (p0 : GCipher) : Option (Bool) :=
 ((Up p0.Field).bind fun r6=>if r6 = true then ((Wc p0.Box).bind fun r9=>if r9 = true then ((Vh p0.Field p0.Mix).bind fun r12=>if r12 = true then ((Vo p0.Places).bind fun r15=>if r15 = true then ((Xn p0.Rounds 1 20).bind fun r18=>some r18) else (some false)) else (some false)) else (some false)) else (some false) : Option (Bool)).bind fun j3=>some j3
theorem TC (w0 : World) (p0 : GCipher) (r : Bool) (hF : Wm p0 = some r) :
  Calls Try.prog 86 [(Value.agg (enc p0).toArray)].toArray w0 (fun en w'=>∃ v,en = .returned v ∧ (v = (vT r) ∧ Kept (Old w0) w0 w')):=by
 refine ZJ (n:=28) Try.func86 rfl rfl (nbl rfl) rfl ?_
 intro a hE
 have hM:=M.start w0
 unfold Wm at hF
 refine Zd (Z3 (cs:=cat [[vI p0.Field],enc p0.Box,enc p0.Mix,enc p0.Places,[vI p0.Rounds]]) hE hM Za ld rfl rfl fun b1 w a hM hE=>Ze hE Za ld rfl fun a hE=>Zf ?_)
 obtain ⟨j3,hl4,hF5⟩:=bind_some hF
 refine ZT (fun a w=>Env 28 a [(2,vT j3)] ∧ M (Old w0) w0 w []) ?_ ?_
 ·skip
  refine wp_region_lit (Zr hE Za ld rfl (Tg) fun a hE=>ZF (v:=(vI p0.Field)) hE Za ld rfl ty2 rfl (At.cat (pre:=[]) (hM.rawAt (pre:=[])) cl0) ?_); intro a hE
  obtain ⟨r6,e7,hl4⟩:=bind_some hl4
  refine Zo hE Za ld rfl cb54 (Bm _ p0.Field r6 e7) ?_
  rintro v w a ⟨rfl,hK⟩ hE
  have hM:=hM.keep hK
  refine Zc hE Za ld rfl ?_; intro a hE
  refine Xy r6 (fun hb8=>?_) (fun hb8=>?_)
  ·have hl4:=ZB hl4 hb8
   refine Zr hE (Zt hE rfl (lkb rfl hb8)) (by decide) rfl (TX) fun a hE=>Zj (cs:=enc p0.Box) hE (Zt hE rfl (lkb rfl hb8)) (by decide) rfl YC rfl (At.cat (pre:=[[vI p0.Field]]) (hM.rawAt (pre:=[])) (cl1 (n:=1) (m:=0) rfl cl0)) (Flat.len _) ?_; intro a hE
   obtain ⟨r9,e10,hl4⟩:=bind_some hl4
   refine Zo hE (Zt hE rfl (lkb rfl hb8)) (by decide) rfl cb142 (Q5 _ p0.Box r9 e10) ?_
   rintro v w a ⟨rfl,hK⟩ hE
   have hM:=hM.keep hK
   refine Yy hE Za ld (lkb rfl hb8) rfl fun a hE=>Zc hE Za ld rfl ?_; intro a hE
   refine Xy r9 (fun hb11=>?_) (fun hb11=>?_)
   ·have hl4:=ZB hl4 hb11
    refine Zr hE (Zt hE rfl (lkb rfl hb11)) (by decide) rfl (Tg) fun a hE=>ZF (v:=(vI p0.Field)) hE (Zt hE rfl (lkb rfl hb11)) (by decide) rfl ty2 rfl (At.cat (pre:=[]) (hM.rawAt (pre:=[])) cl0) fun a hE=>Zr hE (Zt hE rfl (lkb rfl hb11)) (by decide) rfl (TF) fun a hE=>Zj (cs:=enc p0.Mix) hE (Zt hE rfl (lkb rfl hb11)) (by decide) rfl Y7 rfl (At.cat (pre:=[[vI p0.Field],enc p0.Box]) (hM.rawAt (pre:=[])) (cl1 (n:=1) (m:=256) rfl (cl1 (n:=256) (m:=0) (Flat.len _) cl0))) (Flat.len _) ?_; intro a hE
    obtain ⟨r12,e13,hl4⟩:=bind_some hl4
    refine Zo hE (Zt hE rfl (lkb rfl hb11)) (by decide) rfl cb143 (KG _ p0.Field p0.Mix r12 e13) ?_
    rintro v w a ⟨rfl,hK⟩ hE
    have hM:=hM.keep hK
    refine Yy hE Za ld (lkb rfl hb11) rfl fun a hE=>Zc hE Za ld rfl ?_; intro a hE
    refine Xy r12 (fun hb14=>?_) (fun hb14=>?_)
    ·have hl4:=ZB hl4 hb14
     refine Zr hE (Zt hE rfl (lkb rfl hb14)) (by decide) rfl (U6) fun a hE=>Zj (cs:=enc p0.Places) hE (Zt hE rfl (lkb rfl hb14)) (by decide) rfl UY rfl (At.cat (pre:=[[vI p0.Field],enc p0.Box,enc p0.Mix]) (hM.rawAt (pre:=[])) (cl1 (n:=1) (m:=272) rfl (cl1 (n:=256) (m:=16) (Flat.len _) (cl1 (n:=16) (m:=0) (Flat.len _) cl0)))) (Flat.len _) ?_; intro a hE
     obtain ⟨r15,e16,hl4⟩:=bind_some hl4
     refine Zo hE (Zt hE rfl (lkb rfl hb14)) (by decide) rfl cb144 (J1 _ p0.Places r15 e16) ?_
     rintro v w a ⟨rfl,hK⟩ hE
     have hM:=hM.keep hK
     refine Yy hE Za ld (lkb rfl hb14) rfl fun a hE=>Zc hE Za ld rfl ?_; intro a hE
     refine Xy r15 (fun hb17=>?_) (fun hb17=>?_)
     ·have hl4:=ZB hl4 hb17
      refine Zr hE (Zt hE rfl (lkb rfl hb17)) (by decide) rfl (UL) fun a hE=>ZF (v:=(vI p0.Rounds)) hE (Zt hE rfl (lkb rfl hb17)) (by decide) rfl ty2 rfl (At.cat (pre:=[[vI p0.Field],enc p0.Box,enc p0.Mix,enc p0.Places]) (hM.rawAt (pre:=[])) (cl1 (n:=1) (m:=288) rfl (cl1 (n:=256) (m:=32) (Flat.len _) (cl1 (n:=16) (m:=16) (Flat.len _) (cl1 (n:=16) (m:=0) (Flat.len _) cl0))))) ?_; intro a hE
      obtain ⟨r18,e19,hl4⟩:=bind_some hl4
      refine Zo hE (Zt hE rfl (lkb rfl hb17)) (by decide) rfl cb56 (Uj _ p0.Rounds 1 20 r18 e19) ?_
      rintro v w a ⟨rfl,hK⟩ hE
      have hM:=hM.keep hK
      refine Yy hE Za ld (lkb rfl hb17) rfl fun a hE=>Ze hE Za ld rfl fun a hE=>Zk ?_
      have ht20:=Option.some.inj hl4
      subst ht20
      refine Zn ?_
      have hM:=M.fst (l:=[]) hM
      exact ⟨hE.sub ⟨rfl,trivial⟩,hM⟩
     ·have hl4:=ZA hl4 hb17
      refine Zz hE rfl (lkb rfl hb17) rfl (by decide) fun a hE=>Zz hE rfl (lkb rfl hb17) rfl (by decide) fun a hE=>Zz hE rfl (lkb rfl hb17) rfl (by decide) fun a hE=>Yh hE Za ld (lkb rfl hb17) rfl fun a hE=>Ze hE Za ld rfl fun a hE=>Zk ?_
      have ht21:=Option.some.inj hl4
      subst ht21
      refine Zn ?_
      have hM:=M.fst (l:=[]) hM
      exact ⟨hE.sub ⟨rfl,trivial⟩,hM⟩
    ·have hl4:=ZA hl4 hb14
     refine Zz hE rfl (lkb rfl hb14) rfl (by decide) fun a hE=>Zz hE rfl (lkb rfl hb14) rfl (by decide) fun a hE=>Zz hE rfl (lkb rfl hb14) rfl (by decide) fun a hE=>Yh hE Za ld (lkb rfl hb14) rfl fun a hE=>Zc hE Za ld rfl fun a hE=>Zz hE rfl rfl rfl (by decide) fun a hE=>Zz hE rfl rfl rfl (by decide) fun a hE=>Zz hE rfl rfl rfl (by decide) fun a hE=>Yh hE Za ld rfl rfl fun a hE=>Ze hE Za ld rfl fun a hE=>Zk ?_
     have ht22:=Option.some.inj hl4
     subst ht22
     refine Zn ?_
     have hM:=M.fst (l:=[]) hM
     exact ⟨hE.sub ⟨rfl,trivial⟩,hM⟩
   ·have hl4:=ZA hl4 hb11
    refine Zz hE rfl (lkb rfl hb11) rfl (by decide) fun a hE=>Zz hE rfl (lkb rfl hb11) rfl (by decide) fun a hE=>Zz hE rfl (lkb rfl hb11) rfl (by decide) fun a hE=>Zz hE rfl (lkb rfl hb11) rfl (by decide) fun a hE=>Zz hE rfl (lkb rfl hb11) rfl (by decide) fun a hE=>Yh hE Za ld (lkb rfl hb11) rfl fun a hE=>Zc hE Za ld rfl fun a hE=>Zz hE rfl rfl rfl (by decide) fun a hE=>Zz hE rfl rfl rfl (by decide) fun a hE=>Zz hE rfl rfl rfl (by decide) fun a hE=>Yh hE Za ld rfl rfl fun a hE=>Zc hE Za ld rfl ?_; intro a hE
    refine Zz hE rfl rfl rfl (by decide) fun a hE=>Zz hE rfl rfl rfl (by decide) fun a hE=>Zz hE rfl rfl rfl (by decide) fun a hE=>Yh hE Za ld rfl rfl fun a hE=>Ze hE Za ld rfl fun a hE=>Zk ?_
    have ht23:=Option.some.inj hl4
    subst ht23
    refine Zn ?_
    have hM:=M.fst (l:=[]) hM
    exact ⟨hE.sub ⟨rfl,trivial⟩,hM⟩
  ·have hl4:=ZA hl4 hb8
   refine Zz hE rfl (lkb rfl hb8) rfl (by decide) fun a hE=>Zz hE rfl (lkb rfl hb8) rfl (by decide) fun a hE=>Zz hE rfl (lkb rfl hb8) rfl (by decide) fun a hE=>Yh hE Za ld (lkb rfl hb8) rfl fun a hE=>Zc hE Za ld rfl fun a hE=>Zz hE rfl rfl rfl (by decide) fun a hE=>Zz hE rfl rfl rfl (by decide) fun a hE=>Zz hE rfl rfl rfl (by decide) fun a hE=>Zz hE rfl rfl rfl (by decide) fun a hE=>Zz hE rfl rfl rfl (by decide) fun a hE=>Yh hE Za ld rfl rfl fun a hE=>Zc hE Za ld rfl ?_; intro a hE
   refine Zz hE rfl rfl rfl (by decide) fun a hE=>Zz hE rfl rfl rfl (by decide) fun a hE=>Zz hE rfl rfl rfl (by decide) fun a hE=>Yh hE Za ld rfl rfl fun a hE=>Zc hE Za ld rfl fun a hE=>Zz hE rfl rfl rfl (by decide) fun a hE=>Zz hE rfl rfl rfl (by decide) fun a hE=>Zz hE rfl rfl rfl (by decide) fun a hE=>Yh hE Za ld rfl rfl fun a hE=>Ze hE Za ld rfl fun a hE=>Zk ?_
   have ht24:=Option.some.inj hl4
   subst ht24
   refine Zn ?_
   have hM:=M.fst (l:=[]) hM
   exact ⟨hE.sub ⟨rfl,trivial⟩,hM⟩
 ·skip
  rintro a w ⟨hE,hM⟩
  have hr:=Option.some.inj hF5
  subst hr
  exact wp_ret (ZK hE rfl (Zx hE rfl) ⟨_,rfl,rfl,hM.kept⟩)
def Xs (p0 : (Vector UInt8 256)) (s10 : (Vector UInt8 256) × Int) : Option (Fl ((Vector UInt8 256) × Int) (Vector UInt8 256)) :=
 if (decide (s10.2 < 256)) = true then ((ZI p0 s10.2).bind fun x15=>(ZI s10.1 (bI x15)).bind fun x19=>some (Fl.nx ((s10.1.setIfInBounds ((bI x15)).toNat (ZE s10.2)),wr (s10.2 + 1)))) else (some (Fl.ex s10.1))
def WF (p0 : (Vector UInt8 256)) : Option ((Vector UInt8 256)) :=
 (ZQ (Xs p0) ((Vector.replicate 256 (0 : UInt8)),0)).bind fun j7=>some j7
theorem K6 (w0 : World) (p0 : (Vector UInt8 256)) (r : (Vector UInt8 256)) (hF : WF p0 = some r) :
  Calls Try.prog 146 [(Value.agg (enc p0).toArray)].toArray w0 (fun en w'=>∃ v,en = .returned v ∧ (v = (Value.agg (enc r).toArray) ∧ Kept (Old w0) w0 w')):=by
 refine ZJ (n:=18) Try.func146 rfl rfl (nbl rfl) rfl ?_
 intro a hE
 have hM:=M.start w0
 unfold WF at hF
 refine Zd (Z3 (cs:=enc p0) hE hM Za ld rfl rfl fun b1 w a hM hE=>Zu hE hM Za ld YC fun b3 w a hM hE=>Zf (Zd (Z7 (parts:=[]) (vs:=[]) (cs:=enc (Vector.replicate 256 (0 : UInt8))) hE Za ld rfl rfl YC rfl ty5 ZZ fun a hE=>Zu hE hM Za ld YC fun b5 w a hM hE=>Zi (seg:=enc (Vector.replicate 256 (0 : UInt8))) (cs':=enc (Vector.replicate 256 (0 : UInt8))) hE hM Za rfl rfl rfl YC (Flat.len _) (zle flq) (Flat.cell _) (Zg flq) fun w a hM hE=>Zf (wp_seq (Zd (Zj (cs:=enc p0) hE Za ld rfl YC rfl (hM.rawAt (pre:=[_,_])) (Flat.len _) fun a hE=>Zc hE Za ld rfl fun a hE=>Zf ?_))))))
 obtain ⟨j7,hl8,hF9⟩:=bind_some hF
 refine Z0 (fun a w=>Env 18 a [(2,(ptr b3 0)),(3,(ptr b5 0))] ∧ M (Old w0) w0 w [raw b5 (enc j7),raw b3 (enc (Vector.replicate 256 (0 : UInt8)))]) ?_ ?_
 ·skip
  refine wp_block ?_
  have hM:=M.fst (l:=[_,_]) ((hM.pull (pre:=[_])).pull (pre:=[_]))
  refine ZV (fun (s10 : (Vector UInt8 256) × Int) a w=>Env 18 a [(2,(ptr b3 0)),(3,(ptr b5 0)),(7,(Value.agg (enc p0).toArray)),(8,vI s10.2)] ∧ M (Old w0) w0 w [raw b5 (enc s10.1),raw b3 (enc (Vector.replicate 256 (0 : UInt8)))]) hl8 ⟨hE.sub ⟨rfl,rfl,rfl,rfl,trivial⟩,hM⟩ ?_
  rintro s10 a w ⟨hE,hM⟩ o13 hs11 hx12
  unfold Xs at hs11
  refine Zd (Zm hE Za ld rfl rfl rfl fun a hE=>Zf (wp_seq ?_))
  refine Zv hE rfl ?_ ?_
  ·intro hb14
   have hs11:=ZB hs11 hb14
   refine wp_skip (ZG (wp_seq (wp_block (Zd (Zc hE Za ld rfl ?_))))); intro a hE
   obtain ⟨x15,hi17,hs11⟩:=bvx hs11
   refine Ts hE Za ld rfl rfl Try.underlying54 ty5 rfl rfl hi17 rfl fun a hE=>Ze hE Za ld rfl fun a hE=>Ze hE Za ld rfl fun a hE=>Zf (wp_region_lit (Zc hE Za ld rfl fun a hE=>Zc hE Za ld rfl fun a hE=>Yg hE Za ld rfl Try.underlying3 Try.underlying5 ?_)); intro a hE
   rw [Z6] at hE
   obtain ⟨x19,hi18,hs11⟩:=bvx hs11
   refine Zh hE Za ld rfl rfl Try.underlying54 ty5 hi18.1 fun a hE=>Zi (seg:=[(vB (ZE s10.2))]) (cs':=enc (s10.1.setIfInBounds ((bI x15)).toNat (ZE s10.2))) hE hM Za rfl rfl rfl ty5 rfl (ZN (v:=s10.1) (x:=ZE s10.2) hi18.1) (Flat.cell (ZE s10.2 : UInt8)) (ZD (v:=s10.1) (x:=ZE s10.2) hi18.1) fun w a hM hE=>Zk (Yj (ZG (wp_region_lit (Zm hE Za ld rfl rfl rfl fun a hE=>Zc hE Za ld rfl fun a hE=>Zk (Zn ?_)))))
   exact ⟨_,(ois hs11),hE.sub ⟨rfl,rfl,rfl,rfl,trivial⟩,hM⟩
  ·intro hb14
   have hs11:=ZA hs11 hb14
   refine wp_exit (Zs (Zs (Yz ?_)))
   have ht21:=hx12 _ (ois hs11)
   subst ht21
   refine Zn ?_
   exact ⟨hE.sub ⟨rfl,rfl,trivial⟩,hM⟩
 ·skip
  rintro a w ⟨hE,hM⟩
  refine ZG (Zd (Zj (cs:=enc j7) hE Za ld rfl YC rfl (hM.rawAt (pre:=[])) (Flat.len _) ?_)); intro a hE
  have hM:=hM.pull (pre:=[_])
  refine Zi (seg:=enc j7) (cs':=enc j7) hE hM Za rfl rfl rfl YC (Flat.len _) (zle flq) (Flat.cell _) (Zg flq) fun w a hM hE=>Zf ?_
  have hr:=Option.some.inj hF9
  subst hr
  have hq22 : ZY Try.prog _ _ (.cell 2 54) _:=ZM hE rfl YC rfl (hM.rawAt (pre:=[])) (Flat.len _) rfl
  have hM:=M.fst (l:=[]) hM
  exact wp_ret (ZK hE rfl hq22 ⟨_,rfl,rfl,hM.kept⟩)
def YR (p0 : (Vector UInt8 16)) (s10 : (Vector UInt8 16) × Int) : Option (Fl ((Vector UInt8 16) × Int) (Vector UInt8 16)) :=
 if (decide (s10.2 < 16)) = true then ((ZI p0 s10.2).bind fun x15=>(ZI s10.1 (bI x15)).bind fun x19=>some (Fl.nx ((s10.1.setIfInBounds ((bI x15)).toNat (ZE s10.2)),wr (s10.2 + 1)))) else (some (Fl.ex s10.1))
def XA (p0 : (Vector UInt8 16)) : Option ((Vector UInt8 16)) :=
 (ZQ (YR p0) ((Vector.replicate 16 (0 : UInt8)),0)).bind fun j7=>some j7
theorem Q0 (w0 : World) (p0 : (Vector UInt8 16)) (r : (Vector UInt8 16)) (hF : XA p0 = some r) :
  Calls Try.prog 147 [(Value.agg (enc p0).toArray)].toArray w0 (fun en w'=>∃ v,en = .returned v ∧ (v = (Value.agg (enc r).toArray) ∧ Kept (Old w0) w0 w')):=by
 refine ZJ (n:=18) Try.func147 rfl rfl (nbl rfl) rfl ?_
 intro a hE
 have hM:=M.start w0
 unfold XA at hF
 refine Zd (Z3 (cs:=enc p0) hE hM Za ld rfl rfl fun b1 w a hM hE=>Zu hE hM Za ld UY fun b3 w a hM hE=>Zf (Zd (Z7 (parts:=[]) (vs:=[]) (cs:=enc (Vector.replicate 16 (0 : UInt8))) hE Za ld rfl rfl UY rfl ty5 ZZ fun a hE=>Zu hE hM Za ld UY fun b5 w a hM hE=>Zi (seg:=enc (Vector.replicate 16 (0 : UInt8))) (cs':=enc (Vector.replicate 16 (0 : UInt8))) hE hM Za rfl rfl rfl UY (Flat.len _) (zle flq) (Flat.cell _) (Zg flq) fun w a hM hE=>Zf (wp_seq (Zd (Zj (cs:=enc p0) hE Za ld rfl UY rfl (hM.rawAt (pre:=[_,_])) (Flat.len _) fun a hE=>Zc hE Za ld rfl fun a hE=>Zf ?_))))))
 obtain ⟨j7,hl8,hF9⟩:=bind_some hF
 refine Z0 (fun a w=>Env 18 a [(2,(ptr b3 0)),(3,(ptr b5 0))] ∧ M (Old w0) w0 w [raw b5 (enc j7),raw b3 (enc (Vector.replicate 16 (0 : UInt8)))]) ?_ ?_
 ·skip
  refine wp_block ?_
  have hM:=M.fst (l:=[_,_]) ((hM.pull (pre:=[_])).pull (pre:=[_]))
  refine ZV (fun (s10 : (Vector UInt8 16) × Int) a w=>Env 18 a [(2,(ptr b3 0)),(3,(ptr b5 0)),(7,(Value.agg (enc p0).toArray)),(8,vI s10.2)] ∧ M (Old w0) w0 w [raw b5 (enc s10.1),raw b3 (enc (Vector.replicate 16 (0 : UInt8)))]) hl8 ⟨hE.sub ⟨rfl,rfl,rfl,rfl,trivial⟩,hM⟩ ?_
  rintro s10 a w ⟨hE,hM⟩ o13 hs11 hx12
  unfold YR at hs11
  refine Zd (Zm hE Za ld rfl rfl rfl fun a hE=>Zf (wp_seq ?_))
  refine Zv hE rfl ?_ ?_
  ·intro hb14
   have hs11:=ZB hs11 hb14
   refine wp_skip (ZG (wp_seq (wp_block (Zd (Zc hE Za ld rfl ?_))))); intro a hE
   obtain ⟨x15,hi17,hs11⟩:=bvx hs11
   refine Ts hE Za ld rfl rfl Try.underlying59 ty5 rfl rfl hi17 rfl fun a hE=>Ze hE Za ld rfl fun a hE=>Ze hE Za ld rfl fun a hE=>Zf (wp_region_lit (Zc hE Za ld rfl fun a hE=>Zc hE Za ld rfl fun a hE=>Yg hE Za ld rfl Try.underlying3 Try.underlying5 ?_)); intro a hE
   rw [Z6] at hE
   obtain ⟨x19,hi18,hs11⟩:=bvx hs11
   refine Zh hE Za ld rfl rfl Try.underlying59 ty5 hi18.1 fun a hE=>Zi (seg:=[(vB (ZE s10.2))]) (cs':=enc (s10.1.setIfInBounds ((bI x15)).toNat (ZE s10.2))) hE hM Za rfl rfl rfl ty5 rfl (ZN (v:=s10.1) (x:=ZE s10.2) hi18.1) (Flat.cell (ZE s10.2 : UInt8)) (ZD (v:=s10.1) (x:=ZE s10.2) hi18.1) fun w a hM hE=>Zk (Yj (ZG (wp_region_lit (Zm hE Za ld rfl rfl rfl fun a hE=>Zc hE Za ld rfl fun a hE=>Zk (Zn ?_)))))
   exact ⟨_,(ois hs11),hE.sub ⟨rfl,rfl,rfl,rfl,trivial⟩,hM⟩
  ·intro hb14
   have hs11:=ZA hs11 hb14
   refine wp_exit (Zs (Zs (Yz ?_)))
   have ht21:=hx12 _ (ois hs11)
   subst ht21
   refine Zn ?_
   exact ⟨hE.sub ⟨rfl,rfl,trivial⟩,hM⟩
 ·skip
  rintro a w ⟨hE,hM⟩
  refine ZG (Zd (Zj (cs:=enc j7) hE Za ld rfl UY rfl (hM.rawAt (pre:=[])) (Flat.len _) ?_)); intro a hE
  have hM:=hM.pull (pre:=[_])
  refine Zi (seg:=enc j7) (cs':=enc j7) hE hM Za rfl rfl rfl UY (Flat.len _) (zle flq) (Flat.cell _) (Zg flq) fun w a hM hE=>Zf ?_
  have hr:=Option.some.inj hF9
  subst hr
  have hq22 : ZY Try.prog _ _ (.cell 2 59) _:=ZM hE rfl UY rfl (hM.rawAt (pre:=[])) (Flat.len _) rfl
  have hM:=M.fst (l:=[]) hM
  exact wp_ret (ZK hE rfl hq22 ⟨_,rfl,rfl,hM.kept⟩)
def WD (s8 : (Vector (Vector (Vector UInt8 256) 4) 4) × Int) (s19 : (Vector (Vector (Vector UInt8 256) 4) 4) × Int) (s30 : (Vector (Vector (Vector UInt8 256) 4) 4) × Int) (r35 : UInt8) (s40 : (Vector (Vector (Vector UInt8 256) 4) 4) × Int) : Option (Fl ((Vector (Vector (Vector UInt8 256) 4) 4) × Int) (Vector (Vector (Vector UInt8 256) 4) 4)) :=
 if (decide (s40.2 < s30.2)) = true then ((ZI s40.1 s8.2).bind fun x47=>(ZI x47 s19.2).bind fun x50=>(ZI x50 s40.2).bind fun x53=>(ZI s40.1 s8.2).bind fun x56=>(ZI x56 s19.2).bind fun x59=>(ZI x59 (orI s30.2 s40.2)).bind fun x62=>some (Fl.nx ((s40.1.setIfInBounds (s8.2).toNat (x56.setIfInBounds (s19.2).toNat (x59.setIfInBounds ((orI s30.2 s40.2)).toNat (r35 ^^^ x53)))),wr (s40.2 + 1)))) else (some (Fl.ex s40.1))
def WA (p0 : Int) (s8 : (Vector (Vector (Vector UInt8 256) 4) 4) × Int) (s19 : (Vector (Vector (Vector UInt8 256) 4) 4) × Int) (x24 : UInt8) (s30 : (Vector (Vector (Vector UInt8 256) 4) 4) × Int) : Option (Fl ((Vector (Vector (Vector UInt8 256) 4) 4) × Int) (Vector (Vector (Vector UInt8 256) 4) 4)) :=
 if (decide (s30.2 < 256)) = true then ((Yc p0 x24 (ZE s30.2)).bind fun r35=>(ZQ (WD s8 s19 s30 r35) (s30.1,0)).bind fun j37=>some (Fl.nx (j37,wr (s30.2 * 2)))) else (some (Fl.ex s30.1))
def Wz (p0 : Int) (s8 : (Vector (Vector (Vector UInt8 256) 4) 4) × Int) (x14 : (Vector UInt8 4)) (s19 : (Vector (Vector (Vector UInt8 256) 4) 4) × Int) : Option (Fl ((Vector (Vector (Vector UInt8 256) 4) 4) × Int) (Vector (Vector (Vector UInt8 256) 4) 4)) :=
 if (decide (s19.2 < 4)) = true then ((ZI x14 s19.2).bind fun x24=>(ZQ (WA p0 s8 s19 x24) (s19.1,1)).bind fun j27=>some (Fl.nx (j27,wr (s19.2 + 1)))) else (some (Fl.ex s19.1))
def Wx (p0 : Int) (p1 : (Vector (Vector UInt8 4) 4)) (s8 : (Vector (Vector (Vector UInt8 256) 4) 4) × Int) : Option (Fl ((Vector (Vector (Vector UInt8 256) 4) 4) × Int) (Vector (Vector (Vector UInt8 256) 4) 4)) :=
 if (decide (s8.2 < 4)) = true then ((ZI p1 s8.2).bind fun x14=>(ZQ (Wz p0 s8 x14) (s8.1,0)).bind fun j16=>some (Fl.nx (j16,wr (s8.2 + 1)))) else (some (Fl.ex s8.1))
def WY (p0 : Int) (p1 : (Vector (Vector UInt8 4) 4)) : Option ((Ref (Vector (Vector (Vector UInt8 256) 4) 4))) :=
 (ZQ (Wx p0 p1) ((Vector.replicate 4 (Vector.replicate 4 (Vector.replicate 256 (0 : UInt8)))),0)).bind fun j5=>some (⟨j5⟩ : (Ref (Vector (Vector (Vector UInt8 256) 4) 4)))
theorem QX (w0 : World) (p0 : Int) (p1 : (Vector (Vector UInt8 4) 4)) (r : (Ref (Vector (Vector (Vector UInt8 256) 4) 4))) (hF : WY p0 p1 = some r) :
  Calls Try.prog 148 [vI p0,(Value.agg (enc p1).toArray)].toArray w0 (fun en w'=>∃ v,en = .returned v ∧ (∃ (y1 : Value),v = y1 ∧ Fr w0 w' [own NoB (r : (Ref (Vector (Vector (Vector UInt8 256) 4) 4))) [y1]] ∧ Kept (Old w0) w0 w')):=by
 refine ZJ (n:=62) Try.func148 rfl rfl (nbl rfl) rfl ?_
 intro a hE
 have hM:=M.start w0
 unfold WY at hF
 refine Zd (Z3 (cs:=enc p1) hE hM Za ld rfl rfl fun b1 w a hM hE=>Ze hE Za ld rfl fun a hE=>Zf (Zd (Z7 (parts:=[]) (vs:=[]) (cs:=enc (Vector.replicate 4 (Vector.replicate 4 (Vector.replicate 256 (0 : UInt8))))) hE Za ld rfl rfl ty231 rfl Bq ZZ fun a hE=>Z3 (cs:=enc (Vector.replicate 4 (Vector.replicate 4 (Vector.replicate 256 (0 : UInt8))))) hE hM Za ld rfl rfl fun b3 w a hM hE=>Ze hE Za ld rfl fun a hE=>Zf (wp_seq (Zd (Zc hE Za ld rfl fun a hE=>Zf ?_))))))
 obtain ⟨j5,hl6,hF7⟩:=bind_some hF
 refine Z0 (fun a w=>Env 62 a [(5,(ptr b3 0))] ∧ M (Old w0) w0 w [raw b3 (enc j5)]) ?_ ?_
 ·skip
  refine wp_block ?_
  refine ZV (fun (s8 : (Vector (Vector (Vector UInt8 256) 4) 4) × Int) a w=>Env 62 a [(0,vI p0),(3,(ptr b1 0)),(5,(ptr b3 0)),(14,vI s8.2)] ∧ M (Old w0) w0 w [raw b3 (enc s8.1),raw b1 (enc p1)]) hl6 ⟨hE.sub ⟨rfl,rfl,rfl,rfl,trivial⟩,hM⟩ ?_
  rintro s8 a w ⟨hE,hM⟩ o11 hs9 hx10
  unfold Wx at hs9
  refine Zd (Zm hE Za ld rfl rfl rfl fun a hE=>Zf (wp_seq ?_))
  refine Zv hE rfl ?_ ?_
  ·intro hb12
   have hs9:=ZB hs9 hb12
   refine wp_skip (ZG (wp_seq (wp_block (Zd (Zc hE Za ld rfl fun a hE=>Ze hE Za ld rfl fun a hE=>Zf (Zd (Zc hE Za ld rfl ?_))))))); intro a hE
   obtain ⟨x14,hi13,hs9⟩:=bvx hs9
   refine Zh hE Za ld rfl rfl Try.underlying57 Yr hi13.1 fun a hE=>Zj (cs:=enc x14) hE Za ld rfl Yr rfl (At.vec (hM.rawAt (pre:=[_])) hi13.2) (Flat.len _) fun a hE=>Zc hE Za ld rfl fun a hE=>Zf ?_
   obtain ⟨j16,hl17,hF18⟩:=bind_some hs9
   refine Z0 (fun a w=>Env 62 a [(0,vI p0),(3,(ptr b1 0)),(5,(ptr b3 0)),(14,vI s8.2)] ∧ M (Old w0) w0 w [raw b3 (enc j16),raw b1 (enc p1)]) ?_ ?_
   ·skip
    refine wp_block ?_
    refine ZV (fun (s19 : (Vector (Vector (Vector UInt8 256) 4) 4) × Int) a w=>Env 62 a [(0,vI p0),(3,(ptr b1 0)),(5,(ptr b3 0)),(6,vI s8.2),(14,vI s8.2),(19,(Value.agg (enc x14).toArray)),(20,vI s19.2)] ∧ M (Old w0) w0 w [raw b3 (enc s19.1),raw b1 (enc p1)]) hl17 ⟨hE.sub ⟨rfl,rfl,rfl,rfl,rfl,rfl,rfl,trivial⟩,hM⟩ ?_
    rintro s19 a w ⟨hE,hM⟩ o22 hs20 hx21
    unfold Wz at hs20
    refine Zd (Zm hE Za ld rfl rfl rfl fun a hE=>Zf (wp_seq ?_))
    refine Zv hE rfl ?_ ?_
    ·intro hb23
     have hs20:=ZB hs20 hb23
     refine wp_skip (ZG (wp_seq (wp_block (Zd (Zc hE Za ld rfl ?_))))); intro a hE
     obtain ⟨x24,hi26,hs20⟩:=bvx hs20
     refine Ts hE Za ld rfl rfl Try.underlying55 ty5 rfl rfl hi26 rfl fun a hE=>Ze hE Za ld rfl fun a hE=>Ze hE Za ld rfl fun a hE=>Zf (Zd (Ze hE Za ld rfl fun a hE=>Zf ?_))
     obtain ⟨j27,hl28,hF29⟩:=bind_some hs20
     refine Z0 (fun a w=>Env 62 a [(0,vI p0),(3,(ptr b1 0)),(5,(ptr b3 0)),(6,vI s8.2),(14,vI s8.2),(19,(Value.agg (enc x14).toArray)),(20,vI s19.2)] ∧ M (Old w0) w0 w [raw b3 (enc j27),raw b1 (enc p1)]) ?_ ?_
     ·skip
      refine wp_block ?_
      refine ZV (fun (s30 : (Vector (Vector (Vector UInt8 256) 4) 4) × Int) a w=>Env 62 a [(0,vI p0),(3,(ptr b1 0)),(5,(ptr b3 0)),(6,vI s8.2),(7,vI s19.2),(8,vB x24),(9,vI s30.2),(14,vI s8.2),(19,(Value.agg (enc x14).toArray)),(20,vI s19.2)] ∧ M (Old w0) w0 w [raw b3 (enc s30.1),raw b1 (enc p1)]) hl28 ⟨hE.sub ⟨rfl,rfl,rfl,rfl,rfl,rfl,rfl,rfl,rfl,rfl,trivial⟩,hM⟩ ?_
      rintro s30 a w ⟨hE,hM⟩ o33 hs31 hx32
      unfold WA at hs31
      refine wp_seq (Zd (Zc hE Za ld rfl fun a hE=>Zm hE Za ld rfl rfl rfl fun a hE=>Zf ?_))
      refine Zv hE rfl ?_ ?_
      ·intro hb34
       have hs31:=ZB hs31 hb34
       refine wp_skip (ZG (wp_seq (wp_block (Zd (Zc hE Za ld rfl fun a hE=>Zc hE Za ld rfl fun a hE=>Zc hE Za ld rfl fun a hE=>Yg hE Za ld rfl Try.underlying3 Try.underlying5 ?_))))); intro a hE
       rw [Z6] at hE
       obtain ⟨r35,e36,hs31⟩:=bind_some hs31
       refine Zo hE Za ld rfl Hl (YK _ p0 x24 (ZE s30.2) r35 e36) ?_
       rintro v w a ⟨rfl,hK⟩ hE
       have hM:=hM.keep hK
       refine Ze hE Za ld rfl fun a hE=>Zf (Zd (Zc hE Za ld rfl fun a hE=>Zc hE Za ld rfl fun a hE=>Zf ?_))
       obtain ⟨j37,hl38,hF39⟩:=bind_some hs31
       refine Z0 (fun a w=>Env 62 a [(0,vI p0),(3,(ptr b1 0)),(5,(ptr b3 0)),(6,vI s8.2),(7,vI s19.2),(8,vB x24),(9,vI s30.2),(14,vI s8.2),(19,(Value.agg (enc x14).toArray)),(20,vI s19.2)] ∧ M (Old w0) w0 w [raw b3 (enc j37),raw b1 (enc p1)]) ?_ ?_
       ·skip
        refine wp_block ?_
        refine ZV (fun (s40 : (Vector (Vector (Vector UInt8 256) 4) 4) × Int) a w=>Env 62 a [(0,vI p0),(3,(ptr b1 0)),(5,(ptr b3 0)),(6,vI s8.2),(7,vI s19.2),(8,vB x24),(9,vI s30.2),(10,vB r35),(14,vI s8.2),(19,(Value.agg (enc x14).toArray)),(20,vI s19.2),(33,vI s30.2),(34,vI s40.2)] ∧ M (Old w0) w0 w [raw b3 (enc s40.1),raw b1 (enc p1)]) hl38 ⟨hE.sub ⟨rfl,rfl,rfl,rfl,rfl,rfl,rfl,rfl,rfl,rfl,rfl,rfl,rfl,trivial⟩,hM⟩ ?_
        rintro s40 a w ⟨hE,hM⟩ o43 hs41 hx42
        unfold WD at hs41
        refine Zd (Zm hE Za ld rfl rfl rfl fun a hE=>Zf (wp_seq ?_))
        refine Zv hE rfl ?_ ?_
        ·intro hb44
         have hs41:=ZB hs41 hb44
         refine wp_skip (ZG (wp_seq (wp_block (Zd (Zc hE Za ld rfl fun a hE=>Ze hE Za ld rfl fun a hE=>Zf ?_)))))
         obtain ⟨x47,hi46,hs41⟩:=bvx hs41
         obtain ⟨x50,hi49,hs41⟩:=bvx hs41
         obtain ⟨x53,hi52,hs41⟩:=bvx hs41
         obtain ⟨x56,hi55,hs41⟩:=bvx hs41
         obtain ⟨x59,hi58,hs41⟩:=bvx hs41
         obtain ⟨x62,hi61,hs41⟩:=bvx hs41
         refine Yw (n:=62) (hd:=[_,_,_,_,_,_,_,_,_,_,_,_,_,_,_,_,_,_,_,_,_]) (tl:=[_]) YS rfl rfl [37,38,39,40,41,42,43,44,45,46,47,48,49,50,51,52,53,54,55,56,57] (by decide) (fun w=>M (Old w0) w0 w [raw b3 (enc s40.1),raw b1 (enc p1)]) (fun j=>([fun v _=>v = (ptr b3 0),fun v _=>v = (vI s8.2),fun v _=>v = (vI s19.2),fun v _=>v = (vI s30.2),fun v _=>v = (vI s40.2),fun v _=>v = (vI (orI s30.2 s40.2)),fun v _=>v = (vB r35),fun v _=>v = (ptr b3 0),fun v _=>v = (vI s8.2),fun v _=>v = (vI s19.2),fun v _=>v = (vI s40.2),fun v _=>v = (ptr b3 0),fun v _=>v = (ptr b3 (0 + (s8.2).toNat * 1024)),fun v _=>v = (ptr b3 (0 + (s8.2).toNat * 1024 + (s19.2).toNat * 256)),fun v _=>v = (ptr b3 (0 + (s8.2).toNat * 1024 + (s19.2).toNat * 256 + (s40.2).toNat * 1)),fun v _=>v = (vB x53),fun v _=>v = (vB (r35 ^^^ x53)),fun v _=>v = (ptr b3 0),fun v _=>v = (ptr b3 (0 + (s8.2).toNat * 1024)),fun v _=>v = (ptr b3 (0 + (s8.2).toNat * 1024 + (s19.2).toNat * 256)),fun v _=>v = (ptr b3 (0 + (s8.2).toNat * 1024 + (s19.2).toNat * 256 + ((orI s30.2 s40.2)).toNat * 1))] : List (Value → World → Prop)).getD j (fun _ _=>True)) (fun _ _ h hk=>h.keep hk) (gup (Zp (Zp (Zp (Zp (Zp (Zp (Zp (Zp (Zp (Zp (Zp (Zp (Zp (Zp (Zp (Zp (Zp (Zp (Zp (Zp (Zp Vq)))))))))))))))))))))) hE hM.drew (ZS (Zb ?_ (Zb ?_ (Zb ?_ (Zb ?_ (Zb ?_ (Zb ?_ (Zb ?_ (Zb ?_ (Zb ?_ (Zb ?_ (Zb ?_ (Zb ?_ (Zb ?_ (Zb ?_ (Zb ?_ (Zb ?_ (Zb ?_ (Zb ?_ (Zb ?_ (Zb ?_ (Zb ?_ ZL)))))))))))))))))))))) ?_
         ·exact fun a w ux45 hE hM hp=>Zc hE Za ld rfl fun a hE=>⟨Kept.refl _ _,_,_,rfl,hE,rfl⟩
         ·exact fun a w ux45 hE hM hp=>Zc hE Za ld rfl fun a hE=>⟨Kept.refl _ _,_,_,rfl,hE,rfl⟩
         ·exact fun a w ux45 hE hM hp=>Zc hE Za ld rfl fun a hE=>⟨Kept.refl _ _,_,_,rfl,hE,rfl⟩
         ·exact fun a w ux45 hE hM hp=>Zc hE Za ld rfl fun a hE=>⟨Kept.refl _ _,_,_,rfl,hE,rfl⟩
         ·exact fun a w ux45 hE hM hp=>Zc hE Za ld rfl fun a hE=>⟨Kept.refl _ _,_,_,rfl,hE,rfl⟩
         ·intro a w ux45 hE hM hp
          have f3 : ux45 3 = (vI s30.2):=hp 0 _ rfl rfl
          have f4 : ux45 4 = (vI s40.2):=hp 1 _ rfl rfl
          exact Zm hE Za ld (lk rfl f3) (lk rfl f4) rfl fun a hE=>⟨Kept.refl _ _,_,_,rfl,hE,rfl⟩
         ·exact fun a w ux45 hE hM hp=>Zc hE Za ld rfl fun a hE=>⟨Kept.refl _ _,_,_,rfl,hE,rfl⟩
         ·exact fun a w ux45 hE hM hp=>Zc hE Za ld rfl fun a hE=>⟨Kept.refl _ _,_,_,rfl,hE,rfl⟩
         ·exact fun a w ux45 hE hM hp=>Zc hE Za ld rfl fun a hE=>⟨Kept.refl _ _,_,_,rfl,hE,rfl⟩
         ·exact fun a w ux45 hE hM hp=>Zc hE Za ld rfl fun a hE=>⟨Kept.refl _ _,_,_,rfl,hE,rfl⟩
         ·exact fun a w ux45 hE hM hp=>Zc hE Za ld rfl fun a hE=>⟨Kept.refl _ _,_,_,rfl,hE,rfl⟩
         ·intro a w ux45 hE hM hp
          have f7 : ux45 7 = (ptr b3 0):=hp 0 _ rfl rfl
          exact Z9 hE Za ld (lk rfl f7) fun a hE=>⟨Kept.refl _ _,_,_,rfl,hE,rfl⟩
         ·intro a w ux45 hE hM hp
          have f8 : ux45 8 = (vI s8.2):=hp 1 _ rfl rfl
          have f11 : ux45 11 = (ptr b3 0):=hp 0 _ rfl rfl
          exact Zh hE Za ld (lk rfl f11) (lk rfl f8) Try.underlying231 Bq hi46.1 fun a hE=>⟨Kept.refl _ _,_,_,rfl,hE,rfl⟩
         ·intro a w ux45 hE hM hp
          have f9 : ux45 9 = (vI s19.2):=hp 1 _ rfl rfl
          have f12 : ux45 12 = (ptr b3 (0 + (s8.2).toNat * 1024)):=hp 0 _ rfl rfl
          exact Zh hE Za ld (lk rfl f12) (lk rfl f9) Try.underlying229 ty53 hi49.1 fun a hE=>⟨Kept.refl _ _,_,_,rfl,hE,rfl⟩
         ·intro a w ux45 hE hM hp
          have f10 : ux45 10 = (vI s40.2):=hp 1 _ rfl rfl
          have f13 : ux45 13 = (ptr b3 (0 + (s8.2).toNat * 1024 + (s19.2).toNat * 256)):=hp 0 _ rfl rfl
          exact Zh hE Za ld (lk rfl f13) (lk rfl f10) Try.underlying53 ty5 hi52.1 fun a hE=>⟨Kept.refl _ _,_,_,rfl,hE,rfl⟩
         ·intro a w ux45 hE hM hp
          have f14 : ux45 14 = (ptr b3 (0 + (s8.2).toNat * 1024 + (s19.2).toNat * 256 + (s40.2).toNat * 1)):=hp 0 _ rfl rfl
          exact ZF (v:=(vB x53)) hE Za ld (lk rfl f14) ty5 rfl (At.vec (At.vec (At.vec (hM.rawAt (pre:=[])) hi46.2) hi49.2) hi52.2) fun a hE=>⟨Kept.refl _ _,_,_,rfl,hE,rfl⟩
         ·intro a w ux45 hE hM hp
          have f6 : ux45 6 = (vB r35):=hp 0 _ rfl rfl
          have f15 : ux45 15 = (vB x53):=hp 1 _ rfl rfl
          exact Zm hE Za ld (lk rfl f6) (lk rfl f15) (Ug r35 x53) fun a hE=>⟨Kept.refl _ _,_,_,rfl,hE,rfl⟩
         ·intro a w ux45 hE hM hp
          have f0 : ux45 0 = (ptr b3 0):=hp 0 _ rfl rfl
          exact Z9 hE Za ld (lk rfl f0) fun a hE=>⟨Kept.refl _ _,_,_,rfl,hE,rfl⟩
         ·intro a w ux45 hE hM hp
          have f1 : ux45 1 = (vI s8.2):=hp 1 _ rfl rfl
          have f17 : ux45 17 = (ptr b3 0):=hp 0 _ rfl rfl
          exact Zh hE Za ld (lk rfl f17) (lk rfl f1) Try.underlying231 Bq hi55.1 fun a hE=>⟨Kept.refl _ _,_,_,rfl,hE,rfl⟩
         ·intro a w ux45 hE hM hp
          have f2 : ux45 2 = (vI s19.2):=hp 1 _ rfl rfl
          have f18 : ux45 18 = (ptr b3 (0 + (s8.2).toNat * 1024)):=hp 0 _ rfl rfl
          exact Zh hE Za ld (lk rfl f18) (lk rfl f2) Try.underlying229 ty53 hi58.1 fun a hE=>⟨Kept.refl _ _,_,_,rfl,hE,rfl⟩
         ·intro a w ux45 hE hM hp
          have f5 : ux45 5 = (vI (orI s30.2 s40.2)):=hp 1 _ rfl rfl
          have f19 : ux45 19 = (ptr b3 (0 + (s8.2).toNat * 1024 + (s19.2).toNat * 256)):=hp 0 _ rfl rfl
          exact Zh hE Za ld (lk rfl f19) (lk rfl f5) Try.underlying53 ty5 hi61.1 fun a hE=>⟨Kept.refl _ _,_,_,rfl,hE,rfl⟩
         ·intro a w ux45 hE hM hg
          have hE:=hE.sub (e':=[(53,(vB (r35 ^^^ x53))),(57,(ptr b3 (0 + (s8.2).toNat * 1024 + (s19.2).toNat * 256 + ((orI s30.2 s40.2)).toNat * 1))),(0,vI p0),(3,(ptr b1 0)),(5,(ptr b3 0)),(6,vI s8.2),(7,vI s19.2),(8,vB x24),(9,vI s30.2),(10,vB r35),(11,vI s40.2),(14,vI s8.2),(19,(Value.agg (enc x14).toArray)),(20,vI s19.2),(33,vI s30.2),(34,vI s40.2),(35,(vT (decide (s40.2 < s30.2)))),(36,vI s40.2)]) ⟨lk rfl (hg 16 (by decide)),lk rfl (hg 20 (by decide)),rfl,rfl,rfl,rfl,rfl,rfl,rfl,rfl,rfl,rfl,rfl,rfl,rfl,rfl,rfl,rfl,trivial⟩
          refine Zi (seg:=[(vB (r35 ^^^ x53))]) (cs':=enc (s40.1.setIfInBounds (s8.2).toNat (x56.setIfInBounds (s19.2).toNat (x59.setIfInBounds ((orI s30.2 s40.2)).toNat (r35 ^^^ x53))))) hE hM Za rfl rfl rfl ty5 rfl (We (o':=(s19.2).toNat * 256 + (0 + ((orI s30.2 s40.2)).toNat * 1)) hi55 (We (o':=0 + ((orI s30.2 s40.2)).toNat * 1) hi58 (ZN (v:=x59) (x:=r35 ^^^ x53) hi61.1) (by first | omega | (simp only [Flat.n] <;> omega))) (by first | omega | (simp only [Flat.n] <;> omega))) (Flat.cell (r35 ^^^ x53 : UInt8)) (YX (o':=(s19.2).toNat * 256 + (0 + ((orI s30.2 s40.2)).toNat * 1)) hi55 (We (o':=0 + ((orI s30.2 s40.2)).toNat * 1) hi58 (ZN (v:=x59) (x:=r35 ^^^ x53) hi61.1) (by first | omega | (simp only [Flat.n] <;> omega))) (YX (o':=0 + ((orI s30.2 s40.2)).toNat * 1) hi58 (ZN (v:=x59) (x:=r35 ^^^ x53) hi61.1) (ZD (v:=x59) (x:=r35 ^^^ x53) hi61.1) (by first | omega | (simp only [Flat.n] <;> omega))) (by first | omega | (simp only [Flat.n] <;> omega))) fun w a hM hE=>Zk (Yj (ZG (wp_region_lit (Zm hE Za ld rfl rfl rfl fun a hE=>Zc hE Za ld rfl fun a hE=>Zk (Zn ?_)))))
          exact ⟨_,(ois hs41),hE.sub ⟨rfl,rfl,rfl,rfl,rfl,rfl,rfl,rfl,rfl,rfl,rfl,rfl,rfl,trivial⟩,hM⟩
        ·intro hb44
         have hs41:=ZA hs41 hb44
         refine wp_exit (Zs (Zs (Yz ?_)))
         have ht64:=hx42 _ (ois hs41)
         subst ht64
         refine Zn ?_
         exact ⟨hE.sub ⟨rfl,rfl,rfl,rfl,rfl,rfl,rfl,rfl,rfl,rfl,trivial⟩,hM⟩
       ·skip
        rintro a w ⟨hE,hM⟩
        refine Yj (ZG (wp_region_lit (Zc hE Za ld rfl fun a hE=>Zm hE Za ld rfl rfl rfl fun a hE=>Ze hE Za ld rfl fun a hE=>Zk (Zn ?_))))
        exact ⟨_,(ois hF39),hE.sub ⟨rfl,rfl,rfl,rfl,rfl,rfl,rfl,rfl,rfl,rfl,trivial⟩,hM⟩
      ·intro hb34
       have hs31:=ZA hs31 hb34
       refine wp_exit (Zs (Zs (Yz ?_)))
       have ht65:=hx32 _ (ois hs31)
       subst ht65
       refine Zn ?_
       exact ⟨hE.sub ⟨rfl,rfl,rfl,rfl,rfl,rfl,rfl,trivial⟩,hM⟩
     ·skip
      rintro a w ⟨hE,hM⟩
      refine Yj (ZG (wp_region_lit (Zm hE Za ld rfl rfl rfl fun a hE=>Zc hE Za ld rfl fun a hE=>Zk (Zn ?_))))
      exact ⟨_,(ois hF29),hE.sub ⟨rfl,rfl,rfl,rfl,rfl,rfl,rfl,trivial⟩,hM⟩
    ·intro hb23
     have hs20:=ZA hs20 hb23
     refine wp_exit (Zs (Zs (Yz ?_)))
     have ht66:=hx21 _ (ois hs20)
     subst ht66
     refine Zn ?_
     exact ⟨hE.sub ⟨rfl,rfl,rfl,rfl,trivial⟩,hM⟩
   ·skip
    rintro a w ⟨hE,hM⟩
    refine Yj (ZG (wp_region_lit (Zm hE Za ld rfl rfl rfl fun a hE=>Zc hE Za ld rfl fun a hE=>Zk (Zn ?_))))
    exact ⟨_,(ois hF18),hE.sub ⟨rfl,rfl,rfl,rfl,trivial⟩,hM⟩
  ·intro hb12
   have hs9:=ZA hs9 hb12
   refine wp_exit (Zs (Zs (Yz ?_)))
   have ht67:=hx10 _ (ois hs9)
   subst ht67
   refine Zn ?_
   have hM:=M.fst (l:=[_]) hM
   exact ⟨hE.sub ⟨rfl,trivial⟩,hM⟩
 ·skip
  rintro a w ⟨hE,hM⟩
  refine ZG (Zd (Zc hE Za ld rfl fun a hE=>Ze hE Za ld rfl fun a hE=>Zf ?_))
  have hM:=M.toRefF (x:=j5) hM
  have hr:=Option.some.inj hF7
  subst hr
  exact wp_ret (ZK hE rfl (Zx hE rfl) ⟨_,rfl,(ptr b3 0),rfl,hM.outF (y8 KR),hM.kept⟩)
def XR (p0 : GCipher) : Option ((Ref Gengine)) :=
 (YV p0.Field p0.Mix).bind fun r3=>(WF p0.Box).bind fun r8=>(XA p0.Places).bind fun r10=>(WY p0.Field p0.Mix).bind fun r12=>(WY p0.Field r3.2).bind fun r15=>some (⟨(⟨p0.Box,r8,p0.Places,r10,r12,r15,p0.Rounds⟩ : Gengine)⟩ : (Ref Gengine))
theorem Ti (w0 : World) (p0 : GCipher) (r : (Ref Gengine)) (hF : XR p0 = some r) :
  Calls Try.prog 87 [(Value.agg (enc p0).toArray)].toArray w0 (fun en w'=>∃ v,en = .returned v ∧ (∃ (y1 : Value),v = y1 ∧ Fr w0 w' [own NoB (r : (Ref Gengine)) [y1]] ∧ Kept (Old w0) w0 w')):=by
 refine ZJ (n:=36) Try.func87 rfl rfl (nbl rfl) rfl ?_
 intro a hE
 have hM:=M.start w0
 unfold XR at hF
 refine Zd (Z3 (cs:=cat [[vI p0.Field],enc p0.Box,enc p0.Mix,enc p0.Places,[vI p0.Rounds]]) hE hM Za ld rfl rfl fun b1 w a hM hE=>Ze hE Za ld rfl fun a hE=>Zf (Zd (Zr hE Za ld rfl (Tg) fun a hE=>ZF (v:=(vI p0.Field)) hE Za ld rfl ty2 rfl (At.cat (pre:=[]) (hM.rawAt (pre:=[])) cl0) fun a hE=>Zr hE Za ld rfl (TF) fun a hE=>Zj (cs:=enc p0.Mix) hE Za ld rfl Y7 rfl (At.cat (pre:=[[vI p0.Field],enc p0.Box]) (hM.rawAt (pre:=[])) (cl1 (n:=1) (m:=256) rfl (cl1 (n:=256) (m:=0) (Flat.len _) cl0))) (Flat.len _) ?_))); intro a hE
 obtain ⟨r3,e4,hF⟩:=bind_some hF
 refine Zo hE Za ld rfl cb145 (TJ _ p0.Field p0.Mix r3 e4) ?_
 rintro v w a ⟨rfl,hK⟩ hE
 have hM:=hM.keep hK
 refine Zc hE Za ld rfl fun a hE=>Zy hE Za ld rfl rfl fun a hE=>Zy hE Za ld rfl rfl fun a hE=>Zu hE hM Za ld Y7 fun b5 w a hM hE=>Ze hE Za ld rfl fun a hE=>Zi (seg:=enc r3.2) (cs':=enc r3.2) hE hM Za rfl rfl rfl Y7 (Flat.len _) (zle flq) (Flat.cell _) (Zg flq) fun w a hM hE=>Zf (wp_seq ?_)
 obtain ⟨r8,e9,hF⟩:=bind_some hF
 obtain ⟨r10,e11,hF⟩:=bind_some hF
 obtain ⟨r12,e13,hF⟩:=bind_some hF
 obtain ⟨r15,e16,hF⟩:=bind_some hF
 refine zY (n:=36) (hd:=[_,_,_,_,_,_,_,_,_,_,_,_,_,_,_,_,_,_,_,_,_]) (tl:=[_,_,_]) (its:=[raw b5 (enc r3.2),raw b1 (cat [[vI p0.Field],enc p0.Box,enc p0.Mix,enc p0.Places,[vI p0.Rounds]])]) YS rfl rfl [13,14,15,16,17,18,19,20,21,22,23,24,25,26,27,28,29,30,31,32,33] (by decide) [(14,fun v=>own NoB (r12 : (Ref (Vector (Vector (Vector UInt8 256) 4) 4))) [v]),(18,fun v=>own NoB (r15 : (Ref (Vector (Vector (Vector UInt8 256) 4) 4))) [v])] rfl (fun j=>([fun v=>v = (ptr b1 (0 + 1)),fun v=>v = (Value.agg (enc p0.Box).toArray),fun v=>v = (ptr b1 (0 + 1)),fun v=>v = (Value.agg (enc p0.Box).toArray),fun v=>v = (Value.agg (enc r8).toArray),fun v=>v = (ptr b1 (0 + 273)),fun v=>v = (Value.agg (enc p0.Places).toArray),fun v=>v = (ptr b1 (0 + 273)),fun v=>v = (Value.agg (enc p0.Places).toArray),fun v=>v = (Value.agg (enc r10).toArray),fun v=>v = (ptr b1 (0 + 0)),fun v=>v = (vI p0.Field),fun v=>v = (ptr b1 (0 + 257)),fun v=>v = (Value.agg (enc p0.Mix).toArray),fun v=>True,fun v=>v = (ptr b1 (0 + 0)),fun v=>v = (vI p0.Field),fun v=>v = (Value.agg (enc r3.2).toArray),fun v=>True,fun v=>v = (ptr b1 (0 + 289)),fun v=>v = (vI p0.Rounds)] : List (Value → Prop)).getD j (fun _=>True)) hE hM.drew (ZS (Zb ?_ (Zb ?_ (Zb ?_ (Zb ?_ (Zb ?_ (Zb ?_ (Zb ?_ (Zb ?_ (Zb ?_ (Zb ?_ (Zb ?_ (Zb ?_ (Zb ?_ (Zb ?_ (Zb ?_ (Zb ?_ (Zb ?_ (Zb ?_ (Zb ?_ (Zb ?_ (Zb ?_ ZL)))))))))))))))))))))) ?_
 ·intro a w ux7 D hE hM hD hp
  have hM0:=hM
  exact Zr hE Za ld rfl (TX) fun a hE=>⟨_,_,rfl,hE,rfl,hM0.optKeep rfl⟩
 ·intro a w ux7 D hE hM hD hp
  have f0 : ux7 0 = (ptr b1 (0 + 1)):=(hp 0 _ rfl rfl).2
  have hM0:=hM
  have hM : M (Old w0) w0 w [raw b5 (enc r3.2),raw b1 (cat [[vI p0.Field],enc p0.Box,enc p0.Mix,enc p0.Places,[vI p0.Rounds]]),opt (D 14) (own NoB (r12 : (Ref (Vector (Vector (Vector UInt8 256) 4) 4))) [(ux7 14)]),opt (D 18) (own NoB (r15 : (Ref (Vector (Vector (Vector UInt8 256) 4) 4))) [(ux7 18)])]:=hM
  exact Zj (cs:=enc p0.Box) hE Za ld (lk rfl f0) YC rfl (At.cat (pre:=[[vI p0.Field]]) (hM.rawAt (pre:=[_])) (cl1 (n:=1) (m:=0) rfl cl0)) (Flat.len _) fun a hE=>⟨_,_,rfl,hE,rfl,hM0.optKeep rfl⟩
 ·intro a w ux7 D hE hM hD hp
  have hM0:=hM
  exact Zr hE Za ld rfl (TX) fun a hE=>⟨_,_,rfl,hE,rfl,hM0.optKeep rfl⟩
 ·intro a w ux7 D hE hM hD hp
  have f2 : ux7 2 = (ptr b1 (0 + 1)):=(hp 0 _ rfl rfl).2
  have hM0:=hM
  have hM : M (Old w0) w0 w [raw b5 (enc r3.2),raw b1 (cat [[vI p0.Field],enc p0.Box,enc p0.Mix,enc p0.Places,[vI p0.Rounds]]),opt (D 14) (own NoB (r12 : (Ref (Vector (Vector (Vector UInt8 256) 4) 4))) [(ux7 14)]),opt (D 18) (own NoB (r15 : (Ref (Vector (Vector (Vector UInt8 256) 4) 4))) [(ux7 18)])]:=hM
  exact Zj (cs:=enc p0.Box) hE Za ld (lk rfl f2) YC rfl (At.cat (pre:=[[vI p0.Field]]) (hM.rawAt (pre:=[_])) (cl1 (n:=1) (m:=0) rfl cl0)) (Flat.len _) fun a hE=>⟨_,_,rfl,hE,rfl,hM0.optKeep rfl⟩
 ·intro a w ux7 D hE hM hD hp
  have f3 : ux7 3 = (Value.agg (enc p0.Box).toArray):=(hp 0 _ rfl rfl).2
  have hM0:=hM
  refine Zo hE Za ld (Z1 (ZX (lk rfl f3) Xg)) cb146 (K6 _ p0.Box r8 e9) ?_
  rintro v w a ⟨rfl,hK⟩ hE
  exact ⟨_,_,rfl,hE,rfl,(hM0.keep hK).optKeep rfl⟩
 ·intro a w ux7 D hE hM hD hp
  have hM0:=hM
  exact Zr hE Za ld rfl (U6) fun a hE=>⟨_,_,rfl,hE,rfl,hM0.optKeep rfl⟩
 ·intro a w ux7 D hE hM hD hp
  have f5 : ux7 5 = (ptr b1 (0 + 273)):=(hp 0 _ rfl rfl).2
  have hM0:=hM
  have hM : M (Old w0) w0 w [raw b5 (enc r3.2),raw b1 (cat [[vI p0.Field],enc p0.Box,enc p0.Mix,enc p0.Places,[vI p0.Rounds]]),opt (D 14) (own NoB (r12 : (Ref (Vector (Vector (Vector UInt8 256) 4) 4))) [(ux7 14)]),opt (D 18) (own NoB (r15 : (Ref (Vector (Vector (Vector UInt8 256) 4) 4))) [(ux7 18)])]:=hM
  exact Zj (cs:=enc p0.Places) hE Za ld (lk rfl f5) UY rfl (At.cat (pre:=[[vI p0.Field],enc p0.Box,enc p0.Mix]) (hM.rawAt (pre:=[_])) (cl1 (n:=1) (m:=272) rfl (cl1 (n:=256) (m:=16) (Flat.len _) (cl1 (n:=16) (m:=0) (Flat.len _) cl0)))) (Flat.len _) fun a hE=>⟨_,_,rfl,hE,rfl,hM0.optKeep rfl⟩
 ·intro a w ux7 D hE hM hD hp
  have hM0:=hM
  exact Zr hE Za ld rfl (U6) fun a hE=>⟨_,_,rfl,hE,rfl,hM0.optKeep rfl⟩
 ·intro a w ux7 D hE hM hD hp
  have f7 : ux7 7 = (ptr b1 (0 + 273)):=(hp 0 _ rfl rfl).2
  have hM0:=hM
  have hM : M (Old w0) w0 w [raw b5 (enc r3.2),raw b1 (cat [[vI p0.Field],enc p0.Box,enc p0.Mix,enc p0.Places,[vI p0.Rounds]]),opt (D 14) (own NoB (r12 : (Ref (Vector (Vector (Vector UInt8 256) 4) 4))) [(ux7 14)]),opt (D 18) (own NoB (r15 : (Ref (Vector (Vector (Vector UInt8 256) 4) 4))) [(ux7 18)])]:=hM
  exact Zj (cs:=enc p0.Places) hE Za ld (lk rfl f7) UY rfl (At.cat (pre:=[[vI p0.Field],enc p0.Box,enc p0.Mix]) (hM.rawAt (pre:=[_])) (cl1 (n:=1) (m:=272) rfl (cl1 (n:=256) (m:=16) (Flat.len _) (cl1 (n:=16) (m:=0) (Flat.len _) cl0)))) (Flat.len _) fun a hE=>⟨_,_,rfl,hE,rfl,hM0.optKeep rfl⟩
 ·intro a w ux7 D hE hM hD hp
  have f8 : ux7 8 = (Value.agg (enc p0.Places).toArray):=(hp 0 _ rfl rfl).2
  have hM0:=hM
  refine Zo hE Za ld (Z1 (ZX (lk rfl f8) Xg)) cb147 (Q0 _ p0.Places r10 e11) ?_
  rintro v w a ⟨rfl,hK⟩ hE
  exact ⟨_,_,rfl,hE,rfl,(hM0.keep hK).optKeep rfl⟩
 ·intro a w ux7 D hE hM hD hp
  have hM0:=hM
  exact Zr hE Za ld rfl (Tg) fun a hE=>⟨_,_,rfl,hE,rfl,hM0.optKeep rfl⟩
 ·intro a w ux7 D hE hM hD hp
  have f10 : ux7 10 = (ptr b1 (0 + 0)):=(hp 0 _ rfl rfl).2
  have hM0:=hM
  have hM : M (Old w0) w0 w [raw b5 (enc r3.2),raw b1 (cat [[vI p0.Field],enc p0.Box,enc p0.Mix,enc p0.Places,[vI p0.Rounds]]),opt (D 14) (own NoB (r12 : (Ref (Vector (Vector (Vector UInt8 256) 4) 4))) [(ux7 14)]),opt (D 18) (own NoB (r15 : (Ref (Vector (Vector (Vector UInt8 256) 4) 4))) [(ux7 18)])]:=hM
  exact ZF (v:=(vI p0.Field)) hE Za ld (lk rfl f10) ty2 rfl (At.cat (pre:=[]) (hM.rawAt (pre:=[_])) cl0) fun a hE=>⟨_,_,rfl,hE,rfl,hM0.optKeep rfl⟩
 ·intro a w ux7 D hE hM hD hp
  have hM0:=hM
  exact Zr hE Za ld rfl (TF) fun a hE=>⟨_,_,rfl,hE,rfl,hM0.optKeep rfl⟩
 ·intro a w ux7 D hE hM hD hp
  have f12 : ux7 12 = (ptr b1 (0 + 257)):=(hp 0 _ rfl rfl).2
  have hM0:=hM
  have hM : M (Old w0) w0 w [raw b5 (enc r3.2),raw b1 (cat [[vI p0.Field],enc p0.Box,enc p0.Mix,enc p0.Places,[vI p0.Rounds]]),opt (D 14) (own NoB (r12 : (Ref (Vector (Vector (Vector UInt8 256) 4) 4))) [(ux7 14)]),opt (D 18) (own NoB (r15 : (Ref (Vector (Vector (Vector UInt8 256) 4) 4))) [(ux7 18)])]:=hM
  exact Zj (cs:=enc p0.Mix) hE Za ld (lk rfl f12) Y7 rfl (At.cat (pre:=[[vI p0.Field],enc p0.Box]) (hM.rawAt (pre:=[_])) (cl1 (n:=1) (m:=256) rfl (cl1 (n:=256) (m:=0) (Flat.len _) cl0))) (Flat.len _) fun a hE=>⟨_,_,rfl,hE,rfl,hM0.optKeep rfl⟩
 ·intro a w ux7 D hE hM hD hp
  have f11 : ux7 11 = (vI p0.Field):=(hp 0 _ rfl rfl).2
  have f13 : ux7 13 = (Value.agg (enc p0.Mix).toArray):=(hp 1 _ rfl rfl).2
  have hM0:=hM
  have hM : M (Old w0) w0 w [raw b5 (enc r3.2),raw b1 (cat [[vI p0.Field],enc p0.Box,enc p0.Mix,enc p0.Places,[vI p0.Rounds]]),opt (D 14) (own NoB (r12 : (Ref (Vector (Vector (Vector UInt8 256) 4) 4))) [(ux7 14)]),opt (D 18) (own NoB (r15 : (Ref (Vector (Vector (Vector UInt8 256) 4) 4))) [(ux7 18)])]:=hM
  refine Zo hE Za ld (Z1 (ZX (lk rfl f11) (ZX (lk rfl f13) Xg))) cb148 (QX _ p0.Field p0.Mix r12 e13) ?_
  rintro _ w a ⟨_,rfl,hFr,hK⟩ hE
  have hM:=hM0.add hK hFr
  exact ⟨_,_,rfl,hE,trivial,M.optFill (mk1:=[]) (mk2:=[_]) (f:=(fun v=>own NoB (r12 : (Ref (Vector (Vector (Vector UInt8 256) 4) 4))) [v])) hM rfl hD⟩
 ·intro a w ux7 D hE hM hD hp
  have hM0:=hM
  exact Zr hE Za ld rfl (Tg) fun a hE=>⟨_,_,rfl,hE,rfl,hM0.optKeep rfl⟩
 ·intro a w ux7 D hE hM hD hp
  have f15 : ux7 15 = (ptr b1 (0 + 0)):=(hp 0 _ rfl rfl).2
  have hM0:=hM
  have hM : M (Old w0) w0 w [raw b5 (enc r3.2),raw b1 (cat [[vI p0.Field],enc p0.Box,enc p0.Mix,enc p0.Places,[vI p0.Rounds]]),opt (D 14) (own NoB (r12 : (Ref (Vector (Vector (Vector UInt8 256) 4) 4))) [(ux7 14)]),opt (D 18) (own NoB (r15 : (Ref (Vector (Vector (Vector UInt8 256) 4) 4))) [(ux7 18)])]:=hM
  exact ZF (v:=(vI p0.Field)) hE Za ld (lk rfl f15) ty2 rfl (At.cat (pre:=[]) (hM.rawAt (pre:=[_])) cl0) fun a hE=>⟨_,_,rfl,hE,rfl,hM0.optKeep rfl⟩
 ·intro a w ux7 D hE hM hD hp
  have hM0:=hM
  have hM : M (Old w0) w0 w [raw b5 (enc r3.2),raw b1 (cat [[vI p0.Field],enc p0.Box,enc p0.Mix,enc p0.Places,[vI p0.Rounds]]),opt (D 14) (own NoB (r12 : (Ref (Vector (Vector (Vector UInt8 256) 4) 4))) [(ux7 14)]),opt (D 18) (own NoB (r15 : (Ref (Vector (Vector (Vector UInt8 256) 4) 4))) [(ux7 18)])]:=hM
  exact Zj (cs:=enc r3.2) hE Za ld rfl Y7 rfl (hM.rawAt (pre:=[])) (Flat.len _) fun a hE=>⟨_,_,rfl,hE,rfl,hM0.optKeep rfl⟩
 ·intro a w ux7 D hE hM hD hp
  have f16 : ux7 16 = (vI p0.Field):=(hp 0 _ rfl rfl).2
  have f17 : ux7 17 = (Value.agg (enc r3.2).toArray):=(hp 1 _ rfl rfl).2
  have hM0:=hM
  have hM : M (Old w0) w0 w [raw b5 (enc r3.2),raw b1 (cat [[vI p0.Field],enc p0.Box,enc p0.Mix,enc p0.Places,[vI p0.Rounds]]),opt (D 14) (own NoB (r12 : (Ref (Vector (Vector (Vector UInt8 256) 4) 4))) [(ux7 14)]),opt (D 18) (own NoB (r15 : (Ref (Vector (Vector (Vector UInt8 256) 4) 4))) [(ux7 18)])]:=hM
  refine Zo hE Za ld (Z1 (ZX (lk rfl f16) (ZX (lk rfl f17) Xg))) cb148 (QX _ p0.Field r3.2 r15 e16) ?_
  rintro _ w a ⟨_,rfl,hFr,hK⟩ hE
  have hM:=hM0.add hK hFr
  exact ⟨_,_,rfl,hE,trivial,M.optFill (mk1:=[_]) (mk2:=[]) (f:=(fun v=>own NoB (r15 : (Ref (Vector (Vector (Vector UInt8 256) 4) 4))) [v])) hM rfl hD⟩
 ·intro a w ux7 D hE hM hD hp
  have hM0:=hM
  exact Zr hE Za ld rfl (UL) fun a hE=>⟨_,_,rfl,hE,rfl,hM0.optKeep rfl⟩
 ·intro a w ux7 D hE hM hD hp
  have f19 : ux7 19 = (ptr b1 (0 + 289)):=(hp 0 _ rfl rfl).2
  have hM0:=hM
  have hM : M (Old w0) w0 w [raw b5 (enc r3.2),raw b1 (cat [[vI p0.Field],enc p0.Box,enc p0.Mix,enc p0.Places,[vI p0.Rounds]]),opt (D 14) (own NoB (r12 : (Ref (Vector (Vector (Vector UInt8 256) 4) 4))) [(ux7 14)]),opt (D 18) (own NoB (r15 : (Ref (Vector (Vector (Vector UInt8 256) 4) 4))) [(ux7 18)])]:=hM
  exact ZF (v:=(vI p0.Rounds)) hE Za ld (lk rfl f19) ty2 rfl (At.cat (pre:=[[vI p0.Field],enc p0.Box,enc p0.Mix,enc p0.Places]) (hM.rawAt (pre:=[_])) (cl1 (n:=1) (m:=288) rfl (cl1 (n:=256) (m:=32) (Flat.len _) (cl1 (n:=16) (m:=16) (Flat.len _) (cl1 (n:=16) (m:=0) (Flat.len _) cl0))))) fun a hE=>⟨_,_,rfl,hE,rfl,hM0.optKeep rfl⟩
 ·intro a w ux7 hE hM hg
  have f1 : ux7 1 = (Value.agg (enc p0.Box).toArray):=hg 1 (by decide)
  have hM : M (Old w0) w0 w [raw b5 (enc r3.2),raw b1 (cat [[vI p0.Field],enc p0.Box,enc p0.Mix,enc p0.Places,[vI p0.Rounds]]),own NoB (r12 : (Ref (Vector (Vector (Vector UInt8 256) 4) 4))) [(ux7 14)],own NoB (r15 : (Ref (Vector (Vector (Vector UInt8 256) 4) 4))) [(ux7 18)]]:=hM
  have hE:=hE.sub (e':=[(14,(Value.agg (enc p0.Box).toArray)),(17,(Value.agg (enc r8).toArray)),(19,(Value.agg (enc p0.Places).toArray)),(22,(Value.agg (enc r10).toArray)),(27,(ux7 14)),(31,(ux7 18)),(33,vI p0.Rounds),(2,(Value.pointer none))]) ⟨lk rfl f1,lk rfl (hg 4 (by decide)),lk rfl (hg 6 (by decide)),lk rfl (hg 9 (by decide)),rfl,rfl,lk rfl (hg 20 (by decide)),rfl,trivial⟩
  refine Te (parts:=[(0,.tmp 14),(1,.tmp 17),(2,.tmp 19),(3,.tmp 22),(4,.tmp 27),(5,.tmp 31),(6,.tmp 33)]) (vs:=[(0,(Value.agg (enc p0.Box).toArray)),(1,(Value.agg (enc r8).toArray)),(2,(Value.agg (enc p0.Places).toArray)),(3,(Value.agg (enc r10).toArray)),(4,(ux7 14)),(5,(ux7 18)),(6,vI p0.Rounds)]) (cs:=cat [enc p0.Box,enc r8,enc p0.Places,enc r10,[(ux7 14)],[(ux7 18)],[vI p0.Rounds]]) hE Za ld rfl rfl Hj pl196 (Xd (pre:=[]) (seg:=enc (Vector.replicate 256 (0 : UInt8))) (seg':=enc p0.Box) (post:=[enc (Vector.replicate 256 (0 : UInt8)),enc (Vector.replicate 16 (0 : UInt8)),enc (Vector.replicate 16 (0 : UInt8)),[(Value.pointer none)],[(Value.pointer none)],[vI 0]]) rfl cl0 (Flat.len _) (Flat.len _) rfl (Xd (pre:=[enc p0.Box]) (seg:=enc (Vector.replicate 256 (0 : UInt8))) (seg':=enc r8) (post:=[enc (Vector.replicate 16 (0 : UInt8)),enc (Vector.replicate 16 (0 : UInt8)),[(Value.pointer none)],[(Value.pointer none)],[vI 0]]) rfl (cl1 (n:=256) (m:=0) (Flat.len _) cl0) (Flat.len _) (Flat.len _) rfl (Xd (pre:=[enc p0.Box,enc r8]) (seg:=enc (Vector.replicate 16 (0 : UInt8))) (seg':=enc p0.Places) (post:=[enc (Vector.replicate 16 (0 : UInt8)),[(Value.pointer none)],[(Value.pointer none)],[vI 0]]) rfl (cl1 (n:=256) (m:=256) (Flat.len _) (cl1 (n:=256) (m:=0) (Flat.len _) cl0)) (Flat.len _) (Flat.len _) rfl (Xd (pre:=[enc p0.Box,enc r8,enc p0.Places]) (seg:=enc (Vector.replicate 16 (0 : UInt8))) (seg':=enc r10) (post:=[[(Value.pointer none)],[(Value.pointer none)],[vI 0]]) rfl (cl1 (n:=256) (m:=272) (Flat.len _) (cl1 (n:=256) (m:=16) (Flat.len _) (cl1 (n:=16) (m:=0) (Flat.len _) cl0))) (Flat.len _) (Flat.len _) rfl (Xd (pre:=[enc p0.Box,enc r8,enc p0.Places,enc r10]) (seg:=[(Value.pointer none)]) (seg':=[(ux7 14)]) (post:=[[(Value.pointer none)],[vI 0]]) rfl (cl1 (n:=256) (m:=288) (Flat.len _) (cl1 (n:=256) (m:=32) (Flat.len _) (cl1 (n:=16) (m:=16) (Flat.len _) (cl1 (n:=16) (m:=0) (Flat.len _) cl0)))) rfl rfl (J7 (hM.ro (pre:=[_,_]) noB)) (Xd (pre:=[enc p0.Box,enc r8,enc p0.Places,enc r10,[(ux7 14)]]) (seg:=[(Value.pointer none)]) (seg':=[(ux7 18)]) (post:=[[vI 0]]) rfl (cl1 (n:=256) (m:=289) (Flat.len _) (cl1 (n:=256) (m:=33) (Flat.len _) (cl1 (n:=16) (m:=17) (Flat.len _) (cl1 (n:=16) (m:=1) (Flat.len _) (cl1 (n:=1) (m:=0) rfl cl0))))) rfl rfl (J7 (hM.ro (pre:=[_,_,_]) noB)) (Xd (pre:=[enc p0.Box,enc r8,enc p0.Places,enc r10,[(ux7 14)],[(ux7 18)]]) (seg:=[vI 0]) (seg':=[vI p0.Rounds]) (post:=[]) rfl (cl1 (n:=256) (m:=290) (Flat.len _) (cl1 (n:=256) (m:=34) (Flat.len _) (cl1 (n:=16) (m:=18) (Flat.len _) (cl1 (n:=16) (m:=2) (Flat.len _) (cl1 (n:=1) (m:=1) rfl (cl1 (n:=1) (m:=0) rfl cl0)))))) rfl rfl rfl Qj))))))) fun a hE=>Z3 (cs:=cat [enc p0.Box,enc r8,enc p0.Places,enc r10,[(ux7 14)],[(ux7 18)],[vI p0.Rounds]]) hE hM Za ld rfl rfl fun b18 w a hM hE=>Ze hE Za ld rfl fun a hE=>Zk (ZG ?_)
  have hM:=(hM.pull (pre:=[_,_,_,_])).pull (pre:=[_,_,_,_])
  have hM:=((hM.pack2 (it:=own NoB (⟨p0.Box,r8,p0.Places,r10,r12,r15,p0.Rounds⟩ : Gengine) (cat [enc p0.Box,enc r8,enc p0.Places,enc r10,[(ux7 14)],[(ux7 18)],[vI p0.Rounds]])) (Jx noB) (fun f0 f1 q0 q1=>(zA q0 q1 (by simp)))).pull (pre:=[_])).pull (pre:=[_])
  have hM:=M.toRef (hM.pull (pre:=[_])) noB
  have hr:=Option.some.inj hF
  subst hr
  have hM:=M.fst (l:=[_]) hM
  exact wp_ret (ZK hE rfl (Zx hE rfl) ⟨_,rfl,(ptr b18 0),rfl,hM.outF (y8 KR),hM.kept⟩)
def Y2 (p0 : Int) : Option ((Vector UInt8 16)) :=
 some ((Vector.replicate 16 (0 : UInt8)).setIfInBounds 0 (ZE p0))
theorem UK (w0 : World) (p0 : Int) (r : (Vector UInt8 16)) (hF : Y2 p0 = some r) :
  Calls Try.prog 89 [vI p0].toArray w0 (fun en w'=>∃ v,en = .returned v ∧ (v = (Value.agg (enc r).toArray) ∧ Kept (Old w0) w0 w')):=by
 refine ZJ (n:=6) Try.func89 rfl rfl (nbl rfl) rfl ?_
 intro a hE
 have hM:=M.start w0
 unfold Y2 at hF
 refine Zd (Zu hE hM Za ld Zw fun b1 w a hM hE=>Zf (Zd (Zc hE Za ld rfl fun a hE=>Yg hE Za ld rfl Try.underlying2 Try.underlying5 ?_))); intro a hE
 rw [Z6] at hE
 refine Z7 (parts:=[(0,.tmp 4)]) (vs:=[(0,(vB (ZE p0)))]) (cs:=enc ((Vector.replicate 16 (0 : UInt8)).setIfInBounds 0 (ZE p0))) hE Za ld rfl rfl Zw rfl ty5 (Ye (v:=(Vector.replicate 16 (0 : UInt8))) (x:=ZE p0) rfl (by decide) rfl ZZ) fun a hE=>Zi (seg:=enc ((Vector.replicate 16 (0 : UInt8)).setIfInBounds 0 (ZE p0))) (cs':=enc ((Vector.replicate 16 (0 : UInt8)).setIfInBounds 0 (ZE p0))) hE hM Za rfl rfl rfl Zw (Flat.len _) (zle flq) (Flat.cell _) (Zg flq) fun w a hM hE=>Zf ?_
 have hr:=Option.some.inj hF
 subst hr
 have hq3 : ZY Try.prog _ _ (.cell 2 62) _:=ZM hE rfl Zw rfl (hM.rawAt (pre:=[])) (Flat.len _) rfl
 have hM:=M.fst (l:=[]) hM
 exact wp_ret (ZK hE rfl hq3 ⟨_,rfl,rfl,hM.kept⟩)
def YQ (p0 : (Ref Gengine)) (s35 : (Vector UInt8 16) × Int) : Option (Fl ((Vector UInt8 16) × Int) (Vector UInt8 16)) :=
 if (decide (s35.2 < 16)) = true then ((ZI s35.1 s35.2).bind fun x42=>(ZI s35.1 (wr (s35.2 - 1))).bind fun x45=>(ZI p0.v.box (bI x45)).bind fun x58=>(ZI s35.1 s35.2).bind fun x61=>some (Fl.nx ((s35.1.setIfInBounds (s35.2).toNat (x42 ^^^ x58)),wr (s35.2 + 1)))) else (some (Fl.ex s35.1))
def XD (p0 : (Ref Gengine)) (p1 : (Vector UInt8 16)) (p2 : Int) : Option ((Vector UInt8 16)) :=
 ((ZI p1 (0 : Int)).bind fun x10=>(ZI p1 (15 : Int)).bind fun x13=>(ZI p0.v.box (bI (x13 ^^^ (ZE p2)))).bind fun x26=>(ZI p1 (0 : Int)).bind fun x29=>some (p1.setIfInBounds ((0 : Int)).toNat (x10 ^^^ x26)) : Option ((Vector UInt8 16))).bind fun j5=>(ZQ (YQ p0) (j5,1)).bind fun j32=>some j32
theorem QZ (w0 : World) (p0 : (Ref Gengine)) (v0_1 : Value) (hv0_1 : Ro w0 p0 [v0_1]) (p1 : (Vector UInt8 16)) (p2 : Int) (r : (Vector UInt8 16)) (hF : XD p0 p1 p2 = some r) :
  Calls Try.prog 161 [v0_1,(Value.agg (enc p1).toArray),vI p2].toArray w0 (fun en w'=>∃ v,en = .returned v ∧ (v = (Value.agg (enc r).toArray) ∧ Kept (Old w0) w0 w')):=by
 refine ZJ (n:=41) Try.func161 rfl rfl (nbl rfl) rfl ?_
 intro a hE
 have hM:=M.start w0
 unfold XD at hF
 refine Zd (Z3 (cs:=enc p1) hE hM Za ld rfl rfl fun b1 w a hM hE=>Zu hE hM Za ld Zw fun b3 w a hM hE=>Zf ?_)
 obtain ⟨j5,hl6,hF7⟩:=bind_some hF
 refine ZT (fun a w=>Env 41 a [(0,v0_1),(4,(ptr b1 0)),(6,(ptr b3 0))] ∧ M (Old w0) w0 w [raw b3 (enc (Vector.replicate 16 (0 : UInt8))),raw b1 (enc j5)]) ?_ ?_
 ·skip
  obtain ⟨x10,hi9,hl6⟩:=bvx hl6
  obtain ⟨x13,hi12,hl6⟩:=bvx hl6
  obtain ⟨pb15,ds16,hv17,hx18,hA19,hB20⟩:=Vt hv0_1 -- ^
  obtain ⟨u21,u23,rfl,h22,h24⟩:=VE hx18 -- ^
  obtain ⟨x26,hi25,hl6⟩:=bvx hl6
  obtain ⟨x29,hi28,hl6⟩:=bvx hl6
  refine Yw (n:=41) (hd:=[_,_,_,_,_,_,_,_,_,_,_,_,_,_]) (tl:=[_]) YS rfl rfl [8,9,10,11,12,13,14,15,16,17,18,19,20,21] (by decide) (fun w=>M (Old w0) w0 w [raw b3 (enc (Vector.replicate 16 (0 : UInt8))),raw b1 (enc p1)]) (fun j=>([fun v _=>v = (ptr b1 (0 + ((0 : Int)).toNat * 1)),fun v _=>v = (vB x10),fun v _=>v = v0_1,fun v _=>v = (ptr b1 (0 + ((15 : Int)).toNat * 1)),fun v _=>v = (vB x13),fun v _=>v = (vI p2),fun v _=>v = (vB (ZE p2)),fun v _=>v = (vB (x13 ^^^ (ZE p2))),fun v _=>v = (ptr pb15 0),fun v _=>v = (ptr pb15 (0 + 0)),fun v _=>v = (ptr pb15 (0 + 0 + ((bI (x13 ^^^ (ZE p2)))).toNat * 1)),fun v _=>v = (vB x26),fun v _=>v = (vB (x10 ^^^ x26)),fun v _=>v = (ptr b1 (0 + ((0 : Int)).toNat * 1))] : List (Value → World → Prop)).getD j (fun _ _=>True)) (fun _ _ h hk=>h.keep hk) (gup (Zp (Zp (Zp (Zp (Zp (Zp (Zp (Zp (Zp (Zp (Zp (Zp (Zp (Zp Vq))))))))))))))) hE hM.drew (ZS (Zb ?_ (Zb ?_ (Zb ?_ (Zb ?_ (Zb ?_ (Zb ?_ (Zb ?_ (Zb ?_ (Zb ?_ (Zb ?_ (Zb ?_ (Zb ?_ (Zb ?_ (Zb ?_ ZL))))))))))))))) ?_
  ·exact fun a w ux8 hE hM hp=>Zh hE Za ld rfl rfl Try.underlying62 ty5 hi9.1 fun a hE=>⟨Kept.refl _ _,_,_,rfl,hE,rfl⟩
  ·intro a w ux8 hE hM hp
   have f0 : ux8 0 = (ptr b1 (0 + ((0 : Int)).toNat * 1)):=hp 0 _ rfl rfl
   exact ZF (v:=(vB x10)) hE Za ld (lk rfl f0) ty5 rfl (At.vec (hM.rawAt (pre:=[_])) hi9.2) fun a hE=>⟨Kept.refl _ _,_,_,rfl,hE,rfl⟩
  ·exact fun a w ux8 hE hM hp=>Zc hE Za ld rfl fun a hE=>⟨Kept.refl _ _,_,_,rfl,hE,rfl⟩
  ·exact fun a w ux8 hE hM hp=>Zh hE Za ld rfl rfl Try.underlying62 ty5 hi12.1 fun a hE=>⟨Kept.refl _ _,_,_,rfl,hE,rfl⟩
  ·intro a w ux8 hE hM hp
   have f3 : ux8 3 = (ptr b1 (0 + ((15 : Int)).toNat * 1)):=hp 0 _ rfl rfl
   exact ZF (v:=(vB x13)) hE Za ld (lk rfl f3) ty5 rfl (At.vec (hM.rawAt (pre:=[_])) hi12.2) fun a hE=>⟨Kept.refl _ _,_,_,rfl,hE,rfl⟩
  ·exact fun a w ux8 hE hM hp=>Zc hE Za ld rfl fun a hE=>⟨Kept.refl _ _,_,_,rfl,hE,rfl⟩
  ·intro a w ux8 hE hM hp
   have f5 : ux8 5 = (vI p2):=hp 0 _ rfl rfl
   refine Yg hE Za ld (lk rfl f5) Try.underlying2 Try.underlying5 ?_; intro a hE
   rw [Z6] at hE
   exact ⟨Kept.refl _ _,_,_,rfl,hE,rfl⟩
  ·intro a w ux8 hE hM hp
   have f4 : ux8 4 = (vB x13):=hp 0 _ rfl rfl
   have f6 : ux8 6 = (vB (ZE p2)):=hp 1 _ rfl rfl
   exact Zm hE Za ld (lk rfl f4) (lk rfl f6) (Ug x13 (ZE p2)) fun a hE=>⟨Kept.refl _ _,_,_,rfl,hE,rfl⟩
  ·intro a w ux8 hE hM hp
   have f2 : ux8 2 = v0_1:=hp 0 _ rfl rfl
   exact Z9 hE Za ld (lk (lk rfl f2) hv17) fun a hE=>⟨Kept.refl _ _,_,_,rfl,hE,rfl⟩
  ·intro a w ux8 hE hM hp
   have f8 : ux8 8 = (ptr pb15 0):=hp 0 _ rfl rfl
   exact Zr hE Za ld (lk rfl f8) (Al) fun a hE=>⟨Kept.refl _ _,_,_,rfl,hE,rfl⟩
  ·intro a w ux8 hE hM hp
   have f7 : ux8 7 = (vB (x13 ^^^ (ZE p2))):=hp 1 _ rfl rfl
   have f9 : ux8 9 = (ptr pb15 (0 + 0)):=hp 0 _ rfl rfl
   exact Zh hE Za ld (lk rfl f9) (lk rfl f7) Try.underlying54 ty5 hi25.1 fun a hE=>⟨Kept.refl _ _,_,_,rfl,hE,rfl⟩
  ·intro a w ux8 hE hM hp
   have f10 : ux8 10 = (ptr pb15 (0 + 0 + ((bI (x13 ^^^ (ZE p2)))).toNat * 1)):=hp 0 _ rfl rfl
   exact ZF (v:=(vB x26)) hE Za ld (lk rfl f10) ty5 rfl (At.vec (At.cat (pre:=[]) (hM.atk hA19 hB20) cl0) hi25.2) fun a hE=>⟨Kept.refl _ _,_,_,rfl,hE,rfl⟩
  ·intro a w ux8 hE hM hp
   have f1 : ux8 1 = (vB x10):=hp 0 _ rfl rfl
   have f11 : ux8 11 = (vB x26):=hp 1 _ rfl rfl
   exact Zm hE Za ld (lk rfl f1) (lk rfl f11) (Ug x10 x26) fun a hE=>⟨Kept.refl _ _,_,_,rfl,hE,rfl⟩
  ·exact fun a w ux8 hE hM hp=>Zh hE Za ld rfl rfl Try.underlying62 ty5 hi28.1 fun a hE=>⟨Kept.refl _ _,_,_,rfl,hE,rfl⟩
  ·intro a w ux8 hE hM hg
   have hE:=hE.sub (e':=[(20,(vB (x10 ^^^ x26))),(21,(ptr b1 (0 + ((0 : Int)).toNat * 1))),(0,v0_1),(4,(ptr b1 0)),(6,(ptr b3 0))]) ⟨lk rfl (hg 12 (by decide)),lk rfl (hg 13 (by decide)),rfl,rfl,rfl,trivial⟩
   have hM:=hM.pull (pre:=[_])
   refine Zi (seg:=[(vB (x10 ^^^ x26))]) (cs':=enc (p1.setIfInBounds ((0 : Int)).toNat (x10 ^^^ x26))) hE hM Za rfl rfl rfl ty5 rfl (ZN (v:=p1) (x:=x10 ^^^ x26) hi28.1) (Flat.cell (x10 ^^^ x26 : UInt8)) (ZD (v:=p1) (x:=x10 ^^^ x26) hi28.1) fun w a hM hE=>Zk ?_
   have ht31:=Option.some.inj hl6
   subst ht31
   refine Zn ?_
   have hM:=hM.pull (pre:=[_])
   exact ⟨hE.sub ⟨rfl,rfl,rfl,trivial⟩,hM⟩
 ·skip
  rintro a w ⟨hE,hM⟩
  refine wp_seq (Zd (Ze hE Za ld rfl fun a hE=>Zf ?_))
  obtain ⟨j32,hl33,hF34⟩:=bind_some hF7
  refine Z0 (fun a w=>Env 41 a [(4,(ptr b1 0)),(6,(ptr b3 0))] ∧ M (Old w0) w0 w [raw b3 (enc (Vector.replicate 16 (0 : UInt8))),raw b1 (enc j32)]) ?_ ?_
  ·skip
   refine wp_block ?_
   refine ZV (fun (s35 : (Vector UInt8 16) × Int) a w=>Env 41 a [(0,v0_1),(4,(ptr b1 0)),(6,(ptr b3 0)),(7,vI s35.2)] ∧ M (Old w0) w0 w [raw b3 (enc (Vector.replicate 16 (0 : UInt8))),raw b1 (enc s35.1)]) hl33 ⟨hE.sub ⟨rfl,rfl,rfl,rfl,trivial⟩,hM⟩ ?_
   rintro s35 a w ⟨hE,hM⟩ o38 hs36 hx37
   unfold YQ at hs36
   refine wp_seq (Zd (Zc hE Za ld rfl fun a hE=>Zm hE Za ld rfl rfl rfl fun a hE=>Zf ?_))
   refine Zv hE rfl ?_ ?_
   ·intro hb39
    have hs36:=ZB hs36 hb39
    refine wp_skip (ZG (wp_seq (wp_block ?_)))
    obtain ⟨x42,hi41,hs36⟩:=bvx hs36
    obtain ⟨x45,hi44,hs36⟩:=bvx hs36
    obtain ⟨pb47,ds48,hv49,hx50,hA51,hB52⟩:=Vt hv0_1 -- ^
    obtain ⟨u53,u55,rfl,h54,h56⟩:=VE hx50 -- ^
    obtain ⟨x58,hi57,hs36⟩:=bvx hs36
    obtain ⟨x61,hi60,hs36⟩:=bvx hs36
    refine Yw (n:=41) (hd:=[_,_,_,_,_,_,_,_,_,_,_,_,_,_]) (tl:=[_]) YS rfl rfl [26,27,28,29,30,31,32,33,34,35,36,37,38,39] (by decide) (fun w=>M (Old w0) w0 w [raw b3 (enc (Vector.replicate 16 (0 : UInt8))),raw b1 (enc s35.1)]) (fun j=>([fun v _=>v = (vI s35.2),fun v _=>v = (ptr b1 (0 + (s35.2).toNat * 1)),fun v _=>v = (vB x42),fun v _=>v = v0_1,fun v _=>v = (vI s35.2),fun v _=>v = (vI (wr (s35.2 - 1))),fun v _=>v = (ptr b1 (0 + ((wr (s35.2 - 1))).toNat * 1)),fun v _=>v = (vB x45),fun v _=>v = (ptr pb47 0),fun v _=>v = (ptr pb47 (0 + 0)),fun v _=>v = (ptr pb47 (0 + 0 + ((bI x45)).toNat * 1)),fun v _=>v = (vB x58),fun v _=>v = (vB (x42 ^^^ x58)),fun v _=>v = (ptr b1 (0 + (s35.2).toNat * 1))] : List (Value → World → Prop)).getD j (fun _ _=>True)) (fun _ _ h hk=>h.keep hk) (gup (Zp (Zp (Zp (Zp (Zp (Zp (Zp (Zp (Zp (Zp (Zp (Zp (Zp (Zp Vq))))))))))))))) hE hM.drew (ZS (Zb ?_ (Zb ?_ (Zb ?_ (Zb ?_ (Zb ?_ (Zb ?_ (Zb ?_ (Zb ?_ (Zb ?_ (Zb ?_ (Zb ?_ (Zb ?_ (Zb ?_ (Zb ?_ ZL))))))))))))))) ?_
    ·exact fun a w ux40 hE hM hp=>Zc hE Za ld rfl fun a hE=>⟨Kept.refl _ _,_,_,rfl,hE,rfl⟩
    ·intro a w ux40 hE hM hp
     have f0 : ux40 0 = (vI s35.2):=hp 0 _ rfl rfl
     exact Zh hE Za ld rfl (lk rfl f0) Try.underlying62 ty5 hi41.1 fun a hE=>⟨Kept.refl _ _,_,_,rfl,hE,rfl⟩
    ·intro a w ux40 hE hM hp
     have f1 : ux40 1 = (ptr b1 (0 + (s35.2).toNat * 1)):=hp 0 _ rfl rfl
     exact ZF (v:=(vB x42)) hE Za ld (lk rfl f1) ty5 rfl (At.vec (hM.rawAt (pre:=[_])) hi41.2) fun a hE=>⟨Kept.refl _ _,_,_,rfl,hE,rfl⟩
    ·exact fun a w ux40 hE hM hp=>Zc hE Za ld rfl fun a hE=>⟨Kept.refl _ _,_,_,rfl,hE,rfl⟩
    ·exact fun a w ux40 hE hM hp=>Zc hE Za ld rfl fun a hE=>⟨Kept.refl _ _,_,_,rfl,hE,rfl⟩
    ·intro a w ux40 hE hM hp
     have f4 : ux40 4 = (vI s35.2):=hp 0 _ rfl rfl
     exact Zm hE Za ld (lk rfl f4) rfl rfl fun a hE=>⟨Kept.refl _ _,_,_,rfl,hE,rfl⟩
    ·intro a w ux40 hE hM hp
     have f5 : ux40 5 = (vI (wr (s35.2 - 1))):=hp 0 _ rfl rfl
     exact Zh hE Za ld rfl (lk rfl f5) Try.underlying62 ty5 hi44.1 fun a hE=>⟨Kept.refl _ _,_,_,rfl,hE,rfl⟩
    ·intro a w ux40 hE hM hp
     have f6 : ux40 6 = (ptr b1 (0 + ((wr (s35.2 - 1))).toNat * 1)):=hp 0 _ rfl rfl
     exact ZF (v:=(vB x45)) hE Za ld (lk rfl f6) ty5 rfl (At.vec (hM.rawAt (pre:=[_])) hi44.2) fun a hE=>⟨Kept.refl _ _,_,_,rfl,hE,rfl⟩
    ·intro a w ux40 hE hM hp
     have f3 : ux40 3 = v0_1:=hp 0 _ rfl rfl
     exact Z9 hE Za ld (lk (lk rfl f3) hv49) fun a hE=>⟨Kept.refl _ _,_,_,rfl,hE,rfl⟩
    ·intro a w ux40 hE hM hp
     have f8 : ux40 8 = (ptr pb47 0):=hp 0 _ rfl rfl
     exact Zr hE Za ld (lk rfl f8) (Al) fun a hE=>⟨Kept.refl _ _,_,_,rfl,hE,rfl⟩
    ·intro a w ux40 hE hM hp
     have f7 : ux40 7 = (vB x45):=hp 1 _ rfl rfl
     have f9 : ux40 9 = (ptr pb47 (0 + 0)):=hp 0 _ rfl rfl
     exact Zh hE Za ld (lk rfl f9) (lk rfl f7) Try.underlying54 ty5 hi57.1 fun a hE=>⟨Kept.refl _ _,_,_,rfl,hE,rfl⟩
    ·intro a w ux40 hE hM hp
     have f10 : ux40 10 = (ptr pb47 (0 + 0 + ((bI x45)).toNat * 1)):=hp 0 _ rfl rfl
     exact ZF (v:=(vB x58)) hE Za ld (lk rfl f10) ty5 rfl (At.vec (At.cat (pre:=[]) (hM.atk hA51 hB52) cl0) hi57.2) fun a hE=>⟨Kept.refl _ _,_,_,rfl,hE,rfl⟩
    ·intro a w ux40 hE hM hp
     have f2 : ux40 2 = (vB x42):=hp 0 _ rfl rfl
     have f11 : ux40 11 = (vB x58):=hp 1 _ rfl rfl
     exact Zm hE Za ld (lk rfl f2) (lk rfl f11) (Ug x42 x58) fun a hE=>⟨Kept.refl _ _,_,_,rfl,hE,rfl⟩
    ·intro a w ux40 hE hM hp
     have f0 : ux40 0 = (vI s35.2):=hp 0 _ rfl rfl
     exact Zh hE Za ld rfl (lk rfl f0) Try.underlying62 ty5 hi60.1 fun a hE=>⟨Kept.refl _ _,_,_,rfl,hE,rfl⟩
    ·intro a w ux40 hE hM hg
     have hE:=hE.sub (e':=[(38,(vB (x42 ^^^ x58))),(39,(ptr b1 (0 + (s35.2).toNat * 1))),(0,v0_1),(4,(ptr b1 0)),(6,(ptr b3 0)),(7,vI s35.2),(22,vI s35.2),(23,(vT (decide (s35.2 < 16))))]) ⟨lk rfl (hg 12 (by decide)),lk rfl (hg 13 (by decide)),rfl,rfl,rfl,rfl,rfl,rfl,trivial⟩
     have hM:=hM.pull (pre:=[_])
     refine Zi (seg:=[(vB (x42 ^^^ x58))]) (cs':=enc (s35.1.setIfInBounds (s35.2).toNat (x42 ^^^ x58))) hE hM Za rfl rfl rfl ty5 rfl (ZN (v:=s35.1) (x:=x42 ^^^ x58) hi60.1) (Flat.cell (x42 ^^^ x58 : UInt8)) (ZD (v:=s35.1) (x:=x42 ^^^ x58) hi60.1) fun w a hM hE=>Zk (Yj (ZG (wp_region_lit (Zc hE Za ld rfl fun a hE=>Zm hE Za ld rfl rfl rfl fun a hE=>Ze hE Za ld rfl fun a hE=>Zk (Zn ?_)))))
     have hM:=hM.pull (pre:=[_])
     exact ⟨_,(ois hs36),hE.sub ⟨rfl,rfl,rfl,rfl,trivial⟩,hM⟩
   ·intro hb39
    have hs36:=ZA hs36 hb39
    refine wp_exit (Zs (Zs (Yz ?_)))
    have ht63:=hx37 _ (ois hs36)
    subst ht63
    refine Zn ?_
    exact ⟨hE.sub ⟨rfl,rfl,trivial⟩,hM⟩
  ·skip
   rintro a w ⟨hE,hM⟩
   refine ZG (Zd (Zj (cs:=enc j32) hE Za ld rfl Zw rfl (hM.rawAt (pre:=[_])) (Flat.len _) fun a hE=>Zi (seg:=enc j32) (cs':=enc j32) hE hM Za rfl rfl rfl Zw (Flat.len _) (zle flq) (Flat.cell _) (Zg flq) fun w a hM hE=>Zf ?_))
   have hr:=Option.some.inj hF34
   subst hr
   have hq64 : ZY Try.prog _ _ (.cell 6 62) _:=ZM hE rfl Zw rfl (hM.rawAt (pre:=[])) (Flat.len _) rfl
   have hM:=M.fst (l:=[]) hM
   exact wp_ret (ZK hE rfl hq64 ⟨_,rfl,rfl,hM.kept⟩)
def Xt (p0 : (Ref Gengine)) (p2 : Int) (s10 : (Vector UInt8 16) × (List (Vector UInt8 16)) × Int) : Option (Fl ((Vector UInt8 16) × (List (Vector UInt8 16)) × Int) (List (Vector UInt8 16))) :=
 if (decide (s10.2.2 ≤ p2)) = true then ((XD p0 s10.1 s10.2.2).bind fun r17=>(app 16 s10.2.1 ([r17] : List (Vector UInt8 16))).bind fun l21=>some (Fl.nx (r17,(s10.2.1 ++ ([r17] : List (Vector UInt8 16))),wr (s10.2.2 + 1)))) else (some (Fl.ex s10.2.1))
def Y6 (p0 : (Ref Gengine)) (p1 : (Vector UInt8 16)) (p2 : Int) : Option ((List (Vector UInt8 16))) :=
 (ZQ (Xt p0 p2) (p1,([p1] : List (Vector UInt8 16)),1)).bind fun j5=>some j5
theorem UO (w0 : World) (p0 : (Ref Gengine)) (v0_1 : Value) (hv0_1 : Ro w0 p0 [v0_1]) (p1 : (Vector UInt8 16)) (p2 : Int) (r : (List (Vector UInt8 16))) (hF : Y6 p0 p1 p2 = some r) :
  Calls Try.prog 94 [v0_1,(Value.agg (enc p1).toArray),vI p2].toArray w0 (fun en w'=>∃ v,en = .returned v ∧ (∃ (y1 : Value),v = y1 ∧ Fr w0 w' [osl NoB (r : List (Vector UInt8 16)) y1] ∧ Kept (Old w0) w0 w')):=by
 refine ZJ (n:=25) Try.func94 rfl rfl (nbl rfl) rfl ?_
 intro a hE
 have hM:=M.start w0
 unfold Y6 at hF
 refine Zd (Z3 (cs:=enc p1) hE hM Za ld rfl rfl fun b1 w a hM hE=>Ze hE Za ld rfl fun a hE=>Zf (Zd (Zj (cs:=enc p1) hE Za ld rfl Zw rfl (hM.rawAt (pre:=[])) (Flat.len _) fun a hE=>YM (xs:=[.tmp 9]) (l:=([p1] : List (Vector UInt8 16))) (vs:=[(Value.agg (enc p1).toArray)]) hE hM Za ld rfl rfl Try.underlying136 Zw rfl (by decide) rfl fun u3 w a hM hE=>Ze hE Za ld rfl fun a hE=>Zf (wp_seq (Zd (Ze hE Za ld rfl fun a hE=>Zf ?_))))))
 obtain ⟨j5,hl6,hF7⟩:=bind_some hF
 refine Z0 (fun a w=>∃ (u8 : Value),Env 25 a [(7,u8)] ∧ M (Old w0) w0 w [osl NoB (j5 : List (Vector UInt8 16)) u8]) ?_ ?_
 ·skip
  refine wp_block ?_
  have hM:=hM.pull (pre:=[_])
  refine ZV (fun (s10 : (Vector UInt8 16) × (List (Vector UInt8 16)) × Int) a w=>∃ (u11 : Value),Env 25 a [(0,v0_1),(2,vI p2),(4,(ptr b1 0)),(7,u11),(8,vI s10.2.2)] ∧ M (Old w0) w0 w [raw b1 (enc s10.1),osl NoB (s10.2.1 : List (Vector UInt8 16)) u11]) hl6 ⟨u3,hE.sub ⟨rfl,rfl,rfl,rfl,rfl,trivial⟩,hM⟩ ?_
  rintro s10 a w ⟨u11,hE,hM⟩ o15 hs13 hx14
  unfold Xt at hs13
  refine wp_seq (Zd (Zc hE Za ld rfl fun a hE=>Zc hE Za ld rfl fun a hE=>Zm hE Za ld rfl rfl rfl fun a hE=>Zf ?_))
  refine Zv hE rfl ?_ ?_
  ·intro hb16
   have hs13:=ZB hs13 hb16
   refine wp_skip (ZG (wp_seq (wp_block (Zd (Zc hE Za ld rfl fun a hE=>Zj (cs:=enc s10.1) hE Za ld rfl Zw rfl (hM.rawAt (pre:=[])) (Flat.len _) fun a hE=>Zc hE Za ld rfl ?_))))); intro a hE
   obtain ⟨r17,e18,hs13⟩:=bind_some hs13
   refine Zo hE Za ld rfl cb161 (QZ _ p0 v0_1 (hM.rdo hv0_1) s10.1 s10.2.2 r17 e18) ?_
   rintro v w a ⟨rfl,hK⟩ hE
   have hM:=hM.keep hK
   refine Zi (seg:=enc r17) (cs':=enc r17) hE hM Za rfl rfl rfl Zw (Flat.len _) (zle flq) (Flat.cell _) (Zg flq) fun w a hM hE=>Zf (wp_region_lit (Zc hE Za ld rfl fun a hE=>Zj (cs:=enc r17) hE Za ld rfl Zw rfl (hM.rawAt (pre:=[])) (Flat.len _) fun a hE=>YM (xs:=[.tmp 21]) (l:=([r17] : List (Vector UInt8 16))) (vs:=[(Value.agg (enc r17).toArray)]) hE hM Za ld rfl rfl Try.underlying136 Zw rfl (by decide) rfl ?_)); intro u19 w a hM hE
   obtain ⟨l21,e22,hs13⟩:=bind_some hs13
   obtain ⟨e25,rfl⟩:=T0 e22
   have hM:=hM.pull (pre:=[_,_])
   refine Td hE hM Za ld rfl rfl (hM.sl (pre:=[_]) noB) Try.underlying136 Zw rfl (by decide) e25 fun u23 w a hM hE=>Ze hE Za ld rfl fun a hE=>Zk (Yj (ZG (wp_region_lit (Zc hE Za ld rfl fun a hE=>Zm hE Za ld rfl rfl rfl fun a hE=>Ze hE Za ld rfl fun a hE=>Zk (Zn ?_)))))
   have hM:=M.fst (l:=[_,_]) (hM.pull (pre:=[_,_]))
   exact ⟨_,(ois hs13),u23,hE.sub ⟨rfl,rfl,rfl,rfl,rfl,trivial⟩,hM⟩
  ·intro hb16
   have hs13:=ZA hs13 hb16
   refine wp_exit (Zs (Zs (Yz ?_)))
   have ht26:=hx14 _ (ois hs13)
   subst ht26
   refine Zn ?_
   have hM:=M.fst (l:=[_]) (hM.pull (pre:=[_]))
   exact ⟨u11,hE.sub ⟨rfl,trivial⟩,hM⟩
 ·skip
  rintro a w ⟨u8,hE,hM⟩
  refine ZG (Zd (Zc hE Za ld rfl fun a hE=>Ze hE Za ld rfl fun a hE=>Zf ?_))
  have hr:=Option.some.inj hF7
  subst hr
  exact wp_ret (ZK hE rfl (Zx hE rfl) ⟨_,rfl,u8,rfl,hM.outF (Hb KR),hM.kept⟩)
def Wh (p1 : (Vector UInt8 16)) (s10 : (Vector UInt8 16) × Int) : Option (Fl ((Vector UInt8 16) × Int) (Vector UInt8 16)) :=
 if (decide (s10.2 < 16)) = true then ((ZI s10.1 s10.2).bind fun x17=>(ZI p1 s10.2).bind fun x20=>(ZI s10.1 s10.2).bind fun x23=>some (Fl.nx ((s10.1.setIfInBounds (s10.2).toNat (x17 ^^^ x20)),wr (s10.2 + 1)))) else (some (Fl.ex s10.1))
def Xe (p0 : (Vector UInt8 16)) (p1 : (Vector UInt8 16)) : Option ((Vector UInt8 16)) :=
 (ZQ (Wh p1) (p0,0)).bind fun j7=>some j7
theorem Uv (w0 : World) (p0 : (Vector UInt8 16)) (p1 : (Vector UInt8 16)) (r : (Vector UInt8 16)) (hF : Xe p0 p1 = some r) :
  Calls Try.prog 158 [(Value.agg (enc p0).toArray),(Value.agg (enc p1).toArray)].toArray w0 (fun en w'=>∃ v,en = .returned v ∧ (v = (Value.agg (enc r).toArray) ∧ Kept (Old w0) w0 w')):=by
 refine ZJ (n:=19) Try.func158 rfl rfl (nbl rfl) rfl ?_
 intro a hE
 have hM:=M.start w0
 unfold Xe at hF
 refine Zd (Z3 (cs:=enc p0) hE hM Za ld rfl rfl fun b1 w a hM hE=>Z3 (cs:=enc p1) hE hM Za ld rfl rfl fun b3 w a hM hE=>Zu hE hM Za ld Zw fun b5 w a hM hE=>Zf (wp_seq (Zd (Zc hE Za ld rfl fun a hE=>Zf ?_))))
 obtain ⟨j7,hl8,hF9⟩:=bind_some hF
 refine Z0 (fun a w=>Env 19 a [(2,(ptr b1 0)),(4,(ptr b5 0))] ∧ M (Old w0) w0 w [raw b5 (enc (Vector.replicate 16 (0 : UInt8))),raw b1 (enc j7)]) ?_ ?_
 ·skip
  refine wp_block ?_
  refine ZV (fun (s10 : (Vector UInt8 16) × Int) a w=>Env 19 a [(2,(ptr b1 0)),(3,(ptr b3 0)),(4,(ptr b5 0)),(6,vI s10.2)] ∧ M (Old w0) w0 w [raw b5 (enc (Vector.replicate 16 (0 : UInt8))),raw b3 (enc p1),raw b1 (enc s10.1)]) hl8 ⟨hE.sub ⟨rfl,rfl,rfl,rfl,trivial⟩,hM⟩ ?_
  rintro s10 a w ⟨hE,hM⟩ o13 hs11 hx12
  unfold Wh at hs11
  refine Zd (Zm hE Za ld rfl rfl rfl fun a hE=>Zf (wp_seq ?_))
  refine Zv hE rfl ?_ ?_
  ·intro hb14
   have hs11:=ZB hs11 hb14
   refine wp_skip (ZG (wp_seq (wp_block (Zd (Zc hE Za ld rfl fun a hE=>Ze hE Za ld rfl fun a hE=>Zf ?_)))))
   obtain ⟨x17,hi16,hs11⟩:=bvx hs11
   obtain ⟨x20,hi19,hs11⟩:=bvx hs11
   obtain ⟨x23,hi22,hs11⟩:=bvx hs11
   refine Yw (n:=19) (hd:=[_,_,_,_,_,_,_,_]) (tl:=[_]) YS rfl rfl [9,10,11,12,13,14,15,16] (by decide) (fun w=>M (Old w0) w0 w [raw b5 (enc (Vector.replicate 16 (0 : UInt8))),raw b3 (enc p1),raw b1 (enc s10.1)]) (fun j=>([fun v _=>v = (vI s10.2),fun v _=>v = (ptr b1 (0 + (s10.2).toNat * 1)),fun v _=>v = (vB x17),fun v _=>v = (vI s10.2),fun v _=>v = (ptr b3 (0 + (s10.2).toNat * 1)),fun v _=>v = (vB x20),fun v _=>v = (vB (x17 ^^^ x20)),fun v _=>v = (ptr b1 (0 + (s10.2).toNat * 1))] : List (Value → World → Prop)).getD j (fun _ _=>True)) (fun _ _ h hk=>h.keep hk) (gup (Zp (Zp (Zp (Zp (Zp (Zp (Zp (Zp Vq))))))))) hE hM.drew (ZS (Zb ?_ (Zb ?_ (Zb ?_ (Zb ?_ (Zb ?_ (Zb ?_ (Zb ?_ (Zb ?_ ZL))))))))) ?_
   ·exact fun a w ux15 hE hM hp=>Zc hE Za ld rfl fun a hE=>⟨Kept.refl _ _,_,_,rfl,hE,rfl⟩
   ·intro a w ux15 hE hM hp
    have f0 : ux15 0 = (vI s10.2):=hp 0 _ rfl rfl
    exact Zh hE Za ld rfl (lk rfl f0) Try.underlying62 ty5 hi16.1 fun a hE=>⟨Kept.refl _ _,_,_,rfl,hE,rfl⟩
   ·intro a w ux15 hE hM hp
    have f1 : ux15 1 = (ptr b1 (0 + (s10.2).toNat * 1)):=hp 0 _ rfl rfl
    exact ZF (v:=(vB x17)) hE Za ld (lk rfl f1) ty5 rfl (At.vec (hM.rawAt (pre:=[_,_])) hi16.2) fun a hE=>⟨Kept.refl _ _,_,_,rfl,hE,rfl⟩
   ·exact fun a w ux15 hE hM hp=>Zc hE Za ld rfl fun a hE=>⟨Kept.refl _ _,_,_,rfl,hE,rfl⟩
   ·intro a w ux15 hE hM hp
    have f3 : ux15 3 = (vI s10.2):=hp 0 _ rfl rfl
    exact Zh hE Za ld rfl (lk rfl f3) Try.underlying62 ty5 hi19.1 fun a hE=>⟨Kept.refl _ _,_,_,rfl,hE,rfl⟩
   ·intro a w ux15 hE hM hp
    have f4 : ux15 4 = (ptr b3 (0 + (s10.2).toNat * 1)):=hp 0 _ rfl rfl
    exact ZF (v:=(vB x20)) hE Za ld (lk rfl f4) ty5 rfl (At.vec (hM.rawAt (pre:=[_])) hi19.2) fun a hE=>⟨Kept.refl _ _,_,_,rfl,hE,rfl⟩
   ·intro a w ux15 hE hM hp
    have f2 : ux15 2 = (vB x17):=hp 0 _ rfl rfl
    have f5 : ux15 5 = (vB x20):=hp 1 _ rfl rfl
    exact Zm hE Za ld (lk rfl f2) (lk rfl f5) (Ug x17 x20) fun a hE=>⟨Kept.refl _ _,_,_,rfl,hE,rfl⟩
   ·intro a w ux15 hE hM hp
    have f0 : ux15 0 = (vI s10.2):=hp 0 _ rfl rfl
    exact Zh hE Za ld rfl (lk rfl f0) Try.underlying62 ty5 hi22.1 fun a hE=>⟨Kept.refl _ _,_,_,rfl,hE,rfl⟩
   ·intro a w ux15 hE hM hg
    have hE:=hE.sub (e':=[(15,(vB (x17 ^^^ x20))),(16,(ptr b1 (0 + (s10.2).toNat * 1))),(2,(ptr b1 0)),(3,(ptr b3 0)),(4,(ptr b5 0)),(5,vI s10.2),(6,vI s10.2),(7,(vT (decide (s10.2 < 16)))),(8,vI s10.2)]) ⟨lk rfl (hg 6 (by decide)),lk rfl (hg 7 (by decide)),rfl,rfl,rfl,rfl,rfl,rfl,rfl,trivial⟩
    have hM:=hM.pull (pre:=[_,_])
    refine Zi (seg:=[(vB (x17 ^^^ x20))]) (cs':=enc (s10.1.setIfInBounds (s10.2).toNat (x17 ^^^ x20))) hE hM Za rfl rfl rfl ty5 rfl (ZN (v:=s10.1) (x:=x17 ^^^ x20) hi22.1) (Flat.cell (x17 ^^^ x20 : UInt8)) (ZD (v:=s10.1) (x:=x17 ^^^ x20) hi22.1) fun w a hM hE=>Zk (Yj (ZG (wp_region_lit (Zm hE Za ld rfl rfl rfl fun a hE=>Zc hE Za ld rfl fun a hE=>Zk (Zn ?_)))))
    have hM:=(hM.pull (pre:=[_,_])).pull (pre:=[_,_])
    exact ⟨_,(ois hs11),hE.sub ⟨rfl,rfl,rfl,rfl,trivial⟩,hM⟩
  ·intro hb14
   have hs11:=ZA hs11 hb14
   refine wp_exit (Zs (Zs (Yz ?_)))
   have ht25:=hx12 _ (ois hs11)
   subst ht25
   refine Zn ?_
   have hM:=M.fst (l:=[_,_]) ((hM.pull (pre:=[_,_])).pull (pre:=[_]))
   exact ⟨hE.sub ⟨rfl,rfl,trivial⟩,hM⟩
 ·skip
  rintro a w ⟨hE,hM⟩
  refine ZG (Zd (Zj (cs:=enc j7) hE Za ld rfl Zw rfl (hM.rawAt (pre:=[_])) (Flat.len _) fun a hE=>Zi (seg:=enc j7) (cs':=enc j7) hE hM Za rfl rfl rfl Zw (Flat.len _) (zle flq) (Flat.cell _) (Zg flq) fun w a hM hE=>Zf ?_))
  have hr:=Option.some.inj hF9
  subst hr
  have hq26 : ZY Try.prog _ _ (.cell 4 62) _:=ZM hE rfl Zw rfl (hM.rawAt (pre:=[])) (Flat.len _) rfl
  have hM:=M.fst (l:=[]) hM
  exact wp_ret (ZK hE rfl hq26 ⟨_,rfl,rfl,hM.kept⟩)
def Yf (p0 : (Vector UInt8 16)) (p1 : (Vector UInt8 16)) (s12 : (Vector UInt8 16) × Int) : Option (Fl ((Vector UInt8 16) × Int) (Vector UInt8 16)) :=
 if (decide (s12.2 < 16)) = true then ((ZI p0 s12.2).bind fun x17=>(ZI p1 (bI x17)).bind fun x21=>(ZI s12.1 s12.2).bind fun x24=>some (Fl.nx ((s12.1.setIfInBounds (s12.2).toNat x21),wr (s12.2 + 1)))) else (some (Fl.ex s12.1))
def YL (p0 : (Vector UInt8 16)) (p1 : (Vector UInt8 16)) : Option ((Vector UInt8 16)) :=
 (ZQ (Yf p0 p1) ((Vector.replicate 16 (0 : UInt8)),0)).bind fun j9=>some j9
theorem T3 (w0 : World) (p0 : (Vector UInt8 16)) (p1 : (Vector UInt8 16)) (r : (Vector UInt8 16)) (hF : YL p0 p1 = some r) :
  Calls Try.prog 160 [(Value.agg (enc p0).toArray),(Value.agg (enc p1).toArray)].toArray w0 (fun en w'=>∃ v,en = .returned v ∧ (v = (Value.agg (enc r).toArray) ∧ Kept (Old w0) w0 w')):=by
 refine ZJ (n:=21) Try.func160 rfl rfl (nbl rfl) rfl ?_
 intro a hE
 have hM:=M.start w0
 unfold YL at hF
 refine Zd (Z3 (cs:=enc p0) hE hM Za ld rfl rfl fun b1 w a hM hE=>Z3 (cs:=enc p1) hE hM Za ld rfl rfl fun b3 w a hM hE=>Zu hE hM Za ld Zw fun b5 w a hM hE=>Zf (Zd (Z7 (parts:=[]) (vs:=[]) (cs:=enc (Vector.replicate 16 (0 : UInt8))) hE Za ld rfl rfl Zw rfl ty5 ZZ fun a hE=>Zu hE hM Za ld Zw fun b7 w a hM hE=>Zi (seg:=enc (Vector.replicate 16 (0 : UInt8))) (cs':=enc (Vector.replicate 16 (0 : UInt8))) hE hM Za rfl rfl rfl Zw (Flat.len _) (zle flq) (Flat.cell _) (Zg flq) fun w a hM hE=>Zf (wp_seq (Zd (Zj (cs:=enc p0) hE Za ld rfl UY rfl (hM.rawAt (pre:=[_,_,_])) (Flat.len _) fun a hE=>Zc hE Za ld rfl fun a hE=>Zf ?_))))))
 obtain ⟨j9,hl10,hF11⟩:=bind_some hF
 refine Z0 (fun a w=>Env 21 a [(4,(ptr b5 0)),(5,(ptr b7 0))] ∧ M (Old w0) w0 w [raw b7 (enc j9),raw b5 (enc (Vector.replicate 16 (0 : UInt8)))]) ?_ ?_
 ·skip
  refine wp_block ?_
  have hM:=M.fst (l:=[_,_,_]) (((hM.pull (pre:=[_,_])).pull (pre:=[_,_])).pull (pre:=[_,_]))
  refine ZV (fun (s12 : (Vector UInt8 16) × Int) a w=>Env 21 a [(3,(ptr b3 0)),(4,(ptr b5 0)),(5,(ptr b7 0)),(9,(Value.agg (enc p0).toArray)),(10,vI s12.2)] ∧ M (Old w0) w0 w [raw b7 (enc s12.1),raw b5 (enc (Vector.replicate 16 (0 : UInt8))),raw b3 (enc p1)]) hl10 ⟨hE.sub ⟨rfl,rfl,rfl,rfl,rfl,trivial⟩,hM⟩ ?_
  rintro s12 a w ⟨hE,hM⟩ o15 hs13 hx14
  unfold Yf at hs13
  refine Zd (Zm hE Za ld rfl rfl rfl fun a hE=>Zf (wp_seq ?_))
  refine Zv hE rfl ?_ ?_
  ·intro hb16
   have hs13:=ZB hs13 hb16
   refine wp_skip (ZG (wp_seq (wp_block (Zd (Zc hE Za ld rfl ?_))))); intro a hE
   obtain ⟨x17,hi19,hs13⟩:=bvx hs13
   refine Ts hE Za ld rfl rfl Try.underlying59 ty5 rfl rfl hi19 rfl fun a hE=>Ze hE Za ld rfl fun a hE=>Ze hE Za ld rfl fun a hE=>Zf (wp_region_lit (Zc hE Za ld rfl fun a hE=>Zc hE Za ld rfl ?_)); intro a hE
   obtain ⟨x21,hi20,hs13⟩:=bvx hs13
   refine Zh hE Za ld rfl rfl Try.underlying62 ty5 hi20.1 fun a hE=>ZF (v:=(vB x21)) hE Za ld rfl ty5 rfl (At.vec (hM.rawAt (pre:=[_,_])) hi20.2) ?_; intro a hE
   obtain ⟨x24,hi23,hs13⟩:=bvx hs13
   refine Zh hE Za ld rfl rfl Try.underlying62 ty5 hi23.1 fun a hE=>Zi (seg:=[vB x21]) (cs':=enc (s12.1.setIfInBounds (s12.2).toNat x21)) hE hM Za rfl rfl rfl ty5 rfl (ZN (v:=s12.1) (x:=x21) hi23.1) (Flat.cell (x21 : UInt8)) (ZD (v:=s12.1) (x:=x21) hi23.1) fun w a hM hE=>Zk (Yj (ZG (wp_region_lit (Zm hE Za ld rfl rfl rfl fun a hE=>Zc hE Za ld rfl fun a hE=>Zk (Zn ?_)))))
   exact ⟨_,(ois hs13),hE.sub ⟨rfl,rfl,rfl,rfl,rfl,trivial⟩,hM⟩
  ·intro hb16
   have hs13:=ZA hs13 hb16
   refine wp_exit (Zs (Zs (Yz ?_)))
   have ht26:=hx14 _ (ois hs13)
   subst ht26
   refine Zn ?_
   have hM:=M.fst (l:=[_,_]) ((hM.pull (pre:=[_])).pull (pre:=[_]))
   exact ⟨hE.sub ⟨rfl,rfl,trivial⟩,hM⟩
 ·skip
  rintro a w ⟨hE,hM⟩
  refine ZG (Zd (Zj (cs:=enc j9) hE Za ld rfl Zw rfl (hM.rawAt (pre:=[])) (Flat.len _) ?_)); intro a hE
  have hM:=hM.pull (pre:=[_])
  refine Zi (seg:=enc j9) (cs':=enc j9) hE hM Za rfl rfl rfl Zw (Flat.len _) (zle flq) (Flat.cell _) (Zg flq) fun w a hM hE=>Zf ?_
  have hr:=Option.some.inj hF11
  subst hr
  have hq27 : ZY Try.prog _ _ (.cell 4 62) _:=ZM hE rfl Zw rfl (hM.rawAt (pre:=[])) (Flat.len _) rfl
  have hM:=M.fst (l:=[]) hM
  exact wp_ret (ZK hE rfl hq27 ⟨_,rfl,rfl,hM.kept⟩)
def Wk (p0 : (Ref (Vector (Vector (Vector UInt8 256) 4) 4))) (s4 : (Vector UInt8 16) × Int) (j9 : UInt8 × UInt8 × UInt8 × UInt8) (s29 : (Vector UInt8 16) × Int) : Option (Fl ((Vector UInt8 16) × Int) (Vector UInt8 16)) :=
 if (decide (s29.2 < 4)) = true then ((ZI p0.v s29.2).bind fun x42=>(ZI x42 (0 : Int)).bind fun x45=>(ZI x45 (bI j9.1)).bind fun x48=>(ZI p0.v s29.2).bind fun x57=>(ZI x57 (1 : Int)).bind fun x60=>(ZI x60 (bI j9.2.1)).bind fun x63=>(ZI p0.v s29.2).bind fun x72=>(ZI x72 (2 : Int)).bind fun x75=>(ZI x75 (bI j9.2.2.1)).bind fun x78=>(ZI p0.v s29.2).bind fun x87=>(ZI x87 (3 : Int)).bind fun x90=>(ZI x90 (bI j9.2.2.2)).bind fun x93=>(ZI s29.1 (wr (s4.2 + s29.2))).bind fun x95=>some (Fl.nx ((s29.1.setIfInBounds ((wr (s4.2 + s29.2))).toNat (((x48 ^^^ x63) ^^^ x78) ^^^ x93)),wr (s29.2 + 1)))) else (some (Fl.ex s29.1))
def Wj (p0 : (Ref (Vector (Vector (Vector UInt8 256) 4) 4))) (s4 : (Vector UInt8 16) × Int) : Option (Fl ((Vector UInt8 16) × Int) (Vector UInt8 16)) :=
 if (decide (s4.2 < (s4.1.toList.length : Int))) = true then (((ZI s4.1 s4.2).bind fun x13=>(ZI s4.1 (wr (s4.2 + 1))).bind fun x16=>(ZI s4.1 (wr (s4.2 + 2))).bind fun x19=>(ZI s4.1 (wr (s4.2 + 3))).bind fun x22=>some (x13,x16,x19,x22) : Option (UInt8 × UInt8 × UInt8 × UInt8)).bind fun j9=>(ZQ (Wk p0 s4 j9) (s4.1,0)).bind fun j26=>some (Fl.nx (j26,wr (s4.2 + 4)))) else (some (Fl.ex s4.1))
def Wy (p0 : (Ref (Vector (Vector (Vector UInt8 256) 4) 4))) (p1 : (Vector UInt8 16)) : Option ((Vector UInt8 16)) :=
 (ZQ (Wj p0) (p1,0)).bind fun j1=>some j1
end

end Go.Proofs.Ytkajmkegelcfjaa
