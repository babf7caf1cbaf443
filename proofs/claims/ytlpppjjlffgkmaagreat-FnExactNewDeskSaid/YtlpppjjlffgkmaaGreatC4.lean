/- The walk of what the law reaches: contracts of functions. -/
import Derived.Test.YtlpppjjlffgkmaaGreatC3
set_option linter.unusedVariables false
set_option linter.unusedSimpArgs false
set_option maxRecDepth 20000
set_option maxHeartbeats 400000
namespace Go.Proofs.YtlpppjjlffgkmaaGreat
open Go
open Flat (enc)
noncomputable section
theorem Ql (w0 : World)  (r : Bool) (hF : X6  = some r) :
  Calls Tryz.prog 3 [].toArray w0 (fun en w'=>∃ v,en = .returned v ∧ (v = (vT r) ∧ Kept (Old w0) w0 w')):=by
 refine ZB (n:=36) Tryz.func3 rfl rfl (nbl rfl) rfl ?_
 intro a hE
 have hM:=M.start w0
 unfold X6 at hF
 refine Zc (Ze hE Za ld rfl fun a hE=>Zf (Zc ?_))
 obtain ⟨r1,e2,hF⟩:=bind_some hF
 refine Zw hE Za ld rfl cb5 (Hv _  r1 e2) ?_
 rintro v w a ⟨u3,u4,u5,u6,u7,u8,u9,rfl,hFr,hK⟩ hE
 have hM:=hM.add hK hFr
 refine ZH hE hM Za ld UT fun b10 w a hM hE=>Zv (seg:=cat [cat [[vI r1.Cipher.Field],enc r1.Cipher.Box,enc r1.Cipher.Mix,enc r1.Cipher.Places,[vI r1.Cipher.Rounds]],enc r1.Key,enc r1.Start,[u3],cat [[u4],[vI r1.Vault.Next],[u5],[u6],enc r1.Vault.Head],cat [[u7],[u8],[u9]]]) (cs':=cat [cat [[vI r1.Cipher.Field],enc r1.Cipher.Box,enc r1.Cipher.Mix,enc r1.Cipher.Places,[vI r1.Cipher.Rounds]],enc r1.Key,enc r1.Start,[u3],cat [[u4],[vI r1.Vault.Next],[u5],[u6],enc r1.Vault.Head],cat [[u7],[u8],[u9]]]) hE hM Za rfl rfl rfl UT (Zg (cl1 (n:=290) (m:=72) (Zg (cl1 (n:=1) (m:=289) rfl (cl1 (n:=256) (m:=33) (Flat.len _) (cl1 (n:=16) (m:=17) (Flat.len _) (cl1 (n:=16) (m:=1) (Flat.len _) (cl1 (n:=1) (m:=0) rfl cl0)))))) (cl1 (n:=16) (m:=56) (Flat.len _) (cl1 (n:=16) (m:=40) (Flat.len _) (cl1 (n:=1) (m:=39) rfl (cl1 (n:=36) (m:=3) (Zg (cl1 (n:=1) (m:=35) rfl (cl1 (n:=1) (m:=34) rfl (cl1 (n:=1) (m:=33) rfl (cl1 (n:=1) (m:=32) rfl (cl1 (n:=32) (m:=0) (Flat.len _) cl0)))))) (cl1 (n:=3) (m:=0) (Zg (cl1 (n:=1) (m:=2) rfl (cl1 (n:=1) (m:=1) rfl (cl1 (n:=1) (m:=0) rfl cl0)))) cl0))))))) (Nat.le_of_eq ((Nat.zero_add _).trans (Eq.trans (Zg (cl1 (n:=290) (m:=72) (Zg (cl1 (n:=1) (m:=289) rfl (cl1 (n:=256) (m:=33) (Flat.len _) (cl1 (n:=16) (m:=17) (Flat.len _) (cl1 (n:=16) (m:=1) (Flat.len _) (cl1 (n:=1) (m:=0) rfl cl0)))))) (cl1 (n:=16) (m:=56) (Flat.len _) (cl1 (n:=16) (m:=40) (Flat.len _) (cl1 (n:=1) (m:=39) rfl (cl1 (n:=36) (m:=3) (Zg (cl1 (n:=1) (m:=35) rfl (cl1 (n:=1) (m:=34) rfl (cl1 (n:=1) (m:=33) rfl (cl1 (n:=1) (m:=32) rfl (cl1 (n:=32) (m:=0) (Flat.len _) cl0)))))) (cl1 (n:=3) (m:=0) (Zg (cl1 (n:=1) (m:=2) rfl (cl1 (n:=1) (m:=1) rfl (cl1 (n:=1) (m:=0) rfl cl0)))) cl0))))))) (Eq.symm (Zg (cl1 (n:=290) (m:=72) (Zg (cl1 (n:=1) (m:=289) rfl (cl1 (n:=256) (m:=33) (Flat.len _) (cl1 (n:=16) (m:=17) (Flat.len _) (cl1 (n:=16) (m:=1) (Flat.len _) (cl1 (n:=1) (m:=0) rfl cl0)))))) (cl1 (n:=16) (m:=56) (Flat.len _) (cl1 (n:=16) (m:=40) (Flat.len _) (cl1 (n:=1) (m:=39) rfl (cl1 (n:=36) (m:=3) (Zg (cl1 (n:=1) (m:=35) rfl (cl1 (n:=1) (m:=34) rfl (cl1 (n:=1) (m:=33) rfl (cl1 (n:=1) (m:=32) rfl (cl1 (n:=32) (m:=0) (Flat.len _) cl0)))))) (cl1 (n:=3) (m:=0) (Zg (cl1 (n:=1) (m:=2) rfl (cl1 (n:=1) (m:=1) rfl (cl1 (n:=1) (m:=0) rfl cl0)))) cl0))))))))))) (ZV (cc1 (ZV (cc1 (Flat.cell (r1.Cipher.Field : Int)) (cc1 (Flat.cell _) (cc1 (Flat.cell _) (cc1 (Flat.cell _) (cc1 (Flat.cell (r1.Cipher.Rounds : Int)) cc0)))))) (cc1 (Flat.cell _) (cc1 (Flat.cell _) (cc1 (Rep.cell (hM.sl (pre:=[_]) noB)) (cc1 (ZV (cc1 (Rep.cell (hM.sl (pre:=[_,_]) noB)) (cc1 (Flat.cell (r1.Vault.Next : Int)) (cc1 (Rep.cell (hM.sl (pre:=[_,_,_]) noB)) (cc1 (Rep.cell (hM.sl (pre:=[_,_,_,_]) noB)) (cc1 (Flat.cell _) cc0)))))) (cc1 (ZV (cc1 (Rep.cell (hM.sl (pre:=[_,_,_,_,_]) noB)) (cc1 (Rep.cell (hM.sl (pre:=[_,_,_,_,_,_]) noB)) (cc1 (Rep.cell (hM.sl (pre:=[_,_,_,_,_,_,_]) noB)) cc0)))) cc0))))))) (Zr (Eq.trans (Zg (cl1 (n:=290) (m:=72) (Zg (cl1 (n:=1) (m:=289) rfl (cl1 (n:=256) (m:=33) (Flat.len _) (cl1 (n:=16) (m:=17) (Flat.len _) (cl1 (n:=16) (m:=1) (Flat.len _) (cl1 (n:=1) (m:=0) rfl cl0)))))) (cl1 (n:=16) (m:=56) (Flat.len _) (cl1 (n:=16) (m:=40) (Flat.len _) (cl1 (n:=1) (m:=39) rfl (cl1 (n:=36) (m:=3) (Zg (cl1 (n:=1) (m:=35) rfl (cl1 (n:=1) (m:=34) rfl (cl1 (n:=1) (m:=33) rfl (cl1 (n:=1) (m:=32) rfl (cl1 (n:=32) (m:=0) (Flat.len _) cl0)))))) (cl1 (n:=3) (m:=0) (Zg (cl1 (n:=1) (m:=2) rfl (cl1 (n:=1) (m:=1) rfl (cl1 (n:=1) (m:=0) rfl cl0)))) cl0))))))) (Eq.symm (Zg (cl1 (n:=290) (m:=72) (Zg (cl1 (n:=1) (m:=289) rfl (cl1 (n:=256) (m:=33) (Flat.len _) (cl1 (n:=16) (m:=17) (Flat.len _) (cl1 (n:=16) (m:=1) (Flat.len _) (cl1 (n:=1) (m:=0) rfl cl0)))))) (cl1 (n:=16) (m:=56) (Flat.len _) (cl1 (n:=16) (m:=40) (Flat.len _) (cl1 (n:=1) (m:=39) rfl (cl1 (n:=36) (m:=3) (Zg (cl1 (n:=1) (m:=35) rfl (cl1 (n:=1) (m:=34) rfl (cl1 (n:=1) (m:=33) rfl (cl1 (n:=1) (m:=32) rfl (cl1 (n:=32) (m:=0) (Flat.len _) cl0)))))) (cl1 (n:=3) (m:=0) (Zg (cl1 (n:=1) (m:=2) rfl (cl1 (n:=1) (m:=1) rfl (cl1 (n:=1) (m:=0) rfl cl0)))) cl0)))))))))) fun w a hM hE=>Zf (Zc ?_)
 obtain ⟨r12,e13,hF⟩:=bind_some hF
 refine Zw hE Za ld rfl cb6 (QA _  r12 e13) ?_
 rintro v w a ⟨u14,u15,u16,u17,u18,u19,u20,rfl,hFr,hK⟩ hE
 have hM:=hM.add hK hFr
 refine ZH hE hM Za ld UT fun b21 w a hM hE=>Zv (seg:=cat [cat [[vI r12.Cipher.Field],enc r12.Cipher.Box,enc r12.Cipher.Mix,enc r12.Cipher.Places,[vI r12.Cipher.Rounds]],enc r12.Key,enc r12.Start,[u14],cat [[u15],[vI r12.Vault.Next],[u16],[u17],enc r12.Vault.Head],cat [[u18],[u19],[u20]]]) (cs':=cat [cat [[vI r12.Cipher.Field],enc r12.Cipher.Box,enc r12.Cipher.Mix,enc r12.Cipher.Places,[vI r12.Cipher.Rounds]],enc r12.Key,enc r12.Start,[u14],cat [[u15],[vI r12.Vault.Next],[u16],[u17],enc r12.Vault.Head],cat [[u18],[u19],[u20]]]) hE hM Za rfl rfl rfl UT (Zg (cl1 (n:=290) (m:=72) (Zg (cl1 (n:=1) (m:=289) rfl (cl1 (n:=256) (m:=33) (Flat.len _) (cl1 (n:=16) (m:=17) (Flat.len _) (cl1 (n:=16) (m:=1) (Flat.len _) (cl1 (n:=1) (m:=0) rfl cl0)))))) (cl1 (n:=16) (m:=56) (Flat.len _) (cl1 (n:=16) (m:=40) (Flat.len _) (cl1 (n:=1) (m:=39) rfl (cl1 (n:=36) (m:=3) (Zg (cl1 (n:=1) (m:=35) rfl (cl1 (n:=1) (m:=34) rfl (cl1 (n:=1) (m:=33) rfl (cl1 (n:=1) (m:=32) rfl (cl1 (n:=32) (m:=0) (Flat.len _) cl0)))))) (cl1 (n:=3) (m:=0) (Zg (cl1 (n:=1) (m:=2) rfl (cl1 (n:=1) (m:=1) rfl (cl1 (n:=1) (m:=0) rfl cl0)))) cl0))))))) (Nat.le_of_eq ((Nat.zero_add _).trans (Eq.trans (Zg (cl1 (n:=290) (m:=72) (Zg (cl1 (n:=1) (m:=289) rfl (cl1 (n:=256) (m:=33) (Flat.len _) (cl1 (n:=16) (m:=17) (Flat.len _) (cl1 (n:=16) (m:=1) (Flat.len _) (cl1 (n:=1) (m:=0) rfl cl0)))))) (cl1 (n:=16) (m:=56) (Flat.len _) (cl1 (n:=16) (m:=40) (Flat.len _) (cl1 (n:=1) (m:=39) rfl (cl1 (n:=36) (m:=3) (Zg (cl1 (n:=1) (m:=35) rfl (cl1 (n:=1) (m:=34) rfl (cl1 (n:=1) (m:=33) rfl (cl1 (n:=1) (m:=32) rfl (cl1 (n:=32) (m:=0) (Flat.len _) cl0)))))) (cl1 (n:=3) (m:=0) (Zg (cl1 (n:=1) (m:=2) rfl (cl1 (n:=1) (m:=1) rfl (cl1 (n:=1) (m:=0) rfl cl0)))) cl0))))))) (Eq.symm (Zg (cl1 (n:=290) (m:=72) (Zg (cl1 (n:=1) (m:=289) rfl (cl1 (n:=256) (m:=33) (Flat.len _) (cl1 (n:=16) (m:=17) (Flat.len _) (cl1 (n:=16) (m:=1) (Flat.len _) (cl1 (n:=1) (m:=0) rfl cl0)))))) (cl1 (n:=16) (m:=56) (Flat.len _) (cl1 (n:=16) (m:=40) (Flat.len _) (cl1 (n:=1) (m:=39) rfl (cl1 (n:=36) (m:=3) (Zg (cl1 (n:=1) (m:=35) rfl (cl1 (n:=1) (m:=34) rfl (cl1 (n:=1) (m:=33) rfl (cl1 (n:=1) (m:=32) rfl (cl1 (n:=32) (m:=0) (Flat.len _) cl0)))))) (cl1 (n:=3) (m:=0) (Zg (cl1 (n:=1) (m:=2) rfl (cl1 (n:=1) (m:=1) rfl (cl1 (n:=1) (m:=0) rfl cl0)))) cl0))))))))))) (ZV (cc1 (ZV (cc1 (Flat.cell (r12.Cipher.Field : Int)) (cc1 (Flat.cell _) (cc1 (Flat.cell _) (cc1 (Flat.cell _) (cc1 (Flat.cell (r12.Cipher.Rounds : Int)) cc0)))))) (cc1 (Flat.cell _) (cc1 (Flat.cell _) (cc1 (Rep.cell (hM.sl (pre:=[_]) noB)) (cc1 (ZV (cc1 (Rep.cell (hM.sl (pre:=[_,_]) noB)) (cc1 (Flat.cell (r12.Vault.Next : Int)) (cc1 (Rep.cell (hM.sl (pre:=[_,_,_]) noB)) (cc1 (Rep.cell (hM.sl (pre:=[_,_,_,_]) noB)) (cc1 (Flat.cell _) cc0)))))) (cc1 (ZV (cc1 (Rep.cell (hM.sl (pre:=[_,_,_,_,_]) noB)) (cc1 (Rep.cell (hM.sl (pre:=[_,_,_,_,_,_]) noB)) (cc1 (Rep.cell (hM.sl (pre:=[_,_,_,_,_,_,_]) noB)) cc0)))) cc0))))))) (Zr (Eq.trans (Zg (cl1 (n:=290) (m:=72) (Zg (cl1 (n:=1) (m:=289) rfl (cl1 (n:=256) (m:=33) (Flat.len _) (cl1 (n:=16) (m:=17) (Flat.len _) (cl1 (n:=16) (m:=1) (Flat.len _) (cl1 (n:=1) (m:=0) rfl cl0)))))) (cl1 (n:=16) (m:=56) (Flat.len _) (cl1 (n:=16) (m:=40) (Flat.len _) (cl1 (n:=1) (m:=39) rfl (cl1 (n:=36) (m:=3) (Zg (cl1 (n:=1) (m:=35) rfl (cl1 (n:=1) (m:=34) rfl (cl1 (n:=1) (m:=33) rfl (cl1 (n:=1) (m:=32) rfl (cl1 (n:=32) (m:=0) (Flat.len _) cl0)))))) (cl1 (n:=3) (m:=0) (Zg (cl1 (n:=1) (m:=2) rfl (cl1 (n:=1) (m:=1) rfl (cl1 (n:=1) (m:=0) rfl cl0)))) cl0))))))) (Eq.symm (Zg (cl1 (n:=290) (m:=72) (Zg (cl1 (n:=1) (m:=289) rfl (cl1 (n:=256) (m:=33) (Flat.len _) (cl1 (n:=16) (m:=17) (Flat.len _) (cl1 (n:=16) (m:=1) (Flat.len _) (cl1 (n:=1) (m:=0) rfl cl0)))))) (cl1 (n:=16) (m:=56) (Flat.len _) (cl1 (n:=16) (m:=40) (Flat.len _) (cl1 (n:=1) (m:=39) rfl (cl1 (n:=36) (m:=3) (Zg (cl1 (n:=1) (m:=35) rfl (cl1 (n:=1) (m:=34) rfl (cl1 (n:=1) (m:=33) rfl (cl1 (n:=1) (m:=32) rfl (cl1 (n:=32) (m:=0) (Flat.len _) cl0)))))) (cl1 (n:=3) (m:=0) (Zg (cl1 (n:=1) (m:=2) rfl (cl1 (n:=1) (m:=1) rfl (cl1 (n:=1) (m:=0) rfl cl0)))) cl0)))))))))) fun w a hM hE=>Zf (wp_seq (Zc (Zo (cs:=cat [cat [[vI r12.Cipher.Field],enc r12.Cipher.Box,enc r12.Cipher.Mix,enc r12.Cipher.Places,[vI r12.Cipher.Rounds]],enc r12.Key,enc r12.Start,[u14],cat [[u15],[vI r12.Vault.Next],[u16],[u17],enc r12.Vault.Head],cat [[u18],[u19],[u20]]]) hE Za ld rfl UT rfl (hM.rawAt (pre:=[])) (Zg (cl1 (n:=290) (m:=72) (Zg (cl1 (n:=1) (m:=289) rfl (cl1 (n:=256) (m:=33) (Flat.len _) (cl1 (n:=16) (m:=17) (Flat.len _) (cl1 (n:=16) (m:=1) (Flat.len _) (cl1 (n:=1) (m:=0) rfl cl0)))))) (cl1 (n:=16) (m:=56) (Flat.len _) (cl1 (n:=16) (m:=40) (Flat.len _) (cl1 (n:=1) (m:=39) rfl (cl1 (n:=36) (m:=3) (Zg (cl1 (n:=1) (m:=35) rfl (cl1 (n:=1) (m:=34) rfl (cl1 (n:=1) (m:=33) rfl (cl1 (n:=1) (m:=32) rfl (cl1 (n:=32) (m:=0) (Flat.len _) cl0)))))) (cl1 (n:=3) (m:=0) (Zg (cl1 (n:=1) (m:=2) rfl (cl1 (n:=1) (m:=1) rfl (cl1 (n:=1) (m:=0) rfl cl0)))) cl0))))))) fun a hE=>Zo (cs:=cat [cat [[vI r1.Cipher.Field],enc r1.Cipher.Box,enc r1.Cipher.Mix,enc r1.Cipher.Places,[vI r1.Cipher.Rounds]],enc r1.Key,enc r1.Start,[u3],cat [[u4],[vI r1.Vault.Next],[u5],[u6],enc r1.Vault.Head],cat [[u7],[u8],[u9]]]) hE Za ld rfl UT rfl (hM.rawAt (pre:=[_,_,_,_,_,_,_,_])) (Zg (cl1 (n:=290) (m:=72) (Zg (cl1 (n:=1) (m:=289) rfl (cl1 (n:=256) (m:=33) (Flat.len _) (cl1 (n:=16) (m:=17) (Flat.len _) (cl1 (n:=16) (m:=1) (Flat.len _) (cl1 (n:=1) (m:=0) rfl cl0)))))) (cl1 (n:=16) (m:=56) (Flat.len _) (cl1 (n:=16) (m:=40) (Flat.len _) (cl1 (n:=1) (m:=39) rfl (cl1 (n:=36) (m:=3) (Zg (cl1 (n:=1) (m:=35) rfl (cl1 (n:=1) (m:=34) rfl (cl1 (n:=1) (m:=33) rfl (cl1 (n:=1) (m:=32) rfl (cl1 (n:=32) (m:=0) (Flat.len _) cl0)))))) (cl1 (n:=3) (m:=0) (Zg (cl1 (n:=1) (m:=2) rfl (cl1 (n:=1) (m:=1) rfl (cl1 (n:=1) (m:=0) rfl cl0)))) cl0))))))) ?_))); intro a hE
 obtain ⟨r23,e24,hF⟩:=bind_some hF
 refine Zw hE Za ld rfl cb7 (QS _ r12 u14 (hM.sl (pre:=[_]) noB) u15 (hM.sl (pre:=[_,_]) noB) u16 (hM.sl (pre:=[_,_,_]) noB) u17 (hM.sl (pre:=[_,_,_,_]) noB) u18 (hM.sl (pre:=[_,_,_,_,_]) noB) u19 (hM.sl (pre:=[_,_,_,_,_,_]) noB) u20 (hM.sl (pre:=[_,_,_,_,_,_,_]) noB) r1 u3 (hM.sl (pre:=[_,_,_,_,_,_,_,_,_]) noB) u4 (hM.sl (pre:=[_,_,_,_,_,_,_,_,_,_]) noB) u5 (hM.sl (pre:=[_,_,_,_,_,_,_,_,_,_,_]) noB) u6 (hM.sl (pre:=[_,_,_,_,_,_,_,_,_,_,_,_]) noB) u7 (hM.sl (pre:=[_,_,_,_,_,_,_,_,_,_,_,_,_]) noB) u8 (hM.sl (pre:=[_,_,_,_,_,_,_,_,_,_,_,_,_,_]) noB) u9 (hM.sl (pre:=[_,_,_,_,_,_,_,_,_,_,_,_,_,_,_]) noB) r23 e24) ?_
 rintro v w a ⟨rfl,hK⟩ hE
 have hM:=hM.keep hK
 refine Wp hE Za ld rfl fun a hE=>Zf ?_
 refine Zp hE rfl ?_ ?_
 ·intro hb25
  have hF:=Zz hF hb25
  refine Zc (Ze hE Za ld rfl fun a hE=>Zf ?_)
  have hr:=Option.some.inj hF
  subst hr
  have hM:=M.fst (l:=[]) hM
  exact wp_ret (Zq (Zt hE rfl (Zs hE rfl) ⟨_,rfl,rfl,hM.kept⟩))
 ·intro hb25
  have hF:=Zy hF hb25
  refine wp_skip (Zu (Zc (Ze hE Za ld rfl fun a hE=>Zf (Zc (Zo (cs:=cat [cat [[vI r12.Cipher.Field],enc r12.Cipher.Box,enc r12.Cipher.Mix,enc r12.Cipher.Places,[vI r12.Cipher.Rounds]],enc r12.Key,enc r12.Start,[u14],cat [[u15],[vI r12.Vault.Next],[u16],[u17],enc r12.Vault.Head],cat [[u18],[u19],[u20]]]) hE Za ld rfl UT rfl (hM.rawAt (pre:=[])) (Zg (cl1 (n:=290) (m:=72) (Zg (cl1 (n:=1) (m:=289) rfl (cl1 (n:=256) (m:=33) (Flat.len _) (cl1 (n:=16) (m:=17) (Flat.len _) (cl1 (n:=16) (m:=1) (Flat.len _) (cl1 (n:=1) (m:=0) rfl cl0)))))) (cl1 (n:=16) (m:=56) (Flat.len _) (cl1 (n:=16) (m:=40) (Flat.len _) (cl1 (n:=1) (m:=39) rfl (cl1 (n:=36) (m:=3) (Zg (cl1 (n:=1) (m:=35) rfl (cl1 (n:=1) (m:=34) rfl (cl1 (n:=1) (m:=33) rfl (cl1 (n:=1) (m:=32) rfl (cl1 (n:=32) (m:=0) (Flat.len _) cl0)))))) (cl1 (n:=3) (m:=0) (Zg (cl1 (n:=1) (m:=2) rfl (cl1 (n:=1) (m:=1) rfl (cl1 (n:=1) (m:=0) rfl cl0)))) cl0))))))) fun a hE=>Zd hE Za ld rfl ?_))))); intro a hE
  have hM:=(((((((((((((hM.pull (pre:=[_])).toOwn noB).pull (pre:=[_,_])).toOwn noB).pull (pre:=[_,_,_])).toOwn noB).pull (pre:=[_,_,_,_])).toOwn noB).pull (pre:=[_,_,_,_,_])).toOwn noB).pull (pre:=[_,_,_,_,_,_])).toOwn noB).pull (pre:=[_,_,_,_,_,_,_])).toOwn noB
  have hM:=(((((hM.pull (pre:=[_])).pull (pre:=[_,_])).pull (pre:=[_,_,_])).pull (pre:=[_,_,_,_])).pull (pre:=[_,_,_,_,_])).pull (pre:=[_,_,_,_,_,_])
  obtain ⟨r26,e27,hF⟩:=bind_some hF
  refine Zw hE Za ld rfl cb8 (JI _ _ _ _ r12 u14 u15 u16 u17 u18 u19 u20 1 hM r26 e27) ?_
  rintro v w a ⟨rfl,hM⟩ hE
  refine Ze hE Za ld rfl fun a hE=>Zf (Zc (Ze hE Za ld rfl fun a hE=>Zf (Zc (Zo (cs:=cat [cat [[vI r12.Cipher.Field],enc r12.Cipher.Box,enc r12.Cipher.Mix,enc r12.Cipher.Places,[vI r12.Cipher.Rounds]],enc r12.Key,enc r12.Start,[u14],cat [[u15],[vI r12.Vault.Next],[u16],[u17],enc r12.Vault.Head],cat [[u18],[u19],[u20]]]) hE Za ld rfl UT rfl (hM.rawAt (pre:=[_,_,_,_,_,_,_])) (Zg (cl1 (n:=290) (m:=72) (Zg (cl1 (n:=1) (m:=289) rfl (cl1 (n:=256) (m:=33) (Flat.len _) (cl1 (n:=16) (m:=17) (Flat.len _) (cl1 (n:=16) (m:=1) (Flat.len _) (cl1 (n:=1) (m:=0) rfl cl0)))))) (cl1 (n:=16) (m:=56) (Flat.len _) (cl1 (n:=16) (m:=40) (Flat.len _) (cl1 (n:=1) (m:=39) rfl (cl1 (n:=36) (m:=3) (Zg (cl1 (n:=1) (m:=35) rfl (cl1 (n:=1) (m:=34) rfl (cl1 (n:=1) (m:=33) rfl (cl1 (n:=1) (m:=32) rfl (cl1 (n:=32) (m:=0) (Flat.len _) cl0)))))) (cl1 (n:=3) (m:=0) (Zg (cl1 (n:=1) (m:=2) rfl (cl1 (n:=1) (m:=1) rfl (cl1 (n:=1) (m:=0) rfl cl0)))) cl0))))))) fun a hE=>Zd hE Za ld rfl ?_)))); intro a hE
  obtain ⟨r28,e29,hF⟩:=bind_some hF
  refine Zw hE Za ld rfl cb9 (Qb _ (⟨r12.Cipher,r12.Key,r12.Start,r26.1.Data,(⟨r26.1.Vault.Keys,r12.Vault.Next,r26.1.Vault.Records,r26.1.Vault.Events,r12.Vault.Head⟩ : GVault),r26.1.Blobs⟩ : GDesk) u14 (hM.ro (pre:=[]) noB) u15 (hM.ro (pre:=[_]) noB) u16 (hM.ro (pre:=[_,_]) noB) u17 (hM.ro (pre:=[_,_,_]) noB) u18 (hM.ro (pre:=[_,_,_,_]) noB) u19 (hM.ro (pre:=[_,_,_,_,_]) noB) u20 (hM.ro (pre:=[_,_,_,_,_,_]) noB) 1 r28 e29) ?_
  rintro v w a ⟨rfl,hK⟩ hE
  have hM:=hM.keep hK
  refine Ze hE Za ld rfl fun a hE=>Zf (wp_seq (Zc (Zd hE Za ld rfl fun a hE=>Zi hE Za ld rfl rfl rfl fun a hE=>Zf ?_)))
  refine Zp hE rfl ?_ ?_
  ·intro hb30
   have hF:=Zz hF hb30
   refine Zc (Ze hE Za ld rfl fun a hE=>Zf ?_)
   have hr:=Option.some.inj hF
   subst hr
   have hM:=M.fst (l:=[]) hM
   exact wp_ret (Zq (Zt hE rfl (Zs hE rfl) ⟨_,rfl,rfl,hM.kept⟩))
  ·intro hb30
   have hF:=Zy hF hb30
   refine wp_skip (Zu (wp_seq (Zc (Zd hE Za ld rfl fun a hE=>Zd hE Za ld rfl fun a hE=>Zi hE Za ld rfl rfl rfl fun a hE=>Zf ?_))))
   refine Zp hE rfl ?_ ?_
   ·intro hb31
    have hF:=Zz hF hb31
    refine Zc (Ze hE Za ld rfl fun a hE=>Zf ?_)
    have hr:=Option.some.inj hF
    subst hr
    have hM:=M.fst (l:=[]) hM
    exact wp_ret (Zq (Zt hE rfl (Zs hE rfl) ⟨_,rfl,rfl,hM.kept⟩))
   ·intro hb31
    have hF:=Zy hF hb31
    refine wp_skip (Zu (Zc ?_))
    obtain ⟨r32,e33,hF⟩:=bind_some hF
    refine Zw hE Za ld rfl cb6 (QA _  r32 e33) ?_
    rintro v w a ⟨u34,u35,u36,u37,u38,u39,u40,rfl,hFr,hK⟩ hE
    have hM:=hM.add hK hFr
    refine ZH hE hM Za ld UT fun b41 w a hM hE=>Zv (seg:=cat [cat [[vI r32.Cipher.Field],enc r32.Cipher.Box,enc r32.Cipher.Mix,enc r32.Cipher.Places,[vI r32.Cipher.Rounds]],enc r32.Key,enc r32.Start,[u34],cat [[u35],[vI r32.Vault.Next],[u36],[u37],enc r32.Vault.Head],cat [[u38],[u39],[u40]]]) (cs':=cat [cat [[vI r32.Cipher.Field],enc r32.Cipher.Box,enc r32.Cipher.Mix,enc r32.Cipher.Places,[vI r32.Cipher.Rounds]],enc r32.Key,enc r32.Start,[u34],cat [[u35],[vI r32.Vault.Next],[u36],[u37],enc r32.Vault.Head],cat [[u38],[u39],[u40]]]) hE hM Za rfl rfl rfl UT (Zg (cl1 (n:=290) (m:=72) (Zg (cl1 (n:=1) (m:=289) rfl (cl1 (n:=256) (m:=33) (Flat.len _) (cl1 (n:=16) (m:=17) (Flat.len _) (cl1 (n:=16) (m:=1) (Flat.len _) (cl1 (n:=1) (m:=0) rfl cl0)))))) (cl1 (n:=16) (m:=56) (Flat.len _) (cl1 (n:=16) (m:=40) (Flat.len _) (cl1 (n:=1) (m:=39) rfl (cl1 (n:=36) (m:=3) (Zg (cl1 (n:=1) (m:=35) rfl (cl1 (n:=1) (m:=34) rfl (cl1 (n:=1) (m:=33) rfl (cl1 (n:=1) (m:=32) rfl (cl1 (n:=32) (m:=0) (Flat.len _) cl0)))))) (cl1 (n:=3) (m:=0) (Zg (cl1 (n:=1) (m:=2) rfl (cl1 (n:=1) (m:=1) rfl (cl1 (n:=1) (m:=0) rfl cl0)))) cl0))))))) (Nat.le_of_eq ((Nat.zero_add _).trans (Eq.trans (Zg (cl1 (n:=290) (m:=72) (Zg (cl1 (n:=1) (m:=289) rfl (cl1 (n:=256) (m:=33) (Flat.len _) (cl1 (n:=16) (m:=17) (Flat.len _) (cl1 (n:=16) (m:=1) (Flat.len _) (cl1 (n:=1) (m:=0) rfl cl0)))))) (cl1 (n:=16) (m:=56) (Flat.len _) (cl1 (n:=16) (m:=40) (Flat.len _) (cl1 (n:=1) (m:=39) rfl (cl1 (n:=36) (m:=3) (Zg (cl1 (n:=1) (m:=35) rfl (cl1 (n:=1) (m:=34) rfl (cl1 (n:=1) (m:=33) rfl (cl1 (n:=1) (m:=32) rfl (cl1 (n:=32) (m:=0) (Flat.len _) cl0)))))) (cl1 (n:=3) (m:=0) (Zg (cl1 (n:=1) (m:=2) rfl (cl1 (n:=1) (m:=1) rfl (cl1 (n:=1) (m:=0) rfl cl0)))) cl0))))))) (Eq.symm (Zg (cl1 (n:=290) (m:=72) (Zg (cl1 (n:=1) (m:=289) rfl (cl1 (n:=256) (m:=33) (Flat.len _) (cl1 (n:=16) (m:=17) (Flat.len _) (cl1 (n:=16) (m:=1) (Flat.len _) (cl1 (n:=1) (m:=0) rfl cl0)))))) (cl1 (n:=16) (m:=56) (Flat.len _) (cl1 (n:=16) (m:=40) (Flat.len _) (cl1 (n:=1) (m:=39) rfl (cl1 (n:=36) (m:=3) (Zg (cl1 (n:=1) (m:=35) rfl (cl1 (n:=1) (m:=34) rfl (cl1 (n:=1) (m:=33) rfl (cl1 (n:=1) (m:=32) rfl (cl1 (n:=32) (m:=0) (Flat.len _) cl0)))))) (cl1 (n:=3) (m:=0) (Zg (cl1 (n:=1) (m:=2) rfl (cl1 (n:=1) (m:=1) rfl (cl1 (n:=1) (m:=0) rfl cl0)))) cl0))))))))))) (ZV (cc1 (ZV (cc1 (Flat.cell (r32.Cipher.Field : Int)) (cc1 (Flat.cell _) (cc1 (Flat.cell _) (cc1 (Flat.cell _) (cc1 (Flat.cell (r32.Cipher.Rounds : Int)) cc0)))))) (cc1 (Flat.cell _) (cc1 (Flat.cell _) (cc1 (Rep.cell (hM.sl (pre:=[_]) noB)) (cc1 (ZV (cc1 (Rep.cell (hM.sl (pre:=[_,_]) noB)) (cc1 (Flat.cell (r32.Vault.Next : Int)) (cc1 (Rep.cell (hM.sl (pre:=[_,_,_]) noB)) (cc1 (Rep.cell (hM.sl (pre:=[_,_,_,_]) noB)) (cc1 (Flat.cell _) cc0)))))) (cc1 (ZV (cc1 (Rep.cell (hM.sl (pre:=[_,_,_,_,_]) noB)) (cc1 (Rep.cell (hM.sl (pre:=[_,_,_,_,_,_]) noB)) (cc1 (Rep.cell (hM.sl (pre:=[_,_,_,_,_,_,_]) noB)) cc0)))) cc0))))))) (Zr (Eq.trans (Zg (cl1 (n:=290) (m:=72) (Zg (cl1 (n:=1) (m:=289) rfl (cl1 (n:=256) (m:=33) (Flat.len _) (cl1 (n:=16) (m:=17) (Flat.len _) (cl1 (n:=16) (m:=1) (Flat.len _) (cl1 (n:=1) (m:=0) rfl cl0)))))) (cl1 (n:=16) (m:=56) (Flat.len _) (cl1 (n:=16) (m:=40) (Flat.len _) (cl1 (n:=1) (m:=39) rfl (cl1 (n:=36) (m:=3) (Zg (cl1 (n:=1) (m:=35) rfl (cl1 (n:=1) (m:=34) rfl (cl1 (n:=1) (m:=33) rfl (cl1 (n:=1) (m:=32) rfl (cl1 (n:=32) (m:=0) (Flat.len _) cl0)))))) (cl1 (n:=3) (m:=0) (Zg (cl1 (n:=1) (m:=2) rfl (cl1 (n:=1) (m:=1) rfl (cl1 (n:=1) (m:=0) rfl cl0)))) cl0))))))) (Eq.symm (Zg (cl1 (n:=290) (m:=72) (Zg (cl1 (n:=1) (m:=289) rfl (cl1 (n:=256) (m:=33) (Flat.len _) (cl1 (n:=16) (m:=17) (Flat.len _) (cl1 (n:=16) (m:=1) (Flat.len _) (cl1 (n:=1) (m:=0) rfl cl0)))))) (cl1 (n:=16) (m:=56) (Flat.len _) (cl1 (n:=16) (m:=40) (Flat.len _) (cl1 (n:=1) (m:=39) rfl (cl1 (n:=36) (m:=3) (Zg (cl1 (n:=1) (m:=35) rfl (cl1 (n:=1) (m:=34) rfl (cl1 (n:=1) (m:=33) rfl (cl1 (n:=1) (m:=32) rfl (cl1 (n:=32) (m:=0) (Flat.len _) cl0)))))) (cl1 (n:=3) (m:=0) (Zg (cl1 (n:=1) (m:=2) rfl (cl1 (n:=1) (m:=1) rfl (cl1 (n:=1) (m:=0) rfl cl0)))) cl0)))))))))) fun w a hM hE=>Zf (wp_seq (Zc (Zo (cs:=cat [cat [[vI r32.Cipher.Field],enc r32.Cipher.Box,enc r32.Cipher.Mix,enc r32.Cipher.Places,[vI r32.Cipher.Rounds]],enc r32.Key,enc r32.Start,[u34],cat [[u35],[vI r32.Vault.Next],[u36],[u37],enc r32.Vault.Head],cat [[u38],[u39],[u40]]]) hE Za ld rfl UT rfl (hM.rawAt (pre:=[])) (Zg (cl1 (n:=290) (m:=72) (Zg (cl1 (n:=1) (m:=289) rfl (cl1 (n:=256) (m:=33) (Flat.len _) (cl1 (n:=16) (m:=17) (Flat.len _) (cl1 (n:=16) (m:=1) (Flat.len _) (cl1 (n:=1) (m:=0) rfl cl0)))))) (cl1 (n:=16) (m:=56) (Flat.len _) (cl1 (n:=16) (m:=40) (Flat.len _) (cl1 (n:=1) (m:=39) rfl (cl1 (n:=36) (m:=3) (Zg (cl1 (n:=1) (m:=35) rfl (cl1 (n:=1) (m:=34) rfl (cl1 (n:=1) (m:=33) rfl (cl1 (n:=1) (m:=32) rfl (cl1 (n:=32) (m:=0) (Flat.len _) cl0)))))) (cl1 (n:=3) (m:=0) (Zg (cl1 (n:=1) (m:=2) rfl (cl1 (n:=1) (m:=1) rfl (cl1 (n:=1) (m:=0) rfl cl0)))) cl0))))))) fun a hE=>Zo (cs:=cat [cat [[vI r1.Cipher.Field],enc r1.Cipher.Box,enc r1.Cipher.Mix,enc r1.Cipher.Places,[vI r1.Cipher.Rounds]],enc r1.Key,enc r1.Start,[u3],cat [[u4],[vI r1.Vault.Next],[u5],[u6],enc r1.Vault.Head],cat [[u7],[u8],[u9]]]) hE Za ld rfl UT rfl (hM.rawAt (pre:=[_,_,_,_,_,_,_,_,_,_,_,_,_,_,_,_])) (Zg (cl1 (n:=290) (m:=72) (Zg (cl1 (n:=1) (m:=289) rfl (cl1 (n:=256) (m:=33) (Flat.len _) (cl1 (n:=16) (m:=17) (Flat.len _) (cl1 (n:=16) (m:=1) (Flat.len _) (cl1 (n:=1) (m:=0) rfl cl0)))))) (cl1 (n:=16) (m:=56) (Flat.len _) (cl1 (n:=16) (m:=40) (Flat.len _) (cl1 (n:=1) (m:=39) rfl (cl1 (n:=36) (m:=3) (Zg (cl1 (n:=1) (m:=35) rfl (cl1 (n:=1) (m:=34) rfl (cl1 (n:=1) (m:=33) rfl (cl1 (n:=1) (m:=32) rfl (cl1 (n:=32) (m:=0) (Flat.len _) cl0)))))) (cl1 (n:=3) (m:=0) (Zg (cl1 (n:=1) (m:=2) rfl (cl1 (n:=1) (m:=1) rfl (cl1 (n:=1) (m:=0) rfl cl0)))) cl0))))))) ?_))); intro a hE
    obtain ⟨r43,e44,hF⟩:=bind_some hF
    refine Zw hE Za ld rfl cb7 (QS _ r32 u34 (hM.sl (pre:=[_]) noB) u35 (hM.sl (pre:=[_,_]) noB) u36 (hM.sl (pre:=[_,_,_]) noB) u37 (hM.sl (pre:=[_,_,_,_]) noB) u38 (hM.sl (pre:=[_,_,_,_,_]) noB) u39 (hM.sl (pre:=[_,_,_,_,_,_]) noB) u40 (hM.sl (pre:=[_,_,_,_,_,_,_]) noB) r1 u3 (hM.sl (pre:=[_,_,_,_,_,_,_,_,_,_,_,_,_,_,_,_,_]) noB) u4 (hM.sl (pre:=[_,_,_,_,_,_,_,_,_,_,_,_,_,_,_,_,_,_]) noB) u5 (hM.sl (pre:=[_,_,_,_,_,_,_,_,_,_,_,_,_,_,_,_,_,_,_]) noB) u6 (hM.sl (pre:=[_,_,_,_,_,_,_,_,_,_,_,_,_,_,_,_,_,_,_,_]) noB) u7 (hM.sl (pre:=[_,_,_,_,_,_,_,_,_,_,_,_,_,_,_,_,_,_,_,_,_]) noB) u8 (hM.sl (pre:=[_,_,_,_,_,_,_,_,_,_,_,_,_,_,_,_,_,_,_,_,_,_]) noB) u9 (hM.sl (pre:=[_,_,_,_,_,_,_,_,_,_,_,_,_,_,_,_,_,_,_,_,_,_,_]) noB) r43 e44) ?_
    rintro v w a ⟨rfl,hK⟩ hE
    have hM:=hM.keep hK
    refine Wp hE Za ld rfl fun a hE=>Zf ?_
    refine Zp hE rfl ?_ ?_
    ·intro hb45
     have hF:=Zz hF hb45
     refine Zc (Ze hE Za ld rfl fun a hE=>Zf ?_)
     have hr:=Option.some.inj hF
     subst hr
     have hM:=M.fst (l:=[]) hM
     exact wp_ret (Zq (Zt hE rfl (Zs hE rfl) ⟨_,rfl,rfl,hM.kept⟩))
    ·intro hb45
     have hF:=Zy hF hb45
     refine wp_skip (Zu (Zc (Ze hE Za ld rfl fun a hE=>Zf (Zc (Zo (cs:=cat [cat [[vI r12.Cipher.Field],enc r12.Cipher.Box,enc r12.Cipher.Mix,enc r12.Cipher.Places,[vI r12.Cipher.Rounds]],enc r12.Key,enc r12.Start,[u14],cat [[u15],[vI r12.Vault.Next],[u16],[u17],enc r12.Vault.Head],cat [[u18],[u19],[u20]]]) hE Za ld rfl UT rfl (hM.rawAt (pre:=[_,_,_,_,_,_,_,_,_,_,_,_,_,_,_])) (Zg (cl1 (n:=290) (m:=72) (Zg (cl1 (n:=1) (m:=289) rfl (cl1 (n:=256) (m:=33) (Flat.len _) (cl1 (n:=16) (m:=17) (Flat.len _) (cl1 (n:=16) (m:=1) (Flat.len _) (cl1 (n:=1) (m:=0) rfl cl0)))))) (cl1 (n:=16) (m:=56) (Flat.len _) (cl1 (n:=16) (m:=40) (Flat.len _) (cl1 (n:=1) (m:=39) rfl (cl1 (n:=36) (m:=3) (Zg (cl1 (n:=1) (m:=35) rfl (cl1 (n:=1) (m:=34) rfl (cl1 (n:=1) (m:=33) rfl (cl1 (n:=1) (m:=32) rfl (cl1 (n:=32) (m:=0) (Flat.len _) cl0)))))) (cl1 (n:=3) (m:=0) (Zg (cl1 (n:=1) (m:=2) rfl (cl1 (n:=1) (m:=1) rfl (cl1 (n:=1) (m:=0) rfl cl0)))) cl0))))))) fun a hE=>Zd hE Za ld rfl ?_))))); intro a hE
     obtain ⟨r46,e47,hF⟩:=bind_some hF
     refine Zw hE Za ld rfl cb9 (Qb _ (⟨r12.Cipher,r12.Key,r12.Start,r26.1.Data,(⟨r26.1.Vault.Keys,r12.Vault.Next,r26.1.Vault.Records,r26.1.Vault.Events,r12.Vault.Head⟩ : GVault),r26.1.Blobs⟩ : GDesk) u14 (hM.ro (pre:=[_,_,_,_,_,_,_,_]) noB) u15 (hM.ro (pre:=[_,_,_,_,_,_,_,_,_]) noB) u16 (hM.ro (pre:=[_,_,_,_,_,_,_,_,_,_]) noB) u17 (hM.ro (pre:=[_,_,_,_,_,_,_,_,_,_,_]) noB) u18 (hM.ro (pre:=[_,_,_,_,_,_,_,_,_,_,_,_]) noB) u19 (hM.ro (pre:=[_,_,_,_,_,_,_,_,_,_,_,_,_]) noB) u20 (hM.ro (pre:=[_,_,_,_,_,_,_,_,_,_,_,_,_,_]) noB) 1 r46 e47) ?_
     rintro v w a ⟨rfl,hK⟩ hE
     have hM:=hM.keep hK
     refine Ze hE Za ld rfl fun a hE=>Zf (wp_seq (Zc (Zd hE Za ld rfl fun a hE=>Zi hE Za ld rfl rfl rfl fun a hE=>Zf ?_)))
     refine Zp hE rfl ?_ ?_
     ·intro hb48
      have hF:=Zz hF hb48
      refine Zc (Ze hE Za ld rfl fun a hE=>Zf ?_)
      have hr:=Option.some.inj hF
      subst hr
      have hM:=M.fst (l:=[]) hM
      exact wp_ret (Zq (Zt hE rfl (Zs hE rfl) ⟨_,rfl,rfl,hM.kept⟩))
     ·intro hb48
      have hF:=Zy hF hb48
      refine wp_skip (Zu (wp_seq (Zc (Zd hE Za ld rfl fun a hE=>Zd hE Za ld rfl fun a hE=>Zi hE Za ld rfl rfl rfl fun a hE=>Zf ?_))))
      refine Zp hE rfl ?_ ?_
      ·intro hb49
       have hF:=Zz hF hb49
       refine Zc (Ze hE Za ld rfl fun a hE=>Zf ?_)
       have hr:=Option.some.inj hF
       subst hr
       have hM:=M.fst (l:=[]) hM
       exact wp_ret (Zq (Zt hE rfl (Zs hE rfl) ⟨_,rfl,rfl,hM.kept⟩))
      ·intro hb49
       have hF:=Zy hF hb49
       refine wp_skip (Zu (Zc (Ze hE Za ld rfl fun a hE=>Zf ?_)))
       have hr:=Option.some.inj hF
       subst hr
       have hM:=M.fst (l:=[]) hM
       exact wp_ret (Zt hE rfl (Zs hE rfl) ⟨_,rfl,rfl,hM.kept⟩)
end

end Go.Proofs.YtlpppjjlffgkmaaGreat
