/- Plain laws, no program in sight. -/
import Derived.Test.YtfhhlkkhcoaapaaGreatDoorC4
set_option linter.unusedVariables false
set_option linter.unusedSimpArgs false
set_option maxRecDepth 20000
set_option maxHeartbeats 400000
namespace Go.Proofs.YtfhhlkkhcoaapaaGreatDoor
open Go
open Flat (enc)
theorem Ao {m : Nat} (hf : ZV (m : Int) = true) {l v : List UInt8} (hl : 1 ≤ l.length ∧ l.length ≤ 40) (hd : WM l = true) (hv : v.length = l.length) : ∃ r,Wq (m : Int) l v = some r ∧ (r.2 = 0 ∧ r.1.length = l.length ∧ r.1.getD 0 0 = A0 m l v l.length):=by
 obtain ⟨n,e,h1,h2⟩:=XD hf
 have e : m = n:=by omega
 subst e
 unfold Wq X9
 rw [JI,Option.bind_some,hf,if_neg (by decide),QG l (by omega)]
 simp only [Option.bind_some,JG]
 have c1 : decide ((1 : Int) ≤ (l.length : Int) ∧ (l.length : Int) ≤ 40) = true:=by simp only [decide_eq_true_eq]; omega
 rw [c1,if_neg (by decide),hv]
 simp only [bne_self_eq_false,Option.bind_some,Bool.false_eq_true,if_false,hd,Bool.not_true]
 exact Zp (Al h1 h2 hl.2 (by unfold WM at hd; simpa using hd) hv) fun r hr=>⟨_,rfl,rfl,hr⟩
theorem ko {m : Int} {l : List UInt8} (h : (Tz m l).2 = 0) : ∃ n : Nat,m = n ∧ 256 ≤ n ∧ n < 512 ∧ ZV (n : Int) = true ∧ (1 ≤ l.length ∧ l.length ≤ 12) ∧ WM l = true ∧ Tz m l = (l.map (wtC n l),0):=by
 unfold Tz at h ⊢
 cases hf : ZV m with
 | false=>rw [hf] at h; cases h
 | true =>
  obtain ⟨n,rfl,h1,h2⟩:=XD hf
  rw [hf,if_neg (by decide)] at h
  by_cases c : l.length < 1 ∨ 12 < l.length
  ·rw [if_pos c] at h; cases h
  ·rw [if_neg c] at h
   cases hp : Qf l with
   | false=>rw [hp] at h; cases h
   | true =>
    refine ⟨n,rfl,h1,h2,hf,by omega,?_,?_⟩
    ·unfold Qf at hp
     rw [Bool.and_eq_true] at hp
     exact hp.2
    ·rw [if_neg (by decide),if_neg c,if_neg (by decide),Int.toNat_natCast]

theorem kf {m : Int} {d o : List UInt8} {l : List GShare} {t : Int} (h : (QX m d o l t).2 = 0) (ht : (l.length : Int) < t) : (QX m d o l t).1 = true:=by
 have hfew : ∀ x : GShare,Ti m.toNat (x :: l) t.toNat = true:=fun x=>by
  unfold Ti
  have e : (x :: l).length - t.toNat = 0:=by rw [List.length_cons]; omega
  rw [e]; rfl
 unfold QX at h ⊢
 by_cases hb : YJ m l t = 0
 ·rw [hb,if_neg (by decide)] at h ⊢
  by_cases c : d.length ≠ o.length ∨ d.length ≠ dataN l
  ·rw [if_pos c] at h; cases h
  ·rw [if_neg c,hfew,hfew]; rfl
 ·have : (YJ m l t != 0) = true:=by simpa using hb
  rw [this,if_pos rfl] at h
  exact absurd h hb

theorem jj {l : List GShare} {n : Nat} (h : Wt.wt l ≤ n) : l.length ≤ n ∧ ∀ s ∈ l,s.Data.length ≤ n:=by
 rw [HY] at h
 refine ⟨by omega,fun s hs=>?_⟩
 have : ∀ l : List GShare,s ∈ l → s.Data.length ≤ (l.map Wt.wt).sum:=by
  intro l
  induction l with
  | nil=>intro h; cases h
  | cons x l ih =>
   intro h
   rw [List.map_cons,List.sum_cons]
   rcases List.mem_cons.1 h with rfl | h
   ·have e : Wt.wt s = Wt.wt s.Data:=rfl
    rw [Jg] at e; omega
   ·have:=ih h; omega
 have:=this l hs
 omega
theorem HA (p : List UInt8) (_ : Dat.bd p) : Vl p = some true:=by
 unfold Vl
 refine YV (r:=decide ((p.length : Int) > 4096)) rfl ?_
 by_cases hbig : (p.length : Int) > 4096
 ·rw [if_pos (by simpa using hbig)]
 rw [if_neg (by simpa using hbig)]
 have hp : p.length ≤ 4096:=by omega
 obtain ⟨⟨m,l,t⟩,e,hs⟩:=H3 hp
 have hs : Vn l:=hs
 have hll:=hs.1
 refine YV e (YV (JV m l t (by omega)) (YV (JX m l t (by omega)) (KJ ?_ (j0 (jO fun hc=>?_) ?_))))
 ·have hfl : (TG m l t).1.length ≤ 100000:=by
   unfold TG
   split
   ·simp
   ·split
    ·simp
    ·have:=QU (VR m.toNat l t.toNat (2 ^ l.length)) l.length; show (XG _ _).length ≤ _; omega
  rw [if_neg (by simp),zC _ hfl]; rfl
 ·have hc : (TG m l t).2 = 0:=by simpa using hc
  obtain ⟨B,hB,hl12,e1,e2,e3⟩:=qM hc
  refine YV (qr (m,l,t) l rfl B _ e1 hl12) (YV (Bc m (Tk l B) t (by have:=(Q3 l B).length_le; omega)) (KJ ?_ rfl))
  rw [e2,e1]
  have hr:=QU B l.length
  have ht1 : 1 ≤ t ∧ t ≤ 8:=by
   have hb : YJ m l t = 0:=by
    by_cases hb : YJ m l t = 0
    ·exact hb
    ·unfold TG at hc
     have : (YJ m l t != 0) = true:=by simpa using hb
     rw [this,if_pos rfl] at hc
     exact absurd hc hb
   exact (UH hb).2.2
  have w1 : wr (2 * ((XG B l.length).length : Int)) = 2 * ((XG B l.length).length : Int):=YM (by omega)
  have w2 : wr (t + 2 * ((XG B l.length).length : Int)) = t + 2 * ((XG B l.length).length : Int):=YM (by omega)
  rw [if_neg (by decide),if_neg (by decide),w1,w2]
  exact congrArg some (decide_eq_false (by show ¬ (l.length : Int) < _; omega))
 obtain ⟨⟨k,ps⟩,ew,hw⟩:=AB hp
 have hw : ps.length ≤ 13:=hw
 refine YV ew (YV (BM k ps (by omega)) (YV (Bd k ps (by omega)) (KJ ?_ (j0 (jO fun hc=>?_) ?_))))
 ·rw [if_neg (by simp),Q4 _ (by have:=yx k ps; omega)]; rfl
 ·have hc : (Tz k ps).2 = 0:=by simpa using hc
  obtain ⟨n,rfl,h1,h2,hf,hpl,hd,he⟩:=ko hc
  rw [he,if_neg (by simp)]
  obtain ⟨s,es,hsrc⟩:=Zau hp 906
  obtain ⟨v,ev,hv⟩:=qj hp hsrc (n:=ps.length) (by omega)
  obtain ⟨⟨poly,c0⟩,ei,hi1,hi2,hi3⟩:=Ao hf (v:=v.2) ⟨hpl.1,by omega⟩ hd hv.2
  have hi1 : c0 = 0:=hi1
  have hi2 : poly.length = ps.length:=hi2
  subst hi1
  refine YV es (YV ev (YV ei (KJ ?_ ?_)))
  ·rw [if_neg (by simp)]
   refine congrArg some ?_
   have : ¬ (poly.length : Int) = 0:=by omega
   simpa using this
  ·refine YV (Zat h2 hf (by omega) hv.2 _ rfl _ rfl _ rfl) ?_
   have e0 : idx poly (0 : Int) = some (poly.getD 0 0):=by rw [Tu,List.getD_eq_getElem?_getD,List.getElem?_eq_getElem (by omega)]; rfl
   show (idx poly (0 : Int)).bind _ = _
   rw [e0,Option.bind_some]
   have hi3 : poly.getD 0 0 = A0 n ps v.2 ps.length:=hi3
   rw [hi3,if_neg (by simp)]
 obtain ⟨⟨m2,d,o,l2,t2⟩,eh,hh⟩:=zJ hp
 have hh : Vn l2:=hh
 have hl2:=hh.1
 refine YV eh (YV (Ak m2 d o l2 t2 (by omega)) (YV (B7 m2 d o l2 t2 (by omega)) (KJ ?_ ?_)))
 ·rw [if_neg (by simp),if_neg (by simp)]
  by_cases hc : (QX m2 d o l2 t2).2 = 0
  ·rw [if_pos (by simpa using hc)]
   by_cases ht : (l2.length : Int) < t2
   ·rw [if_pos (Q0 ht),kf hc ht]; rfl
   ·rw [if_neg (J1 ht)]
  ·rw [if_neg (by simpa using hc)]
 obtain ⟨s,et,hst⟩:=zb hp
 refine YV et (YV (BE s) (YV (Bv s) (KJ ?_ (j0 (jO fun hc=>?_) ?_))))
 ·rw [if_neg (by simp),decide_eq_true rfl]; rfl
 ·have hsh : Yf s = true:=by
   unfold AF at hc
   cases h : Yf s with
   | true=>rfl
   | false=>rw [h] at hc; cases hc
  have e1 : (AF s).1 = Qo s:=by unfold AF; rw [hsh]; rfl
  have hln : (Qo s).l.length ≤ 60000000000:=by
   have hd:=Kn 3 s.Place.toNat (10 ^ 3) rfl (by have:=s.Place.toNat_lt; omega) (by have:=s.Place.toNat_lt; omega) (by omega) (by omega)
   have h1:=hd.2
   have h2:=Ky s.Data
   show ((Lib.decDigits s.Place.toNat ++ [58]) ++ Qi s.Data).length ≤ _
   simp only [List.length_append,List.length_singleton]
   omega
  have ep:=Q2 (Qo s).l hln
  rw [kx hsh] at ep
  rw [e1]
  refine YV ep (KJ ?_ rfl)
  rw [if_neg (by simp),if_neg (by simp),Q4 _ (by show s.Data.length ≤ 1000; omega)]; rfl
 obtain ⟨w,ewd,hwd⟩:=Aa hp
 obtain ⟨wl⟩:=w
 have hwd : wl.length ≤ 50000000000:=hwd
 obtain ⟨⟨f,a,cs⟩,er,hr1,hr2,hr3⟩:=Hl hp
 have hr1 : Vn a:=hr1
 have hr2 : cs.length ≤ 8:=hr2
 have hwa:=za hr1
 have hwc : Wt.wt cs ≤ 1048576:=by
  have hr3 : ∀ c ∈ cs,c.length ≤ 8:=hr3
  rw [HY]
  have : ∀ cs : List (List UInt8),(∀ c ∈ cs,c.length ≤ 8) → (cs.map Wt.wt).sum ≤ 8 * cs.length:=by
   intro cs
   induction cs with
   | nil=>intro _; simp
   | cons c cs ih =>
    intro h
    have i1:=ih fun y hy=>h y (List.mem_cons_of_mem _ hy)
    have i2:=h c (List.mem_cons_self ..)
    have e : Wt.wt c = c.length:=Jg c
    simp only [List.map_cons,List.sum_cons,List.length_cons]
    omega
  have:=this cs hr3
  omega
 obtain ⟨⟨g,b,c⟩,ea,ha1,ha2⟩:=zy hp
 have ha1 : Vn b:=ha1
 have ha2 : Vn c:=ha2
 have hwb:=za ha1
 have hwcc:=za ha2
 refine YV ewd (YV (Q2 wl (by omega)) (YV (HF wl (by omega)) (YV er (YV (Jm f a cs (by omega) hwc) (YV (Jq f a cs (by omega) hwc) (YV ea (YV (Bw g b c (by omega) (by omega)) (YV (Bo g b c (by omega) (by omega)) ?_))))))))
 have hrs:=jj (Nat.le_trans (jM f a cs) hwa)
 have has:=jj (Nat.le_trans (zB g b c) hwb)
 have hpl:=ky wl
 rw [if_pos (by simp),if_pos (by simp),Q4 _ (by omega)]
 simp only [Option.bind_some,BEq.rfl,if_true]
 rw [HP _ (by omega) (fun s hs=>by have:=hrs.2 s hs; omega)]
 simp only [Option.bind_some,if_true]
 rw [HP _ (by omega) (fun s hs=>by have:=has.2 s hs; omega)]
 rfl
end Go.Proofs.YtfhhlkkhcoaapaaGreatDoor
