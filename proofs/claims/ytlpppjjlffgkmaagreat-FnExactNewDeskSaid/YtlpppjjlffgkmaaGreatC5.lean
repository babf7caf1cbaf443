/- Plain laws, no program in sight. -/
import Derived.Test.YtlpppjjlffgkmaaGreatC4
set_option linter.unusedVariables false
set_option linter.unusedSimpArgs false
set_option maxRecDepth 20000
set_option maxHeartbeats 400000
namespace Go.Proofs.YtlpppjjlffgkmaaGreat
open Go
open Flat (enc)
theorem y9 {α : Type} {l : List α} {i : Nat} (h : i < l.length) : idx l (i : Int) = some l[i]:=by
 unfold idx
 rw [if_pos (by omega)]
 simp
theorem WX {i : Nat} (h : i < 9223372036854775807) : wr ((i : Int) + 1) = ((i + 1 : Nat) : Int):=by
 rw [YH (by omega)]; rfl

section
variable {S T : Type} {f : S → Option (Fl S T)}
theorem jj (g : Nat → S) (m n : Nat) (hmn : m ≤ n) (h : ∀ i, m ≤ i → i < n → f (g i) = some (.nx (g (i + 1)))) : ZE f (g m) = ZE f (g n) := by
  induction n with
  | zero => have : m = 0 := by omega
            subst this; rfl
  | succ n ih =>
    rcases Nat.lt_or_ge m (n + 1) with h1 | h1
    · rw [ih (by omega) (fun i h2 h3 => h i h2 (by omega)), Wn (h n (by omega) (by omega))]
    · have : m = n + 1 := by omega
      subst this; rfl
theorem ZW (g : Nat → S) (m n : Nat) (hmn : m ≤ n) {t : T} (h : ∀ i,m ≤ i → i < n → f (g i) = some (.nx (g (i + 1)))) (he : f (g n) = some (.ex t)) : ZE f (g m) = some t:=by
 rw [jj g m n hmn h,YD he]
theorem Bp (g : Nat → S) (p : Nat → Bool) (t : Nat → T) {e : T} (n : Nat) : ∀ (k m : Nat),m + k = n → (∀ i,m ≤ i → i < n → f (g i) = some (if p i then .ex (t i) else .nx (g (i + 1)))) → f (g n) = some (.ex e) →
  ZE f (g m) = some (((List.range' m k).find? p).elim e t)
 | 0,m,hk,_,he=>by
  have : m = n:=by omega
  subst this
  rw [YD he]; rfl
 | k + 1,m,hk,h,he=>by
  have h1:=h m (Nat.le_refl _) (by omega)
  rw [List.range'_succ,List.find?_cons]
  cases hp : p m with
  | true=>rw [hp] at h1; rw [YD h1]; rfl
  | false =>
   rw [hp] at h1
   rw [Wn h1,Bp g p t n k (m + 1) (by omega) (fun i h2 h3=>h i (by omega) h3) he]
end

class Wt (α : Type) [Dat α] where
 wt : α → Nat
 ln : α → Prop
 bdln : ∀ x,Dat.bd x → ln x
 wtln : ∀ x,wt x ≤ 1048576 → ln x
instance : Wt Int:=⟨fun _=>0,fun _=>True,fun _ _=>trivial,fun _ _=>trivial⟩
instance : Wt UInt8:=⟨fun _=>0,fun _=>True,fun _ _=>trivial,fun _ _=>trivial⟩
instance : Wt Bool:=⟨fun _=>0,fun _=>True,fun _ _=>trivial,fun _ _=>trivial⟩
instance : Wt Str:=⟨fun s=>s.l.length,fun s=>s.l.length ≤ 9223372036854775807,fun _ h=>h,fun _ h=>by omega⟩
instance {n : Nat} : Wt (Vector UInt8 n):=⟨fun _=>0,fun _=>True,fun _ _=>trivial,fun _ _=>trivial⟩
instance {n m : Nat} : Wt (Vector (Vector UInt8 m) n):=⟨fun _=>0,fun _=>True,fun _ _=>trivial,fun _ _=>trivial⟩
theorem jc {α : Type} {f : α → Nat} {l : List α} {x : α} (h : x ∈ l) : f x ≤ (l.map f).sum:=by
 induction l with
 | nil=>cases h
 | cons y l ih =>
  rw [List.map_cons,List.sum_cons]
  rcases List.mem_cons.1 h with rfl | h
  ·omega
  ·have:=ih h; omega
instance {α : Type} [Dat α] [Wt α] : Wt (List α):=⟨fun l=>l.length + (l.map Wt.wt).sum,fun l=>l.length ≤ 9223372036854775807 ∧ ∀ x ∈ l,Wt.ln x,fun _ h=>⟨h.1,fun x hx=>Wt.bdln x (h.2 x hx)⟩,
 fun l h=>⟨by omega,fun x hx=>Wt.wtln x (by have:=jc (f:=Wt.wt) hx; omega)⟩⟩
instance {α β : Type} [Dat α] [Dat β] [Wt α] [Wt β] : Wt (α × β):=⟨fun x=>Wt.wt x.1 + Wt.wt x.2,fun x=>Wt.ln x.1 ∧ Wt.ln x.2,fun x h=>⟨Wt.bdln x.1 h.1,Wt.bdln x.2 h.2⟩,fun x h=>⟨Wt.wtln x.1 (by omega),Wt.wtln x.2 (by omega)⟩⟩
theorem TF {α : Type} [Dat α] [Wt α] {l : List α} (h : Wt.ln l) : l.length ≤ 9223372036854775807:=h.1
theorem zc {α : Type} [Dat α] [Wt α] {l : List α} {x : α} (h : Wt.ln l) (hx : x ∈ l) : Wt.ln x:=h.2 x hx

theorem T7 {α : Type} (p0 : List α) (ne : α → α → Option Bool) (L : Int → Option (Fl Int (Fl Unit Bool)))
  (hL : ∀ s,L s = if (decide (s < (p0.length : Int))) = true then (((idx p0 s).bind fun x=>(idx p0 s).bind fun y=>ne x y : Option Bool).bind fun j=>if j = true then (some (Fl.ex (Fl.ex false))) else (some (Fl.nx (wr (s + 1))))) else (some (Fl.ex (Fl.nx ()))))
  (hn : ∀ x ∈ p0,ne x x = some false) (hl : p0.length ≤ 9223372036854775807) :
  (if ((p0.length : Int) != (p0.length : Int)) = true then (some false) else ((ZE L 0 : Option (Fl Unit Bool)).bind fun j2=>j2.el (fun _=>some true) (fun r=>some r))) = some true:=by
 have:=ZW (f:=L) (fun i : Nat=>(i : Int)) 0 p0.length (Nat.zero_le _) (t:=.nx ()) (fun i _ hi=>by
  rw [hL]
  simp only [Int.ofNat_lt,hi,decide_true,if_true,y9 hi,Option.bind_some,hn _ (List.getElem_mem hi)]
  simp [WX (show i < 9223372036854775807 by omega)]) (by
  rw [hL]; simp)
 have h2 : ZE L 0 = some (.nx ()):=this
 simp [h2,Fl.el]

@[simp] theorem Xj {α : Type} (l : List α) (i : Nat) : idx l (i : Int) = l[i]?:=by unfold idx; simp
@[simp] theorem idx_zero {α : Type} (l : List α) : idx l (0 : Int) = l[0]?:=Xj l 0
theorem TU {α β S T : Type} {f : S → Option (Fl S T)} (l : List α) (pack : β → Int → S) (g : β → α → β) (b0 : β) {t : T} (hn : l.length < 9223372036854775807)
  (h : ∀ i (hi : i < l.length),f (pack ((l.take i).foldl g b0) (i : Int)) = some (.nx (pack (g ((l.take i).foldl g b0) l[i]) (wr ((i : Int) + 1))))) (he : f (pack (l.foldl g b0) (l.length : Int)) = some (.ex t)) :
  ZE f (pack b0 0) = some t:=by
 have:=ZW (f:=f) (fun i : Nat=>pack ((l.take i).foldl g b0) (i : Int)) 0 l.length (Nat.zero_le _) (t:=t) (fun i _ hi=>by
  rw [h i hi,WX (by omega)]
  congr 3
  rw [List.take_succ_eq_append_getElem hi,List.foldl_append]; rfl) (by rw [List.take_length]; exact he)
 simpa using this
theorem H1 {α β : Type} (g : α → β) (l : List α) (acc : List β) : l.foldl (fun b x=>b ++ [g x]) acc = acc ++ l.map g:=by
 induction l generalizing acc with
 | nil=>simp
 | cons x l ih=>simp [ih]
theorem yN {α β T : Type} {f : List β × Int → Option (Fl (List β × Int) T)} (l : List α) (g : α → β) {t : T} (hn : l.length < 9223372036854775807)
  (h : ∀ i (hi : i < l.length),f ((l.take i).map g,(i : Int)) = some (.nx ((l.take i).map g ++ [g l[i]],wr ((i : Int) + 1)))) (he : f (l.map g,(l.length : Int)) = some (.ex t)) :
  ZE f ([],0) = some t:=by
 have e : ∀ m : List α,m.foldl (fun b x=>b ++ [g x]) [] = m.map g:=fun m=>by rw [H1]; rfl
 exact TU (f:=f) l (fun b i=>(b,i)) (fun b x=>b ++ [g x]) [] hn (fun i hi=>by simp only [e]; exact h i hi) (by simp only [e]; exact he)
theorem V2 {α : Type} {by_ : Nat} {l m : List α} (h : (l.length + m.length) * by_ ≤ 140737488355328) : app by_ l m = some (l ++ m):=by unfold app; rw [if_pos h]
theorem Bx {α : Type} {l : List α} {i j : Nat} (h : i ≤ j) (h2 : j ≤ l.length) : slc l (i : Int) (j : Int) = some ((l.take j).drop i):=by
 unfold slc; rw [if_pos (by omega)]; simp

theorem TJ {α : Type} {n : Nat} {v w : Vector α n} (h : ∀ i (hi : i < n),v[i] = w[i]) : v = w:=Vector.ext h
@[simp] theorem Wk {α : Type} {n : Nat} (v : Vector α n) (i : Nat) : ZI v (i : Int) = v[i]?:=by unfold ZI; simp
theorem Hd {n : Nat} (p0 : Vector UInt8 n) (L : Int → Option (Fl Int (Fl Unit Bool)))
  (hL : ∀ s,L s = if decide (s < (n : Int)) = true then (((ZI p0 s).bind fun x=>(ZI p0 s).bind fun y=>some (x != y) : Option Bool).bind fun j=>if j = true then (some (Fl.ex (Fl.ex false))) else (some (Fl.nx (wr (s + 1))))) else (some (Fl.ex (Fl.nx ())))) (hn : n < 9223372036854775807) :
  ((ZE L 0 : Option (Fl Unit Bool)).bind fun j5=>j5.el (fun _=>some true) (fun r=>some r)) = some true:=by
 have:=ZW (f:=L) (fun i : Nat=>(i : Int)) 0 n (Nat.zero_le _) (t:=.nx ()) (fun i _ hi=>by
  rw [hL]
  simp only [Int.ofNat_lt,hi,decide_true,if_true,Wk,Vector.getElem?_eq_getElem hi,Option.bind_some]
  simp [WX (show i < 9223372036854775807 by omega)]) (by rw [hL]; simp)
 have h2 : ZE L 0 = some (.nx ()):=this
 rw [h2]; rfl

def Qa (n : Nat) (k : Int) : Vector UInt8 n:=Vector.ofFn fun j=>Zx (k + j)
theorem BA {k : Int} (h : 0 ≤ k) (h2 : k < 9223372036854775807) : wr (k + 1) = k + 1:=YH (by omega)
theorem Kk {α : Type} {n : Nat} (get : α → Vector UInt8 n) (put : α → Vector UInt8 n → α) (i : Nat) (I : Int) (hI : I = i) (L : List α × Int × Int → Option (Fl (List α × Int × Int) (List α × Int)))
  (hL : ∀ s,L s = if decide (s.2.2 < (n : Int)) = true then ((idx s.1 I).bind fun x=>(ZI (get x) s.2.2).bind fun _=>some (Fl.nx (s.1.set (I).toNat (put x ((get x).setIfInBounds (s.2.2).toNat (Zx s.2.1))),wr (s.2.1 + 1),wr (s.2.2 + 1)))) else (some (Fl.ex (s.1,s.2.1))))
  (hgp : ∀ x v,get (put x v) = v) (hpp : ∀ x v w,put (put x v) w = put x w) (hpg : ∀ x,put x (get x) = x) (hn : n < 9223372036854775807)
  (l : List α) (hi : i < l.length) (k : Int) (h0 : 0 ≤ k) (hk : k + n ≤ 4611686018427387904) : ZE L (l,k,0) = some (l.set i (put l[i] (Qa n k)),k + n):=by
 subst hI
 have:=ZW (f:=L) (fun j : Nat=>(l.set i (put l[i] (Vector.ofFn fun q : Fin n=>if q.1 < j then Zx (k + q) else (get l[i])[q])),k + j,(j : Int))) 0 n (Nat.zero_le _) (t:=(l.set i (put l[i] (Qa n k)),k + n)) (fun j _ hj=>by
  rw [hL]
  have hi' : i < (l.set i (put l[i] (Vector.ofFn fun q : Fin n=>if q.1 < j then Zx (k + q) else (get l[i])[q]))).length:=by simpa using hi
  simp only [Int.ofNat_lt,hj,decide_true,if_true,Xj,Wk,List.getElem?_eq_getElem hi',Vector.getElem?_eq_getElem hj,Option.bind_some,Int.toNat_natCast,WX (show j < 9223372036854775807 by omega),List.getElem_set_self,hgp,hpp,List.set_set]
  rw [BA (by omega) (by omega)]
  congr 3
  ·congr 2
   apply TJ
   intro q hq
   rw [Vector.getElem_setIfInBounds]
   simp only [Vector.getElem_ofFn,Fin.getElem_fin]
   by_cases h : j = q
   ·subst h; simp
   ·by_cases h2 : q < j
    ·simp [h,h2,show q < j + 1 by omega]
    ·simp [h,h2,show ¬ q < j + 1 by omega]
  ·congr 1
   omega) (by
  rw [hL]
  simp only [Int.ofNat_lt,Nat.lt_irrefl,decide_false,Bool.false_eq_true,if_false]
  have e : (Vector.ofFn fun q : Fin n=>if q.1 < n then Zx (k + q) else (get l[i])[q]) = Qa n k:=by
   unfold Qa
   apply TJ
   intro j hj
   simp [hj]
  rw [e])
 have h0' : (Vector.ofFn fun q : Fin n=>if q.1 < 0 then Zx (k + q) else (get l[i])[q]) = get l[i]:=by
  apply TJ
  intro j hj
  simp
 rw [h0',hpg,List.set_getElem_self] at this
 simpa using this
theorem KF {α : Type} {n : Nat} (get : α → Vector UInt8 n) (l : List α) (i : Nat) (I : Int) (hI : I = i) (L : Int × Int → Option (Fl (Int × Int) (Fl Int Int)))
  (hL : ∀ s,L s = if decide (s.2 < (n : Int)) = true then ((idx l I).bind fun x=>(ZI (get x) s.2).bind fun b=>if (b != (Zx s.1)) = true then (some (Fl.ex (Fl.ex (-1)))) else (some (Fl.nx (wr (s.1 + 1),wr (s.2 + 1))))) else (some (Fl.ex (Fl.nx s.1))))
  {x : α} (hx : l[i]? = some x) (k : Int) (h0 : 0 ≤ k) (hk : k + n ≤ 4611686018427387904) (hg : get x = Qa n k) : ZE L (k,0) = some (.nx (k + n)):=by
 subst hI
 have:=ZW (f:=L) (fun j : Nat=>(k + j,(j : Int))) 0 n (Nat.zero_le _) (t:=.nx (k + n)) (fun j _ hj=>by
  rw [hL]
  simp only [Int.ofNat_lt,hj,decide_true,if_true,Xj,Wk,hx,Vector.getElem?_eq_getElem hj,Option.bind_some,WX (show j < 9223372036854775807 by omega)]
  rw [BA (by omega) (by omega)]
  have : (get x)[j] = Zx (k + j):=by simp [hg,Qa]
  rw [this]
  simp only [bne_self_eq_false,Bool.false_eq_true,if_false]
  congr 3
  omega) (by rw [hL]; simp)
 simpa using this
def Hb {α : Type} (Fm : α → Int → Option (α × Int)) (Fh : α → Int → Option Int) (x : α) (n : Nat) : Prop :=
 ∀ k : Int,0 ≤ k → k + n ≤ 4611686018427387904 → ∃ x',Fm x k = some (x',k + n) ∧ Fh x' k = some (k + n)
theorem QL {α : Type} (Fm : List α → Int → Option (List α × Int)) (Fh : List α → Int → Option Int) (Lm : List α × Int × Int → Option (Fl (List α × Int × Int) (List α × Int))) (Lh : List α → Int × Int → Option (Fl (Int × Int) (Fl Int Int))) (mk : α → Nat)
  (hFm : ∀ l k,Fm l k = (ZE Lm (l,k,0) : Option (List α × Int)).bind fun j1=>some (j1.1,j1.2)) (hFh : ∀ l k,Fh l k = (ZE (Lh l) (k,0) : Option (Fl Int Int)).bind fun j1=>j1.el (fun s=>some s) (fun r=>some r))
  (l : List α) (hl : l.length ≤ 9223372036854775807)
  (hm : ∀ (l' : List α) (i : Nat) (k : Int) (hi : i < l'.length),l'[i] ∈ l → i < 9223372036854775807 → 0 ≤ k → k + mk l'[i] ≤ 4611686018427387904 → ∃ x',Lm (l',k,(i : Int)) = some (.nx (l'.set i x',k + mk l'[i],wr ((i : Int) + 1))) ∧
   ∀ (m : List α),m[i]? = some x' → Lh m (k,(i : Int)) = some (.nx (k + mk l'[i],wr ((i : Int) + 1))))
  (hme : ∀ (l' : List α) k,Lm (l',k,(l'.length : Int)) = some (.ex (l',k))) (hhe : ∀ (m : List α) k,Lh m (k,(m.length : Int)) = some (.ex (.nx k))) : Hb Fm Fh l (l.map mk).sum:=by
 have aux : ∀ (n i : Nat) (l' : List α) (k : Int),i + n = l'.length → l'.length = l.length → l'.drop i = l.drop i → 0 ≤ k → k + (((l.drop i).map mk).sum : Nat) ≤ 4611686018427387904 →
   ∃ l'',ZE Lm (l',k,(i : Int)) = some (l'',k + (((l.drop i).map mk).sum : Nat)) ∧ l''.length = l'.length ∧ (∀ j,j < i → l''[j]? = l'[j]?) ∧ ZE (Lh l'') (k,(i : Int)) = some (.nx (k + (((l.drop i).map mk).sum : Nat))):=by
  intro n
  induction n with
  | zero =>
   intro i l' k hi hll hd h0 hk
   have hi : i = l'.length:=by omega
   subst hi
   have e : l.drop l'.length = []:=by rw [hll]; simp
   rw [e]
   refine ⟨l',?_,rfl,fun _ _=>rfl,?_⟩
   ·rw [YD (hme l' k)]; simp
   ·rw [YD (hhe l' k)]; simp
  | succ n ih =>
   intro i l' k hi hll hd h0 hk
   have hil : i < l'.length:=by omega
   have hil2 : i < l.length:=by omega
   have e1 : l'[i] = l[i]:=by
    have h1:=List.drop_eq_getElem_cons hil
    have h2:=List.drop_eq_getElem_cons hil2
    rw [h1,h2] at hd
    exact (List.cons.inj hd).1
   have e2 : l.drop i = l[i] :: l.drop (i + 1):=List.drop_eq_getElem_cons hil2
   rw [e2,List.map_cons,List.sum_cons] at hk ⊢
   obtain ⟨x',h1,h2⟩:=hm l' i k hil (by rw [e1]; exact List.getElem_mem hil2) (by omega) h0 (by rw [e1]; omega)
   rw [e1] at h1 h2
   rw [WX (by omega)] at h1 h2
   obtain ⟨l'',k1,k2,k3,k4⟩:=ih (i + 1) (l'.set i x') (k + mk l[i]) (by simp; omega) (by simpa using hll) (by
    rw [List.drop_set_of_lt (by omega)]
    have h1:=List.drop_eq_getElem_cons hil
    rw [h1,e2] at hd
    exact (List.cons.inj hd).2) (by omega) (by omega)
   refine ⟨l'',?_,by simpa using k2,fun j hj=>?_,?_⟩
   ·rw [Wn h1,k1]; congr 2; omega
   ·rw [k3 j (by omega),List.getElem?_set_ne (by omega)]
   ·rw [Wn (h2 l'' (by rw [k3 i (by omega)]; simp [hil])),k4]; congr 2; omega
 intro k h0 hk
 obtain ⟨l'',k1,k2,k3,k4⟩:=aux l.length 0 l k (by omega) rfl rfl h0 (by simpa using hk)
 simp only [List.drop_zero] at k1 k4
 refine ⟨l'',?_,?_⟩
 ·rw [hFm]
  have : ZE Lm (l,k,0) = _:=k1
  rw [this]; rfl
 ·rw [hFh]
  have : ZE (Lh l'') (k,0) = _:=k4
  rw [this]; rfl
theorem QM (l : List UInt8) (h : Wt.ln l) : YR l l = some true:=by
 unfold YR
 exact T7 l (fun x y=>some (x != y)) (UD l l) (fun s=>by unfold UD; rfl) (fun x _=>by simp) (TF h)
theorem Jj (l : List UInt8) (h : Wt.ln l) : Hb Z9 Yk l (l.map fun _=>1).sum :=
 QL Z9 Yk Xu Xx (fun _=>1) (fun _ _=>rfl) (fun _ _=>rfl) l (TF h) (fun l' i k hi _ _ h0 hk=>by
  have e:=BA (k:=k) h0 (by omega)
  refine ⟨Zx k,?_,fun m hm=>?_⟩
  ·unfold Xu
   simp only [Int.ofNat_lt,hi,decide_true,if_true,Xj,List.getElem?_eq_getElem hi,Option.bind_some,Int.toNat_natCast,e]; rfl
  ·have hi':=(List.getElem?_eq_some_iff.1 hm).1
   unfold Xx
   simp only [Int.ofNat_lt,hi',decide_true,if_true,Xj,hm,Option.bind_some,bne_self_eq_false,Bool.false_eq_true,if_false,e]; rfl) (fun l' k=>by unfold Xu; simp) (fun m k=>by unfold Xx; simp)
theorem AU (l : List Int) (h : Wt.ln l) : Vr l l = some true:=by
 unfold Vr
 exact T7 l (fun x y=>some (x != y)) (Ul l l) (fun s=>by unfold Ul; rfl) (fun x _=>by simp) (TF h)
theorem AH (l : List (List UInt8)) (h : Wt.ln l) : Vo l l = some true:=by
 unfold Vo
 exact T7 l (fun x y=>(YR x y).bind fun r=>some (!r)) (V9 l l) (fun s=>by unfold V9; rfl) (fun x hx=>by simp [QM x (zc h hx)]) (TF h)
instance : Wt GRecord:=⟨fun x=>Wt.wt x.Label + Wt.wt x.Body,fun x=>Wt.ln x.Label ∧ Wt.ln x.Body,fun x h=>⟨Wt.bdln x.Label h.2.2.2.1,Wt.bdln x.Body h.2.2.2.2.1⟩,fun x h=>⟨Wt.wtln x.Label (by omega),Wt.wtln x.Body (by omega)⟩⟩
instance : Wt GEvent:=⟨fun _=>0,fun _=>True,fun _ _=>trivial,fun _ _=>trivial⟩
instance : Wt GVault:=⟨fun x=>Wt.wt x.Keys + (Wt.wt x.Records + Wt.wt x.Events),fun x=>Wt.ln x.Keys ∧ Wt.ln x.Records ∧ Wt.ln x.Events,fun x h=>⟨Wt.bdln x.Keys h.1,Wt.bdln x.Records h.2.2.1,Wt.bdln x.Events h.2.2.2.1⟩,
 fun x h=>⟨Wt.wtln x.Keys (by omega),Wt.wtln x.Records (by omega),Wt.wtln x.Events (by omega)⟩⟩
theorem Je (x : Vector UInt8 16) : YQ x x = some true:=by
 unfold YQ
 exact Hd x (UG x x) (fun s=>by unfold UG; rfl) (by omega)
theorem T6 (x : Vector UInt8 32) : YC x x = some true:=by
 unfold YC
 exact Hd x (Uk x x) (fun s=>by unfold Uk; rfl) (by omega)
theorem A7 (l : List (Vector UInt8 16)) (h : Wt.ln l) : Vl l l = some true:=by
 unfold Vl
 exact T7 l (fun x y=>(YQ x y).bind fun r=>some (!r)) (V7 l l) (fun s=>by unfold V7; rfl) (fun x _=>by simp [Je x]) (TF h)
theorem H3 (l' : List (Vector UInt8 16)) (i : Nat) (k : Int) (hi : i < l'.length) (h0 : 0 ≤ k) (hk : k + 16 ≤ 4611686018427387904) :
  Y8 (l',k,(i : Int)) = some (.nx (l'.set i (Qa 16 k),k + 16,wr ((i : Int) + 1))):=by
 unfold Y8
 have h1:=Kk (n:=16) (fun x : Vector UInt8 16=>x) (fun _ v=>v) i i rfl (Vi (l',k,(i : Int))) (fun s=>by unfold Vi; rfl) (fun _ _=>rfl) (fun _ _ _=>rfl) (fun _=>rfl) (by omega) l' hi k h0 hk
 simp only [Int.ofNat_lt,hi,decide_true,if_true,h1,Option.bind_some]
 rfl
theorem B1 (l : List (Vector UInt8 16)) (h : Wt.ln l) : Hb Wx WA l (l.map fun _=>16).sum :=
 QL Wx WA Y8 XT (fun _=>16) (fun _ _=>rfl) (fun _ _=>rfl) l (TF h) (fun l' i k hi _ _ h0 hk=>by
  refine ⟨Qa 16 k,H3 l' i k hi h0 (by omega),fun m hm=>?_⟩
  have hi':=(List.getElem?_eq_some_iff.1 hm).1
  unfold XT
  have h1:=KF (n:=16) (fun x : Vector UInt8 16=>x) m i i rfl (Vj m (k,(i : Int))) (fun s=>by unfold Vj; rfl) hm k h0 (by omega) rfl
  simp only [Int.ofNat_lt,hi',decide_true,if_true,h1,Option.bind_some,Fl.el]
  try rfl) (fun l' k=>by unfold Y8; simp) (fun m k=>by unfold XT; simp)
theorem AG (x : GRecord) (h : Wt.ln x) : We x x = some true:=by
 unfold We
 simp [Je,T6,QM x.Label h.1,QM x.Body h.2]
theorem Aa (l : List GRecord) (h : Wt.ln l) : WW l l = some true:=by
 unfold WW
 exact T7 l (fun x y=>(We x y).bind fun r=>some (!r)) (VJ l l) (fun s=>by unfold VJ; rfl) (fun x hx=>by simp [AG x (zc h hx)]) (TF h)
theorem zZ (x : GEvent) : W5 x x = some true:=by
 unfold W5
 simp [T6]
theorem A5 (l : List GEvent) (h : Wt.ln l) : VB l l = some true:=by
 unfold VB
 exact T7 l (fun x y=>(W5 x y).bind fun r=>some (!r)) (Ug l l) (fun s=>by unfold Ug; rfl) (fun x _=>by simp [zZ x]) (TF h)
theorem zY (x : GVault) (h : Wt.ln x) : VM x x = some true:=by
 unfold VM
 simp [T6,A7 x.Keys h.1,Aa x.Records h.2.1,A5 x.Events h.2.2]
def Vz (x : GRecord) : Nat:=50 + ((x.Label.map fun _=>1).sum + (x.Body.map fun _=>1).sum)
theorem Hy (l' : List GRecord) (i : Nat) (k : Int) (hi : i < l'.length) (h0 : 0 ≤ k) (hk : k + Vz l'[i] ≤ 4611686018427387904) {la bo : List UInt8}
  (hla : Z9 l'[i].Label (k + 18) = some (la,k + 18 + ((l'[i].Label.map fun _=>1).sum : Nat))) (hbo : Z9 l'[i].Body (k + 18 + ((l'[i].Label.map fun _=>1).sum : Nat)) = some (bo,k + 18 + ((l'[i].Label.map fun _=>1).sum : Nat) + ((l'[i].Body.map fun _=>1).sum : Nat))) :
  Y0 (l',k,(i : Int)) = some (.nx (l'.set i ⟨k,k + 1,Qa 16 (k + 2),la,bo,Qa 32 (k + 18 + ((l'[i].Label.map fun _=>1).sum : Nat) + ((l'[i].Body.map fun _=>1).sum : Nat))⟩,k + Vz l'[i],wr ((i : Int) + 1))):=by
 unfold Vz at hk
 have e1:=BA (k:=k) h0 (by omega)
 have e2:=BA (k:=k + 1) (by omega) (by omega)
 unfold Y0
 have hi2 : i < (l'.set i (⟨k,k + 1,l'[i].Nonce,l'[i].Label,l'[i].Body,l'[i].Tag⟩ : GRecord)).length:=by simpa using hi
 have h1:=Kk (n:=16) (fun x : GRecord=>x.Nonce) (fun x v=>⟨x.Number,x.Version,v,x.Label,x.Body,x.Tag⟩) i i rfl (WI (l',k,(i : Int))) (fun s=>by unfold WI; rfl) (fun _ _=>rfl) (fun _ _ _=>rfl) (fun _=>rfl) (by omega) _ hi2 (k + 1 + 1) (by omega) (by omega)
 rw [show k + 1 + 1 + ((16 : Nat) : Int) = k + 18 by omega] at h1
 simp only [List.getElem_set_self,List.set_set] at h1
 simp only [Int.ofNat_lt,hi,decide_true,if_true,Xj,List.getElem?_eq_getElem hi,Option.bind_some,Int.toNat_natCast,e1,List.getElem?_set_self hi,List.set_set,e2,h1,hla,hbo]
 have hi3 : i < (l'.set i (⟨k,k + 1,Qa 16 (k + 1 + 1),la,bo,l'[i].Tag⟩ : GRecord)).length:=by simpa using hi
 have h2:=Kk (n:=32) (fun x : GRecord=>x.Tag) (fun x v=>⟨x.Number,x.Version,x.Nonce,x.Label,x.Body,v⟩) i i rfl (WK (l',k,(i : Int))) (fun s=>by unfold WK; rfl) (fun _ _=>rfl) (fun _ _ _=>rfl) (fun _=>rfl) (by omega) _ hi3
  (k + 18 + ((l'[i].Label.map fun _=>1).sum : Nat) + ((l'[i].Body.map fun _=>1).sum : Nat)) (by omega) (by omega)
 simp only [List.getElem_set_self,List.set_set] at h2
 rw [h2]
 simp only [Option.bind_some]
 rw [show k + 1 + 1 = k + 2 by omega]
 congr 3
 congr 1
 unfold Vz
 omega
theorem H4 (l' : List GEvent) (i : Nat) (k : Int) (hi : i < l'.length) (h0 : 0 ≤ k) (hk : k + 34 ≤ 4611686018427387904) :
  Y9 (l',k,(i : Int)) = some (.nx (l'.set i ⟨k,k + 1,Qa 32 (k + 2)⟩,k + 34,wr ((i : Int) + 1))):=by
 have e1:=BA (k:=k) h0 (by omega)
 have e2:=BA (k:=k + 1) (by omega) (by omega)
 unfold Y9
 have hi2 : i < (l'.set i (⟨k,k + 1,l'[i].Tag⟩ : GEvent)).length:=by simpa using hi
 have h1:=Kk (n:=32) (fun x : GEvent=>x.Tag) (fun x v=>⟨x.Kind,x.Number,v⟩) i i rfl (Vf (l',k,(i : Int))) (fun s=>by unfold Vf; rfl) (fun _ _=>rfl) (fun _ _ _=>rfl) (fun _=>rfl) (by omega) _ hi2 (k + 1 + 1) (by omega) (by omega)
 rw [show k + 1 + 1 + ((32 : Nat) : Int) = k + 34 by omega] at h1
 simp only [List.getElem_set_self,List.set_set] at h1
 simp only [Int.ofNat_lt,hi,decide_true,if_true,Xj,List.getElem?_eq_getElem hi,Option.bind_some,Int.toNat_natCast,e1,List.getElem?_set_self hi,List.set_set,e2,h1]
 rw [show k + 1 + 1 = k + 2 by omega]
def TK (x : GVault) : Nat:=(x.Keys.map fun _=>16).sum + ((x.Records.map Vz).sum + (x.Events.map fun _=>34).sum)
theorem Jc (a : Nat) (h : a < 9223372036854775808) : (BitVec.ofInt 64 (a : Int)).toNat = a:=by
 rw [BitVec.toNat_ofInt]
 omega
theorem Qn (a b : Nat) (ha : a < 9223372036854775808) (hb : b < 9223372036854775808) : T8 (a : Int) (b : Int) = ((a ^^^ b : Nat) : Int):=by
 unfold T8
 rw [BitVec.toNat_xor,Jc a ha,Jc b hb]
 have : a ^^^ b < 2 ^ 63:=Nat.xor_lt_two_pow ha hb
 exact YH (by omega)
theorem yz (a b : Nat) (ha : a < 9223372036854775808) (hb : b < 9223372036854775808) : Tq (a : Int) (b : Int) = ((a &&& b : Nat) : Int):=by
 unfold Tq
 rw [BitVec.toNat_and,Jc a ha,Jc b hb]
 have : a &&& b < 2 ^ 63:=Nat.and_lt_two_pow _ hb
 exact YH (by omega)
theorem B5 (a i : Nat) (hi : i ≤ 63) (h : a <<< i < 9223372036854775808) : H2 (a : Int) (i : Int) = ((a <<< i : Nat) : Int):=by
 unfold H2
 rw [show min ((i : Int)).toNat 64 = i by omega]
 have : ((a : Int) * 2 ^ i) = ((a <<< i : Nat) : Int):=by rw [Nat.shiftLeft_eq]; simp
 rw [this]
 generalize a <<< i = x at h ⊢
 exact YH (by omega)
theorem yH (a i : Nat) (hi : i ≤ 63) : Uu (a : Int) (i : Int) = ((a >>> i : Nat) : Int):=by
 unfold Uu
 rw [show min ((i : Int)).toNat 64 = i by omega,Nat.shiftRight_eq_div_pow,Int.fdiv_eq_ediv_of_nonneg _ (by exact_mod_cast Nat.zero_le _)]
 simp
theorem Br (a i : Nat) : ((a >>> i) &&& 1 = 1) ↔ a.testBit i = true:=by
 rw [Nat.testBit,Nat.and_comm]
 have h:=Nat.and_one_is_mod (a >>> i)
 rw [Nat.and_comm] at h
 rw [h]
 rcases Nat.mod_two_eq_zero_or_one (a >>> i) with h | h <;> simp [h]
theorem z9 (a : Nat) : Int.tmod (a : Int) 2 = ((a % 2 : Nat) : Int):=by
 rw [Int.tmod_eq_emod_of_nonneg (by omega)]; simp
theorem ys (a : Nat) : Int.tdiv (a : Int) 2 = ((a / 2 : Nat) : Int):=by
 rw [Int.tdiv_eq_ediv_of_nonneg (by omega)]; simp
theorem zn (a : Nat) (h : a < 9223372036854775808) : wr (a : Int) = (a : Int):=YH (by omega)
theorem yt (a : Nat) (h : a < 9223372036854775808) : IntKind.u64.wrap (a : Int) = (a : Int):=by
 simp only [IntKind.wrap,IntKind.bits,IntKind.signed]
 simp
 omega

def Ys (m deg : Nat) : Nat → Nat → Nat
 | 0,a=>a
 | k + 1,a=>Ys m deg k (if a.testBit (deg + k) then a ^^^ (m <<< k) else a)
theorem Qx {m k n : Nat} (h : m < 2 ^ n) : m <<< k < 2 ^ (n + k):=by
 rw [Nat.shiftLeft_eq,Nat.pow_add]
 exact Nat.mul_lt_mul_of_pos_right h (Nat.two_pow_pos _)
theorem Bi {a n : Nat} (h : a < 2 ^ (n + 1)) (hb : a.testBit n = false) : a < 2 ^ n:=by
 apply Nat.lt_pow_two_of_testBit
 intro i hi
 rcases Nat.eq_or_lt_of_le hi with rfl | hi
 ·exact hb
 ·exact Nat.testBit_lt_two_pow (Nat.lt_of_lt_of_le h (Nat.pow_le_pow_right (by omega) hi))
theorem zt {m d : Nat} (h1 : 2 ^ d ≤ m) (h2 : m < 2 ^ (d + 1)) : m.testBit d = true:=by
 rw [Nat.testBit,Nat.shiftRight_eq_div_pow]
 have : m / 2 ^ d = 1:=by
  apply Nat.div_eq_of_lt_le
  ·simpa using h1
  ·rw [Nat.pow_succ] at h2; omega
 rw [this]; rfl
theorem jl {m d k a : Nat} (h1 : 2 ^ d ≤ m) (h2 : m < 2 ^ (d + 1)) (ha : a < 2 ^ (d + (k + 1))) (hb : a.testBit (d + k) = true) : a ^^^ (m <<< k) < 2 ^ (d + k):=by
 have hm : m <<< k < 2 ^ (d + (k + 1)):=by have:=Qx (k:=k) h2; rwa [show d + 1 + k = d + (k + 1) by omega] at this
 refine Bi (Nat.xor_lt_two_pow (by rwa [show d + k + 1 = d + (k + 1) by omega]) (by rwa [show d + k + 1 = d + (k + 1) by omega])) ?_
 rw [Nat.testBit_xor,hb,Nat.testBit_shiftLeft]
 simp [zt h1 h2]
theorem KP {m d : Nat} (h1 : 2 ^ d ≤ m) (h2 : m < 2 ^ (d + 1)) : ∀ (k a : Nat),a < 2 ^ (d + k) → Ys m d k a < 2 ^ d
 | 0,a,h=>by simpa [Ys] using h
 | k + 1,a,h=>by
  unfold Ys
  cases hb : a.testBit (d + k) with
  | true=>simp only [if_true]; exact KP h1 h2 k _ (jl h1 h2 h hb)
  | false=>simp only [Bool.false_eq_true,if_false]; exact KP h1 h2 k a (Bi h hb)
theorem Tr (m d : Nat) : ∀ (k a b : Nat),Ys m d k (a ^^^ b) = Ys m d k a ^^^ Ys m d k b
 | 0,_,_=>rfl
 | k + 1,a,b=>by
  simp only [Ys]
  rw [Nat.testBit_xor]
  cases a.testBit (d + k) <;> cases b.testBit (d + k) <;> simp only [Bool.xor_false,Bool.false_xor,Bool.xor_self,Bool.xor_true,Bool.not_false,Bool.not_true,Bool.false_eq_true,if_true,if_false]
  ·exact Tr m d k a b
  ·rw [Nat.xor_assoc]; exact Tr m d k a _
  ·rw [← Tr m d k]; congr 1; rw [Nat.xor_assoc,Nat.xor_comm b,← Nat.xor_assoc]
  ·rw [← Tr m d k]; congr 1
   rw [Nat.xor_assoc,← Nat.xor_assoc (m <<< k),Nat.xor_comm (m <<< k) b,Nat.xor_assoc,Nat.xor_self,Nat.xor_zero]
theorem Uh {m d : Nat} : ∀ (k a : Nat),a < 2 ^ d → Ys m d k a = a
 | 0,_,_=>rfl
 | k + 1,a,h=>by
  unfold Ys
  rw [Nat.testBit_lt_two_pow (Nat.lt_of_lt_of_le h (Nat.pow_le_pow_right (by omega) (by omega)))]
  simp only [Bool.false_eq_true,if_false]
  exact Uh k a h
theorem Bb {m d k a : Nat} (h : a < 2 ^ (d + k)) : Ys m d (k + 1) a = Ys m d k a:=by
 conv=>lhs; unfold Ys
 rw [Nat.testBit_lt_two_pow h]; rfl
theorem TH (m d : Nat) : ∀ (k x : Nat),Ys m d (k + 1) (x <<< 1) = (if ((Ys m d k x) <<< 1).testBit d then ((Ys m d k x) <<< 1) ^^^ m else (Ys m d k x) <<< 1)
 | 0,x=>by simp [Ys]
 | k + 1,x=>by
  conv=>lhs; unfold Ys
  conv=>rhs; unfold Ys
  have e : (x <<< 1).testBit (d + (k + 1)) = x.testBit (d + k):=by
   rw [Nat.testBit_shiftLeft]
   have : d + (k + 1) ≥ 1:=by omega
   simp only [this,decide_true,Bool.true_and]
   congr 1
  rw [e]
  cases x.testBit (d + k) with
  | false=>simp only [Bool.false_eq_true,if_false]; exact TH m d k x
  | true =>
   simp only [if_true]
   have e2 : x <<< 1 ^^^ m <<< (k + 1) = (x ^^^ m <<< k) <<< 1:=by
    rw [Nat.shiftLeft_xor_distrib,← Nat.shiftLeft_add]
   rw [e2]
   exact TH m d k _

def lenN (n : Nat) : Nat:=if n = 0 then 0 else n.log2 + 1
theorem v_rest (a m d : Nat) (hd : d ≤ 15) (ha : a < 2 ^ 16) (hm : m < 2 ^ 20) : US (a : Int) (m : Int) (d : Int) = some ((Ys m d (16 - d) a : Nat) : Int):=by
 have key : ∀ (k a : Nat),d + k ≤ 16 → a < 2 ^ 40 → ZE (Uj (m : Int) (d : Int)) ((a : Int),((d + k : Nat) : Int) - 1) = some ((Ys m d k a : Nat) : Int):=by
  intro k
  induction k with
  | zero =>
   intro a _ _
   rw [YD (t:=(a : Int))]
   ·rfl
   ·unfold Uj
    have : ¬ (((d + 0 : Nat) : Int) - 1 ≥ (d : Int)):=by omega
    simp only [this,decide_false,Bool.false_eq_true,if_false]
  | succ k ih =>
   intro a hk ha
   have e0 : ((d + (k + 1) : Nat) : Int) - 1 = ((d + k : Nat) : Int):=by omega
   have hsh : m <<< k < 2 ^ (20 + k):=Qx hm
   have hsh2 : m <<< k < 2 ^ 40:=Nat.lt_of_lt_of_le hsh (Nat.pow_le_pow_right (by omega) (by omega))
   have hst : Uj (m : Int) (d : Int) ((a : Int),((d + (k + 1) : Nat) : Int) - 1) = some (.nx (((if a.testBit (d + k) then a ^^^ (m <<< k) else a : Nat) : Int),((d + k : Nat) : Int) - 1)):=by
    rw [e0]
    unfold Uj
    have c1 : ((d + k : Nat) : Int) ≥ (d : Int):=by omega
    have c2 : Xi ((d + k : Nat) : Int) = some ():=by unfold Xi; rw [if_pos (by omega)]
    have c3 : wr (((d + k : Nat) : Int) - (d : Int)) = ((k : Nat) : Int):=by rw [show ((d + k : Nat) : Int) - (d : Int) = ((k : Nat) : Int) by omega,zn _ (by omega)]
    have c4 : Xi ((k : Nat) : Int) = some ():=by unfold Xi; rw [if_pos (by omega)]
    have c5 : wr (((d + k : Nat) : Int) - 1) = ((d + k : Nat) : Int) - 1:=YH (by omega)
    simp only [c1,decide_true,if_true,c2,c3,c4,c5,Option.bind_some]
    have c6 : Tq (Uu (a : Int) ((d + k : Nat) : Int)) 1 = (((a >>> (d + k)) &&& 1 : Nat) : Int):=by
     rw [yH a (d + k) (by omega)]
     exact yz _ 1 (Nat.lt_of_le_of_lt (Nat.shiftRight_le _ _) (by omega)) (by omega)
    rw [c6,B5 m k (by omega) (by omega),Qn a _ (by omega) (by omega)]
    cases hb : a.testBit (d + k) with
    | true =>
     have:=(Br a (d + k)).2 hb
     rw [this]; rfl
    | false =>
     have : ¬ ((a >>> (d + k)) &&& 1 = 1):=fun h=>by rw [(Br a (d + k)).1 h] at hb; cases hb
     have h2 : (((((a >>> (d + k)) &&& 1 : Nat) : Int)) == 1) = false:=by
      rw [beq_eq_false_iff_ne]; omega
     rw [h2]; rfl
   rw [Wn hst,ih _ (by omega) ?_]
   ·conv=>rhs; unfold Ys
   ·split
    ·exact Nat.xor_lt_two_pow ha hsh2
    ·exact ha
 unfold US
 have:=key (16 - d) a (by omega) (by omega)
 rw [show ((d + (16 - d) : Nat) : Int) - 1 = 15 by omega] at this
 rw [this]; rfl

def KQ : Nat → Nat → Nat → Nat
 | 0,_,_=>0
 | n + 1,a,b=>(if b % 2 = 1 then a else 0) ^^^ KQ n (a <<< 1) (b / 2)
theorem K4 : ∀ (n a : Nat),KQ n a 0 = 0
 | 0,_=>rfl
 | n + 1,a=>by simp [KQ,K4 n]
theorem zo : ∀ (n a b p : Nat),a < 2 ^ p → KQ n a b < 2 ^ (p + n)
 | 0,_,_,_,_=>by simp [KQ]; exact Nat.two_pow_pos _
 | n + 1,a,b,p,h=>by
  unfold KQ
  have h1 : a <<< 1 < 2 ^ (p + 1):=Qx h
  have h2:=zo n (a <<< 1) (b / 2) (p + 1) h1
  rw [show p + 1 + n = p + (n + 1) by omega] at h2
  refine Nat.xor_lt_two_pow ?_ h2
  have h3 : 2 ^ p ≤ 2 ^ (p + (n + 1)):=Nat.pow_le_pow_right (by omega) (by omega)
  have h4:=Nat.two_pow_pos (p + (n + 1))
  split <;> omega
def prC : Nat → Nat → Nat → Nat
 | 0,_,_=>0
 | i + 1,a,b=>prC i a b ^^^ (if b.testBit i then a <<< i else 0)
theorem Ab : ∀ (n a b : Nat),prC (n + 1) a b = (if b % 2 = 1 then a else 0) ^^^ prC n (a <<< 1) (b / 2)
 | 0,a,b=>by
  simp only [prC,Nat.zero_xor,Nat.xor_zero,Nat.shiftLeft_zero]
  have : b.testBit 0 = decide (b % 2 = 1):=by simp [Nat.testBit_zero]
  rw [this]; simp
 | n + 1,a,b=>by
  conv=>lhs; unfold prC
  rw [Ab n a b]
  conv=>rhs; unfold prC
  rw [← Nat.xor_assoc]
  congr 1
  rw [Nat.testBit_succ,← Nat.shiftLeft_add,Nat.add_comm 1 n]
theorem yh : ∀ (n a b : Nat),prC n a b = KQ n a b
 | 0,_,_=>rfl
 | n + 1,a,b=>by rw [Ab,yh n]; rfl
theorem zb (a b : Nat) (h : a < 256) : ∀ i,i ≤ 8 → prC i a b < 2 ^ 16
 | 0,_=>by simp [prC]
 | i + 1,hi=>by
  unfold prC
  have h1 : a <<< i < 2 ^ (8 + i):=Qx h
  have h2 : 2 ^ (8 + i) ≤ 2 ^ 16:=Nat.pow_le_pow_right (by omega) (by omega)
  refine Nat.xor_lt_two_pow (zb a b h i (by omega)) ?_
  split
  ·omega
  ·omega
def ZU (m : Nat) (a b : UInt8) : UInt8:=Zx ((Ys m 8 8 (KQ 8 a.toNat b.toNat) : Nat) : Int)
theorem Uz (m : Nat) (hm : m < 512) (a b : UInt8) : ZX (m : Int) a b = some (ZU m a b):=by
 have ha : a.toNat < 256:=a.toNat_lt
 have hb : b.toNat < 256:=b.toNat_lt
 have h:=ZW (f:=YZ a b) (fun i : Nat=>(((prC i a.toNat b.toNat : Nat) : Int),(i : Int))) 0 8 (Nat.zero_le _) (t:=((prC 8 a.toNat b.toNat : Nat) : Int)) (fun i _ hi=>by
  unfold YZ
  have c1 : ((i : Int) < 8):=by omega
  have c2 : Xi (i : Int) = some ():=by unfold Xi; rw [if_pos (by omega)]
  have c3 : prC i a.toNat b.toNat < 2 ^ 16:=zb _ _ ha i (by omega)
  have c4 : a.toNat <<< i < 2 ^ (8 + i):=Qx ha
  have c5 : 2 ^ (8 + i) ≤ 2 ^ 16:=Nat.pow_le_pow_right (by omega) (by omega)
  have c6 : (((HI b (i : Int)) &&& 1) == 1) = b.toNat.testBit i:=by
   have e1 : (HI b (i : Int)).toNat = b.toNat >>> i:=by
    unfold HI Zx
    rw [show min ((i : Int)).toNat 8 = i by omega,Int.fdiv_eq_ediv_of_nonneg _ (by exact_mod_cast Nat.zero_le _)]
    have : ((b.toNat : Int) / 2 ^ i) = ((b.toNat >>> i : Nat) : Int):=by rw [Nat.shiftRight_eq_div_pow]; simp
    rw [this]
    have h3 : b.toNat >>> i ≤ b.toNat:=Nat.shiftRight_le _ _
    generalize b.toNat >>> i = q at h3 ⊢
    have h4 : (((q : Nat) : Int) % 256).toNat = q:=by omega
    rw [h4]
    simp
    omega
   rw [Bool.eq_iff_iff,beq_iff_eq,← Br,← UInt8.toNat_inj,UInt8.toNat_and,e1]
   simp
  simp only [c1,decide_true,if_true,c2,Option.bind_some,c6,WX (show i < 9223372036854775807 by omega)]
  rw [B5 _ i (by omega) (by omega),Qn _ _ (by omega) (by omega)]
  cases hbit : b.toNat.testBit i with
  | true=>simp [prC,hbit]
  | false=>simp [prC,hbit]) (by unfold YZ; simp)
 have h2 : ZE (YZ a b) (0,0) = _:=h
 unfold ZX
 rw [h2]
 simp only [Option.bind_some]
 have h3:=v_rest (prC 8 a.toNat b.toNat) m 8 (by omega) (zb _ _ ha 8 (by omega)) (by omega)
 have h4 : US ((prC 8 a.toNat b.toNat : Nat) : Int) (m : Int) 8 = _:=h3
 rw [h4,yh]
 rfl
theorem Q2 (m : Nat) (hm : m < 512) (hm2 : 256 ≤ m) (a b : UInt8) : Yt (m : Int) a b = some (ZU m a b):=by
 have ha : a.toNat < 256:=a.toNat_lt
 have hb : b.toNat < 256:=b.toNat_lt
 have h1 : 2 ^ 8 ≤ m:=hm2
 have h2 : m < 2 ^ (8 + 1):=hm
 have hR : ∀ i,i ≤ 8 → Ys m 8 8 (a.toNat <<< i) < 256:=fun i hi=>KP h1 h2 8 _ (by
  have:=Qx (k:=i) (show a.toNat < 2 ^ 8 from ha)
  exact Nat.lt_of_lt_of_le this (Nat.pow_le_pow_right (by omega) (by omega)))
 have hdbl : ∀ i,i ≤ 7 → Ys m 8 8 (a.toNat <<< (i + 1)) = if 256 ≤ (Ys m 8 8 (a.toNat <<< i)) * 2 then (Ys m 8 8 (a.toNat <<< i)) * 2 ^^^ m else (Ys m 8 8 (a.toNat <<< i)) * 2:=by
  intro i hi
  have hx : a.toNat <<< i < 2 ^ (8 + 7):=Nat.lt_of_lt_of_le (Qx (show a.toNat < 2 ^ 8 from ha)) (Nat.pow_le_pow_right (by omega) (by omega))
  have e : a.toNat <<< (i + 1) = (a.toNat <<< i) <<< 1:=by rw [← Nat.shiftLeft_add]
  rw [e,TH m 8 7,← Bb hx]
  have hlt:=hR i (by omega)
  generalize Ys m 8 8 (a.toNat <<< i) = y at hlt ⊢
  have e2 : y <<< 1 = y * 2:=by rw [Nat.shiftLeft_eq]
  rw [e2]
  have e3 : (y * 2).testBit 8 = decide (256 ≤ y * 2):=by
   by_cases hy : 256 ≤ y * 2
   ·rw [zt (d:=8) hy (by omega)]; simp [hy]
   ·rw [Nat.testBit_lt_two_pow (by omega : y * 2 < 2 ^ 8)]; simp [hy]
  rw [e3]
  by_cases hy : 256 ≤ y * 2 <;> simp [hy]
 have key : ∀ (n i o r : Nat),i + n ≤ 8 → r < 2 ^ n → o < 256 → ZE (YK (m : Int)) ((o : Int),((Ys m 8 8 (a.toNat <<< i) : Nat) : Int),(r : Int)) = some ((o ^^^ Ys m 8 8 (KQ n (a.toNat <<< i) r) : Nat) : Int):=by
  intro n
  induction n with
  | zero =>
   intro i o r _ hr ho
   have : r = 0:=by simpa using hr
   subst this
   rw [YD (t:=(o : Int))]
   ·rw [K4,Uh 8 0 (by omega),Nat.xor_zero]
   ·unfold YK; simp
  | succ n ih =>
   intro i o r hi hr ho
   by_cases h0 : r = 0
   ·subst h0
    rw [YD (t:=(o : Int))]
    ·rw [K4,Uh 8 0 (by omega),Nat.xor_zero]
    ·unfold YK; simp
   ·have hy:=hR i (by omega)
    have hst : YK (m : Int) ((o : Int),((Ys m 8 8 (a.toNat <<< i) : Nat) : Int),(r : Int)) = some (.nx (((o ^^^ Ys m 8 8 (if r % 2 = 1 then a.toNat <<< i else 0) : Nat) : Int),((Ys m 8 8 (a.toNat <<< (i + 1)) : Nat) : Int),((r / 2 : Nat) : Int))):=by
     rw [hdbl i (by omega)]
     unfold YK
     have c1 : (r : Int) > 0:=by omega
     have hr2 : r < 512:=Nat.lt_of_lt_of_le hr (Nat.le_trans (Nat.pow_le_pow_right (by omega) (by omega : n + 1 ≤ 9)) (by omega))
     simp only [c1,decide_true,if_true,z9,ys]
     have e1 : wr (((Ys m 8 8 (a.toNat <<< i) : Nat) : Int) * 2) = (((Ys m 8 8 (a.toNat <<< i)) * 2 : Nat) : Int):=by rw [YH (by omega)]; omega
     have e2 : wr ((r / 2 : Nat) : Int) = ((r / 2 : Nat) : Int):=zn _ (by omega)
     rw [e1,e2,Qn _ _ (by omega) (by omega),Qn _ _ (by omega) (by omega)]
     have e3 : ((((r % 2 : Nat) : Int)) == 1) = decide (r % 2 = 1):=by
      rw [Bool.eq_iff_iff,beq_iff_eq,decide_eq_true_eq]; omega
     rw [e3]
     have e4 : decide ((((Ys m 8 8 (a.toNat <<< i)) * 2 : Nat) : Int) ≥ 256) = decide (256 ≤ (Ys m 8 8 (a.toNat <<< i)) * 2):=by rw [decide_eq_decide]; omega
     rw [e4]
     have e5 : Ys m 8 8 0 = 0:=Uh 8 0 (by omega)
     by_cases c2 : r % 2 = 1 <;> by_cases c3 : 256 ≤ (Ys m 8 8 (a.toNat <<< i)) * 2 <;> simp only [c2,c3,decide_true,decide_false,Bool.false_eq_true,if_true,if_false,Option.bind_some,e5,Nat.xor_zero]
    rw [Wn hst,ih (i + 1) _ (r / 2) (by omega) (by rw [Nat.pow_succ] at hr; omega) ?_]
    ·conv=>rhs; unfold KQ
     rw [Tr,Nat.xor_assoc,Nat.shiftLeft_add]
    ·refine Nat.xor_lt_two_pow (n:=8) ho ?_
     split
     ·exact hR i (by omega)
     ·rw [Uh 8 0 (by omega)]; omega
 have:=key 8 0 0 b.toNat (by omega) hb (by omega)
 rw [Nat.shiftLeft_zero,Uh 8 a.toNat ha,Nat.zero_xor] at this
 have h3 : ZE (YK (m : Int)) (0,bI a,bI b) = _:=this
 unfold Yt
 rw [h3]
 rfl

def JL (m : Nat) : Nat → UInt8 → Nat → UInt8 → UInt8
 | 0,_,_,o=>o
 | f + 1,a,k,o=>if k = 0 then o else JL m f (ZU m a a) (k / 2) (if k % 2 = 1 then ZU m o a else o)
theorem Aw (m : Nat) (L : UInt8 × Int × UInt8 → Option (Fl (UInt8 × Int × UInt8) UInt8)) (T : UInt8 → UInt8 → Option UInt8) (hT : ∀ a b,T a b = some (ZU m a b))
  (hL : ∀ s,L s = if (decide (s.2.1 > 0)) = true then (((if ((Int.tmod s.2.1 2) == 1) = true then ((T s.2.2 s.1).bind fun r=>some r) else (some s.2.2) : Option UInt8).bind fun j12=>(T s.1 s.1).bind fun r20=>some (r20,j12) : Option (UInt8 × UInt8)).bind fun j9=>some (Fl.nx (j9.1,wr (Int.tdiv s.2.1 2),j9.2))) else (some (Fl.ex s.2.2))) :
  ∀ (f k : Nat) (a o : UInt8),k < 2 ^ f → f ≤ 62 → ZE L (a,(k : Int),o) = some (JL m f a k o):=by
 intro f
 induction f with
 | zero =>
  intro k a o hk _
  have : k = 0:=by simpa using hk
  subst this
  exact YD (by rw [hL]; simp [JL])
 | succ f ih =>
  intro k a o hk hf
  by_cases h0 : k = 0
  ·subst h0
   exact YD (by rw [hL]; simp [JL])
  ·have hlt : k < 9223372036854775808:=Nat.lt_of_lt_of_le hk (Nat.pow_le_pow_right (by omega : 0 < 2) (by omega : f + 1 ≤ 63))
   have hst : L (a,(k : Int),o) = some (.nx (ZU m a a,((k / 2 : Nat) : Int),if k % 2 = 1 then ZU m o a else o)):=by
    rw [hL]
    have c1 : (k : Int) > 0:=by omega
    have e3 : ((((k % 2 : Nat) : Int)) == 1) = decide (k % 2 = 1):=by
     rw [Bool.eq_iff_iff,beq_iff_eq,decide_eq_true_eq]; omega
    simp only [c1,decide_true,if_true,z9,ys,hT,e3,Option.bind_some,zn (k / 2) (by omega)]
    by_cases c2 : k % 2 = 1 <;> simp [c2]
   rw [Wn hst,ih (k / 2) _ _ (by rw [Nat.pow_succ] at hk; omega) (by omega)]
   conv=>rhs; unfold JL
   rw [if_neg h0]
theorem HZ (m : Nat) (hm : m < 512) (a : UInt8) (k f : Nat) (hk : k < 2 ^ f) (hf : f ≤ 62) : Xb (m : Int) a (k : Int) = some (JL m f a k 1):=by
 unfold Xb
 rw [Aw m (WJ (m : Int)) _ (Uz m hm) (fun s=>by unfold WJ; rfl) f k a 1 hk hf]; rfl
theorem A4 (m : Nat) (hm : m < 512) (hm2 : 256 ≤ m) (a : UInt8) (k f : Nat) (hk : k < 2 ^ f) (hf : f ≤ 62) : Wc (m : Int) a (k : Int) = some (JL m f a k 1):=by
 unfold Wc
 rw [Aw m (Uf (m : Int)) _ (Q2 m hm hm2) (fun s=>by unfold Uf; rfl) f k a 1 hk hf]; rfl
def TD (m : Nat) (a : UInt8) : UInt8:=JL m 8 a 254 1
theorem Qc (m : Nat) (hm : m < 512) (a : UInt8) : Ya (m : Int) a = some (TD m a):=by
 unfold Ya
 have:=HZ m hm a 254 8 (by omega) (by omega)
 have h2 : Xb (m : Int) a 254 = _:=this
 rw [h2]; rfl
theorem yx (m : Nat) (hm : m < 512) (hm2 : 256 ≤ m) (a : UInt8) : WC (m : Int) a = some (TD m a):=by
 unfold WC
 have:=A4 m hm hm2 a 254 8 (by omega) (by omega)
 have h2 : Wc (m : Int) a 254 = _:=this
 rw [h2]; rfl

def redB (m d : Nat) : Bool:=Ys d (lenN d - 1) (16 - (lenN d - 1)) m == 0
def KH (m : Int) : Bool:=decide (256 ≤ m ∧ m ≤ 511) && !((List.range' 2 30).any (redB m.toNat))
theorem B2 {m : Int} (h : KH m = true) : ∃ n : Nat,m = n ∧ 256 ≤ n ∧ n < 512:=by
 unfold KH at h
 simp only [Bool.and_eq_true,decide_eq_true_eq] at h
 exact ⟨m.toNat,by omega,by omega,by omega⟩
def yl (l : List UInt8) : Bool:=decide l.Nodup
def dbl (m y : Nat) : Nat:=if (y <<< 1).testBit 8 then (y <<< 1) ^^^ m else y <<< 1
theorem Aq (a b c d : Nat) : (a ^^^ b) ^^^ (c ^^^ d) = (a ^^^ c) ^^^ (b ^^^ d):=by
 rw [Nat.xor_assoc,Nat.xor_assoc,← Nat.xor_assoc b,← Nat.xor_assoc c,Nat.xor_comm b c]
theorem zr (m x y : Nat) : dbl m (x ^^^ y) = dbl m x ^^^ dbl m y:=by
 unfold dbl
 rw [Nat.shiftLeft_xor_distrib,Nat.testBit_xor]
 cases (x <<< 1).testBit 8 <;> cases (y <<< 1).testBit 8 <;> simp only [Bool.xor_false,Bool.false_xor,Bool.xor_self,Bool.xor_true,Bool.not_false,Bool.not_true,Bool.false_eq_true,if_true,if_false]
 ·rw [Nat.xor_assoc]
 ·rw [Nat.xor_assoc,Nat.xor_assoc,Nat.xor_comm m]
 ·rw [Aq,Nat.xor_self,Nat.xor_zero]
theorem J7 (m : Nat) : dbl m 0 = 0:=by simp [dbl]
def opP (m : Nat) : Nat → Nat → Nat → Nat
 | 0,_,_=>0
 | n + 1,b,x=>(if b % 2 = 1 then x else 0) ^^^ opP m n (b / 2) (dbl m x)
theorem B6 (m n b x : Nat) : opP m (n + 1) b x = (if b % 2 = 1 then x else 0) ^^^ opP m n (b / 2) (dbl m x):=rfl
theorem BH (m : Nat) : ∀ (n b x y : Nat),opP m n b (x ^^^ y) = opP m n b x ^^^ opP m n b y
 | 0,_,_,_=>by simp [opP]
 | n + 1,b,x,y=>by
  unfold opP
  rw [zr,BH m n,Aq]
  congr 1
  split <;> simp
theorem Kv (m : Nat) : ∀ (n b : Nat),opP m n b 0 = 0
 | 0,_=>rfl
 | n + 1,b=>by unfold opP; rw [J7,Kv m n]; simp
theorem zq (m : Nat) : ∀ (n b x : Nat),opP m n b (dbl m x) = dbl m (opP m n b x)
 | 0,_,_=>(J7 m).symm
 | n + 1,b,x=>by
  unfold opP
  rw [zq m n,zr]
  congr 1
  split
  ·rfl
  ·exact (J7 m).symm
theorem Ao (m : Nat) : ∀ (n b k c x : Nat),opP m n b (opP m k c x) = opP m k c (opP m n b x)
 | 0,_,k,c,_=>(Kv m k c).symm
 | n + 1,b,k,c,x=>by
  rw [B6,B6,← zq,Ao m n,BH]
  congr 1
  split
  ·rfl
  ·exact (Kv m k c).symm
theorem zO (a : Nat) : (if a % 2 = 1 then 1 else 0) ^^^ (a / 2) <<< 1 = a:=by
 rw [Nat.shiftLeft_eq]
 have h : (if a % 2 = 1 then 1 else 0) = a % 2:=by split <;> omega
 rw [h]
 apply Nat.eq_of_testBit_eq
 intro i
 rw [Nat.testBit_xor]
 cases i with
 | zero =>
  simp [Nat.testBit_zero]
 | succ i =>
  rw [Nat.testBit_succ,Nat.testBit_succ,Nat.testBit_succ]
  have h1 : a % 2 / 2 = 0:=by omega
  have h2 : a / 2 * 2 ^ 1 / 2 = a / 2:=by omega
  rw [h1,h2]; simp
theorem jb (m i : Nat) (hi : i < 7) : dbl m (1 <<< i) = 1 <<< (i + 1):=by
 unfold dbl
 rw [← Nat.shiftLeft_add]
 have : (1 <<< (i + 1)).testBit 8 = false:=by
  apply Nat.testBit_lt_two_pow
  rw [Nat.shiftLeft_eq,Nat.one_mul]
  exact Nat.pow_lt_pow_right (by omega) (by omega)
 rw [this]; rfl
theorem BI (m : Nat) : ∀ (n i a : Nat), n + i ≤ 8 → a < 2 ^ n → opP m n a (1 <<< i) = a <<< i
  | 0, i, a, _, ha => by
    have : a = 0 := by simpa using ha
    subst this; simp [opP]
  | n + 1, i, a, hn, ha => by
    have e : a <<< i = (if a % 2 = 1 then 1 <<< i else 0) ^^^ (a / 2) <<< (i + 1) := by
      conv => lhs; rw [← zO a]
      rw [Nat.shiftLeft_xor_distrib, ← Nat.shiftLeft_add, Nat.add_comm 1 i]
      congr 1
      split <;> simp
    unfold opP
    rw [e]
    congr 1
    rcases Nat.eq_zero_or_pos n with rfl | hp
    · have : a / 2 = 0 := by have : a < 2 := by simpa using ha
                             omega
      rw [this]; simp [opP]
    · rw [jb m i (by omega)]
      exact BI m n (i + 1) (a / 2) (by omega) (by rw [Nat.pow_succ] at ha; omega)

theorem zW (m x : Nat) (hx : x < 2 ^ 15) : Ys m 8 8 (x <<< 1) = dbl m (Ys m 8 8 x):=by
 rw [TH m 8 7,← Bb (d:=8) (k:=7) hx]; rfl
theorem yS (m : Nat) : ∀ (n i a b : Nat),i + n ≤ 8 → a < 2 ^ 8 → Ys m 8 8 (KQ n (a <<< i) b) = opP m n b (Ys m 8 8 (a <<< i))
 | 0,_,_,_,_,_=>by simp [KQ,opP,Uh 8 0]
 | n + 1,i,a,b,hn,ha=>by
  unfold KQ opP
  rw [Tr]
  have hx : a <<< i < 2 ^ 15:=Nat.lt_of_lt_of_le (Qx ha) (Nat.pow_le_pow_right (by omega) (by omega))
  rw [← zW m _ hx,← Nat.shiftLeft_add,yS m n (i + 1) a (b / 2) (by omega) ha]
  congr 1
  split
  ·rfl
  ·exact Uh 8 0 (by omega)
theorem Tt (m : Nat) (h1 : 256 ≤ m) (h2 : m < 512) (a b : UInt8) : (ZU m a b).toNat = opP m 8 b.toNat a.toNat:=by
 have ha : a.toNat < 2 ^ 8:=a.toNat_lt
 have hr : Ys m 8 8 (KQ 8 a.toNat b.toNat) < 256:=KP (d:=8) h1 h2 8 _ (zo 8 a.toNat b.toNat 8 ha)
 have e:=yS m 8 0 a.toNat b.toNat (by omega) ha
 rw [Nat.shiftLeft_zero,Uh 8 _ ha] at e
 unfold ZU Zx
 rw [e] at hr ⊢
 generalize opP m 8 b.toNat a.toNat = q at hr ⊢
 have : (((q : Nat) : Int) % 256).toNat = q:=by omega
 rw [this]
 simp
 omega
section
variable {m : Nat} (h1 : 256 ≤ m) (h2 : m < 512)
include h1 h2
theorem TW (a b : UInt8) : ZU m a b = ZU m b a:=by
 apply UInt8.toNat_inj.1
 rw [Tt m h1 h2,Tt m h1 h2]
 have ea:=BI m 8 0 a.toNat (by omega) a.toNat_lt
 have eb:=BI m 8 0 b.toNat (by omega) b.toNat_lt
 simp only [Nat.shiftLeft_zero] at ea eb
 rw [← ea,Ao,eb,ea]
theorem zS (a b c : UInt8) : ZU m (a ^^^ b) c = ZU m a c ^^^ ZU m b c:=by
 apply UInt8.toNat_inj.1
 rw [UInt8.toNat_xor,Tt m h1 h2,Tt m h1 h2,Tt m h1 h2,UInt8.toNat_xor,BH]
theorem AN (a b c : UInt8) : ZU m a (b ^^^ c) = ZU m a b ^^^ ZU m a c:=by
 rw [TW h1 h2,zS h1 h2,TW h1 h2 b,TW h1 h2 c]
theorem Ki (a : UInt8) : ZU m 0 a = 0:=by
 apply UInt8.toNat_inj.1
 rw [Tt m h1 h2]
 exact Kv m 8 _
end
def vf {α : Type} (n : Nat) (f : Nat → α) : Vector α n:=Vector.ofFn fun i=>f i.1
theorem TX {α : Type} {n i : Nat} (f : Nat → α) (h : i < n) : (vf n f)[i] = f i:=by simp [vf]
theorem Kp {α : Type} {n i : Nat} (f : Nat → α) (h : i < n) : (vf n f)[i]? = some (f i):=by rw [Vector.getElem?_eq_getElem h,TX f h]
theorem ZO {α : Type} {n i : Nat} (f : Nat → α) (h : i < n) : ZI (vf n f) (i : Int) = some (f i):=by rw [Wk,Kp f h]
theorem YE {α : Type} {n : Nat} {f g : Nat → α} (h : ∀ i,i < n → f i = g i) : vf n f = vf n g:=by
 apply TJ
 intro i hi
 rw [TX f hi,TX g hi,h i hi]
theorem U3 {α : Type} {n : Nat} (f : Nat → α) (k : Nat) (x : α) : (vf n f).setIfInBounds k x = vf n (fun i=>if i = k then x else f i):=by
 apply TJ
 intro i hi
 rw [Vector.getElem_setIfInBounds,TX _ hi,TX _ hi]
 by_cases h : k = i
 ·subst h; simp
 ·rw [if_neg h,if_neg (fun e=>h e.symm)]
theorem UK {α : Type} (n : Nat) (x : α) : Vector.replicate n x = vf n (fun _=>x):=by
 apply TJ
 intro i hi
 rw [TX _ hi]; simp
theorem zw {α : Type} [Inhabited α] {n : Nat} (v : Vector α n) : v = vf n (fun i=>v[i]?.getD default):=by
 apply TJ
 intro i hi
 rw [TX _ hi,Vector.getElem?_eq_getElem hi]; rfl
abbrev Mat:=Vector (Vector UInt8 4) 4
def mf (f : Nat → Nat → UInt8) : Mat:=vf 4 fun i=>vf 4 (f i)
theorem XX {f g : Nat → Nat → UInt8} (h : ∀ i,i < 4 → ∀ j,j < 4 → f i j = g i j) : mf f = mf g:=YE fun i hi=>YE fun j hj=>h i hi j hj
theorem Uc {i : Nat} (f : Nat → Nat → UInt8) (h : i < 4) : ZI (mf f) (i : Int) = some (vf 4 (f i)):=ZO _ h
theorem Ka (f : Nat → Nat → UInt8) (k : Nat) (g : Nat → UInt8) : (mf f).setIfInBounds k (vf 4 g) = mf (fun i j=>if i = k then g j else f i j):=by
 unfold mf
 rw [U3]
 apply YE
 intro i hi
 by_cases h : i = k
 ·simp [h]
 ·simp [h]
theorem BP : Vector.replicate 4 (Vector.replicate 4 (0 : UInt8)) = mf (fun _ _=>0):=by rw [UK 4 (0 : UInt8),UK]; rfl
theorem lt4 {i : Nat} (h : i < 4) : decide ((i : Int) < 4) = true:=by simp; omega
theorem lt4' {i : Nat} (h : ¬ i < 4) : decide ((i : Int) < 4) = false:=by simp; omega
theorem wr4 {i : Nat} (h : i < 1000) : wr ((i : Int) + 1) = ((i + 1 : Nat) : Int):=WX (by omega)

def Kn (i j : Nat) : UInt8:=if i = j then 1 else 0
theorem z3 (L : Mat × Int → Option (Fl (Mat × Int) Mat))
  (hL : ∀ s8,L s8 = if (decide (s8.2 < 4)) = true then ((ZI s8.1 s8.2).bind fun (x14 : (Vector UInt8 4))=>(ZI x14 s8.2).bind fun (x17 : UInt8)=>some (Fl.nx ((s8.1.setIfInBounds (s8.2).toNat (x14.setIfInBounds (s8.2).toNat 1)),wr (s8.2 + 1)))) else (some (Fl.ex s8.1))) :
  ZE L (Vector.replicate 4 (Vector.replicate 4 (0 : UInt8)),0) = some (mf Kn):=by
 have:=ZW (f:=L) (fun i : Nat=>(mf fun r c=>if r < i then Kn r c else 0,(i : Int))) 0 4 (by omega) (t:=mf Kn) (fun i _ hi=>by
  rw [hL]
  simp only [lt4 hi,if_true,Uc _ hi,ZO _ hi,Option.bind_some,Int.toNat_natCast,U3,Ka,wr4 (show i < 1000 by omega)]
  congr 3
  apply XX
  intro r hr c hc
  by_cases h1 : r = i
  ·subst h1; simp [Kn,eq_comm]
  ·simp only [h1,if_false]
   by_cases h2 : r < i
   ·rw [if_pos h2,if_pos (by omega)]
   ·rw [if_neg h2,if_neg (by omega)]) (by
  rw [hL]
  simp only [lt4' (show ¬ 4 < 4 by omega),Bool.false_eq_true,if_false]
  exact congrArg (fun z=>some (Fl.ex z)) (XX fun r hr c hc=>by rw [if_pos hr]))
 rw [BP]
 simpa using this
theorem Kl : Wz = some (mf Kn):=by
 unfold Wz
 rw [z3 UO fun s=>rfl]; rfl

abbrev MF:=Nat → Nat → UInt8
def QU (f : MF) (k : Nat) : Nat:=((List.range' k (4 - k)).find? fun i=>!(f i k == 0)).getD 4
def ym (f : MF) (i k : Nat) : MF:=fun r c=>if r = k then f i c else if r = i then f k c else f r c
def BV (m : Nat) (f : MF) (k : Nat) (by_ : UInt8) : MF:=fun r c=>if r = k then ZU m (f k c) by_ else f r c
def VH (m : Nat) (f g : MF) (k : Nat) : MF:=fun r c=>if r = k then g r c else g r c ^^^ ZU m (f r k) (g k c)
structure Red where
 a : MF
 b : MF
 det : UInt8
def Kr (m : Nat) (s : Red) (k : Nat) : Option Red :=
 let i:=QU s.a k
 if i = 4 then none else
  let f:=ym s.a i k
  let g:=ym s.b i k
  let q:=TD m (f k k)
  let f2:=BV m f k q
  let g2:=BV m g k q
  some ⟨VH m f2 f2 k,VH m f2 g2 k,ZU m s.det (f k k)⟩
def Km (m : Nat) : Nat → Nat → Red → Option Red
 | 0,_,s=>some s
 | n + 1,k,s=>(Kr m s k).bind (Km m n (k + 1))
def JT (m : Nat) (a : MF) : UInt8 × Mat:=match Km m 4 0 ⟨a,Kn,1⟩ with
 | some s=>(s.det,mf s.b)
 | none=>(0,mf fun _ _=>0)
theorem AW (L : Int → Option (Fl Int Int)) (f : MF) (k : Nat) (hk : k < 4)
  (hL : ∀ s,L s = (if (decide (s < 4)) = true then ((ZI (mf f) s).bind fun (x30 : (Vector UInt8 4))=>(ZI x30 (k : Int)).bind fun (x33 : UInt8)=>some (x33 == 0)) else (some false) : Option (Bool)).bind fun (j25 : Bool)=>if j25 = true then (some (Fl.nx (wr (s + 1)))) else (some (Fl.ex s))) :
  ZE L (k : Int) = some ((QU f k : Nat) : Int):=by
 have:=Bp (f:=L) (fun i : Nat=>(i : Int)) (fun i=>!(f i k == 0)) (fun i=>(i : Int)) (e:=(4 : Int)) 4 (4 - k) k (by omega) (fun i _ hi=>by
  rw [hL]
  simp only [lt4 hi,if_true,Uc _ hi,ZO _ hk,Option.bind_some]
  cases h : (f i k == 0)
  ·simp
  ·simp [wr4 (show i < 1000 by omega)]) (by rw [hL]; simp)
 rw [this]
 unfold QU
 cases (List.range' k (4 - k)).find? fun i=>!(f i k == 0) <;> rfl
theorem yB {f : MF} {k : Nat} (h : QU f k ≠ 4) : QU f k < 4:=by
 unfold QU at h ⊢
 cases hf : (List.range' k (4 - k)).find? fun i=>!(f i k == 0) with
 | none=>rw [hf] at h; exact absurd rfl h
 | some i =>
  have:=List.mem_range'_1.1 (List.mem_of_find?_eq_some hf)
  simp only [Option.getD_some]
  omega
theorem Bm (L : Mat × Mat × Int → Option (Fl (Mat × Mat × Int) (Mat × Mat))) (f g : MF) (k : Nat) (hk : k < 4) (p q : Nat → UInt8)
  (hL : ∀ c,c < 4 → ∀ a b : MF,(∀ r,r ≠ k → a r = f r) → (∀ r,r ≠ k → b r = g r) → a k c = f k c → b k c = g k c → L (mf a,mf b,(c : Int)) = some (Fl.nx ((mf a).setIfInBounds k ((vf 4 (a k)).setIfInBounds c (p c)),(mf b).setIfInBounds k ((vf 4 (b k)).setIfInBounds c (q c)),wr ((c : Int) + 1))))
  (he : ∀ a b : Mat,L (a,b,4) = some (Fl.ex (a,b))) :
  ZE L (mf f,mf g,0) = some (mf (fun r c=>if r = k then p c else f r c),mf (fun r c=>if r = k then q c else g r c)):=by
 have k1 : (mf fun r c=>if r = k then (if c < 4 then p c else f k c) else f r c) = mf fun r c=>if r = k then p c else f r c:=XX fun r _ c hc=>by rw [if_pos hc]
 have k2 : (mf fun r c=>if r = k then (if c < 4 then q c else g k c) else g r c) = mf fun r c=>if r = k then q c else g r c:=XX fun r _ c hc=>by rw [if_pos hc]
 have:=ZW (f:=L) (fun i : Nat=>(mf fun r c=>if r = k then (if c < i then p c else f k c) else f r c,mf fun r c=>if r = k then (if c < i then q c else g k c) else g r c,(i : Int))) 0 4 (by omega)
  (t:=(mf (fun r c=>if r = k then p c else f r c),mf (fun r c=>if r = k then q c else g r c))) (fun i _ hi=>by
  rw [hL i hi _ _ (fun r hr=>by funext c; rw [if_neg hr]) (fun r hr=>by funext c; rw [if_neg hr]) (by simp) (by simp)]
  simp only [U3,Ka,wr4 (show i < 1000 by omega)]
  congr 3
  ·apply XX
   intro r hr c hc
   by_cases h : r = k
   ·simp only [h,if_true]
    by_cases h2 : c = i
    ·subst h2; simp
    ·by_cases h3 : c < i
     ·rw [if_neg h2,if_pos h3,if_pos (by omega)]
     ·rw [if_neg h2,if_neg h3,if_neg (by omega)]
   ·simp only [h,if_false]
  ·congr 1
   apply XX
   intro r hr c hc
   by_cases h : r = k
   ·simp only [h,if_true]
    by_cases h2 : c = i
    ·subst h2; simp
    ·by_cases h3 : c < i
     ·rw [if_neg h2,if_pos h3,if_pos (by omega)]
     ·rw [if_neg h2,if_neg h3,if_neg (by omega)]
   ·simp only [h,if_false]) (by
  simp only [k1,k2]
  exact he _ _)
 have e1 : mf (fun r c=>if r = k then (if c < 0 then p c else f k c) else f r c) = mf f:=XX fun r hr c hc=>by
  by_cases h : r = k
  ·subst h; simp
  ·simp [h]
 have e2 : mf (fun r c=>if r = k then (if c < 0 then q c else g k c) else g r c) = mf g:=XX fun r hr c hc=>by
  by_cases h : r = k
  ·subst h; simp
  ·simp [h]
 simp only [e1,e2] at this
 exact this
theorem Aj {S : Type} (m : Nat) (L : S → Option (Fl S (Fl (Mat × UInt8) (UInt8 × Mat)))) (pk : Red → Nat → S)
  (hstep : ∀ k,k < 4 → ∀ s,L (pk s k) = some (match Kr m s k with | none=>.ex (.ex (0,mf fun _ _=>0)) | some s'=>.nx (pk s' (k + 1))))
  (hend : ∀ s,L (pk s 4) = some (.ex (.nx (mf s.b,s.det)))) : ∀ (n k : Nat) (s : Red),k + n = 4 → ZE L (pk s k) = some (match Km m n k s with | some s'=>.nx (mf s'.b,s'.det) | none=>.ex (0,mf fun _ _=>0))
 | 0,k,s,h=>by
  have : k = 4:=by omega
  subst this
  rw [YD (hend s)]; rfl
 | n + 1,k,s,h=>by
  have h1:=hstep k (by omega) s
  unfold Km
  cases hr : Kr m s k with
  | none=>rw [hr] at h1; rw [YD h1]; rfl
  | some s'=>rw [hr] at h1; rw [Wn h1]; exact Aj m L pk hstep hend n (k + 1) s' (by omega)
theorem je {i k : Nat} : (((i : Int)) != ((k : Nat) : Int)) = decide (i ≠ k):=by
 by_cases h : i = k
 ·subst h; simp
 ·have : (i : Int) ≠ (k : Int):=by omega
  simp [h,this]
theorem zL (m : Nat) (L : Mat × Mat × Int → Option (Fl (Mat × Mat × Int) (Mat × Mat))) (f g : MF) (k : Nat)
  (hL : ∀ i,i < 4 → ∀ a b : MF,(a i = f i) → (b i = g i) → (a k = f k) → (b k = g k) → L (mf a,mf b,(i : Int)) = some (Fl.nx (mf (fun r c=>if r = i then VH m f f k r c else a r c),mf (fun r c=>if r = i then VH m f g k r c else b r c),wr ((i : Int) + 1))))
  (he : ∀ a b : Mat,L (a,b,4) = some (Fl.ex (a,b))) : ZE L (mf f,mf g,0) = some (mf (VH m f f k),mf (VH m f g k)):=by
 have ek : ∀ h : MF,VH m f h k k = h k:=fun h=>by funext c; simp [VH]
 have k1 : (mf fun r c=>if r < 4 then VH m f f k r c else f r c) = mf (VH m f f k):=XX fun r hr c _=>by rw [if_pos hr]
 have k2 : (mf fun r c=>if r < 4 then VH m f g k r c else g r c) = mf (VH m f g k):=XX fun r hr c _=>by rw [if_pos hr]
 have:=ZW (f:=L) (fun i : Nat=>(mf fun r c=>if r < i then VH m f f k r c else f r c,mf fun r c=>if r < i then VH m f g k r c else g r c,(i : Int))) 0 4 (by omega)
  (t:=(mf (VH m f f k),mf (VH m f g k))) (fun i _ hi=>by
  rw [hL i hi _ _ (by funext c; simp) (by funext c; simp) (by funext c; by_cases h : k < i <;> simp [h,ek]) (by funext c; by_cases h : k < i <;> simp [h,ek])]
  rw [wr4 (show i < 1000 by omega)]
  have e : ∀ (x y : MF),(mf fun r c=>if r = i then x r c else if r < i then x r c else y r c) = mf fun r c=>if r < i + 1 then x r c else y r c:=fun x y=>XX fun r _ c _=>by
   by_cases h1 : r = i
   ·subst h1; simp
   ·by_cases h2 : r < i
    ·rw [if_neg h1,if_pos h2,if_pos (by omega)]
    ·rw [if_neg h1,if_neg h2,if_neg (by omega)]
  rw [e,e]) (by
  simp only [k1,k2]
  exact he _ _)
 simpa using this

theorem yr (f : MF) {i k : Nat} : ((mf f).setIfInBounds i (vf 4 (f k))).setIfInBounds k (vf 4 (f i)) = mf (ym f i k):=by
 rw [Ka,Ka]; rfl
section
variable (m : Nat) (hm : m < 512) (hm2 : 256 ≤ m)
include hm
theorem AF (A B : Mat) (det : UInt8) (q : UInt8) (f g : MF) (k : Nat) (hk : k < 4) : ZE (Xm (m : Int) (A,B,(k : Int),det) q) (mf f,mf g,0) = some (mf (BV m f k q),mf (BV m g k q)):=by
 refine Bm _ f g k hk (fun c=>ZU m (f k c) q) (fun c=>ZU m (g k c) q) (fun c hc a b _ _ ha hb=>?_) (fun a b=>?_)
 ·unfold Xm
  simp only [lt4 hc,if_true,Uc _ hk,ZO _ hc,Option.bind_some,Uz m hm,ha,hb,Int.toNat_natCast]
 ·unfold Xm; simp
theorem yO (A B : Mat) (det : UInt8) (s1 : Mat × Mat × Int) (x : UInt8) (f g : MF) (k i : Nat) (hk : k < 4) (hi : i < 4) (hik : i ≠ k) (hs : s1.2.2 = (i : Int)) :
  ZE (Xg (m : Int) (A,B,(k : Int),det) s1 x) (mf f,mf g,0) = some (mf (fun r c=>if r = i then f i c ^^^ ZU m x (f k c) else f r c),mf (fun r c=>if r = i then g i c ^^^ ZU m x (g k c) else g r c)):=by
 refine Bm _ f g i hi (fun c=>f i c ^^^ ZU m x (f k c)) (fun c=>g i c ^^^ ZU m x (g k c)) (fun c hc a b ha' hb' ha hb=>?_) (fun a b=>?_)
 ·unfold Xg
  have e1:=ha' k (Ne.symm hik)
  have e2:=hb' k (Ne.symm hik)
  simp only [hs,lt4 hc,if_true,Uc _ hk,Uc _ hi,ZO _ hc,Option.bind_some,Uz m hm,ha,hb,e1,e2,Int.toNat_natCast]
 ·unfold Xg; simp
include hm2
theorem zC (A B : Mat) (det : UInt8) (f g : MF) (k : Nat) (hk : k < 4) : ZE (Xf (m : Int) (A,B,(k : Int),det)) (mf f,mf g,0) = some (mf (VH m f f k),mf (VH m f g k)):=by
 refine zL m _ f g k (fun i hi a b hai hbi hak hbk=>?_) (fun a b=>by unfold Xf; simp)
 unfold Xf
 have hfi : a i k = f i k:=by rw [hai]
 simp only [lt4 hi,if_true,Uc _ hi,ZO _ hk,Option.bind_some,je,hfi]
 by_cases h : i = k
 ·subst h
  simp only [ne_eq,not_true_eq_false,decide_false,Bool.false_eq_true,if_false,Option.bind_some]
  congr 3
  ·exact XX fun r _ c _=>by
    by_cases h : r = i
    ·subst h; simp [VH,hai]
    ·simp [h]
  ·congr 1
   exact XX fun r _ c _=>by
    by_cases h : r = i
    ·subst h; simp [VH,hbi]
    ·simp [h]
 ·have hd : decide (i ≠ k) = true:=by simpa using h
  simp only [hd,if_true,Option.bind_some]
  by_cases h0 : f i k = 0
  ·simp only [h0,bne_self_eq_false,Bool.false_eq_true,if_false,Option.bind_some]
   congr 3
   ·exact XX fun r _ c _=>by
     by_cases h2 : r = i
     ·subst h2; simp [VH,hai,h,h0,Ki hm2 hm]
     ·simp [h2]
   ·congr 1
    exact XX fun r _ c _=>by
     by_cases h2 : r = i
     ·subst h2; simp [VH,hbi,h,h0,Ki hm2 hm]
     ·simp [h2]
  ·have hb0 : (f i k != 0) = true:=by simpa using h0
   simp only [hb0,if_true,Option.bind_some]
   rw [yO m hm A B det _ _ a b k i hk hi h rfl]
   simp only [Option.bind_some]
   congr 3
   ·exact XX fun r _ c _=>by
     by_cases h2 : r = i
     ·subst h2; simp [VH,hai,hak,h]
     ·simp [h2]
   ·congr 1
    exact XX fun r _ c _=>by
     by_cases h2 : r = i
     ·subst h2; simp [VH,hbi,hbk,h]
     ·simp [h2]
theorem zT (k : Nat) (hk : k < 4) (s : Red) : Yq (m : Int) (mf s.a,mf s.b,(k : Int),s.det) = some (match Kr m s k with | none=>.ex (.ex (0,mf fun _ _=>0)) | some s'=>.nx (mf s'.a,mf s'.b,((k + 1 : Nat) : Int),s'.det)):=by
 unfold Yq
 have hp:=AW (VN (mf s.a,mf s.b,(k : Int),s.det)) s.a k hk (fun x=>rfl)
 simp only [lt4 hk,if_true,hp,Option.bind_some]
 unfold Kr
 by_cases h4 : QU s.a k = 4
 ·have : ((4 : Nat) : Int) = 4:=rfl
  simp only [h4,this,beq_self_eq_true,if_true,BP]
 ·have hi:=yB h4
  have h5 : (((QU s.a k : Nat) : Int) == 4) = false:=by
   have : ((QU s.a k : Nat) : Int) ≠ 4:=by omega
   simpa using this
  generalize hpi : QU s.a k = i at *
  simp only [h4,h5,Bool.false_eq_true,if_false]
  have x1 : ZI ((mf s.a).setIfInBounds i (vf 4 (s.a k))) (k : Int) = some (vf 4 (fun c=>if k = i then s.a k c else s.a k c)):=by rw [Ka]; exact Uc _ hk
  have x2 : ZI ((mf s.b).setIfInBounds i (vf 4 (s.b k))) (k : Int) = some (vf 4 (fun c=>if k = i then s.b k c else s.b k c)):=by rw [Ka]; exact Uc _ hk
  simp only [Uc _ hk,Uc _ hi,Option.bind_some,Int.toNat_natCast,x1,x2,yr,ZO _ hk,Uz m hm,Qc m hm,AF m hm _ _ _ _ _ _ k hk,zC m hm hm2 _ _ _ _ _ k hk,wr4 (show k < 1000 by omega)]
theorem HJ (f : MF) : YY (m : Int) (mf f) = some (JT m f):=by
 unfold YY
 have h:=Aj m (Yq (m : Int)) (fun s k=>(mf s.a,mf s.b,(k : Int),s.det)) (zT m hm hm2) (fun s=>by unfold Yq; simp) 4 0 ⟨f,Kn,1⟩ rfl
 have h2 : ZE (Yq (m : Int)) (mf f,mf Kn,0,1) = _:=h
 rw [Kl,Option.bind_some,h2]
 unfold JT
 cases Km m 4 0 ⟨f,Kn,1⟩ <;> rfl
end
theorem Bl {n i : Nat} (v : Vector UInt8 n) (h : i < n) : ZI v (i : Int) = some (v.toList.getD i 0):=by
 rw [Wk,Vector.getElem?_eq_getElem h]
 simp [List.getD_eq_getElem?_getD,h]
theorem An (x : UInt8) : (bI x).toNat = x.toNat:=rfl
def Tp (p : Vector UInt8 16) : Bool:=p.toList.all (fun x=>decide (x < 16)) && yl p.toList
def JC (a : Mat) : MF:=fun i j=>(a[i]?.getD default)[j]?.getD default
theorem JS (a : Mat) : a = mf (JC a):=calc a = vf 4 (fun i=>a[i]?.getD default):=zw a
  _ = _:=YE fun i _=>zw _
def detC (m : Nat) (a : Mat) : UInt8:=(JT m (JC a)).1
def invM (m : Nat) (a : Mat) : Mat:=(JT m (JC a)).2
def Yn (c : GCipher) : Bool:=KH c.Field && yl c.Box.toList && Tp c.Places && decide (1 ≤ c.Rounds ∧ c.Rounds ≤ 20) && (detC c.Field.toNat c.Mix != 0)
theorem yo (m : Nat) (hm : m < 512) (hm2 : 256 ≤ m) (a : Mat) : YY (m : Int) a = some (detC m a,invM m a):=by
 have:=HJ m hm hm2 (JC a)
 rw [← JS] at this
 exact this
theorem KS {c : GCipher} (h : Yn c = true) : ∃ m : Nat,c.Field = m ∧ 256 ≤ m ∧ m < 512:=by
 unfold Yn at h
 simp only [Bool.and_eq_true] at h
 exact B2 h.1.1.1.1
theorem XQ {n : Nat} (L : Vector UInt8 n × Int → Option (Fl (Vector UInt8 n × Int) (Vector UInt8 n))) (f h : Nat → UInt8) (hn : n < 9223372036854775807) (m : Nat) (hm : m ≤ n) (h0 : ∀ j,j < m → h j = f j)
  (hL : ∀ i,m ≤ i → i < n → ∀ a : Nat → UInt8,(∀ j,j < i → a j = h j) → (∀ j,i ≤ j → a j = f j) → L (vf n a,(i : Int)) = some (.nx ((vf n a).setIfInBounds i (h i),wr ((i : Int) + 1))))
  (he : ∀ v,L (v,(n : Int)) = some (.ex v)) : ZE L (vf n f,(m : Int)) = some (vf n h):=by
 have k1 : (vf n fun j=>if j < n then h j else f j) = vf n h:=YE fun j hj=>by rw [if_pos hj]
 have k0 : (vf n fun j=>if j < m then h j else f j) = vf n f:=YE fun j hj=>by
  by_cases h1 : j < m
  ·rw [if_pos h1,h0 j h1]
  ·rw [if_neg h1]
 have:=ZW (f:=L) (fun i : Nat=>(vf n fun j=>if j < i then h j else f j,(i : Int))) m n hm (t:=vf n h) (fun i hmi hi=>by
  rw [hL i hmi hi _ (fun j hj=>by rw [if_pos hj]) (fun j hj=>by rw [if_neg (by omega)]),U3,WX (show i < 9223372036854775807 by omega)]
  refine congrArg (fun z=>some (Fl.nx (z,((i + 1 : Nat) : Int)))) (YE fun j hj=>?_)
  by_cases h1 : j = i
  ·subst h1; simp
  ·by_cases h2 : j < i
   ·rw [if_neg h1,if_pos h2,if_pos (by omega)]
   ·rw [if_neg h1,if_neg h2,if_neg (by omega)]) (by
  simp only [k1]
  exact he _)
 simp only [k0] at this
 exact this
def Bo (b : Vector UInt8 256) (x : UInt8) : UInt8:=b[x.toNat]'(UInt8.toNat_lt x)
theorem TV (b : Vector UInt8 256) (x : UInt8) : ZI b (bI x) = some (Bo b x):=by
 have : ZI b ((x.toNat : Nat) : Int) = _:=Wk b x.toNat
 rw [Vector.getElem?_eq_getElem (UInt8.toNat_lt x)] at this
 exact this
abbrev Blk:=Vector UInt8 16
def bf (v : Blk) (i : Nat) : UInt8:=v[i]?.getD default
theorem vf_bf (v : Blk) : v = vf 16 (bf v):=zw v
theorem KG {i : Nat} (h : i < 16) : decide ((i : Int) < 16) = true:=by simp; omega
def KN (f g : Nat → UInt8) : Nat → UInt8:=fun i=>f i ^^^ g i
theorem KJ (f g : Nat → UInt8) : YO (vf 16 f) (vf 16 g) = some (vf 16 (KN f g)):=by
 unfold YO
 have:=XQ (W1 (vf 16 g)) f (KN f g) (by omega) 0 (by omega) (fun j hj=>by omega) (fun i _ hi a _ ha=>by
  unfold W1
  simp only [KG hi,if_true,ZO _ hi,Option.bind_some,Int.toNat_natCast,ha i (Nat.le_refl _),KN]) (fun v=>by unfold W1; simp)
 have h2 : ZE (W1 (vf 16 g)) (vf 16 f,0) = _:=this
 rw [h2]; rfl
theorem UQ (f g : Nat → UInt8) : Ye (vf 16 f) (vf 16 g) = some (vf 16 (KN f g)):=by
 unfold Ye
 have:=XQ (Xv (vf 16 g)) f (KN f g) (by omega) 0 (by omega) (fun j hj=>by omega) (fun i _ hi a _ ha=>by
  unfold Xv
  simp only [KG hi,if_true,ZO _ hi,Option.bind_some,Int.toNat_natCast,ha i (Nat.le_refl _),KN]) (fun v=>by unfold Xv; simp)
 have h2 : ZE (Xv (vf 16 g)) (vf 16 f,0) = _:=this
 rw [h2]; rfl
def Hp (b : Vector UInt8 256) (f : Nat → UInt8) : Nat → UInt8:=fun i=>Bo b (f i)
theorem AJ (b : Vector UInt8 256) (f : Nat → UInt8) : Vy b (vf 16 f) = some (vf 16 (Hp b f)):=by
 unfold Vy
 have:=XQ (XK b) f (Hp b f) (by omega) 0 (by omega) (fun j hj=>by omega) (fun i _ hi a _ ha=>by
  unfold XK
  simp only [KG hi,if_true,ZO _ hi,Option.bind_some,Int.toNat_natCast,ha i (Nat.le_refl _),TV,Hp]) (fun v=>by unfold XK; simp)
 have h2 : ZE (XK b) (vf 16 f,0) = _:=this
 rw [h2]; rfl
def QR (p : Blk) (f : Nat → UInt8) : Nat → UInt8:=fun i=>f (bf p i).toNat
theorem K6 {p : Blk} (h : Tp p = true) {i : Nat} (hi : i < 16) : (bf p i).toNat < 16:=by
 unfold Tp at h
 simp only [Bool.and_eq_true,List.all_eq_true,decide_eq_true_eq] at h
 have e : bf p i = p[i]:=by unfold bf; rw [Vector.getElem?_eq_getElem hi]; rfl
 have:=h.1 p[i] (by simp)
 rw [UInt8.lt_iff_toNat_lt] at this
 rw [e]; exact this
theorem KE (p : Blk) {i : Nat} (h : i < 16) : ZI p (i : Int) = some (bf p i):=by
 rw [Wk]; unfold bf; rw [Vector.getElem?_eq_getElem h]; rfl
theorem Ax (f : Nat → UInt8) {x : UInt8} (h : x.toNat < 16) : ZI (vf 16 f) (bI x) = some (f x.toNat):=ZO f h
theorem zK (p : Blk) (hp : Tp p = true) (f : Nat → UInt8) : VQ p (vf 16 f) = some (vf 16 (QR p f)):=by
 unfold VQ
 have:=XQ (Wd p (vf 16 f)) (fun _=>0) (QR p f) (by omega) 0 (by omega) (fun j hj=>by omega) (fun i _ hi a _ ha=>by
  unfold Wd
  simp only [KG hi,if_true,ZO _ hi,KE _ hi,Option.bind_some,Int.toNat_natCast,Ax f (K6 hp hi),QR]) (fun v=>by unfold Wd; simp)
 have h2 : ZE (Wd p (vf 16 f)) (vf 16 (fun _=>0),0) = _:=this
 rw [UK 16 (0 : UInt8),h2]; rfl
theorem v_move (p : Blk) (hp : Tp p = true) (f : Nat → UInt8) : X4 p (vf 16 f) = some (vf 16 (QR p f)):=by
 unfold X4
 have:=XQ (YV p (vf 16 f)) (fun _=>0) (QR p f) (by omega) 0 (by omega) (fun j hj=>by omega) (fun i _ hi a _ ha=>by
  unfold YV
  simp only [KG hi,if_true,ZO _ hi,KE _ hi,Option.bind_some,Int.toNat_natCast,Ax f (K6 hp hi),QR]) (fun v=>by unfold YV; simp)
 have h2 : ZE (YV p (vf 16 f)) (vf 16 (fun _=>0),0) = _:=this
 rw [UK 16 (0 : UInt8),h2]; rfl

def TR (b : Vector UInt8 256) (f : Nat → UInt8) (r : Int) : Nat → UInt8
 | 0=>f 0 ^^^ Bo b (f 15 ^^^ Zx r)
 | i + 1=>f (i + 1) ^^^ Bo b (TR b f r i)
theorem zF (b : Vector UInt8 256) (f : Nat → UInt8) (r : Int) : V0 b (vf 16 f) r = some (vf 16 (TR b f r)) := by
  unfold V0
  have := XQ (Wb b r) f (TR b f r) (by omega) 0 (by omega) (fun j hj => by omega) (fun i _ hi a hb ha => by
    unfold Wb
    cases i with
    | zero =>
      have e1 : Int.tmod (wr (((0 : Nat) : Int) + 15)) 16 = ((15 : Nat) : Int) := by decide
      simp only [e1, KG hi, if_true, ZO a (show 15 < 16 by omega), Option.bind_some]
      have e2 : (((0 : Nat) : Int) == 0) = true := rfl
      simp only [e2, if_true, Option.bind_some, TV, ZO a hi, Int.toNat_natCast, ha 0 (by omega), ha 15 (by omega), TR]
    | succ i =>
      have e1 : Int.tmod (wr (((i + 1 : Nat) : Int) + 15)) 16 = ((i : Nat) : Int) := by
        rw [YH (by omega)]
        have : (((i + 1 : Nat) : Int) + 15) = ((i + 16 : Nat) : Int) := by omega
        rw [this]
        have : Int.tmod ((i + 16 : Nat) : Int) 16 = (((i + 16) % 16 : Nat) : Int) := rfl
        rw [this]
        omega
      have e2 : (((i + 1 : Nat) : Int) == 0) = false := by have : ((i + 1 : Nat) : Int) ≠ 0 := by omega
                                                           simpa using this
      simp only [e1, e2, KG hi, if_true, ZO a (show i < 16 by omega), Option.bind_some, Bool.false_eq_true, if_false, TV, ZO a hi, Int.toNat_natCast, ha (i + 1) (Nat.le_refl _), hb i (by omega), TR]) (fun v => by unfold Wb; simp)
  have h2 : ZE (Wb b r) (vf 16 f, 0) = _ := this
  rw [h2]; rfl
theorem zD (e : Ref Gengine) (f : Nat → UInt8) (r : Int) : Y3 e (vf 16 f) r = some (vf 16 (TR e.v.box f r)):=by
 unfold Y3
 have x0 : ZI (vf 16 f) (0 : Int) = some (f 0):=ZO f (show 0 < 16 by omega)
 have x15 : ZI (vf 16 f) (15 : Int) = some (f 15):=ZO f (show 15 < 16 by omega)
 have z : (0 : Int).toNat = 0:=rfl
 simp only [x0,x15,Option.bind_some,TV,z,U3]
 have:=XQ (Yv e) (fun i=>if i = 0 then f 0 ^^^ Bo e.v.box (f 15 ^^^ Zx r) else f i) (TR e.v.box f r) (by omega) 1 (by omega) (fun j hj=>by
  have : j = 0:=by omega
  subst this; simp [TR]) (fun i h1 hi a hb ha=>by
  unfold Yv
  obtain ⟨i,rfl⟩ : ∃ k,i = k + 1:=⟨i - 1,by omega⟩
  have e1 : wr (((i + 1 : Nat) : Int) - 1) = ((i : Nat) : Int):=by rw [YH (by omega)]; omega
  simp only [e1,KG hi,if_true,ZO a (show i < 16 by omega),ZO a hi,Option.bind_some,TV,Int.toNat_natCast,ha (i + 1) (Nat.le_refl _),hb i (by omega),TR]
  simp) (fun v=>by unfold Yv; simp)
 have h2 : ZE (Yv e) (vf 16 (fun i=>if i = 0 then f 0 ^^^ Bo e.v.box (f 15 ^^^ Zx r) else f i),1) = _:=this
 rw [h2]; rfl
def BF (b : Vector UInt8 256) (k : Nat → UInt8) : Nat → Nat → UInt8
 | 0=>k
 | r + 1=>TR b (BF b k r) ((r + 1 : Nat) : Int)
def Vm (b : Vector UInt8 256) (k : Nat → UInt8) (n : Nat) : List Blk:=(List.range (n + 1)).map fun r=>vf 16 (BF b k r)
theorem Bn (b : Vector UInt8 256) (k : Nat → UInt8) (n : Nat) : Vm b k (n + 1) = Vm b k n ++ [vf 16 (TR b (BF b k n) ((n + 1 : Nat) : Int))]:=by
 unfold Vm
 rw [List.range_succ,List.map_append]; rfl
theorem Qz (b : Vector UInt8 256) (k : Nat → UInt8) (n : Nat) : (Vm b k n).length = n + 1:=by simp [Vm]
theorem Ku (b : Vector UInt8 256) (k : Nat → UInt8) {n r : Nat} (h : r ≤ n) : idx (Vm b k n) (r : Int) = some (vf 16 (BF b k r)):=by
 rw [Xj]; unfold Vm; rw [List.getElem?_map,List.getElem?_range (by omega)]; rfl
theorem zJ (c : GCipher) (k : Nat → UInt8) (n : Nat) (hn : n ≤ 1000) : VU c (vf 16 k) (n : Int) = some (Vm c.Box k n):=by
 unfold VU
 have:=ZW (f:=Wf c (n : Int)) (fun i : Nat=>(vf 16 (BF c.Box k (i - 1)),Vm c.Box k (i - 1),(i : Int))) 1 (n + 1) (by omega) (t:=Vm c.Box k n) (fun i h1 hi=>by
  unfold Wf
  obtain ⟨i,rfl⟩ : ∃ q,i = q + 1:=⟨i - 1,by omega⟩
  have e1 : decide (((i + 1 : Nat) : Int) ≤ (n : Int)) = true:=by simp; omega
  have e2 : app 16 (Vm c.Box k i) [vf 16 (TR c.Box (BF c.Box k i) ((i + 1 : Nat) : Int))] = _:=V2 (by rw [Qz]; simp; omega)
  simp only [Nat.add_sub_cancel,e1,if_true,zF,Option.bind_some,e2,WX (show i + 1 < 9223372036854775807 by omega),Bn]
  rfl) (by
  unfold Wf
  have e1 : decide (((n + 1 : Nat) : Int) ≤ (n : Int)) = false:=by simp; omega
  simp only [e1,Bool.false_eq_true,if_false,Nat.add_sub_cancel])
 have h2 : ZE (Wf c (n : Int)) (vf 16 k,[vf 16 k],1) = _:=this
 rw [h2]; rfl
theorem v_keys (e : Ref Gengine) (k : Nat → UInt8) (n : Nat) (hn : n ≤ 1000) : X1 e (vf 16 k) (n : Int) = some (Vm e.v.box k n):=by
 unfold X1
 have:=ZW (f:=YW e (n : Int)) (fun i : Nat=>(vf 16 (BF e.v.box k (i - 1)),Vm e.v.box k (i - 1),(i : Int))) 1 (n + 1) (by omega) (t:=Vm e.v.box k n) (fun i h1 hi=>by
  unfold YW
  obtain ⟨i,rfl⟩ : ∃ q,i = q + 1:=⟨i - 1,by omega⟩
  have e1 : decide (((i + 1 : Nat) : Int) ≤ (n : Int)) = true:=by simp; omega
  have e2 : app 16 (Vm e.v.box k i) [vf 16 (TR e.v.box (BF e.v.box k i) ((i + 1 : Nat) : Int))] = _:=V2 (by rw [Qz]; simp; omega)
  simp only [Nat.add_sub_cancel,e1,if_true,zD,Option.bind_some,e2,WX (show i + 1 < 9223372036854775807 by omega),Bn]
  rfl) (by
  unfold YW
  have e1 : decide (((n + 1 : Nat) : Int) ≤ (n : Int)) = false:=by simp; omega
  simp only [e1,Bool.false_eq_true,if_false,Nat.add_sub_cancel])
 have h2 : ZE (YW e (n : Int)) (vf 16 k,[vf 16 k],1) = _:=this
 rw [h2]; rfl

def rowF (m : Nat) (a : MF) (f : Nat → UInt8) (c r : Nat) : UInt8:=((ZU m (a r 0) (f c) ^^^ ZU m (a r 1) (f (c + 1))) ^^^ ZU m (a r 2) (f (c + 2))) ^^^ ZU m (a r 3) (f (c + 3))
def VL (m : Nat) (a : MF) (f : Nat → UInt8) : Nat → UInt8:=fun i=>rowF m a f (i / 4 * 4) (i % 4)
theorem set_set (f : Nat → UInt8) (k : Nat) (x y : UInt8) : (fun i=>if i = k then y else if i = k then x else f i) = fun i=>if i = k then y else f i:=by
 funext i; by_cases h : i = k <;> simp [h]
theorem wr_at {c r : Nat} (hc : c < 4) (hr : r < 4) : wr (wr (4 * (c : Int)) + (r : Int)) = ((c * 4 + r : Nat) : Int):=by
 rw [YH (x:=4 * (c : Int)) (by omega),YH (by omega)]; omega
theorem jk (m : Nat) (hm : m < 512) (hm2 : 256 ≤ m) (a : MF) (f g : Nat → UInt8) (c r : Nat) (hc : c < 4) (hr : r < 4) (s1 s2 : Blk × Int) (h1 : s1.2 = (c : Int)) (h2 : s2.2 = (r : Int)) (hg : g (c * 4 + r) = 0) :
  ZE (Xl (m : Int) (mf a) (vf 16 f) s1 s2) (vf 16 g,0) = some (vf 16 fun i=>if i = c * 4 + r then rowF m a f (c * 4) r else g i):=by
 have hcr : c * 4 + r < 16:=by omega
 have step : ∀ (j : Nat) (h : Nat → UInt8),j < 4 → Xl (m : Int) (mf a) (vf 16 f) s1 s2 (vf 16 h,(j : Int)) = some (.nx (vf 16 (fun i=>if i = c * 4 + r then h (c * 4 + r) ^^^ ZU m (a r j) (f (c * 4 + j)) else h i),((j + 1 : Nat) : Int))):=fun j h hj=>by
  unfold Xl
  simp only [h1,h2,lt4 hj,if_true,wr_at hc hr,wr_at hc hj,ZO _ hcr,Uc _ hr,ZO _ hj,ZO f (show c * 4 + j < 16 by omega),Option.bind_some,Q2 m hm hm2,Int.toNat_natCast,U3,wr4 (show j < 1000 by omega)]
 have e0:=step 0 g (by omega)
 have e1:=step 1 (fun i=>if i = c * 4 + r then g (c * 4 + r) ^^^ ZU m (a r 0) (f (c * 4 + 0)) else g i) (by omega)
 have e2:=step 2 (fun i=>if i = c * 4 + r then (g (c * 4 + r) ^^^ ZU m (a r 0) (f (c * 4 + 0))) ^^^ ZU m (a r 1) (f (c * 4 + 1)) else g i) (by omega)
 have e3:=step 3 (fun i=>if i = c * 4 + r then ((g (c * 4 + r) ^^^ ZU m (a r 0) (f (c * 4 + 0))) ^^^ ZU m (a r 1) (f (c * 4 + 1))) ^^^ ZU m (a r 2) (f (c * 4 + 2)) else g i) (by omega)
 have e4 : ∀ v : Blk,Xl (m : Int) (mf a) (vf 16 f) s1 s2 (v,((4 : Nat) : Int)) = some (.ex v):=fun v=>by unfold Xl; simp
 simp only [if_true,set_set] at e1 e2 e3
 have e0' : Xl (m : Int) (mf a) (vf 16 f) s1 s2 (vf 16 g,0) = _:=e0
 rw [Wn e0',Wn e1,Wn e2,Wn e3,YD (e4 _)]
 refine congrArg some (YE fun i _=>?_)
 by_cases h : i = c * 4 + r
 ·simp [h,hg,rowF]
 ·simp [h]
theorem yk (m : Nat) (hm : m < 512) (hm2 : 256 ≤ m) (a : MF) (f : Nat → UInt8) : UA (m : Int) (mf a) (vf 16 f) = some (vf 16 (VL m a f)):=by
 unfold UA
 -- after c columns and r rows of the next
 have inner : ∀ c : Nat,c < 4 → ∀ s1 : Blk × Int,s1.2 = (c : Int) → ZE (W7 (m : Int) (mf a) (vf 16 f) s1) (vf 16 (fun i=>if i < c * 4 then VL m a f i else 0),0) = some (vf 16 fun i=>if i < (c + 1) * 4 then VL m a f i else 0):=fun c hc s1 h1=>by
  have k1 : (vf 16 fun i=>if i < c * 4 + 4 then VL m a f i else 0) = vf 16 fun i=>if i < (c + 1) * 4 then VL m a f i else 0:=by rw [show c * 4 + 4 = (c + 1) * 4 by omega]
  have:=ZW (f:=W7 (m : Int) (mf a) (vf 16 f) s1) (fun r : Nat=>(vf 16 fun i=>if i < c * 4 + r then VL m a f i else 0,(r : Int))) 0 4 (by omega) (t:=vf 16 fun i=>if i < (c + 1) * 4 then VL m a f i else 0) (fun r _ hr=>by
   unfold W7
   have h2:=jk m hm hm2 a f (fun i=>if i < c * 4 + r then VL m a f i else 0) c r hc hr s1 (vf 16 fun i=>if i < c * 4 + r then VL m a f i else 0,(r : Int)) h1 rfl (by simp)
   simp only [lt4 hr,if_true,h2,Option.bind_some,wr4 (show r < 1000 by omega)]
   refine congrArg (fun z=>some (Fl.nx (z,((r + 1 : Nat) : Int)))) (YE fun i _=>?_)
   by_cases h : i = c * 4 + r
   ·subst h
    have q1 : (c * 4 + r) / 4 = c:=by omega
    have q2 : (c * 4 + r) % 4 = r:=by omega
    rw [if_pos rfl,if_pos (by omega)]
    unfold VL; rw [q1,q2]
   ·by_cases h3 : i < c * 4 + r
    ·rw [if_neg h,if_pos h3,if_pos (by omega)]
    ·rw [if_neg h,if_neg h3,if_neg (by omega)]) (by
   unfold W7
   simp only [k1]
   simp)
  exact this
 have:=ZW (f:=WZ (m : Int) (mf a) (vf 16 f)) (fun c : Nat=>(vf 16 fun i=>if i < c * 4 then VL m a f i else 0,(c : Int))) 0 4 (by omega) (t:=vf 16 (VL m a f)) (fun c _ hc=>by
  unfold WZ
  have h2:=inner c hc (vf 16 fun i=>if i < c * 4 then VL m a f i else 0,(c : Int)) rfl
  simp only [lt4 hc,if_true,h2,Option.bind_some,wr4 (show c < 1000 by omega)]) (by
  unfold WZ
  have : (vf 16 fun i=>if i < 4 * 4 then VL m a f i else 0) = vf 16 (VL m a f):=YE fun i hi=>by rw [if_pos (by omega)]
  simp only [this]
  simp)
 have e0 : (vf 16 fun i=>if i < 0 * 4 then VL m a f i else 0) = vf 16 fun _=>(0 : UInt8):=YE fun i _=>by rw [if_neg (by omega)]
 simp only [e0] at this
 have h2 : ZE (WZ (m : Int) (mf a) (vf 16 f)) (vf 16 fun _=>(0 : UInt8),0) = _:=this
 rw [UK 16 (0 : UInt8),h2]; rfl

abbrev Tab:=Vector (Vector (Vector UInt8 256) 4) 4
def Jt (m : Nat) (a : MF) : Tab:=vf 4 fun i=>vf 4 fun j=>vf 256 fun x=>ZU m (a i j) (UInt8.ofNat x)
theorem yw (m : Nat) (a : MF) (i j : Nat) (x : UInt8) : ZI (vf 256 fun x=>ZU m (a i j) (UInt8.ofNat x)) (bI x) = some (ZU m (a i j) x):=by
 rw [show bI x = ((x.toNat : Nat) : Int) from rfl,ZO _ (UInt8.toNat_lt x)]
 simp
theorem v_mix (m : Nat) (a : MF) (f : Nat → UInt8) : W0 ⟨Jt m a⟩ (vf 16 f) = some (vf 16 (VL m a f)):=by
 unfold W0
 have i0 : ∀ (v : Vector (Vector UInt8 256) 4),ZI v (0 : Int) = v[0]?:=fun v=>Wk v 0
 have i1 : ∀ (v : Vector (Vector UInt8 256) 4),ZI v (1 : Int) = v[1]?:=fun v=>Wk v 1
 have i2 : ∀ (v : Vector (Vector UInt8 256) 4),ZI v (2 : Int) = v[2]?:=fun v=>Wk v 2
 have i3 : ∀ (v : Vector (Vector UInt8 256) 4),ZI v (3 : Int) = v[3]?:=fun v=>Wk v 3
 have inner : ∀ c : Nat,c < 4 → ∀ s1 : Blk × Int,s1.2 = ((c * 4 : Nat) : Int) → ZE (Xr ⟨Jt m a⟩ s1 (f (c * 4),f (c * 4 + 1),f (c * 4 + 2),f (c * 4 + 3))) (vf 16 (fun i=>if i < c * 4 then VL m a f i else f i),0) = some (vf 16 fun i=>if i < (c + 1) * 4 then VL m a f i else f i):=fun c hc s1 h1=>by
  have k1 : (vf 16 fun i=>if i < c * 4 + 4 then VL m a f i else f i) = vf 16 fun i=>if i < (c + 1) * 4 then VL m a f i else f i:=by rw [show c * 4 + 4 = (c + 1) * 4 by omega]
  have:=ZW (f:=Xr ⟨Jt m a⟩ s1 (f (c * 4),f (c * 4 + 1),f (c * 4 + 2),f (c * 4 + 3))) (fun r : Nat=>(vf 16 fun i=>if i < c * 4 + r then VL m a f i else f i,(r : Int))) 0 4 (by omega) (t:=vf 16 fun i=>if i < (c + 1) * 4 then VL m a f i else f i) (fun r _ hr=>by
   unfold Xr
   have e1 : wr (s1.2 + (r : Int)) = ((c * 4 + r : Nat) : Int):=by rw [h1,YH (by omega)]; omega
   have et : ZI (Jt m a) (r : Int) = some (vf 4 fun j=>vf 256 fun x=>ZU m (a r j) (UInt8.ofNat x)):=ZO _ hr
   simp only [lt4 hr,if_true,et,i0,i1,i2,i3,Kp _ (show 0 < 4 by omega),Kp _ (show 1 < 4 by omega),Kp _ (show 2 < 4 by omega),Kp _ (show 3 < 4 by omega),yw,e1,ZO _ (show c * 4 + r < 16 by omega),Option.bind_some,Int.toNat_natCast,U3,wr4 (show r < 1000 by omega)]
   refine congrArg (fun z=>some (Fl.nx (z,((r + 1 : Nat) : Int)))) (YE fun i _=>?_)
   by_cases h : i = c * 4 + r
   ·subst h
    have q1 : (c * 4 + r) / 4 = c:=by omega
    have q2 : (c * 4 + r) % 4 = r:=by omega
    rw [if_pos rfl,if_pos (by omega)]
    unfold VL; rw [q1,q2]; rfl
   ·by_cases h3 : i < c * 4 + r
    ·rw [if_neg h,if_pos h3,if_pos (by omega)]
    ·rw [if_neg h,if_neg h3,if_neg (by omega)]) (by
   unfold Xr
   simp only [k1]
   simp)
  exact this
 have:=ZW (f:=Xo ⟨Jt m a⟩) (fun c : Nat=>(vf 16 fun i=>if i < c * 4 then VL m a f i else f i,((c * 4 : Nat) : Int))) 0 4 (by omega) (t:=vf 16 (VL m a f)) (fun c _ hc=>by
  unfold Xo
  have hd : decide (((c * 4 : Nat) : Int) < ((vf 16 fun i=>if i < c * 4 then VL m a f i else f i).toList.length : Int)) = true:=by rw [Vector.length_toList]; simp; omega
  have x0:=ZO (n:=16) (fun i=>if i < c * 4 then VL m a f i else f i) (show c * 4 < 16 by omega)
  have x1:=ZO (n:=16) (fun i=>if i < c * 4 then VL m a f i else f i) (show c * 4 + 1 < 16 by omega)
  have x2:=ZO (n:=16) (fun i=>if i < c * 4 then VL m a f i else f i) (show c * 4 + 2 < 16 by omega)
  have x3:=ZO (n:=16) (fun i=>if i < c * 4 then VL m a f i else f i) (show c * 4 + 3 < 16 by omega)
  have w1 : wr (((c * 4 : Nat) : Int) + 1) = ((c * 4 + 1 : Nat) : Int):=by rw [YH (by omega)]; omega
  have w2 : wr (((c * 4 : Nat) : Int) + 2) = ((c * 4 + 2 : Nat) : Int):=by rw [YH (by omega)]; omega
  have w3 : wr (((c * 4 : Nat) : Int) + 3) = ((c * 4 + 3 : Nat) : Int):=by rw [YH (by omega)]; omega
  have w4 : wr (((c * 4 : Nat) : Int) + 4) = (((c + 1) * 4 : Nat) : Int):=by rw [YH (by omega)]; omega
  rw [if_neg (by omega)] at x0 x1 x2 x3
  have h2:=inner c hc (vf 16 fun i=>if i < c * 4 then VL m a f i else f i,((c * 4 : Nat) : Int)) rfl
  simp only [hd,if_true,x0,w1,x1,w2,x2,w3,x3,Option.bind_some,h2,w4]) (by
  unfold Xo
  have : (vf 16 fun i=>if i < 4 * 4 then VL m a f i else f i) = vf 16 (VL m a f):=YE fun i hi=>by rw [if_pos (by omega)]
  simp only [this]
  simp)
 have e0 : (vf 16 fun i=>if i < 0 * 4 then VL m a f i else f i) = vf 16 f:=YE fun i _=>by rw [if_neg (by omega)]
 simp only [e0] at this
 have h2 : ZE (Xo ⟨Jt m a⟩) (vf 16 f,0) = _:=this
 rw [h2]; rfl

def tb (g : Nat → Nat → Nat → UInt8) : Tab:=vf 4 fun i=>vf 4 fun j=>vf 256 (g i j)
theorem Jb {g h : Nat → Nat → Nat → UInt8} (e : ∀ i,i < 4 → ∀ j,j < 4 → ∀ x,x < 256 → g i j x = h i j x) : tb g = tb h :=
 YE fun i hi=>YE fun j hj=>YE fun x hx=>e i hi j hj x hx
theorem yT (g : Nat → Nat → Nat → UInt8) {i : Nat} (hi : i < 4) : ZI (tb g) (i : Int) = some (vf 4 fun j=>vf 256 (g i j)):=ZO _ hi
theorem yd (g : Nat → Nat → Nat → UInt8) (i : Nat) {j : Nat} (hj : j < 4) : ZI (vf 4 fun j=>vf 256 (g i j)) (j : Int) = some (vf 256 (g i j)):=ZO _ hj
theorem tb_set (g : Nat → Nat → Nat → UInt8) (i j : Nat) (h : Nat → UInt8) : (tb g).setIfInBounds i ((vf 4 fun j=>vf 256 (g i j)).setIfInBounds j (vf 256 h)) = tb (fun i' j'=>if i' = i ∧ j' = j then h else g i' j'):=by
 unfold tb
 rw [U3,U3]
 refine YE fun i' _=>?_
 by_cases h1 : i' = i
 ·subst h1
  rw [if_pos rfl]
  refine YE fun j' _=>?_
  by_cases h2 : j' = j
  ·subst h2; simp
  ·simp [h2]
 ·rw [if_neg h1]
  refine YE fun j' _=>?_
  simp [h1]
theorem jn (a b : Nat) (ha : a < 9223372036854775808) (hb : b < 9223372036854775808) : orI (a : Int) (b : Int) = ((a ||| b : Nat) : Int):=by
 unfold orI
 rw [BitVec.toNat_or,Jc a ha,Jc b hb]
 have : a ||| b < 2 ^ 63:=Nat.or_lt_two_pow ha hb
 exact YH (by omega)
theorem W9 (n : Nat) : Zx (n : Int) = UInt8.ofNat n:=by
 unfold Zx
 have : ((n : Int) % 256).toNat = n % 256:=by omega
 rw [this]
 apply UInt8.toNat_inj.1
 simp
theorem jd (g : Nat → Nat → Nat → UInt8) (i j : Nat) (h : Nat → UInt8) : (tb g).setIfInBounds i (vf 4 fun j'=>if j' = j then vf 256 h else vf 256 (g i j')) = tb (fun i' j'=>if i' = i ∧ j' = j then h else g i' j'):=by
 have:=tb_set g i j h
 rw [U3] at this
 exact this
theorem yc {p low : Nat} (h : low < 2 ^ p) : 2 ^ p ||| low = 2 ^ p + low:=by
 have:=Nat.two_pow_add_eq_or_of_lt h 1
 simpa using this.symm
theorem yb {p low : Nat} (hp : p < 8) (h : low < 2 ^ p) : UInt8.ofNat (2 ^ p + low) = UInt8.ofNat (2 ^ p) ^^^ UInt8.ofNat low:=by
 apply UInt8.toNat_inj.1
 have h7 : 2 ^ p ≤ 2 ^ 7:=Nat.pow_le_pow_right (by omega) (by omega)
 rw [UInt8.toNat_xor]
 simp only [UInt8.toNat_ofNat']
 rw [Nat.mod_eq_of_lt (by omega),Nat.mod_eq_of_lt (by omega),Nat.mod_eq_of_lt (by omega)]
 rw [← yc h]
 apply Nat.eq_of_testBit_eq
 intro i
 rw [Nat.testBit_or,Nat.testBit_xor,Nat.testBit_two_pow]
 by_cases hi : p = i
 ·subst hi
  rw [Nat.testBit_lt_two_pow h]; simp
 ·simp [hi]
section
variable (m : Nat) (hm : m < 512) (hm2 : 256 ≤ m) (a : MF)
include hm hm2
def Qp (m : Nat) (a : MF) (i j n : Nat) (g : Nat → Nat → Nat → UInt8) : Nat → Nat → Nat → UInt8:=fun i' j'=>if i' = i ∧ j' = j then (fun x=>if x < n then ZU m (a i j) (UInt8.ofNat x) else 0) else g i' j'
theorem yK (i j p : Nat) (hi : i < 4) (hj : j < 4) (hp : p < 8) (g : Nat → Nat → Nat → UInt8) (s0 s1 s2 : Tab × Int) (h0 : s0.2 = (i : Int)) (h1 : s1.2 = (j : Int)) (h2 : s2.2 = ((2 ^ p : Nat) : Int)) :
  ZE (XH s0 s1 s2 (ZU m (a i j) (UInt8.ofNat (2 ^ p)))) (tb (Qp m a i j (2 ^ p) g),0) = some (tb (Qp m a i j (2 ^ (p + 1)) g)):=by
 have h7 : 2 ^ p ≤ 2 ^ 7:=Nat.pow_le_pow_right (by omega) (by omega)
 have k1 : 2 ^ p + 2 ^ p = 2 ^ (p + 1):=by rw [Nat.pow_succ]; omega
 have:=ZW (f:=XH s0 s1 s2 (ZU m (a i j) (UInt8.ofNat (2 ^ p)))) (fun low : Nat=>(tb (Qp m a i j (2 ^ p + low) g),(low : Int))) 0 (2 ^ p) (Nat.zero_le _) (t:=tb (Qp m a i j (2 ^ (p + 1)) g)) (fun low _ hl=>by
  unfold XH
  have hd : decide ((low : Int) < ((2 ^ p : Nat) : Int)) = true:=by simp only [decide_eq_true_eq]; omega
  have ho : orI ((2 ^ p : Nat) : Int) (low : Int) = ((2 ^ p + low : Nat) : Int):=by rw [jn _ _ (by omega) (by omega),yc hl]
  have eg : Qp m a i j (2 ^ p + low) g i j = fun x=>if x < 2 ^ p + low then ZU m (a i j) (UInt8.ofNat x) else 0:=by simp [Qp]
  simp only [h0,h1,h2,hd,if_true,yT _ hi,yd _ i hj,eg,ZO _ (show low < 256 by omega),ho,ZO _ (show 2 ^ p + low < 256 by omega),Option.bind_some,Int.toNat_natCast,U3,WX (show low < 9223372036854775807 by omega)]
  rw [if_pos (show low < 2 ^ p + low from Nat.lt_add_of_pos_left (Nat.two_pow_pos p)),← AN hm2 hm,← yb hp hl]
  have:=jd (Qp m a i j (2 ^ p + low) g) i j (fun x=>if x = 2 ^ p + low then ZU m (a i j) (UInt8.ofNat (2 ^ p + low)) else if x < 2 ^ p + low then ZU m (a i j) (UInt8.ofNat x) else 0)
  rw [this]
  refine congrArg (fun z=>some (Fl.nx (z,((low + 1 : Nat) : Int)))) (Jb fun i' _ j' _ x _=>?_)
  unfold Qp
  by_cases h : i' = i ∧ j' = j
  ·simp only [h,and_self,if_true]
   by_cases hx : x = 2 ^ p + low
   ·subst hx; simp
   ·by_cases hx2 : x < 2 ^ p + low
    ·rw [if_neg hx,if_pos hx2,if_pos (by omega)]
    ·rw [if_neg hx,if_neg hx2,if_neg (by omega)]
  ·simp only [h,if_false]) (by
  unfold XH
  simp only [h2,k1]
  simp)
 exact this
theorem yu (i j : Nat) (hi : i < 4) (hj : j < 4) (g : Nat → Nat → Nat → UInt8) (s0 s1 : Tab × Int) (h0 : s0.2 = (i : Int)) (h1 : s1.2 = (j : Int)) :
  ZE (XJ (m : Int) s0 s1 (a i j)) (tb (Qp m a i j 1 g),1) = some (tb (Qp m a i j 256 g)):=by
 have:=ZW (f:=XJ (m : Int) s0 s1 (a i j)) (fun p : Nat=>(tb (Qp m a i j (2 ^ p) g),((2 ^ p : Nat) : Int))) 0 8 (by omega) (t:=tb (Qp m a i j 256 g)) (fun p _ hp=>by
  unfold XJ
  have h7 : 2 ^ p ≤ 2 ^ 7:=Nat.pow_le_pow_right (by omega) (by omega)
  have hd : decide (((2 ^ p : Nat) : Int) < 256) = true:=by simp only [decide_eq_true_eq]; omega
  have hb : Zx ((2 ^ p : Nat) : Int) = UInt8.ofNat (2 ^ p):=by rw [W9]
  have hw : wr (((2 ^ p : Nat) : Int) * 2) = ((2 ^ (p + 1) : Nat) : Int):=by
   rw [Nat.pow_succ]
   generalize 2 ^ p = q at h7 ⊢
   rw [YH (by omega)]; omega
  have h3:=yK m hm hm2 a i j p hi hj hp g s0 s1 (tb (Qp m a i j (2 ^ p) g),((2 ^ p : Nat) : Int)) h0 h1 rfl
  simp only [hd,if_true,hb,Uz m hm,Option.bind_some,h3,hw]) (by unfold XJ; simp)
 exact this
theorem HQ (A : Mat) (hA : A = mf a) : Wg (m : Int) A = some ⟨Jt m a⟩:=by
 subst hA
 unfold Wg
 let G : Nat → Nat → Nat → Nat → Nat → UInt8:=fun r c i j x=>if i < r ∨ (i = r ∧ j < c) then ZU m (a i j) (UInt8.ofNat x) else 0
 have hGt : ∀ r c i j x,(i < r ∨ (i = r ∧ j < c)) → G r c i j x = ZU m (a i j) (UInt8.ofNat x):=fun r c i j x h=>if_pos h
 have hGf : ∀ r c i j x,¬ (i < r ∨ (i = r ∧ j < c)) → G r c i j x = 0:=fun r c i j x h=>if_neg h
 have hGe : ∀ r c r' c' i j x,((i < r ∨ (i = r ∧ j < c)) ↔ (i < r' ∨ (i = r' ∧ j < c'))) → G r c i j x = G r' c' i j x:=fun r c r' c' i j x h=>by show (if _ then _ else _) = (if _ then _ else _); simp only [h]
 have z0 : ∀ i j,ZU m (a i j) (UInt8.ofNat 0) = 0:=fun i j=>by rw [TW hm2 hm]; exact Ki hm2 hm _
 have col : ∀ r : Nat,r < 4 → ∀ s0 : Tab × Int,s0.2 = (r : Int) → ZE (XP (m : Int) s0 (vf 4 (a r))) (tb (G r 0),0) = some (tb (G (r + 1) 0)):=fun r hr s0 h0=>by
  have k1 : tb (G r 4) = tb (G (r + 1) 0):=Jb fun i hi j hj x _=>by
   exact hGe _ _ _ _ _ _ _ (by omega)
  have:=ZW (f:=XP (m : Int) s0 (vf 4 (a r))) (fun c : Nat=>(tb (G r c),(c : Int))) 0 4 (by omega) (t:=tb (G (r + 1) 0)) (fun c _ hc=>by
   unfold XP
   have e1 : tb (G r c) = tb (Qp m a r c 1 (G r c)):=Jb fun i _ j _ x _=>by
    unfold Qp
    by_cases h : i = r ∧ j = c
    ·obtain ⟨rfl,rfl⟩:=h
     simp only [and_self,if_true]
     rw [hGf _ _ _ _ _ (by omega)]
     by_cases hx : x < 1
     ·have : x = 0:=by omega
      subst this; rw [if_pos hx,z0]
     ·rw [if_neg hx]
    ·simp only [h,if_false]
   have e2 : tb (Qp m a r c 256 (G r c)) = tb (G r (c + 1)):=Jb fun i _ j _ x hx=>by
    unfold Qp
    by_cases h : i = r ∧ j = c
    ·obtain ⟨rfl,rfl⟩:=h
     simp only [and_self,if_true,hx]
     rw [hGt _ _ _ _ _ (by omega)]
    ·simp only [h,if_false]
     exact hGe _ _ _ _ _ _ _ (by omega)
   have h3:=yu m hm hm2 a r c hr hc (G r c) s0 (tb (G r c),(c : Int)) h0 rfl
   rw [← e1,e2] at h3
   simp only [lt4 hc,if_true,ZO _ hc,h3,Option.bind_some,wr4 (show c < 1000 by omega)]) (by
   unfold XP
   simp only [k1]
   simp)
  exact this
 have kz : tb (G 0 0) = Vector.replicate 4 (Vector.replicate 4 (Vector.replicate 256 (0 : UInt8))):=by
  rw [UK 256 (0 : UInt8),UK 4,UK 4]
  exact Jb fun i _ j _ x _=>by
   exact hGf _ _ _ _ _ (by omega)
 have k4 : tb (G 4 0) = Jt m a:=Jb fun i hi j _ x _=>by
  exact hGt _ _ _ _ _ (by omega)
 have:=ZW (f:=XI (m : Int) (mf a)) (fun r : Nat=>(tb (G r 0),(r : Int))) 0 4 (by omega) (t:=Jt m a) (fun r _ hr=>by
  unfold XI
  have h3:=col r hr (tb (G r 0),(r : Int)) rfl
  simp only [lt4 hr,if_true,Uc _ hr,h3,Option.bind_some,wr4 (show r < 1000 by omega)]) (by
  unfold XI
  simp only [k4]
  simp)
 have h2 : ZE (XI (m : Int) (mf a)) (tb (G 0 0),0) = _:=this
 rw [← kz,h2]; rfl
end

def HA (n : Nat) (p : Vector UInt8 n) : Nat → Vector UInt8 n
 | 0=>Vector.replicate n 0
 | i + 1=>(HA n p i).setIfInBounds (p.toList.getD i 0).toNat (Zx (i : Int))
theorem HT (p : Vector UInt8 256) : XV p = some (HA 256 p 256):=by
 unfold XV
 have:=ZW (f:=YX p) (fun i : Nat=>(HA 256 p i,(i : Int))) 0 256 (by omega) (t:=HA 256 p 256) (fun i _ hi=>by
  unfold YX
  have hd : decide ((i : Int) < 256) = true:=by simp; omega
  simp only [hd,if_true,Bl p hi,TV,Option.bind_some,An,WX (show i < 9223372036854775807 by omega)]
  rfl) (by unfold YX; simp)
 have h2 : ZE (YX p) (Vector.replicate 256 0,0) = _:=this
 rw [h2]; rfl
theorem jm (p : Blk) {i : Nat} (h : i < 16) : p.toList.getD i 0 = bf p i:=by
 have h1:=Bl p h
 rw [KE p h] at h1
 exact (Option.some.inj h1).symm
theorem Ji (p : Blk) (hp : Tp p = true) : Y6 p = some (HA 16 p 16):=by
 unfold Y6
 have:=ZW (f:=Yu p) (fun i : Nat=>(HA 16 p i,(i : Int))) 0 16 (by omega) (t:=HA 16 p 16) (fun i _ hi=>by
  unfold Yu
  have hlt:=K6 hp hi
  have hv : ZI (HA 16 p i) (bI (bf p i)) = some (bf (HA 16 p i) (bf p i).toNat):=KE _ hlt
  simp only [KG hi,if_true,KE p hi,hv,Option.bind_some,An,WX (show i < 9223372036854775807 by omega)]
  rw [← jm p hi]
  rfl) (by unfold Yu; simp)
 have h2 : ZE (Yu p) (Vector.replicate 16 0,0) = _:=this
 rw [h2]; rfl

def YM (c : GCipher) : Gengine:=⟨c.Box,HA 256 c.Box 256,c.Places,HA 16 c.Places 16,⟨Jt c.Field.toNat (JC c.Mix)⟩,⟨Jt c.Field.toNat (JC (invM c.Field.toNat c.Mix))⟩,c.Rounds⟩
theorem TL {c : GCipher} (h : Yn c = true) : Tp c.Places = true:=by
 unfold Yn at h
 simp only [Bool.and_eq_true] at h
 exact h.1.1.2
theorem QT {c : GCipher} (h : Yn c = true) : 1 ≤ c.Rounds ∧ c.Rounds ≤ 20:=by
 unfold Yn at h
 simp only [Bool.and_eq_true,decide_eq_true_eq] at h
 exact h.1.2
theorem AD (c : GCipher) (h : Yn c = true) : WV c = some ⟨YM c⟩:=by
 obtain ⟨m,hm,h1,h2⟩:=KS h
 have e : c.Field.toNat = m:=by omega
 unfold WV YM
 rw [e]
 simp only [hm,yo m h2 h1,Option.bind_some,HT,Ji _ (TL h),HQ m h2 h1 (JC c.Mix) c.Mix (JS _),HQ m h2 h1 (JC (invM m c.Mix)) (invM m c.Mix) (JS _)]

def HE (c : GCipher) (n r : Nat) (k f : Nat → UInt8) : Nat → UInt8 :=
 KN (if r < n then VL c.Field.toNat (JC c.Mix) (QR c.Places (Hp c.Box f)) else QR c.Places (Hp c.Box f)) k
def Jf (c : GCipher) (k f : Nat → UInt8) (n : Nat) : Nat → Nat → UInt8
 | 0=>KN f k
 | r + 1=>HE c n (r + 1) (BF c.Box k (r + 1)) (Jf c k f n r)
def Bt (c : GCipher) (k f : Nat → UInt8) (n : Nat) : Nat → UInt8:=Jf c k f n n
theorem HV (c : GCipher) (h : Yn c = true) (k f : Nat → UInt8) (n : Nat) (hn : n ≤ 1000) : YF c (vf 16 k) (vf 16 f) (n : Int) = some (vf 16 (Bt c k f n)):=by
 obtain ⟨m,hm,h1,h2⟩:=KS h
 have e : c.Field.toNat = m:=by omega
 have hp:=TL h
 unfold YF
 have i0 : idx (Vm c.Box k n) (0 : Int) = some (vf 16 k):=Ku c.Box k (Nat.zero_le n)
 simp only [zJ c k n hn,Option.bind_some,i0,KJ]
 have:=ZW (f:=Y1 c (n : Int) (Vm c.Box k n)) (fun i : Nat=>(vf 16 (Jf c k f n (i - 1)),(i : Int))) 1 (n + 1) (by omega) (t:=vf 16 (Bt c k f n)) (fun i hi1 hi=>by
  unfold Y1
  obtain ⟨r,rfl⟩ : ∃ q,i = q + 1:=⟨i - 1,by omega⟩
  have e1 : decide (((r + 1 : Nat) : Int) ≤ (n : Int)) = true:=by simp only [decide_eq_true_eq]; omega
  have YN:=yk m h2 h1 (JC c.Mix) (QR c.Places (Hp c.Box (Jf c k f n r)))
  rw [← JS] at YN
  simp only [Nat.add_sub_cancel,e1,if_true,AJ,Option.bind_some,zK c.Places hp,hm,YN,Ku c.Box k (show r + 1 ≤ n by omega),WX (show r + 1 < 9223372036854775807 by omega)]
  by_cases hr : r + 1 < n
  ·have e2 : decide (((r + 1 : Nat) : Int) < (n : Int)) = true:=by simp only [decide_eq_true_eq]; omega
   simp only [e2,if_true,Option.bind_some,KJ,Jf,HE,hr,e]
  ·have e2 : decide (((r + 1 : Nat) : Int) < (n : Int)) = false:=by simp only [decide_eq_false_iff_not]; omega
   simp only [e2,Bool.false_eq_true,if_false,Option.bind_some,KJ,Jf,HE,hr]) (by
  unfold Y1
  have e1 : decide (((n + 1 : Nat) : Int) ≤ (n : Int)) = false:=by simp only [decide_eq_false_iff_not]; omega
  simp only [e1,Bool.false_eq_true,if_false,Nat.add_sub_cancel,Bt])
 have h3 : ZE (Y1 c (n : Int) (Vm c.Box k n)) (vf 16 (KN f k),1) = _:=this
 rw [h3]; rfl
theorem AX (e : Ref Gengine) (s : Blk × Int) (f : Nat → UInt8) (hs : s.1 = vf 16 f) : ZE (Yd e s) (vf 16 f,0) = some (vf 16 (Hp e.v.box f)):=by
 have:=XQ (Yd e s) f (Hp e.v.box f) (by omega) 0 (by omega) (fun j hj=>by omega) (fun i _ hi a _ ha=>by
  unfold Yd
  simp only [hs,KG hi,if_true,ZO _ hi,Option.bind_some,Int.toNat_natCast,TV,Hp]) (fun v=>by unfold Yd; simp)
 exact this
theorem Hk (c : GCipher) (h : Yn c = true) (k f : Nat → UInt8) (n : Nat) (hn : n ≤ 1000) : Yp ⟨YM c⟩ (Vm c.Box k n) (vf 16 f) = some (vf 16 (Bt c k f n)):=by
 have hp:=TL h
 unfold Yp
 have i0 : idx (Vm c.Box k n) (0 : Int) = some (vf 16 k):=Ku c.Box k (Nat.zero_le n)
 simp only [Option.bind_some,i0,UQ]
 have:=ZW (f:=Yc ⟨YM c⟩ (Vm c.Box k n)) (fun i : Nat=>(vf 16 (Jf c k f n (i - 1)),(i : Int))) 1 (n + 1) (by omega) (t:=vf 16 (Bt c k f n)) (fun i hi1 hi=>by
  unfold Yc
  obtain ⟨r,rfl⟩ : ∃ q,i = q + 1:=⟨i - 1,by omega⟩
  have e1 : decide (((r + 1 : Nat) : Int) < ((Vm c.Box k n).length : Int)) = true:=by rw [Qz]; simp only [decide_eq_true_eq]; omega
  have e3 : wr (((Vm c.Box k n).length : Int) - 1) = (n : Int):=by rw [Qz,YH (by omega)]; omega
  have hb:=AX ⟨YM c⟩ (vf 16 (Jf c k f n r),((r + 1 : Nat) : Int)) (Jf c k f n r) rfl
  have hmv:=v_move c.Places hp (Hp c.Box (Jf c k f n r))
  have YN:=v_mix c.Field.toNat (JC c.Mix) (QR c.Places (Hp c.Box (Jf c k f n r)))
  have hsl : ∀ g : Nat → UInt8,slc (vf 16 g).toList (0 : Int) (16 : Int) = some (vf 16 g).toList:=fun g=>by
   have:=Bx (l:=(vf 16 g).toList) (i:=0) (j:=16) (by omega) (by simp)
   simp only [List.drop_zero] at this
   rw [List.take_of_length_le (by simp)] at this
   exact this
  have q1 : (YM c).box = c.Box:=rfl
  have q2 : (YM c).places = c.Places:=rfl
  have q3 : (YM c).mixer = ⟨Jt c.Field.toNat (JC c.Mix)⟩:=rfl
  simp only [q1] at hb
  simp only [Nat.add_sub_cancel,e1,if_true,hb,Option.bind_some,q2,q3,hmv,e3,hsl,YN,Ku c.Box k (show r + 1 ≤ n by omega),WX (show r + 1 < 9223372036854775807 by omega)]
  by_cases hr : r + 1 < n
  ·have e2 : decide (((r + 1 : Nat) : Int) < (n : Int)) = true:=by simp only [decide_eq_true_eq]; omega
   simp only [e2,if_true,Option.bind_some,UQ,Jf,HE,hr]
  ·have e2 : decide (((r + 1 : Nat) : Int) < (n : Int)) = false:=by simp only [decide_eq_false_iff_not]; omega
   simp only [e2,Bool.false_eq_true,if_false,Option.bind_some,UQ,Jf,HE,hr]) (by
  unfold Yc
  have e1 : decide (((n + 1 : Nat) : Int) < ((Vm c.Box k n).length : Int)) = false:=by rw [Qz]; simp only [decide_eq_false_iff_not]; omega
  simp only [e1,Bool.false_eq_true,if_false,Nat.add_sub_cancel,Bt])
 have h3 : ZE (Yc ⟨YM c⟩ (Vm c.Box k n)) (vf 16 (KN f k),1) = _:=this
 rw [h3]; rfl
theorem KU (c : GCipher) (h : Yn c = true) (k f : Nat → UInt8) : Yh ⟨YM c⟩ (vf 16 k) (vf 16 f) = some (vf 16 (Bt c k f c.Rounds.toNat)):=by
 have hr:=QT h
 obtain ⟨n,hn⟩ : ∃ n : Nat,c.Rounds = n:=⟨c.Rounds.toNat,by omega⟩
 have e1 : (YM c).rounds = (n : Int):=hn
 have e2 : (YM c).box = c.Box:=rfl
 have hk:=v_keys ⟨YM c⟩ k n (by omega)
 rw [e2] at hk
 unfold Yh
 simp only [e1,hk,Option.bind_some,Hk c h k f n (by omega),hn,Int.toNat_natCast]
theorem Kz (c : GCipher) (h : Yn c = true) (k f : Nat → UInt8) : YF c (vf 16 k) (vf 16 f) c.Rounds = some (vf 16 (Bt c k f c.Rounds.toNat)):=by
 have hr:=QT h
 obtain ⟨n,hn⟩ : ∃ n : Nat,c.Rounds = n:=⟨c.Rounds.toNat,by omega⟩
 rw [hn]
 exact HV c h k f n (by omega)
theorem z4 (x : Nat) : UInt8.ofNat (x % 256) = UInt8.ofNat x:=by
 apply UInt8.toNat_inj.1; simp
def tab (n : Nat) (f : Nat → UInt8) : List UInt8:=(List.range n).map f
@[simp] theorem tab_len (n : Nat) (f : Nat → UInt8) : (tab n f).length = n:=by simp [tab]
theorem yL {α : Type} (by_ : Nat) (z : α) (n : Nat) (h : n * by_ ≤ 140737488355328) (hby : 0 < by_) :
  ((if (decide ((n : Int) < 0)) = true then (none) else (some ()) : Option (Unit)).bind fun (_ : Unit)=>(if (decide ((wr ((n : Int) - (wr (0 - 0)))) > 0)) = true then ((mkS by_ z (wr ((n : Int) - (wr (0 - 0))))).bind fun (l14 : List α)=>(slc l14 (0 : Int) (0 : Int)).bind fun (l16 : List α)=>some l16) else (some ([])) : Option (List α)).bind fun (j6 : List α)=>some j6) = some []:=by
 have hn : n ≤ 140737488355328:=Nat.le_trans (Nat.le_mul_of_pos_right _ hby) h
 have e0 : wr (0 - 0) = 0:=by decide
 have e1 : wr ((n : Int) - (wr (0 - 0))) = (n : Int):=by rw [e0,YH (by omega)]; omega
 have e2 : ¬ ((n : Int) < 0):=by omega
 rw [e1]
 simp only [e2,decide_false,Bool.false_eq_true,if_false,Option.bind_some]
 by_cases h3 : (n : Int) > 0
 ·have hm : mkS by_ z (n : Int) = some (List.replicate n z):=by
   have h4 : ((n * by_ : Nat) : Int) ≤ 140737488355328:=by omega
   rw [Int.natCast_mul] at h4
   unfold mkS
   rw [if_pos ⟨by omega,h4⟩,Int.toNat_natCast]
  have hs : slc (List.replicate n z) (0 : Int) (0 : Int) = some []:=by
   have:=Bx (l:=List.replicate n z) (i:=0) (j:=0) (Nat.le_refl _) (Nat.zero_le _)
   simpa using this
  simp [h3,hm,hs]
 ·have h4 : decide ((n : Int) > 0) = false:=by simp only [decide_eq_false_iff_not]; exact h3
  simp only [h4,Bool.false_eq_true,if_false,Option.bind_some]
theorem BL {α : Type} (by_ : Nat) (p0 : List (List α)) (L0 : Int × Int → Option (Fl (Int × Int) Int)) (L1 : Int × List α → Option (Fl (Int × List α) (List α)))
  (h0 : ∀ s,L0 s = if (decide (s.1 < (p0.length : Int))) = true then (((idx p0 s.1).bind fun (x : List α)=>(if (decide ((wr (s.2 + (x.length : Int))) < 0)) = true then (none) else (some ()) : Option (Unit)).bind fun (_ : Unit)=>some (wr (s.2 + (x.length : Int))) : Option (Int)).bind fun (j : Int)=>some (Fl.nx (wr (s.1 + 1),j))) else (some (Fl.ex s.2)))
  (h1 : ∀ s,L1 s = if (decide (s.1 < (p0.length : Int))) = true then ((idx p0 s.1).bind fun (x : List α)=>(app by_ s.2 x).bind fun (_ : List α)=>some (Fl.nx (wr (s.1 + 1),(s.2 ++ x)))) else (some (Fl.ex s.2)))
  (hl : p0.flatten.length * by_ ≤ 140737488355328) (hby : 0 < by_) (hn : p0.length < 9223372036854775807) :
  ZE L0 (0,0) = some (p0.flatten.length : Int) ∧ ZE L1 (0,[]) = some p0.flatten:=by
 have hlen : p0.flatten.length ≤ 140737488355328:=Nat.le_trans (Nat.le_mul_of_pos_right _ hby) hl
 have hstep : ∀ i (hi : i < p0.length),(p0.take (i + 1)).flatten = (p0.take i).flatten ++ p0[i]:=fun i hi=>by
  rw [List.take_succ_eq_append_getElem hi,List.flatten_append]; simp
 have hle : ∀ i,(p0.take i).flatten.length ≤ p0.flatten.length:=fun i=>by
  have : p0.flatten = (p0.take i).flatten ++ (p0.drop i).flatten:=by rw [← List.flatten_append,List.take_append_drop]
  rw [this,List.length_append]; omega
 constructor
 ·have:=ZW (f:=L0) (fun i : Nat=>((i : Int),((p0.take i).flatten.length : Int))) 0 p0.length (Nat.zero_le _) (t:=(p0.flatten.length : Int)) (fun i _ hi=>by
   have hs:=congrArg List.length (hstep i hi)
   rw [List.length_append] at hs
   have h3:=hle (i + 1)
   have e1 : wr (((p0.take i).flatten.length : Int) + (p0[i].length : Int)) = ((p0.take (i + 1)).flatten.length : Int):=by rw [YH (by omega)]; omega
   have e2 : ¬ (((p0.take (i + 1)).flatten.length : Int) < 0):=by omega
   rw [h0]
   simp only [Int.ofNat_lt,hi,decide_true,if_true,Xj,List.getElem?_eq_getElem hi,Option.bind_some,e1,e2,decide_false,Bool.false_eq_true,if_false,WX (show i < 9223372036854775807 by omega)]) (by
   rw [h0]; simp)
  exact this
 ·have:=ZW (f:=L1) (fun i : Nat=>((i : Int),(p0.take i).flatten)) 0 p0.length (Nat.zero_le _) (t:=p0.flatten) (fun i _ hi=>by
   have hs:=congrArg List.length (hstep i hi)
   rw [List.length_append] at hs
   have h3:=hle (i + 1)
   have hap : app by_ (p0.take i).flatten p0[i] = some ((p0.take i).flatten ++ p0[i]):=V2 (by
    have : ((p0.take i).flatten.length + p0[i].length) * by_ ≤ p0.flatten.length * by_:=Nat.mul_le_mul_right _ (by omega)
    omega)
   rw [h1]
   simp only [Int.ofNat_lt,hi,decide_true,if_true,Xj,List.getElem?_eq_getElem hi,Option.bind_some,hap,WX (show i < 9223372036854775807 by omega),hstep i hi]) (by
   rw [h1]; simp)
  exact this
def Q9 (k : Nat) (b : UInt8) : UInt8:=shlB b (k : Int) ||| HI b ((8 - k : Nat) : Int)
theorem v_rot1 (b : UInt8) : Z6 b 1 = some (Q9 1 b):=by
 have e1 : wru (BitVec.ofInt 64 (IntKind.u64.wrap 1) &&& BitVec.ofInt 64 7).toNat = 1:=by decide +kernel
 have e2 : IntKind.u64.wrap (8 - 1) = 7:=by decide +kernel
 have e3 : Xi 1 = some ():=rfl
 have e4 : Xi 7 = some ():=rfl
 unfold Z6
 simp only [e1,e2,e3,e4,Option.bind_some]
 rfl
theorem v_rot4 (b : UInt8) : Z6 b 4 = some (Q9 4 b):=by
 have e1 : wru (BitVec.ofInt 64 (IntKind.u64.wrap 4) &&& BitVec.ofInt 64 7).toNat = 4:=by decide +kernel
 have e2 : IntKind.u64.wrap (8 - 4) = 4:=by decide +kernel
 have e3 : Xi 4 = some ():=rfl
 unfold Z6
 simp only [e1,e2,e3,Option.bind_some]
 rfl
def Hc (k : Nat) (b : UInt8) : UInt8:=Zx (Tq (orI (H2 (bI b) (k : Int)) (Uu (H2 (bI b) (k : Int)) 8)) 255)
theorem J5 {p : UInt8 → Bool} (h : ((List.range 256).all fun n=>p (UInt8.ofNat n)) = true) (b : UInt8) : p b = true:=by
 have:=List.all_eq_true.1 h b.toNat (by simpa using UInt8.toNat_lt b)
 simpa using this
theorem turn0 (b : UInt8) : Hc 0 b = b:=by
 have:=J5 (p:=fun b=>Hc 0 b == b) (by decide +kernel) b
 simpa using this
theorem turn1 (b : UInt8) : Hc 1 b = Q9 1 b:=by
 have:=J5 (p:=fun b=>Hc 1 b == Q9 1 b) (by decide +kernel) b
 simpa using this
theorem turn4 (b : UInt8) : Hc 4 b = Q9 4 b:=by
 have:=J5 (p:=fun b=>Hc 4 b == Q9 4 b) (by decide +kernel) b
 simpa using this
theorem AS (b : UInt8) (k : Nat) (h : k < 64) : Xe b (k : Int) = some (Hc k b):=by
 have e1 : IntKind.u64.wrap (k : Int) = (k : Int):=yt k (by omega)
 unfold Xe
 rw [e1]
 have e2 : Xi (k : Int) = some ():=by unfold Xi; rw [if_pos (by omega)]
 rw [e2]; rfl
def Hj (x : UInt8) : UInt8:=((TD 285 x ^^^ Q9 1 (TD 285 x)) ^^^ Q9 4 (TD 285 x)) ^^^ 90
def WD (n : Int) : GCipher:=⟨285,vf 256 fun x=>Hj (UInt8.ofNat x),mf fun i j=>TD 285 (UInt8.ofNat (i ^^^ (4 + j))),vf 16 fun i=>UInt8.ofNat ((13 * i + 4) % 16),n⟩
theorem By {i : Nat} (h : i < 256) : decide ((i : Int) < 256) = true:=by simp; omega
theorem JY (L : Vector UInt8 256 × Int → Option (Fl (Vector UInt8 256 × Int) (Vector UInt8 256))) (h : Nat → UInt8) (hL : ∀ i : Nat,i < 256 → ∀ a : Nat → UInt8,L (vf 256 a,(i : Int)) = some (.nx ((vf 256 a).setIfInBounds i (h i),wr ((i : Int) + 1))))
  (he : ∀ v,L (v,256) = some (.ex v)) : ZE L (Vector.replicate 256 0,0) = some (vf 256 h):=by
 rw [UK]
 exact XQ L (fun _=>0) h (by omega) 0 (by omega) (fun j hj=>by omega) (fun i _ hi a _ _=>hL i hi a) he
theorem Av (E : UInt8 → Option UInt8) (hE : ∀ a,E a = some (TD 285 a)) (L1 : Mat × Int → Mat × Int → Option (Fl (Mat × Int) Mat)) (L0 : Mat × Int → Option (Fl (Mat × Int) Mat))
  (h1 : ∀ s t,L1 s t = if (decide (t.2 < 4)) = true then ((E (Zx (T8 s.2 (wr (4 + t.2))))).bind fun r=>(ZI t.1 s.2).bind fun x=>(ZI x t.2).bind fun _=>some (Fl.nx ((t.1.setIfInBounds (s.2).toNat (x.setIfInBounds (t.2).toNat r)),wr (t.2 + 1)))) else (some (Fl.ex t.1)))
  (h0 : ∀ s,L0 s = if (decide (s.2 < 4)) = true then ((ZE (L1 s) (s.1,0) : Option Mat).bind fun j=>some (Fl.nx (j,wr (s.2 + 1)))) else (some (Fl.ex s.1))) :
  ZE L0 (Vector.replicate 4 (Vector.replicate 4 (0 : UInt8)),0) = some (mf fun i j=>TD 285 (UInt8.ofNat (i ^^^ (4 + j)))):=by
 have inner : ∀ (i : Nat) (hi : i < 4) (g : MF),ZE (L1 (mf g,(i : Int))) (mf g,0) = some (mf fun r c=>if r = i then TD 285 (UInt8.ofNat (i ^^^ (4 + c))) else g r c):=by
  intro i hi g
  have:=ZW (f:=L1 (mf g,(i : Int))) (fun j : Nat=>(mf fun r c=>if r = i ∧ c < j then TD 285 (UInt8.ofNat (i ^^^ (4 + c))) else g r c,(j : Int))) 0 4 (by omega) (t:=mf fun r c=>if r = i then TD 285 (UInt8.ofNat (i ^^^ (4 + c))) else g r c) (fun j _ hj=>by
   have e1 : wr (4 + (j : Int)) = ((4 + j : Nat) : Int):=by rw [YH (by omega)]; omega
   rw [h1]
   simp only [lt4 hj,if_true,e1,Qn i (4 + j) (by omega) (by omega),W9,hE,Option.bind_some,Uc _ hi,ZO _ hj,Int.toNat_natCast,U3,Ka,wr4 (show j < 1000 by omega)]
   refine congrArg (fun z=>some (Fl.nx (z,((j + 1 : Nat) : Int)))) (XX fun r _ c _=>?_)
   by_cases hr : r = i
   ·subst hr
    by_cases hc : c = j
    ·subst hc; simp
    ·by_cases hc2 : c < j
     ·simp [hc,hc2,show c < j + 1 by omega]
     ·simp [hc,hc2,show ¬ c < j + 1 by omega]
   ·simp [hr]) (by
   rw [h1]
   simp only [show decide (((4 : Nat) : Int) < 4) = false from rfl,Bool.false_eq_true,if_false]
   refine congrArg (fun z=>some (Fl.ex z)) (XX fun r _ c hc=>?_)
   by_cases hr : r = i <;> simp [hr,hc])
  have e0 : (mf fun r c=>if r = i ∧ c < 0 then TD 285 (UInt8.ofNat (i ^^^ (4 + c))) else g r c) = mf g:=XX fun r _ c _=>by simp
  simp only [e0] at this
  exact this
 have:=ZW (f:=L0) (fun i : Nat=>(mf fun r c=>if r < i then TD 285 (UInt8.ofNat (r ^^^ (4 + c))) else 0,(i : Int))) 0 4 (by omega) (t:=mf fun i j=>TD 285 (UInt8.ofNat (i ^^^ (4 + j)))) (fun i _ hi=>by
  rw [h0]
  simp only [lt4 hi,if_true,inner i hi,Option.bind_some,wr4 (show i < 1000 by omega)]
  refine congrArg (fun z=>some (Fl.nx (z,((i + 1 : Nat) : Int)))) (XX fun r _ c _=>?_)
  by_cases hr : r = i
  ·subst hr; simp
  ·by_cases hc2 : r < i
   ·simp [hr,hc2,show r < i + 1 by omega]
   ·simp [hr,hc2,show ¬ r < i + 1 by omega]) (by
  rw [h0]
  simp only [show decide (((4 : Nat) : Int) < 4) = false from rfl,Bool.false_eq_true,if_false]
  exact congrArg (fun z=>some (Fl.ex z)) (XX fun r hr c hc=>by simp [hr]))
 have e0 : (mf fun r c=>if r < 0 then TD 285 (UInt8.ofNat (r ^^^ (4 + c))) else 0) = mf fun _ _=>0:=XX fun r _ c _=>by simp
 simp only [e0] at this
 rw [BP]
 exact this
theorem J6 (L : Blk × Int → Option (Fl (Blk × Int) Blk))
  (hL : ∀ s,L s = if (decide (s.2 < 16)) = true then ((ZI s.1 s.2).bind fun _=>some (Fl.nx ((s.1.setIfInBounds (s.2).toNat (Zx (Int.tmod (wr ((wr (13 * s.2)) + 4)) 16))),wr (s.2 + 1)))) else (some (Fl.ex s.1))) :
  ZE L (Vector.replicate 16 0,0) = some (vf 16 fun i=>UInt8.ofNat ((13 * i + 4) % 16)):=by
 rw [UK]
 exact XQ L (fun _=>0) (fun i=>UInt8.ofNat ((13 * i + 4) % 16)) (by omega) 0 (by omega) (fun j hj=>by omega) (fun i _ hi a _ _=>by
  have e1 : wr (13 * (i : Int)) = 13 * (i : Int):=YH (by omega)
  have e2 : wr (13 * (i : Int) + 4) = ((13 * i + 4 : Nat) : Int):=by rw [YH (by omega)]; omega
  have e3 : Int.tmod ((13 * i + 4 : Nat) : Int) 16 = (((13 * i + 4) % 16 : Nat) : Int):=by rw [Int.tmod_eq_emod_of_nonneg (by omega)]; omega
  rw [hL]
  simp only [KG hi,if_true,ZO _ hi,Option.bind_some,e1,e2,e3,W9,Int.toNat_natCast]) (fun v=>by rw [hL]; simp)
theorem QV (n : Int) : Y7 n = some (WD n):=by
 have hinv : ∀ a,Ya 285 a = some (TD 285 a):=fun a=>Qc 285 (by omega) a
 have h1:=JY XD (fun x=>Hj (UInt8.ofNat x)) (fun i hi a=>by
  unfold XD
  simp only [By hi,if_true,W9,hinv,v_rot1,v_rot4,Option.bind_some,ZO _ hi,Int.toNat_natCast]
  rfl) (fun v=>by unfold XD; simp)
 have h2:=Av (Ya 285) hinv WL WM (fun s t=>by unfold WL; rfl) (fun s=>by unfold WM; rfl)
 have h3:=J6 WF (fun s=>by unfold WF; rfl)
 unfold Y7 WD
 simp only [h1,h2,h3,Option.bind_some]
theorem yj (L : UInt8 × UInt8 × Int → Option (Fl (UInt8 × UInt8 × Int) UInt8)) (T : UInt8 → UInt8 → Option UInt8) (hT : ∀ a b,T a b = some (ZU 285 a b))
  (hL : ∀ s,L s = if (decide (s.2.2 > 0)) = true then (((if ((Int.tmod s.2.2 2) == 1) = true then ((T s.1 s.2.1).bind fun r=>some r) else (some s.1) : Option UInt8).bind fun j24=>(T s.2.1 s.2.1).bind fun r32=>some (j24,r32) : Option (UInt8 × UInt8)).bind fun j21=>some (Fl.nx (j21.1,j21.2,wr (Int.tdiv s.2.2 2)))) else (some (Fl.ex s.1))) :
  ∀ (f k : Nat) (a o : UInt8),k < 2 ^ f → f ≤ 62 → ZE L (o,a,(k : Int)) = some (JL 285 f a k o):=by
 intro f
 induction f with
 | zero =>
  intro k a o hk _
  have : k = 0:=by simpa using hk
  subst this
  exact YD (by rw [hL]; simp [JL])
 | succ f ih =>
  intro k a o hk hf
  by_cases h0 : k = 0
  ·subst h0
   exact YD (by rw [hL]; simp [JL])
  ·have hlt : k < 9223372036854775808:=Nat.lt_of_lt_of_le hk (Nat.pow_le_pow_right (by omega : 0 < 2) (by omega : f + 1 ≤ 63))
   have hst : L (o,a,(k : Int)) = some (.nx (if k % 2 = 1 then ZU 285 o a else o,ZU 285 a a,((k / 2 : Nat) : Int))):=by
    rw [hL]
    have c1 : (k : Int) > 0:=by omega
    have e3 : ((((k % 2 : Nat) : Int)) == 1) = decide (k % 2 = 1):=by
     rw [Bool.eq_iff_iff,beq_iff_eq,decide_eq_true_eq]; omega
    simp only [c1,decide_true,if_true,z9,ys,hT,e3,Option.bind_some,zn (k / 2) (by omega)]
    by_cases c2 : k % 2 = 1 <;> simp [c2]
   rw [Wn hst,ih (k / 2) _ _ (by rw [Nat.pow_succ] at hk; omega) (by omega)]
   conv=>rhs; unfold JL
   rw [if_neg h0]
theorem A2 : Vq 285 254 = some (vf 256 fun x=>TD 285 (UInt8.ofNat x)):=by
 have hp:=yj (WR 285) (Yt 285) (Q2 285 (by omega) (by omega)) (fun s=>by unfold WR; rfl)
 have hp2 : ∀ a,ZE (WR 285) (1,a,254) = some (TD 285 a):=fun a=>hp 8 254 a 1 (by omega) (by omega)
 have h1:=JY (WY 285 254) (fun x=>TD 285 (UInt8.ofNat x)) (fun i hi a=>by
  unfold WY
  simp only [By hi,if_true,W9,hp2,Option.bind_some,ZO _ hi,Int.toNat_natCast]) (fun v=>by unfold WY; simp)
 unfold Vq
 simp only [h1,Option.bind_some]
def rots (x : UInt8) : UInt8:=((90 ^^^ x) ^^^ Q9 1 x) ^^^ Q9 4 x
theorem Ht : Xz ([0,1,4] : List Int) 90 = some (vf 256 fun x=>rots (UInt8.ofNat x)):=by
 have t0 : ∀ b,Xe b 0 = some b:=fun b=>by have:=AS b 0 (by omega); rw [turn0] at this; exact this
 have t1 : ∀ b,Xe b 1 = some (Q9 1 b):=fun b=>by have:=AS b 1 (by omega); rw [turn1] at this; exact this
 have t4 : ∀ b,Xe b 4 = some (Q9 4 b):=fun b=>by have:=AS b 4 (by omega); rw [turn4] at this; exact this
 have w1 : wr 1 = 1:=by decide
 have w2 : wr 2 = 2:=by decide
 have w3 : wr 3 = 3:=by decide
 have hin : ∀ (s : Vector UInt8 256 × Int),ZE (Z3 [0,1,4] s) (90,0) = some (rots (Zx s.2)):=by
  intro s
  rw [Wn (f:=Z3 [0,1,4] s) (s:=(90,0)) (s':=(90 ^^^ Zx s.2,1)) (by unfold Z3; simp [t0,w1,idx])]
  rw [Wn (f:=Z3 [0,1,4] s) (s':=((90 ^^^ Zx s.2) ^^^ Q9 1 (Zx s.2),2)) (by unfold Z3; simp [t1,w2,idx])]
  rw [Wn (f:=Z3 [0,1,4] s) (s':=(((90 ^^^ Zx s.2) ^^^ Q9 1 (Zx s.2)) ^^^ Q9 4 (Zx s.2),3)) (by unfold Z3; simp [t4,w3,idx])]
  exact YD (by unfold Z3; simp; rfl)
 have h1:=JY (Xd [0,1,4] 90) (fun x=>rots (UInt8.ofNat x)) (fun i hi a=>by
  unfold Xd
  simp only [By hi,if_true,hin,W9,Option.bind_some,ZO _ hi,Int.toNat_natCast]) (fun v=>by unfold Xd; simp)
 unfold Xz
 simp only [h1,Option.bind_some]
theorem zV (f g : Nat → UInt8) : VR (vf 256 f) (vf 256 g) = some (vf 256 fun x=>g (f x).toNat):=by
 have hv : ∀ x : UInt8,ZI (vf 256 g) (bI x) = some (g x.toNat):=fun x=>ZO g (UInt8.toNat_lt x)
 have h1:=JY (Vw (vf 256 f) (vf 256 g)) (fun x=>g (f x).toNat) (fun i hi a=>by
  unfold Vw
  simp only [By hi,if_true,Option.bind_some,ZO _ hi,hv,Int.toNat_natCast]) (fun v=>by unfold Vw; simp)
 unfold VR
 simp only [h1,Option.bind_some]
theorem AM (x : UInt8) : rots (UInt8.ofNat (TD 285 x).toNat) = Hj x:=by
 rw [UInt8.ofNat_toNat]
 unfold rots Hj
 ac_rfl
theorem Hm (n : Int) : Wh n = some (WD n):=by
 have hinv : ∀ a,WC 285 a = some (TD 285 a):=fun a=>yx 285 (by omega) (by omega) a
 have h2:=Av (WC 285) hinv Ua Um (fun s t=>by unfold Ua; rfl) (fun s=>by unfold Um; rfl)
 have h3:=J6 V8 (fun s=>by unfold V8; rfl)
 unfold Wh WD
 simp only [A2,Ht,zV,AM,h2,h3,Option.bind_some]

theorem J3 {α : Type} (n : Nat) (f : Nat → α) : (vf n f).toList = (List.range n).map f:=by
 apply List.ext_getElem
 ·simp
 ·intro i h1 h2
  simp at h1
  rw [Vector.getElem_toList,TX f h1]; simp
theorem zN : yl ((List.range 256).map fun x=>Hj (UInt8.ofNat x)) = true:=by decide +kernel
theorem Ad : Tp (vf 16 fun i=>UInt8.ofNat ((13 * i + 4) % 16)) = true:=by
 unfold Tp
 rw [J3]
 decide +kernel
theorem B4 : KH 285 = true:=by decide +kernel
theorem zy : (detC 285 (mf fun i j=>TD 285 (UInt8.ofNat (i ^^^ (4 + j)))) != 0) = true:=by decide +kernel
theorem Af (n : Int) (h : 1 ≤ n ∧ n ≤ 20) : Yn (WD n) = true:=by
 unfold Yn WD
 simp only [J3,zN,Ad,B4,Bool.true_and,h,decide_true,Bool.and_true,and_self]
 exact zy
theorem KL (p0 : List (List UInt8)) (hl : p0.flatten.length ≤ 140737488355328) (hn : p0.length < 9223372036854775807) : ZY p0 = some p0.flatten:=by
 obtain ⟨a1,a2⟩:=BL 1 p0 (YS p0) (YP p0) (fun s=>by unfold YS; rfl) (fun s=>by unfold YP; rfl) (by omega) (by omega) hn
 have hg : Ym (p0.flatten.length : Int) = some []:=by
  unfold Ym
  exact yL 1 _ _ (by omega) (by omega)
 unfold ZY
 simp only [a1,a2,hg,Option.bind_some]
theorem Ae (l : List UInt8) (h : l.length ≤ 140737488355328) : YB l = some l:=by
 unfold YB
 rw [V2 (by simp; omega)]; rfl
theorem zH (l : List UInt8) (h : l.length ≤ 140737488355328) : V1 l = some l:=by
 unfold V1
 rw [V2 (by simp; omega)]; rfl
theorem Hs {l : List UInt8} {n : Nat} (h : n ≤ l.length) : Tu n l = some (vf n fun j=>l.getD j 0):=by
 unfold Tu
 rw [dif_pos h]
 refine congrArg some (TJ fun i hi=>?_)
 rw [TX _ hi,List.getD_eq_getElem?_getD,List.getElem?_eq_getElem (by omega)]
 simp
theorem Ap {l : List UInt8} {i j : Nat} (h : i ≤ j) (h2 : j ≤ l.length) : ∃ r,slc l (i : Int) (j : Int) = some r ∧ r.length = j - i ∧ ∀ k,k < j - i → r.getD k 0 = l.getD (i + k) 0:=by
 refine ⟨_,Bx h h2,by simp; omega,fun k hk=>?_⟩
 rw [List.getD_eq_getElem?_getD,List.getD_eq_getElem?_getD,List.getElem?_drop,List.getElem?_take,if_pos (by omega)]

def beL (n : Int) : Nat → List UInt8
 | 0=>[]
 | k + 1=>Zx (Uu n ((8 * k : Nat) : Int)) :: beL n k
theorem TY (n : Int) : ∀ k,(beL n k).length = k
 | 0=>rfl
 | k + 1=>by rw [beL,List.length_cons,TY n k]
theorem zj (n : Int) (L : List UInt8 × Int → Option (Fl (List UInt8 × Int) (List UInt8))) (K : Nat)
  (hL : ∀ (k : Nat) (acc : List UInt8),k < K → acc.length ≤ 100000000 → L (acc,(k : Int)) = some (.nx (acc ++ [Zx (Uu n ((8 * k : Nat) : Int))],(k : Int) - 1))) (he : ∀ acc,L (acc,-1) = some (.ex acc)) :
  ∀ (k : Nat) (acc : List UInt8),k ≤ K → acc.length + k ≤ 100000000 → ZE L (acc,(k : Int) - 1) = some (acc ++ beL n k):=by
 intro k
 induction k with
 | zero=>intro acc _ _; rw [show ((0 : Nat) : Int) - 1 = -1 from rfl,YD (he acc)]; simp [beL]
 | succ k ih =>
  intro acc hk hl
  have e : ((k + 1 : Nat) : Int) - 1 = (k : Int):=by omega
  rw [e,Wn (hL k acc (by omega) (by omega)),ih _ (by omega) (by simp; omega)]
  simp [beL]
theorem Jp (n : Int) (m : Nat) (hm : m ≤ 100) : YJ n (m : Int) = some (beL n m):=by
 have h:=zj n (Ws n) 100 (fun k acc hk hl=>by
  unfold Ws
  have e1 : wr (8 * (k : Int)) = ((8 * k : Nat) : Int):=by rw [YH (by omega)]; omega
  have e2 : Xi ((8 * k : Nat) : Int) = some ():=by unfold Xi; rw [if_pos (by omega)]
  have e3 : wr ((k : Int) - 1) = (k : Int) - 1:=YH (by omega)
  have e4 : decide ((k : Int) ≥ 0) = true:=by simp
  simp only [e1,e2,e3,e4,if_true,Option.bind_some]
  rw [V2 (by simp; omega)]; rfl) (fun acc=>by unfold Ws; simp) m [] hm (by simp; omega)
 have e : wr ((m : Int) - 1) = (m : Int) - 1:=YH (by omega)
 unfold YJ
 rw [e,h]; rfl
theorem yG (x : Int) : Zx (Tq x 255) = Zx x:=by
 have h1 : (BitVec.ofInt 64 255) = (255 : BitVec 64):=rfl
 have h2 : (BitVec.ofInt 64 x &&& BitVec.ofInt 64 255).toNat = (x % 256).toNat:=by
  rw [BitVec.toNat_and,h1,show (255 : BitVec 64).toNat = 2 ^ 8 - 1 from rfl,Nat.and_two_pow_sub_one_eq_mod,BitVec.toNat_ofInt]
  omega
 unfold Tq Zx
 rw [h2,YH (by omega)]
 congr 1
 omega
theorem zI (n : Int) : V5 n = some (beL n 4):=by
 have e0 : Uu n 0 = n:=by unfold Uu; simp
 unfold V5
 simp only [yG]
 have : beL n 4 = [Zx (Uu n 24),Zx (Uu n 16),Zx (Uu n 8),Zx (Uu n 0)]:=rfl
 rw [this,e0]

def W6 (n : Nat) : Nat:=(24 - n % 16) % 16
def Qm (d : List UInt8) : List UInt8:=((d ++ [128]) ++ List.replicate (W6 (d.length + 1)) 0) ++ beL (d.length : Int) 8
theorem Ai (d : List UInt8) : ∃ n,(Qm d).length = 16 * n ∧ n ≤ d.length + 2:=by
 have : (Qm d).length = d.length + 1 + W6 (d.length + 1) + 8:=by simp [Qm,TY]; omega
 refine ⟨(d.length + 1 + W6 (d.length + 1) + 8) / 16,?_,?_⟩
 ·rw [this]; unfold W6; omega
 ·unfold W6; omega
theorem Ay (L : List UInt8 → Option (Fl (List UInt8) (List UInt8))) (hL : ∀ s,L s = if ((Int.tmod (s.length : Int) 16) != 8) = true then ((app 1 s ([0] : List UInt8)).bind fun (_ : List UInt8)=>some (Fl.nx (s ++ ([0] : List UInt8)))) else (some (Fl.ex s)))
  (l : List UInt8) (hl : l.length ≤ 100000000) : ZE L l = some (l ++ List.replicate (W6 l.length) 0):=by
 have ht : ∀ n : Nat,Int.tmod (n : Int) 16 = ((n % 16 : Nat) : Int):=fun n=>by rw [Int.tmod_eq_emod_of_nonneg (by omega)]; omega
 have:=ZW (f:=L) (fun i : Nat=>l ++ List.replicate i 0) 0 (W6 l.length) (Nat.zero_le _) (t:=l ++ List.replicate (W6 l.length) 0) (fun i _ hi=>by
  rw [hL,ht]
  have hz : W6 l.length < 16:=by unfold W6; omega
  have e : ((((l ++ List.replicate i 0).length % 16 : Nat) : Int) != 8) = true:=by
   simp only [List.length_append,List.length_replicate,bne_iff_ne,ne_eq]
   unfold W6 at hi; omega
  rw [e,if_pos rfl,V2 (by simp; omega)]
  simp [List.replicate_succ']) (by
  rw [hL,ht]
  have e : ((((l ++ List.replicate (W6 l.length) 0).length % 16 : Nat) : Int) != 8) = false:=by
   simp only [List.length_append,List.length_replicate,bne_eq_false_iff_eq]
   unfold W6; omega
  rw [e]; rfl)
 simpa using this
theorem BK (d : List UInt8) (h : d.length ≤ 10000000) : Ww d = some (Qm d):=by
 have h1:=Ay Vh (fun s=>by unfold Vh; rfl) (d ++ [128]) (by simp; omega)
 have h2:=Jp (d.length : Int) 8 (by omega)
 have h3 : YJ (d.length : Int) 8 = some (beL (d.length : Int) 8):=h2
 have hz : W6 (d.length + 1) < 16:=by unfold W6; omega
 have e : (d ++ [128]).length = d.length + 1:=by simp
 rw [e] at h1
 unfold Ww Qm
 rw [Ae d (by omega),Option.bind_some,V2 (by simp; omega),Option.bind_some,h1,Option.bind_some,h3,Option.bind_some,V2 (by simp [TY]; omega)]
 rfl
theorem yP (d : List UInt8) (h : d.length ≤ 10000000) : Uy d = some (Qm d):=by
 have h1:=Ay U6 (fun s=>by unfold U6; rfl) (d ++ [128]) (by simp; omega)
 have hz : W6 (d.length + 1) < 16:=by unfold W6; omega
 have e : (d ++ [128]).length = d.length + 1:=by simp
 rw [e] at h1
 have h2:=zj (d.length : Int) (WN d) 100 (fun k acc hk hl=>by
  unfold WN
  have e1 : wr (8 * (k : Int)) = ((8 * k : Nat) : Int):=by rw [YH (by omega)]; omega
  have e5 : IntKind.u64.wrap ((8 * k : Nat) : Int) = ((8 * k : Nat) : Int):=yt _ (by omega)
  have e2 : Xi ((8 * k : Nat) : Int) = some ():=by unfold Xi; rw [if_pos (by omega)]
  have e3 : wr ((k : Int) - 1) = (k : Int) - 1:=YH (by omega)
  have e4 : decide ((k : Int) ≥ 0) = true:=by simp
  simp only [e1,e5,e2,e3,e4,if_true,Option.bind_some,yG]
  rw [V2 (by simp; omega)]; rfl) (fun acc=>by unfold WN; simp) 8 ((d ++ [128]) ++ List.replicate (W6 (d.length + 1)) 0) (by omega) (by simp; omega)
 have h3 : ZE (WN d) ((d ++ [128]) ++ List.replicate (W6 (d.length + 1)) 0,7) = some (((d ++ [128]) ++ List.replicate (W6 (d.length + 1)) 0) ++ beL (d.length : Int) 8):=h2
 unfold Uy Qm
 rw [zH d (by omega),Option.bind_some,V2 (by simp; omega),Option.bind_some,h1,Option.bind_some,h3]
 rfl

def zu (l : List UInt8) (i : Nat) : Blk:=vf 16 fun j=>l.getD (16 * i + j) 0
def Xq (l : List UInt8) (n : Nat) : List Blk:=(List.range n).map (zu l)
theorem TI (l : List UInt8) (n : Nat) : (Xq l n).length = n:=by simp [Xq]
theorem Ko (l : List UInt8) (n : Nat) : Xq l (n + 1) = Xq l n ++ [zu l n]:=by simp [Xq,List.range_succ]
theorem AR (l : List UInt8) (n : Nat) (hl : l.length = 16 * n) (hn : n ≤ 100000000) : VD l = some (Xq l n):=by
 have:=ZW (f:=XN l) (fun i : Nat=>(Xq l i,((16 * i : Nat) : Int))) 0 n (Nat.zero_le _) (t:=Xq l n) (fun i _ hi=>by
  unfold XN
  have e1 : wr (((16 * i : Nat) : Int) + 16) = ((16 * (i + 1) : Nat) : Int):=by rw [YH (by omega)]; omega
  have e2 : decide (((16 * i : Nat) : Int) < (l.length : Int)) = true:=by simp; omega
  obtain ⟨r,r1,r2,r3⟩:=Ap (l:=l) (i:=16 * i) (j:=16 * (i + 1)) (by omega) (by omega)
  have e3 : Tu 16 r = some (zu l i):=by
   rw [Hs (by omega)]
   exact congrArg some (YE fun j hj=>r3 j (by omega))
  simp only [e1,e2,if_true,r1,e3,Option.bind_some]
  rw [V2 (by rw [TI]; simp; omega),Ko]; rfl) (by
  unfold XN
  have e2 : decide (((16 * n : Nat) : Int) < (l.length : Int)) = false:=by simp; omega
  simp only [e2,Bool.false_eq_true,if_false])
 have h2 : ZE (XN l) ([],0) = _:=this
 unfold VD
 rw [h2]; rfl
theorem AB (l : List UInt8) (n : Nat) (hl : l.length = 16 * n) (hn : n ≤ 100000000) : WT l = some (Xq l n):=by
 have:=ZW (f:=Xs l) (fun i : Nat=>(Xq l i,((16 * i : Nat) : Int))) 0 n (Nat.zero_le _) (t:=Xq l n) (fun i _ hi=>by
  unfold Xs
  have e1 : wr (((16 * i : Nat) : Int) + 16) = ((16 * (i + 1) : Nat) : Int):=by rw [YH (by omega)]; omega
  have e2 : decide (((16 * (i + 1) : Nat) : Int) ≤ (l.length : Int)) = true:=by simp; omega
  have h3:=XQ (Xt l (Xq l i,((16 * i : Nat) : Int))) (fun _=>0) (fun j=>l.getD (16 * i + j) 0) (by omega) 0 (by omega) (fun j hj=>by omega) (fun j _ hj a _ _=>by
   unfold Xt
   have e4 : wr (((16 * i : Nat) : Int) + (j : Int)) = ((16 * i + j : Nat) : Int):=by rw [YH (by omega)]; omega
   have e5 : 16 * i + j < l.length:=by omega
   simp only [KG hj,if_true,e4,Xj,List.getElem?_eq_getElem e5,ZO _ hj,Option.bind_some,Int.toNat_natCast,List.getD_eq_getElem?_getD,Option.getD_some]) (fun v=>by unfold Xt; simp)
  have h4 : ZE (Xt l (Xq l i,((16 * i : Nat) : Int))) (Vector.replicate 16 0,0) = some (zu l i):=by rw [UK]; exact h3
  simp only [e1,e2,if_true,h4,Option.bind_some]
  rw [V2 (by rw [TI]; simp; omega),Ko]; rfl) (by
  unfold Xs
  have e1 : wr (((16 * n : Nat) : Int) + 16) = ((16 * (n + 1) : Nat) : Int):=by rw [YH (by omega)]; omega
  have e2 : decide (((16 * (n + 1) : Nat) : Int) ≤ (l.length : Int)) = false:=by simp; omega
  simp only [e1,e2,Bool.false_eq_true,if_false])
 have h2 : ZE (Xs l) ([],0) = _:=this
 unfold WT
 rw [h2]; rfl

abbrev Dig:=Vector UInt8 32
def df (v : Dig) (i : Nat) : UInt8:=v[i]?.getD default
theorem yy (v : Dig) : v = vf 32 (df v):=zw v
def T2 : Dig:=vf 32 fun i=>UInt8.ofNat (17 * i)
theorem lt32 {i : Nat} (h : i < 32) : decide ((i : Int) < 32) = true:=by simp; omega
theorem jg : Xh = some T2:=by
 have h:=XQ Yy (fun _=>0) (fun i=>UInt8.ofNat (17 * i)) (by omega) 0 (by omega) (fun j hj=>by omega) (fun i _ hi a _ _=>by
  unfold Yy
  have e1 : wr (17 * (i : Int)) = ((17 * i : Nat) : Int):=by rw [YH (by omega)]; omega
  simp only [lt32 hi,if_true,ZO _ hi,Option.bind_some,e1,W9,Int.toNat_natCast]) (fun v=>by unfold Yy; simp)
 have h2 : ZE Yy (Vector.replicate 32 0,0) = some T2:=by rw [UK]; exact h
 unfold Xh
 rw [h2]; rfl
theorem A1 : Vs = some T2:=by
 have h:=XQ XR (fun _=>0) (fun i=>UInt8.ofNat (17 * i)) (by omega) 0 (by omega) (fun j hj=>by omega) (fun i _ hi a _ _=>by
  unfold XR
  have e1 : wr (17 * (i : Int)) = ((17 * i : Nat) : Int):=by rw [YH (by omega)]; omega
  have e2 : Int.tmod ((17 * i : Nat) : Int) 256 = ((17 * i % 256 : Nat) : Int):=by rw [Int.tmod_eq_emod_of_nonneg (by omega)]; omega
  simp only [lt32 hi,if_true,ZO _ hi,Option.bind_some,e1,e2,W9,z4,Int.toNat_natCast]) (fun v=>by unfold XR; simp)
 have h2 : ZE XR (Vector.replicate 32 0,0) = some T2:=by rw [UK]; exact h
 unfold Vs
 rw [h2]; rfl
def hiF (s : Nat → UInt8) : Nat → UInt8:=fun i=>s (16 + i)
def Bj (f g : Nat → UInt8) : Nat → UInt8:=fun i=>if i < 16 then f i else g (i - 16)
def zl (c : GCipher) (k a : Nat → UInt8) : Nat → UInt8:=KN (Bt c k a c.Rounds.toNat) a
def absC (c : GCipher) (s m : Nat → UInt8) : Nat → UInt8 :=
 Bj (zl c (hiF s) (KN s m)) (zl c (zl c (hiF s) (KN s m)) (KN (hiF s) m))
theorem Au (s : Nat → UInt8) : W3 (vf 32 s) = some (vf 16 s,vf 16 (hiF s)):=by
 have:=ZW (f:=Xw (vf 32 s)) (fun i : Nat=>(vf 16 (fun j=>if j < i then hiF s j else 0),vf 16 (fun j=>if j < i then s j else 0),(i : Int))) 0 16 (by omega) (t:=(vf 16 (hiF s),vf 16 s)) (fun i _ hi=>by
  unfold Xw
  have e1 : wr (16 + (i : Int)) = ((16 + i : Nat) : Int):=by rw [YH (by omega)]; omega
  simp only [KG hi,if_true,e1,ZO _ (show i < 32 by omega),ZO _ (show 16 + i < 32 by omega),ZO _ hi,Option.bind_some,Int.toNat_natCast,U3,WX (show i < 9223372036854775807 by omega)]
  have e : ∀ f : Nat → UInt8,(vf 16 fun j=>if j = i then f i else if j < i then f j else 0) = vf 16 fun j=>if j < i + 1 then f j else 0:=fun f=>YE fun j _=>by
   by_cases h1 : j = i
   ·subst h1; simp
   ·by_cases h2 : j < i
    ·rw [if_neg h1,if_pos h2,if_pos (by omega)]
    ·rw [if_neg h1,if_neg h2,if_neg (by omega)]
  have ea:=e (hiF s)
  have eb:=e s
  rw [eb]
  have ea' : (vf 16 fun j=>if j = i then s (16 + i) else if j < i then hiF s j else 0) = vf 16 fun j=>if j < i + 1 then hiF s j else 0:=ea
  rw [ea']) (by
  unfold Xw
  simp only [show decide (((16 : Nat) : Int) < 16) = false from rfl,Bool.false_eq_true,if_false]
  refine congrArg (fun z=>some (Fl.ex z)) (congr (congrArg Prod.mk (YE fun j hj=>by rw [if_pos hj])) (YE fun j hj=>by rw [if_pos hj])))
 have h2 : ZE (Xw (vf 32 s)) (vf 16 (fun _=>0),vf 16 (fun _=>0),0) = some (vf 16 (hiF s),vf 16 s):=by
  have e0 : ∀ f : Nat → UInt8,(vf 16 fun j=>if j < 0 then f j else 0) = vf 16 fun _=>0:=fun f=>YE fun j _=>by simp
  simp only [e0] at this
  exact this
 unfold W3
 rw [UK,h2]; rfl
theorem Ak (c : GCipher) (h : Yn c = true) (s m : Nat → UInt8) : XO c (vf 32 s) (vf 16 m) = some (vf 32 (absC c s m)):=by
 have hj : ∀ f g : Nat → UInt8,ZE (Xp (vf 16 f) (vf 16 g)) (Vector.replicate 32 0,0) = some (vf 32 (Bj f g)):=by
  intro f g
  have:=ZW (f:=Xp (vf 16 f) (vf 16 g)) (fun i : Nat=>(vf 32 (fun j=>if j < i then f j else if 16 ≤ j ∧ j < 16 + i then g (j - 16) else 0),(i : Int))) 0 16 (by omega) (t:=vf 32 (Bj f g)) (fun i _ hi=>by
   unfold Xp
   have e1 : wr (16 + (i : Int)) = ((16 + i : Nat) : Int):=by rw [YH (by omega)]; omega
   simp only [KG hi,if_true,e1,ZO _ (show i < 32 by omega),ZO _ (show 16 + i < 32 by omega),ZO _ hi,Option.bind_some,Int.toNat_natCast,U3,WX (show i < 9223372036854775807 by omega)]
   refine congrArg (fun z=>some (Fl.nx (z,((i + 1 : Nat) : Int)))) (YE fun j hj=>?_)
   by_cases h1 : j = 16 + i
   ·subst h1
    rw [if_pos rfl,if_neg (by omega),if_pos (by omega)]
    congr 1; omega
   ·rw [if_neg h1]
    by_cases h2 : j = i
    ·subst h2; rw [if_pos rfl,if_pos (by omega)]
    ·rw [if_neg h2]
     by_cases h3 : j < i
     ·rw [if_pos h3,if_pos (by omega)]
     ·rw [if_neg h3,if_neg (show ¬ j < i + 1 by omega)]
      by_cases h4 : 16 ≤ j ∧ j < 16 + i
      ·rw [if_pos h4,if_pos (by omega)]
      ·rw [if_neg h4,if_neg (by omega)]) (by
   unfold Xp
   simp only [show decide (((16 : Nat) : Int) < 16) = false from rfl,Bool.false_eq_true,if_false]
   refine congrArg (fun z=>some (Fl.ex z)) (YE fun j hj=>?_)
   unfold Bj
   by_cases h3 : j < 16
   ·rw [if_pos h3,if_pos h3]
   ·rw [if_neg h3,if_neg h3,if_pos (by omega)])
  have e0 : (vf 32 fun j=>if j < 0 then f j else if 16 ≤ j ∧ j < 16 + 0 then g (j - 16) else 0) = vf 32 fun _=>0:=YE fun j _=>by rw [if_neg (by omega),if_neg (by omega)]
  simp only [e0] at this
  rw [UK]
  exact this
 unfold XO
 simp only [Au,Option.bind_some,KJ,Kz c h,hj]
 rfl
theorem yp (c : GCipher) (h : Yn c = true) (s m : Nat → UInt8) : YI ⟨YM c⟩ (vf 32 s) (vf 16 m) = some (vf 32 (absC c s m)):=by
 have g1 : ∀ {n : Nat} (f : Nat → UInt8) (k : Nat),k < n → (vf n f).toList.getD k 0 = f k:=fun f k hk=>by
  rw [J3,List.getD_eq_getElem?_getD,List.getElem?_map,List.getElem?_range hk]; rfl
 have hl : ∀ {n : Nat} (f : Nat → UInt8),(vf n f).toList.length = n:=fun f=>by simp
 have cut : ∀ {n : Nat} (f : Nat → UInt8) (i j : Nat),i ≤ j → j ≤ n → ∃ r,slc (vf n f).toList (i : Int) (j : Int) = some r ∧ r.length = j - i ∧ Tu (j - i) r = some (vf (j - i) fun k=>f (i + k)) ∧ ∀ k,k < j - i → r.getD k 0 = f (i + k):=by
  intro n f i j hij hjn
  obtain ⟨r,r1,r2,r3⟩:=Ap (l:=(vf n f).toList) (i:=i) (j:=j) hij (by rw [hl]; exact hjn)
  have r4 : ∀ k,k < j - i → r.getD k 0 = f (i + k):=fun k hk=>by rw [r3 k hk,g1 f (i + k) (by omega)]
  refine ⟨r,r1,r2,?_,r4⟩
  rw [Hs (by omega)]
  exact congrArg some (YE r4)
 obtain ⟨l,l1,l2,l3,l4⟩:=cut (n:=32) s 0 16 (by omega) (by omega)
 obtain ⟨l',l1',l2',l3',l4'⟩:=cut (n:=32) s 16 32 (by omega) (by omega)
 have a1 : slc (vf 32 s).toList (0 : Int) (16 : Int) = some l:=l1
 have a2 : slc (vf 32 s).toList (16 : Int) (32 : Int) = some l':=l1'
 have a3 : Tu 16 l = some (vf 16 s):=by
  have : Tu 16 l = some (vf 16 fun k=>s (0 + k)):=l3
  rw [this]; exact congrArg some (YE fun k _=>by rw [Nat.zero_add])
 have a4 : Tu 16 l' = some (vf 16 (hiF s)):=l3'
 have join : ∀ f g : Nat → UInt8,((slc (vf 16 f).toList (0 : Int) (16 : Int)).bind fun (l56 : (List UInt8))=>(slc (vf 16 g).toList (0 : Int) (16 : Int)).bind fun (l59 : (List UInt8))=>(ZY ([l56,l59] : (List (List UInt8)))).bind fun (r64 : (List UInt8))=>(Tu 32 r64).bind fun (x67 : (Vector UInt8 32))=>some x67 : Option ((Vector UInt8 32))) = some (vf 32 (Bj f g)):=by
  intro f g
  obtain ⟨p,p1,p2,_,p4⟩:=cut (n:=16) f 0 16 (by omega) (by omega)
  obtain ⟨q,q1,q2,_,q4⟩:=cut (n:=16) g 0 16 (by omega) (by omega)
  have b1 : slc (vf 16 f).toList (0 : Int) (16 : Int) = some p:=p1
  have b2 : slc (vf 16 g).toList (0 : Int) (16 : Int) = some q:=q1
  have b3 : ZY [p,q] = some (p ++ q):=by
   have:=KL [p,q] (by simp; omega) (by simp)
   simpa using this
  rw [b1,Option.bind_some,b2,Option.bind_some,b3,Option.bind_some,Hs (by simp; omega),Option.bind_some]
  refine congrArg some (YE fun k hk=>?_)
  unfold Bj
  rw [List.getD_eq_getElem?_getD]
  by_cases h1 : k < 16
  ·rw [if_pos h1,List.getElem?_append_left (by omega),← List.getD_eq_getElem?_getD,p4 k (by omega),Nat.zero_add]
  ·rw [if_neg h1,List.getElem?_append_right (by omega),← List.getD_eq_getElem?_getD,q4 (k - p.length) (by omega),Nat.zero_add,show p.length = 16 from p2]
 have in1 : ∀ k a : Nat → UInt8,((Yh ⟨YM c⟩ (vf 16 k) (vf 16 a)).bind fun (r34 : (Vector UInt8 16))=>(Ye r34 (vf 16 a)).bind fun (r36 : (Vector UInt8 16))=>some r36 : Option (Vector UInt8 16)) = some (vf 16 (zl c k a)):=fun k a=>by
  rw [KU c h,Option.bind_some,UQ,Option.bind_some]; rfl
 unfold YI
 rw [a1,Option.bind_some,a3,Option.bind_some,a2,Option.bind_some,a4,Option.bind_some,UQ,Option.bind_some,in1,Option.bind_some,UQ,Option.bind_some,in1,Option.bind_some,join,Option.bind_some]
 rfl

def absV (c : GCipher) (s : Dig) (m : Blk) : Dig:=vf 32 (absC c (df s) (bf m))
theorem zm (c : GCipher) (h : Yn c = true) (s : Dig) (m : Blk) : YI ⟨YM c⟩ s m = some (absV c s m) ∧ XO c s m = some (absV c s m):=by
 have h1:=yp c h (df s) (bf m)
 have h2:=Ak c h (df s) (bf m)
 rw [← yy,← vf_bf] at h1 h2
 exact ⟨h1,h2⟩
def Q1 (c : GCipher) (d : List UInt8) : Dig:=(Xq (Qm d) ((Qm d).length / 16)).foldl (absV c) T2
theorem Ar (c : GCipher) (h : Yn c = true) (ps : List (List UInt8)) (hl : ps.flatten.length ≤ 10000000) (hn : ps.length < 9223372036854775807) : YG ⟨YM c⟩ ps = some (Q1 c ps.flatten):=by
 obtain ⟨n,n1,n2⟩:=Ai ps.flatten
 have e : (Qm ps.flatten).length / 16 = n:=by omega
 have h1:=TU (f:=Yz ⟨YM c⟩ (Xq (Qm ps.flatten) n)) (Xq (Qm ps.flatten) n) (fun (b : Dig) i=>(b,i)) (absV c) T2 (t:=Q1 c ps.flatten) (by rw [TI]; omega) (fun i hi=>by
  unfold Yz
  simp only [Int.ofNat_lt,hi,decide_true,if_true,Xj,List.getElem?_eq_getElem hi,Option.bind_some,(zm c h _ _).1]) (by
  unfold Yz Q1
  rw [e]; simp)
 unfold YG
 rw [jg,Option.bind_some,KL ps (by omega) hn,Option.bind_some,BK _ hl,Option.bind_some,AR _ n n1 (by omega),Option.bind_some]
 have h2 : ZE (Yz ⟨YM c⟩ (Xq (Qm ps.flatten) n)) (T2,0) = _:=h1
 rw [h2]; rfl
theorem zi (c : GCipher) (h : Yn c = true) (d : List UInt8) (hl : d.length ≤ 10000000) : Vg c d = some (Q1 c d):=by
 obtain ⟨n,n1,n2⟩:=Ai d
 have e : (Qm d).length / 16 = n:=by omega
 have h1:=TU (f:=VE c (Xq (Qm d) n)) (Xq (Qm d) n) (fun (b : Dig) i=>(b,i)) (absV c) T2 (t:=Q1 c d) (by rw [TI]; omega) (fun i hi=>by
  unfold VE
  simp only [Int.ofNat_lt,hi,decide_true,if_true,Xj,List.getElem?_eq_getElem hi,Option.bind_some,(zm c h _ _).2]) (by
  unfold VE Q1
  rw [e]; simp)
 unfold Vg
 rw [yP _ hl,Option.bind_some,AB _ n n1 (by omega),Option.bind_some,A1,Option.bind_some]
 have h2 : ZE (VE c (Xq (Qm d) n)) (T2,0) = _:=h1
 rw [h2]; rfl
theorem HN (d : Dig) : Wi d = some d.toList:=by
 have h:=yN (f:=WO d) (List.range 32) (fun i=>df d i) (t:=d.toList) (by simp) (fun i hi=>by
  have hi' : i < 32:=by simpa using hi
  unfold WO
  have hv : ZI d (i : Int) = some (df d i):=by
   have:=ZO (df d) hi'
   rwa [← yy] at this
  simp only [lt32 hi',if_true,hv,Option.bind_some]
  rw [V2 (by simp; omega)]
  simp) (by
  unfold WO
  have e : (List.range 32).map (fun i=>df d i) = d.toList:=by
   conv=>rhs; rw [yy d]
   rw [J3]
  simp only [List.length_range,show decide (((32 : Nat) : Int) < 32) = false from rfl,Bool.false_eq_true,if_false,e])
 unfold Wi
 rw [h]; rfl
def QN (d : Dig) (e : GEvent) : List UInt8:=((d.toList ++ [Zx e.Kind]) ++ beL e.Number 4) ++ e.Tag.toList
theorem Az (d : Dig) (e : GEvent) : (QN d e).length = 69:=by simp [QN,TY]
def Js (c : GCipher) (d : Dig) (e : GEvent) : Dig:=Q1 c (QN d e)
def HR (c : GCipher) (l : List GEvent) : Dig:=l.foldl (Js c) (Q1 c (List.replicate 32 0))
theorem A9 : Yn (WD 4) = true:=Af 4 (by omega)
theorem Jl : XL = some (WD 4):=by
 unfold XL
 rw [Hm]; rfl
theorem yW (n : Int) (h : 1 ≤ n ∧ n ≤ 20) : UX n = some ⟨YM (WD n)⟩:=by
 unfold UX
 rw [QV,Option.bind_some,AD _ (Af n h)]; rfl
theorem HW : X5 = some ⟨YM (WD 4)⟩:=by
 unfold X5
 rw [yW 4 (by omega)]; rfl
theorem ja (d : Dig) : slc d.toList (0 : Int) (32 : Int) = some d.toList:=by
 have h1 : slc d.toList ((0 : Nat) : Int) ((32 : Nat) : Int) = _:=Bx (Nat.zero_le _) (by simp)
 have h2 : slc d.toList (0 : Int) (32 : Int) = _:=h1
 rw [h2,List.drop_zero,List.take_of_length_le (by simp)]
theorem H5 (c : GCipher) (h : Yn c = true) (l : List GEvent) (hl : l.length < 9223372036854775807) : X3 ⟨YM c⟩ l = some (HR c l):=by
 have hm : mkS 1 (0 : UInt8) 32 = some (List.replicate 32 0):=by unfold mkS; rw [if_pos (by omega)]; rfl
 have h0:=Ar c h [List.replicate 32 0] (by simp) (by simp)
 have e0 : ([List.replicate 32 0] : List (List UInt8)).flatten = List.replicate 32 0:=by simp
 rw [e0] at h0
 have h1:=TU (f:=YU ⟨YM c⟩ l) l (fun (b : Dig) i=>(b,i)) (Js c) (Q1 c (List.replicate 32 0)) (t:=HR c l) hl (fun i hi=>by
  unfold YU
  have hb : YJ l[i].Number 4 = some (beL l[i].Number 4):=Jp _ 4 (by omega)
  have hd:=Ar c h [((l.take i).foldl (Js c) (Q1 c (List.replicate 32 0))).toList,[Zx l[i].Kind],beL l[i].Number 4,l[i].Tag.toList] (by simp [TY]) (by simp)
  have ed : ([((l.take i).foldl (Js c) (Q1 c (List.replicate 32 0))).toList,[Zx l[i].Kind],beL l[i].Number 4,l[i].Tag.toList] : List (List UInt8)).flatten = QN ((l.take i).foldl (Js c) (Q1 c (List.replicate 32 0))) l[i]:=by simp [QN]
  rw [ed] at hd
  simp only [Int.ofNat_lt,hi,decide_true,if_true,Xj,List.getElem?_eq_getElem hi,Option.bind_some,ja,hb,hd]
  rfl) (by unfold YU HR; simp)
 unfold X3
 rw [hm,Option.bind_some,h0,Option.bind_some]
 have h2 : ZE (YU ⟨YM c⟩ l) (Q1 c (List.replicate 32 0),0) = _:=h1
 rw [h2]; rfl
theorem zX (d : Dig) (e : GEvent) : VX d e = some (Js (WD 4) d e):=by
 have h1:=zi (WD 4) A9 (QN d e) (by rw [Az]; omega)
 unfold VX
 rw [HN,Option.bind_some,V2 (by simp),Option.bind_some,Option.bind_some,zI,Option.bind_some,V2 (by simp [TY]),Option.bind_some,Jl,Option.bind_some,HN,Option.bind_some,V2 (by simp [TY]),Option.bind_some]
 have h2 : Vg (WD 4) (((d.toList ++ [Zx e.Kind]) ++ beL e.Number 4) ++ e.Tag.toList) = some (Js (WD 4) d e):=h1
 rw [h2]; rfl
theorem zG (l : List GEvent) (hl : l.length < 9223372036854775807) : V6 l = some (HR (WD 4) l):=by
 have hm : mkS 1 (0 : UInt8) 32 = some (List.replicate 32 0):=by unfold mkS; rw [if_pos (by omega)]; rfl
 have h1:=TU (f:=X9 l) l (fun (b : Dig) i=>(b,i)) (Js (WD 4)) (Q1 (WD 4) (List.replicate 32 0)) (t:=HR (WD 4) l) hl (fun i hi=>by
  unfold X9
  simp only [Int.ofNat_lt,hi,decide_true,if_true,Xj,List.getElem?_eq_getElem hi,Option.bind_some,zX]) (by unfold X9 HR; simp)
 unfold V6
 rw [Jl,Option.bind_some,hm,Option.bind_some,zi _ A9 _ (by simp),Option.bind_some]
 have h2 : ZE (X9 l) (Q1 (WD 4) (List.replicate 32 0),0) = _:=h1
 rw [h2]; rfl
theorem BW (l : List GEvent) (h : Wt.ln l) : Hb Wo Wy l (l.map fun _=>34).sum :=
 QL Wo Wy Y9 XZ (fun _=>34) (fun _ _=>rfl) (fun _ _=>rfl) l (TF h) (fun l' i k hi _ _ h0 hk=>by
  refine ⟨_,H4 l' i k hi h0 (by omega),fun m hm=>?_⟩
  have hi':=(List.getElem?_eq_some_iff.1 hm).1
  have e1:=BA (k:=k) h0 (by omega)
  have e2 : wr (k + 2) = k + 2:=YH (by omega)
  unfold XZ
  have h1:=KF (n:=32) (fun x : GEvent=>x.Tag) m i i rfl (Vc m (k,(i : Int))) (fun s=>by unfold Vc; rfl) hm (k + 2) (by omega) (by omega) rfl
  rw [show k + 2 + ((32 : Nat) : Int) = k + 34 by omega] at h1
  simp only [Int.ofNat_lt,hi',decide_true,if_true,Xj,hm,Option.bind_some,bne_self_eq_false,Bool.false_eq_true,if_false,e1,e2,show k + 1 + 1 = k + 2 by omega,h1,Fl.el]
  rfl) (fun l' k=>by unfold Y9; simp) (fun m k=>by unfold XZ; simp)
theorem H6 (l : List GRecord) (h : Wt.ln l) : Hb X0 X2 l (l.map Vz).sum :=
 QL X0 X2 Y0 XC Vz (fun _ _=>rfl) (fun _ _=>rfl) l (TF h) (fun l' i k hi hx _ h0 hk=>by
  have hk':=hk
  unfold Vz at hk'
  have hln : Wt.ln l'[i]:=zc h hx
  obtain ⟨la,a1,a2⟩:=Jj l'[i].Label hln.1 (k + 18) (by omega) (by omega)
  obtain ⟨bo,b1,b2⟩:=Jj l'[i].Body hln.2 (k + 18 + ((l'[i].Label.map fun _=>1).sum : Nat)) (by omega) (by omega)
  refine ⟨_,Hy l' i k hi h0 hk a1 b1,fun m hm=>?_⟩
  have hi':=(List.getElem?_eq_some_iff.1 hm).1
  have e1:=BA (k:=k) h0 (by omega)
  have e2 : wr (k + 2) = k + 2:=YH (by omega)
  have h1:=KF (n:=16) (fun x : GRecord=>x.Nonce) m i i rfl (WG m (k,(i : Int))) (fun s=>by unfold WG; rfl) hm (k + 2) (by omega) (by omega) rfl
  have h2:=KF (n:=32) (fun x : GRecord=>x.Tag) m i i rfl (WH m (k,(i : Int))) (fun s=>by unfold WH; rfl) hm (k + 18 + ((l'[i].Label.map fun _=>1).sum : Nat) + ((l'[i].Body.map fun _=>1).sum : Nat)) (by omega) (by omega) rfl
  rw [show k + 2 + ((16 : Nat) : Int) = k + 18 by omega] at h1
  have c1 : ¬ (k + 18 + ((l'[i].Label.map fun _=>1).sum : Nat) < 0):=by omega
  have c2 : ¬ (k + 18 + ((l'[i].Label.map fun _=>1).sum : Nat) + ((l'[i].Body.map fun _=>1).sum : Nat) < 0):=by omega
  unfold XC
  simp only [Int.ofNat_lt,hi',decide_true,if_true,Xj,hm,Option.bind_some,bne_self_eq_false,Bool.false_eq_true,if_false,e1,e2,show k + 1 + 1 = k + 2 by omega,h1,Fl.el,a2,b2,c1,c2,decide_false,h2]
  refine congrArg (fun z=>some (Fl.nx (z,wr ((i : Int) + 1)))) ?_
  unfold Vz; omega) (fun l' k=>by unfold Y0; simp) (fun m k=>by unfold XC; simp)
theorem AE (x : GVault) (h : Wt.ln x) (k : Int) (h0 : 0 ≤ k) (hk : k + (TK x : Nat) ≤ 4611686018427387904) :
  ∃ x',W4 x k = some (x',k + (TK x : Nat)) ∧ ∀ n hd,WQ ⟨x'.Keys,n,x'.Records,x'.Events,hd⟩ k = some (k + (TK x : Nat)):=by
 unfold TK at hk
 obtain ⟨a,a1,a2⟩:=B1 x.Keys h.1 k h0 (by omega)
 obtain ⟨b,b1,b2⟩:=H6 x.Records h.2.1 _ (by omega : (0 : Int) ≤ k + ((x.Keys.map fun _=>16).sum : Nat)) (by omega)
 obtain ⟨c,c1,c2⟩:=BW x.Events h.2.2 _ (by omega : (0 : Int) ≤ k + ((x.Keys.map fun _=>16).sum : Nat) + ((x.Records.map Vz).sum : Nat)) (by omega)
 refine ⟨⟨a,x.Next,b,c,x.Head⟩,?_,fun n hd=>?_⟩
 ·unfold W4 TK
  simp only [a1,b1,c1,Option.bind_some]
  refine congrArg (fun z=>some (_,z)) ?_
  omega
 ·have d1 : ¬ (k + ((x.Keys.map fun _=>16).sum : Nat) < 0):=by omega
  have d2 : ¬ (k + ((x.Keys.map fun _=>16).sum : Nat) + ((x.Records.map Vz).sum : Nat) < 0):=by omega
  have d3 : ¬ (k + ((x.Keys.map fun _=>16).sum : Nat) + ((x.Records.map Vz).sum : Nat) + ((x.Events.map fun _=>34).sum : Nat) < 0):=by omega
  unfold WQ TK
  simp only [a2,b2,c2,d1,d2,d3,decide_false,Bool.false_eq_true,if_false,Option.bind_some]
  refine congrArg some ?_
  omega

def Wj (key : Blk) : GVault:=⟨[key],1,[],[],HR (WD 4) []⟩
theorem JD (key : Blk) : Vp key = some (Wj key):=by
 unfold Vp
 rw [HW,Option.bind_some,H5 _ A9 [] (by simp)]; rfl
theorem JK (key : Blk) : Vt key = some (Wj key):=by
 unfold Vt
 rw [zG [] (by simp)]; rfl
instance : Wt GBlobs:=⟨fun x=>Wt.wt x.Keys + (Wt.wt x.Data + Wt.wt x.Counts),fun x=>Wt.ln x.Keys ∧ Wt.ln x.Data ∧ Wt.ln x.Counts,fun x h=>⟨Wt.bdln x.Keys h.1,Wt.bdln x.Data h.2.1,Wt.bdln x.Counts h.2.2⟩,
 fun x h=>⟨Wt.wtln x.Keys (by omega),Wt.wtln x.Data (by omega),Wt.wtln x.Counts (by omega)⟩⟩
theorem Al (l : List Dig) (h : Wt.ln l) : WU l l = some true:=by
 unfold WU
 exact T7 l (fun x y=>(YC x y).bind fun r=>some (!r)) (VI l l) (fun s=>by unfold VI; rfl) (fun x _=>by simp [T6 x]) (TF h)
theorem z1 (x : GBlobs) (h : Wt.ln x) : VW x x = some true:=by
 unfold VW
 simp [Al x.Keys h.1,AH x.Data h.2.1,AU x.Counts h.2.2]
theorem yV (x : Vector UInt8 256) : U1 x x = some true:=by
 unfold U1
 exact Hd x (Tc x x) (fun s=>by unfold Tc; rfl) (by omega)
theorem AZ (x : Vector UInt8 16) : VC x x = some true:=by
 unfold VC
 exact Hd x (Ud x x) (fun s=>by unfold Ud; rfl) (by omega)
theorem A3 (x : Vector UInt8 4) : Vu x x = some true:=by
 unfold Vu
 exact Hd x (Uo x x) (fun s=>by unfold Uo; rfl) (by omega)
theorem AI (x : Mat) : Vx x x = some true:=by
 unfold Vx
 have:=ZW (f:=XS x x) (fun i : Nat=>(i : Int)) 0 4 (by omega) (t:=.nx ()) (fun i _ hi=>by
  unfold XS
  simp only [lt4 hi,if_true,Wk,Vector.getElem?_eq_getElem hi,Option.bind_some,A3,Bool.not_true,Bool.false_eq_true,if_false,wr4 (show i < 1000 by omega)]) (by unfold XS; simp)
 have h2 : ZE (XS x x) 0 = _:=this
 rw [h2]; rfl
theorem AO (c : GCipher) : Vv c c = some true:=by
 unfold Vv
 simp [yV,AI,AZ]
theorem yE (x : GDesk) (h1 : Wt.ln x.Data) (h2 : Wt.ln x.Vault) (h3 : Wt.ln x.Blobs) : WB x x = some true:=by
 unfold WB
 simp [AO,Je,QM _ h1,zY _ h2,z1 _ h3]

theorem A8 (k : Int) : Z9 [] k = some ([],k):=by
 unfold Z9
 rw [YD (t:=(([] : List UInt8),k)) (by unfold Xu; simp)]; rfl
theorem z5 (k : Int) : XU [] k = some ([],k):=by
 unfold XU
 rw [YD (t:=(([] : List Dig),k)) (by unfold Ut; simp)]; rfl
theorem Ag (k : Int) : Wr [] k = some ([],k):=by
 unfold Wr
 rw [YD (t:=(([] : List (List UInt8)),k)) (by unfold UN; simp)]; rfl
theorem zU (k : Int) : Wu [] k = some ([],k):=by
 unfold Wu
 rw [YD (t:=(([] : List Int),k)) (by unfold UH; simp)]; rfl
theorem AY (k : Int) : Yk [] k = some k:=by
 unfold Yk
 rw [YD (t:=.nx k) (by unfold Xx; simp)]; rfl
theorem zE (k : Int) : XW [] k = some k:=by
 unfold XW
 rw [YD (t:=.nx k) (by unfold Uv; simp)]; rfl
theorem Ac (k : Int) : Wv [] k = some k:=by
 unfold Wv
 rw [YD (t:=.nx k) (by unfold UM; simp)]; rfl
theorem z6 (k : Int) : Wq [] k = some k:=by
 unfold Wq
 rw [YD (t:=.nx k) (by unfold UP; simp)]; rfl
def Y5 : GDesk:=⟨WD 6,Vector.replicate 16 0,Vector.replicate 16 0,[],Wj (Vector.replicate 16 0),⟨[],[],[]⟩⟩
theorem HO : VP = some Y5:=by
 unfold VP Td
 simp only [Hm,JK,Option.bind_some]; rfl
theorem Hn : WS = some Y5:=by
 unfold WS
 simp only [QV,JD,Option.bind_some]; rfl
theorem Kd : X6 = some true:=by
 obtain ⟨z,hz⟩ : ∃ z,z = (Vector.replicate 16 0 : Blk):=⟨_,rfl⟩
 have hl : Wt.ln (Wj z):=⟨⟨by simp [Wj],fun _ _=>trivial⟩,⟨by simp [Wj],fun x hx=>by simp [Wj] at hx⟩,⟨by simp [Wj],fun _ _=>trivial⟩⟩
 have hm : TK (Wj z) = 16:=by simp [TK,Wj]
 obtain ⟨x',m1,m2⟩:=AE (Wj z) hl 1 (by omega) (by rw [hm]; omega)
 rw [hm] at m1 m2
 have q1 : Y5.Data = []:=rfl
 have q2 : Y5.Vault = Wj z:=by rw [hz]; rfl
 have q3 : Y5.Blobs = ⟨[],[],[]⟩:=rfl
 have he : WB Y5 Y5 = some true:=yE _ (Wt.wtln _ (by rw [q1]; decide)) (by rw [q2]; exact hl) (Wt.wtln _ (by rw [q3]; decide))
 have hmk : VA Y5 1 = some (⟨Y5.Cipher,Y5.Key,Y5.Start,[],⟨x'.Keys,Y5.Vault.Next,x'.Records,x'.Events,Y5.Vault.Head⟩,⟨[],[],[]⟩⟩,1 + ((16 : Nat) : Int)):=by
  unfold VA Ue
  rw [q1,q3,q2]
  simp only [A8,m1,z5,Ag,zU,Option.bind_some]
 have hh : Wa ⟨Y5.Cipher,Y5.Key,Y5.Start,[],⟨x'.Keys,Y5.Vault.Next,x'.Records,x'.Events,Y5.Vault.Head⟩,⟨[],[],[]⟩⟩ 1 = some (1 + ((16 : Nat) : Int)):=by
  unfold Wa Ub
  have d1 : ¬ ((1 : Int) < 0):=by omega
  have d2 : ¬ ((1 : Int) + ((16 : Nat) : Int) < 0):=by omega
  simp only [AY,m2,zE,Ac,z6,d1,d2,decide_false,Bool.false_eq_true,if_false,Option.bind_some]
 have d2 : ¬ ((1 : Int) + ((16 : Nat) : Int) < 0):=by omega
 unfold X6
 simp only [HO,Hn,he,hmk,hh,d2,Option.bind_some,Bool.not_true,Bool.false_eq_true,if_false,decide_false,bne_self_eq_false]

instance : Wt GDesk:=⟨fun x=>Wt.wt x.Data + (Wt.wt x.Vault + Wt.wt x.Blobs),fun x=>Wt.ln x.Data ∧ Wt.ln x.Vault ∧ Wt.ln x.Blobs,fun x h=>⟨Wt.bdln x.Data h.2.2.2.1,Wt.bdln x.Vault h.2.2.2.2.1,Wt.bdln x.Blobs h.2.2.2.2.2⟩,
 fun x h=>⟨Wt.wtln x.Data (by omega),Wt.wtln x.Vault (by omega),Wt.wtln x.Blobs (by omega)⟩⟩
end Go.Proofs.YtlpppjjlffgkmaaGreat
