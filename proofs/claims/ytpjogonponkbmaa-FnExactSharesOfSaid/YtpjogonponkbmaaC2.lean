/- Plain laws, no program in sight. -/
import Derived.Test.YtpjogonponkbmaaC1
set_option linter.unusedVariables false
set_option linter.unusedSimpArgs false
set_option maxRecDepth 20000
set_option maxHeartbeats 400000
namespace Go.Proofs.Ytpjogonponkbmaa
open Go
open Flat (enc)
theorem VL {α : Type} {l : List α} {i : Nat} (h : i < l.length) : idx l (i : Int) = some l[i]:=by
 unfold idx
 rw [if_pos (by omega)]
 simp
theorem Y7 {i : Nat} (h : i < 9223372036854775807) : wr ((i : Int) + 1) = ((i + 1 : Nat) : Int):=by
 rw [XO (by omega)]; rfl

section
variable {S T : Type} {f : S → Option (Fl S T)}
theorem QE (g : Nat → S) (m n : Nat) (hmn : m ≤ n) (h : ∀ i, m ≤ i → i < n → f (g i) = some (.nx (g (i + 1)))) : Zz f (g m) = Zz f (g n) := by
  induction n with
  | zero => have : m = 0 := by omega
            subst this; rfl
  | succ n ih =>
    rcases Nat.lt_or_ge m (n + 1) with h1 | h1
    · rw [ih (by omega) (fun i h2 h3 => h i h2 (by omega)), YN (h n (by omega) (by omega))]
    · have : m = n + 1 := by omega
      subst this; rfl
theorem Xq (g : Nat → S) (m n : Nat) (hmn : m ≤ n) {t : T} (h : ∀ i,m ≤ i → i < n → f (g i) = some (.nx (g (i + 1)))) (he : f (g n) = some (.ex t)) : Zz f (g m) = some t:=by
 rw [QE g m n hmn h,YB he]
theorem Vk (g : Nat → S) (p : Nat → Bool) (t : Nat → T) {e : T} (n : Nat) : ∀ (k m : Nat),m + k = n → (∀ i,m ≤ i → i < n → f (g i) = some (if p i then .ex (t i) else .nx (g (i + 1)))) → f (g n) = some (.ex e) →
  Zz f (g m) = some (((List.range' m k).find? p).elim e t)
 | 0,m,hk,_,he=>by
  have : m = n:=by omega
  subst this
  rw [YB he]; rfl
 | k + 1,m,hk,h,he=>by
  have h1:=h m (Nat.le_refl _) (by omega)
  rw [List.range'_succ,List.find?_cons]
  cases hp : p m with
  | true=>rw [hp] at h1; rw [YB h1]; rfl
  | false =>
   rw [hp] at h1
   rw [YN h1,Vk g p t n k (m + 1) (by omega) (fun i h2 h3=>h i (by omega) h3) he]
end

theorem VV {T : Type} {f : Int → Option (Fl Int (Fl Unit T))} (p : Nat → Bool) {t : T} {n m : Nat} (hm : m ≤ n)
  (h : ∀ i,m ≤ i → i < n → f (i : Int) = some (if p i then .ex (.ex t) else .nx ((i + 1 : Nat) : Int))) (he : f (n : Int) = some (.ex (.nx ()))) :
  Zz f (m : Int) = some (if (List.range' m (n - m)).any p then .ex t else .nx ()):=by
 rw [Vk (fun i : Nat=>(i : Int)) p (fun _=>.ex t) n (n - m) m (by omega) h he]
 cases hf : (List.range' m (n - m)).find? p with
 | none =>
  have : (List.range' m (n - m)).any p = false:=by
   rw [List.any_eq_false]
   rw [List.find?_eq_none] at hf
   exact hf
  rw [this]; rfl
 | some i =>
  have : (List.range' m (n - m)).any p = true:=by
   rw [List.any_eq_true]
   exact ⟨i,List.mem_of_find?_eq_some hf,List.find?_some hf⟩
  rw [this]; rfl
theorem XJ {p : Nat → Bool} {m n : Nat} : (List.range' m (n - m)).any p = true ↔ ∃ i,m ≤ i ∧ i < n ∧ p i = true:=by
 rw [List.any_eq_true]
 simp only [List.mem_range'_1]
 constructor
 ·rintro ⟨i,⟨h1,h2⟩,h3⟩; exact ⟨i,h1,by omega,h3⟩
 ·rintro ⟨i,h1,h2,h3⟩; exact ⟨i,⟨h1,by omega⟩,h3⟩
theorem T8 {α : Type} {q : α → Bool} {l : List α} {p : Nat → Bool} (hp : ∀ i (h : i < l.length),p i = q l[i]) : (List.range' 0 (l.length - 0)).any p = l.any q:=by
 rw [Bool.eq_iff_iff,XJ,List.any_eq_true]
 constructor
 ·rintro ⟨i,_,h,h3⟩; exact ⟨l[i],List.getElem_mem h,by rw [← hp i h]; exact h3⟩
 ·rintro ⟨x,hx,h⟩
  obtain ⟨i,hi,rfl⟩:=List.mem_iff_getElem.1 hx
  exact ⟨i,Nat.zero_le _,hi,by rw [hp i hi]; exact h⟩

theorem TY {T α : Type} {f : Int → Option (Fl Int (Fl Unit T))} (l : List α) (q : α → Bool) {t : T} (hl : l.length < 9223372036854775807)
  (h : ∀ i (hi : i < l.length),f (i : Int) = some (if q l[i] then .ex (.ex t) else .nx (wr ((i : Int) + 1)))) (he : f (l.length : Int) = some (.ex (.nx ()))) :
  Zz f 0 = some (if l.any q then .ex t else .nx ()):=by
 have:=VV (f:=f) (fun i=>if hi : i < l.length then q l[i] else false) (t:=t) (n:=l.length) (m:=0) (Nat.zero_le _) (fun i _ hi=>by
  rw [h i hi,Y7 (by omega)]; simp [hi]) he
 rw [T8 (q:=q) (fun i hi=>by simp [hi])] at this
 exact this

class Wt (α : Type) [Dat α] where
 wt : α → Nat
 ln : α → Prop
 bdln : ∀ x,Dat.bd x → ln x
 wtln : ∀ x,wt x ≤ 1048576 → ln x
instance : Wt Int:=⟨fun _=>0,fun _=>True,fun _ _=>trivial,fun _ _=>trivial⟩
instance : Wt UInt8:=⟨fun _=>0,fun _=>True,fun _ _=>trivial,fun _ _=>trivial⟩
instance : Wt Bool:=⟨fun _=>0,fun _=>True,fun _ _=>trivial,fun _ _=>trivial⟩
instance : Wt Str:=⟨fun s=>s.l.length,fun s=>s.l.length ≤ 9223372036854775807,fun _ h=>h,fun _ h=>by omega⟩
instance {n : Nat} : Wt (Vector UInt8 n):=⟨fun _=>0,fun _=>True,fun _ _=>trivial,fun _ _=>trivial⟩
instance {n m : Nat} : Wt (Vector (Vector UInt8 m) n):=⟨fun _=>0,fun _=>True,fun _ _=>trivial,fun _ _=>trivial⟩
theorem TM {α : Type} {f : α → Nat} {l : List α} {x : α} (h : x ∈ l) : f x ≤ (l.map f).sum:=by
 induction l with
 | nil=>cases h
 | cons y l ih =>
  rw [List.map_cons,List.sum_cons]
  rcases List.mem_cons.1 h with rfl | h
  ·omega
  ·have:=ih h; omega
instance {α : Type} [Dat α] [Wt α] : Wt (List α):=⟨fun l=>l.length + (l.map Wt.wt).sum,fun l=>l.length ≤ 9223372036854775807 ∧ ∀ x ∈ l,Wt.ln x,fun _ h=>⟨h.1,fun x hx=>Wt.bdln x (h.2 x hx)⟩,
 fun l h=>⟨by omega,fun x hx=>Wt.wtln x (by have:=TM (f:=Wt.wt) hx; omega)⟩⟩
instance {α β : Type} [Dat α] [Dat β] [Wt α] [Wt β] : Wt (α × β):=⟨fun x=>Wt.wt x.1 + Wt.wt x.2,fun x=>Wt.ln x.1 ∧ Wt.ln x.2,fun x h=>⟨Wt.bdln x.1 h.1,Wt.bdln x.2 h.2⟩,fun x h=>⟨Wt.wtln x.1 (by omega),Wt.wtln x.2 (by omega)⟩⟩
theorem XZ {α : Type} [Dat α] [Wt α] (l : List α) : Wt.wt l = l.length + (l.map Wt.wt).sum:=rfl
theorem wt_mem {α : Type} [Dat α] [Wt α] {l : List α} {x : α} (h : x ∈ l) : Wt.wt x ≤ (l.map Wt.wt).sum:=TM h
theorem QL {α : Type} [Dat α] [Wt α] {l : List α} {x : α} (h : x ∈ l) : Wt.wt x ≤ Wt.wt l:=by
 have:=wt_mem h; rw [XZ]; omega
theorem Tm {α : Type} [Dat α] [Wt α] (l : List α) : l.length ≤ Wt.wt l:=by rw [XZ]; omega
theorem Wf {α : Type} [Dat α] [Wt α] {l : List α} (h : Wt.ln l) : l.length ≤ 9223372036854775807:=h.1
theorem Ub {α : Type} [Dat α] [Wt α] {l : List α} {x : α} (h : Wt.ln l) (hx : x ∈ l) : Wt.ln x:=h.2 x hx

theorem Uu {α β : Type} (p0 : List α) (c : α → Option β) (g : α → β) (by_ : Nat) (z : β) (L : List β × Int → Option (Fl (List β × Int) (List β)))
  (hL : ∀ s,L s = if (decide (s.2 < (p0.length : Int))) = true then ((idx p0 s.2).bind fun x=>(c x).bind fun r=>(idx s.1 s.2).bind fun _=>some (Fl.nx ((s.1.set (s.2).toNat r),wr (s.2 + 1)))) else (some (Fl.ex s.1)))
  (hc : ∀ x ∈ p0,c x = some (g x)) (hl : p0.length * by_ ≤ 140737488355328) (hl' : p0.length < 9223372036854775807) :
  ((mkS by_ z (p0.length : Int)).bind fun l1=>(Zz L (l1,0) : Option (List β)).bind fun j=>some j) = some (p0.map g):=by
 have hm : mkS by_ z (p0.length : Int) = some (List.replicate p0.length z):=by
  have h3 : ((p0.length * by_ : Nat) : Int) ≤ ((140737488355328 : Nat) : Int):=Int.ofNat_le.2 hl
  rw [Int.natCast_mul] at h3
  unfold mkS
  rw [if_pos ⟨by omega,h3⟩,Int.toNat_natCast]
 rw [hm]
 simp only [Option.bind_some]
 have hrun:=Xq (f:=L) (fun i : Nat=>((p0.take i).map g ++ List.replicate (p0.length - i) z,(i : Int))) 0 p0.length (Nat.zero_le _) (t:=p0.map g) (fun i _ hi=>by
  rw [hL]
  simp only [Int.ofNat_lt,hi,decide_true,if_true,VL hi,Option.bind_some,hc _ (List.getElem_mem hi)]
  rw [VL (by simp; omega)]
  simp only [Option.bind_some,Y7 (show i < 9223372036854775807 by omega),Int.toNat_natCast]
  congr 3
  rw [List.set_append_right _ _ (by simp; omega)]
  have e1 : p0.length - i = (p0.length - (i + 1)) + 1:=by omega
  have e2 : i - ((p0.take i).map g).length = 0:=by simp; omega
  rw [e1,List.replicate_succ,e2,List.set_cons_zero]
  rw [List.take_succ_eq_append_getElem hi,List.map_append,List.append_assoc]
  rfl) (by
  rw [hL]
  simp)
 simp at hrun
 simp [hrun]

theorem UF {α : Type} (p0 : List α) (ne : α → α → Option Bool) (L : Int → Option (Fl Int (Fl Unit Bool)))
  (hL : ∀ s,L s = if (decide (s < (p0.length : Int))) = true then (((idx p0 s).bind fun x=>(idx p0 s).bind fun y=>ne x y : Option Bool).bind fun j=>if j = true then (some (Fl.ex (Fl.ex false))) else (some (Fl.nx (wr (s + 1))))) else (some (Fl.ex (Fl.nx ()))))
  (hn : ∀ x ∈ p0,ne x x = some false) (hl : p0.length ≤ 9223372036854775807) :
  (if ((p0.length : Int) != (p0.length : Int)) = true then (some false) else ((Zz L 0 : Option (Fl Unit Bool)).bind fun j2=>j2.el (fun _=>some true) (fun r=>some r))) = some true:=by
 have:=Xq (f:=L) (fun i : Nat=>(i : Int)) 0 p0.length (Nat.zero_le _) (t:=.nx ()) (fun i _ hi=>by
  rw [hL]
  simp only [Int.ofNat_lt,hi,decide_true,if_true,VL hi,Option.bind_some,hn _ (List.getElem_mem hi)]
  simp [Y7 (show i < 9223372036854775807 by omega)]) (by
  rw [hL]; simp)
 have h2 : Zz L 0 = some (.nx ()):=this
 simp [h2,Fl.el]

def Vd {α : Type} [Dat α] [Wt α] (f : α → Int → Option Int) (x : α) : Prop:=∀ left : Int,0 ≤ left → left ≤ 1048576 → ∃ r,f x left = some r ∧ r ≤ 1048576 ∧ (0 ≤ r → r + Wt.wt x ≤ left)
theorem Tb {α : Type} [Dat α] [Wt α] {l : List α} (h0 : ∀ x : α,Wt.wt x = 0) (f : List α → Int → Option Int)
  (hf : ∀ left,f l left = if (decide ((wr (left - (l.length : Int))) < 0)) = true then (some (-1)) else (some (wr (left - (l.length : Int))))) (hl : l.length ≤ 9223372036854775807) : Vd f l:=by
 intro left h1 h2
 have hs : (l.map Wt.wt).sum = 0:=by
  clear hf hl
  induction l with
  | nil=>rfl
  | cons x l ih=>rw [List.map_cons,List.sum_cons,h0,ih]
 have hw : Wt.wt l = l.length:=by rw [XZ,hs]; rfl
 rw [hf,XO (by omega),hw]
 by_cases h : left - (l.length : Int) < 0
 ·exact ⟨-1,by simp [h],by omega,by omega⟩
 ·exact ⟨left - l.length,by simp [h],by omega,by omega⟩
theorem Tk {α : Type} [Dat α] [Wt α] {p0 : List α} (f : List α → Int → Option Int) (c : α → Int → Option Int) (L : Int × Int → Option (Fl (Int × Int) (Fl Int Int)))
  (hL : ∀ s,L s = if (decide (s.2 < (p0.length : Int))) = true then ((idx p0 s.2).bind fun x=>(c x s.1).bind fun r=>if (decide (r < 0)) = true then (some (Fl.ex (Fl.ex (-1)))) else (some (Fl.nx (r,wr (s.2 + 1))))) else (some (Fl.ex (Fl.nx s.1))))
  (hf : ∀ left,f p0 left = if (decide ((wr (left - (p0.length : Int))) < 0)) = true then (some (-1)) else ((Zz L (wr (left - (p0.length : Int)),0) : Option (Fl Int Int)).bind fun j2=>j2.el (fun s=>some s) (fun r=>some r)))
  (hl : p0.length ≤ 9223372036854775807) (hc : ∀ x ∈ p0,Vd c x) : Vd f p0:=by
 intro left h1 h2
 rw [hf,XO (by omega)]
 by_cases h : left - (p0.length : Int) < 0
 ·exact ⟨-1,by simp [h],by omega,by omega⟩
 simp only [h,decide_false,Bool.false_eq_true,if_false]
 have key : ∀ (k m : Nat) (a : Int),m + k = p0.length → 0 ≤ a → a ≤ 1048576 → ∃ o : Fl Int Int,Zz L (a,(m : Int)) = some o ∧ ((o = .ex (-1)) ∨ ∃ r,o = .nx r ∧ 0 ≤ r ∧ r + (((p0.drop m).map Wt.wt).sum : Nat) ≤ a):=by
  intro k
  induction k with
  | zero =>
   intro m a hm h0 h3
   have : m = p0.length:=by omega
   subst this
   refine ⟨.nx a,?_,.inr ⟨a,rfl,h0,?_⟩⟩
   ·rw [YB (t:=.nx a)]; rw [hL]; simp
   ·simp
  | succ k ih =>
   intro m a hm h0 h3
   have hi : m < p0.length:=by omega
   obtain ⟨r,e1,e2,e3⟩:=hc _ (List.getElem_mem hi) a h0 h3
   have hst : L (a,(m : Int)) = (if (decide (r < 0)) = true then (some (Fl.ex (Fl.ex (-1)))) else (some (Fl.nx (r,((m + 1 : Nat) : Int))))):=by
    rw [hL]
    simp only [Int.ofNat_lt,hi,decide_true,if_true,VL hi,Option.bind_some,e1,Y7 (show m < 9223372036854775807 by omega)]
   by_cases hr : r < 0
   ·simp only [hr,decide_true,if_true] at hst
    exact ⟨_,YB hst,.inl rfl⟩
   ·simp only [hr,decide_false,Bool.false_eq_true,if_false] at hst
    obtain ⟨o,k1,k2⟩:=ih (m + 1) r (by omega) (by omega) e2
    refine ⟨o,by rw [YN hst]; exact k1,k2.imp id ?_⟩
    rintro ⟨q,rfl,q1,q2⟩
    refine ⟨q,rfl,q1,?_⟩
    have e3:=e3 (by omega)
    rw [List.drop_eq_getElem_cons hi,List.map_cons,List.sum_cons]
    omega
 obtain ⟨o,k1,k2⟩:=key p0.length 0 (left - p0.length) (by omega) (by omega) (by omega)
 have k1' : Zz L (left - (p0.length : Int),0) = some o:=k1
 rw [k1']
 rcases k2 with rfl | ⟨r,rfl,q1,q2⟩
 ·exact ⟨-1,rfl,by omega,by omega⟩
 ·refine ⟨r,rfl,by omega,fun _=>?_⟩
  rw [List.drop_zero] at q2
  rw [XZ]; omega
@[simp] theorem Z5 {α : Type} (l : List α) (i : Nat) : idx l (i : Int) = l[i]?:=by unfold idx; simp
@[simp] theorem idx_zero {α : Type} (l : List α) : idx l (0 : Int) = l[0]?:=Z5 l 0
theorem U0 {T : Type} {f : Int → Option (Fl Int (Fl Unit T))} (n : Nat) (p : Nat → Bool) (t : Nat → T) (hn : n < 9223372036854775807)
  (h : ∀ i,i < n → f (i : Int) = some (if p i then .ex (.ex (t i)) else .nx (wr ((i : Int) + 1)))) (he : f (n : Int) = some (.ex (.nx ()))) (m : Nat) (hm : m ≤ n) :
  Zz f (m : Int) = some (match (List.range' m (n - m)).find? p with | some i=>.ex (t i) | none=>.nx ()):=by
 rw [Vk (fun i : Nat=>(i : Int)) p (fun i=>.ex (t i)) n (n - m) m (by omega) (fun i _ hi=>by rw [h i hi,Y7 (by omega)]) he]
 cases (List.range' m (n - m)).find? p <;> rfl
theorem VX {T : Type} {f : Int → Option (Fl Int (Fl Unit T))} (n : Nat) (p : Nat → Bool) (t : T) (hn : n < 9223372036854775807)
  (h : ∀ i,i < n → f (i : Int) = some (if p i then .ex (.ex t) else .nx (wr ((i : Int) + 1)))) (he : f (n : Int) = some (.ex (.nx ()))) (m : Nat) (hm : m ≤ n) :
  Zz f (m : Int) = some (if (List.range' m (n - m)).any p then .ex t else .nx ()) :=
 VV p hm (fun i _ hi=>by rw [h i hi,Y7 (by omega)]) he
theorem Vj {T : Type} {f : Int → Option (Fl Int (Fl Unit T))} (n : Nat) (p : Nat → Bool) (t : T) (hn : n < 9223372036854775807) (m : Nat) (hm : m ≤ n)
  (h : ∀ i,m ≤ i → i < n → f (i : Int) = some (if p i then .ex (.ex t) else .nx (wr ((i : Int) + 1)))) (he : f (n : Int) = some (.ex (.nx ()))) :
  Zz f (m : Int) = some (if (List.range' m (n - m)).any p then .ex t else .nx ()) :=
 VV p hm (fun i hmi hi=>by rw [h i hmi hi,Y7 (by omega)]) he
theorem WV {α : Type} {by_ : Nat} {l m : List α} (h : (l.length + m.length) * by_ ≤ 140737488355328) : app by_ l m = some (l ++ m):=by unfold app; rw [if_pos h]
theorem slc_ok {α : Type} {l : List α} {i j : Nat} (h : i ≤ j) (h2 : j ≤ l.length) : slc l (i : Int) (j : Int) = some ((l.take j).drop i):=by
 unfold slc; rw [if_pos (by omega)]; simp

@[simp] theorem vidx_cast {α : Type} {n : Nat} (v : Vector α n) (i : Nat) : vidx v (i : Int) = v[i]?:=by unfold vidx; simp
theorem wr_k {k : Int} (h : 0 ≤ k) (h2 : k < 9223372036854775807) : wr (k + 1) = k + 1:=XO (by omega)
def Tl {α : Type} (Fm : α → Int → Option (α × Int)) (Fh : α → Int → Option Int) (x : α) (n : Nat) : Prop :=
 ∀ k : Int,0 ≤ k → k + n ≤ 4611686018427387904 → ∃ x',Fm x k = some (x',k + n) ∧ Fh x' k = some (k + n)
theorem Um {α : Type} (Fm : List α → Int → Option (List α × Int)) (Fh : List α → Int → Option Int) (Lm : List α × Int × Int → Option (Fl (List α × Int × Int) (List α × Int))) (Lh : List α → Int × Int → Option (Fl (Int × Int) (Fl Int Int))) (mk : α → Nat)
  (hFm : ∀ l k,Fm l k = (Zz Lm (l,k,0) : Option (List α × Int)).bind fun j1=>some (j1.1,j1.2)) (hFh : ∀ l k,Fh l k = (Zz (Lh l) (k,0) : Option (Fl Int Int)).bind fun j1=>j1.el (fun s=>some s) (fun r=>some r))
  (l : List α) (hl : l.length ≤ 9223372036854775807)
  (hm : ∀ (l' : List α) (i : Nat) (k : Int) (hi : i < l'.length),l'[i] ∈ l → i < 9223372036854775807 → 0 ≤ k → k + mk l'[i] ≤ 4611686018427387904 → ∃ x',Lm (l',k,(i : Int)) = some (.nx (l'.set i x',k + mk l'[i],wr ((i : Int) + 1))) ∧
   ∀ (m : List α),m[i]? = some x' → Lh m (k,(i : Int)) = some (.nx (k + mk l'[i],wr ((i : Int) + 1))))
  (hme : ∀ (l' : List α) k,Lm (l',k,(l'.length : Int)) = some (.ex (l',k))) (hhe : ∀ (m : List α) k,Lh m (k,(m.length : Int)) = some (.ex (.nx k))) : Tl Fm Fh l (l.map mk).sum:=by
 have aux : ∀ (n i : Nat) (l' : List α) (k : Int),i + n = l'.length → l'.length = l.length → l'.drop i = l.drop i → 0 ≤ k → k + (((l.drop i).map mk).sum : Nat) ≤ 4611686018427387904 →
   ∃ l'',Zz Lm (l',k,(i : Int)) = some (l'',k + (((l.drop i).map mk).sum : Nat)) ∧ l''.length = l'.length ∧ (∀ j,j < i → l''[j]? = l'[j]?) ∧ Zz (Lh l'') (k,(i : Int)) = some (.nx (k + (((l.drop i).map mk).sum : Nat))):=by
  intro n
  induction n with
  | zero =>
   intro i l' k hi hll hd h0 hk
   have hi : i = l'.length:=by omega
   subst hi
   have e : l.drop l'.length = []:=by rw [hll]; simp
   rw [e]
   refine ⟨l',?_,rfl,fun _ _=>rfl,?_⟩
   ·rw [YB (hme l' k)]; simp
   ·rw [YB (hhe l' k)]; simp
  | succ n ih =>
   intro i l' k hi hll hd h0 hk
   have hil : i < l'.length:=by omega
   have hil2 : i < l.length:=by omega
   have e1 : l'[i] = l[i]:=by
    have h1:=List.drop_eq_getElem_cons hil
    have h2:=List.drop_eq_getElem_cons hil2
    rw [h1,h2] at hd
    exact (List.cons.inj hd).1
   have e2 : l.drop i = l[i] :: l.drop (i + 1):=List.drop_eq_getElem_cons hil2
   rw [e2,List.map_cons,List.sum_cons] at hk ⊢
   obtain ⟨x',h1,h2⟩:=hm l' i k hil (by rw [e1]; exact List.getElem_mem hil2) (by omega) h0 (by rw [e1]; omega)
   rw [e1] at h1 h2
   rw [Y7 (by omega)] at h1 h2
   obtain ⟨l'',k1,k2,k3,k4⟩:=ih (i + 1) (l'.set i x') (k + mk l[i]) (by simp; omega) (by simpa using hll) (by
    rw [List.drop_set_of_lt (by omega)]
    have h1:=List.drop_eq_getElem_cons hil
    rw [h1,e2] at hd
    exact (List.cons.inj hd).2) (by omega) (by omega)
   refine ⟨l'',?_,by simpa using k2,fun j hj=>?_,?_⟩
   ·rw [YN h1,k1]; congr 2; omega
   ·rw [k3 j (by omega),List.getElem?_set_ne (by omega)]
   ·rw [YN (h2 l'' (by rw [k3 i (by omega)]; simp [hil])),k4]; congr 2; omega
 intro k h0 hk
 obtain ⟨l'',k1,k2,k3,k4⟩:=aux l.length 0 l k (by omega) rfl rfl h0 (by simpa using hk)
 simp only [List.drop_zero] at k1 k4
 refine ⟨l'',?_,?_⟩
 ·rw [hFm]
  have : Zz Lm (l,k,0) = _:=k1
  rw [this]; rfl
 ·rw [hFh]
  have : Zz (Lh l'') (k,0) = _:=k4
  rw [this]; rfl
theorem TW {α : Type} [Dat α] [Wt α] (mk : α → Nat) (c : Nat) (h : ∀ x,mk x ≤ c * (1 + Wt.wt x)) (l : List α) : (l.map mk).sum ≤ c * Wt.wt l:=by
 rw [XZ]
 induction l with
 | nil=>simp
 | cons x l ih =>
  have:=h x
  simp only [List.map_cons,List.sum_cons,List.length_cons]
  have e : c * (l.length + 1 + (Wt.wt x + (l.map Wt.wt).sum)) = c * (1 + Wt.wt x) + c * (l.length + (l.map Wt.wt).sum):=by
   rw [← Nat.mul_add]; congr 1; omega
  omega
theorem Ws (l : List UInt8) : Wt.wt l = l.length:=by
 rw [XZ]
 have : (l.map Wt.wt).sum = 0:=by
  induction l with
  | nil=>rfl
  | cons x l ih=>rw [List.map_cons,List.sum_cons,ih]; rfl
 omega
theorem Vf (l : List UInt8) (h : Wt.wt l ≤ 1048576) : ZA l = some l:=by
 have:=Tm l
 unfold ZA
 have:=Uu l (fun x=>some x) id 1 0 (Xj l) (fun s=>by unfold Xj; rfl) (fun _ _=>rfl) (by omega) (by omega)
 simpa using this
theorem WD (l : List UInt8) (h : Wt.ln l) : ZR l l = some true:=by
 unfold ZR
 exact UF l (fun x y=>some (x != y)) (Xi l l) (fun s=>by unfold Xi; rfl) (fun x _=>by simp) (Wf h)
theorem T2 (l : List UInt8) (h : Wt.ln l) : Vd Yk l :=
 Tb (fun _=>rfl) Yk (fun left=>by unfold Yk; rfl) (Wf h)
theorem U7 (l : List UInt8) (h : Wt.ln l) : Tl ZD YH l (l.map fun _=>1).sum :=
 Um ZD YH ZJ YC (fun _=>1) (fun _ _=>rfl) (fun _ _=>rfl) l (Wf h) (fun l' i k hi _ _ h0 hk=>by
  have e:=wr_k (k:=k) h0 (by omega)
  refine ⟨YL k,?_,fun m hm=>?_⟩
  ·unfold ZJ
   simp only [Int.ofNat_lt,hi,decide_true,if_true,Z5,List.getElem?_eq_getElem hi,Option.bind_some,Int.toNat_natCast,e]; rfl
  ·have hi':=(List.getElem?_eq_some_iff.1 hm).1
   unfold YC
   simp only [Int.ofNat_lt,hi',decide_true,if_true,Z5,hm,Option.bind_some,bne_self_eq_false,Bool.false_eq_true,if_false,e]; rfl) (fun l' k=>by unfold ZJ; simp) (fun m k=>by unfold YC; simp)
theorem Ta (l : List (List UInt8)) (h : Wt.wt l ≤ 1048576) : ZW l = some l:=by
 have:=Tm l
 unfold ZW
 have:=Uu l ZA id 24 [] (Xa l) (fun s=>by unfold Xa; rfl) (fun x hx=>Vf x (Nat.le_trans (QL hx) h)) (by omega) (by omega)
 simpa using this
theorem Tc (l : List (List UInt8)) (h : Wt.ln l) : YP l l = some true:=by
 unfold YP
 exact UF l (fun x y=>(ZR x y).bind fun r=>some (!r)) (Xd l l) (fun s=>by unfold Xd; rfl) (fun x hx=>by simp [WD x (Ub h hx)]) (Wf h)
theorem Tr (l : List (List UInt8)) (h : Wt.ln l) : Vd Yt l :=
 Tk Yt Yk (Y9 l) (fun s=>by unfold Y9; rfl) (fun left=>by unfold Yt; rfl) (Wf h) (fun x hx=>T2 x (Ub h hx))
instance : Wt GShare:=⟨fun x=>Wt.wt x.Data,fun x=>Wt.ln x.Data,fun x h=>Wt.bdln x.Data h.2,fun x h=>Wt.wtln x.Data h⟩
theorem T0 (x : GShare) (h : Wt.ln x) : YJ x x = some true:=by
 unfold YJ
 simp [WD x.Data h]
theorem Tp (l : List GShare) (h : Wt.ln l) : Z8 l l = some true:=by
 unfold Z8
 exact UF l (fun x y=>(YJ x y).bind fun r=>some (!r)) (Xb l l) (fun s=>by unfold Xb; rfl) (fun x hx=>by simp [T0 x (Ub h hx)]) (Wf h)
def XG (x : GShare) : Nat:=1 + (x.Data.map fun _=>1).sum
theorem UH (l : List GShare) (h : Wt.ln l) : Tl YA Z7 l (l.map XG).sum :=
 Um YA Z7 Yh Ym XG (fun _ _=>rfl) (fun _ _=>rfl) l (Wf h) (fun l' i k hi hx hib h0 hk=>by
  have hk' : k + 1 + ((l'[i].Data.map fun _=>1).sum : Nat) ≤ 4611686018427387904:=by unfold XG at hk; omega
  have e:=wr_k (k:=k) h0 (by omega)
  obtain ⟨d',d1,d2⟩:=U7 l'[i].Data (Ub h hx : Wt.ln l'[i]) (k + 1) (by omega) hk'
  have e2 : k + ((XG l'[i] : Nat) : Int) = k + 1 + ((l'[i].Data.map fun _=>1).sum : Nat):=by unfold XG; omega
  rw [e2]
  refine ⟨⟨YL k,d'⟩,?_,fun m hm=>?_⟩
  ·unfold Yh
   have hi2 : i < (l'.set i (⟨YL k,l'[i].Data⟩ : GShare)).length:=by simpa using hi
   simp only [Int.ofNat_lt,hi,decide_true,if_true,Z5,List.getElem?_eq_getElem hi,List.getElem?_eq_getElem hi2,Option.bind_some,Int.toNat_natCast,List.getElem_set_self,e,d1,List.set_set]
  ·have hi':=(List.getElem?_eq_some_iff.1 hm).1
   have e3 : ¬ (k + 1 + ((l'[i].Data.map fun _=>1).sum : Nat) < 0):=by omega
   unfold Ym
   simp only [Int.ofNat_lt,hi',decide_true,if_true,Z5,hm,Option.bind_some,bne_self_eq_false,Bool.false_eq_true,if_false,e,d2,e3,decide_false]) (fun l' k=>by unfold Yh; simp) (fun m k=>by unfold Ym; simp)
def U9 {α : Type} (Fm : α → Int → Option (α × Int)) (x : α) (n : Nat) : Prop :=
 ∀ k : Int,0 ≤ k → k + n ≤ 4611686018427387904 → ∃ x',Fm x k = some (x',k + n)
theorem TG {α : Type} (Fm : List α → Int → Option (List α × Int)) (Lm : List α × Int × Int → Option (Fl (List α × Int × Int) (List α × Int))) (mk : α → Nat)
  (hFm : ∀ l k,Fm l k = (Zz Lm (l,k,0) : Option (List α × Int)).bind fun j1=>some (j1.1,j1.2)) (l : List α) (hl : l.length ≤ 9223372036854775807)
  (hm : ∀ (l' : List α) (i : Nat) (k : Int) (hi : i < l'.length),l'[i] ∈ l → i < 9223372036854775807 → 0 ≤ k → k + mk l'[i] ≤ 4611686018427387904 → ∃ x',Lm (l',k,(i : Int)) = some (.nx (l'.set i x',k + mk l'[i],wr ((i : Int) + 1))))
  (hme : ∀ (l' : List α) k,Lm (l',k,(l'.length : Int)) = some (.ex (l',k))) : U9 Fm l (l.map mk).sum:=by
 intro k h0 hk
 have aux : ∀ (n i : Nat) (l' : List α) (k : Int),i + n = l'.length → l'.length = l.length → l'.drop i = l.drop i → 0 ≤ k → k + (((l.drop i).map mk).sum : Nat) ≤ 4611686018427387904 →
   ∃ l'',Zz Lm (l',k,(i : Int)) = some (l'',k + (((l.drop i).map mk).sum : Nat)):=by
  intro n
  induction n with
  | zero =>
   intro i l' k hi hll hd h0 hk
   have hi : i = l'.length:=by omega
   subst hi
   have e : l.drop l'.length = []:=by rw [hll]; simp
   rw [e]
   exact ⟨l',by rw [YB (hme l' k)]; simp⟩
  | succ n ih =>
   intro i l' k hi hll hd h0 hk
   have hil : i < l'.length:=by omega
   have hil2 : i < l.length:=by omega
   have h1:=List.drop_eq_getElem_cons hil
   have e2 : l.drop i = l[i] :: l.drop (i + 1):=List.drop_eq_getElem_cons hil2
   rw [h1,e2] at hd
   have e1:=(List.cons.inj hd).1
   rw [e2,List.map_cons,List.sum_cons] at hk ⊢
   obtain ⟨x',h1⟩:=hm l' i k hil (by rw [e1]; exact List.getElem_mem hil2) (by omega) h0 (by rw [e1]; omega)
   rw [e1,Y7 (by omega)] at h1
   obtain ⟨l'',k1⟩:=ih (i + 1) (l'.set i x') (k + mk l[i]) (by simp; omega) (by simpa using hll) (by
    rw [List.drop_set_of_lt (by omega)]
    exact (List.cons.inj hd).2) (by omega) (by omega)
   exact ⟨l'',by rw [YN h1,k1]; congr 2; omega⟩
 obtain ⟨l'',k1⟩:=aux l.length 0 l k (by omega) rfl rfl h0 (by simpa using hk)
 simp only [List.drop_zero] at k1
 refine ⟨l'',?_⟩
 rw [hFm]
 have : Zz Lm (l,k,0) = _:=k1
 rw [this]; rfl
theorem Wn (l : List UInt8) (h : Wt.ln l) : U9 ZD l (l.map fun _=>1).sum :=
 TG ZD ZJ (fun _=>1) (fun _ _=>rfl) l (Wf h) (fun l' i k hi _ _ h0 hk=>by
  have e:=wr_k (k:=k) h0 (by omega)
  refine ⟨YL k,?_⟩
  unfold ZJ
  simp only [Int.ofNat_lt,hi,decide_true,if_true,Z5,List.getElem?_eq_getElem hi,Option.bind_some,Int.toNat_natCast,e]; rfl) (fun l' k=>by unfold ZJ; simp)
theorem VJ (l : List UInt8) : (l.map fun _=>1).sum = l.length:=by
 induction l with
 | nil=>rfl
 | cons x l ih=>rw [List.map_cons,List.sum_cons,ih,List.length_cons]; omega
theorem Ur (n a b : Int) : YG n a b = some (decide (a ≤ n ∧ n ≤ b)):=by
 unfold YG
 by_cases h1 : a ≤ n <;> by_cases h2 : n ≤ b <;> simp [h1,h2]
theorem QD (n a b : Int) : Xv n a b = some (decide (a ≤ n ∧ n ≤ b)):=by
 unfold Xv
 by_cases h1 : a ≤ n <;> by_cases h2 : n ≤ b <;> simp [h1,h2]
theorem QK {α : Type} (l : List α) (p : α → Option Bool) (q : α → Bool) (L : Int → Option (Fl Int (Fl Unit Int)))
  (hL : ∀ s,L s = if (decide (s < (l.length : Int))) = true then ((idx l s).bind fun x=>((p x)).bind fun r=>if r = true then (some (Fl.ex (Fl.ex s))) else (some (Fl.nx (wr (s + 1))))) else (some (Fl.ex (Fl.nx ()))))
  (hl : l.length < 9223372036854775807) (hp : ∀ x ∈ l,p x = some (q x)) :
  ((Zz L 0 : Option (Fl Unit Int)).bind fun j1=>j1.el (fun _=>some (-1)) (fun r=>some r)) = some (match l.findIdx? q with | some i=>(i : Int) | none=>-1):=by
 have h:=U0 (f:=L) l.length (fun i=>(l[i]?.map q).getD false) (fun i=>(i : Int)) hl (fun i hi=>by
  rw [hL]
  simp only [Int.ofNat_lt,hi,decide_true,if_true,Z5,List.getElem?_eq_getElem hi,Option.bind_some,Option.map_some,Option.getD_some,hp _ (List.getElem_mem hi)]
  split <;> rfl) (by rw [hL]; simp) 0 (Nat.zero_le _)
 have h3 : Zz L 0 = _:=h
 rw [h3]
 have key : (List.range' 0 (l.length - 0)).find? (fun i=>(l[i]?.map q).getD false) = l.findIdx? q:=by
  rw [Nat.sub_zero,← List.range_eq_range']
  clear h h3 hL hp hl
  induction l with
  | nil=>rfl
  | cons x l ih =>
   rw [List.length_cons,List.range_succ_eq_map,List.find?_cons,List.findIdx?_cons]
   simp only [List.getElem?_cons_zero,Option.map_some,Option.getD_some]
   cases q x with
   | true=>rfl
   | false =>
    simp only [Bool.false_eq_true,if_false]
    rw [List.find?_map,← ih]
    congr 1
 rw [key]
 cases l.findIdx? q <;> rfl
theorem has_of {α : Type} (l : List α) (q : α → Bool) : decide ((match l.findIdx? q with | some i=>(i : Int) | none=>-1) ≥ 0) = l.any q:=by
 rw [Bool.eq_iff_iff,decide_eq_true_eq]
 cases h : l.findIdx? q with
 | none =>
  have:=List.findIdx?_eq_none_iff.1 h
  simp
  exact this
 | some i =>
  have h2:=List.findIdx?_eq_some_iff_getElem.1 h
  obtain ⟨hi,hq,_⟩:=h2
  simp
  exact ⟨_,List.getElem_mem hi,hq⟩
theorem Qy {α : Type} [Dat α] [Wt α] {f : α → Int → Option Int} {x : α} {left : Int} {G : Int → Option Bool} (hf : Vd f x) (h1 : 0 ≤ left) (h2 : left ≤ 1048576) (hG : ∀ r,0 ≤ r → r ≤ 1048576 → r + (Wt.wt x : Nat) ≤ left → G r = some true) :
  ((f x left).bind fun r=>if decide (r < 0) = true then some true else G r) = some true:=by
 obtain ⟨r,e1,e2,e3⟩:=hf left h1 h2
 rw [e1]
 by_cases hr : r < 0
 ·simp [hr]
 ·have:=hG r (by omega) e2 (e3 (by omega))
  simp [hr,this]
theorem UN (a : Nat) (h : a < 9223372036854775808) : (BitVec.ofInt 64 (a : Int)).toNat = a:=by
 rw [BitVec.toNat_ofInt]
 omega
theorem Wy (a b : Nat) (ha : a < 9223372036854775808) (hb : b < 9223372036854775808) : Vb (a : Int) (b : Int) = ((a ^^^ b : Nat) : Int):=by
 unfold Vb
 rw [BitVec.toNat_xor,UN a ha,UN b hb]
 have : a ^^^ b < 2 ^ 63:=Nat.xor_lt_two_pow ha hb
 exact XO (by omega)
theorem Qk (a b : Nat) (ha : a < 9223372036854775808) (hb : b < 9223372036854775808) : andI (a : Int) (b : Int) = ((a &&& b : Nat) : Int):=by
 unfold andI
 rw [BitVec.toNat_and,UN a ha,UN b hb]
 have : a &&& b < 2 ^ 63:=Nat.and_lt_two_pow _ hb
 exact XO (by omega)
theorem Wv (a i : Nat) (hi : i ≤ 63) (h : a <<< i < 9223372036854775808) : Wq (a : Int) (i : Int) = ((a <<< i : Nat) : Int):=by
 unfold Wq
 rw [show min ((i : Int)).toNat 64 = i by omega]
 have : ((a : Int) * 2 ^ i) = ((a <<< i : Nat) : Int):=by rw [Nat.shiftLeft_eq]; simp
 rw [this]
 generalize a <<< i = x at h ⊢
 exact XO (by omega)
theorem Qo (a i : Nat) (hi : i ≤ 63) : Th (a : Int) (i : Int) = ((a >>> i : Nat) : Int):=by
 unfold Th
 rw [show min ((i : Int)).toNat 64 = i by omega,Nat.shiftRight_eq_div_pow,Int.fdiv_eq_ediv_of_nonneg _ (by exact_mod_cast Nat.zero_le _)]
 simp
theorem UB (a i : Nat) : ((a >>> i) &&& 1 = 1) ↔ a.testBit i = true:=by
 rw [Nat.testBit,Nat.and_comm]
 have h:=Nat.and_one_is_mod (a >>> i)
 rw [Nat.and_comm] at h
 rw [h]
 rcases Nat.mod_two_eq_zero_or_one (a >>> i) with h | h <;> simp [h]
theorem tmod2 (a : Nat) : Int.tmod (a : Int) 2 = ((a % 2 : Nat) : Int):=by
 rw [Int.tmod_eq_emod_of_nonneg (by omega)]; simp
theorem tdiv2 (a : Nat) : Int.tdiv (a : Int) 2 = ((a / 2 : Nat) : Int):=by
 rw [Int.tdiv_eq_ediv_of_nonneg (by omega)]; simp
theorem TD (a : Nat) (h : a < 9223372036854775808) : wr (a : Int) = (a : Int):=XO (by omega)
theorem wru_nn (a : Nat) (h : a < 9223372036854775808) : IntKind.u64.wrap (a : Int) = (a : Int):=by
 simp only [IntKind.wrap,IntKind.bits,IntKind.signed]
 simp
 omega

def ZF (m deg : Nat) : Nat → Nat → Nat
 | 0,a=>a
 | k + 1,a=>ZF m deg k (if a.testBit (deg + k) then a ^^^ (m <<< k) else a)
theorem WT {m k n : Nat} (h : m < 2 ^ n) : m <<< k < 2 ^ (n + k):=by
 rw [Nat.shiftLeft_eq,Nat.pow_add]
 exact Nat.mul_lt_mul_of_pos_right h (Nat.two_pow_pos _)
theorem Vi {a n : Nat} (h : a < 2 ^ (n + 1)) (hb : a.testBit n = false) : a < 2 ^ n:=by
 apply Nat.lt_pow_two_of_testBit
 intro i hi
 rcases Nat.eq_or_lt_of_le hi with rfl | hi
 ·exact hb
 ·exact Nat.testBit_lt_two_pow (Nat.lt_of_lt_of_le h (Nat.pow_le_pow_right (by omega) hi))
theorem TI {m d : Nat} (h1 : 2 ^ d ≤ m) (h2 : m < 2 ^ (d + 1)) : m.testBit d = true:=by
 rw [Nat.testBit,Nat.shiftRight_eq_div_pow]
 have : m / 2 ^ d = 1:=by
  apply Nat.div_eq_of_lt_le
  ·simpa using h1
  ·rw [Nat.pow_succ] at h2; omega
 rw [this]; rfl
theorem TH {m d k a : Nat} (h1 : 2 ^ d ≤ m) (h2 : m < 2 ^ (d + 1)) (ha : a < 2 ^ (d + (k + 1))) (hb : a.testBit (d + k) = true) : a ^^^ (m <<< k) < 2 ^ (d + k):=by
 have hm : m <<< k < 2 ^ (d + (k + 1)):=by have:=WT (k:=k) h2; rwa [show d + 1 + k = d + (k + 1) by omega] at this
 refine Vi (Nat.xor_lt_two_pow (by rwa [show d + k + 1 = d + (k + 1) by omega]) (by rwa [show d + k + 1 = d + (k + 1) by omega])) ?_
 rw [Nat.testBit_xor,hb,Nat.testBit_shiftLeft]
 simp [TI h1 h2]
theorem VS {m d : Nat} (h1 : 2 ^ d ≤ m) (h2 : m < 2 ^ (d + 1)) : ∀ (k a : Nat),a < 2 ^ (d + k) → ZF m d k a < 2 ^ d
 | 0,a,h=>by simpa [ZF] using h
 | k + 1,a,h=>by
  unfold ZF
  cases hb : a.testBit (d + k) with
  | true=>simp only [if_true]; exact VS h1 h2 k _ (TH h1 h2 h hb)
  | false=>simp only [Bool.false_eq_true,if_false]; exact VS h1 h2 k a (Vi h hb)
theorem X6 (m d : Nat) : ∀ (k a b : Nat),ZF m d k (a ^^^ b) = ZF m d k a ^^^ ZF m d k b
 | 0,_,_=>rfl
 | k + 1,a,b=>by
  simp only [ZF]
  rw [Nat.testBit_xor]
  cases a.testBit (d + k) <;> cases b.testBit (d + k) <;> simp only [Bool.xor_false,Bool.false_xor,Bool.xor_self,Bool.xor_true,Bool.not_false,Bool.not_true,Bool.false_eq_true,if_true,if_false]
  ·exact X6 m d k a b
  ·rw [Nat.xor_assoc]; exact X6 m d k a _
  ·rw [← X6 m d k]; congr 1; rw [Nat.xor_assoc,Nat.xor_comm b,← Nat.xor_assoc]
  ·rw [← X6 m d k]; congr 1
   rw [Nat.xor_assoc,← Nat.xor_assoc (m <<< k),Nat.xor_comm (m <<< k) b,Nat.xor_assoc,Nat.xor_self,Nat.xor_zero]
theorem XK {m d : Nat} : ∀ (k a : Nat),a < 2 ^ d → ZF m d k a = a
 | 0,_,_=>rfl
 | k + 1,a,h=>by
  unfold ZF
  rw [Nat.testBit_lt_two_pow (Nat.lt_of_lt_of_le h (Nat.pow_le_pow_right (by omega) (by omega)))]
  simp only [Bool.false_eq_true,if_false]
  exact XK k a h
theorem Uv {m d k a : Nat} (h : a < 2 ^ (d + k)) : ZF m d (k + 1) a = ZF m d k a:=by
 conv=>lhs; unfold ZF
 rw [Nat.testBit_lt_two_pow h]; rfl
theorem Wo (m d : Nat) : ∀ (k x : Nat),ZF m d (k + 1) (x <<< 1) = (if ((ZF m d k x) <<< 1).testBit d then ((ZF m d k x) <<< 1) ^^^ m else (ZF m d k x) <<< 1)
 | 0,x=>by simp [ZF]
 | k + 1,x=>by
  conv=>lhs; unfold ZF
  conv=>rhs; unfold ZF
  have e : (x <<< 1).testBit (d + (k + 1)) = x.testBit (d + k):=by
   rw [Nat.testBit_shiftLeft]
   have : d + (k + 1) ≥ 1:=by omega
   simp only [this,decide_true,Bool.true_and]
   congr 1
  rw [e]
  cases x.testBit (d + k) with
  | false=>simp only [Bool.false_eq_true,if_false]; exact Wo m d k x
  | true =>
   simp only [if_true]
   have e2 : x <<< 1 ^^^ m <<< (k + 1) = (x ^^^ m <<< k) <<< 1:=by
    rw [Nat.shiftLeft_xor_distrib,← Nat.shiftLeft_add]
   rw [e2]
   exact Wo m d k _

def X4 (n : Nat) : Nat:=if n = 0 then 0 else n.log2 + 1
theorem TT (n : Nat) (h : 0 < n) : X4 n = X4 (n / 2) + 1:=by
 unfold X4
 rw [if_neg (by omega)]
 by_cases h2 : n / 2 = 0
 ·have : n = 1:=by omega
  subst this; rfl
 ·rw [if_neg h2]
  conv=>lhs; rw [Nat.log2_def]
  rw [if_pos (by omega)]
theorem VK {n p : Nat} (h1 : 2 ^ p ≤ n) (h2 : n < 2 ^ (p + 1)) : X4 n = p + 1:=by
 have h0 : n ≠ 0:=by have:=Nat.two_pow_pos p; omega
 unfold X4
 rw [if_neg h0,(Nat.log2_eq_iff h0).2 ⟨h1,h2⟩]
theorem QI {n p : Nat} (h : n < 2 ^ p) : X4 n ≤ p:=by
 unfold X4
 split
 ·omega
 ·rename_i h0
  have:=(Nat.log2_lt h0).2 h
  omega
theorem Wz (n : Nat) (h : n < 9223372036854775808) : Z0 (n : Int) = some ((X4 n : Nat) : Int):=by
 have key : ∀ (f n c : Nat),n < 2 ^ f → f ≤ 63 → c + f ≤ 1000 → Zz ZI ((n : Int),(c : Int)) = some ((c + X4 n : Nat) : Int):=by
  intro f
  induction f with
  | zero =>
   intro n c hn _ _
   have : n = 0:=by simpa using hn
   subst this
   rw [YB (t:=(c : Int))]
   ·simp [X4]
   ·unfold ZI; simp
  | succ f ih =>
   intro n c hn hf hc
   by_cases h0 : n = 0
   ·subst h0
    rw [YB (t:=(c : Int))]
    ·simp [X4]
    ·unfold ZI; simp
   ·have hp : 0 < n:=by omega
    have hlt : n < 9223372036854775808:=Nat.lt_of_lt_of_le hn (Nat.pow_le_pow_right (by omega : 0 < 2) hf)
    have hst : ZI ((n : Int),(c : Int)) = some (.nx (((n / 2 : Nat) : Int),((c + 1 : Nat) : Int))):=by
     unfold ZI
     have : (n : Int) > 0:=by omega
     simp only [this,decide_true,if_true,tdiv2]
     rw [TD _ (by omega),Y7 (by omega)]
    rw [YN hst,ih (n / 2) (c + 1) (by rw [Nat.pow_succ] at hn; omega) (by omega) (by omega),TT n hp]
    congr 2; omega
 unfold Z0
 have:=key 63 n 0 h (by omega) (by omega)
 have h2 : Zz ZI ((n : Int),0) = _:=this
 rw [h2]
 simp
theorem TU (a b d k : Nat) (hd : d ≤ 20) (hk : k ≤ 20) (h1 : 2 ^ d ≤ b) (h2 : b < 2 ^ (d + 1)) (ha : a < 2 ^ (d + k)) : Y4 (a : Int) (b : Int) = some ((ZF b d k a : Nat) : Int):=by
 have big : ∀ n,n ≤ 62 → ∀ x : Nat,x < 2 ^ n → x < 9223372036854775808:=fun n hn x hx=>Nat.lt_of_lt_of_le hx (Nat.pow_le_pow_right (by omega : 0 < 2) (by omega : n ≤ 63))
 have key : ∀ (k a : Nat),k ≤ 20 → a < 2 ^ (d + k) → Zz (Yu (b : Int) ((d + 1 : Nat) : Int)) ((a : Int),((X4 a : Nat) : Int)) = some ((ZF b d k a : Nat) : Int):=by
  intro k
  induction k with
  | zero =>
   intro a _ ha
   have hl:=QI (p:=d) ha
   rw [YB (t:=(a : Int))]
   ·rfl
   ·unfold Yu
    have : ¬ (((X4 a : Nat) : Int) ≥ ((d + 1 : Nat) : Int)):=by omega
    simp only [this,decide_false,Bool.false_eq_true,if_false]
  | succ k ih =>
   intro a hk ha
   cases hb : a.testBit (d + k) with
   | false =>
    have ha':=Vi (by rwa [show d + k + 1 = d + (k + 1) by omega]) hb
    rw [ih a (by omega) ha',Uv ha']
   | true =>
    have hge : 2 ^ (d + k) ≤ a:=Nat.ge_two_pow_of_testBit hb
    have hl : X4 a = d + k + 1:=VK hge (by rwa [show d + k + 1 = d + (k + 1) by omega])
    have hx:=TH h1 h2 ha hb
    have hshl : b <<< k < 2 ^ (d + 1 + k):=WT h2
    have hst : Yu (b : Int) ((d + 1 : Nat) : Int) ((a : Int),((X4 a : Nat) : Int)) = some (.nx (((a ^^^ b <<< k : Nat) : Int),((X4 (a ^^^ b <<< k) : Nat) : Int))):=by
     unfold Yu
     have c1 : ((X4 a : Nat) : Int) ≥ ((d + 1 : Nat) : Int):=by rw [hl]; omega
     have c2 : IntKind.u64.wrap (wr (((X4 a : Nat) : Int) - ((d + 1 : Nat) : Int))) = ((k : Nat) : Int):=by
      rw [hl,show ((d + k + 1 : Nat) : Int) - ((d + 1 : Nat) : Int) = ((k : Nat) : Int) by omega,TD _ (by omega),wru_nn _ (by omega)]
     simp only [c1,decide_true,if_true,c2]
     have c3 : ZZ ((k : Nat) : Int) = some ():=by unfold ZZ; rw [if_pos (by omega)]
     rw [c3,Wv b k (by omega) (big _ (by omega) _ hshl),Wy a _ (big _ (by omega) _ ha) (big _ (by omega) _ hshl)]
     simp only [Option.bind_some]
     rw [Wz _ (big _ (by omega) _ hx)]
     rfl
    rw [YN hst,ih _ (by omega) hx]
    conv=>rhs; unfold ZF
    rw [hb]; rfl
 unfold Y4
 rw [Wz b (big _ (by omega) _ h2),Wz a (big _ (by omega) _ ha)]
 simp only [Option.bind_some]
 rw [VK h1 h2,key k a hk ha]
 rfl
theorem Ql (a m d : Nat) (hd : d ≤ 15) (ha : a < 2 ^ 16) (hm : m < 2 ^ 20) : YK (a : Int) (m : Int) (d : Int) = some ((ZF m d (16 - d) a : Nat) : Int):=by
 have key : ∀ (k a : Nat),d + k ≤ 16 → a < 2 ^ 40 → Zz (ZQ (m : Int) (d : Int)) ((a : Int),((d + k : Nat) : Int) - 1) = some ((ZF m d k a : Nat) : Int):=by
  intro k
  induction k with
  | zero =>
   intro a _ _
   rw [YB (t:=(a : Int))]
   ·rfl
   ·unfold ZQ
    have : ¬ (((d + 0 : Nat) : Int) - 1 ≥ (d : Int)):=by omega
    simp only [this,decide_false,Bool.false_eq_true,if_false]
  | succ k ih =>
   intro a hk ha
   have e0 : ((d + (k + 1) : Nat) : Int) - 1 = ((d + k : Nat) : Int):=by omega
   have hsh : m <<< k < 2 ^ (20 + k):=WT hm
   have hsh2 : m <<< k < 2 ^ 40:=Nat.lt_of_lt_of_le hsh (Nat.pow_le_pow_right (by omega) (by omega))
   have hst : ZQ (m : Int) (d : Int) ((a : Int),((d + (k + 1) : Nat) : Int) - 1) = some (.nx (((if a.testBit (d + k) then a ^^^ (m <<< k) else a : Nat) : Int),((d + k : Nat) : Int) - 1)):=by
    rw [e0]
    unfold ZQ
    have c1 : ((d + k : Nat) : Int) ≥ (d : Int):=by omega
    have c2 : ZZ ((d + k : Nat) : Int) = some ():=by unfold ZZ; rw [if_pos (by omega)]
    have c3 : wr (((d + k : Nat) : Int) - (d : Int)) = ((k : Nat) : Int):=by rw [show ((d + k : Nat) : Int) - (d : Int) = ((k : Nat) : Int) by omega,TD _ (by omega)]
    have c4 : ZZ ((k : Nat) : Int) = some ():=by unfold ZZ; rw [if_pos (by omega)]
    have c5 : wr (((d + k : Nat) : Int) - 1) = ((d + k : Nat) : Int) - 1:=XO (by omega)
    simp only [c1,decide_true,if_true,c2,c3,c4,c5,Option.bind_some]
    have c6 : andI (Th (a : Int) ((d + k : Nat) : Int)) 1 = (((a >>> (d + k)) &&& 1 : Nat) : Int):=by
     rw [Qo a (d + k) (by omega)]
     exact Qk _ 1 (Nat.lt_of_le_of_lt (Nat.shiftRight_le _ _) (by omega)) (by omega)
    rw [c6,Wv m k (by omega) (by omega),Wy a _ (by omega) (by omega)]
    cases hb : a.testBit (d + k) with
    | true =>
     have:=(UB a (d + k)).2 hb
     rw [this]; rfl
    | false =>
     have : ¬ ((a >>> (d + k)) &&& 1 = 1):=fun h=>by rw [(UB a (d + k)).1 h] at hb; cases hb
     have h2 : (((((a >>> (d + k)) &&& 1 : Nat) : Int)) == 1) = false:=by
      rw [beq_eq_false_iff_ne]; omega
     rw [h2]; rfl
   rw [YN hst,ih _ (by omega) ?_]
   ·conv=>rhs; unfold ZF
   ·split
    ·exact Nat.xor_lt_two_pow ha hsh2
    ·exact ha
 unfold YK
 have:=key (16 - d) a (by omega) (by omega)
 rw [show ((d + (16 - d) : Nat) : Int) - 1 = 15 by omega] at this
 rw [this]; rfl

def Tq : Nat → Nat → Nat → Nat
 | 0,_,_=>0
 | n + 1,a,b=>(if b % 2 = 1 then a else 0) ^^^ Tq n (a <<< 1) (b / 2)
theorem Vg : ∀ (n a : Nat),Tq n a 0 = 0
 | 0,_=>rfl
 | n + 1,a=>by simp [Tq,Vg n]
def prC : Nat → Nat → Nat → Nat
 | 0,_,_=>0
 | i + 1,a,b=>prC i a b ^^^ (if b.testBit i then a <<< i else 0)
theorem UY : ∀ (n a b : Nat),prC (n + 1) a b = (if b % 2 = 1 then a else 0) ^^^ prC n (a <<< 1) (b / 2)
 | 0,a,b=>by
  simp only [prC,Nat.zero_xor,Nat.xor_zero,Nat.shiftLeft_zero]
  have : b.testBit 0 = decide (b % 2 = 1):=by simp [Nat.testBit_zero]
  rw [this]; simp
 | n + 1,a,b=>by
  conv=>lhs; unfold prC
  rw [UY n a b]
  conv=>rhs; unfold prC
  rw [← Nat.xor_assoc]
  congr 1
  rw [Nat.testBit_succ,← Nat.shiftLeft_add,Nat.add_comm 1 n]
theorem Qt : ∀ (n a b : Nat),prC n a b = Tq n a b
 | 0,_,_=>rfl
 | n + 1,a,b=>by rw [UY,Qt n]; rfl
theorem Ts (a b : Nat) (h : a < 256) : ∀ i,i ≤ 8 → prC i a b < 2 ^ 16
 | 0,_=>by simp [prC]
 | i + 1,hi=>by
  unfold prC
  have h1 : a <<< i < 2 ^ (8 + i):=WT h
  have h2 : 2 ^ (8 + i) ≤ 2 ^ 16:=Nat.pow_le_pow_right (by omega) (by omega)
  refine Nat.xor_lt_two_pow (Ts a b h i (by omega)) ?_
  split
  ·omega
  ·omega
def UQ (m : Nat) (a b : UInt8) : UInt8:=YL ((ZF m 8 8 (Tq 8 a.toNat b.toNat) : Nat) : Int)
theorem Ug (m : Nat) (hm : m < 512) (a b : UInt8) : ZE (m : Int) a b = some (UQ m a b):=by
 have ha : a.toNat < 256:=a.toNat_lt
 have hb : b.toNat < 256:=b.toNat_lt
 have h:=Xq (f:=Zx a b) (fun i : Nat=>(((prC i a.toNat b.toNat : Nat) : Int),(i : Int))) 0 8 (Nat.zero_le _) (t:=((prC 8 a.toNat b.toNat : Nat) : Int)) (fun i _ hi=>by
  unfold Zx
  have c1 : ((i : Int) < 8):=by omega
  have c2 : ZZ (i : Int) = some ():=by unfold ZZ; rw [if_pos (by omega)]
  have c3 : prC i a.toNat b.toNat < 2 ^ 16:=Ts _ _ ha i (by omega)
  have c4 : a.toNat <<< i < 2 ^ (8 + i):=WT ha
  have c5 : 2 ^ (8 + i) ≤ 2 ^ 16:=Nat.pow_le_pow_right (by omega) (by omega)
  have c6 : (((UL b (i : Int)) &&& 1) == 1) = b.toNat.testBit i:=by
   have e1 : (UL b (i : Int)).toNat = b.toNat >>> i:=by
    unfold UL YL
    rw [show min ((i : Int)).toNat 8 = i by omega,Int.fdiv_eq_ediv_of_nonneg _ (by exact_mod_cast Nat.zero_le _)]
    have : ((b.toNat : Int) / 2 ^ i) = ((b.toNat >>> i : Nat) : Int):=by rw [Nat.shiftRight_eq_div_pow]; simp
    rw [this]
    have h3 : b.toNat >>> i ≤ b.toNat:=Nat.shiftRight_le _ _
    generalize b.toNat >>> i = q at h3 ⊢
    have h4 : (((q : Nat) : Int) % 256).toNat = q:=by omega
    rw [h4]
    simp
    omega
   rw [Bool.eq_iff_iff,beq_iff_eq,← UB,← UInt8.toNat_inj,UInt8.toNat_and,e1]
   simp
  simp only [c1,decide_true,if_true,c2,Option.bind_some,c6,Y7 (show i < 9223372036854775807 by omega)]
  rw [Wv _ i (by omega) (by omega),Wy _ _ (by omega) (by omega)]
  cases hbit : b.toNat.testBit i with
  | true=>simp [prC,hbit]
  | false=>simp [prC,hbit]) (by unfold Zx; simp)
 have h2 : Zz (Zx a b) (0,0) = _:=h
 unfold ZE
 rw [h2]
 simp only [Option.bind_some]
 have h3:=Ql (prC 8 a.toNat b.toNat) m 8 (by omega) (Ts _ _ ha 8 (by omega)) (by omega)
 have h4 : YK ((prC 8 a.toNat b.toNat : Nat) : Int) (m : Int) 8 = _:=h3
 rw [h4,Qt]
 rfl
theorem Tg (m : Nat) (hm : m < 512) (hm2 : 256 ≤ m) (a b : UInt8) : YO (m : Int) a b = some (UQ m a b):=by
 have ha : a.toNat < 256:=a.toNat_lt
 have hb : b.toNat < 256:=b.toNat_lt
 have h1 : 2 ^ 8 ≤ m:=hm2
 have h2 : m < 2 ^ (8 + 1):=hm
 have hR : ∀ i,i ≤ 8 → ZF m 8 8 (a.toNat <<< i) < 256:=fun i hi=>VS h1 h2 8 _ (by
  have:=WT (k:=i) (show a.toNat < 2 ^ 8 from ha)
  exact Nat.lt_of_lt_of_le this (Nat.pow_le_pow_right (by omega) (by omega)))
 have hdbl : ∀ i,i ≤ 7 → ZF m 8 8 (a.toNat <<< (i + 1)) = if 256 ≤ (ZF m 8 8 (a.toNat <<< i)) * 2 then (ZF m 8 8 (a.toNat <<< i)) * 2 ^^^ m else (ZF m 8 8 (a.toNat <<< i)) * 2:=by
  intro i hi
  have hx : a.toNat <<< i < 2 ^ (8 + 7):=Nat.lt_of_lt_of_le (WT (show a.toNat < 2 ^ 8 from ha)) (Nat.pow_le_pow_right (by omega) (by omega))
  have e : a.toNat <<< (i + 1) = (a.toNat <<< i) <<< 1:=by rw [← Nat.shiftLeft_add]
  rw [e,Wo m 8 7,← Uv hx]
  have hlt:=hR i (by omega)
  generalize ZF m 8 8 (a.toNat <<< i) = y at hlt ⊢
  have e2 : y <<< 1 = y * 2:=by rw [Nat.shiftLeft_eq]
  rw [e2]
  have e3 : (y * 2).testBit 8 = decide (256 ≤ y * 2):=by
   by_cases hy : 256 ≤ y * 2
   ·rw [TI (d:=8) hy (by omega)]; simp [hy]
   ·rw [Nat.testBit_lt_two_pow (by omega : y * 2 < 2 ^ 8)]; simp [hy]
  rw [e3]
  by_cases hy : 256 ≤ y * 2 <;> simp [hy]
 have key : ∀ (n i o r : Nat),i + n ≤ 8 → r < 2 ^ n → o < 256 → Zz (ZN (m : Int)) ((o : Int),((ZF m 8 8 (a.toNat <<< i) : Nat) : Int),(r : Int)) = some ((o ^^^ ZF m 8 8 (Tq n (a.toNat <<< i) r) : Nat) : Int):=by
  intro n
  induction n with
  | zero =>
   intro i o r _ hr ho
   have : r = 0:=by simpa using hr
   subst this
   rw [YB (t:=(o : Int))]
   ·rw [Vg,XK 8 0 (by omega),Nat.xor_zero]
   ·unfold ZN; simp
  | succ n ih =>
   intro i o r hi hr ho
   by_cases h0 : r = 0
   ·subst h0
    rw [YB (t:=(o : Int))]
    ·rw [Vg,XK 8 0 (by omega),Nat.xor_zero]
    ·unfold ZN; simp
   ·have hy:=hR i (by omega)
    have hst : ZN (m : Int) ((o : Int),((ZF m 8 8 (a.toNat <<< i) : Nat) : Int),(r : Int)) = some (.nx (((o ^^^ ZF m 8 8 (if r % 2 = 1 then a.toNat <<< i else 0) : Nat) : Int),((ZF m 8 8 (a.toNat <<< (i + 1)) : Nat) : Int),((r / 2 : Nat) : Int))):=by
     rw [hdbl i (by omega)]
     unfold ZN
     have c1 : (r : Int) > 0:=by omega
     have hr2 : r < 512:=Nat.lt_of_lt_of_le hr (Nat.le_trans (Nat.pow_le_pow_right (by omega) (by omega : n + 1 ≤ 9)) (by omega))
     simp only [c1,decide_true,if_true,tmod2,tdiv2]
     have e1 : wr (((ZF m 8 8 (a.toNat <<< i) : Nat) : Int) * 2) = (((ZF m 8 8 (a.toNat <<< i)) * 2 : Nat) : Int):=by rw [XO (by omega)]; omega
     have e2 : wr ((r / 2 : Nat) : Int) = ((r / 2 : Nat) : Int):=TD _ (by omega)
     rw [e1,e2,Wy _ _ (by omega) (by omega),Wy _ _ (by omega) (by omega)]
     have e3 : ((((r % 2 : Nat) : Int)) == 1) = decide (r % 2 = 1):=by
      rw [Bool.eq_iff_iff,beq_iff_eq,decide_eq_true_eq]; omega
     rw [e3]
     have e4 : decide ((((ZF m 8 8 (a.toNat <<< i)) * 2 : Nat) : Int) ≥ 256) = decide (256 ≤ (ZF m 8 8 (a.toNat <<< i)) * 2):=by rw [decide_eq_decide]; omega
     rw [e4]
     have e5 : ZF m 8 8 0 = 0:=XK 8 0 (by omega)
     by_cases c2 : r % 2 = 1 <;> by_cases c3 : 256 ≤ (ZF m 8 8 (a.toNat <<< i)) * 2 <;> simp only [c2,c3,decide_true,decide_false,Bool.false_eq_true,if_true,if_false,Option.bind_some,e5,Nat.xor_zero]
    rw [YN hst,ih (i + 1) _ (r / 2) (by omega) (by rw [Nat.pow_succ] at hr; omega) ?_]
    ·conv=>rhs; unfold Tq
     rw [X6,Nat.xor_assoc,Nat.shiftLeft_add]
    ·refine Nat.xor_lt_two_pow (n:=8) ho ?_
     split
     ·exact hR i (by omega)
     ·rw [XK 8 0 (by omega)]; omega
 have:=key 8 0 0 b.toNat (by omega) hb (by omega)
 rw [Nat.shiftLeft_zero,XK 8 a.toNat ha,Nat.zero_xor] at this
 have h3 : Zz (ZN (m : Int)) (0,bI a,bI b) = _:=this
 unfold YO
 rw [h3]
 rfl

def Vw (m d : Nat) : Bool:=ZF d (X4 d - 1) (16 - (X4 d - 1)) m == 0
def Xu (m : Int) : Bool:=decide (256 ≤ m ∧ m ≤ 511) && !((List.range' 2 30).any (Vw m.toNat))
theorem To (m : Int) : YS m = some (Xu m):=by
 unfold YS Xu
 rw [QD]
 by_cases hm : 256 ≤ m ∧ m ≤ 511
 ·obtain ⟨n,rfl⟩:=Int.eq_ofNat_of_zero_le (show 0 ≤ m by omega)
  have hn : n < 512:=by omega
  have h:=Vj (f:=Yd (n : Int)) 32 (Vw n) false (by omega) 2 (by omega) (fun d h2 hd=>by
   unfold Yd
   have c1 : (d : Int) < 32:=by omega
   have hp : ∃ p,p ≤ 4 ∧ 2 ^ p ≤ d ∧ d < 2 ^ (p + 1):=by
    refine ⟨d.log2,?_,Nat.log2_self_le (by omega),Nat.lt_log2_self⟩
    have:=(Nat.log2_lt (n:=d) (by omega)).2 (show d < 2 ^ 5 by omega)
    omega
   obtain ⟨p,h3,h4,h5⟩:=hp
   have hl:=VK h4 h5
   rw [TU n d p (16 - p) (by omega) (by omega) h4 h5 (by rw [show p + (16 - p) = 16 by omega]; omega)]
   simp only [c1,decide_true,if_true,Option.bind_some]
   unfold Vw
   rw [hl,show p + 1 - 1 = p by omega]
   generalize ZF d p (16 - p) n = q
   have : ((((q : Nat) : Int)) == 0) = (q == 0):=by rw [Bool.eq_iff_iff,beq_iff_eq,beq_iff_eq]; omega
   rw [this]
   cases q == 0 <;> simp) (by unfold Yd; simp)
  have h2 : Zz (Yd (n : Int)) 2 = _:=h
  rw [h2]
  simp only [hm,decide_true,and_self,Bool.not_true,Bool.false_eq_true,if_false,Option.bind_some,Bool.true_and,Int.toNat_natCast]
  cases (List.range' 2 30).any (Vw n) <;> rfl
 ·simp [hm]
theorem TR (m : Int) : Y2 m = some (Xu m):=by
 unfold Y2 Xu
 rw [Ur]
 by_cases hm : 256 ≤ m ∧ m ≤ 511
 ·obtain ⟨n,rfl⟩:=Int.eq_ofNat_of_zero_le (show 0 ≤ m by omega)
  have hn : n < 512:=by omega
  have inner : ∀ p : Nat,p ≤ 4 → Zz (Ys (n : Int) (p : Int)) ((2 ^ p : Nat) : Int) = some (if (List.range' (2 ^ p) (2 ^ p)).any (Vw n) then Fl.ex false else Fl.nx ()):=by
   intro p hp
   have c2 : ZZ (p : Int) = some ():=by unfold ZZ; rw [if_pos (by omega)]
   have hpow : 2 ^ p ≤ 2 ^ 4:=Nat.pow_le_pow_right (by omega) hp
   have hpp:=Nat.two_pow_pos p
   have c3 : Wq 2 (p : Int) = ((2 ^ (p + 1) : Nat) : Int):=by
    have:=Wv 2 p (by omega) (by rw [Nat.shiftLeft_eq]; omega)
    rw [Nat.shiftLeft_eq] at this
    rw [show (2 : Int) = ((2 : Nat) : Int) from rfl,this,Nat.pow_succ,Nat.mul_comm]
   have h:=Vj (f:=Ys (n : Int) (p : Int)) (2 ^ (p + 1)) (Vw n) false (by rw [Nat.pow_succ]; omega) (2 ^ p) (by rw [Nat.pow_succ]; omega) (fun d h4 h5=>by
    unfold Ys
    have c1 : (d : Int) < ((2 ^ (p + 1) : Nat) : Int):=by omega
    have hd : d < 32:=by rw [Nat.pow_succ] at h5; omega
    have hl:=VK h4 h5
    rw [c2,c3,Ql n d p (by omega) (by omega) (by omega)]
    simp only [c1,decide_true,if_true,Option.bind_some]
    unfold Vw
    rw [hl,show p + 1 - 1 = p by omega]
    generalize ZF d p (16 - p) n = q
    have : ((((q : Nat) : Int)) == 0) = (q == 0):=by rw [Bool.eq_iff_iff,beq_iff_eq,beq_iff_eq]; omega
    rw [this]
    cases q == 0 <;> simp) (by
     unfold Ys
     rw [c2,c3]; simp)
   rw [show 2 ^ (p + 1) - 2 ^ p = 2 ^ p by rw [Nat.pow_succ]; omega] at h
   exact h
  have h:=Vj (f:=Yz (n : Int)) 5 (fun p=>(List.range' (2 ^ p) (2 ^ p)).any (Vw n)) false (by omega) 1 (by omega) (fun p _ hp=>by
   unfold Yz
   have c1 : (p : Int) ≤ 4:=by omega
   have c2 : ZZ (p : Int) = some ():=by unfold ZZ; rw [if_pos (by omega)]
   have c3 : Wq 1 (p : Int) = ((2 ^ p : Nat) : Int):=by
    have hpow : 2 ^ p ≤ 2 ^ 4:=Nat.pow_le_pow_right (by omega) (by omega)
    have:=Wv 1 p (by omega) (by rw [Nat.shiftLeft_eq]; omega)
    rw [Nat.shiftLeft_eq,Nat.one_mul] at this
    exact this
   rw [c2,c3,inner p (by omega)]
   simp only [c1,decide_true,if_true,Option.bind_some]
   cases (List.range' (2 ^ p) (2 ^ p)).any (Vw n) <;> rfl) (by unfold Yz; simp)
  have h2 : Zz (Yz (n : Int)) 1 = _:=h
  rw [h2]
  have e : ((List.range' 1 (5 - 1)).any fun p=>(List.range' (2 ^ p) (2 ^ p)).any (Vw n)) = (List.range' 2 30).any (Vw n):=by
   have e1 : List.range' 2 30 = List.range' 2 2 ++ (List.range' 4 4 ++ (List.range' 8 8 ++ List.range' 16 16)):=by decide
   have e2 : List.range' 1 (5 - 1) = [1,2,3,4]:=by decide
   rw [e1,e2]
   simp only [List.any_append,List.any_cons,List.any_nil,Bool.or_false,Nat.reducePow]
  rw [e]
  simp only [hm,decide_true,and_self,Bool.not_true,Bool.false_eq_true,if_false,Option.bind_some,Bool.true_and,Int.toNat_natCast]
  cases (List.range' 2 30).any (Vw n) <;> rfl
 ·simp [hm]
theorem Vn {m : Int} (h : Xu m = true) : ∃ n : Nat,m = n ∧ 256 ≤ n ∧ n < 512:=by
 unfold Xu at h
 simp only [Bool.and_eq_true,decide_eq_true_eq] at h
 exact ⟨m.toNat,by omega,by omega,by omega⟩
def Wl (l : List UInt8) : Bool:=decide l.Nodup
theorem Uq (l : List UInt8) : ((List.range' 0 (l.length - 0)).any fun i=>(List.range' 0 (i - 0)).any fun k=>l[i]? == l[k]?) = !Wl l:=by
 rw [Bool.eq_iff_iff,XJ]
 rw [Wl,Bool.not_eq_true',decide_eq_false_iff_not]
 unfold List.Nodup
 rw [List.pairwise_iff_getElem]
 simp only [XJ,beq_iff_eq]
 constructor
 ·rintro ⟨i,_,hi,k,_,hk,h⟩ hn
  have hk' : k < l.length:=by omega
  rw [List.getElem?_eq_getElem hi,List.getElem?_eq_getElem hk'] at h
  exact hn k i hk' hi hk (by simpa using h.symm)
 ·intro h
  simp only [Classical.not_forall,ne_eq,Decidable.not_not] at h
  obtain ⟨k,i,hk,hi,hki,h⟩:=h
  exact ⟨i,Nat.zero_le _,hi,k,Nat.zero_le _,hki,by rw [List.getElem?_eq_getElem hi,List.getElem?_eq_getElem hk,h]⟩
theorem U8 (l : List UInt8) (h : l.length < 9223372036854775807) : YT l = some (!Wl l):=by
 unfold YT
 have:=VX (f:=Yf l) l.length (fun i=>(List.range' 0 (i - 0)).any fun k=>l[i]? == l[k]?) true h (fun i hi=>by
  unfold Yf
  have h2:=VX (f:=Ye l i) i (fun k=>l[i]? == l[k]?) true (by omega) (fun k hk=>by
   unfold Ye
   have hk' : k < l.length:=by omega
   have e1 : decide ((k : Int) < (i : Int)) = true:=by simp; omega
   rw [e1]
   simp [List.getElem?_eq_getElem hi,List.getElem?_eq_getElem hk']
   split <;> rfl) (by unfold Ye; simp) 0 (Nat.zero_le _)
  have h3 : Zz (Ye l i) 0 = _:=h2
  simp only [Int.ofNat_lt,hi,decide_true,if_true,h3,Option.bind_some]
  cases (List.range' 0 (i - 0)).any fun k=>l[i]? == l[k]? <;> simp [Fl.el]) (by unfold Yf; simp) 0 (Nat.zero_le _)
 have h3 : Zz (Yf l) 0 = _:=this
 rw [h3,Uq]
 cases Wl l <;> simp [Fl.el]
theorem WI (l : List UInt8) (c : UInt8) : decide (indexByte l c ≥ 0) = l.contains c:=by
 induction l with
 | nil=>rfl
 | cons b l ih =>
  have hge:=Lib.indexByte_ge l c
  show decide (Lib.indexByte (b :: l) c ≥ 0) = _
  unfold Lib.indexByte
  rw [List.contains_cons,← ih]
  by_cases hb : b = c
  ·subst hb; simp
  ·have hb' : (c == b) = false:=by simpa using fun h=>hb h.symm
   simp only [beq_eq_false_iff_ne.2 hb,hb',Bool.false_eq_true,if_false,Bool.false_or]
   rw [decide_eq_decide]
   show _ ↔ Lib.indexByte l c ≥ 0
   by_cases h1 : Lib.indexByte l c = -1
   ·simp [h1]
   ·rw [if_neg (by simpa using h1)]; omega
theorem V5 (l : List UInt8) (h : l.length < 9223372036854775807) : Ya l = some (Wl l):=by
 unfold Ya
 have:=VX (f:=ZO l) l.length (fun i=>(l.take i).any fun x=>l[i]? == some x) false h (fun i hi=>by
  unfold ZO
  have e1 : slc l (0 : Int) (i : Int) = some (l.take i):=by have:=slc_ok (l:=l) (i:=0) (j:=i) (Nat.zero_le _) (by omega); simpa using this
  simp only [Int.ofNat_lt,hi,decide_true,if_true,Z5,List.getElem?_eq_getElem hi,Option.bind_some,e1]
  unfold Z6
  simp only [Option.bind_some,WI]
  have e2 : (l.take i).contains l[i] = (l.take i).any fun x=>some l[i] == some x:=by
   rw [Bool.eq_iff_iff]; simp [List.any_eq_true]
  rw [e2]
  split <;> rfl) (by unfold ZO; simp) 0 (Nat.zero_le _)
 have h3 : Zz (ZO l) 0 = _:=this
 have key : ((List.range' 0 (l.length - 0)).any fun i=>(l.take i).any fun x=>l[i]? == some x) = !Wl l:=by
  rw [← Uq,Bool.eq_iff_iff,XJ,XJ]
  refine exists_congr fun i=>and_congr_right fun _=>and_congr_right fun hi=>?_
  rw [XJ,List.any_eq_true]
  constructor
  ·rintro ⟨x,hx,h⟩
   obtain ⟨k,hk,rfl⟩:=List.mem_iff_getElem.1 hx
   have hk2 : k < i ∧ k < l.length:=by simp at hk; omega
   exact ⟨k,Nat.zero_le _,hk2.1,by rw [List.getElem?_eq_getElem hk2.2]; simpa using h⟩
  ·rintro ⟨k,_,hk,h⟩
   have hkl : k < l.length:=by omega
   refine ⟨l[k],List.mem_iff_getElem.2 ⟨k,by simp; omega,by simp⟩,?_⟩
   rw [List.getElem?_eq_getElem hkl] at h; exact h
 rw [h3,key]
 cases Wl l <;> simp [Fl.el]
theorem TZ (x : UInt8) (l : List UInt8) : Wl (x :: l) = (!l.contains x && Wl l):=by
 unfold Wl
 rw [Bool.eq_iff_iff]
 simp [List.nodup_cons]
def X9 (l : List UInt8) : Bool:=!l.contains 0 && Wl l
theorem Ti (l : List UInt8) (h : l.length ≤ 140737488355326) : YU l = some (!X9 l):=by
 unfold YU
 rw [WV (by simp; omega)]
 simp only [Option.bind_some]
 rw [U8 _ (by simp; omega)]
 simp only [Option.bind_some,X9]
 rw [show ([0] : List UInt8) ++ l = 0 :: l from rfl,TZ]
theorem Ue (l : List UInt8) (h : l.length < 9223372036854775807) : Yn l = some (X9 l):=by
 unfold Yn Z6
 rw [V5 l h]
 have e : decide (indexByte l 0 < 0) = !l.contains 0:=by
  rw [← WI,Bool.eq_iff_iff]; simp
 simp only [Option.bind_some,e,X9]
 cases Wl l <;> simp
def Yq (m : Nat) (l : List UInt8) (x : UInt8) : UInt8:=l.foldr (fun a acc=>UQ m acc x ^^^ a) 0
def tab (n : Nat) (f : Nat → UInt8) : List UInt8:=(List.range n).map f
@[simp] theorem tab_len (n : Nat) (f : Nat → UInt8) : (tab n f).length = n:=by simp [tab]
theorem TJ {l : List UInt8} {i : Nat} (h : i < l.length) : l[i]? = some (l.getD i 0):=by simp [List.getD_eq_getElem?_getD,List.getElem?_eq_getElem h]
section
variable {m : Nat} (h1 : 256 ≤ m) (h2 : m < 512)
include h1 h2
theorem Tv (l : List UInt8) (x : UInt8) (hl : l.length ≤ 1000) : YQ (m : Int) l x = some (Yq m l x):=by
 have key : ∀ (k : Nat),k ≤ l.length → Zz (ZY (m : Int) l x) (Yq m (l.drop k) x,(k : Int) - 1) = some (Yq m l x):=by
  intro k
  induction k with
  | zero =>
   intro _
   rw [List.drop_zero]
   exact YB (by unfold ZY; simp)
  | succ k ih =>
   intro hk
   have hk' : k < l.length:=by omega
   have hst : ZY (m : Int) l x (Yq m (l.drop (k + 1)) x,((k + 1 : Nat) : Int) - 1) = some (.nx (Yq m (l.drop k) x,(k : Int) - 1)):=by
    unfold ZY
    have e : ((k + 1 : Nat) : Int) - 1 = (k : Int):=by omega
    have c : (k : Int) ≥ 0:=by omega
    have e2 : wr ((k : Int) - 1) = (k : Int) - 1:=XO (by omega)
    simp only [e,c,decide_true,if_true,Z5,List.getElem?_eq_getElem hk',Option.bind_some,Tg m h2 h1,e2]
    congr 3
    conv=>rhs; rw [List.drop_eq_getElem_cons hk']
    rfl
   rw [YN hst]
   exact ih (by omega)
 unfold YQ
 have e : wr ((l.length : Int) - 1) = (l.length : Int) - 1:=XO (by omega)
 have:=key l.length (Nat.le_refl _)
 rw [List.drop_length] at this
 rw [e]
 have h3 : Zz (ZY (m : Int) l x) (0,(l.length : Int) - 1) = _:=this
 rw [h3]; rfl
end
structure Good (l : List GShare) : Prop where
 share : ∀ s ∈ l,True ∧ s.Data.length ≤ 100
 diff : (l.map (·.Place)).Nodup
 len : 1 ≤ l.length ∧ l.length ≤ 13
 even : ∀ s ∈ l,s.Data.length = (l.headD default).Data.length
theorem Good.take {l : List GShare} (h : Good l) {t : Nat} (h1 : 1 ≤ t) (h2 : t ≤ l.length) : Good (l.take t):=by
 have hd : (l.take t).headD default = l.headD default:=by
  cases l with
  | nil=>simp
  | cons x l=>cases t with
   | zero=>omega
   | succ t=>rfl
 refine ⟨fun s hs=>h.share s (List.mem_of_mem_take hs),?_,by rw [List.length_take]; have:=h.len; omega,fun s hs=>by rw [hd]; exact h.even s (List.mem_of_mem_take hs)⟩
 rw [List.map_take]
 exact (List.take_sublist _ _).nodup h.diff
theorem VU (l : List GShare) : (l.map XG).sum ≤ Wt.wt l:=by
 have:=TW XG 1 (fun x=>by
  unfold XG
  have e : Wt.wt x = Wt.wt x.Data:=rfl
  rw [e,Ws,VJ]; omega) l
 omega
def Xr (data : List UInt8) (cs : List (List UInt8)) (i : Nat) : List UInt8:=data.getD i 0 :: cs.map (·.getD i 0)
def Xn (m : Nat) (data : List UInt8) (cs : List (List UInt8)) (p : UInt8) : GShare:=⟨p,tab data.length fun i=>Yq m (Xr data cs i) p⟩
def XU (cs : List (List UInt8)) (n : Nat) : Bool:=decide (cs.length ≤ 7) && cs.all fun c=>c.length == n
def YW (m : Int) (data : List UInt8) (cs : List (List UInt8)) (ps : List UInt8) : List GShare × Int :=
 if !Xu m then ([],1) else if 100 < data.length ∨ XU cs data.length = false ∨ ps.length < 1 ∨ 12 < ps.length then ([],2) else if !X9 ps then ([],5) else (ps.map (Xn m.toNat data cs),0)
theorem Qb (n : Nat) (c : List UInt8) : ((c.length : Int) != (n : Int)) = !(c.length == n):=by
 by_cases h : c.length = n
 ·subst h; simp
 ·have : ¬ ((c.length : Int) = (n : Int)):=by omega
  have e1 : (c.length == n) = false:=by simpa using h
  have e2 : ((c.length : Int) != (n : Int)) = true:=by simpa using this
  rw [e1,e2]; rfl
theorem Tt (cs : List (List UInt8)) (n : Nat) (h : cs.length < 9223372036854775807) : YR cs (n : Int) = some (XU cs n):=by
 unfold YR
 have h:=TY (f:=YI cs (n : Int)) cs (fun c=>(c.length : Int) != (n : Int)) (t:=false) h (fun i hi=>by
  unfold YI
  simp only [Int.ofNat_lt,hi,decide_true,if_true,Z5,List.getElem?_eq_getElem hi,Option.bind_some]
  by_cases c : ((cs[i].length : Int) != (n : Int)) = true <;> simp [c]) (by unfold YI; simp)
 rw [h]
 have e : (cs.any fun c=>(c.length : Int) != (n : Int)) = !cs.all fun c=>c.length == n:=by
  rw [List.any_eq_not_all_not]
  simp only [Qb,Bool.not_not]
 rw [e]
 unfold XU
 have e2 : decide ((cs.length : Int) ≤ 7) = decide (cs.length ≤ 7):=by rw [decide_eq_decide]; omega
 cases (cs.all fun c=>c.length == n) <;> simp [Fl.el,e2]
theorem Vc (cs : List (List UInt8)) (n : Nat) (h : cs.length < 9223372036854775807) : ZX cs (n : Int) = some (XU cs n):=by
 unfold ZX
 have e2 : decide ((cs.length : Int) ≤ 7) = decide (cs.length ≤ 7):=by rw [decide_eq_decide]; omega
 have hc : ZB cs (fun z0=>ZM z0 (n : Int)) = some (cs.any fun c=>(c.length : Int) != (n : Int)):=by
  unfold ZB ZK
  rw [QK cs _ (fun c=>(c.length : Int) != (n : Int)) _ (fun s=>by unfold Z4; rfl) h (fun x _=>rfl)]
  simp only [Option.bind_some,has_of]
 have e : (cs.any fun c=>(c.length : Int) != (n : Int)) = !cs.all fun c=>c.length == n:=by
  rw [List.any_eq_not_all_not]
  simp only [Qb,Bool.not_not]
 rw [hc,e,e2]
 unfold XU
 by_cases c : cs.length ≤ 7 <;> simp [c]
theorem T7 {m : Nat} (h2 : m < 512) (x y : UInt8) : VT (m : Int) x y = UQ m x y:=by
 have:=Vm (m : Int) x y
 rw [Ug m h2] at this
 exact (Option.some.inj this).symm
theorem U4 {n : Nat} (f : Nat → UInt8) (i : Nat) (h : i < n) : (tab n f).take i ++ [f i] = (tab n f).take (i + 1):=by
 rw [List.take_succ_eq_append_getElem (by simpa using h)]
 simp [tab]
section
variable {m : Nat} (h1 : 256 ≤ m) (h2 : m < 512)
include h1 h2
omit h1 in
theorem QC (l : List UInt8) (x : UInt8) (h : l.length ≤ 140737488351232) : Yo (m : Int) l x = some (Yq m l x):=by
 unfold Yo
 rw [if_pos h,List.foldl_reverse]
 congr 1
 unfold Yq
 congr 1
 funext a acc
 unfold Uk
 rw [T7 h2]
omit h1 in
theorem QN (data : List UInt8) (cs : List (List UInt8)) (ps : List UInt8) (hd : data.length ≤ 100) (hc : XU cs data.length = true) (hp : ps.length ≤ 12) :
  Yj (m : Int) data cs ps = some (ps.map (Xn m data cs)):=by
 unfold XU at hc
 simp only [Bool.and_eq_true,decide_eq_true_eq,List.all_eq_true,beq_iff_eq] at hc
 obtain ⟨hc1,hc2⟩:=hc
 unfold Yj
 have h:=Xq (f:=ZU (m : Int) data cs ps) (fun i : Nat=>((i : Int),(ps.take i).map (Xn m data cs))) 0 ps.length (Nat.zero_le _) (t:=ps.map (Xn m data cs)) (fun i _ hi=>by
  unfold ZU
  have hin:=Xq (f:=ZS (m : Int) data cs ps[i]) (fun j : Nat=>((tab data.length fun q=>Yq m (Xr data cs q) ps[i]).take j,(j : Int))) 0 data.length (Nat.zero_le _) (t:=tab data.length fun q=>Yq m (Xr data cs q) ps[i]) (fun j _ hj=>by
   unfold ZS
   have hin2:=Xq (f:=ZT cs ((tab data.length fun q=>Yq m (Xr data cs q) ps[i]).take j,(j : Int))) (fun k : Nat=>([data.getD j 0] ++ (cs.take k).map (·.getD j 0),(k : Int))) 0 cs.length (Nat.zero_le _) (t:=Xr data cs j) (fun k _ hk=>by
    unfold ZT
    have hl:=hc2 cs[k] (List.getElem_mem hk)
    have hj' : j < cs[k].length:=by omega
    simp only [Int.ofNat_lt,hk,decide_true,if_true,Z5,List.getElem?_eq_getElem hk,Option.bind_some,List.getElem?_eq_getElem hj',Y7 (show k < 9223372036854775807 by omega)]
    rw [WV (by simp; omega)]
    simp only [Option.bind_some]
    rw [List.take_succ_eq_append_getElem hk,List.map_append,List.append_assoc]
    simp [List.getD_eq_getElem?_getD,List.getElem?_eq_getElem hj']) (by unfold ZT; simp [Xr])
   have hg : data[j]? = some (data.getD j 0):=TJ hj
   simp only [Int.ofNat_lt,hj,decide_true,if_true,Z5,hg,Option.bind_some,Y7 (show j < 9223372036854775807 by omega)]
   have hin2' : Zz (ZT cs ((tab data.length fun q=>Yq m (Xr data cs q) ps[i]).take j,(j : Int))) ([data.getD j 0],0) = some (Xr data cs j):=hin2
   rw [hin2']
   simp only [Option.bind_some]
   rw [QC h2 _ _ (by simp [Xr]; omega)]
   simp only [Option.bind_some]
   rw [WV (by simp; omega)]
   simp only [Option.bind_some]
   rw [U4 _ _ hj]) (by unfold ZS; simp [List.take_of_length_le])
  simp only [Int.ofNat_lt,hi,decide_true,if_true,Z5,List.getElem?_eq_getElem hi,Option.bind_some,Y7 (show i < 9223372036854775807 by omega)]
  have hin' : Zz (ZS (m : Int) data cs ps[i]) ([],0) = some (tab data.length fun q=>Yq m (Xr data cs q) ps[i]):=hin
  rw [hin']
  simp only [Option.bind_some]
  rw [WV (by simp; omega)]
  simp only [Option.bind_some]
  rw [List.take_succ_eq_append_getElem hi,List.map_append]
  rfl) (by unfold ZU; simp)
 have h3 : Zz (ZU (m : Int) data cs ps) (0,[]) = _:=h
 rw [h3]; rfl
theorem TX (data : List UInt8) (cs : List (List UInt8)) (ps : List UInt8) (hd : data.length ≤ 100) (hc : XU cs data.length = true) (hp : ps.length ≤ 12) :
  Y6 (m : Int) data cs ps = some (ps.map (Xn m data cs)):=by
 unfold XU at hc
 simp only [Bool.and_eq_true,decide_eq_true_eq,List.all_eq_true,beq_iff_eq] at hc
 obtain ⟨hc1,hc2⟩:=hc
 unfold Y6
 have h:=Xq (f:=Yw (m : Int) data cs ps) (fun i : Nat=>((i : Int),(ps.take i).map (Xn m data cs))) 0 ps.length (Nat.zero_le _) (t:=ps.map (Xn m data cs)) (fun i _ hi=>by
  unfold Yw
  have hin:=Xq (f:=Yv (m : Int) data cs ps ((i : Int),(ps.take i).map (Xn m data cs))) (fun j : Nat=>((tab data.length fun q=>Yq m (Xr data cs q) ps[i]).take j,(j : Int))) 0 data.length (Nat.zero_le _) (t:=tab data.length fun q=>Yq m (Xr data cs q) ps[i]) (fun j _ hj=>by
   unfold Yv
   have hin2:=Xq (f:=Yx cs ((tab data.length fun q=>Yq m (Xr data cs q) ps[i]).take j,(j : Int))) (fun k : Nat=>([data.getD j 0] ++ (cs.take k).map (·.getD j 0),(k : Int))) 0 cs.length (Nat.zero_le _) (t:=Xr data cs j) (fun k _ hk=>by
    unfold Yx
    have hl:=hc2 cs[k] (List.getElem_mem hk)
    have hj' : j < cs[k].length:=by omega
    simp only [Int.ofNat_lt,hk,decide_true,if_true,Z5,List.getElem?_eq_getElem hk,Option.bind_some,List.getElem?_eq_getElem hj',Y7 (show k < 9223372036854775807 by omega)]
    rw [WV (by simp; omega)]
    simp only [Option.bind_some]
    rw [List.take_succ_eq_append_getElem hk,List.map_append,List.append_assoc]
    simp [List.getD_eq_getElem?_getD,List.getElem?_eq_getElem hj']) (by unfold Yx; simp [Xr])
   have hg : data[j]? = some (data.getD j 0):=TJ hj
   simp only [Int.ofNat_lt,hj,decide_true,if_true,Z5,hg,Option.bind_some,Y7 (show j < 9223372036854775807 by omega)]
   have hin2' : Zz (Yx cs ((tab data.length fun q=>Yq m (Xr data cs q) ps[i]).take j,(j : Int))) ([data.getD j 0],0) = some (Xr data cs j):=hin2
   rw [hin2']
   simp only [Option.bind_some,List.getElem?_eq_getElem hi]
   rw [Tv h1 h2 _ _ (by simp [Xr]; omega)]
   simp only [Option.bind_some]
   rw [WV (by simp; omega)]
   simp only [Option.bind_some]
   rw [U4 _ _ hj]) (by unfold Yv; simp [List.take_of_length_le])
  simp only [Int.ofNat_lt,hi,decide_true,if_true,Z5,List.getElem?_eq_getElem hi,Option.bind_some,Y7 (show i < 9223372036854775807 by omega)]
  have hin' : Zz (Yv (m : Int) data cs ps ((i : Int),(ps.take i).map (Xn m data cs))) ([],0) = some (tab data.length fun q=>Yq m (Xr data cs q) ps[i]):=hin
  rw [hin']
  simp only [Option.bind_some]
  rw [WV (by simp; omega)]
  simp only [Option.bind_some]
  rw [List.take_succ_eq_append_getElem hi,List.map_append]
  rfl) (by unfold Yw; simp)
 have h3 : Zz (Yw (m : Int) data cs ps) (0,[]) = _:=h
 rw [h3]; rfl
end
theorem Vu (m : Int) (data : List UInt8) (cs : List (List UInt8)) (ps : List UInt8) (hc : cs.length ≤ 1048576) (hp : ps.length ≤ 1048576) : YV m data cs ps = some (YW m data cs ps):=by
 unfold YV YW
 rw [To]
 cases hf : Xu m with
 | false=>simp
 | true =>
  obtain ⟨n,rfl,h1,h2⟩:=Vn hf
  simp only [Option.bind_some,Bool.not_true,Bool.false_eq_true,if_false,Tt cs data.length (by omega)]
  by_cases c1 : 100 < data.length
  ·have : ((data.length : Int) > 100):=by omega
   simp [c1,this]
  have d1 : ¬ ((data.length : Int) > 100):=by omega
  simp only [c1,d1,decide_false,Bool.false_eq_true,if_false,false_or]
  cases c2 : XU cs data.length with
  | false=>simp
  | true =>
   by_cases c3 : ps.length < 1
   ·have : (ps.length : Int) < 1:=by omega
    simp [c3,this]
   ·have d3 : ¬ ((ps.length : Int) < 1):=by omega
    by_cases c4 : 12 < ps.length
    ·have : (ps.length : Int) > 12:=by omega
     simp [c3,c4,d3,this]
    ·have d4 : ¬ ((ps.length : Int) > 12):=by omega
     simp only [c3,c4,d3,d4,decide_false,Bool.not_true,Bool.false_eq_true,if_false,Option.bind_some,or_self,reduceCtorEq]
     rw [Ti ps (by omega)]
     cases X9 ps with
     | false=>simp
     | true =>
      simp only [Option.bind_some,Bool.not_true,Bool.false_eq_true,if_false,TX h1 h2 data cs ps (by omega) c2 (by omega),Int.toNat_natCast]
theorem VD (m : Int) (data : List UInt8) (cs : List (List UInt8)) (ps : List UInt8) (hc : cs.length ≤ 1048576) (hp : ps.length ≤ 1048576) : Yy m data cs ps = some (YW m data cs ps):=by
 unfold Yy YW YM
 rw [TR]
 cases hf : Xu m with
 | false=>simp
 | true =>
  obtain ⟨n,rfl,h1,h2⟩:=Vn hf
  simp only [Option.bind_some,Bool.not_true,Bool.false_eq_true,if_false,Vc cs data.length (by omega),Ur]
  by_cases c1 : 100 < data.length
  ·have : ((data.length : Int) > 100):=by omega
   simp [c1,this]
  have d1 : ¬ ((data.length : Int) > 100):=by omega
  simp only [c1,d1,decide_false,Bool.false_eq_true,if_false,false_or]
  cases c2 : XU cs data.length with
  | false=>simp
  | true =>
   by_cases c3 : ps.length < 1 ∨ 12 < ps.length
   ·have : ¬ (1 ≤ (ps.length : Int) ∧ (ps.length : Int) ≤ 12):=by omega
    simp only [this,decide_false,Bool.not_true,Bool.not_false,Bool.false_eq_true,if_false,if_true,Option.bind_some,reduceCtorEq,false_or,c3]
   ·have d3 : 1 ≤ (ps.length : Int) ∧ (ps.length : Int) ≤ 12:=by omega
    simp only [d3,and_self,decide_true,Bool.not_true,Bool.false_eq_true,if_false,Option.bind_some,reduceCtorEq,false_or,c3]
    rw [Ue ps (by omega)]
    cases X9 ps with
    | false=>simp
    | true =>
     simp only [Option.bind_some,Bool.not_true,Bool.false_eq_true,if_false,QN h2 data cs ps (by omega) c2 (by omega),Int.toNat_natCast]
theorem TV (m : Nat) (data : List UInt8) (cs : List (List UInt8)) (p : UInt8) : Wt.wt (Xn m data cs p) = data.length:=by
 show Wt.wt (Xn m data cs p).Data = _
 rw [Ws]; simp [Xn]
theorem UD (m : Int) (data : List UInt8) (cs : List (List UInt8)) (ps : List UInt8) : Wt.wt (YW m data cs ps).1 ≤ 1212:=by
 unfold YW
 have h0 : Wt.wt ([] : List GShare) = 0:=rfl
 split
 ·rw [h0]; omega
 ·split
  ·rw [h0]; omega
  ·rename_i h
   split
   ·rw [h0]; omega
   ·rw [XZ]
    have : ((ps.map (Xn m.toNat data cs)).map Wt.wt).sum = ps.length * data.length:=by
     rw [List.map_map]
     have : (Wt.wt ∘ Xn m.toNat data cs) = fun _=>data.length:=by funext p; exact TV _ _ _ p
     rw [this]
     simp only [List.map_const',List.sum_replicate_nat]
    rw [this]
    simp only [List.length_map]
    have h1 : ps.length * data.length ≤ 12 * 100:=Nat.mul_le_mul (by omega) (by omega)
    omega
def WB (x : List UInt8) : Nat:=(x.map fun _=>1).sum
theorem UO (l : List (List UInt8)) (h : Wt.ln l) : U9 YD l (l.map WB).sum :=
 TG YD Yl WB (fun _ _=>rfl) l (Wf h) (fun l' i k hi hx _ h0 hk=>by
  obtain ⟨d',d1⟩:=Wn l'[i] (Ub h hx : Wt.ln l'[i]) k h0 hk
  refine ⟨d',?_⟩
  unfold Yl
  simp only [Int.ofNat_lt,hi,decide_true,if_true,Z5,List.getElem?_eq_getElem hi,Option.bind_some,Int.toNat_natCast,d1]; rfl) (fun l' k=>by unfold Yl; simp)
theorem WA : ∀ l : List (List UInt8),(l.map WB).sum ≤ (l.map Wt.wt).sum
 | []=>by simp
 | x :: l=>by
  have:=WA l
  have h2 : WB x = Wt.wt x:=by rw [Ws]; exact VJ x
  simp only [List.map_cons,List.sum_cons]
  omega
theorem WF (m : Int) (data : List UInt8) (cs : List (List UInt8)) (ps : List UInt8) (_ : Dat.bd m) (_ : Dat.bd data) (hc : Dat.bd cs) (_ : Dat.bd ps) : Yc m data cs ps = some true:=by
 unfold Yc
 by_cases h1 : (data.length : Int) > 1048576
 ·simp [h1]
 by_cases h2 : (ps.length : Int) > 1048576
 ·simp [h1,h2]
 simp only [h1,h2,decide_false,Bool.false_eq_true,if_false]
 refine Qy (Tr cs (Wt.bdln cs hc)) (by omega) (by omega) fun r r0 r1 hw=>?_
 have hwc : Wt.wt cs ≤ 1048576:=by omega
 have hcl : cs.length ≤ 1048576:=Nat.le_trans (Tm cs) hwc
 have hwd : Wt.wt data ≤ 1048576:=by rw [Ws]; omega
 have hwp : Wt.wt ps ≤ 1048576:=by rw [Ws]; omega
 have hld:=Wt.wtln data hwd
 have hlp:=Wt.wtln ps hwp
 have hlc:=Wt.wtln cs hwc
 have hr:=UD m data cs ps
 have hrl:=Wt.wtln (YW m data cs ps).1 (by omega)
 have k1:=WA cs
 have k3:=VU (YW m data cs ps).1
 have k4:=XZ cs
 have k5:=VJ data
 have k6:=VJ ps
 obtain ⟨x',m1⟩:=Wn data hld 1 (by omega) (by omega)
 obtain ⟨y',m2⟩:=UO cs hlc (1 + ((data.map fun _=>1).sum : Nat)) (by omega) (by omega)
 obtain ⟨z',m3⟩:=Wn ps hlp (1 + ((data.map fun _=>1).sum : Nat) + ((cs.map WB).sum : Nat)) (by omega) (by omega)
 obtain ⟨r',m4,m5⟩:=UH (YW m data cs ps).1 hrl 1 (by omega) (by omega)
 have e1 : ¬ ((1 : Int) + ((data.map fun _=>1).sum : Nat) + ((cs.map WB).sum : Nat) + ((ps.map fun _=>1).sum : Nat) < 0):=by omega
 have e2 : ¬ ((1 : Int) + (((YW m data cs ps).1.map XG).sum : Nat) < 0):=by omega
 simp only [Vf data hwd,Vf ps hwp,Ta cs hwc,Vu m data cs ps hcl (by omega),VD m data cs ps hcl (by omega),WD data hld,WD ps hlp,Tc cs hlc,Tp _ hrl,m1,m2,m3,m4,m5,e1,e2,Option.bind_some,Bool.not_true,Bool.false_eq_true,if_false,bne_self_eq_false,decide_false]
end Go.Proofs.Ytpjogonponkbmaa
