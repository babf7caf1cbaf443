/- Plain laws, no program in sight. -/
import Derived.Test.YtlpppjjlffgkmaaGreatC4
set_option linter.unusedVariables false
set_option linter.unusedSimpArgs false
set_option maxRecDepth 20000
set_option maxHeartbeats 400000
namespace Go.Proofs.YtlpppjjlffgkmaaGreat
open Go
open Flat (enc)
theorem Ax {α : Type} {l : List α} {i : Nat} (h : i < l.length) : idx l (i : Int) = some l[i]:=by
 unfold idx
 rw [if_pos (by omega)]
 simp
theorem Xe {i : Nat} (h : i < 9223372036854775807) : wr ((i : Int) + 1) = ((i + 1 : Nat) : Int):=by
 rw [YT (by omega)]; rfl

section
variable {S T : Type} {f : S → Option (Fl S T)}
theorem Zc6 (g : Nat → S) (m n : Nat) (hmn : m ≤ n) (h : ∀ i, m ≤ i → i < n → f (g i) = some (.nx (g (i + 1)))) : ZD f (g m) = ZD f (g n) := by
  induction n with
  | zero => have : m = 0 := by omega
            subst this; rfl
  | succ n ih =>
    rcases Nat.lt_or_ge m (n + 1) with h1 | h1
    · rw [ih (by omega) (fun i h2 h3 => h i h2 (by omega)), Wo (h n (by omega) (by omega))]
    · have : m = n + 1 := by omega
      subst this; rfl
theorem Z3 (g : Nat → S) (m n : Nat) (hmn : m ≤ n) {t : T} (h : ∀ i,m ≤ i → i < n → f (g i) = some (.nx (g (i + 1)))) (he : f (g n) = some (.ex t)) : ZD f (g m) = some t:=by
 rw [Zc6 g m n hmn h,Xb he]
theorem Qw (g : Nat → S) (p : Nat → Bool) (t : Nat → T) {e : T} (n : Nat) : ∀ (k m : Nat),m + k = n → (∀ i,m ≤ i → i < n → f (g i) = some (if p i then .ex (t i) else .nx (g (i + 1)))) → f (g n) = some (.ex e) →
  ZD f (g m) = some (((List.range' m k).find? p).elim e t)
 | 0,m,hk,_,he=>by
  have : m = n:=by omega
  subst this
  rw [Xb he]; rfl
 | k + 1,m,hk,h,he=>by
  have h1:=h m (Nat.le_refl _) (by omega)
  rw [List.range'_succ,List.find?_cons]
  cases hp : p m with
  | true=>rw [hp] at h1; rw [Xb h1]; rfl
  | false =>
   rw [hp] at h1
   rw [Wo h1,Qw g p t n k (m + 1) (by omega) (fun i h2 h3=>h i (by omega) h3) he]
end

theorem zt {T : Type} {f : Int → Option (Fl Int (Fl Unit T))} (p : Nat → Bool) {t : T} {n m : Nat} (hm : m ≤ n)
  (h : ∀ i,m ≤ i → i < n → f (i : Int) = some (if p i then .ex (.ex t) else .nx ((i + 1 : Nat) : Int))) (he : f (n : Int) = some (.ex (.nx ()))) :
  ZD f (m : Int) = some (if (List.range' m (n - m)).any p then .ex t else .nx ()):=by
 rw [Qw (fun i : Nat=>(i : Int)) p (fun _=>.ex t) n (n - m) m (by omega) h he]
 cases hf : (List.range' m (n - m)).find? p with
 | none =>
  have : (List.range' m (n - m)).any p = false:=by
   rw [List.any_eq_false]
   rw [List.find?_eq_none] at hf
   exact hf
  rw [this]; rfl
 | some i =>
  have : (List.range' m (n - m)).any p = true:=by
   rw [List.any_eq_true]
   exact ⟨i,List.mem_of_find?_eq_some hf,List.find?_some hf⟩
  rw [this]; rfl
theorem VH {p : Nat → Bool} {m n : Nat} : (List.range' m (n - m)).any p = true ↔ ∃ i,m ≤ i ∧ i < n ∧ p i = true:=by
 rw [List.any_eq_true]
 simp only [List.mem_range'_1]
 constructor
 ·rintro ⟨i,⟨h1,h2⟩,h3⟩; exact ⟨i,h1,by omega,h3⟩
 ·rintro ⟨i,h1,h2,h3⟩; exact ⟨i,⟨h1,by omega⟩,h3⟩
theorem Zbl {α : Type} {q : α → Bool} {l : List α} {p : Nat → Bool} (hp : ∀ i (h : i < l.length),p i = q l[i]) : (List.range' 0 (l.length - 0)).any p = l.any q:=by
 rw [Bool.eq_iff_iff,VH,List.any_eq_true]
 constructor
 ·rintro ⟨i,_,h,h3⟩; exact ⟨l[i],List.getElem_mem h,by rw [← hp i h]; exact h3⟩
 ·rintro ⟨x,hx,h⟩
  obtain ⟨i,hi,rfl⟩:=List.mem_iff_getElem.1 hx
  exact ⟨i,Nat.zero_le _,hi,by rw [hp i hi]; exact h⟩

theorem Zaz {T α : Type} {f : Int → Option (Fl Int (Fl Unit T))} (l : List α) (q : α → Bool) {t : T} (hl : l.length < 9223372036854775807)
  (h : ∀ i (hi : i < l.length),f (i : Int) = some (if q l[i] then .ex (.ex t) else .nx (wr ((i : Int) + 1)))) (he : f (l.length : Int) = some (.ex (.nx ()))) :
  ZD f 0 = some (if l.any q then .ex t else .nx ()):=by
 have:=zt (f:=f) (fun i=>if hi : i < l.length then q l[i] else false) (t:=t) (n:=l.length) (m:=0) (Nat.zero_le _) (fun i _ hi=>by
  rw [h i hi,Xe (by omega)]; simp [hi]) he
 rw [Zbl (q:=q) (fun i hi=>by simp [hi])] at this
 exact this

class Wt (α : Type) [Dat α] where
 wt : α → Nat
 ln : α → Prop
 bdln : ∀ x,Dat.bd x → ln x
 wtln : ∀ x,wt x ≤ 1048576 → ln x
instance : Wt Int:=⟨fun _=>0,fun _=>True,fun _ _=>trivial,fun _ _=>trivial⟩
instance : Wt UInt8:=⟨fun _=>0,fun _=>True,fun _ _=>trivial,fun _ _=>trivial⟩
instance : Wt Bool:=⟨fun _=>0,fun _=>True,fun _ _=>trivial,fun _ _=>trivial⟩
instance : Wt Str:=⟨fun s=>s.l.length,fun s=>s.l.length ≤ 9223372036854775807,fun _ h=>h,fun _ h=>by omega⟩
instance {n : Nat} : Wt (Vector UInt8 n):=⟨fun _=>0,fun _=>True,fun _ _=>trivial,fun _ _=>trivial⟩
instance {n m : Nat} : Wt (Vector (Vector UInt8 m) n):=⟨fun _=>0,fun _=>True,fun _ _=>trivial,fun _ _=>trivial⟩
theorem qu {α : Type} {f : α → Nat} {l : List α} {x : α} (h : x ∈ l) : f x ≤ (l.map f).sum:=by
 induction l with
 | nil=>cases h
 | cons y l ih =>
  rw [List.map_cons,List.sum_cons]
  rcases List.mem_cons.1 h with rfl | h
  ·omega
  ·have:=ih h; omega
instance {α : Type} [Dat α] [Wt α] : Wt (List α):=⟨fun l=>l.length + (l.map Wt.wt).sum,fun l=>l.length ≤ 9223372036854775807 ∧ ∀ x ∈ l,Wt.ln x,fun _ h=>⟨h.1,fun x hx=>Wt.bdln x (h.2 x hx)⟩,
 fun l h=>⟨by omega,fun x hx=>Wt.wtln x (by have:=qu (f:=Wt.wt) hx; omega)⟩⟩
instance {α β : Type} [Dat α] [Dat β] [Wt α] [Wt β] : Wt (α × β):=⟨fun x=>Wt.wt x.1 + Wt.wt x.2,fun x=>Wt.ln x.1 ∧ Wt.ln x.2,fun x h=>⟨Wt.bdln x.1 h.1,Wt.bdln x.2 h.2⟩,fun x h=>⟨Wt.wtln x.1 (by omega),Wt.wtln x.2 (by omega)⟩⟩
theorem Am {α : Type} [Dat α] [Wt α] (l : List α) : Wt.wt l = l.length + (l.map Wt.wt).sum:=rfl
theorem wt_mem {α : Type} [Dat α] [Wt α] {l : List α} {x : α} (h : x ∈ l) : Wt.wt x ≤ (l.map Wt.wt).sum:=qu h
theorem qA {α : Type} [Dat α] [Wt α] {l : List α} {x : α} (h : x ∈ l) : Wt.wt x ≤ Wt.wt l:=by
 have:=wt_mem h; rw [Am]; omega
theorem Jc {α : Type} [Dat α] [Wt α] (l : List α) : l.length ≤ Wt.wt l:=by rw [Am]; omega
theorem VS {α : Type} [Dat α] [Wt α] {l : List α} (h : Wt.ln l) : l.length ≤ 9223372036854775807:=h.1
theorem yw {α : Type} [Dat α] [Wt α] {l : List α} {x : α} (h : Wt.ln l) (hx : x ∈ l) : Wt.ln x:=h.2 x hx

theorem QA {α β : Type} (p0 : List α) (c : α → Option β) (g : α → β) (by_ : Nat) (z : β) (L : List β × Int → Option (Fl (List β × Int) (List β)))
  (hL : ∀ s,L s = if (decide (s.2 < (p0.length : Int))) = true then ((idx p0 s.2).bind fun x=>(c x).bind fun r=>(idx s.1 s.2).bind fun _=>some (Fl.nx ((s.1.set (s.2).toNat r),wr (s.2 + 1)))) else (some (Fl.ex s.1)))
  (hc : ∀ x ∈ p0,c x = some (g x)) (hl : p0.length * by_ ≤ 140737488355328) (hl' : p0.length < 9223372036854775807) :
  ((mkS by_ z (p0.length : Int)).bind fun l1=>(ZD L (l1,0) : Option (List β)).bind fun j=>some j) = some (p0.map g):=by
 have hm : mkS by_ z (p0.length : Int) = some (List.replicate p0.length z):=by
  have h3 : ((p0.length * by_ : Nat) : Int) ≤ ((140737488355328 : Nat) : Int):=Int.ofNat_le.2 hl
  rw [Int.natCast_mul] at h3
  unfold mkS
  rw [if_pos ⟨by omega,h3⟩,Int.toNat_natCast]
 rw [hm]
 simp only [Option.bind_some]
 have hrun:=Z3 (f:=L) (fun i : Nat=>((p0.take i).map g ++ List.replicate (p0.length - i) z,(i : Int))) 0 p0.length (Nat.zero_le _) (t:=p0.map g) (fun i _ hi=>by
  rw [hL]
  simp only [Int.ofNat_lt,hi,decide_true,if_true,Ax hi,Option.bind_some,hc _ (List.getElem_mem hi)]
  rw [Ax (by simp; omega)]
  simp only [Option.bind_some,Xe (show i < 9223372036854775807 by omega),Int.toNat_natCast]
  congr 3
  rw [List.set_append_right _ _ (by simp; omega)]
  have e1 : p0.length - i = (p0.length - (i + 1)) + 1:=by omega
  have e2 : i - ((p0.take i).map g).length = 0:=by simp; omega
  rw [e1,List.replicate_succ,e2,List.set_cons_zero]
  rw [List.take_succ_eq_append_getElem hi,List.map_append,List.append_assoc]
  rfl) (by
  rw [hL]
  simp)
 simp at hrun
 simp [hrun]

theorem KJ {α : Type} (p0 : List α) (ne : α → α → Option Bool) (L : Int → Option (Fl Int (Fl Unit Bool)))
  (hL : ∀ s,L s = if (decide (s < (p0.length : Int))) = true then (((idx p0 s).bind fun x=>(idx p0 s).bind fun y=>ne x y : Option Bool).bind fun j=>if j = true then (some (Fl.ex (Fl.ex false))) else (some (Fl.nx (wr (s + 1))))) else (some (Fl.ex (Fl.nx ()))))
  (hn : ∀ x ∈ p0,ne x x = some false) (hl : p0.length ≤ 9223372036854775807) :
  (if ((p0.length : Int) != (p0.length : Int)) = true then (some false) else ((ZD L 0 : Option (Fl Unit Bool)).bind fun j2=>j2.el (fun _=>some true) (fun r=>some r))) = some true:=by
 have:=Z3 (f:=L) (fun i : Nat=>(i : Int)) 0 p0.length (Nat.zero_le _) (t:=.nx ()) (fun i _ hi=>by
  rw [hL]
  simp only [Int.ofNat_lt,hi,decide_true,if_true,Ax hi,Option.bind_some,hn _ (List.getElem_mem hi)]
  simp [Xe (show i < 9223372036854775807 by omega)]) (by
  rw [hL]; simp)
 have h2 : ZD L 0 = some (.nx ()):=this
 simp [h2,Fl.el]

def Wp {α : Type} [Dat α] [Wt α] (f : α → Int → Option Int) (x : α) : Prop:=∀ left : Int,0 ≤ left → left ≤ 1048576 → ∃ r,f x left = some r ∧ r ≤ 1048576 ∧ (0 ≤ r → r + Wt.wt x ≤ left)
theorem Ke {α : Type} [Dat α] [Wt α] {l : List α} (h0 : ∀ x : α,Wt.wt x = 0) (f : List α → Int → Option Int)
  (hf : ∀ left,f l left = if (decide ((wr (left - (l.length : Int))) < 0)) = true then (some (-1)) else (some (wr (left - (l.length : Int))))) (hl : l.length ≤ 9223372036854775807) : Wp f l:=by
 intro left h1 h2
 have hs : (l.map Wt.wt).sum = 0:=by
  clear hf hl
  induction l with
  | nil=>rfl
  | cons x l ih=>rw [List.map_cons,List.sum_cons,h0,ih]
 have hw : Wt.wt l = l.length:=by rw [Am,hs]; rfl
 rw [hf,YT (by omega),hw]
 by_cases h : left - (l.length : Int) < 0
 ·exact ⟨-1,by simp [h],by omega,by omega⟩
 ·exact ⟨left - l.length,by simp [h],by omega,by omega⟩
theorem zc {α : Type} [Dat α] [Wt α] {p0 : List α} (f : List α → Int → Option Int) (c : α → Int → Option Int) (L : Int × Int → Option (Fl (Int × Int) (Fl Int Int)))
  (hL : ∀ s,L s = if (decide (s.2 < (p0.length : Int))) = true then ((idx p0 s.2).bind fun x=>(c x s.1).bind fun r=>if (decide (r < 0)) = true then (some (Fl.ex (Fl.ex (-1)))) else (some (Fl.nx (r,wr (s.2 + 1))))) else (some (Fl.ex (Fl.nx s.1))))
  (hf : ∀ left,f p0 left = if (decide ((wr (left - (p0.length : Int))) < 0)) = true then (some (-1)) else ((ZD L (wr (left - (p0.length : Int)),0) : Option (Fl Int Int)).bind fun j2=>j2.el (fun s=>some s) (fun r=>some r)))
  (hl : p0.length ≤ 9223372036854775807) (hc : ∀ x ∈ p0,Wp c x) : Wp f p0:=by
 intro left h1 h2
 rw [hf,YT (by omega)]
 by_cases h : left - (p0.length : Int) < 0
 ·exact ⟨-1,by simp [h],by omega,by omega⟩
 simp only [h,decide_false,Bool.false_eq_true,if_false]
 have key : ∀ (k m : Nat) (a : Int),m + k = p0.length → 0 ≤ a → a ≤ 1048576 → ∃ o : Fl Int Int,ZD L (a,(m : Int)) = some o ∧ ((o = .ex (-1)) ∨ ∃ r,o = .nx r ∧ 0 ≤ r ∧ r + (((p0.drop m).map Wt.wt).sum : Nat) ≤ a):=by
  intro k
  induction k with
  | zero =>
   intro m a hm h0 h3
   have : m = p0.length:=by omega
   subst this
   refine ⟨.nx a,?_,.inr ⟨a,rfl,h0,?_⟩⟩
   ·rw [Xb (t:=.nx a)]; rw [hL]; simp
   ·simp
  | succ k ih =>
   intro m a hm h0 h3
   have hi : m < p0.length:=by omega
   obtain ⟨r,e1,e2,e3⟩:=hc _ (List.getElem_mem hi) a h0 h3
   have hst : L (a,(m : Int)) = (if (decide (r < 0)) = true then (some (Fl.ex (Fl.ex (-1)))) else (some (Fl.nx (r,((m + 1 : Nat) : Int))))):=by
    rw [hL]
    simp only [Int.ofNat_lt,hi,decide_true,if_true,Ax hi,Option.bind_some,e1,Xe (show m < 9223372036854775807 by omega)]
   by_cases hr : r < 0
   ·simp only [hr,decide_true,if_true] at hst
    exact ⟨_,Xb hst,.inl rfl⟩
   ·simp only [hr,decide_false,Bool.false_eq_true,if_false] at hst
    obtain ⟨o,k1,k2⟩:=ih (m + 1) r (by omega) (by omega) e2
    refine ⟨o,by rw [Wo hst]; exact k1,k2.imp id ?_⟩
    rintro ⟨q,rfl,q1,q2⟩
    refine ⟨q,rfl,q1,?_⟩
    have e3:=e3 (by omega)
    rw [List.drop_eq_getElem_cons hi,List.map_cons,List.sum_cons]
    omega
 obtain ⟨o,k1,k2⟩:=key p0.length 0 (left - p0.length) (by omega) (by omega) (by omega)
 have k1' : ZD L (left - (p0.length : Int),0) = some o:=k1
 rw [k1']
 rcases k2 with rfl | ⟨r,rfl,q1,q2⟩
 ·exact ⟨-1,rfl,by omega,by omega⟩
 ·refine ⟨r,rfl,by omega,fun _=>?_⟩
  rw [List.drop_zero] at q2
  rw [Am]; omega
@[simp] theorem XV {α : Type} (l : List α) (i : Nat) : idx l (i : Int) = l[i]?:=by unfold idx; simp
@[simp] theorem idx_zero {α : Type} (l : List α) : idx l (0 : Int) = l[0]?:=XV l 0
theorem Bz {T : Type} {f : Int → Option (Fl Int (Fl Unit T))} (n : Nat) (p : Nat → Bool) (t : Nat → T) (hn : n < 9223372036854775807)
  (h : ∀ i,i < n → f (i : Int) = some (if p i then .ex (.ex (t i)) else .nx (wr ((i : Int) + 1)))) (he : f (n : Int) = some (.ex (.nx ()))) (m : Nat) (hm : m ≤ n) :
  ZD f (m : Int) = some (match (List.range' m (n - m)).find? p with | some i=>.ex (t i) | none=>.nx ()):=by
 rw [Qw (fun i : Nat=>(i : Int)) p (fun i=>.ex (t i)) n (n - m) m (by omega) (fun i _ hi=>by rw [h i hi,Xe (by omega)]) he]
 cases (List.range' m (n - m)).find? p <;> rfl
theorem Jv {T : Type} {f : Int → Option (Fl Int (Fl Unit T))} (n : Nat) (p : Nat → Bool) (t : T) (hn : n < 9223372036854775807)
  (h : ∀ i,i < n → f (i : Int) = some (if p i then .ex (.ex t) else .nx (wr ((i : Int) + 1)))) (he : f (n : Int) = some (.ex (.nx ()))) (m : Nat) (hm : m ≤ n) :
  ZD f (m : Int) = some (if (List.range' m (n - m)).any p then .ex t else .nx ()) :=
 zt p hm (fun i _ hi=>by rw [h i hi,Xe (by omega)]) he
theorem JD {T : Type} {f : Int → Option (Fl Int (Fl Unit T))} (n : Nat) (p : Nat → Bool) (t : T) (hn : n < 9223372036854775807) (m : Nat) (hm : m ≤ n)
  (h : ∀ i,m ≤ i → i < n → f (i : Int) = some (if p i then .ex (.ex t) else .nx (wr ((i : Int) + 1)))) (he : f (n : Int) = some (.ex (.nx ()))) :
  ZD f (m : Int) = some (if (List.range' m (n - m)).any p then .ex t else .nx ()) :=
 zt p hm (fun i hmi hi=>by rw [h i hmi hi,Xe (by omega)]) he
theorem z1 {α β S T : Type} {f : S → Option (Fl S T)} (l : List α) (pack : β → Int → S) (g : β → α → β) (b0 : β) {t : T} (hn : l.length < 9223372036854775807)
  (h : ∀ i (hi : i < l.length),f (pack ((l.take i).foldl g b0) (i : Int)) = some (.nx (pack (g ((l.take i).foldl g b0) l[i]) (wr ((i : Int) + 1))))) (he : f (pack (l.foldl g b0) (l.length : Int)) = some (.ex t)) :
  ZD f (pack b0 0) = some t:=by
 have:=Z3 (f:=f) (fun i : Nat=>pack ((l.take i).foldl g b0) (i : Int)) 0 l.length (Nat.zero_le _) (t:=t) (fun i _ hi=>by
  rw [h i hi,Xe (by omega)]
  congr 3
  rw [List.take_succ_eq_append_getElem hi,List.foldl_append]; rfl) (by rw [List.take_length]; exact he)
 simpa using this
theorem Qu {α : Type} {by_ : Nat} {l m : List α} (h : (l.length + m.length) * by_ ≤ 140737488355328) : app by_ l m = some (l ++ m):=by unfold app; rw [if_pos h]
theorem J5 {α : Type} {l : List α} {i j : Nat} (h : i ≤ j) (h2 : j ≤ l.length) : slc l (i : Int) (j : Int) = some ((l.take j).drop i):=by
 unfold slc; rw [if_pos (by omega)]; simp

theorem Km {α : Type} {n : Nat} {v w : Vector α n} (h : ∀ i (hi : i < n),v[i] = w[i]) : v = w:=Vector.ext h
@[simp] theorem WX {α : Type} {n : Nat} (v : Vector α n) (i : Nat) : ZC v (i : Int) = v[i]?:=by unfold ZC; simp
theorem Jd {n : Nat} (p0 : Vector UInt8 n) (L : Vector UInt8 n × Int → Option (Fl (Vector UInt8 n × Int) (Vector UInt8 n)))
  (hL : ∀ s,L s = if decide (s.2 < (n : Int)) = true then ((ZC p0 s.2).bind fun x=>(ZC s.1 s.2).bind fun _=>some (Fl.nx (s.1.setIfInBounds (s.2).toNat x,wr (s.2 + 1)))) else (some (Fl.ex s.1))) (hn : n < 9223372036854775807) (z : Vector UInt8 n) :
  ZD L (z,0) = some p0:=by
 have:=Z3 (f:=L) (fun i : Nat=>(Vector.ofFn fun j : Fin n=>if j.1 < i then p0[j] else z[j],(i : Int))) 0 n (Nat.zero_le _) (t:=p0) (fun i _ hi=>by
  rw [hL]
  simp only [Int.ofNat_lt,hi,decide_true,if_true,WX,Vector.getElem?_eq_getElem hi,Option.bind_some,Int.toNat_natCast,Xe (show i < 9223372036854775807 by omega)]
  congr 3
  apply Km
  intro j hj
  rw [Vector.getElem_setIfInBounds]
  simp only [Vector.getElem_ofFn,Fin.getElem_fin]
  by_cases h : i = j
  ·subst h; simp
  ·by_cases h2 : j < i
   ·simp [h,h2,show j < i + 1 by omega]
   ·simp [h,h2,show ¬ j < i + 1 by omega]) (by
  rw [hL]
  simp only [Int.ofNat_lt,Nat.lt_irrefl,decide_false,Bool.false_eq_true,if_false]
  congr 2
  apply Km
  intro j hj
  simp [hj])
 have h0 : (Vector.ofFn fun j : Fin n=>if j.1 < 0 then p0[j] else z[j]) = z:=by
  apply Km
  intro j hj
  simp
 rw [h0] at this
 exact this
theorem A6 {n : Nat} (p0 : Vector UInt8 n) (L : Int → Option (Fl Int (Fl Unit Bool)))
  (hL : ∀ s,L s = if decide (s < (n : Int)) = true then (((ZC p0 s).bind fun x=>(ZC p0 s).bind fun y=>some (x != y) : Option Bool).bind fun j=>if j = true then (some (Fl.ex (Fl.ex false))) else (some (Fl.nx (wr (s + 1))))) else (some (Fl.ex (Fl.nx ())))) (hn : n < 9223372036854775807) :
  ((ZD L 0 : Option (Fl Unit Bool)).bind fun j5=>j5.el (fun _=>some true) (fun r=>some r)) = some true:=by
 have:=Z3 (f:=L) (fun i : Nat=>(i : Int)) 0 n (Nat.zero_le _) (t:=.nx ()) (fun i _ hi=>by
  rw [hL]
  simp only [Int.ofNat_lt,hi,decide_true,if_true,WX,Vector.getElem?_eq_getElem hi,Option.bind_some]
  simp [Xe (show i < 9223372036854775807 by omega)]) (by rw [hL]; simp)
 have h2 : ZD L 0 = some (.nx ()):=this
 rw [h2]; rfl

theorem JB (l : List UInt8) (h : Wt.wt l ≤ 1048576) : Xr l = some l:=by
 have:=Jc l
 unfold Xr
 have:=QA l (fun x=>some x) id 1 0 (T0 l) (fun s=>by unfold T0; rfl) (fun _ _=>rfl) (by omega) (by omega)
 simpa using this
theorem JC (l : List UInt8) (h : Wt.ln l) : Xo l l = some true:=by
 unfold Xo
 exact KJ l (fun x y=>some (x != y)) (TX l l) (fun s=>by unfold TX; rfl) (fun x _=>by simp) (VS h)
theorem JA (l : List UInt8) (h : Wt.ln l) : Wp YL l :=
 Ke (fun _=>rfl) YL (fun left=>by unfold YL; rfl) (VS h)
theorem kX (l : List Int) (h : Wt.ln l) : V4 l l = some true:=by
 unfold V4
 exact KJ l (fun x y=>some (x != y)) (To l l) (fun s=>by unfold To; rfl) (fun x _=>by simp) (VS h)
theorem kG (l : List (List UInt8)) (h : Wt.wt l ≤ 1048576) : Us l = some l:=by
 have:=Jc l
 unfold Us
 have:=QA l Xr id 24 [] (Tq l) (fun s=>by unfold Tq; rfl) (fun x hx=>JB x (Nat.le_trans (qA hx) h)) (by omega) (by omega)
 simpa using this
theorem qn (l : List (List UInt8)) (h : Wt.ln l) : V6 l l = some true:=by
 unfold V6
 exact KJ l (fun x y=>(Xo x y).bind fun r=>some (!r)) (Tf l l) (fun s=>by unfold Tf; rfl) (fun x hx=>by simp [JC x (yw h hx)]) (VS h)
theorem qb (l : List (List UInt8)) (h : Wt.ln l) : Wp Wi l :=
 zc Wi YL (Tk l) (fun s=>by unfold Tk; rfl) (fun left=>by unfold Wi; rfl) (VS h) (fun x hx=>JA x (yw h hx))
instance : Wt GRecord:=⟨fun x=>Wt.wt x.Label + Wt.wt x.Body,fun x=>Wt.ln x.Label ∧ Wt.ln x.Body,fun x h=>⟨Wt.bdln x.Label h.2.2.2.1,Wt.bdln x.Body h.2.2.2.2.1⟩,fun x h=>⟨Wt.wtln x.Label (by omega),Wt.wtln x.Body (by omega)⟩⟩
instance : Wt GEvent:=⟨fun _=>0,fun _=>True,fun _ _=>trivial,fun _ _=>trivial⟩
instance : Wt GVault:=⟨fun x=>Wt.wt x.Keys + (Wt.wt x.Records + Wt.wt x.Events),fun x=>Wt.ln x.Keys ∧ Wt.ln x.Records ∧ Wt.ln x.Events,fun x h=>⟨Wt.bdln x.Keys h.1,Wt.bdln x.Records h.2.2.1,Wt.bdln x.Events h.2.2.2.1⟩,
 fun x h=>⟨Wt.wtln x.Keys (by omega),Wt.wtln x.Records (by omega),Wt.wtln x.Events (by omega)⟩⟩
theorem Bv (x : Vector UInt8 16) : Xq x = some x:=by
 unfold Xq
 rw [Jd x (TZ x) (fun s=>by unfold TZ; rfl) (by omega)]; rfl
theorem KU (x : Vector UInt8 32) : Y6 x = some x:=by
 unfold Y6
 rw [Jd x (Tg x) (fun s=>by unfold Tg; rfl) (by omega)]; rfl
theorem HP (x : Vector UInt8 16) : Xk x x = some true:=by
 unfold Xk
 exact A6 x (TW x x) (fun s=>by unfold TW; rfl) (by omega)
theorem KI (x : Vector UInt8 32) : Y5 x x = some true:=by
 unfold Y5
 exact A6 x (TB x x) (fun s=>by unfold TB; rfl) (by omega)
theorem ke (l : List (Vector UInt8 16)) (h : Wt.wt l ≤ 1048576) : Uf l = some l:=by
 have:=Jc l
 unfold Uf
 have:=QA l Xq id 16 (Vector.replicate 16 0) (Th l) (fun s=>by unfold Th; rfl) (fun x _=>Bv x) (by omega) (by omega)
 simpa using this
theorem kA (l : List (Vector UInt8 16)) (h : Wt.ln l) : Un l l = some true:=by
 unfold Un
 exact KJ l (fun x y=>(Xk x y).bind fun r=>some (!r)) (Tn l l) (fun s=>by unfold Tn; rfl) (fun x _=>by simp [HP x]) (VS h)
theorem kW (l : List (Vector UInt8 16)) (h : Wt.ln l) : Wp W0 l :=
 Ke (fun _=>rfl) W0 (fun left=>by unfold W0; rfl) (VS h)
theorem kp (x : GRecord) (h : Wt.wt x ≤ 1048576) : W5 x = some x:=by
 have h : Wt.wt x.Label + Wt.wt x.Body ≤ 1048576:=h
 unfold W5
 simp [Bv,KU,JB x.Label (by omega),JB x.Body (by omega)]
theorem jH (l : List GRecord) (h : Wt.wt l ≤ 1048576) : VM l = some l:=by
 have:=Jc l
 unfold VM
 have:=QA l W5 id 112 ⟨0,0,Vector.replicate 16 0,[],[],Vector.replicate 32 0⟩ (UG l) (fun s=>by unfold UG; rfl) (fun x hx=>kp x (Nat.le_trans (qA hx) h)) (by omega) (by omega)
 simpa using this
theorem kL (x : GRecord) (h : Wt.ln x) : WZ x x = some true:=by
 unfold WZ
 simp [HP,KI,JC x.Label h.1,JC x.Body h.2]
theorem jR (l : List GRecord) (h : Wt.ln l) : VC l l = some true:=by
 unfold VC
 exact KJ l (fun x y=>(WZ x y).bind fun r=>some (!r)) (UF l l) (fun s=>by unfold UF; rfl) (fun x hx=>by simp [kL x (yw h hx)]) (VS h)
theorem T4 {α β : Type} [Dat α] [Wt α] [Dat β] [Wt β] {f : α → Int → Option Int} {g : β → Int → Option Int} {x : α} {y : β} (hf : Wp f x) (hg : Wp g y) (left : Int) (h1 : 0 ≤ left) (h2 : left ≤ 1048576) :
  ∃ r,((f x left).bind fun r=>if decide (r < 0) = true then some (-1) else g y r) = some r ∧ r ≤ 1048576 ∧ (0 ≤ r → r + (Wt.wt x + Wt.wt y : Nat) ≤ left):=by
 obtain ⟨r,e1,e2,e3⟩:=hf left h1 h2
 rw [e1]
 by_cases hr : r < 0
 ·exact ⟨-1,by simp [hr],by omega,by omega⟩
 ·have e3:=e3 (by omega)
  obtain ⟨q,k1,k2,k3⟩:=hg r (by omega) e2
  refine ⟨q,by simp [hr,k1],k2,fun hq=>?_⟩
  have:=k3 hq
  omega
theorem JE {f : Option Int} {left w : Int} (h : ∃ r,f = some r ∧ r ≤ 1048576 ∧ (0 ≤ r → r + w ≤ left)) : ∃ r,(f.bind fun r=>if decide (r < 0) = true then some (-1) else some r) = some r ∧ r ≤ 1048576 ∧ (0 ≤ r → r + w ≤ left):=by
 obtain ⟨r,e1,e2,e3⟩:=h
 by_cases hr : r < 0
 ·exact ⟨-1,by simp [e1,hr],by omega,by omega⟩
 ·exact ⟨r,by simp [e1,hr],e2,e3⟩
theorem kQ (x : GRecord) (h : Wt.ln x) : Wp V7 x:=by
 intro left h1 h2
 have h3 : Wp (fun (y : List UInt8) r=>(YL y r).bind fun r=>if decide (r < 0) = true then some (-1) else some r) x.Body:=fun left h1 h2=>JE (JA x.Body h.2 left h1 h2)
 have:=T4 (JA x.Label h.1) h3 left h1 h2
 exact this
theorem jW (l : List GRecord) (h : Wt.ln l) : Wp XI l :=
 zc XI V7 (UE l) (fun s=>by unfold UE; rfl) (fun left=>by unfold XI; rfl) (VS h) (fun x hx=>kQ x (yw h hx))
theorem Zag (x : GEvent) : VR x = some x:=by
 unfold VR
 simp [KU]
theorem kN (l : List GEvent) (h : Wt.wt l ≤ 1048576) : Ul l = some l:=by
 have:=Jc l
 unfold Ul
 have:=QA l VR id 48 ⟨0,0,Vector.replicate 32 0⟩ (Tc l) (fun s=>by unfold Tc; rfl) (fun x _=>Zag x) (by omega) (by omega)
 simpa using this
theorem qW (x : GEvent) : VN x x = some true:=by
 unfold VN
 simp [KI]
theorem kE (l : List GEvent) (h : Wt.ln l) : Ud l l = some true:=by
 unfold Ud
 exact KJ l (fun x y=>(VN x y).bind fun r=>some (!r)) (TA l l) (fun s=>by unfold TA; rfl) (fun x _=>by simp [qW x]) (VS h)
theorem ku (l : List GEvent) (h : Wt.ln l) : Wp XA l :=
 Ke (fun _=>rfl) XA (fun left=>by unfold XA; rfl) (VS h)
theorem Zbd (x : GVault) : Wt.wt x = Wt.wt x.Keys + (Wt.wt x.Records + Wt.wt x.Events):=rfl
theorem qX (x : GVault) (h : Wt.wt x ≤ 1048576) : UZ x = some x:=by
 rw [Zbd] at h
 unfold UZ
 simp [KU,ke x.Keys (by omega),jH x.Records (by omega),kN x.Events (by omega)]
theorem Zaq (x : GVault) (h : Wt.ln x) : UO x x = some true:=by
 unfold UO
 simp [KI,kA x.Keys h.1,jR x.Records h.2.1,kE x.Events h.2.2]
theorem Zaw (x : GVault) (h : Wt.ln x) : Wp UM x:=by
 intro left h1 h2
 have h3 : Wp (fun (y : List GEvent) r=>(XA y r).bind fun r=>if decide (r < 0) = true then some (-1) else some r) x.Events:=fun left h1 h2=>JE (ku x.Events h.2.2 left h1 h2)
 have h4 : Wp (α:=List GRecord × List GEvent) (fun y r=>(XI y.1 r).bind fun r=>if decide (r < 0) = true then some (-1) else (XA y.2 r).bind fun r=>if decide (r < 0) = true then some (-1) else some r) (x.Records,x.Events):=fun left h1 h2=>T4 (jW x.Records h.2.1) h3 left h1 h2
 exact T4 (kW x.Keys h.1) h4 left h1 h2
theorem QY (n a b : Int) : Yp n a b = some (decide (a ≤ n ∧ n ≤ b)):=by
 unfold Yp
 by_cases h1 : a ≤ n <;> by_cases h2 : n ≤ b <;> simp [h1,h2]
theorem HB (n a b : Int) : XN n a b = some (decide (a ≤ n ∧ n ≤ b)):=by
 unfold XN
 by_cases h1 : a ≤ n <;> by_cases h2 : n ≤ b <;> simp [h1,h2]
theorem Zc3 {α : Type} (l : List α) (p : α → Option Bool) (q : α → Bool) (L : Int → Option (Fl Int (Fl Unit Int)))
  (hL : ∀ s,L s = if (decide (s < (l.length : Int))) = true then ((idx l s).bind fun x=>((p x)).bind fun r=>if r = true then (some (Fl.ex (Fl.ex s))) else (some (Fl.nx (wr (s + 1))))) else (some (Fl.ex (Fl.nx ()))))
  (hl : l.length < 9223372036854775807) (hp : ∀ x ∈ l,p x = some (q x)) :
  ((ZD L 0 : Option (Fl Unit Int)).bind fun j1=>j1.el (fun _=>some (-1)) (fun r=>some r)) = some (match l.findIdx? q with | some i=>(i : Int) | none=>-1):=by
 have h:=Bz (f:=L) l.length (fun i=>(l[i]?.map q).getD false) (fun i=>(i : Int)) hl (fun i hi=>by
  rw [hL]
  simp only [Int.ofNat_lt,hi,decide_true,if_true,XV,List.getElem?_eq_getElem hi,Option.bind_some,Option.map_some,Option.getD_some,hp _ (List.getElem_mem hi)]
  split <;> rfl) (by rw [hL]; simp) 0 (Nat.zero_le _)
 have h3 : ZD L 0 = _:=h
 rw [h3]
 have key : (List.range' 0 (l.length - 0)).find? (fun i=>(l[i]?.map q).getD false) = l.findIdx? q:=by
  rw [Nat.sub_zero,← List.range_eq_range']
  clear h h3 hL hp hl
  induction l with
  | nil=>rfl
  | cons x l ih =>
   rw [List.length_cons,List.range_succ_eq_map,List.find?_cons,List.findIdx?_cons]
   simp only [List.getElem?_cons_zero,Option.map_some,Option.getD_some]
   cases q x with
   | true=>rfl
   | false =>
    simp only [Bool.false_eq_true,if_false]
    rw [List.find?_map,← ih]
    congr 1
 rw [key]
 cases l.findIdx? q <;> rfl
theorem has_of {α : Type} (l : List α) (q : α → Bool) : decide ((match l.findIdx? q with | some i=>(i : Int) | none=>-1) ≥ 0) = l.any q:=by
 rw [Bool.eq_iff_iff,decide_eq_true_eq]
 cases h : l.findIdx? q with
 | none =>
  have:=List.findIdx?_eq_none_iff.1 h
  simp
  exact this
 | some i =>
  have h2:=List.findIdx?_eq_some_iff_getElem.1 h
  obtain ⟨hi,hq,_⟩:=h2
  simp
  exact ⟨_,List.getElem_mem hi,hq⟩
def U4 (e : GEvent) : Bool:=decide ((1 ≤ e.Kind ∧ e.Kind ≤ 4) ∧ (0 ≤ e.Number ∧ e.Number ≤ 1000000))
theorem qa (e : GEvent) : Ue e = some (U4 e):=by
 unfold Ue U4
 simp only [HB,Option.bind_some]
 by_cases h1 : (1 ≤ e.Kind ∧ e.Kind ≤ 4) <;> by_cases h2 : (0 ≤ e.Number ∧ e.Number ≤ 1000000) <;> simp [h1,h2]
theorem qZ (e : GEvent) : U6 e = some (U4 e):=by
 unfold U6 U4 TT
 simp only [QY,Option.bind_some]
 by_cases h1 : (1 ≤ e.Kind ∧ e.Kind ≤ 4) <;> by_cases h2 : (0 ≤ e.Number ∧ e.Number ≤ 1000000) <;> simp [h1,h2]
theorem B7 (l : List GEvent) (p : GEvent → Option Bool) (q : GEvent → Bool) (hl : l.length < 9223372036854775807) (hp : ∀ x ∈ l,p x = some (q x)) : ZV l p = some (l.any q):=by
 unfold ZV Ye
 rw [Zc3 l p q _ (fun s=>by unfold Yz; rfl) hl hp]
 simp only [Option.bind_some,has_of]
def QT (l : List GRecord) : Nat → Int
 | 0=>0
 | i + 1=>(l[i]?.map (·.Number)).getD 0
def yK (v : GVault) (r : GRecord) : Bool:=!decide ((0 : Int) ≤ r.Version ∧ r.Version ≤ (v.Keys.length : Int) - 1) || decide (32 < r.Label.length) || decide (200 < r.Body.length)
def BU (v : GVault) (i : Nat) : Bool:=match v.Records[i]? with
 | some r=>decide (r.Number ≤ QT v.Records i) || decide (r.Number ≥ v.Next) || yK v r
 | none=>false
def badI (v : GVault) (i : Nat) : Bool:=match v.Records[i]? with
 | some r=>!decide (1 ≤ r.Number ∧ r.Number ≤ v.Next - 1) || (decide (0 < i) && decide (QT v.Records i ≥ r.Number)) || yK v r
 | none=>false
def Hk (v : GVault) : Bool:=decide (1 ≤ v.Keys.length ∧ v.Keys.length ≤ 8 ∧ 1 ≤ v.Next ∧ v.Next ≤ 1000000 ∧ v.Records.length ≤ 12 ∧ v.Events.length ≤ 60)
def TO (v : GVault) : Bool:=Hk v && !((List.range' 0 (v.Records.length - 0)).any (BU v)) && v.Events.all U4
theorem Zbu (v : GVault) : (List.range' 0 (v.Records.length - 0)).any (badI v) = (List.range' 0 (v.Records.length - 0)).any (BU v):=by
 have h : ∀ b c : Bool,(b = false ↔ c = false) → b = c:=by intro b c; cases b <;> cases c <;> simp
 apply h
 rw [List.any_eq_false,List.any_eq_false]
 simp only [List.mem_range'_1,Nat.zero_le,true_and,Nat.sub_zero,Nat.zero_add,Bool.not_eq_true]
 constructor
 ·intro hI i hi
  have h1:=hI i hi
  unfold badI BU at *
  rw [List.getElem?_eq_getElem hi] at h1 ⊢
  simp only [Bool.or_eq_false_iff,Bool.not_eq_false',decide_eq_true_eq,Bool.and_eq_false_iff,decide_eq_false_iff_not] at h1 ⊢
  refine ⟨⟨?_,by omega⟩,h1.2⟩
  cases i with
  | zero=>simp only [QT]; omega
  | succ i =>
   rcases h1.1.2 with h2 | h2
   ·omega
   ·omega
 ·intro hS
  have pos : ∀ i,i < v.Records.length → 0 ≤ QT v.Records i ∧ QT v.Records i < (v.Records[i]?.map (·.Number)).getD 0:=by
   intro i
   induction i with
   | zero =>
    intro hi
    have h1:=hS 0 hi
    unfold BU at h1
    rw [List.getElem?_eq_getElem hi] at h1 ⊢
    simp only [Bool.or_eq_false_iff,decide_eq_false_iff_not,Option.map_some,Option.getD_some] at h1 ⊢
    have e : QT v.Records 0 = 0:=rfl
    have h2:=h1.1.1
    rw [e] at h2 ⊢
    omega
   | succ i ih =>
    intro hi
    have h0:=ih (by omega)
    have h1:=hS (i + 1) hi
    unfold BU at h1
    have e : QT v.Records (i + 1) = (v.Records[i]?.map (·.Number)).getD 0:=rfl
    rw [List.getElem?_eq_getElem hi] at h1 ⊢
    simp only [Bool.or_eq_false_iff,decide_eq_false_iff_not,Option.map_some,Option.getD_some] at h1 ⊢
    rw [e] at h1 ⊢
    omega
  intro i hi
  have h1:=hS i hi
  have h2:=pos i hi
  unfold badI BU at *
  rw [List.getElem?_eq_getElem hi] at h1 h2 ⊢
  simp only [Bool.or_eq_false_iff,Bool.not_eq_false',decide_eq_true_eq,Bool.and_eq_false_iff,decide_eq_false_iff_not,Option.map_some,Option.getD_some] at h1 h2 ⊢
  exact ⟨⟨by omega,.inr (by omega)⟩,h1.2⟩
theorem Zdf (v : GVault) (hb : Wt.ln v) : Qs v = some (TO v):=by
 have hb1:=VS hb.1; have hb2:=VS hb.2.1; have hb3:=VS hb.2.2
 unfold Qs
 simp only [HB,Option.bind_some]
 by_cases hh : Hk v = true
 ·have hh' : 1 ≤ v.Keys.length ∧ v.Keys.length ≤ 8 ∧ 1 ≤ v.Next ∧ v.Next ≤ 1000000 ∧ v.Records.length ≤ 12 ∧ v.Events.length ≤ 60:=by simpa [Hk] using hh
  have c1 : ¬ ((v.Keys.length : Int) < 1):=by omega
  have c2 : ¬ ((v.Keys.length : Int) > 8):=by omega
  have c3 : 1 ≤ v.Next ∧ v.Next ≤ 1000000:=by omega
  have c4 : ¬ ((v.Records.length : Int) > 12):=by omega
  have c5 : ¬ ((v.Events.length : Int) > 60):=by omega
  simp only [c1,c2,c3,c4,c5,decide_false,decide_true,and_self,Bool.not_true,Bool.false_eq_true,if_false,Option.bind_some]
  have hw : wr ((v.Keys.length : Int) - 1) = (v.Keys.length : Int) - 1:=YT (by omega)
  have h1:=Qw (f:=Uw v) (fun i : Nat=>(QT v.Records i,(i : Int))) (BU v) (fun _=>(.ex false : Fl Unit Bool)) (e:=.nx ()) v.Records.length v.Records.length 0 (by omega) (fun i _ hi=>by
   unfold Uw BU
   simp only [Int.ofNat_lt,hi,decide_true,if_true,XV,List.getElem?_eq_getElem hi,Option.bind_some,HB,hw,Xe (show i < 9223372036854775807 by omega)]
   have e : QT v.Records (i + 1) = v.Records[i].Number:=by simp [QT,List.getElem?_eq_getElem hi]
   rw [e]
   unfold yK
   by_cases d1 : v.Records[i].Number ≤ QT v.Records i
   ·simp [d1]
   ·by_cases d2 : v.Records[i].Number ≥ v.Next
    ·simp [d1,d2]
    ·by_cases d3 : (0 : Int) ≤ v.Records[i].Version ∧ v.Records[i].Version ≤ (v.Keys.length : Int) - 1
     ·by_cases d4 : 32 < v.Records[i].Label.length
      ·have d4' : (v.Records[i].Label.length : Int) > 32:=by omega
       simp [d1,d2,d3,d4,d4']
      ·have d4' : ¬ ((v.Records[i].Label.length : Int) > 32):=by omega
       by_cases d5 : 200 < v.Records[i].Body.length
       ·have d5' : (v.Records[i].Body.length : Int) > 200:=by omega
        simp [d1,d2,d3,d4,d4',d5,d5']
       ·have d5' : ¬ ((v.Records[i].Body.length : Int) > 200):=by omega
        simp [d1,d2,d3,d4,d4',d5,d5']
     ·simp [d1,d2,d3]) (by unfold Uw; simp)
  have h2 : ZD (Uw v) (0,0) = _:=h1
  rw [h2]
  have h3:=Zaz (f:=TG v) v.Events (fun e=>!U4 e) (t:=false) (by omega) (fun i hi=>by
   unfold TG
   simp only [Int.ofNat_lt,hi,decide_true,if_true,XV,List.getElem?_eq_getElem hi,Option.bind_some,qa]
   cases U4 v.Events[i] <;> simp) (by unfold TG; simp)
  rw [h3]
  unfold TO
  rw [hh,Nat.sub_zero]
  cases hf : (List.range' 0 v.Records.length).find? (BU v) with
  | none =>
   have : (List.range' 0 v.Records.length).any (BU v) = false:=by
    rw [List.any_eq_false]; exact List.find?_eq_none.1 hf
   rw [this,List.any_eq_not_all_not]
   simp only [Bool.not_not]
   cases v.Events.all U4 <;> rfl
  | some i =>
   have : (List.range' 0 v.Records.length).any (BU v) = true:=by
    rw [List.any_eq_true]; exact ⟨i,List.mem_of_find?_eq_some hf,List.find?_some hf⟩
   rw [this]; rfl
 ·have hf : Hk v = false:=by simpa using hh
  unfold TO
  rw [hf]
  have hh' : ¬ (1 ≤ v.Keys.length ∧ v.Keys.length ≤ 8 ∧ 1 ≤ v.Next ∧ v.Next ≤ 1000000 ∧ v.Records.length ≤ 12 ∧ v.Events.length ≤ 60):=by simpa [Hk] using hf
  by_cases c1 : ((v.Keys.length : Int) < 1)
  ·simp [c1]
  ·by_cases c2 : ((v.Keys.length : Int) > 8)
   ·simp [c1,c2]
   ·by_cases c3 : 1 ≤ v.Next ∧ v.Next ≤ 1000000
    ·by_cases c4 : ((v.Records.length : Int) > 12)
     ·simp [c1,c2,c3,c4]
     ·have c5 : ((v.Events.length : Int) > 60):=by omega
      simp [c1,c2,c3,c4,c5]
    ·simp [c1,c2,c3]
theorem zw (v : GVault) (hb : Wt.ln v) : UQ v = some (TO v):=by
 have hb1:=VS hb.1; have hb2:=VS hb.2.1; have hb3:=VS hb.2.2
 unfold UQ YC
 simp only [QY,Option.bind_some]
 by_cases hh : Hk v = true
 ·have hh' : 1 ≤ v.Keys.length ∧ v.Keys.length ≤ 8 ∧ 1 ≤ v.Next ∧ v.Next ≤ 1000000 ∧ v.Records.length ≤ 12 ∧ v.Events.length ≤ 60:=by simpa [Hk] using hh
  have c1 : (1 : Int) ≤ v.Keys.length ∧ (v.Keys.length : Int) ≤ 8:=by omega
  have c3 : 1 ≤ v.Next ∧ v.Next ≤ 1000000:=by omega
  have c4 : ¬ ((v.Records.length : Int) > 12):=by omega
  have c5 : ¬ ((v.Events.length : Int) > 60):=by omega
  simp only [c1,c3,c4,c5,decide_false,decide_true,and_self,Bool.not_true,Bool.false_eq_true,if_false,Option.bind_some]
  have hw : wr ((v.Keys.length : Int) - 1) = (v.Keys.length : Int) - 1:=YT (by omega)
  have hw2 : wr (v.Next - 1) = v.Next - 1:=YT (by omega)
  have h1:=Jv (f:=W3 v) v.Records.length (badI v) false (by omega) (fun i hi=>by
   unfold W3 badI YC
   simp only [Int.ofNat_lt,hi,decide_true,if_true,XV,List.getElem?_eq_getElem hi,Option.bind_some,QY,hw,hw2]
   unfold yK
   by_cases d1 : 1 ≤ v.Records[i].Number ∧ v.Records[i].Number ≤ v.Next - 1
   ·have key : (if decide ((i : Int) > 0) = true then (idx v.Records (wr ((i : Int) - 1))).bind fun x=>some (decide (x.Number ≥ v.Records[i].Number)) else some false) = some (decide (0 < i) && decide (QT v.Records i ≥ v.Records[i].Number)):=by
     cases i with
     | zero=>simp
     | succ i =>
      have e1 : wr (((i + 1 : Nat) : Int) - 1) = (i : Int):=by rw [YT (by omega)]; omega
      have hi' : i < v.Records.length:=by omega
      have e2 : QT v.Records (i + 1) = v.Records[i].Number:=by simp [QT,List.getElem?_eq_getElem hi']
      have e3 : ((i + 1 : Nat) : Int) > 0:=by omega
      simp only [e1,e2,e3,decide_true,if_true,XV,List.getElem?_eq_getElem hi',Option.bind_some]
      simp
    simp only [d1,decide_true,and_self,Bool.not_true,Bool.false_eq_true,if_false,key,Option.bind_some,Bool.false_or]
    by_cases d2 : (decide (0 < i) && decide (QT v.Records i ≥ v.Records[i].Number)) = true
    ·simp [d2]
    ·have d2 : (decide (0 < i) && decide (QT v.Records i ≥ v.Records[i].Number)) = false:=by simpa using d2
     rw [d2]
     by_cases d3 : (0 : Int) ≤ v.Records[i].Version ∧ v.Records[i].Version ≤ (v.Keys.length : Int) - 1
     ·by_cases d4 : 32 < v.Records[i].Label.length
      ·have d4' : (v.Records[i].Label.length : Int) > 32:=by omega
       simp [d3,d4,d4']
      ·have d4' : ¬ ((v.Records[i].Label.length : Int) > 32):=by omega
       by_cases d5 : 200 < v.Records[i].Body.length
       ·have d5' : (v.Records[i].Body.length : Int) > 200:=by omega
        simp [d3,d4,d4',d5,d5']
       ·have d5' : ¬ ((v.Records[i].Body.length : Int) > 200):=by omega
        simp [d3,d4,d4',d5,d5']
     ·simp [d3]
   ·simp [d1]) (by unfold W3; simp) 0 (Nat.zero_le _)
  have h2 : ZD (W3 v) 0 = _:=h1
  rw [h2,Zbu,B7 v.Events _ (fun e=>!U4 e) (by omega) (fun x _=>by unfold VQ; rw [qZ]; rfl)]
  have ha : (v.Events.any fun e=>!U4 e) = !(v.Events.all U4):=by rw [List.any_eq_not_all_not]; simp
  unfold TO
  rw [hh,ha]
  generalize (List.range' 0 (v.Records.length - 0)).any (BU v) = z
  cases z <;> simp [Fl.el]
 ·have hf : Hk v = false:=by simpa using hh
  unfold TO
  rw [hf]
  have hh' : ¬ (1 ≤ v.Keys.length ∧ v.Keys.length ≤ 8 ∧ 1 ≤ v.Next ∧ v.Next ≤ 1000000 ∧ v.Records.length ≤ 12 ∧ v.Events.length ≤ 60):=by simpa [Hk] using hf
  by_cases c1 : (1 : Int) ≤ v.Keys.length ∧ (v.Keys.length : Int) ≤ 8
  ·by_cases c3 : 1 ≤ v.Next ∧ v.Next ≤ 1000000
   ·by_cases c4 : ((v.Records.length : Int) > 12)
    ·simp [c1,c3,c4]
    ·have c5 : ((v.Events.length : Int) > 60):=by omega
     simp [c1,c3,c4,c5]
   ·simp [c1,c3]
  ·simp [c1]
theorem zg (v : GVault) (hb : Wt.ln v) : Ta v = some (TO v):=by
 unfold Ta; rw [Zdf v hb]; rfl

theorem Zdb {α : Type} [Dat α] [Wt α] {f : α → Int → Option Int} {x : α} {left : Int} {G : Int → Option Bool} (hf : Wp f x) (h1 : 0 ≤ left) (h2 : left ≤ 1048576) (hG : ∀ r,0 ≤ r → r ≤ 1048576 → r + (Wt.wt x : Nat) ≤ left → G r = some true) :
  ((f x left).bind fun r=>if decide (r < 0) = true then some true else G r) = some true:=by
 obtain ⟨r,e1,e2,e3⟩:=hf left h1 h2
 rw [e1]
 by_cases hr : r < 0
 ·simp [hr]
 ·have:=hG r (by omega) e2 (e3 (by omega))
  simp [hr,this]
theorem Bm (a : Nat) (h : a < 9223372036854775808) : (BitVec.ofInt 64 (a : Int)).toNat = a:=by
 rw [BitVec.toNat_ofInt]
 omega
theorem KB (a b : Nat) (ha : a < 9223372036854775808) (hb : b < 9223372036854775808) : Ki (a : Int) (b : Int) = ((a ^^^ b : Nat) : Int):=by
 unfold Ki
 rw [BitVec.toNat_xor,Bm a ha,Bm b hb]
 have : a ^^^ b < 2 ^ 63:=Nat.xor_lt_two_pow ha hb
 exact YT (by omega)
theorem Zb4 (a b : Nat) (ha : a < 9223372036854775808) (hb : b < 9223372036854775808) : BO (a : Int) (b : Int) = ((a &&& b : Nat) : Int):=by
 unfold BO
 rw [BitVec.toNat_and,Bm a ha,Bm b hb]
 have : a &&& b < 2 ^ 63:=Nat.and_lt_two_pow _ hb
 exact YT (by omega)
theorem Jr (a i : Nat) (hi : i ≤ 63) (h : a <<< i < 9223372036854775808) : Jq (a : Int) (i : Int) = ((a <<< i : Nat) : Int):=by
 unfold Jq
 rw [show min ((i : Int)).toNat 64 = i by omega]
 have : ((a : Int) * 2 ^ i) = ((a <<< i : Nat) : Int):=by rw [Nat.shiftLeft_eq]; simp
 rw [this]
 generalize a <<< i = x at h ⊢
 exact YT (by omega)
theorem Za8 (a i : Nat) (hi : i ≤ 63) : K5 (a : Int) (i : Int) = ((a >>> i : Nat) : Int):=by
 unfold K5
 rw [show min ((i : Int)).toNat 64 = i by omega,Nat.shiftRight_eq_div_pow,Int.fdiv_eq_ediv_of_nonneg _ (by exact_mod_cast Nat.zero_le _)]
 simp
theorem yA (a i : Nat) : ((a >>> i) &&& 1 = 1) ↔ a.testBit i = true:=by
 rw [Nat.testBit,Nat.and_comm]
 have h:=Nat.and_one_is_mod (a >>> i)
 rw [Nat.and_comm] at h
 rw [h]
 rcases Nat.mod_two_eq_zero_or_one (a >>> i) with h | h <;> simp [h]
theorem Zb7 (a : Nat) : Int.tmod (a : Int) 2 = ((a % 2 : Nat) : Int):=by
 rw [Int.tmod_eq_emod_of_nonneg (by omega)]; simp
theorem qM (a : Nat) : Int.tdiv (a : Int) 2 = ((a / 2 : Nat) : Int):=by
 rw [Int.tdiv_eq_ediv_of_nonneg (by omega)]; simp
theorem yc (a : Nat) (h : a < 9223372036854775808) : wr (a : Int) = (a : Int):=YT (by omega)
theorem kF (a : Nat) (h : a < 9223372036854775808) : IntKind.u64.wrap (a : Int) = (a : Int):=by
 simp only [IntKind.wrap,IntKind.bits,IntKind.signed]
 simp
 omega

def Yy (m deg : Nat) : Nat → Nat → Nat
 | 0,a=>a
 | k + 1,a=>Yy m deg k (if a.testBit (deg + k) then a ^^^ (m <<< k) else a)
theorem KW {m k n : Nat} (h : m < 2 ^ n) : m <<< k < 2 ^ (n + k):=by
 rw [Nat.shiftLeft_eq,Nat.pow_add]
 exact Nat.mul_lt_mul_of_pos_right h (Nat.two_pow_pos _)
theorem H1 {a n : Nat} (h : a < 2 ^ (n + 1)) (hb : a.testBit n = false) : a < 2 ^ n:=by
 apply Nat.lt_pow_two_of_testBit
 intro i hi
 rcases Nat.eq_or_lt_of_le hi with rfl | hi
 ·exact hb
 ·exact Nat.testBit_lt_two_pow (Nat.lt_of_lt_of_le h (Nat.pow_le_pow_right (by omega) hi))
theorem qr {m d : Nat} (h1 : 2 ^ d ≤ m) (h2 : m < 2 ^ (d + 1)) : m.testBit d = true:=by
 rw [Nat.testBit,Nat.shiftRight_eq_div_pow]
 have : m / 2 ^ d = 1:=by
  apply Nat.div_eq_of_lt_le
  ·simpa using h1
  ·rw [Nat.pow_succ] at h2; omega
 rw [this]; rfl
theorem qv {m d k a : Nat} (h1 : 2 ^ d ≤ m) (h2 : m < 2 ^ (d + 1)) (ha : a < 2 ^ (d + (k + 1))) (hb : a.testBit (d + k) = true) : a ^^^ (m <<< k) < 2 ^ (d + k):=by
 have hm : m <<< k < 2 ^ (d + (k + 1)):=by have:=KW (k:=k) h2; rwa [show d + 1 + k = d + (k + 1) by omega] at this
 refine H1 (Nat.xor_lt_two_pow (by rwa [show d + k + 1 = d + (k + 1) by omega]) (by rwa [show d + k + 1 = d + (k + 1) by omega])) ?_
 rw [Nat.testBit_xor,hb,Nat.testBit_shiftLeft]
 simp [qr h1 h2]
theorem Hi {m d : Nat} (h1 : 2 ^ d ≤ m) (h2 : m < 2 ^ (d + 1)) : ∀ (k a : Nat),a < 2 ^ (d + k) → Yy m d k a < 2 ^ d
 | 0,a,h=>by simpa [Yy] using h
 | k + 1,a,h=>by
  unfold Yy
  cases hb : a.testBit (d + k) with
  | true=>simp only [if_true]; exact Hi h1 h2 k _ (qv h1 h2 h hb)
  | false=>simp only [Bool.false_eq_true,if_false]; exact Hi h1 h2 k a (H1 h hb)
theorem Q1 (m d : Nat) : ∀ (k a b : Nat),Yy m d k (a ^^^ b) = Yy m d k a ^^^ Yy m d k b
 | 0,_,_=>rfl
 | k + 1,a,b=>by
  simp only [Yy]
  rw [Nat.testBit_xor]
  cases a.testBit (d + k) <;> cases b.testBit (d + k) <;> simp only [Bool.xor_false,Bool.false_xor,Bool.xor_self,Bool.xor_true,Bool.not_false,Bool.not_true,Bool.false_eq_true,if_true,if_false]
  ·exact Q1 m d k a b
  ·rw [Nat.xor_assoc]; exact Q1 m d k a _
  ·rw [← Q1 m d k]; congr 1; rw [Nat.xor_assoc,Nat.xor_comm b,← Nat.xor_assoc]
  ·rw [← Q1 m d k]; congr 1
   rw [Nat.xor_assoc,← Nat.xor_assoc (m <<< k),Nat.xor_comm (m <<< k) b,Nat.xor_assoc,Nat.xor_self,Nat.xor_zero]
theorem Tl {m d : Nat} : ∀ (k a : Nat),a < 2 ^ d → Yy m d k a = a
 | 0,_,_=>rfl
 | k + 1,a,h=>by
  unfold Yy
  rw [Nat.testBit_lt_two_pow (Nat.lt_of_lt_of_le h (Nat.pow_le_pow_right (by omega) (by omega)))]
  simp only [Bool.false_eq_true,if_false]
  exact Tl k a h
theorem Bk {m d k a : Nat} (h : a < 2 ^ (d + k)) : Yy m d (k + 1) a = Yy m d k a:=by
 conv=>lhs; unfold Yy
 rw [Nat.testBit_lt_two_pow h]; rfl
theorem Kl (m d : Nat) : ∀ (k x : Nat),Yy m d (k + 1) (x <<< 1) = (if ((Yy m d k x) <<< 1).testBit d then ((Yy m d k x) <<< 1) ^^^ m else (Yy m d k x) <<< 1)
 | 0,x=>by simp [Yy]
 | k + 1,x=>by
  conv=>lhs; unfold Yy
  conv=>rhs; unfold Yy
  have e : (x <<< 1).testBit (d + (k + 1)) = x.testBit (d + k):=by
   rw [Nat.testBit_shiftLeft]
   have : d + (k + 1) ≥ 1:=by omega
   simp only [this,decide_true,Bool.true_and]
   congr 1
  rw [e]
  cases x.testBit (d + k) with
  | false=>simp only [Bool.false_eq_true,if_false]; exact Kl m d k x
  | true =>
   simp only [if_true]
   have e2 : x <<< 1 ^^^ m <<< (k + 1) = (x ^^^ m <<< k) <<< 1:=by
    rw [Nat.shiftLeft_xor_distrib,← Nat.shiftLeft_add]
   rw [e2]
   exact Kl m d k _

def KH (n : Nat) : Nat:=if n = 0 then 0 else n.log2 + 1
theorem Zac (n : Nat) (h : 0 < n) : KH n = KH (n / 2) + 1:=by
 unfold KH
 rw [if_neg (by omega)]
 by_cases h2 : n / 2 = 0
 ·have : n = 1:=by omega
  subst this; rfl
 ·rw [if_neg h2]
  conv=>lhs; rw [Nat.log2_def]
  rw [if_pos (by omega)]
theorem Aw {n p : Nat} (h1 : 2 ^ p ≤ n) (h2 : n < 2 ^ (p + 1)) : KH n = p + 1:=by
 have h0 : n ≠ 0:=by have:=Nat.two_pow_pos p; omega
 unfold KH
 rw [if_neg h0,(Nat.log2_eq_iff h0).2 ⟨h1,h2⟩]
theorem Zcu {n p : Nat} (h : n < 2 ^ p) : KH n ≤ p:=by
 unfold KH
 split
 ·omega
 ·rename_i h0
  have:=(Nat.log2_lt h0).2 h
  omega
theorem Jy (n : Nat) (h : n < 9223372036854775808) : XK (n : Int) = some ((KH n : Nat) : Int):=by
 have key : ∀ (f n c : Nat),n < 2 ^ f → f ≤ 63 → c + f ≤ 1000 → ZD YX ((n : Int),(c : Int)) = some ((c + KH n : Nat) : Int):=by
  intro f
  induction f with
  | zero =>
   intro n c hn _ _
   have : n = 0:=by simpa using hn
   subst this
   rw [Xb (t:=(c : Int))]
   ·simp [KH]
   ·unfold YX; simp
  | succ f ih =>
   intro n c hn hf hc
   by_cases h0 : n = 0
   ·subst h0
    rw [Xb (t:=(c : Int))]
    ·simp [KH]
    ·unfold YX; simp
   ·have hp : 0 < n:=by omega
    have hlt : n < 9223372036854775808:=Nat.lt_of_lt_of_le hn (Nat.pow_le_pow_right (by omega : 0 < 2) hf)
    have hst : YX ((n : Int),(c : Int)) = some (.nx (((n / 2 : Nat) : Int),((c + 1 : Nat) : Int))):=by
     unfold YX
     have : (n : Int) > 0:=by omega
     simp only [this,decide_true,if_true,qM]
     rw [yc _ (by omega),Xe (by omega)]
    rw [Wo hst,ih (n / 2) (c + 1) (by rw [Nat.pow_succ] at hn; omega) (by omega) (by omega),Zac n hp]
    congr 2; omega
 unfold XK
 have:=key 63 n 0 h (by omega) (by omega)
 have h2 : ZD YX ((n : Int),0) = _:=this
 rw [h2]
 simp
theorem Zaj (a b d k : Nat) (hd : d ≤ 20) (hk : k ≤ 20) (h1 : 2 ^ d ≤ b) (h2 : b < 2 ^ (d + 1)) (ha : a < 2 ^ (d + k)) : UU (a : Int) (b : Int) = some ((Yy b d k a : Nat) : Int):=by
 have big : ∀ n,n ≤ 62 → ∀ x : Nat,x < 2 ^ n → x < 9223372036854775808:=fun n hn x hx=>Nat.lt_of_lt_of_le hx (Nat.pow_le_pow_right (by omega : 0 < 2) (by omega : n ≤ 63))
 have key : ∀ (k a : Nat),k ≤ 20 → a < 2 ^ (d + k) → ZD (W4 (b : Int) ((d + 1 : Nat) : Int)) ((a : Int),((KH a : Nat) : Int)) = some ((Yy b d k a : Nat) : Int):=by
  intro k
  induction k with
  | zero =>
   intro a _ ha
   have hl:=Zcu (p:=d) ha
   rw [Xb (t:=(a : Int))]
   ·rfl
   ·unfold W4
    have : ¬ (((KH a : Nat) : Int) ≥ ((d + 1 : Nat) : Int)):=by omega
    simp only [this,decide_false,Bool.false_eq_true,if_false]
  | succ k ih =>
   intro a hk ha
   cases hb : a.testBit (d + k) with
   | false =>
    have ha':=H1 (by rwa [show d + k + 1 = d + (k + 1) by omega]) hb
    rw [ih a (by omega) ha',Bk ha']
   | true =>
    have hge : 2 ^ (d + k) ≤ a:=Nat.ge_two_pow_of_testBit hb
    have hl : KH a = d + k + 1:=Aw hge (by rwa [show d + k + 1 = d + (k + 1) by omega])
    have hx:=qv h1 h2 ha hb
    have hshl : b <<< k < 2 ^ (d + 1 + k):=KW h2
    have hst : W4 (b : Int) ((d + 1 : Nat) : Int) ((a : Int),((KH a : Nat) : Int)) = some (.nx (((a ^^^ b <<< k : Nat) : Int),((KH (a ^^^ b <<< k) : Nat) : Int))):=by
     unfold W4
     have c1 : ((KH a : Nat) : Int) ≥ ((d + 1 : Nat) : Int):=by rw [hl]; omega
     have c2 : IntKind.u64.wrap (wr (((KH a : Nat) : Int) - ((d + 1 : Nat) : Int))) = ((k : Nat) : Int):=by
      rw [hl,show ((d + k + 1 : Nat) : Int) - ((d + 1 : Nat) : Int) = ((k : Nat) : Int) by omega,yc _ (by omega),kF _ (by omega)]
     simp only [c1,decide_true,if_true,c2]
     have c3 : YI ((k : Nat) : Int) = some ():=by unfold YI; rw [if_pos (by omega)]
     rw [c3,Jr b k (by omega) (big _ (by omega) _ hshl),KB a _ (big _ (by omega) _ ha) (big _ (by omega) _ hshl)]
     simp only [Option.bind_some]
     rw [Jy _ (big _ (by omega) _ hx)]
     rfl
    rw [Wo hst,ih _ (by omega) hx]
    conv=>rhs; unfold Yy
    rw [hb]; rfl
 unfold UU
 rw [Jy b (big _ (by omega) _ h2),Jy a (big _ (by omega) _ ha)]
 simp only [Option.bind_some]
 rw [Aw h1 h2,key k a hk ha]
 rfl
theorem Zbs (a m d : Nat) (hd : d ≤ 15) (ha : a < 2 ^ 16) (hm : m < 2 ^ 20) : U5 (a : Int) (m : Int) (d : Int) = some ((Yy m d (16 - d) a : Nat) : Int):=by
 have key : ∀ (k a : Nat),d + k ≤ 16 → a < 2 ^ 40 → ZD (Tr (m : Int) (d : Int)) ((a : Int),((d + k : Nat) : Int) - 1) = some ((Yy m d k a : Nat) : Int):=by
  intro k
  induction k with
  | zero =>
   intro a _ _
   rw [Xb (t:=(a : Int))]
   ·rfl
   ·unfold Tr
    have : ¬ (((d + 0 : Nat) : Int) - 1 ≥ (d : Int)):=by omega
    simp only [this,decide_false,Bool.false_eq_true,if_false]
  | succ k ih =>
   intro a hk ha
   have e0 : ((d + (k + 1) : Nat) : Int) - 1 = ((d + k : Nat) : Int):=by omega
   have hsh : m <<< k < 2 ^ (20 + k):=KW hm
   have hsh2 : m <<< k < 2 ^ 40:=Nat.lt_of_lt_of_le hsh (Nat.pow_le_pow_right (by omega) (by omega))
   have hst : Tr (m : Int) (d : Int) ((a : Int),((d + (k + 1) : Nat) : Int) - 1) = some (.nx (((if a.testBit (d + k) then a ^^^ (m <<< k) else a : Nat) : Int),((d + k : Nat) : Int) - 1)):=by
    rw [e0]
    unfold Tr
    have c1 : ((d + k : Nat) : Int) ≥ (d : Int):=by omega
    have c2 : YI ((d + k : Nat) : Int) = some ():=by unfold YI; rw [if_pos (by omega)]
    have c3 : wr (((d + k : Nat) : Int) - (d : Int)) = ((k : Nat) : Int):=by rw [show ((d + k : Nat) : Int) - (d : Int) = ((k : Nat) : Int) by omega,yc _ (by omega)]
    have c4 : YI ((k : Nat) : Int) = some ():=by unfold YI; rw [if_pos (by omega)]
    have c5 : wr (((d + k : Nat) : Int) - 1) = ((d + k : Nat) : Int) - 1:=YT (by omega)
    simp only [c1,decide_true,if_true,c2,c3,c4,c5,Option.bind_some]
    have c6 : BO (K5 (a : Int) ((d + k : Nat) : Int)) 1 = (((a >>> (d + k)) &&& 1 : Nat) : Int):=by
     rw [Za8 a (d + k) (by omega)]
     exact Zb4 _ 1 (Nat.lt_of_le_of_lt (Nat.shiftRight_le _ _) (by omega)) (by omega)
    rw [c6,Jr m k (by omega) (by omega),KB a _ (by omega) (by omega)]
    cases hb : a.testBit (d + k) with
    | true =>
     have:=(yA a (d + k)).2 hb
     rw [this]; rfl
    | false =>
     have : ¬ ((a >>> (d + k)) &&& 1 = 1):=fun h=>by rw [(yA a (d + k)).1 h] at hb; cases hb
     have h2 : (((((a >>> (d + k)) &&& 1 : Nat) : Int)) == 1) = false:=by
      rw [beq_eq_false_iff_ne]; omega
     rw [h2]; rfl
   rw [Wo hst,ih _ (by omega) ?_]
   ·conv=>rhs; unfold Yy
   ·split
    ·exact Nat.xor_lt_two_pow ha hsh2
    ·exact ha
 unfold U5
 have:=key (16 - d) a (by omega) (by omega)
 rw [show ((d + (16 - d) : Nat) : Int) - 1 = 15 by omega] at this
 rw [this]; rfl

def HM : Nat → Nat → Nat → Nat
 | 0,_,_=>0
 | n + 1,a,b=>(if b % 2 = 1 then a else 0) ^^^ HM n (a <<< 1) (b / 2)
theorem HV : ∀ (n a : Nat),HM n a 0 = 0
 | 0,_=>rfl
 | n + 1,a=>by simp [HM,HV n]
theorem qD : ∀ (n a b p : Nat),a < 2 ^ p → HM n a b < 2 ^ (p + n)
 | 0,_,_,_,_=>by simp [HM]; exact Nat.two_pow_pos _
 | n + 1,a,b,p,h=>by
  unfold HM
  have h1 : a <<< 1 < 2 ^ (p + 1):=KW h
  have h2:=qD n (a <<< 1) (b / 2) (p + 1) h1
  rw [show p + 1 + n = p + (n + 1) by omega] at h2
  refine Nat.xor_lt_two_pow ?_ h2
  have h3 : 2 ^ p ≤ 2 ^ (p + (n + 1)):=Nat.pow_le_pow_right (by omega) (by omega)
  have h4:=Nat.two_pow_pos (p + (n + 1))
  split <;> omega
def prC : Nat → Nat → Nat → Nat
 | 0,_,_=>0
 | i + 1,a,b=>prC i a b ^^^ (if b.testBit i then a <<< i else 0)
theorem jP : ∀ (n a b : Nat),prC (n + 1) a b = (if b % 2 = 1 then a else 0) ^^^ prC n (a <<< 1) (b / 2)
 | 0,a,b=>by
  simp only [prC,Nat.zero_xor,Nat.xor_zero,Nat.shiftLeft_zero]
  have : b.testBit 0 = decide (b % 2 = 1):=by simp [Nat.testBit_zero]
  rw [this]; simp
 | n + 1,a,b=>by
  conv=>lhs; unfold prC
  rw [jP n a b]
  conv=>rhs; unfold prC
  rw [← Nat.xor_assoc]
  congr 1
  rw [Nat.testBit_succ,← Nat.shiftLeft_add,Nat.add_comm 1 n]
theorem Zbx : ∀ (n a b : Nat),prC n a b = HM n a b
 | 0,_,_=>rfl
 | n + 1,a,b=>by rw [jP,Zbx n]; rfl
theorem ki (a b : Nat) (h : a < 256) : ∀ i,i ≤ 8 → prC i a b < 2 ^ 16
 | 0,_=>by simp [prC]
 | i + 1,hi=>by
  unfold prC
  have h1 : a <<< i < 2 ^ (8 + i):=KW h
  have h2 : 2 ^ (8 + i) ≤ 2 ^ 16:=Nat.pow_le_pow_right (by omega) (by omega)
  refine Nat.xor_lt_two_pow (ki a b h i (by omega)) ?_
  split
  ·omega
  ·omega
def ZW (m : Nat) (a b : UInt8) : UInt8:=ZO ((Yy m 8 8 (HM 8 a.toNat b.toNat) : Nat) : Int)
theorem TF (m : Nat) (hm : m < 512) (a b : UInt8) : Z6 (m : Int) a b = some (ZW m a b):=by
 have ha : a.toNat < 256:=a.toNat_lt
 have hb : b.toNat < 256:=b.toNat_lt
 have h:=Z3 (f:=Xw a b) (fun i : Nat=>(((prC i a.toNat b.toNat : Nat) : Int),(i : Int))) 0 8 (Nat.zero_le _) (t:=((prC 8 a.toNat b.toNat : Nat) : Int)) (fun i _ hi=>by
  unfold Xw
  have c1 : ((i : Int) < 8):=by omega
  have c2 : YI (i : Int) = some ():=by unfold YI; rw [if_pos (by omega)]
  have c3 : prC i a.toNat b.toNat < 2 ^ 16:=ki _ _ ha i (by omega)
  have c4 : a.toNat <<< i < 2 ^ (8 + i):=KW ha
  have c5 : 2 ^ (8 + i) ≤ 2 ^ 16:=Nat.pow_le_pow_right (by omega) (by omega)
  have c6 : (((zp b (i : Int)) &&& 1) == 1) = b.toNat.testBit i:=by
   have e1 : (zp b (i : Int)).toNat = b.toNat >>> i:=by
    unfold zp ZO
    rw [show min ((i : Int)).toNat 8 = i by omega,Int.fdiv_eq_ediv_of_nonneg _ (by exact_mod_cast Nat.zero_le _)]
    have : ((b.toNat : Int) / 2 ^ i) = ((b.toNat >>> i : Nat) : Int):=by rw [Nat.shiftRight_eq_div_pow]; simp
    rw [this]
    have h3 : b.toNat >>> i ≤ b.toNat:=Nat.shiftRight_le _ _
    generalize b.toNat >>> i = q at h3 ⊢
    have h4 : (((q : Nat) : Int) % 256).toNat = q:=by omega
    rw [h4]
    simp
    omega
   rw [Bool.eq_iff_iff,beq_iff_eq,← yA,← UInt8.toNat_inj,UInt8.toNat_and,e1]
   simp
  simp only [c1,decide_true,if_true,c2,Option.bind_some,c6,Xe (show i < 9223372036854775807 by omega)]
  rw [Jr _ i (by omega) (by omega),KB _ _ (by omega) (by omega)]
  cases hbit : b.toNat.testBit i with
  | true=>simp [prC,hbit]
  | false=>simp [prC,hbit]) (by unfold Xw; simp)
 have h2 : ZD (Xw a b) (0,0) = _:=h
 unfold Z6
 rw [h2]
 simp only [Option.bind_some]
 have h3:=Zbs (prC 8 a.toNat b.toNat) m 8 (by omega) (ki _ _ ha 8 (by omega)) (by omega)
 have h4 : U5 ((prC 8 a.toNat b.toNat : Nat) : Int) (m : Int) 8 = _:=h3
 rw [h4,Zbx]
 rfl
theorem Qy (m : Nat) (hm : m < 512) (hm2 : 256 ≤ m) (a b : UInt8) : Z5 (m : Int) a b = some (ZW m a b):=by
 have ha : a.toNat < 256:=a.toNat_lt
 have hb : b.toNat < 256:=b.toNat_lt
 have h1 : 2 ^ 8 ≤ m:=hm2
 have h2 : m < 2 ^ (8 + 1):=hm
 have hR : ∀ i,i ≤ 8 → Yy m 8 8 (a.toNat <<< i) < 256:=fun i hi=>Hi h1 h2 8 _ (by
  have:=KW (k:=i) (show a.toNat < 2 ^ 8 from ha)
  exact Nat.lt_of_lt_of_le this (Nat.pow_le_pow_right (by omega) (by omega)))
 have hdbl : ∀ i,i ≤ 7 → Yy m 8 8 (a.toNat <<< (i + 1)) = if 256 ≤ (Yy m 8 8 (a.toNat <<< i)) * 2 then (Yy m 8 8 (a.toNat <<< i)) * 2 ^^^ m else (Yy m 8 8 (a.toNat <<< i)) * 2:=by
  intro i hi
  have hx : a.toNat <<< i < 2 ^ (8 + 7):=Nat.lt_of_lt_of_le (KW (show a.toNat < 2 ^ 8 from ha)) (Nat.pow_le_pow_right (by omega) (by omega))
  have e : a.toNat <<< (i + 1) = (a.toNat <<< i) <<< 1:=by rw [← Nat.shiftLeft_add]
  rw [e,Kl m 8 7,← Bk hx]
  have hlt:=hR i (by omega)
  generalize Yy m 8 8 (a.toNat <<< i) = y at hlt ⊢
  have e2 : y <<< 1 = y * 2:=by rw [Nat.shiftLeft_eq]
  rw [e2]
  have e3 : (y * 2).testBit 8 = decide (256 ≤ y * 2):=by
   by_cases hy : 256 ≤ y * 2
   ·rw [qr (d:=8) hy (by omega)]; simp [hy]
   ·rw [Nat.testBit_lt_two_pow (by omega : y * 2 < 2 ^ 8)]; simp [hy]
  rw [e3]
  by_cases hy : 256 ≤ y * 2 <;> simp [hy]
 have key : ∀ (n i o r : Nat),i + n ≤ 8 → r < 2 ^ n → o < 256 → ZD (Y9 (m : Int)) ((o : Int),((Yy m 8 8 (a.toNat <<< i) : Nat) : Int),(r : Int)) = some ((o ^^^ Yy m 8 8 (HM n (a.toNat <<< i) r) : Nat) : Int):=by
  intro n
  induction n with
  | zero =>
   intro i o r _ hr ho
   have : r = 0:=by simpa using hr
   subst this
   rw [Xb (t:=(o : Int))]
   ·rw [HV,Tl 8 0 (by omega),Nat.xor_zero]
   ·unfold Y9; simp
  | succ n ih =>
   intro i o r hi hr ho
   by_cases h0 : r = 0
   ·subst h0
    rw [Xb (t:=(o : Int))]
    ·rw [HV,Tl 8 0 (by omega),Nat.xor_zero]
    ·unfold Y9; simp
   ·have hy:=hR i (by omega)
    have hst : Y9 (m : Int) ((o : Int),((Yy m 8 8 (a.toNat <<< i) : Nat) : Int),(r : Int)) = some (.nx (((o ^^^ Yy m 8 8 (if r % 2 = 1 then a.toNat <<< i else 0) : Nat) : Int),((Yy m 8 8 (a.toNat <<< (i + 1)) : Nat) : Int),((r / 2 : Nat) : Int))):=by
     rw [hdbl i (by omega)]
     unfold Y9
     have c1 : (r : Int) > 0:=by omega
     have hr2 : r < 512:=Nat.lt_of_lt_of_le hr (Nat.le_trans (Nat.pow_le_pow_right (by omega) (by omega : n + 1 ≤ 9)) (by omega))
     simp only [c1,decide_true,if_true,Zb7,qM]
     have e1 : wr (((Yy m 8 8 (a.toNat <<< i) : Nat) : Int) * 2) = (((Yy m 8 8 (a.toNat <<< i)) * 2 : Nat) : Int):=by rw [YT (by omega)]; omega
     have e2 : wr ((r / 2 : Nat) : Int) = ((r / 2 : Nat) : Int):=yc _ (by omega)
     rw [e1,e2,KB _ _ (by omega) (by omega),KB _ _ (by omega) (by omega)]
     have e3 : ((((r % 2 : Nat) : Int)) == 1) = decide (r % 2 = 1):=by
      rw [Bool.eq_iff_iff,beq_iff_eq,decide_eq_true_eq]; omega
     rw [e3]
     have e4 : decide ((((Yy m 8 8 (a.toNat <<< i)) * 2 : Nat) : Int) ≥ 256) = decide (256 ≤ (Yy m 8 8 (a.toNat <<< i)) * 2):=by rw [decide_eq_decide]; omega
     rw [e4]
     have e5 : Yy m 8 8 0 = 0:=Tl 8 0 (by omega)
     by_cases c2 : r % 2 = 1 <;> by_cases c3 : 256 ≤ (Yy m 8 8 (a.toNat <<< i)) * 2 <;> simp only [c2,c3,decide_true,decide_false,Bool.false_eq_true,if_true,if_false,Option.bind_some,e5,Nat.xor_zero]
    rw [Wo hst,ih (i + 1) _ (r / 2) (by omega) (by rw [Nat.pow_succ] at hr; omega) ?_]
    ·conv=>rhs; unfold HM
     rw [Q1,Nat.xor_assoc,Nat.shiftLeft_add]
    ·refine Nat.xor_lt_two_pow (n:=8) ho ?_
     split
     ·exact hR i (by omega)
     ·rw [Tl 8 0 (by omega)]; omega
 have:=key 8 0 0 b.toNat (by omega) hb (by omega)
 rw [Nat.shiftLeft_zero,Tl 8 a.toNat ha,Nat.zero_xor] at this
 have h3 : ZD (Y9 (m : Int)) (0,bI a,bI b) = _:=this
 unfold Z5
 rw [h3]
 rfl

def B5 (m : Nat) : Nat → UInt8 → Nat → UInt8 → UInt8
 | 0,_,_,o=>o
 | f + 1,a,k,o=>if k = 0 then o else B5 m f (ZW m a a) (k / 2) (if k % 2 = 1 then ZW m o a else o)
theorem jY (m : Nat) (L : UInt8 × Int × UInt8 → Option (Fl (UInt8 × Int × UInt8) UInt8)) (T : UInt8 → UInt8 → Option UInt8) (hT : ∀ a b,T a b = some (ZW m a b))
  (hL : ∀ s,L s = if (decide (s.2.1 > 0)) = true then (((if ((Int.tmod s.2.1 2) == 1) = true then ((T s.2.2 s.1).bind fun r=>some r) else (some s.2.2) : Option UInt8).bind fun j12=>(T s.1 s.1).bind fun r20=>some (r20,j12) : Option (UInt8 × UInt8)).bind fun j9=>some (Fl.nx (j9.1,wr (Int.tdiv s.2.1 2),j9.2))) else (some (Fl.ex s.2.2))) :
  ∀ (f k : Nat) (a o : UInt8),k < 2 ^ f → f ≤ 62 → ZD L (a,(k : Int),o) = some (B5 m f a k o):=by
 intro f
 induction f with
 | zero =>
  intro k a o hk _
  have : k = 0:=by simpa using hk
  subst this
  exact Xb (by rw [hL]; simp [B5])
 | succ f ih =>
  intro k a o hk hf
  by_cases h0 : k = 0
  ·subst h0
   exact Xb (by rw [hL]; simp [B5])
  ·have hlt : k < 9223372036854775808:=Nat.lt_of_lt_of_le hk (Nat.pow_le_pow_right (by omega : 0 < 2) (by omega : f + 1 ≤ 63))
   have hst : L (a,(k : Int),o) = some (.nx (ZW m a a,((k / 2 : Nat) : Int),if k % 2 = 1 then ZW m o a else o)):=by
    rw [hL]
    have c1 : (k : Int) > 0:=by omega
    have e3 : ((((k % 2 : Nat) : Int)) == 1) = decide (k % 2 = 1):=by
     rw [Bool.eq_iff_iff,beq_iff_eq,decide_eq_true_eq]; omega
    simp only [c1,decide_true,if_true,Zb7,qM,hT,e3,Option.bind_some,yc (k / 2) (by omega)]
    by_cases c2 : k % 2 = 1 <;> simp [c2]
   rw [Wo hst,ih (k / 2) _ _ (by rw [Nat.pow_succ] at hk; omega) (by omega)]
   conv=>rhs; unfold B5
   rw [if_neg h0]
theorem zW (m : Nat) (hm : m < 512) (a : UInt8) (k f : Nat) (hk : k < 2 ^ f) (hf : f ≤ 62) : XJ (m : Int) a (k : Int) = some (B5 m f a k 1):=by
 unfold XJ
 rw [jY m (Vn (m : Int)) _ (TF m hm) (fun s=>by unfold Vn; rfl) f k a 1 hk hf]; rfl
theorem kC (m : Nat) (hm : m < 512) (hm2 : 256 ≤ m) (a : UInt8) (k f : Nat) (hk : k < 2 ^ f) (hf : f ≤ 62) : W2 (m : Int) a (k : Int) = some (B5 m f a k 1):=by
 unfold W2
 rw [jY m (Tp (m : Int)) _ (Qy m hm hm2) (fun s=>by unfold Tp; rfl) f k a 1 hk hf]; rfl
def Kd (m : Nat) (a : UInt8) : UInt8:=B5 m 8 a 254 1
theorem K2 (m : Nat) (hm : m < 512) (a : UInt8) : Yj (m : Int) a = some (Kd m a):=by
 unfold Yj
 have:=zW m hm a 254 8 (by omega) (by omega)
 have h2 : XJ (m : Int) a 254 = _:=this
 rw [h2]; rfl
theorem jM (m : Nat) (hm : m < 512) (hm2 : 256 ≤ m) (a : UInt8) : Wr (m : Int) a = some (Kd m a):=by
 unfold Wr
 have:=kC m hm hm2 a 254 8 (by omega) (by omega)
 have h2 : W2 (m : Int) a 254 = _:=this
 rw [h2]; rfl

def BQ (m d : Nat) : Bool:=Yy d (KH d - 1) (16 - (KH d - 1)) m == 0
def TE (m : Int) : Bool:=decide (256 ≤ m ∧ m ≤ 511) && !((List.range' 2 30).any (BQ m.toNat))
theorem kB (m : Int) : Uh m = some (TE m):=by
 unfold Uh TE
 rw [HB]
 by_cases hm : 256 ≤ m ∧ m ≤ 511
 ·obtain ⟨n,rfl⟩:=Int.eq_ofNat_of_zero_le (show 0 ≤ m by omega)
  have hn : n < 512:=by omega
  have h:=JD (f:=WJ (n : Int)) 32 (BQ n) false (by omega) 2 (by omega) (fun d h2 hd=>by
   unfold WJ
   have c1 : (d : Int) < 32:=by omega
   have hp : ∃ p,p ≤ 4 ∧ 2 ^ p ≤ d ∧ d < 2 ^ (p + 1):=by
    refine ⟨d.log2,?_,Nat.log2_self_le (by omega),Nat.lt_log2_self⟩
    have:=(Nat.log2_lt (n:=d) (by omega)).2 (show d < 2 ^ 5 by omega)
    omega
   obtain ⟨p,h3,h4,h5⟩:=hp
   have hl:=Aw h4 h5
   rw [Zaj n d p (16 - p) (by omega) (by omega) h4 h5 (by rw [show p + (16 - p) = 16 by omega]; omega)]
   simp only [c1,decide_true,if_true,Option.bind_some]
   unfold BQ
   rw [hl,show p + 1 - 1 = p by omega]
   generalize Yy d p (16 - p) n = q
   have : ((((q : Nat) : Int)) == 0) = (q == 0):=by rw [Bool.eq_iff_iff,beq_iff_eq,beq_iff_eq]; omega
   rw [this]
   cases q == 0 <;> simp) (by unfold WJ; simp)
  have h2 : ZD (WJ (n : Int)) 2 = _:=h
  rw [h2]
  simp only [hm,decide_true,and_self,Bool.not_true,Bool.false_eq_true,if_false,Option.bind_some,Bool.true_and,Int.toNat_natCast]
  cases (List.range' 2 30).any (BQ n) <;> rfl
 ·simp [hm]
theorem Zap (m : Int) : Tb m = some (TE m):=by
 unfold Tb TE
 rw [QY]
 by_cases hm : 256 ≤ m ∧ m ≤ 511
 ·obtain ⟨n,rfl⟩:=Int.eq_ofNat_of_zero_le (show 0 ≤ m by omega)
  have hn : n < 512:=by omega
  have inner : ∀ p : Nat,p ≤ 4 → ZD (WU (n : Int) (p : Int)) ((2 ^ p : Nat) : Int) = some (if (List.range' (2 ^ p) (2 ^ p)).any (BQ n) then Fl.ex false else Fl.nx ()):=by
   intro p hp
   have c2 : YI (p : Int) = some ():=by unfold YI; rw [if_pos (by omega)]
   have hpow : 2 ^ p ≤ 2 ^ 4:=Nat.pow_le_pow_right (by omega) hp
   have hpp:=Nat.two_pow_pos p
   have c3 : Jq 2 (p : Int) = ((2 ^ (p + 1) : Nat) : Int):=by
    have:=Jr 2 p (by omega) (by rw [Nat.shiftLeft_eq]; omega)
    rw [Nat.shiftLeft_eq] at this
    rw [show (2 : Int) = ((2 : Nat) : Int) from rfl,this,Nat.pow_succ,Nat.mul_comm]
   have h:=JD (f:=WU (n : Int) (p : Int)) (2 ^ (p + 1)) (BQ n) false (by rw [Nat.pow_succ]; omega) (2 ^ p) (by rw [Nat.pow_succ]; omega) (fun d h4 h5=>by
    unfold WU
    have c1 : (d : Int) < ((2 ^ (p + 1) : Nat) : Int):=by omega
    have hd : d < 32:=by rw [Nat.pow_succ] at h5; omega
    have hl:=Aw h4 h5
    rw [c2,c3,Zbs n d p (by omega) (by omega) (by omega)]
    simp only [c1,decide_true,if_true,Option.bind_some]
    unfold BQ
    rw [hl,show p + 1 - 1 = p by omega]
    generalize Yy d p (16 - p) n = q
    have : ((((q : Nat) : Int)) == 0) = (q == 0):=by rw [Bool.eq_iff_iff,beq_iff_eq,beq_iff_eq]; omega
    rw [this]
    cases q == 0 <;> simp) (by
     unfold WU
     rw [c2,c3]; simp)
   rw [show 2 ^ (p + 1) - 2 ^ p = 2 ^ p by rw [Nat.pow_succ]; omega] at h
   exact h
  have h:=JD (f:=WV (n : Int)) 5 (fun p=>(List.range' (2 ^ p) (2 ^ p)).any (BQ n)) false (by omega) 1 (by omega) (fun p _ hp=>by
   unfold WV
   have c1 : (p : Int) ≤ 4:=by omega
   have c2 : YI (p : Int) = some ():=by unfold YI; rw [if_pos (by omega)]
   have c3 : Jq 1 (p : Int) = ((2 ^ p : Nat) : Int):=by
    have hpow : 2 ^ p ≤ 2 ^ 4:=Nat.pow_le_pow_right (by omega) (by omega)
    have:=Jr 1 p (by omega) (by rw [Nat.shiftLeft_eq]; omega)
    rw [Nat.shiftLeft_eq,Nat.one_mul] at this
    exact this
   rw [c2,c3,inner p (by omega)]
   simp only [c1,decide_true,if_true,Option.bind_some]
   cases (List.range' (2 ^ p) (2 ^ p)).any (BQ n) <;> rfl) (by unfold WV; simp)
  have h2 : ZD (WV (n : Int)) 1 = _:=h
  rw [h2]
  have e : ((List.range' 1 (5 - 1)).any fun p=>(List.range' (2 ^ p) (2 ^ p)).any (BQ n)) = (List.range' 2 30).any (BQ n):=by
   have e1 : List.range' 2 30 = List.range' 2 2 ++ (List.range' 4 4 ++ (List.range' 8 8 ++ List.range' 16 16)):=by decide
   have e2 : List.range' 1 (5 - 1) = [1,2,3,4]:=by decide
   rw [e1,e2]
   simp only [List.any_append,List.any_cons,List.any_nil,Bool.or_false,Nat.reducePow]
  rw [e]
  simp only [hm,decide_true,and_self,Bool.not_true,Bool.false_eq_true,if_false,Option.bind_some,Bool.true_and,Int.toNat_natCast]
  cases (List.range' 2 30).any (BQ n) <;> rfl
 ·simp [hm]
theorem Jb {m : Int} (h : TE m = true) : ∃ n : Nat,m = n ∧ 256 ≤ n ∧ n < 512:=by
 unfold TE at h
 simp only [Bool.and_eq_true,decide_eq_true_eq] at h
 exact ⟨m.toNat,by omega,by omega,by omega⟩
def QI (l : List UInt8) : Bool:=decide l.Nodup
theorem ym (l : List UInt8) : ((List.range' 0 (l.length - 0)).any fun i=>(List.range' 0 (i - 0)).any fun k=>l[i]? == l[k]?) = !QI l:=by
 rw [Bool.eq_iff_iff,VH]
 rw [QI,Bool.not_eq_true',decide_eq_false_iff_not]
 unfold List.Nodup
 rw [List.pairwise_iff_getElem]
 simp only [VH,beq_iff_eq]
 constructor
 ·rintro ⟨i,_,hi,k,_,hk,h⟩ hn
  have hk' : k < l.length:=by omega
  rw [List.getElem?_eq_getElem hi,List.getElem?_eq_getElem hk'] at h
  exact hn k i hk' hi hk (by simpa using h.symm)
 ·intro h
  simp only [Classical.not_forall,ne_eq,Decidable.not_not] at h
  obtain ⟨k,i,hk,hi,hki,h⟩:=h
  exact ⟨i,Nat.zero_le _,hi,k,Nat.zero_le _,hki,by rw [List.getElem?_eq_getElem hi,List.getElem?_eq_getElem hk,h]⟩
theorem zY (l : List UInt8) (c : UInt8) : decide (indexByte l c ≥ 0) = l.contains c:=by
 induction l with
 | nil=>rfl
 | cons b l ih =>
  have hge:=Lib.indexByte_ge l c
  show decide (Lib.indexByte (b :: l) c ≥ 0) = _
  unfold Lib.indexByte
  rw [List.contains_cons,← ih]
  by_cases hb : b = c
  ·subst hb; simp
  ·have hb' : (c == b) = false:=by simpa using fun h=>hb h.symm
   simp only [beq_eq_false_iff_ne.2 hb,hb',Bool.false_eq_true,if_false,Bool.false_or]
   rw [decide_eq_decide]
   show _ ↔ Lib.indexByte l c ≥ 0
   by_cases h1 : Lib.indexByte l c = -1
   ·simp [h1]
   ·rw [if_neg (by simpa using h1)]; omega
theorem AP (l : List UInt8) (h : l.length < 9223372036854775807) : Wm l = some (QI l):=by
 unfold Wm
 have:=Jv (f:=Xa l) l.length (fun i=>(l.take i).any fun x=>l[i]? == some x) false h (fun i hi=>by
  unfold Xa
  have e1 : slc l (0 : Int) (i : Int) = some (l.take i):=by have:=J5 (l:=l) (i:=0) (j:=i) (Nat.zero_le _) (by omega); simpa using this
  simp only [Int.ofNat_lt,hi,decide_true,if_true,XV,List.getElem?_eq_getElem hi,Option.bind_some,e1]
  unfold UH
  simp only [Option.bind_some,zY]
  have e2 : (l.take i).contains l[i] = (l.take i).any fun x=>some l[i] == some x:=by
   rw [Bool.eq_iff_iff]; simp [List.any_eq_true]
  rw [e2]
  split <;> rfl) (by unfold Xa; simp) 0 (Nat.zero_le _)
 have h3 : ZD (Xa l) 0 = _:=this
 have key : ((List.range' 0 (l.length - 0)).any fun i=>(l.take i).any fun x=>l[i]? == some x) = !QI l:=by
  rw [← ym,Bool.eq_iff_iff,VH,VH]
  refine exists_congr fun i=>and_congr_right fun _=>and_congr_right fun hi=>?_
  rw [VH,List.any_eq_true]
  constructor
  ·rintro ⟨x,hx,h⟩
   obtain ⟨k,hk,rfl⟩:=List.mem_iff_getElem.1 hx
   have hk2 : k < i ∧ k < l.length:=by simp at hk; omega
   exact ⟨k,Nat.zero_le _,hk2.1,by rw [List.getElem?_eq_getElem hk2.2]; simpa using h⟩
  ·rintro ⟨k,_,hk,h⟩
   have hkl : k < l.length:=by omega
   refine ⟨l[k],List.mem_iff_getElem.2 ⟨k,by simp; omega,by simp⟩,?_⟩
   rw [List.getElem?_eq_getElem hkl] at h; exact h
 rw [h3,key]
 cases QI l <;> simp [Fl.el]
def dbl (m y : Nat) : Nat:=if (y <<< 1).testBit 8 then (y <<< 1) ^^^ m else y <<< 1
theorem jZ (a b c d : Nat) : (a ^^^ b) ^^^ (c ^^^ d) = (a ^^^ c) ^^^ (b ^^^ d):=by
 rw [Nat.xor_assoc,Nat.xor_assoc,← Nat.xor_assoc b,← Nat.xor_assoc c,Nat.xor_comm b c]
theorem qq (m x y : Nat) : dbl m (x ^^^ y) = dbl m x ^^^ dbl m y:=by
 unfold dbl
 rw [Nat.shiftLeft_xor_distrib,Nat.testBit_xor]
 cases (x <<< 1).testBit 8 <;> cases (y <<< 1).testBit 8 <;> simp only [Bool.xor_false,Bool.false_xor,Bool.xor_self,Bool.xor_true,Bool.not_false,Bool.not_true,Bool.false_eq_true,if_true,if_false]
 ·rw [Nat.xor_assoc]
 ·rw [Nat.xor_assoc,Nat.xor_assoc,Nat.xor_comm m]
 ·rw [jZ,Nat.xor_self,Nat.xor_zero]
theorem AM (m : Nat) : dbl m 0 = 0:=by simp [dbl]
def opP (m : Nat) : Nat → Nat → Nat → Nat
 | 0,_,_=>0
 | n + 1,b,x=>(if b % 2 = 1 then x else 0) ^^^ opP m n (b / 2) (dbl m x)
theorem jr (m n b x : Nat) : opP m (n + 1) b x = (if b % 2 = 1 then x else 0) ^^^ opP m n (b / 2) (dbl m x):=rfl
theorem ys (m : Nat) : ∀ (n b x y : Nat),opP m n b (x ^^^ y) = opP m n b x ^^^ opP m n b y
 | 0,_,_,_=>by simp [opP]
 | n + 1,b,x,y=>by
  unfold opP
  rw [qq,ys m n,jZ]
  congr 1
  split <;> simp
theorem HC (m : Nat) : ∀ (n b : Nat),opP m n b 0 = 0
 | 0,_=>rfl
 | n + 1,b=>by unfold opP; rw [AM,HC m n]; simp
theorem qB (m : Nat) : ∀ (n b x : Nat),opP m n b (dbl m x) = dbl m (opP m n b x)
 | 0,_,_=>(AM m).symm
 | n + 1,b,x=>by
  unfold opP
  rw [qB m n,qq]
  congr 1
  split
  ·rfl
  ·exact (AM m).symm
theorem jU (m : Nat) : ∀ (n b k c x : Nat),opP m n b (opP m k c x) = opP m k c (opP m n b x)
 | 0,_,k,c,_=>(HC m k c).symm
 | n + 1,b,k,c,x=>by
  rw [jr,jr,← qB,jU m n,ys]
  congr 1
  split
  ·rfl
  ·exact (HC m k c).symm
theorem qS (a : Nat) : (if a % 2 = 1 then 1 else 0) ^^^ (a / 2) <<< 1 = a:=by
 rw [Nat.shiftLeft_eq]
 have h : (if a % 2 = 1 then 1 else 0) = a % 2:=by split <;> omega
 rw [h]
 apply Nat.eq_of_testBit_eq
 intro i
 rw [Nat.testBit_xor]
 cases i with
 | zero =>
  simp [Nat.testBit_zero]
 | succ i =>
  rw [Nat.testBit_succ,Nat.testBit_succ,Nat.testBit_succ]
  have h1 : a % 2 / 2 = 0:=by omega
  have h2 : a / 2 * 2 ^ 1 / 2 = a / 2:=by omega
  rw [h1,h2]; simp
theorem Zdv (m i : Nat) (hi : i < 7) : dbl m (1 <<< i) = 1 <<< (i + 1):=by
 unfold dbl
 rw [← Nat.shiftLeft_add]
 have : (1 <<< (i + 1)).testBit 8 = false:=by
  apply Nat.testBit_lt_two_pow
  rw [Nat.shiftLeft_eq,Nat.one_mul]
  exact Nat.pow_lt_pow_right (by omega) (by omega)
 rw [this]; rfl
theorem yR (m : Nat) : ∀ (n i a : Nat), n + i ≤ 8 → a < 2 ^ n → opP m n a (1 <<< i) = a <<< i
  | 0, i, a, _, ha => by
    have : a = 0 := by simpa using ha
    subst this; simp [opP]
  | n + 1, i, a, hn, ha => by
    have e : a <<< i = (if a % 2 = 1 then 1 <<< i else 0) ^^^ (a / 2) <<< (i + 1) := by
      conv => lhs; rw [← qS a]
      rw [Nat.shiftLeft_xor_distrib, ← Nat.shiftLeft_add, Nat.add_comm 1 i]
      congr 1
      split <;> simp
    unfold opP
    rw [e]
    congr 1
    rcases Nat.eq_zero_or_pos n with rfl | hp
    · have : a / 2 = 0 := by have : a < 2 := by simpa using ha
                             omega
      rw [this]; simp [opP]
    · rw [Zdv m i (by omega)]
      exact yR m n (i + 1) (a / 2) (by omega) (by rw [Nat.pow_succ] at ha; omega)

theorem qP (m x : Nat) (hx : x < 2 ^ 15) : Yy m 8 8 (x <<< 1) = dbl m (Yy m 8 8 x):=by
 rw [Kl m 8 7,← Bk (d:=8) (k:=7) hx]; rfl
theorem Zbk (m : Nat) : ∀ (n i a b : Nat),i + n ≤ 8 → a < 2 ^ 8 → Yy m 8 8 (HM n (a <<< i) b) = opP m n b (Yy m 8 8 (a <<< i))
 | 0,_,_,_,_,_=>by simp [HM,opP,Tl 8 0]
 | n + 1,i,a,b,hn,ha=>by
  unfold HM opP
  rw [Q1]
  have hx : a <<< i < 2 ^ 15:=Nat.lt_of_lt_of_le (KW ha) (Nat.pow_le_pow_right (by omega) (by omega))
  rw [← qP m _ hx,← Nat.shiftLeft_add,Zbk m n (i + 1) a (b / 2) (by omega) ha]
  congr 1
  split
  ·rfl
  ·exact Tl 8 0 (by omega)
theorem Q0 (m : Nat) (h1 : 256 ≤ m) (h2 : m < 512) (a b : UInt8) : (ZW m a b).toNat = opP m 8 b.toNat a.toNat:=by
 have ha : a.toNat < 2 ^ 8:=a.toNat_lt
 have hr : Yy m 8 8 (HM 8 a.toNat b.toNat) < 256:=Hi (d:=8) h1 h2 8 _ (qD 8 a.toNat b.toNat 8 ha)
 have e:=Zbk m 8 0 a.toNat b.toNat (by omega) ha
 rw [Nat.shiftLeft_zero,Tl 8 _ ha] at e
 unfold ZW ZO
 rw [e] at hr ⊢
 generalize opP m 8 b.toNat a.toNat = q at hr ⊢
 have : (((q : Nat) : Int) % 256).toNat = q:=by omega
 rw [this]
 simp
 omega
section
variable {m : Nat} (h1 : 256 ≤ m) (h2 : m < 512)
include h1 h2
theorem KN (a b : UInt8) : ZW m a b = ZW m b a:=by
 apply UInt8.toNat_inj.1
 rw [Q0 m h1 h2,Q0 m h1 h2]
 have ea:=yR m 8 0 a.toNat (by omega) a.toNat_lt
 have eb:=yR m 8 0 b.toNat (by omega) b.toNat_lt
 simp only [Nat.shiftLeft_zero] at ea eb
 rw [← ea,jU,eb,ea]
theorem Zaf (a b c : UInt8) : ZW m (a ^^^ b) c = ZW m a c ^^^ ZW m b c:=by
 apply UInt8.toNat_inj.1
 rw [UInt8.toNat_xor,Q0 m h1 h2,Q0 m h1 h2,Q0 m h1 h2,UInt8.toNat_xor,ys]
theorem kd (a b c : UInt8) : ZW m a (b ^^^ c) = ZW m a b ^^^ ZW m a c:=by
 rw [KN h1 h2,Zaf h1 h2,KN h1 h2 b,KN h1 h2 c]
theorem JY (a : UInt8) : ZW m 0 a = 0:=by
 apply UInt8.toNat_inj.1
 rw [Q0 m h1 h2]
 exact HC m 8 _
end
def vf {α : Type} (n : Nat) (f : Nat → α) : Vector α n:=Vector.ofFn fun i=>f i.1
theorem KX {α : Type} {n i : Nat} (f : Nat → α) (h : i < n) : (vf n f)[i] = f i:=by simp [vf]
theorem KV {α : Type} {n i : Nat} (f : Nat → α) (h : i < n) : (vf n f)[i]? = some (f i):=by rw [Vector.getElem?_eq_getElem h,KX f h]
theorem ZP {α : Type} {n i : Nat} (f : Nat → α) (h : i < n) : ZC (vf n f) (i : Int) = some (f i):=by rw [WX,KV f h]
theorem Y2 {α : Type} {n : Nat} {f g : Nat → α} (h : ∀ i,i < n → f i = g i) : vf n f = vf n g:=by
 apply Km
 intro i hi
 rw [KX f hi,KX g hi,h i hi]
theorem UN {α : Type} {n : Nat} (f : Nat → α) (k : Nat) (x : α) : (vf n f).setIfInBounds k x = vf n (fun i=>if i = k then x else f i):=by
 apply Km
 intro i hi
 rw [Vector.getElem_setIfInBounds,KX _ hi,KX _ hi]
 by_cases h : k = i
 ·subst h; simp
 ·rw [if_neg h,if_neg (fun e=>h e.symm)]
theorem TD {α : Type} (n : Nat) (x : α) : Vector.replicate n x = vf n (fun _=>x):=by
 apply Km
 intro i hi
 rw [KX _ hi]; simp
theorem z6 {α : Type} [Inhabited α] {n : Nat} (v : Vector α n) : v = vf n (fun i=>v[i]?.getD default):=by
 apply Km
 intro i hi
 rw [KX _ hi,Vector.getElem?_eq_getElem hi]; rfl
abbrev Mat:=Vector (Vector UInt8 4) 4
def mf (f : Nat → Nat → UInt8) : Mat:=vf 4 fun i=>vf 4 (f i)
theorem Xd {f g : Nat → Nat → UInt8} (h : ∀ i,i < 4 → ∀ j,j < 4 → f i j = g i j) : mf f = mf g:=Y2 fun i hi=>Y2 fun j hj=>h i hi j hj
theorem XC {i : Nat} (f : Nat → Nat → UInt8) (h : i < 4) : ZC (mf f) (i : Int) = some (vf 4 (f i)):=ZP _ h
theorem Ku (f : Nat → Nat → UInt8) (k : Nat) (g : Nat → UInt8) : (mf f).setIfInBounds k (vf 4 g) = mf (fun i j=>if i = k then g j else f i j):=by
 unfold mf
 rw [UN]
 apply Y2
 intro i hi
 by_cases h : i = k
 ·simp [h]
 ·simp [h]
theorem mf_of (a : Mat) : ∃ f,a = mf f:=by
 refine ⟨fun i j=>(a[i]?.getD default)[j]?.getD default,?_⟩
 calc a = vf 4 (fun i=>a[i]?.getD default):=z6 a
  _ = _:=Y2 fun i _=>z6 _
theorem Hm : Vector.replicate 4 (Vector.replicate 4 (0 : UInt8)) = mf (fun _ _=>0):=by rw [TD 4 (0 : UInt8),TD]; rfl
theorem lt4 {i : Nat} (h : i < 4) : decide ((i : Int) < 4) = true:=by simp; omega
theorem lt4' {i : Nat} (h : ¬ i < 4) : decide ((i : Int) < 4) = false:=by simp; omega
theorem wr4 {i : Nat} (h : i < 1000) : wr ((i : Int) + 1) = ((i + 1 : Nat) : Int):=Xe (by omega)

def KG (i j : Nat) : UInt8:=if i = j then 1 else 0
theorem yb (L : Mat × Int → Option (Fl (Mat × Int) Mat))
  (hL : ∀ s8,L s8 = if (decide (s8.2 < 4)) = true then ((ZC s8.1 s8.2).bind fun (x14 : (Vector UInt8 4))=>(ZC x14 s8.2).bind fun (x17 : UInt8)=>some (Fl.nx ((s8.1.setIfInBounds (s8.2).toNat (x14.setIfInBounds (s8.2).toNat 1)),wr (s8.2 + 1)))) else (some (Fl.ex s8.1))) :
  ZD L (Vector.replicate 4 (Vector.replicate 4 (0 : UInt8)),0) = some (mf KG):=by
 have:=Z3 (f:=L) (fun i : Nat=>(mf fun r c=>if r < i then KG r c else 0,(i : Int))) 0 4 (by omega) (t:=mf KG) (fun i _ hi=>by
  rw [hL]
  simp only [lt4 hi,if_true,XC _ hi,ZP _ hi,Option.bind_some,Int.toNat_natCast,UN,Ku,wr4 (show i < 1000 by omega)]
  congr 3
  apply Xd
  intro r hr c hc
  by_cases h1 : r = i
  ·subst h1; simp [KG,eq_comm]
  ·simp only [h1,if_false]
   by_cases h2 : r < i
   ·rw [if_pos h2,if_pos (by omega)]
   ·rw [if_neg h2,if_neg (by omega)]) (by
  rw [hL]
  simp only [lt4' (show ¬ 4 < 4 by omega),Bool.false_eq_true,if_false]
  exact congrArg (fun z=>some (Fl.ex z)) (Xd fun r hr c hc=>by rw [if_pos hr]))
 rw [Hm]
 simpa using this
theorem Hq : Vg = some (mf KG):=by
 unfold Vg
 rw [yb T5 fun s=>rfl]; rfl
theorem He : Vf = some (mf KG):=by
 unfold Vf
 rw [yb T3 fun s=>rfl]; rfl

abbrev MF:=Nat → Nat → UInt8
def Kk (f : MF) (k : Nat) : Nat:=((List.range' k (4 - k)).find? fun i=>!(f i k == 0)).getD 4
def Zbo (f : MF) (i k : Nat) : MF:=fun r c=>if r = k then f i c else if r = i then f k c else f r c
def Bg (m : Nat) (f : MF) (k : Nat) (by_ : UInt8) : MF:=fun r c=>if r = k then ZW m (f k c) by_ else f r c
def WR (m : Nat) (f g : MF) (k : Nat) : MF:=fun r c=>if r = k then g r c else g r c ^^^ ZW m (f r k) (g k c)
structure Red where
 a : MF
 b : MF
 det : UInt8
def KS (m : Nat) (s : Red) (k : Nat) : Option Red :=
 let i:=Kk s.a k
 if i = 4 then none else
  let f:=Zbo s.a i k
  let g:=Zbo s.b i k
  let q:=Kd m (f k k)
  let f2:=Bg m f k q
  let g2:=Bg m g k q
  some ⟨WR m f2 f2 k,WR m f2 g2 k,ZW m s.det (f k k)⟩
def JL (m : Nat) : Nat → Nat → Red → Option Red
 | 0,_,s=>some s
 | n + 1,k,s=>(KS m s k).bind (JL m n (k + 1))
def JH (m : Nat) (a : MF) : UInt8 × Mat:=match JL m 4 0 ⟨a,KG,1⟩ with
 | some s=>(s.det,mf s.b)
 | none=>(0,mf fun _ _=>0)
theorem zd (L : Int → Option (Fl Int Int)) (f : MF) (k : Nat) (hk : k < 4)
  (hL : ∀ s,L s = (if (decide (s < 4)) = true then ((ZC (mf f) s).bind fun (x30 : (Vector UInt8 4))=>(ZC x30 (k : Int)).bind fun (x33 : UInt8)=>some (x33 == 0)) else (some false) : Option (Bool)).bind fun (j25 : Bool)=>if j25 = true then (some (Fl.nx (wr (s + 1)))) else (some (Fl.ex s))) :
  ZD L (k : Int) = some ((Kk f k : Nat) : Int):=by
 have:=Qw (f:=L) (fun i : Nat=>(i : Int)) (fun i=>!(f i k == 0)) (fun i=>(i : Int)) (e:=(4 : Int)) 4 (4 - k) k (by omega) (fun i _ hi=>by
  rw [hL]
  simp only [lt4 hi,if_true,XC _ hi,ZP _ hk,Option.bind_some]
  cases h : (f i k == 0)
  ·simp
  ·simp [wr4 (show i < 1000 by omega)]) (by rw [hL]; simp)
 rw [this]
 unfold Kk
 cases (List.range' k (4 - k)).find? fun i=>!(f i k == 0) <;> rfl
theorem jf {f : MF} {k : Nat} (h : Kk f k ≠ 4) : Kk f k < 4:=by
 unfold Kk at h ⊢
 cases hf : (List.range' k (4 - k)).find? fun i=>!(f i k == 0) with
 | none=>rw [hf] at h; exact absurd rfl h
 | some i =>
  have:=List.mem_range'_1.1 (List.mem_of_find?_eq_some hf)
  simp only [Option.getD_some]
  omega
theorem JI (L : Mat × Mat × Int → Option (Fl (Mat × Mat × Int) (Mat × Mat))) (f g : MF) (k : Nat) (hk : k < 4) (p q : Nat → UInt8)
  (hL : ∀ c,c < 4 → ∀ a b : MF,(∀ r,r ≠ k → a r = f r) → (∀ r,r ≠ k → b r = g r) → a k c = f k c → b k c = g k c → L (mf a,mf b,(c : Int)) = some (Fl.nx ((mf a).setIfInBounds k ((vf 4 (a k)).setIfInBounds c (p c)),(mf b).setIfInBounds k ((vf 4 (b k)).setIfInBounds c (q c)),wr ((c : Int) + 1))))
  (he : ∀ a b : Mat,L (a,b,4) = some (Fl.ex (a,b))) :
  ZD L (mf f,mf g,0) = some (mf (fun r c=>if r = k then p c else f r c),mf (fun r c=>if r = k then q c else g r c)):=by
 have k1 : (mf fun r c=>if r = k then (if c < 4 then p c else f k c) else f r c) = mf fun r c=>if r = k then p c else f r c:=Xd fun r _ c hc=>by rw [if_pos hc]
 have k2 : (mf fun r c=>if r = k then (if c < 4 then q c else g k c) else g r c) = mf fun r c=>if r = k then q c else g r c:=Xd fun r _ c hc=>by rw [if_pos hc]
 have:=Z3 (f:=L) (fun i : Nat=>(mf fun r c=>if r = k then (if c < i then p c else f k c) else f r c,mf fun r c=>if r = k then (if c < i then q c else g k c) else g r c,(i : Int))) 0 4 (by omega)
  (t:=(mf (fun r c=>if r = k then p c else f r c),mf (fun r c=>if r = k then q c else g r c))) (fun i _ hi=>by
  rw [hL i hi _ _ (fun r hr=>by funext c; rw [if_neg hr]) (fun r hr=>by funext c; rw [if_neg hr]) (by simp) (by simp)]
  simp only [UN,Ku,wr4 (show i < 1000 by omega)]
  congr 3
  ·apply Xd
   intro r hr c hc
   by_cases h : r = k
   ·simp only [h,if_true]
    by_cases h2 : c = i
    ·subst h2; simp
    ·by_cases h3 : c < i
     ·rw [if_neg h2,if_pos h3,if_pos (by omega)]
     ·rw [if_neg h2,if_neg h3,if_neg (by omega)]
   ·simp only [h,if_false]
  ·congr 1
   apply Xd
   intro r hr c hc
   by_cases h : r = k
   ·simp only [h,if_true]
    by_cases h2 : c = i
    ·subst h2; simp
    ·by_cases h3 : c < i
     ·rw [if_neg h2,if_pos h3,if_pos (by omega)]
     ·rw [if_neg h2,if_neg h3,if_neg (by omega)]
   ·simp only [h,if_false]) (by
  simp only [k1,k2]
  exact he _ _)
 have e1 : mf (fun r c=>if r = k then (if c < 0 then p c else f k c) else f r c) = mf f:=Xd fun r hr c hc=>by
  by_cases h : r = k
  ·subst h; simp
  ·simp [h]
 have e2 : mf (fun r c=>if r = k then (if c < 0 then q c else g k c) else g r c) = mf g:=Xd fun r hr c hc=>by
  by_cases h : r = k
  ·subst h; simp
  ·simp [h]
 simp only [e1,e2] at this
 exact this
theorem A2 {S : Type} (m : Nat) (L : S → Option (Fl S (Fl (Mat × UInt8) (UInt8 × Mat)))) (pk : Red → Nat → S)
  (hstep : ∀ k,k < 4 → ∀ s,L (pk s k) = some (match KS m s k with | none=>.ex (.ex (0,mf fun _ _=>0)) | some s'=>.nx (pk s' (k + 1))))
  (hend : ∀ s,L (pk s 4) = some (.ex (.nx (mf s.b,s.det)))) : ∀ (n k : Nat) (s : Red),k + n = 4 → ZD L (pk s k) = some (match JL m n k s with | some s'=>.nx (mf s'.b,s'.det) | none=>.ex (0,mf fun _ _=>0))
 | 0,k,s,h=>by
  have : k = 4:=by omega
  subst this
  rw [Xb (hend s)]; rfl
 | n + 1,k,s,h=>by
  have h1:=hstep k (by omega) s
  unfold JL
  cases hr : KS m s k with
  | none=>rw [hr] at h1; rw [Xb h1]; rfl
  | some s'=>rw [hr] at h1; rw [Wo h1]; exact A2 m L pk hstep hend n (k + 1) s' (by omega)
theorem qF {i k : Nat} : (((i : Int)) != ((k : Nat) : Int)) = decide (i ≠ k):=by
 by_cases h : i = k
 ·subst h; simp
 ·have : (i : Int) ≠ (k : Int):=by omega
  simp [h,this]
theorem yl (m : Nat) (L : Mat × Mat × Int → Option (Fl (Mat × Mat × Int) (Mat × Mat))) (f g : MF) (k : Nat)
  (hL : ∀ i,i < 4 → ∀ a b : MF,(a i = f i) → (b i = g i) → (a k = f k) → (b k = g k) → L (mf a,mf b,(i : Int)) = some (Fl.nx (mf (fun r c=>if r = i then WR m f f k r c else a r c),mf (fun r c=>if r = i then WR m f g k r c else b r c),wr ((i : Int) + 1))))
  (he : ∀ a b : Mat,L (a,b,4) = some (Fl.ex (a,b))) : ZD L (mf f,mf g,0) = some (mf (WR m f f k),mf (WR m f g k)):=by
 have ek : ∀ h : MF,WR m f h k k = h k:=fun h=>by funext c; simp [WR]
 have k1 : (mf fun r c=>if r < 4 then WR m f f k r c else f r c) = mf (WR m f f k):=Xd fun r hr c _=>by rw [if_pos hr]
 have k2 : (mf fun r c=>if r < 4 then WR m f g k r c else g r c) = mf (WR m f g k):=Xd fun r hr c _=>by rw [if_pos hr]
 have:=Z3 (f:=L) (fun i : Nat=>(mf fun r c=>if r < i then WR m f f k r c else f r c,mf fun r c=>if r < i then WR m f g k r c else g r c,(i : Int))) 0 4 (by omega)
  (t:=(mf (WR m f f k),mf (WR m f g k))) (fun i _ hi=>by
  rw [hL i hi _ _ (by funext c; simp) (by funext c; simp) (by funext c; by_cases h : k < i <;> simp [h,ek]) (by funext c; by_cases h : k < i <;> simp [h,ek])]
  rw [wr4 (show i < 1000 by omega)]
  have e : ∀ (x y : MF),(mf fun r c=>if r = i then x r c else if r < i then x r c else y r c) = mf fun r c=>if r < i + 1 then x r c else y r c:=fun x y=>Xd fun r _ c _=>by
   by_cases h1 : r = i
   ·subst h1; simp
   ·by_cases h2 : r < i
    ·rw [if_neg h1,if_pos h2,if_pos (by omega)]
    ·rw [if_neg h1,if_neg h2,if_neg (by omega)]
  rw [e,e]) (by
  simp only [k1,k2]
  exact he _ _)
 simpa using this

theorem js (f : MF) {i k : Nat} : ((mf f).setIfInBounds i (vf 4 (f k))).setIfInBounds k (vf 4 (f i)) = mf (Zbo f i k):=by
 rw [Ku,Ku]; rfl
section
variable (m : Nat) (hm : m < 512) (hm2 : 256 ≤ m)
include hm
theorem ko (A B : Mat) (det : UInt8) (q : UInt8) (f g : MF) (k : Nat) (hk : k < 4) : ZD (XW (m : Int) (A,B,(k : Int),det) q) (mf f,mf g,0) = some (mf (Bg m f k q),mf (Bg m g k q)):=by
 refine JI _ f g k hk (fun c=>ZW m (f k c) q) (fun c=>ZW m (g k c) q) (fun c hc a b _ _ ha hb=>?_) (fun a b=>?_)
 ·unfold XW
  simp only [lt4 hc,if_true,XC _ hk,ZP _ hc,Option.bind_some,TF m hm,ha,hb,Int.toNat_natCast]
 ·unfold XW; simp
theorem Za7 (A B : Mat) (det : UInt8) (s1 : Mat × Mat × Int) (x : UInt8) (f g : MF) (k i : Nat) (hk : k < 4) (hi : i < 4) (hik : i ≠ k) (hs : s1.2.2 = (i : Int)) :
  ZD (XY (m : Int) (A,B,(k : Int),det) s1 x) (mf f,mf g,0) = some (mf (fun r c=>if r = i then f i c ^^^ ZW m x (f k c) else f r c),mf (fun r c=>if r = i then g i c ^^^ ZW m x (g k c) else g r c)):=by
 refine JI _ f g i hi (fun c=>f i c ^^^ ZW m x (f k c)) (fun c=>g i c ^^^ ZW m x (g k c)) (fun c hc a b ha' hb' ha hb=>?_) (fun a b=>?_)
 ·unfold XY
  have e1:=ha' k (Ne.symm hik)
  have e2:=hb' k (Ne.symm hik)
  simp only [hs,lt4 hc,if_true,XC _ hk,XC _ hi,ZP _ hc,Option.bind_some,TF m hm,ha,hb,e1,e2,Int.toNat_natCast]
 ·unfold XY; simp
include hm2
theorem Zas (A B : Mat) (det : UInt8) (f g : MF) (k : Nat) (hk : k < 4) : ZD (X2 (m : Int) (A,B,(k : Int),det)) (mf f,mf g,0) = some (mf (WR m f f k),mf (WR m f g k)):=by
 refine yl m _ f g k (fun i hi a b hai hbi hak hbk=>?_) (fun a b=>by unfold X2; simp)
 unfold X2
 have hfi : a i k = f i k:=by rw [hai]
 simp only [lt4 hi,if_true,XC _ hi,ZP _ hk,Option.bind_some,qF,hfi]
 by_cases h : i = k
 ·subst h
  simp only [ne_eq,not_true_eq_false,decide_false,Bool.false_eq_true,if_false,Option.bind_some]
  congr 3
  ·exact Xd fun r _ c _=>by
    by_cases h : r = i
    ·subst h; simp [WR,hai]
    ·simp [h]
  ·congr 1
   exact Xd fun r _ c _=>by
    by_cases h : r = i
    ·subst h; simp [WR,hbi]
    ·simp [h]
 ·have hd : decide (i ≠ k) = true:=by simpa using h
  simp only [hd,if_true,Option.bind_some]
  by_cases h0 : f i k = 0
  ·simp only [h0,bne_self_eq_false,Bool.false_eq_true,if_false,Option.bind_some]
   congr 3
   ·exact Xd fun r _ c _=>by
     by_cases h2 : r = i
     ·subst h2; simp [WR,hai,h,h0,JY hm2 hm]
     ·simp [h2]
   ·congr 1
    exact Xd fun r _ c _=>by
     by_cases h2 : r = i
     ·subst h2; simp [WR,hbi,h,h0,JY hm2 hm]
     ·simp [h2]
  ·have hb0 : (f i k != 0) = true:=by simpa using h0
   simp only [hb0,if_true,Option.bind_some]
   rw [Za7 m hm A B det _ _ a b k i hk hi h rfl]
   simp only [Option.bind_some]
   congr 3
   ·exact Xd fun r _ c _=>by
     by_cases h2 : r = i
     ·subst h2; simp [WR,hai,hak,h]
     ·simp [h2]
   ·congr 1
    exact Xd fun r _ c _=>by
     by_cases h2 : r = i
     ·subst h2; simp [WR,hbi,hbk,h]
     ·simp [h2]
theorem Zar (k : Nat) (hk : k < 4) (s : Red) : YM (m : Int) (mf s.a,mf s.b,(k : Int),s.det) = some (match KS m s k with | none=>.ex (.ex (0,mf fun _ _=>0)) | some s'=>.nx (mf s'.a,mf s'.b,((k + 1 : Nat) : Int),s'.det)):=by
 unfold YM
 have hp:=zd (UL (mf s.a,mf s.b,(k : Int),s.det)) s.a k hk (fun x=>rfl)
 simp only [lt4 hk,if_true,hp,Option.bind_some]
 unfold KS
 by_cases h4 : Kk s.a k = 4
 ·have : ((4 : Nat) : Int) = 4:=rfl
  simp only [h4,this,beq_self_eq_true,if_true,Hm]
 ·have hi:=jf h4
  have h5 : (((Kk s.a k : Nat) : Int) == 4) = false:=by
   have : ((Kk s.a k : Nat) : Int) ≠ 4:=by omega
   simpa using this
  generalize hpi : Kk s.a k = i at *
  simp only [h4,h5,Bool.false_eq_true,if_false]
  have x1 : ZC ((mf s.a).setIfInBounds i (vf 4 (s.a k))) (k : Int) = some (vf 4 (fun c=>if k = i then s.a k c else s.a k c)):=by rw [Ku]; exact XC _ hk
  have x2 : ZC ((mf s.b).setIfInBounds i (vf 4 (s.b k))) (k : Int) = some (vf 4 (fun c=>if k = i then s.b k c else s.b k c)):=by rw [Ku]; exact XC _ hk
  simp only [XC _ hk,XC _ hi,Option.bind_some,Int.toNat_natCast,x1,x2,js,ZP _ hk,TF m hm,K2 m hm,ko m hm _ _ _ _ _ _ k hk,Zas m hm hm2 _ _ _ _ _ k hk,wr4 (show k < 1000 by omega)]
theorem AY (f : MF) : YV (m : Int) (mf f) = some (JH m f):=by
 unfold YV
 have h:=A2 m (YM (m : Int)) (fun s k=>(mf s.a,mf s.b,(k : Int),s.det)) (Zar m hm hm2) (fun s=>by unfold YM; simp) 4 0 ⟨f,KG,1⟩ rfl
 have h2 : ZD (YM (m : Int)) (mf f,mf KG,0,1) = _:=h
 rw [He,Option.bind_some,h2]
 unfold JH
 cases JL m 4 0 ⟨f,KG,1⟩ <;> rfl
theorem kU (A B : Mat) (det : UInt8) (q : UInt8) (f g : MF) (k : Nat) (hk : k < 4) : ZD (W7 (m : Int) (A,B,det,(k : Int)) q) (mf f,mf g,0) = some (mf (Bg m f k q),mf (Bg m g k q)):=by
 refine JI _ f g k hk (fun c=>ZW m (f k c) q) (fun c=>ZW m (g k c) q) (fun c hc a b _ _ ha hb=>?_) (fun a b=>?_)
 ·unfold W7
  simp only [lt4 hc,if_true,XC _ hk,ZP _ hc,Option.bind_some,Qy m hm hm2,ha,hb,Int.toNat_natCast]
 ·unfold W7; simp
theorem Zcb (A B : Mat) (det : UInt8) (s1 : Mat × Mat × Int) (x : UInt8) (f g : MF) (k i : Nat) (hk : k < 4) (hi : i < 4) (hik : i ≠ k) (hs : s1.2.2 = (i : Int)) :
  ZD (Xl (m : Int) (A,B,det,(k : Int)) s1 x) (mf f,mf g,0) = some (mf (fun r c=>if r = i then f i c ^^^ ZW m x (f k c) else f r c),mf (fun r c=>if r = i then g i c ^^^ ZW m x (g k c) else g r c)):=by
 have hd : decide (i ≠ k) = true:=by simpa using hik
 refine JI _ f g i hi (fun c=>f i c ^^^ ZW m x (f k c)) (fun c=>g i c ^^^ ZW m x (g k c)) (fun c hc a b ha' hb' ha hb=>?_) (fun a b=>?_)
 ·unfold Xl
  have e1:=ha' k (Ne.symm hik)
  have e2:=hb' k (Ne.symm hik)
  simp only [hs,lt4 hc,if_true,qF,hd,XC _ hk,XC _ hi,ZP _ hc,Option.bind_some,Qy m hm hm2,ha,hb,e1,e2,Int.toNat_natCast]
 ·unfold Xl; simp
theorem qQ (A B : Mat) (det : UInt8) (f g : MF) (k : Nat) (hk : k < 4) : ZD (W8 (m : Int) (A,B,det,(k : Int))) (mf f,mf g,0) = some (mf (WR m f f k),mf (WR m f g k)):=by
 refine yl m _ f g k (fun i hi a b hai hbi hak hbk=>?_) (fun a b=>by unfold W8; simp)
 unfold W8
 have hfi : a i k = f i k:=by rw [hai]
 simp only [lt4 hi,if_true,XC _ hi,ZP _ hk,Option.bind_some,hfi]
 by_cases h : i = k
 ·subst h
  have h0 : ZD (Xl (m : Int) (A,B,det,(i : Int)) (mf a,mf b,(i : Int)) (f i i)) (mf a,mf b,0) = some (mf a,mf b):=by
   refine Xb ?_
   unfold Xl
   simp
  rw [h0]
  simp only [Option.bind_some]
  congr 3
  ·exact Xd fun r _ c _=>by
    by_cases h : r = i
    ·subst h; simp [WR,hai]
    ·simp [h]
  ·congr 1
   exact Xd fun r _ c _=>by
    by_cases h : r = i
    ·subst h; simp [WR,hbi]
    ·simp [h]
 ·rw [Zcb m hm hm2 A B det _ _ a b k i hk hi h rfl]
  simp only [Option.bind_some]
  congr 3
  ·exact Xd fun r _ c _=>by
    by_cases h2 : r = i
    ·subst h2; simp [WR,hai,hak,h]
    ·simp [h2]
  ·congr 1
   exact Xd fun r _ c _=>by
    by_cases h2 : r = i
    ·subst h2; simp [WR,hbi,hbk,h]
    ·simp [h2]
theorem Zab (k : Nat) (hk : k < 4) (s : Red) : Xh (m : Int) (mf s.a,mf s.b,s.det,(k : Int)) = some (match KS m s k with | none=>.ex (.ex (0,mf fun _ _=>0)) | some s'=>.nx (mf s'.a,mf s'.b,s'.det,((k + 1 : Nat) : Int))):=by
 unfold Xh
 have hp:=zd (Qc (mf s.a,mf s.b,s.det,(k : Int))) s.a k hk (fun x=>rfl)
 simp only [lt4 hk,if_true,hp,Option.bind_some]
 unfold KS
 by_cases h4 : Kk s.a k = 4
 ·have : ((4 : Nat) : Int) = 4:=rfl
  simp only [h4,this,beq_self_eq_true,if_true,Hm]
 ·have hi:=jf h4
  have h5 : (((Kk s.a k : Nat) : Int) == 4) = false:=by
   have : ((Kk s.a k : Nat) : Int) ≠ 4:=by omega
   simpa using this
  generalize hpi : Kk s.a k = i at *
  simp only [h4,h5,Bool.false_eq_true,if_false]
  have x1 : ZC ((mf s.a).setIfInBounds i (vf 4 (s.a k))) (k : Int) = some (vf 4 (fun c=>if k = i then s.a k c else s.a k c)):=by rw [Ku]; exact XC _ hk
  have x2 : ZC ((mf s.b).setIfInBounds i (vf 4 (s.b k))) (k : Int) = some (vf 4 (fun c=>if k = i then s.b k c else s.b k c)):=by rw [Ku]; exact XC _ hk
  simp only [XC _ hk,XC _ hi,Option.bind_some,Int.toNat_natCast,x1,x2,js,ZP _ hk,Qy m hm hm2,jM m hm hm2,kU m hm hm2 _ _ _ _ _ _ k hk,qQ m hm hm2 _ _ _ _ _ k hk,wr4 (show k < 1000 by omega)]
theorem jw (f : MF) : Vv (m : Int) (mf f) = some (JH m f):=by
 unfold Vv
 have h:=A2 m (Xh (m : Int)) (fun s k=>(mf s.a,mf s.b,s.det,(k : Int))) (Zab m hm hm2) (fun s=>by unfold Xh; simp) 4 0 ⟨f,KG,1⟩ rfl
 have h2 : ZD (Xh (m : Int)) (mf f,mf KG,1,0) = _:=h
 rw [Hq,Option.bind_some,h2]
 unfold JH
 cases JL m 4 0 ⟨f,KG,1⟩ <;> rfl
end
def VV (l : List UInt8) (i b : Nat) : Bool:=(l.take i).any fun x=>x.toNat == b
theorem H3 (l : List UInt8) {i : Nat} (h : i < l.length) : (fun b=>if b = l[i].toNat then true else VV l i b) = VV l (i + 1):=by
 funext b
 unfold VV
 rw [List.take_succ_eq_append_getElem h,List.any_append]
 by_cases hb : b = l[i].toNat
 ·subst hb; simp
 ·have : (l[i].toNat == b) = false:=by simpa using fun e=>hb e.symm
  simp [hb,this]
theorem jI (l : List UInt8) : ((List.range' 0 (l.length - 0)).any fun i=>VV l i (l.getD i 0).toNat) = !QI l:=by
 rw [← ym,Bool.eq_iff_iff,VH,VH]
 refine exists_congr fun i=>and_congr_right fun _=>and_congr_right fun hi=>?_
 unfold VV
 rw [VH,List.any_eq_true]
 have e0 : l.getD i 0 = l[i]:=by simp [List.getD_eq_getElem?_getD,List.getElem?_eq_getElem hi]
 rw [e0]
 constructor
 ·rintro ⟨x,hx,h⟩
  obtain ⟨k,hk,rfl⟩:=List.mem_iff_getElem.1 hx
  have hk2 : k < i ∧ k < l.length:=by simp at hk; omega
  refine ⟨k,Nat.zero_le _,hk2.1,?_⟩
  rw [List.getElem?_eq_getElem hk2.2,List.getElem?_eq_getElem hi]
  have h' : l[k].toNat = l[i].toNat:=by simpa using h
  simp [UInt8.toNat_inj.1 h']
 ·rintro ⟨k,_,hk,h⟩
  have hkl : k < l.length:=by omega
  refine ⟨l[k],List.mem_iff_getElem.2 ⟨k,by simp; omega,by simp⟩,?_⟩
  rw [List.getElem?_eq_getElem hkl,List.getElem?_eq_getElem hi] at h
  have : l[i] = l[k]:=by simpa using h
  simp [this]
theorem Q2 {n i : Nat} (v : Vector UInt8 n) (h : i < n) : ZC v (i : Int) = some (v.toList.getD i 0):=by
 rw [WX,Vector.getElem?_eq_getElem h]
 simp [List.getD_eq_getElem?_getD,h]
theorem U0 {n i : Nat} (v : Vector UInt8 n) (h : i < n) : v.toList.getD i 0 = v.toList[i]'(by simpa using h):=by
 simp [List.getD_eq_getElem?_getD,h]
theorem HS (n : Nat) (f : Nat → Bool) (x : UInt8) (h : x.toNat < n) : ZC (vf n f) (bI x) = some (f x.toNat):=ZP f h
theorem Js (x : UInt8) : (bI x).toNat = x.toNat:=rfl
theorem H6 (n : Nat) (l : List UInt8) : Vector.replicate n false = vf n (VV l 0):=by rw [TD]; rfl

theorem HO : ∀ (k l : List Nat),k.Nodup → (∀ x ∈ k,x ∈ l) → k.length ≤ l.length
 | [],_,_,_=>by simp
 | x :: k,l,h,hs=>by
  have hx:=hs x (by simp)
  obtain ⟨h1,h2⟩:=List.nodup_cons.1 h
  have:=HO k (l.erase x) h2 (fun y hy=>by
   have hne : y ≠ x:=fun e=>h1 (e ▸ hy)
   exact (List.mem_erase_of_ne hne).2 (hs y (by simp [hy])))
  rw [List.length_erase_of_mem hx] at this
  have hl : 0 < l.length:=List.length_pos_of_mem hx
  simp only [List.length_cons]; omega
theorem jC : ∀ (l : List Nat),¬ l.Nodup → ∃ l' : List Nat,l'.length + 1 = l.length ∧ ∀ x ∈ l,x ∈ l'
 | [],h=>absurd List.nodup_nil h
 | x :: l,h=>by
  by_cases hx : x ∈ l
  ·exact ⟨l,by simp,fun y hy=>by rcases List.mem_cons.1 hy with rfl | hy; exact hx; exact hy⟩
  ·have : ¬ l.Nodup:=fun hn=>h (List.nodup_cons.2 ⟨hx,hn⟩)
   obtain ⟨l',h1,h2⟩:=jC l this
   exact ⟨x :: l',by simp [h1],fun y hy=>by
    rcases List.mem_cons.1 hy with rfl | hy
    ·simp
    ·simp [h2 y hy]⟩
theorem Zbt (l : List Nat) (n : Nat) (hl : l.length = n) (hb : ∀ x ∈ l,x < n) : l.Nodup ↔ ∀ b,b < n → b ∈ l:=by
 constructor
 ·intro h b hbn
  refine Classical.byContradiction fun hne=>?_
  have:=HO (b :: l) (List.range n) (List.nodup_cons.2 ⟨hne,h⟩) (fun x hx=>by
   rcases List.mem_cons.1 hx with rfl | hx
   ·simpa using hbn
   ·simpa using hb x hx)
  simp at this; omega
 ·intro h
  refine Classical.byContradiction fun hne=>?_
  obtain ⟨l',h1,h2⟩:=jC l hne
  have:=HO (List.range n) l' List.nodup_range (fun x hx=>h2 x (h x (by simpa using hx)))
  simp at this; omega
theorem jJ (l : List UInt8) : (l.map UInt8.toNat).Nodup ↔ l.Nodup:=by
 unfold List.Nodup
 rw [List.pairwise_map]
 constructor <;> intro h <;> refine h.imp ?_
 ·intro a b hab e; exact hab (by rw [e])
 ·intro a b hab e; exact hab (UInt8.toNat_inj.1 e)

theorem Zdp (p : Vector UInt8 256) : Qg p = some (QI p.toList):=by
 unfold Qg
 have hl : p.toList.length = 256:=by simp
 have:=Qw (f:=Uv p) (fun i : Nat=>(vf 256 (VV p.toList i),(i : Int))) (fun i=>VV p.toList i (p.toList.getD i 0).toNat) (fun _=>Fl.ex false) (e:=Fl.nx ()) 256 256 0 rfl (fun i _ hi=>by
  unfold Uv
  have hd : decide ((i : Int) < 256) = true:=by simp; omega
  have hx:=Q2 p hi
  have hs:=HS 256 (VV p.toList i) (p.toList.getD i 0) (UInt8.toNat_lt _)
  simp only [hd,if_true,hx,Option.bind_some,hs]
  have e:=H3 p.toList (i:=i) (by simpa using hi)
  rw [← U0 p hi] at e
  cases VV p.toList i (p.toList.getD i 0).toNat
  ·simp only [Bool.false_eq_true,if_false,Option.bind_some,Js,UN,e,Xe (show i < 9223372036854775807 by omega)]
  ·rfl) (by unfold Uv; simp)
 have h2 : ZD (Uv p) (vf 256 (VV p.toList 0),0) = _:=this
 rw [H6 256 p.toList,h2]
 have h3:=jI p.toList
 rw [hl] at h3
 cases hf : (List.range' 0 256).find? (fun i=>VV p.toList i (p.toList.getD i 0).toNat) with
 | none =>
  have h4 : ((List.range' 0 (256 - 0)).any fun i=>VV p.toList i (p.toList.getD i 0).toNat) = false:=by rw [List.any_eq_false]; exact List.find?_eq_none.1 hf
  rw [h4] at h3
  have : QI p.toList = true:=by simpa using h3.symm
  rw [this]; rfl
 | some i =>
  have h4 : ((List.range' 0 (256 - 0)).any fun i=>VV p.toList i (p.toList.getD i 0).toNat) = true:=by rw [List.any_eq_true]; exact ⟨i,List.mem_of_find?_eq_some hf,List.find?_some (p:=fun i=>VV p.toList i (p.toList.getD i 0).toNat) hf⟩
  rw [h4] at h3
  have : QI p.toList = false:=by simpa using h3.symm
  rw [this]; rfl
theorem j8 (l : List Bool) (h : l.length < 9223372036854775807) (b : Bool) : YF l b = some (l.contains b):=by
 unfold YF XP
 have:=Bz (f:=Yv l b) l.length (fun i=>b == l.getD i false) (fun i=>(i : Int)) h (fun i hi=>by
  unfold Yv
  have e0 : l.getD i false = l[i]:=by simp [List.getD_eq_getElem?_getD,List.getElem?_eq_getElem hi]
  simp only [Int.ofNat_lt,hi,decide_true,if_true,XV,List.getElem?_eq_getElem hi,Option.bind_some,e0]
  cases b == l[i] <;> rfl) (by unfold Yv; simp) 0 (Nat.zero_le _)
 have h3 : ZD (Yv l b) 0 = _:=this
 rw [h3]
 cases hf : (List.range' 0 (l.length - 0)).find? (fun i=>b == l.getD i false) with
 | none =>
  have : l.contains b = false:=by
   rw [List.contains_eq_any_beq,List.any_eq_false]
   intro x hx
   obtain ⟨i,hi,rfl⟩:=List.mem_iff_getElem.1 hx
   have:=List.find?_eq_none.1 hf i (List.mem_range'_1.2 (by omega))
   simpa [List.getD_eq_getElem?_getD,List.getElem?_eq_getElem hi] using this
  rw [this]; rfl
 | some i =>
  have hi:=List.mem_range'_1.1 (List.mem_of_find?_eq_some hf)
  have hi' : i < l.length:=by omega
  have h4:=List.find?_some hf
  have : l.contains b = true:=by
   rw [List.contains_eq_any_beq,List.any_eq_true]
   exact ⟨l[i],List.getElem_mem hi',by simpa [List.getD_eq_getElem?_getD,List.getElem?_eq_getElem hi'] using h4⟩
  rw [this]
  simp [Fl.el]
theorem BI (p : Vector UInt8 256) : XT p = some (QI p.toList):=by
 unfold XT
 have hl : p.toList.length = 256:=by simp
 have:=Z3 (f:=Y0 p) (fun i : Nat=>(vf 256 (VV p.toList i),(i : Int))) 0 256 (by omega) (t:=vf 256 (VV p.toList 256)) (fun i _ hi=>by
  unfold Y0
  have hd : decide ((i : Int) < 256) = true:=by simp; omega
  have hx:=Q2 p hi
  have hs:=HS 256 (VV p.toList i) (p.toList.getD i 0) (UInt8.toNat_lt _)
  have e:=H3 p.toList (i:=i) (by simpa using hi)
  rw [← U0 p hi] at e
  simp only [hd,if_true,hx,Option.bind_some,hs,Js,UN,e,Xe (show i < 9223372036854775807 by omega)]) (by unfold Y0; simp)
 have h2 : ZD (Y0 p) (vf 256 (VV p.toList 0),0) = _:=this
 have e1 : slc (vf 256 (VV p.toList 256)).toList (0 : Int) (256 : Int) = some (vf 256 (VV p.toList 256)).toList:=by
  have:=J5 (l:=(vf 256 (VV p.toList 256)).toList) (i:=0) (j:=256) (by omega) (by simp)
  simp only [List.drop_zero] at this
  rw [List.take_of_length_le (by simp)] at this
  exact this
 rw [H6 256 p.toList,h2]
 have hlt : (vf 256 (VV p.toList 256)).toList.length < 9223372036854775807:=by rw [Vector.length_toList]; omega
 rw [Option.bind_some,e1,Option.bind_some,j8 _ hlt,Option.bind_some]
 refine congrArg some ?_
 rw [Bool.eq_iff_iff]
 have hp:=Zbt (p.toList.map UInt8.toNat) 256 (by simp) (fun x hx=>by obtain ⟨y,_,rfl⟩:=List.mem_map.1 hx; exact UInt8.toNat_lt y)
 rw [jJ] at hp
 unfold QI
 rw [decide_eq_true_iff,hp,Bool.not_eq_true',List.contains_eq_any_beq,List.any_eq_false]
 have hseen : ∀ b,VV p.toList 256 b = true ↔ b ∈ p.toList.map UInt8.toNat:=fun b=>by
  unfold VV
  rw [List.take_of_length_le (by omega),List.any_eq_true,List.mem_map]
  refine exists_congr fun x=>and_congr_right fun _=>?_
  exact beq_iff_eq
 constructor
 ·intro h b hb
  rw [← hseen]
  have e : (vf 256 (VV p.toList 256)).toList[b]? = some (VV p.toList 256 b):=by rw [Vector.getElem?_toList]; exact KV _ hb
  have:=h _ (List.mem_of_getElem? e)
  generalize VV p.toList 256 b = q at this
  cases q
  ·exact absurd rfl this
  ·rfl
 ·intro h x hx
  obtain ⟨b,hb⟩:=List.mem_iff_getElem?.1 hx
  have hb' : b < 256:=by have:=(List.getElem?_eq_some_iff.1 hb).1; rwa [Vector.length_toList] at this
  rw [Vector.getElem?_toList,KV _ hb',(hseen b).2 (h b hb')] at hb
  cases hb
  decide

def WP (p : Vector UInt8 16) : Bool:=p.toList.all (fun x=>decide (x < 16)) && QI p.toList
def Qj (l : List UInt8) (i : Nat) : Bool:=decide (16 ≤ (l.getD i 0).toNat)
theorem jE (p : Vector UInt8 16) : VB p = some (WP p):=by
 unfold VB
 have hl : p.toList.length = 16:=by simp
 have:=Jv (f:=X5 p) 16 (Qj p.toList) false (by omega) (fun i hi=>by
  unfold X5
  have hd : decide ((i : Int) < 16) = true:=by simp; omega
  have hx:=Q2 p hi
  simp only [hd,if_true,hx,Option.bind_some]
  unfold Qj
  have : (p.toList.getD i 0 > 15) ↔ (16 ≤ (p.toList.getD i 0).toNat):=by rw [gt_iff_lt,UInt8.lt_iff_toNat_lt]; exact Iff.rfl
  simp only [this]
  split <;> rfl) (by unfold X5; simp) 0 (by omega)
 have h2 : ZD (X5 p) 0 = _:=this
 have e1 : slc p.toList (0 : Int) (16 : Int) = some p.toList:=by
  have:=J5 (l:=p.toList) (i:=0) (j:=16) (by omega) (by simp)
  simp only [List.drop_zero] at this
  rw [List.take_of_length_le (by simp)] at this
  exact this
 have key : ((List.range' 0 (16 - 0)).any (Qj p.toList)) = !(p.toList.all fun x=>decide (x < 16)):=by
  rw [Bool.eq_iff_iff,VH,Bool.not_eq_true',List.all_eq_false]
  constructor
  ·rintro ⟨i,_,hi,h⟩
   refine ⟨p.toList[i],List.getElem_mem _,?_⟩
   unfold Qj at h
   rw [U0 p hi] at h
   simp only [decide_eq_true_eq,UInt8.lt_iff_toNat_lt] at h ⊢
   have : (16 : UInt8).toNat = 16:=rfl
   omega
  ·rintro ⟨x,hx,h⟩
   obtain ⟨i,hi,rfl⟩:=List.mem_iff_getElem.1 hx
   have hi' : i < 16:=by simpa using hi
   refine ⟨i,Nat.zero_le _,hi',?_⟩
   unfold Qj
   rw [U0 p hi']
   simp only [decide_eq_true_eq,UInt8.lt_iff_toNat_lt] at h ⊢
   have : (16 : UInt8).toNat = 16:=rfl
   omega
 rw [h2,key]
 unfold WP
 cases p.toList.all fun x=>decide (x < 16)
 ·rfl
 ·simp [Fl.el,e1,AP p.toList (by omega)]
theorem Zcp (p : Vector UInt8 16) : ((List.range' 0 (16 - 0)).any (Qj p.toList)) = !(p.toList.all fun x=>decide (x < 16)):=by
 rw [Bool.eq_iff_iff,VH,Bool.not_eq_true',List.all_eq_false]
 have h16 : (16 : UInt8).toNat = 16:=rfl
 have hl : p.toList.length = 16:=by simp
 constructor
 ·rintro ⟨i,_,hi,h⟩
  refine ⟨p.toList[i],List.getElem_mem _,?_⟩
  unfold Qj at h
  rw [U0 p hi] at h
  simp only [decide_eq_true_eq,UInt8.lt_iff_toNat_lt] at h ⊢
  omega
 ·rintro ⟨x,hx,h⟩
  obtain ⟨i,hi,rfl⟩:=List.mem_iff_getElem.1 hx
  have hi' : i < 16:=by simpa using hi
  refine ⟨i,Nat.zero_le _,hi',?_⟩
  unfold Qj
  rw [U0 p hi']
  simp only [decide_eq_true_eq,UInt8.lt_iff_toNat_lt] at h ⊢
  omega
theorem Zad (p : Vector UInt8 16) : UP p = some (WP p):=by
 unfold UP
 have hl : p.toList.length = 16:=by simp
 have h16 : (16 : UInt8).toNat = 16:=rfl
 have:=Qw (f:=WT p) (fun i : Nat=>(vf 16 (VV p.toList i),(i : Int))) (fun i=>Qj p.toList i || VV p.toList i (p.toList.getD i 0).toNat) (fun _=>Fl.ex false) (e:=Fl.nx ()) 16 16 0 rfl (fun i _ hi=>by
  unfold WT
  have hd : decide ((i : Int) < 16) = true:=by simp; omega
  have hx:=Q2 p hi
  simp only [hd,if_true,hx,Option.bind_some]
  unfold Qj
  by_cases hf : 16 ≤ (p.toList.getD i 0).toNat
  ·have h1 : p.toList.getD i 0 ≥ 16:=by rw [ge_iff_le,UInt8.le_iff_toNat_le]; omega
   simp only [h1,decide_true,if_true,hf,Bool.true_or,Option.bind_some]
  ·have h1 : ¬ p.toList.getD i 0 ≥ 16:=by rw [ge_iff_le,UInt8.le_iff_toNat_le]; omega
   have hs:=HS 16 (VV p.toList i) (p.toList.getD i 0) (by omega)
   have e:=H3 p.toList (i:=i) (by simpa using hi)
   rw [← U0 p hi] at e
   simp only [h1,decide_false,Bool.false_eq_true,if_false,hf,Bool.false_or,Option.bind_some,hs]
   cases VV p.toList i (p.toList.getD i 0).toNat
   ·simp only [Bool.false_eq_true,if_false,Option.bind_some,Js,UN,e,Xe (show i < 9223372036854775807 by omega)]
   ·rfl) (by unfold WT; simp)
 have h2 : ZD (WT p) (vf 16 (VV p.toList 0),0) = _:=this
 rw [H6 16 p.toList,h2]
 have h3:=jI p.toList
 rw [hl] at h3
 have h5 : ((List.range' 0 (16 - 0)).any fun i=>Qj p.toList i || VV p.toList i (p.toList.getD i 0).toNat) = !WP p:=by
  have e : ((List.range' 0 (16 - 0)).any fun i=>Qj p.toList i || VV p.toList i (p.toList.getD i 0).toNat) = ((List.range' 0 (16 - 0)).any (Qj p.toList) || (List.range' 0 (16 - 0)).any fun i=>VV p.toList i (p.toList.getD i 0).toNat):=by
   induction List.range' 0 (16 - 0) with
   | nil=>rfl
   | cons x l ih=>simp only [List.any_cons,ih]; cases Qj p.toList x <;> cases l.any (Qj p.toList) <;> simp
  rw [e,Zcp,h3]
  unfold WP
  cases (p.toList.all fun x=>decide (x < 16)) <;> cases QI p.toList <;> rfl
 cases hf : (List.range' 0 16).find? (fun i=>Qj p.toList i || VV p.toList i (p.toList.getD i 0).toNat) with
 | none =>
  have h4 : ((List.range' 0 (16 - 0)).any fun i=>Qj p.toList i || VV p.toList i (p.toList.getD i 0).toNat) = false:=by rw [List.any_eq_false]; exact List.find?_eq_none.1 hf
  rw [h4] at h5
  have : WP p = true:=by simpa using h5.symm
  rw [this]; rfl
 | some i =>
  have h4 : ((List.range' 0 (16 - 0)).any fun i=>Qj p.toList i || VV p.toList i (p.toList.getD i 0).toNat) = true:=by rw [List.any_eq_true]; exact ⟨i,List.mem_of_find?_eq_some hf,List.find?_some (p:=fun i=>Qj p.toList i || VV p.toList i (p.toList.getD i 0).toNat) hf⟩
  rw [h4] at h5
  have : WP p = false:=by simpa using h5.symm
  rw [this]; rfl

def Be (a : Mat) : MF:=fun i j=>(a[i]?.getD default)[j]?.getD default
theorem Hj (a : Mat) : a = mf (Be a):=calc a = vf 4 (fun i=>a[i]?.getD default):=z6 a
  _ = _:=Y2 fun i _=>z6 _
def detC (m : Nat) (a : Mat) : UInt8:=(JH m (Be a)).1
def invM (m : Nat) (a : Mat) : Mat:=(JH m (Be a)).2
def Yf (c : GCipher) : Bool:=TE c.Field && QI c.Box.toList && WP c.Places && decide (1 ≤ c.Rounds ∧ c.Rounds ≤ 20) && (detC c.Field.toNat c.Mix != 0)
theorem jG (m : Nat) (hm : m < 512) (hm2 : 256 ≤ m) (a : Mat) : YV (m : Int) a = some (detC m a,invM m a):=by
 have:=AY m hm hm2 (Be a)
 rw [← Hj] at this
 exact this
theorem yH (m : Nat) (hm : m < 512) (hm2 : 256 ≤ m) (a : Mat) : Vd (m : Int) a = some (invM m a,detC m a != 0):=by
 have:=jw m hm hm2 (Be a)
 rw [← Hj] at this
 unfold Vd
 rw [this]; rfl
theorem kZ (c : GCipher) : V5 c = some (Yf c):=by
 unfold V5 Yf Vp
 rw [Zap]
 cases hf : TE c.Field
 ·rfl
 ·obtain ⟨m,hm,h1,h2⟩:=Jb hf
  simp only [hm,Option.bind_some,if_true,BI,jG m h2 h1,jE,QY,Int.toNat_natCast]
  cases QI c.Box.toList <;> cases (detC m c.Mix != 0) <;> cases WP c.Places <;> simp
theorem Zco (c : GCipher) : Qr c = some (Yf c):=by
 unfold Qr Yf
 rw [kB]
 cases hf : TE c.Field
 ·rfl
 ·obtain ⟨m,hm,h1,h2⟩:=Jb hf
  simp only [hm,Option.bind_some,Bool.not_true,Bool.false_eq_true,if_false,Zdp,Zad,HB,yH m h2 h1,Int.toNat_natCast]
  cases QI c.Box.toList <;> cases (detC m c.Mix != 0) <;> cases WP c.Places <;> cases decide (1 ≤ c.Rounds ∧ c.Rounds ≤ 20) <;> simp
theorem Hr {c : GCipher} (h : Yf c = true) : ∃ m : Nat,c.Field = m ∧ 256 ≤ m ∧ m < 512:=by
 unfold Yf at h
 simp only [Bool.and_eq_true] at h
 exact Jb h.1.1.1.1
theorem Ww {n : Nat} (L : Vector UInt8 n × Int → Option (Fl (Vector UInt8 n × Int) (Vector UInt8 n))) (f h : Nat → UInt8) (hn : n < 9223372036854775807) (m : Nat) (hm : m ≤ n) (h0 : ∀ j,j < m → h j = f j)
  (hL : ∀ i,m ≤ i → i < n → ∀ a : Nat → UInt8,(∀ j,j < i → a j = h j) → (∀ j,i ≤ j → a j = f j) → L (vf n a,(i : Int)) = some (.nx ((vf n a).setIfInBounds i (h i),wr ((i : Int) + 1))))
  (he : ∀ v,L (v,(n : Int)) = some (.ex v)) : ZD L (vf n f,(m : Int)) = some (vf n h):=by
 have k1 : (vf n fun j=>if j < n then h j else f j) = vf n h:=Y2 fun j hj=>by rw [if_pos hj]
 have k0 : (vf n fun j=>if j < m then h j else f j) = vf n f:=Y2 fun j hj=>by
  by_cases h1 : j < m
  ·rw [if_pos h1,h0 j h1]
  ·rw [if_neg h1]
 have:=Z3 (f:=L) (fun i : Nat=>(vf n fun j=>if j < i then h j else f j,(i : Int))) m n hm (t:=vf n h) (fun i hmi hi=>by
  rw [hL i hmi hi _ (fun j hj=>by rw [if_pos hj]) (fun j hj=>by rw [if_neg (by omega)]),UN,Xe (show i < 9223372036854775807 by omega)]
  refine congrArg (fun z=>some (Fl.nx (z,((i + 1 : Nat) : Int)))) (Y2 fun j hj=>?_)
  by_cases h1 : j = i
  ·subst h1; simp
  ·by_cases h2 : j < i
   ·rw [if_neg h1,if_pos h2,if_pos (by omega)]
   ·rw [if_neg h1,if_neg h2,if_neg (by omega)]) (by
  simp only [k1]
  exact he _)
 simp only [k0] at this
 exact this
def z4 (b : Vector UInt8 256) (x : UInt8) : UInt8:=b[x.toNat]'(UInt8.toNat_lt x)
theorem KQ (b : Vector UInt8 256) (x : UInt8) : ZC b (bI x) = some (z4 b x):=by
 have : ZC b ((x.toNat : Nat) : Int) = _:=WX b x.toNat
 rw [Vector.getElem?_eq_getElem (UInt8.toNat_lt x)] at this
 exact this
abbrev Blk:=Vector UInt8 16
def bf (v : Blk) (i : Nat) : UInt8:=v[i]?.getD default
theorem vf_bf (v : Blk) : v = vf 16 (bf v):=z6 v
theorem Hn {i : Nat} (h : i < 16) : decide ((i : Int) < 16) = true:=by simp; omega
def HE (f g : Nat → UInt8) : Nat → UInt8:=fun i=>f i ^^^ g i
theorem HF (f g : Nat → UInt8) : Xg (vf 16 f) (vf 16 g) = some (vf 16 (HE f g)):=by
 unfold Xg
 have:=Ww (Vu (vf 16 g)) f (HE f g) (by omega) 0 (by omega) (fun j hj=>by omega) (fun i _ hi a _ ha=>by
  unfold Vu
  simp only [Hn hi,if_true,ZP _ hi,Option.bind_some,Int.toNat_natCast,ha i (Nat.le_refl _),HE]) (fun v=>by unfold Vu; simp)
 have h2 : ZD (Vu (vf 16 g)) (vf 16 f,0) = _:=this
 rw [h2]; rfl
theorem T7 (f g : Nat → UInt8) : Yo (vf 16 f) (vf 16 g) = some (vf 16 (HE f g)):=by
 unfold Yo
 have:=Ww (Wf (vf 16 g)) f (HE f g) (by omega) 0 (by omega) (fun j hj=>by omega) (fun i _ hi a _ ha=>by
  unfold Wf
  simp only [Hn hi,if_true,ZP _ hi,Option.bind_some,Int.toNat_natCast,ha i (Nat.le_refl _),HE]) (fun v=>by unfold Wf; simp)
 have h2 : ZD (Wf (vf 16 g)) (vf 16 f,0) = _:=this
 rw [h2]; rfl
def zx (b : Vector UInt8 256) (f : Nat → UInt8) : Nat → UInt8:=fun i=>z4 b (f i)
theorem ka (b : Vector UInt8 256) (f : Nat → UInt8) : Uu b (vf 16 f) = some (vf 16 (zx b f)):=by
 unfold Uu
 have:=Ww (WH b) f (zx b f) (by omega) 0 (by omega) (fun j hj=>by omega) (fun i _ hi a _ ha=>by
  unfold WH
  simp only [Hn hi,if_true,ZP _ hi,Option.bind_some,Int.toNat_natCast,ha i (Nat.le_refl _),KQ,zx]) (fun v=>by unfold WH; simp)
 have h2 : ZD (WH b) (vf 16 f,0) = _:=this
 rw [h2]; rfl
def JV (p : Blk) (f : Nat → UInt8) : Nat → UInt8:=fun i=>f (bf p i).toNat
theorem Bu {p : Blk} (h : WP p = true) {i : Nat} (hi : i < 16) : (bf p i).toNat < 16:=by
 unfold WP at h
 simp only [Bool.and_eq_true,List.all_eq_true,decide_eq_true_eq] at h
 have e : bf p i = p[i]:=by unfold bf; rw [Vector.getElem?_eq_getElem hi]; rfl
 have:=h.1 p[i] (by simp)
 rw [UInt8.lt_iff_toNat_lt] at this
 rw [e]; exact this
theorem HH (p : Blk) {i : Nat} (h : i < 16) : ZC p (i : Int) = some (bf p i):=by
 rw [WX]; unfold bf; rw [Vector.getElem?_eq_getElem h]; rfl
theorem yZ (f : Nat → UInt8) {x : UInt8} (h : x.toNat < 16) : ZC (vf 16 f) (bI x) = some (f x.toNat):=ZP f h
theorem Za0 (p : Blk) (hp : WP p = true) (f : Nat → UInt8) : U8 p (vf 16 f) = some (vf 16 (JV p f)):=by
 unfold U8
 have:=Ww (W1 p (vf 16 f)) (fun _=>0) (JV p f) (by omega) 0 (by omega) (fun j hj=>by omega) (fun i _ hi a _ ha=>by
  unfold W1
  simp only [Hn hi,if_true,ZP _ hi,HH _ hi,Option.bind_some,Int.toNat_natCast,yZ f (Bu hp hi),JV]) (fun v=>by unfold W1; simp)
 have h2 : ZD (W1 p (vf 16 f)) (vf 16 (fun _=>0),0) = _:=this
 rw [TD 16 (0 : UInt8),h2]; rfl
theorem v_move (p : Blk) (hp : WP p = true) (f : Nat → UInt8) : WM p (vf 16 f) = some (vf 16 (JV p f)):=by
 unfold WM
 have:=Ww (Xt p (vf 16 f)) (fun _=>0) (JV p f) (by omega) 0 (by omega) (fun j hj=>by omega) (fun i _ hi a _ ha=>by
  unfold Xt
  simp only [Hn hi,if_true,ZP _ hi,HH _ hi,Option.bind_some,Int.toNat_natCast,yZ f (Bu hp hi),JV]) (fun v=>by unfold Xt; simp)
 have h2 : ZD (Xt p (vf 16 f)) (vf 16 (fun _=>0),0) = _:=this
 rw [TD 16 (0 : UInt8),h2]; rfl

def KF (b : Vector UInt8 256) (f : Nat → UInt8) (r : Int) : Nat → UInt8
 | 0=>f 0 ^^^ z4 b (f 15 ^^^ ZO r)
 | i + 1=>f (i + 1) ^^^ z4 b (KF b f r i)
theorem Zaa (b : Vector UInt8 256) (f : Nat → UInt8) (r : Int) : U9 b (vf 16 f) r = some (vf 16 (KF b f r)) := by
  unfold U9
  have := Ww (WY b r) f (KF b f r) (by omega) 0 (by omega) (fun j hj => by omega) (fun i _ hi a hb ha => by
    unfold WY
    cases i with
    | zero =>
      have e1 : Int.tmod (wr (((0 : Nat) : Int) + 15)) 16 = ((15 : Nat) : Int) := by decide
      simp only [e1, Hn hi, if_true, ZP a (show 15 < 16 by omega), Option.bind_some]
      have e2 : (((0 : Nat) : Int) == 0) = true := rfl
      simp only [e2, if_true, Option.bind_some, KQ, ZP a hi, Int.toNat_natCast, ha 0 (by omega), ha 15 (by omega), KF]
    | succ i =>
      have e1 : Int.tmod (wr (((i + 1 : Nat) : Int) + 15)) 16 = ((i : Nat) : Int) := by
        rw [YT (by omega)]
        have : (((i + 1 : Nat) : Int) + 15) = ((i + 16 : Nat) : Int) := by omega
        rw [this]
        have : Int.tmod ((i + 16 : Nat) : Int) 16 = (((i + 16) % 16 : Nat) : Int) := rfl
        rw [this]
        omega
      have e2 : (((i + 1 : Nat) : Int) == 0) = false := by have : ((i + 1 : Nat) : Int) ≠ 0 := by omega
                                                           simpa using this
      simp only [e1, e2, Hn hi, if_true, ZP a (show i < 16 by omega), Option.bind_some, Bool.false_eq_true, if_false, KQ, ZP a hi, Int.toNat_natCast, ha (i + 1) (Nat.le_refl _), hb i (by omega), KF]) (fun v => by unfold WY; simp)
  have h2 : ZD (WY b r) (vf 16 f, 0) = _ := this
  rw [h2]; rfl
theorem Zal (e : Ref Gengine) (f : Nat → UInt8) (r : Int) : XD e (vf 16 f) r = some (vf 16 (KF e.v.box f r)):=by
 unfold XD
 have x0 : ZC (vf 16 f) (0 : Int) = some (f 0):=ZP f (show 0 < 16 by omega)
 have x15 : ZC (vf 16 f) (15 : Int) = some (f 15):=ZP f (show 15 < 16 by omega)
 have z : (0 : Int).toNat = 0:=rfl
 simp only [x0,x15,Option.bind_some,KQ,z,UN]
 have:=Ww (YQ e) (fun i=>if i = 0 then f 0 ^^^ z4 e.v.box (f 15 ^^^ ZO r) else f i) (KF e.v.box f r) (by omega) 1 (by omega) (fun j hj=>by
  have : j = 0:=by omega
  subst this; simp [KF]) (fun i h1 hi a hb ha=>by
  unfold YQ
  obtain ⟨i,rfl⟩ : ∃ k,i = k + 1:=⟨i - 1,by omega⟩
  have e1 : wr (((i + 1 : Nat) : Int) - 1) = ((i : Nat) : Int):=by rw [YT (by omega)]; omega
  simp only [e1,Hn hi,if_true,ZP a (show i < 16 by omega),ZP a hi,Option.bind_some,KQ,Int.toNat_natCast,ha (i + 1) (Nat.le_refl _),hb i (by omega),KF]
  simp) (fun v=>by unfold YQ; simp)
 have h2 : ZD (YQ e) (vf 16 (fun i=>if i = 0 then f 0 ^^^ z4 e.v.box (f 15 ^^^ ZO r) else f i),1) = _:=this
 rw [h2]; rfl
def yy (b : Vector UInt8 256) (k : Nat → UInt8) : Nat → Nat → UInt8
 | 0=>k
 | r + 1=>KF b (yy b k r) ((r + 1 : Nat) : Int)
def Um (b : Vector UInt8 256) (k : Nat → UInt8) (n : Nat) : List Blk:=(List.range (n + 1)).map fun r=>vf 16 (yy b k r)
theorem yf (b : Vector UInt8 256) (k : Nat → UInt8) (n : Nat) : Um b k (n + 1) = Um b k n ++ [vf 16 (KF b (yy b k n) ((n + 1 : Nat) : Int))]:=by
 unfold Um
 rw [List.range_succ,List.map_append]; rfl
theorem Ja (b : Vector UInt8 256) (k : Nat → UInt8) (n : Nat) : (Um b k n).length = n + 1:=by simp [Um]
theorem Hz (b : Vector UInt8 256) (k : Nat → UInt8) {n r : Nat} (h : r ≤ n) : idx (Um b k n) (r : Int) = some (vf 16 (yy b k r)):=by
 rw [XV]; unfold Um; rw [List.getElem?_map,List.getElem?_range (by omega)]; rfl
theorem Zav (c : GCipher) (k : Nat → UInt8) (n : Nat) (hn : n ≤ 1000) : U3 c (vf 16 k) (n : Int) = some (Um c.Box k n):=by
 unfold U3
 have:=Z3 (f:=W6 c (n : Int)) (fun i : Nat=>(vf 16 (yy c.Box k (i - 1)),Um c.Box k (i - 1),(i : Int))) 1 (n + 1) (by omega) (t:=Um c.Box k n) (fun i h1 hi=>by
  unfold W6
  obtain ⟨i,rfl⟩ : ∃ q,i = q + 1:=⟨i - 1,by omega⟩
  have e1 : decide (((i + 1 : Nat) : Int) ≤ (n : Int)) = true:=by simp; omega
  have e2 : app 16 (Um c.Box k i) [vf 16 (KF c.Box (yy c.Box k i) ((i + 1 : Nat) : Int))] = _:=Qu (by rw [Ja]; simp; omega)
  simp only [Nat.add_sub_cancel,e1,if_true,Zaa,Option.bind_some,e2,Xe (show i + 1 < 9223372036854775807 by omega),yf]
  rfl) (by
  unfold W6
  have e1 : decide (((n + 1 : Nat) : Int) ≤ (n : Int)) = false:=by simp; omega
  simp only [e1,Bool.false_eq_true,if_false,Nat.add_sub_cancel])
 have h2 : ZD (W6 c (n : Int)) (vf 16 k,[vf 16 k],1) = _:=this
 rw [h2]; rfl
theorem v_keys (e : Ref Gengine) (k : Nat → UInt8) (n : Nat) (hn : n ≤ 1000) : WO e (vf 16 k) (n : Int) = some (Um e.v.box k n):=by
 unfold WO
 have:=Z3 (f:=Xu e (n : Int)) (fun i : Nat=>(vf 16 (yy e.v.box k (i - 1)),Um e.v.box k (i - 1),(i : Int))) 1 (n + 1) (by omega) (t:=Um e.v.box k n) (fun i h1 hi=>by
  unfold Xu
  obtain ⟨i,rfl⟩ : ∃ q,i = q + 1:=⟨i - 1,by omega⟩
  have e1 : decide (((i + 1 : Nat) : Int) ≤ (n : Int)) = true:=by simp; omega
  have e2 : app 16 (Um e.v.box k i) [vf 16 (KF e.v.box (yy e.v.box k i) ((i + 1 : Nat) : Int))] = _:=Qu (by rw [Ja]; simp; omega)
  simp only [Nat.add_sub_cancel,e1,if_true,Zal,Option.bind_some,e2,Xe (show i + 1 < 9223372036854775807 by omega),yf]
  rfl) (by
  unfold Xu
  have e1 : decide (((n + 1 : Nat) : Int) ≤ (n : Int)) = false:=by simp; omega
  simp only [e1,Bool.false_eq_true,if_false,Nat.add_sub_cancel])
 have h2 : ZD (Xu e (n : Int)) (vf 16 k,[vf 16 k],1) = _:=this
 rw [h2]; rfl

def rowF (m : Nat) (a : MF) (f : Nat → UInt8) (c r : Nat) : UInt8:=((ZW m (a r 0) (f c) ^^^ ZW m (a r 1) (f (c + 1))) ^^^ ZW m (a r 2) (f (c + 2))) ^^^ ZW m (a r 3) (f (c + 3))
def UJ (m : Nat) (a : MF) (f : Nat → UInt8) : Nat → UInt8:=fun i=>rowF m a f (i / 4 * 4) (i % 4)
theorem Zde (f : Nat → UInt8) (k : Nat) (x y : UInt8) : (fun i=>if i = k then y else if i = k then x else f i) = fun i=>if i = k then y else f i:=by
 funext i; by_cases h : i = k <;> simp [h]
theorem wr_at {c r : Nat} (hc : c < 4) (hr : r < 4) : wr (wr (4 * (c : Int)) + (r : Int)) = ((c * 4 + r : Nat) : Int):=by
 rw [YT (x:=4 * (c : Int)) (by omega),YT (by omega)]; omega
theorem Zc1 (m : Nat) (hm : m < 512) (hm2 : 256 ≤ m) (a : MF) (f g : Nat → UInt8) (c r : Nat) (hc : c < 4) (hr : r < 4) (s1 s2 : Blk × Int) (h1 : s1.2 = (c : Int)) (h2 : s2.2 = (r : Int)) (hg : g (c * 4 + r) = 0) :
  ZD (XZ (m : Int) (mf a) (vf 16 f) s1 s2) (vf 16 g,0) = some (vf 16 fun i=>if i = c * 4 + r then rowF m a f (c * 4) r else g i):=by
 have hcr : c * 4 + r < 16:=by omega
 have step : ∀ (j : Nat) (h : Nat → UInt8),j < 4 → XZ (m : Int) (mf a) (vf 16 f) s1 s2 (vf 16 h,(j : Int)) = some (.nx (vf 16 (fun i=>if i = c * 4 + r then h (c * 4 + r) ^^^ ZW m (a r j) (f (c * 4 + j)) else h i),((j + 1 : Nat) : Int))):=fun j h hj=>by
  unfold XZ
  simp only [h1,h2,lt4 hj,if_true,wr_at hc hr,wr_at hc hj,ZP _ hcr,XC _ hr,ZP _ hj,ZP f (show c * 4 + j < 16 by omega),Option.bind_some,Qy m hm hm2,Int.toNat_natCast,UN,wr4 (show j < 1000 by omega)]
 have e0:=step 0 g (by omega)
 have e1:=step 1 (fun i=>if i = c * 4 + r then g (c * 4 + r) ^^^ ZW m (a r 0) (f (c * 4 + 0)) else g i) (by omega)
 have e2:=step 2 (fun i=>if i = c * 4 + r then (g (c * 4 + r) ^^^ ZW m (a r 0) (f (c * 4 + 0))) ^^^ ZW m (a r 1) (f (c * 4 + 1)) else g i) (by omega)
 have e3:=step 3 (fun i=>if i = c * 4 + r then ((g (c * 4 + r) ^^^ ZW m (a r 0) (f (c * 4 + 0))) ^^^ ZW m (a r 1) (f (c * 4 + 1))) ^^^ ZW m (a r 2) (f (c * 4 + 2)) else g i) (by omega)
 have e4 : ∀ v : Blk,XZ (m : Int) (mf a) (vf 16 f) s1 s2 (v,((4 : Nat) : Int)) = some (.ex v):=fun v=>by unfold XZ; simp
 simp only [if_true,Zde] at e1 e2 e3
 have e0' : XZ (m : Int) (mf a) (vf 16 f) s1 s2 (vf 16 g,0) = _:=e0
 rw [Wo e0',Wo e1,Wo e2,Wo e3,Xb (e4 _)]
 refine congrArg some (Y2 fun i _=>?_)
 by_cases h : i = c * 4 + r
 ·simp [h,hg,rowF]
 ·simp [h]
theorem Zbp (m : Nat) (hm : m < 512) (hm2 : 256 ≤ m) (a : MF) (f : Nat → UInt8) : TN (m : Int) (mf a) (vf 16 f) = some (vf 16 (UJ m a f)):=by
 unfold TN
 -- after c columns and r rows of the next
 have inner : ∀ c : Nat,c < 4 → ∀ s1 : Blk × Int,s1.2 = (c : Int) → ZD (VP (m : Int) (mf a) (vf 16 f) s1) (vf 16 (fun i=>if i < c * 4 then UJ m a f i else 0),0) = some (vf 16 fun i=>if i < (c + 1) * 4 then UJ m a f i else 0):=fun c hc s1 h1=>by
  have k1 : (vf 16 fun i=>if i < c * 4 + 4 then UJ m a f i else 0) = vf 16 fun i=>if i < (c + 1) * 4 then UJ m a f i else 0:=by rw [show c * 4 + 4 = (c + 1) * 4 by omega]
  have:=Z3 (f:=VP (m : Int) (mf a) (vf 16 f) s1) (fun r : Nat=>(vf 16 fun i=>if i < c * 4 + r then UJ m a f i else 0,(r : Int))) 0 4 (by omega) (t:=vf 16 fun i=>if i < (c + 1) * 4 then UJ m a f i else 0) (fun r _ hr=>by
   unfold VP
   have h2:=Zc1 m hm hm2 a f (fun i=>if i < c * 4 + r then UJ m a f i else 0) c r hc hr s1 (vf 16 fun i=>if i < c * 4 + r then UJ m a f i else 0,(r : Int)) h1 rfl (by simp)
   simp only [lt4 hr,if_true,h2,Option.bind_some,wr4 (show r < 1000 by omega)]
   refine congrArg (fun z=>some (Fl.nx (z,((r + 1 : Nat) : Int)))) (Y2 fun i _=>?_)
   by_cases h : i = c * 4 + r
   ·subst h
    have q1 : (c * 4 + r) / 4 = c:=by omega
    have q2 : (c * 4 + r) % 4 = r:=by omega
    rw [if_pos rfl,if_pos (by omega)]
    unfold UJ; rw [q1,q2]
   ·by_cases h3 : i < c * 4 + r
    ·rw [if_neg h,if_pos h3,if_pos (by omega)]
    ·rw [if_neg h,if_neg h3,if_neg (by omega)]) (by
   unfold VP
   simp only [k1]
   simp)
  exact this
 have:=Z3 (f:=VT (m : Int) (mf a) (vf 16 f)) (fun c : Nat=>(vf 16 fun i=>if i < c * 4 then UJ m a f i else 0,(c : Int))) 0 4 (by omega) (t:=vf 16 (UJ m a f)) (fun c _ hc=>by
  unfold VT
  have h2:=inner c hc (vf 16 fun i=>if i < c * 4 then UJ m a f i else 0,(c : Int)) rfl
  simp only [lt4 hc,if_true,h2,Option.bind_some,wr4 (show c < 1000 by omega)]) (by
  unfold VT
  have : (vf 16 fun i=>if i < 4 * 4 then UJ m a f i else 0) = vf 16 (UJ m a f):=Y2 fun i hi=>by rw [if_pos (by omega)]
  simp only [this]
  simp)
 have e0 : (vf 16 fun i=>if i < 0 * 4 then UJ m a f i else 0) = vf 16 fun _=>(0 : UInt8):=Y2 fun i _=>by rw [if_neg (by omega)]
 simp only [e0] at this
 have h2 : ZD (VT (m : Int) (mf a) (vf 16 f)) (vf 16 fun _=>(0 : UInt8),0) = _:=this
 rw [TD 16 (0 : UInt8),h2]; rfl

abbrev Tab:=Vector (Vector (Vector UInt8 256) 4) 4
def BH (m : Nat) (a : MF) : Tab:=vf 4 fun i=>vf 4 fun j=>vf 256 fun x=>ZW m (a i j) (UInt8.ofNat x)
theorem Zcf (m : Nat) (a : MF) (i j : Nat) (x : UInt8) : ZC (vf 256 fun x=>ZW m (a i j) (UInt8.ofNat x)) (bI x) = some (ZW m (a i j) x):=by
 rw [show bI x = ((x.toNat : Nat) : Int) from rfl,ZP _ (UInt8.toNat_lt x)]
 simp
theorem v_mix (m : Nat) (a : MF) (f : Nat → UInt8) : VE ⟨BH m a⟩ (vf 16 f) = some (vf 16 (UJ m a f)):=by
 unfold VE
 have i0 : ∀ (v : Vector (Vector UInt8 256) 4),ZC v (0 : Int) = v[0]?:=fun v=>WX v 0
 have i1 : ∀ (v : Vector (Vector UInt8 256) 4),ZC v (1 : Int) = v[1]?:=fun v=>WX v 1
 have i2 : ∀ (v : Vector (Vector UInt8 256) 4),ZC v (2 : Int) = v[2]?:=fun v=>WX v 2
 have i3 : ∀ (v : Vector (Vector UInt8 256) 4),ZC v (3 : Int) = v[3]?:=fun v=>WX v 3
 have inner : ∀ c : Nat,c < 4 → ∀ s1 : Blk × Int,s1.2 = ((c * 4 : Nat) : Int) → ZD (X8 ⟨BH m a⟩ s1 (f (c * 4),f (c * 4 + 1),f (c * 4 + 2),f (c * 4 + 3))) (vf 16 (fun i=>if i < c * 4 then UJ m a f i else f i),0) = some (vf 16 fun i=>if i < (c + 1) * 4 then UJ m a f i else f i):=fun c hc s1 h1=>by
  have k1 : (vf 16 fun i=>if i < c * 4 + 4 then UJ m a f i else f i) = vf 16 fun i=>if i < (c + 1) * 4 then UJ m a f i else f i:=by rw [show c * 4 + 4 = (c + 1) * 4 by omega]
  have:=Z3 (f:=X8 ⟨BH m a⟩ s1 (f (c * 4),f (c * 4 + 1),f (c * 4 + 2),f (c * 4 + 3))) (fun r : Nat=>(vf 16 fun i=>if i < c * 4 + r then UJ m a f i else f i,(r : Int))) 0 4 (by omega) (t:=vf 16 fun i=>if i < (c + 1) * 4 then UJ m a f i else f i) (fun r _ hr=>by
   unfold X8
   have e1 : wr (s1.2 + (r : Int)) = ((c * 4 + r : Nat) : Int):=by rw [h1,YT (by omega)]; omega
   have et : ZC (BH m a) (r : Int) = some (vf 4 fun j=>vf 256 fun x=>ZW m (a r j) (UInt8.ofNat x)):=ZP _ hr
   simp only [lt4 hr,if_true,et,i0,i1,i2,i3,KV _ (show 0 < 4 by omega),KV _ (show 1 < 4 by omega),KV _ (show 2 < 4 by omega),KV _ (show 3 < 4 by omega),Zcf,e1,ZP _ (show c * 4 + r < 16 by omega),Option.bind_some,Int.toNat_natCast,UN,wr4 (show r < 1000 by omega)]
   refine congrArg (fun z=>some (Fl.nx (z,((r + 1 : Nat) : Int)))) (Y2 fun i _=>?_)
   by_cases h : i = c * 4 + r
   ·subst h
    have q1 : (c * 4 + r) / 4 = c:=by omega
    have q2 : (c * 4 + r) % 4 = r:=by omega
    rw [if_pos rfl,if_pos (by omega)]
    unfold UJ; rw [q1,q2]; rfl
   ·by_cases h3 : i < c * 4 + r
    ·rw [if_neg h,if_pos h3,if_pos (by omega)]
    ·rw [if_neg h,if_neg h3,if_neg (by omega)]) (by
   unfold X8
   simp only [k1]
   simp)
  exact this
 have:=Z3 (f:=We ⟨BH m a⟩) (fun c : Nat=>(vf 16 fun i=>if i < c * 4 then UJ m a f i else f i,((c * 4 : Nat) : Int))) 0 4 (by omega) (t:=vf 16 (UJ m a f)) (fun c _ hc=>by
  unfold We
  have hd : decide (((c * 4 : Nat) : Int) < ((vf 16 fun i=>if i < c * 4 then UJ m a f i else f i).toList.length : Int)) = true:=by rw [Vector.length_toList]; simp; omega
  have x0:=ZP (n:=16) (fun i=>if i < c * 4 then UJ m a f i else f i) (show c * 4 < 16 by omega)
  have x1:=ZP (n:=16) (fun i=>if i < c * 4 then UJ m a f i else f i) (show c * 4 + 1 < 16 by omega)
  have x2:=ZP (n:=16) (fun i=>if i < c * 4 then UJ m a f i else f i) (show c * 4 + 2 < 16 by omega)
  have x3:=ZP (n:=16) (fun i=>if i < c * 4 then UJ m a f i else f i) (show c * 4 + 3 < 16 by omega)
  have w1 : wr (((c * 4 : Nat) : Int) + 1) = ((c * 4 + 1 : Nat) : Int):=by rw [YT (by omega)]; omega
  have w2 : wr (((c * 4 : Nat) : Int) + 2) = ((c * 4 + 2 : Nat) : Int):=by rw [YT (by omega)]; omega
  have w3 : wr (((c * 4 : Nat) : Int) + 3) = ((c * 4 + 3 : Nat) : Int):=by rw [YT (by omega)]; omega
  have w4 : wr (((c * 4 : Nat) : Int) + 4) = (((c + 1) * 4 : Nat) : Int):=by rw [YT (by omega)]; omega
  rw [if_neg (by omega)] at x0 x1 x2 x3
  have h2:=inner c hc (vf 16 fun i=>if i < c * 4 then UJ m a f i else f i,((c * 4 : Nat) : Int)) rfl
  simp only [hd,if_true,x0,w1,x1,w2,x2,w3,x3,Option.bind_some,h2,w4]) (by
  unfold We
  have : (vf 16 fun i=>if i < 4 * 4 then UJ m a f i else f i) = vf 16 (UJ m a f):=Y2 fun i hi=>by rw [if_pos (by omega)]
  simp only [this]
  simp)
 have e0 : (vf 16 fun i=>if i < 0 * 4 then UJ m a f i else f i) = vf 16 f:=Y2 fun i _=>by rw [if_neg (by omega)]
 simp only [e0] at this
 have h2 : ZD (We ⟨BH m a⟩) (vf 16 f,0) = _:=this
 rw [h2]; rfl

def tb (g : Nat → Nat → Nat → UInt8) : Tab:=vf 4 fun i=>vf 4 fun j=>vf 256 (g i j)
theorem Bo {g h : Nat → Nat → Nat → UInt8} (e : ∀ i,i < 4 → ∀ j,j < 4 → ∀ x,x < 256 → g i j x = h i j x) : tb g = tb h :=
 Y2 fun i hi=>Y2 fun j hj=>Y2 fun x hx=>e i hi j hj x hx
theorem Zcs (g : Nat → Nat → Nat → UInt8) {i : Nat} (hi : i < 4) : ZC (tb g) (i : Int) = some (vf 4 fun j=>vf 256 (g i j)):=ZP _ hi
theorem Zbv (g : Nat → Nat → Nat → UInt8) (i : Nat) {j : Nat} (hj : j < 4) : ZC (vf 4 fun j=>vf 256 (g i j)) (j : Int) = some (vf 256 (g i j)):=ZP _ hj
theorem tb_set (g : Nat → Nat → Nat → UInt8) (i j : Nat) (h : Nat → UInt8) : (tb g).setIfInBounds i ((vf 4 fun j=>vf 256 (g i j)).setIfInBounds j (vf 256 h)) = tb (fun i' j'=>if i' = i ∧ j' = j then h else g i' j'):=by
 unfold tb
 rw [UN,UN]
 refine Y2 fun i' _=>?_
 by_cases h1 : i' = i
 ·subst h1
  rw [if_pos rfl]
  refine Y2 fun j' _=>?_
  by_cases h2 : j' = j
  ·subst h2; simp
  ·simp [h2]
 ·rw [if_neg h1]
  refine Y2 fun j' _=>?_
  simp [h1]
theorem Zcx (a b : Nat) (ha : a < 9223372036854775808) (hb : b < 9223372036854775808) : orI (a : Int) (b : Int) = ((a ||| b : Nat) : Int):=by
 unfold orI
 rw [BitVec.toNat_or,Bm a ha,Bm b hb]
 have : a ||| b < 2 ^ 63:=Nat.or_lt_two_pow ha hb
 exact YT (by omega)
theorem VW (n : Nat) : ZO (n : Int) = UInt8.ofNat n:=by
 unfold ZO
 have : ((n : Int) % 256).toNat = n % 256:=by omega
 rw [this]
 apply UInt8.toNat_inj.1
 simp
theorem Zc8 (g : Nat → Nat → Nat → UInt8) (i j : Nat) (h : Nat → UInt8) : (tb g).setIfInBounds i (vf 4 fun j'=>if j' = j then vf 256 h else vf 256 (g i j')) = tb (fun i' j'=>if i' = i ∧ j' = j then h else g i' j'):=by
 have:=tb_set g i j h
 rw [UN] at this
 exact this
theorem Zcn {p low : Nat} (h : low < 2 ^ p) : 2 ^ p ||| low = 2 ^ p + low:=by
 have:=Nat.two_pow_add_eq_or_of_lt h 1
 simpa using this.symm
theorem Zca {p low : Nat} (hp : p < 8) (h : low < 2 ^ p) : UInt8.ofNat (2 ^ p + low) = UInt8.ofNat (2 ^ p) ^^^ UInt8.ofNat low:=by
 apply UInt8.toNat_inj.1
 have h7 : 2 ^ p ≤ 2 ^ 7:=Nat.pow_le_pow_right (by omega) (by omega)
 rw [UInt8.toNat_xor]
 simp only [UInt8.toNat_ofNat']
 rw [Nat.mod_eq_of_lt (by omega),Nat.mod_eq_of_lt (by omega),Nat.mod_eq_of_lt (by omega)]
 rw [← Zcn h]
 apply Nat.eq_of_testBit_eq
 intro i
 rw [Nat.testBit_or,Nat.testBit_xor,Nat.testBit_two_pow]
 by_cases hi : p = i
 ·subst hi
  rw [Nat.testBit_lt_two_pow h]; simp
 ·simp [hi]
section
variable (m : Nat) (hm : m < 512) (hm2 : 256 ≤ m) (a : MF)
include hm hm2
def Jn (m : Nat) (a : MF) (i j n : Nat) (g : Nat → Nat → Nat → UInt8) : Nat → Nat → Nat → UInt8:=fun i' j'=>if i' = i ∧ j' = j then (fun x=>if x < n then ZW m (a i j) (UInt8.ofNat x) else 0) else g i' j'
theorem Zbf (i j p : Nat) (hi : i < 4) (hj : j < 4) (hp : p < 8) (g : Nat → Nat → Nat → UInt8) (s0 s1 s2 : Tab × Int) (h0 : s0.2 = (i : Int)) (h1 : s1.2 = (j : Int)) (h2 : s2.2 = ((2 ^ p : Nat) : Int)) :
  ZD (WC s0 s1 s2 (ZW m (a i j) (UInt8.ofNat (2 ^ p)))) (tb (Jn m a i j (2 ^ p) g),0) = some (tb (Jn m a i j (2 ^ (p + 1)) g)):=by
 have h7 : 2 ^ p ≤ 2 ^ 7:=Nat.pow_le_pow_right (by omega) (by omega)
 have k1 : 2 ^ p + 2 ^ p = 2 ^ (p + 1):=by rw [Nat.pow_succ]; omega
 have:=Z3 (f:=WC s0 s1 s2 (ZW m (a i j) (UInt8.ofNat (2 ^ p)))) (fun low : Nat=>(tb (Jn m a i j (2 ^ p + low) g),(low : Int))) 0 (2 ^ p) (Nat.zero_le _) (t:=tb (Jn m a i j (2 ^ (p + 1)) g)) (fun low _ hl=>by
  unfold WC
  have hd : decide ((low : Int) < ((2 ^ p : Nat) : Int)) = true:=by simp only [decide_eq_true_eq]; omega
  have ho : orI ((2 ^ p : Nat) : Int) (low : Int) = ((2 ^ p + low : Nat) : Int):=by rw [Zcx _ _ (by omega) (by omega),Zcn hl]
  have eg : Jn m a i j (2 ^ p + low) g i j = fun x=>if x < 2 ^ p + low then ZW m (a i j) (UInt8.ofNat x) else 0:=by simp [Jn]
  simp only [h0,h1,h2,hd,if_true,Zcs _ hi,Zbv _ i hj,eg,ZP _ (show low < 256 by omega),ho,ZP _ (show 2 ^ p + low < 256 by omega),Option.bind_some,Int.toNat_natCast,UN,Xe (show low < 9223372036854775807 by omega)]
  rw [if_pos (show low < 2 ^ p + low from Nat.lt_add_of_pos_left (Nat.two_pow_pos p)),← kd hm2 hm,← Zca hp hl]
  have:=Zc8 (Jn m a i j (2 ^ p + low) g) i j (fun x=>if x = 2 ^ p + low then ZW m (a i j) (UInt8.ofNat (2 ^ p + low)) else if x < 2 ^ p + low then ZW m (a i j) (UInt8.ofNat x) else 0)
  rw [this]
  refine congrArg (fun z=>some (Fl.nx (z,((low + 1 : Nat) : Int)))) (Bo fun i' _ j' _ x _=>?_)
  unfold Jn
  by_cases h : i' = i ∧ j' = j
  ·simp only [h,and_self,if_true]
   by_cases hx : x = 2 ^ p + low
   ·subst hx; simp
   ·by_cases hx2 : x < 2 ^ p + low
    ·rw [if_neg hx,if_pos hx2,if_pos (by omega)]
    ·rw [if_neg hx,if_neg hx2,if_neg (by omega)]
  ·simp only [h,if_false]) (by
  unfold WC
  simp only [h2,k1]
  simp)
 exact this
theorem Zcg (i j : Nat) (hi : i < 4) (hj : j < 4) (g : Nat → Nat → Nat → UInt8) (s0 s1 : Tab × Int) (h0 : s0.2 = (i : Int)) (h1 : s1.2 = (j : Int)) :
  ZD (WD (m : Int) s0 s1 (a i j)) (tb (Jn m a i j 1 g),1) = some (tb (Jn m a i j 256 g)):=by
 have:=Z3 (f:=WD (m : Int) s0 s1 (a i j)) (fun p : Nat=>(tb (Jn m a i j (2 ^ p) g),((2 ^ p : Nat) : Int))) 0 8 (by omega) (t:=tb (Jn m a i j 256 g)) (fun p _ hp=>by
  unfold WD
  have h7 : 2 ^ p ≤ 2 ^ 7:=Nat.pow_le_pow_right (by omega) (by omega)
  have hd : decide (((2 ^ p : Nat) : Int) < 256) = true:=by simp only [decide_eq_true_eq]; omega
  have hb : ZO ((2 ^ p : Nat) : Int) = UInt8.ofNat (2 ^ p):=by rw [VW]
  have hw : wr (((2 ^ p : Nat) : Int) * 2) = ((2 ^ (p + 1) : Nat) : Int):=by
   rw [Nat.pow_succ]
   generalize 2 ^ p = q at h7 ⊢
   rw [YT (by omega)]; omega
  have h3:=Zbf m hm hm2 a i j p hi hj hp g s0 s1 (tb (Jn m a i j (2 ^ p) g),((2 ^ p : Nat) : Int)) h0 h1 rfl
  simp only [hd,if_true,hb,TF m hm,Option.bind_some,h3,hw]) (by unfold WD; simp)
 exact this
theorem AO (A : Mat) (hA : A = mf a) : WS (m : Int) A = some ⟨BH m a⟩:=by
 subst hA
 unfold WS
 let G : Nat → Nat → Nat → Nat → Nat → UInt8:=fun r c i j x=>if i < r ∨ (i = r ∧ j < c) then ZW m (a i j) (UInt8.ofNat x) else 0
 have hGt : ∀ r c i j x,(i < r ∨ (i = r ∧ j < c)) → G r c i j x = ZW m (a i j) (UInt8.ofNat x):=fun r c i j x h=>if_pos h
 have hGf : ∀ r c i j x,¬ (i < r ∨ (i = r ∧ j < c)) → G r c i j x = 0:=fun r c i j x h=>if_neg h
 have hGe : ∀ r c r' c' i j x,((i < r ∨ (i = r ∧ j < c)) ↔ (i < r' ∨ (i = r' ∧ j < c'))) → G r c i j x = G r' c' i j x:=fun r c r' c' i j x h=>by show (if _ then _ else _) = (if _ then _ else _); simp only [h]
 have z0 : ∀ i j,ZW m (a i j) (UInt8.ofNat 0) = 0:=fun i j=>by rw [KN hm2 hm]; exact JY hm2 hm _
 have col : ∀ r : Nat,r < 4 → ∀ s0 : Tab × Int,s0.2 = (r : Int) → ZD (WI (m : Int) s0 (vf 4 (a r))) (tb (G r 0),0) = some (tb (G (r + 1) 0)):=fun r hr s0 h0=>by
  have k1 : tb (G r 4) = tb (G (r + 1) 0):=Bo fun i hi j hj x _=>by
   exact hGe _ _ _ _ _ _ _ (by omega)
  have:=Z3 (f:=WI (m : Int) s0 (vf 4 (a r))) (fun c : Nat=>(tb (G r c),(c : Int))) 0 4 (by omega) (t:=tb (G (r + 1) 0)) (fun c _ hc=>by
   unfold WI
   have e1 : tb (G r c) = tb (Jn m a r c 1 (G r c)):=Bo fun i _ j _ x _=>by
    unfold Jn
    by_cases h : i = r ∧ j = c
    ·obtain ⟨rfl,rfl⟩:=h
     simp only [and_self,if_true]
     rw [hGf _ _ _ _ _ (by omega)]
     by_cases hx : x < 1
     ·have : x = 0:=by omega
      subst this; rw [if_pos hx,z0]
     ·rw [if_neg hx]
    ·simp only [h,if_false]
   have e2 : tb (Jn m a r c 256 (G r c)) = tb (G r (c + 1)):=Bo fun i _ j _ x hx=>by
    unfold Jn
    by_cases h : i = r ∧ j = c
    ·obtain ⟨rfl,rfl⟩:=h
     simp only [and_self,if_true,hx]
     rw [hGt _ _ _ _ _ (by omega)]
    ·simp only [h,if_false]
     exact hGe _ _ _ _ _ _ _ (by omega)
   have h3:=Zcg m hm hm2 a r c hr hc (G r c) s0 (tb (G r c),(c : Int)) h0 rfl
   rw [← e1,e2] at h3
   simp only [lt4 hc,if_true,ZP _ hc,h3,Option.bind_some,wr4 (show c < 1000 by omega)]) (by
   unfold WI
   simp only [k1]
   simp)
  exact this
 have kz : tb (G 0 0) = Vector.replicate 4 (Vector.replicate 4 (Vector.replicate 256 (0 : UInt8))):=by
  rw [TD 256 (0 : UInt8),TD 4,TD 4]
  exact Bo fun i _ j _ x _=>by
   exact hGf _ _ _ _ _ (by omega)
 have k4 : tb (G 4 0) = BH m a:=Bo fun i hi j _ x _=>by
  exact hGt _ _ _ _ _ (by omega)
 have:=Z3 (f:=Wv (m : Int) (mf a)) (fun r : Nat=>(tb (G r 0),(r : Int))) 0 4 (by omega) (t:=BH m a) (fun r _ hr=>by
  unfold Wv
  have h3:=col r hr (tb (G r 0),(r : Int)) rfl
  simp only [lt4 hr,if_true,XC _ hr,h3,Option.bind_some,wr4 (show r < 1000 by omega)]) (by
  unfold Wv
  simp only [k4]
  simp)
 have h2 : ZD (Wv (m : Int) (mf a)) (tb (G 0 0),0) = _:=this
 rw [← kz,h2]; rfl
end

def Ay (n : Nat) (p : Vector UInt8 n) : Nat → Vector UInt8 n
 | 0=>Vector.replicate n 0
 | i + 1=>(Ay n p i).setIfInBounds (p.toList.getD i 0).toNat (ZO (i : Int))
theorem zR (p : Vector UInt8 256) : WK p = some (Ay 256 p 256):=by
 unfold WK
 have:=Z3 (f:=Xv p) (fun i : Nat=>(Ay 256 p i,(i : Int))) 0 256 (by omega) (t:=Ay 256 p 256) (fun i _ hi=>by
  unfold Xv
  have hd : decide ((i : Int) < 256) = true:=by simp; omega
  simp only [hd,if_true,Q2 p hi,KQ,Option.bind_some,Js,Xe (show i < 9223372036854775807 by omega)]
  rfl) (by unfold Xv; simp)
 have h2 : ZD (Xv p) (Vector.replicate 256 0,0) = _:=this
 rw [h2]; rfl
theorem Zct (p : Blk) {i : Nat} (h : i < 16) : p.toList.getD i 0 = bf p i:=by
 have h1:=Q2 p h
 rw [HH p h] at h1
 exact (Option.some.inj h1).symm
theorem Bb (p : Blk) (hp : WP p = true) : XF p = some (Ay 16 p 16):=by
 unfold XF
 have:=Z3 (f:=YP p) (fun i : Nat=>(Ay 16 p i,(i : Int))) 0 16 (by omega) (t:=Ay 16 p 16) (fun i _ hi=>by
  unfold YP
  have hlt:=Bu hp hi
  have hv : ZC (Ay 16 p i) (bI (bf p i)) = some (bf (Ay 16 p i) (bf p i).toNat):=HH _ hlt
  simp only [Hn hi,if_true,HH p hi,hv,Option.bind_some,Js,Xe (show i < 9223372036854775807 by omega)]
  rw [← Zct p hi]
  rfl) (by unfold YP; simp)
 have h2 : ZD (YP p) (Vector.replicate 16 0,0) = _:=this
 rw [h2]; rfl

def Xm (c : GCipher) : Gengine:=⟨c.Box,Ay 256 c.Box 256,c.Places,Ay 16 c.Places 16,⟨BH c.Field.toNat (Be c.Mix)⟩,⟨BH c.Field.toNat (Be (invM c.Field.toNat c.Mix))⟩,c.Rounds⟩
theorem Ky {c : GCipher} (h : Yf c = true) : WP c.Places = true:=by
 unfold Yf at h
 simp only [Bool.and_eq_true] at h
 exact h.1.1.2
theorem JS {c : GCipher} (h : Yf c = true) : 1 ≤ c.Rounds ∧ c.Rounds ≤ 20:=by
 unfold Yf at h
 simp only [Bool.and_eq_true,decide_eq_true_eq] at h
 exact h.1.2
theorem jL (c : GCipher) (h : Yf c = true) : Vz c = some ⟨Xm c⟩:=by
 obtain ⟨m,hm,h1,h2⟩:=Hr h
 have e : c.Field.toNat = m:=by omega
 unfold Vz Xm
 rw [e]
 simp only [hm,jG m h2 h1,Option.bind_some,zR,Bb _ (Ky h),AO m h2 h1 (Be c.Mix) c.Mix (Hj _),AO m h2 h1 (Be (invM m c.Mix)) (invM m c.Mix) (Hj _)]

def A1 (c : GCipher) (n r : Nat) (k f : Nat → UInt8) : Nat → UInt8 :=
 HE (if r < n then UJ c.Field.toNat (Be c.Mix) (JV c.Places (zx c.Box f)) else JV c.Places (zx c.Box f)) k
def Br (c : GCipher) (k f : Nat → UInt8) (n : Nat) : Nat → Nat → UInt8
 | 0=>HE f k
 | r + 1=>A1 c n (r + 1) (yy c.Box k (r + 1)) (Br c k f n r)
def yM (c : GCipher) (k f : Nat → UInt8) (n : Nat) : Nat → UInt8:=Br c k f n n
theorem zN (c : GCipher) (h : Yf c = true) (k f : Nat → UInt8) (n : Nat) (hn : n ≤ 1000) : Y7 c (vf 16 k) (vf 16 f) (n : Int) = some (vf 16 (yM c k f n)):=by
 obtain ⟨m,hm,h1,h2⟩:=Hr h
 have e : c.Field.toNat = m:=by omega
 have hp:=Ky h
 unfold Y7
 have i0 : idx (Um c.Box k n) (0 : Int) = some (vf 16 k):=Hz c.Box k (Nat.zero_le n)
 simp only [Zav c k n hn,Option.bind_some,i0,HF]
 have:=Z3 (f:=Xs c (n : Int) (Um c.Box k n)) (fun i : Nat=>(vf 16 (Br c k f n (i - 1)),(i : Int))) 1 (n + 1) (by omega) (t:=vf 16 (yM c k f n)) (fun i hi1 hi=>by
  unfold Xs
  obtain ⟨r,rfl⟩ : ∃ q,i = q + 1:=⟨i - 1,by omega⟩
  have e1 : decide (((r + 1 : Nat) : Int) ≤ (n : Int)) = true:=by simp only [decide_eq_true_eq]; omega
  have Yx:=Zbp m h2 h1 (Be c.Mix) (JV c.Places (zx c.Box (Br c k f n r)))
  rw [← Hj] at Yx
  simp only [Nat.add_sub_cancel,e1,if_true,ka,Option.bind_some,Za0 c.Places hp,hm,Yx,Hz c.Box k (show r + 1 ≤ n by omega),Xe (show r + 1 < 9223372036854775807 by omega)]
  by_cases hr : r + 1 < n
  ·have e2 : decide (((r + 1 : Nat) : Int) < (n : Int)) = true:=by simp only [decide_eq_true_eq]; omega
   simp only [e2,if_true,Option.bind_some,HF,Br,A1,hr,e]
  ·have e2 : decide (((r + 1 : Nat) : Int) < (n : Int)) = false:=by simp only [decide_eq_false_iff_not]; omega
   simp only [e2,Bool.false_eq_true,if_false,Option.bind_some,HF,Br,A1,hr]) (by
  unfold Xs
  have e1 : decide (((n + 1 : Nat) : Int) ≤ (n : Int)) = false:=by simp only [decide_eq_false_iff_not]; omega
  simp only [e1,Bool.false_eq_true,if_false,Nat.add_sub_cancel,yM])
 have h3 : ZD (Xs c (n : Int) (Um c.Box k n)) (vf 16 (HE f k),1) = _:=this
 rw [h3]; rfl
theorem kw (e : Ref Gengine) (s : Blk × Int) (f : Nat → UInt8) (hs : s.1 = vf 16 f) : ZD (Ym e s) (vf 16 f,0) = some (vf 16 (zx e.v.box f)):=by
 have:=Ww (Ym e s) f (zx e.v.box f) (by omega) 0 (by omega) (fun j hj=>by omega) (fun i _ hi a _ ha=>by
  unfold Ym
  simp only [hs,Hn hi,if_true,ZP _ hi,Option.bind_some,Int.toNat_natCast,KQ,zx]) (fun v=>by unfold Ym; simp)
 exact this
theorem AA (c : GCipher) (h : Yf c = true) (k f : Nat → UInt8) (n : Nat) (hn : n ≤ 1000) : YK ⟨Xm c⟩ (Um c.Box k n) (vf 16 f) = some (vf 16 (yM c k f n)):=by
 have hp:=Ky h
 unfold YK
 have i0 : idx (Um c.Box k n) (0 : Int) = some (vf 16 k):=Hz c.Box k (Nat.zero_le n)
 simp only [Option.bind_some,i0,T7]
 have:=Z3 (f:=Yn ⟨Xm c⟩ (Um c.Box k n)) (fun i : Nat=>(vf 16 (Br c k f n (i - 1)),(i : Int))) 1 (n + 1) (by omega) (t:=vf 16 (yM c k f n)) (fun i hi1 hi=>by
  unfold Yn
  obtain ⟨r,rfl⟩ : ∃ q,i = q + 1:=⟨i - 1,by omega⟩
  have e1 : decide (((r + 1 : Nat) : Int) < ((Um c.Box k n).length : Int)) = true:=by rw [Ja]; simp only [decide_eq_true_eq]; omega
  have e3 : wr (((Um c.Box k n).length : Int) - 1) = (n : Int):=by rw [Ja,YT (by omega)]; omega
  have hb:=kw ⟨Xm c⟩ (vf 16 (Br c k f n r),((r + 1 : Nat) : Int)) (Br c k f n r) rfl
  have hmv:=v_move c.Places hp (zx c.Box (Br c k f n r))
  have Yx:=v_mix c.Field.toNat (Be c.Mix) (JV c.Places (zx c.Box (Br c k f n r)))
  have hsl : ∀ g : Nat → UInt8,slc (vf 16 g).toList (0 : Int) (16 : Int) = some (vf 16 g).toList:=fun g=>by
   have:=J5 (l:=(vf 16 g).toList) (i:=0) (j:=16) (by omega) (by simp)
   simp only [List.drop_zero] at this
   rw [List.take_of_length_le (by simp)] at this
   exact this
  have q1 : (Xm c).box = c.Box:=rfl
  have q2 : (Xm c).places = c.Places:=rfl
  have q3 : (Xm c).mixer = ⟨BH c.Field.toNat (Be c.Mix)⟩:=rfl
  simp only [q1] at hb
  simp only [Nat.add_sub_cancel,e1,if_true,hb,Option.bind_some,q2,q3,hmv,e3,hsl,Yx,Hz c.Box k (show r + 1 ≤ n by omega),Xe (show r + 1 < 9223372036854775807 by omega)]
  by_cases hr : r + 1 < n
  ·have e2 : decide (((r + 1 : Nat) : Int) < (n : Int)) = true:=by simp only [decide_eq_true_eq]; omega
   simp only [e2,if_true,Option.bind_some,T7,Br,A1,hr]
  ·have e2 : decide (((r + 1 : Nat) : Int) < (n : Int)) = false:=by simp only [decide_eq_false_iff_not]; omega
   simp only [e2,Bool.false_eq_true,if_false,Option.bind_some,T7,Br,A1,hr]) (by
  unfold Yn
  have e1 : decide (((n + 1 : Nat) : Int) < ((Um c.Box k n).length : Int)) = false:=by rw [Ja]; simp only [decide_eq_false_iff_not]; omega
  simp only [e1,Bool.false_eq_true,if_false,Nat.add_sub_cancel,yM])
 have h3 : ZD (Yn ⟨Xm c⟩ (Um c.Box k n)) (vf 16 (HE f k),1) = _:=this
 rw [h3]; rfl
theorem Zc2 (x : Vector UInt8 256) : T9 x = some x:=by
 unfold T9
 rw [Jd x (QD x) (fun s=>by unfold QD; rfl) (by omega)]; rfl
theorem kj (x : Vector UInt8 16) : Ut x = some x:=by
 unfold Ut
 rw [Jd x (Td x) (fun s=>by unfold Td; rfl) (by omega)]; rfl
theorem ql (x : Vector UInt8 4) : V8 x = some x:=by
 unfold V8
 rw [Jd x (Tj x) (fun s=>by unfold Tj; rfl) (by omega)]; rfl
theorem kS (x : Mat) : Uc x = some x:=by
 unfold Uc
 obtain ⟨f,rfl⟩:=mf_of x
 have k0 : (mf fun r c=>if r < 0 then f r c else 0) = mf fun _ _=>0:=Xd fun r _ c _=>by rw [if_neg (by omega)]
 have k4 : (mf fun r c=>if r < 4 then f r c else 0) = mf f:=Xd fun r hr c _=>by rw [if_pos hr]
 have:=Z3 (f:=Wz (mf f)) (fun i : Nat=>(mf fun r c=>if r < i then f r c else 0,(i : Int))) 0 4 (by omega) (t:=mf f) (fun i _ hi=>by
  unfold Wz
  simp only [lt4 hi,if_true,XC _ hi,ql,Option.bind_some,Int.toNat_natCast,Ku,wr4 (show i < 1000 by omega)]
  refine congrArg (fun z=>some (Fl.nx (z,((i + 1 : Nat) : Int)))) (Xd fun r _ c _=>?_)
  by_cases h : r = i
  ·subst h; simp
  ·by_cases h2 : r < i
   ·rw [if_neg h,if_pos h2,if_pos (by omega)]
   ·rw [if_neg h,if_neg h2,if_neg (by omega)]) (by
  unfold Wz
  simp only [k4]
  simp)
 simp only [k0] at this
 have h2 : ZD (Wz (mf f)) (mf fun _ _=>0,0) = _:=this
 rw [Hm,h2]; rfl
theorem qj (c : GCipher) : Up c = some c:=by
 unfold Up
 simp only [Zc2,kS,kj,Option.bind_some]
theorem Hx (c : GCipher) (h : Yf c = true) (k f : Nat → UInt8) : Yw ⟨Xm c⟩ (vf 16 k) (vf 16 f) = some (vf 16 (yM c k f c.Rounds.toNat)):=by
 have hr:=JS h
 obtain ⟨n,hn⟩ : ∃ n : Nat,c.Rounds = n:=⟨c.Rounds.toNat,by omega⟩
 have e1 : (Xm c).rounds = (n : Int):=hn
 have e2 : (Xm c).box = c.Box:=rfl
 have hk:=v_keys ⟨Xm c⟩ k n (by omega)
 rw [e2] at hk
 unfold Yw
 simp only [e1,hk,Option.bind_some,AA c h k f n (by omega),hn,Int.toNat_natCast]
theorem HD (c : GCipher) (h : Yf c = true) (k f : Nat → UInt8) : Y7 c (vf 16 k) (vf 16 f) c.Rounds = some (vf 16 (yM c k f c.Rounds.toNat)):=by
 have hr:=JS h
 obtain ⟨n,hn⟩ : ∃ n : Nat,c.Rounds = n:=⟨c.Rounds.toNat,by omega⟩
 rw [hn]
 exact zN c h k f n (by omega)
theorem qU (x : Nat) : UInt8.ofNat (x % 256) = UInt8.ofNat x:=by
 apply UInt8.toNat_inj.1; simp
def tab (n : Nat) (f : Nat → UInt8) : List UInt8:=(List.range n).map f
@[simp] theorem tab_len (n : Nat) (f : Nat → UInt8) : (tab n f).length = n:=by simp [tab]
theorem Zbm {α : Type} (by_ : Nat) (z : α) (n : Nat) (h : n * by_ ≤ 140737488355328) (hby : 0 < by_) :
  ((if (decide ((n : Int) < 0)) = true then (none) else (some ()) : Option (Unit)).bind fun (_ : Unit)=>(if (decide ((wr ((n : Int) - (wr (0 - 0)))) > 0)) = true then ((mkS by_ z (wr ((n : Int) - (wr (0 - 0))))).bind fun (l14 : List α)=>(slc l14 (0 : Int) (0 : Int)).bind fun (l16 : List α)=>some l16) else (some ([])) : Option (List α)).bind fun (j6 : List α)=>some j6) = some []:=by
 have hn : n ≤ 140737488355328:=Nat.le_trans (Nat.le_mul_of_pos_right _ hby) h
 have e0 : wr (0 - 0) = 0:=by decide
 have e1 : wr ((n : Int) - (wr (0 - 0))) = (n : Int):=by rw [e0,YT (by omega)]; omega
 have e2 : ¬ ((n : Int) < 0):=by omega
 rw [e1]
 simp only [e2,decide_false,Bool.false_eq_true,if_false,Option.bind_some]
 by_cases h3 : (n : Int) > 0
 ·have hm : mkS by_ z (n : Int) = some (List.replicate n z):=by
   have h4 : ((n * by_ : Nat) : Int) ≤ 140737488355328:=by omega
   rw [Int.natCast_mul] at h4
   unfold mkS
   rw [if_pos ⟨by omega,h4⟩,Int.toNat_natCast]
  have hs : slc (List.replicate n z) (0 : Int) (0 : Int) = some []:=by
   have:=J5 (l:=List.replicate n z) (i:=0) (j:=0) (Nat.le_refl _) (Nat.zero_le _)
   simpa using this
  simp [h3,hm,hs]
 ·have h4 : decide ((n : Int) > 0) = false:=by simp only [decide_eq_false_iff_not]; exact h3
  simp only [h4,Bool.false_eq_true,if_false,Option.bind_some]
theorem yu {α : Type} (by_ : Nat) (p0 : List (List α)) (L0 : Int × Int → Option (Fl (Int × Int) Int)) (L1 : Int × List α → Option (Fl (Int × List α) (List α)))
  (h0 : ∀ s,L0 s = if (decide (s.1 < (p0.length : Int))) = true then (((idx p0 s.1).bind fun (x : List α)=>(if (decide ((wr (s.2 + (x.length : Int))) < 0)) = true then (none) else (some ()) : Option (Unit)).bind fun (_ : Unit)=>some (wr (s.2 + (x.length : Int))) : Option (Int)).bind fun (j : Int)=>some (Fl.nx (wr (s.1 + 1),j))) else (some (Fl.ex s.2)))
  (h1 : ∀ s,L1 s = if (decide (s.1 < (p0.length : Int))) = true then ((idx p0 s.1).bind fun (x : List α)=>(app by_ s.2 x).bind fun (_ : List α)=>some (Fl.nx (wr (s.1 + 1),(s.2 ++ x)))) else (some (Fl.ex s.2)))
  (hl : p0.flatten.length * by_ ≤ 140737488355328) (hby : 0 < by_) (hn : p0.length < 9223372036854775807) :
  ZD L0 (0,0) = some (p0.flatten.length : Int) ∧ ZD L1 (0,[]) = some p0.flatten:=by
 have hlen : p0.flatten.length ≤ 140737488355328:=Nat.le_trans (Nat.le_mul_of_pos_right _ hby) hl
 have hstep : ∀ i (hi : i < p0.length),(p0.take (i + 1)).flatten = (p0.take i).flatten ++ p0[i]:=fun i hi=>by
  rw [List.take_succ_eq_append_getElem hi,List.flatten_append]; simp
 have hle : ∀ i,(p0.take i).flatten.length ≤ p0.flatten.length:=fun i=>by
  have : p0.flatten = (p0.take i).flatten ++ (p0.drop i).flatten:=by rw [← List.flatten_append,List.take_append_drop]
  rw [this,List.length_append]; omega
 constructor
 ·have:=Z3 (f:=L0) (fun i : Nat=>((i : Int),((p0.take i).flatten.length : Int))) 0 p0.length (Nat.zero_le _) (t:=(p0.flatten.length : Int)) (fun i _ hi=>by
   have hs:=congrArg List.length (hstep i hi)
   rw [List.length_append] at hs
   have h3:=hle (i + 1)
   have e1 : wr (((p0.take i).flatten.length : Int) + (p0[i].length : Int)) = ((p0.take (i + 1)).flatten.length : Int):=by rw [YT (by omega)]; omega
   have e2 : ¬ (((p0.take (i + 1)).flatten.length : Int) < 0):=by omega
   rw [h0]
   simp only [Int.ofNat_lt,hi,decide_true,if_true,XV,List.getElem?_eq_getElem hi,Option.bind_some,e1,e2,decide_false,Bool.false_eq_true,if_false,Xe (show i < 9223372036854775807 by omega)]) (by
   rw [h0]; simp)
  exact this
 ·have:=Z3 (f:=L1) (fun i : Nat=>((i : Int),(p0.take i).flatten)) 0 p0.length (Nat.zero_le _) (t:=p0.flatten) (fun i _ hi=>by
   have hs:=congrArg List.length (hstep i hi)
   rw [List.length_append] at hs
   have h3:=hle (i + 1)
   have hap : app by_ (p0.take i).flatten p0[i] = some ((p0.take i).flatten ++ p0[i]):=Qu (by
    have : ((p0.take i).flatten.length + p0[i].length) * by_ ≤ p0.flatten.length * by_:=Nat.mul_le_mul_right _ (by omega)
    omega)
   rw [h1]
   simp only [Int.ofNat_lt,hi,decide_true,if_true,XV,List.getElem?_eq_getElem hi,Option.bind_some,hap,Xe (show i < 9223372036854775807 by omega),hstep i hi]) (by
   rw [h1]; simp)
  exact this
def J7 (k : Nat) (b : UInt8) : UInt8:=shlB b (k : Int) ||| zp b ((8 - k : Nat) : Int)
theorem v_rot1 (b : UInt8) : Yg b 1 = some (J7 1 b):=by
 have e1 : wru (BitVec.ofInt 64 (IntKind.u64.wrap 1) &&& BitVec.ofInt 64 7).toNat = 1:=by decide +kernel
 have e2 : IntKind.u64.wrap (8 - 1) = 7:=by decide +kernel
 have e3 : YI 1 = some ():=rfl
 have e4 : YI 7 = some ():=rfl
 unfold Yg
 simp only [e1,e2,e3,e4,Option.bind_some]
 rfl
theorem v_rot4 (b : UInt8) : Yg b 4 = some (J7 4 b):=by
 have e1 : wru (BitVec.ofInt 64 (IntKind.u64.wrap 4) &&& BitVec.ofInt 64 7).toNat = 4:=by decide +kernel
 have e2 : IntKind.u64.wrap (8 - 4) = 4:=by decide +kernel
 have e3 : YI 4 = some ():=rfl
 unfold Yg
 simp only [e1,e2,e3,Option.bind_some]
 rfl
def AK (k : Nat) (b : UInt8) : UInt8:=ZO (BO (orI (Jq (bI b) (k : Int)) (K5 (Jq (bI b) (k : Int)) 8)) 255)
theorem zC {p : UInt8 → Bool} (h : ((List.range 256).all fun n=>p (UInt8.ofNat n)) = true) (b : UInt8) : p b = true:=by
 have:=List.all_eq_true.1 h b.toNat (by simpa using UInt8.toNat_lt b)
 simpa using this
theorem turn0 (b : UInt8) : AK 0 b = b:=by
 have:=zC (p:=fun b=>AK 0 b == b) (by decide +kernel) b
 simpa using this
theorem turn1 (b : UInt8) : AK 1 b = J7 1 b:=by
 have:=zC (p:=fun b=>AK 1 b == J7 1 b) (by decide +kernel) b
 simpa using this
theorem turn4 (b : UInt8) : AK 4 b = J7 4 b:=by
 have:=zC (p:=fun b=>AK 4 b == J7 4 b) (by decide +kernel) b
 simpa using this
theorem kR (b : UInt8) (k : Nat) (h : k < 64) : XU b (k : Int) = some (AK k b):=by
 have e1 : IntKind.u64.wrap (k : Int) = (k : Int):=kF k (by omega)
 unfold XU
 rw [e1]
 have e2 : YI (k : Int) = some ():=by unfold YI; rw [if_pos (by omega)]
 rw [e2]; rfl
def zF (x : UInt8) : UInt8:=((Kd 285 x ^^^ J7 1 (Kd 285 x)) ^^^ J7 4 (Kd 285 x)) ^^^ 90
def Qp (n : Int) : GCipher:=⟨285,vf 256 fun x=>zF (UInt8.ofNat x),mf fun i j=>Kd 285 (UInt8.ofNat (i ^^^ (4 + j))),vf 16 fun i=>UInt8.ofNat ((13 * i + 4) % 16),n⟩
theorem yv {i : Nat} (h : i < 256) : decide ((i : Int) < 256) = true:=by simp; omega
theorem As (L : Vector UInt8 256 × Int → Option (Fl (Vector UInt8 256 × Int) (Vector UInt8 256))) (h : Nat → UInt8) (hL : ∀ i : Nat,i < 256 → ∀ a : Nat → UInt8,L (vf 256 a,(i : Int)) = some (.nx ((vf 256 a).setIfInBounds i (h i),wr ((i : Int) + 1))))
  (he : ∀ v,L (v,256) = some (.ex v)) : ZD L (Vector.replicate 256 0,0) = some (vf 256 h):=by
 rw [TD]
 exact Ww L (fun _=>0) h (by omega) 0 (by omega) (fun j hj=>by omega) (fun i _ hi a _ _=>hL i hi a) he
theorem jx (E : UInt8 → Option UInt8) (hE : ∀ a,E a = some (Kd 285 a)) (L1 : Mat × Int → Mat × Int → Option (Fl (Mat × Int) Mat)) (L0 : Mat × Int → Option (Fl (Mat × Int) Mat))
  (h1 : ∀ s t,L1 s t = if (decide (t.2 < 4)) = true then ((E (ZO (Ki s.2 (wr (4 + t.2))))).bind fun r=>(ZC t.1 s.2).bind fun x=>(ZC x t.2).bind fun _=>some (Fl.nx ((t.1.setIfInBounds (s.2).toNat (x.setIfInBounds (t.2).toNat r)),wr (t.2 + 1)))) else (some (Fl.ex t.1)))
  (h0 : ∀ s,L0 s = if (decide (s.2 < 4)) = true then ((ZD (L1 s) (s.1,0) : Option Mat).bind fun j=>some (Fl.nx (j,wr (s.2 + 1)))) else (some (Fl.ex s.1))) :
  ZD L0 (Vector.replicate 4 (Vector.replicate 4 (0 : UInt8)),0) = some (mf fun i j=>Kd 285 (UInt8.ofNat (i ^^^ (4 + j)))):=by
 have inner : ∀ (i : Nat) (hi : i < 4) (g : MF),ZD (L1 (mf g,(i : Int))) (mf g,0) = some (mf fun r c=>if r = i then Kd 285 (UInt8.ofNat (i ^^^ (4 + c))) else g r c):=by
  intro i hi g
  have:=Z3 (f:=L1 (mf g,(i : Int))) (fun j : Nat=>(mf fun r c=>if r = i ∧ c < j then Kd 285 (UInt8.ofNat (i ^^^ (4 + c))) else g r c,(j : Int))) 0 4 (by omega) (t:=mf fun r c=>if r = i then Kd 285 (UInt8.ofNat (i ^^^ (4 + c))) else g r c) (fun j _ hj=>by
   have e1 : wr (4 + (j : Int)) = ((4 + j : Nat) : Int):=by rw [YT (by omega)]; omega
   rw [h1]
   simp only [lt4 hj,if_true,e1,KB i (4 + j) (by omega) (by omega),VW,hE,Option.bind_some,XC _ hi,ZP _ hj,Int.toNat_natCast,UN,Ku,wr4 (show j < 1000 by omega)]
   refine congrArg (fun z=>some (Fl.nx (z,((j + 1 : Nat) : Int)))) (Xd fun r _ c _=>?_)
   by_cases hr : r = i
   ·subst hr
    by_cases hc : c = j
    ·subst hc; simp
    ·by_cases hc2 : c < j
     ·simp [hc,hc2,show c < j + 1 by omega]
     ·simp [hc,hc2,show ¬ c < j + 1 by omega]
   ·simp [hr]) (by
   rw [h1]
   simp only [show decide (((4 : Nat) : Int) < 4) = false from rfl,Bool.false_eq_true,if_false]
   refine congrArg (fun z=>some (Fl.ex z)) (Xd fun r _ c hc=>?_)
   by_cases hr : r = i <;> simp [hr,hc])
  have e0 : (mf fun r c=>if r = i ∧ c < 0 then Kd 285 (UInt8.ofNat (i ^^^ (4 + c))) else g r c) = mf g:=Xd fun r _ c _=>by simp
  simp only [e0] at this
  exact this
 have:=Z3 (f:=L0) (fun i : Nat=>(mf fun r c=>if r < i then Kd 285 (UInt8.ofNat (r ^^^ (4 + c))) else 0,(i : Int))) 0 4 (by omega) (t:=mf fun i j=>Kd 285 (UInt8.ofNat (i ^^^ (4 + j)))) (fun i _ hi=>by
  rw [h0]
  simp only [lt4 hi,if_true,inner i hi,Option.bind_some,wr4 (show i < 1000 by omega)]
  refine congrArg (fun z=>some (Fl.nx (z,((i + 1 : Nat) : Int)))) (Xd fun r _ c _=>?_)
  by_cases hr : r = i
  ·subst hr; simp
  ·by_cases hc2 : r < i
   ·simp [hr,hc2,show r < i + 1 by omega]
   ·simp [hr,hc2,show ¬ r < i + 1 by omega]) (by
  rw [h0]
  simp only [show decide (((4 : Nat) : Int) < 4) = false from rfl,Bool.false_eq_true,if_false]
  exact congrArg (fun z=>some (Fl.ex z)) (Xd fun r hr c hc=>by simp [hr]))
 have e0 : (mf fun r c=>if r < 0 then Kd 285 (UInt8.ofNat (r ^^^ (4 + c))) else 0) = mf fun _ _=>0:=Xd fun r _ c _=>by simp
 simp only [e0] at this
 rw [Hm]
 exact this
theorem za (L : Blk × Int → Option (Fl (Blk × Int) Blk))
  (hL : ∀ s,L s = if (decide (s.2 < 16)) = true then ((ZC s.1 s.2).bind fun _=>some (Fl.nx ((s.1.setIfInBounds (s.2).toNat (ZO (Int.tmod (wr ((wr (13 * s.2)) + 4)) 16))),wr (s.2 + 1)))) else (some (Fl.ex s.1))) :
  ZD L (Vector.replicate 16 0,0) = some (vf 16 fun i=>UInt8.ofNat ((13 * i + 4) % 16)):=by
 rw [TD]
 exact Ww L (fun _=>0) (fun i=>UInt8.ofNat ((13 * i + 4) % 16)) (by omega) 0 (by omega) (fun j hj=>by omega) (fun i _ hi a _ _=>by
  have e1 : wr (13 * (i : Int)) = 13 * (i : Int):=YT (by omega)
  have e2 : wr (13 * (i : Int) + 4) = ((13 * i + 4 : Nat) : Int):=by rw [YT (by omega)]; omega
  have e3 : Int.tmod ((13 * i + 4 : Nat) : Int) 16 = (((13 * i + 4) % 16 : Nat) : Int):=by rw [Int.tmod_eq_emod_of_nonneg (by omega)]; omega
  rw [hL]
  simp only [Hn hi,if_true,ZP _ hi,Option.bind_some,e1,e2,e3,VW,Int.toNat_natCast]) (fun v=>by rw [hL]; simp)
theorem zZ (n : Int) : WN n = some (Qp n):=by
 have hinv : ∀ a,Yj 285 a = some (Kd 285 a):=fun a=>K2 285 (by omega) a
 have h1:=As Wk (fun x=>zF (UInt8.ofNat x)) (fun i hi a=>by
  unfold Wk
  simp only [yv hi,if_true,VW,hinv,v_rot1,v_rot4,Option.bind_some,ZP _ hi,Int.toNat_natCast]
  rfl) (fun v=>by unfold Wk; simp)
 have h2:=jx (Yj 285) hinv Vm Vj (fun s t=>by unfold Vm; rfl) (fun s=>by unfold Vj; rfl)
 have h3:=za Vk (fun s=>by unfold Vk; rfl)
 unfold WN Qp
 simp only [h1,h2,h3,Option.bind_some]
theorem Zbj (L : UInt8 × UInt8 × Int → Option (Fl (UInt8 × UInt8 × Int) UInt8)) (T : UInt8 → UInt8 → Option UInt8) (hT : ∀ a b,T a b = some (ZW 285 a b))
  (hL : ∀ s,L s = if (decide (s.2.2 > 0)) = true then (((if ((Int.tmod s.2.2 2) == 1) = true then ((T s.1 s.2.1).bind fun r=>some r) else (some s.1) : Option UInt8).bind fun j24=>(T s.2.1 s.2.1).bind fun r32=>some (j24,r32) : Option (UInt8 × UInt8)).bind fun j21=>some (Fl.nx (j21.1,j21.2,wr (Int.tdiv s.2.2 2)))) else (some (Fl.ex s.1))) :
  ∀ (f k : Nat) (a o : UInt8),k < 2 ^ f → f ≤ 62 → ZD L (o,a,(k : Int)) = some (B5 285 f a k o):=by
 intro f
 induction f with
 | zero =>
  intro k a o hk _
  have : k = 0:=by simpa using hk
  subst this
  exact Xb (by rw [hL]; simp [B5])
 | succ f ih =>
  intro k a o hk hf
  by_cases h0 : k = 0
  ·subst h0
   exact Xb (by rw [hL]; simp [B5])
  ·have hlt : k < 9223372036854775808:=Nat.lt_of_lt_of_le hk (Nat.pow_le_pow_right (by omega : 0 < 2) (by omega : f + 1 ≤ 63))
   have hst : L (o,a,(k : Int)) = some (.nx (if k % 2 = 1 then ZW 285 o a else o,ZW 285 a a,((k / 2 : Nat) : Int))):=by
    rw [hL]
    have c1 : (k : Int) > 0:=by omega
    have e3 : ((((k % 2 : Nat) : Int)) == 1) = decide (k % 2 = 1):=by
     rw [Bool.eq_iff_iff,beq_iff_eq,decide_eq_true_eq]; omega
    simp only [c1,decide_true,if_true,Zb7,qM,hT,e3,Option.bind_some,yc (k / 2) (by omega)]
    by_cases c2 : k % 2 = 1 <;> simp [c2]
   rw [Wo hst,ih (k / 2) _ _ (by rw [Nat.pow_succ] at hk; omega) (by omega)]
   conv=>rhs; unfold B5
   rw [if_neg h0]
theorem kP : V1 285 254 = some (vf 256 fun x=>Kd 285 (UInt8.ofNat x)):=by
 have hp:=Zbj (Vy 285) (Z5 285) (Qy 285 (by omega) (by omega)) (fun s=>by unfold Vy; rfl)
 have hp2 : ∀ a,ZD (Vy 285) (1,a,254) = some (Kd 285 a):=fun a=>hp 8 254 a 1 (by omega) (by omega)
 have h1:=As (VL 285 254) (fun x=>Kd 285 (UInt8.ofNat x)) (fun i hi a=>by
  unfold VL
  simp only [yv hi,if_true,VW,hp2,Option.bind_some,ZP _ hi,Int.toNat_natCast]) (fun v=>by unfold VL; simp)
 unfold V1
 simp only [h1,Option.bind_some]
def rots (x : UInt8) : UInt8:=((90 ^^^ x) ^^^ J7 1 x) ^^^ J7 4 x
theorem zG : Wn ([0,1,4] : List Int) 90 = some (vf 256 fun x=>rots (UInt8.ofNat x)):=by
 have t0 : ∀ b,XU b 0 = some b:=fun b=>by have:=kR b 0 (by omega); rw [turn0] at this; exact this
 have t1 : ∀ b,XU b 1 = some (J7 1 b):=fun b=>by have:=kR b 1 (by omega); rw [turn1] at this; exact this
 have t4 : ∀ b,XU b 4 = some (J7 4 b):=fun b=>by have:=kR b 4 (by omega); rw [turn4] at this; exact this
 have w1 : wr 1 = 1:=by decide
 have w2 : wr 2 = 2:=by decide
 have w3 : wr 3 = 3:=by decide
 have hin : ∀ (s : Vector UInt8 256 × Int),ZD (Ya [0,1,4] s) (90,0) = some (rots (ZO s.2)):=by
  intro s
  rw [Wo (f:=Ya [0,1,4] s) (s:=(90,0)) (s':=(90 ^^^ ZO s.2,1)) (by unfold Ya; simp [t0,w1,idx])]
  rw [Wo (f:=Ya [0,1,4] s) (s':=((90 ^^^ ZO s.2) ^^^ J7 1 (ZO s.2),2)) (by unfold Ya; simp [t1,w2,idx])]
  rw [Wo (f:=Ya [0,1,4] s) (s':=(((90 ^^^ ZO s.2) ^^^ J7 1 (ZO s.2)) ^^^ J7 4 (ZO s.2),3)) (by unfold Ya; simp [t4,w3,idx])]
  exact Xb (by unfold Ya; simp; rfl)
 have h1:=As (X3 [0,1,4] 90) (fun x=>rots (UInt8.ofNat x)) (fun i hi a=>by
  unfold X3
  simp only [yv hi,if_true,hin,VW,Option.bind_some,ZP _ hi,Int.toNat_natCast]) (fun v=>by unfold X3; simp)
 unfold Wn
 simp only [h1,Option.bind_some]
theorem qV (f g : Nat → UInt8) : UV (vf 256 f) (vf 256 g) = some (vf 256 fun x=>g (f x).toNat):=by
 have hv : ∀ x : UInt8,ZC (vf 256 g) (bI x) = some (g x.toNat):=fun x=>ZP g (UInt8.toNat_lt x)
 have h1:=As (Ua (vf 256 f) (vf 256 g)) (fun x=>g (f x).toNat) (fun i hi a=>by
  unfold Ua
  simp only [yv hi,if_true,Option.bind_some,ZP _ hi,hv,Int.toNat_natCast]) (fun v=>by unfold Ua; simp)
 unfold UV
 simp only [h1,Option.bind_some]
theorem kr (x : UInt8) : rots (UInt8.ofNat (Kd 285 x).toNat) = zF x:=by
 rw [UInt8.ofNat_toNat]
 unfold rots zF
 ac_rfl
theorem kI (n : Int) : Uo n = some (Qp n):=by
 have hinv : ∀ a,Wr 285 a = some (Kd 285 a):=fun a=>jM 285 (by omega) (by omega) a
 have h2:=jx (Wr 285) hinv Tm Tt (fun s t=>by unfold Tm; rfl) (fun s=>by unfold Tt; rfl)
 have h3:=za Tv (fun s=>by unfold Tv; rfl)
 unfold Uo Qp
 simp only [kP,zG,qV,kr,h2,h3,Option.bind_some]

theorem yJ {α : Type} (n : Nat) (f : Nat → α) : (vf n f).toList = (List.range n).map f:=by
 apply List.ext_getElem
 ·simp
 ·intro i h1 h2
  simp at h1
  rw [Vector.getElem_toList,KX f h1]; simp
theorem Zam : QI ((List.range 256).map fun x=>zF (UInt8.ofNat x)) = true:=by decide +kernel
theorem y8 : WP (vf 16 fun i=>UInt8.ofNat ((13 * i + 4) % 16)) = true:=by
 unfold WP
 rw [yJ]
 decide +kernel
theorem jh : TE 285 = true:=by decide +kernel
theorem Za3 : (detC 285 (mf fun i j=>Kd 285 (UInt8.ofNat (i ^^^ (4 + j)))) != 0) = true:=by decide +kernel
theorem jm (n : Int) (h : 1 ≤ n ∧ n ≤ 20) : Yf (Qp n) = true:=by
 unfold Yf Qp
 simp only [yJ,Zam,y8,jh,Bool.true_and,h,decide_true,Bool.and_true,and_self]
 exact Za3
theorem Hg (p0 : List (List UInt8)) (hl : p0.flatten.length ≤ 140737488355328) (hn : p0.length < 9223372036854775807) : Z7 p0 = some p0.flatten:=by
 obtain ⟨a1,a2⟩:=yu 1 p0 (Xi p0) (Xj p0) (fun s=>by unfold Xi; rfl) (fun s=>by unfold Xj; rfl) (by omega) (by omega) hn
 have hg : YD (p0.flatten.length : Int) = some []:=by
  unfold YD
  exact Zbm 1 _ _ (by omega) (by omega)
 unfold Z7
 simp only [a1,a2,hg,Option.bind_some]
theorem jD (l : List UInt8) (h : l.length ≤ 140737488355328) : Y4 l = some l:=by
 unfold Y4
 rw [Qu (by simp; omega)]; rfl
theorem Za1 (l : List UInt8) (h : l.length ≤ 140737488355328) : UY l = some l:=by
 unfold UY
 rw [Qu (by simp; omega)]; rfl
theorem AC {l : List UInt8} {n : Nat} (h : n ≤ l.length) : Q7 n l = some (vf n fun j=>l.getD j 0):=by
 unfold Q7
 rw [dif_pos h]
 refine congrArg some (Km fun i hi=>?_)
 rw [KX _ hi,List.getD_eq_getElem?_getD,List.getElem?_eq_getElem (by omega)]
 simp
theorem jk {l : List UInt8} {i j : Nat} (h : i ≤ j) (h2 : j ≤ l.length) : ∃ r,slc l (i : Int) (j : Int) = some r ∧ r.length = j - i ∧ ∀ k,k < j - i → r.getD k 0 = l.getD (i + k) 0:=by
 refine ⟨_,J5 h h2,by simp; omega,fun k hk=>?_⟩
 rw [List.getD_eq_getElem?_getD,List.getD_eq_getElem?_getD,List.getElem?_drop,List.getElem?_take,if_pos (by omega)]

def beL (n : Int) : Nat → List UInt8
 | 0=>[]
 | k + 1=>ZO (K5 n ((8 * k : Nat) : Int)) :: beL n k
theorem yV (n : Int) : ∀ k,(beL n k).length = k
 | 0=>rfl
 | k + 1=>by rw [beL,List.length_cons,yV n k]
theorem qN (n : Int) (L : List UInt8 × Int → Option (Fl (List UInt8 × Int) (List UInt8))) (K : Nat)
  (hL : ∀ (k : Nat) (acc : List UInt8),k < K → acc.length ≤ 100000000 → L (acc,(k : Int)) = some (.nx (acc ++ [ZO (K5 n ((8 * k : Nat) : Int))],(k : Int) - 1))) (he : ∀ acc,L (acc,-1) = some (.ex acc)) :
  ∀ (k : Nat) (acc : List UInt8),k ≤ K → acc.length + k ≤ 100000000 → ZD L (acc,(k : Int) - 1) = some (acc ++ beL n k):=by
 intro k
 induction k with
 | zero=>intro acc _ _; rw [show ((0 : Nat) : Int) - 1 = -1 from rfl,Xb (he acc)]; simp [beL]
 | succ k ih =>
  intro acc hk hl
  have e : ((k + 1 : Nat) : Int) - 1 = (k : Int):=by omega
  rw [e,Wo (hL k acc (by omega) (by omega)),ih _ (by omega) (by simp; omega)]
  simp [beL]
theorem y9 (n : Int) (m : Nat) (hm : m ≤ 100) : WB n (m : Int) = some (beL n m):=by
 have h:=qN n (Va n) 100 (fun k acc hk hl=>by
  unfold Va
  have e1 : wr (8 * (k : Int)) = ((8 * k : Nat) : Int):=by rw [YT (by omega)]; omega
  have e2 : YI ((8 * k : Nat) : Int) = some ():=by unfold YI; rw [if_pos (by omega)]
  have e3 : wr ((k : Int) - 1) = (k : Int) - 1:=YT (by omega)
  have e4 : decide ((k : Int) ≥ 0) = true:=by simp
  simp only [e1,e2,e3,e4,if_true,Option.bind_some]
  rw [Qu (by simp; omega)]; rfl) (fun acc=>by unfold Va; simp) m [] hm (by simp; omega)
 have e : wr ((m : Int) - 1) = (m : Int) - 1:=YT (by omega)
 unfold WB
 rw [e,h]; rfl
theorem and255 (x : Int) : ZO (BO x 255) = ZO x:=by
 have h1 : (BitVec.ofInt 64 255) = (255 : BitVec 64):=rfl
 have h2 : (BitVec.ofInt 64 x &&& BitVec.ofInt 64 255).toNat = (x % 256).toNat:=by
  rw [BitVec.toNat_and,h1,show (255 : BitVec 64).toNat = 2 ^ 8 - 1 from rfl,Nat.and_two_pow_sub_one_eq_mod,BitVec.toNat_ofInt]
  omega
 unfold BO ZO
 rw [h2,YT (by omega)]
 congr 1
 omega
def VK (n : Nat) : Nat:=(24 - n % 16) % 16
def Jx (d : List UInt8) : List UInt8:=((d ++ [128]) ++ List.replicate (VK (d.length + 1)) 0) ++ beL (d.length : Int) 8
theorem j0 (d : List UInt8) : ∃ n,(Jx d).length = 16 * n ∧ n ≤ d.length + 2:=by
 have : (Jx d).length = d.length + 1 + VK (d.length + 1) + 8:=by simp [Jx,yV]; omega
 refine ⟨(d.length + 1 + VK (d.length + 1) + 8) / 16,?_,?_⟩
 ·rw [this]; unfold VK; omega
 ·unfold VK; omega
theorem jQ (L : List UInt8 → Option (Fl (List UInt8) (List UInt8))) (hL : ∀ s,L s = if ((Int.tmod (s.length : Int) 16) != 8) = true then ((app 1 s ([0] : List UInt8)).bind fun (_ : List UInt8)=>some (Fl.nx (s ++ ([0] : List UInt8)))) else (some (Fl.ex s)))
  (l : List UInt8) (hl : l.length ≤ 100000000) : ZD L l = some (l ++ List.replicate (VK l.length) 0):=by
 have ht : ∀ n : Nat,Int.tmod (n : Int) 16 = ((n % 16 : Nat) : Int):=fun n=>by rw [Int.tmod_eq_emod_of_nonneg (by omega)]; omega
 have:=Z3 (f:=L) (fun i : Nat=>l ++ List.replicate i 0) 0 (VK l.length) (Nat.zero_le _) (t:=l ++ List.replicate (VK l.length) 0) (fun i _ hi=>by
  rw [hL,ht]
  have hz : VK l.length < 16:=by unfold VK; omega
  have e : ((((l ++ List.replicate i 0).length % 16 : Nat) : Int) != 8) = true:=by
   simp only [List.length_append,List.length_replicate,bne_iff_ne,ne_eq]
   unfold VK at hi; omega
  rw [e,if_pos rfl,Qu (by simp; omega)]
  simp [List.replicate_succ']) (by
  rw [hL,ht]
  have e : ((((l ++ List.replicate (VK l.length) 0).length % 16 : Nat) : Int) != 8) = false:=by
   simp only [List.length_append,List.length_replicate,bne_eq_false_iff_eq]
   unfold VK; omega
  rw [e]; rfl)
 simpa using this
theorem yN (d : List UInt8) (h : d.length ≤ 10000000) : Vb d = some (Jx d):=by
 have h1:=jQ VX (fun s=>by unfold VX; rfl) (d ++ [128]) (by simp; omega)
 have h2:=y9 (d.length : Int) 8 (by omega)
 have h3 : WB (d.length : Int) 8 = some (beL (d.length : Int) 8):=h2
 have hz : VK (d.length + 1) < 16:=by unfold VK; omega
 have e : (d ++ [128]).length = d.length + 1:=by simp
 rw [e] at h1
 unfold Vb Jx
 rw [jD d (by omega),Option.bind_some,Qu (by simp; omega),Option.bind_some,h1,Option.bind_some,h3,Option.bind_some,Qu (by simp [yV]; omega)]
 rfl
theorem Zb9 (d : List UInt8) (h : d.length ≤ 10000000) : TK d = some (Jx d):=by
 have h1:=jQ Qd (fun s=>by unfold Qd; rfl) (d ++ [128]) (by simp; omega)
 have hz : VK (d.length + 1) < 16:=by unfold VK; omega
 have e : (d ++ [128]).length = d.length + 1:=by simp
 rw [e] at h1
 have h2:=qN (d.length : Int) (VJ d) 100 (fun k acc hk hl=>by
  unfold VJ
  have e1 : wr (8 * (k : Int)) = ((8 * k : Nat) : Int):=by rw [YT (by omega)]; omega
  have e5 : IntKind.u64.wrap ((8 * k : Nat) : Int) = ((8 * k : Nat) : Int):=kF _ (by omega)
  have e2 : YI ((8 * k : Nat) : Int) = some ():=by unfold YI; rw [if_pos (by omega)]
  have e3 : wr ((k : Int) - 1) = (k : Int) - 1:=YT (by omega)
  have e4 : decide ((k : Int) ≥ 0) = true:=by simp
  simp only [e1,e5,e2,e3,e4,if_true,Option.bind_some,and255]
  rw [Qu (by simp; omega)]; rfl) (fun acc=>by unfold VJ; simp) 8 ((d ++ [128]) ++ List.replicate (VK (d.length + 1)) 0) (by omega) (by simp; omega)
 have h3 : ZD (VJ d) ((d ++ [128]) ++ List.replicate (VK (d.length + 1)) 0,7) = some (((d ++ [128]) ++ List.replicate (VK (d.length + 1)) 0) ++ beL (d.length : Int) 8):=h2
 unfold TK Jx
 rw [Za1 d (by omega),Option.bind_some,Qu (by simp; omega),Option.bind_some,h1,Option.bind_some,h3]
 rfl

def qK (l : List UInt8) (i : Nat) : Blk:=vf 16 fun j=>l.getD (16 * i + j) 0
def X4 (l : List UInt8) (n : Nat) : List Blk:=(List.range n).map (qK l)
theorem Kj (l : List UInt8) (n : Nat) : (X4 l n).length = n:=by simp [X4]
theorem Hf (l : List UInt8) (n : Nat) : X4 l (n + 1) = X4 l n ++ [qK l n]:=by simp [X4,List.range_succ]
theorem kk (l : List UInt8) (n : Nat) (hl : l.length = 16 * n) (hn : n ≤ 100000000) : Ub l = some (X4 l n):=by
 have:=Z3 (f:=Wx l) (fun i : Nat=>(X4 l i,((16 * i : Nat) : Int))) 0 n (Nat.zero_le _) (t:=X4 l n) (fun i _ hi=>by
  unfold Wx
  have e1 : wr (((16 * i : Nat) : Int) + 16) = ((16 * (i + 1) : Nat) : Int):=by rw [YT (by omega)]; omega
  have e2 : decide (((16 * i : Nat) : Int) < (l.length : Int)) = true:=by simp; omega
  obtain ⟨r,r1,r2,r3⟩:=jk (l:=l) (i:=16 * i) (j:=16 * (i + 1)) (by omega) (by omega)
  have e3 : Q7 16 r = some (qK l i):=by
   rw [AC (by omega)]
   exact congrArg some (Y2 fun j hj=>r3 j (by omega))
  simp only [e1,e2,if_true,r1,e3,Option.bind_some]
  rw [Qu (by rw [Kj]; simp; omega),Hf]; rfl) (by
  unfold Wx
  have e2 : decide (((16 * n : Nat) : Int) < (l.length : Int)) = false:=by simp; omega
  simp only [e2,Bool.false_eq_true,if_false])
 have h2 : ZD (Wx l) ([],0) = _:=this
 unfold Ub
 rw [h2]; rfl
theorem y0 (l : List UInt8) (n : Nat) (hl : l.length = 16 * n) (hn : n ≤ 100000000) : VO l = some (X4 l n):=by
 have:=Z3 (f:=Wg l) (fun i : Nat=>(X4 l i,((16 * i : Nat) : Int))) 0 n (Nat.zero_le _) (t:=X4 l n) (fun i _ hi=>by
  unfold Wg
  have e1 : wr (((16 * i : Nat) : Int) + 16) = ((16 * (i + 1) : Nat) : Int):=by rw [YT (by omega)]; omega
  have e2 : decide (((16 * (i + 1) : Nat) : Int) ≤ (l.length : Int)) = true:=by simp; omega
  have h3:=Ww (Wd l (X4 l i,((16 * i : Nat) : Int))) (fun _=>0) (fun j=>l.getD (16 * i + j) 0) (by omega) 0 (by omega) (fun j hj=>by omega) (fun j _ hj a _ _=>by
   unfold Wd
   have e4 : wr (((16 * i : Nat) : Int) + (j : Int)) = ((16 * i + j : Nat) : Int):=by rw [YT (by omega)]; omega
   have e5 : 16 * i + j < l.length:=by omega
   simp only [Hn hj,if_true,e4,XV,List.getElem?_eq_getElem e5,ZP _ hj,Option.bind_some,Int.toNat_natCast,List.getD_eq_getElem?_getD,Option.getD_some]) (fun v=>by unfold Wd; simp)
  have h4 : ZD (Wd l (X4 l i,((16 * i : Nat) : Int))) (Vector.replicate 16 0,0) = some (qK l i):=by rw [TD]; exact h3
  simp only [e1,e2,if_true,h4,Option.bind_some]
  rw [Qu (by rw [Kj]; simp; omega),Hf]; rfl) (by
  unfold Wg
  have e1 : wr (((16 * n : Nat) : Int) + 16) = ((16 * (n + 1) : Nat) : Int):=by rw [YT (by omega)]; omega
  have e2 : decide (((16 * (n + 1) : Nat) : Int) ≤ (l.length : Int)) = false:=by simp; omega
  simp only [e1,e2,Bool.false_eq_true,if_false])
 have h2 : ZD (Wg l) ([],0) = _:=this
 unfold VO
 rw [h2]; rfl

abbrev Dig:=Vector UInt8 32
def df (v : Dig) (i : Nat) : UInt8:=v[i]?.getD default
theorem vf_df (v : Dig) : v = vf 32 (df v):=z6 v
def KR : Dig:=vf 32 fun i=>UInt8.ofNat (17 * i)
theorem lt32 {i : Nat} (h : i < 32) : decide ((i : Int) < 32) = true:=by simp; omega
theorem Zdk : X0 = some KR:=by
 have h:=Ww YZ (fun _=>0) (fun i=>UInt8.ofNat (17 * i)) (by omega) 0 (by omega) (fun j hj=>by omega) (fun i _ hi a _ _=>by
  unfold YZ
  have e1 : wr (17 * (i : Int)) = ((17 * i : Nat) : Int):=by rw [YT (by omega)]; omega
  simp only [lt32 hi,if_true,ZP _ hi,Option.bind_some,e1,VW,Int.toNat_natCast]) (fun v=>by unfold YZ; simp)
 have h2 : ZD YZ (Vector.replicate 32 0,0) = some KR:=by rw [TD]; exact h
 unfold X0
 rw [h2]; rfl
theorem kV : Uj = some KR:=by
 have h:=Ww WF (fun _=>0) (fun i=>UInt8.ofNat (17 * i)) (by omega) 0 (by omega) (fun j hj=>by omega) (fun i _ hi a _ _=>by
  unfold WF
  have e1 : wr (17 * (i : Int)) = ((17 * i : Nat) : Int):=by rw [YT (by omega)]; omega
  have e2 : Int.tmod ((17 * i : Nat) : Int) 256 = ((17 * i % 256 : Nat) : Int):=by rw [Int.tmod_eq_emod_of_nonneg (by omega)]; omega
  simp only [lt32 hi,if_true,ZP _ hi,Option.bind_some,e1,e2,VW,qU,Int.toNat_natCast]) (fun v=>by unfold WF; simp)
 have h2 : ZD WF (Vector.replicate 32 0,0) = some KR:=by rw [TD]; exact h
 unfold Uj
 rw [h2]; rfl
def hiF (s : Nat → UInt8) : Nat → UInt8:=fun i=>s (16 + i)
def yk (f g : Nat → UInt8) : Nat → UInt8:=fun i=>if i < 16 then f i else g (i - 16)
def qG (c : GCipher) (k a : Nat → UInt8) : Nat → UInt8:=HE (yM c k a c.Rounds.toNat) a
def absC (c : GCipher) (s m : Nat → UInt8) : Nat → UInt8 :=
 yk (qG c (hiF s) (HE s m)) (qG c (qG c (hiF s) (HE s m)) (HE (hiF s) m))
theorem jN (s : Nat → UInt8) : Vs (vf 32 s) = some (vf 16 s,vf 16 (hiF s)):=by
 have:=Z3 (f:=X9 (vf 32 s)) (fun i : Nat=>(vf 16 (fun j=>if j < i then hiF s j else 0),vf 16 (fun j=>if j < i then s j else 0),(i : Int))) 0 16 (by omega) (t:=(vf 16 (hiF s),vf 16 s)) (fun i _ hi=>by
  unfold X9
  have e1 : wr (16 + (i : Int)) = ((16 + i : Nat) : Int):=by rw [YT (by omega)]; omega
  simp only [Hn hi,if_true,e1,ZP _ (show i < 32 by omega),ZP _ (show 16 + i < 32 by omega),ZP _ hi,Option.bind_some,Int.toNat_natCast,UN,Xe (show i < 9223372036854775807 by omega)]
  have e : ∀ f : Nat → UInt8,(vf 16 fun j=>if j = i then f i else if j < i then f j else 0) = vf 16 fun j=>if j < i + 1 then f j else 0:=fun f=>Y2 fun j _=>by
   by_cases h1 : j = i
   ·subst h1; simp
   ·by_cases h2 : j < i
    ·rw [if_neg h1,if_pos h2,if_pos (by omega)]
    ·rw [if_neg h1,if_neg h2,if_neg (by omega)]
  have ea:=e (hiF s)
  have eb:=e s
  rw [eb]
  have ea' : (vf 16 fun j=>if j = i then s (16 + i) else if j < i then hiF s j else 0) = vf 16 fun j=>if j < i + 1 then hiF s j else 0:=ea
  rw [ea']) (by
  unfold X9
  simp only [show decide (((16 : Nat) : Int) < 16) = false from rfl,Bool.false_eq_true,if_false]
  refine congrArg (fun z=>some (Fl.ex z)) (congr (congrArg Prod.mk (Y2 fun j hj=>by rw [if_pos hj])) (Y2 fun j hj=>by rw [if_pos hj])))
 have h2 : ZD (X9 (vf 32 s)) (vf 16 (fun _=>0),vf 16 (fun _=>0),0) = some (vf 16 (hiF s),vf 16 s):=by
  have e0 : ∀ f : Nat → UInt8,(vf 16 fun j=>if j < 0 then f j else 0) = vf 16 fun _=>0:=fun f=>Y2 fun j _=>by simp
  simp only [e0] at this
  exact this
 unfold Vs
 rw [TD,h2]; rfl
theorem jA (c : GCipher) (h : Yf c = true) (s m : Nat → UInt8) : Wy c (vf 32 s) (vf 16 m) = some (vf 32 (absC c s m)):=by
 have hj : ∀ f g : Nat → UInt8,ZD (Wb (vf 16 f) (vf 16 g)) (Vector.replicate 32 0,0) = some (vf 32 (yk f g)):=by
  intro f g
  have:=Z3 (f:=Wb (vf 16 f) (vf 16 g)) (fun i : Nat=>(vf 32 (fun j=>if j < i then f j else if 16 ≤ j ∧ j < 16 + i then g (j - 16) else 0),(i : Int))) 0 16 (by omega) (t:=vf 32 (yk f g)) (fun i _ hi=>by
   unfold Wb
   have e1 : wr (16 + (i : Int)) = ((16 + i : Nat) : Int):=by rw [YT (by omega)]; omega
   simp only [Hn hi,if_true,e1,ZP _ (show i < 32 by omega),ZP _ (show 16 + i < 32 by omega),ZP _ hi,Option.bind_some,Int.toNat_natCast,UN,Xe (show i < 9223372036854775807 by omega)]
   refine congrArg (fun z=>some (Fl.nx (z,((i + 1 : Nat) : Int)))) (Y2 fun j hj=>?_)
   by_cases h1 : j = 16 + i
   ·subst h1
    rw [if_pos rfl,if_neg (by omega),if_pos (by omega)]
    congr 1; omega
   ·rw [if_neg h1]
    by_cases h2 : j = i
    ·subst h2; rw [if_pos rfl,if_pos (by omega)]
    ·rw [if_neg h2]
     by_cases h3 : j < i
     ·rw [if_pos h3,if_pos (by omega)]
     ·rw [if_neg h3,if_neg (show ¬ j < i + 1 by omega)]
      by_cases h4 : 16 ≤ j ∧ j < 16 + i
      ·rw [if_pos h4,if_pos (by omega)]
      ·rw [if_neg h4,if_neg (by omega)]) (by
   unfold Wb
   simp only [show decide (((16 : Nat) : Int) < 16) = false from rfl,Bool.false_eq_true,if_false]
   refine congrArg (fun z=>some (Fl.ex z)) (Y2 fun j hj=>?_)
   unfold yk
   by_cases h3 : j < 16
   ·rw [if_pos h3,if_pos h3]
   ·rw [if_neg h3,if_neg h3,if_pos (by omega)])
  have e0 : (vf 32 fun j=>if j < 0 then f j else if 16 ≤ j ∧ j < 16 + 0 then g (j - 16) else 0) = vf 32 fun _=>0:=Y2 fun j _=>by rw [if_neg (by omega),if_neg (by omega)]
  simp only [e0] at this
  rw [TD]
  exact this
 unfold Wy
 simp only [jN,Option.bind_some,HF,HD c h,hj]
 rfl
theorem Zbz (c : GCipher) (h : Yf c = true) (s m : Nat → UInt8) : Y8 ⟨Xm c⟩ (vf 32 s) (vf 16 m) = some (vf 32 (absC c s m)):=by
 have g1 : ∀ {n : Nat} (f : Nat → UInt8) (k : Nat),k < n → (vf n f).toList.getD k 0 = f k:=fun f k hk=>by
  rw [yJ,List.getD_eq_getElem?_getD,List.getElem?_map,List.getElem?_range hk]; rfl
 have hl : ∀ {n : Nat} (f : Nat → UInt8),(vf n f).toList.length = n:=fun f=>by simp
 have cut : ∀ {n : Nat} (f : Nat → UInt8) (i j : Nat),i ≤ j → j ≤ n → ∃ r,slc (vf n f).toList (i : Int) (j : Int) = some r ∧ r.length = j - i ∧ Q7 (j - i) r = some (vf (j - i) fun k=>f (i + k)) ∧ ∀ k,k < j - i → r.getD k 0 = f (i + k):=by
  intro n f i j hij hjn
  obtain ⟨r,r1,r2,r3⟩:=jk (l:=(vf n f).toList) (i:=i) (j:=j) hij (by rw [hl]; exact hjn)
  have r4 : ∀ k,k < j - i → r.getD k 0 = f (i + k):=fun k hk=>by rw [r3 k hk,g1 f (i + k) (by omega)]
  refine ⟨r,r1,r2,?_,r4⟩
  rw [AC (by omega)]
  exact congrArg some (Y2 r4)
 obtain ⟨l,l1,l2,l3,l4⟩:=cut (n:=32) s 0 16 (by omega) (by omega)
 obtain ⟨l',l1',l2',l3',l4'⟩:=cut (n:=32) s 16 32 (by omega) (by omega)
 have a1 : slc (vf 32 s).toList (0 : Int) (16 : Int) = some l:=l1
 have a2 : slc (vf 32 s).toList (16 : Int) (32 : Int) = some l':=l1'
 have a3 : Q7 16 l = some (vf 16 s):=by
  have : Q7 16 l = some (vf 16 fun k=>s (0 + k)):=l3
  rw [this]; exact congrArg some (Y2 fun k _=>by rw [Nat.zero_add])
 have a4 : Q7 16 l' = some (vf 16 (hiF s)):=l3'
 have join : ∀ f g : Nat → UInt8,((slc (vf 16 f).toList (0 : Int) (16 : Int)).bind fun (l56 : (List UInt8))=>(slc (vf 16 g).toList (0 : Int) (16 : Int)).bind fun (l59 : (List UInt8))=>(Z7 ([l56,l59] : (List (List UInt8)))).bind fun (r64 : (List UInt8))=>(Q7 32 r64).bind fun (x67 : (Vector UInt8 32))=>some x67 : Option ((Vector UInt8 32))) = some (vf 32 (yk f g)):=by
  intro f g
  obtain ⟨p,p1,p2,_,p4⟩:=cut (n:=16) f 0 16 (by omega) (by omega)
  obtain ⟨q,q1,q2,_,q4⟩:=cut (n:=16) g 0 16 (by omega) (by omega)
  have b1 : slc (vf 16 f).toList (0 : Int) (16 : Int) = some p:=p1
  have b2 : slc (vf 16 g).toList (0 : Int) (16 : Int) = some q:=q1
  have b3 : Z7 [p,q] = some (p ++ q):=by
   have:=Hg [p,q] (by simp; omega) (by simp)
   simpa using this
  rw [b1,Option.bind_some,b2,Option.bind_some,b3,Option.bind_some,AC (by simp; omega),Option.bind_some]
  refine congrArg some (Y2 fun k hk=>?_)
  unfold yk
  rw [List.getD_eq_getElem?_getD]
  by_cases h1 : k < 16
  ·rw [if_pos h1,List.getElem?_append_left (by omega),← List.getD_eq_getElem?_getD,p4 k (by omega),Nat.zero_add]
  ·rw [if_neg h1,List.getElem?_append_right (by omega),← List.getD_eq_getElem?_getD,q4 (k - p.length) (by omega),Nat.zero_add,show p.length = 16 from p2]
 have in1 : ∀ k a : Nat → UInt8,((Yw ⟨Xm c⟩ (vf 16 k) (vf 16 a)).bind fun (r34 : (Vector UInt8 16))=>(Yo r34 (vf 16 a)).bind fun (r36 : (Vector UInt8 16))=>some r36 : Option (Vector UInt8 16)) = some (vf 16 (qG c k a)):=fun k a=>by
  rw [Hx c h,Option.bind_some,T7,Option.bind_some]; rfl
 unfold Y8
 rw [a1,Option.bind_some,a3,Option.bind_some,a2,Option.bind_some,a4,Option.bind_some,T7,Option.bind_some,in1,Option.bind_some,T7,Option.bind_some,in1,Option.bind_some,join,Option.bind_some]
 rfl

def absV (c : GCipher) (s : Dig) (m : Blk) : Dig:=vf 32 (absC c (df s) (bf m))
theorem qw (c : GCipher) (h : Yf c = true) (s : Dig) (m : Blk) : Y8 ⟨Xm c⟩ s m = some (absV c s m) ∧ Wy c s m = some (absV c s m):=by
 have h1:=Zbz c h (df s) (bf m)
 have h2:=jA c h (df s) (bf m)
 rw [← vf_df,← vf_bf] at h1 h2
 exact ⟨h1,h2⟩
def jq (c : GCipher) (d : List UInt8) : Dig:=(X4 (Jx d) ((Jx d).length / 16)).foldl (absV c) KR
theorem Zbc (c : GCipher) (h : Yf c = true) (ps : List (List UInt8)) (hl : ps.flatten.length ≤ 10000000) (hn : ps.length < 9223372036854775807) : X1 ⟨Xm c⟩ ps = some (jq c ps.flatten):=by
 obtain ⟨n,n1,n2⟩:=j0 ps.flatten
 have e : (Jx ps.flatten).length / 16 = n:=by omega
 have h1:=z1 (f:=Y1 ⟨Xm c⟩ (X4 (Jx ps.flatten) n)) (X4 (Jx ps.flatten) n) (fun (b : Dig) i=>(b,i)) (absV c) KR (t:=jq c ps.flatten) (by rw [Kj]; omega) (fun i hi=>by
  unfold Y1
  simp only [Int.ofNat_lt,hi,decide_true,if_true,XV,List.getElem?_eq_getElem hi,Option.bind_some,(qw c h _ _).1]) (by
  unfold Y1 jq
  rw [e]; simp)
 unfold X1
 rw [Zdk,Option.bind_some,Hg ps (by omega) hn,Option.bind_some,yN _ hl,Option.bind_some,kk _ n n1 (by omega),Option.bind_some]
 have h2 : ZD (Y1 ⟨Xm c⟩ (X4 (Jx ps.flatten) n)) (KR,0) = _:=h1
 rw [h2]; rfl
theorem Zc4 (c : GCipher) (h : Yf c = true) (d : List UInt8) (hl : d.length ≤ 10000000) : Ql c d = some (jq c d):=by
 obtain ⟨n,n1,n2⟩:=j0 d
 have e : (Jx d).length / 16 = n:=by omega
 have h1:=z1 (f:=Uy c (X4 (Jx d) n)) (X4 (Jx d) n) (fun (b : Dig) i=>(b,i)) (absV c) KR (t:=jq c d) (by rw [Kj]; omega) (fun i hi=>by
  unfold Uy
  simp only [Int.ofNat_lt,hi,decide_true,if_true,XV,List.getElem?_eq_getElem hi,Option.bind_some,(qw c h _ _).2]) (by
  unfold Uy jq
  rw [e]; simp)
 unfold Ql
 rw [Zb9 _ hl,Option.bind_some,y0 _ n n1 (by omega),Option.bind_some,kV,Option.bind_some]
 have h2 : ZD (Uy c (X4 (Jx d) n)) (KR,0) = _:=h1
 rw [h2]; rfl
theorem Zb5 : Yf (Qp 8) = true:=jm 8 (by omega)
theorem Zda (n : Int) (h : 1 ≤ n ∧ n ≤ 20) : Qo n = some ⟨Xm (Qp n)⟩:=by
 unfold Qo
 rw [zZ,Option.bind_some,jL _ (jm n h)]; rfl
theorem Zdq (d : Dig) : slc d.toList (0 : Int) (32 : Int) = some d.toList:=by
 have h1 : slc d.toList ((0 : Nat) : Int) ((32 : Nat) : Int) = _:=J5 (Nat.zero_le _) (by simp)
 have h2 : slc d.toList (0 : Int) (32 : Int) = _:=h1
 rw [h2,List.drop_zero,List.take_of_length_le (by simp)]
def ltD (a b : Dig) : Bool:=decide (KA a.toList b.toList < 0)
theorem Zax (a b : Dig) : YY a b = some (KA a.toList b.toList):=by
 unfold YY T1
 simp only [Zdq,Option.bind_some]
theorem ya (a b : Dig) : ∀ (k i : Nat),i + k = 32 → ZD (Wj a b) (i : Int) = some (if KA (a.toList.drop i) (b.toList.drop i) = 0 then .nx () else .ex (decide (KA (a.toList.drop i) (b.toList.drop i) < 0)))
 | 0,i,h=>by
  have : i = 32:=by omega
  subst this
  have e1 : a.toList.drop 32 = []:=by simp
  have e2 : b.toList.drop 32 = []:=by simp
  rw [Xb (t:=.nx ()) (by unfold Wj; simp),e1,e2]
  simp [KA]
 | k + 1,i,h=>by
  have hi : i < 32:=by omega
  have e1 : a.toList.drop i = a[i] :: a.toList.drop (i + 1):=by rw [List.drop_eq_getElem_cons (by simp; omega)]; simp
  have e2 : b.toList.drop i = b[i] :: b.toList.drop (i + 1):=by rw [List.drop_eq_getElem_cons (by simp; omega)]; simp
  have ih:=ya a b k (i + 1) (by omega)
  have hst : Wj a b (i : Int) = some (if a[i] = b[i] then .nx ((i + 1 : Nat) : Int) else .ex (.ex (decide (a[i] < b[i])))):=by
   unfold Wj
   simp only [lt32 hi,if_true,WX,Vector.getElem?_eq_getElem hi,Option.bind_some,Xe (show i < 9223372036854775807 by omega)]
   by_cases hab : a[i] = b[i]
   ·simp [hab]
   ·have : (a[i] != b[i]) = true:=by simpa using hab
    simp [hab,this]
  rw [e1,e2]
  unfold KA
  by_cases hab : a[i] = b[i]
  ·rw [if_pos hab] at hst
   rw [Wo hst,ih]
   have n1 : ¬ (a[i] < b[i]):=by rw [hab]; exact UInt8.lt_irrefl _
   have n2 : ¬ (b[i] < a[i]):=by rw [hab]; exact UInt8.lt_irrefl _
   simp only [n1,n2,if_false]
  ·rw [if_neg hab] at hst
   rw [Xb hst]
   by_cases n1 : a[i] < b[i]
   ·simp [n1]
   ·have n2 : b[i] < a[i]:=by
     rw [UInt8.lt_iff_toNat_lt] at n1 ⊢
     have : a[i].toNat ≠ b[i].toNat:=fun e=>hab (UInt8.toNat_inj.1 e)
     omega
    simp [n1,n2]
theorem Zah (a b : Dig) : VG a b = some (ltD a b):=by
 have h:=ya a b 32 0 (by omega)
 have h2 : ZD (Wj a b) 0 = _:=h
 unfold VG ltD
 rw [h2,List.drop_zero,List.drop_zero,Option.bind_some]
 by_cases h0 : KA a.toList b.toList = 0
 ·rw [if_pos h0]
  simp [Fl.el,h0]
 ·rw [if_neg h0]; rfl
def qh (l : List Dig) : Bool:=!((List.range' 1 (l.length - 1)).any fun i=>!ltD (l.getD (i - 1) default) (l.getD i default))
theorem jK (l : List Dig) (hl : l.length < 9223372036854775807) (E : Dig → Dig → Option Bool) (hE : ∀ a b,E a b = some (!ltD a b)) (L : Int → Option (Fl Int (Fl Unit Bool)))
  (hL : ∀ s,L s = if (decide (s < (l.length : Int))) = true then (((idx l (wr (s - 1))).bind fun x=>(idx l s).bind fun y=>E x y : Option Bool).bind fun j10=>if j10 = true then (some (Fl.ex (Fl.ex false))) else (some (Fl.nx (wr (s + 1))))) else (some (Fl.ex (Fl.nx ())))) :
  ((ZD L 1 : Option (Fl Unit Bool)).bind fun j1=>j1.el (fun _=>some true) (fun r=>some r)) = some (qh l):=by
 by_cases h0 : l.length = 0
 ·have : l = []:=List.eq_nil_of_length_eq_zero h0
  subst this
  rw [Xb (t:=.nx ()) (by rw [hL]; simp)]
  rfl
 have h:=JD (f:=L) l.length (fun i=>!ltD (l.getD (i - 1) default) (l.getD i default)) false hl 1 (by omega) (fun i hm hi=>by
  have e : wr ((i : Int) - 1) = ((i - 1 : Nat) : Int):=by rw [YT (by omega)]; omega
  have e1 : i - 1 < l.length:=by omega
  rw [hL,e]
  simp only [Int.ofNat_lt,hi,decide_true,if_true,XV,List.getElem?_eq_getElem hi,List.getElem?_eq_getElem e1,Option.bind_some,hE,List.getD_eq_getElem?_getD,Option.getD_some]
  split <;> rfl) (by rw [hL]; simp)
 have h2 : ZD L 1 = _:=h
 rw [h2,Option.bind_some]
 unfold qh
 cases (List.range' 1 (l.length - 1)).any fun i=>!ltD (l.getD (i - 1) default) (l.getD i default) <;> rfl
theorem qO (l : List Dig) (hl : l.length < 9223372036854775807) : UT l = some (qh l):=by
 unfold UT
 exact jK l hl (fun a b=>(YY a b).bind fun r=>some (decide (r ≥ 0))) (fun a b=>by
  rw [Zax]; unfold ltD
  simp only [Option.bind_some]
  congr 1
  by_cases h : KA a.toList b.toList < 0
  ·have : ¬ (KA a.toList b.toList ≥ 0):=by omega
   simp [h,this]
  ·have : KA a.toList b.toList ≥ 0:=by omega
   simp [h,this]) _ (fun s=>by unfold QP; rfl)
theorem AT (l : List Dig) (hl : l.length < 9223372036854775807) : Wl l = some (qh l):=by
 unfold Wl
 exact jK l hl (fun a b=>(VG a b).bind fun r=>some (!r)) (fun a b=>by rw [Zah]; rfl) _ (fun s=>by unfold U2; rfl)
def digH (d : List UInt8) : Dig:=jq (Qp 8) d
theorem jj (d : List UInt8) (h : d.length ≤ 10000000) : Vt d = some (digH d):=by
 unfold Vt
 rw [kI,Option.bind_some,Zc4 _ Zb5 d h]; rfl
def KY (b : GBlobs) (i : Nat) : Bool:=!decide ((b.Data.getD i []).length ≤ 2000) || !decide ((1 : Int) ≤ b.Counts.getD i 0 ∧ b.Counts.getD i 0 ≤ 1000000) || !decide (digH (b.Data.getD i []) = b.Keys.getD i default)
def KD (b : GBlobs) : Bool:=decide (b.Keys.length ≤ 32) && decide (b.Data.length = b.Keys.length) && decide (b.Counts.length = b.Keys.length) && qh b.Keys && !((List.range' 0 (b.Keys.length - 0)).any (KY b))
theorem Zau (b : GBlobs) (hk : b.Keys.length < 9223372036854775807) : XE ⟨⟨Xm (Qp 8)⟩⟩ b = some (KD b):=by
 unfold XE KD
 by_cases h1 : b.Keys.length ≤ 32
 ·have c1 : ¬ ((b.Keys.length : Int) > 32):=by omega
  by_cases h2 : b.Data.length = b.Keys.length
  ·by_cases h3 : b.Counts.length = b.Keys.length
   ·have c2 : ((b.Data.length : Int) != (b.Keys.length : Int)) = false:=by simp [h2]
    have c3 : ((b.Counts.length : Int) != (b.Keys.length : Int)) = false:=by simp [h3]
    simp only [c1,c2,c3,decide_false,Bool.false_eq_true,if_false,qO b.Keys hk,Option.bind_some,h1,h2,h3,decide_true,Bool.true_and,bne_self_eq_false]
    cases qh b.Keys with
    | false=>simp
    | true =>
     have h:=Jv (f:=YS ⟨⟨Xm (Qp 8)⟩⟩ b) b.Keys.length (KY b) false hk (fun i hi=>by
      have d1 : i < b.Data.length:=by omega
      have d2 : i < b.Counts.length:=by omega
      unfold YS KY QE
      simp only [h2,Int.ofNat_lt,hi,decide_true,if_true,XV,List.getElem?_eq_getElem d1,List.getElem?_eq_getElem d2,List.getElem?_eq_getElem hi,Option.bind_some,QY,List.getD_eq_getElem?_getD,Option.getD_some]
      by_cases g1 : b.Data[i].length ≤ 2000
      ·have g1' : ((b.Data[i].length : Int) ≤ 2000):=by omega
       by_cases g2 : (1 : Int) ≤ b.Counts[i] ∧ b.Counts[i] ≤ 1000000
       ·have hd:=Zbc (Qp 8) Zb5 [b.Data[i]] (by simp; omega) (by simp)
        have ef : ([b.Data[i]] : List (List UInt8)).flatten = b.Data[i]:=by simp
        rw [ef] at hd
        simp only [g1,g1',g2,decide_true,Bool.not_true,Bool.false_eq_true,if_false,hd,Option.bind_some,Bool.false_or,and_self]
        unfold digH
        by_cases g3 : jq (Qp 8) b.Data[i] = b.Keys[i] <;> simp [g3]
       ·simp only [g1,g1',g2,decide_true,decide_false,Bool.not_true,Bool.not_false,Bool.false_eq_true,if_false,if_true,Option.bind_some,Bool.false_or,Bool.true_or]
      ·have g1' : ¬ ((b.Data[i].length : Int) ≤ 2000):=by omega
       simp only [g1,g1',decide_false,Bool.not_false,if_true,Option.bind_some,Bool.true_or]) (by unfold YS; simp [h2]) 0 (Nat.zero_le _)
     have h5 : ZD (YS ⟨⟨Xm (Qp 8)⟩⟩ b) 0 = _:=h
     simp only [Bool.not_true,Bool.false_eq_true,if_false,h5,Option.bind_some,Bool.true_and]
     cases (List.range' 0 (b.Keys.length - 0)).any (KY b) <;> rfl
   ·have c2 : ((b.Data.length : Int) != (b.Keys.length : Int)) = false:=by simp [h2]
    have c3 : ((b.Counts.length : Int) != (b.Keys.length : Int)) = true:=by simp; omega
    simp [c1,c2,c3,h3]
  ·have c2 : ((b.Data.length : Int) != (b.Keys.length : Int)) = true:=by simp; omega
   simp [c1,c2,h2]
 ·have c1 : ((b.Keys.length : Int) > 32):=by omega
  simp [c1,h1]
theorem AV (b : GBlobs) (hk : b.Keys.length < 9223372036854775807) : UW b = some (KD b):=by
 unfold UW Tx
 rw [Zda 8 (by omega),Option.bind_some,Option.bind_some,Zau b hk]; rfl
theorem Zcw (b : GBlobs) (hk : b.Keys.length < 9223372036854775807) : Qe b = some (KD b):=by
 unfold Qe KD
 by_cases h1 : b.Keys.length ≤ 32
 ·have c1 : ¬ ((b.Keys.length : Int) > 32):=by omega
  by_cases h2 : b.Data.length = b.Keys.length
  ·by_cases h3 : b.Counts.length = b.Keys.length
   ·have c2 : ((b.Data.length : Int) != (b.Keys.length : Int)) = false:=by simp [h2]
    have c3 : ((b.Counts.length : Int) != (b.Keys.length : Int)) = false:=by simp [h3]
    simp only [c1,c2,c3,decide_false,Bool.false_eq_true,if_false,AT b.Keys hk,Option.bind_some,h1,h2,h3,decide_true,Bool.true_and,bne_self_eq_false]
    cases qh b.Keys with
    | false=>simp
    | true =>
     have h:=Jv (f:=UA b) b.Keys.length (KY b) false hk (fun i hi=>by
      have d1 : i < b.Data.length:=by omega
      have d2 : i < b.Counts.length:=by omega
      unfold UA KY
      simp only [Int.ofNat_lt,hi,decide_true,if_true,XV,List.getElem?_eq_getElem d1,List.getElem?_eq_getElem d2,List.getElem?_eq_getElem hi,Option.bind_some,List.getD_eq_getElem?_getD,Option.getD_some]
      by_cases g1 : b.Data[i].length ≤ 2000
      ·have g1' : ¬ ((b.Data[i].length : Int) > 2000):=by omega
       by_cases g2 : (1 : Int) ≤ b.Counts[i]
       ·have g2' : ¬ (b.Counts[i] < 1):=by omega
        by_cases g4 : b.Counts[i] ≤ 1000000
        ·have g4' : ¬ (b.Counts[i] > 1000000):=by omega
         simp only [g1,g1',g2,g2',g4,g4',decide_true,decide_false,Bool.not_true,Bool.false_eq_true,if_false,jj b.Data[i] (by omega),Option.bind_some,Bool.false_or,and_self]
         by_cases g3 : digH b.Data[i] = b.Keys[i] <;> simp [g3]
        ·have g4' : b.Counts[i] > 1000000:=by omega
         simp [g1,g1',g2,g2',g4,g4']
       ·have g2' : b.Counts[i] < 1:=by omega
        simp [g1,g1',g2,g2']
      ·have g1' : ((b.Data[i].length : Int) > 2000):=by omega
       simp [g1,g1']) (by unfold UA; simp) 0 (Nat.zero_le _)
     have h5 : ZD (UA b) 0 = _:=h
     simp only [Bool.not_true,Bool.false_eq_true,if_false,h5,Option.bind_some,Bool.true_and]
     cases (List.range' 0 (b.Keys.length - 0)).any (KY b) <;> rfl
   ·have c2 : ((b.Data.length : Int) != (b.Keys.length : Int)) = false:=by simp [h2]
    have c3 : ((b.Counts.length : Int) != (b.Keys.length : Int)) = true:=by simp; omega
    simp [c1,c2,c3,h3]
  ·have c2 : ((b.Data.length : Int) != (b.Keys.length : Int)) = true:=by simp; omega
   simp [c1,c2,h2]
 ·have c1 : ((b.Keys.length : Int) > 32):=by omega
  simp [c1,h1]
instance : Wt GBlobs:=⟨fun x=>Wt.wt x.Keys + (Wt.wt x.Data + Wt.wt x.Counts),fun x=>Wt.ln x.Keys ∧ Wt.ln x.Data ∧ Wt.ln x.Counts,fun x h=>⟨Wt.bdln x.Keys h.1,Wt.bdln x.Data h.2.1,Wt.bdln x.Counts h.2.2⟩,
 fun x h=>⟨Wt.wtln x.Keys (by omega),Wt.wtln x.Data (by omega),Wt.wtln x.Counts (by omega)⟩⟩
theorem jv (x : GBlobs) : Wt.wt x = Wt.wt x.Keys + (Wt.wt x.Data + Wt.wt x.Counts):=rfl
theorem jO (l : List Dig) (h : Wt.wt l ≤ 1048576) : Vw l = some l:=by
 have:=Jc l
 unfold Vw
 have:=QA l Y6 id 32 (Vector.replicate 32 0) (UD l) (fun s=>by unfold UD; rfl) (fun x _=>KU x) (by omega) (by omega)
 simpa using this
theorem km (l : List Int) (h : Wt.wt l ≤ 1048576) : Ui l = some l:=by
 have:=Jc l
 unfold Ui
 have:=QA l (fun x=>some x) id 8 0 (Ts l) (fun s=>by unfold Ts; rfl) (fun _ _=>rfl) (by omega) (by omega)
 simpa using this
theorem jV (l : List Dig) (h : Wt.ln l) : VI l l = some true:=by
 unfold VI
 exact KJ l (fun x y=>(Y5 x y).bind fun r=>some (!r)) (UC l l) (fun s=>by unfold UC; rfl) (fun x _=>by simp [KI x]) (VS h)
theorem jl (l : List Dig) (h : Wt.ln l) : Wp WA l :=
 Ke (fun _=>rfl) WA (fun left=>by unfold WA; rfl) (VS h)
theorem qk (l : List Int) (h : Wt.ln l) : Wp Xx l :=
 Ke (fun _=>rfl) Xx (fun left=>by unfold Xx; rfl) (VS h)
theorem Zat (x : GBlobs) (h : Wt.wt x ≤ 1048576) : UX x = some x:=by
 rw [jv] at h
 unfold UX
 simp [jO x.Keys (by omega),kG x.Data (by omega),km x.Counts (by omega)]
theorem Za2 (x : GBlobs) (h : Wt.ln x) : UR x x = some true:=by
 unfold UR
 simp [jV x.Keys h.1,qn x.Data h.2.1,kX x.Counts h.2.2]
theorem qY (x : GBlobs) (h : Wt.ln x) : Wp VF x:=by
 intro left h1 h2
 have h3 : Wp (fun (y : List Int) r=>(Xx y r).bind fun r=>if decide (r < 0) = true then some (-1) else some r) x.Counts:=fun left h1 h2=>JE (qk x.Counts h.2.2 left h1 h2)
 have h4 : Wp (α:=List (List UInt8) × List Int) (fun y r=>(Wi y.1 r).bind fun r=>if decide (r < 0) = true then some (-1) else (Xx y.2 r).bind fun r=>if decide (r < 0) = true then some (-1) else some r) (x.Data,x.Counts):=fun left h1 h2=>T4 (qb x.Data h.2.1) h3 left h1 h2
 exact T4 (jl x.Keys h.1) h4 left h1 h2
theorem Zdo (x : Vector UInt8 256) : Qk x x = some true:=by
 unfold Qk
 exact A6 x (QG x x) (fun s=>by unfold QG; rfl) (by omega)
theorem qf (x : Vector UInt8 16) : Ug x x = some true:=by
 unfold Ug
 exact A6 x (Tw x x) (fun s=>by unfold Tw; rfl) (by omega)
theorem qc (x : Vector UInt8 4) : Uk x x = some true:=by
 unfold Uk
 exact A6 x (Tz x x) (fun s=>by unfold Tz; rfl) (by omega)
theorem kc (x : Mat) : V9 x x = some true:=by
 unfold V9
 have:=Z3 (f:=WE x x) (fun i : Nat=>(i : Int)) 0 4 (by omega) (t:=.nx ()) (fun i _ hi=>by
  unfold WE
  simp only [lt4 hi,if_true,WX,Vector.getElem?_eq_getElem hi,Option.bind_some,qc,Bool.not_true,Bool.false_eq_true,if_false,wr4 (show i < 1000 by omega)]) (by unfold WE; simp)
 have h2 : ZD (WE x x) 0 = _:=this
 rw [h2]; rfl
theorem qo (c : GCipher) : V2 c c = some true:=by
 unfold V2
 simp [Zdo,kc,qf]
theorem Zcd (x : GDesk) (h1 : Wt.ln x.Data) (h2 : Wt.ln x.Vault) (h3 : Wt.ln x.Blobs) : TJ x x = some true:=by
 unfold TJ
 simp [qo,HP,JC _ h1,Zaq _ h2,Za2 _ h3]

instance : Wt GDesk:=⟨fun x=>Wt.wt x.Data + (Wt.wt x.Vault + Wt.wt x.Blobs),fun x=>Wt.ln x.Data ∧ Wt.ln x.Vault ∧ Wt.ln x.Blobs,fun x h=>⟨Wt.bdln x.Data h.2.2.2.1,Wt.bdln x.Vault h.2.2.2.2.1,Wt.bdln x.Blobs h.2.2.2.2.2⟩,
 fun x h=>⟨Wt.wtln x.Data (by omega),Wt.wtln x.Vault (by omega),Wt.wtln x.Blobs (by omega)⟩⟩
theorem qC (x : GDesk) : Wt.wt x = Wt.wt x.Data + (Wt.wt x.Vault + Wt.wt x.Blobs):=rfl
theorem Zbh (x : GDesk) (h : Wt.wt x ≤ 1048576) : Vi x = some x:=by
 rw [qC] at h
 unfold Vi
 simp [qj,Bv,JB x.Data (by omega),qX x.Vault (by omega),Zat x.Blobs (by omega)]
theorem Zb0 (x : GDesk) (h : Wt.ln x) : Wp QF x:=by
 intro left h1 h2
 have h3 : Wp (fun (y : GBlobs) r=>(VF y r).bind fun r=>if decide (r < 0) = true then some (-1) else some r) x.Blobs:=fun left h1 h2=>JE (qY x.Blobs h.2.2 left h1 h2)
 have h4 : Wp (α:=GVault × GBlobs) (fun y r=>(UM y.1 r).bind fun r=>if decide (r < 0) = true then some (-1) else (VF y.2 r).bind fun r=>if decide (r < 0) = true then some (-1) else some r) (x.Vault,x.Blobs):=fun left h1 h2=>T4 (Zaw x.Vault h.2.1) h3 left h1 h2
 exact T4 (JA x.Data h.1) h4 left h1 h2
def Au (x : GDesk) : Bool:=Yf x.Cipher && (decide ((x.Data.length : Int) ≤ 200) && (TO x.Vault && KD x.Blobs))
theorem zL (x : GDesk) (h : Wt.ln x) (hk : x.Blobs.Keys.length < 9223372036854775807) : TL x = some (Au x):=by
 unfold TL Au
 rw [Zco,zg x.Vault h.2.1,Zcw x.Blobs hk]
 cases Yf x.Cipher <;> cases decide ((x.Data.length : Int) ≤ 200) <;> cases TO x.Vault <;> rfl
theorem zK (x : GDesk) (h : Wt.ln x) (hk : x.Blobs.Keys.length < 9223372036854775807) : TM x = some (Au x):=by
 unfold TM Au
 rw [kZ,zw x.Vault h.2.1,AV x.Blobs hk]
 cases Yf x.Cipher <;> cases decide ((x.Data.length : Int) ≤ 200) <;> cases TO x.Vault <;> rfl
theorem HJ (x : GDesk) (h : Dat.bd x) : Vc x = some true:=by
 unfold Vc
 refine Zdb (Zb0 x (Wt.bdln x h)) (by omega) (by omega) fun r _ _ hw=>?_
 have hw : Wt.wt x ≤ 1048576:=by omega
 have hl:=Wt.wtln x hw
 have hk : x.Blobs.Keys.length < 9223372036854775807:=by
  have:=Jc x.Blobs.Keys
  have h2:=hw
  rw [qC,jv] at h2
  omega
 simp [Zbh x hw,zL x hl hk,zK x hl hk,Zcd x hl.1 hl.2.1 hl.2.2]
end Go.Proofs.YtlpppjjlffgkmaaGreat
